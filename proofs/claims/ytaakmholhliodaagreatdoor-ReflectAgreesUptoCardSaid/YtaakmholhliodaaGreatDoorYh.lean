/- Values of Go as plain data, an evaluator over them, and what the functions of the program return; part Yh. -/
import Derived.Test.YtaakmholhliodaaGreatDoorYa
import Derived.Test.YtaakmholhliodaaGreatDoorYg
import Derived.Test.YtaakmholhliodaaGreatDoorXs
import Derived.Sort.KeysCollected
import Derived.Sort.OwnSorted
import Derived.Maps.AppendAt
import Derived.Maps.RangeWalk
import Derived.WalkKit
import Derived.Tactics
import Derived.KernelRfl
import Derived.Test.YtaakmholhliodaaGreatDoorXe
import Derived.Test.YtaakmholhliodaaGreatDoorXh
set_option linter.unusedSectionVars false
set_option linter.unusedSimpArgs false
set_option linter.unusedVariables false
namespace Go.Proofs.YtaakmholhliodaaGreatDoor
open Go.Proofs.Tryz
open Go.Pv Go.Proofs.Tryz
set_option maxRecDepth 100000
abbrev bdS_I(v:Ex)(j:Int)(out:List Ex)(e:Ext):S:=S.mk [(1,.lp 1 0),(2,.v .nilsl),(3,.uniq 37 7 (Ex.cs out)),(4,vI6 j)] [(1,exV v)] e
def bdS_f  : List Al->(List Ex)->(List Ex)
 | [],out=>(out)
 | el::r,out=>bdS_f  r (out++[alB el])
def bdS_q(v:Ex)(e:Ext)(p:(List Ex)):PExit × S:=(.exit 0,S.mk [(1,.lp 1 0),(2,.v .nilsl),(3,.uniq 37 7 (Ex.cs p))] [(1,exV v)] e)
theorem bdS(v:Ex)(hk:(exK v).length<=1000000000)(hA:(exA v).length<=1000000000)(out:List Ex)(e:Ext)(hN:(exA v).length<=1000000000)(hv:List.length out<=1000000000+0):(Ob.loop 26 (loopF f34 0) (bdS_I v 0 out e) (bdS_q v e (bdS_f  ((exA v))  out)).1 (bdS_q v e (bdS_f  ((exA v))  out)).2).ok prog:=by
 refine rng ((exA v).length) (fun j out=>bdS_I v j out e) (fun i out=>bdS_f  (List.drop i ((exA v)))  out) (bdS_q v e) (fun i out=>(out.length<=1000000000+i)) kR ?_ out (by first | exact hv | omega)
 rintro i out hi hv
 try simp only at hv
 rcases Nat.lt_or_ge i ((exA v).length) with hlt | hge
 ·have hd:=drop_at hlt
  exact lS mdL [sl (Al.cs_len (exA v)),rgAl hlt,am (List.length (Ex.cs out++[List.take ((fun x=>TypeInfo.size x) (Tables.types (Program.toTables prog))[37]) (List.drop (0+Field.offset #[Field.mk "Con" 9 0 false "" "" 0,Field.mk "Names" 30 1 false "" "" 16,Field.mk "Body" 37 2 false "" "" 40][2]) (alL (List.getD (exA v) i default)))]) * (127+1)<=140737488355328) (by (simp only [List.length_append,List.length_cons,List.length_nil,nmsC_len,Tp.cs_len,Pm.cs_len,Ex.cs_len,Al.cs_len]; omega)),wr ((i:Int)+1)] [1,2,3,4] [1] hlt (out++[alB (List.getD (exA v) i default)]) (S.mk [(1,.lp 1 0),(2,.v .nilsl),(3,.uniq 37 7 (Ex.cs out++[List.take (TypeInfo.size (Tables.types (Program.toTables prog))[37]) (List.drop (0+Field.offset #[Field.mk "Con" 9 0 false "" "" 0,Field.mk "Names" 30 1 false "" "" 16,Field.mk "Body" 37 2 false "" "" 40][2]) (alL (List.getD (exA v) i default)))])),(4,vI6 ((i:Int)+1))] [(1,exV v)] e) ⟨⟨W,W,(.inl (by first | (simp only [List.nil_append,nmsC_app,nmsC_snoc,Pr.cs_snoc,Tp.cs_snoc,Ex.cs_snoc,Vr.cs_snoc,Df.cs_snoc]; done) | (simp only [List.nil_append,nmsC_app,nmsC_snoc,Pr.cs_snoc,Tp.cs_snoc,Ex.cs_snoc,Vr.cs_snoc,Df.cs_snoc]; rfl))),W,tVv⟩,⟨Ws,tVv⟩,rfl⟩ (by first | assumption | omega | (apply gEx <;> first | assumption | omega | decide) | (apply gAl <;> first | assumption | omega | decide) | (simp only [List.length_append,List.length_cons,List.length_nil] at *; omega) | simp_all) (by rw [hd,bdS_f])
 ·have he:i=(exA v).length:=by omega
  exact lX mdL [sl (Al.cs_len (exA v)),df ((i:Int)<((exA v).length:Int))] (out) (by rw [he,List.drop_length,bdS_f])
theorem bdT(v:Ex)(hk:(exK v).length<=1000000000)(hA:(exA v).length<=1000000000):Pu 34 [.agg (exL v)] (.own 37 7 (Ex.cs (bdS_f (exA v) (exK v)))):=
 pu mdL (fun e=>[am (List.length ([]++(fun x=>Prod.snd x) (7,Ex.cs (exK v))) * (127+1)<=140737488355328) (by (simp only [List.length_append,List.length_nil,Ex.cs_len]; omega)),lp (S.mk [(1,.lp 1 0),(2,.v .nilsl),(3,.uniq 37 7 ([]++Ex.cs (exK v))),(4,vI6 0)] [(1,exV v)] e) (@bdS v hk hA (exK v) e hA hk) ⟨⟨W,W,(by first | exact .inl rfl | exact .inr ⟨rfl,rfl⟩ | exact .inr rfl | exact .inr trivial | exact .inl (by first | (simp only [List.nil_append,nmsC_app,nmsC_snoc,Pr.cs_snoc,Tp.cs_snoc,Ex.cs_snoc,Vr.cs_snoc,Df.cs_snoc]; done) | (simp only [List.nil_append,nmsC_app,nmsC_snoc,Pr.cs_snoc,Tp.cs_snoc,Ex.cs_snoc,Vr.cs_snoc,Df.cs_snoc]; rfl))),W,tVv⟩,⟨⟨W,W,W,W,W,W,W,tVv⟩,tVv⟩,rfl⟩]) func34
abbrev ndS_I(v:Ex)(ks:List Ex)(nf:Ex->Int)(j:Int)(m:Int)(e:Ext):S:=S.mk [(2,vI6 0),(3,vI6 m),(4,vL 7 (Ex.cs ks)),(5,vI6 j)] [] e
def ndS_f(nf:Ex->Int):List Ex->(Int)->(Int)
 | [],m=>(m)
 | el::r,m=>ndS_f nf r (IntKind.wrap .i64 (m+nf el))
def ndS_q(v:Ex)(ks:List Ex)(nf:Ex->Int)(e:Ext)(p:(Int)):PExit × S:=(.exit 0,S.mk [(2,vI6 0),(3,vI6 p),(4,vL 7 (Ex.cs ks))] [] e)
theorem ndS(v:Ex)(ks:List Ex)(hB:Pu 34 [.agg (exL v)] (.ret (.sl 7 (Ex.cs ks))))(hks:ks.length<=2000000000)(nf:Ex->Int)(hR:∀y:Ex,y∈ks->Pu 14 [.agg (exL y)] (.ret (.int .i64 (nf y))))(m:Int)(e:Ext)(hN:ks.length<=1000000000)  : (Ob.loop 22 (loopF f14 0) (ndS_I v ks nf 0 m e) (ndS_q v ks nf e (ndS_f nf (ks)  m)).1 (ndS_q v ks nf e (ndS_f nf (ks)  m)).2).ok prog:=by
 refine rng ks.length (fun j m=>ndS_I v ks nf j m e) (fun i m=>ndS_f nf (List.drop i (ks))  m) (ndS_q v ks nf e) (fun i m=>True) kR ?_ m trivial
 rintro i m hi -
 rcases Nat.lt_or_ge i (ks.length) with hlt | hge
 ·have hd:=drop_at hlt
  exact lN mdL [sl (Ex.cs_len ks),rgEx hlt,cl (@hR (List.getD ks i default) (by first | exact getD_mem hlt | simp_all)),kp,wr ((i:Int)+1)] hlt (IntKind.wrap .i64 (m+nf (List.getD ks i default))) trivial (by rw [hd,ndS_f])
 ·have he:i=ks.length:=by omega
  exact lX mdL [sl (Ex.cs_len ks),df ((i:Int)<(ks.length:Int))] (m) (by rw [he,List.drop_length,ndS_f])
theorem ndL(v:Ex)(ks:List Ex)(hB:Pu 34 [.agg (exL v)] (.ret (.sl 7 (Ex.cs ks))))(hks:ks.length<=2000000000)(nf:Ex->Int)(hR:∀y:Ex,y∈ks->Pu 14 [.agg (exL y)] (.ret (.int .i64 (nf y))))(hx0:List.length ks<=1000000000):Pu 14 [.agg (exL v)] (rI (ndS_f nf ks 1)):=
 pu mdL (fun e=>[cl hB,lq (@ndS v ks hB hks nf hR 1 e hx0)]) func14
theorem exs_lt(v:Ex):bulkPss (Ex.cs (exK v))+bulkPss (Al.cs (exA v))<bulkPs (exL v):=by simp only [bulkPs,bulkP]; omega
theorem bdS_eq:∀ (bs:List Al) (out:List Ex),bdS_f bs out=out++bs.map alB
 | [],out=>by simp [bdS_f]
 | a::r,out=>by simp [bdS_f,bdS_eq r]
theorem alB_lt(a:Al):bulkPs (exL (alB a))<bulkPs (alL a):=by simp only [bulkPs,bulkP]; omega
theorem bod_lt{v y:Ex}(h:y∈bdS_f (exA v) (exK v)):bulkPs (exL y)<bulkPs (exL v):=by
 have h1:=exs_lt v
 rw [bdS_eq,List.mem_append,List.mem_map] at h
 rcases h with h | ⟨a,h,rfl⟩
 ·have:=Ex.mem h; omega
 ·have:=Al.mem h; have:=alB_lt a; omega
def ndD:Nat->Ex->Int
 | 0,_=>0
 | d+1,v=>ndS_f (ndD d) (bdS_f (exA v) (exK v)) 1
theorem nd_ok:∀ (d:Nat) (v:Ex),bulkPs (exL v)<d->d<=100000001->Pu 14 [.agg (exL v)] (.ret (.int .i64 (ndD d v)))
 | 0,v,h,_=>by omega
 | d+1,v,h,hs=>by
  have h1:=exs_lt v
  have h2:=Ex.bulk (exK v)
  have h3:=Al.bulk (exA v)
  have hl:(bdS_f (exA v) (exK v)).length<=1000000000:=by rw [bdS_eq,List.length_append,List.length_map]; omega
  exact ndL v _ (Ob.pur_unown (bdT v oM oM)) oM (ndD d) (fun y hy=>nd_ok d y (by have:=bod_lt hy; omega) oM) hl
def ndF(v:Ex):Int:=ndD (bulkPs (exL v)+1) v
theorem ndT(v:Ex)(hs:bulkPs (exL v)<=100000000):Pu 14 [.agg (exL v)] (.ret (.int .i64 (ndF v))):=nd_ok _ v (Nat.lt_succ_self _) oM
abbrev ltA_I(v:Ex)(nf:Ex->Int)(j:Int)(n:Int)(e:Ext):S:=S.mk [(1,.lp 1 0),(2,vI6 0),(3,vI6 n),(4,vI6 j)] [(1,exV v)] e
def ltA_f(nf:Ex->Int):List Ex->(Int)->(Int)
 | [],n=>(n)
 | el::r,n=>ltA_f nf r (IntKind.wrap .i64 (n+nf el))
def ltA_q(v:Ex)(nf:Ex->Int)(e:Ext)(p:(Int)):PExit × S:=(.exit 0,S.mk [(1,.lp 1 0),(2,vI6 0),(3,vI6 p)] [(1,exV v)] e)
theorem ltA(v:Ex)(nf:Ex->Int)(hR:∀y:Ex,y∈exK v->Pu 15 [.agg (exL y)] (.ret (.int .i64 (nf y))))(n:Int)(e:Ext)(hN:(exK v).length<=1000000000)  : (Ob.loop 41 (loopF f15 0) (ltA_I v nf 0 n e) (ltA_q v nf e (ltA_f nf ((exK v))  n)).1 (ltA_q v nf e (ltA_f nf ((exK v))  n)).2).ok prog:=by
 refine rng ((exK v).length) (fun j n=>ltA_I v nf j n e) (fun i n=>ltA_f nf (List.drop i ((exK v)))  n) (ltA_q v nf e) (fun i n=>True) kR ?_ n trivial
 rintro i n hi -
 rcases Nat.lt_or_ge i ((exK v).length) with hlt | hge
 ·have hd:=drop_at hlt
  exact lN mdL [sl (Ex.cs_len (exK v)),rgEx hlt,cl (@hR (List.getD (exK v) i default) (by first | exact getD_mem hlt | simp_all)),kp,wr ((i:Int)+1)] hlt (IntKind.wrap .i64 (n+nf (List.getD (exK v) i default))) trivial (by rw [hd,ltA_f])
 ·have he:i=(exK v).length:=by omega
  exact lX mdL [sl (Ex.cs_len (exK v)),df ((i:Int)<((exK v).length:Int))] (n) (by rw [he,List.drop_length,ltA_f])
abbrev ltB_I(v:Ex)(nf:Ex->Int)(j:Int)(n:Int)(e:Ext):S:=S.mk [(1,.lp 1 0),(2,vI6 0),(3,vI6 n),(5,vI6 j)] [(1,exV v)] e
def ltB_f(nf:Ex->Int):List Al->(Int)->(Int)
 | [],n=>(n)
 | el::r,n=>ltB_f nf r (IntKind.wrap .i64 (n+nf (alB el)))
def ltB_q(v:Ex)(nf:Ex->Int)(e:Ext)(p:(Int)):PExit × S:=(.exit 2,S.mk [(1,.lp 1 0),(2,vI6 0),(3,vI6 p)] [(1,exV v)] e)
theorem ltB(v:Ex)(nf:Ex->Int)(hR:∀y:Ex,y∈exK v->Pu 15 [.agg (exL y)] (.ret (.int .i64 (nf y))))(hS:∀y:Al,y∈exA v->Pu 15 [.agg (exL (alB y))] (.ret (.int .i64 (nf (alB y)))))(hM:(exK v).length<=1000000000)(n:Int)(e:Ext)(hN:(exA v).length<=1000000000)  : (Ob.loop 41 (loopF f15 1) (ltB_I v nf 0 n e) (ltB_q v nf e (ltB_f nf ((exA v))  n)).1 (ltB_q v nf e (ltB_f nf ((exA v))  n)).2).ok prog:=by
 refine rng ((exA v).length) (fun j n=>ltB_I v nf j n e) (fun i n=>ltB_f nf (List.drop i ((exA v)))  n) (ltB_q v nf e) (fun i n=>True) kR ?_ n trivial
 rintro i n hi -
 rcases Nat.lt_or_ge i ((exA v).length) with hlt | hge
 ·have hd:=drop_at hlt
  exact lN mdL [sl (Al.cs_len (exA v)),rgAl hlt,cl (@hS (List.getD (exA v) i default) (by first | exact getD_mem hlt | simp_all)),kp,wr ((i:Int)+1)] hlt (IntKind.wrap .i64 (n+nf (alB (List.getD (exA v) i default)))) trivial (by rw [hd,ltB_f])
 ·have he:i=(exA v).length:=by omega
  exact lX mdL [sl (Al.cs_len (exA v)),df ((i:Int)<((exA v).length:Int))] (n) (by rw [he,List.drop_length,ltB_f])
def ltL_r0(v:Ex)(nf:Ex->Int):Int:=(if exO v=7 then (ltB_f nf (exA v) (ltA_f nf (exK v) 1)) else (ltB_f nf (exA v) (ltA_f nf (exK v) 0)))
theorem ltL(v:Ex)(nf:Ex->Int)(hR:∀y:Ex,y∈exK v->Pu 15 [.agg (exL y)] (.ret (.int .i64 (nf y))))(hS:∀y:Al,y∈exA v->Pu 15 [.agg (exL (alB y))] (.ret (.int .i64 (nf (alB y)))))(hM:(exK v).length<=1000000000)(hN:(exA v).length<=1000000000):Pu 15 [.agg (exL v)] (rI (ltL_r0 v nf)):=by
 by_cases h0:exO v=7
 ·simp only [ltL_r0,iP h0]; exact pu mdL (fun e=>[et1 h0,lq (@ltA v nf hR 1 e hM),lq (@ltB v nf hR hS hM (ltA_f nf (exK v) 1) e hN)]) func15
 ·simp only [ltL_r0,iN h0]; exact pu mdL (fun e=>[en1 h0,lq (@ltA v nf hR 0 e hM),lq (@ltB v nf hR hS hM (ltA_f nf (exK v) 0) e hN)]) func15
def ltD:Nat->Ex->Int
 | 0,_=>0
 | d+1,v=>ltL_r0 v (ltD d)
theorem lt_ok:∀ (d:Nat) (v:Ex),bulkPs (exL v)<d->d<=100000001->Pu 15 [.agg (exL v)] (.ret (.int .i64 (ltD d v)))
 | 0,v,h,_=>by omega
 | d+1,v,h,hs=>ltL v (ltD d) (fun y hy=>lt_ok d y (by have h1:=exs_lt v; have:=Ex.mem hy; omega) oM) (fun y hy=>lt_ok d (alB y) (by have h1:=exs_lt v; have:=Al.mem hy; have:=alB_lt y; omega) oM) (by have h1:=exs_lt v; have:=Ex.bulk (exK v); omega) (by have h1:=exs_lt v; have:=Al.bulk (exA v); omega)
def ltF(v:Ex):Int:=ltD (bulkPs (exL v)+1) v
theorem ltT(v:Ex)(hs:bulkPs (exL v)<=100000000):Pu 15 [.agg (exL v)] (.ret (.int .i64 (ltF v))):=lt_ok _ v (Nat.lt_succ_self _) oM
abbrev liA_I(m:Mo)(j:Int)(e:Ext):S:=S.mk [(1,.lp 1 0),(3,vI6 j)] [(1,moV m)] e
inductive liA_R where
 | e0
 | e1
def liA_f  : List Df->liA_R
 | []=>(liA_R.e1)
 | el::r=>(if ndF (dfB el)>100 then (liA_R.e0) else (if ((dfP el).length:Int)>8 then (liA_R.e0) else (if ltF (dfB el)>6 then (liA_R.e0) else liA_f  r)))
def liA_q(m:Mo)(e:Ext):liA_R->PExit × S
 | .e0=>(.ret,S.mk [(1,.lp 1 0),(2,.v (.bool false))] [(1,moV m)] e)
 | .e1=>(.exit 0,S.mk [(1,.lp 1 0)] [(1,moV m)] e)
theorem liA_lp(m:Mo)(hq1:¬((moF m).length:Int)>9)(hR:∀w:Df,w∈moF m->Pu 14 [.agg (exL (dfB w))] (.ret (.int .i64 (ndF (dfB w)))))(hS:∀w:Df,w∈moF m->Pu 15 [.agg (exL (dfB w))] (.ret (.int .i64 (ltF (dfB w)))))(e:Ext)(hN:(moF m).length<=1000000000):(Ob.loop 43 (loopF f6 0) (liA_I m 0  e) (liA_q m e (liA_f  ((moF m)))).1 (liA_q m e (liA_f  ((moF m)))).2).ok prog:=by
 refine rng ((moF m).length) (fun j _=>liA_I m j  e) (fun i _=>liA_f  (List.drop i ((moF m)))) (liA_q m e) (fun i _=>True) kR ?_ () trivial
 rintro i u hi -
 rcases Nat.lt_or_ge i ((moF m).length) with hlt | hge
 ·have hd:=drop_at hlt
  refine t0 ?_;refine tp [sl (Df.cs_len (moF m)),rgDf hlt,cl (@hR (List.getD (moF m) i default) (by simp_all))] ?_;by_cases h0:ndF (dfB (List.getD (moF m) i default))>100
  ·exact tX mdL [rp 9 (dt1 h0),rp 10 (bt true)] (liA_R.e0) (by rw [hd,liA_f,iP h0])
  ·refine tp [rp 4 (df1 h0),mxDf (moF m) (i:Int),xDf (moF m) i hlt,rp 3 (df1 h0),sl (nmsC_len (dfP (List.getD (moF m) i default))),rp 2 (df1 h0)] ?_;by_cases h1:((dfP (List.getD (moF m) i default)).length:Int)>8
   ·exact tX mdL [rp 9 (dt1 h1),bt true] (liA_R.e0) (by rw [hd,liA_f,iN h0,iP h1])
   ·refine tp [rp 4 (df1 h1),mxDf (moF m) (i:Int),xDf (moF m) i hlt,rp 3 (df1 h1),cl (@hS (List.getD (moF m) i default) (by simp_all)),rp 2 (df1 h1)] ?_;by_cases h2:ltF (dfB (List.getD (moF m) i default))>6
    ·exact tX mdL [dt1 h2] (liA_R.e0) (by rw [hd,liA_f,iN h0,iN h1,iP h2])
    ·exact tN mdL [df1 h2,wr ((i:Int)+1)] hlt () trivial (by rw [hd,liA_f,iN h0,iN h1,iN h2])
 ·have he:i=(moF m).length:=by omega
  exact lX mdL [sl (Df.cs_len (moF m)),df ((i:Int)<((moF m).length:Int))] (liA_R.e1) (by rw [he,List.drop_length,liA_f])
section
variable (m:Mo) (hR:∀w:Df,w∈moF m->Pu 14 [.agg (exL (dfB w))] (.ret (.int .i64 (ndF (dfB w))))) (hS:∀w:Df,w∈moF m->Pu 15 [.agg (exL (dfB w))] (.ret (.int .i64 (ltF (dfB w)))))
include m hR hS
theorem liL_1(hx0:((moF m).length:Int)>9):Pu 6 [.agg (moL m)] (rB false):=
 pm mdL [sl (Df.cs_len (moF m)),dt1 hx0] func6
theorem liL_2(hx0:¬((moF m).length:Int)>9)(hx1:liA_f (moF m)=liA_R.e0):Pu 6 [.agg (moL m)] (rB false):=
 pu mdL (fun e=>[sl (Df.cs_len (moF m)),df1 hx0,lq (rz (liA_lp (m) hx0 hR hS (e) oM) hx1)]) func6
theorem liL_3(hx0:¬((moF m).length:Int)>9)(hx1:liA_f (moF m)=liA_R.e1):Pu 6 [.agg (moL m)] (rB true):=
 pu mdL (fun e=>[sl (Df.cs_len (moF m)),df1 hx0,lq (rz (liA_lp (m) hx0 hR hS (e) oM) hx1)]) func6
end
theorem agW(m:Mo)(hlg:Pu 6 [.agg (moL m)] (.ret (.bool false)))(haw:Pu 7 [] (.ret (.bool true))):Pu 4 [.agg (moL m)] (rB true):=
 pm mdL [cl hlg,bt true,cl haw] func4
abbrev agA_I(m:Mo)(sn:BA)(se:Int)(cf:Df->List Pr × List Pr × Int)(j:Int)(e:Ext):S:=S.mk [(1,.lp 1 0),(3,vS sn),(4,vI6 se),(5,vI6 j)] [(1,moV m)] e
inductive agA_R where
 | e0
 | e1
 | e2
def agA_f(sn:BA)(se:Int)(cf:Df->List Pr × List Pr × Int):List Df->agA_R
 | []=>(agA_R.e2)
 | el::r=>(if dfM el=2 then (if Prod.snd (Prod.snd (cf el))=6 then (if se=6 then (if sn=dfNm el then (agA_R.e0) else (agA_R.e1)) else (agA_R.e1)) else agA_f sn se cf r) else agA_f sn se cf r)
def agA_q(m:Mo)(sn:BA)(se:Int)(cf:Df->List Pr × List Pr × Int)(e:Ext):agA_R->PExit × S
 | .e0=>(.ret,S.mk [(1,.lp 1 0),(3,vS sn),(4,vI6 se),(2,.v (.bool true))] [(1,moV m)] e)
 | .e1=>(.ret,S.mk [(1,.lp 1 0),(3,vS sn),(4,vI6 se),(2,.v (.bool false))] [(1,moV m)] e)
 | .e2=>(.exit 0,S.mk [(1,.lp 1 0),(3,vS sn),(4,vI6 se)] [(1,moV m)] e)
theorem agA_lp(m:Mo)(sn:BA)(se:Int)(hck:Pu 12 [.agg (moL m)] (.ret (.tup [.str sn,.int .i64 se])))(hlg:Pu 6 [.agg (moL m)] (.ret (.bool true)))(haw:Pu 7 [] (.ret (.bool true)))(cf:Df->List Pr × List Pr × Int)(hca:∀d:Df,d∈moF m->Pu 13 [.agg (moL m),.agg (dfL d)] (.ret (.tup [.sl 4 (Pr.cs (cf d).1),.sl 4 (Pr.cs (cf d).2.1),.int .i64 (cf d).2.2])))(e:Ext)(hN:(moF m).length<=1000000000):(Ob.loop 69 (loopF f4 0) (agA_I m sn se cf 0  e) (agA_q m sn se cf e (agA_f sn se cf ((moF m)))).1 (agA_q m sn se cf e (agA_f sn se cf ((moF m)))).2).ok prog:=by
 refine rng ((moF m).length) (fun j _=>agA_I m sn se cf j  e) (fun i _=>agA_f sn se cf (List.drop i ((moF m)))) (agA_q m sn se cf e) (fun i _=>True) kR ?_ () trivial
 rintro i u hi -
 rcases Nat.lt_or_ge i ((moF m).length) with hlt | hge
 ·have hd:=drop_at hlt
  refine t0 ?_;refine tp [sl (Df.cs_len (moF m)),rgDf hlt] ?_;by_cases h0:dfM (List.getD (moF m) i default)=2
  ·refine tp [nn1 h0,mxDf (moF m) (i:Int),xDf (moF m) i hlt,cl (@hca (List.getD (moF m) i default) (by simp_all [Bool.not_eq_true,Bool.not_eq_false]))] ?_;by_cases h1:Prod.snd (Prod.snd (cf (List.getD (moF m) i default)))=6
   ·refine tp [et1 h1] ?_;by_cases h2:se=6
    ·refine tp [rp 5 (et1 h2),mxDf (moF m) (i:Int),xDf (moF m) i hlt,rp 4 (et1 h2)] ?_;by_cases h3:sn=dfNm (List.getD (moF m) i default)
     ·exact tX mdL [bt (ByteArray.toList sn==ByteArray.toList (dfNm (List.getD (moF m) i default))) (bsT h3),cl haw,bt (ByteArray.toList sn==ByteArray.toList (dfNm (List.getD (moF m) i default))) (bsT h3)] (agA_R.e0) (by rw [hd,agA_f,iP h0,iP h1,iP h2,iP h3])
     ·exact tX mdL [rp 2 (bf (ByteArray.toList sn==ByteArray.toList (dfNm (List.getD (moF m) i default))) (bsF h3))] (agA_R.e1) (by rw [hd,agA_f,iP h0,iP h1,iP h2,iN h3])
    ·exact tX mdL [rp 9 (en1 h2),rp 2 (bf false)] (agA_R.e1) (by rw [hd,agA_f,iP h0,iP h1,iN h2])
   ·exact tN mdL [en1 h1,wr ((i:Int)+1)] hlt () trivial (by rw [hd,agA_f,iP h0,iN h1])
  ·exact tN mdL [nt1 h0,wr ((i:Int)+1)] hlt () trivial (by rw [hd,agA_f,iN h0])
 ·have he:i=(moF m).length:=by omega
  exact lX mdL [sl (Df.cs_len (moF m)),df ((i:Int)<((moF m).length:Int))] (agA_R.e2) (by rw [he,List.drop_length,agA_f])
section
variable (m:Mo) (sn:BA) (se:Int) (hck:Pu 12 [.agg (moL m)] (.ret (.tup [.str sn,.int .i64 se]))) (hlg:Pu 6 [.agg (moL m)] (.ret (.bool true))) (haw:Pu 7 [] (.ret (.bool true))) (cf:Df->List Pr × List Pr × Int) (hca:∀d:Df,d∈moF m->Pu 13 [.agg (moL m),.agg (dfL d)] (.ret (.tup [.sl 4 (Pr.cs (cf d).1),.sl 4 (Pr.cs (cf d).2.1),.int .i64 (cf d).2.2]))) (hN:(moF m).length<=1000000000)
include m sn se hck hlg haw cf hca hN
theorem agL_1(hx0:agA_f sn se cf (moF m)=agA_R.e0):Pu 4 [.agg (moL m)] (rB true):=
 pu mdL (fun e=>[cl hlg,bf false,cl hck,lq (rz (agA_lp (m) (sn) (se) hck hlg haw (cf) hca (e) hN) hx0)]) func4
theorem agL_3(hx0:agA_f sn se cf (moF m)=agA_R.e2)(hx1:se=0)(hx2:sn=ByteArray.mk #[]):Pu 4 [.agg (moL m)] (rB true):=
 pu mdL (fun e=>[cl hlg,bf false,cl hck,lq (rz (agA_lp (m) (sn) (se) hck hlg haw (cf) hca (e) hN) hx0),rp 3 (et1 hx1),bt (ByteArray.toList sn==ByteArray.toList nm0) (bsT hx2),cl haw,bt (ByteArray.toList sn==ByteArray.toList nm0) (bsT hx2)]) func4
end
theorem ag1(m:Mo){d:Df}:∀l:List Df,ckA_f (frF m) l = .e0 d->agA_f (dfNm d) 6 (caF m) l = .e0
 | [],h=>by cases h
 | x::r,h=>by
  rw [ckA_f] at h
  rw [agA_f]
  split at h
  ·rename_i h2
   rw [iP h2]
   split at h
   ·rename_i h3
    injection h with h
    subst h
    rw [iP ((ca_6 m _ h2).2 h3),iP rfl,iP rfl]
   ·rename_i h3
    rw [iN (fun e=>h3 ((ca_6 m _ h2).1 e))]
    exact ag1 m r h
  ·rename_i h2
   rw [iN h2]
   exact ag1 m r h
theorem ag2(m:Mo)(sn:BA)(se:Int):∀l:List Df,ckA_f (frF m) l = .e1->agA_f sn se (caF m) l = .e2
 | [],_=>rfl
 | x::r,h=>by
  rw [ckA_f] at h
  rw [agA_f]
  split at h
  ·rename_i h2
   rw [iP h2]
   split at h
   ·cases h
   ·rename_i h3
    rw [iN (fun e=>h3 ((ca_6 m _ h2).1 e))]
    exact ag2 m sn se r h
  ·rename_i h2
   rw [iN h2]
   exact ag2 m sn se r h
theorem agrees_true(m:Mo)(hs:bulkPs (moL m)<=2000000)(haw:Pu 7 [] (.ret (.bool true))):Pu 4 [.agg (moL m)] (.ret (.bool true)):=by
 have hB:=moF_blk m
 have hb:∀w∈moF m,bulkPs (dfL w)<=2000000:=fun w hw=>by have:=Df.mem hw; omega
 have hR:∀w:Df,w∈moF m->Pu 14 [.agg (exL (dfB w))] (.ret (.int .i64 (ndF (dfB w)))):=fun w hw=>ndT _ (by have:=hb w hw; have:=df_le w; omega)
 have hS:∀w:Df,w∈moF m->Pu 15 [.agg (exL (dfB w))] (.ret (.int .i64 (ltF (dfB w)))):=fun w hw=>ltT _ (by have:=hb w hw; have:=df_le w; omega)
 by_cases h9:((moF m).length:Int)>9
 ·exact agW m (liL_1 m hR hS h9) haw
 cases hf:liA_f (moF m) with
 | e0=>exact agW m (liL_2 m hR hS h9 hf) haw
 | e1=>
  have hlg:=liL_3 m hR hS h9 hf
  have hck:=ckT m oM
  have hca:∀d:Df,d∈moF m->Pu 13 [.agg (moL m),.agg (dfL d)] (.ret (.tup [.sl 4 (Pr.cs (caF m d).1),.sl 4 (Pr.cs (caF m d).2.1),.int .i64 (caF m d).2.2])):=fun d hd=>caT m d oM (by have:=hb d hd; omega)
  unfold ckF at hck
  cases hc:ckA_f (frF m) (moF m) with
  | e0 d=>
   rw [hc] at hck
   exact agL_1 m _ _ hck hlg haw (caF m) hca oM (ag1 m _ hc)
  | e1=>
   rw [hc] at hck
   exact agL_3 m _ _ hck hlg haw (caF m) hca oM (ag2 m _ _ _ hc) rfl rfl
open Go.RowKit Go.Maps Go.Sort
theorem pu9:Tryz.prog.underlying 9=some .string:=by kernel_rfl
theorem u4:Tryz.prog.underlying 4=some .bool:=by kernel_rfl
theorem u30:Tryz.prog.underlying 30=some (.slice 9):=by kernel_rfl
theorem u191:Tryz.prog.underlying 191=some (.map 9 4):=by kernel_rfl
theorem law9:Keyed Tryz.prog 9:=string_keyed pu9
theorem info9:(Tryz.prog.info? 9).map (fun i=>(i.zero,i.size,i.bytes))=some (some (.string ⟨#[]⟩),1,16):=by kernel_rfl
structure BB where
 b:Bool
theorem plainElem_bool_inv{H:Type}{v:Value}{y:DataW H × List MemPlace}(h:plainElem Tryz.prog 4 v=some y):∃c:BB,v = .bool c.b:=by
 unfold plainElem at h
 rw [u4] at h
 cases v <;> simp at h
 exact ⟨⟨_⟩,rfl⟩
set_option maxRecDepth 100000 in
set_option maxHeartbeats 1000000 in
theorem sorted_any{H:Type}(bs b n:Nat)(D0:DataW H)(w:World)(hset:w.cell? ⟨bs,0,none⟩=some (.map (some b)))(hown:w.ownsMap Tryz.prog 9 (plainElem Tryz.prog 4) b n D0)(hbytes:16 * Maps.size D0<=140737488355328) :
  Calls Tryz.prog 114 #[.pointer (some ⟨bs,0,none⟩)] w fun e w'=>∃ (v:Value) (ss:List (List UInt8)),e = .returned v/\ss.Perm (strKeys D0) /\
   w'.ownsRow w.heap.size 9 1 v ss.length ((ss.mergeSort (fun x y=>decide (x<=y))).map encStr)/\Below w.heap.size w w':=by
 obtain ⟨i0,hi,hz0,hz1,hz2⟩:=info_parts info9
 have hbl:=hown.lt
 go_enter Tryz.func114,Tryz.ntmps114
 go_wp2_with (first
  | (at_range; refine wpList_range_own _ rfl _ 191 rfl 9 4 law9 u191 _ b n _ rfl hown ?_; intro w0 hrg0 hg0 hs0)
  | go_in)
 go_frame
 go_loopw [3] (fun v wr=>∃ (left:Lit->Bool) (cnt:Nat) (ss:List (List UInt8)),wr.ranges Tryz.prog 9 (plainElem Tryz.prog 4) b w.heap.size n D0 left cnt/\ss.length+cnt<=Maps.size D0 /\
   wr.ownsRow w.heap.size 9 1 v ss.length (ss.map encStr)/\Collected D0 left ss/\Below w.heap.size w wr)
  (fun _ wr=>wr.rangeLeft b w.heap.size)
 case atStart=>
  exact ⟨_,_,[],hrg0,by simp,⟨rfl,.inl ⟨rfl,rfl⟩⟩,Collected.start D0,(Below.refl _ _).grown hg0 (Nat.le_refl _) (fun j hj=>by cases hj)⟩
 case round=>
  obtain ⟨left,cnt,ss,hrg,hcs,hrow,hC,hnx⟩:=hrel
  go_wp2_with (first
   | (at_next; refine wpList_next_ranges _ rfl _ rfl 9 law9 (plainElem Tryz.prog 4) encStr (fun c:BB=>Value.bool c.b) (fun key kl hk=>by obtain ⟨x,hx,_⟩:=Maps.keyOf_str pu9 hk; exact ⟨x,hx⟩) (fun v y hv=>plainElem_bool_inv hv) b w.heap.size n _ _ _ rfl hrg ?_ ?_)
   | go_in)
  ·-- nothing is left
   intro hc0 hl0
   rcases hrow.2 with ⟨hnil,hn0⟩ | ⟨g,cap,cur,rfl,hbase,hb,h1,h2,h3,h4⟩
   ·subst hnil
    have hss:ss=[]:=List.eq_nil_of_length_eq_zero hn0
    subst hss
    have hc:=Tryz.slices_Sort_string_none none 0 wr
    go_wp2_with (go_at_call 137; refine hc.mono ?_; rintro e w' ⟨rfl,rfl⟩)
    go_ret
    exact ⟨_,[],rfl,hC.perm hown law9 pu9 hl0,by simpa using hrow,hnx⟩
   ·have hH:Holds encStr wr g 0 ss.toArray:=holds_of_block hb (by simpa using h4)
    have hgl:g<wr.heap.size:=(Array.getElem?_eq_some_iff.1 hb).1
    have hc:=Tryz.slices_Sort_string g 0 cap ss wr hH hgl (by omega)
    go_wp2_with (go_at_call 137; refine hc.mono ?_; rintro e w' ⟨rfl,nn,os,rfl⟩)
    go_ret
    exact ⟨_,ss,rfl,hC.perm hown law9 pu9 hl0,ownsRow_sorted (by simp) hbase hb h1 h2 h3,hnx.grown (grownBy_sorted _) hnx.size (fun j hj=>by cases hj; exact hbase)⟩
  ·-- an entry has come
   intro x c kl yd yp w2 cnt2 hkey hlk hv hat hrg2 hlt hg2 hs2 hen
   obtain ⟨x',ex,rfl,_⟩:=Maps.keyOf_str pu9 hkey
   obtain rfl:x=x':=encStr_inj ex
   have hrow2:=hrow.kept hg2 (Or.inr (row_ne_iter hrow hrg).symm)
   clear hs2
   go_wp2_with (first
    | (at_builtin; refine wpList_append_own _ rfl _ _ 30 rfl w.heap.size 9 i0 (.string ⟨#[]⟩) 1 16 u30 hi hz0 hz1 hz2 rfl (by decide) _ _ _ rfl (hrow2.alloc _) ⟨w2.heap.size,0,none⟩ 1 1 [encStr x] rfl rfl (cell_one_new _ _ _) (by simp [Value.oneCell',encStr]) (by unfold maxLen at *; omega) (by omega) (by have:=hnx.size; have:=hg2.size; simp; omega) ?_; intro v' w3 hown' hg3 hnil3; go_frame)
    | go_in)
   have hrg3:=(hrg2.alloc _).kept hg3 (row_ne_low hrow2 hbl) (row_ne_iter hrow2 hrg2)
   go_roundw
   case rel=>
    refine ⟨_,cnt2,ss++[x],hrg3,by simp; omega,by simpa using hown',hC.step hlk hat,?_⟩
    exact ((hnx.grown hg2 hnx.size (fun j hj=>by cases hj; exact Nat.le_refl _)).alloc (by have:=hnx.size; have:=hg2.size; omega) _).grown hg3 (by have:=hnx.size; have:=hg2.size; simp; omega) (fun j hj=>(hrow2.lt j hj).1)
   case measure=>rw [hrg3.left_eq,hrg.left_eq]; exact hlt
open Go.RowKit Go.Maps Go.Sort Go.Pv
open Go.WideElems (Fit rd rg)
theorem mono_bel{g:Gh}{w w':World}(hb:Below w.heap.size w w'):Mono g w g w':=by
 refine ⟨fun _ _ h=>h,fun b o v hc hf=>⟨?_,hf⟩,fun b cur e hh=>⟨cur,?_,rfl⟩,fun _ _ _ h=>h,fun b arr clk hh hm=>⟨(hb.block b (Array.getElem?_eq_some_iff.1 hh).1).trans hh,hm⟩⟩
 ·have hlt:b<w.heap.size:=by
   unfold World.cell? at hc
   cases hh:w.heap[b]? with
   | none=>simp [hh] at hc
   | some x=>exact (Array.getElem?_eq_some_iff.1 hh).1
  rw [<-hc]
  exact World.cell?_of_block (hb.block b hlt)
 ·exact (hb.block b (Array.getElem?_eq_some_iff.1 hh).1).trans hh
theorem ent_bel{e:Ext}{g:Gh}{l:LG}{w w':World}(he:Ent e g l w)(hb:Below w.heap.size w w'):Ent e g l w' where
 ex x cs hx:=by
  obtain ⟨b,h1,h2,hE⟩:=he.ex x cs hx
  refine ⟨b,h1,h2,?_⟩
  have hm:Mono g w g w':=mono_bel hb
  have hh:=hb.block b (he.olt b _ h2)
  rcases hE with ⟨h3,cur,te,h4,h5,h6⟩ | hE
  ·refine .inl ⟨h3,cur,te,hh.trans h4,h5,fun j hj=>⟨(h6 j hj).1,(h6 j hj).2.1,?_⟩⟩
   exact (h6 j hj).2.2.keep hm (fun _ _ _=>rfl) fun b' hu=>⟨hu,rfl,hb.block b' (he.olt b' _ (he.uo _ b' hu))⟩
  ·exact .inr (hE.keep hm (fun _ _ _ h=>h) rfl hh)
 olt b o ho:=Nat.lt_of_lt_of_le (he.olt b o ho) hb.size
 uo:=he.uo
 fresh:=⟨fun b h=>he.fresh.1 b (Nat.le_trans hb.size h),he.fresh.2⟩
 xlt n b h:=Nat.lt_of_lt_of_le (he.xlt n b h) hb.size
 only:=he.only
 glb:=he.glb.mono (mono_bel hb)
def sortB(l:List ByteArray):List ByteArray:=((l.map fun x=>x.data.toList).mergeSort leB).map fun x=>⟨x.toArray⟩
theorem rep_names{g:Gh}{w:World}{base:Nat}{v:Value}{n:Nat}{ts:List (List UInt8)}(h:w.ownsRow base 9 1 v n (ts.map encStr))(hfix:∀b,base<=b->g.M b=none):Rep g w (.sl 1 ((ts.map fun x=>(⟨x.toArray⟩:ByteArray)).map fun s=>[.str s])) v:=by
 obtain ⟨h0,h1⟩:=h
 simp only [List.length_map,Nat.mul_one] at h0
 rcases h1 with ⟨rfl,hn⟩ | ⟨b,cap,cur,rfl,hbase,hb,h1,h2,h3,h4⟩
 ·have:ts=[]:=List.eq_nil_of_length_eq_zero (h0.trans hn)
  subst this
  exact .slnil 1
 ·subst h0
  have hlen:((ts.map fun x=>(⟨x.toArray⟩:ByteArray)).map fun s=>[PV.str s]).length=ts.length:=by simp
  have hat:∀i,i<ts.length->cur[i]?=some (encStr (ts.getD i [])):=fun i hi=>by
   have:=congrArg (·[i]?) h4
   simp only [Nat.mul_one,List.getElem?_map] at this
   rw [List.getElem?_take_of_lt hi] at this
   simp only [Array.getElem?_toList] at this
   rw [this]
   simp [List.getD,List.getElem?_eq_getElem hi]
  have:=Rep.sl (g:=g) (w:=w) 1 ((ts.map fun x=>(⟨x.toArray⟩:ByteArray)).map fun s=>[PV.str s]) ⟨b,0,none⟩ cap (fun i _=>encStr (ts.getD i [])) (by rw [hlen]; exact h1) h2 (by simp) ?_ ?_ ?_ ?_
  ·rw [hlen] at this; exact this
  ·intro i j hi hj
   rw [hlen] at hi
   have hj0:j=0:=by omega
   subst hj0
   have e1:(Addr.add ⟨b,0,none⟩ (i * 1+0))=⟨b,i,none⟩:=by unfold Addr.add; simp; intro h; exact h.symm
   rw [e1]
   simp [World.cell?,hb,hat i hi]
  ·intro i j hi hj k hk
   rw [hfix b hbase] at hk
   cases hk
  ·intro i j hi hj; rfl
  ·intro i j hi hj
   have hj0:j=0:=by simp at hj; exact hj
   subst hj0
   rw [hlen] at hi
   simp only [List.getElem_map,List.getElem_cons_zero,List.getD,List.getElem?_eq_getElem hi,Option.getD_some]
   exact .str _
theorem sorted_ok(n k:Nat)(e:Ext)(es:List (ByteArray × PV))(hn:lk e n=some [.v (.mp k)])(hk:lk e k=some [.mm (.s es)])(hv:∀x∈es,∃b,x.2 = .bool b)(hs:∀x∈es,x.1.size<=maxLen)(hc:16 * es.length<=140737488355328) :
  (Ob.eff 114 [.xp n 0] e (.ret (.sl 1 ((sortB (es.map (·.1))).map fun s=>[.str s]))) e).ok Tryz.prog:=by
 refine ⟨by kernel_rfl,fun vs g l w ha he=>?_⟩
 obtain ⟨v,vs',rfl,hr,ha'⟩:=ha.inv_cons
 obtain rfl:=ha'.inv_nil
 obtain ⟨bs,hbs,hobs,hE⟩:=he.ex n _ hn
 obtain ⟨bm,hbm,hobm,hEm⟩:=he.ex k _ hk
 replace hbs:g.X n=some bs:=hbs
 replace hbm:g.X k=some bm:=hbm
 have hv0:v = .pointer (some ⟨bs,0,none⟩):=by
  cases hr with
  | xp _ _ b h=>rw [hbs] at h; injection h with h; rw [h]
 subst hv0
 have hset:w.cell? ⟨bs,0,none⟩=some (.map (some bm)):=by
  rcases hE with ⟨h3,cur,te,h4,h5,h6⟩ | ⟨es2,hi,-⟩ | ⟨n0,c0,ps0,-,e0,-⟩
  rotate_left
  ·exact hi.elim
  ·injection e0 with e0 _; cases e0
  ·have h7:=(h6 0 (by simp)).2.2
   have h8:Rep g w (.mp k) (cur.getD 0 undef):=h7
   have h9:cur.getD 0 undef = .map (some bm):=by
    generalize cur.getD 0 undef=u at h8
    cases h8 with
    | mp _ b h=>rw [hbm] at h; injection h with h; rw [h]
   have h10:0<cur.size:=by simp at h5; omega
   have h11:cur[0]?=some (.map (some bm)):=by
    rw [<-h9]
    simp [Array.getD,h10]
   simp [World.cell?,h4,h11]
 obtain ⟨arr,clock,hh,hst,hsz,hents⟩:∃arr clock,w.heap[bm]?=some (.map arr clock)/\MapR Value.string g w es arr clock:=by
  rcases hEm with ⟨h3,cur,te,h4,h5,h6⟩ | ⟨es2,hi,hB⟩ | ⟨n0,c0,ps0,-,e0,-⟩
  rotate_right
  ·injection e0 with e0 _; cases e0
  ·exact ((h6 0 (by simp)).2.2).elim
  ·have:MM.s es=es2:=hi
   subst this
   obtain ⟨hM,arr,clock,h1,h2⟩:=hB
   exact ⟨arr,clock,h1,h2⟩
 have hrd:∀j (h:j<es.length) (h':j<arr.size),∃b,rd (H:=Unit) Tryz.prog 9 (plainElem Tryz.prog 4) arr[j]=some (.string es[j].1.data.toList,.lit (.bool b)):=fun j hj hj'=>by
  obtain ⟨h1,h2⟩:=hents j hj hj'
  obtain ⟨b,hb⟩:=hv es[j] (List.getElem_mem hj)
  rw [hb] at h2
  have h3:arr[j].val = .bool b:=by generalize arr[j].val=u at h2; cases h2; rfl
  refine ⟨b,?_⟩
  have h4:keyOf Tryz.prog 9 arr[j].key=some (.string es[j].1.data.toList):=by
   rw [h1]
   simp [keyOf,mapKey,pu9,hs es[j] (List.getElem_mem hj)]
  have h5:plainElem (H:=Unit) Tryz.prog 4 arr[j].val=some (.lit (.bool b),[]):=by
   rw [h3]
   simp [plainElem,u4]
  exact by simp [WideElems.rd,h4,h5]
 have hown:w.ownsMap (H:=Unit) Tryz.prog 9 (plainElem Tryz.prog 4) bm arr.size (.map ((arr.toList.map (rg Tryz.prog 9 (plainElem Tryz.prog 4))).foldr DataW.insert [])):=by
  refine ⟨arr,clock,hh,⟨?_,hst,fun x hx=>?_⟩,Nat.le_refl _,rfl⟩
  ·unfold maxLen; omega
  ·obtain ⟨j,hj,e1⟩:=List.getElem_of_mem hx
   have hj':j<arr.size:=by simpa using hj
   obtain ⟨b,hb⟩:=hrd j (by omega) hj'
   have e2:arr[j]=x:=by simpa using e1
   rw [e2] at hb
   exact ⟨_,hb⟩
 have hperm:(strKeys (DataW.map ((arr.toList.map (rg (H:=Unit) Tryz.prog 9 (plainElem Tryz.prog 4))).foldr DataW.insert []))).Perm (es.map fun x=>x.1.data.toList):=by
  show List.Perm (List.map (fun (p:Lit × DataW Unit)=>strOf p.1) _) _
  have h1:=(WideShapes.sorted_perm (arr.toList.map (rg (H:=Unit) Tryz.prog 9 (plainElem Tryz.prog 4)))).map fun (p:Lit × DataW Unit)=>strOf p.1
  refine h1.trans (List.Perm.of_eq ?_)
  apply List.ext_getElem
  ·simp [hsz]
  ·intro j hj hj'
   have hja:j<arr.size:=by simpa using hj
   have hje:j<es.length:=by omega
   obtain ⟨b,hb⟩:=hrd j hje hja
   simp only [List.getElem_map,Array.getElem_toList]
   rw [WideElems.rg_of hb]
   rfl
 have hsize:Maps.size (DataW.map ((arr.toList.map (rg (H:=Unit) Tryz.prog 9 (plainElem Tryz.prog 4))).foldr DataW.insert []))=es.length:=by
  have:=hperm.length_eq
  simpa [strKeys,Maps.size_eq] using this
 refine (sorted_any bs bm arr.size _ w hset hown (by rw [hsize]; exact hc)).mono ?_
 rintro en w' ⟨v,ss,rfl,hp,hrow,hbel⟩
 refine ⟨_,e,g,l,⟨rfl,rfl⟩,?_,ent_bel he hbel,mono_bel hbel,hbel.size,fun b hb _=>⟨hbel.block b hb,rfl⟩,fun b o ho => .inr (by rw [ho]; rfl),hbel.os,hbel.tape,hbel.output⟩
 show Rep g w' _ v
 have e1:ss.mergeSort leB=(es.map fun x=>x.1.data.toList).mergeSort leB:=mergeSort_of_perm (hp.trans hperm)
 have hrow':w'.ownsRow w.heap.size 9 1 v ss.length ((ss.mergeSort leB).map encStr):=hrow
 rw [e1] at hrow'
 have:=rep_names (g:=g) hrow' fun b hb=>he.fresh.1 b hb
 unfold sortB
 have e2:(es.map (·.1)).map (fun x:ByteArray=>x.data.toList)=es.map fun x=>x.1.data.toList:=by simp
 rw [e2]
 exact this
open Go.Pv
def mapO(f:List PV->Option Pr):List (List PV)->Option (List Pr)
 | []=>some []
 | c::r=>match f c with
  | some p=>(match mapO f r with
   | some l=>some (p::l)
   | none=>none)
  | none=>none
def toPr:Nat->List PV->Option Pr
 | 0,_=>none
 | k+1,cs=>match cs with
  | [.int .i64 o,.str nm,.int .i64 n,.nilsl]=>some (.mk o nm n [])
  | [.int .i64 o,.str nm,.int .i64 n,.sl 4 es]=>(match mapO (toPr k) es with
   | some l=>some (.mk o nm n l)
   | none=>none)
  | _=>none
theorem mapO_ok{f:List PV->Option Pr}(hf:∀cs p,f cs=some p->WkL cs (prL p)):∀ (es:List (List PV)) (l:List Pr),mapO f es=some l->WkLL es (Pr.cs l)
 | [],l,h=>by simp only [mapO,Option.some.injEq] at h; subst h; exact WkLL.r _
 | c::r,l,h=>by
  simp only [mapO] at h
  split at h
  ·rename_i p hp
   split at h
   ·rename_i l' hl
    simp only [Option.some.injEq] at h
    subst h
    rw [show Pr.cs (p::l')=prL p::Pr.cs l' by simp [Pr.cs_eq]]
    exact WkLL.c (hf _ _ hp) (mapO_ok hf r l' hl)
   ·cases h
  ·cases h
theorem toPr_ok:∀ (k:Nat) (cs:List PV) (p:Pr),toPr k cs=some p->WkL cs (prL p)
 | 0,_,_,h=>by cases h
 | k+1,cs,p,h=>by
  simp only [toPr] at h
  split at h
  ·simp only [Option.some.injEq] at h
   subst h
   exact WkL.c (.r _) (WkL.c (.r _) (WkL.c (.r _) (WkL.c (.n 4) (WkL.r _))))
  ·split at h
   ·rename_i l hl
    simp only [Option.some.injEq] at h
    subst h
    exact WkL.c (.r _) (WkL.c (.r _) (WkL.c (.r _) (WkL.c (Wk.s (mapO_ok (toPr_ok k) _ _ hl)) (WkL.r _))))
   ·cases h
  ·cases h
def knA:Orc:=fun f args e=>if f=33 then (match args with
 | [.agg cs]=>(match toPr 50 cs with
  | some p=>if bulkPs (prL p)<=100000000 then some (.ret (.int .i64 (pcE p)),e) else none
  | none=>none)
 | _=>none) else none
abbrev nA:ByteArray:=⟨#[108,111,111,112]⟩
abbrev nB:ByteArray:=⟨#[110]⟩
def knS(n:Nat)(e:Ext):Option (CRes × Ext):=match lk e n with
 | some [.v (.mp k)]=>(match lk e k with
  | some [.mm (.s [(a,.bool true),(b,.bool true)])]=>if a=nA/\b=nB then some (.ret (.sl 1 [[.str nA],[.str nB]]),e) else none
  | _=>none)
 | _=>none
def knB:Orc:=fun f args e=>if f=114 then (match args with
 | [.xp n 0]=>knS n e
 | _=>none) else knA f args e
theorem knA_ok:OrcOK Tryz.prog knA:=by
 intro f args e r e' h
 unfold knA at h
 split at h
 ·rename_i hf
  subst hf
  split at h
  ·rename_i cs
   split at h
   ·rename_i p hp
    split at h
    ·rename_i hs
     simp only [Option.some.injEq,Prod.mk.injEq] at h
     obtain ⟨rfl,rfl⟩:=h
     have:=Ob.pur_arg (WkL.c (Wk.a (toPr_ok _ _ _ hp)) (WkL.r [])) (pcT p hs)
     exact ⟨this.1,this.2 e⟩
    ·cases h
   ·cases h
  ·cases h
 ·cases h
theorem srt2:sortB [nA,nB]=[nA,nB]:=by
 unfold sortB
 rw [List.mergeSort_of_pairwise (by simp; decide)]
 rfl
theorem knB_ok:OrcOK Tryz.prog knB:=by
 intro f args e r e' h
 unfold knB at h
 split at h
 ·rename_i hf
  subst hf
  split at h
  ·rename_i n
   unfold knS at h
   split at h
   ·rename_i k hn
    split at h
    ·rename_i a b hk
     split at h
     ·rename_i hab
      obtain ⟨rfl,rfl⟩:=hab
      simp only [Option.some.injEq,Prod.mk.injEq] at h
      obtain ⟨rfl,rfl⟩:=h
      have:=sorted_ok n k e [(nA,.bool true),(nB,.bool true)] hn hk (fun x hx=>by
       simp only [List.mem_cons,List.not_mem_nil,or_false] at hx
       rcases hx with rfl | rfl <;> exact ⟨_,rfl⟩) (fun x hx=>by
       simp only [List.mem_cons,List.not_mem_nil,or_false] at hx
       rcases hx with rfl | rfl <;> decide) (by decide)
      rw [show ([(nA,PV.bool true),(nB,PV.bool true)].map (·.1))=[nA,nB] from rfl,srt2] at this
      exact this
     ·cases h
    ·cases h
   ·cases h
  ·cases h
 ·exact knA_ok _ _ _ _ _ h
def modA:List (Nat × Nat × Bool):=[(60,61,false),(32,4,false),(32,29,true),(32,37,true),(32,84,true),(32,87,false),(32,132,false),(22,9,true),(24,4,true),(24,9,true),(24,29,true),(24,30,false),(24,109,false),(91,3,false),(61,29,true),(61,37,true),(61,84,true),(50,29,true),(82,171,false),(110,193,false)]
def mdAw(f:FuncId):Md:=⟨fun t=>match modA.find? fun x=>x.1==f&&x.2.1==t with
 | some (_,_,true)=>some true
 | some (_,_,false)=>none
 | none=>some false,fun t=>(f==23&&t==27)||(f==45&&t==35)⟩
theorem awL:(Ob.pur 7 [] (.ret (.bool true))).ok Tryz.prog:=Ob.pur_of_known knB knB_ok mdAw 60 60 mixed (by kernel_rfl) rfl rfl
theorem agrees_all(m:Mo)(hs:bulkPs (moL m)<=2000000):Pu 4 [.agg (moL m)] (.ret (.bool true)):=agrees_true m hs awL
end Go.Proofs.YtaakmholhliodaaGreatDoor
