/- What the law says of pure values. -/
import Derived.Test.YtgonmmckkikmaaaGreatXq
import Derived.Test.YtgonmmckkikmaaaGreatXp
import Derived.Test.YtgonmmckkikmaaaGreatUa
import Derived.Test.YtgonmmckkikmaaaGreatUb
import Derived.Test.YtgonmmckkikmaaaGreatXw
set_option linter.unusedSectionVars false
set_option linter.unusedSimpArgs false
set_option linter.unusedVariables false
namespace Go.Proofs.YtgonmmckkikmaaaGreat
open Go.Pv Tryz
set_option maxRecDepth 100000
section
variable (d0 d1 d2 d3 d4:List (List PV)) (z0 z1 z2 z3 z4:Nat) (l:List Df)
end
section
variable (d0 d1 d2 d3 d4:List (List PV)) (z0 z1 z2 z3 z4:Nat) (l:List Df)
end
theorem wX(s:BA):Pu 85 [.str s] (rA (x4 3 s 0 [])):=
 Ob.pur_wk (Wk.a (kr (kr (kr (kn 7 (kn 10 (kn 9 (kn 9 (WkL.r _))))))))) (pm mdL [] func85)
theorem wN(k:Int):Pu 83 [pI k] (rA (x4 1 nm0 k [])):=
 Ob.pur_wk (Wk.a (kr (kr (kr (kn 7 (kn 10 (kn 9 (kn 9 (WkL.r _))))))))) (pm mdL [] func83)
theorem wSet(a0 b0 a2 b2:Int)(a1 b1:BA)(a3 a4 a5 a6 b3 b4 b5 b6:List (List PV)):Pu 84 [.agg [pI a0,.str a1,pI a2,.sl 7 a3,.sl 10 a4,.sl 9 a5,.sl 9 a6],.agg [pI b0,.str b1,pI b2,.sl 7 b3,.sl 10 b4,.sl 9 b5,.sl 9 b6]] (rA (x4 24 nm0 0 [[pI a0,.str a1,pI a2,.sl 7 a3,.sl 10 a4,.sl 9 a5,.sl 9 a6],[pI b0,.str b1,pI b2,.sl 7 b3,.sl 10 b4,.sl 9 b5,.sl 9 b6]])):=
 Ob.pur_wk (Wk.a (kr (kr (kr (kr (kn 10 (kn 9 (kn 9 (WkL.r _))))))))) (pm mdL [] func84)
theorem wSetN(a0 b0 a2 b2:Int)(a1 b1:BA)(a3 a4 a5 a6 b3:List (List PV)):Pu 84 [.agg [pI a0,.str a1,pI a2,.sl 7 a3,.sl 10 a4,.sl 9 a5,.sl 9 a6],.agg [pI b0,.str b1,pI b2,.sl 7 b3,.nilsl,.nilsl,.nilsl]] (rA (x4 24 nm0 0 [[pI a0,.str a1,pI a2,.sl 7 a3,.sl 10 a4,.sl 9 a5,.sl 9 a6],(x4 b0 b1 b2 b3)])):=
 Ob.pur_wk (Wk.a (kr (kr (kr (WkL.c (Wk.s (WkLL.c (WkL.r _) (WkLL.c (kr (kr (kr (kr (kn 10 (kn 9 (kn 9 (WkL.r _)))))))) (WkLL.r _)))) (kn 10 (kn 9 (kn 9 (WkL.r _))))))))) (pm mdL [] func84)
theorem wGet(a0 a2:Int)(a1:BA)(a3 a4 a5 a6:List (List PV)):Pu 86 [.agg [pI a0,.str a1,pI a2,.sl 7 a3,.sl 10 a4,.sl 9 a5,.sl 9 a6]] (rA (x4 23 nm0 0 [[pI a0,.str a1,pI a2,.sl 7 a3,.sl 10 a4,.sl 9 a5,.sl 9 a6]])):=
 Ob.pur_wk (Wk.a (kr (kr (kr (kr (kn 10 (kn 9 (kn 9 (WkL.r _))))))))) (pm mdL [] func86)
theorem wLet(s:BA)(a0 b0 a2 b2:Int)(a1 b1:BA)(a3 a4 a5 a6 b3 b4 b5 b6:List (List PV)):Pu 87 [.str s,.agg [pI a0,.str a1,pI a2,.sl 7 a3,.sl 10 a4,.sl 9 a5,.sl 9 a6],.agg [pI b0,.str b1,pI b2,.sl 7 b3,.sl 10 b4,.sl 9 b5,.sl 9 b6]] (rA (x4 7 s 0 [[pI a0,.str a1,pI a2,.sl 7 a3,.sl 10 a4,.sl 9 a5,.sl 9 a6],[pI b0,.str b1,pI b2,.sl 7 b3,.sl 10 b4,.sl 9 b5,.sl 9 b6]])):=
 Ob.pur_wk (Wk.a (kr (kr (kr (kr (kn 10 (kn 9 (kn 9 (WkL.r _))))))))) (pm mdL [] func87)
theorem wLetN(s:BA)(a0 b0 a2 b2:Int)(a1 b1:BA)(a3 b3 b4 b5 b6:List (List PV)):Pu 87 [.str s,.agg [pI a0,.str a1,pI a2,.sl 7 a3,.nilsl,.nilsl,.nilsl],.agg [pI b0,.str b1,pI b2,.sl 7 b3,.sl 10 b4,.sl 9 b5,.sl 9 b6]] (rA (x4 7 s 0 [(x4 a0 a1 a2 a3),[pI b0,.str b1,pI b2,.sl 7 b3,.sl 10 b4,.sl 9 b5,.sl 9 b6]])):=
 Ob.pur_wk (Wk.a (kr (kr (kr (WkL.c (Wk.s (WkLL.c (kr (kr (kr (kr (kn 10 (kn 9 (kn 9 (WkL.r _)))))))) (WkLL.r _))) (kn 10 (kn 9 (kn 9 (WkL.r _))))))))) (pm mdL [] func87)
theorem wSample  : Pu 57 [] (rA [.sl 4 [],.sl 3 [],.sl 12 [],.sl 8 [],.sl 6 [],.sl 25 [[.str (bM 102),.sl 1 [[.str (bM 117)]],pI 7,.str (bM 99),pI 0,.sl 7 [(x4 22 nm0 0 [(x4 1 nm0 1 [])]),(x4 7 (bM 100) 0 [(x4 24 nm0 0 [(x4 3 (bM 99) 0 []),(x4 1 nm0 2 [])]),(x4 23 nm0 0 [(x4 3 (bM 99) 0 [])])])],.sl 10 [],.sl 9 [],.sl 9 [],pI 0,.bool false,.sl 1 [],.sl 2 [],.sl 2 [],.sl 10 [],pI 0,.str nm0,.sl 9 [],.sl 1 [],pI 0,.str nm0,pI 0,.sl 4 [],.sl 4 [],.sl 4 []],[.str (ByteArray.mk #[117,112]),.sl 1 [[.str (bM 99)]],pI 24,.str nm0,pI 0,.sl 7 [(x4 3 (bM 99) 0 []),(x4 10 nm0 0 [(x4 23 nm0 0 [(x4 3 (bM 99) 0 [])]),(x4 1 nm0 1 [])])],.sl 10 [],.sl 9 [],.sl 9 [],pI 0,.bool false,.sl 1 [],.sl 2 [],.sl 2 [],.sl 10 [],pI 0,.str nm0,.sl 9 [],.sl 1 [],pI 0,.str nm0,pI 0,.sl 4 [],.sl 4 [],.sl 4 []]]]):=
 Ob.pur_wk (Wk.a (kn 4 (kn 3 (kn 12 (kn 8 (kn 6 (WkL.c (Wk.s (WkLL.c (kr (kr (kr (kr (kr (kr (kr (kr (kr (kr (kr (kn 1 (kn 2 (kn 2 (kn 10 (kr (kr (kn 9 (kn 1 (kr (kr (kr (kn 4 (kn 4 (kn 4 (WkL.r _)))))))))))))))))))))))))) (WkLL.c (kr (kr (kr (kr (kr (kr (kr (kr (kr (kr (kr (kn 1 (kn 2 (kn 2 (kn 10 (kr (kr (kn 9 (kn 1 (kr (kr (kr (kn 4 (kn 4 (kn 4 (WkL.r _)))))))))))))))))))))))))) (WkLL.r _)))) (WkL.r _)))))))) (pm mdL [cl (@wN (1)),rp 2 (cl (@wX (bM 99))),cl (@wGet (3) (0) (bM 99) ([]) ([]) ([]) ([])),cl (@wN (1)),cl (@wSetN (3) (10) (0) (0) (bM 99) nm0 ([]) ([]) ([]) ([]) ([(x4 23 nm0 0 [(x4 3 (bM 99) 0 [])]),(x4 1 nm0 1 [])])),cl (@wX (bM 99)),cl (@wN (2)),cl (@wSet (3) (1) (0) (2) (bM 99) nm0 ([]) ([]) ([]) ([]) ([]) ([]) ([]) ([])),cl (@wX (bM 99)),cl (@wGet (3) (0) (bM 99) ([]) ([]) ([]) ([])),cl (@wLet (bM 100) (24) (23) (0) (0) nm0 nm0 ([(x4 3 (bM 99) 0 []),(x4 1 nm0 2 [])]) ([]) ([]) ([]) ([(x4 3 (bM 99) 0 [])]) ([]) ([]) ([])),cl (@wLetN (bM 99) (22) (7) (0) (0) nm0 (bM 100) ([(x4 1 nm0 1 [])]) ([(x4 24 nm0 0 [(x4 3 (bM 99) 0 []),(x4 1 nm0 2 [])]),(x4 23 nm0 0 [(x4 3 (bM 99) 0 [])])]) ([]) ([]) ([]))] func57)
abbrev wF:BA:=ByteArray.mk #[102]
abbrev wU:BA:=ByteArray.mk #[117]
abbrev wC:BA:=ByteArray.mk #[99]
abbrev wD:BA:=ByteArray.mk #[100]
abbrev wUp:BA:=ByteArray.mk #[117,112]
abbrev wkV(s:BA):Ex := .mk 3 s 0 [] [] [] []
abbrev wkN(k:Int):Ex := .mk 1 nm0 k [] [] [] []
abbrev wk1(op:Int)(a:Ex):Ex := .mk op nm0 0 [a] [] [] []
abbrev wk2(op:Int)(s:BA)(a b:Ex):Ex := .mk op s 0 [a,b] [] [] []
abbrev wBf:Ex:=wk2 7 wC (wk1 22 (wkN 1)) (wk2 7 wD (wk2 24 nm0 (wkV wC) (wkN 2)) (wk1 23 (wkV wC)))
abbrev wBu:Ex:=wk2 24 nm0 (wkV wC) (wk2 10 nm0 (wk1 23 (wkV wC)) (wkN 1))
abbrev wL:List Df:=[.mk wF [wU] wBf 0 false [] (.sl 2 []) (.sl 2 []) (.sl 10 []) default [],.mk wUp [wC] wBu 0 false [] (.sl 2 []) (.sl 2 []) (.sl 10 []) default []]
abbrev wP:PV:=mdM ⟨.sl 4 [],.sl 3 [],.sl 12 [],.sl 8 [],.sl 6 []⟩ wL
theorem w_nx:PV.noX wP=true:=by kernel_rfl
theorem w_sm:SmL wL:=SmL_bulk (Nat.le_of_ble_eq_true kR)
theorem w_bo:∀d∈wL,szE (dfB d)<=1048576:=by
 intro d hd
 rcases List.mem_cons.1 hd with rfl | hd
 ·exact Nat.le_of_ble_eq_true kR
 ·rcases List.mem_cons.1 hd with rfl | hd
  ·exact Nat.le_of_ble_eq_true kR
  ·cases hd
theorem w_sample:Pu 57 [] (.ret wP):=wSample
theorem w_call(args:List Vl)(name:BA)(i:Nat)(o:Co)(ha:Nat.ble (bulkPss (Vl.cs args)) 1000=true)(hd:findD name wL=some (wL.getD i default))(h:evc cS wL 9 40 (.call (wL.getD i default) (plVs args []).1) ⟨0,(plVs args []).2,0⟩ nm0=some o) :
  Pu 28 [wP,.str name,.sl 7 (Vl.cs args),.int .i64 9] (.ret (.tup [.agg (otL (coV o) (coE o) (coW o) o.st.n),.int .i64 o.st.s.length]))/\Pu 31 [wP,.str name,.sl 7 (Vl.cs args),.int .i64 9] (.ret (.int .i64 o.st.w)):=by
 have hb:=Nat.le_of_ble_eq_true ha
 have h1:=vals_bulk args
 have h2:=cnVs_bulk args
 have hc:Cal wL 9 name (plVs args []).1 (plVs args []).2 o := .inr ⟨_,hd,evc_ok _ _ _ _ _ h⟩
 exact ⟨(cCall_ok ⟨_,_,_,_,_⟩ wL 9 w_nx w_sm w_bo (SmVs_bulk oM) (BoVs_bulk oM) oM dD dD oM hc).2,cWri_ok ⟨_,_,_,_,_⟩ wL 9 w_nx w_sm w_bo (SmVs_bulk oM) (BoVs_bulk oM) oM dD dD oM hc⟩
abbrev wCell(n:Int):Vl := .mk 4 n nm0 [] [] [] []
abbrev wA(k n:Int):PV := .sl 7 [[.int .i64 k,.int .i64 n,.str nm0,.nilsl,.nilsl,.nilsl,.nilsl]]
theorem w_arg(k n:Int):Wk (wA k n) (.sl 7 (Vl.cs [.mk k n nm0 [] [] [] []])) := .s (.c (.c (.r _) (.c (.r _) (.c (.r _) (.c (.n 7) (.c (.n 1) (.c (.n 7) (.c (.n 8) (.r _)))))))) (.r _))
theorem w1:Pu 28 [wP,.str wF,wA 1 0,.int .i64 9] (.ret (.tup [.agg (otL (vI 2) 0 nm0 1),.int .i64 1])):=
 Ob.pur_arg (.c (.r _) (.c (.r _) (.c (w_arg 1 0) (.r _)))) (w_call [vI 0] wF 0 (.ok [vI 2] ⟨1,[2],1⟩) kR kR kR).1
theorem w2:Pu 28 [wP,.str wUp,wA 4 4,.int .i64 9] (.ret (.tup [.agg (otL (wCell 5) 0 nm0 1),.int .i64 1])):=
 Ob.pur_arg (.c (.r _) (.c (.r _) (.c (w_arg 4 4) (.r _)))) (w_call [wCell 4] wUp 1 (.ok [wCell 0] ⟨1,[5],1⟩) kR kR kR).1
theorem w3:Pu 31 [wP,.str wF,wA 1 0,.int .i64 9] (.ret (.int .i64 1)):=
 Ob.pur_arg (.c (.r _) (.c (.r _) (.c (w_arg 1 0) (.r _)))) (w_call [vI 0] wF 0 (.ok [vI 2] ⟨1,[2],1⟩) kR kR kR).2
theorem awake31  : Pu 24 [] (rB true):=
 pm mdL [cl w_sample,cl w1,cl w_sample,cl w2,rp 14 (bt true),cl w_sample,rp 2 (bt true),cl w3,rp 23 (bt true)] func24
inductive In where
 | mk (nm:BA) (tp:Tp) (nd:PV) (ds:List Df)
def inNm:In->BA
 | .mk a _ _ _=>a
def inTp:In->Tp
 | .mk _ a _ _=>a
def inNd:In->PV
 | .mk _ _ a _=>a
def inDs:In->List Df
 | .mk _ _ _ a=>a
instance:Inhabited In:=⟨.mk nm0 default (.sl 0 []) []⟩
abbrev inL(x:In):List PV := .str (inNm x)::(tpL (inTp x)++[inNd x,.sl 25 (dfsC (inDs x))])
def insC:List In->List (List PV)
 | []=>[]
 | x::r=>inL x::insC r
theorem insC_eq(l:List In):insC l=l.map inL:=by induction l with | nil=>rfl | cons x r ih=>simp [insC,ih]
theorem insC_len(l:List In):(insC l).length=l.length:=by simp [insC_eq]
theorem insC_at{l:List In}{i:Nat}(h:i<l.length):(insC l).getD i []=inL (l.getD i default):=by rw [insC_eq]; simp [List.getD,h]
abbrev szI(d0 d1 d3 d4:List (List PV))(z0 z1 z3 z4:Nat)(ins:List In)(l:List Df)(out:List Df)(i:Int)(ext:Ext):S:=⟨[(1,.lp 1 0),(3,.v (.int .i64 0)),(4,.uniq 88 25 (dfsC out)),(5,.v (.int .i64 i))],[(1,[.v (.sl z0 d0),.v (.sl z1 d1),.v (.sl 12 (insC ins)),.v (.sl z3 d3),.v (.sl z4 d4),.v (.sl 25 (dfsC l))])],ext⟩
section
variable (d0 d1 d3 d4:List (List PV)) (z0 z1 z3 z4:Nat) (ins:List In) (l:List Df) (out:List Df)
include d0 d1 d3 d4 z0 z1 z3 z4 ins l out
theorem szRd(i:Nat)(xe:Ext)(hi:i<ins.length)(hi0:ins.length<=1000000)(hs:out.length+(inDs (ins.getD i default)).length<=300000000000)(cx:Cx)(hcx:cx.n=47){Q:PExit->S->Prop}(hq:Q (.normal) (S.mk [(1,.lp 1 0),(3,vI6 0),(4,.uniq 88 25 (dfsC out++dfsC (inDs (List.getD ins i default)))),(5,vI6 ((i:Int)+1))] [(1,[vL z0 d0,vL z1 d1,vL 12 (insC ins),vL z3 d3,vL z4 d4,vL 25 (dfsC l)])] xe)):PW prog cx (loopF f55 0) (szI d0 d1 d3 d4 z0 z1 z3 z4 ins l out (i:Int) xe) Q:=
 pw mdL 47 [sl (insC_len ins),dt ((i:Int)<(ins.length:Int)),am ((0:Int)<=(i:Int)/\(i:Int)<((insC ins).length:Int)) (by (simp only [insC_len]; omega)),ar (List.getD (insC ins) (Int.toNat (i:Int)) []) (inL (List.getD ins i default)) (by simp only [Int.toNat_natCast]; rw [@insC_at (ins) (i) hi]; try rfl),am (List.length (dfsC out++(fun x=>Prod.snd x) (25,dfsC (inDs (List.getD ins i default)))) * (455+1)<=140737488355328) qZ,wr ((i:Int)+1)] [1,3,4,5] [1] hcx hq
theorem szZ(xe:Ext)(cx:Cx)(hcx:cx.n=47){Q:PExit->S->Prop}(hq:Q (.exit 0) (S.mk [(1,.lp 1 0),(3,vI6 0),(4,.uniq 88 25 (dfsC out)),(5,vI6 (ins.length:Int))] [(1,[vL z0 d0,vL z1 d1,vL 12 (insC ins),vL z3 d3,vL z4 d4,vL 25 (dfsC l)])] xe)):PW prog cx (loopF f55 0) (szI d0 d1 d3 d4 z0 z1 z3 z4 ins l out (ins.length:Int) xe) Q:=
 pw mdL 47 [sl (insC_len ins),df ((ins.length:Int)<(ins.length:Int))] [1,3,4,5] [1] hcx hq
end
abbrev sz2_I(d0:List (List PV))(d1:List (List PV))(d3:List (List PV))(d4:List (List PV))(z0:Nat)(z1:Nat)(z3:Nat)(z4:Nat)(ins:List In)(l:List Df)(dl:List Df)(j:Int)(m:Int)(e:Ext):S:=S.mk [(3,vI6 m),(4,.uniq 88 25 (dfsC dl)),(6,vI6 j)] [] e
section
variable (d0 d1 d3 d4:List (List PV)) (z0 z1 z3 z4:Nat) (ins:List In) (l:List Df) (dl:List Df) (hlp:∀xe:Ext,(Ob.loop 47 (loopF f55 0) (szI d0 d1 d3 d4 z0 z1 z3 z4 ins l l 0 xe) (.exit 0) ⟨[(3,.v (.int .i64 0)),(4,.uniq 88 25 (dfsC dl))],[],xe⟩).ok prog) (hwn:∀w,w∈dl->Pu 9 [.agg (exL (dfB w))] (.ret (.int .i64 (nodes (dfB w))))) (i:Nat) (m:Int) (e:Ext)
include d0 d1 d3 d4 z0 z1 z3 z4 ins l dl hlp hwn i m e
theorem sz2_b1(hi:i<dl.length)(hN:dl.length<=1000000000)(hx0:¬dfM (List.getD dl i default)=1)(cx:Cx)(hcx:cx.n=47){Q:PExit->S->Prop}(hq:Q (.normal) (S.mk [(3,vI6 (IntKind.wrap .i64 (m+nodes (dfB (List.getD dl i default))))),(4,.uniq 88 25 (dfsC dl)),(6,vI6 ((i:Int)+1))] [] e)):PW prog cx (loopF f55 1) (sz2_I d0 d1 d3 d4 z0 z1 z3 z4 ins l dl (i:Int) m e) Q:=
 pw mdL 47 [sl (dfsC_len dl),dt ((i:Int)<(dl.length:Int)),am ((0:Int)<=(i:Int)/\(i:Int)<((dfsC dl).length:Int)) qZ,xDf dl i hi,nt1 hx0,am ((0:Int)<=(i:Int)/\(i:Int)<((dfsC dl).length:Int)) qZ,xDf dl i hi,cl (@hwn (List.getD dl i default) (by simp_all [insC_len,List.length_map,List.length_append,List.length_cons,List.length_nil,Ex.cs_len,Vl.cs_len,Al.cs_len,Bd.cs_len,nmsC_len,pmsC_len,Tp.cs_len,dfsC_len,Pr.cs_len,Int.toNat_natCast])),kp,wr ((i:Int)+1)] [3,4,6,2] [] hcx hq
theorem sz2_b2(hi:i<dl.length)(hN:dl.length<=1000000000)(hx0:dfM (List.getD dl i default)=1)(cx:Cx)(hcx:cx.n=47){Q:PExit->S->Prop}(hq:Q (.normal) (S.mk [(3,vI6 m),(4,.uniq 88 25 (dfsC dl)),(6,vI6 ((i:Int)+1))] [] e)):PW prog cx (loopF f55 1) (sz2_I d0 d1 d3 d4 z0 z1 z3 z4 ins l dl (i:Int) m e) Q:=
 pw mdL 47 [sl (dfsC_len dl),dt ((i:Int)<(dl.length:Int)),am ((0:Int)<=(i:Int)/\(i:Int)<((dfsC dl).length:Int)) qZ,xDf dl i hi,nn1 hx0,wr ((i:Int)+1)] [3,4,6,2] [] hcx hq
theorem sz2_z1(hi:i=dl.length)(hN:dl.length<=1000000000)(cx:Cx)(hcx:cx.n=47){Q:PExit->S->Prop}(hq:Q (.exit 2) (S.mk [(3,vI6 m),(4,.uniq 88 25 (dfsC dl)),(6,vI6 (i:Int))] [] e)):PW prog cx (loopF f55 1) (sz2_I d0 d1 d3 d4 z0 z1 z3 z4 ins l dl (i:Int) m e) Q:=
 pw mdL 47 [sl (dfsC_len dl),df ((i:Int)<(dl.length:Int))] [3,4,6,2] [] hcx hq
end
def sz2_f  : List Df->(Int)->(Int)
 | [],m=>(m)
 | el::r,m=>(if dfM el=1 then sz2_f  r (m) else sz2_f  r (IntKind.wrap .i64 (m+nodes (dfB el))))
def sz2_q(d0:List (List PV))(d1:List (List PV))(d3:List (List PV))(d4:List (List PV))(z0:Nat)(z1:Nat)(z3:Nat)(z4:Nat)(ins:List In)(l:List Df)(dl:List Df)(e:Ext)(p:(Int)):PExit × S:=(.exit 2,S.mk [(3,vI6 p),(4,.uniq 88 25 (dfsC dl))] [] e)
theorem sz2_lp(d0 d1 d3 d4:List (List PV))(z0 z1 z3 z4:Nat)(ins:List In)(l:List Df)(dl:List Df)(hlp:∀xe:Ext,(Ob.loop 47 (loopF f55 0) (szI d0 d1 d3 d4 z0 z1 z3 z4 ins l l 0 xe) (.exit 0) ⟨[(3,.v (.int .i64 0)),(4,.uniq 88 25 (dfsC dl))],[],xe⟩).ok prog)(hwn:∀w,w∈dl->Pu 9 [.agg (exL (dfB w))] (.ret (.int .i64 (nodes (dfB w)))))(e:Ext)(hN:dl.length<=1000000000)(i:Nat)(m:Int)(hi0:i<=dl.length)  : (Ob.loop 47 (loopF f55 1) (sz2_I d0 d1 d3 d4 z0 z1 z3 z4 ins l dl (i:Int) m e) (sz2_q d0 d1 d3 d4 z0 z1 z3 z4 ins l dl e (sz2_f  (List.drop i (dl))  m)).1 (sz2_q d0 d1 d3 d4 z0 z1 z3 z4 ins l dl e (sz2_f  (List.drop i (dl))  m)).2).ok prog:=by
 refine Ob.loop_of (P:=prog) (α:={ zz:Nat × (Int) // zz.1<=dl.length }) (fun zz=>sz2_I d0 d1 d3 d4 z0 z1 z3 z4 ins l dl (zz.1.1:Int) zz.1.2 e) (fun zz=>dl.length - zz.1.1) (fun zz=>(sz2_q d0 d1 d3 d4 z0 z1 z3 z4 ins l dl e (sz2_f  (List.drop zz.1.1 (dl))  zz.1.2))) ?_ ⟨(i,m),hi0⟩
 clear hi0
 clear m i
 rintro ⟨⟨i,m⟩,hi⟩ cx hcx
 simp only at hi  ⊢
 rcases Nat.lt_or_ge i (dl.length) with hlt | hge
 ·have hd:=drop_at hlt
  by_cases h0:dfM (List.getD dl i default)=1
  ·have hr:(sz2_f  (List.drop i (dl))  m)=(sz2_f  (List.drop (i+1) (dl))  (m)):=by rw [hd,sz2_f,iP h0]
   exact sz2_b2 d0 d1 d3 d4 z0 z1 z3 z4 ins l dl hlp hwn i m e hlt hN  h0 cx hcx (.inl ⟨rfl,⟨((i+1),(m)),by simp only; omega⟩,by simp only; omega,xr,by simp only; rw [hr]⟩)
  ·have hr:(sz2_f  (List.drop i (dl))  m)=(sz2_f  (List.drop (i+1) (dl))  (IntKind.wrap .i64 (m+nodes (dfB (List.getD dl i default))))):=by rw [hd,sz2_f,iN h0]
   exact sz2_b1 d0 d1 d3 d4 z0 z1 z3 z4 ins l dl hlp hwn i m e hlt hN  h0 cx hcx (.inl ⟨rfl,⟨((i+1),(IntKind.wrap .i64 (m+nodes (dfB (List.getD dl i default))))),by simp only; omega⟩,by simp only; omega,xr,by simp only; rw [hr]⟩)
 ·have he:i=dl.length:=by omega
  subst he
  have hr:(sz2_f  (List.drop (dl.length) (dl))  m)=(m):=by rw [List.drop_length,sz2_f]
  refine sz2_z1 d0 d1 d3 d4 z0 z1 z3 z4 ins l dl hlp hwn (dl.length) m e rfl hN   cx hcx (.inr ?_)
  rw [hr]
  exact ⟨by simp,rfl,xr⟩
theorem sz2(d0 d1 d3 d4:List (List PV))(z0 z1 z3 z4:Nat)(ins:List In)(l:List Df)(dl:List Df)(hlp:∀xe:Ext,(Ob.loop 47 (loopF f55 0) (szI d0 d1 d3 d4 z0 z1 z3 z4 ins l l 0 xe) (.exit 0) ⟨[(3,.v (.int .i64 0)),(4,.uniq 88 25 (dfsC dl))],[],xe⟩).ok prog)(hwn:∀w,w∈dl->Pu 9 [.agg (exL (dfB w))] (.ret (.int .i64 (nodes (dfB w)))))(m:Int)(e:Ext)(hN:dl.length<=1000000000)  : (Ob.loop 47 (loopF f55 1) (sz2_I d0 d1 d3 d4 z0 z1 z3 z4 ins l dl 0 m e) (sz2_q d0 d1 d3 d4 z0 z1 z3 z4 ins l dl e (sz2_f  (dl)  m)).1 (sz2_q d0 d1 d3 d4 z0 z1 z3 z4 ins l dl e (sz2_f  (dl)  m)).2).ok prog:=by
 have:=sz2_lp d0 d1 d3 d4 z0 z1 z3 z4 ins l dl hlp hwn e hN 0 m (Nat.zero_le _)
 rw [List.drop_zero] at this
 exact this
theorem rSize(d0 d1 d3 d4:List (List PV))(z0 z1 z3 z4:Nat)(ins:List In)(l:List Df)(dl:List Df)(hlp:∀xe:Ext,(Ob.loop 47 (loopF f55 0) (szI d0 d1 d3 d4 z0 z1 z3 z4 ins l l 0 xe) (.exit 0) ⟨[(3,.v (.int .i64 0)),(4,.uniq 88 25 (dfsC dl))],[],xe⟩).ok prog)(hwn:∀w,w∈dl->Pu 9 [.agg (exL (dfB w))] (.ret (.int .i64 (nodes (dfB w)))))(hdl:dl.length<=1000000000)(hx0:List.length ([]++(fun x=>Prod.snd x) (25,dfsC l)) * (455+1)<=140737488355328):Pu 55 [.agg [.sl z0 d0,.sl z1 d1,.sl 12 (insC ins),.sl z3 d3,.sl z4 d4,.sl 25 (dfsC l)]] (rI (sz2_f dl 0)):=
 pu mdL (fun e=>[am1 hx0,lp (S.mk [(0,.v (.agg [.sl z0 d0,.sl z1 d1,.sl 12 (insC ins),.sl z3 d3,.sl z4 d4,.sl 25 (dfsC l)])),(1,.lp 1 0),(2,vI6 0),(3,vI6 0),(7,LV.full 25 []),(8,.lp 1 5),(9,vL 25 (dfsC l)),(10,vL 25 ([]++dfsC l)),(4,.uniq 88 25 ([]++dfsC l)),(5,vI6 0)] [(1,[vL z0 d0,vL z1 d1,vL 12 (insC ins),vL z3 d3,vL z4 d4,vL 25 (dfsC l)])] e) (@hlp (e)) ⟨⟨W,W,(by first | exact .inl rfl | exact .inr ⟨rfl,rfl⟩ | exact .inr rfl | exact .inr trivial | exact .inl (by first | (simp only [List.nil_append,nmsC_app,dfsC_app,nmsC_snoc,Ex.cs_snoc,Vl.cs_snoc,Bd.cs_snoc,Bd.cs_snoc2]; done) | (simp only [List.nil_append,nmsC_app,dfsC_app,nmsC_snoc,Ex.cs_snoc,Vl.cs_snoc,Bd.cs_snoc,Bd.cs_snoc2]; rfl))),W,tV⟩,⟨⟨W,W,W,W,W,W,tV⟩,tV⟩,rfl⟩,lq (@sz2 (d0) (d1) (d3) (d4) (z0) (z1) (z3) (z4) (ins) (l) (dl) hlp hwn (0) (e) hdl)]) func55
theorem sz_loop(d0 d1 d3 d4:List (List PV))(z0 z1 z3 z4:Nat)(ins:List In)(l:List Df)(hi0:ins.length<=1000000)(hs:(l++ins.flatMap inDs).length<=300000000000)(xe:Ext):(Ob.loop 47 (loopF f55 0) (szI d0 d1 d3 d4 z0 z1 z3 z4 ins l l 0 xe) (.exit 0) ⟨[(3,.v (.int .i64 0)),(4,.uniq 88 25 (dfsC (l++ins.flatMap inDs)))],[],xe⟩).ok prog:=by
 have hsum:∀i,i<ins.length->(l++(ins.take i).flatMap inDs).length+(inDs (ins.getD i default)).length<=300000000000:=fun i hi=>by
  have e1:ins=ins.take i++ins.getD i default::ins.drop (i+1):=by rw [<-drop_at hi,List.take_append_drop]
  have e2:=congrArg (fun z=>(l++z.flatMap inDs).length) e1
  simp only [List.flatMap_append,List.flatMap_cons,List.length_append] at e2 hs ⊢
  omega
 have e0:l++(ins.take ins.length).flatMap inDs=l++ins.flatMap inDs:=by rw [List.take_length]
 have:=Ob.loop_idx (P:=prog) (n:=47) (c:=(loopF f55 0)) ins.length (fun i=>szI d0 d1 d3 d4 z0 z1 z3 z4 ins l (l++(ins.take i).flatMap inDs) i xe) (fun _=>(.exit 0,⟨[(3,.v (.int .i64 0)),(4,.uniq 88 25 (dfsC (l++ins.flatMap inDs)))],[],xe⟩)) ?_ ?_ 0 (Nat.zero_le _)
 ·simpa using this
 ·intro i hlt cx hcx
  refine szRd d0 d1 d3 d4 z0 z1 z3 z4 ins l _ i xe hlt hi0 (hsum i hlt) cx hcx (.inl ⟨rfl,⟨⟨W,W,.inl ?_,W,tV⟩,⟨WLs.refl _,tV⟩,rfl⟩,rfl⟩)
  rw [List.take_add_one,List.flatMap_append,<-List.append_assoc,dfsC_app _ (List.flatMap _ _)]
  simp [hlt,List.getD]
 ·intro cx hcx
  have z:=szZ d0 d1 d3 d4 z0 z1 z3 z4 ins l (l++(ins.take ins.length).flatMap inDs) xe cx hcx (Q:=fun pe s'=>pe ≠ .normal/\pe = .exit 0/\LeX ⟨[(3,.v (.int .i64 0)),(4,.uniq 88 25 (dfsC (l++ins.flatMap inDs)))],[],xe⟩ s')
  exact z ⟨by simp,rfl,⟨W,by rw [e0]; exact W,tV⟩,trivial,rfl⟩
abbrev flA_I(v:Vl)(ff:Vl->Int->Bool)(d:Int)(j:Int)(e:Ext):S:=S.mk [(1,vI6 d),(2,.lp 2 0),(5,vI6 j)] [(2,vlV v)] e
section
variable (v:Vl) (ff:Vl->Int->Bool) (d:Int) (hwk:∀ (w:Vl) (m:Int),w∈vlK v->Pu 56 [.agg (vlL w),.int .i64 m] (.ret (.bool (ff w m)))) (hdz:¬d=0) (h1:¬(vlK v).length>4) (h2:¬(vlBd v).length>0) (h3:¬(vlB v).length>0) (i:Nat) (e:Ext)
include v ff d hwk hdz h1 h2 h3 i e
theorem flA_b1(hi:i<(vlK v).length)(hN:(vlK v).length<=1000000000)(hx0:ff (List.getD (vlK v) i default) (IntKind.wrap .i64 (d - 1))=false)(cx:Cx)(hcx:cx.n=42){Q:PExit->S->Prop}(hq:Q (.ret) (S.mk [(1,vI6 d),(2,.lp 2 0),(5,vI6 (i:Int)),(4,.v (.bool false))] [(2,vlV v)] e)):PW prog cx (loopF f56 0) (flA_I v ff d (i:Int) e) Q:=
 pw mdL 42 [sl (Vl.cs_len (vlK v)),dt ((i:Int)<((vlK v).length:Int)),am ((0:Int)<=(i:Int)/\(i:Int)<((Vl.cs (vlK v)).length:Int)) qZ,xVl (vlK v) i hi,kp,cl (@hwk (List.getD (vlK v) i default) (IntKind.wrap .i64 (d - 1)) (by simp_all [insC_len,List.length_map,List.length_append,List.length_cons,List.length_nil,Ex.cs_len,Vl.cs_len,Al.cs_len,Bd.cs_len,nmsC_len,pmsC_len,Tp.cs_len,dfsC_len,Pr.cs_len,Int.toNat_natCast])),bt1 (bnT hx0)] [1,2,5,4] [2] hcx hq
theorem flA_b2(hi:i<(vlK v).length)(hN:(vlK v).length<=1000000000)(hx0:ff (List.getD (vlK v) i default) (IntKind.wrap .i64 (d - 1))=true)(cx:Cx)(hcx:cx.n=42){Q:PExit->S->Prop}(hq:Q (.normal) (S.mk [(1,vI6 d),(2,.lp 2 0),(5,vI6 ((i:Int)+1))] [(2,vlV v)] e)):PW prog cx (loopF f56 0) (flA_I v ff d (i:Int) e) Q:=
 pw mdL 42 [sl (Vl.cs_len (vlK v)),dt ((i:Int)<((vlK v).length:Int)),am ((0:Int)<=(i:Int)/\(i:Int)<((Vl.cs (vlK v)).length:Int)) qZ,xVl (vlK v) i hi,kp,cl (@hwk (List.getD (vlK v) i default) (IntKind.wrap .i64 (d - 1)) (by simp_all [insC_len,List.length_map,List.length_append,List.length_cons,List.length_nil,Ex.cs_len,Vl.cs_len,Al.cs_len,Bd.cs_len,nmsC_len,pmsC_len,Tp.cs_len,dfsC_len,Pr.cs_len,Int.toNat_natCast])),bf1 (bnF hx0),wr ((i:Int)+1)] [1,2,5,4] [2] hcx hq
theorem flA_z1(hi:i=(vlK v).length)(hN:(vlK v).length<=1000000000)(cx:Cx)(hcx:cx.n=42){Q:PExit->S->Prop}(hq:Q (.exit 0) (S.mk [(1,vI6 d),(2,.lp 2 0),(5,vI6 (i:Int))] [(2,vlV v)] e)):PW prog cx (loopF f56 0) (flA_I v ff d (i:Int) e) Q:=
 pw mdL 42 [sl (Vl.cs_len (vlK v)),df ((i:Int)<((vlK v).length:Int))] [1,2,5,4] [2] hcx hq
end
inductive flA_R where
 | e0
 | e1
def flA_f(ff:Vl->Int->Bool)(d:Int):List Vl->flA_R
 | []=>(flA_R.e1)
 | el::r=>(if ff el (IntKind.wrap .i64 (d - 1))=false then (flA_R.e0) else flA_f ff d r)
def flA_q(v:Vl)(ff:Vl->Int->Bool)(d:Int)(e:Ext):flA_R->PExit × S
 | .e0=>(.ret,S.mk [(1,vI6 d),(2,.lp 2 0),(4,.v (.bool false))] [(2,vlV v)] e)
 | .e1=>(.exit 0,S.mk [(1,vI6 d),(2,.lp 2 0)] [(2,vlV v)] e)
theorem flA_lp(v:Vl)(ff:Vl->Int->Bool)(d:Int)(hwk:∀ (w:Vl) (m:Int),w∈vlK v->Pu 56 [.agg (vlL w),.int .i64 m] (.ret (.bool (ff w m))))(hdz:¬d=0)(h1:¬(vlK v).length>4)(h2:¬(vlBd v).length>0)(h3:¬(vlB v).length>0)(e:Ext)(hN:(vlK v).length<=1000000000)(i:Nat)(hi0:i<=(vlK v).length)  : (Ob.loop 42 (loopF f56 0) (flA_I v ff d (i:Int)  e) (flA_q v ff d e (flA_f ff d (List.drop i ((vlK v))))).1 (flA_q v ff d e (flA_f ff d (List.drop i ((vlK v))))).2).ok prog:=by
 refine Ob.loop_of (P:=prog) (α:={ zz:Nat × Unit // zz.1<=(vlK v).length }) (fun zz=>flA_I v ff d (zz.1.1:Int)  e) (fun zz=>(vlK v).length - zz.1.1) (fun zz=>(flA_q v ff d e (flA_f ff d (List.drop zz.1.1 ((vlK v)))))) ?_ ⟨(i,()),hi0⟩
 clear hi0
 clear  i
 rintro ⟨⟨i,u⟩,hi⟩ cx hcx
 simp only at hi  ⊢
 rcases Nat.lt_or_ge i ((vlK v).length) with hlt | hge
 ·have hd:=drop_at hlt
  by_cases h0:ff (List.getD (vlK v) i default) (IntKind.wrap .i64 (d - 1))=false
  ·have hr:(flA_f ff d (List.drop i ((vlK v))))=(flA_R.e0):=by rw [hd,flA_f,iP h0]
   refine flA_b1 v ff d hwk hdz h1 h2 h3 i  e hlt hN  h0 cx hcx (.inr ?_)
   rw [hr]
   exact ⟨by simp,rfl,xr⟩
  ·have hr:(flA_f ff d (List.drop i ((vlK v))))=(flA_f ff d (List.drop (i+1) ((vlK v)))):=by rw [hd,flA_f,iN h0]
   exact flA_b2 v ff d hwk hdz h1 h2 h3 i  e hlt hN  (bTF h0) cx hcx (.inl ⟨rfl,⟨((i+1),()),by simp only; omega⟩,by simp only; omega,xr,by simp only; rw [hr]⟩)
 ·have he:i=(vlK v).length:=by omega
  subst he
  have hr:(flA_f ff d (List.drop ((vlK v).length) ((vlK v))))=(flA_R.e1):=by rw [List.drop_length,flA_f]
  refine flA_z1 v ff d hwk hdz h1 h2 h3 ((vlK v).length)  e rfl hN   cx hcx (.inr ?_)
  rw [hr]
  exact ⟨by simp,rfl,xr⟩
theorem flA_0(v:Vl)(ff:Vl->Int->Bool)(d:Int)(hwk:∀ (w:Vl) (m:Int),w∈vlK v->Pu 56 [.agg (vlL w),.int .i64 m] (.ret (.bool (ff w m))))(hdz:¬d=0)(h1:¬(vlK v).length>4)(h2:¬(vlBd v).length>0)(h3:¬(vlB v).length>0)(e:Ext)(hN:(vlK v).length<=1000000000)(hres:(flA_f ff d ((vlK v)))=(flA_R.e0)):(Ob.loop 42 (loopF f56 0) (flA_I v ff d 0  e) (flA_q v ff d e (flA_R.e0)).1 (flA_q v ff d e (flA_R.e0)).2).ok prog:=by
 have:=flA_lp v ff d hwk hdz h1 h2 h3 e hN 0  (Nat.zero_le _)
 rw [List.drop_zero] at this
 rw [hres] at this
 exact this
theorem flA_1(v:Vl)(ff:Vl->Int->Bool)(d:Int)(hwk:∀ (w:Vl) (m:Int),w∈vlK v->Pu 56 [.agg (vlL w),.int .i64 m] (.ret (.bool (ff w m))))(hdz:¬d=0)(h1:¬(vlK v).length>4)(h2:¬(vlBd v).length>0)(h3:¬(vlB v).length>0)(e:Ext)(hN:(vlK v).length<=1000000000)(hres:(flA_f ff d ((vlK v)))=(flA_R.e1)):(Ob.loop 42 (loopF f56 0) (flA_I v ff d 0  e) (flA_q v ff d e (flA_R.e1)).1 (flA_q v ff d e (flA_R.e1)).2).ok prog:=by
 have:=flA_lp v ff d hwk hdz h1 h2 h3 e hN 0  (Nat.zero_le _)
 rw [List.drop_zero] at this
 rw [hres] at this
 exact this
section
variable (v:Vl) (ff:Vl->Int->Bool) (d:Int) (hwk:∀ (w:Vl) (m:Int),w∈vlK v->Pu 56 [.agg (vlL w),.int .i64 m] (.ret (.bool (ff w m))))
include v ff d hwk
theorem rFlat_1(hx0:d=0):Pu 56 [.agg (vlL v),pI d] (rB false):=
 pm mdL [rp 5 (et1 hx0),rp 11 (bt true)] func56
theorem rFlat_2(hx0:¬d=0)(hx1:((vlK v).length:Int)>4):Pu 56 [.agg (vlL v),pI d] (rB false):=
 pm mdL [rp 3 (en1 hx0),sl (Vl.cs_len (vlK v)),rp 2 (en1 hx0),rp 5 (dt1 hx1),rp 6 (bt true)] func56
theorem rFlat_3(hx0:¬d=0)(hx1:¬((vlK v).length:Int)>4)(hx2:((vlBd v).length:Int)>0):Pu 56 [.agg (vlL v),pI d] (rB false):=
 pm mdL [rp 3 (en1 hx0),sl (Vl.cs_len (vlK v)),rp 2 (en1 hx0),rp 3 (df1 hx1),sl (Bd.cs_len (vlBd v)),rp 2 (df1 hx1),rp 5 (dt1 hx2),bt true] func56
theorem rFlat_4(hx0:¬d=0)(hx1:¬((vlK v).length:Int)>4)(hx2:¬((vlBd v).length:Int)>0)(hx3:((vlB v).length:Int)>0):Pu 56 [.agg (vlL v),pI d] (rB false):=
 pm mdL [rp 3 (en1 hx0),sl (Vl.cs_len (vlK v)),rp 2 (en1 hx0),rp 3 (df1 hx1),sl (Bd.cs_len (vlBd v)),rp 2 (df1 hx1),rp 3 (df1 hx2),sl (Ex.cs_len (vlB v)),rp 2 (df1 hx2),dt1 hx3] func56
theorem rFlat_5(hx0:¬d=0)(hx1:¬((vlK v).length:Int)>4)(hx2:¬((vlBd v).length:Int)>0)(hx3:¬((vlB v).length:Int)>0)(hx4:flA_f ff d (vlK v)=flA_R.e0):Pu 56 [.agg (vlL v),pI d] (rB false):=
 pu mdL (fun e=>[rp 3 (en1 hx0),sl (Vl.cs_len (vlK v)),rp 2 (en1 hx0),rp 3 (df1 hx1),sl (Bd.cs_len (vlBd v)),rp 2 (df1 hx1),rp 3 (df1 hx2),sl (Ex.cs_len (vlB v)),rp 2 (df1 hx2),df1 hx3,lp (S.mk [(0,.v (.agg (vlL v))),(1,vI6 d),(2,.lp 2 0),(4,.v (.bool false)),(6,vI6 d),(7,.v (.bool (d==0))),(8,.v (.bool (d==0))),(9,.lp 2 3),(10,vL 7 (Vl.cs (vlK v))),(11,vI6 ((vlK v).length:Int)),(12,.v (.bool (decide (((vlK v).length:Int)>4)))),(13,.v (.bool (decide (((vlK v).length:Int)>4)))),(14,.v (.bool (decide (((vlK v).length:Int)>4)))),(15,.lp 2 6),(16,vL 8 (Bd.cs (vlBd v))),(17,vI6 ((vlBd v).length:Int)),(18,.v (.bool (decide (((vlBd v).length:Int)>0)))),(19,.v (.bool (decide (((vlBd v).length:Int)>0)))),(20,.v (.bool (decide (((vlBd v).length:Int)>0)))),(21,.lp 2 5),(22,vL 7 (Ex.cs (vlB v))),(23,vI6 ((vlB v).length:Int)),(24,.v (.bool (decide (((vlB v).length:Int)>0)))),(25,.v (.bool (decide (((vlB v).length:Int)>0)))),(5,vI6 0)] [(2,vlV v)] e) (@flA_0 (v) (ff) (d) hwk hx0 oM oM oM (e) oM hx4) xr]) func56
theorem rFlat_6(hx0:¬d=0)(hx1:¬((vlK v).length:Int)>4)(hx2:¬((vlBd v).length:Int)>0)(hx3:¬((vlB v).length:Int)>0)(hx4:flA_f ff d (vlK v)=flA_R.e1):Pu 56 [.agg (vlL v),pI d] (rB true):=
 pu mdL (fun e=>[rp 3 (en1 hx0),sl (Vl.cs_len (vlK v)),rp 2 (en1 hx0),rp 3 (df1 hx1),sl (Bd.cs_len (vlBd v)),rp 2 (df1 hx1),rp 3 (df1 hx2),sl (Ex.cs_len (vlB v)),rp 2 (df1 hx2),df1 hx3,lp (S.mk [(0,.v (.agg (vlL v))),(1,vI6 d),(2,.lp 2 0),(4,.v (.bool false)),(6,vI6 d),(7,.v (.bool (d==0))),(8,.v (.bool (d==0))),(9,.lp 2 3),(10,vL 7 (Vl.cs (vlK v))),(11,vI6 ((vlK v).length:Int)),(12,.v (.bool (decide (((vlK v).length:Int)>4)))),(13,.v (.bool (decide (((vlK v).length:Int)>4)))),(14,.v (.bool (decide (((vlK v).length:Int)>4)))),(15,.lp 2 6),(16,vL 8 (Bd.cs (vlBd v))),(17,vI6 ((vlBd v).length:Int)),(18,.v (.bool (decide (((vlBd v).length:Int)>0)))),(19,.v (.bool (decide (((vlBd v).length:Int)>0)))),(20,.v (.bool (decide (((vlBd v).length:Int)>0)))),(21,.lp 2 5),(22,vL 7 (Ex.cs (vlB v))),(23,vI6 ((vlB v).length:Int)),(24,.v (.bool (decide (((vlB v).length:Int)>0)))),(25,.v (.bool (decide (((vlB v).length:Int)>0)))),(5,vI6 0)] [(2,vlV v)] e) (@flA_1 (v) (ff) (d) hwk hx0 oM oM oM (e) oM hx4) xr]) func56
end
abbrev liA_I(d0:List (List PV))(d1:List (List PV))(d3:List (List PV))(d4:List (List PV))(z0:Nat)(z1:Nat)(z3:Nat)(z4:Nat)(ins:List In)(l:List Df)(args:List Vl)(ff:Vl->Int->Bool)(k:Int)(j:Int)(e:Ext):S:=S.mk [(1,vL 7 (Vl.cs args)),(5,vI6 j)] [] e
section
variable (d0 d1 d3 d4:List (List PV)) (z0 z1 z3 z4:Nat) (ins:List In) (l:List Df) (args:List Vl) (ff:Vl->Int->Bool) (k:Int) (hsz:Pu 55 [.agg [.sl z0 d0,.sl z1 d1,.sl 12 (insC ins),.sl z3 d3,.sl z4 d4,.sl 25 (dfsC l)]] (.ret (.int .i64 k))) (hwk:∀ (w:Vl) (m:Int),w∈args->Pu 56 [.agg (vlL w),.int .i64 m] (.ret (.bool (ff w m)))) (h1:¬l.length>8) (h2:¬k>300) (h3:¬args.length>6) (i:Nat) (e:Ext)
include d0 d1 d3 d4 z0 z1 z3 z4 ins l args ff k hsz hwk h1 h2 h3 i e
theorem liA_b1(hi:i<args.length)(hN:args.length<=1000000000)(hx0:ff (List.getD args i default) 3=false)(cx:Cx)(hcx:cx.n=32){Q:PExit->S->Prop}(hq:Q (.ret) (S.mk [(1,vL 7 (Vl.cs args)),(5,vI6 (i:Int)),(4,.v (.bool false))] [] e)):PW prog cx (loopF f23 0) (liA_I d0 d1 d3 d4 z0 z1 z3 z4 ins l args ff k (i:Int) e) Q:=
 pw mdL 32 [sl (Vl.cs_len args),dt ((i:Int)<(args.length:Int)),am ((0:Int)<=(i:Int)/\(i:Int)<((Vl.cs args).length:Int)) qZ,xVl args i hi,cl (@hwk (List.getD args i default) (3) (by simp_all [insC_len,List.length_map,List.length_append,List.length_cons,List.length_nil,Ex.cs_len,Vl.cs_len,Al.cs_len,Bd.cs_len,nmsC_len,pmsC_len,Tp.cs_len,dfsC_len,Pr.cs_len,Int.toNat_natCast])),bt1 (bnT hx0)] [1,5,4] [] hcx hq
theorem liA_b2(hi:i<args.length)(hN:args.length<=1000000000)(hx0:ff (List.getD args i default) 3=true)(cx:Cx)(hcx:cx.n=32){Q:PExit->S->Prop}(hq:Q (.normal) (S.mk [(1,vL 7 (Vl.cs args)),(5,vI6 ((i:Int)+1))] [] e)):PW prog cx (loopF f23 0) (liA_I d0 d1 d3 d4 z0 z1 z3 z4 ins l args ff k (i:Int) e) Q:=
 pw mdL 32 [sl (Vl.cs_len args),dt ((i:Int)<(args.length:Int)),am ((0:Int)<=(i:Int)/\(i:Int)<((Vl.cs args).length:Int)) qZ,xVl args i hi,cl (@hwk (List.getD args i default) (3) (by simp_all [insC_len,List.length_map,List.length_append,List.length_cons,List.length_nil,Ex.cs_len,Vl.cs_len,Al.cs_len,Bd.cs_len,nmsC_len,pmsC_len,Tp.cs_len,dfsC_len,Pr.cs_len,Int.toNat_natCast])),bf1 (bnF hx0),wr ((i:Int)+1)] [1,5,4] [] hcx hq
theorem liA_z1(hi:i=args.length)(hN:args.length<=1000000000)(cx:Cx)(hcx:cx.n=32){Q:PExit->S->Prop}(hq:Q (.exit 0) (S.mk [(1,vL 7 (Vl.cs args)),(5,vI6 (i:Int))] [] e)):PW prog cx (loopF f23 0) (liA_I d0 d1 d3 d4 z0 z1 z3 z4 ins l args ff k (i:Int) e) Q:=
 pw mdL 32 [sl (Vl.cs_len args),df ((i:Int)<(args.length:Int))] [1,5,4] [] hcx hq
end
inductive liA_R where
 | e0
 | e1
def liA_f(ff:Vl->Int->Bool):List Vl->liA_R
 | []=>(liA_R.e1)
 | el::r=>(if ff el 3=false then (liA_R.e0) else liA_f ff r)
def liA_q(d0:List (List PV))(d1:List (List PV))(d3:List (List PV))(d4:List (List PV))(z0:Nat)(z1:Nat)(z3:Nat)(z4:Nat)(ins:List In)(l:List Df)(args:List Vl)(ff:Vl->Int->Bool)(k:Int)(e:Ext):liA_R->PExit × S
 | .e0=>(.ret,S.mk [(1,vL 7 (Vl.cs args)),(4,.v (.bool false))] [] e)
 | .e1=>(.exit 0,S.mk [(1,vL 7 (Vl.cs args))] [] e)
theorem liA_lp(d0 d1 d3 d4:List (List PV))(z0 z1 z3 z4:Nat)(ins:List In)(l:List Df)(args:List Vl)(ff:Vl->Int->Bool)(k:Int)(hsz:Pu 55 [.agg [.sl z0 d0,.sl z1 d1,.sl 12 (insC ins),.sl z3 d3,.sl z4 d4,.sl 25 (dfsC l)]] (.ret (.int .i64 k)))(hwk:∀ (w:Vl) (m:Int),w∈args->Pu 56 [.agg (vlL w),.int .i64 m] (.ret (.bool (ff w m))))(h1:¬l.length>8)(h2:¬k>300)(h3:¬args.length>6)(e:Ext)(hN:args.length<=1000000000)(i:Nat)(hi0:i<=args.length)  : (Ob.loop 32 (loopF f23 0) (liA_I d0 d1 d3 d4 z0 z1 z3 z4 ins l args ff k (i:Int)  e) (liA_q d0 d1 d3 d4 z0 z1 z3 z4 ins l args ff k e (liA_f ff (List.drop i (args)))).1 (liA_q d0 d1 d3 d4 z0 z1 z3 z4 ins l args ff k e (liA_f ff (List.drop i (args)))).2).ok prog:=by
 refine Ob.loop_of (P:=prog) (α:={ zz:Nat × Unit // zz.1<=args.length }) (fun zz=>liA_I d0 d1 d3 d4 z0 z1 z3 z4 ins l args ff k (zz.1.1:Int)  e) (fun zz=>args.length - zz.1.1) (fun zz=>(liA_q d0 d1 d3 d4 z0 z1 z3 z4 ins l args ff k e (liA_f ff (List.drop zz.1.1 (args))))) ?_ ⟨(i,()),hi0⟩
 clear hi0
 clear  i
 rintro ⟨⟨i,u⟩,hi⟩ cx hcx
 simp only at hi  ⊢
 rcases Nat.lt_or_ge i (args.length) with hlt | hge
 ·have hd:=drop_at hlt
  by_cases h0:ff (List.getD args i default) 3=false
  ·have hr:(liA_f ff (List.drop i (args)))=(liA_R.e0):=by rw [hd,liA_f,iP h0]
   refine liA_b1 d0 d1 d3 d4 z0 z1 z3 z4 ins l args ff k hsz hwk h1 h2 h3 i  e hlt hN  h0 cx hcx (.inr ?_)
   rw [hr]
   exact ⟨by simp,rfl,xr⟩
  ·have hr:(liA_f ff (List.drop i (args)))=(liA_f ff (List.drop (i+1) (args))):=by rw [hd,liA_f,iN h0]
   exact liA_b2 d0 d1 d3 d4 z0 z1 z3 z4 ins l args ff k hsz hwk h1 h2 h3 i  e hlt hN  (bTF h0) cx hcx (.inl ⟨rfl,⟨((i+1),()),by simp only; omega⟩,by simp only; omega,xr,by simp only; rw [hr]⟩)
 ·have he:i=args.length:=by omega
  subst he
  have hr:(liA_f ff (List.drop (args.length) (args)))=(liA_R.e1):=by rw [List.drop_length,liA_f]
  refine liA_z1 d0 d1 d3 d4 z0 z1 z3 z4 ins l args ff k hsz hwk h1 h2 h3 (args.length)  e rfl hN   cx hcx (.inr ?_)
  rw [hr]
  exact ⟨by simp,rfl,xr⟩
theorem liA_0(d0 d1 d3 d4:List (List PV))(z0 z1 z3 z4:Nat)(ins:List In)(l:List Df)(args:List Vl)(ff:Vl->Int->Bool)(k:Int)(hsz:Pu 55 [.agg [.sl z0 d0,.sl z1 d1,.sl 12 (insC ins),.sl z3 d3,.sl z4 d4,.sl 25 (dfsC l)]] (.ret (.int .i64 k)))(hwk:∀ (w:Vl) (m:Int),w∈args->Pu 56 [.agg (vlL w),.int .i64 m] (.ret (.bool (ff w m))))(h1:¬l.length>8)(h2:¬k>300)(h3:¬args.length>6)(e:Ext)(hN:args.length<=1000000000)(hres:(liA_f ff (args))=(liA_R.e0)):(Ob.loop 32 (loopF f23 0) (liA_I d0 d1 d3 d4 z0 z1 z3 z4 ins l args ff k 0  e) (liA_q d0 d1 d3 d4 z0 z1 z3 z4 ins l args ff k e (liA_R.e0)).1 (liA_q d0 d1 d3 d4 z0 z1 z3 z4 ins l args ff k e (liA_R.e0)).2).ok prog:=by
 have:=liA_lp d0 d1 d3 d4 z0 z1 z3 z4 ins l args ff k hsz hwk h1 h2 h3 e hN 0  (Nat.zero_le _)
 rw [List.drop_zero] at this
 rw [hres] at this
 exact this
theorem liA_1(d0 d1 d3 d4:List (List PV))(z0 z1 z3 z4:Nat)(ins:List In)(l:List Df)(args:List Vl)(ff:Vl->Int->Bool)(k:Int)(hsz:Pu 55 [.agg [.sl z0 d0,.sl z1 d1,.sl 12 (insC ins),.sl z3 d3,.sl z4 d4,.sl 25 (dfsC l)]] (.ret (.int .i64 k)))(hwk:∀ (w:Vl) (m:Int),w∈args->Pu 56 [.agg (vlL w),.int .i64 m] (.ret (.bool (ff w m))))(h1:¬l.length>8)(h2:¬k>300)(h3:¬args.length>6)(e:Ext)(hN:args.length<=1000000000)(hres:(liA_f ff (args))=(liA_R.e1)):(Ob.loop 32 (loopF f23 0) (liA_I d0 d1 d3 d4 z0 z1 z3 z4 ins l args ff k 0  e) (liA_q d0 d1 d3 d4 z0 z1 z3 z4 ins l args ff k e (liA_R.e1)).1 (liA_q d0 d1 d3 d4 z0 z1 z3 z4 ins l args ff k e (liA_R.e1)).2).ok prog:=by
 have:=liA_lp d0 d1 d3 d4 z0 z1 z3 z4 ins l args ff k hsz hwk h1 h2 h3 e hN 0  (Nat.zero_le _)
 rw [List.drop_zero] at this
 rw [hres] at this
 exact this
section
variable (d0 d1 d3 d4:List (List PV)) (z0 z1 z3 z4:Nat) (ins:List In) (l:List Df) (args:List Vl) (ff:Vl->Int->Bool) (k:Int) (hsz:Pu 55 [.agg [.sl z0 d0,.sl z1 d1,.sl 12 (insC ins),.sl z3 d3,.sl z4 d4,.sl 25 (dfsC l)]] (.ret (.int .i64 k))) (hwk:∀ (w:Vl) (m:Int),w∈args->Pu 56 [.agg (vlL w),.int .i64 m] (.ret (.bool (ff w m))))
include d0 d1 d3 d4 z0 z1 z3 z4 ins l args ff k hsz hwk
theorem rLig_1(hx0:(l.length:Int)>8):Pu 23 [.agg [.sl z0 d0,.sl z1 d1,.sl 12 (insC ins),.sl z3 d3,.sl z4 d4,.sl 25 (dfsC l)],.sl 7 (Vl.cs args)] (rB false):=
 pm mdL [sl (dfsC_len l),rp 4 (dt1 hx0),rp 5 (bt true)] func23
theorem rLig_2(hx0:¬(l.length:Int)>8)(hx1:k>300):Pu 23 [.agg [.sl z0 d0,.sl z1 d1,.sl 12 (insC ins),.sl z3 d3,.sl z4 d4,.sl 25 (dfsC l)],.sl 7 (Vl.cs args)] (rB false):=
 pm mdL [sl (dfsC_len l),rp 2 (df1 hx0),cl hsz,rp 2 (df1 hx0),rp 4 (dt1 hx1),bt true] func23
theorem rLig_3(hx0:¬(l.length:Int)>8)(hx1:¬k>300)(hx2:(args.length:Int)>6):Pu 23 [.agg [.sl z0 d0,.sl z1 d1,.sl 12 (insC ins),.sl z3 d3,.sl z4 d4,.sl 25 (dfsC l)],.sl 7 (Vl.cs args)] (rB false):=
 pm mdL [sl (dfsC_len l),rp 2 (df1 hx0),cl hsz,rp 2 (df1 hx0),rp 2 (df1 hx1),sl (Vl.cs_len args),rp 2 (df1 hx1),dt1 hx2] func23
theorem rLig_4(hx0:¬(l.length:Int)>8)(hx1:¬k>300)(hx2:¬(args.length:Int)>6)(hx3:liA_f ff args=liA_R.e0):Pu 23 [.agg [.sl z0 d0,.sl z1 d1,.sl 12 (insC ins),.sl z3 d3,.sl z4 d4,.sl 25 (dfsC l)],.sl 7 (Vl.cs args)] (rB false):=
 pu mdL (fun e=>[sl (dfsC_len l),rp 2 (df1 hx0),cl hsz,rp 2 (df1 hx0),rp 2 (df1 hx1),sl (Vl.cs_len args),rp 2 (df1 hx1),df1 hx2,lp (S.mk [(0,.v (.agg [.sl z0 d0,.sl z1 d1,.sl 12 (insC ins),.sl z3 d3,.sl z4 d4,.sl 25 (dfsC l)])),(1,vL 7 (Vl.cs args)),(2,.lp 2 0),(4,.v (.bool false)),(6,.lp 2 5),(7,vL 25 (dfsC l)),(8,vI6 (l.length:Int)),(9,.v (.bool (decide ((l.length:Int)>8)))),(10,.v (.bool (decide ((l.length:Int)>8)))),(11,.v (.agg [.sl z0 d0,.sl z1 d1,.sl 12 (insC ins),.sl z3 d3,.sl z4 d4,.sl 25 (dfsC l)])),(12,vI6 k),(13,.v (.bool (decide (k>300)))),(14,.v (.bool (decide (k>300)))),(15,.v (.bool (decide (k>300)))),(16,vL 7 (Vl.cs args)),(17,vI6 (args.length:Int)),(18,.v (.bool (decide ((args.length:Int)>6)))),(19,.v (.bool (decide ((args.length:Int)>6)))),(5,vI6 0)] [(2,[vL z0 d0,vL z1 d1,vL 12 (insC ins),vL z3 d3,vL z4 d4,vL 25 (dfsC l)])] e) (@liA_0 (d0) (d1) (d3) (d4) (z0) (z1) (z3) (z4) (ins) (l) (args) (ff) (k) hsz hwk oM hx1 oM (e) oM hx3) xr]) func23
theorem rLig_5(hx0:¬(l.length:Int)>8)(hx1:¬k>300)(hx2:¬(args.length:Int)>6)(hx3:liA_f ff args=liA_R.e1):Pu 23 [.agg [.sl z0 d0,.sl z1 d1,.sl 12 (insC ins),.sl z3 d3,.sl z4 d4,.sl 25 (dfsC l)],.sl 7 (Vl.cs args)] (rB true):=
 pu mdL (fun e=>[sl (dfsC_len l),rp 2 (df1 hx0),cl hsz,rp 2 (df1 hx0),rp 2 (df1 hx1),sl (Vl.cs_len args),rp 2 (df1 hx1),df1 hx2,lp (S.mk [(0,.v (.agg [.sl z0 d0,.sl z1 d1,.sl 12 (insC ins),.sl z3 d3,.sl z4 d4,.sl 25 (dfsC l)])),(1,vL 7 (Vl.cs args)),(2,.lp 2 0),(4,.v (.bool false)),(6,.lp 2 5),(7,vL 25 (dfsC l)),(8,vI6 (l.length:Int)),(9,.v (.bool (decide ((l.length:Int)>8)))),(10,.v (.bool (decide ((l.length:Int)>8)))),(11,.v (.agg [.sl z0 d0,.sl z1 d1,.sl 12 (insC ins),.sl z3 d3,.sl z4 d4,.sl 25 (dfsC l)])),(12,vI6 k),(13,.v (.bool (decide (k>300)))),(14,.v (.bool (decide (k>300)))),(15,.v (.bool (decide (k>300)))),(16,vL 7 (Vl.cs args)),(17,vI6 (args.length:Int)),(18,.v (.bool (decide ((args.length:Int)>6)))),(19,.v (.bool (decide ((args.length:Int)>6)))),(5,vI6 0)] [(2,[vL z0 d0,vL z1 d1,vL 12 (insC ins),vL z3 d3,vL z4 d4,vL 25 (dfsC l)])] e) (@liA_1 (d0) (d1) (d3) (d4) (z0) (z1) (z3) (z4) (ins) (l) (args) (ff) (k) hsz hwk oM hx1 oM (e) oM hx3) xr]) func23
end
section
variable (d0 d1 d3 d4:List (List PV)) (z0 z1 z3 z4:Nat) (ins:List In) (l:List Df) (k:Int) (hk0:0<=k) (hk1:k<=255) (hll:l.length<=1000000000)
include d0 d1 d3 d4 z0 z1 z3 z4 ins l k hk0 hk1 hll
theorem rNm0(hz:l.length=0):Pu 27 [.agg [.sl z0 d0,.sl z1 d1,.sl 12 (insC ins),.sl z3 d3,.sl z4 d4,.sl 25 (dfsC l)],.int .u8 k] (.ret (.str nm0)):=
 pm mdL [sl (dfsC_len l),et (l.length:Int) 0] func27
theorem rNm1(hlp:0<l.length)(i:Nat)(hi:i<l.length)(hki:Int.tmod k (l.length:Int)=(i:Int)):Pu 27 [.agg [.sl z0 d0,.sl z1 d1,.sl 12 (insC ins),.sl z3 d3,.sl z4 d4,.sl 25 (dfsC l)],.int .u8 k] (.ret (.str (dfNm (List.getD l (Int.toNat (Int.tmod k (l.length:Int))) default)))):=
 pm mdL [sl (dfsC_len l),en (l.length:Int) 0,wr k,sl (dfsC_len l),kp,am ((l.length:Int)≠0),am ((0:Int)<=Int.tmod k (l.length:Int)/\Int.tmod k (l.length:Int)<((dfsC l).length:Int)) qZ,xDf l (Int.toNat (Int.tmod k (l.length:Int)))] func27
end
theorem rSO(v:Vl)(er st:Int)(wh:BA)(hv:Pu 61 [.agg (vlL v),.agg (vlL v)] (.ret (.bool true))):Pu 29 [.agg (otL v er wh st),.agg (otL v er wh st)] (rB true):=
 pm mdL [rp 6 (et er er),rp 6 (bt (ByteArray.toList wh==ByteArray.toList wh) (bsT rF)),rp 5 (et st st),cl hv,et st st] func29
abbrev sbB_I(l:List Bd)(j:Int)(e:Ext):S:=S.mk [(0,vL 8 (Bd.cs l)),(1,vL 8 (Bd.cs l)),(5,vI6 j)] [] e
section
variable (l:List Bd) (hwb:∀w,w∈l->Pu 61 [.agg (vlL (bdV w)),.agg (vlL (bdV w))] (.ret (.bool true))) (i:Nat) (e:Ext)
include l hwb i e
theorem sbB_b1(hi:i<l.length)(hN:l.length<=1000000000)(cx:Cx)(hcx:cx.n=42){Q:PExit->S->Prop}(hq:Q (.normal) (S.mk [(0,vL 8 (Bd.cs l)),(1,vL 8 (Bd.cs l)),(5,vI6 ((i:Int)+1))] [] e)):PW prog cx (loopF f98 0) (sbB_I l (i:Int) e) Q:=
 pw mdL 42 [sl (Bd.cs_len l),dt ((i:Int)<(l.length:Int)),am ((0:Int)<=(i:Int)/\(i:Int)<((Bd.cs l).length:Int)) qZ,xBd l i hi,am ((0:Int)<=(i:Int)/\(i:Int)<((Bd.cs l).length:Int)) qZ,xBd l i hi,rp 3 (bf (!ByteArray.toList (bdNm (List.getD l i default))==ByteArray.toList (bdNm (List.getD l i default))) (bnF (bsT rF))),am ((0:Int)<=(i:Int)/\(i:Int)<((Bd.cs l).length:Int)) qZ,xBd l i hi,rp 5 (bf (!ByteArray.toList (bdNm (List.getD l i default))==ByteArray.toList (bdNm (List.getD l i default))) (bnF (bsT rF))),am ((0:Int)<=(i:Int)/\(i:Int)<((Bd.cs l).length:Int)) qZ,xBd l i hi,rp 3 (bf (!ByteArray.toList (bdNm (List.getD l i default))==ByteArray.toList (bdNm (List.getD l i default))) (bnF (bsT rF))),cl (@hwb (List.getD l i default) sA),rp 2 (bf (!ByteArray.toList (bdNm (List.getD l i default))==ByteArray.toList (bdNm (List.getD l i default))) (bnF (bsT rF))),bf false,wr ((i:Int)+1)] [0,1,5,4] [] hcx hq
theorem sbB_z1(hi:i=l.length)(hN:l.length<=1000000000)(cx:Cx)(hcx:cx.n=42){Q:PExit->S->Prop}(hq:Q (.exit 0) (S.mk [(0,vL 8 (Bd.cs l)),(1,vL 8 (Bd.cs l)),(5,vI6 (i:Int))] [] e)):PW prog cx (loopF f98 0) (sbB_I l (i:Int) e) Q:=
 pw mdL 42 [sl (Bd.cs_len l),df ((i:Int)<(l.length:Int))] [0,1,5,4] [] hcx hq
end
def sbB_q(l:List Bd)(e:Ext):PExit × S:=(.exit 0,S.mk [(0,vL 8 (Bd.cs l)),(1,vL 8 (Bd.cs l))] [] e)
theorem sbB_lp(l:List Bd)(hwb:∀w,w∈l->Pu 61 [.agg (vlL (bdV w)),.agg (vlL (bdV w))] (.ret (.bool true)))(e:Ext)(hN:l.length<=1000000000)(i:Nat)(hi0:i<=l.length)  : (Ob.loop 42 (loopF f98 0) (sbB_I l (i:Int)  e) (sbB_q l e).1 (sbB_q l e).2).ok prog:=by
 refine Ob.loop_of (P:=prog) (α:={ zz:Nat × Unit // zz.1<=l.length }) (fun zz=>sbB_I l (zz.1.1:Int)  e) (fun zz=>l.length - zz.1.1) (fun zz=>(sbB_q l e)) ?_ ⟨(i,()),hi0⟩
 clear hi0
 clear  i
 rintro ⟨⟨i,u⟩,hi⟩ cx hcx
 simp only at hi  ⊢
 rcases Nat.lt_or_ge i (l.length) with hlt | hge
 ·have hd:=drop_at hlt
  exact sbB_b1 l hwb i  e hlt hN   cx hcx (.inl ⟨rfl,⟨((i+1),()),by simp only; omega⟩,by simp only; omega,xr,by trivial⟩)
 ·have he:i=l.length:=by omega
  subst he
  refine sbB_z1 l hwb (l.length)  e rfl hN   cx hcx (.inr ?_)
  exact ⟨by simp,rfl,xr⟩
theorem sbB(l:List Bd)(hwb:∀w,w∈l->Pu 61 [.agg (vlL (bdV w)),.agg (vlL (bdV w))] (.ret (.bool true)))(e:Ext)(hN:l.length<=1000000000)  : (Ob.loop 42 (loopF f98 0) (sbB_I l 0  e) (sbB_q l e).1 (sbB_q l e).2).ok prog:=by
 have:=sbB_lp l hwb e hN 0  (Nat.zero_le _)
 exact this
theorem rSameBinds(l:List Bd)(hwb:∀w,w∈l->Pu 61 [.agg (vlL (bdV w)),.agg (vlL (bdV w))] (.ret (.bool true)))(hll:l.length<=1000000000):Pu 98 [.sl 8 (Bd.cs l),.sl 8 (Bd.cs l)] (rB true):=
 pu mdL (fun e=>[rp 2 (sl (Bd.cs_len l)),nn (l.length:Int) (l.length:Int),lp (S.mk [(0,vL 8 (Bd.cs l)),(1,vL 8 (Bd.cs l)),(4,.v (.bool false)),(6,vL 8 (Bd.cs l)),(7,vI6 (l.length:Int)),(8,vL 8 (Bd.cs l)),(9,vI6 (l.length:Int)),(10,.v (.bool ((l.length:Int) != (l.length:Int)))),(5,vI6 0)] [] e) (@sbB (l) hwb (e) hll) xr]) func98
abbrev s9A_I(x:Vl)(j:Int)(e:Ext):S:=S.mk [(2,.lp 2 0),(3,.lp 3 0),(5,vI6 j)] [(2,vlV x),(3,vlV x)] e
section
variable (x:Vl) (hwn:Pu 97 [.sl 1 (nmsC (vlP x)),.sl 1 (nmsC (vlP x))] (.ret (.bool true))) (hwb:Pu 98 [.sl 8 (Bd.cs (vlBd x)),.sl 8 (Bd.cs (vlBd x))] (.ret (.bool true))) (hwe:Pu 54 [.sl 7 (Ex.cs (vlB x)),.sl 7 (Ex.cs (vlB x))] (.ret (.bool true))) (hwk:∀w,w∈vlK x->Pu 61 [.agg (vlL w),.agg (vlL w)] (.ret (.bool true))) (i:Nat) (e:Ext)
include x hwn hwb hwe hwk i e
theorem s9A_b1(hi:i<(vlK x).length)(hN:(vlK x).length<=1000000000)(cx:Cx)(hcx:cx.n=75){Q:PExit->S->Prop}(hq:Q (.normal) (S.mk [(2,.lp 2 0),(3,.lp 3 0),(5,vI6 ((i:Int)+1))] [(2,vlV x),(3,vlV x)] e)):PW prog cx (loopF f61 0) (s9A_I x (i:Int) e) Q:=
 pw mdL 75 [sl (Vl.cs_len (vlK x)),dt ((i:Int)<((vlK x).length:Int)),am ((0:Int)<=(i:Int)/\(i:Int)<((Vl.cs (vlK x)).length:Int)) qZ,xVl (vlK x) i hi,am ((0:Int)<=(i:Int)/\(i:Int)<((Vl.cs (vlK x)).length:Int)) qZ,xVl (vlK x) i hi,cl (@hwk (List.getD (vlK x) i default) sA),bf false,wr ((i:Int)+1)] [2,3,5,4] [2,3] hcx hq
theorem s9A_z1(hi:i=(vlK x).length)(hN:(vlK x).length<=1000000000)(cx:Cx)(hcx:cx.n=75){Q:PExit->S->Prop}(hq:Q (.exit 0) (S.mk [(2,.lp 2 0),(3,.lp 3 0),(5,vI6 (i:Int))] [(2,vlV x),(3,vlV x)] e)):PW prog cx (loopF f61 0) (s9A_I x (i:Int) e) Q:=
 pw mdL 75 [sl (Vl.cs_len (vlK x)),df ((i:Int)<((vlK x).length:Int))] [2,3,5,4] [2,3] hcx hq
end
def s9A_q(x:Vl)(e:Ext):PExit × S:=(.exit 0,S.mk [(2,.lp 2 0),(3,.lp 3 0)] [(2,vlV x),(3,vlV x)] e)
theorem s9A_lp(x:Vl)(hwn:Pu 97 [.sl 1 (nmsC (vlP x)),.sl 1 (nmsC (vlP x))] (.ret (.bool true)))(hwb:Pu 98 [.sl 8 (Bd.cs (vlBd x)),.sl 8 (Bd.cs (vlBd x))] (.ret (.bool true)))(hwe:Pu 54 [.sl 7 (Ex.cs (vlB x)),.sl 7 (Ex.cs (vlB x))] (.ret (.bool true)))(hwk:∀w,w∈vlK x->Pu 61 [.agg (vlL w),.agg (vlL w)] (.ret (.bool true)))(e:Ext)(hN:(vlK x).length<=1000000000)(i:Nat)(hi0:i<=(vlK x).length)  : (Ob.loop 75 (loopF f61 0) (s9A_I x (i:Int)  e) (s9A_q x e).1 (s9A_q x e).2).ok prog:=by
 refine Ob.loop_of (P:=prog) (α:={ zz:Nat × Unit // zz.1<=(vlK x).length }) (fun zz=>s9A_I x (zz.1.1:Int)  e) (fun zz=>(vlK x).length - zz.1.1) (fun zz=>(s9A_q x e)) ?_ ⟨(i,()),hi0⟩
 clear hi0
 clear  i
 rintro ⟨⟨i,u⟩,hi⟩ cx hcx
 simp only at hi  ⊢
 rcases Nat.lt_or_ge i ((vlK x).length) with hlt | hge
 ·have hd:=drop_at hlt
  exact s9A_b1 x hwn hwb hwe hwk i  e hlt hN   cx hcx (.inl ⟨rfl,⟨((i+1),()),by simp only; omega⟩,by simp only; omega,xr,by trivial⟩)
 ·have he:i=(vlK x).length:=by omega
  subst he
  refine s9A_z1 x hwn hwb hwe hwk ((vlK x).length)  e rfl hN   cx hcx (.inr ?_)
  exact ⟨by simp,rfl,xr⟩
theorem s9A(x:Vl)(hwn:Pu 97 [.sl 1 (nmsC (vlP x)),.sl 1 (nmsC (vlP x))] (.ret (.bool true)))(hwb:Pu 98 [.sl 8 (Bd.cs (vlBd x)),.sl 8 (Bd.cs (vlBd x))] (.ret (.bool true)))(hwe:Pu 54 [.sl 7 (Ex.cs (vlB x)),.sl 7 (Ex.cs (vlB x))] (.ret (.bool true)))(hwk:∀w,w∈vlK x->Pu 61 [.agg (vlL w),.agg (vlL w)] (.ret (.bool true)))(e:Ext)(hN:(vlK x).length<=1000000000)  : (Ob.loop 75 (loopF f61 0) (s9A_I x 0  e) (s9A_q x e).1 (s9A_q x e).2).ok prog:=by
 have:=s9A_lp x hwn hwb hwe hwk e hN 0  (Nat.zero_le _)
 exact this
theorem same9_ok:∀ (d:Nat) (v:Vl),SizeOf.sizeOf v<d->SmV v->Pu 61 [.agg (vlL v),.agg (vlL v)] (.ret (.bool true))
 | 0,_,h,_=>by omega
 | d+1,v,h,hs=>by
  obtain ⟨h1,h2,h3,h4,h5,h6⟩:=SmV_parts hs
  exact pu mdL (fun e=>[rp 6 (nn (vlO v) (vlO v)),rp 6 (nn (vlN v) (vlN v)),rp 3 (bf (!ByteArray.toList (vlNm v)==ByteArray.toList (vlNm v)) (bnF (bsT rF))),sl (Vl.cs_len (vlK v)),rp 3 (bf (!ByteArray.toList (vlNm v)==ByteArray.toList (vlNm v)) (bnF (bsT rF))),sl (Vl.cs_len (vlK v)),rp 2 (bf (!ByteArray.toList (vlNm v)==ByteArray.toList (vlNm v)) (bnF (bsT rF))),rp 5 (nn ((vlK v).length:Int) ((vlK v).length:Int)),cl (rSameNames _ h2),rp 2 (nn ((vlK v).length:Int) ((vlK v).length:Int)),rp 5 (bf false),cl (rSameBinds _ (fun b hb=>same9_ok d (bdV b) (by have:=vbd_lt hb; omega) (SmBs_at h6 b hb)) h3),rp 3 (bf false),cl (rSameBodies _ (fun x hx=>sameExpr_ok _ x (Nat.lt_succ_self _) (h4 x hx)) (SmV_body hs)),bf false,lp (S.mk [(0,.v (.agg (vlL v))),(1,.v (.agg (vlL v))),(2,.lp 2 0),(3,.lp 3 0),(4,.v (.bool false)),(6,.lp 2 0),(7,vI6 (vlO v)),(8,.lp 3 0),(9,vI6 (vlO v)),(10,.v (.bool (vlO v != vlO v))),(11,.v (.bool (vlO v != vlO v))),(12,.lp 2 1),(13,vI6 (vlN v)),(14,.lp 3 1),(15,vI6 (vlN v)),(16,.v (.bool (vlN v != vlN v))),(17,.v (.bool (vlN v != vlN v))),(18,.v (.bool (vlN v != vlN v))),(19,.lp 2 2),(20,vS (vlNm v)),(21,.lp 3 2),(22,vS (vlNm v)),(23,.v (.bool !ByteArray.toList (vlNm v)==ByteArray.toList (vlNm v))),(24,.v (.bool !ByteArray.toList (vlNm v)==ByteArray.toList (vlNm v))),(25,.v (.bool !ByteArray.toList (vlNm v)==ByteArray.toList (vlNm v))),(26,.lp 2 3),(27,vL 7 (Vl.cs (vlK v))),(28,vI6 ((vlK v).length:Int)),(29,.lp 3 3),(30,vL 7 (Vl.cs (vlK v))),(31,vI6 ((vlK v).length:Int)),(32,.v (.bool (((vlK v).length:Int) != ((vlK v).length:Int)))),(33,.v (.bool (((vlK v).length:Int) != ((vlK v).length:Int)))),(34,.v (.bool (((vlK v).length:Int) != ((vlK v).length:Int)))),(35,.lp 2 4),(36,vL 1 (nmsC (vlP v))),(37,.lp 3 4),(38,vL 1 (nmsC (vlP v))),(39,.v (.bool true)),(40,.v (.bool false)),(41,.v (.bool false)),(42,.v (.bool false)),(43,.lp 2 6),(44,vL 8 (Bd.cs (vlBd v))),(45,.lp 3 6),(46,vL 8 (Bd.cs (vlBd v))),(47,.v (.bool true)),(48,.v (.bool false)),(49,.v (.bool false)),(50,.lp 2 5),(51,vL 7 (Ex.cs (vlB v))),(52,.lp 3 5),(53,vL 7 (Ex.cs (vlB v))),(54,.v (.bool true)),(55,.v (.bool false)),(5,vI6 0)] [(2,vlV v),(3,vlV v)] e) (@s9A (v) (rSameNames _ h2) (rSameBinds _ (fun b hb=>same9_ok d (bdV b) (by have:=vbd_lt hb; omega) (SmBs_at h6 b hb)) h3) (rSameBodies _ (fun x hx=>sameExpr_ok _ x (Nat.lt_succ_self _) (h4 x hx)) (SmV_body hs)) (fun w hw=>same9_ok d w (by have:=vkid_lt hw; omega) (SmVs_at h5 w hw)) (e) h1) xr]) func61
theorem rSOT{v:Vl}(hs:SmV v)(er st:Int)(wh:BA):Pu 29 [.agg (otL v er wh st),.agg (otL v er wh st)] (.ret (.bool true)):=rSO v er st wh (same9_ok _ v (Nat.lt_succ_self _) hs)
theorem in_bulk1(w:In):bulkPss (dfsC (inDs w))+2<=bulkPs (inL w):=by
 show _<=bulkPs (.str (inNm w)::(tpL (inTp w)++[inNd w,.sl 25 (dfsC (inDs w))]))
 rw [bulkPs,bulkPs_append]
 simp only [bulkP,bulkPs]
 omega
theorem in_bulk{ins:List In}{w:In}(h:w∈ins):bulkPss (dfsC (inDs w))<=bulkPss (insC ins):=by
 have h1:=mem_bulk (l:=insC ins) (c:=inL w) (by rw [insC_eq]; exact List.mem_map_of_mem h)
 have h2:=in_bulk1 w
 omega
theorem dfs_len(l:List Df):l.length<=bulkPss (dfsC l):=by
 have:=len_bulk (l:=dfsC l) fun c hc=>by
  rw [dfsC_eq] at hc
  obtain ⟨x,-,rfl⟩:=List.mem_map.1 hc
  have:=df_bulk x
  omega
 rwa [dfsC_len] at this
theorem ins_len:∀ins:List In,2 * ins.length+(ins.flatMap inDs).length<=bulkPss (insC ins)
 | []=>by simp
 | w::r=>by
  have h1:=ins_len r
  have h2:=dfs_len (inDs w)
  have h3:=in_bulk1 w
  rw [insC,bulkPss,List.flatMap_cons,List.length_append,List.length_cons]
  omega
section
variable (d0 d1 d3 d4:List (List PV)) (z0 z1 z3 z4:Nat) (ins:List In) (l:List Df)
abbrev mdI:PV := .agg [.sl z0 d0,.sl z1 d1,.sl 12 (insC ins),.sl z3 d3,.sl z4 d4,.sl 25 (dfsC l)]
theorem size_ex(hl:bulkPss (dfsC l)<=1048576)(hi:bulkPss (insC ins)<=1048576):∃k,Pu 55 [mdI d0 d1 d3 d4 z0 z1 z3 z4 ins l] (.ret (.int .i64 k)):=by
 have h1:=ins_len ins
 have h2:=dfs_len l
 refine ⟨_,rSize d0 d1 d3 d4 z0 z1 z3 z4 ins l _ (fun xe=>sz_loop d0 d1 d3 d4 z0 z1 z3 z4 ins l oM (by rw [List.length_append]; omega) xe) (fun w hw=>rNodesT ?_) (by rw [List.length_append]; omega) ?_⟩
 ·rcases List.mem_append.1 hw with hw | hw
  ·have h3:=dfs_bulk hw
   have h4:=df_bulk w
   omega
  ·obtain ⟨i,hi1,hi2⟩:=List.mem_flatMap.1 hw
   have h3:=dfs_bulk hi2
   have h4:=df_bulk w
   have h5:=in_bulk hi1
   omega
 ·simp only [List.nil_append,dfsC_len]
  omega
theorem name31_ex(hl:l.length<=1000000000)(k:Int)(hk0:0<=k)(hk1:k<=255):∃nm,Pu 27 [mdI d0 d1 d3 d4 z0 z1 z3 z4 ins l,.int .u8 k] (.ret (.str nm)):=by
 by_cases h0:l.length=0
 ·exact ⟨_,rNm0 d0 d1 d3 d4 z0 z1 z3 z4 ins l k hk0 hk1 hl h0⟩
 ·have hp:0<l.length:=by omega
  have e:Int.tmod k (l.length:Int)=((k.toNat % l.length:Nat):Int):=by
   rw [Int.tmod_eq_emod_of_nonneg hk0,Int.natCast_emod,Int.toNat_of_nonneg hk0]
  exact ⟨_,rNm1 d0 d1 d3 d4 z0 z1 z3 z4 ins l k hk0 hk1 hl hp _ (Nat.mod_lt _ hp) e⟩
end
section
variable (S:List Int)
theorem rd_O(v:Vl):vlO (rdV S v)=vlO v:=by cases v; rw [rdV]; rfl
theorem rd_N{v:Vl}(h:¬vlO v=4):vlN (rdV S v)=vlN v:=by cases v; rw [rdV]; exact iN h
theorem rd_N4{v:Vl}(h:vlO v=4):vlN (rdV S v)=S.getD (vlN v).toNat 0:=by cases v; rw [rdV]; exact iP h
theorem rd_Nm(v:Vl):vlNm (rdV S v)=vlNm v:=by cases v; rw [rdV]; rfl
theorem rd_K(v:Vl):vlK (rdV S v)=rdVs S (vlK v):=by cases v; rw [rdV]; rfl
theorem rd_P(v:Vl):vlP (rdV S v)=vlP v:=by cases v; rw [rdV]; rfl
theorem rd_B(v:Vl):vlB (rdV S v)=vlB v:=by cases v; rw [rdV]; rfl
theorem rd_Bd(v:Vl):vlBd (rdV S v)=rdBs S (vlBd v):=by cases v; rw [rdV]; rfl
theorem rdVs_nil:rdVs S []=[]:=by rw [rdVs]
theorem rdVs_cons(v:Vl)(r:List Vl):rdVs S (v::r)=rdV S v::rdVs S r:=by rw [rdVs]
theorem rdBs_nil:rdBs S []=[]:=by rw [rdBs]
theorem rdBs_cons(n:BA)(v:Vl)(r:List Bd):rdBs S (.mk n v::r) = .mk n (rdV S v)::rdBs S r:=by rw [rdBs]
theorem rdBs_app:∀ (a b:List Bd),rdBs S (a++b)=rdBs S a++rdBs S b
 | [],b=>by rw [rdBs]; rfl
 | .mk n v::r,b=>by rw [List.cons_append,rdBs_cons,rdBs_cons,rdBs_app,List.cons_append]
theorem rd_rev:∀ (l:List Bd),rdBs S l.reverse=(rdBs S l).reverse
 | []=>by rw [rdBs]; rfl
 | .mk n v::r=>by rw [List.reverse_cons,rdBs_app,rd_rev,rdBs_cons,rdBs_cons,rdBs_nil,List.reverse_cons]
theorem rd_bnds:∀ (ps:List BA) (vs:List Vl) (acc:List Bd),rdBs S (bnds ps vs acc)=bnds ps (rdVs S vs) (rdBs S acc)
 | [],_,acc=>by rw [bnds,bnds] <;> simp
 | _::_,[],acc=>by rw [rdVs_nil,bnds,bnds] <;> simp
 | p::ps,v::vs,acc=>by rw [rdVs_cons,bnds,bnds,rd_bnds,rdBs_cons]
theorem rd_find(n:BA):∀ (l:List Bd),findB n (rdBs S l)=(findB n l).map (rdV S)
 | []=>by rw [rdBs_nil,findB]; rfl
 | .mk m v::r=>by
  rw [rdBs_cons,findB,findB]
  by_cases h:m=n
  ·rw [iP (show bdNm (.mk m (rdV S v))=n from h),iP (show bdNm (.mk m v)=n from h)]; rfl
  ·rw [iN (show ¬bdNm (.mk m (rdV S v))=n from h),iN (show ¬bdNm (.mk m v)=n from h)]; exact rd_find n r
theorem rd_lamB(env:List Bd):∀ (fs:List BA),rdBs S (lamB env fs)=lamB (rdBs S env) fs
 | []=>by rw [lamB,lamB,rdBs_nil]
 | n::r=>by
  rw [lamB,lamB,rd_find]
  cases findB n env with
  | none=>exact rd_lamB env r
  | some v=>show rdBs S (.mk n v::lamB env r)=_; rw [rdBs_cons,rd_lamB env r]; rfl
theorem rd_vX{k:Int}(n:Int)(h:¬k=4):rdV S (vX k n)=vX k n:=by rw [rdV,rdVs_nil,rdBs_nil,iN h]
theorem rd_vF(n:BA):rdV S (vF n)=vF n:=by rw [rdV,rdVs_nil,rdBs_nil,iN dD]
theorem rd_vD(n:BA)(l:List Vl):rdV S (vD n l)=vD n (rdVs S l):=by rw [rdV,rdBs_nil,iN dD]
theorem rd_lam(fr:Ex->List BA)(env:List Bd)(x:Ex):rdV S (lamV fr env x)=lamV fr (rdBs S env) x:=by rw [rdV,rdVs_nil,rd_lamB,iN dD]
end
inductive NsE:Ex->Prop
 | mk {x:Ex} (h:¬exO x=24) (hk:∀y,y∈exK x->NsE y) (ha:∀a,a∈exA x->NsE (alB a)):NsE x
inductive Nv (N:Nat):Vl->Prop
 | mk {v:Vl} (h:vlO v=4->0<=vlN v/\vlN v<N) (hb:∀x,x∈vlB v->NsE x) (hk:∀w,w∈vlK v->Nv N w) (hd:∀b,b∈vlBd v->Nv N (bdV b)):Nv N v
def NVs(N:Nat)(l:List Vl):Prop:=∀v,v∈l->Nv N v
def NBs(N:Nat)(l:List Bd):Prop:=∀b,b∈l->Nv N (bdV b)
theorem NsE.kid{x:Ex}(h:NsE x){i:Nat}(hi:i<(exK x).length):NsE (kid x i):=by cases h with | mk _ hk _=>exact hk _ (kid_mem hi)
theorem NsE.kids{x:Ex}(h:NsE x):∀y,y∈exK x->NsE y:=by cases h with | mk _ hk _=>exact hk
theorem NsE.alt{x:Ex}(h:NsE x){n:BA}{a:Al}(hf:findA n (exA x)=some a):NsE (alB a):=by cases h with | mk _ _ ha=>exact ha _ (findA_mem hf)
theorem NsE.op{x:Ex}(h:NsE x):¬exO x=24:=by cases h with | mk h _ _=>exact h
theorem Nv.mono{N M:Nat}(h:N<=M){v:Vl}(g:Nv N v):Nv M v:=by
 induction g with
 | mk h1 hb hk hd ih1 ih2=>exact .mk (fun e=>by have:=h1 e; omega) hb ih1 ih2
theorem NBs.mono{N M:Nat}(h:N<=M){l:List Bd}(g:NBs N l):NBs M l:=fun v hv=>(g v hv).mono h
section
variable {N:Nat}
theorem Nv.kK{v:Vl}(h:Nv N v):NVs N (vlK v):=by cases h with | mk _ _ hk _=>exact hk
theorem Nv.kD{v:Vl}(h:Nv N v):NBs N (vlBd v):=by cases h with | mk _ _ _ hd=>exact hd
theorem Nv.kB{v:Vl}(h:Nv N v):∀x,x∈vlB v->NsE x:=by cases h with | mk _ hb _ _=>exact hb
theorem Nv.kO{v:Vl}(h:Nv N v):vlO v=4->0<=vlN v/\vlN v<N:=by cases h with | mk h _ _ _=>exact h
theorem Nv.mX{k:Int}(n:Int)(h:¬k=4):Nv N (.mk k n nm0 [] [] [] []) := .mk (fun e=>absurd e h) (fun _ h=>by cases h) (fun _ h=>by cases h) (fun _ h=>by cases h)
theorem Nv.mF(n:BA):Nv N (.mk 5 0 n [] [] [] []) := .mk (fun e=>absurd (show (5:Int)=4 from e) dD) (fun _ h=>by cases h) (fun _ h=>by cases h) (fun _ h=>by cases h)
theorem Nv.mD(n:BA){l:List Vl}(h:NVs N l):Nv N (.mk 3 0 n l [] [] []) := .mk (fun e=>absurd (show (3:Int)=4 from e) dD) (fun _ h=>by cases h) h (fun _ h=>by cases h)
theorem NVs.nil:NVs N []:=fun _ h=>by cases h
theorem NBs.nil:NBs N []:=fun _ h=>by cases h
theorem NVs.cons{v:Vl}{l:List Vl}(h:Nv N v)(g:NVs N l):NVs N (v::l):=fun w hw=>by
 rcases List.mem_cons.1 hw with rfl | hw
 ·exact h
 ·exact g w hw
theorem NVs.one{v:Vl}(h:Nv N v):NVs N [v] := .cons h .nil
theorem NVs.get{v:Vl}{l:List Vl}(h:NVs N (v::l)):Nv N v:=h v List.mem_cons_self
theorem NBs.cons{n:BA}{v:Vl}{l:List Bd}(h:Nv N v)(g:NBs N l):NBs N (.mk n v::l):=fun w hw=>by
 rcases List.mem_cons.1 hw with rfl | hw
 ·exact h
 ·exact g w hw
theorem NBs.find{n:BA}:∀ {l:List Bd} {v:Vl},NBs N l->findB n l=some v->Nv N v
 | b::r,v,h,hf=>by
  rw [findB] at hf
  split at hf
  ·injection hf with hf; subst hf; exact h b List.mem_cons_self
  ·exact NBs.find (fun c hc=>h c (List.mem_cons_of_mem _ hc)) hf
theorem NBs.mbs:∀ {ps:List BA} {vs:List Vl} {acc:List Bd},NVs N vs->NBs N acc->NBs N (bnds ps vs acc)
 | [],_,acc,_,h=>by rw [bnds]; exact h; simp
 | _::_,[],acc,_,h=>by rw [bnds]; exact h; simp
 | p::ps,v::vs,acc,hv,h=>by
  rw [bnds]
  exact NBs.mbs (fun w hw=>hv w (List.mem_cons_of_mem _ hw)) (.cons hv.get h)
theorem NBs.rev{l:List Bd}(h:NBs N l):NBs N l.reverse:=fun b hb=>h b (List.mem_reverse.1 hb)
theorem NBs.mlb{env:List Bd}(h:NBs N env):∀ (fs:List BA),NBs N (lamB env fs)
 | []=>by rw [lamB]; exact .nil
 | n::r=>by
  have h1:=NBs.mlb h r
  rw [lamB]
  split
  ·rename_i v hv; exact .cons (h.find hv) h1
  ·exact h1
theorem Nv.lam(fr:Ex->List BA){env:List Bd}{x:Ex}(h:NBs N env)(hx:NsE x)(hk:(exK x).length=1):Nv N (lamV fr env x):=
 .mk (fun e=>absurd (show (5:Int)=4 from e) dD) (fun y hy=>by rw [show y=kid x 0 from List.mem_singleton.1 hy]; exact hx.kid oM) (fun _ h=>by cases h) (h.mlb _)
end
def NT(N:Nat):Tk->Prop
 | .ex env x=>NBs N env/\NsE x
 | .li env xs=>NBs N env/\∀x,x∈xs->NsE x
 | .app f args=>Nv N f/\NVs N args
 | .call d args=>NsE (dfB d)/\NVs N args
 | .con d=>NsE (dfB d)
 | .run d env=>NsE (dfB d)/\NBs N env
def rdT(S:List Int):Tk->Tk
 | .ex env x => .ex (rdBs S env) x
 | .li env xs => .li (rdBs S env) xs
 | .app f args => .app (rdV S f) (rdVs S args)
 | .call d args => .call d (rdVs S args)
 | .con d => .con d
 | .run d env => .run d (rdBs S env)
def rdO(S:List Int):Co->Oc
 | .ok vs st => .ok (rdVs S vs) st.n
 | .er k st wh => .er k st.n wh
def NO:Co->Prop
 | .ok vs st=>NVs st.s.length vs
 | .er _ _ _=>True
theorem cTe(b:Bool):cTruth_r0 b=eTruth_r0 b:=rfl
theorem cIe(n:Int)(ok:Bool):cInt_s n ok=eInteger_s n ok:=rfl
theorem getD_pre{s S:List Int}(h:s <+: S){i:Nat}(hi:i<s.length):S.getD i 0=s.getD i 0:=by
 obtain ⟨u,rfl⟩:=h
 simp [List.getD,List.getElem?_append_left hi]
theorem o1_pl{op:Int}(h:isOne op){v:Vl}{st:St}(wh:BA)(hv:Nv st.s.length v):(st.s <+: (cS.one op v st wh).st.s/\(cS.one op v st wh).st.w=st.w/\NO (cS.one op v st wh))/\∀S,(cS.one op v st wh).st.s <+: S->rdO S (cS.one op v st wh)=semE.one op (rdV S v) st.n wh:=by
 unfold CSem.one Sem.one
 simp only [cS,cS1,semE,rd_O]
 rcases h with rfl | rfl | rfl | rfl
 ·by_cases ho:vlO v=1
  ·have hn:=fun S=>rd_N S (v:=v) oM
   by_cases hi:cInt_s (nSub_r0 0 (vlN v)) (nSub_r1 0 (vlN v))=true
   ·refine ⟨by simp [ho,hi,cxc,NO,NVs.one,Nv.mX,Co.st],fun S hS=>?_⟩
    rw [hn S]
    rw [cIe] at hi
    simp [ho,hi,cIe,cxc,exc,rdO,rdVs_cons,rdVs_nil,rd_vX,eOne_s,eOne_t_r0,eOne_t_r1]
   ·refine ⟨by simp [ho,hi,cxc,NO,Co.st],fun S hS=>?_⟩
    rw [hn S]
    rw [cIe] at hi
    simp [ho,hi,cIe,cxc,exc,rdO,eOne_s,eOne_f_r0]
  ·exact ⟨by simp [ho,cxc,NO,Co.st],fun S hS=>by simp [ho,cxc,exc,rdO,eOne_s,eOne_f_r0]⟩
 ·by_cases ho:vlO v=2
  ·have hn:=fun S=>rd_N S (v:=v) oM
   refine ⟨by simp [ho,cxc,NO,NVs.one,Nv.mX,Co.st],fun S hS=>?_⟩
   rw [hn S]
   simp [ho,cxc,exc,rdO,rdVs_cons,rdVs_nil,rd_vX,eOne_s,eOne_t_r0,eOne_t_r1,cTe]
  ·exact ⟨by simp [ho,cxc,NO,Co.st],fun S hS=>by simp [ho,cxc,exc,rdO,eOne_s,eOne_f_r0]⟩
 ·by_cases ho:vlO v=1
  ·have hn:=fun S=>rd_N S (v:=v) oM
   refine ⟨?_,fun S hS=>?_⟩
   ·simp only [ho,cxc,NO,Co.st,if_true,if_false,show ¬(22:Int)=15 by decide,show ¬(22:Int)=21 by decide]
    refine ⟨List.prefix_append _ _,by trivial,.one (.mk (fun _=>?_) (fun _ h=>by cases h) (fun _ h=>by cases h) (fun _ h=>by cases h))⟩
    simp only [vlN,List.length_append,List.length_cons,List.length_nil]
    omega
   ·simp only [ho,cxc,Co.st,if_true,if_false,show ¬(22:Int)=15 by decide,show ¬(22:Int)=21 by decide] at hS ⊢
    have e:=getD_pre hS (i:=st.s.length) sM
    rw [hn S]
    have e2:(st.s++[vlN v]).getD st.s.length 0=vlN v:=by simp [List.getD]
    rw [e2] at e
    simp only [rdO,rdVs_cons,rdVs_nil,rdV,rdBs_nil,if_true,Int.toNat_natCast,e]
    simp [exc,eOne_s,eOne_t_r0,eOne_t_r1]
  ·exact ⟨by simp [ho,cxc,NO,Co.st],fun S hS=>by simp [ho,cxc,exc,rdO,eOne_s,eOne_f_r0]⟩
 ·by_cases ho:vlO v=4
  ·refine ⟨by simp [ho,cxc,NO,NVs.one,Nv.mX,Co.st],fun S hS=>?_⟩
   have hr:=hv.kO ho
   simp only [ho,cxc,Co.st,if_true,if_false,show ¬(23:Int)=15 by decide,show ¬(23:Int)=21 by decide,show ¬(23:Int)=22 by decide] at hS ⊢
   rw [rd_N4 S ho,getD_pre hS oM]
   simp [exc,rdO,rdVs_cons,rdVs_nil,rd_vX,eOne_s,eOne_t_r0,eOne_t_r1]
  ·exact ⟨by simp [ho,cxc,NO,Co.st],fun S hS=>by simp [ho,cxc,exc,rdO,eOne_s,eOne_f_r0]⟩
theorem cD_semE{op:Int}(h:isTwo op)(h24:¬op=24)(a b:Vl)(S:List Int):cD op a b=semE.o2 op (rdV S a) (rdV S b):=by
 have k1:∀ {v:Vl},vlO v=1->vlN (rdV S v)=vlN v:=fun h=>rd_N S oM
 have k2:∀ {v:Vl},vlO v=2->vlN (rdV S v)=vlN v:=fun h=>rd_N S oM
 unfold cD cI
 simp only [semE,rd_O,cIe,cTe]
 by_cases h1:vlO a=1
 ·rw [k1 h1]
  by_cases h2:vlO b=1
  ·rw [k1 h2]
   rcases h with rfl | rfl | rfl | rfl | rfl | rfl | rfl | rfl | rfl <;> first | exact absurd rfl h24 | skip
   all_goals simp [h1,h2,eCompute_s,eCompute_t_r0,eCompute_t_r1,eCompute_f_r0,eBoth_r0]
   all_goals by_cases h5:vlN b=0 <;> (try simp only [h5,if_true,if_false]) <;> (try rfl) <;> (split <;> rename_i hq <;> simp_all)
  ·rcases h with rfl | rfl | rfl | rfl | rfl | rfl | rfl | rfl | rfl <;> first | exact absurd rfl h24 | skip
   all_goals simp [h1,h2,Ne.symm h2,eCompute_s,eCompute_f_r0,eBoth_r0]
 ·by_cases h3:vlO a=2
  ·rw [k2 h3]
   by_cases h4:vlO b=2
   ·rw [k2 h4]
    rcases h with rfl | rfl | rfl | rfl | rfl | rfl | rfl | rfl | rfl <;> first | exact absurd rfl h24 | simp [h3,h4,eCompute_s,eCompute_t_r0,eCompute_t_r1,eCompute_f_r0,eBoth_r0]
   ·rcases h with rfl | rfl | rfl | rfl | rfl | rfl | rfl | rfl | rfl <;> first | exact absurd rfl h24 | simp [h3,h4,Ne.symm h4,eCompute_s,eCompute_f_r0,eBoth_r0]
  ·rcases h with rfl | rfl | rfl | rfl | rfl | rfl | rfl | rfl | rfl <;> first | exact absurd rfl h24 | simp [h1,h3,eCompute_s,eCompute_f_r0,eBoth_r0]
theorem o2_pl{op:Int}(h:isTwo op)(h24:¬op=24){a b:Vl}{st:St}(wh:BA):(st.s <+: (cS.two op a b st wh).st.s/\(cS.two op a b st wh).st.w=st.w/\NO (cS.two op a b st wh))/\∀S,rdO S (cS.two op a b st wh)=semE.two op (rdV S a) (rdV S b) st.n wh:=by
 unfold CSem.two Sem.two
 simp only [cS,cS2,iN h24,<-cD_semE h h24]
 cases hc:cD op a b with
 | error k=>exact ⟨⟨List.prefix_rfl,rfl,tV⟩,fun S=>rfl⟩
 | ok v=>
  obtain ⟨k,n,rfl,hk⟩:=cD_ok hc
  refine ⟨⟨List.prefix_rfl,rfl,.one (.mX _ oM)⟩,fun S=>?_⟩
  simp only [cxc,exc,rdO,rdVs_cons,rdVs_nil]
  rw [rd_vX S n oM]
section
variable {l:List Df} {fu:Int} {t:Tk} {st:St} {wh:BA} {o:Co}
theorem Cv.plain(hD:∀d,d∈l->NsE (dfB d))(h:Cv cS l fu t st wh o):NT st.s.length t->(st.s <+: o.st.s/\o.st.w=st.w/\NO o)/\∀S,o.st.s <+: S->Ev semE l fu (rdT S t) st.n wh (rdO S o):=by
 induction h with
 | @runF d env st wh h=>
  intro c
  refine ⟨⟨List.prefix_rfl,rfl,tV⟩,fun S hS=>?_⟩
  simp only [rdT,rdO,rdVs_cons,rdVs_nil,rd_bnds,rdBs_cons,rdBs_nil,rd_rev,rd_K,rd_Bd,rd_B,rd_P,rd_Nm,St.tick]
  exact .runF h
 | @runG d env st wh o h g ih=>
  intro c
  obtain ⟨p1,e1⟩:=ih ⟨c.2,c.1⟩
  refine ⟨⟨p1.1,p1.2.1,p1.2.2⟩,fun S hS=>?_⟩
  have z1:=e1 S hS
  simp only [rdT,rdO,rdVs_cons,rdVs_nil,rd_bnds,rdBs_cons,rdBs_nil,rd_rev,rd_K,rd_Bd,rd_B,rd_P,rd_Nm,St.tick] at z1 ⊢
  exact .runG h z1
 | @callA d args st wh h=>
  intro c
  refine ⟨⟨List.prefix_rfl,rfl,tV⟩,fun S hS=>?_⟩
  simp only [rdT,rdO,rdVs_cons,rdVs_nil,rd_bnds,rdBs_cons,rdBs_nil,rd_rev,rd_K,rd_Bd,rd_B,rd_P,rd_Nm,St.tick]
  exact .callA h
 | @callN d args st wh h h1=>
  intro c
  refine ⟨⟨List.prefix_rfl,rfl,tV⟩,fun S hS=>?_⟩
  simp only [rdT,rdO,rdVs_cons,rdVs_nil,rd_bnds,rdBs_cons,rdBs_nil,rd_rev,rd_K,rd_Bd,rd_B,rd_P,rd_Nm,St.tick]
  exact .callN h (by simpa only [rd_O,rd_Nm,rd_B,rd_P,rd_K,rdVs_count] using h1)
 | @callG d args st wh o h h1 h2 g ih=>
  intro c
  obtain ⟨p1,e1⟩:=ih ⟨c.1,.mbs c.2 .nil⟩
  refine ⟨⟨p1.1,p1.2.1,p1.2.2⟩,fun S hS=>?_⟩
  have z1:=e1 S hS
  simp only [rdT,rdO,rdVs_cons,rdVs_nil,rd_bnds,rdBs_cons,rdBs_nil,rd_rev,rd_K,rd_Bd,rd_B,rd_P,rd_Nm,St.tick] at z1 ⊢
  exact .callG h h1 (by simpa only [rd_O,rd_Nm,rd_B,rd_P,rd_K,rdVs_count] using h2) z1
 | @conA d st wh h=>
  intro c
  refine ⟨⟨List.prefix_rfl,rfl,tV⟩,fun S hS=>?_⟩
  simp only [rdT,rdO,rdVs_cons,rdVs_nil,rd_bnds,rdBs_cons,rdBs_nil,rd_rev,rd_K,rd_Bd,rd_B,rd_P,rd_Nm,St.tick]
  exact .conA h
 | @conG d st wh o h g ih=>
  intro c
  obtain ⟨p1,e1⟩:=ih ⟨c,.nil⟩
  refine ⟨⟨p1.1,p1.2.1,p1.2.2⟩,fun S hS=>?_⟩
  have z1:=e1 S hS
  simp only [rdT,rdO,rdVs_cons,rdVs_nil,rd_bnds,rdBs_cons,rdBs_nil,rd_rev,rd_K,rd_Bd,rd_B,rd_P,rd_Nm,St.tick] at z1 ⊢
  exact .conG h z1
 | @appO f args st wh h=>
  intro c
  refine ⟨⟨List.prefix_rfl,rfl,tV⟩,fun S hS=>?_⟩
  simp only [rdT,rdO,rdVs_cons,rdVs_nil,rd_bnds,rdBs_cons,rdBs_nil,rd_rev,rd_K,rd_Bd,rd_B,rd_P,rd_Nm,St.tick]
  exact .appO (by simpa only [rd_O,rd_Nm,rd_B,rd_P,rd_K,rdVs_count] using h)
 | @appU f args st wh h h1 h2=>
  intro c
  refine ⟨⟨List.prefix_rfl,rfl,tV⟩,fun S hS=>?_⟩
  simp only [rdT,rdO,rdVs_cons,rdVs_nil,rd_bnds,rdBs_cons,rdBs_nil,rd_rev,rd_K,rd_Bd,rd_B,rd_P,rd_Nm,St.tick]
  exact .appU (by simpa only [rd_O,rd_Nm,rd_B,rd_P,rd_K,rdVs_count] using h) (by simpa only [rd_O,rd_Nm,rd_B,rd_P,rd_K,rdVs_count] using h1) (by simpa only [rd_O,rd_Nm,rd_B,rd_P,rd_K,rdVs_count] using h2)
 | @appN f args st wh d o h h1 h2 g ih=>
  intro c
  obtain ⟨p1,e1⟩:=ih ⟨hD _ (findD_mem h2),c.2⟩
  refine ⟨⟨p1.1,p1.2.1,p1.2.2⟩,fun S hS=>?_⟩
  have z1:=e1 S hS
  simp only [rdT,rdO,rdVs_cons,rdVs_nil,rd_bnds,rdBs_cons,rdBs_nil,rd_rev,rd_K,rd_Bd,rd_B,rd_P,rd_Nm,St.tick] at z1 ⊢
  exact .appN (by simpa only [rd_O,rd_Nm,rd_B,rd_P,rd_K,rdVs_count] using h) (by simpa only [rd_O,rd_Nm,rd_B,rd_P,rd_K,rdVs_count] using h1) (by simpa only [rd_O,rd_Nm,rd_B,rd_P,rd_K,rdVs_count] using h2) z1
 | @appL f args st wh h h1 h2=>
  intro c
  refine ⟨⟨List.prefix_rfl,rfl,tV⟩,fun S hS=>?_⟩
  simp only [rdT,rdO,rdVs_cons,rdVs_nil,rd_bnds,rdBs_cons,rdBs_nil,rd_rev,rd_K,rd_Bd,rd_B,rd_P,rd_Nm,St.tick]
  exact .appL (by simpa only [rd_O,rd_Nm,rd_B,rd_P,rd_K,rdVs_count] using h) (by simpa only [rd_O,rd_Nm,rd_B,rd_P,rd_K,rdVs_count] using h1) (by simpa only [rd_O,rd_Nm,rd_B,rd_P,rd_K,rdVs_count] using h2)
 | @appF f args st wh h h1 h2 h3 h4=>
  intro c
  refine ⟨⟨List.prefix_rfl,rfl,tV⟩,fun S hS=>?_⟩
  simp only [rdT,rdO,rdVs_cons,rdVs_nil,rd_bnds,rdBs_cons,rdBs_nil,rd_rev,rd_K,rd_Bd,rd_B,rd_P,rd_Nm,St.tick]
  exact .appF (by simpa only [rd_O,rd_Nm,rd_B,rd_P,rd_K,rdVs_count] using h) (by simpa only [rd_O,rd_Nm,rd_B,rd_P,rd_K,rdVs_count] using h1) (by simpa only [rd_O,rd_Nm,rd_B,rd_P,rd_K,rdVs_count] using h2) (by simpa only [rd_O,rd_Nm,rd_B,rd_P,rd_K,rdVs_count] using h3) h4
 | @appG f args st wh o h h1 h2 h3 h4 g ih=>
  intro c
  obtain ⟨p1,e1⟩:=ih ⟨.mbs c.2 c.1.kD.rev,c.1.kB _ (by simp [List.getD,h2])⟩
  refine ⟨⟨p1.1,p1.2.1,p1.2.2⟩,fun S hS=>?_⟩
  have z1:=e1 S hS
  simp only [rdT,rdO,rdVs_cons,rdVs_nil,rd_bnds,rdBs_cons,rdBs_nil,rd_rev,rd_K,rd_Bd,rd_B,rd_P,rd_Nm,St.tick] at z1 ⊢
  exact .appG (by simpa only [rd_O,rd_Nm,rd_B,rd_P,rd_K,rdVs_count] using h) (by simpa only [rd_O,rd_Nm,rd_B,rd_P,rd_K,rdVs_count] using h1) (by simpa only [rd_O,rd_Nm,rd_B,rd_P,rd_K,rdVs_count] using h2) (by simpa only [rd_O,rd_Nm,rd_B,rd_P,rd_K,rdVs_count] using h3) h4 (by rw [rd_P,rd_B,rd_Bd]; exact z1)
 | @liN env st wh=>
  intro c
  refine ⟨⟨List.prefix_rfl,rfl,.nil⟩,fun S hS=>?_⟩
  simp only [rdT,rdO,rdVs_cons,rdVs_nil,rd_bnds,rdBs_cons,rdBs_nil,rd_rev,rd_K,rd_Bd,rd_B,rd_P,rd_Nm,St.tick]
  exact .liN
 | @liE env x xs st wh k st1 wh1 g ih=>
  intro c
  obtain ⟨p1,e1⟩:=ih ⟨c.1,c.2 _ List.mem_cons_self⟩
  refine ⟨⟨p1.1,p1.2.1,tV⟩,fun S hS=>?_⟩
  have z1:=e1 S hS
  simp only [rdT,rdO,rdVs_cons,rdVs_nil,rd_bnds,rdBs_cons,rdBs_nil,rd_rev,rd_K,rd_Bd,rd_B,rd_P,rd_Nm,St.tick] at z1 ⊢
  exact .liE z1
 | @liR env x xs st wh v k st1 st2 wh2 g g2 ih ih2=>
  intro c
  obtain ⟨p1,e1⟩:=ih ⟨c.1,c.2 _ List.mem_cons_self⟩
  obtain ⟨p2,e2⟩:=ih2 ⟨(NBs.mono p1.1.length_le c.1),fun y hy=>c.2 y (List.mem_cons_of_mem _ hy)⟩
  refine ⟨⟨p1.1.trans p2.1,p2.2.1.trans p1.2.1,tV⟩,fun S hS=>?_⟩
  have z1:=e1 S (p2.1.trans hS)
  have z2:=e2 S hS
  simp only [rdT,rdO,rdVs_cons,rdVs_nil,rd_bnds,rdBs_cons,rdBs_nil,rd_rev,rd_K,rd_Bd,rd_B,rd_P,rd_Nm,St.tick] at z1 z2 ⊢
  exact .liR z1 z2
 | @liC env x xs st wh v st1 st2 vs g g2 ih ih2=>
  intro c
  obtain ⟨p1,e1⟩:=ih ⟨c.1,c.2 _ List.mem_cons_self⟩
  obtain ⟨p2,e2⟩:=ih2 ⟨(NBs.mono p1.1.length_le c.1),fun y hy=>c.2 y (List.mem_cons_of_mem _ hy)⟩
  refine ⟨⟨p1.1.trans p2.1,p2.2.1.trans p1.2.1,.cons ((NVs.get p1.2.2).mono p2.1.length_le) p2.2.2⟩,fun S hS=>?_⟩
  have z1:=e1 S (p2.1.trans hS)
  have z2:=e2 S hS
  simp only [rdT,rdO,rdVs_cons,rdVs_nil,rd_bnds,rdBs_cons,rdBs_nil,rd_rev,rd_K,rd_Bd,rd_B,rd_P,rd_Nm,St.tick] at z1 z2 ⊢
  exact .liC z1 z2
 | @exR env x st wh h=>
  intro c
  refine ⟨⟨List.prefix_rfl,rfl,tV⟩,fun S hS=>?_⟩
  simp only [rdT,rdO,rdVs_cons,rdVs_nil,rd_bnds,rdBs_cons,rdBs_nil,rd_rev,rd_K,rd_Bd,rd_B,rd_P,rd_Nm,St.tick]
  exact .exR h
 | @exIo env x st wh h h1 h2=>
  intro c
  refine ⟨⟨List.prefix_rfl,rfl,.one (.mX _ dD)⟩,fun S hS=>?_⟩
  simp only [rdT,rdO,rdVs_cons,rdVs_nil,rd_bnds,rdBs_cons,rdBs_nil,rd_rev,rd_K,rd_Bd,rd_B,rd_P,rd_Nm,St.tick]
  rw [rd_vX S _ dD]
  exact .exIo h h1 h2
 | @exIe env x st wh h h1 h2=>
  intro c
  refine ⟨⟨List.prefix_rfl,rfl,tV⟩,fun S hS=>?_⟩
  simp only [rdT,rdO,rdVs_cons,rdVs_nil,rd_bnds,rdBs_cons,rdBs_nil,rd_rev,rd_K,rd_Bd,rd_B,rd_P,rd_Nm,St.tick]
  exact .exIe h h1 h2
 | @exB env x st wh h h1=>
  intro c
  refine ⟨⟨List.prefix_rfl,rfl,.one (.mX _ dD)⟩,fun S hS=>?_⟩
  simp only [rdT,rdO,rdVs_cons,rdVs_nil,rd_bnds,rdBs_cons,rdBs_nil,rd_rev,rd_K,rd_Bd,rd_B,rd_P,rd_Nm,St.tick]
  rw [rd_vX S _ dD]
  exact .exB h h1
 | @exVb env x st wh v h h1 h2=>
  intro c
  refine ⟨⟨List.prefix_rfl,rfl,.one (NBs.find c.1 h2)⟩,fun S hS=>?_⟩
  simp only [rdT,rdO,rdVs_cons,rdVs_nil,rd_bnds,rdBs_cons,rdBs_nil,rd_rev,rd_K,rd_Bd,rd_B,rd_P,rd_Nm,St.tick]
  exact .exVb h h1 (by rw [rd_find,h2]; rfl)
 | @exVu env x st wh h h1 h2 h3=>
  intro c
  refine ⟨⟨List.prefix_rfl,rfl,tV⟩,fun S hS=>?_⟩
  simp only [rdT,rdO,rdVs_cons,rdVs_nil,rd_bnds,rdBs_cons,rdBs_nil,rd_rev,rd_K,rd_Bd,rd_B,rd_P,rd_Nm,St.tick]
  exact .exVu h h1 (by rw [rd_find,h2]; rfl) h3
 | @exVf env x st wh d h h1 h2 h3 h4=>
  intro c
  refine ⟨⟨List.prefix_rfl,rfl,.one (.mF _)⟩,fun S hS=>?_⟩
  simp only [rdT,rdO,rdVs_cons,rdVs_nil,rd_bnds,rdBs_cons,rdBs_nil,rd_rev,rd_K,rd_Bd,rd_B,rd_P,rd_Nm,St.tick,rd_vF]
  exact .exVf h h1 (by rw [rd_find,h2]; rfl) h3 h4
 | @exVc env x st wh d o h h1 h2 h3 h4 g ih=>
  intro c
  obtain ⟨p1,e1⟩:=ih (hD _ (findD_mem h3))
  refine ⟨⟨p1.1,p1.2.1,p1.2.2⟩,fun S hS=>?_⟩
  have z1:=e1 S hS
  simp only [rdT,rdO,rdVs_cons,rdVs_nil,rd_bnds,rdBs_cons,rdBs_nil,rd_rev,rd_K,rd_Bd,rd_B,rd_P,rd_Nm,St.tick] at z1 ⊢
  exact .exVc h h1 (by rw [rd_find,h2]; rfl) h3 h4 z1
 | @exCe env x st wh k st1 wh1 h h1 g ih=>
  intro c
  obtain ⟨p1,e1⟩:=ih ⟨c.1,c.2.kids⟩
  refine ⟨⟨p1.1,p1.2.1,tV⟩,fun S hS=>?_⟩
  have z1:=e1 S hS
  simp only [rdT,rdO,rdVs_cons,rdVs_nil,rd_bnds,rdBs_cons,rdBs_nil,rd_rev,rd_K,rd_Bd,rd_B,rd_P,rd_Nm,St.tick] at z1 ⊢
  exact .exCe h h1 z1
 | @exCo env x st wh vs st1 h h1 g ih=>
  intro c
  obtain ⟨p1,e1⟩:=ih ⟨c.1,c.2.kids⟩
  refine ⟨⟨p1.1,p1.2.1,.one (.mD _ p1.2.2)⟩,fun S hS=>?_⟩
  have z1:=e1 S hS
  simp only [rdT,rdO,rdVs_cons,rdVs_nil,rd_bnds,rdBs_cons,rdBs_nil,rd_rev,rd_K,rd_Bd,rd_B,rd_P,rd_Nm,St.tick,rd_vD] at z1 ⊢
  exact .exCo h h1 z1
 | @exKe env x st wh k st1 wh1 h h1 g ih=>
  intro c
  obtain ⟨p1,e1⟩:=ih ⟨c.1,c.2.kids⟩
  refine ⟨⟨p1.1,p1.2.1,tV⟩,fun S hS=>?_⟩
  have z1:=e1 S hS
  simp only [rdT,rdO,rdVs_cons,rdVs_nil,rd_bnds,rdBs_cons,rdBs_nil,rd_rev,rd_K,rd_Bd,rd_B,rd_P,rd_Nm,St.tick] at z1 ⊢
  exact .exKe h h1 z1
 | @exKa env x st wh vs st1 f o h h1 g h2 g2 ih ih2=>
  intro c
  obtain ⟨p1,e1⟩:=ih ⟨c.1,c.2.kids⟩
  obtain ⟨p2,e2⟩:=ih2 ⟨(NBs.find c.1 h2).mono p1.1.length_le,p1.2.2⟩
  refine ⟨⟨p1.1.trans p2.1,p2.2.1.trans p1.2.1,p2.2.2⟩,fun S hS=>?_⟩
  have z1:=e1 S (p2.1.trans hS)
  have z2:=e2 S hS
  simp only [rdT,rdO,rdVs_cons,rdVs_nil,rd_bnds,rdBs_cons,rdBs_nil,rd_rev,rd_K,rd_Bd,rd_B,rd_P,rd_Nm,St.tick] at z1 z2 ⊢
  exact .exKa h h1 z1 (by rw [rd_find,h2]; rfl) z2
 | @exKu env x st wh vs st1 h h1 g h2 h3 ih=>
  intro c
  obtain ⟨p1,e1⟩:=ih ⟨c.1,c.2.kids⟩
  refine ⟨⟨p1.1,p1.2.1,tV⟩,fun S hS=>?_⟩
  have z1:=e1 S hS
  simp only [rdT,rdO,rdVs_cons,rdVs_nil,rd_bnds,rdBs_cons,rdBs_nil,rd_rev,rd_K,rd_Bd,rd_B,rd_P,rd_Nm,St.tick] at z1 ⊢
  exact .exKu h h1 z1 (by rw [rd_find,h2]; rfl) h3
 | @exKc env x st wh vs st1 d o h h1 g h2 h3 g2 ih ih2=>
  intro c
  obtain ⟨p1,e1⟩:=ih ⟨c.1,c.2.kids⟩
  obtain ⟨p2,e2⟩:=ih2 ⟨hD _ (findD_mem h3),p1.2.2⟩
  refine ⟨⟨p1.1.trans p2.1,p2.2.1.trans p1.2.1,p2.2.2⟩,fun S hS=>?_⟩
  have z1:=e1 S (p2.1.trans hS)
  have z2:=e2 S hS
  simp only [rdT,rdO,rdVs_cons,rdVs_nil,rd_bnds,rdBs_cons,rdBs_nil,rd_rev,rd_K,rd_Bd,rd_B,rd_P,rd_Nm,St.tick] at z1 z2 ⊢
  exact .exKc h h1 z1 (by rw [rd_find,h2]; rfl) h3 z2
 | @exL env x st wh h h1=>
  intro c
  refine ⟨⟨List.prefix_rfl,rfl,.one (.lam _ c.1 c.2 (rt_len1 h (.inl h1)))⟩,fun S hS=>?_⟩
  simp only [rdT,rdO,rdVs_cons,rdVs_nil,rd_bnds,rdBs_cons,rdBs_nil,rd_rev,rd_K,rd_Bd,rd_B,rd_P,rd_Nm,St.tick,rd_lam]
  exact .exL h h1
 | @exTe env x st wh k st1 wh1 h h1 g ih=>
  intro c
  obtain ⟨p1,e1⟩:=ih ⟨c.1,c.2.kid (by have:=rt_len2 h (.inl h1); omega)⟩
  refine ⟨⟨p1.1,p1.2.1,tV⟩,fun S hS=>?_⟩
  have z1:=e1 S hS
  simp only [rdT,rdO,rdVs_cons,rdVs_nil,rd_bnds,rdBs_cons,rdBs_nil,rd_rev,rd_K,rd_Bd,rd_B,rd_P,rd_Nm,St.tick] at z1 ⊢
  exact .exTe h h1 z1
 | @exTo env x st wh v st1 o h h1 g g2 ih ih2=>
  intro c
  obtain ⟨p1,e1⟩:=ih ⟨c.1,c.2.kid (by have:=rt_len2 h (.inl h1); omega)⟩
  obtain ⟨p2,e2⟩:=ih2 ⟨.cons (NVs.get p1.2.2) (NBs.mono p1.1.length_le c.1),c.2.kid (by have:=rt_len2 h oM; omega)⟩
  refine ⟨⟨p1.1.trans p2.1,p2.2.1.trans p1.2.1,p2.2.2⟩,fun S hS=>?_⟩
  have z1:=e1 S (p2.1.trans hS)
  have z2:=e2 S hS
  simp only [rdT,rdO,rdVs_cons,rdVs_nil,rd_bnds,rdBs_cons,rdBs_nil,rd_rev,rd_K,rd_Bd,rd_B,rd_P,rd_Nm,St.tick] at z1 z2 ⊢
  exact .exTo h h1 z1 z2
 | @exFe env x st wh k st1 wh1 h h1 g ih=>
  intro c
  obtain ⟨p1,e1⟩:=ih ⟨c.1,c.2.kid (by have:=rt_len3 h h1; omega)⟩
  refine ⟨⟨p1.1,p1.2.1,tV⟩,fun S hS=>?_⟩
  have z1:=e1 S hS
  simp only [rdT,rdO,rdVs_cons,rdVs_nil,rd_bnds,rdBs_cons,rdBs_nil,rd_rev,rd_K,rd_Bd,rd_B,rd_P,rd_Nm,St.tick] at z1 ⊢
  exact .exFe h h1 z1
 | @exFs env x st wh v st1 h h1 g h2 ih=>
  intro c
  obtain ⟨p1,e1⟩:=ih ⟨c.1,c.2.kid (by have:=rt_len3 h h1; omega)⟩
  refine ⟨⟨p1.1,p1.2.1,tV⟩,fun S hS=>?_⟩
  have z1:=e1 S hS
  simp only [rdT,rdO,rdVs_cons,rdVs_nil,rd_bnds,rdBs_cons,rdBs_nil,rd_rev,rd_K,rd_Bd,rd_B,rd_P,rd_Nm,St.tick] at z1 ⊢
  exact .exFs h h1 z1 (by simpa only [rd_O,rd_Nm,rd_B,rd_P,rd_K,rdVs_count] using h2)
 | @exFt env x st wh v st1 o h h1 g h2 h3 g2 ih ih2=>
  intro c
  obtain ⟨p1,e1⟩:=ih ⟨c.1,c.2.kid (by have:=rt_len3 h h1; omega)⟩
  obtain ⟨p2,e2⟩:=ih2 ⟨(NBs.mono p1.1.length_le c.1),c.2.kid (by have:=rt_len3 h h1; omega)⟩
  refine ⟨⟨p1.1.trans p2.1,p2.2.1.trans p1.2.1,p2.2.2⟩,fun S hS=>?_⟩
  have z1:=e1 S (p2.1.trans hS)
  have z2:=e2 S hS
  simp only [rdT,rdO,rdVs_cons,rdVs_nil,rd_bnds,rdBs_cons,rdBs_nil,rd_rev,rd_K,rd_Bd,rd_B,rd_P,rd_Nm,St.tick] at z1 z2 ⊢
  exact .exFt h h1 z1 (by simpa only [rd_O,rd_Nm,rd_B,rd_P,rd_K,rdVs_count] using h2) (by rw [rd_N _ oM]; exact h3) z2
 | @exFf env x st wh v st1 o h h1 g h2 h3 g2 ih ih2=>
  intro c
  obtain ⟨p1,e1⟩:=ih ⟨c.1,c.2.kid (by have:=rt_len3 h h1; omega)⟩
  obtain ⟨p2,e2⟩:=ih2 ⟨(NBs.mono p1.1.length_le c.1),c.2.kid (by have:=rt_len3 h h1; omega)⟩
  refine ⟨⟨p1.1.trans p2.1,p2.2.1.trans p1.2.1,p2.2.2⟩,fun S hS=>?_⟩
  have z1:=e1 S (p2.1.trans hS)
  have z2:=e2 S hS
  simp only [rdT,rdO,rdVs_cons,rdVs_nil,rd_bnds,rdBs_cons,rdBs_nil,rd_rev,rd_K,rd_Bd,rd_B,rd_P,rd_Nm,St.tick] at z1 z2 ⊢
  exact .exFf h h1 z1 (by simpa only [rd_O,rd_Nm,rd_B,rd_P,rd_K,rdVs_count] using h2) (by rw [rd_N _ oM]; exact h3) z2
 | @exMe env x st wh k st1 wh1 h h1 g ih=>
  intro c
  obtain ⟨p1,e1⟩:=ih ⟨c.1,c.2.kid (by have:=rt_len1 h (.inr (.inl h1)); omega)⟩
  refine ⟨⟨p1.1,p1.2.1,tV⟩,fun S hS=>?_⟩
  have z1:=e1 S hS
  simp only [rdT,rdO,rdVs_cons,rdVs_nil,rd_bnds,rdBs_cons,rdBs_nil,rd_rev,rd_K,rd_Bd,rd_B,rd_P,rd_Nm,St.tick] at z1 ⊢
  exact .exMe h h1 z1
 | @exMs env x st wh v st1 h h1 g h2 ih=>
  intro c
  obtain ⟨p1,e1⟩:=ih ⟨c.1,c.2.kid (by have:=rt_len1 h (.inr (.inl h1)); omega)⟩
  refine ⟨⟨p1.1,p1.2.1,tV⟩,fun S hS=>?_⟩
  have z1:=e1 S hS
  simp only [rdT,rdO,rdVs_cons,rdVs_nil,rd_bnds,rdBs_cons,rdBs_nil,rd_rev,rd_K,rd_Bd,rd_B,rd_P,rd_Nm,St.tick] at z1 ⊢
  exact .exMs h h1 z1 (by simpa only [rd_O,rd_Nm,rd_B,rd_P,rd_K,rdVs_count] using h2)
 | @exMn env x st wh v st1 h h1 g h2 h3 ih=>
  intro c
  obtain ⟨p1,e1⟩:=ih ⟨c.1,c.2.kid (by have:=rt_len1 h (.inr (.inl h1)); omega)⟩
  refine ⟨⟨p1.1,p1.2.1,tV⟩,fun S hS=>?_⟩
  have z1:=e1 S hS
  simp only [rdT,rdO,rdVs_cons,rdVs_nil,rd_bnds,rdBs_cons,rdBs_nil,rd_rev,rd_K,rd_Bd,rd_B,rd_P,rd_Nm,St.tick] at z1 ⊢
  exact .exMn h h1 z1 (by simpa only [rd_O,rd_Nm,rd_B,rd_P,rd_K,rdVs_count] using h2) (by simpa only [rd_O,rd_Nm,rd_B,rd_P,rd_K,rdVs_count] using h3)
 | @exMl env x st wh v st1 a h h1 g h2 h3 h4 ih=>
  intro c
  obtain ⟨p1,e1⟩:=ih ⟨c.1,c.2.kid (by have:=rt_len1 h (.inr (.inl h1)); omega)⟩
  refine ⟨⟨p1.1,p1.2.1,tV⟩,fun S hS=>?_⟩
  have z1:=e1 S hS
  simp only [rdT,rdO,rdVs_cons,rdVs_nil,rd_bnds,rdBs_cons,rdBs_nil,rd_rev,rd_K,rd_Bd,rd_B,rd_P,rd_Nm,St.tick] at z1 ⊢
  exact .exMl h h1 z1 (by simpa only [rd_O,rd_Nm,rd_B,rd_P,rd_K,rdVs_count] using h2) (by simpa only [rd_O,rd_Nm,rd_B,rd_P,rd_K,rdVs_count] using h3) (by simpa only [rd_O,rd_Nm,rd_B,rd_P,rd_K,rdVs_count] using h4)
 | @exMo env x st wh v st1 a o h h1 g h2 h3 h4 g2 ih ih2=>
  intro c
  obtain ⟨p1,e1⟩:=ih ⟨c.1,c.2.kid (by have:=rt_len1 h (.inr (.inl h1)); omega)⟩
  obtain ⟨p2,e2⟩:=ih2 ⟨.mbs (NVs.get p1.2.2).kK (NBs.mono p1.1.length_le c.1),c.2.alt h3⟩
  refine ⟨⟨p1.1.trans p2.1,p2.2.1.trans p1.2.1,p2.2.2⟩,fun S hS=>?_⟩
  have z1:=e1 S (p2.1.trans hS)
  have z2:=e2 S hS
  simp only [rdT,rdO,rdVs_cons,rdVs_nil,rd_bnds,rdBs_cons,rdBs_nil,rd_rev,rd_K,rd_Bd,rd_B,rd_P,rd_Nm,St.tick] at z1 z2 ⊢
  exact .exMo h h1 z1 (by simpa only [rd_O,rd_Nm,rd_B,rd_P,rd_K,rdVs_count] using h2) (by simpa only [rd_O,rd_Nm,rd_B,rd_P,rd_K,rdVs_count] using h3) (by simpa only [rd_O,rd_Nm,rd_B,rd_P,rd_K,rdVs_count] using h4) (by rw [rd_K]; exact z2)
 | @exAe env x st wh k st1 wh1 h h1 g ih=>
  intro c
  obtain ⟨p1,e1⟩:=ih ⟨c.1,c.2.kid (by have:=rt_len2 h oM; omega)⟩
  refine ⟨⟨p1.1,p1.2.1,tV⟩,fun S hS=>?_⟩
  have z1:=e1 S hS
  simp only [rdT,rdO,rdVs_cons,rdVs_nil,rd_bnds,rdBs_cons,rdBs_nil,rd_rev,rd_K,rd_Bd,rd_B,rd_P,rd_Nm,St.tick] at z1 ⊢
  exact .exAe h h1 z1
 | @exAs env x st wh v st1 h h1 g h2 ih=>
  intro c
  obtain ⟨p1,e1⟩:=ih ⟨c.1,c.2.kid (by have:=rt_len2 h oM; omega)⟩
  refine ⟨⟨p1.1,p1.2.1,tV⟩,fun S hS=>?_⟩
  have z1:=e1 S hS
  simp only [rdT,rdO,rdVs_cons,rdVs_nil,rd_bnds,rdBs_cons,rdBs_nil,rd_rev,rd_K,rd_Bd,rd_B,rd_P,rd_Nm,St.tick] at z1 ⊢
  exact .exAs h h1 z1 (by simpa only [rd_O,rd_Nm,rd_B,rd_P,rd_K,rdVs_count] using h2)
 | @exAq env x st wh v st1 h h1 g h2 h3 ih=>
  intro c
  obtain ⟨p1,e1⟩:=ih ⟨c.1,c.2.kid (by have:=rt_len2 h oM; omega)⟩
  refine ⟨⟨p1.1,p1.2.1,.one (.mX _ dD)⟩,fun S hS=>?_⟩
  have z1:=e1 S hS
  simp only [rdT,rdO,rdVs_cons,rdVs_nil,rd_bnds,rdBs_cons,rdBs_nil,rd_rev,rd_K,rd_Bd,rd_B,rd_P,rd_Nm,St.tick] at z1 ⊢
  rw [rd_vX S _ dD]
  have r:=Ev.exAq (m:=semE) (l:=l) (fu:=fu) h h1 z1 (by simpa only [rd_O,rd_Nm,rd_B,rd_P,rd_K,rdVs_count] using h2) (by rw [rd_N _ oM]; exact h3)
  rw [rd_N S (v:=v) oM] at r
  exact r
 | @exAr env x st wh v st1 k st2 wh2 h h1 g h2 h3 g2 ih ih2=>
  intro c
  obtain ⟨p1,e1⟩:=ih ⟨c.1,c.2.kid (by have:=rt_len2 h oM; omega)⟩
  obtain ⟨p2,e2⟩:=ih2 ⟨(NBs.mono p1.1.length_le c.1),c.2.kid (by have:=rt_len2 h oM; omega)⟩
  refine ⟨⟨p1.1.trans p2.1,p2.2.1.trans p1.2.1,tV⟩,fun S hS=>?_⟩
  have z1:=e1 S (p2.1.trans hS)
  have z2:=e2 S hS
  simp only [rdT,rdO,rdVs_cons,rdVs_nil,rd_bnds,rdBs_cons,rdBs_nil,rd_rev,rd_K,rd_Bd,rd_B,rd_P,rd_Nm,St.tick] at z1 z2 ⊢
  exact .exAr h h1 z1 (by simpa only [rd_O,rd_Nm,rd_B,rd_P,rd_K,rdVs_count] using h2) (by rw [rd_N _ oM]; exact h3) z2
 | @exAt env x st wh v st1 u st2 h h1 g h2 h3 g2 h4 ih ih2=>
  intro c
  obtain ⟨p1,e1⟩:=ih ⟨c.1,c.2.kid (by have:=rt_len2 h oM; omega)⟩
  obtain ⟨p2,e2⟩:=ih2 ⟨(NBs.mono p1.1.length_le c.1),c.2.kid (by have:=rt_len2 h oM; omega)⟩
  refine ⟨⟨p1.1.trans p2.1,p2.2.1.trans p1.2.1,tV⟩,fun S hS=>?_⟩
  have z1:=e1 S (p2.1.trans hS)
  have z2:=e2 S hS
  simp only [rdT,rdO,rdVs_cons,rdVs_nil,rd_bnds,rdBs_cons,rdBs_nil,rd_rev,rd_K,rd_Bd,rd_B,rd_P,rd_Nm,St.tick] at z1 z2 ⊢
  exact .exAt h h1 z1 (by simpa only [rd_O,rd_Nm,rd_B,rd_P,rd_K,rdVs_count] using h2) (by rw [rd_N _ oM]; exact h3) z2 (by simpa only [rd_O,rd_Nm,rd_B,rd_P,rd_K,rdVs_count] using h4)
 | @exAo env x st wh v st1 u st2 h h1 g h2 h3 g2 h4 ih ih2=>
  intro c
  obtain ⟨p1,e1⟩:=ih ⟨c.1,c.2.kid (by have:=rt_len2 h oM; omega)⟩
  obtain ⟨p2,e2⟩:=ih2 ⟨(NBs.mono p1.1.length_le c.1),c.2.kid (by have:=rt_len2 h oM; omega)⟩
  refine ⟨⟨p1.1.trans p2.1,p2.2.1.trans p1.2.1,.one (.mX _ dD)⟩,fun S hS=>?_⟩
  have z1:=e1 S (p2.1.trans hS)
  have z2:=e2 S hS
  simp only [rdT,rdO,rdVs_cons,rdVs_nil,rd_bnds,rdBs_cons,rdBs_nil,rd_rev,rd_K,rd_Bd,rd_B,rd_P,rd_Nm,St.tick] at z1 z2 ⊢
  rw [rd_vX S _ dD]
  have r:=Ev.exAo (m:=semE) (l:=l) (fu:=fu) h h1 z1 (by simpa only [rd_O,rd_Nm,rd_B,rd_P,rd_K,rdVs_count] using h2) (by rw [rd_N _ oM]; exact h3) z2 (by simpa only [rd_O,rd_Nm,rd_B,rd_P,rd_K,rdVs_count] using h4)
  rw [rd_N S (v:=u) oM] at r
  exact r
 | @exU env x st wh o h h1 g ih=>
  intro c
  obtain ⟨p1,e1⟩:=ih ⟨c.1,c.2.kid (by have:=rt_pos h h1; omega)⟩
  refine ⟨⟨p1.1,p1.2.1,p1.2.2⟩,fun S hS=>?_⟩
  have z1:=e1 S hS
  simp only [rdT,rdO,rdVs_cons,rdVs_nil,rd_bnds,rdBs_cons,rdBs_nil,rd_rev,rd_K,rd_Bd,rd_B,rd_P,rd_Nm,St.tick] at z1 ⊢
  exact .exU h h1 z1
 | @exOe env x st wh k st1 wh1 h h1 g ih=>
  intro c
  obtain ⟨p1,e1⟩:=ih ⟨c.1,c.2.kids⟩
  refine ⟨⟨p1.1,p1.2.1,tV⟩,fun S hS=>?_⟩
  have z1:=e1 S hS
  simp only [rdT,rdO,rdVs_cons,rdVs_nil,rd_bnds,rdBs_cons,rdBs_nil,rd_rev,rd_K,rd_Bd,rd_B,rd_P,rd_Nm,St.tick] at z1 ⊢
  exact .exOe h h1 z1
 | @exOo env x st wh v st1 h h1 g ih=>
  intro c
  obtain ⟨p1,e1⟩:=ih ⟨c.1,c.2.kids⟩
  obtain ⟨⟨q1,q2,q3⟩,q4⟩:=o1_pl h1 (v:=v) (st:=st1) wh (NVs.get p1.2.2)
  refine ⟨⟨p1.1.trans q1,q2.trans p1.2.1,q3⟩,fun S hS=>?_⟩
  have z1:=e1 S (q1.trans hS)
  rw [q4 S hS]
  simp only [rdT,rdO,rdVs_cons,rdVs_nil,rd_bnds,rdBs_cons,rdBs_nil,rd_rev,rd_K,rd_Bd,rd_B,rd_P,rd_Nm,St.tick] at z1 ⊢
  exact .exOo h h1 z1
 | @exWe env x st wh k st1 wh1 h h1 g ih=>
  intro c
  obtain ⟨p1,e1⟩:=ih ⟨c.1,c.2.kids⟩
  refine ⟨⟨p1.1,p1.2.1,tV⟩,fun S hS=>?_⟩
  have z1:=e1 S hS
  simp only [rdT,rdO,rdVs_cons,rdVs_nil,rd_bnds,rdBs_cons,rdBs_nil,rd_rev,rd_K,rd_Bd,rd_B,rd_P,rd_Nm,St.tick] at z1 ⊢
  exact .exWe h h1 z1
 | @exWo env x st wh v u st1 h h1 g ih=>
  intro c
  obtain ⟨p1,e1⟩:=ih ⟨c.1,c.2.kids⟩
  obtain ⟨⟨q1,q2,q3⟩,q4⟩:=o2_pl h1 c.2.op (a:=v) (b:=u) (st:=st1) wh
  refine ⟨⟨p1.1.trans q1,q2.trans p1.2.1,q3⟩,fun S hS=>?_⟩
  have z1:=e1 S (q1.trans hS)
  rw [q4 S]
  simp only [rdT,rdO,rdVs_cons,rdVs_nil,rd_bnds,rdBs_cons,rdBs_nil,rd_rev,rd_K,rd_Bd,rd_B,rd_P,rd_Nm,St.tick] at z1 ⊢
  exact .exWo h h1 z1
end
abbrev seK_I(x:Ex)(sf:Ex->Bool)(j:Int)(b:Bool)(e:Ext):S:=S.mk [(1,.lp 1 0),(2,.v (.bool false)),(3,.v (.bool b)),(4,vI6 j)] [(1,exV x)] e
section
variable (x:Ex) (sf:Ex->Bool) (hwk:∀w,w∈exK x->Pu 30 [.agg (exL w)] (.ret (.bool (sf w)))) (hwa:∀w,w∈exA x->Pu 30 [.agg (exL (alB w))] (.ret (.bool (sf (alB w))))) (i:Nat) (b:Bool) (e:Ext)
include x sf hwk hwa i b e
theorem seK_b1(hi:i<(exK x).length)(hN:(exK x).length<=1000000000)(hx0:b=true)(cx:Cx)(hcx:cx.n=43){Q:PExit->S->Prop}(hq:Q (.normal) (S.mk [(1,.lp 1 0),(2,.v (.bool false)),(3,.v (.bool true)),(4,vI6 ((i:Int)+1))] [(1,exV x)] e)):PW prog cx (loopF f30 0) (seK_I x sf (i:Int) b e) Q:=
 pw mdL 43 [sl (Ex.cs_len (exK x)),dt ((i:Int)<((exK x).length:Int)),rp 7 (bt1 hx0),wr ((i:Int)+1)] [1,2,3,4] [1] hcx hq
theorem seK_b2(hi:i<(exK x).length)(hN:(exK x).length<=1000000000)(hx0:b=false)(cx:Cx)(hcx:cx.n=43){Q:PExit->S->Prop}(hq:Q (.normal) (S.mk [(1,.lp 1 0),(2,.v (.bool false)),(3,.v (.bool (sf (List.getD (exK x) i default)))),(4,vI6 ((i:Int)+1))] [(1,exV x)] e)):PW prog cx (loopF f30 0) (seK_I x sf (i:Int) b e) Q:=
 pw mdL 43 [sl (Ex.cs_len (exK x)),dt ((i:Int)<((exK x).length:Int)),rp 4 (bf1 hx0),am ((0:Int)<=(i:Int)/\(i:Int)<((Ex.cs (exK x)).length:Int)) qZ,xEx (exK x) i hi,rp 2 (bf1 hx0),cl (@hwk (List.getD (exK x) i default) (by simp_all [insC_len,List.length_map,List.length_append,List.length_cons,List.length_nil,Ex.cs_len,Vl.cs_len,Al.cs_len,Bd.cs_len,nmsC_len,pmsC_len,Tp.cs_len,dfsC_len,Pr.cs_len,Int.toNat_natCast])),bf1 hx0,wr ((i:Int)+1)] [1,2,3,4] [1] hcx hq
theorem seK_z1(hi:i=(exK x).length)(hN:(exK x).length<=1000000000)(cx:Cx)(hcx:cx.n=43){Q:PExit->S->Prop}(hq:Q (.exit 0) (S.mk [(1,.lp 1 0),(2,.v (.bool false)),(3,.v (.bool b)),(4,vI6 (i:Int))] [(1,exV x)] e)):PW prog cx (loopF f30 0) (seK_I x sf (i:Int) b e) Q:=
 pw mdL 43 [sl (Ex.cs_len (exK x)),df ((i:Int)<((exK x).length:Int))] [1,2,3,4] [1] hcx hq
end
def seK_f(sf:Ex->Bool):List Ex->(Bool)->(Bool)
 | [],b=>(b)
 | el::r,b=>(if b=true then seK_f sf r (true) else seK_f sf r (sf el))
def seK_q(x:Ex)(sf:Ex->Bool)(e:Ext)(p:(Bool)):PExit × S:=(.exit 0,S.mk [(1,.lp 1 0),(2,.v (.bool false)),(3,.v (.bool p))] [(1,exV x)] e)
theorem seK_lp(x:Ex)(sf:Ex->Bool)(hwk:∀w,w∈exK x->Pu 30 [.agg (exL w)] (.ret (.bool (sf w))))(hwa:∀w,w∈exA x->Pu 30 [.agg (exL (alB w))] (.ret (.bool (sf (alB w)))))(e:Ext)(hN:(exK x).length<=1000000000)(i:Nat)(b:Bool)(hi0:i<=(exK x).length)  : (Ob.loop 43 (loopF f30 0) (seK_I x sf (i:Int) b e) (seK_q x sf e (seK_f sf (List.drop i ((exK x)))  b)).1 (seK_q x sf e (seK_f sf (List.drop i ((exK x)))  b)).2).ok prog:=by
 refine Ob.loop_of (P:=prog) (α:={ zz:Nat × (Bool) // zz.1<=(exK x).length }) (fun zz=>seK_I x sf (zz.1.1:Int) zz.1.2 e) (fun zz=>(exK x).length - zz.1.1) (fun zz=>(seK_q x sf e (seK_f sf (List.drop zz.1.1 ((exK x)))  zz.1.2))) ?_ ⟨(i,b),hi0⟩
 clear hi0
 clear b i
 rintro ⟨⟨i,b⟩,hi⟩ cx hcx
 simp only at hi  ⊢
 rcases Nat.lt_or_ge i ((exK x).length) with hlt | hge
 ·have hd:=drop_at hlt
  by_cases h0:b=true
  ·have hr:(seK_f sf (List.drop i ((exK x)))  b)=(seK_f sf (List.drop (i+1) ((exK x)))  (true)):=by rw [hd,seK_f,iP h0]
   exact seK_b1 x sf hwk hwa i b e hlt hN  h0 cx hcx (.inl ⟨rfl,⟨((i+1),(true)),by simp only; omega⟩,by simp only; omega,xr,by simp only; rw [hr]⟩)
  ·have hr:(seK_f sf (List.drop i ((exK x)))  b)=(seK_f sf (List.drop (i+1) ((exK x)))  (sf (List.getD (exK x) i default))):=by rw [hd,seK_f,iN h0]
   exact seK_b2 x sf hwk hwa i b e hlt hN  (bFT h0) cx hcx (.inl ⟨rfl,⟨((i+1),(sf (List.getD (exK x) i default))),by simp only; omega⟩,by simp only; omega,xr,by simp only; rw [hr]⟩)
 ·have he:i=(exK x).length:=by omega
  subst he
  have hr:(seK_f sf (List.drop ((exK x).length) ((exK x)))  b)=(b):=by rw [List.drop_length,seK_f]
  refine seK_z1 x sf hwk hwa ((exK x).length) b e rfl hN   cx hcx (.inr ?_)
  rw [hr]
  exact ⟨by simp,rfl,xr⟩
theorem seK(x:Ex)(sf:Ex->Bool)(hwk:∀w,w∈exK x->Pu 30 [.agg (exL w)] (.ret (.bool (sf w))))(hwa:∀w,w∈exA x->Pu 30 [.agg (exL (alB w))] (.ret (.bool (sf (alB w)))))(b:Bool)(e:Ext)(hN:(exK x).length<=1000000000)  : (Ob.loop 43 (loopF f30 0) (seK_I x sf 0 b e) (seK_q x sf e (seK_f sf ((exK x))  b)).1 (seK_q x sf e (seK_f sf ((exK x))  b)).2).ok prog:=by
 have:=seK_lp x sf hwk hwa e hN 0 b (Nat.zero_le _)
 rw [List.drop_zero] at this
 exact this
abbrev seA_I(x:Ex)(sf:Ex->Bool)(j:Int)(b:Bool)(e:Ext):S:=S.mk [(1,.lp 1 0),(2,.v (.bool false)),(3,.v (.bool b)),(5,vI6 j)] [(1,exV x)] e
section
variable (x:Ex) (sf:Ex->Bool) (hwk:∀w,w∈exK x->Pu 30 [.agg (exL w)] (.ret (.bool (sf w)))) (hwa:∀w,w∈exA x->Pu 30 [.agg (exL (alB w))] (.ret (.bool (sf (alB w))))) (i:Nat) (b:Bool) (e:Ext)
include x sf hwk hwa i b e
theorem seA_b1(hi:i<(exA x).length)(hN:(exA x).length<=1000000000)(hx0:b=true)(cx:Cx)(hcx:cx.n=43){Q:PExit->S->Prop}(hq:Q (.normal) (S.mk [(1,.lp 1 0),(2,.v (.bool false)),(3,.v (.bool true)),(5,vI6 ((i:Int)+1))] [(1,exV x)] e)):PW prog cx (loopF f30 1) (seA_I x sf (i:Int) b e) Q:=
 pw mdL 43 [sl (Al.cs_len (exA x)),dt ((i:Int)<((exA x).length:Int)),rp 8 (bt1 hx0),wr ((i:Int)+1)] [1,2,3,5] [1] hcx hq
theorem seA_b2(hi:i<(exA x).length)(hN:(exA x).length<=1000000000)(hx0:b=false)(cx:Cx)(hcx:cx.n=43){Q:PExit->S->Prop}(hq:Q (.normal) (S.mk [(1,.lp 1 0),(2,.v (.bool false)),(3,.v (.bool (sf (alB (List.getD (exA x) i default))))),(5,vI6 ((i:Int)+1))] [(1,exV x)] e)):PW prog cx (loopF f30 1) (seA_I x sf (i:Int) b e) Q:=
 pw mdL 43 [sl (Al.cs_len (exA x)),dt ((i:Int)<((exA x).length:Int)),rp 4 (bf1 hx0),am ((0:Int)<=(i:Int)/\(i:Int)<((Al.cs (exA x)).length:Int)) qZ,xAl (exA x) i hi,rp 3 (bf1 hx0),cl (@hwa (List.getD (exA x) i default) (by simp_all [insC_len,List.length_map,List.length_append,List.length_cons,List.length_nil,Ex.cs_len,Vl.cs_len,Al.cs_len,Bd.cs_len,nmsC_len,pmsC_len,Tp.cs_len,dfsC_len,Pr.cs_len,Int.toNat_natCast])),bf1 hx0,wr ((i:Int)+1)] [1,2,3,5] [1] hcx hq
theorem seA_z1(hi:i=(exA x).length)(hN:(exA x).length<=1000000000)(cx:Cx)(hcx:cx.n=43){Q:PExit->S->Prop}(hq:Q (.exit 2) (S.mk [(1,.lp 1 0),(2,.v (.bool false)),(3,.v (.bool b)),(5,vI6 (i:Int))] [(1,exV x)] e)):PW prog cx (loopF f30 1) (seA_I x sf (i:Int) b e) Q:=
 pw mdL 43 [sl (Al.cs_len (exA x)),df ((i:Int)<((exA x).length:Int))] [1,2,3,5] [1] hcx hq
end
def seA_f(sf:Ex->Bool):List Al->(Bool)->(Bool)
 | [],b=>(b)
 | el::r,b=>(if b=true then seA_f sf r (true) else seA_f sf r (sf (alB el)))
def seA_q(x:Ex)(sf:Ex->Bool)(e:Ext)(p:(Bool)):PExit × S:=(.exit 2,S.mk [(1,.lp 1 0),(2,.v (.bool false)),(3,.v (.bool p))] [(1,exV x)] e)
theorem seA_lp(x:Ex)(sf:Ex->Bool)(hwk:∀w,w∈exK x->Pu 30 [.agg (exL w)] (.ret (.bool (sf w))))(hwa:∀w,w∈exA x->Pu 30 [.agg (exL (alB w))] (.ret (.bool (sf (alB w)))))(e:Ext)(hN:(exA x).length<=1000000000)(i:Nat)(b:Bool)(hi0:i<=(exA x).length)  : (Ob.loop 43 (loopF f30 1) (seA_I x sf (i:Int) b e) (seA_q x sf e (seA_f sf (List.drop i ((exA x)))  b)).1 (seA_q x sf e (seA_f sf (List.drop i ((exA x)))  b)).2).ok prog:=by
 refine Ob.loop_of (P:=prog) (α:={ zz:Nat × (Bool) // zz.1<=(exA x).length }) (fun zz=>seA_I x sf (zz.1.1:Int) zz.1.2 e) (fun zz=>(exA x).length - zz.1.1) (fun zz=>(seA_q x sf e (seA_f sf (List.drop zz.1.1 ((exA x)))  zz.1.2))) ?_ ⟨(i,b),hi0⟩
 clear hi0
 clear b i
 rintro ⟨⟨i,b⟩,hi⟩ cx hcx
 simp only at hi  ⊢
 rcases Nat.lt_or_ge i ((exA x).length) with hlt | hge
 ·have hd:=drop_at hlt
  by_cases h0:b=true
  ·have hr:(seA_f sf (List.drop i ((exA x)))  b)=(seA_f sf (List.drop (i+1) ((exA x)))  (true)):=by rw [hd,seA_f,iP h0]
   exact seA_b1 x sf hwk hwa i b e hlt hN  h0 cx hcx (.inl ⟨rfl,⟨((i+1),(true)),by simp only; omega⟩,by simp only; omega,xr,by simp only; rw [hr]⟩)
  ·have hr:(seA_f sf (List.drop i ((exA x)))  b)=(seA_f sf (List.drop (i+1) ((exA x)))  (sf (alB (List.getD (exA x) i default)))):=by rw [hd,seA_f,iN h0]
   exact seA_b2 x sf hwk hwa i b e hlt hN  (bFT h0) cx hcx (.inl ⟨rfl,⟨((i+1),(sf (alB (List.getD (exA x) i default)))),by simp only; omega⟩,by simp only; omega,xr,by simp only; rw [hr]⟩)
 ·have he:i=(exA x).length:=by omega
  subst he
  have hr:(seA_f sf (List.drop ((exA x).length) ((exA x)))  b)=(b):=by rw [List.drop_length,seA_f]
  refine seA_z1 x sf hwk hwa ((exA x).length) b e rfl hN   cx hcx (.inr ?_)
  rw [hr]
  exact ⟨by simp,rfl,xr⟩
theorem seA(x:Ex)(sf:Ex->Bool)(hwk:∀w,w∈exK x->Pu 30 [.agg (exL w)] (.ret (.bool (sf w))))(hwa:∀w,w∈exA x->Pu 30 [.agg (exL (alB w))] (.ret (.bool (sf (alB w)))))(b:Bool)(e:Ext)(hN:(exA x).length<=1000000000)  : (Ob.loop 43 (loopF f30 1) (seA_I x sf 0 b e) (seA_q x sf e (seA_f sf ((exA x))  b)).1 (seA_q x sf e (seA_f sf ((exA x))  b)).2).ok prog:=by
 have:=seA_lp x sf hwk hwa e hN 0 b (Nat.zero_le _)
 rw [List.drop_zero] at this
 exact this
theorem rSets(x:Ex)(sf:Ex->Bool)(hwk:∀w,w∈exK x->Pu 30 [.agg (exL w)] (.ret (.bool (sf w))))(hwa:∀w,w∈exA x->Pu 30 [.agg (exL (alB w))] (.ret (.bool (sf (alB w)))))(hx0:List.length (exK x)<=1000000000)(hx1:List.length (exA x)<=1000000000):Pu 30 [.agg (exL x)] (rB (seA_f sf (exA x) (seK_f sf (exK x) (exO x==24)))):=
 pu mdL (fun e=>[lp (S.mk [(0,.v (.agg (exL x))),(1,.lp 1 0),(2,.v (.bool false)),(6,.lp 1 0),(7,vI6 (exO x)),(8,.v (.bool (exO x==24))),(3,.v (.bool (exO x==24))),(4,vI6 0)] [(1,exV x)] e) (@seK (x) (sf) hwk hwa (exO x==24) (e) hx0) xr,lq (@seA (x) (sf) hwk hwa (seK_f sf (exK x) (exO x==24)) (e) hx1)]) func30
abbrev cpD_I(d0:List (List PV))(d1:List (List PV))(d3:List (List PV))(d4:List (List PV))(z0:Nat)(z1:Nat)(z3:Nat)(z4:Nat)(ins:List In)(l:List Df)(k:Int)(args:List Vl)(sf:Ex->Bool)(j:Int)(e:Ext):S:=S.mk [(1,.v (.int .u8 k)),(2,vL 7 (Vl.cs args)),(3,.lp 3 0),(7,vI6 j)] [(3,[vL z0 d0,vL z1 d1,vL 12 (insC ins),vL z3 d3,vL z4 d4,vL 25 (dfsC l)])] e
section
variable (d0 d1 d3 d4:List (List PV)) (z0 z1 z3 z4:Nat) (ins:List In) (l:List Df) (k:Int) (args:List Vl) (hlg:Pu 23 [.agg [.sl z0 d0,.sl z1 d1,.sl 12 (insC ins),.sl z3 d3,.sl z4 d4,.sl 25 (dfsC l)],.sl 7 (Vl.cs args)] (.ret (.bool true))) (sf:Ex->Bool) (hwd:∀w,w∈l->Pu 30 [.agg (exL (dfB w))] (.ret (.bool (sf (dfB w))))) (haw:Pu 24 [] (.ret (.bool true))) (i:Nat) (e:Ext)
include d0 d1 d3 d4 z0 z1 z3 z4 ins l k args hlg sf hwd haw i e
theorem cpD_b1(hi:i<l.length)(hN:l.length<=1000000000)(hx0:sf (dfB (List.getD l i default))=true)(cx:Cx)(hcx:cx.n=68){Q:PExit->S->Prop}(hq:Q (.ret) (S.mk [(1,.v (.int .u8 k)),(2,vL 7 (Vl.cs args)),(3,.lp 3 0),(7,vI6 (i:Int)),(6,.v (.bool true))] [(3,[vL z0 d0,vL z1 d1,vL 12 (insC ins),vL z3 d3,vL z4 d4,vL 25 (dfsC l)])] e)):PW prog cx (loopF f7 0) (cpD_I d0 d1 d3 d4 z0 z1 z3 z4 ins l k args sf (i:Int) e) Q:=
 pw mdL 68 [sl (dfsC_len l),dt ((i:Int)<(l.length:Int)),am ((0:Int)<=(i:Int)/\(i:Int)<((dfsC l).length:Int)) qZ,xDf l i hi,cl (@hwd (List.getD l i default) (by simp_all [insC_len,List.length_map,List.length_append,List.length_cons,List.length_nil,Ex.cs_len,Vl.cs_len,Al.cs_len,Bd.cs_len,nmsC_len,pmsC_len,Tp.cs_len,dfsC_len,Pr.cs_len,Int.toNat_natCast])),bt1 hx0,cl haw] [1,2,3,7,6] [3] hcx hq
theorem cpD_b2(hi:i<l.length)(hN:l.length<=1000000000)(hx0:sf (dfB (List.getD l i default))=false)(cx:Cx)(hcx:cx.n=68){Q:PExit->S->Prop}(hq:Q (.normal) (S.mk [(1,.v (.int .u8 k)),(2,vL 7 (Vl.cs args)),(3,.lp 3 0),(7,vI6 ((i:Int)+1))] [(3,[vL z0 d0,vL z1 d1,vL 12 (insC ins),vL z3 d3,vL z4 d4,vL 25 (dfsC l)])] e)):PW prog cx (loopF f7 0) (cpD_I d0 d1 d3 d4 z0 z1 z3 z4 ins l k args sf (i:Int) e) Q:=
 pw mdL 68 [sl (dfsC_len l),dt ((i:Int)<(l.length:Int)),am ((0:Int)<=(i:Int)/\(i:Int)<((dfsC l).length:Int)) qZ,xDf l i hi,cl (@hwd (List.getD l i default) (by simp_all [insC_len,List.length_map,List.length_append,List.length_cons,List.length_nil,Ex.cs_len,Vl.cs_len,Al.cs_len,Bd.cs_len,nmsC_len,pmsC_len,Tp.cs_len,dfsC_len,Pr.cs_len,Int.toNat_natCast])),bf1 hx0,wr ((i:Int)+1)] [1,2,3,7,6] [3] hcx hq
theorem cpD_z1(hi:i=l.length)(hN:l.length<=1000000000)(cx:Cx)(hcx:cx.n=68){Q:PExit->S->Prop}(hq:Q (.exit 0) (S.mk [(1,.v (.int .u8 k)),(2,vL 7 (Vl.cs args)),(3,.lp 3 0),(7,vI6 (i:Int))] [(3,[vL z0 d0,vL z1 d1,vL 12 (insC ins),vL z3 d3,vL z4 d4,vL 25 (dfsC l)])] e)):PW prog cx (loopF f7 0) (cpD_I d0 d1 d3 d4 z0 z1 z3 z4 ins l k args sf (i:Int) e) Q:=
 pw mdL 68 [sl (dfsC_len l),df ((i:Int)<(l.length:Int))] [1,2,3,7,6] [3] hcx hq
end
inductive cpD_R where
 | e0
 | e1
def cpD_f(sf:Ex->Bool):List Df->cpD_R
 | []=>(cpD_R.e1)
 | el::r=>(if sf (dfB el)=true then (cpD_R.e0) else cpD_f sf r)
def cpD_q(d0:List (List PV))(d1:List (List PV))(d3:List (List PV))(d4:List (List PV))(z0:Nat)(z1:Nat)(z3:Nat)(z4:Nat)(ins:List In)(l:List Df)(k:Int)(args:List Vl)(sf:Ex->Bool)(e:Ext):cpD_R->PExit × S
 | .e0=>(.ret,S.mk [(1,.v (.int .u8 k)),(2,vL 7 (Vl.cs args)),(3,.lp 3 0),(6,.v (.bool true))] [(3,[vL z0 d0,vL z1 d1,vL 12 (insC ins),vL z3 d3,vL z4 d4,vL 25 (dfsC l)])] e)
 | .e1=>(.exit 0,S.mk [(1,.v (.int .u8 k)),(2,vL 7 (Vl.cs args)),(3,.lp 3 0)] [(3,[vL z0 d0,vL z1 d1,vL 12 (insC ins),vL z3 d3,vL z4 d4,vL 25 (dfsC l)])] e)
theorem cpD_lp(d0 d1 d3 d4:List (List PV))(z0 z1 z3 z4:Nat)(ins:List In)(l:List Df)(k:Int)(args:List Vl)(hlg:Pu 23 [.agg [.sl z0 d0,.sl z1 d1,.sl 12 (insC ins),.sl z3 d3,.sl z4 d4,.sl 25 (dfsC l)],.sl 7 (Vl.cs args)] (.ret (.bool true)))(sf:Ex->Bool)(hwd:∀w,w∈l->Pu 30 [.agg (exL (dfB w))] (.ret (.bool (sf (dfB w)))))(haw:Pu 24 [] (.ret (.bool true)))(e:Ext)(hN:l.length<=1000000000)(i:Nat)(hi0:i<=l.length)  : (Ob.loop 68 (loopF f7 0) (cpD_I d0 d1 d3 d4 z0 z1 z3 z4 ins l k args sf (i:Int)  e) (cpD_q d0 d1 d3 d4 z0 z1 z3 z4 ins l k args sf e (cpD_f sf (List.drop i (l)))).1 (cpD_q d0 d1 d3 d4 z0 z1 z3 z4 ins l k args sf e (cpD_f sf (List.drop i (l)))).2).ok prog:=by
 refine Ob.loop_of (P:=prog) (α:={ zz:Nat × Unit // zz.1<=l.length }) (fun zz=>cpD_I d0 d1 d3 d4 z0 z1 z3 z4 ins l k args sf (zz.1.1:Int)  e) (fun zz=>l.length - zz.1.1) (fun zz=>(cpD_q d0 d1 d3 d4 z0 z1 z3 z4 ins l k args sf e (cpD_f sf (List.drop zz.1.1 (l))))) ?_ ⟨(i,()),hi0⟩
 clear hi0
 clear  i
 rintro ⟨⟨i,u⟩,hi⟩ cx hcx
 simp only at hi  ⊢
 rcases Nat.lt_or_ge i (l.length) with hlt | hge
 ·have hd:=drop_at hlt
  by_cases h0:sf (dfB (List.getD l i default))=true
  ·have hr:(cpD_f sf (List.drop i (l)))=(cpD_R.e0):=by rw [hd,cpD_f,iP h0]
   refine cpD_b1 d0 d1 d3 d4 z0 z1 z3 z4 ins l k args hlg sf hwd haw i  e hlt hN  h0 cx hcx (.inr ?_)
   rw [hr]
   exact ⟨by simp,rfl,xr⟩
  ·have hr:(cpD_f sf (List.drop i (l)))=(cpD_f sf (List.drop (i+1) (l))):=by rw [hd,cpD_f,iN h0]
   exact cpD_b2 d0 d1 d3 d4 z0 z1 z3 z4 ins l k args hlg sf hwd haw i  e hlt hN  (bFT h0) cx hcx (.inl ⟨rfl,⟨((i+1),()),by simp only; omega⟩,by simp only; omega,xr,by simp only; rw [hr]⟩)
 ·have he:i=l.length:=by omega
  subst he
  have hr:(cpD_f sf (List.drop (l.length) (l)))=(cpD_R.e1):=by rw [List.drop_length,cpD_f]
  refine cpD_z1 d0 d1 d3 d4 z0 z1 z3 z4 ins l k args hlg sf hwd haw (l.length)  e rfl hN   cx hcx (.inr ?_)
  rw [hr]
  exact ⟨by simp,rfl,xr⟩
theorem cpD_0(d0 d1 d3 d4:List (List PV))(z0 z1 z3 z4:Nat)(ins:List In)(l:List Df)(k:Int)(args:List Vl)(hlg:Pu 23 [.agg [.sl z0 d0,.sl z1 d1,.sl 12 (insC ins),.sl z3 d3,.sl z4 d4,.sl 25 (dfsC l)],.sl 7 (Vl.cs args)] (.ret (.bool true)))(sf:Ex->Bool)(hwd:∀w,w∈l->Pu 30 [.agg (exL (dfB w))] (.ret (.bool (sf (dfB w)))))(haw:Pu 24 [] (.ret (.bool true)))(e:Ext)(hN:l.length<=1000000000)(hres:(cpD_f sf (l))=(cpD_R.e0)):(Ob.loop 68 (loopF f7 0) (cpD_I d0 d1 d3 d4 z0 z1 z3 z4 ins l k args sf 0  e) (cpD_q d0 d1 d3 d4 z0 z1 z3 z4 ins l k args sf e (cpD_R.e0)).1 (cpD_q d0 d1 d3 d4 z0 z1 z3 z4 ins l k args sf e (cpD_R.e0)).2).ok prog:=by
 have:=cpD_lp d0 d1 d3 d4 z0 z1 z3 z4 ins l k args hlg sf hwd haw e hN 0  (Nat.zero_le _)
 rw [List.drop_zero] at this
 rw [hres] at this
 exact this
theorem cpD_1(d0 d1 d3 d4:List (List PV))(z0 z1 z3 z4:Nat)(ins:List In)(l:List Df)(k:Int)(args:List Vl)(hlg:Pu 23 [.agg [.sl z0 d0,.sl z1 d1,.sl 12 (insC ins),.sl z3 d3,.sl z4 d4,.sl 25 (dfsC l)],.sl 7 (Vl.cs args)] (.ret (.bool true)))(sf:Ex->Bool)(hwd:∀w,w∈l->Pu 30 [.agg (exL (dfB w))] (.ret (.bool (sf (dfB w)))))(haw:Pu 24 [] (.ret (.bool true)))(e:Ext)(hN:l.length<=1000000000)(hres:(cpD_f sf (l))=(cpD_R.e1)):(Ob.loop 68 (loopF f7 0) (cpD_I d0 d1 d3 d4 z0 z1 z3 z4 ins l k args sf 0  e) (cpD_q d0 d1 d3 d4 z0 z1 z3 z4 ins l k args sf e (cpD_R.e1)).1 (cpD_q d0 d1 d3 d4 z0 z1 z3 z4 ins l k args sf e (cpD_R.e1)).2).ok prog:=by
 have:=cpD_lp d0 d1 d3 d4 z0 z1 z3 z4 ins l k args hlg sf hwd haw e hN 0  (Nat.zero_le _)
 rw [List.drop_zero] at this
 rw [hres] at this
 exact this
section
variable (d0 d1 d3 d4:List (List PV)) (z0 z1 z3 z4:Nat) (ins:List In) (l:List Df) (k:Int) (args:List Vl)
include d0 d1 d3 d4 z0 z1 z3 z4 ins l k args
theorem pl0(hlg:Pu 23 [.agg [.sl z0 d0,.sl z1 d1,.sl 12 (insC ins),.sl z3 d3,.sl z4 d4,.sl 25 (dfsC l)],.sl 7 (Vl.cs args)] (.ret (.bool false)))(haw:Pu 24 [] (.ret (.bool true))):Pu 7 [.agg [.sl z0 d0,.sl z1 d1,.sl 12 (insC ins),.sl z3 d3,.sl z4 d4,.sl 25 (dfsC l)],.int .u8 k,.sl 7 (Vl.cs args)] (rB true):=
 pm mdL [cl hlg,bt true,cl haw] func7
theorem pl1(hlg:Pu 23 [.agg [.sl z0 d0,.sl z1 d1,.sl 12 (insC ins),.sl z3 d3,.sl z4 d4,.sl 25 (dfsC l)],.sl 7 (Vl.cs args)] (.ret (.bool true)))(sf:Ex->Bool)(hwd:∀w,w∈l->Pu 30 [.agg (exL (dfB w))] (.ret (.bool (sf (dfB w)))))(haw:Pu 24 [] (.ret (.bool true)))(hdl:l.length<=1000000000)(hds:cpD_f sf l = .e0):Pu 7 [.agg [.sl z0 d0,.sl z1 d1,.sl 12 (insC ins),.sl z3 d3,.sl z4 d4,.sl 25 (dfsC l)],.int .u8 k,.sl 7 (Vl.cs args)] (rB true):=
 pu mdL (fun e=>[cl hlg,bf false,lp (S.mk [(0,.v (.agg [.sl z0 d0,.sl z1 d1,.sl 12 (insC ins),.sl z3 d3,.sl z4 d4,.sl 25 (dfsC l)])),(1,.v (.int .u8 k)),(2,vL 7 (Vl.cs args)),(3,.lp 3 0),(6,.v (.bool false)),(11,.v (.agg [.sl z0 d0,.sl z1 d1,.sl 12 (insC ins),.sl z3 d3,.sl z4 d4,.sl 25 (dfsC l)])),(12,vL 7 (Vl.cs args)),(13,.v (.bool true)),(14,.v (.bool false)),(7,vI6 0)] [(3,[vL z0 d0,vL z1 d1,vL 12 (insC ins),vL z3 d3,vL z4 d4,vL 25 (dfsC l)])] e) (@cpD_0 (d0) (d1) (d3) (d4) (z0) (z1) (z3) (z4) (ins) (l) (k) (args) hlg (sf) hwd haw (e) hdl hds) xr]) func7
theorem pl2(hlg:Pu 23 [.agg [.sl z0 d0,.sl z1 d1,.sl 12 (insC ins),.sl z3 d3,.sl z4 d4,.sl 25 (dfsC l)],.sl 7 (Vl.cs args)] (.ret (.bool true)))(sf:Ex->Bool)(hwd:∀w,w∈l->Pu 30 [.agg (exL (dfB w))] (.ret (.bool (sf (dfB w)))))(haw:Pu 24 [] (.ret (.bool true)))(hdl:l.length<=1000000000)(hds:cpD_f sf l = .e1)(nm:BA)(hnm:Pu 27 [.agg [.sl z0 d0,.sl z1 d1,.sl 12 (insC ins),.sl z3 d3,.sl z4 d4,.sl 25 (dfsC l)],.int .u8 k] (.ret (.str nm)))(hbg:Pu 26 [.agg [.sl z0 d0,.sl z1 d1,.sl 12 (insC ins),.sl z3 d3,.sl z4 d4,.sl 25 (dfsC l)],.str nm,.sl 7 (Vl.cs args),.int .i64 300] (.ret (.bool true))):Pu 7 [.agg [.sl z0 d0,.sl z1 d1,.sl 12 (insC ins),.sl z3 d3,.sl z4 d4,.sl 25 (dfsC l)],.int .u8 k,.sl 7 (Vl.cs args)] (rB true):=
 pu mdL (fun e=>[cl hlg,bf false,lp (S.mk [(0,.v (.agg [.sl z0 d0,.sl z1 d1,.sl 12 (insC ins),.sl z3 d3,.sl z4 d4,.sl 25 (dfsC l)])),(1,.v (.int .u8 k)),(2,vL 7 (Vl.cs args)),(3,.lp 3 0),(6,.v (.bool false)),(11,.v (.agg [.sl z0 d0,.sl z1 d1,.sl 12 (insC ins),.sl z3 d3,.sl z4 d4,.sl 25 (dfsC l)])),(12,vL 7 (Vl.cs args)),(13,.v (.bool true)),(14,.v (.bool false)),(7,vI6 0)] [(3,[vL z0 d0,vL z1 d1,vL 12 (insC ins),vL z3 d3,vL z4 d4,vL 25 (dfsC l)])] e) (@cpD_1 (d0) (d1) (d3) (d4) (z0) (z1) (z3) (z4) (ins) (l) (k) (args) hlg (sf) hwd haw (e) hdl hds) xr,cl hnm,cl hbg,bt true,cl haw]) func7
theorem pl3(hlg:Pu 23 [.agg [.sl z0 d0,.sl z1 d1,.sl 12 (insC ins),.sl z3 d3,.sl z4 d4,.sl 25 (dfsC l)],.sl 7 (Vl.cs args)] (.ret (.bool true)))(sf:Ex->Bool)(hwd:∀w,w∈l->Pu 30 [.agg (exL (dfB w))] (.ret (.bool (sf (dfB w)))))(haw:Pu 24 [] (.ret (.bool true)))(hdl:l.length<=1000000000)(hds:cpD_f sf l = .e1)(nm:BA)(hnm:Pu 27 [.agg [.sl z0 d0,.sl z1 d1,.sl 12 (insC ins),.sl z3 d3,.sl z4 d4,.sl 25 (dfsC l)],.int .u8 k] (.ret (.str nm)))(hbg:Pu 26 [.agg [.sl z0 d0,.sl z1 d1,.sl 12 (insC ins),.sl z3 d3,.sl z4 d4,.sl 25 (dfsC l)],.str nm,.sl 7 (Vl.cs args),.int .i64 300] (.ret (.bool false)))(v:Vl)(er:Int)(wh:BA)(st i:Int)(hcc:Pu 28 [.agg [.sl z0 d0,.sl z1 d1,.sl 12 (insC ins),.sl z3 d3,.sl z4 d4,.sl 25 (dfsC l)],.str nm,.sl 7 (Vl.cs args),.int .i64 300] (.ret (.tup [.agg (otL v er wh st),.int .i64 i])))(hec:Pu 21 [.agg [.sl z0 d0,.sl z1 d1,.sl 12 (insC ins),.sl z3 d3,.sl z4 d4,.sl 25 (dfsC l)],.str nm,.sl 7 (Vl.cs args),.int .i64 300] (.ret (.agg (otL v er wh st))))(hso:Pu 29 [.agg (otL v er wh st),.agg (otL v er wh st)] (.ret (.bool true)))(hcw:Pu 31 [.agg [.sl z0 d0,.sl z1 d1,.sl 12 (insC ins),.sl z3 d3,.sl z4 d4,.sl 25 (dfsC l)],.str nm,.sl 7 (Vl.cs args),.int .i64 300] (.ret (.int .i64 0))):Pu 7 [.agg [.sl z0 d0,.sl z1 d1,.sl 12 (insC ins),.sl z3 d3,.sl z4 d4,.sl 25 (dfsC l)],.int .u8 k,.sl 7 (Vl.cs args)] (rB true):=
 pu mdL (fun e=>[cl hlg,bf false,lp (S.mk [(0,.v (.agg [.sl z0 d0,.sl z1 d1,.sl 12 (insC ins),.sl z3 d3,.sl z4 d4,.sl 25 (dfsC l)])),(1,.v (.int .u8 k)),(2,vL 7 (Vl.cs args)),(3,.lp 3 0),(6,.v (.bool false)),(11,.v (.agg [.sl z0 d0,.sl z1 d1,.sl 12 (insC ins),.sl z3 d3,.sl z4 d4,.sl 25 (dfsC l)])),(12,vL 7 (Vl.cs args)),(13,.v (.bool true)),(14,.v (.bool false)),(7,vI6 0)] [(3,[vL z0 d0,vL z1 d1,vL 12 (insC ins),vL z3 d3,vL z4 d4,vL 25 (dfsC l)])] e) (@cpD_1 (d0) (d1) (d3) (d4) (z0) (z1) (z3) (z4) (ins) (l) (k) (args) hlg (sf) hwd haw (e) hdl hds) xr,cl hnm,cl hbg,bf false,cl hnm,cl hcc,cl hnm,cl hec,cl hso,rp 4 (bt true),cl hnm,rp 2 (bt true),cl hcw,rp 3 (bt true),cl haw,bt true]) func7
end
theorem pre_if(c:Prop) [Decidable c] (s:List Int) (n:Int):s <+: (if c then s++[n] else s):=by
 split
 ·exact List.prefix_append _ _
 ·exact List.prefix_rfl
mutual
theorem plV_pre:∀ (v:Vl) (s:List Int),s <+: (plV v s).2
 | .mk op n nm kids ps body binds,s=>by
  rw [plV]
  exact ((pre_if (op=4) s n).trans (plVs_pre kids _)).trans (plBs_pre binds _)
theorem plVs_pre:∀ (l:List Vl) (s:List Int),s <+: (plVs l s).2
 | [],s=>by rw [plVs]; exact List.prefix_rfl
 | v::r,s=>by rw [plVs]; exact (plV_pre v s).trans (plVs_pre r _)
theorem plBs_pre:∀ (l:List Bd) (s:List Int),s <+: (plBs l s).2
 | [],s=>by rw [plBs]; exact List.prefix_rfl
 | .mk nm v::r,s=>by rw [plBs]; exact (plV_pre v s).trans (plBs_pre r _)
end
mutual
theorem rd_plV:∀ (v:Vl) (s S:List Int),(plV v s).2 <+: S->rdV S (plV v s).1=v
 | .mk op n nm kids ps body binds,s,S,h=>by
  rw [plV] at h ⊢
  simp only at h ⊢
  have h1:=(plBs_pre binds _).trans h
  have h2:=(plVs_pre kids _).trans h1
  rw [rdV,rd_plVs kids _ S h1,rd_plBs binds _ S h]
  by_cases ho:op=4
  ·simp only [iP ho,Int.toNat_natCast] at h2 ⊢
   rw [getD_pre h2 sM]
   simp [List.getD]
  ·simp only [iN ho]
theorem rd_plVs:∀ (l:List Vl) (s S:List Int),(plVs l s).2 <+: S->rdVs S (plVs l s).1=l
 | [],s,S,_=>by rw [plVs,rdVs]
 | v::r,s,S,h=>by
  rw [plVs] at h ⊢
  rw [rdVs,rd_plV v s S ((plVs_pre r _).trans h),rd_plVs r _ S h]
theorem rd_plBs:∀ (l:List Bd) (s S:List Int),(plBs l s).2 <+: S->rdBs S (plBs l s).1=l
 | [],s,S,_=>by rw [plBs,rdBs]
 | .mk nm v::r,s,S,h=>by
  rw [plBs] at h ⊢
  rw [rdBs,rd_plV v s S ((plBs_pre r _).trans h),rd_plBs r _ S h]
end
inductive FlV:Vl->Prop
 | mk {v:Vl} (hb:vlB v=[]) (hd:vlBd v=[]) (hk:∀w,w∈vlK v->FlV w):FlV v
theorem FlV.nv{N:Nat}{v:Vl}(h:FlV v):CeV N v->Nv N v:=by
 induction h with
 | @mk v hb hd hk ih=>
  intro c
  obtain ⟨c1,-,c3,-⟩:=CeV_parts c
  exact .mk c1 (fun x hx=>by rw [hb] at hx; cases hx) (fun w hw=>ih w hw (CeVs_at c3 w hw)) (fun b hb=>by rw [hd] at hb; cases hb)
mutual
theorem plV_fl:∀ (v:Vl) (s:List Int),FlV v->FlV (plV v s).1
 | .mk op n nm kids ps body binds,s,h=>by
  cases h with
  | mk hb hd hk=>
   simp only [vlB,vlBd,vlK] at hb hd hk
   subst hb hd
   rw [plV,plBs]
   exact .mk rfl rfl (plVs_fl kids _ hk)
theorem plVs_fl:∀ (l:List Vl) (s:List Int),(∀w,w∈l->FlV w)->∀w,w∈(plVs l s).1->FlV w
 | [],s,_,w,hw=>by rw [plVs] at hw; cases hw
 | v::r,s,h,w,hw=>by
  rw [plVs] at hw
  rcases List.mem_cons.1 hw with rfl | hw
  ·exact plV_fl v s (h v List.mem_cons_self)
  ·exact plVs_fl r _ (fun x hx=>h x (List.mem_cons_of_mem _ hx)) w hw
end
theorem flA_all{ff:Vl->Int->Bool}{m:Int}:∀ {l:List Vl},flA_f ff m l = .e1->∀w,w∈l->∃k,ff w k=true
 | v::r,h,w,hw=>by
  rw [flA_f] at h
  split at h
  ·cases h
  ·rename_i hv
   rcases List.mem_cons.1 hw with rfl | hw
   ·exact ⟨_,by simpa using hv⟩
   ·exact flA_all h w hw
theorem flat_ex2:∀ (d:Nat) (v:Vl),SizeOf.sizeOf v<d->SmV v->∀m:Int,∃b,Pu 56 [.agg (vlL v),.int .i64 m] (.ret (.bool b))/\(b=true->FlV v)
 | 0,v,h,_,_=>by omega
 | d+1,v,h,hs,m=>by
  obtain ⟨h1,-,-,-,h5,-⟩:=SmV_parts hs
  have hw:∀ (w:Vl) (m:Int),w∈vlK v->∃b,Pu 56 [.agg (vlL w),.int .i64 m] (.ret (.bool b))/\(b=true->FlV w):=fun w m hw=>flat_ex2 d w (by have:=vkid_lt hw; omega) (SmVs_at h5 w hw) m
  obtain ⟨ff,hff⟩:∃ff:Vl->Int->Bool,∀ (w:Vl) (m:Int),w∈vlK v->Pu 56 [.agg (vlL w),.int .i64 m] (.ret (.bool (ff w m)))/\(ff w m=true->FlV w):=by
   classical
   exact ⟨fun w m=>if h:w∈vlK v then Classical.choose (hw w m h) else false,fun w m h=>by simp only [dif_pos h]; exact Classical.choose_spec (hw w m h)⟩
  have hf:=fun w m h=>(hff w m h).1
  by_cases x0:m=0
  ·exact ⟨_,rFlat_1 v ff m hf x0,by simp⟩
  by_cases x1:((vlK v).length:Int)>4
  ·exact ⟨_,rFlat_2 v ff m hf x0 x1,by simp⟩
  by_cases x2:((vlBd v).length:Int)>0
  ·exact ⟨_,rFlat_3 v ff m hf x0 x1 x2,by simp⟩
  by_cases x3:((vlB v).length:Int)>0
  ·exact ⟨_,rFlat_4 v ff m hf x0 x1 x2 x3,by simp⟩
  cases x4:flA_f ff m (vlK v) with
  | e0=>exact ⟨_,rFlat_5 v ff m hf x0 x1 x2 x3 x4,by simp⟩
  | e1=>
   refine ⟨_,rFlat_6 v ff m hf x0 x1 x2 x3 x4,fun _ => .mk (List.eq_nil_of_length_eq_zero oM) (List.eq_nil_of_length_eq_zero oM) fun w hw=>?_⟩
   obtain ⟨k,hk⟩:=flA_all x4 w hw
   exact (hff w k hw).2 hk
theorem liA_all{ff:Vl->Int->Bool}:∀ {l:List Vl},liA_f ff l = .e1->∀w,w∈l->ff w 3=true
 | v::r,h,w,hw=>by
  rw [liA_f] at h
  split at h
  ·cases h
  ·rename_i hv
   rcases List.mem_cons.1 hw with rfl | hw
   ·simpa using hv
   ·exact liA_all h w hw
theorem seK_all{sf:Ex->Bool}:∀ {l:List Ex} {b:Bool},seK_f sf l b=false->b=false/\∀w,w∈l->sf w=false
 | [],b,h=>by rw [seK_f] at h; exact ⟨h,fun w hw=>by cases hw⟩
 | x::r,b,h=>by
  rw [seK_f] at h
  split at h
  ·exact absurd (seK_all h).1 sM
  ·rename_i hb
   obtain ⟨h1,h2⟩:=seK_all h
   refine ⟨by simpa using hb,fun w hw=>?_⟩
   rcases List.mem_cons.1 hw with rfl | hw
   ·exact h1
   ·exact h2 w hw
theorem seA_all{sf:Ex->Bool}:∀ {l:List Al} {b:Bool},seA_f sf l b=false->b=false/\∀w,w∈l->sf (alB w)=false
 | [],b,h=>by rw [seA_f] at h; exact ⟨h,fun w hw=>by cases hw⟩
 | x::r,b,h=>by
  rw [seA_f] at h
  split at h
  ·exact absurd (seA_all h).1 sM
  ·rename_i hb
   obtain ⟨h1,h2⟩:=seA_all h
   refine ⟨by simpa using hb,fun w hw=>?_⟩
   rcases List.mem_cons.1 hw with rfl | hw
   ·exact h1
   ·exact h2 w hw
theorem sets_ex:∀ (d:Nat) (x:Ex),szE x<d->szE x<=100000000->∃b,Pu 30 [.agg (exL x)] (.ret (.bool b))/\(b=false->NsE x)
 | 0,x,h,_=>by omega
 | d+1,x,h,hs=>by
  have h1:=szE_eq x
  have hk:∀w:Ex,w∈exK x->szE w<d/\szE w<=100000000:=fun w hw=>by have:=kid_bulk hw; omega
  have ha:∀w:Al,w∈exA x->szE (alB w)<d/\szE (alB w)<=100000000:=fun w hw=>by have:=alt_bulk hw; omega
  obtain ⟨sf,hsf⟩:∃sf:Ex->Bool,∀w:Ex,szE w<d/\szE w<=100000000->Pu 30 [.agg (exL w)] (.ret (.bool (sf w)))/\(sf w=false->NsE w):=by
   classical
   exact ⟨fun w=>if h:szE w<d/\szE w<=100000000 then Classical.choose (sets_ex d w h.1 h.2) else false,fun w h=>by simp only [dif_pos h]; exact Classical.choose_spec (sets_ex d w h.1 h.2)⟩
  have c1:=szE_lens hs
  refine ⟨_,rSets x sf (fun w hw=>(hsf w (hk w hw)).1) (fun w hw=>(hsf _ (ha w hw)).1) oM oM,fun hf=>?_⟩
  obtain ⟨g1,g2⟩:=seA_all hf
  obtain ⟨g3,g4⟩:=seK_all g1
  exact .mk (by simpa using g3) (fun w hw=>(hsf w (hk w hw)).2 (g4 w hw)) (fun w hw=>(hsf _ (ha w hw)).2 (g2 w hw))
theorem cpD_all{sf:Ex->Bool}:∀ {l:List Df},cpD_f sf l = .e1->∀w,w∈l->sf (dfB w)=false
 | v::r,h,w,hw=>by
  rw [cpD_f] at h
  split at h
  ·cases h
  ·rename_i hv
   rcases List.mem_cons.1 hw with rfl | hw
   ·simpa using hv
   ·exact cpD_all h w hw
section
variable (d0 d1 d3 d4:List (List PV)) (z0 z1 z3 z4:Nat) (ins:List In) (l:List Df)
theorem light31_ex2(hl:bulkPss (dfsC l)<=1048576)(hi:bulkPss (insC ins)<=1048576){args:List Vl}(ha:SmVs args):∃b,Pu 23 [mdI d0 d1 d3 d4 z0 z1 z3 z4 ins l,.sl 7 (Vl.cs args)] (.ret (.bool b))/\(b=true->∀w,w∈args->FlV w):=by
 obtain ⟨k,hk⟩:=size_ex d0 d1 d3 d4 z0 z1 z3 z4 ins l hl hi
 have hw:∀ (w:Vl) (m:Int),w∈args->∃b,Pu 56 [.agg (vlL w),.int .i64 m] (.ret (.bool b))/\(b=true->FlV w):=fun w m hw=>flat_ex2 _ w (Nat.lt_succ_self _) (SmVs_at ha w hw) m
 obtain ⟨ff,hff⟩:∃ff:Vl->Int->Bool,∀ (w:Vl) (m:Int),w∈args->Pu 56 [.agg (vlL w),.int .i64 m] (.ret (.bool (ff w m)))/\(ff w m=true->FlV w):=by
  classical
  exact ⟨fun w m=>if h:w∈args then Classical.choose (hw w m h) else false,fun w m h=>by simp only [dif_pos h]; exact Classical.choose_spec (hw w m h)⟩
 have hf:=fun w m h=>(hff w m h).1
 by_cases x0:(l.length:Int)>8
 ·exact ⟨_,rLig_1 d0 d1 d3 d4 z0 z1 z3 z4 ins l args ff k hk hf x0,by simp⟩
 by_cases x1:k>300
 ·exact ⟨_,rLig_2 d0 d1 d3 d4 z0 z1 z3 z4 ins l args ff k hk hf x0 x1,by simp⟩
 by_cases x2:(args.length:Int)>6
 ·exact ⟨_,rLig_3 d0 d1 d3 d4 z0 z1 z3 z4 ins l args ff k hk hf x0 x1 x2,by simp⟩
 cases x3:liA_f ff args with
 | e0=>exact ⟨_,rLig_4 d0 d1 d3 d4 z0 z1 z3 z4 ins l args ff k hk hf x0 x1 x2 x3,by simp⟩
 | e1=>exact ⟨_,rLig_5 d0 d1 d3 d4 z0 z1 z3 z4 ins l args ff k hk hf x0 x1 x2 x3,fun _ w hw=>(hff w 3 hw).2 (liA_all x3 w hw)⟩
theorem plain_true(hx:PV.noX (mdI d0 d1 d3 d4 z0 z1 z3 z4 ins l)=true)(hl:bulkPss (dfsC l)<=1048576)(hi:bulkPss (insC ins)<=1048576)(k:Int)(hk0:0<=k)(hk1:k<=255){args:List Vl}(ha:bulkPss (Vl.cs args)<=1048576) :
  Pu 7 [mdI d0 d1 d3 d4 z0 z1 z3 z4 ins l,.int .u8 k,.sl 7 (Vl.cs args)] (.ret (.bool true)):=by
 have hsl:SmL l:=SmL_bulk oM
 have hsa:SmVs args:=SmVs_bulk oM
 have hba:BoVs args:=BoVs_bulk ha
 have hal:=vals_bulk args
 have hcn:=cnVs_bulk args
 have hll:=dfs_len l
 have hd:∀d∈l,szE (dfB d)<=1048576:=fun d hd=>by
  have h1:=dfs_bulk hd
  have h2:=df_bulk d
  omega
 obtain ⟨b0,hLt,hfl⟩:=light31_ex2 d0 d1 d3 d4 z0 z1 z3 z4 ins l hl hi hsa
 cases b0 with
 | false=>exact pl0 d0 d1 d3 d4 z0 z1 z3 z4 ins l k args hLt awake31
 | true=>
  have hfl:=hfl rfl
  obtain ⟨sf,hsf⟩:∃sf:Ex->Bool,∀d,d∈l->Pu 30 [.agg (exL (dfB d))] (.ret (.bool (sf (dfB d))))/\(sf (dfB d)=false->NsE (dfB d)):=by
   classical
   exact ⟨fun w=>if h:szE w<=1048576 then Classical.choose (sets_ex _ w (Nat.lt_succ_self _) oM) else false,fun d h=>by simp only [dif_pos (hd d h)]; exact Classical.choose_spec (sets_ex _ (dfB d) (Nat.lt_succ_self _) (by have:=hd d h; omega))⟩
  have hs:=fun d h=>(hsf d h).1
  cases hds:cpD_f sf l with
  | e0=>exact pl1 d0 d1 d3 d4 z0 z1 z3 z4 ins l k args hLt sf hs awake31 oM hds
  | e1=>
  have hD:∀d,d∈l->NsE (dfB d):=fun d h=>(hsf d h).2 (cpD_all hds d h)
  obtain ⟨nm,hNm⟩:=name31_ex d0 d1 d3 d4 z0 z1 z3 z4 ins l hsl.1 k hk0 hk1
  obtain ⟨b1,hBg⟩:=big31_ok ⟨_,_,_,_,_⟩ l hx hsl hd (name:=nm) hsa hba oM oM
  cases b1 with
  | true=>exact pl2 d0 d1 d3 d4 z0 z1 z3 z4 ins l k args hLt sf hs awake31 oM hds nm hNm hBg
  | false=>
   have hpo:=plVs_ok args [] hsa hba
   have main:∃o:Co,Cal l 300 nm (plVs args []).1 (plVs args []).2 o/\o.st.w=0/\((findD nm l=none/\rdO o.st.s o = .er 19 0 nm0)∨∃d,findD nm l=some d/\Ev semE l (fl' 300) (.call d args) 0 nm0 (rdO o.st.s o))/\ocL (rdO o.st.s o)=otL (coV o) (coE o) (coW o) o.st.n:=by
    cases hf:findD nm l with
    | none=>exact ⟨.er 19 ⟨0,(plVs args []).2,0⟩ nm0,.inl ⟨hf,rfl⟩,rfl,.inl ⟨rfl,rfl⟩,rfl⟩
    | some d=>
     obtain ⟨o,ho⟩:=totalC_call cS niS l 300 d (plVs args []).1 ⟨0,(plVs args []).2,0⟩ nm0
     obtain ⟨⟨p1,p2,-⟩,p4⟩:=ho.plain hD ⟨hD d (findD_mem hf),fun w hw=>(plVs_fl args [] hfl w hw).nv (CeVs_at hpo.2 w hw)⟩
     have e:=p4 o.st.s List.prefix_rfl
     simp only [rdT] at e
     rw [rd_plVs args [] _ p1] at e
     refine ⟨o,.inr ⟨d,hf,ho⟩,p2,.inr ⟨d,rfl,?_⟩,?_⟩
     ·rw [fl_eq dD dD]; exact e
     ·have sh:=ho.shape
      cases o with
      | er k st w=>rfl
      | ok vs st=>
       obtain ⟨v,rfl⟩:=List.length_eq_one_iff.1 sh
       simp only [rdO,rdVs_cons,rdVs_nil,ocL,coV,coE,coW,Co.st]
   obtain ⟨o,hc,hw,he,hq⟩:=main
   have h1:=cCall_ok ⟨_,_,_,_,_⟩ l 300 hx hsl hd (name:=nm) hsa hba oM dD dD oM hc
   have h2:=cWri_ok ⟨_,_,_,_,_⟩ l 300 hx hsl hd (name:=nm) hsa hba oM dD dD oM hc
   have h3:=eCall_ok ⟨_,_,_,_,_⟩ l 300 hx hsl (name:=nm) hsa he
   rw [hq] at h3
   rw [hw] at h2
   exact pl3 d0 d1 d3 d4 z0 z1 z3 z4 ins l k args hLt sf hs awake31 oM hds nm hNm hBg (coV o) (coE o) (coW o) o.st.n o.st.s.length h1.2 h3 (rSOT h1.1 _ _ _) h2
end
end Go.Proofs.YtgonmmckkikmaaaGreat
