/- Values of Go as plain data, an evaluator over them, and what the functions of the program return; part Yb. -/
import Derived.Test.YtaakmholhliodaaGreatDoorYa
import Derived.Test.YtaakmholhliodaaGreatDoorXs
import Derived.Sort.KeysCollected
import Derived.Sort.OwnSorted
import Derived.Maps.AppendAt
import Derived.Maps.RangeWalk
import Derived.WalkKit
import Derived.Tactics
import Derived.KernelRfl
import Derived.Test.YtaakmholhliodaaGreatDoorXe
import Derived.Test.YtaakmholhliodaaGreatDoorXh
set_option linter.unusedSectionVars false
set_option linter.unusedSimpArgs false
set_option linter.unusedVariables false
namespace Go.Proofs.YtaakmholhliodaaGreatDoor
open Go.Proofs.Tryz
open Go.Pv Go.Proofs.Tryz
set_option maxRecDepth 100000
theorem cloN(l:List BA)(hn:l.length<=1000000000):Pu 44 [.sl 1 (nmsC l)] (.own 9 1 (nmsC l)):=by
 refine ⟨by kernel_rfl,fun e=>?_⟩
 refine CallC.enter func44 rfl (show 1<=8 by decide) fun cx hcx hds=>?_
 refine PW_seq ?_
 refine PW_runK mdL 8 50 [] [0] [] (s':=⟨[(0,.v (.sl 1 (nmsC l)))],[],e⟩) (pe := .normal) (sc':=[]) (l:=[]) mixed hcx kR kR trivial ?_
 show PW _ _ _ _ _
 refine PW_seq (PW_seq ?_)
 intro g l0 a w hs
 refine wp_region_lit ?_
 have hn':∀k,k<8->k<cx.n:=fun k hk=>by rw [hcx]; exact hk
 refine (PL_moveV (p := .sl 1 (nmsC l)) rfl rfl rfl (hn' _ dD) rfl ?_:PL _ _ _ _ _ _) g l0 a w hs
 refine PL_nilcmp (z:=1) (es:=nmsC l) (el:=9) rfl rfl rfl (hn' _ dD) kR rfl fun b hb=>?_
 refine PL_nil ?_
 show PW _ _ _ _ _
 cases b with
 | true=>
  have h0:=hb rfl
  refine PW.leX (t:=⟨[(4,.v (.bool true))],[],e⟩) ⟨⟨W,tVv⟩,trivial,rfl⟩ ?_
  refine PW.postLe ?_
  refine PW_runK mdL 8 50 [Ans.bit true] [2] [] (s':=⟨[(2,.v .nilsl)],[],e⟩) (pe := .ret) (sc':=[]) (l:=[.bit true true]) mixed hcx kR kR ⟨rfl,tVv⟩ ?_
  refine ⟨⟨[(2,.uniq 9 1 [])],[],e⟩,⟨⟨.inr rfl,tVv⟩,trivial,rfl⟩,?_⟩
  refine .inr ⟨2,9,1,[],rfl,rfl,?_⟩
  rw [h0]
  exact ⟨rfl,rfl⟩
 | false=>
  refine PW.leX (t:=⟨[(0,.v (.sl 1 (nmsC l))),(4,.v (.bool false))],[],e⟩) ⟨⟨W,W,tVv⟩,trivial,rfl⟩ ?_
  refine PW_runK mdL 8 50 [Ans.bit false] [0] [] (s':=⟨[(0,.v (.sl 1 (nmsC l)))],[],e⟩) (pe := .normal) (sc':=[]) (l:=[.bit false false]) mixed hcx kR kR ⟨rfl,tVv⟩ ?_
  show PW _ _ _ _ _
  refine PW_runK mdL 8 50 [] [2] [] (s':=⟨[(2,.uniq 9 1 (nmsC l))],[],e⟩) (pe := .ret) (sc':=[]) (l:=[.bit (decide ((nmsC l).length * 16<=140737488355328)) true]) mixed hcx kR kR ⟨ob_bit (dT (by rw [nmsC_len]; omega)),tVv⟩ ?_
  exact .inr ⟨2,9,1,nmsC l,rfl,rfl,rfl,rfl⟩
abbrev idx_I(l:List BA)(s:BA)(j:Int)(e:Ext):S:=S.mk [(0,vL 1 (nmsC l)),(1,vS s),(7,vI6 (l.length:Int)),(8,vI6 j)] [] e
inductive idx_R where
 | e0 (i:Nat)
 | e1
def idx_f(s:BA):List BA->Nat->idx_R
 | [],i=>(idx_R.e1)
 | el::r,i=>(if s=el then (idx_R.e0 i) else idx_f s r (i+1))
def idx_q(l:List BA)(s:BA)(e:Ext):idx_R->PExit × S
 | .e0 i=>(.ret,S.mk [(0,vL 1 (nmsC l)),(1,vS s),(7,vI6 (l.length:Int)),(4,vI6 (i:Int))] [] e)
 | .e1=>(.exit 0,S.mk [(0,vL 1 (nmsC l)),(1,vS s),(7,vI6 (l.length:Int))] [] e)
theorem idx_lp(l:List BA)(s:BA)(e:Ext)(hN:l.length<=1000000000):(Ob.loop 19 (loopF f87 0) (idx_I l s 0  e) (idx_q l s e (idx_f s (l) 0)).1 (idx_q l s e (idx_f s (l) 0)).2).ok prog:=by
 refine rng l.length (fun j _=>idx_I l s j  e) (fun i _=>idx_f s (List.drop i (l)) i) (idx_q l s e) (fun i _=>True) kR ?_ () trivial
 rintro i u hi -
 rcases Nat.lt_or_ge i (l.length) with hlt | hge
 ·have hd:=drop_at0 hlt
  by_cases h0:s=List.getD l i nm0
  ·exact lX mdL [rgNm hlt,bt (ByteArray.toList s==ByteArray.toList (List.getD l i nm0)) (bsT h0)] (idx_R.e0 i) (by rw [hd,idx_f,iP h0])
  ·exact lN mdL [rgNm hlt,bf (ByteArray.toList s==ByteArray.toList (List.getD l i nm0)) (bsF h0),wr ((i:Int)+1)] hlt () trivial (by rw [hd,idx_f,iN h0])
 ·have he:i=l.length:=by omega
  exact lX mdL [df ((i:Int)<(l.length:Int))] (idx_R.e1) (by rw [he,List.drop_length,idx_f])
abbrev bnm_I(ps:List Pm)(j:Int)(out:List BA)(e:Ext):S:=S.mk [(2,.v .nilsl),(3,.uniq 9 1 (nmsC out)),(6,vL 10 (Pm.cs ps)),(7,vI6 (ps.length:Int)),(8,vI6 j)] [] e
def bnm_f  : List Pm->(List BA)->(List BA)
 | [],out=>(out)
 | el::r,out=>bnm_f  r (out++[pmNm el])
def bnm_q(ps:List Pm)(e:Ext)(p:(List BA)):PExit × S:=(.exit 0,S.mk [(2,.v .nilsl),(3,.uniq 9 1 (nmsC p)),(6,vL 10 (Pm.cs ps)),(7,vI6 (ps.length:Int))] [] e)
theorem bnm(ps:List Pm)(out:List BA)(e:Ext)(hN:ps.length<=1000000000)(hv:List.length out<=0):(Ob.loop 19 (loopF f145 0) (bnm_I ps 0 out e) (bnm_q ps e (bnm_f  (ps)  out)).1 (bnm_q ps e (bnm_f  (ps)  out)).2).ok prog:=by
 refine rng ps.length (fun j out=>bnm_I ps j out e) (fun i out=>bnm_f  (List.drop i (ps))  out) (bnm_q ps e) (fun i out=>(out.length<=i)) kR ?_ out (by first | exact hv | omega)
 rintro i out hi hv
 try simp only at hv
 rcases Nat.lt_or_ge i (ps.length) with hlt | hge
 ·have hd:=drop_at hlt
  exact lS mdL [rgPm hlt,am (List.length (nmsC out++[[.str (pmNm (List.getD ps i default))]]) * (15+1)<=140737488355328) (by (simp only [List.length_append,List.length_cons,List.length_nil,nmsC_len]; omega)),wr ((i:Int)+1)] [2,3,6,7,8] [] hlt (out++[pmNm (List.getD ps i default)]) (S.mk [(2,.v .nilsl),(3,.uniq 9 1 (nmsC out++[[PV.str (pmNm (List.getD ps i default))]])),(6,vL 10 (Pm.cs ps)),(7,vI6 (ps.length:Int)),(8,vI6 ((i:Int)+1))] [] e) ⟨⟨W,(.inl (by first | (simp only [List.nil_append,nmsC_app,nmsC_snoc,Pr.cs_snoc,Tp.cs_snoc,Ex.cs_snoc,Vr.cs_snoc,Df.cs_snoc]; done) | (simp only [List.nil_append,nmsC_app,nmsC_snoc,Pr.cs_snoc,Tp.cs_snoc,Ex.cs_snoc,Vr.cs_snoc,Df.cs_snoc]; rfl))),W,W,W,tVv⟩,trivial,rfl⟩ (by first | assumption | omega | (simp only [List.length_append,List.length_cons,List.length_nil] at *; omega) | simp_all) (by rw [hd,bnm_f])
 ·have he:i=ps.length:=by omega
  exact lX mdL [df ((i:Int)<(ps.length:Int))] (out) (by rw [he,List.drop_length,bnm_f])
theorem sBound(ps:List Pm)(hn:ps.length<=1000000000):Pu 145 [.sl 10 (Pm.cs ps)] (.own 9 1 (nmsC (bnm_f ps []))):=
 pu mdL (fun e=>[sl (Pm.cs_len ps),lp (S.mk [(2,.v .nilsl),(3,.v .nilsl),(6,vL 10 (Pm.cs ps)),(7,vI6 (ps.length:Int)),(8,vI6 0)] [] e) (@bnm ps ([]) e hn (by (simp only [List.length_nil]; omega))) ⟨⟨W,Wq,W,W,W,tVv⟩,trivial,rfl⟩]) func145
def plc(s:BA)(l:List BA):Int:=match idx_f s l 0 with
 | .e0 i=>i
 | .e1=>-1
theorem sIndexT(l:List BA)(s:BA)(hn:l.length<=1000000000):Pu 87 [.sl 1 (nmsC l),.str s] (.ret (.int .i64 (plc s l))):=by
 unfold plc
 cases h:idx_f s l 0 with
 | e0 i=>exact pu mdL (fun e=>[sl (nmsC_len l),lq (rz (idx_lp (l) (s) (e) hn) h)]) func87
 | e1=>exact pu mdL (fun e=>[sl (nmsC_len l),lq (rz (idx_lp (l) (s) (e) hn) h)]) func87
theorem idx_f_e1(s:BA):∀ (l:List BA) (i:Nat),(s∉l->idx_f s l i = .e1)/\(s∈l->∃k,idx_f s l i = .e0 k)
 | [],i=>⟨fun _=>rfl,fun h=>by simp at h⟩
 | x::r,i=>by
  have ih:=idx_f_e1 s r (i+1)
  unfold idx_f
  by_cases hx:s=x
  ·rw [iP hx]
   exact ⟨fun h=>by simp [hx] at h,fun _=>⟨i,rfl⟩⟩
  ·rw [iN hx]
   exact ⟨fun h=>ih.1 (fun hr=>h (List.mem_cons_of_mem _ hr)),fun h=>ih.2 (by simpa [hx] using h)⟩
theorem plc_neg(s:BA)(l:List BA):plc s l<0↔s∉l:=by
 unfold plc
 by_cases h:s∈l
 ·obtain ⟨k,hk⟩:=(idx_f_e1 s l 0).2 h
  rw [hk]
  simp [h]
 ·rw [(idx_f_e1 s l 0).1 h]
  simp [h]
theorem sFind(l:List BA)(s:BA)(hn:l.length<=1000000000):Pu 76 [.sl 1 (nmsC l),.str s] (rI (plc s l)):=
 pm mdL [cl (@sIndexT l s hn)] func76
theorem bnm_eq:∀ (ps:List Pm) (out:List BA),bnm_f ps out=out++ps.map pmNm
 | [],out=>by simp [bnm_f]
 | p::r,out=>by simp [bnm_f,bnm_eq r]
theorem sBoundT(ps:List Pm)(hn:ps.length<=1000000000):Pu 145 [.sl 10 (Pm.cs ps)] (.ret (.sl 1 (nmsC (ps.map pmNm)))):=by
 have:=Ob.pur_unown (sBound ps hn)
 rw [bnm_eq] at this
 exact this
theorem sVar_1(x:Ex)(hx0:exO x=3):Pu 135 [.agg (exL x)] (rB true):=
 pm mdL [rp 4 (et1 hx0)] func135
theorem sVar_2(x:Ex)(hx0:¬exO x=3):Pu 135 [.agg (exL x)] (rB (exO x==5)):=
 pm mdL [rp 4 (en1 hx0)] func135
theorem sIns_1(x:Ex)(k:Int)(hn:(exP x).length<=1000000000)(hx0:exO x=7)(hx1:k>0):Pu 136 [.agg (exL x),pI k] (.ret (.sl 1 [[.str (exNm x)]])):=
 pm mdL [rp 3 (et1 hx0),dt1 hx1] func136
theorem sIns_2(x:Ex)(k:Int)(hn:(exP x).length<=1000000000)(hx0:exO x=7)(hx1:¬k>0):Pu 136 [.agg (exL x),pI k] (.ret (.sl 1 [])):=
 Ob.pur_wk (Wk.n 1) (pm mdL [rp 3 (et1 hx0),df1 hx1,en (exO x) 6] func136)
theorem sIns_3(x:Ex)(k:Int)(hn:(exP x).length<=1000000000)(hx0:¬exO x=7)(hx1:exO x=6):Pu 136 [.agg (exL x),pI k] (.ret (.sl 1 (nmsC (List.map pmNm (exP x))))):=
 pm mdL [rp 3 (en1 hx0),bf false,et1 hx1,cl (@sBoundT (exP x) hn)] func136
theorem sIns_4(x:Ex)(k:Int)(hn:(exP x).length<=1000000000)(hx0:¬exO x=7)(hx1:¬exO x=6):Pu 136 [.agg (exL x),pI k] (.ret (.sl 1 [])):=
 Ob.pur_wk (Wk.n 1) (pm mdL [rp 3 (en1 hx0),bf false,en1 hx1] func136)
def insN(x:Ex)(k:Int):List BA:=if exO x=7 then (if k>0 then [exNm x] else []) else if exO x=6 then (exP x).map pmNm else []
theorem sInsT(x:Ex)(k:Int)(hn:(exP x).length<=1000000000):Pu 136 [.agg (exL x),.int .i64 k] (.ret (.sl 1 (nmsC (insN x k)))):=by
 unfold insN
 by_cases h:exO x=7
 ·rw [iP h]
  by_cases h2:k>0
  ·rw [iP h2]; exact sIns_1 x k hn h h2
  ·rw [iN h2]; exact sIns_2 x k hn h h2
 ·rw [iN h]
  by_cases h2:exO x=6
  ·rw [iP h2]; exact sIns_3 x k hn h h2
  ·rw [iN h2]; exact sIns_4 x k hn h h2
def isV(x:Ex):Bool:=decide (exO x=3)||exO x==5
theorem sVarT(x:Ex):Pu 135 [.agg (exL x)] (.ret (.bool (isV x))):=by
 unfold isV
 by_cases h:exO x=3
 ·rw [show (decide (exO x=3)||exO x==5)=true by simp [h]]; exact sVar_1 x h
 ·rw [show (decide (exO x=3)||exO x==5)=(exO x==5) by simp [h]]; exact sVar_2 x h
abbrev OX(es:List (BA × PV)):Ext:=[(0,[.mm (.s es)]),(1,[.v (.mp 0)]),(2,[.v (.xp 1 0)])]
abbrev fnO:PV := .fn (.func 112) [] [.xp 2 0]
def addN(es:List (BA × PV))(n:BA):List (BA × PV):=mupd n (.bool true) es
def addL(es:List (BA × PV))(l:List BA):List (BA × PV):=l.foldl addN es
theorem sAdd1(s:BA)(es:List (BA × PV))(hs:s.size<=1000000000):Ef 113 [.xp 1 0,.sl 1 [[.str s]]] (OX es) (.ret (.tup [])) (OX (mupd s (.bool true) es)):=
 ef mdL [kp,ur,bt true,rp 2 (kp),ab true,bf false] func113
theorem sVis(x:Ex)(es:List (BA × PV))(hs:(exNm x).size<=1000000000):Ef 112 [.agg (exL x),.xp 2 0] (OX es) (.ret (.tup [])) (OX (mupd (exNm x) (.bool true) es)):=
 ef mdL [ce (@sAdd1 (exNm x) es hs)] func112
abbrev ocI(x:Ex)(h:List BA)(i:Int)(ext:Ext):S:=⟨[(1,.v (.sl 1 (nmsC h))),(2,.v fnO),(3,.lp 3 0),(23,.v (.sl 7 (Ex.cs (exK x)))),(24,.v (.int .i64 (exK x).length)),(25,.v (.int .i64 i))],[(3,exV x)],ext⟩
abbrev ocJ(x:Ex)(h:List BA)(i:Int)(ext:Ext):S:=⟨[(1,.v (.sl 1 (nmsC h))),(2,.v fnO),(41,.v (.sl 9 (Al.cs (exA x)))),(42,.v (.int .i64 (exA x).length)),(43,.v (.int .i64 i))],[],ext⟩
section
variable (x:Ex) (h:List BA)
include x h
theorem ocA(es es2:List (BA × PV))(i:Nat)(hi:i<(exK x).length)(hn:(exK x).length<=1000000000)(hp:(exP x).length<=1000000000)(hh:h.length<=1000000000)(hb:h.length+(insN x i).length<=1000000000)(hr:Ef 111 [.agg (exL ((exK x).getD i default)),.sl 1 (nmsC h++nmsC (insN x i)),fnO] (OX es) (.ret (.tup [])) (OX es2))(cx:Cx)(hcx:cx.n=57){Q:PExit->S->Prop}(hq:Q (.normal) (S.mk [(1,vL 1 (nmsC h)),(2,.v fnO),(3,.lp 3 0),(23,vL 7 (Ex.cs (exK x))),(24,vI6 ((exK x).length:Int)),(25,vI6 ((i:Int)+1))] [(3,exV x)] (OX es2))):PW prog cx (loopF f111 0) (ocI x h (i:Int) (OX es)) Q:=
 pw mdL 57 [rgEx hi,cl (@cloN h hh),cl (@sInsT x ((i:Int)) hp),am (List.length (nmsC h++(fun x=>Prod.snd x) (1,nmsC (insN x (i:Int)))) * (15+1)<=140737488355328) (by (simp only [List.length_append,nmsC_len]; omega)),ce hr,wr ((i:Int)+1)] [1,2,3,23,24,25] [3] hcx hq
theorem ocZ(ext:Ext)(cx:Cx)(hcx:cx.n=57){Q:PExit->S->Prop}(hq:Q (.exit 0) (S.mk [(1,vL 1 (nmsC h)),(2,.v fnO),(3,.lp 3 0),(23,vL 7 (Ex.cs (exK x))),(24,vI6 ((exK x).length:Int)),(25,vI6 ((exK x).length:Int))] [(3,exV x)] ext)):PW prog cx (loopF f111 0) (ocI x h ((exK x).length:Int) ext) Q:=
 pw mdL 57 [df (((exK x).length:Int)<((exK x).length:Int))] [1,2,3,23,24,25] [3] hcx hq
theorem ocB(es es2:List (BA × PV))(i:Nat)(hi:i<(exA x).length)(hn:(exA x).length<=1000000000)(hh:h.length<=1000000000)(hb:h.length+(alNs ((exA x).getD i default)).length<=1000000000)(hr:Ef 111 [.agg (exL (alB ((exA x).getD i default))),.sl 1 (nmsC h++nmsC (alNs ((exA x).getD i default))),fnO] (OX es) (.ret (.tup [])) (OX es2))(cx:Cx)(hcx:cx.n=57){Q:PExit->S->Prop}(hq:Q (.normal) (S.mk [(1,vL 1 (nmsC h)),(2,.v fnO),(41,vL 9 (Al.cs (exA x))),(42,vI6 ((exA x).length:Int)),(43,vI6 ((i:Int)+1))] [] (OX es2))):PW prog cx (loopF f111 1) (ocJ x h (i:Int) (OX es)) Q:=
 pw mdL 57 [rgAl hi,cl (@cloN h hh),am (List.length (nmsC h++(fun x=>Prod.snd x) (1,nmsC (alNs (List.getD (exA x) i default)))) * (15+1)<=140737488355328) (by (simp only [List.length_append,nmsC_len]; omega)),ce hr,wr ((i:Int)+1)] [1,2,41,42,43] [] hcx hq
theorem ocY(ext:Ext)(cx:Cx)(hcx:cx.n=57){Q:PExit->S->Prop}(hq:Q (.exit 2) (S.mk [(1,vL 1 (nmsC h)),(2,.v fnO),(41,vL 9 (Al.cs (exA x))),(42,vI6 ((exA x).length:Int)),(43,vI6 ((exA x).length:Int))] [] ext)):PW prog cx (loopF f111 1) (ocJ x h ((exA x).length:Int) ext) Q:=
 pw mdL 57 [df (((exA x).length:Int)<((exA x).length:Int))] [1,2,41,42,43] [] hcx hq
end
abbrev ocL0(x:Ex)(h:List BA)(es es1:List (BA × PV)):Prop:=(Ob.loop 57 (loopF f111 0) (ocI x h 0 (OX es)) (.exit 0) ⟨[(1,.v (.sl 1 (nmsC h))),(2,.v fnO),(3,.lp 3 0)],[(3,exV x)],OX es1⟩).ok prog
abbrev ocL1(x:Ex)(h:List BA)(es es1:List (BA × PV)):Prop:=(Ob.loop 57 (loopF f111 1) (ocJ x h 0 (OX es)) (.exit 2) ⟨[],[],OX es1⟩).ok prog
section
variable (x:Ex) (h:List BA) (es es1 es2:List (BA × PV)) (hh:h.length<=1000000000)
include x h es es1 es2 hh
theorem occV(hs:(exNm x).size<=1000000000)(hv:isV x=true)(hp:plc (exNm x) h<0)(l0:ocL0 x h (mupd (exNm x) (.bool true) es) es1)(l1:ocL1 x h es1 es2):Ef 111 [.agg (exL x),.sl 1 (nmsC h),fnO] (OX es) (.ret (.tup [])) (OX es2):=
 ef mdL [cl (@sVarT x),rp 4 (bt (isV x) hv),cl (@sFind h (exNm x) hh),rp 2 (bt (isV x) hv),dt (plc (exNm x) h<0) hp,ce (@sVis x es hs),sl (Ex.cs_len (exK x)),lq l0,sl (Al.cs_len (exA x)),lq l1] func111
theorem occW(hv:isV x=true)(hp:¬plc (exNm x) h<0)(l0:ocL0 x h es es1)(l1:ocL1 x h es1 es2):Ef 111 [.agg (exL x),.sl 1 (nmsC h),fnO] (OX es) (.ret (.tup [])) (OX es2):=
 ef mdL [cl (@sVarT x),rp 4 (bt (isV x) hv),cl (@sFind h (exNm x) hh),rp 2 (bt (isV x) hv),df (plc (exNm x) h<0) hp,sl (Ex.cs_len (exK x)),lq l0,sl (Al.cs_len (exA x)),lq l1] func111
theorem occX(hv:isV x=false)(l0:ocL0 x h es es1)(l1:ocL1 x h es1 es2):Ef 111 [.agg (exL x),.sl 1 (nmsC h),fnO] (OX es) (.ret (.tup [])) (OX es2):=
 ef mdL [cl (@sVarT x),rp 6 (bf (isV x) hv),bf false,sl (Ex.cs_len (exK x)),lq l0,sl (Al.cs_len (exA x)),lq l1] func111
end
def szE(x:Ex):Nat:=bulkPs (exL x)
theorem szE_eq(x:Ex):szE x=(exNm x).size+bulkPss (Ex.cs (exK x))+bulkPss (Pm.cs (exP x))+bulkPss (Al.cs (exA x))+bulkPss (Tp.cs (exT x))+7:=by
 simp only [szE,bulkPs,bulkP]; omega
theorem kid_bulk{x k:Ex}(h:k∈exK x):szE k<=bulkPss (Ex.cs (exK x)):=mem_bulk (by rw [Ex.cs_eq]; exact List.mem_map_of_mem h)
theorem alt_bulk{x:Ex}{a:Al}(h:a∈exA x):(alNs a).length+szE (alB a)+2<=bulkPss (Al.cs (exA x)):=by
 have h1:bulkPs (alL a)<=bulkPss (Al.cs (exA x)):=mem_bulk (by rw [Al.cs_eq]; exact List.mem_map_of_mem h)
 have h2:bulkPs (alL a)=(alC a).size+1+(bulkPss (nmsC (alNs a))+1+szE (alB a)):=by simp only [szE,bulkPs,bulkP]
 have:=nms_bulk (alNs a)
 omega
theorem insN_bulk{x k:Ex}(h:k∈exK x)(i:Int):(insN x i).length+szE k+1<=szE x:=by
 have h1:=szE_eq x
 have h2:=kid_bulk h
 have h3:=Pm.bulk (exP x)
 unfold insN
 split
 ·split <;> simp <;> omega
 ·split
  ·simp; omega
  ·simp; omega
theorem kid_mem{x:Ex}{i:Nat}(h:i<(exK x).length):(exK x).getD i default∈exK x:=by simp [List.getD,h]
theorem alt_mem{x:Ex}{i:Nat}(h:i<(exA x).length):(exA x).getD i default∈exA x:=by simp [List.getD,h]
def insF(op:Int)(name:BA)(params:List Pm)(k:Int):List BA:=if op=7 then (if k>0 then [name] else []) else if op=6 then params.map pmNm else []
mutual
def occN:Ex->List BA->List BA
 | .mk op name _ kids params alts _,h=>(if (decide (op=3)||op==5)=true/\plc name h<0 then [name] else [])++(occK op name params kids 0 h++occA alts h)
def occK(op:Int)(name:BA)(params:List Pm):List Ex->Nat->List BA->List BA
 | [],_,_=>[]
 | k::r,i,h=>occN k (h++insF op name params i)++occK op name params r (i+1) h
def occA:List Al->List BA->List BA
 | [],_=>[]
 | .mk _ ns b::r,h=>occN b (h++ns)++occA r h
end
abbrev occX'(x:Ex):List Ex->Nat->List BA->List BA:=occK (exO x) (exNm x) (exP x)
theorem occN_eq(x:Ex)(h:List BA):occN x h=(if isV x=true/\plc (exNm x) h<0 then [exNm x] else [])++(occX' x (exK x) 0 h++occA (exA x) h):=by cases x; rfl
theorem occK_cons(x k:Ex)(r:List Ex)(i:Nat)(h:List BA):occX' x (k::r) i h=occN k (h++insN x i)++occX' x r (i+1) h:=by
 unfold occX'
 rw [occK]
 rfl
theorem occA_cons(a:Al)(r:List Al)(h:List BA):occA (a::r) h=occN (alB a) (h++alNs a)++occA r h:=by cases a; rfl
theorem addL_app(es:List (BA × PV))(a b:List BA):addL es (a++b)=addL (addL es a) b:=by simp [addL]
abbrev occOk(x:Ex)(h:List BA)(es es2:List (BA × PV)):Prop:=Ef 111 [.agg (exL x),.sl 1 (nmsC h),fnO] (OX es) (.ret (.tup [])) (OX es2)
theorem oc_loop0(x:Ex)(h:List BA)(hn:(exK x).length<=1000000000)(hp:(exP x).length<=1000000000)(hb:∀i:Nat,i<(exK x).length->h.length+(insN x i).length<=1000000000)(hh:h.length<=1000000000)
  (hr:∀i,i<(exK x).length->∀es,occOk ((exK x).getD i default) (h++insN x i) es (addL es (occN ((exK x).getD i default) (h++insN x i)))) (es:List (BA × PV)):ocL0 x h es (addL es (occX' x (exK x) 0 h)):=by
 have:=Ob.loop_of (P:=prog) (n:=57) (c:=loopF f111 0) (α:={ p:Nat × List (BA × PV) // p.1<=(exK x).length/\addL p.2 (occX' x ((exK x).drop p.1) p.1 h)=addL es (occX' x (exK x) 0 h) })
  (fun p=>ocI x h p.1.1 (OX p.1.2)) (fun p=>(exK x).length - p.1.1) (fun _=>(.exit 0,⟨[(1,.v (.sl 1 (nmsC h))),(2,.v fnO),(3,.lp 3 0)],[(3,exV x)],OX (addL es (occX' x (exK x) 0 h))⟩)) ?_ ⟨(0,es),by simp,by simp⟩
 ·exact this
 ·rintro ⟨⟨i,es1⟩,hi,he⟩ cx hcx
  simp only at hi he ⊢
  rcases Nat.lt_or_ge i (exK x).length with hlt | hge
  ·rw [drop_at hlt,occK_cons,addL_app] at he
   have h1:=hr i hlt es1
   unfold occOk at h1
   rw [nmsC_app] at h1
   exact ocA x h es1 _ i hlt hn hp hh (hb i hlt) h1 cx hcx (.inl ⟨rfl,⟨(i+1,_),hlt,he⟩,by simp only; omega,⟨⟨W,W,W,W,W,W,tVv⟩,⟨WLs.refl _,tVv⟩,rfl⟩,tVv⟩)
  ·have hx:i=(exK x).length:=by omega
   subst hx
   rw [List.drop_length] at he
   have he':es1=addL es (occX' x (exK x) 0 h):=he
   rw [<-he']
   exact ocZ x h _ cx hcx (.inr ⟨by simp,rfl,⟨W,W,W,tVv⟩,⟨WLs.refl _,tVv⟩,rfl⟩)
theorem oc_loop1(x:Ex)(h:List BA)(hn:(exA x).length<=1000000000)(hb:∀i,i<(exA x).length->h.length+(alNs ((exA x).getD i default)).length<=1000000000)(hh:h.length<=1000000000)
  (hr:∀i,i<(exA x).length->∀es,occOk (alB ((exA x).getD i default)) (h++alNs ((exA x).getD i default)) es (addL es (occN (alB ((exA x).getD i default)) (h++alNs ((exA x).getD i default))))) (es:List (BA × PV)):ocL1 x h es (addL es (occA (exA x) h)):=by
 have:=Ob.loop_of (P:=prog) (n:=57) (c:=loopF f111 1) (α:={ p:Nat × List (BA × PV) // p.1<=(exA x).length/\addL p.2 (occA ((exA x).drop p.1) h)=addL es (occA (exA x) h) })
  (fun p=>ocJ x h p.1.1 (OX p.1.2)) (fun p=>(exA x).length - p.1.1) (fun _=>(.exit 2,⟨[],[],OX (addL es (occA (exA x) h))⟩)) ?_ ⟨(0,es),by simp,by simp⟩
 ·exact this
 ·rintro ⟨⟨i,es1⟩,hi,he⟩ cx hcx
  simp only at hi he ⊢
  rcases Nat.lt_or_ge i (exA x).length with hlt | hge
  ·rw [drop_at hlt,occA_cons,addL_app] at he
   have h1:=hr i hlt es1
   unfold occOk at h1
   rw [nmsC_app] at h1
   exact ocB x h es1 _ i hlt hn hh (hb i hlt) h1 cx hcx (.inl ⟨rfl,⟨(i+1,_),hlt,he⟩,by simp only; omega,⟨⟨W,W,W,W,W,tVv⟩,trivial,rfl⟩,tVv⟩)
  ·have hx:i=(exA x).length:=by omega
   subst hx
   rw [List.drop_length] at he
   have he':es1=addL es (occA (exA x) h):=he
   rw [<-he']
   exact ocY x h _ cx hcx (.inr ⟨by simp,rfl,trivial,trivial,rfl⟩)
theorem occ_ok:∀ (n:Nat) (x:Ex),szE x<n->∀h:List BA,h.length+szE x<=100000000->∀es,occOk x h es (addL es (occN x h))
 | 0,x,hn,_,_,_=>by omega
 | n+1,x,hn,h,hb,es=>by
  have hsz:=szE_eq x
  have hk:=Ex.bulk (exK x)
  have hp:=Pm.bulk (exP x)
  have ha:=Al.bulk (exA x)
  have L0:=oc_loop0 x h oM oM (fun i hi=>by have:=insN_bulk (kid_mem hi) i; omega) oM fun i hi es=>occ_ok n _ (by have:=kid_bulk (kid_mem hi); omega) _ (by have:=insN_bulk (kid_mem hi) i; rw [List.length_append]; omega) es
  have L1:=oc_loop1 x h oM (fun i hi=>by have:=alt_bulk (alt_mem hi); omega) oM fun i hi es=>occ_ok n _ (by have:=alt_bulk (alt_mem hi); omega) _ (by have:=alt_bulk (alt_mem hi); rw [List.length_append]; omega) es
  rw [occN_eq]
  by_cases hv:isV x=true
  ·by_cases hq:plc (exNm x) h<0
   ·rw [iP ⟨hv,hq⟩,addL_app,addL_app]
    exact occV x h es _ _ oM oM hv hq (L0 _) (L1 _)
   ·rw [iN (fun hc=>hq hc.2),List.nil_append,addL_app]
    exact occW x h es _ _ oM hv hq (L0 _) (L1 _)
  ·rw [iN (fun hc=>hv hc.1),List.nil_append,addL_app]
   exact occX x h es _ _ oM (by simpa using hv) (L0 _) (L1 _)
theorem at_nn{n t:Nat}:0<=Int.tmod (t:Int) (n:Int):=Int.tmod_nonneg _ oM
theorem at_tl{n t:Nat}(h:¬(n:Int)=0):Int.tmod (t:Int) (n:Int)<(n:Int):=Int.tmod_lt_of_pos _ oM
theorem at_lt{n t:Nat}(h:¬(n:Int)=0):(Int.tmod (t:Int) (n:Int)).toNat<n:=by
 have:=at_nn (n:=n) (t:=t)
 have:=at_tl (t:=t) h
 omega
theorem at_bo{l:List Df}{t:Nat}(h:¬(l.length:Int)=0):0<=Int.tmod (t:Int) (l.length:Int)/\Int.tmod (t:Int) (l.length:Int)<((Df.cs l).length:Int):=by rw [Df.cs_len]; exact ⟨at_nn,at_tl h⟩
theorem at1_1(m:Mo)(t:Nat)(ht:t<256)(hx0:((moF m).length:Int)=0):Pu 5 [.agg (moL m),.int .u8 (t:Int)] (.ret (.tup [.agg [.str nm0,.sl 1 [],pI 0,.str nm0,pI 0,.sl 7 [],.sl 10 [],.sl 9 [],.sl 9 [],pI 0,.bool false,.sl 1 [],.sl 2 [],.sl 2 [],.sl 10 [],pI 0,.str nm0,.sl 9 [],.sl 1 [],pI 0,.str nm0,pI 0,.sl 4 [],.sl 4 [],.sl 4 []],.bool false])):=
 Ob.pur_wk (Wk.t (WkL.c (Wk.a (kr (kn 1 (kr (kr (kr (kn 7 (kn 10 (kn 9 (kn 9 (kr (kr (kn 1 (kn 2 (kn 2 (kn 10 (kr (kr (kn 9 (kn 1 (kr (kr (kr (kn 4 (kn 4 (kn 4 (WkL.r _))))))))))))))))))))))))))) (WkL.r _))) (pm mdL [sl (Df.cs_len (moF m)),et1 hx0] func5)
theorem at1_2(m:Mo)(t:Nat)(ht:t<256)(hx0:¬((moF m).length:Int)=0):Pu 5 [.agg (moL m),.int .u8 (t:Int)] (.ret (.tup [.agg (dfL (List.getD (moF m) (Int.toNat (Int.tmod (t:Int) ((moF m).length:Int))) default)),.bool true])):=
 pm mdL [sl (Df.cs_len (moF m)),en1 hx0,wr (t:Int),sl (Df.cs_len (moF m)),kp,am1 hx0,am ((0:Int)<=Int.tmod (t:Int) ((moF m).length:Int)/\Int.tmod (t:Int) ((moF m).length:Int)<((Df.cs (moF m)).length:Int)) (by (apply at_bo <;> first | assumption | omega | decide)),xDf (moF m) (Int.toNat (Int.tmod (t:Int) ((moF m).length:Int))) (by (apply at_lt <;> first | assumption | omega | decide))] func5
abbrev cpA_I(v:Pr)(j:Int)(out:List Pr)(e:Ext):S:=S.mk [(2,.lp 2 0),(3,.lp 3 0),(14,vL 4 (Pr.cs (prK v))),(15,vI6 ((prK v).length:Int)),(16,vI6 j)] [(2,[vI6 0,vS nm0,vI6 0,.v .nilsl]),(3,[vI6 (prO v),vS (prNm v),vI6 (prN v),.uniq 46 4 (Pr.cs out)])] e
def cpA_f  : List Pr->(List Pr)->(List Pr)
 | [],out=>(out)
 | el::r,out=>cpA_f  r (out++[el])
def cpA_q(v:Pr)(e:Ext)(p:(List Pr)):PExit × S:=(.exit 0,S.mk [(2,.lp 2 0),(3,.lp 3 0),(14,vL 4 (Pr.cs (prK v))),(15,vI6 ((prK v).length:Int))] [(2,[vI6 0,vS nm0,vI6 0,.v .nilsl]),(3,[vI6 (prO v),vS (prNm v),vI6 (prN v),.uniq 46 4 (Pr.cs p)])] e)
theorem cpA(v:Pr)(hwk:∀w:Pr,w∈prK v->Pu 77 [.agg (prL w)] (.ret (.agg (prL w))))(out:List Pr)(e:Ext)(hN:(prK v).length<=1000000000)(hv:List.length out<=0):(Ob.loop 29 (loopF f77 0) (cpA_I v 0 out e) (cpA_q v e (cpA_f  ((prK v))  out)).1 (cpA_q v e (cpA_f  ((prK v))  out)).2).ok prog:=by
 refine rng ((prK v).length) (fun j out=>cpA_I v j out e) (fun i out=>cpA_f  (List.drop i ((prK v)))  out) (cpA_q v e) (fun i out=>(out.length<=i)) kR ?_ out (by first | exact hv | omega)
 rintro i out hi hv
 try simp only at hv
 rcases Nat.lt_or_ge i ((prK v).length) with hlt | hge
 ·have hd:=drop_at hlt
  exact lS mdL [rgPr hlt,cl (@hwk (List.getD (prK v) i default) (by first | exact getD_mem hlt | simp_all)),am (List.length (Pr.cs out++[prL (List.getD (prK v) i default)]) * (55+1)<=140737488355328) (by (simp only [List.length_append,List.length_cons,List.length_nil,Pr.cs_len]; omega)),wr ((i:Int)+1)] [2,3,14,15,16] [2,3] hlt (out++[List.getD (prK v) i default]) (S.mk [(2,.lp 2 0),(3,.lp 3 0),(14,vL 4 (Pr.cs (prK v))),(15,vI6 ((prK v).length:Int)),(16,vI6 ((i:Int)+1))] [(2,[vI6 0,vS nm0,vI6 0,.v .nilsl]),(3,[vI6 (prO v),vS (prNm v),vI6 (prN v),.uniq 46 4 (Pr.cs out++[prL (List.getD (prK v) i default)])])] e) ⟨⟨W,W,W,W,W,tVv⟩,⟨Ws,⟨W,W,W,(.inl (by first | (simp only [List.nil_append,nmsC_app,nmsC_snoc,Pr.cs_snoc,Tp.cs_snoc,Ex.cs_snoc,Vr.cs_snoc,Df.cs_snoc]; done) | (simp only [List.nil_append,nmsC_app,nmsC_snoc,Pr.cs_snoc,Tp.cs_snoc,Ex.cs_snoc,Vr.cs_snoc,Df.cs_snoc]; rfl))),tVv⟩,tVv⟩,rfl⟩ (by first | assumption | omega | (apply gPr <;> first | assumption | omega | decide) | (simp only [List.length_append,List.length_cons,List.length_nil] at *; omega) | simp_all) (by rw [hd,cpA_f])
 ·have he:i=(prK v).length:=by omega
  exact lX mdL [df ((i:Int)<((prK v).length:Int))] (out) (by rw [he,List.drop_length,cpA_f])
theorem cpL(v:Pr)(hwk:∀w:Pr,w∈prK v->Pu 77 [.agg (prL w)] (.ret (.agg (prL w))))(hN:(prK v).length<=1000000000):Pu 77 [.agg (prL v)] (rA [pI (prO v),.str (prNm v),pI (prN v),.sl 4 (Pr.cs (cpA_f (prK v) []))]):=
 pu mdL (fun e=>[sl (Pr.cs_len (prK v)),lp (S.mk [(2,.lp 2 0),(3,.lp 3 0),(14,vL 4 (Pr.cs (prK v))),(15,vI6 ((prK v).length:Int)),(16,vI6 0)] [(2,[vI6 0,vS nm0,vI6 0,.v .nilsl]),(3,[vI6 (prO v),vS (prNm v),vI6 (prN v),.v .nilsl])] e) (@cpA v hwk ([]) e hN (by (simp only [List.length_nil]; omega))) ⟨⟨W,W,W,W,W,tVv⟩,⟨⟨W,W,W,W,tVv⟩,⟨W,W,W,Wq,tVv⟩,tVv⟩,rfl⟩]) func77
theorem cpA_e:∀ (l out:List Pr),cpA_f l out=out++l
 | [],out=>by simp [cpA_f]
 | c::r,out=>by simp [cpA_f,cpA_e r]
theorem cp_ok:∀ (d:Nat) (v:Pr),bulkPs (prL v)<d->d<=100000001->Pu 77 [.agg (prL v)] (.ret (.agg (prL v)))
 | 0,_,h,_=>by omega
 | d+1,v,h,hs=>by
  have:=cpL v (fun w hw=>cp_ok d w (by have:=pr_blk v; have:=Pr.mem hw; omega) oM) (by have:=pr_blk v; have:=Pr.bulk (prK v); omega)
  rw [cpA_e,List.nil_append] at this
  exact this
theorem cpT(v:Pr)(hs:bulkPs (prL v)<=100000000):Pu 77 [.agg (prL v)] (.ret (.agg (prL v))):=cp_ok _ v (Nat.lt_succ_self _) oM
open Go.RowKit Go.Maps Go.Sort
theorem pu9:Tryz.prog.underlying 9=some .string:=by kernel_rfl
theorem u4:Tryz.prog.underlying 4=some .bool:=by kernel_rfl
theorem u30:Tryz.prog.underlying 30=some (.slice 9):=by kernel_rfl
theorem u191:Tryz.prog.underlying 191=some (.map 9 4):=by kernel_rfl
theorem law9:Keyed Tryz.prog 9:=string_keyed pu9
theorem info9:(Tryz.prog.info? 9).map (fun i=>(i.zero,i.size,i.bytes))=some (some (.string ⟨#[]⟩),1,16):=by kernel_rfl
structure BB where
 b:Bool
theorem plainElem_bool_inv{H:Type}{v:Value}{y:DataW H × List MemPlace}(h:plainElem Tryz.prog 4 v=some y):∃c:BB,v = .bool c.b:=by
 unfold plainElem at h
 rw [u4] at h
 cases v <;> simp at h
 exact ⟨⟨_⟩,rfl⟩
set_option maxRecDepth 100000 in
set_option maxHeartbeats 1000000 in
theorem sorted_any{H:Type}(bs b n:Nat)(D0:DataW H)(w:World)(hset:w.cell? ⟨bs,0,none⟩=some (.map (some b)))(hown:w.ownsMap Tryz.prog 9 (plainElem Tryz.prog 4) b n D0)(hbytes:16 * Maps.size D0<=140737488355328) :
  Calls Tryz.prog 114 #[.pointer (some ⟨bs,0,none⟩)] w fun e w'=>∃ (v:Value) (ss:List (List UInt8)),e = .returned v/\ss.Perm (strKeys D0) /\
   w'.ownsRow w.heap.size 9 1 v ss.length ((ss.mergeSort (fun x y=>decide (x<=y))).map encStr)/\Below w.heap.size w w':=by
 obtain ⟨i0,hi,hz0,hz1,hz2⟩:=info_parts info9
 have hbl:=hown.lt
 go_enter Tryz.func114,Tryz.ntmps114
 go_wp2_with (first
  | (at_range; refine wpList_range_own _ rfl _ 191 rfl 9 4 law9 u191 _ b n _ rfl hown ?_; intro w0 hrg0 hg0 hs0)
  | go_in)
 go_frame
 go_loopw [3] (fun v wr=>∃ (left:Lit->Bool) (cnt:Nat) (ss:List (List UInt8)),wr.ranges Tryz.prog 9 (plainElem Tryz.prog 4) b w.heap.size n D0 left cnt/\ss.length+cnt<=Maps.size D0 /\
   wr.ownsRow w.heap.size 9 1 v ss.length (ss.map encStr)/\Collected D0 left ss/\Below w.heap.size w wr)
  (fun _ wr=>wr.rangeLeft b w.heap.size)
 case atStart=>
  exact ⟨_,_,[],hrg0,by simp,⟨rfl,.inl ⟨rfl,rfl⟩⟩,Collected.start D0,(Below.refl _ _).grown hg0 (Nat.le_refl _) (fun j hj=>by cases hj)⟩
 case round=>
  obtain ⟨left,cnt,ss,hrg,hcs,hrow,hC,hnx⟩:=hrel
  go_wp2_with (first
   | (at_next; refine wpList_next_ranges _ rfl _ rfl 9 law9 (plainElem Tryz.prog 4) encStr (fun c:BB=>Value.bool c.b) (fun key kl hk=>by obtain ⟨x,hx,_⟩:=Maps.keyOf_str pu9 hk; exact ⟨x,hx⟩) (fun v y hv=>plainElem_bool_inv hv) b w.heap.size n _ _ _ rfl hrg ?_ ?_)
   | go_in)
  ·-- nothing is left
   intro hc0 hl0
   rcases hrow.2 with ⟨hnil,hn0⟩ | ⟨g,cap,cur,rfl,hbase,hb,h1,h2,h3,h4⟩
   ·subst hnil
    have hss:ss=[]:=List.eq_nil_of_length_eq_zero hn0
    subst hss
    have hc:=Tryz.slices_Sort_string_none none 0 wr
    go_wp2_with (go_at_call 137; refine hc.mono ?_; rintro e w' ⟨rfl,rfl⟩)
    go_ret
    exact ⟨_,[],rfl,hC.perm hown law9 pu9 hl0,by simpa using hrow,hnx⟩
   ·have hH:Holds encStr wr g 0 ss.toArray:=holds_of_block hb (by simpa using h4)
    have hgl:g<wr.heap.size:=(Array.getElem?_eq_some_iff.1 hb).1
    have hc:=Tryz.slices_Sort_string g 0 cap ss wr hH hgl (by omega)
    go_wp2_with (go_at_call 137; refine hc.mono ?_; rintro e w' ⟨rfl,nn,os,rfl⟩)
    go_ret
    exact ⟨_,ss,rfl,hC.perm hown law9 pu9 hl0,ownsRow_sorted (by simp) hbase hb h1 h2 h3,hnx.grown (grownBy_sorted _) hnx.size (fun j hj=>by cases hj; exact hbase)⟩
  ·-- an entry has come
   intro x c kl yd yp w2 cnt2 hkey hlk hv hat hrg2 hlt hg2 hs2 hen
   obtain ⟨x',ex,rfl,_⟩:=Maps.keyOf_str pu9 hkey
   obtain rfl:x=x':=encStr_inj ex
   have hrow2:=hrow.kept hg2 (Or.inr (row_ne_iter hrow hrg).symm)
   clear hs2
   go_wp2_with (first
    | (at_builtin; refine wpList_append_own _ rfl _ _ 30 rfl w.heap.size 9 i0 (.string ⟨#[]⟩) 1 16 u30 hi hz0 hz1 hz2 rfl (by decide) _ _ _ rfl (hrow2.alloc _) ⟨w2.heap.size,0,none⟩ 1 1 [encStr x] rfl rfl (cell_one_new _ _ _) (by simp [Value.oneCell',encStr]) (by unfold maxLen at *; omega) (by omega) (by have:=hnx.size; have:=hg2.size; simp; omega) ?_; intro v' w3 hown' hg3 hnil3; go_frame)
    | go_in)
   have hrg3:=(hrg2.alloc _).kept hg3 (row_ne_low hrow2 hbl) (row_ne_iter hrow2 hrg2)
   go_roundw
   case rel=>
    refine ⟨_,cnt2,ss++[x],hrg3,by simp; omega,by simpa using hown',hC.step hlk hat,?_⟩
    exact ((hnx.grown hg2 hnx.size (fun j hj=>by cases hj; exact Nat.le_refl _)).alloc (by have:=hnx.size; have:=hg2.size; omega) _).grown hg3 (by have:=hnx.size; have:=hg2.size; simp; omega) (fun j hj=>(hrow2.lt j hj).1)
   case measure=>rw [hrg3.left_eq,hrg.left_eq]; exact hlt
open Go.RowKit Go.Maps Go.Sort Go.Pv
open Go.WideElems (Fit rd rg)
theorem mono_bel{g:Gh}{w w':World}(hb:Below w.heap.size w w'):Mono g w g w':=by
 refine ⟨fun _ _ h=>h,fun b o v hc hf=>⟨?_,hf⟩,fun b cur e hh=>⟨cur,?_,rfl⟩,fun _ _ _ h=>h⟩
 ·have hlt:b<w.heap.size:=by
   unfold World.cell? at hc
   cases hh:w.heap[b]? with
   | none=>simp [hh] at hc
   | some x=>exact (Array.getElem?_eq_some_iff.1 hh).1
  rw [<-hc]
  exact World.cell?_of_block (hb.block b hlt)
 ·exact (hb.block b (Array.getElem?_eq_some_iff.1 hh).1).trans hh
theorem ent_bel{e:Ext}{g:Gh}{l:LG}{w w':World}(he:Ent e g l w)(hb:Below w.heap.size w w'):Ent e g l w' where
 ex x cs hx:=by
  obtain ⟨b,h1,h2,hE⟩:=he.ex x cs hx
  refine ⟨b,h1,h2,?_⟩
  have hm:Mono g w g w':=mono_bel hb
  have hh:=hb.block b (he.olt b _ h2)
  rcases hE with ⟨h3,cur,te,h4,h5,h6⟩ | hE
  ·refine .inl ⟨h3,cur,te,hh.trans h4,h5,fun j hj=>⟨(h6 j hj).1,(h6 j hj).2.1,?_⟩⟩
   exact (h6 j hj).2.2.keep hm (fun _ _ _=>rfl) fun b' hu=>⟨hu,rfl,hb.block b' (he.olt b' _ (he.uo _ b' hu))⟩
  ·exact .inr (hE.keep hm (fun _ _ _ h=>h) rfl hh)
 olt b o ho:=Nat.lt_of_lt_of_le (he.olt b o ho) hb.size
 uo:=he.uo
 fresh:=⟨fun b h=>he.fresh.1 b (Nat.le_trans hb.size h),he.fresh.2⟩
 xlt n b h:=Nat.lt_of_lt_of_le (he.xlt n b h) hb.size
 only:=he.only
 glb:=he.glb.mono (mono_bel hb)
def sortB(l:List ByteArray):List ByteArray:=((l.map fun x=>x.data.toList).mergeSort leB).map fun x=>⟨x.toArray⟩
theorem rep_names{g:Gh}{w:World}{base:Nat}{v:Value}{n:Nat}{ts:List (List UInt8)}(h:w.ownsRow base 9 1 v n (ts.map encStr))(hfix:∀b,base<=b->g.M b=none):Rep g w (.sl 1 ((ts.map fun x=>(⟨x.toArray⟩:ByteArray)).map fun s=>[.str s])) v:=by
 obtain ⟨h0,h1⟩:=h
 simp only [List.length_map,Nat.mul_one] at h0
 rcases h1 with ⟨rfl,hn⟩ | ⟨b,cap,cur,rfl,hbase,hb,h1,h2,h3,h4⟩
 ·have:ts=[]:=List.eq_nil_of_length_eq_zero (h0.trans hn)
  subst this
  exact .slnil 1
 ·subst h0
  have hlen:((ts.map fun x=>(⟨x.toArray⟩:ByteArray)).map fun s=>[PV.str s]).length=ts.length:=by simp
  have hat:∀i,i<ts.length->cur[i]?=some (encStr (ts.getD i [])):=fun i hi=>by
   have:=congrArg (·[i]?) h4
   simp only [Nat.mul_one,List.getElem?_map] at this
   rw [List.getElem?_take_of_lt hi] at this
   simp only [Array.getElem?_toList] at this
   rw [this]
   simp [List.getD,List.getElem?_eq_getElem hi]
  have:=Rep.sl (g:=g) (w:=w) 1 ((ts.map fun x=>(⟨x.toArray⟩:ByteArray)).map fun s=>[PV.str s]) ⟨b,0,none⟩ cap (fun i _=>encStr (ts.getD i [])) (by rw [hlen]; exact h1) h2 (by simp) ?_ ?_ ?_ ?_
  ·rw [hlen] at this; exact this
  ·intro i j hi hj
   rw [hlen] at hi
   have hj0:j=0:=by omega
   subst hj0
   have e1:(Addr.add ⟨b,0,none⟩ (i * 1+0))=⟨b,i,none⟩:=by unfold Addr.add; simp; intro h; exact h.symm
   rw [e1]
   simp [World.cell?,hb,hat i hi]
  ·intro i j hi hj k hk
   rw [hfix b hbase] at hk
   cases hk
  ·intro i j hi hj; rfl
  ·intro i j hi hj
   have hj0:j=0:=by simp at hj; exact hj
   subst hj0
   rw [hlen] at hi
   simp only [List.getElem_map,List.getElem_cons_zero,List.getD,List.getElem?_eq_getElem hi,Option.getD_some]
   exact .str _
theorem sorted_ok(n k:Nat)(e:Ext)(es:List (ByteArray × PV))(hn:lk e n=some [.v (.mp k)])(hk:lk e k=some [.mm (.s es)])(hv:∀x∈es,∃b,x.2 = .bool b)(hs:∀x∈es,x.1.size<=maxLen)(hc:16 * es.length<=140737488355328) :
  (Ob.eff 114 [.xp n 0] e (.ret (.sl 1 ((sortB (es.map (·.1))).map fun s=>[.str s]))) e).ok Tryz.prog:=by
 refine ⟨by kernel_rfl,fun vs g l w ha he=>?_⟩
 obtain ⟨v,vs',rfl,hr,ha'⟩:=ha.inv_cons
 obtain rfl:=ha'.inv_nil
 obtain ⟨bs,hbs,hobs,hE⟩:=he.ex n _ hn
 obtain ⟨bm,hbm,hobm,hEm⟩:=he.ex k _ hk
 replace hbs:g.X n=some bs:=hbs
 replace hbm:g.X k=some bm:=hbm
 have hv0:v = .pointer (some ⟨bs,0,none⟩):=by
  cases hr with
  | xp _ _ b h=>rw [hbs] at h; injection h with h; rw [h]
 subst hv0
 have hset:w.cell? ⟨bs,0,none⟩=some (.map (some bm)):=by
  rcases hE with ⟨h3,cur,te,h4,h5,h6⟩ | ⟨es2,hi,-⟩ | ⟨n0,c0,ps0,-,e0,-⟩
  rotate_left
  ·exact hi.elim
  ·injection e0 with e0 _; cases e0
  ·have h7:=(h6 0 (by simp)).2.2
   have h8:Rep g w (.mp k) (cur.getD 0 undef):=h7
   have h9:cur.getD 0 undef = .map (some bm):=by
    generalize cur.getD 0 undef=u at h8
    cases h8 with
    | mp _ b h=>rw [hbm] at h; injection h with h; rw [h]
   have h10:0<cur.size:=by simp at h5; omega
   have h11:cur[0]?=some (.map (some bm)):=by
    rw [<-h9]
    simp [Array.getD,h10]
   simp [World.cell?,h4,h11]
 obtain ⟨arr,clock,hh,hst,hsz,hents⟩:∃arr clock,w.heap[bm]?=some (.map arr clock)/\MapR Value.string g w es arr clock:=by
  rcases hEm with ⟨h3,cur,te,h4,h5,h6⟩ | ⟨es2,hi,hB⟩ | ⟨n0,c0,ps0,-,e0,-⟩
  rotate_right
  ·injection e0 with e0 _; cases e0
  ·exact ((h6 0 (by simp)).2.2).elim
  ·have:MM.s es=es2:=hi
   subst this
   obtain ⟨hM,arr,clock,h1,h2⟩:=hB
   exact ⟨arr,clock,h1,h2⟩
 have hrd:∀j (h:j<es.length) (h':j<arr.size),∃b,rd (H:=Unit) Tryz.prog 9 (plainElem Tryz.prog 4) arr[j]=some (.string es[j].1.data.toList,.lit (.bool b)):=fun j hj hj'=>by
  obtain ⟨h1,h2⟩:=hents j hj hj'
  obtain ⟨b,hb⟩:=hv es[j] (List.getElem_mem hj)
  rw [hb] at h2
  have h3:arr[j].val = .bool b:=by generalize arr[j].val=u at h2; cases h2; rfl
  refine ⟨b,?_⟩
  have h4:keyOf Tryz.prog 9 arr[j].key=some (.string es[j].1.data.toList):=by
   rw [h1]
   simp [keyOf,mapKey,pu9,hs es[j] (List.getElem_mem hj)]
  have h5:plainElem (H:=Unit) Tryz.prog 4 arr[j].val=some (.lit (.bool b),[]):=by
   rw [h3]
   simp [plainElem,u4]
  exact by simp [WideElems.rd,h4,h5]
 have hown:w.ownsMap (H:=Unit) Tryz.prog 9 (plainElem Tryz.prog 4) bm arr.size (.map ((arr.toList.map (rg Tryz.prog 9 (plainElem Tryz.prog 4))).foldr DataW.insert [])):=by
  refine ⟨arr,clock,hh,⟨?_,hst,fun x hx=>?_⟩,Nat.le_refl _,rfl⟩
  ·unfold maxLen; omega
  ·obtain ⟨j,hj,e1⟩:=List.getElem_of_mem hx
   have hj':j<arr.size:=by simpa using hj
   obtain ⟨b,hb⟩:=hrd j (by omega) hj'
   have e2:arr[j]=x:=by simpa using e1
   rw [e2] at hb
   exact ⟨_,hb⟩
 have hperm:(strKeys (DataW.map ((arr.toList.map (rg (H:=Unit) Tryz.prog 9 (plainElem Tryz.prog 4))).foldr DataW.insert []))).Perm (es.map fun x=>x.1.data.toList):=by
  show List.Perm (List.map (fun (p:Lit × DataW Unit)=>strOf p.1) _) _
  have h1:=(WideShapes.sorted_perm (arr.toList.map (rg (H:=Unit) Tryz.prog 9 (plainElem Tryz.prog 4)))).map fun (p:Lit × DataW Unit)=>strOf p.1
  refine h1.trans (List.Perm.of_eq ?_)
  apply List.ext_getElem
  ·simp [hsz]
  ·intro j hj hj'
   have hja:j<arr.size:=by simpa using hj
   have hje:j<es.length:=by omega
   obtain ⟨b,hb⟩:=hrd j hje hja
   simp only [List.getElem_map,Array.getElem_toList]
   rw [WideElems.rg_of hb]
   rfl
 have hsize:Maps.size (DataW.map ((arr.toList.map (rg (H:=Unit) Tryz.prog 9 (plainElem Tryz.prog 4))).foldr DataW.insert []))=es.length:=by
  have:=hperm.length_eq
  simpa [strKeys,Maps.size_eq] using this
 refine (sorted_any bs bm arr.size _ w hset hown (by rw [hsize]; exact hc)).mono ?_
 rintro en w' ⟨v,ss,rfl,hp,hrow,hbel⟩
 refine ⟨_,e,g,l,⟨rfl,rfl⟩,?_,ent_bel he hbel,mono_bel hbel,hbel.size,fun b hb _=>⟨hbel.block b hb,rfl⟩,fun b o ho => .inr (by rw [ho]; rfl),hbel.os,hbel.tape,hbel.output⟩
 show Rep g w' _ v
 have e1:ss.mergeSort leB=(es.map fun x=>x.1.data.toList).mergeSort leB:=mergeSort_of_perm (hp.trans hperm)
 have hrow':w'.ownsRow w.heap.size 9 1 v ss.length ((ss.mergeSort leB).map encStr):=hrow
 rw [e1] at hrow'
 have:=rep_names (g:=g) hrow' fun b hb=>he.fresh.1 b hb
 unfold sortB
 have e2:(es.map (·.1)).map (fun x:ByteArray=>x.data.toList)=es.map fun x=>x.1.data.toList:=by simp
 rw [e2]
 exact this
theorem nms_nx:∀l:List BA,noXss (nmsC l)=true
 | []=>rfl
 | x::r=>by simp [nmsC,noXss,noXs,PV.noX,nms_nx r]
mutual
theorem Pr.cnx:∀x:Pr,noXs (Pr.c x)=true
 | .mk _ _ _ k=>by simp only [Pr.c,noXs,PV.noX,Pr.csnx k,Bool.and_self]
theorem Pr.csnx:∀l:List Pr,noXss (Pr.cs l)=true
 | []=>rfl
 | x::r=>by simp only [Pr.cs,noXss,Pr.cnx x,Pr.csnx r,Bool.and_self]
end
mutual
theorem Tp.cnx:∀x:Tp,noXs (Tp.c x)=true
 | .mk _ _ a ns p ps=>by simp only [Tp.c,noXs,PV.noX,Tp.csnx a,nms_nx,Pr.csnx,Bool.and_self]
theorem Tp.csnx:∀l:List Tp,noXss (Tp.cs l)=true
 | []=>rfl
 | x::r=>by simp only [Tp.cs,noXss,Tp.cnx x,Tp.csnx r,Bool.and_self]
end
theorem Pm.nx(x:Pm):noXs (pmL x)=true:=by simp only [noXs,PV.noX,Tp.csnx,nms_nx,Pr.csnx,Bool.and_self]
theorem Pm.csnx:∀l:List Pm,noXss (Pm.cs l)=true
 | []=>rfl
 | x::r=>by simp only [Pm.cs,noXss,Pm.nx x,Pm.csnx r,Bool.and_self]
mutual
theorem Ex.cnx:∀x:Ex,noXs (Ex.c x)=true
 | .mk _ _ _ k p a t=>by simp only [Ex.c,noXs,PV.noX,Ex.csnx k,Pm.csnx,Al.csnx a,Tp.csnx,Bool.and_self]
theorem Ex.csnx:∀l:List Ex,noXss (Ex.cs l)=true
 | []=>rfl
 | x::r=>by simp only [Ex.cs,noXss,Ex.cnx x,Ex.csnx r,Bool.and_self]
theorem Al.cnx:∀x:Al,noXs (Al.c x)=true
 | .mk _ ns b=>by simp only [Al.c,noXs,PV.noX,nms_nx,Ex.cnx b,Bool.and_self]
theorem Al.csnx:∀l:List Al,noXss (Al.cs l)=true
 | []=>rfl
 | x::r=>by simp only [Al.cs,noXss,Al.cnx x,Al.csnx r,Bool.and_self]
end
theorem Ex.nx(x:Ex):noXs (exL x)=true:=by rw [<-Ex.c_eq]; exact Ex.cnx x
theorem Vr.nx(x:Vr):noXs (vrL x)=true:=by simp only [noXs,PV.noX,Pr.csnx,Tp.csnx,Pm.csnx,Ex.csnx,Al.csnx,nms_nx,Bool.and_self]
theorem Vr.csnx:∀l:List Vr,noXss (Vr.cs l)=true
 | []=>rfl
 | x::r=>by simp only [Vr.cs,noXss,Vr.nx x,Vr.csnx r,Bool.and_self]
theorem Cn.nx(x:Cn):noXs (cnL x)=true:=by simp only [noXs,PV.noX,Pr.csnx,Tp.csnx,Pm.csnx,Ex.csnx,Al.csnx,nms_nx,Vr.csnx,Bool.and_self]
theorem Cn.csnx:∀l:List Cn,noXss (Cn.cs l)=true
 | []=>rfl
 | x::r=>by simp only [Cn.cs,noXss,Cn.nx x,Cn.csnx r,Bool.and_self]
theorem Da.nx(x:Da):noXs (daL x)=true:=by simp only [noXs,PV.noX,Pr.csnx,Tp.csnx,Pm.csnx,Ex.csnx,Al.csnx,nms_nx,Vr.csnx,Cn.csnx,Bool.and_self]
theorem Da.csnx:∀l:List Da,noXss (Da.cs l)=true
 | []=>rfl
 | x::r=>by simp only [Da.cs,noXss,Da.nx x,Da.csnx r,Bool.and_self]
theorem Cl.nx(x:Cl):noXs (clL x)=true:=by simp only [noXs,PV.noX,Pr.csnx,Tp.csnx,Pm.csnx,Ex.csnx,Al.csnx,nms_nx,Vr.csnx,Cn.csnx,Da.csnx,Bool.and_self]
theorem Cl.csnx:∀l:List Cl,noXss (Cl.cs l)=true
 | []=>rfl
 | x::r=>by simp only [Cl.cs,noXss,Cl.nx x,Cl.csnx r,Bool.and_self]
theorem Bo.nx(x:Bo):noXs (boL x)=true:=by simp only [noXs,PV.noX,Pr.csnx,Tp.csnx,Pm.csnx,Ex.csnx,Al.csnx,nms_nx,Vr.csnx,Cn.csnx,Da.csnx,Cl.csnx,Bool.and_self]
theorem Bo.csnx:∀l:List Bo,noXss (Bo.cs l)=true
 | []=>rfl
 | x::r=>by simp only [Bo.cs,noXss,Bo.nx x,Bo.csnx r,Bool.and_self]
theorem Df.nx(x:Df):noXs (dfL x)=true:=by simp only [noXs,PV.noX,Pr.csnx,Tp.csnx,Pm.csnx,Ex.csnx,Al.csnx,nms_nx,Vr.csnx,Cn.csnx,Da.csnx,Cl.csnx,Bo.csnx,Bool.and_self]
theorem Df.csnx:∀l:List Df,noXss (Df.cs l)=true
 | []=>rfl
 | x::r=>by simp only [Df.cs,noXss,Df.nx x,Df.csnx r,Bool.and_self]
theorem In.nx(x:In):noXs (inL x)=true:=by simp only [noXs,PV.noX,Pr.csnx,Tp.csnx,Pm.csnx,Ex.csnx,Al.csnx,nms_nx,Vr.csnx,Cn.csnx,Da.csnx,Cl.csnx,Bo.csnx,Df.csnx,Bool.and_self]
theorem In.csnx:∀l:List In,noXss (In.cs l)=true
 | []=>rfl
 | x::r=>by simp only [In.cs,noXss,In.nx x,In.csnx r,Bool.and_self]
theorem Cs.nx(x:Cs):noXs (csL x)=true:=by simp only [noXs,PV.noX,Pr.csnx,Tp.csnx,Pm.csnx,Ex.csnx,Al.csnx,nms_nx,Vr.csnx,Cn.csnx,Da.csnx,Cl.csnx,Bo.csnx,Df.csnx,In.csnx,Bool.and_self]
theorem Cs.csnx:∀l:List Cs,noXss (Cs.cs l)=true
 | []=>rfl
 | x::r=>by simp only [Cs.cs,noXss,Cs.nx x,Cs.csnx r,Bool.and_self]
theorem Ms.nx(x:Ms):noXs (msL x)=true:=by simp only [noXs,PV.noX,Pr.csnx,Tp.csnx,Pm.csnx,Ex.csnx,Al.csnx,nms_nx,Vr.csnx,Cn.csnx,Da.csnx,Cl.csnx,Bo.csnx,Df.csnx,In.csnx,Cs.csnx,Bool.and_self]
theorem Ms.csnx:∀l:List Ms,noXss (Ms.cs l)=true
 | []=>rfl
 | x::r=>by simp only [Ms.cs,noXss,Ms.nx x,Ms.csnx r,Bool.and_self]
theorem Qu.nx(x:Qu):noXs (quL x)=true:=by simp only [noXs,PV.noX,Pr.csnx,Tp.csnx,Pm.csnx,Ex.csnx,Al.csnx,nms_nx,Vr.csnx,Cn.csnx,Da.csnx,Cl.csnx,Bo.csnx,Df.csnx,In.csnx,Cs.csnx,Ms.csnx,Bool.and_self]
theorem Qu.csnx:∀l:List Qu,noXss (Qu.cs l)=true
 | []=>rfl
 | x::r=>by simp only [Qu.cs,noXss,Qu.nx x,Qu.csnx r,Bool.and_self]
theorem Mo.nx(x:Mo):noXs (moL x)=true:=by simp only [noXs,PV.noX,Pr.csnx,Tp.csnx,Pm.csnx,Ex.csnx,Al.csnx,nms_nx,Vr.csnx,Cn.csnx,Da.csnx,Cl.csnx,Bo.csnx,Df.csnx,In.csnx,Cs.csnx,Ms.csnx,Qu.csnx,Bool.and_self]
def mdF:Md:=⟨fun t=>if t=193∨t=171 then none else some false,fun _=>false⟩
theorem sAdd0(ext:Ext):Ef 113 [.xp 1 0,.nilsl] (ext) (.ret (.tup [])) (ext):=
 ef mdL [kp,ur,bf false] func113
theorem sNewSet  : Ef 110 [.nilsl] ([]) (.ret (.xp 1 0)) ([(0,[LV.mm (newS (strK prog 191))]),(1,[.v (PV.mp 0)])]):=
 ef mdF [ce (@sAdd0 ([(0,[LV.mm (newS (strK prog 191))]),(1,[.v (PV.mp 0)])]))] func110
theorem sFreeL(x:Ex)(es:List (BA × PV))(ns:List BA)(ho:Ef 111 [.agg (exL x),.nilsl,fnO] (OX []) (.ret (.tup [])) (OX es))(hs:Ef 114 [.xp 1 0] (OX es) (.ret (.sl 1 (nmsC ns))) (OX es)):Ef 82 [.agg (exL x)] ([]) (.ret (.sl 1 (nmsC ns))) (OX es):=
 ef mdF [ce sNewSet,ce ho,ce hs] func82
theorem mupd_mem{k:BA}{v:PV}:∀ {es:List (BA × PV)} {x:BA × PV},x∈mupd k v es->x=(k,v)∨x∈es
 | [],x,h=>by simp only [mupd,List.mem_singleton] at h; exact .inl h
 | y::r,x,h=>by
  simp only [mupd] at h
  split at h
  ·rcases List.mem_cons.1 h with h | h
   ·exact .inl h
   ·exact .inr (List.mem_cons_of_mem _ h)
  ·rcases List.mem_cons.1 h with h | h
   ·exact .inr (by rw [h]; exact List.mem_cons_self)
   ·rcases mupd_mem h with h | h
    ·exact .inl h
    ·exact .inr (List.mem_cons_of_mem _ h)
theorem mupd_len{k:BA}{v:PV}:∀ {es:List (BA × PV)},(mupd k v es).length<=es.length+1
 | []=>by simp [mupd]
 | y::r=>by
  simp only [mupd]
  split
  ·simp
  ·have:=mupd_len (k:=k) (v:=v) (es:=r); simp only [List.length_cons]; omega
theorem addL_mem:∀ {l:List BA} {es:List (BA × PV)} {x:BA × PV},x∈addL es l->(x.2 = .bool true/\x.1∈l)∨x∈es
 | [],es,x,h => .inr h
 | n::l,es,x,h=>by
  have h':x∈addL (addN es n) l:=h
  rcases addL_mem h' with ⟨h1,h2⟩ | h1
  ·exact .inl ⟨h1,List.mem_cons_of_mem _ h2⟩
  ·rcases mupd_mem h1 with rfl | h2
   ·exact .inl ⟨rfl,List.mem_cons_self⟩
   ·exact .inr h2
theorem addL_len:∀ {l:List BA} {es:List (BA × PV)},(addL es l).length<=es.length+l.length
 | [],es=>by simp [addL]
 | n::l,es=>by
  have h1:=addL_len (l:=l) (es:=addN es n)
  have h2:=mupd_len (k:=n) (v := .bool true) (es:=es)
  have h3:addL es (n::l)=addL (addN es n) l:=rfl
  rw [h3]
  simp only [List.length_cons]
  unfold addN at h1 ⊢
  omega
mutual
theorem occN_len:∀ (x:Ex) (h:List BA),(occN x h).length<=szE x
 | .mk op name n kids params alts types,h=>by
  have h1:=occK_len op name params kids 0 h
  have h2:=occA_len alts h
  have h3:=szE_eq (.mk op name n kids params alts types)
  simp only [exNm,exK,exA,exP,exT] at h3
  rw [occN]
  simp only [List.length_append]
  split <;> simp <;> omega
theorem occK_len(op:Int)(name:BA)(params:List Pm):∀ (l:List Ex) (i:Nat) (h:List BA),(occK op name params l i h).length<=bulkPss (Ex.cs l)
 | [],i,h=>by simp [occK]
 | k::r,i,h=>by
  have h1:=occN_len k (h++insF op name params i)
  have h2:=occK_len op name params r (i+1) h
  have h3:szE k=bulkPs (Ex.c k):=by rw [Ex.c_eq]; rfl
  rw [occK]
  simp only [List.length_append,Ex.cs,bulkPss]
  omega
theorem occA_len:∀ (l:List Al) (h:List BA),(occA l h).length<=bulkPss (Al.cs l)
 | [],h=>by simp [occA]
 | .mk con ns b::r,h=>by
  have h1:=occN_len b (h++ns)
  have h2:=occA_len r h
  have h3:szE b=bulkPs (Ex.c b):=by rw [Ex.c_eq]; rfl
  rw [occA]
  simp only [List.length_append,Al.cs,Al.c,bulkPss,bulkPs]
  omega
end
mutual
theorem occN_sz:∀ (x:Ex) (h:List BA),∀n∈occN x h,n.size<=szE x
 | .mk op name n kids params alts types,h,m,hm=>by
  have h3:=szE_eq (.mk op name n kids params alts types)
  simp only [exNm,exK,exA,exP,exT] at h3
  rw [occN] at hm
  rcases List.mem_append.1 hm with hm | hm
  ·split at hm
   ·rw [List.mem_singleton] at hm; subst hm; omega
   ·simp at hm
  ·rcases List.mem_append.1 hm with hm | hm
   ·have:=occK_sz op name params kids 0 h m hm; omega
   ·have:=occA_sz alts h m hm; omega
theorem occK_sz(op:Int)(name:BA)(params:List Pm):∀ (l:List Ex) (i:Nat) (h:List BA),∀n∈occK op name params l i h,n.size<=bulkPss (Ex.cs l)
 | [],i,h,m,hm=>by simp [occK] at hm
 | k::r,i,h,m,hm=>by
  have h3:szE k=bulkPs (Ex.c k):=by rw [Ex.c_eq]; rfl
  rw [occK] at hm
  simp only [Ex.cs,bulkPss]
  rcases List.mem_append.1 hm with hm | hm
  ·have:=occN_sz k _ m hm; omega
  ·have:=occK_sz op name params r (i+1) h m hm; omega
theorem occA_sz:∀ (l:List Al) (h:List BA),∀n∈occA l h,n.size<=bulkPss (Al.cs l)
 | [],h,m,hm=>by simp [occA] at hm
 | .mk con ns b::r,h,m,hm=>by
  have h3:szE b=bulkPs (Ex.c b):=by rw [Ex.c_eq]; rfl
  rw [occA] at hm
  simp only [Al.cs,Al.c,bulkPss,bulkPs]
  rcases List.mem_append.1 hm with hm | hm
  ·have:=occN_sz b _ m hm; omega
  ·have:=occA_sz r h m hm; omega
end
def freeS(x:Ex):List BA:=sortB ((addL [] (occN x [])).map (·.1))
theorem freeS_len(x:Ex):(freeS x).length<=szE x:=by
 have h1:=addL_len (l:=occN x []) (es:=[])
 have h2:=occN_len x []
 simp only [freeS,sortB,List.length_map,List.length_mergeSort]
 simp only [List.length_nil] at h1
 omega
theorem sFree(x:Ex)(hb:szE x<=100000000):Pu 82 [.agg (exL x)] (.ret (.sl 1 (nmsC (freeS x)))):=by
 have h1:=addL_len (l:=occN x []) (es:=[])
 have h2:=occN_len x []
 simp only [List.length_nil] at h1
 have ho:=occ_ok (szE x+1) x oM [] (by simpa using hb) []
 have hs:=sorted_ok 1 0 (OX (addL [] (occN x []))) (addL [] (occN x [])) rfl rfl (fun y hy=>by
  rcases addL_mem hy with ⟨h,-⟩ | h
  ·exact ⟨_,h⟩
  ·simp at h) (fun y hy=>by
  rcases addL_mem hy with ⟨-,h⟩ | h
  ·have:=occN_sz x [] _ h; unfold maxLen; omega
  ·simp at h) oM
 rw [<-nmsC_eq] at hs
 exact Ob.pur_of_eff (by rw [noXs,PV.noX,Ex.nx]; rfl) (by simp only [CRes.noX,PV.noX,nms_nx]) (sFreeL x _ _ (Ob.eff_arg (.c (.r _) (.c (.n 1) (.c (.r _) (.r _)))) ho) hs)
def rc1_r0(w:Df)(s:BA):Bool:=(if dfNm w=s then (dfM w==2) else false)
theorem rc1(w:Df)(s:BA):Pu 48 [.agg (dfL w),.ro [.str s] 0] (rB (rc1_r0 w s)):=by
 by_cases h0:dfNm w=s
 ·simp only [rc1_r0,iP h0]; exact pm mdL [rp 4 (bt (ByteArray.toList (dfNm w)==ByteArray.toList s) (bsT h0))] func48
 ·simp only [rc1_r0,iN h0]; exact pm mdL [rp 4 (bf (ByteArray.toList (dfNm w)==ByteArray.toList s) (bsF h0))] func48
abbrev ifA_I(l:List Df)(s:BA)(j:Int)(e:Ext):S:=S.mk [(0,vL 25 (Df.cs l)),(1,.v (.fn (.func 48) [] [.ro [.str s] 0])),(7,vI6 (l.length:Int)),(8,vI6 j)] [] e
inductive ifA_R where
 | e0 (i:Nat)
 | e1
def ifA_f(s:BA):List Df->Nat->ifA_R
 | [],i=>(ifA_R.e1)
 | el::r,i=>(if rc1_r0 el s=true then (ifA_R.e0 i) else ifA_f s r (i+1))
def ifA_q(l:List Df)(s:BA)(e:Ext):ifA_R->PExit × S
 | .e0 i=>(.ret,S.mk [(0,vL 25 (Df.cs l)),(1,.v (.fn (.func 48) [] [.ro [.str s] 0])),(7,vI6 (l.length:Int)),(4,vI6 (i:Int))] [] e)
 | .e1=>(.exit 0,S.mk [(0,vL 25 (Df.cs l)),(1,.v (.fn (.func 48) [] [.ro [.str s] 0])),(7,vI6 (l.length:Int))] [] e)
theorem ifA_lp(l:List Df)(s:BA)(e:Ext)(hN:l.length<=1000000000):(Ob.loop 19 (loopF f47 0) (ifA_I l s 0  e) (ifA_q l s e (ifA_f s (l) 0)).1 (ifA_q l s e (ifA_f s (l) 0)).2).ok prog:=by
 refine rng l.length (fun j _=>ifA_I l s j  e) (fun i _=>ifA_f s (List.drop i (l)) i) (ifA_q l s e) (fun i _=>True) kR ?_ () trivial
 rintro i u hi -
 rcases Nat.lt_or_ge i (l.length) with hlt | hge
 ·have hd:=drop_at hlt
  refine t0 ?_;refine tp [rgDf hlt,cl (@rc1 (List.getD l i default) s)] ?_;by_cases h0:rc1_r0 (List.getD l i default) s=true
  ·exact tX mdL [bt1 h0] (ifA_R.e0 i) (by rw [hd,ifA_f,iP h0])
  ·exact tN mdL [bf1 (bFT h0),wr ((i:Int)+1)] hlt () trivial (by rw [hd,ifA_f,iN h0])
 ·have he:i=l.length:=by omega
  exact lX mdL [df ((i:Int)<(l.length:Int))] (ifA_R.e1) (by rw [he,List.drop_length,ifA_f])
section
variable (l:List Df) (s:BA) (hN:l.length<=1000000000)
include l s hN
theorem ifL_1(hy0:Nat)(hx1:ifA_f s l 0=ifA_R.e0 hy0):Pu 47 [.sl 25 (Df.cs l),.fn (.func 48) [] [.ro [.str s] 0]] (rI (hy0:Int)):=
 pu mdL (fun e=>[sl (Df.cs_len l),lq (rz (ifA_lp (l) (s) (e) hN) hx1)]) func47
theorem ifL_2(hx0:ifA_f s l 0=ifA_R.e1):Pu 47 [.sl 25 (Df.cs l),.fn (.func 48) [] [.ro [.str s] 0]] (rI (-1)):=
 pu mdL (fun e=>[sl (Df.cs_len l),lq (rz (ifA_lp (l) (s) (e) hN) hx0)]) func47
end
def rfX(s:BA):List Df->Nat
 | []=>0
 | c::r=>if rc1_r0 c s=true then 0 else rfX s r+1
theorem ifA_e(s:BA):∀ (l:List Df) (i:Nat),ifA_f s l i=if rfX s l<l.length then .e0 (i+rfX s l) else .e1
 | [],i=>by simp [ifA_f,rfX]
 | c::r,i=>by
  have ih:=ifA_e s r (i+1)
  by_cases h:rc1_r0 c s=true
  ·simp [ifA_f,rfX,h]
  ·rw [ifA_f,iN h,ih,rfX,iN h,List.length_cons]
   by_cases hl:rfX s r<r.length
   ·rw [iP hl,iP oM,show i+1+rfX s r=i+(rfX s r+1) by omega]
   ·rw [iN hl,iN oM]
theorem rfA(m:Mo)(s:BA)(k:Nat)(hk:k<(moF m).length)(hi:Pu 47 [.sl 25 (Df.cs (moF m)),.fn (.func 48) [] [.ro [.str s] 0]] (.ret (.int .i64 (k:Int)))):Pu 22 [.agg (moL m),.str s] (.ret (.tup [.agg (dfL (List.getD (moF m) k default)),.bool true])):=
 pm mdL [cl hi,bf false,mxDf (moF m) (k:Int),xDf (moF m) k hk] func22
def rfD(s:BA)(l:List Df):Option Df:=if rfX s l<l.length then some (l.getD (rfX s l) default) else none
theorem rfT(m:Mo)(s:BA)(hN:(moF m).length<=1000000000)(d:Df)(h:rfD s (moF m)=some d):Pu 22 [.agg (moL m),.str s] (.ret (.tup [.agg (dfL d),.bool true])):=by
 unfold rfD at h
 split at h
 ·rename_i hl
  injection h with h
  subst h
  exact rfA m s _ hl (by have:=ifL_1 (moF m) s hN _ (by rw [ifA_e,iP hl]); simpa using this)
 ·cases h
theorem rfF(m:Mo)(s:BA)(hN:(moF m).length<=1000000000)(h:rfD s (moF m)=none):Pu 22 [.agg (moL m),.str s] (.ret (.tup [.agg (dfL default),.bool false])):=by
 unfold rfD at h
 split at h
 ·cases h
 ·rename_i hl
  exact Ob.pur_wk (Wk.t (WkL.c (Wk.a (kr (kn 1 (kr (kr (kr (kn 7 (kn 10 (kn 9 (kn 9 (kr (kr (kn 1 (kn 2 (kn 2 (kn 10 (kr (kr (kn 9 (kn 1 (kr (kr (kr (kn 4 (kn 4 (kn 4 (WkL.r _))))))))))))))))))))))))))) (WkL.r _))) (pm mdL [cl (ifL_2 (moF m) s hN (by rw [ifA_e,iN hl])),bt true] func22)
abbrev eqA_I(a:List Pr)(b:List Pr)(dfz:Pr->Pr->Bool)(j:Int)(e:Ext):S:=S.mk [(0,vL 4 (Pr.cs a)),(1,vL 4 (Pr.cs b)),(2,.v (.fn (.func 43) [] [])),(14,vI6 (a.length:Int)),(15,vI6 j)] [] e
inductive eqA_R where
 | e0
 | e1
def eqA_f(b:List Pr)(dfz:Pr->Pr->Bool):List Pr->Nat->eqA_R
 | [],i=>(eqA_R.e1)
 | el::r,i=>(if dfz el (List.getD b i default)=false then (eqA_R.e0) else eqA_f b dfz r (i+1))
def eqA_q(a:List Pr)(b:List Pr)(dfz:Pr->Pr->Bool)(e:Ext):eqA_R->PExit × S
 | .e0=>(.ret,S.mk [(0,vL 4 (Pr.cs a)),(1,vL 4 (Pr.cs b)),(2,.v (.fn (.func 43) [] [])),(14,vI6 (a.length:Int)),(6,.v (.bool false))] [] e)
 | .e1=>(.exit 0,S.mk [(0,vL 4 (Pr.cs a)),(1,vL 4 (Pr.cs b)),(2,.v (.fn (.func 43) [] [])),(14,vI6 (a.length:Int))] [] e)
theorem eqA_lp(a b:List Pr)(dfz:Pr->Pr->Bool)(hwk:∀w u:Pr,w∈a->Pu 43 [.agg (prL w),.agg (prL u)] (.ret (.bool (dfz w u))))(hl:a.length=b.length)(e:Ext)(hN:a.length<=1000000000):(Ob.loop 30 (loopF f80 0) (eqA_I a b dfz 0  e) (eqA_q a b dfz e (eqA_f b dfz (a) 0)).1 (eqA_q a b dfz e (eqA_f b dfz (a) 0)).2).ok prog:=by
 refine rng a.length (fun j _=>eqA_I a b dfz j  e) (fun i _=>eqA_f b dfz (List.drop i (a)) i) (eqA_q a b dfz e) (fun i _=>True) kR ?_ () trivial
 rintro i u hi -
 rcases Nat.lt_or_ge i (a.length) with hlt | hge
 ·have hd:=drop_at hlt
  refine t0 ?_;refine tp [rgPr hlt,mxPr b (i:Int),xPr b i,cl (@hwk (List.getD a i default) (List.getD b i default) (by simp_all))] ?_;by_cases h0:dfz (List.getD a i default) (List.getD b i default)=false
  ·exact tX mdL [bt1 (bnT h0)] (eqA_R.e0) (by rw [hd,eqA_f,iP h0])
  ·exact tN mdL [bf1 (bnF (bTF h0)),wr ((i:Int)+1)] hlt () trivial (by rw [hd,eqA_f,iN h0])
 ·have he:i=a.length:=by omega
  exact lX mdL [df ((i:Int)<(a.length:Int))] (eqA_R.e1) (by rw [he,List.drop_length,eqA_f])
def smS_r0(u:Pr)(v:Pr)(y:Bool):Bool:=(if (prO u==prO v&&ByteArray.toList (prNm u)==ByteArray.toList (prNm v)&&prN u==prN v)=true then y else false)
theorem smS(u v:Pr)(y:Bool)(hk:Pu 80 [.sl 4 (Pr.cs (prK u)),.sl 4 (Pr.cs (prK v)),.fn (.func 43) [] []] (.ret (.bool y))):Pu 43 [.agg (prL u),.agg (prL v)] (rB (smS_r0 u v y)):=by
 refine t0 ?_;refine tp [mg,av (.v (.bool (bif prO u==prO v then ByteArray.toList (prNm u)==ByteArray.toList (prNm v) else false))) (.v (.bool (prO u==prO v&&ByteArray.toList (prNm u)==ByteArray.toList (prNm v)))) (by (simp only [Bool.cond_false_right]; done)),mg,av (.v (.bool (bif prO u==prO v&&ByteArray.toList (prNm u)==ByteArray.toList (prNm v) then prN u==prN v else false))) (.v (.bool (prO u==prO v&&ByteArray.toList (prNm u)==ByteArray.toList (prNm v)&&prN u==prN v))) (by (simp only [Bool.cond_false_right]; done))] ?_;by_cases h0:(prO u==prO v&&ByteArray.toList (prNm u)==ByteArray.toList (prNm v)&&prN u==prN v)=true
 ·simp only [smS_r0,iP h0]; exact tM mdL [rp 5 (bt1 h0),cl hk,bt1 h0] func43
 ·simp only [smS_r0,iN h0]; exact tM mdL [rp 6 (bf1 (bFT h0))] func43
abbrev hsA_I(l:List Pr)(y:Pr)(dfz:Pr->Bool)(j:Int)(e:Ext):S:=S.mk [(2,.v (.fn (.func 43) [] [])),(4,.lp 4 0),(9,vL 4 (Pr.cs l)),(10,vI6 (l.length:Int)),(11,vI6 j)] [(4,prV y)] e
inductive hsA_R where
 | e0
 | e1
def hsA_f(dfz:Pr->Bool):List Pr->hsA_R
 | []=>(hsA_R.e1)
 | el::r=>(if dfz el=true then (hsA_R.e0) else hsA_f dfz r)
def hsA_q(l:List Pr)(y:Pr)(dfz:Pr->Bool)(e:Ext):hsA_R->PExit × S
 | .e0=>(.ret,S.mk [(2,.v (.fn (.func 43) [] [])),(4,.lp 4 0),(9,vL 4 (Pr.cs l)),(10,vI6 (l.length:Int)),(6,.v (.bool true))] [(4,prV y)] e)
 | .e1=>(.exit 0,S.mk [(2,.v (.fn (.func 43) [] [])),(4,.lp 4 0),(9,vL 4 (Pr.cs l)),(10,vI6 (l.length:Int))] [(4,prV y)] e)
theorem hsA_lp(l:List Pr)(y:Pr)(dfz:Pr->Bool)(hwk:∀w:Pr,w∈l->Pu 43 [.agg (prL y),.agg (prL w)] (.ret (.bool (dfz w))))(e:Ext)(hN:l.length<=1000000000):(Ob.loop 20 (loopF f138 0) (hsA_I l y dfz 0  e) (hsA_q l y dfz e (hsA_f dfz (l))).1 (hsA_q l y dfz e (hsA_f dfz (l))).2).ok prog:=by
 refine rng l.length (fun j _=>hsA_I l y dfz j  e) (fun i _=>hsA_f dfz (List.drop i (l))) (hsA_q l y dfz e) (fun i _=>True) kR ?_ () trivial
 rintro i u hi -
 rcases Nat.lt_or_ge i (l.length) with hlt | hge
 ·have hd:=drop_at hlt
  refine t0 ?_;refine tp [rgPr hlt,cl (@hwk (List.getD l i default) (by simp_all))] ?_;by_cases h0:dfz (List.getD l i default)=true
  ·exact tX mdL [bt1 h0] (hsA_R.e0) (by rw [hd,hsA_f,iP h0])
  ·exact tN mdL [bf1 (bFT h0),wr ((i:Int)+1)] hlt () trivial (by rw [hd,hsA_f,iN h0])
 ·have he:i=l.length:=by omega
  exact lX mdL [df ((i:Int)<(l.length:Int))] (hsA_R.e1) (by rw [he,List.drop_length,hsA_f])
section
variable (l:List Pr) (y:Pr) (dfz:Pr->Bool) (hwk:∀w:Pr,w∈l->Pu 43 [.agg (prL y),.agg (prL w)] (.ret (.bool (dfz w)))) (hN:l.length<=1000000000)
include l y dfz hwk hN
theorem hsL_1(hx0:hsA_f dfz l=hsA_R.e0):Pu 138 [.sl 4 (Pr.cs l),.agg (prL y),.fn (.func 43) [] []] (rB true):=
 pu mdL (fun e=>[sl (Pr.cs_len l),lq (rz (hsA_lp (l) (y) (dfz) hwk (e) hN) hx0)]) func138
theorem hsL_2(hx0:hsA_f dfz l=hsA_R.e1):Pu 138 [.sl 4 (Pr.cs l),.agg (prL y),.fn (.func 43) [] []] (rB false):=
 pu mdL (fun e=>[sl (Pr.cs_len l),lq (rz (hsA_lp (l) (y) (dfz) hwk (e) hN) hx0)]) func138
end
theorem in_inv{ks l:List Pr}{dg:Pr->List Pr->List Pr}{i:Nat}(hi:i<ks.length)(hdg:∀ (w:Pr) (l:List Pr),w∈ks->(dg w l).length<=l.length+bulkPs (prL w))(hv:l.length+bulkPss (Pr.cs (ks.drop i))<=1000000000):(dg (ks.getD i default) l).length+bulkPss (Pr.cs (ks.drop (i+1)))<=1000000000:=by
 rw [drop_at hi] at hv
 simp only [Pr.cs,bulkPss,Pr.c_eq] at hv
 have:=hdg (ks.getD i default) l (getD_mem hi)
 omega
theorem in_get{ks l:List Pr}{i:Nat}(hi:i<ks.length)(hv:l.length+bulkPss (Pr.cs (ks.drop i))<=1000000000):l.length+bulkPs (prL (ks.getD i default))<=1000000000:=by
 rw [drop_at hi] at hv
 simp only [Pr.cs,bulkPss,Pr.c_eq] at hv
 omega
def mdO:Md:=⟨fun _=>some false,fun t=>t==3000000+115⟩
abbrev inA_I(u:Pr)(o:Int)(l0:List Pr)(dg:Pr->List Pr->List Pr)(xe:Ext)(j:Int)(l:List Pr)  : S:=S.mk [(1,vI6 o),(2,.uniq 46 4 (Pr.cs l)),(3,.lp 3 0),(10,vL 4 (Pr.cs (prK u))),(11,vI6 ((prK u).length:Int)),(12,vI6 j)] [(3,prV u)] xe
def inA_f(dg:Pr->List Pr->List Pr):List Pr->(List Pr)->(List Pr)
 | [],l=>(l)
 | el::r,l=>inA_f dg r (dg el l)
def inA_q(u:Pr)(o:Int)(l0:List Pr)(dg:Pr->List Pr->List Pr)(xe:Ext)(p:(List Pr)):PExit × S:=(.exit 0,S.mk [(1,vI6 o),(2,.uniq 46 4 (Pr.cs p)),(3,.lp 3 0),(10,vL 4 (Pr.cs (prK u))),(11,vI6 ((prK u).length:Int))] [(3,prV u)] xe)
theorem inA(u:Pr)(o:Int)(l0:List Pr)(dg:Pr->List Pr->List Pr)(hwk:∀ (w:Pr) (l:List Pr) (e:Ext),w∈prK u->l.length+bulkPs (prL w)<=1000000000->(Ob.own 115 [.agg (prL w),.int .i64 o,.nilsl] 2 46 4 (Pr.cs l) e (.own 46 4 (Pr.cs (dg w l))) e).ok prog)(hdg:∀ (w:Pr) (l:List Pr),w∈prK u->(dg w l).length<=l.length+bulkPs (prL w))(xe:Ext)(l:List Pr)(hN:(prK u).length<=1000000000)(hv:List.length l+bulkPss (Pr.cs (List.drop 0 (prK u)))<=1000000000):(Ob.loop 37 (loopF f115 0) (inA_I u o l0 dg xe 0 l) (inA_q u o l0 dg xe  (inA_f dg ((prK u))  l)).1 (inA_q u o l0 dg xe  (inA_f dg ((prK u))  l)).2).ok prog:=by
 refine rng ((prK u).length) (fun j l=>inA_I u o l0 dg xe j l) (fun i l=>inA_f dg (List.drop i ((prK u)))  l) (inA_q u o l0 dg xe) (fun i l=>(l.length+bulkPss (Pr.cs ((prK u).drop i))<=1000000000)) kR ?_ l (by first | exact hv | omega)
 rintro i l hi hv
 try simp only at hv
 rcases Nat.lt_or_ge i ((prK u).length) with hlt | hge
 ·have hd:=drop_at hlt
  exact lN mdO [rgPr hlt,cw (@hwk (List.getD (prK u) i default) l xe (by first | exact getD_mem hlt | simp_all) (by (apply in_get <;> first | assumption | omega | decide))),wr ((i:Int)+1)] hlt (dg (List.getD (prK u) i default) l) (by first | assumption | omega | (apply gPr <;> first | assumption | omega | decide) | (apply in_inv <;> first | assumption | omega | decide) | (apply in_get <;> first | assumption | omega | decide) | (simp only [List.length_append,List.length_cons,List.length_nil] at *; omega) | simp_all) (by rw [hd,inA_f])
 ·have he:i=(prK u).length:=by omega
  exact lX mdO [df ((i:Int)<((prK u).length:Int))] (l) (by rw [he,List.drop_length,inA_f])
abbrev in0(u:Pr)(o:Int)(l:List Pr)(xe:Ext):S:=⟨[(0,.v (.agg (prL u))),(1,.v (.int .i64 o)),(2,.uniq 46 4 (Pr.cs l))],[],xe⟩
section
variable (u:Pr) (o:Int) (l0:List Pr) (y:Bool) (dg:Pr->List Pr->List Pr) (hwk:∀ (w:Pr) (l:List Pr) (e:Ext),w∈prK u->l.length+bulkPs (prL w)<=1000000000->(Ob.own 115 [.agg (prL w),.int .i64 o,.nilsl] 2 46 4 (Pr.cs l) e (.own 46 4 (Pr.cs (dg w l))) e).ok prog) (hdg:∀ (w:Pr) (l:List Pr),w∈prK u->(dg w l).length<=l.length+bulkPs (prL w)) (hN:(prK u).length<=1000000000) (hv:l0.length+bulkPss (Pr.cs (List.drop 0 (prK u)))<=1000000000) (hL:(inA_f dg (prK u) l0).length<=1000000000) (hh:Pu 138 [.sl 4 (Pr.cs (inA_f dg (prK u) l0)),.agg (prL u),.fn (.func 43) [] []] (.ret (.bool y))) (hc:Pu 77 [.agg (prL u)] (.ret (.agg (prL u)))) (xe:Ext)
include u o l0 y dg hwk hdg hN hv hL hh hc xe
theorem inC_1(hx0:prO u=o)(hx1:y=false)(cx:Cx)(hcx:cx.n=37){Q:PExit->S->Prop}(hq:Q (.ret) (S.mk [(1,vI6 o),(2,vL 4 (Pr.cs (inA_f dg (prK u) l0)++[prL u])),(6,.uniq 46 4 (Pr.cs (inA_f dg (prK u) l0)++[prL u]))] [] xe)):PW prog cx (Option.getD (Func.body f115) Code.skip) (in0 u o l0 xe) Q:=
 pw mdO 37 [sl (Pr.cs_len (prK u)),lq (@inA u o default dg hwk hdg xe l0 hN hv),rp 3 (et1 hx0),cl hh,rp 2 (et1 hx0),bt1 (bnT hx1),cl hc,am (List.length (Pr.cs (inA_f dg (prK u) l0)++[prL u]) * (55+1)<=140737488355328) (by (simp only [List.length_append,List.length_cons,List.length_nil,Pr.cs_len]; omega))] [0,1,2,6] [] hcx hq
theorem inC_2(hx0:prO u=o)(hx1:y=true)(cx:Cx)(hcx:cx.n=37){Q:PExit->S->Prop}(hq:Q (.ret) (S.mk [(1,vI6 o),(2,vL 4 (Pr.cs (inA_f dg (prK u) l0))),(6,.uniq 46 4 (Pr.cs (inA_f dg (prK u) l0)))] [] xe)):PW prog cx (Option.getD (Func.body f115) Code.skip) (in0 u o l0 xe) Q:=
 pw mdO 37 [sl (Pr.cs_len (prK u)),lq (@inA u o default dg hwk hdg xe l0 hN hv),rp 3 (et1 hx0),cl hh,rp 2 (et1 hx0),bf1 (bnF hx1)] [0,1,2,6] [] hcx hq
theorem inC_3(hx0:¬prO u=o)(cx:Cx)(hcx:cx.n=37){Q:PExit->S->Prop}(hq:Q (.ret) (S.mk [(1,vI6 o),(2,vL 4 (Pr.cs (inA_f dg (prK u) l0))),(6,.uniq 46 4 (Pr.cs (inA_f dg (prK u) l0)))] [] xe)):PW prog cx (Option.getD (Func.body f115) Code.skip) (in0 u o l0 xe) Q:=
 pw mdO 37 [sl (Pr.cs_len (prK u)),lq (@inA u o default dg hwk hdg xe l0 hN hv),rp 5 (en1 hx0),bf false] [0,1,2,6] [] hcx hq
end
def eqB(dfz:Pr->Pr->Bool)(a b:List Pr):Bool:=decide (a.length=b.length)&&(match eqA_f b dfz a 0 with | .e0=>false | .e1=>true)
theorem eqT(a b:List Pr)(dfz:Pr->Pr->Bool)(hwk:∀w u:Pr,w∈a->Pu 43 [.agg (prL w),.agg (prL u)] (.ret (.bool (dfz w u))))(hN:a.length<=1000000000):Pu 80 [.sl 4 (Pr.cs a),.sl 4 (Pr.cs b),.fn (.func 43) [] []] (.ret (.bool (eqB dfz a b))):=by
 unfold eqB
 by_cases hl:a.length=b.length
 ·rw [decide_eq_true hl,Bool.true_and]
  cases h:eqA_f b dfz a 0 with
  | e0=>exact pu mdL (fun e=>[sl (Pr.cs_len a),sl (Pr.cs_len b),nn (a.length:Int) (b.length:Int),sl (Pr.cs_len a),lq (rz (eqA_lp (a) (b) (dfz) hwk hl (e) hN) h)]) func80
  | e1=>exact pu mdL (fun e=>[sl (Pr.cs_len a),sl (Pr.cs_len b),nn (a.length:Int) (b.length:Int),sl (Pr.cs_len a),lq (rz (eqA_lp (a) (b) (dfz) hwk hl (e) hN) h)]) func80
 ·rw [decide_eq_false hl,Bool.false_and]
  exact pm mdL [sl (Pr.cs_len a),sl (Pr.cs_len b),nt (a.length:Int) (b.length:Int) oM] func80
def smD:Nat->Pr->Pr->Bool
 | 0,_,_=>false
 | d+1,u,v=>smS_r0 u v (eqB (smD d) (prK u) (prK v))
theorem sm_ok:∀ (d:Nat) (u v:Pr),bulkPs (prL u)<d->d<=100000001->Pu 43 [.agg (prL u),.agg (prL v)] (.ret (.bool (smD d u v)))
 | 0,_,_,h,_=>by omega
 | d+1,u,v,h,hs=>smS u v _ (eqT (prK u) (prK v) (smD d) (fun w v hw=>sm_ok d w v (by have:=pr_blk u; have:=Pr.mem hw; omega) oM) (by have:=pr_blk u; have:=Pr.bulk (prK u); omega))
def smF(u v:Pr):Bool:=smD (bulkPs (prL u)+1) u v
theorem smT(u v:Pr)(hs:bulkPs (prL u)<=100000000):Pu 43 [.agg (prL u),.agg (prL v)] (.ret (.bool (smF u v))):=sm_ok _ u v (Nat.lt_succ_self _) oM
theorem smF_nm{u v:Pr}(h:smF u v=true):prNm u=prNm v:=by
 unfold smF smD smS_r0 at h
 split at h
 ·rename_i h1
  simp only [Bool.and_eq_true,beq_iff_eq] at h1
  exact bytes_eq h1.1.2
 ·cases h
def hsB(dfz:Pr->Bool)(l:List Pr):Bool:=match hsA_f dfz l with | .e0=>true | .e1=>false
theorem hsB_any(dfz:Pr->Bool):∀l,hsB dfz l=l.any dfz
 | []=>rfl
 | x::r=>by
  have ih:=hsB_any dfz r
  unfold hsB at ih ⊢
  rw [hsA_f,List.any_cons]
  by_cases h:dfz x=true
  ·rw [iP h,h]; rfl
  ·rw [iN h,ih]; simp [h]
theorem hsT(l:List Pr)(y:Pr)(hs:bulkPs (prL y)<=100000000)(hN:l.length<=1000000000):Pu 138 [.sl 4 (Pr.cs l),.agg (prL y),.fn (.func 43) [] []] (.ret (.bool (l.any (smF y)))):=by
 rw [<-hsB_any]
 unfold hsB
 cases h:hsA_f (smF y) l with
 | e0=>exact hsL_1 l y (smF y) (fun w _=>smT y w hs) hN h
 | e1=>exact hsL_2 l y (smF y) (fun w _=>smT y w hs) hN h
def inK(o:Int):Nat->Pr->List Pr->List Pr
 | 0,_,l=>l
 | d+1,u,l=>if prO u=o/\(inA_f (inK o d) (prK u) l).any (smF u)=false then inA_f (inK o d) (prK u) l++[u] else inA_f (inK o d) (prK u) l
theorem inA_len{d:Nat}{dg:Pr->List Pr->List Pr}:∀ (ks:List Pr) (l:List Pr),(∀w l,w∈ks->(dg w l).length<=l.length+bulkPs (prL w))->(inA_f dg ks l).length<=l.length+bulkPss (Pr.cs ks)
 | [],l,_=>by simp [inA_f]
 | x::r,l,h=>by
  have ih:=inA_len (d:=d) r (dg x l) (fun w l hw=>h w l (List.mem_cons_of_mem _ hw))
  have h1:=h x l List.mem_cons_self
  have h2:bulkPss (Pr.cs (x::r))=bulkPs (prL x)+bulkPss (Pr.cs r):=by simp only [Pr.cs,bulkPss,Pr.c_eq]
  rw [inA_f]
  omega
theorem inK_len(o:Int):∀ (d:Nat) (u:Pr) (l:List Pr),(inK o d u l).length<=l.length+bulkPs (prL u)
 | 0,u,l=>by simp [inK]
 | d+1,u,l=>by
  have h1:=inA_len (d:=d) (prK u) l (fun w l _=>inK_len o d w l)
  have h2:=pr_blk u
  rw [inK]
  split
  ·simp only [List.length_append,List.length_cons,List.length_nil]; omega
  ·omega
theorem in_ok(o:Int):∀ (d:Nat) (u:Pr) (l:List Pr) (xe:Ext),bulkPs (prL u)<d->d<=100000001->l.length+bulkPs (prL u)<=1000000000->(Ob.own 115 [.agg (prL u),.int .i64 o,.nilsl] 2 46 4 (Pr.cs l) xe (.own 46 4 (Pr.cs (inK o d u l))) xe).ok prog
 | 0,_,_,_,h,_,_=>by omega
 | d+1,u,l,xe,h,hs,hl=>by
  have hk:=pr_blk u
  have hwk:∀ (w:Pr) (l:List Pr) (e:Ext),w∈prK u->l.length+bulkPs (prL w)<=1000000000->(Ob.own 115 [.agg (prL w),.int .i64 o,.nilsl] 2 46 4 (Pr.cs l) e (.own 46 4 (Pr.cs (inK o d w l))) e).ok prog:=fun w l e hw hl=>in_ok o d w l e (by have:=Pr.mem hw; omega) oM hl
  have hdg:∀ (w:Pr) (l:List Pr),w∈prK u->(inK o d w l).length<=l.length+bulkPs (prL w):=fun w l _=>inK_len o d w l
  have hlen:=inA_len (d:=d) (prK u) l (fun w l hw=>inK_len o d w l)
  have hN:(prK u).length<=1000000000:=by have:=Pr.bulk (prK u); omega
  have hL:(inA_f (inK o d) (prK u) l).length<=1000000000:=by omega
  have hv:l.length+bulkPss (Pr.cs (List.drop 0 (prK u)))<=1000000000:=by rw [List.drop_zero]; omega
  have hh:=hsT (inA_f (inK o d) (prK u) l) u oM hL
  have hc:=cpT u oM
  have hb:(inA_f (inK o d) (prK u) l).length<=1000000000->List.length (Pr.cs (inA_f (inK o d) (prK u) l)++[prL u]) * (55+1)<=140737488355328:=fun h=>by simp only [List.length_append,Pr.cs_len,List.length_cons,List.length_nil]; omega
  rw [inK]
  split
  ·rename_i hx
   refine Ob.own_frag (n:=37) (pe := .ret) (s1:=S.mk [(1,vI6 o),(2,vL 4 (Pr.cs (inA_f (inK o d) (prK u) l)++[prL u])),(6,.uniq 46 4 (Pr.cs (inA_f (inK o d) (prK u) l++[u])))] [] xe) (c:=(f115).body.getD .skip) (fn:=f115) kR kR kR sM kR (fun cx hcx=>inC_1 u o l _ (inK o d) hwk hdg hN hv hL hh hc xe hx.1 hx.2 cx hcx ?_) kR
   exact ⟨rfl,by rw [Pr.cs_snoc]⟩
  ·rename_i hx
   by_cases h0:prO u=o
   ·have h1:(inA_f (inK o d) (prK u) l).any (smF u)=true:=by
     cases h2:(inA_f (inK o d) (prK u) l).any (smF u)
     ·exact (hx ⟨h0,h2⟩).elim
     ·rfl
    exact Ob.own_frag (n:=37) (pe := .ret) (c:=(f115).body.getD .skip) (fn:=f115) kR kR kR sM kR (fun cx hcx=>inC_2 u o l _ (inK o d) hwk hdg hN hv hL hh hc xe h0 h1 cx hcx ⟨rfl,rfl⟩) kR
   ·exact Ob.own_frag (n:=37) (pe := .ret) (c:=(f115).body.getD .skip) (fn:=f115) kR kR kR sM kR (fun cx hcx=>inC_3 u o l _ (inK o d) hwk hdg hN hv hL hh hc xe h0 cx hcx ⟨rfl,rfl⟩) kR
def apF(u:Pr):List Pr:=inK 4 (bulkPs (prL u)+1) u []
theorem apF_len(u:Pr):(apF u).length<=bulkPs (prL u):=by have:=inK_len 4 (bulkPs (prL u)+1) u []; simpa [apF] using this
theorem apI(u:Pr)(hs:bulkPs (prL u)<=100000000):Pu 115 [.agg (prL u),.int .i64 4,.nilsl] (.own 46 4 (Pr.cs (apF u))):=
 Ob.pur_nil (k:=2) (fun e=>in_ok 4 _ u [] e (Nat.lt_succ_self _) oM (by simp only [List.length_nil]; omega)) rfl
theorem apL(u:Pr)(l:List Pr)(hi:Pu 115 [.agg (prL u),.int .i64 4,.nilsl] (.own 46 4 (Pr.cs l))):Pu 84 [.agg (prL u)] (.own 46 4 (Pr.cs l)):=
 pm mdL [cl hi] func84
theorem apT(u:Pr)(hs:bulkPs (prL u)<=100000000):Pu 84 [.agg (prL u)] (.ret (.sl 4 (Pr.cs (apF u)))):=Ob.pur_unown (apL u _ (apI u hs))
theorem Pr.cs_cons2(x:Pr)(l:List Pr):Pr.cs (x::l)=prL x::Pr.cs l:=by rw [Pr.cs,Pr.c_eq]
def mdA:Md:=⟨fun _=>some false,fun t=>t==3000000+83⟩
abbrev acI(t:Tp)(q:List Pr)(i0:Int)(a:List Pr)(l:List BA)(j:Int)(xe:Ext):S:=⟨[(1,.uniq 1000009 1 (nmsC l)),(2,.lp 2 0),(16,.uniq 46 4 (Pr.cs q)),(17,.v (.int .i64 q.length)),(18,.v (.int .i64 i0)),(23,.v (.sl 4 (Pr.cs a))),(24,.v (.int .i64 a.length)),(25,.v (.int .i64 j))],[(2,tpV t)],xe⟩
abbrev acA_I(t:Tp)(q:List Pr)(i0:Int)(a:List Pr)(l0:List BA)(xe:Ext)(j:Int)(l:List BA)  : S:=S.mk [(1,.uniq 1000009 1 (nmsC l)),(2,.lp 2 0),(16,.uniq 46 4 (Pr.cs q)),(17,vI6 (q.length:Int)),(18,vI6 i0),(23,vL 4 (Pr.cs a)),(24,vI6 (a.length:Int)),(25,vI6 j)] [(2,tpV t)] xe
def acA_f  : List Pr->(List BA)->(List BA)
 | [],l=>(l)
 | el::r,l=>acA_f  r (l++[prNm el])
def acA_q(t:Tp)(q:List Pr)(i0:Int)(a:List Pr)(l0:List BA)(xe:Ext)(p:(List BA)):PExit × S:=(.exit 2,S.mk [(1,.uniq 1000009 1 (nmsC p)),(2,.lp 2 0),(16,.uniq 46 4 (Pr.cs q)),(17,vI6 (q.length:Int)),(18,vI6 i0),(23,vL 4 (Pr.cs a)),(24,vI6 (a.length:Int))] [(2,tpV t)] xe)
theorem acA(t:Tp)(q:List Pr)(i0:Int)(a:List Pr)(l0:List BA)(hb:l0.length+a.length<=1000000000)(xe:Ext)(l:List BA)(hN:a.length<=1000000000)(hv:List.length l<=List.length l0+0):(Ob.loop 48 (loopF f83 1) (acA_I t q i0 a l0 xe 0 l) (acA_q t q i0 a l0 xe  (acA_f  (a)  l)).1 (acA_q t q i0 a l0 xe  (acA_f  (a)  l)).2).ok prog:=by
 refine rng a.length (fun j l=>acA_I t q i0 a l0 xe j l) (fun i l=>acA_f  (List.drop i (a))  l) (acA_q t q i0 a l0 xe) (fun i l=>(l.length<=l0.length+i)) kR ?_ l (by first | exact hv | omega)
 rintro i l hi hv
 try simp only at hv
 rcases Nat.lt_or_ge i (a.length) with hlt | hge
 ·have hd:=drop_at hlt
  exact lS mdA [rgPr hlt,am (List.length (nmsC l++[[.str (prNm (List.getD a i default))]]) * (15+1)<=140737488355328) (by (simp only [List.length_append,List.length_cons,List.length_nil,nmsC_len]; omega)),wr ((i:Int)+1)] [1,2,16,17,18,23,24,25] [2] hlt (l++[prNm (List.getD a i default)]) (S.mk [(1,.uniq 1000009 1 (nmsC l++[[PV.str (prNm (List.getD a i default))]])),(2,.lp 2 0),(16,.uniq 46 4 (Pr.cs q)),(17,vI6 (q.length:Int)),(18,vI6 i0),(23,vL 4 (Pr.cs a)),(24,vI6 (a.length:Int)),(25,vI6 ((i:Int)+1))] [(2,tpV t)] xe) ⟨⟨(.inl (by first | (simp only [List.nil_append,nmsC_app,nmsC_snoc,Pr.cs_snoc,Tp.cs_snoc,Ex.cs_snoc,Vr.cs_snoc,Df.cs_snoc,Pr.cs_cons2]; done) | (simp only [List.nil_append,nmsC_app,nmsC_snoc,Pr.cs_snoc,Tp.cs_snoc,Ex.cs_snoc,Vr.cs_snoc,Df.cs_snoc,Pr.cs_cons2]; rfl))),W,W,W,W,W,W,W,tVv⟩,⟨Ws,tVv⟩,rfl⟩ (by first | assumption | omega | (apply gPr <;> first | assumption | omega | decide) | (simp only [List.length_append,List.length_cons,List.length_nil] at *; omega) | simp_all) (by rw [hd,acA_f])
 ·have he:i=a.length:=by omega
  exact lX mdA [df ((i:Int)<(a.length:Int))] (l) (by rw [he,List.drop_length,acA_f])
theorem acA_eq:∀ (a:List Pr) (l:List BA),acA_f a l=l++a.map prNm
 | [],l=>by simp [acA_f]
 | x::r,l=>by rw [acA_f,acA_eq r]; simp
theorem acT(t:Tp)(q:List Pr)(i0:Int)(a:List Pr)(l:List BA)(xe:Ext)(hb:l.length+a.length<=1000000000):(Ob.loop 48 (loopF f83 1) (acI t q i0 a l 0 xe) (acA_q t q i0 a l xe (l++a.map prNm)).1 (acA_q t q i0 a l xe (l++a.map prNm)).2).ok prog:=by
 have:=acA t q i0 a l hb xe l oM oM
 rw [acA_eq] at this
 exact this
def apN(dg:Pr->List Pr):List Pr->Nat
 | []=>0
 | x::r=>(dg x).length+apN dg r
theorem ab_get{q:List Pr}{l:List BA}{dg:Pr->List Pr}{i:Nat}(hi:i<q.length)(hv:l.length+apN dg (q.drop i)<=1000000000):l.length+(dg (q.getD i default)).length<=1000000000:=by
 rw [drop_at hi,apN] at hv
 omega
theorem ab_inv{q:List Pr}{l:List BA}{dg:Pr->List Pr}{i:Nat}(hi:i<q.length)(hv:l.length+apN dg (q.drop i)<=1000000000):(l++(dg (q.getD i default)).map prNm).length+apN dg (q.drop (i+1))<=1000000000:=by
 rw [drop_at hi,apN] at hv
 simp only [List.length_append,List.length_map]
 omega
abbrev abA_I(t:Tp)(q:List Pr)(l0:List BA)(dg:Pr->List Pr)(xe:Ext)(j:Int)(l:List BA)  : S:=S.mk [(1,.uniq 1000009 1 (nmsC l)),(2,.lp 2 0),(16,.uniq 46 4 (Pr.cs q)),(17,vI6 (q.length:Int)),(18,vI6 j)] [(2,tpV t)] xe
def abA_f(dg:Pr->List Pr):List Pr->(List BA)->(List BA)
 | [],l=>(l)
 | el::r,l=>abA_f dg r (l++List.map prNm (dg el))
def abA_q(t:Tp)(q:List Pr)(l0:List BA)(dg:Pr->List Pr)(xe:Ext)(p:(List BA)):PExit × S:=(.exit 0,S.mk [(1,.uniq 1000009 1 (nmsC p)),(2,.lp 2 0),(16,.uniq 46 4 (Pr.cs q)),(17,vI6 (q.length:Int))] [(2,tpV t)] xe)
theorem abA(t:Tp)(q:List Pr)(l0:List BA)(dg:Pr->List Pr)(hwk:∀w:Pr,w∈q->Pu 84 [.agg (prL w)] (.ret (.sl 4 (Pr.cs (dg w)))))(xe:Ext)(l:List BA)(hN:q.length<=1000000000)(hv:List.length l+apN dg (List.drop 0 q)<=1000000000):(Ob.loop 48 (loopF f83 0) (abA_I t q l0 dg xe 0 l) (abA_q t q l0 dg xe  (abA_f dg (q)  l)).1 (abA_q t q l0 dg xe  (abA_f dg (q)  l)).2).ok prog:=by
 refine rng q.length (fun j l=>abA_I t q l0 dg xe j l) (fun i l=>abA_f dg (List.drop i (q))  l) (abA_q t q l0 dg xe) (fun i l=>(l.length+apN dg (q.drop i)<=1000000000)) kR ?_ l (by first | exact hv | omega)
 rintro i l hi hv
 try simp only at hv
 rcases Nat.lt_or_ge i (q.length) with hlt | hge
 ·have hd:=drop_at hlt
  exact lN mdA [rgPr hlt,cl (@hwk (List.getD q i default) (by first | exact getD_mem hlt | simp_all)),sl (Pr.cs_len (dg (List.getD q i default))),lq (@acT t q ((i:Int)) (dg (List.getD q i default)) l xe (by (apply ab_get <;> first | assumption | omega | decide))),wr ((i:Int)+1)] hlt (l++List.map prNm (dg (List.getD q i default))) (by first | assumption | omega | (apply gPr <;> first | assumption | omega | decide) | (apply ab_get <;> first | assumption | omega | decide) | (apply ab_inv <;> first | assumption | omega | decide) | (simp only [List.length_append,List.length_cons,List.length_nil] at *; omega) | simp_all) (by rw [hd,abA_f])
 ·have he:i=q.length:=by omega
  exact lX mdA [df ((i:Int)<(q.length:Int))] (l) (by rw [he,List.drop_length,abA_f])
theorem ae_get{ks:List Tp}{l:List BA}{i:Nat}(hi:i<ks.length)(hv:l.length+bulkPss (Tp.cs (ks.drop i))<=1000000000):l.length+bulkPs (tpL (ks.getD i default))<=1000000000:=by
 rw [drop_at hi] at hv
 simp only [Tp.cs,bulkPss,Tp.c_eq] at hv
 omega
theorem ae_inv{ks:List Tp}{l:List BA}{dtz:Tp->List BA->List BA}{i:Nat}(hi:i<ks.length)(hdg:∀ (w:Tp) (l:List BA),w∈ks->(dtz w l).length<=l.length+bulkPs (tpL w))(hv:l.length+bulkPss (Tp.cs (ks.drop i))<=1000000000):(dtz (ks.getD i default) l).length+bulkPss (Tp.cs (ks.drop (i+1)))<=1000000000:=by
 rw [drop_at hi] at hv
 simp only [Tp.cs,bulkPss,Tp.c_eq] at hv
 have:=hdg (ks.getD i default) l (getD_mem hi)
 omega
abbrev aeA_I(t:Tp)(l0:List BA)(dtz:Tp->List BA->List BA)(xe:Ext)(j:Int)(l:List BA)  : S:=S.mk [(1,.uniq 1000009 1 (nmsC l)),(2,.lp 2 0),(37,vL 9 (Tp.cs (tpA t))),(38,vI6 ((tpA t).length:Int)),(39,vI6 j)] [(2,tpV t)] xe
def aeA_f(dtz:Tp->List BA->List BA):List Tp->(List BA)->(List BA)
 | [],l=>(l)
 | el::r,l=>aeA_f dtz r (dtz el l)
def aeA_q(t:Tp)(l0:List BA)(dtz:Tp->List BA->List BA)(xe:Ext)(p:(List BA)):PExit × S:=(.exit 4,S.mk [(1,.uniq 1000009 1 (nmsC p)),(2,.lp 2 0),(37,vL 9 (Tp.cs (tpA t))),(38,vI6 ((tpA t).length:Int))] [(2,tpV t)] xe)
theorem aeA(t:Tp)(l0:List BA)(dtz:Tp->List BA->List BA)(hwk:∀ (w:Tp) (l:List BA) (e:Ext),w∈tpA t->l.length+bulkPs (tpL w)<=1000000000->(Ob.own 83 [.agg (tpL w),.nilsl] 1 1000009 1 (nmsC l) e (.own 1000009 1 (nmsC (dtz w l))) e).ok prog)(hdg:∀ (w:Tp) (l:List BA),w∈tpA t->(dtz w l).length<=l.length+bulkPs (tpL w))(xe:Ext)(l:List BA)(hN:(tpA t).length<=1000000000)(hv:List.length l+bulkPss (Tp.cs (List.drop 0 (tpA t)))<=1000000000):(Ob.loop 48 (loopF f83 2) (aeA_I t l0 dtz xe 0 l) (aeA_q t l0 dtz xe  (aeA_f dtz ((tpA t))  l)).1 (aeA_q t l0 dtz xe  (aeA_f dtz ((tpA t))  l)).2).ok prog:=by
 refine rng ((tpA t).length) (fun j l=>aeA_I t l0 dtz xe j l) (fun i l=>aeA_f dtz (List.drop i ((tpA t)))  l) (aeA_q t l0 dtz xe) (fun i l=>(l.length+bulkPss (Tp.cs ((tpA t).drop i))<=1000000000)) kR ?_ l (by first | exact hv | omega)
 rintro i l hi hv
 try simp only at hv
 rcases Nat.lt_or_ge i ((tpA t).length) with hlt | hge
 ·have hd:=drop_at hlt
  exact lN mdA [rgTp hlt,cw (@hwk (List.getD (tpA t) i default) l xe (by first | exact getD_mem hlt | simp_all) (by (apply ae_get <;> first | assumption | omega | decide))),wr ((i:Int)+1)] hlt (dtz (List.getD (tpA t) i default) l) (by first | assumption | omega | (apply gPr <;> first | assumption | omega | decide) | (apply gTp <;> first | assumption | omega | decide) | (apply ae_get <;> first | assumption | omega | decide) | (apply ae_inv <;> first | assumption | omega | decide) | (simp only [List.length_append,List.length_cons,List.length_nil] at *; omega) | simp_all) (by rw [hd,aeA_f])
 ·have he:i=(tpA t).length:=by omega
  exact lX mdA [df ((i:Int)<((tpA t).length:Int))] (l) (by rw [he,List.drop_length,aeA_f])
abbrev ae0(t:Tp)(l:List BA)(xe:Ext):S:=⟨[(0,.v (.agg (tpL t))),(1,.uniq 1000009 1 (nmsC l))],[],xe⟩
theorem abA_eq(dg:Pr->List Pr):∀ (q:List Pr) (l:List BA),abA_f dg q l=l++q.flatMap (fun w=>(dg w).map prNm)
 | [],l=>by simp [abA_f]
 | x::r,l=>by rw [abA_f,abA_eq dg r]; simp
theorem apN_le(dg:Pr->List Pr):∀ (q:List Pr),(∀w,w∈q->(dg w).length<=bulkPs (prL w))->apN dg q<=bulkPss (Pr.cs q)
 | [],_=>by simp [apN]
 | x::r,h=>by
  have ih:=apN_le dg r (fun w hw=>h w (List.mem_cons_of_mem _ hw))
  have h1:=h x List.mem_cons_self
  simp only [apN,Pr.cs,bulkPss,Pr.c_eq]
  omega
theorem to_bulk(x:Tp):bulkPss (Tp.cs (tpA x))+bulkPss (Pr.cs (tpPs x))+bulkPs (prL (tpP x))<bulkPs (tpL x):=by simp only [bulkPs,bulkP]; omega
def abN(t:Tp):List BA:=(tpP t::tpPs t).flatMap fun w=>(apF w).map prNm
abbrev abI2(t:Tp)(l:List BA)(j:Int)(xe:Ext):S:=⟨[(1,.uniq 1000009 1 (nmsC l)),(2,.lp 2 0),(16,.uniq 46 4 (prL (tpP t)::Pr.cs (tpPs t))),(17,.v (.int .i64 (0+1+(tpPs t).length:Nat))),(18,.v (.int .i64 j))],[(2,tpV t)],xe⟩
theorem flatMap_len(dg:Pr->List Pr):∀q:List Pr,(q.flatMap (fun w=>(dg w).map prNm)).length=apN dg q
 | []=>rfl
 | x::r=>by simp [apN,flatMap_len dg r]
theorem abN_len(t:Tp):(abN t).length<=bulkPs (prL (tpP t))+bulkPss (Pr.cs (tpPs t)):=by
 have h:=apN_le apF (tpP t::tpPs t) (fun w _=>apF_len w)
 simp only [Pr.cs,bulkPss,Pr.c_eq] at h
 rw [abN,flatMap_len]
 omega
theorem abT(t:Tp)(l:List BA)(xe:Ext)(hs:bulkPs (tpL t)<=100000000)(hl:l.length+bulkPs (tpL t)<=1000000000):(Ob.loop 48 (loopF f83 0) (abI2 t l 0 xe) (.exit 0) ⟨[(1,.uniq 1000009 1 (nmsC (l++abN t))),(2,.lp 2 0)],[(2,tpV t)],xe⟩).ok prog:=by
 have hb:=to_bulk t
 have h1:=Pr.bulk (tpPs t)
 have h2:=apN_le apF (tpP t::tpPs t) (fun w _=>apF_len w)
 simp only [Pr.cs,bulkPss,Pr.c_eq] at h2
 have:=abA t (tpP t::tpPs t) l apF (fun w hw=>apT w (by
  rcases List.mem_cons.1 hw with rfl | hw
  ·omega
  ·have:=Pr.mem hw; omega)) xe l (by simp only [List.length_cons]; omega) (by rw [List.drop_zero]; omega)
 rw [abA_eq] at this
 have e0:abA_I t (tpP t::tpPs t) l apF xe 0 l=abI2 t l 0 xe:=by
  show S.mk _ _ _=S.mk _ _ _
  rw [Pr.cs,Pr.c_eq,List.length_cons,show (tpPs t).length+1=0+1+(tpPs t).length by omega]
 rw [e0] at this
 exact Ob.loop_post this ⟨⟨W,W,tVv⟩,⟨WLs.refl _,tVv⟩,rfl⟩
theorem aeC(t:Tp)(l:List BA)(dtz:Tp->List BA->List BA)(hwk:∀ (w:Tp) (l:List BA) (e:Ext),w∈tpA t->l.length+bulkPs (tpL w)<=1000000000->(Ob.own 83 [.agg (tpL w),.nilsl] 1 1000009 1 (nmsC l) e (.own 1000009 1 (nmsC (dtz w l))) e).ok prog)(hdg:∀ (w:Tp) (l:List BA),w∈tpA t->(dtz w l).length<=l.length+bulkPs (tpL w))(hs:bulkPs (tpL t)<=100000000)(hl:l.length+bulkPs (tpL t)<=1000000000)(hA:(tpA t).length<=1000000000)(hP:(tpPs t).length<=1000000000)(hv:(l++abN t).length+bulkPss (Tp.cs (List.drop 0 (tpA t)))<=1000000000)(xe:Ext)(cx:Cx)(hcx:cx.n=48){Q:PExit->S->Prop}(hq:Q (.ret) (S.mk [(1,jk),(4,.uniq 1000009 1 (nmsC (aeA_f dtz (tpA t) (l++abN t))))] [] xe)):PW prog cx (Option.getD (Func.body f83) Code.skip) (ae0 t l xe) Q:=
 pw mdA 48 [am (List.length ([prL (tpP t)]++(fun x=>Prod.snd x) (4,Pr.cs (tpPs t))) * (55+1)<=140737488355328) (by (simp only [List.length_append,List.length_cons,List.length_nil,Pr.cs_len]; omega)),ai (↑((fun x=>List.length (Prod.snd x)) (3+1,[prL (tpP t)]++(fun x=>Prod.snd x) (4,Pr.cs (tpPs t)))):Int) (↑(0+1+List.length (tpPs t)):Int) (by (simp only [List.length_append,List.length_cons,List.length_nil,Pr.cs_len]; done)),lp (S.mk [(1,.uniq 1000009 1 (nmsC l)),(2,.lp 2 0),(16,.uniq 46 4 (prL (tpP t)::List.append [] (Pr.cs (tpPs t)))),(17,vI6 (↑(0+1+List.length (tpPs t)):Int)),(18,vI6 0)] [(2,tpV t)] xe) (@abT t l xe hs hl) ⟨⟨W,W,(by first | exact .inl rfl | exact .inr ⟨rfl,rfl⟩ | exact .inr rfl | exact .inr trivial | exact .inl (by first | (simp only [List.nil_append,nmsC_app,nmsC_snoc,Pr.cs_snoc,Tp.cs_snoc,Ex.cs_snoc,Vr.cs_snoc,Df.cs_snoc,Pr.cs_cons2]; done) | (simp only [List.nil_append,nmsC_app,nmsC_snoc,Pr.cs_snoc,Tp.cs_snoc,Ex.cs_snoc,Vr.cs_snoc,Df.cs_snoc,Pr.cs_cons2]; rfl))),W,W,tVv⟩,⟨⟨W,W,W,W,W,W,W,W,W,tVv⟩,tVv⟩,rfl⟩,sl (Tp.cs_len (tpA t)),lq (@aeA t default dtz hwk hdg xe (l++abN t) hA hv)] [0,1,4] [] hcx hq
def apK:Nat->Tp->List BA->List BA
 | 0,_,l=>l
 | d+1,t,l=>aeA_f (apK d) (tpA t) (l++abN t)
theorem aeA_len{dtz:Tp->List BA->List BA}:∀ (ks:List Tp) (l:List BA),(∀w l,w∈ks->(dtz w l).length<=l.length+bulkPs (tpL w))->(aeA_f dtz ks l).length<=l.length+bulkPss (Tp.cs ks)
 | [],l,_=>by simp [aeA_f]
 | x::r,l,h=>by
  have ih:=aeA_len r (dtz x l) (fun w l hw=>h w l (List.mem_cons_of_mem _ hw))
  have h1:=h x l List.mem_cons_self
  have h2:bulkPss (Tp.cs (x::r))=bulkPs (tpL x)+bulkPss (Tp.cs r):=by simp only [Tp.cs,bulkPss,Tp.c_eq]
  rw [aeA_f]
  omega
theorem apK_len:∀ (d:Nat) (t:Tp) (l:List BA),(apK d t l).length<=l.length+bulkPs (tpL t)
 | 0,t,l=>by simp [apK]
 | d+1,t,l=>by
  have h1:=aeA_len (tpA t) (l++abN t) (fun w l _=>apK_len d w l)
  have h2:=to_bulk t
  have h3:=abN_len t
  rw [List.length_append] at h1
  rw [apK]
  omega
theorem ap_ok:∀ (d:Nat) (t:Tp) (l:List BA) (xe:Ext),bulkPs (tpL t)<d->d<=100000001->l.length+bulkPs (tpL t)<=1000000000->(Ob.own 83 [.agg (tpL t),.nilsl] 1 1000009 1 (nmsC l) xe (.own 1000009 1 (nmsC (apK d t l))) xe).ok prog
 | 0,_,_,_,h,_,_=>by omega
 | d+1,t,l,xe,h,hs,hl=>by
  have hk:=to_bulk t
  have h1:=Tp.bulk (tpA t)
  have h2:=Pr.bulk (tpPs t)
  have h3:=abN_len t
  exact Ob.own_frag (n:=48) (pe := .ret) (c:=(f83).body.getD .skip) (fn:=f83) kR kR kR sM kR (fun cx hcx=>aeC t l (apK d) (fun w l e hw hl=>ap_ok d w l e (by have:=Tp.mem hw; omega) oM hl) (fun w l _=>apK_len d w l) oM oM oM oM (by rw [List.drop_zero,List.length_append]; omega) xe cx hcx ⟨rfl,rfl⟩) kR
def apG(t:Tp)(l:List BA):List BA:=apK (bulkPs (tpL t)+1) t l
theorem apGT(t:Tp)(l:List BA)(xe:Ext)(hs:bulkPs (tpL t)<=100000000)(hl:l.length<=100000000):(Ob.own 83 [.agg (tpL t),.nilsl] 1 1000009 1 (nmsC l) xe (.own 1000009 1 (nmsC (apG t l))) xe).ok prog:=ap_ok _ t l xe (Nat.lt_succ_self _) oM oM
end Go.Proofs.YtaakmholhliodaaGreatDoor
