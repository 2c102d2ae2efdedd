/- Values of Go as plain data, an evaluator over them, and what the functions of the program return; part i. -/
import Derived.Test.YtgonmmckkikmaaaGreatXh
import Derived.Test.YtgonmmckkikmaaaGreatXf
import Derived.Test.YtgonmmckkikmaaaGreatXg
set_option linter.unusedSectionVars false
set_option linter.unusedSimpArgs false
set_option linter.unusedVariables false
namespace Go.Proofs.YtgonmmckkikmaaaGreat
open Go.Pv Tryz
set_option maxRecDepth 100000
theorem clone_ok(l:List BA)(hn:l.length<=1000000000):Pu 167 [.sl 1 (nmsC l)] (.own 9 1 (nmsC l)):=by
 refine ⟨by kernel_rfl,fun e=>?_⟩
 refine CallC.enter func167 rfl (show 1<=8 by decide) fun cx hcx hds=>?_
 refine PW_seq ?_
 refine PW_runK mdL 8 50 [] [0] [] (s':=⟨[(0,.v (.sl 1 (nmsC l)))],[],e⟩) (pe := .normal) (sc':=[]) (l:=[]) mixed hcx kR kR trivial ?_
 show PW _ _ _ _ _
 refine PW_seq (PW_seq ?_)
 intro g l0 a w hs
 refine wp_region_lit ?_
 have hn':∀k,k<8->k<cx.n:=fun k hk=>by rw [hcx]; exact hk
 refine (PL_moveV (p := .sl 1 (nmsC l)) rfl rfl rfl (hn' _ dD) rfl ?_:PL _ _ _ _ _ _) g l0 a w hs
 refine PL_nilcmp (z:=1) (es:=nmsC l) (el:=9) rfl rfl rfl (hn' _ dD) kR rfl fun b hb=>?_
 refine PL_nil ?_
 show PW _ _ _ _ _
 cases b with
 | true=>
  have h0:=hb rfl
  refine PW.leX (t:=⟨[(4,.v (.bool true))],[],e⟩) ⟨⟨W,tV⟩,trivial,rfl⟩ ?_
  refine PW.postLe ?_
  refine PW_runK mdL 8 50 [Ans.bit true] [2] [] (s':=⟨[(2,.v .nilsl)],[],e⟩) (pe := .ret) (sc':=[]) (l:=[.bit true true]) mixed hcx kR kR ⟨rfl,tV⟩ ?_
  refine ⟨⟨[(2,.uniq 9 1 [])],[],e⟩,⟨⟨.inr rfl,tV⟩,trivial,rfl⟩,?_⟩
  refine .inr ⟨2,9,1,[],rfl,rfl,?_⟩
  rw [h0]
  exact ⟨rfl,rfl⟩
 | false=>
  refine PW.leX (t:=⟨[(0,.v (.sl 1 (nmsC l))),(4,.v (.bool false))],[],e⟩) ⟨⟨W,W,tV⟩,trivial,rfl⟩ ?_
  refine PW_runK mdL 8 50 [Ans.bit false] [0] [] (s':=⟨[(0,.v (.sl 1 (nmsC l)))],[],e⟩) (pe := .normal) (sc':=[]) (l:=[.bit false false]) mixed hcx kR kR ⟨rfl,tV⟩ ?_
  show PW _ _ _ _ _
  refine PW_runK mdL 8 50 [] [2] [] (s':=⟨[(2,.uniq 9 1 (nmsC l))],[],e⟩) (pe := .ret) (sc':=[]) (l:=[.bit (decide ((nmsC l).length * 16<=140737488355328)) true]) mixed hcx kR kR ⟨ob_bit (dT (by rw [nmsC_len]; omega)),tV⟩ ?_
  exact .inr ⟨2,9,1,nmsC l,rfl,rfl,rfl,rfl⟩
abbrev idx_I(l:List BA)(s:BA)(j:Int)(e:Ext):S:=S.mk [(0,vL 1 (nmsC l)),(1,vS s),(6,vL 1 (nmsC l)),(7,vI6 (l.length:Int)),(8,vI6 j)] [] e
section
variable (l:List BA) (s:BA) (i:Nat) (e:Ext)
include l s i e
theorem idx_b1(hi:i<l.length)(hN:l.length<=1000000000)(hx0:s=List.getD l i nm0)(cx:Cx)(hcx:cx.n=19){Q:PExit->S->Prop}(hq:Q (.ret) (S.mk [(0,vL 1 (nmsC l)),(1,vS s),(6,vL 1 (nmsC l)),(7,vI6 (l.length:Int)),(8,vI6 (i:Int)),(4,vI6 (i:Int))] [] e)):PW prog cx (loopF f182 0) (idx_I l s (i:Int) e) Q:=
 pw mdL 19 [dt ((i:Int)<(l.length:Int)),am ((0:Int)<=(i:Int)/\(i:Int)<((nmsC l).length:Int)) qZ,xNm l i hi,bt (ByteArray.toList s==ByteArray.toList (List.getD l i nm0)) (bsT hx0)] [0,1,6,7,8,4] [] hcx hq
theorem idx_b2(hi:i<l.length)(hN:l.length<=1000000000)(hx0:¬s=List.getD l i nm0)(cx:Cx)(hcx:cx.n=19){Q:PExit->S->Prop}(hq:Q (.normal) (S.mk [(0,vL 1 (nmsC l)),(1,vS s),(6,vL 1 (nmsC l)),(7,vI6 (l.length:Int)),(8,vI6 ((i:Int)+1))] [] e)):PW prog cx (loopF f182 0) (idx_I l s (i:Int) e) Q:=
 pw mdL 19 [dt ((i:Int)<(l.length:Int)),am ((0:Int)<=(i:Int)/\(i:Int)<((nmsC l).length:Int)) qZ,xNm l i hi,bf (ByteArray.toList s==ByteArray.toList (List.getD l i nm0)) (bsF hx0),wr ((i:Int)+1)] [0,1,6,7,8,4] [] hcx hq
theorem idx_z1(hi:i=l.length)(hN:l.length<=1000000000)(cx:Cx)(hcx:cx.n=19){Q:PExit->S->Prop}(hq:Q (.exit 0) (S.mk [(0,vL 1 (nmsC l)),(1,vS s),(6,vL 1 (nmsC l)),(7,vI6 (l.length:Int)),(8,vI6 (i:Int))] [] e)):PW prog cx (loopF f182 0) (idx_I l s (i:Int) e) Q:=
 pw mdL 19 [df ((i:Int)<(l.length:Int))] [0,1,6,7,8,4] [] hcx hq
end
inductive idx_R where
 | e0 (i:Nat)
 | e1
def idx_f(s:BA):List BA->Nat->idx_R
 | [],i=>(idx_R.e1)
 | el::r,i=>(if s=el then (idx_R.e0 i) else idx_f s r (i+1))
def idx_q(l:List BA)(s:BA)(e:Ext):idx_R->PExit × S
 | .e0 i=>(.ret,S.mk [(0,vL 1 (nmsC l)),(1,vS s),(6,vL 1 (nmsC l)),(7,vI6 (l.length:Int)),(4,vI6 (i:Int))] [] e)
 | .e1=>(.exit 0,S.mk [(0,vL 1 (nmsC l)),(1,vS s),(6,vL 1 (nmsC l)),(7,vI6 (l.length:Int))] [] e)
theorem idx_lp(l:List BA)(s:BA)(e:Ext)(hN:l.length<=1000000000)(i:Nat)(hi0:i<=l.length)  : (Ob.loop 19 (loopF f182 0) (idx_I l s (i:Int)  e) (idx_q l s e (idx_f s (List.drop i (l)) i)).1 (idx_q l s e (idx_f s (List.drop i (l)) i)).2).ok prog:=by
 refine Ob.loop_of (P:=prog) (α:={ x:Nat × Unit // x.1<=l.length }) (fun x=>idx_I l s (x.1.1:Int)  e) (fun x=>l.length - x.1.1) (fun x=>(idx_q l s e (idx_f s (List.drop x.1.1 (l)) x.1.1))) ?_ ⟨(i,()),hi0⟩
 clear hi0
 clear  i
 rintro ⟨⟨i,u⟩,hi⟩ cx hcx
 simp only at hi  ⊢
 rcases Nat.lt_or_ge i (l.length) with hlt | hge
 ·have hd:=drop_at0 hlt
  by_cases h0:s=List.getD l i nm0
  ·have hr:(idx_f s (List.drop i (l)) i)=(idx_R.e0 i):=by rw [hd,idx_f,iP h0]
   refine idx_b1 l s i  e hlt hN  h0 cx hcx (.inr ?_)
   rw [hr]
   exact ⟨by simp,rfl,xr⟩
  ·have hr:(idx_f s (List.drop i (l)) i)=(idx_f s (List.drop (i+1) (l)) (i+1)):=by rw [hd,idx_f,iN h0]
   exact idx_b2 l s i  e hlt hN  h0 cx hcx (.inl ⟨rfl,⟨((i+1),()),by simp only; omega⟩,by simp only; omega,xr,by simp only; rw [hr]⟩)
 ·have he:i=l.length:=by omega
  subst he
  have hr:(idx_f s (List.drop (l.length) (l)) (l.length))=(idx_R.e1):=by rw [List.drop_length,idx_f]
  refine idx_z1 l s (l.length)  e rfl hN   cx hcx (.inr ?_)
  rw [hr]
  exact ⟨by simp,rfl,xr⟩
theorem idx_0(l:List BA)(s:BA)(e:Ext)(hN:l.length<=1000000000)(p0:Nat)(h:(idx_f s (l) 0)=(idx_R.e0 p0)):(Ob.loop 19 (loopF f182 0) (idx_I l s 0  e) (idx_q l s e (idx_R.e0 p0)).1 (idx_q l s e (idx_R.e0 p0)).2).ok prog:=by
 have:=idx_lp l s e hN 0  (Nat.zero_le _)
 rw [List.drop_zero] at this
 rw [h] at this
 exact this
theorem idx_1(l:List BA)(s:BA)(e:Ext)(hN:l.length<=1000000000)(h:(idx_f s (l) 0)=(idx_R.e1)):(Ob.loop 19 (loopF f182 0) (idx_I l s 0  e) (idx_q l s e (idx_R.e1)).1 (idx_q l s e (idx_R.e1)).2).ok prog:=by
 have:=idx_lp l s e hN 0  (Nat.zero_le _)
 rw [List.drop_zero] at this
 rw [h] at this
 exact this
abbrev bnm_I(ps:List Pm)(j:Int)(out:List BA)(e:Ext):S:=S.mk [(0,vL 10 (pmsC ps)),(2,.v .nilsl),(3,.uniq 9 1 (nmsC out)),(6,vL 10 (pmsC ps)),(7,vI6 (ps.length:Int)),(8,vI6 j)] [] e
section
variable (ps:List Pm) (i:Nat) (out:List BA) (e:Ext)
include ps i out e
theorem bnm_b1(hi:i<ps.length)(hN:ps.length<=1000000000)(hv:(out.length<=i))(cx:Cx)(hcx:cx.n=19){Q:PExit->S->Prop}(hq:Q (.normal) (S.mk [(0,vL 10 (pmsC ps)),(2,.v .nilsl),(3,.uniq 9 1 (nmsC out++[[.str (pmNm (List.getD ps i default))]])),(6,vL 10 (pmsC ps)),(7,vI6 (ps.length:Int)),(8,vI6 ((i:Int)+1))] [] e)):PW prog cx (loopF f183 0) (bnm_I ps (i:Int) out e) Q:=
 pw mdL 19 [dt ((i:Int)<(ps.length:Int)),am ((0:Int)<=(i:Int)/\(i:Int)<((pmsC ps).length:Int)) qZ,xPm ps i hi,am (List.length (nmsC out++(fun x=>Prod.snd x) (0+1,[[.str (pmNm (List.getD ps i default))]])) * (15+1)<=140737488355328) qZ,wr ((i:Int)+1)] [0,2,3,6,7,8] [] hcx hq
theorem bnm_z1(hi:i=ps.length)(hN:ps.length<=1000000000)(hv:(out.length<=i))(cx:Cx)(hcx:cx.n=19){Q:PExit->S->Prop}(hq:Q (.exit 0) (S.mk [(0,vL 10 (pmsC ps)),(2,.v .nilsl),(3,.uniq 9 1 (nmsC out)),(6,vL 10 (pmsC ps)),(7,vI6 (ps.length:Int)),(8,vI6 (i:Int))] [] e)):PW prog cx (loopF f183 0) (bnm_I ps (i:Int) out e) Q:=
 pw mdL 19 [df ((i:Int)<(ps.length:Int))] [0,2,3,6,7,8] [] hcx hq
end
def bnm_f  : List Pm->(List BA)->(List BA)
 | [],out=>(out)
 | el::r,out=>bnm_f  r (out++[pmNm el])
def bnm_q(ps:List Pm)(e:Ext)(p:(List BA)):PExit × S:=(.exit 0,S.mk [(0,vL 10 (pmsC ps)),(2,.v .nilsl),(3,.uniq 9 1 (nmsC p)),(6,vL 10 (pmsC ps)),(7,vI6 (ps.length:Int))] [] e)
theorem bnm_lp(ps:List Pm)(e:Ext)(hN:ps.length<=1000000000)(i:Nat)(out:List BA)(hi0:i<=ps.length)(hv:(out.length<=i)):(Ob.loop 19 (loopF f183 0) (bnm_I ps (i:Int) out e) (bnm_q ps e (bnm_f  (List.drop i (ps))  out)).1 (bnm_q ps e (bnm_f  (List.drop i (ps))  out)).2).ok prog:=by
 refine Ob.loop_of (P:=prog) (α:={ x:Nat × (List BA) // x.1<=ps.length/\(fun (i:Nat) (out:List BA)=>(out.length<=i)) x.1 x.2 }) (fun x=>bnm_I ps (x.1.1:Int) x.1.2 e) (fun x=>ps.length - x.1.1) (fun x=>(bnm_q ps e (bnm_f  (List.drop x.1.1 (ps))  x.1.2))) ?_ ⟨(i,out),hi0,hv⟩
 clear hi0 hv
 clear out i
 rintro ⟨⟨i,out⟩,hi,hv⟩ cx hcx
 simp only at hi hv ⊢
 rcases Nat.lt_or_ge i (ps.length) with hlt | hge
 ·have hd:=drop_at hlt
  have hr:(bnm_f  (List.drop i (ps))  out)=(bnm_f  (List.drop (i+1) (ps))  (out++[pmNm (List.getD ps i default)])):=by rw [hd,bnm_f]
  exact bnm_b1 ps i out e hlt hN hv  cx hcx (.inl ⟨rfl,⟨((i+1),(out++[pmNm (List.getD ps i default)])),by simp only; omega,(by first | assumption | omega | (simp only [List.length_append,List.length_cons,List.length_nil] at *; omega) | simp_all)⟩,by simp only; omega,⟨⟨W,W,(.inl (by simp only [nmsC_snoc,Ex.cs_snoc,Vl.cs_snoc,Bd.cs_snoc,Bd.cs_snoc2])),W,W,W,tV⟩,trivial,rfl⟩,by simp only; rw [hr]⟩)
 ·have he:i=ps.length:=by omega
  subst he
  have hr:(bnm_f  (List.drop (ps.length) (ps))  out)=(out):=by rw [List.drop_length,bnm_f]
  refine bnm_z1 ps (ps.length) out e rfl hN hv  cx hcx (.inr ?_)
  rw [hr]
  exact ⟨by simp,rfl,xr⟩
theorem bnm(ps:List Pm)(out:List BA)(e:Ext)(hN:ps.length<=1000000000)(hv:List.length out<=0):(Ob.loop 19 (loopF f183 0) (bnm_I ps 0 out e) (bnm_q ps e (bnm_f  (ps)  out)).1 (bnm_q ps e (bnm_f  (ps)  out)).2).ok prog:=by
 have:=bnm_lp ps e hN 0 out (Nat.zero_le _) hv
 rw [List.drop_zero] at this
 exact this
theorem sBound(ps:List Pm)(hn:ps.length<=1000000000):Pu 183 [.sl 10 (pmsC ps)] (.ret (.sl 1 (nmsC (bnm_f ps [])))):=
 pu mdL (fun e=>[sl (pmsC_len ps),lp (S.mk [(0,vL 10 (pmsC ps)),(2,.v .nilsl),(3,.v .nilsl),(6,vL 10 (pmsC ps)),(7,vI6 (ps.length:Int)),(8,vI6 0)] [] e) (@bnm (ps) ([]) (e) hn qZ) ⟨⟨W,W,Wq,W,W,W,tV⟩,trivial,rfl⟩]) func183
def plc(s:BA)(l:List BA):Int:=match idx_f s l 0 with
 | .e0 i=>i
 | .e1=>-1
theorem sIndexT(l:List BA)(s:BA)(hn:l.length<=1000000000):Pu 182 [.sl 1 (nmsC l),.str s] (.ret (.int .i64 (plc s l))):=by
 unfold plc
 cases h:idx_f s l 0 with
 | e0 i=>exact pu mdL (fun e=>[sl (nmsC_len l),lp (S.mk [(0,vL 1 (nmsC l)),(1,vS s),(4,vI6 0),(6,vL 1 (nmsC l)),(7,vI6 (l.length:Int)),(8,vI6 0)] [] e) (@idx_0 (l) (s) (e) hn i h) xr]) func182
 | e1=>exact pu mdL (fun e=>[sl (nmsC_len l),lp (S.mk [(0,vL 1 (nmsC l)),(1,vS s),(4,vI6 0),(6,vL 1 (nmsC l)),(7,vI6 (l.length:Int)),(8,vI6 0)] [] e) (@idx_1 (l) (s) (e) hn h) xr]) func182
theorem sFind(l:List BA)(s:BA)(hn:l.length<=1000000000):Pu 166 [.sl 1 (nmsC l),.str s] (rI (plc s l)):=
 pm mdL [cl (@sIndexT (l) (s) hn)] func166
theorem bnm_eq:∀ (ps:List Pm) (out:List BA),bnm_f ps out=out++ps.map pmNm
 | [],out=>by simp [bnm_f]
 | p::r,out=>by simp [bnm_f,bnm_eq r]
theorem sBoundT(ps:List Pm)(hn:ps.length<=1000000000):Pu 183 [.sl 10 (pmsC ps)] (.ret (.sl 1 (nmsC (ps.map pmNm)))):=by
 have:=sBound ps hn
 rw [bnm_eq] at this
 exact this
theorem sVar_1(x:Ex)(hx0:exO x=3):Pu 165 [.agg (exL x)] (rB true):=
 pm mdL [rp 4 (et1 hx0)] func165
theorem sVar_2(x:Ex)(hx0:¬exO x=3):Pu 165 [.agg (exL x)] (rB (exO x==5)):=
 pm mdL [rp 4 (en1 hx0)] func165
theorem sIns_1(x:Ex)(k:Int)(hn:(exP x).length<=1000000000)(hx0:exO x=7)(hx1:k>0):Pu 168 [.agg (exL x),pI k] (.ret (.sl 1 [[.str (exNm x)]])):=
 pm mdL [rp 3 (et1 hx0),dt1 hx1] func168
theorem sIns_2(x:Ex)(k:Int)(hn:(exP x).length<=1000000000)(hx0:exO x=7)(hx1:¬k>0):Pu 168 [.agg (exL x),pI k] (.ret (.sl 1 [])):=
 Ob.pur_wk (Wk.n 1) (pm mdL [rp 3 (et1 hx0),df1 hx1,en (exO x) 6] func168)
theorem sIns_3(x:Ex)(k:Int)(hn:(exP x).length<=1000000000)(hx0:¬exO x=7)(hx1:exO x=6):Pu 168 [.agg (exL x),pI k] (.ret (.sl 1 (nmsC (List.map pmNm (exP x))))):=
 pm mdL [rp 3 (en1 hx0),bf false,et1 hx1,cl (@sBoundT (exP x) hn)] func168
theorem sIns_4(x:Ex)(k:Int)(hn:(exP x).length<=1000000000)(hx0:¬exO x=7)(hx1:¬exO x=6):Pu 168 [.agg (exL x),pI k] (.ret (.sl 1 [])):=
 Ob.pur_wk (Wk.n 1) (pm mdL [rp 3 (en1 hx0),bf false,en1 hx1] func168)
def insN(x:Ex)(k:Int):List BA:=if exO x=7 then (if k>0 then [exNm x] else []) else if exO x=6 then (exP x).map pmNm else []
theorem sInsT(x:Ex)(k:Int)(hn:(exP x).length<=1000000000):Pu 168 [.agg (exL x),.int .i64 k] (.ret (.sl 1 (nmsC (insN x k)))):=by
 unfold insN
 by_cases h:exO x=7
 ·rw [iP h]
  by_cases h2:k>0
  ·rw [iP h2]; exact sIns_1 x k hn h h2
  ·rw [iN h2]; exact sIns_2 x k hn h h2
 ·rw [iN h]
  by_cases h2:exO x=6
  ·rw [iP h2]; exact sIns_3 x k hn h h2
  ·rw [iN h2]; exact sIns_4 x k hn h h2
def isV(x:Ex):Bool:=decide (exO x=3)||exO x==5
theorem sVarT(x:Ex):Pu 165 [.agg (exL x)] (.ret (.bool (isV x))):=by
 unfold isV
 by_cases h:exO x=3
 ·rw [show (decide (exO x=3)||exO x==5)=true by simp [h]]; exact sVar_1 x h
 ·rw [show (decide (exO x=3)||exO x==5)=(exO x==5) by simp [h]]; exact sVar_2 x h
abbrev OX(es:List (BA × PV)):Ext:=[(0,[.mm es]),(1,[.v (.mp 0)]),(2,[.v (.xp 1 0)])]
abbrev fnO:PV := .fn (.func 154) [] [.xp 2 0]
def addN(es:List (BA × PV))(n:BA):List (BA × PV):=mupd n (.bool true) es
def addL(es:List (BA × PV))(l:List BA):List (BA × PV):=l.foldl addN es
theorem sAdd1(s:BA)(es:List (BA × PV))(hs:s.size<=1000000000):Ef 155 [.xp 1 0,.sl 1 [[.str s]]] (OX es) (.ret (.tup [])) (OX (mupd s (.bool true) es)):=
 ef mdL [kp,ur,bt true,rp 2 (kp),ab true,bf false] func155
theorem sVis(x:Ex)(es:List (BA × PV))(hs:(exNm x).size<=1000000000):Ef 154 [.agg (exL x),.xp 2 0] (OX es) (.ret (.tup [])) (OX (mupd (exNm x) (.bool true) es)):=
 ef mdL [ce (@sAdd1 (exNm x) (es) hs)] func154
abbrev ocI(x:Ex)(h:List BA)(i:Int)(ext:Ext):S:=⟨[(1,.v (.sl 1 (nmsC h))),(2,.v fnO),(3,.lp 3 0),(23,.v (.sl 7 (Ex.cs (exK x)))),(24,.v (.int .i64 (exK x).length)),(25,.v (.int .i64 i))],[(3,exV x)],ext⟩
abbrev ocJ(x:Ex)(h:List BA)(i:Int)(ext:Ext):S:=⟨[(1,.v (.sl 1 (nmsC h))),(2,.v fnO),(41,.v (.sl 9 (Al.cs (exA x)))),(42,.v (.int .i64 (exA x).length)),(43,.v (.int .i64 i))],[],ext⟩
section
variable (x:Ex) (h:List BA)
include x h
theorem ocA(es es2:List (BA × PV))(i:Nat)(hi:i<(exK x).length)(hn:(exK x).length<=1000000000)(hp:(exP x).length<=1000000000)(hh:h.length<=1000000000)(hb:h.length+(insN x i).length<=1000000000)(hr:Ef 153 [.agg (exL ((exK x).getD i default)),.sl 1 (nmsC h++nmsC (insN x i)),fnO] (OX es) (.ret (.tup [])) (OX es2))(cx:Cx)(hcx:cx.n=57){Q:PExit->S->Prop}(hq:Q (.normal) (S.mk [(1,vL 1 (nmsC h)),(2,.v fnO),(3,.lp 3 0),(23,vL 7 (Ex.cs (exK x))),(24,vI6 ((exK x).length:Int)),(25,vI6 ((i:Int)+1))] [(3,exV x)] (OX es2))):PW prog cx (loopF f153 0) (ocI x h (i:Int) (OX es)) Q:=
 pw mdL 57 [dt ((i:Int)<((exK x).length:Int)),am ((0:Int)<=(i:Int)/\(i:Int)<((Ex.cs (exK x)).length:Int)) qZ,xEx (exK x) i hi,cl (@clone_ok (h) hh),cl (@sInsT (x) ((i:Int)) hp),am (List.length (nmsC h++(fun x=>Prod.snd x) (1,nmsC (insN x (i:Int)))) * (15+1)<=140737488355328) qZ,ce hr,wr ((i:Int)+1)] [1,2,3,23,24,25] [3] hcx hq
theorem ocZ(ext:Ext)(cx:Cx)(hcx:cx.n=57){Q:PExit->S->Prop}(hq:Q (.exit 0) (S.mk [(1,vL 1 (nmsC h)),(2,.v fnO),(3,.lp 3 0),(23,vL 7 (Ex.cs (exK x))),(24,vI6 ((exK x).length:Int)),(25,vI6 ((exK x).length:Int))] [(3,exV x)] ext)):PW prog cx (loopF f153 0) (ocI x h ((exK x).length:Int) ext) Q:=
 pw mdL 57 [df (((exK x).length:Int)<((exK x).length:Int))] [1,2,3,23,24,25] [3] hcx hq
theorem ocB(es es2:List (BA × PV))(i:Nat)(hi:i<(exA x).length)(hn:(exA x).length<=1000000000)(hh:h.length<=1000000000)(hb:h.length+(alNs ((exA x).getD i default)).length<=1000000000)(hr:Ef 153 [.agg (exL (alB ((exA x).getD i default))),.sl 1 (nmsC h++nmsC (alNs ((exA x).getD i default))),fnO] (OX es) (.ret (.tup [])) (OX es2))(cx:Cx)(hcx:cx.n=57){Q:PExit->S->Prop}(hq:Q (.normal) (S.mk [(1,vL 1 (nmsC h)),(2,.v fnO),(41,vL 9 (Al.cs (exA x))),(42,vI6 ((exA x).length:Int)),(43,vI6 ((i:Int)+1))] [] (OX es2))):PW prog cx (loopF f153 1) (ocJ x h (i:Int) (OX es)) Q:=
 pw mdL 57 [dt ((i:Int)<((exA x).length:Int)),am ((0:Int)<=(i:Int)/\(i:Int)<((Al.cs (exA x)).length:Int)) qZ,xAl (exA x) i hi,cl (@clone_ok (h) hh),am (List.length (nmsC h++(fun x=>Prod.snd x) (1,nmsC (alNs (List.getD (exA x) i default)))) * (15+1)<=140737488355328) qZ,ce hr,wr ((i:Int)+1)] [1,2,41,42,43] [] hcx hq
theorem ocY(ext:Ext)(cx:Cx)(hcx:cx.n=57){Q:PExit->S->Prop}(hq:Q (.exit 2) (S.mk [(1,vL 1 (nmsC h)),(2,.v fnO),(41,vL 9 (Al.cs (exA x))),(42,vI6 ((exA x).length:Int)),(43,vI6 ((exA x).length:Int))] [] ext)):PW prog cx (loopF f153 1) (ocJ x h ((exA x).length:Int) ext) Q:=
 pw mdL 57 [df (((exA x).length:Int)<((exA x).length:Int))] [1,2,41,42,43] [] hcx hq
end
abbrev ocL0(x:Ex)(h:List BA)(es es1:List (BA × PV)):Prop:=(Ob.loop 57 (loopF f153 0) (ocI x h 0 (OX es)) (.exit 0) ⟨[(1,.v (.sl 1 (nmsC h))),(2,.v fnO),(3,.lp 3 0)],[(3,exV x)],OX es1⟩).ok prog
abbrev ocL1(x:Ex)(h:List BA)(es es1:List (BA × PV)):Prop:=(Ob.loop 57 (loopF f153 1) (ocJ x h 0 (OX es)) (.exit 2) ⟨[],[],OX es1⟩).ok prog
section
variable (x:Ex) (h:List BA) (es es1 es2:List (BA × PV)) (hh:h.length<=1000000000)
include x h es es1 es2 hh
theorem occV(hs:(exNm x).size<=1000000000)(hv:isV x=true)(hp:plc (exNm x) h<0)(l0:ocL0 x h (mupd (exNm x) (.bool true) es) es1)(l1:ocL1 x h es1 es2):Ef 153 [.agg (exL x),.sl 1 (nmsC h),fnO] (OX es) (.ret (.tup [])) (OX es2):=
 ef mdL [cl (@sVarT (x)),rp 4 (bt (isV x) hv),cl (@sFind (h) (exNm x) hh),rp 2 (bt (isV x) hv),dt (plc (exNm x) h<0) hp,ce (@sVis (x) (es) hs),sl (Ex.cs_len (exK x)),lp (S.mk [(0,.v (.agg (exL x))),(1,vL 1 (nmsC h)),(2,.v fnO),(3,.lp 3 0),(10,.v (.agg (exL x))),(11,.v (.bool (isV x))),(12,.v (.bool (isV x))),(13,vL 1 (nmsC h)),(14,.lp 3 1),(15,vS (exNm x)),(16,vI6 (plc (exNm x) h)),(17,.v (.bool (decide (plc (exNm x) h<0)))),(18,.v (.bool (decide (plc (exNm x) h<0)))),(19,.v fnO),(20,.v (.agg (exL x))),(21,.v (.tup [])),(22,.lp 3 3),(23,vL 7 (Ex.cs (exK x))),(24,vI6 ((exK x).length:Int)),(25,vI6 0)] [(3,exV x)] (OX (mupd (exNm x) (.bool true) es))) l0 xr,sl (Al.cs_len (exA x)),lp (S.mk [(1,vL 1 (nmsC h)),(2,.v fnO),(3,.lp 3 0),(40,.lp 3 5),(41,vL 9 (Al.cs (exA x))),(42,vI6 ((exA x).length:Int)),(43,vI6 0)] [(3,exV x)] (OX es1)) l1 xr] func153
theorem occW(hv:isV x=true)(hp:¬plc (exNm x) h<0)(l0:ocL0 x h es es1)(l1:ocL1 x h es1 es2):Ef 153 [.agg (exL x),.sl 1 (nmsC h),fnO] (OX es) (.ret (.tup [])) (OX es2):=
 ef mdL [cl (@sVarT (x)),rp 4 (bt (isV x) hv),cl (@sFind (h) (exNm x) hh),rp 2 (bt (isV x) hv),df (plc (exNm x) h<0) hp,sl (Ex.cs_len (exK x)),lp (S.mk [(0,.v (.agg (exL x))),(1,vL 1 (nmsC h)),(2,.v fnO),(3,.lp 3 0),(10,.v (.agg (exL x))),(11,.v (.bool (isV x))),(12,.v (.bool (isV x))),(13,vL 1 (nmsC h)),(14,.lp 3 1),(15,vS (exNm x)),(16,vI6 (plc (exNm x) h)),(17,.v (.bool (decide (plc (exNm x) h<0)))),(18,.v (.bool (decide (plc (exNm x) h<0)))),(22,.lp 3 3),(23,vL 7 (Ex.cs (exK x))),(24,vI6 ((exK x).length:Int)),(25,vI6 0)] [(3,exV x)] (OX es)) l0 xr,sl (Al.cs_len (exA x)),lp (S.mk [(1,vL 1 (nmsC h)),(2,.v fnO),(3,.lp 3 0),(40,.lp 3 5),(41,vL 9 (Al.cs (exA x))),(42,vI6 ((exA x).length:Int)),(43,vI6 0)] [(3,exV x)] (OX es1)) l1 xr] func153
theorem occX(hv:isV x=false)(l0:ocL0 x h es es1)(l1:ocL1 x h es1 es2):Ef 153 [.agg (exL x),.sl 1 (nmsC h),fnO] (OX es) (.ret (.tup [])) (OX es2):=
 ef mdL [cl (@sVarT (x)),rp 6 (bf (isV x) hv),bf false,sl (Ex.cs_len (exK x)),lp (S.mk [(0,.v (.agg (exL x))),(1,vL 1 (nmsC h)),(2,.v fnO),(3,.lp 3 0),(10,.v (.agg (exL x))),(11,.v (.bool (isV x))),(12,.v (.bool (isV x))),(13,.v (.tup [])),(14,.v (.tup [])),(15,.v (.tup [])),(16,.v (.tup [])),(17,.v (.tup [])),(18,.v (.bool false)),(22,.lp 3 3),(23,vL 7 (Ex.cs (exK x))),(24,vI6 ((exK x).length:Int)),(25,vI6 0)] [(3,exV x)] (OX es)) l0 xr,sl (Al.cs_len (exA x)),lp (S.mk [(1,vL 1 (nmsC h)),(2,.v fnO),(3,.lp 3 0),(40,.lp 3 5),(41,vL 9 (Al.cs (exA x))),(42,vI6 ((exA x).length:Int)),(43,vI6 0)] [(3,exV x)] (OX es1)) l1 xr] func153
end
theorem bulkP_pos:∀p:PV,1<=bulkP p:=fun p=>by cases p <;> simp [bulkP]
theorem mem_bulk:∀ {l:List (List PV)} {c:List PV},c∈l->bulkPs c<=bulkPss l
 | x::r,c,h=>by
  simp only [bulkPss]
  rcases List.mem_cons.1 h with rfl | h
  ·omega
  ·have:=mem_bulk h; omega
theorem len_bulk:∀ {l:List (List PV)},(∀c∈l,1<=bulkPs c)->l.length<=bulkPss l
 | [],_=>by simp
 | x::r,h=>by
  have h1:=h x List.mem_cons_self
  have h2:=len_bulk fun c hc=>h c (List.mem_cons_of_mem _ hc)
  simp only [bulkPss,List.length_cons]
  omega
def szE(x:Ex):Nat:=bulkPs (exL x)
def szV(v:Vl):Nat:=bulkPs (vlL v)
theorem szE_eq(x:Ex):szE x=(exNm x).size+bulkPss (Ex.cs (exK x))+bulkPss (pmsC (exP x))+bulkPss (Al.cs (exA x))+bulkPss (Tp.cs (exT x))+7:=by
 simp only [szE,bulkPs,bulkP]; omega
theorem kids_bulk(l:List Ex):l.length<=bulkPss (Ex.cs l):=by
 have:=len_bulk (l:=Ex.cs l) fun c hc=>by
  rw [Ex.cs_eq] at hc
  obtain ⟨x,-,rfl⟩:=List.mem_map.1 hc
  have:=szE_eq x
  unfold szE at this
  omega
 rw [Ex.cs_len] at this
 exact this
theorem pms_bulk(l:List Pm):l.length<=bulkPss (pmsC l):=by
 have:=len_bulk (l:=pmsC l) fun c hc=>by
  rw [pmsC_eq] at hc
  obtain ⟨x,-,rfl⟩:=List.mem_map.1 hc
  have:=bulkP_pos (.str (pmNm x))
  simp only [bulkPs]
  omega
 rw [pmsC_len] at this
 exact this
theorem nms_bulk(l:List BA):l.length<=bulkPss (nmsC l):=by
 have:=len_bulk (l:=nmsC l) fun c hc=>by
  rw [nmsC_eq] at hc
  obtain ⟨x,-,rfl⟩:=List.mem_map.1 hc
  simp [bulkPs,bulkP]
 rw [nmsC_len] at this
 exact this
theorem alts_bulk(l:List Al):l.length<=bulkPss (Al.cs l):=by
 have:=len_bulk (l:=Al.cs l) fun c hc=>by
  rw [Al.cs_eq] at hc
  obtain ⟨x,-,rfl⟩:=List.mem_map.1 hc
  have:=bulkP_pos (.str (alC x))
  simp only [bulkPs]
  omega
 rw [Al.cs_len] at this
 exact this
theorem kid_bulk{x k:Ex}(h:k∈exK x):szE k<=bulkPss (Ex.cs (exK x)):=mem_bulk (by rw [Ex.cs_eq]; exact List.mem_map_of_mem h)
theorem alt_bulk{x:Ex}{a:Al}(h:a∈exA x):(alNs a).length+szE (alB a)+2<=bulkPss (Al.cs (exA x)):=by
 have h1:bulkPs (alL a)<=bulkPss (Al.cs (exA x)):=mem_bulk (by rw [Al.cs_eq]; exact List.mem_map_of_mem h)
 have h2:bulkPs (alL a)=(alC a).size+1+(bulkPss (nmsC (alNs a))+1+szE (alB a)):=by simp only [szE,bulkPs,bulkP]
 have:=nms_bulk (alNs a)
 omega
theorem insN_bulk{x k:Ex}(h:k∈exK x)(i:Int):(insN x i).length+szE k+1<=szE x:=by
 have h1:=szE_eq x
 have h2:=kid_bulk h
 have h3:=pms_bulk (exP x)
 unfold insN
 split
 ·split <;> simp <;> omega
 ·split
  ·simp; omega
  ·simp; omega
theorem kid_mem{x:Ex}{i:Nat}(h:i<(exK x).length):(exK x).getD i default∈exK x:=by simp [List.getD,h]
theorem alt_mem{x:Ex}{i:Nat}(h:i<(exA x).length):(exA x).getD i default∈exA x:=by simp [List.getD,h]
def insF(op:Int)(name:BA)(params:List Pm)(k:Int):List BA:=if op=7 then (if k>0 then [name] else []) else if op=6 then params.map pmNm else []
mutual
def occN:Ex->List BA->List BA
 | .mk op name _ kids params alts _,h=>(if (decide (op=3)||op==5)=true/\plc name h<0 then [name] else [])++(occK op name params kids 0 h++occA alts h)
def occK(op:Int)(name:BA)(params:List Pm):List Ex->Nat->List BA->List BA
 | [],_,_=>[]
 | k::r,i,h=>occN k (h++insF op name params i)++occK op name params r (i+1) h
def occA:List Al->List BA->List BA
 | [],_=>[]
 | .mk _ ns b::r,h=>occN b (h++ns)++occA r h
end
abbrev occX'(x:Ex):List Ex->Nat->List BA->List BA:=occK (exO x) (exNm x) (exP x)
theorem occN_eq(x:Ex)(h:List BA):occN x h=(if isV x=true/\plc (exNm x) h<0 then [exNm x] else [])++(occX' x (exK x) 0 h++occA (exA x) h):=by cases x; rfl
theorem occK_cons(x k:Ex)(r:List Ex)(i:Nat)(h:List BA):occX' x (k::r) i h=occN k (h++insN x i)++occX' x r (i+1) h:=by
 unfold occX'
 rw [occK]
 rfl
theorem occA_cons(a:Al)(r:List Al)(h:List BA):occA (a::r) h=occN (alB a) (h++alNs a)++occA r h:=by cases a; rfl
theorem addL_app(es:List (BA × PV))(a b:List BA):addL es (a++b)=addL (addL es a) b:=by simp [addL]
abbrev occOk(x:Ex)(h:List BA)(es es2:List (BA × PV)):Prop:=Ef 153 [.agg (exL x),.sl 1 (nmsC h),fnO] (OX es) (.ret (.tup [])) (OX es2)
theorem oc_loop0(x:Ex)(h:List BA)(hn:(exK x).length<=1000000000)(hp:(exP x).length<=1000000000)(hb:∀i:Nat,i<(exK x).length->h.length+(insN x i).length<=1000000000)(hh:h.length<=1000000000)
  (hr:∀i,i<(exK x).length->∀es,occOk ((exK x).getD i default) (h++insN x i) es (addL es (occN ((exK x).getD i default) (h++insN x i)))) (es:List (BA × PV)):ocL0 x h es (addL es (occX' x (exK x) 0 h)):=by
 have:=Ob.loop_of (P:=prog) (n:=57) (c:=loopF f153 0) (α:={ p:Nat × List (BA × PV) // p.1<=(exK x).length/\addL p.2 (occX' x ((exK x).drop p.1) p.1 h)=addL es (occX' x (exK x) 0 h) })
  (fun p=>ocI x h p.1.1 (OX p.1.2)) (fun p=>(exK x).length - p.1.1) (fun _=>(.exit 0,⟨[(1,.v (.sl 1 (nmsC h))),(2,.v fnO),(3,.lp 3 0)],[(3,exV x)],OX (addL es (occX' x (exK x) 0 h))⟩)) ?_ ⟨(0,es),by simp,by simp⟩
 ·exact this
 ·rintro ⟨⟨i,es1⟩,hi,he⟩ cx hcx
  simp only at hi he ⊢
  rcases Nat.lt_or_ge i (exK x).length with hlt | hge
  ·rw [drop_at hlt,occK_cons,addL_app] at he
   have h1:=hr i hlt es1
   unfold occOk at h1
   rw [nmsC_app] at h1
   exact ocA x h es1 _ i hlt hn hp hh (hb i hlt) h1 cx hcx (.inl ⟨rfl,⟨(i+1,_),hlt,he⟩,by simp only; omega,⟨⟨W,W,W,W,W,W,tV⟩,⟨WLs.refl _,tV⟩,rfl⟩,tV⟩)
  ·have hx:i=(exK x).length:=by omega
   subst hx
   rw [List.drop_length] at he
   have he':es1=addL es (occX' x (exK x) 0 h):=he
   rw [<-he']
   exact ocZ x h _ cx hcx (.inr ⟨by simp,rfl,⟨W,W,W,tV⟩,⟨WLs.refl _,tV⟩,rfl⟩)
theorem oc_loop1(x:Ex)(h:List BA)(hn:(exA x).length<=1000000000)(hb:∀i,i<(exA x).length->h.length+(alNs ((exA x).getD i default)).length<=1000000000)(hh:h.length<=1000000000)
  (hr:∀i,i<(exA x).length->∀es,occOk (alB ((exA x).getD i default)) (h++alNs ((exA x).getD i default)) es (addL es (occN (alB ((exA x).getD i default)) (h++alNs ((exA x).getD i default))))) (es:List (BA × PV)):ocL1 x h es (addL es (occA (exA x) h)):=by
 have:=Ob.loop_of (P:=prog) (n:=57) (c:=loopF f153 1) (α:={ p:Nat × List (BA × PV) // p.1<=(exA x).length/\addL p.2 (occA ((exA x).drop p.1) h)=addL es (occA (exA x) h) })
  (fun p=>ocJ x h p.1.1 (OX p.1.2)) (fun p=>(exA x).length - p.1.1) (fun _=>(.exit 2,⟨[],[],OX (addL es (occA (exA x) h))⟩)) ?_ ⟨(0,es),by simp,by simp⟩
 ·exact this
 ·rintro ⟨⟨i,es1⟩,hi,he⟩ cx hcx
  simp only at hi he ⊢
  rcases Nat.lt_or_ge i (exA x).length with hlt | hge
  ·rw [drop_at hlt,occA_cons,addL_app] at he
   have h1:=hr i hlt es1
   unfold occOk at h1
   rw [nmsC_app] at h1
   exact ocB x h es1 _ i hlt hn hh (hb i hlt) h1 cx hcx (.inl ⟨rfl,⟨(i+1,_),hlt,he⟩,by simp only; omega,⟨⟨W,W,W,W,W,tV⟩,trivial,rfl⟩,tV⟩)
  ·have hx:i=(exA x).length:=by omega
   subst hx
   rw [List.drop_length] at he
   have he':es1=addL es (occA (exA x) h):=he
   rw [<-he']
   exact ocY x h _ cx hcx (.inr ⟨by simp,rfl,trivial,trivial,rfl⟩)
theorem occ_ok:∀ (n:Nat) (x:Ex),SizeOf.sizeOf x<n->∀h:List BA,h.length+szE x<=100000000->∀es,occOk x h es (addL es (occN x h))
 | 0,x,hn,_,_,_=>by omega
 | n+1,x,hn,h,hb,es=>by
  have hsz:=szE_eq x
  have hk:=kids_bulk (exK x)
  have hp:=pms_bulk (exP x)
  have ha:=alts_bulk (exA x)
  have L0:=oc_loop0 x h oM oM (fun i hi=>by have:=insN_bulk (kid_mem hi) i; omega) oM fun i hi es=>occ_ok n _ (by have:=kid_lt hi; unfold kid at this; omega) _ (by have:=insN_bulk (kid_mem hi) i; rw [List.length_append]; omega) es
  have L1:=oc_loop1 x h oM (fun i hi=>by have:=alt_bulk (alt_mem hi); omega) oM fun i hi es=>occ_ok n _ (by have:=alt_lt (alt_mem hi); omega) _ (by have:=alt_bulk (alt_mem hi); rw [List.length_append]; omega) es
  rw [occN_eq]
  by_cases hv:isV x=true
  ·by_cases hq:plc (exNm x) h<0
   ·rw [iP ⟨hv,hq⟩,addL_app,addL_app]
    exact occV x h es _ _ oM oM hv hq (L0 _) (L1 _)
   ·rw [iN (fun hc=>hq hc.2),List.nil_append,addL_app]
    exact occW x h es _ _ oM hv hq (L0 _) (L1 _)
  ·rw [iN (fun hc=>hv hc.1),List.nil_append,addL_app]
   exact occX x h es _ _ oM (by simpa using hv) (L0 _) (L1 _)
end Go.Proofs.YtgonmmckkikmaaaGreat
