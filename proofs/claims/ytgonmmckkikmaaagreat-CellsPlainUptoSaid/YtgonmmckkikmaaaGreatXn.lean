/- Values of Go as plain data, an evaluator over them, and what the functions of the program return; part n. -/
import Derived.Test.YtgonmmckkikmaaaGreatXm
import Derived.Test.YtgonmmckkikmaaaGreatXl
set_option linter.unusedSectionVars false
set_option linter.unusedSimpArgs false
set_option linter.unusedVariables false
namespace Go.Proofs.YtgonmmckkikmaaaGreat
open Go.Pv Tryz
set_option maxRecDepth 100000
abbrev lfA_I(v:Vl)(lf:Vl->Int->Int)(n0:Int)(j:Int)(m:Int)(e:Ext):S:=S.mk [(1,vI6 m),(2,.lp 2 0),(4,vI6 0),(5,vI6 j)] [(2,vlV v)] e
section
variable (v:Vl) (lf:Vl->Int->Int) (hwk:∀ (w:Vl) (m:Int),w∈vlK v->Pu 102 [.agg (vlL w),.int .i64 m] (.ret (.int .i64 (lf w m)))) (n0:Int) (i:Nat) (m:Int) (e:Ext)
include v lf hwk n0 i m e
theorem lfA_b1(hi:i<(vlK v).length)(hN:(vlK v).length<=1000000000)(hx0:m>=0)(cx:Cx)(hcx:cx.n=47){Q:PExit->S->Prop}(hq:Q (.normal) (S.mk [(1,vI6 (lf (List.getD (vlK v) i default) m)),(2,.lp 2 0),(4,vI6 0),(5,vI6 ((i:Int)+1))] [(2,vlV v)] e)):PW prog cx (loopF f102 0) (lfA_I v lf n0 (i:Int) m e) Q:=
 pw mdL 47 [sl (Vl.cs_len (vlK v)),rp 3 (dt ((i:Int)<((vlK v).length:Int))),dt1 hx0,am ((0:Int)<=(i:Int)/\(i:Int)<((Vl.cs (vlK v)).length:Int)) qZ,xVl (vlK v) i hi,cl (@hwk (List.getD (vlK v) i default) (m) sA),wr ((i:Int)+1)] [1,2,4,5] [2] hcx hq
theorem lfA_b2(hi:i<(vlK v).length)(hN:(vlK v).length<=1000000000)(hx0:¬m>=0)(cx:Cx)(hcx:cx.n=47){Q:PExit->S->Prop}(hq:Q (.exit 0) (S.mk [(1,vI6 m),(2,.lp 2 0),(4,vI6 0),(5,vI6 (i:Int))] [(2,vlV v)] e)):PW prog cx (loopF f102 0) (lfA_I v lf n0 (i:Int) m e) Q:=
 pw mdL 47 [sl (Vl.cs_len (vlK v)),rp 3 (dt ((i:Int)<((vlK v).length:Int))),df1 hx0] [1,2,4,5] [2] hcx hq
theorem lfA_z1(hi:i=(vlK v).length)(hN:(vlK v).length<=1000000000)(cx:Cx)(hcx:cx.n=47){Q:PExit->S->Prop}(hq:Q (.exit 0) (S.mk [(1,vI6 m),(2,.lp 2 0),(4,vI6 0),(5,vI6 (i:Int))] [(2,vlV v)] e)):PW prog cx (loopF f102 0) (lfA_I v lf n0 (i:Int) m e) Q:=
 pw mdL 47 [sl (Vl.cs_len (vlK v)),rp 3 (df ((i:Int)<((vlK v).length:Int))),bf false] [1,2,4,5] [2] hcx hq
end
def lfA_f(lf:Vl->Int->Int):List Vl->(Int)->(Int)
 | [],m=>(m)
 | el::r,m=>(if m>=0 then lfA_f lf r (lf el m) else (m))
def lfA_q(v:Vl)(lf:Vl->Int->Int)(n0:Int)(e:Ext)(p:(Int)):PExit × S:=(.exit 0,S.mk [(1,vI6 p),(2,.lp 2 0),(4,vI6 0)] [(2,vlV v)] e)
theorem lfA_lp(v:Vl)(lf:Vl->Int->Int)(hwk:∀ (w:Vl) (m:Int),w∈vlK v->Pu 102 [.agg (vlL w),.int .i64 m] (.ret (.int .i64 (lf w m))))(n0:Int)(e:Ext)(hN:(vlK v).length<=1000000000)(i:Nat)(m:Int)(hi0:i<=(vlK v).length)  : (Ob.loop 47 (loopF f102 0) (lfA_I v lf n0 (i:Int) m e) (lfA_q v lf n0 e (lfA_f lf (List.drop i ((vlK v)))  m)).1 (lfA_q v lf n0 e (lfA_f lf (List.drop i ((vlK v)))  m)).2).ok prog:=by
 refine Ob.loop_of (P:=prog) (α:={ zz:Nat × (Int) // zz.1<=(vlK v).length }) (fun zz=>lfA_I v lf n0 (zz.1.1:Int) zz.1.2 e) (fun zz=>(vlK v).length - zz.1.1) (fun zz=>(lfA_q v lf n0 e (lfA_f lf (List.drop zz.1.1 ((vlK v)))  zz.1.2))) ?_ ⟨(i,m),hi0⟩
 clear hi0
 clear m i
 rintro ⟨⟨i,m⟩,hi⟩ cx hcx
 simp only at hi  ⊢
 rcases Nat.lt_or_ge i ((vlK v).length) with hlt | hge
 ·have hd:=drop_at hlt
  by_cases h0:m>=0
  ·have hr:(lfA_f lf (List.drop i ((vlK v)))  m)=(lfA_f lf (List.drop (i+1) ((vlK v)))  (lf (List.getD (vlK v) i default) m)):=by rw [hd,lfA_f,iP h0]
   exact lfA_b1 v lf hwk n0 i m e hlt hN  h0 cx hcx (.inl ⟨rfl,⟨((i+1),(lf (List.getD (vlK v) i default) m)),by simp only; omega⟩,by simp only; omega,xr,by simp only; rw [hr]⟩)
  ·have hr:(lfA_f lf (List.drop i ((vlK v)))  m)=(m):=by rw [hd,lfA_f,iN h0]
   refine lfA_b2 v lf hwk n0 i m e hlt hN  h0 cx hcx (.inr ?_)
   rw [hr]
   exact ⟨by simp,rfl,xr⟩
 ·have he:i=(vlK v).length:=by omega
  subst he
  have hr:(lfA_f lf (List.drop ((vlK v).length) ((vlK v)))  m)=(m):=by rw [List.drop_length,lfA_f]
  refine lfA_z1 v lf hwk n0 ((vlK v).length) m e rfl hN   cx hcx (.inr ?_)
  rw [hr]
  exact ⟨by simp,rfl,xr⟩
theorem lfA(v:Vl)(lf:Vl->Int->Int)(hwk:∀ (w:Vl) (m:Int),w∈vlK v->Pu 102 [.agg (vlL w),.int .i64 m] (.ret (.int .i64 (lf w m))))(n0:Int)(m:Int)(e:Ext)(hN:(vlK v).length<=1000000000)  : (Ob.loop 47 (loopF f102 0) (lfA_I v lf n0 0 m e) (lfA_q v lf n0 e (lfA_f lf ((vlK v))  m)).1 (lfA_q v lf n0 e (lfA_f lf ((vlK v))  m)).2).ok prog:=by
 have:=lfA_lp v lf hwk n0 e hN 0 m (Nat.zero_le _)
 rw [List.drop_zero] at this
 exact this
abbrev lfB_I(v:Vl)(lf:Vl->Int->Int)(n0:Int)(j:Int)(m:Int)(e:Ext):S:=S.mk [(1,vI6 m),(2,.lp 2 0),(4,vI6 0),(6,vI6 j)] [(2,vlV v)] e
section
variable (v:Vl) (lf:Vl->Int->Int) (hwk:∀ (w:Vl) (m:Int),w∈vlK v->Pu 102 [.agg (vlL w),.int .i64 m] (.ret (.int .i64 (lf w m)))) (hwb:∀ (w:Bd) (m:Int),w∈vlBd v->Pu 102 [.agg (vlL (bdV w)),.int .i64 m] (.ret (.int .i64 (lf (bdV w) m)))) (n0:Int) (hk:(vlK v).length<=1000000000) (i:Nat) (m:Int) (e:Ext)
include v lf hwk hwb n0 hk i m e
theorem lfB_b1(hi:i<(vlBd v).length)(hN:(vlBd v).length<=1000000000)(hx0:m>=0)(cx:Cx)(hcx:cx.n=47){Q:PExit->S->Prop}(hq:Q (.normal) (S.mk [(1,vI6 (lf (bdV (List.getD (vlBd v) i default)) m)),(2,.lp 2 0),(4,vI6 0),(6,vI6 ((i:Int)+1))] [(2,vlV v)] e)):PW prog cx (loopF f102 1) (lfB_I v lf n0 (i:Int) m e) Q:=
 pw mdL 47 [sl (Bd.cs_len (vlBd v)),rp 3 (dt ((i:Int)<((vlBd v).length:Int))),dt1 hx0,am ((0:Int)<=(i:Int)/\(i:Int)<((Bd.cs (vlBd v)).length:Int)) qZ,xBd (vlBd v) i hi,cl (@hwb (List.getD (vlBd v) i default) (m) sA),wr ((i:Int)+1)] [1,2,4,6] [2] hcx hq
theorem lfB_b2(hi:i<(vlBd v).length)(hN:(vlBd v).length<=1000000000)(hx0:¬m>=0)(cx:Cx)(hcx:cx.n=47){Q:PExit->S->Prop}(hq:Q (.exit 2) (S.mk [(1,vI6 m),(2,.lp 2 0),(4,vI6 0),(6,vI6 (i:Int))] [(2,vlV v)] e)):PW prog cx (loopF f102 1) (lfB_I v lf n0 (i:Int) m e) Q:=
 pw mdL 47 [sl (Bd.cs_len (vlBd v)),rp 3 (dt ((i:Int)<((vlBd v).length:Int))),df1 hx0] [1,2,4,6] [2] hcx hq
theorem lfB_z1(hi:i=(vlBd v).length)(hN:(vlBd v).length<=1000000000)(cx:Cx)(hcx:cx.n=47){Q:PExit->S->Prop}(hq:Q (.exit 2) (S.mk [(1,vI6 m),(2,.lp 2 0),(4,vI6 0),(6,vI6 (i:Int))] [(2,vlV v)] e)):PW prog cx (loopF f102 1) (lfB_I v lf n0 (i:Int) m e) Q:=
 pw mdL 47 [sl (Bd.cs_len (vlBd v)),rp 3 (df ((i:Int)<((vlBd v).length:Int))),bf false] [1,2,4,6] [2] hcx hq
end
def lfB_f(lf:Vl->Int->Int):List Bd->(Int)->(Int)
 | [],m=>(m)
 | el::r,m=>(if m>=0 then lfB_f lf r (lf (bdV el) m) else (m))
def lfB_q(v:Vl)(lf:Vl->Int->Int)(n0:Int)(e:Ext)(p:(Int)):PExit × S:=(.exit 2,S.mk [(1,vI6 p),(2,.lp 2 0),(4,vI6 0)] [(2,vlV v)] e)
theorem lfB_lp(v:Vl)(lf:Vl->Int->Int)(hwk:∀ (w:Vl) (m:Int),w∈vlK v->Pu 102 [.agg (vlL w),.int .i64 m] (.ret (.int .i64 (lf w m))))(hwb:∀ (w:Bd) (m:Int),w∈vlBd v->Pu 102 [.agg (vlL (bdV w)),.int .i64 m] (.ret (.int .i64 (lf (bdV w) m))))(n0:Int)(hk:(vlK v).length<=1000000000)(e:Ext)(hN:(vlBd v).length<=1000000000)(i:Nat)(m:Int)(hi0:i<=(vlBd v).length)  : (Ob.loop 47 (loopF f102 1) (lfB_I v lf n0 (i:Int) m e) (lfB_q v lf n0 e (lfB_f lf (List.drop i ((vlBd v)))  m)).1 (lfB_q v lf n0 e (lfB_f lf (List.drop i ((vlBd v)))  m)).2).ok prog:=by
 refine Ob.loop_of (P:=prog) (α:={ zz:Nat × (Int) // zz.1<=(vlBd v).length }) (fun zz=>lfB_I v lf n0 (zz.1.1:Int) zz.1.2 e) (fun zz=>(vlBd v).length - zz.1.1) (fun zz=>(lfB_q v lf n0 e (lfB_f lf (List.drop zz.1.1 ((vlBd v)))  zz.1.2))) ?_ ⟨(i,m),hi0⟩
 clear hi0
 clear m i
 rintro ⟨⟨i,m⟩,hi⟩ cx hcx
 simp only at hi  ⊢
 rcases Nat.lt_or_ge i ((vlBd v).length) with hlt | hge
 ·have hd:=drop_at hlt
  by_cases h0:m>=0
  ·have hr:(lfB_f lf (List.drop i ((vlBd v)))  m)=(lfB_f lf (List.drop (i+1) ((vlBd v)))  (lf (bdV (List.getD (vlBd v) i default)) m)):=by rw [hd,lfB_f,iP h0]
   exact lfB_b1 v lf hwk hwb n0 hk i m e hlt hN  h0 cx hcx (.inl ⟨rfl,⟨((i+1),(lf (bdV (List.getD (vlBd v) i default)) m)),by simp only; omega⟩,by simp only; omega,xr,by simp only; rw [hr]⟩)
  ·have hr:(lfB_f lf (List.drop i ((vlBd v)))  m)=(m):=by rw [hd,lfB_f,iN h0]
   refine lfB_b2 v lf hwk hwb n0 hk i m e hlt hN  h0 cx hcx (.inr ?_)
   rw [hr]
   exact ⟨by simp,rfl,xr⟩
 ·have he:i=(vlBd v).length:=by omega
  subst he
  have hr:(lfB_f lf (List.drop ((vlBd v).length) ((vlBd v)))  m)=(m):=by rw [List.drop_length,lfB_f]
  refine lfB_z1 v lf hwk hwb n0 hk ((vlBd v).length) m e rfl hN   cx hcx (.inr ?_)
  rw [hr]
  exact ⟨by simp,rfl,xr⟩
theorem lfB(v:Vl)(lf:Vl->Int->Int)(hwk:∀ (w:Vl) (m:Int),w∈vlK v->Pu 102 [.agg (vlL w),.int .i64 m] (.ret (.int .i64 (lf w m))))(hwb:∀ (w:Bd) (m:Int),w∈vlBd v->Pu 102 [.agg (vlL (bdV w)),.int .i64 m] (.ret (.int .i64 (lf (bdV w) m))))(n0:Int)(hk:(vlK v).length<=1000000000)(m:Int)(e:Ext)(hN:(vlBd v).length<=1000000000)  : (Ob.loop 47 (loopF f102 1) (lfB_I v lf n0 0 m e) (lfB_q v lf n0 e (lfB_f lf ((vlBd v))  m)).1 (lfB_q v lf n0 e (lfB_f lf ((vlBd v))  m)).2).ok prog:=by
 have:=lfB_lp v lf hwk hwb n0 hk e hN 0 m (Nat.zero_le _)
 rw [List.drop_zero] at this
 exact this
theorem rLeft(v:Vl)(lf:Vl->Int->Int)(hwk:∀ (w:Vl) (m:Int),w∈vlK v->Pu 102 [.agg (vlL w),.int .i64 m] (.ret (.int .i64 (lf w m))))(hwb:∀ (w:Bd) (m:Int),w∈vlBd v->Pu 102 [.agg (vlL (bdV w)),.int .i64 m] (.ret (.int .i64 (lf (bdV w) m))))(n0:Int)(hk:(vlK v).length<=1000000000)(hb:(vlBd v).length<=1000000000):Pu 102 [.agg (vlL v),pI n0] (rI (lfB_f lf (vlBd v) (lfA_f lf (vlK v) (IntKind.wrap .i64 (n0 - 1))))):=
 pu mdL (fun e=>[kp,lp (S.mk [(0,.v (.agg (vlL v))),(1,vI6 (IntKind.wrap .i64 (n0 - 1))),(2,.lp 2 0),(4,vI6 0),(7,vI6 n0),(8,vI6 (IntKind.wrap .i64 (n0 - 1))),(5,vI6 0)] [(2,vlV v)] e) (@lfA (v) (lf) hwk default (IntKind.wrap .i64 (n0 - 1)) (e) hk) xr,lq (@lfB (v) (lf) hwk hwb default hk (lfA_f lf (vlK v) (IntKind.wrap .i64 (n0 - 1))) (e) hb)]) func102
end Go.Proofs.YtgonmmckkikmaaaGreat
