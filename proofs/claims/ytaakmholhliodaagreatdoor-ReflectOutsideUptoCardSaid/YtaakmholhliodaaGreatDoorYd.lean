/- Values of Go as plain data, an evaluator over them, and what the functions of the program return; part Yd. -/
import Derived.Test.YtaakmholhliodaaGreatDoorYc
import Derived.Test.YtaakmholhliodaaGreatDoorYb
import Derived.Test.YtaakmholhliodaaGreatDoorXh
import Derived.Test.YtaakmholhliodaaGreatDoorYa
set_option linter.unusedSectionVars false
set_option linter.unusedSimpArgs false
set_option linter.unusedVariables false
namespace Go.Proofs.YtaakmholhliodaaGreatDoor
open Go.Proofs.Tryz
open Go.Pv Go.Proofs.Tryz
set_option maxRecDepth 100000
def raF(u:Pr):List Pr:=rnK 4 (bulkPs (prL u)+1) u []
theorem raF_len(u:Pr):(raF u).length<=bulkPs (prL u):=by have:=rnK_len 4 (bulkPs (prL u)+1) u []; simpa [raF] using this
theorem raI(u:Pr)(hs:bulkPs (prL u)<=100000000):Pu 142 [.agg (prL u),.int .i64 4,.nilsl] (.own 46 4 (Pr.cs (raF u))):=
 Ob.pur_nil (k:=2) (fun e=>rn_ok 4 _ u [] e (Nat.lt_succ_self _) oM (by simp only [List.length_nil]; omega)) rfl
theorem raL(u:Pr)(l:List Pr)(hi:Pu 142 [.agg (prL u),.int .i64 4,.nilsl] (.own 46 4 (Pr.cs l))):Pu 119 [.agg (prL u)] (.own 46 4 (Pr.cs l)):=
 pm mdL [cl hi] func119
theorem raT(u:Pr)(hs:bulkPs (prL u)<=100000000):Pu 119 [.agg (prL u)] (.ret (.sl 4 (Pr.cs (raF u)))):=Ob.pur_unown (raL u _ (raI u hs))
abbrev r1I(q:List Pr)(i0:Int)(a:List Pr)(l:List BA)(j:Int)(xe:Ext):S:=⟨[(0,.v (.sl 4 (Pr.cs q))),(3,.uniq 9 1 (nmsC l)),(4,.v (.int .i64 i0)),(5,.v (.sl 4 (Pr.cs a))),(6,.v (.int .i64 j))],[],xe⟩
abbrev r1A_I(q:List Pr)(i0:Int)(a:List Pr)(l0:List BA)(xe:Ext)(j:Int)(l:List BA)  : S:=S.mk [(0,vL 4 (Pr.cs q)),(3,.uniq 9 1 (nmsC l)),(4,vI6 i0),(5,vL 4 (Pr.cs a)),(6,vI6 j)] [] xe
def r1A_f  : List Pr->(List BA)->(List BA)
 | [],l=>(l)
 | el::r,l=>r1A_f  r (l++[prNm el])
def r1A_q(q:List Pr)(i0:Int)(a:List Pr)(l0:List BA)(xe:Ext)(p:(List BA)):PExit × S:=(.exit 2,S.mk [(0,vL 4 (Pr.cs q)),(3,.uniq 9 1 (nmsC p)),(4,vI6 i0),(5,vL 4 (Pr.cs a))] [] xe)
theorem r1A(q:List Pr)(i0:Int)(a:List Pr)(l0:List BA)(hb:l0.length+a.length<=1000000000)(xe:Ext)(l:List BA)(hN:a.length<=1000000000)(hv:List.length l<=List.length l0+0):(Ob.loop 33 (loopF f90 1) (r1A_I q i0 a l0 xe 0 l) (r1A_q q i0 a l0 xe  (r1A_f  (a)  l)).1 (r1A_q q i0 a l0 xe  (r1A_f  (a)  l)).2).ok prog:=by
 refine rng a.length (fun j l=>r1A_I q i0 a l0 xe j l) (fun i l=>r1A_f  (List.drop i (a))  l) (r1A_q q i0 a l0 xe) (fun i l=>(l.length<=l0.length+i)) kR ?_ l (by first | exact hv | omega)
 rintro i l hi hv
 try simp only at hv
 rcases Nat.lt_or_ge i (a.length) with hlt | hge
 ·have hd:=drop_at hlt
  exact lS mdL [sl (Pr.cs_len a),rgPr hlt,am (List.length (nmsC l++[[.str (prNm (List.getD a i default))]]) * (15+1)<=140737488355328) (by (simp only [List.length_append,List.length_cons,List.length_nil,nmsC_len]; omega)),wr ((i:Int)+1)] [0,3,4,5,6] [] hlt (l++[prNm (List.getD a i default)]) (S.mk [(0,vL 4 (Pr.cs q)),(3,.uniq 9 1 (nmsC l++[[PV.str (prNm (List.getD a i default))]])),(4,vI6 i0),(5,vL 4 (Pr.cs a)),(6,vI6 ((i:Int)+1))] [] xe) ⟨⟨W,(.inl (by first | (simp only [List.nil_append,nmsC_app,nmsC_snoc,Pr.cs_snoc,Tp.cs_snoc,Ex.cs_snoc,Vr.cs_snoc,Df.cs_snoc,Pr.cs_cons2]; done) | (simp only [List.nil_append,nmsC_app,nmsC_snoc,Pr.cs_snoc,Tp.cs_snoc,Ex.cs_snoc,Vr.cs_snoc,Df.cs_snoc,Pr.cs_cons2]; rfl))),W,W,W,tVv⟩,trivial,rfl⟩ (by first | assumption | omega | (apply gPr <;> first | assumption | omega | decide) | (simp only [List.length_append,List.length_cons,List.length_nil] at *; omega) | simp_all) (by rw [hd,r1A_f])
 ·have he:i=a.length:=by omega
  exact lX mdL [sl (Pr.cs_len a),df ((i:Int)<(a.length:Int))] (l) (by rw [he,List.drop_length,r1A_f])
theorem r1A_eq:∀ (a:List Pr) (l:List BA),r1A_f a l=l++a.map prNm
 | [],l=>by simp [r1A_f]
 | x::r,l=>by rw [r1A_f,r1A_eq r]; simp
theorem r1T(q:List Pr)(i0:Int)(a:List Pr)(l:List BA)(xe:Ext)(hb:l.length+a.length<=1000000000):(Ob.loop 33 (loopF f90 1) (r1I q i0 a l 0 xe) (r1A_q q i0 a l xe (l++a.map prNm)).1 (r1A_q q i0 a l xe (l++a.map prNm)).2).ok prog:=by
 have:=r1A q i0 a l hb xe l oM oM
 rw [r1A_eq] at this
 exact this
abbrev r2I(q:List Pr)(l:List BA)(j:Int)(xe:Ext):S:=⟨[(0,.v (.sl 4 (Pr.cs q))),(3,.uniq 9 1 (nmsC l)),(4,.v (.int .i64 j))],[],xe⟩
abbrev r2A_I(q:List Pr)(l0:List BA)(dg:Pr->List Pr)(xe:Ext)(j:Int)(l:List BA)  : S:=S.mk [(0,vL 4 (Pr.cs q)),(3,.uniq 9 1 (nmsC l)),(4,vI6 j)] [] xe
def r2A_f(dg:Pr->List Pr):List Pr->(List BA)->(List BA)
 | [],l=>(l)
 | el::r,l=>r2A_f dg r (l++List.map prNm (dg el))
def r2A_q(q:List Pr)(l0:List BA)(dg:Pr->List Pr)(xe:Ext)(p:(List BA)):PExit × S:=(.exit 0,S.mk [(0,vL 4 (Pr.cs q)),(3,.uniq 9 1 (nmsC p))] [] xe)
theorem r2A(q:List Pr)(l0:List BA)(dg:Pr->List Pr)(hwk:∀w:Pr,w∈q->Pu 119 [.agg (prL w)] (.ret (.sl 4 (Pr.cs (dg w)))))(xe:Ext)(l:List BA)(hN:q.length<=1000000000)(hv:List.length l+apN dg (List.drop 0 q)<=1000000000):(Ob.loop 33 (loopF f90 0) (r2A_I q l0 dg xe 0 l) (r2A_q q l0 dg xe  (r2A_f dg (q)  l)).1 (r2A_q q l0 dg xe  (r2A_f dg (q)  l)).2).ok prog:=by
 refine rng q.length (fun j l=>r2A_I q l0 dg xe j l) (fun i l=>r2A_f dg (List.drop i (q))  l) (r2A_q q l0 dg xe) (fun i l=>(l.length+apN dg (q.drop i)<=1000000000)) kR ?_ l (by first | exact hv | omega)
 rintro i l hi hv
 try simp only at hv
 rcases Nat.lt_or_ge i (q.length) with hlt | hge
 ·have hd:=drop_at hlt
  exact lN mdL [sl (Pr.cs_len q),rgPr hlt,cl (@hwk (List.getD q i default) (by first | exact getD_mem hlt | simp_all)),lq (@r1T q ((i:Int)) (dg (List.getD q i default)) l xe (by (apply ab_get <;> first | assumption | omega | decide))),wr ((i:Int)+1)] hlt (l++List.map prNm (dg (List.getD q i default))) (by first | assumption | omega | (apply gPr <;> first | assumption | omega | decide) | (apply ab_get <;> first | assumption | omega | decide) | (apply ab_inv <;> first | assumption | omega | decide) | (simp only [List.length_append,List.length_cons,List.length_nil] at *; omega) | simp_all) (by rw [hd,r2A_f])
 ·have he:i=q.length:=by omega
  exact lX mdL [sl (Pr.cs_len q),df ((i:Int)<(q.length:Int))] (l) (by rw [he,List.drop_length,r2A_f])
theorem r2L(q:List Pr)(l1:List BA)(h0:∀xe,(Ob.loop 33 (loopF f90 0) (r2I q [] 0 xe) (.exit 0) ⟨[(3,.uniq 9 1 (nmsC l1))],[],xe⟩).ok prog):Pu 90 [.sl 4 (Pr.cs q)] (.own 9 1 (nmsC l1)):=
 pu mdL (fun e=>[lp (S.mk [(0,vL 4 (Pr.cs q)),(3,.v .nilsl),(4,vI6 0)] [] e) (@h0 e) ⟨⟨W,Wq,W,tVv⟩,trivial,rfl⟩]) func90
theorem r2A_eq(dg:Pr->List Pr):∀ (q:List Pr) (l:List BA),r2A_f dg q l=l++q.flatMap (fun w=>(dg w).map prNm)
 | [],l=>by simp [r2A_f]
 | x::r,l=>by rw [r2A_f,r2A_eq dg r]; simp
def rpN(q:List Pr):List BA:=q.flatMap fun w=>(raF w).map prNm
theorem rpN_len(q:List Pr):(rpN q).length<=bulkPss (Pr.cs q):=by
 have h:=apN_le raF q (fun w _=>raF_len w)
 rw [rpN,flatMap_len]
 omega
theorem r2T(q:List Pr)(hs:bulkPss (Pr.cs q)<=100000000):Pu 90 [.sl 4 (Pr.cs q)] (.own 9 1 (nmsC (rpN q))):=by
 have h:=apN_le raF q (fun w _=>raF_len w)
 have h1:=Pr.bulk q
 refine r2L q (rpN q) fun xe=>?_
 have:=r2A q [] raF (fun w hw=>raT w (by have:=Pr.mem hw; omega)) xe [] oM (by simp only [List.length_nil,List.drop_zero]; omega)
 rw [r2A_eq,List.nil_append] at this
 exact Ob.loop_post this ⟨⟨W,tVv⟩,trivial,rfl⟩
theorem r3_get{ks:List Tp}{l:List BA}{i:Nat}{dtz:Tp->List BA}(hi:i<ks.length)(hdg:∀w:Tp,w∈ks->(dtz w).length<=bulkPs (tpL w))(hv:l.length+bulkPss (Tp.cs (ks.drop i))<=1000000000):(l++dtz (ks.getD i default)).length+bulkPss (Tp.cs (ks.drop (i+1)))<=1000000000:=by
 rw [drop_at hi] at hv
 simp only [Tp.cs,bulkPss,Tp.c_eq] at hv
 have:=hdg (ks.getD i default) (getD_mem hi)
 simp only [List.length_append]
 omega
theorem r3_sz{ks:List Tp}{l:List BA}{i:Nat}{dtz:Tp->List BA}(hi:i<ks.length)(hdg:∀w:Tp,w∈ks->(dtz w).length<=bulkPs (tpL w))(hv:l.length+bulkPss (Tp.cs (ks.drop i))<=1000000000):(nmsC l++nmsC (dtz (ks.getD i default))).length * (15+1)<=140737488355328:=by
 have:=r3_get hi hdg hv
 simp only [List.length_append,nmsC_len] at this ⊢
 omega
abbrev r3A_I(t:Tp)(l0:List BA)(dtz:Tp->List BA)(j:Int)(l:List BA)(e:Ext):S:=S.mk [(1,.lp 1 0),(2,.v .nilsl),(3,.uniq 9 1 (nmsC l)),(4,vI6 j)] [(1,tpV t)] e
def r3A_f(dtz:Tp->List BA):List Tp->(List BA)->(List BA)
 | [],l=>(l)
 | el::r,l=>r3A_f dtz r (l++dtz el)
def r3A_q(t:Tp)(l0:List BA)(dtz:Tp->List BA)(e:Ext)(p:(List BA)):PExit × S:=(.exit 0,S.mk [(1,.lp 1 0),(2,.v .nilsl),(3,.uniq 9 1 (nmsC p))] [(1,tpV t)] e)
theorem r3A(t:Tp)(l0:List BA)(dtz:Tp->List BA)(hwk:∀w:Tp,w∈tpA t->Pu 89 [.agg (tpL w)] (.ret (.sl 1 (nmsC (dtz w)))))(hdg:∀w:Tp,w∈tpA t->(dtz w).length<=bulkPs (tpL w))(hM:(tpPs t).length<=1000000000)(h90:Pu 90 [.sl 4 (Pr.cs (tpPs t)++[prL (tpP t)])] (.own 9 1 (nmsC l0)))(l:List BA)(e:Ext)(hN:(tpA t).length<=1000000000)(hv:List.length l+bulkPss (Tp.cs (List.drop 0 (tpA t)))<=1000000000):(Ob.loop 30 (loopF f89 0) (r3A_I t l0 dtz 0 l e) (r3A_q t l0 dtz e (r3A_f dtz ((tpA t))  l)).1 (r3A_q t l0 dtz e (r3A_f dtz ((tpA t))  l)).2).ok prog:=by
 refine rng ((tpA t).length) (fun j l=>r3A_I t l0 dtz j l e) (fun i l=>r3A_f dtz (List.drop i ((tpA t)))  l) (r3A_q t l0 dtz e) (fun i l=>(l.length+bulkPss (Tp.cs ((tpA t).drop i))<=1000000000)) kR ?_ l (by first | exact hv | omega)
 rintro i l hi hv
 try simp only at hv
 rcases Nat.lt_or_ge i ((tpA t).length) with hlt | hge
 ·have hd:=drop_at hlt
  exact lS mdL [sl (Tp.cs_len (tpA t)),rgTp hlt,cl (@hwk (List.getD (tpA t) i default) (by first | exact getD_mem hlt | simp_all)),am (List.length (nmsC l++(fun x=>Prod.snd x) (1,nmsC (dtz (List.getD (tpA t) i default)))) * (15+1)<=140737488355328) (by (apply r3_sz <;> first | assumption | omega | decide)),wr ((i:Int)+1)] [1,2,3,4] [1] hlt (l++dtz (List.getD (tpA t) i default)) (S.mk [(1,.lp 1 0),(2,.v .nilsl),(3,.uniq 9 1 (nmsC l++nmsC (dtz (List.getD (tpA t) i default)))),(4,vI6 ((i:Int)+1))] [(1,tpV t)] e) ⟨⟨W,W,(.inl (by first | (simp only [List.nil_append,nmsC_app,nmsC_snoc,Pr.cs_snoc,Tp.cs_snoc,Ex.cs_snoc,Vr.cs_snoc,Df.cs_snoc,Pr.cs_cons2]; done) | (simp only [List.nil_append,nmsC_app,nmsC_snoc,Pr.cs_snoc,Tp.cs_snoc,Ex.cs_snoc,Vr.cs_snoc,Df.cs_snoc,Pr.cs_cons2]; rfl))),W,tVv⟩,⟨Ws,tVv⟩,rfl⟩ (by first | assumption | omega | (apply gPr <;> first | assumption | omega | decide) | (apply gTp <;> first | assumption | omega | decide) | (apply r3_get <;> first | assumption | omega | decide) | (apply r3_sz <;> first | assumption | omega | decide) | (simp only [List.length_append,List.length_cons,List.length_nil] at *; omega) | simp_all) (by rw [hd,r3A_f])
 ·have he:i=(tpA t).length:=by omega
  exact lX mdL [sl (Tp.cs_len (tpA t)),df ((i:Int)<((tpA t).length:Int))] (l) (by rw [he,List.drop_length,r3A_f])
def mdV:Md:=⟨fun t=>if t=30∨t=109 then none else some false,fun _=>false⟩
abbrev vsC(m:Mo)(ty:Bool)(to:BA):List PV:=[.ro (moL m) 0,.ro [.bool ty] 0,.ro [.str to] 0,.xp 0 0,.xp 1 0]
abbrev vsE(m:Mo)(ty:Bool)(to:BA)(seen:List BA):Ext:=[(0,[.uniq 9 1 (nmsC seen)]),(1,[.v (.fn (.func 49) [] (vsC m ty to))])]
theorem rfX_ok(s:BA):∀l:List Df,rfX s l<l.length->rc1_r0 (l.getD (rfX s l) default) s=true
 | [],h=>by simp at h
 | c::r,h=>by
  rw [rfX] at h ⊢
  split
  ·rename_i hc; simpa using hc
  ·rename_i hc
   rw [iN hc] at h
   simpa using rfX_ok s r (by simpa using h)
theorem rc1_nm{d:Df}{s:BA}(h:rc1_r0 d s=true):dfNm d=s/\dfM d=2:=by
 unfold rc1_r0 at h
 split at h
 ·rename_i h1; exact ⟨h1,by simpa using h⟩
 ·cases h
theorem rfD_nm{s:BA}{l:List Df}{d:Df}(h:rfD s l=some d):dfNm d=s/\dfM d=2:=by
 unfold rfD at h
 split at h
 ·rename_i hl
  injection h with h
  subst h
  exact rc1_nm (rfX_ok s l hl)
 ·cases h
theorem unR_ex{m:Mo}{x:BA}(h:unR m x=false):∃d∈moF m,dfNm d=x:=by
 unfold unR at h
 cases hd:rfD x (moF m) with
 | none=>rw [hd] at h; cases h
 | some d=>exact ⟨d,rfD_mem hd,(rfD_nm hd).1⟩
theorem flt_le{α:Type}{p q:α->Bool}(h:∀x,p x=true->q x=true):∀l:List α,(l.filter p).length<=(l.filter q).length
 | []=>by simp
 | x::r=>by
  have ih:=flt_le h r
  simp only [List.filter_cons]
  by_cases hp:p x=true
  ·rw [iP hp,iP (h x hp)]; simpa using ih
  ·rw [iN hp]
   split
   ·simp only [List.length_cons]; omega
   ·exact ih
theorem flt_lt{α:Type}{p q:α->Bool}(h:∀x,p x=true->q x=true){d:α}(h1:p d=false)(h2:q d=true):∀l:List α,d∈l->(l.filter p).length<(l.filter q).length
 | [],hd=>by simp at hd
 | x::r,hd=>by
  simp only [List.filter_cons]
  rcases List.mem_cons.1 hd with rfl | hd
  ·have:=flt_le h r
   rw [h1,h2]
   simp only [Bool.false_eq_true,if_false,if_true,List.length_cons]
   omega
  ·have ih:=flt_lt h h1 h2 r hd
   by_cases hp:p x=true
   ·rw [iP hp,iP (h x hp)]; simpa using ih
   ·rw [iN hp]
    split
    ·simp only [List.length_cons]; omega
    ·exact ih
def cU(m:Mo)(seen:List BA):Nat:=((moF m).filter fun d=>!inN (dfNm d) seen).length
theorem cU_step{m:Mo}{x:BA}{s:List BA}(h:unR m x=false)(hs:inN x s=false):cU m (s++[x])<cU m s:=by
 obtain ⟨d,hd,rfl⟩:=unR_ex h
 refine flt_lt (fun y hy=>?_) (d:=d) ?_ (by simpa using hs) _ hd
 ·simp only [Bool.not_eq_true',Bool.eq_false_iff,ne_eq,inN_iff] at hy ⊢
  exact fun hc=>hy (List.mem_append_left _ hc)
 ·simp only [Bool.not_eq_false',inN_iff]
  exact List.mem_append_right _ sM
theorem vs_get{m:Mo}{ns s:List BA}{i d:Nat}(hi:i<ns.length)(hns:∀x,x∈ns->unR m x=false)(hv:s.length+cU m s<=1000000000/\cU m s<=d)(hx:inN (ns.getD i nm0) s=false):(s++[ns.getD i nm0]).length+cU m (s++[ns.getD i nm0])<=1000000000/\cU m (s++[ns.getD i nm0])<d:=by
 have:=cU_step (hns (ns.getD i nm0) (by simp [List.getD,hi])) hx
 simp only [List.length_append,List.length_cons,List.length_nil]
 omega
theorem vs_inv{m:Mo}{ns s:List BA}{i d:Nat}{dv:BA->List BA->Bool × List BA}(hi:i<ns.length)(hns:∀x,x∈ns->unR m x=false)(hdv:∀x s,s.length+cU m s<=1000000000/\cU m s<d->(dv x s).2.length+cU m (dv x s).2<=1000000000/\cU m (dv x s).2<d)(hv:s.length+cU m s<=1000000000/\cU m s<=d)(hx:inN (ns.getD i nm0) s=false) :
  (dv (ns.getD i nm0) (s++[ns.getD i nm0])).2.length+cU m (dv (ns.getD i nm0) (s++[ns.getD i nm0])).2<=1000000000/\cU m (dv (ns.getD i nm0) (s++[ns.getD i nm0])).2<=d:=by
 have:=hdv (ns.getD i nm0) _ (vs_get hi hns hv hx)
 exact ⟨this.1,by omega⟩
abbrev vsA_I(m:Mo)(ty:Bool)(to:BA)(nm:BA)(ns:List BA)(d:Nat)(dv:BA->List BA->Bool × List BA)(s0:List BA)(j:Int)(s:List BA)  : S:=S.mk [(3,.v (.ro [.str to] 0)),(4,.v (.xp 0 0)),(5,.v (.xp 1 0)),(13,vL 1 (nmsC ns)),(14,vI6 (ns.length:Int)),(15,vI6 j)] [] (vsE m ty to s)
inductive vsA_R where
 | e0 (s:List BA)
 | e1 (el:BA) (s:List BA)
 | e2 (s:List BA)
def vsA_f(to:BA)(dv:BA->List BA->Bool × List BA):List BA->(List BA)->vsA_R
 | [],s=>(vsA_R.e2 s)
 | el::r,s=>(if el=to then (vsA_R.e0 s) else (if inN el s=false then (if Prod.fst (dv el (s++[el]))=true then (vsA_R.e1 el s) else vsA_f to dv r (Prod.snd (dv el (s++[el])))) else vsA_f to dv r (s)))
noncomputable def vsA_q (m:Mo) (ty:Bool) (to:BA) (nm:BA) (ns:List BA) (d:Nat) (dv:BA->List BA->Bool × List BA) (s0:List BA)  : vsA_R->PExit × S
 | .e0 s=>(.ret,S.mk [(3,.v (.ro [.str to] 0)),(4,.v (.xp 0 0)),(5,.v (.xp 1 0)),(13,vL 1 (nmsC ns)),(14,vI6 (ns.length:Int)),(7,.v (.bool true))] [] [(0,[.uniq 9 1 (nmsC s)]),(1,[.v (.fn (.func 49) [] [.ro (moL m) 0,.ro [.bool ty] 0,.ro [.str to] 0,.xp 0 0,.xp 1 0])])])
 | .e1 el s=>(.ret,S.mk [(3,.v (.ro [.str to] 0)),(4,.v (.xp 0 0)),(5,.v (.xp 1 0)),(13,vL 1 (nmsC ns)),(14,vI6 (ns.length:Int)),(7,.v (.bool true))] [] [(0,[.uniq 9 1 (nmsC (Prod.snd (dv el (s++[el]))))]),(1,[.v (.fn (.func 49) [] [.ro (moL m) 0,.ro [.bool ty] 0,.ro [.str to] 0,.xp 0 0,.xp 1 0])])])
 | .e2 s=>(.exit 0,S.mk [(3,.v (.ro [.str to] 0)),(4,.v (.xp 0 0)),(5,.v (.xp 1 0)),(13,vL 1 (nmsC ns)),(14,vI6 (ns.length:Int))] [] [(0,[.uniq 9 1 (nmsC s)]),(1,[.v (.fn (.func 49) [] [.ro (moL m) 0,.ro [.bool ty] 0,.ro [.str to] 0,.xp 0 0,.xp 1 0])])])
theorem vsA_lp(m:Mo)(ty:Bool)(to:BA)(nm:BA)(ns:List BA)(d:Nat)(hns:∀x,x∈ns->unR m x=false)(hu:Pu 50 [.agg (moL m),.str nm,.bool ty] (.ret (.sl 1 (nmsC ns))))(dv:BA->List BA->Bool × List BA)(hwk:∀ (x:BA) (s:List BA),(s++[x]).length+cU m (s++[x])<=1000000000/\cU m (s++[x])<d->Ef 49 [.str x,.ro (moL m) 0,.ro [.bool ty] 0,.ro [.str to] 0,.xp 0 0,.xp 1 0] [(0,[.uniq 9 1 (nmsC s++[[.str x]])]),(1,[.v (.fn (.func 49) [] (vsC m ty to))])] (.ret (.bool (dv x (s++[x])).1)) (vsE m ty to (dv x (s++[x])).2))(hdv:∀x s,s.length+cU m s<=1000000000/\cU m s<d->(dv x s).2.length+cU m (dv x s).2<=1000000000/\cU m (dv x s).2<d)(s0:List BA)(hN:ns.length<=1000000000)(s:List BA)(hv:(s.length+cU m s<=1000000000/\cU m s<=d)):(Ob.loop 34 (loopF f49 0) (vsA_I m ty to nm ns d dv s0 0 s) (vsA_q m ty to nm ns d dv s0  (vsA_f to dv (ns)  s)).1 (vsA_q m ty to nm ns d dv s0  (vsA_f to dv (ns)  s)).2).ok prog:=by
 refine rng ns.length (fun j s=>vsA_I m ty to nm ns d dv s0 j s) (fun i s=>vsA_f to dv (List.drop i (ns))  s) (vsA_q m ty to nm ns d dv s0) (fun i s=>(s.length+cU m s<=1000000000/\cU m s<=d)) kR ?_ s (by first | exact hv | omega)
 rintro i s hi hv
 try simp only at hv
 rcases Nat.lt_or_ge i (ns.length) with hlt | hge
 ·have hd:=drop_at0 hlt
  refine t0 ?_;refine tp [rgNm hlt] ?_;by_cases h0:List.getD ns i nm0=to
  ·exact tX mdV [bt (ByteArray.toList (List.getD ns i nm0)==ByteArray.toList to) (bsT h0)] (vsA_R.e0 s) (by rw [hd,vsA_f,iP h0])
  ·refine tp [bf (ByteArray.toList (List.getD ns i nm0)==ByteArray.toList to) (bsF h0),cl (@ccT s (List.getD ns i nm0) oM)] ?_;by_cases h1:inN (List.getD ns i nm0) s=false
   ·refine tp [bt1 (bnT h1),am (List.length (nmsC s++[[.str (List.getD ns i nm0)]]) * (15+1)<=140737488355328) (by (simp only [List.length_append,List.length_cons,List.length_nil,nmsC_len]; omega)),ce (@hwk (List.getD ns i nm0) s (by (apply vs_get <;> first | assumption | omega | decide)))] ?_;by_cases h2:Prod.fst (dv (List.getD ns i nm0) (s++[List.getD ns i nm0]))=true
    ·exact tX mdV [bt1 h2] (vsA_R.e1 (List.getD (ns) i nm0) s) (by rw [hd,vsA_f,iN h0,iP h1,iP h2])
    ·exact tS mdV [bf1 (bFT h2),wr ((i:Int)+1)] [3,4,5,13,14,15,7] [] hlt (Prod.snd (dv (List.getD ns i nm0) (s++[List.getD ns i nm0]))) (S.mk [(3,.v (.ro [.str to] 0)),(4,.v (.xp 0 0)),(5,.v (.xp 1 0)),(13,vL 1 (nmsC ns)),(14,vI6 (ns.length:Int)),(15,vI6 ((i:Int)+1))] [] [(0,[.uniq 9 1 (nmsC (Prod.snd (dv (List.getD ns i nm0) (s++[List.getD ns i nm0]))))]),(1,[.v (.fn (.func 49) [] [.ro (moL m) 0,.ro [.bool ty] 0,.ro [.str to] 0,.xp 0 0,.xp 1 0])])]) ⟨⟨W,W,W,W,W,W,tVv⟩,trivial,(by first | rfl | (simp only [List.nil_append,nmsC_app,nmsC_snoc,Pr.cs_snoc,Tp.cs_snoc,Ex.cs_snoc,Vr.cs_snoc,Df.cs_snoc]; done) | (simp only [List.nil_append,nmsC_app,nmsC_snoc,Pr.cs_snoc,Tp.cs_snoc,Ex.cs_snoc,Vr.cs_snoc,Df.cs_snoc]; rfl))⟩ (by first | assumption | omega | (apply vs_get <;> first | assumption | omega | decide) | (apply vs_inv <;> first | assumption | omega | decide) | (simp only [List.length_append,List.length_cons,List.length_nil] at *; omega) | simp_all) (by rw [hd,vsA_f,iN h0,iP h1,iN h2])
   ·exact tS mdV [bf1 (bnF (bTF h1)),wr ((i:Int)+1)] [3,4,5,13,14,15,7] [] hlt (s) (S.mk [(3,.v (.ro [.str to] 0)),(4,.v (.xp 0 0)),(5,.v (.xp 1 0)),(13,vL 1 (nmsC ns)),(14,vI6 (ns.length:Int)),(15,vI6 ((i:Int)+1))] [] [(0,[.uniq 9 1 (nmsC s)]),(1,[.v (.fn (.func 49) [] [.ro (moL m) 0,.ro [.bool ty] 0,.ro [.str to] 0,.xp 0 0,.xp 1 0])])]) ⟨⟨W,W,W,W,W,W,tVv⟩,trivial,(by first | rfl | (simp only [List.nil_append,nmsC_app,nmsC_snoc,Pr.cs_snoc,Tp.cs_snoc,Ex.cs_snoc,Vr.cs_snoc,Df.cs_snoc]; done) | (simp only [List.nil_append,nmsC_app,nmsC_snoc,Pr.cs_snoc,Tp.cs_snoc,Ex.cs_snoc,Vr.cs_snoc,Df.cs_snoc]; rfl))⟩ (by first | assumption | omega | (apply vs_get <;> first | assumption | omega | decide) | (apply vs_inv <;> first | assumption | omega | decide) | (simp only [List.length_append,List.length_cons,List.length_nil] at *; omega) | simp_all) (by rw [hd,vsA_f,iN h0,iN h1])
 ·have he:i=ns.length:=by omega
  exact lX mdV [df ((i:Int)<(ns.length:Int))] (vsA_R.e2 s) (by rw [he,List.drop_length,vsA_f])
theorem Ent.le{e1 e2:Ext}{g:Gh}{l:LG}{w:World}(h:Ent e1 g l w)(hl:LeB e2 e1)(hc:cnt e1<=cnt e2):Ent e2 g l w where
 ex k v hk:=by
  obtain ⟨u,hu,hw⟩:=hl.at_ hk
  obtain ⟨b,h1,h2,h3⟩:=h.ex k u hu
  exact ⟨b,h1.le hw,h2,h3.le hw⟩
 olt:=h.olt
 uo:=h.uo
 fresh:=⟨h.fresh.1,fun n hn=>h.fresh.2.1 n (Nat.le_trans hc hn),fun n c hn=>h.fresh.2.2 n c (Nat.le_trans hc hn)⟩
 xlt:=h.xlt
 only:=h.only
 glb:=h.glb
theorem eff_ext{P:Program}{f:FuncId}{args:List PV}{r:CRes}{e1 e2 e':Ext}(h:(Ob.eff f args e2 r e').ok P)(hl:LeB e2 e1)(hc:cnt e1<=cnt e2):(Ob.eff f args e1 r e').ok P:=⟨h.1,fun vs g l w ha he=>h.2 vs g l w ha (Ent.le he hl hc)⟩
section
variable (m:Mo) (ty:Bool) (to:BA) (nm:BA) (ns:List BA) (d:Nat) (hns:∀x,x∈ns->unR m x=false) (hu:Pu 50 [.agg (moL m),.str nm,.bool ty] (.ret (.sl 1 (nmsC ns)))) (dv:BA->List BA->Bool × List BA) (hwk:∀ (x:BA) (s:List BA),(s++[x]).length+cU m (s++[x])<=1000000000/\cU m (s++[x])<d->Ef 49 [.str x,.ro (moL m) 0,.ro [.bool ty] 0,.ro [.str to] 0,.xp 0 0,.xp 1 0] [(0,[.uniq 9 1 (nmsC s++[[.str x]])]),(1,[.v (.fn (.func 49) [] (vsC m ty to))])] (.ret (.bool (dv x (s++[x])).1)) (vsE m ty to (dv x (s++[x])).2)) (hdv:∀x s,s.length+cU m s<=1000000000/\cU m s<d->(dv x s).2.length+cU m (dv x s).2<=1000000000/\cU m (dv x s).2<d) (s0:List BA) (hN:ns.length<=1000000000) (hv:s0.length+cU m s0<=1000000000/\cU m s0<=d)
include m ty to nm ns d hns hu dv hwk hdv s0 hN hv
theorem vsL_1(hy0:List BA)(hx1:vsA_f to dv ns s0=vsA_R.e0 hy0):Ef 49 [.str nm,.ro (moL m) 0,.ro [.bool ty] 0,.ro [.str to] 0,.xp 0 0,.xp 1 0] (vsE m ty to s0) (rB true) ([(0,[.uniq 9 1 (nmsC hy0)]),(1,[.v (.fn (.func 49) [] [.ro (moL m) 0,.ro [.bool ty] 0,.ro [.str to] 0,.xp 0 0,.xp 1 0])])]):=
 ef mdV [cl hu,sl (nmsC_len ns),lq (rz (vsA_lp (m) (ty) (to) (nm) (ns) (d) hns hu (dv) hwk hdv default hN (s0) hv) hx1)] func49
theorem vsL_2(hy0:BA)(hy1:List BA)(hx2:vsA_f to dv ns s0=vsA_R.e1 hy0 hy1):Ef 49 [.str nm,.ro (moL m) 0,.ro [.bool ty] 0,.ro [.str to] 0,.xp 0 0,.xp 1 0] (vsE m ty to s0) (rB true) ([(0,[.uniq 9 1 (nmsC (Prod.snd (dv hy0 (hy1++[hy0]))))]),(1,[.v (.fn (.func 49) [] [.ro (moL m) 0,.ro [.bool ty] 0,.ro [.str to] 0,.xp 0 0,.xp 1 0])])]):=
 ef mdV [cl hu,sl (nmsC_len ns),lq (rz (vsA_lp (m) (ty) (to) (nm) (ns) (d) hns hu (dv) hwk hdv default hN (s0) hv) hx2)] func49
theorem vsL_3(hy0:List BA)(hx1:vsA_f to dv ns s0=vsA_R.e2 hy0):Ef 49 [.str nm,.ro (moL m) 0,.ro [.bool ty] 0,.ro [.str to] 0,.xp 0 0,.xp 1 0] (vsE m ty to s0) (rB false) ([(0,[.uniq 9 1 (nmsC hy0)]),(1,[.v (.fn (.func 49) [] [.ro (moL m) 0,.ro [.bool ty] 0,.ro [.str to] 0,.xp 0 0,.xp 1 0])])]):=
 ef mdV [cl hu,sl (nmsC_len ns),lq (rz (vsA_lp (m) (ty) (to) (nm) (ns) (d) hns hu (dv) hwk hdv default hN (s0) hv) hx1)] func49
end
theorem rcL(m:Mo)(ty:Bool)(fr to:BA)(b:Bool)(s1:List BA)(hv:Ef 49 [.str fr,.ro (moL m) 0,.ro [.bool ty] 0,.ro [.str to] 0,.xp 0 0,.xp 1 0] [(0,[.v .nilsl]),(1,[.v (.fn (.func 49) [] (vsC m ty to))])] (.ret (.bool b)) (vsE m ty to s1)):Ef 24 [.agg (moL m),.str fr,.str to,.bool ty] ([]) (rB b) ([(0,[.uniq 9 1 (nmsC s1)]),(1,[.v (.fn (.func 49) [] [.ro (moL m) 0,.ro [.bool ty] 0,.ro [.str to] 0,.xp 0 0,.xp 1 0])])]):=
 ef mdV [ce hv] func24
def vsS(dv:BA->List BA->Bool × List BA):vsA_R->Bool × List BA
 | .e0 s=>(true,s)
 | .e1 el s=>(true,(dv el (s++[el])).2)
 | .e2 s=>(false,s)
def vsK(m:Mo)(ty:Bool)(to:BA):Nat->BA->List BA->Bool × List BA
 | 0,_,s=>(false,s)
 | d+1,nm,s=>vsS (vsK m ty to d) (vsA_f to (vsK m ty to d) (usF m nm ty) s)
theorem vsA_keep{m:Mo}{to:BA}{dv:BA->List BA->Bool × List BA}{B C:Nat}(hdv:∀x s,s.length+cU m s<=B/\cU m s<=C->(dv x s).2.length+cU m (dv x s).2<=B/\cU m (dv x s).2<=C):∀ (ns s:List BA),(∀x,x∈ns->unR m x=false)->s.length+cU m s<=B/\cU m s<=C->(vsS dv (vsA_f to dv ns s)).2.length+cU m (vsS dv (vsA_f to dv ns s)).2<=B/\cU m (vsS dv (vsA_f to dv ns s)).2<=C
 | [],s,_,h=>h
 | x::r,s,hns,h=>by
  rw [vsA_f]
  split
  ·exact h
  ·split
   ·rename_i hx
    have h1:=cU_step (hns x List.mem_cons_self) hx
    have h2:=hdv x (s++[x]) (by simp only [List.length_append,List.length_cons,List.length_nil]; omega)
    split
    ·exact h2
    ·exact vsA_keep hdv r _ (fun y hy=>hns y (List.mem_cons_of_mem _ hy)) h2
   ·exact vsA_keep hdv r s (fun y hy=>hns y (List.mem_cons_of_mem _ hy)) h
theorem vsK_keep(m:Mo)(ty:Bool)(to:BA)(B C:Nat):∀ (d:Nat) (nm:BA) (s:List BA),s.length+cU m s<=B/\cU m s<=C->(vsK m ty to d nm s).2.length+cU m (vsK m ty to d nm s).2<=B/\cU m (vsK m ty to d nm s).2<=C
 | 0,_,_,h=>h
 | d+1,nm,s,h=>vsA_keep (fun x s h=>vsK_keep m ty to B C d x s h) _ s (fun x hx=>usF_un hx) h
theorem vs_ok(m:Mo)(ty:Bool)(to:BA)(hs:bulkPs (moL m)<=100000000):∀ (d:Nat) (nm:BA) (s:List BA),s.length+cU m s<=1000000000->cU m s<d->Ef 49 [.str nm,.ro (moL m) 0,.ro [.bool ty] 0,.ro [.str to] 0,.xp 0 0,.xp 1 0] (vsE m ty to s) (.ret (.bool (vsK m ty to d nm s).1)) (vsE m ty to (vsK m ty to d nm s).2)
 | 0,_,_,_,h=>by omega
 | d+1,nm,s,h1,h2=>by
  have hN:=usF_len m nm ty
  have hu:=usFT m nm ty hs
  have hwk:∀ (x:BA) (s:List BA),(s++[x]).length+cU m (s++[x])<=1000000000/\cU m (s++[x])<d->Ef 49 [.str x,.ro (moL m) 0,.ro [.bool ty] 0,.ro [.str to] 0,.xp 0 0,.xp 1 0] [(0,[.uniq 9 1 (nmsC s++[[.str x]])]),(1,[.v (.fn (.func 49) [] (vsC m ty to))])] (.ret (.bool (vsK m ty to d x (s++[x])).1)) (vsE m ty to (vsK m ty to d x (s++[x])).2):=fun x s h=>by
   have:=vs_ok m ty to hs d x (s++[x]) h.1 h.2
   rw [vsE,nmsC_snoc] at this
   exact this
  have hdv:∀x s,s.length+cU m s<=1000000000/\cU m s<d->(vsK m ty to d x s).2.length+cU m (vsK m ty to d x s).2<=1000000000/\cU m (vsK m ty to d x s).2<d:=fun x s h=>by
   have:=vsK_keep m ty to 1000000000 (cU m s) d x s ⟨h.1,Nat.le_refl _⟩
   omega
  have L1:=vsL_1 m ty to nm (usF m nm ty) d (fun x hx=>usF_un hx) hu _ hwk hdv s oM oM
  have L2:=vsL_2 m ty to nm (usF m nm ty) d (fun x hx=>usF_un hx) hu _ hwk hdv s oM oM
  have L3:=vsL_3 m ty to nm (usF m nm ty) d (fun x hx=>usF_un hx) hu _ hwk hdv s oM oM
  rw [vsK]
  cases hf:vsA_f to (vsK m ty to d) (usF m nm ty) s with
  | e0 p=>exact L1 p hf
  | e1 el p=>exact L2 el p hf
  | e2 p=>exact L3 p hf
theorem cU_le(m:Mo)(s:List BA):cU m s<=(moF m).length:=List.length_filter_le _ _
def rcF(m:Mo)(fr to:BA)(ty:Bool):Bool:=(vsK m ty to ((moF m).length+1) fr []).1
theorem rcT(m:Mo)(fr to:BA)(ty:Bool)(hs:bulkPs (moL m)<=100000000):Pu 24 [.agg (moL m),.str fr,.str to,.bool ty] (.ret (.bool (rcF m fr to ty))):=by
 have h1:=cU_le m []
 have h2:=moF_len m
 have h3:=eff_ext (e1:=[(0,[.v .nilsl]),(1,[.v (.fn (.func 49) [] (vsC m ty to))])]) (vs_ok m ty to hs _ fr [] (by simp only [List.length_nil]; omega) (show cU m []<(moF m).length+1 by omega)) ⟨⟨.inr rfl,tVv⟩,WLs.refl _,tVv⟩ (Nat.le_refl _)
 exact Ob.pur_of_eff (by rw [noXs,PV.noX,Mo.nx]; rfl) rfl (rcL m ty fr to _ _ h3)
open Go.Pv Go.RowKit
section
variable {P:Program} {cx:Cx} {s:S} {Q:PExit->S->Prop} {o:Oper} {all:Array Oper} {rest:List Oper}
theorem PL_idxX{t j d x m len:Nat}{kk:IntKind}{i:Int}{ty:TypeId}(hg:o.guard=none)(ho:o.op = .indexAddr ty (.tmp t) (.tmp j))(hd:o.dst=some d)(hn:d<cx.n)(he:(elemT P ty).bind (csz P)=some (m+1))(ht:lk s.tmps t=some (.v (.xsl x (m+1) len)))(hj:lk s.tmps j=some (.v (.int kk i)))(hi:0<=i/\i<(len:Int))(hk:PL P cx all rest { s with tmps:=put s.tmps d (.v (.xp x (i.toNat * (m+1)))) } Q):PL P cx all (o::rest) s Q:=
 PL_act (ro:=fun _=>some false) (ops:=[]) hg (by
  simp only [act,ho,actIA,he,ev,evP,RM.wp,ht,hj,toP,yslOf,xslOf,slOf,if_true,wv,hd,hn]
  exact ⟨decide_eq_true hi,hk⟩)
theorem PL_ldX{t d x m off:Nat}{ty:TypeId}{cs:List LV}{ps:List PV}(hg:o.guard=none)(ho:o.op = .load ty (.tmp t))(hd:o.dst=some d)(hn:d<cx.n)(ha:aggT P ty=some true)(hm:csz P ty=some m)(ht:lk s.tmps t=some (.v (.xp x off)))(hx:lk s.ext x=some cs)(hmm:notMM cs=true)(hle:off+m<=cs.length)(hp:toPs ((cs.drop off).take m)=some ps)(hk:PL P cx all rest { s with tmps:=put s.tmps d (.v (.agg ps)) } Q):PL P cx all (o::rest) s Q:=
 PL_act (ro:=fun _=>some false) (ops:=[]) hg (by
  simp only [act,ho,actLoad,ev,RM.wp,ht,hx,hmm,if_true,ldC,ha,hm,hle,hp,wv,hd,hn]
  exact hk)
theorem PL_newB{d:Nat}{ty:TypeId}{zs:List PV}(hg:o.guard=none)(ho:o.op = .alloc ty)(hd:o.dst=some d)(hn:d<cx.n)(hz:zro P ty=some zs)(hk:PL P cx all rest { s with tmps:=put (killp d s.tmps) d (.lp d 0),boxes:=put s.boxes d (zs.map .v) } Q):PL P cx all (o::rest) s Q:=
 PL_act (ro:=fun _=>some false) (ops:=[]) hg (by
  simp only [act,ho,actAlloc,hz,hd,hn,if_true,RM.wp,Option.isNone,Bool.false_eq_true,if_false]
  exact hk)
theorem PL_stB{t y i off m:Nat}{ty:TypeId}{cs:List LV}{ps:List PV}(hg:o.guard=none)(ho:o.op = .store ty (.tmp t) (.tmp y))(hd:o.dst=none)(ha:aggT P ty=some true)(hm:csz P ty=some m)(ht:lk s.tmps t=some (.lp i off))(hy:lk s.tmps y=some (.v (.agg ps)))(hb:lk s.boxes i=some cs)(hl:ps.length=m)(hle:off+m<=cs.length)(hk:PL P cx all rest { s with boxes:=put s.boxes i (splice cs off (ps.map .v)) } Q):PL P cx all (o::rest) s Q:=
 PL_act (ro:=fun _=>some false) (ops:=[]) hg (by
  simp only [act,ho,actStore,hd,ev,RM.wp,ht,hy,hb,stGo,hm,stV,ha,List.length_map,hl,hle,and_self,if_true,S.wrs,S.wr]
  exact hk)
theorem PL_stX{t x off:Nat}{ty:TypeId}{c:Value}{cs:List LV}{p:PV}(hg:o.guard=none)(ho:o.op = .store ty (.tmp t) (.const c))(hd:o.dst=none)(hc:cv c=some p)(h1:p.one=true)(ha:aggT P ty=some false)(hm:csz P ty=some 1)(ht:lk s.tmps t=some (.v (.xp x off)))(hx:lk s.ext x=some cs)(hmm:notMM cs=true)(hle:off+1<=cs.length)(hk:PL P cx all rest { s with ext:=put s.ext x (splice cs off [.v p]) } Q):PL P cx all (o::rest) s Q:=
 PL_act (ro:=fun _=>some false) (ops:=[]) hg (by
  simp only [act,ho,actStore,hd,ev,hc,RM.wp,ht,hx,hmm,stGo,hm,stV,ha,h1,List.length_cons,List.length_nil,hle,and_self,if_true,S.wrs,S.wr]
  exact hk)
theorem PL_faX{t d x off f fo c:Nat}{ty ft:TypeId}(hg:o.guard=none)(ho:o.op = .fieldAddr ty (.tmp t) f)(hd:o.dst=some d)(hn:d<cx.n)(hf:foff P ty f=some (fo,ft))(hc:csz P ft=some (c+1))(ht:lk s.tmps t=some (.v (.xp x off)))(hk:PL P cx all rest { s with tmps:=put s.tmps d (.v (.xp x (off+fo))) } Q):PL P cx all (o::rest) s Q:=
 PL_act (ro:=fun _=>some false) (ops:=[]) hg (by
  simp only [act,ho,actFA,hf,hc,ev,RM.wp,ht,wv,hd,hn,if_true]
  exact hk)
theorem PL_faB{t d i off f fo c:Nat}{ty ft:TypeId}(hg:o.guard=none)(ho:o.op = .fieldAddr ty (.tmp t) f)(hd:o.dst=some d)(hn:d<cx.n)(hf:foff P ty f=some (fo,ft))(hc:csz P ft=some (c+1))(ht:lk s.tmps t=some (.lp i off))(hk:PL P cx all rest { s with tmps:=put s.tmps d (.lp i (off+fo)) } Q):PL P cx all (o::rest) s Q:=
 PL_act (ro:=fun _=>some false) (ops:=[]) hg (by
  simp only [act,ho,actFA,hf,hc,ev,RM.wp,ht,wv,hd,hn,if_true]
  exact hk)
theorem PL_ldB{t d i off:Nat}{ty:TypeId}{cs:List LV}{p:PV}(hg:o.guard=none)(ho:o.op = .load ty (.tmp t))(hd:o.dst=some d)(hn:d<cx.n)(ha:aggT P ty=some false)(ht:lk s.tmps t=some (.lp i off))(hb:lk s.boxes i=some cs)(hp:cs[off]?=some (.v p))(hk:PL P cx all rest { s with tmps:=put s.tmps d (.v p) } Q):PL P cx all (o::rest) s Q:=
 PL_act (ro:=fun _=>some false) (ops:=[]) hg (by
  simp only [act,ho,actLoad,ev,RM.wp,ht,hb,ldC,ha,hp,wv,hd,hn,if_true]
  exact hk)
theorem PL_asV{t d:Nat}{p:PV}(hg:o.guard=none)(ho:o.op = .assign (.tmp t))(hd:o.dst=some d)(hn:d<cx.n)(hl:lk s.tmps t=some (.v p))(hk:PL P cx all rest { s with tmps:=put s.tmps d (.v p) } Q):PL P cx all (o::rest) s Q:=fun g l a w hs=>by
 refine wpList_plain hg fun K hK=>?_
 unfold Oper.wp
 rw [show (execOp a.eval o).run P w = .ok (.value (a.eval (.tmp t))) w by simp only [execOp,ho]; rfl,Oper.upon_value,hd]
 exact hK _ _ (hk g l _ w (hs.set hn (hs.tm t _ hl)))
end
theorem splice_all{α:Type}:∀ {cs vs:List α},cs.length=vs.length->splice cs 0 vs=vs
 | [],[],_=>rfl
 | [],_::_,h=>by cases h
 | _::_,[],h=>by cases h
 | c::cs,v::vs,h=>by rw [splice,splice_all (by simpa using h)]
def rowV(l:List Df):List LV:=(Df.cs l).flatten.map .v
theorem rowV_cons(d:Df)(l:List Df):rowV (d::l)=dfV d++rowV l:=rfl
theorem rowV_len:∀l:List Df,(rowV l).length=l.length * 25
 | []=>rfl
 | d::l=>by rw [rowV_cons,List.length_append,rowV_len l]; show 25+l.length * 25=(l.length+1) * 25; omega
theorem rowV_at:∀ (l:List Df) (i:Nat),i<l.length->((rowV l).drop (i * 25)).take 25=dfV (l.getD i default)
 | [],i,h=>by simp at h
 | d::l,0,_=>by rw [rowV_cons,Nat.zero_mul,List.drop_zero]; rfl
 | d::l,i+1,h=>by
  rw [rowV_cons,Nat.add_mul,Nat.one_mul,Nat.add_comm,<-List.drop_drop]
  show ((rowV l).drop (i * 25)).take 25=_
  rw [rowV_at l i (by simpa using h)]
  rfl
def dfPl(d:Df):Df := .mk (dfNm d) (dfP d) (dfB d) 0 (dfTy d) (dfVs d) (dfNe d) (dfAb d) (dfBo d) (dfT d) (dfMe d)
theorem splice_app{α:Type}:∀ (a b:List α) (k:Nat) (vs:List α),splice (a++b) (a.length+k) vs=a++splice b k vs
 | [],b,k,vs=>by simp
 | x::a,b,k,vs=>by
  rw [List.length_cons,show a.length+1+k=a.length+k+1 by omega,List.cons_append,splice,splice_app a b k vs]
  rfl
theorem splice_10{α:Type}(x0 x1 x2 x3 x4 x5 x6 x7 x8 x9 y:α)(r:List α):splice (x0::x1::x2::x3::x4::x5::x6::x7::x8::x9::r) 9 [y]=x0::x1::x2::x3::x4::x5::x6::x7::x8::y::r:=by
 simp only [splice]
theorem rowV_set:∀ (l:List Df) (i:Nat),i<l.length->splice (rowV l) (i * 25+9) [.v (.int .i64 0)]=rowV (l.set i (dfPl (l.getD i default)))
 | [],i,h=>by simp at h
 | d::l,0,_=>by rw [Nat.zero_mul,Nat.zero_add,List.set_cons_zero,rowV_cons,rowV_cons]; exact splice_10 ..
 | d::l,i+1,h=>by
  have e:(i+1) * 25+9=(dfV d).length+(i * 25+9):=by rw [Nat.add_mul]; show _=25+_; omega
  rw [rowV_cons,e,splice_app,rowV_set l i (by simpa using h),List.set_cons_succ,rowV_cons]
  rfl
theorem notMM_row':∀l:List Df,notMM (rowV l)=true
 | []=>rfl
 | _::_=>rfl
def sh(o:Oper):Op × Option (Nat × Bool) × Option Nat:=(o.op,o.guard,o.dst)
def reg6:Code->Option (Oper × Oper × Oper × Oper × Oper × Oper)
 | .region _ ⟨[a,b,c,d,e,f]⟩ false=>some (a,b,c,d,e,f)
 | _=>none
theorem reg6_of{c:Code}{x0 x1 x2 x3 x4 x5:Op × Option (Nat × Bool) × Option Nat}(h:(reg6 c).map (fun z=>(sh z.1,sh z.2.1,sh z.2.2.1,sh z.2.2.2.1,sh z.2.2.2.2.1,sh z.2.2.2.2.2))=some (x0,x1,x2,x3,x4,x5)) :
  ∃id o0 o1 o2 o3 o4 o5,c = .region id #[o0,o1,o2,o3,o4,o5] false/\sh o0=x0/\sh o1=x1/\sh o2=x2/\sh o3=x3/\sh o4=x4/\sh o5=x5:=by
 unfold reg6 at h
 split at h
 ·simp only [Option.map_some,Option.some.injEq,Prod.mk.injEq] at h
  obtain ⟨h0,h1,h2,h3,h4,h5⟩:=h
  exact ⟨_,_,_,_,_,_,_,rfl,h0,h1,h2,h3,h4,h5⟩
 ·cases h
theorem sh_op{o:Oper}{a:Op}{b:Option (Nat × Bool)}{c:Option Nat}(h:sh o=(a,b,c)):o.op=a/\o.guard=b/\o.dst=c:=by
 injection h with h1 h2
 injection h2 with h2 h3
 exact ⟨h1,h2,h3⟩
abbrev ouW(m:Mo):List LV:=[.v (.sl 4 (Da.cs (moD m))),.v (.sl 3 (Cl.cs (moC m))),.v (.sl 12 (In.cs (moI m))),.v (.sl 8 (Ms.cs (moM m))),.v (.sl 6 (Qu.cs (moQ m))),.v (.xsl 0 25 (moF m).length)]
abbrev ouZ:List LV:=[.v .nilsl,.v .nilsl,.v .nilsl,.v .nilsl,.v .nilsl,.v .nilsl]
abbrev ouI(nm:ByteArray)(m:Mo)(l:List Df)(j:Int):S:=⟨[(1,.v (.str nm)),(2,.lp 2 0),(4,.lp 4 0),(7,.lp 7 0),(26,.v (.xsl 0 25 (moF m).length)),(27,.v (.int .i64 (moF m).length)),(28,.v (.int .i64 j))],[(2,moV m),(4,ouZ),(7,ouW m)],[(0,rowV l)]⟩
abbrev ouJ(nm:ByteArray)(m:Mo)(l:List Df)(j:Int)(d:Df):S:=⟨[(1,.v (.str nm)),(2,.lp 2 0),(4,.lp 4 0),(7,.lp 7 0),(26,.v (.xsl 0 25 (moF m).length)),(27,.v (.int .i64 (moF m).length)),(28,.v (.int .i64 j)),(8,.v (.int .i64 j)),(9,.lp 9 0)],[(2,moV m),(4,ouZ),(7,ouW m),(9,dfV d)],[(0,rowV l)]⟩
theorem PL_end{P:Program}{cx:Cx}{s t:S}{all:Array Oper}{pe:PExit}(hp:pe = .normal)(h:Le t s):PL P cx all [] s (fun pe' s'=>pe'=pe/\s'=t):=PL_le h (PL_nil (Q:=fun pe' s'=>pe'=pe/\s'=t) ⟨hp.symm,rfl⟩)
theorem og8(nm:ByteArray)(m:Mo)(l:List Df)(i:Nat)(hi:i<(moF m).length)(hv:l.length=(moF m).length):(Ob.frag 70 (regF Tryz.f8 8) (ouI nm m l i) .normal (ouJ nm m l i (l.getD i default))).ok Tryz.prog:=by
 obtain ⟨id,o0,o1,o2,o3,o4,o5,hc,h0,h1,h2,h3,h4,h5⟩:=reg6_of (c:=regF Tryz.f8 8) (x0:=(.move (.tmp 28),none,some 30)) (x1:=(.indexAddr 27 (.tmp 26) (.tmp 28),none,some 31)) (x2:=(.load 52 (.tmp 31),none,some 32)) (x3:=(.alloc 52,none,some 9)) (x4:=(.assign (.tmp 30),none,some 8)) (x5:=(.store 52 (.tmp 9) (.tmp 32),none,none)) (by kernel_rfl)
 rw [hc]
 intro cx hcx g l0 a w hs
 refine wp_region_lit ?_
 have hn:∀k,k<70->k<cx.n:=fun k hk=>by rw [hcx]; exact hk
 have hi2:i<l.length:=by omega
 obtain ⟨a0,b0,c0⟩:=sh_op h0
 obtain ⟨a1,b1,c1⟩:=sh_op h1
 obtain ⟨a2,b2,c2⟩:=sh_op h2
 obtain ⟨a3,b3,c3⟩:=sh_op h3
 obtain ⟨a4,b4,c4⟩:=sh_op h4
 obtain ⟨a5,b5,c5⟩:=sh_op h5
 refine (PL_moveV b0 a0 c0 (hn _ (by decide)) (p := .int .i64 i) rfl ?_:PL _ _ _ _ _ _) g l0 a w hs
 refine PL_idxX b1 a1 c1 (hn _ (by decide)) (m:=24) (by kernel_rfl) (x:=0) (len:=(moF m).length) rfl (kk := .i64) (i:=i) rfl ⟨by omega,by omega⟩ ?_
 refine PL_ldX b2 a2 c2 (hn _ (by decide)) (m:=25) (by kernel_rfl) (by kernel_rfl) (x:=0) (off:=i * 25) rfl (cs:=rowV l) rfl (notMM_row' l) (by rw [rowV_len]; omega) (ps:=dfL (l.getD i default)) (by rw [rowV_at l i hi2]; rfl) ?_
 have hz1:(zro Tryz.prog 52).map List.length=some 25:=by kernel_rfl
 obtain ⟨zs,hz,hz2⟩:=Option.map_eq_some_iff.1 hz1
 refine PL_newB b3 a3 c3 (hn _ (by decide)) (zs:=zs) hz ?_
 refine PL_asV b4 a4 c4 (hn _ (by decide)) (p := .int .i64 i) rfl ?_
 refine PL_stB b5 a5 c5 (m:=25) (by kernel_rfl) (by kernel_rfl) (i:=9) (off:=0) rfl (ps:=dfL (l.getD i default)) rfl (cs:=zs.map .v) rfl rfl (by rw [List.length_map,hz2]; decide) ?_
 rw [splice_all (show (zs.map LV.v).length=((dfL (l.getD i default)).map LV.v).length by rw [List.length_map,hz2]; rfl)]
 exact PL_end rfl ⟨⟨WL.r,WL.r,WL.r,WL.r,WL.r,WL.r,WL.r,WL.r,WL.r,trivial⟩,⟨WLs.refl _,WLs.refl _,WLs.refl _,WLs.refl _,trivial⟩,⟨WLs.refl _,trivial⟩,Nat.le_refl _⟩
theorem og12(nm:ByteArray)(m:Mo)(l:List Df)(i:Nat)(d:Df)(hi:i<(moF m).length)(hv:l.length=(moF m).length):(Ob.frag 70 (regF Tryz.f8 12) (ouJ nm m l i d) .normal (ouI nm m (l.set i (dfPl (l.getD i default))) i)).ok Tryz.prog:=by
 obtain ⟨id,o0,o1,o2,o3,o4,o5,hc,h0,h1,h2,h3,h4,h5⟩:=reg6_of (c:=regF Tryz.f8 12) (x0:=(.fieldAddr 29 (.tmp 7) 5,none,some 63)) (x1:=(.load 27 (.tmp 63),none,some 64)) (x2:=(.move (.tmp 8),none,some 65)) (x3:=(.indexAddr 27 (.tmp 64) (.tmp 65),none,some 66)) (x4:=(.fieldAddr 52 (.tmp 66) 3,none,some 67)) (x5:=(.store 38 (.tmp 67) (.const (.int .i64 0)),none,none)) (by kernel_rfl)
 rw [hc]
 intro cx hcx g l0 a w hs
 refine wp_region_lit ?_
 have hn:∀k,k<70->k<cx.n:=fun k hk=>by rw [hcx]; exact hk
 have hi2:i<l.length:=by omega
 obtain ⟨a0,b0,c0⟩:=sh_op h0
 obtain ⟨a1,b1,c1⟩:=sh_op h1
 obtain ⟨a2,b2,c2⟩:=sh_op h2
 obtain ⟨a3,b3,c3⟩:=sh_op h3
 obtain ⟨a4,b4,c4⟩:=sh_op h4
 obtain ⟨a5,b5,c5⟩:=sh_op h5
 refine (PL_faB b0 a0 c0 (hn _ (by decide)) (fo:=5) (ft:=27) (c:=0) (by kernel_rfl) (by kernel_rfl) (i:=7) (off:=0) rfl ?_:PL _ _ _ _ _ _) g l0 a w hs
 refine PL_ldB b1 a1 c1 (hn _ (by decide)) (by kernel_rfl) (i:=7) (off:=5) rfl (cs:=ouW m) rfl (p := .xsl 0 25 (moF m).length) rfl ?_
 refine PL_moveV b2 a2 c2 (hn _ (by decide)) (p := .int .i64 i) rfl ?_
 refine PL_idxX b3 a3 c3 (hn _ (by decide)) (m:=24) (by kernel_rfl) (x:=0) (len:=(moF m).length) rfl (kk := .i64) (i:=i) rfl ⟨by omega,by omega⟩ ?_
 refine PL_faX b4 a4 c4 (hn _ (by decide)) (fo:=9) (ft:=38) (c:=0) (by kernel_rfl) (by kernel_rfl) (x:=0) (off:=i * 25) rfl ?_
 refine PL_stX b5 a5 c5 (p := .int .i64 0) (by kernel_rfl) rfl (by kernel_rfl) (by kernel_rfl) (x:=0) (off:=i * 25+9) rfl (cs:=rowV l) rfl (notMM_row' l) (by rw [rowV_len]; omega) ?_
 rw [rowV_set l i hi2]
 exact PL_end rfl ⟨⟨WL.r,WL.r,WL.r,WL.r,WL.r,WL.r,WL.r,trivial⟩,⟨WLs.refl _,WLs.refl _,WLs.refl _,trivial⟩,⟨WLs.refl _,trivial⟩,Nat.le_refl _⟩
def mdQ7:Md:=⟨fun _=>some false,fun t=>t==1000008||t==1000012⟩
abbrev ouA_I(nm:BA)(m:Mo)(l0:List Df)(j:Int)(l:List Df)  : S:=S.mk [(1,vS nm),(2,.lp 2 0),(4,.lp 4 0),(7,.lp 7 0),(26,.v (PV.xsl 0 25 (List.length (moF m)))),(27,vI6 ((moF m).length:Int)),(28,vI6 j)] [(2,moV m),(4,[.v .nilsl,.v .nilsl,.v .nilsl,.v .nilsl,.v .nilsl,.v .nilsl]),(7,[vL 4 (Da.cs (moD m)),vL 3 (Cl.cs (moC m)),vL 12 (In.cs (moI m)),vL 8 (Ms.cs (moM m)),vL 6 (Qu.cs (moQ m)),.v (PV.xsl 0 25 (List.length (moF m)))])] [(0,rowV l)]
def ouA_f(nm:BA)(m:Mo):List Df->Nat->(List Df)->(List Df)
 | [],i,l=>(l)
 | el::r,i,l=>(if dfM (List.getD l i default)=2 then (if dfNm (List.getD l i default)=nm then (if rcF m (dfNm (List.getD l i default)) (dfNm (List.getD l i default)) false=true then ouA_f nm m r (i+1) (List.set l i (dfPl (List.getD l i default))) else ouA_f nm m r (i+1) (l)) else (if rcF m nm (dfNm (List.getD l i default)) true=true then (if rcF m (dfNm (List.getD l i default)) nm true=true then (if rcF m (dfNm (List.getD l i default)) (dfNm (List.getD l i default)) false=true then ouA_f nm m r (i+1) (List.set l i (dfPl (List.getD l i default))) else ouA_f nm m r (i+1) (l)) else ouA_f nm m r (i+1) (l)) else ouA_f nm m r (i+1) (l))) else ouA_f nm m r (i+1) (l))
noncomputable def ouA_q (nm:BA) (m:Mo) (l0:List Df)  (p:(List Df)):PExit × S:=(.exit 0,S.mk [(1,vS nm),(2,.lp 2 0),(4,.lp 4 0),(7,.lp 7 0),(26,.v (PV.xsl 0 25 (List.length (moF m)))),(27,vI6 ((moF m).length:Int))] [(2,moV m),(4,[.v .nilsl,.v .nilsl,.v .nilsl,.v .nilsl,.v .nilsl,.v .nilsl]),(7,[vL 4 (Da.cs (moD m)),vL 3 (Cl.cs (moC m)),vL 12 (In.cs (moI m)),vL 8 (Ms.cs (moM m)),vL 6 (Qu.cs (moQ m)),.v (PV.xsl 0 25 (List.length (moF m)))])] [(0,rowV p)])
theorem ouA(nm:BA)(m:Mo)(hs:bulkPs (moL m)<=100000000)(l0:List Df)(l:List Df)(hN:(moF m).length<=1000000000)(hv:List.length l=List.length (moF m)):(Ob.loop 70 (loopF f8 0) (ouA_I nm m l0 0 l) (ouA_q nm m l0  (ouA_f nm m ((moF m)) 0 l)).1 (ouA_q nm m l0  (ouA_f nm m ((moF m)) 0 l)).2).ok prog:=by
 refine rng ((moF m).length) (fun j l=>ouA_I nm m l0 j l) (fun i l=>ouA_f nm m (List.drop i ((moF m))) i l) (ouA_q nm m l0) (fun i l=>(l.length=(moF m).length)) kR ?_ l (by first | exact hv | omega)
 rintro i l hi hv
 try simp only at hv
 rcases Nat.lt_or_ge i ((moF m).length) with hlt | hge
 ·have hd:=drop_at hlt
  refine t0 ?_;refine tp [dt ((i:Int)<((moF m).length:Int)),lg (@og8 nm m l i hlt hv)] ?_;by_cases h0:dfM (List.getD l i default)=2
  ·refine tp [nn1 h0] ?_;by_cases h1:dfNm (List.getD l i default)=nm
   ·refine tp [rp 8 (bt (ByteArray.toList (dfNm (List.getD l i default))==ByteArray.toList nm) (bsT h1)),rp 6 (bt true),cl (@rcT m (dfNm (List.getD l i default)) (dfNm (List.getD l i default)) false hs),bt true] ?_;by_cases h2:rcF m (dfNm (List.getD l i default)) (dfNm (List.getD l i default)) false=true
    ·exact tS mdQ7 [bt1 h2,lg (@og12 nm m l i (List.getD l i default) hlt hv),wr ((i:Int)+1)] [1,2,4,7,26,27,28] [2,4,7] hlt (List.set l i (dfPl (List.getD l i default))) (S.mk [(1,vS nm),(2,.lp 2 0),(4,.lp 4 0),(7,.lp 7 0),(26,.v (PV.xsl 0 25 (List.length (moF m)))),(27,vI6 ((moF m).length:Int)),(28,vI6 ((i:Int)+1))] [(2,moV m),(4,[.v .nilsl,.v .nilsl,.v .nilsl,.v .nilsl,.v .nilsl,.v .nilsl]),(7,[vL 4 (Da.cs (moD m)),vL 3 (Cl.cs (moC m)),vL 12 (In.cs (moI m)),vL 8 (Ms.cs (moM m)),vL 6 (Qu.cs (moQ m)),.v (PV.xsl 0 25 (List.length (moF m)))])] [(0,rowV (List.set l i (dfPl (List.getD l i default))))]) ⟨⟨W,W,W,W,W,W,W,tVv⟩,⟨Ws,Ws,Ws,tVv⟩,(by first | rfl | (simp only [List.nil_append,nmsC_app,nmsC_snoc,Pr.cs_snoc,Tp.cs_snoc,Ex.cs_snoc,Vr.cs_snoc,Df.cs_snoc]; done) | (simp only [List.nil_append,nmsC_app,nmsC_snoc,Pr.cs_snoc,Tp.cs_snoc,Ex.cs_snoc,Vr.cs_snoc,Df.cs_snoc]; rfl))⟩ (by first | assumption | omega | (simp only [List.length_append,List.length_cons,List.length_nil] at *; omega) | simp_all) (by rw [hd,ouA_f,iP h0,iP h1,iP h2])
    ·exact tS mdQ7 [bf1 (bFT h2),wr ((i:Int)+1)] [1,2,4,7,26,27,28] [2,4,7] hlt (l) (S.mk [(1,vS nm),(2,.lp 2 0),(4,.lp 4 0),(7,.lp 7 0),(26,.v (PV.xsl 0 25 (List.length (moF m)))),(27,vI6 ((moF m).length:Int)),(28,vI6 ((i:Int)+1))] [(2,moV m),(4,[.v .nilsl,.v .nilsl,.v .nilsl,.v .nilsl,.v .nilsl,.v .nilsl]),(7,[vL 4 (Da.cs (moD m)),vL 3 (Cl.cs (moC m)),vL 12 (In.cs (moI m)),vL 8 (Ms.cs (moM m)),vL 6 (Qu.cs (moQ m)),.v (PV.xsl 0 25 (List.length (moF m)))])] [(0,rowV l)]) ⟨⟨W,W,W,W,W,W,W,tVv⟩,⟨Ws,Ws,Ws,tVv⟩,(by first | rfl | (simp only [List.nil_append,nmsC_app,nmsC_snoc,Pr.cs_snoc,Tp.cs_snoc,Ex.cs_snoc,Vr.cs_snoc,Df.cs_snoc]; done) | (simp only [List.nil_append,nmsC_app,nmsC_snoc,Pr.cs_snoc,Tp.cs_snoc,Ex.cs_snoc,Vr.cs_snoc,Df.cs_snoc]; rfl))⟩ (by first | assumption | omega | (simp only [List.length_append,List.length_cons,List.length_nil] at *; omega) | simp_all) (by rw [hd,ouA_f,iP h0,iP h1,iN h2])
   ·refine tp [rp 5 (bf (ByteArray.toList (dfNm (List.getD l i default))==ByteArray.toList nm) (bsF h1)),cl (@rcT m nm (dfNm (List.getD l i default)) true hs),bf (ByteArray.toList (dfNm (List.getD l i default))==ByteArray.toList nm) (bsF h1)] ?_;by_cases h2:rcF m nm (dfNm (List.getD l i default)) true=true
    ·refine tp [rp 5 (bt1 h2),cl (@rcT m (dfNm (List.getD l i default)) nm true hs),bf (ByteArray.toList (dfNm (List.getD l i default))==ByteArray.toList nm) (bsF h1),bt1 h2,bf (ByteArray.toList (dfNm (List.getD l i default))==ByteArray.toList nm) (bsF h1)] ?_;by_cases h3:rcF m (dfNm (List.getD l i default)) nm true=true
     ·refine tp [rp 6 (bt1 h3),cl (@rcT m (dfNm (List.getD l i default)) (dfNm (List.getD l i default)) false hs),bt1 h3] ?_;by_cases h4:rcF m (dfNm (List.getD l i default)) (dfNm (List.getD l i default)) false=true
      ·exact tS mdQ7 [bt1 h4,lg (@og12 nm m l i (List.getD l i default) hlt hv),wr ((i:Int)+1)] [1,2,4,7,26,27,28] [2,4,7] hlt (List.set l i (dfPl (List.getD l i default))) (S.mk [(1,vS nm),(2,.lp 2 0),(4,.lp 4 0),(7,.lp 7 0),(26,.v (PV.xsl 0 25 (List.length (moF m)))),(27,vI6 ((moF m).length:Int)),(28,vI6 ((i:Int)+1))] [(2,moV m),(4,[.v .nilsl,.v .nilsl,.v .nilsl,.v .nilsl,.v .nilsl,.v .nilsl]),(7,[vL 4 (Da.cs (moD m)),vL 3 (Cl.cs (moC m)),vL 12 (In.cs (moI m)),vL 8 (Ms.cs (moM m)),vL 6 (Qu.cs (moQ m)),.v (PV.xsl 0 25 (List.length (moF m)))])] [(0,rowV (List.set l i (dfPl (List.getD l i default))))]) ⟨⟨W,W,W,W,W,W,W,tVv⟩,⟨Ws,Ws,Ws,tVv⟩,(by first | rfl | (simp only [List.nil_append,nmsC_app,nmsC_snoc,Pr.cs_snoc,Tp.cs_snoc,Ex.cs_snoc,Vr.cs_snoc,Df.cs_snoc]; done) | (simp only [List.nil_append,nmsC_app,nmsC_snoc,Pr.cs_snoc,Tp.cs_snoc,Ex.cs_snoc,Vr.cs_snoc,Df.cs_snoc]; rfl))⟩ (by first | assumption | omega | (simp only [List.length_append,List.length_cons,List.length_nil] at *; omega) | simp_all) (by rw [hd,ouA_f,iP h0,iN h1,iP h2,iP h3,iP h4])
      ·exact tS mdQ7 [bf1 (bFT h4),wr ((i:Int)+1)] [1,2,4,7,26,27,28] [2,4,7] hlt (l) (S.mk [(1,vS nm),(2,.lp 2 0),(4,.lp 4 0),(7,.lp 7 0),(26,.v (PV.xsl 0 25 (List.length (moF m)))),(27,vI6 ((moF m).length:Int)),(28,vI6 ((i:Int)+1))] [(2,moV m),(4,[.v .nilsl,.v .nilsl,.v .nilsl,.v .nilsl,.v .nilsl,.v .nilsl]),(7,[vL 4 (Da.cs (moD m)),vL 3 (Cl.cs (moC m)),vL 12 (In.cs (moI m)),vL 8 (Ms.cs (moM m)),vL 6 (Qu.cs (moQ m)),.v (PV.xsl 0 25 (List.length (moF m)))])] [(0,rowV l)]) ⟨⟨W,W,W,W,W,W,W,tVv⟩,⟨Ws,Ws,Ws,tVv⟩,(by first | rfl | (simp only [List.nil_append,nmsC_app,nmsC_snoc,Pr.cs_snoc,Tp.cs_snoc,Ex.cs_snoc,Vr.cs_snoc,Df.cs_snoc]; done) | (simp only [List.nil_append,nmsC_app,nmsC_snoc,Pr.cs_snoc,Tp.cs_snoc,Ex.cs_snoc,Vr.cs_snoc,Df.cs_snoc]; rfl))⟩ (by first | assumption | omega | (simp only [List.length_append,List.length_cons,List.length_nil] at *; omega) | simp_all) (by rw [hd,ouA_f,iP h0,iN h1,iP h2,iP h3,iN h4])
     ·exact tS mdQ7 [rp 7 (bf1 (bFT h3)),bf false,wr ((i:Int)+1)] [1,2,4,7,26,27,28] [2,4,7] hlt (l) (S.mk [(1,vS nm),(2,.lp 2 0),(4,.lp 4 0),(7,.lp 7 0),(26,.v (PV.xsl 0 25 (List.length (moF m)))),(27,vI6 ((moF m).length:Int)),(28,vI6 ((i:Int)+1))] [(2,moV m),(4,[.v .nilsl,.v .nilsl,.v .nilsl,.v .nilsl,.v .nilsl,.v .nilsl]),(7,[vL 4 (Da.cs (moD m)),vL 3 (Cl.cs (moC m)),vL 12 (In.cs (moI m)),vL 8 (Ms.cs (moM m)),vL 6 (Qu.cs (moQ m)),.v (PV.xsl 0 25 (List.length (moF m)))])] [(0,rowV l)]) ⟨⟨W,W,W,W,W,W,W,tVv⟩,⟨Ws,Ws,Ws,tVv⟩,(by first | rfl | (simp only [List.nil_append,nmsC_app,nmsC_snoc,Pr.cs_snoc,Tp.cs_snoc,Ex.cs_snoc,Vr.cs_snoc,Df.cs_snoc]; done) | (simp only [List.nil_append,nmsC_app,nmsC_snoc,Pr.cs_snoc,Tp.cs_snoc,Ex.cs_snoc,Vr.cs_snoc,Df.cs_snoc]; rfl))⟩ (by first | assumption | omega | (simp only [List.length_append,List.length_cons,List.length_nil] at *; omega) | simp_all) (by rw [hd,ouA_f,iP h0,iN h1,iP h2,iN h3])
    ·exact tS mdQ7 [rp 5 (bf1 (bFT h2)),bf (ByteArray.toList (dfNm (List.getD l i default))==ByteArray.toList nm) (bsF h1),bf1 (bFT h2),bf (ByteArray.toList (dfNm (List.getD l i default))==ByteArray.toList nm) (bsF h1),rp 8 (bf false),wr ((i:Int)+1)] [1,2,4,7,26,27,28] [2,4,7] hlt (l) (S.mk [(1,vS nm),(2,.lp 2 0),(4,.lp 4 0),(7,.lp 7 0),(26,.v (PV.xsl 0 25 (List.length (moF m)))),(27,vI6 ((moF m).length:Int)),(28,vI6 ((i:Int)+1))] [(2,moV m),(4,[.v .nilsl,.v .nilsl,.v .nilsl,.v .nilsl,.v .nilsl,.v .nilsl]),(7,[vL 4 (Da.cs (moD m)),vL 3 (Cl.cs (moC m)),vL 12 (In.cs (moI m)),vL 8 (Ms.cs (moM m)),vL 6 (Qu.cs (moQ m)),.v (PV.xsl 0 25 (List.length (moF m)))])] [(0,rowV l)]) ⟨⟨W,W,W,W,W,W,W,tVv⟩,⟨Ws,Ws,Ws,tVv⟩,(by first | rfl | (simp only [List.nil_append,nmsC_app,nmsC_snoc,Pr.cs_snoc,Tp.cs_snoc,Ex.cs_snoc,Vr.cs_snoc,Df.cs_snoc]; done) | (simp only [List.nil_append,nmsC_app,nmsC_snoc,Pr.cs_snoc,Tp.cs_snoc,Ex.cs_snoc,Vr.cs_snoc,Df.cs_snoc]; rfl))⟩ (by first | assumption | omega | (simp only [List.length_append,List.length_cons,List.length_nil] at *; omega) | simp_all) (by rw [hd,ouA_f,iP h0,iN h1,iN h2])
  ·exact tS mdQ7 [nt1 h0,wr ((i:Int)+1)] [1,2,4,7,26,27,28] [2,4,7] hlt (l) (S.mk [(1,vS nm),(2,.lp 2 0),(4,.lp 4 0),(7,.lp 7 0),(26,.v (PV.xsl 0 25 (List.length (moF m)))),(27,vI6 ((moF m).length:Int)),(28,vI6 ((i:Int)+1))] [(2,moV m),(4,[.v .nilsl,.v .nilsl,.v .nilsl,.v .nilsl,.v .nilsl,.v .nilsl]),(7,[vL 4 (Da.cs (moD m)),vL 3 (Cl.cs (moC m)),vL 12 (In.cs (moI m)),vL 8 (Ms.cs (moM m)),vL 6 (Qu.cs (moQ m)),.v (PV.xsl 0 25 (List.length (moF m)))])] [(0,rowV l)]) ⟨⟨W,W,W,W,W,W,W,tVv⟩,⟨Ws,Ws,Ws,tVv⟩,(by first | rfl | (simp only [List.nil_append,nmsC_app,nmsC_snoc,Pr.cs_snoc,Tp.cs_snoc,Ex.cs_snoc,Vr.cs_snoc,Df.cs_snoc]; done) | (simp only [List.nil_append,nmsC_app,nmsC_snoc,Pr.cs_snoc,Tp.cs_snoc,Ex.cs_snoc,Vr.cs_snoc,Df.cs_snoc]; rfl))⟩ (by first | assumption | omega | (simp only [List.length_append,List.length_cons,List.length_nil] at *; omega) | simp_all) (by rw [hd,ouA_f,iN h0])
 ·have he:i=(moF m).length:=by omega
  exact lX mdQ7 [df ((i:Int)<((moF m).length:Int))] (l) (by rw [he,List.drop_length,ouA_f])
def mdC7:Md:=⟨fun _=>some false,fun t=>t==27⟩
theorem cloDX(a:Df)(r:List Df)(e:Ext)(hn:r.length<=2000000):Ef 23 [.sl 25 (Df.cs (a::r))] e (.ret (.xsl (cnt e) 25 (Df.cs (a::r)).length)) (put e (cnt e) ((Df.cs (a::r)).flatten.map .v)):=by
 refine ⟨by kernel_rfl,?_⟩
 refine CallC.enter func23 rfl (show 1<=8 by decide) fun cx hcx hds=>?_
 refine PW_seq ?_
 refine PW_runK mdC7 8 50 [] [0] [] (s':=⟨[(0,.v (.sl 25 (Df.cs (a::r))))],[],e⟩) (pe := .normal) (sc':=[]) (l:=[]) mixed hcx kR kR trivial ?_
 show PW _ _ _ _ _
 refine PW_seq (PW_seq ?_)
 intro g l0 a0 w hs
 refine wp_region_lit ?_
 have hn':∀k,k<8->k<cx.n:=fun k hk=>by rw [hcx]; exact hk
 refine (PL_moveV (p := .sl 25 (Df.cs (a::r))) rfl rfl rfl (hn' _ dD) rfl ?_:PL _ _ _ _ _ _) g l0 a0 w hs
 refine PL_nilcmp (z:=25) (es:=Df.cs (a::r)) (el:=52) rfl rfl rfl (hn' _ dD) kR rfl fun b hb=>?_
 refine PL_nil ?_
 show PW _ _ _ _ _
 cases b with
 | true=>exact absurd (hb rfl) (by simp [Df.cs])
 | false=>
  refine PW.leX (t:=⟨[(0,.v (.sl 25 (Df.cs (a::r)))),(4,.v (.bool false))],[],e⟩) ⟨⟨W,W,tVv⟩,trivial,rfl⟩ ?_
  refine PW_runK mdC7 8 50 [Ans.bit false] [0] [] (s':=⟨[(0,.v (.sl 25 (Df.cs (a::r))))],[],e⟩) (pe := .normal) (sc':=[]) (l:=[.bit false false]) mixed hcx kR kR ⟨rfl,tVv⟩ ?_
  show PW _ _ _ _ _
  refine PW_runK mdC7 8 50 [] [2] [] (s':=⟨[(2,.v (.xsl (cnt e) 25 (Df.cs (a::r)).length))],[],put e (cnt e) ((Df.cs (a::r)).flatten.map .v)⟩) (pe := .ret) (sc':=[]) (l:=[.bit (decide ((Df.cs (a::r)).length * 456<=140737488355328)) true]) mixed hcx kR kR ⟨ob_bit (dT (by rw [Df.cs_len,List.length_cons]; omega)),tVv⟩ ?_
  exact .inl ⟨_,rfl,rfl,rfl⟩
theorem cloD(l:List Df)(h:l≠[])(hn:l.length<=2000000):Ef 23 [.sl 25 (Df.cs l)] [] (.ret (.xsl 0 25 l.length)) [(0,rowV l)]:=by
 cases l with
 | nil=>exact absurd rfl h
 | cons a r=>
  have:=cloDX a r [] (by simp only [List.length_cons] at hn; omega)
  rw [show (put [] (cnt []) ((Df.cs (a::r)).flatten.map .v):Ext)=[(0,rowV (a::r))] from rfl,Df.cs_len] at this
  exact this
theorem ouL2(m:Mo)(nm:BA)(d:Df)(out:List Df)(hr:Pu 22 [.agg (moL m),.str nm] (.ret (.tup [.agg (dfL d),.bool true])))(hc:Ef 23 [.sl 25 (Df.cs (moF m))] [] (.ret (.xsl 0 25 (moF m).length)) [(0,rowV (moF m))])(hl:(Ob.loop 70 (loopF f8 0) (ouI nm m (moF m) 0) (.exit 0) ⟨[(4,.lp 4 0),(7,.lp 7 0)],[(4,ouZ),(7,ouW m)],[(0,rowV out)]⟩).ok prog):Ef 8 [.agg (moL m),.str nm] ([]) (rA [.sl 4 (Da.cs (moD m)),.sl 3 (Cl.cs (moC m)),.sl 12 (In.cs (moI m)),.sl 8 (Ms.cs (moM m)),.sl 6 (Qu.cs (moQ m)),PV.xsl 0 25 (List.length (moF m))]) ([(0,rowV out)]):=
 ef mdQ7 [cl hr,bf false,ce hc,kp,lq hl] func8
def moO(m:Mo)(l:List Df):Mo := .mk (moD m) (moC m) (moI m) (moM m) (moQ m) l
def ouB(nm:BA)(m:Mo)(d:Df):Bool:=decide (dfM d=2)&&(decide (dfNm d=nm)||rcF m nm (dfNm d) true&&rcF m (dfNm d) nm true)&&rcF m (dfNm d) (dfNm d) false
def ouG(nm:BA)(m:Mo)(d:Df):Df:=if ouB nm m d=true then dfPl d else d
theorem ouA_eq(nm:BA)(m:Mo):∀ (r:List Df) (i:Nat) (l:List Df),l.length=i+r.length->ouA_f nm m r i l=l.take i++(l.drop i).map (ouG nm m)
 | [],i,l,h=>by
  rw [ouA_f,List.take_of_length_le (by simp at h; omega),List.drop_of_length_le (by simp at h; omega)]; simp
 | el::r,i,l,h=>by
  simp only [List.length_cons] at h
  have hi:i<l.length:=by omega
  have e1:∀x:Df,ouA_f nm m r (i+1) (l.set i x)=l.take i++x::(l.drop (i+1)).map (ouG nm m):=fun x=>by
   rw [ouA_eq nm m r (i+1) (l.set i x) (by rw [List.length_set]; omega)]
   rw [show (l.set i x).drop (i+1)=l.drop (i+1) by rw [List.drop_set_of_lt oM]]
   rw [show (l.set i x).take (i+1)=l.take i++[x] by rw [List.take_add_one,List.take_set_of_le (Nat.le_refl i),List.getElem?_set_self hi]; rfl]
   simp
  have e2:ouA_f nm m r (i+1) l=l.take i++l.getD i default::(l.drop (i+1)).map (ouG nm m):=by
   have:=e1 (l.getD i default)
   rwa [show l.set i (l.getD i default)=l by simp [List.getD,hi]] at this
  rw [drop_at hi,List.map_cons,ouA_f]
  unfold ouG ouB
  generalize l.getD i default=d at e1 e2 ⊢
  by_cases h0:dfM d=2
  ·by_cases h1:dfNm d=nm
   ·by_cases h2:rcF m (dfNm d) (dfNm d) false=true
    ·simp only [h0,h1,h2,if_true,decide_true,Bool.true_or,Bool.and_self,e1]; subst h1; simp only [h2,if_true,e1]; rfl
    ·subst h1; simp only [h0,h2,if_true,if_false,decide_true,Bool.true_or,Bool.true_and,e2,Bool.and_false]; rfl
   ·by_cases h3:rcF m nm (dfNm d) true=true
    ·by_cases h4:rcF m (dfNm d) nm true=true
     ·by_cases h2:rcF m (dfNm d) (dfNm d) false=true
      ·simp only [h0,h1,h2,h3,h4,if_true,if_false,decide_true,decide_false,Bool.false_or,Bool.and_self,e1]; rfl
      ·simp only [h0,h1,h2,h3,h4,if_true,if_false,decide_true,decide_false,Bool.false_or,Bool.and_self,Bool.true_and,e2]; rfl
     ·simp only [h0,h1,h3,h4,if_true,if_false,decide_true,decide_false,Bool.false_or,Bool.true_and,Bool.and_false,Bool.false_and,e2]; rfl
    ·simp only [h0,h1,h3,if_true,if_false,decide_true,decide_false,Bool.false_or,Bool.true_and,Bool.and_false,Bool.false_and,e2]; rfl
  ·simp only [h0,if_false,decide_false,Bool.false_and,e2]; rfl
def ouF(nm:BA)(m:Mo):Mo:=match rfD nm (moF m) with
 | none=>m
 | some _=>moO m ((moF m).map (ouG nm m))
theorem ouT(m:Mo)(nm:BA)(hs:bulkPs (moL m)<=2000000):Pu 8 [.agg (moL m),.str nm] (.ret (.agg (moL (ouF nm m)))):=by
 have hN:=moF_len m
 unfold ouF
 cases h:rfD nm (moF m) with
 | none=>exact pu mdQ7 (fun e=>[cl (rfF m nm oM h),bt true]) func8
 | some d=>
  have hne:moF m≠[]:=fun e=>by have:=rfD_mem h; rw [e] at this; simp at this
  have hl:=ouA nm m oM (moF m) (moF m) oM rfl
  rw [ouA_eq nm m (moF m) 0 (moF m) oM,List.take_zero,List.drop_zero,List.nil_append] at hl
  have:=ouL2 m nm d ((moF m).map (ouG nm m)) (rfT m nm oM d h) (cloD (moF m) hne oM) (Ob.loop_post hl ⟨⟨W,W,tVv⟩,⟨WLs.refl _,WLs.refl _,tVv⟩,rfl⟩)
  have hlen:(Df.cs ((moF m).map (ouG nm m))).length=(moF m).length:=by rw [Df.cs_len,List.length_map]
  refine Ob.pur_freeze (c1:=[.sl 4 (Da.cs (moD m)),.sl 3 (Cl.cs (moC m)),.sl 12 (In.cs (moI m)),.sl 8 (Ms.cs (moM m)),.sl 6 (Qu.cs (moQ m))]) (c2:=[]) (z:=25) (es:=Df.cs ((moF m).map (ouG nm m))) (ha:=?_) (h1n:=?_) (h2n:=rfl) (hes:=?_) (hz:=?_) (h:=?_)
  ·rw [noXs,PV.noX,Mo.nx]; rfl
  ·have:=Mo.nx m
   simp only [noXs,Bool.and_eq_true] at this ⊢
   exact ⟨this.1,this.2.1,this.2.2.1,this.2.2.2.1,this.2.2.2.2.1,tVv⟩
  ·have:=Mo.nx (moO m ((moF m).map (ouG nm m)))
   simp only [noXs,Bool.and_eq_true] at this
   have h5:=this.2.2.2.2.2.1
   have h6:noXss (Df.cs (moF (moO m ((moF m).map (ouG nm m)))))=true:=by simpa [PV.noX] using h5
   exact h6
  ·intro i hi
   simp only [Df.cs_eq,List.getElem_map]
   rfl
  ·rw [hlen]
   exact this
theorem nmsC_take(l:List BA)(k:Nat):(nmsC l).take k=nmsC (l.take k):=by simp [nmsC_eq]
theorem nmsC_drop(l:List BA)(k:Nat):(nmsC l).drop k=nmsC (l.drop k):=by simp [nmsC_eq]
abbrev fnd_I(l:List BA)(s:BA)(j:Int)(e:Ext):S:=S.mk [(0,vL 1 (nmsC l)),(1,vS s),(7,vI6 (l.length:Int)),(8,vI6 j)] [] e
inductive fnd_R where
 | e0 (i:Nat)
 | e1
def fnd_f(s:BA):List BA->Nat->fnd_R
 | [],i=>(fnd_R.e1)
 | el::r,i=>(if el=s then (fnd_R.e0 i) else fnd_f s r (i+1))
def fnd_q(l:List BA)(s:BA)(e:Ext):fnd_R->PExit × S
 | .e0 i=>(.ret,S.mk [(0,vL 1 (nmsC l)),(1,vS s),(7,vI6 (l.length:Int)),(4,vI6 (i:Int))] [] e)
 | .e1=>(.exit 0,S.mk [(0,vL 1 (nmsC l)),(1,vS s),(7,vI6 (l.length:Int))] [] e)
theorem fnd_lp(l:List BA)(s:BA)(e:Ext)(hN:l.length<=1000000000):(Ob.loop 19 (loopF f53 0) (fnd_I l s 0  e) (fnd_q l s e (fnd_f s (l) 0)).1 (fnd_q l s e (fnd_f s (l) 0)).2).ok prog:=by
 refine rng l.length (fun j _=>fnd_I l s j  e) (fun i _=>fnd_f s (List.drop i (l)) i) (fnd_q l s e) (fun i _=>True) kR ?_ () trivial
 rintro i u hi -
 rcases Nat.lt_or_ge i (l.length) with hlt | hge
 ·have hd:=drop_at0 hlt
  by_cases h0:List.getD l i nm0=s
  ·exact lX mdL [rgNm hlt,bt (ByteArray.toList (List.getD l i nm0)==ByteArray.toList s) (bsT h0)] (fnd_R.e0 i) (by rw [hd,fnd_f,iP h0])
  ·exact lN mdL [rgNm hlt,bf (ByteArray.toList (List.getD l i nm0)==ByteArray.toList s) (bsF h0),wr ((i:Int)+1)] hlt () trivial (by rw [hd,fnd_f,iN h0])
 ·have he:i=l.length:=by omega
  exact lX mdL [df ((i:Int)<(l.length:Int))] (fnd_R.e1) (by rw [he,List.drop_length,fnd_f])
def plR(s:BA)(l:List BA):Int:=match fnd_f s l 0 with
 | .e0 i=>i
 | .e1=>-1
theorem rFindT(l:List BA)(s:BA)(hn:l.length<=1000000000):Pu 53 [.sl 1 (nmsC l),.str s] (.ret (.int .i64 (plR s l))):=by
 unfold plR
 cases h:fnd_f s l 0 with
 | e0 i=>exact pu mdL (fun e=>[sl (nmsC_len l),lq (rz (fnd_lp (l) (s) (e) hn) h)]) func53
 | e1=>exact pu mdL (fun e=>[sl (nmsC_len l),lq (rz (fnd_lp (l) (s) (e) hn) h)]) func53
theorem fnd_idx(s:BA):∀ (l:List BA) (i:Nat),(match fnd_f s l i with | .e0 k=>(k:Int) | .e1=>-1)=(match idx_f s l i with | .e0 k=>(k:Int) | .e1=>-1)
 | [],i=>rfl
 | x::r,i=>by
  rw [fnd_f,idx_f]
  by_cases h:x=s
  ·rw [iP h,iP h.symm]
  ·rw [iN h,iN (fun e=>h e.symm)]
   exact fnd_idx s r (i+1)
theorem plR_eq(s:BA)(l:List BA):plR s l=plc s l:=fnd_idx s l 0
theorem rHas(l:List BA)(s:BA)(hn:l.length<=1000000000):Pu 140 [.sl 1 (nmsC l),.str s] (rB (decide (plR s l>=0))):=
 pm mdL [cl (@rFindT l s hn)] func140
abbrev unr_I(x:Ex)(k:Int)(h:List BA)(j:Int)(out:List BA)(e:Ext):S:=S.mk [(3,.lp 3 0),(6,.v .nilsl),(7,.uniq 9 1 (nmsC out)),(8,vI6 j)] [(3,exV x)] e
def unr_f(x:Ex):List Pm->(List BA)->(List BA)
 | [],out=>(out)
 | el::r,out=>(if exO x=6 then unr_f x r (out++[pmNm el]) else (out))
def unr_q(x:Ex)(k:Int)(h:List BA)(e:Ext)(p:(List BA)):PExit × S:=(.exit 0,S.mk [(3,.lp 3 0),(6,.v .nilsl),(7,.uniq 9 1 (nmsC p))] [(3,exV x)] e)
theorem unr(x:Ex)(k:Int)(h:List BA)(hb:h.length<=1000000000)(out:List BA)(e:Ext)(hN:(exP x).length<=1000000000)(hv:List.length out<=1000000001+0):(Ob.loop 46 (loopF f141 0) (unr_I x k h 0 out e) (unr_q x k h e (unr_f x ((exP x))  out)).1 (unr_q x k h e (unr_f x ((exP x))  out)).2).ok prog:=by
 refine rng ((exP x).length) (fun j out=>unr_I x k h j out e) (fun i out=>unr_f x (List.drop i ((exP x)))  out) (unr_q x k h e) (fun i out=>(out.length<=1000000001+i)) kR ?_ out (by first | exact hv | omega)
 rintro i out hi hv
 try simp only at hv
 rcases Nat.lt_or_ge i ((exP x).length) with hlt | hge
 ·have hd:=drop_at hlt
  refine t0 ?_;refine tp [sl (Pm.cs_len (exP x)),rp 4 (dt ((i:Int)<((exP x).length:Int)))] ?_;by_cases h0:exO x=6
  ·exact tS mdL [et1 h0,mxPm (exP x) (i:Int),xPm (exP x) i hlt,am (List.length (nmsC out++[[.str (pmNm (List.getD (exP x) i default))]]) * (15+1)<=140737488355328) (by (simp only [List.length_append,List.length_cons,List.length_nil,nmsC_len]; omega)),wr ((i:Int)+1)] [3,6,7,8] [3] hlt (out++[pmNm (List.getD (exP x) i default)]) (S.mk [(3,.lp 3 0),(6,.v .nilsl),(7,.uniq 9 1 (nmsC out++[[PV.str (pmNm (List.getD (exP x) i default))]])),(8,vI6 ((i:Int)+1))] [(3,exV x)] e) ⟨⟨W,W,(.inl (by first | (simp only [List.nil_append,nmsC_app,nmsC_snoc,Pr.cs_snoc,Tp.cs_snoc,Ex.cs_snoc,Vr.cs_snoc,Df.cs_snoc]; done) | (simp only [List.nil_append,nmsC_app,nmsC_snoc,Pr.cs_snoc,Tp.cs_snoc,Ex.cs_snoc,Vr.cs_snoc,Df.cs_snoc]; rfl))),W,tVv⟩,⟨Ws,tVv⟩,rfl⟩ (by first | assumption | omega | (simp only [List.length_append,List.length_cons,List.length_nil] at *; omega) | simp_all) (by rw [hd,unr_f,iP h0])
  ·exact tX mdL [en1 h0] (out) (by rw [hd,unr_f,iN h0])
 ·have he:i=(exP x).length:=by omega
  exact lX mdL [sl (Pm.cs_len (exP x)),rp 4 (df ((i:Int)<((exP x).length:Int))),bf false] (out) (by rw [he,List.drop_length,unr_f])
section
variable (x:Ex) (k:Int) (h:List BA) (hb:h.length<=1000000000) (hp:(exP x).length<=1000000000)
include x k h hb hp
theorem rUnder_1(hx0:exO x=7)(hx1:k>0):Pu 141 [.agg (exL x),pI k,.sl 1 (nmsC h)] (.own 9 1 (nmsC (unr_f x (exP x) (h++[exNm x])))):=
 pu mdL (fun e=>[am (List.length ([]++(fun x=>Prod.snd x) (1,nmsC h)) * (15+1)<=140737488355328) (by (simp only [List.length_append,List.length_nil,nmsC_len]; omega)),rp 3 (et1 hx0),dt1 hx1,am (List.length ([]++(fun x=>Prod.snd x) (1,nmsC h)++[[.str (exNm x)]]) * (15+1)<=140737488355328) (by (simp only [List.length_append,List.length_cons,List.length_nil,nmsC_len]; omega)),lp (S.mk [(3,.lp 3 0),(6,.v .nilsl),(7,.uniq 9 1 ([]++nmsC h++[[PV.str (exNm x)]])),(8,vI6 0)] [(3,exV x)] e) (@unr x default h hb (h++[exNm x]) e hp (by (simp only [List.length_append,List.length_cons,List.length_nil]; omega))) ⟨⟨W,W,(by first | exact .inl rfl | exact .inr ⟨rfl,rfl⟩ | exact .inr rfl | exact .inr trivial | exact .inl (by first | (simp only [List.nil_append,nmsC_app,nmsC_snoc,Pr.cs_snoc,Tp.cs_snoc,Ex.cs_snoc,Vr.cs_snoc,Df.cs_snoc]; done) | (simp only [List.nil_append,nmsC_app,nmsC_snoc,Pr.cs_snoc,Tp.cs_snoc,Ex.cs_snoc,Vr.cs_snoc,Df.cs_snoc]; rfl))),W,tVv⟩,⟨⟨W,W,W,W,W,W,W,tVv⟩,tVv⟩,rfl⟩]) func141
theorem rUnder_2(hx0:exO x=7)(hx1:¬k>0):Pu 141 [.agg (exL x),pI k,.sl 1 (nmsC h)] (.own 9 1 (nmsC (unr_f x (exP x) h))):=
 pu mdL (fun e=>[am (List.length ([]++(fun x=>Prod.snd x) (1,nmsC h)) * (15+1)<=140737488355328) (by (simp only [List.length_append,List.length_nil,nmsC_len]; omega)),rp 3 (et1 hx0),df1 hx1,lp (S.mk [(3,.lp 3 0),(6,.v .nilsl),(7,.uniq 9 1 ([]++nmsC h)),(8,vI6 0)] [(3,exV x)] e) (@unr x default h hb h e hp oM) ⟨⟨W,W,(by first | exact .inl rfl | exact .inr ⟨rfl,rfl⟩ | exact .inr rfl | exact .inr trivial | exact .inl (by first | (simp only [List.nil_append,nmsC_app,nmsC_snoc,Pr.cs_snoc,Tp.cs_snoc,Ex.cs_snoc,Vr.cs_snoc,Df.cs_snoc]; done) | (simp only [List.nil_append,nmsC_app,nmsC_snoc,Pr.cs_snoc,Tp.cs_snoc,Ex.cs_snoc,Vr.cs_snoc,Df.cs_snoc]; rfl))),W,tVv⟩,⟨⟨W,W,W,W,W,W,W,tVv⟩,tVv⟩,rfl⟩]) func141
theorem rUnder_3(hx0:¬exO x=7):Pu 141 [.agg (exL x),pI k,.sl 1 (nmsC h)] (.own 9 1 (nmsC (unr_f x (exP x) h))):=
 pu mdL (fun e=>[am (List.length ([]++(fun x=>Prod.snd x) (1,nmsC h)) * (15+1)<=140737488355328) (by (simp only [List.length_append,List.length_nil,nmsC_len]; omega)),rp 3 (en1 hx0),bf false,lp (S.mk [(3,.lp 3 0),(6,.v .nilsl),(7,.uniq 9 1 ([]++nmsC h)),(8,vI6 0)] [(3,exV x)] e) (@unr x default h hb h e hp oM) ⟨⟨W,W,(by first | exact .inl rfl | exact .inr ⟨rfl,rfl⟩ | exact .inr rfl | exact .inr trivial | exact .inl (by first | (simp only [List.nil_append,nmsC_app,nmsC_snoc,Pr.cs_snoc,Tp.cs_snoc,Ex.cs_snoc,Vr.cs_snoc,Df.cs_snoc]; done) | (simp only [List.nil_append,nmsC_app,nmsC_snoc,Pr.cs_snoc,Tp.cs_snoc,Ex.cs_snoc,Vr.cs_snoc,Df.cs_snoc]; rfl))),W,tVv⟩,⟨⟨W,W,W,W,W,W,W,tVv⟩,tVv⟩,rfl⟩]) func141
end
theorem unr_eq(x:Ex):∀ (ps:List Pm) (out:List BA),unr_f x ps out=out++(if exO x=6 then ps.map pmNm else [])
 | [],out=>by simp [unr_f]
 | p::r,out=>by
  rw [unr_f]
  by_cases h:exO x=6
  ·rw [iP h,unr_eq x r,iP h,iP h]; simp
  ·rw [iN h,iN h]; simp
abbrev rgI(x:Ex)(h out:List BA)(i:Int)(ext:Ext):S:=⟨[(1,.v (.sl 1 (nmsC h))),(2,.v (.bool false)),(3,.lp 3 0),(7,.uniq 9 1 (nmsC out)),(8,.v (.int .i64 i))],[(3,exV x)],ext⟩
abbrev rgJ(x:Ex)(h out:List BA)(i:Int)(ext:Ext):S:=⟨[(1,.v (.sl 1 (nmsC h))),(2,.v (.bool false)),(3,.lp 3 0),(7,.uniq 9 1 (nmsC out)),(9,.v (.int .i64 i))],[(3,exV x)],ext⟩
theorem rUnderT(x:Ex)(k:Int)(h:List BA)(hb:h.length<=1000000000)(hp:(exP x).length<=1000000000):Pu 141 [.agg (exL x),.int .i64 k,.sl 1 (nmsC h)] (.ret (.sl 1 (nmsC h++nmsC (insN x k)))):=by
 rw [<-nmsC_app]
 unfold insN
 by_cases h7:exO x=7
 ·by_cases hk:k>0
  ·have:=Ob.pur_unown (rUnder_1 x k h hb hp h7 hk)
   rw [unr_eq] at this
   simp only [h7,hk,if_true] at this ⊢
   simpa using this
  ·have:=Ob.pur_unown (rUnder_2 x k h hb hp h7 hk)
   rw [unr_eq] at this
   simp only [h7,hk,if_true,if_false] at this ⊢
   simpa using this
 ·have:=Ob.pur_unown (rUnder_3 x k h hb hp h7)
  rw [unr_eq] at this
  simp only [h7,if_false]
  exact this
theorem rgA(x:Ex)(h out ns:List BA)(i:Nat)(ext:Ext)(hi:i<(exK x).length)(hn:(exK x).length<=1000000000)(hp:(exP x).length<=1000000000)(hb:h.length<=1000000000)(ho:out.length<=1000000000)(hs:ns.length<=1000000000)(hr:Pu 118 [.agg (exL ((exK x).getD i default)),.sl 1 (nmsC h++nmsC (insN x i)),.bool false] (.ret (.sl 1 (nmsC ns))))(cx:Cx)(hcx:cx.n=84){Q:PExit->S->Prop}(hq:Q (.normal) (S.mk [(1,vL 1 (nmsC h)),(2,.v (.bool false)),(3,.lp 3 0),(7,.uniq 9 1 (nmsC out++nmsC ns)),(8,vI6 ((i:Int)+1))] [(3,exV x)] ext)):PW prog cx (loopF f118 0) (rgI x h out (i:Int) ext) Q:=
 pw mdL 84 [sl (Ex.cs_len (exK x)),rgEx hi,cl (@rUnderT x ((i:Int)) h hb hp),cl hr,am (List.length (nmsC out++(fun x=>Prod.snd x) (1,nmsC ns)) * (15+1)<=140737488355328) (by (simp only [List.length_append,nmsC_len]; omega)),wr ((i:Int)+1)] [1,2,3,7,8] [3] hcx hq
theorem rgZ(x:Ex)(h out:List BA)(ext:Ext)(cx:Cx)(hcx:cx.n=84){Q:PExit->S->Prop}(hq:Q (.exit 0) (S.mk [(1,vL 1 (nmsC h)),(2,.v (.bool false)),(3,.lp 3 0),(7,.uniq 9 1 (nmsC out)),(8,vI6 ((exK x).length:Int))] [(3,exV x)] ext)):PW prog cx (loopF f118 0) (rgI x h out ((exK x).length:Int) ext) Q:=
 pw mdL 84 [sl (Ex.cs_len (exK x)),df (((exK x).length:Int)<((exK x).length:Int))] [1,2,3,7,8] [3] hcx hq
theorem rgB(x:Ex)(h out ns:List BA)(i:Nat)(ext:Ext)(hi:i<(exA x).length)(hn:(exA x).length<=1000000000)(hb:h.length+(alNs ((exA x).getD i default)).length<=1000000000)(ho:out.length<=1000000000)(hs:ns.length<=1000000000)(hr:Pu 118 [.agg (exL (alB ((exA x).getD i default))),.sl 1 (nmsC h++nmsC (alNs ((exA x).getD i default))),.bool false] (.ret (.sl 1 (nmsC ns))))(cx:Cx)(hcx:cx.n=84){Q:PExit->S->Prop}(hq:Q (.normal) (S.mk [(1,vL 1 (nmsC h)),(2,.v (.bool false)),(3,.lp 3 0),(7,.uniq 9 1 (nmsC out++nmsC ns)),(9,vI6 ((i:Int)+1))] [(3,exV x)] ext)):PW prog cx (loopF f118 1) (rgJ x h out (i:Int) ext) Q:=
 pw mdL 84 [sl (Al.cs_len (exA x)),dt ((i:Int)<((exA x).length:Int)),am (List.length ([]++(fun x=>Prod.snd x) (1,nmsC h)) * (15+1)<=140737488355328) (by (simp only [List.length_append,List.length_nil,nmsC_len]; omega)),mxAl (exA x) (i:Int),xAl (exA x) i hi,am (List.length ([]++(fun x=>Prod.snd x) (1,nmsC h)++(fun x=>Prod.snd x) (1,nmsC (alNs (List.getD (exA x) i default)))) * (15+1)<=140737488355328) (by (simp only [List.length_append,List.length_nil,nmsC_len]; omega)),mxAl (exA x) (i:Int),xAl (exA x) i hi,cl hr,am (List.length (nmsC out++(fun x=>Prod.snd x) (1,nmsC ns)) * (15+1)<=140737488355328) (by (simp only [List.length_append,nmsC_len]; omega)),wr ((i:Int)+1)] [1,2,3,7,9] [3] hcx hq
theorem rgY(x:Ex)(h out:List BA)(ext:Ext)(cx:Cx)(hcx:cx.n=84){Q:PExit->S->Prop}(hq:Q (.exit 2) (S.mk [(1,vL 1 (nmsC h)),(2,.v (.bool false)),(3,.lp 3 0),(7,.uniq 9 1 (nmsC out)),(9,vI6 ((exA x).length:Int))] [(3,exV x)] ext)):PW prog cx (loopF f118 1) (rgJ x h out ((exA x).length:Int) ext) Q:=
 pw mdL 84 [sl (Al.cs_len (exA x)),df (((exA x).length:Int)<((exA x).length:Int))] [1,2,3,7,9] [3] hcx hq
abbrev rgL0(x:Ex)(h out out1:List BA):Prop:=∀ext,(Ob.loop 84 (loopF f118 0) (rgI x h out 0 ext) (.exit 0) ⟨[(1,.v (.sl 1 (nmsC h))),(2,.v (.bool false)),(3,.lp 3 0),(7,.uniq 9 1 (nmsC out1))],[(3,exV x)],ext⟩).ok prog
abbrev rgL1(x:Ex)(h out out1:List BA):Prop:=∀ext,(Ob.loop 84 (loopF f118 1) (rgJ x h out 0 ext) (.exit 2) ⟨[(7,.uniq 9 1 (nmsC out1))],[],ext⟩).ok prog
section
variable (x:Ex) (h out1 out2:List BA) (hh:h.length<=1000000000) (hv:exO x=3∨exO x=5)
include x h out1 out2 hh hv
theorem rgV_1(hp:plR (exNm x) h<0)(l0:rgL0 x h [exNm x] out1)(l1:rgL1 x h out1 out2)(hx0:exO x=5):Pu 118 [.agg (exL x),.sl 1 (nmsC h),.bool false] (.own 9 1 (nmsC out2)):=
 pu mdL (fun e=>[rp 6 (et1 hx0),rp 4 (bt true),cl (@rHas h (exNm x) hh),rp 2 (bt true),bt (!decide (plR (exNm x) h>=0)) (bnT (dF oM)),ab true,lq (@l0 e),lq (@l1 e)]) func118
theorem rgV_2(hp:plR (exNm x) h<0)(l0:rgL0 x h [exNm x] out1)(l1:rgL1 x h out1 out2)(hx0:¬exO x=5):Pu 118 [.agg (exL x),.sl 1 (nmsC h),.bool false] (.own 9 1 (nmsC out2)):=
 pu mdL (fun e=>[rp 4 (en1 hx0),rp 2 (et (exO x) 3),en1 hx0,et (exO x) 3,en1 hx0,rp 4 (bt true),cl (@rHas h (exNm x) hh),rp 2 (bt true),bt (!decide (plR (exNm x) h>=0)) (bnT (dF oM)),ab true,lq (@l0 e),lq (@l1 e)]) func118
theorem rgW_1(hp:¬plR (exNm x) h<0)(l0:rgL0 x h [] out1)(l1:rgL1 x h out1 out2)(hx0:exO x=5):Pu 118 [.agg (exL x),.sl 1 (nmsC h),.bool false] (.own 9 1 (nmsC out2)):=
 pu mdL (fun e=>[rp 6 (et1 hx0),rp 4 (bt true),cl (@rHas h (exNm x) hh),rp 2 (bt true),bf (!decide (plR (exNm x) h>=0)) (bnF (dT oM)),lp (S.mk [(1,vL 1 (nmsC h)),(2,.v (.bool false)),(3,.lp 3 0),(7,.v .nilsl),(8,vI6 0)] [(3,exV x)] e) (@l0 e) ⟨⟨W,W,W,Wq,W,tVv⟩,⟨⟨W,W,W,W,W,W,W,tVv⟩,tVv⟩,rfl⟩,lq (@l1 e)]) func118
theorem rgW_2(hp:¬plR (exNm x) h<0)(l0:rgL0 x h [] out1)(l1:rgL1 x h out1 out2)(hx0:¬exO x=5):Pu 118 [.agg (exL x),.sl 1 (nmsC h),.bool false] (.own 9 1 (nmsC out2)):=
 pu mdL (fun e=>[rp 4 (en1 hx0),rp 2 (et (exO x) 3),en1 hx0,et (exO x) 3,en1 hx0,rp 4 (bt true),cl (@rHas h (exNm x) hh),rp 2 (bt true),bf (!decide (plR (exNm x) h>=0)) (bnF (dT oM)),lp (S.mk [(1,vL 1 (nmsC h)),(2,.v (.bool false)),(3,.lp 3 0),(7,.v .nilsl),(8,vI6 0)] [(3,exV x)] e) (@l0 e) ⟨⟨W,W,W,Wq,W,tVv⟩,⟨⟨W,W,W,W,W,W,W,tVv⟩,tVv⟩,rfl⟩,lq (@l1 e)]) func118
end
theorem rgX(x:Ex)(h out1 out2:List BA)(hh:h.length<=1000000000)(hv:¬exO x=3)(hw:¬exO x=5)(l0:rgL0 x h [] out1)(l1:rgL1 x h out1 out2):Pu 118 [.agg (exL x),.sl 1 (nmsC h),.bool false] (.own 9 1 (nmsC out2)):=
 pu mdL (fun e=>[rp 4 (en (exO x) 5 hw),rp 2 (en (exO x) 3 hv),en (exO x) 5 hw,en (exO x) 3 hv,en (exO x) 5 hw,rp 7 (bf false),lp (S.mk [(1,vL 1 (nmsC h)),(2,.v (.bool false)),(3,.lp 3 0),(7,.v .nilsl),(8,vI6 0)] [(3,exV x)] e) (@l0 e) ⟨⟨W,W,W,Wq,W,tVv⟩,⟨⟨W,W,W,W,W,W,W,tVv⟩,tVv⟩,rfl⟩,lq (@l1 e)]) func118
abbrev put_I(l:List BA)(s:BA)(j:Int)(out:List BA)(e:Ext):S:=S.mk [(0,vL 1 (nmsC l)),(1,vS s),(4,.v .nilsl),(5,.uniq 9 1 (nmsC out)),(6,vI6 j)] [] e
def put_f(s:BA):List BA->Nat->(List BA)->(List BA) × (Nat)
 | [],i,out=>(out,i)
 | el::r,i,out=>(if Op.bytesLess (ByteArray.toList el) (ByteArray.toList s)=true then put_f s r (i+1) (out++[el]) else (out,i))
def put_q(l:List BA)(s:BA)(e:Ext)(p:(List BA) × (Nat)):PExit × S:=(.exit 0,S.mk [(0,vL 1 (nmsC l)),(1,vS s),(4,.v .nilsl),(5,.uniq 9 1 (nmsC (Prod.fst p))),(6,vI6 (↑(Prod.snd p):Int))] [] e)
theorem put(l:List BA)(s:BA)(out:List BA)(e:Ext)(hN:l.length<=1000000000)(hv:List.length out<=0):(Ob.loop 52 (loopF f139 0) (put_I l s 0 out e) (put_q l s e (put_f s (l) 0 out)).1 (put_q l s e (put_f s (l) 0 out)).2).ok prog:=by
 refine rng l.length (fun j out=>put_I l s j out e) (fun i out=>put_f s (List.drop i (l)) i out) (put_q l s e) (fun i out=>(out.length<=i)) kR ?_ out (by first | exact hv | omega)
 rintro i out hi hv
 try simp only at hv
 rcases Nat.lt_or_ge i (l.length) with hlt | hge
 ·have hd:=drop_at0 hlt
  refine t0 ?_;refine tp [sl (nmsC_len l),rp 3 (dt ((i:Int)<(l.length:Int))),mxNm l (i:Int),xNm l i hlt,rp 4 (dt ((i:Int)<(l.length:Int)))] ?_;by_cases h0:Op.bytesLess (ByteArray.toList (List.getD l i nm0)) (ByteArray.toList s)=true
  ·exact tS mdL [bt1 h0,mxNm l (i:Int),xNm l i hlt,am (List.length (nmsC out++[[.str (List.getD l i nm0)]]) * (15+1)<=140737488355328) (by (simp only [List.length_append,List.length_cons,List.length_nil,nmsC_len]; omega)),wr ((i:Int)+1)] [0,1,4,5,6] [] hlt (out++[List.getD l i nm0]) (S.mk [(0,vL 1 (nmsC l)),(1,vS s),(4,.v .nilsl),(5,.uniq 9 1 (nmsC out++[[PV.str (List.getD l i nm0)]])),(6,vI6 ((i:Int)+1))] [] e) ⟨⟨W,W,W,(.inl (by first | (simp only [List.nil_append,nmsC_app,nmsC_snoc,Pr.cs_snoc,Tp.cs_snoc,Ex.cs_snoc,Vr.cs_snoc,Df.cs_snoc]; done) | (simp only [List.nil_append,nmsC_app,nmsC_snoc,Pr.cs_snoc,Tp.cs_snoc,Ex.cs_snoc,Vr.cs_snoc,Df.cs_snoc]; rfl))),W,tVv⟩,trivial,rfl⟩ (by first | assumption | omega | (simp only [List.length_append,List.length_cons,List.length_nil] at *; omega) | simp_all) (by rw [hd,put_f,iP h0])
  ·exact tX mdL [bf1 (bFT h0)] (out,i) (by rw [hd,put_f,iN h0])
 ·have he:i=l.length:=by omega
  exact lX mdL [sl (nmsC_len l),rp 7 (df ((i:Int)<(l.length:Int))),bf false] (out,i) (by rw [he,List.drop_length,put_f])
end Go.Proofs.YtaakmholhliodaaGreatDoor
