/- Values of Go as plain data, an evaluator over them, and what the functions of the program return; part Yd. -/
import Derived.Test.YtidabncghfbdaaaGreatDoorYa
import Derived.Test.YtidabncghfbdaaaGreatDoorYc
import Derived.Test.YtidabncghfbdaaaGreatDoorXh
set_option linter.unusedSectionVars false
set_option linter.unusedSimpArgs false
set_option linter.unusedVariables false
namespace Go.Proofs.YtidabncghfbdaaaGreatDoor
open Go.Proofs.Tryz
open Go.Pv Go.Proofs.Tryz
set_option maxRecDepth 100000
def vlN(pt:List Ce)(ap:List Fc)(o:Int)(s:BA)(n:Int)(arz:List Int):Int × Bool:=
 if o=1 then (n,true)
 else if o=2 then (n,true)
 else if o=3 then ((fdF pt s).1,(fdF pt s).2&&nIn_r0 (fdF pt s).1)
 else if o=4 then ftF ap s arz
 else if o=5 then (0,false)
 else if o=9 then (nSub_r0 0 (arz.getD 0 default),nSub_r1 0 (arz.getD 0 default))
 else if o=14 then (trS_r0 (arz.getD 0 default==0),true)
 else (opV_r0 o (arz.getD 0 default) (arz.getD 1 default),opV_r1 o (arz.getD 0 default) (arz.getD 1 default))
mutual
/-- The value of a predicate. -/
def vlF(pt:List Ce)(ap:List Fc):Pr->Int × Bool
 | .mk o s n k=>match vlFs pt ap k with
  | none=>(0,false)
  | some ar=>vlN pt ap o s n ar
def vlFs(pt:List Ce)(ap:List Fc):List Pr->Option (List Int)
 | []=>some []
 | x::r=>if (vlF pt ap x).2=false then none else (vlFs pt ap r).map fun l=>(vlF pt ap x).1::l
end
theorem va_e(pt:List Ce)(ap:List Fc):∀ (l:List Pr) (a:List Int),match vlFs pt ap l with
  | none=>∃b,vaA_f (vlF pt ap) l a = .e0 b
  | some b=>vaA_f (vlF pt ap) l a = .e1 (a++b)
 | [],a=>by simp [vlFs,vaA_f]
 | x::r,a=>by
  rw [vlFs,vaA_f]
  by_cases h:(vlF pt ap x).2=false
  ·rw [iP h,iP h]
   exact ⟨_,rfl⟩
  ·rw [iN h,iN h]
   have ih:=va_e pt ap r (a++[(vlF pt ap x).1])
   revert ih
   cases vlFs pt ap r with
   | none=>exact id
   | some b=>
    intro ih
    simp only [Option.map_some]
    rw [ih]
    simp
def vkO(p:Pr):Prop:=∀w∈nodesP p,pkS_r0 (prO w)<=((prK w).length:Int)
theorem nodesPs_mem:∀ {l:List Pr} {w x:Pr},w∈l->x∈nodesP w->x∈nodesPs l
 | y::r,w,x,h,hx=>by
  rw [nodesPs]
  rcases List.mem_cons.1 h with rfl | h
  ·exact List.mem_append_left _ hx
  ·exact List.mem_append_right _ (nodesPs_mem h hx)
theorem vkO_kid{p w:Pr}(h:vkO p)(hw:w∈prK p):vkO w:=fun x hx=>h x (by rw [nodesP_e]; exact List.mem_cons_of_mem _ (nodesPs_mem hw hx))
theorem frE_0{α:Type}{f:α->Int}:∀ {l:List α},frE f l=0->∀x∈l,f x=0
 | y::r,h,x,hx=>by
  rw [frE] at h
  split at h
  ·rename_i h0
   rcases List.mem_cons.1 hx with rfl | hx
   ·exact h0
   ·exact frE_0 h x hx
  ·rename_i h0
   exact absurd h h0
theorem pnd_k{u:Pr}(h:pnd_r0 u=0):pkS_r0 (prO u)<=((prK u).length:Int):=by
 unfold pnd_r0 at h
 split at h
 ·cases h
 ·split at h
  ·cases h
  ·rename_i h4
   have h4:nd_4_v58 u (pkS_r0 (prO u)) (pkS_r1 (prO u))=false:=by simpa using h4
   clear h
   unfold nd_4_v58 at h4
   by_cases hl:((prK u).length:Int)<pkS_r0 (prO u)
   ·simp only [hl,if_true] at h4
    repeat' split at h4
    all_goals cases h4
   ·omega
theorem pcE_k{p:Pr}(h:pcE p=0):vkO p:=by
 unfold pcE at h
 split at h
 ·cases h
 ·split at h
  ·cases h
  ·exact fun w hw=>pnd_k (frE_0 h w hw)
theorem vl_ok(pt:List Ce)(ap:List Fc)(hpt:pt.length<=1000000000)(hap:ap.length<=1000000000)(haf:∀w:Fc,w∈ap->(fcA w).length<=1000000000):∀ (d:Nat) (u:Pr),bulkPs (prL u)<d->prS u->vkO u->Pu 69 [.agg [.sl 2 (Ce.cs pt),.sl 3 (Fc.cs ap)],.agg (prL u)] (.ret (.tup [.int .i64 (vlF pt ap u).1,.bool (vlF pt ap u).2]))
 | 0,_,h,_,_=>by omega
 | d+1,u,h,hs,hk=>by
  have hb:=pr_bulk u
  have hw:∀w:Pr,w∈prK u->Pu 69 [.agg [.sl 2 (Ce.cs pt),.sl 3 (Fc.cs ap)],.agg (prL w)] (.ret (.tup [.int .i64 (vlF pt ap w).1,.bool (vlF pt ap w).2])):=fun w hw=>vl_ok pt ap hpt hap haf d w (by have:=Pr.mem hw; omega) (prS_kid hs hw) (vkO_kid hk hw)
  have h0:=hk u (by rw [nodesP_e]; simp)
  have hk1:¬prO u=1->¬prO u=2->¬prO u=3->¬prO u=4->¬prO u=5->0<(prK u).length:=fun a b c d e=>by
   unfold pkS_r0 at h0
   repeat' split at h0
   all_goals omega
  have hk2:¬prO u=1->¬prO u=2->¬prO u=3->¬prO u=4->¬prO u=5->¬prO u=9->¬prO u=14->1<(prK u).length:=fun a b c d e f g=>by
   unfold pkS_r0 at h0
   repeat' split at h0
   all_goals omega
  have hl:=prS_len hs
  have hv:=va_e pt ap (prK u) []
  have e:vlF pt ap u=match vlFs pt ap (prK u) with
    | none=>(0,false)
    | some ar=>vlN pt ap (prO u) (prNm u) (prN u) ar:=by cases u; rw [vlF]; rfl
  rw [e]
  cases hf:vlFs pt ap (prK u) with
  | none=>
   rw [hf] at hv
   obtain ⟨b,hv⟩:=hv
   exact vaL_1 pt ap u _ hw hl hpt hap haf hk1 hk2 b hv
  | some ar=>
   rw [hf] at hv
   simp only [List.nil_append] at hv
   show (Ob.pur _ _ (.ret (.tup [.int .i64 (vlN pt ap (prO u) (prNm u) (prN u) ar).1,.bool (vlN pt ap (prO u) (prNm u) (prN u) ar).2]))).ok _
   unfold vlN
   by_cases e1:prO u=1
   ·rw [iP e1]; exact vaL_2 pt ap u _ hw hl hpt hap haf hk1 hk2 ar hv e1
   rw [iN e1]
   by_cases e2:prO u=2
   ·rw [iP e2]; exact vaL_3 pt ap u _ hw hl hpt hap haf hk1 hk2 ar hv e1 e2
   rw [iN e2]
   by_cases e3:prO u=3
   ·rw [iP e3]
    cases hfd:(fdF pt (prNm u)).2 with
    | true=>exact vaL_4 pt ap u _ hw hl hpt hap haf hk1 hk2 ar hv e1 e2 e3 hfd
    | false=>exact vaL_5 pt ap u _ hw hl hpt hap haf hk1 hk2 ar hv e1 e2 e3 hfd
   rw [iN e3]
   by_cases e4:prO u=4
   ·rw [iP e4]; exact vaL_6 pt ap u _ hw hl hpt hap haf hk1 hk2 ar hv e1 e2 e3 e4
   rw [iN e4]
   by_cases e5:prO u=5
   ·rw [iP e5]; exact vaL_7 pt ap u _ hw hl hpt hap haf hk1 hk2 ar hv e1 e2 e3 e4 e5
   rw [iN e5]
   by_cases e9:prO u=9
   ·rw [iP e9]; exact vaL_8 pt ap u _ hw hl hpt hap haf hk1 hk2 ar hv e1 e2 e3 e4 e5 e9
   rw [iN e9]
   by_cases e14:prO u=14
   ·rw [iP e14]; exact vaL_9 pt ap u _ hw hl hpt hap haf hk1 hk2 ar hv e1 e2 e3 e4 e5 e9 e14
   ·rw [iN e14]; exact vaL_10 pt ap u _ hw hl hpt hap haf hk1 hk2 ar hv e1 e2 e3 e4 e5 e9 e14
theorem vlT(pt:List Ce)(ap:List Fc)(hpt:pt.length<=1000000000)(hap:ap.length<=1000000000)(haf:∀w:Fc,w∈ap->(fcA w).length<=1000000000)(u:Pr)(hs:prS u)(hk:vkO u):Pu 69 [.agg [.sl 2 (Ce.cs pt),.sl 3 (Fc.cs ap)],.agg (prL u)] (.ret (.tup [.int .i64 (vlF pt ap u).1,.bool (vlF pt ap u).2])):=vl_ok pt ap hpt hap haf _ u (Nat.lt_succ_self _) hs hk
def vlV(pt:List Ce)(ap:List Fc)(p:Pr):Option Int:=if (vlF pt ap p).2=true then some (vlF pt ap p).1 else none
theorem nms_nx:∀l:List BA,noXss (nmsC l)=true
 | []=>rfl
 | x::r=>by simp [nmsC,noXss,noXs,PV.noX,nms_nx r]
mutual
theorem Pr.cnx:∀x:Pr,noXs (Pr.c x)=true
 | .mk _ _ _ k=>by simp only [Pr.c,noXs,PV.noX,Pr.csnx k,Bool.and_self]
theorem Pr.csnx:∀l:List Pr,noXss (Pr.cs l)=true
 | []=>rfl
 | x::r=>by simp only [Pr.cs,noXss,Pr.cnx x,Pr.csnx r,Bool.and_self]
end
mutual
theorem Tp.cnx:∀x:Tp,noXs (Tp.c x)=true
 | .mk _ _ a ns p ps=>by simp only [Tp.c,noXs,PV.noX,Tp.csnx a,nms_nx,Pr.csnx,Bool.and_self]
theorem Tp.csnx:∀l:List Tp,noXss (Tp.cs l)=true
 | []=>rfl
 | x::r=>by simp only [Tp.cs,noXss,Tp.cnx x,Tp.csnx r,Bool.and_self]
end
theorem Pm.nx(x:Pm):noXs (pmL x)=true:=by simp only [noXs,PV.noX,Tp.csnx,nms_nx,Pr.csnx,Bool.and_self]
theorem Pm.csnx:∀l:List Pm,noXss (Pm.cs l)=true
 | []=>rfl
 | x::r=>by simp only [Pm.cs,noXss,Pm.nx x,Pm.csnx r,Bool.and_self]
mutual
theorem Ex.cnx:∀x:Ex,noXs (Ex.c x)=true
 | .mk _ _ _ k p a t=>by simp only [Ex.c,noXs,PV.noX,Ex.csnx k,Pm.csnx,Al.csnx a,Tp.csnx,Bool.and_self]
theorem Ex.csnx:∀l:List Ex,noXss (Ex.cs l)=true
 | []=>rfl
 | x::r=>by simp only [Ex.cs,noXss,Ex.cnx x,Ex.csnx r,Bool.and_self]
theorem Al.cnx:∀x:Al,noXs (Al.c x)=true
 | .mk _ ns b=>by simp only [Al.c,noXs,PV.noX,nms_nx,Ex.cnx b,Bool.and_self]
theorem Al.csnx:∀l:List Al,noXss (Al.cs l)=true
 | []=>rfl
 | x::r=>by simp only [Al.cs,noXss,Al.cnx x,Al.csnx r,Bool.and_self]
end
theorem Ex.nx(x:Ex):noXs (exL x)=true:=by rw [<-Ex.c_eq]; exact Ex.cnx x
theorem Vr.nx(x:Vr):noXs (vrL x)=true:=by simp only [noXs,PV.noX,Pr.csnx,Tp.csnx,Pm.csnx,Ex.csnx,Al.csnx,nms_nx,Bool.and_self]
theorem Vr.csnx:∀l:List Vr,noXss (Vr.cs l)=true
 | []=>rfl
 | x::r=>by simp only [Vr.cs,noXss,Vr.nx x,Vr.csnx r,Bool.and_self]
theorem Cn.nx(x:Cn):noXs (cnL x)=true:=by simp only [noXs,PV.noX,Pr.csnx,Tp.csnx,Pm.csnx,Ex.csnx,Al.csnx,nms_nx,Vr.csnx,Bool.and_self]
theorem Cn.csnx:∀l:List Cn,noXss (Cn.cs l)=true
 | []=>rfl
 | x::r=>by simp only [Cn.cs,noXss,Cn.nx x,Cn.csnx r,Bool.and_self]
theorem Da.nx(x:Da):noXs (daL x)=true:=by simp only [noXs,PV.noX,Pr.csnx,Tp.csnx,Pm.csnx,Ex.csnx,Al.csnx,nms_nx,Vr.csnx,Cn.csnx,Bool.and_self]
theorem Da.csnx:∀l:List Da,noXss (Da.cs l)=true
 | []=>rfl
 | x::r=>by simp only [Da.cs,noXss,Da.nx x,Da.csnx r,Bool.and_self]
theorem Cl.nx(x:Cl):noXs (clL x)=true:=by simp only [noXs,PV.noX,Pr.csnx,Tp.csnx,Pm.csnx,Ex.csnx,Al.csnx,nms_nx,Vr.csnx,Cn.csnx,Da.csnx,Bool.and_self]
theorem Cl.csnx:∀l:List Cl,noXss (Cl.cs l)=true
 | []=>rfl
 | x::r=>by simp only [Cl.cs,noXss,Cl.nx x,Cl.csnx r,Bool.and_self]
theorem Bo.nx(x:Bo):noXs (boL x)=true:=by simp only [noXs,PV.noX,Pr.csnx,Tp.csnx,Pm.csnx,Ex.csnx,Al.csnx,nms_nx,Vr.csnx,Cn.csnx,Da.csnx,Cl.csnx,Bool.and_self]
theorem Bo.csnx:∀l:List Bo,noXss (Bo.cs l)=true
 | []=>rfl
 | x::r=>by simp only [Bo.cs,noXss,Bo.nx x,Bo.csnx r,Bool.and_self]
theorem Df.nx(x:Df):noXs (dfL x)=true:=by simp only [noXs,PV.noX,Pr.csnx,Tp.csnx,Pm.csnx,Ex.csnx,Al.csnx,nms_nx,Vr.csnx,Cn.csnx,Da.csnx,Cl.csnx,Bo.csnx,Bool.and_self]
theorem Df.csnx:∀l:List Df,noXss (Df.cs l)=true
 | []=>rfl
 | x::r=>by simp only [Df.cs,noXss,Df.nx x,Df.csnx r,Bool.and_self]
theorem In.nx(x:In):noXs (inL x)=true:=by simp only [noXs,PV.noX,Pr.csnx,Tp.csnx,Pm.csnx,Ex.csnx,Al.csnx,nms_nx,Vr.csnx,Cn.csnx,Da.csnx,Cl.csnx,Bo.csnx,Df.csnx,Bool.and_self]
theorem In.csnx:∀l:List In,noXss (In.cs l)=true
 | []=>rfl
 | x::r=>by simp only [In.cs,noXss,In.nx x,In.csnx r,Bool.and_self]
theorem Cs.nx(x:Cs):noXs (csL x)=true:=by simp only [noXs,PV.noX,Pr.csnx,Tp.csnx,Pm.csnx,Ex.csnx,Al.csnx,nms_nx,Vr.csnx,Cn.csnx,Da.csnx,Cl.csnx,Bo.csnx,Df.csnx,In.csnx,Bool.and_self]
theorem Cs.csnx:∀l:List Cs,noXss (Cs.cs l)=true
 | []=>rfl
 | x::r=>by simp only [Cs.cs,noXss,Cs.nx x,Cs.csnx r,Bool.and_self]
theorem Ms.nx(x:Ms):noXs (msL x)=true:=by simp only [noXs,PV.noX,Pr.csnx,Tp.csnx,Pm.csnx,Ex.csnx,Al.csnx,nms_nx,Vr.csnx,Cn.csnx,Da.csnx,Cl.csnx,Bo.csnx,Df.csnx,In.csnx,Cs.csnx,Bool.and_self]
theorem Ms.csnx:∀l:List Ms,noXss (Ms.cs l)=true
 | []=>rfl
 | x::r=>by simp only [Ms.cs,noXss,Ms.nx x,Ms.csnx r,Bool.and_self]
theorem Qu.nx(x:Qu):noXs (quL x)=true:=by simp only [noXs,PV.noX,Pr.csnx,Tp.csnx,Pm.csnx,Ex.csnx,Al.csnx,nms_nx,Vr.csnx,Cn.csnx,Da.csnx,Cl.csnx,Bo.csnx,Df.csnx,In.csnx,Cs.csnx,Ms.csnx,Bool.and_self]
theorem Qu.csnx:∀l:List Qu,noXss (Qu.cs l)=true
 | []=>rfl
 | x::r=>by simp only [Qu.cs,noXss,Qu.nx x,Qu.csnx r,Bool.and_self]
theorem Mo.nx(x:Mo):noXs (moL x)=true:=by simp only [noXs,PV.noX,Pr.csnx,Tp.csnx,Pm.csnx,Ex.csnx,Al.csnx,nms_nx,Vr.csnx,Cn.csnx,Da.csnx,Cl.csnx,Bo.csnx,Df.csnx,In.csnx,Cs.csnx,Ms.csnx,Qu.csnx,Bool.and_self]
theorem noXA{l:List PV}(h:noXs l=true):noXs [.agg l]=true:=by rw [noXs,PV.noX,h]; rfl
open Go.Pv Go.Proofs.Tryz Go.RowKit
abbrev Sc:=List (BA × Int × Pr)
def scK(l:Sc):List BA:=l.map (·.1)
def scT(l:Sc):List PV:=l.map fun x => .int .i64 x.2.1
def scP(l:Sc):List PV:=l.map fun x => .agg (prL x.2.2)
def scL(l:Sc):List PV:=[.fm (scK l) (scT l),.fm (scK l) (scP l)]
def scN(nm:BA)(l:Sc):Sc:=l.filter fun x=>decide (x.1≠nm)
def scW(nm:BA)(t:Int)(p:Pr)(l:Sc):Sc:=(nm,t,p)::scN nm l
def scE1(l:Sc):List (BA × PV):=l.map fun x=>(x.1,.int .i64 x.2.1)
def scE2(l:Sc):List (BA × PV):=l.map fun x=>(x.1,.agg (prL x.2.2))
theorem scZ1:∀l:Sc,(scK l).zip (scT l)=scE1 l
 | []=>rfl
 | x::r=>by
  have:=scZ1 r
  simp only [scK,scT,scE1,List.map_cons,List.zip_cons_cons] at this ⊢
  rw [this]
theorem scZ2:∀l:Sc,(scK l).zip (scP l)=scE2 l
 | []=>rfl
 | x::r=>by
  have:=scZ2 r
  simp only [scK,scP,scE2,List.map_cons,List.zip_cons_cons] at this ⊢
  rw [this]
theorem sc_get2{l:Sc}(hn:(scK l).Nodup){x:BA × Int × Pr}(hx:x∈l):mget x.1 (scE2 l)=some (.agg (prL x.2.2)):=by
 refine mget_mem ?_ (List.mem_map.2 ⟨x,hx,rfl⟩)
 rw [scE2,List.map_map]
 exact hn
theorem scN_snoc(nm:BA)(q:Sc)(x:BA × Int × Pr):scN nm (x::q).reverse=scN nm q.reverse++scN nm [x]:=by
 simp [scN]
theorem sc_nxT:∀l:Sc,noXs (scT l)=true
 | []=>rfl
 | x::r=>by
  have:=sc_nxT r
  simp only [scT,List.map_cons,noXs,PV.noX,Bool.true_and] at this ⊢
  exact this
theorem sc_nxP:∀l:Sc,noXs (scP l)=true
 | []=>rfl
 | x::r=>by
  have:=sc_nxP r
  simp only [scP,List.map_cons,noXs,PV.noX,Pr.csnx,Bool.true_and,Bool.and_true] at this ⊢
  exact this
theorem sc_nx(l:Sc):noXs (scL l)=true:=by simp only [scL,noXs,PV.noX,sc_nxT,sc_nxP,Bool.and_self]
def seenC(q:Sc)(y:BA × Int × Pr):Bool:=q.any fun z=>decide (z.1=y.1)
theorem seenC_cons(x:BA × Int × Pr)(q:Sc)(y:BA × Int × Pr):seenC (x::q) y=(decide (x.1=y.1)||seenC q y):=rfl
theorem sc_le(q:Sc)(x:BA × Int × Pr):∀r:Sc,(r.filter fun y=>!seenC (x::q) y).length<=(r.filter fun y=>!seenC q y).length
 | []=>Nat.le_refl _
 | y::r=>by
  have ih:=sc_le q x r
  have h:=seenC_cons x q y
  simp only [List.filter_cons]
  cases h1:seenC q y with
  | true=>rw [h,h1]; simp; exact ih
  | false=>
   cases h2:seenC (x::q) y with
   | true=>simp; omega
   | false=>simp; exact ih
theorem sc_less(q:Sc)(x:BA × Int × Pr)(hx:∀y∈q,y.1≠x.1):∀l:Sc,x∈l->(l.filter fun y=>!seenC (x::q) y).length<(l.filter fun y=>!seenC q y).length
 | y::r,h=>by
  have h0:=sc_le q x r
  simp only [List.filter_cons]
  rcases List.mem_cons.1 h with rfl | h
  ·have h1:seenC q x=false:=by
    rw [seenC,List.any_eq_false]
    intro z hz
    simpa using hx z hz
   rw [seenC_cons x q x,h1]
   simp
   omega
  ·have ih:=sc_less q x hx r h
   have h2:=seenC_cons x q y
   cases h1:seenC q y with
   | true=>rw [h2,h1]; simp; exact ih
   | false=>
    cases h3:seenC (x::q) y with
    | true=>simp; omega
    | false=>simp; exact ih
theorem sc_perm{q l:Sc}(hn:(scK l).Nodup)(hq:(q.map (·.1)).Nodup)(hs:∀x∈q,x∈l)(hp:(scE1 q).Perm (scE1 l)):q.Perm l:=by
 have n1:q.Nodup:=List.Pairwise.of_map (fun x:BA × Int × Pr=>x.1) (fun a b h e=>h (by rw [e])) hq
 have n2:l.Nodup:=List.Pairwise.of_map (fun x:BA × Int × Pr=>x.1) (fun a b h e=>h (by rw [e])) hn
 refine (List.perm_ext_iff_of_nodup n1 n2).2 fun x=>⟨hs x,fun hx=>?_⟩
 have h1:(x.1,.int .i64 x.2.1)∈scE1 q:=hp.mem_iff.2 (List.mem_map.2 ⟨x,hx,rfl⟩)
 obtain ⟨y,hy,e⟩:=List.mem_map.1 h1
 injection e with e _
 have h2:=hs y hy
 have h3:y=x:=by
  obtain ⟨i,hi,rfl⟩:=List.getElem_of_mem h2
  obtain ⟨j,hj,rfl⟩:=List.getElem_of_mem hx
  have h4:i=j:=(List.getElem_inj (h₀:=by simpa [scK] using hi) (h₁:=by simpa [scK] using hj) hn).1 (by simpa [scK] using e)
  subst h4
  rfl
 rw [<-h3]
 exact hy
theorem sc_done{nm:BA}{t:Int}{p:Pr}{q l:Sc}(h:q.Perm l):(scE1 (scN nm q.reverse)).Perm (scE1 (scN nm l))/\(scE2 (scN nm q.reverse)).Perm (scE2 (scN nm l)):=by
 have h1:(scN nm q.reverse).Perm (scN nm l):=((List.reverse_perm q).trans h).filter _
 exact ⟨h1.map _,h1.map _⟩
def fstC:Code->Code
 | .seq a _=>a
 | c=>c
def sndC:Code->Code
 | .seq _ b=>b
 | c=>c
def isSeq:Code->Bool
 | .seq _ _=>true
 | _=>false
def reg2:Code->Option (Oper × Oper)
 | .region _ ⟨[a,b]⟩ false=>some (a,b)
 | _=>none
def sho(o:Oper):Op × Option (Nat × Bool) × Option Nat:=(o.op,o.guard,o.dst)
theorem sho_op{o:Oper}{a:Op}{b:Option (Nat × Bool)}{c:Option Nat}(h:sho o=(a,b,c)):o.op=a/\o.guard=b/\o.dst=c:=by
 injection h with h1 h2
 injection h2 with h2 h3
 exact ⟨h1,h2,h3⟩
theorem reg2_of{c:Code}{x0 x1:Op × Option (Nat × Bool) × Option Nat}(h:(reg2 c).map (fun z=>(sho z.1,sho z.2))=some (x0,x1)) :
  ∃id o0 o1,c = .region id #[o0,o1] false/\sho o0=x0/\sho o1=x1:=by
 unfold reg2 at h
 split at h
 ·simp only [Option.map_some,Option.some.injEq,Prod.mk.injEq] at h
  exact ⟨_,_,_,rfl,h.1,h.2⟩
 ·cases h
section
variable {P:Program} {cx:Cx} {s:S} {Q:PExit->S->Prop}
theorem PW_two{c:Code}(hc:isSeq c=true)(h:PW P cx (fstC c) s (thenQ (fun s'=>PW P cx (sndC c) s' Q) Q)):PW P cx c s Q:=by
 cases c with
 | seq a b=>exact PW_seq h
 | _=>cases hc
theorem PL_ext{o:Oper}{all:Array Oper}{rest:List Oper}{t d i:Nat}{ps:List PV}{p:PV}(hg:o.guard=none)(ho:o.op = .extract (.tmp t) i)(hd:o.dst=some d)(hn:d<cx.n)(ht:lk s.tmps t=some (.v (.tup ps)))(hp:ps[i]?=some p)(hk:PL P cx all rest { s with tmps:=put s.tmps d (.v p) } Q):PL P cx all (o::rest) s Q:=
 PL_act (ro:=fun _=>some false) (ops:=[]) hg (by
  simp only [act,ho,actEx,evP,ev,toP,RM.wp,ht,hp,wv,hd,hn,if_true]
  exact hk)
end
def mdW1:Md:=⟨fun _=>some false,fun _=>false⟩
abbrev wiB(l:Sc):List (Nat × List LV):=[(4,[.v (.fm (scK l) (scT l)),.v (.fm (scK l) (scP l))]),(8,[.v .mpn,.v .mpn]),(9,[.v (.mp 0),.v (.mp 1)])]
abbrev wiI(l:Sc)(nm:BA)(t:Int)(p:Pr)(q:Sc):S:=⟨[(1,.v (.str nm)),(4,.lp 4 0),(8,.lp 8 0),(9,.lp 9 0),(23,.v (.xp 2 0))],wiB l,
 [(0,[.mm (.s ((nm,.int .i64 t)::scE1 (scN nm q.reverse)))]),(1,[.mm (.s ((nm,.agg (prL p))::scE2 (scN nm q.reverse)))]),(2,[.mm (.fit (scK l) (scT l) (scE1 q))])]⟩
abbrev wiJ(l:Sc)(nm:BA)(t:Int)(p:Pr)(q:Sc)(x:BA × Int × Pr)(b:Bool):S:=⟨[(1,.v (.str nm)),(4,.lp 4 0),(8,.lp 8 0),(9,.lp 9 0),(23,.v (.xp 2 0)),(25,.v (.bool b))],wiB l,
 [(0,[.mm (.s ((nm,.int .i64 t)::scE1 (scN nm q.reverse)))]),(1,[.mm (.s ((nm,.agg (prL p))::scE2 (scN nm q.reverse)))]),(2,[.mm (.fit (scK l) (scT l) (cond b (scE1 (x::q)) (scE1 q)))])]⟩
theorem wi_next(l:Sc)(nm:BA)(t:Int)(p:Pr)(q:Sc)(cx:Cx)(hcx:cx.n=44){Q:PExit->S->Prop}(h0:(scE1 q).Perm (scE1 l)->Q .normal (wiJ l nm t p q default false))(h1:∀x∈l,(∀y∈q,y.1≠x.1)->Q .normal (wiJ l nm t p q x true)) :
  PW prog cx (fstC (loopF f58 0)) (wiI l nm t p q) Q:=by
 obtain ⟨id,o0,o1,hc,e0,e1⟩:=reg2_of (c:=fstC (loopF f58 0)) (x0:=(.next (.tmp 23) false,none,some 24)) (x1:=(.extract (.tmp 24) 0,none,some 25)) kR
 rw [hc]
 intro g l0 a w hs
 refine wp_region_lit ?_
 have hn:∀k,k<44->k<cx.n:=fun k hk=>by rw [hcx]; exact hk
 obtain ⟨a0,b0,c0⟩:=sho_op e0
 obtain ⟨a1,b1,c1⟩:=sho_op e1
 refine (PL_next (k:=2) b0 a0 c0 (hn _ dD) rfl rfl (fun hp=>?_) (fun kb v hm hne=>?_):PL _ _ _ _ _ _) g l0 a w hs
 ·rw [scZ1] at hp
  refine PL_ext b1 a1 c1 (hn _ dD) rfl rfl ?_
  refine PL_le (t:=wiJ l nm t p q default false) ?_ (PL_nil (h0 hp))
  exact ⟨⟨W,W,W,W,W,W,tVv⟩,⟨⟨W,W,tVv⟩,⟨W,W,tVv⟩,⟨W,W,tVv⟩,tVv⟩,⟨⟨W,tVv⟩,⟨W,tVv⟩,⟨W,tVv⟩,tVv⟩,Nat.le_refl _⟩
 ·rw [scZ1] at hm
  obtain ⟨x,hx,e⟩:=List.mem_map.1 hm
  injection e with e2 e3
  subst e2 e3
  refine PL_ext b1 a1 c1 (hn _ dD) rfl rfl ?_
  refine PL_le (t:=wiJ l nm t p q x true) ?_ (PL_nil (h1 x hx fun y hy=>hne (y.1,.int .i64 y.2.1) (List.mem_map.2 ⟨y,hy,rfl⟩)))
  exact ⟨⟨W,W,W,W,W,W,tVv⟩,⟨⟨W,W,tVv⟩,⟨W,W,tVv⟩,⟨W,W,tVv⟩,tVv⟩,⟨⟨W,tVv⟩,⟨W,tVv⟩,⟨W,tVv⟩,tVv⟩,Nat.le_refl _⟩
section
variable (l:Sc) (nm:BA) (t:Int) (p:Pr) (q:Sc) (x:BA × Int × Pr)
include l nm t p q x
theorem wiB1_1(hm:mget x.1 ((scK l).zip (scP l))=some (.agg (prL x.2.2)))(hx0:¬Prod.fst ((fun x=>(Prod.fst x,pI (Prod.fst (Prod.snd x)))) x)=nm)(cx:Cx)(hcx:cx.n=44){Q:PExit->S->Prop}(hq:Q (.normal) (S.mk [(1,vS nm),(4,.lp 4 0),(8,.lp 8 0),(9,.lp 9 0),(23,.v (.xp 2 0)),(25,.v (.bool true))] [(4,[.v (PV.fm (scK l) (scT l)),.v (PV.fm (scK l) (scP l))]),(8,[.v PV.mpn,.v PV.mpn]),(9,[.v (PV.mp 0),.v (PV.mp 1)])] [(0,[LV.mm (MM.s (mupd (Prod.fst ((fun x=>(Prod.fst x,pI (Prod.fst (Prod.snd x)))) x)) (Prod.snd ((fun x=>(Prod.fst x,pI (Prod.fst (Prod.snd x)))) x)) ((nm,pI t)::scE1 (scN nm (List.reverse q)))))]),(1,[LV.mm (MM.s (mupd (Prod.fst ((fun x=>(Prod.fst x,pI (Prod.fst (Prod.snd x)))) x)) (luRes false (mget (Prod.fst ((fun x=>(Prod.fst x,pI (Prod.fst (Prod.snd x)))) x)) (List.zip (scK l) (scP l))) (.agg [pI 0,.str nm0,pI 0,.nilsl])) ((nm,.agg (prL p))::scE2 (scN nm (List.reverse q)))))]),(2,[LV.mm (MM.fit (scK l) (scT l) (bif true then scE1 (x::q) else scE1 q))])])):PW prog cx (sndC (loopF f58 0)) (wiJ l nm t p q x true) Q:=
 pw mdW1 44 [bt true,bt (!ByteArray.toList (Prod.fst ((fun x=>(Prod.fst x,pI (Prod.fst (Prod.snd x)))) x))==ByteArray.toList nm) (bnT (bsF hx0)),kp] [1,4,8,9,23,25] [4,8,9] hcx hq
theorem wiB1_2(hm:mget x.1 ((scK l).zip (scP l))=some (.agg (prL x.2.2)))(hx0:Prod.fst ((fun x=>(Prod.fst x,pI (Prod.fst (Prod.snd x)))) x)=nm)(cx:Cx)(hcx:cx.n=44){Q:PExit->S->Prop}(hq:Q (.normal) (S.mk [(1,vS nm),(4,.lp 4 0),(8,.lp 8 0),(9,.lp 9 0),(23,.v (.xp 2 0)),(25,.v (.bool true))] [(4,[.v (PV.fm (scK l) (scT l)),.v (PV.fm (scK l) (scP l))]),(8,[.v PV.mpn,.v PV.mpn]),(9,[.v (PV.mp 0),.v (PV.mp 1)])] [(0,[LV.mm (MM.s ((nm,pI t)::scE1 (scN nm (List.reverse q))))]),(1,[LV.mm (MM.s ((nm,.agg (prL p))::scE2 (scN nm (List.reverse q))))]),(2,[LV.mm (MM.fit (scK l) (scT l) (bif true then scE1 (x::q) else scE1 q))])])):PW prog cx (sndC (loopF f58 0)) (wiJ l nm t p q x true) Q:=
 pw mdW1 44 [bt true,bf (!ByteArray.toList (Prod.fst ((fun x=>(Prod.fst x,pI (Prod.fst (Prod.snd x)))) x))==ByteArray.toList nm) (bnF (bsT hx0))] [1,4,8,9,23,25] [4,8,9] hcx hq
theorem wiC(cx:Cx)(hcx:cx.n=44){Q:PExit->S->Prop}(hq:Q (.exit 0) (S.mk [(1,vS nm),(4,.lp 4 0),(8,.lp 8 0),(9,.lp 9 0),(23,.v (.xp 2 0)),(25,.v (.bool false))] [(4,[.v (PV.fm (scK l) (scT l)),.v (PV.fm (scK l) (scP l))]),(8,[.v PV.mpn,.v PV.mpn]),(9,[.v (PV.mp 0),.v (PV.mp 1)])] [(0,[LV.mm (MM.s ((nm,pI t)::scE1 (scN nm (List.reverse q))))]),(1,[LV.mm (MM.s ((nm,.agg (prL p))::scE2 (scN nm (List.reverse q))))]),(2,[LV.mm (MM.fit (scK l) (scT l) (bif false then scE1 (x::q) else scE1 q))])])):PW prog cx (sndC (loopF f58 0)) (wiJ l nm t p q x false) Q:=
 pw mdW1 44 [bf false] [1,4,8,9,23,25] [4,8,9] hcx hq
end
theorem wi_upd1{nm:BA}{t:Int}{q:Sc}{x:BA × Int × Pr}(hx:x.1≠nm)(hq:∀y∈q,y.1≠x.1):mupd x.1 (.int .i64 x.2.1) ((nm,.int .i64 t)::scE1 (scN nm q.reverse))=(nm,.int .i64 t)::scE1 (scN nm (x::q).reverse):=by
 rw [mupd_new,scN_snoc]
 ·simp [scE1,scN,hx]
 ·intro y hy
  rcases List.mem_cons.1 hy with rfl | hy
  ·exact fun e=>hx e.symm
  ·obtain ⟨z,hz,rfl⟩:=List.mem_map.1 hy
   exact hq z (by simpa using (List.mem_filter.1 hz).1)
theorem wi_upd2{nm:BA}{p:Pr}{q:Sc}{x:BA × Int × Pr}(hx:x.1≠nm)(hq:∀y∈q,y.1≠x.1):mupd x.1 (.agg (prL x.2.2)) ((nm,.agg (prL p))::scE2 (scN nm q.reverse))=(nm,.agg (prL p))::scE2 (scN nm (x::q).reverse):=by
 rw [mupd_new,scN_snoc]
 ·simp [scE2,scN,hx]
 ·intro y hy
  rcases List.mem_cons.1 hy with rfl | hy
  ·exact fun e=>hx e.symm
  ·obtain ⟨z,hz,rfl⟩:=List.mem_map.1 hy
   exact hq z (by simpa using (List.mem_filter.1 hz).1)
theorem wi_same{nm:BA}{q:Sc}{x:BA × Int × Pr}(hx:x.1=nm):scN nm (x::q).reverse=scN nm q.reverse:=by
 rw [scN_snoc]
 simp [scN,hx]
def wiE(l:Sc)(nm:BA)(t:Int)(p:Pr)(q:Sc):S:=⟨[(1,.v (.str nm)),(4,.lp 4 0),(8,.lp 8 0),(9,.lp 9 0),(23,.v (.xp 2 0)),(25,.v (.bool false))],wiB l,
 [(0,[.mm (.s ((nm,.int .i64 t)::scE1 (scN nm q.reverse)))]),(1,[.mm (.s ((nm,.agg (prL p))::scE2 (scN nm q.reverse)))]),(2,[.mm (.fit (scK l) (scT l) (scE1 q))])]⟩
theorem wi_round(l:Sc)(hn:(scK l).Nodup)(nm:BA)(t:Int)(p:Pr)(q:Sc)(cx:Cx)(hcx:cx.n=44) :
  PW prog cx (loopF f58 0) (wiI l nm t p q) fun pe s'=>(pe = .normal/\∃x∈l,(∀y∈q,y.1≠x.1)/\LeX (wiI l nm t p (x::q)) s')∨(pe = .exit 0/\(scE1 q).Perm (scE1 l)/\s'=wiE l nm t p q):=by
 refine PW_two rfl (wi_next l nm t p q cx hcx (fun hp=>?_) (fun x hx hne=>?_))
 ·exact wiC l nm t p q default cx hcx (.inr ⟨rfl,hp,rfl⟩)
 ·have hm:mget x.1 ((scK l).zip (scP l))=some (.agg (prL x.2.2)):=by rw [scZ2]; exact sc_get2 hn hx
  by_cases hk:x.1=nm
  ·refine wiB1_2 l nm t p q x hm hk cx hcx (.inl ⟨rfl,x,hx,hne,?_⟩)
   simp only [wiI,wi_same hk]
   exact ⟨⟨W,W,W,W,W,tVv⟩,⟨⟨W,W,tVv⟩,⟨W,W,tVv⟩,⟨W,W,tVv⟩,tVv⟩,rfl⟩
  ·refine wiB1_1 l nm t p q x hm hk cx hcx (.inl ⟨rfl,x,hx,hne,?_⟩)
   rw [hm]
   simp only [luRes,Option.getD_some,wi_upd1 hk hne,wi_upd2 hk hne]
   exact ⟨⟨W,W,W,W,W,tVv⟩,⟨⟨W,W,tVv⟩,⟨W,W,tVv⟩,⟨W,W,tVv⟩,tVv⟩,rfl⟩
def seenOK(l q:Sc):Prop:=(q.map (·.1)).Nodup/\∀x∈q,x∈l
theorem seenOK_cons{l q:Sc}{x:BA × Int × Pr}(h:seenOK l q)(hx:x∈l)(hne:∀y∈q,y.1≠x.1):seenOK l (x::q):=by
 refine ⟨?_,fun y hy=>?_⟩
 ·simp only [List.map_cons,List.nodup_cons]
  refine ⟨fun hm=>?_,h.1⟩
  obtain ⟨y,hy,e⟩:=List.mem_map.1 hm
  exact hne y hy e
 ·rcases List.mem_cons.1 hy with rfl | hy
  ·exact hx
  ·exact h.2 y hy
theorem wi_loop(l:Sc)(hn:(scK l).Nodup)(nm:BA)(t:Int)(p:Pr)(cx:Cx)(hcx:cx.n=44){s:S}(hs:s=wiI l nm t p []){Q:PExit->S->Prop}(hQ:∀q,q.Perm l->Q (.exit 0) (wiE l nm t p q)) :
  PW prog cx (.loop (loopF f58 0)) s Q:=by
 subst hs
 refine PW_loopE (α:={ y:Sc × S // seenOK l y.1/\LeX (wiI l nm t p y.1) y.2 }) (fun y=>y.1.2) (fun y=>(l.filter fun z=>!seenC y.1.1 z).length) ⟨([],wiI l nm t p []),⟨List.nodup_nil,fun x hx=>by cases hx⟩,⟨⟨W,W,W,W,W,tVv⟩,⟨⟨W,W,tVv⟩,⟨W,W,tVv⟩,⟨W,W,tVv⟩,tVv⟩,rfl⟩⟩ rfl ?_
 rintro ⟨⟨q,s⟩,hq,hle⟩
 refine PW.leX hle ((wi_round l hn nm t p q cx hcx).mono ?_)
 rintro pe s' (⟨rfl,x,hx,hne,h1⟩ | ⟨rfl,hp,rfl⟩)
 ·exact ⟨⟨(x::q,s'),seenOK_cons hq hx hne,h1⟩,sc_less q x hne l hx,rfl⟩
 ·exact hQ q (sc_perm hn hq.1 hq.2 hp)
theorem scW_zip1(nm:BA)(t:Int)(p:Pr)(l:Sc):(scK (scW nm t p l)).zip (scT (scW nm t p l))=(nm,.int .i64 t)::scE1 (scN nm l):=by rw [scZ1]; rfl
theorem scW_zip2(nm:BA)(t:Int)(p:Pr)(l:Sc):(scK (scW nm t p l)).zip (scP (scW nm t p l))=(nm,.agg (prL p))::scE2 (scN nm l):=by rw [scZ2]; rfl
theorem withT(l:Sc)(hn:(scK l).Nodup)(nm:BA)(t:Int)(p:Pr):Pu 58 [.agg (scL l),.str nm,.int .i64 t,.agg (prL p)] (.ret (.agg (scL (scW nm t p l)))):=by
 refine ⟨by kernel_rfl,fun e=>CallC.freezeM ?_ (sc_nxT _) (sc_nxP _) (by simp [scK,scT]) (by simp [scK,scP]) ?_ e⟩
 ·simp only [noXs,PV.noX,sc_nx,Pr.csnx,Bool.and_self]
 refine CallC.enter func58 rfl (show 4<=44 by decide) fun cx hcx hds=>?_
 refine PW_seq ?_
 refine PW_runK mdW1 44 50 [] [1,2,4,7,8] [4,7,8] (s':=⟨[(1,.v (.str nm)),(2,.v (.int .i64 t)),(4,.lp 4 0),(7,.lp 7 0),(8,.lp 8 0)],[(4,[.v (.fm (scK l) (scT l)),.v (.fm (scK l) (scP l))]),(7,prV p),(8,[.v .mpn,.v .mpn])],[]⟩) (pe := .normal) (sc':=[]) (l:=[]) mixed hcx kR kR trivial ?_
 show PW _ _ _ _ _
 refine PW_seq ?_
 refine PW_runK mdW1 44 50 [] [1,4,8,9] [4,8,9] (s':=⟨[(1,.v (.str nm)),(4,.lp 4 0),(8,.lp 8 0),(9,.lp 9 0)],wiB l,[(0,[.mm (.s [(nm,.int .i64 t)])]),(1,[.mm (.s [(nm,.agg (prL p))])])]⟩) (pe := .normal) (sc':=[]) (l:=[]) mixed hcx kR kR trivial ?_
 show PW _ _ _ _ _
 refine PW_seq (PW_seq ?_)
 refine PW_runK mdW1 44 50 [] [1,4,8,9,23] [4,8,9] (s':=wiI l nm t p []) (pe := .normal) (sc':=[]) (l:=[]) mixed hcx kR kR trivial ?_
 show PW _ _ _ _ _
 refine PW_block ?_
 refine wi_loop l hn nm t p cx hcx rfl fun q hq=>?_
 show PW _ _ _ _ _
 refine PW_runK mdW1 44 50 [] [8] [8] (s':=⟨[(8,.lp 8 0)],[(8,[.v (.mp 0),.v (.mp 1)])],(wiE l nm t p q).ext⟩) (pe := .ret) (sc':=[]) (l:=[]) mixed hcx kR kR trivial ?_
 refine .inl ⟨_,rfl,_,_,_,rfl,rfl,?_,?_⟩
 ·rw [scW_zip1]
  exact (sc_done (nm:=nm) (t:=t) (p:=p) hq).1.cons _
 ·rw [scW_zip2]
  exact (sc_done (nm:=nm) (t:=t) (p:=p) hq).2.cons _
theorem scW_keys{nm:BA}{t:Int}{p:Pr}{l:Sc}(hn:(scK l).Nodup):(scK (scW nm t p l)).Nodup:=by
 simp only [scK,scW,List.map_cons,List.nodup_cons]
 refine ⟨fun h=>?_,?_⟩
 ·obtain ⟨x,hx,e⟩:=List.mem_map.1 h
  have:=(List.mem_filter.1 hx).2
  simp only [ne_eq,decide_not,Bool.not_eq_true',decide_eq_false_iff_not] at this
  exact this e
 ·exact (List.filter_sublist.map _).nodup hn
abbrev pl0_I(t:Tp)(pf:Tp->Tp)(j:Int)(out:List Tp)(e:Ext):S:=S.mk [(2,.lp 2 0),(3,.lp 3 0),(12,vL 9 (Tp.cs (tpA t))),(13,vI6 ((tpA t).length:Int)),(14,vI6 j)] [(2,[vI6 0,vS nm0,.v .nilsl,.v .nilsl,vI6 0,vS nm0,vI6 0,.v .nilsl,.v .nilsl]),(3,[vI6 (tpO t),vS (tpNm t),.uniq 48 9 (Tp.cs out),.v .nilsl,vI6 0,vS nm0,vI6 0,.v .nilsl,.v .nilsl])] e
def pl0_f(pf:Tp->Tp):List Tp->(List Tp)->(List Tp)
 | [],out=>(out)
 | el::r,out=>pl0_f pf r (out++[pf el])
def pl0_q(t:Tp)(pf:Tp->Tp)(e:Ext)(p:(List Tp)):PExit × S:=(.exit 0,S.mk [(2,.lp 2 0),(3,.lp 3 0),(12,vL 9 (Tp.cs (tpA t))),(13,vI6 ((tpA t).length:Int))] [(2,[vI6 0,vS nm0,.v .nilsl,.v .nilsl,vI6 0,vS nm0,vI6 0,.v .nilsl,.v .nilsl]),(3,[vI6 (tpO t),vS (tpNm t),.uniq 48 9 (Tp.cs p),.v .nilsl,vI6 0,vS nm0,vI6 0,.v .nilsl,.v .nilsl])] e)
theorem pl0(t:Tp)(pf:Tp->Tp)(hwk:∀w:Tp,w∈tpA t->Pu 54 [.agg (tpL w)] (.ret (.agg (tpL (pf w)))))(out:List Tp)(e:Ext)(hN:(tpA t).length<=1000000000)(hv:List.length out<=0):(Ob.loop 27 (loopF f54 0) (pl0_I t pf 0 out e) (pl0_q t pf e (pl0_f pf ((tpA t))  out)).1 (pl0_q t pf e (pl0_f pf ((tpA t))  out)).2).ok prog:=by
 refine rng ((tpA t).length) (fun j out=>pl0_I t pf j out e) (fun i out=>pl0_f pf (List.drop i ((tpA t)))  out) (pl0_q t pf e) (fun i out=>(out.length<=i)) kR ?_ out (by first | exact hv | omega)
 rintro i out hi hv
 try simp only at hv
 rcases Nat.lt_or_ge i ((tpA t).length) with hlt | hge
 ·have hd:=drop_at hlt
  exact lS mdL [rgTp hlt,cl (@hwk (List.getD (tpA t) i default) (by simp_all [Bool.not_eq_true,Bool.not_eq_false])),am (List.length (Tp.cs out++[tpL (pf (List.getD (tpA t) i default))]) * (151+1)<=140737488355328) (by (simp only [List.length_append,List.length_cons,List.length_nil,nmsC_len,Pr.cs_len,Tp.cs_len]; omega)),wr ((i:Int)+1)] [2,3,12,13,14] [2,3] hlt (out++[pf (List.getD (tpA t) i default)]) (S.mk [(2,.lp 2 0),(3,.lp 3 0),(12,vL 9 (Tp.cs (tpA t))),(13,vI6 ((tpA t).length:Int)),(14,vI6 ((i:Int)+1))] [(2,[vI6 0,vS nm0,.v .nilsl,.v .nilsl,vI6 0,vS nm0,vI6 0,.v .nilsl,.v .nilsl]),(3,[vI6 (tpO t),vS (tpNm t),.uniq 48 9 (Tp.cs out++[tpL (pf (List.getD (tpA t) i default))]),.v .nilsl,vI6 0,vS nm0,vI6 0,.v .nilsl,.v .nilsl])] e) ⟨⟨W,W,W,W,W,tVv⟩,⟨Ws,⟨W,W,(.inl (by first | (simp only [List.nil_append,nmsC_app,nmsC_snoc,Pr.cs_snoc,Tp.cs_snoc,Ex.cs_snoc,Vr.cs_snoc,Df.cs_snoc]; done) | (simp only [List.nil_append,nmsC_app,nmsC_snoc,Pr.cs_snoc,Tp.cs_snoc,Ex.cs_snoc,Vr.cs_snoc,Df.cs_snoc]; rfl))),W,W,W,W,W,W,tVv⟩,tVv⟩,rfl⟩ (by first | assumption | omega | (apply gTp <;> first | assumption | omega | decide) | (apply gEx <;> first | assumption | omega | decide) | (simp only [List.length_append,List.length_cons,List.length_nil] at *; omega) | simp_all) (by rw [hd,pl0_f])
 ·have he:i=(tpA t).length:=by omega
  exact lX mdL [df ((i:Int)<((tpA t).length:Int))] (out) (by rw [he,List.drop_length,pl0_f])
def plD:Nat->Tp->Tp
 | 0,t=>t
 | d+1,t => .mk (tpO t) (tpNm t) (pl0_f (plD d) (tpA t) []) [] default []
theorem pl0_e(pf:Tp->Tp):∀ (l out:List Tp),pl0_f pf l out=out++l.map pf
 | [],out=>by simp [pl0_f]
 | x::r,out=>by simp [pl0_f,pl0_e pf r]
def plF(t:Tp):Tp:=plD (bulkPs (tpL t)+1) t
theorem tpw_bulk(x:Tp):bulkPss (Tp.cs (tpA x))+bulkPss (Pr.cs (tpPs x))+bulkPs (prL (tpP x))<bulkPs (tpL x):=by simp only [bulkPs,bulkP]; omega
theorem pl_ok:∀ (d:Nat) (t:Tp),bulkPs (tpL t)<d->d<=1000000001->Pu 54 [.agg (tpL t)] (.ret (.agg (tpL (plD d t))))
 | 0,_,h,_=>by omega
 | d+1,t,h,hd=>by
  have h1:=tpw_bulk t
  have h2:=Tp.bulk (tpA t)
  exact Ob.pur_wk (Wk.a (kr (kr (kr (kn 1 (kr (kr (kr (kn 4 (kn 4 (WkL.r _))))))))))) (pu mdL (fun e=>[sl (Tp.cs_len (tpA t)),lp (S.mk [(2,.lp 2 0),(3,.lp 3 0),(12,vL 9 (Tp.cs (tpA t))),(13,vI6 ((tpA t).length:Int)),(14,vI6 0)] [(2,[vI6 0,vS nm0,.v .nilsl,.v .nilsl,vI6 0,vS nm0,vI6 0,.v .nilsl,.v .nilsl]),(3,[vI6 (tpO t),vS (tpNm t),.v .nilsl,.v .nilsl,vI6 0,vS nm0,vI6 0,.v .nilsl,.v .nilsl])] e) (@pl0 t ((plD d)) (fun w hw=>pl_ok d w (by have:=Tp.mem hw; omega) oM) ([]) e oM (by (simp only [List.length_nil]; omega))) ⟨⟨W,W,W,W,W,tVv⟩,⟨⟨W,W,W,W,W,W,W,W,W,tVv⟩,⟨W,W,Wq,W,W,Wq,W,W,W,tVv⟩,tVv⟩,rfl⟩]) func54)
theorem plT(t:Tp)(hs:bulkPs (tpL t)<=1000000000):Pu 54 [.agg (tpL t)] (.ret (.agg (tpL (plF t)))):=pl_ok _ t oM oM
theorem simL(t:Tp)(hs:bulkPs (tpL t)<=1000000000):Pu 57 [.agg (tpL t)] (rB ((tpO (plF t)==1||tpO (plF t)==2)&&ByteArray.toList (tpNm (plF t))==ByteArray.toList nm0&&((tpA (plF t)).length:Int)==0)):=
 pm mdL [cl (@plT t hs),mg,av (.v (.bool (bif tpO (plF t)==1 then true else tpO (plF t)==2))) (.v (.bool (tpO (plF t)==1||tpO (plF t)==2))) rF,mg,av (.v (.bool (bif tpO (plF t)==1||tpO (plF t)==2 then ByteArray.toList (tpNm (plF t))==ByteArray.toList nm0 else false))) (.v (.bool ((tpO (plF t)==1||tpO (plF t)==2)&&ByteArray.toList (tpNm (plF t))==ByteArray.toList nm0))) (by (simp only [Bool.cond_false_right]; done)),mg,av (.v (.bool (bif (tpO (plF t)==1||tpO (plF t)==2)&&ByteArray.toList (tpNm (plF t))==ByteArray.toList nm0 then (↑((fun x=>List.length (Prod.snd x)) (9,Tp.cs (tpA (plF t)))):Int)==0 else false))) (.v (.bool ((tpO (plF t)==1||tpO (plF t)==2)&&ByteArray.toList (tpNm (plF t))==ByteArray.toList nm0&&((tpA (plF t)).length:Int)==0))) (by (simp only [List.length_nil,Tp.cs_len,Bool.cond_false_right]; done))] func57
theorem beN(t:Tp)(b:Bool)(hb:Pu 57 [.agg (tpL t)] (.ret (.bool b))):Pu 56 [.agg (tpL t)] (rB !b):=
 pm mdL [cl hb] func56
def fxE{α:Type}(pe:α->Bool)(l:List α):Int:=if l.findIdx pe<l.length then (l.findIdx pe:Int) else -1
theorem fxE_any{α:Type}(pe:α->Bool)(l:List α):decide (0<=fxE pe l)=l.any pe:=by
 unfold fxE
 by_cases h:l.findIdx pe<l.length
 ·rw [iP h]
  have:=List.findIdx_lt_length.1 h
  rw [List.any_eq_true.2 this]
  simp
 ·rw [iN h]
  have:l.any pe=false:=by
   rw [List.any_eq_false]
   intro x hx hp
   exact h (List.findIdx_lt_length.2 ⟨x,hx,hp⟩)
  rw [this]
  rfl
abbrev xfT_I(l:List Tp)(g:Nat)(caps:List PV)(pe:Tp->Bool)(j:Int)(e:Ext):S:=S.mk [(0,vL 9 (Tp.cs l)),(1,.v (.fn (.func g) [] caps)),(4,vI6 0),(7,vI6 (l.length:Int)),(8,vI6 j)] [] e
inductive xfT_R where
 | e0 (i:Nat)
 | e1
def xfT_f(pe:Tp->Bool):List Tp->Nat->xfT_R
 | [],i=>(xfT_R.e1)
 | el::r,i=>(if pe el=true then (xfT_R.e0 i) else xfT_f pe r (i+1))
def xfT_q(l:List Tp)(g:Nat)(caps:List PV)(pe:Tp->Bool)(e:Ext):xfT_R->PExit × S
 | .e0 i=>(.ret,S.mk [(0,vL 9 (Tp.cs l)),(1,.v (.fn (.func g) [] caps)),(4,vI6 (i:Int)),(7,vI6 (l.length:Int))] [] e)
 | .e1=>(.exit 0,S.mk [(0,vL 9 (Tp.cs l)),(1,.v (.fn (.func g) [] caps)),(4,vI6 0),(7,vI6 (l.length:Int))] [] e)
theorem xfT_lp(l:List Tp)(g:Nat)(caps:List PV)(pe:Tp->Bool)(hwk:∀ (w:Tp),w∈l->Pu g (.agg (tpL w)::caps) (.ret (.bool (pe w))))(e:Ext)(hN:l.length<=1000000000):(Ob.loop 19 (loopF f102 0) (xfT_I l g caps pe 0  e) (xfT_q l g caps pe e (xfT_f pe (l) 0)).1 (xfT_q l g caps pe e (xfT_f pe (l) 0)).2).ok prog:=by
 refine rng l.length (fun j _=>xfT_I l g caps pe j  e) (fun i _=>xfT_f pe (List.drop i (l)) i) (xfT_q l g caps pe e) (fun i _=>True) kR ?_ () trivial
 rintro i u hi -
 rcases Nat.lt_or_ge i (l.length) with hlt | hge
 ·have hd:=drop_at hlt
  refine t0 ?_;refine tp [rgTp hlt,cl (@hwk (List.getD l i default) (by simp_all [Bool.not_eq_true,Bool.not_eq_false]))] ?_;by_cases h0:pe (List.getD l i default)=true
  ·exact tX mdL [bt1 h0] (xfT_R.e0 i) (by rw [hd,xfT_f,iP h0])
  ·exact tN mdL [bf1 (bFT h0),wr ((i:Int)+1)] hlt () trivial (by rw [hd,xfT_f,iN h0])
 ·have he:i=l.length:=by omega
  exact lX mdL [df ((i:Int)<(l.length:Int))] (xfT_R.e1) (by rw [he,List.drop_length,xfT_f])
theorem xfT_x(pe:Tp->Bool):∀ (l:List Tp) (k:Nat),xfT_f pe l k=if l.findIdx pe<l.length then .e0 (k+l.findIdx pe) else .e1
 | [],k=>by simp [xfT_f]
 | c::r,k=>by
  by_cases h:pe c=true
  ·simp [xfT_f,h,List.findIdx_cons]
  ·have h':pe c=false:=by cases hh:pe c <;> simp_all
   simp only [xfT_f,h',Bool.false_eq_true,if_false,xfT_x pe r (k+1),List.length_cons,List.findIdx_cons,cond_false]
   by_cases h2:r.findIdx pe<r.length
   ·rw [iP h2,iP oM]; congr 1; omega
   ·rw [iN h2,iN oM]
section
variable (l:List Tp) (g:Nat) (caps:List PV) (pe:Tp->Bool) (hwk:∀ (w:Tp),w∈l->Pu g (.agg (tpL w)::caps) (.ret (.bool (pe w)))) (hN:l.length<=1000000000)
include l g caps pe hwk hN
theorem xfTL_1(hy0:Nat)(hx1:xfT_f pe l 0=xfT_R.e0 hy0):Pu 102 [.sl 9 (Tp.cs l),.fn (.func g) [] caps] (rI (hy0:Int)):=
 pu mdL (fun e=>[sl (Tp.cs_len l),lq (rz (xfT_lp (l) (g) (caps) (pe) hwk (e) hN) hx1)]) func102
theorem xfTL_2(hx0:xfT_f pe l 0=xfT_R.e1):Pu 102 [.sl 9 (Tp.cs l),.fn (.func g) [] caps] (rI (-1)):=
 pu mdL (fun e=>[sl (Tp.cs_len l),lq (rz (xfT_lp (l) (g) (caps) (pe) hwk (e) hN) hx0)]) func102
end
theorem xfTT(l:List Tp)(g:Nat)(caps:List PV)(pe:Tp->Bool)(hwk:∀ (w:Tp),w∈l->Pu g (.agg (tpL w)::caps) (.ret (.bool (pe w))))(hN:l.length<=1000000000):Pu 102 [.sl 9 (Tp.cs l),.fn (.func g) [] caps] (.ret (.int .i64 (fxE pe l))):=by
 unfold fxE
 by_cases h:l.findIdx pe<l.length
 ·rw [iP h]; have e:xfT_f pe l 0 = .e0 (l.findIdx pe):=by rw [xfT_x,iP h,Nat.zero_add]
  first | exact xfTL_1 l g caps pe hwk hN _ e | exact xfTL_2 l g caps pe hwk hN _ e
 ·rw [iN h]; have e:xfT_f pe l 0 = .e1:=by rw [xfT_x,iN h]
  first | exact xfTL_1 l g caps pe hwk hN e | exact xfTL_2 l g caps pe hwk hN e
theorem cfTT(l:List Tp)(g:Nat)(caps:List PV)(pe:Tp->Bool)(hwk:∀ (w:Tp),w∈l->Pu g (.agg (tpL w)::caps) (.ret (.bool (pe w))))(hN:l.length<=1000000000):Pu 55 [.sl 9 (Tp.cs l),.fn (.func g) [] caps] (.ret (.bool (l.any pe))):=by
 rw [<-fxE_any]
 exact pm mdL [cl (@xfTT l g caps pe hwk hN)] func55
abbrev xfE_I(l:List Ex)(g:Nat)(caps:List PV)(pe:Ex->Bool)(j:Int)(e:Ext):S:=S.mk [(0,vL 7 (Ex.cs l)),(1,.v (.fn (.func g) [] caps)),(4,vI6 0),(7,vI6 (l.length:Int)),(8,vI6 j)] [] e
inductive xfE_R where
 | e0 (i:Nat)
 | e1
def xfE_f(pe:Ex->Bool):List Ex->Nat->xfE_R
 | [],i=>(xfE_R.e1)
 | el::r,i=>(if pe el=true then (xfE_R.e0 i) else xfE_f pe r (i+1))
def xfE_q(l:List Ex)(g:Nat)(caps:List PV)(pe:Ex->Bool)(e:Ext):xfE_R->PExit × S
 | .e0 i=>(.ret,S.mk [(0,vL 7 (Ex.cs l)),(1,.v (.fn (.func g) [] caps)),(4,vI6 (i:Int)),(7,vI6 (l.length:Int))] [] e)
 | .e1=>(.exit 0,S.mk [(0,vL 7 (Ex.cs l)),(1,.v (.fn (.func g) [] caps)),(4,vI6 0),(7,vI6 (l.length:Int))] [] e)
theorem xfE_lp(l:List Ex)(g:Nat)(caps:List PV)(pe:Ex->Bool)(hwk:∀ (w:Ex),w∈l->Pu g (.agg (exL w)::caps) (.ret (.bool (pe w))))(e:Ext)(hN:l.length<=1000000000):(Ob.loop 19 (loopF f128 0) (xfE_I l g caps pe 0  e) (xfE_q l g caps pe e (xfE_f pe (l) 0)).1 (xfE_q l g caps pe e (xfE_f pe (l) 0)).2).ok prog:=by
 refine rng l.length (fun j _=>xfE_I l g caps pe j  e) (fun i _=>xfE_f pe (List.drop i (l)) i) (xfE_q l g caps pe e) (fun i _=>True) kR ?_ () trivial
 rintro i u hi -
 rcases Nat.lt_or_ge i (l.length) with hlt | hge
 ·have hd:=drop_at hlt
  refine t0 ?_;refine tp [rgEx hlt,cl (@hwk (List.getD l i default) (by simp_all [Bool.not_eq_true,Bool.not_eq_false]))] ?_;by_cases h0:pe (List.getD l i default)=true
  ·exact tX mdL [bt1 h0] (xfE_R.e0 i) (by rw [hd,xfE_f,iP h0])
  ·exact tN mdL [bf1 (bFT h0),wr ((i:Int)+1)] hlt () trivial (by rw [hd,xfE_f,iN h0])
 ·have he:i=l.length:=by omega
  exact lX mdL [df ((i:Int)<(l.length:Int))] (xfE_R.e1) (by rw [he,List.drop_length,xfE_f])
theorem xfE_x(pe:Ex->Bool):∀ (l:List Ex) (k:Nat),xfE_f pe l k=if l.findIdx pe<l.length then .e0 (k+l.findIdx pe) else .e1
 | [],k=>by simp [xfE_f]
 | c::r,k=>by
  by_cases h:pe c=true
  ·simp [xfE_f,h,List.findIdx_cons]
  ·have h':pe c=false:=by cases hh:pe c <;> simp_all
   simp only [xfE_f,h',Bool.false_eq_true,if_false,xfE_x pe r (k+1),List.length_cons,List.findIdx_cons,cond_false]
   by_cases h2:r.findIdx pe<r.length
   ·rw [iP h2,iP oM]; congr 1; omega
   ·rw [iN h2,iN oM]
section
variable (l:List Ex) (g:Nat) (caps:List PV) (pe:Ex->Bool) (hwk:∀ (w:Ex),w∈l->Pu g (.agg (exL w)::caps) (.ret (.bool (pe w)))) (hN:l.length<=1000000000)
include l g caps pe hwk hN
theorem xfEL_1(hy0:Nat)(hx1:xfE_f pe l 0=xfE_R.e0 hy0):Pu 128 [.sl 7 (Ex.cs l),.fn (.func g) [] caps] (rI (hy0:Int)):=
 pu mdL (fun e=>[sl (Ex.cs_len l),lq (rz (xfE_lp (l) (g) (caps) (pe) hwk (e) hN) hx1)]) func128
theorem xfEL_2(hx0:xfE_f pe l 0=xfE_R.e1):Pu 128 [.sl 7 (Ex.cs l),.fn (.func g) [] caps] (rI (-1)):=
 pu mdL (fun e=>[sl (Ex.cs_len l),lq (rz (xfE_lp (l) (g) (caps) (pe) hwk (e) hN) hx0)]) func128
end
theorem xfET(l:List Ex)(g:Nat)(caps:List PV)(pe:Ex->Bool)(hwk:∀ (w:Ex),w∈l->Pu g (.agg (exL w)::caps) (.ret (.bool (pe w))))(hN:l.length<=1000000000):Pu 128 [.sl 7 (Ex.cs l),.fn (.func g) [] caps] (.ret (.int .i64 (fxE pe l))):=by
 unfold fxE
 by_cases h:l.findIdx pe<l.length
 ·rw [iP h]; have e:xfE_f pe l 0 = .e0 (l.findIdx pe):=by rw [xfE_x,iP h,Nat.zero_add]
  first | exact xfEL_1 l g caps pe hwk hN _ e | exact xfEL_2 l g caps pe hwk hN _ e
 ·rw [iN h]; have e:xfE_f pe l 0 = .e1:=by rw [xfE_x,iN h]
  first | exact xfEL_1 l g caps pe hwk hN e | exact xfEL_2 l g caps pe hwk hN e
theorem cfET(l:List Ex)(g:Nat)(caps:List PV)(pe:Ex->Bool)(hwk:∀ (w:Ex),w∈l->Pu g (.agg (exL w)::caps) (.ret (.bool (pe w))))(hN:l.length<=1000000000):Pu 86 [.sl 7 (Ex.cs l),.fn (.func g) [] caps] (.ret (.bool (l.any pe))):=by
 rw [<-fxE_any]
 exact pm mdL [cl (@xfET l g caps pe hwk hN)] func86
def mdB:Md:=⟨fun _=>some false,fun t=>t==4000088||t==4000089⟩
def prVr(x:BA):Pr := .mk 3 x 0 []
def prZ:Pr := .mk 0 nm0 0 []
theorem wk_pr(o:Int)(x:BA)(n:Int):Wk (.agg [.int .i64 o,.str x,.int .i64 n,.nilsl]) (.agg (prL (.mk o x n []))) := .agg rfl fun j h h'=>by
 have:j<4:=h
 match j,this with
 | 0,_=>exact .r _
 | 1,_=>exact .r _
 | 2,_=>exact .r _
 | 3,_=>exact .n 4
theorem withV(l:Sc)(hn:(scK l).Nodup)(nm:BA)(t:Int)(x:BA):Pu 58 [.agg (scL l),.str nm,.int .i64 t,.agg [.int .i64 3,.str x,.int .i64 0,.nilsl]] (.ret (.agg (scL (scW nm t (prVr x) l)))):=
 Ob.pur_arg (.c (.r _) (.c (.r _) (.c (.r _) (.c (wk_pr 3 x 0) (.r _))))) (withT l hn nm t (prVr x))
theorem withZ(l:Sc)(hn:(scK l).Nodup)(nm:BA)(t:Int):Pu 58 [.agg (scL l),.str nm,.int .i64 t,.agg [.int .i64 0,.str nm0,.int .i64 0,.nilsl]] (.ret (.agg (scL (scW nm t prZ l)))):=
 Ob.pur_arg (.c (.r _) (.c (.r _) (.c (.r _) (.c (wk_pr 0 nm0 0) (.r _))))) (withT l hn nm t prZ)
abbrev be0_I(d:Df)(u:Tp)(s0:Sc)(xe:Ext)(j:Int)(s:Sc)  : S:=S.mk [(1,.lp 1 0),(2,.lp 2 0),(4,.lp 4 0),(5,.lp 5 0),(55,vL 1 (nmsC (dfP d))),(56,vI6 ((dfP d).length:Int)),(57,vI6 j)] [(1,dfV d),(2,[.v PV.mpn,.v PV.mpn]),(4,[.v (PV.fm (scK s) (scT s)),.v (PV.fm (scK s) (scP s))]),(5,tpV u)] xe
def be0_f(u:Tp):List BA->Nat->(Sc)->(Sc)
 | [],i,s=>(s)
 | el::r,i,s=>be0_f u r (i+1) (scW el (tpO (List.getD (tpA u) i default)) (prVr el) s)
def be0_q(d:Df)(u:Tp)(s0:Sc)(xe:Ext)(p:(Sc)):PExit × S:=(.exit 0,S.mk [(1,.lp 1 0),(2,.lp 2 0),(4,.lp 4 0),(5,.lp 5 0),(55,vL 1 (nmsC (dfP d))),(56,vI6 ((dfP d).length:Int))] [(1,dfV d),(2,[.v PV.mpn,.v PV.mpn]),(4,[.v (PV.fm (scK p) (scT p)),.v (PV.fm (scK p) (scP p))]),(5,tpV u)] xe)
theorem be0(d:Df)(u:Tp)(s0:Sc)(hlen:(tpA u).length=(dfP d).length+1)(hs0:(scK s0).Nodup)(xe:Ext)(s:Sc)(hN:(dfP d).length<=1000000000)(hv:List.Nodup (scK s)):(Ob.loop 75 (loopF f27 0) (be0_I d u s0 xe 0 s) (be0_q d u s0 xe  (be0_f u ((dfP d)) 0 s)).1 (be0_q d u s0 xe  (be0_f u ((dfP d)) 0 s)).2).ok prog:=by
 refine rng ((dfP d).length) (fun j s=>be0_I d u s0 xe j s) (fun i s=>be0_f u (List.drop i ((dfP d))) i s) (be0_q d u s0 xe) (fun i s=>((scK s).Nodup)) kR ?_ s (by first | exact hv | omega)
 rintro i s hi hv
 try simp only at hv
 rcases Nat.lt_or_ge i ((dfP d).length) with hlt | hge
 ·have hd:=drop_at0 hlt
  exact lS mdB [rgNm hlt,mxTp (tpA u) (i:Int),xTp (tpA u) i oM,cl (@withV s hv (List.getD (dfP d) i nm0) (tpO (List.getD (tpA u) i default)) (List.getD (dfP d) i nm0)),wr ((i:Int)+1)] [1,2,4,5,55,56,57] [1,2,4,5] hlt (scW (List.getD (dfP d) i nm0) (tpO (List.getD (tpA u) i default)) (prVr (List.getD (dfP d) i nm0)) s) (S.mk [(1,.lp 1 0),(2,.lp 2 0),(4,.lp 4 0),(5,.lp 5 0),(55,vL 1 (nmsC (dfP d))),(56,vI6 ((dfP d).length:Int)),(57,vI6 ((i:Int)+1))] [(1,dfV d),(2,[.v PV.mpn,.v PV.mpn]),(4,[.v (PV.fm (scK (scW (List.getD (dfP d) i nm0) (tpO (List.getD (tpA u) i default)) (prVr (List.getD (dfP d) i nm0)) s)) (scT (scW (List.getD (dfP d) i nm0) (tpO (List.getD (tpA u) i default)) (prVr (List.getD (dfP d) i nm0)) s))),.v (PV.fm (scK (scW (List.getD (dfP d) i nm0) (tpO (List.getD (tpA u) i default)) (prVr (List.getD (dfP d) i nm0)) s)) (scP (scW (List.getD (dfP d) i nm0) (tpO (List.getD (tpA u) i default)) (prVr (List.getD (dfP d) i nm0)) s)))]),(5,tpV u)] xe) ⟨⟨W,W,W,W,W,W,W,tVv⟩,⟨Ws,Ws,⟨Wq,Wq,tVv⟩,Ws,tVv⟩,rfl⟩ (by first | assumption | omega | (apply scW_keys <;> first | assumption | omega | decide) | (apply gTp <;> first | assumption | omega | decide) | (simp only [List.length_append,List.length_cons,List.length_nil] at *; omega) | simp_all) (by rw [hd,be0_f])
 ·have he:i=(dfP d).length:=by omega
  exact lX mdB [df ((i:Int)<((dfP d).length:Int))] (s) (by rw [he,List.drop_length,be0_f])
theorem be0_le(u:Tp):∀ (l:List BA) (i:Nat) (s:Sc),(scK s).Nodup->(scK (be0_f u l i s)).Nodup
 | [],i,s,h=>h
 | x::r,i,s,h=>be0_le u r (i+1) _ (scW_keys h)
theorem be0N(d:Df)(u:Tp)(hlen:(tpA u).length=(dfP d).length+1)(hN:(dfP d).length<=1000000000)(xe:Ext):(Ob.loop 75 (loopF f27 0) ⟨[(1,.lp 1 0),(2,.lp 2 0),(4,.lp 4 0),(5,.lp 5 0),(55,.v (.sl 1 (nmsC (dfP d)))),(56,.v (.int .i64 (dfP d).length)),(57,.v (.int .i64 0))],[(1,dfV d),(2,[.v .mpn,.v .mpn]),(4,[.v (.fm [] []),.v (.fm [] [])]),(5,tpV u)],xe⟩ (be0_q d u [] xe (be0_f u ((dfP d)) 0 [])).1 (be0_q d u [] xe (be0_f u ((dfP d)) 0 [])).2).ok prog:=be0 d u [] hlen List.nodup_nil xe [] hN List.nodup_nil
section
variable (d:Df) (u:Tp) (b:Bool) (hpl:Pu 54 [.agg (tpL (dfT d))] (.ret (.agg (tpL u)))) (hsi:Pu 55 [.sl 9 (Tp.cs (tpA u)),.fn (.func 56) [] []] (.ret (.bool b))) (hN:(dfP d).length<=1000000000)
include d u b hpl hsi hN
theorem beL_1(hx0:((dfP d).length:Int)=0):Pu 27 [.agg (dfL d)] (.ret (.tup [.agg [PV.fm [] [],PV.fm [] []],.bool false])):=
 pm mdB [cl hpl,sl (nmsC_len (dfP d)),rp 6 (et1 hx0),rp 24 (bt true)] func27
theorem beL_2(hx0:¬((dfP d).length:Int)=0)(hx1:((dfAb d).length:Int)>0):Pu 27 [.agg (dfL d)] (.ret (.tup [.agg [PV.fm [] [],PV.fm [] []],.bool false])):=
 pm mdB [cl hpl,sl (nmsC_len (dfP d)),rp 4 (en1 hx0),sl (Vr.cs_len (dfAb d)),rp 2 (en1 hx0),rp 6 (dt1 hx1),rp 18 (bt true)] func27
theorem beL_3(hx0:¬((dfP d).length:Int)=0)(hx1:¬((dfAb d).length:Int)>0)(hx2:((dfBo d).length:Int)>0):Pu 27 [.agg (dfL d)] (.ret (.tup [.agg [PV.fm [] [],PV.fm [] []],.bool false])):=
 pm mdB [cl hpl,sl (nmsC_len (dfP d)),rp 4 (en1 hx0),sl (Vr.cs_len (dfAb d)),rp 2 (en1 hx0),rp 4 (df1 hx1),sl (Bo.cs_len (dfBo d)),rp 2 (df1 hx1),rp 4 (dt1 hx2),rp 14 (bt true)] func27
theorem beL_4(hx0:¬((dfP d).length:Int)=0)(hx1:¬((dfAb d).length:Int)>0)(hx2:¬((dfBo d).length:Int)>0)(hx3:¬tpO u=6):Pu 27 [.agg (dfL d)] (.ret (.tup [.agg [PV.fm [] [],PV.fm [] []],.bool false])):=
 pm mdB [cl hpl,sl (nmsC_len (dfP d)),rp 4 (en1 hx0),sl (Vr.cs_len (dfAb d)),rp 2 (en1 hx0),rp 4 (df1 hx1),sl (Bo.cs_len (dfBo d)),rp 2 (df1 hx1),rp 4 (df1 hx2),rp 9 (nt1 hx3),rp 5 (bt true)] func27
theorem beL_5(hx0:¬((dfP d).length:Int)=0)(hx1:¬((dfAb d).length:Int)>0)(hx2:¬((dfBo d).length:Int)>0)(hx3:tpO u=6)(hx4:¬((tpA u).length:Int)=((dfP d).length:Int)+1):Pu 27 [.agg (dfL d)] (.ret (.tup [.agg [PV.fm [] [],PV.fm [] []],.bool false])):=
 pm mdB [cl hpl,sl (nmsC_len (dfP d)),rp 4 (en1 hx0),sl (Vr.cs_len (dfAb d)),rp 2 (en1 hx0),rp 4 (df1 hx1),sl (Bo.cs_len (dfBo d)),rp 2 (df1 hx1),rp 4 (df1 hx2),rp 3 (nn1 hx3),sl (Tp.cs_len (tpA u)),rp 3 (nn1 hx3),sl (nmsC_len (dfP d)),nn1 hx3,wr (((dfP d).length:Int)+1),rp 2 (nn1 hx3),rp 4 (nt1 hx4),bt true] func27
theorem beL_6(hx0:¬((dfP d).length:Int)=0)(hx1:¬((dfAb d).length:Int)>0)(hx2:¬((dfBo d).length:Int)>0)(hx3:tpO u=6)(hx4:((tpA u).length:Int)=((dfP d).length:Int)+1)(hx5:b=true):Pu 27 [.agg (dfL d)] (.ret (.tup [.agg [PV.fm [] [],PV.fm [] []],.bool false])):=
 pm mdB [cl hpl,sl (nmsC_len (dfP d)),rp 4 (en1 hx0),sl (Vr.cs_len (dfAb d)),rp 2 (en1 hx0),rp 4 (df1 hx1),sl (Bo.cs_len (dfBo d)),rp 2 (df1 hx1),rp 4 (df1 hx2),rp 3 (nn1 hx3),sl (Tp.cs_len (tpA u)),rp 3 (nn1 hx3),sl (nmsC_len (dfP d)),nn1 hx3,wr (((dfP d).length:Int)+1),rp 2 (nn1 hx3),rp 3 (nn1 hx4),cl hsi,nn1 hx4,bt1 hx5] func27
theorem beL_7(hx0:¬((dfP d).length:Int)=0)(hx1:¬((dfAb d).length:Int)>0)(hx2:¬((dfBo d).length:Int)>0)(hx3:tpO u=6)(hx4:((tpA u).length:Int)=((dfP d).length:Int)+1)(hx5:b=false):Pu 27 [.agg (dfL d)] (.ret (.tup [.agg [PV.fm (scK (be0_f u (dfP d) 0 [])) (scT (be0_f u (dfP d) 0 [])),PV.fm (scK (be0_f u (dfP d) 0 [])) (scP (be0_f u (dfP d) 0 []))],.bool true])):=
 pu mdB (fun e=>[cl hpl,sl (nmsC_len (dfP d)),rp 4 (en1 hx0),sl (Vr.cs_len (dfAb d)),rp 2 (en1 hx0),rp 4 (df1 hx1),sl (Bo.cs_len (dfBo d)),rp 2 (df1 hx1),rp 4 (df1 hx2),rp 3 (nn1 hx3),sl (Tp.cs_len (tpA u)),rp 3 (nn1 hx3),sl (nmsC_len (dfP d)),nn1 hx3,wr (((dfP d).length:Int)+1),rp 2 (nn1 hx3),rp 3 (nn1 hx4),cl hsi,nn1 hx4,bf1 hx5,sl (nmsC_len (dfP d)),lq (@be0N d u oM hN e)]) func27
end
theorem cs_map_le{f:Tp->Tp}:∀ {l:List Tp},(∀w∈l,bulkPs (tpL (f w))<=bulkPs (tpL w))->bulkPss (Tp.cs (l.map f))<=bulkPss (Tp.cs l)
 | [],_=>Nat.le_refl _
 | x::r,h=>by
  have h1:=h x sM
  have h2:=cs_map_le (l:=r) fun w hw=>h w (by simp [hw])
  rw [Tp.cs_eq] at h2 ⊢
  rw [Tp.cs_eq] at h2 ⊢
  rw [List.map_cons,List.map_cons,List.map_cons,bulkPss,bulkPss]
  omega
theorem plD_bulk:∀ (d:Nat) (t:Tp),bulkPs (tpL (plD d t))<=bulkPs (tpL t)
 | 0,_=>Nat.le_refl _
 | d+1,t=>by
  have h:=cs_map_le (l:=tpA t) fun w _=>plD_bulk d w
  have e:tpA (plD (d+1) t)=(tpA t).map (plD d):=by
   show pl0_f (plD d) (tpA t) []=_
   rw [pl0_e]
   rfl
  have e1:tpNm (plD (d+1) t)=tpNm t:=rfl
  have e2:bulkPss (nmsC (tpNs (plD (d+1) t)))=0:=rfl
  have e3:(prNm (tpP (plD (d+1) t))).size=0:=rfl
  have e4:bulkPss (Pr.cs (prK (tpP (plD (d+1) t))))=0:=rfl
  have e5:bulkPss (Pr.cs (tpPs (plD (d+1) t)))=0:=rfl
  simp only [bulkPs,bulkP,e,e1,e2,e3,e4,e5]
  omega
theorem plF_bulk(t:Tp):bulkPs (tpL (plF t))<=bulkPs (tpL t):=plD_bulk _ t
def simB(t:Tp):Bool:=(tpO (plF t)==1||tpO (plF t)==2)&&ByteArray.toList (tpNm (plF t))==ByteArray.toList nm0&&((tpA (plF t)).length:Int)==0
theorem simT(t:Tp)(hs:bulkPs (tpL t)<=1000000000):Pu 57 [.agg (tpL t)] (.ret (.bool (simB t))):=simL t hs
theorem anyT(l:List Tp)(hs:bulkPss (Tp.cs l)<=1000000000):Pu 55 [.sl 9 (Tp.cs l),.fn (.func 56) [] []] (.ret (.bool (l.any fun t=>!simB t))):=
 cfTT l _ [] (fun t=>!simB t) (fun w hw=>beN w (simB w) (simT w (by have:=Tp.mem hw; omega))) (by have:=Tp.bulk l; omega)
def bgB(d:Df):Bool:=decide ((dfP d).length≠0)&&decide ((dfAb d).length=0)&&decide ((dfBo d).length=0)&&decide (tpO (plF (dfT d))=6)&&decide ((tpA (plF (dfT d))).length=(dfP d).length+1) && !((tpA (plF (dfT d))).any fun t=>!simB t)
def bgF(d:Df):Sc:=if bgB d=true then be0_f (plF (dfT d)) (dfP d) 0 [] else []
theorem bgF_keys(d:Df):(scK (bgF d)).Nodup:=by
 unfold bgF
 split
 ·exact be0_le _ _ _ _ List.nodup_nil
 ·exact List.nodup_nil
theorem df_le(d:Df):bulkPss (nmsC (dfP d))+bulkPs (exL (dfB d))+bulkPs (tpL (dfT d))<=bulkPs (dfL d):=by
 simp only [bulkPs,bulkP]
 omega
theorem sc_e0:scL []=[PV.fm [] [],PV.fm [] []]:=rfl
theorem bgT(d:Df)(hs:bulkPs (dfL d)<=100000000):Pu 27 [.agg (dfL d)] (.ret (.tup [.agg (scL (bgF d)),.bool (bgB d)])):=by
 have hq:=df_le d
 have hp:(dfP d).length<=1000000000:=by
  have:=nms_bulk (dfP d)
  omega
 have ht:bulkPs (tpL (dfT d))<=1000000000:=by omega
 have hl:bulkPss (Tp.cs (tpA (plF (dfT d))))<=1000000000:=by
  have h1:=plF_bulk (dfT d)
  have h2:=tpw_bulk (plF (dfT d))
  omega
 have hpl:=plT (dfT d) ht
 have hsi:=anyT (tpA (plF (dfT d))) hl
 unfold bgF bgB
 by_cases h0:(dfP d).length=0
 ·simpa [h0,sc_e0] using beL_1 d _ _ hpl hsi hp oM
 by_cases h1:(dfAb d).length=0
 case neg=>simpa [h1,sc_e0] using beL_2 d _ _ hpl hsi hp oM oM
 by_cases h2:(dfBo d).length=0
 case neg=>simpa [h2,sc_e0] using beL_3 d _ _ hpl hsi hp oM oM oM
 by_cases h3:tpO (plF (dfT d))=6
 case neg=>simpa [h3,sc_e0] using beL_4 d _ _ hpl hsi hp oM oM oM h3
 by_cases h4:(tpA (plF (dfT d))).length=(dfP d).length+1
 case neg=>simpa [h4,sc_e0] using beL_5 d _ _ hpl hsi hp oM oM oM h3 oM
 cases h5:(tpA (plF (dfT d))).any fun t=>!simB t with
 | true=>
  have:=beL_6 d _ _ hpl hsi hp oM oM oM h3 oM h5
  rw [Bool.not_true,Bool.and_false,iN sM]
  exact this
 | false=>
  have:=beL_7 d _ _ hpl hsi hp oM oM oM h3 oM h5
  rw [h1,h2,h3,h4,show (decide ((dfP d).length≠0))=true by simpa using h0]
  simp only [eq_self,decide_true,Bool.and_true,Bool.not_false,if_true]
  exact this
abbrev sdA_I(m:Mo)(nm:BA)(j:Int)(e:Ext):S:=S.mk [(1,vS nm),(4,.lp 4 0),(9,vL 25 (Df.cs (moF m))),(10,vI6 ((moF m).length:Int)),(11,vI6 j)] [(4,[vS nm0,.v .nilsl,vI6 0,vS nm0,vI6 0,.v .nilsl,.v .nilsl,.v .nilsl,.v .nilsl,vI6 0,.v (.bool false),.v .nilsl,.v .nilsl,.v .nilsl,.v .nilsl,vI6 0,vS nm0,.v .nilsl,.v .nilsl,vI6 0,vS nm0,vI6 0,.v .nilsl,.v .nilsl,.v .nilsl])] e
inductive sdA_R where
 | e0 (el:Df)
 | e1
def sdA_f(nm:BA):List Df->sdA_R
 | []=>(sdA_R.e1)
 | el::r=>(if dfNm el=nm then (sdA_R.e0 el) else sdA_f nm r)
def sdA_q(m:Mo)(nm:BA)(e:Ext):sdA_R->PExit × S
 | .e0 el=>(.ret,S.mk [(1,vS nm),(4,.lp 4 0),(9,vL 25 (Df.cs (moF m))),(10,vI6 ((moF m).length:Int)),(5,.v (.bool true))] [(4,dfV el)] e)
 | .e1=>(.exit 0,S.mk [(1,vS nm),(4,.lp 4 0),(9,vL 25 (Df.cs (moF m))),(10,vI6 ((moF m).length:Int))] [(4,[vS nm0,.v .nilsl,vI6 0,vS nm0,vI6 0,.v .nilsl,.v .nilsl,.v .nilsl,.v .nilsl,vI6 0,.v (.bool false),.v .nilsl,.v .nilsl,.v .nilsl,.v .nilsl,vI6 0,vS nm0,.v .nilsl,.v .nilsl,vI6 0,vS nm0,vI6 0,.v .nilsl,.v .nilsl,.v .nilsl])] e)
theorem sdA_lp(m:Mo)(nm:BA)(e:Ext)(hN:(moF m).length<=1000000000):(Ob.loop 22 (loopF f88 0) (sdA_I m nm 0  e) (sdA_q m nm e (sdA_f nm ((moF m)))).1 (sdA_q m nm e (sdA_f nm ((moF m)))).2).ok prog:=by
 refine rng ((moF m).length) (fun j _=>sdA_I m nm j  e) (fun i _=>sdA_f nm (List.drop i ((moF m)))) (sdA_q m nm e) (fun i _=>True) kR ?_ () trivial
 rintro i u hi -
 rcases Nat.lt_or_ge i ((moF m).length) with hlt | hge
 ·have hd:=drop_at hlt
  by_cases h0:dfNm (List.getD (moF m) i default)=nm
  ·exact lX mdL [rgDf hlt,bt (ByteArray.toList (dfNm (List.getD (moF m) i default))==ByteArray.toList nm) (bsT h0)] (sdA_R.e0 (List.getD ((moF m)) i default)) (by rw [hd,sdA_f,iP h0])
  ·exact lN mdL [rgDf hlt,bf (ByteArray.toList (dfNm (List.getD (moF m) i default))==ByteArray.toList nm) (bsF h0),wr ((i:Int)+1)] hlt () trivial (by rw [hd,sdA_f,iN h0])
 ·have he:i=(moF m).length:=by omega
  exact lX mdL [df ((i:Int)<((moF m).length:Int))] (sdA_R.e1) (by rw [he,List.drop_length,sdA_f])
def opS_r0(k:Int):Int:=(if k=10 then 6 else (if k=11 then 7 else (if k=12 then 8 else (if k=16 then 10 else (if k=17 then 12 else (if k=18 then 13 else (if k=19 then 15 else (if k=20 then 16 else 0))))))))
def opS_r1(k:Int):Bool:=(if k=10 then true else (if k=11 then true else (if k=12 then true else (if k=16 then true else (if k=17 then true else (if k=18 then true else (if k=19 then true else (if k=20 then true else false))))))))
theorem opS(k:Int):Pu 89 [pI k] (.ret (.tup [pI (opS_r0 k),.bool (opS_r1 k)])):=by
 refine t0 ?_;by_cases h0:k=10
 ·simp only [opS_r0,opS_r1,iP h0]; exact tM mdL [et1 h0] func89
 ·refine tp [en1 h0] ?_;by_cases h1:k=11
  ·simp only [opS_r0,opS_r1,iN h0,iP h1]; exact tM mdL [et1 h1] func89
  ·refine tp [en1 h1] ?_;by_cases h2:k=12
   ·simp only [opS_r0,opS_r1,iN h0,iN h1,iP h2]; exact tM mdL [et1 h2] func89
   ·refine tp [en1 h2] ?_;by_cases h3:k=16
    ·simp only [opS_r0,opS_r1,iN h0,iN h1,iN h2,iP h3]; exact tM mdL [et1 h3] func89
    ·refine tp [en1 h3] ?_;by_cases h4:k=17
     ·simp only [opS_r0,opS_r1,iN h0,iN h1,iN h2,iN h3,iP h4]; exact tM mdL [et1 h4] func89
     ·refine tp [en1 h4] ?_;by_cases h5:k=18
      ·simp only [opS_r0,opS_r1,iN h0,iN h1,iN h2,iN h3,iN h4,iP h5]; exact tM mdL [et1 h5] func89
      ·refine tp [en1 h5] ?_;by_cases h6:k=19
       ·simp only [opS_r0,opS_r1,iN h0,iN h1,iN h2,iN h3,iN h4,iN h5,iP h6]; exact tM mdL [et1 h6] func89
       ·refine tp [en1 h6] ?_;by_cases h7:k=20
        ·simp only [opS_r0,opS_r1,iN h0,iN h1,iN h2,iN h3,iN h4,iN h5,iN h6,iP h7]; exact tM mdL [et1 h7] func89
        ·simp only [opS_r0,opS_r1,iN h0,iN h1,iN h2,iN h3,iN h4,iN h5,iN h6,iN h7]; exact tM mdL [en1 h7] func89
def sdO(nm:BA)(l:List Df):Option Df:=l.find? fun d=>decide (dfNm d=nm)
theorem sdA_e(nm:BA):∀l:List Df,sdA_f nm l=match sdO nm l with | some d => .e0 d | none => .e1
 | []=>rfl
 | d::r=>by
  by_cases h:dfNm d=nm
  ·simp [sdA_f,sdO,h]
  ·have:=sdA_e nm r
   simp only [sdA_f,sdO,List.find?_cons,h,if_false,decide_false] at this ⊢
   exact this
theorem sdL_1(m:Mo)(nm:BA)(hN:(moF m).length<=1000000000)(hy0:Df)(hx1:sdA_f nm (moF m)=sdA_R.e0 hy0):Pu 88 [.agg (moL m),.str nm] (.ret (.tup [.agg (dfL hy0),.bool true])):=
 pu mdL (fun e=>[sl (Df.cs_len (moF m)),lq (rz (sdA_lp (m) (nm) (e) hN) hx1)]) func88
theorem sdL_2(m:Mo)(nm:BA)(hN:(moF m).length<=1000000000)(hx0:sdA_f nm (moF m)=sdA_R.e1):Pu 88 [.agg (moL m),.str nm] (.ret (.tup [.agg [.str nm0,.sl 1 [],pI 0,.str nm0,pI 0,.sl 7 [],.sl 10 [],.sl 9 [],.sl 9 [],pI 0,.bool false,.sl 1 [],.sl 2 [],.sl 2 [],.sl 10 [],pI 0,.str nm0,.sl 9 [],.sl 1 [],pI 0,.str nm0,pI 0,.sl 4 [],.sl 4 [],.sl 4 []],.bool false])):=
 Ob.pur_wk (Wk.t (WkL.c (Wk.a (kr (kn 1 (kr (kr (kr (kn 7 (kn 10 (kn 9 (kn 9 (kr (kr (kn 1 (kn 2 (kn 2 (kn 10 (kr (kr (kn 9 (kn 1 (kr (kr (kr (kn 4 (kn 4 (kn 4 (WkL.r _))))))))))))))))))))))))))) (WkL.r _))) (pu mdL (fun e=>[sl (Df.cs_len (moF m)),lq (rz (sdA_lp (m) (nm) (e) hN) hx0)]) func88)
theorem sdT(m:Mo)(nm:BA)(hN:(moF m).length<=1000000000):Pu 88 [.agg (moL m),.str nm] (.ret (.tup [.agg (dfL ((sdO nm (moF m)).getD default)),.bool (sdO nm (moF m)).isSome])):=by
 have h:=sdA_e nm (moF m)
 cases ho:sdO nm (moF m) with
 | none=>rw [ho] at h; first | exact sdL_1 m nm hN h | exact sdL_2 m nm hN h
 | some d=>rw [ho] at h; first | exact sdL_1 m nm hN _ h | exact sdL_2 m nm hN _ h
def scO(k:BA)(l:Sc):Option (BA × Int × Pr):=l.find? fun x=>decide (x.1=k)
def scTy(k:BA)(l:Sc):Int:=((scO k l).map fun x=>x.2.1).getD 0
def scPr(k:BA)(l:Sc):Pr:=((scO k l).map fun x=>x.2.2).getD prZ
theorem sc_m1(k:BA):∀l:Sc,mget k (scE1 l)=(scO k l).map fun x => .int .i64 x.2.1
 | []=>rfl
 | x::r=>by
  have:=sc_m1 k r
  by_cases h:x.1=k
  ·simp [scE1,mget,scO,h]
  ·simp only [scE1,scO,List.map_cons,mget,h,if_false,List.find?_cons,decide_false] at this ⊢
   exact this
theorem sc_m2(k:BA):∀l:Sc,mget k (scE2 l)=(scO k l).map fun x => .agg (prL x.2.2)
 | []=>rfl
 | x::r=>by
  have:=sc_m2 k r
  by_cases h:x.1=k
  ·simp [scE2,mget,scO,h]
  ·simp only [scE2,scO,List.map_cons,mget,h,if_false,List.find?_cons,decide_false] at this ⊢
   exact this
theorem lu_sc1(k:BA)(l:Sc):luRes false (mget k ((scK l).zip (scT l))) (.int .i64 0) = .int .i64 (scTy k l):=by
 rw [scZ1,sc_m1]
 simp only [luRes,scTy]
 cases scO k l <;> rfl
theorem rkN(m:Mo)(w:Ex)(s:Sc)(b:Bool)(hb:Pu 48 [.agg (moL m),.agg (exL w),.agg (scL s)] (.ret (.bool b))):Pu 87 [.agg (exL w),.ro (moL m) 0,.ro (scL s) 0] (rB !b):=
 pm mdL [cl hb] func87
theorem rkL(m:Mo)(e0:Ex)(s:Sc)(b:Bool)(hb:Pu 86 [.sl 7 (Ex.cs (exK e0)),.fn (.func 87) [] [.ro (moL m) 0,.ro (scL s) 0]] (.ret (.bool b))):Pu 85 [.ro (exL e0) 0,.ro (moL m) 0,.ro (scL s) 0] (rB !b):=
 pm mdL [cl hb] func85
theorem rkT(m:Mo)(x:Ex)(s:Sc)(rg:Ex->Bool)(hwk:∀w:Ex,w∈exK x->Pu 48 [.agg (moL m),.agg (exL w),.agg (scL s)] (.ret (.bool (rg w))))(hN:(exK x).length<=1000000000) :
  Pu 85 [.ro (exL x) 0,.ro (moL m) 0,.ro (scL s) 0] (.ret (.bool ((exK x).all rg))):=by
 have h:=rkL m x s _ (cfET (exK x) _ [.ro (moL m) 0,.ro (scL s) 0] (fun w=>!rg w) (fun w hw=>rkN m w s (rg w) (hwk w hw)) hN)
 rw [show (!(exK x).any fun w=>!rg w)=(exK x).all rg by simp [List.all_eq_not_any_not]] at h
 exact h
theorem withZ'(l:Sc)(hn:(scK l).Nodup)(nm:BA)(t:Int):Pu 58 [.agg (scL l),.str nm,.int .i64 t,.agg [.int .i64 0,.str nm0,.int .i64 0,.nilsl]] (.ret (.agg (scL (scW nm t prZ l)))):=withZ l hn nm t
section
variable (m:Mo) (x:Ex) (s:Sc) (hn:(scK s).Nodup) (rg:Ex->Sc->Bool) (hwk:∀ (w:Ex) (u:Sc),w∈exK x->(scK u).Nodup->Pu 48 [.agg (moL m),.agg (exL w),.agg (scL u)] (.ret (.bool (rg w u)))) (kb:Bool) (hkb:Pu 85 [.ro (exL x) 0,.ro (moL m) 0,.ro (scL s) 0] (.ret (.bool kb))) (hsi:∀t:Tp,t∈exT x->Pu 57 [.agg (tpL t)] (.ret (.bool (simB t)))) (hpl:∀t:Tp,t∈exT x->Pu 54 [.agg (tpL t)] (.ret (.agg (tpL (plF t))))) (hN:(moF m).length<=1000000000) (hK:(exK x).length<=1000000000) (hT:(exT x).length<=1000000000) (hx0:¬exO x=1) (hx1:¬exO x=2) (hx2:¬exO x=3) (hx3:¬exO x=12) (hx4:¬exO x=15) (hx5:¬exO x=21) (hx6:¬exO x=8) (hx7:exO x=7) (hx8:((exK x).length:Int)=2) (hx9:((exT x).length:Int)=1)
include m x s hn rg hwk kb hkb hsi hpl hN hK hT hx0 hx1 hx2 hx3 hx4 hx5 hx6 hx7 hx8 hx9
theorem riL_14(hx10:simB (List.getD (exT x) 0 default)=true)(hx11:rg (List.getD (exK x) 0 default) s=true):Pu 48 [.agg (moL m),.agg (exL x),.agg (scL s)] (rB (rg (List.getD (exK x) 1 default) (scW (exNm x) (tpO (plF (List.getD (exT x) 0 default))) prZ s))):=
 pm mdL [sl (Ex.cs_len (exK x)),en1 hx0,en1 hx1,en1 hx2,en1 hx3,en1 hx4,en1 hx5,en1 hx6,et1 hx7,rp 3 (et1 hx8),sl (Tp.cs_len (exT x)),rp 2 (et1 hx8),rp 3 (et1 hx9),mxTp (exT x) 0,xTp (exT x) 0,rp 2 (et1 hx9),cl (@hsi (List.getD (exT x) 0 default) (by (apply gTp <;> first | assumption | omega | decide))),et1 hx9,rp 4 (bt1 hx10),mxEx (exK x) 0,xEx (exK x) 0,rp 3 (bt1 hx10),cl (@hwk (List.getD (exK x) 0 default) s (by (apply gEx <;> first | assumption | omega | decide)) hn),bt1 hx10,rp 4 (bt1 hx11),mxEx (exK x) 1,xEx (exK x) 1,rp 7 (bt1 hx11),mxTp (exT x) 0,xTp (exT x) 0,rp 2 (bt1 hx11),cl (@hpl (List.getD (exT x) 0 default) (by (apply gTp <;> first | assumption | omega | decide))),rp 3 (bt1 hx11),cl (@withZ' s hn (exNm x) (tpO (plF (List.getD (exT x) 0 default)))),bt1 hx11,cl (@hwk (List.getD (exK x) 1 default) (scW (exNm x) (tpO (plF (List.getD (exT x) 0 default))) prZ s) (by (apply gEx <;> first | assumption | omega | decide)) (by (apply scW_keys <;> first | assumption | omega | decide))),bt1 hx11] func48
theorem riL_15(hx10:simB (List.getD (exT x) 0 default)=true)(hx11:rg (List.getD (exK x) 0 default) s=false):Pu 48 [.agg (moL m),.agg (exL x),.agg (scL s)] (rB false):=
 pm mdL [sl (Ex.cs_len (exK x)),en1 hx0,en1 hx1,en1 hx2,en1 hx3,en1 hx4,en1 hx5,en1 hx6,et1 hx7,rp 3 (et1 hx8),sl (Tp.cs_len (exT x)),rp 2 (et1 hx8),rp 3 (et1 hx9),mxTp (exT x) 0,xTp (exT x) 0,rp 2 (et1 hx9),cl (@hsi (List.getD (exT x) 0 default) (by (apply gTp <;> first | assumption | omega | decide))),et1 hx9,rp 4 (bt1 hx10),mxEx (exK x) 0,xEx (exK x) 0,rp 3 (bt1 hx10),cl (@hwk (List.getD (exK x) 0 default) s (by (apply gEx <;> first | assumption | omega | decide)) hn),bt1 hx10,rp 18 (bf1 hx11)] func48
theorem riL_16(hx10:simB (List.getD (exT x) 0 default)=false):Pu 48 [.agg (moL m),.agg (exL x),.agg (scL s)] (rB false):=
 pm mdL [sl (Ex.cs_len (exK x)),en1 hx0,en1 hx1,en1 hx2,en1 hx3,en1 hx4,en1 hx5,en1 hx6,et1 hx7,rp 3 (et1 hx8),sl (Tp.cs_len (exT x)),rp 2 (et1 hx8),rp 3 (et1 hx9),mxTp (exT x) 0,xTp (exT x) 0,rp 2 (et1 hx9),cl (@hsi (List.getD (exT x) 0 default) (by (apply gTp <;> first | assumption | omega | decide))),et1 hx9,rp 8 (bf1 hx10),rp 18 (bf false)] func48
end
def riL_r0(m:Mo)(x:Ex)(s:Sc)(rg:Ex->Sc->Bool)(kb:Bool):Bool:=(if exO x=1 then (((exK x).length:Int)==0) else (if exO x=2 then (((exK x).length:Int)==0) else (if exO x=3 then (Option.isSome (mget (exNm x) (List.zip (scK s) (scT s)))&&((exK x).length:Int)==0) else (if exO x=12 then (if ((exK x).length:Int)=2 then (if exO (List.getD (exK x) 0 default)=1 then kb else (if exO (List.getD (exK x) 1 default)=1 then kb else false)) else false) else (if exO x=15 then (if ((exK x).length:Int)=1 then kb else false) else (if exO x=21 then (if ((exK x).length:Int)=1 then kb else false) else (if exO x=8 then (if ((exK x).length:Int)=3 then kb else false) else (if exO x=7 then (if ((exK x).length:Int)=2 then (if ((exT x).length:Int)=1 then (if simB (List.getD (exT x) 0 default)=true then (if rg (List.getD (exK x) 0 default) s=true then (rg (List.getD (exK x) 1 default) (scW (exNm x) (tpO (plF (List.getD (exT x) 0 default))) prZ s)) else false) else false) else false) else false) else (if exO x=5 then (if (Option.isSome (sdO (exNm x) (moF m)) && !Option.isSome (mget (exNm x) (List.zip (scK s) (scT s)))&&dfM (Option.getD (sdO (exNm x) (moF m)) default)==2)=true then kb else false) else (if (opS_r1 (exO x)&&((exK x).length:Int)==2)=true then kb else false))))))))))
theorem riL(m:Mo)(x:Ex)(s:Sc)(hn:(scK s).Nodup)(rg:Ex->Sc->Bool)(hwk:∀ (w:Ex) (u:Sc),w∈exK x->(scK u).Nodup->Pu 48 [.agg (moL m),.agg (exL w),.agg (scL u)] (.ret (.bool (rg w u))))(kb:Bool)(hkb:Pu 85 [.ro (exL x) 0,.ro (moL m) 0,.ro (scL s) 0] (.ret (.bool kb)))(hsi:∀t:Tp,t∈exT x->Pu 57 [.agg (tpL t)] (.ret (.bool (simB t))))(hpl:∀t:Tp,t∈exT x->Pu 54 [.agg (tpL t)] (.ret (.agg (tpL (plF t)))))(hN:(moF m).length<=1000000000)(hK:(exK x).length<=1000000000)(hT:(exT x).length<=1000000000):Pu 48 [.agg (moL m),.agg (exL x),.agg (scL s)] (rB (riL_r0 m x s rg kb)):=by
 by_cases h0:exO x=1
 ·simp only [riL_r0,iP h0]; exact pm mdL [sl (Ex.cs_len (exK x)),rp 2 (et1 h0)] func48
 ·by_cases h1:exO x=2
  ·simp only [riL_r0,iN h0,iP h1]; exact pm mdL [sl (Ex.cs_len (exK x)),en1 h0,et1 h1] func48
  ·by_cases h2:exO x=3
   ·simp only [riL_r0,iN h0,iN h1,iP h2]; exact pm mdL [sl (Ex.cs_len (exK x)),en1 h0,en1 h1,et1 h2,kp,mg,av (.v (.bool (bif Option.isSome (mget (exNm x) (List.zip (scK s) (scT s))) then ((exK x).length:Int)==0 else false))) (.v (.bool (Option.isSome (mget (exNm x) (List.zip (scK s) (scT s)))&&((exK x).length:Int)==0))) (by (simp only [Bool.cond_false_right]; done))] func48
   ·by_cases h3:exO x=12
    ·refine t0 ?_;refine tp [sl (Ex.cs_len (exK x)),en1 h0,en1 h1,en1 h2,et1 h3] ?_;by_cases h4:((exK x).length:Int)=2
     ·refine tp [rp 3 (et1 h4),mxEx (exK x) 0,xEx (exK x) 0,rp 4 (et1 h4)] ?_;by_cases h5:exO (List.getD (exK x) 0 default)=1
      ·simp only [riL_r0,iN h0,iN h1,iN h2,iP h3,iP h4,iP h5]; exact tM mdL [rp 6 (et1 h5),et1 h4,et1 h5,et1 h4,rp 2 (bt true),cl hkb,bt true] func48
      ·refine tp [rp 3 (en1 h5),mxEx (exK x) 1,xEx (exK x) 1,rp 3 (en1 h5),et1 h4,en1 h5,et1 h4] ?_;by_cases h6:exO (List.getD (exK x) 1 default)=1
       ·simp only [riL_r0,iN h0,iN h1,iN h2,iP h3,iP h4,iN h5,iP h6]; exact tM mdL [rp 2 (et1 h6),cl hkb,et1 h6] func48
       ·simp only [riL_r0,iN h0,iN h1,iN h2,iP h3,iP h4,iN h5,iN h6]; exact tM mdL [rp 3 (en1 h6)] func48
     ·simp only [riL_r0,iN h0,iN h1,iN h2,iP h3,iN h4]; exact tM mdL [rp 9 (en1 h4),rp 3 (bf false)] func48
    ·by_cases h4:exO x=15
     ·refine t0 ?_;refine tp [sl (Ex.cs_len (exK x)),en1 h0,en1 h1,en1 h2,en1 h3,rp 2 (et1 h4)] ?_;by_cases h5:((exK x).length:Int)=1
      ·simp only [riL_r0,iN h0,iN h1,iN h2,iN h3,iP h4,iP h5]; exact tM mdL [rp 2 (et1 h5),cl hkb,et1 h5] func48
      ·simp only [riL_r0,iN h0,iN h1,iN h2,iN h3,iP h4,iN h5]; exact tM mdL [rp 3 (en1 h5)] func48
     ·by_cases h5:exO x=21
      ·refine t0 ?_;refine tp [sl (Ex.cs_len (exK x)),en1 h0,en1 h1,en1 h2,en1 h3,en1 h4,et1 h5] ?_;by_cases h6:((exK x).length:Int)=1
       ·simp only [riL_r0,iN h0,iN h1,iN h2,iN h3,iN h4,iP h5,iP h6]; exact tM mdL [rp 2 (et1 h6),cl hkb,et1 h6] func48
       ·simp only [riL_r0,iN h0,iN h1,iN h2,iN h3,iN h4,iP h5,iN h6]; exact tM mdL [rp 3 (en1 h6)] func48
      ·by_cases h6:exO x=8
       ·refine t0 ?_;refine tp [sl (Ex.cs_len (exK x)),en1 h0,en1 h1,en1 h2,en1 h3,en1 h4,en1 h5,et1 h6] ?_;by_cases h7:((exK x).length:Int)=3
        ·simp only [riL_r0,iN h0,iN h1,iN h2,iN h3,iN h4,iN h5,iP h6,iP h7]; exact tM mdL [rp 2 (et1 h7),cl hkb,et1 h7] func48
        ·simp only [riL_r0,iN h0,iN h1,iN h2,iN h3,iN h4,iN h5,iP h6,iN h7]; exact tM mdL [rp 3 (en1 h7)] func48
       ·by_cases h7:exO x=7
        ·by_cases h8:((exK x).length:Int)=2
         ·by_cases h9:((exT x).length:Int)=1
          ·by_cases h10:simB (List.getD (exT x) 0 default)=true
           ·by_cases h11:rg (List.getD (exK x) 0 default) s=true
            ·simp only [riL_r0,iN h0,iN h1,iN h2,iN h3,iN h4,iN h5,iN h6,iP h7,iP h8,iP h9,iP h10,iP h11]; exact riL_14 m x s hn rg hwk kb hkb hsi hpl hN hK hT h0 h1 h2 h3 h4 h5 h6 h7 h8 h9 h10 h11
            ·simp only [riL_r0,iN h0,iN h1,iN h2,iN h3,iN h4,iN h5,iN h6,iP h7,iP h8,iP h9,iP h10,iN h11]; exact riL_15 m x s hn rg hwk kb hkb hsi hpl hN hK hT h0 h1 h2 h3 h4 h5 h6 h7 h8 h9 h10 (bFT h11)
           ·simp only [riL_r0,iN h0,iN h1,iN h2,iN h3,iN h4,iN h5,iN h6,iP h7,iP h8,iP h9,iN h10]; exact riL_16 m x s hn rg hwk kb hkb hsi hpl hN hK hT h0 h1 h2 h3 h4 h5 h6 h7 h8 h9 (bFT h10)
          ·simp only [riL_r0,iN h0,iN h1,iN h2,iN h3,iN h4,iN h5,iN h6,iP h7,iP h8,iN h9]; exact pm mdL [sl (Ex.cs_len (exK x)),en1 h0,en1 h1,en1 h2,en1 h3,en1 h4,en1 h5,en1 h6,et1 h7,rp 3 (et1 h8),sl (Tp.cs_len (exT x)),rp 2 (et1 h8),rp 6 (en1 h9),rp 26 (bf false)] func48
         ·simp only [riL_r0,iN h0,iN h1,iN h2,iN h3,iN h4,iN h5,iN h6,iP h7,iN h8]; exact pm mdL [sl (Ex.cs_len (exK x)),en1 h0,en1 h1,en1 h2,en1 h3,en1 h4,en1 h5,en1 h6,et1 h7,rp 5 (en1 h8),rp 32 (bf false)] func48
        ·refine t0 ?_;refine tp [sl (Ex.cs_len (exK x)),en1 h0,en1 h1,en1 h2,en1 h3,en1 h4,en1 h5,en1 h6,en1 h7] ?_;by_cases h8:exO x=5
         ·refine tp [et1 h8,cl (@sdT m (exNm x) hN),kp,mg,av (.v (.bool (bif Option.isSome (sdO (exNm x) (moF m)) then !Option.isSome (mget (exNm x) (List.zip (scK s) (scT s))) else false))) (.v (.bool (Option.isSome (sdO (exNm x) (moF m)) && !Option.isSome (mget (exNm x) (List.zip (scK s) (scT s)))))) (by (simp only [Bool.cond_false_right]; done)),mg,av (.v (.bool (bif Option.isSome (sdO (exNm x) (moF m)) && !Option.isSome (mget (exNm x) (List.zip (scK s) (scT s))) then dfM (Option.getD (sdO (exNm x) (moF m)) default)==2 else false))) (.v (.bool (Option.isSome (sdO (exNm x) (moF m)) && !Option.isSome (mget (exNm x) (List.zip (scK s) (scT s)))&&dfM (Option.getD (sdO (exNm x) (moF m)) default)==2))) (by (simp only [Bool.cond_false_right]; done))] ?_;by_cases h9:(Option.isSome (sdO (exNm x) (moF m)) && !Option.isSome (mget (exNm x) (List.zip (scK s) (scT s)))&&dfM (Option.getD (sdO (exNm x) (moF m)) default)==2)=true
          ·simp only [riL_r0,iN h0,iN h1,iN h2,iN h3,iN h4,iN h5,iN h6,iN h7,iP h8,iP h9]; exact tM mdL [rp 2 (bt1 h9),cl hkb,bt1 h9] func48
          ·simp only [riL_r0,iN h0,iN h1,iN h2,iN h3,iN h4,iN h5,iN h6,iN h7,iP h8,iN h9]; exact tM mdL [rp 3 (bf1 (bFT h9))] func48
         ·refine tp [en1 h8,cl (@opS (exO x)),mg,av (.v (.bool (bif opS_r1 (exO x) then ((exK x).length:Int)==2 else false))) (.v (.bool (opS_r1 (exO x)&&((exK x).length:Int)==2))) (by (simp only [Bool.cond_false_right]; done))] ?_;by_cases h9:(opS_r1 (exO x)&&((exK x).length:Int)==2)=true
          ·simp only [riL_r0,iN h0,iN h1,iN h2,iN h3,iN h4,iN h5,iN h6,iN h7,iN h8,iP h9]; exact tM mdL [rp 2 (bt1 h9),cl hkb,bt1 h9] func48
          ·simp only [riL_r0,iN h0,iN h1,iN h2,iN h3,iN h4,iN h5,iN h6,iN h7,iN h8,iN h9]; exact tM mdL [rp 3 (bf1 (bFT h9))] func48
def riD(m:Mo):Nat->Ex->Sc->Bool
 | 0,_,_=>false
 | d+1,x,s=>riL_r0 m x s (riD m d) ((exK x).all fun w=>riD m d w s)
theorem exk_bulk(x:Ex):bulkPss (Ex.cs (exK x))+bulkPss (Al.cs (exA x))+bulkPss (Tp.cs (exT x))<bulkPs (exL x):=by simp only [bulkPs,bulkP]; omega
theorem ri_ok(m:Mo)(hN:(moF m).length<=1000000000):∀ (d:Nat) (x:Ex) (s:Sc),bulkPs (exL x)<d->d<=1000000001->(scK s).Nodup->Pu 48 [.agg (moL m),.agg (exL x),.agg (scL s)] (.ret (.bool (riD m d x s)))
 | 0,x,s,h,_,_=>by omega
 | d+1,x,s,h,hd,hn=>by
  have h1:=exk_bulk x
  have h2:=Ex.bulk (exK x)
  have h3:=Tp.bulk (exT x)
  have hk:∀w:Ex,w∈exK x->bulkPs (exL w)<d:=fun w hw=>by have:=Ex.mem hw; omega
  have ht:∀t:Tp,t∈exT x->bulkPs (tpL t)<=1000000000:=fun t ht=>by have:=Tp.mem ht; omega
  exact riL m x s hn (riD m d) (fun w u hw hu=>ri_ok m hN d w u (hk w hw) oM hu) _ (rkT m x s (fun w=>riD m d w s) (fun w hw=>ri_ok m hN d w s (hk w hw) oM hn) oM) (fun t h=>simT t (ht t h)) (fun t h=>plT t (ht t h)) hN oM oM
def reS_r0(u:Tp):Int:=(if tpO u=6 then (if ((tpA u).length:Int)>0 then (if tpO (List.getD (tpA u) (Int.toNat (((tpA u).length:Int) - 1)) default)=2 then 2 else 1) else 1) else 1)
theorem reS(d:Df)(u:Tp)(hpl:Pu 54 [.agg (tpL (dfT d))] (.ret (.agg (tpL u))))(hN:(tpA u).length<=1000000000):Pu 38 [.agg (dfL d)] (rI (reS_r0 u)):=by
 refine t0 ?_;refine tp [cl hpl] ?_;by_cases h0:tpO u=6
 ·refine tp [rp 3 (et1 h0),sl (Tp.cs_len (tpA u)),rp 2 (et1 h0)] ?_;by_cases h1:((tpA u).length:Int)>0
  ·refine tp [rp 5 (dt1 h1),sl (Tp.cs_len (tpA u)),dt1 h1,wr (((tpA u).length:Int) - 1),dt1 h1,mxTp (tpA u) (((tpA u).length:Int) - 1),xTp (tpA u) (Int.toNat (((tpA u).length:Int) - 1)),rp 4 (dt1 h1)] ?_;by_cases h2:tpO (List.getD (tpA u) (Int.toNat (((tpA u).length:Int) - 1)) default)=2
   ·simp only [reS_r0,iP h0,iP h1,iP h2]; exact tM mdL [et1 h2] func38
   ·simp only [reS_r0,iP h0,iP h1,iN h2]; exact tM mdL [en1 h2] func38
  ·simp only [reS_r0,iP h0,iN h1]; exact tM mdL [rp 11 (df1 h1),bf false] func38
 ·simp only [reS_r0,iN h0]; exact tM mdL [rp 5 (en1 h0),rp 12 (bf false)] func38
section
variable (m:Mo) (x:Ex) (s:Sc) (hn:(scK s).Nodup) (gk8:exO x=7∨exO x=8->2<=(exK x).length) (gk7:exO x=7->1<=(exT x).length) (tg:Ex->Sc->Int) (hwk:∀ (w:Ex) (u:Sc),w∈exK x->(scK u).Nodup->Pu 103 [.agg (moL m),.agg (exL w),.agg (scL u)] (.ret (.int .i64 (tg w u)))) (rg:BA->Int) (hre:∀nm:BA,Pu 38 [.agg (dfL ((sdO nm (moF m)).getD default))] (.ret (.int .i64 (rg nm)))) (hpl:∀t:Tp,t∈exT x->Pu 54 [.agg (tpL t)] (.ret (.agg (tpL (plF t))))) (hN:(moF m).length<=1000000000) (hK:(exK x).length<=1000000000) (hT:(exT x).length<=1000000000) (hx0:¬exO x=2) (hx1:¬exO x=16) (hx2:¬exO x=17) (hx3:¬exO x=18) (hx4:¬exO x=19) (hx5:¬exO x=20) (hx6:¬exO x=21) (hx7:¬exO x=3)
include m x s hn gk8 gk7 tg hwk rg hre hpl hN hK hT hx0 hx1 hx2 hx3 hx4 hx5 hx6 hx7
theorem toL_9(hx8:exO x=8):Pu 103 [.agg (moL m),.agg (exL x),.agg (scL s)] (rI (tg (List.getD (exK x) 1 default) s)):=
 pm mdL [en1 hx0,en1 hx1,en1 hx2,en1 hx3,en1 hx4,en1 hx5,en1 hx6,en1 hx7,et1 hx8,mxEx (exK x) 1,xEx (exK x) 1,cl (@hwk (List.getD (exK x) 1 default) s (by (apply gEx <;> first | assumption | omega | decide)) hn)] func103
theorem toL_10(hx8:¬exO x=8)(hx9:exO x=7):Pu 103 [.agg (moL m),.agg (exL x),.agg (scL s)] (rI (tg (List.getD (exK x) 1 default) (scW (exNm x) (tpO (plF (List.getD (exT x) 0 default))) prZ s))):=
 pm mdL [en1 hx0,en1 hx1,en1 hx2,en1 hx3,en1 hx4,en1 hx5,en1 hx6,en1 hx7,en1 hx8,et1 hx9,mxEx (exK x) 1,xEx (exK x) 1,mxTp (exT x) 0,xTp (exT x) 0,cl (@hpl (List.getD (exT x) 0 default) (by (apply gTp <;> first | assumption | omega | decide))),cl (@withZ' s hn (exNm x) (tpO (plF (List.getD (exT x) 0 default)))),cl (@hwk (List.getD (exK x) 1 default) (scW (exNm x) (tpO (plF (List.getD (exT x) 0 default))) prZ s) (by (apply gEx <;> first | assumption | omega | decide)) (by (apply scW_keys <;> first | assumption | omega | decide)))] func103
end
def toL_r0(x:Ex)(s:Sc)(tg:Ex->Sc->Int)(rg:BA->Int):Int:=(if exO x=2 then 2 else (if exO x=16 then 2 else (if exO x=17 then 2 else (if exO x=18 then 2 else (if exO x=19 then 2 else (if exO x=20 then 2 else (if exO x=21 then 2 else (if exO x=3 then (scTy (exNm x) s) else (if exO x=8 then (tg (List.getD (exK x) 1 default) s) else (if exO x=7 then (tg (List.getD (exK x) 1 default) (scW (exNm x) (tpO (plF (List.getD (exT x) 0 default))) prZ s)) else (if exO x=5 then (rg (exNm x)) else 1)))))))))))
theorem toL(m:Mo)(x:Ex)(s:Sc)(hn:(scK s).Nodup)(gk8:exO x=7∨exO x=8->2<=(exK x).length)(gk7:exO x=7->1<=(exT x).length)(tg:Ex->Sc->Int)(hwk:∀ (w:Ex) (u:Sc),w∈exK x->(scK u).Nodup->Pu 103 [.agg (moL m),.agg (exL w),.agg (scL u)] (.ret (.int .i64 (tg w u))))(rg:BA->Int)(hre:∀nm:BA,Pu 38 [.agg (dfL ((sdO nm (moF m)).getD default))] (.ret (.int .i64 (rg nm))))(hpl:∀t:Tp,t∈exT x->Pu 54 [.agg (tpL t)] (.ret (.agg (tpL (plF t)))))(hN:(moF m).length<=1000000000)(hK:(exK x).length<=1000000000)(hT:(exT x).length<=1000000000):Pu 103 [.agg (moL m),.agg (exL x),.agg (scL s)] (rI (toL_r0 x s tg rg)):=by
 by_cases h0:exO x=2
 ·simp only [toL_r0,iP h0]; exact pm mdL [rp 2 (et1 h0)] func103
 ·by_cases h1:exO x=16
  ·simp only [toL_r0,iN h0,iP h1]; exact pm mdL [en1 h0,rp 2 (et1 h1)] func103
  ·by_cases h2:exO x=17
   ·simp only [toL_r0,iN h0,iN h1,iP h2]; exact pm mdL [en1 h0,en1 h1,rp 2 (et1 h2)] func103
   ·by_cases h3:exO x=18
    ·simp only [toL_r0,iN h0,iN h1,iN h2,iP h3]; exact pm mdL [en1 h0,en1 h1,en1 h2,rp 2 (et1 h3)] func103
    ·by_cases h4:exO x=19
     ·simp only [toL_r0,iN h0,iN h1,iN h2,iN h3,iP h4]; exact pm mdL [en1 h0,en1 h1,en1 h2,en1 h3,rp 2 (et1 h4)] func103
     ·by_cases h5:exO x=20
      ·simp only [toL_r0,iN h0,iN h1,iN h2,iN h3,iN h4,iP h5]; exact pm mdL [en1 h0,en1 h1,en1 h2,en1 h3,en1 h4,rp 2 (et1 h5)] func103
      ·by_cases h6:exO x=21
       ·simp only [toL_r0,iN h0,iN h1,iN h2,iN h3,iN h4,iN h5,iP h6]; exact pm mdL [en1 h0,en1 h1,en1 h2,en1 h3,en1 h4,en1 h5,et1 h6] func103
       ·by_cases h7:exO x=3
        ·simp only [toL_r0,iN h0,iN h1,iN h2,iN h3,iN h4,iN h5,iN h6,iP h7]; exact pm mdL [en1 h0,en1 h1,en1 h2,en1 h3,en1 h4,en1 h5,en1 h6,et1 h7,av (.v (luRes false (mget (exNm x) (List.zip (scK s) (scT s))) (pI 0))) (vI6 (scTy (exNm x) s)) (by (simp only [lu_sc1]; done))] func103
        ·by_cases h8:exO x=8
         ·simp only [toL_r0,iN h0,iN h1,iN h2,iN h3,iN h4,iN h5,iN h6,iN h7,iP h8]; exact toL_9 m x s hn gk8 gk7 tg hwk rg hre hpl hN hK hT h0 h1 h2 h3 h4 h5 h6 h7 h8
         ·by_cases h9:exO x=7
          ·simp only [toL_r0,iN h0,iN h1,iN h2,iN h3,iN h4,iN h5,iN h6,iN h7,iN h8,iP h9]; exact toL_10 m x s hn gk8 gk7 tg hwk rg hre hpl hN hK hT h0 h1 h2 h3 h4 h5 h6 h7 h8 h9
          ·refine t0 ?_;refine tp [en1 h0,en1 h1,en1 h2,en1 h3,en1 h4,en1 h5,en1 h6,en1 h7,en1 h8,en1 h9] ?_;by_cases h10:exO x=5
           ·simp only [toL_r0,iN h0,iN h1,iN h2,iN h3,iN h4,iN h5,iN h6,iN h7,iN h8,iN h9,iP h10]; exact tM mdL [et1 h10,cl (@sdT m (exNm x) hN),cl (@hre (exNm x))] func103
           ·simp only [toL_r0,iN h0,iN h1,iN h2,iN h3,iN h4,iN h5,iN h6,iN h7,iN h8,iN h9,iN h10]; exact tM mdL [en1 h10] func103
section
variable (m:Mo) (x:Ex) (s:Sc) (l:List Pr) (tg:Ex->Int) (hto:∀w:Ex,w∈exK x->Pu 103 [.agg (moL m),.agg (exL w),.agg (scL s)] (.ret (.int .i64 (tg w)))) (gk2:exO x=12∨exO x=16->2<=(exK x).length) (hl2:l.length=(exK x).length) (hK:(exK x).length<=1000000000)
include m x s l tg hto gk2 hl2 hK
theorem ndL_1(hx0:exO x=15):Pu 63 [.agg (moL m),.agg (exL x),.agg (scL s),.sl 4 (Pr.cs l)] (rA [pI 9,.str nm0,pI 0,.sl 4 (Pr.cs l)]):=
 pm mdL [et1 hx0] func63
theorem ndL_2(hx0:¬exO x=15)(hx1:exO x=21):Pu 63 [.agg (moL m),.agg (exL x),.agg (scL s),.sl 4 (Pr.cs l)] (rA [pI 14,.str nm0,pI 0,.sl 4 (Pr.cs l)]):=
 pm mdL [en1 hx0,et1 hx1] func63
theorem ndL_3(hx0:¬exO x=15)(hx1:¬exO x=21)(hx2:exO x=5):Pu 63 [.agg (moL m),.agg (exL x),.agg (scL s),.sl 4 (Pr.cs l)] (rA [pI 4,.str (exNm x),pI 0,.sl 4 (Pr.cs l)]):=
 pm mdL [en1 hx0,en1 hx1,et1 hx2] func63
theorem ndL_4(hx0:¬exO x=15)(hx1:¬exO x=21)(hx2:¬exO x=5)(hx3:exO x=12)(hx4:¬exO (List.getD (exK x) 0 default)=1):Pu 63 [.agg (moL m),.agg (exL x),.agg (scL s),.sl 4 (Pr.cs l)] (rA [pI (opS_r0 (exO x)),.str nm0,pI 0,.sl 4 [prL (List.getD l 1 default),prL (List.getD l 0 default)]]):=
 pm mdL [en1 hx0,en1 hx1,en1 hx2,et1 hx3,mxEx (exK x) 0,xEx (exK x) 0,nt1 hx4,mxPr l 1,xPr l 1,mxPr l 0,xPr l 0,cl (@opS (exO x))] func63
theorem ndL_5(hx0:¬exO x=15)(hx1:¬exO x=21)(hx2:¬exO x=5)(hx3:exO x=12)(hx4:exO (List.getD (exK x) 0 default)=1):Pu 63 [.agg (moL m),.agg (exL x),.agg (scL s),.sl 4 (Pr.cs l)] (rA [pI (opS_r0 (exO x)),.str nm0,pI 0,.sl 4 (Pr.cs l)]):=
 pm mdL [en1 hx0,en1 hx1,en1 hx2,et1 hx3,mxEx (exK x) 0,xEx (exK x) 0,nn1 hx4,cl (@opS (exO x))] func63
theorem ndL_6(hx0:¬exO x=15)(hx1:¬exO x=21)(hx2:¬exO x=5)(hx3:¬exO x=12)(hx4:exO x=16)(hx5:tg (List.getD (exK x) 0 default)=2):Pu 63 [.agg (moL m),.agg (exL x),.agg (scL s),.sl 4 (Pr.cs l)] (rA [pI 18,.str nm0,pI 0,.sl 4 (Pr.cs l)]):=
 pm mdL [en1 hx0,en1 hx1,en1 hx2,en1 hx3,et1 hx4,mxEx (exK x) 0,xEx (exK x) 0,cl (@hto (List.getD (exK x) 0 default) (by (apply gEx <;> first | assumption | omega | decide))),et1 hx5] func63
theorem ndL_7(hx0:¬exO x=15)(hx1:¬exO x=21)(hx2:¬exO x=5)(hx3:¬exO x=12)(hx4:exO x=16)(hx5:¬tg (List.getD (exK x) 0 default)=2):Pu 63 [.agg (moL m),.agg (exL x),.agg (scL s),.sl 4 (Pr.cs l)] (rA [pI (opS_r0 (exO x)),.str nm0,pI 0,.sl 4 (Pr.cs l)]):=
 pm mdL [en1 hx0,en1 hx1,en1 hx2,en1 hx3,et1 hx4,mxEx (exK x) 0,xEx (exK x) 0,cl (@hto (List.getD (exK x) 0 default) (by (apply gEx <;> first | assumption | omega | decide))),en1 hx5,cl (@opS (exO x))] func63
theorem ndL_8(hx0:¬exO x=15)(hx1:¬exO x=21)(hx2:¬exO x=5)(hx3:¬exO x=12)(hx4:¬exO x=16):Pu 63 [.agg (moL m),.agg (exL x),.agg (scL s),.sl 4 (Pr.cs l)] (rA [pI (opS_r0 (exO x)),.str nm0,pI 0,.sl 4 (Pr.cs l)]):=
 pm mdL [en1 hx0,en1 hx1,en1 hx2,en1 hx3,en1 hx4,cl (@opS (exO x))] func63
end
theorem cs2(o:Int)(s:BA)(n:Int)(k:List Pr)(b:Pr):Pr.cs [.mk o s n k,b]=[[.int .i64 o,.str s,.int .i64 n,.sl 4 (Pr.cs k)],prL b]:=by rw [Pr.cs_eq]; rfl
def prTr:Pr := .mk 2 nm0 1 []
def prFa:Pr := .mk 2 nm0 0 []
theorem wk_pl(o:Int)(x:BA)(n:Int):Wk (.agg [.int .i64 o,.str x,.int .i64 n,.nilsl]) (.agg (prL (.mk o x n []))) := .agg rfl fun j h h'=>by
 have:j<4:=h
 match j,this with
 | 0,_=>exact .r _
 | 1,_=>exact .r _
 | 2,_=>exact .r _
 | 3,_=>exact .n 4
theorem coTT:Pu 74 [.bool true] (.ret (.agg (prL prTr))):=Ob.pur_wk (wk_pl 2 nm0 1) coT
abbrev anA_I(l:List Pr)(j:Int)(o:Int)(s:BA)(n:Int)(k:List Pr)(b:Bool)(e:Ext):S:=S.mk [(2,.lp 2 0),(3,.lp 3 0),(4,.v (.bool b)),(8,vL 4 (Pr.cs l)),(9,vI6 (l.length:Int)),(10,vI6 j)] [(2,[vI6 0,vS nm0,vI6 0,.v .nilsl]),(3,[vI6 o,vS s,vI6 n,vL 4 (Pr.cs k)])] e
inductive anA_R where
 | e0 (o:Int) (s:BA) (n:Int) (k:List Pr) (b:Bool)
 | e1 (o:Int) (s:BA) (n:Int) (k:List Pr) (b:Bool)
def anA_f  : List Pr->(Int)->(BA)->(Int)->(List Pr)->(Bool)->anA_R
 | [],o,s,n,k,b=>(anA_R.e1 o s n k b)
 | el::r,o,s,n,k,b=>(if pvo_r0 el=true then anA_f  r (o) (s) (n) (k) (b) else (if psf_r0 el=true then (anA_R.e0 o s n k b) else (if b=true then anA_f  r (15) nm0 (0) ([Pr.mk o s n k,el]) (b) else anA_f  r (prO el) (prNm el) (prN el) (prK el) (true))))
def anA_q(l:List Pr)(e:Ext):anA_R->PExit × S
 | .e0 o s n k b=>(.ret,S.mk [(2,.lp 2 0),(3,.lp 3 0),(4,.v (.bool b)),(8,vL 4 (Pr.cs l)),(9,vI6 (l.length:Int))] [(2,[vI6 2,vS nm0,vI6 0,.v .nilsl]),(3,[vI6 o,vS s,vI6 n,vL 4 (Pr.cs k)])] e)
 | .e1 o s n k b=>(.exit 0,S.mk [(2,.lp 2 0),(3,.lp 3 0),(4,.v (.bool b)),(8,vL 4 (Pr.cs l)),(9,vI6 (l.length:Int))] [(2,[vI6 0,vS nm0,vI6 0,.v .nilsl]),(3,[vI6 o,vS s,vI6 n,vL 4 (Pr.cs k)])] e)
theorem anA_lp(l:List Pr)(hcp:∀w:Pr,w∈l->Pu 73 [.agg (prL w)] (.ret (.agg (prL w))))(e:Ext)(hN:l.length<=1000000000)(o:Int)(s:BA)(n:Int)(k:List Pr)(b:Bool):(Ob.loop 33 (loopF f40 0) (anA_I l 0 o s n k b e) (anA_q l e (anA_f  (l)  o s n k b)).1 (anA_q l e (anA_f  (l)  o s n k b)).2).ok prog:=by
 refine rng l.length (fun j zz=>anA_I l j zz.1 zz.2.1 zz.2.2.1 zz.2.2.2.1 zz.2.2.2.2 e) (fun i zz=>anA_f  (List.drop i (l))  zz.1 zz.2.1 zz.2.2.1 zz.2.2.2.1 zz.2.2.2.2) (anA_q l e) (fun i zz=>True) kR ?_ (o,s,n,k,b) trivial
 rintro i ⟨o,s,n,k,b⟩ hi -
 rcases Nat.lt_or_ge i (l.length) with hlt | hge
 ·have hd:=drop_at hlt
  refine t0 ?_;refine tp [rgPr hlt,cl (@pvo (List.getD l i default))] ?_;by_cases h0:pvo_r0 (List.getD l i default)=true
  ·exact tN mdL [bt1 h0,wr ((i:Int)+1)] hlt ((o),(s),(n),(k),(b)) trivial (by rw [hd,anA_f,iP h0])
  ·refine tp [bf1 (bFT h0),cl coF,cl (@psf (List.getD l i default))] ?_;by_cases h1:psf_r0 (List.getD l i default)=true
   ·exact tX mdL [bt1 h1,cl coF] (anA_R.e0 o s n k b) (by rw [hd,anA_f,iN h0,iP h1])
   ·refine tp [bf1 (bFT h1)] ?_;by_cases h2:b=true
    ·exact tS mdL [bt1 h2,cl (@hcp (List.getD l i default) (by simp_all [Bool.not_eq_true,Bool.not_eq_false])),wr ((i:Int)+1)] [2,3,4,8,9,10] [2,3] hlt ((15),nm0,(0),([Pr.mk o s n k,List.getD l i default]),(b)) (S.mk [(2,.lp 2 0),(3,.lp 3 0),(4,.v (.bool b)),(8,vL 4 (Pr.cs l)),(9,vI6 (l.length:Int)),(10,vI6 ((i:Int)+1))] [(2,[vI6 0,vS nm0,vI6 0,.v .nilsl]),(3,[vI6 15,vS nm0,vI6 0,vL 4 [[pI o,.str s,pI n,.sl 4 (Pr.cs k)],prL (List.getD l i default)]])] e) ⟨⟨W,W,W,W,W,W,tVv⟩,⟨Ws,⟨Wq,Wq,Wq,(.inl (by first | (simp only [List.nil_append,nmsC_app,nmsC_snoc,Pr.cs_snoc,Tp.cs_snoc,Ex.cs_snoc,Vr.cs_snoc,Df.cs_snoc,cs2]; done) | (simp only [List.nil_append,nmsC_app,nmsC_snoc,Pr.cs_snoc,Tp.cs_snoc,Ex.cs_snoc,Vr.cs_snoc,Df.cs_snoc,cs2]; rfl))),tVv⟩,tVv⟩,rfl⟩ trivial (by rw [hd,anA_f,iN h0,iN h1,iP h2])
    ·exact tS mdL [bf1 (bFT h2),cl (@hcp (List.getD l i default) (by simp_all [Bool.not_eq_true,Bool.not_eq_false])),wr ((i:Int)+1)] [2,3,4,8,9,10] [2,3] hlt ((prO (List.getD l i default)),(prNm (List.getD l i default)),(prN (List.getD l i default)),(prK (List.getD l i default)),(true)) (S.mk [(2,.lp 2 0),(3,.lp 3 0),(4,.v (.bool true)),(8,vL 4 (Pr.cs l)),(9,vI6 (l.length:Int)),(10,vI6 ((i:Int)+1))] [(2,[vI6 0,vS nm0,vI6 0,.v .nilsl]),(3,prV (List.getD l i default))] e) ⟨⟨W,W,W,W,W,W,tVv⟩,⟨Ws,⟨Wq,Wq,Wq,Wq,tVv⟩,tVv⟩,rfl⟩ trivial (by rw [hd,anA_f,iN h0,iN h1,iN h2])
 ·have he:i=l.length:=by omega
  exact lX mdL [df ((i:Int)<(l.length:Int))] (anA_R.e1 o s n k b) (by rw [he,List.drop_length,anA_f])
theorem anA_0(l:List Pr)(hcp:∀w:Pr,w∈l->Pu 73 [.agg (prL w)] (.ret (.agg (prL w))))(o:Int)(s:BA)(n:Int)(k:List Pr)(b:Bool)(e:Ext)(hN:l.length<=1000000000)(p0:Int)(p1:BA)(p2:Int)(p3:List Pr)(p4:Bool)(hres:(anA_f  (l)  o s n k b)=(anA_R.e0 p0 p1 p2 p3 p4)):(Ob.loop 33 (loopF f40 0) (anA_I l 0 o s n k b e) (anA_q l e (anA_R.e0 p0 p1 p2 p3 p4)).1 (anA_q l e (anA_R.e0 p0 p1 p2 p3 p4)).2).ok prog:=
 rz (anA_lp l hcp e hN o s n k b) hres
theorem anA_1(l:List Pr)(hcp:∀w:Pr,w∈l->Pu 73 [.agg (prL w)] (.ret (.agg (prL w))))(o:Int)(s:BA)(n:Int)(k:List Pr)(b:Bool)(e:Ext)(hN:l.length<=1000000000)(p0:Int)(p1:BA)(p2:Int)(p3:List Pr)(p4:Bool)(hres:(anA_f  (l)  o s n k b)=(anA_R.e1 p0 p1 p2 p3 p4)):(Ob.loop 33 (loopF f40 0) (anA_I l 0 o s n k b e) (anA_q l e (anA_R.e1 p0 p1 p2 p3 p4)).1 (anA_q l e (anA_R.e1 p0 p1 p2 p3 p4)).2).ok prog:=
 rz (anA_lp l hcp e hN o s n k b) hres
end Go.Proofs.YtidabncghfbdaaaGreatDoor
