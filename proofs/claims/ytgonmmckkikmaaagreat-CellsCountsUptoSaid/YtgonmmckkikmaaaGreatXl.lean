/- Values of Go as plain data, an evaluator over them, and what the functions of the program return; part l. -/
import Derived.Test.YtgonmmckkikmaaaGreatXf
import Derived.Test.YtgonmmckkikmaaaGreatXi
import Derived.Test.YtgonmmckkikmaaaGreatXk
import Derived.Test.YtgonmmckkikmaaaGreatXg
set_option linter.unusedSectionVars false
set_option linter.unusedSimpArgs false
set_option linter.unusedVariables false
namespace Go.Proofs.YtgonmmckkikmaaaGreat
open Go.Pv
theorem nms_nx:∀l:List BA,noXss (nmsC l)=true
 | []=>rfl
 | x::r=>by simp [nmsC,noXss,noXs,PV.noX,nms_nx r]
mutual
theorem pr_nx:∀x:Pr,noXs (Pr.c x)=true
 | .mk op name n kids=>by simp [Pr.c,noXs,PV.noX,prs_nx kids]
theorem prs_nx:∀l:List Pr,noXss (Pr.cs l)=true
 | []=>rfl
 | x::r=>by simp [Pr.cs,noXss,pr_nx x,prs_nx r]
end
mutual
theorem tp_nx:∀x:Tp,noXs (Tp.c x)=true
 | .mk op name args names pred preds=>by simp [Tp.c,noXs,PV.noX,tps_nx args,nms_nx,prs_nx]
theorem tps_nx:∀l:List Tp,noXss (Tp.cs l)=true
 | []=>rfl
 | x::r=>by simp [Tp.cs,noXss,tp_nx x,tps_nx r]
end
theorem pms_nx:∀l:List Pm,noXss (pmsC l)=true
 | []=>rfl
 | x::r=>by
  have:=tp_nx (pmT x)
  rw [Tp.c_eq] at this
  simp [pmsC,noXss,pms_nx r]
  rw [noXs]
  simp [PV.noX,this]
mutual
theorem ex_nx:∀x:Ex,noXs (Ex.c x)=true
 | .mk op name n kids params alts types=>by simp [Ex.c,noXs,PV.noX,exs_nx kids,pms_nx,als_nx alts,tps_nx]
theorem exs_nx:∀l:List Ex,noXss (Ex.cs l)=true
 | []=>rfl
 | x::r=>by simp [Ex.cs,noXss,ex_nx x,exs_nx r]
theorem al_nx:∀x:Al,noXs (Al.c x)=true
 | .mk con names body=>by simp [Al.c,noXs,PV.noX,nms_nx,ex_nx body]
theorem als_nx:∀l:List Al,noXss (Al.cs l)=true
 | []=>rfl
 | x::r=>by simp [Al.cs,noXss,al_nx x,als_nx r]
end
mutual
theorem vl_nx:∀x:Vl,noXs (Vl.c x)=true
 | .mk op n name kids params body binds=>by simp [Vl.c,noXs,PV.noX,vls_nx kids,nms_nx,exs_nx,bds_nx binds]
theorem vls_nx:∀l:List Vl,noXss (Vl.cs l)=true
 | []=>rfl
 | x::r=>by simp [Vl.cs,noXss,vl_nx x,vls_nx r]
theorem bd_nx:∀x:Bd,noXs (Bd.c x)=true
 | .mk name value=>by simp [Bd.c,noXs,PV.noX,vl_nx value]
theorem bds_nx:∀l:List Bd,noXss (Bd.cs l)=true
 | []=>rfl
 | x::r=>by simp [Bd.cs,noXss,bd_nx x,bds_nx r]
end
theorem exL_nx(x:Ex):noXs (exL x)=true:=by rw [<-Ex.c_eq]; exact ex_nx x
theorem vlL_nx(x:Vl):noXs (vlL x)=true:=by rw [<-Vl.c_eq]; exact vl_nx x
end Go.Proofs.YtgonmmckkikmaaaGreat
namespace Go.Proofs.YtgonmmckkikmaaaGreat
open Go.Pv
set_option maxRecDepth 100000
def mdF:Md:=⟨fun t=>if t=207∨t=237 then none else some false,fun _=>false⟩
theorem sAdd0(ext:Ext):Ef 155 ([.xp 1 0,.nilsl]) (ext) (.ret (.tup [])) (ext):=
 ef mdL [kp,ur,bf false] Tryz.func155
theorem sNewSet  : Ef 152 ([.nilsl]) ([]) (.ret (.xp 1 0)) ([(0,[LV.mm []]),(1,[.v (PV.mp 0)])]):=
 ef mdF [ce (@sAdd0 ([(0,[LV.mm []]),(1,[.v (PV.mp 0)])]))] Tryz.func152
theorem sFreeL(x:Ex)(es:List (BA × PV))(ns:List BA)(ho:Ef 153 [.agg (exL x),.nilsl,fnO] (OX []) (.ret (.tup [])) (OX es))(hs:Ef 156 [.xp 1 0] (OX es) (.ret (.sl 1 (nmsC ns))) (OX es)):Ef 137 ([.agg (exL x)]) ([]) (.ret (.sl 1 (nmsC ns))) (OX es):=
 ef mdF [ce sNewSet,ce ho,ce hs] Tryz.func137
theorem mupd_mem{k:BA}{v:PV}:∀ {es:List (BA × PV)} {x:BA × PV},x∈mupd k v es->x=(k,v)∨x∈es
 | [],x,h=>by simp only [mupd,List.mem_singleton] at h; exact .inl h
 | y::r,x,h=>by
  simp only [mupd] at h
  split at h
  ·rcases List.mem_cons.1 h with h | h
   ·exact .inl h
   ·exact .inr (List.mem_cons_of_mem _ h)
  ·rcases List.mem_cons.1 h with h | h
   ·exact .inr (by rw [h]; exact List.mem_cons_self)
   ·rcases mupd_mem h with h | h
    ·exact .inl h
    ·exact .inr (List.mem_cons_of_mem _ h)
theorem mupd_len{k:BA}{v:PV}:∀ {es:List (BA × PV)},(mupd k v es).length<=es.length+1
 | []=>by simp [mupd]
 | y::r=>by
  simp only [mupd]
  split
  ·simp
  ·have:=mupd_len (k:=k) (v:=v) (es:=r); simp only [List.length_cons]; omega
theorem addL_mem:∀ {l:List BA} {es:List (BA × PV)} {x:BA × PV},x∈addL es l->(x.2 = .bool true/\x.1∈l)∨x∈es
 | [],es,x,h => .inr h
 | n::l,es,x,h=>by
  have h':x∈addL (addN es n) l:=h
  rcases addL_mem h' with ⟨h1,h2⟩ | h1
  ·exact .inl ⟨h1,List.mem_cons_of_mem _ h2⟩
  ·rcases mupd_mem h1 with rfl | h2
   ·exact .inl ⟨rfl,List.mem_cons_self⟩
   ·exact .inr h2
theorem addL_len:∀ {l:List BA} {es:List (BA × PV)},(addL es l).length<=es.length+l.length
 | [],es=>by simp [addL]
 | n::l,es=>by
  have h1:=addL_len (l:=l) (es:=addN es n)
  have h2:=mupd_len (k:=n) (v := .bool true) (es:=es)
  have h3:addL es (n::l)=addL (addN es n) l:=rfl
  rw [h3]
  simp only [List.length_cons]
  unfold addN at h1 ⊢
  omega
mutual
theorem occN_len:∀ (x:Ex) (h:List BA),(occN x h).length<=szE x
 | .mk op name n kids params alts types,h=>by
  have h1:=occK_len op name params kids 0 h
  have h2:=occA_len alts h
  have h3:=szE_eq (.mk op name n kids params alts types)
  simp only [exNm,exK,exA,exP,exT] at h3
  rw [occN]
  simp only [List.length_append]
  split <;> simp <;> omega
theorem occK_len(op:Int)(name:BA)(params:List Pm):∀ (l:List Ex) (i:Nat) (h:List BA),(occK op name params l i h).length<=bulkPss (Ex.cs l)
 | [],i,h=>by simp [occK]
 | k::r,i,h=>by
  have h1:=occN_len k (h++insF op name params i)
  have h2:=occK_len op name params r (i+1) h
  have h3:szE k=bulkPs (Ex.c k):=by rw [Ex.c_eq]; rfl
  rw [occK]
  simp only [List.length_append,Ex.cs,bulkPss]
  omega
theorem occA_len:∀ (l:List Al) (h:List BA),(occA l h).length<=bulkPss (Al.cs l)
 | [],h=>by simp [occA]
 | .mk con ns b::r,h=>by
  have h1:=occN_len b (h++ns)
  have h2:=occA_len r h
  have h3:szE b=bulkPs (Ex.c b):=by rw [Ex.c_eq]; rfl
  rw [occA]
  simp only [List.length_append,Al.cs,Al.c,bulkPss,bulkPs]
  omega
end
mutual
theorem occN_sz:∀ (x:Ex) (h:List BA),∀n∈occN x h,n.size<=szE x
 | .mk op name n kids params alts types,h,m,hm=>by
  have h3:=szE_eq (.mk op name n kids params alts types)
  simp only [exNm,exK,exA,exP,exT] at h3
  rw [occN] at hm
  rcases List.mem_append.1 hm with hm | hm
  ·split at hm
   ·rw [List.mem_singleton] at hm; subst hm; omega
   ·simp at hm
  ·rcases List.mem_append.1 hm with hm | hm
   ·have:=occK_sz op name params kids 0 h m hm; omega
   ·have:=occA_sz alts h m hm; omega
theorem occK_sz(op:Int)(name:BA)(params:List Pm):∀ (l:List Ex) (i:Nat) (h:List BA),∀n∈occK op name params l i h,n.size<=bulkPss (Ex.cs l)
 | [],i,h,m,hm=>by simp [occK] at hm
 | k::r,i,h,m,hm=>by
  have h3:szE k=bulkPs (Ex.c k):=by rw [Ex.c_eq]; rfl
  rw [occK] at hm
  simp only [Ex.cs,bulkPss]
  rcases List.mem_append.1 hm with hm | hm
  ·have:=occN_sz k _ m hm; omega
  ·have:=occK_sz op name params r (i+1) h m hm; omega
theorem occA_sz:∀ (l:List Al) (h:List BA),∀n∈occA l h,n.size<=bulkPss (Al.cs l)
 | [],h,m,hm=>by simp [occA] at hm
 | .mk con ns b::r,h,m,hm=>by
  have h3:szE b=bulkPs (Ex.c b):=by rw [Ex.c_eq]; rfl
  rw [occA] at hm
  simp only [Al.cs,Al.c,bulkPss,bulkPs]
  rcases List.mem_append.1 hm with hm | hm
  ·have:=occN_sz b _ m hm; omega
  ·have:=occA_sz r h m hm; omega
end
def freeS(x:Ex):List BA:=sortB ((addL [] (occN x [])).map (·.1))
theorem freeS_len(x:Ex):(freeS x).length<=szE x:=by
 have h1:=addL_len (l:=occN x []) (es:=[])
 have h2:=occN_len x []
 simp only [freeS,sortB,List.length_map,List.length_mergeSort]
 simp only [List.length_nil] at h1
 omega
theorem sFree(x:Ex)(hb:szE x<=100000000):Pu 137 [.agg (exL x)] (.ret (.sl 1 (nmsC (freeS x)))):=by
 have h1:=addL_len (l:=occN x []) (es:=[])
 have h2:=occN_len x []
 simp only [List.length_nil] at h1
 have ho:=occ_ok (SizeOf.sizeOf x+1) x (by omega) [] (by simpa using hb) []
 have hs:=sorted_ok 1 0 (OX (addL [] (occN x []))) (addL [] (occN x [])) rfl rfl (fun y hy=>by
  rcases addL_mem hy with ⟨h,-⟩ | h
  ·exact ⟨_,h⟩
  ·simp at h) (fun y hy=>by
  rcases addL_mem hy with ⟨-,h⟩ | h
  ·have:=occN_sz x [] _ h; unfold maxLen; omega
  ·simp at h) (by omega)
 rw [<-nmsC_eq] at hs
 exact Ob.pur_of_eff (by rw [noXs,PV.noX,exL_nx]; rfl) (by simp only [CRes.noX,PV.noX,nms_nx]) (sFreeL x _ _ (Ob.eff_arg (.c (.r _) (.c (.n 1) (.c (.r _) (.r _)))) ho) hs)
end Go.Proofs.YtgonmmckkikmaaaGreat
namespace Go.Proofs.YtgonmmckkikmaaaGreat
open Go.Pv
set_option maxRecDepth 100000
def fbV(n:BA)(s:List Bd):Vl:=(findB n s).getD default
def fbO(n:BA)(s:List Bd):Bool:=(findB n s).isSome
end Go.Proofs.YtgonmmckkikmaaaGreat
namespace Go.Proofs.YtgonmmckkikmaaaGreat
open Go.Pv
set_option maxRecDepth 100000
end Go.Proofs.YtgonmmckkikmaaaGreat
namespace Go.Proofs.YtgonmmckkikmaaaGreat
open Go.Pv
set_option maxRecDepth 100000
end Go.Proofs.YtgonmmckkikmaaaGreat
namespace Go.Proofs.YtgonmmckkikmaaaGreat
open Go.Pv
set_option maxRecDepth 100000
abbrev flX(fu:Int):Int:=if true=true then if 0>fu then 0 else fu else if 0<fu then 0 else fu
abbrev fl'(fu:Int):Int:=if false=true then if 100000>flX fu then 100000 else flX fu else if 100000<flX fu then 100000 else flX fu
abbrev otL(v:Vl)(err:Int)(wh:BA)(st:Int):List PV:=vlL v++[.int .i64 err,.str wh,.int .i64 st]
end Go.Proofs.YtgonmmckkikmaaaGreat
namespace Go.Proofs.YtgonmmckkikmaaaGreat
open Go.Pv
mutual
def SmV:Vl->Prop
 | .mk _ _ _ kids params body binds=>kids.length+body.length<=1000000000/\params.length<=400000000/\binds.length<=400000000/\(∀x∈body,szE x<=100000000)/\SmVs kids/\SmBs binds
def SmVs:List Vl->Prop
 | []=>True
 | v::r=>SmV v/\SmVs r
def SmBs:List Bd->Prop
 | []=>True
 | .mk _ v::r=>SmV v/\SmBs r
end
theorem SmVs_at:∀ {l:List Vl},SmVs l->∀v∈l,SmV v
 | v::r,h,w,hw=>by
  rw [SmVs] at h
  rcases List.mem_cons.1 hw with rfl | hw
  ·exact h.1
  ·exact SmVs_at h.2 w hw
theorem SmBs_cons{b:Bd}{r:List Bd}:SmBs (b::r)↔SmV (bdV b)/\SmBs r:=by cases b; rw [SmBs]; rfl
theorem SmBs_app:∀ {a b:List Bd},SmBs (a++b)↔SmBs a/\SmBs b
 | [],b=>by simp [SmBs]
 | x::a,b=>by rw [List.cons_append,SmBs_cons,SmBs_cons,SmBs_app]; exact and_assoc.symm
theorem SmBs_rev:∀ {l:List Bd},SmBs l.reverse↔SmBs l
 | []=>by simp
 | x::r=>by
  rw [List.reverse_cons,SmBs_app,SmBs_rev,SmBs_cons,SmBs_cons]
  constructor
  ·rintro ⟨h1,h2,-⟩; exact ⟨h2,h1⟩
  ·rintro ⟨h1,h2⟩; exact ⟨h2,h1,by rw [SmBs]; trivial⟩
theorem findB_sm{n:BA}:∀ {l:List Bd} {v:Vl},SmBs l->findB n l=some v->SmV v
 | b::r,v,h,hf=>by
  rw [SmBs_cons] at h
  rw [findB] at hf
  split at hf
  ·injection hf with hf; subst hf; exact h.1
  ·exact findB_sm h.2 hf
theorem bnds_sm:∀ {ps:List BA} {vs:List Vl} {acc:List Bd},SmVs vs->SmBs acc->SmBs (bnds ps vs acc)
 | [],_,acc,_,h=>by rw [bnds]; exact h; simp
 | _::_,[],acc,_,h=>by rw [bnds]; exact h; simp
 | p::ps,v::vs,acc,hv,h=>by
  rw [SmVs] at hv
  rw [bnds]
  exact bnds_sm hv.2 (by rw [SmBs_cons]; exact ⟨hv.1,h⟩)
theorem lamB_sm{env:List Bd}(h:SmBs env):∀ (fs:List BA),SmBs (lamB env fs)/\(lamB env fs).length<=fs.length
 | []=>⟨by rw [lamB,SmBs]; trivial,by simp [lamB]⟩
 | n::r=>by
  obtain ⟨h1,h2⟩:=lamB_sm h r
  rw [lamB]
  split
  ·rename_i v hv
   exact ⟨by rw [SmBs_cons]; exact ⟨findB_sm h hv,h1⟩,by simp only [List.length_cons]; omega⟩
  ·exact ⟨h1,by simp only [List.length_cons]; omega⟩
def SmD(d:Df):Prop:=szE (dfB d)<=100000000/\(dfP d).length<=400000000
def SmL(l:List Df):Prop:=l.length<=1000000000/\∀d∈l,SmD d
theorem findD_mem{n:BA}:∀ {l:List Df} {d:Df},findD n l=some d->d∈l
 | b::r,d,h=>by
  rw [findD] at h
  split at h
  ·injection h with h; subst h; exact List.mem_cons_self
  ·exact List.mem_cons_of_mem _ (findD_mem h)
theorem SmV_vX(op n:Int):SmV (vX op n):=by simp [SmV,SmVs,SmBs]
theorem SmV_vF(n:BA):SmV (vF n):=by simp [SmV,SmVs,SmBs]
theorem szE_kid{x:Ex}{i:Nat}(hx:szE x<=100000000)(h:i<(exK x).length):szE (kid x i)<=100000000:=by
 have h1:=szE_eq x
 have h2:=kid_bulk (kid_mem h)
 unfold kid
 omega
theorem szE_alt{x:Ex}{a:Al}(hx:szE x<=100000000)(h:a∈exA x):szE (alB a)<=100000000/\(alNs a).length<=1000000000:=by
 have h1:=szE_eq x
 have h2:=alt_bulk h
 omega
theorem szE_lens{x:Ex}(hx:szE x<=100000000):(exK x).length<=1000000000/\(exP x).length<=1000000000/\(exA x).length<=1000000000:=by
 have h1:=szE_eq x
 have h2:=kids_bulk (exK x)
 have h3:=pms_bulk (exP x)
 have h4:=alts_bulk (exA x)
 omega
theorem SmV_lam{fr:Ex->List BA}(hfr:∀x,(fr x).length<=szE x){env:List Bd}{x:Ex}(hx:szE x<=100000000)(he:SmBs env)(h1:(exK x).length=1):SmV (lamV fr env x):=by
 obtain ⟨h2,h3⟩:=lamB_sm he (fr x)
 have h4:=hfr x
 have h5:=szE_eq x
 have h6:=pms_bulk (exP x)
 rw [SmV]
 refine ⟨by simp,by rw [List.length_map]; omega,by omega,fun y hy=>?_,by rw [SmVs]; trivial,h2⟩
 rw [List.mem_singleton] at hy
 subst hy
 exact szE_kid hx (by omega)
def SmT:Tk->Prop
 | .ex env x=>SmBs env/\szE x<=100000000
 | .li env xs=>SmBs env/\∀x∈xs,szE x<=100000000
 | .app f args=>SmV f/\SmVs args
 | .call d args=>SmD d/\SmVs args
 | .con d=>SmD d
 | .run d env=>SmD d/\SmBs env
end Go.Proofs.YtgonmmckkikmaaaGreat
namespace Go.Proofs.YtgonmmckkikmaaaGreat
open Go.Pv
theorem SmV_parts{v:Vl}(h:SmV v):(vlK v).length<=1000000000/\(vlP v).length<=1000000000/\(vlBd v).length<=1000000000/\(∀x∈vlB v,szE x<=100000000)/\SmVs (vlK v)/\SmBs (vlBd v):=by
 cases v
 rw [SmV] at h
 simp only [vlK,vlP,vlBd,vlB]
 exact ⟨by omega,by omega,by omega,h.2.2.2⟩
theorem SmV_body{v:Vl}(h:SmV v):(vlB v).length<=1000000000:=by
 cases v
 rw [SmV] at h
 simp only [vlB]
 omega
theorem SmV_lens{v:Vl}(h:SmV v):(vlP v).length<=400000000/\(vlBd v).length<=400000000:=by
 cases v
 rw [SmV] at h
 exact ⟨h.2.1,h.2.2.1⟩
theorem SmBs_nil:SmBs []:=by rw [SmBs]; trivial
theorem SmVs_nil:SmVs []:=by rw [SmVs]; trivial
theorem SmVs_one{v:Vl}:SmVs [v]↔SmV v:=by rw [SmVs,SmVs]; simp
theorem kids_sm{x:Ex}(hx:szE x<=100000000):∀y∈exK x,szE y<=100000000:=fun y hy=>by
 have h1:=szE_eq x
 have h2:=kid_bulk hy
 omega
end Go.Proofs.YtgonmmckkikmaaaGreat
