/- Values of Go as plain data, an evaluator over them, and what the functions of the program return; part q. -/
import Derived.Test.YtgonmmckkikmaaaGreatXp
import Derived.Test.YtgonmmckkikmaaaGreatXg
import Derived.Test.YtgonmmckkikmaaaGreatXh
import Derived.Test.YtgonmmckkikmaaaGreatXi
import Derived.Test.YtgonmmckkikmaaaGreatXl
set_option linter.unusedSectionVars false
set_option linter.unusedSimpArgs false
set_option linter.unusedVariables false
namespace Go.Proofs.YtgonmmckkikmaaaGreat
open Go.Pv Tryz
set_option maxRecDepth 100000
abbrev bdS_I(x:Ex)(j:Int)(out:List Ex)(e:Ext):S:=S.mk [(1,.lp 1 0),(2,.v .nilsl),(3,.uniq 37 7 (Ex.cs out)),(4,vI6 j)] [(1,exV x)] e
section
variable (x:Ex) (hk:(exK x).length<=1000000000) (hA:(exA x).length<=1000000000) (i:Nat) (out:List Ex) (e:Ext)
include x hk hA i out e
theorem bdS_b1 (hi:i<(exA x).length) (hN:(exA x).length<=1000000000) (hv:(out.length<=1000000000+i)) (cx:Cx) (hcx:cx.n=26) {Q:PExit->S->Prop} (hq:Q (.normal) (S.mk [(1,.lp 1 0),(2,.v .nilsl),(3,.uniq 37 7 (Ex.cs out++[List.take (TypeInfo.size (Tables.types (Program.toTables prog))[37]) (List.drop (0+Field.offset #[Field.mk "Con" 9 0 false "" "" 0,Field.mk "Names" 50 1 false "" "" 16,Field.mk "Body" 37 2 false "" "" 40][2]) (alL (List.getD (exA x) i default)))])),(4,vI6 ((i:Int)+1))] [(1,exV x)] e)):PW prog cx (loopF f32 0) (bdS_I x (i:Int) out e) Q:=
 pw mdL 26 [sl (Al.cs_len (exA x)),dt ((i:Int)<((exA x).length:Int)),am ((0:Int)<=(i:Int)/\(i:Int)<((Al.cs (exA x)).length:Int)) qZ,xAl (exA x) i hi,am (List.length (Ex.cs out++(fun x=>Prod.snd x) (6+1,[List.take ((fun x=>TypeInfo.size x) (Tables.types (Program.toTables prog))[37]) (List.drop (0+Field.offset #[Field.mk "Con" 9 0 false "" "" 0,Field.mk "Names" 50 1 false "" "" 16,Field.mk "Body" 37 2 false "" "" 40][2]) (alL (List.getD (exA x) i default)))])) * (127+1)<=140737488355328) (by (simp only [List.length_append,List.length_cons,List.length_nil,Ex.cs_len,Al.cs_len,nmsC_len,pmsC_len,Tp.cs_len]; omega)),wr ((i:Int)+1)] [1,2,3,4] [1] hcx hq
theorem bdS_z1(hi:i=(exA x).length)(hN:(exA x).length<=1000000000)(hv:(out.length<=1000000000+i))(cx:Cx)(hcx:cx.n=26){Q:PExit->S->Prop}(hq:Q (.exit 0) (S.mk [(1,.lp 1 0),(2,.v .nilsl),(3,.uniq 37 7 (Ex.cs out)),(4,vI6 (i:Int))] [(1,exV x)] e)):PW prog cx (loopF f32 0) (bdS_I x (i:Int) out e) Q:=
 pw mdL 26 [sl (Al.cs_len (exA x)),df ((i:Int)<((exA x).length:Int))] [1,2,3,4] [1] hcx hq
end
def bdS_f  : List Al->(List Ex)->(List Ex)
 | [],out=>(out)
 | el::r,out=>bdS_f  r (out++[alB el])
def bdS_q(x:Ex)(e:Ext)(p:(List Ex)):PExit × S:=(.exit 0,S.mk [(1,.lp 1 0),(2,.v .nilsl),(3,.uniq 37 7 (Ex.cs p))] [(1,exV x)] e)
theorem bdS_lp(x:Ex)(hk:(exK x).length<=1000000000)(hA:(exA x).length<=1000000000)(e:Ext)(hN:(exA x).length<=1000000000)(i:Nat)(out:List Ex)(hi0:i<=(exA x).length)(hv:(out.length<=1000000000+i)):(Ob.loop 26 (loopF f32 0) (bdS_I x (i:Int) out e) (bdS_q x e (bdS_f  (List.drop i ((exA x)))  out)).1 (bdS_q x e (bdS_f  (List.drop i ((exA x)))  out)).2).ok prog:=by
 refine Ob.loop_of (P:=prog) (α:={ zz:Nat × (List Ex) // zz.1<=(exA x).length/\(fun (i:Nat) (out:List Ex)=>(out.length<=1000000000+i)) zz.1 zz.2 }) (fun zz=>bdS_I x (zz.1.1:Int) zz.1.2 e) (fun zz=>(exA x).length - zz.1.1) (fun zz=>(bdS_q x e (bdS_f  (List.drop zz.1.1 ((exA x)))  zz.1.2))) ?_ ⟨(i,out),hi0,hv⟩
 clear hi0 hv
 clear out i
 rintro ⟨⟨i,out⟩,hi,hv⟩ cx hcx
 simp only at hi hv ⊢
 rcases Nat.lt_or_ge i ((exA x).length) with hlt | hge
 ·have hd:=drop_at hlt
  have hr:(bdS_f  (List.drop i ((exA x)))  out)=(bdS_f  (List.drop (i+1) ((exA x)))  (out++[alB (List.getD (exA x) i default)])):=by rw [hd,bdS_f]
  exact bdS_b1 x hk hA i out e hlt hN hv  cx hcx (.inl ⟨rfl,⟨((i+1),(out++[alB (List.getD (exA x) i default)])),by simp only; omega,(by first | assumption | omega | (simp only [List.length_append,List.length_cons,List.length_nil] at *; omega) | simp_all)⟩,by simp only; omega,⟨⟨W,W,(.inl (by first | (simp only [List.nil_append,nmsC_app,nmsC_snoc,Ex.cs_snoc,Vl.cs_snoc,Bd.cs_snoc,Bd.cs_snoc2]; done) | (simp only [List.nil_append,nmsC_app,nmsC_snoc,Ex.cs_snoc,Vl.cs_snoc,Bd.cs_snoc,Bd.cs_snoc2]; rfl))),W,tV⟩,⟨Ws,tV⟩,rfl⟩,by simp only; rw [hr]⟩)
 ·have he:i=(exA x).length:=by omega
  subst he
  have hr:(bdS_f  (List.drop ((exA x).length) ((exA x)))  out)=(out):=by rw [List.drop_length,bdS_f]
  refine bdS_z1 x hk hA ((exA x).length) out e rfl hN hv  cx hcx (.inr ?_)
  rw [hr]
  exact ⟨by simp,rfl,xr⟩
theorem bdS(x:Ex)(hk:(exK x).length<=1000000000)(hA:(exA x).length<=1000000000)(out:List Ex)(e:Ext)(hN:(exA x).length<=1000000000)(hv:List.length out<=1000000000+0):(Ob.loop 26 (loopF f32 0) (bdS_I x 0 out e) (bdS_q x e (bdS_f  ((exA x))  out)).1 (bdS_q x e (bdS_f  ((exA x))  out)).2).ok prog:=by
 have:=bdS_lp x hk hA e hN 0 out (Nat.zero_le _) hv
 rw [List.drop_zero] at this
 exact this
theorem rBodies(x:Ex)(hk:(exK x).length<=1000000000)(hA:(exA x).length<=1000000000):Pu 32 [.agg (exL x)] (.ret (.sl 7 (Ex.cs (bdS_f (exA x) (exK x))))):=
 pu mdL (fun e=>[am (List.length ([]++(fun x=>Prod.snd x) (7,Ex.cs (exK x))) * (127+1)<=140737488355328) qZ,lp (S.mk [(0,.v (.agg (exL x))),(1,.lp 1 0),(2,.v .nilsl),(5,LV.full 7 []),(6,.lp 1 3),(7,vL 7 (Ex.cs (exK x))),(8,vL 7 ([]++Ex.cs (exK x))),(3,.uniq 37 7 ([]++Ex.cs (exK x))),(4,vI6 0)] [(1,exV x)] e) (@bdS (x) hk hA (exK x) (e) hA hk) ⟨⟨W,W,(by first | exact .inl rfl | exact .inr ⟨rfl,rfl⟩ | exact .inr rfl | exact .inr trivial | exact .inl (by first | (simp only [List.nil_append,nmsC_app,nmsC_snoc,Ex.cs_snoc,Vl.cs_snoc,Bd.cs_snoc,Bd.cs_snoc2]; done) | (simp only [List.nil_append,nmsC_app,nmsC_snoc,Ex.cs_snoc,Vl.cs_snoc,Bd.cs_snoc,Bd.cs_snoc2]; rfl))),W,tV⟩,⟨⟨W,W,W,W,W,W,W,tV⟩,tV⟩,rfl⟩]) func32
abbrev ndS_I(x:Ex)(ks:List Ex)(nf:Ex->Int)(j:Int)(m:Int)(e:Ext):S:=S.mk [(2,vI6 0),(3,vI6 m),(4,vL 7 (Ex.cs ks)),(5,vI6 j)] [] e
section
variable (x:Ex) (ks:List Ex) (hB:Pu 32 [.agg (exL x)] (.ret (.sl 7 (Ex.cs ks)))) (hks:ks.length<=2000000000) (nf:Ex->Int) (hR:∀y,y∈ks->Pu 9 [.agg (exL y)] (.ret (.int .i64 (nf y)))) (i:Nat) (m:Int) (e:Ext)
include x ks hB hks nf hR i m e
theorem ndS_b1(hi:i<ks.length)(hN:ks.length<=1000000000)(cx:Cx)(hcx:cx.n=22){Q:PExit->S->Prop}(hq:Q (.normal) (S.mk [(2,vI6 0),(3,vI6 (IntKind.wrap .i64 (m+nf (List.getD ks i default)))),(4,vL 7 (Ex.cs ks)),(5,vI6 ((i:Int)+1))] [] e)):PW prog cx (loopF f9 0) (ndS_I x ks nf (i:Int) m e) Q:=
 pw mdL 22 [sl (Ex.cs_len ks),dt ((i:Int)<(ks.length:Int)),am ((0:Int)<=(i:Int)/\(i:Int)<((Ex.cs ks).length:Int)) qZ,xEx ks i hi,cl (@hR (List.getD ks i default) sA),kp,wr ((i:Int)+1)] [2,3,4,5] [] hcx hq
theorem ndS_z1(hi:i=ks.length)(hN:ks.length<=1000000000)(cx:Cx)(hcx:cx.n=22){Q:PExit->S->Prop}(hq:Q (.exit 0) (S.mk [(2,vI6 0),(3,vI6 m),(4,vL 7 (Ex.cs ks)),(5,vI6 (i:Int))] [] e)):PW prog cx (loopF f9 0) (ndS_I x ks nf (i:Int) m e) Q:=
 pw mdL 22 [sl (Ex.cs_len ks),df ((i:Int)<(ks.length:Int))] [2,3,4,5] [] hcx hq
end
def ndS_f(nf:Ex->Int):List Ex->(Int)->(Int)
 | [],m=>(m)
 | el::r,m=>ndS_f nf r (IntKind.wrap .i64 (m+nf el))
def ndS_q(x:Ex)(ks:List Ex)(nf:Ex->Int)(e:Ext)(p:(Int)):PExit × S:=(.exit 0,S.mk [(2,vI6 0),(3,vI6 p),(4,vL 7 (Ex.cs ks))] [] e)
theorem ndS_lp(x:Ex)(ks:List Ex)(hB:Pu 32 [.agg (exL x)] (.ret (.sl 7 (Ex.cs ks))))(hks:ks.length<=2000000000)(nf:Ex->Int)(hR:∀y,y∈ks->Pu 9 [.agg (exL y)] (.ret (.int .i64 (nf y))))(e:Ext)(hN:ks.length<=1000000000)(i:Nat)(m:Int)(hi0:i<=ks.length)  : (Ob.loop 22 (loopF f9 0) (ndS_I x ks nf (i:Int) m e) (ndS_q x ks nf e (ndS_f nf (List.drop i (ks))  m)).1 (ndS_q x ks nf e (ndS_f nf (List.drop i (ks))  m)).2).ok prog:=by
 refine Ob.loop_of (P:=prog) (α:={ zz:Nat × (Int) // zz.1<=ks.length }) (fun zz=>ndS_I x ks nf (zz.1.1:Int) zz.1.2 e) (fun zz=>ks.length - zz.1.1) (fun zz=>(ndS_q x ks nf e (ndS_f nf (List.drop zz.1.1 (ks))  zz.1.2))) ?_ ⟨(i,m),hi0⟩
 clear hi0
 clear m i
 rintro ⟨⟨i,m⟩,hi⟩ cx hcx
 simp only at hi  ⊢
 rcases Nat.lt_or_ge i (ks.length) with hlt | hge
 ·have hd:=drop_at hlt
  have hr:(ndS_f nf (List.drop i (ks))  m)=(ndS_f nf (List.drop (i+1) (ks))  (IntKind.wrap .i64 (m+nf (List.getD ks i default)))):=by rw [hd,ndS_f]
  exact ndS_b1 x ks hB hks nf hR i m e hlt hN   cx hcx (.inl ⟨rfl,⟨((i+1),(IntKind.wrap .i64 (m+nf (List.getD ks i default)))),by simp only; omega⟩,by simp only; omega,xr,by simp only; rw [hr]⟩)
 ·have he:i=ks.length:=by omega
  subst he
  have hr:(ndS_f nf (List.drop (ks.length) (ks))  m)=(m):=by rw [List.drop_length,ndS_f]
  refine ndS_z1 x ks hB hks nf hR (ks.length) m e rfl hN   cx hcx (.inr ?_)
  rw [hr]
  exact ⟨by simp,rfl,xr⟩
theorem ndS(x:Ex)(ks:List Ex)(hB:Pu 32 [.agg (exL x)] (.ret (.sl 7 (Ex.cs ks))))(hks:ks.length<=2000000000)(nf:Ex->Int)(hR:∀y,y∈ks->Pu 9 [.agg (exL y)] (.ret (.int .i64 (nf y))))(m:Int)(e:Ext)(hN:ks.length<=1000000000)  : (Ob.loop 22 (loopF f9 0) (ndS_I x ks nf 0 m e) (ndS_q x ks nf e (ndS_f nf (ks)  m)).1 (ndS_q x ks nf e (ndS_f nf (ks)  m)).2).ok prog:=by
 have:=ndS_lp x ks hB hks nf hR e hN 0 m (Nat.zero_le _)
 rw [List.drop_zero] at this
 exact this
theorem rNodes(x:Ex)(ks:List Ex)(hB:Pu 32 [.agg (exL x)] (.ret (.sl 7 (Ex.cs ks))))(hks:ks.length<=2000000000)(nf:Ex->Int)(hR:∀y,y∈ks->Pu 9 [.agg (exL y)] (.ret (.int .i64 (nf y))))(hx0:List.length ks<=1000000000):Pu 9 [.agg (exL x)] (rI (ndS_f nf ks 1)):=
 pu mdL (fun e=>[cl hB,lp (S.mk [(0,.v (.agg (exL x))),(1,.lp 1 0),(2,vI6 0),(3,vI6 1),(6,.v (.agg (exL x))),(7,vL 7 (Ex.cs ks)),(4,vL 7 (Ex.cs ks)),(5,vI6 0)] [(1,exV x)] e) (@ndS (x) (ks) hB hks (nf) hR (1) (e) hx0) xr]) func9
theorem bdS_eq:∀ (bs:List Al) (out:List Ex),bdS_f bs out=out++bs.map alB
 | [],out=>by simp [bdS_f]
 | a::r,out=>by simp [bdS_f,bdS_eq r]
theorem bod_lt{x y:Ex}(h:y∈bdS_f (exA x) (exK x)):szE y<szE x:=by
 have h1:=szE_eq x
 rw [bdS_eq,List.mem_append,List.mem_map] at h
 rcases h with h | ⟨a,h,rfl⟩
 ·have:=kid_bulk h; omega
 ·have:=alt_bulk h; omega
def ndD:Nat->Ex->Int
 | 0,_=>0
 | d+1,x=>ndS_f (ndD d) (bdS_f (exA x) (exK x)) 1
theorem nodes_ok:∀ (d:Nat) (x:Ex),szE x<d->szE x<=100000000->Pu 9 [.agg (exL x)] (.ret (.int .i64 (ndD d x)))
 | 0,x,h,_=>by omega
 | d+1,x,h,hs=>by
  have h1:=szE_eq x
  have h2:=kids_bulk (exK x)
  have h4:=alts_bulk (exA x)
  have hl:(bdS_f (exA x) (exK x)).length<=1000000000:=by rw [bdS_eq,List.length_append,List.length_map]; omega
  exact rNodes x _ (rBodies x oM oM) oM (ndD d) (fun y hy=>nodes_ok d y (by have:=bod_lt hy; omega) (by have:=bod_lt hy; omega)) hl
def nodes(x:Ex):Int:=ndD (szE x+1) x
theorem rNodesT{x:Ex}(hs:szE x<=100000000):Pu 9 [.agg (exL x)] (.ret (.int .i64 (nodes x))):=nodes_ok _ x oM hs
theorem szV_eq(v:Vl):szV v=(vlNm v).size+bulkPss (Vl.cs (vlK v))+bulkPss (nmsC (vlP v))+bulkPss (Ex.cs (vlB v))+bulkPss (Bd.cs (vlBd v))+7:=by
 simp only [szV,bulkPs,bulkP]; omega
theorem vals_bulk(l:List Vl):l.length<=bulkPss (Vl.cs l):=by
 have:=len_bulk (l:=Vl.cs l) fun c hc=>by
  rw [Vl.cs_eq] at hc
  obtain ⟨x,-,rfl⟩:=List.mem_map.1 hc
  have:=szV_eq x
  unfold szV at this
  omega
 rwa [Vl.cs_len] at this
theorem bd_bulk(b:Bd):bulkPs (bdL b)=(bdNm b).size+1+szV (bdV b):=by
 simp only [bulkPs,bulkP,szV]
theorem bds_bulk(l:List Bd):l.length<=bulkPss (Bd.cs l):=by
 have:=len_bulk (l:=Bd.cs l) fun c hc=>by
  rw [Bd.cs_eq] at hc
  obtain ⟨x,-,rfl⟩:=List.mem_map.1 hc
  have:=bd_bulk x
  omega
 rwa [Bd.cs_len] at this
theorem val_bulk{l:List Vl}{v:Vl}(h:v∈l):szV v<=bulkPss (Vl.cs l):=mem_bulk (by rw [Vl.cs_eq]; exact List.mem_map_of_mem h)
theorem bdv_bulk{l:List Bd}{b:Bd}(h:b∈l):szV (bdV b)<=bulkPss (Bd.cs l):=by
 have h1:=mem_bulk (l:=Bd.cs l) (c:=bdL b) (by rw [Bd.cs_eq]; exact List.mem_map_of_mem h)
 have:=bd_bulk b
 omega
theorem exs_bulk{l:List Ex}{x:Ex}(h:x∈l):szE x<=bulkPss (Ex.cs l):=mem_bulk (by rw [Ex.cs_eq]; exact List.mem_map_of_mem h)
section
variable (cK:C5) (l:List Df) (fu:Int)
end
section
variable {P:Program} {n:Nat} {t:TypeId} {cs:List PV}
theorem ty_str(hu:P.underlying t=some .string)(h:Ty P n t cs):∃s,cs=[.str s]:=by
 cases n with
 | zero=>exact h.elim
 | succ n=>simp only [Ty,hu] at h; obtain ⟨s,rfl,-⟩:=h; exact ⟨s,rfl⟩
theorem ty_int{k:IntKind}(hu:P.underlying t=some (.int k))(h:Ty P n t cs):∃v,cs=[.int k v]/\(Lit.int k v).wf=true:=by
 cases n with
 | zero=>exact h.elim
 | succ n=>simp only [Ty,hu] at h; exact h
theorem ty_bool(hu:P.underlying t=some .bool)(h:Ty P n t cs):∃b,cs=[.bool b]:=by
 cases n with
 | zero=>exact h.elim
 | succ n=>simp only [Ty,hu] at h; exact h
theorem ty_struct{fs:Array Field}(hu:P.underlying t=some (.struct fs))(h:Ty P n t cs):∃m,m<n/\TyF (Ty P m) fs.toList cs:=by
 cases n with
 | zero=>exact h.elim
 | succ n=>simp only [Ty,hu] at h; exact ⟨n,by omega,h⟩
theorem ty_slice{q:TypeId}(hu:P.underlying t=some (.slice q))(h:Ty P n t cs):∃m es,m<n/\cs=[.sl (P.cellsOf q) es]/\∀x∈es,Ty P m q x:=by
 cases n with
 | zero=>exact h.elim
 | succ n=>simp only [Ty,hu] at h; obtain ⟨es,h1,-,h2⟩:=h; exact ⟨n,es,by omega,h1,h2⟩
theorem lst_of{α:Type}{mk:α->List PV}:∀ {es:List (List PV)},(∀x∈es,∃a,x=mk a)->∃l:List α,es=l.map mk
 | [],_=>⟨[],rfl⟩
 | x::r,h=>by
  obtain ⟨a,rfl⟩:=h x sM
  obtain ⟨l,rfl⟩:=lst_of (es:=r) fun y hy=>h y (List.mem_cons_of_mem _ hy)
  exact ⟨a::l,rfl⟩
theorem ty_list{α:Type}{mk:α->List PV}{C:List α->List (List PV)}(hC:∀l,C l=l.map mk){q:TypeId}(hu:P.underlying t=some (.slice q)){z:Nat}(hz:P.cellsOf q=z)(h:Ty P n t cs)(he:∀m x,m<n->Ty P m q x->∃a,x=mk a):∃l,cs=[.sl z (C l)]:=by
 obtain ⟨m,es,hm,rfl,h2⟩:=ty_slice hu h
 obtain ⟨l,rfl⟩:=lst_of fun x hx=>he m x hm (h2 x hx)
 exact ⟨l,by rw [hC,hz]⟩
theorem noXs_append:∀a b:List PV,noXs (a++b)=(noXs a&&noXs b)
 | [],b=>by simp [noXs]
 | x::a,b=>by rw [List.cons_append,noXs,noXs,noXs_append a b,Bool.and_assoc]
theorem tyF_nx{T:TypeId->List PV->Prop}(hT:∀t cs,T t cs->noXs cs=true):∀ (fs:List Field) (cs:List PV),TyF T fs cs->noXs cs=true
 | [],cs,h=>by rw [h]; rfl
 | f::r,cs,h=>by
  obtain ⟨c,cs',rfl,h1,h2⟩:=h
  rw [noXs_append,hT _ _ h1,tyF_nx hT r cs' h2]; rfl
theorem noXss_of:∀ {es:List (List PV)},(∀x∈es,noXs x=true)->noXss es=true
 | [],_=>rfl
 | x::r,h=>by rw [noXss,h x sM,noXss_of fun y hy=>h y (List.mem_cons_of_mem _ hy)]; rfl
theorem ty_nx(P:Program):∀ (n:Nat) (t:TypeId) (cs:List PV),Ty P n t cs->noXs cs=true
 | 0,_,_,h=>h.elim
 | n+1,t,cs,h=>by
  unfold Ty at h
  split at h
  ·obtain ⟨b,rfl⟩:=h; rfl
  ·obtain ⟨b,rfl,-⟩:=h; rfl
  ·obtain ⟨b,rfl,-⟩:=h; rfl
  ·obtain ⟨es,rfl,-,h2⟩:=h
   simp only [noXs,PV.noX,Bool.and_true]
   exact noXss_of fun x hx=>ty_nx P n _ x (h2 x hx)
  ·exact tyF_nx (ty_nx P n) _ _ h
  ·exact h.elim
end
section
variable {n:Nat} {cs:List PV}
theorem ty_nms(h:Ty prog n 50 cs):∃l,cs=[.sl 1 (nmsC l)]:=
 ty_list (mk:=fun s=>[.str s]) nmsC_eq Tryz.underlying50 kR h fun m x _ hx=>ty_str Tryz.underlying9 hx
theorem ty_pr:∀ (n:Nat) (cs:List PV),Ty prog n 82 cs->∃x:Pr,cs=prL x:=by
 intro n
 induction n using Nat.strongRecOn with
 | _ n ih=>
  intro cs h
  obtain ⟨m,hm,h⟩:=ty_struct Tryz.underlying82 h
  obtain ⟨c1,r1,rfl,h1,c2,r2,rfl,h2,c3,r3,rfl,h3,c4,r4,rfl,h4,rfl⟩:=h
  obtain ⟨o,rfl,-⟩:=ty_int Tryz.underlying79 h1
  obtain ⟨s,rfl⟩:=ty_str Tryz.underlying9 h2
  obtain ⟨k,rfl,-⟩:=ty_int Tryz.underlying3 h3
  obtain ⟨l,rfl⟩:=ty_list (z:=4) Pr.cs_eq Tryz.underlying80 kR h4 fun m' x hm' hx=>ih m' oM x hx
  exact ⟨.mk o s k l,rfl⟩
theorem ty_prs(h:Ty prog n 80 cs):∃l,cs=[.sl 4 (Pr.cs l)]:=
 ty_list (z:=4) Pr.cs_eq Tryz.underlying80 kR h fun m x _ hx=>ty_pr m x hx
theorem ty_tp:∀ (n:Nat) (cs:List PV),Ty prog n 84 cs->∃x:Tp,cs=tpL x:=by
 intro n
 induction n using Nat.strongRecOn with
 | _ n ih=>
  intro cs h
  obtain ⟨m,hm,h⟩:=ty_struct Tryz.underlying84 h
  obtain ⟨c1,r1,rfl,h1,c2,r2,rfl,h2,c3,r3,rfl,h3,c4,r4,rfl,h4,c5,r5,rfl,h5,c6,r6,rfl,h6,rfl⟩:=h
  obtain ⟨o,rfl,-⟩:=ty_int Tryz.underlying78 h1
  obtain ⟨s,rfl⟩:=ty_str Tryz.underlying9 h2
  obtain ⟨l,rfl⟩:=ty_list (z:=9) Tp.cs_eq Tryz.underlying35 kR h3 fun m' x hm' hx=>ih m' oM x hx
  obtain ⟨ns,rfl⟩:=ty_nms h4
  obtain ⟨p,rfl⟩:=ty_pr _ _ h5
  obtain ⟨ps,rfl⟩:=ty_prs h6
  exact ⟨.mk o s l ns p ps,rfl⟩
theorem ty_tps(h:Ty prog n 35 cs):∃l,cs=[.sl 9 (Tp.cs l)]:=
 ty_list (z:=9) Tp.cs_eq Tryz.underlying35 kR h fun m x _ hx=>ty_tp m x hx
theorem ty_pm(h:Ty prog n 172 cs):∃x:Pm,cs=pmL x:=by
 obtain ⟨m,hm,h⟩:=ty_struct Tryz.underlying172 h
 obtain ⟨c1,r1,rfl,h1,c2,r2,rfl,h2,rfl⟩:=h
 obtain ⟨s,rfl⟩:=ty_str Tryz.underlying9 h1
 obtain ⟨p,rfl⟩:=ty_tp _ _ h2
 exact ⟨.mk s p,rfl⟩
theorem ty_ex:∀ (n:Nat) (cs:List PV),Ty prog n 37 cs->∃x:Ex,cs=exL x:=by
 intro n
 induction n using Nat.strongRecOn with
 | _ n ih=>
  intro cs h
  obtain ⟨m,hm,h⟩:=ty_struct Tryz.underlying37 h
  obtain ⟨c1,r1,rfl,h1,c2,r2,rfl,h2,c3,r3,rfl,h3,c4,r4,rfl,h4,c5,r5,rfl,h5,c6,r6,rfl,h6,c7,r7,rfl,h7,rfl⟩:=h
  obtain ⟨o,rfl,-⟩:=ty_int Tryz.underlying31 h1
  obtain ⟨s,rfl⟩:=ty_str Tryz.underlying9 h2
  obtain ⟨k,rfl,-⟩:=ty_int Tryz.underlying3 h3
  obtain ⟨ks,rfl⟩:=ty_list (z:=7) Ex.cs_eq Tryz.underlying32 kR h4 fun m' x hm' hx=>ih m' oM x hx
  obtain ⟨ps,rfl⟩:=ty_list (z:=10) pmsC_eq Tryz.underlying33 kR h5 fun m' x hm' hx=>ty_pm hx
  obtain ⟨al,rfl⟩:=ty_list (z:=9) Al.cs_eq Tryz.underlying34 kR h6 fun m' x hm' hx=>by
   obtain ⟨m2,hm2,hx⟩:=ty_struct Tryz.underlying134 hx
   obtain ⟨d1,r1,rfl,k1,d2,r2,rfl,k2,d3,r3,rfl,k3,rfl⟩:=hx
   obtain ⟨s,rfl⟩:=ty_str Tryz.underlying9 k1
   obtain ⟨ns,rfl⟩:=ty_nms k2
   obtain ⟨b,rfl⟩:=ih m2 oM _ k3
   exact ⟨.mk s ns b,by simp only [alL,alC,alNs,alB,List.cons_append,List.nil_append,List.append_nil]⟩
  obtain ⟨ts,rfl⟩:=ty_tps h7
  exact ⟨.mk o s k ks ps al ts,rfl⟩
theorem ty_exs(h:Ty prog n 32 cs):∃l,cs=[.sl 7 (Ex.cs l)]:=
 ty_list (z:=7) Ex.cs_eq Tryz.underlying32 kR h fun m x _ hx=>ty_ex m x hx
theorem ty_vl:∀ (n:Nat) (cs:List PV),Ty prog n 52 cs->∃x:Vl,cs=vlL x:=by
 intro n
 induction n using Nat.strongRecOn with
 | _ n ih=>
  intro cs h
  obtain ⟨m,hm,h⟩:=ty_struct Tryz.underlying52 h
  obtain ⟨c1,r1,rfl,h1,c2,r2,rfl,h2,c3,r3,rfl,h3,c4,r4,rfl,h4,c5,r5,rfl,h5,c6,r6,rfl,h6,c7,r7,rfl,h7,rfl⟩:=h
  obtain ⟨o,rfl,-⟩:=ty_int Tryz.underlying49 h1
  obtain ⟨k,rfl,-⟩:=ty_int Tryz.underlying3 h2
  obtain ⟨s,rfl⟩:=ty_str Tryz.underlying9 h3
  obtain ⟨ks,rfl⟩:=ty_list (z:=7) Vl.cs_eq Tryz.underlying43 kR h4 fun m' x hm' hx=>ih m' oM x hx
  obtain ⟨ps,rfl⟩:=ty_nms h5
  obtain ⟨bs,rfl⟩:=ty_exs h6
  obtain ⟨bd,rfl⟩:=ty_list (z:=8) Bd.cs_eq Tryz.underlying30 kR h7 fun m' x hm' hx=>by
   obtain ⟨m2,hm2,hx⟩:=ty_struct Tryz.underlying66 hx
   obtain ⟨d1,r1,rfl,k1,d2,r2,rfl,k2,rfl⟩:=hx
   obtain ⟨s,rfl⟩:=ty_str Tryz.underlying9 k1
   obtain ⟨b,rfl⟩:=ih m2 oM _ k2
   exact ⟨.mk s b,by simp only [bdL,bdNm,bdV,List.cons_append,List.nil_append,List.append_nil]⟩
  exact ⟨.mk o k s ks ps bs bd,rfl⟩
theorem ty_vls(h:Ty prog n 43 cs):∃l,cs=[.sl 7 (Vl.cs l)]:=
 ty_list (z:=7) Vl.cs_eq Tryz.underlying43 kR h fun m x _ hx=>ty_vl m x hx
theorem ty_df(h:Ty prog n 88 cs):∃x:Df,cs=dfL x:=by
 obtain ⟨m,hm,h⟩:=ty_struct Tryz.underlying88 h
 obtain ⟨c1,r1,rfl,h1,c2,r2,rfl,h2,c3,r3,rfl,h3,c4,r4,rfl,h4,c5,r5,rfl,h5,c6,r6,rfl,h6,rfl⟩:=h
 obtain ⟨s,rfl⟩:=ty_str Tryz.underlying9 h1
 obtain ⟨ps,rfl⟩:=ty_nms h2
 obtain ⟨b,rfl⟩:=ty_ex _ _ h3
 obtain ⟨k,rfl,-⟩:=ty_int Tryz.underlying74 h4
 obtain ⟨y,rfl⟩:=ty_bool Tryz.underlying4 h5
 obtain ⟨m2,hm2,h6⟩:=ty_struct Tryz.underlying86 h6
 obtain ⟨d1,q1,rfl,k1,d2,q2,rfl,k2,d3,q3,rfl,k3,d4,q4,rfl,k4,d5,q5,rfl,k5,d6,q6,rfl,k6,rfl⟩:=h6
 obtain ⟨vs,rfl⟩:=ty_nms k1
 obtain ⟨m3,e3,-,rfl,-⟩:=ty_slice Tryz.underlying75 k2
 obtain ⟨m4,e4,-,rfl,-⟩:=ty_slice Tryz.underlying76 k3
 obtain ⟨m5,e5,-,rfl,-⟩:=ty_slice Tryz.underlying77 k4
 obtain ⟨tp,rfl⟩:=ty_tp _ _ k5
 obtain ⟨me,rfl⟩:=ty_prs k6
 exact ⟨.mk s ps b k y vs _ _ _ tp me,rfl⟩
end
theorem SmVs_of:∀ {l:List Vl},(∀v∈l,SmV v)->SmVs l
 | [],_=>SmVs_nil
 | v::r,h=>by rw [SmVs]; exact ⟨h v sM,SmVs_of fun w hw=>h w (List.mem_cons_of_mem _ hw)⟩
theorem SmBs_of:∀ {l:List Bd},(∀b∈l,SmV (bdV b))->SmBs l
 | [],_=>SmBs_nil
 | v::r,h=>by rw [SmBs_cons]; exact ⟨h v sM,SmBs_of fun w hw=>h w (List.mem_cons_of_mem _ hw)⟩
theorem sm_bulk:∀ (d:Nat) (v:Vl),szV v<d->szV v<=100000000->SmV v
 | 0,_,h,_=>by omega
 | d+1,v,h,hs=>by
  have h1:=szV_eq v
  have h2:=vals_bulk (vlK v)
  have h3:=bds_bulk (vlBd v)
  have h4:=kids_bulk (vlB v)
  have h5:=nms_bulk (vlP v)
  have h6:SmVs (vlK v):=SmVs_of fun w hw=>sm_bulk d w (by have:=val_bulk hw; omega) (by have:=val_bulk hw; omega)
  have h7:SmBs (vlBd v):=SmBs_of fun b hb=>sm_bulk d (bdV b) (by have:=bdv_bulk hb; omega) (by have:=bdv_bulk hb; omega)
  have h8:∀x∈vlB v,szE x<=100000000:=fun x hx=>by have:=exs_bulk hx; omega
  cases v with
  | mk op n name kids params body binds=>
   simp only [vlK,vlP,vlB,vlBd] at *
   rw [SmV]
   exact ⟨by omega,by omega,by omega,h8,h6,h7⟩
theorem SmV_bulk{v:Vl}(h:szV v<=100000000):SmV v:=sm_bulk _ v (Nat.lt_succ_self _) h
theorem SmVs_bulk{l:List Vl}(h:bulkPss (Vl.cs l)<=100000000):SmVs l:=SmVs_of fun v hv=>SmV_bulk (by have:=val_bulk hv; omega)
theorem df_bulk(d:Df):bulkPss (nmsC (dfP d))+szE (dfB d)+1<=bulkPs (dfL d):=by
 show _<=bulkPs (.str (dfNm d) :: .sl 1 (nmsC (dfP d))::(exL (dfB d)++_))
 rw [bulkPs,bulkPs,bulkPs_append]
 simp only [bulkP]
 unfold szE
 omega
theorem dfs_bulk{l:List Df}{d:Df}(h:d∈l):bulkPs (dfL d)<=bulkPss (dfsC l):=mem_bulk (by rw [dfsC_eq]; exact List.mem_map_of_mem h)
theorem SmL_bulk{l:List Df}(h:bulkPss (dfsC l)<=100000000):SmL l:=by
 refine ⟨?_,fun d hd=>?_⟩
 ·have:=len_bulk (l:=dfsC l) fun c hc=>by
   rw [dfsC_eq] at hc
   obtain ⟨x,-,rfl⟩:=List.mem_map.1 hc
   have:=df_bulk x
   omega
  rw [dfsC_len] at this
  omega
 ·have h1:=df_bulk d
  have h2:=dfs_bulk hd
  have h3:=nms_bulk (dfP d)
  exact ⟨by omega,by omega⟩
theorem getD_mem'{α:Type} [Inhabited α] {l:List α} {i:Nat} (h:i<l.length):l.getD i default∈l:=by simp [List.getD,h]
abbrev snS_I(l:List BA)(j:Int)(e:Ext):S:=S.mk [(0,vL 1 (nmsC l)),(1,vL 1 (nmsC l)),(5,vI6 j)] [] e
theorem snS_b1(l:List BA)(i:Nat)(e:Ext)(hi:i<l.length)(hN:l.length<=1000000000)(cx:Cx)(hcx:cx.n=26){Q:PExit->S->Prop}(hq:Q (.normal) (S.mk [(0,vL 1 (nmsC l)),(1,vL 1 (nmsC l)),(5,vI6 ((i:Int)+1))] [] e)):PW prog cx (loopF f97 0) (snS_I l (i:Int) e) Q:=
 pw mdL 26 [sl (nmsC_len l),dt ((i:Int)<(l.length:Int)),am ((0:Int)<=(i:Int)/\(i:Int)<((nmsC l).length:Int)) qZ,xNm l i hi,am ((0:Int)<=(i:Int)/\(i:Int)<((nmsC l).length:Int)) qZ,xNm l i hi,bf (!ByteArray.toList (List.getD l i nm0)==ByteArray.toList (List.getD l i nm0)) (bnF (bsT rF)),wr ((i:Int)+1)] [0,1,5,4] [] hcx hq
theorem snS_z1(l:List BA)(i:Nat)(e:Ext)(hi:i=l.length)(hN:l.length<=1000000000)(cx:Cx)(hcx:cx.n=26){Q:PExit->S->Prop}(hq:Q (.exit 0) (S.mk [(0,vL 1 (nmsC l)),(1,vL 1 (nmsC l)),(5,vI6 (i:Int))] [] e)):PW prog cx (loopF f97 0) (snS_I l (i:Int) e) Q:=
 pw mdL 26 [sl (nmsC_len l),df ((i:Int)<(l.length:Int))] [0,1,5,4] [] hcx hq
def snS_q(l:List BA)(e:Ext):PExit × S:=(.exit 0,S.mk [(0,vL 1 (nmsC l)),(1,vL 1 (nmsC l))] [] e)
theorem snS_lp(l:List BA)(e:Ext)(hN:l.length<=1000000000)(i:Nat)(hi0:i<=l.length)  : (Ob.loop 26 (loopF f97 0) (snS_I l (i:Int)  e) (snS_q l e).1 (snS_q l e).2).ok prog:=by
 refine Ob.loop_of (P:=prog) (α:={ zz:Nat × Unit // zz.1<=l.length }) (fun zz=>snS_I l (zz.1.1:Int)  e) (fun zz=>l.length - zz.1.1) (fun zz=>(snS_q l e)) ?_ ⟨(i,()),hi0⟩
 clear hi0
 clear  i
 rintro ⟨⟨i,u⟩,hi⟩ cx hcx
 simp only at hi  ⊢
 rcases Nat.lt_or_ge i (l.length) with hlt | hge
 ·have hd:=drop_at0 hlt
  exact snS_b1 l i  e hlt hN   cx hcx (.inl ⟨rfl,⟨((i+1),()),by simp only; omega⟩,by simp only; omega,xr,by trivial⟩)
 ·have he:i=l.length:=by omega
  subst he
  refine snS_z1 l (l.length)  e rfl hN   cx hcx (.inr ?_)
  exact ⟨by simp,rfl,xr⟩
theorem snS(l:List BA)(e:Ext)(hN:l.length<=1000000000)  : (Ob.loop 26 (loopF f97 0) (snS_I l 0  e) (snS_q l e).1 (snS_q l e).2).ok prog:=by
 have:=snS_lp l e hN 0  (Nat.zero_le _)
 exact this
theorem rSameNames(l:List BA)(hll:l.length<=1000000000):Pu 97 [.sl 1 (nmsC l),.sl 1 (nmsC l)] (rB true):=
 pu mdL (fun e=>[rp 2 (sl (nmsC_len l)),nn (l.length:Int) (l.length:Int),lp (S.mk [(0,vL 1 (nmsC l)),(1,vL 1 (nmsC l)),(4,.v (.bool false)),(6,vL 1 (nmsC l)),(7,vI6 (l.length:Int)),(8,vL 1 (nmsC l)),(9,vI6 (l.length:Int)),(10,.v (.bool ((l.length:Int) != (l.length:Int)))),(5,vI6 0)] [] e) (@snS (l) (e) hll) xr]) func97
abbrev spS_I(x:Pr)(j:Int)(e:Ext):S:=S.mk [(2,.lp 2 0),(3,.lp 3 0),(36,vI6 ((prK x).length:Int)),(37,vI6 j)] [(2,[vI6 (prO x),vS (prNm x),vI6 (prN x),vL 4 (Pr.cs (prK x))]),(3,[vI6 (prO x),vS (prNm x),vI6 (prN x),vL 4 (Pr.cs (prK x))])] e
section
variable (x:Pr) (hwk:∀w,w∈prK x->Pu 160 [.agg (prL w),.agg (prL w)] (.ret (.bool true))) (i:Nat) (e:Ext)
include x hwk i e
theorem spS_b1(hi:i<(prK x).length)(hN:(prK x).length<=1000000000)(cx:Cx)(hcx:cx.n=53){Q:PExit->S->Prop}(hq:Q (.normal) (S.mk [(2,.lp 2 0),(3,.lp 3 0),(36,vI6 ((prK x).length:Int)),(37,vI6 ((i:Int)+1))] [(2,[vI6 (prO x),vS (prNm x),vI6 (prN x),vL 4 (Pr.cs (prK x))]),(3,[vI6 (prO x),vS (prNm x),vI6 (prN x),vL 4 (Pr.cs (prK x))])] e)):PW prog cx (loopF f160 0) (spS_I x (i:Int) e) Q:=
 pw mdL 53 [dt ((i:Int)<((prK x).length:Int)),am ((0:Int)<=(i:Int)/\(i:Int)<((Pr.cs (prK x)).length:Int)) qZ,xPr (prK x) i hi,am ((0:Int)<=(i:Int)/\(i:Int)<((Pr.cs (prK x)).length:Int)) qZ,xPr (prK x) i hi,cl (@hwk (List.getD (prK x) i default) sA),bf false,wr ((i:Int)+1)] [2,3,36,37,4] [2,3] hcx hq
theorem spS_z1(hi:i=(prK x).length)(hN:(prK x).length<=1000000000)(cx:Cx)(hcx:cx.n=53){Q:PExit->S->Prop}(hq:Q (.exit 0) (S.mk [(2,.lp 2 0),(3,.lp 3 0),(36,vI6 ((prK x).length:Int)),(37,vI6 (i:Int))] [(2,[vI6 (prO x),vS (prNm x),vI6 (prN x),vL 4 (Pr.cs (prK x))]),(3,[vI6 (prO x),vS (prNm x),vI6 (prN x),vL 4 (Pr.cs (prK x))])] e)):PW prog cx (loopF f160 0) (spS_I x (i:Int) e) Q:=
 pw mdL 53 [df ((i:Int)<((prK x).length:Int))] [2,3,36,37,4] [2,3] hcx hq
end
def spS_q(x:Pr)(e:Ext):PExit × S:=(.exit 0,S.mk [(2,.lp 2 0),(3,.lp 3 0),(36,vI6 ((prK x).length:Int))] [(2,[vI6 (prO x),vS (prNm x),vI6 (prN x),vL 4 (Pr.cs (prK x))]),(3,[vI6 (prO x),vS (prNm x),vI6 (prN x),vL 4 (Pr.cs (prK x))])] e)
theorem spS_lp(x:Pr)(hwk:∀w,w∈prK x->Pu 160 [.agg (prL w),.agg (prL w)] (.ret (.bool true)))(e:Ext)(hN:(prK x).length<=1000000000)(i:Nat)(hi0:i<=(prK x).length)  : (Ob.loop 53 (loopF f160 0) (spS_I x (i:Int)  e) (spS_q x e).1 (spS_q x e).2).ok prog:=by
 refine Ob.loop_of (P:=prog) (α:={ zz:Nat × Unit // zz.1<=(prK x).length }) (fun zz=>spS_I x (zz.1.1:Int)  e) (fun zz=>(prK x).length - zz.1.1) (fun zz=>(spS_q x e)) ?_ ⟨(i,()),hi0⟩
 clear hi0
 clear  i
 rintro ⟨⟨i,u⟩,hi⟩ cx hcx
 simp only at hi  ⊢
 rcases Nat.lt_or_ge i ((prK x).length) with hlt | hge
 ·have hd:=drop_at hlt
  exact spS_b1 x hwk i  e hlt hN   cx hcx (.inl ⟨rfl,⟨((i+1),()),by simp only; omega⟩,by simp only; omega,xr,by trivial⟩)
 ·have he:i=(prK x).length:=by omega
  subst he
  refine spS_z1 x hwk ((prK x).length)  e rfl hN   cx hcx (.inr ?_)
  exact ⟨by simp,rfl,xr⟩
theorem spS(x:Pr)(hwk:∀w,w∈prK x->Pu 160 [.agg (prL w),.agg (prL w)] (.ret (.bool true)))(e:Ext)(hN:(prK x).length<=1000000000)  : (Ob.loop 53 (loopF f160 0) (spS_I x 0  e) (spS_q x e).1 (spS_q x e).2).ok prog:=by
 have:=spS_lp x hwk e hN 0  (Nat.zero_le _)
 exact this
theorem rSamePred(x:Pr)(hwk:∀w,w∈prK x->Pu 160 [.agg (prL w),.agg (prL w)] (.ret (.bool true)))(hll:(prK x).length<=1000000000):Pu 160 [.agg (prL x),.agg (prL x)] (rB true):=
 pu mdL (fun e=>[rp 6 (nn (prO x) (prO x)),rp 6 (bf (!ByteArray.toList (prNm x)==ByteArray.toList (prNm x)) (bnF (bsT rF))),rp 3 (nn (prN x) (prN x)),sl (Pr.cs_len (prK x)),rp 3 (nn (prN x) (prN x)),sl (Pr.cs_len (prK x)),rp 2 (nn (prN x) (prN x)),nn ((prK x).length:Int) ((prK x).length:Int),sl (Pr.cs_len (prK x)),lp (S.mk [(0,.v (.agg (prL x))),(1,.v (.agg (prL x))),(2,.lp 2 0),(3,.lp 3 0),(4,.v (.bool false)),(6,.lp 2 0),(7,vI6 (prO x)),(8,.lp 3 0),(9,vI6 (prO x)),(10,.v (.bool (prO x != prO x))),(11,.v (.bool (prO x != prO x))),(12,.lp 2 1),(13,vS (prNm x)),(14,.lp 3 1),(15,vS (prNm x)),(16,.v (.bool !ByteArray.toList (prNm x)==ByteArray.toList (prNm x))),(17,.v (.bool !ByteArray.toList (prNm x)==ByteArray.toList (prNm x))),(18,.v (.bool !ByteArray.toList (prNm x)==ByteArray.toList (prNm x))),(19,.lp 2 2),(20,vI6 (prN x)),(21,.lp 3 2),(22,vI6 (prN x)),(23,.v (.bool (prN x != prN x))),(24,.v (.bool (prN x != prN x))),(25,.v (.bool (prN x != prN x))),(26,.lp 2 3),(27,vL 4 (Pr.cs (prK x))),(28,vI6 ((prK x).length:Int)),(29,.lp 3 3),(30,vL 4 (Pr.cs (prK x))),(31,vI6 ((prK x).length:Int)),(32,.v (.bool (((prK x).length:Int) != ((prK x).length:Int)))),(33,.v (.bool (((prK x).length:Int) != ((prK x).length:Int)))),(34,.lp 2 3),(35,vL 4 (Pr.cs (prK x))),(36,vI6 ((prK x).length:Int)),(37,vI6 0)] [(2,[vI6 (prO x),vS (prNm x),vI6 (prN x),vL 4 (Pr.cs (prK x))]),(3,[vI6 (prO x),vS (prNm x),vI6 (prN x),vL 4 (Pr.cs (prK x))])] e) (@spS (x) hwk (e) hll) xr]) func160
abbrev stS_I(l:List Tp)(j:Int)(e:Ext):S:=S.mk [(0,vL 9 (Tp.cs l)),(1,vL 9 (Tp.cs l)),(5,vI6 j)] [] e
section
variable (l:List Tp) (hwk:∀w,w∈l->Pu 144 [.agg (tpL w),.agg (tpL w)] (.ret (.bool true))) (i:Nat) (e:Ext)
include l hwk i e
theorem stS_b1(hi:i<l.length)(hN:l.length<=1000000000)(cx:Cx)(hcx:cx.n=27){Q:PExit->S->Prop}(hq:Q (.normal) (S.mk [(0,vL 9 (Tp.cs l)),(1,vL 9 (Tp.cs l)),(5,vI6 ((i:Int)+1))] [] e)):PW prog cx (loopF f122 0) (stS_I l (i:Int) e) Q:=
 pw mdL 27 [sl (Tp.cs_len l),dt ((i:Int)<(l.length:Int)),am ((0:Int)<=(i:Int)/\(i:Int)<((Tp.cs l).length:Int)) (by (simp only [Tp.cs_len]; omega)),xTp l i hi,am ((0:Int)<=(i:Int)/\(i:Int)<((Tp.cs l).length:Int)) (by (simp only [Tp.cs_len]; omega)),xTp l i hi,cl (@hwk (List.getD l i default) sA),bf false,wr ((i:Int)+1)] [0,1,5,4] [] hcx hq
theorem stS_z1(hi:i=l.length)(hN:l.length<=1000000000)(cx:Cx)(hcx:cx.n=27){Q:PExit->S->Prop}(hq:Q (.exit 0) (S.mk [(0,vL 9 (Tp.cs l)),(1,vL 9 (Tp.cs l)),(5,vI6 (i:Int))] [] e)):PW prog cx (loopF f122 0) (stS_I l (i:Int) e) Q:=
 pw mdL 27 [sl (Tp.cs_len l),df ((i:Int)<(l.length:Int))] [0,1,5,4] [] hcx hq
end
def stS_q(l:List Tp)(e:Ext):PExit × S:=(.exit 0,S.mk [(0,vL 9 (Tp.cs l)),(1,vL 9 (Tp.cs l))] [] e)
theorem stS_lp(l:List Tp)(hwk:∀w,w∈l->Pu 144 [.agg (tpL w),.agg (tpL w)] (.ret (.bool true)))(e:Ext)(hN:l.length<=1000000000)(i:Nat)(hi0:i<=l.length)  : (Ob.loop 27 (loopF f122 0) (stS_I l (i:Int)  e) (stS_q l e).1 (stS_q l e).2).ok prog:=by
 refine Ob.loop_of (P:=prog) (α:={ zz:Nat × Unit // zz.1<=l.length }) (fun zz=>stS_I l (zz.1.1:Int)  e) (fun zz=>l.length - zz.1.1) (fun zz=>(stS_q l e)) ?_ ⟨(i,()),hi0⟩
 clear hi0
 clear  i
 rintro ⟨⟨i,u⟩,hi⟩ cx hcx
 simp only at hi  ⊢
 rcases Nat.lt_or_ge i (l.length) with hlt | hge
 ·have hd:=drop_at hlt
  exact stS_b1 l hwk i  e hlt hN   cx hcx (.inl ⟨rfl,⟨((i+1),()),by simp only; omega⟩,by simp only; omega,xr,by trivial⟩)
 ·have he:i=l.length:=by omega
  subst he
  refine stS_z1 l hwk (l.length)  e rfl hN   cx hcx (.inr ?_)
  exact ⟨by simp,rfl,xr⟩
theorem stS(l:List Tp)(hwk:∀w,w∈l->Pu 144 [.agg (tpL w),.agg (tpL w)] (.ret (.bool true)))(e:Ext)(hN:l.length<=1000000000)  : (Ob.loop 27 (loopF f122 0) (stS_I l 0  e) (stS_q l e).1 (stS_q l e).2).ok prog:=by
 have:=stS_lp l hwk e hN 0  (Nat.zero_le _)
 exact this
theorem rSameTypes(l:List Tp)(hwk:∀w,w∈l->Pu 144 [.agg (tpL w),.agg (tpL w)] (.ret (.bool true)))(hll:l.length<=1000000000):Pu 122 [.sl 9 (Tp.cs l),.sl 9 (Tp.cs l)] (rB true):=
 pu mdL (fun e=>[rp 2 (sl (Tp.cs_len l)),nn (l.length:Int) (l.length:Int),lp (S.mk [(0,vL 9 (Tp.cs l)),(1,vL 9 (Tp.cs l)),(4,.v (.bool false)),(6,vL 9 (Tp.cs l)),(7,vI6 (l.length:Int)),(8,vL 9 (Tp.cs l)),(9,vI6 (l.length:Int)),(10,.v (.bool ((l.length:Int) != (l.length:Int)))),(5,vI6 0)] [] e) (@stS (l) hwk (e) hll) xr]) func122
abbrev syS_I(x:Tp)(j:Int)(e:Ext):S:=S.mk [(2,.lp 2 0),(3,.lp 3 0),(5,vI6 j)] [(2,[vI6 (tpO x),vS (tpNm x),vL 9 (Tp.cs (tpA x)),vL 1 (nmsC (tpNs x)),vI6 (prO (tpP x)),vS (prNm (tpP x)),vI6 (prN (tpP x)),vL 4 (Pr.cs (prK (tpP x))),vL 4 (Pr.cs (tpPs x))]),(3,[vI6 (tpO x),vS (tpNm x),vL 9 (Tp.cs (tpA x)),vL 1 (nmsC (tpNs x)),vI6 (prO (tpP x)),vS (prNm (tpP x)),vI6 (prN (tpP x)),vL 4 (Pr.cs (prK (tpP x))),vL 4 (Pr.cs (tpPs x))])] e
section
variable (x:Tp) (hwp:∀w,w∈tpPs x->Pu 160 [.agg (prL w),.agg (prL w)] (.ret (.bool true))) (hwq:Pu 160 [.agg (prL (tpP x)),.agg (prL (tpP x))] (.ret (.bool true))) (hwn:Pu 97 [.sl 1 (nmsC (tpNs x)),.sl 1 (nmsC (tpNs x))] (.ret (.bool true))) (hwt:Pu 122 [.sl 9 (Tp.cs (tpA x)),.sl 9 (Tp.cs (tpA x))] (.ret (.bool true))) (i:Nat) (e:Ext)
include x hwp hwq hwn hwt i e
theorem syS_b1(hi:i<(tpPs x).length)(hN:(tpPs x).length<=1000000000)(cx:Cx)(hcx:cx.n=67){Q:PExit->S->Prop}(hq:Q (.normal) (S.mk [(2,.lp 2 0),(3,.lp 3 0),(5,vI6 ((i:Int)+1))] [(2,[vI6 (tpO x),vS (tpNm x),vL 9 (Tp.cs (tpA x)),vL 1 (nmsC (tpNs x)),vI6 (prO (tpP x)),vS (prNm (tpP x)),vI6 (prN (tpP x)),vL 4 (Pr.cs (prK (tpP x))),vL 4 (Pr.cs (tpPs x))]),(3,[vI6 (tpO x),vS (tpNm x),vL 9 (Tp.cs (tpA x)),vL 1 (nmsC (tpNs x)),vI6 (prO (tpP x)),vS (prNm (tpP x)),vI6 (prN (tpP x)),vL 4 (Pr.cs (prK (tpP x))),vL 4 (Pr.cs (tpPs x))])] e)):PW prog cx (loopF f144 0) (syS_I x (i:Int) e) Q:=
 pw mdL 67 [sl (Pr.cs_len (tpPs x)),dt ((i:Int)<((tpPs x).length:Int)),am ((0:Int)<=(i:Int)/\(i:Int)<((Pr.cs (tpPs x)).length:Int)) qZ,xPr (tpPs x) i hi,am ((0:Int)<=(i:Int)/\(i:Int)<((Pr.cs (tpPs x)).length:Int)) qZ,xPr (tpPs x) i hi,cl (@hwp (List.getD (tpPs x) i default) sA),bf false,wr ((i:Int)+1)] [2,3,5,4] [2,3] hcx hq
theorem syS_z1(hi:i=(tpPs x).length)(hN:(tpPs x).length<=1000000000)(cx:Cx)(hcx:cx.n=67){Q:PExit->S->Prop}(hq:Q (.exit 0) (S.mk [(2,.lp 2 0),(3,.lp 3 0),(5,vI6 (i:Int))] [(2,[vI6 (tpO x),vS (tpNm x),vL 9 (Tp.cs (tpA x)),vL 1 (nmsC (tpNs x)),vI6 (prO (tpP x)),vS (prNm (tpP x)),vI6 (prN (tpP x)),vL 4 (Pr.cs (prK (tpP x))),vL 4 (Pr.cs (tpPs x))]),(3,[vI6 (tpO x),vS (tpNm x),vL 9 (Tp.cs (tpA x)),vL 1 (nmsC (tpNs x)),vI6 (prO (tpP x)),vS (prNm (tpP x)),vI6 (prN (tpP x)),vL 4 (Pr.cs (prK (tpP x))),vL 4 (Pr.cs (tpPs x))])] e)):PW prog cx (loopF f144 0) (syS_I x (i:Int) e) Q:=
 pw mdL 67 [sl (Pr.cs_len (tpPs x)),df ((i:Int)<((tpPs x).length:Int))] [2,3,5,4] [2,3] hcx hq
end
def syS_q(x:Tp)(e:Ext):PExit × S:=(.exit 0,S.mk [(2,.lp 2 0),(3,.lp 3 0)] [(2,[vI6 (tpO x),vS (tpNm x),vL 9 (Tp.cs (tpA x)),vL 1 (nmsC (tpNs x)),vI6 (prO (tpP x)),vS (prNm (tpP x)),vI6 (prN (tpP x)),vL 4 (Pr.cs (prK (tpP x))),vL 4 (Pr.cs (tpPs x))]),(3,[vI6 (tpO x),vS (tpNm x),vL 9 (Tp.cs (tpA x)),vL 1 (nmsC (tpNs x)),vI6 (prO (tpP x)),vS (prNm (tpP x)),vI6 (prN (tpP x)),vL 4 (Pr.cs (prK (tpP x))),vL 4 (Pr.cs (tpPs x))])] e)
theorem syS_lp(x:Tp)(hwp:∀w,w∈tpPs x->Pu 160 [.agg (prL w),.agg (prL w)] (.ret (.bool true)))(hwq:Pu 160 [.agg (prL (tpP x)),.agg (prL (tpP x))] (.ret (.bool true)))(hwn:Pu 97 [.sl 1 (nmsC (tpNs x)),.sl 1 (nmsC (tpNs x))] (.ret (.bool true)))(hwt:Pu 122 [.sl 9 (Tp.cs (tpA x)),.sl 9 (Tp.cs (tpA x))] (.ret (.bool true)))(e:Ext)(hN:(tpPs x).length<=1000000000)(i:Nat)(hi0:i<=(tpPs x).length)  : (Ob.loop 67 (loopF f144 0) (syS_I x (i:Int)  e) (syS_q x e).1 (syS_q x e).2).ok prog:=by
 refine Ob.loop_of (P:=prog) (α:={ zz:Nat × Unit // zz.1<=(tpPs x).length }) (fun zz=>syS_I x (zz.1.1:Int)  e) (fun zz=>(tpPs x).length - zz.1.1) (fun zz=>(syS_q x e)) ?_ ⟨(i,()),hi0⟩
 clear hi0
 clear  i
 rintro ⟨⟨i,u⟩,hi⟩ cx hcx
 simp only at hi  ⊢
 rcases Nat.lt_or_ge i ((tpPs x).length) with hlt | hge
 ·have hd:=drop_at hlt
  exact syS_b1 x hwp hwq hwn hwt i  e hlt hN   cx hcx (.inl ⟨rfl,⟨((i+1),()),by simp only; omega⟩,by simp only; omega,xr,by trivial⟩)
 ·have he:i=(tpPs x).length:=by omega
  subst he
  refine syS_z1 x hwp hwq hwn hwt ((tpPs x).length)  e rfl hN   cx hcx (.inr ?_)
  exact ⟨by simp,rfl,xr⟩
theorem syS(x:Tp)(hwp:∀w,w∈tpPs x->Pu 160 [.agg (prL w),.agg (prL w)] (.ret (.bool true)))(hwq:Pu 160 [.agg (prL (tpP x)),.agg (prL (tpP x))] (.ret (.bool true)))(hwn:Pu 97 [.sl 1 (nmsC (tpNs x)),.sl 1 (nmsC (tpNs x))] (.ret (.bool true)))(hwt:Pu 122 [.sl 9 (Tp.cs (tpA x)),.sl 9 (Tp.cs (tpA x))] (.ret (.bool true)))(e:Ext)(hN:(tpPs x).length<=1000000000)  : (Ob.loop 67 (loopF f144 0) (syS_I x 0  e) (syS_q x e).1 (syS_q x e).2).ok prog:=by
 have:=syS_lp x hwp hwq hwn hwt e hN 0  (Nat.zero_le _)
 exact this
theorem rSameType(x:Tp)(hwp:∀w,w∈tpPs x->Pu 160 [.agg (prL w),.agg (prL w)] (.ret (.bool true)))(hwq:Pu 160 [.agg (prL (tpP x)),.agg (prL (tpP x))] (.ret (.bool true)))(hwn:Pu 97 [.sl 1 (nmsC (tpNs x)),.sl 1 (nmsC (tpNs x))] (.ret (.bool true)))(hwt:Pu 122 [.sl 9 (Tp.cs (tpA x)),.sl 9 (Tp.cs (tpA x))] (.ret (.bool true)))(hll:(tpPs x).length<=1000000000):Pu 144 [.agg (tpL x),.agg (tpL x)] (rB true):=
 pu mdL (fun e=>[rp 6 (nn (tpO x) (tpO x)),rp 5 (bf (!ByteArray.toList (tpNm x)==ByteArray.toList (tpNm x)) (bnF (bsT rF))),cl hwn,rp 2 (bf (!ByteArray.toList (tpNm x)==ByteArray.toList (tpNm x)) (bnF (bsT rF))),rp 5 (bf false),cl hwq,rp 5 (bf false),sl (Pr.cs_len (tpPs x)),rp 3 (bf false),sl (Pr.cs_len (tpPs x)),rp 2 (bf false),nn ((tpPs x).length:Int) ((tpPs x).length:Int),lp (S.mk [(0,.v (.agg (tpL x))),(1,.v (.agg (tpL x))),(2,.lp 2 0),(3,.lp 3 0),(4,.v (.bool false)),(6,.lp 2 0),(7,vI6 (tpO x)),(8,.lp 3 0),(9,vI6 (tpO x)),(10,.v (.bool (tpO x != tpO x))),(11,.v (.bool (tpO x != tpO x))),(12,.lp 2 1),(13,vS (tpNm x)),(14,.lp 3 1),(15,vS (tpNm x)),(16,.v (.bool !ByteArray.toList (tpNm x)==ByteArray.toList (tpNm x))),(17,.v (.bool !ByteArray.toList (tpNm x)==ByteArray.toList (tpNm x))),(18,.v (.bool !ByteArray.toList (tpNm x)==ByteArray.toList (tpNm x))),(19,.lp 2 3),(20,vL 1 (nmsC (tpNs x))),(21,.lp 3 3),(22,vL 1 (nmsC (tpNs x))),(23,.v (.bool true)),(24,.v (.bool false)),(25,.v (.bool false)),(26,.v (.bool false)),(27,.lp 2 4),(28,.v (.agg (prL (tpP x)))),(29,.lp 3 4),(30,.v (.agg (prL (tpP x)))),(31,.v (.bool true)),(32,.v (.bool false)),(33,.v (.bool false)),(34,.v (.bool false)),(35,.lp 2 8),(36,vL 4 (Pr.cs (tpPs x))),(37,vI6 ((tpPs x).length:Int)),(38,.lp 3 8),(39,vL 4 (Pr.cs (tpPs x))),(40,vI6 ((tpPs x).length:Int)),(41,.v (.bool (((tpPs x).length:Int) != ((tpPs x).length:Int)))),(42,.v (.bool (((tpPs x).length:Int) != ((tpPs x).length:Int)))),(5,vI6 0)] [(2,[vI6 (tpO x),vS (tpNm x),vL 9 (Tp.cs (tpA x)),vL 1 (nmsC (tpNs x)),vI6 (prO (tpP x)),vS (prNm (tpP x)),vI6 (prN (tpP x)),vL 4 (Pr.cs (prK (tpP x))),vL 4 (Pr.cs (tpPs x))]),(3,[vI6 (tpO x),vS (tpNm x),vL 9 (Tp.cs (tpA x)),vL 1 (nmsC (tpNs x)),vI6 (prO (tpP x)),vS (prNm (tpP x)),vI6 (prN (tpP x)),vL 4 (Pr.cs (prK (tpP x))),vL 4 (Pr.cs (tpPs x))])] e) (@syS (x) hwp hwq hwn hwt (e) hll) xr,cl hwt]) func144
theorem getD_memP{l:List Pm}{i:Nat}(h:i<l.length):pmT (l.getD i default)∈l.map pmT:=List.mem_map_of_mem (getD_mem' h)
abbrev smS_I(l:List Pm)(j:Int)(e:Ext):S:=S.mk [(0,vL 10 (pmsC l)),(1,vL 10 (pmsC l)),(5,vI6 j)] [] e
section
variable (l:List Pm) (hwt:∀t,t∈l.map pmT->Pu 144 [.agg (tpL t),.agg (tpL t)] (.ret (.bool true))) (i:Nat) (e:Ext)
include l hwt i e
theorem smS_b1(hi:i<l.length)(hN:l.length<=1000000000)(cx:Cx)(hcx:cx.n=42){Q:PExit->S->Prop}(hq:Q (.normal) (S.mk [(0,vL 10 (pmsC l)),(1,vL 10 (pmsC l)),(5,vI6 ((i:Int)+1))] [] e)):PW prog cx (loopF f121 0) (smS_I l (i:Int) e) Q:=
 pw mdL 42 [sl (pmsC_len l),dt ((i:Int)<(l.length:Int)),am ((0:Int)<=(i:Int)/\(i:Int)<((pmsC l).length:Int)) qZ,xPm l i hi,am ((0:Int)<=(i:Int)/\(i:Int)<((pmsC l).length:Int)) qZ,xPm l i hi,rp 3 (bf (!ByteArray.toList (pmNm (List.getD l i default))==ByteArray.toList (pmNm (List.getD l i default))) (bnF (bsT rF))),am ((0:Int)<=(i:Int)/\(i:Int)<((pmsC l).length:Int)) qZ,xPm l i hi,rp 5 (bf (!ByteArray.toList (pmNm (List.getD l i default))==ByteArray.toList (pmNm (List.getD l i default))) (bnF (bsT rF))),am ((0:Int)<=(i:Int)/\(i:Int)<((pmsC l).length:Int)) qZ,xPm l i hi,rp 3 (bf (!ByteArray.toList (pmNm (List.getD l i default))==ByteArray.toList (pmNm (List.getD l i default))) (bnF (bsT rF))),cl (@hwt (pmT (List.getD l i default)) (by (apply getD_memP <;> first | assumption | omega | decide))),rp 2 (bf (!ByteArray.toList (pmNm (List.getD l i default))==ByteArray.toList (pmNm (List.getD l i default))) (bnF (bsT rF))),bf false,wr ((i:Int)+1)] [0,1,5,4] [] hcx hq
theorem smS_z1(hi:i=l.length)(hN:l.length<=1000000000)(cx:Cx)(hcx:cx.n=42){Q:PExit->S->Prop}(hq:Q (.exit 0) (S.mk [(0,vL 10 (pmsC l)),(1,vL 10 (pmsC l)),(5,vI6 (i:Int))] [] e)):PW prog cx (loopF f121 0) (smS_I l (i:Int) e) Q:=
 pw mdL 42 [sl (pmsC_len l),df ((i:Int)<(l.length:Int))] [0,1,5,4] [] hcx hq
end
def smS_q(l:List Pm)(e:Ext):PExit × S:=(.exit 0,S.mk [(0,vL 10 (pmsC l)),(1,vL 10 (pmsC l))] [] e)
theorem smS_lp(l:List Pm)(hwt:∀t,t∈l.map pmT->Pu 144 [.agg (tpL t),.agg (tpL t)] (.ret (.bool true)))(e:Ext)(hN:l.length<=1000000000)(i:Nat)(hi0:i<=l.length)  : (Ob.loop 42 (loopF f121 0) (smS_I l (i:Int)  e) (smS_q l e).1 (smS_q l e).2).ok prog:=by
 refine Ob.loop_of (P:=prog) (α:={ zz:Nat × Unit // zz.1<=l.length }) (fun zz=>smS_I l (zz.1.1:Int)  e) (fun zz=>l.length - zz.1.1) (fun zz=>(smS_q l e)) ?_ ⟨(i,()),hi0⟩
 clear hi0
 clear  i
 rintro ⟨⟨i,u⟩,hi⟩ cx hcx
 simp only at hi  ⊢
 rcases Nat.lt_or_ge i (l.length) with hlt | hge
 ·have hd:=drop_at hlt
  exact smS_b1 l hwt i  e hlt hN   cx hcx (.inl ⟨rfl,⟨((i+1),()),by simp only; omega⟩,by simp only; omega,xr,by trivial⟩)
 ·have he:i=l.length:=by omega
  subst he
  refine smS_z1 l hwt (l.length)  e rfl hN   cx hcx (.inr ?_)
  exact ⟨by simp,rfl,xr⟩
theorem smS(l:List Pm)(hwt:∀t,t∈l.map pmT->Pu 144 [.agg (tpL t),.agg (tpL t)] (.ret (.bool true)))(e:Ext)(hN:l.length<=1000000000)  : (Ob.loop 42 (loopF f121 0) (smS_I l 0  e) (smS_q l e).1 (smS_q l e).2).ok prog:=by
 have:=smS_lp l hwt e hN 0  (Nat.zero_le _)
 exact this
theorem rSameParams(l:List Pm)(hwt:∀t,t∈l.map pmT->Pu 144 [.agg (tpL t),.agg (tpL t)] (.ret (.bool true)))(hll:l.length<=1000000000):Pu 121 [.sl 10 (pmsC l),.sl 10 (pmsC l)] (rB true):=
 pu mdL (fun e=>[rp 2 (sl (pmsC_len l)),nn (l.length:Int) (l.length:Int),lp (S.mk [(0,vL 10 (pmsC l)),(1,vL 10 (pmsC l)),(4,.v (.bool false)),(6,vL 10 (pmsC l)),(7,vI6 (l.length:Int)),(8,vL 10 (pmsC l)),(9,vI6 (l.length:Int)),(10,.v (.bool ((l.length:Int) != (l.length:Int)))),(5,vI6 0)] [] e) (@smS (l) hwt (e) hll) xr]) func121
abbrev seS_I(x:Ex)(j:Int)(e:Ext):S:=S.mk [(2,.lp 2 0),(3,.lp 3 0),(5,vI6 j)] [(2,exV x),(3,exV x)] e
section
variable (x:Ex) (hwm:Pu 121 [.sl 10 (pmsC (exP x)),.sl 10 (pmsC (exP x))] (.ret (.bool true))) (hwt:Pu 122 [.sl 9 (Tp.cs (exT x)),.sl 9 (Tp.cs (exT x))] (.ret (.bool true))) (hwk:∀w,w∈exK x->Pu 82 [.agg (exL w),.agg (exL w)] (.ret (.bool true))) (hwn:∀w,w∈exA x->Pu 97 [.sl 1 (nmsC (alNs w)),.sl 1 (nmsC (alNs w))] (.ret (.bool true))) (hwa:∀w,w∈exA x->Pu 82 [.agg (exL (alB w)),.agg (exL (alB w))] (.ret (.bool true))) (i:Nat) (e:Ext)
include x hwm hwt hwk hwn hwa i e
theorem seS_b1(hi:i<(exK x).length)(hN:(exK x).length<=1000000000)(cx:Cx)(hcx:cx.n=117){Q:PExit->S->Prop}(hq:Q (.normal) (S.mk [(2,.lp 2 0),(3,.lp 3 0),(5,vI6 ((i:Int)+1))] [(2,exV x),(3,exV x)] e)):PW prog cx (loopF f82 0) (seS_I x (i:Int) e) Q:=
 pw mdL 117 [sl (Ex.cs_len (exK x)),dt ((i:Int)<((exK x).length:Int)),am ((0:Int)<=(i:Int)/\(i:Int)<((Ex.cs (exK x)).length:Int)) qZ,xEx (exK x) i hi,am ((0:Int)<=(i:Int)/\(i:Int)<((Ex.cs (exK x)).length:Int)) qZ,xEx (exK x) i hi,cl (@hwk (List.getD (exK x) i default) sA),bf false,wr ((i:Int)+1)] [2,3,5,4] [2,3] hcx hq
theorem seS_z1(hi:i=(exK x).length)(hN:(exK x).length<=1000000000)(cx:Cx)(hcx:cx.n=117){Q:PExit->S->Prop}(hq:Q (.exit 0) (S.mk [(2,.lp 2 0),(3,.lp 3 0),(5,vI6 (i:Int))] [(2,exV x),(3,exV x)] e)):PW prog cx (loopF f82 0) (seS_I x (i:Int) e) Q:=
 pw mdL 117 [sl (Ex.cs_len (exK x)),df ((i:Int)<((exK x).length:Int))] [2,3,5,4] [2,3] hcx hq
end
def seS_q(x:Ex)(e:Ext):PExit × S:=(.exit 0,S.mk [(2,.lp 2 0),(3,.lp 3 0)] [(2,exV x),(3,exV x)] e)
theorem seS_lp(x:Ex)(hwm:Pu 121 [.sl 10 (pmsC (exP x)),.sl 10 (pmsC (exP x))] (.ret (.bool true)))(hwt:Pu 122 [.sl 9 (Tp.cs (exT x)),.sl 9 (Tp.cs (exT x))] (.ret (.bool true)))(hwk:∀w,w∈exK x->Pu 82 [.agg (exL w),.agg (exL w)] (.ret (.bool true)))(hwn:∀w,w∈exA x->Pu 97 [.sl 1 (nmsC (alNs w)),.sl 1 (nmsC (alNs w))] (.ret (.bool true)))(hwa:∀w,w∈exA x->Pu 82 [.agg (exL (alB w)),.agg (exL (alB w))] (.ret (.bool true)))(e:Ext)(hN:(exK x).length<=1000000000)(i:Nat)(hi0:i<=(exK x).length)  : (Ob.loop 117 (loopF f82 0) (seS_I x (i:Int)  e) (seS_q x e).1 (seS_q x e).2).ok prog:=by
 refine Ob.loop_of (P:=prog) (α:={ zz:Nat × Unit // zz.1<=(exK x).length }) (fun zz=>seS_I x (zz.1.1:Int)  e) (fun zz=>(exK x).length - zz.1.1) (fun zz=>(seS_q x e)) ?_ ⟨(i,()),hi0⟩
 clear hi0
 clear  i
 rintro ⟨⟨i,u⟩,hi⟩ cx hcx
 simp only at hi  ⊢
 rcases Nat.lt_or_ge i ((exK x).length) with hlt | hge
 ·have hd:=drop_at hlt
  exact seS_b1 x hwm hwt hwk hwn hwa i  e hlt hN   cx hcx (.inl ⟨rfl,⟨((i+1),()),by simp only; omega⟩,by simp only; omega,xr,by trivial⟩)
 ·have he:i=(exK x).length:=by omega
  subst he
  refine seS_z1 x hwm hwt hwk hwn hwa ((exK x).length)  e rfl hN   cx hcx (.inr ?_)
  exact ⟨by simp,rfl,xr⟩
theorem seS(x:Ex)(hwm:Pu 121 [.sl 10 (pmsC (exP x)),.sl 10 (pmsC (exP x))] (.ret (.bool true)))(hwt:Pu 122 [.sl 9 (Tp.cs (exT x)),.sl 9 (Tp.cs (exT x))] (.ret (.bool true)))(hwk:∀w,w∈exK x->Pu 82 [.agg (exL w),.agg (exL w)] (.ret (.bool true)))(hwn:∀w,w∈exA x->Pu 97 [.sl 1 (nmsC (alNs w)),.sl 1 (nmsC (alNs w))] (.ret (.bool true)))(hwa:∀w,w∈exA x->Pu 82 [.agg (exL (alB w)),.agg (exL (alB w))] (.ret (.bool true)))(e:Ext)(hN:(exK x).length<=1000000000)  : (Ob.loop 117 (loopF f82 0) (seS_I x 0  e) (seS_q x e).1 (seS_q x e).2).ok prog:=by
 have:=seS_lp x hwm hwt hwk hwn hwa e hN 0  (Nat.zero_le _)
 exact this
abbrev saS_I(x:Ex)(j:Int)(e:Ext):S:=S.mk [(2,.lp 2 0),(3,.lp 3 0),(6,vI6 j)] [(2,exV x),(3,exV x)] e
section
variable (x:Ex) (hwm:Pu 121 [.sl 10 (pmsC (exP x)),.sl 10 (pmsC (exP x))] (.ret (.bool true))) (hwt:Pu 122 [.sl 9 (Tp.cs (exT x)),.sl 9 (Tp.cs (exT x))] (.ret (.bool true))) (hwk:∀w,w∈exK x->Pu 82 [.agg (exL w),.agg (exL w)] (.ret (.bool true))) (hwn:∀w,w∈exA x->Pu 97 [.sl 1 (nmsC (alNs w)),.sl 1 (nmsC (alNs w))] (.ret (.bool true))) (hwa:∀w,w∈exA x->Pu 82 [.agg (exL (alB w)),.agg (exL (alB w))] (.ret (.bool true))) (hlk:(exK x).length<=1000000000) (i:Nat) (e:Ext)
include x hwm hwt hwk hwn hwa hlk i e
theorem saS_b1(hi:i<(exA x).length)(hN:(exA x).length<=1000000000)(cx:Cx)(hcx:cx.n=117){Q:PExit->S->Prop}(hq:Q (.normal) (S.mk [(2,.lp 2 0),(3,.lp 3 0),(6,vI6 ((i:Int)+1))] [(2,exV x),(3,exV x)] e)):PW prog cx (loopF f82 1) (saS_I x (i:Int) e) Q:=
 pw mdL 117 [sl (Al.cs_len (exA x)),dt ((i:Int)<((exA x).length:Int)),am ((0:Int)<=(i:Int)/\(i:Int)<((Al.cs (exA x)).length:Int)) qZ,xAl (exA x) i hi,am ((0:Int)<=(i:Int)/\(i:Int)<((Al.cs (exA x)).length:Int)) qZ,xAl (exA x) i hi,rp 5 (bf (!ByteArray.toList (alC (List.getD (exA x) i default))==ByteArray.toList (alC (List.getD (exA x) i default))) (bnF (bsT rF))),cl (@hwn (List.getD (exA x) i default) sA),rp 2 (bf (!ByteArray.toList (alC (List.getD (exA x) i default))==ByteArray.toList (alC (List.getD (exA x) i default))) (bnF (bsT rF))),rp 5 (bf false),cl (@hwa (List.getD (exA x) i default) sA),rp 3 (bf false),wr ((i:Int)+1)] [2,3,6,4] [2,3] hcx hq
theorem saS_z1(hi:i=(exA x).length)(hN:(exA x).length<=1000000000)(cx:Cx)(hcx:cx.n=117){Q:PExit->S->Prop}(hq:Q (.exit 2) (S.mk [(2,.lp 2 0),(3,.lp 3 0),(6,vI6 (i:Int))] [(2,exV x),(3,exV x)] e)):PW prog cx (loopF f82 1) (saS_I x (i:Int) e) Q:=
 pw mdL 117 [sl (Al.cs_len (exA x)),df ((i:Int)<((exA x).length:Int))] [2,3,6,4] [2,3] hcx hq
end
def saS_q(x:Ex)(e:Ext):PExit × S:=(.exit 2,S.mk [(2,.lp 2 0),(3,.lp 3 0)] [(2,exV x),(3,exV x)] e)
theorem saS_lp(x:Ex)(hwm:Pu 121 [.sl 10 (pmsC (exP x)),.sl 10 (pmsC (exP x))] (.ret (.bool true)))(hwt:Pu 122 [.sl 9 (Tp.cs (exT x)),.sl 9 (Tp.cs (exT x))] (.ret (.bool true)))(hwk:∀w,w∈exK x->Pu 82 [.agg (exL w),.agg (exL w)] (.ret (.bool true)))(hwn:∀w,w∈exA x->Pu 97 [.sl 1 (nmsC (alNs w)),.sl 1 (nmsC (alNs w))] (.ret (.bool true)))(hwa:∀w,w∈exA x->Pu 82 [.agg (exL (alB w)),.agg (exL (alB w))] (.ret (.bool true)))(hlk:(exK x).length<=1000000000)(e:Ext)(hN:(exA x).length<=1000000000)(i:Nat)(hi0:i<=(exA x).length)  : (Ob.loop 117 (loopF f82 1) (saS_I x (i:Int)  e) (saS_q x e).1 (saS_q x e).2).ok prog:=by
 refine Ob.loop_of (P:=prog) (α:={ zz:Nat × Unit // zz.1<=(exA x).length }) (fun zz=>saS_I x (zz.1.1:Int)  e) (fun zz=>(exA x).length - zz.1.1) (fun zz=>(saS_q x e)) ?_ ⟨(i,()),hi0⟩
 clear hi0
 clear  i
 rintro ⟨⟨i,u⟩,hi⟩ cx hcx
 simp only at hi  ⊢
 rcases Nat.lt_or_ge i ((exA x).length) with hlt | hge
 ·have hd:=drop_at hlt
  exact saS_b1 x hwm hwt hwk hwn hwa hlk i  e hlt hN   cx hcx (.inl ⟨rfl,⟨((i+1),()),by simp only; omega⟩,by simp only; omega,xr,by trivial⟩)
 ·have he:i=(exA x).length:=by omega
  subst he
  refine saS_z1 x hwm hwt hwk hwn hwa hlk ((exA x).length)  e rfl hN   cx hcx (.inr ?_)
  exact ⟨by simp,rfl,xr⟩
theorem saS(x:Ex)(hwm:Pu 121 [.sl 10 (pmsC (exP x)),.sl 10 (pmsC (exP x))] (.ret (.bool true)))(hwt:Pu 122 [.sl 9 (Tp.cs (exT x)),.sl 9 (Tp.cs (exT x))] (.ret (.bool true)))(hwk:∀w,w∈exK x->Pu 82 [.agg (exL w),.agg (exL w)] (.ret (.bool true)))(hwn:∀w,w∈exA x->Pu 97 [.sl 1 (nmsC (alNs w)),.sl 1 (nmsC (alNs w))] (.ret (.bool true)))(hwa:∀w,w∈exA x->Pu 82 [.agg (exL (alB w)),.agg (exL (alB w))] (.ret (.bool true)))(hlk:(exK x).length<=1000000000)(e:Ext)(hN:(exA x).length<=1000000000)  : (Ob.loop 117 (loopF f82 1) (saS_I x 0  e) (saS_q x e).1 (saS_q x e).2).ok prog:=by
 have:=saS_lp x hwm hwt hwk hwn hwa hlk e hN 0  (Nat.zero_le _)
 exact this
theorem rSameExpr(x:Ex)(hwm:Pu 121 [.sl 10 (pmsC (exP x)),.sl 10 (pmsC (exP x))] (.ret (.bool true)))(hwt:Pu 122 [.sl 9 (Tp.cs (exT x)),.sl 9 (Tp.cs (exT x))] (.ret (.bool true)))(hwk:∀w,w∈exK x->Pu 82 [.agg (exL w),.agg (exL w)] (.ret (.bool true)))(hwn:∀w,w∈exA x->Pu 97 [.sl 1 (nmsC (alNs w)),.sl 1 (nmsC (alNs w))] (.ret (.bool true)))(hwa:∀w,w∈exA x->Pu 82 [.agg (exL (alB w)),.agg (exL (alB w))] (.ret (.bool true)))(hlk:(exK x).length<=1000000000)(hla:(exA x).length<=1000000000):Pu 82 [.agg (exL x),.agg (exL x)] (rB true):=
 pu mdL (fun e=>[rp 6 (nn (exO x) (exO x)),rp 6 (bf (!ByteArray.toList (exNm x)==ByteArray.toList (exNm x)) (bnF (bsT rF))),rp 5 (nn (exN x) (exN x)),cl hwm,rp 2 (nn (exN x) (exN x)),rp 5 (bf false),cl hwt,rp 3 (bf false),rp 2 (sl (Ex.cs_len (exK x))),rp 3 (nn ((exK x).length:Int) ((exK x).length:Int)),sl (Al.cs_len (exA x)),rp 3 (nn ((exK x).length:Int) ((exK x).length:Int)),sl (Al.cs_len (exA x)),rp 2 (nn ((exK x).length:Int) ((exK x).length:Int)),nn ((exA x).length:Int) ((exA x).length:Int),lp (S.mk [(0,.v (.agg (exL x))),(1,.v (.agg (exL x))),(2,.lp 2 0),(3,.lp 3 0),(4,.v (.bool false)),(9,.lp 2 0),(10,vI6 (exO x)),(11,.lp 3 0),(12,vI6 (exO x)),(13,.v (.bool (exO x != exO x))),(14,.v (.bool (exO x != exO x))),(15,.lp 2 1),(16,vS (exNm x)),(17,.lp 3 1),(18,vS (exNm x)),(19,.v (.bool !ByteArray.toList (exNm x)==ByteArray.toList (exNm x))),(20,.v (.bool !ByteArray.toList (exNm x)==ByteArray.toList (exNm x))),(21,.v (.bool !ByteArray.toList (exNm x)==ByteArray.toList (exNm x))),(22,.lp 2 2),(23,vI6 (exN x)),(24,.lp 3 2),(25,vI6 (exN x)),(26,.v (.bool (exN x != exN x))),(27,.v (.bool (exN x != exN x))),(28,.v (.bool (exN x != exN x))),(29,.lp 2 4),(30,vL 10 (pmsC (exP x))),(31,.lp 3 4),(32,vL 10 (pmsC (exP x))),(33,.v (.bool true)),(34,.v (.bool false)),(35,.v (.bool false)),(36,.v (.bool false)),(37,.lp 2 6),(38,vL 9 (Tp.cs (exT x))),(39,.lp 3 6),(40,vL 9 (Tp.cs (exT x))),(41,.v (.bool true)),(42,.v (.bool false)),(43,.v (.bool false)),(44,.lp 2 3),(45,vL 7 (Ex.cs (exK x))),(46,vI6 ((exK x).length:Int)),(47,.lp 3 3),(48,vL 7 (Ex.cs (exK x))),(49,vI6 ((exK x).length:Int)),(50,.v (.bool (((exK x).length:Int) != ((exK x).length:Int)))),(51,.v (.bool (((exK x).length:Int) != ((exK x).length:Int)))),(52,.lp 2 5),(53,vL 9 (Al.cs (exA x))),(54,vI6 ((exA x).length:Int)),(55,.lp 3 5),(56,vL 9 (Al.cs (exA x))),(57,vI6 ((exA x).length:Int)),(58,.v (.bool (((exA x).length:Int) != ((exA x).length:Int)))),(59,.v (.bool (((exA x).length:Int) != ((exA x).length:Int)))),(5,vI6 0)] [(2,exV x),(3,exV x)] e) (@seS (x) hwm hwt hwk hwn hwa (e) hlk) xr,lq (@saS (x) hwm hwt hwk hwn hwa hlk (e) hla)]) func82
abbrev sbS_I(l:List Ex)(j:Int)(e:Ext):S:=S.mk [(0,vL 7 (Ex.cs l)),(1,vL 7 (Ex.cs l)),(5,vI6 j)] [] e
section
variable (l:List Ex) (hwk:∀w,w∈l->Pu 82 [.agg (exL w),.agg (exL w)] (.ret (.bool true))) (i:Nat) (e:Ext)
include l hwk i e
theorem sbS_b1(hi:i<l.length)(hN:l.length<=1000000000)(cx:Cx)(hcx:cx.n=27){Q:PExit->S->Prop}(hq:Q (.normal) (S.mk [(0,vL 7 (Ex.cs l)),(1,vL 7 (Ex.cs l)),(5,vI6 ((i:Int)+1))] [] e)):PW prog cx (loopF f54 0) (sbS_I l (i:Int) e) Q:=
 pw mdL 27 [sl (Ex.cs_len l),dt ((i:Int)<(l.length:Int)),am ((0:Int)<=(i:Int)/\(i:Int)<((Ex.cs l).length:Int)) qZ,xEx l i hi,am ((0:Int)<=(i:Int)/\(i:Int)<((Ex.cs l).length:Int)) qZ,xEx l i hi,cl (@hwk (List.getD l i default) sA),bf false,wr ((i:Int)+1)] [0,1,5,4] [] hcx hq
theorem sbS_z1(hi:i=l.length)(hN:l.length<=1000000000)(cx:Cx)(hcx:cx.n=27){Q:PExit->S->Prop}(hq:Q (.exit 0) (S.mk [(0,vL 7 (Ex.cs l)),(1,vL 7 (Ex.cs l)),(5,vI6 (i:Int))] [] e)):PW prog cx (loopF f54 0) (sbS_I l (i:Int) e) Q:=
 pw mdL 27 [sl (Ex.cs_len l),df ((i:Int)<(l.length:Int))] [0,1,5,4] [] hcx hq
end
def sbS_q(l:List Ex)(e:Ext):PExit × S:=(.exit 0,S.mk [(0,vL 7 (Ex.cs l)),(1,vL 7 (Ex.cs l))] [] e)
theorem sbS_lp(l:List Ex)(hwk:∀w,w∈l->Pu 82 [.agg (exL w),.agg (exL w)] (.ret (.bool true)))(e:Ext)(hN:l.length<=1000000000)(i:Nat)(hi0:i<=l.length)  : (Ob.loop 27 (loopF f54 0) (sbS_I l (i:Int)  e) (sbS_q l e).1 (sbS_q l e).2).ok prog:=by
 refine Ob.loop_of (P:=prog) (α:={ zz:Nat × Unit // zz.1<=l.length }) (fun zz=>sbS_I l (zz.1.1:Int)  e) (fun zz=>l.length - zz.1.1) (fun zz=>(sbS_q l e)) ?_ ⟨(i,()),hi0⟩
 clear hi0
 clear  i
 rintro ⟨⟨i,u⟩,hi⟩ cx hcx
 simp only at hi  ⊢
 rcases Nat.lt_or_ge i (l.length) with hlt | hge
 ·have hd:=drop_at hlt
  exact sbS_b1 l hwk i  e hlt hN   cx hcx (.inl ⟨rfl,⟨((i+1),()),by simp only; omega⟩,by simp only; omega,xr,by trivial⟩)
 ·have he:i=l.length:=by omega
  subst he
  refine sbS_z1 l hwk (l.length)  e rfl hN   cx hcx (.inr ?_)
  exact ⟨by simp,rfl,xr⟩
theorem sbS(l:List Ex)(hwk:∀w,w∈l->Pu 82 [.agg (exL w),.agg (exL w)] (.ret (.bool true)))(e:Ext)(hN:l.length<=1000000000)  : (Ob.loop 27 (loopF f54 0) (sbS_I l 0  e) (sbS_q l e).1 (sbS_q l e).2).ok prog:=by
 have:=sbS_lp l hwk e hN 0  (Nat.zero_le _)
 exact this
theorem rSameBodies(l:List Ex)(hwk:∀w,w∈l->Pu 82 [.agg (exL w),.agg (exL w)] (.ret (.bool true)))(hll:l.length<=1000000000):Pu 54 [.sl 7 (Ex.cs l),.sl 7 (Ex.cs l)] (rB true):=
 pu mdL (fun e=>[rp 2 (sl (Ex.cs_len l)),nn (l.length:Int) (l.length:Int),lp (S.mk [(0,vL 7 (Ex.cs l)),(1,vL 7 (Ex.cs l)),(4,.v (.bool false)),(6,vL 7 (Ex.cs l)),(7,vI6 (l.length:Int)),(8,vL 7 (Ex.cs l)),(9,vI6 (l.length:Int)),(10,.v (.bool ((l.length:Int) != (l.length:Int)))),(5,vI6 0)] [] e) (@sbS (l) hwk (e) hll) xr]) func54
def szP(x:Pr):Nat:=bulkPs (prL x)
def szT(x:Tp):Nat:=bulkPs (tpL x)
theorem szP_eq(x:Pr):szP x=(prNm x).size+bulkPss (Pr.cs (prK x))+4:=by simp only [szP,bulkPs,bulkP]; omega
theorem szT_eq(x:Tp):szT x=(tpNm x).size+bulkPss (Tp.cs (tpA x))+bulkPss (nmsC (tpNs x))+szP (tpP x)+bulkPss (Pr.cs (tpPs x))+5:=by simp only [szT,szP,bulkPs,bulkP]; omega
theorem prs_bulk(l:List Pr):l.length<=bulkPss (Pr.cs l):=by
 have:=len_bulk (l:=Pr.cs l) fun c hc=>by
  rw [Pr.cs_eq] at hc
  obtain ⟨x,-,rfl⟩:=List.mem_map.1 hc
  have:=szP_eq x
  unfold szP at this
  omega
 rwa [Pr.cs_len] at this
theorem tps_bulk(l:List Tp):l.length<=bulkPss (Tp.cs l):=by
 have:=len_bulk (l:=Tp.cs l) fun c hc=>by
  rw [Tp.cs_eq] at hc
  obtain ⟨x,-,rfl⟩:=List.mem_map.1 hc
  have:=szT_eq x
  unfold szT at this
  omega
 rwa [Tp.cs_len] at this
theorem pr_bulk{l:List Pr}{w:Pr}(h:w∈l):szP w<=bulkPss (Pr.cs l):=mem_bulk (by rw [Pr.cs_eq]; exact List.mem_map_of_mem h)
theorem tp_bulk{l:List Tp}{w:Tp}(h:w∈l):szT w<=bulkPss (Tp.cs l):=mem_bulk (by rw [Tp.cs_eq]; exact List.mem_map_of_mem h)
theorem pm_bulk{l:List Pm}{w:Pm}(h:w∈l):szT (pmT w)<=bulkPss (pmsC l):=by
 have h1:=mem_bulk (l:=pmsC l) (c:=pmL w) (by rw [pmsC_eq]; exact List.mem_map_of_mem h)
 have:bulkPs (pmL w)=(pmNm w).size+1+szT (pmT w):=by simp only [bulkPs,bulkP,szT]
 omega
theorem samePred_ok:∀ (d:Nat) (x:Pr),szP x<d->szP x<=100000000->Pu 160 [.agg (prL x),.agg (prL x)] (.ret (.bool true))
 | 0,_,h,_=>by omega
 | d+1,x,h,hs=>by
  have h1:=szP_eq x
  have h2:=prs_bulk (prK x)
  exact rSamePred x (fun w hw=>samePred_ok d w (by have:=pr_bulk hw; omega) (by have:=pr_bulk hw; omega)) oM
theorem sameType_ok:∀ (d:Nat) (x:Tp),szT x<d->szT x<=100000000->Pu 144 [.agg (tpL x),.agg (tpL x)] (.ret (.bool true))
 | 0,_,h,_=>by omega
 | d+1,x,h,hs=>by
  have h1:=szT_eq x
  have h2:=prs_bulk (tpPs x)
  have h3:=tps_bulk (tpA x)
  have h4:=nms_bulk (tpNs x)
  exact rSameType x (fun w hw=>samePred_ok _ w (Nat.lt_succ_self _) (by have:=pr_bulk hw; omega)) (samePred_ok _ _ (Nat.lt_succ_self _) oM) (rSameNames _ oM) (rSameTypes _ (fun w hw=>sameType_ok d w (by have:=tp_bulk hw; omega) (by have:=tp_bulk hw; omega)) oM) oM
theorem sameExpr_ok:∀ (d:Nat) (x:Ex),szE x<d->szE x<=100000000->Pu 82 [.agg (exL x),.agg (exL x)] (.ret (.bool true))
 | 0,_,h,_=>by omega
 | d+1,x,h,hs=>by
  have h1:=szE_eq x
  have h2:=kids_bulk (exK x)
  have h3:=alts_bulk (exA x)
  have h4:=pms_bulk (exP x)
  have h5:=tps_bulk (exT x)
  refine rSameExpr x (rSameParams _ (fun t ht=>?_) oM) (rSameTypes _ (fun w hw=>sameType_ok _ w (Nat.lt_succ_self _) (by have:=tp_bulk hw; omega)) oM) (fun w hw=>sameExpr_ok d w (by have:=exs_bulk hw; omega) (by have:=exs_bulk hw; omega)) (fun w hw=>rSameNames _ ?_) (fun w hw=>sameExpr_ok d (alB w) (by have:=alt_bulk hw; omega) (by have:=alt_bulk hw; omega)) oM oM
  ·obtain ⟨w,hw,rfl⟩:=List.mem_map.1 ht
   exact sameType_ok _ _ (Nat.lt_succ_self _) (by have:=pm_bulk hw; omega)
  ·have h6:=mem_bulk (l:=Al.cs (exA x)) (c:=alL w) (by rw [Al.cs_eq]; exact List.mem_map_of_mem hw)
   have h7:bulkPs (alL w)=(alC w).size+1+(bulkPss (nmsC (alNs w))+1+szE (alB w)):=by simp only [bulkPs,bulkP,szE]
   have h8:=nms_bulk (alNs w)
   omega
abbrev sC:BA:=ByteArray.mk #[99]
abbrev sD:BA:=ByteArray.mk #[100]
abbrev kV(s:BA):Ex := .mk 3 s 0 [] [] [] []
abbrev kN(k:Int):Ex := .mk 1 nm0 k [] [] [] []
abbrev kT(op:Int)(a b:Ex):Ex := .mk op nm0 0 [a,b] [] [] []
abbrev kL:Ex := .mk 7 sD 0 [kT 24 (kV sC) (kN 2),.mk 23 nm0 0 [kV sC] [] [] []] [] [] []
end Go.Proofs.YtgonmmckkikmaaaGreat
