/- Values of Go as plain data, an evaluator over them, and what the functions of the program return; part q. -/
import Derived.Test.YtgonmmckkikmaaaGreatXp
import Derived.Test.YtgonmmckkikmaaaGreatXg
import Derived.Test.YtgonmmckkikmaaaGreatXh
import Derived.Test.YtgonmmckkikmaaaGreatXi
import Derived.Test.YtgonmmckkikmaaaGreatXl
set_option linter.unusedSectionVars false
set_option linter.unusedSimpArgs false
set_option linter.unusedVariables false
namespace Go.Proofs.YtgonmmckkikmaaaGreat
open Go.Pv
set_option maxRecDepth 100000
theorem getD_memE {l:List Ex} {i:Nat} (h:i<l.length):l.getD i default∈l:=by simp [List.getD,h]
abbrev bdS_I (x:Ex) (j:Int) (out:List Ex) (e:Ext):S:=S.mk [(1,.lp 1 0),(2,.v .nilsl),(3,.uniq 37 7 (Ex.cs out)),(4,vI6 j)] [(1,exV x)] e
section
variable (x:Ex) (hk:(exK x).length<=1000000000) (hA:(exA x).length<=1000000000) (i:Nat) (out:List Ex) (e:Ext)
include x hk hA i out e
theorem bdS_b1 (hi:i<(exA x).length) (hN:(exA x).length<=1000000000) (hv:(out.length<=1000000000+i)) (cx:Cx) (hcx:cx.n=26) {Q:PExit->S->Prop} (hq:Q (.normal) (S.mk [(1,.lp 1 0),(2,.v .nilsl),(3,.uniq 37 7 (Ex.cs out++[List.take (TypeInfo.size (Tables.types (Program.toTables Tryz.prog))[37]) (List.drop (0+Field.offset #[Field.mk "Con" 9 0 false "" "" 0,Field.mk "Names" 50 1 false "" "" 16,Field.mk "Body" 37 2 false "" "" 40][2]) (alL (List.getD (exA x) i default)))])),(4,vI6 ((i:Int)+1))] [(1,exV x)] e)):PW Tryz.prog cx (loopF Tryz.f32 0) (bdS_I x (i:Int) out e) Q:=
 pw mdL 26 [sl (Al.cs_len (exA x)),dt ((i:Int)<((exA x).length:Int)),am ((0:Int)<=(i:Int)/\(i:Int)<((Al.cs (exA x)).length:Int)) (by (simp only [Al.cs_len]; omega)),xAl (exA x) i hi,am (List.length (Ex.cs out++(fun x=>Prod.snd x) (6+1,[List.take ((fun x=>TypeInfo.size x) (Tables.types (Program.toTables Tryz.prog))[37]) (List.drop (0+Field.offset #[Field.mk "Con" 9 0 false "" "" 0,Field.mk "Names" 50 1 false "" "" 16,Field.mk "Body" 37 2 false "" "" 40][2]) (alL (List.getD (exA x) i default)))])) * (127+1)<=140737488355328) (by (simp only [List.length_append,List.length_cons,List.length_nil,Ex.cs_len,Al.cs_len,nmsC_len,pmsC_len,Tp.cs_len]; omega)),wr ((i:Int)+1)] [1,2,3,4] [1] hcx hq
theorem bdS_z1 (hi:i=(exA x).length) (hN:(exA x).length<=1000000000) (hv:(out.length<=1000000000+i)) (cx:Cx) (hcx:cx.n=26) {Q:PExit->S->Prop} (hq:Q (.exit 0) (S.mk [(1,.lp 1 0),(2,.v .nilsl),(3,.uniq 37 7 (Ex.cs out)),(4,vI6 (i:Int))] [(1,exV x)] e)):PW Tryz.prog cx (loopF Tryz.f32 0) (bdS_I x (i:Int) out e) Q:=
 pw mdL 26 [sl (Al.cs_len (exA x)),df ((i:Int)<((exA x).length:Int))] [1,2,3,4] [1] hcx hq
end
def bdS_f  : List Al->(List Ex)->(List Ex)
 | [],out=>(out)
 | el::r,out=>bdS_f  r (out++[alB el])
def bdS_q (x:Ex) (e:Ext) (p:(List Ex)):PExit × S:=(.exit 0,S.mk [(1,.lp 1 0),(2,.v .nilsl),(3,.uniq 37 7 (Ex.cs p))] [(1,exV x)] e)
theorem bdS_lp (x:Ex) (hk:(exK x).length<=1000000000) (hA:(exA x).length<=1000000000) (e:Ext) (hN:(exA x).length<=1000000000) (i:Nat) (out:List Ex) (hi0:i<=(exA x).length) (hv:(out.length<=1000000000+i)):(Ob.loop 26 (loopF Tryz.f32 0) (bdS_I x (i:Int) out e) (bdS_q x e (bdS_f  (List.drop i ((exA x)))  out)).1 (bdS_q x e (bdS_f  (List.drop i ((exA x)))  out)).2).ok Tryz.prog:=by
 refine Ob.loop_of (P:=Tryz.prog) (α:={ zz:Nat × (List Ex) // zz.1<=(exA x).length/\(fun (i:Nat) (out:List Ex)=>(out.length<=1000000000+i)) zz.1 zz.2 }) (fun zz=>bdS_I x (zz.1.1:Int) zz.1.2 e) (fun zz=>(exA x).length - zz.1.1) (fun zz=>(bdS_q x e (bdS_f  (List.drop zz.1.1 ((exA x)))  zz.1.2))) ?_ ⟨(i,out),hi0,hv⟩
 clear hi0 hv
 clear out i
 rintro ⟨⟨i,out⟩,hi,hv⟩ cx hcx
 simp only at hi hv ⊢
 rcases Nat.lt_or_ge i ((exA x).length) with hlt | hge
 ·have hd:=drop_at hlt
  have hr:(bdS_f  (List.drop i ((exA x)))  out)=(bdS_f  (List.drop (i+1) ((exA x)))  (out++[alB (List.getD (exA x) i default)])):=by rw [hd,bdS_f]
  exact bdS_b1 x hk hA i out e hlt hN hv  cx hcx (.inl ⟨rfl,⟨((i+1),(out++[alB (List.getD (exA x) i default)])),by simp only; omega,(by first | assumption | omega | (simp only [List.length_append,List.length_cons,List.length_nil] at *; omega) | simp_all)⟩,by simp only; omega,⟨⟨W,W,(.inl (by first | (simp only [List.nil_append,nmsC_app,nmsC_snoc,Ex.cs_snoc,Vl.cs_snoc,Bd.cs_snoc,Bd.cs_snoc2]; done) | (simp only [List.nil_append,nmsC_app,nmsC_snoc,Ex.cs_snoc,Vl.cs_snoc,Bd.cs_snoc,Bd.cs_snoc2]; rfl))),W,trivial⟩,⟨Ws,trivial⟩,rfl⟩,by simp only; rw [hr]⟩)
 ·have he:i=(exA x).length:=by omega
  subst he
  have hr:(bdS_f  (List.drop ((exA x).length) ((exA x)))  out)=(out):=by rw [List.drop_length,bdS_f]
  refine bdS_z1 x hk hA ((exA x).length) out e rfl hN hv  cx hcx (.inr ?_)
  rw [hr]
  exact ⟨by simp,rfl,⟨⟨W,W,W,trivial⟩,⟨Ws,trivial⟩,rfl⟩⟩
theorem bdS (x:Ex) (hk:(exK x).length<=1000000000) (hA:(exA x).length<=1000000000) (out:List Ex) (e:Ext) (hN:(exA x).length<=1000000000) (hv:List.length out<=1000000000+0):(Ob.loop 26 (loopF Tryz.f32 0) (bdS_I x 0 out e) (bdS_q x e (bdS_f  ((exA x))  out)).1 (bdS_q x e (bdS_f  ((exA x))  out)).2).ok Tryz.prog:=by
 have:=bdS_lp x hk hA e hN 0 out (Nat.zero_le _) hv
 rw [List.drop_zero] at this
 exact this
theorem rBodies (x:Ex) (hk:(exK x).length<=1000000000) (hA:(exA x).length<=1000000000):Pu 32 ([.agg (exL x)]) (.ret (.sl 7 (Ex.cs (bdS_f (exA x) (exK x))))):=
 pu mdL (fun e=>[am (List.length ([]++(fun x=>Prod.snd x) (7,Ex.cs (exK x))) * (127+1)<=140737488355328) (by (simp only [List.length_append,List.length_nil,Ex.cs_len]; omega)),lp (S.mk [(0,.v (.agg (exL x))),(1,.lp 1 0),(2,.v .nilsl),(5,LV.full 7 []),(6,.lp 1 3),(7,vL 7 (Ex.cs (exK x))),(8,vL 7 ([]++Ex.cs (exK x))),(3,.uniq 37 7 ([]++Ex.cs (exK x))),(4,vI6 0)] [(1,exV x)] e) (@bdS (x) hk hA (exK x) (e) hA hk) ⟨⟨W,W,(by first | exact .inl rfl | exact .inr ⟨rfl,rfl⟩ | exact .inr rfl | exact .inr trivial | exact .inl (by first | (simp only [List.nil_append,nmsC_app,nmsC_snoc,Ex.cs_snoc,Vl.cs_snoc,Bd.cs_snoc,Bd.cs_snoc2]; done) | (simp only [List.nil_append,nmsC_app,nmsC_snoc,Ex.cs_snoc,Vl.cs_snoc,Bd.cs_snoc,Bd.cs_snoc2]; rfl))),W,trivial⟩,⟨⟨W,W,W,W,W,W,W,trivial⟩,trivial⟩,rfl⟩]) Tryz.func32
abbrev ndS_I (x:Ex) (ks:List Ex) (nf:Ex->Int) (j:Int) (m:Int) (e:Ext):S:=S.mk [(2,vI6 0),(3,vI6 m),(4,vL 7 (Ex.cs ks)),(5,vI6 j)] [] e
section
variable (x:Ex) (ks:List Ex) (hB:Pu 32 [.agg (exL x)] (.ret (.sl 7 (Ex.cs ks)))) (hks:ks.length<=2000000000) (nf:Ex->Int) (hR:∀y,y∈ks->Pu 9 [.agg (exL y)] (.ret (.int .i64 (nf y)))) (i:Nat) (m:Int) (e:Ext)
include x ks hB hks nf hR i m e
theorem ndS_b1 (hi:i<ks.length) (hN:ks.length<=1000000000) (cx:Cx) (hcx:cx.n=22) {Q:PExit->S->Prop} (hq:Q (.normal) (S.mk [(2,vI6 0),(3,vI6 (IntKind.wrap .i64 (m+nf (List.getD ks i default)))),(4,vL 7 (Ex.cs ks)),(5,vI6 ((i:Int)+1))] [] e)):PW Tryz.prog cx (loopF Tryz.f9 0) (ndS_I x ks nf (i:Int) m e) Q:=
 pw mdL 22 [sl (Ex.cs_len ks),dt ((i:Int)<(ks.length:Int)),am ((0:Int)<=(i:Int)/\(i:Int)<((Ex.cs ks).length:Int)) (by (simp only [Ex.cs_len]; omega)),xEx ks i hi,cl (@hR (List.getD ks i default) (by simp_all)),kp,wr ((i:Int)+1)] [2,3,4,5] [] hcx hq
theorem ndS_z1 (hi:i=ks.length) (hN:ks.length<=1000000000) (cx:Cx) (hcx:cx.n=22) {Q:PExit->S->Prop} (hq:Q (.exit 0) (S.mk [(2,vI6 0),(3,vI6 m),(4,vL 7 (Ex.cs ks)),(5,vI6 (i:Int))] [] e)):PW Tryz.prog cx (loopF Tryz.f9 0) (ndS_I x ks nf (i:Int) m e) Q:=
 pw mdL 22 [sl (Ex.cs_len ks),df ((i:Int)<(ks.length:Int))] [2,3,4,5] [] hcx hq
end
def ndS_f (nf:Ex->Int):List Ex->(Int)->(Int)
 | [],m=>(m)
 | el::r,m=>ndS_f nf r (IntKind.wrap .i64 (m+nf el))
def ndS_q (x:Ex) (ks:List Ex) (nf:Ex->Int) (e:Ext) (p:(Int)):PExit × S:=(.exit 0,S.mk [(2,vI6 0),(3,vI6 p),(4,vL 7 (Ex.cs ks))] [] e)
theorem ndS_lp (x:Ex) (ks:List Ex) (hB:Pu 32 [.agg (exL x)] (.ret (.sl 7 (Ex.cs ks)))) (hks:ks.length<=2000000000) (nf:Ex->Int) (hR:∀y,y∈ks->Pu 9 [.agg (exL y)] (.ret (.int .i64 (nf y)))) (e:Ext) (hN:ks.length<=1000000000) (i:Nat) (m:Int) (hi0:i<=ks.length)  : (Ob.loop 22 (loopF Tryz.f9 0) (ndS_I x ks nf (i:Int) m e) (ndS_q x ks nf e (ndS_f nf (List.drop i (ks))  m)).1 (ndS_q x ks nf e (ndS_f nf (List.drop i (ks))  m)).2).ok Tryz.prog:=by
 refine Ob.loop_of (P:=Tryz.prog) (α:={ zz:Nat × (Int) // zz.1<=ks.length }) (fun zz=>ndS_I x ks nf (zz.1.1:Int) zz.1.2 e) (fun zz=>ks.length - zz.1.1) (fun zz=>(ndS_q x ks nf e (ndS_f nf (List.drop zz.1.1 (ks))  zz.1.2))) ?_ ⟨(i,m),hi0⟩
 clear hi0
 clear m i
 rintro ⟨⟨i,m⟩,hi⟩ cx hcx
 simp only at hi  ⊢
 rcases Nat.lt_or_ge i (ks.length) with hlt | hge
 ·have hd:=drop_at hlt
  have hr:(ndS_f nf (List.drop i (ks))  m)=(ndS_f nf (List.drop (i+1) (ks))  (IntKind.wrap .i64 (m+nf (List.getD ks i default)))):=by rw [hd,ndS_f]
  exact ndS_b1 x ks hB hks nf hR i m e hlt hN   cx hcx (.inl ⟨rfl,⟨((i+1),(IntKind.wrap .i64 (m+nf (List.getD ks i default)))),by simp only; omega⟩,by simp only; omega,⟨⟨W,W,W,W,trivial⟩,trivial,rfl⟩,by simp only; rw [hr]⟩)
 ·have he:i=ks.length:=by omega
  subst he
  have hr:(ndS_f nf (List.drop (ks.length) (ks))  m)=(m):=by rw [List.drop_length,ndS_f]
  refine ndS_z1 x ks hB hks nf hR (ks.length) m e rfl hN   cx hcx (.inr ?_)
  rw [hr]
  exact ⟨by simp,rfl,⟨⟨W,W,W,trivial⟩,trivial,rfl⟩⟩
theorem ndS (x:Ex) (ks:List Ex) (hB:Pu 32 [.agg (exL x)] (.ret (.sl 7 (Ex.cs ks)))) (hks:ks.length<=2000000000) (nf:Ex->Int) (hR:∀y,y∈ks->Pu 9 [.agg (exL y)] (.ret (.int .i64 (nf y)))) (m:Int) (e:Ext) (hN:ks.length<=1000000000)  : (Ob.loop 22 (loopF Tryz.f9 0) (ndS_I x ks nf 0 m e) (ndS_q x ks nf e (ndS_f nf (ks)  m)).1 (ndS_q x ks nf e (ndS_f nf (ks)  m)).2).ok Tryz.prog:=by
 have:=ndS_lp x ks hB hks nf hR e hN 0 m (Nat.zero_le _)
 rw [List.drop_zero] at this
 exact this
theorem rNodes (x:Ex) (ks:List Ex) (hB:Pu 32 [.agg (exL x)] (.ret (.sl 7 (Ex.cs ks)))) (hks:ks.length<=2000000000) (nf:Ex->Int) (hR:∀y,y∈ks->Pu 9 [.agg (exL y)] (.ret (.int .i64 (nf y)))) (hx0:List.length ks<=1000000000):Pu 9 ([.agg (exL x)]) (rI (ndS_f nf ks 1)):=
 pu mdL (fun e=>[cl hB,lp (S.mk [(0,.v (.agg (exL x))),(1,.lp 1 0),(2,vI6 0),(3,vI6 1),(6,.v (.agg (exL x))),(7,vL 7 (Ex.cs ks)),(4,vL 7 (Ex.cs ks)),(5,vI6 0)] [(1,exV x)] e) (@ndS (x) (ks) hB hks (nf) hR (1) (e) hx0) ⟨⟨W,W,W,W,trivial⟩,trivial,rfl⟩]) Tryz.func9
theorem bdS_eq:∀ (bs:List Al) (out:List Ex),bdS_f bs out=out++bs.map alB
 | [],out=>by simp [bdS_f]
 | a::r,out=>by simp [bdS_f,bdS_eq r]
theorem bod_lt {x y:Ex} (h:y∈bdS_f (exA x) (exK x)):szE y<szE x:=by
 have h1:=szE_eq x
 rw [bdS_eq,List.mem_append,List.mem_map] at h
 rcases h with h | ⟨a,h,rfl⟩
 ·have:=kid_bulk h; omega
 ·have:=alt_bulk h; omega
def ndD:Nat->Ex->Int
 | 0,_=>0
 | d+1,x=>ndS_f (ndD d) (bdS_f (exA x) (exK x)) 1
theorem nodes_ok:∀ (d:Nat) (x:Ex),szE x<d->szE x<=100000000->Pu 9 [.agg (exL x)] (.ret (.int .i64 (ndD d x)))
 | 0,x,h,_=>by omega
 | d+1,x,h,hs=>by
  have h1:=szE_eq x
  have h2:=kids_bulk (exK x)
  have h4:=alts_bulk (exA x)
  have hl:(bdS_f (exA x) (exK x)).length<=1000000000:=by rw [bdS_eq,List.length_append,List.length_map]; omega
  exact rNodes x _ (rBodies x (by omega) (by omega)) (by omega) (ndD d) (fun y hy=>nodes_ok d y (by have:=bod_lt hy; omega) (by have:=bod_lt hy; omega)) hl
def nodes (x:Ex):Int:=ndD (szE x+1) x
theorem rNodesT {x:Ex} (hs:szE x<=100000000):Pu 9 [.agg (exL x)] (.ret (.int .i64 (nodes x))):=nodes_ok _ x (by omega) hs
abbrev paA_I (v:Vl) (pf:Vl->Int->Int) (n0:Int) (j:Int) (m:Int) (e:Ext):S:=S.mk [(1,vI6 n0),(2,.lp 2 0),(4,vI6 0),(5,vI6 m),(6,vI6 j)] [(2,vlV v)] e
section
variable (v:Vl) (pf:Vl->Int->Int) (hwk:∀ (w:Vl) (m:Int),w∈vlK v->Pu 33 [.agg (vlL w),.int .i64 m] (.ret (.int .i64 (pf w m)))) (n0:Int) (i:Nat) (m:Int) (e:Ext)
include v pf hwk n0 i m e
theorem paA_b1 (hi:i<(vlK v).length) (hN:(vlK v).length<=1000000000) (hx0:m<n0) (cx:Cx) (hcx:cx.n=72) {Q:PExit->S->Prop} (hq:Q (.normal) (S.mk [(1,vI6 n0),(2,.lp 2 0),(4,vI6 0),(5,vI6 (IntKind.wrap .i64 (m+pf (List.getD (vlK v) i default) (IntKind.wrap .i64 (n0 - m))))),(6,vI6 ((i:Int)+1))] [(2,vlV v)] e)):PW Tryz.prog cx (loopF Tryz.f33 0) (paA_I v pf n0 (i:Int) m e) Q:=
 pw mdL 72 [sl (Vl.cs_len (vlK v)),rp 4 (dt ((i:Int)<((vlK v).length:Int))),dt (m<n0) hx0,am ((0:Int)<=(i:Int)/\(i:Int)<((Vl.cs (vlK v)).length:Int)) (by (simp only [Vl.cs_len]; omega)),xVl (vlK v) i hi,kp,cl (@hwk (List.getD (vlK v) i default) (IntKind.wrap .i64 (n0 - m)) (by simp_all)),kp,wr ((i:Int)+1)] [1,2,4,5,6] [2] hcx hq
theorem paA_b2 (hi:i<(vlK v).length) (hN:(vlK v).length<=1000000000) (hx0:¬m<n0) (cx:Cx) (hcx:cx.n=72) {Q:PExit->S->Prop} (hq:Q (.exit 0) (S.mk [(1,vI6 n0),(2,.lp 2 0),(4,vI6 0),(5,vI6 m),(6,vI6 (i:Int))] [(2,vlV v)] e)):PW Tryz.prog cx (loopF Tryz.f33 0) (paA_I v pf n0 (i:Int) m e) Q:=
 pw mdL 72 [sl (Vl.cs_len (vlK v)),rp 4 (dt ((i:Int)<((vlK v).length:Int))),df (m<n0) hx0] [1,2,4,5,6] [2] hcx hq
theorem paA_z1 (hi:i=(vlK v).length) (hN:(vlK v).length<=1000000000) (cx:Cx) (hcx:cx.n=72) {Q:PExit->S->Prop} (hq:Q (.exit 0) (S.mk [(1,vI6 n0),(2,.lp 2 0),(4,vI6 0),(5,vI6 m),(6,vI6 (i:Int))] [(2,vlV v)] e)):PW Tryz.prog cx (loopF Tryz.f33 0) (paA_I v pf n0 (i:Int) m e) Q:=
 pw mdL 72 [sl (Vl.cs_len (vlK v)),rp 4 (df ((i:Int)<((vlK v).length:Int))),bf false] [1,2,4,5,6] [2] hcx hq
end
def paA_f (pf:Vl->Int->Int) (n0:Int):List Vl->(Int)->(Int)
 | [],m=>(m)
 | el::r,m=>(if m<n0 then paA_f pf n0 r (IntKind.wrap .i64 (m+pf el (IntKind.wrap .i64 (n0 - m)))) else (m))
def paA_q (v:Vl) (pf:Vl->Int->Int) (n0:Int) (e:Ext) (p:(Int)):PExit × S:=(.exit 0,S.mk [(1,vI6 n0),(2,.lp 2 0),(4,vI6 0),(5,vI6 p)] [(2,vlV v)] e)
theorem paA_lp (v:Vl) (pf:Vl->Int->Int) (hwk:∀ (w:Vl) (m:Int),w∈vlK v->Pu 33 [.agg (vlL w),.int .i64 m] (.ret (.int .i64 (pf w m)))) (n0:Int) (e:Ext) (hN:(vlK v).length<=1000000000) (i:Nat) (m:Int) (hi0:i<=(vlK v).length)  : (Ob.loop 72 (loopF Tryz.f33 0) (paA_I v pf n0 (i:Int) m e) (paA_q v pf n0 e (paA_f pf n0 (List.drop i ((vlK v)))  m)).1 (paA_q v pf n0 e (paA_f pf n0 (List.drop i ((vlK v)))  m)).2).ok Tryz.prog:=by
 refine Ob.loop_of (P:=Tryz.prog) (α:={ zz:Nat × (Int) // zz.1<=(vlK v).length }) (fun zz=>paA_I v pf n0 (zz.1.1:Int) zz.1.2 e) (fun zz=>(vlK v).length - zz.1.1) (fun zz=>(paA_q v pf n0 e (paA_f pf n0 (List.drop zz.1.1 ((vlK v)))  zz.1.2))) ?_ ⟨(i,m),hi0⟩
 clear hi0
 clear m i
 rintro ⟨⟨i,m⟩,hi⟩ cx hcx
 simp only at hi  ⊢
 rcases Nat.lt_or_ge i ((vlK v).length) with hlt | hge
 ·have hd:=drop_at hlt
  by_cases h0:m<n0
  ·have hr:(paA_f pf n0 (List.drop i ((vlK v)))  m)=(paA_f pf n0 (List.drop (i+1) ((vlK v)))  (IntKind.wrap .i64 (m+pf (List.getD (vlK v) i default) (IntKind.wrap .i64 (n0 - m))))):=by rw [hd,paA_f,if_pos h0]
   exact paA_b1 v pf hwk n0 i m e hlt hN  h0 cx hcx (.inl ⟨rfl,⟨((i+1),(IntKind.wrap .i64 (m+pf (List.getD (vlK v) i default) (IntKind.wrap .i64 (n0 - m))))),by simp only; omega⟩,by simp only; omega,⟨⟨W,W,W,W,W,trivial⟩,⟨Ws,trivial⟩,rfl⟩,by simp only; rw [hr]⟩)
  ·have hr:(paA_f pf n0 (List.drop i ((vlK v)))  m)=(m):=by rw [hd,paA_f,if_neg h0]
   refine paA_b2 v pf hwk n0 i m e hlt hN  h0 cx hcx (.inr ?_)
   rw [hr]
   exact ⟨by simp,rfl,⟨⟨W,W,W,W,trivial⟩,⟨Ws,trivial⟩,rfl⟩⟩
 ·have he:i=(vlK v).length:=by omega
  subst he
  have hr:(paA_f pf n0 (List.drop ((vlK v).length) ((vlK v)))  m)=(m):=by rw [List.drop_length,paA_f]
  refine paA_z1 v pf hwk n0 ((vlK v).length) m e rfl hN   cx hcx (.inr ?_)
  rw [hr]
  exact ⟨by simp,rfl,⟨⟨W,W,W,W,trivial⟩,⟨Ws,trivial⟩,rfl⟩⟩
theorem paA (v:Vl) (pf:Vl->Int->Int) (hwk:∀ (w:Vl) (m:Int),w∈vlK v->Pu 33 [.agg (vlL w),.int .i64 m] (.ret (.int .i64 (pf w m)))) (n0:Int) (m:Int) (e:Ext) (hN:(vlK v).length<=1000000000)  : (Ob.loop 72 (loopF Tryz.f33 0) (paA_I v pf n0 0 m e) (paA_q v pf n0 e (paA_f pf n0 ((vlK v))  m)).1 (paA_q v pf n0 e (paA_f pf n0 ((vlK v))  m)).2).ok Tryz.prog:=by
 have:=paA_lp v pf hwk n0 e hN 0 m (Nat.zero_le _)
 rw [List.drop_zero] at this
 exact this
abbrev paB_I (v:Vl) (pf:Vl->Int->Int) (n0:Int) (j:Int) (m:Int) (e:Ext):S:=S.mk [(1,vI6 n0),(2,.lp 2 0),(4,vI6 0),(5,vI6 m),(7,vI6 j)] [(2,vlV v)] e
section
variable (v:Vl) (pf:Vl->Int->Int) (hwk:∀ (w:Vl) (m:Int),w∈vlK v->Pu 33 [.agg (vlL w),.int .i64 m] (.ret (.int .i64 (pf w m)))) (hwb:∀ (w:Bd) (m:Int),w∈vlBd v->Pu 33 [.agg (vlL (bdV w)),.int .i64 m] (.ret (.int .i64 (pf (bdV w) m)))) (hwn:∀ (w:Ex),w∈vlB v->Pu 9 [.agg (exL w)] (.ret (.int .i64 (nodes w)))) (n0:Int) (i:Nat) (m:Int) (e:Ext)
include v pf hwk hwb hwn n0 i m e
theorem paB_b1 (hi:i<(vlBd v).length) (hN:(vlBd v).length<=1000000000) (hx0:m<n0) (cx:Cx) (hcx:cx.n=72) {Q:PExit->S->Prop} (hq:Q (.normal) (S.mk [(1,vI6 n0),(2,.lp 2 0),(4,vI6 0),(5,vI6 (IntKind.wrap .i64 (m+pf (bdV (List.getD (vlBd v) i default)) (IntKind.wrap .i64 (n0 - m))))),(7,vI6 ((i:Int)+1))] [(2,vlV v)] e)):PW Tryz.prog cx (loopF Tryz.f33 1) (paB_I v pf n0 (i:Int) m e) Q:=
 pw mdL 72 [sl (Bd.cs_len (vlBd v)),rp 4 (dt ((i:Int)<((vlBd v).length:Int))),dt (m<n0) hx0,am ((0:Int)<=(i:Int)/\(i:Int)<((Bd.cs (vlBd v)).length:Int)) (by (simp only [Bd.cs_len]; omega)),xBd (vlBd v) i hi,kp,cl (@hwb (List.getD (vlBd v) i default) (IntKind.wrap .i64 (n0 - m)) (by simp_all)),kp,wr ((i:Int)+1)] [1,2,4,5,7] [2] hcx hq
theorem paB_b2 (hi:i<(vlBd v).length) (hN:(vlBd v).length<=1000000000) (hx0:¬m<n0) (cx:Cx) (hcx:cx.n=72) {Q:PExit->S->Prop} (hq:Q (.exit 2) (S.mk [(1,vI6 n0),(2,.lp 2 0),(4,vI6 0),(5,vI6 m),(7,vI6 (i:Int))] [(2,vlV v)] e)):PW Tryz.prog cx (loopF Tryz.f33 1) (paB_I v pf n0 (i:Int) m e) Q:=
 pw mdL 72 [sl (Bd.cs_len (vlBd v)),rp 4 (dt ((i:Int)<((vlBd v).length:Int))),df (m<n0) hx0] [1,2,4,5,7] [2] hcx hq
theorem paB_z1 (hi:i=(vlBd v).length) (hN:(vlBd v).length<=1000000000) (cx:Cx) (hcx:cx.n=72) {Q:PExit->S->Prop} (hq:Q (.exit 2) (S.mk [(1,vI6 n0),(2,.lp 2 0),(4,vI6 0),(5,vI6 m),(7,vI6 (i:Int))] [(2,vlV v)] e)):PW Tryz.prog cx (loopF Tryz.f33 1) (paB_I v pf n0 (i:Int) m e) Q:=
 pw mdL 72 [sl (Bd.cs_len (vlBd v)),rp 4 (df ((i:Int)<((vlBd v).length:Int))),bf false] [1,2,4,5,7] [2] hcx hq
end
def paB_f (pf:Vl->Int->Int) (n0:Int):List Bd->(Int)->(Int)
 | [],m=>(m)
 | el::r,m=>(if m<n0 then paB_f pf n0 r (IntKind.wrap .i64 (m+pf (bdV el) (IntKind.wrap .i64 (n0 - m)))) else (m))
def paB_q (v:Vl) (pf:Vl->Int->Int) (n0:Int) (e:Ext) (p:(Int)):PExit × S:=(.exit 2,S.mk [(1,vI6 n0),(2,.lp 2 0),(4,vI6 0),(5,vI6 p)] [(2,vlV v)] e)
theorem paB_lp (v:Vl) (pf:Vl->Int->Int) (hwk:∀ (w:Vl) (m:Int),w∈vlK v->Pu 33 [.agg (vlL w),.int .i64 m] (.ret (.int .i64 (pf w m)))) (hwb:∀ (w:Bd) (m:Int),w∈vlBd v->Pu 33 [.agg (vlL (bdV w)),.int .i64 m] (.ret (.int .i64 (pf (bdV w) m)))) (hwn:∀ (w:Ex),w∈vlB v->Pu 9 [.agg (exL w)] (.ret (.int .i64 (nodes w)))) (n0:Int) (e:Ext) (hN:(vlBd v).length<=1000000000) (i:Nat) (m:Int) (hi0:i<=(vlBd v).length)  : (Ob.loop 72 (loopF Tryz.f33 1) (paB_I v pf n0 (i:Int) m e) (paB_q v pf n0 e (paB_f pf n0 (List.drop i ((vlBd v)))  m)).1 (paB_q v pf n0 e (paB_f pf n0 (List.drop i ((vlBd v)))  m)).2).ok Tryz.prog:=by
 refine Ob.loop_of (P:=Tryz.prog) (α:={ zz:Nat × (Int) // zz.1<=(vlBd v).length }) (fun zz=>paB_I v pf n0 (zz.1.1:Int) zz.1.2 e) (fun zz=>(vlBd v).length - zz.1.1) (fun zz=>(paB_q v pf n0 e (paB_f pf n0 (List.drop zz.1.1 ((vlBd v)))  zz.1.2))) ?_ ⟨(i,m),hi0⟩
 clear hi0
 clear m i
 rintro ⟨⟨i,m⟩,hi⟩ cx hcx
 simp only at hi  ⊢
 rcases Nat.lt_or_ge i ((vlBd v).length) with hlt | hge
 ·have hd:=drop_at hlt
  by_cases h0:m<n0
  ·have hr:(paB_f pf n0 (List.drop i ((vlBd v)))  m)=(paB_f pf n0 (List.drop (i+1) ((vlBd v)))  (IntKind.wrap .i64 (m+pf (bdV (List.getD (vlBd v) i default)) (IntKind.wrap .i64 (n0 - m))))):=by rw [hd,paB_f,if_pos h0]
   exact paB_b1 v pf hwk hwb hwn n0 i m e hlt hN  h0 cx hcx (.inl ⟨rfl,⟨((i+1),(IntKind.wrap .i64 (m+pf (bdV (List.getD (vlBd v) i default)) (IntKind.wrap .i64 (n0 - m))))),by simp only; omega⟩,by simp only; omega,⟨⟨W,W,W,W,W,trivial⟩,⟨Ws,trivial⟩,rfl⟩,by simp only; rw [hr]⟩)
  ·have hr:(paB_f pf n0 (List.drop i ((vlBd v)))  m)=(m):=by rw [hd,paB_f,if_neg h0]
   refine paB_b2 v pf hwk hwb hwn n0 i m e hlt hN  h0 cx hcx (.inr ?_)
   rw [hr]
   exact ⟨by simp,rfl,⟨⟨W,W,W,W,trivial⟩,⟨Ws,trivial⟩,rfl⟩⟩
 ·have he:i=(vlBd v).length:=by omega
  subst he
  have hr:(paB_f pf n0 (List.drop ((vlBd v).length) ((vlBd v)))  m)=(m):=by rw [List.drop_length,paB_f]
  refine paB_z1 v pf hwk hwb hwn n0 ((vlBd v).length) m e rfl hN   cx hcx (.inr ?_)
  rw [hr]
  exact ⟨by simp,rfl,⟨⟨W,W,W,W,trivial⟩,⟨Ws,trivial⟩,rfl⟩⟩
theorem paB (v:Vl) (pf:Vl->Int->Int) (hwk:∀ (w:Vl) (m:Int),w∈vlK v->Pu 33 [.agg (vlL w),.int .i64 m] (.ret (.int .i64 (pf w m)))) (hwb:∀ (w:Bd) (m:Int),w∈vlBd v->Pu 33 [.agg (vlL (bdV w)),.int .i64 m] (.ret (.int .i64 (pf (bdV w) m)))) (hwn:∀ (w:Ex),w∈vlB v->Pu 9 [.agg (exL w)] (.ret (.int .i64 (nodes w)))) (n0:Int) (m:Int) (e:Ext) (hN:(vlBd v).length<=1000000000)  : (Ob.loop 72 (loopF Tryz.f33 1) (paB_I v pf n0 0 m e) (paB_q v pf n0 e (paB_f pf n0 ((vlBd v))  m)).1 (paB_q v pf n0 e (paB_f pf n0 ((vlBd v))  m)).2).ok Tryz.prog:=by
 have:=paB_lp v pf hwk hwb hwn n0 e hN 0 m (Nat.zero_le _)
 rw [List.drop_zero] at this
 exact this
abbrev paC_I (v:Vl) (pf:Vl->Int->Int) (n0:Int) (j:Int) (m:Int) (e:Ext):S:=S.mk [(2,.lp 2 0),(4,vI6 0),(5,vI6 m),(8,vI6 j)] [(2,vlV v)] e
section
variable (v:Vl) (pf:Vl->Int->Int) (hwk:∀ (w:Vl) (m:Int),w∈vlK v->Pu 33 [.agg (vlL w),.int .i64 m] (.ret (.int .i64 (pf w m)))) (hwb:∀ (w:Bd) (m:Int),w∈vlBd v->Pu 33 [.agg (vlL (bdV w)),.int .i64 m] (.ret (.int .i64 (pf (bdV w) m)))) (hwn:∀ (w:Ex),w∈vlB v->Pu 9 [.agg (exL w)] (.ret (.int .i64 (nodes w)))) (n0:Int) (i:Nat) (m:Int) (e:Ext)
include v pf hwk hwb hwn n0 i m e
theorem paC_b1 (hi:i<(vlB v).length) (hN:(vlB v).length<=1000000000) (cx:Cx) (hcx:cx.n=72) {Q:PExit->S->Prop} (hq:Q (.normal) (S.mk [(2,.lp 2 0),(4,vI6 0),(5,vI6 (IntKind.wrap .i64 (m+nodes (List.getD (vlB v) i default)))),(8,vI6 ((i:Int)+1))] [(2,vlV v)] e)):PW Tryz.prog cx (loopF Tryz.f33 2) (paC_I v pf n0 (i:Int) m e) Q:=
 pw mdL 72 [sl (Ex.cs_len (vlB v)),dt ((i:Int)<((vlB v).length:Int)),am ((0:Int)<=(i:Int)/\(i:Int)<((Ex.cs (vlB v)).length:Int)) (by (simp only [Ex.cs_len]; omega)),xEx (vlB v) i hi,cl (@hwn (List.getD (vlB v) i default) (by simp_all)),kp,wr ((i:Int)+1)] [2,4,5,8] [2] hcx hq
theorem paC_z1 (hi:i=(vlB v).length) (hN:(vlB v).length<=1000000000) (cx:Cx) (hcx:cx.n=72) {Q:PExit->S->Prop} (hq:Q (.exit 4) (S.mk [(2,.lp 2 0),(4,vI6 0),(5,vI6 m),(8,vI6 (i:Int))] [(2,vlV v)] e)):PW Tryz.prog cx (loopF Tryz.f33 2) (paC_I v pf n0 (i:Int) m e) Q:=
 pw mdL 72 [sl (Ex.cs_len (vlB v)),df ((i:Int)<((vlB v).length:Int))] [2,4,5,8] [2] hcx hq
end
def paC_f  : List Ex->(Int)->(Int)
 | [],m=>(m)
 | el::r,m=>paC_f  r (IntKind.wrap .i64 (m+nodes el))
def paC_q (v:Vl) (pf:Vl->Int->Int) (n0:Int) (e:Ext) (p:(Int)):PExit × S:=(.exit 4,S.mk [(2,.lp 2 0),(4,vI6 0),(5,vI6 p)] [(2,vlV v)] e)
theorem paC_lp (v:Vl) (pf:Vl->Int->Int) (hwk:∀ (w:Vl) (m:Int),w∈vlK v->Pu 33 [.agg (vlL w),.int .i64 m] (.ret (.int .i64 (pf w m)))) (hwb:∀ (w:Bd) (m:Int),w∈vlBd v->Pu 33 [.agg (vlL (bdV w)),.int .i64 m] (.ret (.int .i64 (pf (bdV w) m)))) (hwn:∀ (w:Ex),w∈vlB v->Pu 9 [.agg (exL w)] (.ret (.int .i64 (nodes w)))) (n0:Int) (e:Ext) (hN:(vlB v).length<=1000000000) (i:Nat) (m:Int) (hi0:i<=(vlB v).length)  : (Ob.loop 72 (loopF Tryz.f33 2) (paC_I v pf n0 (i:Int) m e) (paC_q v pf n0 e (paC_f  (List.drop i ((vlB v)))  m)).1 (paC_q v pf n0 e (paC_f  (List.drop i ((vlB v)))  m)).2).ok Tryz.prog:=by
 refine Ob.loop_of (P:=Tryz.prog) (α:={ zz:Nat × (Int) // zz.1<=(vlB v).length }) (fun zz=>paC_I v pf n0 (zz.1.1:Int) zz.1.2 e) (fun zz=>(vlB v).length - zz.1.1) (fun zz=>(paC_q v pf n0 e (paC_f  (List.drop zz.1.1 ((vlB v)))  zz.1.2))) ?_ ⟨(i,m),hi0⟩
 clear hi0
 clear m i
 rintro ⟨⟨i,m⟩,hi⟩ cx hcx
 simp only at hi  ⊢
 rcases Nat.lt_or_ge i ((vlB v).length) with hlt | hge
 ·have hd:=drop_at hlt
  have hr:(paC_f  (List.drop i ((vlB v)))  m)=(paC_f  (List.drop (i+1) ((vlB v)))  (IntKind.wrap .i64 (m+nodes (List.getD (vlB v) i default)))):=by rw [hd,paC_f]
  exact paC_b1 v pf hwk hwb hwn n0 i m e hlt hN   cx hcx (.inl ⟨rfl,⟨((i+1),(IntKind.wrap .i64 (m+nodes (List.getD (vlB v) i default)))),by simp only; omega⟩,by simp only; omega,⟨⟨W,W,W,W,trivial⟩,⟨Ws,trivial⟩,rfl⟩,by simp only; rw [hr]⟩)
 ·have he:i=(vlB v).length:=by omega
  subst he
  have hr:(paC_f  (List.drop ((vlB v).length) ((vlB v)))  m)=(m):=by rw [List.drop_length,paC_f]
  refine paC_z1 v pf hwk hwb hwn n0 ((vlB v).length) m e rfl hN   cx hcx (.inr ?_)
  rw [hr]
  exact ⟨by simp,rfl,⟨⟨W,W,W,trivial⟩,⟨Ws,trivial⟩,rfl⟩⟩
theorem paC (v:Vl) (pf:Vl->Int->Int) (hwk:∀ (w:Vl) (m:Int),w∈vlK v->Pu 33 [.agg (vlL w),.int .i64 m] (.ret (.int .i64 (pf w m)))) (hwb:∀ (w:Bd) (m:Int),w∈vlBd v->Pu 33 [.agg (vlL (bdV w)),.int .i64 m] (.ret (.int .i64 (pf (bdV w) m)))) (hwn:∀ (w:Ex),w∈vlB v->Pu 9 [.agg (exL w)] (.ret (.int .i64 (nodes w)))) (n0:Int) (m:Int) (e:Ext) (hN:(vlB v).length<=1000000000)  : (Ob.loop 72 (loopF Tryz.f33 2) (paC_I v pf n0 0 m e) (paC_q v pf n0 e (paC_f  ((vlB v))  m)).1 (paC_q v pf n0 e (paC_f  ((vlB v))  m)).2).ok Tryz.prog:=by
 have:=paC_lp v pf hwk hwb hwn n0 e hN 0 m (Nat.zero_le _)
 rw [List.drop_zero] at this
 exact this
theorem rParts (v:Vl) (pf:Vl->Int->Int) (hwk:∀ (w:Vl) (m:Int),w∈vlK v->Pu 33 [.agg (vlL w),.int .i64 m] (.ret (.int .i64 (pf w m)))) (hwb:∀ (w:Bd) (m:Int),w∈vlBd v->Pu 33 [.agg (vlL (bdV w)),.int .i64 m] (.ret (.int .i64 (pf (bdV w) m)))) (hwn:∀ (w:Ex),w∈vlB v->Pu 9 [.agg (exL w)] (.ret (.int .i64 (nodes w)))) (n0:Int) (hx0:List.length (vlK v)<=1000000000) (hx1:List.length (vlBd v)<=1000000000) (hx2:List.length (vlB v)<=1000000000):Pu 33 ([.agg (vlL v),pI n0]) (rI (paC_f (vlB v) (paB_f pf n0 (vlBd v) (paA_f pf n0 (vlK v) 1)))):=
 pu mdL (fun e=>[lp (S.mk [(0,.v (.agg (vlL v))),(1,vI6 n0),(2,.lp 2 0),(4,vI6 0),(5,vI6 1),(6,vI6 0)] [(2,vlV v)] e) (@paA (v) (pf) hwk (n0) (1) (e) hx0) ⟨⟨W,W,W,W,W,trivial⟩,⟨⟨W,W,W,W,W,W,W,trivial⟩,trivial⟩,rfl⟩,lp (S.mk [(1,vI6 n0),(2,.lp 2 0),(4,vI6 0),(5,vI6 (paA_f pf n0 (vlK v) 1)),(7,vI6 0)] [(2,vlV v)] e) (@paB (v) (pf) hwk hwb hwn (n0) (paA_f pf n0 (vlK v) 1) (e) hx1) ⟨⟨W,W,W,W,W,trivial⟩,⟨⟨W,W,W,W,W,W,W,trivial⟩,trivial⟩,rfl⟩,lp (S.mk [(1,vI6 n0),(2,.lp 2 0),(4,vI6 0),(5,vI6 (paB_f pf n0 (vlBd v) (paA_f pf n0 (vlK v) 1))),(8,vI6 0)] [(2,vlV v)] e) (@paC (v) (pf) hwk hwb hwn default (paB_f pf n0 (vlBd v) (paA_f pf n0 (vlK v) 1)) (e) hx2) ⟨⟨W,W,W,W,trivial⟩,⟨⟨W,W,W,W,W,W,W,trivial⟩,trivial⟩,rfl⟩]) Tryz.func33
end Go.Proofs.YtgonmmckkikmaaaGreat
namespace Go.Proofs.YtgonmmckkikmaaaGreat
open Go.Pv
set_option maxRecDepth 100000
theorem szV_eq (v:Vl):szV v=(vlNm v).size+bulkPss (Vl.cs (vlK v))+bulkPss (nmsC (vlP v))+bulkPss (Ex.cs (vlB v))+bulkPss (Bd.cs (vlBd v))+7:=by
 simp only [szV,bulkPs,bulkP]; omega
theorem vals_bulk (l:List Vl):l.length<=bulkPss (Vl.cs l):=by
 have:=len_bulk (l:=Vl.cs l) fun c hc=>by
  rw [Vl.cs_eq] at hc
  obtain ⟨x, -,rfl⟩:=List.mem_map.1 hc
  have:=szV_eq x
  unfold szV at this
  omega
 rwa [Vl.cs_len] at this
theorem bd_bulk (b:Bd):bulkPs (bdL b)=(bdNm b).size+1+szV (bdV b):=by
 simp only [bulkPs,bulkP,szV]
theorem bds_bulk (l:List Bd):l.length<=bulkPss (Bd.cs l):=by
 have:=len_bulk (l:=Bd.cs l) fun c hc=>by
  rw [Bd.cs_eq] at hc
  obtain ⟨x, -,rfl⟩:=List.mem_map.1 hc
  have:=bd_bulk x
  omega
 rwa [Bd.cs_len] at this
theorem val_bulk {l:List Vl} {v:Vl} (h:v∈l):szV v<=bulkPss (Vl.cs l):=mem_bulk (by rw [Vl.cs_eq]; exact List.mem_map_of_mem h)
theorem bdv_bulk {l:List Bd} {b:Bd} (h:b∈l):szV (bdV b)<=bulkPss (Bd.cs l):=by
 have h1:=mem_bulk (l:=Bd.cs l) (c:=bdL b) (by rw [Bd.cs_eq]; exact List.mem_map_of_mem h)
 have:=bd_bulk b
 omega
theorem exs_bulk {l:List Ex} {x:Ex} (h:x∈l):szE x<=bulkPss (Ex.cs l):=mem_bulk (by rw [Ex.cs_eq]; exact List.mem_map_of_mem h)
def ptD:Nat->Vl->Int->Int
 | 0,_,_=>0
 | d+1,v,n=>paC_f (vlB v) (paB_f (ptD d) n (vlBd v) (paA_f (ptD d) n (vlK v) 1))
theorem parts_ok:∀ (d:Nat) (v:Vl),szV v<d->szV v<=100000000->∀n:Int,Pu 33 [.agg (vlL v),.int .i64 n] (.ret (.int .i64 (ptD d v n)))
 | 0,v,h,_,_=>by omega
 | d+1,v,h,hs,n=>by
  have h1:=szV_eq v
  have h2:=vals_bulk (vlK v)
  have h3:=bds_bulk (vlBd v)
  have h4:=kids_bulk (vlB v)
  exact rParts v (ptD d) (fun w m hw=>parts_ok d w (by have:=val_bulk hw; omega) (by have:=val_bulk hw; omega) m) (fun b m hb=>parts_ok d (bdV b) (by have:=bdv_bulk hb; omega) (by have:=bdv_bulk hb; omega) m) (fun x hx=>rNodesT (by have:=exs_bulk hx; omega)) n (by omega) (by omega) (by omega)
def partsF (v:Vl) (n:Int):Int:=ptD (szV v+1) v n
theorem rPartsT {v:Vl} (hs:szV v<=100000000) (n:Int):Pu 33 [.agg (vlL v),.int .i64 n] (.ret (.int .i64 (partsF v n))):=parts_ok _ v (by omega) hs n
abbrev fwS_I (l:List Vl) (j:Int) (m:Int) (e:Ext):S:=S.mk [(0,vL 7 (Vl.cs l)),(2,.v (.bool false)),(3,vI6 m),(4,vI6 j)] [] e
section
variable (l:List Vl) (hwp:∀ (w:Vl) (m:Int),w∈l->Pu 33 [.agg (vlL w),.int .i64 m] (.ret (.int .i64 (partsF w m)))) (i:Nat) (m:Int) (e:Ext)
include l hwp i m e
theorem fwS_b1 (hi:i<l.length) (hN:l.length<=1000000000) (hx0:m<=60) (cx:Cx) (hcx:cx.n=29) {Q:PExit->S->Prop} (hq:Q (.normal) (S.mk [(0,vL 7 (Vl.cs l)),(2,.v (.bool false)),(3,vI6 (IntKind.wrap .i64 (m+partsF (List.getD l i default) 61))),(4,vI6 ((i:Int)+1))] [] e)):PW Tryz.prog cx (loopF Tryz.f10 0) (fwS_I l (i:Int) m e) Q:=
 pw mdL 29 [sl (Vl.cs_len l),rp 3 (dt ((i:Int)<(l.length:Int))),dt (m<=60) hx0,am ((0:Int)<=(i:Int)/\(i:Int)<((Vl.cs l).length:Int)) (by (simp only [Vl.cs_len]; omega)),xVl l i hi,cl (@hwp (List.getD l i default) (61) (by simp_all)),kp,wr ((i:Int)+1)] [0,2,3,4] [] hcx hq
theorem fwS_b2 (hi:i<l.length) (hN:l.length<=1000000000) (hx0:¬m<=60) (cx:Cx) (hcx:cx.n=29) {Q:PExit->S->Prop} (hq:Q (.exit 0) (S.mk [(0,vL 7 (Vl.cs l)),(2,.v (.bool false)),(3,vI6 m),(4,vI6 (i:Int))] [] e)):PW Tryz.prog cx (loopF Tryz.f10 0) (fwS_I l (i:Int) m e) Q:=
 pw mdL 29 [sl (Vl.cs_len l),rp 3 (dt ((i:Int)<(l.length:Int))),df (m<=60) hx0] [0,2,3,4] [] hcx hq
theorem fwS_z1 (hi:i=l.length) (hN:l.length<=1000000000) (cx:Cx) (hcx:cx.n=29) {Q:PExit->S->Prop} (hq:Q (.exit 0) (S.mk [(0,vL 7 (Vl.cs l)),(2,.v (.bool false)),(3,vI6 m),(4,vI6 (i:Int))] [] e)):PW Tryz.prog cx (loopF Tryz.f10 0) (fwS_I l (i:Int) m e) Q:=
 pw mdL 29 [sl (Vl.cs_len l),rp 3 (df ((i:Int)<(l.length:Int))),bf false] [0,2,3,4] [] hcx hq
end
def fwS_f  : List Vl->(Int)->(Int)
 | [],m=>(m)
 | el::r,m=>(if m<=60 then fwS_f  r (IntKind.wrap .i64 (m+partsF el 61)) else (m))
def fwS_q (l:List Vl) (e:Ext) (p:(Int)):PExit × S:=(.exit 0,S.mk [(0,vL 7 (Vl.cs l)),(2,.v (.bool false)),(3,vI6 p)] [] e)
theorem fwS_lp (l:List Vl) (hwp:∀ (w:Vl) (m:Int),w∈l->Pu 33 [.agg (vlL w),.int .i64 m] (.ret (.int .i64 (partsF w m)))) (e:Ext) (hN:l.length<=1000000000) (i:Nat) (m:Int) (hi0:i<=l.length)  : (Ob.loop 29 (loopF Tryz.f10 0) (fwS_I l (i:Int) m e) (fwS_q l e (fwS_f  (List.drop i (l))  m)).1 (fwS_q l e (fwS_f  (List.drop i (l))  m)).2).ok Tryz.prog:=by
 refine Ob.loop_of (P:=Tryz.prog) (α:={ zz:Nat × (Int) // zz.1<=l.length }) (fun zz=>fwS_I l (zz.1.1:Int) zz.1.2 e) (fun zz=>l.length - zz.1.1) (fun zz=>(fwS_q l e (fwS_f  (List.drop zz.1.1 (l))  zz.1.2))) ?_ ⟨(i,m),hi0⟩
 clear hi0
 clear m i
 rintro ⟨⟨i,m⟩,hi⟩ cx hcx
 simp only at hi  ⊢
 rcases Nat.lt_or_ge i (l.length) with hlt | hge
 ·have hd:=drop_at hlt
  by_cases h0:m<=60
  ·have hr:(fwS_f  (List.drop i (l))  m)=(fwS_f  (List.drop (i+1) (l))  (IntKind.wrap .i64 (m+partsF (List.getD l i default) 61))):=by rw [hd,fwS_f,if_pos h0]
   exact fwS_b1 l hwp i m e hlt hN  h0 cx hcx (.inl ⟨rfl,⟨((i+1),(IntKind.wrap .i64 (m+partsF (List.getD l i default) 61))),by simp only; omega⟩,by simp only; omega,⟨⟨W,W,W,W,trivial⟩,trivial,rfl⟩,by simp only; rw [hr]⟩)
  ·have hr:(fwS_f  (List.drop i (l))  m)=(m):=by rw [hd,fwS_f,if_neg h0]
   refine fwS_b2 l hwp i m e hlt hN  h0 cx hcx (.inr ?_)
   rw [hr]
   exact ⟨by simp,rfl,⟨⟨W,W,W,trivial⟩,trivial,rfl⟩⟩
 ·have he:i=l.length:=by omega
  subst he
  have hr:(fwS_f  (List.drop (l.length) (l))  m)=(m):=by rw [List.drop_length,fwS_f]
  refine fwS_z1 l hwp (l.length) m e rfl hN   cx hcx (.inr ?_)
  rw [hr]
  exact ⟨by simp,rfl,⟨⟨W,W,W,trivial⟩,trivial,rfl⟩⟩
theorem fwS (l:List Vl) (hwp:∀ (w:Vl) (m:Int),w∈l->Pu 33 [.agg (vlL w),.int .i64 m] (.ret (.int .i64 (partsF w m)))) (m:Int) (e:Ext) (hN:l.length<=1000000000)  : (Ob.loop 29 (loopF Tryz.f10 0) (fwS_I l 0 m e) (fwS_q l e (fwS_f  (l)  m)).1 (fwS_q l e (fwS_f  (l)  m)).2).ok Tryz.prog:=by
 have:=fwS_lp l hwp e hN 0 m (Nat.zero_le _)
 rw [List.drop_zero] at this
 exact this
section
variable (l:List Vl) (hll:l.length<=1000000000) (hwp:∀ (w:Vl) (m:Int),w∈l->Pu 33 [.agg (vlL w),.int .i64 m] (.ret (.int .i64 (partsF w m))))
include l hll hwp
theorem rFew_1 (hx0:fwS_f l 0<=60):Pu 10 ([.sl 7 (Vl.cs l)]) (rB (decide ((l.length:Int)<=10))):=
 pu mdL (fun e=>[lp (S.mk [(0,vL 7 (Vl.cs l)),(2,.v (.bool false)),(3,vI6 0),(4,vI6 0)] [] e) (@fwS (l) hwp (0) (e) hll) ⟨⟨W,W,W,W,trivial⟩,trivial,rfl⟩,rp 2 (dt (fwS_f l 0<=60) hx0),sl (Vl.cs_len l),rp 2 (dt (fwS_f l 0<=60) hx0)]) Tryz.func10
theorem rFew_2 (hx0:¬fwS_f l 0<=60):Pu 10 ([.sl 7 (Vl.cs l)]) (rB false):=
 pu mdL (fun e=>[lp (S.mk [(0,vL 7 (Vl.cs l)),(2,.v (.bool false)),(3,vI6 0),(4,vI6 0)] [] e) (@fwS (l) hwp (0) (e) hll) ⟨⟨W,W,W,W,trivial⟩,trivial,rfl⟩,rp 4 (df (fwS_f l 0<=60) hx0)]) Tryz.func10
end
def rFew_r0 (l:List Vl):Bool:=(if fwS_f l 0<=60 then (decide ((l.length:Int)<=10)) else (false))
theorem rFew (l:List Vl) (hll:l.length<=1000000000) (hwp:∀ (w:Vl) (m:Int),w∈l->Pu 33 [.agg (vlL w),.int .i64 m] (.ret (.int .i64 (partsF w m)))):Pu 10 ([.sl 7 (Vl.cs l)]) (rB (rFew_r0 l)):=by
 by_cases h0:fwS_f l 0<=60
 ·rw [(show rFew_r0 l=(decide ((l.length:Int)<=10)) by unfold rFew_r0; rw [if_pos h0])]; exact rFew_1 l hll hwp h0
 ·rw [(show rFew_r0 l=(false) by unfold rFew_r0; rw [if_neg h0])]; exact rFew_2 l hll hwp h0
abbrev vsS_I (l:List Bd) (j:Int) (out:List Vl) (e:Ext):S:=S.mk [(0,vL 8 (Bd.cs l)),(2,.v .nilsl),(3,.uniq 52 7 (Vl.cs out)),(4,vI6 j)] [] e
section
variable (l:List Bd) (i:Nat) (out:List Vl) (e:Ext) (hi:i<l.length) (hN:l.length<=1000000000) (hv:(out.length<=i))
include l i out e hi hN hv
theorem vsS_b1 (hx0:(i:Int)<12) (cx:Cx) (hcx:cx.n=24) {Q:PExit->S->Prop} (hq:Q (.normal) (S.mk [(0,vL 8 (Bd.cs l)),(2,.v .nilsl),(3,.uniq 52 7 (Vl.cs out++[List.take (TypeInfo.size (Tables.types (Program.toTables Tryz.prog))[52]) (List.drop (0+Field.offset #[Field.mk "Name" 9 0 false "" "" 0,Field.mk "Value" 52 1 false "" "" 16][1]) (bdL (List.getD l i default)))])),(4,vI6 ((i:Int)+1))] [] e)):PW Tryz.prog cx (loopF Tryz.f11 0) (vsS_I l (i:Int) out e) Q:=
 pw mdL 24 [sl (Bd.cs_len l),rp 3 (dt ((i:Int)<(l.length:Int))),dt ((i:Int)<12) hx0,am ((0:Int)<=(i:Int)/\(i:Int)<((Bd.cs l).length:Int)) (by (simp only [Bd.cs_len]; omega)),xBd l i hi,am (List.length (Vl.cs out++(fun x=>Prod.snd x) (6+1,[List.take ((fun x=>TypeInfo.size x) (Tables.types (Program.toTables Tryz.prog))[52]) (List.drop (0+Field.offset #[Field.mk "Name" 9 0 false "" "" 0,Field.mk "Value" 52 1 false "" "" 16][1]) (bdL (List.getD l i default)))])) * (127+1)<=140737488355328) (by (simp only [List.length_append,List.length_cons,List.length_nil,Ex.cs_len,Vl.cs_len,Bd.cs_len,nmsC_len]; omega)),wr ((i:Int)+1)] [0,2,3,4] [] hcx hq
theorem vsS_b2 (hx0:¬(i:Int)<12) (cx:Cx) (hcx:cx.n=24) {Q:PExit->S->Prop} (hq:Q (.exit 0) (S.mk [(0,vL 8 (Bd.cs l)),(2,.v .nilsl),(3,.uniq 52 7 (Vl.cs out)),(4,vI6 (i:Int))] [] e)):PW Tryz.prog cx (loopF Tryz.f11 0) (vsS_I l (i:Int) out e) Q:=
 pw mdL 24 [sl (Bd.cs_len l),rp 3 (dt ((i:Int)<(l.length:Int))),df ((i:Int)<12) hx0] [0,2,3,4] [] hcx hq
end
theorem vsS_z1 (l:List Bd) (i:Nat) (out:List Vl) (e:Ext) (hi:i=l.length) (hN:l.length<=1000000000) (hv:(out.length<=i)) (cx:Cx) (hcx:cx.n=24) {Q:PExit->S->Prop} (hq:Q (.exit 0) (S.mk [(0,vL 8 (Bd.cs l)),(2,.v .nilsl),(3,.uniq 52 7 (Vl.cs out)),(4,vI6 (i:Int))] [] e)):PW Tryz.prog cx (loopF Tryz.f11 0) (vsS_I l (i:Int) out e) Q:=
 pw mdL 24 [sl (Bd.cs_len l),rp 3 (df ((i:Int)<(l.length:Int))),bf false] [0,2,3,4] [] hcx hq
def vsS_f  : List Bd->Nat->(List Vl)->(List Vl)
 | [],i,out=>(out)
 | el::r,i,out=>(if (i:Int)<12 then vsS_f  r (i+1) (out++[bdV el]) else (out))
def vsS_q (l:List Bd) (e:Ext) (p:(List Vl)):PExit × S:=(.exit 0,S.mk [(0,vL 8 (Bd.cs l)),(2,.v .nilsl),(3,.uniq 52 7 (Vl.cs p))] [] e)
theorem vsS_lp (l:List Bd) (e:Ext) (hN:l.length<=1000000000) (i:Nat) (out:List Vl) (hi0:i<=l.length) (hv:(out.length<=i)):(Ob.loop 24 (loopF Tryz.f11 0) (vsS_I l (i:Int) out e) (vsS_q l e (vsS_f  (List.drop i (l)) i out)).1 (vsS_q l e (vsS_f  (List.drop i (l)) i out)).2).ok Tryz.prog:=by
 refine Ob.loop_of (P:=Tryz.prog) (α:={ zz:Nat × (List Vl) // zz.1<=l.length/\(fun (i:Nat) (out:List Vl)=>(out.length<=i)) zz.1 zz.2 }) (fun zz=>vsS_I l (zz.1.1:Int) zz.1.2 e) (fun zz=>l.length - zz.1.1) (fun zz=>(vsS_q l e (vsS_f  (List.drop zz.1.1 (l)) zz.1.1 zz.1.2))) ?_ ⟨(i,out),hi0,hv⟩
 clear hi0 hv
 clear out i
 rintro ⟨⟨i,out⟩,hi,hv⟩ cx hcx
 simp only at hi hv ⊢
 rcases Nat.lt_or_ge i (l.length) with hlt | hge
 ·have hd:=drop_at hlt
  by_cases h0:(i:Int)<12
  ·have hr:(vsS_f  (List.drop i (l)) i out)=(vsS_f  (List.drop (i+1) (l)) (i+1) (out++[bdV (List.getD l i default)])):=by rw [hd,vsS_f,if_pos h0]
   exact vsS_b1 l i out e hlt hN hv h0 cx hcx (.inl ⟨rfl,⟨((i+1),(out++[bdV (List.getD l i default)])),by simp only; omega,(by first | assumption | omega | (apply getD_memV <;> first | assumption | omega | decide) | (apply getD_memB <;> first | assumption | omega | decide) | (apply getD_memE <;> first | assumption | omega | decide) | (simp only [List.length_append,List.length_cons,List.length_nil] at *; omega) | simp_all)⟩,by simp only; omega,⟨⟨W,W,(.inl (by first | (simp only [List.nil_append,nmsC_app,nmsC_snoc,Ex.cs_snoc,Vl.cs_snoc,Bd.cs_snoc,Bd.cs_snoc2]; done) | (simp only [List.nil_append,nmsC_app,nmsC_snoc,Ex.cs_snoc,Vl.cs_snoc,Bd.cs_snoc,Bd.cs_snoc2]; rfl))),W,trivial⟩,trivial,rfl⟩,by simp only; rw [hr]⟩)
  ·have hr:(vsS_f  (List.drop i (l)) i out)=(out):=by rw [hd,vsS_f,if_neg h0]
   refine vsS_b2 l i out e hlt hN hv h0 cx hcx (.inr ?_)
   rw [hr]
   exact ⟨by simp,rfl,⟨⟨W,W,W,trivial⟩,trivial,rfl⟩⟩
 ·have he:i=l.length:=by omega
  subst he
  have hr:(vsS_f  (List.drop (l.length) (l)) (l.length) out)=(out):=by rw [List.drop_length,vsS_f]
  refine vsS_z1 l (l.length) out e rfl hN hv  cx hcx (.inr ?_)
  rw [hr]
  exact ⟨by simp,rfl,⟨⟨W,W,W,trivial⟩,trivial,rfl⟩⟩
theorem vsS (l:List Bd) (out:List Vl) (e:Ext) (hN:l.length<=1000000000) (hv:List.length out<=0):(Ob.loop 24 (loopF Tryz.f11 0) (vsS_I l 0 out e) (vsS_q l e (vsS_f  (l) 0 out)).1 (vsS_q l e (vsS_f  (l) 0 out)).2).ok Tryz.prog:=by
 have:=vsS_lp l e hN 0 out (Nat.zero_le _) hv
 rw [List.drop_zero] at this
 exact this
theorem rValues (l:List Bd) (hll:l.length<=1000000000):Pu 11 ([.sl 8 (Bd.cs l)]) (.ret (.sl 7 (Vl.cs (vsS_f l 0 [])))):=
 pu mdL (fun e=>[lp (S.mk [(0,vL 8 (Bd.cs l)),(2,.v .nilsl),(3,.v .nilsl),(4,vI6 0)] [] e) (@vsS (l) ([]) (e) hll (by (simp only [List.length_nil]; omega))) ⟨⟨W,W,(by first | exact .inl rfl | exact .inr ⟨rfl,rfl⟩ | exact .inr rfl | exact .inr trivial),W,trivial⟩,trivial,rfl⟩]) Tryz.func11
abbrev lgS_I (d0:List (List PV)) (d1:List (List PV)) (d2:List (List PV)) (d3:List (List PV)) (d4:List (List PV)) (z0:Nat) (z1:Nat) (z2:Nat) (z3:Nat) (z4:Nat) (l:List Df) (j:Int) (m:Int) (e:Ext):S:=S.mk [(1,.lp 1 0),(2,.v (.bool false)),(3,vI6 m),(4,vI6 j)] [(1,[vL z0 d0,vL z1 d1,vL z2 d2,vL z3 d3,vL z4 d4,vL 25 (dfsC l)])] e
section
variable (d0 d1 d2 d3 d4:List (List PV)) (z0 z1 z2 z3 z4:Nat) (l:List Df) (hwn:∀w,w∈l->Pu 9 [.agg (exL (dfB w))] (.ret (.int .i64 (nodes (dfB w))))) (i:Nat) (m:Int) (e:Ext)
include d0 d1 d2 d3 d4 z0 z1 z2 z3 z4 l hwn i m e
theorem lgS_b1 (hi:i<l.length) (hN:l.length<=1000000000) (cx:Cx) (hcx:cx.n=51) {Q:PExit->S->Prop} (hq:Q (.normal) (S.mk [(1,.lp 1 0),(2,.v (.bool false)),(3,vI6 (IntKind.wrap .i64 (m+nodes (dfB (List.getD l i default))))),(4,vI6 ((i:Int)+1))] [(1,[vL z0 d0,vL z1 d1,vL z2 d2,vL z3 d3,vL z4 d4,vL 25 (dfsC l)])] e)):PW Tryz.prog cx (loopF Tryz.f8 0) (lgS_I d0 d1 d2 d3 d4 z0 z1 z2 z3 z4 l (i:Int) m e) Q:=
 pw mdL 51 [sl (dfsC_len l),dt ((i:Int)<(l.length:Int)),am ((0:Int)<=(i:Int)/\(i:Int)<((dfsC l).length:Int)) (by (simp only [dfsC_len]; omega)),xDf l i hi,cl (@hwn (List.getD l i default) (by simp_all)),kp,wr ((i:Int)+1)] [1,2,3,4] [1] hcx hq
theorem lgS_z1 (hi:i=l.length) (hN:l.length<=1000000000) (cx:Cx) (hcx:cx.n=51) {Q:PExit->S->Prop} (hq:Q (.exit 0) (S.mk [(1,.lp 1 0),(2,.v (.bool false)),(3,vI6 m),(4,vI6 (i:Int))] [(1,[vL z0 d0,vL z1 d1,vL z2 d2,vL z3 d3,vL z4 d4,vL 25 (dfsC l)])] e)):PW Tryz.prog cx (loopF Tryz.f8 0) (lgS_I d0 d1 d2 d3 d4 z0 z1 z2 z3 z4 l (i:Int) m e) Q:=
 pw mdL 51 [sl (dfsC_len l),df ((i:Int)<(l.length:Int))] [1,2,3,4] [1] hcx hq
end
def lgS_f  : List Df->(Int)->(Int)
 | [],m=>(m)
 | el::r,m=>lgS_f  r (IntKind.wrap .i64 (m+nodes (dfB el)))
def lgS_q (d0:List (List PV)) (d1:List (List PV)) (d2:List (List PV)) (d3:List (List PV)) (d4:List (List PV)) (z0:Nat) (z1:Nat) (z2:Nat) (z3:Nat) (z4:Nat) (l:List Df) (e:Ext) (p:(Int)):PExit × S:=(.exit 0,S.mk [(1,.lp 1 0),(2,.v (.bool false)),(3,vI6 p)] [(1,[vL z0 d0,vL z1 d1,vL z2 d2,vL z3 d3,vL z4 d4,vL 25 (dfsC l)])] e)
theorem lgS_lp (d0 d1 d2 d3 d4:List (List PV)) (z0 z1 z2 z3 z4:Nat) (l:List Df) (hwn:∀w,w∈l->Pu 9 [.agg (exL (dfB w))] (.ret (.int .i64 (nodes (dfB w))))) (e:Ext) (hN:l.length<=1000000000) (i:Nat) (m:Int) (hi0:i<=l.length)  : (Ob.loop 51 (loopF Tryz.f8 0) (lgS_I d0 d1 d2 d3 d4 z0 z1 z2 z3 z4 l (i:Int) m e) (lgS_q d0 d1 d2 d3 d4 z0 z1 z2 z3 z4 l e (lgS_f  (List.drop i (l))  m)).1 (lgS_q d0 d1 d2 d3 d4 z0 z1 z2 z3 z4 l e (lgS_f  (List.drop i (l))  m)).2).ok Tryz.prog:=by
 refine Ob.loop_of (P:=Tryz.prog) (α:={ zz:Nat × (Int) // zz.1<=l.length }) (fun zz=>lgS_I d0 d1 d2 d3 d4 z0 z1 z2 z3 z4 l (zz.1.1:Int) zz.1.2 e) (fun zz=>l.length - zz.1.1) (fun zz=>(lgS_q d0 d1 d2 d3 d4 z0 z1 z2 z3 z4 l e (lgS_f  (List.drop zz.1.1 (l))  zz.1.2))) ?_ ⟨(i,m),hi0⟩
 clear hi0
 clear m i
 rintro ⟨⟨i,m⟩,hi⟩ cx hcx
 simp only at hi  ⊢
 rcases Nat.lt_or_ge i (l.length) with hlt | hge
 ·have hd:=drop_at hlt
  have hr:(lgS_f  (List.drop i (l))  m)=(lgS_f  (List.drop (i+1) (l))  (IntKind.wrap .i64 (m+nodes (dfB (List.getD l i default))))):=by rw [hd,lgS_f]
  exact lgS_b1 d0 d1 d2 d3 d4 z0 z1 z2 z3 z4 l hwn i m e hlt hN   cx hcx (.inl ⟨rfl,⟨((i+1),(IntKind.wrap .i64 (m+nodes (dfB (List.getD l i default))))),by simp only; omega⟩,by simp only; omega,⟨⟨W,W,W,W,trivial⟩,⟨Ws,trivial⟩,rfl⟩,by simp only; rw [hr]⟩)
 ·have he:i=l.length:=by omega
  subst he
  have hr:(lgS_f  (List.drop (l.length) (l))  m)=(m):=by rw [List.drop_length,lgS_f]
  refine lgS_z1 d0 d1 d2 d3 d4 z0 z1 z2 z3 z4 l hwn (l.length) m e rfl hN   cx hcx (.inr ?_)
  rw [hr]
  exact ⟨by simp,rfl,⟨⟨W,W,W,trivial⟩,⟨Ws,trivial⟩,rfl⟩⟩
theorem lgS (d0 d1 d2 d3 d4:List (List PV)) (z0 z1 z2 z3 z4:Nat) (l:List Df) (hwn:∀w,w∈l->Pu 9 [.agg (exL (dfB w))] (.ret (.int .i64 (nodes (dfB w))))) (m:Int) (e:Ext) (hN:l.length<=1000000000)  : (Ob.loop 51 (loopF Tryz.f8 0) (lgS_I d0 d1 d2 d3 d4 z0 z1 z2 z3 z4 l 0 m e) (lgS_q d0 d1 d2 d3 d4 z0 z1 z2 z3 z4 l e (lgS_f  (l)  m)).1 (lgS_q d0 d1 d2 d3 d4 z0 z1 z2 z3 z4 l e (lgS_f  (l)  m)).2).ok Tryz.prog:=by
 have:=lgS_lp d0 d1 d2 d3 d4 z0 z1 z2 z3 z4 l hwn e hN 0 m (Nat.zero_le _)
 rw [List.drop_zero] at this
 exact this
section
variable (d0 d1 d2 d3 d4:List (List PV)) (z0 z1 z2 z3 z4:Nat) (l:List Df) (hwn:∀w,w∈l->Pu 9 [.agg (exL (dfB w))] (.ret (.int .i64 (nodes (dfB w))))) (hll:l.length<=1000000000)
include d0 d1 d2 d3 d4 z0 z1 z2 z3 z4 l hwn hll
theorem rLight_1 (hx0:(d0.length:Int)>10):Pu 8 ([.agg [.sl z0 d0,.sl z1 d1,.sl z2 d2,.sl z3 d3,.sl z4 d4,.sl 25 (dfsC l)]]) (rB false):=
 pu mdL (fun e=>[ai (↑((fun x=>List.length (Prod.snd x)) (z0,d0)):Int) (d0.length:Int) (by rfl),rp 5 (dt ((d0.length:Int)>10) hx0),rp 16 (bt true)]) Tryz.func8
theorem rLight_2 (hx0:¬(d0.length:Int)>10) (hx1:(d1.length:Int)>4):Pu 8 ([.agg [.sl z0 d0,.sl z1 d1,.sl z2 d2,.sl z3 d3,.sl z4 d4,.sl 25 (dfsC l)]]) (rB false):=
 pu mdL (fun e=>[ai (↑((fun x=>List.length (Prod.snd x)) (z0,d0)):Int) (d0.length:Int) (by rfl),rp 3 (df ((d0.length:Int)>10) hx0),ai (↑((fun x=>List.length (Prod.snd x)) (z1,d1)):Int) (d1.length:Int) (by rfl),rp 2 (df ((d0.length:Int)>10) hx0),rp 5 (dt ((d1.length:Int)>4) hx1),rp 11 (bt true)]) Tryz.func8
theorem rLight_3 (hx0:¬(d0.length:Int)>10) (hx1:¬(d1.length:Int)>4) (hx2:(d2.length:Int)>6):Pu 8 ([.agg [.sl z0 d0,.sl z1 d1,.sl z2 d2,.sl z3 d3,.sl z4 d4,.sl 25 (dfsC l)]]) (rB false):=
 pu mdL (fun e=>[ai (↑((fun x=>List.length (Prod.snd x)) (z0,d0)):Int) (d0.length:Int) (by rfl),rp 3 (df ((d0.length:Int)>10) hx0),ai (↑((fun x=>List.length (Prod.snd x)) (z1,d1)):Int) (d1.length:Int) (by rfl),rp 2 (df ((d0.length:Int)>10) hx0),rp 3 (df ((d1.length:Int)>4) hx1),ai (↑((fun x=>List.length (Prod.snd x)) (z2,d2)):Int) (d2.length:Int) (by rfl),rp 2 (df ((d1.length:Int)>4) hx1),rp 5 (dt ((d2.length:Int)>6) hx2),rp 6 (bt true)]) Tryz.func8
theorem rLight_4 (hx0:¬(d0.length:Int)>10) (hx1:¬(d1.length:Int)>4) (hx2:¬(d2.length:Int)>6) (hx3:(d3.length:Int)>8):Pu 8 ([.agg [.sl z0 d0,.sl z1 d1,.sl z2 d2,.sl z3 d3,.sl z4 d4,.sl 25 (dfsC l)]]) (rB false):=
 pu mdL (fun e=>[ai (↑((fun x=>List.length (Prod.snd x)) (z0,d0)):Int) (d0.length:Int) (by rfl),rp 3 (df ((d0.length:Int)>10) hx0),ai (↑((fun x=>List.length (Prod.snd x)) (z1,d1)):Int) (d1.length:Int) (by rfl),rp 2 (df ((d0.length:Int)>10) hx0),rp 3 (df ((d1.length:Int)>4) hx1),ai (↑((fun x=>List.length (Prod.snd x)) (z2,d2)):Int) (d2.length:Int) (by rfl),rp 2 (df ((d1.length:Int)>4) hx1),rp 3 (df ((d2.length:Int)>6) hx2),ai (↑((fun x=>List.length (Prod.snd x)) (z3,d3)):Int) (d3.length:Int) (by rfl),rp 2 (df ((d2.length:Int)>6) hx2),rp 5 (dt ((d3.length:Int)>8) hx3),bt true]) Tryz.func8
theorem rLight_5 (hx0:¬(d0.length:Int)>10) (hx1:¬(d1.length:Int)>4) (hx2:¬(d2.length:Int)>6) (hx3:¬(d3.length:Int)>8) (hx4:(l.length:Int)>9):Pu 8 ([.agg [.sl z0 d0,.sl z1 d1,.sl z2 d2,.sl z3 d3,.sl z4 d4,.sl 25 (dfsC l)]]) (rB false):=
 pu mdL (fun e=>[ai (↑((fun x=>List.length (Prod.snd x)) (z0,d0)):Int) (d0.length:Int) (by rfl),rp 3 (df ((d0.length:Int)>10) hx0),ai (↑((fun x=>List.length (Prod.snd x)) (z1,d1)):Int) (d1.length:Int) (by rfl),rp 2 (df ((d0.length:Int)>10) hx0),rp 3 (df ((d1.length:Int)>4) hx1),ai (↑((fun x=>List.length (Prod.snd x)) (z2,d2)):Int) (d2.length:Int) (by rfl),rp 2 (df ((d1.length:Int)>4) hx1),rp 3 (df ((d2.length:Int)>6) hx2),ai (↑((fun x=>List.length (Prod.snd x)) (z3,d3)):Int) (d3.length:Int) (by rfl),rp 2 (df ((d2.length:Int)>6) hx2),rp 3 (df ((d3.length:Int)>8) hx3),sl (dfsC_len l),rp 2 (df ((d3.length:Int)>8) hx3),dt ((l.length:Int)>9) hx4]) Tryz.func8
theorem rLight_6 (hx0:¬(d0.length:Int)>10) (hx1:¬(d1.length:Int)>4) (hx2:¬(d2.length:Int)>6) (hx3:¬(d3.length:Int)>8) (hx4:¬(l.length:Int)>9):Pu 8 ([.agg [.sl z0 d0,.sl z1 d1,.sl z2 d2,.sl z3 d3,.sl z4 d4,.sl 25 (dfsC l)]]) (rB (decide (lgS_f l 0<=250))):=
 pu mdL (fun e=>[ai (↑((fun x=>List.length (Prod.snd x)) (z0,d0)):Int) (d0.length:Int) (by rfl),rp 3 (df ((d0.length:Int)>10) hx0),ai (↑((fun x=>List.length (Prod.snd x)) (z1,d1)):Int) (d1.length:Int) (by rfl),rp 2 (df ((d0.length:Int)>10) hx0),rp 3 (df ((d1.length:Int)>4) hx1),ai (↑((fun x=>List.length (Prod.snd x)) (z2,d2)):Int) (d2.length:Int) (by rfl),rp 2 (df ((d1.length:Int)>4) hx1),rp 3 (df ((d2.length:Int)>6) hx2),ai (↑((fun x=>List.length (Prod.snd x)) (z3,d3)):Int) (d3.length:Int) (by rfl),rp 2 (df ((d2.length:Int)>6) hx2),rp 3 (df ((d3.length:Int)>8) hx3),sl (dfsC_len l),rp 2 (df ((d3.length:Int)>8) hx3),df ((l.length:Int)>9) hx4,lp (S.mk [(0,.v (.agg [.sl z0 d0,.sl z1 d1,.sl z2 d2,.sl z3 d3,.sl z4 d4,.sl 25 (dfsC l)])),(1,.lp 1 0),(2,.v (.bool false)),(5,.lp 1 0),(6,vL z0 d0),(7,vI6 (d0.length:Int)),(8,.v (.bool (decide ((d0.length:Int)>10)))),(9,.v (.bool (decide ((d0.length:Int)>10)))),(10,.lp 1 1),(11,vL z1 d1),(12,vI6 (d1.length:Int)),(13,.v (.bool (decide ((d1.length:Int)>4)))),(14,.v (.bool (decide ((d1.length:Int)>4)))),(15,.v (.bool (decide ((d1.length:Int)>4)))),(16,.lp 1 2),(17,vL z2 d2),(18,vI6 (d2.length:Int)),(19,.v (.bool (decide ((d2.length:Int)>6)))),(20,.v (.bool (decide ((d2.length:Int)>6)))),(21,.v (.bool (decide ((d2.length:Int)>6)))),(22,.lp 1 3),(23,vL z3 d3),(24,vI6 (d3.length:Int)),(25,.v (.bool (decide ((d3.length:Int)>8)))),(26,.v (.bool (decide ((d3.length:Int)>8)))),(27,.v (.bool (decide ((d3.length:Int)>8)))),(28,.lp 1 5),(29,vL 25 (dfsC l)),(30,vI6 (l.length:Int)),(31,.v (.bool (decide ((l.length:Int)>9)))),(32,.v (.bool (decide ((l.length:Int)>9)))),(3,vI6 0),(4,vI6 0)] [(1,[vL z0 d0,vL z1 d1,vL z2 d2,vL z3 d3,vL z4 d4,vL 25 (dfsC l)])] e) (@lgS (d0) (d1) (d2) (d3) (d4) (z0) (z1) (z2) (z3) (z4) (l) hwn (0) (e) hll) ⟨⟨W,W,W,W,trivial⟩,⟨⟨W,W,W,W,W,W,trivial⟩,trivial⟩,rfl⟩]) Tryz.func8
end
def rLight_r0 (d0:List (List PV)) (d1:List (List PV)) (d2:List (List PV)) (d3:List (List PV)) (l:List Df):Bool:=(if (d0.length:Int)>10 then (false) else (if (d1.length:Int)>4 then (false) else (if (d2.length:Int)>6 then (false) else (if (d3.length:Int)>8 then (false) else (if (l.length:Int)>9 then (false) else (decide (lgS_f l 0<=250)))))))
theorem rLight (d0 d1 d2 d3 d4:List (List PV)) (z0 z1 z2 z3 z4:Nat) (l:List Df) (hwn:∀w,w∈l->Pu 9 [.agg (exL (dfB w))] (.ret (.int .i64 (nodes (dfB w))))) (hll:l.length<=1000000000):Pu 8 ([.agg [.sl z0 d0,.sl z1 d1,.sl z2 d2,.sl z3 d3,.sl z4 d4,.sl 25 (dfsC l)]]) (rB (rLight_r0 d0 d1 d2 d3 l)):=by
 by_cases h0:(d0.length:Int)>10
 ·rw [(show rLight_r0 d0 d1 d2 d3 l=(false) by unfold rLight_r0; rw [if_pos h0])]; exact rLight_1 d0 d1 d2 d3 d4 z0 z1 z2 z3 z4 l hwn hll h0
 ·by_cases h1:(d1.length:Int)>4
  ·rw [(show rLight_r0 d0 d1 d2 d3 l=(false) by unfold rLight_r0; rw [if_neg h0,if_pos h1])]; exact rLight_2 d0 d1 d2 d3 d4 z0 z1 z2 z3 z4 l hwn hll h0 h1
  ·by_cases h2:(d2.length:Int)>6
   ·rw [(show rLight_r0 d0 d1 d2 d3 l=(false) by unfold rLight_r0; rw [if_neg h0,if_neg h1,if_pos h2])]; exact rLight_3 d0 d1 d2 d3 d4 z0 z1 z2 z3 z4 l hwn hll h0 h1 h2
   ·by_cases h3:(d3.length:Int)>8
    ·rw [(show rLight_r0 d0 d1 d2 d3 l=(false) by unfold rLight_r0; rw [if_neg h0,if_neg h1,if_neg h2,if_pos h3])]; exact rLight_4 d0 d1 d2 d3 d4 z0 z1 z2 z3 z4 l hwn hll h0 h1 h2 h3
    ·by_cases h4:(l.length:Int)>9
     ·rw [(show rLight_r0 d0 d1 d2 d3 l=(false) by unfold rLight_r0; rw [if_neg h0,if_neg h1,if_neg h2,if_neg h3,if_pos h4])]; exact rLight_5 d0 d1 d2 d3 d4 z0 z1 z2 z3 z4 l hwn hll h0 h1 h2 h3 h4
     ·rw [(show rLight_r0 d0 d1 d2 d3 l=(decide (lgS_f l 0<=250)) by unfold rLight_r0; rw [if_neg h0,if_neg h1,if_neg h2,if_neg h3,if_neg h4])]; exact rLight_6 d0 d1 d2 d3 d4 z0 z1 z2 z3 z4 l hwn hll h0 h1 h2 h3 h4
section
variable (d0 d1 d2 d3 d4:List (List PV)) (z0 z1 z2 z3 z4:Nat) (l:List Df) (k:Int) (hk0:0<=k) (hk1:k<=255) (hll:l.length<=1000000000)
include d0 d1 d2 d3 d4 z0 z1 z2 z3 z4 l k hk0 hk1 hll
theorem rName_1 (hx0:(l.length:Int)=0):Pu 13 ([.agg [.sl z0 d0,.sl z1 d1,.sl z2 d2,.sl z3 d3,.sl z4 d4,.sl 25 (dfsC l)],.int .u8 k]) (.ret (.str (ByteArray.mk #[117,110,107,110,111,119,110]))):=
 pu mdL (fun e=>[sl (dfsC_len l),rp 3 (et (l.length:Int) 0 hx0),bt true]) Tryz.func13
theorem rName_2 (hx0:¬(l.length:Int)=0) (hx1:k>240):Pu 13 ([.agg [.sl z0 d0,.sl z1 d1,.sl z2 d2,.sl z3 d3,.sl z4 d4,.sl 25 (dfsC l)],.int .u8 k]) (.ret (.str (ByteArray.mk #[117,110,107,110,111,119,110]))):=
 pu mdL (fun e=>[sl (dfsC_len l),rp 3 (en (l.length:Int) 0 hx0),dt (k>240) hx1]) Tryz.func13
end
end Go.Proofs.YtgonmmckkikmaaaGreat
namespace Go.Proofs.YtgonmmckkikmaaaGreat
open Go.Pv
set_option maxRecDepth 100000
def ocV:Oc->Vl
 | .ok [v] _=>v
 | _=>default
def ocE:Oc->Int
 | .ok _ _=>0
 | .er k _ _=>k
def ocW:Oc->ByteArray
 | .ok _ _=>nm0
 | .er _ _ w=>w
theorem ocL_eq (o:Oc):ocL o=otL (ocV o) (ocE o) (ocW o) o.st:=by
 cases o with
 | er k st wh=>rfl
 | ok vs st=>
  match vs with
  | []=>rfl
  | [v]=>rfl
  | _::_::_=>rfl
theorem ocV_sm {o:Oc} (h:SmO o):SmV (ocV o):=by
 have hd:SmV default:=SmV_vX 0 0
 cases o with
 | er k st wh=>exact hd
 | ok vs st=>
  match vs,h with
  | [],_=>exact hd
  | [v],h=>exact h.1
  | _::_::_,_=>exact hd
def bnd1 (o:Option Oc) (k:Vl->Int->Option Oc):Option Oc:=match o with
 | some (.ok [v] s)=>k v s
 | some (.er c s w)=>some (.er c s w)
 | _=>none
theorem bnd1_some {o:Option Oc} {k:Vl->Int->Option Oc} {r:Oc} (h:bnd1 o k=some r):(∃v s,o=some (.ok [v] s)/\k v s=some r)∨∃c s w,o=some (.er c s w)/\r = .er c s w:=by
 unfold bnd1 at h
 split at h
 ·exact .inl ⟨_,_,rfl,h⟩
 ·injection h with h; exact .inr ⟨_,_,_,rfl,h.symm⟩
 ·cases h
def bndL (o:Option Oc) (k:List Vl->Int->Option Oc):Option Oc:=match o with
 | some (.ok vs s)=>k vs s
 | some (.er c s w)=>some (.er c s w)
 | _=>none
theorem bndL_some {o:Option Oc} {k:List Vl->Int->Option Oc} {r:Oc} (h:bndL o k=some r):(∃v s,o=some (.ok v s)/\k v s=some r)∨∃c s w,o=some (.er c s w)/\r = .er c s w:=by
 unfold bndL at h
 split at h
 ·exact .inl ⟨_,_,rfl,h⟩
 ·injection h with h; exact .inr ⟨_,_,_,rfl,h.symm⟩
 ·cases h
theorem ite_some {c:Prop} [Decidable c] {a b:Option Oc} {r:Oc} (h:(if c then a else b)=some r):(c/\a=some r)∨(¬c/\b=some r):=by
 by_cases hc:c
 ·rw [if_pos hc] at h; exact .inl ⟨hc,h⟩
 ·rw [if_neg hc] at h; exact .inr ⟨hc,h⟩
def evx (m:Sem) (l:List Df) (fu:Int):Nat->Tk->Int->ByteArray->Option Oc
 | 0,_,_,_=>none
 | n+1,.run d env,st,wh=>if fu<=st then some (.er 24 st wh) else evx m l fu n (.ex env (dfB d)) (st+1) (dfNm d)
 | n+1,.call d args,st,wh=>if dfM d=1 then some (.er 26 st wh) else if 0<(dfP d).length/\(dfP d).length=args.length then evx m l fu n (.run d (bnds (dfP d) args [])) st wh else some (.er 19 st wh)
 | n+1,.con d,st,wh=>if dfM d=1 then some (.er 26 st wh) else evx m l fu n (.run d []) st wh
 | _+1,.app _ _,_,_=>none
 | _+1,.li _ [],st,_=>some (.ok [] st)
 | n+1,.li env (x::xs),st,wh=>bnd1 (evx m l fu n (.ex env x) st wh) fun v s=>bndL (evx m l fu n (.li env xs) s wh) fun vs s2=>some (.ok (v::vs) s2)
 | n+1,.ex env x,st,wh=>
  if eRight_r0 (exO x) (exK x)=true then
   if exO x=1 then if nIn_r0 (exN x)=true then some (.ok [vI (exN x)] st) else none
   else if exO x=2 then some (.ok [vB (exN x != 0)] st)
   else if exO x=3 then match findB (exNm x) env with
    | some v=>some (.ok [v] st)
    | none=>match findD (exNm x) l with
     | none=>none
     | some d=>if 0<(dfP d).length then none else evx m l fu n (.con d) st wh
   else if exO x=5 then bndL (evx m l fu n (.li env (exK x)) st wh) fun vs s=>match findB (exNm x) env with
    | some _=>none
    | none=>match findD (exNm x) l with
     | none=>none
     | some d=>evx m l fu n (.call d vs) s wh
   else if exO x=7 then bnd1 (evx m l fu n (.ex env (kid x 0)) st wh) fun v s=>evx m l fu n (.ex (.mk (exNm x) v::env) (kid x 1)) s wh
   else if exO x=8 then bnd1 (evx m l fu n (.ex env (kid x 0)) st wh) fun v s=>if vlO v=2 then if vlN v=0 then evx m l fu n (.ex env (kid x 2)) s wh else evx m l fu n (.ex env (kid x 1)) s wh else none
   else if exO x=19∨exO x=20 then bnd1 (evx m l fu n (.ex env (kid x 0)) st wh) fun v s=>if vlO v=2 then if (vlN v != 0)=(exO x==20) then some (.ok [vB (vlN v != 0)] s) else bnd1 (evx m l fu n (.ex env (kid x 1)) s wh) fun u s2=>if vlO u=2 then some (.ok [vB (vlN u != 0)] s2) else none else none
   else if isOne (exO x) then bnd1 (evx m l fu n (.li env (exK x)) st wh) fun v s=>some (m.one (exO x) v s wh)
   else if isTwo (exO x) then bndL (evx m l fu n (.li env (exK x)) st wh) fun vs s=>match vs with
    | [v,u]=>some (m.two (exO x) v u s wh)
    | _=>none
   else none
  else none
theorem evx_ok {m:Sem} {l:List Df} {fu:Int}:∀ (n:Nat) (t:Tk) (st:Int) (wh:ByteArray) (o:Oc),evx m l fu n t st wh=some o->Ev m l fu t st wh o
 | 0,_,_,_,_,h=>by simp [evx] at h
 | n+1,.run d env,st,wh,o,h=>by
  simp only [evx] at h
  split at h
  ·injection h with h; subst h; exact .runF (by assumption)
  ·exact .runG (by omega) (evx_ok n _ _ _ _ h)
 | n+1,.call d args,st,wh,o,h=>by
  simp only [evx] at h
  split at h
  ·injection h with h; subst h; exact .callA (by assumption)
  ·split at h
   ·rename_i h1 h2; exact .callG h1 h2.1 h2.2 (evx_ok n _ _ _ _ h)
   ·injection h with h; subst h; exact .callN (by assumption) (by assumption)
 | n+1,.con d,st,wh,o,h=>by
  simp only [evx] at h
  split at h
  ·injection h with h; subst h; exact .conA (by assumption)
  ·exact .conG (by assumption) (evx_ok n _ _ _ _ h)
 | n+1,.app _ _,_,_,_,h=>by simp [evx] at h
 | n+1,.li env [],st,wh,o,h=>by
  simp only [evx] at h
  injection h with h; subst h; exact .liN
 | n+1,.li env (x::xs),st,wh,o,h=>by
  simp only [evx] at h
  rcases bnd1_some h with ⟨v,s,h1,h2⟩ | ⟨c,s,w,h1,rfl⟩
  ·rcases bndL_some h2 with ⟨vs,s2,h3,h4⟩ | ⟨c,s2,w,h3,rfl⟩
   ·injection h4 with h4; subst h4; exact .liC (evx_ok n _ _ _ _ h1) (evx_ok n _ _ _ _ h3)
   ·exact .liR (evx_ok n _ _ _ _ h1) (evx_ok n _ _ _ _ h3)
  ·exact .liE (evx_ok n _ _ _ _ h1)
 | n+1,.ex env x,st,wh,o,h=>by
  rw [evx] at h
  rcases ite_some h with ⟨hr,h⟩ | ⟨-,h⟩
  case inr=>cases h
  rcases ite_some h with ⟨h1,h⟩ | ⟨-,h⟩
  ·rcases ite_some h with ⟨h2,h⟩ | ⟨-,h⟩
   ·injection h with h; subst h; exact .exIo hr h1 h2
   ·cases h
  rcases ite_some h with ⟨h1,h⟩ | ⟨-,h⟩
  ·injection h with h; subst h; exact .exB hr h1
  rcases ite_some h with ⟨h1,h⟩ | ⟨-,h⟩
  ·cases hv:findB (exNm x) env with
   | some v=>rw [hv] at h; injection h with h; subst h; exact .exVb hr h1 hv
   | none=>
    rw [hv] at h
    cases hd:findD (exNm x) l with
    | none=>rw [hd] at h; cases h
    | some d=>
     rw [hd] at h
     rcases ite_some h with ⟨-,h⟩ | ⟨h2,h⟩
     ·cases h
     ·exact .exVc hr h1 hv hd h2 (evx_ok n _ _ _ _ h)
  rcases ite_some h with ⟨h1,h⟩ | ⟨-,h⟩
  ·rcases bndL_some h with ⟨vs,s,h2,h3⟩ | ⟨c,s,w,h2,rfl⟩
   ·cases hv:findB (exNm x) env with
    | some v=>rw [hv] at h3; cases h3
    | none=>
     rw [hv] at h3
     cases hd:findD (exNm x) l with
     | none=>rw [hd] at h3; cases h3
     | some d=>
      rw [hd] at h3
      exact .exKc hr h1 (evx_ok n _ _ _ _ h2) hv hd (evx_ok n _ _ _ _ h3)
   ·exact .exKe hr h1 (evx_ok n _ _ _ _ h2)
  rcases ite_some h with ⟨h1,h⟩ | ⟨-,h⟩
  ·rcases bnd1_some h with ⟨v,s,h2,h3⟩ | ⟨c,s,w,h2,rfl⟩
   ·exact .exTo hr h1 (evx_ok n _ _ _ _ h2) (evx_ok n _ _ _ _ h3)
   ·exact .exTe hr h1 (evx_ok n _ _ _ _ h2)
  rcases ite_some h with ⟨h1,h⟩ | ⟨-,h⟩
  ·rcases bnd1_some h with ⟨v,s,h2,h3⟩ | ⟨c,s,w,h2,rfl⟩
   ·rcases ite_some h3 with ⟨hb,h3⟩ | ⟨-,h3⟩
    ·rcases ite_some h3 with ⟨hz,h3⟩ | ⟨hz,h3⟩
     ·exact .exFf hr h1 (evx_ok n _ _ _ _ h2) hb hz (evx_ok n _ _ _ _ h3)
     ·exact .exFt hr h1 (evx_ok n _ _ _ _ h2) hb hz (evx_ok n _ _ _ _ h3)
    ·cases h3
   ·exact .exFe hr h1 (evx_ok n _ _ _ _ h2)
  rcases ite_some h with ⟨h1,h⟩ | ⟨-,h⟩
  ·rcases bnd1_some h with ⟨v,s,h2,h3⟩ | ⟨c,s,w,h2,rfl⟩
   ·rcases ite_some h3 with ⟨hb,h3⟩ | ⟨-,h3⟩
    ·rcases ite_some h3 with ⟨hz,h3⟩ | ⟨hz,h3⟩
     ·injection h3 with h3; subst h3
      exact .exAq hr h1 (evx_ok n _ _ _ _ h2) hb hz
     ·rcases bnd1_some h3 with ⟨u,s2,h4,h5⟩ | ⟨c,s2,w,h4,rfl⟩
      ·rcases ite_some h5 with ⟨hu,h5⟩ | ⟨-,h5⟩
       ·injection h5 with h5; subst h5
        exact .exAo hr h1 (evx_ok n _ _ _ _ h2) hb hz (evx_ok n _ _ _ _ h4) hu
       ·cases h5
      ·exact .exAr hr h1 (evx_ok n _ _ _ _ h2) hb hz (evx_ok n _ _ _ _ h4)
    ·cases h3
   ·exact .exAe hr h1 (evx_ok n _ _ _ _ h2)
  rcases ite_some h with ⟨h1,h⟩ | ⟨-,h⟩
  ·rcases bnd1_some h with ⟨v,s,h2,h3⟩ | ⟨c,s,w,h2,rfl⟩
   ·injection h3 with h3; subst h3
    exact .exOo hr h1 (evx_ok n _ _ _ _ h2)
   ·exact .exOe hr h1 (evx_ok n _ _ _ _ h2)
  rcases ite_some h with ⟨h1,h⟩ | ⟨-,h⟩
  ·rcases bndL_some h with ⟨vs,s,h2,h3⟩ | ⟨c,s,w,h2,rfl⟩
   ·match vs,h2,h3 with
    | [v,u],h2,h3=>
     injection h3 with h3; subst h3
     exact .exWo hr h1 (evx_ok n _ _ _ _ h2)
    | [],_,h3=>cases h3
    | [_],_,h3=>cases h3
    | _::_::_::_,_,h3=>cases h3
   ·exact .exWe hr h1 (evx_ok n _ _ _ _ h2)
  ·cases h
section
variable (c0 c1 c2 c3 c4:PV) (l:List Df) (fu:Int)
theorem eCons_ok (hx:PV.noX (mdM c0 c1 c2 c3 c4 l)=true) (hl:SmL l) {name:ByteArray} {o:Oc} (h:(findD name l=none/\o = .er 19 0 nm0)∨∃d,findD name l=some d/\((¬(dfP d).length=0/\o = .er 19 0 nm0)∨((dfP d).length=0/\Ev semE l (fl' fu) (.con d) 0 nm0 o))) :
  Pu 18 [mdM c0 c1 c2 c3 c4 l,.str name,.int .i64 fu] (.ret (.agg (ocL o))):=by
 have hr:CfR c0 c1 c2 c3 c4 l (fl' fu) 44 [.xp 1 0,.ro [.str name] 0] 0 nm0 o/\Sh (.con default) o:=by
  rcases h with ⟨h1,rfl⟩ | ⟨d,h1,h2⟩
  ·exact ⟨xcoU c0 c1 c2 c3 c4 l (fl' fu) 0 nm0 name hl.1 h1,trivial⟩
  ·rcases h2 with ⟨hp,rfl⟩ | ⟨hp,h2⟩
   ·exact ⟨xcoP c0 c1 c2 c3 c4 l (fl' fu) 0 nm0 name hl.1 d h1 hp,trivial⟩
   ·have hc:=conf c0 c1 c2 c3 c4 l (fl' fu) (fl_le fu).1 hl h2 (by omega) (hl.2 _ (findD_mem h1))
    refine ⟨?_,h2.shape.tr trivial trivial⟩
    cases o with
    | ok vs st=>exact fun v hv=>xcoT c0 c1 c2 c3 c4 l (fl' fu) 0 nm0 name hl.1 d h1 hp v st (hc v hv)
    | er k st wh=>exact xcoE c0 c1 c2 c3 c4 l (fl' fu) 0 nm0 name hl.1 d h1 hp k st wh hc
 obtain ⟨u,er,st1,wh1,ext1,h1,h2⟩:=exe_ok c0 c1 c2 c3 c4 l fu hr.2 hr.1
 rw [h1]
 refine Ob.pur_of_eff ?_ (by rw [CRes.noX]; exact otL_nx ..) (eConsL c0 c1 c2 c3 c4 l fu name u er st1 wh1 ext1 h2)
 have e2:PV.noX (.str name)=true:=rfl
 rw [noXs,hx,noXs,e2]
 rfl
end
end Go.Proofs.YtgonmmckkikmaaaGreat
namespace Go.Proofs.YtgonmmckkikmaaaGreat
open Go.Pv
set_option maxRecDepth 100000
section
variable {P:Program} {n:Nat} {t:TypeId} {cs:List PV}
theorem ty_str (hu:P.underlying t=some .string) (h:Ty P n t cs):∃s,cs=[.str s]:=by
 cases n with
 | zero=>exact h.elim
 | succ n=>simp only [Ty,hu] at h; obtain ⟨s,rfl, -⟩:=h; exact ⟨s,rfl⟩
theorem ty_int {k:IntKind} (hu:P.underlying t=some (.int k)) (h:Ty P n t cs):∃v,cs=[.int k v]/\(Lit.int k v).wf=true:=by
 cases n with
 | zero=>exact h.elim
 | succ n=>simp only [Ty,hu] at h; exact h
theorem ty_bool (hu:P.underlying t=some .bool) (h:Ty P n t cs):∃b,cs=[.bool b]:=by
 cases n with
 | zero=>exact h.elim
 | succ n=>simp only [Ty,hu] at h; exact h
theorem ty_struct {fs:Array Field} (hu:P.underlying t=some (.struct fs)) (h:Ty P n t cs):∃m,m<n/\TyF (Ty P m) fs.toList cs:=by
 cases n with
 | zero=>exact h.elim
 | succ n=>simp only [Ty,hu] at h; exact ⟨n,by omega,h⟩
theorem ty_slice {q:TypeId} (hu:P.underlying t=some (.slice q)) (h:Ty P n t cs):∃m es,m<n/\cs=[.sl (P.cellsOf q) es]/\∀x∈es,Ty P m q x:=by
 cases n with
 | zero=>exact h.elim
 | succ n=>simp only [Ty,hu] at h; obtain ⟨es,h1, -,h2⟩:=h; exact ⟨n,es,by omega,h1,h2⟩
theorem lst_of {α:Type} {mk:α->List PV}:∀ {es:List (List PV)},(∀x∈es,∃a,x=mk a)->∃l:List α,es=l.map mk
 | [],_=>⟨[],rfl⟩
 | x::r,h=>by
  obtain ⟨a,rfl⟩:=h x (by simp)
  obtain ⟨l,rfl⟩:=lst_of (es:=r) fun y hy=>h y (List.mem_cons_of_mem _ hy)
  exact ⟨a::l,rfl⟩
theorem ty_list {α:Type} {mk:α->List PV} {C:List α->List (List PV)} (hC:∀l,C l=l.map mk) {q:TypeId} (hu:P.underlying t=some (.slice q)) {z:Nat} (hz:P.cellsOf q=z) (h:Ty P n t cs) (he:∀m x,m<n->Ty P m q x->∃a,x=mk a):∃l,cs=[.sl z (C l)]:=by
 obtain ⟨m,es,hm,rfl,h2⟩:=ty_slice hu h
 obtain ⟨l,rfl⟩:=lst_of fun x hx=>he m x hm (h2 x hx)
 exact ⟨l,by rw [hC,hz]⟩
theorem noXs_append:∀a b:List PV,noXs (a++b)=(noXs a&&noXs b)
 | [],b=>by simp [noXs]
 | x::a,b=>by rw [List.cons_append,noXs,noXs,noXs_append a b,Bool.and_assoc]
theorem tyF_nx {T:TypeId->List PV->Prop} (hT:∀t cs,T t cs->noXs cs=true):∀ (fs:List Field) (cs:List PV),TyF T fs cs->noXs cs=true
 | [],cs,h=>by rw [h]; rfl
 | f::r,cs,h=>by
  obtain ⟨c,cs',rfl,h1,h2⟩:=h
  rw [noXs_append,hT _ _ h1,tyF_nx hT r cs' h2]; rfl
theorem noXss_of:∀ {es:List (List PV)},(∀x∈es,noXs x=true)->noXss es=true
 | [],_=>rfl
 | x::r,h=>by rw [noXss,h x (by simp),noXss_of fun y hy=>h y (List.mem_cons_of_mem _ hy)]; rfl
theorem ty_nx (P:Program):∀ (n:Nat) (t:TypeId) (cs:List PV),Ty P n t cs->noXs cs=true
 | 0,_,_,h=>h.elim
 | n+1,t,cs,h=>by
  unfold Ty at h
  split at h
  ·obtain ⟨b,rfl⟩:=h; rfl
  ·obtain ⟨b,rfl, -⟩:=h; rfl
  ·obtain ⟨b,rfl, -⟩:=h; rfl
  ·obtain ⟨es,rfl, -,h2⟩:=h
   simp only [noXs,PV.noX,Bool.and_true]
   exact noXss_of fun x hx=>ty_nx P n _ x (h2 x hx)
  ·exact tyF_nx (ty_nx P n) _ _ h
  ·exact h.elim
end
section
variable {n:Nat} {cs:List PV}
theorem ty_nms (h:Ty Tryz.prog n 50 cs):∃l,cs=[.sl 1 (nmsC l)]:=
 ty_list (mk:=fun s=>[.str s]) nmsC_eq Tryz.underlying50 (by kernel_rfl) h fun m x _ hx=>ty_str Tryz.underlying9 hx
theorem ty_pr:∀ (n:Nat) (cs:List PV),Ty Tryz.prog n 82 cs->∃x:Pr,cs=prL x:=by
 intro n
 induction n using Nat.strongRecOn with
 | _ n ih=>
  intro cs h
  obtain ⟨m,hm,h⟩:=ty_struct Tryz.underlying82 h
  obtain ⟨c1,r1,rfl,h1,c2,r2,rfl,h2,c3,r3,rfl,h3,c4,r4,rfl,h4,rfl⟩:=h
  obtain ⟨o,rfl, -⟩:=ty_int Tryz.underlying79 h1
  obtain ⟨s,rfl⟩:=ty_str Tryz.underlying9 h2
  obtain ⟨k,rfl, -⟩:=ty_int Tryz.underlying3 h3
  obtain ⟨l,rfl⟩:=ty_list (z:=4) Pr.cs_eq Tryz.underlying80 (by kernel_rfl) h4 fun m' x hm' hx=>ih m' (by omega) x hx
  exact ⟨.mk o s k l,rfl⟩
theorem ty_prs (h:Ty Tryz.prog n 80 cs):∃l,cs=[.sl 4 (Pr.cs l)]:=
 ty_list (z:=4) Pr.cs_eq Tryz.underlying80 (by kernel_rfl) h fun m x _ hx=>ty_pr m x hx
theorem ty_tp:∀ (n:Nat) (cs:List PV),Ty Tryz.prog n 84 cs->∃x:Tp,cs=tpL x:=by
 intro n
 induction n using Nat.strongRecOn with
 | _ n ih=>
  intro cs h
  obtain ⟨m,hm,h⟩:=ty_struct Tryz.underlying84 h
  obtain ⟨c1,r1,rfl,h1,c2,r2,rfl,h2,c3,r3,rfl,h3,c4,r4,rfl,h4,c5,r5,rfl,h5,c6,r6,rfl,h6,rfl⟩:=h
  obtain ⟨o,rfl, -⟩:=ty_int Tryz.underlying78 h1
  obtain ⟨s,rfl⟩:=ty_str Tryz.underlying9 h2
  obtain ⟨l,rfl⟩:=ty_list (z:=9) Tp.cs_eq Tryz.underlying35 (by kernel_rfl) h3 fun m' x hm' hx=>ih m' (by omega) x hx
  obtain ⟨ns,rfl⟩:=ty_nms h4
  obtain ⟨p,rfl⟩:=ty_pr _ _ h5
  obtain ⟨ps,rfl⟩:=ty_prs h6
  exact ⟨.mk o s l ns p ps,rfl⟩
theorem ty_tps (h:Ty Tryz.prog n 35 cs):∃l,cs=[.sl 9 (Tp.cs l)]:=
 ty_list (z:=9) Tp.cs_eq Tryz.underlying35 (by kernel_rfl) h fun m x _ hx=>ty_tp m x hx
theorem ty_pm (h:Ty Tryz.prog n 172 cs):∃x:Pm,cs=pmL x:=by
 obtain ⟨m,hm,h⟩:=ty_struct Tryz.underlying172 h
 obtain ⟨c1,r1,rfl,h1,c2,r2,rfl,h2,rfl⟩:=h
 obtain ⟨s,rfl⟩:=ty_str Tryz.underlying9 h1
 obtain ⟨p,rfl⟩:=ty_tp _ _ h2
 exact ⟨.mk s p,rfl⟩
theorem ty_ex:∀ (n:Nat) (cs:List PV),Ty Tryz.prog n 37 cs->∃x:Ex,cs=exL x:=by
 intro n
 induction n using Nat.strongRecOn with
 | _ n ih=>
  intro cs h
  obtain ⟨m,hm,h⟩:=ty_struct Tryz.underlying37 h
  obtain ⟨c1,r1,rfl,h1,c2,r2,rfl,h2,c3,r3,rfl,h3,c4,r4,rfl,h4,c5,r5,rfl,h5,c6,r6,rfl,h6,c7,r7,rfl,h7,rfl⟩:=h
  obtain ⟨o,rfl, -⟩:=ty_int Tryz.underlying31 h1
  obtain ⟨s,rfl⟩:=ty_str Tryz.underlying9 h2
  obtain ⟨k,rfl, -⟩:=ty_int Tryz.underlying3 h3
  obtain ⟨ks,rfl⟩:=ty_list (z:=7) Ex.cs_eq Tryz.underlying32 (by kernel_rfl) h4 fun m' x hm' hx=>ih m' (by omega) x hx
  obtain ⟨ps,rfl⟩:=ty_list (z:=10) pmsC_eq Tryz.underlying33 (by kernel_rfl) h5 fun m' x hm' hx=>ty_pm hx
  obtain ⟨al,rfl⟩:=ty_list (z:=9) Al.cs_eq Tryz.underlying34 (by kernel_rfl) h6 fun m' x hm' hx=>by
   obtain ⟨m2,hm2,hx⟩:=ty_struct Tryz.underlying134 hx
   obtain ⟨d1,r1,rfl,k1,d2,r2,rfl,k2,d3,r3,rfl,k3,rfl⟩:=hx
   obtain ⟨s,rfl⟩:=ty_str Tryz.underlying9 k1
   obtain ⟨ns,rfl⟩:=ty_nms k2
   obtain ⟨b,rfl⟩:=ih m2 (by omega) _ k3
   exact ⟨.mk s ns b,by simp only [alL,alC,alNs,alB,List.cons_append,List.nil_append,List.append_nil]⟩
  obtain ⟨ts,rfl⟩:=ty_tps h7
  exact ⟨.mk o s k ks ps al ts,rfl⟩
theorem ty_exs (h:Ty Tryz.prog n 32 cs):∃l,cs=[.sl 7 (Ex.cs l)]:=
 ty_list (z:=7) Ex.cs_eq Tryz.underlying32 (by kernel_rfl) h fun m x _ hx=>ty_ex m x hx
theorem ty_vl:∀ (n:Nat) (cs:List PV),Ty Tryz.prog n 52 cs->∃x:Vl,cs=vlL x:=by
 intro n
 induction n using Nat.strongRecOn with
 | _ n ih=>
  intro cs h
  obtain ⟨m,hm,h⟩:=ty_struct Tryz.underlying52 h
  obtain ⟨c1,r1,rfl,h1,c2,r2,rfl,h2,c3,r3,rfl,h3,c4,r4,rfl,h4,c5,r5,rfl,h5,c6,r6,rfl,h6,c7,r7,rfl,h7,rfl⟩:=h
  obtain ⟨o,rfl, -⟩:=ty_int Tryz.underlying49 h1
  obtain ⟨k,rfl, -⟩:=ty_int Tryz.underlying3 h2
  obtain ⟨s,rfl⟩:=ty_str Tryz.underlying9 h3
  obtain ⟨ks,rfl⟩:=ty_list (z:=7) Vl.cs_eq Tryz.underlying43 (by kernel_rfl) h4 fun m' x hm' hx=>ih m' (by omega) x hx
  obtain ⟨ps,rfl⟩:=ty_nms h5
  obtain ⟨bs,rfl⟩:=ty_exs h6
  obtain ⟨bd,rfl⟩:=ty_list (z:=8) Bd.cs_eq Tryz.underlying30 (by kernel_rfl) h7 fun m' x hm' hx=>by
   obtain ⟨m2,hm2,hx⟩:=ty_struct Tryz.underlying66 hx
   obtain ⟨d1,r1,rfl,k1,d2,r2,rfl,k2,rfl⟩:=hx
   obtain ⟨s,rfl⟩:=ty_str Tryz.underlying9 k1
   obtain ⟨b,rfl⟩:=ih m2 (by omega) _ k2
   exact ⟨.mk s b,by simp only [bdL,bdNm,bdV,List.cons_append,List.nil_append,List.append_nil]⟩
  exact ⟨.mk o k s ks ps bs bd,rfl⟩
theorem ty_bds (h:Ty Tryz.prog n 30 cs):∃l,cs=[.sl 8 (Bd.cs l)]:=
 ty_list (z:=8) Bd.cs_eq Tryz.underlying30 (by kernel_rfl) h fun m x _ hx=>by
  obtain ⟨m2,hm2,hx⟩:=ty_struct Tryz.underlying66 hx
  obtain ⟨d1,r1,rfl,k1,d2,r2,rfl,k2,rfl⟩:=hx
  obtain ⟨s,rfl⟩:=ty_str Tryz.underlying9 k1
  obtain ⟨b,rfl⟩:=ty_vl _ _ k2
  exact ⟨.mk s b,by simp only [bdL,bdNm,bdV,List.cons_append,List.nil_append,List.append_nil]⟩
theorem ty_df (h:Ty Tryz.prog n 88 cs):∃x:Df,cs=dfL x:=by
 obtain ⟨m,hm,h⟩:=ty_struct Tryz.underlying88 h
 obtain ⟨c1,r1,rfl,h1,c2,r2,rfl,h2,c3,r3,rfl,h3,c4,r4,rfl,h4,c5,r5,rfl,h5,c6,r6,rfl,h6,rfl⟩:=h
 obtain ⟨s,rfl⟩:=ty_str Tryz.underlying9 h1
 obtain ⟨ps,rfl⟩:=ty_nms h2
 obtain ⟨b,rfl⟩:=ty_ex _ _ h3
 obtain ⟨k,rfl, -⟩:=ty_int Tryz.underlying74 h4
 obtain ⟨y,rfl⟩:=ty_bool Tryz.underlying4 h5
 obtain ⟨m2,hm2,h6⟩:=ty_struct Tryz.underlying86 h6
 obtain ⟨d1,q1,rfl,k1,d2,q2,rfl,k2,d3,q3,rfl,k3,d4,q4,rfl,k4,d5,q5,rfl,k5,d6,q6,rfl,k6,rfl⟩:=h6
 obtain ⟨vs,rfl⟩:=ty_nms k1
 obtain ⟨m3,e3, -,rfl, -⟩:=ty_slice Tryz.underlying75 k2
 obtain ⟨m4,e4, -,rfl, -⟩:=ty_slice Tryz.underlying76 k3
 obtain ⟨m5,e5, -,rfl, -⟩:=ty_slice Tryz.underlying77 k4
 obtain ⟨tp,rfl⟩:=ty_tp _ _ k5
 obtain ⟨me,rfl⟩:=ty_prs k6
 exact ⟨.mk s ps b k y vs _ _ _ tp me,rfl⟩
theorem ty_mod (h:Ty Tryz.prog n 29 cs):∃ (z0 z1 z2 z3 z4:Nat) (d0 d1 d2 d3 d4:List (List PV)) (l:List Df),cs=[.sl z0 d0,.sl z1 d1,.sl z2 d2,.sl z3 d3,.sl z4 d4,.sl 25 (dfsC l)]:=by
 obtain ⟨m,hm,h⟩:=ty_struct Tryz.underlying29 h
 obtain ⟨c1,r1,rfl,h1,c2,r2,rfl,h2,c3,r3,rfl,h3,c4,r4,rfl,h4,c5,r5,rfl,h5,c6,r6,rfl,h6,rfl⟩:=h
 obtain ⟨m1,e1, -,rfl, -⟩:=ty_slice Tryz.underlying22 h1
 obtain ⟨m2,e2, -,rfl, -⟩:=ty_slice Tryz.underlying23 h2
 obtain ⟨m3,e3, -,rfl, -⟩:=ty_slice Tryz.underlying24 h3
 obtain ⟨m4,e4, -,rfl, -⟩:=ty_slice Tryz.underlying25 h4
 obtain ⟨m5,e5, -,rfl, -⟩:=ty_slice Tryz.underlying26 h5
 obtain ⟨l,rfl⟩:=ty_list (z:=25) dfsC_eq Tryz.underlying27 (by kernel_rfl) h6 fun m' x hm' hx=>ty_df hx
 exact ⟨_,_,_,_,_,_,_,_,_,_,l,rfl⟩
end
theorem SmVs_of:∀ {l:List Vl},(∀v∈l,SmV v)->SmVs l
 | [],_=>SmVs_nil
 | v::r,h=>by rw [SmVs]; exact ⟨h v (by simp),SmVs_of fun w hw=>h w (List.mem_cons_of_mem _ hw)⟩
theorem SmBs_of:∀ {l:List Bd},(∀b∈l,SmV (bdV b))->SmBs l
 | [],_=>SmBs_nil
 | v::r,h=>by rw [SmBs_cons]; exact ⟨h v (by simp),SmBs_of fun w hw=>h w (List.mem_cons_of_mem _ hw)⟩
theorem sm_bulk:∀ (d:Nat) (v:Vl),szV v<d->szV v<=100000000->SmV v
 | 0,_,h,_=>by omega
 | d+1,v,h,hs=>by
  have h1:=szV_eq v
  have h2:=vals_bulk (vlK v)
  have h3:=bds_bulk (vlBd v)
  have h4:=kids_bulk (vlB v)
  have h5:=nms_bulk (vlP v)
  have h6:SmVs (vlK v):=SmVs_of fun w hw=>sm_bulk d w (by have:=val_bulk hw; omega) (by have:=val_bulk hw; omega)
  have h7:SmBs (vlBd v):=SmBs_of fun b hb=>sm_bulk d (bdV b) (by have:=bdv_bulk hb; omega) (by have:=bdv_bulk hb; omega)
  have h8:∀x∈vlB v,szE x<=100000000:=fun x hx=>by have:=exs_bulk hx; omega
  cases v with
  | mk op n name kids params body binds=>
   simp only [vlK,vlP,vlB,vlBd] at *
   rw [SmV]
   exact ⟨by omega,by omega,by omega,h8,h6,h7⟩
theorem SmV_bulk {v:Vl} (h:szV v<=100000000):SmV v:=sm_bulk _ v (Nat.lt_succ_self _) h
theorem SmVs_bulk {l:List Vl} (h:bulkPss (Vl.cs l)<=100000000):SmVs l:=SmVs_of fun v hv=>SmV_bulk (by have:=val_bulk hv; omega)
theorem SmBs_bulk {l:List Bd} (h:bulkPss (Bd.cs l)<=100000000):SmBs l:=SmBs_of fun v hv=>SmV_bulk (by have:=bdv_bulk hv; omega)
theorem df_bulk (d:Df):bulkPss (nmsC (dfP d))+szE (dfB d)+1<=bulkPs (dfL d):=by
 show _<=bulkPs (.str (dfNm d) :: .sl 1 (nmsC (dfP d))::(exL (dfB d)++_))
 rw [bulkPs,bulkPs,bulkPs_append]
 simp only [bulkP]
 unfold szE
 omega
theorem dfs_bulk {l:List Df} {d:Df} (h:d∈l):bulkPs (dfL d)<=bulkPss (dfsC l):=mem_bulk (by rw [dfsC_eq]; exact List.mem_map_of_mem h)
theorem SmL_bulk {l:List Df} (h:bulkPss (dfsC l)<=100000000):SmL l:=by
 refine ⟨?_,fun d hd=>?_⟩
 ·have:=len_bulk (l:=dfsC l) fun c hc=>by
   rw [dfsC_eq] at hc
   obtain ⟨x, -,rfl⟩:=List.mem_map.1 hc
   have:=df_bulk x
   omega
  rw [dfsC_len] at this
  omega
 ·have h1:=df_bulk d
  have h2:=dfs_bulk hd
  have h3:=nms_bulk (dfP d)
  exact ⟨by omega,by omega⟩
end Go.Proofs.YtgonmmckkikmaaaGreat
namespace Go.Proofs.YtgonmmckkikmaaaGreat
open Go.Pv
set_option maxRecDepth 100000
theorem getD_mem' {α:Type} [Inhabited α] {l:List α} {i:Nat} (h:i<l.length):l.getD i default∈l:=by simp [List.getD,h]
abbrev snS_I (l:List ByteArray) (j:Int)  (e:Ext):S:=S.mk [(0,vL 1 (nmsC l)),(1,vL 1 (nmsC l)),(5,vI6 j)] [] e
theorem snS_b1 (l:List ByteArray) (i:Nat)  (e:Ext) (hi:i<l.length) (hN:l.length<=1000000000)  (cx:Cx) (hcx:cx.n=26) {Q:PExit->S->Prop} (hq:Q (.normal) (S.mk [(0,vL 1 (nmsC l)),(1,vL 1 (nmsC l)),(5,vI6 ((i:Int)+1))] [] e)):PW Tryz.prog cx (loopF Tryz.f97 0) (snS_I l (i:Int) e) Q:=
 pw mdL 26 [sl (nmsC_len l),dt ((i:Int)<(l.length:Int)),am ((0:Int)<=(i:Int)/\(i:Int)<((nmsC l).length:Int)) (by (simp only [nmsC_len]; omega)),xNm l i hi,am ((0:Int)<=(i:Int)/\(i:Int)<((nmsC l).length:Int)) (by (simp only [nmsC_len]; omega)),xNm l i hi,bf (!ByteArray.toList (List.getD l i nm0)==ByteArray.toList (List.getD l i nm0)) (bnF (bsT (by rfl))),wr ((i:Int)+1)] [0,1,5,4] [] hcx hq
theorem snS_z1 (l:List ByteArray) (i:Nat)  (e:Ext) (hi:i=l.length) (hN:l.length<=1000000000)  (cx:Cx) (hcx:cx.n=26) {Q:PExit->S->Prop} (hq:Q (.exit 0) (S.mk [(0,vL 1 (nmsC l)),(1,vL 1 (nmsC l)),(5,vI6 (i:Int))] [] e)):PW Tryz.prog cx (loopF Tryz.f97 0) (snS_I l (i:Int) e) Q:=
 pw mdL 26 [sl (nmsC_len l),df ((i:Int)<(l.length:Int))] [0,1,5,4] [] hcx hq
def snS_q (l:List ByteArray) (e:Ext):PExit × S:=(.exit 0,S.mk [(0,vL 1 (nmsC l)),(1,vL 1 (nmsC l))] [] e)
theorem snS_lp (l:List ByteArray) (e:Ext) (hN:l.length<=1000000000) (i:Nat)  (hi0:i<=l.length)  : (Ob.loop 26 (loopF Tryz.f97 0) (snS_I l (i:Int)  e) (snS_q l e).1 (snS_q l e).2).ok Tryz.prog:=by
 refine Ob.loop_of (P:=Tryz.prog) (α:={ zz:Nat × Unit // zz.1<=l.length }) (fun zz=>snS_I l (zz.1.1:Int)  e) (fun zz=>l.length - zz.1.1) (fun zz=>(snS_q l e)) ?_ ⟨(i,()),hi0⟩
 clear hi0
 clear  i
 rintro ⟨⟨i,u⟩,hi⟩ cx hcx
 simp only at hi  ⊢
 rcases Nat.lt_or_ge i (l.length) with hlt | hge
 ·have hd:=drop_at0 hlt
  exact snS_b1 l i  e hlt hN   cx hcx (.inl ⟨rfl,⟨((i+1),()),by simp only; omega⟩,by simp only; omega,⟨⟨W,W,W,trivial⟩,trivial,rfl⟩,by trivial⟩)
 ·have he:i=l.length:=by omega
  subst he
  refine snS_z1 l (l.length)  e rfl hN   cx hcx (.inr ?_)
  exact ⟨by simp,rfl,⟨⟨W,W,trivial⟩,trivial,rfl⟩⟩
theorem snS (l:List ByteArray)  (e:Ext) (hN:l.length<=1000000000)  : (Ob.loop 26 (loopF Tryz.f97 0) (snS_I l 0  e) (snS_q l e).1 (snS_q l e).2).ok Tryz.prog:=by
 have:=snS_lp l e hN 0  (Nat.zero_le _)
 exact this
theorem rSameNames (l:List ByteArray) (hll:l.length<=1000000000):Pu 97 ([.sl 1 (nmsC l),.sl 1 (nmsC l)]) (rB true):=
 pu mdL (fun e=>[rp 2 (sl (nmsC_len l)),nn (l.length:Int) (l.length:Int),lp (S.mk [(0,vL 1 (nmsC l)),(1,vL 1 (nmsC l)),(4,.v (.bool false)),(6,vL 1 (nmsC l)),(7,vI6 (l.length:Int)),(8,vL 1 (nmsC l)),(9,vI6 (l.length:Int)),(10,.v (.bool ((l.length:Int) != (l.length:Int)))),(5,vI6 0)] [] e) (@snS (l) (e) hll) ⟨⟨W,W,W,trivial⟩,trivial,rfl⟩]) Tryz.func97
abbrev spS_I (x:Pr) (j:Int)  (e:Ext):S:=S.mk [(2,.lp 2 0),(3,.lp 3 0),(36,vI6 ((prK x).length:Int)),(37,vI6 j)] [(2,[vI6 (prO x),vS (prNm x),vI6 (prN x),vL 4 (Pr.cs (prK x))]),(3,[vI6 (prO x),vS (prNm x),vI6 (prN x),vL 4 (Pr.cs (prK x))])] e
section
variable (x:Pr) (hwk:∀w,w∈prK x->Pu 160 [.agg (prL w),.agg (prL w)] (.ret (.bool true))) (i:Nat) (e:Ext)
include x hwk i e
theorem spS_b1 (hi:i<(prK x).length) (hN:(prK x).length<=1000000000) (cx:Cx) (hcx:cx.n=53) {Q:PExit->S->Prop} (hq:Q (.normal) (S.mk [(2,.lp 2 0),(3,.lp 3 0),(36,vI6 ((prK x).length:Int)),(37,vI6 ((i:Int)+1))] [(2,[vI6 (prO x),vS (prNm x),vI6 (prN x),vL 4 (Pr.cs (prK x))]),(3,[vI6 (prO x),vS (prNm x),vI6 (prN x),vL 4 (Pr.cs (prK x))])] e)):PW Tryz.prog cx (loopF Tryz.f160 0) (spS_I x (i:Int) e) Q:=
 pw mdL 53 [dt ((i:Int)<((prK x).length:Int)),am ((0:Int)<=(i:Int)/\(i:Int)<((Pr.cs (prK x)).length:Int)) (by (simp only [Pr.cs_len]; omega)),xPr (prK x) i hi,am ((0:Int)<=(i:Int)/\(i:Int)<((Pr.cs (prK x)).length:Int)) (by (simp only [Pr.cs_len]; omega)),xPr (prK x) i hi,cl (@hwk (List.getD (prK x) i default) (by simp_all)),bf false,wr ((i:Int)+1)] [2,3,36,37,4] [2,3] hcx hq
theorem spS_z1 (hi:i=(prK x).length) (hN:(prK x).length<=1000000000) (cx:Cx) (hcx:cx.n=53) {Q:PExit->S->Prop} (hq:Q (.exit 0) (S.mk [(2,.lp 2 0),(3,.lp 3 0),(36,vI6 ((prK x).length:Int)),(37,vI6 (i:Int))] [(2,[vI6 (prO x),vS (prNm x),vI6 (prN x),vL 4 (Pr.cs (prK x))]),(3,[vI6 (prO x),vS (prNm x),vI6 (prN x),vL 4 (Pr.cs (prK x))])] e)):PW Tryz.prog cx (loopF Tryz.f160 0) (spS_I x (i:Int) e) Q:=
 pw mdL 53 [df ((i:Int)<((prK x).length:Int))] [2,3,36,37,4] [2,3] hcx hq
end
def spS_q (x:Pr) (e:Ext):PExit × S:=(.exit 0,S.mk [(2,.lp 2 0),(3,.lp 3 0),(36,vI6 ((prK x).length:Int))] [(2,[vI6 (prO x),vS (prNm x),vI6 (prN x),vL 4 (Pr.cs (prK x))]),(3,[vI6 (prO x),vS (prNm x),vI6 (prN x),vL 4 (Pr.cs (prK x))])] e)
theorem spS_lp (x:Pr) (hwk:∀w,w∈prK x->Pu 160 [.agg (prL w),.agg (prL w)] (.ret (.bool true))) (e:Ext) (hN:(prK x).length<=1000000000) (i:Nat)  (hi0:i<=(prK x).length)  : (Ob.loop 53 (loopF Tryz.f160 0) (spS_I x (i:Int)  e) (spS_q x e).1 (spS_q x e).2).ok Tryz.prog:=by
 refine Ob.loop_of (P:=Tryz.prog) (α:={ zz:Nat × Unit // zz.1<=(prK x).length }) (fun zz=>spS_I x (zz.1.1:Int)  e) (fun zz=>(prK x).length - zz.1.1) (fun zz=>(spS_q x e)) ?_ ⟨(i,()),hi0⟩
 clear hi0
 clear  i
 rintro ⟨⟨i,u⟩,hi⟩ cx hcx
 simp only at hi  ⊢
 rcases Nat.lt_or_ge i ((prK x).length) with hlt | hge
 ·have hd:=drop_at hlt
  exact spS_b1 x hwk i  e hlt hN   cx hcx (.inl ⟨rfl,⟨((i+1),()),by simp only; omega⟩,by simp only; omega,⟨⟨W,W,W,W,trivial⟩,⟨Ws,Ws,trivial⟩,rfl⟩,by trivial⟩)
 ·have he:i=(prK x).length:=by omega
  subst he
  refine spS_z1 x hwk ((prK x).length)  e rfl hN   cx hcx (.inr ?_)
  exact ⟨by simp,rfl,⟨⟨W,W,W,trivial⟩,⟨Ws,Ws,trivial⟩,rfl⟩⟩
theorem spS (x:Pr) (hwk:∀w,w∈prK x->Pu 160 [.agg (prL w),.agg (prL w)] (.ret (.bool true)))  (e:Ext) (hN:(prK x).length<=1000000000)  : (Ob.loop 53 (loopF Tryz.f160 0) (spS_I x 0  e) (spS_q x e).1 (spS_q x e).2).ok Tryz.prog:=by
 have:=spS_lp x hwk e hN 0  (Nat.zero_le _)
 exact this
theorem rSamePred (x:Pr) (hwk:∀w,w∈prK x->Pu 160 [.agg (prL w),.agg (prL w)] (.ret (.bool true))) (hll:(prK x).length<=1000000000):Pu 160 ([.agg (prL x),.agg (prL x)]) (rB true):=
 pu mdL (fun e=>[rp 6 (nn (prO x) (prO x)),rp 6 (bf (!ByteArray.toList (prNm x)==ByteArray.toList (prNm x)) (bnF (bsT (by rfl)))),rp 3 (nn (prN x) (prN x)),sl (Pr.cs_len (prK x)),rp 3 (nn (prN x) (prN x)),sl (Pr.cs_len (prK x)),rp 2 (nn (prN x) (prN x)),nn ((prK x).length:Int) ((prK x).length:Int),sl (Pr.cs_len (prK x)),lp (S.mk [(0,.v (.agg (prL x))),(1,.v (.agg (prL x))),(2,.lp 2 0),(3,.lp 3 0),(4,.v (.bool false)),(6,.lp 2 0),(7,vI6 (prO x)),(8,.lp 3 0),(9,vI6 (prO x)),(10,.v (.bool (prO x != prO x))),(11,.v (.bool (prO x != prO x))),(12,.lp 2 1),(13,vS (prNm x)),(14,.lp 3 1),(15,vS (prNm x)),(16,.v (.bool !ByteArray.toList (prNm x)==ByteArray.toList (prNm x))),(17,.v (.bool !ByteArray.toList (prNm x)==ByteArray.toList (prNm x))),(18,.v (.bool !ByteArray.toList (prNm x)==ByteArray.toList (prNm x))),(19,.lp 2 2),(20,vI6 (prN x)),(21,.lp 3 2),(22,vI6 (prN x)),(23,.v (.bool (prN x != prN x))),(24,.v (.bool (prN x != prN x))),(25,.v (.bool (prN x != prN x))),(26,.lp 2 3),(27,vL 4 (Pr.cs (prK x))),(28,vI6 ((prK x).length:Int)),(29,.lp 3 3),(30,vL 4 (Pr.cs (prK x))),(31,vI6 ((prK x).length:Int)),(32,.v (.bool (((prK x).length:Int) != ((prK x).length:Int)))),(33,.v (.bool (((prK x).length:Int) != ((prK x).length:Int)))),(34,.lp 2 3),(35,vL 4 (Pr.cs (prK x))),(36,vI6 ((prK x).length:Int)),(37,vI6 0)] [(2,[vI6 (prO x),vS (prNm x),vI6 (prN x),vL 4 (Pr.cs (prK x))]),(3,[vI6 (prO x),vS (prNm x),vI6 (prN x),vL 4 (Pr.cs (prK x))])] e) (@spS (x) hwk (e) hll) ⟨⟨W,W,W,W,trivial⟩,⟨⟨W,W,W,W,trivial⟩,⟨W,W,W,W,trivial⟩,trivial⟩,rfl⟩]) Tryz.func160
abbrev stS_I (l:List Tp) (j:Int)  (e:Ext):S:=S.mk [(0,vL 9 (Tp.cs l)),(1,vL 9 (Tp.cs l)),(5,vI6 j)] [] e
section
variable (l:List Tp) (hwk:∀w,w∈l->Pu 144 [.agg (tpL w),.agg (tpL w)] (.ret (.bool true))) (i:Nat) (e:Ext)
include l hwk i e
theorem stS_b1 (hi:i<l.length) (hN:l.length<=1000000000) (cx:Cx) (hcx:cx.n=27) {Q:PExit->S->Prop} (hq:Q (.normal) (S.mk [(0,vL 9 (Tp.cs l)),(1,vL 9 (Tp.cs l)),(5,vI6 ((i:Int)+1))] [] e)):PW Tryz.prog cx (loopF Tryz.f122 0) (stS_I l (i:Int) e) Q:=
 pw mdL 27 [sl (Tp.cs_len l),dt ((i:Int)<(l.length:Int)),am ((0:Int)<=(i:Int)/\(i:Int)<((Tp.cs l).length:Int)) (by (simp only [Tp.cs_len]; omega)),xTp l i hi,am ((0:Int)<=(i:Int)/\(i:Int)<((Tp.cs l).length:Int)) (by (simp only [Tp.cs_len]; omega)),xTp l i hi,cl (@hwk (List.getD l i default) (by simp_all)),bf false,wr ((i:Int)+1)] [0,1,5,4] [] hcx hq
theorem stS_z1 (hi:i=l.length) (hN:l.length<=1000000000) (cx:Cx) (hcx:cx.n=27) {Q:PExit->S->Prop} (hq:Q (.exit 0) (S.mk [(0,vL 9 (Tp.cs l)),(1,vL 9 (Tp.cs l)),(5,vI6 (i:Int))] [] e)):PW Tryz.prog cx (loopF Tryz.f122 0) (stS_I l (i:Int) e) Q:=
 pw mdL 27 [sl (Tp.cs_len l),df ((i:Int)<(l.length:Int))] [0,1,5,4] [] hcx hq
end
def stS_q (l:List Tp) (e:Ext):PExit × S:=(.exit 0,S.mk [(0,vL 9 (Tp.cs l)),(1,vL 9 (Tp.cs l))] [] e)
theorem stS_lp (l:List Tp) (hwk:∀w,w∈l->Pu 144 [.agg (tpL w),.agg (tpL w)] (.ret (.bool true))) (e:Ext) (hN:l.length<=1000000000) (i:Nat)  (hi0:i<=l.length)  : (Ob.loop 27 (loopF Tryz.f122 0) (stS_I l (i:Int)  e) (stS_q l e).1 (stS_q l e).2).ok Tryz.prog:=by
 refine Ob.loop_of (P:=Tryz.prog) (α:={ zz:Nat × Unit // zz.1<=l.length }) (fun zz=>stS_I l (zz.1.1:Int)  e) (fun zz=>l.length - zz.1.1) (fun zz=>(stS_q l e)) ?_ ⟨(i,()),hi0⟩
 clear hi0
 clear  i
 rintro ⟨⟨i,u⟩,hi⟩ cx hcx
 simp only at hi  ⊢
 rcases Nat.lt_or_ge i (l.length) with hlt | hge
 ·have hd:=drop_at hlt
  exact stS_b1 l hwk i  e hlt hN   cx hcx (.inl ⟨rfl,⟨((i+1),()),by simp only; omega⟩,by simp only; omega,⟨⟨W,W,W,trivial⟩,trivial,rfl⟩,by trivial⟩)
 ·have he:i=l.length:=by omega
  subst he
  refine stS_z1 l hwk (l.length)  e rfl hN   cx hcx (.inr ?_)
  exact ⟨by simp,rfl,⟨⟨W,W,trivial⟩,trivial,rfl⟩⟩
theorem stS (l:List Tp) (hwk:∀w,w∈l->Pu 144 [.agg (tpL w),.agg (tpL w)] (.ret (.bool true)))  (e:Ext) (hN:l.length<=1000000000)  : (Ob.loop 27 (loopF Tryz.f122 0) (stS_I l 0  e) (stS_q l e).1 (stS_q l e).2).ok Tryz.prog:=by
 have:=stS_lp l hwk e hN 0  (Nat.zero_le _)
 exact this
theorem rSameTypes (l:List Tp) (hwk:∀w,w∈l->Pu 144 [.agg (tpL w),.agg (tpL w)] (.ret (.bool true))) (hll:l.length<=1000000000):Pu 122 ([.sl 9 (Tp.cs l),.sl 9 (Tp.cs l)]) (rB true):=
 pu mdL (fun e=>[rp 2 (sl (Tp.cs_len l)),nn (l.length:Int) (l.length:Int),lp (S.mk [(0,vL 9 (Tp.cs l)),(1,vL 9 (Tp.cs l)),(4,.v (.bool false)),(6,vL 9 (Tp.cs l)),(7,vI6 (l.length:Int)),(8,vL 9 (Tp.cs l)),(9,vI6 (l.length:Int)),(10,.v (.bool ((l.length:Int) != (l.length:Int)))),(5,vI6 0)] [] e) (@stS (l) hwk (e) hll) ⟨⟨W,W,W,trivial⟩,trivial,rfl⟩]) Tryz.func122
abbrev syS_I (x:Tp) (j:Int)  (e:Ext):S:=S.mk [(2,.lp 2 0),(3,.lp 3 0),(5,vI6 j)] [(2,[vI6 (tpO x),vS (tpNm x),vL 9 (Tp.cs (tpA x)),vL 1 (nmsC (tpNs x)),vI6 (prO (tpP x)),vS (prNm (tpP x)),vI6 (prN (tpP x)),vL 4 (Pr.cs (prK (tpP x))),vL 4 (Pr.cs (tpPs x))]),(3,[vI6 (tpO x),vS (tpNm x),vL 9 (Tp.cs (tpA x)),vL 1 (nmsC (tpNs x)),vI6 (prO (tpP x)),vS (prNm (tpP x)),vI6 (prN (tpP x)),vL 4 (Pr.cs (prK (tpP x))),vL 4 (Pr.cs (tpPs x))])] e
section
variable (x:Tp) (hwp:∀w,w∈tpPs x->Pu 160 [.agg (prL w),.agg (prL w)] (.ret (.bool true))) (hwq:Pu 160 [.agg (prL (tpP x)),.agg (prL (tpP x))] (.ret (.bool true))) (hwn:Pu 97 [.sl 1 (nmsC (tpNs x)),.sl 1 (nmsC (tpNs x))] (.ret (.bool true))) (hwt:Pu 122 [.sl 9 (Tp.cs (tpA x)),.sl 9 (Tp.cs (tpA x))] (.ret (.bool true))) (i:Nat) (e:Ext)
include x hwp hwq hwn hwt i e
theorem syS_b1 (hi:i<(tpPs x).length) (hN:(tpPs x).length<=1000000000) (cx:Cx) (hcx:cx.n=67) {Q:PExit->S->Prop} (hq:Q (.normal) (S.mk [(2,.lp 2 0),(3,.lp 3 0),(5,vI6 ((i:Int)+1))] [(2,[vI6 (tpO x),vS (tpNm x),vL 9 (Tp.cs (tpA x)),vL 1 (nmsC (tpNs x)),vI6 (prO (tpP x)),vS (prNm (tpP x)),vI6 (prN (tpP x)),vL 4 (Pr.cs (prK (tpP x))),vL 4 (Pr.cs (tpPs x))]),(3,[vI6 (tpO x),vS (tpNm x),vL 9 (Tp.cs (tpA x)),vL 1 (nmsC (tpNs x)),vI6 (prO (tpP x)),vS (prNm (tpP x)),vI6 (prN (tpP x)),vL 4 (Pr.cs (prK (tpP x))),vL 4 (Pr.cs (tpPs x))])] e)):PW Tryz.prog cx (loopF Tryz.f144 0) (syS_I x (i:Int) e) Q:=
 pw mdL 67 [sl (Pr.cs_len (tpPs x)),dt ((i:Int)<((tpPs x).length:Int)),am ((0:Int)<=(i:Int)/\(i:Int)<((Pr.cs (tpPs x)).length:Int)) (by (simp only [Pr.cs_len]; omega)),xPr (tpPs x) i hi,am ((0:Int)<=(i:Int)/\(i:Int)<((Pr.cs (tpPs x)).length:Int)) (by (simp only [Pr.cs_len]; omega)),xPr (tpPs x) i hi,cl (@hwp (List.getD (tpPs x) i default) (by simp_all)),bf false,wr ((i:Int)+1)] [2,3,5,4] [2,3] hcx hq
theorem syS_z1 (hi:i=(tpPs x).length) (hN:(tpPs x).length<=1000000000) (cx:Cx) (hcx:cx.n=67) {Q:PExit->S->Prop} (hq:Q (.exit 0) (S.mk [(2,.lp 2 0),(3,.lp 3 0),(5,vI6 (i:Int))] [(2,[vI6 (tpO x),vS (tpNm x),vL 9 (Tp.cs (tpA x)),vL 1 (nmsC (tpNs x)),vI6 (prO (tpP x)),vS (prNm (tpP x)),vI6 (prN (tpP x)),vL 4 (Pr.cs (prK (tpP x))),vL 4 (Pr.cs (tpPs x))]),(3,[vI6 (tpO x),vS (tpNm x),vL 9 (Tp.cs (tpA x)),vL 1 (nmsC (tpNs x)),vI6 (prO (tpP x)),vS (prNm (tpP x)),vI6 (prN (tpP x)),vL 4 (Pr.cs (prK (tpP x))),vL 4 (Pr.cs (tpPs x))])] e)):PW Tryz.prog cx (loopF Tryz.f144 0) (syS_I x (i:Int) e) Q:=
 pw mdL 67 [sl (Pr.cs_len (tpPs x)),df ((i:Int)<((tpPs x).length:Int))] [2,3,5,4] [2,3] hcx hq
end
def syS_q (x:Tp) (e:Ext):PExit × S:=(.exit 0,S.mk [(2,.lp 2 0),(3,.lp 3 0)] [(2,[vI6 (tpO x),vS (tpNm x),vL 9 (Tp.cs (tpA x)),vL 1 (nmsC (tpNs x)),vI6 (prO (tpP x)),vS (prNm (tpP x)),vI6 (prN (tpP x)),vL 4 (Pr.cs (prK (tpP x))),vL 4 (Pr.cs (tpPs x))]),(3,[vI6 (tpO x),vS (tpNm x),vL 9 (Tp.cs (tpA x)),vL 1 (nmsC (tpNs x)),vI6 (prO (tpP x)),vS (prNm (tpP x)),vI6 (prN (tpP x)),vL 4 (Pr.cs (prK (tpP x))),vL 4 (Pr.cs (tpPs x))])] e)
theorem syS_lp (x:Tp) (hwp:∀w,w∈tpPs x->Pu 160 [.agg (prL w),.agg (prL w)] (.ret (.bool true))) (hwq:Pu 160 [.agg (prL (tpP x)),.agg (prL (tpP x))] (.ret (.bool true))) (hwn:Pu 97 [.sl 1 (nmsC (tpNs x)),.sl 1 (nmsC (tpNs x))] (.ret (.bool true))) (hwt:Pu 122 [.sl 9 (Tp.cs (tpA x)),.sl 9 (Tp.cs (tpA x))] (.ret (.bool true))) (e:Ext) (hN:(tpPs x).length<=1000000000) (i:Nat)  (hi0:i<=(tpPs x).length)  : (Ob.loop 67 (loopF Tryz.f144 0) (syS_I x (i:Int)  e) (syS_q x e).1 (syS_q x e).2).ok Tryz.prog:=by
 refine Ob.loop_of (P:=Tryz.prog) (α:={ zz:Nat × Unit // zz.1<=(tpPs x).length }) (fun zz=>syS_I x (zz.1.1:Int)  e) (fun zz=>(tpPs x).length - zz.1.1) (fun zz=>(syS_q x e)) ?_ ⟨(i,()),hi0⟩
 clear hi0
 clear  i
 rintro ⟨⟨i,u⟩,hi⟩ cx hcx
 simp only at hi  ⊢
 rcases Nat.lt_or_ge i ((tpPs x).length) with hlt | hge
 ·have hd:=drop_at hlt
  exact syS_b1 x hwp hwq hwn hwt i  e hlt hN   cx hcx (.inl ⟨rfl,⟨((i+1),()),by simp only; omega⟩,by simp only; omega,⟨⟨W,W,W,trivial⟩,⟨Ws,Ws,trivial⟩,rfl⟩,by trivial⟩)
 ·have he:i=(tpPs x).length:=by omega
  subst he
  refine syS_z1 x hwp hwq hwn hwt ((tpPs x).length)  e rfl hN   cx hcx (.inr ?_)
  exact ⟨by simp,rfl,⟨⟨W,W,trivial⟩,⟨Ws,Ws,trivial⟩,rfl⟩⟩
theorem syS (x:Tp) (hwp:∀w,w∈tpPs x->Pu 160 [.agg (prL w),.agg (prL w)] (.ret (.bool true))) (hwq:Pu 160 [.agg (prL (tpP x)),.agg (prL (tpP x))] (.ret (.bool true))) (hwn:Pu 97 [.sl 1 (nmsC (tpNs x)),.sl 1 (nmsC (tpNs x))] (.ret (.bool true))) (hwt:Pu 122 [.sl 9 (Tp.cs (tpA x)),.sl 9 (Tp.cs (tpA x))] (.ret (.bool true)))  (e:Ext) (hN:(tpPs x).length<=1000000000)  : (Ob.loop 67 (loopF Tryz.f144 0) (syS_I x 0  e) (syS_q x e).1 (syS_q x e).2).ok Tryz.prog:=by
 have:=syS_lp x hwp hwq hwn hwt e hN 0  (Nat.zero_le _)
 exact this
theorem rSameType (x:Tp) (hwp:∀w,w∈tpPs x->Pu 160 [.agg (prL w),.agg (prL w)] (.ret (.bool true))) (hwq:Pu 160 [.agg (prL (tpP x)),.agg (prL (tpP x))] (.ret (.bool true))) (hwn:Pu 97 [.sl 1 (nmsC (tpNs x)),.sl 1 (nmsC (tpNs x))] (.ret (.bool true))) (hwt:Pu 122 [.sl 9 (Tp.cs (tpA x)),.sl 9 (Tp.cs (tpA x))] (.ret (.bool true))) (hll:(tpPs x).length<=1000000000):Pu 144 ([.agg (tpL x),.agg (tpL x)]) (rB true):=
 pu mdL (fun e=>[rp 6 (nn (tpO x) (tpO x)),rp 5 (bf (!ByteArray.toList (tpNm x)==ByteArray.toList (tpNm x)) (bnF (bsT (by rfl)))),cl hwn,rp 2 (bf (!ByteArray.toList (tpNm x)==ByteArray.toList (tpNm x)) (bnF (bsT (by rfl)))),rp 5 (bf false),cl hwq,rp 5 (bf false),sl (Pr.cs_len (tpPs x)),rp 3 (bf false),sl (Pr.cs_len (tpPs x)),rp 2 (bf false),nn ((tpPs x).length:Int) ((tpPs x).length:Int),lp (S.mk [(0,.v (.agg (tpL x))),(1,.v (.agg (tpL x))),(2,.lp 2 0),(3,.lp 3 0),(4,.v (.bool false)),(6,.lp 2 0),(7,vI6 (tpO x)),(8,.lp 3 0),(9,vI6 (tpO x)),(10,.v (.bool (tpO x != tpO x))),(11,.v (.bool (tpO x != tpO x))),(12,.lp 2 1),(13,vS (tpNm x)),(14,.lp 3 1),(15,vS (tpNm x)),(16,.v (.bool !ByteArray.toList (tpNm x)==ByteArray.toList (tpNm x))),(17,.v (.bool !ByteArray.toList (tpNm x)==ByteArray.toList (tpNm x))),(18,.v (.bool !ByteArray.toList (tpNm x)==ByteArray.toList (tpNm x))),(19,.lp 2 3),(20,vL 1 (nmsC (tpNs x))),(21,.lp 3 3),(22,vL 1 (nmsC (tpNs x))),(23,.v (.bool true)),(24,.v (.bool false)),(25,.v (.bool false)),(26,.v (.bool false)),(27,.lp 2 4),(28,.v (.agg (prL (tpP x)))),(29,.lp 3 4),(30,.v (.agg (prL (tpP x)))),(31,.v (.bool true)),(32,.v (.bool false)),(33,.v (.bool false)),(34,.v (.bool false)),(35,.lp 2 8),(36,vL 4 (Pr.cs (tpPs x))),(37,vI6 ((tpPs x).length:Int)),(38,.lp 3 8),(39,vL 4 (Pr.cs (tpPs x))),(40,vI6 ((tpPs x).length:Int)),(41,.v (.bool (((tpPs x).length:Int) != ((tpPs x).length:Int)))),(42,.v (.bool (((tpPs x).length:Int) != ((tpPs x).length:Int)))),(5,vI6 0)] [(2,[vI6 (tpO x),vS (tpNm x),vL 9 (Tp.cs (tpA x)),vL 1 (nmsC (tpNs x)),vI6 (prO (tpP x)),vS (prNm (tpP x)),vI6 (prN (tpP x)),vL 4 (Pr.cs (prK (tpP x))),vL 4 (Pr.cs (tpPs x))]),(3,[vI6 (tpO x),vS (tpNm x),vL 9 (Tp.cs (tpA x)),vL 1 (nmsC (tpNs x)),vI6 (prO (tpP x)),vS (prNm (tpP x)),vI6 (prN (tpP x)),vL 4 (Pr.cs (prK (tpP x))),vL 4 (Pr.cs (tpPs x))])] e) (@syS (x) hwp hwq hwn hwt (e) hll) ⟨⟨W,W,W,trivial⟩,⟨⟨W,W,W,W,W,W,W,W,W,trivial⟩,⟨W,W,W,W,W,W,W,W,W,trivial⟩,trivial⟩,rfl⟩,cl hwt]) Tryz.func144
theorem getD_memP {l:List Pm} {i:Nat} (h:i<l.length):pmT (l.getD i default)∈l.map pmT:=List.mem_map_of_mem (getD_mem' h)
abbrev smS_I (l:List Pm) (j:Int)  (e:Ext):S:=S.mk [(0,vL 10 (pmsC l)),(1,vL 10 (pmsC l)),(5,vI6 j)] [] e
section
variable (l:List Pm) (hwt:∀t,t∈l.map pmT->Pu 144 [.agg (tpL t),.agg (tpL t)] (.ret (.bool true))) (i:Nat) (e:Ext)
include l hwt i e
theorem smS_b1 (hi:i<l.length) (hN:l.length<=1000000000) (cx:Cx) (hcx:cx.n=42) {Q:PExit->S->Prop} (hq:Q (.normal) (S.mk [(0,vL 10 (pmsC l)),(1,vL 10 (pmsC l)),(5,vI6 ((i:Int)+1))] [] e)):PW Tryz.prog cx (loopF Tryz.f121 0) (smS_I l (i:Int) e) Q:=
 pw mdL 42 [sl (pmsC_len l),dt ((i:Int)<(l.length:Int)),am ((0:Int)<=(i:Int)/\(i:Int)<((pmsC l).length:Int)) (by (simp only [pmsC_len]; omega)),xPm l i hi,am ((0:Int)<=(i:Int)/\(i:Int)<((pmsC l).length:Int)) (by (simp only [pmsC_len]; omega)),xPm l i hi,rp 3 (bf (!ByteArray.toList (pmNm (List.getD l i default))==ByteArray.toList (pmNm (List.getD l i default))) (bnF (bsT (by rfl)))),am ((0:Int)<=(i:Int)/\(i:Int)<((pmsC l).length:Int)) (by (simp only [pmsC_len]; omega)),xPm l i hi,rp 5 (bf (!ByteArray.toList (pmNm (List.getD l i default))==ByteArray.toList (pmNm (List.getD l i default))) (bnF (bsT (by rfl)))),am ((0:Int)<=(i:Int)/\(i:Int)<((pmsC l).length:Int)) (by (simp only [pmsC_len]; omega)),xPm l i hi,rp 3 (bf (!ByteArray.toList (pmNm (List.getD l i default))==ByteArray.toList (pmNm (List.getD l i default))) (bnF (bsT (by rfl)))),cl (@hwt (pmT (List.getD l i default)) (by (apply getD_memP <;> first | assumption | omega | decide))),rp 2 (bf (!ByteArray.toList (pmNm (List.getD l i default))==ByteArray.toList (pmNm (List.getD l i default))) (bnF (bsT (by rfl)))),bf false,wr ((i:Int)+1)] [0,1,5,4] [] hcx hq
theorem smS_z1 (hi:i=l.length) (hN:l.length<=1000000000) (cx:Cx) (hcx:cx.n=42) {Q:PExit->S->Prop} (hq:Q (.exit 0) (S.mk [(0,vL 10 (pmsC l)),(1,vL 10 (pmsC l)),(5,vI6 (i:Int))] [] e)):PW Tryz.prog cx (loopF Tryz.f121 0) (smS_I l (i:Int) e) Q:=
 pw mdL 42 [sl (pmsC_len l),df ((i:Int)<(l.length:Int))] [0,1,5,4] [] hcx hq
end
def smS_q (l:List Pm) (e:Ext):PExit × S:=(.exit 0,S.mk [(0,vL 10 (pmsC l)),(1,vL 10 (pmsC l))] [] e)
theorem smS_lp (l:List Pm) (hwt:∀t,t∈l.map pmT->Pu 144 [.agg (tpL t),.agg (tpL t)] (.ret (.bool true))) (e:Ext) (hN:l.length<=1000000000) (i:Nat)  (hi0:i<=l.length)  : (Ob.loop 42 (loopF Tryz.f121 0) (smS_I l (i:Int)  e) (smS_q l e).1 (smS_q l e).2).ok Tryz.prog:=by
 refine Ob.loop_of (P:=Tryz.prog) (α:={ zz:Nat × Unit // zz.1<=l.length }) (fun zz=>smS_I l (zz.1.1:Int)  e) (fun zz=>l.length - zz.1.1) (fun zz=>(smS_q l e)) ?_ ⟨(i,()),hi0⟩
 clear hi0
 clear  i
 rintro ⟨⟨i,u⟩,hi⟩ cx hcx
 simp only at hi  ⊢
 rcases Nat.lt_or_ge i (l.length) with hlt | hge
 ·have hd:=drop_at hlt
  exact smS_b1 l hwt i  e hlt hN   cx hcx (.inl ⟨rfl,⟨((i+1),()),by simp only; omega⟩,by simp only; omega,⟨⟨W,W,W,trivial⟩,trivial,rfl⟩,by trivial⟩)
 ·have he:i=l.length:=by omega
  subst he
  refine smS_z1 l hwt (l.length)  e rfl hN   cx hcx (.inr ?_)
  exact ⟨by simp,rfl,⟨⟨W,W,trivial⟩,trivial,rfl⟩⟩
theorem smS (l:List Pm) (hwt:∀t,t∈l.map pmT->Pu 144 [.agg (tpL t),.agg (tpL t)] (.ret (.bool true)))  (e:Ext) (hN:l.length<=1000000000)  : (Ob.loop 42 (loopF Tryz.f121 0) (smS_I l 0  e) (smS_q l e).1 (smS_q l e).2).ok Tryz.prog:=by
 have:=smS_lp l hwt e hN 0  (Nat.zero_le _)
 exact this
theorem rSameParams (l:List Pm) (hwt:∀t,t∈l.map pmT->Pu 144 [.agg (tpL t),.agg (tpL t)] (.ret (.bool true))) (hll:l.length<=1000000000):Pu 121 ([.sl 10 (pmsC l),.sl 10 (pmsC l)]) (rB true):=
 pu mdL (fun e=>[rp 2 (sl (pmsC_len l)),nn (l.length:Int) (l.length:Int),lp (S.mk [(0,vL 10 (pmsC l)),(1,vL 10 (pmsC l)),(4,.v (.bool false)),(6,vL 10 (pmsC l)),(7,vI6 (l.length:Int)),(8,vL 10 (pmsC l)),(9,vI6 (l.length:Int)),(10,.v (.bool ((l.length:Int) != (l.length:Int)))),(5,vI6 0)] [] e) (@smS (l) hwt (e) hll) ⟨⟨W,W,W,trivial⟩,trivial,rfl⟩]) Tryz.func121
end Go.Proofs.YtgonmmckkikmaaaGreat
namespace Go.Proofs.YtgonmmckkikmaaaGreat
open Go.Pv
set_option maxRecDepth 100000
abbrev seS_I (x:Ex) (j:Int)  (e:Ext):S:=S.mk [(2,.lp 2 0),(3,.lp 3 0),(5,vI6 j)] [(2,exV x),(3,exV x)] e
section
variable (x:Ex) (hwm:Pu 121 [.sl 10 (pmsC (exP x)),.sl 10 (pmsC (exP x))] (.ret (.bool true))) (hwt:Pu 122 [.sl 9 (Tp.cs (exT x)),.sl 9 (Tp.cs (exT x))] (.ret (.bool true))) (hwk:∀w,w∈exK x->Pu 82 [.agg (exL w),.agg (exL w)] (.ret (.bool true))) (hwn:∀w,w∈exA x->Pu 97 [.sl 1 (nmsC (alNs w)),.sl 1 (nmsC (alNs w))] (.ret (.bool true))) (hwa:∀w,w∈exA x->Pu 82 [.agg (exL (alB w)),.agg (exL (alB w))] (.ret (.bool true))) (i:Nat) (e:Ext)
include x hwm hwt hwk hwn hwa i e
theorem seS_b1 (hi:i<(exK x).length) (hN:(exK x).length<=1000000000) (cx:Cx) (hcx:cx.n=117) {Q:PExit->S->Prop} (hq:Q (.normal) (S.mk [(2,.lp 2 0),(3,.lp 3 0),(5,vI6 ((i:Int)+1))] [(2,exV x),(3,exV x)] e)):PW Tryz.prog cx (loopF Tryz.f82 0) (seS_I x (i:Int) e) Q:=
 pw mdL 117 [sl (Ex.cs_len (exK x)),dt ((i:Int)<((exK x).length:Int)),am ((0:Int)<=(i:Int)/\(i:Int)<((Ex.cs (exK x)).length:Int)) (by (simp only [Ex.cs_len]; omega)),xEx (exK x) i hi,am ((0:Int)<=(i:Int)/\(i:Int)<((Ex.cs (exK x)).length:Int)) (by (simp only [Ex.cs_len]; omega)),xEx (exK x) i hi,cl (@hwk (List.getD (exK x) i default) (by simp_all)),bf false,wr ((i:Int)+1)] [2,3,5,4] [2,3] hcx hq
theorem seS_z1 (hi:i=(exK x).length) (hN:(exK x).length<=1000000000) (cx:Cx) (hcx:cx.n=117) {Q:PExit->S->Prop} (hq:Q (.exit 0) (S.mk [(2,.lp 2 0),(3,.lp 3 0),(5,vI6 (i:Int))] [(2,exV x),(3,exV x)] e)):PW Tryz.prog cx (loopF Tryz.f82 0) (seS_I x (i:Int) e) Q:=
 pw mdL 117 [sl (Ex.cs_len (exK x)),df ((i:Int)<((exK x).length:Int))] [2,3,5,4] [2,3] hcx hq
end
def seS_q (x:Ex) (e:Ext):PExit × S:=(.exit 0,S.mk [(2,.lp 2 0),(3,.lp 3 0)] [(2,exV x),(3,exV x)] e)
theorem seS_lp (x:Ex) (hwm:Pu 121 [.sl 10 (pmsC (exP x)),.sl 10 (pmsC (exP x))] (.ret (.bool true))) (hwt:Pu 122 [.sl 9 (Tp.cs (exT x)),.sl 9 (Tp.cs (exT x))] (.ret (.bool true))) (hwk:∀w,w∈exK x->Pu 82 [.agg (exL w),.agg (exL w)] (.ret (.bool true))) (hwn:∀w,w∈exA x->Pu 97 [.sl 1 (nmsC (alNs w)),.sl 1 (nmsC (alNs w))] (.ret (.bool true))) (hwa:∀w,w∈exA x->Pu 82 [.agg (exL (alB w)),.agg (exL (alB w))] (.ret (.bool true))) (e:Ext) (hN:(exK x).length<=1000000000) (i:Nat)  (hi0:i<=(exK x).length)  : (Ob.loop 117 (loopF Tryz.f82 0) (seS_I x (i:Int)  e) (seS_q x e).1 (seS_q x e).2).ok Tryz.prog:=by
 refine Ob.loop_of (P:=Tryz.prog) (α:={ zz:Nat × Unit // zz.1<=(exK x).length }) (fun zz=>seS_I x (zz.1.1:Int)  e) (fun zz=>(exK x).length - zz.1.1) (fun zz=>(seS_q x e)) ?_ ⟨(i,()),hi0⟩
 clear hi0
 clear  i
 rintro ⟨⟨i,u⟩,hi⟩ cx hcx
 simp only at hi  ⊢
 rcases Nat.lt_or_ge i ((exK x).length) with hlt | hge
 ·have hd:=drop_at hlt
  exact seS_b1 x hwm hwt hwk hwn hwa i  e hlt hN   cx hcx (.inl ⟨rfl,⟨((i+1),()),by simp only; omega⟩,by simp only; omega,⟨⟨W,W,W,trivial⟩,⟨Ws,Ws,trivial⟩,rfl⟩,by trivial⟩)
 ·have he:i=(exK x).length:=by omega
  subst he
  refine seS_z1 x hwm hwt hwk hwn hwa ((exK x).length)  e rfl hN   cx hcx (.inr ?_)
  exact ⟨by simp,rfl,⟨⟨W,W,trivial⟩,⟨Ws,Ws,trivial⟩,rfl⟩⟩
theorem seS (x:Ex) (hwm:Pu 121 [.sl 10 (pmsC (exP x)),.sl 10 (pmsC (exP x))] (.ret (.bool true))) (hwt:Pu 122 [.sl 9 (Tp.cs (exT x)),.sl 9 (Tp.cs (exT x))] (.ret (.bool true))) (hwk:∀w,w∈exK x->Pu 82 [.agg (exL w),.agg (exL w)] (.ret (.bool true))) (hwn:∀w,w∈exA x->Pu 97 [.sl 1 (nmsC (alNs w)),.sl 1 (nmsC (alNs w))] (.ret (.bool true))) (hwa:∀w,w∈exA x->Pu 82 [.agg (exL (alB w)),.agg (exL (alB w))] (.ret (.bool true)))  (e:Ext) (hN:(exK x).length<=1000000000)  : (Ob.loop 117 (loopF Tryz.f82 0) (seS_I x 0  e) (seS_q x e).1 (seS_q x e).2).ok Tryz.prog:=by
 have:=seS_lp x hwm hwt hwk hwn hwa e hN 0  (Nat.zero_le _)
 exact this
abbrev saS_I (x:Ex) (j:Int)  (e:Ext):S:=S.mk [(2,.lp 2 0),(3,.lp 3 0),(6,vI6 j)] [(2,exV x),(3,exV x)] e
section
variable (x:Ex) (hwm:Pu 121 [.sl 10 (pmsC (exP x)),.sl 10 (pmsC (exP x))] (.ret (.bool true))) (hwt:Pu 122 [.sl 9 (Tp.cs (exT x)),.sl 9 (Tp.cs (exT x))] (.ret (.bool true))) (hwk:∀w,w∈exK x->Pu 82 [.agg (exL w),.agg (exL w)] (.ret (.bool true))) (hwn:∀w,w∈exA x->Pu 97 [.sl 1 (nmsC (alNs w)),.sl 1 (nmsC (alNs w))] (.ret (.bool true))) (hwa:∀w,w∈exA x->Pu 82 [.agg (exL (alB w)),.agg (exL (alB w))] (.ret (.bool true))) (hlk:(exK x).length<=1000000000) (i:Nat) (e:Ext)
include x hwm hwt hwk hwn hwa hlk i e
theorem saS_b1 (hi:i<(exA x).length) (hN:(exA x).length<=1000000000) (cx:Cx) (hcx:cx.n=117) {Q:PExit->S->Prop} (hq:Q (.normal) (S.mk [(2,.lp 2 0),(3,.lp 3 0),(6,vI6 ((i:Int)+1))] [(2,exV x),(3,exV x)] e)):PW Tryz.prog cx (loopF Tryz.f82 1) (saS_I x (i:Int) e) Q:=
 pw mdL 117 [sl (Al.cs_len (exA x)),dt ((i:Int)<((exA x).length:Int)),am ((0:Int)<=(i:Int)/\(i:Int)<((Al.cs (exA x)).length:Int)) (by (simp only [Al.cs_len]; omega)),xAl (exA x) i hi,am ((0:Int)<=(i:Int)/\(i:Int)<((Al.cs (exA x)).length:Int)) (by (simp only [Al.cs_len]; omega)),xAl (exA x) i hi,rp 5 (bf (!ByteArray.toList (alC (List.getD (exA x) i default))==ByteArray.toList (alC (List.getD (exA x) i default))) (bnF (bsT (by rfl)))),cl (@hwn (List.getD (exA x) i default) (by simp_all)),rp 2 (bf (!ByteArray.toList (alC (List.getD (exA x) i default))==ByteArray.toList (alC (List.getD (exA x) i default))) (bnF (bsT (by rfl)))),rp 5 (bf false),cl (@hwa (List.getD (exA x) i default) (by simp_all)),rp 3 (bf false),wr ((i:Int)+1)] [2,3,6,4] [2,3] hcx hq
theorem saS_z1 (hi:i=(exA x).length) (hN:(exA x).length<=1000000000) (cx:Cx) (hcx:cx.n=117) {Q:PExit->S->Prop} (hq:Q (.exit 2) (S.mk [(2,.lp 2 0),(3,.lp 3 0),(6,vI6 (i:Int))] [(2,exV x),(3,exV x)] e)):PW Tryz.prog cx (loopF Tryz.f82 1) (saS_I x (i:Int) e) Q:=
 pw mdL 117 [sl (Al.cs_len (exA x)),df ((i:Int)<((exA x).length:Int))] [2,3,6,4] [2,3] hcx hq
end
def saS_q (x:Ex) (e:Ext):PExit × S:=(.exit 2,S.mk [(2,.lp 2 0),(3,.lp 3 0)] [(2,exV x),(3,exV x)] e)
theorem saS_lp (x:Ex) (hwm:Pu 121 [.sl 10 (pmsC (exP x)),.sl 10 (pmsC (exP x))] (.ret (.bool true))) (hwt:Pu 122 [.sl 9 (Tp.cs (exT x)),.sl 9 (Tp.cs (exT x))] (.ret (.bool true))) (hwk:∀w,w∈exK x->Pu 82 [.agg (exL w),.agg (exL w)] (.ret (.bool true))) (hwn:∀w,w∈exA x->Pu 97 [.sl 1 (nmsC (alNs w)),.sl 1 (nmsC (alNs w))] (.ret (.bool true))) (hwa:∀w,w∈exA x->Pu 82 [.agg (exL (alB w)),.agg (exL (alB w))] (.ret (.bool true))) (hlk:(exK x).length<=1000000000) (e:Ext) (hN:(exA x).length<=1000000000) (i:Nat)  (hi0:i<=(exA x).length)  : (Ob.loop 117 (loopF Tryz.f82 1) (saS_I x (i:Int)  e) (saS_q x e).1 (saS_q x e).2).ok Tryz.prog:=by
 refine Ob.loop_of (P:=Tryz.prog) (α:={ zz:Nat × Unit // zz.1<=(exA x).length }) (fun zz=>saS_I x (zz.1.1:Int)  e) (fun zz=>(exA x).length - zz.1.1) (fun zz=>(saS_q x e)) ?_ ⟨(i,()),hi0⟩
 clear hi0
 clear  i
 rintro ⟨⟨i,u⟩,hi⟩ cx hcx
 simp only at hi  ⊢
 rcases Nat.lt_or_ge i ((exA x).length) with hlt | hge
 ·have hd:=drop_at hlt
  exact saS_b1 x hwm hwt hwk hwn hwa hlk i  e hlt hN   cx hcx (.inl ⟨rfl,⟨((i+1),()),by simp only; omega⟩,by simp only; omega,⟨⟨W,W,W,trivial⟩,⟨Ws,Ws,trivial⟩,rfl⟩,by trivial⟩)
 ·have he:i=(exA x).length:=by omega
  subst he
  refine saS_z1 x hwm hwt hwk hwn hwa hlk ((exA x).length)  e rfl hN   cx hcx (.inr ?_)
  exact ⟨by simp,rfl,⟨⟨W,W,trivial⟩,⟨Ws,Ws,trivial⟩,rfl⟩⟩
theorem saS (x:Ex) (hwm:Pu 121 [.sl 10 (pmsC (exP x)),.sl 10 (pmsC (exP x))] (.ret (.bool true))) (hwt:Pu 122 [.sl 9 (Tp.cs (exT x)),.sl 9 (Tp.cs (exT x))] (.ret (.bool true))) (hwk:∀w,w∈exK x->Pu 82 [.agg (exL w),.agg (exL w)] (.ret (.bool true))) (hwn:∀w,w∈exA x->Pu 97 [.sl 1 (nmsC (alNs w)),.sl 1 (nmsC (alNs w))] (.ret (.bool true))) (hwa:∀w,w∈exA x->Pu 82 [.agg (exL (alB w)),.agg (exL (alB w))] (.ret (.bool true))) (hlk:(exK x).length<=1000000000)  (e:Ext) (hN:(exA x).length<=1000000000)  : (Ob.loop 117 (loopF Tryz.f82 1) (saS_I x 0  e) (saS_q x e).1 (saS_q x e).2).ok Tryz.prog:=by
 have:=saS_lp x hwm hwt hwk hwn hwa hlk e hN 0  (Nat.zero_le _)
 exact this
theorem rSameExpr (x:Ex) (hwm:Pu 121 [.sl 10 (pmsC (exP x)),.sl 10 (pmsC (exP x))] (.ret (.bool true))) (hwt:Pu 122 [.sl 9 (Tp.cs (exT x)),.sl 9 (Tp.cs (exT x))] (.ret (.bool true))) (hwk:∀w,w∈exK x->Pu 82 [.agg (exL w),.agg (exL w)] (.ret (.bool true))) (hwn:∀w,w∈exA x->Pu 97 [.sl 1 (nmsC (alNs w)),.sl 1 (nmsC (alNs w))] (.ret (.bool true))) (hwa:∀w,w∈exA x->Pu 82 [.agg (exL (alB w)),.agg (exL (alB w))] (.ret (.bool true))) (hlk:(exK x).length<=1000000000) (hla:(exA x).length<=1000000000):Pu 82 ([.agg (exL x),.agg (exL x)]) (rB true):=
 pu mdL (fun e=>[rp 6 (nn (exO x) (exO x)),rp 6 (bf (!ByteArray.toList (exNm x)==ByteArray.toList (exNm x)) (bnF (bsT (by rfl)))),rp 5 (nn (exN x) (exN x)),cl hwm,rp 2 (nn (exN x) (exN x)),rp 5 (bf false),cl hwt,rp 3 (bf false),rp 2 (sl (Ex.cs_len (exK x))),rp 3 (nn ((exK x).length:Int) ((exK x).length:Int)),sl (Al.cs_len (exA x)),rp 3 (nn ((exK x).length:Int) ((exK x).length:Int)),sl (Al.cs_len (exA x)),rp 2 (nn ((exK x).length:Int) ((exK x).length:Int)),nn ((exA x).length:Int) ((exA x).length:Int),lp (S.mk [(0,.v (.agg (exL x))),(1,.v (.agg (exL x))),(2,.lp 2 0),(3,.lp 3 0),(4,.v (.bool false)),(9,.lp 2 0),(10,vI6 (exO x)),(11,.lp 3 0),(12,vI6 (exO x)),(13,.v (.bool (exO x != exO x))),(14,.v (.bool (exO x != exO x))),(15,.lp 2 1),(16,vS (exNm x)),(17,.lp 3 1),(18,vS (exNm x)),(19,.v (.bool !ByteArray.toList (exNm x)==ByteArray.toList (exNm x))),(20,.v (.bool !ByteArray.toList (exNm x)==ByteArray.toList (exNm x))),(21,.v (.bool !ByteArray.toList (exNm x)==ByteArray.toList (exNm x))),(22,.lp 2 2),(23,vI6 (exN x)),(24,.lp 3 2),(25,vI6 (exN x)),(26,.v (.bool (exN x != exN x))),(27,.v (.bool (exN x != exN x))),(28,.v (.bool (exN x != exN x))),(29,.lp 2 4),(30,vL 10 (pmsC (exP x))),(31,.lp 3 4),(32,vL 10 (pmsC (exP x))),(33,.v (.bool true)),(34,.v (.bool false)),(35,.v (.bool false)),(36,.v (.bool false)),(37,.lp 2 6),(38,vL 9 (Tp.cs (exT x))),(39,.lp 3 6),(40,vL 9 (Tp.cs (exT x))),(41,.v (.bool true)),(42,.v (.bool false)),(43,.v (.bool false)),(44,.lp 2 3),(45,vL 7 (Ex.cs (exK x))),(46,vI6 ((exK x).length:Int)),(47,.lp 3 3),(48,vL 7 (Ex.cs (exK x))),(49,vI6 ((exK x).length:Int)),(50,.v (.bool (((exK x).length:Int) != ((exK x).length:Int)))),(51,.v (.bool (((exK x).length:Int) != ((exK x).length:Int)))),(52,.lp 2 5),(53,vL 9 (Al.cs (exA x))),(54,vI6 ((exA x).length:Int)),(55,.lp 3 5),(56,vL 9 (Al.cs (exA x))),(57,vI6 ((exA x).length:Int)),(58,.v (.bool (((exA x).length:Int) != ((exA x).length:Int)))),(59,.v (.bool (((exA x).length:Int) != ((exA x).length:Int)))),(5,vI6 0)] [(2,exV x),(3,exV x)] e) (@seS (x) hwm hwt hwk hwn hwa (e) hlk) ⟨⟨W,W,W,trivial⟩,⟨⟨W,W,W,W,W,W,W,trivial⟩,⟨W,W,W,W,W,W,W,trivial⟩,trivial⟩,rfl⟩,lp (S.mk [(2,.lp 2 0),(3,.lp 3 0),(6,vI6 0)] [(2,exV x),(3,exV x)] e) (@saS (x) hwm hwt hwk hwn hwa hlk (e) hla) ⟨⟨W,W,W,trivial⟩,⟨⟨W,W,W,W,W,W,W,trivial⟩,⟨W,W,W,W,W,W,W,trivial⟩,trivial⟩,rfl⟩]) Tryz.func82
abbrev sbS_I (l:List Ex) (j:Int)  (e:Ext):S:=S.mk [(0,vL 7 (Ex.cs l)),(1,vL 7 (Ex.cs l)),(5,vI6 j)] [] e
section
variable (l:List Ex) (hwk:∀w,w∈l->Pu 82 [.agg (exL w),.agg (exL w)] (.ret (.bool true))) (i:Nat) (e:Ext)
include l hwk i e
theorem sbS_b1 (hi:i<l.length) (hN:l.length<=1000000000) (cx:Cx) (hcx:cx.n=27) {Q:PExit->S->Prop} (hq:Q (.normal) (S.mk [(0,vL 7 (Ex.cs l)),(1,vL 7 (Ex.cs l)),(5,vI6 ((i:Int)+1))] [] e)):PW Tryz.prog cx (loopF Tryz.f54 0) (sbS_I l (i:Int) e) Q:=
 pw mdL 27 [sl (Ex.cs_len l),dt ((i:Int)<(l.length:Int)),am ((0:Int)<=(i:Int)/\(i:Int)<((Ex.cs l).length:Int)) (by (simp only [Ex.cs_len]; omega)),xEx l i hi,am ((0:Int)<=(i:Int)/\(i:Int)<((Ex.cs l).length:Int)) (by (simp only [Ex.cs_len]; omega)),xEx l i hi,cl (@hwk (List.getD l i default) (by simp_all)),bf false,wr ((i:Int)+1)] [0,1,5,4] [] hcx hq
theorem sbS_z1 (hi:i=l.length) (hN:l.length<=1000000000) (cx:Cx) (hcx:cx.n=27) {Q:PExit->S->Prop} (hq:Q (.exit 0) (S.mk [(0,vL 7 (Ex.cs l)),(1,vL 7 (Ex.cs l)),(5,vI6 (i:Int))] [] e)):PW Tryz.prog cx (loopF Tryz.f54 0) (sbS_I l (i:Int) e) Q:=
 pw mdL 27 [sl (Ex.cs_len l),df ((i:Int)<(l.length:Int))] [0,1,5,4] [] hcx hq
end
def sbS_q (l:List Ex) (e:Ext):PExit × S:=(.exit 0,S.mk [(0,vL 7 (Ex.cs l)),(1,vL 7 (Ex.cs l))] [] e)
theorem sbS_lp (l:List Ex) (hwk:∀w,w∈l->Pu 82 [.agg (exL w),.agg (exL w)] (.ret (.bool true))) (e:Ext) (hN:l.length<=1000000000) (i:Nat)  (hi0:i<=l.length)  : (Ob.loop 27 (loopF Tryz.f54 0) (sbS_I l (i:Int)  e) (sbS_q l e).1 (sbS_q l e).2).ok Tryz.prog:=by
 refine Ob.loop_of (P:=Tryz.prog) (α:={ zz:Nat × Unit // zz.1<=l.length }) (fun zz=>sbS_I l (zz.1.1:Int)  e) (fun zz=>l.length - zz.1.1) (fun zz=>(sbS_q l e)) ?_ ⟨(i,()),hi0⟩
 clear hi0
 clear  i
 rintro ⟨⟨i,u⟩,hi⟩ cx hcx
 simp only at hi  ⊢
 rcases Nat.lt_or_ge i (l.length) with hlt | hge
 ·have hd:=drop_at hlt
  exact sbS_b1 l hwk i  e hlt hN   cx hcx (.inl ⟨rfl,⟨((i+1),()),by simp only; omega⟩,by simp only; omega,⟨⟨W,W,W,trivial⟩,trivial,rfl⟩,by trivial⟩)
 ·have he:i=l.length:=by omega
  subst he
  refine sbS_z1 l hwk (l.length)  e rfl hN   cx hcx (.inr ?_)
  exact ⟨by simp,rfl,⟨⟨W,W,trivial⟩,trivial,rfl⟩⟩
theorem sbS (l:List Ex) (hwk:∀w,w∈l->Pu 82 [.agg (exL w),.agg (exL w)] (.ret (.bool true)))  (e:Ext) (hN:l.length<=1000000000)  : (Ob.loop 27 (loopF Tryz.f54 0) (sbS_I l 0  e) (sbS_q l e).1 (sbS_q l e).2).ok Tryz.prog:=by
 have:=sbS_lp l hwk e hN 0  (Nat.zero_le _)
 exact this
theorem rSameBodies (l:List Ex) (hwk:∀w,w∈l->Pu 82 [.agg (exL w),.agg (exL w)] (.ret (.bool true))) (hll:l.length<=1000000000):Pu 54 ([.sl 7 (Ex.cs l),.sl 7 (Ex.cs l)]) (rB true):=
 pu mdL (fun e=>[rp 2 (sl (Ex.cs_len l)),nn (l.length:Int) (l.length:Int),lp (S.mk [(0,vL 7 (Ex.cs l)),(1,vL 7 (Ex.cs l)),(4,.v (.bool false)),(6,vL 7 (Ex.cs l)),(7,vI6 (l.length:Int)),(8,vL 7 (Ex.cs l)),(9,vI6 (l.length:Int)),(10,.v (.bool ((l.length:Int) != (l.length:Int)))),(5,vI6 0)] [] e) (@sbS (l) hwk (e) hll) ⟨⟨W,W,W,trivial⟩,trivial,rfl⟩]) Tryz.func54
end Go.Proofs.YtgonmmckkikmaaaGreat
namespace Go.Proofs.YtgonmmckkikmaaaGreat
open Go.Pv
set_option maxRecDepth 100000
abbrev svA_I (x:Vl) (j:Int)  (e:Ext):S:=S.mk [(2,.lp 2 0),(3,.lp 3 0),(5,vI6 j)] [(2,vlV x),(3,vlV x)] e
section
variable (x:Vl) (hwk:∀w,w∈vlK x->Pu 22 [.agg (vlL w),.agg (vlL w)] (.ret (.bool true))) (hwb:∀w,w∈vlBd x->Pu 22 [.agg (vlL (bdV w)),.agg (vlL (bdV w))] (.ret (.bool true))) (hwe:Pu 54 [.sl 7 (Ex.cs (vlB x)),.sl 7 (Ex.cs (vlB x))] (.ret (.bool true))) (i:Nat) (e:Ext)
include x hwk hwb hwe i e
theorem svA_b1 (hi:i<(vlK x).length) (hN:(vlK x).length<=1000000000) (cx:Cx) (hcx:cx.n=141) {Q:PExit->S->Prop} (hq:Q (.normal) (S.mk [(2,.lp 2 0),(3,.lp 3 0),(5,vI6 ((i:Int)+1))] [(2,vlV x),(3,vlV x)] e)):PW Tryz.prog cx (loopF Tryz.f22 0) (svA_I x (i:Int) e) Q:=
 pw mdL 141 [sl (Vl.cs_len (vlK x)),dt ((i:Int)<((vlK x).length:Int)),am ((0:Int)<=(i:Int)/\(i:Int)<((Vl.cs (vlK x)).length:Int)) (by (simp only [Vl.cs_len]; omega)),xVl (vlK x) i hi,am ((0:Int)<=(i:Int)/\(i:Int)<((Vl.cs (vlK x)).length:Int)) (by (simp only [Vl.cs_len]; omega)),xVl (vlK x) i hi,cl (@hwk (List.getD (vlK x) i default) (by simp_all)),bf false,wr ((i:Int)+1)] [2,3,5,4] [2,3] hcx hq
theorem svA_z1 (hi:i=(vlK x).length) (hN:(vlK x).length<=1000000000) (cx:Cx) (hcx:cx.n=141) {Q:PExit->S->Prop} (hq:Q (.exit 0) (S.mk [(2,.lp 2 0),(3,.lp 3 0),(5,vI6 (i:Int))] [(2,vlV x),(3,vlV x)] e)):PW Tryz.prog cx (loopF Tryz.f22 0) (svA_I x (i:Int) e) Q:=
 pw mdL 141 [sl (Vl.cs_len (vlK x)),df ((i:Int)<((vlK x).length:Int))] [2,3,5,4] [2,3] hcx hq
end
def svA_q (x:Vl) (e:Ext):PExit × S:=(.exit 0,S.mk [(2,.lp 2 0),(3,.lp 3 0)] [(2,vlV x),(3,vlV x)] e)
theorem svA_lp (x:Vl) (hwk:∀w,w∈vlK x->Pu 22 [.agg (vlL w),.agg (vlL w)] (.ret (.bool true))) (hwb:∀w,w∈vlBd x->Pu 22 [.agg (vlL (bdV w)),.agg (vlL (bdV w))] (.ret (.bool true))) (hwe:Pu 54 [.sl 7 (Ex.cs (vlB x)),.sl 7 (Ex.cs (vlB x))] (.ret (.bool true))) (e:Ext) (hN:(vlK x).length<=1000000000) (i:Nat)  (hi0:i<=(vlK x).length)  : (Ob.loop 141 (loopF Tryz.f22 0) (svA_I x (i:Int)  e) (svA_q x e).1 (svA_q x e).2).ok Tryz.prog:=by
 refine Ob.loop_of (P:=Tryz.prog) (α:={ zz:Nat × Unit // zz.1<=(vlK x).length }) (fun zz=>svA_I x (zz.1.1:Int)  e) (fun zz=>(vlK x).length - zz.1.1) (fun zz=>(svA_q x e)) ?_ ⟨(i,()),hi0⟩
 clear hi0
 clear  i
 rintro ⟨⟨i,u⟩,hi⟩ cx hcx
 simp only at hi  ⊢
 rcases Nat.lt_or_ge i ((vlK x).length) with hlt | hge
 ·have hd:=drop_at hlt
  exact svA_b1 x hwk hwb hwe i  e hlt hN   cx hcx (.inl ⟨rfl,⟨((i+1),()),by simp only; omega⟩,by simp only; omega,⟨⟨W,W,W,trivial⟩,⟨Ws,Ws,trivial⟩,rfl⟩,by trivial⟩)
 ·have he:i=(vlK x).length:=by omega
  subst he
  refine svA_z1 x hwk hwb hwe ((vlK x).length)  e rfl hN   cx hcx (.inr ?_)
  exact ⟨by simp,rfl,⟨⟨W,W,trivial⟩,⟨Ws,Ws,trivial⟩,rfl⟩⟩
theorem svA (x:Vl) (hwk:∀w,w∈vlK x->Pu 22 [.agg (vlL w),.agg (vlL w)] (.ret (.bool true))) (hwb:∀w,w∈vlBd x->Pu 22 [.agg (vlL (bdV w)),.agg (vlL (bdV w))] (.ret (.bool true))) (hwe:Pu 54 [.sl 7 (Ex.cs (vlB x)),.sl 7 (Ex.cs (vlB x))] (.ret (.bool true)))  (e:Ext) (hN:(vlK x).length<=1000000000)  : (Ob.loop 141 (loopF Tryz.f22 0) (svA_I x 0  e) (svA_q x e).1 (svA_q x e).2).ok Tryz.prog:=by
 have:=svA_lp x hwk hwb hwe e hN 0  (Nat.zero_le _)
 exact this
abbrev svB_I (x:Vl) (j:Int)  (e:Ext):S:=S.mk [(2,.lp 2 0),(3,.lp 3 0),(6,vI6 j)] [(2,vlV x),(3,vlV x)] e
section
variable (x:Vl) (hwk:∀w,w∈vlK x->Pu 22 [.agg (vlL w),.agg (vlL w)] (.ret (.bool true))) (hwb:∀w,w∈vlBd x->Pu 22 [.agg (vlL (bdV w)),.agg (vlL (bdV w))] (.ret (.bool true))) (hwe:Pu 54 [.sl 7 (Ex.cs (vlB x)),.sl 7 (Ex.cs (vlB x))] (.ret (.bool true))) (hl0:(vlK x).length<=1000000000) (i:Nat) (e:Ext)
include x hwk hwb hwe hl0 i e
theorem svB_b1 (hi:i<(vlP x).length) (hN:(vlP x).length<=1000000000) (cx:Cx) (hcx:cx.n=141) {Q:PExit->S->Prop} (hq:Q (.normal) (S.mk [(2,.lp 2 0),(3,.lp 3 0),(6,vI6 ((i:Int)+1))] [(2,vlV x),(3,vlV x)] e)):PW Tryz.prog cx (loopF Tryz.f22 1) (svB_I x (i:Int) e) Q:=
 pw mdL 141 [sl (nmsC_len (vlP x)),dt ((i:Int)<((vlP x).length:Int)),am ((0:Int)<=(i:Int)/\(i:Int)<((nmsC (vlP x)).length:Int)) (by (simp only [nmsC_len]; omega)),xNm (vlP x) i hi,am ((0:Int)<=(i:Int)/\(i:Int)<((nmsC (vlP x)).length:Int)) (by (simp only [nmsC_len]; omega)),xNm (vlP x) i hi,bf (!ByteArray.toList (List.getD (vlP x) i nm0)==ByteArray.toList (List.getD (vlP x) i nm0)) (bnF (bsT (by rfl))),wr ((i:Int)+1)] [2,3,6,4] [2,3] hcx hq
theorem svB_z1 (hi:i=(vlP x).length) (hN:(vlP x).length<=1000000000) (cx:Cx) (hcx:cx.n=141) {Q:PExit->S->Prop} (hq:Q (.exit 2) (S.mk [(2,.lp 2 0),(3,.lp 3 0),(6,vI6 (i:Int))] [(2,vlV x),(3,vlV x)] e)):PW Tryz.prog cx (loopF Tryz.f22 1) (svB_I x (i:Int) e) Q:=
 pw mdL 141 [sl (nmsC_len (vlP x)),df ((i:Int)<((vlP x).length:Int))] [2,3,6,4] [2,3] hcx hq
end
def svB_q (x:Vl) (e:Ext):PExit × S:=(.exit 2,S.mk [(2,.lp 2 0),(3,.lp 3 0)] [(2,vlV x),(3,vlV x)] e)
theorem svB_lp (x:Vl) (hwk:∀w,w∈vlK x->Pu 22 [.agg (vlL w),.agg (vlL w)] (.ret (.bool true))) (hwb:∀w,w∈vlBd x->Pu 22 [.agg (vlL (bdV w)),.agg (vlL (bdV w))] (.ret (.bool true))) (hwe:Pu 54 [.sl 7 (Ex.cs (vlB x)),.sl 7 (Ex.cs (vlB x))] (.ret (.bool true))) (hl0:(vlK x).length<=1000000000) (e:Ext) (hN:(vlP x).length<=1000000000) (i:Nat)  (hi0:i<=(vlP x).length)  : (Ob.loop 141 (loopF Tryz.f22 1) (svB_I x (i:Int)  e) (svB_q x e).1 (svB_q x e).2).ok Tryz.prog:=by
 refine Ob.loop_of (P:=Tryz.prog) (α:={ zz:Nat × Unit // zz.1<=(vlP x).length }) (fun zz=>svB_I x (zz.1.1:Int)  e) (fun zz=>(vlP x).length - zz.1.1) (fun zz=>(svB_q x e)) ?_ ⟨(i,()),hi0⟩
 clear hi0
 clear  i
 rintro ⟨⟨i,u⟩,hi⟩ cx hcx
 simp only at hi  ⊢
 rcases Nat.lt_or_ge i ((vlP x).length) with hlt | hge
 ·have hd:=drop_at0 hlt
  exact svB_b1 x hwk hwb hwe hl0 i  e hlt hN   cx hcx (.inl ⟨rfl,⟨((i+1),()),by simp only; omega⟩,by simp only; omega,⟨⟨W,W,W,trivial⟩,⟨Ws,Ws,trivial⟩,rfl⟩,by trivial⟩)
 ·have he:i=(vlP x).length:=by omega
  subst he
  refine svB_z1 x hwk hwb hwe hl0 ((vlP x).length)  e rfl hN   cx hcx (.inr ?_)
  exact ⟨by simp,rfl,⟨⟨W,W,trivial⟩,⟨Ws,Ws,trivial⟩,rfl⟩⟩
theorem svB (x:Vl) (hwk:∀w,w∈vlK x->Pu 22 [.agg (vlL w),.agg (vlL w)] (.ret (.bool true))) (hwb:∀w,w∈vlBd x->Pu 22 [.agg (vlL (bdV w)),.agg (vlL (bdV w))] (.ret (.bool true))) (hwe:Pu 54 [.sl 7 (Ex.cs (vlB x)),.sl 7 (Ex.cs (vlB x))] (.ret (.bool true))) (hl0:(vlK x).length<=1000000000)  (e:Ext) (hN:(vlP x).length<=1000000000)  : (Ob.loop 141 (loopF Tryz.f22 1) (svB_I x 0  e) (svB_q x e).1 (svB_q x e).2).ok Tryz.prog:=by
 have:=svB_lp x hwk hwb hwe hl0 e hN 0  (Nat.zero_le _)
 exact this
abbrev svC_I (x:Vl) (j:Int)  (e:Ext):S:=S.mk [(2,.lp 2 0),(3,.lp 3 0),(7,vI6 j)] [(2,vlV x),(3,vlV x)] e
section
variable (x:Vl) (hwk:∀w,w∈vlK x->Pu 22 [.agg (vlL w),.agg (vlL w)] (.ret (.bool true))) (hwb:∀w,w∈vlBd x->Pu 22 [.agg (vlL (bdV w)),.agg (vlL (bdV w))] (.ret (.bool true))) (hwe:Pu 54 [.sl 7 (Ex.cs (vlB x)),.sl 7 (Ex.cs (vlB x))] (.ret (.bool true))) (hl0:(vlK x).length<=1000000000) (hl1:(vlP x).length<=1000000000) (i:Nat) (e:Ext)
include x hwk hwb hwe hl0 hl1 i e
theorem svC_b1 (hi:i<(vlBd x).length) (hN:(vlBd x).length<=1000000000) (cx:Cx) (hcx:cx.n=141) {Q:PExit->S->Prop} (hq:Q (.normal) (S.mk [(2,.lp 2 0),(3,.lp 3 0),(7,vI6 ((i:Int)+1))] [(2,vlV x),(3,vlV x)] e)):PW Tryz.prog cx (loopF Tryz.f22 2) (svC_I x (i:Int) e) Q:=
 pw mdL 141 [sl (Bd.cs_len (vlBd x)),dt ((i:Int)<((vlBd x).length:Int)),am ((0:Int)<=(i:Int)/\(i:Int)<((Bd.cs (vlBd x)).length:Int)) (by (simp only [Bd.cs_len]; omega)),xBd (vlBd x) i hi,am ((0:Int)<=(i:Int)/\(i:Int)<((Bd.cs (vlBd x)).length:Int)) (by (simp only [Bd.cs_len]; omega)),xBd (vlBd x) i hi,rp 4 (bf (!ByteArray.toList (bdNm (List.getD (vlBd x) i default))==ByteArray.toList (bdNm (List.getD (vlBd x) i default))) (bnF (bsT (by rfl)))),am ((0:Int)<=(i:Int)/\(i:Int)<((Bd.cs (vlBd x)).length:Int)) (by (simp only [Bd.cs_len]; omega)),xBd (vlBd x) i hi,rp 6 (bf (!ByteArray.toList (bdNm (List.getD (vlBd x) i default))==ByteArray.toList (bdNm (List.getD (vlBd x) i default))) (bnF (bsT (by rfl)))),am ((0:Int)<=(i:Int)/\(i:Int)<((Bd.cs (vlBd x)).length:Int)) (by (simp only [Bd.cs_len]; omega)),xBd (vlBd x) i hi,rp 3 (bf (!ByteArray.toList (bdNm (List.getD (vlBd x) i default))==ByteArray.toList (bdNm (List.getD (vlBd x) i default))) (bnF (bsT (by rfl)))),cl (@hwb (List.getD (vlBd x) i default) (by simp_all)),rp 2 (bf (!ByteArray.toList (bdNm (List.getD (vlBd x) i default))==ByteArray.toList (bdNm (List.getD (vlBd x) i default))) (bnF (bsT (by rfl)))),bf false,wr ((i:Int)+1)] [2,3,7,4] [2,3] hcx hq
theorem svC_z1 (hi:i=(vlBd x).length) (hN:(vlBd x).length<=1000000000) (cx:Cx) (hcx:cx.n=141) {Q:PExit->S->Prop} (hq:Q (.exit 4) (S.mk [(2,.lp 2 0),(3,.lp 3 0),(7,vI6 (i:Int))] [(2,vlV x),(3,vlV x)] e)):PW Tryz.prog cx (loopF Tryz.f22 2) (svC_I x (i:Int) e) Q:=
 pw mdL 141 [sl (Bd.cs_len (vlBd x)),df ((i:Int)<((vlBd x).length:Int))] [2,3,7,4] [2,3] hcx hq
end
def svC_q (x:Vl) (e:Ext):PExit × S:=(.exit 4,S.mk [(2,.lp 2 0),(3,.lp 3 0)] [(2,vlV x),(3,vlV x)] e)
theorem svC_lp (x:Vl) (hwk:∀w,w∈vlK x->Pu 22 [.agg (vlL w),.agg (vlL w)] (.ret (.bool true))) (hwb:∀w,w∈vlBd x->Pu 22 [.agg (vlL (bdV w)),.agg (vlL (bdV w))] (.ret (.bool true))) (hwe:Pu 54 [.sl 7 (Ex.cs (vlB x)),.sl 7 (Ex.cs (vlB x))] (.ret (.bool true))) (hl0:(vlK x).length<=1000000000) (hl1:(vlP x).length<=1000000000) (e:Ext) (hN:(vlBd x).length<=1000000000) (i:Nat)  (hi0:i<=(vlBd x).length)  : (Ob.loop 141 (loopF Tryz.f22 2) (svC_I x (i:Int)  e) (svC_q x e).1 (svC_q x e).2).ok Tryz.prog:=by
 refine Ob.loop_of (P:=Tryz.prog) (α:={ zz:Nat × Unit // zz.1<=(vlBd x).length }) (fun zz=>svC_I x (zz.1.1:Int)  e) (fun zz=>(vlBd x).length - zz.1.1) (fun zz=>(svC_q x e)) ?_ ⟨(i,()),hi0⟩
 clear hi0
 clear  i
 rintro ⟨⟨i,u⟩,hi⟩ cx hcx
 simp only at hi  ⊢
 rcases Nat.lt_or_ge i ((vlBd x).length) with hlt | hge
 ·have hd:=drop_at hlt
  exact svC_b1 x hwk hwb hwe hl0 hl1 i  e hlt hN   cx hcx (.inl ⟨rfl,⟨((i+1),()),by simp only; omega⟩,by simp only; omega,⟨⟨W,W,W,trivial⟩,⟨Ws,Ws,trivial⟩,rfl⟩,by trivial⟩)
 ·have he:i=(vlBd x).length:=by omega
  subst he
  refine svC_z1 x hwk hwb hwe hl0 hl1 ((vlBd x).length)  e rfl hN   cx hcx (.inr ?_)
  exact ⟨by simp,rfl,⟨⟨W,W,trivial⟩,⟨Ws,Ws,trivial⟩,rfl⟩⟩
theorem svC (x:Vl) (hwk:∀w,w∈vlK x->Pu 22 [.agg (vlL w),.agg (vlL w)] (.ret (.bool true))) (hwb:∀w,w∈vlBd x->Pu 22 [.agg (vlL (bdV w)),.agg (vlL (bdV w))] (.ret (.bool true))) (hwe:Pu 54 [.sl 7 (Ex.cs (vlB x)),.sl 7 (Ex.cs (vlB x))] (.ret (.bool true))) (hl0:(vlK x).length<=1000000000) (hl1:(vlP x).length<=1000000000)  (e:Ext) (hN:(vlBd x).length<=1000000000)  : (Ob.loop 141 (loopF Tryz.f22 2) (svC_I x 0  e) (svC_q x e).1 (svC_q x e).2).ok Tryz.prog:=by
 have:=svC_lp x hwk hwb hwe hl0 hl1 e hN 0  (Nat.zero_le _)
 exact this
theorem rSameValue (x:Vl) (hwk:∀w,w∈vlK x->Pu 22 [.agg (vlL w),.agg (vlL w)] (.ret (.bool true))) (hwb:∀w,w∈vlBd x->Pu 22 [.agg (vlL (bdV w)),.agg (vlL (bdV w))] (.ret (.bool true))) (hwe:Pu 54 [.sl 7 (Ex.cs (vlB x)),.sl 7 (Ex.cs (vlB x))] (.ret (.bool true))) (hl0:(vlK x).length<=1000000000) (hl1:(vlP x).length<=1000000000) (hl2:(vlBd x).length<=1000000000):Pu 22 ([.agg (vlL x),.agg (vlL x)]) (rB true):=
 pu mdL (fun e=>[rp 6 (nn (vlO x) (vlO x)),rp 6 (nn (vlN x) (vlN x)),rp 3 (bf (!ByteArray.toList (vlNm x)==ByteArray.toList (vlNm x)) (bnF (bsT (by rfl)))),sl (Vl.cs_len (vlK x)),rp 3 (bf (!ByteArray.toList (vlNm x)==ByteArray.toList (vlNm x)) (bnF (bsT (by rfl)))),sl (Vl.cs_len (vlK x)),rp 2 (bf (!ByteArray.toList (vlNm x)==ByteArray.toList (vlNm x)) (bnF (bsT (by rfl)))),rp 3 (nn ((vlK x).length:Int) ((vlK x).length:Int)),sl (nmsC_len (vlP x)),rp 3 (nn ((vlK x).length:Int) ((vlK x).length:Int)),sl (nmsC_len (vlP x)),rp 2 (nn ((vlK x).length:Int) ((vlK x).length:Int)),rp 3 (nn ((vlP x).length:Int) ((vlP x).length:Int)),sl (Ex.cs_len (vlB x)),rp 3 (nn ((vlP x).length:Int) ((vlP x).length:Int)),sl (Ex.cs_len (vlB x)),rp 2 (nn ((vlP x).length:Int) ((vlP x).length:Int)),rp 3 (nn ((vlB x).length:Int) ((vlB x).length:Int)),sl (Bd.cs_len (vlBd x)),rp 3 (nn ((vlB x).length:Int) ((vlB x).length:Int)),sl (Bd.cs_len (vlBd x)),rp 2 (nn ((vlB x).length:Int) ((vlB x).length:Int)),nn ((vlBd x).length:Int) ((vlBd x).length:Int),lp (S.mk [(0,.v (.agg (vlL x))),(1,.v (.agg (vlL x))),(2,.lp 2 0),(3,.lp 3 0),(4,.v (.bool false)),(8,.lp 2 0),(9,vI6 (vlO x)),(10,.lp 3 0),(11,vI6 (vlO x)),(12,.v (.bool (vlO x != vlO x))),(13,.v (.bool (vlO x != vlO x))),(14,.lp 2 1),(15,vI6 (vlN x)),(16,.lp 3 1),(17,vI6 (vlN x)),(18,.v (.bool (vlN x != vlN x))),(19,.v (.bool (vlN x != vlN x))),(20,.v (.bool (vlN x != vlN x))),(21,.lp 2 2),(22,vS (vlNm x)),(23,.lp 3 2),(24,vS (vlNm x)),(25,.v (.bool !ByteArray.toList (vlNm x)==ByteArray.toList (vlNm x))),(26,.v (.bool !ByteArray.toList (vlNm x)==ByteArray.toList (vlNm x))),(27,.v (.bool !ByteArray.toList (vlNm x)==ByteArray.toList (vlNm x))),(28,.lp 2 3),(29,vL 7 (Vl.cs (vlK x))),(30,vI6 ((vlK x).length:Int)),(31,.lp 3 3),(32,vL 7 (Vl.cs (vlK x))),(33,vI6 ((vlK x).length:Int)),(34,.v (.bool (((vlK x).length:Int) != ((vlK x).length:Int)))),(35,.v (.bool (((vlK x).length:Int) != ((vlK x).length:Int)))),(36,.v (.bool (((vlK x).length:Int) != ((vlK x).length:Int)))),(37,.lp 2 4),(38,vL 1 (nmsC (vlP x))),(39,vI6 ((vlP x).length:Int)),(40,.lp 3 4),(41,vL 1 (nmsC (vlP x))),(42,vI6 ((vlP x).length:Int)),(43,.v (.bool (((vlP x).length:Int) != ((vlP x).length:Int)))),(44,.v (.bool (((vlP x).length:Int) != ((vlP x).length:Int)))),(45,.v (.bool (((vlP x).length:Int) != ((vlP x).length:Int)))),(46,.lp 2 5),(47,vL 7 (Ex.cs (vlB x))),(48,vI6 ((vlB x).length:Int)),(49,.lp 3 5),(50,vL 7 (Ex.cs (vlB x))),(51,vI6 ((vlB x).length:Int)),(52,.v (.bool (((vlB x).length:Int) != ((vlB x).length:Int)))),(53,.v (.bool (((vlB x).length:Int) != ((vlB x).length:Int)))),(54,.v (.bool (((vlB x).length:Int) != ((vlB x).length:Int)))),(55,.lp 2 6),(56,vL 8 (Bd.cs (vlBd x))),(57,vI6 ((vlBd x).length:Int)),(58,.lp 3 6),(59,vL 8 (Bd.cs (vlBd x))),(60,vI6 ((vlBd x).length:Int)),(61,.v (.bool (((vlBd x).length:Int) != ((vlBd x).length:Int)))),(62,.v (.bool (((vlBd x).length:Int) != ((vlBd x).length:Int)))),(5,vI6 0)] [(2,vlV x),(3,vlV x)] e) (@svA (x) hwk hwb hwe (e) hl0) ⟨⟨W,W,W,trivial⟩,⟨⟨W,W,W,W,W,W,W,trivial⟩,⟨W,W,W,W,W,W,W,trivial⟩,trivial⟩,rfl⟩,lp (S.mk [(2,.lp 2 0),(3,.lp 3 0),(6,vI6 0)] [(2,vlV x),(3,vlV x)] e) (@svB (x) hwk hwb hwe hl0 (e) hl1) ⟨⟨W,W,W,trivial⟩,⟨⟨W,W,W,W,W,W,W,trivial⟩,⟨W,W,W,W,W,W,W,trivial⟩,trivial⟩,rfl⟩,lp (S.mk [(2,.lp 2 0),(3,.lp 3 0),(7,vI6 0)] [(2,vlV x),(3,vlV x)] e) (@svC (x) hwk hwb hwe hl0 hl1 (e) hl2) ⟨⟨W,W,W,trivial⟩,⟨⟨W,W,W,W,W,W,W,trivial⟩,⟨W,W,W,W,W,W,W,trivial⟩,trivial⟩,rfl⟩,cl hwe]) Tryz.func22
end Go.Proofs.YtgonmmckkikmaaaGreat
namespace Go.Proofs.YtgonmmckkikmaaaGreat
open Go.Pv
set_option maxRecDepth 100000
theorem rSameO (v:Vl) (er st:Int) (wh:ByteArray) (hv:Pu 22 [.agg (vlL v),.agg (vlL v)] (.ret (.bool true))):Pu 15 ([.agg (otL v er wh st),.agg (otL v er wh st)]) (rB true):=
 pu mdL (fun e=>[rp 6 (et er er),rp 6 (bt (ByteArray.toList wh==ByteArray.toList wh) (bsT (by rfl))),rp 5 (et st st),cl hv,et st st]) Tryz.func15
def szP (x:Pr):Nat:=bulkPs (prL x)
def szT (x:Tp):Nat:=bulkPs (tpL x)
theorem szP_eq (x:Pr):szP x=(prNm x).size+bulkPss (Pr.cs (prK x))+4:=by simp only [szP,bulkPs,bulkP]; omega
theorem szT_eq (x:Tp):szT x=(tpNm x).size+bulkPss (Tp.cs (tpA x))+bulkPss (nmsC (tpNs x))+szP (tpP x)+bulkPss (Pr.cs (tpPs x))+5:=by simp only [szT,szP,bulkPs,bulkP]; omega
theorem prs_bulk (l:List Pr):l.length<=bulkPss (Pr.cs l):=by
 have:=len_bulk (l:=Pr.cs l) fun c hc=>by
  rw [Pr.cs_eq] at hc
  obtain ⟨x, -,rfl⟩:=List.mem_map.1 hc
  have:=szP_eq x
  unfold szP at this
  omega
 rwa [Pr.cs_len] at this
theorem tps_bulk (l:List Tp):l.length<=bulkPss (Tp.cs l):=by
 have:=len_bulk (l:=Tp.cs l) fun c hc=>by
  rw [Tp.cs_eq] at hc
  obtain ⟨x, -,rfl⟩:=List.mem_map.1 hc
  have:=szT_eq x
  unfold szT at this
  omega
 rwa [Tp.cs_len] at this
theorem pr_bulk {l:List Pr} {w:Pr} (h:w∈l):szP w<=bulkPss (Pr.cs l):=mem_bulk (by rw [Pr.cs_eq]; exact List.mem_map_of_mem h)
theorem tp_bulk {l:List Tp} {w:Tp} (h:w∈l):szT w<=bulkPss (Tp.cs l):=mem_bulk (by rw [Tp.cs_eq]; exact List.mem_map_of_mem h)
theorem pm_bulk {l:List Pm} {w:Pm} (h:w∈l):szT (pmT w)<=bulkPss (pmsC l):=by
 have h1:=mem_bulk (l:=pmsC l) (c:=pmL w) (by rw [pmsC_eq]; exact List.mem_map_of_mem h)
 have:bulkPs (pmL w)=(pmNm w).size+1+szT (pmT w):=by simp only [bulkPs,bulkP,szT]
 omega
theorem samePred_ok:∀ (d:Nat) (x:Pr),szP x<d->szP x<=100000000->Pu 160 [.agg (prL x),.agg (prL x)] (.ret (.bool true))
 | 0,_,h,_=>by omega
 | d+1,x,h,hs=>by
  have h1:=szP_eq x
  have h2:=prs_bulk (prK x)
  exact rSamePred x (fun w hw=>samePred_ok d w (by have:=pr_bulk hw; omega) (by have:=pr_bulk hw; omega)) (by omega)
theorem sameType_ok:∀ (d:Nat) (x:Tp),szT x<d->szT x<=100000000->Pu 144 [.agg (tpL x),.agg (tpL x)] (.ret (.bool true))
 | 0,_,h,_=>by omega
 | d+1,x,h,hs=>by
  have h1:=szT_eq x
  have h2:=prs_bulk (tpPs x)
  have h3:=tps_bulk (tpA x)
  have h4:=nms_bulk (tpNs x)
  exact rSameType x (fun w hw=>samePred_ok _ w (Nat.lt_succ_self _) (by have:=pr_bulk hw; omega)) (samePred_ok _ _ (Nat.lt_succ_self _) (by omega)) (rSameNames _ (by omega)) (rSameTypes _ (fun w hw=>sameType_ok d w (by have:=tp_bulk hw; omega) (by have:=tp_bulk hw; omega)) (by omega)) (by omega)
theorem sameExpr_ok:∀ (d:Nat) (x:Ex),szE x<d->szE x<=100000000->Pu 82 [.agg (exL x),.agg (exL x)] (.ret (.bool true))
 | 0,_,h,_=>by omega
 | d+1,x,h,hs=>by
  have h1:=szE_eq x
  have h2:=kids_bulk (exK x)
  have h3:=alts_bulk (exA x)
  have h4:=pms_bulk (exP x)
  have h5:=tps_bulk (exT x)
  refine rSameExpr x (rSameParams _ (fun t ht=>?_) (by omega)) (rSameTypes _ (fun w hw=>sameType_ok _ w (Nat.lt_succ_self _) (by have:=tp_bulk hw; omega)) (by omega)) (fun w hw=>sameExpr_ok d w (by have:=exs_bulk hw; omega) (by have:=exs_bulk hw; omega)) (fun w hw=>rSameNames _ ?_) (fun w hw=>sameExpr_ok d (alB w) (by have:=alt_bulk hw; omega) (by have:=alt_bulk hw; omega)) (by omega) (by omega)
  ·obtain ⟨w,hw,rfl⟩:=List.mem_map.1 ht
   exact sameType_ok _ _ (Nat.lt_succ_self _) (by have:=pm_bulk hw; omega)
  ·have h6:=mem_bulk (l:=Al.cs (exA x)) (c:=alL w) (by rw [Al.cs_eq]; exact List.mem_map_of_mem hw)
   have h7:bulkPs (alL w)=(alC w).size+1+(bulkPss (nmsC (alNs w))+1+szE (alB w)):=by simp only [bulkPs,bulkP,szE]
   have h8:=nms_bulk (alNs w)
   omega
theorem sameValue_ok:∀ (d:Nat) (v:Vl),SizeOf.sizeOf v<d->SmV v->Pu 22 [.agg (vlL v),.agg (vlL v)] (.ret (.bool true))
 | 0,_,h,_=>by omega
 | d+1,v,h,hs=>by
  obtain ⟨h1,h2,h3,h4,h5,h6⟩:=SmV_parts hs
  exact rSameValue v (fun w hw=>sameValue_ok d w (by have:=vkid_lt hw; omega) (SmVs_at h5 w hw)) (fun b hb=>sameValue_ok d (bdV b) (by have:=vbd_lt hb; omega) (SmBs_at h6 b hb)) (rSameBodies _ (fun x hx=>sameExpr_ok _ x (Nat.lt_succ_self _) (h4 x hx)) (SmV_body hs)) h1 h2 h3
theorem rSameV {v:Vl} (hs:SmV v):Pu 22 [.agg (vlL v),.agg (vlL v)] (.ret (.bool true)):=sameValue_ok _ v (Nat.lt_succ_self _) hs
theorem rSameOT {v:Vl} (hs:SmV v) (er st:Int) (wh:ByteArray):Pu 15 [.agg (otL v er wh st),.agg (otL v er wh st)] (.ret (.bool true)):=rSameO v er st wh (rSameV hs)
end Go.Proofs.YtgonmmckkikmaaaGreat
namespace Go.Proofs.YtgonmmckkikmaaaGreat
open Go.Pv
set_option maxRecDepth 100000
theorem aV (s:ByteArray):Pu 38 ([.str s]) (rA [pI 3,.str s,pI 0,.sl 7 [],.sl 10 [],.sl 9 [],.sl 9 []]):=
 Ob.pur_wk (Wk.a (WkL.c (Wk.r _) (WkL.c (Wk.r _) (WkL.c (Wk.r _) (WkL.c (Wk.n 7) (WkL.c (Wk.n 10) (WkL.c (Wk.n 9) (WkL.c (Wk.n 9) (WkL.r _))))))))) (Ob.pur_of (mdL) 50 (fun e=>[]) (sc':=fun _=>[]) (l:=fun e=>[]) mixed Tryz.func38 (by kernel_rfl) (fun e=>by kernel_rfl) (fun e=>trivial))
theorem aN (k:Int):Pu 37 ([pI k]) (rA [pI 1,.str (ByteArray.mk #[]),pI k,.sl 7 [],.sl 10 [],.sl 9 [],.sl 9 []]):=
 Ob.pur_wk (Wk.a (WkL.c (Wk.r _) (WkL.c (Wk.r _) (WkL.c (Wk.r _) (WkL.c (Wk.n 7) (WkL.c (Wk.n 10) (WkL.c (Wk.n 9) (WkL.c (Wk.n 9) (WkL.r _))))))))) (Ob.pur_of (mdL) 50 (fun e=>[]) (sc':=fun _=>[]) (l:=fun e=>[]) mixed Tryz.func37 (by kernel_rfl) (fun e=>by kernel_rfl) (fun e=>trivial))
theorem aTwo (op a0 b0 a2 b2:Int) (a1 b1:ByteArray) (a3 a4 a5 a6 b3 b4 b5 b6:List (List PV)):Pu 36 ([pI op,.agg [pI a0,.str a1,pI a2,.sl 7 a3,.sl 10 a4,.sl 9 a5,.sl 9 a6],.agg [pI b0,.str b1,pI b2,.sl 7 b3,.sl 10 b4,.sl 9 b5,.sl 9 b6]]) (rA [pI op,.str (ByteArray.mk #[]),pI 0,.sl 7 [[pI a0,.str a1,pI a2,.sl 7 a3,.sl 10 a4,.sl 9 a5,.sl 9 a6],[pI b0,.str b1,pI b2,.sl 7 b3,.sl 10 b4,.sl 9 b5,.sl 9 b6]],.sl 10 [],.sl 9 [],.sl 9 []]):=
 Ob.pur_wk (Wk.a (WkL.c (Wk.r _) (WkL.c (Wk.r _) (WkL.c (Wk.r _) (WkL.c (Wk.r _) (WkL.c (Wk.n 10) (WkL.c (Wk.n 9) (WkL.c (Wk.n 9) (WkL.r _))))))))) (Ob.pur_of (mdL) 50 (fun e=>[]) (sc':=fun _=>[]) (l:=fun e=>[]) mixed Tryz.func36 (by kernel_rfl) (fun e=>by kernel_rfl) (fun e=>trivial))
theorem aValue (k:Int):Pu 35 ([pI k]) (rA [pI 1,pI k,.str (ByteArray.mk #[]),.sl 7 [],.sl 1 [],.sl 7 [],.sl 8 []]):=
 Ob.pur_wk (Wk.a (WkL.c (Wk.r _) (WkL.c (Wk.r _) (WkL.c (Wk.r _) (WkL.c (Wk.n 7) (WkL.c (Wk.n 1) (WkL.c (Wk.n 7) (WkL.c (Wk.n 8) (WkL.r _))))))))) (Ob.pur_of (mdL) 50 (fun e=>[]) (sc':=fun _=>[]) (l:=fun e=>[]) mixed Tryz.func35 (by kernel_rfl) (fun e=>by kernel_rfl) (fun e=>trivial))
theorem aSample  : Pu 34 ([]) (rA [.sl 4 [],.sl 3 [],.sl 12 [],.sl 8 [],.sl 6 [],.sl 25 [[.str (ByteArray.mk #[100,111,119,110]),.sl 1 [[.str (ByteArray.mk #[110])]],pI 8,.str (ByteArray.mk #[]),pI 0,.sl 7 [[pI 16,.str (ByteArray.mk #[]),pI 0,.sl 7 [[pI 3,.str (ByteArray.mk #[110]),pI 0,.sl 7 [],.sl 10 [],.sl 9 [],.sl 9 []],[pI 1,.str (ByteArray.mk #[]),pI 0,.sl 7 [],.sl 10 [],.sl 9 [],.sl 9 []]],.sl 10 [],.sl 9 [],.sl 9 []],[pI 1,.str (ByteArray.mk #[]),pI 0,.sl 7 [],.sl 10 [],.sl 9 [],.sl 9 []],[pI 5,.str (ByteArray.mk #[100,111,119,110]),pI 0,.sl 7 [[pI 11,.str (ByteArray.mk #[]),pI 0,.sl 7 [[pI 3,.str (ByteArray.mk #[110]),pI 0,.sl 7 [],.sl 10 [],.sl 9 [],.sl 9 []],[pI 1,.str (ByteArray.mk #[]),pI 1,.sl 7 [],.sl 10 [],.sl 9 [],.sl 9 []]],.sl 10 [],.sl 9 [],.sl 9 []]],.sl 10 [],.sl 9 [],.sl 9 []]],.sl 10 [],.sl 9 [],.sl 9 [],pI 0,.bool false,.sl 1 [],.sl 2 [],.sl 2 [],.sl 10 [],pI 0,.str (ByteArray.mk #[]),.sl 9 [],.sl 1 [],pI 0,.str (ByteArray.mk #[]),pI 0,.sl 4 [],.sl 4 [],.sl 4 []],[.str (ByteArray.mk #[108,111,111,112]),.sl 1 [],pI 10,.str (ByteArray.mk #[]),pI 0,.sl 7 [[pI 3,.str (ByteArray.mk #[108,111,111,112]),pI 0,.sl 7 [],.sl 10 [],.sl 9 [],.sl 9 []],[pI 1,.str (ByteArray.mk #[]),pI 1,.sl 7 [],.sl 10 [],.sl 9 [],.sl 9 []]],.sl 10 [],.sl 9 [],.sl 9 [],pI 0,.bool false,.sl 1 [],.sl 2 [],.sl 2 [],.sl 10 [],pI 0,.str (ByteArray.mk #[]),.sl 9 [],.sl 1 [],pI 0,.str (ByteArray.mk #[]),pI 0,.sl 4 [],.sl 4 [],.sl 4 []]]]):=
 Ob.pur_wk (Wk.a (WkL.c (Wk.n 4) (WkL.c (Wk.n 3) (WkL.c (Wk.n 12) (WkL.c (Wk.n 8) (WkL.c (Wk.n 6) (WkL.c (Wk.s (WkLL.c (WkL.c (Wk.r _) (WkL.c (Wk.r _) (WkL.c (Wk.r _) (WkL.c (Wk.r _) (WkL.c (Wk.r _) (WkL.c (Wk.s (WkLL.c (WkL.r _) (WkLL.c (WkL.r _) (WkLL.c (WkL.c (Wk.r _) (WkL.c (Wk.r _) (WkL.c (Wk.r _) (WkL.c (Wk.r _) (WkL.c (Wk.n 10) (WkL.c (Wk.n 9) (WkL.c (Wk.n 9) (WkL.r _)))))))) (WkLL.r _))))) (WkL.c (Wk.n 10) (WkL.c (Wk.n 9) (WkL.c (Wk.n 9) (WkL.c (Wk.r _) (WkL.c (Wk.r _) (WkL.c (Wk.n 1) (WkL.c (Wk.n 2) (WkL.c (Wk.n 2) (WkL.c (Wk.n 10) (WkL.c (Wk.r _) (WkL.c (Wk.r _) (WkL.c (Wk.n 9) (WkL.c (Wk.n 1) (WkL.c (Wk.r _) (WkL.c (Wk.r _) (WkL.c (Wk.r _) (WkL.c (Wk.n 4) (WkL.c (Wk.n 4) (WkL.c (Wk.n 4) (WkL.r _)))))))))))))))))))))))))) (WkLL.c (WkL.c (Wk.r _) (WkL.c (Wk.n 1) (WkL.c (Wk.r _) (WkL.c (Wk.r _) (WkL.c (Wk.r _) (WkL.c (Wk.r _) (WkL.c (Wk.r _) (WkL.c (Wk.r _) (WkL.c (Wk.r _) (WkL.c (Wk.r _) (WkL.c (Wk.r _) (WkL.c (Wk.n 1) (WkL.c (Wk.n 2) (WkL.c (Wk.n 2) (WkL.c (Wk.n 10) (WkL.c (Wk.r _) (WkL.c (Wk.r _) (WkL.c (Wk.n 9) (WkL.c (Wk.n 1) (WkL.c (Wk.r _) (WkL.c (Wk.r _) (WkL.c (Wk.r _) (WkL.c (Wk.n 4) (WkL.c (Wk.n 4) (WkL.c (Wk.n 4) (WkL.r _)))))))))))))))))))))))))) (WkLL.r _)))) (WkL.r _)))))))) (Ob.pur_of (mdL) 50 (fun e=>[Ans.pur (rA [pI 3,.str (ByteArray.mk #[110]),pI 0,.sl 7 [],.sl 10 [],.sl 9 [],.sl 9 []]),Ans.pur (rA [pI 1,.str (ByteArray.mk #[]),pI 1,.sl 7 [],.sl 10 [],.sl 9 [],.sl 9 []]),Ans.pur (rA [pI 11,.str (ByteArray.mk #[]),pI 0,.sl 7 [[pI 3,.str (ByteArray.mk #[110]),pI 0,.sl 7 [],.sl 10 [],.sl 9 [],.sl 9 []],[pI 1,.str (ByteArray.mk #[]),pI 1,.sl 7 [],.sl 10 [],.sl 9 [],.sl 9 []]],.sl 10 [],.sl 9 [],.sl 9 []]),Ans.pur (rA [pI 3,.str (ByteArray.mk #[110]),pI 0,.sl 7 [],.sl 10 [],.sl 9 [],.sl 9 []]),Ans.pur (rA [pI 1,.str (ByteArray.mk #[]),pI 0,.sl 7 [],.sl 10 [],.sl 9 [],.sl 9 []]),Ans.pur (rA [pI 16,.str (ByteArray.mk #[]),pI 0,.sl 7 [[pI 3,.str (ByteArray.mk #[110]),pI 0,.sl 7 [],.sl 10 [],.sl 9 [],.sl 9 []],[pI 1,.str (ByteArray.mk #[]),pI 0,.sl 7 [],.sl 10 [],.sl 9 [],.sl 9 []]],.sl 10 [],.sl 9 [],.sl 9 []]),Ans.pur (rA [pI 1,.str (ByteArray.mk #[]),pI 0,.sl 7 [],.sl 10 [],.sl 9 [],.sl 9 []]),Ans.pur (rA [pI 3,.str (ByteArray.mk #[108,111,111,112]),pI 0,.sl 7 [],.sl 10 [],.sl 9 [],.sl 9 []]),Ans.pur (rA [pI 1,.str (ByteArray.mk #[]),pI 1,.sl 7 [],.sl 10 [],.sl 9 [],.sl 9 []]),Ans.pur (rA [pI 10,.str (ByteArray.mk #[]),pI 0,.sl 7 [[pI 3,.str (ByteArray.mk #[108,111,111,112]),pI 0,.sl 7 [],.sl 10 [],.sl 9 [],.sl 9 []],[pI 1,.str (ByteArray.mk #[]),pI 1,.sl 7 [],.sl 10 [],.sl 9 [],.sl 9 []]],.sl 10 [],.sl 9 [],.sl 9 []])]) (sc':=fun _=>[]) (l:=fun e=>[Ob.pur 38 [.str (ByteArray.mk #[110])] (rA [pI 3,.str (ByteArray.mk #[110]),pI 0,.sl 7 [],.sl 10 [],.sl 9 [],.sl 9 []]),Ob.pur 37 [pI 1] (rA [pI 1,.str (ByteArray.mk #[]),pI 1,.sl 7 [],.sl 10 [],.sl 9 [],.sl 9 []]),Ob.pur 36 [pI 11,.agg [pI 3,.str (ByteArray.mk #[110]),pI 0,.sl 7 [],.sl 10 [],.sl 9 [],.sl 9 []],.agg [pI 1,.str (ByteArray.mk #[]),pI 1,.sl 7 [],.sl 10 [],.sl 9 [],.sl 9 []]] (rA [pI 11,.str (ByteArray.mk #[]),pI 0,.sl 7 [[pI 3,.str (ByteArray.mk #[110]),pI 0,.sl 7 [],.sl 10 [],.sl 9 [],.sl 9 []],[pI 1,.str (ByteArray.mk #[]),pI 1,.sl 7 [],.sl 10 [],.sl 9 [],.sl 9 []]],.sl 10 [],.sl 9 [],.sl 9 []]),Ob.pur 38 [.str (ByteArray.mk #[110])] (rA [pI 3,.str (ByteArray.mk #[110]),pI 0,.sl 7 [],.sl 10 [],.sl 9 [],.sl 9 []]),Ob.pur 37 [pI 0] (rA [pI 1,.str (ByteArray.mk #[]),pI 0,.sl 7 [],.sl 10 [],.sl 9 [],.sl 9 []]),Ob.pur 36 [pI 16,.agg [pI 3,.str (ByteArray.mk #[110]),pI 0,.sl 7 [],.sl 10 [],.sl 9 [],.sl 9 []],.agg [pI 1,.str (ByteArray.mk #[]),pI 0,.sl 7 [],.sl 10 [],.sl 9 [],.sl 9 []]] (rA [pI 16,.str (ByteArray.mk #[]),pI 0,.sl 7 [[pI 3,.str (ByteArray.mk #[110]),pI 0,.sl 7 [],.sl 10 [],.sl 9 [],.sl 9 []],[pI 1,.str (ByteArray.mk #[]),pI 0,.sl 7 [],.sl 10 [],.sl 9 [],.sl 9 []]],.sl 10 [],.sl 9 [],.sl 9 []]),Ob.pur 37 [pI 0] (rA [pI 1,.str (ByteArray.mk #[]),pI 0,.sl 7 [],.sl 10 [],.sl 9 [],.sl 9 []]),Ob.pur 38 [.str (ByteArray.mk #[108,111,111,112])] (rA [pI 3,.str (ByteArray.mk #[108,111,111,112]),pI 0,.sl 7 [],.sl 10 [],.sl 9 [],.sl 9 []]),Ob.pur 37 [pI 1] (rA [pI 1,.str (ByteArray.mk #[]),pI 1,.sl 7 [],.sl 10 [],.sl 9 [],.sl 9 []]),Ob.pur 36 [pI 10,.agg [pI 3,.str (ByteArray.mk #[108,111,111,112]),pI 0,.sl 7 [],.sl 10 [],.sl 9 [],.sl 9 []],.agg [pI 1,.str (ByteArray.mk #[]),pI 1,.sl 7 [],.sl 10 [],.sl 9 [],.sl 9 []]] (rA [pI 10,.str (ByteArray.mk #[]),pI 0,.sl 7 [[pI 3,.str (ByteArray.mk #[108,111,111,112]),pI 0,.sl 7 [],.sl 10 [],.sl 9 [],.sl 9 []],[pI 1,.str (ByteArray.mk #[]),pI 1,.sl 7 [],.sl 10 [],.sl 9 [],.sl 9 []]],.sl 10 [],.sl 9 [],.sl 9 []])]) mixed Tryz.func34 (by kernel_rfl) (fun e=>by kernel_rfl) (fun e=>⟨(@aV (ByteArray.mk #[110])),(@aN (1)),(@aTwo (11) (3) (1) (0) (1) (ByteArray.mk #[110]) (ByteArray.mk #[]) ([]) ([]) ([]) ([]) ([]) ([]) ([]) ([])),(@aV (ByteArray.mk #[110])),(@aN (0)),(@aTwo (16) (3) (1) (0) (0) (ByteArray.mk #[110]) (ByteArray.mk #[]) ([]) ([]) ([]) ([]) ([]) ([]) ([]) ([])),(@aN (0)),(@aV (ByteArray.mk #[108,111,111,112])),(@aN (1)),(@aTwo (10) (3) (1) (0) (1) (ByteArray.mk #[108,111,111,112]) (ByteArray.mk #[]) ([]) ([]) ([]) ([]) ([]) ([]) ([]) ([])),trivial⟩))
end Go.Proofs.YtgonmmckkikmaaaGreat
namespace Go.Proofs.YtgonmmckkikmaaaGreat
open Go.Pv
set_option maxRecDepth 100000
abbrev sDown:ByteArray:=ByteArray.mk #[100,111,119,110]
abbrev sLoop:ByteArray:=ByteArray.mk #[108,111,111,112]
abbrev sN:ByteArray:=ByteArray.mk #[110]
abbrev sC:ByteArray:=ByteArray.mk #[99]
abbrev sD:ByteArray:=ByteArray.mk #[100]
abbrev sUp:ByteArray:=ByteArray.mk #[117,112]
abbrev kV (s:ByteArray):Ex := .mk 3 s 0 [] [] [] []
abbrev kN (k:Int):Ex := .mk 1 nm0 k [] [] [] []
abbrev kT (op:Int) (a b:Ex):Ex := .mk op nm0 0 [a,b] [] [] []
abbrev kNext:Ex := .mk 5 sDown 0 [kT 11 (kV sN) (kN 1)] [] [] []
abbrev kBody:Ex := .mk 8 nm0 0 [kT 16 (kV sN) (kN 0),kN 0,kNext] [] [] []
abbrev sampL:List Df:=[.mk sDown [sN] kBody 0 false [] (.sl 2 []) (.sl 2 []) (.sl 10 []) default [],.mk sLoop [] (kT 10 (kV sLoop) (kN 1)) 0 false [] (.sl 2 []) (.sl 2 []) (.sl 10 []) default []]
abbrev smpP:PV:=mdM (.sl 4 []) (.sl 3 []) (.sl 12 []) (.sl 8 []) (.sl 6 []) sampL
theorem smp_nx:PV.noX smpP=true:=by kernel_rfl
theorem smp_sm:SmL sampL:=SmL_bulk (Nat.le_of_ble_eq_true (by kernel_rfl))
theorem smp_ok:Pu 34 [] (.ret smpP):=aSample
theorem aw_call (args:List Vl) (fu:Int) (o:Oc) (ha:SmVs args) (h:evx semE sampL (fl' fu) 40 (.call (sampL.getD 0 default) args) 0 nm0=some o):Pu 21 [smpP,.str sDown,.sl 7 (Vl.cs args),.int .i64 fu] (.ret (.agg (ocL o))):=
 eCall_ok _ _ _ _ _ sampL fu smp_nx smp_sm ha (.inr ⟨_,by kernel_rfl,evx_ok _ _ _ _ _ h⟩)
theorem aw_expr (bs:List Bd) (x:Ex) (fu:Int) (o:Oc) (hb:bulkPss (Bd.cs bs)<=100000000) (hs:szE x<=100000000) (h:evx semE sampL (fl' fu) 40 (.ex bs.reverse x) 0 nm0=some o):Pu 16 [smpP,.sl 8 (Bd.cs bs),.agg (exL x),.int .i64 fu] (.ret (.agg (ocL o))):=
 eExpr_ok _ _ _ _ _ sampL fu smp_nx smp_sm (SmBs_bulk hb) (by have:=bds_bulk bs; omega) hs (evx_ok _ _ _ _ _ h)
theorem aw3:SmVs [vI 3]:=SmVs_bulk (Nat.le_of_ble_eq_true (by kernel_rfl))
theorem awA:Pu 21 [smpP,.str sDown,.sl 7 [vlL (vI 3)],.int .i64 4] (.ret (.agg (otL (vI 0) 0 nm0 4))):=aw_call [vI 3] 4 (.ok [vI 0] 4) aw3 (by kernel_rfl)
theorem awB:Pu 21 [smpP,.str sDown,.sl 7 [vlL (vI 3)],.int .i64 3] (.ret (.agg (otL default 24 sDown 3))):=aw_call [vI 3] 3 (.er 24 3 sDown) aw3 (by kernel_rfl)
theorem awC:Pu 18 [smpP,.str sLoop,.int .i64 9] (.ret (.agg (otL default 24 sLoop 9))):=
 eCons_ok _ _ _ _ _ sampL 9 smp_nx smp_sm (o := .er 24 9 sLoop) (.inr ⟨sampL.getD 1 default,by kernel_rfl,.inr ⟨rfl,evx_ok 60 _ _ _ _ (by kernel_rfl)⟩⟩)
theorem aw_nil {x:Ex} {a:List PV} {k:Int} {o:List PV} (hw:WkL a (exL x)) (h:Pu 16 [smpP,.sl 8 (Bd.cs []),.agg (exL x),.int .i64 k] (.ret (.agg o))):Pu 16 [smpP,.nilsl,.agg a,.int .i64 k] (.ret (.agg o)):=Ob.pur_arg (.c (.r _) (.c (.n 8) (.c (.a hw) (.r _)))) h
theorem nle (n:Nat) (h:Nat.ble n 100000000=true):n<=100000000:=Nat.le_of_ble_eq_true h
theorem awD:Pu 16 [smpP,.nilsl,.agg (exL (kT 13 (kN 7) (kN (-2)))),.int .i64 0] (.ret (.agg (otL (vI (-4)) 0 nm0 0))):=aw_nil (.r _) (aw_expr [] (kT 13 (kN 7) (kN (-2))) 0 (.ok [vI (-4)] 0) (nle _ (by kernel_rfl)) (nle _ (by kernel_rfl)) (by kernel_rfl))
theorem awE:Pu 16 [smpP,.nilsl,.agg (exL (kT 14 (kN 7) (kN (-2)))),.int .i64 0] (.ret (.agg (otL (vI (-1)) 0 nm0 0))):=aw_nil (.r _) (aw_expr [] (kT 14 (kN 7) (kN (-2))) 0 (.ok [vI (-1)] 0) (nle _ (by kernel_rfl)) (nle _ (by kernel_rfl)) (by kernel_rfl))
abbrev kZ:Ex:=kT 16 (kT 13 (kN 1) (kN 0)) (kN 1)
abbrev kB (n:Int):Ex := .mk 2 nm0 n [] [] [] []
theorem awF:Pu 16 [smpP,.nilsl,.agg (exL (kT 20 (kB 0) kZ)),.int .i64 0] (.ret (.agg (otL default 27 nm0 0))):=aw_nil (.r _) (aw_expr [] (kT 20 (kB 0) kZ) 0 (.er 27 0 nm0) (nle _ (by kernel_rfl)) (nle _ (by kernel_rfl)) (by kernel_rfl))
theorem awG:Pu 16 [smpP,.nilsl,.agg (exL (kT 20 (kB 1) kZ)),.int .i64 0] (.ret (.agg (otL (vB true) 0 nm0 0))):=aw_nil (.r _) (aw_expr [] (kT 20 (kB 1) kZ) 0 (.ok [vB true] 0) (nle _ (by kernel_rfl)) (nle _ (by kernel_rfl)) (by kernel_rfl))
theorem awU:Pu 21 [smpP,.str sUp,.nilsl,.int .i64 9] (.ret (.agg (otL default 19 nm0 0))):=
 Ob.pur_arg (.c (.r _) (.c (.r _) (.c (.n 7) (.r _)))) (eCall_ok _ _ _ _ _ sampL 9 smp_nx smp_sm (name:=sUp) (args:=[]) (o := .er 19 0 nm0) (SmVs_bulk (nle _ (by kernel_rfl))) (.inl ⟨by kernel_rfl,rfl⟩))
abbrev kL:Ex := .mk 7 sD 0 [kT 24 (kV sC) (kN 2),.mk 23 nm0 0 [kV sC] [] [] []] [] [] []
abbrev kLP:List PV:=[.int .i64 7,.str sD,.int .i64 0,.sl 7 [exL (kT 24 (kV sC) (kN 2)),[.int .i64 23,.str nm0,.int .i64 0,.sl 7 [exL (kV sC)],.nilsl,.nilsl,.nilsl]],.nilsl,.nilsl,.nilsl]
abbrev bsH:List Bd:=[.mk sC (.mk 4 1 nm0 [] [] [] [])]
abbrev bsHP:List (List PV):=[[.str sC,.int .i64 4,.int .i64 1,.str nm0,.nilsl,.nilsl,.nilsl,.nilsl]]
theorem awH:Pu 16 [smpP,.sl 8 bsHP,.agg kLP,.int .i64 0] (.ret (.agg (otL (vI 1) 0 nm0 0))):=by
 refine Ob.pur_arg ?_ (aw_expr bsH kL 0 (.ok [vI 1] 0) (nle _ (by kernel_rfl)) (nle _ (by kernel_rfl)) (by kernel_rfl))
 refine .c (.r _) (.c (.s (.c (.c (.r _) (.c (.r _) (.c (.r _) (.c (.r _) (.c (.n 7) (.c (.n 1) (.c (.n 7) (.c (.n 8) (.r _))))))))) (.r _))) (.c (.a ?_) (.r _)))
 exact .c (.r _) (.c (.r _) (.c (.r _) (.c (.s (.c (.r _) (.c (.c (.r _) (.c (.r _) (.c (.r _) (.c (.r _) (.c (.n 10) (.c (.n 9) (.c (.n 9) (.r _)))))))) (.r _)))) (.c (.n 10) (.c (.n 9) (.c (.n 9) (.r _)))))))
theorem aTwoN (op a0 b0 a2 b2:Int) (a1 b1:ByteArray) (b3 b4 b5 b6:List (List PV)):Pu 36 ([pI op,.agg [pI a0,.str a1,pI a2,.nilsl,.nilsl,.nilsl,.nilsl],.agg [pI b0,.str b1,pI b2,.sl 7 b3,.sl 10 b4,.sl 9 b5,.sl 9 b6]]) (rA [pI op,.str (ByteArray.mk #[]),pI 0,.sl 7 [[pI a0,.str a1,pI a2,.sl 7 [],.sl 10 [],.sl 9 [],.sl 9 []],[pI b0,.str b1,pI b2,.sl 7 b3,.sl 10 b4,.sl 9 b5,.sl 9 b6]],.sl 10 [],.sl 9 [],.sl 9 []]):=
 Ob.pur_wk (Wk.a (WkL.c (Wk.r _) (WkL.c (Wk.r _) (WkL.c (Wk.r _) (WkL.c (Wk.s (WkLL.c (WkL.c (Wk.r _) (WkL.c (Wk.r _) (WkL.c (Wk.r _) (WkL.c (Wk.n 7) (WkL.c (Wk.n 10) (WkL.c (Wk.n 9) (WkL.c (Wk.n 9) (WkL.r _)))))))) (WkLL.r _))) (WkL.c (Wk.n 10) (WkL.c (Wk.n 9) (WkL.c (Wk.n 9) (WkL.r _))))))))) (Ob.pur_of (mdL) 50 (fun e=>[]) (sc':=fun _=>[]) (l:=fun e=>[]) mixed Tryz.func36 (by kernel_rfl) (fun e=>by kernel_rfl) (fun e=>trivial))
theorem awake_ok  : Pu 12 ([]) (rB true):=
 pu mdL (fun e=>[cl smp_ok,cl (@aValue (3)),cl awA,cl smp_ok,cl (@aValue (3)),cl awB,cl smp_ok,cl awC,cl smp_ok,cl (@aN (7)),cl (@aN (-2)),cl (@aTwo (13) (1) (1) (7) (-2) (ByteArray.mk #[]) (ByteArray.mk #[]) ([]) ([]) ([]) ([]) ([]) ([]) ([]) ([])),cl awD,cl smp_ok,cl (@aN (7)),cl (@aN (-2)),cl (@aTwo (14) (1) (1) (7) (-2) (ByteArray.mk #[]) (ByteArray.mk #[]) ([]) ([]) ([]) ([]) ([]) ([]) ([]) ([])),cl awE,cl (@aN (1)),cl (@aN (0)),cl (@aTwo (13) (1) (1) (1) (0) (ByteArray.mk #[]) (ByteArray.mk #[]) ([]) ([]) ([]) ([]) ([]) ([]) ([]) ([])),cl (@aN (1)),cl (@aTwo (16) (13) (1) (0) (1) (ByteArray.mk #[]) (ByteArray.mk #[]) ([[pI 1,.str (ByteArray.mk #[]),pI 1,.sl 7 [],.sl 10 [],.sl 9 [],.sl 9 []],[pI 1,.str (ByteArray.mk #[]),pI 0,.sl 7 [],.sl 10 [],.sl 9 [],.sl 9 []]]) ([]) ([]) ([]) ([]) ([]) ([]) ([])),cl smp_ok,cl (@aTwoN (20) (2) (16) (0) (0) (ByteArray.mk #[]) (ByteArray.mk #[]) ([[pI 13,.str (ByteArray.mk #[]),pI 0,.sl 7 [[pI 1,.str (ByteArray.mk #[]),pI 1,.sl 7 [],.sl 10 [],.sl 9 [],.sl 9 []],[pI 1,.str (ByteArray.mk #[]),pI 0,.sl 7 [],.sl 10 [],.sl 9 [],.sl 9 []]],.sl 10 [],.sl 9 [],.sl 9 []],[pI 1,.str (ByteArray.mk #[]),pI 1,.sl 7 [],.sl 10 [],.sl 9 [],.sl 9 []]]) ([]) ([]) ([])),cl awF,cl smp_ok,cl (@aTwoN (20) (2) (16) (1) (0) (ByteArray.mk #[]) (ByteArray.mk #[]) ([[pI 13,.str (ByteArray.mk #[]),pI 0,.sl 7 [[pI 1,.str (ByteArray.mk #[]),pI 1,.sl 7 [],.sl 10 [],.sl 9 [],.sl 9 []],[pI 1,.str (ByteArray.mk #[]),pI 0,.sl 7 [],.sl 10 [],.sl 9 [],.sl 9 []]],.sl 10 [],.sl 9 [],.sl 9 []],[pI 1,.str (ByteArray.mk #[]),pI 1,.sl 7 [],.sl 10 [],.sl 9 [],.sl 9 []]]) ([]) ([]) ([])),cl awG,cl (@aV (ByteArray.mk #[99])),cl (@aN (2)),cl (@aTwo (24) (3) (1) (0) (2) (ByteArray.mk #[99]) (ByteArray.mk #[]) ([]) ([]) ([]) ([]) ([]) ([]) ([]) ([])),cl (@aV (ByteArray.mk #[99])),cl smp_ok,cl awH,rp 41 (bf false),rp 24 (bt true),cl smp_ok,bt true,cl awU,rp 3 (bt true)]) Tryz.func12
end Go.Proofs.YtgonmmckkikmaaaGreat
