/- Values of Go as plain data, an evaluator over them, and what the functions of the program return; part g. -/
import Derived.Test.YtgonmmckkikmaaaGreatXf
set_option linter.unusedSectionVars false
set_option linter.unusedSimpArgs false
set_option linter.unusedVariables false
namespace Go.Proofs.YtgonmmckkikmaaaGreat
open Go.Pv
set_option maxRecDepth 100000
def bnds:List BA->List Vl->List Bd->List Bd
 | p::ps,v::vs,acc=>bnds ps vs (.mk p v::acc)
 | _,_,acc=>acc
theorem bnds_snoc:∀ (ps:List BA) (vs:List Vl) (p:BA) (v:Vl) (acc:List Bd),ps.length=vs.length->bnds (ps++[p]) (vs++[v]) acc = .mk p v::bnds ps vs acc
 | [],[],_,_,_,_=>rfl
 | a::ps,b::vs,p,v,acc,h=>by simpa [bnds] using bnds_snoc ps vs p v (.mk a b::acc) (by simpa using h)
 | [],_::_,_,_,_,h=>by simp at h
 | _::_,[],_,_,_,h=>by simp at h
theorem take_at{α:Type}{d:α}{l:List α}{i:Nat}(h:i<l.length):l.take (i+1)=l.take i++[l.getD i d]:=by
 rw [List.take_add_one]
 simp [List.getD,h]
theorem bnds_take{ps:List BA}{vs:List Vl}(h:ps.length=vs.length){i:Nat}(hi:i<ps.length)(acc:List Bd):bnds (ps.take (i+1)) (vs.take (i+1)) acc = .mk (ps.getD i nm0) (vs.getD i default)::bnds (ps.take i) (vs.take i) acc:=by
 rw [take_at (d:=nm0) hi,take_at (d:=default) (h ▸ hi),bnds_snoc _ _ _ _ _ (by simp [h])]
end Go.Proofs.YtgonmmckkikmaaaGreat
namespace Go.Proofs.YtgonmmckkikmaaaGreat
open Go.Pv
inductive Oc where
 | ok (vs:List Vl) (st:Int)
 | er (k st:Int) (wh:BA)
inductive Tk where
 | ex (env:List Bd) (x:Ex)
 | li (env:List Bd) (xs:List Ex)
 | app (f:Vl) (args:List Vl)
 | call (d:Df) (args:List Vl)
 | con (d:Df)
 | run (d:Df) (env:List Bd)
abbrev vI(n:Int):Vl := .mk 1 n nm0 [] [] [] []
abbrev vB(b:Bool):Vl := .mk 2 (eTruth_r0 b) nm0 [] [] [] []
abbrev vD(name:BA)(l:List Vl):Vl := .mk 3 0 name l [] [] []
abbrev vF(name:BA):Vl := .mk 5 0 name [] [] [] []
abbrev vX(op n:Int):Vl := .mk op n nm0 [] [] [] []
def lamB(env:List Bd):List BA->List Bd
 | []=>[]
 | n::r=>match findB n env with
  | some v => .mk n v::lamB env r
  | none=>lamB env r
abbrev lamV(fr:Ex->List BA)(env:List Bd)(x:Ex):Vl := .mk 5 0 nm0 [] ((exP x).map pmNm) [(exK x).getD 0 default] (lamB env (fr x))
def findA(name:BA):List Al->Option Al
 | []=>none
 | a::r=>if alC a=name then some a else findA name r
abbrev kid(x:Ex)(i:Nat):Ex:=(exK x).getD i default
abbrev rt(x:Ex):Prop:=eRight_r0 (exO x) (exK x)=true
def isOne(op:Int):Prop:=op=15∨op=21∨op=22∨op=23
def isTwo(op:Int):Prop:=op=10∨op=11∨op=12∨op=13∨op=14∨op=16∨op=17∨op=18∨op=24
instance (op:Int):Decidable (isOne op):=by unfold isOne; infer_instance
instance (op:Int):Decidable (isTwo op):=by unfold isTwo; infer_instance
structure Sem where
 fr:Ex->List BA
 o1:Int->Vl->Except Int Vl
 o2:Int->Vl->Vl->Except Int Vl
 u1:∀op a,o1 op a ≠ .error 24
 u2:∀op a b,o2 op a b ≠ .error 24
section
variable {m:Sem} {l:List Df} {fu:Int} {t:Tk} {st:Int} {wh:BA} {o:Oc}
end
end Go.Proofs.YtgonmmckkikmaaaGreat
namespace Go.Proofs.YtgonmmckkikmaaaGreat
open Go.Pv
section
variable {m:Sem} {l:List Df} {fu:Int} {t:Tk} {st:Int} {wh:BA} {o:Oc}
def Tk.nl:Tk->Prop
 | .li _ _=>False
 | _=>True
theorem rt_len2{x:Ex}(h:rt x)(ho:exO x=7∨exO x=19∨exO x=20∨isTwo (exO x)):(exK x).length=2:=by
 unfold isTwo at ho
 have h':eRight_r0 (exO x) (exK x)=true:=h
 unfold eRight_r0 at h'
 rcases ho with ho | ho | ho | ho | ho | ho | ho | ho | ho | ho | ho | ho <;> rw [ho] at h' <;> simp at h' <;> omega
theorem rt_len1{x:Ex}(h:rt x)(ho:exO x=6∨exO x=9∨exO x=26∨isOne (exO x)):(exK x).length=1:=by
 unfold isOne at ho
 have h':eRight_r0 (exO x) (exK x)=true:=h
 unfold eRight_r0 at h'
 rcases ho with ho | ho | ho | ho | ho | ho | ho <;> rw [ho] at h' <;> simp at h' <;> omega
theorem rt_len3{x:Ex}(h:rt x)(ho:exO x=8):(exK x).length=3:=by
 have h':eRight_r0 (exO x) (exK x)=true:=h
 unfold eRight_r0 at h'
 rw [ho] at h'
 simp at h'
 omega
theorem rt_pos{x:Ex}(h:rt x)(ho:exO x=25∨exO x=26):0<(exK x).length:=by
 have h':eRight_r0 (exO x) (exK x)=true:=h
 unfold eRight_r0 at h'
 rcases ho with ho | ho <;> rw [ho] at h' <;> simp at h' <;> omega
theorem rt_kinds{x:Ex}(h:rt x):exO x=1∨exO x=2∨exO x=3∨exO x=4∨exO x=5∨exO x=6∨exO x=7∨exO x=8∨exO x=9∨(exO x=19∨exO x=20)∨(exO x=25∨exO x=26)∨isOne (exO x)∨isTwo (exO x):=by
 have h':eRight_r0 (exO x) (exK x)=true:=h
 unfold eRight_r0 at h'
 unfold isOne isTwo
 by_cases h1:exO x>=1
 ·by_cases h2:exO x<=26
  ·omega
  ·exfalso
   simp only [show ¬exO x=1 by omega,show ¬exO x=2 by omega,show ¬exO x=3 by omega,show ¬exO x=4 by omega,show ¬exO x=5 by omega,show ¬exO x=6 by omega,show ¬exO x=8 by omega,show ¬exO x=9 by omega,show ¬exO x=15 by omega,show ¬exO x=21 by omega,show ¬exO x=22 by omega,show ¬exO x=23 by omega,show ¬exO x=25 by omega,show ¬exO x=26 by omega,h1,h2,if_true,if_false] at h'
   cases h'
 ·exfalso
  simp only [show ¬exO x=1 by omega,show ¬exO x=2 by omega,show ¬exO x=3 by omega,show ¬exO x=4 by omega,show ¬exO x=5 by omega,show ¬exO x=6 by omega,show ¬exO x=8 by omega,show ¬exO x=9 by omega,show ¬exO x=15 by omega,show ¬exO x=21 by omega,show ¬exO x=22 by omega,show ¬exO x=23 by omega,show ¬exO x=25 by omega,show ¬exO x=26 by omega,h1,if_true,if_false] at h'
  cases h'
theorem kid_lt{x:Ex}{i:Nat}(h:i<(exK x).length):SizeOf.sizeOf (kid x i)<SizeOf.sizeOf x:=by
 have h1:kid x i∈exK x:=by simp [kid,List.getD,h]
 have h2:=List.sizeOf_lt_of_mem h1
 cases x with
 | mk op name n kids params alts types=>
  simp only [exK] at h2
  simp only [Ex.mk.sizeOf_spec]
  omega
theorem mem_lt{x y:Ex}(h:y∈exK x):SizeOf.sizeOf y<SizeOf.sizeOf x:=by
 have h2:=List.sizeOf_lt_of_mem h
 cases x with
 | mk op name n kids params alts types=>
  simp only [exK] at h2
  simp only [Ex.mk.sizeOf_spec]
  omega
theorem findA_mem{name:BA}:∀ {l:List Al} {a:Al},findA name l=some a->a∈l
 | [],_,h=>by cases h
 | b::r,a,h=>by
  simp only [findA] at h
  split at h
  ·injection h with h; subst h; exact List.mem_cons_self
  ·exact List.mem_cons_of_mem _ (findA_mem h)
theorem alt_lt{x:Ex}{a:Al}(h:a∈exA x):SizeOf.sizeOf (alB a)<SizeOf.sizeOf x:=by
 have h2:=List.sizeOf_lt_of_mem h
 cases x with
 | mk op name n kids params alts types=>
  cases a with
  | mk con names body=>
   simp only [exA] at h2
   simp only [alB,Ex.mk.sizeOf_spec]
   simp only [Al.mk.sizeOf_spec] at h2
   omega
end
end Go.Proofs.YtgonmmckkikmaaaGreat
namespace Go.Proofs.YtgonmmckkikmaaaGreat
open Go.Pv
section
variable {m:Sem} {l:List Df} {fu:Int} {t:Tk} {st:Int} {wh:BA} {o:Oc}
end
end Go.Proofs.YtgonmmckkikmaaaGreat
namespace Go.Proofs.YtgonmmckkikmaaaGreat
open Go.Pv
set_option maxRecDepth 100000
abbrev liI(es:List Ex)(p:PV)(out:List Vl)(i:Int)(ext:Ext):S:=⟨[(1,.v p),(2,.v (.ro [.xp 1 0] 0)),(6,.uniq 52 7 (Vl.cs out)),(9,.v (.sl 7 (Ex.cs es))),(10,.v (.int .i64 es.length)),(11,.v (.int .i64 i))],[],ext⟩
theorem liE(es:List Ex)(p:PV)(out:List Vl)(ext:Ext)(cx:Cx)(hcx:cx.n=27){Q:PExit->S->Prop}(hq:Q (.exit 0) (S.mk [(1,.v p),(2,.v (.ro [.xp 1 0] 0)),(6,.uniq 52 7 (Vl.cs out)),(9,vL 7 (Ex.cs es)),(10,vI6 (es.length:Int)),(11,vI6 (es.length:Int))] [] ext)):PW Tryz.prog cx (loopF Tryz.f107 0) (liI es p out (es.length:Int) ext) Q:=
 pw mdE 27 [df ((es.length:Int)<(es.length:Int))] [1,2,6,9,10,11] [] hcx hq
end Go.Proofs.YtgonmmckkikmaaaGreat
namespace Go.Proofs.YtgonmmckkikmaaaGreat
open Go.Pv
set_option maxRecDepth 100000
end Go.Proofs.YtgonmmckkikmaaaGreat
namespace Go.Proofs.YtgonmmckkikmaaaGreat
open Go.Pv
set_option maxRecDepth 100000
end Go.Proofs.YtgonmmckkikmaaaGreat
namespace Go.Proofs.YtgonmmckkikmaaaGreat
open Go.Pv
set_option maxRecDepth 100000
end Go.Proofs.YtgonmmckkikmaaaGreat
namespace Go.Proofs.YtgonmmckkikmaaaGreat
open Go.Pv
set_option maxRecDepth 100000
theorem findA_at{name:BA}:∀ {l:List Al} {a:Al},findA name l=some a->∃i,i<l.length/\l.getD i default=a/\alC a=name/\∀j,j<i->¬alC (l.getD j default)=name
 | [],_,h=>by cases h
 | b::r,a,h=>by
  simp only [findA] at h
  split at h
  ·injection h with h; subst h
   exact ⟨0,by simp,rfl,by assumption,fun j hj=>by omega⟩
  ·obtain ⟨i,h1,h2,h3,h4⟩:=findA_at h
   refine ⟨i+1,by simp; omega,by simpa using h2,h3,fun j hj=>?_⟩
   cases j with
   | zero=>simpa using ‹¬alC b=name›
   | succ j=>simpa using h4 j (by omega)
theorem findA_no{name:BA}:∀ {l:List Al},findA name l=none->∀j,j<l.length->¬alC (l.getD j default)=name
 | [],_,j,hj=>by simp at hj
 | b::r,h,j,hj=>by
  simp only [findA] at h
  split at h
  ·cases h
  ·cases j with
   | zero=>simpa using ‹¬alC b=name›
   | succ j=>simpa using findA_no h j (by simpa using hj)
end Go.Proofs.YtgonmmckkikmaaaGreat
namespace Go.Proofs.YtgonmmckkikmaaaGreat
open Go.Pv
set_option maxRecDepth 100000
end Go.Proofs.YtgonmmckkikmaaaGreat
