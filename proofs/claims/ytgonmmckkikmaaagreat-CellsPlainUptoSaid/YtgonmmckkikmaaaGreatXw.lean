/- Values of Go as plain data, an evaluator over them, and what the functions of the program return; part w. -/
import Derived.Test.YtgonmmckkikmaaaGreatXg
import Derived.Test.YtgonmmckkikmaaaGreatXl
import Derived.Test.YtgonmmckkikmaaaGreatXq
set_option linter.unusedSectionVars false
set_option linter.unusedSimpArgs false
set_option linter.unusedVariables false
namespace Go.Proofs.YtgonmmckkikmaaaGreat
open Go.Pv Tryz
structure St where
 n:Int
 s:List Int
 w:Int
def St.tick(t:St):St:={ t with n:=t.n+1 }
inductive Co where
 | ok (vs:List Vl) (st:St)
 | er (k:Int) (st:St) (wh:BA)
def Co.st:Co->St
 | .ok _ s=>s
 | .er _ s _=>s
structure CSem where
 fr:Ex->List BA
 o1:Int->Vl->St->Except Int (Vl × St)
 o2:Int->Vl->Vl->St->Except Int (Vl × St)
def cxc(r:Except Int (Vl × St))(st:St)(wh:BA):Co:=match r with
 | .ok v => .ok [v.1] v.2
 | .error k => .er k st wh
def CSem.one(m:CSem)(op:Int)(a:Vl)(st:St)(wh:BA):Co:=cxc (m.o1 op a st) st wh
def CSem.two(m:CSem)(op:Int)(a b:Vl)(st:St)(wh:BA):Co:=cxc (m.o2 op a b st) st wh
inductive Cv (m:CSem) (l:List Df) (fu:Int):Tk->St->BA->Co->Prop
 | runF {d env}{st:St}{wh}(h:fu<=st.n):Cv m l fu (.run d env) st wh (.er 24 st wh)
 | runG {d env}{st:St}{wh o}(h:st.n<fu) (g:Cv m l fu (.ex env (dfB d)) st.tick (dfNm d) o):Cv m l fu (.run d env) st wh o
 | callA {d args st wh}(h:dfM d=1):Cv m l fu (.call d args) st wh (.er 26 st wh)
 | callN {d}{args:List Vl}{st wh}(h:¬dfM d=1) (h1:¬(0<(dfP d).length/\(dfP d).length=args.length)):Cv m l fu (.call d args) st wh (.er 19 st wh)
 | callG {d}{args:List Vl}{st wh o}(h:¬dfM d=1) (h1:0<(dfP d).length) (h2:(dfP d).length=args.length) (g:Cv m l fu (.run d (bnds (dfP d) args [])) st wh o):Cv m l fu (.call d args) st wh o
 | conA {d st wh}(h:dfM d=1):Cv m l fu (.con d) st wh (.er 26 st wh)
 | conG {d st wh o}(h:¬dfM d=1) (g:Cv m l fu (.run d []) st wh o):Cv m l fu (.con d) st wh o
 | appO {f args st wh}(h:¬vlO f=5):Cv m l fu (.app f args) st wh (.er 19 st wh)
 | appU {f args st wh}(h:vlO f=5) (h1:¬vlNm f=nm0) (h2:findD (vlNm f) l=none):Cv m l fu (.app f args) st wh (.er 19 st wh)
 | appN {f args st wh d o}(h:vlO f=5) (h1:¬vlNm f=nm0) (h2:findD (vlNm f) l=some d) (g:Cv m l fu (.call d args) st wh o):Cv m l fu (.app f args) st wh o
 | appL {f}{args:List Vl}{st wh}(h:vlO f=5) (h1:vlNm f=nm0) (h2:¬((vlB f).length=1/\(vlP f).length=args.length)):Cv m l fu (.app f args) st wh (.er 19 st wh)
 | appF {f}{args:List Vl}{st:St}{wh}(h:vlO f=5) (h1:vlNm f=nm0) (h2:(vlB f).length=1) (h3:(vlP f).length=args.length) (h4:fu<=st.n):Cv m l fu (.app f args) st wh (.er 24 st wh)
 | appG {f}{args:List Vl}{st:St}{wh o}(h:vlO f=5) (h1:vlNm f=nm0) (h2:(vlB f).length=1) (h3:(vlP f).length=args.length) (h4:st.n<fu) (g:Cv m l fu (.ex (bnds (vlP f) args (vlBd f).reverse) ((vlB f).getD 0 default)) st.tick wh o):Cv m l fu (.app f args) st wh o
 | liN {env st wh}:Cv m l fu (.li env []) st wh (.ok [] st)
 | liE {env x xs st wh k st1 wh1}(g:Cv m l fu (.ex env x) st wh (.er k st1 wh1)):Cv m l fu (.li env (x::xs)) st wh (.er k st1 wh1)
 | liR {env x xs st wh v k st1 st2 wh2}(g:Cv m l fu (.ex env x) st wh (.ok [v] st1)) (g2:Cv m l fu (.li env xs) st1 wh (.er k st2 wh2)):Cv m l fu (.li env (x::xs)) st wh (.er k st2 wh2)
 | liC {env x xs st wh v st1 st2 vs}(g:Cv m l fu (.ex env x) st wh (.ok [v] st1)) (g2:Cv m l fu (.li env xs) st1 wh (.ok vs st2)):Cv m l fu (.li env (x::xs)) st wh (.ok (v::vs) st2)
 | exR {env x st wh}(h:eRight_r0 (exO x) (exK x)=false):Cv m l fu (.ex env x) st wh (.er 19 st wh)
 | exIo {env x st wh}(h:rt x) (h1:exO x=1) (h2:nIn_r0 (exN x)=true):Cv m l fu (.ex env x) st wh (.ok [vI (exN x)] st)
 | exIe {env x st wh}(h:rt x) (h1:exO x=1) (h2:nIn_r0 (exN x)=false):Cv m l fu (.ex env x) st wh (.er 25 st wh)
 | exB {env x st wh}(h:rt x) (h1:exO x=2):Cv m l fu (.ex env x) st wh (.ok [vB (exN x != 0)] st)
 | exVb {env x st wh v}(h:rt x) (h1:exO x=3) (h2:findB (exNm x) env=some v):Cv m l fu (.ex env x) st wh (.ok [v] st)
 | exVu {env x st wh}(h:rt x) (h1:exO x=3) (h2:findB (exNm x) env=none) (h3:findD (exNm x) l=none):Cv m l fu (.ex env x) st wh (.er 19 st wh)
 | exVf {env x st wh d}(h:rt x) (h1:exO x=3) (h2:findB (exNm x) env=none) (h3:findD (exNm x) l=some d) (h4:0<(dfP d).length):Cv m l fu (.ex env x) st wh (.ok [vF (dfNm d)] st)
 | exVc {env x st wh d o}(h:rt x) (h1:exO x=3) (h2:findB (exNm x) env=none) (h3:findD (exNm x) l=some d) (h4:¬0<(dfP d).length) (g:Cv m l fu (.con d) st wh o):Cv m l fu (.ex env x) st wh o
 | exCe {env x st wh k st1 wh1}(h:rt x) (h1:exO x=4) (g:Cv m l fu (.li env (exK x)) st wh (.er k st1 wh1)):Cv m l fu (.ex env x) st wh (.er k st1 wh1)
 | exCo {env x st wh vs st1}(h:rt x) (h1:exO x=4) (g:Cv m l fu (.li env (exK x)) st wh (.ok vs st1)):Cv m l fu (.ex env x) st wh (.ok [vD (exNm x) vs] st1)
 | exKe {env x st wh k st1 wh1}(h:rt x) (h1:exO x=5) (g:Cv m l fu (.li env (exK x)) st wh (.er k st1 wh1)):Cv m l fu (.ex env x) st wh (.er k st1 wh1)
 | exKa {env x st wh vs st1 f o}(h:rt x) (h1:exO x=5) (g:Cv m l fu (.li env (exK x)) st wh (.ok vs st1)) (h2:findB (exNm x) env=some f) (g2:Cv m l fu (.app f vs) st1 wh o):Cv m l fu (.ex env x) st wh o
 | exKu {env x st wh vs st1}(h:rt x) (h1:exO x=5) (g:Cv m l fu (.li env (exK x)) st wh (.ok vs st1)) (h2:findB (exNm x) env=none) (h3:findD (exNm x) l=none):Cv m l fu (.ex env x) st wh (.er 19 st1 wh)
 | exKc {env x st wh vs st1 d o}(h:rt x) (h1:exO x=5) (g:Cv m l fu (.li env (exK x)) st wh (.ok vs st1)) (h2:findB (exNm x) env=none) (h3:findD (exNm x) l=some d) (g2:Cv m l fu (.call d vs) st1 wh o):Cv m l fu (.ex env x) st wh o
 | exL {env x st wh}(h:rt x) (h1:exO x=6):Cv m l fu (.ex env x) st wh (.ok [lamV m.fr env x] st)
 | exTe {env x st wh k st1 wh1}(h:rt x) (h1:exO x=7) (g:Cv m l fu (.ex env (kid x 0)) st wh (.er k st1 wh1)):Cv m l fu (.ex env x) st wh (.er k st1 wh1)
 | exTo {env x st wh v st1 o}(h:rt x) (h1:exO x=7) (g:Cv m l fu (.ex env (kid x 0)) st wh (.ok [v] st1)) (g2:Cv m l fu (.ex (.mk (exNm x) v::env) (kid x 1)) st1 wh o):Cv m l fu (.ex env x) st wh o
 | exFe {env x st wh k st1 wh1}(h:rt x) (h1:exO x=8) (g:Cv m l fu (.ex env (kid x 0)) st wh (.er k st1 wh1)):Cv m l fu (.ex env x) st wh (.er k st1 wh1)
 | exFs {env x st wh v st1}(h:rt x) (h1:exO x=8) (g:Cv m l fu (.ex env (kid x 0)) st wh (.ok [v] st1)) (h2:¬vlO v=2):Cv m l fu (.ex env x) st wh (.er 19 st1 wh)
 | exFt {env x st wh v st1 o}(h:rt x) (h1:exO x=8) (g:Cv m l fu (.ex env (kid x 0)) st wh (.ok [v] st1)) (h2:vlO v=2) (h3:¬vlN v=0) (g2:Cv m l fu (.ex env (kid x 1)) st1 wh o):Cv m l fu (.ex env x) st wh o
 | exFf {env x st wh v st1 o}(h:rt x) (h1:exO x=8) (g:Cv m l fu (.ex env (kid x 0)) st wh (.ok [v] st1)) (h2:vlO v=2) (h3:vlN v=0) (g2:Cv m l fu (.ex env (kid x 2)) st1 wh o):Cv m l fu (.ex env x) st wh o
 | exMe {env x st wh k st1 wh1}(h:rt x) (h1:exO x=9) (g:Cv m l fu (.ex env (kid x 0)) st wh (.er k st1 wh1)):Cv m l fu (.ex env x) st wh (.er k st1 wh1)
 | exMs {env x st wh v st1}(h:rt x) (h1:exO x=9) (g:Cv m l fu (.ex env (kid x 0)) st wh (.ok [v] st1)) (h2:¬vlO v=3):Cv m l fu (.ex env x) st wh (.er 19 st1 wh)
 | exMn {env x st wh v st1}(h:rt x) (h1:exO x=9) (g:Cv m l fu (.ex env (kid x 0)) st wh (.ok [v] st1)) (h2:vlO v=3) (h3:findA (vlNm v) (exA x)=none):Cv m l fu (.ex env x) st wh (.er 23 st1 wh)
 | exMl {env x st wh v st1 a}(h:rt x) (h1:exO x=9) (g:Cv m l fu (.ex env (kid x 0)) st wh (.ok [v] st1)) (h2:vlO v=3) (h3:findA (vlNm v) (exA x)=some a) (h4:¬(alNs a).length=(vlK v).length):Cv m l fu (.ex env x) st wh (.er 19 st1 wh)
 | exMo {env x st wh v st1 a o}(h:rt x) (h1:exO x=9) (g:Cv m l fu (.ex env (kid x 0)) st wh (.ok [v] st1)) (h2:vlO v=3) (h3:findA (vlNm v) (exA x)=some a) (h4:(alNs a).length=(vlK v).length) (g2:Cv m l fu (.ex (bnds (alNs a) (vlK v) env) (alB a)) st1 wh o):Cv m l fu (.ex env x) st wh o
 | exAe {env x st wh k st1 wh1}(h:rt x) (h1:exO x=19∨exO x=20) (g:Cv m l fu (.ex env (kid x 0)) st wh (.er k st1 wh1)):Cv m l fu (.ex env x) st wh (.er k st1 wh1)
 | exAs {env x st wh v st1}(h:rt x) (h1:exO x=19∨exO x=20) (g:Cv m l fu (.ex env (kid x 0)) st wh (.ok [v] st1)) (h2:¬vlO v=2):Cv m l fu (.ex env x) st wh (.er 19 st1 wh)
 | exAq {env x st wh v st1}(h:rt x) (h1:exO x=19∨exO x=20) (g:Cv m l fu (.ex env (kid x 0)) st wh (.ok [v] st1)) (h2:vlO v=2) (h3:(vlN v != 0)=(exO x==20)):Cv m l fu (.ex env x) st wh (.ok [vB (vlN v != 0)] st1)
 | exAr {env x st wh v st1 k st2 wh2}(h:rt x) (h1:exO x=19∨exO x=20) (g:Cv m l fu (.ex env (kid x 0)) st wh (.ok [v] st1)) (h2:vlO v=2) (h3:¬(vlN v != 0)=(exO x==20)) (g2:Cv m l fu (.ex env (kid x 1)) st1 wh (.er k st2 wh2)):Cv m l fu (.ex env x) st wh (.er k st2 wh2)
 | exAt {env x st wh v st1 u st2}(h:rt x) (h1:exO x=19∨exO x=20) (g:Cv m l fu (.ex env (kid x 0)) st wh (.ok [v] st1)) (h2:vlO v=2) (h3:¬(vlN v != 0)=(exO x==20)) (g2:Cv m l fu (.ex env (kid x 1)) st1 wh (.ok [u] st2)) (h4:¬vlO u=2):Cv m l fu (.ex env x) st wh (.er 19 st2 wh)
 | exAo {env x st wh v st1 u st2}(h:rt x) (h1:exO x=19∨exO x=20) (g:Cv m l fu (.ex env (kid x 0)) st wh (.ok [v] st1)) (h2:vlO v=2) (h3:¬(vlN v != 0)=(exO x==20)) (g2:Cv m l fu (.ex env (kid x 1)) st1 wh (.ok [u] st2)) (h4:vlO u=2):Cv m l fu (.ex env x) st wh (.ok [vB (vlN u != 0)] st2)
 | exU {env x st wh o}(h:rt x) (h1:exO x=25∨exO x=26) (g:Cv m l fu (.ex env (kid x ((exK x).length - 1))) st wh o):Cv m l fu (.ex env x) st wh o
 | exOe {env x st wh k st1 wh1}(h:rt x) (h1:isOne (exO x)) (g:Cv m l fu (.li env (exK x)) st wh (.er k st1 wh1)):Cv m l fu (.ex env x) st wh (.er k st1 wh1)
 | exOo {env x st wh v st1}(h:rt x) (h1:isOne (exO x)) (g:Cv m l fu (.li env (exK x)) st wh (.ok [v] st1)):Cv m l fu (.ex env x) st wh (m.one (exO x) v st1 wh)
 | exWe {env x st wh k st1 wh1}(h:rt x) (h1:isTwo (exO x)) (g:Cv m l fu (.li env (exK x)) st wh (.er k st1 wh1)):Cv m l fu (.ex env x) st wh (.er k st1 wh1)
 | exWo {env x st wh v u st1}(h:rt x) (h1:isTwo (exO x)) (g:Cv m l fu (.li env (exK x)) st wh (.ok [v,u] st1)):Cv m l fu (.ex env x) st wh (m.two (exO x) v u st1 wh)
theorem cok_st(vs:List Vl)(st:St):(Co.ok vs st).st=st:=rfl
theorem cer_st(k:Int)(st:St)(wh:BA):(Co.er k st wh).st=st:=rfl
def szEs(l:List Ex):Nat:=bulkPss (Ex.cs l)
theorem szEs_cons(x:Ex)(r:List Ex):szEs (x::r)=szE x+szEs r:=by
 unfold szEs szE
 rw [Ex.cs_eq,Ex.cs_eq,List.map_cons,bulkPss]
theorem szE_ge(x:Ex):szEs (exK x)+bulkPss (Al.cs (exA x))+7<=szE x:=by
 have:=szE_eq x
 unfold szEs
 omega
theorem szEs_mem{x:Ex}:∀ {l:List Ex},x∈l->szE x<=szEs l
 | y::r,h=>by
  rw [szEs_cons]
  rcases List.mem_cons.1 h with rfl | h
  ·omega
  ·have:=szEs_mem h; omega
theorem szEs_two{l:List Ex}{i j:Nat}(hj:j<l.length)(h:i<j):szE (l.getD i default)+szE (l.getD j default)<=szEs l:=by
 induction l generalizing i j with
 | nil=>simp at hj
 | cons x r ih=>
  rw [szEs_cons]
  cases j with
  | zero=>omega
  | succ j=>
   simp only [List.length_cons] at hj
   cases i with
   | zero=>
    have h1:r.getD j default∈r:=by simp [List.getD,show j<r.length by omega]
    have:=szEs_mem h1
    simp only [List.getD_cons_zero,List.getD_cons_succ]
    omega
   | succ i=>
    have:=ih (i:=i) (j:=j) oM oM
    simp only [List.getD_cons_succ]
    omega
def szTk:Tk->Nat
 | .ex _ x=>szE x
 | .li _ xs=>szEs xs
 | _=>0
structure Gr (fu:Int) (k:Nat) (a b:St):Prop where
 n:a.n<=b.n
 s:a.s.length<=b.s.length
 w:a.w<=b.w
 f:b.n<=fu
 cs:(b.s.length:Int)+(fu - b.n) * 1048576<=a.s.length+(fu - a.n) * 1048576+k
 cw:b.w+(fu - b.n) * 1048576<=a.w+(fu - a.n) * 1048576+k
theorem Gr.r{fu:Int}{a:St}(k:Nat)(h:a.n<=fu):Gr fu k a a:=⟨by omega,by omega,by omega,h,by omega,by omega⟩
theorem Gr.tr{fu:Int}{k1 k2 k:Nat}{a b c:St}(h:Gr fu k1 a b)(h':Gr fu k2 b c)(hk:k1+k2<=k):Gr fu k a c:=by
 obtain ⟨h1,h2,h3,h4,h5,h6⟩:=h
 obtain ⟨g1,g2,g3,g4,g5,g6⟩:=h'
 exact ⟨by omega,by omega,by omega,by omega,by omega,by omega⟩
theorem Gr.le{fu:Int}{k1 k:Nat}{a b:St}(h:Gr fu k1 a b)(hk:k1<=k):Gr fu k a b:=by
 obtain ⟨h1,h2,h3,h4,h5,h6⟩:=h
 exact ⟨h1,h2,h3,h4,by omega,by omega⟩
theorem Gr.tick{fu:Int}{k:Nat}{a b:St}(h:Gr fu k a.tick b)(hk:k<=1048576):Gr fu 0 a b:=by
 obtain ⟨h1,h2,h3,h4,h5,h6⟩:=h
 simp only [St.tick] at *
 exact ⟨by omega,h2,h3,h4,by omega,by omega⟩
mutual
def CeV(N:Nat):Vl->Prop
 | .mk op n _ kids _ body binds=>(op=4->0<=n/\n<N)/\(∀x∈body,szE x<=1048576)/\CeVs N kids/\CeBs N binds
def CeVs(N:Nat):List Vl->Prop
 | []=>True
 | v::r=>CeV N v/\CeVs N r
def CeBs(N:Nat):List Bd->Prop
 | []=>True
 | .mk _ v::r=>CeV N v/\CeBs N r
end
mutual
theorem CeV.mono{N M:Nat}(h:N<=M):∀ {v:Vl},CeV N v->CeV M v
 | .mk op n _ kids _ body binds,g=>by
  rw [CeV] at g ⊢
  exact ⟨fun ho=>by have:=g.1 ho; omega,g.2.1,CeVs.mono h g.2.2.1,CeBs.mono h g.2.2.2⟩
theorem CeVs.mono{N M:Nat}(h:N<=M):∀ {l:List Vl},CeVs N l->CeVs M l
 | [],_=>by rw [CeVs]; trivial
 | v::r,g=>by
  rw [CeVs] at g ⊢
  exact ⟨CeV.mono h g.1,CeVs.mono h g.2⟩
theorem CeBs.mono{N M:Nat}(h:N<=M):∀ {l:List Bd},CeBs N l->CeBs M l
 | [],_=>by rw [CeBs]; trivial
 | .mk _ v::r,g=>by
  rw [CeBs] at g ⊢
  exact ⟨CeV.mono h g.1,CeBs.mono h g.2⟩
end
section
variable {N:Nat}
theorem CeVs_nil:CeVs N []:=by rw [CeVs]; trivial
theorem CeBs_nil:CeBs N []:=by rw [CeBs]; trivial
theorem CeVs_one{v:Vl}:CeVs N [v]↔CeV N v:=by rw [CeVs,CeVs]; simp
theorem CeVs_at:∀ {l:List Vl},CeVs N l->∀v∈l,CeV N v
 | v::r,h,w,hw=>by
  rw [CeVs] at h
  rcases List.mem_cons.1 hw with rfl | hw
  ·exact h.1
  ·exact CeVs_at h.2 w hw
theorem CeBs_cons{b:Bd}{r:List Bd}:CeBs N (b::r)↔CeV N (bdV b)/\CeBs N r:=by cases b; rw [CeBs]; rfl
theorem CeBs_app:∀ {a b:List Bd},CeBs N (a++b)↔CeBs N a/\CeBs N b
 | [],b=>by simp [CeBs]
 | x::a,b=>by rw [List.cons_append,CeBs_cons,CeBs_cons,CeBs_app]; exact and_assoc.symm
theorem CeBs_rev:∀ {l:List Bd},CeBs N l.reverse↔CeBs N l
 | []=>by simp
 | x::r=>by
  rw [List.reverse_cons,CeBs_app,CeBs_rev,CeBs_cons,CeBs_cons]
  constructor
  ·rintro ⟨h1,h2,-⟩; exact ⟨h2,h1⟩
  ·rintro ⟨h1,h2⟩; exact ⟨h2,h1,CeBs_nil⟩
theorem findB_ce{n:BA}:∀ {l:List Bd} {v:Vl},CeBs N l->findB n l=some v->CeV N v
 | b::r,v,h,hf=>by
  rw [CeBs_cons] at h
  rw [findB] at hf
  split at hf
  ·injection hf with hf; subst hf; exact h.1
  ·exact findB_ce h.2 hf
theorem bnds_ce:∀ {ps:List BA} {vs:List Vl} {acc:List Bd},CeVs N vs->CeBs N acc->CeBs N (bnds ps vs acc)
 | [],_,acc,_,h=>by rw [bnds]; exact h; simp
 | _::_,[],acc,_,h=>by rw [bnds]; exact h; simp
 | p::ps,v::vs,acc,hv,h=>by
  rw [CeVs] at hv
  rw [bnds]
  exact bnds_ce hv.2 (by rw [CeBs_cons]; exact ⟨hv.1,h⟩)
theorem lamB_ce{env:List Bd}(h:CeBs N env):∀ (fs:List BA),CeBs N (lamB env fs)
 | []=>by rw [lamB]; exact CeBs_nil
 | n::r=>by
  have h1:=lamB_ce h r
  rw [lamB]
  split
  ·rename_i v hv
   rw [CeBs_cons]
   exact ⟨findB_ce h hv,h1⟩
  ·exact h1
theorem CeV_parts{v:Vl}(h:CeV N v):(vlO v=4->0<=vlN v/\vlN v<N)/\(∀x∈vlB v,szE x<=1048576)/\CeVs N (vlK v)/\CeBs N (vlBd v):=by
 cases v
 rw [CeV] at h
 exact h
theorem CeV_vX{op:Int}(n:Int)(h:¬op=4):CeV N (vX op n):=by rw [CeV]; exact ⟨fun e=>(h e).elim,by simp,CeVs_nil,CeBs_nil⟩
theorem CeV_vF(n:BA):CeV N (vF n):=by rw [CeV]; exact ⟨fun e=>absurd e dD,by simp,CeVs_nil,CeBs_nil⟩
theorem CeV_lam(fr:Ex->List BA){env:List Bd}{x:Ex}(hx:szE x<=1048576)(he:CeBs N env)(h1:(exK x).length=1):CeV N (lamV fr env x):=by
 rw [lamV,CeV]
 refine ⟨fun e=>absurd e dD,fun y hy=>?_,CeVs_nil,lamB_ce he _⟩
 rw [List.mem_singleton] at hy
 subst hy
 have h2:=szE_eq x
 have h3:=kid_bulk (kid_mem (x:=x) (i:=0) oM)
 omega
end
structure NiC (m:CSem):Prop where
 fr:∀x,(m.fr x).length<=szE x
 o1:∀op a st v st',m.o1 op a st = .ok (v,st')->st'.n=st.n/\st.s.length<=st'.s.length/\st'.s.length<=st.s.length+1/\st'.w=st.w/\SmV v/\CeV st'.s.length v
 o2:∀op a b st v st',m.o2 op a b st = .ok (v,st')->st'.n=st.n/\st'.s.length=st.s.length/\st.w<=st'.w/\st'.w<=st.w+1/\(SmV a->SmV v)/\(CeV st.s.length a->CeV st.s.length v)
theorem cxc_er{r:Except Int (Vl × St)}{st:St}{wh:BA}{P:St->Prop}(h0:P st)(h:∀v st',r = .ok (v,st')->P st'):P (cxc r st wh).st:=by
 cases r with
 | ok v=>exact h v.1 v.2 rfl
 | error k=>exact h0
section
variable {m:CSem} {l:List Df} {fu:Int} {t:Tk} {st:St} {wh:BA} {o:Co}
def ShC:Tk->Co->Prop
 | _,.er _ _ _=>True
 | .li _ xs,.ok vs _=>vs.length=xs.length
 | _,.ok vs _=>vs.length=1
theorem cxc_sh(r:Except Int (Vl × St))(st:St)(wh:BA)(env:List Bd)(x:Ex):ShC (.ex env x) (cxc r st wh):=by cases r <;> simp [ShC,cxc]
theorem ShC.tr{t t':Tk}{o:Co}(h:ShC t o)(h1:t.nl)(h2:t'.nl):ShC t' o:=by
 cases o with
 | er k s w=>cases t' <;> trivial
 | ok vs s=>cases t <;> first | exact h1.elim | (cases t' <;> first | exact h2.elim | exact h)
theorem Cv.shape(h:Cv m l fu t st wh o):ShC t o:=by
 induction h with
 | liC g g2 ih ih2=>simp only [ShC,List.length_cons] at *; omega
 | exOo=>exact cxc_sh ..
 | exWo=>exact cxc_sh ..
 | runG _ _ ih=>exact ih.tr trivial trivial
 | callG _ _ _ _ ih=>exact ih.tr trivial trivial
 | conG _ _ ih=>exact ih.tr trivial trivial
 | appN _ _ _ _ ih=>exact ih.tr trivial trivial
 | appG _ _ _ _ _ _ ih=>exact ih.tr trivial trivial
 | exVc _ _ _ _ _ _ ih=>exact ih.tr trivial trivial
 | exKa _ _ _ _ _ _ ih=>exact ih.tr trivial trivial
 | exKc _ _ _ _ _ _ _ ih=>exact ih.tr trivial trivial
 | exTo _ _ _ _ _ ih=>exact ih.tr trivial trivial
 | exFt _ _ _ _ _ _ _ ih=>exact ih.tr trivial trivial
 | exFf _ _ _ _ _ _ _ ih=>exact ih.tr trivial trivial
 | exMo _ _ _ _ _ _ _ _ ih=>exact ih.tr trivial trivial
 | exU _ _ _ ih=>exact ih.tr trivial trivial
 | _=>simp [ShC]
theorem one_up(hm:NiC m)(op:Int)(a:Vl)(st:St)(wh:BA):st.n<=(m.one op a st wh).st.n/\st.s.length<=(m.one op a st wh).st.s.length:=
 cxc_er (P:=fun s=>st.n<=s.n/\st.s.length<=s.s.length) ⟨Int.le_refl _,Nat.le_refl _⟩ fun v st' h=>by have:=hm.o1 _ _ _ _ _ h; omega
theorem two_up(hm:NiC m)(op:Int)(a b:Vl)(st:St)(wh:BA):st.n<=(m.two op a b st wh).st.n/\st.s.length<=(m.two op a b st wh).st.s.length:=
 cxc_er (P:=fun s=>st.n<=s.n/\st.s.length<=s.s.length) ⟨Int.le_refl _,Nat.le_refl _⟩ fun v st' h=>by have:=hm.o2 _ _ _ _ _ _ h; omega
theorem Cv.mono(hm:NiC m)(h:Cv m l fu t st wh o):st.n<=o.st.n/\st.s.length<=o.st.s.length:=by
 induction h with
 | @exOo env x st wh v st1 h h1 g ih=>have:=one_up hm (exO x) v st1 wh; simp only [cok_st] at ih; omega
 | @exWo env x st wh v u st1 h h1 g ih=>have:=two_up hm (exO x) v u st1 wh; simp only [cok_st] at ih; omega
 | _=>(try simp only [cok_st,cer_st,St.tick] at *) <;> omega
def CeT(N:Nat):Tk->Prop
 | .ex env x=>CeBs N env/\szE x<=1048576
 | .li env xs=>CeBs N env/\∀x∈xs,szE x<=1048576
 | .app f args=>CeV N f/\CeVs N args
 | .call d args=>szE (dfB d)<=1048576/\CeVs N args
 | .con d=>szE (dfB d)<=1048576
 | .run d env=>szE (dfB d)<=1048576/\CeBs N env
def CoO:Co->Prop
 | .ok vs st=>SmVs vs/\CeVs st.s.length vs
 | .er _ _ _=>True
theorem CoO.one{v:Vl}{st:St}(h:CoO (.ok [v] st)):SmV v/\CeV st.s.length v:=⟨SmVs_one.1 h.1,CeVs_one.1 h.2⟩
theorem CoO.mk1{v:Vl}{st:St}(h:SmV v)(h1:CeV st.s.length v):CoO (.ok [v] st):=⟨SmVs_one.2 h,CeVs_one.2 h1⟩
theorem kid_ce{x:Ex}{i:Nat}(hx:szE x<=1048576)(h:i<(exK x).length):szE (kid x i)<=1048576/\szE (kid x i)+7<=szE x:=by
 have h1:=szE_eq x
 have h2:=kid_bulk (kid_mem h)
 unfold kid
 omega
theorem kid2_ce{x:Ex}{i j:Nat}(h:i<j)(hj:j<(exK x).length):szE (kid x i)+szE (kid x j)+7<=szE x:=by
 have h1:=szE_ge x
 have h2:=szEs_two hj h
 unfold kid
 omega
theorem kids_ce{x:Ex}(hx:szE x<=1048576):(∀y∈exK x,szE y<=1048576)/\szEs (exK x)+7<=szE x:=by
 have h1:=szE_ge x
 refine ⟨fun y hy=>?_,by omega⟩
 have:=szEs_mem hy
 omega
theorem alt_ce{x:Ex}{a:Al}(hx:szE x<=1048576)(h:a∈exA x)(hk:0<(exK x).length):szE (alB a)<=1048576/\szE (kid x 0)+szE (alB a)+7<=szE x:=by
 have h1:=szE_ge x
 have h2:=alt_bulk h
 have h3:szE (kid x 0)<=szEs (exK x):=szEs_mem (kid_mem hk)
 omega
theorem Cv.good(hm:NiC m)(hl:SmL l)(hc:∀d∈l,szE (dfB d)<=1048576)(h:Cv m l fu t st wh o):st.n<=fu->SmT t->CeT st.s.length t->Gr fu (szTk t) st o.st/\CoO o:=by
 induction h with
 | runG h g ih=>
  intro hn s c
  obtain ⟨g1,g2⟩:=ih (by simp only [St.tick]; omega) ⟨s.2,s.1.1⟩ ⟨c.2,c.1⟩
  exact ⟨g1.tick c.1,g2⟩
 | callG h h1 h2 g ih=>intro hn s c; exact ih hn ⟨s.1,bnds_sm s.2 SmBs_nil⟩ ⟨c.1,bnds_ce c.2 CeBs_nil⟩
 | conG h g ih=>intro hn s c; exact ih hn ⟨s,SmBs_nil⟩ ⟨c,CeBs_nil⟩
 | appN h h1 h2 g ih=>intro hn s c; exact ih hn ⟨hl.2 _ (findD_mem h2),s.2⟩ ⟨hc _ (findD_mem h2),c.2⟩
 | @appG f args st wh o h h1 h2 h3 h4 g ih=>
  intro hn s c
  obtain ⟨-,-,-,hb,-,hbs⟩:=SmV_parts s.1
  obtain ⟨-,cb,-,cbs⟩:=CeV_parts c.1
  have hmem:(vlB f).getD 0 default∈vlB f:=by simp [List.getD,h2]
  obtain ⟨g1,g2⟩:=ih (by simp only [St.tick]; omega) ⟨bnds_sm s.2 (SmBs_rev.2 hbs),hb _ hmem⟩ ⟨bnds_ce c.2 (CeBs_rev.2 cbs),cb _ hmem⟩
  exact ⟨g1.tick (cb _ hmem),g2⟩
 | liN=>intro hn s c; exact ⟨Gr.r _ hn,SmVs_nil,CeVs_nil⟩
 | @liE env x xs st wh k st1 wh1 g ih=>
  intro hn s c
  obtain ⟨g1,g2⟩:=ih hn ⟨s.1,s.2 _ List.mem_cons_self⟩ ⟨c.1,c.2 _ List.mem_cons_self⟩
  exact ⟨g1.le (by show szE x<=szEs (x::xs); rw [szEs_cons]; omega),tV⟩
 | @liR env x xs st wh v k st1 st2 wh2 g g2 ih ih2=>
  intro hn s c
  obtain ⟨a1,a2⟩:=ih hn ⟨s.1,s.2 _ List.mem_cons_self⟩ ⟨c.1,c.2 _ List.mem_cons_self⟩
  obtain ⟨b1,b2⟩:=ih2 a1.f ⟨s.1,fun y hy=>s.2 y (List.mem_cons_of_mem _ hy)⟩ ⟨c.1.mono a1.s,fun y hy=>c.2 y (List.mem_cons_of_mem _ hy)⟩
  exact ⟨a1.tr b1 (by show szE x+szEs xs<=szEs (x::xs); rw [szEs_cons]; omega),tV⟩
 | @liC env x xs st wh v st1 st2 vs g g2 ih ih2=>
  intro hn s c
  obtain ⟨a1,a2⟩:=ih hn ⟨s.1,s.2 _ List.mem_cons_self⟩ ⟨c.1,c.2 _ List.mem_cons_self⟩
  obtain ⟨b1,b2⟩:=ih2 a1.f ⟨s.1,fun y hy=>s.2 y (List.mem_cons_of_mem _ hy)⟩ ⟨c.1.mono a1.s,fun y hy=>c.2 y (List.mem_cons_of_mem _ hy)⟩
  refine ⟨a1.tr b1 (by show szE x+szEs xs<=szEs (x::xs); rw [szEs_cons]; omega),?_,?_⟩
  ·rw [SmVs]; exact ⟨a2.one.1,b2.1⟩
  ·rw [CeVs]; exact ⟨a2.one.2.mono b1.s,b2.2⟩
 | exIo=>intro hn s c; exact ⟨Gr.r _ hn,.mk1 (SmV_vX _ _) (CeV_vX _ dD)⟩
 | exB=>intro hn s c; exact ⟨Gr.r _ hn,.mk1 (SmV_vX _ _) (CeV_vX _ dD)⟩
 | exVb h h1 h2=>intro hn s c; exact ⟨Gr.r _ hn,.mk1 (findB_sm s.1 h2) (findB_ce c.1 h2)⟩
 | exVf=>intro hn s c; exact ⟨Gr.r _ hn,.mk1 (SmV_vF _) (CeV_vF _)⟩
 | exVc h h1 h2 h3 h4 g ih=>
  intro hn s c
  obtain ⟨a1,a2⟩:=ih hn (hl.2 _ (findD_mem h3)) (hc _ (findD_mem h3))
  exact ⟨a1.le (Nat.zero_le _),a2⟩
 | @exCe env x st wh k st1 wh1 h h1 g ih=>
  intro hn s c
  have hk:=kids_ce c.2
  obtain ⟨a1,a2⟩:=ih hn ⟨s.1,kids_sm s.2⟩ ⟨c.1,hk.1⟩
  exact ⟨a1.le (by have:=hk.2; show szEs (exK x)<=szE x; omega),tV⟩
 | @exCo env x st wh vs st1 h h1 g ih=>
  intro hn s c
  have hk:=kids_ce c.2
  obtain ⟨a1,a2⟩:=ih hn ⟨s.1,kids_sm s.2⟩ ⟨c.1,hk.1⟩
  have b:vs.length=(exK x).length:=g.shape
  have cl:=szE_lens s.2
  refine ⟨a1.le (by have:=hk.2; show szEs (exK x)<=szE x; omega),.mk1 ?_ ?_⟩
  ·rw [SmV]
   exact ⟨by simp only [List.length_nil]; omega,by simp,by simp,fun y hy=>by simp at hy,a2.1,SmBs_nil⟩
  ·rw [CeV]
   exact ⟨fun e=>absurd e dD,by simp,a2.2,CeBs_nil⟩
 | @exKe env x st wh k st1 wh1 h h1 g ih=>
  intro hn s c
  have hk:=kids_ce c.2
  obtain ⟨a1,a2⟩:=ih hn ⟨s.1,kids_sm s.2⟩ ⟨c.1,hk.1⟩
  exact ⟨a1.le (by have:=hk.2; show szEs (exK x)<=szE x; omega),tV⟩
 | @exKa env x st wh vs st1 f o h h1 g h2 g2 ih ih2=>
  intro hn s c
  have hk:=kids_ce c.2
  obtain ⟨a1,a2⟩:=ih hn ⟨s.1,kids_sm s.2⟩ ⟨c.1,hk.1⟩
  obtain ⟨b1,b2⟩:=ih2 a1.f ⟨findB_sm s.1 h2,a2.1⟩ ⟨(findB_ce c.1 h2).mono a1.s,a2.2⟩
  exact ⟨a1.tr b1 (by have:=hk.2; show szEs (exK x)+0<=szE x; omega),b2⟩
 | @exKu env x st wh vs st1 h h1 g h2 h3 ih=>
  intro hn s c
  have hk:=kids_ce c.2
  obtain ⟨a1,a2⟩:=ih hn ⟨s.1,kids_sm s.2⟩ ⟨c.1,hk.1⟩
  exact ⟨a1.le (by have:=hk.2; show szEs (exK x)<=szE x; omega),tV⟩
 | @exKc env x st wh vs st1 d o h h1 g h2 h3 g2 ih ih2=>
  intro hn s c
  have hk:=kids_ce c.2
  obtain ⟨a1,a2⟩:=ih hn ⟨s.1,kids_sm s.2⟩ ⟨c.1,hk.1⟩
  obtain ⟨b1,b2⟩:=ih2 a1.f ⟨hl.2 _ (findD_mem h3),a2.1⟩ ⟨hc _ (findD_mem h3),a2.2⟩
  exact ⟨a1.tr b1 (by have:=hk.2; show szEs (exK x)+0<=szE x; omega),b2⟩
 | exL h h1=>intro hn s c; have hk:=rt_len1 h (.inl h1); exact ⟨Gr.r _ hn,.mk1 (SmV_lam hm.fr s.2 s.1 hk) (CeV_lam _ c.2 c.1 hk)⟩
 | @exTe env x st wh k st1 wh1 h h1 g ih=>
  intro hn s c
  have hk:=rt_len2 h (.inl h1)
  have k0:=kid_ce c.2 (i:=0) oM
  obtain ⟨a1,a2⟩:=ih hn ⟨s.1,szE_kid s.2 oM⟩ ⟨c.1,k0.1⟩
  exact ⟨a1.le (by show szE (kid x 0)<=szE x; omega),tV⟩
 | @exTo env x st wh v st1 o h h1 g g2 ih ih2=>
  intro hn s c
  have hk:=rt_len2 h (.inl h1)
  have k0:=kid_ce c.2 (i:=0) oM
  have k1:=kid_ce c.2 (i:=1) oM
  have kk:=kid2_ce (x:=x) (i:=0) (j:=1) oM oM
  obtain ⟨a1,a2⟩:=ih hn ⟨s.1,szE_kid s.2 oM⟩ ⟨c.1,k0.1⟩
  obtain ⟨b1,b2⟩:=ih2 a1.f ⟨by rw [SmBs_cons]; exact ⟨a2.one.1,s.1⟩,szE_kid s.2 oM⟩ ⟨by rw [CeBs_cons]; exact ⟨a2.one.2,c.1.mono a1.s⟩,k1.1⟩
  exact ⟨a1.tr b1 (by show szE (kid x 0)+szE (kid x 1)<=szE x; omega),b2⟩
 | @exFe env x st wh k st1 wh1 h h1 g ih=>
  intro hn s c
  have hk:=rt_len3 h h1
  have k0:=kid_ce c.2 (i:=0) oM
  obtain ⟨a1,a2⟩:=ih hn ⟨s.1,szE_kid s.2 oM⟩ ⟨c.1,k0.1⟩
  exact ⟨a1.le (by show szE (kid x 0)<=szE x; omega),tV⟩
 | @exFs env x st wh v st1 h h1 g h2 ih=>
  intro hn s c
  have hk:=rt_len3 h h1
  have k0:=kid_ce c.2 (i:=0) oM
  obtain ⟨a1,a2⟩:=ih hn ⟨s.1,szE_kid s.2 oM⟩ ⟨c.1,k0.1⟩
  exact ⟨a1.le (by show szE (kid x 0)<=szE x; omega),tV⟩
 | @exFt env x st wh v st1 o h h1 g h2 h3 g2 ih ih2=>
  intro hn s c
  have hk:=rt_len3 h h1
  have k0:=kid_ce c.2 (i:=0) oM
  have k1:=kid_ce c.2 (i:=1) oM
  have kk:=kid2_ce (x:=x) (i:=0) (j:=1) oM oM
  obtain ⟨a1,a2⟩:=ih hn ⟨s.1,szE_kid s.2 oM⟩ ⟨c.1,k0.1⟩
  obtain ⟨b1,b2⟩:=ih2 a1.f ⟨s.1,szE_kid s.2 oM⟩ ⟨c.1.mono a1.s,k1.1⟩
  exact ⟨a1.tr b1 (by show szE (kid x 0)+szE (kid x 1)<=szE x; omega),b2⟩
 | @exFf env x st wh v st1 o h h1 g h2 h3 g2 ih ih2=>
  intro hn s c
  have hk:=rt_len3 h h1
  have k0:=kid_ce c.2 (i:=0) oM
  have k1:=kid_ce c.2 (i:=2) oM
  have kk:=kid2_ce (x:=x) (i:=0) (j:=2) oM oM
  obtain ⟨a1,a2⟩:=ih hn ⟨s.1,szE_kid s.2 oM⟩ ⟨c.1,k0.1⟩
  obtain ⟨b1,b2⟩:=ih2 a1.f ⟨s.1,szE_kid s.2 oM⟩ ⟨c.1.mono a1.s,k1.1⟩
  exact ⟨a1.tr b1 (by show szE (kid x 0)+szE (kid x 2)<=szE x; omega),b2⟩
 | @exMe env x st wh k st1 wh1 h h1 g ih=>
  intro hn s c
  have hk:=rt_len1 h (.inr (.inl h1))
  have k0:=kid_ce c.2 (i:=0) oM
  obtain ⟨a1,a2⟩:=ih hn ⟨s.1,szE_kid s.2 oM⟩ ⟨c.1,k0.1⟩
  exact ⟨a1.le (by show szE (kid x 0)<=szE x; omega),tV⟩
 | @exMs env x st wh v st1 h h1 g h2 ih=>
  intro hn s c
  have hk:=rt_len1 h (.inr (.inl h1))
  have k0:=kid_ce c.2 (i:=0) oM
  obtain ⟨a1,a2⟩:=ih hn ⟨s.1,szE_kid s.2 oM⟩ ⟨c.1,k0.1⟩
  exact ⟨a1.le (by show szE (kid x 0)<=szE x; omega),tV⟩
 | @exMn env x st wh v st1 h h1 g h2 h3 ih=>
  intro hn s c
  have hk:=rt_len1 h (.inr (.inl h1))
  have k0:=kid_ce c.2 (i:=0) oM
  obtain ⟨a1,a2⟩:=ih hn ⟨s.1,szE_kid s.2 oM⟩ ⟨c.1,k0.1⟩
  exact ⟨a1.le (by show szE (kid x 0)<=szE x; omega),tV⟩
 | @exMl env x st wh v st1 a h h1 g h2 h3 h4 ih=>
  intro hn s c
  have hk:=rt_len1 h (.inr (.inl h1))
  have k0:=kid_ce c.2 (i:=0) oM
  obtain ⟨a1,a2⟩:=ih hn ⟨s.1,szE_kid s.2 oM⟩ ⟨c.1,k0.1⟩
  exact ⟨a1.le (by show szE (kid x 0)<=szE x; omega),tV⟩
 | @exMo env x st wh v st1 a o h h1 g h2 h3 h4 g2 ih ih2=>
  intro hn s c
  have hk:=rt_len1 h (.inr (.inl h1))
  have k0:=kid_ce c.2 (i:=0) oM
  have ka:=alt_ce c.2 (findA_mem h3) oM
  obtain ⟨a1,a2⟩:=ih hn ⟨s.1,szE_kid s.2 oM⟩ ⟨c.1,k0.1⟩
  obtain ⟨-,-,-,-,hvs,-⟩:=SmV_parts a2.one.1
  obtain ⟨-,-,cvs,-⟩:=CeV_parts a2.one.2
  obtain ⟨b1,b2⟩:=ih2 a1.f ⟨bnds_sm hvs s.1,(szE_alt s.2 (findA_mem h3)).1⟩ ⟨bnds_ce cvs (c.1.mono a1.s),ka.1⟩
  exact ⟨a1.tr b1 (by show szE (kid x 0)+szE (alB a)<=szE x; omega),b2⟩
 | @exAe env x st wh k st1 wh1 h h1 g ih=>
  intro hn s c
  have hk:=rt_len2 h oM
  have k0:=kid_ce c.2 (i:=0) oM
  obtain ⟨a1,a2⟩:=ih hn ⟨s.1,szE_kid s.2 oM⟩ ⟨c.1,k0.1⟩
  exact ⟨a1.le (by show szE (kid x 0)<=szE x; omega),tV⟩
 | @exAs env x st wh v st1 h h1 g h2 ih=>
  intro hn s c
  have hk:=rt_len2 h oM
  have k0:=kid_ce c.2 (i:=0) oM
  obtain ⟨a1,a2⟩:=ih hn ⟨s.1,szE_kid s.2 oM⟩ ⟨c.1,k0.1⟩
  exact ⟨a1.le (by show szE (kid x 0)<=szE x; omega),tV⟩
 | @exAq env x st wh v st1 h h1 g h2 h3 ih=>
  intro hn s c
  have hk:=rt_len2 h oM
  have k0:=kid_ce c.2 (i:=0) oM
  obtain ⟨a1,a2⟩:=ih hn ⟨s.1,szE_kid s.2 oM⟩ ⟨c.1,k0.1⟩
  exact ⟨a1.le (by show szE (kid x 0)<=szE x; omega),.mk1 (SmV_vX _ _) (CeV_vX _ dD)⟩
 | @exAr env x st wh v st1 k st2 wh2 h h1 g h2 h3 g2 ih ih2=>
  intro hn s c
  have hk:=rt_len2 h oM
  have k0:=kid_ce c.2 (i:=0) oM
  have k1:=kid_ce c.2 (i:=1) oM
  have kk:=kid2_ce (x:=x) (i:=0) (j:=1) oM oM
  obtain ⟨a1,a2⟩:=ih hn ⟨s.1,szE_kid s.2 oM⟩ ⟨c.1,k0.1⟩
  obtain ⟨b1,b2⟩:=ih2 a1.f ⟨s.1,szE_kid s.2 oM⟩ ⟨c.1.mono a1.s,k1.1⟩
  exact ⟨a1.tr b1 (by show szE (kid x 0)+szE (kid x 1)<=szE x; omega),tV⟩
 | @exAt env x st wh v st1 u st2 h h1 g h2 h3 g2 h4 ih ih2=>
  intro hn s c
  have hk:=rt_len2 h oM
  have k0:=kid_ce c.2 (i:=0) oM
  have k1:=kid_ce c.2 (i:=1) oM
  have kk:=kid2_ce (x:=x) (i:=0) (j:=1) oM oM
  obtain ⟨a1,a2⟩:=ih hn ⟨s.1,szE_kid s.2 oM⟩ ⟨c.1,k0.1⟩
  obtain ⟨b1,b2⟩:=ih2 a1.f ⟨s.1,szE_kid s.2 oM⟩ ⟨c.1.mono a1.s,k1.1⟩
  exact ⟨a1.tr b1 (by show szE (kid x 0)+szE (kid x 1)<=szE x; omega),tV⟩
 | @exAo env x st wh v st1 u st2 h h1 g h2 h3 g2 h4 ih ih2=>
  intro hn s c
  have hk:=rt_len2 h oM
  have k0:=kid_ce c.2 (i:=0) oM
  have k1:=kid_ce c.2 (i:=1) oM
  have kk:=kid2_ce (x:=x) (i:=0) (j:=1) oM oM
  obtain ⟨a1,a2⟩:=ih hn ⟨s.1,szE_kid s.2 oM⟩ ⟨c.1,k0.1⟩
  obtain ⟨b1,b2⟩:=ih2 a1.f ⟨s.1,szE_kid s.2 oM⟩ ⟨c.1.mono a1.s,k1.1⟩
  exact ⟨a1.tr b1 (by show szE (kid x 0)+szE (kid x 1)<=szE x; omega),.mk1 (SmV_vX _ _) (CeV_vX _ dD)⟩
 | @exU env x st wh o h h1 g ih=>
  intro hn s c
  have hk:=rt_pos h h1
  have k0:=kid_ce c.2 (i:=(exK x).length - 1) oM
  obtain ⟨a1,a2⟩:=ih hn ⟨s.1,szE_kid s.2 oM⟩ ⟨c.1,k0.1⟩
  exact ⟨a1.le (by show szE (kid x _)<=szE x; omega),a2⟩
 | @exOe env x st wh k st1 wh1 h h1 g ih=>
  intro hn s c
  have hk:=kids_ce c.2
  obtain ⟨a1,a2⟩:=ih hn ⟨s.1,kids_sm s.2⟩ ⟨c.1,hk.1⟩
  exact ⟨a1.le (by have:=hk.2; show szEs (exK x)<=szE x; omega),tV⟩
 | @exWe env x st wh k st1 wh1 h h1 g ih=>
  intro hn s c
  have hk:=kids_ce c.2
  obtain ⟨a1,a2⟩:=ih hn ⟨s.1,kids_sm s.2⟩ ⟨c.1,hk.1⟩
  exact ⟨a1.le (by have:=hk.2; show szEs (exK x)<=szE x; omega),tV⟩
 | @exOo env x st wh v st1 h h1 g ih=>
  intro hn s c
  have hk:=kids_ce c.2
  obtain ⟨a1,a2⟩:=ih hn ⟨s.1,kids_sm s.2⟩ ⟨c.1,hk.1⟩
  have hz:szTk (.li env (exK x))+7<=szE x:=hk.2
  have hf:=a1.f
  simp only [cok_st] at a1 hf
  unfold CSem.one
  cases hr:m.o1 (exO x) v st1 with
  | error k=>exact ⟨a1.le (by show szEs (exK x)<=szE x; have:=hk.2; omega),tV⟩
  | ok r=>
   obtain ⟨w,st2⟩:=r
   have z:=hm.o1 _ _ _ _ _ hr
   refine ⟨a1.tr (k2:=1) (c:=st2) ⟨?_,?_,?_,?_,?_,?_⟩ (by show szEs (exK x)+1<=szE x; have:=hk.2; omega),.mk1 z.2.2.2.2.1 z.2.2.2.2.2⟩ <;> omega
 | @exWo env x st wh v u st1 h h1 g ih=>
  intro hn s c
  have hk:=kids_ce c.2
  obtain ⟨a1,a2⟩:=ih hn ⟨s.1,kids_sm s.2⟩ ⟨c.1,hk.1⟩
  have hz:szTk (.li env (exK x))+7<=szE x:=hk.2
  have hf:=a1.f
  have p1:=a2.1
  have p2:=a2.2
  rw [SmVs] at p1
  rw [CeVs] at p2
  simp only [cok_st] at a1 hf
  unfold CSem.two
  cases hr:m.o2 (exO x) v u st1 with
  | error k=>exact ⟨a1.le (by show szEs (exK x)<=szE x; have:=hk.2; omega),tV⟩
  | ok r=>
   obtain ⟨w,st2⟩:=r
   have z:=hm.o2 _ _ _ _ _ _ hr
   refine ⟨a1.tr (k2:=1) (c:=st2) ⟨?_,?_,?_,?_,?_,?_⟩ (by show szEs (exK x)+1<=szE x; have:=hk.2; omega),.mk1 (z.2.2.2.2.1 p1.1) (by rw [z.2.1]; exact z.2.2.2.2.2 p2.1)⟩ <;> omega
 | _=>intro hn s c; exact ⟨Gr.r _ hn,tV⟩
end
section
variable {m:CSem} {l:List Df} {fu:Int} {t:Tk} {st:St} {wh:BA} {o:Co}
theorem sh1C{t:Tk}{vs:List Vl}{s:St}(h:ShC t (.ok vs s))(hn:t.nl):∃v,vs=[v]:=by
 have:vs.length=1:=by cases t <;> first | exact hn.elim | exact h
 exact List.length_eq_one_iff.1 this
theorem totC_li(hm:NiC m){n0:Int}(P:Ex->Prop)(env:List Bd)(wh:BA)(hx:∀x,P x->∀st':St,n0<=st'.n->∃o,Cv m l fu (.ex env x) st' wh o):∀ (xs:List Ex),(∀x∈xs,P x)->∀st':St,n0<=st'.n->∃o,Cv m l fu (.li env xs) st' wh o
 | [],_,st',_=>⟨_,.liN⟩
 | x::xs,hp,st',hs=>by
  obtain ⟨o,ho⟩:=hx x (hp x List.mem_cons_self) st' hs
  cases o with
  | er k s w=>exact ⟨_,.liE ho⟩
  | ok vs s=>
   obtain ⟨v,rfl⟩:=sh1C ho.shape trivial
   have hM:=(ho.mono hm).1
   simp only [cok_st] at hM
   obtain ⟨o2,ho2⟩:=totC_li hm P env wh hx xs (fun y hy=>hp y (List.mem_cons_of_mem _ hy)) s oM
   cases o2 with
   | er k s w=>exact ⟨_,.liR ho ho2⟩
   | ok vs s=>exact ⟨_,.liC ho ho2⟩
theorem totC_ex(hm:NiC m){n0:Int}(hA:∀st':St,n0<=st'.n->∀f args wh,∃o,Cv m l fu (.app f args) st' wh o)(hC:∀st':St,n0<=st'.n->∀d args wh,∃o,Cv m l fu (.call d args) st' wh o)(hK:∀st':St,n0<=st'.n->∀d wh,∃o,Cv m l fu (.con d) st' wh o) :
  ∀ (n:Nat) (x:Ex),SizeOf.sizeOf x<n->∀env (st':St) wh,n0<=st'.n->∃o,Cv m l fu (.ex env x) st' wh o
 | 0,x,hn,_,_,_,_=>by omega
 | n+1,x,hn,env,st',wh,hs=>by
  have IH:=totC_ex hm hA hC hK n
  have IL:∀env wh (st':St),n0<=st'.n->∃o,Cv m l fu (.li env (exK x)) st' wh o:=fun env wh st' hs=>
   totC_li hm (fun y=>SizeOf.sizeOf y<n) env wh (fun y hy s' hs'=>IH y hy env s' wh hs') (exK x) (fun y hy=>by have:=mem_lt hy; omega) st' hs
  by_cases hr:rt x
  rotate_left
  ·exact ⟨_,.exR (by simpa using hr)⟩
  have IK:∀i,i<(exK x).length->∀env (st':St) wh,n0<=st'.n->∃o,Cv m l fu (.ex env (kid x i)) st' wh o:=fun i hi env st' wh hs=>
   IH _ (by have:=kid_lt hi; omega) env st' wh hs
  rcases rt_kinds hr with h | h | h | h | h | h | h | h | h | h | h | h | h
  ·by_cases h2:nIn_r0 (exN x)=true
   ·exact ⟨_,.exIo hr h h2⟩
   ·exact ⟨_,.exIe hr h (by simpa using h2)⟩
  ·exact ⟨_,.exB hr h⟩
  ·cases h2:findB (exNm x) env with
   | some v=>exact ⟨_,.exVb hr h h2⟩
   | none=>
    cases h3:findD (exNm x) l with
    | none=>exact ⟨_,.exVu hr h h2 h3⟩
    | some d=>
     by_cases h4:0<(dfP d).length
     ·exact ⟨_,.exVf hr h h2 h3 h4⟩
     ·obtain ⟨o,ho⟩:=hK st' hs d wh
      exact ⟨_,.exVc hr h h2 h3 h4 ho⟩
  ·obtain ⟨o,ho⟩:=IL env wh st' hs
   cases o with
   | er k s w=>exact ⟨_,.exCe hr h ho⟩
   | ok vs s=>exact ⟨_,.exCo hr h ho⟩
  ·obtain ⟨o,ho⟩:=IL env wh st' hs
   cases o with
   | er k s w=>exact ⟨_,.exKe hr h ho⟩
   | ok vs s=>
    have hM:=(ho.mono hm).1
    simp only [cok_st] at hM
    cases h2:findB (exNm x) env with
    | some f=>
     obtain ⟨o2,ho2⟩:=hA s oM f vs wh
     exact ⟨_,.exKa hr h ho h2 ho2⟩
    | none=>
     cases h3:findD (exNm x) l with
     | none=>exact ⟨_,.exKu hr h ho h2 h3⟩
     | some d=>
      obtain ⟨o2,ho2⟩:=hC s oM d vs wh
      exact ⟨_,.exKc hr h ho h2 h3 ho2⟩
  ·exact ⟨_,.exL hr h⟩
  ·have hl:=rt_len2 hr (.inl h)
   obtain ⟨o,ho⟩:=IK 0 oM env st' wh hs
   cases o with
   | er k s w=>exact ⟨_,.exTe hr h ho⟩
   | ok vs s=>
    obtain ⟨v,rfl⟩:=sh1C ho.shape trivial
    have hM:=(ho.mono hm).1
    simp only [cok_st] at hM
    obtain ⟨o2,ho2⟩:=IK 1 oM (.mk (exNm x) v::env) s wh oM
    exact ⟨_,.exTo hr h ho ho2⟩
  ·have hl:=rt_len3 hr h
   obtain ⟨o,ho⟩:=IK 0 oM env st' wh hs
   cases o with
   | er k s w=>exact ⟨_,.exFe hr h ho⟩
   | ok vs s=>
    obtain ⟨v,rfl⟩:=sh1C ho.shape trivial
    have hM:=(ho.mono hm).1
    simp only [cok_st] at hM
    by_cases h2:vlO v=2
    ·by_cases h3:vlN v=0
     ·obtain ⟨o2,ho2⟩:=IK 2 oM env s wh oM
      exact ⟨_,.exFf hr h ho h2 h3 ho2⟩
     ·obtain ⟨o2,ho2⟩:=IK 1 oM env s wh oM
      exact ⟨_,.exFt hr h ho h2 h3 ho2⟩
    ·exact ⟨_,.exFs hr h ho h2⟩
  ·have hl:=rt_len1 hr (.inr (.inl h))
   obtain ⟨o,ho⟩:=IK 0 oM env st' wh hs
   cases o with
   | er k s w=>exact ⟨_,.exMe hr h ho⟩
   | ok vs s=>
    obtain ⟨v,rfl⟩:=sh1C ho.shape trivial
    have hM:=(ho.mono hm).1
    simp only [cok_st] at hM
    by_cases h2:vlO v=3
    ·cases h3:findA (vlNm v) (exA x) with
     | none=>exact ⟨_,.exMn hr h ho h2 h3⟩
     | some a=>
      by_cases h4:(alNs a).length=(vlK v).length
      ·obtain ⟨o2,ho2⟩:=IH (alB a) (by have:=alt_lt (findA_mem h3); omega) (bnds (alNs a) (vlK v) env) s wh oM
       exact ⟨_,.exMo hr h ho h2 h3 h4 ho2⟩
      ·exact ⟨_,.exMl hr h ho h2 h3 h4⟩
    ·exact ⟨_,.exMs hr h ho h2⟩
  ·have hl:=rt_len2 hr oM
   obtain ⟨o,ho⟩:=IK 0 oM env st' wh hs
   cases o with
   | er k s w=>exact ⟨_,.exAe hr h ho⟩
   | ok vs s=>
    obtain ⟨v,rfl⟩:=sh1C ho.shape trivial
    have hM:=(ho.mono hm).1
    simp only [cok_st] at hM
    by_cases h2:vlO v=2
    ·by_cases h3:(vlN v != 0)=(exO x==20)
     ·exact ⟨_,.exAq hr h ho h2 h3⟩
     ·obtain ⟨o2,ho2⟩:=IK 1 oM env s wh oM
      cases o2 with
      | er k s w=>exact ⟨_,.exAr hr h ho h2 h3 ho2⟩
      | ok vs s=>
       obtain ⟨u,rfl⟩:=sh1C ho2.shape trivial
       by_cases h4:vlO u=2
       ·exact ⟨_,.exAo hr h ho h2 h3 ho2 h4⟩
       ·exact ⟨_,.exAt hr h ho h2 h3 ho2 h4⟩
    ·exact ⟨_,.exAs hr h ho h2⟩
  ·have hl:=rt_pos hr h
   obtain ⟨o,ho⟩:=IK ((exK x).length - 1) oM env st' wh hs
   exact ⟨_,.exU hr h ho⟩
  ·have hl:=rt_len1 hr (.inr (.inr (.inr h)))
   obtain ⟨o,ho⟩:=IL env wh st' hs
   cases o with
   | er k s w=>exact ⟨_,.exOe hr h ho⟩
   | ok vs s=>
    have hv:vs.length=1:=hl ▸ (show vs.length=(exK x).length from ho.shape)
    obtain ⟨v,rfl⟩:=List.length_eq_one_iff.1 hv
    exact ⟨_,.exOo hr h ho⟩
  ·have hl:=rt_len2 hr (.inr (.inr (.inr h)))
   obtain ⟨o,ho⟩:=IL env wh st' hs
   cases o with
   | er k s w=>exact ⟨_,.exWe hr h ho⟩
   | ok vs s=>
    have hv:vs.length=2:=hl ▸ (show vs.length=(exK x).length from ho.shape)
    match vs,hv,ho with
    | [v,u],_,ho=>exact ⟨_,.exWo hr h ho⟩
theorem totC_n(hm:NiC m):∀ (n:Nat) (st:St),(fu - st.n).toNat<=n->(∀f args wh,∃o,Cv m l fu (.app f args) st wh o)/\(∀d args wh,∃o,Cv m l fu (.call d args) st wh o)/\(∀d wh,∃o,Cv m l fu (.con d) st wh o)
 | n,st,hn=>by
  have run:∀d env wh,∃o,Cv m l fu (.run d env) st wh o:=fun d env wh=>by
   by_cases hf:fu<=st.n
   ·exact ⟨_,.runF hf⟩
   ·match n,hn with
    | 0,hn=>omega
    | n+1,hn=>
     have T:=fun (st':St) (hs:st.n+1<=st'.n)=>totC_n hm n st' oM
     obtain ⟨o,ho⟩:=totC_ex hm (n0:=st.n+1) (fun s hs=>(T s hs).1) (fun s hs=>(T s hs).2.1) (fun s hs=>(T s hs).2.2) (SizeOf.sizeOf (dfB d)+1) (dfB d) oM env st.tick (dfNm d) (Int.le_refl _)
     exact ⟨o,.runG oM ho⟩
  have call:∀d args wh,∃o,Cv m l fu (.call d args) st wh o:=fun d args wh=>by
   by_cases h:dfM d=1
   ·exact ⟨_,.callA h⟩
   ·by_cases h1:0<(dfP d).length/\(dfP d).length=args.length
    ·obtain ⟨o,ho⟩:=run d (bnds (dfP d) args []) wh
     exact ⟨o,.callG h h1.1 h1.2 ho⟩
    ·exact ⟨_,.callN h h1⟩
  refine ⟨fun f args wh=>?_,call,fun d wh=>?_⟩
  ·by_cases h:vlO f=5
   rotate_left
   ·exact ⟨_,.appO h⟩
   by_cases h1:vlNm f=nm0
   ·by_cases h2:(vlB f).length=1/\(vlP f).length=args.length
    ·by_cases hf:fu<=st.n
     ·exact ⟨_,.appF h h1 h2.1 h2.2 hf⟩
     ·match n,hn with
      | 0,hn=>omega
      | n+1,hn=>
       have T:=fun (st':St) (hs:st.n+1<=st'.n)=>totC_n hm n st' oM
       obtain ⟨o,ho⟩:=totC_ex hm (n0:=st.n+1) (fun s hs=>(T s hs).1) (fun s hs=>(T s hs).2.1) (fun s hs=>(T s hs).2.2) (SizeOf.sizeOf ((vlB f).getD 0 default)+1) ((vlB f).getD 0 default) oM (bnds (vlP f) args (vlBd f).reverse) st.tick wh (Int.le_refl _)
       exact ⟨o,.appG h h1 h2.1 h2.2 oM ho⟩
    ·exact ⟨_,.appL h h1 h2⟩
   ·cases h2:findD (vlNm f) l with
    | none=>exact ⟨_,.appU h h1 h2⟩
    | some d=>
     obtain ⟨o,ho⟩:=call d args wh
     exact ⟨o,.appN h h1 h2 ho⟩
  ·by_cases h:dfM d=1
   ·exact ⟨_,.conA h⟩
   ·obtain ⟨o,ho⟩:=run d [] wh
    exact ⟨o,.conG h ho⟩
 termination_by n=>n
theorem totalC_call(m:CSem)(hm:NiC m)(l:List Df)(fu:Int)(d:Df)(args:List Vl)(st:St)(wh:BA):∃o,Cv m l fu (.call d args) st wh o:=(totC_n hm _ st (Nat.le_refl _)).2.1 d args wh
end
mutual
def plV:Vl->List Int->Vl × List Int
 | .mk op n nm kids ps body binds,s=>
  (.mk op (if op=4 then (s.length:Int) else n) nm (plVs kids (if op=4 then s++[n] else s)).1 ps body (plBs binds (plVs kids (if op=4 then s++[n] else s)).2).1,(plBs binds (plVs kids (if op=4 then s++[n] else s)).2).2)
def plVs:List Vl->List Int->List Vl × List Int
 | [],s=>([],s)
 | v::r,s=>((plV v s).1::(plVs r (plV v s).2).1,(plVs r (plV v s).2).2)
def plBs:List Bd->List Int->List Bd × List Int
 | [],s=>([],s)
 | .mk nm v::r,s=>(.mk nm (plV v s).1::(plBs r (plV v s).2).1,(plBs r (plV v s).2).2)
end
mutual
def rdV(s:List Int):Vl->Vl
 | .mk op n nm kids ps body binds => .mk op (if op=4 then s.getD n.toNat 0 else n) nm (rdVs s kids) ps body (rdBs s binds)
def rdVs(s:List Int):List Vl->List Vl
 | []=>[]
 | v::r=>rdV s v::rdVs s r
def rdBs(s:List Int):List Bd->List Bd
 | []=>[]
 | .mk nm v::r => .mk nm (rdV s v)::rdBs s r
end
mutual
def cnV:Vl->Nat
 | .mk op _ _ kids _ _ binds=>(if op=4 then 1 else 0)+cnVs kids+cnBs binds
def cnVs:List Vl->Nat
 | []=>0
 | v::r=>cnV v+cnVs r
def cnBs:List Bd->Nat
 | []=>0
 | .mk _ v::r=>cnV v+cnBs r
end
mutual
def BoV:Vl->Prop
 | .mk _ _ _ kids _ body binds=>(∀x∈body,szE x<=1048576)/\BoVs kids/\BoBs binds
def BoVs:List Vl->Prop
 | []=>True
 | v::r=>BoV v/\BoVs r
def BoBs:List Bd->Prop
 | []=>True
 | .mk _ v::r=>BoV v/\BoBs r
end
mutual
theorem plV_len:∀ (v:Vl) (s:List Int),(plV v s).2.length=s.length+cnV v
 | .mk op n nm kids ps body binds,s=>by
  rw [plV,cnV]
  simp only
  rw [plBs_len,plVs_len]
  split
  ·simp only [List.length_append,List.length_cons,List.length_nil]; omega
  ·omega
theorem plVs_len:∀ (l:List Vl) (s:List Int),(plVs l s).2.length=s.length+cnVs l
 | [],s=>by rw [plVs,cnVs]; rfl
 | v::r,s=>by
  rw [plVs,cnVs]
  simp only
  rw [plVs_len,plV_len]
  omega
theorem plBs_len:∀ (l:List Bd) (s:List Int),(plBs l s).2.length=s.length+cnBs l
 | [],s=>by rw [plBs,cnBs]; rfl
 | .mk nm v::r,s=>by
  rw [plBs,cnBs]
  simp only
  rw [plBs_len,plV_len]
  omega
end
theorem plVs_count:∀ (l:List Vl) (s:List Int),(plVs l s).1.length=l.length
 | [],s=>by rw [plVs]
 | v::r,s=>by rw [plVs]; simp only [List.length_cons]; rw [plVs_count]
theorem plBs_count:∀ (l:List Bd) (s:List Int),(plBs l s).1.length=l.length
 | [],s=>by rw [plBs]
 | .mk nm v::r,s=>by rw [plBs]; simp only [List.length_cons]; rw [plBs_count]
mutual
theorem plV_ok:∀ (v:Vl) (s:List Int),SmV v->BoV v->SmV (plV v s).1/\CeV (plV v s).2.length (plV v s).1
 | .mk op n nm kids ps body binds,s,h,b=>by
  rw [SmV] at h
  rw [BoV] at b
  have h1:=plVs_ok kids (if op=4 then s++[n] else s) h.2.2.2.2.1 b.2.1
  have h2:=plBs_ok binds (plVs kids (if op=4 then s++[n] else s)).2 h.2.2.2.2.2 b.2.2
  have e1:=plVs_count kids (if op=4 then s++[n] else s)
  have e2:=plBs_count binds (plVs kids (if op=4 then s++[n] else s)).2
  have l1:=plVs_len kids (if op=4 then s++[n] else s)
  have l2:=plBs_len binds (plVs kids (if op=4 then s++[n] else s)).2
  rw [plV]
  simp only
  constructor
  ·rw [SmV]
   exact ⟨by omega,h.2.1,by omega,h.2.2.2.1,h1.1,h2.1⟩
  ·rw [CeV]
   refine ⟨fun ho=>?_,b.1,h1.2.mono oM,h2.2⟩
   rw [iP ho]
   rw [iP ho] at l1 l2
   rw [iP ho]
   simp only [List.length_append,List.length_cons,List.length_nil] at l1
   omega
theorem plVs_ok:∀ (l:List Vl) (s:List Int),SmVs l->BoVs l->SmVs (plVs l s).1/\CeVs (plVs l s).2.length (plVs l s).1
 | [],s,_,_=>by rw [plVs]; exact ⟨SmVs_nil,CeVs_nil⟩
 | v::r,s,h,b=>by
  rw [SmVs] at h
  rw [BoVs] at b
  have h1:=plV_ok v s h.1 b.1
  have h2:=plVs_ok r (plV v s).2 h.2 b.2
  have l2:=plVs_len r (plV v s).2
  rw [plVs]
  simp only
  constructor
  ·rw [SmVs]; exact ⟨h1.1,h2.1⟩
  ·rw [CeVs]; exact ⟨h1.2.mono oM,h2.2⟩
theorem plBs_ok:∀ (l:List Bd) (s:List Int),SmBs l->BoBs l->SmBs (plBs l s).1/\CeBs (plBs l s).2.length (plBs l s).1
 | [],s,_,_=>by rw [plBs]; exact ⟨SmBs_nil,CeBs_nil⟩
 | .mk nm v::r,s,h,b=>by
  rw [SmBs] at h
  rw [BoBs] at b
  have h1:=plV_ok v s h.1 b.1
  have h2:=plBs_ok r (plV v s).2 h.2 b.2
  have l2:=plBs_len r (plV v s).2
  rw [plBs]
  simp only
  constructor
  ·rw [SmBs]; exact ⟨h1.1,h2.1⟩
  ·rw [CeBs]; exact ⟨h1.2.mono oM,h2.2⟩
end
mutual
theorem rdV_sm(s:List Int):∀ (v:Vl),SmV v->SmV (rdV s v)
 | .mk op n nm kids ps body binds,h=>by
  rw [SmV] at h
  rw [rdV,SmV]
  have e1:=rdVs_count s kids
  have e2:=rdBs_count s binds
  exact ⟨by omega,h.2.1,by omega,h.2.2.2.1,rdVs_sm s kids h.2.2.2.2.1,rdBs_sm s binds h.2.2.2.2.2⟩
theorem rdVs_sm(s:List Int):∀ (l:List Vl),SmVs l->SmVs (rdVs s l)
 | [],_=>by rw [rdVs]; exact SmVs_nil
 | v::r,h=>by
  rw [SmVs] at h
  rw [rdVs,SmVs]
  exact ⟨rdV_sm s v h.1,rdVs_sm s r h.2⟩
theorem rdBs_sm(s:List Int):∀ (l:List Bd),SmBs l->SmBs (rdBs s l)
 | [],_=>by rw [rdBs]; exact SmBs_nil
 | .mk nm v::r,h=>by
  rw [SmBs] at h
  rw [rdBs,SmBs]
  exact ⟨rdV_sm s v h.1,rdBs_sm s r h.2⟩
theorem rdVs_count(s:List Int):∀ (l:List Vl),(rdVs s l).length=l.length
 | []=>by rw [rdVs]
 | v::r=>by rw [rdVs]; simp only [List.length_cons]; rw [rdVs_count]
theorem rdBs_count(s:List Int):∀ (l:List Bd),(rdBs s l).length=l.length
 | []=>by rw [rdBs]
 | .mk nm v::r=>by rw [rdBs]; simp only [List.length_cons]; rw [rdBs_count]
end
theorem BoVs_of:∀ {l:List Vl},(∀v∈l,BoV v)->BoVs l
 | [],_=>by rw [BoVs]; trivial
 | v::r,h=>by rw [BoVs]; exact ⟨h v sM,BoVs_of fun w hw=>h w (List.mem_cons_of_mem _ hw)⟩
theorem BoBs_of:∀ {l:List Bd},(∀b∈l,BoV (bdV b))->BoBs l
 | [],_=>by rw [BoBs]; trivial
 | .mk nm v::r,h=>by rw [BoBs]; exact ⟨h (.mk nm v) sM,BoBs_of fun w hw=>h w (List.mem_cons_of_mem _ hw)⟩
theorem bo_bulk:∀ (d:Nat) (v:Vl),szV v<d->szV v<=1048576->BoV v
 | 0,_,h,_=>by omega
 | d+1,v,h,hs=>by
  have h1:=szV_eq v
  have h6:BoVs (vlK v):=BoVs_of fun w hw=>bo_bulk d w (by have:=val_bulk hw; omega) (by have:=val_bulk hw; omega)
  have h7:BoBs (vlBd v):=BoBs_of fun b hb=>bo_bulk d (bdV b) (by have:=bdv_bulk hb; omega) (by have:=bdv_bulk hb; omega)
  have h8:∀x∈vlB v,szE x<=1048576:=fun x hx=>by have:=exs_bulk hx; omega
  cases v with
  | mk op n name kids params body binds=>
   simp only [vlK,vlP,vlB,vlBd] at *
   rw [BoV]
   exact ⟨h8,h6,h7⟩
theorem BoVs_bulk{l:List Vl}(h:bulkPss (Vl.cs l)<=1048576):BoVs l:=BoVs_of fun v hv=>bo_bulk _ v (Nat.lt_succ_self _) (by have:=val_bulk hv; omega)
mutual
theorem cnV_bulk:∀ (v:Vl),cnV v+1<=szV v
 | .mk op n name kids params body binds=>by
  have h1:=szV_eq (.mk op n name kids params body binds)
  simp only [vlK,vlP,vlB,vlBd,vlNm] at h1
  have h2:=cnVs_bulk kids
  have h3:=cnBs_bulk binds
  rw [cnV]
  split <;> omega
theorem cnVs_bulk:∀ (l:List Vl),cnVs l<=bulkPss (Vl.cs l)
 | []=>by rw [cnVs]; omega
 | v::r=>by
  have h1:=cnV_bulk v
  have h2:=cnVs_bulk r
  rw [cnVs,Vl.cs_eq,List.map_cons,bulkPss]
  rw [Vl.cs_eq] at h2
  unfold szV at h1
  omega
theorem cnBs_bulk:∀ (l:List Bd),cnBs l<=bulkPss (Bd.cs l)
 | []=>by rw [cnBs]; omega
 | .mk nm v::r=>by
  have h1:=cnV_bulk v
  have h2:=cnBs_bulk r
  rw [cnBs,Bd.cs_eq,List.map_cons,bulkPss]
  rw [Bd.cs_eq] at h2
  unfold szV at h1
  have h3:=bd_bulk (.mk nm v)
  unfold szV at h3
  simp only [bdV] at h3
  omega
end
end Go.Proofs.YtgonmmckkikmaaaGreat
