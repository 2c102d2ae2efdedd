/- Values of Go as plain data, an evaluator over them, and what the functions of the program return; part p. -/
import Derived.Test.YtgonmmckkikmaaaGreatXg
import Derived.Test.YtgonmmckkikmaaaGreatXl
import Derived.Test.YtgonmmckkikmaaaGreatXo
set_option linter.unusedSectionVars false
set_option linter.unusedSimpArgs false
set_option linter.unusedVariables false
namespace Go.Proofs.YtgonmmckkikmaaaGreat
open Go.Pv
set_option maxRecDepth 100000
end Go.Proofs.YtgonmmckkikmaaaGreat
namespace Go.Proofs.YtgonmmckkikmaaaGreat
open Go.Pv
theorem ite_ne{c:Prop} [Decidable c] {a b k:Int} (ha:¬a=k) (hb:¬b=k):¬(if c then a else b)=k:=by split <;> assumption
section
variable (c0 c1 c2 c3 c4:PV) (l:List Df) (fu:Int)
end
end Go.Proofs.YtgonmmckkikmaaaGreat
namespace Go.Proofs.YtgonmmckkikmaaaGreat
open Go.Pv
theorem findD_nm{n:BA}:∀ {l:List Df} {d:Df},findD n l=some d->dfNm d=n
 | b::r,d,h=>by
  rw [findD] at h
  split at h
  ·injection h with h; subst h; assumption
  ·exact findD_nm h
def LnT:Tk->Prop
 | .ex env x=>env.length+szE x<=900000000
 | .li env xs=>∀x∈xs,env.length+szE x<=900000000
 | .run _ env=>env.length<=800000000
 | _=>True
section
variable (c0 c1 c2 c3 c4:PV) (l:List Df) (fu:Int)
theorem rr{x:Ex}(h:rt x):rRight_r0 (exO x) (exK x)=true:=by rw [rRight_eq]; exact h
theorem env_ln{env:List Bd}{x:Ex}(n:LnT (.ex env x)):env.reverse.length<=1000000000:=by
 have n':env.length+szE x<=900000000:=n
 rw [List.length_reverse]
 omega
theorem wkA{a b:List PV}(h:WkL a b):Wk (.agg a) (.agg b) := .agg h.1 h.2
theorem kid_ln{env:List Bd}{x:Ex}{i:Nat}(n:LnT (.ex env x))(h:i<(exK x).length):LnT (.ex env (kid x i)):=by
 have n':env.length+szE x<=900000000:=n
 have h1:=szE_eq x
 have h2:=kid_bulk (kid_mem h)
 show env.length+szE ((exK x).getD i default)<=900000000
 omega
theorem kid_ln1{env:List Bd}{x:Ex}{i:Nat}{b:Bd}(n:LnT (.ex env x))(h:i<(exK x).length):LnT (.ex (b::env) (kid x i)):=by
 have n':env.length+szE x<=900000000:=n
 have h1:=szE_eq x
 have h2:=kid_bulk (kid_mem h)
 show (b::env).length+szE ((exK x).getD i default)<=900000000
 rw [List.length_cons]
 omega
theorem kids_ln{env:List Bd}{x:Ex}(n:LnT (.ex env x)):LnT (.li env (exK x)):=fun y hy=>by
 have n':env.length+szE x<=900000000:=n
 have h1:=szE_eq x
 have h2:=kid_bulk hy
 omega
theorem alt_ln{env:List Bd}{x:Ex}{a:Al}{vs:List Vl}(n:LnT (.ex env x))(h:a∈exA x):LnT (.ex (bnds (alNs a) vs env) (alB a)):=by
 have n':env.length+szE x<=900000000:=n
 have h1:=szE_eq x
 have h2:=alt_bulk h
 have h3:=bnds_len (alNs a) vs env
 show (bnds (alNs a) vs env).length+szE (alB a)<=900000000
 omega
end
end Go.Proofs.YtgonmmckkikmaaaGreat
namespace Go.Proofs.YtgonmmckkikmaaaGreat
open Go.Pv
set_option maxRecDepth 100000
theorem fl_eq{fu:Int}(h0:0<=fu)(h1:fu<=100000):fl' fu=fu:=by
 unfold fl' flX
 simp only [if_true,Bool.false_eq_true,if_false]
 split <;> split <;> omega
theorem otL_nx(v:Vl)(er st:Int)(wh:BA):PV.noX (.agg (otL v er wh st))=true:=by
 have h:=vlL_nx v
 simp only [noXs,Bool.and_true,Bool.and_eq_true] at h
 simp only [PV.noX,otL,List.cons_append,List.nil_append,noXs,Bool.and_true,Bool.and_eq_true]
 simp [PV.noX] at h ⊢
 exact h
section
variable (c0 c1 c2 c3 c4:PV) (l:List Df) (fu:Int)
end
end Go.Proofs.YtgonmmckkikmaaaGreat
namespace Go.Proofs.YtgonmmckkikmaaaGreat
open Go.Pv
set_option maxRecDepth 100000
section
variable (c0 c1 c2 c3 c4:PV) (l:List Df) (fu:Int)
end
end Go.Proofs.YtgonmmckkikmaaaGreat
