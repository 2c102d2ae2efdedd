/- Values of Go as plain data, an evaluator over them, and what the functions of the program return; part o. -/
import Derived.Test.YtgonmmckkikmaaaGreatXn
import Derived.Test.YtgonmmckkikmaaaGreatXg
import Derived.Test.YtgonmmckkikmaaaGreatXl
set_option linter.unusedSectionVars false
set_option linter.unusedSimpArgs false
set_option linter.unusedVariables false
namespace Go.Proofs.YtgonmmckkikmaaaGreat
open Go.Pv Tryz
set_option maxRecDepth 100000
theorem vkid_lt{v w:Vl}(h:w∈vlK v):SizeOf.sizeOf w<SizeOf.sizeOf v:=by
 have h2:=List.sizeOf_lt_of_mem h
 cases v with
 | mk op n name kids params body binds=>
  simp only [vlK] at h2
  simp only [Vl.mk.sizeOf_spec]
  omega
theorem vbd_lt{v:Vl}{b:Bd}(h:b∈vlBd v):SizeOf.sizeOf (bdV b)<SizeOf.sizeOf v:=by
 have h2:=List.sizeOf_lt_of_mem h
 cases v with
 | mk op n name kids params body binds=>
  cases b with
  | mk nm w=>
   simp only [vlBd] at h2
   simp only [Vl.mk.sizeOf_spec,bdV]
   simp only [Bd.mk.sizeOf_spec] at h2
   omega
theorem SmBs_at:∀ {l:List Bd},SmBs l->∀b∈l,SmV (bdV b)
 | b::r,h,w,hw=>by
  rw [SmBs_cons] at h
  rcases List.mem_cons.1 hw with rfl | hw
  ·exact h.1
  ·exact SmBs_at h.2 w hw
def lfD:Nat->Vl->Int->Int
 | 0,_,_=>0
 | d+1,v,n=>lfB_f (lfD d) (vlBd v) (lfA_f (lfD d) (vlK v) (IntKind.i64.wrap (n - 1)))
theorem left_ok:∀ (d:Nat) (v:Vl),SizeOf.sizeOf v<d->SmV v->∀n:Int,Pu 102 [.agg (vlL v),.int .i64 n] (.ret (.int .i64 (lfD d v n)))
 | 0,v,h,_,_=>by omega
 | d+1,v,h,hs,n=>by
  obtain ⟨h1,-,h3,-,h5,h6⟩:=SmV_parts hs
  exact rLeft v (lfD d) (fun w m hw=>left_ok d w (by have:=vkid_lt hw; omega) (SmVs_at h5 w hw) m) (fun b m hb=>left_ok d (bdV b) (by have:=vbd_lt hb; omega) (SmBs_at h6 b hb) m) n h1 h3
section
variable (cK:C5) (l:List Df) (fu:Int)
end
theorem bnds_len:∀ (ns:List BA) (vs:List Vl) (acc:List Bd),(bnds ns vs acc).length<=ns.length+acc.length
 | [],vs,acc=>by rw [bnds]; simp; simp
 | n::r,[],acc=>by rw [show bnds (n::r) [] acc=acc from rfl]; omega
 | n::r,v::vs,acc=>by
  rw [bnds]
  have:=bnds_len r vs (.mk n v::acc)
  simp only [List.length_cons] at this ⊢
  omega
end Go.Proofs.YtgonmmckkikmaaaGreat
