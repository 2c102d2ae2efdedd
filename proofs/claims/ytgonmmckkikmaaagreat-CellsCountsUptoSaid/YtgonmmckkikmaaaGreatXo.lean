/- Values of Go as plain data, an evaluator over them, and what the functions of the program return; part o. -/
import Derived.Test.YtgonmmckkikmaaaGreatXn
import Derived.Test.YtgonmmckkikmaaaGreatXg
import Derived.Test.YtgonmmckkikmaaaGreatXl
set_option linter.unusedSectionVars false
set_option linter.unusedSimpArgs false
set_option linter.unusedVariables false
namespace Go.Proofs.YtgonmmckkikmaaaGreat
open Go.Pv
set_option maxRecDepth 100000
end Go.Proofs.YtgonmmckkikmaaaGreat
namespace Go.Proofs.YtgonmmckkikmaaaGreat
open Go.Pv
set_option maxRecDepth 100000
end Go.Proofs.YtgonmmckkikmaaaGreat
namespace Go.Proofs.YtgonmmckkikmaaaGreat
open Go.Pv
set_option maxRecDepth 100000
end Go.Proofs.YtgonmmckkikmaaaGreat
namespace Go.Proofs.YtgonmmckkikmaaaGreat
open Go.Pv
set_option maxRecDepth 100000
end Go.Proofs.YtgonmmckkikmaaaGreat
namespace Go.Proofs.YtgonmmckkikmaaaGreat
open Go.Pv
theorem vkid_lt{v w:Vl}(h:w∈vlK v):SizeOf.sizeOf w<SizeOf.sizeOf v:=by
 have h2:=List.sizeOf_lt_of_mem h
 cases v with
 | mk op n name kids params body binds=>
  simp only [vlK] at h2
  simp only [Vl.mk.sizeOf_spec]
  omega
theorem vbd_lt{v:Vl}{b:Bd}(h:b∈vlBd v):SizeOf.sizeOf (bdV b)<SizeOf.sizeOf v:=by
 have h2:=List.sizeOf_lt_of_mem h
 cases v with
 | mk op n name kids params body binds=>
  cases b with
  | mk nm w=>
   simp only [vlBd] at h2
   simp only [Vl.mk.sizeOf_spec,bdV]
   simp only [Bd.mk.sizeOf_spec] at h2
   omega
theorem SmBs_at:∀ {l:List Bd},SmBs l->∀b∈l,SmV (bdV b)
 | b::r,h,w,hw=>by
  rw [SmBs_cons] at h
  rcases List.mem_cons.1 hw with rfl | hw
  ·exact h.1
  ·exact SmBs_at h.2 w hw
def lfD:Nat->Vl->Int->Int
 | 0,_,_=>0
 | d+1,v,n=>lfB_f (lfD d) (vlBd v) (lfA_f (lfD d) (vlK v) (IntKind.i64.wrap (n - 1)))
theorem left_ok:∀ (d:Nat) (v:Vl),SizeOf.sizeOf v<d->SmV v->∀n:Int,Pu 102 [.agg (vlL v),.int .i64 n] (.ret (.int .i64 (lfD d v n)))
 | 0,v,h,_,_=>by omega
 | d+1,v,h,hs,n=>by
  obtain ⟨h1,-,h3,-,h5,h6⟩:=SmV_parts hs
  exact rLeft v (lfD d) (fun w m hw=>left_ok d w (by have:=vkid_lt hw; omega) (SmVs_at h5 w hw) m) (fun b m hb=>left_ok d (bdV b) (by have:=vbd_lt hb; omega) (SmBs_at h6 b hb) m) n h1 h3
section
variable (c0 c1 c2 c3 c4:PV) (l:List Df) (fu:Int)
end
end Go.Proofs.YtgonmmckkikmaaaGreat
namespace Go.Proofs.YtgonmmckkikmaaaGreat
open Go.Pv
theorem rRight_eq(op:Int)(kids:List Ex):rRight_r0 op kids=eRight_r0 op kids:=by
 have h:op<1∨26<op∨op=1∨op=2∨op=3∨op=4∨op=5∨op=6∨op=7∨op=8∨op=9∨op=10∨op=11∨op=12∨op=13∨op=14∨op=15∨op=16∨op=17∨op=18∨op=19∨op=20∨op=21∨op=22∨op=23∨op=24∨op=25∨op=26:=by omega
 rcases h with h | h | rfl | rfl | rfl | rfl | rfl | rfl | rfl | rfl | rfl | rfl | rfl | rfl | rfl | rfl | rfl | rfl | rfl | rfl | rfl | rfl | rfl | rfl | rfl | rfl | rfl | rfl
 ·unfold rRight_r0 eRight_r0
  simp only [show ¬op=1 by omega,show ¬op=2 by omega,show ¬op=3 by omega,show ¬op=4 by omega,show ¬op=5 by omega,show ¬op=6 by omega,show ¬op=7 by omega,show ¬op=8 by omega,show ¬op=9 by omega,show ¬op=10 by omega,show ¬op=11 by omega,show ¬op=12 by omega,show ¬op=13 by omega,show ¬op=14 by omega,show ¬op=15 by omega,show ¬op=16 by omega,show ¬op=17 by omega,show ¬op=18 by omega,show ¬op=19 by omega,show ¬op=20 by omega,show ¬op=21 by omega,show ¬op=22 by omega,show ¬op=23 by omega,show ¬op=24 by omega,show ¬op=25 by omega,show ¬op=26 by omega,show ¬op>=1 by omega,if_false]
 ·unfold rRight_r0 eRight_r0
  simp only [show ¬op=1 by omega,show ¬op=2 by omega,show ¬op=3 by omega,show ¬op=4 by omega,show ¬op=5 by omega,show ¬op=6 by omega,show ¬op=7 by omega,show ¬op=8 by omega,show ¬op=9 by omega,show ¬op=10 by omega,show ¬op=11 by omega,show ¬op=12 by omega,show ¬op=13 by omega,show ¬op=14 by omega,show ¬op=15 by omega,show ¬op=16 by omega,show ¬op=17 by omega,show ¬op=18 by omega,show ¬op=19 by omega,show ¬op=20 by omega,show ¬op=21 by omega,show ¬op=22 by omega,show ¬op=23 by omega,show ¬op=24 by omega,show ¬op=25 by omega,show ¬op=26 by omega,show op>=1 by omega,show ¬op<=26 by omega,if_false,if_true]
 all_goals rfl
theorem bnds_len:∀ (ns:List BA) (vs:List Vl) (acc:List Bd),(bnds ns vs acc).length<=ns.length+acc.length
 | [],vs,acc=>by rw [bnds]; simp; simp
 | n::r,[],acc=>by rw [show bnds (n::r) [] acc=acc from rfl]; omega
 | n::r,v::vs,acc=>by
  rw [bnds]
  have:=bnds_len r vs (.mk n v::acc)
  simp only [List.length_cons] at this ⊢
  omega
end Go.Proofs.YtgonmmckkikmaaaGreat
