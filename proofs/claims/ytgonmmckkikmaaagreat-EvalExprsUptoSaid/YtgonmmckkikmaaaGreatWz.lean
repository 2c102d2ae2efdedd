/- EvalExprs returns true for every module, expression with bindings and fuel, and number; its arguments read afterwards as before. Condition: the arguments are together of bulk at most 1048576. -/
import Derived.Test.YtgonmmckkikmaaaGreatWb
import Derived.Test.YtgonmmckkikmaaaGreatWj
import Derived.Test.YtgonmmckkikmaaaGreatWa
set_option linter.unusedSectionVars false
set_option linter.unusedSimpArgs false
set_option linter.unusedVariables false
namespace Go.Proofs.YtgonmmckkikmaaaGreat
open Go.Pv
open Go.ChangeShapes Go.WideShapes Go.ChangeAt Go.RowKit
set_option maxRecDepth 100000
theorem exs_lifted (os:Os) (started:os.Started) (H:Type) (enc:TypeId × Value->H) (F:Stop.Interp) :
  ReturnsInHanded {} Tryz.checked os 3 .any ((Rows.OpenSpec.upto Rows.evalExprsSpec).pre6 enc Tryz.prog Tryz.f3 Rows.evalExprsUptoRow.domain false) (((Rows.OpenSpec.upto Rows.evalExprsSpec).at F).post enc Tryz.prog Tryz.f3 false true false false):=by
 refine returnsInHanded_of_cond (C:=Tryz.checked) (s:=Rows.OpenSpec.upto Rows.evalExprsSpec) (k:=Rows.uptoSmall) rfl own started (by kernel_rfl) Tryz.func3
  (OpenSpec.witness (enc:=enc) (C:=Tryz.checked) (s:=Rows.OpenSpec.upto Rows.evalExprsSpec) (k:=Rows.uptoSmall) rfl false ⟨#[],#[.agg #[.slice none 0 0,.slice none 0 0,.slice none 0 0,.slice none 0 0,.slice none 0 0,.slice none 0 0],.agg #[.slice none 0 0,.int .i64 0,.string nm0,.int .i64 0,.slice none 0 0,.slice none 0 0,.slice none 0 0,.slice none 0 0,.int .i64 0],.int .u8 0],[]⟩ 8 (by kernel_rfl) (by kernel_rfl) (by kernel_rfl)
   (x:=([.agg [.nil,.nil,.nil,.nil,.nil,.nil],.agg [.nil,.agg [.lit (.int .i64 0),.lit (.string []),.lit (.int .i64 0),.nil,.nil,.nil,.nil],.lit (.int .i64 0)],.lit (.int .u8 0)],[],[])) (by kernel_rfl) rfl (by kernel_rfl)) ?_
 intro W base args ds gs before hval hW _ hk _
 refine law_contract (P:=Tryz.prog) (tb:=4) (s:=Rows.evalExprsSpec) (reachT Tryz.prog 12 [29,39,5]) (by kernel_rfl) laidOut (by kernel_rfl) (by kernel_rfl) Tryz.underlying4 rfl ?_ hval hW ?_
 ·intro ds hd
  rw [Tryz.params3] at hd
  match ds,hd with
  | [_,_,_],_=>rfl
 ·intro css hty hb
  have hb':=small_le hk
  rw [Tryz.params3] at hty ⊢
  match css,hty with
  | [cm,cw,cx],⟨⟨nm,hm⟩,⟨nw,hw⟩,⟨nx,hx⟩,_⟩=>
   obtain ⟨z0,z1,z2,z3,z4,d0,d1,d2,d3,d4,l,rfl⟩:=ty_mod hm
   obtain ⟨bs,x,fu,rfl⟩:=ty_work hw
   obtain ⟨k,rfl,hwf⟩:=ty_int Tryz.underlying5 hx
   have h1:=mod_bulk d0 d1 d2 d3 d4 z0 z1 z2 z3 z4 l
   have h2:bulkPs (.sl 8 (Bd.cs bs)::(exL x++[.int .i64 fu]))=bulkPss (Bd.cs bs)+1+(szE x+1):=by
    rw [bulkPs,bulkPs_append]; rfl
   simp only [bulkPss] at hb
   have hnx:PV.noX (mdS d0 d1 d2 d3 d4 z0 z1 z2 z3 z4 l)=true:=ty_nx Tryz.prog _ _ _ hm
   have e:argPVs Tryz.prog [29,39,5] [[.sl z0 d0,.sl z1 d1,.sl z2 d2,.sl z3 d3,.sl z4 d4,.sl 25 (dfsC l)],.sl 8 (Bd.cs bs)::(exL x++[.int .i64 fu]),[.int .u8 k]]=[mdS d0 d1 d2 d3 d4 z0 z1 z2 z3 z4 l,.agg (.sl 8 (Bd.cs bs)::(exL x++[.int .i64 fu])),.int .u8 k]:=by
    simp only [argPVs,argPV,Tryz.underlying29,Tryz.underlying39,Tryz.underlying5]; rfl
   have:=exprs_true d0 d1 d2 d3 d4 z0 z1 z2 z3 z4 l hnx (by omega) (bs:=bs) (by omega) (x:=x) (by omega) fu k (u8_le hwf).1 (u8_le hwf).2
   rw [<-e] at this
   exact this
theorem evalExprs_holds:Rows.EvalExprsUptoSaid:=
 OpenClaim.holds_of_cond 3 Tryz.f3 rfl rfl rfl rfl rfl rfl rfl ⟨rfl,rfl,rfl,rfl,rfl⟩ rfl rfl rfl rfl rfl exs6 Tryz.func3 exs5 exs7 exs8
  (fun os started H enc _ F=>exs_lifted os started H enc F)
#print axioms evalExprs_holds
end Go.Proofs.YtgonmmckkikmaaaGreat
