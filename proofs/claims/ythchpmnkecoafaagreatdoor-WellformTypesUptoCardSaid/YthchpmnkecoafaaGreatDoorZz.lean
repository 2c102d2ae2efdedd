/- WellformTypes returns true for every environment, module and type; its arguments read afterwards as before. Condition: the arguments and the listed variable are together of bulk at most 1048576; the listed variable holds its texts when the call begins (tied to the program's text by the card). -/
import Derived.Test.YthchpmnkecoafaaGreatDoorCards
import Derived.Test.YthchpmnkecoafaaGreatDoorTie
import Derived.Test.YthchpmnkecoafaaGreatDoorYa
import Derived.Test.YthchpmnkecoafaaGreatDoorZj
import Derived.Test.YthchpmnkecoafaaGreatDoorYm
set_option linter.unusedSectionVars false
set_option linter.unusedSimpArgs false
set_option linter.unusedVariables false
namespace Go.Proofs.YthchpmnkecoafaaGreatDoor
open Go.Pv
open Go.ChangeShapes Go.WideShapes Go.ChangeAt Go.RowKit
set_option maxRecDepth 100000
theorem eH(os:Os):laidMet Tryz.prog Rows.wellformTypesUptoRow.laid ((Lm os).forCall (fun _ _=>0) ⟨#[],#[.agg #[.slice none 0 0,.slice none 0 0,.slice none 0 0],.agg #[.slice none 0 0,.slice none 0 0,.slice none 0 0,.slice none 0 0,.slice none 0 0,.slice none 0 0],.agg #[.int .i64 0,.string ⟨#[]⟩,.slice none 0 0,.slice none 0 0,.int .i64 0,.string ⟨#[]⟩,.int .i64 0,.slice none 0 0,.slice none 0 0]],[]⟩).memory:=
 laidMet_of_run' 8 (by kernel_rfl) (by kernel_rfl)
theorem TF(os:Os){H:Type}(enc:TypeId × Value->H):∃places,DataW.whole enc Tryz.prog ((Lm os).forCall (fun _ _=>0) ⟨#[],#[.agg #[.slice none 0 0,.slice none 0 0,.slice none 0 0],.agg #[.slice none 0 0,.slice none 0 0,.slice none 0 0,.slice none 0 0,.slice none 0 0,.slice none 0 0],.agg #[.int .i64 0,.string ⟨#[]⟩,.slice none 0 0,.slice none 0 0,.int .i64 0,.string ⟨#[]⟩,.int .i64 0,.slice none 0 0,.slice none 0 0]],[]⟩).memory Tryz.f3.params.toList Rows.wellformTypesSpec.vars false (#[.agg #[.slice none 0 0,.slice none 0 0,.slice none 0 0],.agg #[.slice none 0 0,.slice none 0 0,.slice none 0 0,.slice none 0 0,.slice none 0 0,.slice none 0 0],.agg #[.int .i64 0,.string ⟨#[]⟩,.slice none 0 0,.slice none 0 0,.int .i64 0,.string ⟨#[]⟩,.int .i64 0,.slice none 0 0,.slice none 0 0]]:Array Value).toList 8=some ([.agg [.nil,.nil,.nil],.agg [.nil,.nil,.nil,.nil,.nil,.nil],.agg [.lit (.int .i64 0),.lit (.string []),.nil,.nil,.agg [.lit (.int .i64 0),.lit (.string []),.lit (.int .i64 0),.nil],.nil]],[],places):=
 ⟨[],by kernel_rfl⟩
theorem Sk(os:Os)(started:os.Started)(H:Type)(enc:TypeId × Value->H)(F:Stop.Interp) :
  ReturnsInHanded {} Tryz.checked os 3 .any ((Rows.OpenSpec.upto Rows.wellformTypesSpec).preRow enc Tryz.prog Tryz.f3 Rows.wellformTypesUptoRow.domain false Rows.wellformTypesUptoRow.laid) (((Rows.OpenSpec.upto Rows.wellformTypesSpec).at F).post enc Tryz.prog Tryz.f3 false true false false):=by
 obtain ⟨places,hx⟩:=TF os enc
 refine returnsInHanded_of_row (C:=Tryz.checked) (s:=Rows.OpenSpec.upto Rows.wellformTypesSpec) own started (by kernel_rfl) Tryz.func3
  (witness_row_at (enc:=enc) (C:=Tryz.checked) false (Lm os) #[.agg #[.slice none 0 0,.slice none 0 0,.slice none 0 0],.agg #[.slice none 0 0,.slice none 0 0,.slice none 0 0,.slice none 0 0,.slice none 0 0,.slice none 0 0],.agg #[.int .i64 0,.string ⟨#[]⟩,.slice none 0 0,.slice none 0 0,.int .i64 0,.string ⟨#[]⟩,.int .i64 0,.slice none 0 0,.slice none 0 0]] rfl (by kernel_rfl) (by kernel_rfl) (by kernel_rfl)
   (OpenSpec.preRow_of_cond 8 hx (by kernel_rfl) (fun k hk=>by cases hk; kernel_rfl) (by kernel_rfl) (eH os))) ?_
 intro W base args ds gs before Li hW _ A9k _ hL _ _
 refine Qn (P:=Tryz.prog) (tb:=4) (s:=Rows.wellformTypesSpec) (YS Tryz.prog 12 [26,34,43]) (by kernel_rfl) laidOut (by kernel_rfl) (by kernel_rfl) Tryz.underlying4 rfl ?_ Li hW (Aaa hL) ?_
 ·intro ds hd
  rw [Tryz.params3] at hd
  match ds,hd with
  | [_,_,_],_=>rfl
 ·intro RK gA hb
  have GY:=YU (A9k _ rfl)
  rw [Tryz.params3] at gA ⊢
  match RK,gA with
  | [c0,c1,c2],⟨⟨n0,h0⟩,⟨n1,h1⟩,⟨n2,h2⟩,_⟩=>
   obtain ⟨v,rfl⟩:=A1y h0
   obtain ⟨m,rfl⟩:=A1v h1
   obtain ⟨t,rfl⟩:=Nb _ _ h2
   simp only [Am] at hb
   have e:Lh Tryz.prog [26,34,43] [Bd v,Ci m,Ay t]=[.agg (Bd v),.agg (Ci m),.agg (Ay t)]:=by
    first | (simp only [Lh,N5,Tryz.underlying26,Tryz.underlying34,Tryz.underlying43]; done) | (simp only [Lh,N5,Tryz.underlying26,Tryz.underlying34,Tryz.underlying43]; rfl)
   have:=TE m v t (by omega)
   rw [<-e] at this
   exact this
theorem K8:Rows.WellformTypesUptoSaid:=
 OpenClaim.holds_of_cond 3 Tryz.f3 rfl rfl rfl rfl rfl rfl rfl ⟨rfl,rfl,rfl,rfl,rfl⟩ rfl rfl rfl rfl rfl A9h Tryz.func3 A9g A9i A9j
  (fun os started H enc _ F=>by rw [OpenClaim.pre_eq_preRow]; exact Sk os started H enc F)
theorem TG (f:FuncId) (fn:Func) (hf:Tryz.pinned.checked.prog.funcNamed "liquidcheck/liquidchecklaw33.WellformTypes" = some f) (Lz:Tryz.pinned.checked.prog.funcs[f]?=some fn) :
  false=Tryz.pinned.checked.prog.looks []/\∀ (j:Nat) t,fn.params[j]?=some t->Tryz.pinned.checked.prog.wantsStandIn t=false:=by
 obtain rfl:f=3:=Option.some.inj ((show Tryz.prog.funcNamed "liquidcheck/liquidchecklaw33.WellformTypes" = some 3 by kernel_rfl).symm.trans hf) |>.symm
 obtain rfl:fn=Tryz.f3:=(Option.some.inj (Tryz.func3.symm.trans Lz)).symm
 refine ⟨by kernel_rfl,fun j t ht=>?_⟩
 rw [Tryz.params3] at ht
 have hm:=Array.mem_of_getElem? ht
 have:t=26∨t=34∨t=43:=by simpa using hm
 rcases this with rfl | rfl | rfl
 ·exact (show Tryz.prog.wantsStandIn 26=false by kernel_rfl)
 ·exact (show Tryz.prog.wantsStandIn 34=false by kernel_rfl)
 ·exact (show Tryz.prog.wantsStandIn 43=false by kernel_rfl)
theorem wellformTypes_holds:Rows.WellformTypesUptoCardSaid:=
 Claim7.holds_tied_plain_at .later [] _ _ _ _ K8 (fun _ h=>by cases h) (by kernel_rfl) (fun _ h=>by cases h) wellformTypesUpto_row_tie rfl ⟨rfl,rfl⟩ (by kernel_rfl) rfl TG (by kernel_rfl)
#print axioms wellformTypes_holds
end Go.Proofs.YthchpmnkecoafaaGreatDoor
