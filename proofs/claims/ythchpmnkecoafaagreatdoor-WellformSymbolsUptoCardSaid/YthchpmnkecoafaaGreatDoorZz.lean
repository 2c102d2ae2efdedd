/- WellformSymbols returns true for every environment, module and type; its arguments read afterwards as before. Condition: the arguments and the listed variable are together of bulk at most 1048576; the listed variable holds its texts when the call begins (tied to the program's text by the card). -/
import Derived.Test.YthchpmnkecoafaaGreatDoorCards
import Derived.Test.YthchpmnkecoafaaGreatDoorTie
import Derived.Test.YthchpmnkecoafaaGreatDoorYa
import Derived.Test.YthchpmnkecoafaaGreatDoorZj
import Derived.Test.YthchpmnkecoafaaGreatDoorYi
set_option linter.unusedSectionVars false
set_option linter.unusedSimpArgs false
set_option linter.unusedVariables false
namespace Go.Proofs.YthchpmnkecoafaaGreatDoor
open Go.Pv
open Go.ChangeShapes Go.WideShapes Go.ChangeAt Go.RowKit
set_option maxRecDepth 100000
theorem wesy_met(os:Os):laidMet Tryz.prog Rows.wellformSymbolsUptoRow.laid ((laidWorld os).forCall (fun _ _=>0) ⟨#[],#[.agg #[.slice none 0 0,.slice none 0 0,.slice none 0 0],.agg #[.slice none 0 0,.slice none 0 0,.slice none 0 0,.slice none 0 0,.slice none 0 0,.slice none 0 0],.agg #[.int .i64 0,.string ⟨#[]⟩,.slice none 0 0,.slice none 0 0,.int .i64 0,.string ⟨#[]⟩,.int .i64 0,.slice none 0 0,.slice none 0 0]],[]⟩).memory:=
 laidMet_of_run' 8 (by kernel_rfl) (by kernel_rfl)
theorem wesy_reads(os:Os){H:Type}(enc:TypeId × Value->H):∃places,DataW.whole enc Tryz.prog ((laidWorld os).forCall (fun _ _=>0) ⟨#[],#[.agg #[.slice none 0 0,.slice none 0 0,.slice none 0 0],.agg #[.slice none 0 0,.slice none 0 0,.slice none 0 0,.slice none 0 0,.slice none 0 0,.slice none 0 0],.agg #[.int .i64 0,.string ⟨#[]⟩,.slice none 0 0,.slice none 0 0,.int .i64 0,.string ⟨#[]⟩,.int .i64 0,.slice none 0 0,.slice none 0 0]],[]⟩).memory Tryz.f6.params.toList Rows.wellformSymbolsSpec.vars false (#[.agg #[.slice none 0 0,.slice none 0 0,.slice none 0 0],.agg #[.slice none 0 0,.slice none 0 0,.slice none 0 0,.slice none 0 0,.slice none 0 0,.slice none 0 0],.agg #[.int .i64 0,.string ⟨#[]⟩,.slice none 0 0,.slice none 0 0,.int .i64 0,.string ⟨#[]⟩,.int .i64 0,.slice none 0 0,.slice none 0 0]]:Array Value).toList 8=some ([.agg [.nil,.nil,.nil],.agg [.nil,.nil,.nil,.nil,.nil,.nil],.agg [.lit (.int .i64 0),.lit (.string []),.nil,.nil,.agg [.lit (.int .i64 0),.lit (.string []),.lit (.int .i64 0),.nil],.nil]],[],places):=
 ⟨[],by kernel_rfl⟩
theorem wesy_lifted(os:Os)(started:os.Started)(H:Type)(enc:TypeId × Value->H)(F:Stop.Interp) :
  ReturnsInHanded {} Tryz.checked os 6 .any ((Rows.OpenSpec.upto Rows.wellformSymbolsSpec).preRow enc Tryz.prog Tryz.f6 Rows.wellformSymbolsUptoRow.domain false Rows.wellformSymbolsUptoRow.laid) (((Rows.OpenSpec.upto Rows.wellformSymbolsSpec).at F).post enc Tryz.prog Tryz.f6 false true false false):=by
 obtain ⟨places,hx⟩:=wesy_reads os enc
 refine returnsInHanded_of_row (C:=Tryz.checked) (s:=Rows.OpenSpec.upto Rows.wellformSymbolsSpec) own started (by kernel_rfl) Tryz.func6
  (witness_row_at (enc:=enc) (C:=Tryz.checked) false (laidWorld os) #[.agg #[.slice none 0 0,.slice none 0 0,.slice none 0 0],.agg #[.slice none 0 0,.slice none 0 0,.slice none 0 0,.slice none 0 0,.slice none 0 0,.slice none 0 0],.agg #[.int .i64 0,.string ⟨#[]⟩,.slice none 0 0,.slice none 0 0,.int .i64 0,.string ⟨#[]⟩,.int .i64 0,.slice none 0 0,.slice none 0 0]] rfl (by kernel_rfl) (by kernel_rfl) (by kernel_rfl)
   (OpenSpec.preRow_of_cond 8 hx (by kernel_rfl) (fun k hk=>by cases hk; kernel_rfl) (by kernel_rfl) (wesy_met os))) ?_
 intro W base args ds gs before hval hW _ hcond _ hL _ _
 refine law_contract (P:=Tryz.prog) (tb:=4) (s:=Rows.wellformSymbolsSpec) (reachT Tryz.prog 12 [26,34,43]) (by kernel_rfl) laidOut (by kernel_rfl) (by kernel_rfl) Tryz.underlying4 rfl ?_ hval hW (gokD hL) ?_
 ·intro ds hd
  rw [Tryz.params6] at hd
  match ds,hd with
  | [_,_,_],_=>rfl
 ·intro css hty hb
  have hb':=small_le (hcond _ rfl)
  rw [Tryz.params6] at hty ⊢
  match css,hty with
  | [c0,c1,c2],⟨⟨n0,h0⟩,⟨n1,h1⟩,⟨n2,h2⟩,_⟩=>
   obtain ⟨v,rfl⟩:=ty_Nv h0
   obtain ⟨m,rfl⟩:=ty_Mo h1
   obtain ⟨t,rfl⟩:=ty_Tp _ _ h2
   simp only [bulkPss] at hb
   have e:argPVs Tryz.prog [26,34,43] [nvL v,moL m,tpL t]=[.agg (nvL v),.agg (moL m),.agg (tpL t)]:=by
    first | (simp only [argPVs,argPV,Tryz.underlying26,Tryz.underlying34,Tryz.underlying43]; done) | (simp only [argPVs,argPV,Tryz.underlying26,Tryz.underlying34,Tryz.underlying43]; rfl)
   have:=symbols_true m v t (by omega)
   rw [<-e] at this
   exact this
theorem wellformSymbols_said:Rows.WellformSymbolsUptoSaid:=
 OpenClaim.holds_of_cond 6 Tryz.f6 rfl rfl rfl rfl rfl rfl rfl ⟨rfl,rfl,rfl,rfl,rfl⟩ rfl rfl rfl rfl rfl wesy6 Tryz.func6 wesy5 wesy7 wesy8
  (fun os started H enc _ F=>by rw [OpenClaim.pre_eq_preRow]; exact wesy_lifted os started H enc F)
theorem wesy_plain (f:FuncId) (fn:Func) (hf:Tryz.pinned.checked.prog.funcNamed "liquidcheck/liquidchecklaw33.WellformSymbols" = some f) (hfn:Tryz.pinned.checked.prog.funcs[f]?=some fn) :
  false=Tryz.pinned.checked.prog.looks []/\∀ (j:Nat) t,fn.params[j]?=some t->Tryz.pinned.checked.prog.wantsStandIn t=false:=by
 obtain rfl:f=6:=Option.some.inj ((show Tryz.prog.funcNamed "liquidcheck/liquidchecklaw33.WellformSymbols" = some 6 by kernel_rfl).symm.trans hf) |>.symm
 obtain rfl:fn=Tryz.f6:=(Option.some.inj (Tryz.func6.symm.trans hfn)).symm
 refine ⟨by kernel_rfl,fun j t ht=>?_⟩
 rw [Tryz.params6] at ht
 have hm:=Array.mem_of_getElem? ht
 have:t=26∨t=34∨t=43:=by simpa using hm
 rcases this with rfl | rfl | rfl
 ·exact (show Tryz.prog.wantsStandIn 26=false by kernel_rfl)
 ·exact (show Tryz.prog.wantsStandIn 34=false by kernel_rfl)
 ·exact (show Tryz.prog.wantsStandIn 43=false by kernel_rfl)
theorem wellformSymbols_holds:Rows.WellformSymbolsUptoCardSaid:=
 Claim7.holds_tied_plain_at .later [] _ _ _ _ wellformSymbols_said (fun _ h=>by cases h) (by kernel_rfl) (fun _ h=>by cases h) wellformSymbolsUpto_row_tie rfl ⟨rfl,rfl⟩ (by kernel_rfl) rfl wesy_plain (by kernel_rfl)
#print axioms wellformSymbols_holds
end Go.Proofs.YthchpmnkecoafaaGreatDoor
