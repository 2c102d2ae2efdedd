/- ScopeSpoils returns true for every input; its arguments read afterwards as before. Condition: the arguments and the listed variable are together of bulk at most 1048576; the listed variable holds its texts when the call begins (tied to the program's text by the card). -/
import Derived.Test.YtmllcplaohkjnaaGreatDoorCards
import Derived.Test.YtmllcplaohkjnaaGreatDoorTie
import Derived.Test.YtmllcplaohkjnaaGreatDoorYa
import Derived.Test.YtmllcplaohkjnaaGreatDoorZj
import Derived.Test.YtmllcplaohkjnaaGreatDoorYn
set_option linter.unusedSectionVars false
set_option linter.unusedSimpArgs false
set_option linter.unusedVariables false
namespace Go.Proofs.YtmllcplaohkjnaaGreatDoor
open Go.Pv
open Go.ChangeShapes Go.WideShapes Go.ChangeAt Go.RowKit
set_option maxRecDepth 100000
theorem scsp_met(os:Os):laidMet Tryz.prog Rows.scopeSpoilsUptoRow.laid ((laidWorld os).forCall (fun _ _=>0) ⟨#[],#[.agg #[.slice none 0 0,.slice none 0 0,.slice none 0 0,.slice none 0 0,.slice none 0 0,.slice none 0 0]],[]⟩).memory:=
 laidMet_of_run' 8 (by kernel_rfl) (by kernel_rfl)
theorem scsp_reads(os:Os){H:Type}(enc:TypeId × Value->H):∃places,DataW.whole enc Tryz.prog ((laidWorld os).forCall (fun _ _=>0) ⟨#[],#[.agg #[.slice none 0 0,.slice none 0 0,.slice none 0 0,.slice none 0 0,.slice none 0 0,.slice none 0 0]],[]⟩).memory Tryz.f5.params.toList Rows.scopeSpoilsSpec.vars false (#[.agg #[.slice none 0 0,.slice none 0 0,.slice none 0 0,.slice none 0 0,.slice none 0 0,.slice none 0 0]]:Array Value).toList 8=some ([.agg [.nil,.nil,.nil,.nil,.nil,.nil]],[],places):=
 ⟨[],by kernel_rfl⟩
theorem scsp_lifted(os:Os)(started:os.Started)(H:Type)(enc:TypeId × Value->H)(F:Stop.Interp) :
  ReturnsInHanded {} Tryz.checked os 5 .any ((Rows.OpenSpec.upto Rows.scopeSpoilsSpec).preRow enc Tryz.prog Tryz.f5 Rows.scopeSpoilsUptoRow.domain false Rows.scopeSpoilsUptoRow.laid) (((Rows.OpenSpec.upto Rows.scopeSpoilsSpec).at F).post enc Tryz.prog Tryz.f5 false true false false):=by
 obtain ⟨places,hx⟩:=scsp_reads os enc
 refine returnsInHanded_of_row (C:=Tryz.checked) (s:=Rows.OpenSpec.upto Rows.scopeSpoilsSpec) own started (by kernel_rfl) Tryz.func5
  (witness_row_at (enc:=enc) (C:=Tryz.checked) false (laidWorld os) #[.agg #[.slice none 0 0,.slice none 0 0,.slice none 0 0,.slice none 0 0,.slice none 0 0,.slice none 0 0]] rfl (by kernel_rfl) (by kernel_rfl) (by kernel_rfl)
   (OpenSpec.preRow_of_cond 8 hx (by kernel_rfl) (fun k hk=>by cases hk; kernel_rfl) (by kernel_rfl) (scsp_met os))) ?_
 intro W base args ds gs before hval hW _ hcond _ hL _ _
 refine law_contract (P:=Tryz.prog) (tb:=4) (s:=Rows.scopeSpoilsSpec) (reachT Tryz.prog 12 [29]) (by kernel_rfl) laidOut (by kernel_rfl) (by kernel_rfl) Tryz.underlying4 rfl ?_ hval hW (gokD hL) ?_
 ·intro ds hd
  rw [Tryz.params5] at hd
  match ds,hd with
  | [_],_=>rfl
 ·intro css hty hb
  have hb':=small_le (hcond _ rfl)
  rw [Tryz.params5] at hty ⊢
  match css,hty with
  | [c0],⟨⟨n0,h0⟩,_⟩=>
   obtain ⟨m,rfl⟩:=ty_Mo h0
   simp only [bulkPss] at hb
   have e:argPVs Tryz.prog [29] [moL m]=[.agg (moL m)]:=by
    simp only [argPVs,argPV,Tryz.underlying29]
   have:=spoils_true m (by omega)
   rw [<-e] at this
   exact this
theorem scopeSpoils_said:Rows.ScopeSpoilsUptoSaid:=
 OpenClaim.holds_of_cond 5 Tryz.f5 rfl rfl rfl rfl rfl rfl rfl ⟨rfl,rfl,rfl,rfl,rfl⟩ rfl rfl rfl rfl rfl scsp6 Tryz.func5 scsp5 scsp7 scsp8
  (fun os started H enc _ F=>by rw [OpenClaim.pre_eq_preRow]; exact scsp_lifted os started H enc F)
theorem scsp_plain (f:FuncId) (fn:Func) (hf:Tryz.pinned.checked.prog.funcNamed "liquidcheck/liquidchecklaw23.ScopeSpoils" = some f) (hfn:Tryz.pinned.checked.prog.funcs[f]?=some fn) :
  false=Tryz.pinned.checked.prog.looks []/\∀ (j:Nat) t,fn.params[j]?=some t->Tryz.pinned.checked.prog.wantsStandIn t=false:=by
 obtain rfl:f=5:=Option.some.inj ((show Tryz.prog.funcNamed "liquidcheck/liquidchecklaw23.ScopeSpoils" = some 5 by kernel_rfl).symm.trans hf) |>.symm
 obtain rfl:fn=Tryz.f5:=(Option.some.inj (Tryz.func5.symm.trans hfn)).symm
 refine ⟨by kernel_rfl,fun j t ht=>?_⟩
 rw [Tryz.params5] at ht
 have hm:=Array.mem_of_getElem? ht
 have:t=29:=by simpa using hm
 subst this
 exact (show Tryz.prog.wantsStandIn 29=false by kernel_rfl)
theorem scopeSpoils_holds:Rows.ScopeSpoilsUptoCardSaid:=
 Claim7.holds_tied_plain_at .later [] _ _ _ _ scopeSpoils_said (fun _ h=>by cases h) (by kernel_rfl) (fun _ h=>by cases h) scopeSpoilsUpto_row_tie rfl ⟨rfl,rfl⟩ (by kernel_rfl) rfl scsp_plain (by kernel_rfl)
#print axioms scopeSpoils_holds
end Go.Proofs.YtmllcplaohkjnaaGreatDoor
