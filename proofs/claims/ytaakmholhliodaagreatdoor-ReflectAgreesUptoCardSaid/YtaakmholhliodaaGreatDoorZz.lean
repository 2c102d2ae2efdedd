/- ReflectAgrees returns true for every module; its argument reads afterwards as before. Condition: the argument and the listed variable are together of bulk at most 1048576; the listed variable holds its texts when the call begins (tied to the program's text by the card). -/
import Derived.Test.YtaakmholhliodaaGreatDoorCards
import Derived.Test.YtaakmholhliodaaGreatDoorTie
import Derived.Test.YtaakmholhliodaaGreatDoorYa
import Derived.Test.YtaakmholhliodaaGreatDoorZj
import Derived.Test.YtaakmholhliodaaGreatDoorYh
set_option linter.unusedSectionVars false
set_option linter.unusedSimpArgs false
set_option linter.unusedVariables false
namespace Go.Proofs.YtaakmholhliodaaGreatDoor
open Go.Pv
open Go.ChangeShapes Go.WideShapes Go.ChangeAt Go.RowKit
set_option maxRecDepth 100000
theorem reag_met(os:Os):laidMet Tryz.prog Rows.reflectAgreesUptoRow.laid ((laidWorld os).forCall (fun _ _=>0) ⟨#[],#[.agg #[.slice none 0 0,.slice none 0 0,.slice none 0 0,.slice none 0 0,.slice none 0 0,.slice none 0 0]],[]⟩).memory:=
 laidMet_of_run' 8 (by kernel_rfl) (by kernel_rfl)
theorem reag_reads(os:Os){H:Type}(enc:TypeId × Value->H):∃places,DataW.whole enc Tryz.prog ((laidWorld os).forCall (fun _ _=>0) ⟨#[],#[.agg #[.slice none 0 0,.slice none 0 0,.slice none 0 0,.slice none 0 0,.slice none 0 0,.slice none 0 0]],[]⟩).memory Tryz.f4.params.toList Rows.reflectAgreesSpec.vars false (#[.agg #[.slice none 0 0,.slice none 0 0,.slice none 0 0,.slice none 0 0,.slice none 0 0,.slice none 0 0]]:Array Value).toList 8=some ([.agg [.nil,.nil,.nil,.nil,.nil,.nil]],[],places):=
 ⟨[],by kernel_rfl⟩
theorem reag_lifted(os:Os)(started:os.Started)(H:Type)(enc:TypeId × Value->H)(F:Stop.Interp) :
  ReturnsInHanded {} Tryz.checked os 4 .any ((Rows.OpenSpec.upto Rows.reflectAgreesSpec).preRow enc Tryz.prog Tryz.f4 Rows.reflectAgreesUptoRow.domain false Rows.reflectAgreesUptoRow.laid) (((Rows.OpenSpec.upto Rows.reflectAgreesSpec).at F).post enc Tryz.prog Tryz.f4 false true false false):=by
 obtain ⟨places,hx⟩:=reag_reads os enc
 refine returnsInHanded_of_row (C:=Tryz.checked) (s:=Rows.OpenSpec.upto Rows.reflectAgreesSpec) own started (by kernel_rfl) Tryz.func4
  (witness_row_at (enc:=enc) (C:=Tryz.checked) false (laidWorld os) #[.agg #[.slice none 0 0,.slice none 0 0,.slice none 0 0,.slice none 0 0,.slice none 0 0,.slice none 0 0]] rfl (by kernel_rfl) (by kernel_rfl) (by kernel_rfl)
   (OpenSpec.preRow_of_cond 8 hx (by kernel_rfl) (fun k hk=>by cases hk; kernel_rfl) (by kernel_rfl) (reag_met os))) ?_
 intro W base args ds gs before hval hW _ hcond _ hL _ _
 refine law_contract (P:=Tryz.prog) (tb:=4) (s:=Rows.reflectAgreesSpec) (reachT Tryz.prog 12 [29]) (by kernel_rfl) laidOut (by kernel_rfl) (by kernel_rfl) Tryz.underlying4 rfl ?_ hval hW (gokD hL) ?_
 ·intro ds hd
  rw [Tryz.params4] at hd
  match ds,hd with
  | [_],_=>rfl
 ·intro css hty hb
  have hb':=small_le (hcond _ rfl)
  rw [Tryz.params4] at hty ⊢
  match css,hty with
  | [c0],⟨⟨n0,h0⟩,_⟩=>
   obtain ⟨m,rfl⟩:=ty_Mo h0
   simp only [bulkPss] at hb
   have e:argPVs Tryz.prog [29] [moL m]=[.agg (moL m)]:=by
    first | (simp only [argPVs,argPV,Tryz.underlying29]; done) | (simp only [argPVs,argPV,Tryz.underlying29]; rfl)
   have:=agrees_all m (by omega)
   rw [<-e] at this
   exact this
theorem reflectAgrees_said:Rows.ReflectAgreesUptoSaid:=
 OpenClaim.holds_of_cond 4 Tryz.f4 rfl rfl rfl rfl rfl rfl rfl ⟨rfl,rfl,rfl,rfl,rfl⟩ rfl rfl rfl rfl rfl reag6 Tryz.func4 reag5 reag7 reag8
  (fun os started H enc _ F=>by rw [OpenClaim.pre_eq_preRow]; exact reag_lifted os started H enc F)
theorem reag_plain (f:FuncId) (fn:Func) (hf:Tryz.pinned.checked.prog.funcNamed "liquidcheck/liquidchecklaw40.ReflectAgrees" = some f) (hfn:Tryz.pinned.checked.prog.funcs[f]?=some fn) :
  false=Tryz.pinned.checked.prog.looks []/\∀ (j:Nat) t,fn.params[j]?=some t->Tryz.pinned.checked.prog.wantsStandIn t=false:=by
 obtain rfl:f=4:=Option.some.inj ((show Tryz.prog.funcNamed "liquidcheck/liquidchecklaw40.ReflectAgrees" = some 4 by kernel_rfl).symm.trans hf) |>.symm
 obtain rfl:fn=Tryz.f4:=(Option.some.inj (Tryz.func4.symm.trans hfn)).symm
 refine ⟨by kernel_rfl,fun j t ht=>?_⟩
 rw [Tryz.params4] at ht
 have hm:=Array.mem_of_getElem? ht
 have:t=29:=by simpa using hm
 subst this
 exact (show Tryz.prog.wantsStandIn 29=false by kernel_rfl)
theorem reflectAgrees_holds:Rows.ReflectAgreesUptoCardSaid:=
 Claim7.holds_tied_plain_at .later [] _ _ _ _ reflectAgrees_said (fun _ h=>by cases h) (by kernel_rfl) (fun _ h=>by cases h) reflectAgreesUpto_row_tie rfl ⟨rfl,rfl⟩ (by kernel_rfl) rfl reag_plain (by kernel_rfl)
#print axioms reflectAgrees_holds
end Go.Proofs.YtaakmholhliodaaGreatDoor
