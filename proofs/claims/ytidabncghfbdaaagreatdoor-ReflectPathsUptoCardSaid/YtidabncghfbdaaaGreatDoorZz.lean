/- ReflectPaths returns true for every module, every number and every input; its arguments read afterwards as before. Condition: the arguments and the listed variable are together of bulk at most 1048576; the listed variable holds its texts when the call begins (tied to the program's text by the card). -/
import Derived.Test.YtidabncghfbdaaaGreatDoorCards
import Derived.Test.YtidabncghfbdaaaGreatDoorTie
import Derived.Test.YtidabncghfbdaaaGreatDoorYa
import Derived.Test.YtidabncghfbdaaaGreatDoorZj
import Derived.Test.YtidabncghfbdaaaGreatDoorYi
set_option linter.unusedSectionVars false
set_option linter.unusedSimpArgs false
set_option linter.unusedVariables false
namespace Go.Proofs.YtidabncghfbdaaaGreatDoor
open Go.Pv
open Go.ChangeShapes Go.WideShapes Go.ChangeAt Go.RowKit
set_option maxRecDepth 100000
theorem repa_met(os:Os):laidMet Tryz.prog Rows.reflectPathsUptoRow.laid ((laidWorld os).forCall (fun _ _=>0) ⟨#[],#[.agg #[.slice none 0 0,.slice none 0 0,.slice none 0 0,.slice none 0 0,.slice none 0 0,.slice none 0 0],.int .u8 0,.agg #[.slice none 0 0,.slice none 0 0]],[]⟩).memory:=
 laidMet_of_run' 8 (by kernel_rfl) (by kernel_rfl)
theorem repa_reads(os:Os){H:Type}(enc:TypeId × Value->H):∃places,DataW.whole enc Tryz.prog ((laidWorld os).forCall (fun _ _=>0) ⟨#[],#[.agg #[.slice none 0 0,.slice none 0 0,.slice none 0 0,.slice none 0 0,.slice none 0 0,.slice none 0 0],.int .u8 0,.agg #[.slice none 0 0,.slice none 0 0]],[]⟩).memory Tryz.f4.params.toList Rows.reflectPathsSpec.vars false (#[.agg #[.slice none 0 0,.slice none 0 0,.slice none 0 0,.slice none 0 0,.slice none 0 0,.slice none 0 0],.int .u8 0,.agg #[.slice none 0 0,.slice none 0 0]]:Array Value).toList 8=some ([.agg [.nil,.nil,.nil,.nil,.nil,.nil],.lit (.int .u8 0),.agg [.nil,.nil]],[],places):=
 ⟨[],by kernel_rfl⟩
theorem repa_lifted(os:Os)(started:os.Started)(H:Type)(enc:TypeId × Value->H)(F:Stop.Interp) :
  ReturnsInHanded {} Tryz.checked os 4 .any ((Rows.OpenSpec.upto Rows.reflectPathsSpec).preRow enc Tryz.prog Tryz.f4 Rows.reflectPathsUptoRow.domain false Rows.reflectPathsUptoRow.laid) (((Rows.OpenSpec.upto Rows.reflectPathsSpec).at F).post enc Tryz.prog Tryz.f4 false true false false):=by
 obtain ⟨places,hx⟩:=repa_reads os enc
 refine returnsInHanded_of_row (C:=Tryz.checked) (s:=Rows.OpenSpec.upto Rows.reflectPathsSpec) own started (by kernel_rfl) Tryz.func4
  (witness_row_at (enc:=enc) (C:=Tryz.checked) false (laidWorld os) #[.agg #[.slice none 0 0,.slice none 0 0,.slice none 0 0,.slice none 0 0,.slice none 0 0,.slice none 0 0],.int .u8 0,.agg #[.slice none 0 0,.slice none 0 0]] rfl (by kernel_rfl) (by kernel_rfl) (by kernel_rfl)
   (OpenSpec.preRow_of_cond 8 hx (by kernel_rfl) (fun k hk=>by cases hk; kernel_rfl) (by kernel_rfl) (repa_met os))) ?_
 intro W base args ds gs before hval hW _ hcond _ hL _ _
 refine law_contract (P:=Tryz.prog) (tb:=4) (s:=Rows.reflectPathsSpec) (reachT Tryz.prog 12 [29,5,67]) (by kernel_rfl) laidOut (by kernel_rfl) (by kernel_rfl) Tryz.underlying4 rfl ?_ hval hW (gokD hL) ?_
 ·intro ds hd
  rw [Tryz.params4] at hd
  match ds,hd with
  | [_,_,_],_=>rfl
 ·intro css hty hb
  have hb':=small_le (hcond _ rfl)
  rw [Tryz.params4] at hty ⊢
  match css,hty with
  | [c0,c1,c2],⟨⟨n0,h0⟩,⟨n1,h1⟩,⟨n2,h2⟩,_⟩=>
   obtain ⟨m,rfl⟩:=ty_Mo h0
   obtain ⟨v,rfl,hv⟩:=ty_int Tryz.underlying5 h1
   obtain ⟨t,rfl,ht⟩:=u8_nat hv
   obtain ⟨ia,ip,rfl⟩:=ty_Ip h2
   simp only [bulkPss] at hb
   have e:argPVs Tryz.prog [29,5,67] [moL m,[.int .u8 (t:Int)],[.sl 1 (ntC ia),.sl 3 (Fc.cs ip)]]=[.agg (moL m),.int .u8 (t:Int),.agg [.sl 1 (ntC ia),.sl 3 (Fc.cs ip)]]:=by
    first | (simp only [argPVs,argPV,Tryz.underlying29,Tryz.underlying5,Tryz.underlying67]; done) | (simp only [argPVs,argPV,Tryz.underlying29,Tryz.underlying5,Tryz.underlying67]; rfl)
   have:=paths_all m t ht ia ip (by omega) (by omega)
   rw [<-e] at this
   exact this
theorem reflectPaths_said:Rows.ReflectPathsUptoSaid:=
 OpenClaim.holds_of_cond 4 Tryz.f4 rfl rfl rfl rfl rfl rfl rfl ⟨rfl,rfl,rfl,rfl,rfl⟩ rfl rfl rfl rfl rfl repa6 Tryz.func4 repa5 repa7 repa8
  (fun os started H enc _ F=>by rw [OpenClaim.pre_eq_preRow]; exact repa_lifted os started H enc F)
theorem repa_plain (f:FuncId) (fn:Func) (hf:Tryz.pinned.checked.prog.funcNamed "liquidcheck/liquidchecklaw40.ReflectPaths" = some f) (hfn:Tryz.pinned.checked.prog.funcs[f]?=some fn) :
  false=Tryz.pinned.checked.prog.looks []/\∀ (j:Nat) t,fn.params[j]?=some t->Tryz.pinned.checked.prog.wantsStandIn t=false:=by
 obtain rfl:f=4:=Option.some.inj ((show Tryz.prog.funcNamed "liquidcheck/liquidchecklaw40.ReflectPaths" = some 4 by kernel_rfl).symm.trans hf) |>.symm
 obtain rfl:fn=Tryz.f4:=(Option.some.inj (Tryz.func4.symm.trans hfn)).symm
 refine ⟨by kernel_rfl,fun j t ht=>?_⟩
 rw [Tryz.params4] at ht
 have hm:=Array.mem_of_getElem? ht
 have:t=29∨t=5∨t=67:=by simpa using hm
 rcases this with rfl | rfl | rfl
 ·exact (show Tryz.prog.wantsStandIn 29=false by kernel_rfl)
 ·exact (show Tryz.prog.wantsStandIn 5=false by kernel_rfl)
 ·exact (show Tryz.prog.wantsStandIn 67=false by kernel_rfl)
theorem reflectPaths_holds:Rows.ReflectPathsUptoCardSaid:=
 Claim7.holds_tied_plain_at .later [] _ _ _ _ reflectPaths_said (fun _ h=>by cases h) (by kernel_rfl) (fun _ h=>by cases h) reflectPathsUpto_row_tie rfl ⟨rfl,rfl⟩ (by kernel_rfl) rfl repa_plain (by kernel_rfl)
#print axioms reflectPaths_holds
end Go.Proofs.YtidabncghfbdaaaGreatDoor
