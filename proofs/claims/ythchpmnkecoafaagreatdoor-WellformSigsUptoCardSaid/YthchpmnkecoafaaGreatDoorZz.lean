/- WellformSigs returns true for every module and signature; its arguments read afterwards as before. Condition: the arguments and the listed variable are together of bulk at most 1048576; the listed variable holds its texts when the call begins (tied to the program's text by the card). -/
import Derived.Test.YthchpmnkecoafaaGreatDoorCards
import Derived.Test.YthchpmnkecoafaaGreatDoorTie
import Derived.Test.YthchpmnkecoafaaGreatDoorYa
import Derived.Test.YthchpmnkecoafaaGreatDoorZj
import Derived.Test.YthchpmnkecoafaaGreatDoorYl
set_option linter.unusedSectionVars false
set_option linter.unusedSimpArgs false
set_option linter.unusedVariables false
namespace Go.Proofs.YthchpmnkecoafaaGreatDoor
open Go.Pv
open Go.ChangeShapes Go.WideShapes Go.ChangeAt Go.RowKit
set_option maxRecDepth 100000
theorem jK(os:Os):laidMet Tryz.prog Rows.wellformSigsUptoRow.laid ((M5 os).forCall (fun _ _=>0) ⟨#[],#[.agg #[.slice none 0 0,.slice none 0 0,.slice none 0 0,.slice none 0 0,.slice none 0 0,.slice none 0 0],.agg #[.slice none 0 0,.slice none 0 0,.slice none 0 0,.slice none 0 0,.int .i64 0,.string ⟨#[]⟩,.slice none 0 0,.slice none 0 0,.int .i64 0,.string ⟨#[]⟩,.int .i64 0,.slice none 0 0,.slice none 0 0,.slice none 0 0]],[]⟩).memory:=
 laidMet_of_run' 8 (by kernel_rfl) (by kernel_rfl)
theorem UI(os:Os){H:Type}(enc:TypeId × Value->H):∃places,DataW.whole enc Tryz.prog ((M5 os).forCall (fun _ _=>0) ⟨#[],#[.agg #[.slice none 0 0,.slice none 0 0,.slice none 0 0,.slice none 0 0,.slice none 0 0,.slice none 0 0],.agg #[.slice none 0 0,.slice none 0 0,.slice none 0 0,.slice none 0 0,.int .i64 0,.string ⟨#[]⟩,.slice none 0 0,.slice none 0 0,.int .i64 0,.string ⟨#[]⟩,.int .i64 0,.slice none 0 0,.slice none 0 0,.slice none 0 0]],[]⟩).memory Tryz.f4.params.toList Rows.wellformSigsSpec.vars false (#[.agg #[.slice none 0 0,.slice none 0 0,.slice none 0 0,.slice none 0 0,.slice none 0 0,.slice none 0 0],.agg #[.slice none 0 0,.slice none 0 0,.slice none 0 0,.slice none 0 0,.int .i64 0,.string ⟨#[]⟩,.slice none 0 0,.slice none 0 0,.int .i64 0,.string ⟨#[]⟩,.int .i64 0,.slice none 0 0,.slice none 0 0,.slice none 0 0]]:Array Value).toList 8=some ([.agg [.nil,.nil,.nil,.nil,.nil,.nil],.agg [.nil,.nil,.nil,.nil,.agg [.lit (.int .i64 0),.lit (.string []),.nil,.nil,.agg [.lit (.int .i64 0),.lit (.string []),.lit (.int .i64 0),.nil],.nil],.nil]],[],places):=
 ⟨[],by kernel_rfl⟩
theorem Tn(os:Os)(started:os.Started)(H:Type)(enc:TypeId × Value->H)(F:Stop.Interp) :
  ReturnsInHanded {} Tryz.checked os 4 .any ((Rows.OpenSpec.upto Rows.wellformSigsSpec).preRow enc Tryz.prog Tryz.f4 Rows.wellformSigsUptoRow.domain false Rows.wellformSigsUptoRow.laid) (((Rows.OpenSpec.upto Rows.wellformSigsSpec).at F).post enc Tryz.prog Tryz.f4 false true false false):=by
 obtain ⟨places,hx⟩:=UI os enc
 refine returnsInHanded_of_row (C:=Tryz.checked) (s:=Rows.OpenSpec.upto Rows.wellformSigsSpec) own started (by kernel_rfl) Tryz.func4
  (witness_row_at (enc:=enc) (C:=Tryz.checked) false (M5 os) #[.agg #[.slice none 0 0,.slice none 0 0,.slice none 0 0,.slice none 0 0,.slice none 0 0,.slice none 0 0],.agg #[.slice none 0 0,.slice none 0 0,.slice none 0 0,.slice none 0 0,.int .i64 0,.string ⟨#[]⟩,.slice none 0 0,.slice none 0 0,.int .i64 0,.string ⟨#[]⟩,.int .i64 0,.slice none 0 0,.slice none 0 0,.slice none 0 0]] rfl (by kernel_rfl) (by kernel_rfl) (by kernel_rfl)
   (OpenSpec.preRow_of_cond 8 hx (by kernel_rfl) (fun k hk=>by cases hk; kernel_rfl) (by kernel_rfl) (jK os))) ?_
 intro W base args ds gs before LY hW _ Af9 _ hL _ _
 refine Rl (P:=Tryz.prog) (tb:=4) (s:=Rows.wellformSigsSpec) (ZB Tryz.prog 12 [34,57]) (by kernel_rfl) laidOut (by kernel_rfl) (by kernel_rfl) Tryz.underlying4 rfl ?_ LY hW (Ag0 hL) ?_
 ·intro ds hd
  rw [Tryz.params4] at hd
  match ds,hd with
  | [_,_],_=>rfl
 ·intro SH l8 hb
  have GZ:=ZD (Af9 _ rfl)
  rw [Tryz.params4] at l8 ⊢
  match SH,l8 with
  | [c0,c1],⟨⟨n0,h0⟩,⟨n1,h1⟩,_⟩=>
   obtain ⟨m,rfl⟩:=A7x h0
   obtain ⟨s,rfl⟩:=Aez h1
   simp only [Ah] at hb
   have e:LX Tryz.prog [34,57] [BD m,FM s]=[.agg (BD m),.agg (FM s)]:=by
    first | (simp only [LX,Om,Tryz.underlying34,Tryz.underlying57]; done) | (simp only [LX,Om,Tryz.underlying34,Tryz.underlying57]; rfl)
   have:=Xo m s (by omega)
   rw [<-e] at this
   exact this
theorem Lt:Rows.WellformSigsUptoSaid:=
 OpenClaim.holds_of_cond 4 Tryz.f4 rfl rfl rfl rfl rfl rfl rfl ⟨rfl,rfl,rfl,rfl,rfl⟩ rfl rfl rfl rfl rfl Af6 Tryz.func4 Af5 Af7 Af8
  (fun os started H enc _ F=>by rw [OpenClaim.pre_eq_preRow]; exact Tn os started H enc F)
theorem UJ (f:FuncId) (fn:Func) (hf:Tryz.pinned.checked.prog.funcNamed "liquidcheck/liquidchecklaw33.WellformSigs" = some f) (Ml:Tryz.pinned.checked.prog.funcs[f]?=some fn) :
  false=Tryz.pinned.checked.prog.looks []/\∀ (j:Nat) t,fn.params[j]?=some t->Tryz.pinned.checked.prog.wantsStandIn t=false:=by
 obtain rfl:f=4:=Option.some.inj ((show Tryz.prog.funcNamed "liquidcheck/liquidchecklaw33.WellformSigs" = some 4 by kernel_rfl).symm.trans hf) |>.symm
 obtain rfl:fn=Tryz.f4:=(Option.some.inj (Tryz.func4.symm.trans Ml)).symm
 refine ⟨by kernel_rfl,fun j t ht=>?_⟩
 rw [Tryz.params4] at ht
 have hm:=Array.mem_of_getElem? ht
 have:t=34∨t=57:=by simpa using hm
 rcases this with rfl | rfl
 ·exact (show Tryz.prog.wantsStandIn 34=false by kernel_rfl)
 ·exact (show Tryz.prog.wantsStandIn 57=false by kernel_rfl)
theorem wellformSigs_holds:Rows.WellformSigsUptoCardSaid:=
 Claim7.holds_tied_plain_at .later [] _ _ _ _ Lt (fun _ h=>by cases h) (by kernel_rfl) (fun _ h=>by cases h) wellformSigsUpto_row_tie rfl ⟨rfl,rfl⟩ (by kernel_rfl) rfl UJ (by kernel_rfl)
#print axioms wellformSigs_holds
end Go.Proofs.YthchpmnkecoafaaGreatDoor
