/- ScopeDeclares returns true for every module; its argument reads afterwards as before. Condition: the argument and the listed variable are together of bulk at most 1048576; the listed variable holds its texts when the call begins (tied to the program's text by the card). -/
import Derived.Test.YtmllcplaohkjnaaGreatDoorCards
import Derived.Test.YtmllcplaohkjnaaGreatDoorTie
import Derived.Test.YtmllcplaohkjnaaGreatDoorYa
import Derived.Test.YtmllcplaohkjnaaGreatDoorZj
import Derived.Test.YtmllcplaohkjnaaGreatDoorYo
set_option linter.unusedSectionVars false
set_option linter.unusedSimpArgs false
set_option linter.unusedVariables false
namespace Go.Proofs.YtmllcplaohkjnaaGreatDoor
open Go.Pv
open Go.ChangeShapes Go.WideShapes Go.ChangeAt Go.RowKit
set_option maxRecDepth 100000
theorem eO(os:Os):laidMet Tryz.prog Rows.scopeDeclaresUptoRow.laid ((Lp os).forCall (fun _ _=>0) ⟨#[],#[.agg #[.slice none 0 0,.slice none 0 0,.slice none 0 0,.slice none 0 0,.slice none 0 0,.slice none 0 0]],[]⟩).memory:=
 laidMet_of_run' 8 (by kernel_rfl) (by kernel_rfl)
theorem Uc(os:Os){H:Type}(enc:TypeId × Value->H):∃places,DataW.whole enc Tryz.prog ((Lp os).forCall (fun _ _=>0) ⟨#[],#[.agg #[.slice none 0 0,.slice none 0 0,.slice none 0 0,.slice none 0 0,.slice none 0 0,.slice none 0 0]],[]⟩).memory Tryz.f7.params.toList Rows.scopeDeclaresSpec.vars false (#[.agg #[.slice none 0 0,.slice none 0 0,.slice none 0 0,.slice none 0 0,.slice none 0 0,.slice none 0 0]]:Array Value).toList 8=some ([.agg [.nil,.nil,.nil,.nil,.nil,.nil]],[],places):=
 ⟨[],by kernel_rfl⟩
theorem SQ(os:Os)(started:os.Started)(H:Type)(enc:TypeId × Value->H)(F:Stop.Interp) :
  ReturnsInHanded {} Tryz.checked os 7 .any ((Rows.OpenSpec.upto Rows.scopeDeclaresSpec).preRow enc Tryz.prog Tryz.f7 Rows.scopeDeclaresUptoRow.domain false Rows.scopeDeclaresUptoRow.laid) (((Rows.OpenSpec.upto Rows.scopeDeclaresSpec).at F).post enc Tryz.prog Tryz.f7 false true false false):=by
 obtain ⟨places,hx⟩:=Uc os enc
 refine returnsInHanded_of_row (C:=Tryz.checked) (s:=Rows.OpenSpec.upto Rows.scopeDeclaresSpec) own started (by kernel_rfl) Tryz.func7
  (witness_row_at (enc:=enc) (C:=Tryz.checked) false (Lp os) #[.agg #[.slice none 0 0,.slice none 0 0,.slice none 0 0,.slice none 0 0,.slice none 0 0,.slice none 0 0]] rfl (by kernel_rfl) (by kernel_rfl) (by kernel_rfl)
   (OpenSpec.preRow_of_cond 8 hx (by kernel_rfl) (fun k hk=>by cases hk; kernel_rfl) (by kernel_rfl) (eO os))) ?_
 intro W base args ds gs before Lj hW _ A71 _ hL _ _
 refine Qp (P:=Tryz.prog) (tb:=4) (s:=Rows.scopeDeclaresSpec) (Zd Tryz.prog 12 [29]) (by kernel_rfl) laidOut (by kernel_rfl) (by kernel_rfl) Tryz.underlying4 rfl ?_ Lj hW (A7r hL) ?_
 ·intro ds hd
  rw [Tryz.params7] at hd
  match ds,hd with
  | [_],_=>rfl
 ·intro S8 gH hb
  have Ga:=Zf (A71 _ rfl)
  rw [Tryz.params7] at gH ⊢
  match S8,gH with
  | [c0],⟨⟨n0,h0⟩,_⟩=>
   obtain ⟨m,rfl⟩:=A0x h0
   simp only [Af] at hb
   have e:Nj Tryz.prog [29] [DJ m]=[.agg (DJ m)]:=by
    simp only [Nj,P6,Tryz.underlying29]
   have:=OC m (by omega)
   rw [<-e] at this
   exact this
theorem K5:Rows.ScopeDeclaresUptoSaid:=
 OpenClaim.holds_of_cond 7 Tryz.f7 rfl rfl rfl rfl rfl rfl rfl ⟨rfl,rfl,rfl,rfl,rfl⟩ rfl rfl rfl rfl rfl A6y Tryz.func7 A6x A6z A70
  (fun os started H enc _ F=>by rw [OpenClaim.pre_eq_preRow]; exact SQ os started H enc F)
theorem Ud (f:FuncId) (fn:Func) (hf:Tryz.pinned.checked.prog.funcNamed "liquidcheck/liquidchecklaw23.ScopeDeclares" = some f) (Lz:Tryz.pinned.checked.prog.funcs[f]?=some fn) :
  false=Tryz.pinned.checked.prog.looks []/\∀ (j:Nat) t,fn.params[j]?=some t->Tryz.pinned.checked.prog.wantsStandIn t=false:=by
 obtain rfl:f=7:=Option.some.inj ((show Tryz.prog.funcNamed "liquidcheck/liquidchecklaw23.ScopeDeclares" = some 7 by kernel_rfl).symm.trans hf) |>.symm
 obtain rfl:fn=Tryz.f7:=(Option.some.inj (Tryz.func7.symm.trans Lz)).symm
 refine ⟨by kernel_rfl,fun j t ht=>?_⟩
 rw [Tryz.params7] at ht
 have hm:=Array.mem_of_getElem? ht
 have:t=29:=by simpa using hm
 subst this
 exact (show Tryz.prog.wantsStandIn 29=false by kernel_rfl)
theorem scopeDeclares_holds:Rows.ScopeDeclaresUptoCardSaid:=
 Claim7.holds_tied_plain_at .later [] _ _ _ _ K5 (fun _ h=>by cases h) (by kernel_rfl) (fun _ h=>by cases h) scopeDeclaresUpto_row_tie rfl ⟨rfl,rfl⟩ (by kernel_rfl) rfl Ud (by kernel_rfl)
#print axioms scopeDeclares_holds
end Go.Proofs.YtmllcplaohkjnaaGreatDoor
