/- CellsPlain returns true for every module, number of a definition and arguments; its arguments read afterwards as before. Condition: the arguments are together of bulk at most 1048576. -/
import Derived.Test.YtgonmmckkikmaaaGreatTb
import Derived.Test.YtgonmmckkikmaaaGreatTj
import Derived.Test.YtgonmmckkikmaaaGreatTa
set_option linter.unusedSectionVars false
set_option linter.unusedSimpArgs false
set_option linter.unusedVariables false
namespace Go.Proofs.YtgonmmckkikmaaaGreat
open Go.Pv
open Go.ChangeShapes Go.WideShapes Go.ChangeAt Go.RowKit
set_option maxRecDepth 100000
section
variable {n:Nat} {cs:List PV}
theorem ty_ins(h:Ty Tryz.prog n 24 cs):∃ins,cs=[.sl 12 (insC ins)]:=
 ty_list (z:=12) insC_eq Tryz.underlying24 (by kernel_rfl) h fun m x _ hx=>by
  obtain ⟨m2,hm2,hx⟩:=ty_struct Tryz.underlying153 hx
  obtain ⟨c1,r1,rfl,h1,c2,r2,rfl,h2,c3,r3,rfl,h3,c4,r4,rfl,h4,rfl⟩:=hx
  obtain ⟨s,rfl⟩:=ty_str Tryz.underlying9 h1
  obtain ⟨tp,rfl⟩:=ty_tp _ _ h2
  obtain ⟨m3,e3,-,rfl,-⟩:=ty_slice Tryz.underlying75 h3
  obtain ⟨ds,rfl⟩:=ty_list (z:=25) dfsC_eq Tryz.underlying27 (by kernel_rfl) h4 fun m' x hm' hx=>ty_df hx
  exact ⟨.mk s tp _ ds,rfl⟩
theorem ty_modI(h:Ty Tryz.prog n 29 cs):∃ (z0 z1 z3 z4:Nat) (d0 d1 d3 d4:List (List PV)) (ins:List In) (l:List Df),cs=[.sl z0 d0,.sl z1 d1,.sl 12 (insC ins),.sl z3 d3,.sl z4 d4,.sl 25 (dfsC l)]:=by
 obtain ⟨m,hm,h⟩:=ty_struct Tryz.underlying29 h
 obtain ⟨c1,r1,rfl,h1,c2,r2,rfl,h2,c3,r3,rfl,h3,c4,r4,rfl,h4,c5,r5,rfl,h5,c6,r6,rfl,h6,rfl⟩:=h
 obtain ⟨m1,e1,-,rfl,-⟩:=ty_slice Tryz.underlying22 h1
 obtain ⟨m2,e2,-,rfl,-⟩:=ty_slice Tryz.underlying23 h2
 obtain ⟨ins,rfl⟩:=ty_ins h3
 obtain ⟨m4,e4,-,rfl,-⟩:=ty_slice Tryz.underlying25 h4
 obtain ⟨m5,e5,-,rfl,-⟩:=ty_slice Tryz.underlying26 h5
 obtain ⟨l,rfl⟩:=ty_list (z:=25) dfsC_eq Tryz.underlying27 (by kernel_rfl) h6 fun m' x hm' hx=>ty_df hx
 exact ⟨_,_,_,_,_,_,_,_,ins,l,rfl⟩
theorem modI_bulk(d0 d1 d3 d4:List (List PV))(z0 z1 z3 z4:Nat)(ins:List In)(l:List Df):bulkPss (dfsC l)+bulkPss (insC ins)<=bulkPs [.sl z0 d0,.sl z1 d1,.sl 12 (insC ins),.sl z3 d3,.sl z4 d4,.sl 25 (dfsC l)]:=by
 simp only [bulkPs,bulkP]
 omega
end
theorem plain_lifted(os:Os)(started:os.Started)(H:Type)(enc:TypeId × Value->H)(F:Stop.Interp) :
  ReturnsInHanded {} Tryz.checked os 7 .any ((Rows.OpenSpec.upto Rows.cellsPlainSpec).pre6 enc Tryz.prog Tryz.f7 Rows.cellsPlainUptoRow.domain false) (((Rows.OpenSpec.upto Rows.cellsPlainSpec).at F).post enc Tryz.prog Tryz.f7 false true false false):=by
 refine returnsInHanded_of_cond (C:=Tryz.checked) (s:=Rows.OpenSpec.upto Rows.cellsPlainSpec) (k:=Rows.uptoSmall) rfl own started (by kernel_rfl) Tryz.func7
  (OpenSpec.witness (enc:=enc) (C:=Tryz.checked) (s:=Rows.OpenSpec.upto Rows.cellsPlainSpec) (k:=Rows.uptoSmall) rfl false ⟨#[],#[.agg #[.slice none 0 0,.slice none 0 0,.slice none 0 0,.slice none 0 0,.slice none 0 0,.slice none 0 0],.int .u8 0,.slice none 0 0],[]⟩ 8 (by kernel_rfl) (by kernel_rfl) (by kernel_rfl)
   (x:=([.agg [.nil,.nil,.nil,.nil,.nil,.nil],.lit (.int .u8 0),.nil],[],[])) (by kernel_rfl) rfl (by kernel_rfl)) ?_
 intro W base args ds gs before hval hW _ hk _
 refine law_contract (P:=Tryz.prog) (tb:=4) (s:=Rows.cellsPlainSpec) (reachT Tryz.prog 12 [29,5,43]) (by kernel_rfl) laidOut (by kernel_rfl) (by kernel_rfl) Tryz.underlying4 rfl ?_ hval hW ?_
 ·intro ds hd
  rw [Tryz.params7] at hd
  match ds,hd with
  | [_,_,_],_=>rfl
 ·intro css hty hb
  have hb':=small_le hk
  rw [Tryz.params7] at hty ⊢
  match css,hty with
  | [cm,cw,cx],⟨⟨nm,hm⟩,⟨nw,hw⟩,⟨nx,hx⟩,_⟩=>
   obtain ⟨z0,z1,z3,z4,d0,d1,d3,d4,ins,l,rfl⟩:=ty_modI hm
   obtain ⟨k,rfl,hwf⟩:=ty_int Tryz.underlying5 hw
   obtain ⟨args,rfl⟩:=ty_vls hx
   have h1:=modI_bulk d0 d1 d3 d4 z0 z1 z3 z4 ins l
   have h2:bulkPs [.sl 7 (Vl.cs args)]=bulkPss (Vl.cs args)+1:=rfl
   simp only [bulkPss] at hb
   have hnx:PV.noX (mdI d0 d1 d3 d4 z0 z1 z3 z4 ins l)=true:=ty_nx Tryz.prog _ _ _ hm
   have e:argPVs Tryz.prog [29,5,43] [[.sl z0 d0,.sl z1 d1,.sl 12 (insC ins),.sl z3 d3,.sl z4 d4,.sl 25 (dfsC l)],[.int .u8 k],[.sl 7 (Vl.cs args)]]=[mdI d0 d1 d3 d4 z0 z1 z3 z4 ins l,.int .u8 k,.sl 7 (Vl.cs args)]:=by
    simp only [argPVs,argPV,Tryz.underlying29,Tryz.underlying5,Tryz.underlying43]; rfl
   have:=plain_true d0 d1 d3 d4 z0 z1 z3 z4 ins l hnx (by omega) (by omega) k (u8_le hwf).1 (u8_le hwf).2 (args:=args) (by omega)
   rw [<-e] at this
   exact this
theorem cellsPlain_holds:Rows.CellsPlainUptoSaid:=
 OpenClaim.holds_of_cond 7 Tryz.f7 rfl rfl rfl rfl rfl rfl rfl ⟨rfl,rfl,rfl,rfl,rfl⟩ rfl rfl rfl rfl rfl plns6 Tryz.func7 plns5 plns7 plns8
  (fun os started H enc _ F=>plain_lifted os started H enc F)
#print axioms cellsPlain_holds
end Go.Proofs.YtgonmmckkikmaaaGreat
