/- EvalFuel returns true for every module, call (number of a definition, arguments, fuel) and number; its arguments read afterwards as before. Condition: the arguments are together of bulk at most 1048576. -/
import Derived.Test.YtgonmmckkikmaaaGreatZb
import Derived.Test.YtgonmmckkikmaaaGreatZj
import Derived.Test.YtgonmmckkikmaaaGreatZa
set_option linter.unusedSectionVars false
set_option linter.unusedSimpArgs false
set_option linter.unusedVariables false
namespace Go.Proofs.YtgonmmckkikmaaaGreat
open Go.Pv
open Go.ChangeShapes Go.WideShapes Go.ChangeAt Go.RowKit
set_option maxRecDepth 100000
theorem fuel_lifted (os : Os) (started : os.Started) (H : Type) (enc : TypeId × Value -> H) (F : Stop.Interp) :
  ReturnsInHanded {} Tryz.checked os 4 .any ((Rows.OpenSpec.upto Rows.evalFuelSpec).pre6 enc Tryz.prog Tryz.f4 Rows.evalFuelUptoRow.domain false) (((Rows.OpenSpec.upto Rows.evalFuelSpec).at F).post enc Tryz.prog Tryz.f4 false true false false) := by
 refine returnsInHanded_of_cond (C := Tryz.checked) (s := Rows.OpenSpec.upto Rows.evalFuelSpec) (k := Rows.uptoSmall) rfl own started (by kernel_rfl) Tryz.func4
  (OpenSpec.witness (enc := enc) (C := Tryz.checked) (s := Rows.OpenSpec.upto Rows.evalFuelSpec) (k := Rows.uptoSmall) rfl false ⟨#[], #[.agg #[.slice none 0 0, .slice none 0 0, .slice none 0 0, .slice none 0 0, .slice none 0 0, .slice none 0 0], .agg #[.int .u8 0, .slice none 0 0, .int .i64 0], .int .u8 0], []⟩ 8 (by kernel_rfl) (by kernel_rfl) (by kernel_rfl)
   (x := ([.agg [.nil, .nil, .nil, .nil, .nil, .nil], .agg [.lit (.int .u8 0), .nil, .lit (.int .i64 0)], .lit (.int .u8 0)], [], [])) (by kernel_rfl) rfl (by kernel_rfl)) ?_
 intro W base args ds gs before hval hW _ hk _
 refine law_contract (P := Tryz.prog) (tb := 4) (s := Rows.evalFuelSpec) (reachT Tryz.prog 12 [29, 60, 5]) (by kernel_rfl) laidOut (by kernel_rfl) (by kernel_rfl) Tryz.underlying4 rfl ?_ hval hW ?_
 ·intro ds hd
  rw [Tryz.params4] at hd
  match ds, hd with
  | [_, _, _], _ => rfl
 ·intro css hty hb
  have hb' := small_le hk
  rw [Tryz.params4] at hty ⊢
  match css, hty with
  | [cm, cw, cx], ⟨⟨nm, hm⟩, ⟨nw, hw⟩, ⟨nx, hx⟩, _⟩ =>
   obtain ⟨z0, z1, z2, z3, z4, d0, d1, d2, d3, d4, l, rfl⟩ := ty_mod hm
   obtain ⟨k, args, fu, rfl, hk0, hk1⟩ := ty_run hw
   obtain ⟨less, rfl, hwf⟩ := ty_int Tryz.underlying5 hx
   have h1 := mod_bulk d0 d1 d2 d3 d4 z0 z1 z2 z3 z4 l
   have h2 : bulkPs [.int .u8 k, .sl 7 (Vl.cs args), .int .i64 fu] = 1 + (bulkPss (Vl.cs args) + 1 + 1) := rfl
   simp only [bulkPss] at hb
   have hnx : PV.noX (mdS d0 d1 d2 d3 d4 z0 z1 z2 z3 z4 l) = true := ty_nx Tryz.prog _ _ _ hm
   have e : argPVs Tryz.prog [29, 60, 5] [[.sl z0 d0, .sl z1 d1, .sl z2 d2, .sl z3 d3, .sl z4 d4, .sl 25 (dfsC l)], [.int .u8 k, .sl 7 (Vl.cs args), .int .i64 fu], [.int .u8 less]] = [mdS d0 d1 d2 d3 d4 z0 z1 z2 z3 z4 l, .agg [.int .u8 k, .sl 7 (Vl.cs args), .int .i64 fu], .int .u8 less] := by
    simp only [argPVs, argPV, Tryz.underlying29, Tryz.underlying60, Tryz.underlying5]; rfl
   have := fuels_true d0 d1 d2 d3 d4 z0 z1 z2 z3 z4 l hnx (by omega) k less fu hk0 hk1 (u8_le hwf) (args := args) (by omega)
   rw [<- e] at this
   exact this
theorem evalFuel_holds : Rows.EvalFuelUptoSaid :=
 OpenClaim.holds_of_cond 4 Tryz.f4 rfl rfl rfl rfl rfl rfl rfl ⟨rfl, rfl, rfl, rfl, rfl⟩ rfl rfl rfl rfl rfl fuel6 Tryz.func4 fuel5 fuel7 fuel8
  (fun os started H enc _ F => fuel_lifted os started H enc F)
#print axioms evalFuel_holds
end Go.Proofs.YtgonmmckkikmaaaGreat
