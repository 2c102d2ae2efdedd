/- EvalLets returns true for every module, expression with bindings and fuel, and name; its arguments read afterwards as before. Condition: the arguments are together of bulk at most 1048576. -/
import Derived.Test.YtgonmmckkikmaaaGreatYb
import Derived.Test.YtgonmmckkikmaaaGreatYj
set_option linter.unusedSectionVars false
set_option linter.unusedSimpArgs false
set_option linter.unusedVariables false
namespace Go.Proofs.YtgonmmckkikmaaaGreat
open Go.Pv
open Go.ChangeShapes Go.WideShapes Go.ChangeAt Go.RowKit
set_option maxRecDepth 100000
theorem lets_lifted (os : Os) (started : os.Started) (H : Type) (enc : TypeId × Value -> H) (F : Stop.Interp) :
  ReturnsInHanded {} Tryz.checked os 5 .any ((Rows.OpenSpec.upto Rows.evalLetsSpec).pre6 enc Tryz.prog Tryz.f5 Rows.evalLetsUptoRow.domain false) (((Rows.OpenSpec.upto Rows.evalLetsSpec).at F).post enc Tryz.prog Tryz.f5 false true false false) := by
 refine returnsInHanded_of_cond (C := Tryz.checked) (s := Rows.OpenSpec.upto Rows.evalLetsSpec) (k := Rows.uptoSmall) rfl own started (by kernel_rfl) Tryz.func5
  (OpenSpec.witness (enc := enc) (C := Tryz.checked) (s := Rows.OpenSpec.upto Rows.evalLetsSpec) (k := Rows.uptoSmall) rfl false ⟨#[], #[.agg #[.slice none 0 0, .slice none 0 0, .slice none 0 0, .slice none 0 0, .slice none 0 0, .slice none 0 0], .agg #[.slice none 0 0, .int .i64 0, .string nm0, .int .i64 0, .slice none 0 0, .slice none 0 0, .slice none 0 0, .slice none 0 0, .int .i64 0], .string nm0], []⟩ 8 (by kernel_rfl) (by kernel_rfl) (by kernel_rfl)
   (x := ([.agg [.nil, .nil, .nil, .nil, .nil, .nil], .agg [.nil, .agg [.lit (.int .i64 0), .lit (.string []), .lit (.int .i64 0), .nil, .nil, .nil, .nil], .lit (.int .i64 0)], .lit (.string [])], [], [])) (by kernel_rfl) rfl (by kernel_rfl)) ?_
 intro W base args ds gs before hval hW _ hk _
 refine law_contract (P := Tryz.prog) (tb := 4) (s := Rows.evalLetsSpec) (reachT Tryz.prog 12 [29, 39, 9]) (by kernel_rfl) laidOut (by kernel_rfl) (by kernel_rfl) Tryz.underlying4 rfl ?_ hval hW ?_
 ·intro ds hd
  rw [Tryz.params5] at hd
  match ds, hd with
  | [_, _, _], _ => rfl
 ·intro css hty hb
  have hb' := small_le hk
  rw [Tryz.params5] at hty ⊢
  match css, hty with
  | [cm, cw, cx], ⟨⟨nm, hm⟩, ⟨nw, hw⟩, ⟨nx, hx⟩, _⟩ =>
   obtain ⟨z0, z1, z2, z3, z4, d0, d1, d2, d3, d4, l, rfl⟩ := ty_mod hm
   obtain ⟨bs, x, fu, rfl⟩ := ty_work hw
   obtain ⟨s, rfl⟩ := ty_str Tryz.underlying9 hx
   have h1 := mod_bulk d0 d1 d2 d3 d4 z0 z1 z2 z3 z4 l
   have h2 : bulkPs (.sl 8 (Bd.cs bs) :: (exL x ++ [.int .i64 fu])) = bulkPss (Bd.cs bs) + 1 + (szE x + 1) := by
    rw [bulkPs, bulkPs_append]; rfl
   have h3 : bulkPs [.str s] = s.size + 1 := rfl
   simp only [bulkPss] at hb
   have hnx : PV.noX (mdS d0 d1 d2 d3 d4 z0 z1 z2 z3 z4 l) = true := ty_nx Tryz.prog _ _ _ hm
   have e : argPVs Tryz.prog [29, 39, 9] [[.sl z0 d0, .sl z1 d1, .sl z2 d2, .sl z3 d3, .sl z4 d4, .sl 25 (dfsC l)], .sl 8 (Bd.cs bs) :: (exL x ++ [.int .i64 fu]), [.str s]] = [mdS d0 d1 d2 d3 d4 z0 z1 z2 z3 z4 l, .agg (.sl 8 (Bd.cs bs) :: (exL x ++ [.int .i64 fu])), .str s] := by
    simp only [argPVs, argPV, Tryz.underlying29, Tryz.underlying39, Tryz.underlying9]; rfl
   have := lets_true d0 d1 d2 d3 d4 z0 z1 z2 z3 z4 l hnx (by omega) (bs := bs) (by omega) (x := x) (by omega) (xn := s) (by omega) fu
   rw [<- e] at this
   exact this
theorem evalLets_holds : Rows.EvalLetsUptoSaid :=
 OpenClaim.holds_of_cond 5 Tryz.f5 rfl rfl rfl rfl rfl rfl rfl ⟨rfl, rfl, rfl, rfl, rfl⟩ rfl rfl rfl rfl rfl lets6 Tryz.func5 lets5 lets7 lets8
  (fun os started H enc _ F => lets_lifted os started H enc F)
#print axioms evalLets_holds
end Go.Proofs.YtgonmmckkikmaaaGreat
