/- ScopeNames returns true for every module and every name; its arguments read afterwards as before. Condition: the arguments and the listed variable are together of bulk at most 1048576; the listed variable holds its texts when the call begins (tied to the program's text by the card). -/
import Derived.Test.YtmllcplaohkjnaaGreatDoorCards
import Derived.Test.YtmllcplaohkjnaaGreatDoorTie
import Derived.Test.YtmllcplaohkjnaaGreatDoorSL
import Derived.Test.YtmllcplaohkjnaaGreatDoorSJ
import Derived.Test.YtmllcplaohkjnaaGreatDoorS6
set_option linter.unusedVariables false
set_option linter.unusedSimpArgs false
set_option linter.unusedSectionVars false
namespace Go.Proofs.YtmllcplaohkjnaaGreatDoor
open Go.Pv
open Go.ChangeShapes Go.WideShapes Go.ChangeAt Go.RowKit
set_option maxRecDepth 100000
theorem names_true (m : Mo) (name : ByteArray) (hs : bulkPs (moL m) ≤ 1048576) : (Ob.pur 6 [.agg (moL m), .str name] (.ret (.bool true))).ok Tryz.prog := by
  obtain ⟨b, hb⟩ := small_ok m hs
  have h0 := mo_bulk m
  cases b with
  | false => exact snA m name awake_ok hb
  | true =>
    by_cases hl : (name.size : Int) > 300
    · exact snB m name awake_ok hb hl
    · have w1 := fun {d} (h : d ∈ moD m) => Nat.le_trans (Da.mem h) (by omega : bulkPss (Da.cs (moD m)) ≤ 1048576)
      have w2 := fun {d} (h : d ∈ moC m) => Nat.le_trans (Cl.mem h) (by omega : bulkPss (Cl.cs (moC m)) ≤ 1048576)
      have e1 := Da.bulk (moD m)
      have e2 := Cl.bulk (moC m)
      have e3 := Df.bulk (moF m)
      have hc : (moC m).length ≤ 1048576 := by omega
      have hm : ∀ c ∈ moC m, (clM c).length ≤ 1048576 := fun c hc => by have := w2 hc; have := cl_bulk c; have := Pm.bulk (clM c); omega
      have hf : (moF m).length ≤ 1048576 := by omega
      have hlen : (namesF m).length ≤ 1000000000 := by
        have h1 : (namesF m).length ≤ bulkPss (Cl.cs (moC m)) + (moF m).length := by
          have : ∀ l : List Cl, (l.flatMap fun c => (clM c).map pmNm).length ≤ bulkPss (Cl.cs l) := by
            intro l
            induction l with
            | nil => simp
            | cons c r ih =>
              have := cl_bulk c
              have := Pm.bulk (clM c)
              simp only [List.flatMap_cons, List.length_append, List.length_map, Cl.cs, bulkPss]
              omega
          have h2 := this (moC m)
          simp only [namesF, methsF, List.length_append, List.length_map]
          omega
        omega
      exact snC m name awake_ok hb hl hc hm (by omega) (fun c hc => by have := w1 hc; have := da_bulk c; have := Cn.bulk (daC c); omega) hf
        (fun c hc p hp => by have := w2 hc; have := cl_bulk c; have := Pm.mem hp; have := pm_bulk p; have := tp_bulk (pmT p); have := Tp.bulk (tpA (pmT p)); omega) (rSNT _ hlen)
theorem names_met (os : Os) : laidMet Tryz.prog Rows.scopeNamesUptoRow.laid ((laidWorld os).forCall (fun _ _ => 0) ⟨#[], #[.agg #[.slice none 0 0, .slice none 0 0, .slice none 0 0, .slice none 0 0, .slice none 0 0, .slice none 0 0], .string ⟨#[]⟩], []⟩).memory :=
  laidMet_of_run' 8 (by kernel_rfl) (by kernel_rfl)
theorem names_reads (os : Os) {H : Type} (enc : TypeId × Value → H) : ∃ places, DataW.whole enc Tryz.prog ((laidWorld os).forCall (fun _ _ => 0) ⟨#[], #[.agg #[.slice none 0 0, .slice none 0 0, .slice none 0 0, .slice none 0 0, .slice none 0 0, .slice none 0 0], .string ⟨#[]⟩], []⟩).memory Tryz.f6.params.toList Rows.scopeNamesSpec.vars false #[.agg #[.slice none 0 0, .slice none 0 0, .slice none 0 0, .slice none 0 0, .slice none 0 0, .slice none 0 0], Value.string ⟨#[]⟩].toList 8 = some ([.agg [.nil, .nil, .nil, .nil, .nil, .nil], .lit (.string [])], [], places) :=
  ⟨[], by kernel_rfl⟩
theorem names_lifted (os : Os) (started : os.Started) (H : Type) (enc : TypeId × Value → H) (F : Stop.Interp) :
    ReturnsInHanded {} Tryz.checked os 6 .any ((Rows.OpenSpec.upto Rows.scopeNamesSpec).preRow enc Tryz.prog Tryz.f6 Rows.scopeNamesUptoRow.domain false Rows.scopeNamesUptoRow.laid) (((Rows.OpenSpec.upto Rows.scopeNamesSpec).at F).post enc Tryz.prog Tryz.f6 false true false false) := by
  obtain ⟨places, hx⟩ := names_reads os enc
  refine returnsInHanded_of_row (C := Tryz.checked) (s := Rows.OpenSpec.upto Rows.scopeNamesSpec) own started (by kernel_rfl) Tryz.func6
    (witness_row_at (enc := enc) (C := Tryz.checked) false (laidWorld os) #[.agg #[.slice none 0 0, .slice none 0 0, .slice none 0 0, .slice none 0 0, .slice none 0 0, .slice none 0 0], .string ⟨#[]⟩] rfl (by kernel_rfl) (by kernel_rfl) (by kernel_rfl)
      (OpenSpec.preRow_of_cond 8 hx (by kernel_rfl) (fun k hk => by cases hk; kernel_rfl) (by kernel_rfl) (names_met os))) ?_
  intro W base args ds gs before hval hW _ hcond _ hL _ _
  refine law_contract (P := Tryz.prog) (tb := 4) (s := Rows.scopeNamesSpec) (reachT Tryz.prog 12 [29, 9]) (by kernel_rfl) laidOut (by kernel_rfl) (by kernel_rfl) Tryz.underlying4 rfl ?_ hval hW (gokD hL) ?_
  · intro ds hd
    rw [Tryz.params6] at hd
    match ds, hd with
    | [_, _], _ => rfl
  · intro css hty hb
    have hb' := small_le (hcond _ rfl)
    rw [Tryz.params6] at hty ⊢
    match css, hty with
    | [cm, cw], ⟨⟨nm, hm⟩, ⟨nw, hw⟩, _⟩ =>
      obtain ⟨m, rfl⟩ := ty_Mo hm
      obtain ⟨name, rfl⟩ := ty_str Tryz.underlying9 hw
      simp only [bulkPss] at hb
      have e : argPVs Tryz.prog [29, 9] [moL m, [.str name]] = [.agg (moL m), .str name] := by
        simp only [argPVs, argPV, Tryz.underlying29, Tryz.underlying9]; rfl
      have := names_true m name (by omega)
      rw [← e] at this
      exact this
theorem scopeNames_said : Rows.ScopeNamesUptoSaid :=
  OpenClaim.holds_of_cond 6 Tryz.f6 rfl rfl rfl rfl rfl rfl rfl ⟨rfl, rfl, rfl, rfl, rfl⟩ rfl rfl rfl rfl rfl nms6 Tryz.func6 nms5 nms7 nms8
    (fun os started H enc _ F => by rw [OpenClaim.pre_eq_preRow]; exact names_lifted os started H enc F)
theorem names_plain (f : FuncId) (fn : Func) (hf : Tryz.pinned.checked.prog.funcNamed "liquidcheck/liquidchecklaw23.ScopeNames" = some f) (hfn : Tryz.pinned.checked.prog.funcs[f]? = some fn) :
    false = Tryz.pinned.checked.prog.looks [] ∧ ∀ (j : Nat) t, fn.params[j]? = some t → Tryz.pinned.checked.prog.wantsStandIn t = false := by
  obtain rfl : f = 6 := Option.some.inj ((show Tryz.prog.funcNamed "liquidcheck/liquidchecklaw23.ScopeNames" = some 6 by kernel_rfl).symm.trans hf) |>.symm
  obtain rfl : fn = Tryz.f6 := (Option.some.inj (Tryz.func6.symm.trans hfn)).symm
  refine ⟨by kernel_rfl, fun j t ht => ?_⟩
  rw [Tryz.params6] at ht
  have hm := Array.mem_of_getElem? ht
  have : t = 29 ∨ t = 9 := by simpa using hm
  rcases this with rfl | rfl
  · exact (show Tryz.prog.wantsStandIn 29 = false by kernel_rfl)
  · exact (show Tryz.prog.wantsStandIn 9 = false by kernel_rfl)
theorem scopeNames_holds : Rows.ScopeNamesUptoCardSaid :=
  Claim7.holds_tied_plain_at .later [] _ _ _ _ scopeNames_said (fun _ h => by cases h) (by kernel_rfl) (fun _ h => by cases h) scopeNamesUpto_row_tie rfl ⟨rfl, rfl⟩ (by kernel_rfl) rfl names_plain (by kernel_rfl)
#print axioms scopeNames_holds
end Go.Proofs.YtmllcplaohkjnaaGreatDoor
