/- What the law says of pure values. -/
import Derived.Test.YtgonmmckkikmaaaGreatXp
import Derived.Test.YtgonmmckkikmaaaGreatXq
set_option linter.unusedSectionVars false
set_option linter.unusedSimpArgs false
set_option linter.unusedVariables false
namespace Go.Proofs.YtgonmmckkikmaaaGreat
open Go.Pv
set_option maxRecDepth 100000
section
variable (d0 d1 d2 d3 d4 : List (List PV)) (z0 z1 z2 z3 z4 : Nat) (l : List Df)
abbrev mdS : PV := mdM (.sl z0 d0) (.sl z1 d1) (.sl z2 d2) (.sl z3 d3) (.sl z4 d4) l
theorem light_ex (hl : bulkPss (dfsC l) <= 3000000) : ∃ b, Pu 8 [mdS d0 d1 d2 d3 d4 z0 z1 z2 z3 z4 l] (.ret (.bool b)) := by
 have hs : SmL l := SmL_bulk (by omega)
 exact ⟨_, rLight d0 d1 d2 d3 d4 z0 z1 z2 z3 z4 l (fun w hw => rNodesT (hs.2 w hw).1) hs.1⟩
theorem few_ex {vs : List Vl} (hn : vs.length <= 1000000000) (h : ∀ v ∈ vs, szV v <= 3000000) : ∃ b, Pu 10 [.sl 7 (Vl.cs vs)] (.ret (.bool b)) :=
 ⟨_, rFew vs hn fun w m hw => rPartsT (by have := h w hw; omega) m⟩
end
end Go.Proofs.YtgonmmckkikmaaaGreat
namespace Go.Proofs.YtgonmmckkikmaaaGreat
open Go.Pv
set_option maxRecDepth 100000
section
variable (c0 c1 c2 c3 c4 : PV) (l : List Df) (k : Int) (args : List Vl) (fu less : Int) (nm : ByteArray) (b0 b1 b2 : Bool) (hls : 0 <= less /\ less <= 255) (hLt : Pu 8 [mdM c0 c1 c2 c3 c4 l] (.ret (.bool b0))) (hFw : Pu 10 [.sl 7 (Vl.cs args)] (.ret (.bool b1))) (hAw : Pu 12 [] (.ret (.bool true))) (hNm : Pu 13 [mdM c0 c1 c2 c3 c4 l, .int .u8 k] (.ret (.str nm))) (hBg : Pu 20 [mdM c0 c1 c2 c3 c4 l, .str nm, .sl 7 (Vl.cs args), .int .i64 fu] (.ret (.bool b2))) (v0 v3 : Vl) (e0 s0 s3 : Int) (w0 w3 : ByteArray) (hO : Pu 21 [mdM c0 c1 c2 c3 c4 l, .str nm, .sl 7 (Vl.cs args), .int .i64 fu] (.ret (.agg (otL v0 e0 w0 s0)))) (hs0 : 0 <= s0) (hs1 : fu <= 300 -> s0 <= 300 /\ (s0 <= fu ∨ s0 <= 0)) (hVd : ¬ e0 = 0 -> Pu 22 [.agg (vlL v0), .agg [.int .i64 0, .int .i64 0, .str nm0, .nilsl, .nilsl, .nilsl, .nilsl]] (.ret (.bool true))) (hF : e0 = 24 -> fu <= 300 -> (s0 = fu /\ 0 <= fu) ∨ (s0 = 0 /\ fu < 0)) (hA : ¬ e0 = 24 -> fu <= 300 -> Pu 21 [mdM c0 c1 c2 c3 c4 l, .str nm, .sl 7 (Vl.cs args), .int .i64 s0] (.ret (.agg (otL v0 e0 w0 s0)))) (hB : ¬ e0 = 24 -> fu <= 300 -> Pu 21 [mdM c0 c1 c2 c3 c4 l, .str nm, .sl 7 (Vl.cs args), .int .i64 (s0 + less)] (.ret (.agg (otL v0 e0 w0 s0)))) (hS : Pu 15 [.agg (otL v0 e0 w0 s0), .agg (otL v0 e0 w0 s0)] (.ret (.bool true))) (hC : fu <= 300 -> 0 <= s0 - 1 - less -> Pu 21 [mdM c0 c1 c2 c3 c4 l, .str nm, .sl 7 (Vl.cs args), .int .i64 (s0 - 1 - less)] (.ret (.agg (otL v3 24 w3 s3))))
include c0 c1 c2 c3 c4 l k args fu less nm b0 b1 b2 hls hLt hFw hAw hNm hBg v0 v3 e0 s0 s3 w0 w3 hO hs0 hs1 hVd hF hA hB hS hC
theorem fuels_1 (hx0 : b0 = false) : Pu 4 ([mdM c0 c1 c2 c3 c4 l, .agg [.int .u8 k, .sl 7 (Vl.cs args), pI fu], .int .u8 less]) (rB true) :=
 pu mdL (fun e => [cl hLt, rp 5 (bt (!b0) (bnT hx0)), rp 5 (bt true), cl hAw]) Tryz.func4
theorem fuels_2 (hx0 : b0 = true) (hx1 : b1 = false) : Pu 4 ([mdM c0 c1 c2 c3 c4 l, .agg [.int .u8 k, .sl 7 (Vl.cs args), pI fu], .int .u8 less]) (rB true) :=
 pu mdL (fun e => [cl hLt, rp 3 (bf (!b0) (bnF hx0)), cl hFw, rp 2 (bf (!b0) (bnF hx0)), rp 4 (bt (!b1) (bnT hx1)), bt true, cl hAw]) Tryz.func4
theorem fuels_3 (hx0 : b0 = true) (hx1 : b1 = true) (hx2 : fu > 300) : Pu 4 ([mdM c0 c1 c2 c3 c4 l, .agg [.int .u8 k, .sl 7 (Vl.cs args), pI fu], .int .u8 less]) (rB true) :=
 pu mdL (fun e => [cl hLt, rp 3 (bf (!b0) (bnF hx0)), cl hFw, rp 2 (bf (!b0) (bnF hx0)), rp 4 (bf (!b1) (bnF hx1)), dt (fu > 300) hx2, cl hAw]) Tryz.func4
theorem fuels_4 (hx0 : b0 = true) (hx1 : b1 = true) (hx2 : ¬fu > 300) (hx3 : b2 = true) : Pu 4 ([mdM c0 c1 c2 c3 c4 l, .agg [.int .u8 k, .sl 7 (Vl.cs args), pI fu], .int .u8 less]) (rB true) :=
 pu mdL (fun e => [cl hLt, rp 3 (bf (!b0) (bnF hx0)), cl hFw, rp 2 (bf (!b0) (bnF hx0)), rp 4 (bf (!b1) (bnF hx1)), df (fu > 300) hx2, cl hNm, cl hBg, bt b2 hx3, cl hAw]) Tryz.func4
theorem fuels_6 (hx0 : b0 = true) (hx1 : b1 = true) (hx2 : ¬fu > 300) (hx3 : b2 = false) (hx4 : ¬s0 > if true = true then if 0 > fu then 0 else fu else if 0 < fu then 0 else fu) (hx5 : ¬e0 = 0) (hx6 : e0 = 24) : Pu 4 ([mdM c0 c1 c2 c3 c4 l, .agg [.int .u8 k, .sl 7 (Vl.cs args), pI fu], .int .u8 less]) (rB (s0 == if true = true then if 0 > fu then 0 else fu else if 0 < fu then 0 else fu)) :=
 pu mdL (fun e => [cl hLt, rp 3 (bf (!b0) (bnF hx0)), cl hFw, rp 2 (bf (!b0) (bnF hx0)), rp 4 (bf (!b1) (bnF hx1)), df (fu > 300) hx2, cl hNm, cl hBg, bf b2 hx3, cl hO, rp 7 (df (s0 < 0)), rp 4 (df (s0 > if true = true then if 0 > fu then 0 else fu else if 0 < fu then 0 else fu) hx4), rp 4 (nt e0 0 hx5), cl (@hVd hx5), nt e0 0 hx5, df (s0 > if true = true then if 0 > fu then 0 else fu else if 0 < fu then 0 else fu) hx4, nt e0 0 hx5, df (s0 > if true = true then if 0 > fu then 0 else fu else if 0 < fu then 0 else fu) hx4, bf false, cl hAw, rp 3 (bf false), et e0 24 hx6]) Tryz.func4
theorem fuels_7 (hx0 : b0 = true) (hx1 : b1 = true) (hx2 : ¬fu > 300) (hx3 : b2 = false) (hx4 : ¬s0 > if true = true then if 0 > fu then 0 else fu else if 0 < fu then 0 else fu) (hx5 : ¬e0 = 0) (hx6 : ¬e0 = 24) (hx7 : s0 - 1 - less < 0) : Pu 4 ([mdM c0 c1 c2 c3 c4 l, .agg [.int .u8 k, .sl 7 (Vl.cs args), pI fu], .int .u8 less]) (rB true) :=
 pu mdL (fun e => [cl hLt, rp 3 (bf (!b0) (bnF hx0)), cl hFw, rp 2 (bf (!b0) (bnF hx0)), rp 4 (bf (!b1) (bnF hx1)), df (fu > 300) hx2, cl hNm, cl hBg, bf b2 hx3, cl hO, rp 7 (df (s0 < 0)), rp 4 (df (s0 > if true = true then if 0 > fu then 0 else fu else if 0 < fu then 0 else fu) hx4), rp 4 (nt e0 0 hx5), cl (@hVd hx5), nt e0 0 hx5, df (s0 > if true = true then if 0 > fu then 0 else fu else if 0 < fu then 0 else fu) hx4, nt e0 0 hx5, df (s0 > if true = true then if 0 > fu then 0 else fu else if 0 < fu then 0 else fu) hx4, bf false, cl hAw, rp 3 (bf false), en e0 24 hx6, cl (@hA hx6 (by omega)), cl hS, rp 9 (bf false), wr less, bf false, wr (s0 + less), bf false, cl (@hB hx6 (by omega)), bf false, cl hS, rp 3 (bf false), wr (s0 - 1), wr less, wr (s0 - 1 - less), rp 9 (dt (s0 - 1 - less < 0) hx7)]) Tryz.func4
theorem fuels_8 (hx0 : b0 = true) (hx1 : b1 = true) (hx2 : ¬fu > 300) (hx3 : b2 = false) (hx4 : ¬s0 > if true = true then if 0 > fu then 0 else fu else if 0 < fu then 0 else fu) (hx5 : ¬e0 = 0) (hx6 : ¬e0 = 24) (hx7 : ¬s0 - 1 - less < 0) : Pu 4 ([mdM c0 c1 c2 c3 c4 l, .agg [.int .u8 k, .sl 7 (Vl.cs args), pI fu], .int .u8 less]) (rB true) :=
 pu mdL (fun e => [cl hLt, rp 3 (bf (!b0) (bnF hx0)), cl hFw, rp 2 (bf (!b0) (bnF hx0)), rp 4 (bf (!b1) (bnF hx1)), df (fu > 300) hx2, cl hNm, cl hBg, bf b2 hx3, cl hO, rp 7 (df (s0 < 0)), rp 4 (df (s0 > if true = true then if 0 > fu then 0 else fu else if 0 < fu then 0 else fu) hx4), rp 4 (nt e0 0 hx5), cl (@hVd hx5), nt e0 0 hx5, df (s0 > if true = true then if 0 > fu then 0 else fu else if 0 < fu then 0 else fu) hx4, nt e0 0 hx5, df (s0 > if true = true then if 0 > fu then 0 else fu else if 0 < fu then 0 else fu) hx4, bf false, cl hAw, rp 3 (bf false), en e0 24 hx6, cl (@hA hx6 (by omega)), cl hS, rp 9 (bf false), wr less, bf false, wr (s0 + less), bf false, cl (@hB hx6 (by omega)), bf false, cl hS, rp 3 (bf false), wr (s0 - 1), wr less, wr (s0 - 1 - less), rp 6 (df (s0 - 1 - less < 0) hx7), cl (@hC (by omega) (by omega)), rp 3 (df (s0 - 1 - less < 0) hx7)]) Tryz.func4
theorem fuels_9 (hx0 : b0 = true) (hx1 : b1 = true) (hx2 : ¬fu > 300) (hx3 : b2 = false) (hx4 : ¬s0 > if true = true then if 0 > fu then 0 else fu else if 0 < fu then 0 else fu) (hx5 : e0 = 0) (hx6 : s0 - 1 - less < 0) : Pu 4 ([mdM c0 c1 c2 c3 c4 l, .agg [.int .u8 k, .sl 7 (Vl.cs args), pI fu], .int .u8 less]) (rB true) :=
 pu mdL (fun e => [cl hLt, rp 3 (bf (!b0) (bnF hx0)), cl hFw, rp 2 (bf (!b0) (bnF hx0)), rp 4 (bf (!b1) (bnF hx1)), df (fu > 300) hx2, cl hNm, cl hBg, bf b2 hx3, cl hO, rp 7 (df (s0 < 0)), rp 4 (df (s0 > if true = true then if 0 > fu then 0 else fu else if 0 < fu then 0 else fu) hx4), rp 5 (nn e0 0 hx5), df (s0 > if true = true then if 0 > fu then 0 else fu else if 0 < fu then 0 else fu) hx4, nn e0 0 hx5, df (s0 > if true = true then if 0 > fu then 0 else fu else if 0 < fu then 0 else fu) hx4, bf false, cl hAw, rp 3 (bf false), en e0 24, cl (@hA (by omega) (by omega)), cl hS, rp 9 (bf false), wr less, bf false, wr (s0 + less), bf false, cl (@hB (by omega) (by omega)), bf false, cl hS, rp 3 (bf false), wr (s0 - 1), wr less, wr (s0 - 1 - less), rp 9 (dt (s0 - 1 - less < 0) hx6)]) Tryz.func4
theorem fuels_10 (hx0 : b0 = true) (hx1 : b1 = true) (hx2 : ¬fu > 300) (hx3 : b2 = false) (hx4 : ¬s0 > if true = true then if 0 > fu then 0 else fu else if 0 < fu then 0 else fu) (hx5 : e0 = 0) (hx6 : ¬s0 - 1 - less < 0) : Pu 4 ([mdM c0 c1 c2 c3 c4 l, .agg [.int .u8 k, .sl 7 (Vl.cs args), pI fu], .int .u8 less]) (rB true) :=
 pu mdL (fun e => [cl hLt, rp 3 (bf (!b0) (bnF hx0)), cl hFw, rp 2 (bf (!b0) (bnF hx0)), rp 4 (bf (!b1) (bnF hx1)), df (fu > 300) hx2, cl hNm, cl hBg, bf b2 hx3, cl hO, rp 7 (df (s0 < 0)), rp 4 (df (s0 > if true = true then if 0 > fu then 0 else fu else if 0 < fu then 0 else fu) hx4), rp 5 (nn e0 0 hx5), df (s0 > if true = true then if 0 > fu then 0 else fu else if 0 < fu then 0 else fu) hx4, nn e0 0 hx5, df (s0 > if true = true then if 0 > fu then 0 else fu else if 0 < fu then 0 else fu) hx4, bf false, cl hAw, rp 3 (bf false), en e0 24, cl (@hA (by omega) (by omega)), cl hS, rp 9 (bf false), wr less, bf false, wr (s0 + less), bf false, cl (@hB (by omega) (by omega)), bf false, cl hS, rp 3 (bf false), wr (s0 - 1), wr less, wr (s0 - 1 - less), rp 6 (df (s0 - 1 - less < 0) hx6), cl (@hC (by omega) (by omega)), rp 3 (df (s0 - 1 - less < 0) hx6)]) Tryz.func4
end
end Go.Proofs.YtgonmmckkikmaaaGreat
namespace Go.Proofs.YtgonmmckkikmaaaGreat
open Go.Pv
set_option maxRecDepth 100000
theorem rName3 (d0 d1 d2 d3 d4 : List (List PV)) (z0 z1 z2 z3 z4 : Nat) (l : List Df) (k : Int) (hk0 : 0 <= k) (hk1 : k <= 255) (hll : l.length <= 1000000000) (hlp : 0 < l.length) (hk2 : ¬ k > 240) (i : Nat) (hi : i < l.length) (hki : Int.tmod k (l.length : Int) = (i : Int)) : Pu 13 ([.agg [.sl z0 d0, .sl z1 d1, .sl z2 d2, .sl z3 d3, .sl z4 d4, .sl 25 (dfsC l)], .int .u8 k]) (.ret (.str (dfNm (List.getD l i default)))) :=
 pu mdL (fun e => [ai (↑((fun x => List.length (Prod.snd x)) (25, dfsC l)) : Int) (l.length : Int) (by (simp only [dfsC_len, hki]; done)), rp 3 (en (l.length : Int) 0), df (k > 240) hk2, wr k, ai (↑((fun x => List.length (Prod.snd x)) (25, dfsC l)) : Int) (l.length : Int) (by (simp only [dfsC_len, hki]; done)), am ((l.length : Int) ≠ 0), ai (Int.tmod k (l.length : Int)) (i : Int) (by (simp only [hki]; done)), am ((0 : Int) <= (i : Int) /\ (i : Int) < ((dfsC l).length : Int)) (by (simp only [dfsC_len, hki]; omega)), ar (List.getD (dfsC l) (Int.toNat (i : Int)) []) (dfL (List.getD l i default)) (by simp only [Int.toNat_natCast, hki]; rw [@dfsC_at (l) (i) hi]; try rfl)]) Tryz.func13
theorem rNameT (d0 d1 d2 d3 d4 : List (List PV)) (z0 z1 z2 z3 z4 : Nat) (l : List Df) (k : Int) (hk0 : 0 <= k) (hk1 : k <= 255) (hll : l.length <= 1000000000) : ∃ nm, Pu 13 [.agg [.sl z0 d0, .sl z1 d1, .sl z2 d2, .sl z3 d3, .sl z4 d4, .sl 25 (dfsC l)], .int .u8 k] (.ret (.str nm)) := by
 by_cases h0 : ((List.length l : Nat) : Int) = 0
 ·exact ⟨_, rName_1 d0 d1 d2 d3 d4 z0 z1 z2 z3 z4 l k hk0 hk1 hll h0⟩
 ·by_cases h1 : k > 240
  ·exact ⟨_, rName_2 d0 d1 d2 d3 d4 z0 z1 z2 z3 z4 l k hk0 hk1 hll h0 h1⟩
  ·have hp : 0 < l.length := by omega
   have e : Int.tmod k (l.length : Int) = ((k.toNat % l.length : Nat) : Int) := by
    rw [Int.tmod_eq_emod_of_nonneg hk0, Int.natCast_emod, Int.toNat_of_nonneg hk0]
   exact ⟨_, rName3 d0 d1 d2 d3 d4 z0 z1 z2 z3 z4 l k hk0 hk1 hll hp h1 _ (Nat.mod_lt _ hp) e⟩
end Go.Proofs.YtgonmmckkikmaaaGreat
namespace Go.Proofs.YtgonmmckkikmaaaGreat
open Go.Pv
set_option maxRecDepth 100000
theorem fl_neg {fu : Int} (h : fu < 0) : fl' fu = 0 := by
 unfold fl' flX
 simp only [if_true, Bool.false_eq_true, if_false]
 split <;> split <;> omega
theorem er24 {o : Oc} (h : ocE o = 24) : o.ud := by
 cases o with
 | ok vs st => exact absurd h (by show ¬ (0 : Int) = 24; decide)
 | er k st wh => exact h
theorem ud24 {o : Oc} (h : o.ud) : ocE o = 24 := by
 cases o with
 | ok vs st => exact h.elim
 | er k st wh => exact h
section
variable (d0 d1 d2 d3 d4 : List (List PV)) (z0 z1 z2 z3 z4 : Nat) (l : List Df)
theorem fuels_true (hx : PV.noX (mdS d0 d1 d2 d3 d4 z0 z1 z2 z3 z4 l) = true) (hl : bulkPss (dfsC l) <= 3000000) (k less fu : Int) (hk0 : 0 <= k) (hk1 : k <= 255) (hls : 0 <= less /\ less <= 255) {args : List Vl} (ha : bulkPss (Vl.cs args) <= 3000000) :
  Pu 4 [mdS d0 d1 d2 d3 d4 z0 z1 z2 z3 z4 l, .agg [.int .u8 k, .sl 7 (Vl.cs args), .int .i64 fu], .int .u8 less] (.ret (.bool true)) := by
 have hsl : SmL l := SmL_bulk (by omega)
 have hsa : SmVs args := SmVs_bulk (by omega)
 have hal := vals_bulk args
 obtain ⟨b0, hLt⟩ := light_ex d0 d1 d2 d3 d4 z0 z1 z2 z3 z4 l hl
 obtain ⟨b1, hFw⟩ := few_ex (vs := args) (by omega) fun v hv => by have := val_bulk hv; omega
 obtain ⟨nm, hNm⟩ := rNameT d0 d1 d2 d3 d4 z0 z1 z2 z3 z4 l k hk0 hk1 hsl.1
 obtain ⟨b2, hBg⟩ := big_ok _ _ _ _ _ l fu hx hsl (name := nm) (args := args) hsa
 have hfl := fl_le fu
 have main : ∃ (v0 v3 : Vl) (e0 s0 s3 : Int) (w0 w3 : ByteArray), Pu 21 [mdS d0 d1 d2 d3 d4 z0 z1 z2 z3 z4 l, .str nm, .sl 7 (Vl.cs args), .int .i64 fu] (.ret (.agg (otL v0 e0 w0 s0))) /\ 0 <= s0 /\ (fu <= 300 -> s0 <= 300 /\ (s0 <= fu ∨ s0 <= 0)) /\ (¬ e0 = 0 -> Pu 22 [.agg (vlL v0), .agg [.int .i64 0, .int .i64 0, .str nm0, .nilsl, .nilsl, .nilsl, .nilsl]] (.ret (.bool true))) /\ (e0 = 24 -> fu <= 300 -> (s0 = fu /\ 0 <= fu) ∨ (s0 = 0 /\ fu < 0)) /\
   (¬ e0 = 24 -> fu <= 300 -> Pu 21 [mdS d0 d1 d2 d3 d4 z0 z1 z2 z3 z4 l, .str nm, .sl 7 (Vl.cs args), .int .i64 s0] (.ret (.agg (otL v0 e0 w0 s0)))) /\ (¬ e0 = 24 -> fu <= 300 -> Pu 21 [mdS d0 d1 d2 d3 d4 z0 z1 z2 z3 z4 l, .str nm, .sl 7 (Vl.cs args), .int .i64 (s0 + less)] (.ret (.agg (otL v0 e0 w0 s0)))) /\
   Pu 15 [.agg (otL v0 e0 w0 s0), .agg (otL v0 e0 w0 s0)] (.ret (.bool true)) /\ (fu <= 300 -> 0 <= s0 - 1 - less -> Pu 21 [mdS d0 d1 d2 d3 d4 z0 z1 z2 z3 z4 l, .str nm, .sl 7 (Vl.cs args), .int .i64 (s0 - 1 - less)] (.ret (.agg (otL v3 24 w3 s3)))) := by
  have hd : SmV default := SmV_vX 0 0
  have hdf : ∀ v0 : Vl, v0 = default -> Pu 22 [.agg (vlL v0), .agg [.int .i64 0, .int .i64 0, .str nm0, .nilsl, .nilsl, .nilsl, .nilsl]] (.ret (.bool true)) := by
   rintro v0 rfl
   exact Ob.pur_arg (.c (.r _) (.c (.a (.c (.r _) (.c (.r _) (.c (.r _) (.c (.n 7) (.c (.n 1) (.c (.n 7) (.c (.n 8) (.r _))))))))) (.r _))) (rSameV hd)
  cases hf : findD nm l with
  | none =>
   have h0 := fun f : Int => eCall_ok _ _ _ _ _ l f hx hsl hsa (.inl ⟨hf, rfl⟩)
   exact ⟨default, default, 19, 0, 0, nm0, nm0, h0 fu, Int.le_refl _, fun _ => ⟨by omega, .inr (Int.le_refl _)⟩, fun _ => hdf _ rfl, fun h => absurd h (by decide), fun _ _ => h0 0, fun _ _ => h0 _, rSameOT hd _ _ _, fun _ h => by omega⟩
  | some d =>
   obtain ⟨o, ho⟩ := total_call semE l (fl' fu) d args 0 nm0
   have h0 := fun (f : Int) (o : Oc) (h : Ev semE l (fl' f) (.call d args) 0 nm0 o) => eCall_ok _ _ _ _ _ l f hx hsl hsa (.inr ⟨d, hf, h⟩)
   have hm := ho.mono
   have hu := ho.upto hfl.2
   have hsm := Ev.small semE_small hsl ho ⟨hsl.2 _ (findD_mem hf), hsa⟩
   have hsp := fun h => ho.spent h hfl.2
   have hre := fun (h : ¬ ocE o = 24) (f : Int) (h1 : o.st <= f) => ho.refuel (fuel2 := f) (fun hh => h (ud24 hh)) h1
   have hst : ∀ f : Int, 0 <= f -> f < o.st -> ∃ w, Ev semE l f (.call d args) 0 nm0 (.er 24 f w) := fun f h1 h2 => ho.starve h1 h2
   have hlim : fu <= 300 -> o.st <= 300 := fun h => by
    by_cases hn : fu < 0
    ·rw [fl_neg hn] at hu; omega
    ·rw [fl_eq (by omega) (by omega)] at hu; omega
   have hC : ∃ (v3 : Vl) (s3 : Int) (w3 : ByteArray), fu <= 300 -> 0 <= o.st - 1 - less -> Pu 21 [mdS d0 d1 d2 d3 d4 z0 z1 z2 z3 z4 l, .str nm, .sl 7 (Vl.cs args), .int .i64 (o.st - 1 - less)] (.ret (.agg (otL v3 24 w3 s3))) := by
    by_cases h1 : 0 <= o.st - 1 - less
    ·obtain ⟨w, hw⟩ := hst (o.st - 1 - less) h1 (by omega)
     refine ⟨default, _, w, fun h2 _ => h0 _ (.er 24 (o.st - 1 - less) w) ?_⟩
     have := hlim h2
     rw [fl_eq h1 (by omega)]
     exact hw
    ·exact ⟨default, 0, nm0, fun _ h => (h1 h).elim⟩
   obtain ⟨v3, s3, w3, hC⟩ := hC
   have hO := fun (f : Int) (h : Ev semE l (fl' f) (.call d args) 0 nm0 o) => by
    have := h0 f o h
    rw [ocL_eq o] at this
    exact this
   refine ⟨ocV o, v3, ocE o, o.st, s3, ocW o, w3, hO _ ho, hm, fun h => ⟨hlim h, ?_⟩, fun he => hdf _ ?_, fun he h => ?_, fun he h => hO _ ?_, fun he h => hO _ ?_, rSameOT (ocV_sm hsm) _ _ _, hC⟩
   ·by_cases hn : fu < 0
    ·rw [fl_neg hn] at hu; exact .inr hu
    ·rw [fl_eq (by omega) (by omega)] at hu; exact .inl hu
   ·cases o with
    | ok vs st => exact (he rfl).elim
    | er _ _ _ => rfl
   ·have := hsp (er24 he)
    by_cases hn : fu < 0
    ·rw [fl_neg hn] at this; exact .inr ⟨this, hn⟩
    ·rw [fl_eq (by omega) (by omega)] at this; exact .inl ⟨this, by omega⟩
   ·have := hlim h
    rw [fl_eq hm (by omega)]
    exact hre he _ (Int.le_refl _)
   ·have := hlim h
    rw [fl_eq (by omega) (by omega)]
    exact hre he _ (by omega)
 obtain ⟨v0, v3, e0, s0, s3, w0, w3, m0, m1, m2, m3, m4, m5, m6, m7, m8⟩ := main
 rcases Bool.eq_false_or_eq_true b0 with h0 | h0
 case inr => exact fuels_1 _ _ _ _ _ l k args fu less nm b0 b1 b2 hls hLt hFw awake_ok hNm hBg v0 v3 e0 s0 s3 w0 w3 m0 m1 m2 m3 m4 m5 m6 m7 m8 h0
 rcases Bool.eq_false_or_eq_true b1 with h1 | h1
 case inr => exact fuels_2 _ _ _ _ _ l k args fu less nm b0 b1 b2 hls hLt hFw awake_ok hNm hBg v0 v3 e0 s0 s3 w0 w3 m0 m1 m2 m3 m4 m5 m6 m7 m8 h0 h1
 by_cases h2 : fu > 300
 ·exact fuels_3 _ _ _ _ _ l k args fu less nm b0 b1 b2 hls hLt hFw awake_ok hNm hBg v0 v3 e0 s0 s3 w0 w3 m0 m1 m2 m3 m4 m5 m6 m7 m8 h0 h1 h2
 rcases Bool.eq_false_or_eq_true b2 with h3 | h3
 ·exact fuels_4 _ _ _ _ _ l k args fu less nm b0 b1 b2 hls hLt hFw awake_ok hNm hBg v0 v3 e0 s0 s3 w0 w3 m0 m1 m2 m3 m4 m5 m6 m7 m8 h0 h1 h2 h3
 have hm : (if true = true then if 0 > fu then (0 : Int) else fu else if 0 < fu then 0 else fu) = if 0 > fu then 0 else fu := if_pos rfl
 have h4 : ¬ s0 > (if true = true then if 0 > fu then (0 : Int) else fu else if 0 < fu then 0 else fu) := by
  rw [hm]
  have := m2 (by omega)
  split <;> omega
 by_cases h5 : e0 = 0
 ·by_cases h6 : s0 - 1 - less < 0
  ·exact fuels_9 _ _ _ _ _ l k args fu less nm b0 b1 b2 hls hLt hFw awake_ok hNm hBg v0 v3 e0 s0 s3 w0 w3 m0 m1 m2 m3 m4 m5 m6 m7 m8 h0 h1 h2 h3 h4 h5 h6
  ·exact fuels_10 _ _ _ _ _ l k args fu less nm b0 b1 b2 hls hLt hFw awake_ok hNm hBg v0 v3 e0 s0 s3 w0 w3 m0 m1 m2 m3 m4 m5 m6 m7 m8 h0 h1 h2 h3 h4 h5 h6
 by_cases h6 : e0 = 24
 ·have := fuels_6 _ _ _ _ _ l k args fu less nm b0 b1 b2 hls hLt hFw awake_ok hNm hBg v0 v3 e0 s0 s3 w0 w3 m0 m1 m2 m3 m4 m5 m6 m7 m8 h0 h1 h2 h3 h4 h5 h6
  have e : (s0 == if true = true then if 0 > fu then (0 : Int) else fu else if 0 < fu then 0 else fu) = true := by
   rw [hm]
   have := m4 h6 (by omega)
   apply beq_iff_eq.2
   split <;> omega
  rw [e] at this
  exact this
 by_cases h7 : s0 - 1 - less < 0
 ·exact fuels_7 _ _ _ _ _ l k args fu less nm b0 b1 b2 hls hLt hFw awake_ok hNm hBg v0 v3 e0 s0 s3 w0 w3 m0 m1 m2 m3 m4 m5 m6 m7 m8 h0 h1 h2 h3 h4 h5 h6 h7
 ·exact fuels_8 _ _ _ _ _ l k args fu less nm b0 b1 b2 hls hLt hFw awake_ok hNm hBg v0 v3 e0 s0 s3 w0 w3 m0 m1 m2 m3 m4 m5 m6 m7 m8 h0 h1 h2 h3 h4 h5 h6 h7
end
end Go.Proofs.YtgonmmckkikmaaaGreat
