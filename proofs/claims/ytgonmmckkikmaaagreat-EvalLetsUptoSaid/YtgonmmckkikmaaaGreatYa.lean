/- What the law says of pure values. -/
import Derived.Test.YtgonmmckkikmaaaGreatXq
import Derived.Test.YtgonmmckkikmaaaGreatXp
set_option linter.unusedSectionVars false
set_option linter.unusedSimpArgs false
set_option linter.unusedVariables false
namespace Go.Proofs.YtgonmmckkikmaaaGreat
open Go.Pv
set_option maxRecDepth 100000
abbrev bothP (x : Ex) (xn : ByteArray) : PV := .agg [.int .i64 7, .str xn, .int .i64 0, .sl 7 [exL ((exK x).getD 0 default), exL ((exK x).getD 1 default)], .nilsl, .nilsl, .nilsl]
section
variable (c0 c1 c2 c3 c4 : PV) (l : List Df) (bs : List Bd) (x : Ex) (fu : Int) (xn : ByteArray) (b0 b1 b2 : Bool) (nd : Int) (vs : List Vl) (hbl : bs.length <= 1000000000) (hLt : Pu 8 [mdM c0 c1 c2 c3 c4 l] (.ret (.bool b0))) (hNd : Pu 9 [.agg (exL x)] (.ret (.int .i64 nd))) (hVs : Pu 11 [.sl 8 (Bd.cs bs)] (.ret (.sl 7 (Vl.cs vs)))) (hFw : Pu 10 [.sl 7 (Vl.cs vs)] (.ret (.bool b1))) (hAw : Pu 12 [] (.ret (.bool true))) (hBg : Pu 14 [mdM c0 c1 c2 c3 c4 l, .sl 8 (Bd.cs bs), bothP x xn, .int .i64 fu] (.ret (.bool b2))) (v0 v1 v2 : Vl) (e0 e1 e2 s0 s1 s2 : Int) (w0 w1 w2 : ByteArray) (hO : Pu 16 [mdM c0 c1 c2 c3 c4 l, .sl 8 (Bd.cs bs), bothP x xn, .int .i64 fu] (.ret (.agg (otL v0 e0 w0 s0)))) (hP : Pu 16 [mdM c0 c1 c2 c3 c4 l, .sl 8 (Bd.cs bs), .agg (exL ((exK x).getD 0 default)), .int .i64 fu] (.ret (.agg (otL v1 e1 w1 s1)))) (hs1 : 0 <= s1 /\ s1 <= 1000000) (hs2 : 0 <= s2 /\ s2 <= 1000000) (hQ : e1 = 0 -> 0 <= fu -> fu <= 300 -> Pu 16 [mdM c0 c1 c2 c3 c4 l, .sl 8 (Bd.cs bs ++ [.str xn :: vlL v1]), .agg (exL ((exK x).getD 1 default)), .int .i64 (fu - s1)] (.ret (.agg (otL v2 e2 w2 s2)))) (hSA : ¬ e1 = 0 -> Pu 15 [.agg (otL v0 e0 w0 s0), .agg (otL v1 e1 w1 s1)] (.ret (.bool true))) (hSB : e1 = 0 -> 0 <= fu -> fu <= 300 -> Pu 15 [.agg (otL v0 e0 w0 s0), .agg (otL v2 e2 w2 (s2 + s1))] (.ret (.bool true)))
include c0 c1 c2 c3 c4 l bs x fu xn b0 b1 b2 nd vs hbl hLt hNd hVs hFw hAw hBg v0 v1 v2 e0 e1 e2 s0 s1 s2 w0 w1 w2 hO hP hs1 hs2 hQ hSA hSB
theorem lets_1 (hx0 : b0 = false) : Pu 5 ([mdM c0 c1 c2 c3 c4 l, .agg (.sl 8 (Bd.cs bs) :: (exL x ++ [pI fu])), .str xn]) (rB true) :=
 pu mdL (fun e => [cl hLt, rp 5 (bt (!b0) (bnT hx0)), rp 30 (bt true), cl hAw]) Tryz.func5
theorem lets_2 (hx0 : b0 = true) (hx1 : nd > 100) : Pu 5 ([mdM c0 c1 c2 c3 c4 l, .agg (.sl 8 (Bd.cs bs) :: (exL x ++ [pI fu])), .str xn]) (rB true) :=
 pu mdL (fun e => [cl hLt, rp 3 (bf (!b0) (bnF hx0)), cl hNd, rp 2 (bf (!b0) (bnF hx0)), rp 5 (dt (nd > 100) hx1), rp 25 (bt true), cl hAw]) Tryz.func5
theorem lets_3 (hx0 : b0 = true) (hx1 : ¬nd > 100) (hx2 : (bs.length : Int) > 10) : Pu 5 ([mdM c0 c1 c2 c3 c4 l, .agg (.sl 8 (Bd.cs bs) :: (exL x ++ [pI fu])), .str xn]) (rB true) :=
 pu mdL (fun e => [cl hLt, rp 3 (bf (!b0) (bnF hx0)), cl hNd, rp 2 (bf (!b0) (bnF hx0)), rp 3 (df (nd > 100) hx1), sl (Bd.cs_len bs), rp 2 (df (nd > 100) hx1), rp 6 (dt ((bs.length : Int) > 10) hx2), rp 19 (bt true), cl hAw]) Tryz.func5
theorem lets_4 (hx0 : b0 = true) (hx1 : ¬nd > 100) (hx2 : ¬(bs.length : Int) > 10) (hx3 : b1 = false) : Pu 5 ([mdM c0 c1 c2 c3 c4 l, .agg (.sl 8 (Bd.cs bs) :: (exL x ++ [pI fu])), .str xn]) (rB true) :=
 pu mdL (fun e => [cl hLt, rp 3 (bf (!b0) (bnF hx0)), cl hNd, rp 2 (bf (!b0) (bnF hx0)), rp 3 (df (nd > 100) hx1), sl (Bd.cs_len bs), rp 2 (df (nd > 100) hx1), rp 3 (df ((bs.length : Int) > 10) hx2), cl hVs, df ((bs.length : Int) > 10) hx2, cl hFw, rp 2 (df ((bs.length : Int) > 10) hx2), rp 4 (bt (!b1) (bnT hx3)), rp 15 (bt true), cl hAw]) Tryz.func5
theorem lets_5 (hx0 : b0 = true) (hx1 : ¬nd > 100) (hx2 : ¬(bs.length : Int) > 10) (hx3 : b1 = true) (hx4 : fu > 300) : Pu 5 ([mdM c0 c1 c2 c3 c4 l, .agg (.sl 8 (Bd.cs bs) :: (exL x ++ [pI fu])), .str xn]) (rB true) :=
 pu mdL (fun e => [cl hLt, rp 3 (bf (!b0) (bnF hx0)), cl hNd, rp 2 (bf (!b0) (bnF hx0)), rp 3 (df (nd > 100) hx1), sl (Bd.cs_len bs), rp 2 (df (nd > 100) hx1), rp 3 (df ((bs.length : Int) > 10) hx2), cl hVs, df ((bs.length : Int) > 10) hx2, cl hFw, rp 2 (df ((bs.length : Int) > 10) hx2), rp 4 (bf (!b1) (bnF hx3)), rp 4 (dt (fu > 300) hx4), rp 11 (bt true), cl hAw]) Tryz.func5
theorem lets_6 (hx0 : b0 = true) (hx1 : ¬nd > 100) (hx2 : ¬(bs.length : Int) > 10) (hx3 : b1 = true) (hx4 : ¬fu > 300) (hx5 : fu < 0) : Pu 5 ([mdM c0 c1 c2 c3 c4 l, .agg (.sl 8 (Bd.cs bs) :: (exL x ++ [pI fu])), .str xn]) (rB true) :=
 pu mdL (fun e => [cl hLt, rp 3 (bf (!b0) (bnF hx0)), cl hNd, rp 2 (bf (!b0) (bnF hx0)), rp 3 (df (nd > 100) hx1), sl (Bd.cs_len bs), rp 2 (df (nd > 100) hx1), rp 3 (df ((bs.length : Int) > 10) hx2), cl hVs, df ((bs.length : Int) > 10) hx2, cl hFw, rp 2 (df ((bs.length : Int) > 10) hx2), rp 4 (bf (!b1) (bnF hx3)), rp 4 (df (fu > 300) hx4), rp 6 (dt (fu < 0) hx5), rp 5 (bt true), cl hAw]) Tryz.func5
theorem lets_7 (hx0 : b0 = true) (hx1 : ¬nd > 100) (hx2 : ¬(bs.length : Int) > 10) (hx3 : b1 = true) (hx4 : ¬fu > 300) (hx5 : ¬fu < 0) (hx6 : ((exK x).length : Int) < 2) : Pu 5 ([mdM c0 c1 c2 c3 c4 l, .agg (.sl 8 (Bd.cs bs) :: (exL x ++ [pI fu])), .str xn]) (rB true) :=
 pu mdL (fun e => [cl hLt, rp 3 (bf (!b0) (bnF hx0)), cl hNd, rp 2 (bf (!b0) (bnF hx0)), rp 3 (df (nd > 100) hx1), sl (Bd.cs_len bs), rp 2 (df (nd > 100) hx1), rp 3 (df ((bs.length : Int) > 10) hx2), cl hVs, df ((bs.length : Int) > 10) hx2, cl hFw, rp 2 (df ((bs.length : Int) > 10) hx2), rp 4 (bf (!b1) (bnF hx3)), rp 4 (df (fu > 300) hx4), rp 4 (df (fu < 0) hx5), sl (Ex.cs_len (exK x)), rp 2 (df (fu < 0) hx5), rp 4 (dt (((exK x).length : Int) < 2) hx6), bt true, cl hAw]) Tryz.func5
theorem lets_8 (hx0 : b0 = true) (hx1 : ¬nd > 100) (hx2 : ¬(bs.length : Int) > 10) (hx3 : b1 = true) (hx4 : ¬fu > 300) (hx5 : ¬fu < 0) (hx6 : ¬((exK x).length : Int) < 2) (hx7 : (↑(ByteArray.size xn) : Int) > 50) : Pu 5 ([mdM c0 c1 c2 c3 c4 l, .agg (.sl 8 (Bd.cs bs) :: (exL x ++ [pI fu])), .str xn]) (rB true) :=
 pu mdL (fun e => [cl hLt, rp 3 (bf (!b0) (bnF hx0)), cl hNd, rp 2 (bf (!b0) (bnF hx0)), rp 3 (df (nd > 100) hx1), sl (Bd.cs_len bs), rp 2 (df (nd > 100) hx1), rp 3 (df ((bs.length : Int) > 10) hx2), cl hVs, df ((bs.length : Int) > 10) hx2, cl hFw, rp 2 (df ((bs.length : Int) > 10) hx2), rp 4 (bf (!b1) (bnF hx3)), rp 4 (df (fu > 300) hx4), rp 4 (df (fu < 0) hx5), sl (Ex.cs_len (exK x)), rp 2 (df (fu < 0) hx5), rp 2 (df (((exK x).length : Int) < 2) hx6), kp, rp 2 (df (((exK x).length : Int) < 2) hx6), dt ((↑(ByteArray.size xn) : Int) > 50) hx7, cl hAw]) Tryz.func5
theorem lets_9 (hx0 : b0 = true) (hx1 : ¬nd > 100) (hx2 : ¬(bs.length : Int) > 10) (hx3 : b1 = true) (hx4 : ¬fu > 300) (hx5 : ¬fu < 0) (hx6 : ¬((exK x).length : Int) < 2) (hx7 : ¬(↑(ByteArray.size xn) : Int) > 50) (hx8 : b2 = true) : Pu 5 ([mdM c0 c1 c2 c3 c4 l, .agg (.sl 8 (Bd.cs bs) :: (exL x ++ [pI fu])), .str xn]) (rB true) :=
 pu mdL (fun e => [cl hLt, rp 3 (bf (!b0) (bnF hx0)), cl hNd, rp 2 (bf (!b0) (bnF hx0)), rp 3 (df (nd > 100) hx1), sl (Bd.cs_len bs), rp 2 (df (nd > 100) hx1), rp 3 (df ((bs.length : Int) > 10) hx2), cl hVs, df ((bs.length : Int) > 10) hx2, cl hFw, rp 2 (df ((bs.length : Int) > 10) hx2), rp 4 (bf (!b1) (bnF hx3)), rp 4 (df (fu > 300) hx4), rp 4 (df (fu < 0) hx5), sl (Ex.cs_len (exK x)), rp 2 (df (fu < 0) hx5), rp 2 (df (((exK x).length : Int) < 2) hx6), kp, rp 2 (df (((exK x).length : Int) < 2) hx6), df ((↑(ByteArray.size xn) : Int) > 50) hx7, am ((0 : Int) <= 0 /\ 0 < ((Ex.cs (exK x)).length : Int)) (by (simp only [Ex.cs_len]; omega)), xEx (exK x) 0, am ((0 : Int) <= 1 /\ 1 < ((Ex.cs (exK x)).length : Int)) (by (simp only [Ex.cs_len]; omega)), xEx (exK x) 1, cl hBg, bt b2 hx8, cl hAw]) Tryz.func5
theorem lets_10 (hx0 : b0 = true) (hx1 : ¬nd > 100) (hx2 : ¬(bs.length : Int) > 10) (hx3 : b1 = true) (hx4 : ¬fu > 300) (hx5 : ¬fu < 0) (hx6 : ¬((exK x).length : Int) < 2) (hx7 : ¬(↑(ByteArray.size xn) : Int) > 50) (hx8 : b2 = false) (hx9 : ¬e1 = 0) : Pu 5 ([mdM c0 c1 c2 c3 c4 l, .agg (.sl 8 (Bd.cs bs) :: (exL x ++ [pI fu])), .str xn]) (rB true) :=
 pu mdL (fun e => [cl hLt, rp 3 (bf (!b0) (bnF hx0)), cl hNd, rp 2 (bf (!b0) (bnF hx0)), rp 3 (df (nd > 100) hx1), sl (Bd.cs_len bs), rp 2 (df (nd > 100) hx1), rp 3 (df ((bs.length : Int) > 10) hx2), cl hVs, df ((bs.length : Int) > 10) hx2, cl hFw, rp 2 (df ((bs.length : Int) > 10) hx2), rp 4 (bf (!b1) (bnF hx3)), rp 4 (df (fu > 300) hx4), rp 4 (df (fu < 0) hx5), sl (Ex.cs_len (exK x)), rp 2 (df (fu < 0) hx5), rp 2 (df (((exK x).length : Int) < 2) hx6), kp, rp 2 (df (((exK x).length : Int) < 2) hx6), df ((↑(ByteArray.size xn) : Int) > 50) hx7, am ((0 : Int) <= 0 /\ 0 < ((Ex.cs (exK x)).length : Int)) (by (simp only [Ex.cs_len]; omega)), xEx (exK x) 0, am ((0 : Int) <= 1 /\ 1 < ((Ex.cs (exK x)).length : Int)) (by (simp only [Ex.cs_len]; omega)), xEx (exK x) 1, cl hBg, bf b2 hx8, cl hO, cl hP, nt e1 0 hx9, cl (@hSA hx9), bt true, cl hAw, bt true]) Tryz.func5
theorem lets_11 (hx0 : b0 = true) (hx1 : ¬nd > 100) (hx2 : ¬(bs.length : Int) > 10) (hx3 : b1 = true) (hx4 : ¬fu > 300) (hx5 : ¬fu < 0) (hx6 : ¬((exK x).length : Int) < 2) (hx7 : ¬(↑(ByteArray.size xn) : Int) > 50) (hx8 : b2 = false) (hx9 : e1 = 0) : Pu 5 ([mdM c0 c1 c2 c3 c4 l, .agg (.sl 8 (Bd.cs bs) :: (exL x ++ [pI fu])), .str xn]) (rB true) :=
 pu mdL (fun e => [cl hLt, rp 3 (bf (!b0) (bnF hx0)), cl hNd, rp 2 (bf (!b0) (bnF hx0)), rp 3 (df (nd > 100) hx1), sl (Bd.cs_len bs), rp 2 (df (nd > 100) hx1), rp 3 (df ((bs.length : Int) > 10) hx2), cl hVs, df ((bs.length : Int) > 10) hx2, cl hFw, rp 2 (df ((bs.length : Int) > 10) hx2), rp 4 (bf (!b1) (bnF hx3)), rp 4 (df (fu > 300) hx4), rp 4 (df (fu < 0) hx5), sl (Ex.cs_len (exK x)), rp 2 (df (fu < 0) hx5), rp 2 (df (((exK x).length : Int) < 2) hx6), kp, rp 2 (df (((exK x).length : Int) < 2) hx6), df ((↑(ByteArray.size xn) : Int) > 50) hx7, am ((0 : Int) <= 0 /\ 0 < ((Ex.cs (exK x)).length : Int)) (by (simp only [Ex.cs_len]; omega)), xEx (exK x) 0, am ((0 : Int) <= 1 /\ 1 < ((Ex.cs (exK x)).length : Int)) (by (simp only [Ex.cs_len]; omega)), xEx (exK x) 1, cl hBg, bf b2 hx8, cl hO, cl hP, nn e1 0 hx9, am (List.length ([] ++ (fun x => Prod.snd x) (8, Bd.cs bs)) * (143 + 1) <= 140737488355328) (by (simp only [List.length_append, List.length_nil, Bd.cs_len]; omega)), am (List.length ([] ++ (fun x => Prod.snd x) (8, Bd.cs bs) ++ (fun x => Prod.snd x) (7 + 1, [splice (splice [.str (ByteArray.mk #[]), pI 0, pI 0, .str (ByteArray.mk #[]), .nilsl, .nilsl, .nilsl, .nilsl] (Field.offset (Field.mk "Name" 9 0 false "" "" 0)) [.str xn]) (Field.offset (Field.mk "Value" 52 1 false "" "" 16)) (vlL v1)])) * (143 + 1) <= 140737488355328) (by (simp only [List.length_append, List.length_cons, List.length_nil, Ex.cs_len, Vl.cs_len, Bd.cs_len, nmsC_len]; omega)), wr (fu - s1), cl (@hQ hx9 (by omega) (by omega)), wr (s2 + s1), cl (@hSB hx9 (by omega) (by omega)), bt true, cl hAw, bt true]) Tryz.func5
end
end Go.Proofs.YtgonmmckkikmaaaGreat
namespace Go.Proofs.YtgonmmckkikmaaaGreat
open Go.Pv
set_option maxRecDepth 100000
theorem vs_mem : ∀ {l : List Bd} {i : Nat} {out : List Vl} {v : Vl}, v ∈ vsS_f l i out -> v ∈ out ∨ ∃ b ∈ l, v = bdV b
 | [], i, out, v, h => .inl (by simpa [vsS_f] using h)
 | b :: r, i, out, v, h => by
  rw [vsS_f] at h
  split at h
  ·rcases vs_mem h with h | ⟨c, hc, rfl⟩
   ·rcases List.mem_append.1 h with h | h
    ·exact .inl h
    ·rw [List.mem_singleton] at h; exact .inr ⟨b, List.mem_cons_self, h⟩
   ·exact .inr ⟨c, List.mem_cons_of_mem _ hc, rfl⟩
  ·exact .inl h
theorem vs_len : ∀ {l : List Bd} {i : Nat} {out : List Vl}, (vsS_f l i out).length <= out.length + l.length
 | [], i, out => by simp [vsS_f]
 | b :: r, i, out => by
  rw [vsS_f]
  split
  ·have := vs_len (l := r) (i := i + 1) (out := out ++ [bdV b])
   simp only [List.length_append, List.length_cons, List.length_nil] at this ⊢
   omega
  ·simp only [List.length_cons]; omega
theorem kid_sz (x : Ex) (i : Nat) : szE (kid x i) <= szE x := by
 have h1 := szE_eq x
 rcases Nat.lt_or_ge i (exK x).length with h | h
 ·have h2 : kid x i ∈ exK x := by unfold kid; simp [List.getD, h]
  have := exs_bulk h2
  omega
 ·have h2 : kid x i = default := by unfold kid; simp [List.getD, h]
  rw [h2]
  have h3 := szE_eq (default : Ex)
  have h4 : szE (default : Ex) = 7 := by rw [h3]; rfl
  omega
abbrev bothX (x : Ex) (xn : ByteArray) : Ex := .mk 7 xn 0 [kid x 0, kid x 1] [] [] []
theorem bothX_sz (x : Ex) (xn : ByteArray) : szE (bothX x xn) <= xn.size + 2 * szE x + 7 := by
 have h1 := szE_eq (bothX x xn)
 have h2 := kid_sz x 0
 have h3 := kid_sz x 1
 have e : bulkPss (Ex.cs (exK (bothX x xn))) = szE (kid x 0) + szE (kid x 1) := by
  simp only [exK, Ex.cs, bulkPss, Ex.c_eq, szE]; omega
 rw [e] at h1
 have e2 : bulkPss (pmsC (exP (bothX x xn))) = 0 := rfl
 have e3 : bulkPss (Al.cs (exA (bothX x xn))) = 0 := rfl
 have e4 : bulkPss (Tp.cs (exT (bothX x xn))) = 0 := rfl
 have e5 : exNm (bothX x xn) = xn := rfl
 rw [e2, e3, e4, e5] at h1
 omega
theorem bothP_wk (x : Ex) (xn : ByteArray) : Wk (bothP x xn) (.agg (exL (bothX x xn))) := by
 have e : Ex.cs (exK (bothX x xn)) = [exL (kid x 0), exL (kid x 1)] := by simp only [exK, Ex.cs, Ex.c_eq]
 show Wk _ (.agg [.int .i64 7, .str xn, .int .i64 0, .sl 7 (Ex.cs (exK (bothX x xn))), .sl 10 [], .sl 9 [], .sl 9 []])
 rw [e]
 exact .a (.c (.r _) (.c (.r _) (.c (.r _) (.c (.r _) (.c (.n 10) (.c (.n 9) (.c (.n 9) (.r _))))))))
theorem bothX_rt (x : Ex) (xn : ByteArray) : rt (bothX x xn) := rfl
section
variable (d0 d1 d2 d3 d4 : List (List PV)) (z0 z1 z2 z3 z4 : Nat) (l : List Df)
abbrev mdS : PV := mdM (.sl z0 d0) (.sl z1 d1) (.sl z2 d2) (.sl z3 d3) (.sl z4 d4) l
theorem light_ex (hl : bulkPss (dfsC l) <= 3000000) : ∃ b, Pu 8 [mdS d0 d1 d2 d3 d4 z0 z1 z2 z3 z4 l] (.ret (.bool b)) := by
 have hs : SmL l := SmL_bulk (by omega)
 exact ⟨_, rLight d0 d1 d2 d3 d4 z0 z1 z2 z3 z4 l (fun w hw => rNodesT (hs.2 w hw).1) hs.1⟩
theorem few_ex {vs : List Vl} (hn : vs.length <= 1000000000) (h : ∀ v ∈ vs, szV v <= 3000000) : ∃ b, Pu 10 [.sl 7 (Vl.cs vs)] (.ret (.bool b)) :=
 ⟨_, rFew vs hn fun w m hw => rPartsT (by have := h w hw; omega) m⟩
theorem lets_true (hx : PV.noX (mdS d0 d1 d2 d3 d4 z0 z1 z2 z3 z4 l) = true) (hl : bulkPss (dfsC l) <= 3000000) {bs : List Bd} (hb : bulkPss (Bd.cs bs) <= 3000000) {x : Ex} (he : szE x <= 3000000) {xn : ByteArray} (hn : xn.size <= 3000000) (fu : Int) :
  Pu 5 [mdS d0 d1 d2 d3 d4 z0 z1 z2 z3 z4 l, .agg (.sl 8 (Bd.cs bs) :: (exL x ++ [.int .i64 fu])), .str xn] (.ret (.bool true)) := by
 have hsl : SmL l := SmL_bulk (by omega)
 have hsb : SmBs bs := SmBs_bulk (by omega)
 have hbl := bds_bulk bs
 have hbz := bothX_sz x xn
 have hk0 := kid_sz x 0
 have hk1 := kid_sz x 1
 obtain ⟨b0, hLt⟩ := light_ex d0 d1 d2 d3 d4 z0 z1 z2 z3 z4 l hl
 have hNd := rNodesT (x := x) (by omega)
 have hVs := rValues bs (by omega)
 have hvl := vs_len (l := bs) (i := 0) (out := [])
 simp only [List.length_nil] at hvl
 obtain ⟨b1, hFw⟩ := few_ex (vs := vsS_f bs 0 []) (by omega) fun v hv => by
  rcases vs_mem hv with h | ⟨b, hb', rfl⟩
  ·cases h
  ·have := bdv_bulk hb'; omega
 obtain ⟨b2, hBg0⟩ := bigExpr_ok _ _ _ _ _ l fu hx hsl (bs := bs) (x := bothX x xn) hsb (by omega)
 have hBg : Pu 14 [mdS d0 d1 d2 d3 d4 z0 z1 z2 z3 z4 l, .sl 8 (Bd.cs bs), bothP x xn, .int .i64 fu] (.ret (.bool b2)) := Ob.pur_arg (.c (.r _) (.c (.r _) (.c (bothP_wk x xn) (.r _)))) hBg0
 obtain ⟨p, hp⟩ := total_ex semE l (fl' fu) bs.reverse (kid x 0) 0 nm0
 have hP := eExpr_ok _ _ _ _ _ l fu hx hsl (bs := bs) (x := kid x 0) hsb (by omega) (by omega) hp
 rw [ocL_eq p] at hP
 have hpm := hp.mono
 have hpu := hp.upto (fl_le fu).2
 have hfl := (fl_le fu).1
 have hO : ∀ o, Ev semE l (fl' fu) (.ex bs.reverse (bothX x xn)) 0 nm0 o -> Pu 16 [mdS d0 d1 d2 d3 d4 z0 z1 z2 z3 z4 l, .sl 8 (Bd.cs bs), bothP x xn, .int .i64 fu] (.ret (.agg (otL (ocV o) (ocE o) (ocW o) o.st))) := fun o ho => by
  have := eExpr_ok _ _ _ _ _ l fu hx hsl (bs := bs) (x := bothX x xn) hsb (by omega) (by omega) ho
  rw [ocL_eq o] at this
  exact Ob.pur_arg (.c (.r _) (.c (.r _) (.c (bothP_wk x xn) (.r _)))) this
 have psm := Ev.small semE_small hsl hp ⟨SmBs_rev.2 hsb, by omega⟩
 have main : ∃ (v0 v2 : Vl) (e0 e2 s0 s2 : Int) (w0 w2 : ByteArray), Pu 16 [mdS d0 d1 d2 d3 d4 z0 z1 z2 z3 z4 l, .sl 8 (Bd.cs bs), bothP x xn, .int .i64 fu] (.ret (.agg (otL v0 e0 w0 s0))) /\ (0 <= s2 /\ s2 <= 1000000) /\
   (ocE p = 0 -> 0 <= fu -> fu <= 300 -> Pu 16 [mdS d0 d1 d2 d3 d4 z0 z1 z2 z3 z4 l, .sl 8 (Bd.cs bs ++ [.str xn :: vlL (ocV p)]), .agg (exL (kid x 1)), .int .i64 (fu - p.st)] (.ret (.agg (otL v2 e2 w2 s2)))) /\
   (¬ ocE p = 0 -> Pu 15 [.agg (otL v0 e0 w0 s0), .agg (otL (ocV p) (ocE p) (ocW p) p.st)] (.ret (.bool true))) /\
   (ocE p = 0 -> 0 <= fu -> fu <= 300 -> Pu 15 [.agg (otL v0 e0 w0 s0), .agg (otL v2 e2 w2 (s2 + p.st))] (.ret (.bool true))) := by
  cases p with
  | er k s w =>
   have hk : ¬ k = 0 := hp.nz
   exact ⟨_, default, _, 0, _, 0, _, nm0, hO _ (.exTe (bothX_rt x xn) rfl hp), ⟨by omega, by omega⟩, fun h => (hk h).elim, fun _ => rSameOT (ocV_sm psm) _ _ _, fun h => (hk h).elim⟩
  | ok vs s =>
   obtain ⟨v, rfl⟩ := sh1 hp.shape trivial
   obtain ⟨q, hq⟩ := total_ex semE l (fl' fu) (.mk xn v :: bs.reverse) (kid x 1) s nm0
   have hvs : SmV v := psm.1
   have hqm := hq.mono
   simp only [ok_st] at hpm hpu
   have hqu := hq.upto hpu
   have hqs := Ev.small semE_small hsl hq ⟨SmBs_cons.2 ⟨hvs, SmBs_rev.2 hsb⟩, by omega⟩
   have hsh := hq.shift s
   rw [Int.sub_self] at hsh
   refine ⟨_, ocV q, _, ocE q, _, q.st - s, _, ocW q, hO _ (.exTo (bothX_rt x xn) rfl hp hq), ⟨by omega, by omega⟩, fun _ h0 h1 => ?_, fun h => (h rfl).elim, fun _ _ _ => ?_⟩
   ·have hf : fl' fu = fu := fl_eq h0 (by omega)
    have hf2 : fl' (fu - s) = fu - s := fl_eq (by omega) (by omega)
    rw [hf, <- hf2] at hsh
    have hr : (bs ++ [Bd.mk xn v]).reverse = .mk xn v :: bs.reverse := by simp
    rw [<- hr] at hsh
    have hsb2 : SmBs (bs ++ [Bd.mk xn v]) := SmBs_app.2 ⟨hsb, SmBs_cons.2 ⟨hvs, SmBs_nil⟩⟩
    have := eExpr_ok _ _ _ _ _ l (fu - s) hx hsl hsb2 (by simp only [List.length_append, List.length_cons, List.length_nil]; omega) (by omega) hsh
    rw [ocL_eq, ocV_sh, ocE_sh, ocW_sh, st_sh, Bd.cs_snoc2] at this
    exact this
   ·have e : q.st - s + (Oc.ok [v] s).st = q.st := by show q.st - s + s = q.st; omega
    rw [e]
    exact rSameOT (ocV_sm hqs) _ _ _
 obtain ⟨v0, v2, e0, e2, s0, s2, w0, w2, m0, m1, m2, m3, m4⟩ := main
 have hs1 : 0 <= p.st /\ p.st <= 1000000 := ⟨by omega, by omega⟩
 rcases Bool.eq_false_or_eq_true b0 with h0 | h0
 case inr => exact lets_1 _ _ _ _ _ l bs x fu xn b0 b1 b2 (nodes x) _ (by omega) hLt hNd hVs hFw awake_ok hBg v0 (ocV p) v2 e0 (ocE p) e2 s0 p.st s2 w0 (ocW p) w2 m0 hP hs1 m1 m2 m3 m4 h0
 by_cases h1 : nodes x > 100
 ·exact lets_2 _ _ _ _ _ l bs x fu xn b0 b1 b2 (nodes x) _ (by omega) hLt hNd hVs hFw awake_ok hBg v0 (ocV p) v2 e0 (ocE p) e2 s0 p.st s2 w0 (ocW p) w2 m0 hP hs1 m1 m2 m3 m4 h0 h1
 by_cases h2 : (bs.length : Int) > 10
 ·exact lets_3 _ _ _ _ _ l bs x fu xn b0 b1 b2 (nodes x) _ (by omega) hLt hNd hVs hFw awake_ok hBg v0 (ocV p) v2 e0 (ocE p) e2 s0 p.st s2 w0 (ocW p) w2 m0 hP hs1 m1 m2 m3 m4 h0 h1 h2
 rcases Bool.eq_false_or_eq_true b1 with h3 | h3
 case inr => exact lets_4 _ _ _ _ _ l bs x fu xn b0 b1 b2 (nodes x) _ (by omega) hLt hNd hVs hFw awake_ok hBg v0 (ocV p) v2 e0 (ocE p) e2 s0 p.st s2 w0 (ocW p) w2 m0 hP hs1 m1 m2 m3 m4 h0 h1 h2 h3
 by_cases h4 : fu > 300
 ·exact lets_5 _ _ _ _ _ l bs x fu xn b0 b1 b2 (nodes x) _ (by omega) hLt hNd hVs hFw awake_ok hBg v0 (ocV p) v2 e0 (ocE p) e2 s0 p.st s2 w0 (ocW p) w2 m0 hP hs1 m1 m2 m3 m4 h0 h1 h2 h3 h4
 by_cases h5 : fu < 0
 ·exact lets_6 _ _ _ _ _ l bs x fu xn b0 b1 b2 (nodes x) _ (by omega) hLt hNd hVs hFw awake_ok hBg v0 (ocV p) v2 e0 (ocE p) e2 s0 p.st s2 w0 (ocW p) w2 m0 hP hs1 m1 m2 m3 m4 h0 h1 h2 h3 h4 h5
 by_cases h6 : ((exK x).length : Int) < 2
 ·exact lets_7 _ _ _ _ _ l bs x fu xn b0 b1 b2 (nodes x) _ (by omega) hLt hNd hVs hFw awake_ok hBg v0 (ocV p) v2 e0 (ocE p) e2 s0 p.st s2 w0 (ocW p) w2 m0 hP hs1 m1 m2 m3 m4 h0 h1 h2 h3 h4 h5 h6
 by_cases h7 : (xn.size : Int) > 50
 ·exact lets_8 _ _ _ _ _ l bs x fu xn b0 b1 b2 (nodes x) _ (by omega) hLt hNd hVs hFw awake_ok hBg v0 (ocV p) v2 e0 (ocE p) e2 s0 p.st s2 w0 (ocW p) w2 m0 hP hs1 m1 m2 m3 m4 h0 h1 h2 h3 h4 h5 h6 h7
 rcases Bool.eq_false_or_eq_true b2 with h8 | h8
 ·exact lets_9 _ _ _ _ _ l bs x fu xn b0 b1 b2 (nodes x) _ (by omega) hLt hNd hVs hFw awake_ok hBg v0 (ocV p) v2 e0 (ocE p) e2 s0 p.st s2 w0 (ocW p) w2 m0 hP hs1 m1 m2 m3 m4 h0 h1 h2 h3 h4 h5 h6 h7 h8
 by_cases h9 : ocE p = 0
 ·exact lets_11 _ _ _ _ _ l bs x fu xn b0 b1 b2 (nodes x) _ (by omega) hLt hNd hVs hFw awake_ok hBg v0 (ocV p) v2 e0 (ocE p) e2 s0 p.st s2 w0 (ocW p) w2 m0 hP hs1 m1 m2 m3 m4 h0 h1 h2 h3 h4 h5 h6 h7 h8 h9
 ·exact lets_10 _ _ _ _ _ l bs x fu xn b0 b1 b2 (nodes x) _ (by omega) hLt hNd hVs hFw awake_ok hBg v0 (ocV p) v2 e0 (ocE p) e2 s0 p.st s2 w0 (ocW p) w2 m0 hP hs1 m1 m2 m3 m4 h0 h1 h2 h3 h4 h5 h6 h7 h8 h9
end
end Go.Proofs.YtgonmmckkikmaaaGreat
