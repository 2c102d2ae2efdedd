/- What the law says of pure values. -/
import Derived.Test.YtgonmmckkikmaaaGreatXq
import Derived.Test.YtgonmmckkikmaaaGreatXp
import Derived.Test.YtgonmmckkikmaaaGreatUa
import Derived.Test.YtgonmmckkikmaaaGreatUb
set_option linter.unusedSectionVars false
set_option linter.unusedSimpArgs false
set_option linter.unusedVariables false
namespace Go.Proofs.YtgonmmckkikmaaaGreat
open Go.Pv
set_option maxRecDepth 100000
end Go.Proofs.YtgonmmckkikmaaaGreat
namespace Go.Proofs.YtgonmmckkikmaaaGreat
open Go.Pv
set_option maxRecDepth 100000
end Go.Proofs.YtgonmmckkikmaaaGreat
namespace Go.Proofs.YtgonmmckkikmaaaGreat
open Go.Pv
set_option maxRecDepth 100000
section
variable (d0 d1 d2 d3 d4:List (List PV)) (z0 z1 z2 z3 z4:Nat) (l:List Df)
end
end Go.Proofs.YtgonmmckkikmaaaGreat
namespace Go.Proofs.YtgonmmckkikmaaaGreat
open Go.Pv
set_option maxRecDepth 100000
end Go.Proofs.YtgonmmckkikmaaaGreat
namespace Go.Proofs.YtgonmmckkikmaaaGreat
open Go.Pv
set_option maxRecDepth 100000
section
variable (d0 d1 d2 d3 d4:List (List PV)) (z0 z1 z2 z3 z4:Nat) (l:List Df)
end
end Go.Proofs.YtgonmmckkikmaaaGreat
namespace Go.Proofs.YtgonmmckkikmaaaGreat
open Go.Pv
set_option maxRecDepth 100000
theorem wX(s:BA):Pu 85 ([.str s]) (rA [pI 3,.str s,pI 0,.sl 7 [],.sl 10 [],.sl 9 [],.sl 9 []]):=
 Ob.pur_wk (Wk.a (WkL.c (Wk.r _) (WkL.c (Wk.r _) (WkL.c (Wk.r _) (WkL.c (Wk.n 7) (WkL.c (Wk.n 10) (WkL.c (Wk.n 9) (WkL.c (Wk.n 9) (WkL.r _))))))))) (Ob.pur_of (mdL) 50 (fun e=>[]) (sc':=fun _=>[]) (l:=fun e=>[]) mixed Tryz.func85 (by kernel_rfl) (fun e=>by kernel_rfl) (fun e=>trivial))
theorem wN(k:Int):Pu 83 ([pI k]) (rA [pI 1,.str nm0,pI k,.sl 7 [],.sl 10 [],.sl 9 [],.sl 9 []]):=
 Ob.pur_wk (Wk.a (WkL.c (Wk.r _) (WkL.c (Wk.r _) (WkL.c (Wk.r _) (WkL.c (Wk.n 7) (WkL.c (Wk.n 10) (WkL.c (Wk.n 9) (WkL.c (Wk.n 9) (WkL.r _))))))))) (Ob.pur_of (mdL) 50 (fun e=>[]) (sc':=fun _=>[]) (l:=fun e=>[]) mixed Tryz.func83 (by kernel_rfl) (fun e=>by kernel_rfl) (fun e=>trivial))
theorem wSet(a0 b0 a2 b2:Int)(a1 b1:BA)(a3 a4 a5 a6 b3 b4 b5 b6:List (List PV)):Pu 84 ([.agg [pI a0,.str a1,pI a2,.sl 7 a3,.sl 10 a4,.sl 9 a5,.sl 9 a6],.agg [pI b0,.str b1,pI b2,.sl 7 b3,.sl 10 b4,.sl 9 b5,.sl 9 b6]]) (rA [pI 24,.str nm0,pI 0,.sl 7 [[pI a0,.str a1,pI a2,.sl 7 a3,.sl 10 a4,.sl 9 a5,.sl 9 a6],[pI b0,.str b1,pI b2,.sl 7 b3,.sl 10 b4,.sl 9 b5,.sl 9 b6]],.sl 10 [],.sl 9 [],.sl 9 []]):=
 Ob.pur_wk (Wk.a (WkL.c (Wk.r _) (WkL.c (Wk.r _) (WkL.c (Wk.r _) (WkL.c (Wk.r _) (WkL.c (Wk.n 10) (WkL.c (Wk.n 9) (WkL.c (Wk.n 9) (WkL.r _))))))))) (Ob.pur_of (mdL) 50 (fun e=>[]) (sc':=fun _=>[]) (l:=fun e=>[]) mixed Tryz.func84 (by kernel_rfl) (fun e=>by kernel_rfl) (fun e=>trivial))
theorem wSetN(a0 b0 a2 b2:Int)(a1 b1:BA)(a3 a4 a5 a6 b3:List (List PV)):Pu 84 ([.agg [pI a0,.str a1,pI a2,.sl 7 a3,.sl 10 a4,.sl 9 a5,.sl 9 a6],.agg [pI b0,.str b1,pI b2,.sl 7 b3,.nilsl,.nilsl,.nilsl]]) (rA [pI 24,.str nm0,pI 0,.sl 7 [[pI a0,.str a1,pI a2,.sl 7 a3,.sl 10 a4,.sl 9 a5,.sl 9 a6],[pI b0,.str b1,pI b2,.sl 7 b3,.sl 10 [],.sl 9 [],.sl 9 []]],.sl 10 [],.sl 9 [],.sl 9 []]):=
 Ob.pur_wk (Wk.a (WkL.c (Wk.r _) (WkL.c (Wk.r _) (WkL.c (Wk.r _) (WkL.c (Wk.s (WkLL.c (WkL.r _) (WkLL.c (WkL.c (Wk.r _) (WkL.c (Wk.r _) (WkL.c (Wk.r _) (WkL.c (Wk.r _) (WkL.c (Wk.n 10) (WkL.c (Wk.n 9) (WkL.c (Wk.n 9) (WkL.r _)))))))) (WkLL.r _)))) (WkL.c (Wk.n 10) (WkL.c (Wk.n 9) (WkL.c (Wk.n 9) (WkL.r _))))))))) (Ob.pur_of (mdL) 50 (fun e=>[]) (sc':=fun _=>[]) (l:=fun e=>[]) mixed Tryz.func84 (by kernel_rfl) (fun e=>by kernel_rfl) (fun e=>trivial))
theorem wGet(a0 a2:Int)(a1:BA)(a3 a4 a5 a6:List (List PV)):Pu 86 ([.agg [pI a0,.str a1,pI a2,.sl 7 a3,.sl 10 a4,.sl 9 a5,.sl 9 a6]]) (rA [pI 23,.str nm0,pI 0,.sl 7 [[pI a0,.str a1,pI a2,.sl 7 a3,.sl 10 a4,.sl 9 a5,.sl 9 a6]],.sl 10 [],.sl 9 [],.sl 9 []]):=
 Ob.pur_wk (Wk.a (WkL.c (Wk.r _) (WkL.c (Wk.r _) (WkL.c (Wk.r _) (WkL.c (Wk.r _) (WkL.c (Wk.n 10) (WkL.c (Wk.n 9) (WkL.c (Wk.n 9) (WkL.r _))))))))) (Ob.pur_of (mdL) 50 (fun e=>[]) (sc':=fun _=>[]) (l:=fun e=>[]) mixed Tryz.func86 (by kernel_rfl) (fun e=>by kernel_rfl) (fun e=>trivial))
theorem wLet(s:BA)(a0 b0 a2 b2:Int)(a1 b1:BA)(a3 a4 a5 a6 b3 b4 b5 b6:List (List PV)):Pu 87 ([.str s,.agg [pI a0,.str a1,pI a2,.sl 7 a3,.sl 10 a4,.sl 9 a5,.sl 9 a6],.agg [pI b0,.str b1,pI b2,.sl 7 b3,.sl 10 b4,.sl 9 b5,.sl 9 b6]]) (rA [pI 7,.str s,pI 0,.sl 7 [[pI a0,.str a1,pI a2,.sl 7 a3,.sl 10 a4,.sl 9 a5,.sl 9 a6],[pI b0,.str b1,pI b2,.sl 7 b3,.sl 10 b4,.sl 9 b5,.sl 9 b6]],.sl 10 [],.sl 9 [],.sl 9 []]):=
 Ob.pur_wk (Wk.a (WkL.c (Wk.r _) (WkL.c (Wk.r _) (WkL.c (Wk.r _) (WkL.c (Wk.r _) (WkL.c (Wk.n 10) (WkL.c (Wk.n 9) (WkL.c (Wk.n 9) (WkL.r _))))))))) (Ob.pur_of (mdL) 50 (fun e=>[]) (sc':=fun _=>[]) (l:=fun e=>[]) mixed Tryz.func87 (by kernel_rfl) (fun e=>by kernel_rfl) (fun e=>trivial))
theorem wLetN(s:BA)(a0 b0 a2 b2:Int)(a1 b1:BA)(a3 b3 b4 b5 b6:List (List PV)):Pu 87 ([.str s,.agg [pI a0,.str a1,pI a2,.sl 7 a3,.nilsl,.nilsl,.nilsl],.agg [pI b0,.str b1,pI b2,.sl 7 b3,.sl 10 b4,.sl 9 b5,.sl 9 b6]]) (rA [pI 7,.str s,pI 0,.sl 7 [[pI a0,.str a1,pI a2,.sl 7 a3,.sl 10 [],.sl 9 [],.sl 9 []],[pI b0,.str b1,pI b2,.sl 7 b3,.sl 10 b4,.sl 9 b5,.sl 9 b6]],.sl 10 [],.sl 9 [],.sl 9 []]):=
 Ob.pur_wk (Wk.a (WkL.c (Wk.r _) (WkL.c (Wk.r _) (WkL.c (Wk.r _) (WkL.c (Wk.s (WkLL.c (WkL.c (Wk.r _) (WkL.c (Wk.r _) (WkL.c (Wk.r _) (WkL.c (Wk.r _) (WkL.c (Wk.n 10) (WkL.c (Wk.n 9) (WkL.c (Wk.n 9) (WkL.r _)))))))) (WkLL.r _))) (WkL.c (Wk.n 10) (WkL.c (Wk.n 9) (WkL.c (Wk.n 9) (WkL.r _))))))))) (Ob.pur_of (mdL) 50 (fun e=>[]) (sc':=fun _=>[]) (l:=fun e=>[]) mixed Tryz.func87 (by kernel_rfl) (fun e=>by kernel_rfl) (fun e=>trivial))
theorem wSample  : Pu 57 ([]) (rA [.sl 4 [],.sl 3 [],.sl 12 [],.sl 8 [],.sl 6 [],.sl 25 [[.str (ByteArray.mk #[102]),.sl 1 [[.str (ByteArray.mk #[117])]],pI 7,.str (ByteArray.mk #[99]),pI 0,.sl 7 [[pI 22,.str nm0,pI 0,.sl 7 [[pI 1,.str nm0,pI 1,.sl 7 [],.sl 10 [],.sl 9 [],.sl 9 []]],.sl 10 [],.sl 9 [],.sl 9 []],[pI 7,.str (ByteArray.mk #[100]),pI 0,.sl 7 [[pI 24,.str nm0,pI 0,.sl 7 [[pI 3,.str (ByteArray.mk #[99]),pI 0,.sl 7 [],.sl 10 [],.sl 9 [],.sl 9 []],[pI 1,.str nm0,pI 2,.sl 7 [],.sl 10 [],.sl 9 [],.sl 9 []]],.sl 10 [],.sl 9 [],.sl 9 []],[pI 23,.str nm0,pI 0,.sl 7 [[pI 3,.str (ByteArray.mk #[99]),pI 0,.sl 7 [],.sl 10 [],.sl 9 [],.sl 9 []]],.sl 10 [],.sl 9 [],.sl 9 []]],.sl 10 [],.sl 9 [],.sl 9 []]],.sl 10 [],.sl 9 [],.sl 9 [],pI 0,.bool false,.sl 1 [],.sl 2 [],.sl 2 [],.sl 10 [],pI 0,.str nm0,.sl 9 [],.sl 1 [],pI 0,.str nm0,pI 0,.sl 4 [],.sl 4 [],.sl 4 []],[.str (ByteArray.mk #[117,112]),.sl 1 [[.str (ByteArray.mk #[99])]],pI 24,.str nm0,pI 0,.sl 7 [[pI 3,.str (ByteArray.mk #[99]),pI 0,.sl 7 [],.sl 10 [],.sl 9 [],.sl 9 []],[pI 10,.str nm0,pI 0,.sl 7 [[pI 23,.str nm0,pI 0,.sl 7 [[pI 3,.str (ByteArray.mk #[99]),pI 0,.sl 7 [],.sl 10 [],.sl 9 [],.sl 9 []]],.sl 10 [],.sl 9 [],.sl 9 []],[pI 1,.str nm0,pI 1,.sl 7 [],.sl 10 [],.sl 9 [],.sl 9 []]],.sl 10 [],.sl 9 [],.sl 9 []]],.sl 10 [],.sl 9 [],.sl 9 [],pI 0,.bool false,.sl 1 [],.sl 2 [],.sl 2 [],.sl 10 [],pI 0,.str nm0,.sl 9 [],.sl 1 [],pI 0,.str nm0,pI 0,.sl 4 [],.sl 4 [],.sl 4 []]]]):=
 Ob.pur_wk (Wk.a (WkL.c (Wk.n 4) (WkL.c (Wk.n 3) (WkL.c (Wk.n 12) (WkL.c (Wk.n 8) (WkL.c (Wk.n 6) (WkL.c (Wk.s (WkLL.c (WkL.c (Wk.r _) (WkL.c (Wk.r _) (WkL.c (Wk.r _) (WkL.c (Wk.r _) (WkL.c (Wk.r _) (WkL.c (Wk.r _) (WkL.c (Wk.r _) (WkL.c (Wk.r _) (WkL.c (Wk.r _) (WkL.c (Wk.r _) (WkL.c (Wk.r _) (WkL.c (Wk.n 1) (WkL.c (Wk.n 2) (WkL.c (Wk.n 2) (WkL.c (Wk.n 10) (WkL.c (Wk.r _) (WkL.c (Wk.r _) (WkL.c (Wk.n 9) (WkL.c (Wk.n 1) (WkL.c (Wk.r _) (WkL.c (Wk.r _) (WkL.c (Wk.r _) (WkL.c (Wk.n 4) (WkL.c (Wk.n 4) (WkL.c (Wk.n 4) (WkL.r _)))))))))))))))))))))))))) (WkLL.c (WkL.c (Wk.r _) (WkL.c (Wk.r _) (WkL.c (Wk.r _) (WkL.c (Wk.r _) (WkL.c (Wk.r _) (WkL.c (Wk.r _) (WkL.c (Wk.r _) (WkL.c (Wk.r _) (WkL.c (Wk.r _) (WkL.c (Wk.r _) (WkL.c (Wk.r _) (WkL.c (Wk.n 1) (WkL.c (Wk.n 2) (WkL.c (Wk.n 2) (WkL.c (Wk.n 10) (WkL.c (Wk.r _) (WkL.c (Wk.r _) (WkL.c (Wk.n 9) (WkL.c (Wk.n 1) (WkL.c (Wk.r _) (WkL.c (Wk.r _) (WkL.c (Wk.r _) (WkL.c (Wk.n 4) (WkL.c (Wk.n 4) (WkL.c (Wk.n 4) (WkL.r _)))))))))))))))))))))))))) (WkLL.r _)))) (WkL.r _)))))))) (Ob.pur_of (mdL) 50 (fun e=>[Ans.pur (rA [pI 1,.str nm0,pI 1,.sl 7 [],.sl 10 [],.sl 9 [],.sl 9 []]),Ans.pur (rA [pI 3,.str (ByteArray.mk #[99]),pI 0,.sl 7 [],.sl 10 [],.sl 9 [],.sl 9 []]),Ans.pur (rA [pI 3,.str (ByteArray.mk #[99]),pI 0,.sl 7 [],.sl 10 [],.sl 9 [],.sl 9 []]),Ans.pur (rA [pI 23,.str nm0,pI 0,.sl 7 [[pI 3,.str (ByteArray.mk #[99]),pI 0,.sl 7 [],.sl 10 [],.sl 9 [],.sl 9 []]],.sl 10 [],.sl 9 [],.sl 9 []]),Ans.pur (rA [pI 1,.str nm0,pI 1,.sl 7 [],.sl 10 [],.sl 9 [],.sl 9 []]),Ans.pur (rA [pI 24,.str nm0,pI 0,.sl 7 [[pI 3,.str (ByteArray.mk #[99]),pI 0,.sl 7 [],.sl 10 [],.sl 9 [],.sl 9 []],[pI 10,.str nm0,pI 0,.sl 7 [[pI 23,.str nm0,pI 0,.sl 7 [[pI 3,.str (ByteArray.mk #[99]),pI 0,.sl 7 [],.sl 10 [],.sl 9 [],.sl 9 []]],.sl 10 [],.sl 9 [],.sl 9 []],[pI 1,.str nm0,pI 1,.sl 7 [],.sl 10 [],.sl 9 [],.sl 9 []]],.sl 10 [],.sl 9 [],.sl 9 []]],.sl 10 [],.sl 9 [],.sl 9 []]),Ans.pur (rA [pI 3,.str (ByteArray.mk #[99]),pI 0,.sl 7 [],.sl 10 [],.sl 9 [],.sl 9 []]),Ans.pur (rA [pI 1,.str nm0,pI 2,.sl 7 [],.sl 10 [],.sl 9 [],.sl 9 []]),Ans.pur (rA [pI 24,.str nm0,pI 0,.sl 7 [[pI 3,.str (ByteArray.mk #[99]),pI 0,.sl 7 [],.sl 10 [],.sl 9 [],.sl 9 []],[pI 1,.str nm0,pI 2,.sl 7 [],.sl 10 [],.sl 9 [],.sl 9 []]],.sl 10 [],.sl 9 [],.sl 9 []]),Ans.pur (rA [pI 3,.str (ByteArray.mk #[99]),pI 0,.sl 7 [],.sl 10 [],.sl 9 [],.sl 9 []]),Ans.pur (rA [pI 23,.str nm0,pI 0,.sl 7 [[pI 3,.str (ByteArray.mk #[99]),pI 0,.sl 7 [],.sl 10 [],.sl 9 [],.sl 9 []]],.sl 10 [],.sl 9 [],.sl 9 []]),Ans.pur (rA [pI 7,.str (ByteArray.mk #[100]),pI 0,.sl 7 [[pI 24,.str nm0,pI 0,.sl 7 [[pI 3,.str (ByteArray.mk #[99]),pI 0,.sl 7 [],.sl 10 [],.sl 9 [],.sl 9 []],[pI 1,.str nm0,pI 2,.sl 7 [],.sl 10 [],.sl 9 [],.sl 9 []]],.sl 10 [],.sl 9 [],.sl 9 []],[pI 23,.str nm0,pI 0,.sl 7 [[pI 3,.str (ByteArray.mk #[99]),pI 0,.sl 7 [],.sl 10 [],.sl 9 [],.sl 9 []]],.sl 10 [],.sl 9 [],.sl 9 []]],.sl 10 [],.sl 9 [],.sl 9 []]),Ans.pur (rA [pI 7,.str (ByteArray.mk #[99]),pI 0,.sl 7 [[pI 22,.str nm0,pI 0,.sl 7 [[pI 1,.str nm0,pI 1,.sl 7 [],.sl 10 [],.sl 9 [],.sl 9 []]],.sl 10 [],.sl 9 [],.sl 9 []],[pI 7,.str (ByteArray.mk #[100]),pI 0,.sl 7 [[pI 24,.str nm0,pI 0,.sl 7 [[pI 3,.str (ByteArray.mk #[99]),pI 0,.sl 7 [],.sl 10 [],.sl 9 [],.sl 9 []],[pI 1,.str nm0,pI 2,.sl 7 [],.sl 10 [],.sl 9 [],.sl 9 []]],.sl 10 [],.sl 9 [],.sl 9 []],[pI 23,.str nm0,pI 0,.sl 7 [[pI 3,.str (ByteArray.mk #[99]),pI 0,.sl 7 [],.sl 10 [],.sl 9 [],.sl 9 []]],.sl 10 [],.sl 9 [],.sl 9 []]],.sl 10 [],.sl 9 [],.sl 9 []]],.sl 10 [],.sl 9 [],.sl 9 []])]) (sc':=fun _=>[]) (l:=fun e=>[Ob.pur 83 [pI 1] (rA [pI 1,.str nm0,pI 1,.sl 7 [],.sl 10 [],.sl 9 [],.sl 9 []]),Ob.pur 85 [.str (ByteArray.mk #[99])] (rA [pI 3,.str (ByteArray.mk #[99]),pI 0,.sl 7 [],.sl 10 [],.sl 9 [],.sl 9 []]),Ob.pur 85 [.str (ByteArray.mk #[99])] (rA [pI 3,.str (ByteArray.mk #[99]),pI 0,.sl 7 [],.sl 10 [],.sl 9 [],.sl 9 []]),Ob.pur 86 [.agg [pI 3,.str (ByteArray.mk #[99]),pI 0,.sl 7 [],.sl 10 [],.sl 9 [],.sl 9 []]] (rA [pI 23,.str nm0,pI 0,.sl 7 [[pI 3,.str (ByteArray.mk #[99]),pI 0,.sl 7 [],.sl 10 [],.sl 9 [],.sl 9 []]],.sl 10 [],.sl 9 [],.sl 9 []]),Ob.pur 83 [pI 1] (rA [pI 1,.str nm0,pI 1,.sl 7 [],.sl 10 [],.sl 9 [],.sl 9 []]),Ob.pur 84 [.agg [pI 3,.str (ByteArray.mk #[99]),pI 0,.sl 7 [],.sl 10 [],.sl 9 [],.sl 9 []],.agg [pI 10,.str nm0,pI 0,.sl 7 [[pI 23,.str nm0,pI 0,.sl 7 [[pI 3,.str (ByteArray.mk #[99]),pI 0,.sl 7 [],.sl 10 [],.sl 9 [],.sl 9 []]],.sl 10 [],.sl 9 [],.sl 9 []],[pI 1,.str nm0,pI 1,.sl 7 [],.sl 10 [],.sl 9 [],.sl 9 []]],.nilsl,.nilsl,.nilsl]] (rA [pI 24,.str nm0,pI 0,.sl 7 [[pI 3,.str (ByteArray.mk #[99]),pI 0,.sl 7 [],.sl 10 [],.sl 9 [],.sl 9 []],[pI 10,.str nm0,pI 0,.sl 7 [[pI 23,.str nm0,pI 0,.sl 7 [[pI 3,.str (ByteArray.mk #[99]),pI 0,.sl 7 [],.sl 10 [],.sl 9 [],.sl 9 []]],.sl 10 [],.sl 9 [],.sl 9 []],[pI 1,.str nm0,pI 1,.sl 7 [],.sl 10 [],.sl 9 [],.sl 9 []]],.sl 10 [],.sl 9 [],.sl 9 []]],.sl 10 [],.sl 9 [],.sl 9 []]),Ob.pur 85 [.str (ByteArray.mk #[99])] (rA [pI 3,.str (ByteArray.mk #[99]),pI 0,.sl 7 [],.sl 10 [],.sl 9 [],.sl 9 []]),Ob.pur 83 [pI 2] (rA [pI 1,.str nm0,pI 2,.sl 7 [],.sl 10 [],.sl 9 [],.sl 9 []]),Ob.pur 84 [.agg [pI 3,.str (ByteArray.mk #[99]),pI 0,.sl 7 [],.sl 10 [],.sl 9 [],.sl 9 []],.agg [pI 1,.str nm0,pI 2,.sl 7 [],.sl 10 [],.sl 9 [],.sl 9 []]] (rA [pI 24,.str nm0,pI 0,.sl 7 [[pI 3,.str (ByteArray.mk #[99]),pI 0,.sl 7 [],.sl 10 [],.sl 9 [],.sl 9 []],[pI 1,.str nm0,pI 2,.sl 7 [],.sl 10 [],.sl 9 [],.sl 9 []]],.sl 10 [],.sl 9 [],.sl 9 []]),Ob.pur 85 [.str (ByteArray.mk #[99])] (rA [pI 3,.str (ByteArray.mk #[99]),pI 0,.sl 7 [],.sl 10 [],.sl 9 [],.sl 9 []]),Ob.pur 86 [.agg [pI 3,.str (ByteArray.mk #[99]),pI 0,.sl 7 [],.sl 10 [],.sl 9 [],.sl 9 []]] (rA [pI 23,.str nm0,pI 0,.sl 7 [[pI 3,.str (ByteArray.mk #[99]),pI 0,.sl 7 [],.sl 10 [],.sl 9 [],.sl 9 []]],.sl 10 [],.sl 9 [],.sl 9 []]),Ob.pur 87 [.str (ByteArray.mk #[100]),.agg [pI 24,.str nm0,pI 0,.sl 7 [[pI 3,.str (ByteArray.mk #[99]),pI 0,.sl 7 [],.sl 10 [],.sl 9 [],.sl 9 []],[pI 1,.str nm0,pI 2,.sl 7 [],.sl 10 [],.sl 9 [],.sl 9 []]],.sl 10 [],.sl 9 [],.sl 9 []],.agg [pI 23,.str nm0,pI 0,.sl 7 [[pI 3,.str (ByteArray.mk #[99]),pI 0,.sl 7 [],.sl 10 [],.sl 9 [],.sl 9 []]],.sl 10 [],.sl 9 [],.sl 9 []]] (rA [pI 7,.str (ByteArray.mk #[100]),pI 0,.sl 7 [[pI 24,.str nm0,pI 0,.sl 7 [[pI 3,.str (ByteArray.mk #[99]),pI 0,.sl 7 [],.sl 10 [],.sl 9 [],.sl 9 []],[pI 1,.str nm0,pI 2,.sl 7 [],.sl 10 [],.sl 9 [],.sl 9 []]],.sl 10 [],.sl 9 [],.sl 9 []],[pI 23,.str nm0,pI 0,.sl 7 [[pI 3,.str (ByteArray.mk #[99]),pI 0,.sl 7 [],.sl 10 [],.sl 9 [],.sl 9 []]],.sl 10 [],.sl 9 [],.sl 9 []]],.sl 10 [],.sl 9 [],.sl 9 []]),Ob.pur 87 [.str (ByteArray.mk #[99]),.agg [pI 22,.str nm0,pI 0,.sl 7 [[pI 1,.str nm0,pI 1,.sl 7 [],.sl 10 [],.sl 9 [],.sl 9 []]],.nilsl,.nilsl,.nilsl],.agg [pI 7,.str (ByteArray.mk #[100]),pI 0,.sl 7 [[pI 24,.str nm0,pI 0,.sl 7 [[pI 3,.str (ByteArray.mk #[99]),pI 0,.sl 7 [],.sl 10 [],.sl 9 [],.sl 9 []],[pI 1,.str nm0,pI 2,.sl 7 [],.sl 10 [],.sl 9 [],.sl 9 []]],.sl 10 [],.sl 9 [],.sl 9 []],[pI 23,.str nm0,pI 0,.sl 7 [[pI 3,.str (ByteArray.mk #[99]),pI 0,.sl 7 [],.sl 10 [],.sl 9 [],.sl 9 []]],.sl 10 [],.sl 9 [],.sl 9 []]],.sl 10 [],.sl 9 [],.sl 9 []]] (rA [pI 7,.str (ByteArray.mk #[99]),pI 0,.sl 7 [[pI 22,.str nm0,pI 0,.sl 7 [[pI 1,.str nm0,pI 1,.sl 7 [],.sl 10 [],.sl 9 [],.sl 9 []]],.sl 10 [],.sl 9 [],.sl 9 []],[pI 7,.str (ByteArray.mk #[100]),pI 0,.sl 7 [[pI 24,.str nm0,pI 0,.sl 7 [[pI 3,.str (ByteArray.mk #[99]),pI 0,.sl 7 [],.sl 10 [],.sl 9 [],.sl 9 []],[pI 1,.str nm0,pI 2,.sl 7 [],.sl 10 [],.sl 9 [],.sl 9 []]],.sl 10 [],.sl 9 [],.sl 9 []],[pI 23,.str nm0,pI 0,.sl 7 [[pI 3,.str (ByteArray.mk #[99]),pI 0,.sl 7 [],.sl 10 [],.sl 9 [],.sl 9 []]],.sl 10 [],.sl 9 [],.sl 9 []]],.sl 10 [],.sl 9 [],.sl 9 []]],.sl 10 [],.sl 9 [],.sl 9 []])]) mixed Tryz.func57 (by kernel_rfl) (fun e=>by kernel_rfl) (fun e=>⟨(@wN (1)),(@wX (ByteArray.mk #[99])),(@wX (ByteArray.mk #[99])),(@wGet (3) (0) (ByteArray.mk #[99]) ([]) ([]) ([]) ([])),(@wN (1)),(@wSetN (3) (10) (0) (0) (ByteArray.mk #[99]) nm0 ([]) ([]) ([]) ([]) ([[pI 23,.str nm0,pI 0,.sl 7 [[pI 3,.str (ByteArray.mk #[99]),pI 0,.sl 7 [],.sl 10 [],.sl 9 [],.sl 9 []]],.sl 10 [],.sl 9 [],.sl 9 []],[pI 1,.str nm0,pI 1,.sl 7 [],.sl 10 [],.sl 9 [],.sl 9 []]])),(@wX (ByteArray.mk #[99])),(@wN (2)),(@wSet (3) (1) (0) (2) (ByteArray.mk #[99]) nm0 ([]) ([]) ([]) ([]) ([]) ([]) ([]) ([])),(@wX (ByteArray.mk #[99])),(@wGet (3) (0) (ByteArray.mk #[99]) ([]) ([]) ([]) ([])),(@wLet (ByteArray.mk #[100]) (24) (23) (0) (0) nm0 nm0 ([[pI 3,.str (ByteArray.mk #[99]),pI 0,.sl 7 [],.sl 10 [],.sl 9 [],.sl 9 []],[pI 1,.str nm0,pI 2,.sl 7 [],.sl 10 [],.sl 9 [],.sl 9 []]]) ([]) ([]) ([]) ([[pI 3,.str (ByteArray.mk #[99]),pI 0,.sl 7 [],.sl 10 [],.sl 9 [],.sl 9 []]]) ([]) ([]) ([])),(@wLetN (ByteArray.mk #[99]) (22) (7) (0) (0) nm0 (ByteArray.mk #[100]) ([[pI 1,.str nm0,pI 1,.sl 7 [],.sl 10 [],.sl 9 [],.sl 9 []]]) ([[pI 24,.str nm0,pI 0,.sl 7 [[pI 3,.str (ByteArray.mk #[99]),pI 0,.sl 7 [],.sl 10 [],.sl 9 [],.sl 9 []],[pI 1,.str nm0,pI 2,.sl 7 [],.sl 10 [],.sl 9 [],.sl 9 []]],.sl 10 [],.sl 9 [],.sl 9 []],[pI 23,.str nm0,pI 0,.sl 7 [[pI 3,.str (ByteArray.mk #[99]),pI 0,.sl 7 [],.sl 10 [],.sl 9 [],.sl 9 []]],.sl 10 [],.sl 9 [],.sl 9 []]]) ([]) ([]) ([])),trivial⟩))
end Go.Proofs.YtgonmmckkikmaaaGreat
namespace Go.Proofs.YtgonmmckkikmaaaGreat
open Go.Pv
set_option maxRecDepth 100000
abbrev wF:BA:=ByteArray.mk #[102]
abbrev wU:BA:=ByteArray.mk #[117]
abbrev wC:BA:=ByteArray.mk #[99]
abbrev wD:BA:=ByteArray.mk #[100]
abbrev wUp:BA:=ByteArray.mk #[117,112]
abbrev wkV(s:BA):Ex := .mk 3 s 0 [] [] [] []
abbrev wkN(k:Int):Ex := .mk 1 nm0 k [] [] [] []
abbrev wk1(op:Int)(a:Ex):Ex := .mk op nm0 0 [a] [] [] []
abbrev wk2(op:Int)(s:BA)(a b:Ex):Ex := .mk op s 0 [a,b] [] [] []
abbrev wBf:Ex:=wk2 7 wC (wk1 22 (wkN 1)) (wk2 7 wD (wk2 24 nm0 (wkV wC) (wkN 2)) (wk1 23 (wkV wC)))
abbrev wBu:Ex:=wk2 24 nm0 (wkV wC) (wk2 10 nm0 (wk1 23 (wkV wC)) (wkN 1))
abbrev wL:List Df:=[.mk wF [wU] wBf 0 false [] (.sl 2 []) (.sl 2 []) (.sl 10 []) default [],.mk wUp [wC] wBu 0 false [] (.sl 2 []) (.sl 2 []) (.sl 10 []) default []]
abbrev wP:PV:=mdM (.sl 4 []) (.sl 3 []) (.sl 12 []) (.sl 8 []) (.sl 6 []) wL
theorem w_nx:PV.noX wP=true:=by kernel_rfl
theorem w_sm:SmL wL:=SmL_bulk (Nat.le_of_ble_eq_true (by kernel_rfl))
theorem w_bo:∀d∈wL,szE (dfB d)<=1048576:=by
 intro d hd
 rcases List.mem_cons.1 hd with rfl | hd
 ·exact Nat.le_of_ble_eq_true (by kernel_rfl)
 ·rcases List.mem_cons.1 hd with rfl | hd
  ·exact Nat.le_of_ble_eq_true (by kernel_rfl)
  ·cases hd
theorem w_sample:Pu 57 [] (.ret wP):=wSample
theorem w_call(args:List Vl)(name:BA)(i:Nat)(o:Co)(ha:Nat.ble (bulkPss (Vl.cs args)) 1000=true)(hd:findD name wL=some (wL.getD i default))(h:evc cS wL 9 40 (.call (wL.getD i default) (plVs args []).1) ⟨0,(plVs args []).2,0⟩ nm0=some o) :
  Pu 28 [wP,.str name,.sl 7 (Vl.cs args),.int .i64 9] (.ret (.tup [.agg (otL (coV o) (coE o) (coW o) o.st.n),.int .i64 o.st.s.length]))/\Pu 31 [wP,.str name,.sl 7 (Vl.cs args),.int .i64 9] (.ret (.int .i64 o.st.w)):=by
 have hb:=Nat.le_of_ble_eq_true ha
 have h1:=vals_bulk args
 have h2:=cnVs_bulk args
 have hc:Cal wL 9 name (plVs args []).1 (plVs args []).2 o := .inr ⟨_,hd,evc_ok _ _ _ _ _ h⟩
 exact ⟨(cCall_ok _ _ _ _ _ wL 9 w_nx w_sm w_bo (SmVs_bulk (by omega)) (BoVs_bulk (by omega)) (by omega) (by decide) (by decide) (by omega) hc).2,cWri_ok _ _ _ _ _ wL 9 w_nx w_sm w_bo (SmVs_bulk (by omega)) (BoVs_bulk (by omega)) (by omega) (by decide) (by decide) (by omega) hc⟩
abbrev wCell(n:Int):Vl := .mk 4 n nm0 [] [] [] []
abbrev wA(k n:Int):PV := .sl 7 [[.int .i64 k,.int .i64 n,.str nm0,.nilsl,.nilsl,.nilsl,.nilsl]]
theorem w_arg(k n:Int):Wk (wA k n) (.sl 7 (Vl.cs [.mk k n nm0 [] [] [] []])) := .s (.c (.c (.r _) (.c (.r _) (.c (.r _) (.c (.n 7) (.c (.n 1) (.c (.n 7) (.c (.n 8) (.r _)))))))) (.r _))
theorem w1:Pu 28 [wP,.str wF,wA 1 0,.int .i64 9] (.ret (.tup [.agg (otL (vI 2) 0 nm0 1),.int .i64 1])):=
 Ob.pur_arg (.c (.r _) (.c (.r _) (.c (w_arg 1 0) (.r _)))) (w_call [vI 0] wF 0 (.ok [vI 2] ⟨1,[2],1⟩) (by kernel_rfl) (by kernel_rfl) (by kernel_rfl)).1
theorem w2:Pu 28 [wP,.str wUp,wA 4 4,.int .i64 9] (.ret (.tup [.agg (otL (wCell 5) 0 nm0 1),.int .i64 1])):=
 Ob.pur_arg (.c (.r _) (.c (.r _) (.c (w_arg 4 4) (.r _)))) (w_call [wCell 4] wUp 1 (.ok [wCell 0] ⟨1,[5],1⟩) (by kernel_rfl) (by kernel_rfl) (by kernel_rfl)).1
theorem w3:Pu 31 [wP,.str wF,wA 1 0,.int .i64 9] (.ret (.int .i64 1)):=
 Ob.pur_arg (.c (.r _) (.c (.r _) (.c (w_arg 1 0) (.r _)))) (w_call [vI 0] wF 0 (.ok [vI 2] ⟨1,[2],1⟩) (by kernel_rfl) (by kernel_rfl) (by kernel_rfl)).2
theorem awake31  : Pu 24 ([]) (rB true):=
 pu mdL (fun e=>[cl w_sample,cl w1,cl w_sample,cl w2,rp 14 (bt true),cl w_sample,rp 2 (bt true),cl w3,rp 23 (bt true)]) Tryz.func24
end Go.Proofs.YtgonmmckkikmaaaGreat
namespace Go.Proofs.YtgonmmckkikmaaaGreat
open Go.Pv
set_option maxRecDepth 100000
inductive In where
 | mk (nm:BA) (tp:Tp) (nd:PV) (ds:List Df)
def inNm:In->BA
 | .mk a _ _ _=>a
def inTp:In->Tp
 | .mk _ a _ _=>a
def inNd:In->PV
 | .mk _ _ a _=>a
def inDs:In->List Df
 | .mk _ _ _ a=>a
instance:Inhabited In:=⟨.mk nm0 default (.sl 0 []) []⟩
abbrev inL(x:In):List PV := .str (inNm x)::(tpL (inTp x)++[inNd x,.sl 25 (dfsC (inDs x))])
def insC:List In->List (List PV)
 | []=>[]
 | x::r=>inL x::insC r
theorem insC_eq(l:List In):insC l=l.map inL:=by induction l with | nil=>rfl | cons x r ih=>simp [insC,ih]
theorem insC_len(l:List In):(insC l).length=l.length:=by simp [insC_eq]
theorem insC_at{l:List In}{i:Nat}(h:i<l.length):(insC l).getD i []=inL (l.getD i default):=by rw [insC_eq]; simp [List.getD,h]
abbrev szI(d0 d1 d3 d4:List (List PV))(z0 z1 z3 z4:Nat)(ins:List In)(l:List Df)(out:List Df)(i:Int)(ext:Ext):S:=⟨[(1,.lp 1 0),(3,.v (.int .i64 0)),(4,.uniq 88 25 (dfsC out)),(5,.v (.int .i64 i))],[(1,[.v (.sl z0 d0),.v (.sl z1 d1),.v (.sl 12 (insC ins)),.v (.sl z3 d3),.v (.sl z4 d4),.v (.sl 25 (dfsC l))])],ext⟩
section
variable (d0 d1 d3 d4:List (List PV)) (z0 z1 z3 z4:Nat) (ins:List In) (l:List Df) (out:List Df)
include d0 d1 d3 d4 z0 z1 z3 z4 ins l out
theorem szRd(i:Nat)(xe:Ext)(hi:i<ins.length)(hi0:ins.length<=1000000)(hs:out.length+(inDs (ins.getD i default)).length<=300000000000)(cx:Cx)(hcx:cx.n=47){Q:PExit->S->Prop}(hq:Q (.normal) (S.mk [(1,.lp 1 0),(3,vI6 0),(4,.uniq 88 25 (dfsC out++dfsC (inDs (List.getD ins i default)))),(5,vI6 ((i:Int)+1))] [(1,[vL z0 d0,vL z1 d1,vL 12 (insC ins),vL z3 d3,vL z4 d4,vL 25 (dfsC l)])] xe)):PW Tryz.prog cx (loopF Tryz.f55 0) (szI d0 d1 d3 d4 z0 z1 z3 z4 ins l out (i:Int) xe) Q:=
 pw mdL 47 [sl (insC_len ins),dt ((i:Int)<(ins.length:Int)),am ((0:Int)<=(i:Int)/\(i:Int)<((insC ins).length:Int)) (by (simp only [insC_len]; omega)),ar (List.getD (insC ins) (Int.toNat (i:Int)) []) (inL (List.getD ins i default)) (by simp only [Int.toNat_natCast]; rw [@insC_at (ins) (i) hi]; try rfl),am (List.length (dfsC out++(fun x=>Prod.snd x) (25,dfsC (inDs (List.getD ins i default)))) * (455+1)<=140737488355328) (by (simp only [List.length_append,dfsC_len]; omega)),wr ((i:Int)+1)] [1,3,4,5] [1] hcx hq
theorem szZ(xe:Ext)(cx:Cx)(hcx:cx.n=47){Q:PExit->S->Prop}(hq:Q (.exit 0) (S.mk [(1,.lp 1 0),(3,vI6 0),(4,.uniq 88 25 (dfsC out)),(5,vI6 (ins.length:Int))] [(1,[vL z0 d0,vL z1 d1,vL 12 (insC ins),vL z3 d3,vL z4 d4,vL 25 (dfsC l)])] xe)):PW Tryz.prog cx (loopF Tryz.f55 0) (szI d0 d1 d3 d4 z0 z1 z3 z4 ins l out (ins.length:Int) xe) Q:=
 pw mdL 47 [sl (insC_len ins),df ((ins.length:Int)<(ins.length:Int))] [1,3,4,5] [1] hcx hq
end
abbrev sz2_I(d0:List (List PV))(d1:List (List PV))(d3:List (List PV))(d4:List (List PV))(z0:Nat)(z1:Nat)(z3:Nat)(z4:Nat)(ins:List In)(l:List Df)(dl:List Df)(j:Int)(m:Int)(e:Ext):S:=S.mk [(3,vI6 m),(4,.uniq 88 25 (dfsC dl)),(6,vI6 j)] [] e
section
variable (d0 d1 d3 d4:List (List PV)) (z0 z1 z3 z4:Nat) (ins:List In) (l:List Df) (dl:List Df) (hlp:∀xe:Ext,(Ob.loop 47 (loopF Tryz.f55 0) (szI d0 d1 d3 d4 z0 z1 z3 z4 ins l l 0 xe) (.exit 0) ⟨[(3,.v (.int .i64 0)),(4,.uniq 88 25 (dfsC dl))],[],xe⟩).ok Tryz.prog) (hwn:∀w,w∈dl->Pu 9 [.agg (exL (dfB w))] (.ret (.int .i64 (nodes (dfB w))))) (i:Nat) (m:Int) (e:Ext)
include d0 d1 d3 d4 z0 z1 z3 z4 ins l dl hlp hwn i m e
theorem sz2_b1(hi:i<dl.length)(hN:dl.length<=1000000000)(hx0:¬dfM (List.getD dl i default)=1)(cx:Cx)(hcx:cx.n=47){Q:PExit->S->Prop}(hq:Q (.normal) (S.mk [(3,vI6 (IntKind.wrap .i64 (m+nodes (dfB (List.getD dl i default))))),(4,.uniq 88 25 (dfsC dl)),(6,vI6 ((i:Int)+1))] [] e)):PW Tryz.prog cx (loopF Tryz.f55 1) (sz2_I d0 d1 d3 d4 z0 z1 z3 z4 ins l dl (i:Int) m e) Q:=
 pw mdL 47 [sl (dfsC_len dl),dt ((i:Int)<(dl.length:Int)),am ((0:Int)<=(i:Int)/\(i:Int)<((dfsC dl).length:Int)) (by (simp only [dfsC_len]; omega)),xDf dl i hi,nt1 hx0,am ((0:Int)<=(i:Int)/\(i:Int)<((dfsC dl).length:Int)) (by (simp only [dfsC_len]; omega)),xDf dl i hi,cl (@hwn (List.getD dl i default) (by simp_all [insC_len,List.length_map,List.length_append,List.length_cons,List.length_nil,Ex.cs_len,Vl.cs_len,Al.cs_len,Bd.cs_len,nmsC_len,pmsC_len,Tp.cs_len,dfsC_len,Pr.cs_len,Int.toNat_natCast])),kp,wr ((i:Int)+1)] [3,4,6,2] [] hcx hq
theorem sz2_b2(hi:i<dl.length)(hN:dl.length<=1000000000)(hx0:dfM (List.getD dl i default)=1)(cx:Cx)(hcx:cx.n=47){Q:PExit->S->Prop}(hq:Q (.normal) (S.mk [(3,vI6 m),(4,.uniq 88 25 (dfsC dl)),(6,vI6 ((i:Int)+1))] [] e)):PW Tryz.prog cx (loopF Tryz.f55 1) (sz2_I d0 d1 d3 d4 z0 z1 z3 z4 ins l dl (i:Int) m e) Q:=
 pw mdL 47 [sl (dfsC_len dl),dt ((i:Int)<(dl.length:Int)),am ((0:Int)<=(i:Int)/\(i:Int)<((dfsC dl).length:Int)) (by (simp only [dfsC_len]; omega)),xDf dl i hi,nn1 hx0,wr ((i:Int)+1)] [3,4,6,2] [] hcx hq
theorem sz2_z1(hi:i=dl.length)(hN:dl.length<=1000000000)(cx:Cx)(hcx:cx.n=47){Q:PExit->S->Prop}(hq:Q (.exit 2) (S.mk [(3,vI6 m),(4,.uniq 88 25 (dfsC dl)),(6,vI6 (i:Int))] [] e)):PW Tryz.prog cx (loopF Tryz.f55 1) (sz2_I d0 d1 d3 d4 z0 z1 z3 z4 ins l dl (i:Int) m e) Q:=
 pw mdL 47 [sl (dfsC_len dl),df ((i:Int)<(dl.length:Int))] [3,4,6,2] [] hcx hq
end
def sz2_f  : List Df->(Int)->(Int)
 | [],m=>(m)
 | el::r,m=>(if dfM el=1 then sz2_f  r (m) else sz2_f  r (IntKind.wrap .i64 (m+nodes (dfB el))))
def sz2_q(d0:List (List PV))(d1:List (List PV))(d3:List (List PV))(d4:List (List PV))(z0:Nat)(z1:Nat)(z3:Nat)(z4:Nat)(ins:List In)(l:List Df)(dl:List Df)(e:Ext)(p:(Int)):PExit × S:=(.exit 2,S.mk [(3,vI6 p),(4,.uniq 88 25 (dfsC dl))] [] e)
theorem sz2_lp(d0 d1 d3 d4:List (List PV))(z0 z1 z3 z4:Nat)(ins:List In)(l:List Df)(dl:List Df)(hlp:∀xe:Ext,(Ob.loop 47 (loopF Tryz.f55 0) (szI d0 d1 d3 d4 z0 z1 z3 z4 ins l l 0 xe) (.exit 0) ⟨[(3,.v (.int .i64 0)),(4,.uniq 88 25 (dfsC dl))],[],xe⟩).ok Tryz.prog)(hwn:∀w,w∈dl->Pu 9 [.agg (exL (dfB w))] (.ret (.int .i64 (nodes (dfB w)))))(e:Ext)(hN:dl.length<=1000000000)(i:Nat)(m:Int)(hi0:i<=dl.length)  : (Ob.loop 47 (loopF Tryz.f55 1) (sz2_I d0 d1 d3 d4 z0 z1 z3 z4 ins l dl (i:Int) m e) (sz2_q d0 d1 d3 d4 z0 z1 z3 z4 ins l dl e (sz2_f  (List.drop i (dl))  m)).1 (sz2_q d0 d1 d3 d4 z0 z1 z3 z4 ins l dl e (sz2_f  (List.drop i (dl))  m)).2).ok Tryz.prog:=by
 refine Ob.loop_of (P:=Tryz.prog) (α:={ zz:Nat × (Int) // zz.1<=dl.length }) (fun zz=>sz2_I d0 d1 d3 d4 z0 z1 z3 z4 ins l dl (zz.1.1:Int) zz.1.2 e) (fun zz=>dl.length - zz.1.1) (fun zz=>(sz2_q d0 d1 d3 d4 z0 z1 z3 z4 ins l dl e (sz2_f  (List.drop zz.1.1 (dl))  zz.1.2))) ?_ ⟨(i,m),hi0⟩
 clear hi0
 clear m i
 rintro ⟨⟨i,m⟩,hi⟩ cx hcx
 simp only at hi  ⊢
 rcases Nat.lt_or_ge i (dl.length) with hlt | hge
 ·have hd:=drop_at hlt
  by_cases h0:dfM (List.getD dl i default)=1
  ·have hr:(sz2_f  (List.drop i (dl))  m)=(sz2_f  (List.drop (i+1) (dl))  (m)):=by rw [hd,sz2_f,if_pos h0]
   exact sz2_b2 d0 d1 d3 d4 z0 z1 z3 z4 ins l dl hlp hwn i m e hlt hN  h0 cx hcx (.inl ⟨rfl,⟨((i+1),(m)),by simp only; omega⟩,by simp only; omega,xr,by simp only; rw [hr]⟩)
  ·have hr:(sz2_f  (List.drop i (dl))  m)=(sz2_f  (List.drop (i+1) (dl))  (IntKind.wrap .i64 (m+nodes (dfB (List.getD dl i default))))):=by rw [hd,sz2_f,if_neg h0]
   exact sz2_b1 d0 d1 d3 d4 z0 z1 z3 z4 ins l dl hlp hwn i m e hlt hN  h0 cx hcx (.inl ⟨rfl,⟨((i+1),(IntKind.wrap .i64 (m+nodes (dfB (List.getD dl i default))))),by simp only; omega⟩,by simp only; omega,xr,by simp only; rw [hr]⟩)
 ·have he:i=dl.length:=by omega
  subst he
  have hr:(sz2_f  (List.drop (dl.length) (dl))  m)=(m):=by rw [List.drop_length,sz2_f]
  refine sz2_z1 d0 d1 d3 d4 z0 z1 z3 z4 ins l dl hlp hwn (dl.length) m e rfl hN   cx hcx (.inr ?_)
  rw [hr]
  exact ⟨by simp,rfl,xr⟩
theorem sz2(d0 d1 d3 d4:List (List PV))(z0 z1 z3 z4:Nat)(ins:List In)(l:List Df)(dl:List Df)(hlp:∀xe:Ext,(Ob.loop 47 (loopF Tryz.f55 0) (szI d0 d1 d3 d4 z0 z1 z3 z4 ins l l 0 xe) (.exit 0) ⟨[(3,.v (.int .i64 0)),(4,.uniq 88 25 (dfsC dl))],[],xe⟩).ok Tryz.prog)(hwn:∀w,w∈dl->Pu 9 [.agg (exL (dfB w))] (.ret (.int .i64 (nodes (dfB w)))))(m:Int)(e:Ext)(hN:dl.length<=1000000000)  : (Ob.loop 47 (loopF Tryz.f55 1) (sz2_I d0 d1 d3 d4 z0 z1 z3 z4 ins l dl 0 m e) (sz2_q d0 d1 d3 d4 z0 z1 z3 z4 ins l dl e (sz2_f  (dl)  m)).1 (sz2_q d0 d1 d3 d4 z0 z1 z3 z4 ins l dl e (sz2_f  (dl)  m)).2).ok Tryz.prog:=by
 have:=sz2_lp d0 d1 d3 d4 z0 z1 z3 z4 ins l dl hlp hwn e hN 0 m (Nat.zero_le _)
 rw [List.drop_zero] at this
 exact this
theorem rSize(d0 d1 d3 d4:List (List PV))(z0 z1 z3 z4:Nat)(ins:List In)(l:List Df)(dl:List Df)(hlp:∀xe:Ext,(Ob.loop 47 (loopF Tryz.f55 0) (szI d0 d1 d3 d4 z0 z1 z3 z4 ins l l 0 xe) (.exit 0) ⟨[(3,.v (.int .i64 0)),(4,.uniq 88 25 (dfsC dl))],[],xe⟩).ok Tryz.prog)(hwn:∀w,w∈dl->Pu 9 [.agg (exL (dfB w))] (.ret (.int .i64 (nodes (dfB w)))))(hdl:dl.length<=1000000000)(hx0:List.length ([]++(fun x=>Prod.snd x) (25,dfsC l)) * (455+1)<=140737488355328):Pu 55 ([.agg [.sl z0 d0,.sl z1 d1,.sl 12 (insC ins),.sl z3 d3,.sl z4 d4,.sl 25 (dfsC l)]]) (rI (sz2_f dl 0)):=
 pu mdL (fun e=>[am1 hx0,lp (S.mk [(0,.v (.agg [.sl z0 d0,.sl z1 d1,.sl 12 (insC ins),.sl z3 d3,.sl z4 d4,.sl 25 (dfsC l)])),(1,.lp 1 0),(2,vI6 0),(3,vI6 0),(7,LV.full 25 []),(8,.lp 1 5),(9,vL 25 (dfsC l)),(10,vL 25 ([]++dfsC l)),(4,.uniq 88 25 ([]++dfsC l)),(5,vI6 0)] [(1,[vL z0 d0,vL z1 d1,vL 12 (insC ins),vL z3 d3,vL z4 d4,vL 25 (dfsC l)])] e) (@hlp (e)) ⟨⟨W,W,(by first | exact .inl rfl | exact .inr ⟨rfl,rfl⟩ | exact .inr rfl | exact .inr trivial | exact .inl (by first | (simp only [List.nil_append,nmsC_app,dfsC_app,nmsC_snoc,Ex.cs_snoc,Vl.cs_snoc,Bd.cs_snoc,Bd.cs_snoc2]; done) | (simp only [List.nil_append,nmsC_app,dfsC_app,nmsC_snoc,Ex.cs_snoc,Vl.cs_snoc,Bd.cs_snoc,Bd.cs_snoc2]; rfl))),W,trivial⟩,⟨⟨W,W,W,W,W,W,trivial⟩,trivial⟩,rfl⟩,lq (@sz2 (d0) (d1) (d3) (d4) (z0) (z1) (z3) (z4) (ins) (l) (dl) hlp hwn (0) (e) hdl)]) Tryz.func55
theorem sz_loop(d0 d1 d3 d4:List (List PV))(z0 z1 z3 z4:Nat)(ins:List In)(l:List Df)(hi0:ins.length<=1000000)(hs:(l++ins.flatMap inDs).length<=300000000000)(xe:Ext):(Ob.loop 47 (loopF Tryz.f55 0) (szI d0 d1 d3 d4 z0 z1 z3 z4 ins l l 0 xe) (.exit 0) ⟨[(3,.v (.int .i64 0)),(4,.uniq 88 25 (dfsC (l++ins.flatMap inDs)))],[],xe⟩).ok Tryz.prog:=by
 have hsum:∀i,i<ins.length->(l++(ins.take i).flatMap inDs).length+(inDs (ins.getD i default)).length<=300000000000:=fun i hi=>by
  have e1:ins=ins.take i++ins.getD i default::ins.drop (i+1):=by rw [<-drop_at hi,List.take_append_drop]
  have e2:=congrArg (fun z=>(l++z.flatMap inDs).length) e1
  simp only [List.flatMap_append,List.flatMap_cons,List.length_append] at e2 hs ⊢
  omega
 have e0:l++(ins.take ins.length).flatMap inDs=l++ins.flatMap inDs:=by rw [List.take_length]
 have:=Ob.loop_idx (P:=Tryz.prog) (n:=47) (c:=(loopF Tryz.f55 0)) ins.length (fun i=>szI d0 d1 d3 d4 z0 z1 z3 z4 ins l (l++(ins.take i).flatMap inDs) i xe) (fun _=>(.exit 0,⟨[(3,.v (.int .i64 0)),(4,.uniq 88 25 (dfsC (l++ins.flatMap inDs)))],[],xe⟩)) ?_ ?_ 0 (Nat.zero_le _)
 ·simpa using this
 ·intro i hlt cx hcx
  refine szRd d0 d1 d3 d4 z0 z1 z3 z4 ins l _ i xe hlt hi0 (hsum i hlt) cx hcx (.inl ⟨rfl,⟨⟨W,W,.inl ?_,W,trivial⟩,⟨WLs.refl _,trivial⟩,rfl⟩,rfl⟩)
  rw [List.take_add_one,List.flatMap_append,<-List.append_assoc,dfsC_app _ (List.flatMap _ _)]
  simp [hlt,List.getD]
 ·intro cx hcx
  have z:=szZ d0 d1 d3 d4 z0 z1 z3 z4 ins l (l++(ins.take ins.length).flatMap inDs) xe cx hcx (Q:=fun pe s'=>pe ≠ .normal/\pe = .exit 0/\LeX ⟨[(3,.v (.int .i64 0)),(4,.uniq 88 25 (dfsC (l++ins.flatMap inDs)))],[],xe⟩ s')
  exact z ⟨by simp,rfl,⟨W,by rw [e0]; exact W,trivial⟩,trivial,rfl⟩
abbrev ctA_I(v:Vl)(cf:Vl->Int)(j:Int)(m:Int)(e:Ext):S:=S.mk [(1,.lp 1 0),(2,vI6 0),(3,vI6 m),(4,vI6 j)] [(1,vlV v)] e
section
variable (v:Vl) (cf:Vl->Int) (hwk:∀w,w∈vlK v->Pu 25 [.agg (vlL w)] (.ret (.int .i64 (cf w)))) (i:Nat) (m:Int) (e:Ext)
include v cf hwk i m e
theorem ctA_b1(hi:i<(vlK v).length)(hN:(vlK v).length<=1000000000)(cx:Cx)(hcx:cx.n=24){Q:PExit->S->Prop}(hq:Q (.normal) (S.mk [(1,.lp 1 0),(2,vI6 0),(3,vI6 (IntKind.wrap .i64 (m+cf (List.getD (vlK v) i default)))),(4,vI6 ((i:Int)+1))] [(1,vlV v)] e)):PW Tryz.prog cx (loopF Tryz.f25 0) (ctA_I v cf (i:Int) m e) Q:=
 pw mdL 24 [sl (Vl.cs_len (vlK v)),dt ((i:Int)<((vlK v).length:Int)),am ((0:Int)<=(i:Int)/\(i:Int)<((Vl.cs (vlK v)).length:Int)) (by (simp only [Vl.cs_len]; omega)),xVl (vlK v) i hi,cl (@hwk (List.getD (vlK v) i default) (by simp_all [insC_len,List.length_map,List.length_append,List.length_cons,List.length_nil,Ex.cs_len,Vl.cs_len,Al.cs_len,Bd.cs_len,nmsC_len,pmsC_len,Tp.cs_len,dfsC_len,Pr.cs_len,Int.toNat_natCast])),kp,wr ((i:Int)+1)] [1,2,3,4] [1] hcx hq
theorem ctA_z1(hi:i=(vlK v).length)(hN:(vlK v).length<=1000000000)(cx:Cx)(hcx:cx.n=24){Q:PExit->S->Prop}(hq:Q (.exit 0) (S.mk [(1,.lp 1 0),(2,vI6 0),(3,vI6 m),(4,vI6 (i:Int))] [(1,vlV v)] e)):PW Tryz.prog cx (loopF Tryz.f25 0) (ctA_I v cf (i:Int) m e) Q:=
 pw mdL 24 [sl (Vl.cs_len (vlK v)),df ((i:Int)<((vlK v).length:Int))] [1,2,3,4] [1] hcx hq
end
def ctA_f(cf:Vl->Int):List Vl->(Int)->(Int)
 | [],m=>(m)
 | el::r,m=>ctA_f cf r (IntKind.wrap .i64 (m+cf el))
def ctA_q(v:Vl)(cf:Vl->Int)(e:Ext)(p:(Int)):PExit × S:=(.exit 0,S.mk [(1,.lp 1 0),(2,vI6 0),(3,vI6 p)] [(1,vlV v)] e)
theorem ctA_lp(v:Vl)(cf:Vl->Int)(hwk:∀w,w∈vlK v->Pu 25 [.agg (vlL w)] (.ret (.int .i64 (cf w))))(e:Ext)(hN:(vlK v).length<=1000000000)(i:Nat)(m:Int)(hi0:i<=(vlK v).length)  : (Ob.loop 24 (loopF Tryz.f25 0) (ctA_I v cf (i:Int) m e) (ctA_q v cf e (ctA_f cf (List.drop i ((vlK v)))  m)).1 (ctA_q v cf e (ctA_f cf (List.drop i ((vlK v)))  m)).2).ok Tryz.prog:=by
 refine Ob.loop_of (P:=Tryz.prog) (α:={ zz:Nat × (Int) // zz.1<=(vlK v).length }) (fun zz=>ctA_I v cf (zz.1.1:Int) zz.1.2 e) (fun zz=>(vlK v).length - zz.1.1) (fun zz=>(ctA_q v cf e (ctA_f cf (List.drop zz.1.1 ((vlK v)))  zz.1.2))) ?_ ⟨(i,m),hi0⟩
 clear hi0
 clear m i
 rintro ⟨⟨i,m⟩,hi⟩ cx hcx
 simp only at hi  ⊢
 rcases Nat.lt_or_ge i ((vlK v).length) with hlt | hge
 ·have hd:=drop_at hlt
  have hr:(ctA_f cf (List.drop i ((vlK v)))  m)=(ctA_f cf (List.drop (i+1) ((vlK v)))  (IntKind.wrap .i64 (m+cf (List.getD (vlK v) i default)))):=by rw [hd,ctA_f]
  exact ctA_b1 v cf hwk i m e hlt hN   cx hcx (.inl ⟨rfl,⟨((i+1),(IntKind.wrap .i64 (m+cf (List.getD (vlK v) i default)))),by simp only; omega⟩,by simp only; omega,xr,by simp only; rw [hr]⟩)
 ·have he:i=(vlK v).length:=by omega
  subst he
  have hr:(ctA_f cf (List.drop ((vlK v).length) ((vlK v)))  m)=(m):=by rw [List.drop_length,ctA_f]
  refine ctA_z1 v cf hwk ((vlK v).length) m e rfl hN   cx hcx (.inr ?_)
  rw [hr]
  exact ⟨by simp,rfl,xr⟩
theorem ctA(v:Vl)(cf:Vl->Int)(hwk:∀w,w∈vlK v->Pu 25 [.agg (vlL w)] (.ret (.int .i64 (cf w))))(m:Int)(e:Ext)(hN:(vlK v).length<=1000000000)  : (Ob.loop 24 (loopF Tryz.f25 0) (ctA_I v cf 0 m e) (ctA_q v cf e (ctA_f cf ((vlK v))  m)).1 (ctA_q v cf e (ctA_f cf ((vlK v))  m)).2).ok Tryz.prog:=by
 have:=ctA_lp v cf hwk e hN 0 m (Nat.zero_le _)
 rw [List.drop_zero] at this
 exact this
section
variable (v:Vl) (cf:Vl->Int) (hwk:∀w,w∈vlK v->Pu 25 [.agg (vlL w)] (.ret (.int .i64 (cf w)))) (hk:(vlK v).length<=1000000000)
include v cf hwk hk
theorem rCount_1(hx0:vlO v=4):Pu 25 ([.agg (vlL v)]) (rI (ctA_f cf (vlK v) 1)):=
 pu mdL (fun e=>[et1 hx0,lp (S.mk [(0,.v (.agg (vlL v))),(1,.lp 1 0),(2,vI6 0),(3,vI6 1),(5,.lp 1 0),(6,vI6 (vlO v)),(7,.v (.bool (vlO v==4))),(4,vI6 0)] [(1,vlV v)] e) (@ctA (v) (cf) hwk (1) (e) hk) xr]) Tryz.func25
theorem rCount_2(hx0:¬vlO v=4):Pu 25 ([.agg (vlL v)]) (rI (ctA_f cf (vlK v) 0)):=
 pu mdL (fun e=>[en1 hx0,lp (S.mk [(0,.v (.agg (vlL v))),(1,.lp 1 0),(2,vI6 0),(3,vI6 0),(5,.lp 1 0),(6,vI6 (vlO v)),(7,.v (.bool (vlO v==4))),(4,vI6 0)] [(1,vlV v)] e) (@ctA (v) (cf) hwk (0) (e) hk) xr]) Tryz.func25
end
abbrev flA_I(v:Vl)(ff:Vl->Int->Bool)(d:Int)(j:Int)(e:Ext):S:=S.mk [(1,vI6 d),(2,.lp 2 0),(5,vI6 j)] [(2,vlV v)] e
section
variable (v:Vl) (ff:Vl->Int->Bool) (d:Int) (hwk:∀ (w:Vl) (m:Int),w∈vlK v->Pu 56 [.agg (vlL w),.int .i64 m] (.ret (.bool (ff w m)))) (hdz:¬d=0) (h1:¬(vlK v).length>4) (h2:¬(vlBd v).length>0) (h3:¬(vlB v).length>0) (i:Nat) (e:Ext)
include v ff d hwk hdz h1 h2 h3 i e
theorem flA_b1(hi:i<(vlK v).length)(hN:(vlK v).length<=1000000000)(hx0:ff (List.getD (vlK v) i default) (IntKind.wrap .i64 (d - 1))=false)(cx:Cx)(hcx:cx.n=42){Q:PExit->S->Prop}(hq:Q (.ret) (S.mk [(1,vI6 d),(2,.lp 2 0),(5,vI6 (i:Int)),(4,.v (.bool false))] [(2,vlV v)] e)):PW Tryz.prog cx (loopF Tryz.f56 0) (flA_I v ff d (i:Int) e) Q:=
 pw mdL 42 [sl (Vl.cs_len (vlK v)),dt ((i:Int)<((vlK v).length:Int)),am ((0:Int)<=(i:Int)/\(i:Int)<((Vl.cs (vlK v)).length:Int)) (by (simp only [Vl.cs_len]; omega)),xVl (vlK v) i hi,kp,cl (@hwk (List.getD (vlK v) i default) (IntKind.wrap .i64 (d - 1)) (by simp_all [insC_len,List.length_map,List.length_append,List.length_cons,List.length_nil,Ex.cs_len,Vl.cs_len,Al.cs_len,Bd.cs_len,nmsC_len,pmsC_len,Tp.cs_len,dfsC_len,Pr.cs_len,Int.toNat_natCast])),bt1 (bnT hx0)] [1,2,5,4] [2] hcx hq
theorem flA_b2(hi:i<(vlK v).length)(hN:(vlK v).length<=1000000000)(hx0:ff (List.getD (vlK v) i default) (IntKind.wrap .i64 (d - 1))=true)(cx:Cx)(hcx:cx.n=42){Q:PExit->S->Prop}(hq:Q (.normal) (S.mk [(1,vI6 d),(2,.lp 2 0),(5,vI6 ((i:Int)+1))] [(2,vlV v)] e)):PW Tryz.prog cx (loopF Tryz.f56 0) (flA_I v ff d (i:Int) e) Q:=
 pw mdL 42 [sl (Vl.cs_len (vlK v)),dt ((i:Int)<((vlK v).length:Int)),am ((0:Int)<=(i:Int)/\(i:Int)<((Vl.cs (vlK v)).length:Int)) (by (simp only [Vl.cs_len]; omega)),xVl (vlK v) i hi,kp,cl (@hwk (List.getD (vlK v) i default) (IntKind.wrap .i64 (d - 1)) (by simp_all [insC_len,List.length_map,List.length_append,List.length_cons,List.length_nil,Ex.cs_len,Vl.cs_len,Al.cs_len,Bd.cs_len,nmsC_len,pmsC_len,Tp.cs_len,dfsC_len,Pr.cs_len,Int.toNat_natCast])),bf1 (bnF hx0),wr ((i:Int)+1)] [1,2,5,4] [2] hcx hq
theorem flA_z1(hi:i=(vlK v).length)(hN:(vlK v).length<=1000000000)(cx:Cx)(hcx:cx.n=42){Q:PExit->S->Prop}(hq:Q (.exit 0) (S.mk [(1,vI6 d),(2,.lp 2 0),(5,vI6 (i:Int))] [(2,vlV v)] e)):PW Tryz.prog cx (loopF Tryz.f56 0) (flA_I v ff d (i:Int) e) Q:=
 pw mdL 42 [sl (Vl.cs_len (vlK v)),df ((i:Int)<((vlK v).length:Int))] [1,2,5,4] [2] hcx hq
end
inductive flA_R where
 | e0
 | e1
def flA_f(ff:Vl->Int->Bool)(d:Int):List Vl->flA_R
 | []=>(flA_R.e1)
 | el::r=>(if ff el (IntKind.wrap .i64 (d - 1))=false then (flA_R.e0) else flA_f ff d r)
def flA_q(v:Vl)(ff:Vl->Int->Bool)(d:Int)(e:Ext):flA_R->PExit × S
 | .e0=>(.ret,S.mk [(1,vI6 d),(2,.lp 2 0),(4,.v (.bool false))] [(2,vlV v)] e)
 | .e1=>(.exit 0,S.mk [(1,vI6 d),(2,.lp 2 0)] [(2,vlV v)] e)
theorem flA_lp(v:Vl)(ff:Vl->Int->Bool)(d:Int)(hwk:∀ (w:Vl) (m:Int),w∈vlK v->Pu 56 [.agg (vlL w),.int .i64 m] (.ret (.bool (ff w m))))(hdz:¬d=0)(h1:¬(vlK v).length>4)(h2:¬(vlBd v).length>0)(h3:¬(vlB v).length>0)(e:Ext)(hN:(vlK v).length<=1000000000)(i:Nat)(hi0:i<=(vlK v).length)  : (Ob.loop 42 (loopF Tryz.f56 0) (flA_I v ff d (i:Int)  e) (flA_q v ff d e (flA_f ff d (List.drop i ((vlK v))))).1 (flA_q v ff d e (flA_f ff d (List.drop i ((vlK v))))).2).ok Tryz.prog:=by
 refine Ob.loop_of (P:=Tryz.prog) (α:={ zz:Nat × Unit // zz.1<=(vlK v).length }) (fun zz=>flA_I v ff d (zz.1.1:Int)  e) (fun zz=>(vlK v).length - zz.1.1) (fun zz=>(flA_q v ff d e (flA_f ff d (List.drop zz.1.1 ((vlK v)))))) ?_ ⟨(i,()),hi0⟩
 clear hi0
 clear  i
 rintro ⟨⟨i,u⟩,hi⟩ cx hcx
 simp only at hi  ⊢
 rcases Nat.lt_or_ge i ((vlK v).length) with hlt | hge
 ·have hd:=drop_at hlt
  by_cases h0:ff (List.getD (vlK v) i default) (IntKind.wrap .i64 (d - 1))=false
  ·have hr:(flA_f ff d (List.drop i ((vlK v))))=(flA_R.e0):=by rw [hd,flA_f,if_pos h0]
   refine flA_b1 v ff d hwk hdz h1 h2 h3 i  e hlt hN  h0 cx hcx (.inr ?_)
   rw [hr]
   exact ⟨by simp,rfl,xr⟩
  ·have hr:(flA_f ff d (List.drop i ((vlK v))))=(flA_f ff d (List.drop (i+1) ((vlK v)))):=by rw [hd,flA_f,if_neg h0]
   exact flA_b2 v ff d hwk hdz h1 h2 h3 i  e hlt hN  (bTF h0) cx hcx (.inl ⟨rfl,⟨((i+1),()),by simp only; omega⟩,by simp only; omega,xr,by simp only; rw [hr]⟩)
 ·have he:i=(vlK v).length:=by omega
  subst he
  have hr:(flA_f ff d (List.drop ((vlK v).length) ((vlK v))))=(flA_R.e1):=by rw [List.drop_length,flA_f]
  refine flA_z1 v ff d hwk hdz h1 h2 h3 ((vlK v).length)  e rfl hN   cx hcx (.inr ?_)
  rw [hr]
  exact ⟨by simp,rfl,xr⟩
theorem flA_0(v:Vl)(ff:Vl->Int->Bool)(d:Int)(hwk:∀ (w:Vl) (m:Int),w∈vlK v->Pu 56 [.agg (vlL w),.int .i64 m] (.ret (.bool (ff w m))))(hdz:¬d=0)(h1:¬(vlK v).length>4)(h2:¬(vlBd v).length>0)(h3:¬(vlB v).length>0)(e:Ext)(hN:(vlK v).length<=1000000000)(hres:(flA_f ff d ((vlK v)))=(flA_R.e0)):(Ob.loop 42 (loopF Tryz.f56 0) (flA_I v ff d 0  e) (flA_q v ff d e (flA_R.e0)).1 (flA_q v ff d e (flA_R.e0)).2).ok Tryz.prog:=by
 have:=flA_lp v ff d hwk hdz h1 h2 h3 e hN 0  (Nat.zero_le _)
 rw [List.drop_zero] at this
 rw [hres] at this
 exact this
theorem flA_1(v:Vl)(ff:Vl->Int->Bool)(d:Int)(hwk:∀ (w:Vl) (m:Int),w∈vlK v->Pu 56 [.agg (vlL w),.int .i64 m] (.ret (.bool (ff w m))))(hdz:¬d=0)(h1:¬(vlK v).length>4)(h2:¬(vlBd v).length>0)(h3:¬(vlB v).length>0)(e:Ext)(hN:(vlK v).length<=1000000000)(hres:(flA_f ff d ((vlK v)))=(flA_R.e1)):(Ob.loop 42 (loopF Tryz.f56 0) (flA_I v ff d 0  e) (flA_q v ff d e (flA_R.e1)).1 (flA_q v ff d e (flA_R.e1)).2).ok Tryz.prog:=by
 have:=flA_lp v ff d hwk hdz h1 h2 h3 e hN 0  (Nat.zero_le _)
 rw [List.drop_zero] at this
 rw [hres] at this
 exact this
section
variable (v:Vl) (ff:Vl->Int->Bool) (d:Int) (hwk:∀ (w:Vl) (m:Int),w∈vlK v->Pu 56 [.agg (vlL w),.int .i64 m] (.ret (.bool (ff w m))))
include v ff d hwk
theorem rFlat_1(hx0:d=0):Pu 56 ([.agg (vlL v),pI d]) (rB false):=
 pu mdL (fun e=>[rp 5 (et1 hx0),rp 11 (bt true)]) Tryz.func56
theorem rFlat_2(hx0:¬d=0)(hx1:((vlK v).length:Int)>4):Pu 56 ([.agg (vlL v),pI d]) (rB false):=
 pu mdL (fun e=>[rp 3 (en1 hx0),sl (Vl.cs_len (vlK v)),rp 2 (en1 hx0),rp 5 (dt1 hx1),rp 6 (bt true)]) Tryz.func56
theorem rFlat_3(hx0:¬d=0)(hx1:¬((vlK v).length:Int)>4)(hx2:((vlBd v).length:Int)>0):Pu 56 ([.agg (vlL v),pI d]) (rB false):=
 pu mdL (fun e=>[rp 3 (en1 hx0),sl (Vl.cs_len (vlK v)),rp 2 (en1 hx0),rp 3 (df1 hx1),sl (Bd.cs_len (vlBd v)),rp 2 (df1 hx1),rp 5 (dt1 hx2),bt true]) Tryz.func56
theorem rFlat_4(hx0:¬d=0)(hx1:¬((vlK v).length:Int)>4)(hx2:¬((vlBd v).length:Int)>0)(hx3:((vlB v).length:Int)>0):Pu 56 ([.agg (vlL v),pI d]) (rB false):=
 pu mdL (fun e=>[rp 3 (en1 hx0),sl (Vl.cs_len (vlK v)),rp 2 (en1 hx0),rp 3 (df1 hx1),sl (Bd.cs_len (vlBd v)),rp 2 (df1 hx1),rp 3 (df1 hx2),sl (Ex.cs_len (vlB v)),rp 2 (df1 hx2),dt1 hx3]) Tryz.func56
theorem rFlat_5(hx0:¬d=0)(hx1:¬((vlK v).length:Int)>4)(hx2:¬((vlBd v).length:Int)>0)(hx3:¬((vlB v).length:Int)>0)(hx4:flA_f ff d (vlK v)=flA_R.e0):Pu 56 ([.agg (vlL v),pI d]) (rB false):=
 pu mdL (fun e=>[rp 3 (en1 hx0),sl (Vl.cs_len (vlK v)),rp 2 (en1 hx0),rp 3 (df1 hx1),sl (Bd.cs_len (vlBd v)),rp 2 (df1 hx1),rp 3 (df1 hx2),sl (Ex.cs_len (vlB v)),rp 2 (df1 hx2),df1 hx3,lp (S.mk [(0,.v (.agg (vlL v))),(1,vI6 d),(2,.lp 2 0),(4,.v (.bool false)),(6,vI6 d),(7,.v (.bool (d==0))),(8,.v (.bool (d==0))),(9,.lp 2 3),(10,vL 7 (Vl.cs (vlK v))),(11,vI6 ((vlK v).length:Int)),(12,.v (.bool (decide (((vlK v).length:Int)>4)))),(13,.v (.bool (decide (((vlK v).length:Int)>4)))),(14,.v (.bool (decide (((vlK v).length:Int)>4)))),(15,.lp 2 6),(16,vL 8 (Bd.cs (vlBd v))),(17,vI6 ((vlBd v).length:Int)),(18,.v (.bool (decide (((vlBd v).length:Int)>0)))),(19,.v (.bool (decide (((vlBd v).length:Int)>0)))),(20,.v (.bool (decide (((vlBd v).length:Int)>0)))),(21,.lp 2 5),(22,vL 7 (Ex.cs (vlB v))),(23,vI6 ((vlB v).length:Int)),(24,.v (.bool (decide (((vlB v).length:Int)>0)))),(25,.v (.bool (decide (((vlB v).length:Int)>0)))),(5,vI6 0)] [(2,vlV v)] e) (@flA_0 (v) (ff) (d) hwk hx0 (by omega) (by omega) (by omega) (e) (by omega) hx4) xr]) Tryz.func56
theorem rFlat_6(hx0:¬d=0)(hx1:¬((vlK v).length:Int)>4)(hx2:¬((vlBd v).length:Int)>0)(hx3:¬((vlB v).length:Int)>0)(hx4:flA_f ff d (vlK v)=flA_R.e1):Pu 56 ([.agg (vlL v),pI d]) (rB true):=
 pu mdL (fun e=>[rp 3 (en1 hx0),sl (Vl.cs_len (vlK v)),rp 2 (en1 hx0),rp 3 (df1 hx1),sl (Bd.cs_len (vlBd v)),rp 2 (df1 hx1),rp 3 (df1 hx2),sl (Ex.cs_len (vlB v)),rp 2 (df1 hx2),df1 hx3,lp (S.mk [(0,.v (.agg (vlL v))),(1,vI6 d),(2,.lp 2 0),(4,.v (.bool false)),(6,vI6 d),(7,.v (.bool (d==0))),(8,.v (.bool (d==0))),(9,.lp 2 3),(10,vL 7 (Vl.cs (vlK v))),(11,vI6 ((vlK v).length:Int)),(12,.v (.bool (decide (((vlK v).length:Int)>4)))),(13,.v (.bool (decide (((vlK v).length:Int)>4)))),(14,.v (.bool (decide (((vlK v).length:Int)>4)))),(15,.lp 2 6),(16,vL 8 (Bd.cs (vlBd v))),(17,vI6 ((vlBd v).length:Int)),(18,.v (.bool (decide (((vlBd v).length:Int)>0)))),(19,.v (.bool (decide (((vlBd v).length:Int)>0)))),(20,.v (.bool (decide (((vlBd v).length:Int)>0)))),(21,.lp 2 5),(22,vL 7 (Ex.cs (vlB v))),(23,vI6 ((vlB v).length:Int)),(24,.v (.bool (decide (((vlB v).length:Int)>0)))),(25,.v (.bool (decide (((vlB v).length:Int)>0)))),(5,vI6 0)] [(2,vlV v)] e) (@flA_1 (v) (ff) (d) hwk hx0 (by omega) (by omega) (by omega) (e) (by omega) hx4) xr]) Tryz.func56
end
abbrev liA_I(d0:List (List PV))(d1:List (List PV))(d3:List (List PV))(d4:List (List PV))(z0:Nat)(z1:Nat)(z3:Nat)(z4:Nat)(ins:List In)(l:List Df)(args:List Vl)(ff:Vl->Int->Bool)(k:Int)(j:Int)(e:Ext):S:=S.mk [(1,vL 7 (Vl.cs args)),(5,vI6 j)] [] e
section
variable (d0 d1 d3 d4:List (List PV)) (z0 z1 z3 z4:Nat) (ins:List In) (l:List Df) (args:List Vl) (ff:Vl->Int->Bool) (k:Int) (hsz:Pu 55 [.agg [.sl z0 d0,.sl z1 d1,.sl 12 (insC ins),.sl z3 d3,.sl z4 d4,.sl 25 (dfsC l)]] (.ret (.int .i64 k))) (hwk:∀ (w:Vl) (m:Int),w∈args->Pu 56 [.agg (vlL w),.int .i64 m] (.ret (.bool (ff w m)))) (h1:¬l.length>8) (h2:¬k>300) (h3:¬args.length>6) (i:Nat) (e:Ext)
include d0 d1 d3 d4 z0 z1 z3 z4 ins l args ff k hsz hwk h1 h2 h3 i e
theorem liA_b1(hi:i<args.length)(hN:args.length<=1000000000)(hx0:ff (List.getD args i default) 3=false)(cx:Cx)(hcx:cx.n=32){Q:PExit->S->Prop}(hq:Q (.ret) (S.mk [(1,vL 7 (Vl.cs args)),(5,vI6 (i:Int)),(4,.v (.bool false))] [] e)):PW Tryz.prog cx (loopF Tryz.f23 0) (liA_I d0 d1 d3 d4 z0 z1 z3 z4 ins l args ff k (i:Int) e) Q:=
 pw mdL 32 [sl (Vl.cs_len args),dt ((i:Int)<(args.length:Int)),am ((0:Int)<=(i:Int)/\(i:Int)<((Vl.cs args).length:Int)) (by (simp only [Vl.cs_len]; omega)),xVl args i hi,cl (@hwk (List.getD args i default) (3) (by simp_all [insC_len,List.length_map,List.length_append,List.length_cons,List.length_nil,Ex.cs_len,Vl.cs_len,Al.cs_len,Bd.cs_len,nmsC_len,pmsC_len,Tp.cs_len,dfsC_len,Pr.cs_len,Int.toNat_natCast])),bt1 (bnT hx0)] [1,5,4] [] hcx hq
theorem liA_b2(hi:i<args.length)(hN:args.length<=1000000000)(hx0:ff (List.getD args i default) 3=true)(cx:Cx)(hcx:cx.n=32){Q:PExit->S->Prop}(hq:Q (.normal) (S.mk [(1,vL 7 (Vl.cs args)),(5,vI6 ((i:Int)+1))] [] e)):PW Tryz.prog cx (loopF Tryz.f23 0) (liA_I d0 d1 d3 d4 z0 z1 z3 z4 ins l args ff k (i:Int) e) Q:=
 pw mdL 32 [sl (Vl.cs_len args),dt ((i:Int)<(args.length:Int)),am ((0:Int)<=(i:Int)/\(i:Int)<((Vl.cs args).length:Int)) (by (simp only [Vl.cs_len]; omega)),xVl args i hi,cl (@hwk (List.getD args i default) (3) (by simp_all [insC_len,List.length_map,List.length_append,List.length_cons,List.length_nil,Ex.cs_len,Vl.cs_len,Al.cs_len,Bd.cs_len,nmsC_len,pmsC_len,Tp.cs_len,dfsC_len,Pr.cs_len,Int.toNat_natCast])),bf1 (bnF hx0),wr ((i:Int)+1)] [1,5,4] [] hcx hq
theorem liA_z1(hi:i=args.length)(hN:args.length<=1000000000)(cx:Cx)(hcx:cx.n=32){Q:PExit->S->Prop}(hq:Q (.exit 0) (S.mk [(1,vL 7 (Vl.cs args)),(5,vI6 (i:Int))] [] e)):PW Tryz.prog cx (loopF Tryz.f23 0) (liA_I d0 d1 d3 d4 z0 z1 z3 z4 ins l args ff k (i:Int) e) Q:=
 pw mdL 32 [sl (Vl.cs_len args),df ((i:Int)<(args.length:Int))] [1,5,4] [] hcx hq
end
inductive liA_R where
 | e0
 | e1
def liA_f(ff:Vl->Int->Bool):List Vl->liA_R
 | []=>(liA_R.e1)
 | el::r=>(if ff el 3=false then (liA_R.e0) else liA_f ff r)
def liA_q(d0:List (List PV))(d1:List (List PV))(d3:List (List PV))(d4:List (List PV))(z0:Nat)(z1:Nat)(z3:Nat)(z4:Nat)(ins:List In)(l:List Df)(args:List Vl)(ff:Vl->Int->Bool)(k:Int)(e:Ext):liA_R->PExit × S
 | .e0=>(.ret,S.mk [(1,vL 7 (Vl.cs args)),(4,.v (.bool false))] [] e)
 | .e1=>(.exit 0,S.mk [(1,vL 7 (Vl.cs args))] [] e)
theorem liA_lp(d0 d1 d3 d4:List (List PV))(z0 z1 z3 z4:Nat)(ins:List In)(l:List Df)(args:List Vl)(ff:Vl->Int->Bool)(k:Int)(hsz:Pu 55 [.agg [.sl z0 d0,.sl z1 d1,.sl 12 (insC ins),.sl z3 d3,.sl z4 d4,.sl 25 (dfsC l)]] (.ret (.int .i64 k)))(hwk:∀ (w:Vl) (m:Int),w∈args->Pu 56 [.agg (vlL w),.int .i64 m] (.ret (.bool (ff w m))))(h1:¬l.length>8)(h2:¬k>300)(h3:¬args.length>6)(e:Ext)(hN:args.length<=1000000000)(i:Nat)(hi0:i<=args.length)  : (Ob.loop 32 (loopF Tryz.f23 0) (liA_I d0 d1 d3 d4 z0 z1 z3 z4 ins l args ff k (i:Int)  e) (liA_q d0 d1 d3 d4 z0 z1 z3 z4 ins l args ff k e (liA_f ff (List.drop i (args)))).1 (liA_q d0 d1 d3 d4 z0 z1 z3 z4 ins l args ff k e (liA_f ff (List.drop i (args)))).2).ok Tryz.prog:=by
 refine Ob.loop_of (P:=Tryz.prog) (α:={ zz:Nat × Unit // zz.1<=args.length }) (fun zz=>liA_I d0 d1 d3 d4 z0 z1 z3 z4 ins l args ff k (zz.1.1:Int)  e) (fun zz=>args.length - zz.1.1) (fun zz=>(liA_q d0 d1 d3 d4 z0 z1 z3 z4 ins l args ff k e (liA_f ff (List.drop zz.1.1 (args))))) ?_ ⟨(i,()),hi0⟩
 clear hi0
 clear  i
 rintro ⟨⟨i,u⟩,hi⟩ cx hcx
 simp only at hi  ⊢
 rcases Nat.lt_or_ge i (args.length) with hlt | hge
 ·have hd:=drop_at hlt
  by_cases h0:ff (List.getD args i default) 3=false
  ·have hr:(liA_f ff (List.drop i (args)))=(liA_R.e0):=by rw [hd,liA_f,if_pos h0]
   refine liA_b1 d0 d1 d3 d4 z0 z1 z3 z4 ins l args ff k hsz hwk h1 h2 h3 i  e hlt hN  h0 cx hcx (.inr ?_)
   rw [hr]
   exact ⟨by simp,rfl,xr⟩
  ·have hr:(liA_f ff (List.drop i (args)))=(liA_f ff (List.drop (i+1) (args))):=by rw [hd,liA_f,if_neg h0]
   exact liA_b2 d0 d1 d3 d4 z0 z1 z3 z4 ins l args ff k hsz hwk h1 h2 h3 i  e hlt hN  (bTF h0) cx hcx (.inl ⟨rfl,⟨((i+1),()),by simp only; omega⟩,by simp only; omega,xr,by simp only; rw [hr]⟩)
 ·have he:i=args.length:=by omega
  subst he
  have hr:(liA_f ff (List.drop (args.length) (args)))=(liA_R.e1):=by rw [List.drop_length,liA_f]
  refine liA_z1 d0 d1 d3 d4 z0 z1 z3 z4 ins l args ff k hsz hwk h1 h2 h3 (args.length)  e rfl hN   cx hcx (.inr ?_)
  rw [hr]
  exact ⟨by simp,rfl,xr⟩
theorem liA_0(d0 d1 d3 d4:List (List PV))(z0 z1 z3 z4:Nat)(ins:List In)(l:List Df)(args:List Vl)(ff:Vl->Int->Bool)(k:Int)(hsz:Pu 55 [.agg [.sl z0 d0,.sl z1 d1,.sl 12 (insC ins),.sl z3 d3,.sl z4 d4,.sl 25 (dfsC l)]] (.ret (.int .i64 k)))(hwk:∀ (w:Vl) (m:Int),w∈args->Pu 56 [.agg (vlL w),.int .i64 m] (.ret (.bool (ff w m))))(h1:¬l.length>8)(h2:¬k>300)(h3:¬args.length>6)(e:Ext)(hN:args.length<=1000000000)(hres:(liA_f ff (args))=(liA_R.e0)):(Ob.loop 32 (loopF Tryz.f23 0) (liA_I d0 d1 d3 d4 z0 z1 z3 z4 ins l args ff k 0  e) (liA_q d0 d1 d3 d4 z0 z1 z3 z4 ins l args ff k e (liA_R.e0)).1 (liA_q d0 d1 d3 d4 z0 z1 z3 z4 ins l args ff k e (liA_R.e0)).2).ok Tryz.prog:=by
 have:=liA_lp d0 d1 d3 d4 z0 z1 z3 z4 ins l args ff k hsz hwk h1 h2 h3 e hN 0  (Nat.zero_le _)
 rw [List.drop_zero] at this
 rw [hres] at this
 exact this
theorem liA_1(d0 d1 d3 d4:List (List PV))(z0 z1 z3 z4:Nat)(ins:List In)(l:List Df)(args:List Vl)(ff:Vl->Int->Bool)(k:Int)(hsz:Pu 55 [.agg [.sl z0 d0,.sl z1 d1,.sl 12 (insC ins),.sl z3 d3,.sl z4 d4,.sl 25 (dfsC l)]] (.ret (.int .i64 k)))(hwk:∀ (w:Vl) (m:Int),w∈args->Pu 56 [.agg (vlL w),.int .i64 m] (.ret (.bool (ff w m))))(h1:¬l.length>8)(h2:¬k>300)(h3:¬args.length>6)(e:Ext)(hN:args.length<=1000000000)(hres:(liA_f ff (args))=(liA_R.e1)):(Ob.loop 32 (loopF Tryz.f23 0) (liA_I d0 d1 d3 d4 z0 z1 z3 z4 ins l args ff k 0  e) (liA_q d0 d1 d3 d4 z0 z1 z3 z4 ins l args ff k e (liA_R.e1)).1 (liA_q d0 d1 d3 d4 z0 z1 z3 z4 ins l args ff k e (liA_R.e1)).2).ok Tryz.prog:=by
 have:=liA_lp d0 d1 d3 d4 z0 z1 z3 z4 ins l args ff k hsz hwk h1 h2 h3 e hN 0  (Nat.zero_le _)
 rw [List.drop_zero] at this
 rw [hres] at this
 exact this
section
variable (d0 d1 d3 d4:List (List PV)) (z0 z1 z3 z4:Nat) (ins:List In) (l:List Df) (args:List Vl) (ff:Vl->Int->Bool) (k:Int) (hsz:Pu 55 [.agg [.sl z0 d0,.sl z1 d1,.sl 12 (insC ins),.sl z3 d3,.sl z4 d4,.sl 25 (dfsC l)]] (.ret (.int .i64 k))) (hwk:∀ (w:Vl) (m:Int),w∈args->Pu 56 [.agg (vlL w),.int .i64 m] (.ret (.bool (ff w m))))
include d0 d1 d3 d4 z0 z1 z3 z4 ins l args ff k hsz hwk
theorem rLig_1(hx0:(l.length:Int)>8):Pu 23 ([.agg [.sl z0 d0,.sl z1 d1,.sl 12 (insC ins),.sl z3 d3,.sl z4 d4,.sl 25 (dfsC l)],.sl 7 (Vl.cs args)]) (rB false):=
 pu mdL (fun e=>[sl (dfsC_len l),rp 4 (dt1 hx0),rp 5 (bt true)]) Tryz.func23
theorem rLig_2(hx0:¬(l.length:Int)>8)(hx1:k>300):Pu 23 ([.agg [.sl z0 d0,.sl z1 d1,.sl 12 (insC ins),.sl z3 d3,.sl z4 d4,.sl 25 (dfsC l)],.sl 7 (Vl.cs args)]) (rB false):=
 pu mdL (fun e=>[sl (dfsC_len l),rp 2 (df1 hx0),cl hsz,rp 2 (df1 hx0),rp 4 (dt1 hx1),bt true]) Tryz.func23
theorem rLig_3(hx0:¬(l.length:Int)>8)(hx1:¬k>300)(hx2:(args.length:Int)>6):Pu 23 ([.agg [.sl z0 d0,.sl z1 d1,.sl 12 (insC ins),.sl z3 d3,.sl z4 d4,.sl 25 (dfsC l)],.sl 7 (Vl.cs args)]) (rB false):=
 pu mdL (fun e=>[sl (dfsC_len l),rp 2 (df1 hx0),cl hsz,rp 2 (df1 hx0),rp 2 (df1 hx1),sl (Vl.cs_len args),rp 2 (df1 hx1),dt1 hx2]) Tryz.func23
theorem rLig_4(hx0:¬(l.length:Int)>8)(hx1:¬k>300)(hx2:¬(args.length:Int)>6)(hx3:liA_f ff args=liA_R.e0):Pu 23 ([.agg [.sl z0 d0,.sl z1 d1,.sl 12 (insC ins),.sl z3 d3,.sl z4 d4,.sl 25 (dfsC l)],.sl 7 (Vl.cs args)]) (rB false):=
 pu mdL (fun e=>[sl (dfsC_len l),rp 2 (df1 hx0),cl hsz,rp 2 (df1 hx0),rp 2 (df1 hx1),sl (Vl.cs_len args),rp 2 (df1 hx1),df1 hx2,lp (S.mk [(0,.v (.agg [.sl z0 d0,.sl z1 d1,.sl 12 (insC ins),.sl z3 d3,.sl z4 d4,.sl 25 (dfsC l)])),(1,vL 7 (Vl.cs args)),(2,.lp 2 0),(4,.v (.bool false)),(6,.lp 2 5),(7,vL 25 (dfsC l)),(8,vI6 (l.length:Int)),(9,.v (.bool (decide ((l.length:Int)>8)))),(10,.v (.bool (decide ((l.length:Int)>8)))),(11,.v (.agg [.sl z0 d0,.sl z1 d1,.sl 12 (insC ins),.sl z3 d3,.sl z4 d4,.sl 25 (dfsC l)])),(12,vI6 k),(13,.v (.bool (decide (k>300)))),(14,.v (.bool (decide (k>300)))),(15,.v (.bool (decide (k>300)))),(16,vL 7 (Vl.cs args)),(17,vI6 (args.length:Int)),(18,.v (.bool (decide ((args.length:Int)>6)))),(19,.v (.bool (decide ((args.length:Int)>6)))),(5,vI6 0)] [(2,[vL z0 d0,vL z1 d1,vL 12 (insC ins),vL z3 d3,vL z4 d4,vL 25 (dfsC l)])] e) (@liA_0 (d0) (d1) (d3) (d4) (z0) (z1) (z3) (z4) (ins) (l) (args) (ff) (k) hsz hwk (by omega) hx1 (by omega) (e) (by omega) hx3) xr]) Tryz.func23
theorem rLig_5(hx0:¬(l.length:Int)>8)(hx1:¬k>300)(hx2:¬(args.length:Int)>6)(hx3:liA_f ff args=liA_R.e1):Pu 23 ([.agg [.sl z0 d0,.sl z1 d1,.sl 12 (insC ins),.sl z3 d3,.sl z4 d4,.sl 25 (dfsC l)],.sl 7 (Vl.cs args)]) (rB true):=
 pu mdL (fun e=>[sl (dfsC_len l),rp 2 (df1 hx0),cl hsz,rp 2 (df1 hx0),rp 2 (df1 hx1),sl (Vl.cs_len args),rp 2 (df1 hx1),df1 hx2,lp (S.mk [(0,.v (.agg [.sl z0 d0,.sl z1 d1,.sl 12 (insC ins),.sl z3 d3,.sl z4 d4,.sl 25 (dfsC l)])),(1,vL 7 (Vl.cs args)),(2,.lp 2 0),(4,.v (.bool false)),(6,.lp 2 5),(7,vL 25 (dfsC l)),(8,vI6 (l.length:Int)),(9,.v (.bool (decide ((l.length:Int)>8)))),(10,.v (.bool (decide ((l.length:Int)>8)))),(11,.v (.agg [.sl z0 d0,.sl z1 d1,.sl 12 (insC ins),.sl z3 d3,.sl z4 d4,.sl 25 (dfsC l)])),(12,vI6 k),(13,.v (.bool (decide (k>300)))),(14,.v (.bool (decide (k>300)))),(15,.v (.bool (decide (k>300)))),(16,vL 7 (Vl.cs args)),(17,vI6 (args.length:Int)),(18,.v (.bool (decide ((args.length:Int)>6)))),(19,.v (.bool (decide ((args.length:Int)>6)))),(5,vI6 0)] [(2,[vL z0 d0,vL z1 d1,vL 12 (insC ins),vL z3 d3,vL z4 d4,vL 25 (dfsC l)])] e) (@liA_1 (d0) (d1) (d3) (d4) (z0) (z1) (z3) (z4) (ins) (l) (args) (ff) (k) hsz hwk (by omega) hx1 (by omega) (e) (by omega) hx3) xr]) Tryz.func23
end
section
variable (d0 d1 d3 d4:List (List PV)) (z0 z1 z3 z4:Nat) (ins:List In) (l:List Df) (k:Int) (hk0:0<=k) (hk1:k<=255) (hll:l.length<=1000000000)
include d0 d1 d3 d4 z0 z1 z3 z4 ins l k hk0 hk1 hll
theorem rNm0(hz:l.length=0):Pu 27 ([.agg [.sl z0 d0,.sl z1 d1,.sl 12 (insC ins),.sl z3 d3,.sl z4 d4,.sl 25 (dfsC l)],.int .u8 k]) (.ret (.str nm0)):=
 pu mdL (fun e=>[sl (dfsC_len l),et (l.length:Int) 0]) Tryz.func27
theorem rNm1(hlp:0<l.length)(i:Nat)(hi:i<l.length)(hki:Int.tmod k (l.length:Int)=(i:Int)):Pu 27 ([.agg [.sl z0 d0,.sl z1 d1,.sl 12 (insC ins),.sl z3 d3,.sl z4 d4,.sl 25 (dfsC l)],.int .u8 k]) (.ret (.str (dfNm (List.getD l (Int.toNat (Int.tmod k (l.length:Int))) default)))):=
 pu mdL (fun e=>[sl (dfsC_len l),en (l.length:Int) 0,wr k,sl (dfsC_len l),kp,am ((l.length:Int)≠0),am ((0:Int)<=Int.tmod k (l.length:Int)/\Int.tmod k (l.length:Int)<((dfsC l).length:Int)) (by (simp only [dfsC_len]; omega)),xDf l (Int.toNat (Int.tmod k (l.length:Int)))]) Tryz.func27
end
theorem rSO(v:Vl)(er st:Int)(wh:BA)(hv:Pu 61 [.agg (vlL v),.agg (vlL v)] (.ret (.bool true))):Pu 29 ([.agg (otL v er wh st),.agg (otL v er wh st)]) (rB true):=
 pu mdL (fun e=>[rp 6 (et er er),rp 6 (bt (ByteArray.toList wh==ByteArray.toList wh) (bsT (by rfl))),rp 5 (et st st),cl hv,et st st]) Tryz.func29
end Go.Proofs.YtgonmmckkikmaaaGreat
namespace Go.Proofs.YtgonmmckkikmaaaGreat
open Go.Pv
set_option maxRecDepth 100000
theorem cc0(d0 d1 d3 d4:List (List PV))(z0 z1 z3 z4:Nat)(ins:List In)(l:List Df)(k:Int)(args:List Vl)(hlg:Pu 23 [.agg [.sl z0 d0,.sl z1 d1,.sl 12 (insC ins),.sl z3 d3,.sl z4 d4,.sl 25 (dfsC l)],.sl 7 (Vl.cs args)] (.ret (.bool false)))(haw:Pu 24 [] (.ret (.bool true))):Pu 6 ([.agg [.sl z0 d0,.sl z1 d1,.sl 12 (insC ins),.sl z3 d3,.sl z4 d4,.sl 25 (dfsC l)],.int .u8 k,.sl 7 (Vl.cs args)]) (rB true):=
 pu mdL (fun e=>[cl hlg,bt true,cl haw]) Tryz.func6
abbrev ccA_I(d0:List (List PV))(d1:List (List PV))(d3:List (List PV))(d4:List (List PV))(z0:Nat)(z1:Nat)(z3:Nat)(z4:Nat)(ins:List In)(l:List Df)(k:Int)(args:List Vl)(cf:Vl->Int)(j:Int)(m:Int)(e:Ext):S:=S.mk [(1,.v (.int .u8 k)),(2,vL 7 (Vl.cs args)),(3,.lp 3 0),(6,.v (.bool false)),(7,vI6 m),(8,vI6 j)] [(3,[vL z0 d0,vL z1 d1,vL 12 (insC ins),vL z3 d3,vL z4 d4,vL 25 (dfsC l)])] e
section
variable (d0 d1 d3 d4:List (List PV)) (z0 z1 z3 z4:Nat) (ins:List In) (l:List Df) (k:Int) (args:List Vl) (hlg:Pu 23 [.agg [.sl z0 d0,.sl z1 d1,.sl 12 (insC ins),.sl z3 d3,.sl z4 d4,.sl 25 (dfsC l)],.sl 7 (Vl.cs args)] (.ret (.bool true))) (cf:Vl->Int) (hwk:∀w,w∈args->Pu 25 [.agg (vlL w)] (.ret (.int .i64 (cf w)))) (i:Nat) (m:Int) (e:Ext)
include d0 d1 d3 d4 z0 z1 z3 z4 ins l k args hlg cf hwk i m e
theorem ccA_b1(hi:i<args.length)(hN:args.length<=1000000000)(cx:Cx)(hcx:cx.n=85){Q:PExit->S->Prop}(hq:Q (.normal) (S.mk [(1,.v (.int .u8 k)),(2,vL 7 (Vl.cs args)),(3,.lp 3 0),(6,.v (.bool false)),(7,vI6 (IntKind.wrap .i64 (m+cf (List.getD args i default)))),(8,vI6 ((i:Int)+1))] [(3,[vL z0 d0,vL z1 d1,vL 12 (insC ins),vL z3 d3,vL z4 d4,vL 25 (dfsC l)])] e)):PW Tryz.prog cx (loopF Tryz.f6 0) (ccA_I d0 d1 d3 d4 z0 z1 z3 z4 ins l k args cf (i:Int) m e) Q:=
 pw mdL 85 [sl (Vl.cs_len args),dt ((i:Int)<(args.length:Int)),am ((0:Int)<=(i:Int)/\(i:Int)<((Vl.cs args).length:Int)) (by (simp only [Vl.cs_len]; omega)),xVl args i hi,cl (@hwk (List.getD args i default) (by simp_all [insC_len,List.length_map,List.length_append,List.length_cons,List.length_nil,Ex.cs_len,Vl.cs_len,Al.cs_len,Bd.cs_len,nmsC_len,pmsC_len,Tp.cs_len,dfsC_len,Pr.cs_len,Int.toNat_natCast])),kp,wr ((i:Int)+1)] [1,2,3,6,7,8] [3] hcx hq
theorem ccA_z1(hi:i=args.length)(hN:args.length<=1000000000)(cx:Cx)(hcx:cx.n=85){Q:PExit->S->Prop}(hq:Q (.exit 0) (S.mk [(1,.v (.int .u8 k)),(2,vL 7 (Vl.cs args)),(3,.lp 3 0),(6,.v (.bool false)),(7,vI6 m),(8,vI6 (i:Int))] [(3,[vL z0 d0,vL z1 d1,vL 12 (insC ins),vL z3 d3,vL z4 d4,vL 25 (dfsC l)])] e)):PW Tryz.prog cx (loopF Tryz.f6 0) (ccA_I d0 d1 d3 d4 z0 z1 z3 z4 ins l k args cf (i:Int) m e) Q:=
 pw mdL 85 [sl (Vl.cs_len args),df ((i:Int)<(args.length:Int))] [1,2,3,6,7,8] [3] hcx hq
end
def ccA_f(cf:Vl->Int):List Vl->(Int)->(Int)
 | [],m=>(m)
 | el::r,m=>ccA_f cf r (IntKind.wrap .i64 (m+cf el))
def ccA_q(d0:List (List PV))(d1:List (List PV))(d3:List (List PV))(d4:List (List PV))(z0:Nat)(z1:Nat)(z3:Nat)(z4:Nat)(ins:List In)(l:List Df)(k:Int)(args:List Vl)(cf:Vl->Int)(e:Ext)(p:(Int)):PExit × S:=(.exit 0,S.mk [(1,.v (.int .u8 k)),(2,vL 7 (Vl.cs args)),(3,.lp 3 0),(6,.v (.bool false)),(7,vI6 p)] [(3,[vL z0 d0,vL z1 d1,vL 12 (insC ins),vL z3 d3,vL z4 d4,vL 25 (dfsC l)])] e)
theorem ccA_lp(d0 d1 d3 d4:List (List PV))(z0 z1 z3 z4:Nat)(ins:List In)(l:List Df)(k:Int)(args:List Vl)(hlg:Pu 23 [.agg [.sl z0 d0,.sl z1 d1,.sl 12 (insC ins),.sl z3 d3,.sl z4 d4,.sl 25 (dfsC l)],.sl 7 (Vl.cs args)] (.ret (.bool true)))(cf:Vl->Int)(hwk:∀w,w∈args->Pu 25 [.agg (vlL w)] (.ret (.int .i64 (cf w))))(e:Ext)(hN:args.length<=1000000000)(i:Nat)(m:Int)(hi0:i<=args.length)  : (Ob.loop 85 (loopF Tryz.f6 0) (ccA_I d0 d1 d3 d4 z0 z1 z3 z4 ins l k args cf (i:Int) m e) (ccA_q d0 d1 d3 d4 z0 z1 z3 z4 ins l k args cf e (ccA_f cf (List.drop i (args))  m)).1 (ccA_q d0 d1 d3 d4 z0 z1 z3 z4 ins l k args cf e (ccA_f cf (List.drop i (args))  m)).2).ok Tryz.prog:=by
 refine Ob.loop_of (P:=Tryz.prog) (α:={ zz:Nat × (Int) // zz.1<=args.length }) (fun zz=>ccA_I d0 d1 d3 d4 z0 z1 z3 z4 ins l k args cf (zz.1.1:Int) zz.1.2 e) (fun zz=>args.length - zz.1.1) (fun zz=>(ccA_q d0 d1 d3 d4 z0 z1 z3 z4 ins l k args cf e (ccA_f cf (List.drop zz.1.1 (args))  zz.1.2))) ?_ ⟨(i,m),hi0⟩
 clear hi0
 clear m i
 rintro ⟨⟨i,m⟩,hi⟩ cx hcx
 simp only at hi  ⊢
 rcases Nat.lt_or_ge i (args.length) with hlt | hge
 ·have hd:=drop_at hlt
  have hr:(ccA_f cf (List.drop i (args))  m)=(ccA_f cf (List.drop (i+1) (args))  (IntKind.wrap .i64 (m+cf (List.getD args i default)))):=by rw [hd,ccA_f]
  exact ccA_b1 d0 d1 d3 d4 z0 z1 z3 z4 ins l k args hlg cf hwk i m e hlt hN   cx hcx (.inl ⟨rfl,⟨((i+1),(IntKind.wrap .i64 (m+cf (List.getD args i default)))),by simp only; omega⟩,by simp only; omega,xr,by simp only; rw [hr]⟩)
 ·have he:i=args.length:=by omega
  subst he
  have hr:(ccA_f cf (List.drop (args.length) (args))  m)=(m):=by rw [List.drop_length,ccA_f]
  refine ccA_z1 d0 d1 d3 d4 z0 z1 z3 z4 ins l k args hlg cf hwk (args.length) m e rfl hN   cx hcx (.inr ?_)
  rw [hr]
  exact ⟨by simp,rfl,xr⟩
theorem ccA(d0 d1 d3 d4:List (List PV))(z0 z1 z3 z4:Nat)(ins:List In)(l:List Df)(k:Int)(args:List Vl)(hlg:Pu 23 [.agg [.sl z0 d0,.sl z1 d1,.sl 12 (insC ins),.sl z3 d3,.sl z4 d4,.sl 25 (dfsC l)],.sl 7 (Vl.cs args)] (.ret (.bool true)))(cf:Vl->Int)(hwk:∀w,w∈args->Pu 25 [.agg (vlL w)] (.ret (.int .i64 (cf w))))(m:Int)(e:Ext)(hN:args.length<=1000000000)  : (Ob.loop 85 (loopF Tryz.f6 0) (ccA_I d0 d1 d3 d4 z0 z1 z3 z4 ins l k args cf 0 m e) (ccA_q d0 d1 d3 d4 z0 z1 z3 z4 ins l k args cf e (ccA_f cf (args)  m)).1 (ccA_q d0 d1 d3 d4 z0 z1 z3 z4 ins l k args cf e (ccA_f cf (args)  m)).2).ok Tryz.prog:=by
 have:=ccA_lp d0 d1 d3 d4 z0 z1 z3 z4 ins l k args hlg cf hwk e hN 0 m (Nat.zero_le _)
 rw [List.drop_zero] at this
 exact this
section
variable (d0 d1 d3 d4:List (List PV)) (z0 z1 z3 z4:Nat) (ins:List In) (l:List Df) (k:Int) (args:List Vl) (hlg:Pu 23 [.agg [.sl z0 d0,.sl z1 d1,.sl 12 (insC ins),.sl z3 d3,.sl z4 d4,.sl 25 (dfsC l)],.sl 7 (Vl.cs args)] (.ret (.bool true))) (cf:Vl->Int) (hwk:∀w,w∈args->Pu 25 [.agg (vlL w)] (.ret (.int .i64 (cf w)))) (hal:args.length<=1000000000) (nm:BA) (hnm:Pu 27 [.agg [.sl z0 d0,.sl z1 d1,.sl 12 (insC ins),.sl z3 d3,.sl z4 d4,.sl 25 (dfsC l)],.int .u8 k] (.ret (.str nm)))
include d0 d1 d3 d4 z0 z1 z3 z4 ins l k args hlg cf hwk hal nm hnm
theorem cc1(hbg:Pu 26 [.agg [.sl z0 d0,.sl z1 d1,.sl 12 (insC ins),.sl z3 d3,.sl z4 d4,.sl 25 (dfsC l)],.str nm,.sl 7 (Vl.cs args),.int .i64 300] (.ret (.bool true)))(haw:Pu 24 [] (.ret (.bool true))):Pu 6 ([.agg [.sl z0 d0,.sl z1 d1,.sl 12 (insC ins),.sl z3 d3,.sl z4 d4,.sl 25 (dfsC l)],.int .u8 k,.sl 7 (Vl.cs args)]) (rB true):=
 pu mdL (fun e=>[cl hlg,bf false,lp (S.mk [(0,.v (.agg [.sl z0 d0,.sl z1 d1,.sl 12 (insC ins),.sl z3 d3,.sl z4 d4,.sl 25 (dfsC l)])),(1,.v (.int .u8 k)),(2,vL 7 (Vl.cs args)),(3,.lp 3 0),(6,.v (.bool false)),(13,.v (.agg [.sl z0 d0,.sl z1 d1,.sl 12 (insC ins),.sl z3 d3,.sl z4 d4,.sl 25 (dfsC l)])),(14,vL 7 (Vl.cs args)),(15,.v (.bool true)),(16,.v (.bool false)),(7,vI6 0),(8,vI6 0)] [(3,[vL z0 d0,vL z1 d1,vL 12 (insC ins),vL z3 d3,vL z4 d4,vL 25 (dfsC l)])] e) (@ccA (d0) (d1) (d3) (d4) (z0) (z1) (z3) (z4) (ins) (l) (k) (args) hlg (cf) hwk (0) (e) hal) xr,cl hnm,cl hbg,bt true,cl haw]) Tryz.func6
theorem cc2(hbg:Pu 26 [.agg [.sl z0 d0,.sl z1 d1,.sl 12 (insC ins),.sl z3 d3,.sl z4 d4,.sl 25 (dfsC l)],.str nm,.sl 7 (Vl.cs args),.int .i64 300] (.ret (.bool false)))(haw:Pu 24 [] (.ret (.bool true)))(v1 v2:Vl)(e1 e2:Int)(w1 w2:BA)(n1 n2 i1 j1:Int)(hc1:Pu 28 [.agg [.sl z0 d0,.sl z1 d1,.sl 12 (insC ins),.sl z3 d3,.sl z4 d4,.sl 25 (dfsC l)],.str nm,.sl 7 (Vl.cs args),.int .i64 100] (.ret (.tup [.agg (otL v1 e1 w1 n1),.int .i64 i1])))(hc2:Pu 28 [.agg [.sl z0 d0,.sl z1 d1,.sl 12 (insC ins),.sl z3 d3,.sl z4 d4,.sl 25 (dfsC l)],.str nm,.sl 7 (Vl.cs args),.int .i64 300] (.ret (.tup [.agg (otL v2 e2 w2 n2),.int .i64 j1])))(hik:¬i1<ccA_f cf args 0)(hji:¬j1<i1)(hs:¬n1>100)(he:e1=24):Pu 6 ([.agg [.sl z0 d0,.sl z1 d1,.sl 12 (insC ins),.sl z3 d3,.sl z4 d4,.sl 25 (dfsC l)],.int .u8 k,.sl 7 (Vl.cs args)]) (rB true):=
 pu mdL (fun e=>[cl hlg,bf false,lp (S.mk [(0,.v (.agg [.sl z0 d0,.sl z1 d1,.sl 12 (insC ins),.sl z3 d3,.sl z4 d4,.sl 25 (dfsC l)])),(1,.v (.int .u8 k)),(2,vL 7 (Vl.cs args)),(3,.lp 3 0),(6,.v (.bool false)),(13,.v (.agg [.sl z0 d0,.sl z1 d1,.sl 12 (insC ins),.sl z3 d3,.sl z4 d4,.sl 25 (dfsC l)])),(14,vL 7 (Vl.cs args)),(15,.v (.bool true)),(16,.v (.bool false)),(7,vI6 0),(8,vI6 0)] [(3,[vL z0 d0,vL z1 d1,vL 12 (insC ins),vL z3 d3,vL z4 d4,vL 25 (dfsC l)])] e) (@ccA (d0) (d1) (d3) (d4) (z0) (z1) (z3) (z4) (ins) (l) (k) (args) hlg (cf) hwk (0) (e) hal) xr,cl hnm,cl hbg,bf false,cl hnm,cl hc1,cl hnm,cl hc2,rp 4 (df (i1<ccA_f cf args 0) hik),rp 4 (df (j1<i1) hji),df (n1>100) hs,rp 6 (et e1 24 he),bt true,cl haw,bt true]) Tryz.func6
theorem cc3(hbg:Pu 26 [.agg [.sl z0 d0,.sl z1 d1,.sl 12 (insC ins),.sl z3 d3,.sl z4 d4,.sl 25 (dfsC l)],.str nm,.sl 7 (Vl.cs args),.int .i64 300] (.ret (.bool false)))(haw:Pu 24 [] (.ret (.bool true)))(v1:Vl)(e1:Int)(w1:BA)(n1 i1:Int)(hc1:Pu 28 [.agg [.sl z0 d0,.sl z1 d1,.sl 12 (insC ins),.sl z3 d3,.sl z4 d4,.sl 25 (dfsC l)],.str nm,.sl 7 (Vl.cs args),.int .i64 100] (.ret (.tup [.agg (otL v1 e1 w1 n1),.int .i64 i1])))(hc2:Pu 28 [.agg [.sl z0 d0,.sl z1 d1,.sl 12 (insC ins),.sl z3 d3,.sl z4 d4,.sl 25 (dfsC l)],.str nm,.sl 7 (Vl.cs args),.int .i64 300] (.ret (.tup [.agg (otL v1 e1 w1 n1),.int .i64 i1])))(hik:¬i1<ccA_f cf args 0)(hs:¬n1>100)(he:¬e1=24)(hso:Pu 29 [.agg (otL v1 e1 w1 n1),.agg (otL v1 e1 w1 n1)] (.ret (.bool true))):Pu 6 ([.agg [.sl z0 d0,.sl z1 d1,.sl 12 (insC ins),.sl z3 d3,.sl z4 d4,.sl 25 (dfsC l)],.int .u8 k,.sl 7 (Vl.cs args)]) (rB true):=
 pu mdL (fun e=>[cl hlg,bf false,lp (S.mk [(0,.v (.agg [.sl z0 d0,.sl z1 d1,.sl 12 (insC ins),.sl z3 d3,.sl z4 d4,.sl 25 (dfsC l)])),(1,.v (.int .u8 k)),(2,vL 7 (Vl.cs args)),(3,.lp 3 0),(6,.v (.bool false)),(13,.v (.agg [.sl z0 d0,.sl z1 d1,.sl 12 (insC ins),.sl z3 d3,.sl z4 d4,.sl 25 (dfsC l)])),(14,vL 7 (Vl.cs args)),(15,.v (.bool true)),(16,.v (.bool false)),(7,vI6 0),(8,vI6 0)] [(3,[vL z0 d0,vL z1 d1,vL 12 (insC ins),vL z3 d3,vL z4 d4,vL 25 (dfsC l)])] e) (@ccA (d0) (d1) (d3) (d4) (z0) (z1) (z3) (z4) (ins) (l) (k) (args) hlg (cf) hwk (0) (e) hal) xr,cl hnm,cl hbg,bf false,cl hnm,cl hc1,cl hnm,cl hc2,rp 4 (df (i1<ccA_f cf args 0) hik),rp 4 (df (i1<i1)),df (n1>100) hs,rp 3 (en e1 24 he),cl hso,en e1 24 he,rp 3 (bt true),en e1 24 he,bt true,en e1 24 he,et i1 i1,cl haw,et i1 i1]) Tryz.func6
end
end Go.Proofs.YtgonmmckkikmaaaGreat
namespace Go.Proofs.YtgonmmckkikmaaaGreat
open Go.Pv
set_option maxRecDepth 100000
abbrev sbB_I(l:List Bd)(j:Int)(e:Ext):S:=S.mk [(0,vL 8 (Bd.cs l)),(1,vL 8 (Bd.cs l)),(5,vI6 j)] [] e
section
variable (l:List Bd) (hwb:∀w,w∈l->Pu 61 [.agg (vlL (bdV w)),.agg (vlL (bdV w))] (.ret (.bool true))) (i:Nat) (e:Ext)
include l hwb i e
theorem sbB_b1(hi:i<l.length)(hN:l.length<=1000000000)(cx:Cx)(hcx:cx.n=42){Q:PExit->S->Prop}(hq:Q (.normal) (S.mk [(0,vL 8 (Bd.cs l)),(1,vL 8 (Bd.cs l)),(5,vI6 ((i:Int)+1))] [] e)):PW Tryz.prog cx (loopF Tryz.f98 0) (sbB_I l (i:Int) e) Q:=
 pw mdL 42 [sl (Bd.cs_len l),dt ((i:Int)<(l.length:Int)),am ((0:Int)<=(i:Int)/\(i:Int)<((Bd.cs l).length:Int)) (by (simp only [Bd.cs_len]; omega)),xBd l i hi,am ((0:Int)<=(i:Int)/\(i:Int)<((Bd.cs l).length:Int)) (by (simp only [Bd.cs_len]; omega)),xBd l i hi,rp 3 (bf (!ByteArray.toList (bdNm (List.getD l i default))==ByteArray.toList (bdNm (List.getD l i default))) (bnF (bsT (by rfl)))),am ((0:Int)<=(i:Int)/\(i:Int)<((Bd.cs l).length:Int)) (by (simp only [Bd.cs_len]; omega)),xBd l i hi,rp 5 (bf (!ByteArray.toList (bdNm (List.getD l i default))==ByteArray.toList (bdNm (List.getD l i default))) (bnF (bsT (by rfl)))),am ((0:Int)<=(i:Int)/\(i:Int)<((Bd.cs l).length:Int)) (by (simp only [Bd.cs_len]; omega)),xBd l i hi,rp 3 (bf (!ByteArray.toList (bdNm (List.getD l i default))==ByteArray.toList (bdNm (List.getD l i default))) (bnF (bsT (by rfl)))),cl (@hwb (List.getD l i default) (by simp_all)),rp 2 (bf (!ByteArray.toList (bdNm (List.getD l i default))==ByteArray.toList (bdNm (List.getD l i default))) (bnF (bsT (by rfl)))),bf false,wr ((i:Int)+1)] [0,1,5,4] [] hcx hq
theorem sbB_z1(hi:i=l.length)(hN:l.length<=1000000000)(cx:Cx)(hcx:cx.n=42){Q:PExit->S->Prop}(hq:Q (.exit 0) (S.mk [(0,vL 8 (Bd.cs l)),(1,vL 8 (Bd.cs l)),(5,vI6 (i:Int))] [] e)):PW Tryz.prog cx (loopF Tryz.f98 0) (sbB_I l (i:Int) e) Q:=
 pw mdL 42 [sl (Bd.cs_len l),df ((i:Int)<(l.length:Int))] [0,1,5,4] [] hcx hq
end
def sbB_q(l:List Bd)(e:Ext):PExit × S:=(.exit 0,S.mk [(0,vL 8 (Bd.cs l)),(1,vL 8 (Bd.cs l))] [] e)
theorem sbB_lp(l:List Bd)(hwb:∀w,w∈l->Pu 61 [.agg (vlL (bdV w)),.agg (vlL (bdV w))] (.ret (.bool true)))(e:Ext)(hN:l.length<=1000000000)(i:Nat)(hi0:i<=l.length)  : (Ob.loop 42 (loopF Tryz.f98 0) (sbB_I l (i:Int)  e) (sbB_q l e).1 (sbB_q l e).2).ok Tryz.prog:=by
 refine Ob.loop_of (P:=Tryz.prog) (α:={ zz:Nat × Unit // zz.1<=l.length }) (fun zz=>sbB_I l (zz.1.1:Int)  e) (fun zz=>l.length - zz.1.1) (fun zz=>(sbB_q l e)) ?_ ⟨(i,()),hi0⟩
 clear hi0
 clear  i
 rintro ⟨⟨i,u⟩,hi⟩ cx hcx
 simp only at hi  ⊢
 rcases Nat.lt_or_ge i (l.length) with hlt | hge
 ·have hd:=drop_at hlt
  exact sbB_b1 l hwb i  e hlt hN   cx hcx (.inl ⟨rfl,⟨((i+1),()),by simp only; omega⟩,by simp only; omega,xr,by trivial⟩)
 ·have he:i=l.length:=by omega
  subst he
  refine sbB_z1 l hwb (l.length)  e rfl hN   cx hcx (.inr ?_)
  exact ⟨by simp,rfl,xr⟩
theorem sbB(l:List Bd)(hwb:∀w,w∈l->Pu 61 [.agg (vlL (bdV w)),.agg (vlL (bdV w))] (.ret (.bool true)))(e:Ext)(hN:l.length<=1000000000)  : (Ob.loop 42 (loopF Tryz.f98 0) (sbB_I l 0  e) (sbB_q l e).1 (sbB_q l e).2).ok Tryz.prog:=by
 have:=sbB_lp l hwb e hN 0  (Nat.zero_le _)
 exact this
theorem rSameBinds(l:List Bd)(hwb:∀w,w∈l->Pu 61 [.agg (vlL (bdV w)),.agg (vlL (bdV w))] (.ret (.bool true)))(hll:l.length<=1000000000):Pu 98 ([.sl 8 (Bd.cs l),.sl 8 (Bd.cs l)]) (rB true):=
 pu mdL (fun e=>[rp 2 (sl (Bd.cs_len l)),nn (l.length:Int) (l.length:Int),lp (S.mk [(0,vL 8 (Bd.cs l)),(1,vL 8 (Bd.cs l)),(4,.v (.bool false)),(6,vL 8 (Bd.cs l)),(7,vI6 (l.length:Int)),(8,vL 8 (Bd.cs l)),(9,vI6 (l.length:Int)),(10,.v (.bool ((l.length:Int) != (l.length:Int)))),(5,vI6 0)] [] e) (@sbB (l) hwb (e) hll) xr]) Tryz.func98
abbrev s9A_I(x:Vl)(j:Int)(e:Ext):S:=S.mk [(2,.lp 2 0),(3,.lp 3 0),(5,vI6 j)] [(2,vlV x),(3,vlV x)] e
section
variable (x:Vl) (hwn:Pu 97 [.sl 1 (nmsC (vlP x)),.sl 1 (nmsC (vlP x))] (.ret (.bool true))) (hwb:Pu 98 [.sl 8 (Bd.cs (vlBd x)),.sl 8 (Bd.cs (vlBd x))] (.ret (.bool true))) (hwe:Pu 54 [.sl 7 (Ex.cs (vlB x)),.sl 7 (Ex.cs (vlB x))] (.ret (.bool true))) (hwk:∀w,w∈vlK x->Pu 61 [.agg (vlL w),.agg (vlL w)] (.ret (.bool true))) (i:Nat) (e:Ext)
include x hwn hwb hwe hwk i e
theorem s9A_b1(hi:i<(vlK x).length)(hN:(vlK x).length<=1000000000)(cx:Cx)(hcx:cx.n=75){Q:PExit->S->Prop}(hq:Q (.normal) (S.mk [(2,.lp 2 0),(3,.lp 3 0),(5,vI6 ((i:Int)+1))] [(2,vlV x),(3,vlV x)] e)):PW Tryz.prog cx (loopF Tryz.f61 0) (s9A_I x (i:Int) e) Q:=
 pw mdL 75 [sl (Vl.cs_len (vlK x)),dt ((i:Int)<((vlK x).length:Int)),am ((0:Int)<=(i:Int)/\(i:Int)<((Vl.cs (vlK x)).length:Int)) (by (simp only [Vl.cs_len]; omega)),xVl (vlK x) i hi,am ((0:Int)<=(i:Int)/\(i:Int)<((Vl.cs (vlK x)).length:Int)) (by (simp only [Vl.cs_len]; omega)),xVl (vlK x) i hi,cl (@hwk (List.getD (vlK x) i default) (by simp_all)),bf false,wr ((i:Int)+1)] [2,3,5,4] [2,3] hcx hq
theorem s9A_z1(hi:i=(vlK x).length)(hN:(vlK x).length<=1000000000)(cx:Cx)(hcx:cx.n=75){Q:PExit->S->Prop}(hq:Q (.exit 0) (S.mk [(2,.lp 2 0),(3,.lp 3 0),(5,vI6 (i:Int))] [(2,vlV x),(3,vlV x)] e)):PW Tryz.prog cx (loopF Tryz.f61 0) (s9A_I x (i:Int) e) Q:=
 pw mdL 75 [sl (Vl.cs_len (vlK x)),df ((i:Int)<((vlK x).length:Int))] [2,3,5,4] [2,3] hcx hq
end
def s9A_q(x:Vl)(e:Ext):PExit × S:=(.exit 0,S.mk [(2,.lp 2 0),(3,.lp 3 0)] [(2,vlV x),(3,vlV x)] e)
theorem s9A_lp(x:Vl)(hwn:Pu 97 [.sl 1 (nmsC (vlP x)),.sl 1 (nmsC (vlP x))] (.ret (.bool true)))(hwb:Pu 98 [.sl 8 (Bd.cs (vlBd x)),.sl 8 (Bd.cs (vlBd x))] (.ret (.bool true)))(hwe:Pu 54 [.sl 7 (Ex.cs (vlB x)),.sl 7 (Ex.cs (vlB x))] (.ret (.bool true)))(hwk:∀w,w∈vlK x->Pu 61 [.agg (vlL w),.agg (vlL w)] (.ret (.bool true)))(e:Ext)(hN:(vlK x).length<=1000000000)(i:Nat)(hi0:i<=(vlK x).length)  : (Ob.loop 75 (loopF Tryz.f61 0) (s9A_I x (i:Int)  e) (s9A_q x e).1 (s9A_q x e).2).ok Tryz.prog:=by
 refine Ob.loop_of (P:=Tryz.prog) (α:={ zz:Nat × Unit // zz.1<=(vlK x).length }) (fun zz=>s9A_I x (zz.1.1:Int)  e) (fun zz=>(vlK x).length - zz.1.1) (fun zz=>(s9A_q x e)) ?_ ⟨(i,()),hi0⟩
 clear hi0
 clear  i
 rintro ⟨⟨i,u⟩,hi⟩ cx hcx
 simp only at hi  ⊢
 rcases Nat.lt_or_ge i ((vlK x).length) with hlt | hge
 ·have hd:=drop_at hlt
  exact s9A_b1 x hwn hwb hwe hwk i  e hlt hN   cx hcx (.inl ⟨rfl,⟨((i+1),()),by simp only; omega⟩,by simp only; omega,xr,by trivial⟩)
 ·have he:i=(vlK x).length:=by omega
  subst he
  refine s9A_z1 x hwn hwb hwe hwk ((vlK x).length)  e rfl hN   cx hcx (.inr ?_)
  exact ⟨by simp,rfl,xr⟩
theorem s9A(x:Vl)(hwn:Pu 97 [.sl 1 (nmsC (vlP x)),.sl 1 (nmsC (vlP x))] (.ret (.bool true)))(hwb:Pu 98 [.sl 8 (Bd.cs (vlBd x)),.sl 8 (Bd.cs (vlBd x))] (.ret (.bool true)))(hwe:Pu 54 [.sl 7 (Ex.cs (vlB x)),.sl 7 (Ex.cs (vlB x))] (.ret (.bool true)))(hwk:∀w,w∈vlK x->Pu 61 [.agg (vlL w),.agg (vlL w)] (.ret (.bool true)))(e:Ext)(hN:(vlK x).length<=1000000000)  : (Ob.loop 75 (loopF Tryz.f61 0) (s9A_I x 0  e) (s9A_q x e).1 (s9A_q x e).2).ok Tryz.prog:=by
 have:=s9A_lp x hwn hwb hwe hwk e hN 0  (Nat.zero_le _)
 exact this
theorem rSame9(x:Vl)(hwn:Pu 97 [.sl 1 (nmsC (vlP x)),.sl 1 (nmsC (vlP x))] (.ret (.bool true)))(hwb:Pu 98 [.sl 8 (Bd.cs (vlBd x)),.sl 8 (Bd.cs (vlBd x))] (.ret (.bool true)))(hwe:Pu 54 [.sl 7 (Ex.cs (vlB x)),.sl 7 (Ex.cs (vlB x))] (.ret (.bool true)))(hwk:∀w,w∈vlK x->Pu 61 [.agg (vlL w),.agg (vlL w)] (.ret (.bool true)))(hll:(vlK x).length<=1000000000):Pu 61 ([.agg (vlL x),.agg (vlL x)]) (rB true):=
 pu mdL (fun e=>[rp 6 (nn (vlO x) (vlO x)),rp 6 (nn (vlN x) (vlN x)),rp 3 (bf (!ByteArray.toList (vlNm x)==ByteArray.toList (vlNm x)) (bnF (bsT (by rfl)))),sl (Vl.cs_len (vlK x)),rp 3 (bf (!ByteArray.toList (vlNm x)==ByteArray.toList (vlNm x)) (bnF (bsT (by rfl)))),sl (Vl.cs_len (vlK x)),rp 2 (bf (!ByteArray.toList (vlNm x)==ByteArray.toList (vlNm x)) (bnF (bsT (by rfl)))),rp 5 (nn ((vlK x).length:Int) ((vlK x).length:Int)),cl hwn,rp 2 (nn ((vlK x).length:Int) ((vlK x).length:Int)),rp 5 (bf false),cl hwb,rp 3 (bf false),cl hwe,bf false,lp (S.mk [(0,.v (.agg (vlL x))),(1,.v (.agg (vlL x))),(2,.lp 2 0),(3,.lp 3 0),(4,.v (.bool false)),(6,.lp 2 0),(7,vI6 (vlO x)),(8,.lp 3 0),(9,vI6 (vlO x)),(10,.v (.bool (vlO x != vlO x))),(11,.v (.bool (vlO x != vlO x))),(12,.lp 2 1),(13,vI6 (vlN x)),(14,.lp 3 1),(15,vI6 (vlN x)),(16,.v (.bool (vlN x != vlN x))),(17,.v (.bool (vlN x != vlN x))),(18,.v (.bool (vlN x != vlN x))),(19,.lp 2 2),(20,vS (vlNm x)),(21,.lp 3 2),(22,vS (vlNm x)),(23,.v (.bool !ByteArray.toList (vlNm x)==ByteArray.toList (vlNm x))),(24,.v (.bool !ByteArray.toList (vlNm x)==ByteArray.toList (vlNm x))),(25,.v (.bool !ByteArray.toList (vlNm x)==ByteArray.toList (vlNm x))),(26,.lp 2 3),(27,vL 7 (Vl.cs (vlK x))),(28,vI6 ((vlK x).length:Int)),(29,.lp 3 3),(30,vL 7 (Vl.cs (vlK x))),(31,vI6 ((vlK x).length:Int)),(32,.v (.bool (((vlK x).length:Int) != ((vlK x).length:Int)))),(33,.v (.bool (((vlK x).length:Int) != ((vlK x).length:Int)))),(34,.v (.bool (((vlK x).length:Int) != ((vlK x).length:Int)))),(35,.lp 2 4),(36,vL 1 (nmsC (vlP x))),(37,.lp 3 4),(38,vL 1 (nmsC (vlP x))),(39,.v (.bool true)),(40,.v (.bool false)),(41,.v (.bool false)),(42,.v (.bool false)),(43,.lp 2 6),(44,vL 8 (Bd.cs (vlBd x))),(45,.lp 3 6),(46,vL 8 (Bd.cs (vlBd x))),(47,.v (.bool true)),(48,.v (.bool false)),(49,.v (.bool false)),(50,.lp 2 5),(51,vL 7 (Ex.cs (vlB x))),(52,.lp 3 5),(53,vL 7 (Ex.cs (vlB x))),(54,.v (.bool true)),(55,.v (.bool false)),(5,vI6 0)] [(2,vlV x),(3,vlV x)] e) (@s9A (x) hwn hwb hwe hwk (e) hll) xr]) Tryz.func61
theorem same9_ok:∀ (d:Nat) (v:Vl),SizeOf.sizeOf v<d->SmV v->Pu 61 [.agg (vlL v),.agg (vlL v)] (.ret (.bool true))
 | 0,_,h,_=>by omega
 | d+1,v,h,hs=>by
  obtain ⟨h1,h2,h3,h4,h5,h6⟩:=SmV_parts hs
  exact rSame9 v (rSameNames _ h2) (rSameBinds _ (fun b hb=>same9_ok d (bdV b) (by have:=vbd_lt hb; omega) (SmBs_at h6 b hb)) h3) (rSameBodies _ (fun x hx=>sameExpr_ok _ x (Nat.lt_succ_self _) (h4 x hx)) (SmV_body hs)) (fun w hw=>same9_ok d w (by have:=vkid_lt hw; omega) (SmVs_at h5 w hw)) h1
theorem rSOT{v:Vl}(hs:SmV v)(er st:Int)(wh:BA):Pu 29 [.agg (otL v er wh st),.agg (otL v er wh st)] (.ret (.bool true)):=rSO v er st wh (same9_ok _ v (Nat.lt_succ_self _) hs)
end Go.Proofs.YtgonmmckkikmaaaGreat
namespace Go.Proofs.YtgonmmckkikmaaaGreat
open Go.Pv
set_option maxRecDepth 100000
mutual
def ctN:Vl->Nat
 | .mk op _ _ kids _ _ _=>(if op=4 then 1 else 0)+ctNs kids
def ctNs:List Vl->Nat
 | []=>0
 | v::r=>ctN v+ctNs r
end
mutual
theorem ctN_le:∀v:Vl,ctN v<=cnV v
 | .mk op n nm kids ps body binds=>by
  have:=ctNs_le kids
  rw [ctN,cnV]
  omega
theorem ctNs_le:∀l:List Vl,ctNs l<=cnVs l
 | []=>by rw [ctNs]; omega
 | v::r=>by
  have h1:=ctN_le v
  have h2:=ctNs_le r
  rw [ctNs,cnVs]
  omega
end
theorem ctA_eq:∀ (l:List Vl) (m:Int),0<=m->m+ctNs l<=1000000000->ctA_f (fun w=>(ctN w:Int)) l m=m+ctNs l
 | [],m,_,_=>by rw [ctA_f,ctNs]; omega
 | v::r,m,h0,h1=>by
  rw [ctNs] at h1 ⊢
  rw [ctA_f,wrap64_eq (by omega) (by omega),ctA_eq r _ (by omega) (by omega)]
  omega
theorem ccA_eq:∀ (l:List Vl) (m:Int),0<=m->m+ctNs l<=1000000000->ccA_f (fun w=>(ctN w:Int)) l m=m+ctNs l
 | [],m,_,_=>by rw [ccA_f,ctNs]; omega
 | v::r,m,h0,h1=>by
  rw [ctNs] at h1 ⊢
  rw [ccA_f,wrap64_eq (by omega) (by omega),ccA_eq r _ (by omega) (by omega)]
  omega
theorem count_ok:∀ (d:Nat) (v:Vl),SizeOf.sizeOf v<d->SmV v->cnV v<=4000000->Pu 25 [.agg (vlL v)] (.ret (.int .i64 (ctN v)))
 | 0,v,h,_,_=>by omega
 | d+1,v,h,hs,hc=>by
  obtain ⟨h1,-,-,-,h5,-⟩:=SmV_parts hs
  have hle:∀w,w∈vlK v->cnV w<=cnV v:=fun w hw=>by
   have aux:∀l:List Vl,w∈l->cnV w<=cnVs l:=fun l=>by
    induction l with
    | nil=>intro h; cases h
    | cons x r ih=>
     intro h
     rw [cnVs]
     rcases List.mem_cons.1 h with rfl | h
     ·omega
     ·have:=ih h; omega
   have:=aux _ hw
   cases v with
   | mk op n nm kids ps body binds=>
    rw [cnV]
    simp only [vlK] at this
    omega
  have hw:=fun w hw=>count_ok d w (by have:=vkid_lt hw; omega) (SmVs_at h5 w hw) (by have:=hle w hw; omega)
  have hN:ctN v=(if vlO v=4 then 1 else 0)+ctNs (vlK v):=by cases v; rw [ctN]; rfl
  have hb:=ctN_le v
  by_cases ho:vlO v=4
  ·have z:=rCount_1 v (fun w=>(ctN w:Int)) hw h1 ho
   rw [if_pos ho] at hN
   rw [ctA_eq _ _ (by omega) (by omega)] at z
   rw [hN,Int.natCast_add]
   exact z
  ·have z:=rCount_2 v (fun w=>(ctN w:Int)) hw h1 ho
   rw [if_neg ho] at hN
   rw [ctA_eq _ _ (by omega) (by omega)] at z
   rw [hN,Int.natCast_add]
   exact z
theorem flat_ex:∀ (d:Nat) (v:Vl),SizeOf.sizeOf v<d->SmV v->∀m:Int,∃b,Pu 56 [.agg (vlL v),.int .i64 m] (.ret (.bool b))
 | 0,v,h,_,_=>by omega
 | d+1,v,h,hs,m=>by
  obtain ⟨h1,-,-,-,h5,-⟩:=SmV_parts hs
  have hw:∀ (w:Vl) (m:Int),w∈vlK v->∃b,Pu 56 [.agg (vlL w),.int .i64 m] (.ret (.bool b)):=fun w m hw=>flat_ex d w (by have:=vkid_lt hw; omega) (SmVs_at h5 w hw) m
  obtain ⟨ff,hff⟩:∃ff:Vl->Int->Bool,∀ (w:Vl) (m:Int),w∈vlK v->Pu 56 [.agg (vlL w),.int .i64 m] (.ret (.bool (ff w m))):=by
   classical
   exact ⟨fun w m=>if h:w∈vlK v then Classical.choose (hw w m h) else false,fun w m h=>by simp only [dif_pos h]; exact Classical.choose_spec (hw w m h)⟩
  by_cases x0:m=0
  ·exact ⟨_,rFlat_1 v ff m hff x0⟩
  by_cases x1:((vlK v).length:Int)>4
  ·exact ⟨_,rFlat_2 v ff m hff x0 x1⟩
  by_cases x2:((vlBd v).length:Int)>0
  ·exact ⟨_,rFlat_3 v ff m hff x0 x1 x2⟩
  by_cases x3:((vlB v).length:Int)>0
  ·exact ⟨_,rFlat_4 v ff m hff x0 x1 x2 x3⟩
  cases x4:flA_f ff m (vlK v) with
  | e0=>exact ⟨_,rFlat_5 v ff m hff x0 x1 x2 x3 x4⟩
  | e1=>exact ⟨_,rFlat_6 v ff m hff x0 x1 x2 x3 x4⟩
theorem in_bulk1(w:In):bulkPss (dfsC (inDs w))+2<=bulkPs (inL w):=by
 show _<=bulkPs (.str (inNm w)::(tpL (inTp w)++[inNd w,.sl 25 (dfsC (inDs w))]))
 rw [bulkPs,bulkPs_append]
 simp only [bulkP,bulkPs]
 omega
theorem in_bulk{ins:List In}{w:In}(h:w∈ins):bulkPss (dfsC (inDs w))<=bulkPss (insC ins):=by
 have h1:=mem_bulk (l:=insC ins) (c:=inL w) (by rw [insC_eq]; exact List.mem_map_of_mem h)
 have h2:=in_bulk1 w
 omega
theorem dfs_len(l:List Df):l.length<=bulkPss (dfsC l):=by
 have:=len_bulk (l:=dfsC l) fun c hc=>by
  rw [dfsC_eq] at hc
  obtain ⟨x,-,rfl⟩:=List.mem_map.1 hc
  have:=df_bulk x
  omega
 rwa [dfsC_len] at this
theorem ins_len:∀ins:List In,2 * ins.length+(ins.flatMap inDs).length<=bulkPss (insC ins)
 | []=>by simp
 | w::r=>by
  have h1:=ins_len r
  have h2:=dfs_len (inDs w)
  have h3:=in_bulk1 w
  rw [insC,bulkPss,List.flatMap_cons,List.length_append,List.length_cons]
  omega
section
variable (d0 d1 d3 d4:List (List PV)) (z0 z1 z3 z4:Nat) (ins:List In) (l:List Df)
abbrev mdI:PV := .agg [.sl z0 d0,.sl z1 d1,.sl 12 (insC ins),.sl z3 d3,.sl z4 d4,.sl 25 (dfsC l)]
theorem size_ex(hl:bulkPss (dfsC l)<=1048576)(hi:bulkPss (insC ins)<=1048576):∃k,Pu 55 [mdI d0 d1 d3 d4 z0 z1 z3 z4 ins l] (.ret (.int .i64 k)):=by
 have h1:=ins_len ins
 have h2:=dfs_len l
 refine ⟨_,rSize d0 d1 d3 d4 z0 z1 z3 z4 ins l _ (fun xe=>sz_loop d0 d1 d3 d4 z0 z1 z3 z4 ins l (by omega) (by rw [List.length_append]; omega) xe) (fun w hw=>rNodesT ?_) (by rw [List.length_append]; omega) ?_⟩
 ·rcases List.mem_append.1 hw with hw | hw
  ·have h3:=dfs_bulk hw
   have h4:=df_bulk w
   omega
  ·obtain ⟨i,hi1,hi2⟩:=List.mem_flatMap.1 hw
   have h3:=dfs_bulk hi2
   have h4:=df_bulk w
   have h5:=in_bulk hi1
   omega
 ·simp only [List.nil_append,dfsC_len]
  omega
theorem light31_ex(hl:bulkPss (dfsC l)<=1048576)(hi:bulkPss (insC ins)<=1048576){args:List Vl}(ha:SmVs args):∃b,Pu 23 [mdI d0 d1 d3 d4 z0 z1 z3 z4 ins l,.sl 7 (Vl.cs args)] (.ret (.bool b)):=by
 obtain ⟨k,hk⟩:=size_ex d0 d1 d3 d4 z0 z1 z3 z4 ins l hl hi
 have hw:∀ (w:Vl) (m:Int),w∈args->∃b,Pu 56 [.agg (vlL w),.int .i64 m] (.ret (.bool b)):=fun w m hw=>flat_ex _ w (Nat.lt_succ_self _) (SmVs_at ha w hw) m
 obtain ⟨ff,hff⟩:∃ff:Vl->Int->Bool,∀ (w:Vl) (m:Int),w∈args->Pu 56 [.agg (vlL w),.int .i64 m] (.ret (.bool (ff w m))):=by
  classical
  exact ⟨fun w m=>if h:w∈args then Classical.choose (hw w m h) else false,fun w m h=>by simp only [dif_pos h]; exact Classical.choose_spec (hw w m h)⟩
 by_cases x0:(l.length:Int)>8
 ·exact ⟨_,rLig_1 d0 d1 d3 d4 z0 z1 z3 z4 ins l args ff k hk hff x0⟩
 by_cases x1:k>300
 ·exact ⟨_,rLig_2 d0 d1 d3 d4 z0 z1 z3 z4 ins l args ff k hk hff x0 x1⟩
 by_cases x2:(args.length:Int)>6
 ·exact ⟨_,rLig_3 d0 d1 d3 d4 z0 z1 z3 z4 ins l args ff k hk hff x0 x1 x2⟩
 cases x3:liA_f ff args with
 | e0=>exact ⟨_,rLig_4 d0 d1 d3 d4 z0 z1 z3 z4 ins l args ff k hk hff x0 x1 x2 x3⟩
 | e1=>exact ⟨_,rLig_5 d0 d1 d3 d4 z0 z1 z3 z4 ins l args ff k hk hff x0 x1 x2 x3⟩
theorem name31_ex(hl:l.length<=1000000000)(k:Int)(hk0:0<=k)(hk1:k<=255):∃nm,Pu 27 [mdI d0 d1 d3 d4 z0 z1 z3 z4 ins l,.int .u8 k] (.ret (.str nm)):=by
 by_cases h0:l.length=0
 ·exact ⟨_,rNm0 d0 d1 d3 d4 z0 z1 z3 z4 ins l k hk0 hk1 hl h0⟩
 ·have hp:0<l.length:=by omega
  have e:Int.tmod k (l.length:Int)=((k.toNat % l.length:Nat):Int):=by
   rw [Int.tmod_eq_emod_of_nonneg hk0,Int.natCast_emod,Int.toNat_of_nonneg hk0]
  exact ⟨_,rNm1 d0 d1 d3 d4 z0 z1 z3 z4 ins l k hk0 hk1 hl hp _ (Nat.mod_lt _ hp) e⟩
theorem counts_true(hx:PV.noX (mdI d0 d1 d3 d4 z0 z1 z3 z4 ins l)=true)(hl:bulkPss (dfsC l)<=1048576)(hi:bulkPss (insC ins)<=1048576)(k:Int)(hk0:0<=k)(hk1:k<=255){args:List Vl}(ha:bulkPss (Vl.cs args)<=1048576) :
  Pu 6 [mdI d0 d1 d3 d4 z0 z1 z3 z4 ins l,.int .u8 k,.sl 7 (Vl.cs args)] (.ret (.bool true)):=by
 have hsl:SmL l:=SmL_bulk (by omega)
 have hsa:SmVs args:=SmVs_bulk (by omega)
 have hba:BoVs args:=BoVs_bulk ha
 have hal:=vals_bulk args
 have hcn:=cnVs_bulk args
 have hd:∀d∈l,szE (dfB d)<=1048576:=fun d hd=>by
  have h1:=dfs_bulk hd
  have h2:=df_bulk d
  omega
 have hct:=ctNs_le args
 have hcf:∀w,w∈args->Pu 25 [.agg (vlL w)] (.ret (.int .i64 (ctN w))):=fun w hw=>count_ok _ w (Nat.lt_succ_self _) (SmVs_at hsa w hw) (by have h1:=cnV_bulk w; have h2:=val_bulk hw; omega)
 have hcc:=ccA_eq args 0 (Int.le_refl _) (by omega)
 obtain ⟨b0,hLt⟩:=light31_ex d0 d1 d3 d4 z0 z1 z3 z4 ins l hl hi hsa
 cases b0 with
 | false=>exact cc0 d0 d1 d3 d4 z0 z1 z3 z4 ins l k args hLt awake31
 | true=>
  obtain ⟨nm,hNm⟩:=name31_ex d0 d1 d3 d4 z0 z1 z3 z4 ins l hsl.1 k hk0 hk1
  obtain ⟨b1,hBg⟩:=big31_ok _ _ _ _ _ l hx hsl hd (name:=nm) hsa hba (by omega) (by omega)
  cases b1 with
  | true=>exact cc1 d0 d1 d3 d4 z0 z1 z3 z4 ins l k args hLt (fun w=>(ctN w:Int)) hcf (by omega) nm hNm hBg awake31
  | false=>
   have hpl:=plVs_len args []
   simp only [List.length_nil] at hpl
   have hpo:=plVs_ok args [] hsa hba
   have hC:=fun (f:Int) (h0:0<=f) (h1:f<=300) (o:Co) (h:Cal l f nm (plVs args []).1 (plVs args []).2 o)=>cCall_ok _ _ _ _ _ l f hx hsl hd (name:=nm) hsa hba (by omega) h0 h1 (by omega) h
   have main:∃o1 o2:Co,Cal l 100 nm (plVs args []).1 (plVs args []).2 o1/\Cal l 300 nm (plVs args []).1 (plVs args []).2 o2/\Shor o1 o2/\o1.st.n<=100/\(plVs args []).2.length<=o1.st.s.length:=by
    cases hf:findD nm l with
    | none=>exact ⟨.er 19 ⟨0,(plVs args []).2,0⟩ nm0,.er 19 ⟨0,(plVs args []).2,0⟩ nm0,.inl ⟨hf,rfl⟩,.inl ⟨hf,rfl⟩,.inl rfl,by show (0:Int)<=100; decide,Nat.le_refl _⟩
    | some d=>
     obtain ⟨o2,ho2⟩:=totalC_call cS niS l 300 d (plVs args []).1 ⟨0,(plVs args []).2,0⟩ nm0
     obtain ⟨o1,ho1,hsh⟩:=ho2.starve niS (fuel2:=100) (by decide)
     exact ⟨o1,o2,.inr ⟨d,hf,ho1⟩,.inr ⟨d,hf,ho2⟩,hsh,ho1.upto niS (show (0:Int)<=100 by decide),(ho1.mono niS).2⟩
   obtain ⟨o1,o2,hc1,hc2,hsh,hn,hm⟩:=main
   have h1:=hC 100 (by decide) (by decide) o1 hc1
   have h2:=hC 300 (by decide) (by decide) o2 hc2
   have hik:¬(o1.st.s.length:Int)<ccA_f (fun w=>(ctN w:Int)) args 0:=by rw [hcc]; omega
   by_cases he:coE o1=24
   ·have hle:o1.st.s.length<=o2.st.s.length:=by
     rcases hsh with rfl | ⟨s1,w,rfl,h⟩
     ·exact Nat.le_refl _
     ·exact h
    exact cc2 d0 d1 d3 d4 z0 z1 z3 z4 ins l k args hLt (fun w=>(ctN w:Int)) hcf (by omega) nm hNm hBg awake31 (coV o1) (coV o2) (coE o1) (coE o2) (coW o1) (coW o2) o1.st.n o2.st.n o1.st.s.length o2.st.s.length h1.2 h2.2 hik (by omega) (by omega) he
   ·rcases hsh with rfl | ⟨s1,w,rfl,h⟩
    ·exact cc3 d0 d1 d3 d4 z0 z1 z3 z4 ins l k args hLt (fun w=>(ctN w:Int)) hcf (by omega) nm hNm hBg awake31 (coV o1) (coE o1) (coW o1) o1.st.n o1.st.s.length h1.2 h2.2 hik (by omega) he (rSOT h1.1 _ _ _)
    ·exact (he rfl).elim
end
end Go.Proofs.YtgonmmckkikmaaaGreat
