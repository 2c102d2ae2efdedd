/- Values of Go as plain data, an evaluator over them, and what the functions of the program return; part Ye. -/
import Derived.Test.YtaakmholhliodaaGreatDoorYd
import Derived.Test.YtaakmholhliodaaGreatDoorYa
set_option linter.unusedSectionVars false
set_option linter.unusedSimpArgs false
set_option linter.unusedVariables false
namespace Go.Proofs.YtaakmholhliodaaGreatDoor
open Go.Proofs.Tryz
open Go.Pv Go.Proofs.Tryz
set_option maxRecDepth 100000
theorem put_le(s:BA):∀ (l:List BA) (i:Nat) (out:List BA),(put_f s l i out).2<=i+l.length/\i<=(put_f s l i out).2/\(put_f s l i out).1.length+i=out.length+(put_f s l i out).2
 | [],i,out=>by simp [put_f]
 | x::r,i,out=>by
  rw [put_f]
  split
  ·have:=put_le s r (i+1) (out++[x])
   simp only [List.length_append,List.length_cons,List.length_nil] at this ⊢
   omega
  ·simp
theorem rPut_1(l:List BA)(s:BA)(hn:l.length<=500000000)(hp2:(put_f s l 0 []).2<=l.length)(hp1:(put_f s l 0 []).1.length<=500000000)(hx0:(↑(Prod.snd (put_f s l 0 [])):Int)<(↑(List.length l):Int))(hx1:List.getD l (Prod.snd (put_f s l 0 [])) nm0=s)(hx2:List.length (nmsC (Prod.fst (put_f s l 0 []))++(fun x=>Prod.snd x) (0+1,[[PV.str s]])++(fun x=>Prod.snd x) (1,nmsC (List.drop (Int.toNat ((↑(Prod.snd (put_f s l 0 [])):Int)+1)) l))) * (15+1)<=140737488355328):Pu 139 [PV.sl 1 (nmsC l),PV.str s] (CRes.own 9 1 (nmsC (Prod.fst (put_f s l 0 []))++[[PV.str s]]++nmsC (List.drop (Int.toNat ((↑(Prod.snd (put_f s l 0 [])):Int)+1)) l))):=
 Ob.pur_of (mdL) 50 (fun e=>[Ans.loop (S.mk [(0,LV.v (PV.sl 1 (nmsC l))),(1,LV.v (PV.str s)),(4,LV.v PV.nilsl),(5,LV.uniq 9 1 []),(6,LV.v (PV.int IntKind.i64 0))] [] e) (PExit.exit 0) (S.mk [(0,LV.v (PV.sl 1 (nmsC l))),(1,LV.v (PV.str s)),(4,LV.v PV.nilsl),(5,LV.uniq 9 1 (nmsC (Prod.fst (put_f s l 0 [])))),(6,LV.v (PV.int IntKind.i64 (↑(Prod.snd (put_f s l 0 [])):Int)))] [] e),Ans.as_ (LV.v (PV.int IntKind.i64 (↑(List.length l):Int))),Ans.bit true,Ans.bit true,Ans.bit true,Ans.as_ (LV.v (PV.ro [PV.str (List.getD l (Prod.snd (put_f s l 0 [])) nm0)] 0)),Ans.bit true,Ans.bit true,Ans.bit true,Ans.bit true,Ans.bit true,Ans.as_ (LV.v (PV.int IntKind.i64 ((↑(Prod.snd (put_f s l 0 [])):Int)+1))),Ans.as_ (LV.v (PV.sl 1 (nmsC (List.drop (Int.toNat ((↑(Prod.snd (put_f s l 0 [])):Int)+1)) l))))]) (sc':=fun _=>[]) (l:=fun e=>[Ob.le (S.mk [(0,LV.v (PV.sl 1 (nmsC l))),(1,LV.v (PV.str s)),(4,LV.v PV.nilsl),(5,LV.uniq 9 1 []),(6,LV.v (PV.int IntKind.i64 0))] [] e) (S.mk [(0,LV.v (PV.sl 1 (nmsC l))),(1,LV.v (PV.str s)),(4,LV.v PV.nilsl),(5,LV.v PV.nilsl),(6,LV.v (PV.int IntKind.i64 0))] [] e),Ob.loop (Func.ntmps f139) (loopF f139 0) (S.mk [(0,LV.v (PV.sl 1 (nmsC l))),(1,LV.v (PV.str s)),(4,LV.v PV.nilsl),(5,LV.uniq 9 1 []),(6,LV.v (PV.int IntKind.i64 0))] [] e) (PExit.exit 0) (S.mk [(0,LV.v (PV.sl 1 (nmsC l))),(1,LV.v (PV.str s)),(4,LV.v PV.nilsl),(5,LV.uniq 9 1 (nmsC (Prod.fst (put_f s l 0 [])))),(6,LV.v (PV.int IntKind.i64 (↑(Prod.snd (put_f s l 0 [])):Int)))] [] e),Ob.bit (decide (List.length (nmsC (Prod.fst (put_f s l 0 []))++(fun x=>Prod.snd x) (0+1,[[PV.str s]])) * (15+1)<=140737488355328)) true,Ob.eqv (LV.v (PV.int IntKind.i64 (↑((fun x=>List.length (Prod.snd x)) (1,nmsC l)):Int))) (LV.v (PV.int IntKind.i64 (↑(List.length l):Int))),Ob.bit (decide ((↑(Prod.snd (put_f s l 0 [])):Int)<(↑(List.length l):Int))) true,Ob.bit (decide ((↑(Prod.snd (put_f s l 0 [])):Int)<(↑(List.length l):Int))) true,Ob.bit (decide ((↑(Prod.snd (put_f s l 0 [])):Int)<(↑(List.length l):Int))) true,Ob.bit (decide ((0:Int)<=(↑(Prod.snd (put_f s l 0 [])):Int)/\(↑(Prod.snd (put_f s l 0 [])):Int)<(↑(List.length (nmsC l)):Int))) true,Ob.eqv (LV.v (PV.ro (List.getD (nmsC l) (Int.toNat (↑(Prod.snd (put_f s l 0 [])):Int)) []) 0)) (LV.v (PV.ro [PV.str (List.getD l (Prod.snd (put_f s l 0 [])) nm0)] 0)),Ob.bit (decide ((↑(Prod.snd (put_f s l 0 [])):Int)<(↑(List.length l):Int))) true,Ob.bit (decide ((↑(Prod.snd (put_f s l 0 [])):Int)<(↑(List.length l):Int))) true,Ob.bit (decide ((↑(Prod.snd (put_f s l 0 [])):Int)<(↑(List.length l):Int))) true,Ob.bit (decide ((↑(Prod.snd (put_f s l 0 [])):Int)<(↑(List.length l):Int))) true,Ob.bit (ByteArray.toList (List.getD l (Prod.snd (put_f s l 0 [])) nm0)==ByteArray.toList s) true,Ob.eqv (LV.v (PV.int IntKind.i64 (IntKind.wrap IntKind.i64 ((↑(Prod.snd (put_f s l 0 [])):Int)+1)))) (LV.v (PV.int IntKind.i64 ((↑(Prod.snd (put_f s l 0 [])):Int)+1))),Ob.bit (decide ((0:Int)<=(↑(Prod.snd (put_f s l 0 [])):Int)+1/\(↑(Prod.snd (put_f s l 0 [])):Int)+1<=(↑(List.length (nmsC l)):Int)/\(↑(List.length (nmsC l)):Int)<=(↑(List.length (nmsC l)):Int))) true,Ob.eqv (LV.v (PV.sl 1 (List.drop (Int.toNat ((↑(Prod.snd (put_f s l 0 [])):Int)+1)) (List.take (Int.toNat (↑(List.length (nmsC l)):Int)) (nmsC l))))) (LV.v (PV.sl 1 (nmsC (List.drop (Int.toNat ((↑(Prod.snd (put_f s l 0 [])):Int)+1)) l)))),Ob.bit (decide (List.length (nmsC (Prod.fst (put_f s l 0 []))++(fun x=>Prod.snd x) (0+1,[[PV.str s]])++(fun x=>Prod.snd x) (1,nmsC (List.drop (Int.toNat ((↑(Prod.snd (put_f s l 0 [])):Int)+1)) l))) * (15+1)<=140737488355328)) true]) mixed func139 kR (fun e=>by kernel_rfl) (fun e=>⟨⟨⟨W,W,W,Wq,W,tVv⟩,trivial,rfl⟩,(@put (l) (s) ([]) (e) oM (by (simp only [List.length_nil]; omega))),(ob_bit (dT (by (simp only [List.length_append,List.length_cons,List.length_nil,nmsC_len]; omega)))),(ob_eqv (by (simp only [nmsC_len]; done))),(ob_bit (dT hx0)),(ob_bit (dT hx0)),(ob_bit (dT hx0)),(ob_bit (dT (by (simp only [List.length_nil,nmsC_len]; omega)))),(ob_eqv (by simp only [Int.toNat_natCast,Int.toNat_zero]; rw [@nmsC_at (l) (Prod.snd (put_f s l 0 [])) oM]; try rfl)),(ob_bit (dT hx0)),(ob_bit (dT hx0)),(ob_bit (dT hx0)),(ob_bit (dT hx0)),(ob_bit (bsT hx1)),(ob_eqv (wrap64 oM oM)),(ob_bit (dT (by (simp only [List.length_nil,nmsC_len]; omega)))),(ob_eqv (by (simp only [List.length_nil,nmsC_len,Int.toNat_natCast,Int.toNat_zero,nmsC_take,nmsC_drop,List.take_length]; done))),(ob_bit (dT hx2)),tVv⟩)
theorem rPut_2(l:List BA)(s:BA)(hn:l.length<=500000000)(hp2:(put_f s l 0 []).2<=l.length)(hp1:(put_f s l 0 []).1.length<=500000000)(hx0:(↑(Prod.snd (put_f s l 0 [])):Int)<(↑(List.length l):Int))(hx1:¬List.getD l (Prod.snd (put_f s l 0 [])) nm0=s)(hx2:List.length (nmsC (Prod.fst (put_f s l 0 []))++(fun x=>Prod.snd x) (0+1,[[PV.str s]])++(fun x=>Prod.snd x) (1,nmsC (List.drop (Prod.snd (put_f s l 0 [])) l))) * (15+1)<=140737488355328):Pu 139 [PV.sl 1 (nmsC l),PV.str s] (CRes.own 9 1 (nmsC (Prod.fst (put_f s l 0 []))++[[PV.str s]]++nmsC (List.drop (Prod.snd (put_f s l 0 [])) l))):=
 Ob.pur_of (mdL) 50 (fun e=>[Ans.loop (S.mk [(0,LV.v (PV.sl 1 (nmsC l))),(1,LV.v (PV.str s)),(4,LV.v PV.nilsl),(5,LV.uniq 9 1 []),(6,LV.v (PV.int IntKind.i64 0))] [] e) (PExit.exit 0) (S.mk [(0,LV.v (PV.sl 1 (nmsC l))),(1,LV.v (PV.str s)),(4,LV.v PV.nilsl),(5,LV.uniq 9 1 (nmsC (Prod.fst (put_f s l 0 [])))),(6,LV.v (PV.int IntKind.i64 (↑(Prod.snd (put_f s l 0 [])):Int)))] [] e),Ans.as_ (LV.v (PV.int IntKind.i64 (↑(List.length l):Int))),Ans.bit true,Ans.bit true,Ans.bit true,Ans.as_ (LV.v (PV.ro [PV.str (List.getD l (Prod.snd (put_f s l 0 [])) nm0)] 0)),Ans.bit true,Ans.bit true,Ans.bit true,Ans.bit true,Ans.bit false,Ans.as_ (LV.v (PV.sl 1 (nmsC (List.drop (Prod.snd (put_f s l 0 [])) l))))]) (sc':=fun _=>[]) (l:=fun e=>[Ob.le (S.mk [(0,LV.v (PV.sl 1 (nmsC l))),(1,LV.v (PV.str s)),(4,LV.v PV.nilsl),(5,LV.uniq 9 1 []),(6,LV.v (PV.int IntKind.i64 0))] [] e) (S.mk [(0,LV.v (PV.sl 1 (nmsC l))),(1,LV.v (PV.str s)),(4,LV.v PV.nilsl),(5,LV.v PV.nilsl),(6,LV.v (PV.int IntKind.i64 0))] [] e),Ob.loop (Func.ntmps f139) (loopF f139 0) (S.mk [(0,LV.v (PV.sl 1 (nmsC l))),(1,LV.v (PV.str s)),(4,LV.v PV.nilsl),(5,LV.uniq 9 1 []),(6,LV.v (PV.int IntKind.i64 0))] [] e) (PExit.exit 0) (S.mk [(0,LV.v (PV.sl 1 (nmsC l))),(1,LV.v (PV.str s)),(4,LV.v PV.nilsl),(5,LV.uniq 9 1 (nmsC (Prod.fst (put_f s l 0 [])))),(6,LV.v (PV.int IntKind.i64 (↑(Prod.snd (put_f s l 0 [])):Int)))] [] e),Ob.bit (decide (List.length (nmsC (Prod.fst (put_f s l 0 []))++(fun x=>Prod.snd x) (0+1,[[PV.str s]])) * (15+1)<=140737488355328)) true,Ob.eqv (LV.v (PV.int IntKind.i64 (↑((fun x=>List.length (Prod.snd x)) (1,nmsC l)):Int))) (LV.v (PV.int IntKind.i64 (↑(List.length l):Int))),Ob.bit (decide ((↑(Prod.snd (put_f s l 0 [])):Int)<(↑(List.length l):Int))) true,Ob.bit (decide ((↑(Prod.snd (put_f s l 0 [])):Int)<(↑(List.length l):Int))) true,Ob.bit (decide ((↑(Prod.snd (put_f s l 0 [])):Int)<(↑(List.length l):Int))) true,Ob.bit (decide ((0:Int)<=(↑(Prod.snd (put_f s l 0 [])):Int)/\(↑(Prod.snd (put_f s l 0 [])):Int)<(↑(List.length (nmsC l)):Int))) true,Ob.eqv (LV.v (PV.ro (List.getD (nmsC l) (Int.toNat (↑(Prod.snd (put_f s l 0 [])):Int)) []) 0)) (LV.v (PV.ro [PV.str (List.getD l (Prod.snd (put_f s l 0 [])) nm0)] 0)),Ob.bit (decide ((↑(Prod.snd (put_f s l 0 [])):Int)<(↑(List.length l):Int))) true,Ob.bit (decide ((↑(Prod.snd (put_f s l 0 [])):Int)<(↑(List.length l):Int))) true,Ob.bit (decide ((↑(Prod.snd (put_f s l 0 [])):Int)<(↑(List.length l):Int))) true,Ob.bit (decide ((↑(Prod.snd (put_f s l 0 [])):Int)<(↑(List.length l):Int))) true,Ob.bit (ByteArray.toList (List.getD l (Prod.snd (put_f s l 0 [])) nm0)==ByteArray.toList s) false,Ob.bit (decide ((0:Int)<=(↑(Prod.snd (put_f s l 0 [])):Int)/\(↑(Prod.snd (put_f s l 0 [])):Int)<=(↑(List.length (nmsC l)):Int)/\(↑(List.length (nmsC l)):Int)<=(↑(List.length (nmsC l)):Int))) true,Ob.eqv (LV.v (PV.sl 1 (List.drop (Int.toNat (↑(Prod.snd (put_f s l 0 [])):Int)) (List.take (Int.toNat (↑(List.length (nmsC l)):Int)) (nmsC l))))) (LV.v (PV.sl 1 (nmsC (List.drop (Prod.snd (put_f s l 0 [])) l)))),Ob.bit (decide (List.length (nmsC (Prod.fst (put_f s l 0 []))++(fun x=>Prod.snd x) (0+1,[[PV.str s]])++(fun x=>Prod.snd x) (1,nmsC (List.drop (Prod.snd (put_f s l 0 [])) l))) * (15+1)<=140737488355328)) true]) mixed func139 kR (fun e=>by kernel_rfl) (fun e=>⟨⟨⟨W,W,W,Wq,W,tVv⟩,trivial,rfl⟩,(@put (l) (s) ([]) (e) oM (by (simp only [List.length_nil]; omega))),(ob_bit (dT (by (simp only [List.length_append,List.length_cons,List.length_nil,nmsC_len]; omega)))),(ob_eqv (by (simp only [nmsC_len]; done))),(ob_bit (dT hx0)),(ob_bit (dT hx0)),(ob_bit (dT hx0)),(ob_bit (dT (by (simp only [List.length_nil,nmsC_len]; omega)))),(ob_eqv (by simp only [Int.toNat_natCast,Int.toNat_zero]; rw [@nmsC_at (l) (Prod.snd (put_f s l 0 [])) oM]; try rfl)),(ob_bit (dT hx0)),(ob_bit (dT hx0)),(ob_bit (dT hx0)),(ob_bit (dT hx0)),(ob_bit (bsF hx1)),(ob_bit (dT (by (simp only [List.length_nil,nmsC_len]; omega)))),(ob_eqv (by (simp only [List.length_nil,nmsC_len,Int.toNat_natCast,Int.toNat_zero,nmsC_take,nmsC_drop,List.take_length]; done))),(ob_bit (dT hx2)),tVv⟩)
theorem rPut_3(l:List BA)(s:BA)(hn:l.length<=500000000)(hp2:(put_f s l 0 []).2<=l.length)(hp1:(put_f s l 0 []).1.length<=500000000)(hx0:¬(↑(Prod.snd (put_f s l 0 [])):Int)<(↑(List.length l):Int))(hx1:List.length (nmsC (Prod.fst (put_f s l 0 []))++(fun x=>Prod.snd x) (0+1,[[PV.str s]])++(fun x=>Prod.snd x) (1,nmsC (List.drop (Prod.snd (put_f s l 0 [])) l))) * (15+1)<=140737488355328):Pu 139 [PV.sl 1 (nmsC l),PV.str s] (CRes.own 9 1 (nmsC (Prod.fst (put_f s l 0 []))++[[PV.str s]]++nmsC (List.drop (Prod.snd (put_f s l 0 [])) l))):=
 Ob.pur_of (mdL) 50 (fun e=>[Ans.loop (S.mk [(0,LV.v (PV.sl 1 (nmsC l))),(1,LV.v (PV.str s)),(4,LV.v PV.nilsl),(5,LV.uniq 9 1 []),(6,LV.v (PV.int IntKind.i64 0))] [] e) (PExit.exit 0) (S.mk [(0,LV.v (PV.sl 1 (nmsC l))),(1,LV.v (PV.str s)),(4,LV.v PV.nilsl),(5,LV.uniq 9 1 (nmsC (Prod.fst (put_f s l 0 [])))),(6,LV.v (PV.int IntKind.i64 (↑(Prod.snd (put_f s l 0 [])):Int)))] [] e),Ans.as_ (LV.v (PV.int IntKind.i64 (↑(List.length l):Int))),Ans.bit false,Ans.bit false,Ans.bit false,Ans.bit false,Ans.bit false,Ans.bit false,Ans.bit false,Ans.bit false,Ans.as_ (LV.v (PV.sl 1 (nmsC (List.drop (Prod.snd (put_f s l 0 [])) l))))]) (sc':=fun _=>[]) (l:=fun e=>[Ob.le (S.mk [(0,LV.v (PV.sl 1 (nmsC l))),(1,LV.v (PV.str s)),(4,LV.v PV.nilsl),(5,LV.uniq 9 1 []),(6,LV.v (PV.int IntKind.i64 0))] [] e) (S.mk [(0,LV.v (PV.sl 1 (nmsC l))),(1,LV.v (PV.str s)),(4,LV.v PV.nilsl),(5,LV.v PV.nilsl),(6,LV.v (PV.int IntKind.i64 0))] [] e),Ob.loop (Func.ntmps f139) (loopF f139 0) (S.mk [(0,LV.v (PV.sl 1 (nmsC l))),(1,LV.v (PV.str s)),(4,LV.v PV.nilsl),(5,LV.uniq 9 1 []),(6,LV.v (PV.int IntKind.i64 0))] [] e) (PExit.exit 0) (S.mk [(0,LV.v (PV.sl 1 (nmsC l))),(1,LV.v (PV.str s)),(4,LV.v PV.nilsl),(5,LV.uniq 9 1 (nmsC (Prod.fst (put_f s l 0 [])))),(6,LV.v (PV.int IntKind.i64 (↑(Prod.snd (put_f s l 0 [])):Int)))] [] e),Ob.bit (decide (List.length (nmsC (Prod.fst (put_f s l 0 []))++(fun x=>Prod.snd x) (0+1,[[PV.str s]])) * (15+1)<=140737488355328)) true,Ob.eqv (LV.v (PV.int IntKind.i64 (↑((fun x=>List.length (Prod.snd x)) (1,nmsC l)):Int))) (LV.v (PV.int IntKind.i64 (↑(List.length l):Int))),Ob.bit (decide ((↑(Prod.snd (put_f s l 0 [])):Int)<(↑(List.length l):Int))) false,Ob.bit (decide ((↑(Prod.snd (put_f s l 0 [])):Int)<(↑(List.length l):Int))) false,Ob.bit (decide ((↑(Prod.snd (put_f s l 0 [])):Int)<(↑(List.length l):Int))) false,Ob.bit (decide ((↑(Prod.snd (put_f s l 0 [])):Int)<(↑(List.length l):Int))) false,Ob.bit (decide ((↑(Prod.snd (put_f s l 0 [])):Int)<(↑(List.length l):Int))) false,Ob.bit (decide ((↑(Prod.snd (put_f s l 0 [])):Int)<(↑(List.length l):Int))) false,Ob.bit (decide ((↑(Prod.snd (put_f s l 0 [])):Int)<(↑(List.length l):Int))) false,Ob.bit false false,Ob.bit (decide ((0:Int)<=(↑(Prod.snd (put_f s l 0 [])):Int)/\(↑(Prod.snd (put_f s l 0 [])):Int)<=(↑(List.length (nmsC l)):Int)/\(↑(List.length (nmsC l)):Int)<=(↑(List.length (nmsC l)):Int))) true,Ob.eqv (LV.v (PV.sl 1 (List.drop (Int.toNat (↑(Prod.snd (put_f s l 0 [])):Int)) (List.take (Int.toNat (↑(List.length (nmsC l)):Int)) (nmsC l))))) (LV.v (PV.sl 1 (nmsC (List.drop (Prod.snd (put_f s l 0 [])) l)))),Ob.bit (decide (List.length (nmsC (Prod.fst (put_f s l 0 []))++(fun x=>Prod.snd x) (0+1,[[PV.str s]])++(fun x=>Prod.snd x) (1,nmsC (List.drop (Prod.snd (put_f s l 0 [])) l))) * (15+1)<=140737488355328)) true]) mixed func139 kR (fun e=>by kernel_rfl) (fun e=>⟨⟨⟨W,W,W,Wq,W,tVv⟩,trivial,rfl⟩,(@put (l) (s) ([]) (e) oM (by (simp only [List.length_nil]; omega))),(ob_bit (dT (by (simp only [List.length_append,List.length_cons,List.length_nil,nmsC_len]; omega)))),(ob_eqv (by (simp only [nmsC_len]; done))),(ob_bit (dF hx0)),(ob_bit (dF hx0)),(ob_bit (dF hx0)),(ob_bit (dF hx0)),(ob_bit (dF hx0)),(ob_bit (dF hx0)),(ob_bit (dF hx0)),rfl,(ob_bit (dT (by (simp only [List.length_nil,nmsC_len]; omega)))),(ob_eqv (by (simp only [List.length_nil,nmsC_len,Int.toNat_natCast,Int.toNat_zero,nmsC_take,nmsC_drop,List.take_length]; done))),(ob_bit (dT hx1)),tVv⟩)
def putN(s:BA)(l:List BA):List BA:=(put_f s l 0 []).1++[s]++l.drop (if (put_f s l 0 []).2<l.length/\l.getD (put_f s l 0 []).2 nm0=s then (put_f s l 0 []).2+1 else (put_f s l 0 []).2)
theorem putN_len(s:BA)(l:List BA):(putN s l).length<=l.length+1:=by
 have h:=put_le s l 0 []
 unfold putN
 simp only [List.length_append,List.length_cons,List.length_nil,List.length_drop]
 simp only [List.length_nil] at h
 split <;> omega
theorem rPutT(l:List BA)(s:BA)(hn:l.length<=500000000):Pu 139 [.sl 1 (nmsC l),.str s] (.ret (.sl 1 (nmsC (putN s l)))):=by
 have h:=put_le s l 0 []
 simp only [List.length_nil] at h
 unfold putN
 rw [nmsC_app,nmsC_app]
 by_cases h1:(put_f s l 0 []).2<l.length
 ·by_cases h2:l.getD (put_f s l 0 []).2 nm0=s
  ·rw [iP ⟨h1,h2⟩]
   exact Ob.pur_unown (rPut_1 l s hn oM oM oM h2 (by simp only [List.length_append,nmsC_len,List.length_drop,List.length_cons,List.length_nil]; omega))
  ·rw [iN (fun hc=>h2 hc.2)]
   exact Ob.pur_unown (rPut_2 l s hn oM oM oM h2 (by simp only [List.length_append,nmsC_len,List.length_drop,List.length_cons,List.length_nil]; omega))
 ·rw [iN (fun hc=>h1 hc.1)]
  exact Ob.pur_unown (rPut_3 l s hn oM oM oM (by simp only [List.length_append,nmsC_len,List.length_drop,List.length_cons,List.length_nil]; omega))
theorem putN_inv{s:BA}{l:List BA}{i:Nat}(h:l.length<=i):(putN s l).length<=i+1:=Nat.le_trans (putN_len s l) oM
abbrev uni_I(a:List BA)(j:Int)(out:List BA)(e:Ext):S:=S.mk [(0,vL 1 (nmsC a)),(1,.v .nilsl),(4,.v .nilsl),(5,vL 1 (nmsC out)),(9,vI6 (a.length:Int)),(10,vI6 j)] [] e
def uni_f  : List BA->(List BA)->(List BA)
 | [],out=>(out)
 | el::r,out=>uni_f  r (putN el out)
def uni_q(a:List BA)(e:Ext)(p:(List BA)):PExit × S:=(.exit 0,S.mk [(0,vL 1 (nmsC a)),(1,.v .nilsl),(4,.v .nilsl),(5,vL 1 (nmsC p)),(9,vI6 (a.length:Int))] [] e)
theorem uni(a:List BA)(ha:a.length<=400000000)(out:List BA)(e:Ext)(hN:a.length<=1000000000)(hv:List.length out<=0):(Ob.loop 33 (loopF f117 0) (uni_I a 0 out e) (uni_q a e (uni_f  (a)  out)).1 (uni_q a e (uni_f  (a)  out)).2).ok prog:=by
 refine rng a.length (fun j out=>uni_I a j out e) (fun i out=>uni_f  (List.drop i (a))  out) (uni_q a e) (fun i out=>(out.length<=i)) kR ?_ out (by first | exact hv | omega)
 rintro i out hi hv
 try simp only at hv
 rcases Nat.lt_or_ge i (a.length) with hlt | hge
 ·have hd:=drop_at0 hlt
  exact lN mdL [rgNm hlt,cl (@rPutT out (List.getD a i nm0) oM),wr ((i:Int)+1)] hlt (putN (List.getD a i nm0) out) (by first | assumption | omega | (apply putN_inv <;> first | assumption | omega | decide) | (simp only [List.length_append,List.length_cons,List.length_nil] at *; omega) | simp_all) (by rw [hd,uni_f])
 ·have he:i=a.length:=by omega
  exact lX mdL [df ((i:Int)<(a.length:Int))] (out) (by rw [he,List.drop_length,uni_f])
theorem rUnion(a:List BA)(ha:a.length<=400000000):Pu 117 [.sl 1 (nmsC a),.nilsl] (.ret (.sl 1 (nmsC (uni_f a [])))):=
 pu mdL (fun e=>[sl (nmsC_len a),lp (S.mk [(0,vL 1 (nmsC a)),(1,.v .nilsl),(4,.v .nilsl),(5,.v .nilsl),(9,vI6 (a.length:Int)),(10,vI6 0)] [] e) (@uni a ha ([]) e oM (by (simp only [List.length_nil]; omega))) ⟨⟨W,W,W,Wq,W,W,tVv⟩,trivial,rfl⟩,kp,ur,bf false]) func117
abbrev rgOk(x:Ex)(h ns:List BA):Prop:=Pu 118 [.agg (exL x),.sl 1 (nmsC h),.bool false] (.ret (.sl 1 (nmsC ns)))
theorem rf_loop0(x:Ex)(h:List BA)(hn:(exK x).length<=1000000000)(hp:(exP x).length<=1000000000)(hh:h.length<=1000000000)(out:List BA)(hT:(out++occX' x (exK x) 0 h).length<=1000000000)
  (hr:∀i,i<(exK x).length->rgOk ((exK x).getD i default) (h++insN x i) (occN ((exK x).getD i default) (h++insN x i))):rgL0 x h out (out++occX' x (exK x) 0 h):=by
 intro ext
 have:=Ob.loop_of (P:=prog) (n:=84) (c:=loopF f118 0) (α:={ p:Nat × List BA // p.1<=(exK x).length/\p.2++occX' x ((exK x).drop p.1) p.1 h=out++occX' x (exK x) 0 h })
  (fun p=>rgI x h p.1.2 p.1.1 ext) (fun p=>(exK x).length - p.1.1) (fun _=>(.exit 0,⟨[(1,.v (.sl 1 (nmsC h))),(2,.v (.bool false)),(3,.lp 3 0),(7,.uniq 9 1 (nmsC (out++occX' x (exK x) 0 h)))],[(3,exV x)],ext⟩)) ?_ ⟨(0,out),by simp,by simp⟩
 ·exact this
 ·rintro ⟨⟨i,o1⟩,hi,he⟩ cx hcx
  simp only at hi he ⊢
  rcases Nat.lt_or_ge i (exK x).length with hlt | hge
  ·rw [drop_at hlt,occK_cons,<-List.append_assoc] at he
   have hl:=congrArg List.length he
   simp only [List.length_append] at hl hT
   have h1:=hr i hlt
   unfold rgOk at h1
   rw [nmsC_app] at h1
   refine rgA x h o1 _ i ext hlt hn hp hh oM oM h1 cx hcx (.inl ⟨rfl,⟨(i+1,_),hlt,he⟩,by simp only; omega,⟨⟨W,W,W,.inl ?_,W,tVv⟩,⟨WLs.refl _,tVv⟩,rfl⟩,tVv⟩)
   rw [nmsC_app]
  ·have hx:i=(exK x).length:=by omega
   subst hx
   rw [List.drop_length] at he
   have he':o1=out++occX' x (exK x) 0 h:=by rw [<-he]; simp [occK]
   rw [<-he']
   exact rgZ x h _ ext cx hcx (.inr ⟨by simp,rfl,⟨W,W,W,W,tVv⟩,⟨WLs.refl _,tVv⟩,rfl⟩)
theorem rf_loop1(x:Ex)(h:List BA)(hn:(exA x).length<=1000000000)(hb:∀i,i<(exA x).length->h.length+(alNs ((exA x).getD i default)).length<=1000000000)(out:List BA)(hT:(out++occA (exA x) h).length<=1000000000)
  (hr:∀i,i<(exA x).length->rgOk (alB ((exA x).getD i default)) (h++alNs ((exA x).getD i default)) (occN (alB ((exA x).getD i default)) (h++alNs ((exA x).getD i default)))):rgL1 x h out (out++occA (exA x) h):=by
 intro ext
 have:=Ob.loop_of (P:=prog) (n:=84) (c:=loopF f118 1) (α:={ p:Nat × List BA // p.1<=(exA x).length/\p.2++occA ((exA x).drop p.1) h=out++occA (exA x) h })
  (fun p=>rgJ x h p.1.2 p.1.1 ext) (fun p=>(exA x).length - p.1.1) (fun _=>(.exit 2,⟨[(7,.uniq 9 1 (nmsC (out++occA (exA x) h)))],[],ext⟩)) ?_ ⟨(0,out),by simp,by simp⟩
 ·exact this
 ·rintro ⟨⟨i,o1⟩,hi,he⟩ cx hcx
  simp only at hi he ⊢
  rcases Nat.lt_or_ge i (exA x).length with hlt | hge
  ·rw [drop_at hlt,occA_cons,<-List.append_assoc] at he
   have hl:=congrArg List.length he
   simp only [List.length_append] at hl hT
   have h1:=hr i hlt
   unfold rgOk at h1
   rw [nmsC_app] at h1
   refine rgB x h o1 _ i ext hlt hn (hb i hlt) oM oM h1 cx hcx (.inl ⟨rfl,⟨(i+1,_),hlt,he⟩,by simp only; omega,⟨⟨W,W,W,.inl ?_,W,tVv⟩,⟨WLs.refl _,tVv⟩,rfl⟩,tVv⟩)
   rw [nmsC_app]
  ·have hx:i=(exA x).length:=by omega
   subst hx
   rw [List.drop_length] at he
   have he':o1=out++occA (exA x) h:=by rw [<-he]; simp [occA]
   rw [<-he']
   exact rgY x h _ ext cx hcx (.inr ⟨by simp,rfl,⟨W,tVv⟩,trivial,rfl⟩)
theorem rfree_ok:∀ (n:Nat) (x:Ex),szE x<n->∀h:List BA,h.length+szE x<=100000000->rgOk x h (occN x h)
 | 0,x,hn,_,_=>by omega
 | n+1,x,hn,h,hb=>by
  have hsz:=szE_eq x
  have hk:=Ex.bulk (exK x)
  have hp:=Pm.bulk (exP x)
  have ha:=Al.bulk (exA x)
  have hl:=occN_len x h
  rw [occN_eq] at hl ⊢
  simp only [List.length_append] at hl
  have L0:=fun out hT=>rf_loop0 x h oM oM oM out hT fun i hi=>rfree_ok n _ (by have:=kid_bulk (kid_mem hi); omega) _ (by have:=insN_bulk (kid_mem hi) i; rw [List.length_append]; omega)
  have L1:=fun out hT=>rf_loop1 x h oM (fun i hi=>by have:=alt_bulk (alt_mem hi); omega) out hT fun i hi=>rfree_ok n _ (by have:=alt_bulk (alt_mem hi); omega) _ (by have:=alt_bulk (alt_mem hi); rw [List.length_append]; omega)
  by_cases hv:exO x=3∨exO x=5
  ·have hv':isV x=true:=by unfold isV; rcases hv with h | h <;> simp [h]
   by_cases hq:plc (exNm x) h<0
   ·have hq':plR (exNm x) h<0:=by rw [plR_eq]; exact hq
    rw [iP ⟨hv',hq⟩] at hl ⊢
    rw [<-List.append_assoc]
    simp only [List.length_cons,List.length_nil] at hl
    have l0:=L0 [exNm x] (by simp only [List.length_append,List.length_cons,List.length_nil]; omega)
    have l1:=L1 _ (show ((([exNm x]++occX' x (exK x) 0 h)++occA (exA x) h)).length<=1000000000 by simp only [List.length_append,List.length_cons,List.length_nil]; omega)
    by_cases h5:exO x=5
    ·exact Ob.pur_unown (rgV_1 x h _ _ oM hv hq' l0 l1 h5)
    ·exact Ob.pur_unown (rgV_2 x h _ _ oM hv hq' l0 l1 h5)
   ·have hq':¬plR (exNm x) h<0:=by rw [plR_eq]; exact hq
    rw [iN (fun hc=>hq hc.2)] at hl ⊢
    rw [List.nil_append]
    simp only [List.length_nil] at hl
    have l0:=L0 [] (by simp only [List.nil_append]; omega)
    rw [List.nil_append] at l0
    have l1:=L1 _ (show (occX' x (exK x) 0 h++occA (exA x) h).length<=1000000000 by simp only [List.length_append]; omega)
    by_cases h5:exO x=5
    ·exact Ob.pur_unown (rgW_1 x h _ _ oM hv hq' l0 l1 h5)
    ·exact Ob.pur_unown (rgW_2 x h _ _ oM hv hq' l0 l1 h5)
  ·have hv':¬isV x=true:=by unfold isV; simp; omega
   rw [iN (fun hc=>hv' hc.1)] at hl ⊢
   rw [List.nil_append]
   simp only [List.length_nil] at hl
   have l0:=L0 [] (by simp only [List.nil_append]; omega)
   rw [List.nil_append] at l0
   have l1:=L1 _ (show (occX' x (exK x) 0 h++occA (exA x) h).length<=1000000000 by simp only [List.length_append]; omega)
   exact Ob.pur_unown (rgX x h _ _ oM (fun h3=>hv (.inl h3)) (fun h5=>hv (.inr h5)) l0 l1)
def freeR(x:Ex):List BA:=uni_f (occN x []) []
theorem rFreeL(x:Ex)(ns:List BA)(hs:ns.length<=400000000)(hr:Pu 118 [.agg (exL x),.nilsl,.bool false] (.ret (.sl 1 (nmsC ns)))):Pu 88 [.agg (exL x)] (.ret (.sl 1 (nmsC (uni_f ns [])))):=
 pm mdL [cl hr,cl (@rUnion ns hs)] func88
theorem rFree(x:Ex)(hb:szE x<=100000000):Pu 88 [.agg (exL x)] (.ret (.sl 1 (nmsC (freeR x)))):=
 rFreeL x (occN x []) (by have:=occN_len x []; omega) (Ob.pur_arg (.c (.r _) (.c (.n 1) (.c (.r _) (.r _)))) (rfree_ok (szE x+1) x oM [] (by simpa using hb)))
theorem uni_len:∀ (a out:List BA),(uni_f a out).length<=out.length+a.length
 | [],out=>by simp [uni_f]
 | x::r,out=>by
  have h1:=uni_len r (putN x out)
  have h2:=putN_len x out
  rw [uni_f]
  simp only [List.length_cons]
  omega
theorem freeR_len(x:Ex):(freeR x).length<=szE x:=by
 have h1:=uni_len (occN x []) []
 have h2:=occN_len x []
 unfold freeR
 simp only [List.length_nil] at h1
 omega
theorem r3L(t:Tp)(l0:List BA)(dtz:Tp->List BA)(hwk:∀w:Tp,w∈tpA t->Pu 89 [.agg (tpL w)] (.ret (.sl 1 (nmsC (dtz w)))))(hdg:∀w:Tp,w∈tpA t->(dtz w).length<=bulkPs (tpL w))(hM:(tpPs t).length<=1000000000)(h90:Pu 90 [.sl 4 (Pr.cs (tpPs t)++[prL (tpP t)])] (.own 9 1 (nmsC l0)))(hN:(tpA t).length<=1000000000)(hv:l0.length+bulkPss (Tp.cs (List.drop 0 (tpA t)))<=1000000000):Pu 89 [.agg (tpL t)] (.own 9 1 (nmsC (r3A_f dtz (tpA t) l0))):=
 pu mdL (fun e=>[am (List.length ([]++(fun x=>Prod.snd x) (4,Pr.cs (tpPs t))) * (55+1)<=140737488355328) (by (simp only [List.length_append,List.length_nil,Pr.cs_len]; omega)),am (List.length ([]++(fun x=>Prod.snd x) (4,Pr.cs (tpPs t))++[prL (tpP t)]) * (55+1)<=140737488355328) (by (simp only [List.length_append,List.length_cons,List.length_nil,Pr.cs_len]; omega)),cl h90,lq (@r3A t l0 dtz hwk hdg hM h90 l0 e hN hv)]) func89
def rbN(t:Tp):List BA:=rpN (tpPs t++[tpP t])
def r4K:Nat->Tp->List BA
 | 0,_=>[]
 | d+1,t=>r3A_f (r4K d) (tpA t) (rbN t)
theorem r3A_eq(dtz:Tp->List BA):∀ (ks:List Tp) (l:List BA),r3A_f dtz ks l=l++ks.flatMap dtz
 | [],l=>by simp [r3A_f]
 | x::r,l=>by rw [r3A_f,r3A_eq dtz r]; simp
theorem fm_len{dq:Tp->List BA}:∀ks:List Tp,(∀w,w∈ks->(dq w).length<=bulkPs (tpL w))->(ks.flatMap dq).length<=bulkPss (Tp.cs ks)
 | [],_=>by simp
 | x::r,h=>by
  have ih:=fm_len r (fun w hw=>h w (List.mem_cons_of_mem _ hw))
  have h1:=h x List.mem_cons_self
  simp only [List.flatMap_cons,List.length_append,Tp.cs,bulkPss,Tp.c_eq]
  omega
theorem prs_app(a b:List Pr):bulkPss (Pr.cs (a++b))=bulkPss (Pr.cs a)+bulkPss (Pr.cs b):=by
 induction a with
 | nil=>simp [Pr.cs,bulkPss]
 | cons x r ih=>simp only [List.cons_append,Pr.cs,bulkPss,Pr.c_eq,ih]; omega
theorem rb_bulk(t:Tp):bulkPss (Pr.cs (tpPs t++[tpP t]))=bulkPss (Pr.cs (tpPs t))+bulkPs (prL (tpP t)):=by
 rw [prs_app]
 simp only [Pr.cs,bulkPss,Pr.c_eq]
 omega
theorem rb_len(t:Tp):(rbN t).length<=bulkPss (Pr.cs (tpPs t))+bulkPs (prL (tpP t)):=by
 have h:=apN_le raF (tpPs t) (fun w _=>raF_len w)
 have h2:=raF_len (tpP t)
 rw [rbN,rpN,List.flatMap_append,List.length_append,flatMap_len]
 simp only [List.flatMap_cons,List.flatMap_nil,List.append_nil,List.length_map]
 omega
theorem r4_len:∀ (d:Nat) (t:Tp),(r4K d t).length<=bulkPs (tpL t)
 | 0,t=>by simp [r4K]
 | d+1,t=>by
  have h1:=fm_len (dq:=r4K d) (tpA t) (fun w _=>r4_len d w)
  have h2:=to_bulk t
  have h3:=rb_len t
  rw [r4K,r3A_eq,List.length_append]
  omega
theorem r4_ok:∀ (d:Nat) (t:Tp),bulkPs (tpL t)<d->d<=10000001->Pu 89 [.agg (tpL t)] (.own 9 1 (nmsC (r4K d t)))
 | 0,_,h,_=>by omega
 | d+1,t,h,hs=>by
  have h2:=to_bulk t
  have h3:=rb_len t
  have h4:=Tp.bulk (tpA t)
  have h5:=Pr.bulk (tpPs t)
  have h6:=rb_bulk t
  have h90:=r2T (tpPs t++[tpP t]) oM
  rw [Pr.cs_snoc] at h90
  exact r3L t (rbN t) (r4K d) (fun w hw=>Ob.pur_unown (r4_ok d w (by have:=Tp.mem hw; omega) oM)) (fun w _=>r4_len d w) oM h90 oM (by rw [List.drop_zero]; omega)
def r4F(t:Tp):List BA:=r4K (bulkPs (tpL t)+1) t
theorem r4T(t:Tp)(hs:bulkPs (tpL t)<=10000000):Pu 89 [.agg (tpL t)] (.own 9 1 (nmsC (r4F t))):=r4_ok _ t (Nat.lt_succ_self _) oM
abbrev rlA_I(m:Mo)(s:BA)(j:Int)(e:Ext):S:=S.mk [(1,vS s),(2,.lp 2 0),(4,.lp 4 0),(6,vI6 j)] [(2,moV m),(4,[vS nm0,.v .nilsl,vI6 0,vS nm0,vI6 0,.v .nilsl,.v .nilsl,.v .nilsl,.v .nilsl,vI6 0,.v (.bool false),.v .nilsl,.v .nilsl,.v .nilsl,.v .nilsl,vI6 0,vS nm0,.v .nilsl,.v .nilsl,vI6 0,vS nm0,vI6 0,.v .nilsl,.v .nilsl,.v .nilsl])] e
inductive rlA_R where
 | e0 (el:Df)
 | e1
def rlA_f(s:BA):List Df->rlA_R
 | []=>(rlA_R.e1)
 | el::r=>(if dfNm el=s then (if dfM el=2 then (rlA_R.e0 el) else rlA_f s r) else rlA_f s r)
def rlA_q(m:Mo)(s:BA)(e:Ext):rlA_R->PExit × S
 | .e0 el=>(.ret,S.mk [(1,vS s),(2,.lp 2 0),(4,.lp 4 0),(5,.v (.bool true))] [(2,moV m),(4,dfV el)] e)
 | .e1=>(.exit 0,S.mk [(1,vS s),(2,.lp 2 0),(4,.lp 4 0)] [(2,moV m),(4,[vS nm0,.v .nilsl,vI6 0,vS nm0,vI6 0,.v .nilsl,.v .nilsl,.v .nilsl,.v .nilsl,vI6 0,.v (.bool false),.v .nilsl,.v .nilsl,.v .nilsl,.v .nilsl,vI6 0,vS nm0,.v .nilsl,.v .nilsl,vI6 0,vS nm0,vI6 0,.v .nilsl,.v .nilsl,.v .nilsl])] e)
theorem rlA_lp(m:Mo)(s:BA)(e:Ext)(hN:(moF m).length<=1000000000):(Ob.loop 37 (loopF f25 0) (rlA_I m s 0  e) (rlA_q m s e (rlA_f s ((moF m)))).1 (rlA_q m s e (rlA_f s ((moF m)))).2).ok prog:=by
 refine rng ((moF m).length) (fun j _=>rlA_I m s j  e) (fun i _=>rlA_f s (List.drop i ((moF m)))) (rlA_q m s e) (fun i _=>True) kR ?_ () trivial
 rintro i u hi -
 rcases Nat.lt_or_ge i ((moF m).length) with hlt | hge
 ·have hd:=drop_at hlt
  refine t0 ?_;refine tp [sl (Df.cs_len (moF m)),rgDf hlt] ?_;by_cases h0:dfNm (List.getD (moF m) i default)=s
  ·refine tp [rp 4 (bt (ByteArray.toList (dfNm (List.getD (moF m) i default))==ByteArray.toList s) (bsT h0)),mxDf (moF m) (i:Int),xDf (moF m) i hlt,rp 4 (bt (ByteArray.toList (dfNm (List.getD (moF m) i default))==ByteArray.toList s) (bsT h0))] ?_;by_cases h1:dfM (List.getD (moF m) i default)=2
   ·exact tX mdL [et1 h1,mxDf (moF m) (i:Int),xDf (moF m) i hlt] (rlA_R.e0 (List.getD ((moF m)) i default)) (by rw [hd,rlA_f,iP h0,iP h1])
   ·exact tN mdL [en1 h1,wr ((i:Int)+1)] hlt () trivial (by rw [hd,rlA_f,iP h0,iN h1])
  ·exact tN mdL [rp 8 (bf (ByteArray.toList (dfNm (List.getD (moF m) i default))==ByteArray.toList s) (bsF h0)),bf false,wr ((i:Int)+1)] hlt () trivial (by rw [hd,rlA_f,iN h0])
 ·have he:i=(moF m).length:=by omega
  exact lX mdL [sl (Df.cs_len (moF m)),df ((i:Int)<((moF m).length:Int))] (rlA_R.e1) (by rw [he,List.drop_length,rlA_f])
theorem rlL_1(m:Mo)(s:BA)(hN:(moF m).length<=1000000000)(hy0:Df)(hx1:rlA_f s (moF m)=rlA_R.e0 hy0):Pu 25 [.agg (moL m),.str s] (.ret (.tup [.agg (dfL hy0),.bool true])):=
 pu mdL (fun e=>[lq (rz (rlA_lp (m) (s) (e) hN) hx1)]) func25
theorem rlA_e(s:BA):∀ (l:List Df),(rlA_f s l = .e1/\rfX s l=l.length)∨∃k,k<l.length/\rlA_f s l = .e0 (l.getD k default)/\rfX s l=k
 | [] => .inl ⟨rfl,rfl⟩
 | c::r=>by
  have ih:=rlA_e s r
  by_cases h1:dfNm c=s
  ·by_cases h2:dfM c=2
   ·exact .inr ⟨0,by simp,by simp [rlA_f,h1,h2],by simp [rfX,rc1_r0,h1,h2]⟩
   ·rcases ih with ⟨e1,e2⟩ | ⟨k,e1,e2,e3⟩
    ·exact .inl ⟨by simp [rlA_f,h1,h2,e1],by simp [rfX,rc1_r0,h1,h2,e2]⟩
    ·exact .inr ⟨k+1,by simpa using e1,by simp [rlA_f,h1,h2,e2],by simp [rfX,rc1_r0,h1,h2,e3]⟩
  ·rcases ih with ⟨e1,e2⟩ | ⟨k,e1,e2,e3⟩
   ·exact .inl ⟨by simp [rlA_f,h1,e1],by simp [rfX,rc1_r0,h1,e2]⟩
   ·exact .inr ⟨k+1,by simpa using e1,by simp [rlA_f,h1,e2],by simp [rfX,rc1_r0,h1,e3]⟩
def rlD(m:Mo)(s:BA):Df:=(rfD s (moF m)).getD default
theorem rlT(m:Mo)(s:BA)(hN:(moF m).length<=1000000000):Pu 25 [.agg (moL m),.str s] (.ret (.tup [.agg (dfL (rlD m s)),.bool (!unR m s)])):=by
 unfold rlD unR
 rcases rlA_e s (moF m) with ⟨e1,e2⟩ | ⟨k,e1,e2,e3⟩
 ·rw [show rfD s (moF m)=none by unfold rfD; rw [iN oM]]
  exact Ob.pur_wk (Wk.t (WkL.c (Wk.a (kr (kn 1 (kr (kr (kr (kn 7 (kn 10 (kn 9 (kn 9 (kr (kr (kn 1 (kn 2 (kn 2 (kn 10 (kr (kr (kn 9 (kn 1 (kr (kr (kr (kn 4 (kn 4 (kn 4 (WkL.r _))))))))))))))))))))))))))) (WkL.r _))) (pu mdL (fun e=>[lq (rz (rlA_lp (m) (s) (e) hN) e1)]) func25)
 ·rw [show rfD s (moF m)=some ((moF m).getD k default) by unfold rfD; rw [iP oM,e3]]
  exact rlL_1 m s hN _ e2
abbrev v0I(m:Mo)(d:Df)(b:Bool)(fs:List BA)(l:List BA)(j:Int)(xe:Ext):S:=⟨[(2,.v (.bool b)),(3,.lp 3 0),(4,.lp 4 0),(7,.uniq 9 1 (nmsC l)),(8,.v (.sl 1 (nmsC fs))),(9,.v (.int .i64 j))],[(3,moV m),(4,dfV d)],xe⟩
abbrev v0A_I(m:Mo)(d:Df)(b:Bool)(fs:List BA)(rb:BA->Bool)(rd:BA->Df)(xe:Ext)(j:Int)(l:List BA)  : S:=S.mk [(2,.v (.bool b)),(3,.lp 3 0),(4,.lp 4 0),(7,.uniq 9 1 (nmsC l)),(8,vL 1 (nmsC fs)),(9,vI6 j)] [(3,moV m),(4,dfV d)] xe
def v0A_f(d:Df)(rb:BA->Bool):List BA->(List BA)->(List BA)
 | [],l=>(l)
 | el::r,l=>(if rb el=true then (if plR el (dfP d)<0 then v0A_f d rb r (l++[el]) else v0A_f d rb r (l)) else v0A_f d rb r (l))
def v0A_q(m:Mo)(d:Df)(b:Bool)(fs:List BA)(rb:BA->Bool)(rd:BA->Df)(xe:Ext)(p:(List BA)):PExit × S:=(.exit 0,S.mk [(2,.v (.bool b)),(3,.lp 3 0),(4,.lp 4 0),(7,.uniq 9 1 (nmsC p)),(8,vL 1 (nmsC fs))] [(3,moV m),(4,dfV d)] xe)
theorem v0A(m:Mo)(d:Df)(b:Bool)(fs:List BA)(rb:BA->Bool)(rd:BA->Df)(hwk:∀x:BA,Pu 25 [.agg (moL m),.str x] (.ret (.tup [.agg (dfL (rd x)),.bool (rb x)])))(hp:(dfP d).length<=1000000000)(xe:Ext)(l:List BA)(hN:fs.length<=1000000000)(hv:List.length l<=0):(Ob.loop 87 (loopF f52 0) (v0A_I m d b fs rb rd xe 0 l) (v0A_q m d b fs rb rd xe  (v0A_f d rb (fs)  l)).1 (v0A_q m d b fs rb rd xe  (v0A_f d rb (fs)  l)).2).ok prog:=by
 refine rng fs.length (fun j l=>v0A_I m d b fs rb rd xe j l) (fun i l=>v0A_f d rb (List.drop i (fs))  l) (v0A_q m d b fs rb rd xe) (fun i l=>(l.length<=i)) kR ?_ l (by first | exact hv | omega)
 rintro i l hi hv
 try simp only at hv
 rcases Nat.lt_or_ge i (fs.length) with hlt | hge
 ·have hd:=drop_at0 hlt
  refine t0 ?_;refine tp [sl (nmsC_len fs),rgNm hlt,cl (@hwk (List.getD fs i nm0))] ?_;by_cases h0:rb (List.getD fs i nm0)=true
  ·refine tp [rp 5 (bt1 h0),mxNm fs (i:Int),xNm fs i hlt,rp 2 (bt1 h0),cl (@rFindT (dfP d) (List.getD fs i nm0) hp),rp 2 (bt1 h0)] ?_;by_cases h1:plR (List.getD fs i nm0) (dfP d)<0
   ·exact tS mdL [dt1 h1,mxNm fs (i:Int),xNm fs i hlt,am (List.length (nmsC l++[[.str (List.getD fs i nm0)]]) * (15+1)<=140737488355328) (by (simp only [List.length_append,List.length_cons,List.length_nil,nmsC_len]; omega)),wr ((i:Int)+1)] [2,3,4,7,8,9] [3,4] hlt (l++[List.getD fs i nm0]) (S.mk [(2,.v (.bool b)),(3,.lp 3 0),(4,.lp 4 0),(7,.uniq 9 1 (nmsC l++[[PV.str (List.getD fs i nm0)]])),(8,vL 1 (nmsC fs)),(9,vI6 ((i:Int)+1))] [(3,moV m),(4,dfV d)] xe) ⟨⟨W,W,W,(.inl (by first | (simp only [List.nil_append,nmsC_app,nmsC_snoc,Pr.cs_snoc,Tp.cs_snoc,Ex.cs_snoc,Vr.cs_snoc,Df.cs_snoc]; done) | (simp only [List.nil_append,nmsC_app,nmsC_snoc,Pr.cs_snoc,Tp.cs_snoc,Ex.cs_snoc,Vr.cs_snoc,Df.cs_snoc]; rfl))),W,W,tVv⟩,⟨Ws,Ws,tVv⟩,rfl⟩ (by first | assumption | omega | (simp only [List.length_append,List.length_cons,List.length_nil] at *; omega) | simp_all) (by rw [hd,v0A_f,iP h0,iP h1])
   ·exact tN mdL [df1 h1,wr ((i:Int)+1)] hlt (l) (by first | assumption | omega | (simp only [List.length_append,List.length_cons,List.length_nil] at *; omega) | simp_all) (by rw [hd,v0A_f,iP h0,iN h1])
  ·exact tN mdL [rp 9 (bf1 (bFT h0)),bf false,wr ((i:Int)+1)] hlt (l) (by first | assumption | omega | (simp only [List.length_append,List.length_cons,List.length_nil] at *; omega) | simp_all) (by rw [hd,v0A_f,iN h0])
 ·have he:i=fs.length:=by omega
  exact lX mdL [sl (nmsC_len fs),df ((i:Int)<(fs.length:Int))] (l) (by rw [he,List.drop_length,v0A_f])
abbrev v1A_I(m:Mo)(q:List BA)(l0:List BA)(rb:BA->Bool)(rd:BA->Df)(xe:Ext)(j:Int)(l:List BA)  : S:=S.mk [(3,.lp 3 0),(7,.uniq 9 1 (nmsC l)),(8,vL 1 (nmsC q)),(12,vI6 j)] [(3,moV m)] xe
def v1A_f(rb:BA->Bool):List BA->(List BA)->(List BA)
 | [],l=>(l)
 | el::r,l=>(if rb el=true then v1A_f rb r (l++[el]) else v1A_f rb r (l))
def v1A_q(m:Mo)(q:List BA)(l0:List BA)(rb:BA->Bool)(rd:BA->Df)(xe:Ext)(p:(List BA)):PExit × S:=(.exit 2,S.mk [(3,.lp 3 0),(7,.uniq 9 1 (nmsC p)),(8,vL 1 (nmsC q))] [(3,moV m)] xe)
theorem v1A(m:Mo)(q l0:List BA)(rb:BA->Bool)(rd:BA->Df)(hwk:∀x:BA,Pu 25 [.agg (moL m),.str x] (.ret (.tup [.agg (dfL (rd x)),.bool (rb x)])))(hb:l0.length<=1000000000)(xe:Ext)(l:List BA)(hN:q.length<=1000000000)(hv:List.length l<=List.length l0+0):(Ob.loop 87 (loopF f52 1) (v1A_I m q l0 rb rd xe 0 l) (v1A_q m q l0 rb rd xe  (v1A_f rb (q)  l)).1 (v1A_q m q l0 rb rd xe  (v1A_f rb (q)  l)).2).ok prog:=by
 refine rng q.length (fun j l=>v1A_I m q l0 rb rd xe j l) (fun i l=>v1A_f rb (List.drop i (q))  l) (v1A_q m q l0 rb rd xe) (fun i l=>(l.length<=l0.length+i)) kR ?_ l (by first | exact hv | omega)
 rintro i l hi hv
 try simp only at hv
 rcases Nat.lt_or_ge i (q.length) with hlt | hge
 ·have hd:=drop_at0 hlt
  refine t0 ?_;refine tp [sl (nmsC_len q),rgNm hlt,cl (@hwk (List.getD q i nm0))] ?_;by_cases h0:rb (List.getD q i nm0)=true
  ·exact tS mdL [bt1 h0,mxNm q (i:Int),xNm q i hlt,am (List.length (nmsC l++[[.str (List.getD q i nm0)]]) * (15+1)<=140737488355328) (by (simp only [List.length_append,List.length_cons,List.length_nil,nmsC_len]; omega)),wr ((i:Int)+1)] [3,7,8,12] [3] hlt (l++[List.getD q i nm0]) (S.mk [(3,.lp 3 0),(7,.uniq 9 1 (nmsC l++[[PV.str (List.getD q i nm0)]])),(8,vL 1 (nmsC q)),(12,vI6 ((i:Int)+1))] [(3,moV m)] xe) ⟨⟨W,(.inl (by first | (simp only [List.nil_append,nmsC_app,nmsC_snoc,Pr.cs_snoc,Tp.cs_snoc,Ex.cs_snoc,Vr.cs_snoc,Df.cs_snoc]; done) | (simp only [List.nil_append,nmsC_app,nmsC_snoc,Pr.cs_snoc,Tp.cs_snoc,Ex.cs_snoc,Vr.cs_snoc,Df.cs_snoc]; rfl))),W,W,tVv⟩,⟨Ws,tVv⟩,rfl⟩ (by first | assumption | omega | (simp only [List.length_append,List.length_cons,List.length_nil] at *; omega) | simp_all) (by rw [hd,v1A_f,iP h0])
  ·exact tN mdL [bf1 (bFT h0),wr ((i:Int)+1)] hlt (l) (by first | assumption | omega | (simp only [List.length_append,List.length_cons,List.length_nil] at *; omega) | simp_all) (by rw [hd,v1A_f,iN h0])
 ·have he:i=q.length:=by omega
  exact lX mdL [sl (nmsC_len q),df ((i:Int)<(q.length:Int))] (l) (by rw [he,List.drop_length,v1A_f])
theorem vuA(m:Mo)(d:Df)(fs l1:List BA)(hf:Pu 88 [.agg (exL (dfB d))] (.ret (.sl 1 (nmsC fs))))(h0:∀xe,(Ob.loop 87 (loopF f52 0) (v0I m d false fs [] 0 xe) (.exit 0) ⟨[(2,.v (.bool false)),(3,.lp 3 0),(4,.lp 4 0),(7,.uniq 9 1 (nmsC l1))],[(3,moV m),(4,dfV d)],xe⟩).ok prog):Pu 52 [.agg (moL m),.agg (dfL d),.bool false] (.own 9 1 (nmsC l1)):=
 pu mdL (fun e=>[cl hf,lp (S.mk [(2,.v (.bool false)),(3,.lp 3 0),(4,.lp 4 0),(7,.v .nilsl),(8,vL 1 (nmsC fs)),(9,vI6 0)] [(3,moV m),(4,dfV d)] e) (@h0 e) ⟨⟨W,W,W,Wq,W,W,tVv⟩,⟨⟨W,W,W,W,W,W,tVv⟩,⟨W,W,W,W,W,W,W,W,W,W,W,W,W,W,W,W,W,W,W,W,W,W,W,W,W,tVv⟩,tVv⟩,rfl⟩,bt true]) func52
theorem vuB(m:Mo)(d:Df)(fs l1 q1 q2 l2:List BA)(hf:Pu 88 [.agg (exL (dfB d))] (.ret (.sl 1 (nmsC fs))))(h0:∀xe,(Ob.loop 87 (loopF f52 0) (v0I m d true fs [] 0 xe) (.exit 0) ⟨[(2,.v (.bool true)),(3,.lp 3 0),(4,.lp 4 0),(7,.uniq 9 1 (nmsC l1))],[(3,moV m),(4,dfV d)],xe⟩).ok prog)(ha:Pu 89 [.agg (tpL (dfT d))] (.own 9 1 (nmsC q1)))(hm:Pu 90 [.sl 4 (Pr.cs (dfMe d))] (.ret (.sl 1 (nmsC q2))))(hq:q1.length+q2.length<=1000000000)(h1:∀xe,(Ob.loop 87 (loopF f52 1) ⟨[(3,.lp 3 0),(7,.uniq 9 1 (nmsC l1)),(8,.uniq 9 1 (nmsC q1++nmsC q2)),(12,.v (.int .i64 0))],[(3,moV m)],xe⟩ (.exit 2) ⟨[(7,.uniq 9 1 (nmsC l2))],[],xe⟩).ok prog):Pu 52 [.agg (moL m),.agg (dfL d),.bool true] (.own 9 1 (nmsC l2)):=
 pu mdL (fun e=>[cl hf,lp (S.mk [(2,.v (.bool true)),(3,.lp 3 0),(4,.lp 4 0),(7,.v .nilsl),(8,vL 1 (nmsC fs)),(9,vI6 0)] [(3,moV m),(4,dfV d)] e) (@h0 e) ⟨⟨W,W,W,Wq,W,W,tVv⟩,⟨⟨W,W,W,W,W,W,tVv⟩,⟨W,W,W,W,W,W,W,W,W,W,W,W,W,W,W,W,W,W,W,W,W,W,W,W,W,tVv⟩,tVv⟩,rfl⟩,bf false,cl ha,cl hm,am (List.length (nmsC q1++(fun x=>Prod.snd x) (1,nmsC q2)) * (15+1)<=140737488355328) (by (simp only [List.length_append,nmsC_len]; omega)),lq (@h1 e)]) func52
theorem v0A_eq(d:Df)(rb:BA->Bool):∀ (fs l:List BA),v0A_f d rb fs l=l++fs.filter fun x=>rb x&&decide (plR x (dfP d)<0)
 | [],l=>by simp [v0A_f]
 | x::r,l=>by
  rw [v0A_f]
  by_cases h:rb x=true
  ·by_cases h2:plR x (dfP d)<0
   ·simp [h,h2,v0A_eq d rb r]
   ·simp [h,h2,v0A_eq d rb r]
  ·simp [h,v0A_eq d rb r]
theorem v1A_eq(rb:BA->Bool):∀ (q l:List BA),v1A_f rb q l=l++q.filter rb
 | [],l=>by simp [v1A_f]
 | x::r,l=>by
  rw [v1A_f]
  by_cases h:rb x=true
  ·simp [h,v1A_eq rb r]
  ·simp [h,v1A_eq rb r]
theorem loop_pre{P:Program}{n:Nat}{c:Code}{s0 s1 t:S}{pe:PExit}(h:(Ob.loop n c t pe s1).ok P)(hl:LeX t s0):(Ob.loop n c s0 pe s1).ok P:=fun cx hcx g l a w hs=>h cx hcx g l a w (hs.leX hl)
def ru1(m:Mo)(d:Df):List BA:=(freeR (dfB d)).filter fun x=>!unR m x&&decide (plR x (dfP d)<0)
def ruF(m:Mo)(d:Df)(ty:Bool):List BA:=if ty=true then ru1 m d++(r4F (dfT d)++rpN (dfMe d)).filter (fun x=>!unR m x) else ru1 m d
theorem ru1_len(m:Mo)(d:Df):(ru1 m d).length<=szE (dfB d):=Nat.le_trans (List.length_filter_le _ _) (freeR_len _)
theorem ruF_len(m:Mo)(d:Df)(ty:Bool):(ruF m d ty).length<=bulkPs (dfL d):=by
 have h1:=ru1_len m d
 have h2:=df_bulk d
 have h3:(r4F (dfT d)).length<=bulkPs (tpL (dfT d)):=r4_len _ _
 have h4:=rpN_len (dfMe d)
 have h5:=List.length_filter_le (fun x=>!unR m x) (r4F (dfT d)++rpN (dfMe d))
 rw [List.length_append] at h5
 unfold ruF
 split
 ·rw [List.length_append]; omega
 ·omega
theorem ruT(m:Mo)(d:Df)(ty:Bool)(hs:bulkPs (moL m)<=10000000)(hd:bulkPs (dfL d)<=10000000):Pu 52 [.agg (moL m),.agg (dfL d),.bool ty] (.ret (.sl 1 (nmsC (ruF m d ty)))):=by
 have hN:=moF_len m
 have h2:=df_bulk d
 have h1:=ru1_len m d
 have h4:=nms_bulk (dfP d)
 have h5:=freeR_len (dfB d)
 have hf:=rFree (dfB d) oM
 have hwk:=fun x=>rlT m x oM
 have h0:∀ (b:Bool) (xe:Ext),(Ob.loop 87 (loopF f52 0) (v0I m d b (freeR (dfB d)) [] 0 xe) (.exit 0) ⟨[(2,.v (.bool b)),(3,.lp 3 0),(4,.lp 4 0),(7,.uniq 9 1 (nmsC (ru1 m d)))],[(3,moV m),(4,dfV d)],xe⟩).ok prog:=fun b xe=>by
  have:=v0A m d b (freeR (dfB d)) _ _ hwk oM xe [] oM sM
  rw [v0A_eq,List.nil_append] at this
  exact Ob.loop_post this ⟨⟨W,W,W,W,tVv⟩,⟨WLs.refl _,WLs.refl _,tVv⟩,rfl⟩
 cases ty with
 | false=>exact Ob.pur_unown (vuA m d _ (ru1 m d) hf (h0 false))
 | true=>
  have h7:=rpN_len (dfMe d)
  have h8:(r4F (dfT d)).length<=bulkPs (tpL (dfT d)):=r4_len _ _
  refine Ob.pur_unown (vuB m d _ (ru1 m d) (r4F (dfT d)) (rpN (dfMe d)) (ruF m d true) hf (h0 true) (r4T (dfT d) oM) (Ob.pur_unown (r2T (dfMe d) oM)) oM fun xe=>?_)
  have:=v1A m (r4F (dfT d)++rpN (dfMe d)) (ru1 m d) _ _ hwk oM xe (ru1 m d) (by rw [List.length_append]; omega) oM
  rw [v1A_eq] at this
  refine loop_pre (Ob.loop_post this ⟨⟨W,tVv⟩,trivial,rfl⟩) ⟨⟨W,W,?_,W,tVv⟩,⟨WLs.refl _,tVv⟩,rfl⟩
  rw [nmsC_app]
  exact .inr ⟨rfl,rfl⟩
abbrev rrA_I(m:Mo)(to:BA)(ty:Bool)(ns:List BA)(s0:List BA)(o0:List BA)(xe:Ext)(j:Int)(s:List BA)(o:List BA)  : S:=S.mk [(2,vS to),(3,.v (.bool ty)),(4,.lp 4 0),(9,.uniq 9 1 (nmsC s)),(10,.uniq 9 1 (nmsC o)),(13,vL 1 (nmsC ns)),(14,vI6 j)] [(4,moV m)] xe
inductive rrA_R where
 | e0 (s:List BA) (o:List BA)
 | e1 (s:List BA) (o:List BA)
def rrA_f(to:BA):List BA->(List BA)->(List BA)->rrA_R
 | [],s,o=>(rrA_R.e1 s o)
 | el::r,s,o=>(if el=to then (rrA_R.e0 s o) else (if plR el s<0 then rrA_f to r (s++[el]) (o++[el]) else rrA_f to r (s) (o)))
def rrA_q(m:Mo)(to:BA)(ty:Bool)(ns:List BA)(s0:List BA)(o0:List BA)(xe:Ext)  : rrA_R->PExit × S
 | .e0 s o=>(.ret,S.mk [(2,vS to),(3,.v (.bool ty)),(4,.lp 4 0),(9,.uniq 9 1 (nmsC s)),(10,.uniq 9 1 (nmsC o)),(13,vL 1 (nmsC ns)),(8,.v (.bool true))] [(4,moV m)] xe)
 | .e1 s o=>(.exit 2,S.mk [(2,vS to),(3,.v (.bool ty)),(4,.lp 4 0),(9,.uniq 9 1 (nmsC s)),(10,.uniq 9 1 (nmsC o)),(13,vL 1 (nmsC ns))] [(4,moV m)] xe)
theorem rrA_lp(m:Mo)(to:BA)(ty:Bool)(ns:List BA)(s0 o0:List BA)(hb:s0.length+o0.length<=500000000)(hn:ns.length<=100000000)(xe:Ext)(hN:ns.length<=1000000000)(s:List BA)(o:List BA)(hv:(s.length<=s0.length+0/\o.length<=o0.length+0)):(Ob.loop 67 (loopF f26 1) (rrA_I m to ty ns s0 o0 xe 0 s o) (rrA_q m to ty ns s0 o0 xe  (rrA_f to (ns)  s o)).1 (rrA_q m to ty ns s0 o0 xe  (rrA_f to (ns)  s o)).2).ok prog:=by
 refine rng ns.length (fun j zz=>rrA_I m to ty ns s0 o0 xe j zz.1 zz.2) (fun i zz=>rrA_f to (List.drop i (ns))  zz.1 zz.2) (rrA_q m to ty ns s0 o0 xe) (fun i zz=>(fun (i:Nat) (s:List BA) (o:List BA)=>(s.length<=s0.length+i/\o.length<=o0.length+i)) i zz.1 zz.2) kR ?_ (s,o) (by first | exact hv | omega)
 rintro i ⟨s,o⟩ hi hv
 try simp only at hv
 rcases Nat.lt_or_ge i (ns.length) with hlt | hge
 ·have hd:=drop_at0 hlt
  refine t0 ?_;refine tp [sl (nmsC_len ns),rgNm hlt] ?_;by_cases h0:List.getD ns i nm0=to
  ·exact tX mdL [bt (ByteArray.toList (List.getD ns i nm0)==ByteArray.toList to) (bsT h0)] (rrA_R.e0 s o) (by rw [hd,rrA_f,iP h0])
  ·refine tp [bf (ByteArray.toList (List.getD ns i nm0)==ByteArray.toList to) (bsF h0),mxNm ns (i:Int),xNm ns i hlt,cl (@rFindT s (List.getD ns i nm0) oM)] ?_;by_cases h1:plR (List.getD ns i nm0) s<0
   ·exact tS mdL [dt1 h1,mxNm ns (i:Int),xNm ns i hlt,am (List.length (nmsC s++[[.str (List.getD ns i nm0)]]) * (15+1)<=140737488355328) (by (simp only [List.length_append,List.length_cons,List.length_nil,nmsC_len]; omega)),mxNm ns (i:Int),xNm ns i hlt,am (List.length (nmsC o++[[.str (List.getD ns i nm0)]]) * (15+1)<=140737488355328) (by (simp only [List.length_append,List.length_cons,List.length_nil,nmsC_len]; omega)),wr ((i:Int)+1)] [2,3,4,9,10,13,14,8] [4] hlt ((s++[List.getD ns i nm0]),(o++[List.getD ns i nm0])) (S.mk [(2,vS to),(3,.v (.bool ty)),(4,.lp 4 0),(9,.uniq 9 1 (nmsC s++[[PV.str (List.getD ns i nm0)]])),(10,.uniq 9 1 (nmsC o++[[PV.str (List.getD ns i nm0)]])),(13,vL 1 (nmsC ns)),(14,vI6 ((i:Int)+1))] [(4,moV m)] xe) ⟨⟨W,W,W,(.inl (by first | (simp only [List.nil_append,nmsC_app,nmsC_snoc,Pr.cs_snoc,Tp.cs_snoc,Ex.cs_snoc,Vr.cs_snoc,Df.cs_snoc]; done) | (simp only [List.nil_append,nmsC_app,nmsC_snoc,Pr.cs_snoc,Tp.cs_snoc,Ex.cs_snoc,Vr.cs_snoc,Df.cs_snoc]; rfl))),(.inl (by first | (simp only [List.nil_append,nmsC_app,nmsC_snoc,Pr.cs_snoc,Tp.cs_snoc,Ex.cs_snoc,Vr.cs_snoc,Df.cs_snoc]; done) | (simp only [List.nil_append,nmsC_app,nmsC_snoc,Pr.cs_snoc,Tp.cs_snoc,Ex.cs_snoc,Vr.cs_snoc,Df.cs_snoc]; rfl))),W,W,tVv⟩,⟨Ws,tVv⟩,rfl⟩ (by first | assumption | omega | (simp only [List.length_append,List.length_cons,List.length_nil] at *; omega) | simp_all) (by rw [hd,rrA_f,iN h0,iP h1])
   ·exact tN mdL [df1 h1,wr ((i:Int)+1)] hlt ((s),(o)) (by first | assumption | omega | (simp only [List.length_append,List.length_cons,List.length_nil] at *; omega) | simp_all) (by rw [hd,rrA_f,iN h0,iN h1])
 ·have he:i=ns.length:=by omega
  exact lX mdL [sl (nmsC_len ns),df ((i:Int)<(ns.length:Int))] (rrA_R.e1 s o) (by rw [he,List.drop_length,rrA_f])
abbrev roI(m:Mo)(to:BA)(ty:Bool)(s o:List BA)(xe:Ext):S:=⟨[(2,.v (.str to)),(3,.v (.bool ty)),(4,.lp 4 0),(9,.uniq 9 1 (nmsC s)),(10,.uniq 9 1 (nmsC o))],[(4,moV m)],xe⟩
section
variable (m:Mo) (to:BA) (ty:Bool)
include m to ty
theorem roZ(s o:List BA)(ho:o.length=0)(xe:Ext)(cx:Cx)(hcx:cx.n=67){Q:PExit->S->Prop}(hq:Q (.exit 0) (S.mk [(2,vS to),(3,.v (.bool ty)),(4,.lp 4 0),(9,.uniq 9 1 (nmsC s)),(10,.uniq 9 1 (nmsC o))] [(4,moV m)] xe)):PW prog cx (loopF f26 0) (roI m to ty s o xe) Q:=
 pw mdL 67 [sl (nmsC_len o),df ((o.length:Int)>0)] [2,3,4,9,10] [4] hcx hq
theorem roB(s o ns:List BA)(d:Df)(y:Bool)(hN:(moF m).length<=1000000000)(ho:0<o.length)(hr:Pu 25 [.agg (moL m),.str (o.getD 0 nm0)] (.ret (.tup [.agg (dfL d),.bool y])))(hu:Pu 52 [.agg (moL m),.agg (dfL d),.bool ty] (.ret (.sl 1 (nmsC ns))))(hl:∀xe,(Ob.loop 67 (loopF f26 1) ⟨[(2,.v (.str to)),(3,.v (.bool ty)),(4,.lp 4 0),(9,.uniq 9 1 (nmsC s)),(10,.uniq 9 1 (List.drop 1 (nmsC o))),(13,.v (.sl 1 (nmsC ns))),(14,.v (.int .i64 0))],[(4,moV m)],xe⟩ .ret ⟨[(8,.v (.bool true))],[],xe⟩).ok prog)(xe:Ext)(cx:Cx)(hcx:cx.n=67){Q:PExit->S->Prop}(hq:Q (.ret) (S.mk [(8,.v (.bool true))] [] xe)):PW prog cx (loopF f26 0) (roI m to ty s o xe) Q:=
 pw mdL 67 [sl (nmsC_len o),dt ((o.length:Int)>0),mxNm o 0,xNm o 0 ho,cl hr,am ((0:Int)<=1/\1<=((nmsC o).length:Int)) (by (simp only [nmsC_len]; omega)),cl hu,lq (@hl xe)] [2,3,4,9,10,8] [4] hcx hq
theorem roC(s o ns:List BA)(d:Df)(y:Bool)(s1 o1:List BA)(hN:(moF m).length<=1000000000)(ho:0<o.length)(hr:Pu 25 [.agg (moL m),.str (o.getD 0 nm0)] (.ret (.tup [.agg (dfL d),.bool y])))(hu:Pu 52 [.agg (moL m),.agg (dfL d),.bool ty] (.ret (.sl 1 (nmsC ns))))(hl:∀xe,(Ob.loop 67 (loopF f26 1) ⟨[(2,.v (.str to)),(3,.v (.bool ty)),(4,.lp 4 0),(9,.uniq 9 1 (nmsC s)),(10,.uniq 9 1 (List.drop 1 (nmsC o))),(13,.v (.sl 1 (nmsC ns))),(14,.v (.int .i64 0))],[(4,moV m)],xe⟩ (.exit 2) ⟨[(2,.v (.str to)),(3,.v (.bool ty)),(4,.lp 4 0),(9,.uniq 9 1 (nmsC s1)),(10,.uniq 9 1 (nmsC o1))],[(4,moV m)],xe⟩).ok prog)(xe:Ext)(cx:Cx)(hcx:cx.n=67){Q:PExit->S->Prop}(hq:Q (.normal) (S.mk [(2,vS to),(3,.v (.bool ty)),(4,.lp 4 0),(9,.uniq 9 1 (nmsC s1)),(10,.uniq 9 1 (nmsC o1))] [(4,moV m)] xe)):PW prog cx (loopF f26 0) (roI m to ty s o xe) Q:=
 pw mdL 67 [sl (nmsC_len o),dt ((o.length:Int)>0),mxNm o 0,xNm o 0 ho,cl hr,am ((0:Int)<=1/\1<=((nmsC o).length:Int)) (by (simp only [nmsC_len]; omega)),cl hu,lq (@hl xe)] [2,3,4,9,10] [4] hcx hq
end
open Go.Pv
theorem mupd_key{k y:ByteArray}{v:PV}:∀es:List (ByteArray × PV),y∈(mupd k v es).map (·.1)↔y=k∨y∈es.map (·.1)
 | []=>by simp [mupd]
 | x::r=>by
  have ih:=mupd_key (k:=k) (y:=y) (v:=v) r
  simp only [mupd]
  split
  ·rename_i h
   simp only [List.map_cons,List.mem_cons]
   rw [h]
   constructor
   ·rintro (h | h)
    ·exact .inl h
    ·exact .inr (.inr h)
   ·rintro (h | h | h)
    ·exact .inl h
    ·exact .inl h
    ·exact .inr h
  ·simp only [List.map_cons,List.mem_cons,ih]
   constructor
   ·rintro (h | h | h)
    ·exact .inr (.inl h)
    ·exact .inl h
    ·exact .inr (.inr h)
   ·rintro (h | h | h)
    ·exact .inr (.inl h)
    ·exact .inl h
    ·exact .inr (.inr h)
theorem addL_key{y:ByteArray}:∀ (l:List ByteArray) (es:List (ByteArray × PV)),y∈(addL es l).map (·.1)↔y∈l∨y∈es.map (·.1)
 | [],es=>by simp [addL]
 | n::l,es=>by
  rw [show addL es (n::l)=addL (addN es n) l from rfl,addL_key l,addN,mupd_key,List.mem_cons]
  constructor
  ·rintro (h | h | h)
   ·exact .inl (.inr h)
   ·exact .inl (.inl h)
   ·exact .inr h
  ·rintro ((h | h) | h)
   ·exact .inr (.inl h)
   ·exact .inl h
   ·exact .inr (.inr h)
theorem sortB_mem{y:ByteArray}{l:List ByteArray}:y∈sortB l↔y∈l:=by
 unfold sortB
 rw [List.mem_map]
 constructor
 ·rintro ⟨x,hx,rfl⟩
  rw [(List.mergeSort_perm _ _).mem_iff,List.mem_map] at hx
  obtain ⟨z,hz,rfl⟩:=hx
  exact hz
 ·intro h
  refine ⟨y.data.toList,?_,rfl⟩
  rw [(List.mergeSort_perm _ _).mem_iff,List.mem_map]
  exact ⟨y,h,rfl⟩
theorem freeS_mem{x:Ex}{y:ByteArray}:y∈freeS x↔y∈occN x []:=by
 rw [freeS,sortB_mem,addL_key]
 simp
theorem put_fst(s:ByteArray):∀ (l:List ByteArray) (i:Nat) (out:List ByteArray),(put_f s l i out).1=out++l.take ((put_f s l i out).2 - i)
 | [],i,out=>by simp [put_f]
 | x::r,i,out=>by
  have h:=put_le s r (i+1) (out++[x])
  have ih:=put_fst s r (i+1) (out++[x])
  rw [put_f]
  split
  ·rw [ih,show (put_f s r (i+1) (out++[x])).2 - i=(put_f s r (i+1) (out++[x])).2 - (i+1)+1 by omega]
   simp
  ·simp
theorem putN_mem{s y:ByteArray}{l:List ByteArray}:y∈putN s l↔y=s∨y∈l:=by
 have h:=put_fst s l 0 []
 have hl:=put_le s l 0 []
 unfold putN
 rw [h,List.nil_append,Nat.sub_zero]
 generalize (put_f s l 0 []).2=k at hl ⊢
 simp only [List.mem_append,List.mem_singleton]
 constructor
 ·rintro ((h | h) | h)
  ·exact .inr (List.mem_of_mem_take h)
  ·exact .inl h
  ·exact .inr (List.mem_of_mem_drop h)
 ·rintro (h | h)
  ·exact .inl (.inr h)
  ·rw [<-List.take_append_drop k l,List.mem_append] at h
   rcases h with h | h
   ·exact .inl (.inl h)
   ·split
    ·rename_i hc
     rw [drop_at hc.1,List.mem_cons] at h
     rcases h with h | h
     ·exact .inl (.inr (h.trans hc.2))
     ·exact .inr h
    ·exact .inr h
theorem uni_mem{y:ByteArray}:∀ (a out:List ByteArray),y∈uni_f a out↔y∈a∨y∈out
 | [],out=>by simp [uni_f]
 | x::r,out=>by
  rw [uni_f,uni_mem r,putN_mem,List.mem_cons]
  constructor
  ·rintro (h | h | h)
   ·exact .inl (.inr h)
   ·exact .inl (.inl h)
   ·exact .inr h
  ·rintro ((h | h) | h)
   ·exact .inr (.inl h)
   ·exact .inl h
   ·exact .inr (.inr h)
theorem freeR_mem{x:Ex}{y:ByteArray}:y∈freeR x↔y∈occN x []:=by
 rw [freeR,uni_mem]
 simp
def apP(o:Int):Nat->Pr->List ByteArray
 | 0,_=>[]
 | d+1,u=>(prK u).flatMap (apP o d)++(if prO u=o then [prNm u] else [])
theorem any_nm{f:Pr->Bool}{u:Pr}{l:List Pr}(hf:∀w,f w=true->prNm w=prNm u)(h:l.any f=true):prNm u∈l.map prNm:=by
 obtain ⟨w,hw,h1⟩:=List.any_eq_true.1 h
 exact List.mem_map.2 ⟨w,hw,hf w h1⟩
theorem inA_mem{y:ByteArray}{dg:Pr->List Pr->List Pr}{P:Pr->List ByteArray}(hd:∀w l,y∈(dg w l).map prNm↔y∈l.map prNm∨y∈P w):∀ (ks l:List Pr),y∈(inA_f dg ks l).map prNm↔y∈l.map prNm∨y∈ks.flatMap P
 | [],l=>by simp [inA_f]
 | x::r,l=>by
  rw [inA_f,inA_mem hd r,hd,List.flatMap_cons,List.mem_append,or_assoc]
theorem rnA_mem{y:ByteArray}{dg:Pr->List Pr->List Pr}{P:Pr->List ByteArray}(hd:∀w l,y∈(dg w l).map prNm↔y∈l.map prNm∨y∈P w):∀ (ks l:List Pr),y∈(rnA_f dg ks l).map prNm↔y∈l.map prNm∨y∈ks.flatMap P
 | [],l=>by simp [rnA_f]
 | x::r,l=>by
  rw [rnA_f,rnA_mem hd r,hd,List.flatMap_cons,List.mem_append,or_assoc]
theorem inK_mem(o:Int)(y:ByteArray):∀ (d:Nat) (u:Pr) (l:List Pr),y∈(inK o d u l).map prNm↔y∈l.map prNm∨y∈apP o d u
 | 0,u,l=>by simp [inK,apP]
 | d+1,u,l=>by
  have h:=inA_mem (P:=apP o d) (fun w l=>inK_mem o y d w l) (prK u) l
  rw [inK,apP,List.mem_append,<-or_assoc,<-h]
  by_cases h0:prO u=o
  ·by_cases h1:(inA_f (inK o d) (prK u) l).any (smF u)=false
   ·rw [if_pos ⟨h0,h1⟩,if_pos h0,List.map_append,List.mem_append]; rfl
   ·rw [if_neg (fun hc=>h1 hc.2),if_pos h0]
    have h2:=any_nm (u:=u) (fun w hw=>(smF_nm hw).symm) (by simpa using h1)
    constructor
    ·exact .inl
    ·rintro (h3 | h3)
     ·exact h3
     ·rw [List.mem_singleton.1 h3]; exact h2
  ·rw [if_neg (fun hc=>h0 hc.1),if_neg h0]
   simp
theorem rnK_mem(o:Int)(y:ByteArray):∀ (d:Nat) (u:Pr) (l:List Pr),y∈(rnK o d u l).map prNm↔y∈l.map prNm∨y∈apP o d u
 | 0,u,l=>by simp [rnK,apP]
 | d+1,u,l=>by
  have h:=rnA_mem (P:=apP o d) (fun w l=>rnK_mem o y d w l) (prK u) l
  rw [rnK,apP,List.mem_append,<-or_assoc,<-h]
  by_cases h0:prO u=o
  ·by_cases h1:(rnA_f (rnK o d) (prK u) l).any (fun w=>rqF w u)=false
   ·rw [if_pos ⟨h0,h1⟩,if_pos h0,List.map_append,List.mem_append]; rfl
   ·rw [if_neg (fun hc=>h1 hc.2),if_pos h0]
    have h2:=any_nm (u:=u) (fun w hw=>rqF_nm hw) (by simpa using h1)
    constructor
    ·exact .inl
    ·rintro (h3 | h3)
     ·exact h3
     ·rw [List.mem_singleton.1 h3]; exact h2
  ·rw [if_neg (fun hc=>h0 hc.1),if_neg h0]
   simp
theorem apF_mem{u:Pr}{y:ByteArray}:y∈(apF u).map prNm↔y∈(raF u).map prNm:=by
 rw [apF,raF,inK_mem,rnK_mem]
theorem fm_mem{y:ByteArray}(q:List Pr):y∈(q.flatMap fun w=>(apF w).map prNm)↔y∈rpN q:=by
 rw [rpN]
 simp only [List.mem_flatMap,apF_mem]
theorem abN_mem{t:Tp}{y:ByteArray}:y∈abN t↔y∈rbN t:=by
 rw [abN,fm_mem,rbN,rpN,rpN,List.flatMap_append,List.flatMap_cons,List.mem_append,List.mem_append]
 simp only [List.flatMap_cons,List.flatMap_nil,List.append_nil]
 exact or_comm
theorem aeA_mem{y:ByteArray}{dt:Tp->List ByteArray->List ByteArray}{P:Tp->List ByteArray}(hd:∀w l,y∈dt w l↔y∈l∨y∈P w):∀ (ks:List Tp) (l:List ByteArray),y∈aeA_f dt ks l↔y∈l∨y∈ks.flatMap P
 | [],l=>by simp [aeA_f]
 | x::r,l=>by
  rw [aeA_f,aeA_mem hd r,hd,List.flatMap_cons,List.mem_append,or_assoc]
theorem apK_mem(y:ByteArray):∀ (d:Nat) (t:Tp) (l:List ByteArray),y∈apK d t l↔y∈l∨y∈r4K d t
 | 0,t,l=>by simp [apK,r4K]
 | d+1,t,l=>by
  rw [apK,aeA_mem (P:=r4K d) (fun w l=>apK_mem y d w l),r4K,r3A_eq,List.mem_append,List.mem_append,abN_mem,or_assoc]
theorem us1_mem{m:Mo}{d:Df}{y:ByteArray}:y∈ru1 m d↔y∈us1F d/\unR m y=false:=by
 rw [ru1,us1F,List.mem_filter,List.mem_filter,freeR_mem,freeS_mem,plR_eq]
 have h:(!inN y (dfP d))=decide (plc y (dfP d)<0):=by
  unfold inN
  by_cases h:plc y (dfP d)<0
  ·simp [h]
  ·simp [h]; omega
 rw [h]
 simp only [Bool.and_eq_true,Bool.not_eq_true',decide_eq_true_eq]
 constructor
 ·rintro ⟨h1,h2,h3⟩; exact ⟨⟨h1,h3⟩,h2⟩
 ·rintro ⟨⟨h1,h3⟩,h2⟩; exact ⟨h1,h2,h3⟩
theorem us_mem{m:Mo}{d:Df}{y:ByteArray}{ty:Bool}:y∈ruF m d ty↔y∈usW d ty/\unR m y=false:=by
 unfold ruF usW
 cases ty with
 | false=>exact us1_mem
 | true=>
  simp only [if_true]
  rw [List.mem_append,List.mem_filter,us1_mem,List.mem_append,List.mem_append,apG,apK_mem,meN,fm_mem,r4F]
  simp only [Bool.not_eq_true']
  constructor
  ·rintro (⟨h1,h2⟩ | ⟨h1 | h1,h2⟩)
   ·exact ⟨.inl (.inl h1),h2⟩
   ·exact ⟨.inl (.inr h1),h2⟩
   ·exact ⟨.inr h1,h2⟩
  ·rintro ⟨(h1 | h1) | h1,h2⟩
   ·exact .inl ⟨h1,h2⟩
   ·exact .inr ⟨.inl h1,h2⟩
   ·exact .inr ⟨.inr h1,h2⟩
theorem usF_mem{m:Mo}{x y:ByteArray}{ty:Bool}(hx:unR m x=false):y∈usF m x ty↔y∈ruF m (rlD m x) ty:=by
 rw [us_mem]
 unfold usF rlD
 unfold unR at hx
 cases h:rfD x (moF m) with
 | none=>rw [h] at hx; cases hx
 | some d=>simp [List.mem_filter]
def rrK(m:Mo)(to:BA)(ty:Bool):Nat->List BA->List BA->Bool
 | 0,_,_=>false
 | _+1,_,[]=>false
 | d+1,s,x::r=>match rrA_f to (ruF m (rlD m x) ty) s r with
  | .e0 _ _=>true
  | .e1 s1 o1=>rrK m to ty d s1 o1
theorem ru_un{m:Mo}{d:Df}{ty:Bool}{y:BA}(h:y∈ruF m d ty):unR m y=false:=(us_mem.1 h).2
theorem plR_in{y:BA}{s:List BA}:plR y s<0↔inN y s=false:=by
 rw [plR_eq,inN]
 simp
theorem rr_spec{m:Mo}{to:BA}:∀ (ns s o:List BA),(∀y∈ns,unR m y=false)->match rrA_f to ns s o with
  | .e0 _ _=>to∈ns
  | .e1 s1 o1=>(∀y∈ns,y≠to/\y∈s1)/\(∀z∈s,z∈s1)/\(∀z∈o,z∈o1)/\(∀z∈s1,z∈s∨z∈o1)/\(∀z∈o1,z∈o∨z∈ns)/\2 * cU m s1+o1.length<=2 * cU m s+o.length/\s1.length+cU m s1<=s.length+cU m s
 | [],s,o,_=>by
  rw [rrA_f]
  exact ⟨by simp,fun z h=>h,fun z h=>h,fun z h => .inl h,fun z h => .inl h,Nat.le_refl _,Nat.le_refl _⟩
 | x::r,s,o,hu=>by
  rw [rrA_f]
  split
  ·rename_i s0 o0 heq
   split at heq
   ·rename_i h; exact h ▸ List.mem_cons_self
   ·split at heq
    ·have ih:=rr_spec (m:=m) (to:=to) r (s++[x]) (o++[x]) (fun y hy=>hu y (List.mem_cons_of_mem _ hy))
     rw [heq] at ih
     exact List.mem_cons_of_mem _ ih
    ·have ih:=rr_spec (m:=m) (to:=to) r s o (fun y hy=>hu y (List.mem_cons_of_mem _ hy))
     rw [heq] at ih
     exact List.mem_cons_of_mem _ ih
  ·rename_i s1 o1 heq
   split at heq
   ·cases heq
   ·rename_i hne
    split at heq
    ·rename_i hp
     have ih:=rr_spec (m:=m) (to:=to) r (s++[x]) (o++[x]) (fun y hy=>hu y (List.mem_cons_of_mem _ hy))
     rw [heq] at ih
     obtain ⟨h1,h2,h3,h4,h5,h6,h7⟩:=ih
     have hc:=cU_step (hu x List.mem_cons_self) (plR_in.1 hp)
     simp only [List.length_append,List.length_cons,List.length_nil] at h6 h7
     refine ⟨fun y hy=>?_,fun z hz=>h2 z (List.mem_append_left _ hz),fun z hz=>h3 z (List.mem_append_left _ hz),fun z hz=>?_,fun z hz=>?_,by omega,by omega⟩
     ·rcases List.mem_cons.1 hy with rfl | hy
      ·exact ⟨hne,h2 _ (List.mem_append_right _ sM)⟩
      ·exact h1 y hy
     ·rcases h4 z hz with h | h
      ·rcases List.mem_append.1 h with h | h
       ·exact .inl h
       ·exact .inr (h3 z (List.mem_append_right _ h))
      ·exact .inr h
     ·rcases h5 z hz with h | h
      ·rcases List.mem_append.1 h with h | h
       ·exact .inl h
       ·rw [List.mem_singleton] at h; exact .inr (h ▸ List.mem_cons_self)
      ·exact .inr (List.mem_cons_of_mem _ h)
    ·rename_i hp
     have ih:=rr_spec (m:=m) (to:=to) r s o (fun y hy=>hu y (List.mem_cons_of_mem _ hy))
     rw [heq] at ih
     obtain ⟨h1,h2,h3,h4,h5,h6,h7⟩:=ih
     refine ⟨fun y hy=>?_,h2,h3,h4,fun z hz=>(h5 z hz).imp_right (List.mem_cons_of_mem _),h6,h7⟩
     rcases List.mem_cons.1 hy with rfl | hy
     ·refine ⟨hne,h2 _ ?_⟩
      have hb:inN y s=true:=by
       cases hb:inN y s with
       | true=>rfl
       | false=>exact absurd (plR_in.2 hb) hp
      exact (inN_iff _ _).1 hb
     ·exact h1 y hy
theorem rl_bulk(m:Mo)(x:BA):bulkPs (dfL (rlD m x))<=bulkPs (moL m)+100:=by
 unfold rlD
 cases h:rfD x (moF m) with
 | none=>exact Nat.le_trans (show bulkPs (dfL default)<=100 by decide) oM
 | some d=>have:=moF_mem (rfD_mem h); show bulkPs (dfL d)<=_; omega
def rrE(b:Bool)(xe:Ext):PExit × S:=if b=true then (.ret,⟨[(8,.v (.bool true))],[],xe⟩) else (.exit 0,⟨[],[],xe⟩)
theorem rr_loop(m:Mo)(to:BA)(ty:Bool)(hs:bulkPs (moL m)<=2000000)(xe:Ext)(d:Nat)(s o:List BA)(h1:2 * cU m s+o.length<d)(h2:s.length+cU m s<=10000000)(h3:d<=10000000) :
  (Ob.loop 67 (loopF f26 0) (roI m to ty s o xe) (rrE (rrK m to ty d s o) xe).1 (rrE (rrK m to ty d s o) xe).2).ok prog:=by
 have hN:=moF_len m
 have:=Ob.loop_of (P:=prog) (n:=67) (c:=loopF f26 0) (α:={ p:Nat × List BA × List BA // 2 * cU m p.2.1+p.2.2.length<p.1/\p.2.1.length+cU m p.2.1<=10000000/\p.1<=10000000 })
  (fun p=>roI m to ty p.1.2.1 p.1.2.2 xe) (fun p=>p.1.1) (fun p=>rrE (rrK m to ty p.1.1 p.1.2.1 p.1.2.2) xe) ?_ ⟨(d,s,o),h1,h2,h3⟩
 ·exact this
 ·rintro ⟨⟨d,s,o⟩,h1,h2,h3⟩ cx hcx
  simp only at h1 h2 h3 ⊢
  cases d with
  | zero=>omega
  | succ d=>
   cases o with
   | nil=>exact roZ m to ty s [] rfl xe cx hcx (.inr ⟨by simp,by simp [rrK,rrE],by simp only [rrK,rrE,Bool.false_eq_true,if_false]; exact ⟨trivial,trivial,rfl⟩⟩)
   | cons x r=>
    have hb:=rl_bulk m x
    have hlen:=ruF_len m (rlD m x) ty
    have hr:=rlT m x oM
    have hu:=ruT m (rlD m x) ty oM oM
    simp only [List.length_cons] at h1
    have hsp:=rr_spec (m:=m) (to:=to) (ruF m (rlD m x) ty) s r (fun y hy=>ru_un hy)
    cases hf:rrA_f to (ruF m (rlD m x) ty) s r with
    | e0 p q=>
     refine roB m to ty s (x::r) _ (rlD m x) _ oM sM hr hu (fun xe=>Ob.loop_post (rz (rrA_lp m to ty _ s r oM oM xe oM s r oM) hf) ⟨⟨W,tVv⟩,trivial,rfl⟩) xe cx hcx (.inr ⟨by simp,?_,?_⟩)
     ·simp only [rrK,hf,rrE,if_true]
     ·simp only [rrK,hf,rrE,if_true]
      exact ⟨⟨W,tVv⟩,trivial,rfl⟩
    | e1 s1 o1=>
     rw [hf] at hsp
     obtain ⟨-,-,-,-,-,h6,h7⟩:=hsp
     refine roC m to ty s (x::r) _ (rlD m x) _ s1 o1 oM sM hr hu (fun xe=>Ob.loop_post (rz (rrA_lp m to ty _ s r oM oM xe oM s r oM) hf) ⟨⟨W,W,W,W,W,tVv⟩,⟨WLs.refl _,tVv⟩,rfl⟩) xe cx hcx (.inl ⟨rfl,⟨(d,s1,o1),by simp only; omega,by simp only; omega,by simp only; omega⟩,Nat.lt_succ_self _,⟨⟨W,W,W,W,W,tVv⟩,⟨WLs.refl _,tVv⟩,rfl⟩,?_⟩)
     simp only [rrK,hf]
theorem rrT1(m:Mo)(fr to:BA)(ty:Bool)(hl:∀xe,(Ob.loop 67 (loopF f26 0) ⟨[(2,.v (.str to)),(3,.v (.bool ty)),(4,.lp 4 0),(9,.uniq 9 1 []),(10,.full 1 [[.str fr]])],[(4,moV m)],xe⟩ .ret ⟨[(8,.v (.bool true))],[],xe⟩).ok prog):Pu 26 [.agg (moL m),.str fr,.str to,.bool ty] (rB true):=
 pu mdL (fun e=>[lp (S.mk [(2,vS to),(3,.v (.bool ty)),(4,.lp 4 0),(9,.v .nilsl),(10,LV.full 1 [[.str fr]])] [(4,moV m)] e) (@hl e) ⟨⟨W,W,W,Wq,W,tVv⟩,⟨⟨W,W,W,W,W,W,tVv⟩,tVv⟩,rfl⟩]) func26
theorem rrT2(m:Mo)(fr to:BA)(ty:Bool)(hl:∀xe,(Ob.loop 67 (loopF f26 0) ⟨[(2,.v (.str to)),(3,.v (.bool ty)),(4,.lp 4 0),(9,.uniq 9 1 []),(10,.full 1 [[.str fr]])],[(4,moV m)],xe⟩ (.exit 0) ⟨[],[],xe⟩).ok prog):Pu 26 [.agg (moL m),.str fr,.str to,.bool ty] (rB false):=
 pu mdL (fun e=>[lp (S.mk [(2,vS to),(3,.v (.bool ty)),(4,.lp 4 0),(9,.v .nilsl),(10,LV.full 1 [[.str fr]])] [(4,moV m)] e) (@hl e) ⟨⟨W,W,W,Wq,W,tVv⟩,⟨⟨W,W,W,W,W,W,tVv⟩,tVv⟩,rfl⟩]) func26
def rrF(m:Mo)(fr to:BA)(ty:Bool):Bool:=rrK m to ty (2 * (moF m).length+2) [] [fr]
theorem rrT(m:Mo)(fr to:BA)(ty:Bool)(hs:bulkPs (moL m)<=2000000):Pu 26 [.agg (moL m),.str fr,.str to,.bool ty] (.ret (.bool (rrF m fr to ty))):=by
 have h1:=cU_le m []
 have h2:=moF_len m
 have hl:=fun xe=>rr_loop m to ty hs xe (2 * (moF m).length+2) [] [fr] (by simp only [List.length_cons,List.length_nil]; omega) (by simp only [List.length_nil]; omega) oM
 unfold rrF
 cases hb:rrK m to ty (2 * (moF m).length+2) [] [fr] with
 | true=>
  simp only [hb,rrE,if_true] at hl
  exact rrT1 m fr to ty fun xe=>loop_pre (hl xe) ⟨⟨W,W,W,W,.inr ⟨rfl,rfl⟩,tVv⟩,⟨WLs.refl _,tVv⟩,rfl⟩
 | false=>
  simp only [hb,rrE,Bool.false_eq_true,if_false] at hl
  exact rrT2 m fr to ty fun xe=>loop_pre (hl xe) ⟨⟨W,W,W,W,.inr ⟨rfl,rfl⟩,tVv⟩,⟨WLs.refl _,tVv⟩,rfl⟩
theorem Df.cs_pl(l:List Df)(x:Df):Df.cs (l++[dfPl x])=Df.cs l++[[.str (dfNm x),.sl 1 (nmsC (dfP x)),.int .i64 (exO (dfB x)),.str (exNm (dfB x)),.int .i64 (exN (dfB x)),.sl 7 (Ex.cs (exK (dfB x))),.sl 10 (Pm.cs (exP (dfB x))),.sl 9 (Al.cs (exA (dfB x))),.sl 9 (Tp.cs (exT (dfB x))),.int .i64 0,.bool (dfTy x),.sl 1 (nmsC (dfVs x)),.sl 2 (Vr.cs (dfNe x)),.sl 2 (Vr.cs (dfAb x)),.sl 10 (Bo.cs (dfBo x)),.int .i64 (tpO (dfT x)),.str (tpNm (dfT x)),.sl 9 (Tp.cs (tpA (dfT x))),.sl 1 (nmsC (tpNs (dfT x))),.int .i64 (prO (tpP (dfT x))),.str (prNm (tpP (dfT x))),.int .i64 (prN (tpP (dfT x))),.sl 4 (Pr.cs (prK (tpP (dfT x)))),.sl 4 (Pr.cs (tpPs (dfT x))),.sl 4 (Pr.cs (dfMe x))]]:=by rw [Df.cs_snoc]; rfl
abbrev roA_I(m:Mo)(nm:BA)(d:Df)(j:Int)(out:List Df)(e:Ext):S:=S.mk [(1,vS nm),(2,.lp 2 0),(4,.lp 4 0),(7,.lp 7 0),(8,vI6 j)] [(2,moV m),(4,[.v .nilsl,.v .nilsl,.v .nilsl,.v .nilsl,.v .nilsl,.v .nilsl]),(7,[vL 4 (Da.cs (moD m)),vL 3 (Cl.cs (moC m)),vL 12 (In.cs (moI m)),vL 8 (Ms.cs (moM m)),vL 6 (Qu.cs (moQ m)),.uniq 52 25 (Df.cs out)])] e
def roA_f(m:Mo)(nm:BA):List Df->(List Df)->(List Df)
 | [],out=>(out)
 | el::r,out=>(if dfNm el=nm then (if dfM el=2 then (if rrF m (dfNm el) (dfNm el) false=true then roA_f m nm r (out++[dfPl el]) else roA_f m nm r (out++[el])) else roA_f m nm r (out++[el])) else (if rrF m nm (dfNm el) true=true then (if dfM el=2 then (if rrF m (dfNm el) nm true=true then (if rrF m (dfNm el) (dfNm el) false=true then roA_f m nm r (out++[dfPl el]) else roA_f m nm r (out++[el])) else roA_f m nm r (out++[el])) else roA_f m nm r (out++[el])) else (if dfM el=2 then roA_f m nm r (out++[el]) else roA_f m nm r (out++[el]))))
def roA_q(m:Mo)(nm:BA)(d:Df)(e:Ext)(p:(List Df)):PExit × S:=(.exit 0,S.mk [(1,vS nm),(2,.lp 2 0),(4,.lp 4 0),(7,.lp 7 0)] [(2,moV m),(4,[.v .nilsl,.v .nilsl,.v .nilsl,.v .nilsl,.v .nilsl,.v .nilsl]),(7,[vL 4 (Da.cs (moD m)),vL 3 (Cl.cs (moC m)),vL 12 (In.cs (moI m)),vL 8 (Ms.cs (moM m)),vL 6 (Qu.cs (moQ m)),.uniq 52 25 (Df.cs p)])] e)
theorem roA(m:Mo)(nm:BA)(d:Df)(hs:bulkPs (moL m)<=2000000)(hrf:Pu 25 [.agg (moL m),.str nm] (.ret (.tup [.agg (dfL d),.bool true])))(out:List Df)(e:Ext)(hN:(moF m).length<=1000000000)(hv:List.length out<=0):(Ob.loop 74 (loopF f9 0) (roA_I m nm d 0 out e) (roA_q m nm d e (roA_f m nm ((moF m))  out)).1 (roA_q m nm d e (roA_f m nm ((moF m))  out)).2).ok prog:=by
 refine rng ((moF m).length) (fun j out=>roA_I m nm d j out e) (fun i out=>roA_f m nm (List.drop i ((moF m)))  out) (roA_q m nm d e) (fun i out=>(out.length<=i)) kR ?_ out (by first | exact hv | omega)
 rintro i out hi hv
 try simp only at hv
 rcases Nat.lt_or_ge i ((moF m).length) with hlt | hge
 ·have hd:=drop_at hlt
  refine t0 ?_;refine tp [sl (Df.cs_len (moF m)),rgDf hlt] ?_;by_cases h0:dfNm (List.getD (moF m) i default)=nm
  ·refine tp [rp 8 (bt (ByteArray.toList (dfNm (List.getD (moF m) i default))==ByteArray.toList nm) (bsT h0))] ?_;by_cases h1:dfM (List.getD (moF m) i default)=2
   ·refine tp [rp 2 (et1 h1),rp 6 (bt true),cl (@rrT m (dfNm (List.getD (moF m) i default)) (dfNm (List.getD (moF m) i default)) false hs),bt true] ?_;by_cases h2:rrF m (dfNm (List.getD (moF m) i default)) (dfNm (List.getD (moF m) i default)) false=true
    ·exact tS mdL [bt1 h2,am (List.length (Df.cs out++[[.str (dfNm (List.getD (moF m) i default)),.sl 1 (nmsC (dfP (List.getD (moF m) i default))),pI (exO (dfB (List.getD (moF m) i default))),.str (exNm (dfB (List.getD (moF m) i default))),pI (exN (dfB (List.getD (moF m) i default))),.sl 7 (Ex.cs (exK (dfB (List.getD (moF m) i default)))),.sl 10 (Pm.cs (exP (dfB (List.getD (moF m) i default)))),.sl 9 (Al.cs (exA (dfB (List.getD (moF m) i default)))),.sl 9 (Tp.cs (exT (dfB (List.getD (moF m) i default)))),pI 0,.bool (dfTy (List.getD (moF m) i default)),.sl 1 (nmsC (dfVs (List.getD (moF m) i default))),.sl 2 (Vr.cs (dfNe (List.getD (moF m) i default))),.sl 2 (Vr.cs (dfAb (List.getD (moF m) i default))),.sl 10 (Bo.cs (dfBo (List.getD (moF m) i default))),pI (tpO (dfT (List.getD (moF m) i default))),.str (tpNm (dfT (List.getD (moF m) i default))),.sl 9 (Tp.cs (tpA (dfT (List.getD (moF m) i default)))),.sl 1 (nmsC (tpNs (dfT (List.getD (moF m) i default)))),pI (prO (tpP (dfT (List.getD (moF m) i default)))),.str (prNm (tpP (dfT (List.getD (moF m) i default)))),pI (prN (tpP (dfT (List.getD (moF m) i default)))),.sl 4 (Pr.cs (prK (tpP (dfT (List.getD (moF m) i default))))),.sl 4 (Pr.cs (tpPs (dfT (List.getD (moF m) i default)))),.sl 4 (Pr.cs (dfMe (List.getD (moF m) i default)))]]) * (455+1)<=140737488355328) (by (simp only [List.length_append,List.length_cons,List.length_nil,nmsC_len,Pr.cs_len,Tp.cs_len,Pm.cs_len,Ex.cs_len,Al.cs_len,Vr.cs_len,Bo.cs_len,Df.cs_len]; omega)),wr ((i:Int)+1)] [1,2,4,7,8] [2,4,7] hlt (out++[dfPl (List.getD (moF m) i default)]) (S.mk [(1,vS nm),(2,.lp 2 0),(4,.lp 4 0),(7,.lp 7 0),(8,vI6 ((i:Int)+1))] [(2,moV m),(4,[.v .nilsl,.v .nilsl,.v .nilsl,.v .nilsl,.v .nilsl,.v .nilsl]),(7,[vL 4 (Da.cs (moD m)),vL 3 (Cl.cs (moC m)),vL 12 (In.cs (moI m)),vL 8 (Ms.cs (moM m)),vL 6 (Qu.cs (moQ m)),.uniq 52 25 (Df.cs out++[[PV.str (dfNm (List.getD (moF m) i default)),.sl 1 (nmsC (dfP (List.getD (moF m) i default))),pI (exO (dfB (List.getD (moF m) i default))),.str (exNm (dfB (List.getD (moF m) i default))),pI (exN (dfB (List.getD (moF m) i default))),.sl 7 (Ex.cs (exK (dfB (List.getD (moF m) i default)))),.sl 10 (Pm.cs (exP (dfB (List.getD (moF m) i default)))),.sl 9 (Al.cs (exA (dfB (List.getD (moF m) i default)))),.sl 9 (Tp.cs (exT (dfB (List.getD (moF m) i default)))),pI 0,.bool (dfTy (List.getD (moF m) i default)),.sl 1 (nmsC (dfVs (List.getD (moF m) i default))),.sl 2 (Vr.cs (dfNe (List.getD (moF m) i default))),.sl 2 (Vr.cs (dfAb (List.getD (moF m) i default))),.sl 10 (Bo.cs (dfBo (List.getD (moF m) i default))),pI (tpO (dfT (List.getD (moF m) i default))),.str (tpNm (dfT (List.getD (moF m) i default))),.sl 9 (Tp.cs (tpA (dfT (List.getD (moF m) i default)))),.sl 1 (nmsC (tpNs (dfT (List.getD (moF m) i default)))),pI (prO (tpP (dfT (List.getD (moF m) i default)))),.str (prNm (tpP (dfT (List.getD (moF m) i default)))),pI (prN (tpP (dfT (List.getD (moF m) i default)))),.sl 4 (Pr.cs (prK (tpP (dfT (List.getD (moF m) i default))))),.sl 4 (Pr.cs (tpPs (dfT (List.getD (moF m) i default)))),.sl 4 (Pr.cs (dfMe (List.getD (moF m) i default)))]])])] e) ⟨⟨W,W,W,W,W,tVv⟩,⟨Ws,Ws,⟨W,W,W,W,W,(.inl (by first | (simp only [List.nil_append,nmsC_app,nmsC_snoc,Pr.cs_snoc,Tp.cs_snoc,Ex.cs_snoc,Vr.cs_snoc,Df.cs_snoc,Df.cs_pl]; done) | (simp only [List.nil_append,nmsC_app,nmsC_snoc,Pr.cs_snoc,Tp.cs_snoc,Ex.cs_snoc,Vr.cs_snoc,Df.cs_snoc,Df.cs_pl]; rfl))),tVv⟩,tVv⟩,rfl⟩ (by first | assumption | omega | (apply gDf <;> first | assumption | omega | decide) | (simp only [List.length_append,List.length_cons,List.length_nil] at *; omega) | simp_all) (by rw [hd,roA_f,iP h0,iP h1,iP h2])
    ·exact tS mdL [bf1 (bFT h2),am (List.length (Df.cs out++[dfL (List.getD (moF m) i default)]) * (455+1)<=140737488355328) (by (simp only [List.length_append,List.length_cons,List.length_nil,nmsC_len,Pr.cs_len,Tp.cs_len,Pm.cs_len,Ex.cs_len,Al.cs_len,Vr.cs_len,Bo.cs_len,Df.cs_len]; omega)),wr ((i:Int)+1)] [1,2,4,7,8] [2,4,7] hlt (out++[List.getD (moF m) i default]) (S.mk [(1,vS nm),(2,.lp 2 0),(4,.lp 4 0),(7,.lp 7 0),(8,vI6 ((i:Int)+1))] [(2,moV m),(4,[.v .nilsl,.v .nilsl,.v .nilsl,.v .nilsl,.v .nilsl,.v .nilsl]),(7,[vL 4 (Da.cs (moD m)),vL 3 (Cl.cs (moC m)),vL 12 (In.cs (moI m)),vL 8 (Ms.cs (moM m)),vL 6 (Qu.cs (moQ m)),.uniq 52 25 (Df.cs out++[dfL (List.getD (moF m) i default)])])] e) ⟨⟨W,W,W,W,W,tVv⟩,⟨Ws,Ws,⟨W,W,W,W,W,(.inl (by first | (simp only [List.nil_append,nmsC_app,nmsC_snoc,Pr.cs_snoc,Tp.cs_snoc,Ex.cs_snoc,Vr.cs_snoc,Df.cs_snoc,Df.cs_pl]; done) | (simp only [List.nil_append,nmsC_app,nmsC_snoc,Pr.cs_snoc,Tp.cs_snoc,Ex.cs_snoc,Vr.cs_snoc,Df.cs_snoc,Df.cs_pl]; rfl))),tVv⟩,tVv⟩,rfl⟩ (by first | assumption | omega | (apply gDf <;> first | assumption | omega | decide) | (simp only [List.length_append,List.length_cons,List.length_nil] at *; omega) | simp_all) (by rw [hd,roA_f,iP h0,iP h1,iN h2])
   ·exact tS mdL [rp 2 (en1 h1),rp 8 (bf false),am (List.length (Df.cs out++[dfL (List.getD (moF m) i default)]) * (455+1)<=140737488355328) (by (simp only [List.length_append,List.length_cons,List.length_nil,nmsC_len,Pr.cs_len,Tp.cs_len,Pm.cs_len,Ex.cs_len,Al.cs_len,Vr.cs_len,Bo.cs_len,Df.cs_len]; omega)),wr ((i:Int)+1)] [1,2,4,7,8] [2,4,7] hlt (out++[List.getD (moF m) i default]) (S.mk [(1,vS nm),(2,.lp 2 0),(4,.lp 4 0),(7,.lp 7 0),(8,vI6 ((i:Int)+1))] [(2,moV m),(4,[.v .nilsl,.v .nilsl,.v .nilsl,.v .nilsl,.v .nilsl,.v .nilsl]),(7,[vL 4 (Da.cs (moD m)),vL 3 (Cl.cs (moC m)),vL 12 (In.cs (moI m)),vL 8 (Ms.cs (moM m)),vL 6 (Qu.cs (moQ m)),.uniq 52 25 (Df.cs out++[dfL (List.getD (moF m) i default)])])] e) ⟨⟨W,W,W,W,W,tVv⟩,⟨Ws,Ws,⟨W,W,W,W,W,(.inl (by first | (simp only [List.nil_append,nmsC_app,nmsC_snoc,Pr.cs_snoc,Tp.cs_snoc,Ex.cs_snoc,Vr.cs_snoc,Df.cs_snoc,Df.cs_pl]; done) | (simp only [List.nil_append,nmsC_app,nmsC_snoc,Pr.cs_snoc,Tp.cs_snoc,Ex.cs_snoc,Vr.cs_snoc,Df.cs_snoc,Df.cs_pl]; rfl))),tVv⟩,tVv⟩,rfl⟩ (by first | assumption | omega | (apply gDf <;> first | assumption | omega | decide) | (simp only [List.length_append,List.length_cons,List.length_nil] at *; omega) | simp_all) (by rw [hd,roA_f,iP h0,iN h1])
  ·refine tp [rp 5 (bf (ByteArray.toList (dfNm (List.getD (moF m) i default))==ByteArray.toList nm) (bsF h0)),cl (@rrT m nm (dfNm (List.getD (moF m) i default)) true hs),bf (ByteArray.toList (dfNm (List.getD (moF m) i default))==ByteArray.toList nm) (bsF h0)] ?_;by_cases h1:rrF m nm (dfNm (List.getD (moF m) i default)) true=true
   ·refine tp [rp 5 (bt1 h1),cl (@rrT m (dfNm (List.getD (moF m) i default)) nm true hs),bf (ByteArray.toList (dfNm (List.getD (moF m) i default))==ByteArray.toList nm) (bsF h0),bt1 h1,bf (ByteArray.toList (dfNm (List.getD (moF m) i default))==ByteArray.toList nm) (bsF h0)] ?_;by_cases h2:dfM (List.getD (moF m) i default)=2
    ·refine tp [rp 2 (et1 h2)] ?_;by_cases h3:rrF m (dfNm (List.getD (moF m) i default)) nm true=true
     ·refine tp [rp 6 (bt1 h3),cl (@rrT m (dfNm (List.getD (moF m) i default)) (dfNm (List.getD (moF m) i default)) false hs),bt1 h3] ?_;by_cases h4:rrF m (dfNm (List.getD (moF m) i default)) (dfNm (List.getD (moF m) i default)) false=true
      ·exact tS mdL [bt1 h4,am (List.length (Df.cs out++[[.str (dfNm (List.getD (moF m) i default)),.sl 1 (nmsC (dfP (List.getD (moF m) i default))),pI (exO (dfB (List.getD (moF m) i default))),.str (exNm (dfB (List.getD (moF m) i default))),pI (exN (dfB (List.getD (moF m) i default))),.sl 7 (Ex.cs (exK (dfB (List.getD (moF m) i default)))),.sl 10 (Pm.cs (exP (dfB (List.getD (moF m) i default)))),.sl 9 (Al.cs (exA (dfB (List.getD (moF m) i default)))),.sl 9 (Tp.cs (exT (dfB (List.getD (moF m) i default)))),pI 0,.bool (dfTy (List.getD (moF m) i default)),.sl 1 (nmsC (dfVs (List.getD (moF m) i default))),.sl 2 (Vr.cs (dfNe (List.getD (moF m) i default))),.sl 2 (Vr.cs (dfAb (List.getD (moF m) i default))),.sl 10 (Bo.cs (dfBo (List.getD (moF m) i default))),pI (tpO (dfT (List.getD (moF m) i default))),.str (tpNm (dfT (List.getD (moF m) i default))),.sl 9 (Tp.cs (tpA (dfT (List.getD (moF m) i default)))),.sl 1 (nmsC (tpNs (dfT (List.getD (moF m) i default)))),pI (prO (tpP (dfT (List.getD (moF m) i default)))),.str (prNm (tpP (dfT (List.getD (moF m) i default)))),pI (prN (tpP (dfT (List.getD (moF m) i default)))),.sl 4 (Pr.cs (prK (tpP (dfT (List.getD (moF m) i default))))),.sl 4 (Pr.cs (tpPs (dfT (List.getD (moF m) i default)))),.sl 4 (Pr.cs (dfMe (List.getD (moF m) i default)))]]) * (455+1)<=140737488355328) (by (simp only [List.length_append,List.length_cons,List.length_nil,nmsC_len,Pr.cs_len,Tp.cs_len,Pm.cs_len,Ex.cs_len,Al.cs_len,Vr.cs_len,Bo.cs_len,Df.cs_len]; omega)),wr ((i:Int)+1)] [1,2,4,7,8] [2,4,7] hlt (out++[dfPl (List.getD (moF m) i default)]) (S.mk [(1,vS nm),(2,.lp 2 0),(4,.lp 4 0),(7,.lp 7 0),(8,vI6 ((i:Int)+1))] [(2,moV m),(4,[.v .nilsl,.v .nilsl,.v .nilsl,.v .nilsl,.v .nilsl,.v .nilsl]),(7,[vL 4 (Da.cs (moD m)),vL 3 (Cl.cs (moC m)),vL 12 (In.cs (moI m)),vL 8 (Ms.cs (moM m)),vL 6 (Qu.cs (moQ m)),.uniq 52 25 (Df.cs out++[[PV.str (dfNm (List.getD (moF m) i default)),.sl 1 (nmsC (dfP (List.getD (moF m) i default))),pI (exO (dfB (List.getD (moF m) i default))),.str (exNm (dfB (List.getD (moF m) i default))),pI (exN (dfB (List.getD (moF m) i default))),.sl 7 (Ex.cs (exK (dfB (List.getD (moF m) i default)))),.sl 10 (Pm.cs (exP (dfB (List.getD (moF m) i default)))),.sl 9 (Al.cs (exA (dfB (List.getD (moF m) i default)))),.sl 9 (Tp.cs (exT (dfB (List.getD (moF m) i default)))),pI 0,.bool (dfTy (List.getD (moF m) i default)),.sl 1 (nmsC (dfVs (List.getD (moF m) i default))),.sl 2 (Vr.cs (dfNe (List.getD (moF m) i default))),.sl 2 (Vr.cs (dfAb (List.getD (moF m) i default))),.sl 10 (Bo.cs (dfBo (List.getD (moF m) i default))),pI (tpO (dfT (List.getD (moF m) i default))),.str (tpNm (dfT (List.getD (moF m) i default))),.sl 9 (Tp.cs (tpA (dfT (List.getD (moF m) i default)))),.sl 1 (nmsC (tpNs (dfT (List.getD (moF m) i default)))),pI (prO (tpP (dfT (List.getD (moF m) i default)))),.str (prNm (tpP (dfT (List.getD (moF m) i default)))),pI (prN (tpP (dfT (List.getD (moF m) i default)))),.sl 4 (Pr.cs (prK (tpP (dfT (List.getD (moF m) i default))))),.sl 4 (Pr.cs (tpPs (dfT (List.getD (moF m) i default)))),.sl 4 (Pr.cs (dfMe (List.getD (moF m) i default)))]])])] e) ⟨⟨W,W,W,W,W,tVv⟩,⟨Ws,Ws,⟨W,W,W,W,W,(.inl (by first | (simp only [List.nil_append,nmsC_app,nmsC_snoc,Pr.cs_snoc,Tp.cs_snoc,Ex.cs_snoc,Vr.cs_snoc,Df.cs_snoc,Df.cs_pl]; done) | (simp only [List.nil_append,nmsC_app,nmsC_snoc,Pr.cs_snoc,Tp.cs_snoc,Ex.cs_snoc,Vr.cs_snoc,Df.cs_snoc,Df.cs_pl]; rfl))),tVv⟩,tVv⟩,rfl⟩ (by first | assumption | omega | (apply gDf <;> first | assumption | omega | decide) | (simp only [List.length_append,List.length_cons,List.length_nil] at *; omega) | simp_all) (by rw [hd,roA_f,iN h0,iP h1,iP h2,iP h3,iP h4])
      ·exact tS mdL [bf1 (bFT h4),am (List.length (Df.cs out++[dfL (List.getD (moF m) i default)]) * (455+1)<=140737488355328) (by (simp only [List.length_append,List.length_cons,List.length_nil,nmsC_len,Pr.cs_len,Tp.cs_len,Pm.cs_len,Ex.cs_len,Al.cs_len,Vr.cs_len,Bo.cs_len,Df.cs_len]; omega)),wr ((i:Int)+1)] [1,2,4,7,8] [2,4,7] hlt (out++[List.getD (moF m) i default]) (S.mk [(1,vS nm),(2,.lp 2 0),(4,.lp 4 0),(7,.lp 7 0),(8,vI6 ((i:Int)+1))] [(2,moV m),(4,[.v .nilsl,.v .nilsl,.v .nilsl,.v .nilsl,.v .nilsl,.v .nilsl]),(7,[vL 4 (Da.cs (moD m)),vL 3 (Cl.cs (moC m)),vL 12 (In.cs (moI m)),vL 8 (Ms.cs (moM m)),vL 6 (Qu.cs (moQ m)),.uniq 52 25 (Df.cs out++[dfL (List.getD (moF m) i default)])])] e) ⟨⟨W,W,W,W,W,tVv⟩,⟨Ws,Ws,⟨W,W,W,W,W,(.inl (by first | (simp only [List.nil_append,nmsC_app,nmsC_snoc,Pr.cs_snoc,Tp.cs_snoc,Ex.cs_snoc,Vr.cs_snoc,Df.cs_snoc,Df.cs_pl]; done) | (simp only [List.nil_append,nmsC_app,nmsC_snoc,Pr.cs_snoc,Tp.cs_snoc,Ex.cs_snoc,Vr.cs_snoc,Df.cs_snoc,Df.cs_pl]; rfl))),tVv⟩,tVv⟩,rfl⟩ (by first | assumption | omega | (apply gDf <;> first | assumption | omega | decide) | (simp only [List.length_append,List.length_cons,List.length_nil] at *; omega) | simp_all) (by rw [hd,roA_f,iN h0,iP h1,iP h2,iP h3,iN h4])
     ·exact tS mdL [rp 7 (bf1 (bFT h3)),bf false,am (List.length (Df.cs out++[dfL (List.getD (moF m) i default)]) * (455+1)<=140737488355328) (by (simp only [List.length_append,List.length_cons,List.length_nil,nmsC_len,Pr.cs_len,Tp.cs_len,Pm.cs_len,Ex.cs_len,Al.cs_len,Vr.cs_len,Bo.cs_len,Df.cs_len]; omega)),wr ((i:Int)+1)] [1,2,4,7,8] [2,4,7] hlt (out++[List.getD (moF m) i default]) (S.mk [(1,vS nm),(2,.lp 2 0),(4,.lp 4 0),(7,.lp 7 0),(8,vI6 ((i:Int)+1))] [(2,moV m),(4,[.v .nilsl,.v .nilsl,.v .nilsl,.v .nilsl,.v .nilsl,.v .nilsl]),(7,[vL 4 (Da.cs (moD m)),vL 3 (Cl.cs (moC m)),vL 12 (In.cs (moI m)),vL 8 (Ms.cs (moM m)),vL 6 (Qu.cs (moQ m)),.uniq 52 25 (Df.cs out++[dfL (List.getD (moF m) i default)])])] e) ⟨⟨W,W,W,W,W,tVv⟩,⟨Ws,Ws,⟨W,W,W,W,W,(.inl (by first | (simp only [List.nil_append,nmsC_app,nmsC_snoc,Pr.cs_snoc,Tp.cs_snoc,Ex.cs_snoc,Vr.cs_snoc,Df.cs_snoc,Df.cs_pl]; done) | (simp only [List.nil_append,nmsC_app,nmsC_snoc,Pr.cs_snoc,Tp.cs_snoc,Ex.cs_snoc,Vr.cs_snoc,Df.cs_snoc,Df.cs_pl]; rfl))),tVv⟩,tVv⟩,rfl⟩ (by first | assumption | omega | (apply gDf <;> first | assumption | omega | decide) | (simp only [List.length_append,List.length_cons,List.length_nil] at *; omega) | simp_all) (by rw [hd,roA_f,iN h0,iP h1,iP h2,iN h3])
    ·exact tS mdL [rp 2 (en1 h2),rp 8 (bf false),am (List.length (Df.cs out++[dfL (List.getD (moF m) i default)]) * (455+1)<=140737488355328) (by (simp only [List.length_append,List.length_cons,List.length_nil,nmsC_len,Pr.cs_len,Tp.cs_len,Pm.cs_len,Ex.cs_len,Al.cs_len,Vr.cs_len,Bo.cs_len,Df.cs_len]; omega)),wr ((i:Int)+1)] [1,2,4,7,8] [2,4,7] hlt (out++[List.getD (moF m) i default]) (S.mk [(1,vS nm),(2,.lp 2 0),(4,.lp 4 0),(7,.lp 7 0),(8,vI6 ((i:Int)+1))] [(2,moV m),(4,[.v .nilsl,.v .nilsl,.v .nilsl,.v .nilsl,.v .nilsl,.v .nilsl]),(7,[vL 4 (Da.cs (moD m)),vL 3 (Cl.cs (moC m)),vL 12 (In.cs (moI m)),vL 8 (Ms.cs (moM m)),vL 6 (Qu.cs (moQ m)),.uniq 52 25 (Df.cs out++[dfL (List.getD (moF m) i default)])])] e) ⟨⟨W,W,W,W,W,tVv⟩,⟨Ws,Ws,⟨W,W,W,W,W,(.inl (by first | (simp only [List.nil_append,nmsC_app,nmsC_snoc,Pr.cs_snoc,Tp.cs_snoc,Ex.cs_snoc,Vr.cs_snoc,Df.cs_snoc,Df.cs_pl]; done) | (simp only [List.nil_append,nmsC_app,nmsC_snoc,Pr.cs_snoc,Tp.cs_snoc,Ex.cs_snoc,Vr.cs_snoc,Df.cs_snoc,Df.cs_pl]; rfl))),tVv⟩,tVv⟩,rfl⟩ (by first | assumption | omega | (apply gDf <;> first | assumption | omega | decide) | (simp only [List.length_append,List.length_cons,List.length_nil] at *; omega) | simp_all) (by rw [hd,roA_f,iN h0,iP h1,iN h2])
   ·refine tp [rp 5 (bf1 (bFT h1)),bf (ByteArray.toList (dfNm (List.getD (moF m) i default))==ByteArray.toList nm) (bsF h0),bf1 (bFT h1),bf (ByteArray.toList (dfNm (List.getD (moF m) i default))==ByteArray.toList nm) (bsF h0)] ?_;by_cases h2:dfM (List.getD (moF m) i default)=2
    ·exact tS mdL [rp 2 (et1 h2),rp 8 (bf false),am (List.length (Df.cs out++[dfL (List.getD (moF m) i default)]) * (455+1)<=140737488355328) (by (simp only [List.length_append,List.length_cons,List.length_nil,nmsC_len,Pr.cs_len,Tp.cs_len,Pm.cs_len,Ex.cs_len,Al.cs_len,Vr.cs_len,Bo.cs_len,Df.cs_len]; omega)),wr ((i:Int)+1)] [1,2,4,7,8] [2,4,7] hlt (out++[List.getD (moF m) i default]) (S.mk [(1,vS nm),(2,.lp 2 0),(4,.lp 4 0),(7,.lp 7 0),(8,vI6 ((i:Int)+1))] [(2,moV m),(4,[.v .nilsl,.v .nilsl,.v .nilsl,.v .nilsl,.v .nilsl,.v .nilsl]),(7,[vL 4 (Da.cs (moD m)),vL 3 (Cl.cs (moC m)),vL 12 (In.cs (moI m)),vL 8 (Ms.cs (moM m)),vL 6 (Qu.cs (moQ m)),.uniq 52 25 (Df.cs out++[dfL (List.getD (moF m) i default)])])] e) ⟨⟨W,W,W,W,W,tVv⟩,⟨Ws,Ws,⟨W,W,W,W,W,(.inl (by first | (simp only [List.nil_append,nmsC_app,nmsC_snoc,Pr.cs_snoc,Tp.cs_snoc,Ex.cs_snoc,Vr.cs_snoc,Df.cs_snoc,Df.cs_pl]; done) | (simp only [List.nil_append,nmsC_app,nmsC_snoc,Pr.cs_snoc,Tp.cs_snoc,Ex.cs_snoc,Vr.cs_snoc,Df.cs_snoc,Df.cs_pl]; rfl))),tVv⟩,tVv⟩,rfl⟩ (by first | assumption | omega | (apply gDf <;> first | assumption | omega | decide) | (simp only [List.length_append,List.length_cons,List.length_nil] at *; omega) | simp_all) (by rw [hd,roA_f,iN h0,iN h1,iP h2])
    ·exact tS mdL [rp 2 (en1 h2),rp 8 (bf false),am (List.length (Df.cs out++[dfL (List.getD (moF m) i default)]) * (455+1)<=140737488355328) (by (simp only [List.length_append,List.length_cons,List.length_nil,nmsC_len,Pr.cs_len,Tp.cs_len,Pm.cs_len,Ex.cs_len,Al.cs_len,Vr.cs_len,Bo.cs_len,Df.cs_len]; omega)),wr ((i:Int)+1)] [1,2,4,7,8] [2,4,7] hlt (out++[List.getD (moF m) i default]) (S.mk [(1,vS nm),(2,.lp 2 0),(4,.lp 4 0),(7,.lp 7 0),(8,vI6 ((i:Int)+1))] [(2,moV m),(4,[.v .nilsl,.v .nilsl,.v .nilsl,.v .nilsl,.v .nilsl,.v .nilsl]),(7,[vL 4 (Da.cs (moD m)),vL 3 (Cl.cs (moC m)),vL 12 (In.cs (moI m)),vL 8 (Ms.cs (moM m)),vL 6 (Qu.cs (moQ m)),.uniq 52 25 (Df.cs out++[dfL (List.getD (moF m) i default)])])] e) ⟨⟨W,W,W,W,W,tVv⟩,⟨Ws,Ws,⟨W,W,W,W,W,(.inl (by first | (simp only [List.nil_append,nmsC_app,nmsC_snoc,Pr.cs_snoc,Tp.cs_snoc,Ex.cs_snoc,Vr.cs_snoc,Df.cs_snoc,Df.cs_pl]; done) | (simp only [List.nil_append,nmsC_app,nmsC_snoc,Pr.cs_snoc,Tp.cs_snoc,Ex.cs_snoc,Vr.cs_snoc,Df.cs_snoc,Df.cs_pl]; rfl))),tVv⟩,tVv⟩,rfl⟩ (by first | assumption | omega | (apply gDf <;> first | assumption | omega | decide) | (simp only [List.length_append,List.length_cons,List.length_nil] at *; omega) | simp_all) (by rw [hd,roA_f,iN h0,iN h1,iN h2])
 ·have he:i=(moF m).length:=by omega
  exact lX mdL [sl (Df.cs_len (moF m)),df ((i:Int)<((moF m).length:Int))] (out) (by rw [he,List.drop_length,roA_f])
end Go.Proofs.YtaakmholhliodaaGreatDoor
