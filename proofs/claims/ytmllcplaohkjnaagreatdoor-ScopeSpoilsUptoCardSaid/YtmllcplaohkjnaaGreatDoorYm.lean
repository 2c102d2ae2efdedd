/- Values of Go as plain data, an evaluator over them, and what the functions of the program return; part Ym. -/
import Derived.Test.YtmllcplaohkjnaaGreatDoorYl
import Derived.Test.YtmllcplaohkjnaaGreatDoorYi
import Derived.Test.YtmllcplaohkjnaaGreatDoorYa
set_option linter.unusedSectionVars false
set_option linter.unusedSimpArgs false
set_option linter.unusedVariables false
namespace Go.Proofs.YtmllcplaohkjnaaGreatDoor
open Go.Proofs.Tryz
open Go.Pv Go.Proofs.Tryz
set_option maxRecDepth 100000
theorem dfs_perm{l l2:List Df}(h:l.Perm l2):bulkPss (Df.cs l)=bulkPss (Df.cs l2):=by
 induction h with
 | nil=>rfl
 | cons x _ ih=>simp only [Df.cs,bulkPss,ih]
 | swap x y l=>simp only [Df.cs,bulkPss]; omega
 | trans _ _ ih1 ih2=>exact ih1.trans ih2
def moW(m:Mo)(l:List Df):Mo := .mk (moD m) (moC m) (moI m) (moM m) (moQ m) l
theorem sz_ok(m:Mo)(hs:bulkPs (moL m)<=1048576):Sz m:=by
 have h0:=mo_bulk m
 have w1:=fun {d} (h:d∈moD m)=>Nat.le_trans (Da.mem h) (by omega:bulkPss (Da.cs (moD m))<=1048576)
 have w2:=fun {d} (h:d∈moC m)=>Nat.le_trans (Cl.mem h) (by omega:bulkPss (Cl.cs (moC m))<=1048576)
 have e1:=Da.bulk (moD m)
 have e2:=Cl.bulk (moC m)
 have e3:=Df.bulk (moF m)
 exact ⟨by omega,fun c hc=>by have:=w2 hc; have:=cl_bulk c; have:=Pm.bulk (clM c); omega,by omega,
  fun c hc p hp=>by have:=w2 hc; have:=cl_bulk c; have:=Pm.mem hp; have:=pm_bulk p; have:=tp_bulk (pmT p); have:=Tp.bulk (tpA (pmT p)); omega,
  by omega,fun c hc=>by have:=w1 hc; have:=da_bulk c; have:=Cn.bulk (daC c); omega⟩
theorem moL_W(m:Mo)(l:List Df):bulkPs (moL (moW m l))+bulkPss (Df.cs (moF m))=bulkPs (moL m)+bulkPss (Df.cs l):=by simp only [moW,moD,moC,moI,moM,moQ,moF,bulkPs,bulkP]; omega
end Go.Proofs.YtmllcplaohkjnaaGreatDoor
