/- Values of Go as plain data, an evaluator over them, and what the functions of the program return; part Yn. -/
import Derived.Test.YtmllcplaohkjnaaGreatDoorYm
import Derived.Test.YtmllcplaohkjnaaGreatDoorYj
import Derived.Test.YtmllcplaohkjnaaGreatDoorYa
set_option linter.unusedSectionVars false
set_option linter.unusedSimpArgs false
set_option linter.unusedVariables false
namespace Go.Proofs.YtmllcplaohkjnaaGreatDoor
open Go.Proofs.Tryz
open Go.Pv Go.Proofs.Tryz
set_option maxRecDepth 100000
theorem A6g(m:Mo)(hs:A5 (DJ m)<=1048576):Sz m:=by
 have h0:=I2 m
 have w1:=fun {d} (h:d∈Aj m)=>Nat.le_trans (Da.mem h) (by omega:Af (Da.cs (Aj m))<=1048576)
 have w2:=fun {d} (h:d∈AA m)=>Nat.le_trans (Cl.mem h) (by omega:Af (Cl.cs (AA m))<=1048576)
 have e1:=Da.BF (Aj m)
 have e2:=Cl.BF (AA m)
 have e3:=Df.BF (AD m)
 exact ⟨by omega,fun c hc=>by have:=w2 hc; have:=Jh c; have:=Pm.BF (B9 c); omega,by omega,
  fun c hc p hp=>by have:=w2 hc; have:=Jh c; have:=Pm.mem hp; have:=Ja p; have:=DV (Co p); have:=Tp.BF (AP (Co p)); omega,
  by omega,fun c hc=>by have:=w1 hc; have:=KR c; have:=Cn.BF (AS c); omega⟩
end Go.Proofs.YtmllcplaohkjnaaGreatDoor
