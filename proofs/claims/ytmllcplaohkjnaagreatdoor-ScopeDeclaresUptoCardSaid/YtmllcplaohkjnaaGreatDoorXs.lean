/- Values of Go as plain data, an evaluator over them, and what the functions of the program return; part Xs. -/
import Derived.Shelf.Sort.Plain
import Derived.Shelf.Slices.In.SortNone
import Derived.Test.YtmllcplaohkjnaaGreatDoorProg
set_option linter.unusedVariables false
set_option linter.unusedSimpArgs false
set_option linter.unusedSectionVars false
namespace Go.Proofs
open Go.Shelf
def Tryz.Sb:Go.Shelf.Ren:=⟨fun | 190=>89 | 125=>133 | 258=>132 | 128=>185 | 129=>186 | 302=>176 | 303=>177 | 304=>178 | 305=>179 | 306=>180 | 307=>181 | 308=>182 | 309=>183 | 310=>184 | 333=>231 | 329=>232 | 330=>233 | 334=>234 | 335=>235 | 336=>236 | 344=>257 | n=>n,fun | 31=>34 | 9=>9 | 3=>3 | 46=>183 | 0=>0 | 51=>218 | 53=>220 | 4=>4 | 183=>211 | 182=>210 | 131=>58 | 5=>5 | 218=>245 | 222=>249 | 228=>265 | 229=>190 | n=>n,fun | n=>n⟩
theorem Tryz.UT:Go.Proofs.Lays.n190 Tryz.prog Tryz.Sb:={
 mixed:=by kernel_rfl
 f125:=Tryz.func133.trans (congrArg some (by kernel_rfl))
 f128:=Tryz.func185.trans (congrArg some (by kernel_rfl))
 f129:=Tryz.func186.trans (congrArg some (by kernel_rfl))
 f190:=Tryz.func89.trans (congrArg some (by kernel_rfl))
 f258:=Tryz.func132.trans (congrArg some (by kernel_rfl))
 f302:=Tryz.func176.trans (congrArg some (by kernel_rfl))
 f303:=Tryz.func177.trans (congrArg some (by kernel_rfl))
 f304:=Tryz.func178.trans (congrArg some (by kernel_rfl))
 f305:=Tryz.func179.trans (congrArg some (by kernel_rfl))
 f306:=Tryz.func180.trans (congrArg some (by kernel_rfl))
 f307:=Tryz.func181.trans (congrArg some (by kernel_rfl))
 f308:=Tryz.func182.trans (congrArg some (by kernel_rfl))
 f309:=Tryz.func183.trans (congrArg some (by kernel_rfl))
 f310:=Tryz.func184.trans (congrArg some (by kernel_rfl))
 f329:=Tryz.func232.trans (congrArg some (by kernel_rfl))
 f330:=Tryz.func233.trans (congrArg some (by kernel_rfl))
 f333:=Tryz.func231.trans (congrArg some (by kernel_rfl))
 f334:=Tryz.func234.trans (congrArg some (by kernel_rfl))
 f335:=Tryz.func235.trans (congrArg some (by kernel_rfl))
 f336:=Tryz.func236.trans (congrArg some (by kernel_rfl))
 f344:=Tryz.func257.trans (congrArg some (by kernel_rfl))
 t0:=Tryz.underlying0
 a0:=Tryz.isAgg0
 z0:=Tryz.sizeOf0
 v0:=Tryz.zeroValue0
 t3:=Tryz.underlying3
 a3:=Tryz.isAgg3
 z3:=Tryz.sizeOf3
 v3:=Tryz.zeroValue3
 t4:=Tryz.underlying4
 a4:=Tryz.isAgg4
 z4:=Tryz.sizeOf4
 v4:=Tryz.zeroValue4
 t5:=Tryz.underlying5
 a5:=Tryz.isAgg5
 z5:=Tryz.sizeOf5
 v5:=Tryz.zeroValue5
 t9:=Tryz.underlying9
 a9:=Tryz.isAgg9
 z9:=Tryz.sizeOf9
 v9:=Tryz.zeroValue9
 t31:=Tryz.underlying34
 a31:=Tryz.isAgg34
 z31:=Tryz.sizeOf34
 v31:=Tryz.zeroValue34
 t46:=Tryz.underlying183
 a46:=Tryz.isAgg183
 z46:=Tryz.sizeOf183
 v46:=Tryz.zeroValue183
 t51:=Tryz.underlying218
 a51:=Tryz.isAgg218
 z51:=Tryz.sizeOf218
 v51:=Tryz.zeroValue218
 t53:=Tryz.underlying220
 a53:=Tryz.isAgg220
 z53:=Tryz.sizeOf220
 v53:=Tryz.zeroValue220
 t131:=Tryz.underlying58
 a131:=Tryz.isAgg58
 z131:=Tryz.sizeOf58
 v131:=Tryz.zeroValue58
 t182:=Tryz.underlying210
 a182:=Tryz.isAgg210
 z182:=Tryz.sizeOf210
 v182:=Tryz.zeroValue210
 t183:=Tryz.underlying211
 a183:=Tryz.isAgg211
 z183:=Tryz.sizeOf211
 v183:=Tryz.zeroValue211
 t218:=Tryz.underlying245
 a218:=Tryz.isAgg245
 z218:=Tryz.sizeOf245
 v218:=Tryz.zeroValue245
 t222:=Tryz.underlying249
 a222:=Tryz.isAgg249
 z222:=Tryz.sizeOf249
 v222:=Tryz.zeroValue249
 t228:=Tryz.underlying265
 a228:=Tryz.isAgg265
 z228:=Tryz.sizeOf265
 v228:=Tryz.zeroValue265
 t229:=Tryz.underlying190
 a229:=Tryz.isAgg190
 z229:=Tryz.sizeOf190
 v229:=Tryz.zeroValue190 }
open Go.Sort Go.RowKit in
theorem Tryz.slices_Sort_string(Xl off cap:Nat)(ss:List (List UInt8))(w:World)(hH:Holds encStr w Xl off ss.toArray)(iM:Xl<w.heap.size)(Cb:ss.length<4611686018427387904) :
  Calls Tryz.prog 89 #[.slice (some ⟨Xl,off,none⟩) ss.length cap] w fun e w'=>
   e = .returned (.tuple #[])/\∃n os,w'=grow (putRow encStr (Sort.ahead w n) Xl off (ss.mergeSort fun x y=>decide (x<=y)).toArray) os:=Any.slices_Sort_string Tryz.UT Xl off cap ss w hH iM Cb
open Go.RowKit Go.Sort in
theorem Tryz.slices_Sort_string_none(p:Option Addr)(cap:Nat)(w:World) :
  Calls Tryz.prog 89 #[.slice p 0 cap] w fun e w'=>e = .returned (.tuple #[])/\w'=w:=Any.slices_Sort_string_none Tryz.UT p cap w
end Go.Proofs
