/- Values of Go as plain data, an evaluator over them, and what the functions of the program return; part Xs. -/
import Derived.Shelf.Sort.Plain
import Derived.Shelf.Slices.In.SortNone
import Derived.Test.YtcflffbapgiicaaGreatDoorProg
set_option linter.unusedVariables false
set_option linter.unusedSimpArgs false
set_option linter.unusedSectionVars false
namespace Go.Proofs
open Go.Shelf
def Tryz.lays190_ren:Go.Shelf.Ren:=⟨fun | 190=>210 | 125=>267 | 258=>266 | 128=>341 | 129=>342 | 302=>332 | 303=>333 | 304=>334 | 305=>335 | 306=>336 | 307=>337 | 308=>338 | 309=>339 | 310=>340 | 333=>368 | 329=>369 | 330=>370 | 334=>371 | 335=>372 | 336=>373 | 344=>395 | n=>n,fun | 31=>30 | 9=>9 | 3=>3 | 46=>332 | 0=>0 | 51=>396 | 53=>398 | 4=>4 | 183=>389 | 182=>388 | 131=>224 | 5=>5 | 218=>415 | 222=>419 | 228=>438 | 229=>215 | n=>n,fun | n=>n⟩
theorem Tryz.lays190:Go.Proofs.Lays.n190 Tryz.prog Tryz.lays190_ren:={
 mixed:=by kernel_rfl
 f125:=Tryz.func267.trans (congrArg some (by kernel_rfl))
 f128:=Tryz.func341.trans (congrArg some (by kernel_rfl))
 f129:=Tryz.func342.trans (congrArg some (by kernel_rfl))
 f190:=Tryz.func210.trans (congrArg some (by kernel_rfl))
 f258:=Tryz.func266.trans (congrArg some (by kernel_rfl))
 f302:=Tryz.func332.trans (congrArg some (by kernel_rfl))
 f303:=Tryz.func333.trans (congrArg some (by kernel_rfl))
 f304:=Tryz.func334.trans (congrArg some (by kernel_rfl))
 f305:=Tryz.func335.trans (congrArg some (by kernel_rfl))
 f306:=Tryz.func336.trans (congrArg some (by kernel_rfl))
 f307:=Tryz.func337.trans (congrArg some (by kernel_rfl))
 f308:=Tryz.func338.trans (congrArg some (by kernel_rfl))
 f309:=Tryz.func339.trans (congrArg some (by kernel_rfl))
 f310:=Tryz.func340.trans (congrArg some (by kernel_rfl))
 f329:=Tryz.func369.trans (congrArg some (by kernel_rfl))
 f330:=Tryz.func370.trans (congrArg some (by kernel_rfl))
 f333:=Tryz.func368.trans (congrArg some (by kernel_rfl))
 f334:=Tryz.func371.trans (congrArg some (by kernel_rfl))
 f335:=Tryz.func372.trans (congrArg some (by kernel_rfl))
 f336:=Tryz.func373.trans (congrArg some (by kernel_rfl))
 f344:=Tryz.func395.trans (congrArg some (by kernel_rfl))
 t0:=Tryz.underlying0
 a0:=Tryz.isAgg0
 z0:=Tryz.sizeOf0
 v0:=Tryz.zeroValue0
 t3:=Tryz.underlying3
 a3:=Tryz.isAgg3
 z3:=Tryz.sizeOf3
 v3:=Tryz.zeroValue3
 t4:=Tryz.underlying4
 a4:=Tryz.isAgg4
 z4:=Tryz.sizeOf4
 v4:=Tryz.zeroValue4
 t5:=Tryz.underlying5
 a5:=Tryz.isAgg5
 z5:=Tryz.sizeOf5
 v5:=Tryz.zeroValue5
 t9:=Tryz.underlying9
 a9:=Tryz.isAgg9
 z9:=Tryz.sizeOf9
 v9:=Tryz.zeroValue9
 t31:=Tryz.underlying30
 a31:=Tryz.isAgg30
 z31:=Tryz.sizeOf30
 v31:=Tryz.zeroValue30
 t46:=Tryz.underlying332
 a46:=Tryz.isAgg332
 z46:=Tryz.sizeOf332
 v46:=Tryz.zeroValue332
 t51:=Tryz.underlying396
 a51:=Tryz.isAgg396
 z51:=Tryz.sizeOf396
 v51:=Tryz.zeroValue396
 t53:=Tryz.underlying398
 a53:=Tryz.isAgg398
 z53:=Tryz.sizeOf398
 v53:=Tryz.zeroValue398
 t131:=Tryz.underlying224
 a131:=Tryz.isAgg224
 z131:=Tryz.sizeOf224
 v131:=Tryz.zeroValue224
 t182:=Tryz.underlying388
 a182:=Tryz.isAgg388
 z182:=Tryz.sizeOf388
 v182:=Tryz.zeroValue388
 t183:=Tryz.underlying389
 a183:=Tryz.isAgg389
 z183:=Tryz.sizeOf389
 v183:=Tryz.zeroValue389
 t218:=Tryz.underlying415
 a218:=Tryz.isAgg415
 z218:=Tryz.sizeOf415
 v218:=Tryz.zeroValue415
 t222:=Tryz.underlying419
 a222:=Tryz.isAgg419
 z222:=Tryz.sizeOf419
 v222:=Tryz.zeroValue419
 t228:=Tryz.underlying438
 a228:=Tryz.isAgg438
 z228:=Tryz.sizeOf438
 v228:=Tryz.zeroValue438
 t229:=Tryz.underlying215
 a229:=Tryz.isAgg215
 z229:=Tryz.sizeOf215
 v229:=Tryz.zeroValue215 }
open Go.Sort Go.RowKit in
theorem Tryz.slices_Sort_string(blk off cap:Nat)(ss:List (List UInt8))(w:World)(hH:Holds encStr w blk off ss.toArray)(hblk:blk<w.heap.size)(hsz:ss.length<4611686018427387904) :
  Calls Tryz.prog 210 #[.slice (some ⟨blk,off,none⟩) ss.length cap] w fun e w'=>
   e = .returned (.tuple #[])/\∃n os,w'=grow (putRow encStr (Sort.ahead w n) blk off (ss.mergeSort fun x y=>decide (x<=y)).toArray) os:=Any.slices_Sort_string Tryz.lays190 blk off cap ss w hH hblk hsz
open Go.RowKit Go.Sort in
theorem Tryz.slices_Sort_string_none(p:Option Addr)(cap:Nat)(w:World) :
  Calls Tryz.prog 210 #[.slice p 0 cap] w fun e w'=>e = .returned (.tuple #[])/\w'=w:=Any.slices_Sort_string_none Tryz.lays190 p cap w
end Go.Proofs
