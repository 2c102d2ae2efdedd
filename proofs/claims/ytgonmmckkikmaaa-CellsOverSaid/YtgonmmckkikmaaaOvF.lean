/- The examples of the chapter; the loops of CellsOver. -/
import Derived.Test.YtgonmmckkikmaaaOvE
namespace Go.Proofs.Ytgonmmckkikmaaa
open Go.Pv
set_option maxRecDepth 100000
def fsA : List FuncId := [4, 5, 6, 7, 8, 14, 11, 9, 10, 12, 13, 15, 17, 20, 16, 18, 19, 21, 22, 24, 25, 26, 27, 43, 45, 46, 48, 97, 95, 49, 51, 88, 93, 96]
def mdA (f : FuncId) : Md := if f = 13 then mdE else if f = 12 then mdB else mdC
set_option maxHeartbeats 4000000 in
theorem awake_ok : (Ob.pur 4 [] (.ret (.bool true))).ok Try.prog := Ob.pur_of_run fsA mdA 20 40 mixed (by kernel_rfl) (by kernel_rfl) rfl rfl
end Go.Proofs.Ytgonmmckkikmaaa
