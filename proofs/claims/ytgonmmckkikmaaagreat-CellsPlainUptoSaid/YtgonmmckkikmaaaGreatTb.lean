/- What the law says of pure values. -/
import Derived.Test.YtgonmmckkikmaaaGreatRows
import Derived.Test.YtgonmmckkikmaaaGreatTa
import Derived.JoinedCond
set_option linter.unusedSectionVars false
set_option linter.unusedSimpArgs false
set_option linter.unusedVariables false
namespace Go.Proofs.YtgonmmckkikmaaaGreat
open Go.Pv
open Go.ChangeShapes Go.WideShapes Go.ChangeAt Go.RowKit
set_option maxRecDepth 100000
theorem own:ownKnob Tryz.prog.godebug=none:=by kernel_rfl
theorem laidOut:laidOutB Tryz.prog=true:=by kernel_rfl
def compsT(P:Program)(t:TypeId):List TypeId:=match P.underlying t with
 | some (.slice e)=>[e]
 | some (.struct fs)=>fs.toList.map fun f=>f.type
 | _=>[]
def addT(l:List TypeId)(x:TypeId):List TypeId:=if l.contains x then l else l++[x]
def reachT(P:Program):Nat->List TypeId->List TypeId
 | 0,l=>l
 | n+1,l=>reachT P n ((l.map (compsT P)).flatten.foldl addT l)
mutual
theorem bulk_eq{H:Type}:∀d:DataW H,bulkD d=Rows.uptoBulk d
 | .lit q=>by cases q <;> rfl
 | .nil=>rfl
 | .ptr d=>by rw [bulkD,Rows.uptoBulk,bulk_eq d]
 | .slice a b=>by rw [bulkD,Rows.uptoBulk,bulks_eq a,bulks_eq b]
 | .agg a=>by rw [bulkD,Rows.uptoBulk,bulks_eq a]
 | .iface _ d=>by rw [bulkD,Rows.uptoBulk,bulk_eq d]
 | .map es=>by rw [bulkD,Rows.uptoBulk,bulkm_eq es]
 | .held _=>rfl
theorem bulks_eq{H:Type}:∀l:List (DataW H),bulkDs l=Rows.uptoBulkAll l
 | []=>rfl
 | d::r=>by rw [bulkDs,Rows.uptoBulkAll,bulk_eq d,bulks_eq r]
theorem bulkm_eq{H:Type}:∀l:List (Lit × DataW H),bulkDm l=Rows.uptoBulkEntries l
 | []=>rfl
 | x::r=>by rw [bulkDm,Rows.uptoBulkEntries,bulke_eq x,bulkm_eq r]
theorem bulke_eq{H:Type}:∀x:Lit × DataW H,bulkDe x=Rows.uptoBulkEntry x
 | (q,d)=>by cases q <;> simp only [bulkDe,Rows.uptoBulkEntry,bulk_eq d]
end
theorem upto_le{H:Type}:∀ {a b:List (DataW H)},bulkDs a<=Rows.uptoBulkAll (a++b)
 | [],b=>Nat.zero_le _
 | d::a,b=>by
  have:=upto_le (a:=a) (b:=b)
  rw [List.cons_append,bulkDs,Rows.uptoBulkAll,bulk_eq d]
  omega
theorem small_le{H:Type}{a b:List (DataW H)}(hk:Rows.uptoSmall H (a++b)=true):bulkDs a<=1048576:=by
 have h:Rows.uptoBulkAll (a++b)<=1048576:=of_decide_eq_true hk
 have:=upto_le (a:=a) (b:=b)
 omega
section
variable {n:Nat} {cs:List PV}
theorem u8_le{v:Int}(h:(Lit.int .u8 v).wf=true):0<=v/\v<=255:=by simpa [Lit.wf,IntKind.min,IntKind.max,IntKind.signed,IntKind.bits] using h
end
end Go.Proofs.YtgonmmckkikmaaaGreat
