/- What the law says of pure values. -/
import Derived.Test.YtgonmmckkikmaaaGreatRows
import Derived.Test.YtgonmmckkikmaaaGreatWa
import Derived.JoinedCond
set_option linter.unusedSectionVars false
set_option linter.unusedSimpArgs false
set_option linter.unusedVariables false
namespace Go.Proofs.YtgonmmckkikmaaaGreat
open Go.Pv
open Go.ChangeShapes Go.WideShapes Go.ChangeAt Go.RowKit
set_option maxRecDepth 100000
theorem own:ownKnob Tryz.prog.godebug=none:=by kernel_rfl
theorem laidOut:laidOutB Tryz.prog=true:=by kernel_rfl
def compsT (P:Program) (t:TypeId):List TypeId:=match P.underlying t with
 | some (.slice e)=>[e]
 | some (.struct fs)=>fs.toList.map fun f=>f.type
 | _=>[]
def addT (l:List TypeId) (x:TypeId):List TypeId:=if l.contains x then l else l++[x]
def reachT (P:Program):Nat->List TypeId->List TypeId
 | 0,l=>l
 | n+1,l=>reachT P n ((l.map (compsT P)).flatten.foldl addT l)
mutual
theorem bulk_eq {H:Type}:∀d:DataW H,bulkD d=Rows.uptoBulk d
 | .lit q=>by cases q <;> rfl
 | .nil=>rfl
 | .ptr d=>by rw [bulkD,Rows.uptoBulk,bulk_eq d]
 | .slice a b=>by rw [bulkD,Rows.uptoBulk,bulks_eq a,bulks_eq b]
 | .agg a=>by rw [bulkD,Rows.uptoBulk,bulks_eq a]
 | .iface _ d=>by rw [bulkD,Rows.uptoBulk,bulk_eq d]
 | .map es=>by rw [bulkD,Rows.uptoBulk,bulkm_eq es]
 | .held _=>rfl
theorem bulks_eq {H:Type}:∀l:List (DataW H),bulkDs l=Rows.uptoBulkAll l
 | []=>rfl
 | d::r=>by rw [bulkDs,Rows.uptoBulkAll,bulk_eq d,bulks_eq r]
theorem bulkm_eq {H:Type}:∀l:List (Lit × DataW H),bulkDm l=Rows.uptoBulkEntries l
 | []=>rfl
 | x::r=>by rw [bulkDm,Rows.uptoBulkEntries,bulke_eq x,bulkm_eq r]
theorem bulke_eq {H:Type}:∀x:Lit × DataW H,bulkDe x=Rows.uptoBulkEntry x
 | (q,d)=>by cases q <;> simp only [bulkDe,Rows.uptoBulkEntry,bulk_eq d]
end
theorem upto_le {H:Type}:∀ {a b:List (DataW H)},bulkDs a<=Rows.uptoBulkAll (a++b)
 | [],b=>Nat.zero_le _
 | d::a,b=>by
  have:=upto_le (a:=a) (b:=b)
  rw [List.cons_append,bulkDs,Rows.uptoBulkAll,bulk_eq d]
  omega
theorem small_le {H:Type} {a b:List (DataW H)} (hk:Rows.uptoSmall H (a++b)=true):bulkDs a<=1048576:=by
 have h:Rows.uptoBulkAll (a++b)<=1048576:=of_decide_eq_true hk
 have:=upto_le (a:=a) (b:=b)
 omega
section
variable {n:Nat} {cs:List PV}
theorem ty_work (h:Ty Tryz.prog n 39 cs):∃ (bs:List Bd) (x:Ex) (fu:Int),cs = .sl 8 (Bd.cs bs)::(exL x++[.int .i64 fu]):=by
 obtain ⟨m,hm,h⟩:=ty_struct Tryz.underlying39 h
 obtain ⟨c1,r1,rfl,h1,c2,r2,rfl,h2,c3,r3,rfl,h3,rfl⟩:=h
 obtain ⟨bs,rfl⟩:=ty_bds h1
 obtain ⟨x,rfl⟩:=ty_ex _ _ h2
 obtain ⟨k,rfl, -⟩:=ty_int Tryz.underlying3 h3
 exact ⟨bs,x,k,rfl⟩
theorem u8_le {v:Int} (h:(Lit.int .u8 v).wf=true):0<=v/\v<=255:=by simpa [Lit.wf,IntKind.min,IntKind.max,IntKind.signed,IntKind.bits] using h
theorem mod_bulk (d0 d1 d2 d3 d4:List (List PV)) (z0 z1 z2 z3 z4:Nat) (l:List Df):bulkPss (dfsC l)<=bulkPs [.sl z0 d0,.sl z1 d1,.sl z2 d2,.sl z3 d3,.sl z4 d4,.sl 25 (dfsC l)]:=by
 simp only [bulkPs,bulkP]
 omega
end
end Go.Proofs.YtgonmmckkikmaaaGreat
