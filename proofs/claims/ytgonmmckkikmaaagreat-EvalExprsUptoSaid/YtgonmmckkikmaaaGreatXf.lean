/- Values of Go as plain data, an evaluator over them, and what the functions of the program return; part f. -/
import Derived.Test.YtgonmmckkikmaaaGreatXe
import Derived.Test.YtgonmmckkikmaaaGreatProg
import Derived.KernelRfl
set_option linter.unusedSectionVars false
set_option linter.unusedSimpArgs false
set_option linter.unusedVariables false
namespace Go.Proofs.YtgonmmckkikmaaaGreat
open Go.Pv
set_option maxRecDepth 100000
theorem mixed:Tryz.prog.follows .mixedOrders=true:=by kernel_rfl
theorem pu {f:FuncId} {fn:Func} {args:List PV} (md:Md) (L:Ext->List (Stp Tryz.prog)) {r:CRes} (hf:Tryz.prog.funcs[f]?=some fn) (hok:(isFn Tryz.prog f&&fnOK fn)=true:=by kernel_rfl) (h:∀e,evFX Tryz.prog md 50 fn args e (asS (L e)) = .ok (r,e) [] (osS (L e)):=by intro e; kernel_rfl):(Ob.pur f args r).ok Tryz.prog:=Ob.pur_of md 50 (fun e=>asS (L e)) mixed hf hok h fun e=>okS (L e)
theorem ef {f:FuncId} {fn:Func} {args:List PV} {e e':Ext} (md:Md) (L:List (Stp Tryz.prog)) {r:CRes} (hf:Tryz.prog.funcs[f]?=some fn) (hok:(isFn Tryz.prog f&&fnOK fn)=true:=by kernel_rfl) (h:evFX Tryz.prog md 50 fn args e (asS L) = .ok (r,e') [] (osS L):=by kernel_rfl):(Ob.eff f args e r e').ok Tryz.prog:=Ob.eff_of md 50 (asS L) mixed hf hok h (okS L)
theorem pw {cx:Cx} {c:Code} {s s':S} {pe:PExit} {Q:PExit->S->Prop} (md:Md) (n:Nat) (L:List (Stp Tryz.prog)) (ks bs:List Nat) (hn:cx.n=n) (hq:Q pe s') (hc:codeOK n c=true:=by kernel_rfl) (h:(evCX Tryz.prog md n 50 c s (asS L)).keep ks bs = .ok (pe,s') [] (osS L):=by kernel_rfl):PW Tryz.prog cx c s Q:=PW_runK md n 50 (asS L) ks bs mixed hn hc h (okS L) hq
abbrev Pu (f:FuncId) (a:List PV) (r:CRes):Prop:=(Ob.pur f a r).ok Tryz.prog
abbrev Ef (f:FuncId) (a:List PV) (e:Ext) (r:CRes) (e':Ext):Prop:=(Ob.eff f a e r e').ok Tryz.prog
def mdL:Md:=⟨fun _=>some false,fun _=>false⟩
theorem nIn_1 (n:Int) (hx0:n >= -1000000000000):Pu 136 ([pI n]) (rB (decide (n<=1000000000000))):=
 pu mdL (fun e=>[rp 3 (dt (n >= -1000000000000) hx0)]) Tryz.func136
theorem nIn_2 (n:Int) (hx0:¬n >= -1000000000000):Pu 136 ([pI n]) (rB false):=
 pu mdL (fun e=>[rp 3 (df (n >= -1000000000000) hx0)]) Tryz.func136
def nIn_r0 (n:Int):Bool:=(if n >= -1000000000000 then (decide (n<=1000000000000)) else (false))
theorem nIn (n:Int):Pu 136 ([pI n]) (rB (nIn_r0 n)):=by
 by_cases h0:n >= -1000000000000
 ·rw [(show nIn_r0 n=(decide (n<=1000000000000)) by unfold nIn_r0; rw [if_pos h0])]; exact nIn_1 n h0
 ·rw [(show nIn_r0 n=(false) by unfold nIn_r0; rw [if_neg h0])]; exact nIn_2 n h0
theorem rIn_1 (n:Int) (hx0:n >= -1000000000000):Pu 64 ([pI n]) (rB (decide (n<=1000000000000))):=
 pu mdL (fun e=>[rp 3 (dt (n >= -1000000000000) hx0)]) Tryz.func64
theorem rIn_2 (n:Int) (hx0:¬n >= -1000000000000):Pu 64 ([pI n]) (rB false):=
 pu mdL (fun e=>[rp 3 (df (n >= -1000000000000) hx0)]) Tryz.func64
def rIn_r0 (n:Int):Bool:=(if n >= -1000000000000 then (decide (n<=1000000000000)) else (false))
theorem rIn (n:Int):Pu 64 ([pI n]) (rB (rIn_r0 n)):=by
 by_cases h0:n >= -1000000000000
 ·rw [(show rIn_r0 n=(decide (n<=1000000000000)) by unfold rIn_r0; rw [if_pos h0])]; exact rIn_1 n h0
 ·rw [(show rIn_r0 n=(false) by unfold rIn_r0; rw [if_neg h0])]; exact rIn_2 n h0
theorem nChecked_1 (n:Int) (ok:Bool) (hx0:ok=false):Pu 157 ([pI n,.bool ok]) (.ret (.tup [pI 0,.bool false])):=
 pu mdL (fun e=>[rp 4 (bt (!ok) (bnT hx0)),bt true]) Tryz.func157
theorem nChecked_2 (n:Int) (ok:Bool) (hx0:ok=true) (hx1:nIn_r0 n=false):Pu 157 ([pI n,.bool ok]) (.ret (.tup [pI 0,.bool false])):=
 pu mdL (fun e=>[rp 2 (bf (!ok) (bnF hx0)),cl (@nIn (n)),rp 2 (bf (!ok) (bnF hx0)),bt (!nIn_r0 n) (bnT hx1)]) Tryz.func157
theorem nChecked_3 (n:Int) (ok:Bool) (hx0:ok=true) (hx1:nIn_r0 n=true):Pu 157 ([pI n,.bool ok]) (.ret (.tup [pI n,.bool true])):=
 pu mdL (fun e=>[rp 2 (bf (!ok) (bnF hx0)),cl (@nIn (n)),rp 2 (bf (!ok) (bnF hx0)),bf (!nIn_r0 n) (bnF hx1)]) Tryz.func157
def nChecked_r0 (n:Int) (ok:Bool):Int:=(if ok=false then (0) else (if nIn_r0 n=false then (0) else (n)))
def nChecked_r1 (n:Int) (ok:Bool):Bool:=(if ok=false then (false) else (if nIn_r0 n=false then (false) else (true)))
theorem nChecked (n:Int) (ok:Bool):Pu 157 ([pI n,.bool ok]) (.ret (.tup [pI (nChecked_r0 n ok),.bool (nChecked_r1 n ok)])):=by
 by_cases h0:ok=false
 ·rw [(show nChecked_r0 n ok=(0) by unfold nChecked_r0; rw [if_pos h0]),(show nChecked_r1 n ok=(false) by unfold nChecked_r1; rw [if_pos h0])]; exact nChecked_1 n ok h0
 ·by_cases h1:nIn_r0 n=false
  ·rw [(show nChecked_r0 n ok=(0) by unfold nChecked_r0; rw [if_neg h0,if_pos h1]),(show nChecked_r1 n ok=(false) by unfold nChecked_r1; rw [if_neg h0,if_pos h1])]; exact nChecked_2 n ok (bTF h0) h1
  ·rw [(show nChecked_r0 n ok=(n) by unfold nChecked_r0; rw [if_neg h0,if_neg h1]),(show nChecked_r1 n ok=(true) by unfold nChecked_r1; rw [if_neg h0,if_neg h1])]; exact nChecked_3 n ok (bTF h0) (bTF h1)
theorem nAdd_1 (a b:Int) (hx0:nIn_r0 a=false):Pu 140 ([pI a,pI b]) (.ret (.tup [pI 0,.bool false])):=
 pu mdL (fun e=>[cl (@nIn (a)),rp 4 (bt (!nIn_r0 a) (bnT hx0)),bt true]) Tryz.func140
theorem nAdd_2 (a b:Int) (hx0:nIn_r0 a=true) (hx1:nIn_r0 b=false):Pu 140 ([pI a,pI b]) (.ret (.tup [pI 0,.bool false])):=
 pu mdL (fun e=>[cl (@nIn (a)),rp 2 (bf (!nIn_r0 a) (bnF hx0)),cl (@nIn (b)),rp 2 (bf (!nIn_r0 a) (bnF hx0)),bt (!nIn_r0 b) (bnT hx1)]) Tryz.func140
theorem nAdd_3 (a b:Int) (hx0:nIn_r0 a=true) (hx1:nIn_r0 b=true):Pu 140 ([pI a,pI b]) (.ret (.tup [pI (nChecked_r0 (IntKind.wrap .i64 (a+b)) true),.bool (nChecked_r1 (IntKind.wrap .i64 (a+b)) true)])):=
 pu mdL (fun e=>[cl (@nIn (a)),rp 2 (bf (!nIn_r0 a) (bnF hx0)),cl (@nIn (b)),rp 2 (bf (!nIn_r0 a) (bnF hx0)),bf (!nIn_r0 b) (bnF hx1),kp,cl (@nChecked (IntKind.wrap .i64 (a+b)) (true))]) Tryz.func140
def nAdd_r0 (a:Int) (b:Int):Int:=(if nIn_r0 a=false then (0) else (if nIn_r0 b=false then (0) else (nChecked_r0 (IntKind.wrap .i64 (a+b)) true)))
def nAdd_r1 (a:Int) (b:Int):Bool:=(if nIn_r0 a=false then (false) else (if nIn_r0 b=false then (false) else (nChecked_r1 (IntKind.wrap .i64 (a+b)) true)))
theorem nAdd (a b:Int):Pu 140 ([pI a,pI b]) (.ret (.tup [pI (nAdd_r0 a b),.bool (nAdd_r1 a b)])):=by
 by_cases h0:nIn_r0 a=false
 ·rw [(show nAdd_r0 a b=(0) by unfold nAdd_r0; rw [if_pos h0]),(show nAdd_r1 a b=(false) by unfold nAdd_r1; rw [if_pos h0])]; exact nAdd_1 a b h0
 ·by_cases h1:nIn_r0 b=false
  ·rw [(show nAdd_r0 a b=(0) by unfold nAdd_r0; rw [if_neg h0,if_pos h1]),(show nAdd_r1 a b=(false) by unfold nAdd_r1; rw [if_neg h0,if_pos h1])]; exact nAdd_2 a b (bTF h0) h1
  ·rw [(show nAdd_r0 a b=(nChecked_r0 (IntKind.wrap .i64 (a+b)) true) by unfold nAdd_r0; rw [if_neg h0,if_neg h1]),(show nAdd_r1 a b=(nChecked_r1 (IntKind.wrap .i64 (a+b)) true) by unfold nAdd_r1; rw [if_neg h0,if_neg h1])]; exact nAdd_3 a b (bTF h0) (bTF h1)
theorem nSub_1 (a b:Int) (hx0:nIn_r0 a=false):Pu 138 ([pI a,pI b]) (.ret (.tup [pI 0,.bool false])):=
 pu mdL (fun e=>[cl (@nIn (a)),rp 4 (bt (!nIn_r0 a) (bnT hx0)),bt true]) Tryz.func138
theorem nSub_2 (a b:Int) (hx0:nIn_r0 a=true) (hx1:nIn_r0 b=false):Pu 138 ([pI a,pI b]) (.ret (.tup [pI 0,.bool false])):=
 pu mdL (fun e=>[cl (@nIn (a)),rp 2 (bf (!nIn_r0 a) (bnF hx0)),cl (@nIn (b)),rp 2 (bf (!nIn_r0 a) (bnF hx0)),bt (!nIn_r0 b) (bnT hx1)]) Tryz.func138
theorem nSub_3 (a b:Int) (hx0:nIn_r0 a=true) (hx1:nIn_r0 b=true):Pu 138 ([pI a,pI b]) (.ret (.tup [pI (nChecked_r0 (IntKind.wrap .i64 (a - b)) true),.bool (nChecked_r1 (IntKind.wrap .i64 (a - b)) true)])):=
 pu mdL (fun e=>[cl (@nIn (a)),rp 2 (bf (!nIn_r0 a) (bnF hx0)),cl (@nIn (b)),rp 2 (bf (!nIn_r0 a) (bnF hx0)),bf (!nIn_r0 b) (bnF hx1),kp,cl (@nChecked (IntKind.wrap .i64 (a - b)) (true))]) Tryz.func138
def nSub_r0 (a:Int) (b:Int):Int:=(if nIn_r0 a=false then (0) else (if nIn_r0 b=false then (0) else (nChecked_r0 (IntKind.wrap .i64 (a - b)) true)))
def nSub_r1 (a:Int) (b:Int):Bool:=(if nIn_r0 a=false then (false) else (if nIn_r0 b=false then (false) else (nChecked_r1 (IntKind.wrap .i64 (a - b)) true)))
theorem nSub (a b:Int):Pu 138 ([pI a,pI b]) (.ret (.tup [pI (nSub_r0 a b),.bool (nSub_r1 a b)])):=by
 by_cases h0:nIn_r0 a=false
 ·rw [(show nSub_r0 a b=(0) by unfold nSub_r0; rw [if_pos h0]),(show nSub_r1 a b=(false) by unfold nSub_r1; rw [if_pos h0])]; exact nSub_1 a b h0
 ·by_cases h1:nIn_r0 b=false
  ·rw [(show nSub_r0 a b=(0) by unfold nSub_r0; rw [if_neg h0,if_pos h1]),(show nSub_r1 a b=(false) by unfold nSub_r1; rw [if_neg h0,if_pos h1])]; exact nSub_2 a b (bTF h0) h1
  ·rw [(show nSub_r0 a b=(nChecked_r0 (IntKind.wrap .i64 (a - b)) true) by unfold nSub_r0; rw [if_neg h0,if_neg h1]),(show nSub_r1 a b=(nChecked_r1 (IntKind.wrap .i64 (a - b)) true) by unfold nSub_r1; rw [if_neg h0,if_neg h1])]; exact nSub_3 a b (bTF h0) (bTF h1)
theorem nAbs_1 (a:Int) (hx0:a>=0):Pu 158 ([pI a]) (rI a):=
 pu mdL (fun e=>[dt (a>=0) hx0]) Tryz.func158
theorem nAbs_2 (a:Int) (hx0:¬a>=0) (hx1:IntKind.wrap .i64 (0 - a)<0):Pu 158 ([pI a]) (rI 1000000000000):=
 pu mdL (fun e=>[df (a>=0) hx0,kp,dt (IntKind.wrap .i64 (0 - a)<0) hx1]) Tryz.func158
theorem nAbs_3 (a:Int) (hx0:¬a>=0) (hx1:¬IntKind.wrap .i64 (0 - a)<0):Pu 158 ([pI a]) (rI (IntKind.wrap .i64 (0 - a))):=
 pu mdL (fun e=>[df (a>=0) hx0,kp,df (IntKind.wrap .i64 (0 - a)<0) hx1,kp]) Tryz.func158
def nAbs_r0 (a:Int):Int:=(if a>=0 then (a) else (if IntKind.wrap .i64 (0 - a)<0 then (1000000000000) else (IntKind.wrap .i64 (0 - a))))
theorem nAbs (a:Int):Pu 158 ([pI a]) (rI (nAbs_r0 a)):=by
 by_cases h0:a>=0
 ·rw [(show nAbs_r0 a=(a) by unfold nAbs_r0; rw [if_pos h0])]; exact nAbs_1 a h0
 ·by_cases h1:IntKind.wrap .i64 (0 - a)<0
  ·rw [(show nAbs_r0 a=(1000000000000) by unfold nAbs_r0; rw [if_neg h0,if_pos h1])]; exact nAbs_2 a h0 h1
  ·rw [(show nAbs_r0 a=(IntKind.wrap .i64 (0 - a)) by unfold nAbs_r0; rw [if_neg h0,if_neg h1])]; exact nAbs_3 a h0 h1
theorem nAbs_ne {a:Int} (h:nIn_r0 a=true) (h0:¬a=0):nAbs_r0 a≠0:=by
 unfold nAbs_r0
 unfold nIn_r0 at h
 split at h
 ·have h:=of_decide_eq_true h
  split
  ·omega
  ·have e:IntKind.i64.wrap (0 - a) = -a:=by rw [wrap64_eq (by omega) (by omega)]; omega
   rw [e]
   split <;> omega
 ·cases h
theorem wrap_neg {a:Int} (h:rIn_r0 a=true):IntKind.i64.wrap (0 - a)=0 - a:=by
 unfold rIn_r0 at h
 split at h
 ·have h:=of_decide_eq_true h
  rw [wrap64_eq (by omega) (by omega)]
 ·cases h
theorem wrap_neg_ne {a:Int} (h:rIn_r0 a=true) (h0:¬a=0):IntKind.i64.wrap (0 - a)≠0:=by
 rw [wrap_neg h]
 omega
section
variable (a b:Int)
include a b
theorem nMul_1 (hx0:nIn_r0 a=false):Pu 141 ([pI a,pI b]) (.ret (.tup [pI 0,.bool false])):=
 pu mdL (fun e=>[cl (@nIn (a)),rp 4 (bt (!nIn_r0 a) (bnT hx0)),bt true]) Tryz.func141
theorem nMul_2 (hx0:nIn_r0 a=true) (hx1:nIn_r0 b=false):Pu 141 ([pI a,pI b]) (.ret (.tup [pI 0,.bool false])):=
 pu mdL (fun e=>[cl (@nIn (a)),rp 2 (bf (!nIn_r0 a) (bnF hx0)),cl (@nIn (b)),rp 2 (bf (!nIn_r0 a) (bnF hx0)),bt (!nIn_r0 b) (bnT hx1)]) Tryz.func141
theorem nMul_3 (hx0:nIn_r0 a=true) (hx1:nIn_r0 b=true) (hx2:a=0):Pu 141 ([pI a,pI b]) (.ret (.tup [pI 0,.bool true])):=
 pu mdL (fun e=>[cl (@nIn (a)),rp 2 (bf (!nIn_r0 a) (bnF hx0)),cl (@nIn (b)),rp 2 (bf (!nIn_r0 a) (bnF hx0)),bf (!nIn_r0 b) (bnF hx1),rp 3 (et a 0 hx2),bt true]) Tryz.func141
theorem nMul_4 (hx0:nIn_r0 a=true) (hx1:nIn_r0 b=true) (hx2:¬a=0) (hx3:b=0):Pu 141 ([pI a,pI b]) (.ret (.tup [pI 0,.bool true])):=
 pu mdL (fun e=>[cl (@nIn (a)),rp 2 (bf (!nIn_r0 a) (bnF hx0)),cl (@nIn (b)),rp 2 (bf (!nIn_r0 a) (bnF hx0)),bf (!nIn_r0 b) (bnF hx1),rp 3 (en a 0 hx2),et b 0 hx3]) Tryz.func141
theorem nMul_5 (hx0:nIn_r0 a=true) (hx1:nIn_r0 b=true) (hx2:¬a=0) (hx3:¬b=0) (hx4:nAbs_r0 b>IntKind.wrap .i64 (Int.tdiv 1000000000000 (nAbs_r0 a))):Pu 141 ([pI a,pI b]) (.ret (.tup [pI 0,.bool false])):=
 pu mdL (fun e=>[cl (@nIn (a)),rp 2 (bf (!nIn_r0 a) (bnF hx0)),cl (@nIn (b)),rp 2 (bf (!nIn_r0 a) (bnF hx0)),bf (!nIn_r0 b) (bnF hx1),rp 3 (en a 0 hx2),en b 0 hx3,cl (@nAbs (b)),cl (@nAbs (a)),kp,am (nAbs_r0 a≠0) (by (apply nAbs_ne <;> first | assumption | omega | decide)),dt (nAbs_r0 b>IntKind.wrap .i64 (Int.tdiv 1000000000000 (nAbs_r0 a))) hx4]) Tryz.func141
theorem nMul_6 (hx0:nIn_r0 a=true) (hx1:nIn_r0 b=true) (hx2:¬a=0) (hx3:¬b=0) (hx4:¬nAbs_r0 b>IntKind.wrap .i64 (Int.tdiv 1000000000000 (nAbs_r0 a))):Pu 141 ([pI a,pI b]) (.ret (.tup [pI (nChecked_r0 (IntKind.wrap .i64 (a * b)) true),.bool (nChecked_r1 (IntKind.wrap .i64 (a * b)) true)])):=
 pu mdL (fun e=>[cl (@nIn (a)),rp 2 (bf (!nIn_r0 a) (bnF hx0)),cl (@nIn (b)),rp 2 (bf (!nIn_r0 a) (bnF hx0)),bf (!nIn_r0 b) (bnF hx1),rp 3 (en a 0 hx2),en b 0 hx3,cl (@nAbs (b)),cl (@nAbs (a)),kp,am (nAbs_r0 a≠0) (by (apply nAbs_ne <;> first | assumption | omega | decide)),df (nAbs_r0 b>IntKind.wrap .i64 (Int.tdiv 1000000000000 (nAbs_r0 a))) hx4,kp,cl (@nChecked (IntKind.wrap .i64 (a * b)) (true))]) Tryz.func141
end
def nMul_r0 (a:Int) (b:Int):Int:=(if nIn_r0 a=false then (0) else (if nIn_r0 b=false then (0) else (if a=0 then (0) else (if b=0 then (0) else (if nAbs_r0 b>IntKind.wrap .i64 (Int.tdiv 1000000000000 (nAbs_r0 a)) then (0) else (nChecked_r0 (IntKind.wrap .i64 (a * b)) true))))))
def nMul_r1 (a:Int) (b:Int):Bool:=(if nIn_r0 a=false then (false) else (if nIn_r0 b=false then (false) else (if a=0 then (true) else (if b=0 then (true) else (if nAbs_r0 b>IntKind.wrap .i64 (Int.tdiv 1000000000000 (nAbs_r0 a)) then (false) else (nChecked_r1 (IntKind.wrap .i64 (a * b)) true))))))
theorem nMul (a b:Int):Pu 141 ([pI a,pI b]) (.ret (.tup [pI (nMul_r0 a b),.bool (nMul_r1 a b)])):=by
 by_cases h0:nIn_r0 a=false
 ·rw [(show nMul_r0 a b=(0) by unfold nMul_r0; rw [if_pos h0]),(show nMul_r1 a b=(false) by unfold nMul_r1; rw [if_pos h0])]; exact nMul_1 a b h0
 ·by_cases h1:nIn_r0 b=false
  ·rw [(show nMul_r0 a b=(0) by unfold nMul_r0; rw [if_neg h0,if_pos h1]),(show nMul_r1 a b=(false) by unfold nMul_r1; rw [if_neg h0,if_pos h1])]; exact nMul_2 a b (bTF h0) h1
  ·by_cases h2:a=0
   ·rw [(show nMul_r0 a b=(0) by unfold nMul_r0; rw [if_neg h0,if_neg h1,if_pos h2]),(show nMul_r1 a b=(true) by unfold nMul_r1; rw [if_neg h0,if_neg h1,if_pos h2])]; exact nMul_3 a b (bTF h0) (bTF h1) h2
   ·by_cases h3:b=0
    ·rw [(show nMul_r0 a b=(0) by unfold nMul_r0; rw [if_neg h0,if_neg h1,if_neg h2,if_pos h3]),(show nMul_r1 a b=(true) by unfold nMul_r1; rw [if_neg h0,if_neg h1,if_neg h2,if_pos h3])]; exact nMul_4 a b (bTF h0) (bTF h1) h2 h3
    ·by_cases h4:nAbs_r0 b>IntKind.wrap .i64 (Int.tdiv 1000000000000 (nAbs_r0 a))
     ·rw [(show nMul_r0 a b=(0) by unfold nMul_r0; rw [if_neg h0,if_neg h1,if_neg h2,if_neg h3,if_pos h4]),(show nMul_r1 a b=(false) by unfold nMul_r1; rw [if_neg h0,if_neg h1,if_neg h2,if_neg h3,if_pos h4])]; exact nMul_5 a b (bTF h0) (bTF h1) h2 h3 h4
     ·rw [(show nMul_r0 a b=(nChecked_r0 (IntKind.wrap .i64 (a * b)) true) by unfold nMul_r0; rw [if_neg h0,if_neg h1,if_neg h2,if_neg h3,if_neg h4]),(show nMul_r1 a b=(nChecked_r1 (IntKind.wrap .i64 (a * b)) true) by unfold nMul_r1; rw [if_neg h0,if_neg h1,if_neg h2,if_neg h3,if_neg h4])]; exact nMul_6 a b (bTF h0) (bTF h1) h2 h3 h4
section
variable (a b:Int)
include a b
theorem nDivide_1 (hx0:nIn_r0 a=false):Pu 159 ([pI a,pI b]) (.ret (.tup [pI 0,pI 0,.bool false])):=
 pu mdL (fun e=>[cl (@nIn (a)),rp 4 (bt (!nIn_r0 a) (bnT hx0)),rp 4 (bt true)]) Tryz.func159
theorem nDivide_2 (hx0:nIn_r0 a=true) (hx1:nIn_r0 b=false):Pu 159 ([pI a,pI b]) (.ret (.tup [pI 0,pI 0,.bool false])):=
 pu mdL (fun e=>[cl (@nIn (a)),rp 2 (bf (!nIn_r0 a) (bnF hx0)),cl (@nIn (b)),rp 2 (bf (!nIn_r0 a) (bnF hx0)),rp 3 (bt (!nIn_r0 b) (bnT hx1)),bt true]) Tryz.func159
theorem nDivide_3 (hx0:nIn_r0 a=true) (hx1:nIn_r0 b=true) (hx2:b=0):Pu 159 ([pI a,pI b]) (.ret (.tup [pI 0,pI 0,.bool false])):=
 pu mdL (fun e=>[cl (@nIn (a)),rp 2 (bf (!nIn_r0 a) (bnF hx0)),cl (@nIn (b)),rp 2 (bf (!nIn_r0 a) (bnF hx0)),rp 3 (bf (!nIn_r0 b) (bnF hx1)),et b 0 hx2]) Tryz.func159
theorem nDivide_4 (hx0:nIn_r0 a=true) (hx1:nIn_r0 b=true) (hx2:¬b=0) (hx3:¬Int.tmod a b=0) (hx4:(if false=true then decide (Int.tmod a b<0)==decide (b<0) else !decide (Int.tmod a b<0)==decide (b<0))=true):Pu 159 ([pI a,pI b]) (.ret (.tup [pI (IntKind.wrap .i64 (IntKind.wrap .i64 (Int.tdiv a b) - 1)),pI (IntKind.wrap .i64 (Int.tmod a b+b)),.bool true])):=
 pu mdL (fun e=>[cl (@nIn (a)),rp 2 (bf (!nIn_r0 a) (bnF hx0)),cl (@nIn (b)),rp 2 (bf (!nIn_r0 a) (bnF hx0)),rp 3 (bf (!nIn_r0 b) (bnF hx1)),en b 0 hx2,rp 2 (kp),rp 2 (am (b≠0) hx2),rp 6 (nt (Int.tmod a b) 0 hx3),bt (if false=true then decide (Int.tmod a b<0)==decide (b<0) else !decide (Int.tmod a b<0)==decide (b<0)) hx4,rp 2 (kp)]) Tryz.func159
theorem nDivide_5 (hx0:nIn_r0 a=true) (hx1:nIn_r0 b=true) (hx2:¬b=0) (hx3:¬Int.tmod a b=0) (hx4:(if false=true then decide (Int.tmod a b<0)==decide (b<0) else !decide (Int.tmod a b<0)==decide (b<0))=false):Pu 159 ([pI a,pI b]) (.ret (.tup [pI (IntKind.wrap .i64 (Int.tdiv a b)),pI (Int.tmod a b),.bool true])):=
 pu mdL (fun e=>[cl (@nIn (a)),rp 2 (bf (!nIn_r0 a) (bnF hx0)),cl (@nIn (b)),rp 2 (bf (!nIn_r0 a) (bnF hx0)),rp 3 (bf (!nIn_r0 b) (bnF hx1)),en b 0 hx2,rp 2 (kp),rp 2 (am (b≠0) hx2),rp 6 (nt (Int.tmod a b) 0 hx3),bf (if false=true then decide (Int.tmod a b<0)==decide (b<0) else !decide (Int.tmod a b<0)==decide (b<0)) hx4]) Tryz.func159
theorem nDivide_6 (hx0:nIn_r0 a=true) (hx1:nIn_r0 b=true) (hx2:¬b=0) (hx3:Int.tmod a b=0):Pu 159 ([pI a,pI b]) (.ret (.tup [pI (IntKind.wrap .i64 (Int.tdiv a b)),pI (Int.tmod a b),.bool true])):=
 pu mdL (fun e=>[cl (@nIn (a)),rp 2 (bf (!nIn_r0 a) (bnF hx0)),cl (@nIn (b)),rp 2 (bf (!nIn_r0 a) (bnF hx0)),rp 3 (bf (!nIn_r0 b) (bnF hx1)),en b 0 hx2,rp 2 (kp),rp 2 (am (b≠0) hx2),rp 6 (nn (Int.tmod a b) 0 hx3),bf false]) Tryz.func159
end
def nDivide_r0 (a:Int) (b:Int):Int:=(if nIn_r0 a=false then (0) else (if nIn_r0 b=false then (0) else (if b=0 then (0) else (if Int.tmod a b=0 then (IntKind.wrap .i64 (Int.tdiv a b)) else (if (if false=true then decide (Int.tmod a b<0)==decide (b<0) else !decide (Int.tmod a b<0)==decide (b<0))=true then (IntKind.wrap .i64 (IntKind.wrap .i64 (Int.tdiv a b) - 1)) else (IntKind.wrap .i64 (Int.tdiv a b)))))))
def nDivide_r1 (a:Int) (b:Int):Int:=(if nIn_r0 a=false then (0) else (if nIn_r0 b=false then (0) else (if b=0 then (0) else (if Int.tmod a b=0 then (Int.tmod a b) else (if (if false=true then decide (Int.tmod a b<0)==decide (b<0) else !decide (Int.tmod a b<0)==decide (b<0))=true then (IntKind.wrap .i64 (Int.tmod a b+b)) else (Int.tmod a b))))))
def nDivide_r2 (a:Int) (b:Int):Bool:=(if nIn_r0 a=false then (false) else (if nIn_r0 b=false then (false) else (if b=0 then (false) else (if Int.tmod a b=0 then (true) else (if (if false=true then decide (Int.tmod a b<0)==decide (b<0) else !decide (Int.tmod a b<0)==decide (b<0))=true then (true) else (true))))))
theorem nDivide (a b:Int):Pu 159 ([pI a,pI b]) (.ret (.tup [pI (nDivide_r0 a b),pI (nDivide_r1 a b),.bool (nDivide_r2 a b)])):=by
 by_cases h0:nIn_r0 a=false
 ·rw [(show nDivide_r0 a b=(0) by unfold nDivide_r0; rw [if_pos h0]),(show nDivide_r1 a b=(0) by unfold nDivide_r1; rw [if_pos h0]),(show nDivide_r2 a b=(false) by unfold nDivide_r2; rw [if_pos h0])]; exact nDivide_1 a b h0
 ·by_cases h1:nIn_r0 b=false
  ·rw [(show nDivide_r0 a b=(0) by unfold nDivide_r0; rw [if_neg h0,if_pos h1]),(show nDivide_r1 a b=(0) by unfold nDivide_r1; rw [if_neg h0,if_pos h1]),(show nDivide_r2 a b=(false) by unfold nDivide_r2; rw [if_neg h0,if_pos h1])]; exact nDivide_2 a b (bTF h0) h1
  ·by_cases h2:b=0
   ·rw [(show nDivide_r0 a b=(0) by unfold nDivide_r0; rw [if_neg h0,if_neg h1,if_pos h2]),(show nDivide_r1 a b=(0) by unfold nDivide_r1; rw [if_neg h0,if_neg h1,if_pos h2]),(show nDivide_r2 a b=(false) by unfold nDivide_r2; rw [if_neg h0,if_neg h1,if_pos h2])]; exact nDivide_3 a b (bTF h0) (bTF h1) h2
   ·by_cases h3:Int.tmod a b=0
    ·rw [(show nDivide_r0 a b=(IntKind.wrap .i64 (Int.tdiv a b)) by unfold nDivide_r0; rw [if_neg h0,if_neg h1,if_neg h2,if_pos h3]),(show nDivide_r1 a b=(Int.tmod a b) by unfold nDivide_r1; rw [if_neg h0,if_neg h1,if_neg h2,if_pos h3]),(show nDivide_r2 a b=(true) by unfold nDivide_r2; rw [if_neg h0,if_neg h1,if_neg h2,if_pos h3])]; exact nDivide_6 a b (bTF h0) (bTF h1) h2 h3
    ·by_cases h4:(if false=true then decide (Int.tmod a b<0)==decide (b<0) else !decide (Int.tmod a b<0)==decide (b<0))=true
     ·rw [(show nDivide_r0 a b=(IntKind.wrap .i64 (IntKind.wrap .i64 (Int.tdiv a b) - 1)) by unfold nDivide_r0; rw [if_neg h0,if_neg h1,if_neg h2,if_neg h3,if_pos h4]),(show nDivide_r1 a b=(IntKind.wrap .i64 (Int.tmod a b+b)) by unfold nDivide_r1; rw [if_neg h0,if_neg h1,if_neg h2,if_neg h3,if_pos h4]),(show nDivide_r2 a b=(true) by unfold nDivide_r2; rw [if_neg h0,if_neg h1,if_neg h2,if_neg h3,if_pos h4])]; exact nDivide_4 a b (bTF h0) (bTF h1) h2 h3 h4
     ·rw [(show nDivide_r0 a b=(IntKind.wrap .i64 (Int.tdiv a b)) by unfold nDivide_r0; rw [if_neg h0,if_neg h1,if_neg h2,if_neg h3,if_neg h4]),(show nDivide_r1 a b=(Int.tmod a b) by unfold nDivide_r1; rw [if_neg h0,if_neg h1,if_neg h2,if_neg h3,if_neg h4]),(show nDivide_r2 a b=(true) by unfold nDivide_r2; rw [if_neg h0,if_neg h1,if_neg h2,if_neg h3,if_neg h4])]; exact nDivide_5 a b (bTF h0) (bTF h1) h2 h3 (bFT h4)
theorem nDiv (a b:Int):Pu 142 ([pI a,pI b]) (.ret (.tup [pI (nDivide_r0 a b),.bool (nDivide_r2 a b)])):=
 pu mdL (fun e=>[cl (@nDivide (a) (b))]) Tryz.func142
theorem nMod (a b:Int):Pu 143 ([pI a,pI b]) (.ret (.tup [pI (nDivide_r1 a b),.bool (nDivide_r2 a b)])):=
 pu mdL (fun e=>[cl (@nDivide (a) (b))]) Tryz.func143
theorem rResult_1 (n:Int) (ok:Bool) (hx0:ok=false):Pu 135 ([pI n,.bool ok]) (.ret (.tup [pI 0,.bool false])):=
 pu mdL (fun e=>[rp 4 (bt (!ok) (bnT hx0)),bt true]) Tryz.func135
theorem rResult_2 (n:Int) (ok:Bool) (hx0:ok=true) (hx1:rIn_r0 n=false):Pu 135 ([pI n,.bool ok]) (.ret (.tup [pI 0,.bool false])):=
 pu mdL (fun e=>[rp 2 (bf (!ok) (bnF hx0)),cl (@rIn (n)),rp 2 (bf (!ok) (bnF hx0)),bt (!rIn_r0 n) (bnT hx1)]) Tryz.func135
theorem rResult_3 (n:Int) (ok:Bool) (hx0:ok=true) (hx1:rIn_r0 n=true):Pu 135 ([pI n,.bool ok]) (.ret (.tup [pI n,.bool true])):=
 pu mdL (fun e=>[rp 2 (bf (!ok) (bnF hx0)),cl (@rIn (n)),rp 2 (bf (!ok) (bnF hx0)),bf (!rIn_r0 n) (bnF hx1)]) Tryz.func135
def rResult_r0 (n:Int) (ok:Bool):Int:=(if ok=false then (0) else (if rIn_r0 n=false then (0) else (n)))
def rResult_r1 (n:Int) (ok:Bool):Bool:=(if ok=false then (false) else (if rIn_r0 n=false then (false) else (true)))
theorem rResult (n:Int) (ok:Bool):Pu 135 ([pI n,.bool ok]) (.ret (.tup [pI (rResult_r0 n ok),.bool (rResult_r1 n ok)])):=by
 by_cases h0:ok=false
 ·rw [(show rResult_r0 n ok=(0) by unfold rResult_r0; rw [if_pos h0]),(show rResult_r1 n ok=(false) by unfold rResult_r1; rw [if_pos h0])]; exact rResult_1 n ok h0
 ·by_cases h1:rIn_r0 n=false
  ·rw [(show rResult_r0 n ok=(0) by unfold rResult_r0; rw [if_neg h0,if_pos h1]),(show rResult_r1 n ok=(false) by unfold rResult_r1; rw [if_neg h0,if_pos h1])]; exact rResult_2 n ok (bTF h0) h1
  ·rw [(show rResult_r0 n ok=(n) by unfold rResult_r0; rw [if_neg h0,if_neg h1]),(show rResult_r1 n ok=(true) by unfold rResult_r1; rw [if_neg h0,if_neg h1])]; exact rResult_3 n ok (bTF h0) (bTF h1)
theorem rAdd_1 (a b:Int) (hx0:rIn_r0 a=true):Pu 131 ([pI a,pI b]) (.ret (.tup [pI (rResult_r0 (IntKind.wrap .i64 (a+b)) (rIn_r0 b)),.bool (rResult_r1 (IntKind.wrap .i64 (a+b)) (rIn_r0 b))])):=
 pu mdL (fun e=>[cl (@rIn (a)),rp 2 (bt (rIn_r0 a) hx0),cl (@rIn (b)),bt (rIn_r0 a) hx0,kp,cl (@rResult (IntKind.wrap .i64 (a+b)) (rIn_r0 b))]) Tryz.func131
theorem rAdd_2 (a b:Int) (hx0:rIn_r0 a=false):Pu 131 ([pI a,pI b]) (.ret (.tup [pI 0,.bool false])):=
 pu mdL (fun e=>[cl (@rIn (a)),rp 3 (bf (rIn_r0 a) hx0),kp,cl (@rResult (IntKind.wrap .i64 (a+b)) (false))]) Tryz.func131
def rAdd_r0 (a:Int) (b:Int):Int:=(if rIn_r0 a=true then (rResult_r0 (IntKind.wrap .i64 (a+b)) (rIn_r0 b)) else (0))
def rAdd_r1 (a:Int) (b:Int):Bool:=(if rIn_r0 a=true then (rResult_r1 (IntKind.wrap .i64 (a+b)) (rIn_r0 b)) else (false))
theorem rAdd (a b:Int):Pu 131 ([pI a,pI b]) (.ret (.tup [pI (rAdd_r0 a b),.bool (rAdd_r1 a b)])):=by
 by_cases h0:rIn_r0 a=true
 ·rw [(show rAdd_r0 a b=(rResult_r0 (IntKind.wrap .i64 (a+b)) (rIn_r0 b)) by unfold rAdd_r0; rw [if_pos h0]),(show rAdd_r1 a b=(rResult_r1 (IntKind.wrap .i64 (a+b)) (rIn_r0 b)) by unfold rAdd_r1; rw [if_pos h0])]; exact rAdd_1 a b h0
 ·rw [(show rAdd_r0 a b=(0) by unfold rAdd_r0; rw [if_neg h0]),(show rAdd_r1 a b=(false) by unfold rAdd_r1; rw [if_neg h0])]; exact rAdd_2 a b (bFT h0)
theorem rSub_1 (a b:Int) (hx0:rIn_r0 a=true):Pu 106 ([pI a,pI b]) (.ret (.tup [pI (rResult_r0 (IntKind.wrap .i64 (a - b)) (rIn_r0 b)),.bool (rResult_r1 (IntKind.wrap .i64 (a - b)) (rIn_r0 b))])):=
 pu mdL (fun e=>[cl (@rIn (a)),rp 2 (bt (rIn_r0 a) hx0),cl (@rIn (b)),bt (rIn_r0 a) hx0,kp,cl (@rResult (IntKind.wrap .i64 (a - b)) (rIn_r0 b))]) Tryz.func106
theorem rSub_2 (a b:Int) (hx0:rIn_r0 a=false):Pu 106 ([pI a,pI b]) (.ret (.tup [pI 0,.bool false])):=
 pu mdL (fun e=>[cl (@rIn (a)),rp 3 (bf (rIn_r0 a) hx0),kp,cl (@rResult (IntKind.wrap .i64 (a - b)) (false))]) Tryz.func106
def rSub_r0 (a:Int) (b:Int):Int:=(if rIn_r0 a=true then (rResult_r0 (IntKind.wrap .i64 (a - b)) (rIn_r0 b)) else (0))
def rSub_r1 (a:Int) (b:Int):Bool:=(if rIn_r0 a=true then (rResult_r1 (IntKind.wrap .i64 (a - b)) (rIn_r0 b)) else (false))
theorem rSub (a b:Int):Pu 106 ([pI a,pI b]) (.ret (.tup [pI (rSub_r0 a b),.bool (rSub_r1 a b)])):=by
 by_cases h0:rIn_r0 a=true
 ·rw [(show rSub_r0 a b=(rResult_r0 (IntKind.wrap .i64 (a - b)) (rIn_r0 b)) by unfold rSub_r0; rw [if_pos h0]),(show rSub_r1 a b=(rResult_r1 (IntKind.wrap .i64 (a - b)) (rIn_r0 b)) by unfold rSub_r1; rw [if_pos h0])]; exact rSub_1 a b h0
 ·rw [(show rSub_r0 a b=(0) by unfold rSub_r0; rw [if_neg h0]),(show rSub_r1 a b=(false) by unfold rSub_r1; rw [if_neg h0])]; exact rSub_2 a b (bFT h0)
section
variable (a b:Int)
include a b
theorem rMul_1 (hx0:rIn_r0 a=false):Pu 132 ([pI a,pI b]) (.ret (.tup [pI 0,.bool false])):=
 pu mdL (fun e=>[cl (@rIn (a)),rp 4 (bt (!rIn_r0 a) (bnT hx0)),bt true]) Tryz.func132
theorem rMul_2 (hx0:rIn_r0 a=true) (hx1:rIn_r0 b=false):Pu 132 ([pI a,pI b]) (.ret (.tup [pI 0,.bool false])):=
 pu mdL (fun e=>[cl (@rIn (a)),rp 2 (bf (!rIn_r0 a) (bnF hx0)),cl (@rIn (b)),rp 2 (bf (!rIn_r0 a) (bnF hx0)),bt (!rIn_r0 b) (bnT hx1)]) Tryz.func132
theorem rMul_3 (hx0:rIn_r0 a=true) (hx1:rIn_r0 b=true) (hx2:a=0):Pu 132 ([pI a,pI b]) (.ret (.tup [pI 0,.bool true])):=
 pu mdL (fun e=>[cl (@rIn (a)),rp 2 (bf (!rIn_r0 a) (bnF hx0)),cl (@rIn (b)),rp 2 (bf (!rIn_r0 a) (bnF hx0)),bf (!rIn_r0 b) (bnF hx1),rp 3 (et a 0 hx2),bt true]) Tryz.func132
theorem rMul_4 (hx0:rIn_r0 a=true) (hx1:rIn_r0 b=true) (hx2:¬a=0) (hx3:b=0):Pu 132 ([pI a,pI b]) (.ret (.tup [pI 0,.bool true])):=
 pu mdL (fun e=>[cl (@rIn (a)),rp 2 (bf (!rIn_r0 a) (bnF hx0)),cl (@rIn (b)),rp 2 (bf (!rIn_r0 a) (bnF hx0)),bf (!rIn_r0 b) (bnF hx1),rp 3 (en a 0 hx2),et b 0 hx3]) Tryz.func132
theorem rMul_5 (hx0:rIn_r0 a=true) (hx1:rIn_r0 b=true) (hx2:¬a=0) (hx3:¬b=0) (hx4:a<0) (hx5:b<0) (hx6:IntKind.wrap .i64 (0 - a)>IntKind.wrap .i64 (Int.tdiv 1000000000000 (IntKind.wrap .i64 (0 - b)))):Pu 132 ([pI a,pI b]) (.ret (.tup [pI 0,.bool false])):=
 pu mdL (fun e=>[cl (@rIn (a)),rp 2 (bf (!rIn_r0 a) (bnF hx0)),cl (@rIn (b)),rp 2 (bf (!rIn_r0 a) (bnF hx0)),bf (!rIn_r0 b) (bnF hx1),rp 3 (en a 0 hx2),en b 0 hx3,dt (a<0) hx4,kp,dt (b<0) hx5,rp 2 (kp),am (IntKind.wrap .i64 (0 - b)≠0) (by (apply wrap_neg_ne <;> first | assumption | omega | decide)),dt (IntKind.wrap .i64 (0 - a)>IntKind.wrap .i64 (Int.tdiv 1000000000000 (IntKind.wrap .i64 (0 - b)))) hx6]) Tryz.func132
theorem rMul_6 (hx0:rIn_r0 a=true) (hx1:rIn_r0 b=true) (hx2:¬a=0) (hx3:¬b=0) (hx4:a<0) (hx5:b<0) (hx6:¬IntKind.wrap .i64 (0 - a)>IntKind.wrap .i64 (Int.tdiv 1000000000000 (IntKind.wrap .i64 (0 - b)))):Pu 132 ([pI a,pI b]) (.ret (.tup [pI (IntKind.wrap .i64 (a * b)),.bool true])):=
 pu mdL (fun e=>[cl (@rIn (a)),rp 2 (bf (!rIn_r0 a) (bnF hx0)),cl (@rIn (b)),rp 2 (bf (!rIn_r0 a) (bnF hx0)),bf (!rIn_r0 b) (bnF hx1),rp 3 (en a 0 hx2),en b 0 hx3,dt (a<0) hx4,kp,dt (b<0) hx5,rp 2 (kp),am (IntKind.wrap .i64 (0 - b)≠0) (by (apply wrap_neg_ne <;> first | assumption | omega | decide)),df (IntKind.wrap .i64 (0 - a)>IntKind.wrap .i64 (Int.tdiv 1000000000000 (IntKind.wrap .i64 (0 - b)))) hx6,kp]) Tryz.func132
theorem rMul_7 (hx0:rIn_r0 a=true) (hx1:rIn_r0 b=true) (hx2:¬a=0) (hx3:¬b=0) (hx4:a<0) (hx5:¬b<0) (hx6:IntKind.wrap .i64 (0 - a)>IntKind.wrap .i64 (Int.tdiv 1000000000000 b)):Pu 132 ([pI a,pI b]) (.ret (.tup [pI 0,.bool false])):=
 pu mdL (fun e=>[cl (@rIn (a)),rp 2 (bf (!rIn_r0 a) (bnF hx0)),cl (@rIn (b)),rp 2 (bf (!rIn_r0 a) (bnF hx0)),bf (!rIn_r0 b) (bnF hx1),rp 3 (en a 0 hx2),en b 0 hx3,dt (a<0) hx4,kp,df (b<0) hx5,kp,am (b≠0) hx3,dt (IntKind.wrap .i64 (0 - a)>IntKind.wrap .i64 (Int.tdiv 1000000000000 b)) hx6]) Tryz.func132
theorem rMul_8 (hx0:rIn_r0 a=true) (hx1:rIn_r0 b=true) (hx2:¬a=0) (hx3:¬b=0) (hx4:a<0) (hx5:¬b<0) (hx6:¬IntKind.wrap .i64 (0 - a)>IntKind.wrap .i64 (Int.tdiv 1000000000000 b)):Pu 132 ([pI a,pI b]) (.ret (.tup [pI (IntKind.wrap .i64 (a * b)),.bool true])):=
 pu mdL (fun e=>[cl (@rIn (a)),rp 2 (bf (!rIn_r0 a) (bnF hx0)),cl (@rIn (b)),rp 2 (bf (!rIn_r0 a) (bnF hx0)),bf (!rIn_r0 b) (bnF hx1),rp 3 (en a 0 hx2),en b 0 hx3,dt (a<0) hx4,kp,df (b<0) hx5,kp,am (b≠0) hx3,df (IntKind.wrap .i64 (0 - a)>IntKind.wrap .i64 (Int.tdiv 1000000000000 b)) hx6,kp]) Tryz.func132
theorem rMul_9 (hx0:rIn_r0 a=true) (hx1:rIn_r0 b=true) (hx2:¬a=0) (hx3:¬b=0) (hx4:¬a<0) (hx5:b<0) (hx6:a>IntKind.wrap .i64 (Int.tdiv 1000000000000 (IntKind.wrap .i64 (0 - b)))):Pu 132 ([pI a,pI b]) (.ret (.tup [pI 0,.bool false])):=
 pu mdL (fun e=>[cl (@rIn (a)),rp 2 (bf (!rIn_r0 a) (bnF hx0)),cl (@rIn (b)),rp 2 (bf (!rIn_r0 a) (bnF hx0)),bf (!rIn_r0 b) (bnF hx1),rp 3 (en a 0 hx2),en b 0 hx3,df (a<0) hx4,dt (b<0) hx5,rp 2 (kp),am (IntKind.wrap .i64 (0 - b)≠0) (by (apply wrap_neg_ne <;> first | assumption | omega | decide)),dt (a>IntKind.wrap .i64 (Int.tdiv 1000000000000 (IntKind.wrap .i64 (0 - b)))) hx6]) Tryz.func132
theorem rMul_10 (hx0:rIn_r0 a=true) (hx1:rIn_r0 b=true) (hx2:¬a=0) (hx3:¬b=0) (hx4:¬a<0) (hx5:b<0) (hx6:¬a>IntKind.wrap .i64 (Int.tdiv 1000000000000 (IntKind.wrap .i64 (0 - b)))):Pu 132 ([pI a,pI b]) (.ret (.tup [pI (IntKind.wrap .i64 (a * b)),.bool true])):=
 pu mdL (fun e=>[cl (@rIn (a)),rp 2 (bf (!rIn_r0 a) (bnF hx0)),cl (@rIn (b)),rp 2 (bf (!rIn_r0 a) (bnF hx0)),bf (!rIn_r0 b) (bnF hx1),rp 3 (en a 0 hx2),en b 0 hx3,df (a<0) hx4,dt (b<0) hx5,rp 2 (kp),am (IntKind.wrap .i64 (0 - b)≠0) (by (apply wrap_neg_ne <;> first | assumption | omega | decide)),df (a>IntKind.wrap .i64 (Int.tdiv 1000000000000 (IntKind.wrap .i64 (0 - b)))) hx6,kp]) Tryz.func132
theorem rMul_11 (hx0:rIn_r0 a=true) (hx1:rIn_r0 b=true) (hx2:¬a=0) (hx3:¬b=0) (hx4:¬a<0) (hx5:¬b<0) (hx6:a>IntKind.wrap .i64 (Int.tdiv 1000000000000 b)):Pu 132 ([pI a,pI b]) (.ret (.tup [pI 0,.bool false])):=
 pu mdL (fun e=>[cl (@rIn (a)),rp 2 (bf (!rIn_r0 a) (bnF hx0)),cl (@rIn (b)),rp 2 (bf (!rIn_r0 a) (bnF hx0)),bf (!rIn_r0 b) (bnF hx1),rp 3 (en a 0 hx2),en b 0 hx3,df (a<0) hx4,df (b<0) hx5,kp,am (b≠0) hx3,dt (a>IntKind.wrap .i64 (Int.tdiv 1000000000000 b)) hx6]) Tryz.func132
theorem rMul_12 (hx0:rIn_r0 a=true) (hx1:rIn_r0 b=true) (hx2:¬a=0) (hx3:¬b=0) (hx4:¬a<0) (hx5:¬b<0) (hx6:¬a>IntKind.wrap .i64 (Int.tdiv 1000000000000 b)):Pu 132 ([pI a,pI b]) (.ret (.tup [pI (IntKind.wrap .i64 (a * b)),.bool true])):=
 pu mdL (fun e=>[cl (@rIn (a)),rp 2 (bf (!rIn_r0 a) (bnF hx0)),cl (@rIn (b)),rp 2 (bf (!rIn_r0 a) (bnF hx0)),bf (!rIn_r0 b) (bnF hx1),rp 3 (en a 0 hx2),en b 0 hx3,df (a<0) hx4,df (b<0) hx5,kp,am (b≠0) hx3,df (a>IntKind.wrap .i64 (Int.tdiv 1000000000000 b)) hx6,kp]) Tryz.func132
end
def rMul_r0 (a:Int) (b:Int):Int:=(if rIn_r0 a=false then (0) else (if rIn_r0 b=false then (0) else (if a=0 then (0) else (if b=0 then (0) else (if a<0 then (if b<0 then (if IntKind.wrap .i64 (0 - a)>IntKind.wrap .i64 (Int.tdiv 1000000000000 (IntKind.wrap .i64 (0 - b))) then (0) else (IntKind.wrap .i64 (a * b))) else (if IntKind.wrap .i64 (0 - a)>IntKind.wrap .i64 (Int.tdiv 1000000000000 b) then (0) else (IntKind.wrap .i64 (a * b)))) else (if b<0 then (if a>IntKind.wrap .i64 (Int.tdiv 1000000000000 (IntKind.wrap .i64 (0 - b))) then (0) else (IntKind.wrap .i64 (a * b))) else (if a>IntKind.wrap .i64 (Int.tdiv 1000000000000 b) then (0) else (IntKind.wrap .i64 (a * b)))))))))
def rMul_r1 (a:Int) (b:Int):Bool:=(if rIn_r0 a=false then (false) else (if rIn_r0 b=false then (false) else (if a=0 then (true) else (if b=0 then (true) else (if a<0 then (if b<0 then (if IntKind.wrap .i64 (0 - a)>IntKind.wrap .i64 (Int.tdiv 1000000000000 (IntKind.wrap .i64 (0 - b))) then (false) else (true)) else (if IntKind.wrap .i64 (0 - a)>IntKind.wrap .i64 (Int.tdiv 1000000000000 b) then (false) else (true))) else (if b<0 then (if a>IntKind.wrap .i64 (Int.tdiv 1000000000000 (IntKind.wrap .i64 (0 - b))) then (false) else (true)) else (if a>IntKind.wrap .i64 (Int.tdiv 1000000000000 b) then (false) else (true))))))))
theorem rMul (a b:Int):Pu 132 ([pI a,pI b]) (.ret (.tup [pI (rMul_r0 a b),.bool (rMul_r1 a b)])):=by
 by_cases h0:rIn_r0 a=false
 ·rw [(show rMul_r0 a b=(0) by unfold rMul_r0; rw [if_pos h0]),(show rMul_r1 a b=(false) by unfold rMul_r1; rw [if_pos h0])]; exact rMul_1 a b h0
 ·by_cases h1:rIn_r0 b=false
  ·rw [(show rMul_r0 a b=(0) by unfold rMul_r0; rw [if_neg h0,if_pos h1]),(show rMul_r1 a b=(false) by unfold rMul_r1; rw [if_neg h0,if_pos h1])]; exact rMul_2 a b (bTF h0) h1
  ·by_cases h2:a=0
   ·rw [(show rMul_r0 a b=(0) by unfold rMul_r0; rw [if_neg h0,if_neg h1,if_pos h2]),(show rMul_r1 a b=(true) by unfold rMul_r1; rw [if_neg h0,if_neg h1,if_pos h2])]; exact rMul_3 a b (bTF h0) (bTF h1) h2
   ·by_cases h3:b=0
    ·rw [(show rMul_r0 a b=(0) by unfold rMul_r0; rw [if_neg h0,if_neg h1,if_neg h2,if_pos h3]),(show rMul_r1 a b=(true) by unfold rMul_r1; rw [if_neg h0,if_neg h1,if_neg h2,if_pos h3])]; exact rMul_4 a b (bTF h0) (bTF h1) h2 h3
    ·by_cases h4:a<0
     ·by_cases h5:b<0
      ·by_cases h6:IntKind.wrap .i64 (0 - a)>IntKind.wrap .i64 (Int.tdiv 1000000000000 (IntKind.wrap .i64 (0 - b)))
       ·rw [(show rMul_r0 a b=(0) by unfold rMul_r0; rw [if_neg h0,if_neg h1,if_neg h2,if_neg h3,if_pos h4,if_pos h5,if_pos h6]),(show rMul_r1 a b=(false) by unfold rMul_r1; rw [if_neg h0,if_neg h1,if_neg h2,if_neg h3,if_pos h4,if_pos h5,if_pos h6])]; exact rMul_5 a b (bTF h0) (bTF h1) h2 h3 h4 h5 h6
       ·rw [(show rMul_r0 a b=(IntKind.wrap .i64 (a * b)) by unfold rMul_r0; rw [if_neg h0,if_neg h1,if_neg h2,if_neg h3,if_pos h4,if_pos h5,if_neg h6]),(show rMul_r1 a b=(true) by unfold rMul_r1; rw [if_neg h0,if_neg h1,if_neg h2,if_neg h3,if_pos h4,if_pos h5,if_neg h6])]; exact rMul_6 a b (bTF h0) (bTF h1) h2 h3 h4 h5 h6
      ·by_cases h6:IntKind.wrap .i64 (0 - a)>IntKind.wrap .i64 (Int.tdiv 1000000000000 b)
       ·rw [(show rMul_r0 a b=(0) by unfold rMul_r0; rw [if_neg h0,if_neg h1,if_neg h2,if_neg h3,if_pos h4,if_neg h5,if_pos h6]),(show rMul_r1 a b=(false) by unfold rMul_r1; rw [if_neg h0,if_neg h1,if_neg h2,if_neg h3,if_pos h4,if_neg h5,if_pos h6])]; exact rMul_7 a b (bTF h0) (bTF h1) h2 h3 h4 h5 h6
       ·rw [(show rMul_r0 a b=(IntKind.wrap .i64 (a * b)) by unfold rMul_r0; rw [if_neg h0,if_neg h1,if_neg h2,if_neg h3,if_pos h4,if_neg h5,if_neg h6]),(show rMul_r1 a b=(true) by unfold rMul_r1; rw [if_neg h0,if_neg h1,if_neg h2,if_neg h3,if_pos h4,if_neg h5,if_neg h6])]; exact rMul_8 a b (bTF h0) (bTF h1) h2 h3 h4 h5 h6
     ·by_cases h5:b<0
      ·by_cases h6:a>IntKind.wrap .i64 (Int.tdiv 1000000000000 (IntKind.wrap .i64 (0 - b)))
       ·rw [(show rMul_r0 a b=(0) by unfold rMul_r0; rw [if_neg h0,if_neg h1,if_neg h2,if_neg h3,if_neg h4,if_pos h5,if_pos h6]),(show rMul_r1 a b=(false) by unfold rMul_r1; rw [if_neg h0,if_neg h1,if_neg h2,if_neg h3,if_neg h4,if_pos h5,if_pos h6])]; exact rMul_9 a b (bTF h0) (bTF h1) h2 h3 h4 h5 h6
       ·rw [(show rMul_r0 a b=(IntKind.wrap .i64 (a * b)) by unfold rMul_r0; rw [if_neg h0,if_neg h1,if_neg h2,if_neg h3,if_neg h4,if_pos h5,if_neg h6]),(show rMul_r1 a b=(true) by unfold rMul_r1; rw [if_neg h0,if_neg h1,if_neg h2,if_neg h3,if_neg h4,if_pos h5,if_neg h6])]; exact rMul_10 a b (bTF h0) (bTF h1) h2 h3 h4 h5 h6
      ·by_cases h6:a>IntKind.wrap .i64 (Int.tdiv 1000000000000 b)
       ·rw [(show rMul_r0 a b=(0) by unfold rMul_r0; rw [if_neg h0,if_neg h1,if_neg h2,if_neg h3,if_neg h4,if_neg h5,if_pos h6]),(show rMul_r1 a b=(false) by unfold rMul_r1; rw [if_neg h0,if_neg h1,if_neg h2,if_neg h3,if_neg h4,if_neg h5,if_pos h6])]; exact rMul_11 a b (bTF h0) (bTF h1) h2 h3 h4 h5 h6
       ·rw [(show rMul_r0 a b=(IntKind.wrap .i64 (a * b)) by unfold rMul_r0; rw [if_neg h0,if_neg h1,if_neg h2,if_neg h3,if_neg h4,if_neg h5,if_neg h6]),(show rMul_r1 a b=(true) by unfold rMul_r1; rw [if_neg h0,if_neg h1,if_neg h2,if_neg h3,if_neg h4,if_neg h5,if_neg h6])]; exact rMul_12 a b (bTF h0) (bTF h1) h2 h3 h4 h5 h6
section
variable (a b:Int)
include a b
theorem rDiv_1 (hx0:rIn_r0 a=false):Pu 133 ([pI a,pI b]) (.ret (.tup [pI 0,.bool false])):=
 pu mdL (fun e=>[cl (@rIn (a)),rp 4 (bt (!rIn_r0 a) (bnT hx0)),rp 4 (bt true)]) Tryz.func133
theorem rDiv_2 (hx0:rIn_r0 a=true) (hx1:rIn_r0 b=false):Pu 133 ([pI a,pI b]) (.ret (.tup [pI 0,.bool false])):=
 pu mdL (fun e=>[cl (@rIn (a)),rp 2 (bf (!rIn_r0 a) (bnF hx0)),cl (@rIn (b)),rp 2 (bf (!rIn_r0 a) (bnF hx0)),rp 3 (bt (!rIn_r0 b) (bnT hx1)),bt true]) Tryz.func133
theorem rDiv_3 (hx0:rIn_r0 a=true) (hx1:rIn_r0 b=true) (hx2:b=0):Pu 133 ([pI a,pI b]) (.ret (.tup [pI 0,.bool false])):=
 pu mdL (fun e=>[cl (@rIn (a)),rp 2 (bf (!rIn_r0 a) (bnF hx0)),cl (@rIn (b)),rp 2 (bf (!rIn_r0 a) (bnF hx0)),rp 3 (bf (!rIn_r0 b) (bnF hx1)),et b 0 hx2]) Tryz.func133
theorem rDiv_4 (hx0:rIn_r0 a=true) (hx1:rIn_r0 b=true) (hx2:¬b=0) (hx3:¬IntKind.wrap .i64 (IntKind.wrap .i64 (Int.tdiv a b) * b)=a) (hx4:(if false=true then decide (a<0)==decide (b<0) else !decide (a<0)==decide (b<0))=true):Pu 133 ([pI a,pI b]) (.ret (.tup [pI (IntKind.wrap .i64 (IntKind.wrap .i64 (Int.tdiv a b) - 1)),.bool true])):=
 pu mdL (fun e=>[cl (@rIn (a)),rp 2 (bf (!rIn_r0 a) (bnF hx0)),cl (@rIn (b)),rp 2 (bf (!rIn_r0 a) (bnF hx0)),rp 3 (bf (!rIn_r0 b) (bnF hx1)),en b 0 hx2,rp 2 (kp),am (b≠0) hx2,rp 6 (nt (IntKind.wrap .i64 (IntKind.wrap .i64 (Int.tdiv a b) * b)) a hx3),bt (if false=true then decide (a<0)==decide (b<0) else !decide (a<0)==decide (b<0)) hx4,kp]) Tryz.func133
theorem rDiv_5 (hx0:rIn_r0 a=true) (hx1:rIn_r0 b=true) (hx2:¬b=0) (hx3:¬IntKind.wrap .i64 (IntKind.wrap .i64 (Int.tdiv a b) * b)=a) (hx4:(if false=true then decide (a<0)==decide (b<0) else !decide (a<0)==decide (b<0))=false):Pu 133 ([pI a,pI b]) (.ret (.tup [pI (IntKind.wrap .i64 (Int.tdiv a b)),.bool true])):=
 pu mdL (fun e=>[cl (@rIn (a)),rp 2 (bf (!rIn_r0 a) (bnF hx0)),cl (@rIn (b)),rp 2 (bf (!rIn_r0 a) (bnF hx0)),rp 3 (bf (!rIn_r0 b) (bnF hx1)),en b 0 hx2,rp 2 (kp),am (b≠0) hx2,rp 6 (nt (IntKind.wrap .i64 (IntKind.wrap .i64 (Int.tdiv a b) * b)) a hx3),bf (if false=true then decide (a<0)==decide (b<0) else !decide (a<0)==decide (b<0)) hx4]) Tryz.func133
theorem rDiv_6 (hx0:rIn_r0 a=true) (hx1:rIn_r0 b=true) (hx2:¬b=0) (hx3:IntKind.wrap .i64 (IntKind.wrap .i64 (Int.tdiv a b) * b)=a):Pu 133 ([pI a,pI b]) (.ret (.tup [pI (IntKind.wrap .i64 (Int.tdiv a b)),.bool true])):=
 pu mdL (fun e=>[cl (@rIn (a)),rp 2 (bf (!rIn_r0 a) (bnF hx0)),cl (@rIn (b)),rp 2 (bf (!rIn_r0 a) (bnF hx0)),rp 3 (bf (!rIn_r0 b) (bnF hx1)),en b 0 hx2,rp 2 (kp),am (b≠0) hx2,rp 6 (nn (IntKind.wrap .i64 (IntKind.wrap .i64 (Int.tdiv a b) * b)) a hx3),bf false]) Tryz.func133
end
def rDiv_r0 (a:Int) (b:Int):Int:=(if rIn_r0 a=false then (0) else (if rIn_r0 b=false then (0) else (if b=0 then (0) else (if IntKind.wrap .i64 (IntKind.wrap .i64 (Int.tdiv a b) * b)=a then (IntKind.wrap .i64 (Int.tdiv a b)) else (if (if false=true then decide (a<0)==decide (b<0) else !decide (a<0)==decide (b<0))=true then (IntKind.wrap .i64 (IntKind.wrap .i64 (Int.tdiv a b) - 1)) else (IntKind.wrap .i64 (Int.tdiv a b)))))))
def rDiv_r1 (a:Int) (b:Int):Bool:=(if rIn_r0 a=false then (false) else (if rIn_r0 b=false then (false) else (if b=0 then (false) else (if IntKind.wrap .i64 (IntKind.wrap .i64 (Int.tdiv a b) * b)=a then (true) else (if (if false=true then decide (a<0)==decide (b<0) else !decide (a<0)==decide (b<0))=true then (true) else (true))))))
theorem rDiv (a b:Int):Pu 133 ([pI a,pI b]) (.ret (.tup [pI (rDiv_r0 a b),.bool (rDiv_r1 a b)])):=by
 by_cases h0:rIn_r0 a=false
 ·rw [(show rDiv_r0 a b=(0) by unfold rDiv_r0; rw [if_pos h0]),(show rDiv_r1 a b=(false) by unfold rDiv_r1; rw [if_pos h0])]; exact rDiv_1 a b h0
 ·by_cases h1:rIn_r0 b=false
  ·rw [(show rDiv_r0 a b=(0) by unfold rDiv_r0; rw [if_neg h0,if_pos h1]),(show rDiv_r1 a b=(false) by unfold rDiv_r1; rw [if_neg h0,if_pos h1])]; exact rDiv_2 a b (bTF h0) h1
  ·by_cases h2:b=0
   ·rw [(show rDiv_r0 a b=(0) by unfold rDiv_r0; rw [if_neg h0,if_neg h1,if_pos h2]),(show rDiv_r1 a b=(false) by unfold rDiv_r1; rw [if_neg h0,if_neg h1,if_pos h2])]; exact rDiv_3 a b (bTF h0) (bTF h1) h2
   ·by_cases h3:IntKind.wrap .i64 (IntKind.wrap .i64 (Int.tdiv a b) * b)=a
    ·rw [(show rDiv_r0 a b=(IntKind.wrap .i64 (Int.tdiv a b)) by unfold rDiv_r0; rw [if_neg h0,if_neg h1,if_neg h2,if_pos h3]),(show rDiv_r1 a b=(true) by unfold rDiv_r1; rw [if_neg h0,if_neg h1,if_neg h2,if_pos h3])]; exact rDiv_6 a b (bTF h0) (bTF h1) h2 h3
    ·by_cases h4:(if false=true then decide (a<0)==decide (b<0) else !decide (a<0)==decide (b<0))=true
     ·rw [(show rDiv_r0 a b=(IntKind.wrap .i64 (IntKind.wrap .i64 (Int.tdiv a b) - 1)) by unfold rDiv_r0; rw [if_neg h0,if_neg h1,if_neg h2,if_neg h3,if_pos h4]),(show rDiv_r1 a b=(true) by unfold rDiv_r1; rw [if_neg h0,if_neg h1,if_neg h2,if_neg h3,if_pos h4])]; exact rDiv_4 a b (bTF h0) (bTF h1) h2 h3 h4
     ·rw [(show rDiv_r0 a b=(IntKind.wrap .i64 (Int.tdiv a b)) by unfold rDiv_r0; rw [if_neg h0,if_neg h1,if_neg h2,if_neg h3,if_neg h4]),(show rDiv_r1 a b=(true) by unfold rDiv_r1; rw [if_neg h0,if_neg h1,if_neg h2,if_neg h3,if_neg h4])]; exact rDiv_5 a b (bTF h0) (bTF h1) h2 h3 (bFT h4)
theorem rMod_1 (a b:Int) (hx0:rDiv_r1 a b=false):Pu 134 ([pI a,pI b]) (.ret (.tup [pI 0,.bool false])):=
 pu mdL (fun e=>[cl (@rDiv (a) (b)),bt (!rDiv_r1 a b) (bnT hx0)]) Tryz.func134
theorem rMod_2 (a b:Int) (hx0:rDiv_r1 a b=true):Pu 134 ([pI a,pI b]) (.ret (.tup [pI (IntKind.wrap .i64 (a - IntKind.wrap .i64 (b * rDiv_r0 a b))),.bool true])):=
 pu mdL (fun e=>[cl (@rDiv (a) (b)),bf (!rDiv_r1 a b) (bnF hx0),rp 2 (kp)]) Tryz.func134
def rMod_r0 (a:Int) (b:Int):Int:=(if rDiv_r1 a b=false then (0) else (IntKind.wrap .i64 (a - IntKind.wrap .i64 (b * rDiv_r0 a b))))
def rMod_r1 (a:Int) (b:Int):Bool:=(if rDiv_r1 a b=false then (false) else (true))
theorem rMod (a b:Int):Pu 134 ([pI a,pI b]) (.ret (.tup [pI (rMod_r0 a b),.bool (rMod_r1 a b)])):=by
 by_cases h0:rDiv_r1 a b=false
 ·rw [(show rMod_r0 a b=(0) by unfold rMod_r0; rw [if_pos h0]),(show rMod_r1 a b=(false) by unfold rMod_r1; rw [if_pos h0])]; exact rMod_1 a b h0
 ·rw [(show rMod_r0 a b=(IntKind.wrap .i64 (a - IntKind.wrap .i64 (b * rDiv_r0 a b))) by unfold rMod_r0; rw [if_neg h0]),(show rMod_r1 a b=(true) by unfold rMod_r1; rw [if_neg h0])]; exact rMod_2 a b (bTF h0)
end Go.Proofs.YtgonmmckkikmaaaGreat
namespace Go.Proofs.YtgonmmckkikmaaaGreat
open Go.Pv
inductive Pr where
 | mk (op:Int) (name:ByteArray) (n:Int) (kids:List Pr)
inductive Tp where
 | mk (op:Int) (name:ByteArray) (args:List Tp) (names:List ByteArray) (pred:Pr) (preds:List Pr)
inductive Pm where
 | mk (name:ByteArray) (type:Tp)
mutual
inductive Ex where
 | mk (op:Int) (name:ByteArray) (n:Int) (kids:List Ex) (params:List Pm) (alts:List Al) (types:List Tp)
inductive Al where
 | mk (con:ByteArray) (names:List ByteArray) (body:Ex)
end
mutual
inductive Vl where
 | mk (op n:Int) (name:ByteArray) (kids:List Vl) (params:List ByteArray) (body:List Ex) (binds:List Bd)
inductive Bd where
 | mk (name:ByteArray) (value:Vl)
end
inductive Df where
 | mk (name:ByteArray) (params:List ByteArray) (body:Ex) (mode:Int) (typed:Bool) (vars:List ByteArray) (needs abs bounds:PV) (type:Tp) (metric:List Pr)
abbrev nm0:ByteArray:=ByteArray.mk #[]
instance:Inhabited Pr:=⟨.mk 0 nm0 0 []⟩
instance:Inhabited Tp:=⟨.mk 0 nm0 [] [] default []⟩
instance:Inhabited Pm:=⟨.mk nm0 default⟩
instance:Inhabited Ex:=⟨.mk 0 nm0 0 [] [] [] []⟩
instance:Inhabited Al:=⟨.mk nm0 [] default⟩
instance:Inhabited Vl:=⟨.mk 0 0 nm0 [] [] [] []⟩
instance:Inhabited Bd:=⟨.mk nm0 default⟩
instance:Inhabited Df:=⟨.mk nm0 [] default 0 false [] (.sl 2 []) (.sl 2 []) (.sl 2 []) default []⟩
def prO:Pr->Int | .mk x _ _ _=>x
def prNm:Pr->ByteArray | .mk _ x _ _=>x
def prN:Pr->Int | .mk _ _ x _=>x
def prK:Pr->List Pr | .mk _ _ _ x=>x
def tpO:Tp->Int | .mk x _ _ _ _ _=>x
def tpNm:Tp->ByteArray | .mk _ x _ _ _ _=>x
def tpA:Tp->List Tp | .mk _ _ x _ _ _=>x
def tpNs:Tp->List ByteArray | .mk _ _ _ x _ _=>x
def tpP:Tp->Pr | .mk _ _ _ _ x _=>x
def tpPs:Tp->List Pr | .mk _ _ _ _ _ x=>x
def pmNm:Pm->ByteArray | .mk x _=>x
def pmT:Pm->Tp | .mk _ x=>x
def exO:Ex->Int | .mk x _ _ _ _ _ _=>x
def exNm:Ex->ByteArray | .mk _ x _ _ _ _ _=>x
def exN:Ex->Int | .mk _ _ x _ _ _ _=>x
def exK:Ex->List Ex | .mk _ _ _ x _ _ _=>x
def exP:Ex->List Pm | .mk _ _ _ _ x _ _=>x
def exA:Ex->List Al | .mk _ _ _ _ _ x _=>x
def exT:Ex->List Tp | .mk _ _ _ _ _ _ x=>x
def alC:Al->ByteArray | .mk x _ _=>x
def alNs:Al->List ByteArray | .mk _ x _=>x
def alB:Al->Ex | .mk _ _ x=>x
def vlO:Vl->Int | .mk x _ _ _ _ _ _=>x
def vlN:Vl->Int | .mk _ x _ _ _ _ _=>x
def vlNm:Vl->ByteArray | .mk _ _ x _ _ _ _=>x
def vlK:Vl->List Vl | .mk _ _ _ x _ _ _=>x
def vlP:Vl->List ByteArray | .mk _ _ _ _ x _ _=>x
def vlB:Vl->List Ex | .mk _ _ _ _ _ x _=>x
def vlBd:Vl->List Bd | .mk _ _ _ _ _ _ x=>x
def bdNm:Bd->ByteArray | .mk x _=>x
def bdV:Bd->Vl | .mk _ x=>x
def dfNm:Df->ByteArray | .mk x _ _ _ _ _ _ _ _ _ _=>x
def dfP:Df->List ByteArray | .mk _ x _ _ _ _ _ _ _ _ _=>x
def dfB:Df->Ex | .mk _ _ x _ _ _ _ _ _ _ _=>x
def dfM:Df->Int | .mk _ _ _ x _ _ _ _ _ _ _=>x
def dfTy:Df->Bool | .mk _ _ _ _ x _ _ _ _ _ _=>x
def dfVs:Df->List ByteArray | .mk _ _ _ _ _ x _ _ _ _ _=>x
def dfNe:Df->PV | .mk _ _ _ _ _ _ x _ _ _ _=>x
def dfAb:Df->PV | .mk _ _ _ _ _ _ _ x _ _ _=>x
def dfBo:Df->PV | .mk _ _ _ _ _ _ _ _ x _ _=>x
def dfT:Df->Tp | .mk _ _ _ _ _ _ _ _ _ x _=>x
def dfMe:Df->List Pr | .mk _ _ _ _ _ _ _ _ _ _ x=>x
def nmsC:List ByteArray->List (List PV)
 | []=>[]
 | s::r=>[.str s]::nmsC r
mutual
def Pr.c:Pr->List PV
 | .mk op name n kids=>[.int .i64 op,.str name,.int .i64 n,.sl 4 (Pr.cs kids)]
def Pr.cs:List Pr->List (List PV)
 | []=>[]
 | x::r=>Pr.c x::Pr.cs r
end
abbrev prL (x:Pr):List PV:=[.int .i64 (prO x),.str (prNm x),.int .i64 (prN x),.sl 4 (Pr.cs (prK x))]
mutual
def Tp.c:Tp->List PV
 | .mk op name args names pred preds=>[.int .i64 op,.str name,.sl 9 (Tp.cs args),.sl 1 (nmsC names),.int .i64 (prO pred),.str (prNm pred),.int .i64 (prN pred),.sl 4 (Pr.cs (prK pred)),.sl 4 (Pr.cs preds)]
def Tp.cs:List Tp->List (List PV)
 | []=>[]
 | x::r=>Tp.c x::Tp.cs r
end
abbrev tpL (x:Tp):List PV:=[.int .i64 (tpO x),.str (tpNm x),.sl 9 (Tp.cs (tpA x)),.sl 1 (nmsC (tpNs x)),.int .i64 (prO (tpP x)),.str (prNm (tpP x)),.int .i64 (prN (tpP x)),.sl 4 (Pr.cs (prK (tpP x))),.sl 4 (Pr.cs (tpPs x))]
abbrev pmL (p:Pm):List PV := .str (pmNm p)::tpL (pmT p)
def pmsC:List Pm->List (List PV)
 | []=>[]
 | x::r=>pmL x::pmsC r
mutual
def Ex.c:Ex->List PV
 | .mk op name n kids params alts types=>[.int .i64 op,.str name,.int .i64 n,.sl 7 (Ex.cs kids),.sl 10 (pmsC params),.sl 9 (Al.cs alts),.sl 9 (Tp.cs types)]
def Ex.cs:List Ex->List (List PV)
 | []=>[]
 | x::r=>Ex.c x::Ex.cs r
def Al.c:Al->List PV
 | .mk con names body => .str con :: .sl 1 (nmsC names)::Ex.c body
def Al.cs:List Al->List (List PV)
 | []=>[]
 | x::r=>Al.c x::Al.cs r
end
abbrev exL (x:Ex):List PV:=[.int .i64 (exO x),.str (exNm x),.int .i64 (exN x),.sl 7 (Ex.cs (exK x)),.sl 10 (pmsC (exP x)),.sl 9 (Al.cs (exA x)),.sl 9 (Tp.cs (exT x))]
abbrev alL (x:Al):List PV := .str (alC x) :: .sl 1 (nmsC (alNs x))::exL (alB x)
mutual
def Vl.c:Vl->List PV
 | .mk op n name kids params body binds=>[.int .i64 op,.int .i64 n,.str name,.sl 7 (Vl.cs kids),.sl 1 (nmsC params),.sl 7 (Ex.cs body),.sl 8 (Bd.cs binds)]
def Vl.cs:List Vl->List (List PV)
 | []=>[]
 | x::r=>Vl.c x::Vl.cs r
def Bd.c:Bd->List PV
 | .mk name value => .str name::Vl.c value
def Bd.cs:List Bd->List (List PV)
 | []=>[]
 | x::r=>Bd.c x::Bd.cs r
end
abbrev vlL (x:Vl):List PV:=[.int .i64 (vlO x),.int .i64 (vlN x),.str (vlNm x),.sl 7 (Vl.cs (vlK x)),.sl 1 (nmsC (vlP x)),.sl 7 (Ex.cs (vlB x)),.sl 8 (Bd.cs (vlBd x))]
abbrev bdL (x:Bd):List PV := .str (bdNm x)::vlL (bdV x)
abbrev dfL (d:Df):List PV := .str (dfNm d) :: .sl 1 (nmsC (dfP d))::(exL (dfB d) ++ .int .i64 (dfM d) :: .bool (dfTy d) :: .sl 1 (nmsC (dfVs d))::dfNe d::dfAb d::dfBo d::(tpL (dfT d)++[.sl 4 (Pr.cs (dfMe d))]))
def dfsC:List Df->List (List PV)
 | []=>[]
 | x::r=>dfL x::dfsC r
theorem Pr.c_eq (x:Pr):Pr.c x=prL x:=by cases x; rfl
theorem Tp.c_eq (x:Tp):Tp.c x=tpL x:=by cases x; rfl
theorem Ex.c_eq (x:Ex):Ex.c x=exL x:=by cases x; rfl
theorem Al.c_eq (x:Al):Al.c x=alL x:=by cases x; simp only [Al.c,alL,alC,alNs,alB,Ex.c_eq]
theorem Vl.c_eq (x:Vl):Vl.c x=vlL x:=by cases x; rfl
theorem Bd.c_eq (x:Bd):Bd.c x=bdL x:=by cases x; simp only [Bd.c,bdL,bdNm,bdV,Vl.c_eq]
theorem nmsC_eq (l:List ByteArray):nmsC l=l.map (fun s=>[.str s]):=by induction l with | nil=>rfl | cons x r ih=>simp [nmsC,ih]
theorem nmsC_len (l:List ByteArray):(nmsC l).length=l.length:=by simp [nmsC_eq]
theorem nmsC_at {l:List ByteArray} {i:Nat} (h:i<l.length):(nmsC l).getD i []=[.str (l.getD i nm0)]:=by rw [nmsC_eq]; simp [List.getD,h]
theorem nmsC_app (a b:List ByteArray):nmsC (a++b)=nmsC a++nmsC b:=by simp [nmsC_eq]
theorem Pr.cs_eq (l:List Pr):Pr.cs l=l.map (prL):=by induction l with | nil=>rfl | cons x r ih=>simp [Pr.cs,ih,Pr.c_eq]
theorem Pr.cs_len (l:List Pr):(Pr.cs l).length=l.length:=by simp [Pr.cs_eq]
theorem Pr.cs_at {l:List Pr} {i:Nat} (h:i<l.length):(Pr.cs l).getD i []=prL (l.getD i default):=by rw [Pr.cs_eq]; simp [List.getD,h]
theorem Tp.cs_eq (l:List Tp):Tp.cs l=l.map (tpL):=by induction l with | nil=>rfl | cons x r ih=>simp [Tp.cs,ih,Tp.c_eq]
theorem Tp.cs_len (l:List Tp):(Tp.cs l).length=l.length:=by simp [Tp.cs_eq]
theorem Tp.cs_at {l:List Tp} {i:Nat} (h:i<l.length):(Tp.cs l).getD i []=tpL (l.getD i default):=by rw [Tp.cs_eq]; simp [List.getD,h]
theorem pmsC_eq (l:List Pm):pmsC l=l.map (pmL):=by induction l with | nil=>rfl | cons x r ih=>simp [pmsC,ih]
theorem pmsC_len (l:List Pm):(pmsC l).length=l.length:=by simp [pmsC_eq]
theorem pmsC_at {l:List Pm} {i:Nat} (h:i<l.length):(pmsC l).getD i []=pmL (l.getD i default):=by rw [pmsC_eq]; simp [List.getD,h]
theorem Ex.cs_eq (l:List Ex):Ex.cs l=l.map (exL):=by induction l with | nil=>rfl | cons x r ih=>simp [Ex.cs,ih,Ex.c_eq]
theorem Ex.cs_len (l:List Ex):(Ex.cs l).length=l.length:=by simp [Ex.cs_eq]
theorem Ex.cs_at {l:List Ex} {i:Nat} (h:i<l.length):(Ex.cs l).getD i []=exL (l.getD i default):=by rw [Ex.cs_eq]; simp [List.getD,h]
theorem Al.cs_eq (l:List Al):Al.cs l=l.map (alL):=by induction l with | nil=>rfl | cons x r ih=>simp [Al.cs,ih,Al.c_eq]
theorem Al.cs_len (l:List Al):(Al.cs l).length=l.length:=by simp [Al.cs_eq]
theorem Al.cs_at {l:List Al} {i:Nat} (h:i<l.length):(Al.cs l).getD i []=alL (l.getD i default):=by rw [Al.cs_eq]; simp [List.getD,h]
theorem Vl.cs_eq (l:List Vl):Vl.cs l=l.map (vlL):=by induction l with | nil=>rfl | cons x r ih=>simp [Vl.cs,ih,Vl.c_eq]
theorem Vl.cs_len (l:List Vl):(Vl.cs l).length=l.length:=by simp [Vl.cs_eq]
theorem Vl.cs_at {l:List Vl} {i:Nat} (h:i<l.length):(Vl.cs l).getD i []=vlL (l.getD i default):=by rw [Vl.cs_eq]; simp [List.getD,h]
theorem Vl.cs_app (a b:List Vl):Vl.cs (a++b)=Vl.cs a++Vl.cs b:=by simp [Vl.cs_eq]
theorem Bd.cs_eq (l:List Bd):Bd.cs l=l.map (bdL):=by induction l with | nil=>rfl | cons x r ih=>simp [Bd.cs,ih,Bd.c_eq]
theorem Bd.cs_len (l:List Bd):(Bd.cs l).length=l.length:=by simp [Bd.cs_eq]
theorem Bd.cs_at {l:List Bd} {i:Nat} (h:i<l.length):(Bd.cs l).getD i []=bdL (l.getD i default):=by rw [Bd.cs_eq]; simp [List.getD,h]
theorem dfsC_eq (l:List Df):dfsC l=l.map (dfL):=by induction l with | nil=>rfl | cons x r ih=>simp [dfsC,ih]
theorem dfsC_len (l:List Df):(dfsC l).length=l.length:=by simp [dfsC_eq]
theorem dfsC_at {l:List Df} {i:Nat} (h:i<l.length):(dfsC l).getD i []=dfL (l.getD i default):=by rw [dfsC_eq]; simp [List.getD,h]
abbrev exV (x:Ex):List LV:=[.v (.int .i64 (exO x)),.v (.str (exNm x)),.v (.int .i64 (exN x)),.v (.sl 7 (Ex.cs (exK x))),.v (.sl 10 (pmsC (exP x))),.v (.sl 9 (Al.cs (exA x))),.v (.sl 9 (Tp.cs (exT x)))]
abbrev vlV (x:Vl):List LV:=[.v (.int .i64 (vlO x)),.v (.int .i64 (vlN x)),.v (.str (vlNm x)),.v (.sl 7 (Vl.cs (vlK x))),.v (.sl 1 (nmsC (vlP x))),.v (.sl 7 (Ex.cs (vlB x))),.v (.sl 8 (Bd.cs (vlBd x)))]
abbrev dfV (d:Df):List LV := .v (.str (dfNm d)) :: .v (.sl 1 (nmsC (dfP d)))::(exV (dfB d) ++ .v (.int .i64 (dfM d)) :: .v (.bool (dfTy d)) :: .v (.sl 1 (nmsC (dfVs d))) :: .v (dfNe d) :: .v (dfAb d) :: .v (dfBo d) :: .v (.int .i64 (tpO (dfT d))) :: .v (.str (tpNm (dfT d))) :: .v (.sl 9 (Tp.cs (tpA (dfT d)))) :: .v (.sl 1 (nmsC (tpNs (dfT d)))) :: .v (.int .i64 (prO (tpP (dfT d)))) :: .v (.str (prNm (tpP (dfT d)))) :: .v (.int .i64 (prN (tpP (dfT d)))) :: .v (.sl 4 (Pr.cs (prK (tpP (dfT d))))) :: .v (.sl 4 (Pr.cs (tpPs (dfT d))))::[.v (.sl 4 (Pr.cs (dfMe d)))])
abbrev alV (x:Al):List LV := .v (.str (alC x)) :: .v (.sl 1 (nmsC (alNs x)))::exV (alB x)
abbrev jk7:List LV:=[jk,jk,jk,jk,jk,jk,jk]
theorem nmsC_snoc (l:List ByteArray) (x:ByteArray):nmsC (l++[x])=nmsC l++[[.str x]]:=by simp [nmsC_eq]
theorem Ex.cs_snoc (l:List Ex) (x:Ex):Ex.cs (l++[x])=Ex.cs l++[exL x]:=by simp [Ex.cs_eq]
theorem Vl.cs_snoc (l:List Vl) (x:Vl):Vl.cs (l++[x])=Vl.cs l++[vlL x]:=by simp [Vl.cs_eq]
theorem Bd.cs_snoc (l:List Bd) (x:Bd):Bd.cs (l++[x])=Bd.cs l++[bdL x]:=by simp [Bd.cs_eq]
theorem Bd.cs_snoc2 (l:List Bd) (n:ByteArray) (v:Vl):Bd.cs (l++[Bd.mk n v])=Bd.cs l++[.str n::vlL v]:=by simp [Bd.cs_eq,bdNm,bdV]
theorem drop_at {α:Type} [Inhabited α] {l:List α} {i:Nat} (h:i<l.length):l.drop i=l.getD i default::l.drop (i+1):=by
 rw [List.drop_eq_getElem_cons h]
 simp [List.getD,h]
theorem drop_at0 {l:List ByteArray} {i:Nat} (h:i<l.length):l.drop i=l.getD i nm0::l.drop (i+1):=by
 rw [List.drop_eq_getElem_cons h]
 simp [List.getD,h]
theorem take_rev_at {α:Type} [Inhabited α] {l:List α} {i:Nat} (h:i<l.length):(l.take (i+1)).reverse=l.getD i default::(l.take i).reverse:=by
 rw [List.take_succ_eq_append_getElem h,List.reverse_append]
 simp [List.getD,h]
section
variable {P:Program}
def xNm (l:List ByteArray) (i:Nat) (h:i<l.length:=by omega):Stp P:=ar ((nmsC l).getD i []) [.str (l.getD i nm0)] (by rw [nmsC_at h])
def xEx (l:List Ex) (i:Nat) (h:i<l.length:=by omega):Stp P:=ar ((Ex.cs l).getD i []) (exL (l.getD i default)) (by rw [Ex.cs_at h])
def xVl (l:List Vl) (i:Nat) (h:i<l.length:=by omega):Stp P:=ar ((Vl.cs l).getD i []) (vlL (l.getD i default)) (by rw [Vl.cs_at h])
def xAl (l:List Al) (i:Nat) (h:i<l.length:=by omega):Stp P:=ar ((Al.cs l).getD i []) (alL (l.getD i default)) (by rw [Al.cs_at h])
def xBd (l:List Bd) (i:Nat) (h:i<l.length:=by omega):Stp P:=ar ((Bd.cs l).getD i []) (bdL (l.getD i default)) (by rw [Bd.cs_at h])
def xPm (l:List Pm) (i:Nat) (h:i<l.length:=by omega):Stp P:=ar ((pmsC l).getD i []) (pmL (l.getD i default)) (by rw [pmsC_at h])
def xTp (l:List Tp) (i:Nat) (h:i<l.length:=by omega):Stp P:=ar ((Tp.cs l).getD i []) (tpL (l.getD i default)) (by rw [Tp.cs_at h])
def xDf (l:List Df) (i:Nat) (h:i<l.length:=by omega):Stp P:=ar ((dfsC l).getD i []) (dfL (l.getD i default)) (by rw [dfsC_at h])
def xPr (l:List Pr) (i:Nat) (h:i<l.length:=by omega):Stp P:=ar ((Pr.cs l).getD i []) (prL (l.getD i default)) (by rw [Pr.cs_at h])
end
end Go.Proofs.YtgonmmckkikmaaaGreat
namespace Go.Proofs.YtgonmmckkikmaaaGreat
open Go.Pv
set_option maxRecDepth 100000
abbrev vA (op n:Int) (c2 c3 c4 c5 c6:PV):PV := .agg [.int .i64 op,.int .i64 n,c2,c3,c4,c5,c6]
theorem eFail (k:Int):Pu 78 ([pI k]) (.panic (.iface 146 (.agg [pI k]))):=
 pu mdL (fun e=>[]) Tryz.func78
theorem eNeed_1 (b:Bool) (hx0:b=false):Pu 46 ([.bool b]) (.panic (.iface 146 (.agg [pI 19]))):=
 pu mdL (fun e=>[bt (!b) (bnT hx0),cl (@eFail (19))]) Tryz.func46
theorem eNeed_2 (b:Bool) (hx0:b=true):Pu 46 ([.bool b]) (.ret (.tup [])):=
 pu mdL (fun e=>[bf (!b) (bnF hx0)]) Tryz.func46
theorem eInteger_1 (n:Int) (ok:Bool) (hx0:ok=false):Pu 110 ([pI n,.bool ok]) (.panic (.iface 146 (.agg [pI 25]))):=
 pu mdL (fun e=>[rp 4 (bt (!ok) (bnT hx0)),bt true,cl (@eFail (25))]) Tryz.func110
theorem eInteger_2 (n:Int) (ok:Bool) (hx0:ok=true) (hx1:nIn_r0 n=false):Pu 110 ([pI n,.bool ok]) (.panic (.iface 146 (.agg [pI 25]))):=
 pu mdL (fun e=>[rp 2 (bf (!ok) (bnF hx0)),cl (@nIn (n)),rp 2 (bf (!ok) (bnF hx0)),bt (!nIn_r0 n) (bnT hx1),cl (@eFail (25))]) Tryz.func110
theorem eInteger_3 (n:Int) (ok:Bool) (hx0:ok=true) (hx1:nIn_r0 n=true):Pu 110 ([pI n,.bool ok]) (rA [pI 1,pI n,.str (ByteArray.mk #[]),.sl 7 [],.sl 1 [],.sl 7 [],.sl 8 []]):=
 Ob.pur_wk (Wk.a (WkL.c (Wk.r _) (WkL.c (Wk.r _) (WkL.c (Wk.r _) (WkL.c (Wk.n 7) (WkL.c (Wk.n 1) (WkL.c (Wk.n 7) (WkL.c (Wk.n 8) (WkL.r _))))))))) (Ob.pur_of (mdL) 50 (fun e=>[Ans.bit false,Ans.bit false,Ans.pur (rB (nIn_r0 n)),Ans.bit false,Ans.bit false,Ans.bit false]) (sc':=fun _=>[]) (l:=fun e=>[Ob.bit (!ok) false,Ob.bit (!ok) false,Ob.pur 136 [pI n] (rB (nIn_r0 n)),Ob.bit (!ok) false,Ob.bit (!ok) false,Ob.bit (!nIn_r0 n) false]) mixed Tryz.func110 (by kernel_rfl) (fun e=>by kernel_rfl) (fun e=>⟨(ob_bit (bnF hx0)),(ob_bit (bnF hx0)),(@nIn (n)),(ob_bit (bnF hx0)),(ob_bit (bnF hx0)),(ob_bit (bnF hx1)),trivial⟩))
def eInteger_s (n:Int) (ok:Bool):Bool:=(if ok=false then false else (if nIn_r0 n=false then false else true))
theorem eInteger_t (n:Int) (ok:Bool) (hs:eInteger_s n ok=true):Pu 110 ([pI n,.bool ok]) (rA [pI 1,pI n,.str (ByteArray.mk #[]),.sl 7 [],.sl 1 [],.sl 7 [],.sl 8 []]):=by
 by_cases h0:ok=false
 ·exact absurd hs (by unfold eInteger_s; rw [if_pos h0]; decide)
 ·by_cases h1:nIn_r0 n=false
  ·exact absurd hs (by unfold eInteger_s; rw [if_neg h0,if_pos h1]; decide)
  ·exact eInteger_3 n ok (bTF h0) (bTF h1)
theorem eInteger_f (n:Int) (ok:Bool) (hs:eInteger_s n ok=false):Pu 110 ([pI n,.bool ok]) (.panic (.iface 146 (.agg [pI 25]))):=by
 by_cases h0:ok=false
 ·exact eInteger_1 n ok h0
 ·by_cases h1:nIn_r0 n=false
  ·exact eInteger_2 n ok (bTF h0) h1
  ·exact absurd hs (by unfold eInteger_s; rw [if_neg h0,if_neg h1]; decide)
theorem eTruth_1 (b:Bool) (hx0:b=true):Pu 111 ([.bool b]) (rA [pI 2,pI 1,.str (ByteArray.mk #[]),.sl 7 [],.sl 1 [],.sl 7 [],.sl 8 []]):=
 Ob.pur_wk (Wk.a (WkL.c (Wk.r _) (WkL.c (Wk.r _) (WkL.c (Wk.r _) (WkL.c (Wk.n 7) (WkL.c (Wk.n 1) (WkL.c (Wk.n 7) (WkL.c (Wk.n 8) (WkL.r _))))))))) (Ob.pur_of (mdL) 50 (fun e=>[Ans.bit true]) (sc':=fun _=>[]) (l:=fun e=>[Ob.bit b true]) mixed Tryz.func111 (by kernel_rfl) (fun e=>by kernel_rfl) (fun e=>⟨(ob_bit hx0),trivial⟩))
theorem eTruth_2 (b:Bool) (hx0:b=false):Pu 111 ([.bool b]) (rA [pI 2,pI 0,.str (ByteArray.mk #[]),.sl 7 [],.sl 1 [],.sl 7 [],.sl 8 []]):=
 Ob.pur_wk (Wk.a (WkL.c (Wk.r _) (WkL.c (Wk.r _) (WkL.c (Wk.r _) (WkL.c (Wk.n 7) (WkL.c (Wk.n 1) (WkL.c (Wk.n 7) (WkL.c (Wk.n 8) (WkL.r _))))))))) (Ob.pur_of (mdL) 50 (fun e=>[Ans.bit false]) (sc':=fun _=>[]) (l:=fun e=>[Ob.bit b false]) mixed Tryz.func111 (by kernel_rfl) (fun e=>by kernel_rfl) (fun e=>⟨(ob_bit hx0),trivial⟩))
def eTruth_r0 (b:Bool):Int:=(if b=true then (1) else (0))
theorem eTruth (b:Bool):Pu 111 ([.bool b]) (rA [pI 2,pI (eTruth_r0 b),.str (ByteArray.mk #[]),.sl 7 [],.sl 1 [],.sl 7 [],.sl 8 []]):=by
 by_cases h0:b=true
 ·rw [(show eTruth_r0 b=(1) by unfold eTruth_r0; rw [if_pos h0])]; exact eTruth_1 b h0
 ·rw [(show eTruth_r0 b=(0) by unfold eTruth_r0; rw [if_neg h0])]; exact eTruth_2 b (bFT h0)
theorem eBoth_1 (k o1 n1 o2 n2:Int) (a2 a3 a4 a5 a6 b2 b3 b4 b5 b6:PV) (hx0:o1=k):Pu 139 ([pI k,vA o1 n1 a2 a3 a4 a5 a6,vA o2 n2 b2 b3 b4 b5 b6]) (rB (o2==k)):=
 pu mdL (fun e=>[rp 5 (et o1 k hx0)]) Tryz.func139
theorem eBoth_2 (k o1 n1 o2 n2:Int) (a2 a3 a4 a5 a6 b2 b3 b4 b5 b6:PV) (hx0:¬o1=k):Pu 139 ([pI k,vA o1 n1 a2 a3 a4 a5 a6,vA o2 n2 b2 b3 b4 b5 b6]) (rB false):=
 pu mdL (fun e=>[rp 5 (en o1 k hx0)]) Tryz.func139
def eBoth_r0 (k:Int) (o1:Int) (o2:Int):Bool:=(if o1=k then (o2==k) else (false))
theorem eBoth (k o1 n1 o2 n2:Int) (a2 a3 a4 a5 a6 b2 b3 b4 b5 b6:PV):Pu 139 ([pI k,vA o1 n1 a2 a3 a4 a5 a6,vA o2 n2 b2 b3 b4 b5 b6]) (rB (eBoth_r0 k o1 o2)):=by
 by_cases h0:o1=k
 ·rw [(show eBoth_r0 k o1 o2=(o2==k) by unfold eBoth_r0; rw [if_pos h0])]; exact eBoth_1 k o1 n1 o2 n2 a2 a3 a4 a5 a6 b2 b3 b4 b5 b6 h0
 ·rw [(show eBoth_r0 k o1 o2=(false) by unfold eBoth_r0; rw [if_neg h0])]; exact eBoth_2 k o1 n1 o2 n2 a2 a3 a4 a5 a6 b2 b3 b4 b5 b6 h0
section
variable (op n:Int) (name:ByteArray) (kids:List Ex) (params:List Pm) (alts:List Al) (types:List Tp)
include op n name kids params alts types
theorem eRight_1 (hx0:op=1):Pu 109 ([.agg [pI op,.str name,pI n,.sl 7 (Ex.cs kids),.sl 10 (pmsC params),.sl 9 (Al.cs alts),.sl 9 (Tp.cs types)]]) (rB ((kids.length:Int)==0)):=
 pu mdL (fun e=>[sl (Ex.cs_len kids),rp 2 (et op 1 hx0)]) Tryz.func109
theorem eRight_2 (hx0:¬op=1) (hx1:op=2):Pu 109 ([.agg [pI op,.str name,pI n,.sl 7 (Ex.cs kids),.sl 10 (pmsC params),.sl 9 (Al.cs alts),.sl 9 (Tp.cs types)]]) (rB ((kids.length:Int)==0)):=
 pu mdL (fun e=>[sl (Ex.cs_len kids),en op 1 hx0,rp 2 (et op 2 hx1)]) Tryz.func109
theorem eRight_3 (hx0:¬op=1) (hx1:¬op=2) (hx2:op=3):Pu 109 ([.agg [pI op,.str name,pI n,.sl 7 (Ex.cs kids),.sl 10 (pmsC params),.sl 9 (Al.cs alts),.sl 9 (Tp.cs types)]]) (rB ((kids.length:Int)==0)):=
 pu mdL (fun e=>[sl (Ex.cs_len kids),en op 1 hx0,en op 2 hx1,et op 3 hx2]) Tryz.func109
theorem eRight_4 (hx0:¬op=1) (hx1:¬op=2) (hx2:¬op=3) (hx3:op=4):Pu 109 ([.agg [pI op,.str name,pI n,.sl 7 (Ex.cs kids),.sl 10 (pmsC params),.sl 9 (Al.cs alts),.sl 9 (Tp.cs types)]]) (rB true):=
 pu mdL (fun e=>[sl (Ex.cs_len kids),en op 1 hx0,en op 2 hx1,en op 3 hx2,et op 4 hx3]) Tryz.func109
theorem eRight_5 (hx0:¬op=1) (hx1:¬op=2) (hx2:¬op=3) (hx3:¬op=4) (hx4:op=5):Pu 109 ([.agg [pI op,.str name,pI n,.sl 7 (Ex.cs kids),.sl 10 (pmsC params),.sl 9 (Al.cs alts),.sl 9 (Tp.cs types)]]) (rB (decide ((kids.length:Int)>=1))):=
 pu mdL (fun e=>[sl (Ex.cs_len kids),en op 1 hx0,en op 2 hx1,en op 3 hx2,en op 4 hx3,rp 2 (et op 5 hx4)]) Tryz.func109
theorem eRight_6 (hx0:¬op=1) (hx1:¬op=2) (hx2:¬op=3) (hx3:¬op=4) (hx4:¬op=5) (hx5:op=25):Pu 109 ([.agg [pI op,.str name,pI n,.sl 7 (Ex.cs kids),.sl 10 (pmsC params),.sl 9 (Al.cs alts),.sl 9 (Tp.cs types)]]) (rB (decide ((kids.length:Int)>=1))):=
 pu mdL (fun e=>[sl (Ex.cs_len kids),en op 1 hx0,en op 2 hx1,en op 3 hx2,en op 4 hx3,en op 5 hx4,et op 25 hx5]) Tryz.func109
theorem eRight_7 (hx0:¬op=1) (hx1:¬op=2) (hx2:¬op=3) (hx3:¬op=4) (hx4:¬op=5) (hx5:¬op=25) (hx6:op=6):Pu 109 ([.agg [pI op,.str name,pI n,.sl 7 (Ex.cs kids),.sl 10 (pmsC params),.sl 9 (Al.cs alts),.sl 9 (Tp.cs types)]]) (rB ((kids.length:Int)==1)):=
 pu mdL (fun e=>[sl (Ex.cs_len kids),en op 1 hx0,en op 2 hx1,en op 3 hx2,en op 4 hx3,en op 5 hx4,en op 25 hx5,rp 2 (et op 6 hx6)]) Tryz.func109
theorem eRight_8 (hx0:¬op=1) (hx1:¬op=2) (hx2:¬op=3) (hx3:¬op=4) (hx4:¬op=5) (hx5:¬op=25) (hx6:¬op=6) (hx7:op=9):Pu 109 ([.agg [pI op,.str name,pI n,.sl 7 (Ex.cs kids),.sl 10 (pmsC params),.sl 9 (Al.cs alts),.sl 9 (Tp.cs types)]]) (rB ((kids.length:Int)==1)):=
 pu mdL (fun e=>[sl (Ex.cs_len kids),en op 1 hx0,en op 2 hx1,en op 3 hx2,en op 4 hx3,en op 5 hx4,en op 25 hx5,en op 6 hx6,rp 2 (et op 9 hx7)]) Tryz.func109
theorem eRight_9 (hx0:¬op=1) (hx1:¬op=2) (hx2:¬op=3) (hx3:¬op=4) (hx4:¬op=5) (hx5:¬op=25) (hx6:¬op=6) (hx7:¬op=9) (hx8:op=15):Pu 109 ([.agg [pI op,.str name,pI n,.sl 7 (Ex.cs kids),.sl 10 (pmsC params),.sl 9 (Al.cs alts),.sl 9 (Tp.cs types)]]) (rB ((kids.length:Int)==1)):=
 pu mdL (fun e=>[sl (Ex.cs_len kids),en op 1 hx0,en op 2 hx1,en op 3 hx2,en op 4 hx3,en op 5 hx4,en op 25 hx5,en op 6 hx6,en op 9 hx7,rp 2 (et op 15 hx8)]) Tryz.func109
theorem eRight_10 (hx0:¬op=1) (hx1:¬op=2) (hx2:¬op=3) (hx3:¬op=4) (hx4:¬op=5) (hx5:¬op=25) (hx6:¬op=6) (hx7:¬op=9) (hx8:¬op=15) (hx9:op=21):Pu 109 ([.agg [pI op,.str name,pI n,.sl 7 (Ex.cs kids),.sl 10 (pmsC params),.sl 9 (Al.cs alts),.sl 9 (Tp.cs types)]]) (rB ((kids.length:Int)==1)):=
 pu mdL (fun e=>[sl (Ex.cs_len kids),en op 1 hx0,en op 2 hx1,en op 3 hx2,en op 4 hx3,en op 5 hx4,en op 25 hx5,en op 6 hx6,en op 9 hx7,en op 15 hx8,rp 2 (et op 21 hx9)]) Tryz.func109
theorem eRight_11 (hx0:¬op=1) (hx1:¬op=2) (hx2:¬op=3) (hx3:¬op=4) (hx4:¬op=5) (hx5:¬op=25) (hx6:¬op=6) (hx7:¬op=9) (hx8:¬op=15) (hx9:¬op=21) (hx10:op=22):Pu 109 ([.agg [pI op,.str name,pI n,.sl 7 (Ex.cs kids),.sl 10 (pmsC params),.sl 9 (Al.cs alts),.sl 9 (Tp.cs types)]]) (rB ((kids.length:Int)==1)):=
 pu mdL (fun e=>[sl (Ex.cs_len kids),en op 1 hx0,en op 2 hx1,en op 3 hx2,en op 4 hx3,en op 5 hx4,en op 25 hx5,en op 6 hx6,en op 9 hx7,en op 15 hx8,en op 21 hx9,rp 2 (et op 22 hx10)]) Tryz.func109
theorem eRight_12 (hx0:¬op=1) (hx1:¬op=2) (hx2:¬op=3) (hx3:¬op=4) (hx4:¬op=5) (hx5:¬op=25) (hx6:¬op=6) (hx7:¬op=9) (hx8:¬op=15) (hx9:¬op=21) (hx10:¬op=22) (hx11:op=23):Pu 109 ([.agg [pI op,.str name,pI n,.sl 7 (Ex.cs kids),.sl 10 (pmsC params),.sl 9 (Al.cs alts),.sl 9 (Tp.cs types)]]) (rB ((kids.length:Int)==1)):=
 pu mdL (fun e=>[sl (Ex.cs_len kids),en op 1 hx0,en op 2 hx1,en op 3 hx2,en op 4 hx3,en op 5 hx4,en op 25 hx5,en op 6 hx6,en op 9 hx7,en op 15 hx8,en op 21 hx9,en op 22 hx10,rp 2 (et op 23 hx11)]) Tryz.func109
theorem eRight_13 (hx0:¬op=1) (hx1:¬op=2) (hx2:¬op=3) (hx3:¬op=4) (hx4:¬op=5) (hx5:¬op=25) (hx6:¬op=6) (hx7:¬op=9) (hx8:¬op=15) (hx9:¬op=21) (hx10:¬op=22) (hx11:¬op=23) (hx12:op=26):Pu 109 ([.agg [pI op,.str name,pI n,.sl 7 (Ex.cs kids),.sl 10 (pmsC params),.sl 9 (Al.cs alts),.sl 9 (Tp.cs types)]]) (rB ((kids.length:Int)==1)):=
 pu mdL (fun e=>[sl (Ex.cs_len kids),en op 1 hx0,en op 2 hx1,en op 3 hx2,en op 4 hx3,en op 5 hx4,en op 25 hx5,en op 6 hx6,en op 9 hx7,en op 15 hx8,en op 21 hx9,en op 22 hx10,en op 23 hx11,et op 26 hx12]) Tryz.func109
theorem eRight_14 (hx0:¬op=1) (hx1:¬op=2) (hx2:¬op=3) (hx3:¬op=4) (hx4:¬op=5) (hx5:¬op=25) (hx6:¬op=6) (hx7:¬op=9) (hx8:¬op=15) (hx9:¬op=21) (hx10:¬op=22) (hx11:¬op=23) (hx12:¬op=26) (hx13:op=8):Pu 109 ([.agg [pI op,.str name,pI n,.sl 7 (Ex.cs kids),.sl 10 (pmsC params),.sl 9 (Al.cs alts),.sl 9 (Tp.cs types)]]) (rB ((kids.length:Int)==3)):=
 pu mdL (fun e=>[sl (Ex.cs_len kids),en op 1 hx0,en op 2 hx1,en op 3 hx2,en op 4 hx3,en op 5 hx4,en op 25 hx5,en op 6 hx6,en op 9 hx7,en op 15 hx8,en op 21 hx9,en op 22 hx10,en op 23 hx11,en op 26 hx12,et op 8 hx13]) Tryz.func109
theorem eRight_15 (hx0:¬op=1) (hx1:¬op=2) (hx2:¬op=3) (hx3:¬op=4) (hx4:¬op=5) (hx5:¬op=25) (hx6:¬op=6) (hx7:¬op=9) (hx8:¬op=15) (hx9:¬op=21) (hx10:¬op=22) (hx11:¬op=23) (hx12:¬op=26) (hx13:¬op=8) (hx14:op>=1) (hx15:op<=26):Pu 109 ([.agg [pI op,.str name,pI n,.sl 7 (Ex.cs kids),.sl 10 (pmsC params),.sl 9 (Al.cs alts),.sl 9 (Tp.cs types)]]) (rB ((kids.length:Int)==2)):=
 pu mdL (fun e=>[sl (Ex.cs_len kids),en op 1 hx0,en op 2 hx1,en op 3 hx2,en op 4 hx3,en op 5 hx4,en op 25 hx5,en op 6 hx6,en op 9 hx7,en op 15 hx8,en op 21 hx9,en op 22 hx10,en op 23 hx11,en op 26 hx12,en op 8 hx13,rp 4 (dt (op>=1) hx14),rp 3 (dt (op<=26) hx15)]) Tryz.func109
theorem eRight_16 (hx0:¬op=1) (hx1:¬op=2) (hx2:¬op=3) (hx3:¬op=4) (hx4:¬op=5) (hx5:¬op=25) (hx6:¬op=6) (hx7:¬op=9) (hx8:¬op=15) (hx9:¬op=21) (hx10:¬op=22) (hx11:¬op=23) (hx12:¬op=26) (hx13:¬op=8) (hx14:op>=1) (hx15:¬op<=26):Pu 109 ([.agg [pI op,.str name,pI n,.sl 7 (Ex.cs kids),.sl 10 (pmsC params),.sl 9 (Al.cs alts),.sl 9 (Tp.cs types)]]) (rB false):=
 pu mdL (fun e=>[sl (Ex.cs_len kids),en op 1 hx0,en op 2 hx1,en op 3 hx2,en op 4 hx3,en op 5 hx4,en op 25 hx5,en op 6 hx6,en op 9 hx7,en op 15 hx8,en op 21 hx9,en op 22 hx10,en op 23 hx11,en op 26 hx12,en op 8 hx13,rp 4 (dt (op>=1) hx14),rp 3 (df (op<=26) hx15)]) Tryz.func109
theorem eRight_17 (hx0:¬op=1) (hx1:¬op=2) (hx2:¬op=3) (hx3:¬op=4) (hx4:¬op=5) (hx5:¬op=25) (hx6:¬op=6) (hx7:¬op=9) (hx8:¬op=15) (hx9:¬op=21) (hx10:¬op=22) (hx11:¬op=23) (hx12:¬op=26) (hx13:¬op=8) (hx14:¬op>=1):Pu 109 ([.agg [pI op,.str name,pI n,.sl 7 (Ex.cs kids),.sl 10 (pmsC params),.sl 9 (Al.cs alts),.sl 9 (Tp.cs types)]]) (rB false):=
 pu mdL (fun e=>[sl (Ex.cs_len kids),en op 1 hx0,en op 2 hx1,en op 3 hx2,en op 4 hx3,en op 5 hx4,en op 25 hx5,en op 6 hx6,en op 9 hx7,en op 15 hx8,en op 21 hx9,en op 22 hx10,en op 23 hx11,en op 26 hx12,en op 8 hx13,rp 4 (df (op>=1) hx14),rp 3 (bf false)]) Tryz.func109
end
def eRight_r0 (op:Int) (kids:List Ex):Bool:=(if op=1 then ((kids.length:Int)==0) else (if op=2 then ((kids.length:Int)==0) else (if op=3 then ((kids.length:Int)==0) else (if op=4 then (true) else (if op=5 then (decide ((kids.length:Int)>=1)) else (if op=25 then (decide ((kids.length:Int)>=1)) else (if op=6 then ((kids.length:Int)==1) else (if op=9 then ((kids.length:Int)==1) else (if op=15 then ((kids.length:Int)==1) else (if op=21 then ((kids.length:Int)==1) else (if op=22 then ((kids.length:Int)==1) else (if op=23 then ((kids.length:Int)==1) else (if op=26 then ((kids.length:Int)==1) else (if op=8 then ((kids.length:Int)==3) else (if op>=1 then (if op<=26 then ((kids.length:Int)==2) else (false)) else (false))))))))))))))))
theorem eRight (op n:Int) (name:ByteArray) (kids:List Ex) (params:List Pm) (alts:List Al) (types:List Tp):Pu 109 ([.agg [pI op,.str name,pI n,.sl 7 (Ex.cs kids),.sl 10 (pmsC params),.sl 9 (Al.cs alts),.sl 9 (Tp.cs types)]]) (rB (eRight_r0 op kids)):=by
 by_cases h0:op=1
 ·rw [(show eRight_r0 op kids=((kids.length:Int)==0) by unfold eRight_r0; rw [if_pos h0])]; exact eRight_1 op n name kids params alts types h0
 ·by_cases h1:op=2
  ·rw [(show eRight_r0 op kids=((kids.length:Int)==0) by unfold eRight_r0; rw [if_neg h0,if_pos h1])]; exact eRight_2 op n name kids params alts types h0 h1
  ·by_cases h2:op=3
   ·rw [(show eRight_r0 op kids=((kids.length:Int)==0) by unfold eRight_r0; rw [if_neg h0,if_neg h1,if_pos h2])]; exact eRight_3 op n name kids params alts types h0 h1 h2
   ·by_cases h3:op=4
    ·rw [(show eRight_r0 op kids=(true) by unfold eRight_r0; rw [if_neg h0,if_neg h1,if_neg h2,if_pos h3])]; exact eRight_4 op n name kids params alts types h0 h1 h2 h3
    ·by_cases h4:op=5
     ·rw [(show eRight_r0 op kids=(decide ((kids.length:Int)>=1)) by unfold eRight_r0; rw [if_neg h0,if_neg h1,if_neg h2,if_neg h3,if_pos h4])]; exact eRight_5 op n name kids params alts types h0 h1 h2 h3 h4
     ·by_cases h5:op=25
      ·rw [(show eRight_r0 op kids=(decide ((kids.length:Int)>=1)) by unfold eRight_r0; rw [if_neg h0,if_neg h1,if_neg h2,if_neg h3,if_neg h4,if_pos h5])]; exact eRight_6 op n name kids params alts types h0 h1 h2 h3 h4 h5
      ·by_cases h6:op=6
       ·rw [(show eRight_r0 op kids=((kids.length:Int)==1) by unfold eRight_r0; rw [if_neg h0,if_neg h1,if_neg h2,if_neg h3,if_neg h4,if_neg h5,if_pos h6])]; exact eRight_7 op n name kids params alts types h0 h1 h2 h3 h4 h5 h6
       ·by_cases h7:op=9
        ·rw [(show eRight_r0 op kids=((kids.length:Int)==1) by unfold eRight_r0; rw [if_neg h0,if_neg h1,if_neg h2,if_neg h3,if_neg h4,if_neg h5,if_neg h6,if_pos h7])]; exact eRight_8 op n name kids params alts types h0 h1 h2 h3 h4 h5 h6 h7
        ·by_cases h8:op=15
         ·rw [(show eRight_r0 op kids=((kids.length:Int)==1) by unfold eRight_r0; rw [if_neg h0,if_neg h1,if_neg h2,if_neg h3,if_neg h4,if_neg h5,if_neg h6,if_neg h7,if_pos h8])]; exact eRight_9 op n name kids params alts types h0 h1 h2 h3 h4 h5 h6 h7 h8
         ·by_cases h9:op=21
          ·rw [(show eRight_r0 op kids=((kids.length:Int)==1) by unfold eRight_r0; rw [if_neg h0,if_neg h1,if_neg h2,if_neg h3,if_neg h4,if_neg h5,if_neg h6,if_neg h7,if_neg h8,if_pos h9])]; exact eRight_10 op n name kids params alts types h0 h1 h2 h3 h4 h5 h6 h7 h8 h9
          ·by_cases h10:op=22
           ·rw [(show eRight_r0 op kids=((kids.length:Int)==1) by unfold eRight_r0; rw [if_neg h0,if_neg h1,if_neg h2,if_neg h3,if_neg h4,if_neg h5,if_neg h6,if_neg h7,if_neg h8,if_neg h9,if_pos h10])]; exact eRight_11 op n name kids params alts types h0 h1 h2 h3 h4 h5 h6 h7 h8 h9 h10
           ·by_cases h11:op=23
            ·rw [(show eRight_r0 op kids=((kids.length:Int)==1) by unfold eRight_r0; rw [if_neg h0,if_neg h1,if_neg h2,if_neg h3,if_neg h4,if_neg h5,if_neg h6,if_neg h7,if_neg h8,if_neg h9,if_neg h10,if_pos h11])]; exact eRight_12 op n name kids params alts types h0 h1 h2 h3 h4 h5 h6 h7 h8 h9 h10 h11
            ·by_cases h12:op=26
             ·rw [(show eRight_r0 op kids=((kids.length:Int)==1) by unfold eRight_r0; rw [if_neg h0,if_neg h1,if_neg h2,if_neg h3,if_neg h4,if_neg h5,if_neg h6,if_neg h7,if_neg h8,if_neg h9,if_neg h10,if_neg h11,if_pos h12])]; exact eRight_13 op n name kids params alts types h0 h1 h2 h3 h4 h5 h6 h7 h8 h9 h10 h11 h12
             ·by_cases h13:op=8
              ·rw [(show eRight_r0 op kids=((kids.length:Int)==3) by unfold eRight_r0; rw [if_neg h0,if_neg h1,if_neg h2,if_neg h3,if_neg h4,if_neg h5,if_neg h6,if_neg h7,if_neg h8,if_neg h9,if_neg h10,if_neg h11,if_neg h12,if_pos h13])]; exact eRight_14 op n name kids params alts types h0 h1 h2 h3 h4 h5 h6 h7 h8 h9 h10 h11 h12 h13
              ·by_cases h14:op>=1
               ·by_cases h15:op<=26
                ·rw [(show eRight_r0 op kids=((kids.length:Int)==2) by unfold eRight_r0; rw [if_neg h0,if_neg h1,if_neg h2,if_neg h3,if_neg h4,if_neg h5,if_neg h6,if_neg h7,if_neg h8,if_neg h9,if_neg h10,if_neg h11,if_neg h12,if_neg h13,if_pos h14,if_pos h15])]; exact eRight_15 op n name kids params alts types h0 h1 h2 h3 h4 h5 h6 h7 h8 h9 h10 h11 h12 h13 h14 h15
                ·rw [(show eRight_r0 op kids=(false) by unfold eRight_r0; rw [if_neg h0,if_neg h1,if_neg h2,if_neg h3,if_neg h4,if_neg h5,if_neg h6,if_neg h7,if_neg h8,if_neg h9,if_neg h10,if_neg h11,if_neg h12,if_neg h13,if_pos h14,if_neg h15])]; exact eRight_16 op n name kids params alts types h0 h1 h2 h3 h4 h5 h6 h7 h8 h9 h10 h11 h12 h13 h14 h15
               ·rw [(show eRight_r0 op kids=(false) by unfold eRight_r0; rw [if_neg h0,if_neg h1,if_neg h2,if_neg h3,if_neg h4,if_neg h5,if_neg h6,if_neg h7,if_neg h8,if_neg h9,if_neg h10,if_neg h11,if_neg h12,if_neg h13,if_neg h14])]; exact eRight_17 op n name kids params alts types h0 h1 h2 h3 h4 h5 h6 h7 h8 h9 h10 h11 h12 h13 h14
section
variable (op n:Int) (name:ByteArray) (kids:List Ex) (params:List Pm) (alts:List Al) (types:List Tp)
include op n name kids params alts types
theorem rRight_1 (hx0:op=1):Pu 62 ([.agg [pI op,.str name,pI n,.sl 7 (Ex.cs kids),.sl 10 (pmsC params),.sl 9 (Al.cs alts),.sl 9 (Tp.cs types)]]) (rB ((kids.length:Int)==0)):=
 pu mdL (fun e=>[sl (Ex.cs_len kids),rp 2 (et op 1 hx0)]) Tryz.func62
theorem rRight_2 (hx0:¬op=1) (hx1:op=2):Pu 62 ([.agg [pI op,.str name,pI n,.sl 7 (Ex.cs kids),.sl 10 (pmsC params),.sl 9 (Al.cs alts),.sl 9 (Tp.cs types)]]) (rB ((kids.length:Int)==0)):=
 pu mdL (fun e=>[sl (Ex.cs_len kids),en op 1 hx0,rp 2 (et op 2 hx1)]) Tryz.func62
theorem rRight_3 (hx0:¬op=1) (hx1:¬op=2) (hx2:op=3):Pu 62 ([.agg [pI op,.str name,pI n,.sl 7 (Ex.cs kids),.sl 10 (pmsC params),.sl 9 (Al.cs alts),.sl 9 (Tp.cs types)]]) (rB ((kids.length:Int)==0)):=
 pu mdL (fun e=>[sl (Ex.cs_len kids),en op 1 hx0,en op 2 hx1,et op 3 hx2]) Tryz.func62
theorem rRight_4 (hx0:¬op=1) (hx1:¬op=2) (hx2:¬op=3) (hx3:op=4):Pu 62 ([.agg [pI op,.str name,pI n,.sl 7 (Ex.cs kids),.sl 10 (pmsC params),.sl 9 (Al.cs alts),.sl 9 (Tp.cs types)]]) (rB true):=
 pu mdL (fun e=>[sl (Ex.cs_len kids),en op 1 hx0,en op 2 hx1,en op 3 hx2,et op 4 hx3]) Tryz.func62
theorem rRight_5 (hx0:¬op=1) (hx1:¬op=2) (hx2:¬op=3) (hx3:¬op=4) (hx4:op=5):Pu 62 ([.agg [pI op,.str name,pI n,.sl 7 (Ex.cs kids),.sl 10 (pmsC params),.sl 9 (Al.cs alts),.sl 9 (Tp.cs types)]]) (rB (decide ((kids.length:Int)>=1))):=
 pu mdL (fun e=>[sl (Ex.cs_len kids),en op 1 hx0,en op 2 hx1,en op 3 hx2,en op 4 hx3,rp 2 (et op 5 hx4)]) Tryz.func62
theorem rRight_6 (hx0:¬op=1) (hx1:¬op=2) (hx2:¬op=3) (hx3:¬op=4) (hx4:¬op=5) (hx5:op=25):Pu 62 ([.agg [pI op,.str name,pI n,.sl 7 (Ex.cs kids),.sl 10 (pmsC params),.sl 9 (Al.cs alts),.sl 9 (Tp.cs types)]]) (rB (decide ((kids.length:Int)>=1))):=
 pu mdL (fun e=>[sl (Ex.cs_len kids),en op 1 hx0,en op 2 hx1,en op 3 hx2,en op 4 hx3,en op 5 hx4,et op 25 hx5]) Tryz.func62
theorem rRight_7 (hx0:¬op=1) (hx1:¬op=2) (hx2:¬op=3) (hx3:¬op=4) (hx4:¬op=5) (hx5:¬op=25) (hx6:op=6):Pu 62 ([.agg [pI op,.str name,pI n,.sl 7 (Ex.cs kids),.sl 10 (pmsC params),.sl 9 (Al.cs alts),.sl 9 (Tp.cs types)]]) (rB ((kids.length:Int)==1)):=
 pu mdL (fun e=>[sl (Ex.cs_len kids),en op 1 hx0,en op 2 hx1,en op 3 hx2,en op 4 hx3,en op 5 hx4,en op 25 hx5,rp 2 (et op 6 hx6)]) Tryz.func62
theorem rRight_8 (hx0:¬op=1) (hx1:¬op=2) (hx2:¬op=3) (hx3:¬op=4) (hx4:¬op=5) (hx5:¬op=25) (hx6:¬op=6) (hx7:op=9):Pu 62 ([.agg [pI op,.str name,pI n,.sl 7 (Ex.cs kids),.sl 10 (pmsC params),.sl 9 (Al.cs alts),.sl 9 (Tp.cs types)]]) (rB ((kids.length:Int)==1)):=
 pu mdL (fun e=>[sl (Ex.cs_len kids),en op 1 hx0,en op 2 hx1,en op 3 hx2,en op 4 hx3,en op 5 hx4,en op 25 hx5,en op 6 hx6,rp 2 (et op 9 hx7)]) Tryz.func62
theorem rRight_9 (hx0:¬op=1) (hx1:¬op=2) (hx2:¬op=3) (hx3:¬op=4) (hx4:¬op=5) (hx5:¬op=25) (hx6:¬op=6) (hx7:¬op=9) (hx8:op=15):Pu 62 ([.agg [pI op,.str name,pI n,.sl 7 (Ex.cs kids),.sl 10 (pmsC params),.sl 9 (Al.cs alts),.sl 9 (Tp.cs types)]]) (rB ((kids.length:Int)==1)):=
 pu mdL (fun e=>[sl (Ex.cs_len kids),en op 1 hx0,en op 2 hx1,en op 3 hx2,en op 4 hx3,en op 5 hx4,en op 25 hx5,en op 6 hx6,en op 9 hx7,rp 2 (et op 15 hx8)]) Tryz.func62
theorem rRight_10 (hx0:¬op=1) (hx1:¬op=2) (hx2:¬op=3) (hx3:¬op=4) (hx4:¬op=5) (hx5:¬op=25) (hx6:¬op=6) (hx7:¬op=9) (hx8:¬op=15) (hx9:op=21):Pu 62 ([.agg [pI op,.str name,pI n,.sl 7 (Ex.cs kids),.sl 10 (pmsC params),.sl 9 (Al.cs alts),.sl 9 (Tp.cs types)]]) (rB ((kids.length:Int)==1)):=
 pu mdL (fun e=>[sl (Ex.cs_len kids),en op 1 hx0,en op 2 hx1,en op 3 hx2,en op 4 hx3,en op 5 hx4,en op 25 hx5,en op 6 hx6,en op 9 hx7,en op 15 hx8,rp 2 (et op 21 hx9)]) Tryz.func62
theorem rRight_11 (hx0:¬op=1) (hx1:¬op=2) (hx2:¬op=3) (hx3:¬op=4) (hx4:¬op=5) (hx5:¬op=25) (hx6:¬op=6) (hx7:¬op=9) (hx8:¬op=15) (hx9:¬op=21) (hx10:op=22):Pu 62 ([.agg [pI op,.str name,pI n,.sl 7 (Ex.cs kids),.sl 10 (pmsC params),.sl 9 (Al.cs alts),.sl 9 (Tp.cs types)]]) (rB ((kids.length:Int)==1)):=
 pu mdL (fun e=>[sl (Ex.cs_len kids),en op 1 hx0,en op 2 hx1,en op 3 hx2,en op 4 hx3,en op 5 hx4,en op 25 hx5,en op 6 hx6,en op 9 hx7,en op 15 hx8,en op 21 hx9,rp 2 (et op 22 hx10)]) Tryz.func62
theorem rRight_12 (hx0:¬op=1) (hx1:¬op=2) (hx2:¬op=3) (hx3:¬op=4) (hx4:¬op=5) (hx5:¬op=25) (hx6:¬op=6) (hx7:¬op=9) (hx8:¬op=15) (hx9:¬op=21) (hx10:¬op=22) (hx11:op=23):Pu 62 ([.agg [pI op,.str name,pI n,.sl 7 (Ex.cs kids),.sl 10 (pmsC params),.sl 9 (Al.cs alts),.sl 9 (Tp.cs types)]]) (rB ((kids.length:Int)==1)):=
 pu mdL (fun e=>[sl (Ex.cs_len kids),en op 1 hx0,en op 2 hx1,en op 3 hx2,en op 4 hx3,en op 5 hx4,en op 25 hx5,en op 6 hx6,en op 9 hx7,en op 15 hx8,en op 21 hx9,en op 22 hx10,rp 2 (et op 23 hx11)]) Tryz.func62
theorem rRight_13 (hx0:¬op=1) (hx1:¬op=2) (hx2:¬op=3) (hx3:¬op=4) (hx4:¬op=5) (hx5:¬op=25) (hx6:¬op=6) (hx7:¬op=9) (hx8:¬op=15) (hx9:¬op=21) (hx10:¬op=22) (hx11:¬op=23) (hx12:op=26):Pu 62 ([.agg [pI op,.str name,pI n,.sl 7 (Ex.cs kids),.sl 10 (pmsC params),.sl 9 (Al.cs alts),.sl 9 (Tp.cs types)]]) (rB ((kids.length:Int)==1)):=
 pu mdL (fun e=>[sl (Ex.cs_len kids),en op 1 hx0,en op 2 hx1,en op 3 hx2,en op 4 hx3,en op 5 hx4,en op 25 hx5,en op 6 hx6,en op 9 hx7,en op 15 hx8,en op 21 hx9,en op 22 hx10,en op 23 hx11,et op 26 hx12]) Tryz.func62
theorem rRight_14 (hx0:¬op=1) (hx1:¬op=2) (hx2:¬op=3) (hx3:¬op=4) (hx4:¬op=5) (hx5:¬op=25) (hx6:¬op=6) (hx7:¬op=9) (hx8:¬op=15) (hx9:¬op=21) (hx10:¬op=22) (hx11:¬op=23) (hx12:¬op=26) (hx13:op=8):Pu 62 ([.agg [pI op,.str name,pI n,.sl 7 (Ex.cs kids),.sl 10 (pmsC params),.sl 9 (Al.cs alts),.sl 9 (Tp.cs types)]]) (rB ((kids.length:Int)==3)):=
 pu mdL (fun e=>[sl (Ex.cs_len kids),en op 1 hx0,en op 2 hx1,en op 3 hx2,en op 4 hx3,en op 5 hx4,en op 25 hx5,en op 6 hx6,en op 9 hx7,en op 15 hx8,en op 21 hx9,en op 22 hx10,en op 23 hx11,en op 26 hx12,et op 8 hx13]) Tryz.func62
theorem rRight_15 (hx0:¬op=1) (hx1:¬op=2) (hx2:¬op=3) (hx3:¬op=4) (hx4:¬op=5) (hx5:¬op=25) (hx6:¬op=6) (hx7:¬op=9) (hx8:¬op=15) (hx9:¬op=21) (hx10:¬op=22) (hx11:¬op=23) (hx12:¬op=26) (hx13:¬op=8) (hx14:op=7):Pu 62 ([.agg [pI op,.str name,pI n,.sl 7 (Ex.cs kids),.sl 10 (pmsC params),.sl 9 (Al.cs alts),.sl 9 (Tp.cs types)]]) (rB ((kids.length:Int)==2)):=
 pu mdL (fun e=>[sl (Ex.cs_len kids),en op 1 hx0,en op 2 hx1,en op 3 hx2,en op 4 hx3,en op 5 hx4,en op 25 hx5,en op 6 hx6,en op 9 hx7,en op 15 hx8,en op 21 hx9,en op 22 hx10,en op 23 hx11,en op 26 hx12,en op 8 hx13,rp 2 (et op 7 hx14)]) Tryz.func62
theorem rRight_16 (hx0:¬op=1) (hx1:¬op=2) (hx2:¬op=3) (hx3:¬op=4) (hx4:¬op=5) (hx5:¬op=25) (hx6:¬op=6) (hx7:¬op=9) (hx8:¬op=15) (hx9:¬op=21) (hx10:¬op=22) (hx11:¬op=23) (hx12:¬op=26) (hx13:¬op=8) (hx14:¬op=7) (hx15:op=10):Pu 62 ([.agg [pI op,.str name,pI n,.sl 7 (Ex.cs kids),.sl 10 (pmsC params),.sl 9 (Al.cs alts),.sl 9 (Tp.cs types)]]) (rB ((kids.length:Int)==2)):=
 pu mdL (fun e=>[sl (Ex.cs_len kids),en op 1 hx0,en op 2 hx1,en op 3 hx2,en op 4 hx3,en op 5 hx4,en op 25 hx5,en op 6 hx6,en op 9 hx7,en op 15 hx8,en op 21 hx9,en op 22 hx10,en op 23 hx11,en op 26 hx12,en op 8 hx13,en op 7 hx14,rp 2 (et op 10 hx15)]) Tryz.func62
theorem rRight_17 (hx0:¬op=1) (hx1:¬op=2) (hx2:¬op=3) (hx3:¬op=4) (hx4:¬op=5) (hx5:¬op=25) (hx6:¬op=6) (hx7:¬op=9) (hx8:¬op=15) (hx9:¬op=21) (hx10:¬op=22) (hx11:¬op=23) (hx12:¬op=26) (hx13:¬op=8) (hx14:¬op=7) (hx15:¬op=10) (hx16:op=11):Pu 62 ([.agg [pI op,.str name,pI n,.sl 7 (Ex.cs kids),.sl 10 (pmsC params),.sl 9 (Al.cs alts),.sl 9 (Tp.cs types)]]) (rB ((kids.length:Int)==2)):=
 pu mdL (fun e=>[sl (Ex.cs_len kids),en op 1 hx0,en op 2 hx1,en op 3 hx2,en op 4 hx3,en op 5 hx4,en op 25 hx5,en op 6 hx6,en op 9 hx7,en op 15 hx8,en op 21 hx9,en op 22 hx10,en op 23 hx11,en op 26 hx12,en op 8 hx13,en op 7 hx14,en op 10 hx15,rp 2 (et op 11 hx16)]) Tryz.func62
theorem rRight_18 (hx0:¬op=1) (hx1:¬op=2) (hx2:¬op=3) (hx3:¬op=4) (hx4:¬op=5) (hx5:¬op=25) (hx6:¬op=6) (hx7:¬op=9) (hx8:¬op=15) (hx9:¬op=21) (hx10:¬op=22) (hx11:¬op=23) (hx12:¬op=26) (hx13:¬op=8) (hx14:¬op=7) (hx15:¬op=10) (hx16:¬op=11) (hx17:op=12):Pu 62 ([.agg [pI op,.str name,pI n,.sl 7 (Ex.cs kids),.sl 10 (pmsC params),.sl 9 (Al.cs alts),.sl 9 (Tp.cs types)]]) (rB ((kids.length:Int)==2)):=
 pu mdL (fun e=>[sl (Ex.cs_len kids),en op 1 hx0,en op 2 hx1,en op 3 hx2,en op 4 hx3,en op 5 hx4,en op 25 hx5,en op 6 hx6,en op 9 hx7,en op 15 hx8,en op 21 hx9,en op 22 hx10,en op 23 hx11,en op 26 hx12,en op 8 hx13,en op 7 hx14,en op 10 hx15,en op 11 hx16,rp 2 (et op 12 hx17)]) Tryz.func62
theorem rRight_19 (hx0:¬op=1) (hx1:¬op=2) (hx2:¬op=3) (hx3:¬op=4) (hx4:¬op=5) (hx5:¬op=25) (hx6:¬op=6) (hx7:¬op=9) (hx8:¬op=15) (hx9:¬op=21) (hx10:¬op=22) (hx11:¬op=23) (hx12:¬op=26) (hx13:¬op=8) (hx14:¬op=7) (hx15:¬op=10) (hx16:¬op=11) (hx17:¬op=12) (hx18:op=13):Pu 62 ([.agg [pI op,.str name,pI n,.sl 7 (Ex.cs kids),.sl 10 (pmsC params),.sl 9 (Al.cs alts),.sl 9 (Tp.cs types)]]) (rB ((kids.length:Int)==2)):=
 pu mdL (fun e=>[sl (Ex.cs_len kids),en op 1 hx0,en op 2 hx1,en op 3 hx2,en op 4 hx3,en op 5 hx4,en op 25 hx5,en op 6 hx6,en op 9 hx7,en op 15 hx8,en op 21 hx9,en op 22 hx10,en op 23 hx11,en op 26 hx12,en op 8 hx13,en op 7 hx14,en op 10 hx15,en op 11 hx16,en op 12 hx17,rp 2 (et op 13 hx18)]) Tryz.func62
theorem rRight_20 (hx0:¬op=1) (hx1:¬op=2) (hx2:¬op=3) (hx3:¬op=4) (hx4:¬op=5) (hx5:¬op=25) (hx6:¬op=6) (hx7:¬op=9) (hx8:¬op=15) (hx9:¬op=21) (hx10:¬op=22) (hx11:¬op=23) (hx12:¬op=26) (hx13:¬op=8) (hx14:¬op=7) (hx15:¬op=10) (hx16:¬op=11) (hx17:¬op=12) (hx18:¬op=13) (hx19:op=14):Pu 62 ([.agg [pI op,.str name,pI n,.sl 7 (Ex.cs kids),.sl 10 (pmsC params),.sl 9 (Al.cs alts),.sl 9 (Tp.cs types)]]) (rB ((kids.length:Int)==2)):=
 pu mdL (fun e=>[sl (Ex.cs_len kids),en op 1 hx0,en op 2 hx1,en op 3 hx2,en op 4 hx3,en op 5 hx4,en op 25 hx5,en op 6 hx6,en op 9 hx7,en op 15 hx8,en op 21 hx9,en op 22 hx10,en op 23 hx11,en op 26 hx12,en op 8 hx13,en op 7 hx14,en op 10 hx15,en op 11 hx16,en op 12 hx17,en op 13 hx18,rp 2 (et op 14 hx19)]) Tryz.func62
theorem rRight_21 (hx0:¬op=1) (hx1:¬op=2) (hx2:¬op=3) (hx3:¬op=4) (hx4:¬op=5) (hx5:¬op=25) (hx6:¬op=6) (hx7:¬op=9) (hx8:¬op=15) (hx9:¬op=21) (hx10:¬op=22) (hx11:¬op=23) (hx12:¬op=26) (hx13:¬op=8) (hx14:¬op=7) (hx15:¬op=10) (hx16:¬op=11) (hx17:¬op=12) (hx18:¬op=13) (hx19:¬op=14) (hx20:op=16):Pu 62 ([.agg [pI op,.str name,pI n,.sl 7 (Ex.cs kids),.sl 10 (pmsC params),.sl 9 (Al.cs alts),.sl 9 (Tp.cs types)]]) (rB ((kids.length:Int)==2)):=
 pu mdL (fun e=>[sl (Ex.cs_len kids),en op 1 hx0,en op 2 hx1,en op 3 hx2,en op 4 hx3,en op 5 hx4,en op 25 hx5,en op 6 hx6,en op 9 hx7,en op 15 hx8,en op 21 hx9,en op 22 hx10,en op 23 hx11,en op 26 hx12,en op 8 hx13,en op 7 hx14,en op 10 hx15,en op 11 hx16,en op 12 hx17,en op 13 hx18,en op 14 hx19,rp 2 (et op 16 hx20)]) Tryz.func62
theorem rRight_22 (hx0:¬op=1) (hx1:¬op=2) (hx2:¬op=3) (hx3:¬op=4) (hx4:¬op=5) (hx5:¬op=25) (hx6:¬op=6) (hx7:¬op=9) (hx8:¬op=15) (hx9:¬op=21) (hx10:¬op=22) (hx11:¬op=23) (hx12:¬op=26) (hx13:¬op=8) (hx14:¬op=7) (hx15:¬op=10) (hx16:¬op=11) (hx17:¬op=12) (hx18:¬op=13) (hx19:¬op=14) (hx20:¬op=16) (hx21:op=17):Pu 62 ([.agg [pI op,.str name,pI n,.sl 7 (Ex.cs kids),.sl 10 (pmsC params),.sl 9 (Al.cs alts),.sl 9 (Tp.cs types)]]) (rB ((kids.length:Int)==2)):=
 pu mdL (fun e=>[sl (Ex.cs_len kids),en op 1 hx0,en op 2 hx1,en op 3 hx2,en op 4 hx3,en op 5 hx4,en op 25 hx5,en op 6 hx6,en op 9 hx7,en op 15 hx8,en op 21 hx9,en op 22 hx10,en op 23 hx11,en op 26 hx12,en op 8 hx13,en op 7 hx14,en op 10 hx15,en op 11 hx16,en op 12 hx17,en op 13 hx18,en op 14 hx19,en op 16 hx20,rp 2 (et op 17 hx21)]) Tryz.func62
theorem rRight_23 (hx0:¬op=1) (hx1:¬op=2) (hx2:¬op=3) (hx3:¬op=4) (hx4:¬op=5) (hx5:¬op=25) (hx6:¬op=6) (hx7:¬op=9) (hx8:¬op=15) (hx9:¬op=21) (hx10:¬op=22) (hx11:¬op=23) (hx12:¬op=26) (hx13:¬op=8) (hx14:¬op=7) (hx15:¬op=10) (hx16:¬op=11) (hx17:¬op=12) (hx18:¬op=13) (hx19:¬op=14) (hx20:¬op=16) (hx21:¬op=17) (hx22:op=18):Pu 62 ([.agg [pI op,.str name,pI n,.sl 7 (Ex.cs kids),.sl 10 (pmsC params),.sl 9 (Al.cs alts),.sl 9 (Tp.cs types)]]) (rB ((kids.length:Int)==2)):=
 pu mdL (fun e=>[sl (Ex.cs_len kids),en op 1 hx0,en op 2 hx1,en op 3 hx2,en op 4 hx3,en op 5 hx4,en op 25 hx5,en op 6 hx6,en op 9 hx7,en op 15 hx8,en op 21 hx9,en op 22 hx10,en op 23 hx11,en op 26 hx12,en op 8 hx13,en op 7 hx14,en op 10 hx15,en op 11 hx16,en op 12 hx17,en op 13 hx18,en op 14 hx19,en op 16 hx20,en op 17 hx21,rp 2 (et op 18 hx22)]) Tryz.func62
theorem rRight_24 (hx0:¬op=1) (hx1:¬op=2) (hx2:¬op=3) (hx3:¬op=4) (hx4:¬op=5) (hx5:¬op=25) (hx6:¬op=6) (hx7:¬op=9) (hx8:¬op=15) (hx9:¬op=21) (hx10:¬op=22) (hx11:¬op=23) (hx12:¬op=26) (hx13:¬op=8) (hx14:¬op=7) (hx15:¬op=10) (hx16:¬op=11) (hx17:¬op=12) (hx18:¬op=13) (hx19:¬op=14) (hx20:¬op=16) (hx21:¬op=17) (hx22:¬op=18) (hx23:op=19):Pu 62 ([.agg [pI op,.str name,pI n,.sl 7 (Ex.cs kids),.sl 10 (pmsC params),.sl 9 (Al.cs alts),.sl 9 (Tp.cs types)]]) (rB ((kids.length:Int)==2)):=
 pu mdL (fun e=>[sl (Ex.cs_len kids),en op 1 hx0,en op 2 hx1,en op 3 hx2,en op 4 hx3,en op 5 hx4,en op 25 hx5,en op 6 hx6,en op 9 hx7,en op 15 hx8,en op 21 hx9,en op 22 hx10,en op 23 hx11,en op 26 hx12,en op 8 hx13,en op 7 hx14,en op 10 hx15,en op 11 hx16,en op 12 hx17,en op 13 hx18,en op 14 hx19,en op 16 hx20,en op 17 hx21,en op 18 hx22,rp 2 (et op 19 hx23)]) Tryz.func62
theorem rRight_25 (hx0:¬op=1) (hx1:¬op=2) (hx2:¬op=3) (hx3:¬op=4) (hx4:¬op=5) (hx5:¬op=25) (hx6:¬op=6) (hx7:¬op=9) (hx8:¬op=15) (hx9:¬op=21) (hx10:¬op=22) (hx11:¬op=23) (hx12:¬op=26) (hx13:¬op=8) (hx14:¬op=7) (hx15:¬op=10) (hx16:¬op=11) (hx17:¬op=12) (hx18:¬op=13) (hx19:¬op=14) (hx20:¬op=16) (hx21:¬op=17) (hx22:¬op=18) (hx23:¬op=19) (hx24:op=20):Pu 62 ([.agg [pI op,.str name,pI n,.sl 7 (Ex.cs kids),.sl 10 (pmsC params),.sl 9 (Al.cs alts),.sl 9 (Tp.cs types)]]) (rB ((kids.length:Int)==2)):=
 pu mdL (fun e=>[sl (Ex.cs_len kids),en op 1 hx0,en op 2 hx1,en op 3 hx2,en op 4 hx3,en op 5 hx4,en op 25 hx5,en op 6 hx6,en op 9 hx7,en op 15 hx8,en op 21 hx9,en op 22 hx10,en op 23 hx11,en op 26 hx12,en op 8 hx13,en op 7 hx14,en op 10 hx15,en op 11 hx16,en op 12 hx17,en op 13 hx18,en op 14 hx19,en op 16 hx20,en op 17 hx21,en op 18 hx22,en op 19 hx23,rp 2 (et op 20 hx24)]) Tryz.func62
theorem rRight_26 (hx0:¬op=1) (hx1:¬op=2) (hx2:¬op=3) (hx3:¬op=4) (hx4:¬op=5) (hx5:¬op=25) (hx6:¬op=6) (hx7:¬op=9) (hx8:¬op=15) (hx9:¬op=21) (hx10:¬op=22) (hx11:¬op=23) (hx12:¬op=26) (hx13:¬op=8) (hx14:¬op=7) (hx15:¬op=10) (hx16:¬op=11) (hx17:¬op=12) (hx18:¬op=13) (hx19:¬op=14) (hx20:¬op=16) (hx21:¬op=17) (hx22:¬op=18) (hx23:¬op=19) (hx24:¬op=20) (hx25:op=24):Pu 62 ([.agg [pI op,.str name,pI n,.sl 7 (Ex.cs kids),.sl 10 (pmsC params),.sl 9 (Al.cs alts),.sl 9 (Tp.cs types)]]) (rB ((kids.length:Int)==2)):=
 pu mdL (fun e=>[sl (Ex.cs_len kids),en op 1 hx0,en op 2 hx1,en op 3 hx2,en op 4 hx3,en op 5 hx4,en op 25 hx5,en op 6 hx6,en op 9 hx7,en op 15 hx8,en op 21 hx9,en op 22 hx10,en op 23 hx11,en op 26 hx12,en op 8 hx13,en op 7 hx14,en op 10 hx15,en op 11 hx16,en op 12 hx17,en op 13 hx18,en op 14 hx19,en op 16 hx20,en op 17 hx21,en op 18 hx22,en op 19 hx23,en op 20 hx24,et op 24 hx25]) Tryz.func62
theorem rRight_27 (hx0:¬op=1) (hx1:¬op=2) (hx2:¬op=3) (hx3:¬op=4) (hx4:¬op=5) (hx5:¬op=25) (hx6:¬op=6) (hx7:¬op=9) (hx8:¬op=15) (hx9:¬op=21) (hx10:¬op=22) (hx11:¬op=23) (hx12:¬op=26) (hx13:¬op=8) (hx14:¬op=7) (hx15:¬op=10) (hx16:¬op=11) (hx17:¬op=12) (hx18:¬op=13) (hx19:¬op=14) (hx20:¬op=16) (hx21:¬op=17) (hx22:¬op=18) (hx23:¬op=19) (hx24:¬op=20) (hx25:¬op=24):Pu 62 ([.agg [pI op,.str name,pI n,.sl 7 (Ex.cs kids),.sl 10 (pmsC params),.sl 9 (Al.cs alts),.sl 9 (Tp.cs types)]]) (rB false):=
 pu mdL (fun e=>[sl (Ex.cs_len kids),en op 1 hx0,en op 2 hx1,en op 3 hx2,en op 4 hx3,en op 5 hx4,en op 25 hx5,en op 6 hx6,en op 9 hx7,en op 15 hx8,en op 21 hx9,en op 22 hx10,en op 23 hx11,en op 26 hx12,en op 8 hx13,en op 7 hx14,en op 10 hx15,en op 11 hx16,en op 12 hx17,en op 13 hx18,en op 14 hx19,en op 16 hx20,en op 17 hx21,en op 18 hx22,en op 19 hx23,en op 20 hx24,en op 24 hx25]) Tryz.func62
end
def rRight_r0 (op:Int) (kids:List Ex):Bool:=(if op=1 then ((kids.length:Int)==0) else (if op=2 then ((kids.length:Int)==0) else (if op=3 then ((kids.length:Int)==0) else (if op=4 then (true) else (if op=5 then (decide ((kids.length:Int)>=1)) else (if op=25 then (decide ((kids.length:Int)>=1)) else (if op=6 then ((kids.length:Int)==1) else (if op=9 then ((kids.length:Int)==1) else (if op=15 then ((kids.length:Int)==1) else (if op=21 then ((kids.length:Int)==1) else (if op=22 then ((kids.length:Int)==1) else (if op=23 then ((kids.length:Int)==1) else (if op=26 then ((kids.length:Int)==1) else (if op=8 then ((kids.length:Int)==3) else (if op=7 then ((kids.length:Int)==2) else (if op=10 then ((kids.length:Int)==2) else (if op=11 then ((kids.length:Int)==2) else (if op=12 then ((kids.length:Int)==2) else (if op=13 then ((kids.length:Int)==2) else (if op=14 then ((kids.length:Int)==2) else (if op=16 then ((kids.length:Int)==2) else (if op=17 then ((kids.length:Int)==2) else (if op=18 then ((kids.length:Int)==2) else (if op=19 then ((kids.length:Int)==2) else (if op=20 then ((kids.length:Int)==2) else (if op=24 then ((kids.length:Int)==2) else (false)))))))))))))))))))))))))))
theorem rRight (op n:Int) (name:ByteArray) (kids:List Ex) (params:List Pm) (alts:List Al) (types:List Tp):Pu 62 ([.agg [pI op,.str name,pI n,.sl 7 (Ex.cs kids),.sl 10 (pmsC params),.sl 9 (Al.cs alts),.sl 9 (Tp.cs types)]]) (rB (rRight_r0 op kids)):=by
 by_cases h0:op=1
 ·rw [(show rRight_r0 op kids=((kids.length:Int)==0) by unfold rRight_r0; rw [if_pos h0])]; exact rRight_1 op n name kids params alts types h0
 ·by_cases h1:op=2
  ·rw [(show rRight_r0 op kids=((kids.length:Int)==0) by unfold rRight_r0; rw [if_neg h0,if_pos h1])]; exact rRight_2 op n name kids params alts types h0 h1
  ·by_cases h2:op=3
   ·rw [(show rRight_r0 op kids=((kids.length:Int)==0) by unfold rRight_r0; rw [if_neg h0,if_neg h1,if_pos h2])]; exact rRight_3 op n name kids params alts types h0 h1 h2
   ·by_cases h3:op=4
    ·rw [(show rRight_r0 op kids=(true) by unfold rRight_r0; rw [if_neg h0,if_neg h1,if_neg h2,if_pos h3])]; exact rRight_4 op n name kids params alts types h0 h1 h2 h3
    ·by_cases h4:op=5
     ·rw [(show rRight_r0 op kids=(decide ((kids.length:Int)>=1)) by unfold rRight_r0; rw [if_neg h0,if_neg h1,if_neg h2,if_neg h3,if_pos h4])]; exact rRight_5 op n name kids params alts types h0 h1 h2 h3 h4
     ·by_cases h5:op=25
      ·rw [(show rRight_r0 op kids=(decide ((kids.length:Int)>=1)) by unfold rRight_r0; rw [if_neg h0,if_neg h1,if_neg h2,if_neg h3,if_neg h4,if_pos h5])]; exact rRight_6 op n name kids params alts types h0 h1 h2 h3 h4 h5
      ·by_cases h6:op=6
       ·rw [(show rRight_r0 op kids=((kids.length:Int)==1) by unfold rRight_r0; rw [if_neg h0,if_neg h1,if_neg h2,if_neg h3,if_neg h4,if_neg h5,if_pos h6])]; exact rRight_7 op n name kids params alts types h0 h1 h2 h3 h4 h5 h6
       ·by_cases h7:op=9
        ·rw [(show rRight_r0 op kids=((kids.length:Int)==1) by unfold rRight_r0; rw [if_neg h0,if_neg h1,if_neg h2,if_neg h3,if_neg h4,if_neg h5,if_neg h6,if_pos h7])]; exact rRight_8 op n name kids params alts types h0 h1 h2 h3 h4 h5 h6 h7
        ·by_cases h8:op=15
         ·rw [(show rRight_r0 op kids=((kids.length:Int)==1) by unfold rRight_r0; rw [if_neg h0,if_neg h1,if_neg h2,if_neg h3,if_neg h4,if_neg h5,if_neg h6,if_neg h7,if_pos h8])]; exact rRight_9 op n name kids params alts types h0 h1 h2 h3 h4 h5 h6 h7 h8
         ·by_cases h9:op=21
          ·rw [(show rRight_r0 op kids=((kids.length:Int)==1) by unfold rRight_r0; rw [if_neg h0,if_neg h1,if_neg h2,if_neg h3,if_neg h4,if_neg h5,if_neg h6,if_neg h7,if_neg h8,if_pos h9])]; exact rRight_10 op n name kids params alts types h0 h1 h2 h3 h4 h5 h6 h7 h8 h9
          ·by_cases h10:op=22
           ·rw [(show rRight_r0 op kids=((kids.length:Int)==1) by unfold rRight_r0; rw [if_neg h0,if_neg h1,if_neg h2,if_neg h3,if_neg h4,if_neg h5,if_neg h6,if_neg h7,if_neg h8,if_neg h9,if_pos h10])]; exact rRight_11 op n name kids params alts types h0 h1 h2 h3 h4 h5 h6 h7 h8 h9 h10
           ·by_cases h11:op=23
            ·rw [(show rRight_r0 op kids=((kids.length:Int)==1) by unfold rRight_r0; rw [if_neg h0,if_neg h1,if_neg h2,if_neg h3,if_neg h4,if_neg h5,if_neg h6,if_neg h7,if_neg h8,if_neg h9,if_neg h10,if_pos h11])]; exact rRight_12 op n name kids params alts types h0 h1 h2 h3 h4 h5 h6 h7 h8 h9 h10 h11
            ·by_cases h12:op=26
             ·rw [(show rRight_r0 op kids=((kids.length:Int)==1) by unfold rRight_r0; rw [if_neg h0,if_neg h1,if_neg h2,if_neg h3,if_neg h4,if_neg h5,if_neg h6,if_neg h7,if_neg h8,if_neg h9,if_neg h10,if_neg h11,if_pos h12])]; exact rRight_13 op n name kids params alts types h0 h1 h2 h3 h4 h5 h6 h7 h8 h9 h10 h11 h12
             ·by_cases h13:op=8
              ·rw [(show rRight_r0 op kids=((kids.length:Int)==3) by unfold rRight_r0; rw [if_neg h0,if_neg h1,if_neg h2,if_neg h3,if_neg h4,if_neg h5,if_neg h6,if_neg h7,if_neg h8,if_neg h9,if_neg h10,if_neg h11,if_neg h12,if_pos h13])]; exact rRight_14 op n name kids params alts types h0 h1 h2 h3 h4 h5 h6 h7 h8 h9 h10 h11 h12 h13
              ·by_cases h14:op=7
               ·rw [(show rRight_r0 op kids=((kids.length:Int)==2) by unfold rRight_r0; rw [if_neg h0,if_neg h1,if_neg h2,if_neg h3,if_neg h4,if_neg h5,if_neg h6,if_neg h7,if_neg h8,if_neg h9,if_neg h10,if_neg h11,if_neg h12,if_neg h13,if_pos h14])]; exact rRight_15 op n name kids params alts types h0 h1 h2 h3 h4 h5 h6 h7 h8 h9 h10 h11 h12 h13 h14
               ·by_cases h15:op=10
                ·rw [(show rRight_r0 op kids=((kids.length:Int)==2) by unfold rRight_r0; rw [if_neg h0,if_neg h1,if_neg h2,if_neg h3,if_neg h4,if_neg h5,if_neg h6,if_neg h7,if_neg h8,if_neg h9,if_neg h10,if_neg h11,if_neg h12,if_neg h13,if_neg h14,if_pos h15])]; exact rRight_16 op n name kids params alts types h0 h1 h2 h3 h4 h5 h6 h7 h8 h9 h10 h11 h12 h13 h14 h15
                ·by_cases h16:op=11
                 ·rw [(show rRight_r0 op kids=((kids.length:Int)==2) by unfold rRight_r0; rw [if_neg h0,if_neg h1,if_neg h2,if_neg h3,if_neg h4,if_neg h5,if_neg h6,if_neg h7,if_neg h8,if_neg h9,if_neg h10,if_neg h11,if_neg h12,if_neg h13,if_neg h14,if_neg h15,if_pos h16])]; exact rRight_17 op n name kids params alts types h0 h1 h2 h3 h4 h5 h6 h7 h8 h9 h10 h11 h12 h13 h14 h15 h16
                 ·by_cases h17:op=12
                  ·rw [(show rRight_r0 op kids=((kids.length:Int)==2) by unfold rRight_r0; rw [if_neg h0,if_neg h1,if_neg h2,if_neg h3,if_neg h4,if_neg h5,if_neg h6,if_neg h7,if_neg h8,if_neg h9,if_neg h10,if_neg h11,if_neg h12,if_neg h13,if_neg h14,if_neg h15,if_neg h16,if_pos h17])]; exact rRight_18 op n name kids params alts types h0 h1 h2 h3 h4 h5 h6 h7 h8 h9 h10 h11 h12 h13 h14 h15 h16 h17
                  ·by_cases h18:op=13
                   ·rw [(show rRight_r0 op kids=((kids.length:Int)==2) by unfold rRight_r0; rw [if_neg h0,if_neg h1,if_neg h2,if_neg h3,if_neg h4,if_neg h5,if_neg h6,if_neg h7,if_neg h8,if_neg h9,if_neg h10,if_neg h11,if_neg h12,if_neg h13,if_neg h14,if_neg h15,if_neg h16,if_neg h17,if_pos h18])]; exact rRight_19 op n name kids params alts types h0 h1 h2 h3 h4 h5 h6 h7 h8 h9 h10 h11 h12 h13 h14 h15 h16 h17 h18
                   ·by_cases h19:op=14
                    ·rw [(show rRight_r0 op kids=((kids.length:Int)==2) by unfold rRight_r0; rw [if_neg h0,if_neg h1,if_neg h2,if_neg h3,if_neg h4,if_neg h5,if_neg h6,if_neg h7,if_neg h8,if_neg h9,if_neg h10,if_neg h11,if_neg h12,if_neg h13,if_neg h14,if_neg h15,if_neg h16,if_neg h17,if_neg h18,if_pos h19])]; exact rRight_20 op n name kids params alts types h0 h1 h2 h3 h4 h5 h6 h7 h8 h9 h10 h11 h12 h13 h14 h15 h16 h17 h18 h19
                    ·by_cases h20:op=16
                     ·rw [(show rRight_r0 op kids=((kids.length:Int)==2) by unfold rRight_r0; rw [if_neg h0,if_neg h1,if_neg h2,if_neg h3,if_neg h4,if_neg h5,if_neg h6,if_neg h7,if_neg h8,if_neg h9,if_neg h10,if_neg h11,if_neg h12,if_neg h13,if_neg h14,if_neg h15,if_neg h16,if_neg h17,if_neg h18,if_neg h19,if_pos h20])]; exact rRight_21 op n name kids params alts types h0 h1 h2 h3 h4 h5 h6 h7 h8 h9 h10 h11 h12 h13 h14 h15 h16 h17 h18 h19 h20
                     ·by_cases h21:op=17
                      ·rw [(show rRight_r0 op kids=((kids.length:Int)==2) by unfold rRight_r0; rw [if_neg h0,if_neg h1,if_neg h2,if_neg h3,if_neg h4,if_neg h5,if_neg h6,if_neg h7,if_neg h8,if_neg h9,if_neg h10,if_neg h11,if_neg h12,if_neg h13,if_neg h14,if_neg h15,if_neg h16,if_neg h17,if_neg h18,if_neg h19,if_neg h20,if_pos h21])]; exact rRight_22 op n name kids params alts types h0 h1 h2 h3 h4 h5 h6 h7 h8 h9 h10 h11 h12 h13 h14 h15 h16 h17 h18 h19 h20 h21
                      ·by_cases h22:op=18
                       ·rw [(show rRight_r0 op kids=((kids.length:Int)==2) by unfold rRight_r0; rw [if_neg h0,if_neg h1,if_neg h2,if_neg h3,if_neg h4,if_neg h5,if_neg h6,if_neg h7,if_neg h8,if_neg h9,if_neg h10,if_neg h11,if_neg h12,if_neg h13,if_neg h14,if_neg h15,if_neg h16,if_neg h17,if_neg h18,if_neg h19,if_neg h20,if_neg h21,if_pos h22])]; exact rRight_23 op n name kids params alts types h0 h1 h2 h3 h4 h5 h6 h7 h8 h9 h10 h11 h12 h13 h14 h15 h16 h17 h18 h19 h20 h21 h22
                       ·by_cases h23:op=19
                        ·rw [(show rRight_r0 op kids=((kids.length:Int)==2) by unfold rRight_r0; rw [if_neg h0,if_neg h1,if_neg h2,if_neg h3,if_neg h4,if_neg h5,if_neg h6,if_neg h7,if_neg h8,if_neg h9,if_neg h10,if_neg h11,if_neg h12,if_neg h13,if_neg h14,if_neg h15,if_neg h16,if_neg h17,if_neg h18,if_neg h19,if_neg h20,if_neg h21,if_neg h22,if_pos h23])]; exact rRight_24 op n name kids params alts types h0 h1 h2 h3 h4 h5 h6 h7 h8 h9 h10 h11 h12 h13 h14 h15 h16 h17 h18 h19 h20 h21 h22 h23
                        ·by_cases h24:op=20
                         ·rw [(show rRight_r0 op kids=((kids.length:Int)==2) by unfold rRight_r0; rw [if_neg h0,if_neg h1,if_neg h2,if_neg h3,if_neg h4,if_neg h5,if_neg h6,if_neg h7,if_neg h8,if_neg h9,if_neg h10,if_neg h11,if_neg h12,if_neg h13,if_neg h14,if_neg h15,if_neg h16,if_neg h17,if_neg h18,if_neg h19,if_neg h20,if_neg h21,if_neg h22,if_neg h23,if_pos h24])]; exact rRight_25 op n name kids params alts types h0 h1 h2 h3 h4 h5 h6 h7 h8 h9 h10 h11 h12 h13 h14 h15 h16 h17 h18 h19 h20 h21 h22 h23 h24
                         ·by_cases h25:op=24
                          ·rw [(show rRight_r0 op kids=((kids.length:Int)==2) by unfold rRight_r0; rw [if_neg h0,if_neg h1,if_neg h2,if_neg h3,if_neg h4,if_neg h5,if_neg h6,if_neg h7,if_neg h8,if_neg h9,if_neg h10,if_neg h11,if_neg h12,if_neg h13,if_neg h14,if_neg h15,if_neg h16,if_neg h17,if_neg h18,if_neg h19,if_neg h20,if_neg h21,if_neg h22,if_neg h23,if_neg h24,if_pos h25])]; exact rRight_26 op n name kids params alts types h0 h1 h2 h3 h4 h5 h6 h7 h8 h9 h10 h11 h12 h13 h14 h15 h16 h17 h18 h19 h20 h21 h22 h23 h24 h25
                          ·rw [(show rRight_r0 op kids=(false) by unfold rRight_r0; rw [if_neg h0,if_neg h1,if_neg h2,if_neg h3,if_neg h4,if_neg h5,if_neg h6,if_neg h7,if_neg h8,if_neg h9,if_neg h10,if_neg h11,if_neg h12,if_neg h13,if_neg h14,if_neg h15,if_neg h16,if_neg h17,if_neg h18,if_neg h19,if_neg h20,if_neg h21,if_neg h22,if_neg h23,if_neg h24,if_neg h25])]; exact rRight_27 op n name kids params alts types h0 h1 h2 h3 h4 h5 h6 h7 h8 h9 h10 h11 h12 h13 h14 h15 h16 h17 h18 h19 h20 h21 h22 h23 h24 h25
end Go.Proofs.YtgonmmckkikmaaaGreat
namespace Go.Proofs.YtgonmmckkikmaaaGreat
open Go.Pv
set_option maxRecDepth 100000
section
variable (op o1 n1:Int) (a2 a3 a4 a5 a6:PV)
include op o1 n1 a2 a3 a4 a5 a6
theorem eOne_1 (hx0:op=15) (hx1:¬o1=1):Pu 118 ([pI op,vA o1 n1 a2 a3 a4 a5 a6]) (.panic (.iface 146 (.agg [pI 19]))):=
 pu mdL (fun e=>[et op 15 hx0,cl (@eNeed_1 (o1==1) (beF hx1))]) Tryz.func118
theorem eOne_2 (hx0:op=15) (hx1:o1=1) (hx2:eInteger_s (nSub_r0 0 n1) (nSub_r1 0 n1)=true):Pu 118 ([pI op,vA o1 n1 a2 a3 a4 a5 a6]) (rA [pI 1,pI (nSub_r0 0 n1),.str (ByteArray.mk #[]),.sl 7 [],.sl 1 [],.sl 7 [],.sl 8 []]):=
 pu mdL (fun e=>[et op 15 hx0,cl (@eNeed_2 (o1==1) (beT hx1)),cl (@nSub (0) (n1)),cl (@eInteger_t (nSub_r0 0 n1) (nSub_r1 0 n1) hx2)]) Tryz.func118
theorem eOne_3 (hx0:op=15) (hx1:o1=1) (hx2:eInteger_s (nSub_r0 0 n1) (nSub_r1 0 n1)=false):Pu 118 ([pI op,vA o1 n1 a2 a3 a4 a5 a6]) (.panic (.iface 146 (.agg [pI 25]))):=
 pu mdL (fun e=>[et op 15 hx0,cl (@eNeed_2 (o1==1) (beT hx1)),cl (@nSub (0) (n1)),cl (@eInteger_f (nSub_r0 0 n1) (nSub_r1 0 n1) hx2)]) Tryz.func118
theorem eOne_4 (hx0:¬op=15) (hx1:op=21) (hx2:¬o1=2):Pu 118 ([pI op,vA o1 n1 a2 a3 a4 a5 a6]) (.panic (.iface 146 (.agg [pI 19]))):=
 pu mdL (fun e=>[en op 15 hx0,et op 21 hx1,cl (@eNeed_1 (o1==2) (beF hx2))]) Tryz.func118
theorem eOne_5 (hx0:¬op=15) (hx1:op=21) (hx2:o1=2):Pu 118 ([pI op,vA o1 n1 a2 a3 a4 a5 a6]) (rA [pI 2,pI (eTruth_r0 (n1==0)),.str (ByteArray.mk #[]),.sl 7 [],.sl 1 [],.sl 7 [],.sl 8 []]):=
 pu mdL (fun e=>[en op 15 hx0,et op 21 hx1,cl (@eNeed_2 (o1==2) (beT hx2)),cl (@eTruth (n1==0))]) Tryz.func118
theorem eOne_6 (hx0:¬op=15) (hx1:¬op=21) (hx2:op=22) (hx3:¬o1=1):Pu 118 ([pI op,vA o1 n1 a2 a3 a4 a5 a6]) (.panic (.iface 146 (.agg [pI 19]))):=
 pu mdL (fun e=>[en op 15 hx0,en op 21 hx1,et op 22 hx2,cl (@eNeed_1 (o1==1) (beF hx3))]) Tryz.func118
end
theorem eOne_7 (op o1 n1:Int) (a2 a3 a4 a5 a6:PV) (hx0:¬op=15) (hx1:¬op=21) (hx2:op=22) (hx3:o1=1):Pu 118 ([pI op,vA o1 n1 a2 a3 a4 a5 a6]) (rA [pI 4,pI n1,.str (ByteArray.mk #[]),.sl 7 [],.sl 1 [],.sl 7 [],.sl 8 []]):=
 Ob.pur_wk (Wk.a (WkL.c (Wk.r _) (WkL.c (Wk.r _) (WkL.c (Wk.r _) (WkL.c (Wk.n 7) (WkL.c (Wk.n 1) (WkL.c (Wk.n 7) (WkL.c (Wk.n 8) (WkL.r _))))))))) (Ob.pur_of (mdL) 50 (fun e=>[Ans.bit false,Ans.bit false,Ans.bit true,Ans.pur (.ret (.tup []))]) (sc':=fun _=>[]) (l:=fun e=>[Ob.bit (op==15) false,Ob.bit (op==21) false,Ob.bit (op==22) true,Ob.pur 46 [.bool (o1==1)] (.ret (.tup []))]) mixed Tryz.func118 (by kernel_rfl) (fun e=>by kernel_rfl) (fun e=>⟨(ob_bit (beF hx0)),(ob_bit (beF hx1)),(ob_bit (beT hx2)),(@eNeed_2 (o1==1) (beT hx3)),trivial⟩))
theorem eOne_8 (op o1 n1:Int) (a2 a3 a4 a5 a6:PV) (hx0:¬op=15) (hx1:¬op=21) (hx2:¬op=22) (hx3:¬o1=4):Pu 118 ([pI op,vA o1 n1 a2 a3 a4 a5 a6]) (.panic (.iface 146 (.agg [pI 19]))):=
 pu mdL (fun e=>[en op 15 hx0,en op 21 hx1,en op 22 hx2,cl (@eNeed_1 (o1==4) (beF hx3))]) Tryz.func118
theorem eOne_9 (op o1 n1:Int) (a2 a3 a4 a5 a6:PV) (hx0:¬op=15) (hx1:¬op=21) (hx2:¬op=22) (hx3:o1=4):Pu 118 ([pI op,vA o1 n1 a2 a3 a4 a5 a6]) (rA [pI 1,pI n1,.str (ByteArray.mk #[]),.sl 7 [],.sl 1 [],.sl 7 [],.sl 8 []]):=
 Ob.pur_wk (Wk.a (WkL.c (Wk.r _) (WkL.c (Wk.r _) (WkL.c (Wk.r _) (WkL.c (Wk.n 7) (WkL.c (Wk.n 1) (WkL.c (Wk.n 7) (WkL.c (Wk.n 8) (WkL.r _))))))))) (Ob.pur_of (mdL) 50 (fun e=>[Ans.bit false,Ans.bit false,Ans.bit false,Ans.pur (.ret (.tup []))]) (sc':=fun _=>[]) (l:=fun e=>[Ob.bit (op==15) false,Ob.bit (op==21) false,Ob.bit (op==22) false,Ob.pur 46 [.bool (o1==4)] (.ret (.tup []))]) mixed Tryz.func118 (by kernel_rfl) (fun e=>by kernel_rfl) (fun e=>⟨(ob_bit (beF hx0)),(ob_bit (beF hx1)),(ob_bit (beF hx2)),(@eNeed_2 (o1==4) (beT hx3)),trivial⟩))
def eOne_s (op:Int) (o1:Int) (n1:Int):Bool:=(if op=15 then (if o1=1 then (if eInteger_s (nSub_r0 0 n1) (nSub_r1 0 n1)=true then true else false) else false) else (if op=21 then (if o1=2 then true else false) else (if op=22 then (if o1=1 then true else false) else (if o1=4 then true else false))))
def eOne_t_r0 (op:Int) (o1:Int) (n1:Int):Int:=(if op=15 then (if o1=1 then (if eInteger_s (nSub_r0 0 n1) (nSub_r1 0 n1)=true then (1) else 0) else 0) else (if op=21 then (if o1=2 then (2) else 0) else (if op=22 then (if o1=1 then (4) else 0) else (if o1=4 then (1) else 0))))
def eOne_t_r1 (op:Int) (o1:Int) (n1:Int):Int:=(if op=15 then (if o1=1 then (if eInteger_s (nSub_r0 0 n1) (nSub_r1 0 n1)=true then (nSub_r0 0 n1) else 0) else 0) else (if op=21 then (if o1=2 then (eTruth_r0 (n1==0)) else 0) else (if op=22 then (if o1=1 then (n1) else 0) else (if o1=4 then (n1) else 0))))
theorem eOne_t (op o1 n1:Int) (a2 a3 a4 a5 a6:PV) (hs:eOne_s op o1 n1=true):Pu 118 ([pI op,vA o1 n1 a2 a3 a4 a5 a6]) (rA [pI (eOne_t_r0 op o1 n1),pI (eOne_t_r1 op o1 n1),.str (ByteArray.mk #[]),.sl 7 [],.sl 1 [],.sl 7 [],.sl 8 []]):=by
 by_cases h0:op=15
 ·by_cases h1:o1=1
  ·by_cases h2:eInteger_s (nSub_r0 0 n1) (nSub_r1 0 n1)=true
   ·rw [(show eOne_t_r0 op o1 n1=(1) by unfold eOne_t_r0; rw [if_pos h0,if_pos h1,if_pos h2]),(show eOne_t_r1 op o1 n1=(nSub_r0 0 n1) by unfold eOne_t_r1; rw [if_pos h0,if_pos h1,if_pos h2])]; exact eOne_2 op o1 n1 a2 a3 a4 a5 a6 h0 h1 h2
   ·exact absurd hs (by unfold eOne_s; rw [if_pos h0,if_pos h1,if_neg h2]; decide)
  ·exact absurd hs (by unfold eOne_s; rw [if_pos h0,if_neg h1]; decide)
 ·by_cases h1:op=21
  ·by_cases h2:o1=2
   ·rw [(show eOne_t_r0 op o1 n1=(2) by unfold eOne_t_r0; rw [if_neg h0,if_pos h1,if_pos h2]),(show eOne_t_r1 op o1 n1=(eTruth_r0 (n1==0)) by unfold eOne_t_r1; rw [if_neg h0,if_pos h1,if_pos h2])]; exact eOne_5 op o1 n1 a2 a3 a4 a5 a6 h0 h1 h2
   ·exact absurd hs (by unfold eOne_s; rw [if_neg h0,if_pos h1,if_neg h2]; decide)
  ·by_cases h2:op=22
   ·by_cases h3:o1=1
    ·rw [(show eOne_t_r0 op o1 n1=(4) by unfold eOne_t_r0; rw [if_neg h0,if_neg h1,if_pos h2,if_pos h3]),(show eOne_t_r1 op o1 n1=(n1) by unfold eOne_t_r1; rw [if_neg h0,if_neg h1,if_pos h2,if_pos h3])]; exact eOne_7 op o1 n1 a2 a3 a4 a5 a6 h0 h1 h2 h3
    ·exact absurd hs (by unfold eOne_s; rw [if_neg h0,if_neg h1,if_pos h2,if_neg h3]; decide)
   ·by_cases h3:o1=4
    ·rw [(show eOne_t_r0 op o1 n1=(1) by unfold eOne_t_r0; rw [if_neg h0,if_neg h1,if_neg h2,if_pos h3]),(show eOne_t_r1 op o1 n1=(n1) by unfold eOne_t_r1; rw [if_neg h0,if_neg h1,if_neg h2,if_pos h3])]; exact eOne_9 op o1 n1 a2 a3 a4 a5 a6 h0 h1 h2 h3
    ·exact absurd hs (by unfold eOne_s; rw [if_neg h0,if_neg h1,if_neg h2,if_neg h3]; decide)
def eOne_f_r0 (op:Int) (o1:Int) (n1:Int):Int:=(if op=15 then (if o1=1 then (if eInteger_s (nSub_r0 0 n1) (nSub_r1 0 n1)=true then 0 else (25)) else (19)) else (if op=21 then (if o1=2 then 0 else (19)) else (if op=22 then (if o1=1 then 0 else (19)) else (if o1=4 then 0 else (19)))))
theorem eOne_f (op o1 n1:Int) (a2 a3 a4 a5 a6:PV) (hs:eOne_s op o1 n1=false):Pu 118 ([pI op,vA o1 n1 a2 a3 a4 a5 a6]) (.panic (.iface 146 (.agg [pI (eOne_f_r0 op o1 n1)]))):=by
 by_cases h0:op=15
 ·by_cases h1:o1=1
  ·by_cases h2:eInteger_s (nSub_r0 0 n1) (nSub_r1 0 n1)=true
   ·exact absurd hs (by unfold eOne_s; rw [if_pos h0,if_pos h1,if_pos h2]; decide)
   ·rw [(show eOne_f_r0 op o1 n1=(25) by unfold eOne_f_r0; rw [if_pos h0,if_pos h1,if_neg h2])]; exact eOne_3 op o1 n1 a2 a3 a4 a5 a6 h0 h1 (bFT h2)
  ·rw [(show eOne_f_r0 op o1 n1=(19) by unfold eOne_f_r0; rw [if_pos h0,if_neg h1])]; exact eOne_1 op o1 n1 a2 a3 a4 a5 a6 h0 h1
 ·by_cases h1:op=21
  ·by_cases h2:o1=2
   ·exact absurd hs (by unfold eOne_s; rw [if_neg h0,if_pos h1,if_pos h2]; decide)
   ·rw [(show eOne_f_r0 op o1 n1=(19) by unfold eOne_f_r0; rw [if_neg h0,if_pos h1,if_neg h2])]; exact eOne_4 op o1 n1 a2 a3 a4 a5 a6 h0 h1 h2
  ·by_cases h2:op=22
   ·by_cases h3:o1=1
    ·exact absurd hs (by unfold eOne_s; rw [if_neg h0,if_neg h1,if_pos h2,if_pos h3]; decide)
    ·rw [(show eOne_f_r0 op o1 n1=(19) by unfold eOne_f_r0; rw [if_neg h0,if_neg h1,if_pos h2,if_neg h3])]; exact eOne_6 op o1 n1 a2 a3 a4 a5 a6 h0 h1 h2 h3
   ·by_cases h3:o1=4
    ·exact absurd hs (by unfold eOne_s; rw [if_neg h0,if_neg h1,if_neg h2,if_pos h3]; decide)
    ·rw [(show eOne_f_r0 op o1 n1=(19) by unfold eOne_f_r0; rw [if_neg h0,if_neg h1,if_neg h2,if_neg h3])]; exact eOne_8 op o1 n1 a2 a3 a4 a5 a6 h0 h1 h2 h3
section
variable (op o1 n1 o2 n2:Int) (a2 a3 a4 a5 a6 b2 b3 b4 b5 b6:PV)
include op o1 n1 o2 n2 a2 a3 a4 a5 a6 b2 b3 b4 b5 b6
theorem eCompute_1 (hx0:op=16) (hx1:eBoth_r0 1 o1 o2=true):Pu 119 ([pI op,vA o1 n1 a2 a3 a4 a5 a6,vA o2 n2 b2 b3 b4 b5 b6]) (rA [pI 2,pI (eTruth_r0 (n1==n2)),.str (ByteArray.mk #[]),.sl 7 [],.sl 1 [],.sl 7 [],.sl 8 []]):=
 pu mdL (fun e=>[et op 16 hx0,cl (@eBoth (1) (o1) (n1) (o2) (n2) (a2) (a3) (a4) (a5) (a6) (b2) (b3) (b4) (b5) (b6)),rp 4 (bt (eBoth_r0 1 o1 o2) hx1),cl (@eNeed_2 (true) (by rfl)),cl (@eTruth (n1==n2))]) Tryz.func119
theorem eCompute_2 (hx0:op=16) (hx1:eBoth_r0 1 o1 o2=false) (hx2:eBoth_r0 2 o1 o2=false):Pu 119 ([pI op,vA o1 n1 a2 a3 a4 a5 a6,vA o2 n2 b2 b3 b4 b5 b6]) (.panic (.iface 146 (.agg [pI 19]))):=
 pu mdL (fun e=>[et op 16 hx0,cl (@eBoth (1) (o1) (n1) (o2) (n2) (a2) (a3) (a4) (a5) (a6) (b2) (b3) (b4) (b5) (b6)),rp 3 (bf (eBoth_r0 1 o1 o2) hx1),cl (@eBoth (2) (o1) (n1) (o2) (n2) (a2) (a3) (a4) (a5) (a6) (b2) (b3) (b4) (b5) (b6)),bf (eBoth_r0 1 o1 o2) hx1,cl (@eNeed_1 (eBoth_r0 2 o1 o2) hx2)]) Tryz.func119
theorem eCompute_3 (hx0:op=16) (hx1:eBoth_r0 1 o1 o2=false) (hx2:eBoth_r0 2 o1 o2=true):Pu 119 ([pI op,vA o1 n1 a2 a3 a4 a5 a6,vA o2 n2 b2 b3 b4 b5 b6]) (rA [pI 2,pI (eTruth_r0 (n1==n2)),.str (ByteArray.mk #[]),.sl 7 [],.sl 1 [],.sl 7 [],.sl 8 []]):=
 pu mdL (fun e=>[et op 16 hx0,cl (@eBoth (1) (o1) (n1) (o2) (n2) (a2) (a3) (a4) (a5) (a6) (b2) (b3) (b4) (b5) (b6)),rp 3 (bf (eBoth_r0 1 o1 o2) hx1),cl (@eBoth (2) (o1) (n1) (o2) (n2) (a2) (a3) (a4) (a5) (a6) (b2) (b3) (b4) (b5) (b6)),bf (eBoth_r0 1 o1 o2) hx1,cl (@eNeed_2 (eBoth_r0 2 o1 o2) hx2),cl (@eTruth (n1==n2))]) Tryz.func119
theorem eCompute_4 (hx0:¬op=16) (hx1:op=24) (hx2:o1=4) (hx3:¬o2=1):Pu 119 ([pI op,vA o1 n1 a2 a3 a4 a5 a6,vA o2 n2 b2 b3 b4 b5 b6]) (.panic (.iface 146 (.agg [pI 19]))):=
 pu mdL (fun e=>[en op 16 hx0,et op 24 hx1,rp 4 (et o1 4 hx2),cl (@eNeed_1 (o2==1) (beF hx3))]) Tryz.func119
end
theorem eCompute_5 (op o1 n1 o2 n2:Int) (a2 a3 a4 a5 a6 b2 b3 b4 b5 b6:PV) (hx0:¬op=16) (hx1:op=24) (hx2:o1=4) (hx3:o2=1):Pu 119 ([pI op,vA o1 n1 a2 a3 a4 a5 a6,vA o2 n2 b2 b3 b4 b5 b6]) (rA [pI 4,pI n2,.str (ByteArray.mk #[]),.sl 7 [],.sl 1 [],.sl 7 [],.sl 8 []]):=
 Ob.pur_wk (Wk.a (WkL.c (Wk.r _) (WkL.c (Wk.r _) (WkL.c (Wk.r _) (WkL.c (Wk.n 7) (WkL.c (Wk.n 1) (WkL.c (Wk.n 7) (WkL.c (Wk.n 8) (WkL.r _))))))))) (Ob.pur_of (mdL) 50 (fun e=>[Ans.bit false,Ans.bit true,Ans.bit true,Ans.bit true,Ans.bit true,Ans.bit true,Ans.pur (.ret (.tup []))]) (sc':=fun _=>[]) (l:=fun e=>[Ob.bit (op==16) false,Ob.bit (op==24) true,Ob.bit (o1==4) true,Ob.bit (o1==4) true,Ob.bit (o1==4) true,Ob.bit (o1==4) true,Ob.pur 46 [.bool (o2==1)] (.ret (.tup []))]) mixed Tryz.func119 (by kernel_rfl) (fun e=>by kernel_rfl) (fun e=>⟨(ob_bit (beF hx0)),(ob_bit (beT hx1)),(ob_bit (beT hx2)),(ob_bit (beT hx2)),(ob_bit (beT hx2)),(ob_bit (beT hx2)),(@eNeed_2 (o2==1) (beT hx3)),trivial⟩))
section
variable (op o1 n1 o2 n2:Int) (a2 a3 a4 a5 a6 b2 b3 b4 b5 b6:PV) (hx0:¬op=16)
include op o1 n1 o2 n2 a2 a3 a4 a5 a6 b2 b3 b4 b5 b6 hx0
theorem eCompute_6 (hx1:op=24) (hx2:¬o1=4):Pu 119 ([pI op,vA o1 n1 a2 a3 a4 a5 a6,vA o2 n2 b2 b3 b4 b5 b6]) (.panic (.iface 146 (.agg [pI 19]))):=
 pu mdL (fun e=>[en op 16 hx0,et op 24 hx1,rp 4 (en o1 4 hx2),cl (@eNeed_1 (false) (by rfl))]) Tryz.func119
theorem eCompute_7 (hx1:¬op=24) (hx2:eBoth_r0 1 o1 o2=false):Pu 119 ([pI op,vA o1 n1 a2 a3 a4 a5 a6,vA o2 n2 b2 b3 b4 b5 b6]) (.panic (.iface 146 (.agg [pI 19]))):=
 pu mdL (fun e=>[en op 16 hx0,en op 24 hx1,cl (@eBoth (1) (o1) (n1) (o2) (n2) (a2) (a3) (a4) (a5) (a6) (b2) (b3) (b4) (b5) (b6)),cl (@eNeed_1 (eBoth_r0 1 o1 o2) hx2)]) Tryz.func119
theorem eCompute_8 (hx1:¬op=24) (hx2:eBoth_r0 1 o1 o2=true) (hx3:op=10) (hx4:eInteger_s (nAdd_r0 n1 n2) (nAdd_r1 n1 n2)=true):Pu 119 ([pI op,vA o1 n1 a2 a3 a4 a5 a6,vA o2 n2 b2 b3 b4 b5 b6]) (rA [pI 1,pI (nAdd_r0 n1 n2),.str (ByteArray.mk #[]),.sl 7 [],.sl 1 [],.sl 7 [],.sl 8 []]):=
 pu mdL (fun e=>[en op 16 hx0,en op 24 hx1,cl (@eBoth (1) (o1) (n1) (o2) (n2) (a2) (a3) (a4) (a5) (a6) (b2) (b3) (b4) (b5) (b6)),cl (@eNeed_2 (eBoth_r0 1 o1 o2) hx2),et op 10 hx3,cl (@nAdd (n1) (n2)),cl (@eInteger_t (nAdd_r0 n1 n2) (nAdd_r1 n1 n2) hx4)]) Tryz.func119
theorem eCompute_9 (hx1:¬op=24) (hx2:eBoth_r0 1 o1 o2=true) (hx3:op=10) (hx4:eInteger_s (nAdd_r0 n1 n2) (nAdd_r1 n1 n2)=false):Pu 119 ([pI op,vA o1 n1 a2 a3 a4 a5 a6,vA o2 n2 b2 b3 b4 b5 b6]) (.panic (.iface 146 (.agg [pI 25]))):=
 pu mdL (fun e=>[en op 16 hx0,en op 24 hx1,cl (@eBoth (1) (o1) (n1) (o2) (n2) (a2) (a3) (a4) (a5) (a6) (b2) (b3) (b4) (b5) (b6)),cl (@eNeed_2 (eBoth_r0 1 o1 o2) hx2),et op 10 hx3,cl (@nAdd (n1) (n2)),cl (@eInteger_f (nAdd_r0 n1 n2) (nAdd_r1 n1 n2) hx4)]) Tryz.func119
theorem eCompute_10 (hx1:¬op=24) (hx2:eBoth_r0 1 o1 o2=true) (hx3:¬op=10) (hx4:op=11) (hx5:eInteger_s (nSub_r0 n1 n2) (nSub_r1 n1 n2)=true):Pu 119 ([pI op,vA o1 n1 a2 a3 a4 a5 a6,vA o2 n2 b2 b3 b4 b5 b6]) (rA [pI 1,pI (nSub_r0 n1 n2),.str (ByteArray.mk #[]),.sl 7 [],.sl 1 [],.sl 7 [],.sl 8 []]):=
 pu mdL (fun e=>[en op 16 hx0,en op 24 hx1,cl (@eBoth (1) (o1) (n1) (o2) (n2) (a2) (a3) (a4) (a5) (a6) (b2) (b3) (b4) (b5) (b6)),cl (@eNeed_2 (eBoth_r0 1 o1 o2) hx2),en op 10 hx3,et op 11 hx4,cl (@nSub (n1) (n2)),cl (@eInteger_t (nSub_r0 n1 n2) (nSub_r1 n1 n2) hx5)]) Tryz.func119
theorem eCompute_11 (hx1:¬op=24) (hx2:eBoth_r0 1 o1 o2=true) (hx3:¬op=10) (hx4:op=11) (hx5:eInteger_s (nSub_r0 n1 n2) (nSub_r1 n1 n2)=false):Pu 119 ([pI op,vA o1 n1 a2 a3 a4 a5 a6,vA o2 n2 b2 b3 b4 b5 b6]) (.panic (.iface 146 (.agg [pI 25]))):=
 pu mdL (fun e=>[en op 16 hx0,en op 24 hx1,cl (@eBoth (1) (o1) (n1) (o2) (n2) (a2) (a3) (a4) (a5) (a6) (b2) (b3) (b4) (b5) (b6)),cl (@eNeed_2 (eBoth_r0 1 o1 o2) hx2),en op 10 hx3,et op 11 hx4,cl (@nSub (n1) (n2)),cl (@eInteger_f (nSub_r0 n1 n2) (nSub_r1 n1 n2) hx5)]) Tryz.func119
theorem eCompute_12 (hx1:¬op=24) (hx2:eBoth_r0 1 o1 o2=true) (hx3:¬op=10) (hx4:¬op=11) (hx5:op=12) (hx6:eInteger_s (nMul_r0 n1 n2) (nMul_r1 n1 n2)=true):Pu 119 ([pI op,vA o1 n1 a2 a3 a4 a5 a6,vA o2 n2 b2 b3 b4 b5 b6]) (rA [pI 1,pI (nMul_r0 n1 n2),.str (ByteArray.mk #[]),.sl 7 [],.sl 1 [],.sl 7 [],.sl 8 []]):=
 pu mdL (fun e=>[en op 16 hx0,en op 24 hx1,cl (@eBoth (1) (o1) (n1) (o2) (n2) (a2) (a3) (a4) (a5) (a6) (b2) (b3) (b4) (b5) (b6)),cl (@eNeed_2 (eBoth_r0 1 o1 o2) hx2),en op 10 hx3,en op 11 hx4,et op 12 hx5,cl (@nMul (n1) (n2)),cl (@eInteger_t (nMul_r0 n1 n2) (nMul_r1 n1 n2) hx6)]) Tryz.func119
theorem eCompute_13 (hx1:¬op=24) (hx2:eBoth_r0 1 o1 o2=true) (hx3:¬op=10) (hx4:¬op=11) (hx5:op=12) (hx6:eInteger_s (nMul_r0 n1 n2) (nMul_r1 n1 n2)=false):Pu 119 ([pI op,vA o1 n1 a2 a3 a4 a5 a6,vA o2 n2 b2 b3 b4 b5 b6]) (.panic (.iface 146 (.agg [pI 25]))):=
 pu mdL (fun e=>[en op 16 hx0,en op 24 hx1,cl (@eBoth (1) (o1) (n1) (o2) (n2) (a2) (a3) (a4) (a5) (a6) (b2) (b3) (b4) (b5) (b6)),cl (@eNeed_2 (eBoth_r0 1 o1 o2) hx2),en op 10 hx3,en op 11 hx4,et op 12 hx5,cl (@nMul (n1) (n2)),cl (@eInteger_f (nMul_r0 n1 n2) (nMul_r1 n1 n2) hx6)]) Tryz.func119
theorem eCompute_14 (hx1:¬op=24) (hx2:eBoth_r0 1 o1 o2=true) (hx3:¬op=10) (hx4:¬op=11) (hx5:¬op=12) (hx6:op=17):Pu 119 ([pI op,vA o1 n1 a2 a3 a4 a5 a6,vA o2 n2 b2 b3 b4 b5 b6]) (rA [pI 2,pI (eTruth_r0 (decide (n1<n2))),.str (ByteArray.mk #[]),.sl 7 [],.sl 1 [],.sl 7 [],.sl 8 []]):=
 pu mdL (fun e=>[en op 16 hx0,en op 24 hx1,cl (@eBoth (1) (o1) (n1) (o2) (n2) (a2) (a3) (a4) (a5) (a6) (b2) (b3) (b4) (b5) (b6)),cl (@eNeed_2 (eBoth_r0 1 o1 o2) hx2),en op 10 hx3,en op 11 hx4,en op 12 hx5,et op 17 hx6,cl (@eTruth (decide (n1<n2)))]) Tryz.func119
theorem eCompute_15 (hx1:¬op=24) (hx2:eBoth_r0 1 o1 o2=true) (hx3:¬op=10) (hx4:¬op=11) (hx5:¬op=12) (hx6:¬op=17) (hx7:op=18):Pu 119 ([pI op,vA o1 n1 a2 a3 a4 a5 a6,vA o2 n2 b2 b3 b4 b5 b6]) (rA [pI 2,pI (eTruth_r0 (decide (n1<=n2))),.str (ByteArray.mk #[]),.sl 7 [],.sl 1 [],.sl 7 [],.sl 8 []]):=
 pu mdL (fun e=>[en op 16 hx0,en op 24 hx1,cl (@eBoth (1) (o1) (n1) (o2) (n2) (a2) (a3) (a4) (a5) (a6) (b2) (b3) (b4) (b5) (b6)),cl (@eNeed_2 (eBoth_r0 1 o1 o2) hx2),en op 10 hx3,en op 11 hx4,en op 12 hx5,en op 17 hx6,et op 18 hx7,cl (@eTruth (decide (n1<=n2)))]) Tryz.func119
theorem eCompute_16 (hx1:¬op=24) (hx2:eBoth_r0 1 o1 o2=true) (hx3:¬op=10) (hx4:¬op=11) (hx5:¬op=12) (hx6:¬op=17) (hx7:¬op=18) (hx8:n2=0):Pu 119 ([pI op,vA o1 n1 a2 a3 a4 a5 a6,vA o2 n2 b2 b3 b4 b5 b6]) (.panic (.iface 146 (.agg [pI 27]))):=
 pu mdL (fun e=>[en op 16 hx0,en op 24 hx1,cl (@eBoth (1) (o1) (n1) (o2) (n2) (a2) (a3) (a4) (a5) (a6) (b2) (b3) (b4) (b5) (b6)),cl (@eNeed_2 (eBoth_r0 1 o1 o2) hx2),en op 10 hx3,en op 11 hx4,en op 12 hx5,en op 17 hx6,en op 18 hx7,et n2 0 hx8,cl (@eFail (27))]) Tryz.func119
theorem eCompute_17 (hx1:¬op=24) (hx2:eBoth_r0 1 o1 o2=true) (hx3:¬op=10) (hx4:¬op=11) (hx5:¬op=12) (hx6:¬op=17) (hx7:¬op=18) (hx8:¬n2=0) (hx9:op=13) (hx10:eInteger_s (nDivide_r0 n1 n2) (nDivide_r2 n1 n2)=true):Pu 119 ([pI op,vA o1 n1 a2 a3 a4 a5 a6,vA o2 n2 b2 b3 b4 b5 b6]) (rA [pI 1,pI (nDivide_r0 n1 n2),.str (ByteArray.mk #[]),.sl 7 [],.sl 1 [],.sl 7 [],.sl 8 []]):=
 pu mdL (fun e=>[en op 16 hx0,en op 24 hx1,cl (@eBoth (1) (o1) (n1) (o2) (n2) (a2) (a3) (a4) (a5) (a6) (b2) (b3) (b4) (b5) (b6)),cl (@eNeed_2 (eBoth_r0 1 o1 o2) hx2),en op 10 hx3,en op 11 hx4,en op 12 hx5,en op 17 hx6,en op 18 hx7,en n2 0 hx8,et op 13 hx9,cl (@nDiv (n1) (n2)),cl (@eInteger_t (nDivide_r0 n1 n2) (nDivide_r2 n1 n2) hx10)]) Tryz.func119
theorem eCompute_18 (hx1:¬op=24) (hx2:eBoth_r0 1 o1 o2=true) (hx3:¬op=10) (hx4:¬op=11) (hx5:¬op=12) (hx6:¬op=17) (hx7:¬op=18) (hx8:¬n2=0) (hx9:op=13) (hx10:eInteger_s (nDivide_r0 n1 n2) (nDivide_r2 n1 n2)=false):Pu 119 ([pI op,vA o1 n1 a2 a3 a4 a5 a6,vA o2 n2 b2 b3 b4 b5 b6]) (.panic (.iface 146 (.agg [pI 25]))):=
 pu mdL (fun e=>[en op 16 hx0,en op 24 hx1,cl (@eBoth (1) (o1) (n1) (o2) (n2) (a2) (a3) (a4) (a5) (a6) (b2) (b3) (b4) (b5) (b6)),cl (@eNeed_2 (eBoth_r0 1 o1 o2) hx2),en op 10 hx3,en op 11 hx4,en op 12 hx5,en op 17 hx6,en op 18 hx7,en n2 0 hx8,et op 13 hx9,cl (@nDiv (n1) (n2)),cl (@eInteger_f (nDivide_r0 n1 n2) (nDivide_r2 n1 n2) hx10)]) Tryz.func119
theorem eCompute_19 (hx1:¬op=24) (hx2:eBoth_r0 1 o1 o2=true) (hx3:¬op=10) (hx4:¬op=11) (hx5:¬op=12) (hx6:¬op=17) (hx7:¬op=18) (hx8:¬n2=0) (hx9:¬op=13) (hx10:eInteger_s (nDivide_r1 n1 n2) (nDivide_r2 n1 n2)=true):Pu 119 ([pI op,vA o1 n1 a2 a3 a4 a5 a6,vA o2 n2 b2 b3 b4 b5 b6]) (rA [pI 1,pI (nDivide_r1 n1 n2),.str (ByteArray.mk #[]),.sl 7 [],.sl 1 [],.sl 7 [],.sl 8 []]):=
 pu mdL (fun e=>[en op 16 hx0,en op 24 hx1,cl (@eBoth (1) (o1) (n1) (o2) (n2) (a2) (a3) (a4) (a5) (a6) (b2) (b3) (b4) (b5) (b6)),cl (@eNeed_2 (eBoth_r0 1 o1 o2) hx2),en op 10 hx3,en op 11 hx4,en op 12 hx5,en op 17 hx6,en op 18 hx7,en n2 0 hx8,en op 13 hx9,cl (@nMod (n1) (n2)),cl (@eInteger_t (nDivide_r1 n1 n2) (nDivide_r2 n1 n2) hx10)]) Tryz.func119
theorem eCompute_20 (hx1:¬op=24) (hx2:eBoth_r0 1 o1 o2=true) (hx3:¬op=10) (hx4:¬op=11) (hx5:¬op=12) (hx6:¬op=17) (hx7:¬op=18) (hx8:¬n2=0) (hx9:¬op=13) (hx10:eInteger_s (nDivide_r1 n1 n2) (nDivide_r2 n1 n2)=false):Pu 119 ([pI op,vA o1 n1 a2 a3 a4 a5 a6,vA o2 n2 b2 b3 b4 b5 b6]) (.panic (.iface 146 (.agg [pI 25]))):=
 pu mdL (fun e=>[en op 16 hx0,en op 24 hx1,cl (@eBoth (1) (o1) (n1) (o2) (n2) (a2) (a3) (a4) (a5) (a6) (b2) (b3) (b4) (b5) (b6)),cl (@eNeed_2 (eBoth_r0 1 o1 o2) hx2),en op 10 hx3,en op 11 hx4,en op 12 hx5,en op 17 hx6,en op 18 hx7,en n2 0 hx8,en op 13 hx9,cl (@nMod (n1) (n2)),cl (@eInteger_f (nDivide_r1 n1 n2) (nDivide_r2 n1 n2) hx10)]) Tryz.func119
end
def eCompute_s (op:Int) (o1:Int) (n1:Int) (o2:Int) (n2:Int):Bool:=(if op=16 then (if eBoth_r0 1 o1 o2=true then true else (if eBoth_r0 2 o1 o2=false then false else true)) else (if op=24 then (if o1=4 then (if o2=1 then true else false) else false) else (if eBoth_r0 1 o1 o2=false then false else (if op=10 then (if eInteger_s (nAdd_r0 n1 n2) (nAdd_r1 n1 n2)=true then true else false) else (if op=11 then (if eInteger_s (nSub_r0 n1 n2) (nSub_r1 n1 n2)=true then true else false) else (if op=12 then (if eInteger_s (nMul_r0 n1 n2) (nMul_r1 n1 n2)=true then true else false) else (if op=17 then true else (if op=18 then true else (if n2=0 then false else (if op=13 then (if eInteger_s (nDivide_r0 n1 n2) (nDivide_r2 n1 n2)=true then true else false) else (if eInteger_s (nDivide_r1 n1 n2) (nDivide_r2 n1 n2)=true then true else false)))))))))))
def eCompute_t_r0 (op:Int) (o1:Int) (n1:Int) (o2:Int) (n2:Int):Int:=(if op=16 then (if eBoth_r0 1 o1 o2=true then (2) else (if eBoth_r0 2 o1 o2=false then 0 else (2))) else (if op=24 then (if o1=4 then (if o2=1 then (4) else 0) else 0) else (if eBoth_r0 1 o1 o2=false then 0 else (if op=10 then (if eInteger_s (nAdd_r0 n1 n2) (nAdd_r1 n1 n2)=true then (1) else 0) else (if op=11 then (if eInteger_s (nSub_r0 n1 n2) (nSub_r1 n1 n2)=true then (1) else 0) else (if op=12 then (if eInteger_s (nMul_r0 n1 n2) (nMul_r1 n1 n2)=true then (1) else 0) else (if op=17 then (2) else (if op=18 then (2) else (if n2=0 then 0 else (if op=13 then (if eInteger_s (nDivide_r0 n1 n2) (nDivide_r2 n1 n2)=true then (1) else 0) else (if eInteger_s (nDivide_r1 n1 n2) (nDivide_r2 n1 n2)=true then (1) else 0)))))))))))
def eCompute_t_r1 (op:Int) (o1:Int) (n1:Int) (o2:Int) (n2:Int):Int:=(if op=16 then (if eBoth_r0 1 o1 o2=true then (eTruth_r0 (n1==n2)) else (if eBoth_r0 2 o1 o2=false then 0 else (eTruth_r0 (n1==n2)))) else (if op=24 then (if o1=4 then (if o2=1 then (n2) else 0) else 0) else (if eBoth_r0 1 o1 o2=false then 0 else (if op=10 then (if eInteger_s (nAdd_r0 n1 n2) (nAdd_r1 n1 n2)=true then (nAdd_r0 n1 n2) else 0) else (if op=11 then (if eInteger_s (nSub_r0 n1 n2) (nSub_r1 n1 n2)=true then (nSub_r0 n1 n2) else 0) else (if op=12 then (if eInteger_s (nMul_r0 n1 n2) (nMul_r1 n1 n2)=true then (nMul_r0 n1 n2) else 0) else (if op=17 then (eTruth_r0 (decide (n1<n2))) else (if op=18 then (eTruth_r0 (decide (n1<=n2))) else (if n2=0 then 0 else (if op=13 then (if eInteger_s (nDivide_r0 n1 n2) (nDivide_r2 n1 n2)=true then (nDivide_r0 n1 n2) else 0) else (if eInteger_s (nDivide_r1 n1 n2) (nDivide_r2 n1 n2)=true then (nDivide_r1 n1 n2) else 0)))))))))))
theorem eCompute_t (op o1 n1 o2 n2:Int) (a2 a3 a4 a5 a6 b2 b3 b4 b5 b6:PV) (hs:eCompute_s op o1 n1 o2 n2=true):Pu 119 ([pI op,vA o1 n1 a2 a3 a4 a5 a6,vA o2 n2 b2 b3 b4 b5 b6]) (rA [pI (eCompute_t_r0 op o1 n1 o2 n2),pI (eCompute_t_r1 op o1 n1 o2 n2),.str (ByteArray.mk #[]),.sl 7 [],.sl 1 [],.sl 7 [],.sl 8 []]):=by
 by_cases h0:op=16
 ·by_cases h1:eBoth_r0 1 o1 o2=true
  ·rw [(show eCompute_t_r0 op o1 n1 o2 n2=(2) by unfold eCompute_t_r0; rw [if_pos h0,if_pos h1]),(show eCompute_t_r1 op o1 n1 o2 n2=(eTruth_r0 (n1==n2)) by unfold eCompute_t_r1; rw [if_pos h0,if_pos h1])]; exact eCompute_1 op o1 n1 o2 n2 a2 a3 a4 a5 a6 b2 b3 b4 b5 b6 h0 h1
  ·by_cases h2:eBoth_r0 2 o1 o2=false
   ·exact absurd hs (by unfold eCompute_s; rw [if_pos h0,if_neg h1,if_pos h2]; decide)
   ·rw [(show eCompute_t_r0 op o1 n1 o2 n2=(2) by unfold eCompute_t_r0; rw [if_pos h0,if_neg h1,if_neg h2]),(show eCompute_t_r1 op o1 n1 o2 n2=(eTruth_r0 (n1==n2)) by unfold eCompute_t_r1; rw [if_pos h0,if_neg h1,if_neg h2])]; exact eCompute_3 op o1 n1 o2 n2 a2 a3 a4 a5 a6 b2 b3 b4 b5 b6 h0 (bFT h1) (bTF h2)
 ·by_cases h1:op=24
  ·by_cases h2:o1=4
   ·by_cases h3:o2=1
    ·rw [(show eCompute_t_r0 op o1 n1 o2 n2=(4) by unfold eCompute_t_r0; rw [if_neg h0,if_pos h1,if_pos h2,if_pos h3]),(show eCompute_t_r1 op o1 n1 o2 n2=(n2) by unfold eCompute_t_r1; rw [if_neg h0,if_pos h1,if_pos h2,if_pos h3])]; exact eCompute_5 op o1 n1 o2 n2 a2 a3 a4 a5 a6 b2 b3 b4 b5 b6 h0 h1 h2 h3
    ·exact absurd hs (by unfold eCompute_s; rw [if_neg h0,if_pos h1,if_pos h2,if_neg h3]; decide)
   ·exact absurd hs (by unfold eCompute_s; rw [if_neg h0,if_pos h1,if_neg h2]; decide)
  ·by_cases h2:eBoth_r0 1 o1 o2=false
   ·exact absurd hs (by unfold eCompute_s; rw [if_neg h0,if_neg h1,if_pos h2]; decide)
   ·by_cases h3:op=10
    ·by_cases h4:eInteger_s (nAdd_r0 n1 n2) (nAdd_r1 n1 n2)=true
     ·rw [(show eCompute_t_r0 op o1 n1 o2 n2=(1) by unfold eCompute_t_r0; rw [if_neg h0,if_neg h1,if_neg h2,if_pos h3,if_pos h4]),(show eCompute_t_r1 op o1 n1 o2 n2=(nAdd_r0 n1 n2) by unfold eCompute_t_r1; rw [if_neg h0,if_neg h1,if_neg h2,if_pos h3,if_pos h4])]; exact eCompute_8 op o1 n1 o2 n2 a2 a3 a4 a5 a6 b2 b3 b4 b5 b6 h0 h1 (bTF h2) h3 h4
     ·exact absurd hs (by unfold eCompute_s; rw [if_neg h0,if_neg h1,if_neg h2,if_pos h3,if_neg h4]; decide)
    ·by_cases h4:op=11
     ·by_cases h5:eInteger_s (nSub_r0 n1 n2) (nSub_r1 n1 n2)=true
      ·rw [(show eCompute_t_r0 op o1 n1 o2 n2=(1) by unfold eCompute_t_r0; rw [if_neg h0,if_neg h1,if_neg h2,if_neg h3,if_pos h4,if_pos h5]),(show eCompute_t_r1 op o1 n1 o2 n2=(nSub_r0 n1 n2) by unfold eCompute_t_r1; rw [if_neg h0,if_neg h1,if_neg h2,if_neg h3,if_pos h4,if_pos h5])]; exact eCompute_10 op o1 n1 o2 n2 a2 a3 a4 a5 a6 b2 b3 b4 b5 b6 h0 h1 (bTF h2) h3 h4 h5
      ·exact absurd hs (by unfold eCompute_s; rw [if_neg h0,if_neg h1,if_neg h2,if_neg h3,if_pos h4,if_neg h5]; decide)
     ·by_cases h5:op=12
      ·by_cases h6:eInteger_s (nMul_r0 n1 n2) (nMul_r1 n1 n2)=true
       ·rw [(show eCompute_t_r0 op o1 n1 o2 n2=(1) by unfold eCompute_t_r0; rw [if_neg h0,if_neg h1,if_neg h2,if_neg h3,if_neg h4,if_pos h5,if_pos h6]),(show eCompute_t_r1 op o1 n1 o2 n2=(nMul_r0 n1 n2) by unfold eCompute_t_r1; rw [if_neg h0,if_neg h1,if_neg h2,if_neg h3,if_neg h4,if_pos h5,if_pos h6])]; exact eCompute_12 op o1 n1 o2 n2 a2 a3 a4 a5 a6 b2 b3 b4 b5 b6 h0 h1 (bTF h2) h3 h4 h5 h6
       ·exact absurd hs (by unfold eCompute_s; rw [if_neg h0,if_neg h1,if_neg h2,if_neg h3,if_neg h4,if_pos h5,if_neg h6]; decide)
      ·by_cases h6:op=17
       ·rw [(show eCompute_t_r0 op o1 n1 o2 n2=(2) by unfold eCompute_t_r0; rw [if_neg h0,if_neg h1,if_neg h2,if_neg h3,if_neg h4,if_neg h5,if_pos h6]),(show eCompute_t_r1 op o1 n1 o2 n2=(eTruth_r0 (decide (n1<n2))) by unfold eCompute_t_r1; rw [if_neg h0,if_neg h1,if_neg h2,if_neg h3,if_neg h4,if_neg h5,if_pos h6])]; exact eCompute_14 op o1 n1 o2 n2 a2 a3 a4 a5 a6 b2 b3 b4 b5 b6 h0 h1 (bTF h2) h3 h4 h5 h6
       ·by_cases h7:op=18
        ·rw [(show eCompute_t_r0 op o1 n1 o2 n2=(2) by unfold eCompute_t_r0; rw [if_neg h0,if_neg h1,if_neg h2,if_neg h3,if_neg h4,if_neg h5,if_neg h6,if_pos h7]),(show eCompute_t_r1 op o1 n1 o2 n2=(eTruth_r0 (decide (n1<=n2))) by unfold eCompute_t_r1; rw [if_neg h0,if_neg h1,if_neg h2,if_neg h3,if_neg h4,if_neg h5,if_neg h6,if_pos h7])]; exact eCompute_15 op o1 n1 o2 n2 a2 a3 a4 a5 a6 b2 b3 b4 b5 b6 h0 h1 (bTF h2) h3 h4 h5 h6 h7
        ·by_cases h8:n2=0
         ·exact absurd hs (by unfold eCompute_s; rw [if_neg h0,if_neg h1,if_neg h2,if_neg h3,if_neg h4,if_neg h5,if_neg h6,if_neg h7,if_pos h8]; decide)
         ·by_cases h9:op=13
          ·by_cases h10:eInteger_s (nDivide_r0 n1 n2) (nDivide_r2 n1 n2)=true
           ·rw [(show eCompute_t_r0 op o1 n1 o2 n2=(1) by unfold eCompute_t_r0; rw [if_neg h0,if_neg h1,if_neg h2,if_neg h3,if_neg h4,if_neg h5,if_neg h6,if_neg h7,if_neg h8,if_pos h9,if_pos h10]),(show eCompute_t_r1 op o1 n1 o2 n2=(nDivide_r0 n1 n2) by unfold eCompute_t_r1; rw [if_neg h0,if_neg h1,if_neg h2,if_neg h3,if_neg h4,if_neg h5,if_neg h6,if_neg h7,if_neg h8,if_pos h9,if_pos h10])]; exact eCompute_17 op o1 n1 o2 n2 a2 a3 a4 a5 a6 b2 b3 b4 b5 b6 h0 h1 (bTF h2) h3 h4 h5 h6 h7 h8 h9 h10
           ·exact absurd hs (by unfold eCompute_s; rw [if_neg h0,if_neg h1,if_neg h2,if_neg h3,if_neg h4,if_neg h5,if_neg h6,if_neg h7,if_neg h8,if_pos h9,if_neg h10]; decide)
          ·by_cases h10:eInteger_s (nDivide_r1 n1 n2) (nDivide_r2 n1 n2)=true
           ·rw [(show eCompute_t_r0 op o1 n1 o2 n2=(1) by unfold eCompute_t_r0; rw [if_neg h0,if_neg h1,if_neg h2,if_neg h3,if_neg h4,if_neg h5,if_neg h6,if_neg h7,if_neg h8,if_neg h9,if_pos h10]),(show eCompute_t_r1 op o1 n1 o2 n2=(nDivide_r1 n1 n2) by unfold eCompute_t_r1; rw [if_neg h0,if_neg h1,if_neg h2,if_neg h3,if_neg h4,if_neg h5,if_neg h6,if_neg h7,if_neg h8,if_neg h9,if_pos h10])]; exact eCompute_19 op o1 n1 o2 n2 a2 a3 a4 a5 a6 b2 b3 b4 b5 b6 h0 h1 (bTF h2) h3 h4 h5 h6 h7 h8 h9 h10
           ·exact absurd hs (by unfold eCompute_s; rw [if_neg h0,if_neg h1,if_neg h2,if_neg h3,if_neg h4,if_neg h5,if_neg h6,if_neg h7,if_neg h8,if_neg h9,if_neg h10]; decide)
def eCompute_f_r0 (op:Int) (o1:Int) (n1:Int) (o2:Int) (n2:Int):Int:=(if op=16 then (if eBoth_r0 1 o1 o2=true then 0 else (if eBoth_r0 2 o1 o2=false then (19) else 0)) else (if op=24 then (if o1=4 then (if o2=1 then 0 else (19)) else (19)) else (if eBoth_r0 1 o1 o2=false then (19) else (if op=10 then (if eInteger_s (nAdd_r0 n1 n2) (nAdd_r1 n1 n2)=true then 0 else (25)) else (if op=11 then (if eInteger_s (nSub_r0 n1 n2) (nSub_r1 n1 n2)=true then 0 else (25)) else (if op=12 then (if eInteger_s (nMul_r0 n1 n2) (nMul_r1 n1 n2)=true then 0 else (25)) else (if op=17 then 0 else (if op=18 then 0 else (if n2=0 then (27) else (if op=13 then (if eInteger_s (nDivide_r0 n1 n2) (nDivide_r2 n1 n2)=true then 0 else (25)) else (if eInteger_s (nDivide_r1 n1 n2) (nDivide_r2 n1 n2)=true then 0 else (25))))))))))))
theorem eCompute_f (op o1 n1 o2 n2:Int) (a2 a3 a4 a5 a6 b2 b3 b4 b5 b6:PV) (hs:eCompute_s op o1 n1 o2 n2=false):Pu 119 ([pI op,vA o1 n1 a2 a3 a4 a5 a6,vA o2 n2 b2 b3 b4 b5 b6]) (.panic (.iface 146 (.agg [pI (eCompute_f_r0 op o1 n1 o2 n2)]))):=by
 by_cases h0:op=16
 ·by_cases h1:eBoth_r0 1 o1 o2=true
  ·exact absurd hs (by unfold eCompute_s; rw [if_pos h0,if_pos h1]; decide)
  ·by_cases h2:eBoth_r0 2 o1 o2=false
   ·rw [(show eCompute_f_r0 op o1 n1 o2 n2=(19) by unfold eCompute_f_r0; rw [if_pos h0,if_neg h1,if_pos h2])]; exact eCompute_2 op o1 n1 o2 n2 a2 a3 a4 a5 a6 b2 b3 b4 b5 b6 h0 (bFT h1) h2
   ·exact absurd hs (by unfold eCompute_s; rw [if_pos h0,if_neg h1,if_neg h2]; decide)
 ·by_cases h1:op=24
  ·by_cases h2:o1=4
   ·by_cases h3:o2=1
    ·exact absurd hs (by unfold eCompute_s; rw [if_neg h0,if_pos h1,if_pos h2,if_pos h3]; decide)
    ·rw [(show eCompute_f_r0 op o1 n1 o2 n2=(19) by unfold eCompute_f_r0; rw [if_neg h0,if_pos h1,if_pos h2,if_neg h3])]; exact eCompute_4 op o1 n1 o2 n2 a2 a3 a4 a5 a6 b2 b3 b4 b5 b6 h0 h1 h2 h3
   ·rw [(show eCompute_f_r0 op o1 n1 o2 n2=(19) by unfold eCompute_f_r0; rw [if_neg h0,if_pos h1,if_neg h2])]; exact eCompute_6 op o1 n1 o2 n2 a2 a3 a4 a5 a6 b2 b3 b4 b5 b6 h0 h1 h2
  ·by_cases h2:eBoth_r0 1 o1 o2=false
   ·rw [(show eCompute_f_r0 op o1 n1 o2 n2=(19) by unfold eCompute_f_r0; rw [if_neg h0,if_neg h1,if_pos h2])]; exact eCompute_7 op o1 n1 o2 n2 a2 a3 a4 a5 a6 b2 b3 b4 b5 b6 h0 h1 h2
   ·by_cases h3:op=10
    ·by_cases h4:eInteger_s (nAdd_r0 n1 n2) (nAdd_r1 n1 n2)=true
     ·exact absurd hs (by unfold eCompute_s; rw [if_neg h0,if_neg h1,if_neg h2,if_pos h3,if_pos h4]; decide)
     ·rw [(show eCompute_f_r0 op o1 n1 o2 n2=(25) by unfold eCompute_f_r0; rw [if_neg h0,if_neg h1,if_neg h2,if_pos h3,if_neg h4])]; exact eCompute_9 op o1 n1 o2 n2 a2 a3 a4 a5 a6 b2 b3 b4 b5 b6 h0 h1 (bTF h2) h3 (bFT h4)
    ·by_cases h4:op=11
     ·by_cases h5:eInteger_s (nSub_r0 n1 n2) (nSub_r1 n1 n2)=true
      ·exact absurd hs (by unfold eCompute_s; rw [if_neg h0,if_neg h1,if_neg h2,if_neg h3,if_pos h4,if_pos h5]; decide)
      ·rw [(show eCompute_f_r0 op o1 n1 o2 n2=(25) by unfold eCompute_f_r0; rw [if_neg h0,if_neg h1,if_neg h2,if_neg h3,if_pos h4,if_neg h5])]; exact eCompute_11 op o1 n1 o2 n2 a2 a3 a4 a5 a6 b2 b3 b4 b5 b6 h0 h1 (bTF h2) h3 h4 (bFT h5)
     ·by_cases h5:op=12
      ·by_cases h6:eInteger_s (nMul_r0 n1 n2) (nMul_r1 n1 n2)=true
       ·exact absurd hs (by unfold eCompute_s; rw [if_neg h0,if_neg h1,if_neg h2,if_neg h3,if_neg h4,if_pos h5,if_pos h6]; decide)
       ·rw [(show eCompute_f_r0 op o1 n1 o2 n2=(25) by unfold eCompute_f_r0; rw [if_neg h0,if_neg h1,if_neg h2,if_neg h3,if_neg h4,if_pos h5,if_neg h6])]; exact eCompute_13 op o1 n1 o2 n2 a2 a3 a4 a5 a6 b2 b3 b4 b5 b6 h0 h1 (bTF h2) h3 h4 h5 (bFT h6)
      ·by_cases h6:op=17
       ·exact absurd hs (by unfold eCompute_s; rw [if_neg h0,if_neg h1,if_neg h2,if_neg h3,if_neg h4,if_neg h5,if_pos h6]; decide)
       ·by_cases h7:op=18
        ·exact absurd hs (by unfold eCompute_s; rw [if_neg h0,if_neg h1,if_neg h2,if_neg h3,if_neg h4,if_neg h5,if_neg h6,if_pos h7]; decide)
        ·by_cases h8:n2=0
         ·rw [(show eCompute_f_r0 op o1 n1 o2 n2=(27) by unfold eCompute_f_r0; rw [if_neg h0,if_neg h1,if_neg h2,if_neg h3,if_neg h4,if_neg h5,if_neg h6,if_neg h7,if_pos h8])]; exact eCompute_16 op o1 n1 o2 n2 a2 a3 a4 a5 a6 b2 b3 b4 b5 b6 h0 h1 (bTF h2) h3 h4 h5 h6 h7 h8
         ·by_cases h9:op=13
          ·by_cases h10:eInteger_s (nDivide_r0 n1 n2) (nDivide_r2 n1 n2)=true
           ·exact absurd hs (by unfold eCompute_s; rw [if_neg h0,if_neg h1,if_neg h2,if_neg h3,if_neg h4,if_neg h5,if_neg h6,if_neg h7,if_neg h8,if_pos h9,if_pos h10]; decide)
           ·rw [(show eCompute_f_r0 op o1 n1 o2 n2=(25) by unfold eCompute_f_r0; rw [if_neg h0,if_neg h1,if_neg h2,if_neg h3,if_neg h4,if_neg h5,if_neg h6,if_neg h7,if_neg h8,if_pos h9,if_neg h10])]; exact eCompute_18 op o1 n1 o2 n2 a2 a3 a4 a5 a6 b2 b3 b4 b5 b6 h0 h1 (bTF h2) h3 h4 h5 h6 h7 h8 h9 (bFT h10)
          ·by_cases h10:eInteger_s (nDivide_r1 n1 n2) (nDivide_r2 n1 n2)=true
           ·exact absurd hs (by unfold eCompute_s; rw [if_neg h0,if_neg h1,if_neg h2,if_neg h3,if_neg h4,if_neg h5,if_neg h6,if_neg h7,if_neg h8,if_neg h9,if_pos h10]; decide)
           ·rw [(show eCompute_f_r0 op o1 n1 o2 n2=(25) by unfold eCompute_f_r0; rw [if_neg h0,if_neg h1,if_neg h2,if_neg h3,if_neg h4,if_neg h5,if_neg h6,if_neg h7,if_neg h8,if_neg h9,if_neg h10])]; exact eCompute_20 op o1 n1 o2 n2 a2 a3 a4 a5 a6 b2 b3 b4 b5 b6 h0 h1 (bTF h2) h3 h4 h5 h6 h7 h8 h9 (bFT h10)
end Go.Proofs.YtgonmmckkikmaaaGreat
namespace Go.Proofs.YtgonmmckkikmaaaGreat
open Go.Pv
set_option maxRecDepth 100000
abbrev mdM (c0 c1 c2 c3 c4:PV) (l:List Df):PV := .agg [c0,c1,c2,c3,c4,.sl 25 (dfsC l)]
abbrev sDefI (l:List Df) (name:ByteArray) (i:Int) (ext:Ext):S:=⟨[(1,.v (.str name)),(4,.lp 4 0),(5,.v (.bool false)),(9,.v (.sl 25 (dfsC l))),(10,.v (.int .i64 l.length)),(11,.v (.int .i64 i))],[(4,List.replicate 25 jk)],ext⟩
section
variable (l:List Df) (name:ByteArray) (i:Nat) (ext:Ext) (hi:i<l.length) (hn:l.length<=1000000000)
include l name i ext hi hn
theorem sDefB_1 (hx0:dfNm (List.getD l i default)=name) (cx:Cx) (hcx:cx.n=22) {Q:PExit->S->Prop} (hq:Q (.ret) (S.mk [(1,vS name),(4,.lp 4 0),(5,.v (.bool true)),(9,vL 25 (dfsC l)),(10,vI6 (l.length:Int)),(11,vI6 (i:Int))] [(4,dfV (List.getD l i default))] ext)):PW Tryz.prog cx (loopF Tryz.f77 0) (sDefI l name (i:Int) ext) Q:=
 pw mdL 22 [dt ((i:Int)<(l.length:Int)),am ((0:Int)<=(i:Int)/\(i:Int)<((dfsC l).length:Int)) (by (simp only [dfsC_len]; omega)),xDf l i hi,bt (ByteArray.toList (dfNm (List.getD l i default))==ByteArray.toList name) (bsT hx0)] [1,4,5,9,10,11] [4] hcx hq
theorem sDefB_2 (hx0:¬dfNm (List.getD l i default)=name) (cx:Cx) (hcx:cx.n=22) {Q:PExit->S->Prop} (hq:Q (.normal) (S.mk [(1,vS name),(4,.lp 4 0),(5,.v (.bool false)),(9,vL 25 (dfsC l)),(10,vI6 (l.length:Int)),(11,vI6 ((i:Int)+1))] [(4,[jk,jk,jk,jk,jk,jk,jk,jk,jk,jk,jk,jk,jk,jk,jk,jk,jk,jk,jk,jk,jk,jk,jk,jk,jk])] ext)):PW Tryz.prog cx (loopF Tryz.f77 0) (sDefI l name (i:Int) ext) Q:=
 pw mdL 22 [dt ((i:Int)<(l.length:Int)),am ((0:Int)<=(i:Int)/\(i:Int)<((dfsC l).length:Int)) (by (simp only [dfsC_len]; omega)),xDf l i hi,bf (ByteArray.toList (dfNm (List.getD l i default))==ByteArray.toList name) (bsF hx0),wr ((i:Int)+1)] [1,4,5,9,10,11] [4] hcx hq
end
theorem sDefE (l:List Df) (name:ByteArray) (ext:Ext) (cx:Cx) (hcx:cx.n=22) {Q:PExit->S->Prop} (hq:Q (.exit 0) (S.mk [(1,vS name),(4,.lp 4 0),(5,.v (.bool false)),(9,vL 25 (dfsC l)),(10,vI6 (l.length:Int)),(11,vI6 (l.length:Int))] [(4,[jk,jk,jk,jk,jk,jk,jk,jk,jk,jk,jk,jk,jk,jk,jk,jk,jk,jk,jk,jk,jk,jk,jk,jk,jk])] ext)):PW Tryz.prog cx (loopF Tryz.f77 0) (sDefI l name (l.length:Int) ext) Q:=
 pw mdL 22 [df ((l.length:Int)<(l.length:Int))] [1,4,5,9,10,11] [4] hcx hq
def findD (name:ByteArray):List Df->Option Df
 | []=>none
 | d::r=>if dfNm d=name then some d else findD name r
def sDefR (l:List Df) (name:ByteArray) (ext:Ext) (i:Nat):PExit × S:=match findD name (l.drop i) with
 | some d=>(.ret,⟨[(4,.lp 4 0),(5,.v (.bool true))],[(4,(dfL d).map .v)],ext⟩)
 | none=>(.exit 0,⟨[(4,.lp 4 0)],[(4,List.replicate 25 jk)],ext⟩)
theorem sDef_loop (l:List Df) (name:ByteArray) (ext:Ext) (hn:l.length<=1000000000):(Ob.loop 22 (loopF Tryz.f77 0) (sDefI l name 0 ext) (sDefR l name ext 0).1 (sDefR l name ext 0).2).ok Tryz.prog:=by
 refine Ob.loop_of (α:={ i:Nat // i<=l.length }) (fun i=>sDefI l name i.1 ext) (fun i=>l.length - i.1) (fun i=>sDefR l name ext i.1) ?_ ⟨0,by simp⟩
 rintro ⟨i,hi⟩ cx hcx
 rcases Nat.lt_or_ge i l.length with hlt | hge
 ·by_cases h:dfNm (l.getD i default)=name
  ·have hr:sDefR l name ext i=(.ret,⟨[(4,.lp 4 0),(5,.v (.bool true))],[(4,(dfL (l.getD i default)).map .v)],ext⟩):=by simp only [sDefR,drop_at hlt,findD,h,if_true]
   refine sDefB_1 l name i ext hlt hn h cx hcx (.inr ?_)
   rw [hr]
   exact ⟨by simp,rfl,⟨W,W,trivial⟩,⟨WLs.refl _,trivial⟩,rfl⟩
  ·have hr:sDefR l name ext i=sDefR l name ext (i+1):=by simp only [sDefR,drop_at hlt,findD,h,if_false]
   exact sDefB_2 l name i ext hlt hn h cx hcx (.inl ⟨rfl,⟨i+1,hlt⟩,by simp only; omega,⟨⟨W,W,W,W,W,W,trivial⟩,⟨WLs.refl _,trivial⟩,rfl⟩,hr.symm⟩)
 ·have he:i=l.length:=by omega
  subst he
  have hr:sDefR l name ext l.length=(.exit 0,⟨[(4,.lp 4 0)],[(4,List.replicate 25 jk)],ext⟩):=by simp only [sDefR,List.drop_length,findD]
  refine sDefE l name ext cx hcx (.inr ?_)
  simp only
  rw [hr]
  exact ⟨by simp,rfl,⟨W,trivial⟩,⟨WLs.refl _,trivial⟩,rfl⟩
theorem sDef_loop_some (l:List Df) (name:ByteArray) (ext:Ext) (hn:l.length<=1000000000) (d:Df) (h:findD name l=some d):(Ob.loop 22 (loopF Tryz.f77 0) (sDefI l name 0 ext) .ret ⟨[(4,.lp 4 0),(5,.v (.bool true))],[(4,(dfL d).map .v)],ext⟩).ok Tryz.prog:=by
 have:=sDef_loop l name ext hn
 simp only [sDefR,List.drop_zero,h] at this
 exact this
theorem sDef_loop_none (l:List Df) (name:ByteArray) (ext:Ext) (hn:l.length<=1000000000) (h:findD name l=none):(Ob.loop 22 (loopF Tryz.f77 0) (sDefI l name 0 ext) (.exit 0) ⟨[(4,.lp 4 0)],[(4,List.replicate 25 jk)],ext⟩).ok Tryz.prog:=by
 have:=sDef_loop l name ext hn
 simp only [sDefR,List.drop_zero,h] at this
 exact this
theorem sDef_1 (c0 c1 c2 c3 c4:PV) (l:List Df) (name:ByteArray) (hn:l.length<=1000000000) (hy0:Df) (hx1:findD name l=some hy0):Pu 77 ([mdM c0 c1 c2 c3 c4 l,.str name]) (.ret (.tup [.agg (dfL hy0),.bool true])):=
 pu mdL (fun e=>[sl (dfsC_len l),lp (S.mk [(0,.v (.agg [c0,c1,c2,c3,c4,.sl 25 (dfsC l)])),(1,vS name),(2,.lp 2 0),(4,.lp 4 0),(5,.v (.bool false)),(8,.lp 2 5),(9,vL 25 (dfsC l)),(10,vI6 (l.length:Int)),(11,vI6 0)] [(2,[.v c0,.v c1,.v c2,.v c3,.v c4,vL 25 (dfsC l)]),(4,[vS (ByteArray.mk #[]),.v .nilsl,vI6 0,vS (ByteArray.mk #[]),vI6 0,.v .nilsl,.v .nilsl,.v .nilsl,.v .nilsl,vI6 0,.v (.bool false),.v .nilsl,.v .nilsl,.v .nilsl,.v .nilsl,vI6 0,vS (ByteArray.mk #[]),.v .nilsl,.v .nilsl,vI6 0,vS (ByteArray.mk #[]),vI6 0,.v .nilsl,.v .nilsl,.v .nilsl])] e) (@sDef_loop_some (l) (name) (e) hn hy0 hx1) ⟨⟨W,W,W,W,W,W,trivial⟩,⟨⟨(by first | exact .inl rfl | exact .inr ⟨rfl,rfl⟩ | exact .inr rfl | exact .inr trivial),(by first | exact .inl rfl | exact .inr ⟨rfl,rfl⟩ | exact .inr rfl | exact .inr trivial),(by first | exact .inl rfl | exact .inr ⟨rfl,rfl⟩ | exact .inr rfl | exact .inr trivial),(by first | exact .inl rfl | exact .inr ⟨rfl,rfl⟩ | exact .inr rfl | exact .inr trivial),(by first | exact .inl rfl | exact .inr ⟨rfl,rfl⟩ | exact .inr rfl | exact .inr trivial),(by first | exact .inl rfl | exact .inr ⟨rfl,rfl⟩ | exact .inr rfl | exact .inr trivial),(by first | exact .inl rfl | exact .inr ⟨rfl,rfl⟩ | exact .inr rfl | exact .inr trivial),(by first | exact .inl rfl | exact .inr ⟨rfl,rfl⟩ | exact .inr rfl | exact .inr trivial),(by first | exact .inl rfl | exact .inr ⟨rfl,rfl⟩ | exact .inr rfl | exact .inr trivial),(by first | exact .inl rfl | exact .inr ⟨rfl,rfl⟩ | exact .inr rfl | exact .inr trivial),(by first | exact .inl rfl | exact .inr ⟨rfl,rfl⟩ | exact .inr rfl | exact .inr trivial),(by first | exact .inl rfl | exact .inr ⟨rfl,rfl⟩ | exact .inr rfl | exact .inr trivial),(by first | exact .inl rfl | exact .inr ⟨rfl,rfl⟩ | exact .inr rfl | exact .inr trivial),(by first | exact .inl rfl | exact .inr ⟨rfl,rfl⟩ | exact .inr rfl | exact .inr trivial),(by first | exact .inl rfl | exact .inr ⟨rfl,rfl⟩ | exact .inr rfl | exact .inr trivial),(by first | exact .inl rfl | exact .inr ⟨rfl,rfl⟩ | exact .inr rfl | exact .inr trivial),(by first | exact .inl rfl | exact .inr ⟨rfl,rfl⟩ | exact .inr rfl | exact .inr trivial),(by first | exact .inl rfl | exact .inr ⟨rfl,rfl⟩ | exact .inr rfl | exact .inr trivial),(by first | exact .inl rfl | exact .inr ⟨rfl,rfl⟩ | exact .inr rfl | exact .inr trivial),(by first | exact .inl rfl | exact .inr ⟨rfl,rfl⟩ | exact .inr rfl | exact .inr trivial),(by first | exact .inl rfl | exact .inr ⟨rfl,rfl⟩ | exact .inr rfl | exact .inr trivial),(by first | exact .inl rfl | exact .inr ⟨rfl,rfl⟩ | exact .inr rfl | exact .inr trivial),(by first | exact .inl rfl | exact .inr ⟨rfl,rfl⟩ | exact .inr rfl | exact .inr trivial),(by first | exact .inl rfl | exact .inr ⟨rfl,rfl⟩ | exact .inr rfl | exact .inr trivial),(by first | exact .inl rfl | exact .inr ⟨rfl,rfl⟩ | exact .inr rfl | exact .inr trivial),trivial⟩,trivial⟩,rfl⟩]) Tryz.func77
theorem sDef_2 (c0 c1 c2 c3 c4:PV) (l:List Df) (name:ByteArray) (hn:l.length<=1000000000) (hx0:findD name l=none):Pu 77 ([mdM c0 c1 c2 c3 c4 l,.str name]) (.ret (.tup [.agg [.str (ByteArray.mk #[]),.sl 1 [],pI 0,.str (ByteArray.mk #[]),pI 0,.sl 7 [],.sl 10 [],.sl 9 [],.sl 9 [],pI 0,.bool false,.sl 1 [],.sl 2 [],.sl 2 [],.sl 10 [],pI 0,.str (ByteArray.mk #[]),.sl 9 [],.sl 1 [],pI 0,.str (ByteArray.mk #[]),pI 0,.sl 4 [],.sl 4 [],.sl 4 []],.bool false])):=
 Ob.pur_wk (Wk.t (WkL.c (Wk.a (WkL.c (Wk.r _) (WkL.c (Wk.n 1) (WkL.c (Wk.r _) (WkL.c (Wk.r _) (WkL.c (Wk.r _) (WkL.c (Wk.n 7) (WkL.c (Wk.n 10) (WkL.c (Wk.n 9) (WkL.c (Wk.n 9) (WkL.c (Wk.r _) (WkL.c (Wk.r _) (WkL.c (Wk.n 1) (WkL.c (Wk.n 2) (WkL.c (Wk.n 2) (WkL.c (Wk.n 10) (WkL.c (Wk.r _) (WkL.c (Wk.r _) (WkL.c (Wk.n 9) (WkL.c (Wk.n 1) (WkL.c (Wk.r _) (WkL.c (Wk.r _) (WkL.c (Wk.r _) (WkL.c (Wk.n 4) (WkL.c (Wk.n 4) (WkL.c (Wk.n 4) (WkL.r _))))))))))))))))))))))))))) (WkL.r _))) (Ob.pur_of (mdL) 50 (fun e=>[Ans.as_ (vI6 (l.length:Int)),Ans.loop (S.mk [(1,vS name),(4,.lp 4 0),(5,.v (.bool false)),(9,vL 25 (dfsC l)),(10,vI6 (l.length:Int)),(11,vI6 0)] [(4,[jk,jk,jk,jk,jk,jk,jk,jk,jk,jk,jk,jk,jk,jk,jk,jk,jk,jk,jk,jk,jk,jk,jk,jk,jk])] e) (.exit 0) (S.mk [(4,.lp 4 0)] [(4,[jk,jk,jk,jk,jk,jk,jk,jk,jk,jk,jk,jk,jk,jk,jk,jk,jk,jk,jk,jk,jk,jk,jk,jk,jk])] e)]) (sc':=fun _=>[]) (l:=fun e=>[Ob.eqv (vI6 (↑((fun x=>List.length (Prod.snd x)) (25,dfsC l)):Int)) (vI6 (l.length:Int)),Ob.le (S.mk [(1,vS name),(4,.lp 4 0),(5,.v (.bool false)),(9,vL 25 (dfsC l)),(10,vI6 (l.length:Int)),(11,vI6 0)] [(4,[jk,jk,jk,jk,jk,jk,jk,jk,jk,jk,jk,jk,jk,jk,jk,jk,jk,jk,jk,jk,jk,jk,jk,jk,jk])] e) (S.mk [(0,.v (.agg [c0,c1,c2,c3,c4,.sl 25 (dfsC l)])),(1,vS name),(2,.lp 2 0),(4,.lp 4 0),(5,.v (.bool false)),(8,.lp 2 5),(9,vL 25 (dfsC l)),(10,vI6 (l.length:Int)),(11,vI6 0)] [(2,[.v c0,.v c1,.v c2,.v c3,.v c4,vL 25 (dfsC l)]),(4,[vS (ByteArray.mk #[]),.v .nilsl,vI6 0,vS (ByteArray.mk #[]),vI6 0,.v .nilsl,.v .nilsl,.v .nilsl,.v .nilsl,vI6 0,.v (.bool false),.v .nilsl,.v .nilsl,.v .nilsl,.v .nilsl,vI6 0,vS (ByteArray.mk #[]),.v .nilsl,.v .nilsl,vI6 0,vS (ByteArray.mk #[]),vI6 0,.v .nilsl,.v .nilsl,.v .nilsl])] e),Ob.loop (Func.ntmps Tryz.f77) (loopF Tryz.f77 0) (S.mk [(1,vS name),(4,.lp 4 0),(5,.v (.bool false)),(9,vL 25 (dfsC l)),(10,vI6 (l.length:Int)),(11,vI6 0)] [(4,[jk,jk,jk,jk,jk,jk,jk,jk,jk,jk,jk,jk,jk,jk,jk,jk,jk,jk,jk,jk,jk,jk,jk,jk,jk])] e) (.exit 0) (S.mk [(4,.lp 4 0)] [(4,[jk,jk,jk,jk,jk,jk,jk,jk,jk,jk,jk,jk,jk,jk,jk,jk,jk,jk,jk,jk,jk,jk,jk,jk,jk])] e)]) mixed Tryz.func77 (by kernel_rfl) (fun e=>by kernel_rfl) (fun e=>⟨(ob_eqv (by (simp only [dfsC_len]; done))),⟨⟨W,W,W,W,W,W,trivial⟩,⟨⟨(by first | exact .inl rfl | exact .inr ⟨rfl,rfl⟩ | exact .inr rfl | exact .inr trivial),(by first | exact .inl rfl | exact .inr ⟨rfl,rfl⟩ | exact .inr rfl | exact .inr trivial),(by first | exact .inl rfl | exact .inr ⟨rfl,rfl⟩ | exact .inr rfl | exact .inr trivial),(by first | exact .inl rfl | exact .inr ⟨rfl,rfl⟩ | exact .inr rfl | exact .inr trivial),(by first | exact .inl rfl | exact .inr ⟨rfl,rfl⟩ | exact .inr rfl | exact .inr trivial),(by first | exact .inl rfl | exact .inr ⟨rfl,rfl⟩ | exact .inr rfl | exact .inr trivial),(by first | exact .inl rfl | exact .inr ⟨rfl,rfl⟩ | exact .inr rfl | exact .inr trivial),(by first | exact .inl rfl | exact .inr ⟨rfl,rfl⟩ | exact .inr rfl | exact .inr trivial),(by first | exact .inl rfl | exact .inr ⟨rfl,rfl⟩ | exact .inr rfl | exact .inr trivial),(by first | exact .inl rfl | exact .inr ⟨rfl,rfl⟩ | exact .inr rfl | exact .inr trivial),(by first | exact .inl rfl | exact .inr ⟨rfl,rfl⟩ | exact .inr rfl | exact .inr trivial),(by first | exact .inl rfl | exact .inr ⟨rfl,rfl⟩ | exact .inr rfl | exact .inr trivial),(by first | exact .inl rfl | exact .inr ⟨rfl,rfl⟩ | exact .inr rfl | exact .inr trivial),(by first | exact .inl rfl | exact .inr ⟨rfl,rfl⟩ | exact .inr rfl | exact .inr trivial),(by first | exact .inl rfl | exact .inr ⟨rfl,rfl⟩ | exact .inr rfl | exact .inr trivial),(by first | exact .inl rfl | exact .inr ⟨rfl,rfl⟩ | exact .inr rfl | exact .inr trivial),(by first | exact .inl rfl | exact .inr ⟨rfl,rfl⟩ | exact .inr rfl | exact .inr trivial),(by first | exact .inl rfl | exact .inr ⟨rfl,rfl⟩ | exact .inr rfl | exact .inr trivial),(by first | exact .inl rfl | exact .inr ⟨rfl,rfl⟩ | exact .inr rfl | exact .inr trivial),(by first | exact .inl rfl | exact .inr ⟨rfl,rfl⟩ | exact .inr rfl | exact .inr trivial),(by first | exact .inl rfl | exact .inr ⟨rfl,rfl⟩ | exact .inr rfl | exact .inr trivial),(by first | exact .inl rfl | exact .inr ⟨rfl,rfl⟩ | exact .inr rfl | exact .inr trivial),(by first | exact .inl rfl | exact .inr ⟨rfl,rfl⟩ | exact .inr rfl | exact .inr trivial),(by first | exact .inl rfl | exact .inr ⟨rfl,rfl⟩ | exact .inr rfl | exact .inr trivial),(by first | exact .inl rfl | exact .inr ⟨rfl,rfl⟩ | exact .inr rfl | exact .inr trivial),trivial⟩,trivial⟩,rfl⟩,(@sDef_loop_none (l) (name) (e) hn hx0),trivial⟩))
abbrev rDefI (c0 c1 c2 c3 c4:PV) (l:List Df) (name:ByteArray) (i:Int) (ext:Ext):S:=⟨[(1,.v (.str name)),(2,.lp 2 0),(4,.lp 4 0),(5,.v (.bool false)),(6,.v (.int .i64 i))],[(2,[.v c0,.v c1,.v c2,.v c3,.v c4,.v (.sl 25 (dfsC l))]),(4,List.replicate 25 jk)],ext⟩
section
variable (c0 c1 c2 c3 c4:PV) (l:List Df) (name:ByteArray) (i:Nat) (ext:Ext) (hi:i<l.length) (hn:l.length<=1000000000)
include c0 c1 c2 c3 c4 l name i ext hi hn
theorem rDefB_1 (hx0:dfNm (List.getD l i default)=name) (cx:Cx) (hcx:cx.n=28) {Q:PExit->S->Prop} (hq:Q (.ret) (S.mk [(1,vS name),(2,.lp 2 0),(4,.lp 4 0),(5,.v (.bool true)),(6,vI6 (i:Int))] [(2,[.v c0,.v c1,.v c2,.v c3,.v c4,vL 25 (dfsC l)]),(4,dfV (List.getD l i default))] ext)):PW Tryz.prog cx (loopF Tryz.f48 0) (rDefI c0 c1 c2 c3 c4 l name (i:Int) ext) Q:=
 pw mdL 28 [sl (dfsC_len l),dt ((i:Int)<(l.length:Int)),am ((0:Int)<=(i:Int)/\(i:Int)<((dfsC l).length:Int)) (by (simp only [dfsC_len]; omega)),xDf l i hi,bt (ByteArray.toList (dfNm (List.getD l i default))==ByteArray.toList name) (bsT hx0),am ((0:Int)<=(i:Int)/\(i:Int)<((dfsC l).length:Int)) (by (simp only [dfsC_len]; omega)),xDf l i hi] [1,2,4,5,6] [2,4] hcx hq
theorem rDefB_2 (hx0:¬dfNm (List.getD l i default)=name) (cx:Cx) (hcx:cx.n=28) {Q:PExit->S->Prop} (hq:Q (.normal) (S.mk [(1,vS name),(2,.lp 2 0),(4,.lp 4 0),(5,.v (.bool false)),(6,vI6 ((i:Int)+1))] [(2,[.v c0,.v c1,.v c2,.v c3,.v c4,vL 25 (dfsC l)]),(4,[jk,jk,jk,jk,jk,jk,jk,jk,jk,jk,jk,jk,jk,jk,jk,jk,jk,jk,jk,jk,jk,jk,jk,jk,jk])] ext)):PW Tryz.prog cx (loopF Tryz.f48 0) (rDefI c0 c1 c2 c3 c4 l name (i:Int) ext) Q:=
 pw mdL 28 [sl (dfsC_len l),dt ((i:Int)<(l.length:Int)),am ((0:Int)<=(i:Int)/\(i:Int)<((dfsC l).length:Int)) (by (simp only [dfsC_len]; omega)),xDf l i hi,bf (ByteArray.toList (dfNm (List.getD l i default))==ByteArray.toList name) (bsF hx0),wr ((i:Int)+1)] [1,2,4,5,6] [2,4] hcx hq
end
theorem rDefE (c0 c1 c2 c3 c4:PV) (l:List Df) (name:ByteArray) (ext:Ext) (cx:Cx) (hcx:cx.n=28) {Q:PExit->S->Prop} (hq:Q (.exit 0) (S.mk [(1,vS name),(2,.lp 2 0),(4,.lp 4 0),(5,.v (.bool false)),(6,vI6 (l.length:Int))] [(2,[.v c0,.v c1,.v c2,.v c3,.v c4,vL 25 (dfsC l)]),(4,[jk,jk,jk,jk,jk,jk,jk,jk,jk,jk,jk,jk,jk,jk,jk,jk,jk,jk,jk,jk,jk,jk,jk,jk,jk])] ext)):PW Tryz.prog cx (loopF Tryz.f48 0) (rDefI c0 c1 c2 c3 c4 l name (l.length:Int) ext) Q:=
 pw mdL 28 [sl (dfsC_len l),df ((l.length:Int)<(l.length:Int))] [1,2,4,5,6] [2,4] hcx hq
theorem rDef_loop (c0 c1 c2 c3 c4:PV) (l:List Df) (name:ByteArray) (ext:Ext) (hn:l.length<=1000000000):(Ob.loop 28 (loopF Tryz.f48 0) (rDefI c0 c1 c2 c3 c4 l name 0 ext) (sDefR l name ext 0).1 (sDefR l name ext 0).2).ok Tryz.prog:=by
 refine Ob.loop_idx l.length (fun i=>rDefI c0 c1 c2 c3 c4 l name i ext) (sDefR l name ext) ?_ ?_ 0 (by simp)
 ·intro i hlt cx hcx
  by_cases h:dfNm (l.getD i default)=name
  ·have hr:sDefR l name ext i=(.ret,⟨[(4,.lp 4 0),(5,.v (.bool true))],[(4,(dfL (l.getD i default)).map .v)],ext⟩):=by simp only [sDefR,drop_at hlt,findD,h,if_true]
   refine rDefB_1 c0 c1 c2 c3 c4 l name i ext hlt hn h cx hcx (.inr ?_)
   rw [hr]
   exact ⟨by simp,rfl,⟨W,W,trivial⟩,⟨WLs.refl _,trivial⟩,rfl⟩
  ·have hr:sDefR l name ext (i+1)=sDefR l name ext i:=by simp only [sDefR,drop_at hlt,findD,h,if_false]
   exact rDefB_2 c0 c1 c2 c3 c4 l name i ext hlt hn h cx hcx (.inl ⟨rfl,⟨⟨W,W,W,W,W,trivial⟩,⟨WLs.refl _,WLs.refl _,trivial⟩,rfl⟩,hr⟩)
 ·intro cx hcx
  have hr:sDefR l name ext l.length=(.exit 0,⟨[(4,.lp 4 0)],[(4,List.replicate 25 jk)],ext⟩):=by simp only [sDefR,List.drop_length,findD]
  refine rDefE c0 c1 c2 c3 c4 l name ext cx hcx ?_
  rw [hr]
  exact ⟨by simp,rfl,⟨W,trivial⟩,⟨WLs.refl _,trivial⟩,rfl⟩
theorem rDef_loop_some (c0 c1 c2 c3 c4:PV) (l:List Df) (name:ByteArray) (ext:Ext) (hn:l.length<=1000000000) (d:Df) (h:findD name l=some d):(Ob.loop 28 (loopF Tryz.f48 0) (rDefI c0 c1 c2 c3 c4 l name 0 ext) .ret ⟨[(4,.lp 4 0),(5,.v (.bool true))],[(4,(dfL d).map .v)],ext⟩).ok Tryz.prog:=by
 have:=rDef_loop c0 c1 c2 c3 c4 l name ext hn
 simp only [sDefR,List.drop_zero,h] at this
 exact this
theorem rDef_loop_none (c0 c1 c2 c3 c4:PV) (l:List Df) (name:ByteArray) (ext:Ext) (hn:l.length<=1000000000) (h:findD name l=none):(Ob.loop 28 (loopF Tryz.f48 0) (rDefI c0 c1 c2 c3 c4 l name 0 ext) (.exit 0) ⟨[(4,.lp 4 0)],[(4,List.replicate 25 jk)],ext⟩).ok Tryz.prog:=by
 have:=rDef_loop c0 c1 c2 c3 c4 l name ext hn
 simp only [sDefR,List.drop_zero,h] at this
 exact this
theorem rDef_1 (c0 c1 c2 c3 c4:PV) (l:List Df) (name:ByteArray) (hn:l.length<=1000000000) (hy0:Df) (hx1:findD name l=some hy0):Pu 48 ([mdM c0 c1 c2 c3 c4 l,.str name]) (.ret (.tup [.agg (dfL hy0),.bool true])):=
 pu mdL (fun e=>[lp (S.mk [(0,.v (.agg [c0,c1,c2,c3,c4,.sl 25 (dfsC l)])),(1,vS name),(2,.lp 2 0),(4,.lp 4 0),(5,.v (.bool false)),(6,vI6 0)] [(2,[.v c0,.v c1,.v c2,.v c3,.v c4,vL 25 (dfsC l)]),(4,[vS (ByteArray.mk #[]),.v .nilsl,vI6 0,vS (ByteArray.mk #[]),vI6 0,.v .nilsl,.v .nilsl,.v .nilsl,.v .nilsl,vI6 0,.v (.bool false),.v .nilsl,.v .nilsl,.v .nilsl,.v .nilsl,vI6 0,vS (ByteArray.mk #[]),.v .nilsl,.v .nilsl,vI6 0,vS (ByteArray.mk #[]),vI6 0,.v .nilsl,.v .nilsl,.v .nilsl])] e) (@rDef_loop_some (c0) (c1) (c2) (c3) (c4) (l) (name) (e) hn hy0 hx1) ⟨⟨W,W,W,W,W,trivial⟩,⟨⟨W,W,W,W,W,W,trivial⟩,⟨(by first | exact .inl rfl | exact .inr ⟨rfl,rfl⟩ | exact .inr rfl | exact .inr trivial),(by first | exact .inl rfl | exact .inr ⟨rfl,rfl⟩ | exact .inr rfl | exact .inr trivial),(by first | exact .inl rfl | exact .inr ⟨rfl,rfl⟩ | exact .inr rfl | exact .inr trivial),(by first | exact .inl rfl | exact .inr ⟨rfl,rfl⟩ | exact .inr rfl | exact .inr trivial),(by first | exact .inl rfl | exact .inr ⟨rfl,rfl⟩ | exact .inr rfl | exact .inr trivial),(by first | exact .inl rfl | exact .inr ⟨rfl,rfl⟩ | exact .inr rfl | exact .inr trivial),(by first | exact .inl rfl | exact .inr ⟨rfl,rfl⟩ | exact .inr rfl | exact .inr trivial),(by first | exact .inl rfl | exact .inr ⟨rfl,rfl⟩ | exact .inr rfl | exact .inr trivial),(by first | exact .inl rfl | exact .inr ⟨rfl,rfl⟩ | exact .inr rfl | exact .inr trivial),(by first | exact .inl rfl | exact .inr ⟨rfl,rfl⟩ | exact .inr rfl | exact .inr trivial),(by first | exact .inl rfl | exact .inr ⟨rfl,rfl⟩ | exact .inr rfl | exact .inr trivial),(by first | exact .inl rfl | exact .inr ⟨rfl,rfl⟩ | exact .inr rfl | exact .inr trivial),(by first | exact .inl rfl | exact .inr ⟨rfl,rfl⟩ | exact .inr rfl | exact .inr trivial),(by first | exact .inl rfl | exact .inr ⟨rfl,rfl⟩ | exact .inr rfl | exact .inr trivial),(by first | exact .inl rfl | exact .inr ⟨rfl,rfl⟩ | exact .inr rfl | exact .inr trivial),(by first | exact .inl rfl | exact .inr ⟨rfl,rfl⟩ | exact .inr rfl | exact .inr trivial),(by first | exact .inl rfl | exact .inr ⟨rfl,rfl⟩ | exact .inr rfl | exact .inr trivial),(by first | exact .inl rfl | exact .inr ⟨rfl,rfl⟩ | exact .inr rfl | exact .inr trivial),(by first | exact .inl rfl | exact .inr ⟨rfl,rfl⟩ | exact .inr rfl | exact .inr trivial),(by first | exact .inl rfl | exact .inr ⟨rfl,rfl⟩ | exact .inr rfl | exact .inr trivial),(by first | exact .inl rfl | exact .inr ⟨rfl,rfl⟩ | exact .inr rfl | exact .inr trivial),(by first | exact .inl rfl | exact .inr ⟨rfl,rfl⟩ | exact .inr rfl | exact .inr trivial),(by first | exact .inl rfl | exact .inr ⟨rfl,rfl⟩ | exact .inr rfl | exact .inr trivial),(by first | exact .inl rfl | exact .inr ⟨rfl,rfl⟩ | exact .inr rfl | exact .inr trivial),(by first | exact .inl rfl | exact .inr ⟨rfl,rfl⟩ | exact .inr rfl | exact .inr trivial),trivial⟩,trivial⟩,rfl⟩]) Tryz.func48
theorem rDef_2 (c0 c1 c2 c3 c4:PV) (l:List Df) (name:ByteArray) (hn:l.length<=1000000000) (hx0:findD name l=none):Pu 48 ([mdM c0 c1 c2 c3 c4 l,.str name]) (.ret (.tup [.agg [.str (ByteArray.mk #[]),.sl 1 [],pI 0,.str (ByteArray.mk #[]),pI 0,.sl 7 [],.sl 10 [],.sl 9 [],.sl 9 [],pI 0,.bool false,.sl 1 [],.sl 2 [],.sl 2 [],.sl 10 [],pI 0,.str (ByteArray.mk #[]),.sl 9 [],.sl 1 [],pI 0,.str (ByteArray.mk #[]),pI 0,.sl 4 [],.sl 4 [],.sl 4 []],.bool false])):=
 Ob.pur_wk (Wk.t (WkL.c (Wk.a (WkL.c (Wk.r _) (WkL.c (Wk.n 1) (WkL.c (Wk.r _) (WkL.c (Wk.r _) (WkL.c (Wk.r _) (WkL.c (Wk.n 7) (WkL.c (Wk.n 10) (WkL.c (Wk.n 9) (WkL.c (Wk.n 9) (WkL.c (Wk.r _) (WkL.c (Wk.r _) (WkL.c (Wk.n 1) (WkL.c (Wk.n 2) (WkL.c (Wk.n 2) (WkL.c (Wk.n 10) (WkL.c (Wk.r _) (WkL.c (Wk.r _) (WkL.c (Wk.n 9) (WkL.c (Wk.n 1) (WkL.c (Wk.r _) (WkL.c (Wk.r _) (WkL.c (Wk.r _) (WkL.c (Wk.n 4) (WkL.c (Wk.n 4) (WkL.c (Wk.n 4) (WkL.r _))))))))))))))))))))))))))) (WkL.r _))) (Ob.pur_of (mdL) 50 (fun e=>[Ans.loop (S.mk [(1,vS name),(2,.lp 2 0),(4,.lp 4 0),(5,.v (.bool false)),(6,vI6 0)] [(2,[.v c0,.v c1,.v c2,.v c3,.v c4,vL 25 (dfsC l)]),(4,[jk,jk,jk,jk,jk,jk,jk,jk,jk,jk,jk,jk,jk,jk,jk,jk,jk,jk,jk,jk,jk,jk,jk,jk,jk])] e) (.exit 0) (S.mk [(4,.lp 4 0)] [(4,[jk,jk,jk,jk,jk,jk,jk,jk,jk,jk,jk,jk,jk,jk,jk,jk,jk,jk,jk,jk,jk,jk,jk,jk,jk])] e)]) (sc':=fun _=>[]) (l:=fun e=>[Ob.le (S.mk [(1,vS name),(2,.lp 2 0),(4,.lp 4 0),(5,.v (.bool false)),(6,vI6 0)] [(2,[.v c0,.v c1,.v c2,.v c3,.v c4,vL 25 (dfsC l)]),(4,[jk,jk,jk,jk,jk,jk,jk,jk,jk,jk,jk,jk,jk,jk,jk,jk,jk,jk,jk,jk,jk,jk,jk,jk,jk])] e) (S.mk [(0,.v (.agg [c0,c1,c2,c3,c4,.sl 25 (dfsC l)])),(1,vS name),(2,.lp 2 0),(4,.lp 4 0),(5,.v (.bool false)),(6,vI6 0)] [(2,[.v c0,.v c1,.v c2,.v c3,.v c4,vL 25 (dfsC l)]),(4,[vS (ByteArray.mk #[]),.v .nilsl,vI6 0,vS (ByteArray.mk #[]),vI6 0,.v .nilsl,.v .nilsl,.v .nilsl,.v .nilsl,vI6 0,.v (.bool false),.v .nilsl,.v .nilsl,.v .nilsl,.v .nilsl,vI6 0,vS (ByteArray.mk #[]),.v .nilsl,.v .nilsl,vI6 0,vS (ByteArray.mk #[]),vI6 0,.v .nilsl,.v .nilsl,.v .nilsl])] e),Ob.loop (Func.ntmps Tryz.f48) (loopF Tryz.f48 0) (S.mk [(1,vS name),(2,.lp 2 0),(4,.lp 4 0),(5,.v (.bool false)),(6,vI6 0)] [(2,[.v c0,.v c1,.v c2,.v c3,.v c4,vL 25 (dfsC l)]),(4,[jk,jk,jk,jk,jk,jk,jk,jk,jk,jk,jk,jk,jk,jk,jk,jk,jk,jk,jk,jk,jk,jk,jk,jk,jk])] e) (.exit 0) (S.mk [(4,.lp 4 0)] [(4,[jk,jk,jk,jk,jk,jk,jk,jk,jk,jk,jk,jk,jk,jk,jk,jk,jk,jk,jk,jk,jk,jk,jk,jk,jk])] e)]) mixed Tryz.func48 (by kernel_rfl) (fun e=>by kernel_rfl) (fun e=>⟨⟨⟨W,W,W,W,W,trivial⟩,⟨⟨W,W,W,W,W,W,trivial⟩,⟨(by first | exact .inl rfl | exact .inr ⟨rfl,rfl⟩ | exact .inr rfl | exact .inr trivial),(by first | exact .inl rfl | exact .inr ⟨rfl,rfl⟩ | exact .inr rfl | exact .inr trivial),(by first | exact .inl rfl | exact .inr ⟨rfl,rfl⟩ | exact .inr rfl | exact .inr trivial),(by first | exact .inl rfl | exact .inr ⟨rfl,rfl⟩ | exact .inr rfl | exact .inr trivial),(by first | exact .inl rfl | exact .inr ⟨rfl,rfl⟩ | exact .inr rfl | exact .inr trivial),(by first | exact .inl rfl | exact .inr ⟨rfl,rfl⟩ | exact .inr rfl | exact .inr trivial),(by first | exact .inl rfl | exact .inr ⟨rfl,rfl⟩ | exact .inr rfl | exact .inr trivial),(by first | exact .inl rfl | exact .inr ⟨rfl,rfl⟩ | exact .inr rfl | exact .inr trivial),(by first | exact .inl rfl | exact .inr ⟨rfl,rfl⟩ | exact .inr rfl | exact .inr trivial),(by first | exact .inl rfl | exact .inr ⟨rfl,rfl⟩ | exact .inr rfl | exact .inr trivial),(by first | exact .inl rfl | exact .inr ⟨rfl,rfl⟩ | exact .inr rfl | exact .inr trivial),(by first | exact .inl rfl | exact .inr ⟨rfl,rfl⟩ | exact .inr rfl | exact .inr trivial),(by first | exact .inl rfl | exact .inr ⟨rfl,rfl⟩ | exact .inr rfl | exact .inr trivial),(by first | exact .inl rfl | exact .inr ⟨rfl,rfl⟩ | exact .inr rfl | exact .inr trivial),(by first | exact .inl rfl | exact .inr ⟨rfl,rfl⟩ | exact .inr rfl | exact .inr trivial),(by first | exact .inl rfl | exact .inr ⟨rfl,rfl⟩ | exact .inr rfl | exact .inr trivial),(by first | exact .inl rfl | exact .inr ⟨rfl,rfl⟩ | exact .inr rfl | exact .inr trivial),(by first | exact .inl rfl | exact .inr ⟨rfl,rfl⟩ | exact .inr rfl | exact .inr trivial),(by first | exact .inl rfl | exact .inr ⟨rfl,rfl⟩ | exact .inr rfl | exact .inr trivial),(by first | exact .inl rfl | exact .inr ⟨rfl,rfl⟩ | exact .inr rfl | exact .inr trivial),(by first | exact .inl rfl | exact .inr ⟨rfl,rfl⟩ | exact .inr rfl | exact .inr trivial),(by first | exact .inl rfl | exact .inr ⟨rfl,rfl⟩ | exact .inr rfl | exact .inr trivial),(by first | exact .inl rfl | exact .inr ⟨rfl,rfl⟩ | exact .inr rfl | exact .inr trivial),(by first | exact .inl rfl | exact .inr ⟨rfl,rfl⟩ | exact .inr rfl | exact .inr trivial),(by first | exact .inl rfl | exact .inr ⟨rfl,rfl⟩ | exact .inr rfl | exact .inr trivial),trivial⟩,trivial⟩,rfl⟩,(@rDef_loop_none (c0) (c1) (c2) (c3) (c4) (l) (name) (e) hn hx0),trivial⟩))
def scP:List Bd->PV
 | [] => .nilp
 | x::r => .ro (.str (bdNm x)::(vlL (bdV x)++[scP r])) 0
def findB (name:ByteArray):List Bd->Option Vl
 | []=>none
 | x::r=>if bdNm x=name then some (bdV x) else findB name r
abbrev findI (p:PV) (name:ByteArray) (ext:Ext):S:=⟨[(0,.v p),(1,.v (.str name)),(4,.lp 4 0),(5,.v (.bool false))],[(4,List.replicate 7 jk)],ext⟩
theorem findE (name:ByteArray) (ext:Ext) (cx:Cx) (hcx:cx.n=23) {Q:PExit->S->Prop} (hq:Q (.exit 0) (S.mk [(0,.v .nilp),(1,vS name),(4,.lp 4 0),(5,.v (.bool false))] [(4,[jk,jk,jk,jk,jk,jk,jk])] ext)):PW Tryz.prog cx (loopF Tryz.f113 0) (findI .nilp name ext) Q:=
 pw mdL 23 [bf false] [0,1,4,5] [4] hcx hq
section
variable (x:Bd) (r:List Bd) (name:ByteArray) (ext:Ext)
include x r name ext
theorem findN_1 (hx0:bdNm x=name) (cx:Cx) (hcx:cx.n=23) {Q:PExit->S->Prop} (hq:Q (.ret) (S.mk [(0,.v (.ro [.str (bdNm x),pI (vlO (bdV x)),pI (vlN (bdV x)),.str (vlNm (bdV x)),.sl 7 (Vl.cs (vlK (bdV x))),.sl 1 (nmsC (vlP (bdV x))),.sl 7 (Ex.cs (vlB (bdV x))),.sl 8 (Bd.cs (vlBd (bdV x))),scP r] 0)),(1,vS name),(4,.lp 4 0),(5,.v (.bool true))] [(4,vlV (bdV x))] ext)):PW Tryz.prog cx (loopF Tryz.f113 0) (findI (scP (x::r)) name ext) Q:=
 pw mdL 23 [bt true,bt (ByteArray.toList (bdNm x)==ByteArray.toList name) (bsT hx0)] [0,1,4,5] [4] hcx hq
theorem findN_2 (hx0:¬bdNm x=name) (cx:Cx) (hcx:cx.n=23) {Q:PExit->S->Prop} (hq:Q (.normal) (S.mk [(0,.v (scP r)),(1,vS name),(4,.lp 4 0),(5,.v (.bool false))] [(4,[jk,jk,jk,jk,jk,jk,jk])] ext)):PW Tryz.prog cx (loopF Tryz.f113 0) (findI (scP (x::r)) name ext) Q:=
 pw mdL 23 [bt true,bf (ByteArray.toList (bdNm x)==ByteArray.toList name) (bsF hx0)] [0,1,4,5] [4] hcx hq
end
def findR (name:ByteArray) (ext:Ext) (l:List Bd):PExit × S:=match findB name l with
 | some v=>(.ret,⟨[(4,.lp 4 0),(5,.v (.bool true))],[(4,(vlL v).map .v)],ext⟩)
 | none=>(.exit 0,⟨[(4,.lp 4 0)],[(4,List.replicate 7 jk)],ext⟩)
theorem find_loop (name:ByteArray) (ext:Ext) (l:List Bd):(Ob.loop 23 (loopF Tryz.f113 0) (findI (scP l) name ext) (findR name ext l).1 (findR name ext l).2).ok Tryz.prog:=by
 refine Ob.loop_of (α:=List Bd) (fun l=>findI (scP l) name ext) List.length (findR name ext) ?_ l
 intro l cx hcx
 cases l with
 | nil=>exact findE name ext cx hcx (.inr ⟨by simp,rfl,⟨W,trivial⟩,⟨WLs.refl _,trivial⟩,rfl⟩)
 | cons x r=>
  by_cases h:bdNm x=name
  ·have hr:findR name ext (x::r)=(.ret,⟨[(4,.lp 4 0),(5,.v (.bool true))],[(4,(vlL (bdV x)).map .v)],ext⟩):=by simp only [findR,findB,h,if_true]
   refine findN_1 x r name ext h cx hcx (.inr ?_)
   rw [hr]
   exact ⟨by simp,rfl,⟨W,W,trivial⟩,⟨WLs.refl _,trivial⟩,rfl⟩
  ·exact findN_2 x r name ext h cx hcx (.inl ⟨rfl,r,by simp,⟨⟨W,W,W,W,trivial⟩,⟨WLs.refl _,trivial⟩,rfl⟩,by simp only [findR,findB,h,if_false]⟩)
theorem find_loop_some (name:ByteArray) (ext:Ext) (l:List Bd) (v:Vl) (h:findB name l=some v):(Ob.loop 23 (loopF Tryz.f113 0) (findI (scP l) name ext) .ret ⟨[(4,.lp 4 0),(5,.v (.bool true))],[(4,(vlL v).map .v)],ext⟩).ok Tryz.prog:=by
 have:=find_loop name ext l
 simp only [findR,h] at this
 exact this
theorem find_loop_none (name:ByteArray) (ext:Ext) (l:List Bd) (h:findB name l=none):(Ob.loop 23 (loopF Tryz.f113 0) (findI (scP l) name ext) (.exit 0) ⟨[(4,.lp 4 0)],[(4,List.replicate 7 jk)],ext⟩).ok Tryz.prog:=by
 have:=find_loop name ext l
 simp only [findR,h] at this
 exact this
theorem eFind_1 (l:List Bd) (name:ByteArray) (hy0:Vl) (hx1:findB name l=some hy0):Pu 113 ([scP l,.str name]) (.ret (.tup [.agg (vlL hy0),.bool true])):=
 pu mdL (fun e=>[lp (S.mk [(0,.v (scP l)),(1,vS name),(4,.lp 4 0),(5,.v (.bool false))] [(4,[vI6 0,vI6 0,vS (ByteArray.mk #[]),.v .nilsl,.v .nilsl,.v .nilsl,.v .nilsl])] e) (@find_loop_some (name) (e) (l) hy0 hx1) ⟨⟨W,W,W,W,trivial⟩,⟨⟨(by first | exact .inl rfl | exact .inr ⟨rfl,rfl⟩ | exact .inr rfl | exact .inr trivial),(by first | exact .inl rfl | exact .inr ⟨rfl,rfl⟩ | exact .inr rfl | exact .inr trivial),(by first | exact .inl rfl | exact .inr ⟨rfl,rfl⟩ | exact .inr rfl | exact .inr trivial),(by first | exact .inl rfl | exact .inr ⟨rfl,rfl⟩ | exact .inr rfl | exact .inr trivial),(by first | exact .inl rfl | exact .inr ⟨rfl,rfl⟩ | exact .inr rfl | exact .inr trivial),(by first | exact .inl rfl | exact .inr ⟨rfl,rfl⟩ | exact .inr rfl | exact .inr trivial),(by first | exact .inl rfl | exact .inr ⟨rfl,rfl⟩ | exact .inr rfl | exact .inr trivial),trivial⟩,trivial⟩,rfl⟩]) Tryz.func113
theorem eFind_2 (l:List Bd) (name:ByteArray) (hx0:findB name l=none):Pu 113 ([scP l,.str name]) (.ret (.tup [.agg [pI 0,pI 0,.str (ByteArray.mk #[]),.sl 7 [],.sl 1 [],.sl 7 [],.sl 8 []],.bool false])):=
 Ob.pur_wk (Wk.t (WkL.c (Wk.a (WkL.c (Wk.r _) (WkL.c (Wk.r _) (WkL.c (Wk.r _) (WkL.c (Wk.n 7) (WkL.c (Wk.n 1) (WkL.c (Wk.n 7) (WkL.c (Wk.n 8) (WkL.r _))))))))) (WkL.r _))) (Ob.pur_of (mdL) 50 (fun e=>[Ans.loop (S.mk [(0,.v (scP l)),(1,vS name),(4,.lp 4 0),(5,.v (.bool false))] [(4,[jk,jk,jk,jk,jk,jk,jk])] e) (.exit 0) (S.mk [(4,.lp 4 0)] [(4,[jk,jk,jk,jk,jk,jk,jk])] e)]) (sc':=fun _=>[]) (l:=fun e=>[Ob.le (S.mk [(0,.v (scP l)),(1,vS name),(4,.lp 4 0),(5,.v (.bool false))] [(4,[jk,jk,jk,jk,jk,jk,jk])] e) (S.mk [(0,.v (scP l)),(1,vS name),(4,.lp 4 0),(5,.v (.bool false))] [(4,[vI6 0,vI6 0,vS (ByteArray.mk #[]),.v .nilsl,.v .nilsl,.v .nilsl,.v .nilsl])] e),Ob.loop (Func.ntmps Tryz.f113) (loopF Tryz.f113 0) (S.mk [(0,.v (scP l)),(1,vS name),(4,.lp 4 0),(5,.v (.bool false))] [(4,[jk,jk,jk,jk,jk,jk,jk])] e) (.exit 0) (S.mk [(4,.lp 4 0)] [(4,[jk,jk,jk,jk,jk,jk,jk])] e)]) mixed Tryz.func113 (by kernel_rfl) (fun e=>by kernel_rfl) (fun e=>⟨⟨⟨W,W,W,W,trivial⟩,⟨⟨(by first | exact .inl rfl | exact .inr ⟨rfl,rfl⟩ | exact .inr rfl | exact .inr trivial),(by first | exact .inl rfl | exact .inr ⟨rfl,rfl⟩ | exact .inr rfl | exact .inr trivial),(by first | exact .inl rfl | exact .inr ⟨rfl,rfl⟩ | exact .inr rfl | exact .inr trivial),(by first | exact .inl rfl | exact .inr ⟨rfl,rfl⟩ | exact .inr rfl | exact .inr trivial),(by first | exact .inl rfl | exact .inr ⟨rfl,rfl⟩ | exact .inr rfl | exact .inr trivial),(by first | exact .inl rfl | exact .inr ⟨rfl,rfl⟩ | exact .inr rfl | exact .inr trivial),(by first | exact .inl rfl | exact .inr ⟨rfl,rfl⟩ | exact .inr rfl | exact .inr trivial),trivial⟩,trivial⟩,rfl⟩,(@find_loop_none (name) (e) (l) hx0),trivial⟩))
end Go.Proofs.YtgonmmckkikmaaaGreat
namespace Go.Proofs.YtgonmmckkikmaaaGreat
open Go.Pv
set_option maxRecDepth 100000
def mdE:Md:=⟨fun t=>if t=106∨t=103 then some true else some false,fun _=>false⟩
abbrev zO:List LV:=[.v (.int .i64 0),.v (.int .i64 0),.v (.str nm0),.v .nilsl,.v .nilsl,.v .nilsl,.v .nilsl,.v (.int .i64 0),.v (.str nm0),.v (.int .i64 0)]
abbrev fnE:PV := .fn (.func 108) [] [.ro [.xp 1 0] 0,.xp 3 0]
abbrev fnL:PV := .fn (.func 107) [] [.ro [.xp 1 0] 0]
abbrev mch (c0 c1 c2 c3 c4:PV) (l:List Df) (fu st:Int) (wh:ByteArray):List LV:=[.v c0,.v c1,.v c2,.v c3,.v c4,.v (.sl 25 (dfsC l)),.v (.int .i64 fu),.v (.int .i64 st),.v (.str wh),.v fnE]
abbrev EE (c0 c1 c2 c3 c4:PV) (l:List Df) (fu st:Int) (wh:ByteArray):Ext:=[(0,zO),(1,mch c0 c1 c2 c3 c4 l fu st wh),(2,[.v (.xp 1 0)]),(3,[.v fnL])]
abbrev stopP (k:Int):PV := .iface 146 (.agg [.int .i64 k])
section
variable (c0 c1 c2 c3 c4:PV) (l:List Df) (fu st:Int)
include c0 c1 c2 c3 c4 l fu st
theorem eStep_1 (wh:ByteArray) (h0:0<=st) (h1:fu<=1000000) (hx0:st>=fu):Ef 120 ([.xp 1 0]) (EE c0 c1 c2 c3 c4 l fu st wh) (.panic (stopP 24)) (EE c0 c1 c2 c3 c4 l fu st wh):=
 ef mdE [dt (st>=fu) hx0,cl (@eFail (24))] Tryz.func120
theorem eStep_2 (wh:ByteArray) (h0:0<=st) (h1:fu<=1000000) (hx0:¬st>=fu):Ef 120 ([.xp 1 0]) (EE c0 c1 c2 c3 c4 l fu st wh) (.ret (.tup [])) (EE c0 c1 c2 c3 c4 l fu (st+1) wh):=
 ef mdE [df (st>=fu) hx0,wr (st+1)] Tryz.func120
theorem eDefn_1 (wh name:ByteArray) (hn:l.length<=1000000000) (hy0:Df) (hx1:findD name l=some hy0):Ef 45 ([.xp 1 0,.str name]) (EE c0 c1 c2 c3 c4 l fu st wh) (rA (dfL hy0)) (EE c0 c1 c2 c3 c4 l fu st wh):=
 ef mdE [cl (@sDef_1 (c0) (c1) (c2) (c3) (c4) (l) (name) hn hy0 hx1),cl (@eNeed_2 (true) (by rfl))] Tryz.func45
theorem eDefn_2 (wh name:ByteArray) (hn:l.length<=1000000000) (hx0:findD name l=none):Ef 45 ([.xp 1 0,.str name]) (EE c0 c1 c2 c3 c4 l fu st wh) (.panic (stopP 19)) (EE c0 c1 c2 c3 c4 l fu st wh):=
 ef mdE [cl (@sDef_2 (c0) (c1) (c2) (c3) (c4) (l) (name) hn hx0),cl (@eNeed_1 (false) (by rfl))] Tryz.func45
end
abbrev evOk (c0 c1 c2 c3 c4:PV) (l:List Df) (fu:Int) (s:List Bd) (x:Ex) (st:Int) (wh:ByteArray) (v:Vl) (st':Int):Prop:=Ef 108 [.agg (exL x),scP s,.ro [.xp 1 0] 0,.xp 3 0] (EE c0 c1 c2 c3 c4 l fu st wh) (.ret (.agg (vlL v))) (EE c0 c1 c2 c3 c4 l fu st' wh)
abbrev evEr (c0 c1 c2 c3 c4:PV) (l:List Df) (fu:Int) (s:List Bd) (x:Ex) (st:Int) (wh:ByteArray) (k st':Int) (wh':ByteArray):Prop:=Ef 108 [.agg (exL x),scP s,.ro [.xp 1 0] 0,.xp 3 0] (EE c0 c1 c2 c3 c4 l fu st wh) (.panic (stopP k)) (EE c0 c1 c2 c3 c4 l fu st' wh')
section
variable (c0 c1 c2 c3 c4:PV) (l:List Df) (fu st:Int) (wh:ByteArray) (h0:0<=st) (h1:fu<=1000000) (d:Df) (s:List Bd)
include c0 c1 c2 c3 c4 l fu st wh h0 h1 d s
theorem eRunF (hs:st>=fu):Ef 79 ([.xp 1 0,.agg (dfL d),scP s]) (EE c0 c1 c2 c3 c4 l fu st wh) (.panic (stopP 24)) (EE c0 c1 c2 c3 c4 l fu st wh):=
 ef mdE [ce (@eStep_1 (c0) (c1) (c2) (c3) (c4) (l) (fu) (st) (wh) h0 h1 hs)] Tryz.func79
theorem eRunT (hs:¬st>=fu) (v:Vl) (st':Int) (hv:evOk c0 c1 c2 c3 c4 l fu s (dfB d) (st+1) (dfNm d) v st'):Ef 79 ([.xp 1 0,.agg (dfL d),scP s]) (EE c0 c1 c2 c3 c4 l fu st wh) (rA (vlL v)) (EE c0 c1 c2 c3 c4 l fu st' wh):=
 ef mdE [ce (@eStep_2 (c0) (c1) (c2) (c3) (c4) (l) (fu) (st) (wh) h0 h1 hs),ce hv] Tryz.func79
theorem eRunE (hs:¬st>=fu) (k st':Int) (wh':ByteArray) (hv:evEr c0 c1 c2 c3 c4 l fu s (dfB d) (st+1) (dfNm d) k st' wh'):Ef 79 ([.xp 1 0,.agg (dfL d),scP s]) (EE c0 c1 c2 c3 c4 l fu st wh) (.panic (stopP k)) (EE c0 c1 c2 c3 c4 l fu st' wh'):=
 ef mdE [ce (@eStep_2 (c0) (c1) (c2) (c3) (c4) (l) (fu) (st) (wh) h0 h1 hs),ce hv] Tryz.func79
end
end Go.Proofs.YtgonmmckkikmaaaGreat
