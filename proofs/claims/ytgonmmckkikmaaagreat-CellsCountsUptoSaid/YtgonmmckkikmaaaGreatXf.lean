/- Values of Go as plain data, an evaluator over them, and what the functions of the program return; part f. -/
import Derived.Test.YtgonmmckkikmaaaGreatXe
import Derived.Test.YtgonmmckkikmaaaGreatProg
import Derived.KernelRfl
set_option linter.unusedSectionVars false
set_option linter.unusedSimpArgs false
set_option linter.unusedVariables false
namespace Go.Proofs.YtgonmmckkikmaaaGreat
open Go.Pv
set_option maxRecDepth 100000
theorem mixed:Tryz.prog.follows .mixedOrders=true:=by kernel_rfl
theorem pu{f:FuncId}{fn:Func}{args:List PV}(md:Md)(L:Ext->List (Stp Tryz.prog)){r:CRes}(hf:Tryz.prog.funcs[f]?=some fn)(hok:(isFn Tryz.prog f&&fnOK fn)=true:=by kernel_rfl)(h:∀e,evFX Tryz.prog md 50 fn args e (asS (L e)) = .ok (r,e) [] (osS (L e)):=by intro e; kernel_rfl):(Ob.pur f args r).ok Tryz.prog:=Ob.pur_of md 50 (fun e=>asS (L e)) mixed hf hok h fun e=>okS (L e)
theorem ef{f:FuncId}{fn:Func}{args:List PV}{e e':Ext}(md:Md)(L:List (Stp Tryz.prog)){r:CRes}(hf:Tryz.prog.funcs[f]?=some fn)(hok:(isFn Tryz.prog f&&fnOK fn)=true:=by kernel_rfl)(h:evFX Tryz.prog md 50 fn args e (asS L) = .ok (r,e') [] (osS L):=by kernel_rfl):(Ob.eff f args e r e').ok Tryz.prog:=Ob.eff_of md 50 (asS L) mixed hf hok h (okS L)
theorem pw{cx:Cx}{c:Code}{s s':S}{pe:PExit}{Q:PExit->S->Prop}(md:Md)(n:Nat)(L:List (Stp Tryz.prog))(ks bs:List Nat)(hn:cx.n=n)(hq:Q pe s')(hc:codeOK n c=true:=by kernel_rfl)(h:(evCX Tryz.prog md n 50 c s (asS L)).keep ks bs = .ok (pe,s') [] (osS L):=by kernel_rfl):PW Tryz.prog cx c s Q:=PW_runK md n 50 (asS L) ks bs mixed hn hc h (okS L) hq
abbrev Pu(f:FuncId)(a:List PV)(r:CRes):Prop:=(Ob.pur f a r).ok Tryz.prog
abbrev Ef(f:FuncId)(a:List PV)(e:Ext)(r:CRes)(e':Ext):Prop:=(Ob.eff f a e r e').ok Tryz.prog
theorem Wq{a b:LV}(h:WL a b:=by first | exact .inl rfl | exact .inr ⟨rfl,rfl⟩ | exact .inr rfl | exact .inr trivial):WL a b:=h
def mdL:Md:=⟨fun _=>some false,fun _=>false⟩
theorem nIn_1(n:Int)(hx0:n >= -1000000000000):Pu 136 ([pI n]) (rB (decide (n<=1000000000000))):=
 pu mdL (fun e=>[rp 3 (dt1 hx0)]) Tryz.func136
theorem nIn_2(n:Int)(hx0:¬n >= -1000000000000):Pu 136 ([pI n]) (rB false):=
 pu mdL (fun e=>[rp 3 (df1 hx0)]) Tryz.func136
def nIn_r0(n:Int):Bool:=(if n >= -1000000000000 then (decide (n<=1000000000000)) else (false))
theorem nIn(n:Int):Pu 136 ([pI n]) (rB (nIn_r0 n)):=by
 by_cases h0:n >= -1000000000000
 ·simp only [nIn_r0,if_pos h0]; exact nIn_1 n h0
 ·simp only [nIn_r0,if_neg h0]; exact nIn_2 n h0
theorem rIn_1(n:Int)(hx0:n >= -1000000000000):Pu 64 ([pI n]) (rB (decide (n<=1000000000000))):=
 pu mdL (fun e=>[rp 3 (dt1 hx0)]) Tryz.func64
theorem rIn_2(n:Int)(hx0:¬n >= -1000000000000):Pu 64 ([pI n]) (rB false):=
 pu mdL (fun e=>[rp 3 (df1 hx0)]) Tryz.func64
def rIn_r0(n:Int):Bool:=(if n >= -1000000000000 then (decide (n<=1000000000000)) else (false))
theorem rIn(n:Int):Pu 64 ([pI n]) (rB (rIn_r0 n)):=by
 by_cases h0:n >= -1000000000000
 ·simp only [rIn_r0,if_pos h0]; exact rIn_1 n h0
 ·simp only [rIn_r0,if_neg h0]; exact rIn_2 n h0
theorem nChecked_1(n:Int)(ok:Bool)(hx0:ok=false):Pu 157 ([pI n,.bool ok]) (.ret (.tup [pI 0,.bool false])):=
 pu mdL (fun e=>[rp 4 (bt1 (bnT hx0)),bt true]) Tryz.func157
theorem nChecked_2(n:Int)(ok:Bool)(hx0:ok=true)(hx1:nIn_r0 n=false):Pu 157 ([pI n,.bool ok]) (.ret (.tup [pI 0,.bool false])):=
 pu mdL (fun e=>[rp 2 (bf1 (bnF hx0)),cl (@nIn (n)),rp 2 (bf1 (bnF hx0)),bt1 (bnT hx1)]) Tryz.func157
theorem nChecked_3(n:Int)(ok:Bool)(hx0:ok=true)(hx1:nIn_r0 n=true):Pu 157 ([pI n,.bool ok]) (.ret (.tup [pI n,.bool true])):=
 pu mdL (fun e=>[rp 2 (bf1 (bnF hx0)),cl (@nIn (n)),rp 2 (bf1 (bnF hx0)),bf1 (bnF hx1)]) Tryz.func157
def nChecked_r0(n:Int)(ok:Bool):Int:=(if ok=false then (0) else (if nIn_r0 n=false then (0) else (n)))
def nChecked_r1(n:Int)(ok:Bool):Bool:=(if ok=false then (false) else (if nIn_r0 n=false then (false) else (true)))
theorem nChecked(n:Int)(ok:Bool):Pu 157 ([pI n,.bool ok]) (.ret (.tup [pI (nChecked_r0 n ok),.bool (nChecked_r1 n ok)])):=by
 by_cases h0:ok=false
 ·simp only [nChecked_r0,nChecked_r1,if_pos h0]; exact nChecked_1 n ok h0
 ·by_cases h1:nIn_r0 n=false
  ·simp only [nChecked_r0,nChecked_r1,if_neg h0,if_pos h1]; exact nChecked_2 n ok (bTF h0) h1
  ·simp only [nChecked_r0,nChecked_r1,if_neg h0,if_neg h1]; exact nChecked_3 n ok (bTF h0) (bTF h1)
theorem nAdd_1(a b:Int)(hx0:nIn_r0 a=false):Pu 140 ([pI a,pI b]) (.ret (.tup [pI 0,.bool false])):=
 pu mdL (fun e=>[cl (@nIn (a)),rp 4 (bt1 (bnT hx0)),bt true]) Tryz.func140
theorem nAdd_2(a b:Int)(hx0:nIn_r0 a=true)(hx1:nIn_r0 b=false):Pu 140 ([pI a,pI b]) (.ret (.tup [pI 0,.bool false])):=
 pu mdL (fun e=>[cl (@nIn (a)),rp 2 (bf1 (bnF hx0)),cl (@nIn (b)),rp 2 (bf1 (bnF hx0)),bt1 (bnT hx1)]) Tryz.func140
theorem nAdd_3(a b:Int)(hx0:nIn_r0 a=true)(hx1:nIn_r0 b=true):Pu 140 ([pI a,pI b]) (.ret (.tup [pI (nChecked_r0 (IntKind.wrap .i64 (a+b)) true),.bool (nChecked_r1 (IntKind.wrap .i64 (a+b)) true)])):=
 pu mdL (fun e=>[cl (@nIn (a)),rp 2 (bf1 (bnF hx0)),cl (@nIn (b)),rp 2 (bf1 (bnF hx0)),bf1 (bnF hx1),kp,cl (@nChecked (IntKind.wrap .i64 (a+b)) (true))]) Tryz.func140
def nAdd_r0(a:Int)(b:Int):Int:=(if nIn_r0 a=false then (0) else (if nIn_r0 b=false then (0) else (nChecked_r0 (IntKind.wrap .i64 (a+b)) true)))
def nAdd_r1(a:Int)(b:Int):Bool:=(if nIn_r0 a=false then (false) else (if nIn_r0 b=false then (false) else (nChecked_r1 (IntKind.wrap .i64 (a+b)) true)))
theorem nAdd(a b:Int):Pu 140 ([pI a,pI b]) (.ret (.tup [pI (nAdd_r0 a b),.bool (nAdd_r1 a b)])):=by
 by_cases h0:nIn_r0 a=false
 ·simp only [nAdd_r0,nAdd_r1,if_pos h0]; exact nAdd_1 a b h0
 ·by_cases h1:nIn_r0 b=false
  ·simp only [nAdd_r0,nAdd_r1,if_neg h0,if_pos h1]; exact nAdd_2 a b (bTF h0) h1
  ·simp only [nAdd_r0,nAdd_r1,if_neg h0,if_neg h1]; exact nAdd_3 a b (bTF h0) (bTF h1)
theorem nSub_1(a b:Int)(hx0:nIn_r0 a=false):Pu 138 ([pI a,pI b]) (.ret (.tup [pI 0,.bool false])):=
 pu mdL (fun e=>[cl (@nIn (a)),rp 4 (bt1 (bnT hx0)),bt true]) Tryz.func138
theorem nSub_2(a b:Int)(hx0:nIn_r0 a=true)(hx1:nIn_r0 b=false):Pu 138 ([pI a,pI b]) (.ret (.tup [pI 0,.bool false])):=
 pu mdL (fun e=>[cl (@nIn (a)),rp 2 (bf1 (bnF hx0)),cl (@nIn (b)),rp 2 (bf1 (bnF hx0)),bt1 (bnT hx1)]) Tryz.func138
theorem nSub_3(a b:Int)(hx0:nIn_r0 a=true)(hx1:nIn_r0 b=true):Pu 138 ([pI a,pI b]) (.ret (.tup [pI (nChecked_r0 (IntKind.wrap .i64 (a - b)) true),.bool (nChecked_r1 (IntKind.wrap .i64 (a - b)) true)])):=
 pu mdL (fun e=>[cl (@nIn (a)),rp 2 (bf1 (bnF hx0)),cl (@nIn (b)),rp 2 (bf1 (bnF hx0)),bf1 (bnF hx1),kp,cl (@nChecked (IntKind.wrap .i64 (a - b)) (true))]) Tryz.func138
def nSub_r0(a:Int)(b:Int):Int:=(if nIn_r0 a=false then (0) else (if nIn_r0 b=false then (0) else (nChecked_r0 (IntKind.wrap .i64 (a - b)) true)))
def nSub_r1(a:Int)(b:Int):Bool:=(if nIn_r0 a=false then (false) else (if nIn_r0 b=false then (false) else (nChecked_r1 (IntKind.wrap .i64 (a - b)) true)))
theorem nSub(a b:Int):Pu 138 ([pI a,pI b]) (.ret (.tup [pI (nSub_r0 a b),.bool (nSub_r1 a b)])):=by
 by_cases h0:nIn_r0 a=false
 ·simp only [nSub_r0,nSub_r1,if_pos h0]; exact nSub_1 a b h0
 ·by_cases h1:nIn_r0 b=false
  ·simp only [nSub_r0,nSub_r1,if_neg h0,if_pos h1]; exact nSub_2 a b (bTF h0) h1
  ·simp only [nSub_r0,nSub_r1,if_neg h0,if_neg h1]; exact nSub_3 a b (bTF h0) (bTF h1)
theorem nAbs_1(a:Int)(hx0:a>=0):Pu 158 ([pI a]) (rI a):=
 pu mdL (fun e=>[dt1 hx0]) Tryz.func158
theorem nAbs_2(a:Int)(hx0:¬a>=0)(hx1:IntKind.wrap .i64 (0 - a)<0):Pu 158 ([pI a]) (rI 1000000000000):=
 pu mdL (fun e=>[df1 hx0,kp,dt1 hx1]) Tryz.func158
theorem nAbs_3(a:Int)(hx0:¬a>=0)(hx1:¬IntKind.wrap .i64 (0 - a)<0):Pu 158 ([pI a]) (rI (IntKind.wrap .i64 (0 - a))):=
 pu mdL (fun e=>[df1 hx0,kp,df1 hx1,kp]) Tryz.func158
def nAbs_r0(a:Int):Int:=(if a>=0 then (a) else (if IntKind.wrap .i64 (0 - a)<0 then (1000000000000) else (IntKind.wrap .i64 (0 - a))))
theorem nAbs(a:Int):Pu 158 ([pI a]) (rI (nAbs_r0 a)):=by
 by_cases h0:a>=0
 ·simp only [nAbs_r0,if_pos h0]; exact nAbs_1 a h0
 ·by_cases h1:IntKind.wrap .i64 (0 - a)<0
  ·simp only [nAbs_r0,if_neg h0,if_pos h1]; exact nAbs_2 a h0 h1
  ·simp only [nAbs_r0,if_neg h0,if_neg h1]; exact nAbs_3 a h0 h1
theorem nAbs_ne{a:Int}(h:nIn_r0 a=true)(h0:¬a=0):nAbs_r0 a≠0:=by
 unfold nAbs_r0
 unfold nIn_r0 at h
 split at h
 ·have h:=of_decide_eq_true h
  split
  ·omega
  ·have e:IntKind.i64.wrap (0 - a) = -a:=by rw [wrap64_eq (by omega) (by omega)]; omega
   rw [e]
   split <;> omega
 ·cases h
theorem wrap_neg{a:Int}(h:rIn_r0 a=true):IntKind.i64.wrap (0 - a)=0 - a:=by
 unfold rIn_r0 at h
 split at h
 ·have h:=of_decide_eq_true h
  rw [wrap64_eq (by omega) (by omega)]
 ·cases h
theorem wrap_neg_ne{a:Int}(h:rIn_r0 a=true)(h0:¬a=0):IntKind.i64.wrap (0 - a)≠0:=by
 rw [wrap_neg h]
 omega
section
variable (a b:Int)
include a b
theorem nMul_1(hx0:nIn_r0 a=false):Pu 141 ([pI a,pI b]) (.ret (.tup [pI 0,.bool false])):=
 pu mdL (fun e=>[cl (@nIn (a)),rp 4 (bt1 (bnT hx0)),bt true]) Tryz.func141
theorem nMul_2(hx0:nIn_r0 a=true)(hx1:nIn_r0 b=false):Pu 141 ([pI a,pI b]) (.ret (.tup [pI 0,.bool false])):=
 pu mdL (fun e=>[cl (@nIn (a)),rp 2 (bf1 (bnF hx0)),cl (@nIn (b)),rp 2 (bf1 (bnF hx0)),bt1 (bnT hx1)]) Tryz.func141
theorem nMul_3(hx0:nIn_r0 a=true)(hx1:nIn_r0 b=true)(hx2:a=0):Pu 141 ([pI a,pI b]) (.ret (.tup [pI 0,.bool true])):=
 pu mdL (fun e=>[cl (@nIn (a)),rp 2 (bf1 (bnF hx0)),cl (@nIn (b)),rp 2 (bf1 (bnF hx0)),bf1 (bnF hx1),rp 3 (et1 hx2),bt true]) Tryz.func141
theorem nMul_4(hx0:nIn_r0 a=true)(hx1:nIn_r0 b=true)(hx2:¬a=0)(hx3:b=0):Pu 141 ([pI a,pI b]) (.ret (.tup [pI 0,.bool true])):=
 pu mdL (fun e=>[cl (@nIn (a)),rp 2 (bf1 (bnF hx0)),cl (@nIn (b)),rp 2 (bf1 (bnF hx0)),bf1 (bnF hx1),rp 3 (en1 hx2),et1 hx3]) Tryz.func141
theorem nMul_5(hx0:nIn_r0 a=true)(hx1:nIn_r0 b=true)(hx2:¬a=0)(hx3:¬b=0)(hx4:nAbs_r0 b>IntKind.wrap .i64 (Int.tdiv 1000000000000 (nAbs_r0 a))):Pu 141 ([pI a,pI b]) (.ret (.tup [pI 0,.bool false])):=
 pu mdL (fun e=>[cl (@nIn (a)),rp 2 (bf1 (bnF hx0)),cl (@nIn (b)),rp 2 (bf1 (bnF hx0)),bf1 (bnF hx1),rp 3 (en1 hx2),en1 hx3,cl (@nAbs (b)),cl (@nAbs (a)),kp,am (nAbs_r0 a≠0) (by (apply nAbs_ne <;> first | assumption | omega | decide)),dt1 hx4]) Tryz.func141
theorem nMul_6(hx0:nIn_r0 a=true)(hx1:nIn_r0 b=true)(hx2:¬a=0)(hx3:¬b=0)(hx4:¬nAbs_r0 b>IntKind.wrap .i64 (Int.tdiv 1000000000000 (nAbs_r0 a))):Pu 141 ([pI a,pI b]) (.ret (.tup [pI (nChecked_r0 (IntKind.wrap .i64 (a * b)) true),.bool (nChecked_r1 (IntKind.wrap .i64 (a * b)) true)])):=
 pu mdL (fun e=>[cl (@nIn (a)),rp 2 (bf1 (bnF hx0)),cl (@nIn (b)),rp 2 (bf1 (bnF hx0)),bf1 (bnF hx1),rp 3 (en1 hx2),en1 hx3,cl (@nAbs (b)),cl (@nAbs (a)),kp,am (nAbs_r0 a≠0) (by (apply nAbs_ne <;> first | assumption | omega | decide)),df1 hx4,kp,cl (@nChecked (IntKind.wrap .i64 (a * b)) (true))]) Tryz.func141
end
def nMul_r0(a:Int)(b:Int):Int:=(if nIn_r0 a=false then (0) else (if nIn_r0 b=false then (0) else (if a=0 then (0) else (if b=0 then (0) else (if nAbs_r0 b>IntKind.wrap .i64 (Int.tdiv 1000000000000 (nAbs_r0 a)) then (0) else (nChecked_r0 (IntKind.wrap .i64 (a * b)) true))))))
def nMul_r1(a:Int)(b:Int):Bool:=(if nIn_r0 a=false then (false) else (if nIn_r0 b=false then (false) else (if a=0 then (true) else (if b=0 then (true) else (if nAbs_r0 b>IntKind.wrap .i64 (Int.tdiv 1000000000000 (nAbs_r0 a)) then (false) else (nChecked_r1 (IntKind.wrap .i64 (a * b)) true))))))
theorem nMul(a b:Int):Pu 141 ([pI a,pI b]) (.ret (.tup [pI (nMul_r0 a b),.bool (nMul_r1 a b)])):=by
 by_cases h0:nIn_r0 a=false
 ·simp only [nMul_r0,nMul_r1,if_pos h0]; exact nMul_1 a b h0
 ·by_cases h1:nIn_r0 b=false
  ·simp only [nMul_r0,nMul_r1,if_neg h0,if_pos h1]; exact nMul_2 a b (bTF h0) h1
  ·by_cases h2:a=0
   ·simp only [nMul_r0,nMul_r1,if_neg h0,if_neg h1,if_pos h2]; exact nMul_3 a b (bTF h0) (bTF h1) h2
   ·by_cases h3:b=0
    ·simp only [nMul_r0,nMul_r1,if_neg h0,if_neg h1,if_neg h2,if_pos h3]; exact nMul_4 a b (bTF h0) (bTF h1) h2 h3
    ·by_cases h4:nAbs_r0 b>IntKind.wrap .i64 (Int.tdiv 1000000000000 (nAbs_r0 a))
     ·simp only [nMul_r0,nMul_r1,if_neg h0,if_neg h1,if_neg h2,if_neg h3,if_pos h4]; exact nMul_5 a b (bTF h0) (bTF h1) h2 h3 h4
     ·simp only [nMul_r0,nMul_r1,if_neg h0,if_neg h1,if_neg h2,if_neg h3,if_neg h4]; exact nMul_6 a b (bTF h0) (bTF h1) h2 h3 h4
section
variable (a b:Int)
include a b
theorem nDivide_1(hx0:nIn_r0 a=false):Pu 159 ([pI a,pI b]) (.ret (.tup [pI 0,pI 0,.bool false])):=
 pu mdL (fun e=>[cl (@nIn (a)),rp 4 (bt1 (bnT hx0)),rp 4 (bt true)]) Tryz.func159
theorem nDivide_2(hx0:nIn_r0 a=true)(hx1:nIn_r0 b=false):Pu 159 ([pI a,pI b]) (.ret (.tup [pI 0,pI 0,.bool false])):=
 pu mdL (fun e=>[cl (@nIn (a)),rp 2 (bf1 (bnF hx0)),cl (@nIn (b)),rp 2 (bf1 (bnF hx0)),rp 3 (bt1 (bnT hx1)),bt true]) Tryz.func159
theorem nDivide_3(hx0:nIn_r0 a=true)(hx1:nIn_r0 b=true)(hx2:b=0):Pu 159 ([pI a,pI b]) (.ret (.tup [pI 0,pI 0,.bool false])):=
 pu mdL (fun e=>[cl (@nIn (a)),rp 2 (bf1 (bnF hx0)),cl (@nIn (b)),rp 2 (bf1 (bnF hx0)),rp 3 (bf1 (bnF hx1)),et1 hx2]) Tryz.func159
theorem nDivide_4(hx0:nIn_r0 a=true)(hx1:nIn_r0 b=true)(hx2:¬b=0)(hx3:¬Int.tmod a b=0)(hx4:(if false=true then decide (Int.tmod a b<0)==decide (b<0) else !decide (Int.tmod a b<0)==decide (b<0))=true):Pu 159 ([pI a,pI b]) (.ret (.tup [pI (IntKind.wrap .i64 (IntKind.wrap .i64 (Int.tdiv a b) - 1)),pI (IntKind.wrap .i64 (Int.tmod a b+b)),.bool true])):=
 pu mdL (fun e=>[cl (@nIn (a)),rp 2 (bf1 (bnF hx0)),cl (@nIn (b)),rp 2 (bf1 (bnF hx0)),rp 3 (bf1 (bnF hx1)),en1 hx2,rp 2 (kp),rp 2 (am1 hx2),rp 6 (nt1 hx3),bt1 hx4,rp 2 (kp)]) Tryz.func159
theorem nDivide_5(hx0:nIn_r0 a=true)(hx1:nIn_r0 b=true)(hx2:¬b=0)(hx3:¬Int.tmod a b=0)(hx4:(if false=true then decide (Int.tmod a b<0)==decide (b<0) else !decide (Int.tmod a b<0)==decide (b<0))=false):Pu 159 ([pI a,pI b]) (.ret (.tup [pI (IntKind.wrap .i64 (Int.tdiv a b)),pI (Int.tmod a b),.bool true])):=
 pu mdL (fun e=>[cl (@nIn (a)),rp 2 (bf1 (bnF hx0)),cl (@nIn (b)),rp 2 (bf1 (bnF hx0)),rp 3 (bf1 (bnF hx1)),en1 hx2,rp 2 (kp),rp 2 (am1 hx2),rp 6 (nt1 hx3),bf1 hx4]) Tryz.func159
theorem nDivide_6(hx0:nIn_r0 a=true)(hx1:nIn_r0 b=true)(hx2:¬b=0)(hx3:Int.tmod a b=0):Pu 159 ([pI a,pI b]) (.ret (.tup [pI (IntKind.wrap .i64 (Int.tdiv a b)),pI (Int.tmod a b),.bool true])):=
 pu mdL (fun e=>[cl (@nIn (a)),rp 2 (bf1 (bnF hx0)),cl (@nIn (b)),rp 2 (bf1 (bnF hx0)),rp 3 (bf1 (bnF hx1)),en1 hx2,rp 2 (kp),rp 2 (am1 hx2),rp 6 (nn1 hx3),bf false]) Tryz.func159
end
def nDivide_r0(a:Int)(b:Int):Int:=(if nIn_r0 a=false then (0) else (if nIn_r0 b=false then (0) else (if b=0 then (0) else (if Int.tmod a b=0 then (IntKind.wrap .i64 (Int.tdiv a b)) else (if (if false=true then decide (Int.tmod a b<0)==decide (b<0) else !decide (Int.tmod a b<0)==decide (b<0))=true then (IntKind.wrap .i64 (IntKind.wrap .i64 (Int.tdiv a b) - 1)) else (IntKind.wrap .i64 (Int.tdiv a b)))))))
def nDivide_r1(a:Int)(b:Int):Int:=(if nIn_r0 a=false then (0) else (if nIn_r0 b=false then (0) else (if b=0 then (0) else (if Int.tmod a b=0 then (Int.tmod a b) else (if (if false=true then decide (Int.tmod a b<0)==decide (b<0) else !decide (Int.tmod a b<0)==decide (b<0))=true then (IntKind.wrap .i64 (Int.tmod a b+b)) else (Int.tmod a b))))))
def nDivide_r2(a:Int)(b:Int):Bool:=(if nIn_r0 a=false then (false) else (if nIn_r0 b=false then (false) else (if b=0 then (false) else (if Int.tmod a b=0 then (true) else (if (if false=true then decide (Int.tmod a b<0)==decide (b<0) else !decide (Int.tmod a b<0)==decide (b<0))=true then (true) else (true))))))
theorem nDivide(a b:Int):Pu 159 ([pI a,pI b]) (.ret (.tup [pI (nDivide_r0 a b),pI (nDivide_r1 a b),.bool (nDivide_r2 a b)])):=by
 by_cases h0:nIn_r0 a=false
 ·simp only [nDivide_r0,nDivide_r1,nDivide_r2,if_pos h0]; exact nDivide_1 a b h0
 ·by_cases h1:nIn_r0 b=false
  ·simp only [nDivide_r0,nDivide_r1,nDivide_r2,if_neg h0,if_pos h1]; exact nDivide_2 a b (bTF h0) h1
  ·by_cases h2:b=0
   ·simp only [nDivide_r0,nDivide_r1,nDivide_r2,if_neg h0,if_neg h1,if_pos h2]; exact nDivide_3 a b (bTF h0) (bTF h1) h2
   ·by_cases h3:Int.tmod a b=0
    ·simp only [nDivide_r0,nDivide_r1,nDivide_r2,if_neg h0,if_neg h1,if_neg h2,if_pos h3]; exact nDivide_6 a b (bTF h0) (bTF h1) h2 h3
    ·by_cases h4:(if false=true then decide (Int.tmod a b<0)==decide (b<0) else !decide (Int.tmod a b<0)==decide (b<0))=true
     ·simp only [nDivide_r0,nDivide_r1,nDivide_r2,if_neg h0,if_neg h1,if_neg h2,if_neg h3,if_pos h4]; exact nDivide_4 a b (bTF h0) (bTF h1) h2 h3 h4
     ·simp only [nDivide_r0,nDivide_r1,nDivide_r2,if_neg h0,if_neg h1,if_neg h2,if_neg h3,if_neg h4]; exact nDivide_5 a b (bTF h0) (bTF h1) h2 h3 (bFT h4)
theorem nDiv(a b:Int):Pu 142 ([pI a,pI b]) (.ret (.tup [pI (nDivide_r0 a b),.bool (nDivide_r2 a b)])):=
 pu mdL (fun e=>[cl (@nDivide (a) (b))]) Tryz.func142
theorem nMod(a b:Int):Pu 143 ([pI a,pI b]) (.ret (.tup [pI (nDivide_r1 a b),.bool (nDivide_r2 a b)])):=
 pu mdL (fun e=>[cl (@nDivide (a) (b))]) Tryz.func143
theorem rResult_1(n:Int)(ok:Bool)(hx0:ok=false):Pu 135 ([pI n,.bool ok]) (.ret (.tup [pI 0,.bool false])):=
 pu mdL (fun e=>[rp 4 (bt1 (bnT hx0)),bt true]) Tryz.func135
theorem rResult_2(n:Int)(ok:Bool)(hx0:ok=true)(hx1:rIn_r0 n=false):Pu 135 ([pI n,.bool ok]) (.ret (.tup [pI 0,.bool false])):=
 pu mdL (fun e=>[rp 2 (bf1 (bnF hx0)),cl (@rIn (n)),rp 2 (bf1 (bnF hx0)),bt1 (bnT hx1)]) Tryz.func135
theorem rResult_3(n:Int)(ok:Bool)(hx0:ok=true)(hx1:rIn_r0 n=true):Pu 135 ([pI n,.bool ok]) (.ret (.tup [pI n,.bool true])):=
 pu mdL (fun e=>[rp 2 (bf1 (bnF hx0)),cl (@rIn (n)),rp 2 (bf1 (bnF hx0)),bf1 (bnF hx1)]) Tryz.func135
def rResult_r0(n:Int)(ok:Bool):Int:=(if ok=false then (0) else (if rIn_r0 n=false then (0) else (n)))
def rResult_r1(n:Int)(ok:Bool):Bool:=(if ok=false then (false) else (if rIn_r0 n=false then (false) else (true)))
theorem rResult(n:Int)(ok:Bool):Pu 135 ([pI n,.bool ok]) (.ret (.tup [pI (rResult_r0 n ok),.bool (rResult_r1 n ok)])):=by
 by_cases h0:ok=false
 ·simp only [rResult_r0,rResult_r1,if_pos h0]; exact rResult_1 n ok h0
 ·by_cases h1:rIn_r0 n=false
  ·simp only [rResult_r0,rResult_r1,if_neg h0,if_pos h1]; exact rResult_2 n ok (bTF h0) h1
  ·simp only [rResult_r0,rResult_r1,if_neg h0,if_neg h1]; exact rResult_3 n ok (bTF h0) (bTF h1)
theorem rAdd_1(a b:Int)(hx0:rIn_r0 a=true):Pu 131 ([pI a,pI b]) (.ret (.tup [pI (rResult_r0 (IntKind.wrap .i64 (a+b)) (rIn_r0 b)),.bool (rResult_r1 (IntKind.wrap .i64 (a+b)) (rIn_r0 b))])):=
 pu mdL (fun e=>[cl (@rIn (a)),rp 2 (bt1 hx0),cl (@rIn (b)),bt1 hx0,kp,cl (@rResult (IntKind.wrap .i64 (a+b)) (rIn_r0 b))]) Tryz.func131
theorem rAdd_2(a b:Int)(hx0:rIn_r0 a=false):Pu 131 ([pI a,pI b]) (.ret (.tup [pI 0,.bool false])):=
 pu mdL (fun e=>[cl (@rIn (a)),rp 3 (bf1 hx0),kp,cl (@rResult (IntKind.wrap .i64 (a+b)) (false))]) Tryz.func131
def rAdd_r0(a:Int)(b:Int):Int:=(if rIn_r0 a=true then (rResult_r0 (IntKind.wrap .i64 (a+b)) (rIn_r0 b)) else (0))
def rAdd_r1(a:Int)(b:Int):Bool:=(if rIn_r0 a=true then (rResult_r1 (IntKind.wrap .i64 (a+b)) (rIn_r0 b)) else (false))
theorem rAdd(a b:Int):Pu 131 ([pI a,pI b]) (.ret (.tup [pI (rAdd_r0 a b),.bool (rAdd_r1 a b)])):=by
 by_cases h0:rIn_r0 a=true
 ·simp only [rAdd_r0,rAdd_r1,if_pos h0]; exact rAdd_1 a b h0
 ·simp only [rAdd_r0,rAdd_r1,if_neg h0]; exact rAdd_2 a b (bFT h0)
theorem rSub_1(a b:Int)(hx0:rIn_r0 a=true):Pu 106 ([pI a,pI b]) (.ret (.tup [pI (rResult_r0 (IntKind.wrap .i64 (a - b)) (rIn_r0 b)),.bool (rResult_r1 (IntKind.wrap .i64 (a - b)) (rIn_r0 b))])):=
 pu mdL (fun e=>[cl (@rIn (a)),rp 2 (bt1 hx0),cl (@rIn (b)),bt1 hx0,kp,cl (@rResult (IntKind.wrap .i64 (a - b)) (rIn_r0 b))]) Tryz.func106
theorem rSub_2(a b:Int)(hx0:rIn_r0 a=false):Pu 106 ([pI a,pI b]) (.ret (.tup [pI 0,.bool false])):=
 pu mdL (fun e=>[cl (@rIn (a)),rp 3 (bf1 hx0),kp,cl (@rResult (IntKind.wrap .i64 (a - b)) (false))]) Tryz.func106
def rSub_r0(a:Int)(b:Int):Int:=(if rIn_r0 a=true then (rResult_r0 (IntKind.wrap .i64 (a - b)) (rIn_r0 b)) else (0))
def rSub_r1(a:Int)(b:Int):Bool:=(if rIn_r0 a=true then (rResult_r1 (IntKind.wrap .i64 (a - b)) (rIn_r0 b)) else (false))
theorem rSub(a b:Int):Pu 106 ([pI a,pI b]) (.ret (.tup [pI (rSub_r0 a b),.bool (rSub_r1 a b)])):=by
 by_cases h0:rIn_r0 a=true
 ·simp only [rSub_r0,rSub_r1,if_pos h0]; exact rSub_1 a b h0
 ·simp only [rSub_r0,rSub_r1,if_neg h0]; exact rSub_2 a b (bFT h0)
section
variable (a b:Int)
include a b
theorem rMul_1(hx0:rIn_r0 a=false):Pu 132 ([pI a,pI b]) (.ret (.tup [pI 0,.bool false])):=
 pu mdL (fun e=>[cl (@rIn (a)),rp 4 (bt1 (bnT hx0)),bt true]) Tryz.func132
theorem rMul_2(hx0:rIn_r0 a=true)(hx1:rIn_r0 b=false):Pu 132 ([pI a,pI b]) (.ret (.tup [pI 0,.bool false])):=
 pu mdL (fun e=>[cl (@rIn (a)),rp 2 (bf1 (bnF hx0)),cl (@rIn (b)),rp 2 (bf1 (bnF hx0)),bt1 (bnT hx1)]) Tryz.func132
theorem rMul_3(hx0:rIn_r0 a=true)(hx1:rIn_r0 b=true)(hx2:a=0):Pu 132 ([pI a,pI b]) (.ret (.tup [pI 0,.bool true])):=
 pu mdL (fun e=>[cl (@rIn (a)),rp 2 (bf1 (bnF hx0)),cl (@rIn (b)),rp 2 (bf1 (bnF hx0)),bf1 (bnF hx1),rp 3 (et1 hx2),bt true]) Tryz.func132
theorem rMul_4(hx0:rIn_r0 a=true)(hx1:rIn_r0 b=true)(hx2:¬a=0)(hx3:b=0):Pu 132 ([pI a,pI b]) (.ret (.tup [pI 0,.bool true])):=
 pu mdL (fun e=>[cl (@rIn (a)),rp 2 (bf1 (bnF hx0)),cl (@rIn (b)),rp 2 (bf1 (bnF hx0)),bf1 (bnF hx1),rp 3 (en1 hx2),et1 hx3]) Tryz.func132
theorem rMul_5(hx0:rIn_r0 a=true)(hx1:rIn_r0 b=true)(hx2:¬a=0)(hx3:¬b=0)(hx4:a<0)(hx5:b<0)(hx6:IntKind.wrap .i64 (0 - a)>IntKind.wrap .i64 (Int.tdiv 1000000000000 (IntKind.wrap .i64 (0 - b)))):Pu 132 ([pI a,pI b]) (.ret (.tup [pI 0,.bool false])):=
 pu mdL (fun e=>[cl (@rIn (a)),rp 2 (bf1 (bnF hx0)),cl (@rIn (b)),rp 2 (bf1 (bnF hx0)),bf1 (bnF hx1),rp 3 (en1 hx2),en1 hx3,dt1 hx4,kp,dt1 hx5,rp 2 (kp),am (IntKind.wrap .i64 (0 - b)≠0) (by (apply wrap_neg_ne <;> first | assumption | omega | decide)),dt1 hx6]) Tryz.func132
theorem rMul_6(hx0:rIn_r0 a=true)(hx1:rIn_r0 b=true)(hx2:¬a=0)(hx3:¬b=0)(hx4:a<0)(hx5:b<0)(hx6:¬IntKind.wrap .i64 (0 - a)>IntKind.wrap .i64 (Int.tdiv 1000000000000 (IntKind.wrap .i64 (0 - b)))):Pu 132 ([pI a,pI b]) (.ret (.tup [pI (IntKind.wrap .i64 (a * b)),.bool true])):=
 pu mdL (fun e=>[cl (@rIn (a)),rp 2 (bf1 (bnF hx0)),cl (@rIn (b)),rp 2 (bf1 (bnF hx0)),bf1 (bnF hx1),rp 3 (en1 hx2),en1 hx3,dt1 hx4,kp,dt1 hx5,rp 2 (kp),am (IntKind.wrap .i64 (0 - b)≠0) (by (apply wrap_neg_ne <;> first | assumption | omega | decide)),df1 hx6,kp]) Tryz.func132
theorem rMul_7(hx0:rIn_r0 a=true)(hx1:rIn_r0 b=true)(hx2:¬a=0)(hx3:¬b=0)(hx4:a<0)(hx5:¬b<0)(hx6:IntKind.wrap .i64 (0 - a)>IntKind.wrap .i64 (Int.tdiv 1000000000000 b)):Pu 132 ([pI a,pI b]) (.ret (.tup [pI 0,.bool false])):=
 pu mdL (fun e=>[cl (@rIn (a)),rp 2 (bf1 (bnF hx0)),cl (@rIn (b)),rp 2 (bf1 (bnF hx0)),bf1 (bnF hx1),rp 3 (en1 hx2),en1 hx3,dt1 hx4,kp,df1 hx5,kp,am1 hx3,dt1 hx6]) Tryz.func132
theorem rMul_8(hx0:rIn_r0 a=true)(hx1:rIn_r0 b=true)(hx2:¬a=0)(hx3:¬b=0)(hx4:a<0)(hx5:¬b<0)(hx6:¬IntKind.wrap .i64 (0 - a)>IntKind.wrap .i64 (Int.tdiv 1000000000000 b)):Pu 132 ([pI a,pI b]) (.ret (.tup [pI (IntKind.wrap .i64 (a * b)),.bool true])):=
 pu mdL (fun e=>[cl (@rIn (a)),rp 2 (bf1 (bnF hx0)),cl (@rIn (b)),rp 2 (bf1 (bnF hx0)),bf1 (bnF hx1),rp 3 (en1 hx2),en1 hx3,dt1 hx4,kp,df1 hx5,kp,am1 hx3,df1 hx6,kp]) Tryz.func132
theorem rMul_9(hx0:rIn_r0 a=true)(hx1:rIn_r0 b=true)(hx2:¬a=0)(hx3:¬b=0)(hx4:¬a<0)(hx5:b<0)(hx6:a>IntKind.wrap .i64 (Int.tdiv 1000000000000 (IntKind.wrap .i64 (0 - b)))):Pu 132 ([pI a,pI b]) (.ret (.tup [pI 0,.bool false])):=
 pu mdL (fun e=>[cl (@rIn (a)),rp 2 (bf1 (bnF hx0)),cl (@rIn (b)),rp 2 (bf1 (bnF hx0)),bf1 (bnF hx1),rp 3 (en1 hx2),en1 hx3,df1 hx4,dt1 hx5,rp 2 (kp),am (IntKind.wrap .i64 (0 - b)≠0) (by (apply wrap_neg_ne <;> first | assumption | omega | decide)),dt1 hx6]) Tryz.func132
theorem rMul_10(hx0:rIn_r0 a=true)(hx1:rIn_r0 b=true)(hx2:¬a=0)(hx3:¬b=0)(hx4:¬a<0)(hx5:b<0)(hx6:¬a>IntKind.wrap .i64 (Int.tdiv 1000000000000 (IntKind.wrap .i64 (0 - b)))):Pu 132 ([pI a,pI b]) (.ret (.tup [pI (IntKind.wrap .i64 (a * b)),.bool true])):=
 pu mdL (fun e=>[cl (@rIn (a)),rp 2 (bf1 (bnF hx0)),cl (@rIn (b)),rp 2 (bf1 (bnF hx0)),bf1 (bnF hx1),rp 3 (en1 hx2),en1 hx3,df1 hx4,dt1 hx5,rp 2 (kp),am (IntKind.wrap .i64 (0 - b)≠0) (by (apply wrap_neg_ne <;> first | assumption | omega | decide)),df1 hx6,kp]) Tryz.func132
theorem rMul_11(hx0:rIn_r0 a=true)(hx1:rIn_r0 b=true)(hx2:¬a=0)(hx3:¬b=0)(hx4:¬a<0)(hx5:¬b<0)(hx6:a>IntKind.wrap .i64 (Int.tdiv 1000000000000 b)):Pu 132 ([pI a,pI b]) (.ret (.tup [pI 0,.bool false])):=
 pu mdL (fun e=>[cl (@rIn (a)),rp 2 (bf1 (bnF hx0)),cl (@rIn (b)),rp 2 (bf1 (bnF hx0)),bf1 (bnF hx1),rp 3 (en1 hx2),en1 hx3,df1 hx4,df1 hx5,kp,am1 hx3,dt1 hx6]) Tryz.func132
theorem rMul_12(hx0:rIn_r0 a=true)(hx1:rIn_r0 b=true)(hx2:¬a=0)(hx3:¬b=0)(hx4:¬a<0)(hx5:¬b<0)(hx6:¬a>IntKind.wrap .i64 (Int.tdiv 1000000000000 b)):Pu 132 ([pI a,pI b]) (.ret (.tup [pI (IntKind.wrap .i64 (a * b)),.bool true])):=
 pu mdL (fun e=>[cl (@rIn (a)),rp 2 (bf1 (bnF hx0)),cl (@rIn (b)),rp 2 (bf1 (bnF hx0)),bf1 (bnF hx1),rp 3 (en1 hx2),en1 hx3,df1 hx4,df1 hx5,kp,am1 hx3,df1 hx6,kp]) Tryz.func132
end
def rMul_r0(a:Int)(b:Int):Int:=(if rIn_r0 a=false then (0) else (if rIn_r0 b=false then (0) else (if a=0 then (0) else (if b=0 then (0) else (if a<0 then (if b<0 then (if IntKind.wrap .i64 (0 - a)>IntKind.wrap .i64 (Int.tdiv 1000000000000 (IntKind.wrap .i64 (0 - b))) then (0) else (IntKind.wrap .i64 (a * b))) else (if IntKind.wrap .i64 (0 - a)>IntKind.wrap .i64 (Int.tdiv 1000000000000 b) then (0) else (IntKind.wrap .i64 (a * b)))) else (if b<0 then (if a>IntKind.wrap .i64 (Int.tdiv 1000000000000 (IntKind.wrap .i64 (0 - b))) then (0) else (IntKind.wrap .i64 (a * b))) else (if a>IntKind.wrap .i64 (Int.tdiv 1000000000000 b) then (0) else (IntKind.wrap .i64 (a * b)))))))))
def rMul_r1(a:Int)(b:Int):Bool:=(if rIn_r0 a=false then (false) else (if rIn_r0 b=false then (false) else (if a=0 then (true) else (if b=0 then (true) else (if a<0 then (if b<0 then (if IntKind.wrap .i64 (0 - a)>IntKind.wrap .i64 (Int.tdiv 1000000000000 (IntKind.wrap .i64 (0 - b))) then (false) else (true)) else (if IntKind.wrap .i64 (0 - a)>IntKind.wrap .i64 (Int.tdiv 1000000000000 b) then (false) else (true))) else (if b<0 then (if a>IntKind.wrap .i64 (Int.tdiv 1000000000000 (IntKind.wrap .i64 (0 - b))) then (false) else (true)) else (if a>IntKind.wrap .i64 (Int.tdiv 1000000000000 b) then (false) else (true))))))))
theorem rMul(a b:Int):Pu 132 ([pI a,pI b]) (.ret (.tup [pI (rMul_r0 a b),.bool (rMul_r1 a b)])):=by
 by_cases h0:rIn_r0 a=false
 ·simp only [rMul_r0,rMul_r1,if_pos h0]; exact rMul_1 a b h0
 ·by_cases h1:rIn_r0 b=false
  ·simp only [rMul_r0,rMul_r1,if_neg h0,if_pos h1]; exact rMul_2 a b (bTF h0) h1
  ·by_cases h2:a=0
   ·simp only [rMul_r0,rMul_r1,if_neg h0,if_neg h1,if_pos h2]; exact rMul_3 a b (bTF h0) (bTF h1) h2
   ·by_cases h3:b=0
    ·simp only [rMul_r0,rMul_r1,if_neg h0,if_neg h1,if_neg h2,if_pos h3]; exact rMul_4 a b (bTF h0) (bTF h1) h2 h3
    ·by_cases h4:a<0
     ·by_cases h5:b<0
      ·by_cases h6:IntKind.wrap .i64 (0 - a)>IntKind.wrap .i64 (Int.tdiv 1000000000000 (IntKind.wrap .i64 (0 - b)))
       ·simp only [rMul_r0,rMul_r1,if_neg h0,if_neg h1,if_neg h2,if_neg h3,if_pos h4,if_pos h5,if_pos h6]; exact rMul_5 a b (bTF h0) (bTF h1) h2 h3 h4 h5 h6
       ·simp only [rMul_r0,rMul_r1,if_neg h0,if_neg h1,if_neg h2,if_neg h3,if_pos h4,if_pos h5,if_neg h6]; exact rMul_6 a b (bTF h0) (bTF h1) h2 h3 h4 h5 h6
      ·by_cases h6:IntKind.wrap .i64 (0 - a)>IntKind.wrap .i64 (Int.tdiv 1000000000000 b)
       ·simp only [rMul_r0,rMul_r1,if_neg h0,if_neg h1,if_neg h2,if_neg h3,if_pos h4,if_neg h5,if_pos h6]; exact rMul_7 a b (bTF h0) (bTF h1) h2 h3 h4 h5 h6
       ·simp only [rMul_r0,rMul_r1,if_neg h0,if_neg h1,if_neg h2,if_neg h3,if_pos h4,if_neg h5,if_neg h6]; exact rMul_8 a b (bTF h0) (bTF h1) h2 h3 h4 h5 h6
     ·by_cases h5:b<0
      ·by_cases h6:a>IntKind.wrap .i64 (Int.tdiv 1000000000000 (IntKind.wrap .i64 (0 - b)))
       ·simp only [rMul_r0,rMul_r1,if_neg h0,if_neg h1,if_neg h2,if_neg h3,if_neg h4,if_pos h5,if_pos h6]; exact rMul_9 a b (bTF h0) (bTF h1) h2 h3 h4 h5 h6
       ·simp only [rMul_r0,rMul_r1,if_neg h0,if_neg h1,if_neg h2,if_neg h3,if_neg h4,if_pos h5,if_neg h6]; exact rMul_10 a b (bTF h0) (bTF h1) h2 h3 h4 h5 h6
      ·by_cases h6:a>IntKind.wrap .i64 (Int.tdiv 1000000000000 b)
       ·simp only [rMul_r0,rMul_r1,if_neg h0,if_neg h1,if_neg h2,if_neg h3,if_neg h4,if_neg h5,if_pos h6]; exact rMul_11 a b (bTF h0) (bTF h1) h2 h3 h4 h5 h6
       ·simp only [rMul_r0,rMul_r1,if_neg h0,if_neg h1,if_neg h2,if_neg h3,if_neg h4,if_neg h5,if_neg h6]; exact rMul_12 a b (bTF h0) (bTF h1) h2 h3 h4 h5 h6
section
variable (a b:Int)
include a b
theorem rDiv_1(hx0:rIn_r0 a=false):Pu 133 ([pI a,pI b]) (.ret (.tup [pI 0,.bool false])):=
 pu mdL (fun e=>[cl (@rIn (a)),rp 4 (bt1 (bnT hx0)),rp 4 (bt true)]) Tryz.func133
theorem rDiv_2(hx0:rIn_r0 a=true)(hx1:rIn_r0 b=false):Pu 133 ([pI a,pI b]) (.ret (.tup [pI 0,.bool false])):=
 pu mdL (fun e=>[cl (@rIn (a)),rp 2 (bf1 (bnF hx0)),cl (@rIn (b)),rp 2 (bf1 (bnF hx0)),rp 3 (bt1 (bnT hx1)),bt true]) Tryz.func133
theorem rDiv_3(hx0:rIn_r0 a=true)(hx1:rIn_r0 b=true)(hx2:b=0):Pu 133 ([pI a,pI b]) (.ret (.tup [pI 0,.bool false])):=
 pu mdL (fun e=>[cl (@rIn (a)),rp 2 (bf1 (bnF hx0)),cl (@rIn (b)),rp 2 (bf1 (bnF hx0)),rp 3 (bf1 (bnF hx1)),et1 hx2]) Tryz.func133
theorem rDiv_4(hx0:rIn_r0 a=true)(hx1:rIn_r0 b=true)(hx2:¬b=0)(hx3:¬IntKind.wrap .i64 (IntKind.wrap .i64 (Int.tdiv a b) * b)=a)(hx4:(if false=true then decide (a<0)==decide (b<0) else !decide (a<0)==decide (b<0))=true):Pu 133 ([pI a,pI b]) (.ret (.tup [pI (IntKind.wrap .i64 (IntKind.wrap .i64 (Int.tdiv a b) - 1)),.bool true])):=
 pu mdL (fun e=>[cl (@rIn (a)),rp 2 (bf1 (bnF hx0)),cl (@rIn (b)),rp 2 (bf1 (bnF hx0)),rp 3 (bf1 (bnF hx1)),en1 hx2,rp 2 (kp),am1 hx2,rp 6 (nt1 hx3),bt1 hx4,kp]) Tryz.func133
theorem rDiv_5(hx0:rIn_r0 a=true)(hx1:rIn_r0 b=true)(hx2:¬b=0)(hx3:¬IntKind.wrap .i64 (IntKind.wrap .i64 (Int.tdiv a b) * b)=a)(hx4:(if false=true then decide (a<0)==decide (b<0) else !decide (a<0)==decide (b<0))=false):Pu 133 ([pI a,pI b]) (.ret (.tup [pI (IntKind.wrap .i64 (Int.tdiv a b)),.bool true])):=
 pu mdL (fun e=>[cl (@rIn (a)),rp 2 (bf1 (bnF hx0)),cl (@rIn (b)),rp 2 (bf1 (bnF hx0)),rp 3 (bf1 (bnF hx1)),en1 hx2,rp 2 (kp),am1 hx2,rp 6 (nt1 hx3),bf1 hx4]) Tryz.func133
theorem rDiv_6(hx0:rIn_r0 a=true)(hx1:rIn_r0 b=true)(hx2:¬b=0)(hx3:IntKind.wrap .i64 (IntKind.wrap .i64 (Int.tdiv a b) * b)=a):Pu 133 ([pI a,pI b]) (.ret (.tup [pI (IntKind.wrap .i64 (Int.tdiv a b)),.bool true])):=
 pu mdL (fun e=>[cl (@rIn (a)),rp 2 (bf1 (bnF hx0)),cl (@rIn (b)),rp 2 (bf1 (bnF hx0)),rp 3 (bf1 (bnF hx1)),en1 hx2,rp 2 (kp),am1 hx2,rp 6 (nn1 hx3),bf false]) Tryz.func133
end
def rDiv_r0(a:Int)(b:Int):Int:=(if rIn_r0 a=false then (0) else (if rIn_r0 b=false then (0) else (if b=0 then (0) else (if IntKind.wrap .i64 (IntKind.wrap .i64 (Int.tdiv a b) * b)=a then (IntKind.wrap .i64 (Int.tdiv a b)) else (if (if false=true then decide (a<0)==decide (b<0) else !decide (a<0)==decide (b<0))=true then (IntKind.wrap .i64 (IntKind.wrap .i64 (Int.tdiv a b) - 1)) else (IntKind.wrap .i64 (Int.tdiv a b)))))))
def rDiv_r1(a:Int)(b:Int):Bool:=(if rIn_r0 a=false then (false) else (if rIn_r0 b=false then (false) else (if b=0 then (false) else (if IntKind.wrap .i64 (IntKind.wrap .i64 (Int.tdiv a b) * b)=a then (true) else (if (if false=true then decide (a<0)==decide (b<0) else !decide (a<0)==decide (b<0))=true then (true) else (true))))))
theorem rDiv(a b:Int):Pu 133 ([pI a,pI b]) (.ret (.tup [pI (rDiv_r0 a b),.bool (rDiv_r1 a b)])):=by
 by_cases h0:rIn_r0 a=false
 ·simp only [rDiv_r0,rDiv_r1,if_pos h0]; exact rDiv_1 a b h0
 ·by_cases h1:rIn_r0 b=false
  ·simp only [rDiv_r0,rDiv_r1,if_neg h0,if_pos h1]; exact rDiv_2 a b (bTF h0) h1
  ·by_cases h2:b=0
   ·simp only [rDiv_r0,rDiv_r1,if_neg h0,if_neg h1,if_pos h2]; exact rDiv_3 a b (bTF h0) (bTF h1) h2
   ·by_cases h3:IntKind.wrap .i64 (IntKind.wrap .i64 (Int.tdiv a b) * b)=a
    ·simp only [rDiv_r0,rDiv_r1,if_neg h0,if_neg h1,if_neg h2,if_pos h3]; exact rDiv_6 a b (bTF h0) (bTF h1) h2 h3
    ·by_cases h4:(if false=true then decide (a<0)==decide (b<0) else !decide (a<0)==decide (b<0))=true
     ·simp only [rDiv_r0,rDiv_r1,if_neg h0,if_neg h1,if_neg h2,if_neg h3,if_pos h4]; exact rDiv_4 a b (bTF h0) (bTF h1) h2 h3 h4
     ·simp only [rDiv_r0,rDiv_r1,if_neg h0,if_neg h1,if_neg h2,if_neg h3,if_neg h4]; exact rDiv_5 a b (bTF h0) (bTF h1) h2 h3 (bFT h4)
theorem rMod_1(a b:Int)(hx0:rDiv_r1 a b=false):Pu 134 ([pI a,pI b]) (.ret (.tup [pI 0,.bool false])):=
 pu mdL (fun e=>[cl (@rDiv (a) (b)),bt1 (bnT hx0)]) Tryz.func134
theorem rMod_2(a b:Int)(hx0:rDiv_r1 a b=true):Pu 134 ([pI a,pI b]) (.ret (.tup [pI (IntKind.wrap .i64 (a - IntKind.wrap .i64 (b * rDiv_r0 a b))),.bool true])):=
 pu mdL (fun e=>[cl (@rDiv (a) (b)),bf1 (bnF hx0),rp 2 (kp)]) Tryz.func134
def rMod_r0(a:Int)(b:Int):Int:=(if rDiv_r1 a b=false then (0) else (IntKind.wrap .i64 (a - IntKind.wrap .i64 (b * rDiv_r0 a b))))
def rMod_r1(a:Int)(b:Int):Bool:=(if rDiv_r1 a b=false then (false) else (true))
theorem rMod(a b:Int):Pu 134 ([pI a,pI b]) (.ret (.tup [pI (rMod_r0 a b),.bool (rMod_r1 a b)])):=by
 by_cases h0:rDiv_r1 a b=false
 ·simp only [rMod_r0,rMod_r1,if_pos h0]; exact rMod_1 a b h0
 ·simp only [rMod_r0,rMod_r1,if_neg h0]; exact rMod_2 a b (bTF h0)
end Go.Proofs.YtgonmmckkikmaaaGreat
namespace Go.Proofs.YtgonmmckkikmaaaGreat
open Go.Pv
inductive Pr where
 | mk (op:Int) (name:BA) (n:Int) (kids:List Pr)
inductive Tp where
 | mk (op:Int) (name:BA) (args:List Tp) (names:List BA) (pred:Pr) (preds:List Pr)
inductive Pm where
 | mk (name:BA) (type:Tp)
mutual
inductive Ex where
 | mk (op:Int) (name:BA) (n:Int) (kids:List Ex) (params:List Pm) (alts:List Al) (types:List Tp)
inductive Al where
 | mk (con:BA) (names:List BA) (body:Ex)
end
mutual
inductive Vl where
 | mk (op n:Int) (name:BA) (kids:List Vl) (params:List BA) (body:List Ex) (binds:List Bd)
inductive Bd where
 | mk (name:BA) (value:Vl)
end
inductive Df where
 | mk (name:BA) (params:List BA) (body:Ex) (mode:Int) (typed:Bool) (vars:List BA) (needs abs bounds:PV) (type:Tp) (metric:List Pr)
abbrev nm0:BA:=ByteArray.mk #[]
instance:Inhabited Pr:=⟨.mk 0 nm0 0 []⟩
instance:Inhabited Tp:=⟨.mk 0 nm0 [] [] default []⟩
instance:Inhabited Pm:=⟨.mk nm0 default⟩
instance:Inhabited Ex:=⟨.mk 0 nm0 0 [] [] [] []⟩
instance:Inhabited Al:=⟨.mk nm0 [] default⟩
instance:Inhabited Vl:=⟨.mk 0 0 nm0 [] [] [] []⟩
instance:Inhabited Bd:=⟨.mk nm0 default⟩
instance:Inhabited Df:=⟨.mk nm0 [] default 0 false [] (.sl 2 []) (.sl 2 []) (.sl 2 []) default []⟩
def prO:Pr->Int | .mk x _ _ _=>x
def prNm:Pr->BA | .mk _ x _ _=>x
def prN:Pr->Int | .mk _ _ x _=>x
def prK:Pr->List Pr | .mk _ _ _ x=>x
def tpO:Tp->Int | .mk x _ _ _ _ _=>x
def tpNm:Tp->BA | .mk _ x _ _ _ _=>x
def tpA:Tp->List Tp | .mk _ _ x _ _ _=>x
def tpNs:Tp->List BA | .mk _ _ _ x _ _=>x
def tpP:Tp->Pr | .mk _ _ _ _ x _=>x
def tpPs:Tp->List Pr | .mk _ _ _ _ _ x=>x
def pmNm:Pm->BA | .mk x _=>x
def pmT:Pm->Tp | .mk _ x=>x
def exO:Ex->Int | .mk x _ _ _ _ _ _=>x
def exNm:Ex->BA | .mk _ x _ _ _ _ _=>x
def exN:Ex->Int | .mk _ _ x _ _ _ _=>x
def exK:Ex->List Ex | .mk _ _ _ x _ _ _=>x
def exP:Ex->List Pm | .mk _ _ _ _ x _ _=>x
def exA:Ex->List Al | .mk _ _ _ _ _ x _=>x
def exT:Ex->List Tp | .mk _ _ _ _ _ _ x=>x
def alC:Al->BA | .mk x _ _=>x
def alNs:Al->List BA | .mk _ x _=>x
def alB:Al->Ex | .mk _ _ x=>x
def vlO:Vl->Int | .mk x _ _ _ _ _ _=>x
def vlN:Vl->Int | .mk _ x _ _ _ _ _=>x
def vlNm:Vl->BA | .mk _ _ x _ _ _ _=>x
def vlK:Vl->List Vl | .mk _ _ _ x _ _ _=>x
def vlP:Vl->List BA | .mk _ _ _ _ x _ _=>x
def vlB:Vl->List Ex | .mk _ _ _ _ _ x _=>x
def vlBd:Vl->List Bd | .mk _ _ _ _ _ _ x=>x
def bdNm:Bd->BA | .mk x _=>x
def bdV:Bd->Vl | .mk _ x=>x
def dfNm:Df->BA | .mk x _ _ _ _ _ _ _ _ _ _=>x
def dfP:Df->List BA | .mk _ x _ _ _ _ _ _ _ _ _=>x
def dfB:Df->Ex | .mk _ _ x _ _ _ _ _ _ _ _=>x
def dfM:Df->Int | .mk _ _ _ x _ _ _ _ _ _ _=>x
def dfTy:Df->Bool | .mk _ _ _ _ x _ _ _ _ _ _=>x
def dfVs:Df->List BA | .mk _ _ _ _ _ x _ _ _ _ _=>x
def dfNe:Df->PV | .mk _ _ _ _ _ _ x _ _ _ _=>x
def dfAb:Df->PV | .mk _ _ _ _ _ _ _ x _ _ _=>x
def dfBo:Df->PV | .mk _ _ _ _ _ _ _ _ x _ _=>x
def dfT:Df->Tp | .mk _ _ _ _ _ _ _ _ _ x _=>x
def dfMe:Df->List Pr | .mk _ _ _ _ _ _ _ _ _ _ x=>x
def nmsC:List BA->List (List PV)
 | []=>[]
 | s::r=>[.str s]::nmsC r
mutual
def Pr.c:Pr->List PV
 | .mk op name n kids=>[.int .i64 op,.str name,.int .i64 n,.sl 4 (Pr.cs kids)]
def Pr.cs:List Pr->List (List PV)
 | []=>[]
 | x::r=>Pr.c x::Pr.cs r
end
abbrev prL(x:Pr):List PV:=[.int .i64 (prO x),.str (prNm x),.int .i64 (prN x),.sl 4 (Pr.cs (prK x))]
mutual
def Tp.c:Tp->List PV
 | .mk op name args names pred preds=>[.int .i64 op,.str name,.sl 9 (Tp.cs args),.sl 1 (nmsC names),.int .i64 (prO pred),.str (prNm pred),.int .i64 (prN pred),.sl 4 (Pr.cs (prK pred)),.sl 4 (Pr.cs preds)]
def Tp.cs:List Tp->List (List PV)
 | []=>[]
 | x::r=>Tp.c x::Tp.cs r
end
abbrev tpL(x:Tp):List PV:=[.int .i64 (tpO x),.str (tpNm x),.sl 9 (Tp.cs (tpA x)),.sl 1 (nmsC (tpNs x)),.int .i64 (prO (tpP x)),.str (prNm (tpP x)),.int .i64 (prN (tpP x)),.sl 4 (Pr.cs (prK (tpP x))),.sl 4 (Pr.cs (tpPs x))]
abbrev pmL(p:Pm):List PV := .str (pmNm p)::tpL (pmT p)
def pmsC:List Pm->List (List PV)
 | []=>[]
 | x::r=>pmL x::pmsC r
mutual
def Ex.c:Ex->List PV
 | .mk op name n kids params alts types=>[.int .i64 op,.str name,.int .i64 n,.sl 7 (Ex.cs kids),.sl 10 (pmsC params),.sl 9 (Al.cs alts),.sl 9 (Tp.cs types)]
def Ex.cs:List Ex->List (List PV)
 | []=>[]
 | x::r=>Ex.c x::Ex.cs r
def Al.c:Al->List PV
 | .mk con names body => .str con :: .sl 1 (nmsC names)::Ex.c body
def Al.cs:List Al->List (List PV)
 | []=>[]
 | x::r=>Al.c x::Al.cs r
end
abbrev exL(x:Ex):List PV:=[.int .i64 (exO x),.str (exNm x),.int .i64 (exN x),.sl 7 (Ex.cs (exK x)),.sl 10 (pmsC (exP x)),.sl 9 (Al.cs (exA x)),.sl 9 (Tp.cs (exT x))]
abbrev alL(x:Al):List PV := .str (alC x) :: .sl 1 (nmsC (alNs x))::exL (alB x)
mutual
def Vl.c:Vl->List PV
 | .mk op n name kids params body binds=>[.int .i64 op,.int .i64 n,.str name,.sl 7 (Vl.cs kids),.sl 1 (nmsC params),.sl 7 (Ex.cs body),.sl 8 (Bd.cs binds)]
def Vl.cs:List Vl->List (List PV)
 | []=>[]
 | x::r=>Vl.c x::Vl.cs r
def Bd.c:Bd->List PV
 | .mk name value => .str name::Vl.c value
def Bd.cs:List Bd->List (List PV)
 | []=>[]
 | x::r=>Bd.c x::Bd.cs r
end
abbrev vlL(x:Vl):List PV:=[.int .i64 (vlO x),.int .i64 (vlN x),.str (vlNm x),.sl 7 (Vl.cs (vlK x)),.sl 1 (nmsC (vlP x)),.sl 7 (Ex.cs (vlB x)),.sl 8 (Bd.cs (vlBd x))]
abbrev bdL(x:Bd):List PV := .str (bdNm x)::vlL (bdV x)
abbrev dfL(d:Df):List PV := .str (dfNm d) :: .sl 1 (nmsC (dfP d))::(exL (dfB d) ++ .int .i64 (dfM d) :: .bool (dfTy d) :: .sl 1 (nmsC (dfVs d))::dfNe d::dfAb d::dfBo d::(tpL (dfT d)++[.sl 4 (Pr.cs (dfMe d))]))
def dfsC:List Df->List (List PV)
 | []=>[]
 | x::r=>dfL x::dfsC r
theorem Pr.c_eq(x:Pr):Pr.c x=prL x:=by cases x; rfl
theorem Tp.c_eq(x:Tp):Tp.c x=tpL x:=by cases x; rfl
theorem Ex.c_eq(x:Ex):Ex.c x=exL x:=by cases x; rfl
theorem Al.c_eq(x:Al):Al.c x=alL x:=by cases x; simp only [Al.c,alL,alC,alNs,alB,Ex.c_eq]
theorem Vl.c_eq(x:Vl):Vl.c x=vlL x:=by cases x; rfl
theorem Bd.c_eq(x:Bd):Bd.c x=bdL x:=by cases x; simp only [Bd.c,bdL,bdNm,bdV,Vl.c_eq]
theorem nmsC_eq(l:List BA):nmsC l=l.map (fun s=>[.str s]):=by induction l with | nil=>rfl | cons x r ih=>simp [nmsC,ih]
theorem nmsC_len(l:List BA):(nmsC l).length=l.length:=by simp [nmsC_eq]
theorem nmsC_at{l:List BA}{i:Nat}(h:i<l.length):(nmsC l).getD i []=[.str (l.getD i nm0)]:=by rw [nmsC_eq]; simp [List.getD,h]
theorem nmsC_app(a b:List BA):nmsC (a++b)=nmsC a++nmsC b:=by simp [nmsC_eq]
theorem Pr.cs_eq(l:List Pr):Pr.cs l=l.map (prL):=by induction l with | nil=>rfl | cons x r ih=>simp [Pr.cs,ih,Pr.c_eq]
theorem Pr.cs_len(l:List Pr):(Pr.cs l).length=l.length:=by simp [Pr.cs_eq]
theorem Pr.cs_at{l:List Pr}{i:Nat}(h:i<l.length):(Pr.cs l).getD i []=prL (l.getD i default):=by rw [Pr.cs_eq]; simp [List.getD,h]
theorem Tp.cs_eq(l:List Tp):Tp.cs l=l.map (tpL):=by induction l with | nil=>rfl | cons x r ih=>simp [Tp.cs,ih,Tp.c_eq]
theorem Tp.cs_len(l:List Tp):(Tp.cs l).length=l.length:=by simp [Tp.cs_eq]
theorem Tp.cs_at{l:List Tp}{i:Nat}(h:i<l.length):(Tp.cs l).getD i []=tpL (l.getD i default):=by rw [Tp.cs_eq]; simp [List.getD,h]
theorem pmsC_eq(l:List Pm):pmsC l=l.map (pmL):=by induction l with | nil=>rfl | cons x r ih=>simp [pmsC,ih]
theorem pmsC_len(l:List Pm):(pmsC l).length=l.length:=by simp [pmsC_eq]
theorem pmsC_at{l:List Pm}{i:Nat}(h:i<l.length):(pmsC l).getD i []=pmL (l.getD i default):=by rw [pmsC_eq]; simp [List.getD,h]
theorem Ex.cs_eq(l:List Ex):Ex.cs l=l.map (exL):=by induction l with | nil=>rfl | cons x r ih=>simp [Ex.cs,ih,Ex.c_eq]
theorem Ex.cs_len(l:List Ex):(Ex.cs l).length=l.length:=by simp [Ex.cs_eq]
theorem Ex.cs_at{l:List Ex}{i:Nat}(h:i<l.length):(Ex.cs l).getD i []=exL (l.getD i default):=by rw [Ex.cs_eq]; simp [List.getD,h]
theorem Al.cs_eq(l:List Al):Al.cs l=l.map (alL):=by induction l with | nil=>rfl | cons x r ih=>simp [Al.cs,ih,Al.c_eq]
theorem Al.cs_len(l:List Al):(Al.cs l).length=l.length:=by simp [Al.cs_eq]
theorem Al.cs_at{l:List Al}{i:Nat}(h:i<l.length):(Al.cs l).getD i []=alL (l.getD i default):=by rw [Al.cs_eq]; simp [List.getD,h]
theorem Vl.cs_eq(l:List Vl):Vl.cs l=l.map (vlL):=by induction l with | nil=>rfl | cons x r ih=>simp [Vl.cs,ih,Vl.c_eq]
theorem Vl.cs_len(l:List Vl):(Vl.cs l).length=l.length:=by simp [Vl.cs_eq]
theorem Vl.cs_at{l:List Vl}{i:Nat}(h:i<l.length):(Vl.cs l).getD i []=vlL (l.getD i default):=by rw [Vl.cs_eq]; simp [List.getD,h]
theorem Vl.cs_app(a b:List Vl):Vl.cs (a++b)=Vl.cs a++Vl.cs b:=by simp [Vl.cs_eq]
theorem Bd.cs_eq(l:List Bd):Bd.cs l=l.map (bdL):=by induction l with | nil=>rfl | cons x r ih=>simp [Bd.cs,ih,Bd.c_eq]
theorem Bd.cs_len(l:List Bd):(Bd.cs l).length=l.length:=by simp [Bd.cs_eq]
theorem Bd.cs_at{l:List Bd}{i:Nat}(h:i<l.length):(Bd.cs l).getD i []=bdL (l.getD i default):=by rw [Bd.cs_eq]; simp [List.getD,h]
theorem dfsC_eq(l:List Df):dfsC l=l.map (dfL):=by induction l with | nil=>rfl | cons x r ih=>simp [dfsC,ih]
theorem dfsC_len(l:List Df):(dfsC l).length=l.length:=by simp [dfsC_eq]
theorem dfsC_at{l:List Df}{i:Nat}(h:i<l.length):(dfsC l).getD i []=dfL (l.getD i default):=by rw [dfsC_eq]; simp [List.getD,h]
theorem dfsC_app(a b:List Df):dfsC (a++b)=dfsC a++dfsC b:=by simp [dfsC_eq]
abbrev exV(x:Ex):List LV:=[.v (.int .i64 (exO x)),.v (.str (exNm x)),.v (.int .i64 (exN x)),.v (.sl 7 (Ex.cs (exK x))),.v (.sl 10 (pmsC (exP x))),.v (.sl 9 (Al.cs (exA x))),.v (.sl 9 (Tp.cs (exT x)))]
abbrev vlV(x:Vl):List LV:=[.v (.int .i64 (vlO x)),.v (.int .i64 (vlN x)),.v (.str (vlNm x)),.v (.sl 7 (Vl.cs (vlK x))),.v (.sl 1 (nmsC (vlP x))),.v (.sl 7 (Ex.cs (vlB x))),.v (.sl 8 (Bd.cs (vlBd x)))]
abbrev dfV(d:Df):List LV := .v (.str (dfNm d)) :: .v (.sl 1 (nmsC (dfP d)))::(exV (dfB d) ++ .v (.int .i64 (dfM d)) :: .v (.bool (dfTy d)) :: .v (.sl 1 (nmsC (dfVs d))) :: .v (dfNe d) :: .v (dfAb d) :: .v (dfBo d) :: .v (.int .i64 (tpO (dfT d))) :: .v (.str (tpNm (dfT d))) :: .v (.sl 9 (Tp.cs (tpA (dfT d)))) :: .v (.sl 1 (nmsC (tpNs (dfT d)))) :: .v (.int .i64 (prO (tpP (dfT d)))) :: .v (.str (prNm (tpP (dfT d)))) :: .v (.int .i64 (prN (tpP (dfT d)))) :: .v (.sl 4 (Pr.cs (prK (tpP (dfT d))))) :: .v (.sl 4 (Pr.cs (tpPs (dfT d))))::[.v (.sl 4 (Pr.cs (dfMe d)))])
abbrev alV(x:Al):List LV := .v (.str (alC x)) :: .v (.sl 1 (nmsC (alNs x)))::exV (alB x)
abbrev jk7:List LV:=[jk,jk,jk,jk,jk,jk,jk]
theorem nmsC_snoc(l:List BA)(x:BA):nmsC (l++[x])=nmsC l++[[.str x]]:=by simp [nmsC_eq]
theorem Ex.cs_snoc(l:List Ex)(x:Ex):Ex.cs (l++[x])=Ex.cs l++[exL x]:=by simp [Ex.cs_eq]
theorem Vl.cs_snoc(l:List Vl)(x:Vl):Vl.cs (l++[x])=Vl.cs l++[vlL x]:=by simp [Vl.cs_eq]
theorem Bd.cs_snoc(l:List Bd)(x:Bd):Bd.cs (l++[x])=Bd.cs l++[bdL x]:=by simp [Bd.cs_eq]
theorem Bd.cs_snoc2(l:List Bd)(n:BA)(v:Vl):Bd.cs (l++[Bd.mk n v])=Bd.cs l++[.str n::vlL v]:=by simp [Bd.cs_eq,bdNm,bdV]
theorem drop_at{α:Type} [Inhabited α] {l:List α} {i:Nat} (h:i<l.length):l.drop i=l.getD i default::l.drop (i+1):=by
 rw [List.drop_eq_getElem_cons h]
 simp [List.getD,h]
theorem drop_at0{l:List BA}{i:Nat}(h:i<l.length):l.drop i=l.getD i nm0::l.drop (i+1):=by
 rw [List.drop_eq_getElem_cons h]
 simp [List.getD,h]
theorem take_rev_at{α:Type} [Inhabited α] {l:List α} {i:Nat} (h:i<l.length):(l.take (i+1)).reverse=l.getD i default::(l.take i).reverse:=by
 rw [List.take_succ_eq_append_getElem h,List.reverse_append]
 simp [List.getD,h]
section
variable {P:Program}
def xNm(l:List BA)(i:Nat)(h:i<l.length:=by omega):Stp P:=ar ((nmsC l).getD i []) [.str (l.getD i nm0)] (by rw [nmsC_at h])
def xEx(l:List Ex)(i:Nat)(h:i<l.length:=by omega):Stp P:=ar ((Ex.cs l).getD i []) (exL (l.getD i default)) (by rw [Ex.cs_at h])
def xVl(l:List Vl)(i:Nat)(h:i<l.length:=by omega):Stp P:=ar ((Vl.cs l).getD i []) (vlL (l.getD i default)) (by rw [Vl.cs_at h])
def xAl(l:List Al)(i:Nat)(h:i<l.length:=by omega):Stp P:=ar ((Al.cs l).getD i []) (alL (l.getD i default)) (by rw [Al.cs_at h])
def xBd(l:List Bd)(i:Nat)(h:i<l.length:=by omega):Stp P:=ar ((Bd.cs l).getD i []) (bdL (l.getD i default)) (by rw [Bd.cs_at h])
def xPm(l:List Pm)(i:Nat)(h:i<l.length:=by omega):Stp P:=ar ((pmsC l).getD i []) (pmL (l.getD i default)) (by rw [pmsC_at h])
def xTp(l:List Tp)(i:Nat)(h:i<l.length:=by omega):Stp P:=ar ((Tp.cs l).getD i []) (tpL (l.getD i default)) (by rw [Tp.cs_at h])
def xDf(l:List Df)(i:Nat)(h:i<l.length:=by omega):Stp P:=ar ((dfsC l).getD i []) (dfL (l.getD i default)) (by rw [dfsC_at h])
def xPr(l:List Pr)(i:Nat)(h:i<l.length:=by omega):Stp P:=ar ((Pr.cs l).getD i []) (prL (l.getD i default)) (by rw [Pr.cs_at h])
end
end Go.Proofs.YtgonmmckkikmaaaGreat
namespace Go.Proofs.YtgonmmckkikmaaaGreat
open Go.Pv
set_option maxRecDepth 100000
def eTruth_r0(b:Bool):Int:=(if b=true then (1) else (0))
def eRight_r0(op:Int)(kids:List Ex):Bool:=(if op=1 then ((kids.length:Int)==0) else (if op=2 then ((kids.length:Int)==0) else (if op=3 then ((kids.length:Int)==0) else (if op=4 then (true) else (if op=5 then (decide ((kids.length:Int)>=1)) else (if op=25 then (decide ((kids.length:Int)>=1)) else (if op=6 then ((kids.length:Int)==1) else (if op=9 then ((kids.length:Int)==1) else (if op=15 then ((kids.length:Int)==1) else (if op=21 then ((kids.length:Int)==1) else (if op=22 then ((kids.length:Int)==1) else (if op=23 then ((kids.length:Int)==1) else (if op=26 then ((kids.length:Int)==1) else (if op=8 then ((kids.length:Int)==3) else (if op>=1 then (if op<=26 then ((kids.length:Int)==2) else (false)) else (false))))))))))))))))
def rRight_r0(op:Int)(kids:List Ex):Bool:=(if op=1 then ((kids.length:Int)==0) else (if op=2 then ((kids.length:Int)==0) else (if op=3 then ((kids.length:Int)==0) else (if op=4 then (true) else (if op=5 then (decide ((kids.length:Int)>=1)) else (if op=25 then (decide ((kids.length:Int)>=1)) else (if op=6 then ((kids.length:Int)==1) else (if op=9 then ((kids.length:Int)==1) else (if op=15 then ((kids.length:Int)==1) else (if op=21 then ((kids.length:Int)==1) else (if op=22 then ((kids.length:Int)==1) else (if op=23 then ((kids.length:Int)==1) else (if op=26 then ((kids.length:Int)==1) else (if op=8 then ((kids.length:Int)==3) else (if op=7 then ((kids.length:Int)==2) else (if op=10 then ((kids.length:Int)==2) else (if op=11 then ((kids.length:Int)==2) else (if op=12 then ((kids.length:Int)==2) else (if op=13 then ((kids.length:Int)==2) else (if op=14 then ((kids.length:Int)==2) else (if op=16 then ((kids.length:Int)==2) else (if op=17 then ((kids.length:Int)==2) else (if op=18 then ((kids.length:Int)==2) else (if op=19 then ((kids.length:Int)==2) else (if op=20 then ((kids.length:Int)==2) else (if op=24 then ((kids.length:Int)==2) else (false)))))))))))))))))))))))))))
end Go.Proofs.YtgonmmckkikmaaaGreat
namespace Go.Proofs.YtgonmmckkikmaaaGreat
open Go.Pv
set_option maxRecDepth 100000
end Go.Proofs.YtgonmmckkikmaaaGreat
namespace Go.Proofs.YtgonmmckkikmaaaGreat
open Go.Pv
set_option maxRecDepth 100000
abbrev mdM(c0 c1 c2 c3 c4:PV)(l:List Df):PV := .agg [c0,c1,c2,c3,c4,.sl 25 (dfsC l)]
abbrev sDefI(l:List Df)(name:BA)(i:Int)(ext:Ext):S:=⟨[(1,.v (.str name)),(4,.lp 4 0),(5,.v (.bool false)),(9,.v (.sl 25 (dfsC l))),(10,.v (.int .i64 l.length)),(11,.v (.int .i64 i))],[(4,List.replicate 25 jk)],ext⟩
section
variable (l:List Df) (name:BA) (i:Nat) (ext:Ext) (hi:i<l.length) (hn:l.length<=1000000000)
include l name i ext hi hn
theorem sDefB_1(hx0:dfNm (List.getD l i default)=name)(cx:Cx)(hcx:cx.n=22){Q:PExit->S->Prop}(hq:Q (.ret) (S.mk [(1,vS name),(4,.lp 4 0),(5,.v (.bool true)),(9,vL 25 (dfsC l)),(10,vI6 (l.length:Int)),(11,vI6 (i:Int))] [(4,dfV (List.getD l i default))] ext)):PW Tryz.prog cx (loopF Tryz.f77 0) (sDefI l name (i:Int) ext) Q:=
 pw mdL 22 [dt ((i:Int)<(l.length:Int)),am ((0:Int)<=(i:Int)/\(i:Int)<((dfsC l).length:Int)) (by (simp only [dfsC_len]; omega)),xDf l i hi,bt (ByteArray.toList (dfNm (List.getD l i default))==ByteArray.toList name) (bsT hx0)] [1,4,5,9,10,11] [4] hcx hq
theorem sDefB_2(hx0:¬dfNm (List.getD l i default)=name)(cx:Cx)(hcx:cx.n=22){Q:PExit->S->Prop}(hq:Q (.normal) (S.mk [(1,vS name),(4,.lp 4 0),(5,.v (.bool false)),(9,vL 25 (dfsC l)),(10,vI6 (l.length:Int)),(11,vI6 ((i:Int)+1))] [(4,[jk,jk,jk,jk,jk,jk,jk,jk,jk,jk,jk,jk,jk,jk,jk,jk,jk,jk,jk,jk,jk,jk,jk,jk,jk])] ext)):PW Tryz.prog cx (loopF Tryz.f77 0) (sDefI l name (i:Int) ext) Q:=
 pw mdL 22 [dt ((i:Int)<(l.length:Int)),am ((0:Int)<=(i:Int)/\(i:Int)<((dfsC l).length:Int)) (by (simp only [dfsC_len]; omega)),xDf l i hi,bf (ByteArray.toList (dfNm (List.getD l i default))==ByteArray.toList name) (bsF hx0),wr ((i:Int)+1)] [1,4,5,9,10,11] [4] hcx hq
end
theorem sDefE(l:List Df)(name:BA)(ext:Ext)(cx:Cx)(hcx:cx.n=22){Q:PExit->S->Prop}(hq:Q (.exit 0) (S.mk [(1,vS name),(4,.lp 4 0),(5,.v (.bool false)),(9,vL 25 (dfsC l)),(10,vI6 (l.length:Int)),(11,vI6 (l.length:Int))] [(4,[jk,jk,jk,jk,jk,jk,jk,jk,jk,jk,jk,jk,jk,jk,jk,jk,jk,jk,jk,jk,jk,jk,jk,jk,jk])] ext)):PW Tryz.prog cx (loopF Tryz.f77 0) (sDefI l name (l.length:Int) ext) Q:=
 pw mdL 22 [df ((l.length:Int)<(l.length:Int))] [1,4,5,9,10,11] [4] hcx hq
def findD(name:BA):List Df->Option Df
 | []=>none
 | d::r=>if dfNm d=name then some d else findD name r
def sDefR(l:List Df)(name:BA)(ext:Ext)(i:Nat):PExit × S:=match findD name (l.drop i) with
 | some d=>(.ret,⟨[(4,.lp 4 0),(5,.v (.bool true))],[(4,(dfL d).map .v)],ext⟩)
 | none=>(.exit 0,⟨[(4,.lp 4 0)],[(4,List.replicate 25 jk)],ext⟩)
theorem sDef_loop(l:List Df)(name:BA)(ext:Ext)(hn:l.length<=1000000000):(Ob.loop 22 (loopF Tryz.f77 0) (sDefI l name 0 ext) (sDefR l name ext 0).1 (sDefR l name ext 0).2).ok Tryz.prog:=by
 refine Ob.loop_of (α:={ i:Nat // i<=l.length }) (fun i=>sDefI l name i.1 ext) (fun i=>l.length - i.1) (fun i=>sDefR l name ext i.1) ?_ ⟨0,by simp⟩
 rintro ⟨i,hi⟩ cx hcx
 rcases Nat.lt_or_ge i l.length with hlt | hge
 ·by_cases h:dfNm (l.getD i default)=name
  ·have hr:sDefR l name ext i=(.ret,⟨[(4,.lp 4 0),(5,.v (.bool true))],[(4,(dfL (l.getD i default)).map .v)],ext⟩):=by simp only [sDefR,drop_at hlt,findD,h,if_true]
   refine sDefB_1 l name i ext hlt hn h cx hcx (.inr ?_)
   rw [hr]
   exact ⟨by simp,rfl,⟨W,W,trivial⟩,⟨WLs.refl _,trivial⟩,rfl⟩
  ·have hr:sDefR l name ext i=sDefR l name ext (i+1):=by simp only [sDefR,drop_at hlt,findD,h,if_false]
   exact sDefB_2 l name i ext hlt hn h cx hcx (.inl ⟨rfl,⟨i+1,hlt⟩,by simp only; omega,⟨⟨W,W,W,W,W,W,trivial⟩,⟨WLs.refl _,trivial⟩,rfl⟩,hr.symm⟩)
 ·have he:i=l.length:=by omega
  subst he
  have hr:sDefR l name ext l.length=(.exit 0,⟨[(4,.lp 4 0)],[(4,List.replicate 25 jk)],ext⟩):=by simp only [sDefR,List.drop_length,findD]
  refine sDefE l name ext cx hcx (.inr ?_)
  simp only
  rw [hr]
  exact ⟨by simp,rfl,⟨W,trivial⟩,⟨WLs.refl _,trivial⟩,rfl⟩
theorem sDef_loop_some(l:List Df)(name:BA)(ext:Ext)(hn:l.length<=1000000000)(d:Df)(h:findD name l=some d):(Ob.loop 22 (loopF Tryz.f77 0) (sDefI l name 0 ext) .ret ⟨[(4,.lp 4 0),(5,.v (.bool true))],[(4,(dfL d).map .v)],ext⟩).ok Tryz.prog:=by
 have:=sDef_loop l name ext hn
 simp only [sDefR,List.drop_zero,h] at this
 exact this
theorem sDef_loop_none(l:List Df)(name:BA)(ext:Ext)(hn:l.length<=1000000000)(h:findD name l=none):(Ob.loop 22 (loopF Tryz.f77 0) (sDefI l name 0 ext) (.exit 0) ⟨[(4,.lp 4 0)],[(4,List.replicate 25 jk)],ext⟩).ok Tryz.prog:=by
 have:=sDef_loop l name ext hn
 simp only [sDefR,List.drop_zero,h] at this
 exact this
theorem sDef_1(c0 c1 c2 c3 c4:PV)(l:List Df)(name:BA)(hn:l.length<=1000000000)(hy0:Df)(hx1:findD name l=some hy0):Pu 77 ([mdM c0 c1 c2 c3 c4 l,.str name]) (.ret (.tup [.agg (dfL hy0),.bool true])):=
 pu mdL (fun e=>[sl (dfsC_len l),lp (S.mk [(0,.v (.agg [c0,c1,c2,c3,c4,.sl 25 (dfsC l)])),(1,vS name),(2,.lp 2 0),(4,.lp 4 0),(5,.v (.bool false)),(8,.lp 2 5),(9,vL 25 (dfsC l)),(10,vI6 (l.length:Int)),(11,vI6 0)] [(2,[.v c0,.v c1,.v c2,.v c3,.v c4,vL 25 (dfsC l)]),(4,[vS nm0,.v .nilsl,vI6 0,vS nm0,vI6 0,.v .nilsl,.v .nilsl,.v .nilsl,.v .nilsl,vI6 0,.v (.bool false),.v .nilsl,.v .nilsl,.v .nilsl,.v .nilsl,vI6 0,vS nm0,.v .nilsl,.v .nilsl,vI6 0,vS nm0,vI6 0,.v .nilsl,.v .nilsl,.v .nilsl])] e) (@sDef_loop_some (l) (name) (e) hn hy0 hx1) ⟨⟨W,W,W,W,W,W,trivial⟩,⟨⟨Wq,Wq,Wq,Wq,Wq,Wq,Wq,Wq,Wq,Wq,Wq,Wq,Wq,Wq,Wq,Wq,Wq,Wq,Wq,Wq,Wq,Wq,Wq,Wq,Wq,trivial⟩,trivial⟩,rfl⟩]) Tryz.func77
theorem sDef_2(c0 c1 c2 c3 c4:PV)(l:List Df)(name:BA)(hn:l.length<=1000000000)(hx0:findD name l=none):Pu 77 ([mdM c0 c1 c2 c3 c4 l,.str name]) (.ret (.tup [.agg [.str nm0,.sl 1 [],pI 0,.str nm0,pI 0,.sl 7 [],.sl 10 [],.sl 9 [],.sl 9 [],pI 0,.bool false,.sl 1 [],.sl 2 [],.sl 2 [],.sl 10 [],pI 0,.str nm0,.sl 9 [],.sl 1 [],pI 0,.str nm0,pI 0,.sl 4 [],.sl 4 [],.sl 4 []],.bool false])):=
 Ob.pur_wk (Wk.t (WkL.c (Wk.a (WkL.c (Wk.r _) (WkL.c (Wk.n 1) (WkL.c (Wk.r _) (WkL.c (Wk.r _) (WkL.c (Wk.r _) (WkL.c (Wk.n 7) (WkL.c (Wk.n 10) (WkL.c (Wk.n 9) (WkL.c (Wk.n 9) (WkL.c (Wk.r _) (WkL.c (Wk.r _) (WkL.c (Wk.n 1) (WkL.c (Wk.n 2) (WkL.c (Wk.n 2) (WkL.c (Wk.n 10) (WkL.c (Wk.r _) (WkL.c (Wk.r _) (WkL.c (Wk.n 9) (WkL.c (Wk.n 1) (WkL.c (Wk.r _) (WkL.c (Wk.r _) (WkL.c (Wk.r _) (WkL.c (Wk.n 4) (WkL.c (Wk.n 4) (WkL.c (Wk.n 4) (WkL.r _))))))))))))))))))))))))))) (WkL.r _))) (Ob.pur_of (mdL) 50 (fun e=>[Ans.as_ (vI6 (l.length:Int)),Ans.loop (S.mk [(1,vS name),(4,.lp 4 0),(5,.v (.bool false)),(9,vL 25 (dfsC l)),(10,vI6 (l.length:Int)),(11,vI6 0)] [(4,[jk,jk,jk,jk,jk,jk,jk,jk,jk,jk,jk,jk,jk,jk,jk,jk,jk,jk,jk,jk,jk,jk,jk,jk,jk])] e) (.exit 0) (S.mk [(4,.lp 4 0)] [(4,[jk,jk,jk,jk,jk,jk,jk,jk,jk,jk,jk,jk,jk,jk,jk,jk,jk,jk,jk,jk,jk,jk,jk,jk,jk])] e)]) (sc':=fun _=>[]) (l:=fun e=>[Ob.eqv (vI6 (↑((fun x=>List.length (Prod.snd x)) (25,dfsC l)):Int)) (vI6 (l.length:Int)),Ob.le (S.mk [(1,vS name),(4,.lp 4 0),(5,.v (.bool false)),(9,vL 25 (dfsC l)),(10,vI6 (l.length:Int)),(11,vI6 0)] [(4,[jk,jk,jk,jk,jk,jk,jk,jk,jk,jk,jk,jk,jk,jk,jk,jk,jk,jk,jk,jk,jk,jk,jk,jk,jk])] e) (S.mk [(0,.v (.agg [c0,c1,c2,c3,c4,.sl 25 (dfsC l)])),(1,vS name),(2,.lp 2 0),(4,.lp 4 0),(5,.v (.bool false)),(8,.lp 2 5),(9,vL 25 (dfsC l)),(10,vI6 (l.length:Int)),(11,vI6 0)] [(2,[.v c0,.v c1,.v c2,.v c3,.v c4,vL 25 (dfsC l)]),(4,[vS nm0,.v .nilsl,vI6 0,vS nm0,vI6 0,.v .nilsl,.v .nilsl,.v .nilsl,.v .nilsl,vI6 0,.v (.bool false),.v .nilsl,.v .nilsl,.v .nilsl,.v .nilsl,vI6 0,vS nm0,.v .nilsl,.v .nilsl,vI6 0,vS nm0,vI6 0,.v .nilsl,.v .nilsl,.v .nilsl])] e),Ob.loop (Func.ntmps Tryz.f77) (loopF Tryz.f77 0) (S.mk [(1,vS name),(4,.lp 4 0),(5,.v (.bool false)),(9,vL 25 (dfsC l)),(10,vI6 (l.length:Int)),(11,vI6 0)] [(4,[jk,jk,jk,jk,jk,jk,jk,jk,jk,jk,jk,jk,jk,jk,jk,jk,jk,jk,jk,jk,jk,jk,jk,jk,jk])] e) (.exit 0) (S.mk [(4,.lp 4 0)] [(4,[jk,jk,jk,jk,jk,jk,jk,jk,jk,jk,jk,jk,jk,jk,jk,jk,jk,jk,jk,jk,jk,jk,jk,jk,jk])] e)]) mixed Tryz.func77 (by kernel_rfl) (fun e=>by kernel_rfl) (fun e=>⟨(ob_eqv (by (simp only [dfsC_len]; done))),⟨⟨W,W,W,W,W,W,trivial⟩,⟨⟨Wq,Wq,Wq,Wq,Wq,Wq,Wq,Wq,Wq,Wq,Wq,Wq,Wq,Wq,Wq,Wq,Wq,Wq,Wq,Wq,Wq,Wq,Wq,Wq,Wq,trivial⟩,trivial⟩,rfl⟩,(@sDef_loop_none (l) (name) (e) hn hx0),trivial⟩))
abbrev rDefI(c0 c1 c2 c3 c4:PV)(l:List Df)(name:BA)(i:Int)(ext:Ext):S:=⟨[(1,.v (.str name)),(2,.lp 2 0),(4,.lp 4 0),(5,.v (.bool false)),(6,.v (.int .i64 i))],[(2,[.v c0,.v c1,.v c2,.v c3,.v c4,.v (.sl 25 (dfsC l))]),(4,List.replicate 25 jk)],ext⟩
section
variable (c0 c1 c2 c3 c4:PV) (l:List Df) (name:BA) (i:Nat) (ext:Ext) (hi:i<l.length) (hn:l.length<=1000000000)
include c0 c1 c2 c3 c4 l name i ext hi hn
theorem rDefB_1(hx0:dfNm (List.getD l i default)=name)(cx:Cx)(hcx:cx.n=28){Q:PExit->S->Prop}(hq:Q (.ret) (S.mk [(1,vS name),(2,.lp 2 0),(4,.lp 4 0),(5,.v (.bool true)),(6,vI6 (i:Int))] [(2,[.v c0,.v c1,.v c2,.v c3,.v c4,vL 25 (dfsC l)]),(4,dfV (List.getD l i default))] ext)):PW Tryz.prog cx (loopF Tryz.f48 0) (rDefI c0 c1 c2 c3 c4 l name (i:Int) ext) Q:=
 pw mdL 28 [sl (dfsC_len l),dt ((i:Int)<(l.length:Int)),am ((0:Int)<=(i:Int)/\(i:Int)<((dfsC l).length:Int)) (by (simp only [dfsC_len]; omega)),xDf l i hi,bt (ByteArray.toList (dfNm (List.getD l i default))==ByteArray.toList name) (bsT hx0),am ((0:Int)<=(i:Int)/\(i:Int)<((dfsC l).length:Int)) (by (simp only [dfsC_len]; omega)),xDf l i hi] [1,2,4,5,6] [2,4] hcx hq
theorem rDefB_2(hx0:¬dfNm (List.getD l i default)=name)(cx:Cx)(hcx:cx.n=28){Q:PExit->S->Prop}(hq:Q (.normal) (S.mk [(1,vS name),(2,.lp 2 0),(4,.lp 4 0),(5,.v (.bool false)),(6,vI6 ((i:Int)+1))] [(2,[.v c0,.v c1,.v c2,.v c3,.v c4,vL 25 (dfsC l)]),(4,[jk,jk,jk,jk,jk,jk,jk,jk,jk,jk,jk,jk,jk,jk,jk,jk,jk,jk,jk,jk,jk,jk,jk,jk,jk])] ext)):PW Tryz.prog cx (loopF Tryz.f48 0) (rDefI c0 c1 c2 c3 c4 l name (i:Int) ext) Q:=
 pw mdL 28 [sl (dfsC_len l),dt ((i:Int)<(l.length:Int)),am ((0:Int)<=(i:Int)/\(i:Int)<((dfsC l).length:Int)) (by (simp only [dfsC_len]; omega)),xDf l i hi,bf (ByteArray.toList (dfNm (List.getD l i default))==ByteArray.toList name) (bsF hx0),wr ((i:Int)+1)] [1,2,4,5,6] [2,4] hcx hq
end
theorem rDefE(c0 c1 c2 c3 c4:PV)(l:List Df)(name:BA)(ext:Ext)(cx:Cx)(hcx:cx.n=28){Q:PExit->S->Prop}(hq:Q (.exit 0) (S.mk [(1,vS name),(2,.lp 2 0),(4,.lp 4 0),(5,.v (.bool false)),(6,vI6 (l.length:Int))] [(2,[.v c0,.v c1,.v c2,.v c3,.v c4,vL 25 (dfsC l)]),(4,[jk,jk,jk,jk,jk,jk,jk,jk,jk,jk,jk,jk,jk,jk,jk,jk,jk,jk,jk,jk,jk,jk,jk,jk,jk])] ext)):PW Tryz.prog cx (loopF Tryz.f48 0) (rDefI c0 c1 c2 c3 c4 l name (l.length:Int) ext) Q:=
 pw mdL 28 [sl (dfsC_len l),df ((l.length:Int)<(l.length:Int))] [1,2,4,5,6] [2,4] hcx hq
theorem rDef_loop(c0 c1 c2 c3 c4:PV)(l:List Df)(name:BA)(ext:Ext)(hn:l.length<=1000000000):(Ob.loop 28 (loopF Tryz.f48 0) (rDefI c0 c1 c2 c3 c4 l name 0 ext) (sDefR l name ext 0).1 (sDefR l name ext 0).2).ok Tryz.prog:=by
 refine Ob.loop_idx l.length (fun i=>rDefI c0 c1 c2 c3 c4 l name i ext) (sDefR l name ext) ?_ ?_ 0 (by simp)
 ·intro i hlt cx hcx
  by_cases h:dfNm (l.getD i default)=name
  ·have hr:sDefR l name ext i=(.ret,⟨[(4,.lp 4 0),(5,.v (.bool true))],[(4,(dfL (l.getD i default)).map .v)],ext⟩):=by simp only [sDefR,drop_at hlt,findD,h,if_true]
   refine rDefB_1 c0 c1 c2 c3 c4 l name i ext hlt hn h cx hcx (.inr ?_)
   rw [hr]
   exact ⟨by simp,rfl,⟨W,W,trivial⟩,⟨WLs.refl _,trivial⟩,rfl⟩
  ·have hr:sDefR l name ext (i+1)=sDefR l name ext i:=by simp only [sDefR,drop_at hlt,findD,h,if_false]
   exact rDefB_2 c0 c1 c2 c3 c4 l name i ext hlt hn h cx hcx (.inl ⟨rfl,⟨⟨W,W,W,W,W,trivial⟩,⟨WLs.refl _,WLs.refl _,trivial⟩,rfl⟩,hr⟩)
 ·intro cx hcx
  have hr:sDefR l name ext l.length=(.exit 0,⟨[(4,.lp 4 0)],[(4,List.replicate 25 jk)],ext⟩):=by simp only [sDefR,List.drop_length,findD]
  refine rDefE c0 c1 c2 c3 c4 l name ext cx hcx ?_
  rw [hr]
  exact ⟨by simp,rfl,⟨W,trivial⟩,⟨WLs.refl _,trivial⟩,rfl⟩
theorem rDef_loop_some(c0 c1 c2 c3 c4:PV)(l:List Df)(name:BA)(ext:Ext)(hn:l.length<=1000000000)(d:Df)(h:findD name l=some d):(Ob.loop 28 (loopF Tryz.f48 0) (rDefI c0 c1 c2 c3 c4 l name 0 ext) .ret ⟨[(4,.lp 4 0),(5,.v (.bool true))],[(4,(dfL d).map .v)],ext⟩).ok Tryz.prog:=by
 have:=rDef_loop c0 c1 c2 c3 c4 l name ext hn
 simp only [sDefR,List.drop_zero,h] at this
 exact this
theorem rDef_loop_none(c0 c1 c2 c3 c4:PV)(l:List Df)(name:BA)(ext:Ext)(hn:l.length<=1000000000)(h:findD name l=none):(Ob.loop 28 (loopF Tryz.f48 0) (rDefI c0 c1 c2 c3 c4 l name 0 ext) (.exit 0) ⟨[(4,.lp 4 0)],[(4,List.replicate 25 jk)],ext⟩).ok Tryz.prog:=by
 have:=rDef_loop c0 c1 c2 c3 c4 l name ext hn
 simp only [sDefR,List.drop_zero,h] at this
 exact this
theorem rDef_1(c0 c1 c2 c3 c4:PV)(l:List Df)(name:BA)(hn:l.length<=1000000000)(hy0:Df)(hx1:findD name l=some hy0):Pu 48 ([mdM c0 c1 c2 c3 c4 l,.str name]) (.ret (.tup [.agg (dfL hy0),.bool true])):=
 pu mdL (fun e=>[lp (S.mk [(0,.v (.agg [c0,c1,c2,c3,c4,.sl 25 (dfsC l)])),(1,vS name),(2,.lp 2 0),(4,.lp 4 0),(5,.v (.bool false)),(6,vI6 0)] [(2,[.v c0,.v c1,.v c2,.v c3,.v c4,vL 25 (dfsC l)]),(4,[vS nm0,.v .nilsl,vI6 0,vS nm0,vI6 0,.v .nilsl,.v .nilsl,.v .nilsl,.v .nilsl,vI6 0,.v (.bool false),.v .nilsl,.v .nilsl,.v .nilsl,.v .nilsl,vI6 0,vS nm0,.v .nilsl,.v .nilsl,vI6 0,vS nm0,vI6 0,.v .nilsl,.v .nilsl,.v .nilsl])] e) (@rDef_loop_some (c0) (c1) (c2) (c3) (c4) (l) (name) (e) hn hy0 hx1) ⟨⟨W,W,W,W,W,trivial⟩,⟨⟨W,W,W,W,W,W,trivial⟩,⟨Wq,Wq,Wq,Wq,Wq,Wq,Wq,Wq,Wq,Wq,Wq,Wq,Wq,Wq,Wq,Wq,Wq,Wq,Wq,Wq,Wq,Wq,Wq,Wq,Wq,trivial⟩,trivial⟩,rfl⟩]) Tryz.func48
theorem rDef_2(c0 c1 c2 c3 c4:PV)(l:List Df)(name:BA)(hn:l.length<=1000000000)(hx0:findD name l=none):Pu 48 ([mdM c0 c1 c2 c3 c4 l,.str name]) (.ret (.tup [.agg [.str nm0,.sl 1 [],pI 0,.str nm0,pI 0,.sl 7 [],.sl 10 [],.sl 9 [],.sl 9 [],pI 0,.bool false,.sl 1 [],.sl 2 [],.sl 2 [],.sl 10 [],pI 0,.str nm0,.sl 9 [],.sl 1 [],pI 0,.str nm0,pI 0,.sl 4 [],.sl 4 [],.sl 4 []],.bool false])):=
 Ob.pur_wk (Wk.t (WkL.c (Wk.a (WkL.c (Wk.r _) (WkL.c (Wk.n 1) (WkL.c (Wk.r _) (WkL.c (Wk.r _) (WkL.c (Wk.r _) (WkL.c (Wk.n 7) (WkL.c (Wk.n 10) (WkL.c (Wk.n 9) (WkL.c (Wk.n 9) (WkL.c (Wk.r _) (WkL.c (Wk.r _) (WkL.c (Wk.n 1) (WkL.c (Wk.n 2) (WkL.c (Wk.n 2) (WkL.c (Wk.n 10) (WkL.c (Wk.r _) (WkL.c (Wk.r _) (WkL.c (Wk.n 9) (WkL.c (Wk.n 1) (WkL.c (Wk.r _) (WkL.c (Wk.r _) (WkL.c (Wk.r _) (WkL.c (Wk.n 4) (WkL.c (Wk.n 4) (WkL.c (Wk.n 4) (WkL.r _))))))))))))))))))))))))))) (WkL.r _))) (Ob.pur_of (mdL) 50 (fun e=>[Ans.loop (S.mk [(1,vS name),(2,.lp 2 0),(4,.lp 4 0),(5,.v (.bool false)),(6,vI6 0)] [(2,[.v c0,.v c1,.v c2,.v c3,.v c4,vL 25 (dfsC l)]),(4,[jk,jk,jk,jk,jk,jk,jk,jk,jk,jk,jk,jk,jk,jk,jk,jk,jk,jk,jk,jk,jk,jk,jk,jk,jk])] e) (.exit 0) (S.mk [(4,.lp 4 0)] [(4,[jk,jk,jk,jk,jk,jk,jk,jk,jk,jk,jk,jk,jk,jk,jk,jk,jk,jk,jk,jk,jk,jk,jk,jk,jk])] e)]) (sc':=fun _=>[]) (l:=fun e=>[Ob.le (S.mk [(1,vS name),(2,.lp 2 0),(4,.lp 4 0),(5,.v (.bool false)),(6,vI6 0)] [(2,[.v c0,.v c1,.v c2,.v c3,.v c4,vL 25 (dfsC l)]),(4,[jk,jk,jk,jk,jk,jk,jk,jk,jk,jk,jk,jk,jk,jk,jk,jk,jk,jk,jk,jk,jk,jk,jk,jk,jk])] e) (S.mk [(0,.v (.agg [c0,c1,c2,c3,c4,.sl 25 (dfsC l)])),(1,vS name),(2,.lp 2 0),(4,.lp 4 0),(5,.v (.bool false)),(6,vI6 0)] [(2,[.v c0,.v c1,.v c2,.v c3,.v c4,vL 25 (dfsC l)]),(4,[vS nm0,.v .nilsl,vI6 0,vS nm0,vI6 0,.v .nilsl,.v .nilsl,.v .nilsl,.v .nilsl,vI6 0,.v (.bool false),.v .nilsl,.v .nilsl,.v .nilsl,.v .nilsl,vI6 0,vS nm0,.v .nilsl,.v .nilsl,vI6 0,vS nm0,vI6 0,.v .nilsl,.v .nilsl,.v .nilsl])] e),Ob.loop (Func.ntmps Tryz.f48) (loopF Tryz.f48 0) (S.mk [(1,vS name),(2,.lp 2 0),(4,.lp 4 0),(5,.v (.bool false)),(6,vI6 0)] [(2,[.v c0,.v c1,.v c2,.v c3,.v c4,vL 25 (dfsC l)]),(4,[jk,jk,jk,jk,jk,jk,jk,jk,jk,jk,jk,jk,jk,jk,jk,jk,jk,jk,jk,jk,jk,jk,jk,jk,jk])] e) (.exit 0) (S.mk [(4,.lp 4 0)] [(4,[jk,jk,jk,jk,jk,jk,jk,jk,jk,jk,jk,jk,jk,jk,jk,jk,jk,jk,jk,jk,jk,jk,jk,jk,jk])] e)]) mixed Tryz.func48 (by kernel_rfl) (fun e=>by kernel_rfl) (fun e=>⟨⟨⟨W,W,W,W,W,trivial⟩,⟨⟨W,W,W,W,W,W,trivial⟩,⟨Wq,Wq,Wq,Wq,Wq,Wq,Wq,Wq,Wq,Wq,Wq,Wq,Wq,Wq,Wq,Wq,Wq,Wq,Wq,Wq,Wq,Wq,Wq,Wq,Wq,trivial⟩,trivial⟩,rfl⟩,(@rDef_loop_none (c0) (c1) (c2) (c3) (c4) (l) (name) (e) hn hx0),trivial⟩))
def findB(name:BA):List Bd->Option Vl
 | []=>none
 | x::r=>if bdNm x=name then some (bdV x) else findB name r
abbrev findI(p:PV)(name:BA)(ext:Ext):S:=⟨[(0,.v p),(1,.v (.str name)),(4,.lp 4 0),(5,.v (.bool false))],[(4,List.replicate 7 jk)],ext⟩
def findR(name:BA)(ext:Ext)(l:List Bd):PExit × S:=match findB name l with
 | some v=>(.ret,⟨[(4,.lp 4 0),(5,.v (.bool true))],[(4,(vlL v).map .v)],ext⟩)
 | none=>(.exit 0,⟨[(4,.lp 4 0)],[(4,List.replicate 7 jk)],ext⟩)
end Go.Proofs.YtgonmmckkikmaaaGreat
namespace Go.Proofs.YtgonmmckkikmaaaGreat
open Go.Pv
set_option maxRecDepth 100000
def mdE:Md:=⟨fun t=>if t=106∨t=103 then some true else some false,fun _=>false⟩
abbrev zO:List LV:=[.v (.int .i64 0),.v (.int .i64 0),.v (.str nm0),.v .nilsl,.v .nilsl,.v .nilsl,.v .nilsl,.v (.int .i64 0),.v (.str nm0),.v (.int .i64 0)]
end Go.Proofs.YtgonmmckkikmaaaGreat
