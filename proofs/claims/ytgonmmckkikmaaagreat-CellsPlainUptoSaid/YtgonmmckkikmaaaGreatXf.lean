/- Values of Go as plain data, an evaluator over them, and what the functions of the program return; part f. -/
import Derived.Test.YtgonmmckkikmaaaGreatXe
import Derived.Test.YtgonmmckkikmaaaGreatProg
import Derived.KernelRfl
set_option linter.unusedSectionVars false
set_option linter.unusedSimpArgs false
set_option linter.unusedVariables false
namespace Go.Proofs.YtgonmmckkikmaaaGreat
open Go.Pv Tryz
set_option maxRecDepth 100000
theorem mixed:prog.follows .mixedOrders=true:=by kernel_rfl
theorem pu{f:FuncId}{fn:Func}{args:List PV}(md:Md)(L:Ext->List (Stp prog)){r:CRes}(hf:prog.funcs[f]?=some fn)(hok:(isFn prog f&&fnOK fn)=true:=by kernel_rfl)(h:∀e,evFX prog md 50 fn args e (asS (L e)) = .ok (r,e) [] (osS (L e)):=by intro e; kernel_rfl):(Ob.pur f args r).ok prog:=Ob.pur_of md 50 (fun e=>asS (L e)) mixed hf hok h fun e=>okS (L e)
theorem ef{f:FuncId}{fn:Func}{args:List PV}{e e':Ext}(md:Md)(L:List (Stp prog)){r:CRes}(hf:prog.funcs[f]?=some fn)(hok:(isFn prog f&&fnOK fn)=true:=by kernel_rfl)(h:evFX prog md 50 fn args e (asS L) = .ok (r,e') [] (osS L):=by kernel_rfl):(Ob.eff f args e r e').ok prog:=Ob.eff_of md 50 (asS L) mixed hf hok h (okS L)
theorem pw{cx:Cx}{c:Code}{s s':S}{pe:PExit}{Q:PExit->S->Prop}(md:Md)(n:Nat)(L:List (Stp prog))(ks bs:List Nat)(hn:cx.n=n)(hq:Q pe s')(hc:codeOK n c=true:=by kernel_rfl)(h:(evCX prog md n 50 c s (asS L)).keep ks bs = .ok (pe,s') [] (osS L):=by kernel_rfl):PW prog cx c s Q:=PW_runK md n 50 (asS L) ks bs mixed hn hc h (okS L) hq
abbrev Pu(f:FuncId)(a:List PV)(r:CRes):Prop:=(Ob.pur f a r).ok prog
abbrev Ef(f:FuncId)(a:List PV)(e:Ext)(r:CRes)(e':Ext):Prop:=(Ob.eff f a e r e').ok prog
abbrev x4(k:Int)(s:BA)(n:Int)(l:List (List PV)):List PV:=[pI k,.str s,pI n,.sl 7 l,.sl 10 [],.sl 9 [],.sl 9 []]
abbrev v4(k n:Int)(s:BA)(l:List (List PV)):List PV:=[pI k,pI n,.str s,.sl 7 l,.sl 1 [],.sl 7 [],.sl 8 []]
abbrev vZ:List LV:=[vI6 0,vI6 0,vS (ByteArray.mk #[]),.v .nilsl,.v .nilsl,.v .nilsl,.v .nilsl]
abbrev bM(n:UInt8):BA:=ByteArray.mk #[n]
theorem kr {a:PV}{l r:List PV}(h:WkL l r):WkL (a::l) (a::r):=WkL.c (Wk.r _) h
theorem kn (n:Nat){l r:List PV}(h:WkL l r):WkL (.nilsl::l) (.sl n []::r):=WkL.c (Wk.n n) h
theorem pm {f:FuncId}{fn:Func}{args:List PV}(md:Md)(L:List (Stp prog)){r:CRes}(hf:prog.funcs[f]? = some fn)(hok:(isFn prog f && fnOK fn) = true:=by kernel_rfl)(h:∀e,evFX prog md 50 fn args e (asS L) = .ok (r,e) [] (osS L):=by intro e; kernel_rfl):(Ob.pur f args r).ok prog:=pu md (fun _=>L) hf hok h
theorem Wq{a b:LV}(h:WL a b:=by first | exact .inl rfl | exact .inr ⟨rfl,rfl⟩ | exact .inr rfl | exact .inr trivial):WL a b:=h
def mdL:Md:=⟨fun _=>some false,fun _=>false⟩
def nIn_r0(n:Int):Bool:=(if n >= -1000000000000 then (decide (n<=1000000000000)) else (false))
theorem nIn(n:Int):Pu 136 ([pI n]) (rB (nIn_r0 n)):=by
 by_cases h0:n >= -1000000000000
 ·simp only [nIn_r0,iP h0]; exact pu mdL (fun e=>[rp 3 (dt1 h0)]) func136
 ·simp only [nIn_r0,iN h0]; exact pu mdL (fun e=>[rp 3 (df1 h0)]) func136
def rIn_r0(n:Int):Bool:=(if n >= -1000000000000 then (decide (n<=1000000000000)) else (false))
theorem rIn(n:Int):Pu 64 ([pI n]) (rB (rIn_r0 n)):=by
 by_cases h0:n >= -1000000000000
 ·simp only [rIn_r0,iP h0]; exact pu mdL (fun e=>[rp 3 (dt1 h0)]) func64
 ·simp only [rIn_r0,iN h0]; exact pu mdL (fun e=>[rp 3 (df1 h0)]) func64
def nChecked_r0(n:Int)(ok:Bool):Int:=(if ok=false then (0) else (if nIn_r0 n=false then (0) else (n)))
def nChecked_r1(n:Int)(ok:Bool):Bool:=(if ok=false then (false) else (if nIn_r0 n=false then (false) else (true)))
theorem nChecked(n:Int)(ok:Bool):Pu 157 ([pI n,.bool ok]) (.ret (.tup [pI (nChecked_r0 n ok),.bool (nChecked_r1 n ok)])):=by
 by_cases h0:ok=false
 ·simp only [nChecked_r0,nChecked_r1,iP h0]; exact pu mdL (fun e=>[rp 4 (bt1 (bnT h0)),bt true]) func157
 ·by_cases h1:nIn_r0 n=false
  ·simp only [nChecked_r0,nChecked_r1,iN h0,iP h1]; exact pu mdL (fun e=>[rp 2 (bf1 (bnF (bTF h0))),cl (@nIn (n)),rp 2 (bf1 (bnF (bTF h0))),bt1 (bnT h1)]) func157
  ·simp only [nChecked_r0,nChecked_r1,iN h0,iN h1]; exact pu mdL (fun e=>[rp 2 (bf1 (bnF (bTF h0))),cl (@nIn (n)),rp 2 (bf1 (bnF (bTF h0))),bf1 (bnF (bTF h1))]) func157
def nAdd_r0(a:Int)(b:Int):Int:=(if nIn_r0 a=false then (0) else (if nIn_r0 b=false then (0) else (nChecked_r0 (IntKind.wrap .i64 (a+b)) true)))
def nAdd_r1(a:Int)(b:Int):Bool:=(if nIn_r0 a=false then (false) else (if nIn_r0 b=false then (false) else (nChecked_r1 (IntKind.wrap .i64 (a+b)) true)))
theorem nAdd(a b:Int):Pu 140 ([pI a,pI b]) (.ret (.tup [pI (nAdd_r0 a b),.bool (nAdd_r1 a b)])):=by
 by_cases h0:nIn_r0 a=false
 ·simp only [nAdd_r0,nAdd_r1,iP h0]; exact pu mdL (fun e=>[cl (@nIn (a)),rp 4 (bt1 (bnT h0)),bt true]) func140
 ·by_cases h1:nIn_r0 b=false
  ·simp only [nAdd_r0,nAdd_r1,iN h0,iP h1]; exact pu mdL (fun e=>[cl (@nIn (a)),rp 2 (bf1 (bnF (bTF h0))),cl (@nIn (b)),rp 2 (bf1 (bnF (bTF h0))),bt1 (bnT h1)]) func140
  ·simp only [nAdd_r0,nAdd_r1,iN h0,iN h1]; exact pu mdL (fun e=>[cl (@nIn (a)),rp 2 (bf1 (bnF (bTF h0))),cl (@nIn (b)),rp 2 (bf1 (bnF (bTF h0))),bf1 (bnF (bTF h1)),kp,cl (@nChecked (IntKind.wrap .i64 (a+b)) (true))]) func140
def nSub_r0(a:Int)(b:Int):Int:=(if nIn_r0 a=false then (0) else (if nIn_r0 b=false then (0) else (nChecked_r0 (IntKind.wrap .i64 (a - b)) true)))
def nSub_r1(a:Int)(b:Int):Bool:=(if nIn_r0 a=false then (false) else (if nIn_r0 b=false then (false) else (nChecked_r1 (IntKind.wrap .i64 (a - b)) true)))
theorem nSub(a b:Int):Pu 138 ([pI a,pI b]) (.ret (.tup [pI (nSub_r0 a b),.bool (nSub_r1 a b)])):=by
 by_cases h0:nIn_r0 a=false
 ·simp only [nSub_r0,nSub_r1,iP h0]; exact pu mdL (fun e=>[cl (@nIn (a)),rp 4 (bt1 (bnT h0)),bt true]) func138
 ·by_cases h1:nIn_r0 b=false
  ·simp only [nSub_r0,nSub_r1,iN h0,iP h1]; exact pu mdL (fun e=>[cl (@nIn (a)),rp 2 (bf1 (bnF (bTF h0))),cl (@nIn (b)),rp 2 (bf1 (bnF (bTF h0))),bt1 (bnT h1)]) func138
  ·simp only [nSub_r0,nSub_r1,iN h0,iN h1]; exact pu mdL (fun e=>[cl (@nIn (a)),rp 2 (bf1 (bnF (bTF h0))),cl (@nIn (b)),rp 2 (bf1 (bnF (bTF h0))),bf1 (bnF (bTF h1)),kp,cl (@nChecked (IntKind.wrap .i64 (a - b)) (true))]) func138
def nAbs_r0(a:Int):Int:=(if a>=0 then (a) else (if IntKind.wrap .i64 (0 - a)<0 then (1000000000000) else (IntKind.wrap .i64 (0 - a))))
theorem nAbs(a:Int):Pu 158 ([pI a]) (rI (nAbs_r0 a)):=by
 by_cases h0:a>=0
 ·simp only [nAbs_r0,iP h0]; exact pu mdL (fun e=>[dt1 h0]) func158
 ·by_cases h1:IntKind.wrap .i64 (0 - a)<0
  ·simp only [nAbs_r0,iN h0,iP h1]; exact pu mdL (fun e=>[df1 h0,kp,dt1 h1]) func158
  ·simp only [nAbs_r0,iN h0,iN h1]; exact pu mdL (fun e=>[df1 h0,kp,df1 h1,kp]) func158
theorem nAbs_ne{a:Int}(h:nIn_r0 a=true)(h0:¬a=0):nAbs_r0 a≠0:=by
 unfold nAbs_r0
 unfold nIn_r0 at h
 split at h
 ·have h:=of_decide_eq_true h
  split
  ·omega
  ·have e:IntKind.i64.wrap (0 - a) = -a:=by rw [wrap64_eq oM oM]; omega
   rw [e]
   split <;> omega
 ·cases h
theorem wrap_neg{a:Int}(h:rIn_r0 a=true):IntKind.i64.wrap (0 - a)=0 - a:=by
 unfold rIn_r0 at h
 split at h
 ·have h:=of_decide_eq_true h
  rw [wrap64_eq oM oM]
 ·cases h
theorem wrap_neg_ne{a:Int}(h:rIn_r0 a=true)(h0:¬a=0):IntKind.i64.wrap (0 - a)≠0:=by
 rw [wrap_neg h]
 omega
section
variable (a b:Int) (hx0:nIn_r0 a=true) (hx1:nIn_r0 b=true) (hx2:¬a=0) (hx3:¬b=0)
include a b hx0 hx1 hx2 hx3
theorem nMul_5(hx4:nAbs_r0 b>IntKind.wrap .i64 (Int.tdiv 1000000000000 (nAbs_r0 a))):Pu 141 ([pI a,pI b]) (.ret (.tup [pI 0,.bool false])):=
 pu mdL (fun e=>[cl (@nIn (a)),rp 2 (bf1 (bnF hx0)),cl (@nIn (b)),rp 2 (bf1 (bnF hx0)),bf1 (bnF hx1),rp 3 (en1 hx2),en1 hx3,cl (@nAbs (b)),cl (@nAbs (a)),kp,am (nAbs_r0 a≠0) (by (apply nAbs_ne <;> first | assumption | omega | decide)),dt1 hx4]) func141
theorem nMul_6(hx4:¬nAbs_r0 b>IntKind.wrap .i64 (Int.tdiv 1000000000000 (nAbs_r0 a))):Pu 141 ([pI a,pI b]) (.ret (.tup [pI (nChecked_r0 (IntKind.wrap .i64 (a * b)) true),.bool (nChecked_r1 (IntKind.wrap .i64 (a * b)) true)])):=
 pu mdL (fun e=>[cl (@nIn (a)),rp 2 (bf1 (bnF hx0)),cl (@nIn (b)),rp 2 (bf1 (bnF hx0)),bf1 (bnF hx1),rp 3 (en1 hx2),en1 hx3,cl (@nAbs (b)),cl (@nAbs (a)),kp,am (nAbs_r0 a≠0) (by (apply nAbs_ne <;> first | assumption | omega | decide)),df1 hx4,kp,cl (@nChecked (IntKind.wrap .i64 (a * b)) (true))]) func141
end
def nMul_r0(a:Int)(b:Int):Int:=(if nIn_r0 a=false then (0) else (if nIn_r0 b=false then (0) else (if a=0 then (0) else (if b=0 then (0) else (if nAbs_r0 b>IntKind.wrap .i64 (Int.tdiv 1000000000000 (nAbs_r0 a)) then (0) else (nChecked_r0 (IntKind.wrap .i64 (a * b)) true))))))
def nMul_r1(a:Int)(b:Int):Bool:=(if nIn_r0 a=false then (false) else (if nIn_r0 b=false then (false) else (if a=0 then (true) else (if b=0 then (true) else (if nAbs_r0 b>IntKind.wrap .i64 (Int.tdiv 1000000000000 (nAbs_r0 a)) then (false) else (nChecked_r1 (IntKind.wrap .i64 (a * b)) true))))))
theorem nMul(a b:Int):Pu 141 ([pI a,pI b]) (.ret (.tup [pI (nMul_r0 a b),.bool (nMul_r1 a b)])):=by
 by_cases h0:nIn_r0 a=false
 ·simp only [nMul_r0,nMul_r1,iP h0]; exact pu mdL (fun e=>[cl (@nIn (a)),rp 4 (bt1 (bnT h0)),bt true]) func141
 ·by_cases h1:nIn_r0 b=false
  ·simp only [nMul_r0,nMul_r1,iN h0,iP h1]; exact pu mdL (fun e=>[cl (@nIn (a)),rp 2 (bf1 (bnF (bTF h0))),cl (@nIn (b)),rp 2 (bf1 (bnF (bTF h0))),bt1 (bnT h1)]) func141
  ·by_cases h2:a=0
   ·simp only [nMul_r0,nMul_r1,iN h0,iN h1,iP h2]; exact pu mdL (fun e=>[cl (@nIn (a)),rp 2 (bf1 (bnF (bTF h0))),cl (@nIn (b)),rp 2 (bf1 (bnF (bTF h0))),bf1 (bnF (bTF h1)),rp 3 (et1 h2),bt true]) func141
   ·by_cases h3:b=0
    ·simp only [nMul_r0,nMul_r1,iN h0,iN h1,iN h2,iP h3]; exact pu mdL (fun e=>[cl (@nIn (a)),rp 2 (bf1 (bnF (bTF h0))),cl (@nIn (b)),rp 2 (bf1 (bnF (bTF h0))),bf1 (bnF (bTF h1)),rp 3 (en1 h2),et1 h3]) func141
    ·by_cases h4:nAbs_r0 b>IntKind.wrap .i64 (Int.tdiv 1000000000000 (nAbs_r0 a))
     ·simp only [nMul_r0,nMul_r1,iN h0,iN h1,iN h2,iN h3,iP h4]; exact nMul_5 a b (bTF h0) (bTF h1) h2 h3 h4
     ·simp only [nMul_r0,nMul_r1,iN h0,iN h1,iN h2,iN h3,iN h4]; exact nMul_6 a b (bTF h0) (bTF h1) h2 h3 h4
def nDivide_r0(a:Int)(b:Int):Int:=(if nIn_r0 a=false then (0) else (if nIn_r0 b=false then (0) else (if b=0 then (0) else (if Int.tmod a b=0 then (IntKind.wrap .i64 (Int.tdiv a b)) else (if (if false=true then decide (Int.tmod a b<0)==decide (b<0) else !decide (Int.tmod a b<0)==decide (b<0))=true then (IntKind.wrap .i64 (IntKind.wrap .i64 (Int.tdiv a b) - 1)) else (IntKind.wrap .i64 (Int.tdiv a b)))))))
def nDivide_r1(a:Int)(b:Int):Int:=(if nIn_r0 a=false then (0) else (if nIn_r0 b=false then (0) else (if b=0 then (0) else (if Int.tmod a b=0 then (Int.tmod a b) else (if (if false=true then decide (Int.tmod a b<0)==decide (b<0) else !decide (Int.tmod a b<0)==decide (b<0))=true then (IntKind.wrap .i64 (Int.tmod a b+b)) else (Int.tmod a b))))))
def nDivide_r2(a:Int)(b:Int):Bool:=(if nIn_r0 a=false then (false) else (if nIn_r0 b=false then (false) else (if b=0 then (false) else (if Int.tmod a b=0 then (true) else (if (if false=true then decide (Int.tmod a b<0)==decide (b<0) else !decide (Int.tmod a b<0)==decide (b<0))=true then (true) else (true))))))
theorem nDivide(a b:Int):Pu 159 ([pI a,pI b]) (.ret (.tup [pI (nDivide_r0 a b),pI (nDivide_r1 a b),.bool (nDivide_r2 a b)])):=by
 by_cases h0:nIn_r0 a=false
 ·simp only [nDivide_r0,nDivide_r1,nDivide_r2,iP h0]; exact pu mdL (fun e=>[cl (@nIn (a)),rp 4 (bt1 (bnT h0)),rp 4 (bt true)]) func159
 ·by_cases h1:nIn_r0 b=false
  ·simp only [nDivide_r0,nDivide_r1,nDivide_r2,iN h0,iP h1]; exact pu mdL (fun e=>[cl (@nIn (a)),rp 2 (bf1 (bnF (bTF h0))),cl (@nIn (b)),rp 2 (bf1 (bnF (bTF h0))),rp 3 (bt1 (bnT h1)),bt true]) func159
  ·by_cases h2:b=0
   ·simp only [nDivide_r0,nDivide_r1,nDivide_r2,iN h0,iN h1,iP h2]; exact pu mdL (fun e=>[cl (@nIn (a)),rp 2 (bf1 (bnF (bTF h0))),cl (@nIn (b)),rp 2 (bf1 (bnF (bTF h0))),rp 3 (bf1 (bnF (bTF h1))),et1 h2]) func159
   ·by_cases h3:Int.tmod a b=0
    ·simp only [nDivide_r0,nDivide_r1,nDivide_r2,iN h0,iN h1,iN h2,iP h3]; exact pu mdL (fun e=>[cl (@nIn (a)),rp 2 (bf1 (bnF (bTF h0))),cl (@nIn (b)),rp 2 (bf1 (bnF (bTF h0))),rp 3 (bf1 (bnF (bTF h1))),en1 h2,rp 2 (kp),rp 2 (am1 h2),rp 6 (nn1 h3),bf false]) func159
    ·by_cases h4:(if false=true then decide (Int.tmod a b<0)==decide (b<0) else !decide (Int.tmod a b<0)==decide (b<0))=true
     ·simp only [nDivide_r0,nDivide_r1,nDivide_r2,iN h0,iN h1,iN h2,iN h3,iP h4]; exact pu mdL (fun e=>[cl (@nIn (a)),rp 2 (bf1 (bnF (bTF h0))),cl (@nIn (b)),rp 2 (bf1 (bnF (bTF h0))),rp 3 (bf1 (bnF (bTF h1))),en1 h2,rp 2 (kp),rp 2 (am1 h2),rp 6 (nt1 h3),bt1 h4,rp 2 (kp)]) func159
     ·simp only [nDivide_r0,nDivide_r1,nDivide_r2,iN h0,iN h1,iN h2,iN h3,iN h4]; exact pu mdL (fun e=>[cl (@nIn (a)),rp 2 (bf1 (bnF (bTF h0))),cl (@nIn (b)),rp 2 (bf1 (bnF (bTF h0))),rp 3 (bf1 (bnF (bTF h1))),en1 h2,rp 2 (kp),rp 2 (am1 h2),rp 6 (nt1 h3),bf1 (bFT h4)]) func159
theorem nDiv(a b:Int):Pu 142 ([pI a,pI b]) (.ret (.tup [pI (nDivide_r0 a b),.bool (nDivide_r2 a b)])):=
 pu mdL (fun e=>[cl (@nDivide (a) (b))]) func142
theorem nMod(a b:Int):Pu 143 ([pI a,pI b]) (.ret (.tup [pI (nDivide_r1 a b),.bool (nDivide_r2 a b)])):=
 pu mdL (fun e=>[cl (@nDivide (a) (b))]) func143
def rResult_r0(n:Int)(ok:Bool):Int:=(if ok=false then (0) else (if rIn_r0 n=false then (0) else (n)))
def rResult_r1(n:Int)(ok:Bool):Bool:=(if ok=false then (false) else (if rIn_r0 n=false then (false) else (true)))
theorem rResult(n:Int)(ok:Bool):Pu 135 ([pI n,.bool ok]) (.ret (.tup [pI (rResult_r0 n ok),.bool (rResult_r1 n ok)])):=by
 by_cases h0:ok=false
 ·simp only [rResult_r0,rResult_r1,iP h0]; exact pu mdL (fun e=>[rp 4 (bt1 (bnT h0)),bt true]) func135
 ·by_cases h1:rIn_r0 n=false
  ·simp only [rResult_r0,rResult_r1,iN h0,iP h1]; exact pu mdL (fun e=>[rp 2 (bf1 (bnF (bTF h0))),cl (@rIn (n)),rp 2 (bf1 (bnF (bTF h0))),bt1 (bnT h1)]) func135
  ·simp only [rResult_r0,rResult_r1,iN h0,iN h1]; exact pu mdL (fun e=>[rp 2 (bf1 (bnF (bTF h0))),cl (@rIn (n)),rp 2 (bf1 (bnF (bTF h0))),bf1 (bnF (bTF h1))]) func135
def rAdd_r0(a:Int)(b:Int):Int:=(if rIn_r0 a=true then (rResult_r0 (IntKind.wrap .i64 (a+b)) (rIn_r0 b)) else (0))
def rAdd_r1(a:Int)(b:Int):Bool:=(if rIn_r0 a=true then (rResult_r1 (IntKind.wrap .i64 (a+b)) (rIn_r0 b)) else (false))
theorem rAdd(a b:Int):Pu 131 ([pI a,pI b]) (.ret (.tup [pI (rAdd_r0 a b),.bool (rAdd_r1 a b)])):=by
 by_cases h0:rIn_r0 a=true
 ·simp only [rAdd_r0,rAdd_r1,iP h0]; exact pu mdL (fun e=>[cl (@rIn (a)),rp 2 (bt1 h0),cl (@rIn (b)),bt1 h0,kp,cl (@rResult (IntKind.wrap .i64 (a+b)) (rIn_r0 b))]) func131
 ·simp only [rAdd_r0,rAdd_r1,iN h0]; exact pu mdL (fun e=>[cl (@rIn (a)),rp 3 (bf1 (bFT h0)),kp,cl (@rResult (IntKind.wrap .i64 (a+b)) (false))]) func131
def rSub_r0(a:Int)(b:Int):Int:=(if rIn_r0 a=true then (rResult_r0 (IntKind.wrap .i64 (a - b)) (rIn_r0 b)) else (0))
def rSub_r1(a:Int)(b:Int):Bool:=(if rIn_r0 a=true then (rResult_r1 (IntKind.wrap .i64 (a - b)) (rIn_r0 b)) else (false))
theorem rSub(a b:Int):Pu 106 ([pI a,pI b]) (.ret (.tup [pI (rSub_r0 a b),.bool (rSub_r1 a b)])):=by
 by_cases h0:rIn_r0 a=true
 ·simp only [rSub_r0,rSub_r1,iP h0]; exact pu mdL (fun e=>[cl (@rIn (a)),rp 2 (bt1 h0),cl (@rIn (b)),bt1 h0,kp,cl (@rResult (IntKind.wrap .i64 (a - b)) (rIn_r0 b))]) func106
 ·simp only [rSub_r0,rSub_r1,iN h0]; exact pu mdL (fun e=>[cl (@rIn (a)),rp 3 (bf1 (bFT h0)),kp,cl (@rResult (IntKind.wrap .i64 (a - b)) (false))]) func106
section
variable (a b:Int) (hx0:rIn_r0 a=true) (hx1:rIn_r0 b=true) (hx2:¬a=0) (hx3:¬b=0)
include a b hx0 hx1 hx2 hx3
theorem rMul_5(hx4:a<0)(hx5:b<0)(hx6:IntKind.wrap .i64 (0 - a)>IntKind.wrap .i64 (Int.tdiv 1000000000000 (IntKind.wrap .i64 (0 - b)))):Pu 132 ([pI a,pI b]) (.ret (.tup [pI 0,.bool false])):=
 pu mdL (fun e=>[cl (@rIn (a)),rp 2 (bf1 (bnF hx0)),cl (@rIn (b)),rp 2 (bf1 (bnF hx0)),bf1 (bnF hx1),rp 3 (en1 hx2),en1 hx3,dt1 hx4,kp,dt1 hx5,rp 2 (kp),am (IntKind.wrap .i64 (0 - b)≠0) (by (apply wrap_neg_ne <;> first | assumption | omega | decide)),dt1 hx6]) func132
theorem rMul_6(hx4:a<0)(hx5:b<0)(hx6:¬IntKind.wrap .i64 (0 - a)>IntKind.wrap .i64 (Int.tdiv 1000000000000 (IntKind.wrap .i64 (0 - b)))):Pu 132 ([pI a,pI b]) (.ret (.tup [pI (IntKind.wrap .i64 (a * b)),.bool true])):=
 pu mdL (fun e=>[cl (@rIn (a)),rp 2 (bf1 (bnF hx0)),cl (@rIn (b)),rp 2 (bf1 (bnF hx0)),bf1 (bnF hx1),rp 3 (en1 hx2),en1 hx3,dt1 hx4,kp,dt1 hx5,rp 2 (kp),am (IntKind.wrap .i64 (0 - b)≠0) (by (apply wrap_neg_ne <;> first | assumption | omega | decide)),df1 hx6,kp]) func132
theorem rMul_9(hx4:¬a<0)(hx5:b<0)(hx6:a>IntKind.wrap .i64 (Int.tdiv 1000000000000 (IntKind.wrap .i64 (0 - b)))):Pu 132 ([pI a,pI b]) (.ret (.tup [pI 0,.bool false])):=
 pu mdL (fun e=>[cl (@rIn (a)),rp 2 (bf1 (bnF hx0)),cl (@rIn (b)),rp 2 (bf1 (bnF hx0)),bf1 (bnF hx1),rp 3 (en1 hx2),en1 hx3,df1 hx4,dt1 hx5,rp 2 (kp),am (IntKind.wrap .i64 (0 - b)≠0) (by (apply wrap_neg_ne <;> first | assumption | omega | decide)),dt1 hx6]) func132
theorem rMul_10(hx4:¬a<0)(hx5:b<0)(hx6:¬a>IntKind.wrap .i64 (Int.tdiv 1000000000000 (IntKind.wrap .i64 (0 - b)))):Pu 132 ([pI a,pI b]) (.ret (.tup [pI (IntKind.wrap .i64 (a * b)),.bool true])):=
 pu mdL (fun e=>[cl (@rIn (a)),rp 2 (bf1 (bnF hx0)),cl (@rIn (b)),rp 2 (bf1 (bnF hx0)),bf1 (bnF hx1),rp 3 (en1 hx2),en1 hx3,df1 hx4,dt1 hx5,rp 2 (kp),am (IntKind.wrap .i64 (0 - b)≠0) (by (apply wrap_neg_ne <;> first | assumption | omega | decide)),df1 hx6,kp]) func132
end
def rMul_r0(a:Int)(b:Int):Int:=(if rIn_r0 a=false then (0) else (if rIn_r0 b=false then (0) else (if a=0 then (0) else (if b=0 then (0) else (if a<0 then (if b<0 then (if IntKind.wrap .i64 (0 - a)>IntKind.wrap .i64 (Int.tdiv 1000000000000 (IntKind.wrap .i64 (0 - b))) then (0) else (IntKind.wrap .i64 (a * b))) else (if IntKind.wrap .i64 (0 - a)>IntKind.wrap .i64 (Int.tdiv 1000000000000 b) then (0) else (IntKind.wrap .i64 (a * b)))) else (if b<0 then (if a>IntKind.wrap .i64 (Int.tdiv 1000000000000 (IntKind.wrap .i64 (0 - b))) then (0) else (IntKind.wrap .i64 (a * b))) else (if a>IntKind.wrap .i64 (Int.tdiv 1000000000000 b) then (0) else (IntKind.wrap .i64 (a * b)))))))))
def rMul_r1(a:Int)(b:Int):Bool:=(if rIn_r0 a=false then (false) else (if rIn_r0 b=false then (false) else (if a=0 then (true) else (if b=0 then (true) else (if a<0 then (if b<0 then (if IntKind.wrap .i64 (0 - a)>IntKind.wrap .i64 (Int.tdiv 1000000000000 (IntKind.wrap .i64 (0 - b))) then (false) else (true)) else (if IntKind.wrap .i64 (0 - a)>IntKind.wrap .i64 (Int.tdiv 1000000000000 b) then (false) else (true))) else (if b<0 then (if a>IntKind.wrap .i64 (Int.tdiv 1000000000000 (IntKind.wrap .i64 (0 - b))) then (false) else (true)) else (if a>IntKind.wrap .i64 (Int.tdiv 1000000000000 b) then (false) else (true))))))))
theorem rMul(a b:Int):Pu 132 ([pI a,pI b]) (.ret (.tup [pI (rMul_r0 a b),.bool (rMul_r1 a b)])):=by
 by_cases h0:rIn_r0 a=false
 ·simp only [rMul_r0,rMul_r1,iP h0]; exact pu mdL (fun e=>[cl (@rIn (a)),rp 4 (bt1 (bnT h0)),bt true]) func132
 ·by_cases h1:rIn_r0 b=false
  ·simp only [rMul_r0,rMul_r1,iN h0,iP h1]; exact pu mdL (fun e=>[cl (@rIn (a)),rp 2 (bf1 (bnF (bTF h0))),cl (@rIn (b)),rp 2 (bf1 (bnF (bTF h0))),bt1 (bnT h1)]) func132
  ·by_cases h2:a=0
   ·simp only [rMul_r0,rMul_r1,iN h0,iN h1,iP h2]; exact pu mdL (fun e=>[cl (@rIn (a)),rp 2 (bf1 (bnF (bTF h0))),cl (@rIn (b)),rp 2 (bf1 (bnF (bTF h0))),bf1 (bnF (bTF h1)),rp 3 (et1 h2),bt true]) func132
   ·by_cases h3:b=0
    ·simp only [rMul_r0,rMul_r1,iN h0,iN h1,iN h2,iP h3]; exact pu mdL (fun e=>[cl (@rIn (a)),rp 2 (bf1 (bnF (bTF h0))),cl (@rIn (b)),rp 2 (bf1 (bnF (bTF h0))),bf1 (bnF (bTF h1)),rp 3 (en1 h2),et1 h3]) func132
    ·by_cases h4:a<0
     ·by_cases h5:b<0
      ·by_cases h6:IntKind.wrap .i64 (0 - a)>IntKind.wrap .i64 (Int.tdiv 1000000000000 (IntKind.wrap .i64 (0 - b)))
       ·simp only [rMul_r0,rMul_r1,iN h0,iN h1,iN h2,iN h3,iP h4,iP h5,iP h6]; exact rMul_5 a b (bTF h0) (bTF h1) h2 h3 h4 h5 h6
       ·simp only [rMul_r0,rMul_r1,iN h0,iN h1,iN h2,iN h3,iP h4,iP h5,iN h6]; exact rMul_6 a b (bTF h0) (bTF h1) h2 h3 h4 h5 h6
      ·by_cases h6:IntKind.wrap .i64 (0 - a)>IntKind.wrap .i64 (Int.tdiv 1000000000000 b)
       ·simp only [rMul_r0,rMul_r1,iN h0,iN h1,iN h2,iN h3,iP h4,iN h5,iP h6]; exact pu mdL (fun e=>[cl (@rIn (a)),rp 2 (bf1 (bnF (bTF h0))),cl (@rIn (b)),rp 2 (bf1 (bnF (bTF h0))),bf1 (bnF (bTF h1)),rp 3 (en1 h2),en1 h3,dt1 h4,kp,df1 h5,kp,am1 h3,dt1 h6]) func132
       ·simp only [rMul_r0,rMul_r1,iN h0,iN h1,iN h2,iN h3,iP h4,iN h5,iN h6]; exact pu mdL (fun e=>[cl (@rIn (a)),rp 2 (bf1 (bnF (bTF h0))),cl (@rIn (b)),rp 2 (bf1 (bnF (bTF h0))),bf1 (bnF (bTF h1)),rp 3 (en1 h2),en1 h3,dt1 h4,kp,df1 h5,kp,am1 h3,df1 h6,kp]) func132
     ·by_cases h5:b<0
      ·by_cases h6:a>IntKind.wrap .i64 (Int.tdiv 1000000000000 (IntKind.wrap .i64 (0 - b)))
       ·simp only [rMul_r0,rMul_r1,iN h0,iN h1,iN h2,iN h3,iN h4,iP h5,iP h6]; exact rMul_9 a b (bTF h0) (bTF h1) h2 h3 h4 h5 h6
       ·simp only [rMul_r0,rMul_r1,iN h0,iN h1,iN h2,iN h3,iN h4,iP h5,iN h6]; exact rMul_10 a b (bTF h0) (bTF h1) h2 h3 h4 h5 h6
      ·by_cases h6:a>IntKind.wrap .i64 (Int.tdiv 1000000000000 b)
       ·simp only [rMul_r0,rMul_r1,iN h0,iN h1,iN h2,iN h3,iN h4,iN h5,iP h6]; exact pu mdL (fun e=>[cl (@rIn (a)),rp 2 (bf1 (bnF (bTF h0))),cl (@rIn (b)),rp 2 (bf1 (bnF (bTF h0))),bf1 (bnF (bTF h1)),rp 3 (en1 h2),en1 h3,df1 h4,df1 h5,kp,am1 h3,dt1 h6]) func132
       ·simp only [rMul_r0,rMul_r1,iN h0,iN h1,iN h2,iN h3,iN h4,iN h5,iN h6]; exact pu mdL (fun e=>[cl (@rIn (a)),rp 2 (bf1 (bnF (bTF h0))),cl (@rIn (b)),rp 2 (bf1 (bnF (bTF h0))),bf1 (bnF (bTF h1)),rp 3 (en1 h2),en1 h3,df1 h4,df1 h5,kp,am1 h3,df1 h6,kp]) func132
def rDiv_r0(a:Int)(b:Int):Int:=(if rIn_r0 a=false then (0) else (if rIn_r0 b=false then (0) else (if b=0 then (0) else (if IntKind.wrap .i64 (IntKind.wrap .i64 (Int.tdiv a b) * b)=a then (IntKind.wrap .i64 (Int.tdiv a b)) else (if (if false=true then decide (a<0)==decide (b<0) else !decide (a<0)==decide (b<0))=true then (IntKind.wrap .i64 (IntKind.wrap .i64 (Int.tdiv a b) - 1)) else (IntKind.wrap .i64 (Int.tdiv a b)))))))
def rDiv_r1(a:Int)(b:Int):Bool:=(if rIn_r0 a=false then (false) else (if rIn_r0 b=false then (false) else (if b=0 then (false) else (if IntKind.wrap .i64 (IntKind.wrap .i64 (Int.tdiv a b) * b)=a then (true) else (if (if false=true then decide (a<0)==decide (b<0) else !decide (a<0)==decide (b<0))=true then (true) else (true))))))
theorem rDiv(a b:Int):Pu 133 ([pI a,pI b]) (.ret (.tup [pI (rDiv_r0 a b),.bool (rDiv_r1 a b)])):=by
 by_cases h0:rIn_r0 a=false
 ·simp only [rDiv_r0,rDiv_r1,iP h0]; exact pu mdL (fun e=>[cl (@rIn (a)),rp 4 (bt1 (bnT h0)),rp 4 (bt true)]) func133
 ·by_cases h1:rIn_r0 b=false
  ·simp only [rDiv_r0,rDiv_r1,iN h0,iP h1]; exact pu mdL (fun e=>[cl (@rIn (a)),rp 2 (bf1 (bnF (bTF h0))),cl (@rIn (b)),rp 2 (bf1 (bnF (bTF h0))),rp 3 (bt1 (bnT h1)),bt true]) func133
  ·by_cases h2:b=0
   ·simp only [rDiv_r0,rDiv_r1,iN h0,iN h1,iP h2]; exact pu mdL (fun e=>[cl (@rIn (a)),rp 2 (bf1 (bnF (bTF h0))),cl (@rIn (b)),rp 2 (bf1 (bnF (bTF h0))),rp 3 (bf1 (bnF (bTF h1))),et1 h2]) func133
   ·by_cases h3:IntKind.wrap .i64 (IntKind.wrap .i64 (Int.tdiv a b) * b)=a
    ·simp only [rDiv_r0,rDiv_r1,iN h0,iN h1,iN h2,iP h3]; exact pu mdL (fun e=>[cl (@rIn (a)),rp 2 (bf1 (bnF (bTF h0))),cl (@rIn (b)),rp 2 (bf1 (bnF (bTF h0))),rp 3 (bf1 (bnF (bTF h1))),en1 h2,rp 2 (kp),am1 h2,rp 6 (nn1 h3),bf false]) func133
    ·by_cases h4:(if false=true then decide (a<0)==decide (b<0) else !decide (a<0)==decide (b<0))=true
     ·simp only [rDiv_r0,rDiv_r1,iN h0,iN h1,iN h2,iN h3,iP h4]; exact pu mdL (fun e=>[cl (@rIn (a)),rp 2 (bf1 (bnF (bTF h0))),cl (@rIn (b)),rp 2 (bf1 (bnF (bTF h0))),rp 3 (bf1 (bnF (bTF h1))),en1 h2,rp 2 (kp),am1 h2,rp 6 (nt1 h3),bt1 h4,kp]) func133
     ·simp only [rDiv_r0,rDiv_r1,iN h0,iN h1,iN h2,iN h3,iN h4]; exact pu mdL (fun e=>[cl (@rIn (a)),rp 2 (bf1 (bnF (bTF h0))),cl (@rIn (b)),rp 2 (bf1 (bnF (bTF h0))),rp 3 (bf1 (bnF (bTF h1))),en1 h2,rp 2 (kp),am1 h2,rp 6 (nt1 h3),bf1 (bFT h4)]) func133
def rMod_r0(a:Int)(b:Int):Int:=(if rDiv_r1 a b=false then (0) else (IntKind.wrap .i64 (a - IntKind.wrap .i64 (b * rDiv_r0 a b))))
def rMod_r1(a:Int)(b:Int):Bool:=(if rDiv_r1 a b=false then (false) else (true))
theorem rMod(a b:Int):Pu 134 ([pI a,pI b]) (.ret (.tup [pI (rMod_r0 a b),.bool (rMod_r1 a b)])):=by
 by_cases h0:rDiv_r1 a b=false
 ·simp only [rMod_r0,rMod_r1,iP h0]; exact pu mdL (fun e=>[cl (@rDiv (a) (b)),bt1 (bnT h0)]) func134
 ·simp only [rMod_r0,rMod_r1,iN h0]; exact pu mdL (fun e=>[cl (@rDiv (a) (b)),bf1 (bnF (bTF h0)),rp 2 (kp)]) func134
inductive Pr where
 | mk (op:Int) (name:BA) (n:Int) (kids:List Pr)
inductive Tp where
 | mk (op:Int) (name:BA) (args:List Tp) (names:List BA) (pred:Pr) (preds:List Pr)
inductive Pm where
 | mk (name:BA) (type:Tp)
mutual
inductive Ex where
 | mk (op:Int) (name:BA) (n:Int) (kids:List Ex) (params:List Pm) (alts:List Al) (types:List Tp)
inductive Al where
 | mk (con:BA) (names:List BA) (body:Ex)
end
mutual
inductive Vl where
 | mk (op n:Int) (name:BA) (kids:List Vl) (params:List BA) (body:List Ex) (binds:List Bd)
inductive Bd where
 | mk (name:BA) (value:Vl)
end
inductive Df where
 | mk (name:BA) (params:List BA) (body:Ex) (mode:Int) (typed:Bool) (vars:List BA) (needs abs bounds:PV) (type:Tp) (metric:List Pr)
abbrev nm0:BA:=ByteArray.mk #[]
instance:Inhabited Pr:=⟨.mk 0 nm0 0 []⟩
instance:Inhabited Tp:=⟨.mk 0 nm0 [] [] default []⟩
instance:Inhabited Pm:=⟨.mk nm0 default⟩
instance:Inhabited Ex:=⟨.mk 0 nm0 0 [] [] [] []⟩
instance:Inhabited Al:=⟨.mk nm0 [] default⟩
instance:Inhabited Vl:=⟨.mk 0 0 nm0 [] [] [] []⟩
instance:Inhabited Bd:=⟨.mk nm0 default⟩
instance:Inhabited Df:=⟨.mk nm0 [] default 0 false [] (.sl 2 []) (.sl 2 []) (.sl 2 []) default []⟩
def prO:Pr->Int | .mk x _ _ _=>x
def prNm:Pr->BA | .mk _ x _ _=>x
def prN:Pr->Int | .mk _ _ x _=>x
def prK:Pr->List Pr | .mk _ _ _ x=>x
def tpO:Tp->Int | .mk x _ _ _ _ _=>x
def tpNm:Tp->BA | .mk _ x _ _ _ _=>x
def tpA:Tp->List Tp | .mk _ _ x _ _ _=>x
def tpNs:Tp->List BA | .mk _ _ _ x _ _=>x
def tpP:Tp->Pr | .mk _ _ _ _ x _=>x
def tpPs:Tp->List Pr | .mk _ _ _ _ _ x=>x
def pmNm:Pm->BA | .mk x _=>x
def pmT:Pm->Tp | .mk _ x=>x
def exO:Ex->Int | .mk x _ _ _ _ _ _=>x
def exNm:Ex->BA | .mk _ x _ _ _ _ _=>x
def exN:Ex->Int | .mk _ _ x _ _ _ _=>x
def exK:Ex->List Ex | .mk _ _ _ x _ _ _=>x
def exP:Ex->List Pm | .mk _ _ _ _ x _ _=>x
def exA:Ex->List Al | .mk _ _ _ _ _ x _=>x
def exT:Ex->List Tp | .mk _ _ _ _ _ _ x=>x
def alC:Al->BA | .mk x _ _=>x
def alNs:Al->List BA | .mk _ x _=>x
def alB:Al->Ex | .mk _ _ x=>x
def vlO:Vl->Int | .mk x _ _ _ _ _ _=>x
def vlN:Vl->Int | .mk _ x _ _ _ _ _=>x
def vlNm:Vl->BA | .mk _ _ x _ _ _ _=>x
def vlK:Vl->List Vl | .mk _ _ _ x _ _ _=>x
def vlP:Vl->List BA | .mk _ _ _ _ x _ _=>x
def vlB:Vl->List Ex | .mk _ _ _ _ _ x _=>x
def vlBd:Vl->List Bd | .mk _ _ _ _ _ _ x=>x
def bdNm:Bd->BA | .mk x _=>x
def bdV:Bd->Vl | .mk _ x=>x
def dfNm:Df->BA | .mk x _ _ _ _ _ _ _ _ _ _=>x
def dfP:Df->List BA | .mk _ x _ _ _ _ _ _ _ _ _=>x
def dfB:Df->Ex | .mk _ _ x _ _ _ _ _ _ _ _=>x
def dfM:Df->Int | .mk _ _ _ x _ _ _ _ _ _ _=>x
def dfTy:Df->Bool | .mk _ _ _ _ x _ _ _ _ _ _=>x
def dfVs:Df->List BA | .mk _ _ _ _ _ x _ _ _ _ _=>x
def dfNe:Df->PV | .mk _ _ _ _ _ _ x _ _ _ _=>x
def dfAb:Df->PV | .mk _ _ _ _ _ _ _ x _ _ _=>x
def dfBo:Df->PV | .mk _ _ _ _ _ _ _ _ x _ _=>x
def dfT:Df->Tp | .mk _ _ _ _ _ _ _ _ _ x _=>x
def dfMe:Df->List Pr | .mk _ _ _ _ _ _ _ _ _ _ x=>x
def nmsC:List BA->List (List PV)
 | []=>[]
 | s::r=>[.str s]::nmsC r
mutual
def Pr.c:Pr->List PV
 | .mk op name n kids=>[.int .i64 op,.str name,.int .i64 n,.sl 4 (Pr.cs kids)]
def Pr.cs:List Pr->List (List PV)
 | []=>[]
 | x::r=>Pr.c x::Pr.cs r
end
abbrev prL(x:Pr):List PV:=[.int .i64 (prO x),.str (prNm x),.int .i64 (prN x),.sl 4 (Pr.cs (prK x))]
mutual
def Tp.c:Tp->List PV
 | .mk op name args names pred preds=>[.int .i64 op,.str name,.sl 9 (Tp.cs args),.sl 1 (nmsC names),.int .i64 (prO pred),.str (prNm pred),.int .i64 (prN pred),.sl 4 (Pr.cs (prK pred)),.sl 4 (Pr.cs preds)]
def Tp.cs:List Tp->List (List PV)
 | []=>[]
 | x::r=>Tp.c x::Tp.cs r
end
abbrev tpL(x:Tp):List PV:=[.int .i64 (tpO x),.str (tpNm x),.sl 9 (Tp.cs (tpA x)),.sl 1 (nmsC (tpNs x)),.int .i64 (prO (tpP x)),.str (prNm (tpP x)),.int .i64 (prN (tpP x)),.sl 4 (Pr.cs (prK (tpP x))),.sl 4 (Pr.cs (tpPs x))]
abbrev pmL(p:Pm):List PV := .str (pmNm p)::tpL (pmT p)
def pmsC:List Pm->List (List PV)
 | []=>[]
 | x::r=>pmL x::pmsC r
mutual
def Ex.c:Ex->List PV
 | .mk op name n kids params alts types=>[.int .i64 op,.str name,.int .i64 n,.sl 7 (Ex.cs kids),.sl 10 (pmsC params),.sl 9 (Al.cs alts),.sl 9 (Tp.cs types)]
def Ex.cs:List Ex->List (List PV)
 | []=>[]
 | x::r=>Ex.c x::Ex.cs r
def Al.c:Al->List PV
 | .mk con names body => .str con :: .sl 1 (nmsC names)::Ex.c body
def Al.cs:List Al->List (List PV)
 | []=>[]
 | x::r=>Al.c x::Al.cs r
end
abbrev exL(x:Ex):List PV:=[.int .i64 (exO x),.str (exNm x),.int .i64 (exN x),.sl 7 (Ex.cs (exK x)),.sl 10 (pmsC (exP x)),.sl 9 (Al.cs (exA x)),.sl 9 (Tp.cs (exT x))]
abbrev alL(x:Al):List PV := .str (alC x) :: .sl 1 (nmsC (alNs x))::exL (alB x)
mutual
def Vl.c:Vl->List PV
 | .mk op n name kids params body binds=>[.int .i64 op,.int .i64 n,.str name,.sl 7 (Vl.cs kids),.sl 1 (nmsC params),.sl 7 (Ex.cs body),.sl 8 (Bd.cs binds)]
def Vl.cs:List Vl->List (List PV)
 | []=>[]
 | x::r=>Vl.c x::Vl.cs r
def Bd.c:Bd->List PV
 | .mk name value => .str name::Vl.c value
def Bd.cs:List Bd->List (List PV)
 | []=>[]
 | x::r=>Bd.c x::Bd.cs r
end
abbrev vlL(x:Vl):List PV:=[.int .i64 (vlO x),.int .i64 (vlN x),.str (vlNm x),.sl 7 (Vl.cs (vlK x)),.sl 1 (nmsC (vlP x)),.sl 7 (Ex.cs (vlB x)),.sl 8 (Bd.cs (vlBd x))]
abbrev bdL(x:Bd):List PV := .str (bdNm x)::vlL (bdV x)
abbrev dfL(d:Df):List PV := .str (dfNm d) :: .sl 1 (nmsC (dfP d))::(exL (dfB d) ++ .int .i64 (dfM d) :: .bool (dfTy d) :: .sl 1 (nmsC (dfVs d))::dfNe d::dfAb d::dfBo d::(tpL (dfT d)++[.sl 4 (Pr.cs (dfMe d))]))
def dfsC:List Df->List (List PV)
 | []=>[]
 | x::r=>dfL x::dfsC r
theorem Pr.c_eq(x:Pr):Pr.c x=prL x:=by cases x; rfl
theorem Tp.c_eq(x:Tp):Tp.c x=tpL x:=by cases x; rfl
theorem Ex.c_eq(x:Ex):Ex.c x=exL x:=by cases x; rfl
theorem Al.c_eq(x:Al):Al.c x=alL x:=by cases x; simp only [Al.c,alL,alC,alNs,alB,Ex.c_eq]
theorem Vl.c_eq(x:Vl):Vl.c x=vlL x:=by cases x; rfl
theorem Bd.c_eq(x:Bd):Bd.c x=bdL x:=by cases x; simp only [Bd.c,bdL,bdNm,bdV,Vl.c_eq]
theorem nmsC_eq(l:List BA):nmsC l=l.map (fun s=>[.str s]):=by induction l with | nil=>rfl | cons x r ih=>simp [nmsC,ih]
theorem nmsC_len(l:List BA):(nmsC l).length=l.length:=by simp [nmsC_eq]
theorem nmsC_at{l:List BA}{i:Nat}(h:i<l.length):(nmsC l).getD i []=[.str (l.getD i nm0)]:=by rw [nmsC_eq]; simp [List.getD,h]
theorem nmsC_app(a b:List BA):nmsC (a++b)=nmsC a++nmsC b:=by simp [nmsC_eq]
theorem Pr.cs_eq(l:List Pr):Pr.cs l=l.map (prL):=by induction l with | nil=>rfl | cons x r ih=>simp [Pr.cs,ih,Pr.c_eq]
theorem Pr.cs_len(l:List Pr):(Pr.cs l).length=l.length:=by simp [Pr.cs_eq]
theorem Pr.cs_at{l:List Pr}{i:Nat}(h:i<l.length):(Pr.cs l).getD i []=prL (l.getD i default):=by rw [Pr.cs_eq]; simp [List.getD,h]
theorem Tp.cs_eq(l:List Tp):Tp.cs l=l.map (tpL):=by induction l with | nil=>rfl | cons x r ih=>simp [Tp.cs,ih,Tp.c_eq]
theorem Tp.cs_len(l:List Tp):(Tp.cs l).length=l.length:=by simp [Tp.cs_eq]
theorem Tp.cs_at{l:List Tp}{i:Nat}(h:i<l.length):(Tp.cs l).getD i []=tpL (l.getD i default):=by rw [Tp.cs_eq]; simp [List.getD,h]
theorem pmsC_eq(l:List Pm):pmsC l=l.map (pmL):=by induction l with | nil=>rfl | cons x r ih=>simp [pmsC,ih]
theorem pmsC_len(l:List Pm):(pmsC l).length=l.length:=by simp [pmsC_eq]
theorem pmsC_at{l:List Pm}{i:Nat}(h:i<l.length):(pmsC l).getD i []=pmL (l.getD i default):=by rw [pmsC_eq]; simp [List.getD,h]
theorem Ex.cs_eq(l:List Ex):Ex.cs l=l.map (exL):=by induction l with | nil=>rfl | cons x r ih=>simp [Ex.cs,ih,Ex.c_eq]
theorem Ex.cs_len(l:List Ex):(Ex.cs l).length=l.length:=by simp [Ex.cs_eq]
theorem Ex.cs_at{l:List Ex}{i:Nat}(h:i<l.length):(Ex.cs l).getD i []=exL (l.getD i default):=by rw [Ex.cs_eq]; simp [List.getD,h]
theorem Al.cs_eq(l:List Al):Al.cs l=l.map (alL):=by induction l with | nil=>rfl | cons x r ih=>simp [Al.cs,ih,Al.c_eq]
theorem Al.cs_len(l:List Al):(Al.cs l).length=l.length:=by simp [Al.cs_eq]
theorem Al.cs_at{l:List Al}{i:Nat}(h:i<l.length):(Al.cs l).getD i []=alL (l.getD i default):=by rw [Al.cs_eq]; simp [List.getD,h]
theorem Vl.cs_eq(l:List Vl):Vl.cs l=l.map (vlL):=by induction l with | nil=>rfl | cons x r ih=>simp [Vl.cs,ih,Vl.c_eq]
theorem Vl.cs_len(l:List Vl):(Vl.cs l).length=l.length:=by simp [Vl.cs_eq]
theorem Vl.cs_at{l:List Vl}{i:Nat}(h:i<l.length):(Vl.cs l).getD i []=vlL (l.getD i default):=by rw [Vl.cs_eq]; simp [List.getD,h]
theorem Vl.cs_app(a b:List Vl):Vl.cs (a++b)=Vl.cs a++Vl.cs b:=by simp [Vl.cs_eq]
theorem Bd.cs_eq(l:List Bd):Bd.cs l=l.map (bdL):=by induction l with | nil=>rfl | cons x r ih=>simp [Bd.cs,ih,Bd.c_eq]
theorem Bd.cs_len(l:List Bd):(Bd.cs l).length=l.length:=by simp [Bd.cs_eq]
theorem Bd.cs_at{l:List Bd}{i:Nat}(h:i<l.length):(Bd.cs l).getD i []=bdL (l.getD i default):=by rw [Bd.cs_eq]; simp [List.getD,h]
theorem dfsC_eq(l:List Df):dfsC l=l.map (dfL):=by induction l with | nil=>rfl | cons x r ih=>simp [dfsC,ih]
theorem dfsC_len(l:List Df):(dfsC l).length=l.length:=by simp [dfsC_eq]
theorem qZ {p:Prop}(h:p:=by (simp only [List.length_append,List.length_cons,List.length_nil,Ex.cs_len,Vl.cs_len,Bd.cs_len,Al.cs_len,nmsC_len,dfsC_len,pmsC_len,Pr.cs_len]; omega)):p:=h
abbrev kid(x:Ex)(i:Nat):Ex:=(exK x).getD i default
abbrev xc(op:Int)(s:BA)(n:Int)(k:List Ex)(p:List Pm)(a:List Al)(t:List Tp):List PV:=[pI op,.str s,pI n,.sl 7 (Ex.cs k),.sl 10 (pmsC p),.sl 9 (Al.cs a),.sl 9 (Tp.cs t)]
theorem eX {P:Int->Int->BA->List Ex->List Pm->List Al->List Tp->Prop}(h:∀a b c d e f g,P a b c d e f g)(x:Ex):P (exO x) (exN x) (exNm x) (exK x) (exP x) (exA x) (exT x):=h _ _ _ _ _ _ _
theorem dfsC_at{l:List Df}{i:Nat}(h:i<l.length):(dfsC l).getD i []=dfL (l.getD i default):=by rw [dfsC_eq]; simp [List.getD,h]
theorem dfsC_app(a b:List Df):dfsC (a++b)=dfsC a++dfsC b:=by simp [dfsC_eq]
abbrev exV(x:Ex):List LV:=[.v (.int .i64 (exO x)),.v (.str (exNm x)),.v (.int .i64 (exN x)),.v (.sl 7 (Ex.cs (exK x))),.v (.sl 10 (pmsC (exP x))),.v (.sl 9 (Al.cs (exA x))),.v (.sl 9 (Tp.cs (exT x)))]
abbrev vlV(x:Vl):List LV:=[.v (.int .i64 (vlO x)),.v (.int .i64 (vlN x)),.v (.str (vlNm x)),.v (.sl 7 (Vl.cs (vlK x))),.v (.sl 1 (nmsC (vlP x))),.v (.sl 7 (Ex.cs (vlB x))),.v (.sl 8 (Bd.cs (vlBd x)))]
abbrev dfV(d:Df):List LV := .v (.str (dfNm d)) :: .v (.sl 1 (nmsC (dfP d)))::(exV (dfB d) ++ .v (.int .i64 (dfM d)) :: .v (.bool (dfTy d)) :: .v (.sl 1 (nmsC (dfVs d))) :: .v (dfNe d) :: .v (dfAb d) :: .v (dfBo d) :: .v (.int .i64 (tpO (dfT d))) :: .v (.str (tpNm (dfT d))) :: .v (.sl 9 (Tp.cs (tpA (dfT d)))) :: .v (.sl 1 (nmsC (tpNs (dfT d)))) :: .v (.int .i64 (prO (tpP (dfT d)))) :: .v (.str (prNm (tpP (dfT d)))) :: .v (.int .i64 (prN (tpP (dfT d)))) :: .v (.sl 4 (Pr.cs (prK (tpP (dfT d))))) :: .v (.sl 4 (Pr.cs (tpPs (dfT d))))::[.v (.sl 4 (Pr.cs (dfMe d)))])
abbrev alV(x:Al):List LV := .v (.str (alC x)) :: .v (.sl 1 (nmsC (alNs x)))::exV (alB x)
abbrev jk7:List LV:=[jk,jk,jk,jk,jk,jk,jk]
theorem nmsC_snoc(l:List BA)(x:BA):nmsC (l++[x])=nmsC l++[[.str x]]:=by simp [nmsC_eq]
theorem Ex.cs_snoc(l:List Ex)(x:Ex):Ex.cs (l++[x])=Ex.cs l++[exL x]:=by simp [Ex.cs_eq]
theorem Vl.cs_snoc(l:List Vl)(x:Vl):Vl.cs (l++[x])=Vl.cs l++[vlL x]:=by simp [Vl.cs_eq]
theorem Bd.cs_snoc(l:List Bd)(x:Bd):Bd.cs (l++[x])=Bd.cs l++[bdL x]:=by simp [Bd.cs_eq]
theorem Bd.cs_snoc2(l:List Bd)(n:BA)(v:Vl):Bd.cs (l++[Bd.mk n v])=Bd.cs l++[.str n::vlL v]:=by simp [Bd.cs_eq,bdNm,bdV]
theorem drop_at{α:Type} [Inhabited α] {l:List α} {i:Nat} (h:i<l.length):l.drop i=l.getD i default::l.drop (i+1):=by
 rw [List.drop_eq_getElem_cons h]
 simp [List.getD,h]
theorem drop_at0{l:List BA}{i:Nat}(h:i<l.length):l.drop i=l.getD i nm0::l.drop (i+1):=by
 rw [List.drop_eq_getElem_cons h]
 simp [List.getD,h]
theorem take_rev_at{α:Type} [Inhabited α] {l:List α} {i:Nat} (h:i<l.length):(l.take (i+1)).reverse=l.getD i default::(l.take i).reverse:=by
 rw [List.take_succ_eq_append_getElem h,List.reverse_append]
 simp [List.getD,h]
section
variable {P:Program}
def xNm(l:List BA)(i:Nat)(h:i<l.length:=by omega):Stp P:=ar ((nmsC l).getD i []) [.str (l.getD i nm0)] (by rw [nmsC_at h])
def xEx(l:List Ex)(i:Nat)(h:i<l.length:=by omega):Stp P:=ar ((Ex.cs l).getD i []) (exL (l.getD i default)) (by rw [Ex.cs_at h])
def xVl(l:List Vl)(i:Nat)(h:i<l.length:=by omega):Stp P:=ar ((Vl.cs l).getD i []) (vlL (l.getD i default)) (by rw [Vl.cs_at h])
def xAl(l:List Al)(i:Nat)(h:i<l.length:=by omega):Stp P:=ar ((Al.cs l).getD i []) (alL (l.getD i default)) (by rw [Al.cs_at h])
def xBd(l:List Bd)(i:Nat)(h:i<l.length:=by omega):Stp P:=ar ((Bd.cs l).getD i []) (bdL (l.getD i default)) (by rw [Bd.cs_at h])
def xPm(l:List Pm)(i:Nat)(h:i<l.length:=by omega):Stp P:=ar ((pmsC l).getD i []) (pmL (l.getD i default)) (by rw [pmsC_at h])
def xTp(l:List Tp)(i:Nat)(h:i<l.length:=by omega):Stp P:=ar ((Tp.cs l).getD i []) (tpL (l.getD i default)) (by rw [Tp.cs_at h])
def xDf(l:List Df)(i:Nat)(h:i<l.length:=by omega):Stp P:=ar ((dfsC l).getD i []) (dfL (l.getD i default)) (by rw [dfsC_at h])
def xPr(l:List Pr)(i:Nat)(h:i<l.length:=by omega):Stp P:=ar ((Pr.cs l).getD i []) (prL (l.getD i default)) (by rw [Pr.cs_at h])
end
abbrev vA(op n:Int)(c2 c3 c4 c5 c6:PV):PV := .agg [.int .i64 op,.int .i64 n,c2,c3,c4,c5,c6]
theorem eFail(k:Int):Pu 78 [pI k] (.panic (.iface 146 (.agg [pI k]))):=
 pm mdL [] func78
theorem eNeed_1(b:Bool)(hx0:b=false):Pu 46 [.bool b] (.panic (.iface 146 (.agg [pI 19]))):=
 pm mdL [bt1 (bnT hx0),cl (@eFail (19))] func46
theorem eNeed_2(b:Bool)(hx0:b=true):Pu 46 [.bool b] (.ret (.tup [])):=
 pm mdL [bf1 (bnF hx0)] func46
def eInteger_s(n:Int)(ok:Bool):Bool:=(if ok=false then false else (if nIn_r0 n=false then false else true))
theorem eInteger_t(n:Int)(ok:Bool)(hs:eInteger_s n ok=true):Pu 110 [pI n,.bool ok] (rA (v4 1 n nm0 [])):=by
 by_cases h0:ok=false
 ·exact absurd hs (by unfold eInteger_s; rw [iP h0]; decide)
 ·by_cases h1:nIn_r0 n=false
  ·exact absurd hs (by unfold eInteger_s; rw [iN h0,iP h1]; decide)
  ·exact Ob.pur_wk (Wk.a (kr (kr (kr (kn 7 (kn 1 (kn 7 (kn 8 (WkL.r _))))))))) (pm mdL [rp 2 (bf1 (bnF (bTF h0))),cl (@nIn (n)),rp 2 (bf1 (bnF (bTF h0))),bf1 (bnF (bTF h1))] func110)
theorem eInteger_f(n:Int)(ok:Bool)(hs:eInteger_s n ok=false):Pu 110 [pI n,.bool ok] (.panic (.iface 146 (.agg [pI 25]))):=by
 by_cases h0:ok=false
 ·exact pm mdL [rp 4 (bt1 (bnT h0)),bt true,cl (@eFail (25))] func110
 ·by_cases h1:nIn_r0 n=false
  ·exact pm mdL [rp 2 (bf1 (bnF (bTF h0))),cl (@nIn (n)),rp 2 (bf1 (bnF (bTF h0))),bt1 (bnT h1),cl (@eFail (25))] func110
  ·exact absurd hs (by unfold eInteger_s; rw [iN h0,iN h1]; decide)
def eTruth_r0(b:Bool):Int:=(if b=true then 1 else 0)
theorem eTruth(b:Bool):Pu 111 [.bool b] (rA (v4 2 (eTruth_r0 b) nm0 [])):=by
 by_cases h0:b=true
 ·simp only [eTruth_r0,iP h0]; exact Ob.pur_wk (Wk.a (kr (kr (kr (kn 7 (kn 1 (kn 7 (kn 8 (WkL.r _))))))))) (pm mdL [bt1 h0] func111)
 ·simp only [eTruth_r0,iN h0]; exact Ob.pur_wk (Wk.a (kr (kr (kr (kn 7 (kn 1 (kn 7 (kn 8 (WkL.r _))))))))) (pm mdL [bf1 (bFT h0)] func111)
def eBoth_r0(k:Int)(o1:Int)(o2:Int):Bool:=(if o1=k then (o2==k) else false)
theorem eBoth(k o1 n1 o2 n2:Int)(a2 a3 a4 a5 a6 b2 b3 b4 b5 b6:PV):Pu 139 [pI k,vA o1 n1 a2 a3 a4 a5 a6,vA o2 n2 b2 b3 b4 b5 b6] (rB (eBoth_r0 k o1 o2)):=by
 by_cases h0:o1=k
 ·simp only [eBoth_r0,iP h0]; exact pm mdL [rp 5 (et1 h0)] func139
 ·simp only [eBoth_r0,iN h0]; exact pm mdL [rp 5 (en1 h0)] func139
def eRight_r0(op:Int)(kids:List Ex):Bool:=(if op=1 then ((kids.length:Int)==0) else (if op=2 then ((kids.length:Int)==0) else (if op=3 then ((kids.length:Int)==0) else (if op=4 then true else (if op=5 then (decide ((kids.length:Int)>=1)) else (if op=25 then (decide ((kids.length:Int)>=1)) else (if op=6 then ((kids.length:Int)==1) else (if op=9 then ((kids.length:Int)==1) else (if op=15 then ((kids.length:Int)==1) else (if op=21 then ((kids.length:Int)==1) else (if op=22 then ((kids.length:Int)==1) else (if op=23 then ((kids.length:Int)==1) else (if op=26 then ((kids.length:Int)==1) else (if op=8 then ((kids.length:Int)==3) else (if op>=1 then (if op<=26 then ((kids.length:Int)==2) else false) else false)))))))))))))))
theorem eRight(op n:Int)(name:BA)(kids:List Ex)(params:List Pm)(alts:List Al)(types:List Tp):Pu 109 [.agg (xc op name n kids params alts types)] (rB (eRight_r0 op kids)):=by
 by_cases h0:op=1
 ·simp only [eRight_r0,iP h0]; exact pm mdL [sl (Ex.cs_len kids),rp 2 (et1 h0)] func109
 ·by_cases h1:op=2
  ·simp only [eRight_r0,iN h0,iP h1]; exact pm mdL [sl (Ex.cs_len kids),en1 h0,rp 2 (et1 h1)] func109
  ·by_cases h2:op=3
   ·simp only [eRight_r0,iN h0,iN h1,iP h2]; exact pm mdL [sl (Ex.cs_len kids),en1 h0,en1 h1,et1 h2] func109
   ·by_cases h3:op=4
    ·simp only [eRight_r0,iN h0,iN h1,iN h2,iP h3]; exact pm mdL [sl (Ex.cs_len kids),en1 h0,en1 h1,en1 h2,et1 h3] func109
    ·by_cases h4:op=5
     ·simp only [eRight_r0,iN h0,iN h1,iN h2,iN h3,iP h4]; exact pm mdL [sl (Ex.cs_len kids),en1 h0,en1 h1,en1 h2,en1 h3,rp 2 (et1 h4)] func109
     ·by_cases h5:op=25
      ·simp only [eRight_r0,iN h0,iN h1,iN h2,iN h3,iN h4,iP h5]; exact pm mdL [sl (Ex.cs_len kids),en1 h0,en1 h1,en1 h2,en1 h3,en1 h4,et1 h5] func109
      ·by_cases h6:op=6
       ·simp only [eRight_r0,iN h0,iN h1,iN h2,iN h3,iN h4,iN h5,iP h6]; exact pm mdL [sl (Ex.cs_len kids),en1 h0,en1 h1,en1 h2,en1 h3,en1 h4,en1 h5,rp 2 (et1 h6)] func109
       ·by_cases h7:op=9
        ·simp only [eRight_r0,iN h0,iN h1,iN h2,iN h3,iN h4,iN h5,iN h6,iP h7]; exact pm mdL [sl (Ex.cs_len kids),en1 h0,en1 h1,en1 h2,en1 h3,en1 h4,en1 h5,en1 h6,rp 2 (et1 h7)] func109
        ·by_cases h8:op=15
         ·simp only [eRight_r0,iN h0,iN h1,iN h2,iN h3,iN h4,iN h5,iN h6,iN h7,iP h8]; exact pm mdL [sl (Ex.cs_len kids),en1 h0,en1 h1,en1 h2,en1 h3,en1 h4,en1 h5,en1 h6,en1 h7,rp 2 (et1 h8)] func109
         ·by_cases h9:op=21
          ·simp only [eRight_r0,iN h0,iN h1,iN h2,iN h3,iN h4,iN h5,iN h6,iN h7,iN h8,iP h9]; exact pm mdL [sl (Ex.cs_len kids),en1 h0,en1 h1,en1 h2,en1 h3,en1 h4,en1 h5,en1 h6,en1 h7,en1 h8,rp 2 (et1 h9)] func109
          ·by_cases h10:op=22
           ·simp only [eRight_r0,iN h0,iN h1,iN h2,iN h3,iN h4,iN h5,iN h6,iN h7,iN h8,iN h9,iP h10]; exact pm mdL [sl (Ex.cs_len kids),en1 h0,en1 h1,en1 h2,en1 h3,en1 h4,en1 h5,en1 h6,en1 h7,en1 h8,en1 h9,rp 2 (et1 h10)] func109
           ·by_cases h11:op=23
            ·simp only [eRight_r0,iN h0,iN h1,iN h2,iN h3,iN h4,iN h5,iN h6,iN h7,iN h8,iN h9,iN h10,iP h11]; exact pm mdL [sl (Ex.cs_len kids),en1 h0,en1 h1,en1 h2,en1 h3,en1 h4,en1 h5,en1 h6,en1 h7,en1 h8,en1 h9,en1 h10,rp 2 (et1 h11)] func109
            ·by_cases h12:op=26
             ·simp only [eRight_r0,iN h0,iN h1,iN h2,iN h3,iN h4,iN h5,iN h6,iN h7,iN h8,iN h9,iN h10,iN h11,iP h12]; exact pm mdL [sl (Ex.cs_len kids),en1 h0,en1 h1,en1 h2,en1 h3,en1 h4,en1 h5,en1 h6,en1 h7,en1 h8,en1 h9,en1 h10,en1 h11,et1 h12] func109
             ·by_cases h13:op=8
              ·simp only [eRight_r0,iN h0,iN h1,iN h2,iN h3,iN h4,iN h5,iN h6,iN h7,iN h8,iN h9,iN h10,iN h11,iN h12,iP h13]; exact pm mdL [sl (Ex.cs_len kids),en1 h0,en1 h1,en1 h2,en1 h3,en1 h4,en1 h5,en1 h6,en1 h7,en1 h8,en1 h9,en1 h10,en1 h11,en1 h12,et1 h13] func109
              ·by_cases h14:op>=1
               ·by_cases h15:op<=26
                ·simp only [eRight_r0,iN h0,iN h1,iN h2,iN h3,iN h4,iN h5,iN h6,iN h7,iN h8,iN h9,iN h10,iN h11,iN h12,iN h13,iP h14,iP h15]; exact pm mdL [sl (Ex.cs_len kids),en1 h0,en1 h1,en1 h2,en1 h3,en1 h4,en1 h5,en1 h6,en1 h7,en1 h8,en1 h9,en1 h10,en1 h11,en1 h12,en1 h13,rp 4 (dt1 h14),rp 3 (dt1 h15)] func109
                ·simp only [eRight_r0,iN h0,iN h1,iN h2,iN h3,iN h4,iN h5,iN h6,iN h7,iN h8,iN h9,iN h10,iN h11,iN h12,iN h13,iP h14,iN h15]; exact pm mdL [sl (Ex.cs_len kids),en1 h0,en1 h1,en1 h2,en1 h3,en1 h4,en1 h5,en1 h6,en1 h7,en1 h8,en1 h9,en1 h10,en1 h11,en1 h12,en1 h13,rp 4 (dt1 h14),rp 3 (df1 h15)] func109
               ·simp only [eRight_r0,iN h0,iN h1,iN h2,iN h3,iN h4,iN h5,iN h6,iN h7,iN h8,iN h9,iN h10,iN h11,iN h12,iN h13,iN h14]; exact pm mdL [sl (Ex.cs_len kids),en1 h0,en1 h1,en1 h2,en1 h3,en1 h4,en1 h5,en1 h6,en1 h7,en1 h8,en1 h9,en1 h10,en1 h11,en1 h12,en1 h13,rp 4 (df1 h14),rp 3 (bf false)] func109
def eOne_s(op:Int)(o1:Int)(n1:Int):Bool:=(if op=15 then (if o1=1 then (if eInteger_s (nSub_r0 0 n1) (nSub_r1 0 n1)=true then true else false) else false) else (if op=21 then (if o1=2 then true else false) else (if op=22 then (if o1=1 then true else false) else (if o1=4 then true else false))))
def eOne_t_r0(op:Int)(o1:Int)(n1:Int):Int:=(if op=15 then (if o1=1 then (if eInteger_s (nSub_r0 0 n1) (nSub_r1 0 n1)=true then 1 else 0) else 0) else (if op=21 then (if o1=2 then 2 else 0) else (if op=22 then (if o1=1 then 4 else 0) else (if o1=4 then 1 else 0))))
def eOne_t_r1(op:Int)(o1:Int)(n1:Int):Int:=(if op=15 then (if o1=1 then (if eInteger_s (nSub_r0 0 n1) (nSub_r1 0 n1)=true then (nSub_r0 0 n1) else 0) else 0) else (if op=21 then (if o1=2 then (eTruth_r0 (n1==0)) else 0) else (if op=22 then (if o1=1 then n1 else 0) else (if o1=4 then n1 else 0))))
theorem eOne_t(op o1 n1:Int)(a2 a3 a4 a5 a6:PV)(hs:eOne_s op o1 n1=true):Pu 118 [pI op,vA o1 n1 a2 a3 a4 a5 a6] (rA (v4 (eOne_t_r0 op o1 n1) (eOne_t_r1 op o1 n1) nm0 [])):=by
 by_cases h0:op=15
 ·by_cases h1:o1=1
  ·by_cases h2:eInteger_s (nSub_r0 0 n1) (nSub_r1 0 n1)=true
   ·simp only [eOne_t_r0,eOne_t_r1,iP h0,iP h1,iP h2]; exact pm mdL [et1 h0,cl (@eNeed_2 (o1==1) (beT h1)),cl (@nSub (0) (n1)),cl (@eInteger_t (nSub_r0 0 n1) (nSub_r1 0 n1) h2)] func118
   ·exact absurd hs (by unfold eOne_s; rw [iP h0,iP h1,iN h2]; decide)
  ·exact absurd hs (by unfold eOne_s; rw [iP h0,iN h1]; decide)
 ·by_cases h1:op=21
  ·by_cases h2:o1=2
   ·simp only [eOne_t_r0,eOne_t_r1,iN h0,iP h1,iP h2]; exact pm mdL [en1 h0,et1 h1,cl (@eNeed_2 (o1==2) (beT h2)),cl (@eTruth (n1==0))] func118
   ·exact absurd hs (by unfold eOne_s; rw [iN h0,iP h1,iN h2]; decide)
  ·by_cases h2:op=22
   ·by_cases h3:o1=1
    ·simp only [eOne_t_r0,eOne_t_r1,iN h0,iN h1,iP h2,iP h3]; exact Ob.pur_wk (Wk.a (kr (kr (kr (kn 7 (kn 1 (kn 7 (kn 8 (WkL.r _))))))))) (pm mdL [en1 h0,en1 h1,et1 h2,cl (@eNeed_2 (o1==1) (beT h3))] func118)
    ·exact absurd hs (by unfold eOne_s; rw [iN h0,iN h1,iP h2,iN h3]; decide)
   ·by_cases h3:o1=4
    ·simp only [eOne_t_r0,eOne_t_r1,iN h0,iN h1,iN h2,iP h3]; exact Ob.pur_wk (Wk.a (kr (kr (kr (kn 7 (kn 1 (kn 7 (kn 8 (WkL.r _))))))))) (pm mdL [en1 h0,en1 h1,en1 h2,cl (@eNeed_2 (o1==4) (beT h3))] func118)
    ·exact absurd hs (by unfold eOne_s; rw [iN h0,iN h1,iN h2,iN h3]; decide)
def eOne_f_r0(op:Int)(o1:Int)(n1:Int):Int:=(if op=15 then (if o1=1 then (if eInteger_s (nSub_r0 0 n1) (nSub_r1 0 n1)=true then 0 else 25) else 19) else (if op=21 then (if o1=2 then 0 else 19) else (if op=22 then (if o1=1 then 0 else 19) else (if o1=4 then 0 else 19))))
theorem eOne_f(op o1 n1:Int)(a2 a3 a4 a5 a6:PV)(hs:eOne_s op o1 n1=false):Pu 118 [pI op,vA o1 n1 a2 a3 a4 a5 a6] (.panic (.iface 146 (.agg [pI (eOne_f_r0 op o1 n1)]))):=by
 by_cases h0:op=15
 ·by_cases h1:o1=1
  ·by_cases h2:eInteger_s (nSub_r0 0 n1) (nSub_r1 0 n1)=true
   ·exact absurd hs (by unfold eOne_s; rw [iP h0,iP h1,iP h2]; decide)
   ·simp only [eOne_f_r0,iP h0,iP h1,iN h2]; exact pm mdL [et1 h0,cl (@eNeed_2 (o1==1) (beT h1)),cl (@nSub (0) (n1)),cl (@eInteger_f (nSub_r0 0 n1) (nSub_r1 0 n1) (bFT h2))] func118
  ·simp only [eOne_f_r0,iP h0,iN h1]; exact pm mdL [et1 h0,cl (@eNeed_1 (o1==1) (beF h1))] func118
 ·by_cases h1:op=21
  ·by_cases h2:o1=2
   ·exact absurd hs (by unfold eOne_s; rw [iN h0,iP h1,iP h2]; decide)
   ·simp only [eOne_f_r0,iN h0,iP h1,iN h2]; exact pm mdL [en1 h0,et1 h1,cl (@eNeed_1 (o1==2) (beF h2))] func118
  ·by_cases h2:op=22
   ·by_cases h3:o1=1
    ·exact absurd hs (by unfold eOne_s; rw [iN h0,iN h1,iP h2,iP h3]; decide)
    ·simp only [eOne_f_r0,iN h0,iN h1,iP h2,iN h3]; exact pm mdL [en1 h0,en1 h1,et1 h2,cl (@eNeed_1 (o1==1) (beF h3))] func118
   ·by_cases h3:o1=4
    ·exact absurd hs (by unfold eOne_s; rw [iN h0,iN h1,iN h2,iP h3]; decide)
    ·simp only [eOne_f_r0,iN h0,iN h1,iN h2,iN h3]; exact pm mdL [en1 h0,en1 h1,en1 h2,cl (@eNeed_1 (o1==4) (beF h3))] func118
def eCompute_s(op:Int)(o1:Int)(n1:Int)(o2:Int)(n2:Int):Bool:=(if op=16 then (if eBoth_r0 1 o1 o2=true then true else (if eBoth_r0 2 o1 o2=false then false else true)) else (if op=24 then (if o1=4 then (if o2=1 then true else false) else false) else (if eBoth_r0 1 o1 o2=false then false else (if op=10 then (if eInteger_s (nAdd_r0 n1 n2) (nAdd_r1 n1 n2)=true then true else false) else (if op=11 then (if eInteger_s (nSub_r0 n1 n2) (nSub_r1 n1 n2)=true then true else false) else (if op=12 then (if eInteger_s (nMul_r0 n1 n2) (nMul_r1 n1 n2)=true then true else false) else (if op=17 then true else (if op=18 then true else (if n2=0 then false else (if op=13 then (if eInteger_s (nDivide_r0 n1 n2) (nDivide_r2 n1 n2)=true then true else false) else (if eInteger_s (nDivide_r1 n1 n2) (nDivide_r2 n1 n2)=true then true else false)))))))))))
def eCompute_t_r0(op:Int)(o1:Int)(n1:Int)(o2:Int)(n2:Int):Int:=(if op=16 then (if eBoth_r0 1 o1 o2=true then 2 else (if eBoth_r0 2 o1 o2=false then 0 else 2)) else (if op=24 then (if o1=4 then (if o2=1 then 4 else 0) else 0) else (if eBoth_r0 1 o1 o2=false then 0 else (if op=10 then (if eInteger_s (nAdd_r0 n1 n2) (nAdd_r1 n1 n2)=true then 1 else 0) else (if op=11 then (if eInteger_s (nSub_r0 n1 n2) (nSub_r1 n1 n2)=true then 1 else 0) else (if op=12 then (if eInteger_s (nMul_r0 n1 n2) (nMul_r1 n1 n2)=true then 1 else 0) else (if op=17 then 2 else (if op=18 then 2 else (if n2=0 then 0 else (if op=13 then (if eInteger_s (nDivide_r0 n1 n2) (nDivide_r2 n1 n2)=true then 1 else 0) else (if eInteger_s (nDivide_r1 n1 n2) (nDivide_r2 n1 n2)=true then 1 else 0)))))))))))
def eCompute_t_r1(op:Int)(o1:Int)(n1:Int)(o2:Int)(n2:Int):Int:=(if op=16 then (if eBoth_r0 1 o1 o2=true then (eTruth_r0 (n1==n2)) else (if eBoth_r0 2 o1 o2=false then 0 else (eTruth_r0 (n1==n2)))) else (if op=24 then (if o1=4 then (if o2=1 then n2 else 0) else 0) else (if eBoth_r0 1 o1 o2=false then 0 else (if op=10 then (if eInteger_s (nAdd_r0 n1 n2) (nAdd_r1 n1 n2)=true then (nAdd_r0 n1 n2) else 0) else (if op=11 then (if eInteger_s (nSub_r0 n1 n2) (nSub_r1 n1 n2)=true then (nSub_r0 n1 n2) else 0) else (if op=12 then (if eInteger_s (nMul_r0 n1 n2) (nMul_r1 n1 n2)=true then (nMul_r0 n1 n2) else 0) else (if op=17 then (eTruth_r0 (decide (n1<n2))) else (if op=18 then (eTruth_r0 (decide (n1<=n2))) else (if n2=0 then 0 else (if op=13 then (if eInteger_s (nDivide_r0 n1 n2) (nDivide_r2 n1 n2)=true then (nDivide_r0 n1 n2) else 0) else (if eInteger_s (nDivide_r1 n1 n2) (nDivide_r2 n1 n2)=true then (nDivide_r1 n1 n2) else 0)))))))))))
theorem eCompute_t(op o1 n1 o2 n2:Int)(a2 a3 a4 a5 a6 b2 b3 b4 b5 b6:PV)(hs:eCompute_s op o1 n1 o2 n2=true):Pu 119 [pI op,vA o1 n1 a2 a3 a4 a5 a6,vA o2 n2 b2 b3 b4 b5 b6] (rA (v4 (eCompute_t_r0 op o1 n1 o2 n2) (eCompute_t_r1 op o1 n1 o2 n2) nm0 [])):=by
 by_cases h0:op=16
 ·by_cases h1:eBoth_r0 1 o1 o2=true
  ·simp only [eCompute_t_r0,eCompute_t_r1,iP h0,iP h1]; exact pm mdL [et1 h0,cl (@eBoth (1) (o1) (n1) (o2) (n2) (a2) (a3) (a4) (a5) (a6) (b2) (b3) (b4) (b5) (b6)),rp 4 (bt1 h1),cl (@eNeed_2 (true) rF),cl (@eTruth (n1==n2))] func119
  ·by_cases h2:eBoth_r0 2 o1 o2=false
   ·exact absurd hs (by unfold eCompute_s; rw [iP h0,iN h1,iP h2]; decide)
   ·simp only [eCompute_t_r0,eCompute_t_r1,iP h0,iN h1,iN h2]; exact pm mdL [et1 h0,cl (@eBoth (1) (o1) (n1) (o2) (n2) (a2) (a3) (a4) (a5) (a6) (b2) (b3) (b4) (b5) (b6)),rp 3 (bf1 (bFT h1)),cl (@eBoth (2) (o1) (n1) (o2) (n2) (a2) (a3) (a4) (a5) (a6) (b2) (b3) (b4) (b5) (b6)),bf1 (bFT h1),cl (@eNeed_2 (eBoth_r0 2 o1 o2) (bTF h2)),cl (@eTruth (n1==n2))] func119
 ·by_cases h1:op=24
  ·by_cases h2:o1=4
   ·by_cases h3:o2=1
    ·simp only [eCompute_t_r0,eCompute_t_r1,iN h0,iP h1,iP h2,iP h3]; exact Ob.pur_wk (Wk.a (kr (kr (kr (kn 7 (kn 1 (kn 7 (kn 8 (WkL.r _))))))))) (pm mdL [en1 h0,et1 h1,rp 4 (et1 h2),cl (@eNeed_2 (o2==1) (beT h3))] func119)
    ·exact absurd hs (by unfold eCompute_s; rw [iN h0,iP h1,iP h2,iN h3]; decide)
   ·exact absurd hs (by unfold eCompute_s; rw [iN h0,iP h1,iN h2]; decide)
  ·by_cases h2:eBoth_r0 1 o1 o2=false
   ·exact absurd hs (by unfold eCompute_s; rw [iN h0,iN h1,iP h2]; decide)
   ·by_cases h3:op=10
    ·by_cases h4:eInteger_s (nAdd_r0 n1 n2) (nAdd_r1 n1 n2)=true
     ·simp only [eCompute_t_r0,eCompute_t_r1,iN h0,iN h1,iN h2,iP h3,iP h4]; exact pm mdL [en1 h0,en1 h1,cl (@eBoth (1) (o1) (n1) (o2) (n2) (a2) (a3) (a4) (a5) (a6) (b2) (b3) (b4) (b5) (b6)),cl (@eNeed_2 (eBoth_r0 1 o1 o2) (bTF h2)),et1 h3,cl (@nAdd (n1) (n2)),cl (@eInteger_t (nAdd_r0 n1 n2) (nAdd_r1 n1 n2) h4)] func119
     ·exact absurd hs (by unfold eCompute_s; rw [iN h0,iN h1,iN h2,iP h3,iN h4]; decide)
    ·by_cases h4:op=11
     ·by_cases h5:eInteger_s (nSub_r0 n1 n2) (nSub_r1 n1 n2)=true
      ·simp only [eCompute_t_r0,eCompute_t_r1,iN h0,iN h1,iN h2,iN h3,iP h4,iP h5]; exact pm mdL [en1 h0,en1 h1,cl (@eBoth (1) (o1) (n1) (o2) (n2) (a2) (a3) (a4) (a5) (a6) (b2) (b3) (b4) (b5) (b6)),cl (@eNeed_2 (eBoth_r0 1 o1 o2) (bTF h2)),en1 h3,et1 h4,cl (@nSub (n1) (n2)),cl (@eInteger_t (nSub_r0 n1 n2) (nSub_r1 n1 n2) h5)] func119
      ·exact absurd hs (by unfold eCompute_s; rw [iN h0,iN h1,iN h2,iN h3,iP h4,iN h5]; decide)
     ·by_cases h5:op=12
      ·by_cases h6:eInteger_s (nMul_r0 n1 n2) (nMul_r1 n1 n2)=true
       ·simp only [eCompute_t_r0,eCompute_t_r1,iN h0,iN h1,iN h2,iN h3,iN h4,iP h5,iP h6]; exact pm mdL [en1 h0,en1 h1,cl (@eBoth (1) (o1) (n1) (o2) (n2) (a2) (a3) (a4) (a5) (a6) (b2) (b3) (b4) (b5) (b6)),cl (@eNeed_2 (eBoth_r0 1 o1 o2) (bTF h2)),en1 h3,en1 h4,et1 h5,cl (@nMul (n1) (n2)),cl (@eInteger_t (nMul_r0 n1 n2) (nMul_r1 n1 n2) h6)] func119
       ·exact absurd hs (by unfold eCompute_s; rw [iN h0,iN h1,iN h2,iN h3,iN h4,iP h5,iN h6]; decide)
      ·by_cases h6:op=17
       ·simp only [eCompute_t_r0,eCompute_t_r1,iN h0,iN h1,iN h2,iN h3,iN h4,iN h5,iP h6]; exact pm mdL [en1 h0,en1 h1,cl (@eBoth (1) (o1) (n1) (o2) (n2) (a2) (a3) (a4) (a5) (a6) (b2) (b3) (b4) (b5) (b6)),cl (@eNeed_2 (eBoth_r0 1 o1 o2) (bTF h2)),en1 h3,en1 h4,en1 h5,et1 h6,cl (@eTruth (decide (n1<n2)))] func119
       ·by_cases h7:op=18
        ·simp only [eCompute_t_r0,eCompute_t_r1,iN h0,iN h1,iN h2,iN h3,iN h4,iN h5,iN h6,iP h7]; exact pm mdL [en1 h0,en1 h1,cl (@eBoth (1) (o1) (n1) (o2) (n2) (a2) (a3) (a4) (a5) (a6) (b2) (b3) (b4) (b5) (b6)),cl (@eNeed_2 (eBoth_r0 1 o1 o2) (bTF h2)),en1 h3,en1 h4,en1 h5,en1 h6,et1 h7,cl (@eTruth (decide (n1<=n2)))] func119
        ·by_cases h8:n2=0
         ·exact absurd hs (by unfold eCompute_s; rw [iN h0,iN h1,iN h2,iN h3,iN h4,iN h5,iN h6,iN h7,iP h8]; decide)
         ·by_cases h9:op=13
          ·by_cases h10:eInteger_s (nDivide_r0 n1 n2) (nDivide_r2 n1 n2)=true
           ·simp only [eCompute_t_r0,eCompute_t_r1,iN h0,iN h1,iN h2,iN h3,iN h4,iN h5,iN h6,iN h7,iN h8,iP h9,iP h10]; exact pm mdL [en1 h0,en1 h1,cl (@eBoth (1) (o1) (n1) (o2) (n2) (a2) (a3) (a4) (a5) (a6) (b2) (b3) (b4) (b5) (b6)),cl (@eNeed_2 (eBoth_r0 1 o1 o2) (bTF h2)),en1 h3,en1 h4,en1 h5,en1 h6,en1 h7,en1 h8,et1 h9,cl (@nDiv (n1) (n2)),cl (@eInteger_t (nDivide_r0 n1 n2) (nDivide_r2 n1 n2) h10)] func119
           ·exact absurd hs (by unfold eCompute_s; rw [iN h0,iN h1,iN h2,iN h3,iN h4,iN h5,iN h6,iN h7,iN h8,iP h9,iN h10]; decide)
          ·by_cases h10:eInteger_s (nDivide_r1 n1 n2) (nDivide_r2 n1 n2)=true
           ·simp only [eCompute_t_r0,eCompute_t_r1,iN h0,iN h1,iN h2,iN h3,iN h4,iN h5,iN h6,iN h7,iN h8,iN h9,iP h10]; exact pm mdL [en1 h0,en1 h1,cl (@eBoth (1) (o1) (n1) (o2) (n2) (a2) (a3) (a4) (a5) (a6) (b2) (b3) (b4) (b5) (b6)),cl (@eNeed_2 (eBoth_r0 1 o1 o2) (bTF h2)),en1 h3,en1 h4,en1 h5,en1 h6,en1 h7,en1 h8,en1 h9,cl (@nMod (n1) (n2)),cl (@eInteger_t (nDivide_r1 n1 n2) (nDivide_r2 n1 n2) h10)] func119
           ·exact absurd hs (by unfold eCompute_s; rw [iN h0,iN h1,iN h2,iN h3,iN h4,iN h5,iN h6,iN h7,iN h8,iN h9,iN h10]; decide)
def eCompute_f_r0(op:Int)(o1:Int)(n1:Int)(o2:Int)(n2:Int):Int:=(if op=16 then (if eBoth_r0 1 o1 o2=true then 0 else (if eBoth_r0 2 o1 o2=false then 19 else 0)) else (if op=24 then (if o1=4 then (if o2=1 then 0 else 19) else 19) else (if eBoth_r0 1 o1 o2=false then 19 else (if op=10 then (if eInteger_s (nAdd_r0 n1 n2) (nAdd_r1 n1 n2)=true then 0 else 25) else (if op=11 then (if eInteger_s (nSub_r0 n1 n2) (nSub_r1 n1 n2)=true then 0 else 25) else (if op=12 then (if eInteger_s (nMul_r0 n1 n2) (nMul_r1 n1 n2)=true then 0 else 25) else (if op=17 then 0 else (if op=18 then 0 else (if n2=0 then 27 else (if op=13 then (if eInteger_s (nDivide_r0 n1 n2) (nDivide_r2 n1 n2)=true then 0 else 25) else (if eInteger_s (nDivide_r1 n1 n2) (nDivide_r2 n1 n2)=true then 0 else 25)))))))))))
theorem eCompute_f(op o1 n1 o2 n2:Int)(a2 a3 a4 a5 a6 b2 b3 b4 b5 b6:PV)(hs:eCompute_s op o1 n1 o2 n2=false):Pu 119 [pI op,vA o1 n1 a2 a3 a4 a5 a6,vA o2 n2 b2 b3 b4 b5 b6] (.panic (.iface 146 (.agg [pI (eCompute_f_r0 op o1 n1 o2 n2)]))):=by
 by_cases h0:op=16
 ·by_cases h1:eBoth_r0 1 o1 o2=true
  ·exact absurd hs (by unfold eCompute_s; rw [iP h0,iP h1]; decide)
  ·by_cases h2:eBoth_r0 2 o1 o2=false
   ·simp only [eCompute_f_r0,iP h0,iN h1,iP h2]; exact pm mdL [et1 h0,cl (@eBoth (1) (o1) (n1) (o2) (n2) (a2) (a3) (a4) (a5) (a6) (b2) (b3) (b4) (b5) (b6)),rp 3 (bf1 (bFT h1)),cl (@eBoth (2) (o1) (n1) (o2) (n2) (a2) (a3) (a4) (a5) (a6) (b2) (b3) (b4) (b5) (b6)),bf1 (bFT h1),cl (@eNeed_1 (eBoth_r0 2 o1 o2) h2)] func119
   ·exact absurd hs (by unfold eCompute_s; rw [iP h0,iN h1,iN h2]; decide)
 ·by_cases h1:op=24
  ·by_cases h2:o1=4
   ·by_cases h3:o2=1
    ·exact absurd hs (by unfold eCompute_s; rw [iN h0,iP h1,iP h2,iP h3]; decide)
    ·simp only [eCompute_f_r0,iN h0,iP h1,iP h2,iN h3]; exact pm mdL [en1 h0,et1 h1,rp 4 (et1 h2),cl (@eNeed_1 (o2==1) (beF h3))] func119
   ·simp only [eCompute_f_r0,iN h0,iP h1,iN h2]; exact pm mdL [en1 h0,et1 h1,rp 4 (en1 h2),cl (@eNeed_1 (false) rF)] func119
  ·by_cases h2:eBoth_r0 1 o1 o2=false
   ·simp only [eCompute_f_r0,iN h0,iN h1,iP h2]; exact pm mdL [en1 h0,en1 h1,cl (@eBoth (1) (o1) (n1) (o2) (n2) (a2) (a3) (a4) (a5) (a6) (b2) (b3) (b4) (b5) (b6)),cl (@eNeed_1 (eBoth_r0 1 o1 o2) h2)] func119
   ·by_cases h3:op=10
    ·by_cases h4:eInteger_s (nAdd_r0 n1 n2) (nAdd_r1 n1 n2)=true
     ·exact absurd hs (by unfold eCompute_s; rw [iN h0,iN h1,iN h2,iP h3,iP h4]; decide)
     ·simp only [eCompute_f_r0,iN h0,iN h1,iN h2,iP h3,iN h4]; exact pm mdL [en1 h0,en1 h1,cl (@eBoth (1) (o1) (n1) (o2) (n2) (a2) (a3) (a4) (a5) (a6) (b2) (b3) (b4) (b5) (b6)),cl (@eNeed_2 (eBoth_r0 1 o1 o2) (bTF h2)),et1 h3,cl (@nAdd (n1) (n2)),cl (@eInteger_f (nAdd_r0 n1 n2) (nAdd_r1 n1 n2) (bFT h4))] func119
    ·by_cases h4:op=11
     ·by_cases h5:eInteger_s (nSub_r0 n1 n2) (nSub_r1 n1 n2)=true
      ·exact absurd hs (by unfold eCompute_s; rw [iN h0,iN h1,iN h2,iN h3,iP h4,iP h5]; decide)
      ·simp only [eCompute_f_r0,iN h0,iN h1,iN h2,iN h3,iP h4,iN h5]; exact pm mdL [en1 h0,en1 h1,cl (@eBoth (1) (o1) (n1) (o2) (n2) (a2) (a3) (a4) (a5) (a6) (b2) (b3) (b4) (b5) (b6)),cl (@eNeed_2 (eBoth_r0 1 o1 o2) (bTF h2)),en1 h3,et1 h4,cl (@nSub (n1) (n2)),cl (@eInteger_f (nSub_r0 n1 n2) (nSub_r1 n1 n2) (bFT h5))] func119
     ·by_cases h5:op=12
      ·by_cases h6:eInteger_s (nMul_r0 n1 n2) (nMul_r1 n1 n2)=true
       ·exact absurd hs (by unfold eCompute_s; rw [iN h0,iN h1,iN h2,iN h3,iN h4,iP h5,iP h6]; decide)
       ·simp only [eCompute_f_r0,iN h0,iN h1,iN h2,iN h3,iN h4,iP h5,iN h6]; exact pm mdL [en1 h0,en1 h1,cl (@eBoth (1) (o1) (n1) (o2) (n2) (a2) (a3) (a4) (a5) (a6) (b2) (b3) (b4) (b5) (b6)),cl (@eNeed_2 (eBoth_r0 1 o1 o2) (bTF h2)),en1 h3,en1 h4,et1 h5,cl (@nMul (n1) (n2)),cl (@eInteger_f (nMul_r0 n1 n2) (nMul_r1 n1 n2) (bFT h6))] func119
      ·by_cases h6:op=17
       ·exact absurd hs (by unfold eCompute_s; rw [iN h0,iN h1,iN h2,iN h3,iN h4,iN h5,iP h6]; decide)
       ·by_cases h7:op=18
        ·exact absurd hs (by unfold eCompute_s; rw [iN h0,iN h1,iN h2,iN h3,iN h4,iN h5,iN h6,iP h7]; decide)
        ·by_cases h8:n2=0
         ·simp only [eCompute_f_r0,iN h0,iN h1,iN h2,iN h3,iN h4,iN h5,iN h6,iN h7,iP h8]; exact pm mdL [en1 h0,en1 h1,cl (@eBoth (1) (o1) (n1) (o2) (n2) (a2) (a3) (a4) (a5) (a6) (b2) (b3) (b4) (b5) (b6)),cl (@eNeed_2 (eBoth_r0 1 o1 o2) (bTF h2)),en1 h3,en1 h4,en1 h5,en1 h6,en1 h7,et1 h8,cl (@eFail (27))] func119
         ·by_cases h9:op=13
          ·by_cases h10:eInteger_s (nDivide_r0 n1 n2) (nDivide_r2 n1 n2)=true
           ·exact absurd hs (by unfold eCompute_s; rw [iN h0,iN h1,iN h2,iN h3,iN h4,iN h5,iN h6,iN h7,iN h8,iP h9,iP h10]; decide)
           ·simp only [eCompute_f_r0,iN h0,iN h1,iN h2,iN h3,iN h4,iN h5,iN h6,iN h7,iN h8,iP h9,iN h10]; exact pm mdL [en1 h0,en1 h1,cl (@eBoth (1) (o1) (n1) (o2) (n2) (a2) (a3) (a4) (a5) (a6) (b2) (b3) (b4) (b5) (b6)),cl (@eNeed_2 (eBoth_r0 1 o1 o2) (bTF h2)),en1 h3,en1 h4,en1 h5,en1 h6,en1 h7,en1 h8,et1 h9,cl (@nDiv (n1) (n2)),cl (@eInteger_f (nDivide_r0 n1 n2) (nDivide_r2 n1 n2) (bFT h10))] func119
          ·by_cases h10:eInteger_s (nDivide_r1 n1 n2) (nDivide_r2 n1 n2)=true
           ·exact absurd hs (by unfold eCompute_s; rw [iN h0,iN h1,iN h2,iN h3,iN h4,iN h5,iN h6,iN h7,iN h8,iN h9,iP h10]; decide)
           ·simp only [eCompute_f_r0,iN h0,iN h1,iN h2,iN h3,iN h4,iN h5,iN h6,iN h7,iN h8,iN h9,iN h10]; exact pm mdL [en1 h0,en1 h1,cl (@eBoth (1) (o1) (n1) (o2) (n2) (a2) (a3) (a4) (a5) (a6) (b2) (b3) (b4) (b5) (b6)),cl (@eNeed_2 (eBoth_r0 1 o1 o2) (bTF h2)),en1 h3,en1 h4,en1 h5,en1 h6,en1 h7,en1 h8,en1 h9,cl (@nMod (n1) (n2)),cl (@eInteger_f (nDivide_r1 n1 n2) (nDivide_r2 n1 n2) (bFT h10))] func119
abbrev mdM(cK:C5)(l:List Df):PV := .agg [cK.a,cK.b,cK.c,cK.d,cK.e,.sl 25 (dfsC l)]
abbrev sDefI(l:List Df)(name:BA)(i:Int)(ext:Ext):S:=⟨[(1,.v (.str name)),(4,.lp 4 0),(5,.v (.bool false)),(9,.v (.sl 25 (dfsC l))),(10,.v (.int .i64 l.length)),(11,.v (.int .i64 i))],[(4,List.replicate 25 jk)],ext⟩
section
variable (l:List Df) (name:BA) (i:Nat) (ext:Ext) (hi:i<l.length) (hn:l.length<=1000000000)
include l name i ext hi hn
theorem sDefB_1(hx0:dfNm (List.getD l i default)=name)(cx:Cx)(hcx:cx.n=22){Q:PExit->S->Prop}(hq:Q (.ret) (S.mk [(1,vS name),(4,.lp 4 0),(5,.v (.bool true)),(9,vL 25 (dfsC l)),(10,vI6 (l.length:Int)),(11,vI6 (i:Int))] [(4,dfV (List.getD l i default))] ext)):PW prog cx (loopF f77 0) (sDefI l name (i:Int) ext) Q:=
 pw mdL 22 [dt ((i:Int)<(l.length:Int)),am ((0:Int)<=(i:Int)/\(i:Int)<((dfsC l).length:Int)) qZ,xDf l i hi,bt (ByteArray.toList (dfNm (List.getD l i default))==ByteArray.toList name) (bsT hx0)] [1,4,5,9,10,11] [4] hcx hq
theorem sDefB_2(hx0:¬dfNm (List.getD l i default)=name)(cx:Cx)(hcx:cx.n=22){Q:PExit->S->Prop}(hq:Q (.normal) (S.mk [(1,vS name),(4,.lp 4 0),(5,.v (.bool false)),(9,vL 25 (dfsC l)),(10,vI6 (l.length:Int)),(11,vI6 ((i:Int)+1))] [(4,[jk,jk,jk,jk,jk,jk,jk,jk,jk,jk,jk,jk,jk,jk,jk,jk,jk,jk,jk,jk,jk,jk,jk,jk,jk])] ext)):PW prog cx (loopF f77 0) (sDefI l name (i:Int) ext) Q:=
 pw mdL 22 [dt ((i:Int)<(l.length:Int)),am ((0:Int)<=(i:Int)/\(i:Int)<((dfsC l).length:Int)) qZ,xDf l i hi,bf (ByteArray.toList (dfNm (List.getD l i default))==ByteArray.toList name) (bsF hx0),wr ((i:Int)+1)] [1,4,5,9,10,11] [4] hcx hq
end
theorem sDefE(l:List Df)(name:BA)(ext:Ext)(cx:Cx)(hcx:cx.n=22){Q:PExit->S->Prop}(hq:Q (.exit 0) (S.mk [(1,vS name),(4,.lp 4 0),(5,.v (.bool false)),(9,vL 25 (dfsC l)),(10,vI6 (l.length:Int)),(11,vI6 (l.length:Int))] [(4,[jk,jk,jk,jk,jk,jk,jk,jk,jk,jk,jk,jk,jk,jk,jk,jk,jk,jk,jk,jk,jk,jk,jk,jk,jk])] ext)):PW prog cx (loopF f77 0) (sDefI l name (l.length:Int) ext) Q:=
 pw mdL 22 [df ((l.length:Int)<(l.length:Int))] [1,4,5,9,10,11] [4] hcx hq
def findD(name:BA):List Df->Option Df
 | []=>none
 | d::r=>if dfNm d=name then some d else findD name r
def sDefR(l:List Df)(name:BA)(ext:Ext)(i:Nat):PExit × S:=match findD name (l.drop i) with
 | some d=>(.ret,⟨[(4,.lp 4 0),(5,.v (.bool true))],[(4,(dfL d).map .v)],ext⟩)
 | none=>(.exit 0,⟨[(4,.lp 4 0)],[(4,List.replicate 25 jk)],ext⟩)
theorem sDef_loop(l:List Df)(name:BA)(ext:Ext)(hn:l.length<=1000000000):(Ob.loop 22 (loopF f77 0) (sDefI l name 0 ext) (sDefR l name ext 0).1 (sDefR l name ext 0).2).ok prog:=by
 refine Ob.loop_of (α:={ i:Nat // i<=l.length }) (fun i=>sDefI l name i.1 ext) (fun i=>l.length - i.1) (fun i=>sDefR l name ext i.1) ?_ ⟨0,by simp⟩
 rintro ⟨i,hi⟩ cx hcx
 rcases Nat.lt_or_ge i l.length with hlt | hge
 ·by_cases h:dfNm (l.getD i default)=name
  ·have hr:sDefR l name ext i=(.ret,⟨[(4,.lp 4 0),(5,.v (.bool true))],[(4,(dfL (l.getD i default)).map .v)],ext⟩):=by simp only [sDefR,drop_at hlt,findD,h,if_true]
   refine sDefB_1 l name i ext hlt hn h cx hcx (.inr ?_)
   rw [hr]
   exact ⟨by simp,rfl,⟨W,W,tV⟩,⟨WLs.refl _,tV⟩,rfl⟩
  ·have hr:sDefR l name ext i=sDefR l name ext (i+1):=by simp only [sDefR,drop_at hlt,findD,h,if_false]
   exact sDefB_2 l name i ext hlt hn h cx hcx (.inl ⟨rfl,⟨i+1,hlt⟩,by simp only; omega,⟨⟨W,W,W,W,W,W,tV⟩,⟨WLs.refl _,tV⟩,rfl⟩,hr.symm⟩)
 ·have he:i=l.length:=by omega
  subst he
  have hr:sDefR l name ext l.length=(.exit 0,⟨[(4,.lp 4 0)],[(4,List.replicate 25 jk)],ext⟩):=by simp only [sDefR,List.drop_length,findD]
  refine sDefE l name ext cx hcx (.inr ?_)
  simp only
  rw [hr]
  exact ⟨by simp,rfl,⟨W,tV⟩,⟨WLs.refl _,tV⟩,rfl⟩
theorem sDef_loop_some(l:List Df)(name:BA)(ext:Ext)(hn:l.length<=1000000000)(d:Df)(h:findD name l=some d):(Ob.loop 22 (loopF f77 0) (sDefI l name 0 ext) .ret ⟨[(4,.lp 4 0),(5,.v (.bool true))],[(4,(dfL d).map .v)],ext⟩).ok prog:=by
 have:=sDef_loop l name ext hn
 simp only [sDefR,List.drop_zero,h] at this
 exact this
theorem sDef_loop_none(l:List Df)(name:BA)(ext:Ext)(hn:l.length<=1000000000)(h:findD name l=none):(Ob.loop 22 (loopF f77 0) (sDefI l name 0 ext) (.exit 0) ⟨[(4,.lp 4 0)],[(4,List.replicate 25 jk)],ext⟩).ok prog:=by
 have:=sDef_loop l name ext hn
 simp only [sDefR,List.drop_zero,h] at this
 exact this
theorem sDef_1(cK:C5)(l:List Df)(name:BA)(hn:l.length<=1000000000)(hy0:Df)(hx1:findD name l=some hy0):Pu 77 [mdM cK l,.str name] (.ret (.tup [.agg (dfL hy0),.bool true])):=
 pu mdL (fun e=>[sl (dfsC_len l),lp (S.mk [(0,.v (.agg [cK.a,cK.b,cK.c,cK.d,cK.e,.sl 25 (dfsC l)])),(1,vS name),(2,.lp 2 0),(4,.lp 4 0),(5,.v (.bool false)),(8,.lp 2 5),(9,vL 25 (dfsC l)),(10,vI6 (l.length:Int)),(11,vI6 0)] [(2,[.v cK.a,.v cK.b,.v cK.c,.v cK.d,.v cK.e,vL 25 (dfsC l)]),(4,[vS nm0,.v .nilsl,vI6 0,vS nm0,vI6 0,.v .nilsl,.v .nilsl,.v .nilsl,.v .nilsl,vI6 0,.v (.bool false),.v .nilsl,.v .nilsl,.v .nilsl,.v .nilsl,vI6 0,vS nm0,.v .nilsl,.v .nilsl,vI6 0,vS nm0,vI6 0,.v .nilsl,.v .nilsl,.v .nilsl])] e) (@sDef_loop_some (l) (name) (e) hn hy0 hx1) ⟨⟨W,W,W,W,W,W,tV⟩,⟨⟨Wq,Wq,Wq,Wq,Wq,Wq,Wq,Wq,Wq,Wq,Wq,Wq,Wq,Wq,Wq,Wq,Wq,Wq,Wq,Wq,Wq,Wq,Wq,Wq,Wq,tV⟩,tV⟩,rfl⟩]) func77
theorem sDef_2(cK:C5)(l:List Df)(name:BA)(hn:l.length<=1000000000)(hx0:findD name l=none):Pu 77 [mdM cK l,.str name] (.ret (.tup [.agg [.str nm0,.sl 1 [],pI 0,.str nm0,pI 0,.sl 7 [],.sl 10 [],.sl 9 [],.sl 9 [],pI 0,.bool false,.sl 1 [],.sl 2 [],.sl 2 [],.sl 10 [],pI 0,.str nm0,.sl 9 [],.sl 1 [],pI 0,.str nm0,pI 0,.sl 4 [],.sl 4 [],.sl 4 []],.bool false])):=
 Ob.pur_wk (Wk.t (WkL.c (Wk.a (kr (kn 1 (kr (kr (kr (kn 7 (kn 10 (kn 9 (kn 9 (kr (kr (kn 1 (kn 2 (kn 2 (kn 10 (kr (kr (kn 9 (kn 1 (kr (kr (kr (kn 4 (kn 4 (kn 4 (WkL.r _))))))))))))))))))))))))))) (WkL.r _))) (pu mdL (fun e=>[sl (dfsC_len l),lp (S.mk [(0,.v (.agg [cK.a,cK.b,cK.c,cK.d,cK.e,.sl 25 (dfsC l)])),(1,vS name),(2,.lp 2 0),(4,.lp 4 0),(5,.v (.bool false)),(8,.lp 2 5),(9,vL 25 (dfsC l)),(10,vI6 (l.length:Int)),(11,vI6 0)] [(2,[.v cK.a,.v cK.b,.v cK.c,.v cK.d,.v cK.e,vL 25 (dfsC l)]),(4,[vS nm0,.v .nilsl,vI6 0,vS nm0,vI6 0,.v .nilsl,.v .nilsl,.v .nilsl,.v .nilsl,vI6 0,.v (.bool false),.v .nilsl,.v .nilsl,.v .nilsl,.v .nilsl,vI6 0,vS nm0,.v .nilsl,.v .nilsl,vI6 0,vS nm0,vI6 0,.v .nilsl,.v .nilsl,.v .nilsl])] e) (@sDef_loop_none (l) (name) (e) hn hx0) ⟨⟨W,W,W,W,W,W,tV⟩,⟨⟨Wq,Wq,Wq,Wq,Wq,Wq,Wq,Wq,Wq,Wq,Wq,Wq,Wq,Wq,Wq,Wq,Wq,Wq,Wq,Wq,Wq,Wq,Wq,Wq,Wq,tV⟩,tV⟩,rfl⟩]) func77)
abbrev rDefI(cK:C5)(l:List Df)(name:BA)(i:Int)(ext:Ext):S:=⟨[(1,.v (.str name)),(2,.lp 2 0),(4,.lp 4 0),(5,.v (.bool false)),(6,.v (.int .i64 i))],[(2,[.v cK.a,.v cK.b,.v cK.c,.v cK.d,.v cK.e,.v (.sl 25 (dfsC l))]),(4,List.replicate 25 jk)],ext⟩
section
variable (cK:C5) (l:List Df) (name:BA) (i:Nat) (ext:Ext) (hi:i<l.length) (hn:l.length<=1000000000)
include cK l name i ext hi hn
theorem rDefB_1(hx0:dfNm (List.getD l i default)=name)(cx:Cx)(hcx:cx.n=28){Q:PExit->S->Prop}(hq:Q (.ret) (S.mk [(1,vS name),(2,.lp 2 0),(4,.lp 4 0),(5,.v (.bool true)),(6,vI6 (i:Int))] [(2,[.v cK.a,.v cK.b,.v cK.c,.v cK.d,.v cK.e,vL 25 (dfsC l)]),(4,dfV (List.getD l i default))] ext)):PW prog cx (loopF f48 0) (rDefI cK l name (i:Int) ext) Q:=
 pw mdL 28 [sl (dfsC_len l),dt ((i:Int)<(l.length:Int)),am ((0:Int)<=(i:Int)/\(i:Int)<((dfsC l).length:Int)) qZ,xDf l i hi,bt (ByteArray.toList (dfNm (List.getD l i default))==ByteArray.toList name) (bsT hx0),am ((0:Int)<=(i:Int)/\(i:Int)<((dfsC l).length:Int)) qZ,xDf l i hi] [1,2,4,5,6] [2,4] hcx hq
theorem rDefB_2(hx0:¬dfNm (List.getD l i default)=name)(cx:Cx)(hcx:cx.n=28){Q:PExit->S->Prop}(hq:Q (.normal) (S.mk [(1,vS name),(2,.lp 2 0),(4,.lp 4 0),(5,.v (.bool false)),(6,vI6 ((i:Int)+1))] [(2,[.v cK.a,.v cK.b,.v cK.c,.v cK.d,.v cK.e,vL 25 (dfsC l)]),(4,[jk,jk,jk,jk,jk,jk,jk,jk,jk,jk,jk,jk,jk,jk,jk,jk,jk,jk,jk,jk,jk,jk,jk,jk,jk])] ext)):PW prog cx (loopF f48 0) (rDefI cK l name (i:Int) ext) Q:=
 pw mdL 28 [sl (dfsC_len l),dt ((i:Int)<(l.length:Int)),am ((0:Int)<=(i:Int)/\(i:Int)<((dfsC l).length:Int)) qZ,xDf l i hi,bf (ByteArray.toList (dfNm (List.getD l i default))==ByteArray.toList name) (bsF hx0),wr ((i:Int)+1)] [1,2,4,5,6] [2,4] hcx hq
end
theorem rDefE(cK:C5)(l:List Df)(name:BA)(ext:Ext)(cx:Cx)(hcx:cx.n=28){Q:PExit->S->Prop}(hq:Q (.exit 0) (S.mk [(1,vS name),(2,.lp 2 0),(4,.lp 4 0),(5,.v (.bool false)),(6,vI6 (l.length:Int))] [(2,[.v cK.a,.v cK.b,.v cK.c,.v cK.d,.v cK.e,vL 25 (dfsC l)]),(4,[jk,jk,jk,jk,jk,jk,jk,jk,jk,jk,jk,jk,jk,jk,jk,jk,jk,jk,jk,jk,jk,jk,jk,jk,jk])] ext)):PW prog cx (loopF f48 0) (rDefI cK l name (l.length:Int) ext) Q:=
 pw mdL 28 [sl (dfsC_len l),df ((l.length:Int)<(l.length:Int))] [1,2,4,5,6] [2,4] hcx hq
theorem rDef_loop(cK:C5)(l:List Df)(name:BA)(ext:Ext)(hn:l.length<=1000000000):(Ob.loop 28 (loopF f48 0) (rDefI cK l name 0 ext) (sDefR l name ext 0).1 (sDefR l name ext 0).2).ok prog:=by
 refine Ob.loop_idx l.length (fun i=>rDefI cK l name i ext) (sDefR l name ext) ?_ ?_ 0 sM
 ·intro i hlt cx hcx
  by_cases h:dfNm (l.getD i default)=name
  ·have hr:sDefR l name ext i=(.ret,⟨[(4,.lp 4 0),(5,.v (.bool true))],[(4,(dfL (l.getD i default)).map .v)],ext⟩):=by simp only [sDefR,drop_at hlt,findD,h,if_true]
   refine rDefB_1 cK l name i ext hlt hn h cx hcx (.inr ?_)
   rw [hr]
   exact ⟨by simp,rfl,⟨W,W,tV⟩,⟨WLs.refl _,tV⟩,rfl⟩
  ·have hr:sDefR l name ext (i+1)=sDefR l name ext i:=by simp only [sDefR,drop_at hlt,findD,h,if_false]
   exact rDefB_2 cK l name i ext hlt hn h cx hcx (.inl ⟨rfl,⟨⟨W,W,W,W,W,tV⟩,⟨WLs.refl _,WLs.refl _,tV⟩,rfl⟩,hr⟩)
 ·intro cx hcx
  have hr:sDefR l name ext l.length=(.exit 0,⟨[(4,.lp 4 0)],[(4,List.replicate 25 jk)],ext⟩):=by simp only [sDefR,List.drop_length,findD]
  refine rDefE cK l name ext cx hcx ?_
  rw [hr]
  exact ⟨by simp,rfl,⟨W,tV⟩,⟨WLs.refl _,tV⟩,rfl⟩
theorem rDef_loop_some(cK:C5)(l:List Df)(name:BA)(ext:Ext)(hn:l.length<=1000000000)(d:Df)(h:findD name l=some d):(Ob.loop 28 (loopF f48 0) (rDefI cK l name 0 ext) .ret ⟨[(4,.lp 4 0),(5,.v (.bool true))],[(4,(dfL d).map .v)],ext⟩).ok prog:=by
 have:=rDef_loop cK l name ext hn
 simp only [sDefR,List.drop_zero,h] at this
 exact this
theorem rDef_loop_none(cK:C5)(l:List Df)(name:BA)(ext:Ext)(hn:l.length<=1000000000)(h:findD name l=none):(Ob.loop 28 (loopF f48 0) (rDefI cK l name 0 ext) (.exit 0) ⟨[(4,.lp 4 0)],[(4,List.replicate 25 jk)],ext⟩).ok prog:=by
 have:=rDef_loop cK l name ext hn
 simp only [sDefR,List.drop_zero,h] at this
 exact this
theorem rDef_1(cK:C5)(l:List Df)(name:BA)(hn:l.length<=1000000000)(hy0:Df)(hx1:findD name l=some hy0):Pu 48 [mdM cK l,.str name] (.ret (.tup [.agg (dfL hy0),.bool true])):=
 pu mdL (fun e=>[lp (S.mk [(0,.v (.agg [cK.a,cK.b,cK.c,cK.d,cK.e,.sl 25 (dfsC l)])),(1,vS name),(2,.lp 2 0),(4,.lp 4 0),(5,.v (.bool false)),(6,vI6 0)] [(2,[.v cK.a,.v cK.b,.v cK.c,.v cK.d,.v cK.e,vL 25 (dfsC l)]),(4,[vS nm0,.v .nilsl,vI6 0,vS nm0,vI6 0,.v .nilsl,.v .nilsl,.v .nilsl,.v .nilsl,vI6 0,.v (.bool false),.v .nilsl,.v .nilsl,.v .nilsl,.v .nilsl,vI6 0,vS nm0,.v .nilsl,.v .nilsl,vI6 0,vS nm0,vI6 0,.v .nilsl,.v .nilsl,.v .nilsl])] e) (@rDef_loop_some cK (l) (name) (e) hn hy0 hx1) ⟨⟨W,W,W,W,W,tV⟩,⟨⟨W,W,W,W,W,W,tV⟩,⟨Wq,Wq,Wq,Wq,Wq,Wq,Wq,Wq,Wq,Wq,Wq,Wq,Wq,Wq,Wq,Wq,Wq,Wq,Wq,Wq,Wq,Wq,Wq,Wq,Wq,tV⟩,tV⟩,rfl⟩]) func48
theorem rDef_2(cK:C5)(l:List Df)(name:BA)(hn:l.length<=1000000000)(hx0:findD name l=none):Pu 48 [mdM cK l,.str name] (.ret (.tup [.agg [.str nm0,.sl 1 [],pI 0,.str nm0,pI 0,.sl 7 [],.sl 10 [],.sl 9 [],.sl 9 [],pI 0,.bool false,.sl 1 [],.sl 2 [],.sl 2 [],.sl 10 [],pI 0,.str nm0,.sl 9 [],.sl 1 [],pI 0,.str nm0,pI 0,.sl 4 [],.sl 4 [],.sl 4 []],.bool false])):=
 Ob.pur_wk (Wk.t (WkL.c (Wk.a (kr (kn 1 (kr (kr (kr (kn 7 (kn 10 (kn 9 (kn 9 (kr (kr (kn 1 (kn 2 (kn 2 (kn 10 (kr (kr (kn 9 (kn 1 (kr (kr (kr (kn 4 (kn 4 (kn 4 (WkL.r _))))))))))))))))))))))))))) (WkL.r _))) (pu mdL (fun e=>[lp (S.mk [(0,.v (.agg [cK.a,cK.b,cK.c,cK.d,cK.e,.sl 25 (dfsC l)])),(1,vS name),(2,.lp 2 0),(4,.lp 4 0),(5,.v (.bool false)),(6,vI6 0)] [(2,[.v cK.a,.v cK.b,.v cK.c,.v cK.d,.v cK.e,vL 25 (dfsC l)]),(4,[vS nm0,.v .nilsl,vI6 0,vS nm0,vI6 0,.v .nilsl,.v .nilsl,.v .nilsl,.v .nilsl,vI6 0,.v (.bool false),.v .nilsl,.v .nilsl,.v .nilsl,.v .nilsl,vI6 0,vS nm0,.v .nilsl,.v .nilsl,vI6 0,vS nm0,vI6 0,.v .nilsl,.v .nilsl,.v .nilsl])] e) (@rDef_loop_none cK (l) (name) (e) hn hx0) ⟨⟨W,W,W,W,W,tV⟩,⟨⟨W,W,W,W,W,W,tV⟩,⟨Wq,Wq,Wq,Wq,Wq,Wq,Wq,Wq,Wq,Wq,Wq,Wq,Wq,Wq,Wq,Wq,Wq,Wq,Wq,Wq,Wq,Wq,Wq,Wq,Wq,tV⟩,tV⟩,rfl⟩]) func48)
def scP:List Bd->PV
 | [] => .nilp
 | x::r => .ro (.str (bdNm x)::(vlL (bdV x)++[scP r])) 0
def findB(name:BA):List Bd->Option Vl
 | []=>none
 | x::r=>if bdNm x=name then some (bdV x) else findB name r
abbrev findI(p:PV)(name:BA)(ext:Ext):S:=⟨[(0,.v p),(1,.v (.str name)),(4,.lp 4 0),(5,.v (.bool false))],[(4,List.replicate 7 jk)],ext⟩
theorem findE(name:BA)(ext:Ext)(cx:Cx)(hcx:cx.n=23){Q:PExit->S->Prop}(hq:Q (.exit 0) (S.mk [(0,.v .nilp),(1,vS name),(4,.lp 4 0),(5,.v (.bool false))] [(4,[jk,jk,jk,jk,jk,jk,jk])] ext)):PW prog cx (loopF f113 0) (findI .nilp name ext) Q:=
 pw mdL 23 [bf false] [0,1,4,5] [4] hcx hq
section
variable (x:Bd) (r:List Bd) (name:BA) (ext:Ext)
include x r name ext
theorem findN_1(hx0:bdNm x=name)(cx:Cx)(hcx:cx.n=23){Q:PExit->S->Prop}(hq:Q (.ret) (S.mk [(0,.v (.ro [.str (bdNm x),pI (vlO (bdV x)),pI (vlN (bdV x)),.str (vlNm (bdV x)),.sl 7 (Vl.cs (vlK (bdV x))),.sl 1 (nmsC (vlP (bdV x))),.sl 7 (Ex.cs (vlB (bdV x))),.sl 8 (Bd.cs (vlBd (bdV x))),scP r] 0)),(1,vS name),(4,.lp 4 0),(5,.v (.bool true))] [(4,vlV (bdV x))] ext)):PW prog cx (loopF f113 0) (findI (scP (x::r)) name ext) Q:=
 pw mdL 23 [bt true,bt (ByteArray.toList (bdNm x)==ByteArray.toList name) (bsT hx0)] [0,1,4,5] [4] hcx hq
theorem findN_2(hx0:¬bdNm x=name)(cx:Cx)(hcx:cx.n=23){Q:PExit->S->Prop}(hq:Q (.normal) (S.mk [(0,.v (scP r)),(1,vS name),(4,.lp 4 0),(5,.v (.bool false))] [(4,[jk,jk,jk,jk,jk,jk,jk])] ext)):PW prog cx (loopF f113 0) (findI (scP (x::r)) name ext) Q:=
 pw mdL 23 [bt true,bf (ByteArray.toList (bdNm x)==ByteArray.toList name) (bsF hx0)] [0,1,4,5] [4] hcx hq
end
def findR(name:BA)(ext:Ext)(l:List Bd):PExit × S:=match findB name l with
 | some v=>(.ret,⟨[(4,.lp 4 0),(5,.v (.bool true))],[(4,(vlL v).map .v)],ext⟩)
 | none=>(.exit 0,⟨[(4,.lp 4 0)],[(4,List.replicate 7 jk)],ext⟩)
theorem find_loop(name:BA)(ext:Ext)(l:List Bd):(Ob.loop 23 (loopF f113 0) (findI (scP l) name ext) (findR name ext l).1 (findR name ext l).2).ok prog:=by
 refine Ob.loop_of (α:=List Bd) (fun l=>findI (scP l) name ext) List.length (findR name ext) ?_ l
 intro l cx hcx
 cases l with
 | nil=>exact findE name ext cx hcx (.inr ⟨by simp,rfl,⟨W,tV⟩,⟨WLs.refl _,tV⟩,rfl⟩)
 | cons x r=>
  by_cases h:bdNm x=name
  ·have hr:findR name ext (x::r)=(.ret,⟨[(4,.lp 4 0),(5,.v (.bool true))],[(4,(vlL (bdV x)).map .v)],ext⟩):=by simp only [findR,findB,h,if_true]
   refine findN_1 x r name ext h cx hcx (.inr ?_)
   rw [hr]
   exact ⟨by simp,rfl,⟨W,W,tV⟩,⟨WLs.refl _,tV⟩,rfl⟩
  ·exact findN_2 x r name ext h cx hcx (.inl ⟨rfl,r,by simp,⟨⟨W,W,W,W,tV⟩,⟨WLs.refl _,tV⟩,rfl⟩,by simp only [findR,findB,h,if_false]⟩)
theorem find_loop_some(name:BA)(ext:Ext)(l:List Bd)(v:Vl)(h:findB name l=some v):(Ob.loop 23 (loopF f113 0) (findI (scP l) name ext) .ret ⟨[(4,.lp 4 0),(5,.v (.bool true))],[(4,(vlL v).map .v)],ext⟩).ok prog:=by
 have:=find_loop name ext l
 simp only [findR,h] at this
 exact this
theorem find_loop_none(name:BA)(ext:Ext)(l:List Bd)(h:findB name l=none):(Ob.loop 23 (loopF f113 0) (findI (scP l) name ext) (.exit 0) ⟨[(4,.lp 4 0)],[(4,List.replicate 7 jk)],ext⟩).ok prog:=by
 have:=find_loop name ext l
 simp only [findR,h] at this
 exact this
theorem eFind_1(l:List Bd)(name:BA)(hy0:Vl)(hx1:findB name l=some hy0):Pu 113 [scP l,.str name] (.ret (.tup [.agg (vlL hy0),.bool true])):=
 pu mdL (fun e=>[lp (S.mk [(0,.v (scP l)),(1,vS name),(4,.lp 4 0),(5,.v (.bool false))] [(4,vZ)] e) (@find_loop_some (name) (e) (l) hy0 hx1) ⟨⟨W,W,W,W,tV⟩,⟨⟨Wq,Wq,Wq,Wq,Wq,Wq,Wq,tV⟩,tV⟩,rfl⟩]) func113
theorem eFind_2(l:List Bd)(name:BA)(hx0:findB name l=none):Pu 113 [scP l,.str name] (.ret (.tup [.agg (v4 0 0 nm0 []),.bool false])):=
 Ob.pur_wk (Wk.t (WkL.c (Wk.a (kr (kr (kr (kn 7 (kn 1 (kn 7 (kn 8 (WkL.r _))))))))) (WkL.r _))) (pu mdL (fun e=>[lp (S.mk [(0,.v (scP l)),(1,vS name),(4,.lp 4 0),(5,.v (.bool false))] [(4,vZ)] e) (@find_loop_none (name) (e) (l) hx0) ⟨⟨W,W,W,W,tV⟩,⟨⟨Wq,Wq,Wq,Wq,Wq,Wq,Wq,tV⟩,tV⟩,rfl⟩]) func113)
def mdE:Md:=⟨fun t=>if t=106∨t=103 then some true else some false,fun _=>false⟩
abbrev zO:List LV:=[.v (.int .i64 0),.v (.int .i64 0),.v (.str nm0),.v .nilsl,.v .nilsl,.v .nilsl,.v .nilsl,.v (.int .i64 0),.v (.str nm0),.v (.int .i64 0)]
abbrev fnE:PV := .fn (.func 108) [] [.ro [.xp 1 0] 0,.xp 3 0]
abbrev fnL:PV := .fn (.func 107) [] [.ro [.xp 1 0] 0]
abbrev mch(cK:C5)(l:List Df)(fu st:Int)(wh:BA):List LV:=[.v cK.a,.v cK.b,.v cK.c,.v cK.d,.v cK.e,.v (.sl 25 (dfsC l)),.v (.int .i64 fu),.v (.int .i64 st),.v (.str wh),.v fnE]
abbrev EE(cK:C5)(l:List Df)(fu st:Int)(wh:BA):Ext:=[(0,zO),(1,mch cK l fu st wh),(2,[.v (.xp 1 0)]),(3,[.v fnL])]
abbrev stopP(k:Int):PV := .iface 146 (.agg [.int .i64 k])
section
variable (cK:C5) (l:List Df) (fu st:Int)
include cK l fu st
theorem eStep_1(wh:BA)(h0:0<=st)(h1:fu<=1000000)(hx0:st>=fu):Ef 120 [.xp 1 0] (EE cK l fu st wh) (.panic (stopP 24)) (EE cK l fu st wh):=
 ef mdE [dt1 hx0,cl (@eFail (24))] func120
theorem eStep_2(wh:BA)(h0:0<=st)(h1:fu<=1000000)(hx0:¬st>=fu):Ef 120 [.xp 1 0] (EE cK l fu st wh) (.ret (.tup [])) (EE cK l fu (st+1) wh):=
 ef mdE [df1 hx0,wr (st+1)] func120
theorem eDefn_1(wh name:BA)(hn:l.length<=1000000000)(hy0:Df)(hx1:findD name l=some hy0):Ef 45 [.xp 1 0,.str name] (EE cK l fu st wh) (rA (dfL hy0)) (EE cK l fu st wh):=
 ef mdE [cl (@sDef_1 cK (l) (name) hn hy0 hx1),cl (@eNeed_2 (true) rF)] func45
theorem eDefn_2(wh name:BA)(hn:l.length<=1000000000)(hx0:findD name l=none):Ef 45 [.xp 1 0,.str name] (EE cK l fu st wh) (.panic (stopP 19)) (EE cK l fu st wh):=
 ef mdE [cl (@sDef_2 cK (l) (name) hn hx0),cl (@eNeed_1 (false) rF)] func45
end
abbrev evOk(cK:C5)(l:List Df)(fu:Int)(s:List Bd)(x:Ex)(st:Int)(wh:BA)(v:Vl)(st':Int):Prop:=Ef 108 [.agg (exL x),scP s,.ro [.xp 1 0] 0,.xp 3 0] (EE cK l fu st wh) (.ret (.agg (vlL v))) (EE cK l fu st' wh)
abbrev evEr(cK:C5)(l:List Df)(fu:Int)(s:List Bd)(x:Ex)(st:Int)(wh:BA)(k st':Int)(wh':BA):Prop:=Ef 108 [.agg (exL x),scP s,.ro [.xp 1 0] 0,.xp 3 0] (EE cK l fu st wh) (.panic (stopP k)) (EE cK l fu st' wh')
section
variable (cK:C5) (l:List Df) (fu st:Int) (wh:BA) (h0:0<=st) (h1:fu<=1000000) (d:Df) (s:List Bd)
include cK l fu st wh h0 h1 d s
theorem eRunF(hs:st>=fu):Ef 79 [.xp 1 0,.agg (dfL d),scP s] (EE cK l fu st wh) (.panic (stopP 24)) (EE cK l fu st wh):=
 ef mdE [ce (@eStep_1 cK (l) (fu) (st) (wh) h0 h1 hs)] func79
theorem eRunT(hs:¬st>=fu)(v:Vl)(st':Int)(hv:evOk cK l fu s (dfB d) (st+1) (dfNm d) v st'):Ef 79 [.xp 1 0,.agg (dfL d),scP s] (EE cK l fu st wh) (rA (vlL v)) (EE cK l fu st' wh):=
 ef mdE [ce (@eStep_2 cK (l) (fu) (st) (wh) h0 h1 hs),ce hv] func79
theorem eRunE(hs:¬st>=fu)(k st':Int)(wh':BA)(hv:evEr cK l fu s (dfB d) (st+1) (dfNm d) k st' wh'):Ef 79 [.xp 1 0,.agg (dfL d),scP s] (EE cK l fu st wh) (.panic (stopP k)) (EE cK l fu st' wh'):=
 ef mdE [ce (@eStep_2 cK (l) (fu) (st) (wh) h0 h1 hs),ce hv] func79
end
end Go.Proofs.YtgonmmckkikmaaaGreat
