/- Values of Go as plain data, an evaluator over them, and what the functions of the program return; part Yd. -/
import Derived.Test.YthchpmnkecoafaaGreatDoorYc
import Derived.Test.YthchpmnkecoafaaGreatDoorYa
set_option linter.unusedSectionVars false
set_option linter.unusedSimpArgs false
set_option linter.unusedVariables false
namespace Go.Proofs.YthchpmnkecoafaaGreatDoor
open Go.Proofs.Tryz
open Go.Pv Go.Proofs.Tryz
set_option maxRecDepth 100000
def erN(b:Bool):Int:=if b=true then 0 else 3
theorem nErT(b:Bool):Pu 222 [.bool b] (.ret (.int .i64 (erN b))):=by
 cases b with
 | true=>exact pm mdL [bt true] func222
 | false=>exact pm mdL [bf false] func222
theorem nCkT(s:BA):Pu 172 [.str s] (rI (erN (nameB s))):=
 pm mdL [cl (@nNmT (s)),cl (@nErT (nameB s))] func172
abbrev tInt:BA:=⟨#[73,110,116]⟩
abbrev tBool:BA:=⟨#[66,111,111,108]⟩
abbrev tCell:BA:=⟨#[67,101,108,108]⟩
abbrev tFun:BA:=⟨#[70,117,110]⟩
def titleB(s:BA):Bool:=szB s&&cpB (s.data.toList.getD 0 default).toNat&&s.data.toList.all anB && !decide (s=tInt) && !decide (s=tBool) && !decide (s=tCell) && !decide (s=tFun)
theorem szB_s{s:BA}(h:szB s=true):s.size<=1000000000:=by
 simp only [szB,Bool.and_eq_true,decide_eq_true_eq] at h; omega
section
variable (s:BA) (hsa:szB s=true)
include s hsa
theorem nTiB(hsb:cpB (s.data.toList.getD 0 default).toNat=false):Pu 134 [.str s] (rB false):=
 pm mdL [cl (@nSiT (s)),rp 2 (bf (!szB s) (bnF hsa)),am ((0:Int)<=0/\0<(↑(ByteArray.size s):Int)) (by (apply szB_lt <;> first | assumption | omega | decide)),av (.v (.int .u8 (↑(UInt8.toNat (List.getD (Array.toList (ByteArray.data s)) (Int.toNat 0) default)):Int))) (.v (.int .u8 (↑(UInt8.toNat (List.getD (Array.toList (ByteArray.data s)) 0 default)):Int))) rF,bf (!szB s) (bnF hsa),cl (@nCpT ((↑(UInt8.toNat (List.getD (Array.toList (ByteArray.data s)) 0 default)):Int))),rp 2 (bf (!szB s) (bnF hsa)),rp 4 (bt (!cpB (↑(UInt8.toNat (List.getD (Array.toList (ByteArray.data s)) 0 default)):Int)) (bnT hsb)),bt true] func134
theorem nTiC(hsb:cpB (s.data.toList.getD 0 default).toNat=true)(hsc:s.data.toList.all anB=false):Pu 134 [.str s] (rB false):=
 pm mdL [cl (@nSiT (s)),rp 2 (bf (!szB s) (bnF hsa)),am ((0:Int)<=0/\0<(↑(ByteArray.size s):Int)) (by (apply szB_lt <;> first | assumption | omega | decide)),av (.v (.int .u8 (↑(UInt8.toNat (List.getD (Array.toList (ByteArray.data s)) (Int.toNat 0) default)):Int))) (.v (.int .u8 (↑(UInt8.toNat (List.getD (Array.toList (ByteArray.data s)) 0 default)):Int))) rF,bf (!szB s) (bnF hsa),cl (@nCpT ((↑(UInt8.toNat (List.getD (Array.toList (ByteArray.data s)) 0 default)):Int))),rp 2 (bf (!szB s) (bnF hsa)),rp 2 (bf (!cpB (↑(UInt8.toNat (List.getD (Array.toList (ByteArray.data s)) 0 default)):Int)) (bnF hsb)),cl (@nAlT (s) (by (apply szB_s <;> first | assumption | omega | decide))),rp 2 (bf (!cpB (↑(UInt8.toNat (List.getD (Array.toList (ByteArray.data s)) 0 default)):Int)) (bnF hsb)),bt (!List.all (Array.toList (ByteArray.data s)) anB) (bnT hsc)] func134
theorem nTiD_1(hsb:cpB (s.data.toList.getD 0 default).toNat=true)(hsc:s.data.toList.all anB=true)(hx0:¬s=ByteArray.mk #[73,110,116])(hx1:¬s=ByteArray.mk #[66,111,111,108])(hx2:¬s=ByteArray.mk #[67,101,108,108]):Pu 134 [.str s] (rB !ByteArray.toList s==ByteArray.toList (ByteArray.mk #[70,117,110])):=
 pm mdL [cl (@nSiT (s)),rp 2 (bf (!szB s) (bnF hsa)),am ((0:Int)<=0/\0<(↑(ByteArray.size s):Int)) (by (apply szB_lt <;> first | assumption | omega | decide)),av (.v (.int .u8 (↑(UInt8.toNat (List.getD (Array.toList (ByteArray.data s)) (Int.toNat 0) default)):Int))) (.v (.int .u8 (↑(UInt8.toNat (List.getD (Array.toList (ByteArray.data s)) 0 default)):Int))) rF,bf (!szB s) (bnF hsa),cl (@nCpT ((↑(UInt8.toNat (List.getD (Array.toList (ByteArray.data s)) 0 default)):Int))),rp 2 (bf (!szB s) (bnF hsa)),rp 2 (bf (!cpB (↑(UInt8.toNat (List.getD (Array.toList (ByteArray.data s)) 0 default)):Int)) (bnF hsb)),cl (@nAlT (s) (by (apply szB_s <;> first | assumption | omega | decide))),rp 2 (bf (!cpB (↑(UInt8.toNat (List.getD (Array.toList (ByteArray.data s)) 0 default)):Int)) (bnF hsb)),bf (!List.all (Array.toList (ByteArray.data s)) anB) (bnF hsc),rp 3 (bt (!ByteArray.toList s==ByteArray.toList (ByteArray.mk #[73,110,116])) (bnT (bsF hx0))),rp 3 (bt (!ByteArray.toList s==ByteArray.toList (ByteArray.mk #[66,111,111,108])) (bnT (bsF hx1))),rp 3 (bt (!ByteArray.toList s==ByteArray.toList (ByteArray.mk #[67,101,108,108])) (bnT (bsF hx2)))] func134
theorem nTiD_2(hsb:cpB (s.data.toList.getD 0 default).toNat=true)(hsc:s.data.toList.all anB=true)(hx0:¬s=ByteArray.mk #[73,110,116])(hx1:¬s=ByteArray.mk #[66,111,111,108])(hx2:s=ByteArray.mk #[67,101,108,108]):Pu 134 [.str s] (rB false):=
 pm mdL [cl (@nSiT (s)),rp 2 (bf (!szB s) (bnF hsa)),am ((0:Int)<=0/\0<(↑(ByteArray.size s):Int)) (by (apply szB_lt <;> first | assumption | omega | decide)),av (.v (.int .u8 (↑(UInt8.toNat (List.getD (Array.toList (ByteArray.data s)) (Int.toNat 0) default)):Int))) (.v (.int .u8 (↑(UInt8.toNat (List.getD (Array.toList (ByteArray.data s)) 0 default)):Int))) rF,bf (!szB s) (bnF hsa),cl (@nCpT ((↑(UInt8.toNat (List.getD (Array.toList (ByteArray.data s)) 0 default)):Int))),rp 2 (bf (!szB s) (bnF hsa)),rp 2 (bf (!cpB (↑(UInt8.toNat (List.getD (Array.toList (ByteArray.data s)) 0 default)):Int)) (bnF hsb)),cl (@nAlT (s) (by (apply szB_s <;> first | assumption | omega | decide))),rp 2 (bf (!cpB (↑(UInt8.toNat (List.getD (Array.toList (ByteArray.data s)) 0 default)):Int)) (bnF hsb)),bf (!List.all (Array.toList (ByteArray.data s)) anB) (bnF hsc),rp 3 (bt (!ByteArray.toList s==ByteArray.toList (ByteArray.mk #[73,110,116])) (bnT (bsF hx0))),rp 3 (bt (!ByteArray.toList s==ByteArray.toList (ByteArray.mk #[66,111,111,108])) (bnT (bsF hx1))),rp 3 (bf (!ByteArray.toList s==ByteArray.toList (ByteArray.mk #[67,101,108,108])) (bnF (bsT hx2)))] func134
theorem nTiD_3(hsb:cpB (s.data.toList.getD 0 default).toNat=true)(hsc:s.data.toList.all anB=true)(hx0:¬s=ByteArray.mk #[73,110,116])(hx1:s=ByteArray.mk #[66,111,111,108]):Pu 134 [.str s] (rB false):=
 pm mdL [cl (@nSiT (s)),rp 2 (bf (!szB s) (bnF hsa)),am ((0:Int)<=0/\0<(↑(ByteArray.size s):Int)) (by (apply szB_lt <;> first | assumption | omega | decide)),av (.v (.int .u8 (↑(UInt8.toNat (List.getD (Array.toList (ByteArray.data s)) (Int.toNat 0) default)):Int))) (.v (.int .u8 (↑(UInt8.toNat (List.getD (Array.toList (ByteArray.data s)) 0 default)):Int))) rF,bf (!szB s) (bnF hsa),cl (@nCpT ((↑(UInt8.toNat (List.getD (Array.toList (ByteArray.data s)) 0 default)):Int))),rp 2 (bf (!szB s) (bnF hsa)),rp 2 (bf (!cpB (↑(UInt8.toNat (List.getD (Array.toList (ByteArray.data s)) 0 default)):Int)) (bnF hsb)),cl (@nAlT (s) (by (apply szB_s <;> first | assumption | omega | decide))),rp 2 (bf (!cpB (↑(UInt8.toNat (List.getD (Array.toList (ByteArray.data s)) 0 default)):Int)) (bnF hsb)),bf (!List.all (Array.toList (ByteArray.data s)) anB) (bnF hsc),rp 3 (bt (!ByteArray.toList s==ByteArray.toList (ByteArray.mk #[73,110,116])) (bnT (bsF hx0))),rp 3 (bf (!ByteArray.toList s==ByteArray.toList (ByteArray.mk #[66,111,111,108])) (bnF (bsT hx1))),rp 3 (bf false)] func134
theorem nTiD_4(hsb:cpB (s.data.toList.getD 0 default).toNat=true)(hsc:s.data.toList.all anB=true)(hx0:s=ByteArray.mk #[73,110,116]):Pu 134 [.str s] (rB false):=
 pm mdL [cl (@nSiT (s)),rp 2 (bf (!szB s) (bnF hsa)),am ((0:Int)<=0/\0<(↑(ByteArray.size s):Int)) (by (apply szB_lt <;> first | assumption | omega | decide)),av (.v (.int .u8 (↑(UInt8.toNat (List.getD (Array.toList (ByteArray.data s)) (Int.toNat 0) default)):Int))) (.v (.int .u8 (↑(UInt8.toNat (List.getD (Array.toList (ByteArray.data s)) 0 default)):Int))) rF,bf (!szB s) (bnF hsa),cl (@nCpT ((↑(UInt8.toNat (List.getD (Array.toList (ByteArray.data s)) 0 default)):Int))),rp 2 (bf (!szB s) (bnF hsa)),rp 2 (bf (!cpB (↑(UInt8.toNat (List.getD (Array.toList (ByteArray.data s)) 0 default)):Int)) (bnF hsb)),cl (@nAlT (s) (by (apply szB_s <;> first | assumption | omega | decide))),rp 2 (bf (!cpB (↑(UInt8.toNat (List.getD (Array.toList (ByteArray.data s)) 0 default)):Int)) (bnF hsb)),bf (!List.all (Array.toList (ByteArray.data s)) anB) (bnF hsc),rp 3 (bf (!ByteArray.toList s==ByteArray.toList (ByteArray.mk #[73,110,116])) (bnF (bsT hx0))),rp 6 (bf false)] func134
end
theorem bcA{s:BA}{i:Nat}(h:i<List.length (s.data.toList)):(0:Int)<=((0:Nat):Int)/\((0:Nat):Int)<=(i:Int)/\(i:Int)<=(s.size:Int):=by
 have:=bzT h; omega
theorem bcB{s:BA}{i:Nat}(h:i<List.length (s.data.toList)):(0:Int)<=(i:Int)+1/\(i:Int)+1<=(s.size:Int)/\(s.size:Int)<=(s.size:Int):=by
 have:=bzT h; omega
def ptI:List UInt8->Nat
 | []=>0
 | c::r=>if ((c.toNat:Nat):Int)=46 then 0 else ptI r+1
abbrev nCu_I(s:BA)(j:Int)(e:Ext):S:=S.mk [(0,vS s),(2,vS nm0),(3,vS nm0),(4,.v (.bool false)),(5,vI6 j)] [] e
inductive nCu_R where
 | e0 (i:Nat)
 | e1
def nCu_f  : List UInt8->Nat->nCu_R
 | [],i=>(nCu_R.e1)
 | el::r,i=>(if (↑(UInt8.toNat el):Int)=46 then (nCu_R.e0 i) else nCu_f  r (i+1))
def nCu_q(s:BA)(e:Ext):nCu_R->PExit × S
 | .e0 i=>(.ret,S.mk [(0,vS s),(2,vS (ByteArray.extract s 0 i)),(3,vS (ByteArray.extract s (i+1) (ByteArray.size s))),(4,.v (.bool true))] [] e)
 | .e1=>(.exit 0,S.mk [(0,vS s),(2,vS nm0),(3,vS nm0),(4,.v (.bool false))] [] e)
theorem nCu_lp(s:BA)(e:Ext)(hN:List.length ((s.data.toList))<=1000000000):(Ob.loop 24 (loopF f132 0) (nCu_I s 0  e) (nCu_q s e (nCu_f  (List.drop 0 ((s.data.toList))) 0)).1 (nCu_q s e (nCu_f  (List.drop 0 ((s.data.toList))) 0)).2).ok prog:=by
 refine rng (List.length ((s.data.toList))) (fun j _=>nCu_I s j  e) (fun i _=>nCu_f  (List.drop i ((s.data.toList))) i) (nCu_q s e) (fun i _=>True) kR ?_ () trivial
 rintro i u hi -
 rcases Nat.lt_or_ge i (List.length ((s.data.toList))) with hlt | hge
 ·have hd:=drop_at hlt
  by_cases h0:(↑(UInt8.toNat (List.getD (Array.toList (ByteArray.data s)) i default)):Int)=46
  ·exact lX mdL [kp,dt ((i:Int)<(↑(ByteArray.size s):Int)) (by (apply bzT <;> first | assumption | omega | decide)),am ((0:Int)<=(i:Int)/\(i:Int)<(↑(ByteArray.size s):Int)) (by simp_all [List.length_map,List.length_append,List.length_cons,List.length_nil,nmsC_len,Pr.cs_len,Tp.cs_len,Pm.cs_len,Ex.cs_len,Al.cs_len,Vr.cs_len,Cn.cs_len,Da.cs_len,Cl.cs_len,Bo.cs_len,Df.cs_len,In.cs_len,Cs.cs_len,Ms.cs_len,Qu.cs_len,Sy.cs_len,Ho.cs_len,Int.toNat_natCast,Bool.cond_true_left,Bool.cond_false_right,Int.toNat_zero,tn1]),av (.v (.int .u8 (↑(UInt8.toNat (List.getD (Array.toList (ByteArray.data s)) (Int.toNat (i:Int)) default)):Int))) (.v (.int .u8 (↑(UInt8.toNat (List.getD (Array.toList (ByteArray.data s)) i default)):Int))) rF,et1 h0,am ((0:Int)<=(0:Int)/\(0:Int)<=(i:Int)/\(i:Int)<=(↑(ByteArray.size s):Int)) (by (apply bcA <;> first | assumption | omega | decide)),av (vS (ByteArray.extract s (Int.toNat (0:Int)) (Int.toNat (i:Int)))) (vS (ByteArray.extract s 0 i)) rF,wr ((i:Int)+1),am ((0:Int)<=(i:Int)+1/\(i:Int)+1<=(↑(ByteArray.size s):Int)/\(↑(ByteArray.size s):Int)<=(↑(ByteArray.size s):Int)) (by (apply bcB <;> first | assumption | omega | decide)),av (vS (ByteArray.extract s (Int.toNat ((i:Int)+1)) (Int.toNat (↑(ByteArray.size s):Int)))) (vS (ByteArray.extract s (i+1) (ByteArray.size s))) rF] (nCu_R.e0 i) (by rw [hd,nCu_f,iP h0])
  ·exact lN mdL [kp,dt ((i:Int)<(↑(ByteArray.size s):Int)) (by (apply bzT <;> first | assumption | omega | decide)),am ((0:Int)<=(i:Int)/\(i:Int)<(↑(ByteArray.size s):Int)) (by simp_all [List.length_map,List.length_append,List.length_cons,List.length_nil,nmsC_len,Pr.cs_len,Tp.cs_len,Pm.cs_len,Ex.cs_len,Al.cs_len,Vr.cs_len,Cn.cs_len,Da.cs_len,Cl.cs_len,Bo.cs_len,Df.cs_len,In.cs_len,Cs.cs_len,Ms.cs_len,Qu.cs_len,Sy.cs_len,Ho.cs_len,Int.toNat_natCast,Bool.cond_true_left,Bool.cond_false_right,Int.toNat_zero,tn1]),av (.v (.int .u8 (↑(UInt8.toNat (List.getD (Array.toList (ByteArray.data s)) (Int.toNat (i:Int)) default)):Int))) (.v (.int .u8 (↑(UInt8.toNat (List.getD (Array.toList (ByteArray.data s)) i default)):Int))) rF,en1 h0,wr ((i:Int)+1)] hlt () trivial (by rw [hd,nCu_f,iN h0])
 ·have he:i=List.length ((s.data.toList)):=by omega
  exact lX mdL [kp,df ((i:Int)<(↑(ByteArray.size s):Int)) (by (apply bzF <;> first | assumption | omega | decide))] (nCu_R.e1) (by rw [he,List.drop_length,nCu_f])
theorem nCu_0(s:BA)(e:Ext)(hN:List.length ((s.data.toList))<=1000000000)(p0:Nat)(hres:(nCu_f  ((s.data.toList)) 0)=(nCu_R.e0 p0)):(Ob.loop 24 (loopF f132 0) (nCu_I s 0  e) (nCu_q s e (nCu_R.e0 p0)).1 (nCu_q s e (nCu_R.e0 p0)).2).ok prog:=
 rz (nCu_lp s e hN) hres
theorem nCu_1(s:BA)(e:Ext)(hN:List.length ((s.data.toList))<=1000000000)(hres:(nCu_f  ((s.data.toList)) 0)=(nCu_R.e1)):(Ob.loop 24 (loopF f132 0) (nCu_I s 0  e) (nCu_q s e (nCu_R.e1)).1 (nCu_q s e (nCu_R.e1)).2).ok prog:=
 rz (nCu_lp s e hN) hres
theorem nCuL_1(s:BA)(hs:s.size<=1000000000)(hy0:Nat)(hx1:nCu_f (Array.toList (ByteArray.data s)) 0=nCu_R.e0 hy0):Pu 132 [.str s] (.ret (.tup [.str (ByteArray.extract s 0 hy0),.str (ByteArray.extract s (hy0+1) (ByteArray.size s)),.bool true])):=
 pu mdL (fun e=>[lp (S.mk [(0,vS s),(2,vS nm0),(3,vS nm0),(4,.v (.bool false)),(5,vI6 0)] [] e) (@nCu_0 (s) (e) (by (apply sz_le <;> first | assumption | omega | decide)) hy0 hx1) ⟨⟨W,Wq,Wq,W,W,tVv⟩,trivial,rfl⟩]) func132
theorem nCuL_2(s:BA)(hs:s.size<=1000000000)(hx0:nCu_f (Array.toList (ByteArray.data s)) 0=nCu_R.e1):Pu 132 [.str s] (.ret (.tup [.str s,.str nm0,.bool false])):=
 pu mdL (fun e=>[lp (S.mk [(0,vS s),(2,vS nm0),(3,vS nm0),(4,.v (.bool false)),(5,vI6 0)] [] e) (@nCu_1 (s) (e) (by (apply sz_le <;> first | assumption | omega | decide)) hx0) ⟨⟨W,Wq,Wq,W,W,tVv⟩,trivial,rfl⟩]) func132
theorem nTiT(s:BA):Pu 134 [.str s] (.ret (.bool (titleB s))):=by
 unfold titleB
 cases hsa:szB s with
 | false=>exact pm mdL [cl (@nSiT (s)),rp 5 (bt (!szB s) (bnT hsa)),rp 5 (bt true)] func134
 | true=>
  cases hsb:cpB (s.data.toList.getD 0 default).toNat with
  | false=>exact nTiB s hsa hsb
  | true=>
   cases hsc:s.data.toList.all anB with
   | false=>exact nTiC s hsa hsb hsc
   | true=>
    simp only [Bool.true_and]
    by_cases h1:s=tInt
    ·rw [decide_eq_true h1]; simpa using nTiD_4 s hsa hsb hsc h1
    ·by_cases h2:s=tBool
     ·rw [decide_eq_true h2]; simpa using nTiD_3 s hsa hsb hsc h1 h2
     ·by_cases h3:s=tCell
      ·rw [decide_eq_true h3]; simpa using nTiD_2 s hsa hsb hsc h1 h2 h3
      ·have e:(!decide (s=tInt) && !decide (s=tBool) && !decide (s=tCell) && !decide (s=tFun)) = !(ByteArray.toList s==ByteArray.toList tFun):=by
        rw [decide_eq_false h1,decide_eq_false h2,decide_eq_false h3]
        by_cases h4:s=tFun
        ·rw [decide_eq_true h4,bsT h4]; rfl
        ·rw [decide_eq_false h4,bsF h4]; rfl
       rw [e]
       exact nTiD_1 s hsa hsb hsc h1 h2 h3
theorem nCu_e:∀ (l:List UInt8) (k:Nat),nCu_f l k=if ptI l<l.length then .e0 (k+ptI l) else .e1
 | [],k=>by simp [nCu_f,ptI]
 | c::r,k=>by
  by_cases h:((c.toNat:Nat):Int)=46
  ·simp [nCu_f,ptI,h]
  ·simp only [nCu_f,ptI,h,if_false,nCu_e r (k+1),List.length_cons]
   by_cases h2:ptI r<r.length
   ·rw [iP h2,iP oM]; congr 1; omega
   ·rw [iN h2,iN oM]
abbrev ptS(s:BA):Nat:=ptI s.data.toList
theorem nCuT(s:BA)(hs:s.size<=1000000000)(hx:ptS s<s.size):Pu 132 [.str s] (.ret (.tup [.str (s.extract 0 (ptS s)),.str (s.extract (ptS s+1) s.size),.bool true])):=
 nCuL_1 s hs _ (by rw [nCu_e,iP (by simpa using hx),Nat.zero_add])
theorem nCuF(s:BA)(hs:s.size<=1000000000)(hx:¬ptS s<s.size):Pu 132 [.str s] (.ret (.tup [.str s,.str nm0,.bool false])):=
 nCuL_2 s hs (by rw [nCu_e,iN (by simpa using hx)])
def partB(s:BA):Bool:=szB s&&(s.data.toList.all anB||wordB s.data.toList)
abbrev coI(first rest:BA)(more:Bool)(xe:Ext):S:=⟨[(2,.v (.int .i64 0)),(4,.v (.str rest)),(5,.v (.bool more))],[],xe⟩
section
variable (rest:BA) (xe:Ext)
include rest xe
theorem coZ(cx:Cx)(hcx:cx.n=52){Q:PExit->S->Prop}(hq:Q (.exit 0) (S.mk [(2,vI6 0),(4,vS rest),(5,.v (.bool false))] [] xe)):PW prog cx (loopF f85 0) (coI rest rest false xe) Q:=
 pw mdL 52 [bf false] [2,4,5] [] hcx hq
theorem coT_1(hs:rest.size<=1000000000)(hx:ptS rest<rest.size)(hx0:szB (ByteArray.extract rest 0 (ptS rest))=false)(cx:Cx)(hcx:cx.n=52){Q:PExit->S->Prop}(hq:Q (.ret) (S.mk [(2,vI6 3),(4,vS (ByteArray.extract rest (ptS rest+1) (ByteArray.size rest))),(5,.v (.bool true))] [] xe)):PW prog cx (loopF f85 0) (coI rest rest true xe) Q:=
 pw mdL 52 [bt true,cl (@nCuT (rest) hs hx),cl (@nSiT (ByteArray.extract rest 0 (ptS rest))),rp 6 (bt1 (bnT hx0)),bt true] [2,4,5] [] hcx hq
theorem coT_2(hs:rest.size<=1000000000)(hx:ptS rest<rest.size)(hx0:szB (ByteArray.extract rest 0 (ptS rest))=true)(hx1:List.all (Array.toList (ByteArray.data (ByteArray.extract rest 0 (ptS rest)))) anB=false)(hx2:wordB (Array.toList (ByteArray.data (ByteArray.extract rest 0 (ptS rest))))=false)(cx:Cx)(hcx:cx.n=52){Q:PExit->S->Prop}(hq:Q (.ret) (S.mk [(2,vI6 3),(4,vS (ByteArray.extract rest (ptS rest+1) (ByteArray.size rest))),(5,.v (.bool true))] [] xe)):PW prog cx (loopF f85 0) (coI rest rest true xe) Q:=
 pw mdL 52 [bt true,cl (@nCuT (rest) hs hx),cl (@nSiT (ByteArray.extract rest 0 (ptS rest))),rp 2 (bf1 (bnF hx0)),cl (@nAlT (ByteArray.extract rest 0 (ptS rest)) (by (apply szB_s <;> first | assumption | omega | decide))),rp 2 (bf1 (bnF hx0)),rp 2 (bt1 (bnT hx1)),cl (@nWdT (ByteArray.extract rest 0 (ptS rest)) (by (apply szB_s <;> first | assumption | omega | decide))),bt1 (bnT hx1),bf1 (bnF hx0),bt1 (bnT hx1),bf1 (bnF hx0),bt1 (bnT hx2)] [2,4,5] [] hcx hq
theorem coT_3(hs:rest.size<=1000000000)(hx:ptS rest<rest.size)(hx0:szB (ByteArray.extract rest 0 (ptS rest))=true)(hx1:List.all (Array.toList (ByteArray.data (ByteArray.extract rest 0 (ptS rest)))) anB=false)(hx2:wordB (Array.toList (ByteArray.data (ByteArray.extract rest 0 (ptS rest))))=true)(cx:Cx)(hcx:cx.n=52){Q:PExit->S->Prop}(hq:Q (.normal) (S.mk [(2,vI6 0),(4,vS (ByteArray.extract rest (ptS rest+1) (ByteArray.size rest))),(5,.v (.bool true))] [] xe)):PW prog cx (loopF f85 0) (coI rest rest true xe) Q:=
 pw mdL 52 [bt true,cl (@nCuT (rest) hs hx),cl (@nSiT (ByteArray.extract rest 0 (ptS rest))),rp 2 (bf1 (bnF hx0)),cl (@nAlT (ByteArray.extract rest 0 (ptS rest)) (by (apply szB_s <;> first | assumption | omega | decide))),rp 2 (bf1 (bnF hx0)),rp 2 (bt1 (bnT hx1)),cl (@nWdT (ByteArray.extract rest 0 (ptS rest)) (by (apply szB_s <;> first | assumption | omega | decide))),bt1 (bnT hx1),bf1 (bnF hx0),bt1 (bnT hx1),bf1 (bnF hx0),bf1 (bnF hx2)] [2,4,5] [] hcx hq
theorem coT_4(hs:rest.size<=1000000000)(hx:ptS rest<rest.size)(hx0:szB (ByteArray.extract rest 0 (ptS rest))=true)(hx1:List.all (Array.toList (ByteArray.data (ByteArray.extract rest 0 (ptS rest)))) anB=true)(cx:Cx)(hcx:cx.n=52){Q:PExit->S->Prop}(hq:Q (.normal) (S.mk [(2,vI6 0),(4,vS (ByteArray.extract rest (ptS rest+1) (ByteArray.size rest))),(5,.v (.bool true))] [] xe)):PW prog cx (loopF f85 0) (coI rest rest true xe) Q:=
 pw mdL 52 [bt true,cl (@nCuT (rest) hs hx),cl (@nSiT (ByteArray.extract rest 0 (ptS rest))),rp 2 (bf1 (bnF hx0)),cl (@nAlT (ByteArray.extract rest 0 (ptS rest)) (by (apply szB_s <;> first | assumption | omega | decide))),rp 2 (bf1 (bnF hx0)),rp 3 (bf1 (bnF hx1)),bf1 (bnF hx0),bf1 (bnF hx1),bf1 (bnF hx0),bf false] [2,4,5] [] hcx hq
theorem coF_1(hs:rest.size<=1000000000)(hx:¬ptS rest<rest.size)(hx0:szB rest=false)(cx:Cx)(hcx:cx.n=52){Q:PExit->S->Prop}(hq:Q (.ret) (S.mk [(2,vI6 3),(4,vS nm0),(5,.v (.bool false))] [] xe)):PW prog cx (loopF f85 0) (coI rest rest true xe) Q:=
 pw mdL 52 [bt true,cl (@nCuF (rest) hs hx),cl (@nSiT (rest)),rp 6 (bt1 (bnT hx0)),bt true] [2,4,5] [] hcx hq
theorem coF_2(hs:rest.size<=1000000000)(hx:¬ptS rest<rest.size)(hx0:szB rest=true)(hx1:List.all (Array.toList (ByteArray.data rest)) anB=false)(hx2:wordB (Array.toList (ByteArray.data rest))=false)(cx:Cx)(hcx:cx.n=52){Q:PExit->S->Prop}(hq:Q (.ret) (S.mk [(2,vI6 3),(4,vS nm0),(5,.v (.bool false))] [] xe)):PW prog cx (loopF f85 0) (coI rest rest true xe) Q:=
 pw mdL 52 [bt true,cl (@nCuF (rest) hs hx),cl (@nSiT (rest)),rp 2 (bf1 (bnF hx0)),cl (@nAlT (rest) hs),rp 2 (bf1 (bnF hx0)),rp 2 (bt1 (bnT hx1)),cl (@nWdT (rest) hs),bt1 (bnT hx1),bf1 (bnF hx0),bt1 (bnT hx1),bf1 (bnF hx0),bt1 (bnT hx2)] [2,4,5] [] hcx hq
theorem coF_3(hs:rest.size<=1000000000)(hx:¬ptS rest<rest.size)(hx0:szB rest=true)(hx1:List.all (Array.toList (ByteArray.data rest)) anB=false)(hx2:wordB (Array.toList (ByteArray.data rest))=true)(cx:Cx)(hcx:cx.n=52){Q:PExit->S->Prop}(hq:Q (.normal) (S.mk [(2,vI6 0),(4,vS nm0),(5,.v (.bool false))] [] xe)):PW prog cx (loopF f85 0) (coI rest rest true xe) Q:=
 pw mdL 52 [bt true,cl (@nCuF (rest) hs hx),cl (@nSiT (rest)),rp 2 (bf1 (bnF hx0)),cl (@nAlT (rest) hs),rp 2 (bf1 (bnF hx0)),rp 2 (bt1 (bnT hx1)),cl (@nWdT (rest) hs),bt1 (bnT hx1),bf1 (bnF hx0),bt1 (bnT hx1),bf1 (bnF hx0),bf1 (bnF hx2)] [2,4,5] [] hcx hq
theorem coF_4(hs:rest.size<=1000000000)(hx:¬ptS rest<rest.size)(hx0:szB rest=true)(hx1:List.all (Array.toList (ByteArray.data rest)) anB=true)(cx:Cx)(hcx:cx.n=52){Q:PExit->S->Prop}(hq:Q (.normal) (S.mk [(2,vI6 0),(4,vS nm0),(5,.v (.bool false))] [] xe)):PW prog cx (loopF f85 0) (coI rest rest true xe) Q:=
 pw mdL 52 [bt true,cl (@nCuF (rest) hs hx),cl (@nSiT (rest)),rp 2 (bf1 (bnF hx0)),cl (@nAlT (rest) hs),rp 2 (bf1 (bnF hx0)),rp 3 (bf1 (bnF hx1)),bf1 (bnF hx0),bf1 (bnF hx1),bf1 (bnF hx0),bf false] [2,4,5] [] hcx hq
end
def coR:Nat->BA->Bool
 | 0,_=>true
 | n+1,s=>if ptS s<s.size then partB (s.extract 0 (ptS s))&&coR n (s.extract (ptS s+1) s.size) else partB s
theorem ext_lt(s:BA)(h:ptS s<s.size):(s.extract (ptS s+1) s.size).size<s.size:=by rw [ByteArray.size_extract]; omega
theorem coR_fuel:∀ (n m:Nat) (s:BA),s.size<n->s.size<m->coR n s=coR m s
 | 0,_,_,h,_=>by omega
 | _+1,0,_,_,h=>by omega
 | n+1,m+1,s,h,k=>by
  simp only [coR]
  by_cases hx:ptS s<s.size
  ·have:=ext_lt s hx
   rw [iP hx,iP hx,coR_fuel n m _ oM oM]
  ·rw [iN hx,iN hx]
def corG(s:BA):Bool:=coR (s.size+1) s
theorem corG_e(s:BA):corG s=if ptS s<s.size then partB (s.extract 0 (ptS s))&&corG (s.extract (ptS s+1) s.size) else partB s:=by
 unfold corG
 rw [coR]
 by_cases hx:ptS s<s.size
 ·have:=ext_lt s hx
  rw [iP hx,iP hx,coR_fuel _ ((s.extract (ptS s+1) s.size).size+1) _ oM oM]
 ·rw [iN hx,iN hx]
def coQ(xe:Ext)(b:Bool):PExit × S:=if b=true then (.exit 0,⟨[(2,.v (.int .i64 0))],[],xe⟩) else (.ret,⟨[(2,.v (.int .i64 3))],[],xe⟩)
def coM(x:BA × Bool):Bool:=if x.2=true then corG x.1 else true
theorem co_lp(xe:Ext)(rest:BA)(more:Bool)(hs:rest.size<=1000000000):(Ob.loop 52 (loopF f85 0) (coI rest rest more xe) (coQ xe (coM (rest,more))).1 (coQ xe (coM (rest,more))).2).ok prog:=by
 refine Ob.loop_of (P:=prog) (α:={ x:BA × Bool // x.1.size<=1000000000 }) (fun x=>coI x.1.1 x.1.1 x.1.2 xe) (fun x=>if x.1.2=true then x.1.1.size+1 else 0) (fun x=>coQ xe (coM x.1)) ?_ ⟨(rest,more),hs⟩
 clear hs more rest
 rintro ⟨⟨rest,more⟩,hs⟩ cx hcx
 replace hs:rest.size<=1000000000:=hs
 have W1:∀ (r:BA) (b:Bool),LeX (⟨[(2,.v (.int .i64 3))],[],xe⟩:S) ⟨[(2,.v (.int .i64 3)),(4,.v (.str r)),(5,.v (.bool b))],[],xe⟩:=fun r b=>⟨⟨W,tVv⟩,trivial,rfl⟩
 cases more with
 | false=>
  have hr:coQ xe (coM (rest,false))=(.exit 0,⟨[(2,.v (.int .i64 0))],[],xe⟩):=rfl
  refine coZ rest xe cx hcx (.inr ?_)
  simp only
  rw [hr]
  exact ⟨by simp,rfl,xr⟩
 | true=>
  have hm:coM (rest,true)=corG rest:=rfl
  by_cases hx:ptS rest<rest.size
  ·have hlt:=ext_lt rest hx
   have hg:=corG_e rest
   rw [iP hx] at hg
   have bad:partB (rest.extract 0 (ptS rest))=false->coQ xe (coM (rest,true))=(.ret,⟨[(2,.v (.int .i64 3))],[],xe⟩):=fun h=>by rw [hm,hg,h]; rfl
   have good:partB (rest.extract 0 (ptS rest))=true->coQ xe (coM (rest,true))=coQ xe (coM (rest.extract (ptS rest+1) rest.size,true)):=fun h=>by rw [hm,hg,h]; rfl
   cases h0:szB (rest.extract 0 (ptS rest)) with
   | false=>
    refine coT_1 rest xe hs hx h0 cx hcx (.inr ?_)
    simp only
    rw [bad (by simp [partB,h0])]
    exact ⟨by simp,rfl,W1 _ _⟩
   | true=>
    cases h1:(rest.extract 0 (ptS rest)).data.toList.all anB with
    | true=>exact coT_4 rest xe hs hx h0 h1 cx hcx (.inl ⟨rfl,⟨(rest.extract (ptS rest+1) rest.size,true),by simp only; omega⟩,by simp only [if_true]; omega,⟨⟨W,W,W,tVv⟩,trivial,rfl⟩,(good (by simp only [partB,h0,h1]; rfl)).symm⟩)
    | false=>
     cases h2:wordB (rest.extract 0 (ptS rest)).data.toList with
     | true=>exact coT_3 rest xe hs hx h0 h1 h2 cx hcx (.inl ⟨rfl,⟨(rest.extract (ptS rest+1) rest.size,true),by simp only; omega⟩,by simp only [if_true]; omega,⟨⟨W,W,W,tVv⟩,trivial,rfl⟩,(good (by simp only [partB,h0,h1,h2]; rfl)).symm⟩)
     | false=>
      refine coT_2 rest xe hs hx h0 h1 h2 cx hcx (.inr ?_)
      simp only
      rw [bad (by simp only [partB,h0,h1,h2]; rfl)]
      exact ⟨by simp,rfl,W1 _ _⟩
  ·have hg:=corG_e rest
   rw [iN hx] at hg
   have bad:partB rest=false->coQ xe (coM (rest,true))=(.ret,⟨[(2,.v (.int .i64 3))],[],xe⟩):=fun h=>by rw [hm,hg,h]; rfl
   have good:partB rest=true->coQ xe (coM (rest,true))=coQ xe (coM (nm0,false)):=fun h=>by rw [hm,hg,h]; rfl
   cases h0:szB rest with
   | false=>
    refine coF_1 rest xe hs hx h0 cx hcx (.inr ?_)
    simp only
    rw [bad (by simp [partB,h0])]
    exact ⟨by simp,rfl,W1 _ _⟩
   | true=>
    cases h1:rest.data.toList.all anB with
    | true=>exact coF_4 rest xe hs hx h0 h1 cx hcx (.inl ⟨rfl,⟨(nm0,false),by decide⟩,by simp,⟨⟨W,W,W,tVv⟩,trivial,rfl⟩,(good (by simp only [partB,h0,h1]; rfl)).symm⟩)
    | false=>
     cases h2:wordB rest.data.toList with
     | true=>exact coF_3 rest xe hs hx h0 h1 h2 cx hcx (.inl ⟨rfl,⟨(nm0,false),by decide⟩,by simp,⟨⟨W,W,W,tVv⟩,trivial,rfl⟩,(good (by simp only [partB,h0,h1,h2]; rfl)).symm⟩)
     | false=>
      refine coF_2 rest xe hs hx h0 h1 h2 cx hcx (.inr ?_)
      simp only
      rw [bad (by simp only [partB,h0,h1,h2]; rfl)]
      exact ⟨by simp,rfl,W1 _ _⟩
theorem co_T(xe:Ext)(rest:BA)(more:Bool)(hs:rest.size<=1000000000)(hb:coM (rest,more)=true):(Ob.loop 52 (loopF f85 0) (coI rest rest more xe) (.exit 0) ⟨[(2,.v (.int .i64 0))],[],xe⟩).ok prog:=by
 have:=co_lp xe rest more hs
 rw [hb] at this
 exact this
theorem co_F(xe:Ext)(rest:BA)(more:Bool)(hs:rest.size<=1000000000)(hb:coM (rest,more)=false):(Ob.loop 52 (loopF f85 0) (coI rest rest more xe) .ret ⟨[(2,.v (.int .i64 3))],[],xe⟩).ok prog:=by
 have:=co_lp xe rest more hs
 rw [hb] at this
 exact this
theorem ex_le{s:BA}{a b:Nat}(h:(s.size:Int)<=120):(s.extract a b).size<=1000000000:=by rw [ByteArray.size_extract]; omega
theorem s_le{s:BA}(h:(s.size:Int)<=120):s.size<=1000000000:=by omega
abbrev tV:BA:=⟨#[118]⟩
section
variable (s:BA)
include s
theorem nCoA(hl:(s.size:Int)>120):Pu 85 [.str s] (rI 3):=
 pm mdL [kp,dt ((↑(ByteArray.size s):Int)>120) hl] func85
theorem nCoB_1(hl:(s.size:Int)<=120)(hx:ptS s<s.size)(hx0:nameB (ByteArray.extract s 0 (ptS s))=false)(hx1:titleB (ByteArray.extract s 0 (ptS s))=false)(hx2:¬ByteArray.extract s 0 (ptS s)=ByteArray.mk #[118]):Pu 85 [.str s] (rI 3):=
 pm mdL [kp,df ((↑(ByteArray.size s):Int)>120),cl (@nCuT (s) oM hx),cl (@nNmT (ByteArray.extract s 0 (ptS s))),rp 2 (bt1 (bnT hx0)),cl (@nTiT (ByteArray.extract s 0 (ptS s))),rp 2 (bt1 (bnT hx0)),rp 3 (bt1 (bnT hx1)),rp 2 (bt (!ByteArray.toList (ByteArray.extract s 0 (ptS s))==ByteArray.toList (bM 118)) (bnT (bsF hx2))),bt1 (bnT hx1),bt (!ByteArray.toList (ByteArray.extract s 0 (ptS s))==ByteArray.toList (bM 118)) (bnT (bsF hx2)),bt1 (bnT hx1),bt true] func85
theorem nCoB_2(hl:(s.size:Int)<=120)(hx:ptS s<s.size)(hx0:nameB (ByteArray.extract s 0 (ptS s))=false)(hx1:titleB (ByteArray.extract s 0 (ptS s))=false)(hx2:ByteArray.extract s 0 (ptS s)=ByteArray.mk #[118])(hx3:coM (ByteArray.extract s (ptS s+1) (ByteArray.size s),true)=true):Pu 85 [.str s] (rI 0):=
 pu mdL (fun e=>[kp,df ((↑(ByteArray.size s):Int)>120),cl (@nCuT (s) oM hx),cl (@nNmT (ByteArray.extract s 0 (ptS s))),rp 2 (bt1 (bnT hx0)),cl (@nTiT (ByteArray.extract s 0 (ptS s))),rp 2 (bt1 (bnT hx0)),rp 3 (bt1 (bnT hx1)),rp 2 (bf (!ByteArray.toList (ByteArray.extract s 0 (ptS s))==ByteArray.toList (bM 118)) (bnF (bsT hx2))),bt1 (bnT hx1),bf (!ByteArray.toList (ByteArray.extract s 0 (ptS s))==ByteArray.toList (bM 118)) (bnF (bsT hx2)),bt1 (bnT hx1),bf false,lp (S.mk [(0,vS s),(2,vI6 0),(7,vS s),(8,vI6 (↑(ByteArray.size s):Int)),(9,.v (.bool (decide ((↑(ByteArray.size s):Int)>120)))),(11,vS s),(12,.v (.tup [.str (ByteArray.extract s 0 (ptS s)),.str (ByteArray.extract s (ptS s+1) (ByteArray.size s)),.bool true])),(10,.v (.tup [.str (ByteArray.extract s 0 (ptS s)),.str (ByteArray.extract s (ptS s+1) (ByteArray.size s)),.bool true])),(13,vS (ByteArray.extract s 0 (ptS s))),(14,vS (ByteArray.extract s (ptS s+1) (ByteArray.size s))),(15,.v (.bool true)),(3,vS (ByteArray.extract s 0 (ptS s))),(4,vS (ByteArray.extract s (ptS s+1) (ByteArray.size s))),(5,.v (.bool true)),(16,vS (ByteArray.extract s 0 (ptS s))),(17,.v (.bool (nameB (ByteArray.extract s 0 (ptS s))))),(18,.v (.bool !nameB (ByteArray.extract s 0 (ptS s)))),(19,.v (.bool !nameB (ByteArray.extract s 0 (ptS s)))),(20,vS (ByteArray.extract s 0 (ptS s))),(21,.v (.bool (titleB (ByteArray.extract s 0 (ptS s))))),(22,.v (.bool !titleB (ByteArray.extract s 0 (ptS s)))),(23,.v (.bool !titleB (ByteArray.extract s 0 (ptS s)))),(24,.v (.bool !titleB (ByteArray.extract s 0 (ptS s)))),(25,vS (ByteArray.extract s 0 (ptS s))),(26,.v (.bool !ByteArray.toList (ByteArray.extract s 0 (ptS s))==ByteArray.toList (bM 118))),(27,.v (.bool !ByteArray.toList (ByteArray.extract s 0 (ptS s))==ByteArray.toList (bM 118))),(28,.v (.bool true)),(29,.v (.bool false)),(30,.v (.bool false)),(31,.v (.bool false))] [] e) (@co_T (e) (ByteArray.extract s (ptS s+1) (ByteArray.size s)) (true) (by (apply ex_le <;> first | assumption | omega | decide)) hx3) xr]) func85
theorem nCoB_3(hl:(s.size:Int)<=120)(hx:ptS s<s.size)(hx0:nameB (ByteArray.extract s 0 (ptS s))=false)(hx1:titleB (ByteArray.extract s 0 (ptS s))=false)(hx2:ByteArray.extract s 0 (ptS s)=ByteArray.mk #[118])(hx3:coM (ByteArray.extract s (ptS s+1) (ByteArray.size s),true)=false):Pu 85 [.str s] (rI 3):=
 pu mdL (fun e=>[kp,df ((↑(ByteArray.size s):Int)>120),cl (@nCuT (s) oM hx),cl (@nNmT (ByteArray.extract s 0 (ptS s))),rp 2 (bt1 (bnT hx0)),cl (@nTiT (ByteArray.extract s 0 (ptS s))),rp 2 (bt1 (bnT hx0)),rp 3 (bt1 (bnT hx1)),rp 2 (bf (!ByteArray.toList (ByteArray.extract s 0 (ptS s))==ByteArray.toList (bM 118)) (bnF (bsT hx2))),bt1 (bnT hx1),bf (!ByteArray.toList (ByteArray.extract s 0 (ptS s))==ByteArray.toList (bM 118)) (bnF (bsT hx2)),bt1 (bnT hx1),bf false,lp (S.mk [(0,vS s),(2,vI6 0),(7,vS s),(8,vI6 (↑(ByteArray.size s):Int)),(9,.v (.bool (decide ((↑(ByteArray.size s):Int)>120)))),(11,vS s),(12,.v (.tup [.str (ByteArray.extract s 0 (ptS s)),.str (ByteArray.extract s (ptS s+1) (ByteArray.size s)),.bool true])),(10,.v (.tup [.str (ByteArray.extract s 0 (ptS s)),.str (ByteArray.extract s (ptS s+1) (ByteArray.size s)),.bool true])),(13,vS (ByteArray.extract s 0 (ptS s))),(14,vS (ByteArray.extract s (ptS s+1) (ByteArray.size s))),(15,.v (.bool true)),(3,vS (ByteArray.extract s 0 (ptS s))),(4,vS (ByteArray.extract s (ptS s+1) (ByteArray.size s))),(5,.v (.bool true)),(16,vS (ByteArray.extract s 0 (ptS s))),(17,.v (.bool (nameB (ByteArray.extract s 0 (ptS s))))),(18,.v (.bool !nameB (ByteArray.extract s 0 (ptS s)))),(19,.v (.bool !nameB (ByteArray.extract s 0 (ptS s)))),(20,vS (ByteArray.extract s 0 (ptS s))),(21,.v (.bool (titleB (ByteArray.extract s 0 (ptS s))))),(22,.v (.bool !titleB (ByteArray.extract s 0 (ptS s)))),(23,.v (.bool !titleB (ByteArray.extract s 0 (ptS s)))),(24,.v (.bool !titleB (ByteArray.extract s 0 (ptS s)))),(25,vS (ByteArray.extract s 0 (ptS s))),(26,.v (.bool !ByteArray.toList (ByteArray.extract s 0 (ptS s))==ByteArray.toList (bM 118))),(27,.v (.bool !ByteArray.toList (ByteArray.extract s 0 (ptS s))==ByteArray.toList (bM 118))),(28,.v (.bool true)),(29,.v (.bool false)),(30,.v (.bool false)),(31,.v (.bool false))] [] e) (@co_F (e) (ByteArray.extract s (ptS s+1) (ByteArray.size s)) (true) (by (apply ex_le <;> first | assumption | omega | decide)) hx3) xr]) func85
theorem nCoB_4(hl:(s.size:Int)<=120)(hx:ptS s<s.size)(hx0:nameB (ByteArray.extract s 0 (ptS s))=false)(hx1:titleB (ByteArray.extract s 0 (ptS s))=true)(hx2:coM (ByteArray.extract s (ptS s+1) (ByteArray.size s),true)=true):Pu 85 [.str s] (rI 0):=
 pu mdL (fun e=>[kp,df ((↑(ByteArray.size s):Int)>120),cl (@nCuT (s) oM hx),cl (@nNmT (ByteArray.extract s 0 (ptS s))),rp 2 (bt1 (bnT hx0)),cl (@nTiT (ByteArray.extract s 0 (ptS s))),rp 2 (bt1 (bnT hx0)),rp 5 (bf1 (bnF hx1)),bf false,lp (S.mk [(0,vS s),(2,vI6 0),(7,vS s),(8,vI6 (↑(ByteArray.size s):Int)),(9,.v (.bool (decide ((↑(ByteArray.size s):Int)>120)))),(11,vS s),(12,.v (.tup [.str (ByteArray.extract s 0 (ptS s)),.str (ByteArray.extract s (ptS s+1) (ByteArray.size s)),.bool true])),(10,.v (.tup [.str (ByteArray.extract s 0 (ptS s)),.str (ByteArray.extract s (ptS s+1) (ByteArray.size s)),.bool true])),(13,vS (ByteArray.extract s 0 (ptS s))),(14,vS (ByteArray.extract s (ptS s+1) (ByteArray.size s))),(15,.v (.bool true)),(3,vS (ByteArray.extract s 0 (ptS s))),(4,vS (ByteArray.extract s (ptS s+1) (ByteArray.size s))),(5,.v (.bool true)),(16,vS (ByteArray.extract s 0 (ptS s))),(17,.v (.bool (nameB (ByteArray.extract s 0 (ptS s))))),(18,.v (.bool !nameB (ByteArray.extract s 0 (ptS s)))),(19,.v (.bool !nameB (ByteArray.extract s 0 (ptS s)))),(20,vS (ByteArray.extract s 0 (ptS s))),(21,.v (.bool (titleB (ByteArray.extract s 0 (ptS s))))),(22,.v (.bool !titleB (ByteArray.extract s 0 (ptS s)))),(23,.v (.bool !titleB (ByteArray.extract s 0 (ptS s)))),(24,.v (.bool !titleB (ByteArray.extract s 0 (ptS s)))),(25,.v (.tup [])),(26,.v (.tup [])),(27,.v (.tup [])),(28,.v (.tup [])),(29,.v (.tup [])),(30,.v (.tup [])),(31,.v (.bool false))] [] e) (@co_T (e) (ByteArray.extract s (ptS s+1) (ByteArray.size s)) (true) (by (apply ex_le <;> first | assumption | omega | decide)) hx2) xr]) func85
theorem nCoB_5(hl:(s.size:Int)<=120)(hx:ptS s<s.size)(hx0:nameB (ByteArray.extract s 0 (ptS s))=false)(hx1:titleB (ByteArray.extract s 0 (ptS s))=true)(hx2:coM (ByteArray.extract s (ptS s+1) (ByteArray.size s),true)=false):Pu 85 [.str s] (rI 3):=
 pu mdL (fun e=>[kp,df ((↑(ByteArray.size s):Int)>120),cl (@nCuT (s) oM hx),cl (@nNmT (ByteArray.extract s 0 (ptS s))),rp 2 (bt1 (bnT hx0)),cl (@nTiT (ByteArray.extract s 0 (ptS s))),rp 2 (bt1 (bnT hx0)),rp 5 (bf1 (bnF hx1)),bf false,lp (S.mk [(0,vS s),(2,vI6 0),(7,vS s),(8,vI6 (↑(ByteArray.size s):Int)),(9,.v (.bool (decide ((↑(ByteArray.size s):Int)>120)))),(11,vS s),(12,.v (.tup [.str (ByteArray.extract s 0 (ptS s)),.str (ByteArray.extract s (ptS s+1) (ByteArray.size s)),.bool true])),(10,.v (.tup [.str (ByteArray.extract s 0 (ptS s)),.str (ByteArray.extract s (ptS s+1) (ByteArray.size s)),.bool true])),(13,vS (ByteArray.extract s 0 (ptS s))),(14,vS (ByteArray.extract s (ptS s+1) (ByteArray.size s))),(15,.v (.bool true)),(3,vS (ByteArray.extract s 0 (ptS s))),(4,vS (ByteArray.extract s (ptS s+1) (ByteArray.size s))),(5,.v (.bool true)),(16,vS (ByteArray.extract s 0 (ptS s))),(17,.v (.bool (nameB (ByteArray.extract s 0 (ptS s))))),(18,.v (.bool !nameB (ByteArray.extract s 0 (ptS s)))),(19,.v (.bool !nameB (ByteArray.extract s 0 (ptS s)))),(20,vS (ByteArray.extract s 0 (ptS s))),(21,.v (.bool (titleB (ByteArray.extract s 0 (ptS s))))),(22,.v (.bool !titleB (ByteArray.extract s 0 (ptS s)))),(23,.v (.bool !titleB (ByteArray.extract s 0 (ptS s)))),(24,.v (.bool !titleB (ByteArray.extract s 0 (ptS s)))),(25,.v (.tup [])),(26,.v (.tup [])),(27,.v (.tup [])),(28,.v (.tup [])),(29,.v (.tup [])),(30,.v (.tup [])),(31,.v (.bool false))] [] e) (@co_F (e) (ByteArray.extract s (ptS s+1) (ByteArray.size s)) (true) (by (apply ex_le <;> first | assumption | omega | decide)) hx2) xr]) func85
theorem nCoB_6(hl:(s.size:Int)<=120)(hx:ptS s<s.size)(hx0:nameB (ByteArray.extract s 0 (ptS s))=true)(hx1:coM (ByteArray.extract s (ptS s+1) (ByteArray.size s),true)=true):Pu 85 [.str s] (rI 0):=
 pu mdL (fun e=>[kp,df ((↑(ByteArray.size s):Int)>120),cl (@nCuT (s) oM hx),cl (@nNmT (ByteArray.extract s 0 (ptS s))),rp 4 (bf1 (bnF hx0)),rp 6 (bf false),lp (S.mk [(0,vS s),(2,vI6 0),(7,vS s),(8,vI6 (↑(ByteArray.size s):Int)),(9,.v (.bool (decide ((↑(ByteArray.size s):Int)>120)))),(11,vS s),(12,.v (.tup [.str (ByteArray.extract s 0 (ptS s)),.str (ByteArray.extract s (ptS s+1) (ByteArray.size s)),.bool true])),(10,.v (.tup [.str (ByteArray.extract s 0 (ptS s)),.str (ByteArray.extract s (ptS s+1) (ByteArray.size s)),.bool true])),(13,vS (ByteArray.extract s 0 (ptS s))),(14,vS (ByteArray.extract s (ptS s+1) (ByteArray.size s))),(15,.v (.bool true)),(3,vS (ByteArray.extract s 0 (ptS s))),(4,vS (ByteArray.extract s (ptS s+1) (ByteArray.size s))),(5,.v (.bool true)),(16,vS (ByteArray.extract s 0 (ptS s))),(17,.v (.bool (nameB (ByteArray.extract s 0 (ptS s))))),(18,.v (.bool !nameB (ByteArray.extract s 0 (ptS s)))),(19,.v (.bool !nameB (ByteArray.extract s 0 (ptS s)))),(20,.v (.tup [])),(21,.v (.tup [])),(22,.v (.tup [])),(23,.v (.bool false)),(24,.v (.bool false)),(25,.v (.tup [])),(26,.v (.tup [])),(27,.v (.tup [])),(28,.v (.tup [])),(29,.v (.tup [])),(30,.v (.tup [])),(31,.v (.bool false))] [] e) (@co_T (e) (ByteArray.extract s (ptS s+1) (ByteArray.size s)) (true) (by (apply ex_le <;> first | assumption | omega | decide)) hx1) xr]) func85
theorem nCoB_7(hl:(s.size:Int)<=120)(hx:ptS s<s.size)(hx0:nameB (ByteArray.extract s 0 (ptS s))=true)(hx1:coM (ByteArray.extract s (ptS s+1) (ByteArray.size s),true)=false):Pu 85 [.str s] (rI 3):=
 pu mdL (fun e=>[kp,df ((↑(ByteArray.size s):Int)>120),cl (@nCuT (s) oM hx),cl (@nNmT (ByteArray.extract s 0 (ptS s))),rp 4 (bf1 (bnF hx0)),rp 6 (bf false),lp (S.mk [(0,vS s),(2,vI6 0),(7,vS s),(8,vI6 (↑(ByteArray.size s):Int)),(9,.v (.bool (decide ((↑(ByteArray.size s):Int)>120)))),(11,vS s),(12,.v (.tup [.str (ByteArray.extract s 0 (ptS s)),.str (ByteArray.extract s (ptS s+1) (ByteArray.size s)),.bool true])),(10,.v (.tup [.str (ByteArray.extract s 0 (ptS s)),.str (ByteArray.extract s (ptS s+1) (ByteArray.size s)),.bool true])),(13,vS (ByteArray.extract s 0 (ptS s))),(14,vS (ByteArray.extract s (ptS s+1) (ByteArray.size s))),(15,.v (.bool true)),(3,vS (ByteArray.extract s 0 (ptS s))),(4,vS (ByteArray.extract s (ptS s+1) (ByteArray.size s))),(5,.v (.bool true)),(16,vS (ByteArray.extract s 0 (ptS s))),(17,.v (.bool (nameB (ByteArray.extract s 0 (ptS s))))),(18,.v (.bool !nameB (ByteArray.extract s 0 (ptS s)))),(19,.v (.bool !nameB (ByteArray.extract s 0 (ptS s)))),(20,.v (.tup [])),(21,.v (.tup [])),(22,.v (.tup [])),(23,.v (.bool false)),(24,.v (.bool false)),(25,.v (.tup [])),(26,.v (.tup [])),(27,.v (.tup [])),(28,.v (.tup [])),(29,.v (.tup [])),(30,.v (.tup [])),(31,.v (.bool false))] [] e) (@co_F (e) (ByteArray.extract s (ptS s+1) (ByteArray.size s)) (true) (by (apply ex_le <;> first | assumption | omega | decide)) hx1) xr]) func85
theorem nCoC_1(hl:(s.size:Int)<=120)(hx:¬ptS s<s.size)(hx0:nameB s=false)(hx1:titleB s=false)(hx2:¬s=ByteArray.mk #[118]):Pu 85 [.str s] (rI 3):=
 pm mdL [kp,df ((↑(ByteArray.size s):Int)>120),cl (@nCuF (s) oM hx),cl (@nNmT (s)),rp 2 (bt1 (bnT hx0)),cl (@nTiT (s)),rp 2 (bt1 (bnT hx0)),rp 3 (bt1 (bnT hx1)),rp 2 (bt (!ByteArray.toList s==ByteArray.toList (bM 118)) (bnT (bsF hx2))),bt1 (bnT hx1),bt (!ByteArray.toList s==ByteArray.toList (bM 118)) (bnT (bsF hx2)),bt1 (bnT hx1),bt true] func85
theorem nCoC_2(hl:(s.size:Int)<=120)(hx:¬ptS s<s.size)(hx0:nameB s=false)(hx1:titleB s=false)(hx2:s=ByteArray.mk #[118]):Pu 85 [.str s] (rI 3):=
 pm mdL [kp,df ((↑(ByteArray.size s):Int)>120),cl (@nCuF (s) oM hx),cl (@nNmT (s)),rp 2 (bt1 (bnT hx0)),cl (@nTiT (s)),rp 2 (bt1 (bnT hx0)),rp 3 (bt1 (bnT hx1)),rp 2 (bf (!ByteArray.toList s==ByteArray.toList (bM 118)) (bnF (bsT hx2))),bt1 (bnT hx1),bf (!ByteArray.toList s==ByteArray.toList (bM 118)) (bnF (bsT hx2)),bt1 (bnT hx1),bt true] func85
theorem nCoC_3(hl:(s.size:Int)<=120)(hx:¬ptS s<s.size)(hx0:nameB s=false)(hx1:titleB s=true):Pu 85 [.str s] (rI 0):=
 pu mdL (fun e=>[kp,df ((↑(ByteArray.size s):Int)>120),cl (@nCuF (s) oM hx),cl (@nNmT (s)),rp 2 (bt1 (bnT hx0)),cl (@nTiT (s)),rp 2 (bt1 (bnT hx0)),rp 5 (bf1 (bnF hx1)),bf false,lp (S.mk [(0,vS s),(2,vI6 0),(7,vS s),(8,vI6 (↑(ByteArray.size s):Int)),(9,.v (.bool (decide ((↑(ByteArray.size s):Int)>120)))),(11,vS s),(12,.v (.tup [.str s,.str nm0,.bool false])),(10,.v (.tup [.str s,.str nm0,.bool false])),(13,vS s),(14,vS nm0),(15,.v (.bool false)),(3,vS s),(4,vS nm0),(5,.v (.bool false)),(16,vS s),(17,.v (.bool (nameB s))),(18,.v (.bool !nameB s)),(19,.v (.bool !nameB s)),(20,vS s),(21,.v (.bool (titleB s))),(22,.v (.bool !titleB s)),(23,.v (.bool !titleB s)),(24,.v (.bool !titleB s)),(25,.v (.tup [])),(26,.v (.tup [])),(27,.v (.tup [])),(28,.v (.tup [])),(29,.v (.tup [])),(30,.v (.tup [])),(31,.v (.bool false))] [] e) (@co_T (e) (nm0) (false) (by (apply s_le <;> first | assumption | omega | decide)) rF) xr]) func85
theorem nCoC_4(hl:(s.size:Int)<=120)(hx:¬ptS s<s.size)(hx0:nameB s=true):Pu 85 [.str s] (rI 0):=
 pu mdL (fun e=>[kp,df ((↑(ByteArray.size s):Int)>120),cl (@nCuF (s) oM hx),cl (@nNmT (s)),rp 4 (bf1 (bnF hx0)),rp 6 (bf false),lp (S.mk [(0,vS s),(2,vI6 0),(7,vS s),(8,vI6 (↑(ByteArray.size s):Int)),(9,.v (.bool (decide ((↑(ByteArray.size s):Int)>120)))),(11,vS s),(12,.v (.tup [.str s,.str nm0,.bool false])),(10,.v (.tup [.str s,.str nm0,.bool false])),(13,vS s),(14,vS nm0),(15,.v (.bool false)),(3,vS s),(4,vS nm0),(5,.v (.bool false)),(16,vS s),(17,.v (.bool (nameB s))),(18,.v (.bool !nameB s)),(19,.v (.bool !nameB s)),(20,.v (.tup [])),(21,.v (.tup [])),(22,.v (.tup [])),(23,.v (.bool false)),(24,.v (.bool false)),(25,.v (.tup [])),(26,.v (.tup [])),(27,.v (.tup [])),(28,.v (.tup [])),(29,.v (.tup [])),(30,.v (.tup [])),(31,.v (.bool false))] [] e) (@co_T (e) (nm0) (false) (by (apply s_le <;> first | assumption | omega | decide)) rF) xr]) func85
end
abbrev cp0_I(l:List Pr)(mx:Int)(pf:List Pr->Int->Int)(j:Int)(n:Int)(e:Ext):S:=S.mk [(0,vL 4 (Pr.cs l)),(1,vI6 mx),(4,vI6 0),(5,vI6 n),(6,vI6 j)] [] e
def cp0_f(mx:Int)(pf:List Pr->Int->Int):List Pr->(Int)->(Int)
 | [],n=>(n)
 | el::r,n=>(if n<=mx then cp0_f mx pf r (IntKind.wrap .i64 (IntKind.wrap .i64 (IntKind.wrap .i64 (n+1)+IntKind.wrap .i64 (Int.tdiv (↑(ByteArray.size (prNm el)):Int) 100))+pf (prK el) (IntKind.wrap .i64 (mx - IntKind.wrap .i64 (IntKind.wrap .i64 (n+1)+IntKind.wrap .i64 (Int.tdiv (↑(ByteArray.size (prNm el)):Int) 100)))))) else (n))
def cp0_q(l:List Pr)(mx:Int)(pf:List Pr->Int->Int)(e:Ext)(p:(Int)):PExit × S:=(.exit 0,S.mk [(0,vL 4 (Pr.cs l)),(1,vI6 mx),(4,vI6 0),(5,vI6 p)] [] e)
theorem cp0(l:List Pr)(mx:Int)(pf:List Pr->Int->Int)(hwk:∀ (w:Pr) (k:Int),w∈l->Pu 24 [.sl 4 (Pr.cs (prK w)),.int .i64 k] (.ret (.int .i64 (pf (prK w) k))))(n:Int)(e:Ext)(hN:l.length<=1000000000)  : (Ob.loop 40 (loopF f24 0) (cp0_I l mx pf 0 n e) (cp0_q l mx pf e (cp0_f mx pf (l)  n)).1 (cp0_q l mx pf e (cp0_f mx pf (l)  n)).2).ok prog:=by
 refine rng l.length (fun j n=>cp0_I l mx pf j n e) (fun i n=>cp0_f mx pf (List.drop i (l))  n) (cp0_q l mx pf e) (fun i n=>True) kR ?_ n trivial
 rintro i n hi -
 rcases Nat.lt_or_ge i (l.length) with hlt | hge
 ·have hd:=drop_at hlt
  by_cases h0:n<=mx
  ·exact lN mdL [sl (Pr.cs_len l),rp 4 (dt ((i:Int)<(l.length:Int))),dt1 h0,kp,am ((0:Int)<=(i:Int)/\(i:Int)<((Pr.cs l).length:Int)) (by (simp only [Pr.cs_len]; omega)),xPr l i hlt,rp 3 (kp),ab true,am ((0:Int)<=(i:Int)/\(i:Int)<((Pr.cs l).length:Int)) (by (simp only [Pr.cs_len]; omega)),xPr l i hlt,kp,cl (@hwk (List.getD l i default) (IntKind.wrap .i64 (mx - IntKind.wrap .i64 (IntKind.wrap .i64 (n+1)+IntKind.wrap .i64 (Int.tdiv (↑(ByteArray.size (prNm (List.getD l i default))):Int) 100)))) (by simp_all [List.length_map,List.length_append,List.length_cons,List.length_nil,nmsC_len,Pr.cs_len,Tp.cs_len,Pm.cs_len,Ex.cs_len,Al.cs_len,Vr.cs_len,Cn.cs_len,Da.cs_len,Cl.cs_len,Bo.cs_len,Df.cs_len,In.cs_len,Cs.cs_len,Ms.cs_len,Qu.cs_len,Sy.cs_len,Ho.cs_len,Int.toNat_natCast,Bool.cond_true_left,Bool.cond_false_right])),kp,wr ((i:Int)+1)] hlt (IntKind.wrap .i64 (IntKind.wrap .i64 (IntKind.wrap .i64 (n+1)+IntKind.wrap .i64 (Int.tdiv (↑(ByteArray.size (prNm (List.getD l i default))):Int) 100))+pf (prK (List.getD l i default)) (IntKind.wrap .i64 (mx - IntKind.wrap .i64 (IntKind.wrap .i64 (n+1)+IntKind.wrap .i64 (Int.tdiv (↑(ByteArray.size (prNm (List.getD l i default))):Int) 100)))))) trivial (by rw [hd,cp0_f,iP h0])
  ·exact lX mdL [sl (Pr.cs_len l),rp 4 (dt ((i:Int)<(l.length:Int))),df1 h0] (n) (by rw [hd,cp0_f,iN h0])
 ·have he:i=l.length:=by omega
  exact lX mdL [sl (Pr.cs_len l),rp 4 (df ((i:Int)<(l.length:Int))),bf false] (n) (by rw [he,List.drop_length,cp0_f])
theorem cpL(l:List Pr)(mx:Int)(pf:List Pr->Int->Int)(hwk:∀ (w:Pr) (k:Int),w∈l->Pu 24 [.sl 4 (Pr.cs (prK w)),.int .i64 k] (.ret (.int .i64 (pf (prK w) k))))(hN:l.length<=1000000000):Pu 24 [.sl 4 (Pr.cs l),pI mx] (rI (cp0_f mx pf l 0)):=
 pu mdL (fun e=>[lq (@cp0 (l) (mx) (pf) hwk (0) (e) hN)]) func24
def cpD:Nat->List Pr->Int->Int
 | 0,_,_=>0
 | d+1,l,mx=>cp0_f mx (cpD d) l 0
theorem prK_bulk(x:Pr):bulkPss (Pr.cs (prK x))<bulkPs (prL x):=by simp only [bulkPs,bulkP]; omega
theorem cp_ok:∀ (d:Nat) (l:List Pr) (mx:Int),bulkPss (Pr.cs l)<d->bulkPss (Pr.cs l)<=100000000->Pu 24 [.sl 4 (Pr.cs l),.int .i64 mx] (.ret (.int .i64 (cpD d l mx)))
 | 0,_,_,h,_=>by omega
 | d+1,l,mx,h,hs=>cpL l mx (cpD d) (fun w k hw=>cp_ok d (prK w) k (by have:=prK_bulk w; have:=Pr.mem hw; omega) (by have:=prK_bulk w; have:=Pr.mem hw; omega)) (by have:=Pr.bulk l; omega)
def cpF(l:List Pr)(mx:Int):Int:=cpD (bulkPss (Pr.cs l)+1) l mx
theorem cpT(l:List Pr)(mx:Int)(hs:bulkPss (Pr.cs l)<=100000000):Pu 24 [.sl 4 (Pr.cs l),.int .i64 mx] (.ret (.int .i64 (cpF l mx))):=cp_ok _ l mx oM hs
theorem cpT1(x:Pr)(mx:Int)(hs:bulkPs (prL x)<=100000000):Pu 24 [.sl 4 [prL x],.int .i64 mx] (.ret (.int .i64 (cpF [x] mx))):=by
 have e:Pr.cs [x]=[prL x]:=by simp [Pr.cs_eq]
 have:=cpT [x] mx (by rw [e]; simpa [bulkPss] using hs)
 rwa [e] at this
theorem cpT2(x y:Pr)(mx:Int)(hs:bulkPs (prL x)+bulkPs (prL y)<=100000000):Pu 24 [.sl 4 [prL x,prL y],.int .i64 mx] (.ret (.int .i64 (cpF [x,y] mx))):=by
 have e:Pr.cs [x,y]=[prL x,prL y]:=by simp [Pr.cs_eq]
 have:=cpT [x,y] mx (by rw [e]; simpa only [bulkPss,Nat.add_zero,Nat.add_assoc] using hs)
 rwa [e] at this
abbrev ct0_I(l:List Tp)(mx:Int)(pf:List Pr->Int->Int)(tf:List Tp->Int->Int)(j:Int)(n:Int)(e:Ext):S:=S.mk [(0,vL 9 (Tp.cs l)),(1,vI6 mx),(4,vI6 0),(5,vI6 n),(6,vI6 j)] [] e
def ct0_f(mx:Int)(pf:List Pr->Int->Int)(tf:List Tp->Int->Int):List Tp->(Int)->(Int)
 | [],n=>(n)
 | el::r,n=>(if n<=mx then ct0_f mx pf tf r (IntKind.wrap .i64 (IntKind.wrap .i64 (IntKind.wrap .i64 (IntKind.wrap .i64 (IntKind.wrap .i64 (IntKind.wrap .i64 (n+1)+IntKind.wrap .i64 (Int.tdiv (↑(ByteArray.size (tpNm el)):Int) 100))+((tpNs el).length:Int))+pf (tpPs el) mx)+pf [tpP el] mx)+tf (tpA el) (IntKind.wrap .i64 (mx - IntKind.wrap .i64 (IntKind.wrap .i64 (IntKind.wrap .i64 (IntKind.wrap .i64 (IntKind.wrap .i64 (n+1)+IntKind.wrap .i64 (Int.tdiv (↑(ByteArray.size (tpNm el)):Int) 100))+((tpNs el).length:Int))+pf (tpPs el) mx)+pf [tpP el] mx))))) else (n))
def ct0_q(l:List Tp)(mx:Int)(pf:List Pr->Int->Int)(tf:List Tp->Int->Int)(e:Ext)(p:(Int)):PExit × S:=(.exit 0,S.mk [(0,vL 9 (Tp.cs l)),(1,vI6 mx),(4,vI6 0),(5,vI6 p)] [] e)
theorem ct0(l:List Tp)(mx:Int)(pf:List Pr->Int->Int)(tf:List Tp->Int->Int)(hp:∀ (w:Tp) (k:Int),w∈l->Pu 24 [.sl 4 (Pr.cs (tpPs w)),.int .i64 k] (.ret (.int .i64 (pf (tpPs w) k))))(hpp:∀ (w:Tp) (k:Int),w∈l->Pu 24 [.sl 4 [prL (tpP w)],.int .i64 k] (.ret (.int .i64 (pf [tpP w] k))))(ht:∀ (w:Tp) (k:Int),w∈l->Pu 23 [.sl 9 (Tp.cs (tpA w)),.int .i64 k] (.ret (.int .i64 (tf (tpA w) k))))(n:Int)(e:Ext)(hN:l.length<=1000000000)  : (Ob.loop 64 (loopF f23 0) (ct0_I l mx pf tf 0 n e) (ct0_q l mx pf tf e (ct0_f mx pf tf (l)  n)).1 (ct0_q l mx pf tf e (ct0_f mx pf tf (l)  n)).2).ok prog:=by
 refine rng l.length (fun j n=>ct0_I l mx pf tf j n e) (fun i n=>ct0_f mx pf tf (List.drop i (l))  n) (ct0_q l mx pf tf e) (fun i n=>True) kR ?_ n trivial
 rintro i n hi -
 rcases Nat.lt_or_ge i (l.length) with hlt | hge
 ·have hd:=drop_at hlt
  by_cases h0:n<=mx
  ·exact lN mdL [sl (Tp.cs_len l),rp 4 (dt ((i:Int)<(l.length:Int))),dt1 h0,kp,am ((0:Int)<=(i:Int)/\(i:Int)<((Tp.cs l).length:Int)) (by (simp only [Tp.cs_len]; omega)),xTp l i hlt,rp 3 (kp),ab true,am ((0:Int)<=(i:Int)/\(i:Int)<((Tp.cs l).length:Int)) (by (simp only [Tp.cs_len]; omega)),xTp l i hlt,sl (nmsC_len (tpNs (List.getD l i default))),kp,am ((0:Int)<=(i:Int)/\(i:Int)<((Tp.cs l).length:Int)) (by (simp only [Tp.cs_len]; omega)),xTp l i hlt,cl (@hp (List.getD l i default) (mx) (by simp_all [List.length_map,List.length_append,List.length_cons,List.length_nil,nmsC_len,Pr.cs_len,Tp.cs_len,Pm.cs_len,Ex.cs_len,Al.cs_len,Vr.cs_len,Cn.cs_len,Da.cs_len,Cl.cs_len,Bo.cs_len,Df.cs_len,In.cs_len,Cs.cs_len,Ms.cs_len,Qu.cs_len,Sy.cs_len,Ho.cs_len,Int.toNat_natCast,Bool.cond_true_left,Bool.cond_false_right])),kp,am ((0:Int)<=(i:Int)/\(i:Int)<((Tp.cs l).length:Int)) (by (simp only [Tp.cs_len]; omega)),xTp l i hlt,cl (@hpp (List.getD l i default) (mx) (by simp_all [List.length_map,List.length_append,List.length_cons,List.length_nil,nmsC_len,Pr.cs_len,Tp.cs_len,Pm.cs_len,Ex.cs_len,Al.cs_len,Vr.cs_len,Cn.cs_len,Da.cs_len,Cl.cs_len,Bo.cs_len,Df.cs_len,In.cs_len,Cs.cs_len,Ms.cs_len,Qu.cs_len,Sy.cs_len,Ho.cs_len,Int.toNat_natCast,Bool.cond_true_left,Bool.cond_false_right])),kp,am ((0:Int)<=(i:Int)/\(i:Int)<((Tp.cs l).length:Int)) (by (simp only [Tp.cs_len]; omega)),xTp l i hlt,kp,cl (@ht (List.getD l i default) (IntKind.wrap .i64 (mx - IntKind.wrap .i64 (IntKind.wrap .i64 (IntKind.wrap .i64 (IntKind.wrap .i64 (IntKind.wrap .i64 (n+1)+IntKind.wrap .i64 (Int.tdiv (↑(ByteArray.size (tpNm (List.getD l i default))):Int) 100))+((tpNs (List.getD l i default)).length:Int))+pf (tpPs (List.getD l i default)) mx)+pf [tpP (List.getD l i default)] mx))) (by simp_all [List.length_map,List.length_append,List.length_cons,List.length_nil,nmsC_len,Pr.cs_len,Tp.cs_len,Pm.cs_len,Ex.cs_len,Al.cs_len,Vr.cs_len,Cn.cs_len,Da.cs_len,Cl.cs_len,Bo.cs_len,Df.cs_len,In.cs_len,Cs.cs_len,Ms.cs_len,Qu.cs_len,Sy.cs_len,Ho.cs_len,Int.toNat_natCast,Bool.cond_true_left,Bool.cond_false_right])),kp,wr ((i:Int)+1)] hlt (IntKind.wrap .i64 (IntKind.wrap .i64 (IntKind.wrap .i64 (IntKind.wrap .i64 (IntKind.wrap .i64 (IntKind.wrap .i64 (n+1)+IntKind.wrap .i64 (Int.tdiv (↑(ByteArray.size (tpNm (List.getD l i default))):Int) 100))+((tpNs (List.getD l i default)).length:Int))+pf (tpPs (List.getD l i default)) mx)+pf [tpP (List.getD l i default)] mx)+tf (tpA (List.getD l i default)) (IntKind.wrap .i64 (mx - IntKind.wrap .i64 (IntKind.wrap .i64 (IntKind.wrap .i64 (IntKind.wrap .i64 (IntKind.wrap .i64 (n+1)+IntKind.wrap .i64 (Int.tdiv (↑(ByteArray.size (tpNm (List.getD l i default))):Int) 100))+((tpNs (List.getD l i default)).length:Int))+pf (tpPs (List.getD l i default)) mx)+pf [tpP (List.getD l i default)] mx))))) trivial (by rw [hd,ct0_f,iP h0])
  ·exact lX mdL [sl (Tp.cs_len l),rp 4 (dt ((i:Int)<(l.length:Int))),df1 h0] (n) (by rw [hd,ct0_f,iN h0])
 ·have he:i=l.length:=by omega
  exact lX mdL [sl (Tp.cs_len l),rp 4 (df ((i:Int)<(l.length:Int))),bf false] (n) (by rw [he,List.drop_length,ct0_f])
theorem ctL(l:List Tp)(mx:Int)(pf:List Pr->Int->Int)(tf:List Tp->Int->Int)(hp:∀ (w:Tp) (k:Int),w∈l->Pu 24 [.sl 4 (Pr.cs (tpPs w)),.int .i64 k] (.ret (.int .i64 (pf (tpPs w) k))))(hpp:∀ (w:Tp) (k:Int),w∈l->Pu 24 [.sl 4 [prL (tpP w)],.int .i64 k] (.ret (.int .i64 (pf [tpP w] k))))(ht:∀ (w:Tp) (k:Int),w∈l->Pu 23 [.sl 9 (Tp.cs (tpA w)),.int .i64 k] (.ret (.int .i64 (tf (tpA w) k))))(hN:l.length<=1000000000):Pu 23 [.sl 9 (Tp.cs l),pI mx] (rI (ct0_f mx pf tf l 0)):=
 pu mdL (fun e=>[lq (@ct0 (l) (mx) (pf) (tf) hp hpp ht (0) (e) hN)]) func23
def ctD:Nat->List Tp->Int->Int
 | 0,_,_=>0
 | d+1,l,mx=>ct0_f mx cpF (ctD d) l 0
theorem tp_bulk(x:Tp):bulkPss (Tp.cs (tpA x))+bulkPss (Pr.cs (tpPs x))+bulkPs (prL (tpP x))<bulkPs (tpL x):=by simp only [bulkPs,bulkP]; omega
theorem ct_ok:∀ (d:Nat) (l:List Tp) (mx:Int),bulkPss (Tp.cs l)<d->bulkPss (Tp.cs l)<=100000000->Pu 23 [.sl 9 (Tp.cs l),.int .i64 mx] (.ret (.int .i64 (ctD d l mx)))
 | 0,_,_,h,_=>by omega
 | d+1,l,mx,h,hs=>ctL l mx cpF (ctD d) (fun w k hw=>cpT _ k (by have:=tp_bulk w; have:=Tp.mem hw; omega)) (fun w k hw=>cpT1 _ k (by have:=tp_bulk w; have:=Tp.mem hw; omega)) (fun w k hw=>ct_ok d (tpA w) k (by have:=tp_bulk w; have:=Tp.mem hw; omega) (by have:=tp_bulk w; have:=Tp.mem hw; omega)) (by have:=Tp.bulk l; omega)
def ctF(l:List Tp)(mx:Int):Int:=ctD (bulkPss (Tp.cs l)+1) l mx
theorem ctT(l:List Tp)(mx:Int)(hs:bulkPss (Tp.cs l)<=100000000):Pu 23 [.sl 9 (Tp.cs l),.int .i64 mx] (.ret (.int .i64 (ctF l mx))):=ct_ok _ l mx oM hs
theorem ctT1(x:Tp)(mx:Int)(hs:bulkPs (tpL x)<=100000000):Pu 23 [.sl 9 [tpL x],.int .i64 mx] (.ret (.int .i64 (ctF [x] mx))):=by
 have e:Tp.cs [x]=[tpL x]:=by simp [Tp.cs_eq]
 have:=ctT [x] mx (by rw [e]; simpa [bulkPss] using hs)
 rwa [e] at this
abbrev pa0_I(x:Ex)(mx:Int)(efz:Ex->Int->Int)(j:Int)(n:Int)(e:Ext):S:=S.mk [(1,vI6 mx),(2,.lp 2 0),(4,vI6 0),(5,vI6 n),(6,vI6 j)] [(2,exV x)] e
def pa0_f(mx:Int):List Pm->(Int)->(Int)
 | [],n=>(n)
 | el::r,n=>(if n<=mx then pa0_f mx r (IntKind.wrap .i64 (IntKind.wrap .i64 (IntKind.wrap .i64 (n+1)+IntKind.wrap .i64 (Int.tdiv (↑(ByteArray.size (pmNm el)):Int) 100))+ctF [pmT el] mx)) else (n))
def pa0_q(x:Ex)(mx:Int)(efz:Ex->Int->Int)(e:Ext)(p:(Int)):PExit × S:=(.exit 0,S.mk [(1,vI6 mx),(2,.lp 2 0),(4,vI6 0),(5,vI6 p)] [(2,exV x)] e)
theorem pa0(x:Ex)(mx:Int)(efz:Ex->Int->Int)(ht:∀ (k:Int),Pu 23 [.sl 9 (Tp.cs (exT x)),.int .i64 k] (.ret (.int .i64 (ctF (exT x) k))))(hP:∀ (p:Pm) (k:Int),p∈exP x->Pu 23 [.sl 9 [tpL (pmT p)],.int .i64 k] (.ret (.int .i64 (ctF [pmT p] k))))(hK:∀ (w:Ex) (k:Int),w∈exK x->Pu 65 [.agg (exL w),.int .i64 k] (.ret (.int .i64 (efz w k))))(hA:∀ (a:Al) (k:Int),a∈exA x->Pu 65 [.agg (exL (alB a)),.int .i64 k] (.ret (.int .i64 (efz (alB a) k))))(n:Int)(e:Ext)(hN:(exP x).length<=1000000000)  : (Ob.loop 108 (loopF f65 0) (pa0_I x mx efz 0 n e) (pa0_q x mx efz e (pa0_f mx ((exP x))  n)).1 (pa0_q x mx efz e (pa0_f mx ((exP x))  n)).2).ok prog:=by
 refine rng ((exP x).length) (fun j n=>pa0_I x mx efz j n e) (fun i n=>pa0_f mx (List.drop i ((exP x)))  n) (pa0_q x mx efz e) (fun i n=>True) kR ?_ n trivial
 rintro i n hi -
 rcases Nat.lt_or_ge i ((exP x).length) with hlt | hge
 ·have hd:=drop_at hlt
  by_cases h0:n<=mx
  ·exact lN mdL [sl (Pm.cs_len (exP x)),rp 4 (dt ((i:Int)<((exP x).length:Int))),dt1 h0,kp,am ((0:Int)<=(i:Int)/\(i:Int)<((Pm.cs (exP x)).length:Int)) (by (simp only [Pm.cs_len]; omega)),xPm (exP x) i hlt,rp 3 (kp),ab true,am ((0:Int)<=(i:Int)/\(i:Int)<((Pm.cs (exP x)).length:Int)) (by (simp only [Pm.cs_len]; omega)),xPm (exP x) i hlt,cl (@hP (List.getD (exP x) i default) (mx) (by simp_all [List.length_map,List.length_append,List.length_cons,List.length_nil,nmsC_len,Pr.cs_len,Tp.cs_len,Pm.cs_len,Ex.cs_len,Al.cs_len,Vr.cs_len,Cn.cs_len,Da.cs_len,Cl.cs_len,Bo.cs_len,Df.cs_len,In.cs_len,Cs.cs_len,Ms.cs_len,Qu.cs_len,Sy.cs_len,Ho.cs_len,Int.toNat_natCast,Bool.cond_true_left,Bool.cond_false_right])),kp,wr ((i:Int)+1)] hlt (IntKind.wrap .i64 (IntKind.wrap .i64 (IntKind.wrap .i64 (n+1)+IntKind.wrap .i64 (Int.tdiv (↑(ByteArray.size (pmNm (List.getD (exP x) i default))):Int) 100))+ctF [pmT (List.getD (exP x) i default)] mx)) trivial (by rw [hd,pa0_f,iP h0])
  ·exact lX mdL [sl (Pm.cs_len (exP x)),rp 4 (dt ((i:Int)<((exP x).length:Int))),df1 h0] (n) (by rw [hd,pa0_f,iN h0])
 ·have he:i=(exP x).length:=by omega
  exact lX mdL [sl (Pm.cs_len (exP x)),rp 4 (df ((i:Int)<((exP x).length:Int))),bf false] (n) (by rw [he,List.drop_length,pa0_f])
abbrev pa1_I(x:Ex)(mx:Int)(efz:Ex->Int->Int)(j:Int)(n:Int)(e:Ext):S:=S.mk [(1,vI6 mx),(2,.lp 2 0),(4,vI6 0),(5,vI6 n),(7,vI6 j)] [(2,exV x)] e
def pa1_f(mx:Int)(efz:Ex->Int->Int):List Ex->(Int)->(Int)
 | [],n=>(n)
 | el::r,n=>(if n<=mx then pa1_f mx efz r (IntKind.wrap .i64 (n+efz el (IntKind.wrap .i64 (mx - n)))) else (n))
def pa1_q(x:Ex)(mx:Int)(efz:Ex->Int->Int)(e:Ext)(p:(Int)):PExit × S:=(.exit 2,S.mk [(1,vI6 mx),(2,.lp 2 0),(4,vI6 0),(5,vI6 p)] [(2,exV x)] e)
theorem pa1(x:Ex)(mx:Int)(efz:Ex->Int->Int)(ht:∀ (k:Int),Pu 23 [.sl 9 (Tp.cs (exT x)),.int .i64 k] (.ret (.int .i64 (ctF (exT x) k))))(hP:∀ (p:Pm) (k:Int),p∈exP x->Pu 23 [.sl 9 [tpL (pmT p)],.int .i64 k] (.ret (.int .i64 (ctF [pmT p] k))))(hK:∀ (w:Ex) (k:Int),w∈exK x->Pu 65 [.agg (exL w),.int .i64 k] (.ret (.int .i64 (efz w k))))(hA:∀ (a:Al) (k:Int),a∈exA x->Pu 65 [.agg (exL (alB a)),.int .i64 k] (.ret (.int .i64 (efz (alB a) k))))(hN0:(exP x).length<=1000000000)(n:Int)(e:Ext)(hN:(exK x).length<=1000000000)  : (Ob.loop 108 (loopF f65 1) (pa1_I x mx efz 0 n e) (pa1_q x mx efz e (pa1_f mx efz ((exK x))  n)).1 (pa1_q x mx efz e (pa1_f mx efz ((exK x))  n)).2).ok prog:=by
 refine rng ((exK x).length) (fun j n=>pa1_I x mx efz j n e) (fun i n=>pa1_f mx efz (List.drop i ((exK x)))  n) (pa1_q x mx efz e) (fun i n=>True) kR ?_ n trivial
 rintro i n hi -
 rcases Nat.lt_or_ge i ((exK x).length) with hlt | hge
 ·have hd:=drop_at hlt
  by_cases h0:n<=mx
  ·exact lN mdL [sl (Ex.cs_len (exK x)),rp 4 (dt ((i:Int)<((exK x).length:Int))),dt1 h0,am ((0:Int)<=(i:Int)/\(i:Int)<((Ex.cs (exK x)).length:Int)) (by (simp only [Ex.cs_len]; omega)),xEx (exK x) i hlt,kp,cl (@hK (List.getD (exK x) i default) (IntKind.wrap .i64 (mx - n)) (by simp_all [List.length_map,List.length_append,List.length_cons,List.length_nil,nmsC_len,Pr.cs_len,Tp.cs_len,Pm.cs_len,Ex.cs_len,Al.cs_len,Vr.cs_len,Cn.cs_len,Da.cs_len,Cl.cs_len,Bo.cs_len,Df.cs_len,In.cs_len,Cs.cs_len,Ms.cs_len,Qu.cs_len,Sy.cs_len,Ho.cs_len,Int.toNat_natCast,Bool.cond_true_left,Bool.cond_false_right])),kp,wr ((i:Int)+1)] hlt (IntKind.wrap .i64 (n+efz (List.getD (exK x) i default) (IntKind.wrap .i64 (mx - n)))) trivial (by rw [hd,pa1_f,iP h0])
  ·exact lX mdL [sl (Ex.cs_len (exK x)),rp 4 (dt ((i:Int)<((exK x).length:Int))),df1 h0] (n) (by rw [hd,pa1_f,iN h0])
 ·have he:i=(exK x).length:=by omega
  exact lX mdL [sl (Ex.cs_len (exK x)),rp 4 (df ((i:Int)<((exK x).length:Int))),bf false] (n) (by rw [he,List.drop_length,pa1_f])
abbrev pa2_I(x:Ex)(mx:Int)(efz:Ex->Int->Int)(j:Int)(n:Int)(e:Ext):S:=S.mk [(1,vI6 mx),(2,.lp 2 0),(4,vI6 0),(5,vI6 n),(8,vI6 j)] [(2,exV x)] e
def pa2_f(mx:Int)(efz:Ex->Int->Int):List Al->(Int)->(Int)
 | [],n=>(n)
 | el::r,n=>(if n<=mx then pa2_f mx efz r (IntKind.wrap .i64 (IntKind.wrap .i64 (n+((alNs el).length:Int))+efz (alB el) (IntKind.wrap .i64 (mx - n)))) else (n))
def pa2_q(x:Ex)(mx:Int)(efz:Ex->Int->Int)(e:Ext)(p:(Int)):PExit × S:=(.exit 4,S.mk [(1,vI6 mx),(2,.lp 2 0),(4,vI6 0),(5,vI6 p)] [(2,exV x)] e)
theorem pa2(x:Ex)(mx:Int)(efz:Ex->Int->Int)(ht:∀ (k:Int),Pu 23 [.sl 9 (Tp.cs (exT x)),.int .i64 k] (.ret (.int .i64 (ctF (exT x) k))))(hP:∀ (p:Pm) (k:Int),p∈exP x->Pu 23 [.sl 9 [tpL (pmT p)],.int .i64 k] (.ret (.int .i64 (ctF [pmT p] k))))(hK:∀ (w:Ex) (k:Int),w∈exK x->Pu 65 [.agg (exL w),.int .i64 k] (.ret (.int .i64 (efz w k))))(hA:∀ (a:Al) (k:Int),a∈exA x->Pu 65 [.agg (exL (alB a)),.int .i64 k] (.ret (.int .i64 (efz (alB a) k))))(hN0:(exP x).length<=1000000000)(hN1:(exK x).length<=1000000000)(n:Int)(e:Ext)(hN:(exA x).length<=1000000000)  : (Ob.loop 108 (loopF f65 2) (pa2_I x mx efz 0 n e) (pa2_q x mx efz e (pa2_f mx efz ((exA x))  n)).1 (pa2_q x mx efz e (pa2_f mx efz ((exA x))  n)).2).ok prog:=by
 refine rng ((exA x).length) (fun j n=>pa2_I x mx efz j n e) (fun i n=>pa2_f mx efz (List.drop i ((exA x)))  n) (pa2_q x mx efz e) (fun i n=>True) kR ?_ n trivial
 rintro i n hi -
 rcases Nat.lt_or_ge i ((exA x).length) with hlt | hge
 ·have hd:=drop_at hlt
  by_cases h0:n<=mx
  ·exact lN mdL [sl (Al.cs_len (exA x)),rp 4 (dt ((i:Int)<((exA x).length:Int))),dt1 h0,am ((0:Int)<=(i:Int)/\(i:Int)<((Al.cs (exA x)).length:Int)) (by (simp only [Al.cs_len]; omega)),xAl (exA x) i hlt,sl (nmsC_len (alNs (List.getD (exA x) i default))),kp,am ((0:Int)<=(i:Int)/\(i:Int)<((Al.cs (exA x)).length:Int)) (by (simp only [Al.cs_len]; omega)),xAl (exA x) i hlt,kp,cl (@hA (List.getD (exA x) i default) (IntKind.wrap .i64 (mx - n)) (by simp_all [List.length_map,List.length_append,List.length_cons,List.length_nil,nmsC_len,Pr.cs_len,Tp.cs_len,Pm.cs_len,Ex.cs_len,Al.cs_len,Vr.cs_len,Cn.cs_len,Da.cs_len,Cl.cs_len,Bo.cs_len,Df.cs_len,In.cs_len,Cs.cs_len,Ms.cs_len,Qu.cs_len,Sy.cs_len,Ho.cs_len,Int.toNat_natCast,Bool.cond_true_left,Bool.cond_false_right])),kp,wr ((i:Int)+1)] hlt (IntKind.wrap .i64 (IntKind.wrap .i64 (n+((alNs (List.getD (exA x) i default)).length:Int))+efz (alB (List.getD (exA x) i default)) (IntKind.wrap .i64 (mx - n)))) trivial (by rw [hd,pa2_f,iP h0])
  ·exact lX mdL [sl (Al.cs_len (exA x)),rp 4 (dt ((i:Int)<((exA x).length:Int))),df1 h0] (n) (by rw [hd,pa2_f,iN h0])
 ·have he:i=(exA x).length:=by omega
  exact lX mdL [sl (Al.cs_len (exA x)),rp 4 (df ((i:Int)<((exA x).length:Int))),bf false] (n) (by rw [he,List.drop_length,pa2_f])
theorem paL(x:Ex)(mx:Int)(efz:Ex->Int->Int)(ht:∀ (k:Int),Pu 23 [.sl 9 (Tp.cs (exT x)),.int .i64 k] (.ret (.int .i64 (ctF (exT x) k))))(hP:∀ (p:Pm) (k:Int),p∈exP x->Pu 23 [.sl 9 [tpL (pmT p)],.int .i64 k] (.ret (.int .i64 (ctF [pmT p] k))))(hK:∀ (w:Ex) (k:Int),w∈exK x->Pu 65 [.agg (exL w),.int .i64 k] (.ret (.int .i64 (efz w k))))(hA:∀ (a:Al) (k:Int),a∈exA x->Pu 65 [.agg (exL (alB a)),.int .i64 k] (.ret (.int .i64 (efz (alB a) k))))(hN0:(exP x).length<=1000000000)(hN1:(exK x).length<=1000000000)(hN2:(exA x).length<=1000000000):Pu 65 [.agg (exL x),pI mx] (rI (pa2_f mx efz (exA x) (pa1_f mx efz (exK x) (pa0_f mx (exP x) (IntKind.wrap .i64 (IntKind.wrap .i64 (1+IntKind.wrap .i64 (Int.tdiv (↑(ByteArray.size (exNm x)):Int) 100))+ctF (exT x) mx)))))):=
 pu mdL (fun e=>[rp 3 (kp),ab true,cl (@ht (mx)),kp,lp (S.mk [(0,.v (.agg (exL x))),(1,vI6 mx),(2,.lp 2 0),(4,vI6 0),(9,.lp 2 1),(10,vS (exNm x)),(11,vI6 (↑(ByteArray.size (exNm x)):Int)),(12,vI6 (IntKind.wrap .i64 (Int.tdiv (↑(ByteArray.size (exNm x)):Int) 100))),(13,vI6 (IntKind.wrap .i64 (1+IntKind.wrap .i64 (Int.tdiv (↑(ByteArray.size (exNm x)):Int) 100)))),(14,.lp 2 6),(15,vL 9 (Tp.cs (exT x))),(16,vI6 mx),(17,vI6 (ctF (exT x) mx)),(18,vI6 (IntKind.wrap .i64 (IntKind.wrap .i64 (1+IntKind.wrap .i64 (Int.tdiv (↑(ByteArray.size (exNm x)):Int) 100))+ctF (exT x) mx))),(5,vI6 (IntKind.wrap .i64 (IntKind.wrap .i64 (1+IntKind.wrap .i64 (Int.tdiv (↑(ByteArray.size (exNm x)):Int) 100))+ctF (exT x) mx))),(6,vI6 0)] [(2,exV x)] e) (@pa0 (x) (mx) (efz) ht hP hK hA (IntKind.wrap .i64 (IntKind.wrap .i64 (1+IntKind.wrap .i64 (Int.tdiv (↑(ByteArray.size (exNm x)):Int) 100))+ctF (exT x) mx)) (e) hN0) xr,lq (@pa1 (x) (mx) (efz) ht hP hK hA hN0 (pa0_f mx (exP x) (IntKind.wrap .i64 (IntKind.wrap .i64 (1+IntKind.wrap .i64 (Int.tdiv (↑(ByteArray.size (exNm x)):Int) 100))+ctF (exT x) mx))) (e) hN1),lq (@pa2 (x) (mx) (efz) ht hP hK hA hN0 hN1 (pa1_f mx efz (exK x) (pa0_f mx (exP x) (IntKind.wrap .i64 (IntKind.wrap .i64 (1+IntKind.wrap .i64 (Int.tdiv (↑(ByteArray.size (exNm x)):Int) 100))+ctF (exT x) mx)))) (e) hN2)]) func65
def paD:Nat->Ex->Int->Int
 | 0,_,_=>0
 | d+1,x,mx=>pa2_f mx (paD d) (exA x) (pa1_f mx (paD d) (exK x) (pa0_f mx (exP x) (IntKind.i64.wrap (IntKind.i64.wrap (1+IntKind.i64.wrap (((exNm x).size:Int).tdiv 100))+ctF (exT x) mx))))
theorem ex_bulk(x:Ex):bulkPss (Ex.cs (exK x))+bulkPss (Pm.cs (exP x))+bulkPss (Al.cs (exA x))+bulkPss (Tp.cs (exT x))<bulkPs (exL x):=by simp only [bulkPs,bulkP]; omega
theorem al_bulk(a:Al):bulkPs (exL (alB a))<bulkPs (alL a):=by simp only [bulkPs,bulkP]; omega
theorem pm_bulk(a:Pm):bulkPs (tpL (pmT a))<bulkPs (pmL a):=by simp only [bulkPs,bulkP]; omega
theorem pa_ok:∀ (d:Nat) (x:Ex) (mx:Int),bulkPs (exL x)<d->bulkPs (exL x)<=100000000->Pu 65 [.agg (exL x),.int .i64 mx] (.ret (.int .i64 (paD d x mx)))
 | 0,_,_,h,_=>by omega
 | d+1,x,mx,h,hs=>by
  have h1:=ex_bulk x
  have h2:=Ex.bulk (exK x)
  have h3:=Pm.bulk (exP x)
  have h4:=Al.bulk (exA x)
  exact paL x mx (paD d) (fun k=>ctT _ k oM) (fun p k hp=>ctT1 _ k (by have:=pm_bulk p; have:=Pm.mem hp; omega)) (fun w k hw=>pa_ok d w k (by have:=Ex.mem hw; omega) (by have:=Ex.mem hw; omega)) (fun a k ha=>pa_ok d (alB a) k (by have:=al_bulk a; have:=Al.mem ha; omega) (by have:=al_bulk a; have:=Al.mem ha; omega)) oM oM oM
def paF(x:Ex)(mx:Int):Int:=paD (bulkPs (exL x)+1) x mx
theorem paT(x:Ex)(mx:Int)(hs:bulkPs (exL x)<=100000000):Pu 65 [.agg (exL x),.int .i64 mx] (.ret (.int .i64 (paF x mx))):=pa_ok _ x mx oM hs
abbrev cd1_I(l:List Df)(mx:Int)(d:Df)(o:Int)(n0:Int)(xe:Ext)(j:Int)(n:Int)  : S:=S.mk [(0,vL 25 (Df.cs l)),(1,vI6 mx),(4,vI6 0),(5,vI6 n),(6,vI6 o),(7,.lp 7 0),(8,vI6 j)] [(7,[vL 1 (nmsC (dfVs d)),vL 2 (Vr.cs (dfNe d)),vL 2 (Vr.cs (dfAb d)),vL 10 (Bo.cs (dfBo d)),vI6 (tpO (dfT d)),vS (tpNm (dfT d)),vL 9 (Tp.cs (tpA (dfT d))),vL 1 (nmsC (tpNs (dfT d))),vI6 (prO (tpP (dfT d))),vS (prNm (tpP (dfT d))),vI6 (prN (tpP (dfT d))),vL 4 (Pr.cs (prK (tpP (dfT d)))),vL 4 (Pr.cs (tpPs (dfT d))),vL 4 (Pr.cs (dfMe d))])] xe
def cd1_f(mx:Int):List Bo->(Int)->(Int)
 | [],n=>(n)
 | el::r,n=>(if n<=mx then cd1_f mx r (IntKind.wrap .i64 (IntKind.wrap .i64 (IntKind.wrap .i64 (n+1)+((boW el).length:Int))+cpF [boH el,boG el] mx)) else (n))
def cd1_q(l:List Df)(mx:Int)(d:Df)(o:Int)(n0:Int)(xe:Ext)(p:(Int)):PExit × S:=(.exit 2,S.mk [(0,vL 25 (Df.cs l)),(1,vI6 mx),(4,vI6 0),(5,vI6 p),(6,vI6 o),(7,.lp 7 0)] [(7,[vL 1 (nmsC (dfVs d)),vL 2 (Vr.cs (dfNe d)),vL 2 (Vr.cs (dfAb d)),vL 10 (Bo.cs (dfBo d)),vI6 (tpO (dfT d)),vS (tpNm (dfT d)),vL 9 (Tp.cs (tpA (dfT d))),vL 1 (nmsC (tpNs (dfT d))),vI6 (prO (tpP (dfT d))),vS (prNm (tpP (dfT d))),vI6 (prN (tpP (dfT d))),vL 4 (Pr.cs (prK (tpP (dfT d)))),vL 4 (Pr.cs (tpPs (dfT d))),vL 4 (Pr.cs (dfMe d))])] xe)
theorem cd1(l:List Df)(mx:Int)(d:Df)(o n0:Int)(xe:Ext)(hwb:∀ (b:Bo) (k:Int),b∈dfBo d->Pu 24 [.sl 4 [prL (boH b),prL (boG b)],.int .i64 k] (.ret (.int .i64 (cpF [boH b,boG b] k))))(n:Int)(hN:(dfBo d).length<=1000000000)  : (Ob.loop 113 (loopF f22 1) (cd1_I l mx d o n0 xe 0 n) (cd1_q l mx d o n0 xe  (cd1_f mx ((dfBo d))  n)).1 (cd1_q l mx d o n0 xe  (cd1_f mx ((dfBo d))  n)).2).ok prog:=by
 refine rng ((dfBo d).length) (fun j n=>cd1_I l mx d o n0 xe j n) (fun i n=>cd1_f mx (List.drop i ((dfBo d)))  n) (cd1_q l mx d o n0 xe) (fun i n=>True) kR ?_ n trivial
 rintro i n hi -
 rcases Nat.lt_or_ge i ((dfBo d).length) with hlt | hge
 ·have hd:=drop_at hlt
  by_cases h0:n<=mx
  ·exact lN mdL [sl (Bo.cs_len (dfBo d)),rp 4 (dt ((i:Int)<((dfBo d).length:Int))),dt1 h0,kp,am ((0:Int)<=(i:Int)/\(i:Int)<((Bo.cs (dfBo d)).length:Int)) (by (simp only [Bo.cs_len]; omega)),xBo (dfBo d) i hlt,sl (Vr.cs_len (boW (List.getD (dfBo d) i default))),kp,am ((0:Int)<=(i:Int)/\(i:Int)<((Bo.cs (dfBo d)).length:Int)) (by (simp only [Bo.cs_len]; omega)),xBo (dfBo d) i hlt,am ((0:Int)<=(i:Int)/\(i:Int)<((Bo.cs (dfBo d)).length:Int)) (by (simp only [Bo.cs_len]; omega)),xBo (dfBo d) i hlt,cl (@hwb (List.getD (dfBo d) i default) (mx) (by simp_all [List.length_map,List.length_append,List.length_cons,List.length_nil,nmsC_len,Pr.cs_len,Tp.cs_len,Pm.cs_len,Ex.cs_len,Al.cs_len,Vr.cs_len,Cn.cs_len,Da.cs_len,Cl.cs_len,Bo.cs_len,Df.cs_len,In.cs_len,Cs.cs_len,Ms.cs_len,Qu.cs_len,Sy.cs_len,Ho.cs_len,Int.toNat_natCast,Bool.cond_true_left,Bool.cond_false_right])),kp,wr ((i:Int)+1)] hlt (IntKind.wrap .i64 (IntKind.wrap .i64 (IntKind.wrap .i64 (n+1)+((boW (List.getD (dfBo d) i default)).length:Int))+cpF [boH (List.getD (dfBo d) i default),boG (List.getD (dfBo d) i default)] mx)) trivial (by rw [hd,cd1_f,iP h0])
  ·exact lX mdL [sl (Bo.cs_len (dfBo d)),rp 4 (dt ((i:Int)<((dfBo d).length:Int))),df1 h0] (n) (by rw [hd,cd1_f,iN h0])
 ·have he:i=(dfBo d).length:=by omega
  exact lX mdL [sl (Bo.cs_len (dfBo d)),rp 4 (df ((i:Int)<((dfBo d).length:Int))),bf false] (n) (by rw [he,List.drop_length,cd1_f])
theorem bo_le{l:List Df}{i:Nat}(hw5:∀d∈l,(dfBo d).length<=1000000000)(h:i<l.length):(dfBo (l.getD i default)).length<=1000000000:=hw5 _ (getD_mem h)
theorem bo_hw{l:List Df}{i:Nat}(hw3:∀ (d:Df) (b:Bo) (k:Int),d∈l->b∈dfBo d->Pu 24 [.sl 4 [prL (boH b),prL (boG b)],.int .i64 k] (.ret (.int .i64 (cpF [boH b,boG b] k))))(h:i<l.length):∀ (b:Bo) (k:Int),b∈dfBo (l.getD i default)->Pu 24 [.sl 4 [prL (boH b),prL (boG b)],.int .i64 k] (.ret (.int .i64 (cpF [boH b,boG b] k))):=fun b k hb=>hw3 _ b k (getD_mem h) hb
abbrev cd0_I(l:List Df)(mx:Int)(j:Int)(n:Int)(e:Ext):S:=S.mk [(0,vL 25 (Df.cs l)),(1,vI6 mx),(4,vI6 0),(5,vI6 n),(6,vI6 j)] [] e
def cd0_f(mx:Int):List Df->(Int)->(Int)
 | [],n=>(n)
 | el::r,n=>(if n<=mx then cd0_f mx r (IntKind.wrap .i64 (cd1_f mx (dfBo el) (IntKind.wrap .i64 (IntKind.wrap .i64 (IntKind.wrap .i64 (IntKind.wrap .i64 (IntKind.wrap .i64 (IntKind.wrap .i64 (IntKind.wrap .i64 (IntKind.wrap .i64 (n+1)+IntKind.wrap .i64 (Int.tdiv (↑(ByteArray.size (dfNm el)):Int) 100))+((dfP el).length:Int))+((dfVs el).length:Int))+((dfNe el).length:Int))+((dfAb el).length:Int))+ctF [dfT el] mx)+cpF (dfMe el) mx))+paF (dfB el) mx)) else (n))
def cd0_q(l:List Df)(mx:Int)(e:Ext)(p:(Int)):PExit × S:=(.exit 0,S.mk [(0,vL 25 (Df.cs l)),(1,vI6 mx),(4,vI6 0),(5,vI6 p)] [] e)
theorem cd0(l:List Df)(mx:Int)(hw1:∀ (d:Df) (k:Int),d∈l->Pu 23 [.sl 9 [tpL (dfT d)],.int .i64 k] (.ret (.int .i64 (ctF [dfT d] k))))(hw2:∀ (d:Df) (k:Int),d∈l->Pu 24 [.sl 4 (Pr.cs (dfMe d)),.int .i64 k] (.ret (.int .i64 (cpF (dfMe d) k))))(hw3:∀ (d:Df) (b:Bo) (k:Int),d∈l->b∈dfBo d->Pu 24 [.sl 4 [prL (boH b),prL (boG b)],.int .i64 k] (.ret (.int .i64 (cpF [boH b,boG b] k))))(hw4:∀ (d:Df) (k:Int),d∈l->Pu 65 [.agg (exL (dfB d)),.int .i64 k] (.ret (.int .i64 (paF (dfB d) k))))(hw5:∀d∈l,(dfBo d).length<=1000000000)(n:Int)(e:Ext)(hN:l.length<=1000000000)  : (Ob.loop 113 (loopF f22 0) (cd0_I l mx 0 n e) (cd0_q l mx e (cd0_f mx (l)  n)).1 (cd0_q l mx e (cd0_f mx (l)  n)).2).ok prog:=by
 refine rng l.length (fun j n=>cd0_I l mx j n e) (fun i n=>cd0_f mx (List.drop i (l))  n) (cd0_q l mx e) (fun i n=>True) kR ?_ n trivial
 rintro i n hi -
 rcases Nat.lt_or_ge i (l.length) with hlt | hge
 ·have hd:=drop_at hlt
  by_cases h0:n<=mx
  ·exact lN mdL [sl (Df.cs_len l),rp 4 (dt ((i:Int)<(l.length:Int))),dt1 h0,am ((0:Int)<=(i:Int)/\(i:Int)<((Df.cs l).length:Int)) (by (simp only [Df.cs_len]; omega)),xDf l i hlt,kp,am ((0:Int)<=(i:Int)/\(i:Int)<((Df.cs l).length:Int)) (by (simp only [Df.cs_len]; omega)),xDf l i hlt,rp 3 (kp),ab true,am ((0:Int)<=(i:Int)/\(i:Int)<((Df.cs l).length:Int)) (by (simp only [Df.cs_len]; omega)),xDf l i hlt,sl (nmsC_len (dfP (List.getD l i default))),kp,sl (nmsC_len (dfVs (List.getD l i default))),kp,sl (Vr.cs_len (dfNe (List.getD l i default))),kp,sl (Vr.cs_len (dfAb (List.getD l i default))),kp,cl (@hw1 (List.getD l i default) (mx) (by simp_all [List.length_map,List.length_append,List.length_cons,List.length_nil,nmsC_len,Pr.cs_len,Tp.cs_len,Pm.cs_len,Ex.cs_len,Al.cs_len,Vr.cs_len,Cn.cs_len,Da.cs_len,Cl.cs_len,Bo.cs_len,Df.cs_len,In.cs_len,Cs.cs_len,Ms.cs_len,Qu.cs_len,Sy.cs_len,Ho.cs_len,Int.toNat_natCast,Bool.cond_true_left,Bool.cond_false_right])),kp,cl (@hw2 (List.getD l i default) (mx) (by simp_all [List.length_map,List.length_append,List.length_cons,List.length_nil,nmsC_len,Pr.cs_len,Tp.cs_len,Pm.cs_len,Ex.cs_len,Al.cs_len,Vr.cs_len,Cn.cs_len,Da.cs_len,Cl.cs_len,Bo.cs_len,Df.cs_len,In.cs_len,Cs.cs_len,Ms.cs_len,Qu.cs_len,Sy.cs_len,Ho.cs_len,Int.toNat_natCast,Bool.cond_true_left,Bool.cond_false_right])),kp,lp (S.mk [(0,vL 25 (Df.cs l)),(1,vI6 mx),(4,vI6 0),(5,vI6 (IntKind.wrap .i64 (IntKind.wrap .i64 (IntKind.wrap .i64 (IntKind.wrap .i64 (IntKind.wrap .i64 (IntKind.wrap .i64 (IntKind.wrap .i64 (IntKind.wrap .i64 (n+1)+IntKind.wrap .i64 (Int.tdiv (↑(ByteArray.size (dfNm (List.getD l i default))):Int) 100))+((dfP (List.getD l i default)).length:Int))+((dfVs (List.getD l i default)).length:Int))+((dfNe (List.getD l i default)).length:Int))+((dfAb (List.getD l i default)).length:Int))+ctF [dfT (List.getD l i default)] mx)+cpF (dfMe (List.getD l i default)) mx))),(6,vI6 (i:Int)),(9,vI6 (i:Int)),(10,vL 25 (Df.cs l)),(11,vI6 (l.length:Int)),(12,.v (.bool (decide ((i:Int)<(l.length:Int))))),(13,.v (.bool (decide ((i:Int)<(l.length:Int))))),(14,vI6 n),(15,vI6 mx),(16,.v (.bool (decide (n<=mx)))),(17,.v (.bool (decide (n<=mx)))),(20,vL 25 (Df.cs l)),(21,vI6 (i:Int)),(22,.v (.ro (dfL (List.getD l i default)) 0)),(23,.v (.ro (dfL (List.getD l i default)) 11)),(24,.v (.agg [.sl 1 (nmsC (dfVs (List.getD l i default))),.sl 2 (Vr.cs (dfNe (List.getD l i default))),.sl 2 (Vr.cs (dfAb (List.getD l i default))),.sl 10 (Bo.cs (dfBo (List.getD l i default))),pI (tpO (dfT (List.getD l i default))),.str (tpNm (dfT (List.getD l i default))),.sl 9 (Tp.cs (tpA (dfT (List.getD l i default)))),.sl 1 (nmsC (tpNs (dfT (List.getD l i default)))),pI (prO (tpP (dfT (List.getD l i default)))),.str (prNm (tpP (dfT (List.getD l i default)))),pI (prN (tpP (dfT (List.getD l i default)))),.sl 4 (Pr.cs (prK (tpP (dfT (List.getD l i default))))),.sl 4 (Pr.cs (tpPs (dfT (List.getD l i default)))),.sl 4 (Pr.cs (dfMe (List.getD l i default)))])),(7,.lp 7 0),(25,vI6 n),(26,vI6 (IntKind.wrap .i64 (n+1))),(27,vL 25 (Df.cs l)),(28,vI6 (i:Int)),(29,.v (.ro (dfL (List.getD l i default)) 0)),(30,.v (.ro (dfL (List.getD l i default)) 0)),(31,vS (dfNm (List.getD l i default))),(32,vI6 (↑(ByteArray.size (dfNm (List.getD l i default))):Int)),(33,vI6 (IntKind.wrap .i64 (Int.tdiv (↑(ByteArray.size (dfNm (List.getD l i default))):Int) 100))),(34,vI6 (IntKind.wrap .i64 (IntKind.wrap .i64 (n+1)+IntKind.wrap .i64 (Int.tdiv (↑(ByteArray.size (dfNm (List.getD l i default))):Int) 100)))),(35,vL 25 (Df.cs l)),(36,vI6 (i:Int)),(37,.v (.ro (dfL (List.getD l i default)) 0)),(38,.v (.ro (dfL (List.getD l i default)) 1)),(39,vL 1 (nmsC (dfP (List.getD l i default)))),(40,vI6 ((dfP (List.getD l i default)).length:Int)),(41,vI6 (IntKind.wrap .i64 (IntKind.wrap .i64 (IntKind.wrap .i64 (n+1)+IntKind.wrap .i64 (Int.tdiv (↑(ByteArray.size (dfNm (List.getD l i default))):Int) 100))+((dfP (List.getD l i default)).length:Int)))),(42,.lp 7 0),(43,vL 1 (nmsC (dfVs (List.getD l i default)))),(44,vI6 ((dfVs (List.getD l i default)).length:Int)),(45,vI6 (IntKind.wrap .i64 (IntKind.wrap .i64 (IntKind.wrap .i64 (IntKind.wrap .i64 (n+1)+IntKind.wrap .i64 (Int.tdiv (↑(ByteArray.size (dfNm (List.getD l i default))):Int) 100))+((dfP (List.getD l i default)).length:Int))+((dfVs (List.getD l i default)).length:Int)))),(46,.lp 7 1),(47,vL 2 (Vr.cs (dfNe (List.getD l i default)))),(48,vI6 ((dfNe (List.getD l i default)).length:Int)),(49,vI6 (IntKind.wrap .i64 (IntKind.wrap .i64 (IntKind.wrap .i64 (IntKind.wrap .i64 (IntKind.wrap .i64 (n+1)+IntKind.wrap .i64 (Int.tdiv (↑(ByteArray.size (dfNm (List.getD l i default))):Int) 100))+((dfP (List.getD l i default)).length:Int))+((dfVs (List.getD l i default)).length:Int))+((dfNe (List.getD l i default)).length:Int)))),(50,.lp 7 2),(51,vL 2 (Vr.cs (dfAb (List.getD l i default)))),(52,vI6 ((dfAb (List.getD l i default)).length:Int)),(53,vI6 (IntKind.wrap .i64 (IntKind.wrap .i64 (IntKind.wrap .i64 (IntKind.wrap .i64 (IntKind.wrap .i64 (IntKind.wrap .i64 (n+1)+IntKind.wrap .i64 (Int.tdiv (↑(ByteArray.size (dfNm (List.getD l i default))):Int) 100))+((dfP (List.getD l i default)).length:Int))+((dfVs (List.getD l i default)).length:Int))+((dfNe (List.getD l i default)).length:Int))+((dfAb (List.getD l i default)).length:Int)))),(54,.lp 7 4),(55,.v (.agg (tpL (dfT (List.getD l i default))))),(56,LV.full 9 [tpL (dfT (List.getD l i default))]),(57,vI6 mx),(58,vI6 (ctF [dfT (List.getD l i default)] mx)),(59,vI6 (IntKind.wrap .i64 (IntKind.wrap .i64 (IntKind.wrap .i64 (IntKind.wrap .i64 (IntKind.wrap .i64 (IntKind.wrap .i64 (IntKind.wrap .i64 (n+1)+IntKind.wrap .i64 (Int.tdiv (↑(ByteArray.size (dfNm (List.getD l i default))):Int) 100))+((dfP (List.getD l i default)).length:Int))+((dfVs (List.getD l i default)).length:Int))+((dfNe (List.getD l i default)).length:Int))+((dfAb (List.getD l i default)).length:Int))+ctF [dfT (List.getD l i default)] mx))),(60,.lp 7 13),(61,vL 4 (Pr.cs (dfMe (List.getD l i default)))),(62,vI6 mx),(63,vI6 (cpF (dfMe (List.getD l i default)) mx)),(64,vI6 (IntKind.wrap .i64 (IntKind.wrap .i64 (IntKind.wrap .i64 (IntKind.wrap .i64 (IntKind.wrap .i64 (IntKind.wrap .i64 (IntKind.wrap .i64 (IntKind.wrap .i64 (n+1)+IntKind.wrap .i64 (Int.tdiv (↑(ByteArray.size (dfNm (List.getD l i default))):Int) 100))+((dfP (List.getD l i default)).length:Int))+((dfVs (List.getD l i default)).length:Int))+((dfNe (List.getD l i default)).length:Int))+((dfAb (List.getD l i default)).length:Int))+ctF [dfT (List.getD l i default)] mx)+cpF (dfMe (List.getD l i default)) mx))),(8,vI6 0)] [(7,[vL 1 (nmsC (dfVs (List.getD l i default))),vL 2 (Vr.cs (dfNe (List.getD l i default))),vL 2 (Vr.cs (dfAb (List.getD l i default))),vL 10 (Bo.cs (dfBo (List.getD l i default))),vI6 (tpO (dfT (List.getD l i default))),vS (tpNm (dfT (List.getD l i default))),vL 9 (Tp.cs (tpA (dfT (List.getD l i default)))),vL 1 (nmsC (tpNs (dfT (List.getD l i default)))),vI6 (prO (tpP (dfT (List.getD l i default)))),vS (prNm (tpP (dfT (List.getD l i default)))),vI6 (prN (tpP (dfT (List.getD l i default)))),vL 4 (Pr.cs (prK (tpP (dfT (List.getD l i default))))),vL 4 (Pr.cs (tpPs (dfT (List.getD l i default)))),vL 4 (Pr.cs (dfMe (List.getD l i default)))])] e) (@cd1 (l) (mx) (List.getD l i default) ((i:Int)) default (e) (by (apply bo_hw <;> first | assumption | omega | decide)) (IntKind.wrap .i64 (IntKind.wrap .i64 (IntKind.wrap .i64 (IntKind.wrap .i64 (IntKind.wrap .i64 (IntKind.wrap .i64 (IntKind.wrap .i64 (IntKind.wrap .i64 (n+1)+IntKind.wrap .i64 (Int.tdiv (↑(ByteArray.size (dfNm (List.getD l i default))):Int) 100))+((dfP (List.getD l i default)).length:Int))+((dfVs (List.getD l i default)).length:Int))+((dfNe (List.getD l i default)).length:Int))+((dfAb (List.getD l i default)).length:Int))+ctF [dfT (List.getD l i default)] mx)+cpF (dfMe (List.getD l i default)) mx)) (by (apply bo_le <;> first | assumption | omega | decide))) xr,am ((0:Int)<=(i:Int)/\(i:Int)<((Df.cs l).length:Int)) (by (simp only [Df.cs_len]; omega)),xDf l i hlt,cl (@hw4 (List.getD l i default) (mx) (by simp_all [List.length_map,List.length_append,List.length_cons,List.length_nil,nmsC_len,Pr.cs_len,Tp.cs_len,Pm.cs_len,Ex.cs_len,Al.cs_len,Vr.cs_len,Cn.cs_len,Da.cs_len,Cl.cs_len,Bo.cs_len,Df.cs_len,In.cs_len,Cs.cs_len,Ms.cs_len,Qu.cs_len,Sy.cs_len,Ho.cs_len,Int.toNat_natCast,Bool.cond_true_left,Bool.cond_false_right])),kp,wr ((i:Int)+1)] hlt (IntKind.wrap .i64 (cd1_f mx (dfBo (List.getD l i default)) (IntKind.wrap .i64 (IntKind.wrap .i64 (IntKind.wrap .i64 (IntKind.wrap .i64 (IntKind.wrap .i64 (IntKind.wrap .i64 (IntKind.wrap .i64 (IntKind.wrap .i64 (n+1)+IntKind.wrap .i64 (Int.tdiv (↑(ByteArray.size (dfNm (List.getD l i default))):Int) 100))+((dfP (List.getD l i default)).length:Int))+((dfVs (List.getD l i default)).length:Int))+((dfNe (List.getD l i default)).length:Int))+((dfAb (List.getD l i default)).length:Int))+ctF [dfT (List.getD l i default)] mx)+cpF (dfMe (List.getD l i default)) mx))+paF (dfB (List.getD l i default)) mx)) trivial (by rw [hd,cd0_f,iP h0])
  ·exact lX mdL [sl (Df.cs_len l),rp 4 (dt ((i:Int)<(l.length:Int))),df1 h0] (n) (by rw [hd,cd0_f,iN h0])
 ·have he:i=l.length:=by omega
  exact lX mdL [sl (Df.cs_len l),rp 4 (df ((i:Int)<(l.length:Int))),bf false] (n) (by rw [he,List.drop_length,cd0_f])
theorem cdL(l:List Df)(mx:Int)(hw1:∀ (d:Df) (k:Int),d∈l->Pu 23 [.sl 9 [tpL (dfT d)],.int .i64 k] (.ret (.int .i64 (ctF [dfT d] k))))(hw2:∀ (d:Df) (k:Int),d∈l->Pu 24 [.sl 4 (Pr.cs (dfMe d)),.int .i64 k] (.ret (.int .i64 (cpF (dfMe d) k))))(hw3:∀ (d:Df) (b:Bo) (k:Int),d∈l->b∈dfBo d->Pu 24 [.sl 4 [prL (boH b),prL (boG b)],.int .i64 k] (.ret (.int .i64 (cpF [boH b,boG b] k))))(hw4:∀ (d:Df) (k:Int),d∈l->Pu 65 [.agg (exL (dfB d)),.int .i64 k] (.ret (.int .i64 (paF (dfB d) k))))(hw5:∀d∈l,(dfBo d).length<=1000000000)(hN0:l.length<=1000000000):Pu 22 [.sl 25 (Df.cs l),pI mx] (rI (cd0_f mx l 0)):=
 pu mdL (fun e=>[lq (@cd0 (l) (mx) hw1 hw2 hw3 hw4 hw5 (0) (e) hN0)]) func22
theorem df_bulk(d:Df):bulkPs (exL (dfB d))+bulkPs (tpL (dfT d))+bulkPss (Pr.cs (dfMe d))+bulkPss (Bo.cs (dfBo d))<bulkPs (dfL d):=by simp only [bulkPs,bulkP]; omega
theorem bo_bulk(b:Bo):bulkPs (prL (boH b))+bulkPs (prL (boG b))<bulkPs (boL b):=by simp only [bulkPs,bulkP]; omega
end Go.Proofs.YthchpmnkecoafaaGreatDoor
