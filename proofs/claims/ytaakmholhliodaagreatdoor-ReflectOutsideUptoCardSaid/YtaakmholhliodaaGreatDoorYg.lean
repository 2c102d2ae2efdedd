/- Values of Go as plain data, an evaluator over them, and what the functions of the program return; part Yg. -/
import Derived.Test.YtaakmholhliodaaGreatDoorYf
import Derived.RangeFuncNested
import Derived.RangeFuncBound
import Derived.RangeFuncCalls
import Derived.RangeFuncLeaves
import Derived.Shelf.Abstract
import Derived.Shelf.RegionOpen
import Derived.WalkKit
import Derived.OwnWalkIn
import Derived.TacticsInMore
import Derived.LoopNIn
import Derived.LoopIn
import Derived.Test.YtaakmholhliodaaGreatDoorYa
set_option linter.unusedSectionVars false
set_option linter.unusedSimpArgs false
set_option linter.unusedVariables false
namespace Go.Proofs.YtaakmholhliodaaGreatDoor
open Go.Proofs.Tryz
open Go.Pv Go.Proofs.Tryz
set_option maxRecDepth 100000
def erN(b:Bool):Int:=if b=true then 0 else 3
abbrev tInt:BA:=⟨#[73,110,116]⟩
abbrev tBool:BA:=⟨#[66,111,111,108]⟩
abbrev tCell:BA:=⟨#[67,101,108,108]⟩
abbrev tFun:BA:=⟨#[70,117,110]⟩
def titleB(s:BA):Bool:=szB s&&cpB (s.data.toList.getD 0 default).toNat&&s.data.toList.all anB && !decide (s=tInt) && !decide (s=tBool) && !decide (s=tCell) && !decide (s=tFun)
theorem szB_s{s:BA}(h:szB s=true):s.size<=1000000000:=by
 simp only [szB,Bool.and_eq_true,decide_eq_true_eq] at h; omega
section
variable (s:BA) (hsa:szB s=true)
include s hsa
theorem nTiB(hsb:cpB (s.data.toList.getD 0 default).toNat=false):Pu 129 [.str s] (rB false):=
 pm mdL [cl (@nSiT s),rp 2 (bf (!szB s) (bnF hsa)),am ((0:Int)<=0/\0<(↑(ByteArray.size s):Int)) (by (apply szB_lt <;> first | assumption | omega | decide)),xBy s 0,bf (!szB s) (bnF hsa),cl (@nCpT ((↑(UInt8.toNat (List.getD (Array.toList (ByteArray.data s)) 0 default)):Int))),rp 2 (bf (!szB s) (bnF hsa)),rp 4 (bt (!cpB (↑(UInt8.toNat (List.getD (Array.toList (ByteArray.data s)) 0 default)):Int)) (bnT hsb)),bt true] func129
theorem nTiC(hsb:cpB (s.data.toList.getD 0 default).toNat=true)(hsc:s.data.toList.all anB=false):Pu 129 [.str s] (rB false):=
 pm mdL [cl (@nSiT s),rp 2 (bf (!szB s) (bnF hsa)),am ((0:Int)<=0/\0<(↑(ByteArray.size s):Int)) (by (apply szB_lt <;> first | assumption | omega | decide)),xBy s 0,bf (!szB s) (bnF hsa),cl (@nCpT ((↑(UInt8.toNat (List.getD (Array.toList (ByteArray.data s)) 0 default)):Int))),rp 2 (bf (!szB s) (bnF hsa)),rp 2 (bf (!cpB (↑(UInt8.toNat (List.getD (Array.toList (ByteArray.data s)) 0 default)):Int)) (bnF hsb)),cl (@nAlT s (by (apply szB_s <;> first | assumption | omega | decide))),rp 2 (bf (!cpB (↑(UInt8.toNat (List.getD (Array.toList (ByteArray.data s)) 0 default)):Int)) (bnF hsb)),bt (!List.all (Array.toList (ByteArray.data s)) anB) (bnT hsc)] func129
theorem nTiD_1(hsb:cpB (s.data.toList.getD 0 default).toNat=true)(hsc:s.data.toList.all anB=true)(hx0:¬s=ByteArray.mk #[73,110,116])(hx1:¬s=ByteArray.mk #[66,111,111,108])(hx2:¬s=ByteArray.mk #[67,101,108,108]):Pu 129 [.str s] (rB !ByteArray.toList s==ByteArray.toList (ByteArray.mk #[70,117,110])):=
 pm mdL [cl (@nSiT s),rp 2 (bf (!szB s) (bnF hsa)),am ((0:Int)<=0/\0<(↑(ByteArray.size s):Int)) (by (apply szB_lt <;> first | assumption | omega | decide)),xBy s 0,bf (!szB s) (bnF hsa),cl (@nCpT ((↑(UInt8.toNat (List.getD (Array.toList (ByteArray.data s)) 0 default)):Int))),rp 2 (bf (!szB s) (bnF hsa)),rp 2 (bf (!cpB (↑(UInt8.toNat (List.getD (Array.toList (ByteArray.data s)) 0 default)):Int)) (bnF hsb)),cl (@nAlT s (by (apply szB_s <;> first | assumption | omega | decide))),rp 2 (bf (!cpB (↑(UInt8.toNat (List.getD (Array.toList (ByteArray.data s)) 0 default)):Int)) (bnF hsb)),bf (!List.all (Array.toList (ByteArray.data s)) anB) (bnF hsc),rp 3 (bt (!ByteArray.toList s==ByteArray.toList (ByteArray.mk #[73,110,116])) (bnT (bsF hx0))),rp 3 (bt (!ByteArray.toList s==ByteArray.toList (ByteArray.mk #[66,111,111,108])) (bnT (bsF hx1))),rp 3 (bt (!ByteArray.toList s==ByteArray.toList (ByteArray.mk #[67,101,108,108])) (bnT (bsF hx2)))] func129
theorem nTiD_2(hsb:cpB (s.data.toList.getD 0 default).toNat=true)(hsc:s.data.toList.all anB=true)(hx0:¬s=ByteArray.mk #[73,110,116])(hx1:¬s=ByteArray.mk #[66,111,111,108])(hx2:s=ByteArray.mk #[67,101,108,108]):Pu 129 [.str s] (rB false):=
 pm mdL [cl (@nSiT s),rp 2 (bf (!szB s) (bnF hsa)),am ((0:Int)<=0/\0<(↑(ByteArray.size s):Int)) (by (apply szB_lt <;> first | assumption | omega | decide)),xBy s 0,bf (!szB s) (bnF hsa),cl (@nCpT ((↑(UInt8.toNat (List.getD (Array.toList (ByteArray.data s)) 0 default)):Int))),rp 2 (bf (!szB s) (bnF hsa)),rp 2 (bf (!cpB (↑(UInt8.toNat (List.getD (Array.toList (ByteArray.data s)) 0 default)):Int)) (bnF hsb)),cl (@nAlT s (by (apply szB_s <;> first | assumption | omega | decide))),rp 2 (bf (!cpB (↑(UInt8.toNat (List.getD (Array.toList (ByteArray.data s)) 0 default)):Int)) (bnF hsb)),bf (!List.all (Array.toList (ByteArray.data s)) anB) (bnF hsc),rp 3 (bt (!ByteArray.toList s==ByteArray.toList (ByteArray.mk #[73,110,116])) (bnT (bsF hx0))),rp 3 (bt (!ByteArray.toList s==ByteArray.toList (ByteArray.mk #[66,111,111,108])) (bnT (bsF hx1))),rp 3 (bf (!ByteArray.toList s==ByteArray.toList (ByteArray.mk #[67,101,108,108])) (bnF (bsT hx2)))] func129
theorem nTiD_3(hsb:cpB (s.data.toList.getD 0 default).toNat=true)(hsc:s.data.toList.all anB=true)(hx0:¬s=ByteArray.mk #[73,110,116])(hx1:s=ByteArray.mk #[66,111,111,108]):Pu 129 [.str s] (rB false):=
 pm mdL [cl (@nSiT s),rp 2 (bf (!szB s) (bnF hsa)),am ((0:Int)<=0/\0<(↑(ByteArray.size s):Int)) (by (apply szB_lt <;> first | assumption | omega | decide)),xBy s 0,bf (!szB s) (bnF hsa),cl (@nCpT ((↑(UInt8.toNat (List.getD (Array.toList (ByteArray.data s)) 0 default)):Int))),rp 2 (bf (!szB s) (bnF hsa)),rp 2 (bf (!cpB (↑(UInt8.toNat (List.getD (Array.toList (ByteArray.data s)) 0 default)):Int)) (bnF hsb)),cl (@nAlT s (by (apply szB_s <;> first | assumption | omega | decide))),rp 2 (bf (!cpB (↑(UInt8.toNat (List.getD (Array.toList (ByteArray.data s)) 0 default)):Int)) (bnF hsb)),bf (!List.all (Array.toList (ByteArray.data s)) anB) (bnF hsc),rp 3 (bt (!ByteArray.toList s==ByteArray.toList (ByteArray.mk #[73,110,116])) (bnT (bsF hx0))),rp 3 (bf (!ByteArray.toList s==ByteArray.toList (ByteArray.mk #[66,111,111,108])) (bnF (bsT hx1))),rp 3 (bf false)] func129
theorem nTiD_4(hsb:cpB (s.data.toList.getD 0 default).toNat=true)(hsc:s.data.toList.all anB=true)(hx0:s=ByteArray.mk #[73,110,116]):Pu 129 [.str s] (rB false):=
 pm mdL [cl (@nSiT s),rp 2 (bf (!szB s) (bnF hsa)),am ((0:Int)<=0/\0<(↑(ByteArray.size s):Int)) (by (apply szB_lt <;> first | assumption | omega | decide)),xBy s 0,bf (!szB s) (bnF hsa),cl (@nCpT ((↑(UInt8.toNat (List.getD (Array.toList (ByteArray.data s)) 0 default)):Int))),rp 2 (bf (!szB s) (bnF hsa)),rp 2 (bf (!cpB (↑(UInt8.toNat (List.getD (Array.toList (ByteArray.data s)) 0 default)):Int)) (bnF hsb)),cl (@nAlT s (by (apply szB_s <;> first | assumption | omega | decide))),rp 2 (bf (!cpB (↑(UInt8.toNat (List.getD (Array.toList (ByteArray.data s)) 0 default)):Int)) (bnF hsb)),bf (!List.all (Array.toList (ByteArray.data s)) anB) (bnF hsc),rp 3 (bf (!ByteArray.toList s==ByteArray.toList (ByteArray.mk #[73,110,116])) (bnF (bsT hx0))),rp 6 (bf false)] func129
end
theorem bcA{s:BA}{i:Nat}(h:i<List.length (s.data.toList)):(0:Int)<=((0:Nat):Int)/\((0:Nat):Int)<=(i:Int)/\(i:Int)<=(s.size:Int):=by
 have:=bzT h; omega
theorem bcB{s:BA}{i:Nat}(h:i<List.length (s.data.toList)):(0:Int)<=(i:Int)+1/\(i:Int)+1<=(s.size:Int)/\(s.size:Int)<=(s.size:Int):=by
 have:=bzT h; omega
def ptI:List UInt8->Nat
 | []=>0
 | c::r=>if ((c.toNat:Nat):Int)=46 then 0 else ptI r+1
abbrev nCu_I(s:BA)(j:Int)(e:Ext):S:=S.mk [(0,vS s),(2,vS nm0),(3,vS nm0),(4,.v (.bool false)),(5,vI6 j)] [] e
inductive nCu_R where
 | e0 (i:Nat)
 | e1
def nCu_f  : List UInt8->Nat->nCu_R
 | [],i=>(nCu_R.e1)
 | el::r,i=>(if (↑(UInt8.toNat el):Int)=46 then (nCu_R.e0 i) else nCu_f  r (i+1))
def nCu_q(s:BA)(e:Ext):nCu_R->PExit × S
 | .e0 i=>(.ret,S.mk [(0,vS s),(2,vS (ByteArray.extract s 0 i)),(3,vS (ByteArray.extract s (i+1) (ByteArray.size s))),(4,.v (.bool true))] [] e)
 | .e1=>(.exit 0,S.mk [(0,vS s),(2,vS nm0),(3,vS nm0),(4,.v (.bool false))] [] e)
theorem nCu_lp(s:BA)(e:Ext)(hN:List.length ((s.data.toList))<=1000000000):(Ob.loop 24 (loopF f127 0) (nCu_I s 0  e) (nCu_q s e (nCu_f  ((s.data.toList)) 0)).1 (nCu_q s e (nCu_f  ((s.data.toList)) 0)).2).ok prog:=by
 refine rng (List.length ((s.data.toList))) (fun j _=>nCu_I s j  e) (fun i _=>nCu_f  (List.drop i ((s.data.toList))) i) (nCu_q s e) (fun i _=>True) kR ?_ () trivial
 rintro i u hi -
 rcases Nat.lt_or_ge i (List.length ((s.data.toList))) with hlt | hge
 ·have hd:=drop_at hlt
  refine t0 ?_;refine tp [kp,dt ((i:Int)<(↑(ByteArray.size s):Int)) (by (apply bzT <;> first | assumption | omega | decide)),am ((0:Int)<=(i:Int)/\(i:Int)<(↑(ByteArray.size s):Int)) (by simp_all [tn1]),xBy s i] ?_;by_cases h0:(↑(UInt8.toNat (List.getD (Array.toList (ByteArray.data s)) i default)):Int)=46
  ·exact tX mdL [et1 h0,am ((0:Int)<=(0:Int)/\(0:Int)<=(i:Int)/\(i:Int)<=(↑(ByteArray.size s):Int)) (by (apply bcA <;> first | assumption | omega | decide)),av (vS (ByteArray.extract s (Int.toNat (0:Int)) (Int.toNat (i:Int)))) (vS (ByteArray.extract s 0 i)) rF,wr ((i:Int)+1),am ((0:Int)<=(i:Int)+1/\(i:Int)+1<=(↑(ByteArray.size s):Int)/\(↑(ByteArray.size s):Int)<=(↑(ByteArray.size s):Int)) (by (apply bcB <;> first | assumption | omega | decide)),av (vS (ByteArray.extract s (Int.toNat ((i:Int)+1)) (Int.toNat (↑(ByteArray.size s):Int)))) (vS (ByteArray.extract s (i+1) (ByteArray.size s))) rF] (nCu_R.e0 i) (by rw [hd,nCu_f,iP h0])
  ·exact tN mdL [en1 h0,wr ((i:Int)+1)] hlt () trivial (by rw [hd,nCu_f,iN h0])
 ·have he:i=List.length ((s.data.toList)):=by omega
  exact lX mdL [kp,df ((i:Int)<(↑(ByteArray.size s):Int)) (by (apply bzF <;> first | assumption | omega | decide))] (nCu_R.e1) (by rw [he,List.drop_length,nCu_f])
theorem nCuL_1(s:BA)(hs:s.size<=1000000000)(hy0:Nat)(hx1:nCu_f (Array.toList (ByteArray.data s)) 0=nCu_R.e0 hy0):Pu 127 [.str s] (.ret (.tup [.str (ByteArray.extract s 0 hy0),.str (ByteArray.extract s (hy0+1) (ByteArray.size s)),.bool true])):=
 pu mdL (fun e=>[lp (S.mk [(0,vS s),(2,vS nm0),(3,vS nm0),(4,.v (.bool false)),(5,vI6 0)] [] e) (rz (nCu_lp (s) (e) (by (apply sz_le <;> first | assumption | omega | decide))) hx1) ⟨⟨W,Wq,Wq,W,W,tVv⟩,trivial,rfl⟩]) func127
theorem nCuL_2(s:BA)(hs:s.size<=1000000000)(hx0:nCu_f (Array.toList (ByteArray.data s)) 0=nCu_R.e1):Pu 127 [.str s] (.ret (.tup [.str s,.str nm0,.bool false])):=
 pu mdL (fun e=>[lp (S.mk [(0,vS s),(2,vS nm0),(3,vS nm0),(4,.v (.bool false)),(5,vI6 0)] [] e) (rz (nCu_lp (s) (e) (by (apply sz_le <;> first | assumption | omega | decide))) hx0) ⟨⟨W,Wq,Wq,W,W,tVv⟩,trivial,rfl⟩]) func127
theorem nTiT(s:BA):Pu 129 [.str s] (.ret (.bool (titleB s))):=by
 unfold titleB
 cases hsa:szB s with
 | false=>exact pm mdL [cl (@nSiT s),rp 5 (bt (!szB s) (bnT hsa)),rp 5 (bt true)] func129
 | true=>
  cases hsb:cpB (s.data.toList.getD 0 default).toNat with
  | false=>exact nTiB s hsa hsb
  | true=>
   cases hsc:s.data.toList.all anB with
   | false=>exact nTiC s hsa hsb hsc
   | true=>
    simp only [Bool.true_and]
    by_cases h1:s=tInt
    ·rw [decide_eq_true h1]; simpa using nTiD_4 s hsa hsb hsc h1
    ·by_cases h2:s=tBool
     ·rw [decide_eq_true h2]; simpa using nTiD_3 s hsa hsb hsc h1 h2
     ·by_cases h3:s=tCell
      ·rw [decide_eq_true h3]; simpa using nTiD_2 s hsa hsb hsc h1 h2 h3
      ·have e:(!decide (s=tInt) && !decide (s=tBool) && !decide (s=tCell) && !decide (s=tFun)) = !(ByteArray.toList s==ByteArray.toList tFun):=by
        rw [decide_eq_false h1,decide_eq_false h2,decide_eq_false h3]
        by_cases h4:s=tFun
        ·rw [decide_eq_true h4,bsT h4]; rfl
        ·rw [decide_eq_false h4,bsF h4]; rfl
       rw [e]
       exact nTiD_1 s hsa hsb hsc h1 h2 h3
theorem nCu_e:∀ (l:List UInt8) (k:Nat),nCu_f l k=if ptI l<l.length then .e0 (k+ptI l) else .e1
 | [],k=>by simp [nCu_f,ptI]
 | c::r,k=>by
  by_cases h:((c.toNat:Nat):Int)=46
  ·simp [nCu_f,ptI,h]
  ·simp only [nCu_f,ptI,h,if_false,nCu_e r (k+1),List.length_cons]
   by_cases h2:ptI r<r.length
   ·rw [iP h2,iP oM]; congr 1; omega
   ·rw [iN h2,iN oM]
abbrev ptS(s:BA):Nat:=ptI s.data.toList
theorem nCuT(s:BA)(hs:s.size<=1000000000)(hx:ptS s<s.size):Pu 127 [.str s] (.ret (.tup [.str (s.extract 0 (ptS s)),.str (s.extract (ptS s+1) s.size),.bool true])):=
 nCuL_1 s hs _ (by rw [nCu_e,iP (by simpa using hx),Nat.zero_add])
theorem nCuF(s:BA)(hs:s.size<=1000000000)(hx:¬ptS s<s.size):Pu 127 [.str s] (.ret (.tup [.str s,.str nm0,.bool false])):=
 nCuL_2 s hs (by rw [nCu_e,iN (by simpa using hx)])
def partB(s:BA):Bool:=szB s&&(s.data.toList.all anB||wordB s.data.toList)
abbrev coI(first rest:BA)(more:Bool)(xe:Ext):S:=⟨[(2,.v (.int .i64 0)),(4,.v (.str rest)),(5,.v (.bool more))],[],xe⟩
section
variable (rest:BA) (xe:Ext)
include rest xe
theorem coZ(cx:Cx)(hcx:cx.n=52){Q:PExit->S->Prop}(hq:Q (.exit 0) (S.mk [(2,vI6 0),(4,vS rest),(5,.v (.bool false))] [] xe)):PW prog cx (loopF f108 0) (coI rest rest false xe) Q:=
 pw mdL 52 [bf false] [2,4,5] [] hcx hq
theorem coT_1(hs:rest.size<=1000000000)(hx:ptS rest<rest.size)(hx0:szB (ByteArray.extract rest 0 (ptS rest))=false)(cx:Cx)(hcx:cx.n=52){Q:PExit->S->Prop}(hq:Q (.ret) (S.mk [(2,vI6 3),(4,vS (ByteArray.extract rest (ptS rest+1) (ByteArray.size rest))),(5,.v (.bool true))] [] xe)):PW prog cx (loopF f108 0) (coI rest rest true xe) Q:=
 pw mdL 52 [bt true,cl (@nCuT rest hs hx),cl (@nSiT (ByteArray.extract rest 0 (ptS rest))),rp 6 (bt1 (bnT hx0)),bt true] [2,4,5] [] hcx hq
theorem coT_2(hs:rest.size<=1000000000)(hx:ptS rest<rest.size)(hx0:szB (ByteArray.extract rest 0 (ptS rest))=true)(hx1:List.all (Array.toList (ByteArray.data (ByteArray.extract rest 0 (ptS rest)))) anB=false)(hx2:wordB (Array.toList (ByteArray.data (ByteArray.extract rest 0 (ptS rest))))=false)(cx:Cx)(hcx:cx.n=52){Q:PExit->S->Prop}(hq:Q (.ret) (S.mk [(2,vI6 3),(4,vS (ByteArray.extract rest (ptS rest+1) (ByteArray.size rest))),(5,.v (.bool true))] [] xe)):PW prog cx (loopF f108 0) (coI rest rest true xe) Q:=
 pw mdL 52 [bt true,cl (@nCuT rest hs hx),cl (@nSiT (ByteArray.extract rest 0 (ptS rest))),rp 2 (bf1 (bnF hx0)),cl (@nAlT (ByteArray.extract rest 0 (ptS rest)) (by (apply szB_s <;> first | assumption | omega | decide))),rp 2 (bf1 (bnF hx0)),rp 2 (bt1 (bnT hx1)),cl (@nWdT (ByteArray.extract rest 0 (ptS rest)) (by (apply szB_s <;> first | assumption | omega | decide))),bt1 (bnT hx1),bf1 (bnF hx0),bt1 (bnT hx1),bf1 (bnF hx0),bt1 (bnT hx2)] [2,4,5] [] hcx hq
theorem coT_3(hs:rest.size<=1000000000)(hx:ptS rest<rest.size)(hx0:szB (ByteArray.extract rest 0 (ptS rest))=true)(hx1:List.all (Array.toList (ByteArray.data (ByteArray.extract rest 0 (ptS rest)))) anB=false)(hx2:wordB (Array.toList (ByteArray.data (ByteArray.extract rest 0 (ptS rest))))=true)(cx:Cx)(hcx:cx.n=52){Q:PExit->S->Prop}(hq:Q (.normal) (S.mk [(2,vI6 0),(4,vS (ByteArray.extract rest (ptS rest+1) (ByteArray.size rest))),(5,.v (.bool true))] [] xe)):PW prog cx (loopF f108 0) (coI rest rest true xe) Q:=
 pw mdL 52 [bt true,cl (@nCuT rest hs hx),cl (@nSiT (ByteArray.extract rest 0 (ptS rest))),rp 2 (bf1 (bnF hx0)),cl (@nAlT (ByteArray.extract rest 0 (ptS rest)) (by (apply szB_s <;> first | assumption | omega | decide))),rp 2 (bf1 (bnF hx0)),rp 2 (bt1 (bnT hx1)),cl (@nWdT (ByteArray.extract rest 0 (ptS rest)) (by (apply szB_s <;> first | assumption | omega | decide))),bt1 (bnT hx1),bf1 (bnF hx0),bt1 (bnT hx1),bf1 (bnF hx0),bf1 (bnF hx2)] [2,4,5] [] hcx hq
theorem coT_4(hs:rest.size<=1000000000)(hx:ptS rest<rest.size)(hx0:szB (ByteArray.extract rest 0 (ptS rest))=true)(hx1:List.all (Array.toList (ByteArray.data (ByteArray.extract rest 0 (ptS rest)))) anB=true)(cx:Cx)(hcx:cx.n=52){Q:PExit->S->Prop}(hq:Q (.normal) (S.mk [(2,vI6 0),(4,vS (ByteArray.extract rest (ptS rest+1) (ByteArray.size rest))),(5,.v (.bool true))] [] xe)):PW prog cx (loopF f108 0) (coI rest rest true xe) Q:=
 pw mdL 52 [bt true,cl (@nCuT rest hs hx),cl (@nSiT (ByteArray.extract rest 0 (ptS rest))),rp 2 (bf1 (bnF hx0)),cl (@nAlT (ByteArray.extract rest 0 (ptS rest)) (by (apply szB_s <;> first | assumption | omega | decide))),rp 2 (bf1 (bnF hx0)),rp 3 (bf1 (bnF hx1)),bf1 (bnF hx0),bf1 (bnF hx1),bf1 (bnF hx0),bf false] [2,4,5] [] hcx hq
theorem coF_1(hs:rest.size<=1000000000)(hx:¬ptS rest<rest.size)(hx0:szB rest=false)(cx:Cx)(hcx:cx.n=52){Q:PExit->S->Prop}(hq:Q (.ret) (S.mk [(2,vI6 3),(4,vS nm0),(5,.v (.bool false))] [] xe)):PW prog cx (loopF f108 0) (coI rest rest true xe) Q:=
 pw mdL 52 [bt true,cl (@nCuF rest hs hx),cl (@nSiT rest),rp 6 (bt1 (bnT hx0)),bt true] [2,4,5] [] hcx hq
theorem coF_2(hs:rest.size<=1000000000)(hx:¬ptS rest<rest.size)(hx0:szB rest=true)(hx1:List.all (Array.toList (ByteArray.data rest)) anB=false)(hx2:wordB (Array.toList (ByteArray.data rest))=false)(cx:Cx)(hcx:cx.n=52){Q:PExit->S->Prop}(hq:Q (.ret) (S.mk [(2,vI6 3),(4,vS nm0),(5,.v (.bool false))] [] xe)):PW prog cx (loopF f108 0) (coI rest rest true xe) Q:=
 pw mdL 52 [bt true,cl (@nCuF rest hs hx),cl (@nSiT rest),rp 2 (bf1 (bnF hx0)),cl (@nAlT rest hs),rp 2 (bf1 (bnF hx0)),rp 2 (bt1 (bnT hx1)),cl (@nWdT rest hs),bt1 (bnT hx1),bf1 (bnF hx0),bt1 (bnT hx1),bf1 (bnF hx0),bt1 (bnT hx2)] [2,4,5] [] hcx hq
theorem coF_3(hs:rest.size<=1000000000)(hx:¬ptS rest<rest.size)(hx0:szB rest=true)(hx1:List.all (Array.toList (ByteArray.data rest)) anB=false)(hx2:wordB (Array.toList (ByteArray.data rest))=true)(cx:Cx)(hcx:cx.n=52){Q:PExit->S->Prop}(hq:Q (.normal) (S.mk [(2,vI6 0),(4,vS nm0),(5,.v (.bool false))] [] xe)):PW prog cx (loopF f108 0) (coI rest rest true xe) Q:=
 pw mdL 52 [bt true,cl (@nCuF rest hs hx),cl (@nSiT rest),rp 2 (bf1 (bnF hx0)),cl (@nAlT rest hs),rp 2 (bf1 (bnF hx0)),rp 2 (bt1 (bnT hx1)),cl (@nWdT rest hs),bt1 (bnT hx1),bf1 (bnF hx0),bt1 (bnT hx1),bf1 (bnF hx0),bf1 (bnF hx2)] [2,4,5] [] hcx hq
theorem coF_4(hs:rest.size<=1000000000)(hx:¬ptS rest<rest.size)(hx0:szB rest=true)(hx1:List.all (Array.toList (ByteArray.data rest)) anB=true)(cx:Cx)(hcx:cx.n=52){Q:PExit->S->Prop}(hq:Q (.normal) (S.mk [(2,vI6 0),(4,vS nm0),(5,.v (.bool false))] [] xe)):PW prog cx (loopF f108 0) (coI rest rest true xe) Q:=
 pw mdL 52 [bt true,cl (@nCuF rest hs hx),cl (@nSiT rest),rp 2 (bf1 (bnF hx0)),cl (@nAlT rest hs),rp 2 (bf1 (bnF hx0)),rp 3 (bf1 (bnF hx1)),bf1 (bnF hx0),bf1 (bnF hx1),bf1 (bnF hx0),bf false] [2,4,5] [] hcx hq
end
def coR:Nat->BA->Bool
 | 0,_=>true
 | n+1,s=>if ptS s<s.size then partB (s.extract 0 (ptS s))&&coR n (s.extract (ptS s+1) s.size) else partB s
theorem ext_lt(s:BA)(h:ptS s<s.size):(s.extract (ptS s+1) s.size).size<s.size:=by rw [ByteArray.size_extract]; omega
theorem coR_fuel:∀ (n m:Nat) (s:BA),s.size<n->s.size<m->coR n s=coR m s
 | 0,_,_,h,_=>by omega
 | _+1,0,_,_,h=>by omega
 | n+1,m+1,s,h,k=>by
  simp only [coR]
  by_cases hx:ptS s<s.size
  ·have:=ext_lt s hx
   rw [iP hx,iP hx,coR_fuel n m _ oM oM]
  ·rw [iN hx,iN hx]
def corG(s:BA):Bool:=coR (s.size+1) s
theorem corG_e(s:BA):corG s=if ptS s<s.size then partB (s.extract 0 (ptS s))&&corG (s.extract (ptS s+1) s.size) else partB s:=by
 unfold corG
 rw [coR]
 by_cases hx:ptS s<s.size
 ·have:=ext_lt s hx
  rw [iP hx,iP hx,coR_fuel _ ((s.extract (ptS s+1) s.size).size+1) _ oM oM]
 ·rw [iN hx,iN hx]
def coQ(xe:Ext)(b:Bool):PExit × S:=if b=true then (.exit 0,⟨[(2,.v (.int .i64 0))],[],xe⟩) else (.ret,⟨[(2,.v (.int .i64 3))],[],xe⟩)
def coM(x:BA × Bool):Bool:=if x.2=true then corG x.1 else true
theorem co_lp(xe:Ext)(rest:BA)(more:Bool)(hs:rest.size<=1000000000):(Ob.loop 52 (loopF f108 0) (coI rest rest more xe) (coQ xe (coM (rest,more))).1 (coQ xe (coM (rest,more))).2).ok prog:=by
 refine Ob.loop_of (P:=prog) (α:={ x:BA × Bool // x.1.size<=1000000000 }) (fun x=>coI x.1.1 x.1.1 x.1.2 xe) (fun x=>if x.1.2=true then x.1.1.size+1 else 0) (fun x=>coQ xe (coM x.1)) ?_ ⟨(rest,more),hs⟩
 clear hs more rest
 rintro ⟨⟨rest,more⟩,hs⟩ cx hcx
 replace hs:rest.size<=1000000000:=hs
 have W1:∀ (r:BA) (b:Bool),LeX (⟨[(2,.v (.int .i64 3))],[],xe⟩:S) ⟨[(2,.v (.int .i64 3)),(4,.v (.str r)),(5,.v (.bool b))],[],xe⟩:=fun r b=>⟨⟨W,tVv⟩,trivial,rfl⟩
 cases more with
 | false=>
  have hr:coQ xe (coM (rest,false))=(.exit 0,⟨[(2,.v (.int .i64 0))],[],xe⟩):=rfl
  refine coZ rest xe cx hcx (.inr ?_)
  simp only
  rw [hr]
  exact ⟨by simp,rfl,xr⟩
 | true=>
  have hm:coM (rest,true)=corG rest:=rfl
  by_cases hx:ptS rest<rest.size
  ·have hlt:=ext_lt rest hx
   have hg:=corG_e rest
   rw [iP hx] at hg
   have bad:partB (rest.extract 0 (ptS rest))=false->coQ xe (coM (rest,true))=(.ret,⟨[(2,.v (.int .i64 3))],[],xe⟩):=fun h=>by rw [hm,hg,h]; rfl
   have good:partB (rest.extract 0 (ptS rest))=true->coQ xe (coM (rest,true))=coQ xe (coM (rest.extract (ptS rest+1) rest.size,true)):=fun h=>by rw [hm,hg,h]; rfl
   cases h0:szB (rest.extract 0 (ptS rest)) with
   | false=>
    refine coT_1 rest xe hs hx h0 cx hcx (.inr ?_)
    simp only
    rw [bad (by simp [partB,h0])]
    exact ⟨by simp,rfl,W1 _ _⟩
   | true=>
    cases h1:(rest.extract 0 (ptS rest)).data.toList.all anB with
    | true=>exact coT_4 rest xe hs hx h0 h1 cx hcx (.inl ⟨rfl,⟨(rest.extract (ptS rest+1) rest.size,true),by simp only; omega⟩,by simp only [if_true]; omega,⟨⟨W,W,W,tVv⟩,trivial,rfl⟩,(good (by simp only [partB,h0,h1]; rfl)).symm⟩)
    | false=>
     cases h2:wordB (rest.extract 0 (ptS rest)).data.toList with
     | true=>exact coT_3 rest xe hs hx h0 h1 h2 cx hcx (.inl ⟨rfl,⟨(rest.extract (ptS rest+1) rest.size,true),by simp only; omega⟩,by simp only [if_true]; omega,⟨⟨W,W,W,tVv⟩,trivial,rfl⟩,(good (by simp only [partB,h0,h1,h2]; rfl)).symm⟩)
     | false=>
      refine coT_2 rest xe hs hx h0 h1 h2 cx hcx (.inr ?_)
      simp only
      rw [bad (by simp only [partB,h0,h1,h2]; rfl)]
      exact ⟨by simp,rfl,W1 _ _⟩
  ·have hg:=corG_e rest
   rw [iN hx] at hg
   have bad:partB rest=false->coQ xe (coM (rest,true))=(.ret,⟨[(2,.v (.int .i64 3))],[],xe⟩):=fun h=>by rw [hm,hg,h]; rfl
   have good:partB rest=true->coQ xe (coM (rest,true))=coQ xe (coM (nm0,false)):=fun h=>by rw [hm,hg,h]; rfl
   cases h0:szB rest with
   | false=>
    refine coF_1 rest xe hs hx h0 cx hcx (.inr ?_)
    simp only
    rw [bad (by simp [partB,h0])]
    exact ⟨by simp,rfl,W1 _ _⟩
   | true=>
    cases h1:rest.data.toList.all anB with
    | true=>exact coF_4 rest xe hs hx h0 h1 cx hcx (.inl ⟨rfl,⟨(nm0,false),by decide⟩,by simp,⟨⟨W,W,W,tVv⟩,trivial,rfl⟩,(good (by simp only [partB,h0,h1]; rfl)).symm⟩)
    | false=>
     cases h2:wordB rest.data.toList with
     | true=>exact coF_3 rest xe hs hx h0 h1 h2 cx hcx (.inl ⟨rfl,⟨(nm0,false),by decide⟩,by simp,⟨⟨W,W,W,tVv⟩,trivial,rfl⟩,(good (by simp only [partB,h0,h1,h2]; rfl)).symm⟩)
     | false=>
      refine coF_2 rest xe hs hx h0 h1 h2 cx hcx (.inr ?_)
      simp only
      rw [bad (by simp only [partB,h0,h1,h2]; rfl)]
      exact ⟨by simp,rfl,W1 _ _⟩
theorem co_T(xe:Ext)(rest:BA)(more:Bool)(hs:rest.size<=1000000000)(hb:coM (rest,more)=true):(Ob.loop 52 (loopF f108 0) (coI rest rest more xe) (.exit 0) ⟨[(2,.v (.int .i64 0))],[],xe⟩).ok prog:=by
 have:=co_lp xe rest more hs
 rw [hb] at this
 exact this
theorem co_F(xe:Ext)(rest:BA)(more:Bool)(hs:rest.size<=1000000000)(hb:coM (rest,more)=false):(Ob.loop 52 (loopF f108 0) (coI rest rest more xe) .ret ⟨[(2,.v (.int .i64 3))],[],xe⟩).ok prog:=by
 have:=co_lp xe rest more hs
 rw [hb] at this
 exact this
theorem ex_le{s:BA}{a b:Nat}(h:(s.size:Int)<=120):(s.extract a b).size<=1000000000:=by rw [ByteArray.size_extract]; omega
theorem s_le{s:BA}(h:(s.size:Int)<=120):s.size<=1000000000:=by omega
abbrev tV:BA:=⟨#[118]⟩
section
variable (s:BA)
include s
theorem nCoA(hl:(s.size:Int)>120):Pu 108 [.str s] (rI 3):=
 pm mdL [kp,dt ((↑(ByteArray.size s):Int)>120) hl] func108
theorem nCoB_1(hl:(s.size:Int)<=120)(hx:ptS s<s.size)(hx0:nameB (ByteArray.extract s 0 (ptS s))=false)(hx1:titleB (ByteArray.extract s 0 (ptS s))=false)(hx2:¬ByteArray.extract s 0 (ptS s)=ByteArray.mk #[118]):Pu 108 [.str s] (rI 3):=
 pm mdL [kp,df ((↑(ByteArray.size s):Int)>120),cl (@nCuT s oM hx),cl (@nNmT (ByteArray.extract s 0 (ptS s))),rp 2 (bt1 (bnT hx0)),cl (@nTiT (ByteArray.extract s 0 (ptS s))),rp 2 (bt1 (bnT hx0)),rp 3 (bt1 (bnT hx1)),rp 2 (bt (!ByteArray.toList (ByteArray.extract s 0 (ptS s))==ByteArray.toList (bM 118)) (bnT (bsF hx2))),bt1 (bnT hx1),bt (!ByteArray.toList (ByteArray.extract s 0 (ptS s))==ByteArray.toList (bM 118)) (bnT (bsF hx2)),bt1 (bnT hx1),bt true] func108
theorem nCoB_2(hl:(s.size:Int)<=120)(hx:ptS s<s.size)(hx0:nameB (ByteArray.extract s 0 (ptS s))=false)(hx1:titleB (ByteArray.extract s 0 (ptS s))=false)(hx2:ByteArray.extract s 0 (ptS s)=ByteArray.mk #[118])(hx3:coM (ByteArray.extract s (ptS s+1) (ByteArray.size s),true)=true):Pu 108 [.str s] (rI 0):=
 pu mdL (fun e=>[kp,df ((↑(ByteArray.size s):Int)>120),cl (@nCuT s oM hx),cl (@nNmT (ByteArray.extract s 0 (ptS s))),rp 2 (bt1 (bnT hx0)),cl (@nTiT (ByteArray.extract s 0 (ptS s))),rp 2 (bt1 (bnT hx0)),rp 3 (bt1 (bnT hx1)),rp 2 (bf (!ByteArray.toList (ByteArray.extract s 0 (ptS s))==ByteArray.toList (bM 118)) (bnF (bsT hx2))),bt1 (bnT hx1),bf (!ByteArray.toList (ByteArray.extract s 0 (ptS s))==ByteArray.toList (bM 118)) (bnF (bsT hx2)),bt1 (bnT hx1),bf false,lq (@co_T e (ByteArray.extract s (ptS s+1) (ByteArray.size s)) true (by (apply ex_le <;> first | assumption | omega | decide)) hx3)]) func108
theorem nCoB_3(hl:(s.size:Int)<=120)(hx:ptS s<s.size)(hx0:nameB (ByteArray.extract s 0 (ptS s))=false)(hx1:titleB (ByteArray.extract s 0 (ptS s))=false)(hx2:ByteArray.extract s 0 (ptS s)=ByteArray.mk #[118])(hx3:coM (ByteArray.extract s (ptS s+1) (ByteArray.size s),true)=false):Pu 108 [.str s] (rI 3):=
 pu mdL (fun e=>[kp,df ((↑(ByteArray.size s):Int)>120),cl (@nCuT s oM hx),cl (@nNmT (ByteArray.extract s 0 (ptS s))),rp 2 (bt1 (bnT hx0)),cl (@nTiT (ByteArray.extract s 0 (ptS s))),rp 2 (bt1 (bnT hx0)),rp 3 (bt1 (bnT hx1)),rp 2 (bf (!ByteArray.toList (ByteArray.extract s 0 (ptS s))==ByteArray.toList (bM 118)) (bnF (bsT hx2))),bt1 (bnT hx1),bf (!ByteArray.toList (ByteArray.extract s 0 (ptS s))==ByteArray.toList (bM 118)) (bnF (bsT hx2)),bt1 (bnT hx1),bf false,lq (@co_F e (ByteArray.extract s (ptS s+1) (ByteArray.size s)) true (by (apply ex_le <;> first | assumption | omega | decide)) hx3)]) func108
theorem nCoB_4(hl:(s.size:Int)<=120)(hx:ptS s<s.size)(hx0:nameB (ByteArray.extract s 0 (ptS s))=false)(hx1:titleB (ByteArray.extract s 0 (ptS s))=true)(hx2:coM (ByteArray.extract s (ptS s+1) (ByteArray.size s),true)=true):Pu 108 [.str s] (rI 0):=
 pu mdL (fun e=>[kp,df ((↑(ByteArray.size s):Int)>120),cl (@nCuT s oM hx),cl (@nNmT (ByteArray.extract s 0 (ptS s))),rp 2 (bt1 (bnT hx0)),cl (@nTiT (ByteArray.extract s 0 (ptS s))),rp 2 (bt1 (bnT hx0)),rp 5 (bf1 (bnF hx1)),bf false,lq (@co_T e (ByteArray.extract s (ptS s+1) (ByteArray.size s)) true (by (apply ex_le <;> first | assumption | omega | decide)) hx2)]) func108
theorem nCoB_5(hl:(s.size:Int)<=120)(hx:ptS s<s.size)(hx0:nameB (ByteArray.extract s 0 (ptS s))=false)(hx1:titleB (ByteArray.extract s 0 (ptS s))=true)(hx2:coM (ByteArray.extract s (ptS s+1) (ByteArray.size s),true)=false):Pu 108 [.str s] (rI 3):=
 pu mdL (fun e=>[kp,df ((↑(ByteArray.size s):Int)>120),cl (@nCuT s oM hx),cl (@nNmT (ByteArray.extract s 0 (ptS s))),rp 2 (bt1 (bnT hx0)),cl (@nTiT (ByteArray.extract s 0 (ptS s))),rp 2 (bt1 (bnT hx0)),rp 5 (bf1 (bnF hx1)),bf false,lq (@co_F e (ByteArray.extract s (ptS s+1) (ByteArray.size s)) true (by (apply ex_le <;> first | assumption | omega | decide)) hx2)]) func108
theorem nCoB_6(hl:(s.size:Int)<=120)(hx:ptS s<s.size)(hx0:nameB (ByteArray.extract s 0 (ptS s))=true)(hx1:coM (ByteArray.extract s (ptS s+1) (ByteArray.size s),true)=true):Pu 108 [.str s] (rI 0):=
 pu mdL (fun e=>[kp,df ((↑(ByteArray.size s):Int)>120),cl (@nCuT s oM hx),cl (@nNmT (ByteArray.extract s 0 (ptS s))),rp 4 (bf1 (bnF hx0)),rp 6 (bf false),lq (@co_T e (ByteArray.extract s (ptS s+1) (ByteArray.size s)) true (by (apply ex_le <;> first | assumption | omega | decide)) hx1)]) func108
theorem nCoB_7(hl:(s.size:Int)<=120)(hx:ptS s<s.size)(hx0:nameB (ByteArray.extract s 0 (ptS s))=true)(hx1:coM (ByteArray.extract s (ptS s+1) (ByteArray.size s),true)=false):Pu 108 [.str s] (rI 3):=
 pu mdL (fun e=>[kp,df ((↑(ByteArray.size s):Int)>120),cl (@nCuT s oM hx),cl (@nNmT (ByteArray.extract s 0 (ptS s))),rp 4 (bf1 (bnF hx0)),rp 6 (bf false),lq (@co_F e (ByteArray.extract s (ptS s+1) (ByteArray.size s)) true (by (apply ex_le <;> first | assumption | omega | decide)) hx1)]) func108
theorem nCoC_1(hl:(s.size:Int)<=120)(hx:¬ptS s<s.size)(hx0:nameB s=false)(hx1:titleB s=false)(hx2:¬s=ByteArray.mk #[118]):Pu 108 [.str s] (rI 3):=
 pm mdL [kp,df ((↑(ByteArray.size s):Int)>120),cl (@nCuF s oM hx),cl (@nNmT s),rp 2 (bt1 (bnT hx0)),cl (@nTiT s),rp 2 (bt1 (bnT hx0)),rp 3 (bt1 (bnT hx1)),rp 2 (bt (!ByteArray.toList s==ByteArray.toList (bM 118)) (bnT (bsF hx2))),bt1 (bnT hx1),bt (!ByteArray.toList s==ByteArray.toList (bM 118)) (bnT (bsF hx2)),bt1 (bnT hx1),bt true] func108
theorem nCoC_2(hl:(s.size:Int)<=120)(hx:¬ptS s<s.size)(hx0:nameB s=false)(hx1:titleB s=false)(hx2:s=ByteArray.mk #[118]):Pu 108 [.str s] (rI 3):=
 pm mdL [kp,df ((↑(ByteArray.size s):Int)>120),cl (@nCuF s oM hx),cl (@nNmT s),rp 2 (bt1 (bnT hx0)),cl (@nTiT s),rp 2 (bt1 (bnT hx0)),rp 3 (bt1 (bnT hx1)),rp 2 (bf (!ByteArray.toList s==ByteArray.toList (bM 118)) (bnF (bsT hx2))),bt1 (bnT hx1),bf (!ByteArray.toList s==ByteArray.toList (bM 118)) (bnF (bsT hx2)),bt1 (bnT hx1),bt true] func108
theorem nCoC_3(hl:(s.size:Int)<=120)(hx:¬ptS s<s.size)(hx0:nameB s=false)(hx1:titleB s=true):Pu 108 [.str s] (rI 0):=
 pu mdL (fun e=>[kp,df ((↑(ByteArray.size s):Int)>120),cl (@nCuF s oM hx),cl (@nNmT s),rp 2 (bt1 (bnT hx0)),cl (@nTiT s),rp 2 (bt1 (bnT hx0)),rp 5 (bf1 (bnF hx1)),bf false,lq (@co_T e nm0 false (by (apply s_le <;> first | assumption | omega | decide)) rF)]) func108
theorem nCoC_4(hl:(s.size:Int)<=120)(hx:¬ptS s<s.size)(hx0:nameB s=true):Pu 108 [.str s] (rI 0):=
 pu mdL (fun e=>[kp,df ((↑(ByteArray.size s):Int)>120),cl (@nCuF s oM hx),cl (@nNmT s),rp 4 (bf1 (bnF hx0)),rp 6 (bf false),lq (@co_T e nm0 false (by (apply s_le <;> first | assumption | omega | decide)) rF)]) func108
end
open Go.RowKit Go.Shelf Go.Pv
attribute [local go_sem] Oper.semAt_some
set_option maxRecDepth 100000
structure KC (W W':World):Prop where
 size:W.heap.size<=W'.heap.size
 same:∀ (k:Nat) (o:Obj),W.heap[k]?=some o->o.isCells=true->W'.heap[k]?=some o
theorem KC.refl(W:World):KC W W:=⟨Nat.le_refl _,fun _ _ h _=>h⟩
theorem KC.trans{A B C:World}(h:KC A B)(k:KC B C):KC A C:=⟨Nat.le_trans h.size k.size,fun i o hi ho=>k.same i o (h.same i o hi ho) ho⟩
theorem KC.cell{A B:World}(h:KC A B){a:Addr}{v:Value}(hc:A.cell? a=some v):B.cell? a=some v:=by
 unfold World.cell? at hc ⊢
 cases hh:A.heap[a.block]? with
 | none=>simp [hh] at hc
 | some o=>
  cases o with
  | cells cur e m=>rw [h.same _ _ hh rfl]; rw [hh] at hc; exact hc
  | _=>simp [hh] at hc
mutual
/-- The nodes of a predicate,each before its kids' nodes. -/
def nodesP:Pr->List Pr
 | .mk o s n ks => .mk o s n ks::nodesPs ks
def nodesPs:List Pr->List Pr
 | []=>[]
 | x::r=>nodesP x++nodesPs r
end
theorem nodesP_e(p:Pr):nodesP p=p::nodesPs (prK p):=by cases p; simp [nodesP,prK]
abbrev encP(p:Pr)(kv:Value):Value := .agg #[.int .i64 (prO p),.string (prNm p),.int .i64 (prN p),kv]
theorem KC.alloc{A W:World}(h:KC A W)(o:Obj):KC A (W.alloc o):=⟨Nat.le_trans h.size (by simp),fun k o' hk hc=>by
 have h1:=h.same k o' hk hc
 exact (Below.heap_alloc _ _ _ (Array.getElem?_eq_some_iff.1 h1).1).trans h1⟩
theorem cell_new3(W:World)(v0 v1 v2 v3:Value):(W.alloc (.cells #[v0,v1,v2,v3] 46)).cell? ⟨W.heap.size,3,none⟩=some v3:=by
 unfold World.cell?
 rw [World.alloc_heap_new W (.cells #[v0,v1,v2,v3] 46)]
 rfl
abbrev Nd(g:Gh)(W0:World):Type:={ x:Pr × Option Addr × Nat × Nat // Rep g W0 (.sl 4 (Pr.cs (prK x.1))) (.slice x.2.1 x.2.2.1 x.2.2.2) }
abbrev Nd.enc{g:Gh}{W0:World}(x:Nd g W0):Value:=encP x.1.1 (.slice x.1.2.1 x.1.2.2.1 x.1.2.2.2)
theorem spotN{W:World}{a:Addr}{v:Value}(h:W.cell? a=some v):a=⟨a.block,a.off,none⟩:=by
 have:=spot_of_cell h
 cases a; simp only at this; subst this; rfl
theorem sl_val{g:Gh}{w:World}{z:Nat}{es:List (List PV)}{v:Value}(h:Rep g w (.sl z es) v):∃oa m c,v = .slice oa m c:=by
 cases h with
 | slnil=>exact ⟨none,0,0,rfl⟩
 | sl _ _ a cap _ _ _ _ _ _ _ _=>exact ⟨some a,_,cap,rfl⟩
theorem kids_inv{g:Gh}{W0:World}(x:Nd g W0):(prK x.1.1=[]/\x.1.2.2.1=0) ∨
  ∃b off,x.1.2.1=some ⟨b,off,none⟩/\x.1.2.2.1=(prK x.1.1).length/\0<(prK x.1.1).length/\(prK x.1.1).length<=9223372036854775807 /\
   ∀i,i<(prK x.1.1).length->∃y:Nd g W0,y.1.1=(prK x.1.1).getD i default/\W0.cell? ⟨b,off+i * 4,none⟩=some (.int .i64 (prO y.1.1))/\W0.cell? ⟨b,off+i * 4+1,none⟩=some (.string (prNm y.1.1)) /\
    W0.cell? ⟨b,off+i * 4+2,none⟩=some (.int .i64 (prN y.1.1))/\W0.cell? ⟨b,off+i * 4+3,none⟩=some (.slice y.1.2.1 y.1.2.2.1 y.1.2.2.2):=by
 obtain ⟨⟨p,oa,m,c⟩,h⟩:=x
 simp only at h ⊢
 generalize he:Pr.cs (prK p)=es at h
 generalize hv:Value.slice oa m c=v at h
 have hl:es.length=(prK p).length:=by rw [<-he,Pr.cs_len]
 cases h with
 | slnil=>
  injection hv with e1 e2 e3
  exact .inl ⟨List.eq_nil_of_length_eq_zero (by rw [<-hl]; rfl),e2⟩
 | sl _ _ a cap vs hle hcap hsz hc hf h1 hr=>
  injection hv with e1 e2 e3
  by_cases h0:(prK p).length=0
  ·exact .inl ⟨List.eq_nil_of_length_eq_zero h0,by omega⟩
  ·have c00:=spotN (hc 0 0 (by omega) (by omega))
   have ha:a=⟨a.block,a.off,none⟩:=by
    have h:=spot_of_cell (hc 0 0 (by omega) (by omega))
    cases a with
    | mk b o sp=>
     simp only [Addr.add] at h ⊢
     split at h <;> simp_all
   refine .inr ⟨a.block,a.off,by rw [e1,<-ha],by omega,by omega,Nat.le_trans (by omega) (Nat.le_trans hcap (by decide)),fun i hi=>?_⟩
   have hie:i<es.length:=by omega
   have hrow:es[i]=prL ((prK p).getD i default):=by
    have:=Pr.cs_at hi
    rw [he] at this
    rw [<-this]
    simp [List.getD,hie]
   have hat:∀j,a.add (i * 4+j)=⟨a.block,a.off+i * 4+j,none⟩:=fun j=>by
    rw [ha]; simp only [Addr.add]; simp [Nat.add_assoc]
   have hrr:∀j (hj:j<es[i].length),Rep g W0 es[i][j] (vs i j):=fun j hj=>hr i j hie hj
   have hlen:es[i].length=4:=hsz i hie
   have r0:Rep g W0 (.int .i64 (prO ((prK p).getD i default))) (vs i 0):=by have:=hrr 0 (by omega); simpa only [hrow,prL,List.getElem_cons_zero] using this
   have r1:Rep g W0 (.str (prNm ((prK p).getD i default))) (vs i 1):=by have:=hrr 1 (by omega); simpa only [hrow,prL,List.getElem_cons_zero,List.getElem_cons_succ] using this
   have r2:Rep g W0 (.int .i64 (prN ((prK p).getD i default))) (vs i 2):=by have:=hrr 2 (by omega); simpa only [hrow,prL,List.getElem_cons_zero,List.getElem_cons_succ] using this
   have r3:Rep g W0 (.sl 4 (Pr.cs (prK ((prK p).getD i default)))) (vs i 3):=by have:=hrr 3 (by omega); simpa only [hrow,prL,List.getElem_cons_zero,List.getElem_cons_succ] using this
   obtain ⟨oa',m',c',e'⟩:=sl_val r3
   have v0:vs i 0 = .int .i64 (prO ((prK p).getD i default)):=by generalize vs i 0=u at r0; cases r0; rfl
   have v1:vs i 1 = .string (prNm ((prK p).getD i default)):=by generalize vs i 1=u at r1; cases r1; rfl
   have v2:vs i 2 = .int .i64 (prN ((prK p).getD i default)):=by generalize vs i 2=u at r2; cases r2; rfl
   refine ⟨⟨⟨(prK p).getD i default,oa',m',c'⟩,by rw [e'] at r3; exact r3⟩,rfl,?_,?_,?_,?_⟩
   ·have:=hc i 0 hie (by omega); rw [hat,v0] at this; exact this
   ·have:=hc i 1 hie (by omega); rw [hat,v1] at this; exact this
   ·have:=hc i 2 hie (by omega); rw [hat,v2] at this; exact this
   ·have:=hc i 3 hie (by omega); rw [hat,e'] at this; exact this
theorem nodesPs_app:∀a b:List Pr,nodesPs (a++b)=nodesPs a++nodesPs b
 | [],b=>rfl
 | x::r,b=>by simp [nodesPs,nodesPs_app r b]
theorem nodesPs_take{ks:List Pr}{k:Nat}(h:k<ks.length):nodesPs (ks.take (k+1))=nodesPs (ks.take k)++nodesP (ks.getD k default):=by
 rw [List.take_add_one,nodesPs_app]
 simp [List.getD,h,nodesPs]
theorem nodesPs_le{ks:List Pr}{k:Nat}(h:k<ks.length):(nodesPs (ks.take k)).length+(nodesP (ks.getD k default)).length<=(nodesPs ks).length:=by
 have h1:nodesPs ks=nodesPs (ks.take (k+1))++nodesPs (ks.drop (k+1)):=by rw [<-nodesPs_app,List.take_append_drop]
 rw [h1,nodesPs_take h]
 simp only [List.length_append]
 omega
theorem nodesPs_pre{ks:List Pr}{k:Nat}(h:k<ks.length){q:List Pr}(hq:q <+: nodesP (ks.getD k default)):nodesPs (ks.take k)++q <+: nodesPs ks:=by
 have h1:nodesPs ks=nodesPs (ks.take (k+1))++nodesPs (ks.drop (k+1)):=by rw [<-nodesPs_app,List.take_append_drop]
 obtain ⟨r,hr⟩:=hq
 rw [h1,nodesPs_take h,<-hr]
 exact ⟨r++nodesPs (ks.drop (k+1)),by simp [List.append_assoc]⟩
abbrev YR{g:Gh}{W0:World}(J Jx:List (Nd g W0)->World->Prop)(pre:List (Nd g W0))(x:Nd g W0)(W:World)(e:Ending)(W':World):Prop:=
 (e = .returned (.bool true)/\J (pre++[x]) W'/\KC W W')∨(e = .returned (.bool false)/\Jx (pre++[x]) W')
set_option maxHeartbeats 2000000 in
theorem visit_in(F:Fence)(hd:F.depth=none)(h143:F.fn 104)(hro:F.round=none)(g:Gh)(W0:World)(l N:Nat)(J Jx:List (Nd g W0)->World->Prop)
  (hJ:∀s W W',J s W->W.grownBy W' none->J s W')
  (hY:∀m pre (x:Nd g W0) W,J pre W->pre.length<N->YieldAt F m Tryz.prog l #[x.enc] W (YR J Jx pre x W)) :
  ∀ (d:Nat) (x:Nd g W0) (n:Nat) (pre:List (Nd g W0)) (W:World),(nodesP x.1.1).length<=d->KC W0 W->J pre W->pre.length+(nodesP x.1.1).length<=N ->
   CallsIn F n Tryz.prog 104 #[x.enc,.func (.yield l) #[] #[]] W fun e W'=>
    (e = .returned (.bool true)/\(∃ys:List (Nd g W0),ys.map (·.1.1)=nodesP x.1.1/\J (pre++ys) W')/\KC W W') ∨
    (e = .returned (.bool false)/\∃ys:List (Nd g W0),ys.map (·.1.1) <+: nodesP x.1.1/\Jx (pre++ys) W'):=by
 intro d
 induction d with
 | zero=>intro x n pre W h; rw [nodesP_e] at h; simp at h
 | succ d ih=>
 intro x n pre W hlen hk0 hJ0 hN
 have hnd:(nodesPs (prK x.1.1)).length<=d:=by rw [nodesP_e] at hlen; simp at hlen; omega
 have hNs:pre.length+1+(nodesPs (prK x.1.1)).length<=N:=by rw [nodesP_e] at hN; simp at hN; omega
 have hpre1:∀q,q <+: nodesPs (prK x.1.1)->x.1.1::q <+: nodesP x.1.1:=fun q hq=>by rw [nodesP_e]; exact (List.prefix_cons_inj _).2 hq
 have hall:x.1.1::nodesPs (prK x.1.1)=nodesP x.1.1:=(nodesP_e _).symm
 have hkids:=kids_inv x
 have hY0:=fun m W=>hY m pre x W
 obtain ⟨p,oa,len,cap,hx⟩:∃p oa len cap,x.1=(p,oa,len,cap):=⟨_,_,_,_,rfl⟩
 simp only [Nd.enc] at hY0 ⊢
 rw [hx] at hlen hnd hNs hpre1 hall hkids hY0 hN ⊢
 simp only at hlen hnd hNs hpre1 hall hkids hY0 hN ⊢
 refine callsIn_of_wp Tryz.func104 rfl h143 ?_ hro
 simp only [Tryz.ntmps104,List.size_toArray,List.length_cons,List.length_nil,Nat.reduceAdd,Nat.reduceSub,Array.replicate_succ,Array.replicate_zero,List.push_toArray,List.append_toArray,List.nil_append,List.cons_append]
 have hdd:∀k:Nat,(F.depth.isSome=true->1<=k):=fun k h=>by rw [hd] at h; cases h
 have hJ1:J pre (W.alloc (.cells #[.int .i64 (prO p),.string (prNm p),.int .i64 (prN p),.slice oa len cap] 46)):=hJ _ _ _ hJ0 (World.grownBy_alloc W _ none)
 obtain ⟨fn,tmps,assign,body,hy,hR⟩:=hY0 (n - 1) _ hJ1 (by rw [nodesP_e] at hN; simp at hN; omega)
 have hR':=hR.mono (R':=fun e W2=>(e = .returned (.bool true)/\J (pre++[x]) W2/\KC W W2/\W2.cell? ⟨W.heap.size,3,none⟩=some (.slice oa len cap))∨(e = .returned (.bool false)/\Jx (pre++[x]) W2))
  (fun e W2 h=>h.elim (fun ⟨he,hj,hk⟩ => .inl ⟨he,hj,((KC.refl W).alloc _).trans hk,hk.cell (cell_new3 _ _ _ _ _)⟩) .inr)
 clear hR hY hY0
 gi_wp2_with ((try refine ⟨hdd _,?_⟩); refine hR'.mono ?_; clear hR'; rintro e W2 (⟨rfl,hj2,hk,hc⟩ | ⟨rfl,hx9⟩))
 ·rcases hkids with ⟨hnil,rfl⟩ | ⟨b,off,rfl,rfl,hpos,hmax,hcs⟩
  ·gi_loopw [14] (fun i wr=>i = .int .i64 0/\KC W wr/\J (pre++[x]) wr) (fun _ _=>0)
   case atStart=>exact ⟨rfl,hk,hj2⟩
   case round=>
    obtain ⟨rfl,hkc,hjy⟩:=hrel
    gi_wp2
    go_ret
    exact .inl ⟨rfl,⟨[x],by simp only [List.map_cons,List.map_nil,hx]; rw [hnil] at hall; exact hall,hjy⟩,hkc⟩
  ·gi_loopw [14] (fun i wr=>∃ (k:Nat) (ys:List (Nd g W0)),k<=(prK p).length/\i = .int .i64 k/\KC W wr/\ys.map (·.1.1)=nodesPs ((prK p).take k)/\J (pre++x::ys) wr) (fun i _=>(prK p).length - (intOf i).toNat)
   case atStart=>exact ⟨0,[],Nat.zero_le _,rfl,hk,rfl,hj2⟩
   case round=>
    obtain ⟨k,ys,hkl,rfl,hkc,hys,hjy⟩:=hrel
    by_cases hlt:k<(prK p).length
    ·obtain ⟨y,hy1,c0,c1,c2,c3⟩:=hcs k hlt
     have d0:=(hk0.trans hkc).cell c0
     have d1:=(hk0.trans hkc).cell c1
     have d2:=(hk0.trans hkc).cell c2
     have d3:=(hk0.trans hkc).cell c3
     have hle:=nodesPs_le hlt
     have htk:=nodesPs_take hlt
     have hpr:=fun q (hq:q <+: nodesP ((prK p).getD k default))=>nodesPs_pre hlt hq
     rw [<-hy1] at hle htk hpr
     have hyl:ys.length=(nodesPs ((prK p).take k)).length:=by rw [<-hys,List.length_map]
     have hcall:=ih y (n - 1) (pre++x::ys) (wr.alloc (.cells #[.int .i64 (prO y.1.1),.string (prNm y.1.1),.int .i64 (prN y.1.1),.slice y.1.2.1 y.1.2.2.1 y.1.2.2.2] 46)) (by omega) ((hk0.trans hkc).alloc _) (hJ _ _ _ hjy (World.grownBy_alloc _ _ none))
      (by simp only [List.length_append,List.length_cons]; omega)
     clear ih hcs hy1
     simp only [Nd.enc] at hcall
     obtain ⟨q,oa',m',c',hyx⟩:∃q oa' m' c',y.1=(q,oa',m',c'):=⟨_,_,_,_,rfl⟩
     rw [hyx] at hcall d0 d1 d2 d3 htk hpr hle
     simp only at hcall d0 d1 d2 d3 htk hpr hle
     clear hyx c0 c1 c2 c3
     gi_wp2_with ((try refine ⟨hdd _,?_⟩); gi_at_call 104; refine hcall.mono ?_; clear hcall; rintro e W3 (⟨rfl,⟨zs,hzs,hjz⟩,hk3⟩ | ⟨rfl,zs,hzs,hxz⟩))
     ·go_roundw
      case rel=>exact ⟨k+1,ys++zs,hlt,by simp,(hkc.alloc _).trans hk3,by rw [List.map_append,hys,hzs,htk],by rw [<-List.cons_append,<-List.append_assoc]; exact hjz⟩
      case measure=>simp [intOf]; omega
     ·go_ret
      exact .inr ⟨rfl,x::(ys++zs),by simp only [List.map_cons,List.map_append,hys,hx]; exact hpre1 _ (hpr _ hzs),by rw [<-List.cons_append,<-List.append_assoc]; exact hxz⟩
    ·obtain rfl:k=(prK p).length:=by omega
     gi_wp2
     go_ret
     exact .inl ⟨rfl,⟨x::ys,by simp only [List.map_cons,hys,hx,List.take_length]; exact hall,hjy⟩,hkc⟩
 ·go_ret
  exact .inr ⟨rfl,[x],by simp only [List.map_cons,List.map_nil,hx]; exact hpre1 [] (List.nil_prefix),by exact hx9⟩
set_option maxHeartbeats 1000000 in
theorem before1_in(F:Fence)(hd:F.depth=none)(h142:F.fn 103)(h143:F.fn 104)(hro:F.round=none)(g:Gh)(W0:World)(l Bs:Nat)(x:Nd g W0)(n:Nat)(J Jx:List (Nd g W0)->World->Prop)
  (hJ:∀s W W',J s W->W.grownBy W' none->J s W')
  (hY:∀m pre (y:Nd g W0) W,J pre W->pre.length<(nodesP x.1.1).length->YieldAt F m Tryz.prog l #[y.enc] W (YR J Jx pre y W)) (W:World) (hk0:KC W0 W)
  (h1:W.cell? ⟨Bs,0,none⟩=some (.int .i64 (prO x.1.1))) (h2:W.cell? ⟨Bs,1,none⟩=some (.string (prNm x.1.1))) (h3:W.cell? ⟨Bs,2,none⟩=some (.int .i64 (prN x.1.1))) (h4:W.cell? ⟨Bs,3,none⟩=some (.slice x.1.2.1 x.1.2.2.1 x.1.2.2.2)) (h0:J [] W) :
  CallsIn F n Tryz.prog 103 #[.func (.yield l) #[] #[],.pointer (some ⟨Bs,0,none⟩)] W fun e W'=>(∃v,e = .returned v) /\
   ((∃ys:List (Nd g W0),ys.map (·.1.1)=nodesP x.1.1/\J ys W')∨(∃ys:List (Nd g W0),ys.map (·.1.1) <+: nodesP x.1.1/\Jx ys W')):=by
 have hdd:∀k:Nat,(F.depth.isSome=true->1<=k):=fun k h=>by rw [hd] at h; cases h
 have hcall:=visit_in F hd h143 hro g W0 l _ J Jx hJ hY _ x (n - 1) [] W (Nat.le_refl _) hk0 h0 (by simp)
 simp only [Nd.enc,List.nil_append] at hcall
 obtain ⟨p,oa,len,cap,hx⟩:∃p oa len cap,x.1=(p,oa,len,cap):=⟨_,_,_,_,rfl⟩
 rw [hx] at hcall h1 h2 h3 h4 ⊢
 simp only at hcall h1 h2 h3 h4 ⊢
 clear hY hx
 refine callsIn_of_wp Tryz.func103 rfl h142 ?_ hro
 simp only [Tryz.ntmps103,List.size_toArray,List.length_cons,List.length_nil,Nat.reduceAdd,Nat.reduceSub,Array.replicate_succ,Array.replicate_zero,List.push_toArray,List.append_toArray,List.nil_append,List.cons_append]
 gi_wp2_with ((try refine ⟨hdd _,?_⟩); gi_at_call 104; refine hcall.mono ?_; clear hcall; rintro e W1 (⟨rfl,⟨ys,hys,hj⟩,_⟩ | ⟨rfl,ys,hys,hx⟩))
 ·go_end0
  exact ⟨⟨_,rfl⟩,.inl ⟨ys,hys,hj⟩⟩
 ·go_end0
  exact ⟨⟨_,rfl⟩,.inr ⟨ys,hys,hx⟩⟩
set_option maxHeartbeats 1000000 in
theorem before_in(F:Fence)(n:Nat)(h100:F.fn 74)(hro:F.round=none)(p:Pr)(oa:Option Addr)(m c:Nat)(w:World) :
  CallsIn F n Tryz.prog 74 #[encP p (.slice oa m c)] w fun e w'=>e = .returned (.func (.func 103) #[] #[.pointer (some ⟨w.heap.size,0,none⟩)])/\w'=w.alloc (.cells #[.int .i64 (prO p),.string (prNm p),.int .i64 (prN p),.slice oa m c] 46):=by
 refine callsIn_of_wp Tryz.func74 rfl h100 ?_ hro
 simp only [Tryz.ntmps74,List.size_toArray,List.length_cons,List.length_nil,Nat.reduceAdd,Nat.reduceSub,Array.replicate_succ,Array.replicate_zero,List.push_toArray,List.append_toArray,List.nil_append,List.cons_append]
 gi_wp2
 go_ret
 exact ⟨rfl,rfl⟩
def coreB(s:BA):Bool:=decide (s.size<=120)&&(if ptS s<s.size then (nameB (s.extract 0 (ptS s))||titleB (s.extract 0 (ptS s))||decide (s.extract 0 (ptS s)=tV))&&corG (s.extract (ptS s+1) s.size) else nameB s||titleB s)
theorem coM_t{x:BA}{b:Bool}(h:corG x=b):coM (x,true)=b:=by rw [<-h]; unfold coM; rw [iP rfl]
theorem nCoT(s:BA):Pu 108 [.str s] (.ret (.int .i64 (erN (coreB s)))):=by
 unfold coreB
 by_cases hl:s.size<=120
 ·have hl':(s.size:Int)<=120:=by omega
  rw [decide_eq_true hl,Bool.true_and]
  by_cases hx:ptS s<s.size
  ·rw [iP hx]
   cases h0:nameB (s.extract 0 (ptS s)) with
   | true=>
    cases h3:corG (s.extract (ptS s+1) s.size) with
    | true=>simpa only [Bool.true_or,Bool.false_or,Bool.true_and,Bool.or_true,Bool.false_and,Bool.and_true,Bool.and_false,Bool.or_false,erN,if_true,Bool.false_eq_true,if_false] using nCoB_6 s hl' hx h0 (coM_t h3)
    | false=>simpa only [Bool.true_or,Bool.false_or,Bool.true_and,Bool.or_true,Bool.false_and,Bool.and_true,Bool.and_false,Bool.or_false,erN,if_true,Bool.false_eq_true,if_false] using nCoB_7 s hl' hx h0 (coM_t h3)
   | false=>
    cases h1:titleB (s.extract 0 (ptS s)) with
    | true=>
     cases h3:corG (s.extract (ptS s+1) s.size) with
     | true=>simpa only [Bool.true_or,Bool.false_or,Bool.true_and,Bool.or_true,Bool.false_and,Bool.and_true,Bool.and_false,Bool.or_false,erN,if_true,Bool.false_eq_true,if_false] using nCoB_4 s hl' hx h0 h1 (coM_t h3)
     | false=>simpa only [Bool.true_or,Bool.false_or,Bool.true_and,Bool.or_true,Bool.false_and,Bool.and_true,Bool.and_false,Bool.or_false,erN,if_true,Bool.false_eq_true,if_false] using nCoB_5 s hl' hx h0 h1 (coM_t h3)
    | false=>
     by_cases h2:s.extract 0 (ptS s)=tV
     ·rw [decide_eq_true h2]
      cases h3:corG (s.extract (ptS s+1) s.size) with
      | true=>simpa only [Bool.true_or,Bool.false_or,Bool.true_and,Bool.or_true,Bool.false_and,Bool.and_true,Bool.and_false,Bool.or_false,erN,if_true,Bool.false_eq_true,if_false] using nCoB_2 s hl' hx h0 h1 h2 (coM_t h3)
      | false=>simpa only [Bool.true_or,Bool.false_or,Bool.true_and,Bool.or_true,Bool.false_and,Bool.and_true,Bool.and_false,Bool.or_false,erN,if_true,Bool.false_eq_true,if_false] using nCoB_3 s hl' hx h0 h1 h2 (coM_t h3)
     ·rw [decide_eq_false h2]; simpa only [Bool.true_or,Bool.false_or,Bool.true_and,Bool.or_true,Bool.false_and,Bool.and_true,Bool.and_false,Bool.or_false,erN,if_true,Bool.false_eq_true,if_false] using nCoB_1 s hl' hx h0 h1 h2
  ·rw [iN hx]
   cases h0:nameB s with
   | true=>simpa only [Bool.true_or,Bool.false_or,Bool.true_and,Bool.or_true,Bool.false_and,Bool.and_true,Bool.and_false,Bool.or_false,erN,if_true,Bool.false_eq_true,if_false] using nCoC_4 s hl' hx h0
   | false=>
    cases h1:titleB s with
    | true=>simpa only [Bool.true_or,Bool.false_or,Bool.true_and,Bool.or_true,Bool.false_and,Bool.and_true,Bool.and_false,Bool.or_false,erN,if_true,Bool.false_eq_true,if_false] using nCoC_3 s hl' hx h0 h1
    | false=>
     by_cases h2:s=tV
     ·simpa only [Bool.true_or,Bool.false_or,Bool.true_and,Bool.or_true,Bool.false_and,Bool.and_true,Bool.and_false,Bool.or_false,erN,if_true,Bool.false_eq_true,if_false] using nCoC_2 s hl' hx h0 h1 h2
     ·simpa only [Bool.true_or,Bool.false_or,Bool.true_and,Bool.or_true,Bool.false_and,Bool.and_true,Bool.and_false,Bool.or_false,erN,if_true,Bool.false_eq_true,if_false] using nCoC_1 s hl' hx h0 h1 h2
 ·rw [decide_eq_false hl,Bool.false_and]; simpa only [Bool.true_or,Bool.false_or,Bool.true_and,Bool.or_true,Bool.false_and,Bool.and_true,Bool.and_false,Bool.or_false,erN,if_true,Bool.false_eq_true,if_false] using nCoA s oM
def frE{α:Type}(f:α->Int):List α->Int
 | []=>0
 | x::r=>if f x=0 then frE f r else f x
theorem pr_bulk(x:Pr):bulkPss (Pr.cs (prK x))<bulkPs (prL x):=by simp only [bulkPs,bulkP]; omega
def pkS_r0(o:Int):Int:=(if o=1 then 0 else (if o=2 then 0 else (if o=3 then 0 else (if o=4 then 1 else (if o=5 then 1 else (if o=9 then 1 else (if o=14 then 1 else 2)))))))
def pkS_r1(o:Int):Int:=(if o=1 then 0 else (if o=2 then 0 else (if o=3 then 0 else (if o=4 then 24 else (if o=5 then 24 else (if o=9 then 1 else (if o=14 then 1 else 2)))))))
theorem pkS(o:Int):Pu 105 [pI o] (.ret (.tup [pI (pkS_r0 o),pI (pkS_r1 o)])):=by
 refine t0 ?_;by_cases h0:o=1
 ·simp only [pkS_r0,pkS_r1,iP h0]; exact tM mdL [rp 2 (et1 h0)] func105
 ·refine tp [en1 h0] ?_;by_cases h1:o=2
  ·simp only [pkS_r0,pkS_r1,iN h0,iP h1]; exact tM mdL [rp 2 (et1 h1)] func105
  ·refine tp [en1 h1] ?_;by_cases h2:o=3
   ·simp only [pkS_r0,pkS_r1,iN h0,iN h1,iP h2]; exact tM mdL [et1 h2] func105
   ·refine tp [en1 h2] ?_;by_cases h3:o=4
    ·simp only [pkS_r0,pkS_r1,iN h0,iN h1,iN h2,iP h3]; exact tM mdL [rp 2 (et1 h3)] func105
    ·refine tp [en1 h3] ?_;by_cases h4:o=5
     ·simp only [pkS_r0,pkS_r1,iN h0,iN h1,iN h2,iN h3,iP h4]; exact tM mdL [et1 h4] func105
     ·refine tp [en1 h4] ?_;by_cases h5:o=9
      ·simp only [pkS_r0,pkS_r1,iN h0,iN h1,iN h2,iN h3,iN h4,iP h5]; exact tM mdL [rp 2 (et1 h5)] func105
      ·refine tp [en1 h5] ?_;by_cases h6:o=14
       ·simp only [pkS_r0,pkS_r1,iN h0,iN h1,iN h2,iN h3,iN h4,iN h5,iP h6]; exact tM mdL [et1 h6] func105
       ·simp only [pkS_r0,pkS_r1,iN h0,iN h1,iN h2,iN h3,iN h4,iN h5,iN h6]; exact tM mdL [en1 h6] func105
def pnS_r0(o:Int):Bool:=(if o=3 then true else (if o=4 then true else (o==5)))
theorem pnS(o:Int):Pu 106 [pI o] (rB (pnS_r0 o)):=by
 by_cases h0:o=3
 ·simp only [pnS_r0,iP h0]; exact pm mdL [rp 3 (et1 h0),rp 3 (bt true)] func106
 ·by_cases h1:o=4
  ·simp only [pnS_r0,iN h0,iP h1]; exact pm mdL [rp 3 (en1 h0),rp 3 (et1 h1)] func106
  ·simp only [pnS_r0,iN h0,iN h1]; exact pm mdL [rp 3 (en1 h0),rp 3 (en1 h1)] func106
def niS_r0(n:Int):Bool:=(if n >= -1000000000000 then (decide (n<=1000000000000)) else false)
theorem niS(n:Int):Pu 107 [pI n] (rB (niS_r0 n)):=by
 by_cases h0:n >= -1000000000000
 ·simp only [niS_r0,iP h0]; exact pm mdL [rp 3 (dt1 h0)] func107
 ·simp only [niS_r0,iN h0]; exact pm mdL [rp 3 (df1 h0)] func107
abbrev pqA_I(u:Pr)(dfz:Pr->Int)(j:Int)(n:Int)(e:Ext):S:=S.mk [(2,vI6 0),(3,vI6 n),(7,vL 4 (Pr.cs (prK u))),(8,vI6 ((prK u).length:Int)),(9,vI6 j)] [] e
def pqA_f(dfz:Pr->Int):List Pr->(Int)->(Int)
 | [],n=>(n)
 | el::r,n=>pqA_f dfz r (IntKind.wrap .i64 (n+dfz el))
def pqA_q(u:Pr)(dfz:Pr->Int)(e:Ext)(p:(Int)):PExit × S:=(.exit 0,S.mk [(2,vI6 0),(3,vI6 p),(7,vL 4 (Pr.cs (prK u))),(8,vI6 ((prK u).length:Int))] [] e)
theorem pqA(u:Pr)(dfz:Pr->Int)(hwk:∀w:Pr,w∈prK u->Pu 72 [.agg (prL w)] (.ret (.int .i64 (dfz w))))(n:Int)(e:Ext)(hN:(prK u).length<=1000000000)  : (Ob.loop 19 (loopF f72 0) (pqA_I u dfz 0 n e) (pqA_q u dfz e (pqA_f dfz ((prK u))  n)).1 (pqA_q u dfz e (pqA_f dfz ((prK u))  n)).2).ok prog:=by
 refine rng ((prK u).length) (fun j n=>pqA_I u dfz j n e) (fun i n=>pqA_f dfz (List.drop i ((prK u)))  n) (pqA_q u dfz e) (fun i n=>True) kR ?_ n trivial
 rintro i n hi -
 rcases Nat.lt_or_ge i ((prK u).length) with hlt | hge
 ·have hd:=drop_at hlt
  exact lN mdL [rgPr hlt,cl (@hwk (List.getD (prK u) i default) (by simp_all [tn1])),kp,wr ((i:Int)+1)] hlt (IntKind.wrap .i64 (n+dfz (List.getD (prK u) i default))) trivial (by rw [hd,pqA_f])
 ·have he:i=(prK u).length:=by omega
  exact lX mdL [df ((i:Int)<((prK u).length:Int))] (n) (by rw [he,List.drop_length,pqA_f])
theorem pqL(u:Pr)(dfz:Pr->Int)(hwk:∀w:Pr,w∈prK u->Pu 72 [.agg (prL w)] (.ret (.int .i64 (dfz w))))(hN:(prK u).length<=1000000000):Pu 72 [.agg (prL u)] (rI (pqA_f dfz (prK u) 1)):=
 pu mdL (fun e=>[sl (Pr.cs_len (prK u)),lq (@pqA u dfz hwk 1 e hN)]) func72
def pqD:Nat->Pr->Int
 | 0,_=>0
 | d+1,u=>pqA_f (pqD d) (prK u) 1
theorem pq_ok:∀ (d:Nat) (u:Pr),bulkPs (prL u)<d->d<=100000001->Pu 72 [.agg (prL u)] (.ret (.int .i64 (pqD d u)))
 | 0,_,h,_=>by omega
 | d+1,u,h,hs=>pqL u (pqD d) (fun w hw=>pq_ok d w (by have:=pr_bulk u; have:=Pr.mem hw; omega) oM) (by have:=pr_bulk u; have:=Pr.bulk (prK u); omega)
def pqF(u:Pr):Int:=pqD (bulkPs (prL u)+1) u
theorem pqT(u:Pr)(hs:bulkPs (prL u)<=100000000):Pu 72 [.agg (prL u)] (.ret (.int .i64 (pqF u))):=pq_ok _ u oM oM
abbrev peA_I(u:Pr)(dfz:Pr->Int)(j:Int)(n:Int)(e:Ext):S:=S.mk [(2,vI6 0),(3,vI6 n),(7,vL 4 (Pr.cs (prK u))),(8,vI6 ((prK u).length:Int)),(9,vI6 j)] [] e
def peA_f(dfz:Pr->Int):List Pr->(Int)->(Int)
 | [],n=>(n)
 | el::r,n=>peA_f dfz r (mxI true n (dfz el))
def peA_q(u:Pr)(dfz:Pr->Int)(e:Ext)(p:(Int)):PExit × S:=(.exit 0,S.mk [(2,vI6 0),(3,vI6 p),(7,vL 4 (Pr.cs (prK u))),(8,vI6 ((prK u).length:Int))] [] e)
theorem peA(u:Pr)(dfz:Pr->Int)(hwk:∀w:Pr,w∈prK u->Pu 73 [.agg (prL w)] (.ret (.int .i64 (dfz w))))(n:Int)(e:Ext)(hN:(prK u).length<=1000000000)  : (Ob.loop 20 (loopF f73 0) (peA_I u dfz 0 n e) (peA_q u dfz e (peA_f dfz ((prK u))  n)).1 (peA_q u dfz e (peA_f dfz ((prK u))  n)).2).ok prog:=by
 refine rng ((prK u).length) (fun j n=>peA_I u dfz j n e) (fun i n=>peA_f dfz (List.drop i ((prK u)))  n) (peA_q u dfz e) (fun i n=>True) kR ?_ n trivial
 rintro i n hi -
 rcases Nat.lt_or_ge i ((prK u).length) with hlt | hge
 ·have hd:=drop_at hlt
  exact lN mdL [rgPr hlt,cl (@hwk (List.getD (prK u) i default) (by simp_all [tn1])),wr ((i:Int)+1)] hlt (mxI true n (dfz (List.getD (prK u) i default))) trivial (by rw [hd,peA_f])
 ·have he:i=(prK u).length:=by omega
  exact lX mdL [df ((i:Int)<((prK u).length:Int))] (n) (by rw [he,List.drop_length,peA_f])
theorem peL(u:Pr)(dfz:Pr->Int)(hwk:∀w:Pr,w∈prK u->Pu 73 [.agg (prL w)] (.ret (.int .i64 (dfz w))))(hN:(prK u).length<=1000000000):Pu 73 [.agg (prL u)] (rI (IntKind.wrap .i64 (peA_f dfz (prK u) 0+1))):=
 pu mdL (fun e=>[sl (Pr.cs_len (prK u)),lq (@peA u dfz hwk 0 e hN),kp]) func73
def peD:Nat->Pr->Int
 | 0,_=>0
 | d+1,u=>IntKind.i64.wrap (peA_f (peD d) (prK u) 0+1)
theorem pe_ok:∀ (d:Nat) (u:Pr),bulkPs (prL u)<d->d<=100000001->Pu 73 [.agg (prL u)] (.ret (.int .i64 (peD d u)))
 | 0,_,h,_=>by omega
 | d+1,u,h,hs=>peL u (peD d) (fun w hw=>pe_ok d w (by have:=pr_bulk u; have:=Pr.mem hw; omega) oM) (by have:=pr_bulk u; have:=Pr.bulk (prK u); omega)
def peF(u:Pr):Int:=peD (bulkPs (prL u)+1) u
theorem peT(u:Pr)(hs:bulkPs (prL u)<=100000000):Pu 73 [.agg (prL u)] (.ret (.int .i64 (peF u))):=pe_ok _ u oM oM
abbrev nd0(u:Pr)(xe:Ext):S:=⟨[(1,.lp 1 0),(2,.v (.int .i64 0))],[(1,prV u)],xe⟩
abbrev nd1(u:Pr)(a b:Int)(xe:Ext):S:=⟨[(1,.lp 1 0),(2,.v (.int .i64 0)),(3,.v (.int .i64 a)),(4,.v (.int .i64 b))],[(1,prV u)],xe⟩
abbrev nd2(u:Pr)(a b:Int)(x y:Bool)(xe:Ext):S:=⟨[(1,.lp 1 0),(2,.v (.int .i64 0)),(3,.v (.int .i64 a)),(4,.v (.int .i64 b)),(5,.v (.bool x)),(6,.v (.bool y))],[(1,prV u)],xe⟩
abbrev nd3(u:Pr)(a b:Int)(x:Bool)(xe:Ext):S:=⟨[(1,.lp 1 0),(2,.v (.int .i64 0)),(3,.v (.int .i64 a)),(4,.v (.int .i64 b)),(5,.v (.bool x))],[(1,prV u)],xe⟩
theorem nd_1_1(u:Pr)(xe:Ext)(hx0:prO u<1)(cx:Cx)(hcx:cx.n=130){Q:PExit->S->Prop}(hq:Q (.normal) (S.mk [(1,.lp 1 0),(2,vI6 0),(14,.v (.bool true))] [(1,prV u)] xe)):PW prog cx (regF f75 1) (nd0 u xe) Q:=
 pw mdL 130 [rp 4 (dt1 hx0)] [1,2,14] [1] hcx hq
theorem nd_1_2(u:Pr)(xe:Ext)(hx0:¬prO u<1)(cx:Cx)(hcx:cx.n=130){Q:PExit->S->Prop}(hq:Q (.normal) (S.mk [(1,.lp 1 0),(2,vI6 0),(14,.v (.bool (decide (prO u>18))))] [(1,prV u)] xe)):PW prog cx (regF f75 1) (nd0 u xe) Q:=
 pw mdL 130 [rp 4 (df1 hx0)] [1,2,14] [1] hcx hq
def nd_1_v14(u:Pr):Bool:=(if prO u<1 then (true) else ((decide (prO u>18))))
theorem nd_1J(u:Pr)(xe:Ext):(Ob.frag 130 (regF f75 1) (nd0 u xe) (.normal) (S.mk [(1,.lp 1 0),(2,vI6 0),(14,.v (.bool (nd_1_v14 u)))] [(1,prV u)] xe)).ok prog:=by
 intro cx hcx
 by_cases g0:prO u<1
 ·exact nd_1_1 u xe g0 cx hcx ⟨rfl,by rw [show nd_1_v14 u=(true) by unfold nd_1_v14; rw [iP g0]]⟩
 ·exact nd_1_2 u xe g0 cx hcx ⟨rfl,by rw [show nd_1_v14 u=((decide (prO u>18))) by unfold nd_1_v14; rw [iN g0]]⟩
section
variable (u:Pr) (a b:Int) (xe:Ext)
include u a b xe
theorem nd_4_1(hx0:pnS_r0 (prO u)=false)(hx1:¬prNm u=ByteArray.mk #[])(cx:Cx)(hcx:cx.n=130){Q:PExit->S->Prop}(hq:Q (.normal) (S.mk [(1,.lp 1 0),(2,vI6 0),(3,vI6 a),(4,vI6 b),(58,.v (.bool true))] [(1,prV u)] xe)):PW prog cx (regF f75 4) (nd1 u a b xe) Q:=
 pw mdL 130 [cl (@pnS (prO u)),rp 4 (bt1 (bnT hx0)),rp 8 (bt (!ByteArray.toList (prNm u)==ByteArray.toList nm0) (bnT (bsF hx1))),rp 12 (bt true)] [1,2,3,4,58] [1] hcx hq
theorem nd_4_2(hx0:pnS_r0 (prO u)=false)(hx1:prNm u=ByteArray.mk #[])(hx2:¬prO u=1)(hx3:¬prO u=2)(hx4:¬prN u=0)(cx:Cx)(hcx:cx.n=130){Q:PExit->S->Prop}(hq:Q (.normal) (S.mk [(1,.lp 1 0),(2,vI6 0),(3,vI6 a),(4,vI6 b),(58,.v (.bool true))] [(1,prV u)] xe)):PW prog cx (regF f75 4) (nd1 u a b xe) Q:=
 pw mdL 130 [cl (@pnS (prO u)),rp 4 (bt1 (bnT hx0)),rp 4 (bf (!ByteArray.toList (prNm u)==ByteArray.toList nm0) (bnF (bsT hx1))),rp 3 (nt1 hx2),bf (!ByteArray.toList (prNm u)==ByteArray.toList nm0) (bnF (bsT hx1)),nt1 hx2,bf (!ByteArray.toList (prNm u)==ByteArray.toList nm0) (bnF (bsT hx1)),rp 3 (nt1 hx3),bf (!ByteArray.toList (prNm u)==ByteArray.toList nm0) (bnF (bsT hx1)),nt1 hx3,bf (!ByteArray.toList (prNm u)==ByteArray.toList nm0) (bnF (bsT hx1)),rp 6 (nt1 hx4),rp 6 (bt true)] [1,2,3,4,58] [1] hcx hq
theorem nd_4_3(hx0:pnS_r0 (prO u)=false)(hx1:prNm u=ByteArray.mk #[])(hx2:¬prO u=1)(hx3:¬prO u=2)(hx4:prN u=0)(hx5:((prK u).length:Int)<a)(cx:Cx)(hcx:cx.n=130){Q:PExit->S->Prop}(hq:Q (.normal) (S.mk [(1,.lp 1 0),(2,vI6 0),(3,vI6 a),(4,vI6 b),(58,.v (.bool true))] [(1,prV u)] xe)):PW prog cx (regF f75 4) (nd1 u a b xe) Q:=
 pw mdL 130 [cl (@pnS (prO u)),rp 4 (bt1 (bnT hx0)),rp 4 (bf (!ByteArray.toList (prNm u)==ByteArray.toList nm0) (bnF (bsT hx1))),rp 3 (nt1 hx2),bf (!ByteArray.toList (prNm u)==ByteArray.toList nm0) (bnF (bsT hx1)),nt1 hx2,bf (!ByteArray.toList (prNm u)==ByteArray.toList nm0) (bnF (bsT hx1)),rp 3 (nt1 hx3),bf (!ByteArray.toList (prNm u)==ByteArray.toList nm0) (bnF (bsT hx1)),nt1 hx3,bf (!ByteArray.toList (prNm u)==ByteArray.toList nm0) (bnF (bsT hx1)),rp 3 (nn1 hx4),sl (Pr.cs_len (prK u)),rp 3 (nn1 hx4),rp 6 (dt1 hx5)] [1,2,3,4,58] [1] hcx hq
theorem nd_4_4(hx0:pnS_r0 (prO u)=false)(hx1:prNm u=ByteArray.mk #[])(hx2:¬prO u=1)(hx3:¬prO u=2)(hx4:prN u=0)(hx5:¬((prK u).length:Int)<a)(cx:Cx)(hcx:cx.n=130){Q:PExit->S->Prop}(hq:Q (.normal) (S.mk [(1,.lp 1 0),(2,vI6 0),(3,vI6 a),(4,vI6 b),(58,.v (.bool (decide (((prK u).length:Int)>b))))] [(1,prV u)] xe)):PW prog cx (regF f75 4) (nd1 u a b xe) Q:=
 pw mdL 130 [cl (@pnS (prO u)),rp 4 (bt1 (bnT hx0)),rp 4 (bf (!ByteArray.toList (prNm u)==ByteArray.toList nm0) (bnF (bsT hx1))),rp 3 (nt1 hx2),bf (!ByteArray.toList (prNm u)==ByteArray.toList nm0) (bnF (bsT hx1)),nt1 hx2,bf (!ByteArray.toList (prNm u)==ByteArray.toList nm0) (bnF (bsT hx1)),rp 3 (nt1 hx3),bf (!ByteArray.toList (prNm u)==ByteArray.toList nm0) (bnF (bsT hx1)),nt1 hx3,bf (!ByteArray.toList (prNm u)==ByteArray.toList nm0) (bnF (bsT hx1)),rp 3 (nn1 hx4),sl (Pr.cs_len (prK u)),rp 3 (nn1 hx4),rp 3 (df1 hx5),sl (Pr.cs_len (prK u)),rp 3 (df1 hx5)] [1,2,3,4,58] [1] hcx hq
theorem nd_4_5(hx0:pnS_r0 (prO u)=false)(hx1:prNm u=ByteArray.mk #[])(hx2:¬prO u=1)(hx3:prO u=2)(hx4:((prK u).length:Int)<a)(cx:Cx)(hcx:cx.n=130){Q:PExit->S->Prop}(hq:Q (.normal) (S.mk [(1,.lp 1 0),(2,vI6 0),(3,vI6 a),(4,vI6 b),(58,.v (.bool true))] [(1,prV u)] xe)):PW prog cx (regF f75 4) (nd1 u a b xe) Q:=
 pw mdL 130 [cl (@pnS (prO u)),rp 4 (bt1 (bnT hx0)),rp 4 (bf (!ByteArray.toList (prNm u)==ByteArray.toList nm0) (bnF (bsT hx1))),rp 3 (nt1 hx2),bf (!ByteArray.toList (prNm u)==ByteArray.toList nm0) (bnF (bsT hx1)),nt1 hx2,bf (!ByteArray.toList (prNm u)==ByteArray.toList nm0) (bnF (bsT hx1)),rp 3 (nn1 hx3),bf (!ByteArray.toList (prNm u)==ByteArray.toList nm0) (bnF (bsT hx1)),nn1 hx3,bf (!ByteArray.toList (prNm u)==ByteArray.toList nm0) (bnF (bsT hx1)),rp 3 (bf false),sl (Pr.cs_len (prK u)),rp 3 (bf false),rp 6 (dt1 hx4)] [1,2,3,4,58] [1] hcx hq
theorem nd_4_6(hx0:pnS_r0 (prO u)=false)(hx1:prNm u=ByteArray.mk #[])(hx2:¬prO u=1)(hx3:prO u=2)(hx4:¬((prK u).length:Int)<a)(cx:Cx)(hcx:cx.n=130){Q:PExit->S->Prop}(hq:Q (.normal) (S.mk [(1,.lp 1 0),(2,vI6 0),(3,vI6 a),(4,vI6 b),(58,.v (.bool (decide (((prK u).length:Int)>b))))] [(1,prV u)] xe)):PW prog cx (regF f75 4) (nd1 u a b xe) Q:=
 pw mdL 130 [cl (@pnS (prO u)),rp 4 (bt1 (bnT hx0)),rp 4 (bf (!ByteArray.toList (prNm u)==ByteArray.toList nm0) (bnF (bsT hx1))),rp 3 (nt1 hx2),bf (!ByteArray.toList (prNm u)==ByteArray.toList nm0) (bnF (bsT hx1)),nt1 hx2,bf (!ByteArray.toList (prNm u)==ByteArray.toList nm0) (bnF (bsT hx1)),rp 3 (nn1 hx3),bf (!ByteArray.toList (prNm u)==ByteArray.toList nm0) (bnF (bsT hx1)),nn1 hx3,bf (!ByteArray.toList (prNm u)==ByteArray.toList nm0) (bnF (bsT hx1)),rp 3 (bf false),sl (Pr.cs_len (prK u)),rp 3 (bf false),rp 3 (df1 hx4),sl (Pr.cs_len (prK u)),rp 3 (df1 hx4)] [1,2,3,4,58] [1] hcx hq
theorem nd_4_7(hx0:pnS_r0 (prO u)=false)(hx1:prNm u=ByteArray.mk #[])(hx2:prO u=1)(hx3:((prK u).length:Int)<a)(cx:Cx)(hcx:cx.n=130){Q:PExit->S->Prop}(hq:Q (.normal) (S.mk [(1,.lp 1 0),(2,vI6 0),(3,vI6 a),(4,vI6 b),(58,.v (.bool true))] [(1,prV u)] xe)):PW prog cx (regF f75 4) (nd1 u a b xe) Q:=
 pw mdL 130 [cl (@pnS (prO u)),rp 4 (bt1 (bnT hx0)),rp 4 (bf (!ByteArray.toList (prNm u)==ByteArray.toList nm0) (bnF (bsT hx1))),rp 3 (nn1 hx2),bf (!ByteArray.toList (prNm u)==ByteArray.toList nm0) (bnF (bsT hx1)),nn1 hx2,bf (!ByteArray.toList (prNm u)==ByteArray.toList nm0) (bnF (bsT hx1)),rp 3 (bf false),bf (!ByteArray.toList (prNm u)==ByteArray.toList nm0) (bnF (bsT hx1)),bf false,bf (!ByteArray.toList (prNm u)==ByteArray.toList nm0) (bnF (bsT hx1)),rp 3 (bf false),sl (Pr.cs_len (prK u)),rp 3 (bf false),rp 6 (dt1 hx3)] [1,2,3,4,58] [1] hcx hq
theorem nd_4_8(hx0:pnS_r0 (prO u)=false)(hx1:prNm u=ByteArray.mk #[])(hx2:prO u=1)(hx3:¬((prK u).length:Int)<a)(cx:Cx)(hcx:cx.n=130){Q:PExit->S->Prop}(hq:Q (.normal) (S.mk [(1,.lp 1 0),(2,vI6 0),(3,vI6 a),(4,vI6 b),(58,.v (.bool (decide (((prK u).length:Int)>b))))] [(1,prV u)] xe)):PW prog cx (regF f75 4) (nd1 u a b xe) Q:=
 pw mdL 130 [cl (@pnS (prO u)),rp 4 (bt1 (bnT hx0)),rp 4 (bf (!ByteArray.toList (prNm u)==ByteArray.toList nm0) (bnF (bsT hx1))),rp 3 (nn1 hx2),bf (!ByteArray.toList (prNm u)==ByteArray.toList nm0) (bnF (bsT hx1)),nn1 hx2,bf (!ByteArray.toList (prNm u)==ByteArray.toList nm0) (bnF (bsT hx1)),rp 3 (bf false),bf (!ByteArray.toList (prNm u)==ByteArray.toList nm0) (bnF (bsT hx1)),bf false,bf (!ByteArray.toList (prNm u)==ByteArray.toList nm0) (bnF (bsT hx1)),rp 3 (bf false),sl (Pr.cs_len (prK u)),rp 3 (bf false),rp 3 (df1 hx3),sl (Pr.cs_len (prK u)),rp 3 (df1 hx3)] [1,2,3,4,58] [1] hcx hq
theorem nd_4_9(hx0:pnS_r0 (prO u)=true)(hx1:¬prO u=1)(hx2:¬prO u=2)(hx3:¬prN u=0)(cx:Cx)(hcx:cx.n=130){Q:PExit->S->Prop}(hq:Q (.normal) (S.mk [(1,.lp 1 0),(2,vI6 0),(3,vI6 a),(4,vI6 b),(58,.v (.bool true))] [(1,prV u)] xe)):PW prog cx (regF f75 4) (nd1 u a b xe) Q:=
 pw mdL 130 [cl (@pnS (prO u)),rp 4 (bf1 (bnF hx0)),rp 4 (bf false),rp 3 (nt1 hx1),bf false,nt1 hx1,bf false,rp 3 (nt1 hx2),bf false,nt1 hx2,bf false,rp 6 (nt1 hx3),rp 6 (bt true)] [1,2,3,4,58] [1] hcx hq
theorem nd_4_10(hx0:pnS_r0 (prO u)=true)(hx1:¬prO u=1)(hx2:¬prO u=2)(hx3:prN u=0)(hx4:((prK u).length:Int)<a)(cx:Cx)(hcx:cx.n=130){Q:PExit->S->Prop}(hq:Q (.normal) (S.mk [(1,.lp 1 0),(2,vI6 0),(3,vI6 a),(4,vI6 b),(58,.v (.bool true))] [(1,prV u)] xe)):PW prog cx (regF f75 4) (nd1 u a b xe) Q:=
 pw mdL 130 [cl (@pnS (prO u)),rp 4 (bf1 (bnF hx0)),rp 4 (bf false),rp 3 (nt1 hx1),bf false,nt1 hx1,bf false,rp 3 (nt1 hx2),bf false,nt1 hx2,bf false,rp 3 (nn1 hx3),sl (Pr.cs_len (prK u)),rp 3 (nn1 hx3),rp 6 (dt1 hx4)] [1,2,3,4,58] [1] hcx hq
theorem nd_4_11(hx0:pnS_r0 (prO u)=true)(hx1:¬prO u=1)(hx2:¬prO u=2)(hx3:prN u=0)(hx4:¬((prK u).length:Int)<a)(cx:Cx)(hcx:cx.n=130){Q:PExit->S->Prop}(hq:Q (.normal) (S.mk [(1,.lp 1 0),(2,vI6 0),(3,vI6 a),(4,vI6 b),(58,.v (.bool (decide (((prK u).length:Int)>b))))] [(1,prV u)] xe)):PW prog cx (regF f75 4) (nd1 u a b xe) Q:=
 pw mdL 130 [cl (@pnS (prO u)),rp 4 (bf1 (bnF hx0)),rp 4 (bf false),rp 3 (nt1 hx1),bf false,nt1 hx1,bf false,rp 3 (nt1 hx2),bf false,nt1 hx2,bf false,rp 3 (nn1 hx3),sl (Pr.cs_len (prK u)),rp 3 (nn1 hx3),rp 3 (df1 hx4),sl (Pr.cs_len (prK u)),rp 3 (df1 hx4)] [1,2,3,4,58] [1] hcx hq
theorem nd_4_12(hx0:pnS_r0 (prO u)=true)(hx1:¬prO u=1)(hx2:prO u=2)(hx3:((prK u).length:Int)<a)(cx:Cx)(hcx:cx.n=130){Q:PExit->S->Prop}(hq:Q (.normal) (S.mk [(1,.lp 1 0),(2,vI6 0),(3,vI6 a),(4,vI6 b),(58,.v (.bool true))] [(1,prV u)] xe)):PW prog cx (regF f75 4) (nd1 u a b xe) Q:=
 pw mdL 130 [cl (@pnS (prO u)),rp 4 (bf1 (bnF hx0)),rp 4 (bf false),rp 3 (nt1 hx1),bf false,nt1 hx1,bf false,rp 3 (nn1 hx2),bf false,nn1 hx2,rp 4 (bf false),sl (Pr.cs_len (prK u)),rp 3 (bf false),rp 6 (dt1 hx3)] [1,2,3,4,58] [1] hcx hq
theorem nd_4_13(hx0:pnS_r0 (prO u)=true)(hx1:¬prO u=1)(hx2:prO u=2)(hx3:¬((prK u).length:Int)<a)(cx:Cx)(hcx:cx.n=130){Q:PExit->S->Prop}(hq:Q (.normal) (S.mk [(1,.lp 1 0),(2,vI6 0),(3,vI6 a),(4,vI6 b),(58,.v (.bool (decide (((prK u).length:Int)>b))))] [(1,prV u)] xe)):PW prog cx (regF f75 4) (nd1 u a b xe) Q:=
 pw mdL 130 [cl (@pnS (prO u)),rp 4 (bf1 (bnF hx0)),rp 4 (bf false),rp 3 (nt1 hx1),bf false,nt1 hx1,bf false,rp 3 (nn1 hx2),bf false,nn1 hx2,rp 4 (bf false),sl (Pr.cs_len (prK u)),rp 3 (bf false),rp 3 (df1 hx3),sl (Pr.cs_len (prK u)),rp 3 (df1 hx3)] [1,2,3,4,58] [1] hcx hq
theorem nd_4_14(hx0:pnS_r0 (prO u)=true)(hx1:prO u=1)(hx2:((prK u).length:Int)<a)(cx:Cx)(hcx:cx.n=130){Q:PExit->S->Prop}(hq:Q (.normal) (S.mk [(1,.lp 1 0),(2,vI6 0),(3,vI6 a),(4,vI6 b),(58,.v (.bool true))] [(1,prV u)] xe)):PW prog cx (regF f75 4) (nd1 u a b xe) Q:=
 pw mdL 130 [cl (@pnS (prO u)),rp 4 (bf1 (bnF hx0)),rp 4 (bf false),rp 3 (nn1 hx1),bf false,nn1 hx1,rp 10 (bf false),sl (Pr.cs_len (prK u)),rp 3 (bf false),rp 6 (dt1 hx2)] [1,2,3,4,58] [1] hcx hq
theorem nd_4_15(hx0:pnS_r0 (prO u)=true)(hx1:prO u=1)(hx2:¬((prK u).length:Int)<a)(cx:Cx)(hcx:cx.n=130){Q:PExit->S->Prop}(hq:Q (.normal) (S.mk [(1,.lp 1 0),(2,vI6 0),(3,vI6 a),(4,vI6 b),(58,.v (.bool (decide (((prK u).length:Int)>b))))] [(1,prV u)] xe)):PW prog cx (regF f75 4) (nd1 u a b xe) Q:=
 pw mdL 130 [cl (@pnS (prO u)),rp 4 (bf1 (bnF hx0)),rp 4 (bf false),rp 3 (nn1 hx1),bf false,nn1 hx1,rp 10 (bf false),sl (Pr.cs_len (prK u)),rp 3 (bf false),rp 3 (df1 hx2),sl (Pr.cs_len (prK u)),rp 3 (df1 hx2)] [1,2,3,4,58] [1] hcx hq
end
def nd_4_v58(u:Pr)(a b:Int):Bool:=(if pnS_r0 (prO u)=true then (if prO u=1 then (if ((prK u).length:Int)<a then (true) else ((decide (((prK u).length:Int)>b)))) else (if prO u=2 then (if ((prK u).length:Int)<a then (true) else ((decide (((prK u).length:Int)>b)))) else (if prN u=0 then (if ((prK u).length:Int)<a then (true) else ((decide (((prK u).length:Int)>b)))) else (true)))) else (if prNm u=ByteArray.mk #[] then (if prO u=1 then (if ((prK u).length:Int)<a then (true) else ((decide (((prK u).length:Int)>b)))) else (if prO u=2 then (if ((prK u).length:Int)<a then (true) else ((decide (((prK u).length:Int)>b)))) else (if prN u=0 then (if ((prK u).length:Int)<a then (true) else ((decide (((prK u).length:Int)>b)))) else (true)))) else (true)))
theorem nd_4J(u:Pr)(a b:Int)(xe:Ext):(Ob.frag 130 (regF f75 4) (nd1 u a b xe) (.normal) (S.mk [(1,.lp 1 0),(2,vI6 0),(3,vI6 a),(4,vI6 b),(58,.v (.bool (nd_4_v58 u a b)))] [(1,prV u)] xe)).ok prog:=by
 intro cx hcx
 by_cases g0:pnS_r0 (prO u)=true
 ·by_cases g1:prO u=1
  ·by_cases g2:((prK u).length:Int)<a
   ·exact nd_4_14 u a b xe g0 g1 g2 cx hcx ⟨rfl,by rw [show nd_4_v58 u a b=(true) by unfold nd_4_v58; rw [iP g0,iP g1,iP g2]]⟩
   ·exact nd_4_15 u a b xe g0 g1 g2 cx hcx ⟨rfl,by rw [show nd_4_v58 u a b=((decide (((prK u).length:Int)>b))) by unfold nd_4_v58; rw [iP g0,iP g1,iN g2]]⟩
  ·by_cases g2:prO u=2
   ·by_cases g3:((prK u).length:Int)<a
    ·exact nd_4_12 u a b xe g0 g1 g2 g3 cx hcx ⟨rfl,by rw [show nd_4_v58 u a b=(true) by unfold nd_4_v58; rw [iP g0,iN g1,iP g2,iP g3]]⟩
    ·exact nd_4_13 u a b xe g0 g1 g2 g3 cx hcx ⟨rfl,by rw [show nd_4_v58 u a b=((decide (((prK u).length:Int)>b))) by unfold nd_4_v58; rw [iP g0,iN g1,iP g2,iN g3]]⟩
   ·by_cases g3:prN u=0
    ·by_cases g4:((prK u).length:Int)<a
     ·exact nd_4_10 u a b xe g0 g1 g2 g3 g4 cx hcx ⟨rfl,by rw [show nd_4_v58 u a b=(true) by unfold nd_4_v58; rw [iP g0,iN g1,iN g2,iP g3,iP g4]]⟩
     ·exact nd_4_11 u a b xe g0 g1 g2 g3 g4 cx hcx ⟨rfl,by rw [show nd_4_v58 u a b=((decide (((prK u).length:Int)>b))) by unfold nd_4_v58; rw [iP g0,iN g1,iN g2,iP g3,iN g4]]⟩
    ·exact nd_4_9 u a b xe g0 g1 g2 g3 cx hcx ⟨rfl,by rw [show nd_4_v58 u a b=(true) by unfold nd_4_v58; rw [iP g0,iN g1,iN g2,iN g3]]⟩
 ·by_cases g1:prNm u=ByteArray.mk #[]
  ·by_cases g2:prO u=1
   ·by_cases g3:((prK u).length:Int)<a
    ·exact nd_4_7 u a b xe (Bool.eq_false_iff.2 g0) g1 g2 g3 cx hcx ⟨rfl,by rw [show nd_4_v58 u a b=(true) by unfold nd_4_v58; rw [iN g0,iP g1,iP g2,iP g3]]⟩
    ·exact nd_4_8 u a b xe (Bool.eq_false_iff.2 g0) g1 g2 g3 cx hcx ⟨rfl,by rw [show nd_4_v58 u a b=((decide (((prK u).length:Int)>b))) by unfold nd_4_v58; rw [iN g0,iP g1,iP g2,iN g3]]⟩
   ·by_cases g3:prO u=2
    ·by_cases g4:((prK u).length:Int)<a
     ·exact nd_4_5 u a b xe (Bool.eq_false_iff.2 g0) g1 g2 g3 g4 cx hcx ⟨rfl,by rw [show nd_4_v58 u a b=(true) by unfold nd_4_v58; rw [iN g0,iP g1,iN g2,iP g3,iP g4]]⟩
     ·exact nd_4_6 u a b xe (Bool.eq_false_iff.2 g0) g1 g2 g3 g4 cx hcx ⟨rfl,by rw [show nd_4_v58 u a b=((decide (((prK u).length:Int)>b))) by unfold nd_4_v58; rw [iN g0,iP g1,iN g2,iP g3,iN g4]]⟩
    ·by_cases g4:prN u=0
     ·by_cases g5:((prK u).length:Int)<a
      ·exact nd_4_3 u a b xe (Bool.eq_false_iff.2 g0) g1 g2 g3 g4 g5 cx hcx ⟨rfl,by rw [show nd_4_v58 u a b=(true) by unfold nd_4_v58; rw [iN g0,iP g1,iN g2,iN g3,iP g4,iP g5]]⟩
      ·exact nd_4_4 u a b xe (Bool.eq_false_iff.2 g0) g1 g2 g3 g4 g5 cx hcx ⟨rfl,by rw [show nd_4_v58 u a b=((decide (((prK u).length:Int)>b))) by unfold nd_4_v58; rw [iN g0,iP g1,iN g2,iN g3,iP g4,iN g5]]⟩
     ·exact nd_4_2 u a b xe (Bool.eq_false_iff.2 g0) g1 g2 g3 g4 cx hcx ⟨rfl,by rw [show nd_4_v58 u a b=(true) by unfold nd_4_v58; rw [iN g0,iP g1,iN g2,iN g3,iN g4]]⟩
  ·exact nd_4_1 u a b xe (Bool.eq_false_iff.2 g0) g1 cx hcx ⟨rfl,by rw [show nd_4_v58 u a b=(true) by unfold nd_4_v58; rw [iN g0,iN g1]]⟩
section
variable (u:Pr) (a b:Int) (xe:Ext)
include u a b xe
theorem nd_6_1(hx0:prO u=1)(hx1:niS_r0 (prN u)=false)(cx:Cx)(hcx:cx.n=130){Q:PExit->S->Prop}(hq:Q (.normal) (S.mk [(1,.lp 1 0),(2,vI6 0),(3,vI6 a),(4,vI6 b),(82,.v (.bool true))] [(1,prV u)] xe)):PW prog cx (regF f75 6) (nd1 u a b xe) Q:=
 pw mdL 130 [rp 3 (et1 hx0),cl (@niS (prN u)),rp 2 (et1 hx0),rp 8 (bt1 (bnT hx1))] [1,2,3,4,82] [1] hcx hq
theorem nd_6_2(hx0:prO u=1)(hx1:niS_r0 (prN u)=true)(cx:Cx)(hcx:cx.n=130){Q:PExit->S->Prop}(hq:Q (.normal) (S.mk [(1,.lp 1 0),(2,vI6 0),(3,vI6 a),(4,vI6 b),(82,.v (.bool false))] [(1,prV u)] xe)):PW prog cx (regF f75 6) (nd1 u a b xe) Q:=
 pw mdL 130 [rp 3 (et1 hx0),cl (@niS (prN u)),rp 2 (et1 hx0),rp 4 (bf1 (bnF hx1)),rp 3 (en (prO u) 2),bf1 (bnF hx1),en (prO u) 2,bf1 (bnF hx1),rp 3 (bf false),bf1 (bnF hx1),bf false,bf1 (bnF hx1)] [1,2,3,4,82] [1] hcx hq
theorem nd_6_3(hx0:¬prO u=1)(hx1:prO u=2)(hx2:¬prN u=0)(cx:Cx)(hcx:cx.n=130){Q:PExit->S->Prop}(hq:Q (.normal) (S.mk [(1,.lp 1 0),(2,vI6 0),(3,vI6 a),(4,vI6 b),(82,.v (.bool (prN u != 1)))] [(1,prV u)] xe)):PW prog cx (regF f75 6) (nd1 u a b xe) Q:=
 pw mdL 130 [rp 5 (en1 hx0),rp 4 (bf false),rp 3 (et1 hx1),bf false,et1 hx1,bf false,rp 3 (nt1 hx2),bf false,nt1 hx2,bf false] [1,2,3,4,82] [1] hcx hq
theorem nd_6_4(hx0:¬prO u=1)(hx1:prO u=2)(hx2:prN u=0)(cx:Cx)(hcx:cx.n=130){Q:PExit->S->Prop}(hq:Q (.normal) (S.mk [(1,.lp 1 0),(2,vI6 0),(3,vI6 a),(4,vI6 b),(82,.v (.bool false))] [(1,prV u)] xe)):PW prog cx (regF f75 6) (nd1 u a b xe) Q:=
 pw mdL 130 [rp 5 (en1 hx0),rp 4 (bf false),rp 3 (et1 hx1),bf false,et1 hx1,bf false,rp 3 (nn1 hx2),bf false,nn1 hx2,bf false] [1,2,3,4,82] [1] hcx hq
theorem nd_6_5(hx0:¬prO u=1)(hx1:¬prO u=2)(cx:Cx)(hcx:cx.n=130){Q:PExit->S->Prop}(hq:Q (.normal) (S.mk [(1,.lp 1 0),(2,vI6 0),(3,vI6 a),(4,vI6 b),(82,.v (.bool false))] [(1,prV u)] xe)):PW prog cx (regF f75 6) (nd1 u a b xe) Q:=
 pw mdL 130 [rp 5 (en1 hx0),rp 4 (bf false),rp 3 (en1 hx1),bf false,en1 hx1,rp 7 (bf false)] [1,2,3,4,82] [1] hcx hq
end
def nd_6_v82(u:Pr)(a b:Int):Bool:=(if prO u=1 then (if niS_r0 (prN u)=true then (false) else (true)) else (if prO u=2 then (if prN u=0 then (false) else ((prN u != 1))) else (false)))
theorem nd_6J(u:Pr)(a b:Int)(xe:Ext):(Ob.frag 130 (regF f75 6) (nd1 u a b xe) (.normal) (S.mk [(1,.lp 1 0),(2,vI6 0),(3,vI6 a),(4,vI6 b),(82,.v (.bool (nd_6_v82 u a b)))] [(1,prV u)] xe)).ok prog:=by
 intro cx hcx
 by_cases g0:prO u=1
 ·by_cases g1:niS_r0 (prN u)=true
  ·exact nd_6_2 u a b xe g0 g1 cx hcx ⟨rfl,by rw [show nd_6_v82 u a b=(false) by unfold nd_6_v82; rw [iP g0,iP g1]]⟩
  ·exact nd_6_1 u a b xe g0 (Bool.eq_false_iff.2 g1) cx hcx ⟨rfl,by rw [show nd_6_v82 u a b=(true) by unfold nd_6_v82; rw [iP g0,iN g1]]⟩
 ·by_cases g1:prO u=2
  ·by_cases g2:prN u=0
   ·exact nd_6_4 u a b xe g0 g1 g2 cx hcx ⟨rfl,by rw [show nd_6_v82 u a b=(false) by unfold nd_6_v82; rw [iN g0,iP g1,iP g2]]⟩
   ·exact nd_6_3 u a b xe g0 g1 g2 cx hcx ⟨rfl,by rw [show nd_6_v82 u a b=((prN u != 1)) by unfold nd_6_v82; rw [iN g0,iP g1,iN g2]]⟩
  ·exact nd_6_5 u a b xe g0 g1 cx hcx ⟨rfl,by rw [show nd_6_v82 u a b=(false) by unfold nd_6_v82; rw [iN g0,iN g1]]⟩
theorem nd_8_1(u:Pr)(a b:Int)(xe:Ext)(hx0:pnS_r0 (prO u)=true)(cx:Cx)(hcx:cx.n=130){Q:PExit->S->Prop}(hq:Q (.normal) (S.mk [(1,.lp 1 0),(2,vI6 0),(3,vI6 a),(4,vI6 b),(91,.v (.bool (erN (coreB (prNm u)) != 0)))] [(1,prV u)] xe)):PW prog cx (regF f75 8) (nd1 u a b xe) Q:=
 pw mdL 130 [cl (@pnS (prO u)),rp 3 (bt1 hx0),cl (@nCoT (prNm u)),rp 2 (bt1 hx0)] [1,2,3,4,91] [1] hcx hq
theorem nd_8_2(u:Pr)(a b:Int)(xe:Ext)(hx0:pnS_r0 (prO u)=false)(cx:Cx)(hcx:cx.n=130){Q:PExit->S->Prop}(hq:Q (.normal) (S.mk [(1,.lp 1 0),(2,vI6 0),(3,vI6 a),(4,vI6 b),(91,.v (.bool false))] [(1,prV u)] xe)):PW prog cx (regF f75 8) (nd1 u a b xe) Q:=
 pw mdL 130 [cl (@pnS (prO u)),rp 5 (bf1 hx0)] [1,2,3,4,91] [1] hcx hq
def nd_8_v91(u:Pr)(a b:Int):Bool:=(if pnS_r0 (prO u)=true then ((erN (coreB (prNm u)) != 0)) else (false))
theorem nd_8J(u:Pr)(a b:Int)(xe:Ext):(Ob.frag 130 (regF f75 8) (nd1 u a b xe) (.normal) (S.mk [(1,.lp 1 0),(2,vI6 0),(3,vI6 a),(4,vI6 b),(91,.v (.bool (nd_8_v91 u a b)))] [(1,prV u)] xe)).ok prog:=by
 intro cx hcx
 by_cases g0:pnS_r0 (prO u)=true
 ·exact nd_8_1 u a b xe g0 cx hcx ⟨rfl,by rw [show nd_8_v91 u a b=((erN (coreB (prNm u)) != 0)) by unfold nd_8_v91; rw [iP g0]]⟩
 ·exact nd_8_2 u a b xe (Bool.eq_false_iff.2 g0) cx hcx ⟨rfl,by rw [show nd_8_v91 u a b=(false) by unfold nd_8_v91; rw [iN g0]]⟩
theorem nd_9_1(u:Pr)(a b:Int)(xe:Ext)(hx0:prO u=3)(cx:Cx)(hcx:cx.n=130){Q:PExit->S->Prop}(hq:Q (.normal) (S.mk [(1,.lp 1 0),(2,vI6 0),(3,vI6 a),(4,vI6 b),(5,.v (.bool (ByteArray.toList (prNm u)==ByteArray.toList (bM 118))))] [(1,prV u)] xe)):PW prog cx (regF f75 9) (nd1 u a b xe) Q:=
 pw mdL 130 [rp 4 (et1 hx0)] [1,2,3,4,5] [1] hcx hq
theorem nd_9_2(u:Pr)(a b:Int)(xe:Ext)(hx0:¬prO u=3)(cx:Cx)(hcx:cx.n=130){Q:PExit->S->Prop}(hq:Q (.normal) (S.mk [(1,.lp 1 0),(2,vI6 0),(3,vI6 a),(4,vI6 b),(5,.v (.bool false))] [(1,prV u)] xe)):PW prog cx (regF f75 9) (nd1 u a b xe) Q:=
 pw mdL 130 [rp 4 (en1 hx0)] [1,2,3,4,5] [1] hcx hq
def nd_9_v5(u:Pr)(a b:Int):Bool:=(if prO u=3 then ((ByteArray.toList (prNm u)==ByteArray.toList (bM 118))) else (false))
theorem nd_9J(u:Pr)(a b:Int)(xe:Ext):(Ob.frag 130 (regF f75 9) (nd1 u a b xe) (.normal) (S.mk [(1,.lp 1 0),(2,vI6 0),(3,vI6 a),(4,vI6 b),(5,.v (.bool (nd_9_v5 u a b)))] [(1,prV u)] xe)).ok prog:=by
 intro cx hcx
 by_cases g0:prO u=3
 ·exact nd_9_1 u a b xe g0 cx hcx ⟨rfl,by rw [show nd_9_v5 u a b=((ByteArray.toList (prNm u)==ByteArray.toList (bM 118))) by unfold nd_9_v5; rw [iP g0]]⟩
 ·exact nd_9_2 u a b xe g0 cx hcx ⟨rfl,by rw [show nd_9_v5 u a b=(false) by unfold nd_9_v5; rw [iN g0]]⟩
section
variable (u:Pr) (a b:Int) (x:Bool) (xe:Ext)
include u a b x xe
theorem nd_10_1(hx0:prO u=4)(hx1:prNm u=ByteArray.mk #[116,97,103])(cx:Cx)(hcx:cx.n=130){Q:PExit->S->Prop}(hq:Q (.normal) (S.mk [(1,.lp 1 0),(2,vI6 0),(3,vI6 a),(4,vI6 b),(5,.v (.bool x)),(6,.v (.bool true))] [(1,prV u)] xe)):PW prog cx (regF f75 10) (nd3 u a b x xe) Q:=
 pw mdL 130 [rp 4 (et1 hx0),rp 3 (bt (ByteArray.toList (prNm u)==ByteArray.toList (ByteArray.mk #[116,97,103])) (bsT hx1)),et1 hx0,bt (ByteArray.toList (prNm u)==ByteArray.toList (ByteArray.mk #[116,97,103])) (bsT hx1),et1 hx0] [1,2,3,4,5,6] [1] hcx hq
theorem nd_10_2(hx0:prO u=4)(hx1:¬prNm u=ByteArray.mk #[116,97,103])(cx:Cx)(hcx:cx.n=130){Q:PExit->S->Prop}(hq:Q (.normal) (S.mk [(1,.lp 1 0),(2,vI6 0),(3,vI6 a),(4,vI6 b),(5,.v (.bool x)),(6,.v (.bool (ByteArray.toList (prNm u)==ByteArray.toList (ByteArray.mk #[118,97,108]))))] [(1,prV u)] xe)):PW prog cx (regF f75 10) (nd3 u a b x xe) Q:=
 pw mdL 130 [rp 4 (et1 hx0),rp 3 (bf (ByteArray.toList (prNm u)==ByteArray.toList (ByteArray.mk #[116,97,103])) (bsF hx1)),et1 hx0,bf (ByteArray.toList (prNm u)==ByteArray.toList (ByteArray.mk #[116,97,103])) (bsF hx1),et1 hx0] [1,2,3,4,5,6] [1] hcx hq
theorem nd_10_3(hx0:¬prO u=4)(cx:Cx)(hcx:cx.n=130){Q:PExit->S->Prop}(hq:Q (.normal) (S.mk [(1,.lp 1 0),(2,vI6 0),(3,vI6 a),(4,vI6 b),(5,.v (.bool x)),(6,.v (.bool false))] [(1,prV u)] xe)):PW prog cx (regF f75 10) (nd3 u a b x xe) Q:=
 pw mdL 130 [rp 6 (en1 hx0)] [1,2,3,4,5,6] [1] hcx hq
end
def nd_10_v6(u:Pr)(a b:Int)(x:Bool):Bool:=(if prO u=4 then (if prNm u=ByteArray.mk #[116,97,103] then (true) else ((ByteArray.toList (prNm u)==ByteArray.toList (ByteArray.mk #[118,97,108])))) else (false))
theorem nd_10J(u:Pr)(a b:Int)(x:Bool)(xe:Ext):(Ob.frag 130 (regF f75 10) (nd3 u a b x xe) (.normal) (S.mk [(1,.lp 1 0),(2,vI6 0),(3,vI6 a),(4,vI6 b),(5,.v (.bool x)),(6,.v (.bool (nd_10_v6 u a b x)))] [(1,prV u)] xe)).ok prog:=by
 intro cx hcx
 by_cases g0:prO u=4
 ·by_cases g1:prNm u=ByteArray.mk #[116,97,103]
  ·exact nd_10_1 u a b x xe g0 g1 cx hcx ⟨rfl,by rw [show nd_10_v6 u a b x=(true) by unfold nd_10_v6; rw [iP g0,iP g1]]⟩
  ·exact nd_10_2 u a b x xe g0 g1 cx hcx ⟨rfl,by rw [show nd_10_v6 u a b x=((ByteArray.toList (prNm u)==ByteArray.toList (ByteArray.mk #[118,97,108]))) by unfold nd_10_v6; rw [iP g0,iN g1]]⟩
 ·exact nd_10_3 u a b x xe g0 cx hcx ⟨rfl,by rw [show nd_10_v6 u a b x=(false) by unfold nd_10_v6; rw [iN g0]]⟩
theorem nd_11_1(u:Pr)(a b:Int)(x y:Bool)(xe:Ext)(hx0:x=false)(cx:Cx)(hcx:cx.n=130){Q:PExit->S->Prop}(hq:Q (.normal) (S.mk [(1,.lp 1 0),(2,vI6 0),(3,vI6 a),(4,vI6 b),(5,.v (.bool x)),(6,.v (.bool y)),(118,.v (.bool !y))] [(1,prV u)] xe)):PW prog cx (regF f75 11) (nd2 u a b x y xe) Q:=
 pw mdL 130 [rp 3 (bt1 (bnT hx0))] [1,2,3,4,5,6,118] [1] hcx hq
theorem nd_11_2(u:Pr)(a b:Int)(x y:Bool)(xe:Ext)(hx0:x=true)(cx:Cx)(hcx:cx.n=130){Q:PExit->S->Prop}(hq:Q (.normal) (S.mk [(1,.lp 1 0),(2,vI6 0),(3,vI6 a),(4,vI6 b),(5,.v (.bool x)),(6,.v (.bool y)),(118,.v (.bool false))] [(1,prV u)] xe)):PW prog cx (regF f75 11) (nd2 u a b x y xe) Q:=
 pw mdL 130 [rp 3 (bf1 (bnF hx0))] [1,2,3,4,5,6,118] [1] hcx hq
def nd_11_v118(u:Pr)(a b:Int)(x y:Bool):Bool:=(if x=true then (false) else (!y))
theorem nd_11J(u:Pr)(a b:Int)(x y:Bool)(xe:Ext):(Ob.frag 130 (regF f75 11) (nd2 u a b x y xe) (.normal) (S.mk [(1,.lp 1 0),(2,vI6 0),(3,vI6 a),(4,vI6 b),(5,.v (.bool x)),(6,.v (.bool y)),(118,.v (.bool (nd_11_v118 u a b x y)))] [(1,prV u)] xe)).ok prog:=by
 intro cx hcx
 by_cases g0:x=true
 ·exact nd_11_2 u a b x y xe g0 cx hcx ⟨rfl,by rw [show nd_11_v118 u a b x y=(false) by unfold nd_11_v118; rw [iP g0]]⟩
 ·exact nd_11_1 u a b x y xe (Bool.eq_false_iff.2 g0) cx hcx ⟨rfl,by rw [show nd_11_v118 u a b x y=(!y) by unfold nd_11_v118; rw [iN g0]]⟩
abbrev nd4(u:Pr)(a b:Int)(x:Bool)(xe:Ext):S:=⟨[(1,.lp 1 0),(2,.v (.int .i64 0)),(3,.v (.int .i64 a)),(4,.v (.int .i64 b)),(91,.v (.bool x))],[(1,prV u)],xe⟩
section
variable (u:Pr) (a b:Int) (x y:Bool) (h13:prO u=8->0<(prK u).length) (xe:Ext)
include u a b x y h13 xe
theorem nd_13a_1(hx0:prO u=8)(cx:Cx)(hcx:cx.n=130){Q:PExit->S->Prop}(hq:Q (.normal) (S.mk [(1,.lp 1 0),(2,vI6 0),(3,vI6 a),(4,vI6 b),(5,.v (.bool x)),(6,.v (.bool y)),(129,.v (.bool (prO (List.getD (prK u) 0 default) != 1)))] [(1,prV u)] xe)):PW prog cx (regF f75 13) (nd2 u a b x y xe) Q:=
 pw mdL 130 [rp 3 (et1 hx0),mxPr (prK u) 0,xPr (prK u) 0,rp 4 (et1 hx0)] [1,2,3,4,5,6,129] [1] hcx hq
theorem nd_13a_2(hx0:¬prO u=8)(cx:Cx)(hcx:cx.n=130){Q:PExit->S->Prop}(hq:Q (.normal) (S.mk [(1,.lp 1 0),(2,vI6 0),(3,vI6 a),(4,vI6 b),(5,.v (.bool x)),(6,.v (.bool y)),(129,.v (.bool false))] [(1,prV u)] xe)):PW prog cx (regF f75 13) (nd2 u a b x y xe) Q:=
 pw mdL 130 [rp 7 (en1 hx0)] [1,2,3,4,5,6,129] [1] hcx hq
end
def nd_13a_v129(u:Pr)(a b:Int)(x y:Bool):Bool:=(if prO u=8 then ((prO (List.getD (prK u) 0 default) != 1)) else (false))
theorem nd_13aJ(u:Pr)(a b:Int)(x y:Bool)(h13:prO u=8->0<(prK u).length)(xe:Ext):(Ob.frag 130 (regF f75 13) (nd2 u a b x y xe) (.normal) (S.mk [(1,.lp 1 0),(2,vI6 0),(3,vI6 a),(4,vI6 b),(5,.v (.bool x)),(6,.v (.bool y)),(129,.v (.bool (nd_13a_v129 u a b x y)))] [(1,prV u)] xe)).ok prog:=by
 intro cx hcx
 by_cases g0:prO u=8
 ·exact nd_13a_1 u a b x y h13 xe g0 cx hcx ⟨rfl,by rw [show nd_13a_v129 u a b x y=((prO (List.getD (prK u) 0 default) != 1)) by unfold nd_13a_v129; rw [iP g0]]⟩
 ·exact nd_13a_2 u a b x y h13 xe g0 cx hcx ⟨rfl,by rw [show nd_13a_v129 u a b x y=(false) by unfold nd_13a_v129; rw [iN g0]]⟩
section
variable (u:Pr) (a b:Int) (x:Bool) (h13:prO u=8->0<(prK u).length) (xe:Ext)
include u a b x h13 xe
theorem nd_13b_1(hx0:prO u=8)(cx:Cx)(hcx:cx.n=130){Q:PExit->S->Prop}(hq:Q (.normal) (S.mk [(1,.lp 1 0),(2,vI6 0),(3,vI6 a),(4,vI6 b),(91,.v (.bool x)),(129,.v (.bool (prO (List.getD (prK u) 0 default) != 1)))] [(1,prV u)] xe)):PW prog cx (regF f75 13) (nd4 u a b x xe) Q:=
 pw mdL 130 [rp 3 (et1 hx0),mxPr (prK u) 0,xPr (prK u) 0,rp 4 (et1 hx0)] [1,2,3,4,91,129] [1] hcx hq
theorem nd_13b_2(hx0:¬prO u=8)(cx:Cx)(hcx:cx.n=130){Q:PExit->S->Prop}(hq:Q (.normal) (S.mk [(1,.lp 1 0),(2,vI6 0),(3,vI6 a),(4,vI6 b),(91,.v (.bool x)),(129,.v (.bool false))] [(1,prV u)] xe)):PW prog cx (regF f75 13) (nd4 u a b x xe) Q:=
 pw mdL 130 [rp 7 (en1 hx0)] [1,2,3,4,91,129] [1] hcx hq
end
def nd_13b_v129(u:Pr)(a b:Int)(x:Bool):Bool:=(if prO u=8 then ((prO (List.getD (prK u) 0 default) != 1)) else (false))
theorem nd_13bJ(u:Pr)(a b:Int)(x:Bool)(h13:prO u=8->0<(prK u).length)(xe:Ext):(Ob.frag 130 (regF f75 13) (nd4 u a b x xe) (.normal) (S.mk [(1,.lp 1 0),(2,vI6 0),(3,vI6 a),(4,vI6 b),(91,.v (.bool x)),(129,.v (.bool (nd_13b_v129 u a b x)))] [(1,prV u)] xe)).ok prog:=by
 intro cx hcx
 by_cases g0:prO u=8
 ·exact nd_13b_1 u a b x h13 xe g0 cx hcx ⟨rfl,by rw [show nd_13b_v129 u a b x=((prO (List.getD (prK u) 0 default) != 1)) by unfold nd_13b_v129; rw [iP g0]]⟩
 ·exact nd_13b_2 u a b x h13 xe g0 cx hcx ⟨rfl,by rw [show nd_13b_v129 u a b x=(false) by unfold nd_13b_v129; rw [iN g0]]⟩
end Go.Proofs.YtaakmholhliodaaGreatDoor
