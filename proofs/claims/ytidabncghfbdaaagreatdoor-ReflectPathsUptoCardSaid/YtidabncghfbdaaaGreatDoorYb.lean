/- Values of Go as plain data, an evaluator over them, and what the functions of the program return; part Yb. -/
import Derived.Test.YtidabncghfbdaaaGreatDoorYa
import Derived.RangeFuncNested
import Derived.RangeFuncBound
import Derived.RangeFuncCalls
import Derived.RangeFuncLeaves
import Derived.Shelf.Abstract
import Derived.Shelf.RegionOpen
import Derived.WalkKit
import Derived.OwnWalkIn
import Derived.TacticsInMore
import Derived.LoopNIn
import Derived.LoopIn
set_option linter.unusedSectionVars false
set_option linter.unusedSimpArgs false
set_option linter.unusedVariables false
namespace Go.Proofs.YtidabncghfbdaaaGreatDoor
open Go.Proofs.Tryz
open Go.Pv Go.Proofs.Tryz
set_option maxRecDepth 100000
def smB(c:Int):Bool:=decide (97<=c)&&decide (c<=122)
def cpB(c:Int):Bool:=decide (65<=c)&&decide (c<=90)
def dgB(c:Int):Bool:=decide (48<=c)&&decide (c<=57)
theorem tn1(i:Nat):((i:Int)+1).toNat=i+1:=by omega
def kwL:List BA:=[⟨#[97,110,100]⟩,⟨#[97,115,115,117,109,101]⟩,⟨#[98,111,111,108]⟩,⟨#[98,111,117,110,100]⟩,⟨#[99,97,115,101]⟩,⟨#[99,101,108,108]⟩,⟨#[99,108,97,115,115]⟩,⟨#[100,97,116,97]⟩,⟨#[100,101,102]⟩,⟨#[100,105,118]⟩,⟨#[101,108,115,101]⟩,⟨#[101,110,100]⟩,⟨#[102,97,108,115,101]⟩,⟨#[102,111,114,97,108,108]⟩,⟨#[102,117,110]⟩,⟨#[103,101,116]⟩,⟨#[105,102]⟩,⟨#[105,110]⟩,⟨#[105,110,115,116]⟩,⟨#[105,110,116]⟩,⟨#[105,110,118,97,114,105,97,110,116]⟩,⟨#[108,101,116]⟩,⟨#[109,97,116,99,104]⟩,⟨#[109,101,97,115,117,114,101]⟩,⟨#[109,101,116,114,105,99]⟩,⟨#[109,111,100]⟩,⟨#[109,117]⟩,⟨#[110,101,119]⟩,⟨#[110,111,116]⟩,⟨#[111,102]⟩,⟨#[111,114]⟩,⟨#[113,117,97,108]⟩,⟨#[114,101,102,108,101,99,116]⟩,⟨#[115,101,116]⟩,⟨#[116,104,101,110]⟩,⟨#[116,114,117,101]⟩,⟨#[117,115,101]⟩,⟨#[118]⟩,⟨#[118,97,108]⟩,⟨#[116,97,103]⟩,⟨#[119,104,101,114,101]⟩,⟨#[119,105,116,104]⟩]
def kwC:List PV:=[.str ⟨#[97,110,100]⟩,.str ⟨#[97,115,115,117,109,101]⟩,.str ⟨#[98,111,111,108]⟩,.str ⟨#[98,111,117,110,100]⟩,.str ⟨#[99,97,115,101]⟩,.str ⟨#[99,101,108,108]⟩,.str ⟨#[99,108,97,115,115]⟩,.str ⟨#[100,97,116,97]⟩,.str ⟨#[100,101,102]⟩,.str ⟨#[100,105,118]⟩,.str ⟨#[101,108,115,101]⟩,.str ⟨#[101,110,100]⟩,.str ⟨#[102,97,108,115,101]⟩,.str ⟨#[102,111,114,97,108,108]⟩,.str ⟨#[102,117,110]⟩,.str ⟨#[103,101,116]⟩,.str ⟨#[105,102]⟩,.str ⟨#[105,110]⟩,.str ⟨#[105,110,115,116]⟩,.str ⟨#[105,110,116]⟩,.str ⟨#[105,110,118,97,114,105,97,110,116]⟩,.str ⟨#[108,101,116]⟩,.str ⟨#[109,97,116,99,104]⟩,.str ⟨#[109,101,97,115,117,114,101]⟩,.str ⟨#[109,101,116,114,105,99]⟩,.str ⟨#[109,111,100]⟩,.str ⟨#[109,117]⟩,.str ⟨#[110,101,119]⟩,.str ⟨#[110,111,116]⟩,.str ⟨#[111,102]⟩,.str ⟨#[111,114]⟩,.str ⟨#[113,117,97,108]⟩,.str ⟨#[114,101,102,108,101,99,116]⟩,.str ⟨#[115,101,116]⟩,.str ⟨#[116,104,101,110]⟩,.str ⟨#[116,114,117,101]⟩,.str ⟨#[117,115,101]⟩,.str ⟨#[118]⟩,.str ⟨#[118,97,108]⟩,.str ⟨#[116,97,103]⟩,.str ⟨#[119,104,101,114,101]⟩,.str ⟨#[119,105,116,104]⟩]
theorem kwC_at{i:Nat}(h:i<kwL.length):[PV.str ⟨#[97,110,100]⟩,.str ⟨#[97,115,115,117,109,101]⟩,.str ⟨#[98,111,111,108]⟩,.str ⟨#[98,111,117,110,100]⟩,.str ⟨#[99,97,115,101]⟩,.str ⟨#[99,101,108,108]⟩,.str ⟨#[99,108,97,115,115]⟩,.str ⟨#[100,97,116,97]⟩,.str ⟨#[100,101,102]⟩,.str ⟨#[100,105,118]⟩,.str ⟨#[101,108,115,101]⟩,.str ⟨#[101,110,100]⟩,.str ⟨#[102,97,108,115,101]⟩,.str ⟨#[102,111,114,97,108,108]⟩,.str ⟨#[102,117,110]⟩,.str ⟨#[103,101,116]⟩,.str ⟨#[105,102]⟩,.str ⟨#[105,110]⟩,.str ⟨#[105,110,115,116]⟩,.str ⟨#[105,110,116]⟩,.str ⟨#[105,110,118,97,114,105,97,110,116]⟩,.str ⟨#[108,101,116]⟩,.str ⟨#[109,97,116,99,104]⟩,.str ⟨#[109,101,97,115,117,114,101]⟩,.str ⟨#[109,101,116,114,105,99]⟩,.str ⟨#[109,111,100]⟩,.str ⟨#[109,117]⟩,.str ⟨#[110,101,119]⟩,.str ⟨#[110,111,116]⟩,.str ⟨#[111,102]⟩,.str ⟨#[111,114]⟩,.str ⟨#[113,117,97,108]⟩,.str ⟨#[114,101,102,108,101,99,116]⟩,.str ⟨#[115,101,116]⟩,.str ⟨#[116,104,101,110]⟩,.str ⟨#[116,114,117,101]⟩,.str ⟨#[117,115,101]⟩,.str ⟨#[118]⟩,.str ⟨#[118,97,108]⟩,.str ⟨#[116,97,103]⟩,.str ⟨#[119,104,101,114,101]⟩,.str ⟨#[119,105,116,104]⟩].getD i .nilp = .str (kwL.getD i nm0):=by
 show kwC.getD i .nilp=_
 have e:kwC=kwL.map .str:=rfl
 rw [e]
 simp [List.getD,h]
theorem dr_at{l:List UInt8}{i:Nat}(h:i<List.length (List.drop 1 l)):l.getD (i+1) default=(List.drop 1 l).getD i default:=by simp [List.getD,Nat.add_comm]
theorem kwT{i:Nat}(h:i<kwL.length):(i:Int)<42:=by
 have:kwL.length=42:=rfl
 omega
theorem kwF{i:Nat}(h:i=kwL.length):¬(i:Int)<42:=by
 have:kwL.length=42:=rfl
 omega
theorem kwA{i:Nat}(h:i<kwL.length):(0:Int)<=(i:Int)/\(i:Int)<((42:Nat):Int):=by
 have:=kwT h; omega
theorem b1T{s:BA}{i:Nat}(h:i<List.length (List.drop 1 s.data.toList)):(i:Int)+1<(s.size:Int):=by
 have:s.size=s.data.size:=rfl
 simp at h; omega
theorem b1F{s:BA}{i:Nat}(h:i=List.length (List.drop 1 s.data.toList)):¬(i:Int)+1<(s.size:Int):=by
 have:s.size=s.data.size:=rfl
 simp at h; omega
theorem bzT{s:BA}{i:Nat}(h:i<List.length (s.data.toList)):(i:Int)<(s.size:Int):=by
 have:s.size=s.data.size:=rfl
 simp at h; omega
theorem bzF{s:BA}{i:Nat}(h:i=List.length (s.data.toList)):¬(i:Int)<(s.size:Int):=by
 have:s.size=s.data.size:=rfl
 simp at h; omega
theorem nSmT(c:Int):Pu 176 [.int .u8 c] (.ret (.bool (smB c))):=by
 by_cases h:97<=c
 ·rw [show smB c=decide (c<=122) by simp [smB,h]]; exact pm mdL [rp 3 (dt (97<=c) h)] func176
 ·rw [show smB c=false by simp [smB,h]]; exact pm mdL [rp 3 (df (97<=c) h)] func176
theorem nCpT(c:Int):Pu 179 [.int .u8 c] (.ret (.bool (cpB c))):=by
 by_cases h:65<=c
 ·rw [show cpB c=decide (c<=90) by simp [cpB,h]]; exact pm mdL [rp 3 (dt (65<=c) h)] func179
 ·rw [show cpB c=false by simp [cpB,h]]; exact pm mdL [rp 3 (df (65<=c) h)] func179
theorem nDgT(c:Int):Pu 178 [.int .u8 c] (.ret (.bool (dgB c))):=by
 by_cases h:48<=c
 ·rw [show dgB c=decide (c<=57) by simp [dgB,h]]; exact pm mdL [rp 3 (dt (48<=c) h)] func178
 ·rw [show dgB c=false by simp [dgB,h]]; exact pm mdL [rp 3 (df (48<=c) h)] func178
abbrev nAl_I(s:BA)(j:Int)(e:Ext):S:=S.mk [(0,vS s),(3,vI6 j)] [] e
inductive nAl_R where
 | e0
 | e1
def nAl_f  : List UInt8->nAl_R
 | []=>(nAl_R.e1)
 | el::r=>(if smB (↑(UInt8.toNat el):Int)=false then (if cpB (↑(UInt8.toNat el):Int)=false then (if dgB (↑(UInt8.toNat el):Int)=false then (nAl_R.e0) else nAl_f  r) else nAl_f  r) else nAl_f  r)
def nAl_q(s:BA)(e:Ext):nAl_R->PExit × S
 | .e0=>(.ret,S.mk [(0,vS s),(2,.v (.bool false))] [] e)
 | .e1=>(.exit 0,S.mk [(0,vS s)] [] e)
theorem nAl_lp(s:BA)(e:Ext)(hN:List.length ((s.data.toList))<=1000000000):(Ob.loop 29 (loopF f141 0) (nAl_I s 0  e) (nAl_q s e (nAl_f  ((s.data.toList)))).1 (nAl_q s e (nAl_f  ((s.data.toList)))).2).ok prog:=by
 refine rng (List.length ((s.data.toList))) (fun j _=>nAl_I s j  e) (fun i _=>nAl_f  (List.drop i ((s.data.toList)))) (nAl_q s e) (fun i _=>True) kR ?_ () trivial
 rintro i u hi -
 rcases Nat.lt_or_ge i (List.length ((s.data.toList))) with hlt | hge
 ·have hd:=drop_at hlt
  refine t0 ?_;refine tp [kp,dt ((i:Int)<(↑(ByteArray.size s):Int)) (by (apply bzT <;> first | assumption | omega | decide)),am ((0:Int)<=(i:Int)/\(i:Int)<(↑(ByteArray.size s):Int)) (by simp_all [tn1]),xBy s i,cl (@nSmT ((↑(UInt8.toNat (List.getD (Array.toList (ByteArray.data s)) i default)):Int)))] ?_;by_cases h0:smB (↑(UInt8.toNat (List.getD (Array.toList (ByteArray.data s)) i default)):Int)=false
  ·refine tp [rp 3 (bt1 (bnT h0)),am ((0:Int)<=(i:Int)/\(i:Int)<(↑(ByteArray.size s):Int)) (by simp_all [tn1]),xBy s i,bt1 (bnT h0),cl (@nCpT ((↑(UInt8.toNat (List.getD (Array.toList (ByteArray.data s)) i default)):Int))),rp 2 (bt1 (bnT h0))] ?_;by_cases h1:cpB (↑(UInt8.toNat (List.getD (Array.toList (ByteArray.data s)) i default)):Int)=false
   ·refine tp [rp 3 (bt1 (bnT h1)),am ((0:Int)<=(i:Int)/\(i:Int)<(↑(ByteArray.size s):Int)) (by simp_all [tn1]),xBy s i,bt1 (bnT h1),cl (@nDgT ((↑(UInt8.toNat (List.getD (Array.toList (ByteArray.data s)) i default)):Int))),rp 2 (bt1 (bnT h1))] ?_;by_cases h2:dgB (↑(UInt8.toNat (List.getD (Array.toList (ByteArray.data s)) i default)):Int)=false
    ·exact tX mdL [bt1 (bnT h2)] (nAl_R.e0) (by rw [hd,nAl_f,iP h0,iP h1,iP h2])
    ·exact tN mdL [bf1 (bnF (bTF h2)),wr ((i:Int)+1)] hlt () trivial (by rw [hd,nAl_f,iP h0,iP h1,iN h2])
   ·exact tN mdL [rp 6 (bf1 (bnF (bTF h1))),bf false,wr ((i:Int)+1)] hlt () trivial (by rw [hd,nAl_f,iP h0,iN h1])
  ·exact tN mdL [rp 6 (bf1 (bnF (bTF h0))),rp 7 (bf false),wr ((i:Int)+1)] hlt () trivial (by rw [hd,nAl_f,iN h0])
 ·have he:i=List.length ((s.data.toList)):=by omega
  exact lX mdL [kp,df ((i:Int)<(↑(ByteArray.size s):Int)) (by (apply bzF <;> first | assumption | omega | decide))] (nAl_R.e1) (by rw [he,List.drop_length,nAl_f])
def anB(c:UInt8):Bool:=smB c.toNat||cpB c.toNat||dgB c.toNat
def wdB(c:UInt8):Bool:=smB c.toNat||dgB c.toNat||decide (((c.toNat:Nat):Int)=95)
theorem nAl_e:∀l:List UInt8,nAl_f l=if l.all anB=true then .e1 else .e0
 | []=>rfl
 | c::r=>by
  by_cases h1:smB c.toNat=true <;> by_cases h2:cpB c.toNat=true <;> by_cases h3:dgB c.toNat=true <;> simp [nAl_f,anB,h1,h2,h3,nAl_e r]
theorem sz_le{s:BA}(h:s.size<=1000000000):List.length (s.data.toList)<=1000000000:=by simpa using h
theorem nAlL_1(s:BA)(hs:s.size<=1000000000)(hx0:nAl_f (Array.toList (ByteArray.data s))=nAl_R.e0):Pu 141 [.str s] (rB false):=
 pu mdL (fun e=>[lq (rz (nAl_lp (s) (e) (by (apply sz_le <;> first | assumption | omega | decide))) hx0)]) func141
theorem nAlL_2(s:BA)(hs:s.size<=1000000000)(hx0:nAl_f (Array.toList (ByteArray.data s))=nAl_R.e1):Pu 141 [.str s] (rB true):=
 pu mdL (fun e=>[lq (rz (nAl_lp (s) (e) (by (apply sz_le <;> first | assumption | omega | decide))) hx0)]) func141
theorem nAlT(s:BA)(hs:s.size<=1000000000):Pu 141 [.str s] (.ret (.bool (s.data.toList.all anB))):=by
 cases h:s.data.toList.all anB with
 | true=>exact nAlL_2 s hs (by rw [nAl_e,iP h])
 | false=>exact nAlL_1 s hs (by rw [nAl_e,iN (by rw [h]; simp)])
def szB(s:BA):Bool:=decide (1<=s.size)&&decide (s.size<=24)
theorem nSiT(s:BA):Pu 140 [.str s] (.ret (.bool (szB s))):=by
 by_cases h:(s.size:Int)>=1
 ·rw [show szB s=decide ((s.size:Int)<=24) by unfold szB; rw [decide_eq_true (by omega:1<=s.size),Bool.true_and]; exact decide_eq_decide.2 oM]; exact pm mdL [kp,rp 2 (dt ((↑(ByteArray.size s):Int)>=1) h),kp,rp 2 (dt ((↑(ByteArray.size s):Int)>=1) h)] func140
 ·rw [show szB s=false by unfold szB; rw [decide_eq_false (by omega:¬1<=s.size),Bool.false_and]]; exact pm mdL [kp,rp 4 (df ((↑(ByteArray.size s):Int)>=1) h)] func140
abbrev nWd_I(s:BA)(j:Int)(e:Ext):S:=S.mk [(0,vS s),(3,vI6 j)] [] e
inductive nWd_R where
 | e0
 | e1
def nWd_f  : List UInt8->Nat->nWd_R
 | [],i=>(nWd_R.e1)
 | el::r,i=>(if smB (↑(UInt8.toNat el):Int)=false then (if (i:Int)=0 then (nWd_R.e0) else (if dgB (↑(UInt8.toNat el):Int)=false then (if (↑(UInt8.toNat el):Int)=95 then nWd_f  r (i+1)  else (nWd_R.e0)) else nWd_f  r (i+1))) else nWd_f  r (i+1))
def nWd_q(s:BA)(e:Ext):nWd_R->PExit × S
 | .e0=>(.ret,S.mk [(0,vS s),(2,.v (.bool false))] [] e)
 | .e1=>(.exit 0,S.mk [(0,vS s)] [] e)
theorem nWd_lp(s:BA)(e:Ext)(hN:List.length ((s.data.toList))<=1000000000):(Ob.loop 32 (loopF f142 0) (nWd_I s 0  e) (nWd_q s e (nWd_f  ((s.data.toList)) 0)).1 (nWd_q s e (nWd_f  ((s.data.toList)) 0)).2).ok prog:=by
 refine rng (List.length ((s.data.toList))) (fun j _=>nWd_I s j  e) (fun i _=>nWd_f  (List.drop i ((s.data.toList))) i) (nWd_q s e) (fun i _=>True) kR ?_ () trivial
 rintro i u hi -
 rcases Nat.lt_or_ge i (List.length ((s.data.toList))) with hlt | hge
 ·have hd:=drop_at hlt
  refine t0 ?_;refine tp [kp,dt ((i:Int)<(↑(ByteArray.size s):Int)) (by (apply bzT <;> first | assumption | omega | decide)),am ((0:Int)<=(i:Int)/\(i:Int)<(↑(ByteArray.size s):Int)) (by simp_all [tn1]),xBy s i,cl (@nSmT ((↑(UInt8.toNat (List.getD (Array.toList (ByteArray.data s)) i default)):Int)))] ?_;by_cases h0:smB (↑(UInt8.toNat (List.getD (Array.toList (ByteArray.data s)) i default)):Int)=false
  ·refine tp [rp 3 (bt1 (bnT h0))] ?_;by_cases h1:(i:Int)=0
   ·exact tX mdL [rp 7 (et1 h1),bt1 (bnT h0),et1 h1,bt1 (bnT h0),bt true] (nWd_R.e0) (by rw [hd,nWd_f,iP h0,iP h1])
   ·refine tp [rp 3 (en1 h1),am ((0:Int)<=(i:Int)/\(i:Int)<(↑(ByteArray.size s):Int)) (by simp_all [tn1]),xBy s i,en1 h1,cl (@nDgT ((↑(UInt8.toNat (List.getD (Array.toList (ByteArray.data s)) i default)):Int))),rp 2 (en1 h1)] ?_;by_cases h2:dgB (↑(UInt8.toNat (List.getD (Array.toList (ByteArray.data s)) i default)):Int)=false
    ·refine tp [rp 3 (bt1 (bnT h2)),am ((0:Int)<=(i:Int)/\(i:Int)<(↑(ByteArray.size s):Int)) (by simp_all [tn1]),xBy s i,bt1 (bnT h2),en1 h1,bt1 (bnT h2),bt1 (bnT h0),en1 h1,bt1 (bnT h0)] ?_;by_cases h3:(↑(UInt8.toNat (List.getD (Array.toList (ByteArray.data s)) i default)):Int)=95
     ·exact tN mdL [nn1 h3,wr ((i:Int)+1)] hlt () trivial (by rw [hd,nWd_f,iP h0,iN h1,iP h2,iP h3])
     ·exact tX mdL [nt1 h3] (nWd_R.e0) (by rw [hd,nWd_f,iP h0,iN h1,iP h2,iN h3])
    ·exact tN mdL [rp 4 (bf1 (bnF (bTF h2))),en1 h1,bf1 (bnF (bTF h2)),bt1 (bnT h0),en1 h1,bt1 (bnT h0),bf false,wr ((i:Int)+1)] hlt () trivial (by rw [hd,nWd_f,iP h0,iN h1,iN h2])
  ·exact tN mdL [rp 5 (bf1 (bnF (bTF h0))),bf false,wr ((i:Int)+1)] hlt () trivial (by rw [hd,nWd_f,iN h0])
 ·have he:i=List.length ((s.data.toList)):=by omega
  exact lX mdL [kp,df ((i:Int)<(↑(ByteArray.size s):Int)) (by (apply bzF <;> first | assumption | omega | decide))] (nWd_R.e1) (by rw [he,List.drop_length,nWd_f])
abbrev nKw_I(s:BA)(j:Int)(e:Ext):S:=S.mk [(0,vS s),(5,.v (.agg kwC)),(6,vI6 j)] [] e
inductive nKw_R where
 | e0
 | e1
def nKw_f(s:BA):List BA->nKw_R
 | []=>(nKw_R.e1)
 | el::r=>(if el=s then (nKw_R.e0) else nKw_f s r)
def nKw_q(s:BA)(e:Ext):nKw_R->PExit × S
 | .e0=>(.ret,S.mk [(0,vS s),(5,.v (.agg [.str (ByteArray.mk #[97,110,100]),.str (ByteArray.mk #[97,115,115,117,109,101]),.str (ByteArray.mk #[98,111,111,108]),.str (ByteArray.mk #[98,111,117,110,100]),.str (ByteArray.mk #[99,97,115,101]),.str (ByteArray.mk #[99,101,108,108]),.str (ByteArray.mk #[99,108,97,115,115]),.str (ByteArray.mk #[100,97,116,97]),.str (ByteArray.mk #[100,101,102]),.str (ByteArray.mk #[100,105,118]),.str (ByteArray.mk #[101,108,115,101]),.str (ByteArray.mk #[101,110,100]),.str (ByteArray.mk #[102,97,108,115,101]),.str (ByteArray.mk #[102,111,114,97,108,108]),.str (ByteArray.mk #[102,117,110]),.str (ByteArray.mk #[103,101,116]),.str (ByteArray.mk #[105,102]),.str (ByteArray.mk #[105,110]),.str (ByteArray.mk #[105,110,115,116]),.str (ByteArray.mk #[105,110,116]),.str (ByteArray.mk #[105,110,118,97,114,105,97,110,116]),.str (ByteArray.mk #[108,101,116]),.str (ByteArray.mk #[109,97,116,99,104]),.str (ByteArray.mk #[109,101,97,115,117,114,101]),.str (ByteArray.mk #[109,101,116,114,105,99]),.str (ByteArray.mk #[109,111,100]),.str (ByteArray.mk #[109,117]),.str (ByteArray.mk #[110,101,119]),.str (ByteArray.mk #[110,111,116]),.str (ByteArray.mk #[111,102]),.str (ByteArray.mk #[111,114]),.str (ByteArray.mk #[113,117,97,108]),.str (ByteArray.mk #[114,101,102,108,101,99,116]),.str (ByteArray.mk #[115,101,116]),.str (ByteArray.mk #[116,104,101,110]),.str (ByteArray.mk #[116,114,117,101]),.str (ByteArray.mk #[117,115,101]),.str (bM 118),.str (ByteArray.mk #[118,97,108]),.str (ByteArray.mk #[116,97,103]),.str (ByteArray.mk #[119,104,101,114,101]),.str (ByteArray.mk #[119,105,116,104])])),(2,.v (.bool true))] [] e)
 | .e1=>(.exit 0,S.mk [(0,vS s),(5,.v (.agg [.str (ByteArray.mk #[97,110,100]),.str (ByteArray.mk #[97,115,115,117,109,101]),.str (ByteArray.mk #[98,111,111,108]),.str (ByteArray.mk #[98,111,117,110,100]),.str (ByteArray.mk #[99,97,115,101]),.str (ByteArray.mk #[99,101,108,108]),.str (ByteArray.mk #[99,108,97,115,115]),.str (ByteArray.mk #[100,97,116,97]),.str (ByteArray.mk #[100,101,102]),.str (ByteArray.mk #[100,105,118]),.str (ByteArray.mk #[101,108,115,101]),.str (ByteArray.mk #[101,110,100]),.str (ByteArray.mk #[102,97,108,115,101]),.str (ByteArray.mk #[102,111,114,97,108,108]),.str (ByteArray.mk #[102,117,110]),.str (ByteArray.mk #[103,101,116]),.str (ByteArray.mk #[105,102]),.str (ByteArray.mk #[105,110]),.str (ByteArray.mk #[105,110,115,116]),.str (ByteArray.mk #[105,110,116]),.str (ByteArray.mk #[105,110,118,97,114,105,97,110,116]),.str (ByteArray.mk #[108,101,116]),.str (ByteArray.mk #[109,97,116,99,104]),.str (ByteArray.mk #[109,101,97,115,117,114,101]),.str (ByteArray.mk #[109,101,116,114,105,99]),.str (ByteArray.mk #[109,111,100]),.str (ByteArray.mk #[109,117]),.str (ByteArray.mk #[110,101,119]),.str (ByteArray.mk #[110,111,116]),.str (ByteArray.mk #[111,102]),.str (ByteArray.mk #[111,114]),.str (ByteArray.mk #[113,117,97,108]),.str (ByteArray.mk #[114,101,102,108,101,99,116]),.str (ByteArray.mk #[115,101,116]),.str (ByteArray.mk #[116,104,101,110]),.str (ByteArray.mk #[116,114,117,101]),.str (ByteArray.mk #[117,115,101]),.str (bM 118),.str (ByteArray.mk #[118,97,108]),.str (ByteArray.mk #[116,97,103]),.str (ByteArray.mk #[119,104,101,114,101]),.str (ByteArray.mk #[119,105,116,104])]))] [] e)
theorem nKw_lp(s:BA)(e:Ext)(hN:List.length ((kwL))<=1000000000):(Ob.loop 13 (loopF f177 0) (nKw_I s 0  e) (nKw_q s e (nKw_f s ((kwL)))).1 (nKw_q s e (nKw_f s ((kwL)))).2).ok prog:=by
 refine rng (List.length ((kwL))) (fun j _=>nKw_I s j  e) (fun i _=>nKw_f s (List.drop i ((kwL)))) (nKw_q s e) (fun i _=>True) kR ?_ () trivial
 rintro i u hi -
 rcases Nat.lt_or_ge i (List.length ((kwL))) with hlt | hge
 ·have hd:=drop_at0 hlt
  refine t0 ?_;refine tp [dt ((i:Int)<42) (by (apply kwT <;> first | assumption | omega | decide)),am ((0:Int)<=(i:Int)/\(i:Int)<(42:Int)) (by (apply kwA <;> first | assumption | omega | decide)),av (.v (List.getD [.str (ByteArray.mk #[97,110,100]),.str (ByteArray.mk #[97,115,115,117,109,101]),.str (ByteArray.mk #[98,111,111,108]),.str (ByteArray.mk #[98,111,117,110,100]),.str (ByteArray.mk #[99,97,115,101]),.str (ByteArray.mk #[99,101,108,108]),.str (ByteArray.mk #[99,108,97,115,115]),.str (ByteArray.mk #[100,97,116,97]),.str (ByteArray.mk #[100,101,102]),.str (ByteArray.mk #[100,105,118]),.str (ByteArray.mk #[101,108,115,101]),.str (ByteArray.mk #[101,110,100]),.str (ByteArray.mk #[102,97,108,115,101]),.str (ByteArray.mk #[102,111,114,97,108,108]),.str (ByteArray.mk #[102,117,110]),.str (ByteArray.mk #[103,101,116]),.str (ByteArray.mk #[105,102]),.str (ByteArray.mk #[105,110]),.str (ByteArray.mk #[105,110,115,116]),.str (ByteArray.mk #[105,110,116]),.str (ByteArray.mk #[105,110,118,97,114,105,97,110,116]),.str (ByteArray.mk #[108,101,116]),.str (ByteArray.mk #[109,97,116,99,104]),.str (ByteArray.mk #[109,101,97,115,117,114,101]),.str (ByteArray.mk #[109,101,116,114,105,99]),.str (ByteArray.mk #[109,111,100]),.str (ByteArray.mk #[109,117]),.str (ByteArray.mk #[110,101,119]),.str (ByteArray.mk #[110,111,116]),.str (ByteArray.mk #[111,102]),.str (ByteArray.mk #[111,114]),.str (ByteArray.mk #[113,117,97,108]),.str (ByteArray.mk #[114,101,102,108,101,99,116]),.str (ByteArray.mk #[115,101,116]),.str (ByteArray.mk #[116,104,101,110]),.str (ByteArray.mk #[116,114,117,101]),.str (ByteArray.mk #[117,115,101]),.str (bM 118),.str (ByteArray.mk #[118,97,108]),.str (ByteArray.mk #[116,97,103]),.str (ByteArray.mk #[119,104,101,114,101]),.str (ByteArray.mk #[119,105,116,104])] (Int.toNat (i:Int)) .nilp)) (vS (List.getD kwL i nm0)) (by simp only [Int.toNat_natCast,Int.toNat_zero]; rw [@kwC_at (i) hlt]; try rfl)] ?_;by_cases h0:List.getD kwL i nm0=s
  ·exact tX mdL [bt (ByteArray.toList (List.getD kwL i nm0)==ByteArray.toList s) (bsT h0)] (nKw_R.e0) (by rw [hd,nKw_f,iP h0])
  ·exact tN mdL [bf (ByteArray.toList (List.getD kwL i nm0)==ByteArray.toList s) (bsF h0),wr ((i:Int)+1)] hlt () trivial (by rw [hd,nKw_f,iN h0])
 ·have he:i=List.length ((kwL)):=by omega
  exact lX mdL [df ((i:Int)<42) (by (apply kwF <;> first | assumption | omega | decide))] (nKw_R.e1) (by rw [he,List.drop_length,nKw_f])
def wordB:List UInt8->Bool
 | []=>true
 | c::r=>smB c.toNat&&r.all wdB
theorem nWd_e1:∀ (l:List UInt8) (i:Nat),nWd_f l (i+1)=if l.all wdB=true then .e1 else .e0
 | [],_=>rfl
 | c::r,i=>by
  have hi:¬(((i+1:Nat):Int)=0):=by omega
  have hj:¬((i:Int)+1=0):=by omega
  by_cases h1:smB c.toNat=true <;> by_cases h2:dgB c.toNat=true <;> by_cases h3:((c.toNat:Nat):Int)=95 <;> simp [nWd_f,wdB,h1,h2,h3,hi,hj,nWd_e1 r (i+1)]
theorem nWd_e(l:List UInt8):nWd_f l 0=if wordB l=true then .e1 else .e0:=by
 cases l with
 | nil=>rfl
 | cons c r=>
  by_cases h1:smB c.toNat=true
  ·have:=nWd_e1 r 0
   simp [nWd_f,wordB,h1,this]
  ·simp [nWd_f,wordB,h1]
def kwB(s:BA):Bool:=decide (ix id s kwL<kwL.length)
theorem nKw_e(s:BA):∀l:List BA,nKw_f s l=if ix id s l<l.length then .e0 else .e1
 | []=>by simp [nKw_f,ix]
 | c::r=>by
  by_cases h:c=s
  ·simp [nKw_f,ix,h]
  ·simp only [nKw_f,ix,id,h,if_false,nKw_e s r,List.length_cons,Nat.add_lt_add_iff_right]
theorem nWdL_1(s:BA)(hs:s.size<=1000000000)(hx0:nWd_f (Array.toList (ByteArray.data s)) 0=nWd_R.e0):Pu 142 [.str s] (rB false):=
 pu mdL (fun e=>[lq (rz (nWd_lp (s) (e) (by (apply sz_le <;> first | assumption | omega | decide))) hx0)]) func142
theorem nWdL_2(s:BA)(hs:s.size<=1000000000)(hx0:nWd_f (Array.toList (ByteArray.data s)) 0=nWd_R.e1):Pu 142 [.str s] (rB true):=
 pu mdL (fun e=>[lq (rz (nWd_lp (s) (e) (by (apply sz_le <;> first | assumption | omega | decide))) hx0)]) func142
theorem nWdT(s:BA)(hs:s.size<=1000000000):Pu 142 [.str s] (.ret (.bool (wordB s.data.toList))):=by
 cases h:wordB s.data.toList with
 | true=>exact nWdL_2 s hs (by rw [nWd_e,iP h])
 | false=>exact nWdL_1 s hs (by rw [nWd_e,iN (by rw [h]; simp)])
theorem nKwT(s:BA):Pu 177 [.str s] (.ret (.bool (kwB s))):=by
 unfold kwB
 by_cases h:ix id s kwL<kwL.length
 ·rw [decide_eq_true h]; exact pu mdL (fun e=>[lq (rz (nKw_lp (s) (e) dD) (by rw [nKw_e,iP h]))]) func177
 ·rw [decide_eq_false h]; exact pu mdL (fun e=>[lq (rz (nKw_lp (s) (e) dD) (by rw [nKw_e,iN h]))]) func177
theorem szB_lt{s:BA}(h:szB s=true):(0:Int)<=0/\(0:Int)<(s.size:Int):=by
 simp only [szB,Bool.and_eq_true,decide_eq_true_eq] at h; omega
theorem szB_d1{s:BA}(h:szB s=true):List.length (List.drop 1 s.data.toList)<=1000000000:=by
 have:s.size=s.data.size:=rfl
 simp only [szB,Bool.and_eq_true,decide_eq_true_eq] at h; simp; omega
theorem b1A{s:BA}{i:Nat}(h:i<List.length (List.drop 1 s.data.toList)):(0:Int)<=(i:Int)+1/\(i:Int)+1<(s.size:Int):=by
 have:=b1T h; omega
abbrev nNl_I(s:BA)(j:Int)(e:Ext):S:=S.mk [(0,vS s),(3,vI6 (j+1))] [] e
inductive nNl_R where
 | e0
 | e1
def nNl_f  : List UInt8->nNl_R
 | []=>(nNl_R.e1)
 | el::r=>(if smB (↑(UInt8.toNat el):Int)=false then (if dgB (↑(UInt8.toNat el):Int)=false then (if (↑(UInt8.toNat el):Int)=95 then nNl_f  r  else (nNl_R.e0)) else nNl_f  r) else nNl_f  r)
def nNl_q(s:BA)(e:Ext):nNl_R->PExit × S
 | .e0=>(.ret,S.mk [(0,vS s),(2,.v (.bool false))] [] e)
 | .e1=>(.exit 0,S.mk [(0,vS s)] [] e)
theorem nNl_lp(s:BA)(hsa:szB s=true)(hsb:smB (s.data.toList.getD 0 default).toNat=true)(hsc:kwB s=false)(e:Ext)(hN:List.length ((List.drop 1 s.data.toList))<=1000000000):(Ob.loop 41 (loopF f138 0) (nNl_I s 0  e) (nNl_q s e (nNl_f  ((List.drop 1 s.data.toList)))).1 (nNl_q s e (nNl_f  ((List.drop 1 s.data.toList)))).2).ok prog:=by
 refine rng (List.length ((List.drop 1 s.data.toList))) (fun j _=>nNl_I s j  e) (fun i _=>nNl_f  (List.drop i ((List.drop 1 s.data.toList)))) (nNl_q s e) (fun i _=>True) kR ?_ () trivial
 rintro i u hi -
 rcases Nat.lt_or_ge i (List.length ((List.drop 1 s.data.toList))) with hlt | hge
 ·have hd:=drop_at hlt
  refine t0 ?_;refine tp [kp,dt ((i:Int)+1<(↑(ByteArray.size s):Int)) (by (apply b1T <;> first | assumption | omega | decide)),am ((0:Int)<=(i:Int)+1/\(i:Int)+1<(↑(ByteArray.size s):Int)) (by (apply b1A <;> first | assumption | omega | decide)),av (.v (.int .u8 (↑(UInt8.toNat (List.getD (Array.toList (ByteArray.data s)) (Int.toNat ((i:Int)+1)) default)):Int))) (.v (.int .u8 (↑(UInt8.toNat (List.getD (List.drop 1 (Array.toList (ByteArray.data s))) i default)):Int))) (by simp only [Int.toNat_natCast,Int.toNat_zero,tn1]; rw [@dr_at (Array.toList (ByteArray.data s)) (i) hlt]; try rfl),cl (@nSmT ((↑(UInt8.toNat (List.getD (List.drop 1 (Array.toList (ByteArray.data s))) i default)):Int)))] ?_;by_cases h0:smB (↑(UInt8.toNat (List.getD (List.drop 1 (Array.toList (ByteArray.data s))) i default)):Int)=false
  ·refine tp [rp 3 (bt1 (bnT h0)),am ((0:Int)<=(i:Int)+1/\(i:Int)+1<(↑(ByteArray.size s):Int)) (by (apply b1A <;> first | assumption | omega | decide)),av (.v (.int .u8 (↑(UInt8.toNat (List.getD (Array.toList (ByteArray.data s)) (Int.toNat ((i:Int)+1)) default)):Int))) (.v (.int .u8 (↑(UInt8.toNat (List.getD (List.drop 1 (Array.toList (ByteArray.data s))) i default)):Int))) (by simp only [Int.toNat_natCast,Int.toNat_zero,tn1]; rw [@dr_at (Array.toList (ByteArray.data s)) (i) hlt]; try rfl),bt1 (bnT h0),cl (@nDgT ((↑(UInt8.toNat (List.getD (List.drop 1 (Array.toList (ByteArray.data s))) i default)):Int))),rp 2 (bt1 (bnT h0))] ?_;by_cases h1:dgB (↑(UInt8.toNat (List.getD (List.drop 1 (Array.toList (ByteArray.data s))) i default)):Int)=false
   ·refine tp [rp 3 (bt1 (bnT h1)),am ((0:Int)<=(i:Int)+1/\(i:Int)+1<(↑(ByteArray.size s):Int)) (by (apply b1A <;> first | assumption | omega | decide)),av (.v (.int .u8 (↑(UInt8.toNat (List.getD (Array.toList (ByteArray.data s)) (Int.toNat ((i:Int)+1)) default)):Int))) (.v (.int .u8 (↑(UInt8.toNat (List.getD (List.drop 1 (Array.toList (ByteArray.data s))) i default)):Int))) (by simp only [Int.toNat_natCast,Int.toNat_zero,tn1]; rw [@dr_at (Array.toList (ByteArray.data s)) (i) hlt]; try rfl),rp 2 (bt1 (bnT h1))] ?_;by_cases h2:(↑(UInt8.toNat (List.getD (List.drop 1 (Array.toList (ByteArray.data s))) i default)):Int)=95
    ·exact tN mdL [nn1 h2,wr ((i:Int)+1+1)] hlt () trivial (by rw [hd,nNl_f,iP h0,iP h1,iP h2])
    ·exact tX mdL [nt1 h2] (nNl_R.e0) (by rw [hd,nNl_f,iP h0,iP h1,iN h2])
   ·exact tN mdL [rp 5 (bf1 (bnF (bTF h1))),bf false,wr ((i:Int)+1+1)] hlt () trivial (by rw [hd,nNl_f,iP h0,iN h1])
  ·exact tN mdL [rp 6 (bf1 (bnF (bTF h0))),rp 6 (bf false),wr ((i:Int)+1+1)] hlt () trivial (by rw [hd,nNl_f,iN h0])
 ·have he:i=List.length ((List.drop 1 s.data.toList)):=by omega
  exact lX mdL [kp,df ((i:Int)+1<(↑(ByteArray.size s):Int)) (by (apply b1F <;> first | assumption | omega | decide))] (nNl_R.e1) (by rw [he,List.drop_length,nNl_f])
theorem nNl_e:∀l:List UInt8,nNl_f l=if l.all wdB=true then .e1 else .e0
 | []=>rfl
 | c::r=>by
  by_cases h1:smB c.toNat=true <;> by_cases h2:dgB c.toNat=true <;> by_cases h3:((c.toNat:Nat):Int)=95 <;> simp [nNl_f,wdB,h1,h2,h3,nNl_e r]
def nameB(s:BA):Bool:=szB s&&smB (s.data.toList.getD 0 default).toNat && !kwB s&&(s.data.toList.drop 1).all wdB
section
variable (s:BA) (hsa:szB s=true)
include s hsa
theorem nNmB(hsb:smB (s.data.toList.getD 0 default).toNat=false):Pu 138 [.str s] (rB false):=
 pm mdL [cl (@nSiT s),rp 2 (bf (!szB s) (bnF hsa)),am ((0:Int)<=0/\0<(↑(ByteArray.size s):Int)) (by (apply szB_lt <;> first | assumption | omega | decide)),xBy s 0,bf (!szB s) (bnF hsa),cl (@nSmT ((↑(UInt8.toNat (List.getD (Array.toList (ByteArray.data s)) 0 default)):Int))),rp 2 (bf (!szB s) (bnF hsa)),rp 3 (bt (!smB (↑(UInt8.toNat (List.getD (Array.toList (ByteArray.data s)) 0 default)):Int)) (bnT hsb)),bt true] func138
theorem nNmC(hsb:smB (s.data.toList.getD 0 default).toNat=true)(hsc:kwB s=true):Pu 138 [.str s] (rB false):=
 pm mdL [cl (@nSiT s),rp 2 (bf (!szB s) (bnF hsa)),am ((0:Int)<=0/\0<(↑(ByteArray.size s):Int)) (by (apply szB_lt <;> first | assumption | omega | decide)),xBy s 0,bf (!szB s) (bnF hsa),cl (@nSmT ((↑(UInt8.toNat (List.getD (Array.toList (ByteArray.data s)) 0 default)):Int))),rp 2 (bf (!szB s) (bnF hsa)),rp 2 (bf (!smB (↑(UInt8.toNat (List.getD (Array.toList (ByteArray.data s)) 0 default)):Int)) (bnF hsb)),cl (@nKwT s),bf (!smB (↑(UInt8.toNat (List.getD (Array.toList (ByteArray.data s)) 0 default)):Int)) (bnF hsb),bt (kwB s) hsc] func138
theorem nNmD_1(hsb:smB (s.data.toList.getD 0 default).toNat=true)(hsc:kwB s=false)(hx0:nNl_f (List.drop 1 (Array.toList (ByteArray.data s)))=nNl_R.e0):Pu 138 [.str s] (rB false):=
 pu mdL (fun e=>[cl (@nSiT s),rp 2 (bf (!szB s) (bnF hsa)),am ((0:Int)<=0/\0<(↑(ByteArray.size s):Int)) (by (apply szB_lt <;> first | assumption | omega | decide)),xBy s 0,bf (!szB s) (bnF hsa),cl (@nSmT ((↑(UInt8.toNat (List.getD (Array.toList (ByteArray.data s)) 0 default)):Int))),rp 2 (bf (!szB s) (bnF hsa)),rp 2 (bf (!smB (↑(UInt8.toNat (List.getD (Array.toList (ByteArray.data s)) 0 default)):Int)) (bnF hsb)),cl (@nKwT s),bf (!smB (↑(UInt8.toNat (List.getD (Array.toList (ByteArray.data s)) 0 default)):Int)) (bnF hsb),bf (kwB s) hsc,lq (rz (nNl_lp (s) hsa hsb hsc (e) (by (apply szB_d1 <;> first | assumption | omega | decide))) hx0)]) func138
theorem nNmD_2(hsb:smB (s.data.toList.getD 0 default).toNat=true)(hsc:kwB s=false)(hx0:nNl_f (List.drop 1 (Array.toList (ByteArray.data s)))=nNl_R.e1):Pu 138 [.str s] (rB true):=
 pu mdL (fun e=>[cl (@nSiT s),rp 2 (bf (!szB s) (bnF hsa)),am ((0:Int)<=0/\0<(↑(ByteArray.size s):Int)) (by (apply szB_lt <;> first | assumption | omega | decide)),xBy s 0,bf (!szB s) (bnF hsa),cl (@nSmT ((↑(UInt8.toNat (List.getD (Array.toList (ByteArray.data s)) 0 default)):Int))),rp 2 (bf (!szB s) (bnF hsa)),rp 2 (bf (!smB (↑(UInt8.toNat (List.getD (Array.toList (ByteArray.data s)) 0 default)):Int)) (bnF hsb)),cl (@nKwT s),bf (!smB (↑(UInt8.toNat (List.getD (Array.toList (ByteArray.data s)) 0 default)):Int)) (bnF hsb),bf (kwB s) hsc,lq (rz (nNl_lp (s) hsa hsb hsc (e) (by (apply szB_d1 <;> first | assumption | omega | decide))) hx0)]) func138
end
theorem nNmT(s:BA):Pu 138 [.str s] (.ret (.bool (nameB s))):=by
 unfold nameB
 cases hsa:szB s with
 | false=>exact pm mdL [cl (@nSiT s),rp 5 (bt (!szB s) (bnT hsa)),rp 4 (bt true)] func138
 | true=>
  cases hsb:smB (s.data.toList.getD 0 default).toNat with
  | false=>exact nNmB s hsa hsb
  | true=>
   cases hsc:kwB s with
   | true=>exact nNmC s hsa hsb hsc
   | false=>
    cases h:(s.data.toList.drop 1).all wdB with
    | true=>exact nNmD_2 s hsa hsb hsc (by rw [nNl_e,iP h])
    | false=>exact nNmD_1 s hsa hsb hsc (by rw [nNl_e,iN (by rw [h]; simp)])
def erN(b:Bool):Int:=if b=true then 0 else 3
abbrev tInt:BA:=⟨#[73,110,116]⟩
abbrev tBool:BA:=⟨#[66,111,111,108]⟩
abbrev tCell:BA:=⟨#[67,101,108,108]⟩
abbrev tFun:BA:=⟨#[70,117,110]⟩
def titleB(s:BA):Bool:=szB s&&cpB (s.data.toList.getD 0 default).toNat&&s.data.toList.all anB && !decide (s=tInt) && !decide (s=tBool) && !decide (s=tCell) && !decide (s=tFun)
theorem szB_s{s:BA}(h:szB s=true):s.size<=1000000000:=by
 simp only [szB,Bool.and_eq_true,decide_eq_true_eq] at h; omega
section
variable (s:BA) (hsa:szB s=true)
include s hsa
theorem nTiB(hsb:cpB (s.data.toList.getD 0 default).toNat=false):Pu 139 [.str s] (rB false):=
 pm mdL [cl (@nSiT s),rp 2 (bf (!szB s) (bnF hsa)),am ((0:Int)<=0/\0<(↑(ByteArray.size s):Int)) (by (apply szB_lt <;> first | assumption | omega | decide)),xBy s 0,bf (!szB s) (bnF hsa),cl (@nCpT ((↑(UInt8.toNat (List.getD (Array.toList (ByteArray.data s)) 0 default)):Int))),rp 2 (bf (!szB s) (bnF hsa)),rp 4 (bt (!cpB (↑(UInt8.toNat (List.getD (Array.toList (ByteArray.data s)) 0 default)):Int)) (bnT hsb)),bt true] func139
theorem nTiC(hsb:cpB (s.data.toList.getD 0 default).toNat=true)(hsc:s.data.toList.all anB=false):Pu 139 [.str s] (rB false):=
 pm mdL [cl (@nSiT s),rp 2 (bf (!szB s) (bnF hsa)),am ((0:Int)<=0/\0<(↑(ByteArray.size s):Int)) (by (apply szB_lt <;> first | assumption | omega | decide)),xBy s 0,bf (!szB s) (bnF hsa),cl (@nCpT ((↑(UInt8.toNat (List.getD (Array.toList (ByteArray.data s)) 0 default)):Int))),rp 2 (bf (!szB s) (bnF hsa)),rp 2 (bf (!cpB (↑(UInt8.toNat (List.getD (Array.toList (ByteArray.data s)) 0 default)):Int)) (bnF hsb)),cl (@nAlT s (by (apply szB_s <;> first | assumption | omega | decide))),rp 2 (bf (!cpB (↑(UInt8.toNat (List.getD (Array.toList (ByteArray.data s)) 0 default)):Int)) (bnF hsb)),bt (!List.all (Array.toList (ByteArray.data s)) anB) (bnT hsc)] func139
theorem nTiD_1(hsb:cpB (s.data.toList.getD 0 default).toNat=true)(hsc:s.data.toList.all anB=true)(hx0:¬s=ByteArray.mk #[73,110,116])(hx1:¬s=ByteArray.mk #[66,111,111,108])(hx2:¬s=ByteArray.mk #[67,101,108,108]):Pu 139 [.str s] (rB !ByteArray.toList s==ByteArray.toList (ByteArray.mk #[70,117,110])):=
 pm mdL [cl (@nSiT s),rp 2 (bf (!szB s) (bnF hsa)),am ((0:Int)<=0/\0<(↑(ByteArray.size s):Int)) (by (apply szB_lt <;> first | assumption | omega | decide)),xBy s 0,bf (!szB s) (bnF hsa),cl (@nCpT ((↑(UInt8.toNat (List.getD (Array.toList (ByteArray.data s)) 0 default)):Int))),rp 2 (bf (!szB s) (bnF hsa)),rp 2 (bf (!cpB (↑(UInt8.toNat (List.getD (Array.toList (ByteArray.data s)) 0 default)):Int)) (bnF hsb)),cl (@nAlT s (by (apply szB_s <;> first | assumption | omega | decide))),rp 2 (bf (!cpB (↑(UInt8.toNat (List.getD (Array.toList (ByteArray.data s)) 0 default)):Int)) (bnF hsb)),bf (!List.all (Array.toList (ByteArray.data s)) anB) (bnF hsc),rp 3 (bt (!ByteArray.toList s==ByteArray.toList (ByteArray.mk #[73,110,116])) (bnT (bsF hx0))),rp 3 (bt (!ByteArray.toList s==ByteArray.toList (ByteArray.mk #[66,111,111,108])) (bnT (bsF hx1))),rp 3 (bt (!ByteArray.toList s==ByteArray.toList (ByteArray.mk #[67,101,108,108])) (bnT (bsF hx2)))] func139
theorem nTiD_2(hsb:cpB (s.data.toList.getD 0 default).toNat=true)(hsc:s.data.toList.all anB=true)(hx0:¬s=ByteArray.mk #[73,110,116])(hx1:¬s=ByteArray.mk #[66,111,111,108])(hx2:s=ByteArray.mk #[67,101,108,108]):Pu 139 [.str s] (rB false):=
 pm mdL [cl (@nSiT s),rp 2 (bf (!szB s) (bnF hsa)),am ((0:Int)<=0/\0<(↑(ByteArray.size s):Int)) (by (apply szB_lt <;> first | assumption | omega | decide)),xBy s 0,bf (!szB s) (bnF hsa),cl (@nCpT ((↑(UInt8.toNat (List.getD (Array.toList (ByteArray.data s)) 0 default)):Int))),rp 2 (bf (!szB s) (bnF hsa)),rp 2 (bf (!cpB (↑(UInt8.toNat (List.getD (Array.toList (ByteArray.data s)) 0 default)):Int)) (bnF hsb)),cl (@nAlT s (by (apply szB_s <;> first | assumption | omega | decide))),rp 2 (bf (!cpB (↑(UInt8.toNat (List.getD (Array.toList (ByteArray.data s)) 0 default)):Int)) (bnF hsb)),bf (!List.all (Array.toList (ByteArray.data s)) anB) (bnF hsc),rp 3 (bt (!ByteArray.toList s==ByteArray.toList (ByteArray.mk #[73,110,116])) (bnT (bsF hx0))),rp 3 (bt (!ByteArray.toList s==ByteArray.toList (ByteArray.mk #[66,111,111,108])) (bnT (bsF hx1))),rp 3 (bf (!ByteArray.toList s==ByteArray.toList (ByteArray.mk #[67,101,108,108])) (bnF (bsT hx2)))] func139
theorem nTiD_3(hsb:cpB (s.data.toList.getD 0 default).toNat=true)(hsc:s.data.toList.all anB=true)(hx0:¬s=ByteArray.mk #[73,110,116])(hx1:s=ByteArray.mk #[66,111,111,108]):Pu 139 [.str s] (rB false):=
 pm mdL [cl (@nSiT s),rp 2 (bf (!szB s) (bnF hsa)),am ((0:Int)<=0/\0<(↑(ByteArray.size s):Int)) (by (apply szB_lt <;> first | assumption | omega | decide)),xBy s 0,bf (!szB s) (bnF hsa),cl (@nCpT ((↑(UInt8.toNat (List.getD (Array.toList (ByteArray.data s)) 0 default)):Int))),rp 2 (bf (!szB s) (bnF hsa)),rp 2 (bf (!cpB (↑(UInt8.toNat (List.getD (Array.toList (ByteArray.data s)) 0 default)):Int)) (bnF hsb)),cl (@nAlT s (by (apply szB_s <;> first | assumption | omega | decide))),rp 2 (bf (!cpB (↑(UInt8.toNat (List.getD (Array.toList (ByteArray.data s)) 0 default)):Int)) (bnF hsb)),bf (!List.all (Array.toList (ByteArray.data s)) anB) (bnF hsc),rp 3 (bt (!ByteArray.toList s==ByteArray.toList (ByteArray.mk #[73,110,116])) (bnT (bsF hx0))),rp 3 (bf (!ByteArray.toList s==ByteArray.toList (ByteArray.mk #[66,111,111,108])) (bnF (bsT hx1))),rp 3 (bf false)] func139
theorem nTiD_4(hsb:cpB (s.data.toList.getD 0 default).toNat=true)(hsc:s.data.toList.all anB=true)(hx0:s=ByteArray.mk #[73,110,116]):Pu 139 [.str s] (rB false):=
 pm mdL [cl (@nSiT s),rp 2 (bf (!szB s) (bnF hsa)),am ((0:Int)<=0/\0<(↑(ByteArray.size s):Int)) (by (apply szB_lt <;> first | assumption | omega | decide)),xBy s 0,bf (!szB s) (bnF hsa),cl (@nCpT ((↑(UInt8.toNat (List.getD (Array.toList (ByteArray.data s)) 0 default)):Int))),rp 2 (bf (!szB s) (bnF hsa)),rp 2 (bf (!cpB (↑(UInt8.toNat (List.getD (Array.toList (ByteArray.data s)) 0 default)):Int)) (bnF hsb)),cl (@nAlT s (by (apply szB_s <;> first | assumption | omega | decide))),rp 2 (bf (!cpB (↑(UInt8.toNat (List.getD (Array.toList (ByteArray.data s)) 0 default)):Int)) (bnF hsb)),bf (!List.all (Array.toList (ByteArray.data s)) anB) (bnF hsc),rp 3 (bf (!ByteArray.toList s==ByteArray.toList (ByteArray.mk #[73,110,116])) (bnF (bsT hx0))),rp 6 (bf false)] func139
end
theorem bcA{s:BA}{i:Nat}(h:i<List.length (s.data.toList)):(0:Int)<=((0:Nat):Int)/\((0:Nat):Int)<=(i:Int)/\(i:Int)<=(s.size:Int):=by
 have:=bzT h; omega
theorem bcB{s:BA}{i:Nat}(h:i<List.length (s.data.toList)):(0:Int)<=(i:Int)+1/\(i:Int)+1<=(s.size:Int)/\(s.size:Int)<=(s.size:Int):=by
 have:=bzT h; omega
def ptI:List UInt8->Nat
 | []=>0
 | c::r=>if ((c.toNat:Nat):Int)=46 then 0 else ptI r+1
abbrev nCu_I(s:BA)(j:Int)(e:Ext):S:=S.mk [(0,vS s),(2,vS nm0),(3,vS nm0),(4,.v (.bool false)),(5,vI6 j)] [] e
inductive nCu_R where
 | e0 (i:Nat)
 | e1
def nCu_f  : List UInt8->Nat->nCu_R
 | [],i=>(nCu_R.e1)
 | el::r,i=>(if (↑(UInt8.toNat el):Int)=46 then (nCu_R.e0 i) else nCu_f  r (i+1))
def nCu_q(s:BA)(e:Ext):nCu_R->PExit × S
 | .e0 i=>(.ret,S.mk [(0,vS s),(2,vS (ByteArray.extract s 0 i)),(3,vS (ByteArray.extract s (i+1) (ByteArray.size s))),(4,.v (.bool true))] [] e)
 | .e1=>(.exit 0,S.mk [(0,vS s),(2,vS nm0),(3,vS nm0),(4,.v (.bool false))] [] e)
theorem nCu_lp(s:BA)(e:Ext)(hN:List.length ((s.data.toList))<=1000000000):(Ob.loop 24 (loopF f137 0) (nCu_I s 0  e) (nCu_q s e (nCu_f  ((s.data.toList)) 0)).1 (nCu_q s e (nCu_f  ((s.data.toList)) 0)).2).ok prog:=by
 refine rng (List.length ((s.data.toList))) (fun j _=>nCu_I s j  e) (fun i _=>nCu_f  (List.drop i ((s.data.toList))) i) (nCu_q s e) (fun i _=>True) kR ?_ () trivial
 rintro i u hi -
 rcases Nat.lt_or_ge i (List.length ((s.data.toList))) with hlt | hge
 ·have hd:=drop_at hlt
  refine t0 ?_;refine tp [kp,dt ((i:Int)<(↑(ByteArray.size s):Int)) (by (apply bzT <;> first | assumption | omega | decide)),am ((0:Int)<=(i:Int)/\(i:Int)<(↑(ByteArray.size s):Int)) (by simp_all [tn1]),xBy s i] ?_;by_cases h0:(↑(UInt8.toNat (List.getD (Array.toList (ByteArray.data s)) i default)):Int)=46
  ·exact tX mdL [et1 h0,am ((0:Int)<=(0:Int)/\(0:Int)<=(i:Int)/\(i:Int)<=(↑(ByteArray.size s):Int)) (by (apply bcA <;> first | assumption | omega | decide)),av (vS (ByteArray.extract s (Int.toNat (0:Int)) (Int.toNat (i:Int)))) (vS (ByteArray.extract s 0 i)) rF,wr ((i:Int)+1),am ((0:Int)<=(i:Int)+1/\(i:Int)+1<=(↑(ByteArray.size s):Int)/\(↑(ByteArray.size s):Int)<=(↑(ByteArray.size s):Int)) (by (apply bcB <;> first | assumption | omega | decide)),av (vS (ByteArray.extract s (Int.toNat ((i:Int)+1)) (Int.toNat (↑(ByteArray.size s):Int)))) (vS (ByteArray.extract s (i+1) (ByteArray.size s))) rF] (nCu_R.e0 i) (by rw [hd,nCu_f,iP h0])
  ·exact tN mdL [en1 h0,wr ((i:Int)+1)] hlt () trivial (by rw [hd,nCu_f,iN h0])
 ·have he:i=List.length ((s.data.toList)):=by omega
  exact lX mdL [kp,df ((i:Int)<(↑(ByteArray.size s):Int)) (by (apply bzF <;> first | assumption | omega | decide))] (nCu_R.e1) (by rw [he,List.drop_length,nCu_f])
theorem nCuL_1(s:BA)(hs:s.size<=1000000000)(hy0:Nat)(hx1:nCu_f (Array.toList (ByteArray.data s)) 0=nCu_R.e0 hy0):Pu 137 [.str s] (.ret (.tup [.str (ByteArray.extract s 0 hy0),.str (ByteArray.extract s (hy0+1) (ByteArray.size s)),.bool true])):=
 pu mdL (fun e=>[lp (S.mk [(0,vS s),(2,vS nm0),(3,vS nm0),(4,.v (.bool false)),(5,vI6 0)] [] e) (rz (nCu_lp (s) (e) (by (apply sz_le <;> first | assumption | omega | decide))) hx1) ⟨⟨W,Wq,Wq,W,W,tVv⟩,trivial,rfl⟩]) func137
theorem nCuL_2(s:BA)(hs:s.size<=1000000000)(hx0:nCu_f (Array.toList (ByteArray.data s)) 0=nCu_R.e1):Pu 137 [.str s] (.ret (.tup [.str s,.str nm0,.bool false])):=
 pu mdL (fun e=>[lp (S.mk [(0,vS s),(2,vS nm0),(3,vS nm0),(4,.v (.bool false)),(5,vI6 0)] [] e) (rz (nCu_lp (s) (e) (by (apply sz_le <;> first | assumption | omega | decide))) hx0) ⟨⟨W,Wq,Wq,W,W,tVv⟩,trivial,rfl⟩]) func137
theorem nTiT(s:BA):Pu 139 [.str s] (.ret (.bool (titleB s))):=by
 unfold titleB
 cases hsa:szB s with
 | false=>exact pm mdL [cl (@nSiT s),rp 5 (bt (!szB s) (bnT hsa)),rp 5 (bt true)] func139
 | true=>
  cases hsb:cpB (s.data.toList.getD 0 default).toNat with
  | false=>exact nTiB s hsa hsb
  | true=>
   cases hsc:s.data.toList.all anB with
   | false=>exact nTiC s hsa hsb hsc
   | true=>
    simp only [Bool.true_and]
    by_cases h1:s=tInt
    ·rw [decide_eq_true h1]; simpa using nTiD_4 s hsa hsb hsc h1
    ·by_cases h2:s=tBool
     ·rw [decide_eq_true h2]; simpa using nTiD_3 s hsa hsb hsc h1 h2
     ·by_cases h3:s=tCell
      ·rw [decide_eq_true h3]; simpa using nTiD_2 s hsa hsb hsc h1 h2 h3
      ·have e:(!decide (s=tInt) && !decide (s=tBool) && !decide (s=tCell) && !decide (s=tFun)) = !(ByteArray.toList s==ByteArray.toList tFun):=by
        rw [decide_eq_false h1,decide_eq_false h2,decide_eq_false h3]
        by_cases h4:s=tFun
        ·rw [decide_eq_true h4,bsT h4]; rfl
        ·rw [decide_eq_false h4,bsF h4]; rfl
       rw [e]
       exact nTiD_1 s hsa hsb hsc h1 h2 h3
theorem nCu_e:∀ (l:List UInt8) (k:Nat),nCu_f l k=if ptI l<l.length then .e0 (k+ptI l) else .e1
 | [],k=>by simp [nCu_f,ptI]
 | c::r,k=>by
  by_cases h:((c.toNat:Nat):Int)=46
  ·simp [nCu_f,ptI,h]
  ·simp only [nCu_f,ptI,h,if_false,nCu_e r (k+1),List.length_cons]
   by_cases h2:ptI r<r.length
   ·rw [iP h2,iP oM]; congr 1; omega
   ·rw [iN h2,iN oM]
abbrev ptS(s:BA):Nat:=ptI s.data.toList
theorem nCuT(s:BA)(hs:s.size<=1000000000)(hx:ptS s<s.size):Pu 137 [.str s] (.ret (.tup [.str (s.extract 0 (ptS s)),.str (s.extract (ptS s+1) s.size),.bool true])):=
 nCuL_1 s hs _ (by rw [nCu_e,iP (by simpa using hx),Nat.zero_add])
theorem nCuF(s:BA)(hs:s.size<=1000000000)(hx:¬ptS s<s.size):Pu 137 [.str s] (.ret (.tup [.str s,.str nm0,.bool false])):=
 nCuL_2 s hs (by rw [nCu_e,iN (by simpa using hx)])
def partB(s:BA):Bool:=szB s&&(s.data.toList.all anB||wordB s.data.toList)
abbrev coI(first rest:BA)(more:Bool)(xe:Ext):S:=⟨[(2,.v (.int .i64 0)),(4,.v (.str rest)),(5,.v (.bool more))],[],xe⟩
section
variable (rest:BA) (xe:Ext)
include rest xe
theorem coZ(cx:Cx)(hcx:cx.n=52){Q:PExit->S->Prop}(hq:Q (.exit 0) (S.mk [(2,vI6 0),(4,vS rest),(5,.v (.bool false))] [] xe)):PW prog cx (loopF f109 0) (coI rest rest false xe) Q:=
 pw mdL 52 [bf false] [2,4,5] [] hcx hq
theorem coT_1(hs:rest.size<=1000000000)(hx:ptS rest<rest.size)(hx0:szB (ByteArray.extract rest 0 (ptS rest))=false)(cx:Cx)(hcx:cx.n=52){Q:PExit->S->Prop}(hq:Q (.ret) (S.mk [(2,vI6 3),(4,vS (ByteArray.extract rest (ptS rest+1) (ByteArray.size rest))),(5,.v (.bool true))] [] xe)):PW prog cx (loopF f109 0) (coI rest rest true xe) Q:=
 pw mdL 52 [bt true,cl (@nCuT rest hs hx),cl (@nSiT (ByteArray.extract rest 0 (ptS rest))),rp 6 (bt1 (bnT hx0)),bt true] [2,4,5] [] hcx hq
theorem coT_2(hs:rest.size<=1000000000)(hx:ptS rest<rest.size)(hx0:szB (ByteArray.extract rest 0 (ptS rest))=true)(hx1:List.all (Array.toList (ByteArray.data (ByteArray.extract rest 0 (ptS rest)))) anB=false)(hx2:wordB (Array.toList (ByteArray.data (ByteArray.extract rest 0 (ptS rest))))=false)(cx:Cx)(hcx:cx.n=52){Q:PExit->S->Prop}(hq:Q (.ret) (S.mk [(2,vI6 3),(4,vS (ByteArray.extract rest (ptS rest+1) (ByteArray.size rest))),(5,.v (.bool true))] [] xe)):PW prog cx (loopF f109 0) (coI rest rest true xe) Q:=
 pw mdL 52 [bt true,cl (@nCuT rest hs hx),cl (@nSiT (ByteArray.extract rest 0 (ptS rest))),rp 2 (bf1 (bnF hx0)),cl (@nAlT (ByteArray.extract rest 0 (ptS rest)) (by (apply szB_s <;> first | assumption | omega | decide))),rp 2 (bf1 (bnF hx0)),rp 2 (bt1 (bnT hx1)),cl (@nWdT (ByteArray.extract rest 0 (ptS rest)) (by (apply szB_s <;> first | assumption | omega | decide))),bt1 (bnT hx1),bf1 (bnF hx0),bt1 (bnT hx1),bf1 (bnF hx0),bt1 (bnT hx2)] [2,4,5] [] hcx hq
theorem coT_3(hs:rest.size<=1000000000)(hx:ptS rest<rest.size)(hx0:szB (ByteArray.extract rest 0 (ptS rest))=true)(hx1:List.all (Array.toList (ByteArray.data (ByteArray.extract rest 0 (ptS rest)))) anB=false)(hx2:wordB (Array.toList (ByteArray.data (ByteArray.extract rest 0 (ptS rest))))=true)(cx:Cx)(hcx:cx.n=52){Q:PExit->S->Prop}(hq:Q (.normal) (S.mk [(2,vI6 0),(4,vS (ByteArray.extract rest (ptS rest+1) (ByteArray.size rest))),(5,.v (.bool true))] [] xe)):PW prog cx (loopF f109 0) (coI rest rest true xe) Q:=
 pw mdL 52 [bt true,cl (@nCuT rest hs hx),cl (@nSiT (ByteArray.extract rest 0 (ptS rest))),rp 2 (bf1 (bnF hx0)),cl (@nAlT (ByteArray.extract rest 0 (ptS rest)) (by (apply szB_s <;> first | assumption | omega | decide))),rp 2 (bf1 (bnF hx0)),rp 2 (bt1 (bnT hx1)),cl (@nWdT (ByteArray.extract rest 0 (ptS rest)) (by (apply szB_s <;> first | assumption | omega | decide))),bt1 (bnT hx1),bf1 (bnF hx0),bt1 (bnT hx1),bf1 (bnF hx0),bf1 (bnF hx2)] [2,4,5] [] hcx hq
theorem coT_4(hs:rest.size<=1000000000)(hx:ptS rest<rest.size)(hx0:szB (ByteArray.extract rest 0 (ptS rest))=true)(hx1:List.all (Array.toList (ByteArray.data (ByteArray.extract rest 0 (ptS rest)))) anB=true)(cx:Cx)(hcx:cx.n=52){Q:PExit->S->Prop}(hq:Q (.normal) (S.mk [(2,vI6 0),(4,vS (ByteArray.extract rest (ptS rest+1) (ByteArray.size rest))),(5,.v (.bool true))] [] xe)):PW prog cx (loopF f109 0) (coI rest rest true xe) Q:=
 pw mdL 52 [bt true,cl (@nCuT rest hs hx),cl (@nSiT (ByteArray.extract rest 0 (ptS rest))),rp 2 (bf1 (bnF hx0)),cl (@nAlT (ByteArray.extract rest 0 (ptS rest)) (by (apply szB_s <;> first | assumption | omega | decide))),rp 2 (bf1 (bnF hx0)),rp 3 (bf1 (bnF hx1)),bf1 (bnF hx0),bf1 (bnF hx1),bf1 (bnF hx0),bf false] [2,4,5] [] hcx hq
theorem coF_1(hs:rest.size<=1000000000)(hx:¬ptS rest<rest.size)(hx0:szB rest=false)(cx:Cx)(hcx:cx.n=52){Q:PExit->S->Prop}(hq:Q (.ret) (S.mk [(2,vI6 3),(4,vS nm0),(5,.v (.bool false))] [] xe)):PW prog cx (loopF f109 0) (coI rest rest true xe) Q:=
 pw mdL 52 [bt true,cl (@nCuF rest hs hx),cl (@nSiT rest),rp 6 (bt1 (bnT hx0)),bt true] [2,4,5] [] hcx hq
theorem coF_2(hs:rest.size<=1000000000)(hx:¬ptS rest<rest.size)(hx0:szB rest=true)(hx1:List.all (Array.toList (ByteArray.data rest)) anB=false)(hx2:wordB (Array.toList (ByteArray.data rest))=false)(cx:Cx)(hcx:cx.n=52){Q:PExit->S->Prop}(hq:Q (.ret) (S.mk [(2,vI6 3),(4,vS nm0),(5,.v (.bool false))] [] xe)):PW prog cx (loopF f109 0) (coI rest rest true xe) Q:=
 pw mdL 52 [bt true,cl (@nCuF rest hs hx),cl (@nSiT rest),rp 2 (bf1 (bnF hx0)),cl (@nAlT rest hs),rp 2 (bf1 (bnF hx0)),rp 2 (bt1 (bnT hx1)),cl (@nWdT rest hs),bt1 (bnT hx1),bf1 (bnF hx0),bt1 (bnT hx1),bf1 (bnF hx0),bt1 (bnT hx2)] [2,4,5] [] hcx hq
theorem coF_3(hs:rest.size<=1000000000)(hx:¬ptS rest<rest.size)(hx0:szB rest=true)(hx1:List.all (Array.toList (ByteArray.data rest)) anB=false)(hx2:wordB (Array.toList (ByteArray.data rest))=true)(cx:Cx)(hcx:cx.n=52){Q:PExit->S->Prop}(hq:Q (.normal) (S.mk [(2,vI6 0),(4,vS nm0),(5,.v (.bool false))] [] xe)):PW prog cx (loopF f109 0) (coI rest rest true xe) Q:=
 pw mdL 52 [bt true,cl (@nCuF rest hs hx),cl (@nSiT rest),rp 2 (bf1 (bnF hx0)),cl (@nAlT rest hs),rp 2 (bf1 (bnF hx0)),rp 2 (bt1 (bnT hx1)),cl (@nWdT rest hs),bt1 (bnT hx1),bf1 (bnF hx0),bt1 (bnT hx1),bf1 (bnF hx0),bf1 (bnF hx2)] [2,4,5] [] hcx hq
theorem coF_4(hs:rest.size<=1000000000)(hx:¬ptS rest<rest.size)(hx0:szB rest=true)(hx1:List.all (Array.toList (ByteArray.data rest)) anB=true)(cx:Cx)(hcx:cx.n=52){Q:PExit->S->Prop}(hq:Q (.normal) (S.mk [(2,vI6 0),(4,vS nm0),(5,.v (.bool false))] [] xe)):PW prog cx (loopF f109 0) (coI rest rest true xe) Q:=
 pw mdL 52 [bt true,cl (@nCuF rest hs hx),cl (@nSiT rest),rp 2 (bf1 (bnF hx0)),cl (@nAlT rest hs),rp 2 (bf1 (bnF hx0)),rp 3 (bf1 (bnF hx1)),bf1 (bnF hx0),bf1 (bnF hx1),bf1 (bnF hx0),bf false] [2,4,5] [] hcx hq
end
def coR:Nat->BA->Bool
 | 0,_=>true
 | n+1,s=>if ptS s<s.size then partB (s.extract 0 (ptS s))&&coR n (s.extract (ptS s+1) s.size) else partB s
theorem ext_lt(s:BA)(h:ptS s<s.size):(s.extract (ptS s+1) s.size).size<s.size:=by rw [ByteArray.size_extract]; omega
theorem coR_fuel:∀ (n m:Nat) (s:BA),s.size<n->s.size<m->coR n s=coR m s
 | 0,_,_,h,_=>by omega
 | _+1,0,_,_,h=>by omega
 | n+1,m+1,s,h,k=>by
  simp only [coR]
  by_cases hx:ptS s<s.size
  ·have:=ext_lt s hx
   rw [iP hx,iP hx,coR_fuel n m _ oM oM]
  ·rw [iN hx,iN hx]
def corG(s:BA):Bool:=coR (s.size+1) s
theorem corG_e(s:BA):corG s=if ptS s<s.size then partB (s.extract 0 (ptS s))&&corG (s.extract (ptS s+1) s.size) else partB s:=by
 unfold corG
 rw [coR]
 by_cases hx:ptS s<s.size
 ·have:=ext_lt s hx
  rw [iP hx,iP hx,coR_fuel _ ((s.extract (ptS s+1) s.size).size+1) _ oM oM]
 ·rw [iN hx,iN hx]
def coQ(xe:Ext)(b:Bool):PExit × S:=if b=true then (.exit 0,⟨[(2,.v (.int .i64 0))],[],xe⟩) else (.ret,⟨[(2,.v (.int .i64 3))],[],xe⟩)
def coM(x:BA × Bool):Bool:=if x.2=true then corG x.1 else true
theorem co_lp(xe:Ext)(rest:BA)(more:Bool)(hs:rest.size<=1000000000):(Ob.loop 52 (loopF f109 0) (coI rest rest more xe) (coQ xe (coM (rest,more))).1 (coQ xe (coM (rest,more))).2).ok prog:=by
 refine Ob.loop_of (P:=prog) (α:={ x:BA × Bool // x.1.size<=1000000000 }) (fun x=>coI x.1.1 x.1.1 x.1.2 xe) (fun x=>if x.1.2=true then x.1.1.size+1 else 0) (fun x=>coQ xe (coM x.1)) ?_ ⟨(rest,more),hs⟩
 clear hs more rest
 rintro ⟨⟨rest,more⟩,hs⟩ cx hcx
 replace hs:rest.size<=1000000000:=hs
 have W1:∀ (r:BA) (b:Bool),LeX (⟨[(2,.v (.int .i64 3))],[],xe⟩:S) ⟨[(2,.v (.int .i64 3)),(4,.v (.str r)),(5,.v (.bool b))],[],xe⟩:=fun r b=>⟨⟨W,tVv⟩,trivial,rfl⟩
 cases more with
 | false=>
  have hr:coQ xe (coM (rest,false))=(.exit 0,⟨[(2,.v (.int .i64 0))],[],xe⟩):=rfl
  refine coZ rest xe cx hcx (.inr ?_)
  simp only
  rw [hr]
  exact ⟨by simp,rfl,xr⟩
 | true=>
  have hm:coM (rest,true)=corG rest:=rfl
  by_cases hx:ptS rest<rest.size
  ·have hlt:=ext_lt rest hx
   have hg:=corG_e rest
   rw [iP hx] at hg
   have bad:partB (rest.extract 0 (ptS rest))=false->coQ xe (coM (rest,true))=(.ret,⟨[(2,.v (.int .i64 3))],[],xe⟩):=fun h=>by rw [hm,hg,h]; rfl
   have good:partB (rest.extract 0 (ptS rest))=true->coQ xe (coM (rest,true))=coQ xe (coM (rest.extract (ptS rest+1) rest.size,true)):=fun h=>by rw [hm,hg,h]; rfl
   cases h0:szB (rest.extract 0 (ptS rest)) with
   | false=>
    refine coT_1 rest xe hs hx h0 cx hcx (.inr ?_)
    simp only
    rw [bad (by simp [partB,h0])]
    exact ⟨by simp,rfl,W1 _ _⟩
   | true=>
    cases h1:(rest.extract 0 (ptS rest)).data.toList.all anB with
    | true=>exact coT_4 rest xe hs hx h0 h1 cx hcx (.inl ⟨rfl,⟨(rest.extract (ptS rest+1) rest.size,true),by simp only; omega⟩,by simp only [if_true]; omega,⟨⟨W,W,W,tVv⟩,trivial,rfl⟩,(good (by simp only [partB,h0,h1]; rfl)).symm⟩)
    | false=>
     cases h2:wordB (rest.extract 0 (ptS rest)).data.toList with
     | true=>exact coT_3 rest xe hs hx h0 h1 h2 cx hcx (.inl ⟨rfl,⟨(rest.extract (ptS rest+1) rest.size,true),by simp only; omega⟩,by simp only [if_true]; omega,⟨⟨W,W,W,tVv⟩,trivial,rfl⟩,(good (by simp only [partB,h0,h1,h2]; rfl)).symm⟩)
     | false=>
      refine coT_2 rest xe hs hx h0 h1 h2 cx hcx (.inr ?_)
      simp only
      rw [bad (by simp only [partB,h0,h1,h2]; rfl)]
      exact ⟨by simp,rfl,W1 _ _⟩
  ·have hg:=corG_e rest
   rw [iN hx] at hg
   have bad:partB rest=false->coQ xe (coM (rest,true))=(.ret,⟨[(2,.v (.int .i64 3))],[],xe⟩):=fun h=>by rw [hm,hg,h]; rfl
   have good:partB rest=true->coQ xe (coM (rest,true))=coQ xe (coM (nm0,false)):=fun h=>by rw [hm,hg,h]; rfl
   cases h0:szB rest with
   | false=>
    refine coF_1 rest xe hs hx h0 cx hcx (.inr ?_)
    simp only
    rw [bad (by simp [partB,h0])]
    exact ⟨by simp,rfl,W1 _ _⟩
   | true=>
    cases h1:rest.data.toList.all anB with
    | true=>exact coF_4 rest xe hs hx h0 h1 cx hcx (.inl ⟨rfl,⟨(nm0,false),by decide⟩,by simp,⟨⟨W,W,W,tVv⟩,trivial,rfl⟩,(good (by simp only [partB,h0,h1]; rfl)).symm⟩)
    | false=>
     cases h2:wordB rest.data.toList with
     | true=>exact coF_3 rest xe hs hx h0 h1 h2 cx hcx (.inl ⟨rfl,⟨(nm0,false),by decide⟩,by simp,⟨⟨W,W,W,tVv⟩,trivial,rfl⟩,(good (by simp only [partB,h0,h1,h2]; rfl)).symm⟩)
     | false=>
      refine coF_2 rest xe hs hx h0 h1 h2 cx hcx (.inr ?_)
      simp only
      rw [bad (by simp only [partB,h0,h1,h2]; rfl)]
      exact ⟨by simp,rfl,W1 _ _⟩
theorem co_T(xe:Ext)(rest:BA)(more:Bool)(hs:rest.size<=1000000000)(hb:coM (rest,more)=true):(Ob.loop 52 (loopF f109 0) (coI rest rest more xe) (.exit 0) ⟨[(2,.v (.int .i64 0))],[],xe⟩).ok prog:=by
 have:=co_lp xe rest more hs
 rw [hb] at this
 exact this
theorem co_F(xe:Ext)(rest:BA)(more:Bool)(hs:rest.size<=1000000000)(hb:coM (rest,more)=false):(Ob.loop 52 (loopF f109 0) (coI rest rest more xe) .ret ⟨[(2,.v (.int .i64 3))],[],xe⟩).ok prog:=by
 have:=co_lp xe rest more hs
 rw [hb] at this
 exact this
theorem ex_le{s:BA}{a b:Nat}(h:(s.size:Int)<=120):(s.extract a b).size<=1000000000:=by rw [ByteArray.size_extract]; omega
theorem s_le{s:BA}(h:(s.size:Int)<=120):s.size<=1000000000:=by omega
abbrev tV:BA:=⟨#[118]⟩
section
variable (s:BA)
include s
theorem nCoA(hl:(s.size:Int)>120):Pu 109 [.str s] (rI 3):=
 pm mdL [kp,dt ((↑(ByteArray.size s):Int)>120) hl] func109
theorem nCoB_1(hl:(s.size:Int)<=120)(hx:ptS s<s.size)(hx0:nameB (ByteArray.extract s 0 (ptS s))=false)(hx1:titleB (ByteArray.extract s 0 (ptS s))=false)(hx2:¬ByteArray.extract s 0 (ptS s)=ByteArray.mk #[118]):Pu 109 [.str s] (rI 3):=
 pm mdL [kp,df ((↑(ByteArray.size s):Int)>120),cl (@nCuT s oM hx),cl (@nNmT (ByteArray.extract s 0 (ptS s))),rp 2 (bt1 (bnT hx0)),cl (@nTiT (ByteArray.extract s 0 (ptS s))),rp 2 (bt1 (bnT hx0)),rp 3 (bt1 (bnT hx1)),rp 2 (bt (!ByteArray.toList (ByteArray.extract s 0 (ptS s))==ByteArray.toList (bM 118)) (bnT (bsF hx2))),bt1 (bnT hx1),bt (!ByteArray.toList (ByteArray.extract s 0 (ptS s))==ByteArray.toList (bM 118)) (bnT (bsF hx2)),bt1 (bnT hx1),bt true] func109
theorem nCoB_2(hl:(s.size:Int)<=120)(hx:ptS s<s.size)(hx0:nameB (ByteArray.extract s 0 (ptS s))=false)(hx1:titleB (ByteArray.extract s 0 (ptS s))=false)(hx2:ByteArray.extract s 0 (ptS s)=ByteArray.mk #[118])(hx3:coM (ByteArray.extract s (ptS s+1) (ByteArray.size s),true)=true):Pu 109 [.str s] (rI 0):=
 pu mdL (fun e=>[kp,df ((↑(ByteArray.size s):Int)>120),cl (@nCuT s oM hx),cl (@nNmT (ByteArray.extract s 0 (ptS s))),rp 2 (bt1 (bnT hx0)),cl (@nTiT (ByteArray.extract s 0 (ptS s))),rp 2 (bt1 (bnT hx0)),rp 3 (bt1 (bnT hx1)),rp 2 (bf (!ByteArray.toList (ByteArray.extract s 0 (ptS s))==ByteArray.toList (bM 118)) (bnF (bsT hx2))),bt1 (bnT hx1),bf (!ByteArray.toList (ByteArray.extract s 0 (ptS s))==ByteArray.toList (bM 118)) (bnF (bsT hx2)),bt1 (bnT hx1),bf false,lq (@co_T e (ByteArray.extract s (ptS s+1) (ByteArray.size s)) true (by (apply ex_le <;> first | assumption | omega | decide)) hx3)]) func109
theorem nCoB_3(hl:(s.size:Int)<=120)(hx:ptS s<s.size)(hx0:nameB (ByteArray.extract s 0 (ptS s))=false)(hx1:titleB (ByteArray.extract s 0 (ptS s))=false)(hx2:ByteArray.extract s 0 (ptS s)=ByteArray.mk #[118])(hx3:coM (ByteArray.extract s (ptS s+1) (ByteArray.size s),true)=false):Pu 109 [.str s] (rI 3):=
 pu mdL (fun e=>[kp,df ((↑(ByteArray.size s):Int)>120),cl (@nCuT s oM hx),cl (@nNmT (ByteArray.extract s 0 (ptS s))),rp 2 (bt1 (bnT hx0)),cl (@nTiT (ByteArray.extract s 0 (ptS s))),rp 2 (bt1 (bnT hx0)),rp 3 (bt1 (bnT hx1)),rp 2 (bf (!ByteArray.toList (ByteArray.extract s 0 (ptS s))==ByteArray.toList (bM 118)) (bnF (bsT hx2))),bt1 (bnT hx1),bf (!ByteArray.toList (ByteArray.extract s 0 (ptS s))==ByteArray.toList (bM 118)) (bnF (bsT hx2)),bt1 (bnT hx1),bf false,lq (@co_F e (ByteArray.extract s (ptS s+1) (ByteArray.size s)) true (by (apply ex_le <;> first | assumption | omega | decide)) hx3)]) func109
theorem nCoB_4(hl:(s.size:Int)<=120)(hx:ptS s<s.size)(hx0:nameB (ByteArray.extract s 0 (ptS s))=false)(hx1:titleB (ByteArray.extract s 0 (ptS s))=true)(hx2:coM (ByteArray.extract s (ptS s+1) (ByteArray.size s),true)=true):Pu 109 [.str s] (rI 0):=
 pu mdL (fun e=>[kp,df ((↑(ByteArray.size s):Int)>120),cl (@nCuT s oM hx),cl (@nNmT (ByteArray.extract s 0 (ptS s))),rp 2 (bt1 (bnT hx0)),cl (@nTiT (ByteArray.extract s 0 (ptS s))),rp 2 (bt1 (bnT hx0)),rp 5 (bf1 (bnF hx1)),bf false,lq (@co_T e (ByteArray.extract s (ptS s+1) (ByteArray.size s)) true (by (apply ex_le <;> first | assumption | omega | decide)) hx2)]) func109
theorem nCoB_5(hl:(s.size:Int)<=120)(hx:ptS s<s.size)(hx0:nameB (ByteArray.extract s 0 (ptS s))=false)(hx1:titleB (ByteArray.extract s 0 (ptS s))=true)(hx2:coM (ByteArray.extract s (ptS s+1) (ByteArray.size s),true)=false):Pu 109 [.str s] (rI 3):=
 pu mdL (fun e=>[kp,df ((↑(ByteArray.size s):Int)>120),cl (@nCuT s oM hx),cl (@nNmT (ByteArray.extract s 0 (ptS s))),rp 2 (bt1 (bnT hx0)),cl (@nTiT (ByteArray.extract s 0 (ptS s))),rp 2 (bt1 (bnT hx0)),rp 5 (bf1 (bnF hx1)),bf false,lq (@co_F e (ByteArray.extract s (ptS s+1) (ByteArray.size s)) true (by (apply ex_le <;> first | assumption | omega | decide)) hx2)]) func109
theorem nCoB_6(hl:(s.size:Int)<=120)(hx:ptS s<s.size)(hx0:nameB (ByteArray.extract s 0 (ptS s))=true)(hx1:coM (ByteArray.extract s (ptS s+1) (ByteArray.size s),true)=true):Pu 109 [.str s] (rI 0):=
 pu mdL (fun e=>[kp,df ((↑(ByteArray.size s):Int)>120),cl (@nCuT s oM hx),cl (@nNmT (ByteArray.extract s 0 (ptS s))),rp 4 (bf1 (bnF hx0)),rp 6 (bf false),lq (@co_T e (ByteArray.extract s (ptS s+1) (ByteArray.size s)) true (by (apply ex_le <;> first | assumption | omega | decide)) hx1)]) func109
theorem nCoB_7(hl:(s.size:Int)<=120)(hx:ptS s<s.size)(hx0:nameB (ByteArray.extract s 0 (ptS s))=true)(hx1:coM (ByteArray.extract s (ptS s+1) (ByteArray.size s),true)=false):Pu 109 [.str s] (rI 3):=
 pu mdL (fun e=>[kp,df ((↑(ByteArray.size s):Int)>120),cl (@nCuT s oM hx),cl (@nNmT (ByteArray.extract s 0 (ptS s))),rp 4 (bf1 (bnF hx0)),rp 6 (bf false),lq (@co_F e (ByteArray.extract s (ptS s+1) (ByteArray.size s)) true (by (apply ex_le <;> first | assumption | omega | decide)) hx1)]) func109
theorem nCoC_1(hl:(s.size:Int)<=120)(hx:¬ptS s<s.size)(hx0:nameB s=false)(hx1:titleB s=false)(hx2:¬s=ByteArray.mk #[118]):Pu 109 [.str s] (rI 3):=
 pm mdL [kp,df ((↑(ByteArray.size s):Int)>120),cl (@nCuF s oM hx),cl (@nNmT s),rp 2 (bt1 (bnT hx0)),cl (@nTiT s),rp 2 (bt1 (bnT hx0)),rp 3 (bt1 (bnT hx1)),rp 2 (bt (!ByteArray.toList s==ByteArray.toList (bM 118)) (bnT (bsF hx2))),bt1 (bnT hx1),bt (!ByteArray.toList s==ByteArray.toList (bM 118)) (bnT (bsF hx2)),bt1 (bnT hx1),bt true] func109
theorem nCoC_2(hl:(s.size:Int)<=120)(hx:¬ptS s<s.size)(hx0:nameB s=false)(hx1:titleB s=false)(hx2:s=ByteArray.mk #[118]):Pu 109 [.str s] (rI 3):=
 pm mdL [kp,df ((↑(ByteArray.size s):Int)>120),cl (@nCuF s oM hx),cl (@nNmT s),rp 2 (bt1 (bnT hx0)),cl (@nTiT s),rp 2 (bt1 (bnT hx0)),rp 3 (bt1 (bnT hx1)),rp 2 (bf (!ByteArray.toList s==ByteArray.toList (bM 118)) (bnF (bsT hx2))),bt1 (bnT hx1),bf (!ByteArray.toList s==ByteArray.toList (bM 118)) (bnF (bsT hx2)),bt1 (bnT hx1),bt true] func109
theorem nCoC_3(hl:(s.size:Int)<=120)(hx:¬ptS s<s.size)(hx0:nameB s=false)(hx1:titleB s=true):Pu 109 [.str s] (rI 0):=
 pu mdL (fun e=>[kp,df ((↑(ByteArray.size s):Int)>120),cl (@nCuF s oM hx),cl (@nNmT s),rp 2 (bt1 (bnT hx0)),cl (@nTiT s),rp 2 (bt1 (bnT hx0)),rp 5 (bf1 (bnF hx1)),bf false,lq (@co_T e nm0 false (by (apply s_le <;> first | assumption | omega | decide)) rF)]) func109
theorem nCoC_4(hl:(s.size:Int)<=120)(hx:¬ptS s<s.size)(hx0:nameB s=true):Pu 109 [.str s] (rI 0):=
 pu mdL (fun e=>[kp,df ((↑(ByteArray.size s):Int)>120),cl (@nCuF s oM hx),cl (@nNmT s),rp 4 (bf1 (bnF hx0)),rp 6 (bf false),lq (@co_T e nm0 false (by (apply s_le <;> first | assumption | omega | decide)) rF)]) func109
end
def mdW:Md:=⟨fun _=>some false,fun _=>false⟩
def mks:List BA->List (BA × PV)
 | []=>[]
 | k::r=>(k,.bool true)::mks r
def memB(s:BA):List BA->Bool
 | []=>false
 | k::r=>decide (k=s)||memB s r
theorem mget_mks(s:BA):∀ks,(mget s (mks ks)).getD (.bool false) = .bool (memB s ks)
 | []=>rfl
 | k::r=>by
  by_cases h:k=s
  ·simp [mks,mget,memB,h]
  ·simp only [mks,mget,memB,h,if_false,decide_false,Bool.false_or]; exact mget_mks s r
def adN(s:BA):List BA->List BA
 | []=>[s]
 | k::r=>if k=s then k::r else k::adN s r
theorem mks_ad(s:BA):∀ks,mks (adN s ks)=mupd s (.bool true) (mks ks)
 | []=>rfl
 | k::r=>by
  by_cases h:k=s
  ·subst h; simp [adN,mks,mupd]
  ·simp only [adN,mks,mupd,h,if_false,mks_ad s r]
theorem lu_mks(s:BA)(ks:List BA):luRes false (mget s (mks ks)) (.bool false) = .bool (memB s ks):=mget_mks s ks
open Go.RowKit Go.Shelf Go.Pv
attribute [local go_sem] Oper.semAt_some
set_option maxRecDepth 100000
structure KC (W W':World):Prop where
 size:W.heap.size<=W'.heap.size
 same:∀ (k:Nat) (o:Obj),W.heap[k]?=some o->o.isCells=true->W'.heap[k]?=some o
theorem KC.refl(W:World):KC W W:=⟨Nat.le_refl _,fun _ _ h _=>h⟩
theorem KC.trans{A B C:World}(h:KC A B)(k:KC B C):KC A C:=⟨Nat.le_trans h.size k.size,fun i o hi ho=>k.same i o (h.same i o hi ho) ho⟩
theorem KC.cell{A B:World}(h:KC A B){a:Addr}{v:Value}(hc:A.cell? a=some v):B.cell? a=some v:=by
 unfold World.cell? at hc ⊢
 cases hh:A.heap[a.block]? with
 | none=>simp [hh] at hc
 | some o=>
  cases o with
  | cells cur e m=>rw [h.same _ _ hh rfl]; rw [hh] at hc; exact hc
  | _=>simp [hh] at hc
mutual
/-- The nodes of a predicate,each before its kids' nodes. -/
def nodesP:Pr->List Pr
 | .mk o s n ks => .mk o s n ks::nodesPs ks
def nodesPs:List Pr->List Pr
 | []=>[]
 | x::r=>nodesP x++nodesPs r
end
theorem nodesP_e(p:Pr):nodesP p=p::nodesPs (prK p):=by cases p; simp [nodesP,prK]
abbrev encP(p:Pr)(kv:Value):Value := .agg #[.int .i64 (prO p),.string (prNm p),.int .i64 (prN p),kv]
theorem KC.alloc{A W:World}(h:KC A W)(o:Obj):KC A (W.alloc o):=⟨Nat.le_trans h.size (by simp),fun k o' hk hc=>by
 have h1:=h.same k o' hk hc
 exact (Below.heap_alloc _ _ _ (Array.getElem?_eq_some_iff.1 h1).1).trans h1⟩
theorem cell_new3(W:World)(v0 v1 v2 v3:Value):(W.alloc (.cells #[v0,v1,v2,v3] 46)).cell? ⟨W.heap.size,3,none⟩=some v3:=by
 unfold World.cell?
 rw [World.alloc_heap_new W (.cells #[v0,v1,v2,v3] 46)]
 rfl
abbrev Nd(g:Gh)(W0:World):Type:={ x:Pr × Option Addr × Nat × Nat // Rep g W0 (.sl 4 (Pr.cs (prK x.1))) (.slice x.2.1 x.2.2.1 x.2.2.2) }
abbrev Nd.enc{g:Gh}{W0:World}(x:Nd g W0):Value:=encP x.1.1 (.slice x.1.2.1 x.1.2.2.1 x.1.2.2.2)
theorem spotN{W:World}{a:Addr}{v:Value}(h:W.cell? a=some v):a=⟨a.block,a.off,none⟩:=by
 have:=spot_of_cell h
 cases a; simp only at this; subst this; rfl
theorem sl_val{g:Gh}{w:World}{z:Nat}{es:List (List PV)}{v:Value}(h:Rep g w (.sl z es) v):∃oa m c,v = .slice oa m c:=by
 cases h with
 | slnil=>exact ⟨none,0,0,rfl⟩
 | sl _ _ a cap _ _ _ _ _ _ _ _=>exact ⟨some a,_,cap,rfl⟩
theorem kids_inv{g:Gh}{W0:World}(x:Nd g W0):(prK x.1.1=[]/\x.1.2.2.1=0) ∨
  ∃b off,x.1.2.1=some ⟨b,off,none⟩/\x.1.2.2.1=(prK x.1.1).length/\0<(prK x.1.1).length/\(prK x.1.1).length<=9223372036854775807 /\
   ∀i,i<(prK x.1.1).length->∃y:Nd g W0,y.1.1=(prK x.1.1).getD i default/\W0.cell? ⟨b,off+i * 4,none⟩=some (.int .i64 (prO y.1.1))/\W0.cell? ⟨b,off+i * 4+1,none⟩=some (.string (prNm y.1.1)) /\
    W0.cell? ⟨b,off+i * 4+2,none⟩=some (.int .i64 (prN y.1.1))/\W0.cell? ⟨b,off+i * 4+3,none⟩=some (.slice y.1.2.1 y.1.2.2.1 y.1.2.2.2):=by
 obtain ⟨⟨p,oa,m,c⟩,h⟩:=x
 simp only at h ⊢
 generalize he:Pr.cs (prK p)=es at h
 generalize hv:Value.slice oa m c=v at h
 have hl:es.length=(prK p).length:=by rw [<-he,Pr.cs_len]
 cases h with
 | slnil=>
  injection hv with e1 e2 e3
  exact .inl ⟨List.eq_nil_of_length_eq_zero (by rw [<-hl]; rfl),e2⟩
 | sl _ _ a cap vs hle hcap hsz hc hf h1 hr=>
  injection hv with e1 e2 e3
  by_cases h0:(prK p).length=0
  ·exact .inl ⟨List.eq_nil_of_length_eq_zero h0,by omega⟩
  ·have c00:=spotN (hc 0 0 (by omega) (by omega))
   have ha:a=⟨a.block,a.off,none⟩:=by
    have h:=spot_of_cell (hc 0 0 (by omega) (by omega))
    cases a with
    | mk b o sp=>
     simp only [Addr.add] at h ⊢
     split at h <;> simp_all
   refine .inr ⟨a.block,a.off,by rw [e1,<-ha],by omega,by omega,Nat.le_trans (by omega) (Nat.le_trans hcap (by decide)),fun i hi=>?_⟩
   have hie:i<es.length:=by omega
   have hrow:es[i]=prL ((prK p).getD i default):=by
    have:=Pr.cs_at hi
    rw [he] at this
    rw [<-this]
    simp [List.getD,hie]
   have hat:∀j,a.add (i * 4+j)=⟨a.block,a.off+i * 4+j,none⟩:=fun j=>by
    rw [ha]; simp only [Addr.add]; simp [Nat.add_assoc]
   have hrr:∀j (hj:j<es[i].length),Rep g W0 es[i][j] (vs i j):=fun j hj=>hr i j hie hj
   have hlen:es[i].length=4:=hsz i hie
   have r0:Rep g W0 (.int .i64 (prO ((prK p).getD i default))) (vs i 0):=by have:=hrr 0 (by omega); simpa only [hrow,prL,List.getElem_cons_zero] using this
   have r1:Rep g W0 (.str (prNm ((prK p).getD i default))) (vs i 1):=by have:=hrr 1 (by omega); simpa only [hrow,prL,List.getElem_cons_zero,List.getElem_cons_succ] using this
   have r2:Rep g W0 (.int .i64 (prN ((prK p).getD i default))) (vs i 2):=by have:=hrr 2 (by omega); simpa only [hrow,prL,List.getElem_cons_zero,List.getElem_cons_succ] using this
   have r3:Rep g W0 (.sl 4 (Pr.cs (prK ((prK p).getD i default)))) (vs i 3):=by have:=hrr 3 (by omega); simpa only [hrow,prL,List.getElem_cons_zero,List.getElem_cons_succ] using this
   obtain ⟨oa',m',c',e'⟩:=sl_val r3
   have v0:vs i 0 = .int .i64 (prO ((prK p).getD i default)):=by generalize vs i 0=u at r0; cases r0; rfl
   have v1:vs i 1 = .string (prNm ((prK p).getD i default)):=by generalize vs i 1=u at r1; cases r1; rfl
   have v2:vs i 2 = .int .i64 (prN ((prK p).getD i default)):=by generalize vs i 2=u at r2; cases r2; rfl
   refine ⟨⟨⟨(prK p).getD i default,oa',m',c'⟩,by rw [e'] at r3; exact r3⟩,rfl,?_,?_,?_,?_⟩
   ·have:=hc i 0 hie (by omega); rw [hat,v0] at this; exact this
   ·have:=hc i 1 hie (by omega); rw [hat,v1] at this; exact this
   ·have:=hc i 2 hie (by omega); rw [hat,v2] at this; exact this
   ·have:=hc i 3 hie (by omega); rw [hat,e'] at this; exact this
theorem nodesPs_app:∀a b:List Pr,nodesPs (a++b)=nodesPs a++nodesPs b
 | [],b=>rfl
 | x::r,b=>by simp [nodesPs,nodesPs_app r b]
theorem nodesPs_take{ks:List Pr}{k:Nat}(h:k<ks.length):nodesPs (ks.take (k+1))=nodesPs (ks.take k)++nodesP (ks.getD k default):=by
 rw [List.take_add_one,nodesPs_app]
 simp [List.getD,h,nodesPs]
theorem nodesPs_le{ks:List Pr}{k:Nat}(h:k<ks.length):(nodesPs (ks.take k)).length+(nodesP (ks.getD k default)).length<=(nodesPs ks).length:=by
 have h1:nodesPs ks=nodesPs (ks.take (k+1))++nodesPs (ks.drop (k+1)):=by rw [<-nodesPs_app,List.take_append_drop]
 rw [h1,nodesPs_take h]
 simp only [List.length_append]
 omega
theorem nodesPs_pre{ks:List Pr}{k:Nat}(h:k<ks.length){q:List Pr}(hq:q <+: nodesP (ks.getD k default)):nodesPs (ks.take k)++q <+: nodesPs ks:=by
 have h1:nodesPs ks=nodesPs (ks.take (k+1))++nodesPs (ks.drop (k+1)):=by rw [<-nodesPs_app,List.take_append_drop]
 obtain ⟨r,hr⟩:=hq
 rw [h1,nodesPs_take h,<-hr]
 exact ⟨r++nodesPs (ks.drop (k+1)),by simp [List.append_assoc]⟩
abbrev YR{g:Gh}{W0:World}(J Jx:List (Nd g W0)->World->Prop)(pre:List (Nd g W0))(x:Nd g W0)(W:World)(e:Ending)(W':World):Prop:=
 (e = .returned (.bool true)/\J (pre++[x]) W'/\KC W W')∨(e = .returned (.bool false)/\Jx (pre++[x]) W')
set_option maxHeartbeats 2000000 in
theorem visit_in(F:Fence)(hd:F.depth=none)(h143:F.fn 105)(hro:F.round=none)(g:Gh)(W0:World)(l N:Nat)(J Jx:List (Nd g W0)->World->Prop)
  (hJ:∀s W W',J s W->W.grownBy W' none->J s W')
  (hY:∀m pre (x:Nd g W0) W,J pre W->pre.length<N->YieldAt F m Tryz.prog l #[x.enc] W (YR J Jx pre x W)) :
  ∀ (d:Nat) (x:Nd g W0) (n:Nat) (pre:List (Nd g W0)) (W:World),(nodesP x.1.1).length<=d->KC W0 W->J pre W->pre.length+(nodesP x.1.1).length<=N ->
   CallsIn F n Tryz.prog 105 #[x.enc,.func (.yield l) #[] #[]] W fun e W'=>
    (e = .returned (.bool true)/\(∃ys:List (Nd g W0),ys.map (·.1.1)=nodesP x.1.1/\J (pre++ys) W')/\KC W W') ∨
    (e = .returned (.bool false)/\∃ys:List (Nd g W0),ys.map (·.1.1) <+: nodesP x.1.1/\Jx (pre++ys) W'):=by
 intro d
 induction d with
 | zero=>intro x n pre W h; rw [nodesP_e] at h; simp at h
 | succ d ih=>
 intro x n pre W hlen hk0 hJ0 hN
 have hnd:(nodesPs (prK x.1.1)).length<=d:=by rw [nodesP_e] at hlen; simp at hlen; omega
 have hNs:pre.length+1+(nodesPs (prK x.1.1)).length<=N:=by rw [nodesP_e] at hN; simp at hN; omega
 have hpre1:∀q,q <+: nodesPs (prK x.1.1)->x.1.1::q <+: nodesP x.1.1:=fun q hq=>by rw [nodesP_e]; exact (List.prefix_cons_inj _).2 hq
 have hall:x.1.1::nodesPs (prK x.1.1)=nodesP x.1.1:=(nodesP_e _).symm
 have hkids:=kids_inv x
 have hY0:=fun m W=>hY m pre x W
 obtain ⟨p,oa,len,cap,hx⟩:∃p oa len cap,x.1=(p,oa,len,cap):=⟨_,_,_,_,rfl⟩
 simp only [Nd.enc] at hY0 ⊢
 rw [hx] at hlen hnd hNs hpre1 hall hkids hY0 hN ⊢
 simp only at hlen hnd hNs hpre1 hall hkids hY0 hN ⊢
 refine callsIn_of_wp Tryz.func105 rfl h143 ?_ hro
 simp only [Tryz.ntmps105,List.size_toArray,List.length_cons,List.length_nil,Nat.reduceAdd,Nat.reduceSub,Array.replicate_succ,Array.replicate_zero,List.push_toArray,List.append_toArray,List.nil_append,List.cons_append]
 have hdd:∀k:Nat,(F.depth.isSome=true->1<=k):=fun k h=>by rw [hd] at h; cases h
 have hJ1:J pre (W.alloc (.cells #[.int .i64 (prO p),.string (prNm p),.int .i64 (prN p),.slice oa len cap] 46)):=hJ _ _ _ hJ0 (World.grownBy_alloc W _ none)
 obtain ⟨fn,tmps,assign,body,hy,hR⟩:=hY0 (n - 1) _ hJ1 (by rw [nodesP_e] at hN; simp at hN; omega)
 have hR':=hR.mono (R':=fun e W2=>(e = .returned (.bool true)/\J (pre++[x]) W2/\KC W W2/\W2.cell? ⟨W.heap.size,3,none⟩=some (.slice oa len cap))∨(e = .returned (.bool false)/\Jx (pre++[x]) W2))
  (fun e W2 h=>h.elim (fun ⟨he,hj,hk⟩ => .inl ⟨he,hj,((KC.refl W).alloc _).trans hk,hk.cell (cell_new3 _ _ _ _ _)⟩) .inr)
 clear hR hY hY0
 gi_wp2_with ((try refine ⟨hdd _,?_⟩); refine hR'.mono ?_; clear hR'; rintro e W2 (⟨rfl,hj2,hk,hc⟩ | ⟨rfl,hx9⟩))
 ·rcases hkids with ⟨hnil,rfl⟩ | ⟨b,off,rfl,rfl,hpos,hmax,hcs⟩
  ·gi_loopw [14] (fun i wr=>i = .int .i64 0/\KC W wr/\J (pre++[x]) wr) (fun _ _=>0)
   case atStart=>exact ⟨rfl,hk,hj2⟩
   case round=>
    obtain ⟨rfl,hkc,hjy⟩:=hrel
    gi_wp2
    go_ret
    exact .inl ⟨rfl,⟨[x],by simp only [List.map_cons,List.map_nil,hx]; rw [hnil] at hall; exact hall,hjy⟩,hkc⟩
  ·gi_loopw [14] (fun i wr=>∃ (k:Nat) (ys:List (Nd g W0)),k<=(prK p).length/\i = .int .i64 k/\KC W wr/\ys.map (·.1.1)=nodesPs ((prK p).take k)/\J (pre++x::ys) wr) (fun i _=>(prK p).length - (intOf i).toNat)
   case atStart=>exact ⟨0,[],Nat.zero_le _,rfl,hk,rfl,hj2⟩
   case round=>
    obtain ⟨k,ys,hkl,rfl,hkc,hys,hjy⟩:=hrel
    by_cases hlt:k<(prK p).length
    ·obtain ⟨y,hy1,c0,c1,c2,c3⟩:=hcs k hlt
     have d0:=(hk0.trans hkc).cell c0
     have d1:=(hk0.trans hkc).cell c1
     have d2:=(hk0.trans hkc).cell c2
     have d3:=(hk0.trans hkc).cell c3
     have hle:=nodesPs_le hlt
     have htk:=nodesPs_take hlt
     have hpr:=fun q (hq:q <+: nodesP ((prK p).getD k default))=>nodesPs_pre hlt hq
     rw [<-hy1] at hle htk hpr
     have hyl:ys.length=(nodesPs ((prK p).take k)).length:=by rw [<-hys,List.length_map]
     have hcall:=ih y (n - 1) (pre++x::ys) (wr.alloc (.cells #[.int .i64 (prO y.1.1),.string (prNm y.1.1),.int .i64 (prN y.1.1),.slice y.1.2.1 y.1.2.2.1 y.1.2.2.2] 46)) (by omega) ((hk0.trans hkc).alloc _) (hJ _ _ _ hjy (World.grownBy_alloc _ _ none))
      (by simp only [List.length_append,List.length_cons]; omega)
     clear ih hcs hy1
     simp only [Nd.enc] at hcall
     obtain ⟨q,oa',m',c',hyx⟩:∃q oa' m' c',y.1=(q,oa',m',c'):=⟨_,_,_,_,rfl⟩
     rw [hyx] at hcall d0 d1 d2 d3 htk hpr hle
     simp only at hcall d0 d1 d2 d3 htk hpr hle
     clear hyx c0 c1 c2 c3
     gi_wp2_with ((try refine ⟨hdd _,?_⟩); gi_at_call 105; refine hcall.mono ?_; clear hcall; rintro e W3 (⟨rfl,⟨zs,hzs,hjz⟩,hk3⟩ | ⟨rfl,zs,hzs,hxz⟩))
     ·go_roundw
      case rel=>exact ⟨k+1,ys++zs,hlt,by simp,(hkc.alloc _).trans hk3,by rw [List.map_append,hys,hzs,htk],by rw [<-List.cons_append,<-List.append_assoc]; exact hjz⟩
      case measure=>simp [intOf]; omega
     ·go_ret
      exact .inr ⟨rfl,x::(ys++zs),by simp only [List.map_cons,List.map_append,hys,hx]; exact hpre1 _ (hpr _ hzs),by rw [<-List.cons_append,<-List.append_assoc]; exact hxz⟩
    ·obtain rfl:k=(prK p).length:=by omega
     gi_wp2
     go_ret
     exact .inl ⟨rfl,⟨x::ys,by simp only [List.map_cons,hys,hx,List.take_length]; exact hall,hjy⟩,hkc⟩
 ·go_ret
  exact .inr ⟨rfl,[x],by simp only [List.map_cons,List.map_nil,hx]; exact hpre1 [] (List.nil_prefix),by exact hx9⟩
set_option maxHeartbeats 1000000 in
theorem before1_in(F:Fence)(hd:F.depth=none)(h142:F.fn 104)(h143:F.fn 105)(hro:F.round=none)(g:Gh)(W0:World)(l Bs:Nat)(x:Nd g W0)(n:Nat)(J Jx:List (Nd g W0)->World->Prop)
  (hJ:∀s W W',J s W->W.grownBy W' none->J s W')
  (hY:∀m pre (y:Nd g W0) W,J pre W->pre.length<(nodesP x.1.1).length->YieldAt F m Tryz.prog l #[y.enc] W (YR J Jx pre y W)) (W:World) (hk0:KC W0 W)
  (h1:W.cell? ⟨Bs,0,none⟩=some (.int .i64 (prO x.1.1))) (h2:W.cell? ⟨Bs,1,none⟩=some (.string (prNm x.1.1))) (h3:W.cell? ⟨Bs,2,none⟩=some (.int .i64 (prN x.1.1))) (h4:W.cell? ⟨Bs,3,none⟩=some (.slice x.1.2.1 x.1.2.2.1 x.1.2.2.2)) (h0:J [] W) :
  CallsIn F n Tryz.prog 104 #[.func (.yield l) #[] #[],.pointer (some ⟨Bs,0,none⟩)] W fun e W'=>(∃v,e = .returned v) /\
   ((∃ys:List (Nd g W0),ys.map (·.1.1)=nodesP x.1.1/\J ys W')∨(∃ys:List (Nd g W0),ys.map (·.1.1) <+: nodesP x.1.1/\Jx ys W')):=by
 have hdd:∀k:Nat,(F.depth.isSome=true->1<=k):=fun k h=>by rw [hd] at h; cases h
 have hcall:=visit_in F hd h143 hro g W0 l _ J Jx hJ hY _ x (n - 1) [] W (Nat.le_refl _) hk0 h0 (by simp)
 simp only [Nd.enc,List.nil_append] at hcall
 obtain ⟨p,oa,len,cap,hx⟩:∃p oa len cap,x.1=(p,oa,len,cap):=⟨_,_,_,_,rfl⟩
 rw [hx] at hcall h1 h2 h3 h4 ⊢
 simp only at hcall h1 h2 h3 h4 ⊢
 clear hY hx
 refine callsIn_of_wp Tryz.func104 rfl h142 ?_ hro
 simp only [Tryz.ntmps104,List.size_toArray,List.length_cons,List.length_nil,Nat.reduceAdd,Nat.reduceSub,Array.replicate_succ,Array.replicate_zero,List.push_toArray,List.append_toArray,List.nil_append,List.cons_append]
 gi_wp2_with ((try refine ⟨hdd _,?_⟩); gi_at_call 105; refine hcall.mono ?_; clear hcall; rintro e W1 (⟨rfl,⟨ys,hys,hj⟩,_⟩ | ⟨rfl,ys,hys,hx⟩))
 ·go_end0
  exact ⟨⟨_,rfl⟩,.inl ⟨ys,hys,hj⟩⟩
 ·go_end0
  exact ⟨⟨_,rfl⟩,.inr ⟨ys,hys,hx⟩⟩
set_option maxHeartbeats 1000000 in
theorem before_in(F:Fence)(n:Nat)(h100:F.fn 66)(hro:F.round=none)(p:Pr)(oa:Option Addr)(m c:Nat)(w:World) :
  CallsIn F n Tryz.prog 66 #[encP p (.slice oa m c)] w fun e w'=>e = .returned (.func (.func 104) #[] #[.pointer (some ⟨w.heap.size,0,none⟩)])/\w'=w.alloc (.cells #[.int .i64 (prO p),.string (prNm p),.int .i64 (prN p),.slice oa m c] 46):=by
 refine callsIn_of_wp Tryz.func66 rfl h100 ?_ hro
 simp only [Tryz.ntmps66,List.size_toArray,List.length_cons,List.length_nil,Nat.reduceAdd,Nat.reduceSub,Array.replicate_succ,Array.replicate_zero,List.push_toArray,List.append_toArray,List.nil_append,List.cons_append]
 gi_wp2
 go_ret
 exact ⟨rfl,rfl⟩
end Go.Proofs.YtidabncghfbdaaaGreatDoor
