/- Values of Go as plain data, an evaluator over them, and what the functions of the program return; part Yb. -/
import Derived.Test.YtaakmholhliodaaGreatDoorYa
set_option linter.unusedSectionVars false
set_option linter.unusedSimpArgs false
set_option linter.unusedVariables false
namespace Go.Proofs.YtaakmholhliodaaGreatDoor
open Go.Proofs.Tryz
open Go.Pv Go.Proofs.Tryz
set_option maxRecDepth 100000
def smB(c:Int):Bool:=decide (97<=c)&&decide (c<=122)
def cpB(c:Int):Bool:=decide (65<=c)&&decide (c<=90)
def dgB(c:Int):Bool:=decide (48<=c)&&decide (c<=57)
theorem tn1(i:Nat):((i:Int)+1).toNat=i+1:=by omega
def kwL:List BA:=[⟨#[97,110,100]⟩,⟨#[97,115,115,117,109,101]⟩,⟨#[98,111,111,108]⟩,⟨#[98,111,117,110,100]⟩,⟨#[99,97,115,101]⟩,⟨#[99,101,108,108]⟩,⟨#[99,108,97,115,115]⟩,⟨#[100,97,116,97]⟩,⟨#[100,101,102]⟩,⟨#[100,105,118]⟩,⟨#[101,108,115,101]⟩,⟨#[101,110,100]⟩,⟨#[102,97,108,115,101]⟩,⟨#[102,111,114,97,108,108]⟩,⟨#[102,117,110]⟩,⟨#[103,101,116]⟩,⟨#[105,102]⟩,⟨#[105,110]⟩,⟨#[105,110,115,116]⟩,⟨#[105,110,116]⟩,⟨#[105,110,118,97,114,105,97,110,116]⟩,⟨#[108,101,116]⟩,⟨#[109,97,116,99,104]⟩,⟨#[109,101,97,115,117,114,101]⟩,⟨#[109,101,116,114,105,99]⟩,⟨#[109,111,100]⟩,⟨#[109,117]⟩,⟨#[110,101,119]⟩,⟨#[110,111,116]⟩,⟨#[111,102]⟩,⟨#[111,114]⟩,⟨#[113,117,97,108]⟩,⟨#[114,101,102,108,101,99,116]⟩,⟨#[115,101,116]⟩,⟨#[116,104,101,110]⟩,⟨#[116,114,117,101]⟩,⟨#[117,115,101]⟩,⟨#[118]⟩,⟨#[118,97,108]⟩,⟨#[116,97,103]⟩,⟨#[119,104,101,114,101]⟩,⟨#[119,105,116,104]⟩]
def kwC:List PV:=[.str ⟨#[97,110,100]⟩,.str ⟨#[97,115,115,117,109,101]⟩,.str ⟨#[98,111,111,108]⟩,.str ⟨#[98,111,117,110,100]⟩,.str ⟨#[99,97,115,101]⟩,.str ⟨#[99,101,108,108]⟩,.str ⟨#[99,108,97,115,115]⟩,.str ⟨#[100,97,116,97]⟩,.str ⟨#[100,101,102]⟩,.str ⟨#[100,105,118]⟩,.str ⟨#[101,108,115,101]⟩,.str ⟨#[101,110,100]⟩,.str ⟨#[102,97,108,115,101]⟩,.str ⟨#[102,111,114,97,108,108]⟩,.str ⟨#[102,117,110]⟩,.str ⟨#[103,101,116]⟩,.str ⟨#[105,102]⟩,.str ⟨#[105,110]⟩,.str ⟨#[105,110,115,116]⟩,.str ⟨#[105,110,116]⟩,.str ⟨#[105,110,118,97,114,105,97,110,116]⟩,.str ⟨#[108,101,116]⟩,.str ⟨#[109,97,116,99,104]⟩,.str ⟨#[109,101,97,115,117,114,101]⟩,.str ⟨#[109,101,116,114,105,99]⟩,.str ⟨#[109,111,100]⟩,.str ⟨#[109,117]⟩,.str ⟨#[110,101,119]⟩,.str ⟨#[110,111,116]⟩,.str ⟨#[111,102]⟩,.str ⟨#[111,114]⟩,.str ⟨#[113,117,97,108]⟩,.str ⟨#[114,101,102,108,101,99,116]⟩,.str ⟨#[115,101,116]⟩,.str ⟨#[116,104,101,110]⟩,.str ⟨#[116,114,117,101]⟩,.str ⟨#[117,115,101]⟩,.str ⟨#[118]⟩,.str ⟨#[118,97,108]⟩,.str ⟨#[116,97,103]⟩,.str ⟨#[119,104,101,114,101]⟩,.str ⟨#[119,105,116,104]⟩]
theorem kwC_at{i:Nat}(h:i<kwL.length):[PV.str ⟨#[97,110,100]⟩,.str ⟨#[97,115,115,117,109,101]⟩,.str ⟨#[98,111,111,108]⟩,.str ⟨#[98,111,117,110,100]⟩,.str ⟨#[99,97,115,101]⟩,.str ⟨#[99,101,108,108]⟩,.str ⟨#[99,108,97,115,115]⟩,.str ⟨#[100,97,116,97]⟩,.str ⟨#[100,101,102]⟩,.str ⟨#[100,105,118]⟩,.str ⟨#[101,108,115,101]⟩,.str ⟨#[101,110,100]⟩,.str ⟨#[102,97,108,115,101]⟩,.str ⟨#[102,111,114,97,108,108]⟩,.str ⟨#[102,117,110]⟩,.str ⟨#[103,101,116]⟩,.str ⟨#[105,102]⟩,.str ⟨#[105,110]⟩,.str ⟨#[105,110,115,116]⟩,.str ⟨#[105,110,116]⟩,.str ⟨#[105,110,118,97,114,105,97,110,116]⟩,.str ⟨#[108,101,116]⟩,.str ⟨#[109,97,116,99,104]⟩,.str ⟨#[109,101,97,115,117,114,101]⟩,.str ⟨#[109,101,116,114,105,99]⟩,.str ⟨#[109,111,100]⟩,.str ⟨#[109,117]⟩,.str ⟨#[110,101,119]⟩,.str ⟨#[110,111,116]⟩,.str ⟨#[111,102]⟩,.str ⟨#[111,114]⟩,.str ⟨#[113,117,97,108]⟩,.str ⟨#[114,101,102,108,101,99,116]⟩,.str ⟨#[115,101,116]⟩,.str ⟨#[116,104,101,110]⟩,.str ⟨#[116,114,117,101]⟩,.str ⟨#[117,115,101]⟩,.str ⟨#[118]⟩,.str ⟨#[118,97,108]⟩,.str ⟨#[116,97,103]⟩,.str ⟨#[119,104,101,114,101]⟩,.str ⟨#[119,105,116,104]⟩].getD i .nilp = .str (kwL.getD i nm0):=by
 show kwC.getD i .nilp=_
 have e:kwC=kwL.map .str:=rfl
 rw [e]
 simp [List.getD,h]
theorem dr_at{l:List UInt8}{i:Nat}(h:i<List.length (List.drop 1 l)):l.getD (i+1) default=(List.drop 1 l).getD i default:=by simp [List.getD,Nat.add_comm]
theorem kwT{i:Nat}(h:i<kwL.length):(i:Int)<42:=by
 have:kwL.length=42:=rfl
 omega
theorem kwF{i:Nat}(h:i=kwL.length):¬(i:Int)<42:=by
 have:kwL.length=42:=rfl
 omega
theorem kwA{i:Nat}(h:i<kwL.length):(0:Int)<=(i:Int)/\(i:Int)<((42:Nat):Int):=by
 have:=kwT h; omega
theorem b1T{s:BA}{i:Nat}(h:i<List.length (List.drop 1 s.data.toList)):(i:Int)+1<(s.size:Int):=by
 have:s.size=s.data.size:=rfl
 simp at h; omega
theorem b1F{s:BA}{i:Nat}(h:i=List.length (List.drop 1 s.data.toList)):¬(i:Int)+1<(s.size:Int):=by
 have:s.size=s.data.size:=rfl
 simp at h; omega
theorem bzT{s:BA}{i:Nat}(h:i<List.length (s.data.toList)):(i:Int)<(s.size:Int):=by
 have:s.size=s.data.size:=rfl
 simp at h; omega
theorem bzF{s:BA}{i:Nat}(h:i=List.length (s.data.toList)):¬(i:Int)<(s.size:Int):=by
 have:s.size=s.data.size:=rfl
 simp at h; omega
theorem nSmT(c:Int):Pu 153 [.int .u8 c] (.ret (.bool (smB c))):=by
 by_cases h:97<=c
 ·rw [show smB c=decide (c<=122) by simp [smB,h]]; exact pm mdL [rp 3 (dt (97<=c) h)] func153
 ·rw [show smB c=false by simp [smB,h]]; exact pm mdL [rp 3 (df (97<=c) h)] func153
theorem nCpT(c:Int):Pu 156 [.int .u8 c] (.ret (.bool (cpB c))):=by
 by_cases h:65<=c
 ·rw [show cpB c=decide (c<=90) by simp [cpB,h]]; exact pm mdL [rp 3 (dt (65<=c) h)] func156
 ·rw [show cpB c=false by simp [cpB,h]]; exact pm mdL [rp 3 (df (65<=c) h)] func156
theorem nDgT(c:Int):Pu 155 [.int .u8 c] (.ret (.bool (dgB c))):=by
 by_cases h:48<=c
 ·rw [show dgB c=decide (c<=57) by simp [dgB,h]]; exact pm mdL [rp 3 (dt (48<=c) h)] func155
 ·rw [show dgB c=false by simp [dgB,h]]; exact pm mdL [rp 3 (df (48<=c) h)] func155
abbrev nAl_I(s:BA)(j:Int)(e:Ext):S:=S.mk [(0,vS s),(3,vI6 j)] [] e
inductive nAl_R where
 | e0
 | e1
def nAl_f  : List UInt8->nAl_R
 | []=>(nAl_R.e1)
 | el::r=>(if smB (↑(UInt8.toNat el):Int)=false then (if cpB (↑(UInt8.toNat el):Int)=false then (if dgB (↑(UInt8.toNat el):Int)=false then (nAl_R.e0) else nAl_f  r) else nAl_f  r) else nAl_f  r)
def nAl_q(s:BA)(e:Ext):nAl_R->PExit × S
 | .e0=>(.ret,S.mk [(0,vS s),(2,.v (.bool false))] [] e)
 | .e1=>(.exit 0,S.mk [(0,vS s)] [] e)
theorem nAl_lp(s:BA)(e:Ext)(hN:List.length ((s.data.toList))<=1000000000):(Ob.loop 29 (loopF f131 0) (nAl_I s 0  e) (nAl_q s e (nAl_f  ((s.data.toList)))).1 (nAl_q s e (nAl_f  ((s.data.toList)))).2).ok prog:=by
 refine rng (List.length ((s.data.toList))) (fun j _=>nAl_I s j  e) (fun i _=>nAl_f  (List.drop i ((s.data.toList)))) (nAl_q s e) (fun i _=>True) kR ?_ () trivial
 rintro i u hi -
 rcases Nat.lt_or_ge i (List.length ((s.data.toList))) with hlt | hge
 ·have hd:=drop_at hlt
  refine t0 ?_;refine tp [kp,dt ((i:Int)<(↑(ByteArray.size s):Int)) (by (apply bzT <;> first | assumption | omega | decide)),am ((0:Int)<=(i:Int)/\(i:Int)<(↑(ByteArray.size s):Int)) (by simp_all [tn1]),xBy s i,cl (@nSmT ((↑(UInt8.toNat (List.getD (Array.toList (ByteArray.data s)) i default)):Int)))] ?_;by_cases h0:smB (↑(UInt8.toNat (List.getD (Array.toList (ByteArray.data s)) i default)):Int)=false
  ·refine tp [rp 3 (bt1 (bnT h0)),am ((0:Int)<=(i:Int)/\(i:Int)<(↑(ByteArray.size s):Int)) (by simp_all [tn1]),xBy s i,bt1 (bnT h0),cl (@nCpT ((↑(UInt8.toNat (List.getD (Array.toList (ByteArray.data s)) i default)):Int))),rp 2 (bt1 (bnT h0))] ?_;by_cases h1:cpB (↑(UInt8.toNat (List.getD (Array.toList (ByteArray.data s)) i default)):Int)=false
   ·refine tp [rp 3 (bt1 (bnT h1)),am ((0:Int)<=(i:Int)/\(i:Int)<(↑(ByteArray.size s):Int)) (by simp_all [tn1]),xBy s i,bt1 (bnT h1),cl (@nDgT ((↑(UInt8.toNat (List.getD (Array.toList (ByteArray.data s)) i default)):Int))),rp 2 (bt1 (bnT h1))] ?_;by_cases h2:dgB (↑(UInt8.toNat (List.getD (Array.toList (ByteArray.data s)) i default)):Int)=false
    ·exact tX mdL [bt1 (bnT h2)] (nAl_R.e0) (by rw [hd,nAl_f,iP h0,iP h1,iP h2])
    ·exact tN mdL [bf1 (bnF (bTF h2)),wr ((i:Int)+1)] hlt () trivial (by rw [hd,nAl_f,iP h0,iP h1,iN h2])
   ·exact tN mdL [rp 6 (bf1 (bnF (bTF h1))),bf false,wr ((i:Int)+1)] hlt () trivial (by rw [hd,nAl_f,iP h0,iN h1])
  ·exact tN mdL [rp 6 (bf1 (bnF (bTF h0))),rp 7 (bf false),wr ((i:Int)+1)] hlt () trivial (by rw [hd,nAl_f,iN h0])
 ·have he:i=List.length ((s.data.toList)):=by omega
  exact lX mdL [kp,df ((i:Int)<(↑(ByteArray.size s):Int)) (by (apply bzF <;> first | assumption | omega | decide))] (nAl_R.e1) (by rw [he,List.drop_length,nAl_f])
def anB(c:UInt8):Bool:=smB c.toNat||cpB c.toNat||dgB c.toNat
def wdB(c:UInt8):Bool:=smB c.toNat||dgB c.toNat||decide (((c.toNat:Nat):Int)=95)
theorem nAl_e:∀l:List UInt8,nAl_f l=if l.all anB=true then .e1 else .e0
 | []=>rfl
 | c::r=>by
  by_cases h1:smB c.toNat=true <;> by_cases h2:cpB c.toNat=true <;> by_cases h3:dgB c.toNat=true <;> simp [nAl_f,anB,h1,h2,h3,nAl_e r]
theorem sz_le{s:BA}(h:s.size<=1000000000):List.length (s.data.toList)<=1000000000:=by simpa using h
theorem nAlL_1(s:BA)(hs:s.size<=1000000000)(hx0:nAl_f (Array.toList (ByteArray.data s))=nAl_R.e0):Pu 131 [.str s] (rB false):=
 pu mdL (fun e=>[lq (rz (nAl_lp (s) (e) (by (apply sz_le <;> first | assumption | omega | decide))) hx0)]) func131
theorem nAlL_2(s:BA)(hs:s.size<=1000000000)(hx0:nAl_f (Array.toList (ByteArray.data s))=nAl_R.e1):Pu 131 [.str s] (rB true):=
 pu mdL (fun e=>[lq (rz (nAl_lp (s) (e) (by (apply sz_le <;> first | assumption | omega | decide))) hx0)]) func131
theorem nAlT(s:BA)(hs:s.size<=1000000000):Pu 131 [.str s] (.ret (.bool (s.data.toList.all anB))):=by
 cases h:s.data.toList.all anB with
 | true=>exact nAlL_2 s hs (by rw [nAl_e,iP h])
 | false=>exact nAlL_1 s hs (by rw [nAl_e,iN (by rw [h]; simp)])
def szB(s:BA):Bool:=decide (1<=s.size)&&decide (s.size<=24)
theorem nSiT(s:BA):Pu 130 [.str s] (.ret (.bool (szB s))):=by
 by_cases h:(s.size:Int)>=1
 ·rw [show szB s=decide ((s.size:Int)<=24) by unfold szB; rw [decide_eq_true (by omega:1<=s.size),Bool.true_and]; exact decide_eq_decide.2 oM]; exact pm mdL [kp,rp 2 (dt ((↑(ByteArray.size s):Int)>=1) h),kp,rp 2 (dt ((↑(ByteArray.size s):Int)>=1) h)] func130
 ·rw [show szB s=false by unfold szB; rw [decide_eq_false (by omega:¬1<=s.size),Bool.false_and]]; exact pm mdL [kp,rp 4 (df ((↑(ByteArray.size s):Int)>=1) h)] func130
abbrev nWd_I(s:BA)(j:Int)(e:Ext):S:=S.mk [(0,vS s),(3,vI6 j)] [] e
inductive nWd_R where
 | e0
 | e1
def nWd_f  : List UInt8->Nat->nWd_R
 | [],i=>(nWd_R.e1)
 | el::r,i=>(if smB (↑(UInt8.toNat el):Int)=false then (if (i:Int)=0 then (nWd_R.e0) else (if dgB (↑(UInt8.toNat el):Int)=false then (if (↑(UInt8.toNat el):Int)=95 then nWd_f  r (i+1)  else (nWd_R.e0)) else nWd_f  r (i+1))) else nWd_f  r (i+1))
def nWd_q(s:BA)(e:Ext):nWd_R->PExit × S
 | .e0=>(.ret,S.mk [(0,vS s),(2,.v (.bool false))] [] e)
 | .e1=>(.exit 0,S.mk [(0,vS s)] [] e)
theorem nWd_lp(s:BA)(e:Ext)(hN:List.length ((s.data.toList))<=1000000000):(Ob.loop 32 (loopF f132 0) (nWd_I s 0  e) (nWd_q s e (nWd_f  ((s.data.toList)) 0)).1 (nWd_q s e (nWd_f  ((s.data.toList)) 0)).2).ok prog:=by
 refine rng (List.length ((s.data.toList))) (fun j _=>nWd_I s j  e) (fun i _=>nWd_f  (List.drop i ((s.data.toList))) i) (nWd_q s e) (fun i _=>True) kR ?_ () trivial
 rintro i u hi -
 rcases Nat.lt_or_ge i (List.length ((s.data.toList))) with hlt | hge
 ·have hd:=drop_at hlt
  refine t0 ?_;refine tp [kp,dt ((i:Int)<(↑(ByteArray.size s):Int)) (by (apply bzT <;> first | assumption | omega | decide)),am ((0:Int)<=(i:Int)/\(i:Int)<(↑(ByteArray.size s):Int)) (by simp_all [tn1]),xBy s i,cl (@nSmT ((↑(UInt8.toNat (List.getD (Array.toList (ByteArray.data s)) i default)):Int)))] ?_;by_cases h0:smB (↑(UInt8.toNat (List.getD (Array.toList (ByteArray.data s)) i default)):Int)=false
  ·refine tp [rp 3 (bt1 (bnT h0))] ?_;by_cases h1:(i:Int)=0
   ·exact tX mdL [rp 7 (et1 h1),bt1 (bnT h0),et1 h1,bt1 (bnT h0),bt true] (nWd_R.e0) (by rw [hd,nWd_f,iP h0,iP h1])
   ·refine tp [rp 3 (en1 h1),am ((0:Int)<=(i:Int)/\(i:Int)<(↑(ByteArray.size s):Int)) (by simp_all [tn1]),xBy s i,en1 h1,cl (@nDgT ((↑(UInt8.toNat (List.getD (Array.toList (ByteArray.data s)) i default)):Int))),rp 2 (en1 h1)] ?_;by_cases h2:dgB (↑(UInt8.toNat (List.getD (Array.toList (ByteArray.data s)) i default)):Int)=false
    ·refine tp [rp 3 (bt1 (bnT h2)),am ((0:Int)<=(i:Int)/\(i:Int)<(↑(ByteArray.size s):Int)) (by simp_all [tn1]),xBy s i,bt1 (bnT h2),en1 h1,bt1 (bnT h2),bt1 (bnT h0),en1 h1,bt1 (bnT h0)] ?_;by_cases h3:(↑(UInt8.toNat (List.getD (Array.toList (ByteArray.data s)) i default)):Int)=95
     ·exact tN mdL [nn1 h3,wr ((i:Int)+1)] hlt () trivial (by rw [hd,nWd_f,iP h0,iN h1,iP h2,iP h3])
     ·exact tX mdL [nt1 h3] (nWd_R.e0) (by rw [hd,nWd_f,iP h0,iN h1,iP h2,iN h3])
    ·exact tN mdL [rp 4 (bf1 (bnF (bTF h2))),en1 h1,bf1 (bnF (bTF h2)),bt1 (bnT h0),en1 h1,bt1 (bnT h0),bf false,wr ((i:Int)+1)] hlt () trivial (by rw [hd,nWd_f,iP h0,iN h1,iN h2])
  ·exact tN mdL [rp 5 (bf1 (bnF (bTF h0))),bf false,wr ((i:Int)+1)] hlt () trivial (by rw [hd,nWd_f,iN h0])
 ·have he:i=List.length ((s.data.toList)):=by omega
  exact lX mdL [kp,df ((i:Int)<(↑(ByteArray.size s):Int)) (by (apply bzF <;> first | assumption | omega | decide))] (nWd_R.e1) (by rw [he,List.drop_length,nWd_f])
abbrev nKw_I(s:BA)(j:Int)(e:Ext):S:=S.mk [(0,vS s),(5,.v (.agg kwC)),(6,vI6 j)] [] e
inductive nKw_R where
 | e0
 | e1
def nKw_f(s:BA):List BA->nKw_R
 | []=>(nKw_R.e1)
 | el::r=>(if el=s then (nKw_R.e0) else nKw_f s r)
def nKw_q(s:BA)(e:Ext):nKw_R->PExit × S
 | .e0=>(.ret,S.mk [(0,vS s),(5,.v (.agg [.str (ByteArray.mk #[97,110,100]),.str (ByteArray.mk #[97,115,115,117,109,101]),.str (ByteArray.mk #[98,111,111,108]),.str (ByteArray.mk #[98,111,117,110,100]),.str (ByteArray.mk #[99,97,115,101]),.str (ByteArray.mk #[99,101,108,108]),.str (ByteArray.mk #[99,108,97,115,115]),.str (ByteArray.mk #[100,97,116,97]),.str (ByteArray.mk #[100,101,102]),.str (ByteArray.mk #[100,105,118]),.str (ByteArray.mk #[101,108,115,101]),.str (ByteArray.mk #[101,110,100]),.str (ByteArray.mk #[102,97,108,115,101]),.str (ByteArray.mk #[102,111,114,97,108,108]),.str (ByteArray.mk #[102,117,110]),.str (ByteArray.mk #[103,101,116]),.str (ByteArray.mk #[105,102]),.str (ByteArray.mk #[105,110]),.str (ByteArray.mk #[105,110,115,116]),.str (ByteArray.mk #[105,110,116]),.str (ByteArray.mk #[105,110,118,97,114,105,97,110,116]),.str (ByteArray.mk #[108,101,116]),.str (ByteArray.mk #[109,97,116,99,104]),.str (ByteArray.mk #[109,101,97,115,117,114,101]),.str (ByteArray.mk #[109,101,116,114,105,99]),.str (ByteArray.mk #[109,111,100]),.str (ByteArray.mk #[109,117]),.str (ByteArray.mk #[110,101,119]),.str (ByteArray.mk #[110,111,116]),.str (ByteArray.mk #[111,102]),.str (ByteArray.mk #[111,114]),.str (ByteArray.mk #[113,117,97,108]),.str (ByteArray.mk #[114,101,102,108,101,99,116]),.str (ByteArray.mk #[115,101,116]),.str (ByteArray.mk #[116,104,101,110]),.str (ByteArray.mk #[116,114,117,101]),.str (ByteArray.mk #[117,115,101]),.str (bM 118),.str (ByteArray.mk #[118,97,108]),.str (ByteArray.mk #[116,97,103]),.str (ByteArray.mk #[119,104,101,114,101]),.str (ByteArray.mk #[119,105,116,104])])),(2,.v (.bool true))] [] e)
 | .e1=>(.exit 0,S.mk [(0,vS s),(5,.v (.agg [.str (ByteArray.mk #[97,110,100]),.str (ByteArray.mk #[97,115,115,117,109,101]),.str (ByteArray.mk #[98,111,111,108]),.str (ByteArray.mk #[98,111,117,110,100]),.str (ByteArray.mk #[99,97,115,101]),.str (ByteArray.mk #[99,101,108,108]),.str (ByteArray.mk #[99,108,97,115,115]),.str (ByteArray.mk #[100,97,116,97]),.str (ByteArray.mk #[100,101,102]),.str (ByteArray.mk #[100,105,118]),.str (ByteArray.mk #[101,108,115,101]),.str (ByteArray.mk #[101,110,100]),.str (ByteArray.mk #[102,97,108,115,101]),.str (ByteArray.mk #[102,111,114,97,108,108]),.str (ByteArray.mk #[102,117,110]),.str (ByteArray.mk #[103,101,116]),.str (ByteArray.mk #[105,102]),.str (ByteArray.mk #[105,110]),.str (ByteArray.mk #[105,110,115,116]),.str (ByteArray.mk #[105,110,116]),.str (ByteArray.mk #[105,110,118,97,114,105,97,110,116]),.str (ByteArray.mk #[108,101,116]),.str (ByteArray.mk #[109,97,116,99,104]),.str (ByteArray.mk #[109,101,97,115,117,114,101]),.str (ByteArray.mk #[109,101,116,114,105,99]),.str (ByteArray.mk #[109,111,100]),.str (ByteArray.mk #[109,117]),.str (ByteArray.mk #[110,101,119]),.str (ByteArray.mk #[110,111,116]),.str (ByteArray.mk #[111,102]),.str (ByteArray.mk #[111,114]),.str (ByteArray.mk #[113,117,97,108]),.str (ByteArray.mk #[114,101,102,108,101,99,116]),.str (ByteArray.mk #[115,101,116]),.str (ByteArray.mk #[116,104,101,110]),.str (ByteArray.mk #[116,114,117,101]),.str (ByteArray.mk #[117,115,101]),.str (bM 118),.str (ByteArray.mk #[118,97,108]),.str (ByteArray.mk #[116,97,103]),.str (ByteArray.mk #[119,104,101,114,101]),.str (ByteArray.mk #[119,105,116,104])]))] [] e)
theorem nKw_lp(s:BA)(e:Ext)(hN:List.length ((kwL))<=1000000000):(Ob.loop 13 (loopF f154 0) (nKw_I s 0  e) (nKw_q s e (nKw_f s ((kwL)))).1 (nKw_q s e (nKw_f s ((kwL)))).2).ok prog:=by
 refine rng (List.length ((kwL))) (fun j _=>nKw_I s j  e) (fun i _=>nKw_f s (List.drop i ((kwL)))) (nKw_q s e) (fun i _=>True) kR ?_ () trivial
 rintro i u hi -
 rcases Nat.lt_or_ge i (List.length ((kwL))) with hlt | hge
 ·have hd:=drop_at0 hlt
  refine t0 ?_;refine tp [dt ((i:Int)<42) (by (apply kwT <;> first | assumption | omega | decide)),am ((0:Int)<=(i:Int)/\(i:Int)<(42:Int)) (by (apply kwA <;> first | assumption | omega | decide)),av (.v (List.getD [.str (ByteArray.mk #[97,110,100]),.str (ByteArray.mk #[97,115,115,117,109,101]),.str (ByteArray.mk #[98,111,111,108]),.str (ByteArray.mk #[98,111,117,110,100]),.str (ByteArray.mk #[99,97,115,101]),.str (ByteArray.mk #[99,101,108,108]),.str (ByteArray.mk #[99,108,97,115,115]),.str (ByteArray.mk #[100,97,116,97]),.str (ByteArray.mk #[100,101,102]),.str (ByteArray.mk #[100,105,118]),.str (ByteArray.mk #[101,108,115,101]),.str (ByteArray.mk #[101,110,100]),.str (ByteArray.mk #[102,97,108,115,101]),.str (ByteArray.mk #[102,111,114,97,108,108]),.str (ByteArray.mk #[102,117,110]),.str (ByteArray.mk #[103,101,116]),.str (ByteArray.mk #[105,102]),.str (ByteArray.mk #[105,110]),.str (ByteArray.mk #[105,110,115,116]),.str (ByteArray.mk #[105,110,116]),.str (ByteArray.mk #[105,110,118,97,114,105,97,110,116]),.str (ByteArray.mk #[108,101,116]),.str (ByteArray.mk #[109,97,116,99,104]),.str (ByteArray.mk #[109,101,97,115,117,114,101]),.str (ByteArray.mk #[109,101,116,114,105,99]),.str (ByteArray.mk #[109,111,100]),.str (ByteArray.mk #[109,117]),.str (ByteArray.mk #[110,101,119]),.str (ByteArray.mk #[110,111,116]),.str (ByteArray.mk #[111,102]),.str (ByteArray.mk #[111,114]),.str (ByteArray.mk #[113,117,97,108]),.str (ByteArray.mk #[114,101,102,108,101,99,116]),.str (ByteArray.mk #[115,101,116]),.str (ByteArray.mk #[116,104,101,110]),.str (ByteArray.mk #[116,114,117,101]),.str (ByteArray.mk #[117,115,101]),.str (bM 118),.str (ByteArray.mk #[118,97,108]),.str (ByteArray.mk #[116,97,103]),.str (ByteArray.mk #[119,104,101,114,101]),.str (ByteArray.mk #[119,105,116,104])] (Int.toNat (i:Int)) .nilp)) (vS (List.getD kwL i nm0)) (by simp only [Int.toNat_natCast,Int.toNat_zero]; rw [@kwC_at (i) hlt]; try rfl)] ?_;by_cases h0:List.getD kwL i nm0=s
  ·exact tX mdL [bt (ByteArray.toList (List.getD kwL i nm0)==ByteArray.toList s) (bsT h0)] (nKw_R.e0) (by rw [hd,nKw_f,iP h0])
  ·exact tN mdL [bf (ByteArray.toList (List.getD kwL i nm0)==ByteArray.toList s) (bsF h0),wr ((i:Int)+1)] hlt () trivial (by rw [hd,nKw_f,iN h0])
 ·have he:i=List.length ((kwL)):=by omega
  exact lX mdL [df ((i:Int)<42) (by (apply kwF <;> first | assumption | omega | decide))] (nKw_R.e1) (by rw [he,List.drop_length,nKw_f])
def wordB:List UInt8->Bool
 | []=>true
 | c::r=>smB c.toNat&&r.all wdB
theorem nWd_e1:∀ (l:List UInt8) (i:Nat),nWd_f l (i+1)=if l.all wdB=true then .e1 else .e0
 | [],_=>rfl
 | c::r,i=>by
  have hi:¬(((i+1:Nat):Int)=0):=by omega
  have hj:¬((i:Int)+1=0):=by omega
  by_cases h1:smB c.toNat=true <;> by_cases h2:dgB c.toNat=true <;> by_cases h3:((c.toNat:Nat):Int)=95 <;> simp [nWd_f,wdB,h1,h2,h3,hi,hj,nWd_e1 r (i+1)]
theorem nWd_e(l:List UInt8):nWd_f l 0=if wordB l=true then .e1 else .e0:=by
 cases l with
 | nil=>rfl
 | cons c r=>
  by_cases h1:smB c.toNat=true
  ·have:=nWd_e1 r 0
   simp [nWd_f,wordB,h1,this]
  ·simp [nWd_f,wordB,h1]
def kwB(s:BA):Bool:=decide (ix id s kwL<kwL.length)
theorem nKw_e(s:BA):∀l:List BA,nKw_f s l=if ix id s l<l.length then .e0 else .e1
 | []=>by simp [nKw_f,ix]
 | c::r=>by
  by_cases h:c=s
  ·simp [nKw_f,ix,h]
  ·simp only [nKw_f,ix,id,h,if_false,nKw_e s r,List.length_cons,Nat.add_lt_add_iff_right]
theorem nWdL_1(s:BA)(hs:s.size<=1000000000)(hx0:nWd_f (Array.toList (ByteArray.data s)) 0=nWd_R.e0):Pu 132 [.str s] (rB false):=
 pu mdL (fun e=>[lq (rz (nWd_lp (s) (e) (by (apply sz_le <;> first | assumption | omega | decide))) hx0)]) func132
theorem nWdL_2(s:BA)(hs:s.size<=1000000000)(hx0:nWd_f (Array.toList (ByteArray.data s)) 0=nWd_R.e1):Pu 132 [.str s] (rB true):=
 pu mdL (fun e=>[lq (rz (nWd_lp (s) (e) (by (apply sz_le <;> first | assumption | omega | decide))) hx0)]) func132
theorem nWdT(s:BA)(hs:s.size<=1000000000):Pu 132 [.str s] (.ret (.bool (wordB s.data.toList))):=by
 cases h:wordB s.data.toList with
 | true=>exact nWdL_2 s hs (by rw [nWd_e,iP h])
 | false=>exact nWdL_1 s hs (by rw [nWd_e,iN (by rw [h]; simp)])
theorem nKwT(s:BA):Pu 154 [.str s] (.ret (.bool (kwB s))):=by
 unfold kwB
 by_cases h:ix id s kwL<kwL.length
 ·rw [decide_eq_true h]; exact pu mdL (fun e=>[lq (rz (nKw_lp (s) (e) dD) (by rw [nKw_e,iP h]))]) func154
 ·rw [decide_eq_false h]; exact pu mdL (fun e=>[lq (rz (nKw_lp (s) (e) dD) (by rw [nKw_e,iN h]))]) func154
theorem szB_lt{s:BA}(h:szB s=true):(0:Int)<=0/\(0:Int)<(s.size:Int):=by
 simp only [szB,Bool.and_eq_true,decide_eq_true_eq] at h; omega
theorem szB_d1{s:BA}(h:szB s=true):List.length (List.drop 1 s.data.toList)<=1000000000:=by
 have:s.size=s.data.size:=rfl
 simp only [szB,Bool.and_eq_true,decide_eq_true_eq] at h; simp; omega
theorem b1A{s:BA}{i:Nat}(h:i<List.length (List.drop 1 s.data.toList)):(0:Int)<=(i:Int)+1/\(i:Int)+1<(s.size:Int):=by
 have:=b1T h; omega
abbrev nNl_I(s:BA)(j:Int)(e:Ext):S:=S.mk [(0,vS s),(3,vI6 (j+1))] [] e
inductive nNl_R where
 | e0
 | e1
def nNl_f  : List UInt8->nNl_R
 | []=>(nNl_R.e1)
 | el::r=>(if smB (↑(UInt8.toNat el):Int)=false then (if dgB (↑(UInt8.toNat el):Int)=false then (if (↑(UInt8.toNat el):Int)=95 then nNl_f  r  else (nNl_R.e0)) else nNl_f  r) else nNl_f  r)
def nNl_q(s:BA)(e:Ext):nNl_R->PExit × S
 | .e0=>(.ret,S.mk [(0,vS s),(2,.v (.bool false))] [] e)
 | .e1=>(.exit 0,S.mk [(0,vS s)] [] e)
theorem nNl_lp(s:BA)(hsa:szB s=true)(hsb:smB (s.data.toList.getD 0 default).toNat=true)(hsc:kwB s=false)(e:Ext)(hN:List.length ((List.drop 1 s.data.toList))<=1000000000):(Ob.loop 41 (loopF f128 0) (nNl_I s 0  e) (nNl_q s e (nNl_f  ((List.drop 1 s.data.toList)))).1 (nNl_q s e (nNl_f  ((List.drop 1 s.data.toList)))).2).ok prog:=by
 refine rng (List.length ((List.drop 1 s.data.toList))) (fun j _=>nNl_I s j  e) (fun i _=>nNl_f  (List.drop i ((List.drop 1 s.data.toList)))) (nNl_q s e) (fun i _=>True) kR ?_ () trivial
 rintro i u hi -
 rcases Nat.lt_or_ge i (List.length ((List.drop 1 s.data.toList))) with hlt | hge
 ·have hd:=drop_at hlt
  refine t0 ?_;refine tp [kp,dt ((i:Int)+1<(↑(ByteArray.size s):Int)) (by (apply b1T <;> first | assumption | omega | decide)),am ((0:Int)<=(i:Int)+1/\(i:Int)+1<(↑(ByteArray.size s):Int)) (by (apply b1A <;> first | assumption | omega | decide)),av (.v (.int .u8 (↑(UInt8.toNat (List.getD (Array.toList (ByteArray.data s)) (Int.toNat ((i:Int)+1)) default)):Int))) (.v (.int .u8 (↑(UInt8.toNat (List.getD (List.drop 1 (Array.toList (ByteArray.data s))) i default)):Int))) (by simp only [Int.toNat_natCast,Int.toNat_zero,tn1]; rw [@dr_at (Array.toList (ByteArray.data s)) (i) hlt]; try rfl),cl (@nSmT ((↑(UInt8.toNat (List.getD (List.drop 1 (Array.toList (ByteArray.data s))) i default)):Int)))] ?_;by_cases h0:smB (↑(UInt8.toNat (List.getD (List.drop 1 (Array.toList (ByteArray.data s))) i default)):Int)=false
  ·refine tp [rp 3 (bt1 (bnT h0)),am ((0:Int)<=(i:Int)+1/\(i:Int)+1<(↑(ByteArray.size s):Int)) (by (apply b1A <;> first | assumption | omega | decide)),av (.v (.int .u8 (↑(UInt8.toNat (List.getD (Array.toList (ByteArray.data s)) (Int.toNat ((i:Int)+1)) default)):Int))) (.v (.int .u8 (↑(UInt8.toNat (List.getD (List.drop 1 (Array.toList (ByteArray.data s))) i default)):Int))) (by simp only [Int.toNat_natCast,Int.toNat_zero,tn1]; rw [@dr_at (Array.toList (ByteArray.data s)) (i) hlt]; try rfl),bt1 (bnT h0),cl (@nDgT ((↑(UInt8.toNat (List.getD (List.drop 1 (Array.toList (ByteArray.data s))) i default)):Int))),rp 2 (bt1 (bnT h0))] ?_;by_cases h1:dgB (↑(UInt8.toNat (List.getD (List.drop 1 (Array.toList (ByteArray.data s))) i default)):Int)=false
   ·refine tp [rp 3 (bt1 (bnT h1)),am ((0:Int)<=(i:Int)+1/\(i:Int)+1<(↑(ByteArray.size s):Int)) (by (apply b1A <;> first | assumption | omega | decide)),av (.v (.int .u8 (↑(UInt8.toNat (List.getD (Array.toList (ByteArray.data s)) (Int.toNat ((i:Int)+1)) default)):Int))) (.v (.int .u8 (↑(UInt8.toNat (List.getD (List.drop 1 (Array.toList (ByteArray.data s))) i default)):Int))) (by simp only [Int.toNat_natCast,Int.toNat_zero,tn1]; rw [@dr_at (Array.toList (ByteArray.data s)) (i) hlt]; try rfl),rp 2 (bt1 (bnT h1))] ?_;by_cases h2:(↑(UInt8.toNat (List.getD (List.drop 1 (Array.toList (ByteArray.data s))) i default)):Int)=95
    ·exact tN mdL [nn1 h2,wr ((i:Int)+1+1)] hlt () trivial (by rw [hd,nNl_f,iP h0,iP h1,iP h2])
    ·exact tX mdL [nt1 h2] (nNl_R.e0) (by rw [hd,nNl_f,iP h0,iP h1,iN h2])
   ·exact tN mdL [rp 5 (bf1 (bnF (bTF h1))),bf false,wr ((i:Int)+1+1)] hlt () trivial (by rw [hd,nNl_f,iP h0,iN h1])
  ·exact tN mdL [rp 6 (bf1 (bnF (bTF h0))),rp 6 (bf false),wr ((i:Int)+1+1)] hlt () trivial (by rw [hd,nNl_f,iN h0])
 ·have he:i=List.length ((List.drop 1 s.data.toList)):=by omega
  exact lX mdL [kp,df ((i:Int)+1<(↑(ByteArray.size s):Int)) (by (apply b1F <;> first | assumption | omega | decide))] (nNl_R.e1) (by rw [he,List.drop_length,nNl_f])
theorem nNl_e:∀l:List UInt8,nNl_f l=if l.all wdB=true then .e1 else .e0
 | []=>rfl
 | c::r=>by
  by_cases h1:smB c.toNat=true <;> by_cases h2:dgB c.toNat=true <;> by_cases h3:((c.toNat:Nat):Int)=95 <;> simp [nNl_f,wdB,h1,h2,h3,nNl_e r]
def nameB(s:BA):Bool:=szB s&&smB (s.data.toList.getD 0 default).toNat && !kwB s&&(s.data.toList.drop 1).all wdB
section
variable (s:BA) (hsa:szB s=true)
include s hsa
theorem nNmB(hsb:smB (s.data.toList.getD 0 default).toNat=false):Pu 128 [.str s] (rB false):=
 pm mdL [cl (@nSiT s),rp 2 (bf (!szB s) (bnF hsa)),am ((0:Int)<=0/\0<(↑(ByteArray.size s):Int)) (by (apply szB_lt <;> first | assumption | omega | decide)),xBy s 0,bf (!szB s) (bnF hsa),cl (@nSmT ((↑(UInt8.toNat (List.getD (Array.toList (ByteArray.data s)) 0 default)):Int))),rp 2 (bf (!szB s) (bnF hsa)),rp 3 (bt (!smB (↑(UInt8.toNat (List.getD (Array.toList (ByteArray.data s)) 0 default)):Int)) (bnT hsb)),bt true] func128
theorem nNmC(hsb:smB (s.data.toList.getD 0 default).toNat=true)(hsc:kwB s=true):Pu 128 [.str s] (rB false):=
 pm mdL [cl (@nSiT s),rp 2 (bf (!szB s) (bnF hsa)),am ((0:Int)<=0/\0<(↑(ByteArray.size s):Int)) (by (apply szB_lt <;> first | assumption | omega | decide)),xBy s 0,bf (!szB s) (bnF hsa),cl (@nSmT ((↑(UInt8.toNat (List.getD (Array.toList (ByteArray.data s)) 0 default)):Int))),rp 2 (bf (!szB s) (bnF hsa)),rp 2 (bf (!smB (↑(UInt8.toNat (List.getD (Array.toList (ByteArray.data s)) 0 default)):Int)) (bnF hsb)),cl (@nKwT s),bf (!smB (↑(UInt8.toNat (List.getD (Array.toList (ByteArray.data s)) 0 default)):Int)) (bnF hsb),bt (kwB s) hsc] func128
theorem nNmD_1(hsb:smB (s.data.toList.getD 0 default).toNat=true)(hsc:kwB s=false)(hx0:nNl_f (List.drop 1 (Array.toList (ByteArray.data s)))=nNl_R.e0):Pu 128 [.str s] (rB false):=
 pu mdL (fun e=>[cl (@nSiT s),rp 2 (bf (!szB s) (bnF hsa)),am ((0:Int)<=0/\0<(↑(ByteArray.size s):Int)) (by (apply szB_lt <;> first | assumption | omega | decide)),xBy s 0,bf (!szB s) (bnF hsa),cl (@nSmT ((↑(UInt8.toNat (List.getD (Array.toList (ByteArray.data s)) 0 default)):Int))),rp 2 (bf (!szB s) (bnF hsa)),rp 2 (bf (!smB (↑(UInt8.toNat (List.getD (Array.toList (ByteArray.data s)) 0 default)):Int)) (bnF hsb)),cl (@nKwT s),bf (!smB (↑(UInt8.toNat (List.getD (Array.toList (ByteArray.data s)) 0 default)):Int)) (bnF hsb),bf (kwB s) hsc,lq (rz (nNl_lp (s) hsa hsb hsc (e) (by (apply szB_d1 <;> first | assumption | omega | decide))) hx0)]) func128
theorem nNmD_2(hsb:smB (s.data.toList.getD 0 default).toNat=true)(hsc:kwB s=false)(hx0:nNl_f (List.drop 1 (Array.toList (ByteArray.data s)))=nNl_R.e1):Pu 128 [.str s] (rB true):=
 pu mdL (fun e=>[cl (@nSiT s),rp 2 (bf (!szB s) (bnF hsa)),am ((0:Int)<=0/\0<(↑(ByteArray.size s):Int)) (by (apply szB_lt <;> first | assumption | omega | decide)),xBy s 0,bf (!szB s) (bnF hsa),cl (@nSmT ((↑(UInt8.toNat (List.getD (Array.toList (ByteArray.data s)) 0 default)):Int))),rp 2 (bf (!szB s) (bnF hsa)),rp 2 (bf (!smB (↑(UInt8.toNat (List.getD (Array.toList (ByteArray.data s)) 0 default)):Int)) (bnF hsb)),cl (@nKwT s),bf (!smB (↑(UInt8.toNat (List.getD (Array.toList (ByteArray.data s)) 0 default)):Int)) (bnF hsb),bf (kwB s) hsc,lq (rz (nNl_lp (s) hsa hsb hsc (e) (by (apply szB_d1 <;> first | assumption | omega | decide))) hx0)]) func128
end
theorem nNmT(s:BA):Pu 128 [.str s] (.ret (.bool (nameB s))):=by
 unfold nameB
 cases hsa:szB s with
 | false=>exact pm mdL [cl (@nSiT s),rp 5 (bt (!szB s) (bnT hsa)),rp 4 (bt true)] func128
 | true=>
  cases hsb:smB (s.data.toList.getD 0 default).toNat with
  | false=>exact nNmB s hsa hsb
  | true=>
   cases hsc:kwB s with
   | true=>exact nNmC s hsa hsb hsc
   | false=>
    cases h:(s.data.toList.drop 1).all wdB with
    | true=>exact nNmD_2 s hsa hsb hsc (by rw [nNl_e,iP h])
    | false=>exact nNmD_1 s hsa hsb hsc (by rw [nNl_e,iN (by rw [h]; simp)])
def erN(b:Bool):Int:=if b=true then 0 else 3
abbrev tInt:BA:=⟨#[73,110,116]⟩
abbrev tBool:BA:=⟨#[66,111,111,108]⟩
abbrev tCell:BA:=⟨#[67,101,108,108]⟩
abbrev tFun:BA:=⟨#[70,117,110]⟩
def titleB(s:BA):Bool:=szB s&&cpB (s.data.toList.getD 0 default).toNat&&s.data.toList.all anB && !decide (s=tInt) && !decide (s=tBool) && !decide (s=tCell) && !decide (s=tFun)
theorem szB_s{s:BA}(h:szB s=true):s.size<=1000000000:=by
 simp only [szB,Bool.and_eq_true,decide_eq_true_eq] at h; omega
section
variable (s:BA) (hsa:szB s=true)
include s hsa
theorem nTiB(hsb:cpB (s.data.toList.getD 0 default).toNat=false):Pu 129 [.str s] (rB false):=
 pm mdL [cl (@nSiT s),rp 2 (bf (!szB s) (bnF hsa)),am ((0:Int)<=0/\0<(↑(ByteArray.size s):Int)) (by (apply szB_lt <;> first | assumption | omega | decide)),xBy s 0,bf (!szB s) (bnF hsa),cl (@nCpT ((↑(UInt8.toNat (List.getD (Array.toList (ByteArray.data s)) 0 default)):Int))),rp 2 (bf (!szB s) (bnF hsa)),rp 4 (bt (!cpB (↑(UInt8.toNat (List.getD (Array.toList (ByteArray.data s)) 0 default)):Int)) (bnT hsb)),bt true] func129
theorem nTiC(hsb:cpB (s.data.toList.getD 0 default).toNat=true)(hsc:s.data.toList.all anB=false):Pu 129 [.str s] (rB false):=
 pm mdL [cl (@nSiT s),rp 2 (bf (!szB s) (bnF hsa)),am ((0:Int)<=0/\0<(↑(ByteArray.size s):Int)) (by (apply szB_lt <;> first | assumption | omega | decide)),xBy s 0,bf (!szB s) (bnF hsa),cl (@nCpT ((↑(UInt8.toNat (List.getD (Array.toList (ByteArray.data s)) 0 default)):Int))),rp 2 (bf (!szB s) (bnF hsa)),rp 2 (bf (!cpB (↑(UInt8.toNat (List.getD (Array.toList (ByteArray.data s)) 0 default)):Int)) (bnF hsb)),cl (@nAlT s (by (apply szB_s <;> first | assumption | omega | decide))),rp 2 (bf (!cpB (↑(UInt8.toNat (List.getD (Array.toList (ByteArray.data s)) 0 default)):Int)) (bnF hsb)),bt (!List.all (Array.toList (ByteArray.data s)) anB) (bnT hsc)] func129
theorem nTiD_1(hsb:cpB (s.data.toList.getD 0 default).toNat=true)(hsc:s.data.toList.all anB=true)(hx0:¬s=ByteArray.mk #[73,110,116])(hx1:¬s=ByteArray.mk #[66,111,111,108])(hx2:¬s=ByteArray.mk #[67,101,108,108]):Pu 129 [.str s] (rB !ByteArray.toList s==ByteArray.toList (ByteArray.mk #[70,117,110])):=
 pm mdL [cl (@nSiT s),rp 2 (bf (!szB s) (bnF hsa)),am ((0:Int)<=0/\0<(↑(ByteArray.size s):Int)) (by (apply szB_lt <;> first | assumption | omega | decide)),xBy s 0,bf (!szB s) (bnF hsa),cl (@nCpT ((↑(UInt8.toNat (List.getD (Array.toList (ByteArray.data s)) 0 default)):Int))),rp 2 (bf (!szB s) (bnF hsa)),rp 2 (bf (!cpB (↑(UInt8.toNat (List.getD (Array.toList (ByteArray.data s)) 0 default)):Int)) (bnF hsb)),cl (@nAlT s (by (apply szB_s <;> first | assumption | omega | decide))),rp 2 (bf (!cpB (↑(UInt8.toNat (List.getD (Array.toList (ByteArray.data s)) 0 default)):Int)) (bnF hsb)),bf (!List.all (Array.toList (ByteArray.data s)) anB) (bnF hsc),rp 3 (bt (!ByteArray.toList s==ByteArray.toList (ByteArray.mk #[73,110,116])) (bnT (bsF hx0))),rp 3 (bt (!ByteArray.toList s==ByteArray.toList (ByteArray.mk #[66,111,111,108])) (bnT (bsF hx1))),rp 3 (bt (!ByteArray.toList s==ByteArray.toList (ByteArray.mk #[67,101,108,108])) (bnT (bsF hx2)))] func129
theorem nTiD_2(hsb:cpB (s.data.toList.getD 0 default).toNat=true)(hsc:s.data.toList.all anB=true)(hx0:¬s=ByteArray.mk #[73,110,116])(hx1:¬s=ByteArray.mk #[66,111,111,108])(hx2:s=ByteArray.mk #[67,101,108,108]):Pu 129 [.str s] (rB false):=
 pm mdL [cl (@nSiT s),rp 2 (bf (!szB s) (bnF hsa)),am ((0:Int)<=0/\0<(↑(ByteArray.size s):Int)) (by (apply szB_lt <;> first | assumption | omega | decide)),xBy s 0,bf (!szB s) (bnF hsa),cl (@nCpT ((↑(UInt8.toNat (List.getD (Array.toList (ByteArray.data s)) 0 default)):Int))),rp 2 (bf (!szB s) (bnF hsa)),rp 2 (bf (!cpB (↑(UInt8.toNat (List.getD (Array.toList (ByteArray.data s)) 0 default)):Int)) (bnF hsb)),cl (@nAlT s (by (apply szB_s <;> first | assumption | omega | decide))),rp 2 (bf (!cpB (↑(UInt8.toNat (List.getD (Array.toList (ByteArray.data s)) 0 default)):Int)) (bnF hsb)),bf (!List.all (Array.toList (ByteArray.data s)) anB) (bnF hsc),rp 3 (bt (!ByteArray.toList s==ByteArray.toList (ByteArray.mk #[73,110,116])) (bnT (bsF hx0))),rp 3 (bt (!ByteArray.toList s==ByteArray.toList (ByteArray.mk #[66,111,111,108])) (bnT (bsF hx1))),rp 3 (bf (!ByteArray.toList s==ByteArray.toList (ByteArray.mk #[67,101,108,108])) (bnF (bsT hx2)))] func129
theorem nTiD_3(hsb:cpB (s.data.toList.getD 0 default).toNat=true)(hsc:s.data.toList.all anB=true)(hx0:¬s=ByteArray.mk #[73,110,116])(hx1:s=ByteArray.mk #[66,111,111,108]):Pu 129 [.str s] (rB false):=
 pm mdL [cl (@nSiT s),rp 2 (bf (!szB s) (bnF hsa)),am ((0:Int)<=0/\0<(↑(ByteArray.size s):Int)) (by (apply szB_lt <;> first | assumption | omega | decide)),xBy s 0,bf (!szB s) (bnF hsa),cl (@nCpT ((↑(UInt8.toNat (List.getD (Array.toList (ByteArray.data s)) 0 default)):Int))),rp 2 (bf (!szB s) (bnF hsa)),rp 2 (bf (!cpB (↑(UInt8.toNat (List.getD (Array.toList (ByteArray.data s)) 0 default)):Int)) (bnF hsb)),cl (@nAlT s (by (apply szB_s <;> first | assumption | omega | decide))),rp 2 (bf (!cpB (↑(UInt8.toNat (List.getD (Array.toList (ByteArray.data s)) 0 default)):Int)) (bnF hsb)),bf (!List.all (Array.toList (ByteArray.data s)) anB) (bnF hsc),rp 3 (bt (!ByteArray.toList s==ByteArray.toList (ByteArray.mk #[73,110,116])) (bnT (bsF hx0))),rp 3 (bf (!ByteArray.toList s==ByteArray.toList (ByteArray.mk #[66,111,111,108])) (bnF (bsT hx1))),rp 3 (bf false)] func129
theorem nTiD_4(hsb:cpB (s.data.toList.getD 0 default).toNat=true)(hsc:s.data.toList.all anB=true)(hx0:s=ByteArray.mk #[73,110,116]):Pu 129 [.str s] (rB false):=
 pm mdL [cl (@nSiT s),rp 2 (bf (!szB s) (bnF hsa)),am ((0:Int)<=0/\0<(↑(ByteArray.size s):Int)) (by (apply szB_lt <;> first | assumption | omega | decide)),xBy s 0,bf (!szB s) (bnF hsa),cl (@nCpT ((↑(UInt8.toNat (List.getD (Array.toList (ByteArray.data s)) 0 default)):Int))),rp 2 (bf (!szB s) (bnF hsa)),rp 2 (bf (!cpB (↑(UInt8.toNat (List.getD (Array.toList (ByteArray.data s)) 0 default)):Int)) (bnF hsb)),cl (@nAlT s (by (apply szB_s <;> first | assumption | omega | decide))),rp 2 (bf (!cpB (↑(UInt8.toNat (List.getD (Array.toList (ByteArray.data s)) 0 default)):Int)) (bnF hsb)),bf (!List.all (Array.toList (ByteArray.data s)) anB) (bnF hsc),rp 3 (bf (!ByteArray.toList s==ByteArray.toList (ByteArray.mk #[73,110,116])) (bnF (bsT hx0))),rp 6 (bf false)] func129
end
theorem bcA{s:BA}{i:Nat}(h:i<List.length (s.data.toList)):(0:Int)<=((0:Nat):Int)/\((0:Nat):Int)<=(i:Int)/\(i:Int)<=(s.size:Int):=by
 have:=bzT h; omega
theorem bcB{s:BA}{i:Nat}(h:i<List.length (s.data.toList)):(0:Int)<=(i:Int)+1/\(i:Int)+1<=(s.size:Int)/\(s.size:Int)<=(s.size:Int):=by
 have:=bzT h; omega
def ptI:List UInt8->Nat
 | []=>0
 | c::r=>if ((c.toNat:Nat):Int)=46 then 0 else ptI r+1
abbrev nCu_I(s:BA)(j:Int)(e:Ext):S:=S.mk [(0,vS s),(2,vS nm0),(3,vS nm0),(4,.v (.bool false)),(5,vI6 j)] [] e
inductive nCu_R where
 | e0 (i:Nat)
 | e1
def nCu_f  : List UInt8->Nat->nCu_R
 | [],i=>(nCu_R.e1)
 | el::r,i=>(if (↑(UInt8.toNat el):Int)=46 then (nCu_R.e0 i) else nCu_f  r (i+1))
def nCu_q(s:BA)(e:Ext):nCu_R->PExit × S
 | .e0 i=>(.ret,S.mk [(0,vS s),(2,vS (ByteArray.extract s 0 i)),(3,vS (ByteArray.extract s (i+1) (ByteArray.size s))),(4,.v (.bool true))] [] e)
 | .e1=>(.exit 0,S.mk [(0,vS s),(2,vS nm0),(3,vS nm0),(4,.v (.bool false))] [] e)
theorem nCu_lp(s:BA)(e:Ext)(hN:List.length ((s.data.toList))<=1000000000):(Ob.loop 24 (loopF f127 0) (nCu_I s 0  e) (nCu_q s e (nCu_f  ((s.data.toList)) 0)).1 (nCu_q s e (nCu_f  ((s.data.toList)) 0)).2).ok prog:=by
 refine rng (List.length ((s.data.toList))) (fun j _=>nCu_I s j  e) (fun i _=>nCu_f  (List.drop i ((s.data.toList))) i) (nCu_q s e) (fun i _=>True) kR ?_ () trivial
 rintro i u hi -
 rcases Nat.lt_or_ge i (List.length ((s.data.toList))) with hlt | hge
 ·have hd:=drop_at hlt
  refine t0 ?_;refine tp [kp,dt ((i:Int)<(↑(ByteArray.size s):Int)) (by (apply bzT <;> first | assumption | omega | decide)),am ((0:Int)<=(i:Int)/\(i:Int)<(↑(ByteArray.size s):Int)) (by simp_all [tn1]),xBy s i] ?_;by_cases h0:(↑(UInt8.toNat (List.getD (Array.toList (ByteArray.data s)) i default)):Int)=46
  ·exact tX mdL [et1 h0,am ((0:Int)<=(0:Int)/\(0:Int)<=(i:Int)/\(i:Int)<=(↑(ByteArray.size s):Int)) (by (apply bcA <;> first | assumption | omega | decide)),av (vS (ByteArray.extract s (Int.toNat (0:Int)) (Int.toNat (i:Int)))) (vS (ByteArray.extract s 0 i)) rF,wr ((i:Int)+1),am ((0:Int)<=(i:Int)+1/\(i:Int)+1<=(↑(ByteArray.size s):Int)/\(↑(ByteArray.size s):Int)<=(↑(ByteArray.size s):Int)) (by (apply bcB <;> first | assumption | omega | decide)),av (vS (ByteArray.extract s (Int.toNat ((i:Int)+1)) (Int.toNat (↑(ByteArray.size s):Int)))) (vS (ByteArray.extract s (i+1) (ByteArray.size s))) rF] (nCu_R.e0 i) (by rw [hd,nCu_f,iP h0])
  ·exact tN mdL [en1 h0,wr ((i:Int)+1)] hlt () trivial (by rw [hd,nCu_f,iN h0])
 ·have he:i=List.length ((s.data.toList)):=by omega
  exact lX mdL [kp,df ((i:Int)<(↑(ByteArray.size s):Int)) (by (apply bzF <;> first | assumption | omega | decide))] (nCu_R.e1) (by rw [he,List.drop_length,nCu_f])
theorem nCuL_1(s:BA)(hs:s.size<=1000000000)(hy0:Nat)(hx1:nCu_f (Array.toList (ByteArray.data s)) 0=nCu_R.e0 hy0):Pu 127 [.str s] (.ret (.tup [.str (ByteArray.extract s 0 hy0),.str (ByteArray.extract s (hy0+1) (ByteArray.size s)),.bool true])):=
 pu mdL (fun e=>[lp (S.mk [(0,vS s),(2,vS nm0),(3,vS nm0),(4,.v (.bool false)),(5,vI6 0)] [] e) (rz (nCu_lp (s) (e) (by (apply sz_le <;> first | assumption | omega | decide))) hx1) ⟨⟨W,Wq,Wq,W,W,tVv⟩,trivial,rfl⟩]) func127
theorem nCuL_2(s:BA)(hs:s.size<=1000000000)(hx0:nCu_f (Array.toList (ByteArray.data s)) 0=nCu_R.e1):Pu 127 [.str s] (.ret (.tup [.str s,.str nm0,.bool false])):=
 pu mdL (fun e=>[lp (S.mk [(0,vS s),(2,vS nm0),(3,vS nm0),(4,.v (.bool false)),(5,vI6 0)] [] e) (rz (nCu_lp (s) (e) (by (apply sz_le <;> first | assumption | omega | decide))) hx0) ⟨⟨W,Wq,Wq,W,W,tVv⟩,trivial,rfl⟩]) func127
theorem nTiT(s:BA):Pu 129 [.str s] (.ret (.bool (titleB s))):=by
 unfold titleB
 cases hsa:szB s with
 | false=>exact pm mdL [cl (@nSiT s),rp 5 (bt (!szB s) (bnT hsa)),rp 5 (bt true)] func129
 | true=>
  cases hsb:cpB (s.data.toList.getD 0 default).toNat with
  | false=>exact nTiB s hsa hsb
  | true=>
   cases hsc:s.data.toList.all anB with
   | false=>exact nTiC s hsa hsb hsc
   | true=>
    simp only [Bool.true_and]
    by_cases h1:s=tInt
    ·rw [decide_eq_true h1]; simpa using nTiD_4 s hsa hsb hsc h1
    ·by_cases h2:s=tBool
     ·rw [decide_eq_true h2]; simpa using nTiD_3 s hsa hsb hsc h1 h2
     ·by_cases h3:s=tCell
      ·rw [decide_eq_true h3]; simpa using nTiD_2 s hsa hsb hsc h1 h2 h3
      ·have e:(!decide (s=tInt) && !decide (s=tBool) && !decide (s=tCell) && !decide (s=tFun)) = !(ByteArray.toList s==ByteArray.toList tFun):=by
        rw [decide_eq_false h1,decide_eq_false h2,decide_eq_false h3]
        by_cases h4:s=tFun
        ·rw [decide_eq_true h4,bsT h4]; rfl
        ·rw [decide_eq_false h4,bsF h4]; rfl
       rw [e]
       exact nTiD_1 s hsa hsb hsc h1 h2 h3
theorem nCu_e:∀ (l:List UInt8) (k:Nat),nCu_f l k=if ptI l<l.length then .e0 (k+ptI l) else .e1
 | [],k=>by simp [nCu_f,ptI]
 | c::r,k=>by
  by_cases h:((c.toNat:Nat):Int)=46
  ·simp [nCu_f,ptI,h]
  ·simp only [nCu_f,ptI,h,if_false,nCu_e r (k+1),List.length_cons]
   by_cases h2:ptI r<r.length
   ·rw [iP h2,iP oM]; congr 1; omega
   ·rw [iN h2,iN oM]
abbrev ptS(s:BA):Nat:=ptI s.data.toList
theorem nCuT(s:BA)(hs:s.size<=1000000000)(hx:ptS s<s.size):Pu 127 [.str s] (.ret (.tup [.str (s.extract 0 (ptS s)),.str (s.extract (ptS s+1) s.size),.bool true])):=
 nCuL_1 s hs _ (by rw [nCu_e,iP (by simpa using hx),Nat.zero_add])
theorem nCuF(s:BA)(hs:s.size<=1000000000)(hx:¬ptS s<s.size):Pu 127 [.str s] (.ret (.tup [.str s,.str nm0,.bool false])):=
 nCuL_2 s hs (by rw [nCu_e,iN (by simpa using hx)])
def partB(s:BA):Bool:=szB s&&(s.data.toList.all anB||wordB s.data.toList)
abbrev coI(first rest:BA)(more:Bool)(xe:Ext):S:=⟨[(2,.v (.int .i64 0)),(4,.v (.str rest)),(5,.v (.bool more))],[],xe⟩
section
variable (rest:BA) (xe:Ext)
include rest xe
theorem coZ(cx:Cx)(hcx:cx.n=52){Q:PExit->S->Prop}(hq:Q (.exit 0) (S.mk [(2,vI6 0),(4,vS rest),(5,.v (.bool false))] [] xe)):PW prog cx (loopF f108 0) (coI rest rest false xe) Q:=
 pw mdL 52 [bf false] [2,4,5] [] hcx hq
theorem coT_1(hs:rest.size<=1000000000)(hx:ptS rest<rest.size)(hx0:szB (ByteArray.extract rest 0 (ptS rest))=false)(cx:Cx)(hcx:cx.n=52){Q:PExit->S->Prop}(hq:Q (.ret) (S.mk [(2,vI6 3),(4,vS (ByteArray.extract rest (ptS rest+1) (ByteArray.size rest))),(5,.v (.bool true))] [] xe)):PW prog cx (loopF f108 0) (coI rest rest true xe) Q:=
 pw mdL 52 [bt true,cl (@nCuT rest hs hx),cl (@nSiT (ByteArray.extract rest 0 (ptS rest))),rp 6 (bt1 (bnT hx0)),bt true] [2,4,5] [] hcx hq
theorem coT_2(hs:rest.size<=1000000000)(hx:ptS rest<rest.size)(hx0:szB (ByteArray.extract rest 0 (ptS rest))=true)(hx1:List.all (Array.toList (ByteArray.data (ByteArray.extract rest 0 (ptS rest)))) anB=false)(hx2:wordB (Array.toList (ByteArray.data (ByteArray.extract rest 0 (ptS rest))))=false)(cx:Cx)(hcx:cx.n=52){Q:PExit->S->Prop}(hq:Q (.ret) (S.mk [(2,vI6 3),(4,vS (ByteArray.extract rest (ptS rest+1) (ByteArray.size rest))),(5,.v (.bool true))] [] xe)):PW prog cx (loopF f108 0) (coI rest rest true xe) Q:=
 pw mdL 52 [bt true,cl (@nCuT rest hs hx),cl (@nSiT (ByteArray.extract rest 0 (ptS rest))),rp 2 (bf1 (bnF hx0)),cl (@nAlT (ByteArray.extract rest 0 (ptS rest)) (by (apply szB_s <;> first | assumption | omega | decide))),rp 2 (bf1 (bnF hx0)),rp 2 (bt1 (bnT hx1)),cl (@nWdT (ByteArray.extract rest 0 (ptS rest)) (by (apply szB_s <;> first | assumption | omega | decide))),bt1 (bnT hx1),bf1 (bnF hx0),bt1 (bnT hx1),bf1 (bnF hx0),bt1 (bnT hx2)] [2,4,5] [] hcx hq
theorem coT_3(hs:rest.size<=1000000000)(hx:ptS rest<rest.size)(hx0:szB (ByteArray.extract rest 0 (ptS rest))=true)(hx1:List.all (Array.toList (ByteArray.data (ByteArray.extract rest 0 (ptS rest)))) anB=false)(hx2:wordB (Array.toList (ByteArray.data (ByteArray.extract rest 0 (ptS rest))))=true)(cx:Cx)(hcx:cx.n=52){Q:PExit->S->Prop}(hq:Q (.normal) (S.mk [(2,vI6 0),(4,vS (ByteArray.extract rest (ptS rest+1) (ByteArray.size rest))),(5,.v (.bool true))] [] xe)):PW prog cx (loopF f108 0) (coI rest rest true xe) Q:=
 pw mdL 52 [bt true,cl (@nCuT rest hs hx),cl (@nSiT (ByteArray.extract rest 0 (ptS rest))),rp 2 (bf1 (bnF hx0)),cl (@nAlT (ByteArray.extract rest 0 (ptS rest)) (by (apply szB_s <;> first | assumption | omega | decide))),rp 2 (bf1 (bnF hx0)),rp 2 (bt1 (bnT hx1)),cl (@nWdT (ByteArray.extract rest 0 (ptS rest)) (by (apply szB_s <;> first | assumption | omega | decide))),bt1 (bnT hx1),bf1 (bnF hx0),bt1 (bnT hx1),bf1 (bnF hx0),bf1 (bnF hx2)] [2,4,5] [] hcx hq
theorem coT_4(hs:rest.size<=1000000000)(hx:ptS rest<rest.size)(hx0:szB (ByteArray.extract rest 0 (ptS rest))=true)(hx1:List.all (Array.toList (ByteArray.data (ByteArray.extract rest 0 (ptS rest)))) anB=true)(cx:Cx)(hcx:cx.n=52){Q:PExit->S->Prop}(hq:Q (.normal) (S.mk [(2,vI6 0),(4,vS (ByteArray.extract rest (ptS rest+1) (ByteArray.size rest))),(5,.v (.bool true))] [] xe)):PW prog cx (loopF f108 0) (coI rest rest true xe) Q:=
 pw mdL 52 [bt true,cl (@nCuT rest hs hx),cl (@nSiT (ByteArray.extract rest 0 (ptS rest))),rp 2 (bf1 (bnF hx0)),cl (@nAlT (ByteArray.extract rest 0 (ptS rest)) (by (apply szB_s <;> first | assumption | omega | decide))),rp 2 (bf1 (bnF hx0)),rp 3 (bf1 (bnF hx1)),bf1 (bnF hx0),bf1 (bnF hx1),bf1 (bnF hx0),bf false] [2,4,5] [] hcx hq
theorem coF_1(hs:rest.size<=1000000000)(hx:¬ptS rest<rest.size)(hx0:szB rest=false)(cx:Cx)(hcx:cx.n=52){Q:PExit->S->Prop}(hq:Q (.ret) (S.mk [(2,vI6 3),(4,vS nm0),(5,.v (.bool false))] [] xe)):PW prog cx (loopF f108 0) (coI rest rest true xe) Q:=
 pw mdL 52 [bt true,cl (@nCuF rest hs hx),cl (@nSiT rest),rp 6 (bt1 (bnT hx0)),bt true] [2,4,5] [] hcx hq
theorem coF_2(hs:rest.size<=1000000000)(hx:¬ptS rest<rest.size)(hx0:szB rest=true)(hx1:List.all (Array.toList (ByteArray.data rest)) anB=false)(hx2:wordB (Array.toList (ByteArray.data rest))=false)(cx:Cx)(hcx:cx.n=52){Q:PExit->S->Prop}(hq:Q (.ret) (S.mk [(2,vI6 3),(4,vS nm0),(5,.v (.bool false))] [] xe)):PW prog cx (loopF f108 0) (coI rest rest true xe) Q:=
 pw mdL 52 [bt true,cl (@nCuF rest hs hx),cl (@nSiT rest),rp 2 (bf1 (bnF hx0)),cl (@nAlT rest hs),rp 2 (bf1 (bnF hx0)),rp 2 (bt1 (bnT hx1)),cl (@nWdT rest hs),bt1 (bnT hx1),bf1 (bnF hx0),bt1 (bnT hx1),bf1 (bnF hx0),bt1 (bnT hx2)] [2,4,5] [] hcx hq
theorem coF_3(hs:rest.size<=1000000000)(hx:¬ptS rest<rest.size)(hx0:szB rest=true)(hx1:List.all (Array.toList (ByteArray.data rest)) anB=false)(hx2:wordB (Array.toList (ByteArray.data rest))=true)(cx:Cx)(hcx:cx.n=52){Q:PExit->S->Prop}(hq:Q (.normal) (S.mk [(2,vI6 0),(4,vS nm0),(5,.v (.bool false))] [] xe)):PW prog cx (loopF f108 0) (coI rest rest true xe) Q:=
 pw mdL 52 [bt true,cl (@nCuF rest hs hx),cl (@nSiT rest),rp 2 (bf1 (bnF hx0)),cl (@nAlT rest hs),rp 2 (bf1 (bnF hx0)),rp 2 (bt1 (bnT hx1)),cl (@nWdT rest hs),bt1 (bnT hx1),bf1 (bnF hx0),bt1 (bnT hx1),bf1 (bnF hx0),bf1 (bnF hx2)] [2,4,5] [] hcx hq
theorem coF_4(hs:rest.size<=1000000000)(hx:¬ptS rest<rest.size)(hx0:szB rest=true)(hx1:List.all (Array.toList (ByteArray.data rest)) anB=true)(cx:Cx)(hcx:cx.n=52){Q:PExit->S->Prop}(hq:Q (.normal) (S.mk [(2,vI6 0),(4,vS nm0),(5,.v (.bool false))] [] xe)):PW prog cx (loopF f108 0) (coI rest rest true xe) Q:=
 pw mdL 52 [bt true,cl (@nCuF rest hs hx),cl (@nSiT rest),rp 2 (bf1 (bnF hx0)),cl (@nAlT rest hs),rp 2 (bf1 (bnF hx0)),rp 3 (bf1 (bnF hx1)),bf1 (bnF hx0),bf1 (bnF hx1),bf1 (bnF hx0),bf false] [2,4,5] [] hcx hq
end
def coR:Nat->BA->Bool
 | 0,_=>true
 | n+1,s=>if ptS s<s.size then partB (s.extract 0 (ptS s))&&coR n (s.extract (ptS s+1) s.size) else partB s
theorem ext_lt(s:BA)(h:ptS s<s.size):(s.extract (ptS s+1) s.size).size<s.size:=by rw [ByteArray.size_extract]; omega
theorem coR_fuel:∀ (n m:Nat) (s:BA),s.size<n->s.size<m->coR n s=coR m s
 | 0,_,_,h,_=>by omega
 | _+1,0,_,_,h=>by omega
 | n+1,m+1,s,h,k=>by
  simp only [coR]
  by_cases hx:ptS s<s.size
  ·have:=ext_lt s hx
   rw [iP hx,iP hx,coR_fuel n m _ oM oM]
  ·rw [iN hx,iN hx]
def corG(s:BA):Bool:=coR (s.size+1) s
theorem corG_e(s:BA):corG s=if ptS s<s.size then partB (s.extract 0 (ptS s))&&corG (s.extract (ptS s+1) s.size) else partB s:=by
 unfold corG
 rw [coR]
 by_cases hx:ptS s<s.size
 ·have:=ext_lt s hx
  rw [iP hx,iP hx,coR_fuel _ ((s.extract (ptS s+1) s.size).size+1) _ oM oM]
 ·rw [iN hx,iN hx]
def coQ(xe:Ext)(b:Bool):PExit × S:=if b=true then (.exit 0,⟨[(2,.v (.int .i64 0))],[],xe⟩) else (.ret,⟨[(2,.v (.int .i64 3))],[],xe⟩)
def coM(x:BA × Bool):Bool:=if x.2=true then corG x.1 else true
theorem co_lp(xe:Ext)(rest:BA)(more:Bool)(hs:rest.size<=1000000000):(Ob.loop 52 (loopF f108 0) (coI rest rest more xe) (coQ xe (coM (rest,more))).1 (coQ xe (coM (rest,more))).2).ok prog:=by
 refine Ob.loop_of (P:=prog) (α:={ x:BA × Bool // x.1.size<=1000000000 }) (fun x=>coI x.1.1 x.1.1 x.1.2 xe) (fun x=>if x.1.2=true then x.1.1.size+1 else 0) (fun x=>coQ xe (coM x.1)) ?_ ⟨(rest,more),hs⟩
 clear hs more rest
 rintro ⟨⟨rest,more⟩,hs⟩ cx hcx
 replace hs:rest.size<=1000000000:=hs
 have W1:∀ (r:BA) (b:Bool),LeX (⟨[(2,.v (.int .i64 3))],[],xe⟩:S) ⟨[(2,.v (.int .i64 3)),(4,.v (.str r)),(5,.v (.bool b))],[],xe⟩:=fun r b=>⟨⟨W,tVv⟩,trivial,rfl⟩
 cases more with
 | false=>
  have hr:coQ xe (coM (rest,false))=(.exit 0,⟨[(2,.v (.int .i64 0))],[],xe⟩):=rfl
  refine coZ rest xe cx hcx (.inr ?_)
  simp only
  rw [hr]
  exact ⟨by simp,rfl,xr⟩
 | true=>
  have hm:coM (rest,true)=corG rest:=rfl
  by_cases hx:ptS rest<rest.size
  ·have hlt:=ext_lt rest hx
   have hg:=corG_e rest
   rw [iP hx] at hg
   have bad:partB (rest.extract 0 (ptS rest))=false->coQ xe (coM (rest,true))=(.ret,⟨[(2,.v (.int .i64 3))],[],xe⟩):=fun h=>by rw [hm,hg,h]; rfl
   have good:partB (rest.extract 0 (ptS rest))=true->coQ xe (coM (rest,true))=coQ xe (coM (rest.extract (ptS rest+1) rest.size,true)):=fun h=>by rw [hm,hg,h]; rfl
   cases h0:szB (rest.extract 0 (ptS rest)) with
   | false=>
    refine coT_1 rest xe hs hx h0 cx hcx (.inr ?_)
    simp only
    rw [bad (by simp [partB,h0])]
    exact ⟨by simp,rfl,W1 _ _⟩
   | true=>
    cases h1:(rest.extract 0 (ptS rest)).data.toList.all anB with
    | true=>exact coT_4 rest xe hs hx h0 h1 cx hcx (.inl ⟨rfl,⟨(rest.extract (ptS rest+1) rest.size,true),by simp only; omega⟩,by simp only [if_true]; omega,⟨⟨W,W,W,tVv⟩,trivial,rfl⟩,(good (by simp only [partB,h0,h1]; rfl)).symm⟩)
    | false=>
     cases h2:wordB (rest.extract 0 (ptS rest)).data.toList with
     | true=>exact coT_3 rest xe hs hx h0 h1 h2 cx hcx (.inl ⟨rfl,⟨(rest.extract (ptS rest+1) rest.size,true),by simp only; omega⟩,by simp only [if_true]; omega,⟨⟨W,W,W,tVv⟩,trivial,rfl⟩,(good (by simp only [partB,h0,h1,h2]; rfl)).symm⟩)
     | false=>
      refine coT_2 rest xe hs hx h0 h1 h2 cx hcx (.inr ?_)
      simp only
      rw [bad (by simp only [partB,h0,h1,h2]; rfl)]
      exact ⟨by simp,rfl,W1 _ _⟩
  ·have hg:=corG_e rest
   rw [iN hx] at hg
   have bad:partB rest=false->coQ xe (coM (rest,true))=(.ret,⟨[(2,.v (.int .i64 3))],[],xe⟩):=fun h=>by rw [hm,hg,h]; rfl
   have good:partB rest=true->coQ xe (coM (rest,true))=coQ xe (coM (nm0,false)):=fun h=>by rw [hm,hg,h]; rfl
   cases h0:szB rest with
   | false=>
    refine coF_1 rest xe hs hx h0 cx hcx (.inr ?_)
    simp only
    rw [bad (by simp [partB,h0])]
    exact ⟨by simp,rfl,W1 _ _⟩
   | true=>
    cases h1:rest.data.toList.all anB with
    | true=>exact coF_4 rest xe hs hx h0 h1 cx hcx (.inl ⟨rfl,⟨(nm0,false),by decide⟩,by simp,⟨⟨W,W,W,tVv⟩,trivial,rfl⟩,(good (by simp only [partB,h0,h1]; rfl)).symm⟩)
    | false=>
     cases h2:wordB rest.data.toList with
     | true=>exact coF_3 rest xe hs hx h0 h1 h2 cx hcx (.inl ⟨rfl,⟨(nm0,false),by decide⟩,by simp,⟨⟨W,W,W,tVv⟩,trivial,rfl⟩,(good (by simp only [partB,h0,h1,h2]; rfl)).symm⟩)
     | false=>
      refine coF_2 rest xe hs hx h0 h1 h2 cx hcx (.inr ?_)
      simp only
      rw [bad (by simp only [partB,h0,h1,h2]; rfl)]
      exact ⟨by simp,rfl,W1 _ _⟩
theorem co_T(xe:Ext)(rest:BA)(more:Bool)(hs:rest.size<=1000000000)(hb:coM (rest,more)=true):(Ob.loop 52 (loopF f108 0) (coI rest rest more xe) (.exit 0) ⟨[(2,.v (.int .i64 0))],[],xe⟩).ok prog:=by
 have:=co_lp xe rest more hs
 rw [hb] at this
 exact this
theorem co_F(xe:Ext)(rest:BA)(more:Bool)(hs:rest.size<=1000000000)(hb:coM (rest,more)=false):(Ob.loop 52 (loopF f108 0) (coI rest rest more xe) .ret ⟨[(2,.v (.int .i64 3))],[],xe⟩).ok prog:=by
 have:=co_lp xe rest more hs
 rw [hb] at this
 exact this
theorem ex_le{s:BA}{a b:Nat}(h:(s.size:Int)<=120):(s.extract a b).size<=1000000000:=by rw [ByteArray.size_extract]; omega
theorem s_le{s:BA}(h:(s.size:Int)<=120):s.size<=1000000000:=by omega
abbrev tV:BA:=⟨#[118]⟩
section
variable (s:BA)
include s
theorem nCoA(hl:(s.size:Int)>120):Pu 108 [.str s] (rI 3):=
 pm mdL [kp,dt ((↑(ByteArray.size s):Int)>120) hl] func108
theorem nCoB_1(hl:(s.size:Int)<=120)(hx:ptS s<s.size)(hx0:nameB (ByteArray.extract s 0 (ptS s))=false)(hx1:titleB (ByteArray.extract s 0 (ptS s))=false)(hx2:¬ByteArray.extract s 0 (ptS s)=ByteArray.mk #[118]):Pu 108 [.str s] (rI 3):=
 pm mdL [kp,df ((↑(ByteArray.size s):Int)>120),cl (@nCuT s oM hx),cl (@nNmT (ByteArray.extract s 0 (ptS s))),rp 2 (bt1 (bnT hx0)),cl (@nTiT (ByteArray.extract s 0 (ptS s))),rp 2 (bt1 (bnT hx0)),rp 3 (bt1 (bnT hx1)),rp 2 (bt (!ByteArray.toList (ByteArray.extract s 0 (ptS s))==ByteArray.toList (bM 118)) (bnT (bsF hx2))),bt1 (bnT hx1),bt (!ByteArray.toList (ByteArray.extract s 0 (ptS s))==ByteArray.toList (bM 118)) (bnT (bsF hx2)),bt1 (bnT hx1),bt true] func108
theorem nCoB_2(hl:(s.size:Int)<=120)(hx:ptS s<s.size)(hx0:nameB (ByteArray.extract s 0 (ptS s))=false)(hx1:titleB (ByteArray.extract s 0 (ptS s))=false)(hx2:ByteArray.extract s 0 (ptS s)=ByteArray.mk #[118])(hx3:coM (ByteArray.extract s (ptS s+1) (ByteArray.size s),true)=true):Pu 108 [.str s] (rI 0):=
 pu mdL (fun e=>[kp,df ((↑(ByteArray.size s):Int)>120),cl (@nCuT s oM hx),cl (@nNmT (ByteArray.extract s 0 (ptS s))),rp 2 (bt1 (bnT hx0)),cl (@nTiT (ByteArray.extract s 0 (ptS s))),rp 2 (bt1 (bnT hx0)),rp 3 (bt1 (bnT hx1)),rp 2 (bf (!ByteArray.toList (ByteArray.extract s 0 (ptS s))==ByteArray.toList (bM 118)) (bnF (bsT hx2))),bt1 (bnT hx1),bf (!ByteArray.toList (ByteArray.extract s 0 (ptS s))==ByteArray.toList (bM 118)) (bnF (bsT hx2)),bt1 (bnT hx1),bf false,lq (@co_T e (ByteArray.extract s (ptS s+1) (ByteArray.size s)) true (by (apply ex_le <;> first | assumption | omega | decide)) hx3)]) func108
theorem nCoB_3(hl:(s.size:Int)<=120)(hx:ptS s<s.size)(hx0:nameB (ByteArray.extract s 0 (ptS s))=false)(hx1:titleB (ByteArray.extract s 0 (ptS s))=false)(hx2:ByteArray.extract s 0 (ptS s)=ByteArray.mk #[118])(hx3:coM (ByteArray.extract s (ptS s+1) (ByteArray.size s),true)=false):Pu 108 [.str s] (rI 3):=
 pu mdL (fun e=>[kp,df ((↑(ByteArray.size s):Int)>120),cl (@nCuT s oM hx),cl (@nNmT (ByteArray.extract s 0 (ptS s))),rp 2 (bt1 (bnT hx0)),cl (@nTiT (ByteArray.extract s 0 (ptS s))),rp 2 (bt1 (bnT hx0)),rp 3 (bt1 (bnT hx1)),rp 2 (bf (!ByteArray.toList (ByteArray.extract s 0 (ptS s))==ByteArray.toList (bM 118)) (bnF (bsT hx2))),bt1 (bnT hx1),bf (!ByteArray.toList (ByteArray.extract s 0 (ptS s))==ByteArray.toList (bM 118)) (bnF (bsT hx2)),bt1 (bnT hx1),bf false,lq (@co_F e (ByteArray.extract s (ptS s+1) (ByteArray.size s)) true (by (apply ex_le <;> first | assumption | omega | decide)) hx3)]) func108
theorem nCoB_4(hl:(s.size:Int)<=120)(hx:ptS s<s.size)(hx0:nameB (ByteArray.extract s 0 (ptS s))=false)(hx1:titleB (ByteArray.extract s 0 (ptS s))=true)(hx2:coM (ByteArray.extract s (ptS s+1) (ByteArray.size s),true)=true):Pu 108 [.str s] (rI 0):=
 pu mdL (fun e=>[kp,df ((↑(ByteArray.size s):Int)>120),cl (@nCuT s oM hx),cl (@nNmT (ByteArray.extract s 0 (ptS s))),rp 2 (bt1 (bnT hx0)),cl (@nTiT (ByteArray.extract s 0 (ptS s))),rp 2 (bt1 (bnT hx0)),rp 5 (bf1 (bnF hx1)),bf false,lq (@co_T e (ByteArray.extract s (ptS s+1) (ByteArray.size s)) true (by (apply ex_le <;> first | assumption | omega | decide)) hx2)]) func108
theorem nCoB_5(hl:(s.size:Int)<=120)(hx:ptS s<s.size)(hx0:nameB (ByteArray.extract s 0 (ptS s))=false)(hx1:titleB (ByteArray.extract s 0 (ptS s))=true)(hx2:coM (ByteArray.extract s (ptS s+1) (ByteArray.size s),true)=false):Pu 108 [.str s] (rI 3):=
 pu mdL (fun e=>[kp,df ((↑(ByteArray.size s):Int)>120),cl (@nCuT s oM hx),cl (@nNmT (ByteArray.extract s 0 (ptS s))),rp 2 (bt1 (bnT hx0)),cl (@nTiT (ByteArray.extract s 0 (ptS s))),rp 2 (bt1 (bnT hx0)),rp 5 (bf1 (bnF hx1)),bf false,lq (@co_F e (ByteArray.extract s (ptS s+1) (ByteArray.size s)) true (by (apply ex_le <;> first | assumption | omega | decide)) hx2)]) func108
theorem nCoB_6(hl:(s.size:Int)<=120)(hx:ptS s<s.size)(hx0:nameB (ByteArray.extract s 0 (ptS s))=true)(hx1:coM (ByteArray.extract s (ptS s+1) (ByteArray.size s),true)=true):Pu 108 [.str s] (rI 0):=
 pu mdL (fun e=>[kp,df ((↑(ByteArray.size s):Int)>120),cl (@nCuT s oM hx),cl (@nNmT (ByteArray.extract s 0 (ptS s))),rp 4 (bf1 (bnF hx0)),rp 6 (bf false),lq (@co_T e (ByteArray.extract s (ptS s+1) (ByteArray.size s)) true (by (apply ex_le <;> first | assumption | omega | decide)) hx1)]) func108
theorem nCoB_7(hl:(s.size:Int)<=120)(hx:ptS s<s.size)(hx0:nameB (ByteArray.extract s 0 (ptS s))=true)(hx1:coM (ByteArray.extract s (ptS s+1) (ByteArray.size s),true)=false):Pu 108 [.str s] (rI 3):=
 pu mdL (fun e=>[kp,df ((↑(ByteArray.size s):Int)>120),cl (@nCuT s oM hx),cl (@nNmT (ByteArray.extract s 0 (ptS s))),rp 4 (bf1 (bnF hx0)),rp 6 (bf false),lq (@co_F e (ByteArray.extract s (ptS s+1) (ByteArray.size s)) true (by (apply ex_le <;> first | assumption | omega | decide)) hx1)]) func108
theorem nCoC_1(hl:(s.size:Int)<=120)(hx:¬ptS s<s.size)(hx0:nameB s=false)(hx1:titleB s=false)(hx2:¬s=ByteArray.mk #[118]):Pu 108 [.str s] (rI 3):=
 pm mdL [kp,df ((↑(ByteArray.size s):Int)>120),cl (@nCuF s oM hx),cl (@nNmT s),rp 2 (bt1 (bnT hx0)),cl (@nTiT s),rp 2 (bt1 (bnT hx0)),rp 3 (bt1 (bnT hx1)),rp 2 (bt (!ByteArray.toList s==ByteArray.toList (bM 118)) (bnT (bsF hx2))),bt1 (bnT hx1),bt (!ByteArray.toList s==ByteArray.toList (bM 118)) (bnT (bsF hx2)),bt1 (bnT hx1),bt true] func108
theorem nCoC_2(hl:(s.size:Int)<=120)(hx:¬ptS s<s.size)(hx0:nameB s=false)(hx1:titleB s=false)(hx2:s=ByteArray.mk #[118]):Pu 108 [.str s] (rI 3):=
 pm mdL [kp,df ((↑(ByteArray.size s):Int)>120),cl (@nCuF s oM hx),cl (@nNmT s),rp 2 (bt1 (bnT hx0)),cl (@nTiT s),rp 2 (bt1 (bnT hx0)),rp 3 (bt1 (bnT hx1)),rp 2 (bf (!ByteArray.toList s==ByteArray.toList (bM 118)) (bnF (bsT hx2))),bt1 (bnT hx1),bf (!ByteArray.toList s==ByteArray.toList (bM 118)) (bnF (bsT hx2)),bt1 (bnT hx1),bt true] func108
theorem nCoC_3(hl:(s.size:Int)<=120)(hx:¬ptS s<s.size)(hx0:nameB s=false)(hx1:titleB s=true):Pu 108 [.str s] (rI 0):=
 pu mdL (fun e=>[kp,df ((↑(ByteArray.size s):Int)>120),cl (@nCuF s oM hx),cl (@nNmT s),rp 2 (bt1 (bnT hx0)),cl (@nTiT s),rp 2 (bt1 (bnT hx0)),rp 5 (bf1 (bnF hx1)),bf false,lq (@co_T e nm0 false (by (apply s_le <;> first | assumption | omega | decide)) rF)]) func108
theorem nCoC_4(hl:(s.size:Int)<=120)(hx:¬ptS s<s.size)(hx0:nameB s=true):Pu 108 [.str s] (rI 0):=
 pu mdL (fun e=>[kp,df ((↑(ByteArray.size s):Int)>120),cl (@nCuF s oM hx),cl (@nNmT s),rp 4 (bf1 (bnF hx0)),rp 6 (bf false),lq (@co_T e nm0 false (by (apply s_le <;> first | assumption | omega | decide)) rF)]) func108
end
theorem tp_bulk(x:Tp):bulkPss (Tp.cs (tpA x))+bulkPss (Pr.cs (tpPs x))+bulkPs (prL (tpP x))<bulkPs (tpL x):=by simp only [bulkPs,bulkP]; omega
def coreB(s:BA):Bool:=decide (s.size<=120)&&(if ptS s<s.size then (nameB (s.extract 0 (ptS s))||titleB (s.extract 0 (ptS s))||decide (s.extract 0 (ptS s)=tV))&&corG (s.extract (ptS s+1) s.size) else nameB s||titleB s)
theorem coM_t{x:BA}{b:Bool}(h:corG x=b):coM (x,true)=b:=by rw [<-h]; unfold coM; rw [iP rfl]
theorem nCoT(s:BA):Pu 108 [.str s] (.ret (.int .i64 (erN (coreB s)))):=by
 unfold coreB
 by_cases hl:s.size<=120
 ·have hl':(s.size:Int)<=120:=by omega
  rw [decide_eq_true hl,Bool.true_and]
  by_cases hx:ptS s<s.size
  ·rw [iP hx]
   cases h0:nameB (s.extract 0 (ptS s)) with
   | true=>
    cases h3:corG (s.extract (ptS s+1) s.size) with
    | true=>simpa only [Bool.true_or,Bool.false_or,Bool.true_and,Bool.or_true,Bool.false_and,Bool.and_true,Bool.and_false,Bool.or_false,erN,if_true,Bool.false_eq_true,if_false] using nCoB_6 s hl' hx h0 (coM_t h3)
    | false=>simpa only [Bool.true_or,Bool.false_or,Bool.true_and,Bool.or_true,Bool.false_and,Bool.and_true,Bool.and_false,Bool.or_false,erN,if_true,Bool.false_eq_true,if_false] using nCoB_7 s hl' hx h0 (coM_t h3)
   | false=>
    cases h1:titleB (s.extract 0 (ptS s)) with
    | true=>
     cases h3:corG (s.extract (ptS s+1) s.size) with
     | true=>simpa only [Bool.true_or,Bool.false_or,Bool.true_and,Bool.or_true,Bool.false_and,Bool.and_true,Bool.and_false,Bool.or_false,erN,if_true,Bool.false_eq_true,if_false] using nCoB_4 s hl' hx h0 h1 (coM_t h3)
     | false=>simpa only [Bool.true_or,Bool.false_or,Bool.true_and,Bool.or_true,Bool.false_and,Bool.and_true,Bool.and_false,Bool.or_false,erN,if_true,Bool.false_eq_true,if_false] using nCoB_5 s hl' hx h0 h1 (coM_t h3)
    | false=>
     by_cases h2:s.extract 0 (ptS s)=tV
     ·rw [decide_eq_true h2]
      cases h3:corG (s.extract (ptS s+1) s.size) with
      | true=>simpa only [Bool.true_or,Bool.false_or,Bool.true_and,Bool.or_true,Bool.false_and,Bool.and_true,Bool.and_false,Bool.or_false,erN,if_true,Bool.false_eq_true,if_false] using nCoB_2 s hl' hx h0 h1 h2 (coM_t h3)
      | false=>simpa only [Bool.true_or,Bool.false_or,Bool.true_and,Bool.or_true,Bool.false_and,Bool.and_true,Bool.and_false,Bool.or_false,erN,if_true,Bool.false_eq_true,if_false] using nCoB_3 s hl' hx h0 h1 h2 (coM_t h3)
     ·rw [decide_eq_false h2]; simpa only [Bool.true_or,Bool.false_or,Bool.true_and,Bool.or_true,Bool.false_and,Bool.and_true,Bool.and_false,Bool.or_false,erN,if_true,Bool.false_eq_true,if_false] using nCoB_1 s hl' hx h0 h1 h2
  ·rw [iN hx]
   cases h0:nameB s with
   | true=>simpa only [Bool.true_or,Bool.false_or,Bool.true_and,Bool.or_true,Bool.false_and,Bool.and_true,Bool.and_false,Bool.or_false,erN,if_true,Bool.false_eq_true,if_false] using nCoC_4 s hl' hx h0
   | false=>
    cases h1:titleB s with
    | true=>simpa only [Bool.true_or,Bool.false_or,Bool.true_and,Bool.or_true,Bool.false_and,Bool.and_true,Bool.and_false,Bool.or_false,erN,if_true,Bool.false_eq_true,if_false] using nCoC_3 s hl' hx h0 h1
    | false=>
     by_cases h2:s=tV
     ·simpa only [Bool.true_or,Bool.false_or,Bool.true_and,Bool.or_true,Bool.false_and,Bool.and_true,Bool.and_false,Bool.or_false,erN,if_true,Bool.false_eq_true,if_false] using nCoC_2 s hl' hx h0 h1 h2
     ·simpa only [Bool.true_or,Bool.false_or,Bool.true_and,Bool.or_true,Bool.false_and,Bool.and_true,Bool.and_false,Bool.or_false,erN,if_true,Bool.false_eq_true,if_false] using nCoC_1 s hl' hx h0 h1 h2
 ·rw [decide_eq_false hl,Bool.false_and]; simpa only [Bool.true_or,Bool.false_or,Bool.true_and,Bool.or_true,Bool.false_and,Bool.and_true,Bool.and_false,Bool.or_false,erN,if_true,Bool.false_eq_true,if_false] using nCoA s oM
theorem core_pos{s:BA}(h:erN (coreB s)=0):(0:Int)<=0/\(0:Int)<(s.size:Int):=by
 cases hb:coreB s with
 | false=>rw [hb] at h; cases h
 | true=>
  by_cases hz:s.size=0
  ·have:s=nm0:=by
    have:s.data = #[]:=Array.eq_empty_of_size_eq_zero hz
    cases s; simp only at this; subst this; rfl
   subst this
   rw [show coreB nm0=false by kernel_rfl] at hb
   cases hb
  ·omega
def frE{α:Type}(f:α->Int):List α->Int
 | []=>0
 | x::r=>if f x=0 then frE f r else f x
abbrev tdA_I(t:Tp)(dfz:Tp->Int)(j:Int)(n:Int)(e:Ext):S:=S.mk [(2,vI6 0),(3,vI6 n),(7,vL 9 (Tp.cs (tpA t))),(8,vI6 ((tpA t).length:Int)),(9,vI6 j)] [] e
def tdA_f(dfz:Tp->Int):List Tp->(Int)->(Int)
 | [],n=>(n)
 | el::r,n=>tdA_f dfz r (mxI true n (dfz el))
def tdA_q(t:Tp)(dfz:Tp->Int)(e:Ext)(p:(Int)):PExit × S:=(.exit 0,S.mk [(2,vI6 0),(3,vI6 p),(7,vL 9 (Tp.cs (tpA t))),(8,vI6 ((tpA t).length:Int))] [] e)
theorem tdA(t:Tp)(dfz:Tp->Int)(hwk:∀w:Tp,w∈tpA t->Pu 150 [.agg (tpL w)] (.ret (.int .i64 (dfz w))))(n:Int)(e:Ext)(hN:(tpA t).length<=1000000000)  : (Ob.loop 20 (loopF f150 0) (tdA_I t dfz 0 n e) (tdA_q t dfz e (tdA_f dfz ((tpA t))  n)).1 (tdA_q t dfz e (tdA_f dfz ((tpA t))  n)).2).ok prog:=by
 refine rng ((tpA t).length) (fun j n=>tdA_I t dfz j n e) (fun i n=>tdA_f dfz (List.drop i ((tpA t)))  n) (tdA_q t dfz e) (fun i n=>True) kR ?_ n trivial
 rintro i n hi -
 rcases Nat.lt_or_ge i ((tpA t).length) with hlt | hge
 ·have hd:=drop_at hlt
  exact lN mdL [rgTp hlt,cl (@hwk (List.getD (tpA t) i default) (by simp_all [tn1])),wr ((i:Int)+1)] hlt (mxI true n (dfz (List.getD (tpA t) i default))) trivial (by rw [hd,tdA_f])
 ·have he:i=(tpA t).length:=by omega
  exact lX mdL [df ((i:Int)<((tpA t).length:Int))] (n) (by rw [he,List.drop_length,tdA_f])
abbrev tfA_I(t:Tp)(xe:Ext)(ff:Tp->Int)(j:Int)   : S:=S.mk [(2,vI6 0),(90,vL 9 (Tp.cs (tpA t))),(91,vI6 ((tpA t).length:Int)),(92,vI6 j)] [] xe
inductive tfA_R where
 | e0 (el:Tp)
 | e1
def tfA_f(ff:Tp->Int):List Tp->tfA_R
 | []=>(tfA_R.e1)
 | el::r=>(if ff el=0 then tfA_f ff r  else (tfA_R.e0 el))
def tfA_q(t:Tp)(xe:Ext)(ff:Tp->Int)  : tfA_R->PExit × S
 | .e0 el=>(.ret,S.mk [(2,vI6 (ff el)),(90,vL 9 (Tp.cs (tpA t))),(91,vI6 ((tpA t).length:Int))] [] xe)
 | .e1=>(.exit 0,S.mk [(2,vI6 0),(90,vL 9 (Tp.cs (tpA t))),(91,vI6 ((tpA t).length:Int))] [] xe)
theorem tfA_lp(t:Tp)(xe:Ext)(ff:Tp->Int)(hwk:∀w:Tp,w∈tpA t->Pu 151 [.agg (tpL w)] (.ret (.int .i64 (ff w))))(hN:(tpA t).length<=1000000000):(Ob.loop 102 (loopF f151 0) (tfA_I t xe ff 0) (tfA_q t xe ff  (tfA_f ff ((tpA t)))).1 (tfA_q t xe ff  (tfA_f ff ((tpA t)))).2).ok prog:=by
 refine rng ((tpA t).length) (fun j _=>tfA_I t xe ff j) (fun i _=>tfA_f ff (List.drop i ((tpA t)))) (tfA_q t xe ff) (fun i _=>True) kR ?_ () trivial
 rintro i u hi -
 rcases Nat.lt_or_ge i ((tpA t).length) with hlt | hge
 ·have hd:=drop_at hlt
  refine t0 ?_;refine tp [rgTp hlt,cl (@hwk (List.getD (tpA t) i default) (by simp_all [tn1]))] ?_;by_cases h0:ff (List.getD (tpA t) i default)=0
  ·exact tN mdL [nn1 h0,wr ((i:Int)+1)] hlt () trivial (by rw [hd,tfA_f,iP h0])
  ·exact tX mdL [nt1 h0] (tfA_R.e0 (List.getD ((tpA t)) i default)) (by rw [hd,tfA_f,iN h0])
 ·have he:i=(tpA t).length:=by omega
  exact lX mdL [df ((i:Int)<((tpA t).length:Int))] (tfA_R.e1) (by rw [he,List.drop_length,tfA_f])
theorem tfA_0(t:Tp)(xe:Ext)(ff:Tp->Int)(hwk:∀w:Tp,w∈tpA t->Pu 151 [.agg (tpL w)] (.ret (.int .i64 (ff w))))(hN:(tpA t).length<=1000000000)(p0:Tp)(hres:(tfA_f ff ((tpA t)))=(tfA_R.e0 p0)):(Ob.loop 102 (loopF f151 0) (tfA_I t xe ff 0) (tfA_q t xe ff  (tfA_R.e0 p0)).1 (tfA_q t xe ff  (tfA_R.e0 p0)).2).ok prog:=
 rz (tfA_lp t xe ff hwk hN) hres
theorem tfA_1(t:Tp)(xe:Ext)(ff:Tp->Int)(hwk:∀w:Tp,w∈tpA t->Pu 151 [.agg (tpL w)] (.ret (.int .i64 (ff w))))(hN:(tpA t).length<=1000000000)(hres:(tfA_f ff ((tpA t)))=(tfA_R.e1)):(Ob.loop 102 (loopF f151 0) (tfA_I t xe ff 0) (tfA_q t xe ff  (tfA_R.e1)).1 (tfA_q t xe ff  (tfA_R.e1)).2).ok prog:=
 rz (tfA_lp t xe ff hwk hN) hres
def arE(t:Tp):Int:=if tpO t=4 then (if ((tpA t).length:Int)>6 then 13 else 0) else if tpO t=6 then (if ((tpA t).length:Int)<2 then 13 else if ((tpA t).length:Int)>7 then 13 else if ((tpNs t).length:Int)=0 then 0 else if ((tpNs t).length:Int)=((tpA t).length:Int) - 1 then 0 else 13) else 0
theorem arT(t:Tp):Pu 162 [.agg (tpL t)] (.ret (.int .i64 (arE t))):=by
 unfold arE
 by_cases h0:tpO t=4
 ·rw [iP h0]
  refine t0 ?_;refine tp [et1 h0,sl (Tp.cs_len (tpA t))] ?_;by_cases h1:((tpA t).length:Int)>6
  ·rw [iP h1]; exact tM mdL [dt1 h1] func162
  ·rw [iN h1]; exact tM mdL [df1 h1] func162
 ·rw [iN h0]
  by_cases h1:tpO t=6
  ·rw [iP h1]
   by_cases h2:((tpA t).length:Int)<2
   ·rw [iP h2]; exact pm mdL [en1 h0,et1 h1,sl (Tp.cs_len (tpA t)),rp 5 (dt1 h2),rp 8 (bt true)] func162
   ·rw [iN h2]
    by_cases h3:((tpA t).length:Int)>7
    ·rw [iP h3]; exact pm mdL [en1 h0,et1 h1,sl (Tp.cs_len (tpA t)),rp 3 (df1 h2),sl (Tp.cs_len (tpA t)),rp 2 (df1 h2),rp 7 (dt1 h3),bt true] func162
    ·rw [iN h3]
     by_cases h4:((tpNs t).length:Int)=0
     ·rw [iP h4]; exact pm mdL [en1 h0,et1 h1,sl (Tp.cs_len (tpA t)),rp 3 (df1 h2),sl (Tp.cs_len (tpA t)),rp 2 (df1 h2),rp 3 (df1 h3),sl (nmsC_len (tpNs t)),rp 2 (df1 h3),rp 8 (nn1 h4),df1 h3,nn1 h4,df1 h3,bf false] func162
     ·rw [iN h4]
      refine t0 ?_;refine tp [en1 h0,et1 h1,sl (Tp.cs_len (tpA t)),rp 3 (df1 h2),sl (Tp.cs_len (tpA t)),rp 2 (df1 h2),rp 3 (df1 h3),sl (nmsC_len (tpNs t)),rp 2 (df1 h3),rp 3 (nt1 h4),sl (nmsC_len (tpNs t)),rp 3 (nt1 h4),sl (Tp.cs_len (tpA t)),nt1 h4,wr (((tpA t).length:Int) - 1),nt1 h4,df1 h3,nt1 h4,df1 h3] ?_;by_cases h5:((tpNs t).length:Int)=((tpA t).length:Int) - 1
      ·rw [iP h5]; exact tM mdL [nn1 h5] func162
      ·rw [iN h5]; exact tM mdL [nt1 h5] func162
  ·rw [iN h1]; exact pm mdL [en1 h0,en1 h1] func162
def tdD:Nat->Tp->Int
 | 0,_=>0
 | d+1,t=>tdA_f (tdD d) (tpA t) 0+1
theorem mx_le{f:Tp->Int}{B:Int}:∀ (l:List Tp) (n:Int),0<=n->n<=B->(∀w∈l,0<=f w/\f w<=B)->0<=tdA_f f l n/\tdA_f f l n<=B
 | [],n,h0,h1,_=>⟨h0,h1⟩
 | x::r,n,h0,h1,h=>by
  have hx:=h x sM
  refine mx_le r _ ?_ ?_ fun w hw=>h w (List.mem_cons_of_mem _ hw)
  ·show 0<=(if f x>n then f x else n); split <;> omega
  ·show (if f x>n then f x else n)<=B; split <;> omega
theorem tdD_b:∀ (d:Nat) (t:Tp),0<=tdD d t/\tdD d t<=d
 | 0,_=>⟨Int.le_refl _,Int.le_refl _⟩
 | d+1,t=>by
  have:=mx_le (f:=tdD d) (B:=d) (tpA t) 0 oM oM fun w _=>tdD_b d w
  simp only [tdD]; omega
theorem td_ok:∀ (d:Nat) (t:Tp),bulkPs (tpL t)<d->d<=100000001->Pu 150 [.agg (tpL t)] (.ret (.int .i64 (tdD d t)))
 | 0,_,h,_=>by omega
 | d+1,t,h,hs=>by
  have hb:=mx_le (f:=tdD d) (B:=d) (tpA t) 0 oM oM fun w _=>tdD_b d w
  exact pu mdL (fun e=>[sl (Tp.cs_len (tpA t)),lq (@tdA t ((tdD d)) (fun w hw=>td_ok d w (by have:=tp_bulk t; have:=Tp.mem hw; omega) oM) 0 e (by have:=tp_bulk t; have:=Tp.bulk (tpA t); omega)),ai (IntKind.wrap .i64 (tdA_f (tdD d) (tpA t) 0+1)) (tdA_f (tdD d) (tpA t) 0+1) (wrap64 oM oM)]) func150
def tdF(t:Tp):Int:=tdD (bulkPs (tpL t)+1) t
theorem tdT(t:Tp)(hs:bulkPs (tpL t)<=100000000):Pu 150 [.agg (tpL t)] (.ret (.int .i64 (tdF t))):=td_ok _ t oM oM
theorem tfA_e(ff:Tp->Int):∀l:List Tp,(frE ff l=0->tfA_f ff l = .e1)/\(¬frE ff l=0->∃w,tfA_f ff l = .e0 w/\ff w=frE ff l)
 | []=>⟨fun _=>rfl,fun h=>absurd rfl h⟩
 | x::r=>by
  have ih:=tfA_e ff r
  by_cases h:ff x=0
  ·simp only [frE,tfA_f,h,if_true]; exact ih
  ·simp only [frE,tfA_f,h,if_false]; exact ⟨fun h'=>h'.elim,fun _=>⟨x,rfl,rfl⟩⟩
abbrev tfS(t:Tp)(v:Int)(xe:Ext):S:=⟨[(2,.v (.int .i64 v)),(90,.v (.sl 9 (Tp.cs (tpA t)))),(91,.v (.int .i64 (tpA t).length))],[],xe⟩
theorem tfT(t:Tp)(xe:Ext)(ff:Tp->Int)(hwk:∀w:Tp,w∈tpA t->Pu 151 [.agg (tpL w)] (.ret (.int .i64 (ff w))))(hN:(tpA t).length<=1000000000)(hx:frE ff (tpA t)=0):(Ob.loop 102 (loopF f151 0) (tfA_I t xe ff 0) (.exit 0) (tfS t 0 xe)).ok prog:=
 tfA_1 t xe ff hwk hN ((tfA_e ff (tpA t)).1 hx)
theorem tfF(t:Tp)(xe:Ext)(ff:Tp->Int)(hwk:∀w:Tp,w∈tpA t->Pu 151 [.agg (tpL w)] (.ret (.int .i64 (ff w))))(hN:(tpA t).length<=1000000000)(hx:¬frE ff (tpA t)=0):(Ob.loop 102 (loopF f151 0) (tfA_I t xe ff 0) .ret (tfS t (frE ff (tpA t)) xe)).ok prog:=by
 obtain ⟨w,h1,h2⟩:=(tfA_e ff (tpA t)).2 hx
 have:=tfA_0 t xe ff hwk hN w h1
 rw [<-h2]
 exact this
abbrev pl0_I(t:Tp)(pf:Tp->Tp)(j:Int)(out:List Tp)(e:Ext):S:=S.mk [(2,.lp 2 0),(3,.lp 3 0),(12,vL 9 (Tp.cs (tpA t))),(13,vI6 ((tpA t).length:Int)),(14,vI6 j)] [(2,[vI6 0,vS nm0,.v .nilsl,.v .nilsl,vI6 0,vS nm0,vI6 0,.v .nilsl,.v .nilsl]),(3,[vI6 (tpO t),vS (tpNm t),.uniq 48 9 (Tp.cs out),.v .nilsl,vI6 0,vS nm0,vI6 0,.v .nilsl,.v .nilsl])] e
def pl0_f(pf:Tp->Tp):List Tp->(List Tp)->(List Tp)
 | [],out=>(out)
 | el::r,out=>pl0_f pf r (out++[pf el])
def pl0_q(t:Tp)(pf:Tp->Tp)(e:Ext)(p:(List Tp)):PExit × S:=(.exit 0,S.mk [(2,.lp 2 0),(3,.lp 3 0),(12,vL 9 (Tp.cs (tpA t))),(13,vI6 ((tpA t).length:Int))] [(2,[vI6 0,vS nm0,.v .nilsl,.v .nilsl,vI6 0,vS nm0,vI6 0,.v .nilsl,.v .nilsl]),(3,[vI6 (tpO t),vS (tpNm t),.uniq 48 9 (Tp.cs p),.v .nilsl,vI6 0,vS nm0,vI6 0,.v .nilsl,.v .nilsl])] e)
theorem pl0(t:Tp)(pf:Tp->Tp)(hwk:∀w:Tp,w∈tpA t->Pu 62 [.agg (tpL w)] (.ret (.agg (tpL (pf w)))))(out:List Tp)(e:Ext)(hN:(tpA t).length<=1000000000)(hv:List.length out<=0):(Ob.loop 27 (loopF f62 0) (pl0_I t pf 0 out e) (pl0_q t pf e (pl0_f pf ((tpA t))  out)).1 (pl0_q t pf e (pl0_f pf ((tpA t))  out)).2).ok prog:=by
 refine rng ((tpA t).length) (fun j out=>pl0_I t pf j out e) (fun i out=>pl0_f pf (List.drop i ((tpA t)))  out) (pl0_q t pf e) (fun i out=>(out.length<=i)) kR ?_ out (by first | exact hv | omega)
 rintro i out hi hv
 try simp only at hv
 rcases Nat.lt_or_ge i ((tpA t).length) with hlt | hge
 ·have hd:=drop_at hlt
  exact lS mdL [rgTp hlt,cl (@hwk (List.getD (tpA t) i default) (by simp_all [Bool.not_eq_true,Bool.not_eq_false])),am (List.length (Tp.cs out++[tpL (pf (List.getD (tpA t) i default))]) * (151+1)<=140737488355328) (by (simp only [List.length_append,List.length_cons,List.length_nil,nmsC_len,Pr.cs_len,Tp.cs_len]; omega)),wr ((i:Int)+1)] [2,3,12,13,14] [2,3] hlt (out++[pf (List.getD (tpA t) i default)]) (S.mk [(2,.lp 2 0),(3,.lp 3 0),(12,vL 9 (Tp.cs (tpA t))),(13,vI6 ((tpA t).length:Int)),(14,vI6 ((i:Int)+1))] [(2,[vI6 0,vS nm0,.v .nilsl,.v .nilsl,vI6 0,vS nm0,vI6 0,.v .nilsl,.v .nilsl]),(3,[vI6 (tpO t),vS (tpNm t),.uniq 48 9 (Tp.cs out++[tpL (pf (List.getD (tpA t) i default))]),.v .nilsl,vI6 0,vS nm0,vI6 0,.v .nilsl,.v .nilsl])] e) ⟨⟨W,W,W,W,W,tVv⟩,⟨Ws,⟨W,W,(.inl (by first | (simp only [List.nil_append,nmsC_app,nmsC_snoc,Pr.cs_snoc,Tp.cs_snoc,Ex.cs_snoc,Vr.cs_snoc,Df.cs_snoc]; done) | (simp only [List.nil_append,nmsC_app,nmsC_snoc,Pr.cs_snoc,Tp.cs_snoc,Ex.cs_snoc,Vr.cs_snoc,Df.cs_snoc]; rfl))),W,W,W,W,W,W,tVv⟩,tVv⟩,rfl⟩ (by first | assumption | omega | (apply gTp <;> first | assumption | omega | decide) | (apply gEx <;> first | assumption | omega | decide) | (simp only [List.length_append,List.length_cons,List.length_nil] at *; omega) | simp_all) (by rw [hd,pl0_f])
 ·have he:i=(tpA t).length:=by omega
  exact lX mdL [df ((i:Int)<((tpA t).length:Int))] (out) (by rw [he,List.drop_length,pl0_f])
def plD:Nat->Tp->Tp
 | 0,t=>t
 | d+1,t => .mk (tpO t) (tpNm t) (pl0_f (plD d) (tpA t) []) [] default []
theorem pl0_e(pf:Tp->Tp):∀ (l out:List Tp),pl0_f pf l out=out++l.map pf
 | [],out=>by simp [pl0_f]
 | x::r,out=>by simp [pl0_f,pl0_e pf r]
def plF(t:Tp):Tp:=plD (bulkPs (tpL t)+1) t
theorem tpw_bulk(x:Tp):bulkPss (Tp.cs (tpA x))+bulkPss (Pr.cs (tpPs x))+bulkPs (prL (tpP x))<bulkPs (tpL x):=by simp only [bulkPs,bulkP]; omega
theorem pl_ok:∀ (d:Nat) (t:Tp),bulkPs (tpL t)<d->d<=1000000001->Pu 62 [.agg (tpL t)] (.ret (.agg (tpL (plD d t))))
 | 0,_,h,_=>by omega
 | d+1,t,h,hd=>by
  have h1:=tpw_bulk t
  have h2:=Tp.bulk (tpA t)
  exact Ob.pur_wk (Wk.a (kr (kr (kr (kn 1 (kr (kr (kr (kn 4 (kn 4 (WkL.r _))))))))))) (pu mdL (fun e=>[sl (Tp.cs_len (tpA t)),lp (S.mk [(2,.lp 2 0),(3,.lp 3 0),(12,vL 9 (Tp.cs (tpA t))),(13,vI6 ((tpA t).length:Int)),(14,vI6 0)] [(2,[vI6 0,vS nm0,.v .nilsl,.v .nilsl,vI6 0,vS nm0,vI6 0,.v .nilsl,.v .nilsl]),(3,[vI6 (tpO t),vS (tpNm t),.v .nilsl,.v .nilsl,vI6 0,vS nm0,vI6 0,.v .nilsl,.v .nilsl])] e) (@pl0 t ((plD d)) (fun w hw=>pl_ok d w (by have:=Tp.mem hw; omega) oM) ([]) e oM (by (simp only [List.length_nil]; omega))) ⟨⟨W,W,W,W,W,tVv⟩,⟨⟨W,W,W,W,W,W,W,W,W,tVv⟩,⟨W,W,Wq,W,W,Wq,W,W,W,tVv⟩,tVv⟩,rfl⟩]) func62)
theorem plT(t:Tp)(hs:bulkPs (tpL t)<=1000000000):Pu 62 [.agg (tpL t)] (.ret (.agg (tpL (plF t)))):=pl_ok _ t oM oM
theorem simL(t:Tp)(hs:bulkPs (tpL t)<=1000000000):Pu 65 [.agg (tpL t)] (rB ((tpO (plF t)==1||tpO (plF t)==2)&&ByteArray.toList (tpNm (plF t))==ByteArray.toList nm0&&((tpA (plF t)).length:Int)==0)):=
 pm mdL [cl (@plT t hs),mg,av (.v (.bool (bif tpO (plF t)==1 then true else tpO (plF t)==2))) (.v (.bool (tpO (plF t)==1||tpO (plF t)==2))) rF,mg,av (.v (.bool (bif tpO (plF t)==1||tpO (plF t)==2 then ByteArray.toList (tpNm (plF t))==ByteArray.toList nm0 else false))) (.v (.bool ((tpO (plF t)==1||tpO (plF t)==2)&&ByteArray.toList (tpNm (plF t))==ByteArray.toList nm0))) (by (simp only [Bool.cond_false_right]; done)),mg,av (.v (.bool (bif (tpO (plF t)==1||tpO (plF t)==2)&&ByteArray.toList (tpNm (plF t))==ByteArray.toList nm0 then (↑((fun x=>List.length (Prod.snd x)) (9,Tp.cs (tpA (plF t)))):Int)==0 else false))) (.v (.bool ((tpO (plF t)==1||tpO (plF t)==2)&&ByteArray.toList (tpNm (plF t))==ByteArray.toList nm0&&((tpA (plF t)).length:Int)==0))) (by (simp only [List.length_nil,Tp.cs_len,Bool.cond_false_right]; done))] func65
theorem beN(t:Tp)(b:Bool)(hb:Pu 65 [.agg (tpL t)] (.ret (.bool b))):Pu 64 [.agg (tpL t)] (rB !b):=
 pm mdL [cl hb] func64
def fxE{α:Type}(pe:α->Bool)(l:List α):Int:=if l.findIdx pe<l.length then (l.findIdx pe:Int) else -1
theorem fxE_any{α:Type}(pe:α->Bool)(l:List α):decide (0<=fxE pe l)=l.any pe:=by
 unfold fxE
 by_cases h:l.findIdx pe<l.length
 ·rw [iP h]
  have:=List.findIdx_lt_length.1 h
  rw [List.any_eq_true.2 this]
  simp
 ·rw [iN h]
  have:l.any pe=false:=by
   rw [List.any_eq_false]
   intro x hx hp
   exact h (List.findIdx_lt_length.2 ⟨x,hx,hp⟩)
  rw [this]
  rfl
abbrev xfT_I(l:List Tp)(g:Nat)(caps:List PV)(pe:Tp->Bool)(j:Int)(e:Ext):S:=S.mk [(0,vL 9 (Tp.cs l)),(1,.v (.fn (.func g) [] caps)),(4,vI6 0),(7,vI6 (l.length:Int)),(8,vI6 j)] [] e
inductive xfT_R where
 | e0 (i:Nat)
 | e1
def xfT_f(pe:Tp->Bool):List Tp->Nat->xfT_R
 | [],i=>(xfT_R.e1)
 | el::r,i=>(if pe el=true then (xfT_R.e0 i) else xfT_f pe r (i+1))
def xfT_q(l:List Tp)(g:Nat)(caps:List PV)(pe:Tp->Bool)(e:Ext):xfT_R->PExit × S
 | .e0 i=>(.ret,S.mk [(0,vL 9 (Tp.cs l)),(1,.v (.fn (.func g) [] caps)),(4,vI6 (i:Int)),(7,vI6 (l.length:Int))] [] e)
 | .e1=>(.exit 0,S.mk [(0,vL 9 (Tp.cs l)),(1,.v (.fn (.func g) [] caps)),(4,vI6 0),(7,vI6 (l.length:Int))] [] e)
theorem xfT_lp(l:List Tp)(g:Nat)(caps:List PV)(pe:Tp->Bool)(hwk:∀ (w:Tp),w∈l->Pu g (.agg (tpL w)::caps) (.ret (.bool (pe w))))(e:Ext)(hN:l.length<=1000000000):(Ob.loop 19 (loopF f101 0) (xfT_I l g caps pe 0  e) (xfT_q l g caps pe e (xfT_f pe (l) 0)).1 (xfT_q l g caps pe e (xfT_f pe (l) 0)).2).ok prog:=by
 refine rng l.length (fun j _=>xfT_I l g caps pe j  e) (fun i _=>xfT_f pe (List.drop i (l)) i) (xfT_q l g caps pe e) (fun i _=>True) kR ?_ () trivial
 rintro i u hi -
 rcases Nat.lt_or_ge i (l.length) with hlt | hge
 ·have hd:=drop_at hlt
  refine t0 ?_;refine tp [rgTp hlt,cl (@hwk (List.getD l i default) (by simp_all [Bool.not_eq_true,Bool.not_eq_false]))] ?_;by_cases h0:pe (List.getD l i default)=true
  ·exact tX mdL [bt1 h0] (xfT_R.e0 i) (by rw [hd,xfT_f,iP h0])
  ·exact tN mdL [bf1 (bFT h0),wr ((i:Int)+1)] hlt () trivial (by rw [hd,xfT_f,iN h0])
 ·have he:i=l.length:=by omega
  exact lX mdL [df ((i:Int)<(l.length:Int))] (xfT_R.e1) (by rw [he,List.drop_length,xfT_f])
theorem xfT_x(pe:Tp->Bool):∀ (l:List Tp) (k:Nat),xfT_f pe l k=if l.findIdx pe<l.length then .e0 (k+l.findIdx pe) else .e1
 | [],k=>by simp [xfT_f]
 | c::r,k=>by
  by_cases h:pe c=true
  ·simp [xfT_f,h,List.findIdx_cons]
  ·have h':pe c=false:=by cases hh:pe c <;> simp_all
   simp only [xfT_f,h',Bool.false_eq_true,if_false,xfT_x pe r (k+1),List.length_cons,List.findIdx_cons,cond_false]
   by_cases h2:r.findIdx pe<r.length
   ·rw [iP h2,iP oM]; congr 1; omega
   ·rw [iN h2,iN oM]
section
variable (l:List Tp) (g:Nat) (caps:List PV) (pe:Tp->Bool) (hwk:∀ (w:Tp),w∈l->Pu g (.agg (tpL w)::caps) (.ret (.bool (pe w)))) (hN:l.length<=1000000000)
include l g caps pe hwk hN
theorem xfTL_1(hy0:Nat)(hx1:xfT_f pe l 0=xfT_R.e0 hy0):Pu 101 [.sl 9 (Tp.cs l),.fn (.func g) [] caps] (rI (hy0:Int)):=
 pu mdL (fun e=>[sl (Tp.cs_len l),lq (rz (xfT_lp (l) (g) (caps) (pe) hwk (e) hN) hx1)]) func101
theorem xfTL_2(hx0:xfT_f pe l 0=xfT_R.e1):Pu 101 [.sl 9 (Tp.cs l),.fn (.func g) [] caps] (rI (-1)):=
 pu mdL (fun e=>[sl (Tp.cs_len l),lq (rz (xfT_lp (l) (g) (caps) (pe) hwk (e) hN) hx0)]) func101
end
theorem xfTT(l:List Tp)(g:Nat)(caps:List PV)(pe:Tp->Bool)(hwk:∀ (w:Tp),w∈l->Pu g (.agg (tpL w)::caps) (.ret (.bool (pe w))))(hN:l.length<=1000000000):Pu 101 [.sl 9 (Tp.cs l),.fn (.func g) [] caps] (.ret (.int .i64 (fxE pe l))):=by
 unfold fxE
 by_cases h:l.findIdx pe<l.length
 ·rw [iP h]; have e:xfT_f pe l 0 = .e0 (l.findIdx pe):=by rw [xfT_x,iP h,Nat.zero_add]
  first | exact xfTL_1 l g caps pe hwk hN _ e | exact xfTL_2 l g caps pe hwk hN _ e
 ·rw [iN h]; have e:xfT_f pe l 0 = .e1:=by rw [xfT_x,iN h]
  first | exact xfTL_1 l g caps pe hwk hN e | exact xfTL_2 l g caps pe hwk hN e
theorem cfTT(l:List Tp)(g:Nat)(caps:List PV)(pe:Tp->Bool)(hwk:∀ (w:Tp),w∈l->Pu g (.agg (tpL w)::caps) (.ret (.bool (pe w))))(hN:l.length<=1000000000):Pu 63 [.sl 9 (Tp.cs l),.fn (.func g) [] caps] (.ret (.bool (l.any pe))):=by
 rw [<-fxE_any]
 exact pm mdL [cl (@xfTT l g caps pe hwk hN)] func63
abbrev xfE_I(l:List Ex)(g:Nat)(caps:List PV)(pe:Ex->Bool)(j:Int)(e:Ext):S:=S.mk [(0,vL 7 (Ex.cs l)),(1,.v (.fn (.func g) [] caps)),(4,vI6 0),(7,vI6 (l.length:Int)),(8,vI6 j)] [] e
inductive xfE_R where
 | e0 (i:Nat)
 | e1
def xfE_f(pe:Ex->Bool):List Ex->Nat->xfE_R
 | [],i=>(xfE_R.e1)
 | el::r,i=>(if pe el=true then (xfE_R.e0 i) else xfE_f pe r (i+1))
def xfE_q(l:List Ex)(g:Nat)(caps:List PV)(pe:Ex->Bool)(e:Ext):xfE_R->PExit × S
 | .e0 i=>(.ret,S.mk [(0,vL 7 (Ex.cs l)),(1,.v (.fn (.func g) [] caps)),(4,vI6 (i:Int)),(7,vI6 (l.length:Int))] [] e)
 | .e1=>(.exit 0,S.mk [(0,vL 7 (Ex.cs l)),(1,.v (.fn (.func g) [] caps)),(4,vI6 0),(7,vI6 (l.length:Int))] [] e)
theorem xfE_lp(l:List Ex)(g:Nat)(caps:List PV)(pe:Ex->Bool)(hwk:∀ (w:Ex),w∈l->Pu g (.agg (exL w)::caps) (.ret (.bool (pe w))))(e:Ext)(hN:l.length<=1000000000):(Ob.loop 19 (loopF f126 0) (xfE_I l g caps pe 0  e) (xfE_q l g caps pe e (xfE_f pe (l) 0)).1 (xfE_q l g caps pe e (xfE_f pe (l) 0)).2).ok prog:=by
 refine rng l.length (fun j _=>xfE_I l g caps pe j  e) (fun i _=>xfE_f pe (List.drop i (l)) i) (xfE_q l g caps pe e) (fun i _=>True) kR ?_ () trivial
 rintro i u hi -
 rcases Nat.lt_or_ge i (l.length) with hlt | hge
 ·have hd:=drop_at hlt
  refine t0 ?_;refine tp [rgEx hlt,cl (@hwk (List.getD l i default) (by simp_all [Bool.not_eq_true,Bool.not_eq_false]))] ?_;by_cases h0:pe (List.getD l i default)=true
  ·exact tX mdL [bt1 h0] (xfE_R.e0 i) (by rw [hd,xfE_f,iP h0])
  ·exact tN mdL [bf1 (bFT h0),wr ((i:Int)+1)] hlt () trivial (by rw [hd,xfE_f,iN h0])
 ·have he:i=l.length:=by omega
  exact lX mdL [df ((i:Int)<(l.length:Int))] (xfE_R.e1) (by rw [he,List.drop_length,xfE_f])
theorem xfE_x(pe:Ex->Bool):∀ (l:List Ex) (k:Nat),xfE_f pe l k=if l.findIdx pe<l.length then .e0 (k+l.findIdx pe) else .e1
 | [],k=>by simp [xfE_f]
 | c::r,k=>by
  by_cases h:pe c=true
  ·simp [xfE_f,h,List.findIdx_cons]
  ·have h':pe c=false:=by cases hh:pe c <;> simp_all
   simp only [xfE_f,h',Bool.false_eq_true,if_false,xfE_x pe r (k+1),List.length_cons,List.findIdx_cons,cond_false]
   by_cases h2:r.findIdx pe<r.length
   ·rw [iP h2,iP oM]; congr 1; omega
   ·rw [iN h2,iN oM]
section
variable (l:List Ex) (g:Nat) (caps:List PV) (pe:Ex->Bool) (hwk:∀ (w:Ex),w∈l->Pu g (.agg (exL w)::caps) (.ret (.bool (pe w)))) (hN:l.length<=1000000000)
include l g caps pe hwk hN
theorem xfEL_1(hy0:Nat)(hx1:xfE_f pe l 0=xfE_R.e0 hy0):Pu 126 [.sl 7 (Ex.cs l),.fn (.func g) [] caps] (rI (hy0:Int)):=
 pu mdL (fun e=>[sl (Ex.cs_len l),lq (rz (xfE_lp (l) (g) (caps) (pe) hwk (e) hN) hx1)]) func126
theorem xfEL_2(hx0:xfE_f pe l 0=xfE_R.e1):Pu 126 [.sl 7 (Ex.cs l),.fn (.func g) [] caps] (rI (-1)):=
 pu mdL (fun e=>[sl (Ex.cs_len l),lq (rz (xfE_lp (l) (g) (caps) (pe) hwk (e) hN) hx0)]) func126
end
theorem xfET(l:List Ex)(g:Nat)(caps:List PV)(pe:Ex->Bool)(hwk:∀ (w:Ex),w∈l->Pu g (.agg (exL w)::caps) (.ret (.bool (pe w))))(hN:l.length<=1000000000):Pu 126 [.sl 7 (Ex.cs l),.fn (.func g) [] caps] (.ret (.int .i64 (fxE pe l))):=by
 unfold fxE
 by_cases h:l.findIdx pe<l.length
 ·rw [iP h]; have e:xfE_f pe l 0 = .e0 (l.findIdx pe):=by rw [xfE_x,iP h,Nat.zero_add]
  first | exact xfEL_1 l g caps pe hwk hN _ e | exact xfEL_2 l g caps pe hwk hN _ e
 ·rw [iN h]; have e:xfE_f pe l 0 = .e1:=by rw [xfE_x,iN h]
  first | exact xfEL_1 l g caps pe hwk hN e | exact xfEL_2 l g caps pe hwk hN e
theorem cfET(l:List Ex)(g:Nat)(caps:List PV)(pe:Ex->Bool)(hwk:∀ (w:Ex),w∈l->Pu g (.agg (exL w)::caps) (.ret (.bool (pe w))))(hN:l.length<=1000000000):Pu 97 [.sl 7 (Ex.cs l),.fn (.func g) [] caps] (.ret (.bool (l.any pe))):=by
 rw [<-fxE_any]
 exact pm mdL [cl (@xfET l g caps pe hwk hN)] func97
end Go.Proofs.YtaakmholhliodaaGreatDoor
