/- Values of Go as plain data, an evaluator over them, and what the functions of the program return; part Yb. -/
import Derived.Test.YthchpmnkecoafaaGreatDoorYa
set_option linter.unusedSectionVars false
set_option linter.unusedSimpArgs false
set_option linter.unusedVariables false
namespace Go.Proofs.YthchpmnkecoafaaGreatDoor
open Go.Proofs.Tryz
open Go.Pv Go.Proofs.Tryz
set_option maxRecDepth 100000
def Ed(c:Int):Bool:=decide (97<=c)&&decide (c<=122)
def GN(c:Int):Bool:=decide (65<=c)&&decide (c<=90)
def J9(c:Int):Bool:=decide (48<=c)&&decide (c<=57)
theorem Dc(i:Nat):((i:Int)+1).toNat=i+1:=by omega
def L6:List BA:=[⟨#[97,110,100]⟩,⟨#[97,115,115,117,109,101]⟩,⟨#[98,111,111,108]⟩,⟨#[98,111,117,110,100]⟩,⟨#[99,97,115,101]⟩,⟨#[99,101,108,108]⟩,⟨#[99,108,97,115,115]⟩,⟨#[100,97,116,97]⟩,⟨#[100,101,102]⟩,⟨#[100,105,118]⟩,⟨#[101,108,115,101]⟩,⟨#[101,110,100]⟩,⟨#[102,97,108,115,101]⟩,⟨#[102,111,114,97,108,108]⟩,⟨#[102,117,110]⟩,⟨#[103,101,116]⟩,⟨#[105,102]⟩,⟨#[105,110]⟩,⟨#[105,110,115,116]⟩,⟨#[105,110,116]⟩,⟨#[105,110,118,97,114,105,97,110,116]⟩,⟨#[108,101,116]⟩,⟨#[109,97,116,99,104]⟩,⟨#[109,101,97,115,117,114,101]⟩,⟨#[109,101,116,114,105,99]⟩,⟨#[109,111,100]⟩,⟨#[109,117]⟩,⟨#[110,101,119]⟩,⟨#[110,111,116]⟩,⟨#[111,102]⟩,⟨#[111,114]⟩,⟨#[113,117,97,108]⟩,⟨#[114,101,102,108,101,99,116]⟩,⟨#[115,101,116]⟩,⟨#[116,104,101,110]⟩,⟨#[116,114,117,101]⟩,⟨#[117,115,101]⟩,⟨#[118]⟩,⟨#[118,97,108]⟩,⟨#[116,97,103]⟩,⟨#[119,104,101,114,101]⟩,⟨#[119,105,116,104]⟩]
def kwC:List PV:=[.str ⟨#[97,110,100]⟩,.str ⟨#[97,115,115,117,109,101]⟩,.str ⟨#[98,111,111,108]⟩,.str ⟨#[98,111,117,110,100]⟩,.str ⟨#[99,97,115,101]⟩,.str ⟨#[99,101,108,108]⟩,.str ⟨#[99,108,97,115,115]⟩,.str ⟨#[100,97,116,97]⟩,.str ⟨#[100,101,102]⟩,.str ⟨#[100,105,118]⟩,.str ⟨#[101,108,115,101]⟩,.str ⟨#[101,110,100]⟩,.str ⟨#[102,97,108,115,101]⟩,.str ⟨#[102,111,114,97,108,108]⟩,.str ⟨#[102,117,110]⟩,.str ⟨#[103,101,116]⟩,.str ⟨#[105,102]⟩,.str ⟨#[105,110]⟩,.str ⟨#[105,110,115,116]⟩,.str ⟨#[105,110,116]⟩,.str ⟨#[105,110,118,97,114,105,97,110,116]⟩,.str ⟨#[108,101,116]⟩,.str ⟨#[109,97,116,99,104]⟩,.str ⟨#[109,101,97,115,117,114,101]⟩,.str ⟨#[109,101,116,114,105,99]⟩,.str ⟨#[109,111,100]⟩,.str ⟨#[109,117]⟩,.str ⟨#[110,101,119]⟩,.str ⟨#[110,111,116]⟩,.str ⟨#[111,102]⟩,.str ⟨#[111,114]⟩,.str ⟨#[113,117,97,108]⟩,.str ⟨#[114,101,102,108,101,99,116]⟩,.str ⟨#[115,101,116]⟩,.str ⟨#[116,104,101,110]⟩,.str ⟨#[116,114,117,101]⟩,.str ⟨#[117,115,101]⟩,.str ⟨#[118]⟩,.str ⟨#[118,97,108]⟩,.str ⟨#[116,97,103]⟩,.str ⟨#[119,104,101,114,101]⟩,.str ⟨#[119,105,116,104]⟩]
theorem ZH{i:Nat}(h:i<L6.length):[PV.str ⟨#[97,110,100]⟩,.str ⟨#[97,115,115,117,109,101]⟩,.str ⟨#[98,111,111,108]⟩,.str ⟨#[98,111,117,110,100]⟩,.str ⟨#[99,97,115,101]⟩,.str ⟨#[99,101,108,108]⟩,.str ⟨#[99,108,97,115,115]⟩,.str ⟨#[100,97,116,97]⟩,.str ⟨#[100,101,102]⟩,.str ⟨#[100,105,118]⟩,.str ⟨#[101,108,115,101]⟩,.str ⟨#[101,110,100]⟩,.str ⟨#[102,97,108,115,101]⟩,.str ⟨#[102,111,114,97,108,108]⟩,.str ⟨#[102,117,110]⟩,.str ⟨#[103,101,116]⟩,.str ⟨#[105,102]⟩,.str ⟨#[105,110]⟩,.str ⟨#[105,110,115,116]⟩,.str ⟨#[105,110,116]⟩,.str ⟨#[105,110,118,97,114,105,97,110,116]⟩,.str ⟨#[108,101,116]⟩,.str ⟨#[109,97,116,99,104]⟩,.str ⟨#[109,101,97,115,117,114,101]⟩,.str ⟨#[109,101,116,114,105,99]⟩,.str ⟨#[109,111,100]⟩,.str ⟨#[109,117]⟩,.str ⟨#[110,101,119]⟩,.str ⟨#[110,111,116]⟩,.str ⟨#[111,102]⟩,.str ⟨#[111,114]⟩,.str ⟨#[113,117,97,108]⟩,.str ⟨#[114,101,102,108,101,99,116]⟩,.str ⟨#[115,101,116]⟩,.str ⟨#[116,104,101,110]⟩,.str ⟨#[116,114,117,101]⟩,.str ⟨#[117,115,101]⟩,.str ⟨#[118]⟩,.str ⟨#[118,97,108]⟩,.str ⟨#[116,97,103]⟩,.str ⟨#[119,104,101,114,101]⟩,.str ⟨#[119,105,116,104]⟩].getD i .GG = .str (L6.getD i Ai):=by
 show kwC.getD i .GG=_
 have e:kwC=L6.map .str:=rfl
 rw [e]
 simp [List.getD,h]
theorem L7{l:List UInt8}{i:Nat}(h:i<List.length (List.drop 1 l)):l.getD (i+1) default=(List.drop 1 l).getD i default:=by simp [List.getD,Nat.add_comm]
theorem kwT{i:Nat}(h:i<L6.length):(i:Int)<42:=by
 have:L6.length=42:=rfl
 omega
theorem kwF{i:Nat}(h:i=L6.length):¬(i:Int)<42:=by
 have:L6.length=42:=rfl
 omega
theorem kwA{i:Nat}(h:i<L6.length):(0:Int)<=(i:Int)/\(i:Int)<((42:Nat):Int):=by
 have:=kwT h; omega
theorem b1T{s:BA}{i:Nat}(h:i<List.length (List.drop 1 s.data.toList)):(i:Int)+1<(s.size:Int):=by
 have:s.size=s.data.size:=rfl
 simp at h; omega
theorem b1F{s:BA}{i:Nat}(h:i=List.length (List.drop 1 s.data.toList)):¬(i:Int)+1<(s.size:Int):=by
 have:s.size=s.data.size:=rfl
 simp at h; omega
theorem Lw{s:BA}{i:Nat}(h:i<List.length (s.data.toList)):(i:Int)<(s.size:Int):=by
 have:s.size=s.data.size:=rfl
 simp at h; omega
theorem jX{s:BA}{i:Nat}(h:i=List.length (s.data.toList)):¬(i:Int)<(s.size:Int):=by
 have:s.size=s.data.size:=rfl
 simp at h; omega
theorem bzZ{s:BA}:¬((List.length (s.data.toList):Nat):Int)<(s.size:Int):=jX rfl
theorem Ja(c:Int):Pu 179 [.int .u8 c] (.ret (.bool (Ed c))):=by
 by_cases h:97<=c
 ·rw [show Ed c=decide (c<=122) by simp [Ed,h]]; exact pm A9 [rp 3 (dt (97<=c) h)] func179
 ·rw [show Ed c=false by simp [Ed,h]]; exact pm A9 [rp 3 (df (97<=c) h)] func179
theorem Rm(c:Int):Pu 182 [.int .u8 c] (.ret (.bool (GN c))):=by
 by_cases h:65<=c
 ·rw [show GN c=decide (c<=90) by simp [GN,h]]; exact pm A9 [rp 3 (dt (65<=c) h)] func182
 ·rw [show GN c=false by simp [GN,h]]; exact pm A9 [rp 3 (df (65<=c) h)] func182
theorem SU(c:Int):Pu 181 [.int .u8 c] (.ret (.bool (J9 c))):=by
 by_cases h:48<=c
 ·rw [show J9 c=decide (c<=57) by simp [J9,h]]; exact pm A9 [rp 3 (dt (48<=c) h)] func181
 ·rw [show J9 c=false by simp [J9,h]]; exact pm A9 [rp 3 (df (48<=c) h)] func181
theorem HC(c:Int):Pu 183 [.int .u8 c] (.ret (.bool (Ed c))):=by
 by_cases h:97<=c
 ·rw [show Ed c=decide (c<=122) by simp [Ed,h]]; exact pm A9 [rp 3 (dt (c>=97) h)] func183
 ·rw [show Ed c=false by simp [Ed,h]]; exact pm A9 [rp 3 (df (c>=97) h)] func183
theorem Nh(c:Int):Pu 186 [.int .u8 c] (.ret (.bool (GN c))):=by
 by_cases h:65<=c
 ·rw [show GN c=decide (c<=90) by simp [GN,h]]; exact pm A9 [rp 3 (dt (c>=65) h)] func186
 ·rw [show GN c=false by simp [GN,h]]; exact pm A9 [rp 3 (df (c>=65) h)] func186
theorem SV(c:Int):Pu 185 [.int .u8 c] (.ret (.bool (J9 c))):=by
 by_cases h:48<=c
 ·rw [show J9 c=decide (c<=57) by simp [J9,h]]; exact pm A9 [rp 3 (dt (c>=48) h)] func185
 ·rw [show J9 c=false by simp [J9,h]]; exact pm A9 [rp 3 (df (c>=48) h)] func185
abbrev q9(s:BA)(j:Int)(e:Ext):S:=S.mk [(0,vS s),(3,A6 j)] [] e
inductive Mz where
 | e0
 | e1
def Gv  : List UInt8->Mz
 | []=>(Mz.e1)
 | el::r=>(if Ed (↑(UInt8.toNat el):Int)=false then (if GN (↑(UInt8.toNat el):Int)=false then (if J9 (↑(UInt8.toNat el):Int)=false then (Mz.e0) else Gv  r) else Gv  r) else Gv  r)
def ZI(s:BA)(e:Ext):Mz->A4 × S
 | .e0=>(.ret,S.mk [(0,vS s),(2,.v (.bool false))] [] e)
 | .e1=>(.exit 0,S.mk [(0,vS s)] [] e)
theorem ZJ(s:BA)(e:Ext)(hN:List.length ((s.data.toList))<=1000000000):(Ob.loop 29 (Au f136 0) (q9 s 0  e) (ZI s e (Gv  ((s.data.toList)))).1 (ZI s e (Gv  ((s.data.toList)))).2).ok prog:=by
 refine CL (List.length ((s.data.toList))) (fun j _=>q9 s j  e) (fun i _=>Gv  (List.drop i ((s.data.toList)))) (ZI s e) (fun i _=>True) kR ?_ () trivial
 rintro i u hi -
 rcases Nat.lt_or_ge i (List.length ((s.data.toList))) with Ac | Cm
 ·have hd:=At Ac
  by_cases h0:Ed (↑(UInt8.toNat (List.getD (Array.toList (ByteArray.data s)) i default)):Int)=false
  ·by_cases h1:GN (↑(UInt8.toNat (List.getD (Array.toList (ByteArray.data s)) i default)):Int)=false
   ·by_cases h2:J9 (↑(UInt8.toNat (List.getD (Array.toList (ByteArray.data s)) i default)):Int)=false
    ·exact lX A9 [kp,dt ((i:Int)<(↑(ByteArray.size s):Int)) (by (apply Lw <;> first | assumption | omega | decide)),am ((0:Int)<=(i:Int)/\(i:Int)<(↑(ByteArray.size s):Int)) (by simp_all [Dc]),DM s i,cl (@Ja ((↑(UInt8.toNat (List.getD (Array.toList (ByteArray.data s)) i default)):Int))),rp 3 (AV (B0 h0)),am ((0:Int)<=(i:Int)/\(i:Int)<(↑(ByteArray.size s):Int)) (by simp_all [Dc]),DM s i,AV (B0 h0),cl (@Rm ((↑(UInt8.toNat (List.getD (Array.toList (ByteArray.data s)) i default)):Int))),rp 2 (AV (B0 h0)),rp 3 (AV (B0 h1)),am ((0:Int)<=(i:Int)/\(i:Int)<(↑(ByteArray.size s):Int)) (by simp_all [Dc]),DM s i,AV (B0 h1),cl (@SU ((↑(UInt8.toNat (List.getD (Array.toList (ByteArray.data s)) i default)):Int))),rp 2 (AV (B0 h1)),AV (B0 h2)] (Mz.e0) (by rw [hd,Gv,iP h0,iP h1,iP h2])
    ·exact lN A9 [kp,dt ((i:Int)<(↑(ByteArray.size s):Int)) (by (apply Lw <;> first | assumption | omega | decide)),am ((0:Int)<=(i:Int)/\(i:Int)<(↑(ByteArray.size s):Int)) (by simp_all [Dc]),DM s i,cl (@Ja ((↑(UInt8.toNat (List.getD (Array.toList (ByteArray.data s)) i default)):Int))),rp 3 (AV (B0 h0)),am ((0:Int)<=(i:Int)/\(i:Int)<(↑(ByteArray.size s):Int)) (by simp_all [Dc]),DM s i,AV (B0 h0),cl (@Rm ((↑(UInt8.toNat (List.getD (Array.toList (ByteArray.data s)) i default)):Int))),rp 2 (AV (B0 h0)),rp 3 (AV (B0 h1)),am ((0:Int)<=(i:Int)/\(i:Int)<(↑(ByteArray.size s):Int)) (by simp_all [Dc]),DM s i,AV (B0 h1),cl (@SU ((↑(UInt8.toNat (List.getD (Array.toList (ByteArray.data s)) i default)):Int))),rp 2 (AV (B0 h1)),AM (AI (JQ h2)),wr ((i:Int)+1)] Ac () trivial (by rw [hd,Gv,iP h0,iP h1,iN h2])
   ·exact lN A9 [kp,dt ((i:Int)<(↑(ByteArray.size s):Int)) (by (apply Lw <;> first | assumption | omega | decide)),am ((0:Int)<=(i:Int)/\(i:Int)<(↑(ByteArray.size s):Int)) (by simp_all [Dc]),DM s i,cl (@Ja ((↑(UInt8.toNat (List.getD (Array.toList (ByteArray.data s)) i default)):Int))),rp 3 (AV (B0 h0)),am ((0:Int)<=(i:Int)/\(i:Int)<(↑(ByteArray.size s):Int)) (by simp_all [Dc]),DM s i,AV (B0 h0),cl (@Rm ((↑(UInt8.toNat (List.getD (Array.toList (ByteArray.data s)) i default)):Int))),rp 2 (AV (B0 h0)),rp 6 (AM (AI (JQ h1))),bf false,wr ((i:Int)+1)] Ac () trivial (by rw [hd,Gv,iP h0,iN h1])
  ·exact lN A9 [kp,dt ((i:Int)<(↑(ByteArray.size s):Int)) (by (apply Lw <;> first | assumption | omega | decide)),am ((0:Int)<=(i:Int)/\(i:Int)<(↑(ByteArray.size s):Int)) (by simp_all [Dc]),DM s i,cl (@Ja ((↑(UInt8.toNat (List.getD (Array.toList (ByteArray.data s)) i default)):Int))),rp 6 (AM (AI (JQ h0))),rp 7 (bf false),wr ((i:Int)+1)] Ac () trivial (by rw [hd,Gv,iN h0])
 ·have he:i=List.length ((s.data.toList)):=by omega
  exact lX A9 [kp,df ((i:Int)<(↑(ByteArray.size s):Int)) (by (apply jX <;> first | assumption | omega | decide))] (Mz.e1) (by rw [he,List.drop_length,Gv])
def JM(c:UInt8):Bool:=Ed c.toNat||GN c.toNat||J9 c.toNat
def RK(c:UInt8):Bool:=Ed c.toNat||J9 c.toNat||decide (((c.toNat:Nat):Int)=95)
theorem ZK:∀l:List UInt8,Gv l=if l.all JM=true then .e1 else .e0
 | []=>rfl
 | c::r=>by
  by_cases h1:Ed c.toNat=true <;> by_cases h2:GN c.toNat=true <;> by_cases h3:J9 c.toNat=true <;> simp [Gv,JM,h1,h2,h3,ZK r]
theorem HD{s:BA}(h:s.size<=1000000000):List.length (s.data.toList)<=1000000000:=by simpa using h
theorem zI(s:BA)(hs:s.size<=1000000000)(A7:Gv (Array.toList (ByteArray.data s))=Mz.e0):Pu 136 [.str s] (rB false):=
 pu A9 (fun e=>[lq (rz (ZJ (s) (e) (by (apply HD <;> first | assumption | omega | decide))) A7)]) func136
theorem zJ(s:BA)(hs:s.size<=1000000000)(A7:Gv (Array.toList (ByteArray.data s))=Mz.e1):Pu 136 [.str s] (rB true):=
 pu A9 (fun e=>[lq (rz (ZJ (s) (e) (by (apply HD <;> first | assumption | omega | decide))) A7)]) func136
theorem Ox(s:BA)(hs:s.size<=1000000000):Pu 136 [.str s] (.ret (.bool (s.data.toList.all JM))):=by
 cases h:s.data.toList.all JM with
 | true=>exact zJ s hs (by rw [ZK,iP h])
 | false=>exact zI s hs (by rw [ZK,iN (by rw [h]; simp)])
def Em(s:BA):Bool:=decide (1<=s.size)&&decide (s.size<=24)
theorem HE(s:BA):Pu 135 [.str s] (.ret (.bool (Em s))):=by
 by_cases h:(s.size:Int)>=1
 ·rw [show Em s=decide ((s.size:Int)<=24) by unfold Em; rw [decide_eq_true (by omega:1<=s.size),Bool.true_and]; exact decide_eq_decide.2 oM]; exact pm A9 [kp,rp 2 (dt ((↑(ByteArray.size s):Int)>=1) h),kp,rp 2 (dt ((↑(ByteArray.size s):Int)>=1) h)] func135
 ·rw [show Em s=false by unfold Em; rw [decide_eq_false (by omega:¬1<=s.size),Bool.false_and]]; exact pm A9 [kp,rp 4 (df ((↑(ByteArray.size s):Int)>=1) h)] func135
abbrev qA(s:BA)(j:Int)(e:Ext):S:=S.mk [(0,vS s),(3,A6 j)] [] e
inductive JT where
 | e0
 | e1
def F7  : List UInt8->Nat->JT
 | [],i=>(JT.e1)
 | el::r,i=>(if Ed (↑(UInt8.toNat el):Int)=false then (if (i:Int)=0 then (JT.e0) else (if J9 (↑(UInt8.toNat el):Int)=false then (if (↑(UInt8.toNat el):Int)=95 then F7  r (i+1)  else (JT.e0)) else F7  r (i+1))) else F7  r (i+1))
def ZL(s:BA)(e:Ext):JT->A4 × S
 | .e0=>(.ret,S.mk [(0,vS s),(2,.v (.bool false))] [] e)
 | .e1=>(.exit 0,S.mk [(0,vS s)] [] e)
theorem ZM(s:BA)(e:Ext)(hN:List.length ((s.data.toList))<=1000000000):(Ob.loop 32 (Au f137 0) (qA s 0  e) (ZL s e (F7  ((s.data.toList)) 0)).1 (ZL s e (F7  ((s.data.toList)) 0)).2).ok prog:=by
 refine CL (List.length ((s.data.toList))) (fun j _=>qA s j  e) (fun i _=>F7  (List.drop i ((s.data.toList))) i) (ZL s e) (fun i _=>True) kR ?_ () trivial
 rintro i u hi -
 rcases Nat.lt_or_ge i (List.length ((s.data.toList))) with Ac | Cm
 ·have hd:=At Ac
  by_cases h0:Ed (↑(UInt8.toNat (List.getD (Array.toList (ByteArray.data s)) i default)):Int)=false
  ·by_cases h1:(i:Int)=0
   ·exact lX A9 [kp,dt ((i:Int)<(↑(ByteArray.size s):Int)) (by (apply Lw <;> first | assumption | omega | decide)),am ((0:Int)<=(i:Int)/\(i:Int)<(↑(ByteArray.size s):Int)) (by simp_all [Dc]),DM s i,cl (@Ja ((↑(UInt8.toNat (List.getD (Array.toList (ByteArray.data s)) i default)):Int))),rp 3 (AV (B0 h0)),rp 7 (Bb h1),AV (B0 h0),Bb h1,AV (B0 h0),bt true] (JT.e0) (by rw [hd,F7,iP h0,iP h1])
   ·by_cases h2:J9 (↑(UInt8.toNat (List.getD (Array.toList (ByteArray.data s)) i default)):Int)=false
    ·by_cases h3:(↑(UInt8.toNat (List.getD (Array.toList (ByteArray.data s)) i default)):Int)=95
     ·exact lN A9 [kp,dt ((i:Int)<(↑(ByteArray.size s):Int)) (by (apply Lw <;> first | assumption | omega | decide)),am ((0:Int)<=(i:Int)/\(i:Int)<(↑(ByteArray.size s):Int)) (by simp_all [Dc]),DM s i,cl (@Ja ((↑(UInt8.toNat (List.getD (Array.toList (ByteArray.data s)) i default)):Int))),rp 3 (AV (B0 h0)),rp 3 (Ay h1),am ((0:Int)<=(i:Int)/\(i:Int)<(↑(ByteArray.size s):Int)) (by simp_all [Dc]),DM s i,Ay h1,cl (@SU ((↑(UInt8.toNat (List.getD (Array.toList (ByteArray.data s)) i default)):Int))),rp 2 (Ay h1),rp 3 (AV (B0 h2)),am ((0:Int)<=(i:Int)/\(i:Int)<(↑(ByteArray.size s):Int)) (by simp_all [Dc]),DM s i,AV (B0 h2),Ay h1,AV (B0 h2),AV (B0 h0),Ay h1,AV (B0 h0),B1 h3,wr ((i:Int)+1)] Ac () trivial (by rw [hd,F7,iP h0,iN h1,iP h2,iP h3])
     ·exact lX A9 [kp,dt ((i:Int)<(↑(ByteArray.size s):Int)) (by (apply Lw <;> first | assumption | omega | decide)),am ((0:Int)<=(i:Int)/\(i:Int)<(↑(ByteArray.size s):Int)) (by simp_all [Dc]),DM s i,cl (@Ja ((↑(UInt8.toNat (List.getD (Array.toList (ByteArray.data s)) i default)):Int))),rp 3 (AV (B0 h0)),rp 3 (Ay h1),am ((0:Int)<=(i:Int)/\(i:Int)<(↑(ByteArray.size s):Int)) (by simp_all [Dc]),DM s i,Ay h1,cl (@SU ((↑(UInt8.toNat (List.getD (Array.toList (ByteArray.data s)) i default)):Int))),rp 2 (Ay h1),rp 3 (AV (B0 h2)),am ((0:Int)<=(i:Int)/\(i:Int)<(↑(ByteArray.size s):Int)) (by simp_all [Dc]),DM s i,AV (B0 h2),Ay h1,AV (B0 h2),AV (B0 h0),Ay h1,AV (B0 h0),Bi h3] (JT.e0) (by rw [hd,F7,iP h0,iN h1,iP h2,iN h3])
    ·exact lN A9 [kp,dt ((i:Int)<(↑(ByteArray.size s):Int)) (by (apply Lw <;> first | assumption | omega | decide)),am ((0:Int)<=(i:Int)/\(i:Int)<(↑(ByteArray.size s):Int)) (by simp_all [Dc]),DM s i,cl (@Ja ((↑(UInt8.toNat (List.getD (Array.toList (ByteArray.data s)) i default)):Int))),rp 3 (AV (B0 h0)),rp 3 (Ay h1),am ((0:Int)<=(i:Int)/\(i:Int)<(↑(ByteArray.size s):Int)) (by simp_all [Dc]),DM s i,Ay h1,cl (@SU ((↑(UInt8.toNat (List.getD (Array.toList (ByteArray.data s)) i default)):Int))),rp 2 (Ay h1),rp 4 (AM (AI (JQ h2))),Ay h1,AM (AI (JQ h2)),AV (B0 h0),Ay h1,AV (B0 h0),bf false,wr ((i:Int)+1)] Ac () trivial (by rw [hd,F7,iP h0,iN h1,iN h2])
  ·exact lN A9 [kp,dt ((i:Int)<(↑(ByteArray.size s):Int)) (by (apply Lw <;> first | assumption | omega | decide)),am ((0:Int)<=(i:Int)/\(i:Int)<(↑(ByteArray.size s):Int)) (by simp_all [Dc]),DM s i,cl (@Ja ((↑(UInt8.toNat (List.getD (Array.toList (ByteArray.data s)) i default)):Int))),rp 5 (AM (AI (JQ h0))),bf false,wr ((i:Int)+1)] Ac () trivial (by rw [hd,F7,iN h0])
 ·have he:i=List.length ((s.data.toList)):=by omega
  exact lX A9 [kp,df ((i:Int)<(↑(ByteArray.size s):Int)) (by (apply jX <;> first | assumption | omega | decide))] (JT.e1) (by rw [he,List.drop_length,F7])
abbrev qB(s:BA)(j:Int)(e:Ext):S:=S.mk [(0,vS s),(5,.v (.agg kwC)),(6,A6 j)] [] e
inductive Qd where
 | e0
 | e1
def Jb(s:BA):List BA->Qd
 | []=>(Qd.e1)
 | el::r=>(if el=s then (Qd.e0) else Jb s r)
def ZN(s:BA)(e:Ext):Qd->A4 × S
 | .e0=>(.ret,S.mk [(0,vS s),(5,.v (.agg [.str (ByteArray.mk #[97,110,100]),.str (ByteArray.mk #[97,115,115,117,109,101]),.str (ByteArray.mk #[98,111,111,108]),.str (ByteArray.mk #[98,111,117,110,100]),.str (ByteArray.mk #[99,97,115,101]),.str (ByteArray.mk #[99,101,108,108]),.str (ByteArray.mk #[99,108,97,115,115]),.str (ByteArray.mk #[100,97,116,97]),.str (ByteArray.mk #[100,101,102]),.str (ByteArray.mk #[100,105,118]),.str (ByteArray.mk #[101,108,115,101]),.str (ByteArray.mk #[101,110,100]),.str (ByteArray.mk #[102,97,108,115,101]),.str (ByteArray.mk #[102,111,114,97,108,108]),.str (ByteArray.mk #[102,117,110]),.str (ByteArray.mk #[103,101,116]),.str (ByteArray.mk #[105,102]),.str (ByteArray.mk #[105,110]),.str (ByteArray.mk #[105,110,115,116]),.str (ByteArray.mk #[105,110,116]),.str (ByteArray.mk #[105,110,118,97,114,105,97,110,116]),.str (ByteArray.mk #[108,101,116]),.str (ByteArray.mk #[109,97,116,99,104]),.str (ByteArray.mk #[109,101,97,115,117,114,101]),.str (ByteArray.mk #[109,101,116,114,105,99]),.str (ByteArray.mk #[109,111,100]),.str (ByteArray.mk #[109,117]),.str (ByteArray.mk #[110,101,119]),.str (ByteArray.mk #[110,111,116]),.str (ByteArray.mk #[111,102]),.str (ByteArray.mk #[111,114]),.str (ByteArray.mk #[113,117,97,108]),.str (ByteArray.mk #[114,101,102,108,101,99,116]),.str (ByteArray.mk #[115,101,116]),.str (ByteArray.mk #[116,104,101,110]),.str (ByteArray.mk #[116,114,117,101]),.str (ByteArray.mk #[117,115,101]),.str (bM 118),.str (ByteArray.mk #[118,97,108]),.str (ByteArray.mk #[116,97,103]),.str (ByteArray.mk #[119,104,101,114,101]),.str (ByteArray.mk #[119,105,116,104])])),(2,.v (.bool true))] [] e)
 | .e1=>(.exit 0,S.mk [(0,vS s),(5,.v (.agg [.str (ByteArray.mk #[97,110,100]),.str (ByteArray.mk #[97,115,115,117,109,101]),.str (ByteArray.mk #[98,111,111,108]),.str (ByteArray.mk #[98,111,117,110,100]),.str (ByteArray.mk #[99,97,115,101]),.str (ByteArray.mk #[99,101,108,108]),.str (ByteArray.mk #[99,108,97,115,115]),.str (ByteArray.mk #[100,97,116,97]),.str (ByteArray.mk #[100,101,102]),.str (ByteArray.mk #[100,105,118]),.str (ByteArray.mk #[101,108,115,101]),.str (ByteArray.mk #[101,110,100]),.str (ByteArray.mk #[102,97,108,115,101]),.str (ByteArray.mk #[102,111,114,97,108,108]),.str (ByteArray.mk #[102,117,110]),.str (ByteArray.mk #[103,101,116]),.str (ByteArray.mk #[105,102]),.str (ByteArray.mk #[105,110]),.str (ByteArray.mk #[105,110,115,116]),.str (ByteArray.mk #[105,110,116]),.str (ByteArray.mk #[105,110,118,97,114,105,97,110,116]),.str (ByteArray.mk #[108,101,116]),.str (ByteArray.mk #[109,97,116,99,104]),.str (ByteArray.mk #[109,101,97,115,117,114,101]),.str (ByteArray.mk #[109,101,116,114,105,99]),.str (ByteArray.mk #[109,111,100]),.str (ByteArray.mk #[109,117]),.str (ByteArray.mk #[110,101,119]),.str (ByteArray.mk #[110,111,116]),.str (ByteArray.mk #[111,102]),.str (ByteArray.mk #[111,114]),.str (ByteArray.mk #[113,117,97,108]),.str (ByteArray.mk #[114,101,102,108,101,99,116]),.str (ByteArray.mk #[115,101,116]),.str (ByteArray.mk #[116,104,101,110]),.str (ByteArray.mk #[116,114,117,101]),.str (ByteArray.mk #[117,115,101]),.str (bM 118),.str (ByteArray.mk #[118,97,108]),.str (ByteArray.mk #[116,97,103]),.str (ByteArray.mk #[119,104,101,114,101]),.str (ByteArray.mk #[119,105,116,104])]))] [] e)
theorem ZO(s:BA)(e:Ext)(hN:List.length ((L6))<=1000000000):(Ob.loop 13 (Au f180 0) (qB s 0  e) (ZN s e (Jb s ((L6)))).1 (ZN s e (Jb s ((L6)))).2).ok prog:=by
 refine CL (List.length ((L6))) (fun j _=>qB s j  e) (fun i _=>Jb s (List.drop i ((L6)))) (ZN s e) (fun i _=>True) kR ?_ () trivial
 rintro i u hi -
 rcases Nat.lt_or_ge i (List.length ((L6))) with Ac | Cm
 ·have hd:=CU Ac
  by_cases h0:List.getD L6 i Ai=s
  ·exact lX A9 [dt ((i:Int)<42) (by (apply kwT <;> first | assumption | omega | decide)),am ((0:Int)<=(i:Int)/\(i:Int)<(42:Int)) (by (apply kwA <;> first | assumption | omega | decide)),av (.v (List.getD [.str (ByteArray.mk #[97,110,100]),.str (ByteArray.mk #[97,115,115,117,109,101]),.str (ByteArray.mk #[98,111,111,108]),.str (ByteArray.mk #[98,111,117,110,100]),.str (ByteArray.mk #[99,97,115,101]),.str (ByteArray.mk #[99,101,108,108]),.str (ByteArray.mk #[99,108,97,115,115]),.str (ByteArray.mk #[100,97,116,97]),.str (ByteArray.mk #[100,101,102]),.str (ByteArray.mk #[100,105,118]),.str (ByteArray.mk #[101,108,115,101]),.str (ByteArray.mk #[101,110,100]),.str (ByteArray.mk #[102,97,108,115,101]),.str (ByteArray.mk #[102,111,114,97,108,108]),.str (ByteArray.mk #[102,117,110]),.str (ByteArray.mk #[103,101,116]),.str (ByteArray.mk #[105,102]),.str (ByteArray.mk #[105,110]),.str (ByteArray.mk #[105,110,115,116]),.str (ByteArray.mk #[105,110,116]),.str (ByteArray.mk #[105,110,118,97,114,105,97,110,116]),.str (ByteArray.mk #[108,101,116]),.str (ByteArray.mk #[109,97,116,99,104]),.str (ByteArray.mk #[109,101,97,115,117,114,101]),.str (ByteArray.mk #[109,101,116,114,105,99]),.str (ByteArray.mk #[109,111,100]),.str (ByteArray.mk #[109,117]),.str (ByteArray.mk #[110,101,119]),.str (ByteArray.mk #[110,111,116]),.str (ByteArray.mk #[111,102]),.str (ByteArray.mk #[111,114]),.str (ByteArray.mk #[113,117,97,108]),.str (ByteArray.mk #[114,101,102,108,101,99,116]),.str (ByteArray.mk #[115,101,116]),.str (ByteArray.mk #[116,104,101,110]),.str (ByteArray.mk #[116,114,117,101]),.str (ByteArray.mk #[117,115,101]),.str (bM 118),.str (ByteArray.mk #[118,97,108]),.str (ByteArray.mk #[116,97,103]),.str (ByteArray.mk #[119,104,101,114,101]),.str (ByteArray.mk #[119,105,116,104])] (Int.toNat (i:Int)) .GG)) (vS (List.getD L6 i Ai)) (by simp only [Int.toNat_natCast,Int.toNat_zero]; rw [@ZH (i) Ac]; try rfl),bt (ByteArray.toList (List.getD L6 i Ai)==ByteArray.toList s) (BI h0)] (Qd.e0) (by rw [hd,Jb,iP h0])
  ·exact lN A9 [dt ((i:Int)<42) (by (apply kwT <;> first | assumption | omega | decide)),am ((0:Int)<=(i:Int)/\(i:Int)<(42:Int)) (by (apply kwA <;> first | assumption | omega | decide)),av (.v (List.getD [.str (ByteArray.mk #[97,110,100]),.str (ByteArray.mk #[97,115,115,117,109,101]),.str (ByteArray.mk #[98,111,111,108]),.str (ByteArray.mk #[98,111,117,110,100]),.str (ByteArray.mk #[99,97,115,101]),.str (ByteArray.mk #[99,101,108,108]),.str (ByteArray.mk #[99,108,97,115,115]),.str (ByteArray.mk #[100,97,116,97]),.str (ByteArray.mk #[100,101,102]),.str (ByteArray.mk #[100,105,118]),.str (ByteArray.mk #[101,108,115,101]),.str (ByteArray.mk #[101,110,100]),.str (ByteArray.mk #[102,97,108,115,101]),.str (ByteArray.mk #[102,111,114,97,108,108]),.str (ByteArray.mk #[102,117,110]),.str (ByteArray.mk #[103,101,116]),.str (ByteArray.mk #[105,102]),.str (ByteArray.mk #[105,110]),.str (ByteArray.mk #[105,110,115,116]),.str (ByteArray.mk #[105,110,116]),.str (ByteArray.mk #[105,110,118,97,114,105,97,110,116]),.str (ByteArray.mk #[108,101,116]),.str (ByteArray.mk #[109,97,116,99,104]),.str (ByteArray.mk #[109,101,97,115,117,114,101]),.str (ByteArray.mk #[109,101,116,114,105,99]),.str (ByteArray.mk #[109,111,100]),.str (ByteArray.mk #[109,117]),.str (ByteArray.mk #[110,101,119]),.str (ByteArray.mk #[110,111,116]),.str (ByteArray.mk #[111,102]),.str (ByteArray.mk #[111,114]),.str (ByteArray.mk #[113,117,97,108]),.str (ByteArray.mk #[114,101,102,108,101,99,116]),.str (ByteArray.mk #[115,101,116]),.str (ByteArray.mk #[116,104,101,110]),.str (ByteArray.mk #[116,114,117,101]),.str (ByteArray.mk #[117,115,101]),.str (bM 118),.str (ByteArray.mk #[118,97,108]),.str (ByteArray.mk #[116,97,103]),.str (ByteArray.mk #[119,104,101,114,101]),.str (ByteArray.mk #[119,105,116,104])] (Int.toNat (i:Int)) .GG)) (vS (List.getD L6 i Ai)) (by simp only [Int.toNat_natCast,Int.toNat_zero]; rw [@ZH (i) Ac]; try rfl),bf (ByteArray.toList (List.getD L6 i Ai)==ByteArray.toList s) (Bp h0),wr ((i:Int)+1)] Ac () trivial (by rw [hd,Jb,iN h0])
 ·have he:i=List.length ((L6)):=by omega
  exact lX A9 [df ((i:Int)<42) (by (apply kwF <;> first | assumption | omega | decide))] (Qd.e1) (by rw [he,List.drop_length,Jb])
def Gw:List UInt8->Bool
 | []=>true
 | c::r=>Ed c.toNat&&r.all RK
theorem ZP:∀ (l:List UInt8) (i:Nat),F7 l (i+1)=if l.all RK=true then .e1 else .e0
 | [],_=>rfl
 | c::r,i=>by
  have hi:¬(((i+1:Nat):Int)=0):=by omega
  have hj:¬((i:Int)+1=0):=by omega
  by_cases h1:Ed c.toNat=true <;> by_cases h2:J9 c.toNat=true <;> by_cases h3:((c.toNat:Nat):Int)=95 <;> simp [F7,RK,h1,h2,h3,hi,hj,ZP r (i+1)]
theorem qC(l:List UInt8):F7 l 0=if Gw l=true then .e1 else .e0:=by
 cases l with
 | nil=>rfl
 | cons c r=>
  by_cases h1:Ed c.toNat=true
  ·have:=ZP r 0
   simp [F7,Gw,h1,this]
  ·simp [F7,Gw,h1]
def SW(s:BA):Bool:=decide (ix id s L6<L6.length)
theorem ZQ(s:BA):∀l:List BA,Jb s l=if ix id s l<l.length then .e0 else .e1
 | []=>by simp [Jb,ix]
 | c::r=>by
  by_cases h:c=s
  ·simp [Jb,ix,h]
  ·simp only [Jb,ix,id,h,if_false,ZQ s r,List.length_cons,Nat.add_lt_add_iff_right]
theorem zK(s:BA)(hs:s.size<=1000000000)(A7:F7 (Array.toList (ByteArray.data s)) 0=JT.e0):Pu 137 [.str s] (rB false):=
 pu A9 (fun e=>[lq (rz (ZM (s) (e) (by (apply HD <;> first | assumption | omega | decide))) A7)]) func137
theorem zL(s:BA)(hs:s.size<=1000000000)(A7:F7 (Array.toList (ByteArray.data s)) 0=JT.e1):Pu 137 [.str s] (rB true):=
 pu A9 (fun e=>[lq (rz (ZM (s) (e) (by (apply HD <;> first | assumption | omega | decide))) A7)]) func137
theorem mF(s:BA)(hs:s.size<=1000000000):Pu 137 [.str s] (.ret (.bool (Gw s.data.toList))):=by
 cases h:Gw s.data.toList with
 | true=>exact zL s hs (by rw [qC,iP h])
 | false=>exact zK s hs (by rw [qC,iN (by rw [h]; simp)])
theorem zM(s:BA):Pu 180 [.str s] (.ret (.bool (SW s))):=by
 unfold SW
 by_cases h:ix id s L6<L6.length
 ·rw [decide_eq_true h]; exact pu A9 (fun e=>[lq (rz (ZO (s) (e) dD) (by rw [ZQ,iP h]))]) func180
 ·rw [decide_eq_false h]; exact pu A9 (fun e=>[lq (rz (ZO (s) (e) dD) (by rw [ZQ,iN h]))]) func180
theorem H7{s:BA}(h:Em s=true):(0:Int)<=0/\(0:Int)<(s.size:Int):=by
 simp only [Em,Bool.and_eq_true,decide_eq_true_eq] at h; omega
theorem ZR{s:BA}(h:Em s=true):List.length (List.drop 1 s.data.toList)<=1000000000:=by
 have:s.size=s.data.size:=rfl
 simp only [Em,Bool.and_eq_true,decide_eq_true_eq] at h; simp; omega
theorem mG{s:BA}{i:Nat}(h:i<List.length (List.drop 1 s.data.toList)):(0:Int)<=(i:Int)+1/\(i:Int)+1<(s.size:Int):=by
 have:=b1T h; omega
abbrev qD(s:BA)(j:Int)(e:Ext):S:=S.mk [(0,vS s),(3,A6 (j+1))] [] e
inductive MA where
 | e0
 | e1
def Gx  : List UInt8->MA
 | []=>(MA.e1)
 | el::r=>(if Ed (↑(UInt8.toNat el):Int)=false then (if J9 (↑(UInt8.toNat el):Int)=false then (if (↑(UInt8.toNat el):Int)=95 then Gx  r  else (MA.e0)) else Gx  r) else Gx  r)
def ZS(s:BA)(e:Ext):MA->A4 × S
 | .e0=>(.ret,S.mk [(0,vS s),(2,.v (.bool false))] [] e)
 | .e1=>(.exit 0,S.mk [(0,vS s)] [] e)
theorem ZT(s:BA)(G0:Em s=true)(He:Ed (s.data.toList.getD 0 default).toNat=true)(Lx:SW s=false)(e:Ext)(hN:List.length ((List.drop 1 s.data.toList))<=1000000000):(Ob.loop 41 (Au f133 0) (qD s 0  e) (ZS s e (Gx  ((List.drop 1 s.data.toList)))).1 (ZS s e (Gx  ((List.drop 1 s.data.toList)))).2).ok prog:=by
 refine CL (List.length ((List.drop 1 s.data.toList))) (fun j _=>qD s j  e) (fun i _=>Gx  (List.drop i ((List.drop 1 s.data.toList)))) (ZS s e) (fun i _=>True) kR ?_ () trivial
 rintro i u hi -
 rcases Nat.lt_or_ge i (List.length ((List.drop 1 s.data.toList))) with Ac | Cm
 ·have hd:=At Ac
  by_cases h0:Ed (↑(UInt8.toNat (List.getD (List.drop 1 (Array.toList (ByteArray.data s))) i default)):Int)=false
  ·by_cases h1:J9 (↑(UInt8.toNat (List.getD (List.drop 1 (Array.toList (ByteArray.data s))) i default)):Int)=false
   ·by_cases h2:(↑(UInt8.toNat (List.getD (List.drop 1 (Array.toList (ByteArray.data s))) i default)):Int)=95
    ·exact lN A9 [kp,dt ((i:Int)+1<(↑(ByteArray.size s):Int)) (by (apply b1T <;> first | assumption | omega | decide)),am ((0:Int)<=(i:Int)+1/\(i:Int)+1<(↑(ByteArray.size s):Int)) (by (apply mG <;> first | assumption | omega | decide)),av (.v (.int .u8 (↑(UInt8.toNat (List.getD (Array.toList (ByteArray.data s)) (Int.toNat ((i:Int)+1)) default)):Int))) (.v (.int .u8 (↑(UInt8.toNat (List.getD (List.drop 1 (Array.toList (ByteArray.data s))) i default)):Int))) (by simp only [Int.toNat_natCast,Int.toNat_zero,Dc]; rw [@L7 (Array.toList (ByteArray.data s)) (i) Ac]; try rfl),cl (@Ja ((↑(UInt8.toNat (List.getD (List.drop 1 (Array.toList (ByteArray.data s))) i default)):Int))),rp 3 (AV (B0 h0)),am ((0:Int)<=(i:Int)+1/\(i:Int)+1<(↑(ByteArray.size s):Int)) (by (apply mG <;> first | assumption | omega | decide)),av (.v (.int .u8 (↑(UInt8.toNat (List.getD (Array.toList (ByteArray.data s)) (Int.toNat ((i:Int)+1)) default)):Int))) (.v (.int .u8 (↑(UInt8.toNat (List.getD (List.drop 1 (Array.toList (ByteArray.data s))) i default)):Int))) (by simp only [Int.toNat_natCast,Int.toNat_zero,Dc]; rw [@L7 (Array.toList (ByteArray.data s)) (i) Ac]; try rfl),AV (B0 h0),cl (@SU ((↑(UInt8.toNat (List.getD (List.drop 1 (Array.toList (ByteArray.data s))) i default)):Int))),rp 2 (AV (B0 h0)),rp 3 (AV (B0 h1)),am ((0:Int)<=(i:Int)+1/\(i:Int)+1<(↑(ByteArray.size s):Int)) (by (apply mG <;> first | assumption | omega | decide)),av (.v (.int .u8 (↑(UInt8.toNat (List.getD (Array.toList (ByteArray.data s)) (Int.toNat ((i:Int)+1)) default)):Int))) (.v (.int .u8 (↑(UInt8.toNat (List.getD (List.drop 1 (Array.toList (ByteArray.data s))) i default)):Int))) (by simp only [Int.toNat_natCast,Int.toNat_zero,Dc]; rw [@L7 (Array.toList (ByteArray.data s)) (i) Ac]; try rfl),rp 2 (AV (B0 h1)),B1 h2,wr ((i:Int)+1+1)] Ac () trivial (by rw [hd,Gx,iP h0,iP h1,iP h2])
    ·exact lX A9 [kp,dt ((i:Int)+1<(↑(ByteArray.size s):Int)) (by (apply b1T <;> first | assumption | omega | decide)),am ((0:Int)<=(i:Int)+1/\(i:Int)+1<(↑(ByteArray.size s):Int)) (by (apply mG <;> first | assumption | omega | decide)),av (.v (.int .u8 (↑(UInt8.toNat (List.getD (Array.toList (ByteArray.data s)) (Int.toNat ((i:Int)+1)) default)):Int))) (.v (.int .u8 (↑(UInt8.toNat (List.getD (List.drop 1 (Array.toList (ByteArray.data s))) i default)):Int))) (by simp only [Int.toNat_natCast,Int.toNat_zero,Dc]; rw [@L7 (Array.toList (ByteArray.data s)) (i) Ac]; try rfl),cl (@Ja ((↑(UInt8.toNat (List.getD (List.drop 1 (Array.toList (ByteArray.data s))) i default)):Int))),rp 3 (AV (B0 h0)),am ((0:Int)<=(i:Int)+1/\(i:Int)+1<(↑(ByteArray.size s):Int)) (by (apply mG <;> first | assumption | omega | decide)),av (.v (.int .u8 (↑(UInt8.toNat (List.getD (Array.toList (ByteArray.data s)) (Int.toNat ((i:Int)+1)) default)):Int))) (.v (.int .u8 (↑(UInt8.toNat (List.getD (List.drop 1 (Array.toList (ByteArray.data s))) i default)):Int))) (by simp only [Int.toNat_natCast,Int.toNat_zero,Dc]; rw [@L7 (Array.toList (ByteArray.data s)) (i) Ac]; try rfl),AV (B0 h0),cl (@SU ((↑(UInt8.toNat (List.getD (List.drop 1 (Array.toList (ByteArray.data s))) i default)):Int))),rp 2 (AV (B0 h0)),rp 3 (AV (B0 h1)),am ((0:Int)<=(i:Int)+1/\(i:Int)+1<(↑(ByteArray.size s):Int)) (by (apply mG <;> first | assumption | omega | decide)),av (.v (.int .u8 (↑(UInt8.toNat (List.getD (Array.toList (ByteArray.data s)) (Int.toNat ((i:Int)+1)) default)):Int))) (.v (.int .u8 (↑(UInt8.toNat (List.getD (List.drop 1 (Array.toList (ByteArray.data s))) i default)):Int))) (by simp only [Int.toNat_natCast,Int.toNat_zero,Dc]; rw [@L7 (Array.toList (ByteArray.data s)) (i) Ac]; try rfl),rp 2 (AV (B0 h1)),Bi h2] (MA.e0) (by rw [hd,Gx,iP h0,iP h1,iN h2])
   ·exact lN A9 [kp,dt ((i:Int)+1<(↑(ByteArray.size s):Int)) (by (apply b1T <;> first | assumption | omega | decide)),am ((0:Int)<=(i:Int)+1/\(i:Int)+1<(↑(ByteArray.size s):Int)) (by (apply mG <;> first | assumption | omega | decide)),av (.v (.int .u8 (↑(UInt8.toNat (List.getD (Array.toList (ByteArray.data s)) (Int.toNat ((i:Int)+1)) default)):Int))) (.v (.int .u8 (↑(UInt8.toNat (List.getD (List.drop 1 (Array.toList (ByteArray.data s))) i default)):Int))) (by simp only [Int.toNat_natCast,Int.toNat_zero,Dc]; rw [@L7 (Array.toList (ByteArray.data s)) (i) Ac]; try rfl),cl (@Ja ((↑(UInt8.toNat (List.getD (List.drop 1 (Array.toList (ByteArray.data s))) i default)):Int))),rp 3 (AV (B0 h0)),am ((0:Int)<=(i:Int)+1/\(i:Int)+1<(↑(ByteArray.size s):Int)) (by (apply mG <;> first | assumption | omega | decide)),av (.v (.int .u8 (↑(UInt8.toNat (List.getD (Array.toList (ByteArray.data s)) (Int.toNat ((i:Int)+1)) default)):Int))) (.v (.int .u8 (↑(UInt8.toNat (List.getD (List.drop 1 (Array.toList (ByteArray.data s))) i default)):Int))) (by simp only [Int.toNat_natCast,Int.toNat_zero,Dc]; rw [@L7 (Array.toList (ByteArray.data s)) (i) Ac]; try rfl),AV (B0 h0),cl (@SU ((↑(UInt8.toNat (List.getD (List.drop 1 (Array.toList (ByteArray.data s))) i default)):Int))),rp 2 (AV (B0 h0)),rp 5 (AM (AI (JQ h1))),bf false,wr ((i:Int)+1+1)] Ac () trivial (by rw [hd,Gx,iP h0,iN h1])
  ·exact lN A9 [kp,dt ((i:Int)+1<(↑(ByteArray.size s):Int)) (by (apply b1T <;> first | assumption | omega | decide)),am ((0:Int)<=(i:Int)+1/\(i:Int)+1<(↑(ByteArray.size s):Int)) (by (apply mG <;> first | assumption | omega | decide)),av (.v (.int .u8 (↑(UInt8.toNat (List.getD (Array.toList (ByteArray.data s)) (Int.toNat ((i:Int)+1)) default)):Int))) (.v (.int .u8 (↑(UInt8.toNat (List.getD (List.drop 1 (Array.toList (ByteArray.data s))) i default)):Int))) (by simp only [Int.toNat_natCast,Int.toNat_zero,Dc]; rw [@L7 (Array.toList (ByteArray.data s)) (i) Ac]; try rfl),cl (@Ja ((↑(UInt8.toNat (List.getD (List.drop 1 (Array.toList (ByteArray.data s))) i default)):Int))),rp 6 (AM (AI (JQ h0))),rp 6 (bf false),wr ((i:Int)+1+1)] Ac () trivial (by rw [hd,Gx,iN h0])
 ·have he:i=List.length ((List.drop 1 s.data.toList)):=by omega
  exact lX A9 [kp,df ((i:Int)+1<(↑(ByteArray.size s):Int)) (by (apply b1F <;> first | assumption | omega | decide))] (MA.e1) (by rw [he,List.drop_length,Gx])
theorem ZU:∀l:List UInt8,Gx l=if l.all RK=true then .e1 else .e0
 | []=>rfl
 | c::r=>by
  by_cases h1:Ed c.toNat=true <;> by_cases h2:J9 c.toNat=true <;> by_cases h3:((c.toNat:Nat):Int)=95 <;> simp [Gx,RK,h1,h2,h3,ZU r]
def Bz(s:BA):Bool:=Em s&&Ed (s.data.toList.getD 0 default).toNat && !SW s&&(s.data.toList.drop 1).all RK
section
variable (s:BA) (G0:Em s=true)
include s G0
theorem Ag1(He:Ed (s.data.toList.getD 0 default).toNat=false):Pu 133 [.str s] (rB false):=
 pm A9 [cl (@HE (s)),rp 2 (bf (!Em s) (AI G0)),am ((0:Int)<=0/\0<(↑(ByteArray.size s):Int)) (by (apply H7 <;> first | assumption | omega | decide)),DM s 0,bf (!Em s) (AI G0),cl (@Ja ((↑(UInt8.toNat (List.getD (Array.toList (ByteArray.data s)) 0 default)):Int))),rp 2 (bf (!Em s) (AI G0)),rp 3 (bt (!Ed (↑(UInt8.toNat (List.getD (Array.toList (ByteArray.data s)) 0 default)):Int)) (B0 He)),bt true] func133
theorem Ag2(He:Ed (s.data.toList.getD 0 default).toNat=true)(Lx:SW s=true):Pu 133 [.str s] (rB false):=
 pm A9 [cl (@HE (s)),rp 2 (bf (!Em s) (AI G0)),am ((0:Int)<=0/\0<(↑(ByteArray.size s):Int)) (by (apply H7 <;> first | assumption | omega | decide)),DM s 0,bf (!Em s) (AI G0),cl (@Ja ((↑(UInt8.toNat (List.getD (Array.toList (ByteArray.data s)) 0 default)):Int))),rp 2 (bf (!Em s) (AI G0)),rp 2 (bf (!Ed (↑(UInt8.toNat (List.getD (Array.toList (ByteArray.data s)) 0 default)):Int)) (AI He)),cl (@zM (s)),bf (!Ed (↑(UInt8.toNat (List.getD (Array.toList (ByteArray.data s)) 0 default)):Int)) (AI He),bt (SW s) Lx] func133
theorem zN(He:Ed (s.data.toList.getD 0 default).toNat=true)(Lx:SW s=false)(A7:Gx (List.drop 1 (Array.toList (ByteArray.data s)))=MA.e0):Pu 133 [.str s] (rB false):=
 pu A9 (fun e=>[cl (@HE (s)),rp 2 (bf (!Em s) (AI G0)),am ((0:Int)<=0/\0<(↑(ByteArray.size s):Int)) (by (apply H7 <;> first | assumption | omega | decide)),DM s 0,bf (!Em s) (AI G0),cl (@Ja ((↑(UInt8.toNat (List.getD (Array.toList (ByteArray.data s)) 0 default)):Int))),rp 2 (bf (!Em s) (AI G0)),rp 2 (bf (!Ed (↑(UInt8.toNat (List.getD (Array.toList (ByteArray.data s)) 0 default)):Int)) (AI He)),cl (@zM (s)),bf (!Ed (↑(UInt8.toNat (List.getD (Array.toList (ByteArray.data s)) 0 default)):Int)) (AI He),bf (SW s) Lx,lq (rz (ZT (s) G0 He Lx (e) (by (apply ZR <;> first | assumption | omega | decide))) A7)]) func133
theorem zO(He:Ed (s.data.toList.getD 0 default).toNat=true)(Lx:SW s=false)(A7:Gx (List.drop 1 (Array.toList (ByteArray.data s)))=MA.e1):Pu 133 [.str s] (rB true):=
 pu A9 (fun e=>[cl (@HE (s)),rp 2 (bf (!Em s) (AI G0)),am ((0:Int)<=0/\0<(↑(ByteArray.size s):Int)) (by (apply H7 <;> first | assumption | omega | decide)),DM s 0,bf (!Em s) (AI G0),cl (@Ja ((↑(UInt8.toNat (List.getD (Array.toList (ByteArray.data s)) 0 default)):Int))),rp 2 (bf (!Em s) (AI G0)),rp 2 (bf (!Ed (↑(UInt8.toNat (List.getD (Array.toList (ByteArray.data s)) 0 default)):Int)) (AI He)),cl (@zM (s)),bf (!Ed (↑(UInt8.toNat (List.getD (Array.toList (ByteArray.data s)) 0 default)):Int)) (AI He),bf (SW s) Lx,lq (rz (ZT (s) G0 He Lx (e) (by (apply ZR <;> first | assumption | omega | decide))) A7)]) func133
end
theorem Ni(s:BA):Pu 133 [.str s] (.ret (.bool (Bz s))):=by
 unfold Bz
 cases G0:Em s with
 | false=>exact pm A9 [cl (@HE (s)),rp 5 (bt (!Em s) (B0 G0)),rp 4 (bt true)] func133
 | true=>
  cases He:Ed (s.data.toList.getD 0 default).toNat with
  | false=>exact Ag1 s G0 He
  | true=>
   cases Lx:SW s with
   | true=>exact Ag2 s G0 He Lx
   | false=>
    cases h:(s.data.toList.drop 1).all RK with
    | true=>exact zO s G0 He Lx (by rw [ZU,iP h])
    | false=>exact zN s G0 He Lx (by rw [ZU,iN (by rw [h]; simp)])
def CJ(b:Bool):Int:=if b=true then 0 else 3
theorem Ag3(b:Bool):Pu 222 [.bool b] (.ret (.int .i64 (CJ b))):=by
 cases b with
 | true=>exact pm A9 [bt true] func222
 | false=>exact pm A9 [bf false] func222
theorem A81(s:BA):Pu 172 [.str s] (rI (CJ (Bz s))):=
 pm A9 [cl (@Ni (s)),cl (@Ag3 (Bz s))] func172
abbrev mH:BA:=⟨#[73,110,116]⟩
abbrev Vy:BA:=⟨#[66,111,111,108]⟩
abbrev Vz:BA:=⟨#[67,101,108,108]⟩
abbrev ZV:BA:=⟨#[70,117,110]⟩
def C9(s:BA):Bool:=Em s&&GN (s.data.toList.getD 0 default).toNat&&s.data.toList.all JM && !decide (s=mH) && !decide (s=Vy) && !decide (s=Vz) && !decide (s=ZV)
theorem JU{s:BA}(h:Em s=true):s.size<=1000000000:=by
 simp only [Em,Bool.and_eq_true,decide_eq_true_eq] at h; omega
section
variable (s:BA) (G0:Em s=true)
include s G0
theorem Ag4(He:GN (s.data.toList.getD 0 default).toNat=false):Pu 134 [.str s] (rB false):=
 pm A9 [cl (@HE (s)),rp 2 (bf (!Em s) (AI G0)),am ((0:Int)<=0/\0<(↑(ByteArray.size s):Int)) (by (apply H7 <;> first | assumption | omega | decide)),DM s 0,bf (!Em s) (AI G0),cl (@Rm ((↑(UInt8.toNat (List.getD (Array.toList (ByteArray.data s)) 0 default)):Int))),rp 2 (bf (!Em s) (AI G0)),rp 4 (bt (!GN (↑(UInt8.toNat (List.getD (Array.toList (ByteArray.data s)) 0 default)):Int)) (B0 He)),bt true] func134
theorem Ag5(He:GN (s.data.toList.getD 0 default).toNat=true)(Lx:s.data.toList.all JM=false):Pu 134 [.str s] (rB false):=
 pm A9 [cl (@HE (s)),rp 2 (bf (!Em s) (AI G0)),am ((0:Int)<=0/\0<(↑(ByteArray.size s):Int)) (by (apply H7 <;> first | assumption | omega | decide)),DM s 0,bf (!Em s) (AI G0),cl (@Rm ((↑(UInt8.toNat (List.getD (Array.toList (ByteArray.data s)) 0 default)):Int))),rp 2 (bf (!Em s) (AI G0)),rp 2 (bf (!GN (↑(UInt8.toNat (List.getD (Array.toList (ByteArray.data s)) 0 default)):Int)) (AI He)),cl (@Ox (s) (by (apply JU <;> first | assumption | omega | decide))),rp 2 (bf (!GN (↑(UInt8.toNat (List.getD (Array.toList (ByteArray.data s)) 0 default)):Int)) (AI He)),bt (!List.all (Array.toList (ByteArray.data s)) JM) (B0 Lx)] func134
theorem zP(He:GN (s.data.toList.getD 0 default).toNat=true)(Lx:s.data.toList.all JM=true)(A7:¬s=ByteArray.mk #[73,110,116])(Aa:¬s=ByteArray.mk #[66,111,111,108])(Am:¬s=ByteArray.mk #[67,101,108,108]):Pu 134 [.str s] (rB !ByteArray.toList s==ByteArray.toList (ByteArray.mk #[70,117,110])):=
 pm A9 [cl (@HE (s)),rp 2 (bf (!Em s) (AI G0)),am ((0:Int)<=0/\0<(↑(ByteArray.size s):Int)) (by (apply H7 <;> first | assumption | omega | decide)),DM s 0,bf (!Em s) (AI G0),cl (@Rm ((↑(UInt8.toNat (List.getD (Array.toList (ByteArray.data s)) 0 default)):Int))),rp 2 (bf (!Em s) (AI G0)),rp 2 (bf (!GN (↑(UInt8.toNat (List.getD (Array.toList (ByteArray.data s)) 0 default)):Int)) (AI He)),cl (@Ox (s) (by (apply JU <;> first | assumption | omega | decide))),rp 2 (bf (!GN (↑(UInt8.toNat (List.getD (Array.toList (ByteArray.data s)) 0 default)):Int)) (AI He)),bf (!List.all (Array.toList (ByteArray.data s)) JM) (AI Lx),rp 3 (bt (!ByteArray.toList s==ByteArray.toList (ByteArray.mk #[73,110,116])) (B0 (Bp A7))),rp 3 (bt (!ByteArray.toList s==ByteArray.toList (ByteArray.mk #[66,111,111,108])) (B0 (Bp Aa))),rp 3 (bt (!ByteArray.toList s==ByteArray.toList (ByteArray.mk #[67,101,108,108])) (B0 (Bp Am)))] func134
theorem zQ(He:GN (s.data.toList.getD 0 default).toNat=true)(Lx:s.data.toList.all JM=true)(A7:¬s=ByteArray.mk #[73,110,116])(Aa:¬s=ByteArray.mk #[66,111,111,108])(Am:s=ByteArray.mk #[67,101,108,108]):Pu 134 [.str s] (rB false):=
 pm A9 [cl (@HE (s)),rp 2 (bf (!Em s) (AI G0)),am ((0:Int)<=0/\0<(↑(ByteArray.size s):Int)) (by (apply H7 <;> first | assumption | omega | decide)),DM s 0,bf (!Em s) (AI G0),cl (@Rm ((↑(UInt8.toNat (List.getD (Array.toList (ByteArray.data s)) 0 default)):Int))),rp 2 (bf (!Em s) (AI G0)),rp 2 (bf (!GN (↑(UInt8.toNat (List.getD (Array.toList (ByteArray.data s)) 0 default)):Int)) (AI He)),cl (@Ox (s) (by (apply JU <;> first | assumption | omega | decide))),rp 2 (bf (!GN (↑(UInt8.toNat (List.getD (Array.toList (ByteArray.data s)) 0 default)):Int)) (AI He)),bf (!List.all (Array.toList (ByteArray.data s)) JM) (AI Lx),rp 3 (bt (!ByteArray.toList s==ByteArray.toList (ByteArray.mk #[73,110,116])) (B0 (Bp A7))),rp 3 (bt (!ByteArray.toList s==ByteArray.toList (ByteArray.mk #[66,111,111,108])) (B0 (Bp Aa))),rp 3 (bf (!ByteArray.toList s==ByteArray.toList (ByteArray.mk #[67,101,108,108])) (AI (BI Am)))] func134
theorem zR(He:GN (s.data.toList.getD 0 default).toNat=true)(Lx:s.data.toList.all JM=true)(A7:¬s=ByteArray.mk #[73,110,116])(Aa:s=ByteArray.mk #[66,111,111,108]):Pu 134 [.str s] (rB false):=
 pm A9 [cl (@HE (s)),rp 2 (bf (!Em s) (AI G0)),am ((0:Int)<=0/\0<(↑(ByteArray.size s):Int)) (by (apply H7 <;> first | assumption | omega | decide)),DM s 0,bf (!Em s) (AI G0),cl (@Rm ((↑(UInt8.toNat (List.getD (Array.toList (ByteArray.data s)) 0 default)):Int))),rp 2 (bf (!Em s) (AI G0)),rp 2 (bf (!GN (↑(UInt8.toNat (List.getD (Array.toList (ByteArray.data s)) 0 default)):Int)) (AI He)),cl (@Ox (s) (by (apply JU <;> first | assumption | omega | decide))),rp 2 (bf (!GN (↑(UInt8.toNat (List.getD (Array.toList (ByteArray.data s)) 0 default)):Int)) (AI He)),bf (!List.all (Array.toList (ByteArray.data s)) JM) (AI Lx),rp 3 (bt (!ByteArray.toList s==ByteArray.toList (ByteArray.mk #[73,110,116])) (B0 (Bp A7))),rp 3 (bf (!ByteArray.toList s==ByteArray.toList (ByteArray.mk #[66,111,111,108])) (AI (BI Aa))),rp 3 (bf false)] func134
theorem zS(He:GN (s.data.toList.getD 0 default).toNat=true)(Lx:s.data.toList.all JM=true)(A7:s=ByteArray.mk #[73,110,116]):Pu 134 [.str s] (rB false):=
 pm A9 [cl (@HE (s)),rp 2 (bf (!Em s) (AI G0)),am ((0:Int)<=0/\0<(↑(ByteArray.size s):Int)) (by (apply H7 <;> first | assumption | omega | decide)),DM s 0,bf (!Em s) (AI G0),cl (@Rm ((↑(UInt8.toNat (List.getD (Array.toList (ByteArray.data s)) 0 default)):Int))),rp 2 (bf (!Em s) (AI G0)),rp 2 (bf (!GN (↑(UInt8.toNat (List.getD (Array.toList (ByteArray.data s)) 0 default)):Int)) (AI He)),cl (@Ox (s) (by (apply JU <;> first | assumption | omega | decide))),rp 2 (bf (!GN (↑(UInt8.toNat (List.getD (Array.toList (ByteArray.data s)) 0 default)):Int)) (AI He)),bf (!List.all (Array.toList (ByteArray.data s)) JM) (AI Lx),rp 3 (bf (!ByteArray.toList s==ByteArray.toList (ByteArray.mk #[73,110,116])) (AI (BI A7))),rp 6 (bf false)] func134
end
theorem bcA{s:BA}{i:Nat}(h:i<List.length (s.data.toList)):(0:Int)<=((0:Nat):Int)/\((0:Nat):Int)<=(i:Int)/\(i:Int)<=(s.size:Int):=by
 have:=Lw h; omega
theorem bcB{s:BA}{i:Nat}(h:i<List.length (s.data.toList)):(0:Int)<=(i:Int)+1/\(i:Int)+1<=(s.size:Int)/\(s.size:Int)<=(s.size:Int):=by
 have:=Lw h; omega
def VA:List UInt8->Nat
 | []=>0
 | c::r=>if ((c.toNat:Nat):Int)=46 then 0 else VA r+1
abbrev qE(s:BA)(j:Int)(e:Ext):S:=S.mk [(0,vS s),(2,vS Ai),(3,vS Ai),(4,.v (.bool false)),(5,A6 j)] [] e
inductive MB where
 | e0 (i:Nat)
 | e1
def HF  : List UInt8->Nat->MB
 | [],i=>(MB.e1)
 | el::r,i=>(if (↑(UInt8.toNat el):Int)=46 then (MB.e0 i) else HF  r (i+1))
def ZW(s:BA)(e:Ext):MB->A4 × S
 | .e0 i=>(.ret,S.mk [(0,vS s),(2,vS (ByteArray.extract s 0 i)),(3,vS (ByteArray.extract s (i+1) (ByteArray.size s))),(4,.v (.bool true))] [] e)
 | .e1=>(.exit 0,S.mk [(0,vS s),(2,vS Ai),(3,vS Ai),(4,.v (.bool false))] [] e)
theorem ZX(s:BA)(e:Ext)(hN:List.length ((s.data.toList))<=1000000000):(Ob.loop 24 (Au f132 0) (qE s 0  e) (ZW s e (HF  ((s.data.toList)) 0)).1 (ZW s e (HF  ((s.data.toList)) 0)).2).ok prog:=by
 refine CL (List.length ((s.data.toList))) (fun j _=>qE s j  e) (fun i _=>HF  (List.drop i ((s.data.toList))) i) (ZW s e) (fun i _=>True) kR ?_ () trivial
 rintro i u hi -
 rcases Nat.lt_or_ge i (List.length ((s.data.toList))) with Ac | Cm
 ·have hd:=At Ac
  by_cases h0:(↑(UInt8.toNat (List.getD (Array.toList (ByteArray.data s)) i default)):Int)=46
  ·exact lX A9 [kp,dt ((i:Int)<(↑(ByteArray.size s):Int)) (by (apply Lw <;> first | assumption | omega | decide)),am ((0:Int)<=(i:Int)/\(i:Int)<(↑(ByteArray.size s):Int)) (by simp_all [Dc]),DM s i,Bb h0,am ((0:Int)<=(0:Int)/\(0:Int)<=(i:Int)/\(i:Int)<=(↑(ByteArray.size s):Int)) (by (apply bcA <;> first | assumption | omega | decide)),av (vS (ByteArray.extract s (Int.toNat (0:Int)) (Int.toNat (i:Int)))) (vS (ByteArray.extract s 0 i)) rF,wr ((i:Int)+1),am ((0:Int)<=(i:Int)+1/\(i:Int)+1<=(↑(ByteArray.size s):Int)/\(↑(ByteArray.size s):Int)<=(↑(ByteArray.size s):Int)) (by (apply bcB <;> first | assumption | omega | decide)),av (vS (ByteArray.extract s (Int.toNat ((i:Int)+1)) (Int.toNat (↑(ByteArray.size s):Int)))) (vS (ByteArray.extract s (i+1) (ByteArray.size s))) rF] (MB.e0 i) (by rw [hd,HF,iP h0])
  ·exact lN A9 [kp,dt ((i:Int)<(↑(ByteArray.size s):Int)) (by (apply Lw <;> first | assumption | omega | decide)),am ((0:Int)<=(i:Int)/\(i:Int)<(↑(ByteArray.size s):Int)) (by simp_all [Dc]),DM s i,Ay h0,wr ((i:Int)+1)] Ac () trivial (by rw [hd,HF,iN h0])
 ·have he:i=List.length ((s.data.toList)):=by omega
  exact lX A9 [kp,df ((i:Int)<(↑(ByteArray.size s):Int)) (by (apply jX <;> first | assumption | omega | decide))] (MB.e1) (by rw [he,List.drop_length,HF])
theorem zT(s:BA)(hs:s.size<=1000000000)(CX:Nat)(Aa:HF (Array.toList (ByteArray.data s)) 0=MB.e0 CX):Pu 132 [.str s] (.ret (.Bf [.str (ByteArray.extract s 0 CX),.str (ByteArray.extract s (CX+1) (ByteArray.size s)),.bool true])):=
 pu A9 (fun e=>[lp (S.mk [(0,vS s),(2,vS Ai),(3,vS Ai),(4,.v (.bool false)),(5,A6 0)] [] e) (rz (ZX (s) (e) (by (apply HD <;> first | assumption | omega | decide))) Aa) ⟨⟨W,Wq,Wq,W,W,B7⟩,trivial,rfl⟩]) func132
theorem zU(s:BA)(hs:s.size<=1000000000)(A7:HF (Array.toList (ByteArray.data s)) 0=MB.e1):Pu 132 [.str s] (.ret (.Bf [.str s,.str Ai,.bool false])):=
 pu A9 (fun e=>[lp (S.mk [(0,vS s),(2,vS Ai),(3,vS Ai),(4,.v (.bool false)),(5,A6 0)] [] e) (rz (ZX (s) (e) (by (apply HD <;> first | assumption | omega | decide))) A7) ⟨⟨W,Wq,Wq,W,W,B7⟩,trivial,rfl⟩]) func132
theorem SX(s:BA):Pu 134 [.str s] (.ret (.bool (C9 s))):=by
 unfold C9
 cases G0:Em s with
 | false=>exact pm A9 [cl (@HE (s)),rp 5 (bt (!Em s) (B0 G0)),rp 5 (bt true)] func134
 | true=>
  cases He:GN (s.data.toList.getD 0 default).toNat with
  | false=>exact Ag4 s G0 He
  | true=>
   cases Lx:s.data.toList.all JM with
   | false=>exact Ag5 s G0 He Lx
   | true=>
    simp only [Bool.true_and]
    by_cases h1:s=mH
    ·rw [decide_eq_true h1]; simpa using zS s G0 He Lx h1
    ·by_cases h2:s=Vy
     ·rw [decide_eq_true h2]; simpa using zR s G0 He Lx h1 h2
     ·by_cases h3:s=Vz
      ·rw [decide_eq_true h3]; simpa using zQ s G0 He Lx h1 h2 h3
      ·have e:(!decide (s=mH) && !decide (s=Vy) && !decide (s=Vz) && !decide (s=ZV)) = !(ByteArray.toList s==ByteArray.toList ZV):=by
        rw [decide_eq_false h1,decide_eq_false h2,decide_eq_false h3]
        by_cases h4:s=ZV
        ·rw [decide_eq_true h4,BI h4]; rfl
        ·rw [decide_eq_false h4,Bp h4]; rfl
       rw [e]
       exact zP s G0 He Lx h1 h2 h3
theorem ZY:∀ (l:List UInt8) (k:Nat),HF l k=if VA l<l.length then .e0 (k+VA l) else .e1
 | [],k=>by simp [HF,VA]
 | c::r,k=>by
  by_cases h:((c.toNat:Nat):Int)=46
  ·simp [HF,VA,h]
  ·simp only [HF,VA,h,if_false,ZY r (k+1),List.length_cons]
   by_cases h2:VA r<r.length
   ·rw [iP h2,iP oM]; congr 1; omega
   ·rw [iN h2,iN oM]
abbrev BW(s:BA):Nat:=VA s.data.toList
theorem Oy(s:BA)(hs:s.size<=1000000000)(hx:BW s<s.size):Pu 132 [.str s] (.ret (.Bf [.str (s.extract 0 (BW s)),.str (s.extract (BW s+1) s.size),.bool true])):=
 zT s hs _ (by rw [ZY,iP (by simpa using hx),Nat.zero_add])
theorem SY(s:BA)(hs:s.size<=1000000000)(hx:¬BW s<s.size):Pu 132 [.str s] (.ret (.Bf [.str s,.str Ai,.bool false])):=
 zU s hs (by rw [ZY,iN (by simpa using hx)])
def D6(s:BA):Bool:=Em s&&(s.data.toList.all JM||Gw s.data.toList)
abbrev X9(first rest:BA)(more:Bool)(xe:Ext):S:=⟨[(2,.v (.int .i64 0)),(4,.v (.str rest)),(5,.v (.bool more))],[],xe⟩
section
variable (rest:BA) (xe:Ext)
include rest xe
theorem coZ(cx:Cx)(Aw:cx.n=52){Q:A4->S->Prop}(hq:Q (.exit 0) (S.mk [(2,A6 0),(4,vS rest),(5,.v (.bool false))] [] xe)):PW prog cx (Au f85 0) (X9 rest rest false xe) Q:=
 pw A9 52 [bf false] [2,4,5] [] Aw hq
theorem A82(hs:rest.size<=1000000000)(hx:BW rest<rest.size)(A7:Em (ByteArray.extract rest 0 (BW rest))=false)(cx:Cx)(Aw:cx.n=52){Q:A4->S->Prop}(hq:Q (.ret) (S.mk [(2,A6 3),(4,vS (ByteArray.extract rest (BW rest+1) (ByteArray.size rest))),(5,.v (.bool true))] [] xe)):PW prog cx (Au f85 0) (X9 rest rest true xe) Q:=
 pw A9 52 [bt true,cl (@Oy (rest) hs hx),cl (@HE (ByteArray.extract rest 0 (BW rest))),rp 6 (AV (B0 A7)),bt true] [2,4,5] [] Aw hq
theorem A83(hs:rest.size<=1000000000)(hx:BW rest<rest.size)(A7:Em (ByteArray.extract rest 0 (BW rest))=true)(Aa:List.all (Array.toList (ByteArray.data (ByteArray.extract rest 0 (BW rest)))) JM=false)(Am:Gw (Array.toList (ByteArray.data (ByteArray.extract rest 0 (BW rest))))=false)(cx:Cx)(Aw:cx.n=52){Q:A4->S->Prop}(hq:Q (.ret) (S.mk [(2,A6 3),(4,vS (ByteArray.extract rest (BW rest+1) (ByteArray.size rest))),(5,.v (.bool true))] [] xe)):PW prog cx (Au f85 0) (X9 rest rest true xe) Q:=
 pw A9 52 [bt true,cl (@Oy (rest) hs hx),cl (@HE (ByteArray.extract rest 0 (BW rest))),rp 2 (AM (AI A7)),cl (@Ox (ByteArray.extract rest 0 (BW rest)) (by (apply JU <;> first | assumption | omega | decide))),rp 2 (AM (AI A7)),rp 2 (AV (B0 Aa)),cl (@mF (ByteArray.extract rest 0 (BW rest)) (by (apply JU <;> first | assumption | omega | decide))),AV (B0 Aa),AM (AI A7),AV (B0 Aa),AM (AI A7),AV (B0 Am)] [2,4,5] [] Aw hq
theorem A84(hs:rest.size<=1000000000)(hx:BW rest<rest.size)(A7:Em (ByteArray.extract rest 0 (BW rest))=true)(Aa:List.all (Array.toList (ByteArray.data (ByteArray.extract rest 0 (BW rest)))) JM=false)(Am:Gw (Array.toList (ByteArray.data (ByteArray.extract rest 0 (BW rest))))=true)(cx:Cx)(Aw:cx.n=52){Q:A4->S->Prop}(hq:Q (.normal) (S.mk [(2,A6 0),(4,vS (ByteArray.extract rest (BW rest+1) (ByteArray.size rest))),(5,.v (.bool true))] [] xe)):PW prog cx (Au f85 0) (X9 rest rest true xe) Q:=
 pw A9 52 [bt true,cl (@Oy (rest) hs hx),cl (@HE (ByteArray.extract rest 0 (BW rest))),rp 2 (AM (AI A7)),cl (@Ox (ByteArray.extract rest 0 (BW rest)) (by (apply JU <;> first | assumption | omega | decide))),rp 2 (AM (AI A7)),rp 2 (AV (B0 Aa)),cl (@mF (ByteArray.extract rest 0 (BW rest)) (by (apply JU <;> first | assumption | omega | decide))),AV (B0 Aa),AM (AI A7),AV (B0 Aa),AM (AI A7),AM (AI Am)] [2,4,5] [] Aw hq
theorem A85(hs:rest.size<=1000000000)(hx:BW rest<rest.size)(A7:Em (ByteArray.extract rest 0 (BW rest))=true)(Aa:List.all (Array.toList (ByteArray.data (ByteArray.extract rest 0 (BW rest)))) JM=true)(cx:Cx)(Aw:cx.n=52){Q:A4->S->Prop}(hq:Q (.normal) (S.mk [(2,A6 0),(4,vS (ByteArray.extract rest (BW rest+1) (ByteArray.size rest))),(5,.v (.bool true))] [] xe)):PW prog cx (Au f85 0) (X9 rest rest true xe) Q:=
 pw A9 52 [bt true,cl (@Oy (rest) hs hx),cl (@HE (ByteArray.extract rest 0 (BW rest))),rp 2 (AM (AI A7)),cl (@Ox (ByteArray.extract rest 0 (BW rest)) (by (apply JU <;> first | assumption | omega | decide))),rp 2 (AM (AI A7)),rp 3 (AM (AI Aa)),AM (AI A7),AM (AI Aa),AM (AI A7),bf false] [2,4,5] [] Aw hq
theorem A86(hs:rest.size<=1000000000)(hx:¬BW rest<rest.size)(A7:Em rest=false)(cx:Cx)(Aw:cx.n=52){Q:A4->S->Prop}(hq:Q (.ret) (S.mk [(2,A6 3),(4,vS Ai),(5,.v (.bool false))] [] xe)):PW prog cx (Au f85 0) (X9 rest rest true xe) Q:=
 pw A9 52 [bt true,cl (@SY (rest) hs hx),cl (@HE (rest)),rp 6 (AV (B0 A7)),bt true] [2,4,5] [] Aw hq
theorem A87(hs:rest.size<=1000000000)(hx:¬BW rest<rest.size)(A7:Em rest=true)(Aa:List.all (Array.toList (ByteArray.data rest)) JM=false)(Am:Gw (Array.toList (ByteArray.data rest))=false)(cx:Cx)(Aw:cx.n=52){Q:A4->S->Prop}(hq:Q (.ret) (S.mk [(2,A6 3),(4,vS Ai),(5,.v (.bool false))] [] xe)):PW prog cx (Au f85 0) (X9 rest rest true xe) Q:=
 pw A9 52 [bt true,cl (@SY (rest) hs hx),cl (@HE (rest)),rp 2 (AM (AI A7)),cl (@Ox (rest) hs),rp 2 (AM (AI A7)),rp 2 (AV (B0 Aa)),cl (@mF (rest) hs),AV (B0 Aa),AM (AI A7),AV (B0 Aa),AM (AI A7),AV (B0 Am)] [2,4,5] [] Aw hq
theorem A88(hs:rest.size<=1000000000)(hx:¬BW rest<rest.size)(A7:Em rest=true)(Aa:List.all (Array.toList (ByteArray.data rest)) JM=false)(Am:Gw (Array.toList (ByteArray.data rest))=true)(cx:Cx)(Aw:cx.n=52){Q:A4->S->Prop}(hq:Q (.normal) (S.mk [(2,A6 0),(4,vS Ai),(5,.v (.bool false))] [] xe)):PW prog cx (Au f85 0) (X9 rest rest true xe) Q:=
 pw A9 52 [bt true,cl (@SY (rest) hs hx),cl (@HE (rest)),rp 2 (AM (AI A7)),cl (@Ox (rest) hs),rp 2 (AM (AI A7)),rp 2 (AV (B0 Aa)),cl (@mF (rest) hs),AV (B0 Aa),AM (AI A7),AV (B0 Aa),AM (AI A7),AM (AI Am)] [2,4,5] [] Aw hq
theorem A89(hs:rest.size<=1000000000)(hx:¬BW rest<rest.size)(A7:Em rest=true)(Aa:List.all (Array.toList (ByteArray.data rest)) JM=true)(cx:Cx)(Aw:cx.n=52){Q:A4->S->Prop}(hq:Q (.normal) (S.mk [(2,A6 0),(4,vS Ai),(5,.v (.bool false))] [] xe)):PW prog cx (Au f85 0) (X9 rest rest true xe) Q:=
 pw A9 52 [bt true,cl (@SY (rest) hs hx),cl (@HE (rest)),rp 2 (AM (AI A7)),cl (@Ox (rest) hs),rp 2 (AM (AI A7)),rp 3 (AM (AI Aa)),AM (AI A7),AM (AI Aa),AM (AI A7),bf false] [2,4,5] [] Aw hq
end
def coR:Nat->BA->Bool
 | 0,_=>true
 | n+1,s=>if BW s<s.size then D6 (s.extract 0 (BW s))&&coR n (s.extract (BW s+1) s.size) else D6 s
theorem Ku(s:BA)(h:BW s<s.size):(s.extract (BW s+1) s.size).size<s.size:=by rw [ByteArray.size_extract]; omega
theorem SZ:∀ (n m:Nat) (s:BA),s.size<n->s.size<m->coR n s=coR m s
 | 0,_,_,h,_=>by omega
 | _+1,0,_,_,h=>by omega
 | n+1,m+1,s,h,k=>by
  simp only [coR]
  by_cases hx:BW s<s.size
  ·have:=Ku s hx
   rw [iP hx,iP hx,SZ n m _ oM oM]
  ·rw [iN hx,iN hx]
def Oz(s:BA):Bool:=coR (s.size+1) s
theorem Un(s:BA):Oz s=if BW s<s.size then D6 (s.extract 0 (BW s))&&Oz (s.extract (BW s+1) s.size) else D6 s:=by
 unfold Oz
 rw [coR]
 by_cases hx:BW s<s.size
 ·have:=Ku s hx
  rw [iP hx,iP hx,SZ _ ((s.extract (BW s+1) s.size).size+1) _ oM oM]
 ·rw [iN hx,iN hx]
def jY(xe:Ext)(b:Bool):A4 × S:=if b=true then (.exit 0,⟨[(2,.v (.int .i64 0))],[],xe⟩) else (.ret,⟨[(2,.v (.int .i64 3))],[],xe⟩)
def Pg(x:BA × Bool):Bool:=if x.2=true then Oz x.1 else true
theorem qF(xe:Ext)(rest:BA)(more:Bool)(hs:rest.size<=1000000000):(Ob.loop 52 (Au f85 0) (X9 rest rest more xe) (jY xe (Pg (rest,more))).1 (jY xe (Pg (rest,more))).2).ok prog:=by
 refine Ob.Nq (P:=prog) (α:={ x:BA × Bool // x.1.size<=1000000000 }) (fun x=>X9 x.1.1 x.1.1 x.1.2 xe) (fun x=>if x.1.2=true then x.1.1.size+1 else 0) (fun x=>jY xe (Pg x.1)) ?_ ⟨(rest,more),hs⟩
 clear hs more rest
 rintro ⟨⟨rest,more⟩,hs⟩ cx Aw
 replace hs:rest.size<=1000000000:=hs
 have W1:∀ (r:BA) (b:Bool),No (⟨[(2,.v (.int .i64 3))],[],xe⟩:S) ⟨[(2,.v (.int .i64 3)),(4,.v (.str r)),(5,.v (.bool b))],[],xe⟩:=fun r b=>⟨⟨W,B7⟩,trivial,rfl⟩
 cases more with
 | false=>
  have hr:jY xe (Pg (rest,false))=(.exit 0,⟨[(2,.v (.int .i64 0))],[],xe⟩):=rfl
  refine coZ rest xe cx Aw (.inr ?_)
  simp only
  rw [hr]
  exact ⟨by simp,rfl,xr⟩
 | true=>
  have hm:Pg (rest,true)=Oz rest:=rfl
  by_cases hx:BW rest<rest.size
  ·have Ac:=Ku rest hx
   have hg:=Un rest
   rw [iP hx] at hg
   have bad:D6 (rest.extract 0 (BW rest))=false->jY xe (Pg (rest,true))=(.ret,⟨[(2,.v (.int .i64 3))],[],xe⟩):=fun h=>by rw [hm,hg,h]; rfl
   have ZZ:D6 (rest.extract 0 (BW rest))=true->jY xe (Pg (rest,true))=jY xe (Pg (rest.extract (BW rest+1) rest.size,true)):=fun h=>by rw [hm,hg,h]; rfl
   cases h0:Em (rest.extract 0 (BW rest)) with
   | false=>
    refine A82 rest xe hs hx h0 cx Aw (.inr ?_)
    simp only
    rw [bad (by simp [D6,h0])]
    exact ⟨by simp,rfl,W1 _ _⟩
   | true=>
    cases h1:(rest.extract 0 (BW rest)).data.toList.all JM with
    | true=>exact A85 rest xe hs hx h0 h1 cx Aw (.inl ⟨rfl,⟨(rest.extract (BW rest+1) rest.size,true),by simp only; omega⟩,by simp only [if_true]; omega,⟨⟨W,W,W,B7⟩,trivial,rfl⟩,(ZZ (by simp only [D6,h0,h1]; rfl)).symm⟩)
    | false=>
     cases h2:Gw (rest.extract 0 (BW rest)).data.toList with
     | true=>exact A84 rest xe hs hx h0 h1 h2 cx Aw (.inl ⟨rfl,⟨(rest.extract (BW rest+1) rest.size,true),by simp only; omega⟩,by simp only [if_true]; omega,⟨⟨W,W,W,B7⟩,trivial,rfl⟩,(ZZ (by simp only [D6,h0,h1,h2]; rfl)).symm⟩)
     | false=>
      refine A83 rest xe hs hx h0 h1 h2 cx Aw (.inr ?_)
      simp only
      rw [bad (by simp only [D6,h0,h1,h2]; rfl)]
      exact ⟨by simp,rfl,W1 _ _⟩
  ·have hg:=Un rest
   rw [iN hx] at hg
   have bad:D6 rest=false->jY xe (Pg (rest,true))=(.ret,⟨[(2,.v (.int .i64 3))],[],xe⟩):=fun h=>by rw [hm,hg,h]; rfl
   have ZZ:D6 rest=true->jY xe (Pg (rest,true))=jY xe (Pg (Ai,false)):=fun h=>by rw [hm,hg,h]; rfl
   cases h0:Em rest with
   | false=>
    refine A86 rest xe hs hx h0 cx Aw (.inr ?_)
    simp only
    rw [bad (by simp [D6,h0])]
    exact ⟨by simp,rfl,W1 _ _⟩
   | true=>
    cases h1:rest.data.toList.all JM with
    | true=>exact A89 rest xe hs hx h0 h1 cx Aw (.inl ⟨rfl,⟨(Ai,false),by decide⟩,by simp,⟨⟨W,W,W,B7⟩,trivial,rfl⟩,(ZZ (by simp only [D6,h0,h1]; rfl)).symm⟩)
    | false=>
     cases h2:Gw rest.data.toList with
     | true=>exact A88 rest xe hs hx h0 h1 h2 cx Aw (.inl ⟨rfl,⟨(Ai,false),by decide⟩,by simp,⟨⟨W,W,W,B7⟩,trivial,rfl⟩,(ZZ (by simp only [D6,h0,h1,h2]; rfl)).symm⟩)
     | false=>
      refine A87 rest xe hs hx h0 h1 h2 cx Aw (.inr ?_)
      simp only
      rw [bad (by simp only [D6,h0,h1,h2]; rfl)]
      exact ⟨by simp,rfl,W1 _ _⟩
theorem aA(xe:Ext)(rest:BA)(more:Bool)(hs:rest.size<=1000000000)(hb:Pg (rest,more)=true):(Ob.loop 52 (Au f85 0) (X9 rest rest more xe) (.exit 0) ⟨[(2,.v (.int .i64 0))],[],xe⟩).ok prog:=by
 have:=qF xe rest more hs
 rw [hb] at this
 exact this
theorem zV(xe:Ext)(rest:BA)(more:Bool)(hs:rest.size<=1000000000)(hb:Pg (rest,more)=false):(Ob.loop 52 (Au f85 0) (X9 rest rest more xe) .ret ⟨[(2,.v (.int .i64 3))],[],xe⟩).ok prog:=by
 have:=qF xe rest more hs
 rw [hb] at this
 exact this
theorem Qf{s:BA}{a b:Nat}(h:(s.size:Int)<=120):(s.extract a b).size<=1000000000:=by rw [ByteArray.size_extract]; omega
theorem A8a{s:BA}(h:(s.size:Int)<=120):s.size<=1000000000:=by omega
abbrev tV:BA:=⟨#[118]⟩
section
variable (s:BA)
include s
theorem Ag6(hl:(s.size:Int)>120):Pu 85 [.str s] (rI 3):=
 pm A9 [kp,dt ((↑(ByteArray.size s):Int)>120) hl] func85
theorem zW(hl:(s.size:Int)<=120)(hx:BW s<s.size)(A7:Bz (ByteArray.extract s 0 (BW s))=false)(Aa:C9 (ByteArray.extract s 0 (BW s))=false)(Am:¬ByteArray.extract s 0 (BW s)=ByteArray.mk #[118]):Pu 85 [.str s] (rI 3):=
 pm A9 [kp,df ((↑(ByteArray.size s):Int)>120),cl (@Oy (s) oM hx),cl (@Ni (ByteArray.extract s 0 (BW s))),rp 2 (AV (B0 A7)),cl (@SX (ByteArray.extract s 0 (BW s))),rp 2 (AV (B0 A7)),rp 3 (AV (B0 Aa)),rp 2 (bt (!ByteArray.toList (ByteArray.extract s 0 (BW s))==ByteArray.toList (bM 118)) (B0 (Bp Am))),AV (B0 Aa),bt (!ByteArray.toList (ByteArray.extract s 0 (BW s))==ByteArray.toList (bM 118)) (B0 (Bp Am)),AV (B0 Aa),bt true] func85
theorem zX(hl:(s.size:Int)<=120)(hx:BW s<s.size)(A7:Bz (ByteArray.extract s 0 (BW s))=false)(Aa:C9 (ByteArray.extract s 0 (BW s))=false)(Am:ByteArray.extract s 0 (BW s)=ByteArray.mk #[118])(Az:Pg (ByteArray.extract s (BW s+1) (ByteArray.size s),true)=true):Pu 85 [.str s] (rI 0):=
 pu A9 (fun e=>[kp,df ((↑(ByteArray.size s):Int)>120),cl (@Oy (s) oM hx),cl (@Ni (ByteArray.extract s 0 (BW s))),rp 2 (AV (B0 A7)),cl (@SX (ByteArray.extract s 0 (BW s))),rp 2 (AV (B0 A7)),rp 3 (AV (B0 Aa)),rp 2 (bf (!ByteArray.toList (ByteArray.extract s 0 (BW s))==ByteArray.toList (bM 118)) (AI (BI Am))),AV (B0 Aa),bf (!ByteArray.toList (ByteArray.extract s 0 (BW s))==ByteArray.toList (bM 118)) (AI (BI Am)),AV (B0 Aa),bf false,lq (@aA (e) (ByteArray.extract s (BW s+1) (ByteArray.size s)) (true) (by (apply Qf <;> first | assumption | omega | decide)) Az)]) func85
theorem zY(hl:(s.size:Int)<=120)(hx:BW s<s.size)(A7:Bz (ByteArray.extract s 0 (BW s))=false)(Aa:C9 (ByteArray.extract s 0 (BW s))=false)(Am:ByteArray.extract s 0 (BW s)=ByteArray.mk #[118])(Az:Pg (ByteArray.extract s (BW s+1) (ByteArray.size s),true)=false):Pu 85 [.str s] (rI 3):=
 pu A9 (fun e=>[kp,df ((↑(ByteArray.size s):Int)>120),cl (@Oy (s) oM hx),cl (@Ni (ByteArray.extract s 0 (BW s))),rp 2 (AV (B0 A7)),cl (@SX (ByteArray.extract s 0 (BW s))),rp 2 (AV (B0 A7)),rp 3 (AV (B0 Aa)),rp 2 (bf (!ByteArray.toList (ByteArray.extract s 0 (BW s))==ByteArray.toList (bM 118)) (AI (BI Am))),AV (B0 Aa),bf (!ByteArray.toList (ByteArray.extract s 0 (BW s))==ByteArray.toList (bM 118)) (AI (BI Am)),AV (B0 Aa),bf false,lq (@zV (e) (ByteArray.extract s (BW s+1) (ByteArray.size s)) (true) (by (apply Qf <;> first | assumption | omega | decide)) Az)]) func85
theorem zZ(hl:(s.size:Int)<=120)(hx:BW s<s.size)(A7:Bz (ByteArray.extract s 0 (BW s))=false)(Aa:C9 (ByteArray.extract s 0 (BW s))=true)(Am:Pg (ByteArray.extract s (BW s+1) (ByteArray.size s),true)=true):Pu 85 [.str s] (rI 0):=
 pu A9 (fun e=>[kp,df ((↑(ByteArray.size s):Int)>120),cl (@Oy (s) oM hx),cl (@Ni (ByteArray.extract s 0 (BW s))),rp 2 (AV (B0 A7)),cl (@SX (ByteArray.extract s 0 (BW s))),rp 2 (AV (B0 A7)),rp 5 (AM (AI Aa)),bf false,lq (@aA (e) (ByteArray.extract s (BW s+1) (ByteArray.size s)) (true) (by (apply Qf <;> first | assumption | omega | decide)) Am)]) func85
theorem A00(hl:(s.size:Int)<=120)(hx:BW s<s.size)(A7:Bz (ByteArray.extract s 0 (BW s))=false)(Aa:C9 (ByteArray.extract s 0 (BW s))=true)(Am:Pg (ByteArray.extract s (BW s+1) (ByteArray.size s),true)=false):Pu 85 [.str s] (rI 3):=
 pu A9 (fun e=>[kp,df ((↑(ByteArray.size s):Int)>120),cl (@Oy (s) oM hx),cl (@Ni (ByteArray.extract s 0 (BW s))),rp 2 (AV (B0 A7)),cl (@SX (ByteArray.extract s 0 (BW s))),rp 2 (AV (B0 A7)),rp 5 (AM (AI Aa)),bf false,lq (@zV (e) (ByteArray.extract s (BW s+1) (ByteArray.size s)) (true) (by (apply Qf <;> first | assumption | omega | decide)) Am)]) func85
theorem A01(hl:(s.size:Int)<=120)(hx:BW s<s.size)(A7:Bz (ByteArray.extract s 0 (BW s))=true)(Aa:Pg (ByteArray.extract s (BW s+1) (ByteArray.size s),true)=true):Pu 85 [.str s] (rI 0):=
 pu A9 (fun e=>[kp,df ((↑(ByteArray.size s):Int)>120),cl (@Oy (s) oM hx),cl (@Ni (ByteArray.extract s 0 (BW s))),rp 4 (AM (AI A7)),rp 6 (bf false),lq (@aA (e) (ByteArray.extract s (BW s+1) (ByteArray.size s)) (true) (by (apply Qf <;> first | assumption | omega | decide)) Aa)]) func85
theorem A02(hl:(s.size:Int)<=120)(hx:BW s<s.size)(A7:Bz (ByteArray.extract s 0 (BW s))=true)(Aa:Pg (ByteArray.extract s (BW s+1) (ByteArray.size s),true)=false):Pu 85 [.str s] (rI 3):=
 pu A9 (fun e=>[kp,df ((↑(ByteArray.size s):Int)>120),cl (@Oy (s) oM hx),cl (@Ni (ByteArray.extract s 0 (BW s))),rp 4 (AM (AI A7)),rp 6 (bf false),lq (@zV (e) (ByteArray.extract s (BW s+1) (ByteArray.size s)) (true) (by (apply Qf <;> first | assumption | omega | decide)) Aa)]) func85
theorem A03(hl:(s.size:Int)<=120)(hx:¬BW s<s.size)(A7:Bz s=false)(Aa:C9 s=false)(Am:¬s=ByteArray.mk #[118]):Pu 85 [.str s] (rI 3):=
 pm A9 [kp,df ((↑(ByteArray.size s):Int)>120),cl (@SY (s) oM hx),cl (@Ni (s)),rp 2 (AV (B0 A7)),cl (@SX (s)),rp 2 (AV (B0 A7)),rp 3 (AV (B0 Aa)),rp 2 (bt (!ByteArray.toList s==ByteArray.toList (bM 118)) (B0 (Bp Am))),AV (B0 Aa),bt (!ByteArray.toList s==ByteArray.toList (bM 118)) (B0 (Bp Am)),AV (B0 Aa),bt true] func85
theorem A04(hl:(s.size:Int)<=120)(hx:¬BW s<s.size)(A7:Bz s=false)(Aa:C9 s=false)(Am:s=ByteArray.mk #[118]):Pu 85 [.str s] (rI 3):=
 pm A9 [kp,df ((↑(ByteArray.size s):Int)>120),cl (@SY (s) oM hx),cl (@Ni (s)),rp 2 (AV (B0 A7)),cl (@SX (s)),rp 2 (AV (B0 A7)),rp 3 (AV (B0 Aa)),rp 2 (bf (!ByteArray.toList s==ByteArray.toList (bM 118)) (AI (BI Am))),AV (B0 Aa),bf (!ByteArray.toList s==ByteArray.toList (bM 118)) (AI (BI Am)),AV (B0 Aa),bt true] func85
theorem A05(hl:(s.size:Int)<=120)(hx:¬BW s<s.size)(A7:Bz s=false)(Aa:C9 s=true):Pu 85 [.str s] (rI 0):=
 pu A9 (fun e=>[kp,df ((↑(ByteArray.size s):Int)>120),cl (@SY (s) oM hx),cl (@Ni (s)),rp 2 (AV (B0 A7)),cl (@SX (s)),rp 2 (AV (B0 A7)),rp 5 (AM (AI Aa)),bf false,lq (@aA (e) (Ai) (false) (by (apply A8a <;> first | assumption | omega | decide)) rF)]) func85
theorem A06(hl:(s.size:Int)<=120)(hx:¬BW s<s.size)(A7:Bz s=true):Pu 85 [.str s] (rI 0):=
 pu A9 (fun e=>[kp,df ((↑(ByteArray.size s):Int)>120),cl (@SY (s) oM hx),cl (@Ni (s)),rp 4 (AM (AI A7)),rp 6 (bf false),lq (@aA (e) (Ai) (false) (by (apply A8a <;> first | assumption | omega | decide)) rF)]) func85
end
end Go.Proofs.YthchpmnkecoafaaGreatDoor
