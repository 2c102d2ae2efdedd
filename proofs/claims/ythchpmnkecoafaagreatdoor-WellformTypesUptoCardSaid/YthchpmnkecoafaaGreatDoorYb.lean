/- Values of Go as plain data, an evaluator over them, and what the functions of the program return; part Yb. -/
import Derived.Test.YthchpmnkecoafaaGreatDoorYa
set_option linter.unusedSectionVars false
set_option linter.unusedSimpArgs false
set_option linter.unusedVariables false
namespace Go.Proofs.YthchpmnkecoafaaGreatDoor
open Go.Proofs.Tryz
open Go.Pv Go.Proofs.Tryz
set_option maxRecDepth 100000
def D1(c:Int):Bool:=decide (97<=c)&&decide (c<=122)
def Fp(c:Int):Bool:=decide (65<=c)&&decide (c<=90)
def IW(c:Int):Bool:=decide (48<=c)&&decide (c<=57)
theorem D2(i:Nat):((i:Int)+1).toNat=i+1:=by omega
def Jm:List BA:=[⟨#[97,110,100]⟩,⟨#[97,115,115,117,109,101]⟩,⟨#[98,111,111,108]⟩,⟨#[98,111,117,110,100]⟩,⟨#[99,97,115,101]⟩,⟨#[99,101,108,108]⟩,⟨#[99,108,97,115,115]⟩,⟨#[100,97,116,97]⟩,⟨#[100,101,102]⟩,⟨#[100,105,118]⟩,⟨#[101,108,115,101]⟩,⟨#[101,110,100]⟩,⟨#[102,97,108,115,101]⟩,⟨#[102,111,114,97,108,108]⟩,⟨#[102,117,110]⟩,⟨#[103,101,116]⟩,⟨#[105,102]⟩,⟨#[105,110]⟩,⟨#[105,110,115,116]⟩,⟨#[105,110,116]⟩,⟨#[105,110,118,97,114,105,97,110,116]⟩,⟨#[108,101,116]⟩,⟨#[109,97,116,99,104]⟩,⟨#[109,101,97,115,117,114,101]⟩,⟨#[109,101,116,114,105,99]⟩,⟨#[109,111,100]⟩,⟨#[109,117]⟩,⟨#[110,101,119]⟩,⟨#[110,111,116]⟩,⟨#[111,102]⟩,⟨#[111,114]⟩,⟨#[113,117,97,108]⟩,⟨#[114,101,102,108,101,99,116]⟩,⟨#[115,101,116]⟩,⟨#[116,104,101,110]⟩,⟨#[116,114,117,101]⟩,⟨#[117,115,101]⟩,⟨#[118]⟩,⟨#[118,97,108]⟩,⟨#[116,97,103]⟩,⟨#[119,104,101,114,101]⟩,⟨#[119,105,116,104]⟩]
def kwC:List PV:=[.str ⟨#[97,110,100]⟩,.str ⟨#[97,115,115,117,109,101]⟩,.str ⟨#[98,111,111,108]⟩,.str ⟨#[98,111,117,110,100]⟩,.str ⟨#[99,97,115,101]⟩,.str ⟨#[99,101,108,108]⟩,.str ⟨#[99,108,97,115,115]⟩,.str ⟨#[100,97,116,97]⟩,.str ⟨#[100,101,102]⟩,.str ⟨#[100,105,118]⟩,.str ⟨#[101,108,115,101]⟩,.str ⟨#[101,110,100]⟩,.str ⟨#[102,97,108,115,101]⟩,.str ⟨#[102,111,114,97,108,108]⟩,.str ⟨#[102,117,110]⟩,.str ⟨#[103,101,116]⟩,.str ⟨#[105,102]⟩,.str ⟨#[105,110]⟩,.str ⟨#[105,110,115,116]⟩,.str ⟨#[105,110,116]⟩,.str ⟨#[105,110,118,97,114,105,97,110,116]⟩,.str ⟨#[108,101,116]⟩,.str ⟨#[109,97,116,99,104]⟩,.str ⟨#[109,101,97,115,117,114,101]⟩,.str ⟨#[109,101,116,114,105,99]⟩,.str ⟨#[109,111,100]⟩,.str ⟨#[109,117]⟩,.str ⟨#[110,101,119]⟩,.str ⟨#[110,111,116]⟩,.str ⟨#[111,102]⟩,.str ⟨#[111,114]⟩,.str ⟨#[113,117,97,108]⟩,.str ⟨#[114,101,102,108,101,99,116]⟩,.str ⟨#[115,101,116]⟩,.str ⟨#[116,104,101,110]⟩,.str ⟨#[116,114,117,101]⟩,.str ⟨#[117,115,101]⟩,.str ⟨#[118]⟩,.str ⟨#[118,97,108]⟩,.str ⟨#[116,97,103]⟩,.str ⟨#[119,104,101,114,101]⟩,.str ⟨#[119,105,116,104]⟩]
theorem YY{i:Nat}(h:i<Jm.length):[PV.str ⟨#[97,110,100]⟩,.str ⟨#[97,115,115,117,109,101]⟩,.str ⟨#[98,111,111,108]⟩,.str ⟨#[98,111,117,110,100]⟩,.str ⟨#[99,97,115,101]⟩,.str ⟨#[99,101,108,108]⟩,.str ⟨#[99,108,97,115,115]⟩,.str ⟨#[100,97,116,97]⟩,.str ⟨#[100,101,102]⟩,.str ⟨#[100,105,118]⟩,.str ⟨#[101,108,115,101]⟩,.str ⟨#[101,110,100]⟩,.str ⟨#[102,97,108,115,101]⟩,.str ⟨#[102,111,114,97,108,108]⟩,.str ⟨#[102,117,110]⟩,.str ⟨#[103,101,116]⟩,.str ⟨#[105,102]⟩,.str ⟨#[105,110]⟩,.str ⟨#[105,110,115,116]⟩,.str ⟨#[105,110,116]⟩,.str ⟨#[105,110,118,97,114,105,97,110,116]⟩,.str ⟨#[108,101,116]⟩,.str ⟨#[109,97,116,99,104]⟩,.str ⟨#[109,101,97,115,117,114,101]⟩,.str ⟨#[109,101,116,114,105,99]⟩,.str ⟨#[109,111,100]⟩,.str ⟨#[109,117]⟩,.str ⟨#[110,101,119]⟩,.str ⟨#[110,111,116]⟩,.str ⟨#[111,102]⟩,.str ⟨#[111,114]⟩,.str ⟨#[113,117,97,108]⟩,.str ⟨#[114,101,102,108,101,99,116]⟩,.str ⟨#[115,101,116]⟩,.str ⟨#[116,104,101,110]⟩,.str ⟨#[116,114,117,101]⟩,.str ⟨#[117,115,101]⟩,.str ⟨#[118]⟩,.str ⟨#[118,97,108]⟩,.str ⟨#[116,97,103]⟩,.str ⟨#[119,104,101,114,101]⟩,.str ⟨#[119,105,116,104]⟩].getD i .Gf = .str (Jm.getD i Ah):=by
 show kwC.getD i .Gf=_
 have e:kwC=Jm.map .str:=rfl
 rw [e]
 simp [List.getD,h]
theorem Kz{l:List UInt8}{i:Nat}(h:i<List.length (List.drop 1 l)):l.getD (i+1) default=(List.drop 1 l).getD i default:=by simp [List.getD,Nat.add_comm]
theorem kwT{i:Nat}(h:i<Jm.length):(i:Int)<42:=by
 have:Jm.length=42:=rfl
 omega
theorem kwF{i:Nat}(h:i=Jm.length):¬(i:Int)<42:=by
 have:Jm.length=42:=rfl
 omega
theorem kwA{i:Nat}(h:i<Jm.length):(0:Int)<=(i:Int)/\(i:Int)<((42:Nat):Int):=by
 have:=kwT h; omega
theorem b1T{s:BA}{i:Nat}(h:i<List.length (List.drop 1 s.data.toList)):(i:Int)+1<(s.size:Int):=by
 have:s.size=s.data.size:=rfl
 simp at h; omega
theorem b1F{s:BA}{i:Nat}(h:i=List.length (List.drop 1 s.data.toList)):¬(i:Int)+1<(s.size:Int):=by
 have:s.size=s.data.size:=rfl
 simp at h; omega
theorem KY{s:BA}{i:Nat}(h:i<List.length (s.data.toList)):(i:Int)<(s.size:Int):=by
 have:s.size=s.data.size:=rfl
 simp at h; omega
theorem fA{s:BA}{i:Nat}(h:i=List.length (s.data.toList)):¬(i:Int)<(s.size:Int):=by
 have:s.size=s.data.size:=rfl
 simp at h; omega
theorem bzZ{s:BA}:¬((List.length (s.data.toList):Nat):Int)<(s.size:Int):=fA rfl
theorem IX(c:Int):Pu 179 [.int .u8 c] (.ret (.bool (D1 c))):=by
 by_cases h:97<=c
 ·rw [show D1 c=decide (c<=122) by simp [D1,h]]; exact pm Ad [rp 3 (dt (97<=c) h)] func179
 ·rw [show D1 c=false by simp [D1,h]]; exact pm Ad [rp 3 (df (97<=c) h)] func179
theorem Qo(c:Int):Pu 182 [.int .u8 c] (.ret (.bool (Fp c))):=by
 by_cases h:65<=c
 ·rw [show Fp c=decide (c<=90) by simp [Fp,h]]; exact pm Ad [rp 3 (dt (65<=c) h)] func182
 ·rw [show Fp c=false by simp [Fp,h]]; exact pm Ad [rp 3 (df (65<=c) h)] func182
theorem RT(c:Int):Pu 181 [.int .u8 c] (.ret (.bool (IW c))):=by
 by_cases h:48<=c
 ·rw [show IW c=decide (c<=57) by simp [IW,h]]; exact pm Ad [rp 3 (dt (48<=c) h)] func181
 ·rw [show IW c=false by simp [IW,h]]; exact pm Ad [rp 3 (df (48<=c) h)] func181
theorem Hy(c:Int):Pu 183 [.int .u8 c] (.ret (.bool (D1 c))):=by
 by_cases h:97<=c
 ·rw [show D1 c=decide (c<=122) by simp [D1,h]]; exact pm Ad [rp 3 (dt (c>=97) h)] func183
 ·rw [show D1 c=false by simp [D1,h]]; exact pm Ad [rp 3 (df (c>=97) h)] func183
theorem M1(c:Int):Pu 186 [.int .u8 c] (.ret (.bool (Fp c))):=by
 by_cases h:65<=c
 ·rw [show Fp c=decide (c<=90) by simp [Fp,h]]; exact pm Ad [rp 3 (dt (c>=65) h)] func186
 ·rw [show Fp c=false by simp [Fp,h]]; exact pm Ad [rp 3 (df (c>=65) h)] func186
theorem RU(c:Int):Pu 185 [.int .u8 c] (.ret (.bool (IW c))):=by
 by_cases h:48<=c
 ·rw [show IW c=decide (c<=57) by simp [IW,h]]; exact pm Ad [rp 3 (dt (c>=48) h)] func185
 ·rw [show IW c=false by simp [IW,h]]; exact pm Ad [rp 3 (df (c>=48) h)] func185
abbrev Ur(s:BA)(j:Int)(e:Ext):S:=S.mk [(0,vS s),(3,A1 j)] [] e
inductive Gp where
 | e0
 | e1
def Ff  : List UInt8->Gp
 | []=>(Gp.e1)
 | el::r=>(if D1 (↑(UInt8.toNat el):Int)=false then (if Fp (↑(UInt8.toNat el):Int)=false then (if IW (↑(UInt8.toNat el):Int)=false then (Gp.e0) else Ff  r) else Ff  r) else Ff  r)
def Nc(s:BA)(e:Ext):Gp->A5 × S
 | .e0=>(.ret,S.mk [(0,vS s),(2,.v (.bool false))] [] e)
 | .e1=>(.exit 0,S.mk [(0,vS s)] [] e)
theorem YZ(s:BA)(e:Ext)(hN:List.length ((s.data.toList))<=1000000000):(Ob.loop 29 (Ai f136 0) (Ur s 0  e) (Nc s e (Ff  (List.drop 0 ((s.data.toList))))).1 (Nc s e (Ff  (List.drop 0 ((s.data.toList))))).2).ok prog:=by
 refine Ds (List.length ((s.data.toList))) (fun j _=>Ur s j  e) (fun i _=>Ff  (List.drop i ((s.data.toList)))) (Nc s e) (fun i _=>True) kR ?_ () trivial
 rintro i u hi -
 rcases Nat.lt_or_ge i (List.length ((s.data.toList))) with Ag | CO
 ·have hd:=AH Ag
  by_cases h0:D1 (↑(UInt8.toNat (List.getD (Array.toList (ByteArray.data s)) i default)):Int)=false
  ·by_cases h1:Fp (↑(UInt8.toNat (List.getD (Array.toList (ByteArray.data s)) i default)):Int)=false
   ·by_cases h2:IW (↑(UInt8.toNat (List.getD (Array.toList (ByteArray.data s)) i default)):Int)=false
    ·exact lX Ad [kp,dt ((i:Int)<(↑(ByteArray.size s):Int)) (by (apply KY <;> first | assumption | omega | decide)),am ((0:Int)<=(i:Int)/\(i:Int)<(↑(ByteArray.size s):Int)) (by simp_all [D2]),av (.v (.int .u8 (↑(UInt8.toNat (List.getD (Array.toList (ByteArray.data s)) (Int.toNat (i:Int)) default)):Int))) (.v (.int .u8 (↑(UInt8.toNat (List.getD (Array.toList (ByteArray.data s)) i default)):Int))) rF,cl (@IX ((↑(UInt8.toNat (List.getD (Array.toList (ByteArray.data s)) i default)):Int))),rp 3 (B2 (B6 h0)),am ((0:Int)<=(i:Int)/\(i:Int)<(↑(ByteArray.size s):Int)) (by simp_all [D2]),av (.v (.int .u8 (↑(UInt8.toNat (List.getD (Array.toList (ByteArray.data s)) (Int.toNat (i:Int)) default)):Int))) (.v (.int .u8 (↑(UInt8.toNat (List.getD (Array.toList (ByteArray.data s)) i default)):Int))) rF,B2 (B6 h0),cl (@Qo ((↑(UInt8.toNat (List.getD (Array.toList (ByteArray.data s)) i default)):Int))),rp 2 (B2 (B6 h0)),rp 3 (B2 (B6 h1)),am ((0:Int)<=(i:Int)/\(i:Int)<(↑(ByteArray.size s):Int)) (by simp_all [D2]),av (.v (.int .u8 (↑(UInt8.toNat (List.getD (Array.toList (ByteArray.data s)) (Int.toNat (i:Int)) default)):Int))) (.v (.int .u8 (↑(UInt8.toNat (List.getD (Array.toList (ByteArray.data s)) i default)):Int))) rF,B2 (B6 h1),cl (@RT ((↑(UInt8.toNat (List.getD (Array.toList (ByteArray.data s)) i default)):Int))),rp 2 (B2 (B6 h1)),B2 (B6 h2)] (Gp.e0) (by rw [hd,Ff,iP h0,iP h1,iP h2])
    ·exact lN Ad [kp,dt ((i:Int)<(↑(ByteArray.size s):Int)) (by (apply KY <;> first | assumption | omega | decide)),am ((0:Int)<=(i:Int)/\(i:Int)<(↑(ByteArray.size s):Int)) (by simp_all [D2]),av (.v (.int .u8 (↑(UInt8.toNat (List.getD (Array.toList (ByteArray.data s)) (Int.toNat (i:Int)) default)):Int))) (.v (.int .u8 (↑(UInt8.toNat (List.getD (Array.toList (ByteArray.data s)) i default)):Int))) rF,cl (@IX ((↑(UInt8.toNat (List.getD (Array.toList (ByteArray.data s)) i default)):Int))),rp 3 (B2 (B6 h0)),am ((0:Int)<=(i:Int)/\(i:Int)<(↑(ByteArray.size s):Int)) (by simp_all [D2]),av (.v (.int .u8 (↑(UInt8.toNat (List.getD (Array.toList (ByteArray.data s)) (Int.toNat (i:Int)) default)):Int))) (.v (.int .u8 (↑(UInt8.toNat (List.getD (Array.toList (ByteArray.data s)) i default)):Int))) rF,B2 (B6 h0),cl (@Qo ((↑(UInt8.toNat (List.getD (Array.toList (ByteArray.data s)) i default)):Int))),rp 2 (B2 (B6 h0)),rp 3 (B2 (B6 h1)),am ((0:Int)<=(i:Int)/\(i:Int)<(↑(ByteArray.size s):Int)) (by simp_all [D2]),av (.v (.int .u8 (↑(UInt8.toNat (List.getD (Array.toList (ByteArray.data s)) (Int.toNat (i:Int)) default)):Int))) (.v (.int .u8 (↑(UInt8.toNat (List.getD (Array.toList (ByteArray.data s)) i default)):Int))) rF,B2 (B6 h1),cl (@RT ((↑(UInt8.toNat (List.getD (Array.toList (ByteArray.data s)) i default)):Int))),rp 2 (B2 (B6 h1)),AQ (AJ (Jq h2)),wr ((i:Int)+1)] Ag () trivial (by rw [hd,Ff,iP h0,iP h1,iN h2])
   ·exact lN Ad [kp,dt ((i:Int)<(↑(ByteArray.size s):Int)) (by (apply KY <;> first | assumption | omega | decide)),am ((0:Int)<=(i:Int)/\(i:Int)<(↑(ByteArray.size s):Int)) (by simp_all [D2]),av (.v (.int .u8 (↑(UInt8.toNat (List.getD (Array.toList (ByteArray.data s)) (Int.toNat (i:Int)) default)):Int))) (.v (.int .u8 (↑(UInt8.toNat (List.getD (Array.toList (ByteArray.data s)) i default)):Int))) rF,cl (@IX ((↑(UInt8.toNat (List.getD (Array.toList (ByteArray.data s)) i default)):Int))),rp 3 (B2 (B6 h0)),am ((0:Int)<=(i:Int)/\(i:Int)<(↑(ByteArray.size s):Int)) (by simp_all [D2]),av (.v (.int .u8 (↑(UInt8.toNat (List.getD (Array.toList (ByteArray.data s)) (Int.toNat (i:Int)) default)):Int))) (.v (.int .u8 (↑(UInt8.toNat (List.getD (Array.toList (ByteArray.data s)) i default)):Int))) rF,B2 (B6 h0),cl (@Qo ((↑(UInt8.toNat (List.getD (Array.toList (ByteArray.data s)) i default)):Int))),rp 2 (B2 (B6 h0)),rp 6 (AQ (AJ (Jq h1))),bf false,wr ((i:Int)+1)] Ag () trivial (by rw [hd,Ff,iP h0,iN h1])
  ·exact lN Ad [kp,dt ((i:Int)<(↑(ByteArray.size s):Int)) (by (apply KY <;> first | assumption | omega | decide)),am ((0:Int)<=(i:Int)/\(i:Int)<(↑(ByteArray.size s):Int)) (by simp_all [D2]),av (.v (.int .u8 (↑(UInt8.toNat (List.getD (Array.toList (ByteArray.data s)) (Int.toNat (i:Int)) default)):Int))) (.v (.int .u8 (↑(UInt8.toNat (List.getD (Array.toList (ByteArray.data s)) i default)):Int))) rF,cl (@IX ((↑(UInt8.toNat (List.getD (Array.toList (ByteArray.data s)) i default)):Int))),rp 6 (AQ (AJ (Jq h0))),rp 7 (bf false),wr ((i:Int)+1)] Ag () trivial (by rw [hd,Ff,iN h0])
 ·have he:i=List.length ((s.data.toList)):=by omega
  exact lX Ad [kp,df ((i:Int)<(↑(ByteArray.size s):Int)) (by (apply fA <;> first | assumption | omega | decide))] (Gp.e1) (by rw [he,List.drop_length,Ff])
theorem A21(s:BA)(e:Ext)(hN:List.length ((s.data.toList))<=1000000000)(At:(Ff  ((s.data.toList)))=(Gp.e0)):(Ob.loop 29 (Ai f136 0) (Ur s 0  e) (Nc s e (Gp.e0)).1 (Nc s e (Gp.e0)).2).ok prog:=
 rz (YZ s e hN) At
theorem A22(s:BA)(e:Ext)(hN:List.length ((s.data.toList))<=1000000000)(At:(Ff  ((s.data.toList)))=(Gp.e1)):(Ob.loop 29 (Ai f136 0) (Ur s 0  e) (Nc s e (Gp.e1)).1 (Nc s e (Gp.e1)).2).ok prog:=
 rz (YZ s e hN) At
def Jn(c:UInt8):Bool:=D1 c.toNat||Fp c.toNat||IW c.toNat
def QK(c:UInt8):Bool:=D1 c.toNat||IW c.toNat||decide (((c.toNat:Nat):Int)=95)
theorem Z0:∀l:List UInt8,Ff l=if l.all Jn=true then .e1 else .e0
 | []=>rfl
 | c::r=>by
  by_cases h1:D1 c.toNat=true <;> by_cases h2:Fp c.toNat=true <;> by_cases h3:IW c.toNat=true <;> simp [Ff,Jn,h1,h2,h3,Z0 r]
theorem Hz{s:BA}(h:s.size<=1000000000):List.length (s.data.toList)<=1000000000:=by simpa using h
theorem rT(s:BA)(hs:s.size<=1000000000)(Ac:Ff (Array.toList (ByteArray.data s))=Gp.e0):Pu 136 [.str s] (rB false):=
 pu Ad (fun e=>[lp (S.mk [(0,vS s),(2,.v (.bool false)),(3,A1 0)] [] e) (@A21 (s) (e) (by (apply Hz <;> first | assumption | omega | decide)) Ac) xr]) func136
theorem rU(s:BA)(hs:s.size<=1000000000)(Ac:Ff (Array.toList (ByteArray.data s))=Gp.e1):Pu 136 [.str s] (rB true):=
 pu Ad (fun e=>[lp (S.mk [(0,vS s),(2,.v (.bool false)),(3,A1 0)] [] e) (@A22 (s) (e) (by (apply Hz <;> first | assumption | omega | decide)) Ac) xr]) func136
theorem Nf(s:BA)(hs:s.size<=1000000000):Pu 136 [.str s] (.ret (.bool (s.data.toList.all Jn))):=by
 cases h:s.data.toList.all Jn with
 | true=>exact rU s hs (by rw [Z0,iP h])
 | false=>exact rT s hs (by rw [Z0,iN (by rw [h]; simp)])
def DA(s:BA):Bool:=decide (1<=s.size)&&decide (s.size<=24)
theorem HA(s:BA):Pu 135 [.str s] (.ret (.bool (DA s))):=by
 by_cases h:(s.size:Int)>=1
 ·rw [show DA s=decide ((s.size:Int)<=24) by unfold DA; rw [decide_eq_true (by omega:1<=s.size),Bool.true_and]; exact decide_eq_decide.2 oM]; exact pm Ad [kp,rp 2 (dt ((↑(ByteArray.size s):Int)>=1) h),kp,rp 2 (dt ((↑(ByteArray.size s):Int)>=1) h)] func135
 ·rw [show DA s=false by unfold DA; rw [decide_eq_false (by omega:¬1<=s.size),Bool.false_and]]; exact pm Ad [kp,rp 4 (df ((↑(ByteArray.size s):Int)>=1) h)] func135
abbrev Us(s:BA)(j:Int)(e:Ext):S:=S.mk [(0,vS s),(3,A1 j)] [] e
inductive FB where
 | e0
 | e1
def E1  : List UInt8->Nat->FB
 | [],i=>(FB.e1)
 | el::r,i=>(if D1 (↑(UInt8.toNat el):Int)=false then (if (i:Int)=0 then (FB.e0) else (if IW (↑(UInt8.toNat el):Int)=false then (if (↑(UInt8.toNat el):Int)=95 then E1  r (i+1)  else (FB.e0)) else E1  r (i+1))) else E1  r (i+1))
def Ng(s:BA)(e:Ext):FB->A5 × S
 | .e0=>(.ret,S.mk [(0,vS s),(2,.v (.bool false))] [] e)
 | .e1=>(.exit 0,S.mk [(0,vS s)] [] e)
theorem Z1(s:BA)(e:Ext)(hN:List.length ((s.data.toList))<=1000000000):(Ob.loop 32 (Ai f137 0) (Us s 0  e) (Ng s e (E1  (List.drop 0 ((s.data.toList))) 0)).1 (Ng s e (E1  (List.drop 0 ((s.data.toList))) 0)).2).ok prog:=by
 refine Ds (List.length ((s.data.toList))) (fun j _=>Us s j  e) (fun i _=>E1  (List.drop i ((s.data.toList))) i) (Ng s e) (fun i _=>True) kR ?_ () trivial
 rintro i u hi -
 rcases Nat.lt_or_ge i (List.length ((s.data.toList))) with Ag | CO
 ·have hd:=AH Ag
  by_cases h0:D1 (↑(UInt8.toNat (List.getD (Array.toList (ByteArray.data s)) i default)):Int)=false
  ·by_cases h1:(i:Int)=0
   ·exact lX Ad [kp,dt ((i:Int)<(↑(ByteArray.size s):Int)) (by (apply KY <;> first | assumption | omega | decide)),am ((0:Int)<=(i:Int)/\(i:Int)<(↑(ByteArray.size s):Int)) (by simp_all [D2]),av (.v (.int .u8 (↑(UInt8.toNat (List.getD (Array.toList (ByteArray.data s)) (Int.toNat (i:Int)) default)):Int))) (.v (.int .u8 (↑(UInt8.toNat (List.getD (Array.toList (ByteArray.data s)) i default)):Int))) rF,cl (@IX ((↑(UInt8.toNat (List.getD (Array.toList (ByteArray.data s)) i default)):Int))),rp 3 (B2 (B6 h0)),rp 7 (Bh h1),B2 (B6 h0),Bh h1,B2 (B6 h0),bt true] (FB.e0) (by rw [hd,E1,iP h0,iP h1])
   ·by_cases h2:IW (↑(UInt8.toNat (List.getD (Array.toList (ByteArray.data s)) i default)):Int)=false
    ·by_cases h3:(↑(UInt8.toNat (List.getD (Array.toList (ByteArray.data s)) i default)):Int)=95
     ·exact lN Ad [kp,dt ((i:Int)<(↑(ByteArray.size s):Int)) (by (apply KY <;> first | assumption | omega | decide)),am ((0:Int)<=(i:Int)/\(i:Int)<(↑(ByteArray.size s):Int)) (by simp_all [D2]),av (.v (.int .u8 (↑(UInt8.toNat (List.getD (Array.toList (ByteArray.data s)) (Int.toNat (i:Int)) default)):Int))) (.v (.int .u8 (↑(UInt8.toNat (List.getD (Array.toList (ByteArray.data s)) i default)):Int))) rF,cl (@IX ((↑(UInt8.toNat (List.getD (Array.toList (ByteArray.data s)) i default)):Int))),rp 3 (B2 (B6 h0)),rp 3 (Aw h1),am ((0:Int)<=(i:Int)/\(i:Int)<(↑(ByteArray.size s):Int)) (by simp_all [D2]),av (.v (.int .u8 (↑(UInt8.toNat (List.getD (Array.toList (ByteArray.data s)) (Int.toNat (i:Int)) default)):Int))) (.v (.int .u8 (↑(UInt8.toNat (List.getD (Array.toList (ByteArray.data s)) i default)):Int))) rF,Aw h1,cl (@RT ((↑(UInt8.toNat (List.getD (Array.toList (ByteArray.data s)) i default)):Int))),rp 2 (Aw h1),rp 3 (B2 (B6 h2)),am ((0:Int)<=(i:Int)/\(i:Int)<(↑(ByteArray.size s):Int)) (by simp_all [D2]),av (.v (.int .u8 (↑(UInt8.toNat (List.getD (Array.toList (ByteArray.data s)) (Int.toNat (i:Int)) default)):Int))) (.v (.int .u8 (↑(UInt8.toNat (List.getD (Array.toList (ByteArray.data s)) i default)):Int))) rF,B2 (B6 h2),Aw h1,B2 (B6 h2),B2 (B6 h0),Aw h1,B2 (B6 h0),Bi h3,wr ((i:Int)+1)] Ag () trivial (by rw [hd,E1,iP h0,iN h1,iP h2,iP h3])
     ·exact lX Ad [kp,dt ((i:Int)<(↑(ByteArray.size s):Int)) (by (apply KY <;> first | assumption | omega | decide)),am ((0:Int)<=(i:Int)/\(i:Int)<(↑(ByteArray.size s):Int)) (by simp_all [D2]),av (.v (.int .u8 (↑(UInt8.toNat (List.getD (Array.toList (ByteArray.data s)) (Int.toNat (i:Int)) default)):Int))) (.v (.int .u8 (↑(UInt8.toNat (List.getD (Array.toList (ByteArray.data s)) i default)):Int))) rF,cl (@IX ((↑(UInt8.toNat (List.getD (Array.toList (ByteArray.data s)) i default)):Int))),rp 3 (B2 (B6 h0)),rp 3 (Aw h1),am ((0:Int)<=(i:Int)/\(i:Int)<(↑(ByteArray.size s):Int)) (by simp_all [D2]),av (.v (.int .u8 (↑(UInt8.toNat (List.getD (Array.toList (ByteArray.data s)) (Int.toNat (i:Int)) default)):Int))) (.v (.int .u8 (↑(UInt8.toNat (List.getD (Array.toList (ByteArray.data s)) i default)):Int))) rF,Aw h1,cl (@RT ((↑(UInt8.toNat (List.getD (Array.toList (ByteArray.data s)) i default)):Int))),rp 2 (Aw h1),rp 3 (B2 (B6 h2)),am ((0:Int)<=(i:Int)/\(i:Int)<(↑(ByteArray.size s):Int)) (by simp_all [D2]),av (.v (.int .u8 (↑(UInt8.toNat (List.getD (Array.toList (ByteArray.data s)) (Int.toNat (i:Int)) default)):Int))) (.v (.int .u8 (↑(UInt8.toNat (List.getD (Array.toList (ByteArray.data s)) i default)):Int))) rF,B2 (B6 h2),Aw h1,B2 (B6 h2),B2 (B6 h0),Aw h1,B2 (B6 h0),Bv h3] (FB.e0) (by rw [hd,E1,iP h0,iN h1,iP h2,iN h3])
    ·exact lN Ad [kp,dt ((i:Int)<(↑(ByteArray.size s):Int)) (by (apply KY <;> first | assumption | omega | decide)),am ((0:Int)<=(i:Int)/\(i:Int)<(↑(ByteArray.size s):Int)) (by simp_all [D2]),av (.v (.int .u8 (↑(UInt8.toNat (List.getD (Array.toList (ByteArray.data s)) (Int.toNat (i:Int)) default)):Int))) (.v (.int .u8 (↑(UInt8.toNat (List.getD (Array.toList (ByteArray.data s)) i default)):Int))) rF,cl (@IX ((↑(UInt8.toNat (List.getD (Array.toList (ByteArray.data s)) i default)):Int))),rp 3 (B2 (B6 h0)),rp 3 (Aw h1),am ((0:Int)<=(i:Int)/\(i:Int)<(↑(ByteArray.size s):Int)) (by simp_all [D2]),av (.v (.int .u8 (↑(UInt8.toNat (List.getD (Array.toList (ByteArray.data s)) (Int.toNat (i:Int)) default)):Int))) (.v (.int .u8 (↑(UInt8.toNat (List.getD (Array.toList (ByteArray.data s)) i default)):Int))) rF,Aw h1,cl (@RT ((↑(UInt8.toNat (List.getD (Array.toList (ByteArray.data s)) i default)):Int))),rp 2 (Aw h1),rp 4 (AQ (AJ (Jq h2))),Aw h1,AQ (AJ (Jq h2)),B2 (B6 h0),Aw h1,B2 (B6 h0),bf false,wr ((i:Int)+1)] Ag () trivial (by rw [hd,E1,iP h0,iN h1,iN h2])
  ·exact lN Ad [kp,dt ((i:Int)<(↑(ByteArray.size s):Int)) (by (apply KY <;> first | assumption | omega | decide)),am ((0:Int)<=(i:Int)/\(i:Int)<(↑(ByteArray.size s):Int)) (by simp_all [D2]),av (.v (.int .u8 (↑(UInt8.toNat (List.getD (Array.toList (ByteArray.data s)) (Int.toNat (i:Int)) default)):Int))) (.v (.int .u8 (↑(UInt8.toNat (List.getD (Array.toList (ByteArray.data s)) i default)):Int))) rF,cl (@IX ((↑(UInt8.toNat (List.getD (Array.toList (ByteArray.data s)) i default)):Int))),rp 5 (AQ (AJ (Jq h0))),bf false,wr ((i:Int)+1)] Ag () trivial (by rw [hd,E1,iN h0])
 ·have he:i=List.length ((s.data.toList)):=by omega
  exact lX Ad [kp,df ((i:Int)<(↑(ByteArray.size s):Int)) (by (apply fA <;> first | assumption | omega | decide))] (FB.e1) (by rw [he,List.drop_length,E1])
theorem A23(s:BA)(e:Ext)(hN:List.length ((s.data.toList))<=1000000000)(At:(E1  ((s.data.toList)) 0)=(FB.e0)):(Ob.loop 32 (Ai f137 0) (Us s 0  e) (Ng s e (FB.e0)).1 (Ng s e (FB.e0)).2).ok prog:=
 rz (Z1 s e hN) At
theorem A24(s:BA)(e:Ext)(hN:List.length ((s.data.toList))<=1000000000)(At:(E1  ((s.data.toList)) 0)=(FB.e1)):(Ob.loop 32 (Ai f137 0) (Us s 0  e) (Ng s e (FB.e1)).1 (Ng s e (FB.e1)).2).ok prog:=
 rz (Z1 s e hN) At
abbrev Ut(s:BA)(j:Int)(e:Ext):S:=S.mk [(0,vS s),(5,.v (.agg kwC)),(6,A1 j)] [] e
inductive Ie where
 | e0
 | e1
def HB(s:BA):List BA->Ie
 | []=>(Ie.e1)
 | el::r=>(if el=s then (Ie.e0) else HB s r)
def Nh(s:BA)(e:Ext):Ie->A5 × S
 | .e0=>(.ret,S.mk [(0,vS s),(5,.v (.agg [.str (ByteArray.mk #[97,110,100]),.str (ByteArray.mk #[97,115,115,117,109,101]),.str (ByteArray.mk #[98,111,111,108]),.str (ByteArray.mk #[98,111,117,110,100]),.str (ByteArray.mk #[99,97,115,101]),.str (ByteArray.mk #[99,101,108,108]),.str (ByteArray.mk #[99,108,97,115,115]),.str (ByteArray.mk #[100,97,116,97]),.str (ByteArray.mk #[100,101,102]),.str (ByteArray.mk #[100,105,118]),.str (ByteArray.mk #[101,108,115,101]),.str (ByteArray.mk #[101,110,100]),.str (ByteArray.mk #[102,97,108,115,101]),.str (ByteArray.mk #[102,111,114,97,108,108]),.str (ByteArray.mk #[102,117,110]),.str (ByteArray.mk #[103,101,116]),.str (ByteArray.mk #[105,102]),.str (ByteArray.mk #[105,110]),.str (ByteArray.mk #[105,110,115,116]),.str (ByteArray.mk #[105,110,116]),.str (ByteArray.mk #[105,110,118,97,114,105,97,110,116]),.str (ByteArray.mk #[108,101,116]),.str (ByteArray.mk #[109,97,116,99,104]),.str (ByteArray.mk #[109,101,97,115,117,114,101]),.str (ByteArray.mk #[109,101,116,114,105,99]),.str (ByteArray.mk #[109,111,100]),.str (ByteArray.mk #[109,117]),.str (ByteArray.mk #[110,101,119]),.str (ByteArray.mk #[110,111,116]),.str (ByteArray.mk #[111,102]),.str (ByteArray.mk #[111,114]),.str (ByteArray.mk #[113,117,97,108]),.str (ByteArray.mk #[114,101,102,108,101,99,116]),.str (ByteArray.mk #[115,101,116]),.str (ByteArray.mk #[116,104,101,110]),.str (ByteArray.mk #[116,114,117,101]),.str (ByteArray.mk #[117,115,101]),.str (bM 118),.str (ByteArray.mk #[118,97,108]),.str (ByteArray.mk #[116,97,103]),.str (ByteArray.mk #[119,104,101,114,101]),.str (ByteArray.mk #[119,105,116,104])])),(2,.v (.bool true))] [] e)
 | .e1=>(.exit 0,S.mk [(0,vS s),(5,.v (.agg [.str (ByteArray.mk #[97,110,100]),.str (ByteArray.mk #[97,115,115,117,109,101]),.str (ByteArray.mk #[98,111,111,108]),.str (ByteArray.mk #[98,111,117,110,100]),.str (ByteArray.mk #[99,97,115,101]),.str (ByteArray.mk #[99,101,108,108]),.str (ByteArray.mk #[99,108,97,115,115]),.str (ByteArray.mk #[100,97,116,97]),.str (ByteArray.mk #[100,101,102]),.str (ByteArray.mk #[100,105,118]),.str (ByteArray.mk #[101,108,115,101]),.str (ByteArray.mk #[101,110,100]),.str (ByteArray.mk #[102,97,108,115,101]),.str (ByteArray.mk #[102,111,114,97,108,108]),.str (ByteArray.mk #[102,117,110]),.str (ByteArray.mk #[103,101,116]),.str (ByteArray.mk #[105,102]),.str (ByteArray.mk #[105,110]),.str (ByteArray.mk #[105,110,115,116]),.str (ByteArray.mk #[105,110,116]),.str (ByteArray.mk #[105,110,118,97,114,105,97,110,116]),.str (ByteArray.mk #[108,101,116]),.str (ByteArray.mk #[109,97,116,99,104]),.str (ByteArray.mk #[109,101,97,115,117,114,101]),.str (ByteArray.mk #[109,101,116,114,105,99]),.str (ByteArray.mk #[109,111,100]),.str (ByteArray.mk #[109,117]),.str (ByteArray.mk #[110,101,119]),.str (ByteArray.mk #[110,111,116]),.str (ByteArray.mk #[111,102]),.str (ByteArray.mk #[111,114]),.str (ByteArray.mk #[113,117,97,108]),.str (ByteArray.mk #[114,101,102,108,101,99,116]),.str (ByteArray.mk #[115,101,116]),.str (ByteArray.mk #[116,104,101,110]),.str (ByteArray.mk #[116,114,117,101]),.str (ByteArray.mk #[117,115,101]),.str (bM 118),.str (ByteArray.mk #[118,97,108]),.str (ByteArray.mk #[116,97,103]),.str (ByteArray.mk #[119,104,101,114,101]),.str (ByteArray.mk #[119,105,116,104])]))] [] e)
theorem Z2(s:BA)(e:Ext)(hN:List.length ((Jm))<=1000000000):(Ob.loop 13 (Ai f180 0) (Ut s 0  e) (Nh s e (HB s (List.drop 0 ((Jm))))).1 (Nh s e (HB s (List.drop 0 ((Jm))))).2).ok prog:=by
 refine Ds (List.length ((Jm))) (fun j _=>Ut s j  e) (fun i _=>HB s (List.drop i ((Jm)))) (Nh s e) (fun i _=>True) kR ?_ () trivial
 rintro i u hi -
 rcases Nat.lt_or_ge i (List.length ((Jm))) with Ag | CO
 ·have hd:=CL Ag
  by_cases h0:List.getD Jm i Ah=s
  ·exact lX Ad [dt ((i:Int)<42) (by (apply kwT <;> first | assumption | omega | decide)),am ((0:Int)<=(i:Int)/\(i:Int)<(42:Int)) (by (apply kwA <;> first | assumption | omega | decide)),av (.v (List.getD [.str (ByteArray.mk #[97,110,100]),.str (ByteArray.mk #[97,115,115,117,109,101]),.str (ByteArray.mk #[98,111,111,108]),.str (ByteArray.mk #[98,111,117,110,100]),.str (ByteArray.mk #[99,97,115,101]),.str (ByteArray.mk #[99,101,108,108]),.str (ByteArray.mk #[99,108,97,115,115]),.str (ByteArray.mk #[100,97,116,97]),.str (ByteArray.mk #[100,101,102]),.str (ByteArray.mk #[100,105,118]),.str (ByteArray.mk #[101,108,115,101]),.str (ByteArray.mk #[101,110,100]),.str (ByteArray.mk #[102,97,108,115,101]),.str (ByteArray.mk #[102,111,114,97,108,108]),.str (ByteArray.mk #[102,117,110]),.str (ByteArray.mk #[103,101,116]),.str (ByteArray.mk #[105,102]),.str (ByteArray.mk #[105,110]),.str (ByteArray.mk #[105,110,115,116]),.str (ByteArray.mk #[105,110,116]),.str (ByteArray.mk #[105,110,118,97,114,105,97,110,116]),.str (ByteArray.mk #[108,101,116]),.str (ByteArray.mk #[109,97,116,99,104]),.str (ByteArray.mk #[109,101,97,115,117,114,101]),.str (ByteArray.mk #[109,101,116,114,105,99]),.str (ByteArray.mk #[109,111,100]),.str (ByteArray.mk #[109,117]),.str (ByteArray.mk #[110,101,119]),.str (ByteArray.mk #[110,111,116]),.str (ByteArray.mk #[111,102]),.str (ByteArray.mk #[111,114]),.str (ByteArray.mk #[113,117,97,108]),.str (ByteArray.mk #[114,101,102,108,101,99,116]),.str (ByteArray.mk #[115,101,116]),.str (ByteArray.mk #[116,104,101,110]),.str (ByteArray.mk #[116,114,117,101]),.str (ByteArray.mk #[117,115,101]),.str (bM 118),.str (ByteArray.mk #[118,97,108]),.str (ByteArray.mk #[116,97,103]),.str (ByteArray.mk #[119,104,101,114,101]),.str (ByteArray.mk #[119,105,116,104])] (Int.toNat (i:Int)) .Gf)) (vS (List.getD Jm i Ah)) (by simp only [Int.toNat_natCast,Int.toNat_zero]; rw [@YY (i) Ag]; try rfl),bt (ByteArray.toList (List.getD Jm i Ah)==ByteArray.toList s) (BL h0)] (Ie.e0) (by rw [hd,HB,iP h0])
  ·exact lN Ad [dt ((i:Int)<42) (by (apply kwT <;> first | assumption | omega | decide)),am ((0:Int)<=(i:Int)/\(i:Int)<(42:Int)) (by (apply kwA <;> first | assumption | omega | decide)),av (.v (List.getD [.str (ByteArray.mk #[97,110,100]),.str (ByteArray.mk #[97,115,115,117,109,101]),.str (ByteArray.mk #[98,111,111,108]),.str (ByteArray.mk #[98,111,117,110,100]),.str (ByteArray.mk #[99,97,115,101]),.str (ByteArray.mk #[99,101,108,108]),.str (ByteArray.mk #[99,108,97,115,115]),.str (ByteArray.mk #[100,97,116,97]),.str (ByteArray.mk #[100,101,102]),.str (ByteArray.mk #[100,105,118]),.str (ByteArray.mk #[101,108,115,101]),.str (ByteArray.mk #[101,110,100]),.str (ByteArray.mk #[102,97,108,115,101]),.str (ByteArray.mk #[102,111,114,97,108,108]),.str (ByteArray.mk #[102,117,110]),.str (ByteArray.mk #[103,101,116]),.str (ByteArray.mk #[105,102]),.str (ByteArray.mk #[105,110]),.str (ByteArray.mk #[105,110,115,116]),.str (ByteArray.mk #[105,110,116]),.str (ByteArray.mk #[105,110,118,97,114,105,97,110,116]),.str (ByteArray.mk #[108,101,116]),.str (ByteArray.mk #[109,97,116,99,104]),.str (ByteArray.mk #[109,101,97,115,117,114,101]),.str (ByteArray.mk #[109,101,116,114,105,99]),.str (ByteArray.mk #[109,111,100]),.str (ByteArray.mk #[109,117]),.str (ByteArray.mk #[110,101,119]),.str (ByteArray.mk #[110,111,116]),.str (ByteArray.mk #[111,102]),.str (ByteArray.mk #[111,114]),.str (ByteArray.mk #[113,117,97,108]),.str (ByteArray.mk #[114,101,102,108,101,99,116]),.str (ByteArray.mk #[115,101,116]),.str (ByteArray.mk #[116,104,101,110]),.str (ByteArray.mk #[116,114,117,101]),.str (ByteArray.mk #[117,115,101]),.str (bM 118),.str (ByteArray.mk #[118,97,108]),.str (ByteArray.mk #[116,97,103]),.str (ByteArray.mk #[119,104,101,114,101]),.str (ByteArray.mk #[119,105,116,104])] (Int.toNat (i:Int)) .Gf)) (vS (List.getD Jm i Ah)) (by simp only [Int.toNat_natCast,Int.toNat_zero]; rw [@YY (i) Ag]; try rfl),bf (ByteArray.toList (List.getD Jm i Ah)==ByteArray.toList s) (BZ h0),wr ((i:Int)+1)] Ag () trivial (by rw [hd,HB,iN h0])
 ·have he:i=List.length ((Jm)):=by omega
  exact lX Ad [df ((i:Int)<42) (by (apply kwF <;> first | assumption | omega | decide))] (Ie.e1) (by rw [he,List.drop_length,HB])
theorem A25(s:BA)(e:Ext)(hN:List.length ((Jm))<=1000000000)(At:(HB s ((Jm)))=(Ie.e0)):(Ob.loop 13 (Ai f180 0) (Ut s 0  e) (Nh s e (Ie.e0)).1 (Nh s e (Ie.e0)).2).ok prog:=
 rz (Z2 s e hN) At
theorem A26(s:BA)(e:Ext)(hN:List.length ((Jm))<=1000000000)(At:(HB s ((Jm)))=(Ie.e1)):(Ob.loop 13 (Ai f180 0) (Ut s 0  e) (Nh s e (Ie.e1)).1 (Nh s e (Ie.e1)).2).ok prog:=
 rz (Z2 s e hN) At
def FX:List UInt8->Bool
 | []=>true
 | c::r=>D1 c.toNat&&r.all QK
theorem Z3:∀ (l:List UInt8) (i:Nat),E1 l (i+1)=if l.all QK=true then .e1 else .e0
 | [],_=>rfl
 | c::r,i=>by
  have hi:¬(((i+1:Nat):Int)=0):=by omega
  have hj:¬((i:Int)+1=0):=by omega
  by_cases h1:D1 c.toNat=true <;> by_cases h2:IW c.toNat=true <;> by_cases h3:((c.toNat:Nat):Int)=95 <;> simp [E1,QK,h1,h2,h3,hi,hj,Z3 r (i+1)]
theorem lQ(l:List UInt8):E1 l 0=if FX l=true then .e1 else .e0:=by
 cases l with
 | nil=>rfl
 | cons c r=>
  by_cases h1:D1 c.toNat=true
  ·have:=Z3 r 0
   simp [E1,FX,h1,this]
  ·simp [E1,FX,h1]
def Ln(s:BA):Bool:=decide (ix id s Jm<Jm.length)
theorem Z4(s:BA):∀l:List BA,HB s l=if ix id s l<l.length then .e0 else .e1
 | []=>by simp [HB,ix]
 | c::r=>by
  by_cases h:c=s
  ·simp [HB,ix,h]
  ·simp only [HB,ix,id,h,if_false,Z4 s r,List.length_cons,Nat.add_lt_add_iff_right]
theorem rV(s:BA)(hs:s.size<=1000000000)(Ac:E1 (Array.toList (ByteArray.data s)) 0=FB.e0):Pu 137 [.str s] (rB false):=
 pu Ad (fun e=>[lp (S.mk [(0,vS s),(2,.v (.bool false)),(3,A1 0)] [] e) (@A23 (s) (e) (by (apply Hz <;> first | assumption | omega | decide)) Ac) xr]) func137
theorem rW(s:BA)(hs:s.size<=1000000000)(Ac:E1 (Array.toList (ByteArray.data s)) 0=FB.e1):Pu 137 [.str s] (rB true):=
 pu Ad (fun e=>[lp (S.mk [(0,vS s),(2,.v (.bool false)),(3,A1 0)] [] e) (@A24 (s) (e) (by (apply Hz <;> first | assumption | omega | decide)) Ac) xr]) func137
theorem iF(s:BA)(hs:s.size<=1000000000):Pu 137 [.str s] (.ret (.bool (FX s.data.toList))):=by
 cases h:FX s.data.toList with
 | true=>exact rW s hs (by rw [lQ,iP h])
 | false=>exact rV s hs (by rw [lQ,iN (by rw [h]; simp)])
theorem rX(s:BA):Pu 180 [.str s] (.ret (.bool (Ln s))):=by
 unfold Ln
 by_cases h:ix id s Jm<Jm.length
 ·rw [decide_eq_true h]; exact pu Ad (fun e=>[lp (S.mk [(0,vS s),(2,.v (.bool false)),(5,.v (.agg [.str (ByteArray.mk #[97,110,100]),.str (ByteArray.mk #[97,115,115,117,109,101]),.str (ByteArray.mk #[98,111,111,108]),.str (ByteArray.mk #[98,111,117,110,100]),.str (ByteArray.mk #[99,97,115,101]),.str (ByteArray.mk #[99,101,108,108]),.str (ByteArray.mk #[99,108,97,115,115]),.str (ByteArray.mk #[100,97,116,97]),.str (ByteArray.mk #[100,101,102]),.str (ByteArray.mk #[100,105,118]),.str (ByteArray.mk #[101,108,115,101]),.str (ByteArray.mk #[101,110,100]),.str (ByteArray.mk #[102,97,108,115,101]),.str (ByteArray.mk #[102,111,114,97,108,108]),.str (ByteArray.mk #[102,117,110]),.str (ByteArray.mk #[103,101,116]),.str (ByteArray.mk #[105,102]),.str (ByteArray.mk #[105,110]),.str (ByteArray.mk #[105,110,115,116]),.str (ByteArray.mk #[105,110,116]),.str (ByteArray.mk #[105,110,118,97,114,105,97,110,116]),.str (ByteArray.mk #[108,101,116]),.str (ByteArray.mk #[109,97,116,99,104]),.str (ByteArray.mk #[109,101,97,115,117,114,101]),.str (ByteArray.mk #[109,101,116,114,105,99]),.str (ByteArray.mk #[109,111,100]),.str (ByteArray.mk #[109,117]),.str (ByteArray.mk #[110,101,119]),.str (ByteArray.mk #[110,111,116]),.str (ByteArray.mk #[111,102]),.str (ByteArray.mk #[111,114]),.str (ByteArray.mk #[113,117,97,108]),.str (ByteArray.mk #[114,101,102,108,101,99,116]),.str (ByteArray.mk #[115,101,116]),.str (ByteArray.mk #[116,104,101,110]),.str (ByteArray.mk #[116,114,117,101]),.str (ByteArray.mk #[117,115,101]),.str (bM 118),.str (ByteArray.mk #[118,97,108]),.str (ByteArray.mk #[116,97,103]),.str (ByteArray.mk #[119,104,101,114,101]),.str (ByteArray.mk #[119,105,116,104])])),(6,A1 0)] [] e) (@A25 (s) (e) dD (by rw [Z4,iP h])) xr]) func180
 ·rw [decide_eq_false h]; exact pu Ad (fun e=>[lp (S.mk [(0,vS s),(2,.v (.bool false)),(5,.v (.agg [.str (ByteArray.mk #[97,110,100]),.str (ByteArray.mk #[97,115,115,117,109,101]),.str (ByteArray.mk #[98,111,111,108]),.str (ByteArray.mk #[98,111,117,110,100]),.str (ByteArray.mk #[99,97,115,101]),.str (ByteArray.mk #[99,101,108,108]),.str (ByteArray.mk #[99,108,97,115,115]),.str (ByteArray.mk #[100,97,116,97]),.str (ByteArray.mk #[100,101,102]),.str (ByteArray.mk #[100,105,118]),.str (ByteArray.mk #[101,108,115,101]),.str (ByteArray.mk #[101,110,100]),.str (ByteArray.mk #[102,97,108,115,101]),.str (ByteArray.mk #[102,111,114,97,108,108]),.str (ByteArray.mk #[102,117,110]),.str (ByteArray.mk #[103,101,116]),.str (ByteArray.mk #[105,102]),.str (ByteArray.mk #[105,110]),.str (ByteArray.mk #[105,110,115,116]),.str (ByteArray.mk #[105,110,116]),.str (ByteArray.mk #[105,110,118,97,114,105,97,110,116]),.str (ByteArray.mk #[108,101,116]),.str (ByteArray.mk #[109,97,116,99,104]),.str (ByteArray.mk #[109,101,97,115,117,114,101]),.str (ByteArray.mk #[109,101,116,114,105,99]),.str (ByteArray.mk #[109,111,100]),.str (ByteArray.mk #[109,117]),.str (ByteArray.mk #[110,101,119]),.str (ByteArray.mk #[110,111,116]),.str (ByteArray.mk #[111,102]),.str (ByteArray.mk #[111,114]),.str (ByteArray.mk #[113,117,97,108]),.str (ByteArray.mk #[114,101,102,108,101,99,116]),.str (ByteArray.mk #[115,101,116]),.str (ByteArray.mk #[116,104,101,110]),.str (ByteArray.mk #[116,114,117,101]),.str (ByteArray.mk #[117,115,101]),.str (bM 118),.str (ByteArray.mk #[118,97,108]),.str (ByteArray.mk #[116,97,103]),.str (ByteArray.mk #[119,104,101,114,101]),.str (ByteArray.mk #[119,105,116,104])])),(6,A1 0)] [] e) (@A26 (s) (e) dD (by rw [Z4,iN h])) xr]) func180
theorem H6{s:BA}(h:DA s=true):(0:Int)<=0/\(0:Int)<(s.size:Int):=by
 simp only [DA,Bool.and_eq_true,decide_eq_true_eq] at h; omega
theorem Z5{s:BA}(h:DA s=true):List.length (List.drop 1 s.data.toList)<=1000000000:=by
 have:s.size=s.data.size:=rfl
 simp only [DA,Bool.and_eq_true,decide_eq_true_eq] at h; simp; omega
theorem iG{s:BA}{i:Nat}(h:i<List.length (List.drop 1 s.data.toList)):(0:Int)<=(i:Int)+1/\(i:Int)+1<(s.size:Int):=by
 have:=b1T h; omega
abbrev Uu(s:BA)(j:Int)(e:Ext):S:=S.mk [(0,vS s),(3,A1 (j+1))] [] e
inductive Gq where
 | e0
 | e1
def Fg  : List UInt8->Gq
 | []=>(Gq.e1)
 | el::r=>(if D1 (↑(UInt8.toNat el):Int)=false then (if IW (↑(UInt8.toNat el):Int)=false then (if (↑(UInt8.toNat el):Int)=95 then Fg  r  else (Gq.e0)) else Fg  r) else Fg  r)
def Ni(s:BA)(e:Ext):Gq->A5 × S
 | .e0=>(.ret,S.mk [(0,vS s),(2,.v (.bool false))] [] e)
 | .e1=>(.exit 0,S.mk [(0,vS s)] [] e)
theorem Z6(s:BA)(F6:DA s=true)(Gd:D1 (s.data.toList.getD 0 default).toNat=true)(Jt:Ln s=false)(e:Ext)(hN:List.length ((List.drop 1 s.data.toList))<=1000000000):(Ob.loop 41 (Ai f133 0) (Uu s 0  e) (Ni s e (Fg  (List.drop 0 ((List.drop 1 s.data.toList))))).1 (Ni s e (Fg  (List.drop 0 ((List.drop 1 s.data.toList))))).2).ok prog:=by
 refine Ds (List.length ((List.drop 1 s.data.toList))) (fun j _=>Uu s j  e) (fun i _=>Fg  (List.drop i ((List.drop 1 s.data.toList)))) (Ni s e) (fun i _=>True) kR ?_ () trivial
 rintro i u hi -
 rcases Nat.lt_or_ge i (List.length ((List.drop 1 s.data.toList))) with Ag | CO
 ·have hd:=AH Ag
  by_cases h0:D1 (↑(UInt8.toNat (List.getD (List.drop 1 (Array.toList (ByteArray.data s))) i default)):Int)=false
  ·by_cases h1:IW (↑(UInt8.toNat (List.getD (List.drop 1 (Array.toList (ByteArray.data s))) i default)):Int)=false
   ·by_cases h2:(↑(UInt8.toNat (List.getD (List.drop 1 (Array.toList (ByteArray.data s))) i default)):Int)=95
    ·exact lN Ad [kp,dt ((i:Int)+1<(↑(ByteArray.size s):Int)) (by (apply b1T <;> first | assumption | omega | decide)),am ((0:Int)<=(i:Int)+1/\(i:Int)+1<(↑(ByteArray.size s):Int)) (by (apply iG <;> first | assumption | omega | decide)),av (.v (.int .u8 (↑(UInt8.toNat (List.getD (Array.toList (ByteArray.data s)) (Int.toNat ((i:Int)+1)) default)):Int))) (.v (.int .u8 (↑(UInt8.toNat (List.getD (List.drop 1 (Array.toList (ByteArray.data s))) i default)):Int))) (by simp only [Int.toNat_natCast,Int.toNat_zero,D2]; rw [@Kz (Array.toList (ByteArray.data s)) (i) Ag]; try rfl),cl (@IX ((↑(UInt8.toNat (List.getD (List.drop 1 (Array.toList (ByteArray.data s))) i default)):Int))),rp 3 (B2 (B6 h0)),am ((0:Int)<=(i:Int)+1/\(i:Int)+1<(↑(ByteArray.size s):Int)) (by (apply iG <;> first | assumption | omega | decide)),av (.v (.int .u8 (↑(UInt8.toNat (List.getD (Array.toList (ByteArray.data s)) (Int.toNat ((i:Int)+1)) default)):Int))) (.v (.int .u8 (↑(UInt8.toNat (List.getD (List.drop 1 (Array.toList (ByteArray.data s))) i default)):Int))) (by simp only [Int.toNat_natCast,Int.toNat_zero,D2]; rw [@Kz (Array.toList (ByteArray.data s)) (i) Ag]; try rfl),B2 (B6 h0),cl (@RT ((↑(UInt8.toNat (List.getD (List.drop 1 (Array.toList (ByteArray.data s))) i default)):Int))),rp 2 (B2 (B6 h0)),rp 3 (B2 (B6 h1)),am ((0:Int)<=(i:Int)+1/\(i:Int)+1<(↑(ByteArray.size s):Int)) (by (apply iG <;> first | assumption | omega | decide)),av (.v (.int .u8 (↑(UInt8.toNat (List.getD (Array.toList (ByteArray.data s)) (Int.toNat ((i:Int)+1)) default)):Int))) (.v (.int .u8 (↑(UInt8.toNat (List.getD (List.drop 1 (Array.toList (ByteArray.data s))) i default)):Int))) (by simp only [Int.toNat_natCast,Int.toNat_zero,D2]; rw [@Kz (Array.toList (ByteArray.data s)) (i) Ag]; try rfl),rp 2 (B2 (B6 h1)),Bi h2,wr ((i:Int)+1+1)] Ag () trivial (by rw [hd,Fg,iP h0,iP h1,iP h2])
    ·exact lX Ad [kp,dt ((i:Int)+1<(↑(ByteArray.size s):Int)) (by (apply b1T <;> first | assumption | omega | decide)),am ((0:Int)<=(i:Int)+1/\(i:Int)+1<(↑(ByteArray.size s):Int)) (by (apply iG <;> first | assumption | omega | decide)),av (.v (.int .u8 (↑(UInt8.toNat (List.getD (Array.toList (ByteArray.data s)) (Int.toNat ((i:Int)+1)) default)):Int))) (.v (.int .u8 (↑(UInt8.toNat (List.getD (List.drop 1 (Array.toList (ByteArray.data s))) i default)):Int))) (by simp only [Int.toNat_natCast,Int.toNat_zero,D2]; rw [@Kz (Array.toList (ByteArray.data s)) (i) Ag]; try rfl),cl (@IX ((↑(UInt8.toNat (List.getD (List.drop 1 (Array.toList (ByteArray.data s))) i default)):Int))),rp 3 (B2 (B6 h0)),am ((0:Int)<=(i:Int)+1/\(i:Int)+1<(↑(ByteArray.size s):Int)) (by (apply iG <;> first | assumption | omega | decide)),av (.v (.int .u8 (↑(UInt8.toNat (List.getD (Array.toList (ByteArray.data s)) (Int.toNat ((i:Int)+1)) default)):Int))) (.v (.int .u8 (↑(UInt8.toNat (List.getD (List.drop 1 (Array.toList (ByteArray.data s))) i default)):Int))) (by simp only [Int.toNat_natCast,Int.toNat_zero,D2]; rw [@Kz (Array.toList (ByteArray.data s)) (i) Ag]; try rfl),B2 (B6 h0),cl (@RT ((↑(UInt8.toNat (List.getD (List.drop 1 (Array.toList (ByteArray.data s))) i default)):Int))),rp 2 (B2 (B6 h0)),rp 3 (B2 (B6 h1)),am ((0:Int)<=(i:Int)+1/\(i:Int)+1<(↑(ByteArray.size s):Int)) (by (apply iG <;> first | assumption | omega | decide)),av (.v (.int .u8 (↑(UInt8.toNat (List.getD (Array.toList (ByteArray.data s)) (Int.toNat ((i:Int)+1)) default)):Int))) (.v (.int .u8 (↑(UInt8.toNat (List.getD (List.drop 1 (Array.toList (ByteArray.data s))) i default)):Int))) (by simp only [Int.toNat_natCast,Int.toNat_zero,D2]; rw [@Kz (Array.toList (ByteArray.data s)) (i) Ag]; try rfl),rp 2 (B2 (B6 h1)),Bv h2] (Gq.e0) (by rw [hd,Fg,iP h0,iP h1,iN h2])
   ·exact lN Ad [kp,dt ((i:Int)+1<(↑(ByteArray.size s):Int)) (by (apply b1T <;> first | assumption | omega | decide)),am ((0:Int)<=(i:Int)+1/\(i:Int)+1<(↑(ByteArray.size s):Int)) (by (apply iG <;> first | assumption | omega | decide)),av (.v (.int .u8 (↑(UInt8.toNat (List.getD (Array.toList (ByteArray.data s)) (Int.toNat ((i:Int)+1)) default)):Int))) (.v (.int .u8 (↑(UInt8.toNat (List.getD (List.drop 1 (Array.toList (ByteArray.data s))) i default)):Int))) (by simp only [Int.toNat_natCast,Int.toNat_zero,D2]; rw [@Kz (Array.toList (ByteArray.data s)) (i) Ag]; try rfl),cl (@IX ((↑(UInt8.toNat (List.getD (List.drop 1 (Array.toList (ByteArray.data s))) i default)):Int))),rp 3 (B2 (B6 h0)),am ((0:Int)<=(i:Int)+1/\(i:Int)+1<(↑(ByteArray.size s):Int)) (by (apply iG <;> first | assumption | omega | decide)),av (.v (.int .u8 (↑(UInt8.toNat (List.getD (Array.toList (ByteArray.data s)) (Int.toNat ((i:Int)+1)) default)):Int))) (.v (.int .u8 (↑(UInt8.toNat (List.getD (List.drop 1 (Array.toList (ByteArray.data s))) i default)):Int))) (by simp only [Int.toNat_natCast,Int.toNat_zero,D2]; rw [@Kz (Array.toList (ByteArray.data s)) (i) Ag]; try rfl),B2 (B6 h0),cl (@RT ((↑(UInt8.toNat (List.getD (List.drop 1 (Array.toList (ByteArray.data s))) i default)):Int))),rp 2 (B2 (B6 h0)),rp 5 (AQ (AJ (Jq h1))),bf false,wr ((i:Int)+1+1)] Ag () trivial (by rw [hd,Fg,iP h0,iN h1])
  ·exact lN Ad [kp,dt ((i:Int)+1<(↑(ByteArray.size s):Int)) (by (apply b1T <;> first | assumption | omega | decide)),am ((0:Int)<=(i:Int)+1/\(i:Int)+1<(↑(ByteArray.size s):Int)) (by (apply iG <;> first | assumption | omega | decide)),av (.v (.int .u8 (↑(UInt8.toNat (List.getD (Array.toList (ByteArray.data s)) (Int.toNat ((i:Int)+1)) default)):Int))) (.v (.int .u8 (↑(UInt8.toNat (List.getD (List.drop 1 (Array.toList (ByteArray.data s))) i default)):Int))) (by simp only [Int.toNat_natCast,Int.toNat_zero,D2]; rw [@Kz (Array.toList (ByteArray.data s)) (i) Ag]; try rfl),cl (@IX ((↑(UInt8.toNat (List.getD (List.drop 1 (Array.toList (ByteArray.data s))) i default)):Int))),rp 6 (AQ (AJ (Jq h0))),rp 6 (bf false),wr ((i:Int)+1+1)] Ag () trivial (by rw [hd,Fg,iN h0])
 ·have he:i=List.length ((List.drop 1 s.data.toList)):=by omega
  exact lX Ad [kp,df ((i:Int)+1<(↑(ByteArray.size s):Int)) (by (apply b1F <;> first | assumption | omega | decide))] (Gq.e1) (by rw [he,List.drop_length,Fg])
theorem A27(s:BA)(F6:DA s=true)(Gd:D1 (s.data.toList.getD 0 default).toNat=true)(Jt:Ln s=false)(e:Ext)(hN:List.length ((List.drop 1 s.data.toList))<=1000000000)(At:(Fg  ((List.drop 1 s.data.toList)))=(Gq.e0)):(Ob.loop 41 (Ai f133 0) (Uu s 0  e) (Ni s e (Gq.e0)).1 (Ni s e (Gq.e0)).2).ok prog:=
 rz (Z6 s F6 Gd Jt e hN) At
theorem A28(s:BA)(F6:DA s=true)(Gd:D1 (s.data.toList.getD 0 default).toNat=true)(Jt:Ln s=false)(e:Ext)(hN:List.length ((List.drop 1 s.data.toList))<=1000000000)(At:(Fg  ((List.drop 1 s.data.toList)))=(Gq.e1)):(Ob.loop 41 (Ai f133 0) (Uu s 0  e) (Ni s e (Gq.e1)).1 (Ni s e (Gq.e1)).2).ok prog:=
 rz (Z6 s F6 Gd Jt e hN) At
theorem Z7:∀l:List UInt8,Fg l=if l.all QK=true then .e1 else .e0
 | []=>rfl
 | c::r=>by
  by_cases h1:D1 c.toNat=true <;> by_cases h2:IW c.toNat=true <;> by_cases h3:((c.toNat:Nat):Int)=95 <;> simp [Fg,QK,h1,h2,h3,Z7 r]
def AR(s:BA):Bool:=DA s&&D1 (s.data.toList.getD 0 default).toNat && !Ln s&&(s.data.toList.drop 1).all QK
section
variable (s:BA) (F6:DA s=true)
include s F6
theorem Aad(Gd:D1 (s.data.toList.getD 0 default).toNat=false):Pu 133 [.str s] (rB false):=
 pm Ad [cl (@HA (s)),rp 2 (bf (!DA s) (AJ F6)),am ((0:Int)<=0/\0<(↑(ByteArray.size s):Int)) (by (apply H6 <;> first | assumption | omega | decide)),av (.v (.int .u8 (↑(UInt8.toNat (List.getD (Array.toList (ByteArray.data s)) (Int.toNat 0) default)):Int))) (.v (.int .u8 (↑(UInt8.toNat (List.getD (Array.toList (ByteArray.data s)) 0 default)):Int))) rF,bf (!DA s) (AJ F6),cl (@IX ((↑(UInt8.toNat (List.getD (Array.toList (ByteArray.data s)) 0 default)):Int))),rp 2 (bf (!DA s) (AJ F6)),rp 3 (bt (!D1 (↑(UInt8.toNat (List.getD (Array.toList (ByteArray.data s)) 0 default)):Int)) (B6 Gd)),bt true] func133
theorem Aae(Gd:D1 (s.data.toList.getD 0 default).toNat=true)(Jt:Ln s=true):Pu 133 [.str s] (rB false):=
 pm Ad [cl (@HA (s)),rp 2 (bf (!DA s) (AJ F6)),am ((0:Int)<=0/\0<(↑(ByteArray.size s):Int)) (by (apply H6 <;> first | assumption | omega | decide)),av (.v (.int .u8 (↑(UInt8.toNat (List.getD (Array.toList (ByteArray.data s)) (Int.toNat 0) default)):Int))) (.v (.int .u8 (↑(UInt8.toNat (List.getD (Array.toList (ByteArray.data s)) 0 default)):Int))) rF,bf (!DA s) (AJ F6),cl (@IX ((↑(UInt8.toNat (List.getD (Array.toList (ByteArray.data s)) 0 default)):Int))),rp 2 (bf (!DA s) (AJ F6)),rp 2 (bf (!D1 (↑(UInt8.toNat (List.getD (Array.toList (ByteArray.data s)) 0 default)):Int)) (AJ Gd)),cl (@rX (s)),bf (!D1 (↑(UInt8.toNat (List.getD (Array.toList (ByteArray.data s)) 0 default)):Int)) (AJ Gd),bt (Ln s) Jt] func133
theorem rY(Gd:D1 (s.data.toList.getD 0 default).toNat=true)(Jt:Ln s=false)(Ac:Fg (List.drop 1 (Array.toList (ByteArray.data s)))=Gq.e0):Pu 133 [.str s] (rB false):=
 pu Ad (fun e=>[cl (@HA (s)),rp 2 (bf (!DA s) (AJ F6)),am ((0:Int)<=0/\0<(↑(ByteArray.size s):Int)) (by (apply H6 <;> first | assumption | omega | decide)),av (.v (.int .u8 (↑(UInt8.toNat (List.getD (Array.toList (ByteArray.data s)) (Int.toNat 0) default)):Int))) (.v (.int .u8 (↑(UInt8.toNat (List.getD (Array.toList (ByteArray.data s)) 0 default)):Int))) rF,bf (!DA s) (AJ F6),cl (@IX ((↑(UInt8.toNat (List.getD (Array.toList (ByteArray.data s)) 0 default)):Int))),rp 2 (bf (!DA s) (AJ F6)),rp 2 (bf (!D1 (↑(UInt8.toNat (List.getD (Array.toList (ByteArray.data s)) 0 default)):Int)) (AJ Gd)),cl (@rX (s)),bf (!D1 (↑(UInt8.toNat (List.getD (Array.toList (ByteArray.data s)) 0 default)):Int)) (AJ Gd),bf (Ln s) Jt,lp (S.mk [(0,vS s),(2,.v (.bool false)),(4,vS s),(5,.v (.bool (DA s))),(6,.v (.bool !DA s)),(7,.v (.bool !DA s)),(8,vS s),(9,.v (.int .u8 (↑(UInt8.toNat (List.getD (Array.toList (ByteArray.data s)) 0 default)):Int))),(10,.v (.bool (D1 (↑(UInt8.toNat (List.getD (Array.toList (ByteArray.data s)) 0 default)):Int)))),(11,.v (.bool !D1 (↑(UInt8.toNat (List.getD (Array.toList (ByteArray.data s)) 0 default)):Int))),(12,.v (.bool !D1 (↑(UInt8.toNat (List.getD (Array.toList (ByteArray.data s)) 0 default)):Int))),(13,.v (.bool !D1 (↑(UInt8.toNat (List.getD (Array.toList (ByteArray.data s)) 0 default)):Int))),(14,vS s),(15,.v (.bool (Ln s))),(16,.v (.bool (Ln s))),(3,A1 1)] [] e) (@A27 (s) F6 Gd Jt (e) (by (apply Z5 <;> first | assumption | omega | decide)) Ac) xr]) func133
theorem rZ(Gd:D1 (s.data.toList.getD 0 default).toNat=true)(Jt:Ln s=false)(Ac:Fg (List.drop 1 (Array.toList (ByteArray.data s)))=Gq.e1):Pu 133 [.str s] (rB true):=
 pu Ad (fun e=>[cl (@HA (s)),rp 2 (bf (!DA s) (AJ F6)),am ((0:Int)<=0/\0<(↑(ByteArray.size s):Int)) (by (apply H6 <;> first | assumption | omega | decide)),av (.v (.int .u8 (↑(UInt8.toNat (List.getD (Array.toList (ByteArray.data s)) (Int.toNat 0) default)):Int))) (.v (.int .u8 (↑(UInt8.toNat (List.getD (Array.toList (ByteArray.data s)) 0 default)):Int))) rF,bf (!DA s) (AJ F6),cl (@IX ((↑(UInt8.toNat (List.getD (Array.toList (ByteArray.data s)) 0 default)):Int))),rp 2 (bf (!DA s) (AJ F6)),rp 2 (bf (!D1 (↑(UInt8.toNat (List.getD (Array.toList (ByteArray.data s)) 0 default)):Int)) (AJ Gd)),cl (@rX (s)),bf (!D1 (↑(UInt8.toNat (List.getD (Array.toList (ByteArray.data s)) 0 default)):Int)) (AJ Gd),bf (Ln s) Jt,lp (S.mk [(0,vS s),(2,.v (.bool false)),(4,vS s),(5,.v (.bool (DA s))),(6,.v (.bool !DA s)),(7,.v (.bool !DA s)),(8,vS s),(9,.v (.int .u8 (↑(UInt8.toNat (List.getD (Array.toList (ByteArray.data s)) 0 default)):Int))),(10,.v (.bool (D1 (↑(UInt8.toNat (List.getD (Array.toList (ByteArray.data s)) 0 default)):Int)))),(11,.v (.bool !D1 (↑(UInt8.toNat (List.getD (Array.toList (ByteArray.data s)) 0 default)):Int))),(12,.v (.bool !D1 (↑(UInt8.toNat (List.getD (Array.toList (ByteArray.data s)) 0 default)):Int))),(13,.v (.bool !D1 (↑(UInt8.toNat (List.getD (Array.toList (ByteArray.data s)) 0 default)):Int))),(14,vS s),(15,.v (.bool (Ln s))),(16,.v (.bool (Ln s))),(3,A1 1)] [] e) (@A28 (s) F6 Gd Jt (e) (by (apply Z5 <;> first | assumption | omega | decide)) Ac) xr]) func133
end
theorem M3(s:BA):Pu 133 [.str s] (.ret (.bool (AR s))):=by
 unfold AR
 cases F6:DA s with
 | false=>exact pm Ad [cl (@HA (s)),rp 5 (bt (!DA s) (B6 F6)),rp 4 (bt true)] func133
 | true=>
  cases Gd:D1 (s.data.toList.getD 0 default).toNat with
  | false=>exact Aad s F6 Gd
  | true=>
   cases Jt:Ln s with
   | true=>exact Aae s F6 Gd Jt
   | false=>
    cases h:(s.data.toList.drop 1).all QK with
    | true=>exact rZ s F6 Gd Jt (by rw [Z7,iP h])
    | false=>exact rY s F6 Gd Jt (by rw [Z7,iN (by rw [h]; simp)])
end Go.Proofs.YthchpmnkecoafaaGreatDoor
