/- Values of Go as plain data, an evaluator over them, and what the functions of the program return; part Yc. -/
import Derived.Test.YtmllcplaohkjnaaGreatDoorYb
import Derived.Test.YtmllcplaohkjnaaGreatDoorYa
set_option linter.unusedSectionVars false
set_option linter.unusedSimpArgs false
set_option linter.unusedVariables false
namespace Go.Proofs.YtmllcplaohkjnaaGreatDoor
open Go.Proofs.Tryz
open Go.Pv Go.Proofs.Tryz
set_option maxRecDepth 100000
def AU(b:Bool):Int:=if b=true then 0 else 3
theorem A1l(b:Bool):Pu 141 [.bool b] (.ret (.int .i64 (AU b))):=by
 cases b with
 | true=>exact pm An [bt true] func141
 | false=>exact pm An [bf false] func141
theorem A81(s:BA):Pu 97 [.str s] (rI (AU (Ac s))):=
 pm An [cl (@M9 (s)),cl (@A1l (Ac s))] func97
abbrev s7:BA:=⟨#[73,110,116]⟩
abbrev ZH:BA:=⟨#[66,111,111,108]⟩
abbrev ZI:BA:=⟨#[67,101,108,108]⟩
abbrev iV:BA:=⟨#[70,117,110]⟩
def AL(s:BA):Bool:=Ec s&&KY (s.data.toList.getD 0 default).toNat&&s.data.toList.all M8 && !decide (s=s7) && !decide (s=ZH) && !decide (s=ZI) && !decide (s=iV)
theorem JB{s:BA}(h:Ec s=true):s.size<=1000000000:=by
 simp only [Ec,Bool.and_eq_true,decide_eq_true_eq] at h; omega
section
variable (s:BA) (Fc:Ec s=true)
include s Fc
theorem A82(Gy:KY (s.data.toList.getD 0 default).toNat=false):Pu 137 [.str s] (rB false):=
 pm An [cl (@HB (s)),rp 2 (bf (!Ec s) (B3 Fc)),am ((0:Int)<=0/\0<(↑(ByteArray.size s):Int)) (by (apply H7 <;> first | assumption | omega | decide)),av (.v (.int .u8 (↑(UInt8.toNat (List.getD (Array.toList (ByteArray.data s)) (Int.toNat 0) default)):Int))) (.v (.int .u8 (↑(UInt8.toNat (List.getD (Array.toList (ByteArray.data s)) 0 default)):Int))) rF,bf (!Ec s) (B3 Fc),cl (@Qy ((↑(UInt8.toNat (List.getD (Array.toList (ByteArray.data s)) 0 default)):Int))),rp 2 (bf (!Ec s) (B3 Fc)),rp 4 (bt (!KY (↑(UInt8.toNat (List.getD (Array.toList (ByteArray.data s)) 0 default)):Int)) (BH Gy)),bt true] func137
theorem A83(Gy:KY (s.data.toList.getD 0 default).toNat=true)(JA:s.data.toList.all M8=false):Pu 137 [.str s] (rB false):=
 pm An [cl (@HB (s)),rp 2 (bf (!Ec s) (B3 Fc)),am ((0:Int)<=0/\0<(↑(ByteArray.size s):Int)) (by (apply H7 <;> first | assumption | omega | decide)),av (.v (.int .u8 (↑(UInt8.toNat (List.getD (Array.toList (ByteArray.data s)) (Int.toNat 0) default)):Int))) (.v (.int .u8 (↑(UInt8.toNat (List.getD (Array.toList (ByteArray.data s)) 0 default)):Int))) rF,bf (!Ec s) (B3 Fc),cl (@Qy ((↑(UInt8.toNat (List.getD (Array.toList (ByteArray.data s)) 0 default)):Int))),rp 2 (bf (!Ec s) (B3 Fc)),rp 2 (bf (!KY (↑(UInt8.toNat (List.getD (Array.toList (ByteArray.data s)) 0 default)):Int)) (B3 Gy)),cl (@Nr (s) (by (apply JB <;> first | assumption | omega | decide))),rp 2 (bf (!KY (↑(UInt8.toNat (List.getD (Array.toList (ByteArray.data s)) 0 default)):Int)) (B3 Gy)),bt (!List.all (Array.toList (ByteArray.data s)) M8) (BH JA)] func137
theorem s8(Gy:KY (s.data.toList.getD 0 default).toNat=true)(JA:s.data.toList.all M8=true)(Ak:¬s=ByteArray.mk #[73,110,116])(Au:¬s=ByteArray.mk #[66,111,111,108])(AW:¬s=ByteArray.mk #[67,101,108,108]):Pu 137 [.str s] (rB !ByteArray.toList s==ByteArray.toList (ByteArray.mk #[70,117,110])):=
 pm An [cl (@HB (s)),rp 2 (bf (!Ec s) (B3 Fc)),am ((0:Int)<=0/\0<(↑(ByteArray.size s):Int)) (by (apply H7 <;> first | assumption | omega | decide)),av (.v (.int .u8 (↑(UInt8.toNat (List.getD (Array.toList (ByteArray.data s)) (Int.toNat 0) default)):Int))) (.v (.int .u8 (↑(UInt8.toNat (List.getD (Array.toList (ByteArray.data s)) 0 default)):Int))) rF,bf (!Ec s) (B3 Fc),cl (@Qy ((↑(UInt8.toNat (List.getD (Array.toList (ByteArray.data s)) 0 default)):Int))),rp 2 (bf (!Ec s) (B3 Fc)),rp 2 (bf (!KY (↑(UInt8.toNat (List.getD (Array.toList (ByteArray.data s)) 0 default)):Int)) (B3 Gy)),cl (@Nr (s) (by (apply JB <;> first | assumption | omega | decide))),rp 2 (bf (!KY (↑(UInt8.toNat (List.getD (Array.toList (ByteArray.data s)) 0 default)):Int)) (B3 Gy)),bf (!List.all (Array.toList (ByteArray.data s)) M8) (B3 JA),rp 3 (bt (!ByteArray.toList s==ByteArray.toList (ByteArray.mk #[73,110,116])) (BH (HT Ak))),rp 3 (bt (!ByteArray.toList s==ByteArray.toList (ByteArray.mk #[66,111,111,108])) (BH (HT Au))),rp 3 (bt (!ByteArray.toList s==ByteArray.toList (ByteArray.mk #[67,101,108,108])) (BH (HT AW)))] func137
theorem s9(Gy:KY (s.data.toList.getD 0 default).toNat=true)(JA:s.data.toList.all M8=true)(Ak:¬s=ByteArray.mk #[73,110,116])(Au:¬s=ByteArray.mk #[66,111,111,108])(AW:s=ByteArray.mk #[67,101,108,108]):Pu 137 [.str s] (rB false):=
 pm An [cl (@HB (s)),rp 2 (bf (!Ec s) (B3 Fc)),am ((0:Int)<=0/\0<(↑(ByteArray.size s):Int)) (by (apply H7 <;> first | assumption | omega | decide)),av (.v (.int .u8 (↑(UInt8.toNat (List.getD (Array.toList (ByteArray.data s)) (Int.toNat 0) default)):Int))) (.v (.int .u8 (↑(UInt8.toNat (List.getD (Array.toList (ByteArray.data s)) 0 default)):Int))) rF,bf (!Ec s) (B3 Fc),cl (@Qy ((↑(UInt8.toNat (List.getD (Array.toList (ByteArray.data s)) 0 default)):Int))),rp 2 (bf (!Ec s) (B3 Fc)),rp 2 (bf (!KY (↑(UInt8.toNat (List.getD (Array.toList (ByteArray.data s)) 0 default)):Int)) (B3 Gy)),cl (@Nr (s) (by (apply JB <;> first | assumption | omega | decide))),rp 2 (bf (!KY (↑(UInt8.toNat (List.getD (Array.toList (ByteArray.data s)) 0 default)):Int)) (B3 Gy)),bf (!List.all (Array.toList (ByteArray.data s)) M8) (B3 JA),rp 3 (bt (!ByteArray.toList s==ByteArray.toList (ByteArray.mk #[73,110,116])) (BH (HT Ak))),rp 3 (bt (!ByteArray.toList s==ByteArray.toList (ByteArray.mk #[66,111,111,108])) (BH (HT Au))),rp 3 (bf (!ByteArray.toList s==ByteArray.toList (ByteArray.mk #[67,101,108,108])) (B3 (DZ AW)))] func137
theorem sB(Gy:KY (s.data.toList.getD 0 default).toNat=true)(JA:s.data.toList.all M8=true)(Ak:¬s=ByteArray.mk #[73,110,116])(Au:s=ByteArray.mk #[66,111,111,108]):Pu 137 [.str s] (rB false):=
 pm An [cl (@HB (s)),rp 2 (bf (!Ec s) (B3 Fc)),am ((0:Int)<=0/\0<(↑(ByteArray.size s):Int)) (by (apply H7 <;> first | assumption | omega | decide)),av (.v (.int .u8 (↑(UInt8.toNat (List.getD (Array.toList (ByteArray.data s)) (Int.toNat 0) default)):Int))) (.v (.int .u8 (↑(UInt8.toNat (List.getD (Array.toList (ByteArray.data s)) 0 default)):Int))) rF,bf (!Ec s) (B3 Fc),cl (@Qy ((↑(UInt8.toNat (List.getD (Array.toList (ByteArray.data s)) 0 default)):Int))),rp 2 (bf (!Ec s) (B3 Fc)),rp 2 (bf (!KY (↑(UInt8.toNat (List.getD (Array.toList (ByteArray.data s)) 0 default)):Int)) (B3 Gy)),cl (@Nr (s) (by (apply JB <;> first | assumption | omega | decide))),rp 2 (bf (!KY (↑(UInt8.toNat (List.getD (Array.toList (ByteArray.data s)) 0 default)):Int)) (B3 Gy)),bf (!List.all (Array.toList (ByteArray.data s)) M8) (B3 JA),rp 3 (bt (!ByteArray.toList s==ByteArray.toList (ByteArray.mk #[73,110,116])) (BH (HT Ak))),rp 3 (bf (!ByteArray.toList s==ByteArray.toList (ByteArray.mk #[66,111,111,108])) (B3 (DZ Au))),rp 3 (bf false)] func137
theorem sC(Gy:KY (s.data.toList.getD 0 default).toNat=true)(JA:s.data.toList.all M8=true)(Ak:s=ByteArray.mk #[73,110,116]):Pu 137 [.str s] (rB false):=
 pm An [cl (@HB (s)),rp 2 (bf (!Ec s) (B3 Fc)),am ((0:Int)<=0/\0<(↑(ByteArray.size s):Int)) (by (apply H7 <;> first | assumption | omega | decide)),av (.v (.int .u8 (↑(UInt8.toNat (List.getD (Array.toList (ByteArray.data s)) (Int.toNat 0) default)):Int))) (.v (.int .u8 (↑(UInt8.toNat (List.getD (Array.toList (ByteArray.data s)) 0 default)):Int))) rF,bf (!Ec s) (B3 Fc),cl (@Qy ((↑(UInt8.toNat (List.getD (Array.toList (ByteArray.data s)) 0 default)):Int))),rp 2 (bf (!Ec s) (B3 Fc)),rp 2 (bf (!KY (↑(UInt8.toNat (List.getD (Array.toList (ByteArray.data s)) 0 default)):Int)) (B3 Gy)),cl (@Nr (s) (by (apply JB <;> first | assumption | omega | decide))),rp 2 (bf (!KY (↑(UInt8.toNat (List.getD (Array.toList (ByteArray.data s)) 0 default)):Int)) (B3 Gy)),bf (!List.all (Array.toList (ByteArray.data s)) M8) (B3 JA),rp 3 (bf (!ByteArray.toList s==ByteArray.toList (ByteArray.mk #[73,110,116])) (B3 (DZ Ak))),rp 6 (bf false)] func137
end
theorem bcA{s:BA}{i:Nat}(h:i<List.length (s.data.toList)):(0:Int)<=((0:Nat):Int)/\((0:Nat):Int)<=(i:Int)/\(i:Int)<=(s.size:Int):=by
 have:=WJ h; omega
theorem bcB{s:BA}{i:Nat}(h:i<List.length (s.data.toList)):(0:Int)<=(i:Int)+1/\(i:Int)+1<=(s.size:Int)/\(s.size:Int)<=(s.size:Int):=by
 have:=WJ h; omega
def m7:List UInt8->Nat
 | []=>0
 | c::r=>if ((c.toNat:Nat):Int)=46 then 0 else m7 r+1
abbrev V4(s:BA)(j:Int)(e:Ext):S:=S.mk [(0,vS s),(2,vS AI),(3,vS AI),(4,.v (.bool false)),(5,A2 j)] [] e
inductive GL where
 | e0 (i:Nat)
 | e1
def Gr  : List UInt8->Nat->GL
 | [],i=>(GL.e1)
 | el::r,i=>(if (↑(UInt8.toNat el):Int)=46 then (GL.e0 i) else Gr  r (i+1))
def Nv(s:BA)(e:Ext):GL->A7 × S
 | .e0 i=>(.ret,S.mk [(0,vS s),(2,vS (ByteArray.extract s 0 i)),(3,vS (ByteArray.extract s (i+1) (ByteArray.size s))),(4,.v (.bool true))] [] e)
 | .e1=>(.exit 0,S.mk [(0,vS s),(2,vS AI),(3,vS AI),(4,.v (.bool false))] [] e)
theorem ZJ(s:BA)(e:Ext)(hN:List.length ((s.data.toList))<=1000000000):(Ob.loop 24 (Am f135 0) (V4 s 0  e) (Nv s e (Gr  (List.drop 0 ((s.data.toList))) 0)).1 (Nv s e (Gr  (List.drop 0 ((s.data.toList))) 0)).2).ok prog:=by
 refine Ek (List.length ((s.data.toList))) (fun j _=>V4 s j  e) (fun i _=>Gr  (List.drop i ((s.data.toList))) i) (Nv s e) (fun i _=>True) kR ?_ () trivial
 rintro i u hi -
 rcases Nat.lt_or_ge i (List.length ((s.data.toList))) with Ad | Dm
 ·have hd:=AN Ad
  by_cases h0:(↑(UInt8.toNat (List.getD (Array.toList (ByteArray.data s)) i default)):Int)=46
  ·exact lX An [kp,dt ((i:Int)<(↑(ByteArray.size s):Int)) (by (apply WJ <;> first | assumption | omega | decide)),am ((0:Int)<=(i:Int)/\(i:Int)<(↑(ByteArray.size s):Int)) (by simp_all [List.length_map,List.length_append,List.length_cons,List.length_nil,A3,Pr.A0,Tp.A0,Pm.A0,Ex.A0,Al.A0,Vr.A0,Cn.A0,Da.A0,Cl.A0,Bo.A0,Df.A0,In.A0,Cs.A0,Ms.A0,Qu.A0,Int.toNat_natCast,Int.toNat_zero,Fg]),av (.v (.int .u8 (↑(UInt8.toNat (List.getD (Array.toList (ByteArray.data s)) (Int.toNat (i:Int)) default)):Int))) (.v (.int .u8 (↑(UInt8.toNat (List.getD (Array.toList (ByteArray.data s)) i default)):Int))) rF,CT h0,am ((0:Int)<=(0:Int)/\(0:Int)<=(i:Int)/\(i:Int)<=(↑(ByteArray.size s):Int)) (by (apply bcA <;> first | assumption | omega | decide)),av (vS (ByteArray.extract s (Int.toNat (0:Int)) (Int.toNat (i:Int)))) (vS (ByteArray.extract s 0 i)) rF,wr ((i:Int)+1),am ((0:Int)<=(i:Int)+1/\(i:Int)+1<=(↑(ByteArray.size s):Int)/\(↑(ByteArray.size s):Int)<=(↑(ByteArray.size s):Int)) (by (apply bcB <;> first | assumption | omega | decide)),av (vS (ByteArray.extract s (Int.toNat ((i:Int)+1)) (Int.toNat (↑(ByteArray.size s):Int)))) (vS (ByteArray.extract s (i+1) (ByteArray.size s))) rF] (GL.e0 i) (by rw [hd,Gr,iP h0])
  ·exact lN An [kp,dt ((i:Int)<(↑(ByteArray.size s):Int)) (by (apply WJ <;> first | assumption | omega | decide)),am ((0:Int)<=(i:Int)/\(i:Int)<(↑(ByteArray.size s):Int)) (by simp_all [List.length_map,List.length_append,List.length_cons,List.length_nil,A3,Pr.A0,Tp.A0,Pm.A0,Ex.A0,Al.A0,Vr.A0,Cn.A0,Da.A0,Cl.A0,Bo.A0,Df.A0,In.A0,Cs.A0,Ms.A0,Qu.A0,Int.toNat_natCast,Int.toNat_zero,Fg]),av (.v (.int .u8 (↑(UInt8.toNat (List.getD (Array.toList (ByteArray.data s)) (Int.toNat (i:Int)) default)):Int))) (.v (.int .u8 (↑(UInt8.toNat (List.getD (Array.toList (ByteArray.data s)) i default)):Int))) rF,As h0,wr ((i:Int)+1)] Ad () trivial (by rw [hd,Gr,iN h0])
 ·have he:i=List.length ((s.data.toList)):=by omega
  exact lX An [kp,df ((i:Int)<(↑(ByteArray.size s):Int)) (by (apply bzF <;> first | assumption | omega | decide))] (GL.e1) (by rw [he,List.drop_length,Gr])
theorem A1m(s:BA)(e:Ext)(hN:List.length ((s.data.toList))<=1000000000)(p0:Nat)(AF:(Gr  ((s.data.toList)) 0)=(GL.e0 p0)):(Ob.loop 24 (Am f135 0) (V4 s 0  e) (Nv s e (GL.e0 p0)).1 (Nv s e (GL.e0 p0)).2).ok prog:=
 rz (ZJ s e hN) AF
theorem A1n(s:BA)(e:Ext)(hN:List.length ((s.data.toList))<=1000000000)(AF:(Gr  ((s.data.toList)) 0)=(GL.e1)):(Ob.loop 24 (Am f135 0) (V4 s 0  e) (Nv s e (GL.e1)).1 (Nv s e (GL.e1)).2).ok prog:=
 rz (ZJ s e hN) AF
theorem sE(s:BA)(hs:s.size<=1000000000)(Ee:Nat)(Au:Gr (Array.toList (ByteArray.data s)) 0=GL.e0 Ee):Pu 135 [.str s] (.ret (.B6 [.str (ByteArray.extract s 0 Ee),.str (ByteArray.extract s (Ee+1) (ByteArray.size s)),.bool true])):=
 pu An (fun e=>[lp (S.mk [(0,vS s),(2,vS AI),(3,vS AI),(4,.v (.bool false)),(5,A2 0)] [] e) (@A1m (s) (e) (by (apply Pd <;> first | assumption | omega | decide)) Ee Au) ⟨⟨W,Wq,Wq,W,W,Ar⟩,trivial,rfl⟩]) func135
theorem sF(s:BA)(hs:s.size<=1000000000)(Ak:Gr (Array.toList (ByteArray.data s)) 0=GL.e1):Pu 135 [.str s] (.ret (.B6 [.str s,.str AI,.bool false])):=
 pu An (fun e=>[lp (S.mk [(0,vS s),(2,vS AI),(3,vS AI),(4,.v (.bool false)),(5,A2 0)] [] e) (@A1n (s) (e) (by (apply Pd <;> first | assumption | omega | decide)) Ak) ⟨⟨W,Wq,Wq,W,W,Ar⟩,trivial,rfl⟩]) func135
abbrev V5(l:List BA)(s:BA)(j:Int)(e:Ext):S:=S.mk [(0,vL 1 (A1 l)),(1,vS s),(4,A2 0),(7,A2 (l.length:Int)),(8,A2 j)] [] e
inductive GM where
 | e0 (i:Nat)
 | e1
def Gs(s:BA):List BA->Nat->GM
 | [],i=>(GM.e1)
 | el::r,i=>(if s=el then (GM.e0 i) else Gs s r (i+1))
def Nw(l:List BA)(s:BA)(e:Ext):GM->A7 × S
 | .e0 i=>(.ret,S.mk [(0,vL 1 (A1 l)),(1,vS s),(4,A2 (i:Int)),(7,A2 (l.length:Int))] [] e)
 | .e1=>(.exit 0,S.mk [(0,vL 1 (A1 l)),(1,vS s),(4,A2 0),(7,A2 (l.length:Int))] [] e)
theorem ZK(l:List BA)(s:BA)(e:Ext)(hN:l.length<=1000000000):(Ob.loop 19 (Am f172 0) (V5 l s 0  e) (Nw l s e (Gs s (List.drop 0 (l)) 0)).1 (Nw l s e (Gs s (List.drop 0 (l)) 0)).2).ok prog:=by
 refine Ek l.length (fun j _=>V5 l s j  e) (fun i _=>Gs s (List.drop i (l)) i) (Nw l s e) (fun i _=>True) kR ?_ () trivial
 rintro i u hi -
 rcases Nat.lt_or_ge i (l.length) with Ad | Dm
 ·have hd:=D9 Ad
  by_cases h0:s=List.getD l i AI
  ·exact lX An [dt ((i:Int)<(l.length:Int)),am ((0:Int)<=(i:Int)/\(i:Int)<((A1 l).length:Int)) (by (simp only [A3]; omega)),ar (List.getD (A1 l) (Int.toNat (i:Int)) []) [.str (List.getD l i AI)] (by simp only [Int.toNat_natCast,Int.toNat_zero]; rw [@BN (l) (i) Ad]; try rfl),bt (ByteArray.toList s==ByteArray.toList (List.getD l i AI)) (DZ h0)] (GM.e0 i) (by rw [hd,Gs,iP h0])
  ·exact lN An [dt ((i:Int)<(l.length:Int)),am ((0:Int)<=(i:Int)/\(i:Int)<((A1 l).length:Int)) (by (simp only [A3]; omega)),ar (List.getD (A1 l) (Int.toNat (i:Int)) []) [.str (List.getD l i AI)] (by simp only [Int.toNat_natCast,Int.toNat_zero]; rw [@BN (l) (i) Ad]; try rfl),bf (ByteArray.toList s==ByteArray.toList (List.getD l i AI)) (HT h0),wr ((i:Int)+1)] Ad () trivial (by rw [hd,Gs,iN h0])
 ·have he:i=l.length:=by omega
  exact lX An [df ((i:Int)<(l.length:Int))] (GM.e1) (by rw [he,List.drop_length,Gs])
theorem A1o(l:List BA)(s:BA)(e:Ext)(hN:l.length<=1000000000)(p0:Nat)(AF:(Gs s (l) 0)=(GM.e0 p0)):(Ob.loop 19 (Am f172 0) (V5 l s 0  e) (Nw l s e (GM.e0 p0)).1 (Nw l s e (GM.e0 p0)).2).ok prog:=
 rz (ZK l s e hN) AF
theorem A1p(l:List BA)(s:BA)(e:Ext)(hN:l.length<=1000000000)(AF:(Gs s (l) 0)=(GM.e1)):(Ob.loop 19 (Am f172 0) (V5 l s 0  e) (Nw l s e (GM.e1)).1 (Nw l s e (GM.e1)).2).ok prog:=
 rz (ZK l s e hN) AF
section
variable (l:List BA) (s:BA) (hN:l.length<=1000000000)
include l s hN
theorem sG(Ee:Nat)(Au:Gs s l 0=GM.e0 Ee):Pu 172 [.sl 1 (A1 l),.str s] (rI (Ee:Int)):=
 pu An (fun e=>[sl (A3 l),lp (S.mk [(0,vL 1 (A1 l)),(1,vS s),(4,A2 0),(6,vL 1 (A1 l)),(7,A2 (l.length:Int)),(8,A2 0)] [] e) (@A1o (l) (s) (e) hN Ee Au) xr]) func172
theorem sH(Ak:Gs s l 0=GM.e1):Pu 172 [.sl 1 (A1 l),.str s] (rI (-1)):=
 pu An (fun e=>[sl (A3 l),lp (S.mk [(0,vL 1 (A1 l)),(1,vS s),(4,A2 0),(6,vL 1 (A1 l)),(7,A2 (l.length:Int)),(8,A2 0)] [] e) (@A1p (l) (s) (e) hN Ak) xr]) func172
end
theorem Qz(s:BA):Pu 137 [.str s] (.ret (.bool (AL s))):=by
 unfold AL
 cases Fc:Ec s with
 | false=>exact pm An [cl (@HB (s)),rp 5 (bt (!Ec s) (BH Fc)),rp 5 (bt true)] func137
 | true=>
  cases Gy:KY (s.data.toList.getD 0 default).toNat with
  | false=>exact A82 s Fc Gy
  | true=>
   cases JA:s.data.toList.all M8 with
   | false=>exact A83 s Fc Gy JA
   | true=>
    simp only [Bool.true_and]
    by_cases h1:s=s7
    ·rw [decide_eq_true h1]; simpa using sC s Fc Gy JA h1
    ·by_cases h2:s=ZH
     ·rw [decide_eq_true h2]; simpa using sB s Fc Gy JA h1 h2
     ·by_cases h3:s=ZI
      ·rw [decide_eq_true h3]; simpa using s9 s Fc Gy JA h1 h2 h3
      ·have e:(!decide (s=s7) && !decide (s=ZH) && !decide (s=ZI) && !decide (s=iV)) = !(ByteArray.toList s==ByteArray.toList iV):=by
        rw [decide_eq_false h1,decide_eq_false h2,decide_eq_false h3]
        by_cases h4:s=iV
        ·rw [decide_eq_true h4,DZ h4]; rfl
        ·rw [decide_eq_false h4,HT h4]; rfl
       rw [e]
       exact s8 s Fc Gy JA h1 h2 h3
theorem A84(s:BA):Pu 123 [.str s] (rI (AU (AL s))):=
 pm An [cl (@Qz (s)),cl (@A1l (AL s))] func123
theorem ZL:∀ (l:List UInt8) (k:Nat),Gr l k=if m7 l<l.length then .e0 (k+m7 l) else .e1
 | [],k=>by simp [Gr,m7]
 | c::r,k=>by
  by_cases h:((c.toNat:Nat):Int)=46
  ·simp [Gr,m7,h]
  ·simp only [Gr,m7,h,if_false,ZL r (k+1),List.length_cons]
   by_cases h2:m7 r<r.length
   ·rw [iP h2,iP oM]; congr 1; omega
   ·rw [iN h2,iN oM]
abbrev Bb(s:BA):Nat:=m7 s.data.toList
theorem Nx(s:BA)(hs:s.size<=1000000000)(hx:Bb s<s.size):Pu 135 [.str s] (.ret (.B6 [.str (s.extract 0 (Bb s)),.str (s.extract (Bb s+1) s.size),.bool true])):=
 sE s hs _ (by rw [ZL,iP (by simpa using hx),Nat.zero_add])
theorem Sh(s:BA)(hs:s.size<=1000000000)(hx:¬Bb s<s.size):Pu 135 [.str s] (.ret (.B6 [.str s,.str AI,.bool false])):=
 sF s hs (by rw [ZL,iN (by simpa using hx)])
def FZ(s:BA):Bool:=Ec s&&(s.data.toList.all M8||I8 s.data.toList)
abbrev WK(first rest:BA)(more:Bool)(xe:Ext):S:=⟨[(2,.v (.int .i64 0)),(4,.v (.str rest)),(5,.v (.bool more))],[],xe⟩
section
variable (rest:BA) (xe:Ext)
include rest xe
theorem coZ(cx:Cx)(AH:cx.n=52){Q:A7->S->Prop}(hq:Q (.exit 0) (S.mk [(2,A2 0),(4,vS rest),(5,.v (.bool false))] [] xe)):PW prog cx (Am f96 0) (WK rest rest false xe) Q:=
 pw An 52 [bf false] [2,4,5] [] AH hq
theorem A1q(hs:rest.size<=1000000000)(hx:Bb rest<rest.size)(Ak:Ec (ByteArray.extract rest 0 (Bb rest))=false)(cx:Cx)(AH:cx.n=52){Q:A7->S->Prop}(hq:Q (.ret) (S.mk [(2,A2 3),(4,vS (ByteArray.extract rest (Bb rest+1) (ByteArray.size rest))),(5,.v (.bool true))] [] xe)):PW prog cx (Am f96 0) (WK rest rest true xe) Q:=
 pw An 52 [bt true,cl (@Nx (rest) hs hx),cl (@HB (ByteArray.extract rest 0 (Bb rest))),rp 6 (B7 (BH Ak)),bt true] [2,4,5] [] AH hq
theorem A1r(hs:rest.size<=1000000000)(hx:Bb rest<rest.size)(Ak:Ec (ByteArray.extract rest 0 (Bb rest))=true)(Au:List.all (Array.toList (ByteArray.data (ByteArray.extract rest 0 (Bb rest)))) M8=false)(AW:I8 (Array.toList (ByteArray.data (ByteArray.extract rest 0 (Bb rest))))=false)(cx:Cx)(AH:cx.n=52){Q:A7->S->Prop}(hq:Q (.ret) (S.mk [(2,A2 3),(4,vS (ByteArray.extract rest (Bb rest+1) (ByteArray.size rest))),(5,.v (.bool true))] [] xe)):PW prog cx (Am f96 0) (WK rest rest true xe) Q:=
 pw An 52 [bt true,cl (@Nx (rest) hs hx),cl (@HB (ByteArray.extract rest 0 (Bb rest))),rp 2 (B1 (B3 Ak)),cl (@Nr (ByteArray.extract rest 0 (Bb rest)) (by (apply JB <;> first | assumption | omega | decide))),rp 2 (B1 (B3 Ak)),rp 2 (B7 (BH Au)),cl (@iT (ByteArray.extract rest 0 (Bb rest)) (by (apply JB <;> first | assumption | omega | decide))),B7 (BH Au),B1 (B3 Ak),B7 (BH Au),B1 (B3 Ak),B7 (BH AW)] [2,4,5] [] AH hq
theorem A1s(hs:rest.size<=1000000000)(hx:Bb rest<rest.size)(Ak:Ec (ByteArray.extract rest 0 (Bb rest))=true)(Au:List.all (Array.toList (ByteArray.data (ByteArray.extract rest 0 (Bb rest)))) M8=false)(AW:I8 (Array.toList (ByteArray.data (ByteArray.extract rest 0 (Bb rest))))=true)(cx:Cx)(AH:cx.n=52){Q:A7->S->Prop}(hq:Q (.normal) (S.mk [(2,A2 0),(4,vS (ByteArray.extract rest (Bb rest+1) (ByteArray.size rest))),(5,.v (.bool true))] [] xe)):PW prog cx (Am f96 0) (WK rest rest true xe) Q:=
 pw An 52 [bt true,cl (@Nx (rest) hs hx),cl (@HB (ByteArray.extract rest 0 (Bb rest))),rp 2 (B1 (B3 Ak)),cl (@Nr (ByteArray.extract rest 0 (Bb rest)) (by (apply JB <;> first | assumption | omega | decide))),rp 2 (B1 (B3 Ak)),rp 2 (B7 (BH Au)),cl (@iT (ByteArray.extract rest 0 (Bb rest)) (by (apply JB <;> first | assumption | omega | decide))),B7 (BH Au),B1 (B3 Ak),B7 (BH Au),B1 (B3 Ak),B1 (B3 AW)] [2,4,5] [] AH hq
theorem A1t(hs:rest.size<=1000000000)(hx:Bb rest<rest.size)(Ak:Ec (ByteArray.extract rest 0 (Bb rest))=true)(Au:List.all (Array.toList (ByteArray.data (ByteArray.extract rest 0 (Bb rest)))) M8=true)(cx:Cx)(AH:cx.n=52){Q:A7->S->Prop}(hq:Q (.normal) (S.mk [(2,A2 0),(4,vS (ByteArray.extract rest (Bb rest+1) (ByteArray.size rest))),(5,.v (.bool true))] [] xe)):PW prog cx (Am f96 0) (WK rest rest true xe) Q:=
 pw An 52 [bt true,cl (@Nx (rest) hs hx),cl (@HB (ByteArray.extract rest 0 (Bb rest))),rp 2 (B1 (B3 Ak)),cl (@Nr (ByteArray.extract rest 0 (Bb rest)) (by (apply JB <;> first | assumption | omega | decide))),rp 2 (B1 (B3 Ak)),rp 3 (B1 (B3 Au)),B1 (B3 Ak),B1 (B3 Au),B1 (B3 Ak),bf false] [2,4,5] [] AH hq
theorem A1u(hs:rest.size<=1000000000)(hx:¬Bb rest<rest.size)(Ak:Ec rest=false)(cx:Cx)(AH:cx.n=52){Q:A7->S->Prop}(hq:Q (.ret) (S.mk [(2,A2 3),(4,vS AI),(5,.v (.bool false))] [] xe)):PW prog cx (Am f96 0) (WK rest rest true xe) Q:=
 pw An 52 [bt true,cl (@Sh (rest) hs hx),cl (@HB (rest)),rp 6 (B7 (BH Ak)),bt true] [2,4,5] [] AH hq
theorem A1v(hs:rest.size<=1000000000)(hx:¬Bb rest<rest.size)(Ak:Ec rest=true)(Au:List.all (Array.toList (ByteArray.data rest)) M8=false)(AW:I8 (Array.toList (ByteArray.data rest))=false)(cx:Cx)(AH:cx.n=52){Q:A7->S->Prop}(hq:Q (.ret) (S.mk [(2,A2 3),(4,vS AI),(5,.v (.bool false))] [] xe)):PW prog cx (Am f96 0) (WK rest rest true xe) Q:=
 pw An 52 [bt true,cl (@Sh (rest) hs hx),cl (@HB (rest)),rp 2 (B1 (B3 Ak)),cl (@Nr (rest) hs),rp 2 (B1 (B3 Ak)),rp 2 (B7 (BH Au)),cl (@iT (rest) hs),B7 (BH Au),B1 (B3 Ak),B7 (BH Au),B1 (B3 Ak),B7 (BH AW)] [2,4,5] [] AH hq
theorem A1w(hs:rest.size<=1000000000)(hx:¬Bb rest<rest.size)(Ak:Ec rest=true)(Au:List.all (Array.toList (ByteArray.data rest)) M8=false)(AW:I8 (Array.toList (ByteArray.data rest))=true)(cx:Cx)(AH:cx.n=52){Q:A7->S->Prop}(hq:Q (.normal) (S.mk [(2,A2 0),(4,vS AI),(5,.v (.bool false))] [] xe)):PW prog cx (Am f96 0) (WK rest rest true xe) Q:=
 pw An 52 [bt true,cl (@Sh (rest) hs hx),cl (@HB (rest)),rp 2 (B1 (B3 Ak)),cl (@Nr (rest) hs),rp 2 (B1 (B3 Ak)),rp 2 (B7 (BH Au)),cl (@iT (rest) hs),B7 (BH Au),B1 (B3 Ak),B7 (BH Au),B1 (B3 Ak),B1 (B3 AW)] [2,4,5] [] AH hq
theorem A1x(hs:rest.size<=1000000000)(hx:¬Bb rest<rest.size)(Ak:Ec rest=true)(Au:List.all (Array.toList (ByteArray.data rest)) M8=true)(cx:Cx)(AH:cx.n=52){Q:A7->S->Prop}(hq:Q (.normal) (S.mk [(2,A2 0),(4,vS AI),(5,.v (.bool false))] [] xe)):PW prog cx (Am f96 0) (WK rest rest true xe) Q:=
 pw An 52 [bt true,cl (@Sh (rest) hs hx),cl (@HB (rest)),rp 2 (B1 (B3 Ak)),cl (@Nr (rest) hs),rp 2 (B1 (B3 Ak)),rp 3 (B1 (B3 Au)),B1 (B3 Ak),B1 (B3 Au),B1 (B3 Ak),bf false] [2,4,5] [] AH hq
end
def xX:Nat->BA->Bool
 | 0,_=>true
 | n+1,s=>if Bb s<s.size then FZ (s.extract 0 (Bb s))&&xX n (s.extract (Bb s+1) s.size) else FZ s
theorem TU(s:BA)(h:Bb s<s.size):(s.extract (Bb s+1) s.size).size<s.size:=by rw [ByteArray.size_extract]; omega
theorem Si:∀ (n m:Nat) (s:BA),s.size<n->s.size<m->xX n s=xX m s
 | 0,_,_,h,_=>by omega
 | _+1,0,_,_,h=>by omega
 | n+1,m+1,s,h,k=>by
  simp only [xX]
  by_cases hx:Bb s<s.size
  ·have:=TU s hx
   rw [iP hx,iP hx,Si n m _ oM oM]
  ·rw [iN hx,iN hx]
def Oq(s:BA):Bool:=xX (s.size+1) s
theorem ZM(s:BA):Oq s=if Bb s<s.size then FZ (s.extract 0 (Bb s))&&Oq (s.extract (Bb s+1) s.size) else FZ s:=by
 unfold Oq
 rw [xX]
 by_cases hx:Bb s<s.size
 ·have:=TU s hx
  rw [iP hx,iP hx,Si _ ((s.extract (Bb s+1) s.size).size+1) _ oM oM]
 ·rw [iN hx,iN hx]
def fB(xe:Ext)(b:Bool):A7 × S:=if b=true then (.exit 0,⟨[(2,.v (.int .i64 0))],[],xe⟩) else (.ret,⟨[(2,.v (.int .i64 3))],[],xe⟩)
def Ot(x:BA × Bool):Bool:=if x.2=true then Oq x.1 else true
theorem m8(xe:Ext)(rest:BA)(more:Bool)(hs:rest.size<=1000000000):(Ob.loop 52 (Am f96 0) (WK rest rest more xe) (fB xe (Ot (rest,more))).1 (fB xe (Ot (rest,more))).2).ok prog:=by
 refine Ob.G9 (P:=prog) (α:={ x:BA × Bool // x.1.size<=1000000000 }) (fun x=>WK x.1.1 x.1.1 x.1.2 xe) (fun x=>if x.1.2=true then x.1.1.size+1 else 0) (fun x=>fB xe (Ot x.1)) ?_ ⟨(rest,more),hs⟩
 clear hs more rest
 rintro ⟨⟨rest,more⟩,hs⟩ cx AH
 replace hs:rest.size<=1000000000:=hs
 have W1:∀ (r:BA) (b:Bool),Ol (⟨[(2,.v (.int .i64 3))],[],xe⟩:S) ⟨[(2,.v (.int .i64 3)),(4,.v (.str r)),(5,.v (.bool b))],[],xe⟩:=fun r b=>⟨⟨W,Ar⟩,trivial,rfl⟩
 cases more with
 | false=>
  have hr:fB xe (Ot (rest,false))=(.exit 0,⟨[(2,.v (.int .i64 0))],[],xe⟩):=rfl
  refine coZ rest xe cx AH (.inr ?_)
  simp only
  rw [hr]
  exact ⟨by simp,rfl,xr⟩
 | true=>
  have hm:Ot (rest,true)=Oq rest:=rfl
  by_cases hx:Bb rest<rest.size
  ·have Ad:=TU rest hx
   have hg:=ZM rest
   rw [iP hx] at hg
   have bad:FZ (rest.extract 0 (Bb rest))=false->fB xe (Ot (rest,true))=(.ret,⟨[(2,.v (.int .i64 3))],[],xe⟩):=fun h=>by rw [hm,hg,h]; rfl
   have ZN:FZ (rest.extract 0 (Bb rest))=true->fB xe (Ot (rest,true))=fB xe (Ot (rest.extract (Bb rest+1) rest.size,true)):=fun h=>by rw [hm,hg,h]; rfl
   cases h0:Ec (rest.extract 0 (Bb rest)) with
   | false=>
    refine A1q rest xe hs hx h0 cx AH (.inr ?_)
    simp only
    rw [bad (by simp [FZ,h0])]
    exact ⟨by simp,rfl,W1 _ _⟩
   | true=>
    cases h1:(rest.extract 0 (Bb rest)).data.toList.all M8 with
    | true=>exact A1t rest xe hs hx h0 h1 cx AH (.inl ⟨rfl,⟨(rest.extract (Bb rest+1) rest.size,true),by simp only; omega⟩,by simp only [if_true]; omega,⟨⟨W,W,W,Ar⟩,trivial,rfl⟩,(ZN (by simp only [FZ,h0,h1]; rfl)).symm⟩)
    | false=>
     cases h2:I8 (rest.extract 0 (Bb rest)).data.toList with
     | true=>exact A1s rest xe hs hx h0 h1 h2 cx AH (.inl ⟨rfl,⟨(rest.extract (Bb rest+1) rest.size,true),by simp only; omega⟩,by simp only [if_true]; omega,⟨⟨W,W,W,Ar⟩,trivial,rfl⟩,(ZN (by simp only [FZ,h0,h1,h2]; rfl)).symm⟩)
     | false=>
      refine A1r rest xe hs hx h0 h1 h2 cx AH (.inr ?_)
      simp only
      rw [bad (by simp only [FZ,h0,h1,h2]; rfl)]
      exact ⟨by simp,rfl,W1 _ _⟩
  ·have hg:=ZM rest
   rw [iN hx] at hg
   have bad:FZ rest=false->fB xe (Ot (rest,true))=(.ret,⟨[(2,.v (.int .i64 3))],[],xe⟩):=fun h=>by rw [hm,hg,h]; rfl
   have ZN:FZ rest=true->fB xe (Ot (rest,true))=fB xe (Ot (AI,false)):=fun h=>by rw [hm,hg,h]; rfl
   cases h0:Ec rest with
   | false=>
    refine A1u rest xe hs hx h0 cx AH (.inr ?_)
    simp only
    rw [bad (by simp [FZ,h0])]
    exact ⟨by simp,rfl,W1 _ _⟩
   | true=>
    cases h1:rest.data.toList.all M8 with
    | true=>exact A1x rest xe hs hx h0 h1 cx AH (.inl ⟨rfl,⟨(AI,false),by decide⟩,by simp,⟨⟨W,W,W,Ar⟩,trivial,rfl⟩,(ZN (by simp only [FZ,h0,h1]; rfl)).symm⟩)
    | false=>
     cases h2:I8 rest.data.toList with
     | true=>exact A1w rest xe hs hx h0 h1 h2 cx AH (.inl ⟨rfl,⟨(AI,false),by decide⟩,by simp,⟨⟨W,W,W,Ar⟩,trivial,rfl⟩,(ZN (by simp only [FZ,h0,h1,h2]; rfl)).symm⟩)
     | false=>
      refine A1v rest xe hs hx h0 h1 h2 cx AH (.inr ?_)
      simp only
      rw [bad (by simp only [FZ,h0,h1,h2]; rfl)]
      exact ⟨by simp,rfl,W1 _ _⟩
theorem ZO(xe:Ext)(rest:BA)(more:Bool)(hs:rest.size<=1000000000)(hb:Ot (rest,more)=true):(Ob.loop 52 (Am f96 0) (WK rest rest more xe) (.exit 0) ⟨[(2,.v (.int .i64 0))],[],xe⟩).ok prog:=by
 have:=m8 xe rest more hs
 rw [hb] at this
 exact this
theorem sI(xe:Ext)(rest:BA)(more:Bool)(hs:rest.size<=1000000000)(hb:Ot (rest,more)=false):(Ob.loop 52 (Am f96 0) (WK rest rest more xe) .ret ⟨[(2,.v (.int .i64 3))],[],xe⟩).ok prog:=by
 have:=m8 xe rest more hs
 rw [hb] at this
 exact this
theorem Pe{s:BA}{a b:Nat}(h:(s.size:Int)<=120):(s.extract a b).size<=1000000000:=by rw [ByteArray.size_extract]; omega
theorem A1y{s:BA}(h:(s.size:Int)<=120):s.size<=1000000000:=by omega
abbrev tV:BA:=⟨#[118]⟩
section
variable (s:BA)
include s
theorem A85(hl:(s.size:Int)>120):Pu 96 [.str s] (rI 3):=
 pm An [kp,dt ((↑(ByteArray.size s):Int)>120) hl] func96
theorem sJ(hl:(s.size:Int)<=120)(hx:Bb s<s.size)(Ak:Ac (ByteArray.extract s 0 (Bb s))=false)(Au:AL (ByteArray.extract s 0 (Bb s))=false)(AW:¬ByteArray.extract s 0 (Bb s)=ByteArray.mk #[118]):Pu 96 [.str s] (rI 3):=
 pm An [kp,df ((↑(ByteArray.size s):Int)>120),cl (@Nx (s) oM hx),cl (@M9 (ByteArray.extract s 0 (Bb s))),rp 2 (B7 (BH Ak)),cl (@Qz (ByteArray.extract s 0 (Bb s))),rp 2 (B7 (BH Ak)),rp 3 (B7 (BH Au)),rp 2 (bt (!ByteArray.toList (ByteArray.extract s 0 (Bb s))==ByteArray.toList (bM 118)) (BH (HT AW))),B7 (BH Au),bt (!ByteArray.toList (ByteArray.extract s 0 (Bb s))==ByteArray.toList (bM 118)) (BH (HT AW)),B7 (BH Au),bt true] func96
theorem sK(hl:(s.size:Int)<=120)(hx:Bb s<s.size)(Ak:Ac (ByteArray.extract s 0 (Bb s))=false)(Au:AL (ByteArray.extract s 0 (Bb s))=false)(AW:ByteArray.extract s 0 (Bb s)=ByteArray.mk #[118])(Bt:Ot (ByteArray.extract s (Bb s+1) (ByteArray.size s),true)=true):Pu 96 [.str s] (rI 0):=
 pu An (fun e=>[kp,df ((↑(ByteArray.size s):Int)>120),cl (@Nx (s) oM hx),cl (@M9 (ByteArray.extract s 0 (Bb s))),rp 2 (B7 (BH Ak)),cl (@Qz (ByteArray.extract s 0 (Bb s))),rp 2 (B7 (BH Ak)),rp 3 (B7 (BH Au)),rp 2 (bf (!ByteArray.toList (ByteArray.extract s 0 (Bb s))==ByteArray.toList (bM 118)) (B3 (DZ AW))),B7 (BH Au),bf (!ByteArray.toList (ByteArray.extract s 0 (Bb s))==ByteArray.toList (bM 118)) (B3 (DZ AW)),B7 (BH Au),bf false,lp (S.mk [(0,vS s),(2,A2 0),(7,vS s),(8,A2 (↑(ByteArray.size s):Int)),(9,.v (.bool (decide ((↑(ByteArray.size s):Int)>120)))),(11,vS s),(12,.v (.B6 [.str (ByteArray.extract s 0 (Bb s)),.str (ByteArray.extract s (Bb s+1) (ByteArray.size s)),.bool true])),(10,.v (.B6 [.str (ByteArray.extract s 0 (Bb s)),.str (ByteArray.extract s (Bb s+1) (ByteArray.size s)),.bool true])),(13,vS (ByteArray.extract s 0 (Bb s))),(14,vS (ByteArray.extract s (Bb s+1) (ByteArray.size s))),(15,.v (.bool true)),(3,vS (ByteArray.extract s 0 (Bb s))),(4,vS (ByteArray.extract s (Bb s+1) (ByteArray.size s))),(5,.v (.bool true)),(16,vS (ByteArray.extract s 0 (Bb s))),(17,.v (.bool (Ac (ByteArray.extract s 0 (Bb s))))),(18,.v (.bool !Ac (ByteArray.extract s 0 (Bb s)))),(19,.v (.bool !Ac (ByteArray.extract s 0 (Bb s)))),(20,vS (ByteArray.extract s 0 (Bb s))),(21,.v (.bool (AL (ByteArray.extract s 0 (Bb s))))),(22,.v (.bool !AL (ByteArray.extract s 0 (Bb s)))),(23,.v (.bool !AL (ByteArray.extract s 0 (Bb s)))),(24,.v (.bool !AL (ByteArray.extract s 0 (Bb s)))),(25,vS (ByteArray.extract s 0 (Bb s))),(26,.v (.bool !ByteArray.toList (ByteArray.extract s 0 (Bb s))==ByteArray.toList (bM 118))),(27,.v (.bool !ByteArray.toList (ByteArray.extract s 0 (Bb s))==ByteArray.toList (bM 118))),(28,.v (.bool true)),(29,.v (.bool false)),(30,.v (.bool false)),(31,.v (.bool false))] [] e) (@ZO (e) (ByteArray.extract s (Bb s+1) (ByteArray.size s)) (true) (by (apply Pe <;> first | assumption | omega | decide)) Bt) xr]) func96
theorem sL(hl:(s.size:Int)<=120)(hx:Bb s<s.size)(Ak:Ac (ByteArray.extract s 0 (Bb s))=false)(Au:AL (ByteArray.extract s 0 (Bb s))=false)(AW:ByteArray.extract s 0 (Bb s)=ByteArray.mk #[118])(Bt:Ot (ByteArray.extract s (Bb s+1) (ByteArray.size s),true)=false):Pu 96 [.str s] (rI 3):=
 pu An (fun e=>[kp,df ((↑(ByteArray.size s):Int)>120),cl (@Nx (s) oM hx),cl (@M9 (ByteArray.extract s 0 (Bb s))),rp 2 (B7 (BH Ak)),cl (@Qz (ByteArray.extract s 0 (Bb s))),rp 2 (B7 (BH Ak)),rp 3 (B7 (BH Au)),rp 2 (bf (!ByteArray.toList (ByteArray.extract s 0 (Bb s))==ByteArray.toList (bM 118)) (B3 (DZ AW))),B7 (BH Au),bf (!ByteArray.toList (ByteArray.extract s 0 (Bb s))==ByteArray.toList (bM 118)) (B3 (DZ AW)),B7 (BH Au),bf false,lp (S.mk [(0,vS s),(2,A2 0),(7,vS s),(8,A2 (↑(ByteArray.size s):Int)),(9,.v (.bool (decide ((↑(ByteArray.size s):Int)>120)))),(11,vS s),(12,.v (.B6 [.str (ByteArray.extract s 0 (Bb s)),.str (ByteArray.extract s (Bb s+1) (ByteArray.size s)),.bool true])),(10,.v (.B6 [.str (ByteArray.extract s 0 (Bb s)),.str (ByteArray.extract s (Bb s+1) (ByteArray.size s)),.bool true])),(13,vS (ByteArray.extract s 0 (Bb s))),(14,vS (ByteArray.extract s (Bb s+1) (ByteArray.size s))),(15,.v (.bool true)),(3,vS (ByteArray.extract s 0 (Bb s))),(4,vS (ByteArray.extract s (Bb s+1) (ByteArray.size s))),(5,.v (.bool true)),(16,vS (ByteArray.extract s 0 (Bb s))),(17,.v (.bool (Ac (ByteArray.extract s 0 (Bb s))))),(18,.v (.bool !Ac (ByteArray.extract s 0 (Bb s)))),(19,.v (.bool !Ac (ByteArray.extract s 0 (Bb s)))),(20,vS (ByteArray.extract s 0 (Bb s))),(21,.v (.bool (AL (ByteArray.extract s 0 (Bb s))))),(22,.v (.bool !AL (ByteArray.extract s 0 (Bb s)))),(23,.v (.bool !AL (ByteArray.extract s 0 (Bb s)))),(24,.v (.bool !AL (ByteArray.extract s 0 (Bb s)))),(25,vS (ByteArray.extract s 0 (Bb s))),(26,.v (.bool !ByteArray.toList (ByteArray.extract s 0 (Bb s))==ByteArray.toList (bM 118))),(27,.v (.bool !ByteArray.toList (ByteArray.extract s 0 (Bb s))==ByteArray.toList (bM 118))),(28,.v (.bool true)),(29,.v (.bool false)),(30,.v (.bool false)),(31,.v (.bool false))] [] e) (@sI (e) (ByteArray.extract s (Bb s+1) (ByteArray.size s)) (true) (by (apply Pe <;> first | assumption | omega | decide)) Bt) xr]) func96
theorem sN(hl:(s.size:Int)<=120)(hx:Bb s<s.size)(Ak:Ac (ByteArray.extract s 0 (Bb s))=false)(Au:AL (ByteArray.extract s 0 (Bb s))=true)(AW:Ot (ByteArray.extract s (Bb s+1) (ByteArray.size s),true)=true):Pu 96 [.str s] (rI 0):=
 pu An (fun e=>[kp,df ((↑(ByteArray.size s):Int)>120),cl (@Nx (s) oM hx),cl (@M9 (ByteArray.extract s 0 (Bb s))),rp 2 (B7 (BH Ak)),cl (@Qz (ByteArray.extract s 0 (Bb s))),rp 2 (B7 (BH Ak)),rp 5 (B1 (B3 Au)),bf false,lp (S.mk [(0,vS s),(2,A2 0),(7,vS s),(8,A2 (↑(ByteArray.size s):Int)),(9,.v (.bool (decide ((↑(ByteArray.size s):Int)>120)))),(11,vS s),(12,.v (.B6 [.str (ByteArray.extract s 0 (Bb s)),.str (ByteArray.extract s (Bb s+1) (ByteArray.size s)),.bool true])),(10,.v (.B6 [.str (ByteArray.extract s 0 (Bb s)),.str (ByteArray.extract s (Bb s+1) (ByteArray.size s)),.bool true])),(13,vS (ByteArray.extract s 0 (Bb s))),(14,vS (ByteArray.extract s (Bb s+1) (ByteArray.size s))),(15,.v (.bool true)),(3,vS (ByteArray.extract s 0 (Bb s))),(4,vS (ByteArray.extract s (Bb s+1) (ByteArray.size s))),(5,.v (.bool true)),(16,vS (ByteArray.extract s 0 (Bb s))),(17,.v (.bool (Ac (ByteArray.extract s 0 (Bb s))))),(18,.v (.bool !Ac (ByteArray.extract s 0 (Bb s)))),(19,.v (.bool !Ac (ByteArray.extract s 0 (Bb s)))),(20,vS (ByteArray.extract s 0 (Bb s))),(21,.v (.bool (AL (ByteArray.extract s 0 (Bb s))))),(22,.v (.bool !AL (ByteArray.extract s 0 (Bb s)))),(23,.v (.bool !AL (ByteArray.extract s 0 (Bb s)))),(24,.v (.bool !AL (ByteArray.extract s 0 (Bb s)))),(25,.v (.B6 [])),(26,.v (.B6 [])),(27,.v (.B6 [])),(28,.v (.B6 [])),(29,.v (.B6 [])),(30,.v (.B6 [])),(31,.v (.bool false))] [] e) (@ZO (e) (ByteArray.extract s (Bb s+1) (ByteArray.size s)) (true) (by (apply Pe <;> first | assumption | omega | decide)) AW) xr]) func96
theorem sO(hl:(s.size:Int)<=120)(hx:Bb s<s.size)(Ak:Ac (ByteArray.extract s 0 (Bb s))=false)(Au:AL (ByteArray.extract s 0 (Bb s))=true)(AW:Ot (ByteArray.extract s (Bb s+1) (ByteArray.size s),true)=false):Pu 96 [.str s] (rI 3):=
 pu An (fun e=>[kp,df ((↑(ByteArray.size s):Int)>120),cl (@Nx (s) oM hx),cl (@M9 (ByteArray.extract s 0 (Bb s))),rp 2 (B7 (BH Ak)),cl (@Qz (ByteArray.extract s 0 (Bb s))),rp 2 (B7 (BH Ak)),rp 5 (B1 (B3 Au)),bf false,lp (S.mk [(0,vS s),(2,A2 0),(7,vS s),(8,A2 (↑(ByteArray.size s):Int)),(9,.v (.bool (decide ((↑(ByteArray.size s):Int)>120)))),(11,vS s),(12,.v (.B6 [.str (ByteArray.extract s 0 (Bb s)),.str (ByteArray.extract s (Bb s+1) (ByteArray.size s)),.bool true])),(10,.v (.B6 [.str (ByteArray.extract s 0 (Bb s)),.str (ByteArray.extract s (Bb s+1) (ByteArray.size s)),.bool true])),(13,vS (ByteArray.extract s 0 (Bb s))),(14,vS (ByteArray.extract s (Bb s+1) (ByteArray.size s))),(15,.v (.bool true)),(3,vS (ByteArray.extract s 0 (Bb s))),(4,vS (ByteArray.extract s (Bb s+1) (ByteArray.size s))),(5,.v (.bool true)),(16,vS (ByteArray.extract s 0 (Bb s))),(17,.v (.bool (Ac (ByteArray.extract s 0 (Bb s))))),(18,.v (.bool !Ac (ByteArray.extract s 0 (Bb s)))),(19,.v (.bool !Ac (ByteArray.extract s 0 (Bb s)))),(20,vS (ByteArray.extract s 0 (Bb s))),(21,.v (.bool (AL (ByteArray.extract s 0 (Bb s))))),(22,.v (.bool !AL (ByteArray.extract s 0 (Bb s)))),(23,.v (.bool !AL (ByteArray.extract s 0 (Bb s)))),(24,.v (.bool !AL (ByteArray.extract s 0 (Bb s)))),(25,.v (.B6 [])),(26,.v (.B6 [])),(27,.v (.B6 [])),(28,.v (.B6 [])),(29,.v (.B6 [])),(30,.v (.B6 [])),(31,.v (.bool false))] [] e) (@sI (e) (ByteArray.extract s (Bb s+1) (ByteArray.size s)) (true) (by (apply Pe <;> first | assumption | omega | decide)) AW) xr]) func96
theorem sP(hl:(s.size:Int)<=120)(hx:Bb s<s.size)(Ak:Ac (ByteArray.extract s 0 (Bb s))=true)(Au:Ot (ByteArray.extract s (Bb s+1) (ByteArray.size s),true)=true):Pu 96 [.str s] (rI 0):=
 pu An (fun e=>[kp,df ((↑(ByteArray.size s):Int)>120),cl (@Nx (s) oM hx),cl (@M9 (ByteArray.extract s 0 (Bb s))),rp 4 (B1 (B3 Ak)),rp 6 (bf false),lp (S.mk [(0,vS s),(2,A2 0),(7,vS s),(8,A2 (↑(ByteArray.size s):Int)),(9,.v (.bool (decide ((↑(ByteArray.size s):Int)>120)))),(11,vS s),(12,.v (.B6 [.str (ByteArray.extract s 0 (Bb s)),.str (ByteArray.extract s (Bb s+1) (ByteArray.size s)),.bool true])),(10,.v (.B6 [.str (ByteArray.extract s 0 (Bb s)),.str (ByteArray.extract s (Bb s+1) (ByteArray.size s)),.bool true])),(13,vS (ByteArray.extract s 0 (Bb s))),(14,vS (ByteArray.extract s (Bb s+1) (ByteArray.size s))),(15,.v (.bool true)),(3,vS (ByteArray.extract s 0 (Bb s))),(4,vS (ByteArray.extract s (Bb s+1) (ByteArray.size s))),(5,.v (.bool true)),(16,vS (ByteArray.extract s 0 (Bb s))),(17,.v (.bool (Ac (ByteArray.extract s 0 (Bb s))))),(18,.v (.bool !Ac (ByteArray.extract s 0 (Bb s)))),(19,.v (.bool !Ac (ByteArray.extract s 0 (Bb s)))),(20,.v (.B6 [])),(21,.v (.B6 [])),(22,.v (.B6 [])),(23,.v (.bool false)),(24,.v (.bool false)),(25,.v (.B6 [])),(26,.v (.B6 [])),(27,.v (.B6 [])),(28,.v (.B6 [])),(29,.v (.B6 [])),(30,.v (.B6 [])),(31,.v (.bool false))] [] e) (@ZO (e) (ByteArray.extract s (Bb s+1) (ByteArray.size s)) (true) (by (apply Pe <;> first | assumption | omega | decide)) Au) xr]) func96
theorem sQ(hl:(s.size:Int)<=120)(hx:Bb s<s.size)(Ak:Ac (ByteArray.extract s 0 (Bb s))=true)(Au:Ot (ByteArray.extract s (Bb s+1) (ByteArray.size s),true)=false):Pu 96 [.str s] (rI 3):=
 pu An (fun e=>[kp,df ((↑(ByteArray.size s):Int)>120),cl (@Nx (s) oM hx),cl (@M9 (ByteArray.extract s 0 (Bb s))),rp 4 (B1 (B3 Ak)),rp 6 (bf false),lp (S.mk [(0,vS s),(2,A2 0),(7,vS s),(8,A2 (↑(ByteArray.size s):Int)),(9,.v (.bool (decide ((↑(ByteArray.size s):Int)>120)))),(11,vS s),(12,.v (.B6 [.str (ByteArray.extract s 0 (Bb s)),.str (ByteArray.extract s (Bb s+1) (ByteArray.size s)),.bool true])),(10,.v (.B6 [.str (ByteArray.extract s 0 (Bb s)),.str (ByteArray.extract s (Bb s+1) (ByteArray.size s)),.bool true])),(13,vS (ByteArray.extract s 0 (Bb s))),(14,vS (ByteArray.extract s (Bb s+1) (ByteArray.size s))),(15,.v (.bool true)),(3,vS (ByteArray.extract s 0 (Bb s))),(4,vS (ByteArray.extract s (Bb s+1) (ByteArray.size s))),(5,.v (.bool true)),(16,vS (ByteArray.extract s 0 (Bb s))),(17,.v (.bool (Ac (ByteArray.extract s 0 (Bb s))))),(18,.v (.bool !Ac (ByteArray.extract s 0 (Bb s)))),(19,.v (.bool !Ac (ByteArray.extract s 0 (Bb s)))),(20,.v (.B6 [])),(21,.v (.B6 [])),(22,.v (.B6 [])),(23,.v (.bool false)),(24,.v (.bool false)),(25,.v (.B6 [])),(26,.v (.B6 [])),(27,.v (.B6 [])),(28,.v (.B6 [])),(29,.v (.B6 [])),(30,.v (.B6 [])),(31,.v (.bool false))] [] e) (@sI (e) (ByteArray.extract s (Bb s+1) (ByteArray.size s)) (true) (by (apply Pe <;> first | assumption | omega | decide)) Au) xr]) func96
theorem sR(hl:(s.size:Int)<=120)(hx:¬Bb s<s.size)(Ak:Ac s=false)(Au:AL s=false)(AW:¬s=ByteArray.mk #[118]):Pu 96 [.str s] (rI 3):=
 pm An [kp,df ((↑(ByteArray.size s):Int)>120),cl (@Sh (s) oM hx),cl (@M9 (s)),rp 2 (B7 (BH Ak)),cl (@Qz (s)),rp 2 (B7 (BH Ak)),rp 3 (B7 (BH Au)),rp 2 (bt (!ByteArray.toList s==ByteArray.toList (bM 118)) (BH (HT AW))),B7 (BH Au),bt (!ByteArray.toList s==ByteArray.toList (bM 118)) (BH (HT AW)),B7 (BH Au),bt true] func96
theorem sS(hl:(s.size:Int)<=120)(hx:¬Bb s<s.size)(Ak:Ac s=false)(Au:AL s=false)(AW:s=ByteArray.mk #[118]):Pu 96 [.str s] (rI 3):=
 pm An [kp,df ((↑(ByteArray.size s):Int)>120),cl (@Sh (s) oM hx),cl (@M9 (s)),rp 2 (B7 (BH Ak)),cl (@Qz (s)),rp 2 (B7 (BH Ak)),rp 3 (B7 (BH Au)),rp 2 (bf (!ByteArray.toList s==ByteArray.toList (bM 118)) (B3 (DZ AW))),B7 (BH Au),bf (!ByteArray.toList s==ByteArray.toList (bM 118)) (B3 (DZ AW)),B7 (BH Au),bt true] func96
theorem sU(hl:(s.size:Int)<=120)(hx:¬Bb s<s.size)(Ak:Ac s=false)(Au:AL s=true):Pu 96 [.str s] (rI 0):=
 pu An (fun e=>[kp,df ((↑(ByteArray.size s):Int)>120),cl (@Sh (s) oM hx),cl (@M9 (s)),rp 2 (B7 (BH Ak)),cl (@Qz (s)),rp 2 (B7 (BH Ak)),rp 5 (B1 (B3 Au)),bf false,lp (S.mk [(0,vS s),(2,A2 0),(7,vS s),(8,A2 (↑(ByteArray.size s):Int)),(9,.v (.bool (decide ((↑(ByteArray.size s):Int)>120)))),(11,vS s),(12,.v (.B6 [.str s,.str AI,.bool false])),(10,.v (.B6 [.str s,.str AI,.bool false])),(13,vS s),(14,vS AI),(15,.v (.bool false)),(3,vS s),(4,vS AI),(5,.v (.bool false)),(16,vS s),(17,.v (.bool (Ac s))),(18,.v (.bool !Ac s)),(19,.v (.bool !Ac s)),(20,vS s),(21,.v (.bool (AL s))),(22,.v (.bool !AL s)),(23,.v (.bool !AL s)),(24,.v (.bool !AL s)),(25,.v (.B6 [])),(26,.v (.B6 [])),(27,.v (.B6 [])),(28,.v (.B6 [])),(29,.v (.B6 [])),(30,.v (.B6 [])),(31,.v (.bool false))] [] e) (@ZO (e) (AI) (false) (by (apply A1y <;> first | assumption | omega | decide)) rF) xr]) func96
theorem sV(hl:(s.size:Int)<=120)(hx:¬Bb s<s.size)(Ak:Ac s=true):Pu 96 [.str s] (rI 0):=
 pu An (fun e=>[kp,df ((↑(ByteArray.size s):Int)>120),cl (@Sh (s) oM hx),cl (@M9 (s)),rp 4 (B1 (B3 Ak)),rp 6 (bf false),lp (S.mk [(0,vS s),(2,A2 0),(7,vS s),(8,A2 (↑(ByteArray.size s):Int)),(9,.v (.bool (decide ((↑(ByteArray.size s):Int)>120)))),(11,vS s),(12,.v (.B6 [.str s,.str AI,.bool false])),(10,.v (.B6 [.str s,.str AI,.bool false])),(13,vS s),(14,vS AI),(15,.v (.bool false)),(3,vS s),(4,vS AI),(5,.v (.bool false)),(16,vS s),(17,.v (.bool (Ac s))),(18,.v (.bool !Ac s)),(19,.v (.bool !Ac s)),(20,.v (.B6 [])),(21,.v (.B6 [])),(22,.v (.B6 [])),(23,.v (.bool false)),(24,.v (.bool false)),(25,.v (.B6 [])),(26,.v (.B6 [])),(27,.v (.B6 [])),(28,.v (.B6 [])),(29,.v (.B6 [])),(30,.v (.B6 [])),(31,.v (.bool false))] [] e) (@ZO (e) (AI) (false) (by (apply A1y <;> first | assumption | omega | decide)) rF) xr]) func96
end
abbrev m9(l:List Pr)(mx:Int)(pf:List Pr->Int->Int)(j:Int)(n:Int)(e:Ext):S:=S.mk [(0,vL 4 (Pr.cs l)),(1,A2 mx),(4,A2 0),(5,A2 n),(6,A2 j)] [] e
def Kx(mx:Int)(pf:List Pr->Int->Int):List Pr->(Int)->(Int)
 | [],n=>(n)
 | el::r,n=>(if n<=mx then Kx mx pf r (IntKind.wrap .i64 (IntKind.wrap .i64 (IntKind.wrap .i64 (n+1)+IntKind.wrap .i64 (Int.tdiv (↑(ByteArray.size (AR el)):Int) 100))+pf (Bg el) (IntKind.wrap .i64 (mx - IntKind.wrap .i64 (IntKind.wrap .i64 (n+1)+IntKind.wrap .i64 (Int.tdiv (↑(ByteArray.size (AR el)):Int) 100)))))) else (n))
def ZP(l:List Pr)(mx:Int)(pf:List Pr->Int->Int)(e:Ext)(p:(Int)):A7 × S:=(.exit 0,S.mk [(0,vL 4 (Pr.cs l)),(1,A2 mx),(4,A2 0),(5,A2 p)] [] e)
theorem cp0(l:List Pr)(mx:Int)(pf:List Pr->Int->Int)(BY:∀ (w:Pr) (k:Int),w∈l->Pu 24 [.sl 4 (Pr.cs (Bg w)),.int .i64 k] (.ret (.int .i64 (pf (Bg w) k))))(n:Int)(e:Ext)(hN:l.length<=1000000000)  : (Ob.loop 40 (Am f24 0) (m9 l mx pf 0 n e) (ZP l mx pf e (Kx mx pf (l)  n)).1 (ZP l mx pf e (Kx mx pf (l)  n)).2).ok prog:=by
 refine Ek l.length (fun j n=>m9 l mx pf j n e) (fun i n=>Kx mx pf (List.drop i (l))  n) (ZP l mx pf e) (fun i n=>True) kR ?_ n trivial
 rintro i n hi -
 rcases Nat.lt_or_ge i (l.length) with Ad | Dm
 ·have hd:=AN Ad
  by_cases h0:n<=mx
  ·exact lN An [sl (Pr.A0 l),rp 4 (dt ((i:Int)<(l.length:Int))),E9 h0,kp,am ((0:Int)<=(i:Int)/\(i:Int)<((Pr.cs l).length:Int)) (by (simp only [Pr.A0]; omega)),xPr l i Ad,rp 3 (kp),ab true,am ((0:Int)<=(i:Int)/\(i:Int)<((Pr.cs l).length:Int)) (by (simp only [Pr.A0]; omega)),xPr l i Ad,kp,cl (@BY (List.getD l i default) (IntKind.wrap .i64 (mx - IntKind.wrap .i64 (IntKind.wrap .i64 (n+1)+IntKind.wrap .i64 (Int.tdiv (↑(ByteArray.size (AR (List.getD l i default))):Int) 100)))) (by simp_all [List.length_map,List.length_append,List.length_cons,List.length_nil,A3,Pr.A0,Tp.A0,Pm.A0,Ex.A0,Al.A0,Vr.A0,Cn.A0,Da.A0,Cl.A0,Bo.A0,Df.A0,In.A0,Cs.A0,Ms.A0,Qu.A0,Int.toNat_natCast])),kp,wr ((i:Int)+1)] Ad (IntKind.wrap .i64 (IntKind.wrap .i64 (IntKind.wrap .i64 (n+1)+IntKind.wrap .i64 (Int.tdiv (↑(ByteArray.size (AR (List.getD l i default))):Int) 100))+pf (Bg (List.getD l i default)) (IntKind.wrap .i64 (mx - IntKind.wrap .i64 (IntKind.wrap .i64 (n+1)+IntKind.wrap .i64 (Int.tdiv (↑(ByteArray.size (AR (List.getD l i default))):Int) 100)))))) trivial (by rw [hd,Kx,iP h0])
  ·exact lX An [sl (Pr.A0 l),rp 4 (dt ((i:Int)<(l.length:Int))),Br h0] (n) (by rw [hd,Kx,iN h0])
 ·have he:i=l.length:=by omega
  exact lX An [sl (Pr.A0 l),rp 4 (df ((i:Int)<(l.length:Int))),bf false] (n) (by rw [he,List.drop_length,Kx])
theorem cpL(l:List Pr)(mx:Int)(pf:List Pr->Int->Int)(BY:∀ (w:Pr) (k:Int),w∈l->Pu 24 [.sl 4 (Pr.cs (Bg w)),.int .i64 k] (.ret (.int .i64 (pf (Bg w) k))))(hN:l.length<=1000000000):Pu 24 [.sl 4 (Pr.cs l),pI mx] (rI (Kx mx pf l 0)):=
 pu An (fun e=>[lq (@cp0 (l) (mx) (pf) BY (0) (e) hN)]) func24
def cpD:Nat->List Pr->Int->Int
 | 0,_,_=>0
 | d+1,l,mx=>Kx mx (cpD d) l 0
theorem Sj(x:Pr):Af (Pr.cs (Bg x))<A5 (CI x):=by simp only [A5,Dq]; omega
theorem mA:∀ (d:Nat) (l:List Pr) (mx:Int),Af (Pr.cs l)<d->Af (Pr.cs l)<=100000000->Pu 24 [.sl 4 (Pr.cs l),.int .i64 mx] (.ret (.int .i64 (cpD d l mx)))
 | 0,_,_,h,_=>by omega
 | d+1,l,mx,h,hs=>cpL l mx (cpD d) (fun w k hw=>mA d (Bg w) k (by have:=Sj w; have:=Pr.mem hw; omega) (by have:=Sj w; have:=Pr.mem hw; omega)) (by have:=Pr.BF l; omega)
def GN(l:List Pr)(mx:Int):Int:=cpD (Af (Pr.cs l)+1) l mx
theorem cpT(l:List Pr)(mx:Int)(hs:Af (Pr.cs l)<=100000000):Pu 24 [.sl 4 (Pr.cs l),.int .i64 mx] (.ret (.int .i64 (GN l mx))):=mA _ l mx oM hs
theorem iW(x:Pr)(mx:Int)(hs:A5 (CI x)<=100000000):Pu 24 [.sl 4 [CI x],.int .i64 mx] (.ret (.int .i64 (GN [x] mx))):=by
 have e:Pr.cs [x]=[CI x]:=by simp [Pr.Ay]
 have:=cpT [x] mx (by rw [e]; simpa [Af] using hs)
 rwa [e] at this
theorem A86(x y:Pr)(mx:Int)(hs:A5 (CI x)+A5 (CI y)<=100000000):Pu 24 [.sl 4 [CI x,CI y],.int .i64 mx] (.ret (.int .i64 (GN [x,y] mx))):=by
 have e:Pr.cs [x,y]=[CI x,CI y]:=by simp [Pr.Ay]
 have:=cpT [x,y] mx (by rw [e]; simpa only [Af,Nat.add_zero,Nat.add_assoc] using hs)
 rwa [e] at this
abbrev mB(l:List Tp)(mx:Int)(pf:List Pr->Int->Int)(tf:List Tp->Int->Int)(j:Int)(n:Int)(e:Ext):S:=S.mk [(0,vL 9 (Tp.cs l)),(1,A2 mx),(4,A2 0),(5,A2 n),(6,A2 j)] [] e
def Ky(mx:Int)(pf:List Pr->Int->Int)(tf:List Tp->Int->Int):List Tp->(Int)->(Int)
 | [],n=>(n)
 | el::r,n=>(if n<=mx then Ky mx pf tf r (IntKind.wrap .i64 (IntKind.wrap .i64 (IntKind.wrap .i64 (IntKind.wrap .i64 (IntKind.wrap .i64 (IntKind.wrap .i64 (n+1)+IntKind.wrap .i64 (Int.tdiv (↑(ByteArray.size (AK el)):Int) 100))+((C2 el).length:Int))+pf (DX el) mx)+pf [DU el] mx)+tf (AP el) (IntKind.wrap .i64 (mx - IntKind.wrap .i64 (IntKind.wrap .i64 (IntKind.wrap .i64 (IntKind.wrap .i64 (IntKind.wrap .i64 (n+1)+IntKind.wrap .i64 (Int.tdiv (↑(ByteArray.size (AK el)):Int) 100))+((C2 el).length:Int))+pf (DX el) mx)+pf [DU el] mx))))) else (n))
def ZQ(l:List Tp)(mx:Int)(pf:List Pr->Int->Int)(tf:List Tp->Int->Int)(e:Ext)(p:(Int)):A7 × S:=(.exit 0,S.mk [(0,vL 9 (Tp.cs l)),(1,A2 mx),(4,A2 0),(5,A2 p)] [] e)
theorem ct0(l:List Tp)(mx:Int)(pf:List Pr->Int->Int)(tf:List Tp->Int->Int)(hp:∀ (w:Tp) (k:Int),w∈l->Pu 24 [.sl 4 (Pr.cs (DX w)),.int .i64 k] (.ret (.int .i64 (pf (DX w) k))))(xL:∀ (w:Tp) (k:Int),w∈l->Pu 24 [.sl 4 [CI (DU w)],.int .i64 k] (.ret (.int .i64 (pf [DU w] k))))(ht:∀ (w:Tp) (k:Int),w∈l->Pu 23 [.sl 9 (Tp.cs (AP w)),.int .i64 k] (.ret (.int .i64 (tf (AP w) k))))(n:Int)(e:Ext)(hN:l.length<=1000000000)  : (Ob.loop 64 (Am f23 0) (mB l mx pf tf 0 n e) (ZQ l mx pf tf e (Ky mx pf tf (l)  n)).1 (ZQ l mx pf tf e (Ky mx pf tf (l)  n)).2).ok prog:=by
 refine Ek l.length (fun j n=>mB l mx pf tf j n e) (fun i n=>Ky mx pf tf (List.drop i (l))  n) (ZQ l mx pf tf e) (fun i n=>True) kR ?_ n trivial
 rintro i n hi -
 rcases Nat.lt_or_ge i (l.length) with Ad | Dm
 ·have hd:=AN Ad
  by_cases h0:n<=mx
  ·exact lN An [sl (Tp.A0 l),rp 4 (dt ((i:Int)<(l.length:Int))),E9 h0,kp,am ((0:Int)<=(i:Int)/\(i:Int)<((Tp.cs l).length:Int)) (by (simp only [Tp.A0]; omega)),xTp l i Ad,rp 3 (kp),ab true,am ((0:Int)<=(i:Int)/\(i:Int)<((Tp.cs l).length:Int)) (by (simp only [Tp.A0]; omega)),xTp l i Ad,sl (A3 (C2 (List.getD l i default))),kp,am ((0:Int)<=(i:Int)/\(i:Int)<((Tp.cs l).length:Int)) (by (simp only [Tp.A0]; omega)),xTp l i Ad,cl (@hp (List.getD l i default) (mx) (by simp_all [List.length_map,List.length_append,List.length_cons,List.length_nil,A3,Pr.A0,Tp.A0,Pm.A0,Ex.A0,Al.A0,Vr.A0,Cn.A0,Da.A0,Cl.A0,Bo.A0,Df.A0,In.A0,Cs.A0,Ms.A0,Qu.A0,Int.toNat_natCast])),kp,am ((0:Int)<=(i:Int)/\(i:Int)<((Tp.cs l).length:Int)) (by (simp only [Tp.A0]; omega)),xTp l i Ad,cl (@xL (List.getD l i default) (mx) (by simp_all [List.length_map,List.length_append,List.length_cons,List.length_nil,A3,Pr.A0,Tp.A0,Pm.A0,Ex.A0,Al.A0,Vr.A0,Cn.A0,Da.A0,Cl.A0,Bo.A0,Df.A0,In.A0,Cs.A0,Ms.A0,Qu.A0,Int.toNat_natCast])),kp,am ((0:Int)<=(i:Int)/\(i:Int)<((Tp.cs l).length:Int)) (by (simp only [Tp.A0]; omega)),xTp l i Ad,kp,cl (@ht (List.getD l i default) (IntKind.wrap .i64 (mx - IntKind.wrap .i64 (IntKind.wrap .i64 (IntKind.wrap .i64 (IntKind.wrap .i64 (IntKind.wrap .i64 (n+1)+IntKind.wrap .i64 (Int.tdiv (↑(ByteArray.size (AK (List.getD l i default))):Int) 100))+((C2 (List.getD l i default)).length:Int))+pf (DX (List.getD l i default)) mx)+pf [DU (List.getD l i default)] mx))) (by simp_all [List.length_map,List.length_append,List.length_cons,List.length_nil,A3,Pr.A0,Tp.A0,Pm.A0,Ex.A0,Al.A0,Vr.A0,Cn.A0,Da.A0,Cl.A0,Bo.A0,Df.A0,In.A0,Cs.A0,Ms.A0,Qu.A0,Int.toNat_natCast])),kp,wr ((i:Int)+1)] Ad (IntKind.wrap .i64 (IntKind.wrap .i64 (IntKind.wrap .i64 (IntKind.wrap .i64 (IntKind.wrap .i64 (IntKind.wrap .i64 (n+1)+IntKind.wrap .i64 (Int.tdiv (↑(ByteArray.size (AK (List.getD l i default))):Int) 100))+((C2 (List.getD l i default)).length:Int))+pf (DX (List.getD l i default)) mx)+pf [DU (List.getD l i default)] mx)+tf (AP (List.getD l i default)) (IntKind.wrap .i64 (mx - IntKind.wrap .i64 (IntKind.wrap .i64 (IntKind.wrap .i64 (IntKind.wrap .i64 (IntKind.wrap .i64 (n+1)+IntKind.wrap .i64 (Int.tdiv (↑(ByteArray.size (AK (List.getD l i default))):Int) 100))+((C2 (List.getD l i default)).length:Int))+pf (DX (List.getD l i default)) mx)+pf [DU (List.getD l i default)] mx))))) trivial (by rw [hd,Ky,iP h0])
  ·exact lX An [sl (Tp.A0 l),rp 4 (dt ((i:Int)<(l.length:Int))),Br h0] (n) (by rw [hd,Ky,iN h0])
 ·have he:i=l.length:=by omega
  exact lX An [sl (Tp.A0 l),rp 4 (df ((i:Int)<(l.length:Int))),bf false] (n) (by rw [he,List.drop_length,Ky])
theorem ctL(l:List Tp)(mx:Int)(pf:List Pr->Int->Int)(tf:List Tp->Int->Int)(hp:∀ (w:Tp) (k:Int),w∈l->Pu 24 [.sl 4 (Pr.cs (DX w)),.int .i64 k] (.ret (.int .i64 (pf (DX w) k))))(xL:∀ (w:Tp) (k:Int),w∈l->Pu 24 [.sl 4 [CI (DU w)],.int .i64 k] (.ret (.int .i64 (pf [DU w] k))))(ht:∀ (w:Tp) (k:Int),w∈l->Pu 23 [.sl 9 (Tp.cs (AP w)),.int .i64 k] (.ret (.int .i64 (tf (AP w) k))))(hN:l.length<=1000000000):Pu 23 [.sl 9 (Tp.cs l),pI mx] (rI (Ky mx pf tf l 0)):=
 pu An (fun e=>[lq (@ct0 (l) (mx) (pf) (tf) hp xL ht (0) (e) hN)]) func23
def ctD:Nat->List Tp->Int->Int
 | 0,_,_=>0
 | d+1,l,mx=>Ky mx GN (ctD d) l 0
theorem DV(x:Tp):Af (Tp.cs (AP x))+Af (Pr.cs (DX x))+A5 (CI (DU x))<A5 (BI x):=by simp only [A5,Dq]; omega
theorem mC:∀ (d:Nat) (l:List Tp) (mx:Int),Af (Tp.cs l)<d->Af (Tp.cs l)<=100000000->Pu 23 [.sl 9 (Tp.cs l),.int .i64 mx] (.ret (.int .i64 (ctD d l mx)))
 | 0,_,_,h,_=>by omega
 | d+1,l,mx,h,hs=>ctL l mx GN (ctD d) (fun w k hw=>cpT _ k (by have:=DV w; have:=Tp.mem hw; omega)) (fun w k hw=>iW _ k (by have:=DV w; have:=Tp.mem hw; omega)) (fun w k hw=>mC d (AP w) k (by have:=DV w; have:=Tp.mem hw; omega) (by have:=DV w; have:=Tp.mem hw; omega)) (by have:=Tp.BF l; omega)
def F3(l:List Tp)(mx:Int):Int:=ctD (Af (Tp.cs l)+1) l mx
theorem ctT(l:List Tp)(mx:Int)(hs:Af (Tp.cs l)<=100000000):Pu 23 [.sl 9 (Tp.cs l),.int .i64 mx] (.ret (.int .i64 (F3 l mx))):=mC _ l mx oM hs
theorem iX(x:Tp)(mx:Int)(hs:A5 (BI x)<=100000000):Pu 23 [.sl 9 [BI x],.int .i64 mx] (.ret (.int .i64 (F3 [x] mx))):=by
 have e:Tp.cs [x]=[BI x]:=by simp [Tp.Ay]
 have:=ctT [x] mx (by rw [e]; simpa [Af] using hs)
 rwa [e] at this
abbrev mD(x:Ex)(mx:Int)(FO:Ex->Int->Int)(j:Int)(n:Int)(e:Ext):S:=S.mk [(1,A2 mx),(2,.lp 2 0),(4,A2 0),(5,A2 n),(6,A2 j)] [(2,CP x)] e
def IQ(mx:Int):List Pm->(Int)->(Int)
 | [],n=>(n)
 | el::r,n=>(if n<=mx then IQ mx r (IntKind.wrap .i64 (IntKind.wrap .i64 (IntKind.wrap .i64 (n+1)+IntKind.wrap .i64 (Int.tdiv (↑(ByteArray.size (BR el)):Int) 100))+F3 [Co el] mx)) else (n))
def ZR(x:Ex)(mx:Int)(FO:Ex->Int->Int)(e:Ext)(p:(Int)):A7 × S:=(.exit 0,S.mk [(1,A2 mx),(2,.lp 2 0),(4,A2 0),(5,A2 p)] [(2,CP x)] e)
theorem pa0(x:Ex)(mx:Int)(FO:Ex->Int->Int)(ht:∀ (k:Int),Pu 23 [.sl 9 (Tp.cs (Cg x)),.int .i64 k] (.ret (.int .i64 (F3 (Cg x) k))))(hP:∀ (p:Pm) (k:Int),p∈Ao x->Pu 23 [.sl 9 [BI (Co p)],.int .i64 k] (.ret (.int .i64 (F3 [Co p] k))))(hK:∀ (w:Ex) (k:Int),w∈AQ x->Pu 36 [.agg (AT w),.int .i64 k] (.ret (.int .i64 (FO w k))))(hA:∀ (a:Al) (k:Int),a∈Ae x->Pu 36 [.agg (AT (D4 a)),.int .i64 k] (.ret (.int .i64 (FO (D4 a) k))))(n:Int)(e:Ext)(hN:(Ao x).length<=1000000000)  : (Ob.loop 108 (Am f36 0) (mD x mx FO 0 n e) (ZR x mx FO e (IQ mx ((Ao x))  n)).1 (ZR x mx FO e (IQ mx ((Ao x))  n)).2).ok prog:=by
 refine Ek ((Ao x).length) (fun j n=>mD x mx FO j n e) (fun i n=>IQ mx (List.drop i ((Ao x)))  n) (ZR x mx FO e) (fun i n=>True) kR ?_ n trivial
 rintro i n hi -
 rcases Nat.lt_or_ge i ((Ao x).length) with Ad | Dm
 ·have hd:=AN Ad
  by_cases h0:n<=mx
  ·exact lN An [sl (Pm.A0 (Ao x)),rp 4 (dt ((i:Int)<((Ao x).length:Int))),E9 h0,kp,am ((0:Int)<=(i:Int)/\(i:Int)<((Pm.cs (Ao x)).length:Int)) (by (simp only [Pm.A0]; omega)),rG (Ao x) i Ad,rp 3 (kp),ab true,am ((0:Int)<=(i:Int)/\(i:Int)<((Pm.cs (Ao x)).length:Int)) (by (simp only [Pm.A0]; omega)),rG (Ao x) i Ad,cl (@hP (List.getD (Ao x) i default) (mx) (by simp_all [List.length_map,List.length_append,List.length_cons,List.length_nil,A3,Pr.A0,Tp.A0,Pm.A0,Ex.A0,Al.A0,Vr.A0,Cn.A0,Da.A0,Cl.A0,Bo.A0,Df.A0,In.A0,Cs.A0,Ms.A0,Qu.A0,Int.toNat_natCast])),kp,wr ((i:Int)+1)] Ad (IntKind.wrap .i64 (IntKind.wrap .i64 (IntKind.wrap .i64 (n+1)+IntKind.wrap .i64 (Int.tdiv (↑(ByteArray.size (BR (List.getD (Ao x) i default))):Int) 100))+F3 [Co (List.getD (Ao x) i default)] mx)) trivial (by rw [hd,IQ,iP h0])
  ·exact lX An [sl (Pm.A0 (Ao x)),rp 4 (dt ((i:Int)<((Ao x).length:Int))),Br h0] (n) (by rw [hd,IQ,iN h0])
 ·have he:i=(Ao x).length:=by omega
  exact lX An [sl (Pm.A0 (Ao x)),rp 4 (df ((i:Int)<((Ao x).length:Int))),bf false] (n) (by rw [he,List.drop_length,IQ])
abbrev mE(x:Ex)(mx:Int)(FO:Ex->Int->Int)(j:Int)(n:Int)(e:Ext):S:=S.mk [(1,A2 mx),(2,.lp 2 0),(4,A2 0),(5,A2 n),(7,A2 j)] [(2,CP x)] e
def JC(mx:Int)(FO:Ex->Int->Int):List Ex->(Int)->(Int)
 | [],n=>(n)
 | el::r,n=>(if n<=mx then JC mx FO r (IntKind.wrap .i64 (n+FO el (IntKind.wrap .i64 (mx - n)))) else (n))
def ZS(x:Ex)(mx:Int)(FO:Ex->Int->Int)(e:Ext)(p:(Int)):A7 × S:=(.exit 2,S.mk [(1,A2 mx),(2,.lp 2 0),(4,A2 0),(5,A2 p)] [(2,CP x)] e)
theorem pa1(x:Ex)(mx:Int)(FO:Ex->Int->Int)(ht:∀ (k:Int),Pu 23 [.sl 9 (Tp.cs (Cg x)),.int .i64 k] (.ret (.int .i64 (F3 (Cg x) k))))(hP:∀ (p:Pm) (k:Int),p∈Ao x->Pu 23 [.sl 9 [BI (Co p)],.int .i64 k] (.ret (.int .i64 (F3 [Co p] k))))(hK:∀ (w:Ex) (k:Int),w∈AQ x->Pu 36 [.agg (AT w),.int .i64 k] (.ret (.int .i64 (FO w k))))(hA:∀ (a:Al) (k:Int),a∈Ae x->Pu 36 [.agg (AT (D4 a)),.int .i64 k] (.ret (.int .i64 (FO (D4 a) k))))(Xm:(Ao x).length<=1000000000)(n:Int)(e:Ext)(hN:(AQ x).length<=1000000000)  : (Ob.loop 108 (Am f36 1) (mE x mx FO 0 n e) (ZS x mx FO e (JC mx FO ((AQ x))  n)).1 (ZS x mx FO e (JC mx FO ((AQ x))  n)).2).ok prog:=by
 refine Ek ((AQ x).length) (fun j n=>mE x mx FO j n e) (fun i n=>JC mx FO (List.drop i ((AQ x)))  n) (ZS x mx FO e) (fun i n=>True) kR ?_ n trivial
 rintro i n hi -
 rcases Nat.lt_or_ge i ((AQ x).length) with Ad | Dm
 ·have hd:=AN Ad
  by_cases h0:n<=mx
  ·exact lN An [sl (Ex.A0 (AQ x)),rp 4 (dt ((i:Int)<((AQ x).length:Int))),E9 h0,am ((0:Int)<=(i:Int)/\(i:Int)<((Ex.cs (AQ x)).length:Int)) (by (simp only [Ex.A0]; omega)),xEx (AQ x) i Ad,kp,cl (@hK (List.getD (AQ x) i default) (IntKind.wrap .i64 (mx - n)) (by simp_all [List.length_map,List.length_append,List.length_cons,List.length_nil,A3,Pr.A0,Tp.A0,Pm.A0,Ex.A0,Al.A0,Vr.A0,Cn.A0,Da.A0,Cl.A0,Bo.A0,Df.A0,In.A0,Cs.A0,Ms.A0,Qu.A0,Int.toNat_natCast])),kp,wr ((i:Int)+1)] Ad (IntKind.wrap .i64 (n+FO (List.getD (AQ x) i default) (IntKind.wrap .i64 (mx - n)))) trivial (by rw [hd,JC,iP h0])
  ·exact lX An [sl (Ex.A0 (AQ x)),rp 4 (dt ((i:Int)<((AQ x).length:Int))),Br h0] (n) (by rw [hd,JC,iN h0])
 ·have he:i=(AQ x).length:=by omega
  exact lX An [sl (Ex.A0 (AQ x)),rp 4 (df ((i:Int)<((AQ x).length:Int))),bf false] (n) (by rw [he,List.drop_length,JC])
abbrev mF(x:Ex)(mx:Int)(FO:Ex->Int->Int)(j:Int)(n:Int)(e:Ext):S:=S.mk [(1,A2 mx),(2,.lp 2 0),(4,A2 0),(5,A2 n),(8,A2 j)] [(2,CP x)] e
def Kz(mx:Int)(FO:Ex->Int->Int):List Al->(Int)->(Int)
 | [],n=>(n)
 | el::r,n=>(if n<=mx then Kz mx FO r (IntKind.wrap .i64 (IntKind.wrap .i64 (n+((Bl el).length:Int))+FO (D4 el) (IntKind.wrap .i64 (mx - n)))) else (n))
def ZT(x:Ex)(mx:Int)(FO:Ex->Int->Int)(e:Ext)(p:(Int)):A7 × S:=(.exit 4,S.mk [(1,A2 mx),(2,.lp 2 0),(4,A2 0),(5,A2 p)] [(2,CP x)] e)
theorem pa2(x:Ex)(mx:Int)(FO:Ex->Int->Int)(ht:∀ (k:Int),Pu 23 [.sl 9 (Tp.cs (Cg x)),.int .i64 k] (.ret (.int .i64 (F3 (Cg x) k))))(hP:∀ (p:Pm) (k:Int),p∈Ao x->Pu 23 [.sl 9 [BI (Co p)],.int .i64 k] (.ret (.int .i64 (F3 [Co p] k))))(hK:∀ (w:Ex) (k:Int),w∈AQ x->Pu 36 [.agg (AT w),.int .i64 k] (.ret (.int .i64 (FO w k))))(hA:∀ (a:Al) (k:Int),a∈Ae x->Pu 36 [.agg (AT (D4 a)),.int .i64 k] (.ret (.int .i64 (FO (D4 a) k))))(Xm:(Ao x).length<=1000000000)(fC:(AQ x).length<=1000000000)(n:Int)(e:Ext)(hN:(Ae x).length<=1000000000)  : (Ob.loop 108 (Am f36 2) (mF x mx FO 0 n e) (ZT x mx FO e (Kz mx FO ((Ae x))  n)).1 (ZT x mx FO e (Kz mx FO ((Ae x))  n)).2).ok prog:=by
 refine Ek ((Ae x).length) (fun j n=>mF x mx FO j n e) (fun i n=>Kz mx FO (List.drop i ((Ae x)))  n) (ZT x mx FO e) (fun i n=>True) kR ?_ n trivial
 rintro i n hi -
 rcases Nat.lt_or_ge i ((Ae x).length) with Ad | Dm
 ·have hd:=AN Ad
  by_cases h0:n<=mx
  ·exact lN An [sl (Al.A0 (Ae x)),rp 4 (dt ((i:Int)<((Ae x).length:Int))),E9 h0,am ((0:Int)<=(i:Int)/\(i:Int)<((Al.cs (Ae x)).length:Int)) (by (simp only [Al.A0]; omega)),xAl (Ae x) i Ad,sl (A3 (Bl (List.getD (Ae x) i default))),kp,am ((0:Int)<=(i:Int)/\(i:Int)<((Al.cs (Ae x)).length:Int)) (by (simp only [Al.A0]; omega)),xAl (Ae x) i Ad,kp,cl (@hA (List.getD (Ae x) i default) (IntKind.wrap .i64 (mx - n)) (by simp_all [List.length_map,List.length_append,List.length_cons,List.length_nil,A3,Pr.A0,Tp.A0,Pm.A0,Ex.A0,Al.A0,Vr.A0,Cn.A0,Da.A0,Cl.A0,Bo.A0,Df.A0,In.A0,Cs.A0,Ms.A0,Qu.A0,Int.toNat_natCast])),kp,wr ((i:Int)+1)] Ad (IntKind.wrap .i64 (IntKind.wrap .i64 (n+((Bl (List.getD (Ae x) i default)).length:Int))+FO (D4 (List.getD (Ae x) i default)) (IntKind.wrap .i64 (mx - n)))) trivial (by rw [hd,Kz,iP h0])
  ·exact lX An [sl (Al.A0 (Ae x)),rp 4 (dt ((i:Int)<((Ae x).length:Int))),Br h0] (n) (by rw [hd,Kz,iN h0])
 ·have he:i=(Ae x).length:=by omega
  exact lX An [sl (Al.A0 (Ae x)),rp 4 (df ((i:Int)<((Ae x).length:Int))),bf false] (n) (by rw [he,List.drop_length,Kz])
theorem paL(x:Ex)(mx:Int)(FO:Ex->Int->Int)(ht:∀ (k:Int),Pu 23 [.sl 9 (Tp.cs (Cg x)),.int .i64 k] (.ret (.int .i64 (F3 (Cg x) k))))(hP:∀ (p:Pm) (k:Int),p∈Ao x->Pu 23 [.sl 9 [BI (Co p)],.int .i64 k] (.ret (.int .i64 (F3 [Co p] k))))(hK:∀ (w:Ex) (k:Int),w∈AQ x->Pu 36 [.agg (AT w),.int .i64 k] (.ret (.int .i64 (FO w k))))(hA:∀ (a:Al) (k:Int),a∈Ae x->Pu 36 [.agg (AT (D4 a)),.int .i64 k] (.ret (.int .i64 (FO (D4 a) k))))(Xm:(Ao x).length<=1000000000)(fC:(AQ x).length<=1000000000)(ZU:(Ae x).length<=1000000000):Pu 36 [.agg (AT x),pI mx] (rI (Kz mx FO (Ae x) (JC mx FO (AQ x) (IQ mx (Ao x) (IntKind.wrap .i64 (IntKind.wrap .i64 (1+IntKind.wrap .i64 (Int.tdiv (↑(ByteArray.size (Ap x)):Int) 100))+F3 (Cg x) mx)))))):=
 pu An (fun e=>[rp 3 (kp),ab true,cl (@ht (mx)),kp,lp (S.mk [(0,.v (.agg (AT x))),(1,A2 mx),(2,.lp 2 0),(4,A2 0),(9,.lp 2 1),(10,vS (Ap x)),(11,A2 (↑(ByteArray.size (Ap x)):Int)),(12,A2 (IntKind.wrap .i64 (Int.tdiv (↑(ByteArray.size (Ap x)):Int) 100))),(13,A2 (IntKind.wrap .i64 (1+IntKind.wrap .i64 (Int.tdiv (↑(ByteArray.size (Ap x)):Int) 100)))),(14,.lp 2 6),(15,vL 9 (Tp.cs (Cg x))),(16,A2 mx),(17,A2 (F3 (Cg x) mx)),(18,A2 (IntKind.wrap .i64 (IntKind.wrap .i64 (1+IntKind.wrap .i64 (Int.tdiv (↑(ByteArray.size (Ap x)):Int) 100))+F3 (Cg x) mx))),(5,A2 (IntKind.wrap .i64 (IntKind.wrap .i64 (1+IntKind.wrap .i64 (Int.tdiv (↑(ByteArray.size (Ap x)):Int) 100))+F3 (Cg x) mx))),(6,A2 0)] [(2,CP x)] e) (@pa0 (x) (mx) (FO) ht hP hK hA (IntKind.wrap .i64 (IntKind.wrap .i64 (1+IntKind.wrap .i64 (Int.tdiv (↑(ByteArray.size (Ap x)):Int) 100))+F3 (Cg x) mx)) (e) Xm) xr,lq (@pa1 (x) (mx) (FO) ht hP hK hA Xm (IQ mx (Ao x) (IntKind.wrap .i64 (IntKind.wrap .i64 (1+IntKind.wrap .i64 (Int.tdiv (↑(ByteArray.size (Ap x)):Int) 100))+F3 (Cg x) mx))) (e) fC),lq (@pa2 (x) (mx) (FO) ht hP hK hA Xm fC (JC mx FO (AQ x) (IQ mx (Ao x) (IntKind.wrap .i64 (IntKind.wrap .i64 (1+IntKind.wrap .i64 (Int.tdiv (↑(ByteArray.size (Ap x)):Int) 100))+F3 (Cg x) mx)))) (e) ZU)]) func36
def paD:Nat->Ex->Int->Int
 | 0,_,_=>0
 | d+1,x,mx=>Kz mx (paD d) (Ae x) (JC mx (paD d) (AQ x) (IQ mx (Ao x) (IntKind.i64.wrap (IntKind.i64.wrap (1+IntKind.i64.wrap (((Ap x).size:Int).tdiv 100))+F3 (Cg x) mx))))
theorem CQ(x:Ex):Af (Ex.cs (AQ x))+Af (Pm.cs (Ao x))+Af (Al.cs (Ae x))+Af (Tp.cs (Cg x))<A5 (AT x):=by simp only [A5,Dq]; omega
theorem HV(a:Al):A5 (AT (D4 a))<A5 (I4 a):=by simp only [A5,Dq]; omega
theorem Ja(a:Pm):A5 (BI (Co a))<A5 (KW a):=by simp only [A5,Dq]; omega
theorem ZV:∀ (d:Nat) (x:Ex) (mx:Int),A5 (AT x)<d->A5 (AT x)<=100000000->Pu 36 [.agg (AT x),.int .i64 mx] (.ret (.int .i64 (paD d x mx)))
 | 0,_,_,h,_=>by omega
 | d+1,x,mx,h,hs=>by
  have h1:=CQ x
  have h2:=Ex.BF (AQ x)
  have h3:=Pm.BF (Ao x)
  have h4:=Al.BF (Ae x)
  exact paL x mx (paD d) (fun k=>ctT _ k oM) (fun p k hp=>iX _ k (by have:=Ja p; have:=Pm.mem hp; omega)) (fun w k hw=>ZV d w k (by have:=Ex.mem hw; omega) (by have:=Ex.mem hw; omega)) (fun a k ha=>ZV d (D4 a) k (by have:=HV a; have:=Al.mem ha; omega) (by have:=HV a; have:=Al.mem ha; omega)) oM oM oM
def paF(x:Ex)(mx:Int):Int:=paD (A5 (AT x)+1) x mx
theorem paT(x:Ex)(mx:Int)(hs:A5 (AT x)<=100000000):Pu 36 [.agg (AT x),.int .i64 mx] (.ret (.int .i64 (paF x mx))):=ZV _ x mx oM hs
abbrev mG(l:List Df)(mx:Int)(d:Df)(o:Int)(n0:Int)(xe:Ext)(j:Int)(n:Int)  : S:=S.mk [(0,vL 25 (Df.cs l)),(1,A2 mx),(4,A2 0),(5,A2 n),(6,A2 o),(7,.lp 7 0),(8,A2 j)] [(7,[vL 1 (A1 (Az d)),vL 2 (Vr.cs (C8 d)),vL 2 (Vr.cs (Bz d)),vL 10 (Bo.cs (BB d)),A2 (Bd (BV d)),vS (AK (BV d)),vL 9 (Tp.cs (AP (BV d))),vL 1 (A1 (C2 (BV d))),A2 (Ah (DU (BV d))),vS (AR (DU (BV d))),A2 (DE (DU (BV d))),vL 4 (Pr.cs (Bg (DU (BV d)))),vL 4 (Pr.cs (DX (BV d))),vL 4 (Pr.cs (Dj d))])] xe
def KA(mx:Int):List Bo->(Int)->(Int)
 | [],n=>(n)
 | el::r,n=>(if n<=mx then KA mx r (IntKind.wrap .i64 (IntKind.wrap .i64 (IntKind.wrap .i64 (n+1)+((boW el).length:Int))+GN [R2 el,R3 el] mx)) else (n))
def ZW(l:List Df)(mx:Int)(d:Df)(o:Int)(n0:Int)(xe:Ext)(p:(Int)):A7 × S:=(.exit 2,S.mk [(0,vL 25 (Df.cs l)),(1,A2 mx),(4,A2 0),(5,A2 p),(6,A2 o),(7,.lp 7 0)] [(7,[vL 1 (A1 (Az d)),vL 2 (Vr.cs (C8 d)),vL 2 (Vr.cs (Bz d)),vL 10 (Bo.cs (BB d)),A2 (Bd (BV d)),vS (AK (BV d)),vL 9 (Tp.cs (AP (BV d))),vL 1 (A1 (C2 (BV d))),A2 (Ah (DU (BV d))),vS (AR (DU (BV d))),A2 (DE (DU (BV d))),vL 4 (Pr.cs (Bg (DU (BV d)))),vL 4 (Pr.cs (DX (BV d))),vL 4 (Pr.cs (Dj d))])] xe)
theorem cd1(l:List Df)(mx:Int)(d:Df)(o n0:Int)(xe:Ext)(hwb:∀ (b:Bo) (k:Int),b∈BB d->Pu 24 [.sl 4 [CI (R2 b),CI (R3 b)],.int .i64 k] (.ret (.int .i64 (GN [R2 b,R3 b] k))))(n:Int)(hN:(BB d).length<=1000000000)  : (Ob.loop 113 (Am f22 1) (mG l mx d o n0 xe 0 n) (ZW l mx d o n0 xe  (KA mx ((BB d))  n)).1 (ZW l mx d o n0 xe  (KA mx ((BB d))  n)).2).ok prog:=by
 refine Ek ((BB d).length) (fun j n=>mG l mx d o n0 xe j n) (fun i n=>KA mx (List.drop i ((BB d)))  n) (ZW l mx d o n0 xe) (fun i n=>True) kR ?_ n trivial
 rintro i n hi -
 rcases Nat.lt_or_ge i ((BB d).length) with Ad | Dm
 ·have hd:=AN Ad
  by_cases h0:n<=mx
  ·exact lN An [sl (Bo.A0 (BB d)),rp 4 (dt ((i:Int)<((BB d).length:Int))),E9 h0,kp,am ((0:Int)<=(i:Int)/\(i:Int)<((Bo.cs (BB d)).length:Int)) (by (simp only [Bo.A0]; omega)),xBo (BB d) i Ad,sl (Vr.A0 (boW (List.getD (BB d) i default))),kp,am ((0:Int)<=(i:Int)/\(i:Int)<((Bo.cs (BB d)).length:Int)) (by (simp only [Bo.A0]; omega)),xBo (BB d) i Ad,am ((0:Int)<=(i:Int)/\(i:Int)<((Bo.cs (BB d)).length:Int)) (by (simp only [Bo.A0]; omega)),xBo (BB d) i Ad,cl (@hwb (List.getD (BB d) i default) (mx) (by simp_all [List.length_map,List.length_append,List.length_cons,List.length_nil,A3,Pr.A0,Tp.A0,Pm.A0,Ex.A0,Al.A0,Vr.A0,Cn.A0,Da.A0,Cl.A0,Bo.A0,Df.A0,In.A0,Cs.A0,Ms.A0,Qu.A0,Int.toNat_natCast])),kp,wr ((i:Int)+1)] Ad (IntKind.wrap .i64 (IntKind.wrap .i64 (IntKind.wrap .i64 (n+1)+((boW (List.getD (BB d) i default)).length:Int))+GN [R2 (List.getD (BB d) i default),R3 (List.getD (BB d) i default)] mx)) trivial (by rw [hd,KA,iP h0])
  ·exact lX An [sl (Bo.A0 (BB d)),rp 4 (dt ((i:Int)<((BB d).length:Int))),Br h0] (n) (by rw [hd,KA,iN h0])
 ·have he:i=(BB d).length:=by omega
  exact lX An [sl (Bo.A0 (BB d)),rp 4 (df ((i:Int)<((BB d).length:Int))),bf false] (n) (by rw [he,List.drop_length,KA])
theorem A1z{l:List Df}{i:Nat}(hw5:∀d∈l,(BB d).length<=1000000000)(h:i<l.length):(BB (l.getD i default)).length<=1000000000:=hw5 _ (Bk h)
theorem A20{l:List Df}{i:Nat}(hw3:∀ (d:Df) (b:Bo) (k:Int),d∈l->b∈BB d->Pu 24 [.sl 4 [CI (R2 b),CI (R3 b)],.int .i64 k] (.ret (.int .i64 (GN [R2 b,R3 b] k))))(h:i<l.length):∀ (b:Bo) (k:Int),b∈BB (l.getD i default)->Pu 24 [.sl 4 [CI (R2 b),CI (R3 b)],.int .i64 k] (.ret (.int .i64 (GN [R2 b,R3 b] k))):=fun b k hb=>hw3 _ b k (Bk h) hb
abbrev mH(l:List Df)(mx:Int)(j:Int)(n:Int)(e:Ext):S:=S.mk [(0,vL 25 (Df.cs l)),(1,A2 mx),(4,A2 0),(5,A2 n),(6,A2 j)] [] e
def KB(mx:Int):List Df->(Int)->(Int)
 | [],n=>(n)
 | el::r,n=>(if n<=mx then KB mx r (IntKind.wrap .i64 (KA mx (BB el) (IntKind.wrap .i64 (IntKind.wrap .i64 (IntKind.wrap .i64 (IntKind.wrap .i64 (IntKind.wrap .i64 (IntKind.wrap .i64 (IntKind.wrap .i64 (IntKind.wrap .i64 (n+1)+IntKind.wrap .i64 (Int.tdiv (↑(ByteArray.size (Ag el)):Int) 100))+((BD el).length:Int))+((Az el).length:Int))+((C8 el).length:Int))+((Bz el).length:Int))+F3 [BV el] mx)+GN (Dj el) mx))+paF (DQ el) mx)) else (n))
def ZX(l:List Df)(mx:Int)(e:Ext)(p:(Int)):A7 × S:=(.exit 0,S.mk [(0,vL 25 (Df.cs l)),(1,A2 mx),(4,A2 0),(5,A2 p)] [] e)
theorem cd0(l:List Df)(mx:Int)(eY:∀ (d:Df) (k:Int),d∈l->Pu 23 [.sl 9 [BI (BV d)],.int .i64 k] (.ret (.int .i64 (F3 [BV d] k))))(hw2:∀ (d:Df) (k:Int),d∈l->Pu 24 [.sl 4 (Pr.cs (Dj d)),.int .i64 k] (.ret (.int .i64 (GN (Dj d) k))))(hw3:∀ (d:Df) (b:Bo) (k:Int),d∈l->b∈BB d->Pu 24 [.sl 4 [CI (R2 b),CI (R3 b)],.int .i64 k] (.ret (.int .i64 (GN [R2 b,R3 b] k))))(hw4:∀ (d:Df) (k:Int),d∈l->Pu 36 [.agg (AT (DQ d)),.int .i64 k] (.ret (.int .i64 (paF (DQ d) k))))(hw5:∀d∈l,(BB d).length<=1000000000)(n:Int)(e:Ext)(hN:l.length<=1000000000)  : (Ob.loop 113 (Am f22 0) (mH l mx 0 n e) (ZX l mx e (KB mx (l)  n)).1 (ZX l mx e (KB mx (l)  n)).2).ok prog:=by
 refine Ek l.length (fun j n=>mH l mx j n e) (fun i n=>KB mx (List.drop i (l))  n) (ZX l mx e) (fun i n=>True) kR ?_ n trivial
 rintro i n hi -
 rcases Nat.lt_or_ge i (l.length) with Ad | Dm
 ·have hd:=AN Ad
  by_cases h0:n<=mx
  ·exact lN An [sl (Df.A0 l),rp 4 (dt ((i:Int)<(l.length:Int))),E9 h0,am ((0:Int)<=(i:Int)/\(i:Int)<((Df.cs l).length:Int)) (by (simp only [Df.A0]; omega)),rH l i Ad,kp,am ((0:Int)<=(i:Int)/\(i:Int)<((Df.cs l).length:Int)) (by (simp only [Df.A0]; omega)),rH l i Ad,rp 3 (kp),ab true,am ((0:Int)<=(i:Int)/\(i:Int)<((Df.cs l).length:Int)) (by (simp only [Df.A0]; omega)),rH l i Ad,sl (A3 (BD (List.getD l i default))),kp,sl (A3 (Az (List.getD l i default))),kp,sl (Vr.A0 (C8 (List.getD l i default))),kp,sl (Vr.A0 (Bz (List.getD l i default))),kp,cl (@eY (List.getD l i default) (mx) (by simp_all [List.length_map,List.length_append,List.length_cons,List.length_nil,A3,Pr.A0,Tp.A0,Pm.A0,Ex.A0,Al.A0,Vr.A0,Cn.A0,Da.A0,Cl.A0,Bo.A0,Df.A0,In.A0,Cs.A0,Ms.A0,Qu.A0,Int.toNat_natCast])),kp,cl (@hw2 (List.getD l i default) (mx) (by simp_all [List.length_map,List.length_append,List.length_cons,List.length_nil,A3,Pr.A0,Tp.A0,Pm.A0,Ex.A0,Al.A0,Vr.A0,Cn.A0,Da.A0,Cl.A0,Bo.A0,Df.A0,In.A0,Cs.A0,Ms.A0,Qu.A0,Int.toNat_natCast])),kp,lp (S.mk [(0,vL 25 (Df.cs l)),(1,A2 mx),(4,A2 0),(5,A2 (IntKind.wrap .i64 (IntKind.wrap .i64 (IntKind.wrap .i64 (IntKind.wrap .i64 (IntKind.wrap .i64 (IntKind.wrap .i64 (IntKind.wrap .i64 (IntKind.wrap .i64 (n+1)+IntKind.wrap .i64 (Int.tdiv (↑(ByteArray.size (Ag (List.getD l i default))):Int) 100))+((BD (List.getD l i default)).length:Int))+((Az (List.getD l i default)).length:Int))+((C8 (List.getD l i default)).length:Int))+((Bz (List.getD l i default)).length:Int))+F3 [BV (List.getD l i default)] mx)+GN (Dj (List.getD l i default)) mx))),(6,A2 (i:Int)),(9,A2 (i:Int)),(10,vL 25 (Df.cs l)),(11,A2 (l.length:Int)),(12,.v (.bool (decide ((i:Int)<(l.length:Int))))),(13,.v (.bool (decide ((i:Int)<(l.length:Int))))),(14,A2 n),(15,A2 mx),(16,.v (.bool (decide (n<=mx)))),(17,.v (.bool (decide (n<=mx)))),(20,vL 25 (Df.cs l)),(21,A2 (i:Int)),(22,.v (.ro (CZ (List.getD l i default)) 0)),(23,.v (.ro (CZ (List.getD l i default)) 11)),(24,.v (.agg [.sl 1 (A1 (Az (List.getD l i default))),.sl 2 (Vr.cs (C8 (List.getD l i default))),.sl 2 (Vr.cs (Bz (List.getD l i default))),.sl 10 (Bo.cs (BB (List.getD l i default))),pI (Bd (BV (List.getD l i default))),.str (AK (BV (List.getD l i default))),.sl 9 (Tp.cs (AP (BV (List.getD l i default)))),.sl 1 (A1 (C2 (BV (List.getD l i default)))),pI (Ah (DU (BV (List.getD l i default)))),.str (AR (DU (BV (List.getD l i default)))),pI (DE (DU (BV (List.getD l i default)))),.sl 4 (Pr.cs (Bg (DU (BV (List.getD l i default))))),.sl 4 (Pr.cs (DX (BV (List.getD l i default)))),.sl 4 (Pr.cs (Dj (List.getD l i default)))])),(7,.lp 7 0),(25,A2 n),(26,A2 (IntKind.wrap .i64 (n+1))),(27,vL 25 (Df.cs l)),(28,A2 (i:Int)),(29,.v (.ro (CZ (List.getD l i default)) 0)),(30,.v (.ro (CZ (List.getD l i default)) 0)),(31,vS (Ag (List.getD l i default))),(32,A2 (↑(ByteArray.size (Ag (List.getD l i default))):Int)),(33,A2 (IntKind.wrap .i64 (Int.tdiv (↑(ByteArray.size (Ag (List.getD l i default))):Int) 100))),(34,A2 (IntKind.wrap .i64 (IntKind.wrap .i64 (n+1)+IntKind.wrap .i64 (Int.tdiv (↑(ByteArray.size (Ag (List.getD l i default))):Int) 100)))),(35,vL 25 (Df.cs l)),(36,A2 (i:Int)),(37,.v (.ro (CZ (List.getD l i default)) 0)),(38,.v (.ro (CZ (List.getD l i default)) 1)),(39,vL 1 (A1 (BD (List.getD l i default)))),(40,A2 ((BD (List.getD l i default)).length:Int)),(41,A2 (IntKind.wrap .i64 (IntKind.wrap .i64 (IntKind.wrap .i64 (n+1)+IntKind.wrap .i64 (Int.tdiv (↑(ByteArray.size (Ag (List.getD l i default))):Int) 100))+((BD (List.getD l i default)).length:Int)))),(42,.lp 7 0),(43,vL 1 (A1 (Az (List.getD l i default)))),(44,A2 ((Az (List.getD l i default)).length:Int)),(45,A2 (IntKind.wrap .i64 (IntKind.wrap .i64 (IntKind.wrap .i64 (IntKind.wrap .i64 (n+1)+IntKind.wrap .i64 (Int.tdiv (↑(ByteArray.size (Ag (List.getD l i default))):Int) 100))+((BD (List.getD l i default)).length:Int))+((Az (List.getD l i default)).length:Int)))),(46,.lp 7 1),(47,vL 2 (Vr.cs (C8 (List.getD l i default)))),(48,A2 ((C8 (List.getD l i default)).length:Int)),(49,A2 (IntKind.wrap .i64 (IntKind.wrap .i64 (IntKind.wrap .i64 (IntKind.wrap .i64 (IntKind.wrap .i64 (n+1)+IntKind.wrap .i64 (Int.tdiv (↑(ByteArray.size (Ag (List.getD l i default))):Int) 100))+((BD (List.getD l i default)).length:Int))+((Az (List.getD l i default)).length:Int))+((C8 (List.getD l i default)).length:Int)))),(50,.lp 7 2),(51,vL 2 (Vr.cs (Bz (List.getD l i default)))),(52,A2 ((Bz (List.getD l i default)).length:Int)),(53,A2 (IntKind.wrap .i64 (IntKind.wrap .i64 (IntKind.wrap .i64 (IntKind.wrap .i64 (IntKind.wrap .i64 (IntKind.wrap .i64 (n+1)+IntKind.wrap .i64 (Int.tdiv (↑(ByteArray.size (Ag (List.getD l i default))):Int) 100))+((BD (List.getD l i default)).length:Int))+((Az (List.getD l i default)).length:Int))+((C8 (List.getD l i default)).length:Int))+((Bz (List.getD l i default)).length:Int)))),(54,.lp 7 4),(55,.v (.agg (BI (BV (List.getD l i default))))),(56,LV.full 9 [BI (BV (List.getD l i default))]),(57,A2 mx),(58,A2 (F3 [BV (List.getD l i default)] mx)),(59,A2 (IntKind.wrap .i64 (IntKind.wrap .i64 (IntKind.wrap .i64 (IntKind.wrap .i64 (IntKind.wrap .i64 (IntKind.wrap .i64 (IntKind.wrap .i64 (n+1)+IntKind.wrap .i64 (Int.tdiv (↑(ByteArray.size (Ag (List.getD l i default))):Int) 100))+((BD (List.getD l i default)).length:Int))+((Az (List.getD l i default)).length:Int))+((C8 (List.getD l i default)).length:Int))+((Bz (List.getD l i default)).length:Int))+F3 [BV (List.getD l i default)] mx))),(60,.lp 7 13),(61,vL 4 (Pr.cs (Dj (List.getD l i default)))),(62,A2 mx),(63,A2 (GN (Dj (List.getD l i default)) mx)),(64,A2 (IntKind.wrap .i64 (IntKind.wrap .i64 (IntKind.wrap .i64 (IntKind.wrap .i64 (IntKind.wrap .i64 (IntKind.wrap .i64 (IntKind.wrap .i64 (IntKind.wrap .i64 (n+1)+IntKind.wrap .i64 (Int.tdiv (↑(ByteArray.size (Ag (List.getD l i default))):Int) 100))+((BD (List.getD l i default)).length:Int))+((Az (List.getD l i default)).length:Int))+((C8 (List.getD l i default)).length:Int))+((Bz (List.getD l i default)).length:Int))+F3 [BV (List.getD l i default)] mx)+GN (Dj (List.getD l i default)) mx))),(8,A2 0)] [(7,[vL 1 (A1 (Az (List.getD l i default))),vL 2 (Vr.cs (C8 (List.getD l i default))),vL 2 (Vr.cs (Bz (List.getD l i default))),vL 10 (Bo.cs (BB (List.getD l i default))),A2 (Bd (BV (List.getD l i default))),vS (AK (BV (List.getD l i default))),vL 9 (Tp.cs (AP (BV (List.getD l i default)))),vL 1 (A1 (C2 (BV (List.getD l i default)))),A2 (Ah (DU (BV (List.getD l i default)))),vS (AR (DU (BV (List.getD l i default)))),A2 (DE (DU (BV (List.getD l i default)))),vL 4 (Pr.cs (Bg (DU (BV (List.getD l i default))))),vL 4 (Pr.cs (DX (BV (List.getD l i default)))),vL 4 (Pr.cs (Dj (List.getD l i default)))])] e) (@cd1 (l) (mx) (List.getD l i default) ((i:Int)) default (e) (by (apply A20 <;> first | assumption | omega | decide)) (IntKind.wrap .i64 (IntKind.wrap .i64 (IntKind.wrap .i64 (IntKind.wrap .i64 (IntKind.wrap .i64 (IntKind.wrap .i64 (IntKind.wrap .i64 (IntKind.wrap .i64 (n+1)+IntKind.wrap .i64 (Int.tdiv (↑(ByteArray.size (Ag (List.getD l i default))):Int) 100))+((BD (List.getD l i default)).length:Int))+((Az (List.getD l i default)).length:Int))+((C8 (List.getD l i default)).length:Int))+((Bz (List.getD l i default)).length:Int))+F3 [BV (List.getD l i default)] mx)+GN (Dj (List.getD l i default)) mx)) (by (apply A1z <;> first | assumption | omega | decide))) xr,am ((0:Int)<=(i:Int)/\(i:Int)<((Df.cs l).length:Int)) (by (simp only [Df.A0]; omega)),rH l i Ad,cl (@hw4 (List.getD l i default) (mx) (by simp_all [List.length_map,List.length_append,List.length_cons,List.length_nil,A3,Pr.A0,Tp.A0,Pm.A0,Ex.A0,Al.A0,Vr.A0,Cn.A0,Da.A0,Cl.A0,Bo.A0,Df.A0,In.A0,Cs.A0,Ms.A0,Qu.A0,Int.toNat_natCast])),kp,wr ((i:Int)+1)] Ad (IntKind.wrap .i64 (KA mx (BB (List.getD l i default)) (IntKind.wrap .i64 (IntKind.wrap .i64 (IntKind.wrap .i64 (IntKind.wrap .i64 (IntKind.wrap .i64 (IntKind.wrap .i64 (IntKind.wrap .i64 (IntKind.wrap .i64 (n+1)+IntKind.wrap .i64 (Int.tdiv (↑(ByteArray.size (Ag (List.getD l i default))):Int) 100))+((BD (List.getD l i default)).length:Int))+((Az (List.getD l i default)).length:Int))+((C8 (List.getD l i default)).length:Int))+((Bz (List.getD l i default)).length:Int))+F3 [BV (List.getD l i default)] mx)+GN (Dj (List.getD l i default)) mx))+paF (DQ (List.getD l i default)) mx)) trivial (by rw [hd,KB,iP h0])
  ·exact lX An [sl (Df.A0 l),rp 4 (dt ((i:Int)<(l.length:Int))),Br h0] (n) (by rw [hd,KB,iN h0])
 ·have he:i=l.length:=by omega
  exact lX An [sl (Df.A0 l),rp 4 (df ((i:Int)<(l.length:Int))),bf false] (n) (by rw [he,List.drop_length,KB])
theorem cdL(l:List Df)(mx:Int)(eY:∀ (d:Df) (k:Int),d∈l->Pu 23 [.sl 9 [BI (BV d)],.int .i64 k] (.ret (.int .i64 (F3 [BV d] k))))(hw2:∀ (d:Df) (k:Int),d∈l->Pu 24 [.sl 4 (Pr.cs (Dj d)),.int .i64 k] (.ret (.int .i64 (GN (Dj d) k))))(hw3:∀ (d:Df) (b:Bo) (k:Int),d∈l->b∈BB d->Pu 24 [.sl 4 [CI (R2 b),CI (R3 b)],.int .i64 k] (.ret (.int .i64 (GN [R2 b,R3 b] k))))(hw4:∀ (d:Df) (k:Int),d∈l->Pu 36 [.agg (AT (DQ d)),.int .i64 k] (.ret (.int .i64 (paF (DQ d) k))))(hw5:∀d∈l,(BB d).length<=1000000000)(Xm:l.length<=1000000000):Pu 22 [.sl 25 (Df.cs l),pI mx] (rI (KB mx l 0)):=
 pu An (fun e=>[lq (@cd0 (l) (mx) eY hw2 hw3 hw4 hw5 (0) (e) Xm)]) func22
theorem KD(d:Df):A5 (AT (DQ d))+A5 (BI (BV d))+Af (Pr.cs (Dj d))+Af (Bo.cs (BB d))<A5 (CZ d):=by simp only [A5,Dq]; omega
theorem iY(b:Bo):A5 (CI (R2 b))+A5 (CI (R3 b))<A5 (WG b):=by simp only [A5,Dq]; omega
end Go.Proofs.YtmllcplaohkjnaaGreatDoor
