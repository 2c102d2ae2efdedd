/- Values of Go as plain data, an evaluator over them, and what the functions of the program return; part Yd. -/
import Derived.Test.YthchpmnkecoafaaGreatDoorYc
import Derived.RangeFuncNested
import Derived.RangeFuncBound
import Derived.RangeFuncCalls
import Derived.RangeFuncLeaves
import Derived.Shelf.Abstract
import Derived.Shelf.RegionOpen
import Derived.WalkKit
import Derived.OwnWalkIn
import Derived.TacticsInMore
import Derived.LoopNIn
import Derived.LoopIn
import Derived.Test.YthchpmnkecoafaaGreatDoorYa
set_option linter.unusedSectionVars false
set_option linter.unusedSimpArgs false
set_option linter.unusedVariables false
namespace Go.Proofs.YthchpmnkecoafaaGreatDoor
open Go.Proofs.Tryz
open Go.Pv Go.Proofs.Tryz
set_option maxRecDepth 100000
def A8g:Md:=⟨fun _=>some false,fun t=>t==1000008||t==1000009⟩
abbrev qU(s:BA)(b0:Bool)(xe:Ext)(j:Int)(a b:Bool)  : S:=S.mk [(0,vS s),(2,.v (.bool false)),(3,.v (.bool a)),(4,.v (.bool b)),(18,A6 (↑(ByteArray.size s):Int)),(19,A6 j)] [] xe
def Is(s:BA):List UInt8->Nat->(Bool)->(Bool)->(Bool) × (Bool)
 | [],i,a,b=>(a,b)
 | el::r,i,a,b=>Is s r (i+1) (G1 s a b i) (HI s (G1 s a b i) b i)
def aY(s:BA)(b0:Bool)(xe:Ext)(p:(Bool) × (Bool)):A4 × S:=(.exit 0,S.mk [(0,vS s),(2,.v (.bool false)),(3,.v (.bool (Prod.fst p))),(4,.v (.bool (Prod.snd p))),(18,A6 (↑(ByteArray.size s):Int))] [] xe)
theorem rPa(s:BA)(b0:Bool)(xe:Ext)(a b:Bool)(hN:List.length ((s.data.toList))<=1000000000)  : (Ob.loop 65 (Au f141 0) (qU s b0 xe 0 a b) (aY s b0 xe  (Is s ((s.data.toList)) 0 a b)).1 (aY s b0 xe  (Is s ((s.data.toList)) 0 a b)).2).ok prog:=by
 refine CL (List.length ((s.data.toList))) (fun j zz=>qU s b0 xe j zz.1 zz.2) (fun i zz=>Is s (List.drop i ((s.data.toList))) i zz.1 zz.2) (aY s b0 xe) (fun i zz=>True) kR ?_ (a,b) trivial
 rintro i ⟨a,b⟩ hi -
 rcases Nat.lt_or_ge i (List.length ((s.data.toList))) with Ac | Cm
 ·have hd:=At Ac
  exact lN A8g [dt ((i:Int)<(↑(ByteArray.size s):Int)) (by (apply Lw <;> first | assumption | omega | decide)),lg (@p8J (s) (a) (b) (i) Ac (xe)),lg (@p9J (s) (G1 s a b i) (b) (i) Ac (xe)),wr ((i:Int)+1)] Ac ((G1 s a b i),(HI s (G1 s a b i) b i)) trivial (by rw [hd,Is])
 ·have he:i=List.length ((s.data.toList)):=by omega
  exact lX A8g [df ((i:Int)<(↑(ByteArray.size s):Int)) (by (apply jX <;> first | assumption | omega | decide))] (a,b) (by rw [he,List.drop_length,Is])
theorem aZ{s:BA}(h:(s.size:Int)<1):Em s=false:=by unfold Em; rw [decide_eq_false oM,Bool.false_and]
theorem b7{s:BA}(h:(s.size:Int)>24):Em s=false:=by unfold Em; rw [decide_eq_false (by omega:¬s.size<=24),Bool.and_false]
theorem A0b{s:BA}(h1:¬(s.size:Int)<1)(h2:¬(s.size:Int)>24):Em s=true:=by unfold Em; rw [decide_eq_true oM,decide_eq_true oM]; rfl
theorem b8:∀l:List UInt8,Gy l=if l.all RK=true then .e1 else .e0
 | []=>rfl
 | c::r=>by
  by_cases h1:Ed c.toNat=true <;> by_cases h2:J9 c.toNat=true <;> by_cases h3:((c.toNat:Nat):Int)=95 <;> simp [Gy,RK,h1,h2,h3,b8 r]
theorem b9:∀l:List UInt8,Gz l=if l.all JM=true then .e1 else .e0
 | []=>rfl
 | c::r=>by
  by_cases h1:Ed c.toNat=true <;> by_cases h2:GN c.toNat=true <;> by_cases h3:J9 c.toNat=true <;> simp [Gz,JM,h1,h2,h3,b9 r]
theorem qV{c:UInt8}(h:Ed c.toNat=true):RK c=true:=by simp [RK,h]
theorem A0c{l:List UInt8}(h:Ed (l.getD 0 default).toNat=true):l.all RK=(l.drop 1).all RK:=by
 cases l with
 | nil=>rfl
 | cons c r=>simp only [List.getD_cons_zero] at h; simp [qV h]
section
variable (s:BA) (A7:¬(↑(ByteArray.size s):Int)<1) (Aa:¬(↑(ByteArray.size s):Int)>24)
include s A7 Aa
theorem A0d(Am:Ed (↑(UInt8.toNat (List.getD (Array.toList (ByteArray.data s)) 0 default)):Int)=true)(Az:SW s=false)(AP:Gy (Array.toList (ByteArray.data s))=MC.e0):Pu 139 [.str s] (rI 3):=
 pu A9 (fun e=>[kp,rp 2 (Ar A7),kp,rp 2 (Ar A7),rp 2 (Ar Aa),am ((0:Int)<=0/\0<(↑(ByteArray.size s):Int)),DM s 0,Ar Aa,cl (@HC ((↑(UInt8.toNat (List.getD (Array.toList (ByteArray.data s)) 0 default)):Int))),rp 2 (Ar Aa),rp 2 (AM (AI Am)),cl (@A0a (s)),AM (AI Am),AM Az,kp,lq (rz (aV (s) (e) (by (apply HD <;> first | assumption | omega | decide))) AP)]) func139
theorem A0e(Am:Ed (↑(UInt8.toNat (List.getD (Array.toList (ByteArray.data s)) 0 default)):Int)=true)(Az:SW s=false)(AP:Gy (Array.toList (ByteArray.data s))=MC.e1):Pu 139 [.str s] (rI 0):=
 pu A9 (fun e=>[kp,rp 2 (Ar A7),kp,rp 2 (Ar A7),rp 2 (Ar Aa),am ((0:Int)<=0/\0<(↑(ByteArray.size s):Int)),DM s 0,Ar Aa,cl (@HC ((↑(UInt8.toNat (List.getD (Array.toList (ByteArray.data s)) 0 default)):Int))),rp 2 (Ar Aa),rp 2 (AM (AI Am)),cl (@A0a (s)),AM (AI Am),AM Az,kp,lq (rz (aV (s) (e) (by (apply HD <;> first | assumption | omega | decide))) AP)]) func139
theorem A0f(Am:GN (↑(UInt8.toNat (List.getD (Array.toList (ByteArray.data s)) 0 default)):Int)=true)(Az:¬s=ByteArray.mk #[73,110,116])(AP:¬s=ByteArray.mk #[66,111,111,108])(Bu:¬s=ByteArray.mk #[67,101,108,108])(En:¬s=ByteArray.mk #[70,117,110])(OD:Gz (Array.toList (ByteArray.data s))=MD.e0):Pu 140 [.str s] (rI 3):=
 pu A9 (fun e=>[kp,rp 2 (Ar A7),kp,rp 2 (Ar A7),rp 2 (Ar Aa),am ((0:Int)<=0/\0<(↑(ByteArray.size s):Int)),DM s 0,Ar Aa,cl (@Nh ((↑(UInt8.toNat (List.getD (Array.toList (ByteArray.data s)) 0 default)):Int))),rp 2 (Ar Aa),rp 3 (AM (AI Am)),rp 3 (bf (ByteArray.toList s==ByteArray.toList (ByteArray.mk #[73,110,116])) (Bp Az)),rp 3 (bf (ByteArray.toList s==ByteArray.toList (ByteArray.mk #[66,111,111,108])) (Bp AP)),rp 3 (bf (ByteArray.toList s==ByteArray.toList (ByteArray.mk #[67,101,108,108])) (Bp Bu)),bf (ByteArray.toList s==ByteArray.toList (ByteArray.mk #[70,117,110])) (Bp En),kp,lq (rz (aX (s) (e) (by (apply HD <;> first | assumption | omega | decide))) OD)]) func140
theorem A0g(Am:GN (↑(UInt8.toNat (List.getD (Array.toList (ByteArray.data s)) 0 default)):Int)=true)(Az:¬s=ByteArray.mk #[73,110,116])(AP:¬s=ByteArray.mk #[66,111,111,108])(Bu:¬s=ByteArray.mk #[67,101,108,108])(En:¬s=ByteArray.mk #[70,117,110])(OD:Gz (Array.toList (ByteArray.data s))=MD.e1):Pu 140 [.str s] (rI 0):=
 pu A9 (fun e=>[kp,rp 2 (Ar A7),kp,rp 2 (Ar A7),rp 2 (Ar Aa),am ((0:Int)<=0/\0<(↑(ByteArray.size s):Int)),DM s 0,Ar Aa,cl (@Nh ((↑(UInt8.toNat (List.getD (Array.toList (ByteArray.data s)) 0 default)):Int))),rp 2 (Ar Aa),rp 3 (AM (AI Am)),rp 3 (bf (ByteArray.toList s==ByteArray.toList (ByteArray.mk #[73,110,116])) (Bp Az)),rp 3 (bf (ByteArray.toList s==ByteArray.toList (ByteArray.mk #[66,111,111,108])) (Bp AP)),rp 3 (bf (ByteArray.toList s==ByteArray.toList (ByteArray.mk #[67,101,108,108])) (Bp Bu)),bf (ByteArray.toList s==ByteArray.toList (ByteArray.mk #[70,117,110])) (Bp En),kp,lq (rz (aX (s) (e) (by (apply HD <;> first | assumption | omega | decide))) OD)]) func140
theorem A0h(Am:Prod.fst (Is s (Array.toList (ByteArray.data s)) 0 true (Ed (↑(UInt8.toNat (List.getD (Array.toList (ByteArray.data s)) 0 default)):Int)))=true):Pu 141 [.str s] (rB true):=
 pu A9 (fun e=>[kp,rp 2 (Ar A7),kp,rp 2 (Ar A7),Ar Aa,am ((0:Int)<=0/\0<(↑(ByteArray.size s):Int)),DM s 0,cl (@HC ((↑(UInt8.toNat (List.getD (Array.toList (ByteArray.data s)) 0 default)):Int))),kp,lq (@rPa (s) default (e) (true) (Ed (↑(UInt8.toNat (List.getD (Array.toList (ByteArray.data s)) 0 default)):Int)) (by (apply HD <;> first | assumption | omega | decide))),rp 2 (AV Am)]) func141
theorem A0i(Am:Prod.fst (Is s (Array.toList (ByteArray.data s)) 0 true (Ed (↑(UInt8.toNat (List.getD (Array.toList (ByteArray.data s)) 0 default)):Int)))=false):Pu 141 [.str s] (rB (Prod.snd (Is s (Array.toList (ByteArray.data s)) 0 true (Ed (↑(UInt8.toNat (List.getD (Array.toList (ByteArray.data s)) 0 default)):Int))))):=
 pu A9 (fun e=>[kp,rp 2 (Ar A7),kp,rp 2 (Ar A7),Ar Aa,am ((0:Int)<=0/\0<(↑(ByteArray.size s):Int)),DM s 0,cl (@HC ((↑(UInt8.toNat (List.getD (Array.toList (ByteArray.data s)) 0 default)):Int))),kp,lq (@rPa (s) default (e) (true) (Ed (↑(UInt8.toNat (List.getD (Array.toList (ByteArray.data s)) 0 default)):Int)) (by (apply HD <;> first | assumption | omega | decide))),rp 2 (AM Am)]) func141
end
theorem qW{b:Bool}(h:b=true):CJ b=0:=by rw [h]; rfl
theorem HJ{b:Bool}(h:b=false):CJ b=3:=by rw [h]; rfl
theorem Ph(s:BA):Pu 139 [.str s] (.ret (.int .i64 (CJ (Bz s)))):=by
 by_cases h1:(s.size:Int)<1
 ·rw [HJ (by simp [Bz,aZ h1])]; exact pm A9 [kp,rp 4 (BL h1),rp 9 (bt true)] func139
 ·by_cases h2:(s.size:Int)>24
  ·rw [HJ (by simp [Bz,b7 h2])]; exact pm A9 [kp,rp 2 (Ar h1),kp,rp 2 (Ar h1),rp 5 (BL h2),rp 4 (bt true)] func139
  ·have hz:=A0b h1 h2
   cases h3:Ed (s.data.toList.getD 0 default).toNat with
   | false=>rw [HJ (by unfold Bz; rw [h3]; simp)]; exact pm A9 [kp,rp 2 (Ar h1),kp,rp 2 (Ar h1),rp 2 (Ar h2),am ((0:Int)<=0/\0<(↑(ByteArray.size s):Int)),DM s 0,Ar h2,cl (@HC ((↑(UInt8.toNat (List.getD (Array.toList (ByteArray.data s)) 0 default)):Int))),rp 2 (Ar h2),rp 3 (AV (B0 h3)),bt true] func139
   | true=>
    cases h4:SW s with
    | true=>rw [HJ (by unfold Bz; rw [h4]; simp)]; exact pm A9 [kp,rp 2 (Ar h1),kp,rp 2 (Ar h1),rp 2 (Ar h2),am ((0:Int)<=0/\0<(↑(ByteArray.size s):Int)),DM s 0,Ar h2,cl (@HC ((↑(UInt8.toNat (List.getD (Array.toList (ByteArray.data s)) 0 default)):Int))),rp 2 (Ar h2),rp 2 (AM (AI h3)),cl (@A0a (s)),AM (AI h3),AV h4] func139
    | false=>
     have ha:=A0c h3
     cases h5:(s.data.toList.drop 1).all RK with
     | true=>rw [qW (by unfold Bz; rw [hz,h3,h4,h5]; rfl)]; exact A0e s h1 h2 h3 h4 (by rw [b8,iP (by rw [ha,h5])])
     | false=>rw [HJ (by unfold Bz; rw [hz,h3,h4,h5]; rfl)]; exact A0d s h1 h2 h3 h4 (by rw [b8,iN (by rw [ha,h5]; decide)])
theorem Xa(s:BA):Pu 140 [.str s] (.ret (.int .i64 (CJ (C9 s)))):=by
 by_cases h1:(s.size:Int)<1
 ·rw [HJ (by simp [C9,aZ h1])]; exact pm A9 [kp,rp 4 (BL h1),rp 18 (bt true)] func140
 ·by_cases h2:(s.size:Int)>24
  ·rw [HJ (by simp [C9,b7 h2])]; exact pm A9 [kp,rp 2 (Ar h1),kp,rp 2 (Ar h1),rp 5 (BL h2),rp 13 (bt true)] func140
  ·have hz:=A0b h1 h2
   cases h3:GN (s.data.toList.getD 0 default).toNat with
   | false=>rw [HJ (by unfold C9; rw [h3]; simp)]; exact pm A9 [kp,rp 2 (Ar h1),kp,rp 2 (Ar h1),rp 2 (Ar h2),am ((0:Int)<=0/\0<(↑(ByteArray.size s):Int)),DM s 0,Ar h2,cl (@Nh ((↑(UInt8.toNat (List.getD (Array.toList (ByteArray.data s)) 0 default)):Int))),rp 2 (Ar h2),rp 3 (AV (B0 h3)),rp 10 (bt true)] func140
   | true=>
    by_cases h4:s=mH
    ·rw [HJ (by unfold C9; rw [decide_eq_true h4]; simp)]; exact pm A9 [kp,rp 2 (Ar h1),kp,rp 2 (Ar h1),rp 2 (Ar h2),am ((0:Int)<=0/\0<(↑(ByteArray.size s):Int)),DM s 0,Ar h2,cl (@Nh ((↑(UInt8.toNat (List.getD (Array.toList (ByteArray.data s)) 0 default)):Int))),rp 2 (Ar h2),rp 3 (AM (AI h3)),rp 3 (bt (ByteArray.toList s==ByteArray.toList (ByteArray.mk #[73,110,116])) (BI h4)),rp 7 (bt true)] func140
    ·by_cases h5:s=Vy
     ·rw [HJ (by unfold C9; rw [decide_eq_true h5]; simp)]; exact pm A9 [kp,rp 2 (Ar h1),kp,rp 2 (Ar h1),rp 2 (Ar h2),am ((0:Int)<=0/\0<(↑(ByteArray.size s):Int)),DM s 0,Ar h2,cl (@Nh ((↑(UInt8.toNat (List.getD (Array.toList (ByteArray.data s)) 0 default)):Int))),rp 2 (Ar h2),rp 3 (AM (AI h3)),rp 3 (bf (ByteArray.toList s==ByteArray.toList (ByteArray.mk #[73,110,116])) (Bp h4)),rp 3 (bt (ByteArray.toList s==ByteArray.toList (ByteArray.mk #[66,111,111,108])) (BI h5)),rp 4 (bt true)] func140
     ·by_cases h6:s=Vz
      ·rw [HJ (by unfold C9; rw [decide_eq_true h6]; simp)]; exact pm A9 [kp,rp 2 (Ar h1),kp,rp 2 (Ar h1),rp 2 (Ar h2),am ((0:Int)<=0/\0<(↑(ByteArray.size s):Int)),DM s 0,Ar h2,cl (@Nh ((↑(UInt8.toNat (List.getD (Array.toList (ByteArray.data s)) 0 default)):Int))),rp 2 (Ar h2),rp 3 (AM (AI h3)),rp 3 (bf (ByteArray.toList s==ByteArray.toList (ByteArray.mk #[73,110,116])) (Bp h4)),rp 3 (bf (ByteArray.toList s==ByteArray.toList (ByteArray.mk #[66,111,111,108])) (Bp h5)),rp 3 (bt (ByteArray.toList s==ByteArray.toList (ByteArray.mk #[67,101,108,108])) (BI h6)),bt true] func140
      ·by_cases h7:s=ZV
       ·rw [HJ (by unfold C9; rw [decide_eq_true h7]; simp)]; exact pm A9 [kp,rp 2 (Ar h1),kp,rp 2 (Ar h1),rp 2 (Ar h2),am ((0:Int)<=0/\0<(↑(ByteArray.size s):Int)),DM s 0,Ar h2,cl (@Nh ((↑(UInt8.toNat (List.getD (Array.toList (ByteArray.data s)) 0 default)):Int))),rp 2 (Ar h2),rp 3 (AM (AI h3)),rp 3 (bf (ByteArray.toList s==ByteArray.toList (ByteArray.mk #[73,110,116])) (Bp h4)),rp 3 (bf (ByteArray.toList s==ByteArray.toList (ByteArray.mk #[66,111,111,108])) (Bp h5)),rp 3 (bf (ByteArray.toList s==ByteArray.toList (ByteArray.mk #[67,101,108,108])) (Bp h6)),bt (ByteArray.toList s==ByteArray.toList (ByteArray.mk #[70,117,110])) (BI h7)] func140
       ·cases h8:s.data.toList.all JM with
        | true=>rw [qW (by unfold C9; rw [hz,h3,h8,decide_eq_false h4,decide_eq_false h5,decide_eq_false h6,decide_eq_false h7]; rfl)]; exact A0g s h1 h2 h3 h4 h5 h6 h7 (by rw [b9,iP h8])
        | false=>rw [HJ (by unfold C9; rw [hz,h3,h8]; rfl)]; exact A0f s h1 h2 h3 h4 h5 h6 h7 (by rw [b9,iN (by rw [h8]; decide)])
theorem qX(s:BA):∀ (pre r:List UInt8) (a b:Bool),s.data.toList=pre++r->Is s r pre.length a b=(a&&r.all JM,b&&r.all RK)
 | pre,[],a,b,_=>by simp [Is]
 | pre,c::r,a,b,h=>by
  have hg:s.data.toList.getD pre.length default=c:=by rw [h]; simp [List.getD]
  have ih:=fun a b=>qX s (pre++[c]) r a b (by rw [h]; simp)
  simp only [List.length_append,List.length_cons,List.length_nil,Nat.zero_add] at ih
  have h8:∀b,G1 s a b pre.length=(a&&JM c):=fun b=>by
   unfold G1 JM; rw [hg]
   cases a <;> cases Ed c.toNat <;> cases GN c.toNat <;> simp
  have h9:∀a,HI s a b pre.length=(b&&RK c):=fun a=>by
   unfold HI RK; rw [hg]
   cases b <;> cases Ed c.toNat <;> cases J9 c.toNat <;> simp <;> rfl
  rw [Is,h8,h9,ih,List.all_cons,List.all_cons,Bool.and_assoc,Bool.and_assoc]
theorem A8h(s:BA):Pu 141 [.str s] (.ret (.bool (D6 s))):=by
 by_cases h1:(s.size:Int)<1
 ·rw [show D6 s=false by simp [D6,aZ h1]]; exact pm A9 [kp,rp 4 (BL h1),bt true] func141
 ·by_cases h2:(s.size:Int)>24
  ·rw [show D6 s=false by simp [D6,b7 h2]]; exact pm A9 [kp,rp 2 (Ar h1),kp,rp 2 (Ar h1),BL h2] func141
  ·have hz:=A0b h1 h2
   have he:=qX s [] s.data.toList true (Ed (s.data.toList.getD 0 default).toNat) rfl
   have hw:(Ed (s.data.toList.getD 0 default).toNat&&s.data.toList.all RK)=Gw s.data.toList:=by
    have hl:s.data.toList.length=s.size:=by simp
    generalize s.data.toList=l at hl
    cases l with
    | nil=>simp at hl; omega
    | cons c r=>
     simp only [List.getD_cons_zero,List.all_cons,Gw]
     cases hc:Ed c.toNat with
     | false=>rfl
     | true=>rw [qV hc]; rfl
   simp only [List.length_nil,Bool.true_and,hw] at he
   have hp:D6 s=(s.data.toList.all JM||Gw s.data.toList):=by unfold D6; rw [hz,Bool.true_and]
   rw [hp]
   cases h3:s.data.toList.all JM with
   | true=>exact A0h s h1 h2 (by rw [he]; exact h3)
   | false=>
    rw [Bool.false_or]
    have:=A0i s h1 h2 (by rw [he]; exact h3)
    rw [he] at this
    exact this
theorem pt1{s:BA}{b:Int}{i:Nat}{out:List BA}(hv:0<=b/\b<=(i:Int)/\out.length<=i)(h:i<List.length (s.data.toList)):(0:Int)<=b/\b<=(i:Int)/\(i:Int)<=(s.size:Int):=by
 have:=Lw h; omega
theorem pt2{b:Int}{i:Nat}{out:List BA}{x:BA}(hv:0<=b/\b<=(i:Int)/\out.length<=i):0<=(i:Int)+1/\(i:Int)+1<=((i+1:Nat):Int)/\(out++[x]).length<=i+1:=by
 simp; omega
theorem pt3{b:Int}{i:Nat}{out:List BA}(hv:0<=b/\b<=(i:Int)/\out.length<=i):0<=b/\b<=((i+1:Nat):Int)/\out.length<=i+1:=by omega
abbrev qY(s:BA)(j:Int)(out:List BA)(b:Int)(e:Ext):S:=S.mk [(0,vS s),(2,.v .A2),(3,.uniq 9 1 (Ae out)),(4,A6 b),(7,A6 (↑(ByteArray.size s):Int)),(8,A6 j)] [] e
def Di(s:BA):List UInt8->Nat->(List BA)->(Int)->(List BA) × (Int)
 | [],i,out,b=>(out,b)
 | el::r,i,out,b=>(if (↑(UInt8.toNat el):Int)=46 then Di s r (i+1) (out++[ByteArray.extract s (Int.toNat b) i]) ((i:Int)+1) else Di s r (i+1) (out) (b))
def bA(s:BA)(e:Ext)(p:(List BA) × (Int)):A4 × S:=(.exit 0,S.mk [(0,vS s),(2,.v .A2),(3,.uniq 9 1 (Ae (Prod.fst p))),(4,A6 (Prod.snd p)),(7,A6 (↑(ByteArray.size s):Int))] [] e)
theorem rPt(s:BA)(out:List BA)(b:Int)(e:Ext)(hN:List.length ((s.data.toList))<=1000000000)(hv:0<=b/\b<=(0:Int)/\List.length out<=0):(Ob.loop 31 (Au f138 0) (qY s 0 out b e) (bA s e (Di s ((s.data.toList)) 0 out b)).1 (bA s e (Di s ((s.data.toList)) 0 out b)).2).ok prog:=by
 refine CL (List.length ((s.data.toList))) (fun j zz=>qY s j zz.1 zz.2 e) (fun i zz=>Di s (List.drop i ((s.data.toList))) i zz.1 zz.2) (bA s e) (fun i zz=>(fun (i:Nat) (out:List BA) (b:Int)=>(0<=b/\b<=(i:Int)/\out.length<=i)) i zz.1 zz.2) kR ?_ (out,b) (by first | exact hv | omega)
 rintro i ⟨out,b⟩ hi hv
 try simp only at hv
 rcases Nat.lt_or_ge i (List.length ((s.data.toList))) with Ac | Cm
 ·have hd:=At Ac
  by_cases h0:(↑(UInt8.toNat (List.getD (Array.toList (ByteArray.data s)) i default)):Int)=46
  ·exact lS A9 [dt ((i:Int)<(↑(ByteArray.size s):Int)) (by (apply Lw <;> first | assumption | omega | decide)),am ((0:Int)<=(i:Int)/\(i:Int)<(↑(ByteArray.size s):Int)) (by simp_all [Dc]),DM s i,Bb h0,am ((0:Int)<=b/\b<=(i:Int)/\(i:Int)<=(↑(ByteArray.size s):Int)) (by (apply pt1 <;> first | assumption | omega | decide)),av (vS (ByteArray.extract s (Int.toNat b) (Int.toNat (i:Int)))) (vS (ByteArray.extract s (Int.toNat b) i)) rF,am (List.length (Ae out++(fun x=>Prod.snd x) (0+1,[[.str (ByteArray.extract s (Int.toNat b) i)]])) * (15+1)<=140737488355328) (by (simp only [List.length_append,List.length_cons,List.length_nil,A5]; omega)),rp 2 (wr ((i:Int)+1))] [0,2,3,4,7,8] [] Ac ((out++[ByteArray.extract s (Int.toNat b) i]),((i:Int)+1)) (S.mk [(0,vS s),(2,.v .A2),(3,.uniq 9 1 (Ae out++[[PV.str (ByteArray.extract s (Int.toNat b) i)]])),(4,A6 ((i:Int)+1)),(7,A6 (↑(ByteArray.size s):Int)),(8,A6 ((i:Int)+1))] [] e) ⟨⟨W,W,(.inl (by first | (simp only [List.nil_append,AK,AF,Pr.A1,Tp.A1,Ex.A1,Vr.A1,Df.A1]; done) | (simp only [List.nil_append,AK,AF,Pr.A1,Tp.A1,Ex.A1,Vr.A1,Df.A1]; rfl))),W,W,W,B7⟩,trivial,rfl⟩ (by first | assumption | omega | (apply Lw <;> first | assumption | omega | decide) | (apply jX <;> first | assumption | omega | decide) | (apply bzZ <;> first | assumption | omega | decide) | (apply bzA <;> first | assumption | omega | decide) | (apply pt1 <;> first | assumption | omega | decide) | (apply pt2 <;> first | assumption | omega | decide) | (apply pt3 <;> first | assumption | omega | decide) | (simp only [List.length_append,List.length_cons,List.length_nil] at *; omega) | simp_all) (by rw [hd,Di,iP h0])
  ·exact lN A9 [dt ((i:Int)<(↑(ByteArray.size s):Int)) (by (apply Lw <;> first | assumption | omega | decide)),am ((0:Int)<=(i:Int)/\(i:Int)<(↑(ByteArray.size s):Int)) (by simp_all [Dc]),DM s i,Ay h0,wr ((i:Int)+1)] Ac ((out),(b)) (by first | assumption | omega | (apply Lw <;> first | assumption | omega | decide) | (apply jX <;> first | assumption | omega | decide) | (apply bzZ <;> first | assumption | omega | decide) | (apply bzA <;> first | assumption | omega | decide) | (apply pt1 <;> first | assumption | omega | decide) | (apply pt2 <;> first | assumption | omega | decide) | (apply pt3 <;> first | assumption | omega | decide) | (simp only [List.length_append,List.length_cons,List.length_nil] at *; omega) | simp_all) (by rw [hd,Di,iN h0])
 ·have he:i=List.length ((s.data.toList)):=by omega
  exact lX A9 [df ((i:Int)<(↑(ByteArray.size s):Int)) (by (apply jX <;> first | assumption | omega | decide))] (out,b) (by rw [he,List.drop_length,Di])
theorem bB(s:BA):∀ (r:List UInt8) (i:Nat) (out:List BA) (b:Nat),b<=i->(Di s r i out (b:Int)).1.length<=out.length+r.length/\∃b':Nat,(Di s r i out (b:Int)).2=(b':Int)/\b'<=i+r.length
 | [],i,out,b,h=>⟨by simp [Di],b,rfl,by simp; omega⟩
 | c::r,i,out,b,h=>by
  rw [Di]
  split
  ·obtain ⟨h1,b',h2,h3⟩:=bB s r (i+1) (out++[s.extract (Int.toNat b) i]) (i+1) (Nat.le_refl _)
   rw [show ((i:Int)+1)=((i+1:Nat):Int) by omega]
   exact ⟨by simp only [List.length_append,List.length_cons,List.length_nil] at h1 ⊢; omega,b',h2,by simp only [List.length_cons]; omega⟩
  ·obtain ⟨h1,b',h2,h3⟩:=bB s r (i+1) out b oM
   exact ⟨by simp only [List.length_cons]; omega,b',h2,by simp only [List.length_cons]; omega⟩
theorem Agh(s:BA)(hs:s.size<=1000000000)(h2:0<=(Di s (s.data.toList) 0 [] 0).2/\(Di s (s.data.toList) 0 [] 0).2<=(s.size:Int))(h3:(Di s (s.data.toList) 0 [] 0).1.length<=1000000000):Pu 138 [.str s] (.own 9 1 (Ae (Prod.fst (Di s (Array.toList (ByteArray.data s)) 0 [] 0))++[[PV.str (ByteArray.extract s (Int.toNat (Prod.snd (Di s (Array.toList (ByteArray.data s)) 0 [] 0))) (ByteArray.size s))]])):=
 pu A9 (fun e=>[kp,lp (S.mk [(0,vS s),(2,.v .A2),(3,.v .A2),(4,A6 0),(7,A6 (↑(ByteArray.size s):Int)),(8,A6 0)] [] e) (@rPt (s) ([]) (0) (e) (by (apply HD <;> first | assumption | omega | decide)) dD) ⟨⟨W,W,Wq,W,W,W,B7⟩,trivial,rfl⟩,am ((0:Int)<=Prod.snd (Di s (Array.toList (ByteArray.data s)) 0 [] 0)/\Prod.snd (Di s (Array.toList (ByteArray.data s)) 0 [] 0)<=(↑(ByteArray.size s):Int)/\(↑(ByteArray.size s):Int)<=(↑(ByteArray.size s):Int)),av (vS (ByteArray.extract s (Int.toNat (Prod.snd (Di s (Array.toList (ByteArray.data s)) 0 [] 0))) (Int.toNat (↑(ByteArray.size s):Int)))) (vS (ByteArray.extract s (Int.toNat (Prod.snd (Di s (Array.toList (ByteArray.data s)) 0 [] 0))) (ByteArray.size s))) rF,am (List.length (Ae (Prod.fst (Di s (Array.toList (ByteArray.data s)) 0 [] 0))++(fun x=>Prod.snd x) (0+1,[[.str (ByteArray.extract s (Int.toNat (Prod.snd (Di s (Array.toList (ByteArray.data s)) 0 [] 0))) (ByteArray.size s))]])) * (15+1)<=140737488355328) (by (simp only [List.length_append,List.length_cons,List.length_nil,A5,Int.toNat_zero]; omega))]) func138
def XE:Nat->BA->List BA
 | 0,s=>[s]
 | n+1,s=>if BW s<s.size then s.extract 0 (BW s)::XE n (s.extract (BW s+1) s.size) else [s]
theorem qZ(s:BA)(b:Nat):(s.extract b s.size).data.toList=s.data.toList.drop b:=by
 rw [ByteArray.data_extract,Array.toList_extract,List.extract_eq_take_drop]
 exact List.take_of_length_le (by rw [List.length_drop,Array.length_toList]; exact Nat.le_refl _)
theorem bC(s:BA):∀ (pre r:List UInt8) (out:List BA) (b n:Nat),s.data.toList=pre++r->b<=pre.length->VA (s.data.toList.drop b)=pre.length - b+VA r->s.size - b<n ->
  (Di s r pre.length out (b:Int)).1++[s.extract (Di s r pre.length out (b:Int)).2.toNat s.size]=out++XE n (s.extract b s.size)
 | pre,r,out,b,0,_,_,_,h=>by omega
 | pre,[],out,b,n+1,h,hb,hp,_=>by
  have hl:s.size=pre.length:=by rw [show s.size=s.data.toList.length by simp,h]; simp
  have h2:BW (s.extract b s.size)=s.size - b:=by rw [BW,qZ,hp,hl]; rfl
  rw [Di,XE,iN (by rw [h2,ByteArray.size_extract]; omega)]
  rfl
 | pre,c::r,out,b,n+1,h,hb,hp,hn=>by
  have hl:s.size=pre.length+(r.length+1):=by rw [show s.size=s.data.toList.length by simp,h]; simp
  have hd:s.data.toList.drop (pre.length+1)=r:=by rw [h]; simp
  rw [Di]
  by_cases hc:((c.toNat:Nat):Int)=46
  ·have h2:BW (s.extract b s.size)=pre.length - b:=by rw [BW,qZ,hp]; simp [VA,hc]
   have ih:=bC s (pre++[c]) r (out++[s.extract b pre.length]) (pre.length+1) n (by rw [h]; simp) sM (by rw [hd]; simp) oM
   simp only [List.length_append,List.length_cons,List.length_nil,Nat.zero_add] at ih
   rw [iP hc,show ((pre.length:Int)+1)=((pre.length+1:Nat):Int) by omega,Int.toNat_natCast,ih,XE,iP (by rw [h2,ByteArray.size_extract]; omega),h2,ByteArray.extract_extract,ByteArray.extract_extract,List.append_assoc,ByteArray.size_extract]
   have e1:min (b+(pre.length - b)) s.size=pre.length:=by omega
   have e2:b+(pre.length - b+1)=pre.length+1:=by omega
   have e3:min (b+(min s.size s.size - b)) s.size=s.size:=by omega
   rw [e1,e2,e3]; rfl
  ·have hi:VA (c::r)=VA r+1:=by simp [VA,hc]
   have ih:=bC s (pre++[c]) r out b (n+1) (by rw [h]; simp) (by simp; omega) (by rw [hp,hi]; simp; omega) hn
   simp only [List.length_append,List.length_cons,List.length_nil,Nat.zero_add] at ih
   rw [iN hc,ih]
theorem bD:∀ (n:Nat) (s:BA),s.size<n->Oz s=(XE n s).all D6
 | 0,_,h=>by omega
 | n+1,s,h=>by
  rw [Un,XE]
  by_cases hx:BW s<s.size
  ·have:=Ku s hx
   rw [iP hx,iP hx,List.all_cons,bD n _ oM]
  ·rw [iN hx,iN hx]; simp
def k9(s:BA):BA:=if BW s<s.size then s.extract 0 (BW s) else s
def VG(s:BA):List BA:=if BW s<s.size then XE (s.size+1) (s.extract (BW s+1) s.size) else []
theorem Agi(s:BA)(hs:s.size<=100000000):Pu 138 [.str s] (.own 9 1 ([.str (k9 s)]::Ae (VG s))):=by
 obtain ⟨h1,b',h2,h3⟩:=bB s s.data.toList 0 [] 0 (Nat.le_refl _)
 have hl:s.data.toList.length=s.size:=by simp
 have h0:=Agh s oM (by rw [show (0:Int)=((0:Nat):Int) from rfl,h2]; omega) (by rw [show (0:Int)=((0:Nat):Int) from rfl]; simp only [List.length_nil] at h1; omega)
 have he:=bC s [] s.data.toList [] 0 (s.size+2) rfl (Nat.le_refl _) sM oM
 simp only [List.length_nil,List.nil_append,ByteArray.extract_zero_size] at he
 have hn:Ae ((Di s s.data.toList 0 [] 0).1++[s.extract (Di s s.data.toList 0 [] 0).2.toNat s.size])=[.str (k9 s)]::Ae (VG s):=by
  rw [show (0:Int)=((0:Nat):Int) from rfl,he]
  unfold k9 VG
  rw [XE]
  by_cases hx:BW s<s.size
  ·rw [iP hx,iP hx,iP hx]; rfl
  ·rw [iN hx,iN hx,iN hx]; rfl
 rw [<-hn,AF]
 exact h0
theorem dtk(x:List PV)(r:List BA):List.drop 1 (List.take (r.length+1) (x::Ae r))=Ae r:=by
 rw [List.take_succ_cons,List.drop_succ_cons,List.drop_zero]
 exact List.take_of_length_le (by rw [A5]; exact Nat.le_refl _)
abbrev Xb(t:Tp)(xe:Ext):S:=⟨[(1,.lp 1 0),(2,.v (.int .i64 0))],[(1,Cz t)],xe⟩
abbrev A0j(t:Tp)(Dw:Bool)(xe:Ext):S:=⟨[(1,.lp 1 0),(2,.v (.int .i64 0)),(3,.v (.bool Dw))],[(1,Cz t)],xe⟩
abbrev VH(t:Tp)(Dw cmp:Bool)(xe:Ext):S:=⟨[(1,.lp 1 0),(2,.v (.int .i64 0)),(3,.v (.bool Dw)),(4,.v (.bool cmp))],[(1,Cz t)],xe⟩
theorem A8i(t:Tp)(xe:Ext)(A7:AB t=4)(cx:Cx)(Aw:cx.n=102){Q:A4->S->Prop}(hq:Q (.normal) (S.mk [(1,.lp 1 0),(2,A6 0),(3,.v (.bool true))] [(1,Cz t)] xe)):PW prog cx (AS f122 1) (Xb t xe) Q:=
 pw A9 102 [rp 4 (Bb A7)] [1,2,3] [1] Aw hq
theorem A8j(t:Tp)(xe:Ext)(A7:¬AB t=4)(cx:Cx)(Aw:cx.n=102){Q:A4->S->Prop}(hq:Q (.normal) (S.mk [(1,.lp 1 0),(2,A6 0),(3,.v (.bool (AB t==5)))] [(1,Cz t)] xe)):PW prog cx (AS f122 1) (Xb t xe) Q:=
 pw A9 102 [rp 4 (Ay A7)] [1,2,3] [1] Aw hq
def BB(t:Tp):Bool:=(if AB t=4 then (true) else ((AB t==5)))
theorem T1(t:Tp)(xe:Ext):(Ob.ES 102 (AS f122 1) (Xb t xe) (.normal) (S.mk [(1,.lp 1 0),(2,A6 0),(3,.v (.bool (BB t)))] [(1,Cz t)] xe)).ok prog:=by
 intro cx Aw
 by_cases g0:AB t=4
 ·exact A8i t xe g0 cx Aw ⟨rfl,by rw [show BB t=(true) by unfold BB; rw [iP g0]]⟩
 ·exact A8j t xe g0 cx Aw ⟨rfl,by rw [show BB t=((AB t==5)) by unfold BB; rw [iN g0]]⟩
theorem A8k(t:Tp)(Dw:Bool)(xe:Ext)(A7:AB t=4)(cx:Cx)(Aw:cx.n=102){Q:A4->S->Prop}(hq:Q (.normal) (S.mk [(1,.lp 1 0),(2,A6 0),(3,.v (.bool Dw)),(4,.v (.bool true))] [(1,Cz t)] xe)):PW prog cx (AS f122 2) (A0j t Dw xe) Q:=
 pw A9 102 [rp 4 (Bb A7)] [1,2,3,4] [1] Aw hq
theorem A8l(t:Tp)(Dw:Bool)(xe:Ext)(A7:¬AB t=4)(cx:Cx)(Aw:cx.n=102){Q:A4->S->Prop}(hq:Q (.normal) (S.mk [(1,.lp 1 0),(2,A6 0),(3,.v (.bool Dw)),(4,.v (.bool (AB t==6)))] [(1,Cz t)] xe)):PW prog cx (AS f122 2) (A0j t Dw xe) Q:=
 pw A9 102 [rp 4 (Ay A7)] [1,2,3,4] [1] Aw hq
def DV(t:Tp)(Dw:Bool):Bool:=(if AB t=4 then (true) else ((AB t==6)))
theorem T2(t:Tp)(Dw:Bool)(xe:Ext):(Ob.ES 102 (AS f122 2) (A0j t Dw xe) (.normal) (S.mk [(1,.lp 1 0),(2,A6 0),(3,.v (.bool Dw)),(4,.v (.bool (DV t Dw)))] [(1,Cz t)] xe)).ok prog:=by
 intro cx Aw
 by_cases g0:AB t=4
 ·exact A8k t Dw xe g0 cx Aw ⟨rfl,by rw [show DV t Dw=(true) by unfold DV; rw [iP g0]]⟩
 ·exact A8l t Dw xe g0 cx Aw ⟨rfl,by rw [show DV t Dw=((AB t==6)) by unfold DV; rw [iN g0]]⟩
section
variable (t:Tp) (Dw cmp:Bool) (xe:Ext)
include t Dw cmp xe
theorem A8m(A7:AB t<1)(cx:Cx)(Aw:cx.n=102){Q:A4->S->Prop}(hq:Q (.normal) (S.mk [(1,.lp 1 0),(2,A6 0),(3,.v (.bool Dw)),(4,.v (.bool cmp)),(63,.v (.bool true))] [(1,Cz t)] xe)):PW prog cx (AS f122 3) (VH t Dw cmp xe) Q:=
 pw A9 102 [rp 4 (BL A7),rp 20 (bt true)] [1,2,3,4,63] [1] Aw hq
theorem A8n(A7:¬AB t<1)(Aa:AB t>6)(cx:Cx)(Aw:cx.n=102){Q:A4->S->Prop}(hq:Q (.normal) (S.mk [(1,.lp 1 0),(2,A6 0),(3,.v (.bool Dw)),(4,.v (.bool cmp)),(63,.v (.bool true))] [(1,Cz t)] xe)):PW prog cx (AS f122 3) (VH t Dw cmp xe) Q:=
 pw A9 102 [rp 4 (Ar A7),rp 6 (BL Aa),rp 14 (bt true)] [1,2,3,4,63] [1] Aw hq
theorem A8o(A7:¬AB t<1)(Aa:¬AB t>6)(Am:¬An t=ByteArray.mk #[])(Az:Dw=false)(cx:Cx)(Aw:cx.n=102){Q:A4->S->Prop}(hq:Q (.normal) (S.mk [(1,.lp 1 0),(2,A6 0),(3,.v (.bool Dw)),(4,.v (.bool cmp)),(63,.v (.bool true))] [(1,Cz t)] xe)):PW prog cx (AS f122 3) (VH t Dw cmp xe) Q:=
 pw A9 102 [rp 4 (Ar A7),rp 4 (Ar Aa),rp 2 (bt (!ByteArray.toList (An t)==ByteArray.toList Ai) (B0 (Bp Am))),Ar Aa,bt (!ByteArray.toList (An t)==ByteArray.toList Ai) (B0 (Bp Am)),Ar Aa,rp 7 (AV (B0 Az)),rp 7 (bt true)] [1,2,3,4,63] [1] Aw hq
theorem A8p(A7:¬AB t<1)(Aa:¬AB t>6)(Am:¬An t=ByteArray.mk #[])(Az:Dw=true)(AP:((Ab t).length:Int)>0)(Bu:cmp=false)(cx:Cx)(Aw:cx.n=102){Q:A4->S->Prop}(hq:Q (.normal) (S.mk [(1,.lp 1 0),(2,A6 0),(3,.v (.bool Dw)),(4,.v (.bool cmp)),(63,.v (.bool true))] [(1,Cz t)] xe)):PW prog cx (AS f122 3) (VH t Dw cmp xe) Q:=
 pw A9 102 [rp 4 (Ar A7),rp 4 (Ar Aa),rp 2 (bt (!ByteArray.toList (An t)==ByteArray.toList Ai) (B0 (Bp Am))),Ar Aa,bt (!ByteArray.toList (An t)==ByteArray.toList Ai) (B0 (Bp Am)),Ar Aa,rp 3 (AM (AI Az)),sl (Tp.A0 (Ab t)),rp 2 (AM (AI Az)),rp 2 (BL AP),AM (AI Az),BL AP,AM (AI Az),rp 7 (AV (B0 Bu))] [1,2,3,4,63] [1] Aw hq
theorem A8q(A7:¬AB t<1)(Aa:¬AB t>6)(Am:¬An t=ByteArray.mk #[])(Az:Dw=true)(AP:((Ab t).length:Int)>0)(Bu:cmp=true)(En:((Ag t).length:Int)>0)(cx:Cx)(Aw:cx.n=102){Q:A4->S->Prop}(hq:Q (.normal) (S.mk [(1,.lp 1 0),(2,A6 0),(3,.v (.bool Dw)),(4,.v (.bool cmp)),(63,.v (.bool (AB t != 6)))] [(1,Cz t)] xe)):PW prog cx (AS f122 3) (VH t Dw cmp xe) Q:=
 pw A9 102 [rp 4 (Ar A7),rp 4 (Ar Aa),rp 2 (bt (!ByteArray.toList (An t)==ByteArray.toList Ai) (B0 (Bp Am))),Ar Aa,bt (!ByteArray.toList (An t)==ByteArray.toList Ai) (B0 (Bp Am)),Ar Aa,rp 3 (AM (AI Az)),sl (Tp.A0 (Ab t)),rp 2 (AM (AI Az)),rp 2 (BL AP),AM (AI Az),BL AP,AM (AI Az),rp 3 (AM (AI Bu)),sl (A5 (Ag t)),rp 2 (AM (AI Bu)),rp 3 (BL En),AM (AI Bu),BL En,AM (AI Bu)] [1,2,3,4,63] [1] Aw hq
theorem A8r(A7:¬AB t<1)(Aa:¬AB t>6)(Am:¬An t=ByteArray.mk #[])(Az:Dw=true)(AP:((Ab t).length:Int)>0)(Bu:cmp=true)(En:¬((Ag t).length:Int)>0)(cx:Cx)(Aw:cx.n=102){Q:A4->S->Prop}(hq:Q (.normal) (S.mk [(1,.lp 1 0),(2,A6 0),(3,.v (.bool Dw)),(4,.v (.bool cmp)),(63,.v (.bool false))] [(1,Cz t)] xe)):PW prog cx (AS f122 3) (VH t Dw cmp xe) Q:=
 pw A9 102 [rp 4 (Ar A7),rp 4 (Ar Aa),rp 2 (bt (!ByteArray.toList (An t)==ByteArray.toList Ai) (B0 (Bp Am))),Ar Aa,bt (!ByteArray.toList (An t)==ByteArray.toList Ai) (B0 (Bp Am)),Ar Aa,rp 3 (AM (AI Az)),sl (Tp.A0 (Ab t)),rp 2 (AM (AI Az)),rp 2 (BL AP),AM (AI Az),BL AP,AM (AI Az),rp 3 (AM (AI Bu)),sl (A5 (Ag t)),rp 2 (AM (AI Bu)),rp 3 (Ar En),AM (AI Bu),Ar En,AM (AI Bu)] [1,2,3,4,63] [1] Aw hq
theorem A8s(A7:¬AB t<1)(Aa:¬AB t>6)(Am:¬An t=ByteArray.mk #[])(Az:Dw=true)(AP:¬((Ab t).length:Int)>0)(Bu:((Ag t).length:Int)>0)(cx:Cx)(Aw:cx.n=102){Q:A4->S->Prop}(hq:Q (.normal) (S.mk [(1,.lp 1 0),(2,A6 0),(3,.v (.bool Dw)),(4,.v (.bool cmp)),(63,.v (.bool (AB t != 6)))] [(1,Cz t)] xe)):PW prog cx (AS f122 3) (VH t Dw cmp xe) Q:=
 pw A9 102 [rp 4 (Ar A7),rp 4 (Ar Aa),rp 2 (bt (!ByteArray.toList (An t)==ByteArray.toList Ai) (B0 (Bp Am))),Ar Aa,bt (!ByteArray.toList (An t)==ByteArray.toList Ai) (B0 (Bp Am)),Ar Aa,rp 3 (AM (AI Az)),sl (Tp.A0 (Ab t)),rp 2 (AM (AI Az)),rp 2 (Ar AP),AM (AI Az),Ar AP,AM (AI Az),rp 3 (bf false),sl (A5 (Ag t)),rp 2 (bf false),rp 3 (BL Bu),bf false,BL Bu,bf false] [1,2,3,4,63] [1] Aw hq
theorem A8t(A7:¬AB t<1)(Aa:¬AB t>6)(Am:¬An t=ByteArray.mk #[])(Az:Dw=true)(AP:¬((Ab t).length:Int)>0)(Bu:¬((Ag t).length:Int)>0)(cx:Cx)(Aw:cx.n=102){Q:A4->S->Prop}(hq:Q (.normal) (S.mk [(1,.lp 1 0),(2,A6 0),(3,.v (.bool Dw)),(4,.v (.bool cmp)),(63,.v (.bool false))] [(1,Cz t)] xe)):PW prog cx (AS f122 3) (VH t Dw cmp xe) Q:=
 pw A9 102 [rp 4 (Ar A7),rp 4 (Ar Aa),rp 2 (bt (!ByteArray.toList (An t)==ByteArray.toList Ai) (B0 (Bp Am))),Ar Aa,bt (!ByteArray.toList (An t)==ByteArray.toList Ai) (B0 (Bp Am)),Ar Aa,rp 3 (AM (AI Az)),sl (Tp.A0 (Ab t)),rp 2 (AM (AI Az)),rp 2 (Ar AP),AM (AI Az),Ar AP,AM (AI Az),rp 3 (bf false),sl (A5 (Ag t)),rp 2 (bf false),rp 3 (Ar Bu),bf false,Ar Bu,bf false] [1,2,3,4,63] [1] Aw hq
theorem A8u(A7:¬AB t<1)(Aa:¬AB t>6)(Am:An t=ByteArray.mk #[])(Az:((Ab t).length:Int)>0)(AP:cmp=false)(cx:Cx)(Aw:cx.n=102){Q:A4->S->Prop}(hq:Q (.normal) (S.mk [(1,.lp 1 0),(2,A6 0),(3,.v (.bool Dw)),(4,.v (.bool cmp)),(63,.v (.bool true))] [(1,Cz t)] xe)):PW prog cx (AS f122 3) (VH t Dw cmp xe) Q:=
 pw A9 102 [rp 4 (Ar A7),rp 4 (Ar Aa),rp 2 (bf (!ByteArray.toList (An t)==ByteArray.toList Ai) (AI (BI Am))),Ar Aa,bf (!ByteArray.toList (An t)==ByteArray.toList Ai) (AI (BI Am)),Ar Aa,rp 3 (bf false),sl (Tp.A0 (Ab t)),rp 2 (bf false),rp 2 (BL Az),bf false,BL Az,bf false,rp 7 (AV (B0 AP))] [1,2,3,4,63] [1] Aw hq
theorem A0k(A7:¬AB t<1)(Aa:¬AB t>6)(Am:An t=ByteArray.mk #[])(Az:((Ab t).length:Int)>0)(AP:cmp=true)(Bu:((Ag t).length:Int)>0)(cx:Cx)(Aw:cx.n=102){Q:A4->S->Prop}(hq:Q (.normal) (S.mk [(1,.lp 1 0),(2,A6 0),(3,.v (.bool Dw)),(4,.v (.bool cmp)),(63,.v (.bool (AB t != 6)))] [(1,Cz t)] xe)):PW prog cx (AS f122 3) (VH t Dw cmp xe) Q:=
 pw A9 102 [rp 4 (Ar A7),rp 4 (Ar Aa),rp 2 (bf (!ByteArray.toList (An t)==ByteArray.toList Ai) (AI (BI Am))),Ar Aa,bf (!ByteArray.toList (An t)==ByteArray.toList Ai) (AI (BI Am)),Ar Aa,rp 3 (bf false),sl (Tp.A0 (Ab t)),rp 2 (bf false),rp 2 (BL Az),bf false,BL Az,bf false,rp 3 (AM (AI AP)),sl (A5 (Ag t)),rp 2 (AM (AI AP)),rp 3 (BL Bu),AM (AI AP),BL Bu,AM (AI AP)] [1,2,3,4,63] [1] Aw hq
theorem A0l(A7:¬AB t<1)(Aa:¬AB t>6)(Am:An t=ByteArray.mk #[])(Az:((Ab t).length:Int)>0)(AP:cmp=true)(Bu:¬((Ag t).length:Int)>0)(cx:Cx)(Aw:cx.n=102){Q:A4->S->Prop}(hq:Q (.normal) (S.mk [(1,.lp 1 0),(2,A6 0),(3,.v (.bool Dw)),(4,.v (.bool cmp)),(63,.v (.bool false))] [(1,Cz t)] xe)):PW prog cx (AS f122 3) (VH t Dw cmp xe) Q:=
 pw A9 102 [rp 4 (Ar A7),rp 4 (Ar Aa),rp 2 (bf (!ByteArray.toList (An t)==ByteArray.toList Ai) (AI (BI Am))),Ar Aa,bf (!ByteArray.toList (An t)==ByteArray.toList Ai) (AI (BI Am)),Ar Aa,rp 3 (bf false),sl (Tp.A0 (Ab t)),rp 2 (bf false),rp 2 (BL Az),bf false,BL Az,bf false,rp 3 (AM (AI AP)),sl (A5 (Ag t)),rp 2 (AM (AI AP)),rp 3 (Ar Bu),AM (AI AP),Ar Bu,AM (AI AP)] [1,2,3,4,63] [1] Aw hq
theorem A0m(A7:¬AB t<1)(Aa:¬AB t>6)(Am:An t=ByteArray.mk #[])(Az:¬((Ab t).length:Int)>0)(AP:((Ag t).length:Int)>0)(cx:Cx)(Aw:cx.n=102){Q:A4->S->Prop}(hq:Q (.normal) (S.mk [(1,.lp 1 0),(2,A6 0),(3,.v (.bool Dw)),(4,.v (.bool cmp)),(63,.v (.bool (AB t != 6)))] [(1,Cz t)] xe)):PW prog cx (AS f122 3) (VH t Dw cmp xe) Q:=
 pw A9 102 [rp 4 (Ar A7),rp 4 (Ar Aa),rp 2 (bf (!ByteArray.toList (An t)==ByteArray.toList Ai) (AI (BI Am))),Ar Aa,bf (!ByteArray.toList (An t)==ByteArray.toList Ai) (AI (BI Am)),Ar Aa,rp 3 (bf false),sl (Tp.A0 (Ab t)),rp 2 (bf false),rp 2 (Ar Az),bf false,Ar Az,rp 4 (bf false),sl (A5 (Ag t)),rp 2 (bf false),rp 3 (BL AP),bf false,BL AP,bf false] [1,2,3,4,63] [1] Aw hq
theorem A0n(A7:¬AB t<1)(Aa:¬AB t>6)(Am:An t=ByteArray.mk #[])(Az:¬((Ab t).length:Int)>0)(AP:¬((Ag t).length:Int)>0)(cx:Cx)(Aw:cx.n=102){Q:A4->S->Prop}(hq:Q (.normal) (S.mk [(1,.lp 1 0),(2,A6 0),(3,.v (.bool Dw)),(4,.v (.bool cmp)),(63,.v (.bool false))] [(1,Cz t)] xe)):PW prog cx (AS f122 3) (VH t Dw cmp xe) Q:=
 pw A9 102 [rp 4 (Ar A7),rp 4 (Ar Aa),rp 2 (bf (!ByteArray.toList (An t)==ByteArray.toList Ai) (AI (BI Am))),Ar Aa,bf (!ByteArray.toList (An t)==ByteArray.toList Ai) (AI (BI Am)),Ar Aa,rp 3 (bf false),sl (Tp.A0 (Ab t)),rp 2 (bf false),rp 2 (Ar Az),bf false,Ar Az,rp 4 (bf false),sl (A5 (Ag t)),rp 2 (bf false),rp 3 (Ar AP),bf false,Ar AP,bf false] [1,2,3,4,63] [1] Aw hq
end
def BF(t:Tp)(Dw cmp:Bool):Bool:=(if AB t<1 then (true) else (if AB t>6 then (true) else (if An t=ByteArray.mk #[] then (if ((Ab t).length:Int)>0 then (if cmp=true then (if ((Ag t).length:Int)>0 then ((AB t != 6)) else (false)) else (true)) else (if ((Ag t).length:Int)>0 then ((AB t != 6)) else (false))) else (if Dw=true then (if ((Ab t).length:Int)>0 then (if cmp=true then (if ((Ag t).length:Int)>0 then ((AB t != 6)) else (false)) else (true)) else (if ((Ag t).length:Int)>0 then ((AB t != 6)) else (false))) else (true)))))
theorem T3(t:Tp)(Dw cmp:Bool)(xe:Ext):(Ob.ES 102 (AS f122 3) (VH t Dw cmp xe) (.normal) (S.mk [(1,.lp 1 0),(2,A6 0),(3,.v (.bool Dw)),(4,.v (.bool cmp)),(63,.v (.bool (BF t Dw cmp)))] [(1,Cz t)] xe)).ok prog:=by
 intro cx Aw
 by_cases g0:AB t<1
 ·exact A8m t Dw cmp xe g0 cx Aw ⟨rfl,by rw [show BF t Dw cmp=(true) by unfold BF; rw [iP g0]]⟩
 ·by_cases g1:AB t>6
  ·exact A8n t Dw cmp xe g0 g1 cx Aw ⟨rfl,by rw [show BF t Dw cmp=(true) by unfold BF; rw [iN g0,iP g1]]⟩
  ·by_cases g2:An t=ByteArray.mk #[]
   ·by_cases g3:((Ab t).length:Int)>0
    ·by_cases g4:cmp=true
     ·by_cases g5:((Ag t).length:Int)>0
      ·exact A0k t Dw cmp xe g0 g1 g2 g3 g4 g5 cx Aw ⟨rfl,by rw [show BF t Dw cmp=((AB t != 6)) by unfold BF; rw [iN g0,iN g1,iP g2,iP g3,iP g4,iP g5]]⟩
      ·exact A0l t Dw cmp xe g0 g1 g2 g3 g4 g5 cx Aw ⟨rfl,by rw [show BF t Dw cmp=(false) by unfold BF; rw [iN g0,iN g1,iP g2,iP g3,iP g4,iN g5]]⟩
     ·exact A8u t Dw cmp xe g0 g1 g2 g3 (Bool.eq_false_iff.2 g4) cx Aw ⟨rfl,by rw [show BF t Dw cmp=(true) by unfold BF; rw [iN g0,iN g1,iP g2,iP g3,iN g4]]⟩
    ·by_cases g4:((Ag t).length:Int)>0
     ·exact A0m t Dw cmp xe g0 g1 g2 g3 g4 cx Aw ⟨rfl,by rw [show BF t Dw cmp=((AB t != 6)) by unfold BF; rw [iN g0,iN g1,iP g2,iN g3,iP g4]]⟩
     ·exact A0n t Dw cmp xe g0 g1 g2 g3 g4 cx Aw ⟨rfl,by rw [show BF t Dw cmp=(false) by unfold BF; rw [iN g0,iN g1,iP g2,iN g3,iN g4]]⟩
   ·by_cases g3:Dw=true
    ·by_cases g4:((Ab t).length:Int)>0
     ·by_cases g5:cmp=true
      ·by_cases g6:((Ag t).length:Int)>0
       ·exact A8q t Dw cmp xe g0 g1 g2 g3 g4 g5 g6 cx Aw ⟨rfl,by rw [show BF t Dw cmp=((AB t != 6)) by unfold BF; rw [iN g0,iN g1,iN g2,iP g3,iP g4,iP g5,iP g6]]⟩
       ·exact A8r t Dw cmp xe g0 g1 g2 g3 g4 g5 g6 cx Aw ⟨rfl,by rw [show BF t Dw cmp=(false) by unfold BF; rw [iN g0,iN g1,iN g2,iP g3,iP g4,iP g5,iN g6]]⟩
      ·exact A8p t Dw cmp xe g0 g1 g2 g3 g4 (Bool.eq_false_iff.2 g5) cx Aw ⟨rfl,by rw [show BF t Dw cmp=(true) by unfold BF; rw [iN g0,iN g1,iN g2,iP g3,iP g4,iN g5]]⟩
     ·by_cases g5:((Ag t).length:Int)>0
      ·exact A8s t Dw cmp xe g0 g1 g2 g3 g4 g5 cx Aw ⟨rfl,by rw [show BF t Dw cmp=((AB t != 6)) by unfold BF; rw [iN g0,iN g1,iN g2,iP g3,iN g4,iP g5]]⟩
      ·exact A8t t Dw cmp xe g0 g1 g2 g3 g4 g5 cx Aw ⟨rfl,by rw [show BF t Dw cmp=(false) by unfold BF; rw [iN g0,iN g1,iN g2,iP g3,iN g4,iN g5]]⟩
    ·exact A8o t Dw cmp xe g0 g1 g2 (Bool.eq_false_iff.2 g3) cx Aw ⟨rfl,by rw [show BF t Dw cmp=(true) by unfold BF; rw [iN g0,iN g1,iN g2,iN g3]]⟩
section
variable (t:Tp) (xe:Ext) (hn:CJ (BE (An t))=0)
include t xe hn
theorem A0o(A7:(↑(UInt8.toNat (List.getD (Array.toList (ByteArray.data (An t))) 0 default)):Int)>=65)(cx:Cx)(Aw:cx.n=102){Q:A4->S->Prop}(hq:Q (.normal) (S.mk [(1,.lp 1 0),(2,A6 0),(6,.v (.bool (decide ((↑(UInt8.toNat (List.getD (Array.toList (ByteArray.data (An t))) 0 default)):Int)<=90))))] [(1,Cz t)] xe)):PW prog cx (AS f122 11) (Xb t xe) Q:=
 pw A9 102 [am ((0:Int)<=0/\0<(↑(ByteArray.size (An t)):Int)) (by (apply FH <;> first | assumption | omega | decide)),DM (An t) 0,rp 3 (BL A7),am ((0:Int)<=0/\0<(↑(ByteArray.size (An t)):Int)) (by (apply FH <;> first | assumption | omega | decide)),DM (An t) 0,rp 2 (BL A7)] [1,2,6] [1] Aw hq
theorem A0p(A7:¬(↑(UInt8.toNat (List.getD (Array.toList (ByteArray.data (An t))) 0 default)):Int)>=65)(cx:Cx)(Aw:cx.n=102){Q:A4->S->Prop}(hq:Q (.normal) (S.mk [(1,.lp 1 0),(2,A6 0),(6,.v (.bool false))] [(1,Cz t)] xe)):PW prog cx (AS f122 11) (Xb t xe) Q:=
 pw A9 102 [am ((0:Int)<=0/\0<(↑(ByteArray.size (An t)):Int)) (by (apply FH <;> first | assumption | omega | decide)),DM (An t) 0,rp 5 (Ar A7)] [1,2,6] [1] Aw hq
end
def Ec(t:Tp):Bool:=(if (↑(UInt8.toNat (List.getD (Array.toList (ByteArray.data (An t))) 0 default)):Int)>=65 then ((decide ((↑(UInt8.toNat (List.getD (Array.toList (ByteArray.data (An t))) 0 default)):Int)<=90))) else (false))
theorem bE(t:Tp)(xe:Ext)(hn:CJ (BE (An t))=0):(Ob.ES 102 (AS f122 11) (Xb t xe) (.normal) (S.mk [(1,.lp 1 0),(2,A6 0),(6,.v (.bool (Ec t)))] [(1,Cz t)] xe)).ok prog:=by
 intro cx Aw
 by_cases g0:(↑(UInt8.toNat (List.getD (Array.toList (ByteArray.data (An t))) 0 default)):Int)>=65
 ·exact A0o t xe hn g0 cx Aw ⟨rfl,by rw [show Ec t=((decide ((↑(UInt8.toNat (List.getD (Array.toList (ByteArray.data (An t))) 0 default)):Int)<=90))) by unfold Ec; rw [iP g0]]⟩
 ·exact A0p t xe hn g0 cx Aw ⟨rfl,by rw [show Ec t=(false) by unfold Ec; rw [iN g0]]⟩
def r8:Md:=⟨fun _=>some false,fun t=>t==1000001||t==1000002||t==1000003||t==1000011⟩
def FV(t:Tp)(ff:Tp->Int):Int:=(if BF t (BB t) (DV t (BB t))=true then 1 else (if arE t=0 then (if BB t=true then (if CJ (BE (An t))=0 then (if (if false=true then Ec t==(AB t==4) else !Ec t==(AB t==4))=true then 3 else (if Bg ff (Ab t)=0 then 0 else (Bg ff (Ab t)))) else 3) else (if Bg ff (Ab t)=0 then 0 else (Bg ff (Ab t)))) else (arE t)))
theorem sFm(t:Tp)(ff:Tp->Int)(BM:∀w:Tp,w∈Ab t->Pu 122 [.agg (AO w)] (.ret (.int .i64 (ff w))))(Br:(Ab t).length<=1000000000):Pu 122 [.agg (AO t)] (rI (FV t ff)):=by
 by_cases h0:BF t (BB t) (DV t (BB t))=true
 ·simp only [FV,iP h0]; exact pu r8 (fun e=>[lg (@T1 (t) (e)),lg (@T2 (t) (BB t) (e)),lg (@T3 (t) (BB t) (DV t (BB t)) (e)),AV h0]) func122
 ·by_cases h1:arE t=0
  ·by_cases h2:BB t=true
   ·by_cases h3:CJ (BE (An t))=0
    ·by_cases h4:(if false=true then Ec t==(AB t==4) else !Ec t==(AB t==4))=true
     ·simp only [FV,iN h0,iP h1,iP h2,iP h3,iP h4]; exact pu r8 (fun e=>[lg (@T1 (t) (e)),lg (@T2 (t) (BB t) (e)),lg (@T3 (t) (BB t) (DV t (BB t)) (e)),AM (Db h0),cl (@arT (t)),B1 h1,AV h2,cl (@OA (An t)),B1 h3,lg (@bE (t) (e) h3),AV h4]) func122
     ·by_cases h5:Bg ff (Ab t)=0
      ·simp only [FV,iN h0,iP h1,iP h2,iP h3,iN h4,iP h5]; exact pu r8 (fun e=>[lg (@T1 (t) (e)),lg (@T2 (t) (BB t) (e)),lg (@T3 (t) (BB t) (DV t (BB t)) (e)),AM (Db h0),cl (@arT (t)),B1 h1,AV h2,cl (@OA (An t)),B1 h3,lg (@bE (t) (e) h3),AM (Db h4),sl (Tp.A0 (Ab t)),lq (@tfT (t) (e) (ff) BM Br h5)]) func122
      ·simp only [FV,iN h0,iP h1,iP h2,iP h3,iN h4,iN h5]; exact pu r8 (fun e=>[lg (@T1 (t) (e)),lg (@T2 (t) (BB t) (e)),lg (@T3 (t) (BB t) (DV t (BB t)) (e)),AM (Db h0),cl (@arT (t)),B1 h1,AV h2,cl (@OA (An t)),B1 h3,lg (@bE (t) (e) h3),AM (Db h4),sl (Tp.A0 (Ab t)),lq (@tfF (t) (e) (ff) BM Br h5)]) func122
    ·simp only [FV,iN h0,iP h1,iP h2,iN h3]; exact pu r8 (fun e=>[lg (@T1 (t) (e)),lg (@T2 (t) (BB t) (e)),lg (@T3 (t) (BB t) (DV t (BB t)) (e)),AM (Db h0),cl (@arT (t)),B1 h1,AV h2,cl (@OA (An t)),Bi h3]) func122
   ·by_cases h3:Bg ff (Ab t)=0
    ·simp only [FV,iN h0,iP h1,iN h2,iP h3]; exact pu r8 (fun e=>[lg (@T1 (t) (e)),lg (@T2 (t) (BB t) (e)),lg (@T3 (t) (BB t) (DV t (BB t)) (e)),AM (Db h0),cl (@arT (t)),B1 h1,AM (Db h2),sl (Tp.A0 (Ab t)),lq (@tfT (t) (e) (ff) BM Br h3)]) func122
    ·simp only [FV,iN h0,iP h1,iN h2,iN h3]; exact pu r8 (fun e=>[lg (@T1 (t) (e)),lg (@T2 (t) (BB t) (e)),lg (@T3 (t) (BB t) (DV t (BB t)) (e)),AM (Db h0),cl (@arT (t)),B1 h1,AM (Db h2),sl (Tp.A0 (Ab t)),lq (@tfF (t) (e) (ff) BM Br h3)]) func122
  ·simp only [FV,iN h0,iN h1]; exact pu r8 (fun e=>[lg (@T1 (t) (e)),lg (@T2 (t) (BB t) (e)),lg (@T3 (t) (BB t) (DV t (BB t)) (e)),AM (Db h0),cl (@arT (t)),Bi h1]) func122
def mL:Nat->Tp->Int
 | 0,_=>0
 | d+1,t=>FV t (mL d)
theorem r9:∀ (d:Nat) (t:Tp),A3 (AO t)<d->d<=100000001->Pu 122 [.agg (AO t)] (.ret (.int .i64 (mL d t)))
 | 0,_,h,_=>by omega
 | d+1,t,h,hs=>sFm t (mL d) (fun w hw=>r9 d w (by have:=F8 t; have:=Tp.mem hw; omega) oM) (by have:=F8 t; have:=Tp.BS (Ab t); omega)
def fmF(t:Tp):Int:=mL (A3 (AO t)+1) t
theorem fmT(t:Tp)(hs:A3 (AO t)<=100000000):Pu 122 [.agg (AO t)] (.ret (.int .i64 (fmF t))):=r9 _ t oM oM
def E5(t:Tp):Int:=(if tdF t>40 then 8 else (fmF t))
theorem tyC(t:Tp)(hs:A3 (AO t)<=100000000):Pu 70 [.agg (AO t)] (rI (E5 t)):=by
 by_cases h0:tdF t>40
 ·simp only [E5,iP h0]; exact pm A9 [cl (@tdT (t) hs),BL h0] func70
 ·simp only [E5,iN h0]; exact pm A9 [cl (@tdT (t) hs),Ar h0,cl (@fmT (t) hs)] func70
def mdW:Md:=⟨fun _=>some false,fun _=>false⟩
def T4:List BA->List (BA × PV)
 | []=>[]
 | k::r=>(k,.bool true)::T4 r
def M7(s:BA):List BA->Bool
 | []=>false
 | k::r=>decide (k=s)||M7 s r
theorem T5(s:BA):∀ks,(EC s (T4 ks)).getD (.bool false) = .bool (M7 s ks)
 | []=>rfl
 | k::r=>by
  by_cases h:k=s
  ·simp [T4,EC,M7,h]
  ·simp only [T4,EC,M7,h,if_false,decide_false,Bool.false_or]; exact T5 s r
def kA(s:BA):List BA->List BA
 | []=>[s]
 | k::r=>if k=s then k::r else k::kA s r
theorem Uo(s:BA):∀ks,T4 (kA s ks)=EZ s (.bool true) (T4 ks)
 | []=>rfl
 | k::r=>by
  by_cases h:k=s
  ·subst h; simp [kA,T4,EZ]
  ·simp only [kA,T4,EZ,h,if_false,Uo s r]
theorem bF(s:BA)(ks:List BA):IY false (EC s (T4 ks)) (.bool false) = .bool (M7 s ks):=T5 s ks
theorem bG:∀l:List BA,Fl (Ae l)=true
 | []=>rfl
 | x::r=>by rw [show Ae (x::r)=[.str x]::Ae r by simp [Ae],Fl,bG r]; rfl
abbrev Qi(l:List BA)(j:Int)(ks:List BA)  : S:=S.mk [(2,.v (.bool false)),(3,.v (PV.mp 0)),(7,vL 1 (Ae l)),(8,A6 (l.length:Int)),(9,A6 j)] [] [(0,[LV.mm (MM.s (T4 ks))])]
inductive GO where
 | e0 (ks:List BA)
 | e1 (ks:List BA)
def F9  : List BA->(List BA)->GO
 | [],ks=>(GO.e1 ks)
 | el::r,ks=>(if M7 el ks=true then (GO.e0 ks) else F9  r (kA el ks))
noncomputable def Jd (l:List BA)  : GO->A4 × S
 | .e0 ks=>(.ret,S.mk [(2,.v (.bool false)),(3,.v (PV.mp 0)),(7,vL 1 (Ae l)),(8,A6 (l.length:Int))] [] [(0,[LV.mm (MM.s (T4 ks))])])
 | .e1 ks=>(.exit 0,S.mk [(2,.v (.bool false)),(3,.v (PV.mp 0)),(7,vL 1 (Ae l)),(8,A6 (l.length:Int))] [] [(0,[LV.mm (MM.s (T4 ks))])])
theorem bH(l:List BA)(hN:l.length<=1000000000)(ks:List BA):(Ob.loop 19 (Au f88 0) (Qi l 0 ks) (Jd l  (F9  (l)  ks)).1 (Jd l  (F9  (l)  ks)).2).ok prog:=by
 refine CL l.length (fun j ks=>Qi l j ks) (fun i ks=>F9  (List.drop i (l))  ks) (Jd l) (fun i ks=>True) kR ?_ ks trivial
 rintro i ks hi -
 rcases Nat.lt_or_ge i (l.length) with Ac | Cm
 ·have hd:=CU Ac
  by_cases h0:M7 (List.getD l i Ai) ks=true
  ·exact lX mdW [dt ((i:Int)<(l.length:Int)),CH l (i:Int),DU l i Ac,av (.v (IY false (EC (List.getD l i Ai) (T4 ks)) (.bool false))) (.v (.bool (M7 (List.getD l i Ai) ks))) (by (simp only [bF]; done)),AV h0] (GO.e0 ks) (by rw [hd,F9,iP h0])
  ·exact lS mdW [dt ((i:Int)<(l.length:Int)),CH l (i:Int),DU l i Ac,av (.v (IY false (EC (List.getD l i Ai) (T4 ks)) (.bool false))) (.v (.bool (M7 (List.getD l i Ai) ks))) (by (simp only [bF]; done)),AM (Db h0),wr ((i:Int)+1)] [2,3,7,8,9] [] Ac (kA (List.getD l i Ai) ks) (S.mk [(2,.v (.bool false)),(3,.v (PV.mp 0)),(7,vL 1 (Ae l)),(8,A6 (l.length:Int)),(9,A6 ((i:Int)+1))] [] [(0,[LV.mm (MM.s (EZ (List.getD l i Ai) (.bool true) (T4 ks)))])]) ⟨⟨W,W,W,W,W,B7⟩,trivial,(by first | rfl | (simp only [List.nil_append,AK,AF,Pr.A1,Tp.A1,Ex.A1,Vr.A1,Df.A1,Uo]; done) | (simp only [List.nil_append,AK,AF,Pr.A1,Tp.A1,Ex.A1,Vr.A1,Df.A1,Uo]; rfl))⟩ trivial (by rw [hd,F9,iN h0])
 ·have he:i=l.length:=by omega
  exact lX mdW [df ((i:Int)<(l.length:Int))] (GO.e1 ks) (by rw [he,List.drop_length,F9])
theorem A8v(l:List BA)(ks:List BA)(hN:l.length<=1000000000)(p0:List BA)(Be:(F9  (l)  ks)=(GO.e0 p0)):(Ob.loop 19 (Au f88 0) (Qi l 0 ks) (Jd l  (GO.e0 p0)).1 (Jd l  (GO.e0 p0)).2).ok prog:=
 rz (bH l hN ks) Be
theorem A8w(l:List BA)(ks:List BA)(hN:l.length<=1000000000)(p0:List BA)(Be:(F9  (l)  ks)=(GO.e1 p0)):(Ob.loop 19 (Au f88 0) (Qi l 0 ks) (Jd l  (GO.e1 p0)).1 (Jd l  (GO.e1 p0)).2).ok prog:=
 rz (bH l hN ks) Be
def Ge(l:List BA):Bool:=match F9 l [] with
 | .e0 _=>false
 | .e1 _=>true
theorem ds0(l:List BA)(hN:l.length<=1000000000)(k0:List BA)(Be:F9 l [] = .e0 k0):(Ob.loop 19 (Au f88 0) (Qi l 0 []) (Jd l (.e0 k0)).1 (Jd l (.e0 k0)).2).ok prog:=A8v l [] hN k0 Be
theorem ds1(l:List BA)(hN:l.length<=1000000000)(k0:List BA)(Be:F9 l [] = .e1 k0):(Ob.loop 19 (Au f88 0) (Qi l 0 []) (Jd l (.e1 k0)).1 (Jd l (.e1 k0)).2).ok prog:=A8w l [] hN k0 Be
section
variable (l:List BA) (hN:l.length<=1000000000) (CX:List BA)
include l hN CX
theorem rC(Aa:F9 l []=GO.e0 CX):Ef 88 [.sl 1 (Ae l)] ([]) (rB false) ([(0,[LV.mm (MM.s (T4 CX))])]):=
 ef mdW [sl (A5 l),lq (@ds0 (l) hN CX Aa)] func88
theorem rD(Aa:F9 l []=GO.e1 CX):Ef 88 [.sl 1 (Ae l)] ([]) (rB true) ([(0,[LV.mm (MM.s (T4 CX))])]):=
 ef mdW [sl (A5 l),lq (@ds1 (l) hN CX Aa)] func88
end
theorem dsT(l:List BA)(hN:l.length<=1000000000):Pu 88 [.sl 1 (Ae l)] (.ret (.bool (Ge l))):=by
 have hx:EH [.sl 1 (Ae l)]=true:=by rw [EH,PV.I4,bG]; rfl
 unfold Ge
 cases h:F9 l [] with
 | e0 k=>first | exact Ob.Dr hx rfl (rC l hN k h) | exact Ob.Dr hx rfl (rD l hN k h)
 | e1 k=>first | exact Ob.Dr hx rfl (rC l hN k h) | exact Ob.Dr hx rfl (rD l hN k h)
abbrev rE(r:List BA)(xe:Ext)(j:Int)   : S:=S.mk [(2,A6 0),(35,vL 1 (Ae r)),(36,A6 (r.length:Int)),(37,A6 j)] [] xe
inductive It where
 | e0
 | e1
def FI  : List BA->It
 | []=>(It.e1)
 | el::r=>(if D6 el=false then (It.e0) else FI  r)
def bI(r:List BA)(xe:Ext)  : It->A4 × S
 | .e0=>(.ret,S.mk [(2,A6 3),(35,vL 1 (Ae r)),(36,A6 (r.length:Int))] [] xe)
 | .e1=>(.exit 0,S.mk [(2,A6 0),(35,vL 1 (Ae r)),(36,A6 (r.length:Int))] [] xe)
theorem M8(r:List BA)(xe:Ext)(hN:r.length<=1000000000):(Ob.loop 45 (Au f94 0) (rE r xe 0) (bI r xe  (FI  (r))).1 (bI r xe  (FI  (r))).2).ok prog:=by
 refine CL r.length (fun j _=>rE r xe j) (fun i _=>FI  (List.drop i (r))) (bI r xe) (fun i _=>True) kR ?_ () trivial
 rintro i u hi -
 rcases Nat.lt_or_ge i (r.length) with Ac | Cm
 ·have hd:=CU Ac
  by_cases h0:D6 (List.getD r i Ai)=false
  ·exact lX A9 [dt ((i:Int)<(r.length:Int)),CH r (i:Int),DU r i Ac,cl (@A8h (List.getD r i Ai)),AV (B0 h0)] (It.e0) (by rw [hd,FI,iP h0])
  ·exact lN A9 [dt ((i:Int)<(r.length:Int)),CH r (i:Int),DU r i Ac,cl (@A8h (List.getD r i Ai)),AM (AI (JQ h0)),wr ((i:Int)+1)] Ac () trivial (by rw [hd,FI,iN h0])
 ·have he:i=r.length:=by omega
  exact lX A9 [df ((i:Int)<(r.length:Int))] (It.e1) (by rw [he,List.drop_length,FI])
section
variable (s a:BA) (r:List BA) (hN:r.length<=1000000000) (mM:Pu 138 [.str s] (.own 9 1 ([.str a]::Ae r))) (A7:¬(↑(ByteArray.size s):Int)>120)
include s a r hN mM A7
theorem A0q(Aa:¬CJ (Bz a)=0)(Am:¬CJ (C9 a)=0)(Az:¬a=ByteArray.mk #[118]):Pu 94 [.str s] (rI 3):=
 pm A9 [kp,Ar A7,cl mM,kp,am ((0:Int)<=0/\0<(([.str a]::Ae r).length:Int)) (by (simp only [List.length_cons,List.length_nil,A5]; omega)),cl (@Ph (a)),rp 2 (Bi Aa),kp,am ((0:Int)<=0/\0<(([.str a]::Ae r).length:Int)) (by (simp only [List.length_cons,List.length_nil,A5]; omega)),rp 2 (Bi Aa),cl (@Xa (a)),rp 2 (Bi Aa),rp 2 (Bi Am),kp,am ((0:Int)<=0/\0<(([.str a]::Ae r).length:Int)) (by (simp only [List.length_cons,List.length_nil,A5]; omega)),rp 3 (Bi Am),rp 3 (bt (!ByteArray.toList a==ByteArray.toList (bM 118)) (B0 (Bp Az))),Bi Am,bt (!ByteArray.toList a==ByteArray.toList (bM 118)) (B0 (Bp Az)),Bi Am,bt true] func94
theorem A0r(Aa:¬CJ (Bz a)=0)(Am:¬CJ (C9 a)=0)(Az:a=ByteArray.mk #[118])(AP:(↑(List.length r+1):Int)=1):Pu 94 [.str s] (rI 3):=
 pm A9 [kp,Ar A7,cl mM,kp,am ((0:Int)<=0/\0<(([.str a]::Ae r).length:Int)) (by (simp only [List.length_cons,List.length_nil,A5]; omega)),cl (@Ph (a)),rp 2 (Bi Aa),kp,am ((0:Int)<=0/\0<(([.str a]::Ae r).length:Int)) (by (simp only [List.length_cons,List.length_nil,A5]; omega)),rp 2 (Bi Aa),cl (@Xa (a)),rp 2 (Bi Aa),rp 2 (Bi Am),kp,am ((0:Int)<=0/\0<(([.str a]::Ae r).length:Int)) (by (simp only [List.length_cons,List.length_nil,A5]; omega)),rp 3 (Bi Am),rp 2 (bf (!ByteArray.toList a==ByteArray.toList (bM 118)) (AI (BI Az))),ai (↑((fun x=>List.length (Prod.snd x)) (1,[.str a]::Ae r)):Int) (↑(List.length r+1):Int) (by (simp only [List.length_cons,List.length_nil,A5]; done)),bf (!ByteArray.toList a==ByteArray.toList (bM 118)) (AI (BI Az)),Bi Am,bf (!ByteArray.toList a==ByteArray.toList (bM 118)) (AI (BI Az)),Bi Am,Bb AP] func94
theorem A0s(Aa:¬CJ (Bz a)=0)(Am:¬CJ (C9 a)=0)(Az:a=ByteArray.mk #[118])(AP:¬(↑(List.length r+1):Int)=1)(Bu:FI r=It.e0):Pu 94 [.str s] (rI 3):=
 pu A9 (fun e=>[kp,Ar A7,cl mM,kp,am ((0:Int)<=0/\0<(([.str a]::Ae r).length:Int)) (by (simp only [List.length_cons,List.length_nil,A5]; omega)),cl (@Ph (a)),rp 2 (Bi Aa),kp,am ((0:Int)<=0/\0<(([.str a]::Ae r).length:Int)) (by (simp only [List.length_cons,List.length_nil,A5]; omega)),rp 2 (Bi Aa),cl (@Xa (a)),rp 2 (Bi Aa),rp 2 (Bi Am),kp,am ((0:Int)<=0/\0<(([.str a]::Ae r).length:Int)) (by (simp only [List.length_cons,List.length_nil,A5]; omega)),rp 3 (Bi Am),rp 2 (bf (!ByteArray.toList a==ByteArray.toList (bM 118)) (AI (BI Az))),ai (↑((fun x=>List.length (Prod.snd x)) (1,[.str a]::Ae r)):Int) (↑(List.length r+1):Int) (by (simp only [List.length_cons,List.length_nil,A5]; done)),bf (!ByteArray.toList a==ByteArray.toList (bM 118)) (AI (BI Az)),Bi Am,bf (!ByteArray.toList a==ByteArray.toList (bM 118)) (AI (BI Az)),Bi Am,Ay AP,am ((0:Int)<=1/\1<=(([.str a]::Ae r).length:Int)/\(([.str a]::Ae r).length:Int)<=(([.str a]::Ae r).length:Int)) (by (simp only [List.length_cons,List.length_nil,A5]; omega)),av (vL 1 (List.drop 1 (List.take (Int.toNat (([.str a]::Ae r).length:Int)) ([.str a]::Ae r)))) (vL 1 (Ae r)) (by (simp only [List.length_append,List.length_cons,List.length_nil,A5,Int.toNat_natCast,Bool.cond_true_left,Bool.cond_false_right,Int.toNat_zero,Dc,dtk]; done)),sl (A5 r),lq (rz (M8 (r) (e) hN) Bu)]) func94
theorem A0t(Aa:¬CJ (Bz a)=0)(Am:¬CJ (C9 a)=0)(Az:a=ByteArray.mk #[118])(AP:¬(↑(List.length r+1):Int)=1)(Bu:FI r=It.e1):Pu 94 [.str s] (rI 0):=
 pu A9 (fun e=>[kp,Ar A7,cl mM,kp,am ((0:Int)<=0/\0<(([.str a]::Ae r).length:Int)) (by (simp only [List.length_cons,List.length_nil,A5]; omega)),cl (@Ph (a)),rp 2 (Bi Aa),kp,am ((0:Int)<=0/\0<(([.str a]::Ae r).length:Int)) (by (simp only [List.length_cons,List.length_nil,A5]; omega)),rp 2 (Bi Aa),cl (@Xa (a)),rp 2 (Bi Aa),rp 2 (Bi Am),kp,am ((0:Int)<=0/\0<(([.str a]::Ae r).length:Int)) (by (simp only [List.length_cons,List.length_nil,A5]; omega)),rp 3 (Bi Am),rp 2 (bf (!ByteArray.toList a==ByteArray.toList (bM 118)) (AI (BI Az))),ai (↑((fun x=>List.length (Prod.snd x)) (1,[.str a]::Ae r)):Int) (↑(List.length r+1):Int) (by (simp only [List.length_cons,List.length_nil,A5]; done)),bf (!ByteArray.toList a==ByteArray.toList (bM 118)) (AI (BI Az)),Bi Am,bf (!ByteArray.toList a==ByteArray.toList (bM 118)) (AI (BI Az)),Bi Am,Ay AP,am ((0:Int)<=1/\1<=(([.str a]::Ae r).length:Int)/\(([.str a]::Ae r).length:Int)<=(([.str a]::Ae r).length:Int)) (by (simp only [List.length_cons,List.length_nil,A5]; omega)),av (vL 1 (List.drop 1 (List.take (Int.toNat (([.str a]::Ae r).length:Int)) ([.str a]::Ae r)))) (vL 1 (Ae r)) (by (simp only [List.length_append,List.length_cons,List.length_nil,A5,Int.toNat_natCast,Bool.cond_true_left,Bool.cond_false_right,Int.toNat_zero,Dc,dtk]; done)),sl (A5 r),lq (rz (M8 (r) (e) hN) Bu)]) func94
theorem A0u(Aa:¬CJ (Bz a)=0)(Am:CJ (C9 a)=0)(Az:FI r=It.e0):Pu 94 [.str s] (rI 3):=
 pu A9 (fun e=>[kp,Ar A7,cl mM,kp,am ((0:Int)<=0/\0<(([.str a]::Ae r).length:Int)) (by (simp only [List.length_cons,List.length_nil,A5]; omega)),cl (@Ph (a)),rp 2 (Bi Aa),kp,am ((0:Int)<=0/\0<(([.str a]::Ae r).length:Int)) (by (simp only [List.length_cons,List.length_nil,A5]; omega)),rp 2 (Bi Aa),cl (@Xa (a)),rp 2 (Bi Aa),rp 7 (B1 Am),bf false,am ((0:Int)<=1/\1<=(([.str a]::Ae r).length:Int)/\(([.str a]::Ae r).length:Int)<=(([.str a]::Ae r).length:Int)) (by (simp only [List.length_cons,List.length_nil,A5]; omega)),av (vL 1 (List.drop 1 (List.take (Int.toNat (([.str a]::Ae r).length:Int)) ([.str a]::Ae r)))) (vL 1 (Ae r)) (by (simp only [List.length_append,List.length_cons,List.length_nil,A5,Int.toNat_natCast,Bool.cond_true_left,Bool.cond_false_right,Int.toNat_zero,Dc,dtk]; done)),sl (A5 r),lq (rz (M8 (r) (e) hN) Az)]) func94
theorem A0v(Aa:¬CJ (Bz a)=0)(Am:CJ (C9 a)=0)(Az:FI r=It.e1):Pu 94 [.str s] (rI 0):=
 pu A9 (fun e=>[kp,Ar A7,cl mM,kp,am ((0:Int)<=0/\0<(([.str a]::Ae r).length:Int)) (by (simp only [List.length_cons,List.length_nil,A5]; omega)),cl (@Ph (a)),rp 2 (Bi Aa),kp,am ((0:Int)<=0/\0<(([.str a]::Ae r).length:Int)) (by (simp only [List.length_cons,List.length_nil,A5]; omega)),rp 2 (Bi Aa),cl (@Xa (a)),rp 2 (Bi Aa),rp 7 (B1 Am),bf false,am ((0:Int)<=1/\1<=(([.str a]::Ae r).length:Int)/\(([.str a]::Ae r).length:Int)<=(([.str a]::Ae r).length:Int)) (by (simp only [List.length_cons,List.length_nil,A5]; omega)),av (vL 1 (List.drop 1 (List.take (Int.toNat (([.str a]::Ae r).length:Int)) ([.str a]::Ae r)))) (vL 1 (Ae r)) (by (simp only [List.length_append,List.length_cons,List.length_nil,A5,Int.toNat_natCast,Bool.cond_true_left,Bool.cond_false_right,Int.toNat_zero,Dc,dtk]; done)),sl (A5 r),lq (rz (M8 (r) (e) hN) Az)]) func94
theorem A0w(Aa:CJ (Bz a)=0)(Am:FI r=It.e0):Pu 94 [.str s] (rI 3):=
 pu A9 (fun e=>[kp,Ar A7,cl mM,kp,am ((0:Int)<=0/\0<(([.str a]::Ae r).length:Int)) (by (simp only [List.length_cons,List.length_nil,A5]; omega)),cl (@Ph (a)),rp 6 (B1 Aa),rp 8 (bf false),am ((0:Int)<=1/\1<=(([.str a]::Ae r).length:Int)/\(([.str a]::Ae r).length:Int)<=(([.str a]::Ae r).length:Int)) (by (simp only [List.length_cons,List.length_nil,A5]; omega)),av (vL 1 (List.drop 1 (List.take (Int.toNat (([.str a]::Ae r).length:Int)) ([.str a]::Ae r)))) (vL 1 (Ae r)) (by (simp only [List.length_append,List.length_cons,List.length_nil,A5,Int.toNat_natCast,Bool.cond_true_left,Bool.cond_false_right,Int.toNat_zero,Dc,dtk]; done)),sl (A5 r),lq (rz (M8 (r) (e) hN) Am)]) func94
theorem A0x(Aa:CJ (Bz a)=0)(Am:FI r=It.e1):Pu 94 [.str s] (rI 0):=
 pu A9 (fun e=>[kp,Ar A7,cl mM,kp,am ((0:Int)<=0/\0<(([.str a]::Ae r).length:Int)) (by (simp only [List.length_cons,List.length_nil,A5]; omega)),cl (@Ph (a)),rp 6 (B1 Aa),rp 8 (bf false),am ((0:Int)<=1/\1<=(([.str a]::Ae r).length:Int)/\(([.str a]::Ae r).length:Int)<=(([.str a]::Ae r).length:Int)) (by (simp only [List.length_cons,List.length_nil,A5]; omega)),av (vL 1 (List.drop 1 (List.take (Int.toNat (([.str a]::Ae r).length:Int)) ([.str a]::Ae r)))) (vL 1 (Ae r)) (by (simp only [List.length_append,List.length_cons,List.length_nil,A5,Int.toNat_natCast,Bool.cond_true_left,Bool.cond_false_right,Int.toNat_zero,Dc,dtk]; done)),sl (A5 r),lq (rz (M8 (r) (e) hN) Am)]) func94
end
theorem Agj(s:BA)(hl:(s.size:Int)>120):Pu 94 [.str s] (rI 3):=
 pm A9 [kp,dt ((↑(ByteArray.size s):Int)>120) hl] func94
abbrev rG(l:List BA)(j:Int)(e:Ext):S:=S.mk [(0,vL 1 (Ae l)),(2,.v (.bool false)),(5,A6 (l.length:Int)),(6,A6 j)] [] e
inductive ME where
 | e0
 | e1
def HK(l:List BA):List BA->Nat->ME
 | [],i=>(ME.e1)
 | el::r,i=>(if US el l=(i:Int) then HK l r (i+1)  else (ME.e0))
def bJ(l:List BA)(e:Ext):ME->A4 × S
 | .e0=>(.ret,S.mk [(0,vL 1 (Ae l)),(2,.v (.bool false)),(5,A6 (l.length:Int))] [] e)
 | .e1=>(.exit 0,S.mk [(0,vL 1 (Ae l)),(2,.v (.bool false)),(5,A6 (l.length:Int))] [] e)
theorem bK(l:List BA)(hN:l.length<=1000000000)(e:Ext)(hN:l.length<=1000000000):(Ob.loop 18 (Au f178 0) (rG l 0  e) (bJ l e (HK l (l) 0)).1 (bJ l e (HK l (l) 0)).2).ok prog:=by
 refine CL l.length (fun j _=>rG l j  e) (fun i _=>HK l (List.drop i (l)) i) (bJ l e) (fun i _=>True) kR ?_ () trivial
 rintro i u hi -
 rcases Nat.lt_or_ge i (l.length) with Ac | Cm
 ·have hd:=CU Ac
  by_cases h0:US (List.getD l i Ai) l=(i:Int)
  ·exact lN A9 [dt ((i:Int)<(l.length:Int)),CH l (i:Int),DU l i Ac,cl (@A08 (l) (List.getD l i Ai) hN),B1 h0,wr ((i:Int)+1)] Ac () trivial (by rw [hd,HK,iP h0])
  ·exact lX A9 [dt ((i:Int)<(l.length:Int)),CH l (i:Int),DU l i Ac,cl (@A08 (l) (List.getD l i Ai) hN),Bi h0] (ME.e0) (by rw [hd,HK,iN h0])
 ·have he:i=l.length:=by omega
  exact lX A9 [df ((i:Int)<(l.length:Int))] (ME.e1) (by rw [he,List.drop_length,HK])
section
variable (l:List BA) (hN:l.length<=1000000000)
include l hN
theorem A0y(A7:HK l l 0=ME.e0):Pu 178 [.sl 1 (Ae l)] (rB false):=
 pu A9 (fun e=>[sl (A5 l),lq (rz (bK (l) hN (e) hN) A7)]) func178
theorem A0z(A7:HK l l 0=ME.e1):Pu 178 [.sl 1 (Ae l)] (rB true):=
 pu A9 (fun e=>[sl (A5 l),lq (rz (bK (l) hN (e) hN) A7)]) func178
end
theorem bL:∀r:List BA,FI r=if r.all D6=true then .e1 else .e0
 | []=>rfl
 | c::r=>by cases h:D6 c <;> simp [FI,h,bL r]
theorem A10(n:Nat)(s:BA):(XE (n+1) s).length>=1:=by rw [XE]; split <;> simp
theorem mN(s:BA):BE s=(decide (s.size<=120)&&((Bz (k9 s)||C9 (k9 s)||(decide (k9 s=tV)&&decide (1<=(VG s).length)))&&(VG s).all D6)):=by
 unfold BE k9 VG
 by_cases hx:BW s<s.size
 ·have h1:=Ku s hx
  rw [iP hx,iP hx,iP hx,<-bD (s.size+1) _ oM,decide_eq_true (A10 _ _),Bool.and_true]
 ·rw [iN hx,iN hx,iN hx]; simp
theorem A11{s:BA}(hs:s.size<=100000000):(VG s).length<=100000000:=by
 have h:∀ (n:Nat) (s:BA),s.size<n->(XE n s).length<=s.size+1:=by
  intro n
  induction n with
  | zero=>intro s h; omega
  | succ n ih=>
   intro s h
   rw [XE]
   split
   ·rename_i hx
    have h1:=Ku s hx
    have:=ih _ (by omega:(s.extract (BW s+1) s.size).size<n)
    simp only [List.length_cons]; omega
   ·simp
 unfold VG
 split
 ·rename_i hx
  have h1:=Ku s hx
  have:=h (s.size+1) (s.extract (BW s+1) s.size) oM
  omega
 ·simp
theorem rH{b:Bool}:CJ b=0↔b=true:=by cases b <;> simp [CJ]
theorem bN{b:Bool}(h:¬CJ b=0):b=false:=by
 cases b with
 | false=>rfl
 | true=>exact absurd rfl h
theorem Pj(s:BA):Pu 94 [.str s] (.ret (.int .i64 (CJ (BE s)))):=by
 rw [mN]
 by_cases hl:(s.size:Int)>120
 ·rw [decide_eq_false (by omega:¬s.size<=120),Bool.false_and]; exact Agj s hl
 ·have hs:s.size<=100000000:=by omega
  have hN:(VG s).length<=1000000000:=by have:=A11 hs; omega
  have hp:=Agi s hs
  rw [decide_eq_true (by omega:s.size<=120),Bool.true_and]
  have tail:∀ (h0:FI (VG s) = .e0->Pu 94 [.str s] (.ret (.int .i64 3))) (h1:FI (VG s) = .e1->Pu 94 [.str s] (.ret (.int .i64 0))),Pu 94 [.str s] (.ret (.int .i64 (CJ ((VG s).all D6)))):=by
   intro h0 h1
   cases ha:(VG s).all D6 with
   | true=>exact h1 (by rw [bL,iP ha])
   | false=>exact h0 (by rw [bL,iN (by rw [ha]; decide)])
  by_cases h1:CJ (Bz (k9 s))=0
  ·rw [rH.1 h1,Bool.true_or,Bool.true_or,Bool.true_and]
   exact tail (A0w s _ _ hN hp hl h1) (A0x s _ _ hN hp hl h1)
  ·have UR:=bN h1
   rw [UR,Bool.false_or]
   by_cases h2:CJ (C9 (k9 s))=0
   ·rw [rH.1 h2,Bool.true_or,Bool.true_and]
    exact tail (A0u s _ _ hN hp hl h1 h2) (A0v s _ _ hN hp hl h1 h2)
   ·have h2':=bN h2
    rw [h2',Bool.false_or]
    by_cases h3:k9 s=tV
    ·rw [decide_eq_true h3,Bool.true_and]
     by_cases h4:(((VG s).length+1:Nat):Int)=1
     ·rw [decide_eq_false oM,Bool.false_and]; exact A0r s _ _ hN hp hl h1 h2 h3 h4
     ·rw [decide_eq_true oM,Bool.true_and]
      exact tail (A0s s _ _ hN hp hl h1 h2 h3 h4) (A0t s _ _ hN hp hl h1 h2 h3 h4)
    ·rw [decide_eq_false h3,Bool.false_and,Bool.false_and]; exact A0q s _ _ hN hp hl h1 h2 h3
theorem bO(s:BA):∀ks:List BA,M7 s ks=true↔s∈ks
 | []=>by simp [M7]
 | k::r=>by
  simp only [M7,Bool.or_eq_true,decide_eq_true_eq,bO s r,List.mem_cons]
  exact or_congr_left ⟨Eq.symm,Eq.symm⟩
theorem VI(s x:BA):∀ks:List BA,x∈kA s ks↔x=s∨x∈ks
 | []=>by simp [kA]
 | k::r=>by
  by_cases h:k=s
  ·subst h; simp [kA]
  ·simp only [kA,h,if_false,List.mem_cons,VI s x r]
   constructor
   ·rintro (h | h | h) <;> simp [h]
   ·rintro (h | h | h) <;> simp [h]
theorem rJ:∀l ks:List BA,(∃k,F9 l ks = .e1 k)↔(l.Nodup/\∀x∈l,x∉ks)
 | [],ks=>by simp [F9]
 | c::r,ks=>by
  have hm:=bO c ks
  rw [F9]
  cases h:M7 c ks with
  | true=>
   have h':=hm.1 h
   simp only [if_true,List.mem_cons,forall_eq_or_imp,reduceCtorEq,exists_false,false_iff]
   exact fun hh=>hh.2.1 h'
  | false=>
   have h':c∉ks:=fun hh=>by rw [hm.2 hh] at h; cases h
   simp only [Bool.false_eq_true,if_false]
   rw [rJ r,List.nodup_cons]
   simp only [VI,not_or,List.mem_cons,forall_eq_or_imp]
   constructor
   ·rintro ⟨h1,h2⟩; exact ⟨⟨fun hc=>(h2 c hc).1 rfl,h1⟩,h',fun x hx=>(h2 x hx).2⟩
   ·rintro ⟨⟨h0,h1⟩,_,h2⟩; exact ⟨h1,fun x hx=>⟨fun e=>h0 (e ▸ hx),h2 x hx⟩⟩
theorem Rn(l:List BA):Ge l=true↔l.Nodup:=by
 have h:=rJ l []
 unfold Ge
 cases hr:F9 l [] with
 | e0 k=>simp only [Bool.false_eq_true,false_iff]; intro hn; obtain ⟨k',hk⟩:=h.2 ⟨hn,fun x _=>List.not_mem_nil⟩; rw [hr] at hk; cases hk
 | e1 k=>simp only [true_iff]; exact (h.1 ⟨k,hr⟩).1
theorem bP(s:BA)(r:List BA):∀pre:List BA,ix id s (pre++s::r)=pre.length↔s∉pre
 | []=>by simp [ix]
 | c::p=>by
  by_cases h:c=s
  ·subst h; simp [ix]
  ·have h':¬s=c:=fun e=>h e.symm
   simp [ix,h,h',bP s r p]
theorem A12(s:BA)(pre r:List BA):US s (pre++s::r)=(pre.length:Int)↔s∉pre:=by
 rw [<-bP s r pre]
 unfold US
 split
 ·exact ⟨fun h=>by omega,fun h=>by omega⟩
 ·rename_i h
  constructor
  ·intro h2; omega
  ·intro h2; exfalso; apply h; rw [h2]; simp
theorem rK(l:List BA):∀ (pre r:List BA),l=pre++r->(HK l r pre.length = .e1↔(r.Nodup/\∀x∈r,x∉pre))
 | pre,[],h=>by simp [HK]
 | pre,c::r,h=>by
  have ih:=rK l (pre++[c]) r (by rw [h]; simp)
  simp only [List.length_append,List.length_cons,List.length_nil,Nat.zero_add] at ih
  have hp:US c l=(pre.length:Int)↔c∉pre:=by rw [h]; exact A12 c pre r
  rw [HK]
  by_cases hc:US c l=(pre.length:Int)
  ·have h':=hp.1 hc
   rw [iP hc,ih,List.nodup_cons]
   simp only [List.mem_append,List.mem_singleton,not_or,List.mem_cons,forall_eq_or_imp]
   constructor
   ·rintro ⟨h1,h2⟩; exact ⟨⟨fun hc=>(h2 c hc).2.1 rfl,h1⟩,h',fun x hx=>(h2 x hx).1⟩
   ·rintro ⟨⟨h0,h1⟩,_,h2⟩; exact ⟨h1,fun x hx=>⟨h2 x hx,fun e=>h0 (e ▸ hx),List.not_mem_nil⟩⟩
  ·rw [iN hc]
   simp only [reduceCtorEq,List.mem_cons,forall_eq_or_imp,false_iff]
   exact fun hh=>hc (hp.2 hh.2.1)
theorem A13(l:List BA)(hN:l.length<=1000000000):Pu 178 [.sl 1 (Ae l)] (.ret (.bool (Ge l))):=by
 have h:=rK l [] l rfl
 have hd:=Rn l
 simp only [List.length_nil,List.not_mem_nil,not_false_eq_true,implies_true,and_true] at h
 cases hr:HK l l 0 with
 | e0=>
  have:Ge l=false:=by
   cases hb:Ge l with
   | false=>rfl
   | true=>have:=h.2 (hd.1 hb); rw [hr] at this; cases this
  rw [this]; exact A0y l hN hr
 | e1=>rw [hd.2 (h.1 hr)]; exact A0z l hN hr
open Go.RowKit Go.Shelf Go.Pv
attribute [local go_sem] Oper.semAt_some
set_option maxRecDepth 100000
structure KC (W W':World):Prop where
 size:W.heap.size<=W'.heap.size
 same:∀ (k:Nat) (o:Obj),W.heap[k]?=some o->o.isCells=true->W'.heap[k]?=some o
theorem KC.refl(W:World):KC W W:=⟨Nat.le_refl _,fun _ _ h _=>h⟩
theorem KC.trans{A B C:World}(h:KC A B)(k:KC B C):KC A C:=⟨Nat.le_trans h.size k.size,fun i o hi ho=>k.same i o (h.same i o hi ho) ho⟩
theorem KC.cell{A B:World}(h:KC A B){a:Addr}{v:Value}(hc:A.cell? a=some v):B.cell? a=some v:=by
 unfold World.cell? at hc ⊢
 cases hh:A.heap[a.block]? with
 | none=>simp [hh] at hc
 | some o=>
  cases o with
  | cells cur e m=>rw [h.same _ _ hh rfl]; rw [hh] at hc; exact hc
  | _=>simp [hh] at hc
mutual
/-- The nodes of a predicate,each before its kids' nodes. -/
def Cb:Pr->List Pr
 | .mk o s n ks => .mk o s n ks::BK ks
def BK:List Pr->List Pr
 | []=>[]
 | x::r=>Cb x++BK r
end
theorem FJ(p:Pr):Cb p=p::BK (Av p):=by cases p; simp [Cb,Av]
abbrev Pn(p:Pr)(kv:Value):Value := .agg #[.int .i64 (Af p),.string (Aj p),.int .i64 (Bq p),kv]
theorem KC.alloc{A W:World}(h:KC A W)(o:Obj):KC A (W.alloc o):=⟨Nat.le_trans h.size (by simp),fun k o' hk hc=>by
 have h1:=h.same k o' hk hc
 exact (Below.heap_alloc _ _ _ (Array.getElem?_eq_some_iff.1 h1).1).trans h1⟩
theorem Xc(W:World)(v0 v1 v2 v3:Value):(W.alloc (.cells #[v0,v1,v2,v3] 41)).cell? ⟨W.heap.size,3,none⟩=some v3:=by
 unfold World.cell?
 rw [World.alloc_heap_new W (.cells #[v0,v1,v2,v3] 41)]
 rfl
abbrev Nd(g:Gh)(W0:World):Type:={ x:Pr × Option Addr × Nat × Nat // BN g W0 (.sl 4 (Pr.cs (Av x.1))) (.slice x.2.1 x.2.2.1 x.2.2.2) }
abbrev Nd.enc{g:Gh}{W0:World}(x:Nd g W0):Value:=Pn x.1.1 (.slice x.1.2.1 x.1.2.2.1 x.1.2.2.2)
theorem A8x{W:World}{a:Addr}{v:Value}(h:W.cell? a=some v):a=⟨a.block,a.off,none⟩:=by
 have:=I7 h
 cases a; simp only at this; subst this; rfl
theorem bQ{g:Gh}{w:World}{z:Nat}{es:List (List PV)}{v:Value}(h:BN g w (.sl z es) v):∃oa m c,v = .slice oa m c:=by
 cases h with
 | slnil=>exact ⟨none,0,0,rfl⟩
 | sl _ _ a cap _ _ _ _ _ _ _ _=>exact ⟨some a,_,cap,rfl⟩
theorem bR{g:Gh}{W0:World}(x:Nd g W0):(Av x.1.1=[]/\x.1.2.2.1=0) ∨
  ∃b off,x.1.2.1=some ⟨b,off,none⟩/\x.1.2.2.1=(Av x.1.1).length/\0<(Av x.1.1).length/\(Av x.1.1).length<=9223372036854775807 /\
   ∀i,i<(Av x.1.1).length->∃y:Nd g W0,y.1.1=(Av x.1.1).getD i default/\W0.cell? ⟨b,off+i * 4,none⟩=some (.int .i64 (Af y.1.1))/\W0.cell? ⟨b,off+i * 4+1,none⟩=some (.string (Aj y.1.1)) /\
    W0.cell? ⟨b,off+i * 4+2,none⟩=some (.int .i64 (Bq y.1.1))/\W0.cell? ⟨b,off+i * 4+3,none⟩=some (.slice y.1.2.1 y.1.2.2.1 y.1.2.2.2):=by
 obtain ⟨⟨p,oa,m,c⟩,h⟩:=x
 simp only at h ⊢
 generalize he:Pr.cs (Av p)=es at h
 generalize hv:Value.slice oa m c=v at h
 have hl:es.length=(Av p).length:=by rw [<-he,Pr.A0]
 cases h with
 | slnil=>
  injection hv with e1 e2 e3
  exact .inl ⟨List.eq_nil_of_length_eq_zero (by rw [<-hl]; rfl),e2⟩
 | sl _ _ a cap vs hle Dv Bk hc hf h1 hr=>
  injection hv with e1 e2 e3
  by_cases h0:(Av p).length=0
  ·exact .inl ⟨List.eq_nil_of_length_eq_zero h0,by omega⟩
  ·have c00:=A8x (hc 0 0 (by omega) (by omega))
   have ha:a=⟨a.block,a.off,none⟩:=by
    have h:=I7 (hc 0 0 (by omega) (by omega))
    cases a with
    | mk b o sp=>
     simp only [Addr.add] at h ⊢
     split at h <;> simp_all
   refine .inr ⟨a.block,a.off,by rw [e1,<-ha],by omega,by omega,Nat.le_trans (by omega) (Nat.le_trans Dv (by decide)),fun i hi=>?_⟩
   have hie:i<es.length:=by omega
   have Kg:es[i]=AN ((Av p).getD i default):=by
    have:=Pr.CG hi
    rw [he] at this
    rw [<-this]
    simp [List.getD,hie]
   have pN:∀j,a.add (i * 4+j)=⟨a.block,a.off+i * 4+j,none⟩:=fun j=>by
    rw [ha]; simp only [Addr.add]; simp [Nat.add_assoc]
   have hrr:∀j (hj:j<es[i].length),BN g W0 es[i][j] (vs i j):=fun j hj=>hr i j hie hj
   have hlen:es[i].length=4:=Bk i hie
   have r0:BN g W0 (.int .i64 (Af ((Av p).getD i default))) (vs i 0):=by have:=hrr 0 (by omega); simpa only [Kg,AN,List.getElem_cons_zero] using this
   have r1:BN g W0 (.str (Aj ((Av p).getD i default))) (vs i 1):=by have:=hrr 1 (by omega); simpa only [Kg,AN,List.getElem_cons_zero,List.getElem_cons_succ] using this
   have r2:BN g W0 (.int .i64 (Bq ((Av p).getD i default))) (vs i 2):=by have:=hrr 2 (by omega); simpa only [Kg,AN,List.getElem_cons_zero,List.getElem_cons_succ] using this
   have r3:BN g W0 (.sl 4 (Pr.cs (Av ((Av p).getD i default)))) (vs i 3):=by have:=hrr 3 (by omega); simpa only [Kg,AN,List.getElem_cons_zero,List.getElem_cons_succ] using this
   obtain ⟨kB,m',c',e'⟩:=bQ r3
   have v0:vs i 0 = .int .i64 (Af ((Av p).getD i default)):=by generalize vs i 0=u at r0; cases r0; rfl
   have v1:vs i 1 = .string (Aj ((Av p).getD i default)):=by generalize vs i 1=u at r1; cases r1; rfl
   have v2:vs i 2 = .int .i64 (Bq ((Av p).getD i default)):=by generalize vs i 2=u at r2; cases r2; rfl
   refine ⟨⟨⟨(Av p).getD i default,kB,m',c'⟩,by rw [e'] at r3; exact r3⟩,rfl,?_,?_,?_,?_⟩
   ·have:=hc i 0 hie (by omega); rw [pN,v0] at this; exact this
   ·have:=hc i 1 hie (by omega); rw [pN,v1] at this; exact this
   ·have:=hc i 2 hie (by omega); rw [pN,v2] at this; exact this
   ·have:=hc i 3 hie (by omega); rw [pN,e'] at this; exact this
theorem GP:∀a b:List Pr,BK (a++b)=BK a++BK b
 | [],b=>rfl
 | x::r,b=>by simp [BK,GP r b]
theorem Ik{ks:List Pr}{k:Nat}(h:k<ks.length):BK (ks.take (k+1))=BK (ks.take k)++Cb (ks.getD k default):=by
 rw [List.take_add_one,GP]
 simp [List.getD,h,BK]
theorem Up{ks:List Pr}{k:Nat}(h:k<ks.length):(BK (ks.take k)).length+(Cb (ks.getD k default)).length<=(BK ks).length:=by
 have h1:BK ks=BK (ks.take (k+1))++BK (ks.drop (k+1)):=by rw [<-GP,List.take_append_drop]
 rw [h1,Ik h]
 simp only [List.length_append]
 omega
theorem T6{ks:List Pr}{k:Nat}(h:k<ks.length){q:List Pr}(hq:q <+: Cb (ks.getD k default)):BK (ks.take k)++q <+: BK ks:=by
 have h1:BK ks=BK (ks.take (k+1))++BK (ks.drop (k+1)):=by rw [<-GP,List.take_append_drop]
 obtain ⟨r,hr⟩:=hq
 rw [h1,Ik h,<-hr]
 exact ⟨r++BK (ks.drop (k+1)),by simp [List.append_assoc]⟩
abbrev YR{g:Gh}{W0:World}(J Jx:List (Nd g W0)->World->Prop)(pre:List (Nd g W0))(x:Nd g W0)(W:World)(e:Ending)(W':World):Prop:=
 (e = .returned (.bool true)/\J (pre++[x]) W'/\KC W W')∨(e = .returned (.bool false)/\Jx (pre++[x]) W')
set_option maxHeartbeats 2000000 in
theorem bS(F:Fence)(hd:F.depth=none)(bT:F.fn 268)(rL:F.round=none)(g:Gh)(W0:World)(l N:Nat)(J Jx:List (Nd g W0)->World->Prop)
  (hJ:∀s W W',J s W->W.grownBy W' none->J s W')
  (hY:∀m pre (x:Nd g W0) W,J pre W->pre.length<N->YieldAt F m Tryz.prog l #[x.enc] W (YR J Jx pre x W)) :
  ∀ (d:Nat) (x:Nd g W0) (n:Nat) (pre:List (Nd g W0)) (W:World),(Cb x.1.1).length<=d->KC W0 W->J pre W->pre.length+(Cb x.1.1).length<=N ->
   CallsIn F n Tryz.prog 268 #[x.enc,.func (.yield l) #[] #[]] W fun e W'=>
    (e = .returned (.bool true)/\(∃ys:List (Nd g W0),ys.map (·.1.1)=Cb x.1.1/\J (pre++ys) W')/\KC W W') ∨
    (e = .returned (.bool false)/\∃ys:List (Nd g W0),ys.map (·.1.1) <+: Cb x.1.1/\Jx (pre++ys) W'):=by
 intro d
 induction d with
 | zero=>intro x n pre W h; rw [FJ] at h; simp at h
 | succ d ih=>
 intro x n pre W hlen LF hJ0 hN
 have hnd:(BK (Av x.1.1)).length<=d:=by rw [FJ] at hlen; simp at hlen; omega
 have KI:pre.length+1+(BK (Av x.1.1)).length<=N:=by rw [FJ] at hN; simp at hN; omega
 have VJ:∀q,q <+: BK (Av x.1.1)->x.1.1::q <+: Cb x.1.1:=fun q hq=>by rw [FJ]; exact (List.prefix_cons_inj _).2 hq
 have Bv:x.1.1::BK (Av x.1.1)=Cb x.1.1:=(FJ _).symm
 have bU:=bR x
 have hY0:=fun m W=>hY m pre x W
 obtain ⟨p,oa,len,cap,hx⟩:∃p oa len cap,x.1=(p,oa,len,cap):=⟨_,_,_,_,rfl⟩
 simp only [Nd.enc] at hY0 ⊢
 rw [hx] at hlen hnd KI VJ Bv bU hY0 hN ⊢
 simp only at hlen hnd KI VJ Bv bU hY0 hN ⊢
 refine callsIn_of_wp Tryz.func268 rfl bT ?_ rL
 simp only [Tryz.ntmps268,List.size_toArray,List.length_cons,List.length_nil,Nat.reduceAdd,Nat.reduceSub,Array.replicate_succ,Array.replicate_zero,List.push_toArray,List.append_toArray,List.nil_append,List.cons_append]
 have FZ:∀k:Nat,(F.depth.isSome=true->1<=k):=fun k h=>by rw [hd] at h; cases h
 have hJ1:J pre (W.alloc (.cells #[.int .i64 (Af p),.string (Aj p),.int .i64 (Bq p),.slice oa len cap] 41)):=hJ _ _ _ hJ0 (World.grownBy_alloc W _ none)
 obtain ⟨fn,tmps,assign,body,hy,hR⟩:=hY0 (n - 1) _ hJ1 (by rw [FJ] at hN; simp at hN; omega)
 have hR':=hR.mono (R':=fun e W2=>(e = .returned (.bool true)/\J (pre++[x]) W2/\KC W W2/\W2.cell? ⟨W.heap.size,3,none⟩=some (.slice oa len cap))∨(e = .returned (.bool false)/\Jx (pre++[x]) W2))
  (fun e W2 h=>h.elim (fun ⟨he,hj,hk⟩ => .inl ⟨he,hj,((KC.refl W).alloc _).trans hk,hk.cell (Xc _ _ _ _ _)⟩) .inr)
 clear hR hY hY0
 gi_wp2_with ((try refine ⟨FZ _,?_⟩); refine hR'.mono ?_; clear hR'; rintro e W2 (⟨rfl,Il,hk,hc⟩ | ⟨rfl,hx9⟩))
 ·rcases bU with ⟨TV,rfl⟩ | ⟨b,off,rfl,rfl,Hp,Ai5,D3⟩
  ·gi_loopw [14] (fun i wr=>i = .int .i64 0/\KC W wr/\J (pre++[x]) wr) (fun _ _=>0)
   case atStart=>exact ⟨rfl,hk,Il⟩
   case round=>
    obtain ⟨rfl,mO,hjy⟩:=hrel
    gi_wp2
    go_ret
    exact .inl ⟨rfl,⟨[x],by simp only [List.map_cons,List.map_nil,hx]; rw [TV] at Bv; exact Bv,hjy⟩,mO⟩
  ·gi_loopw [14] (fun i wr=>∃ (k:Nat) (ys:List (Nd g W0)),k<=(Av p).length/\i = .int .i64 k/\KC W wr/\ys.map (·.1.1)=BK ((Av p).take k)/\J (pre++x::ys) wr) (fun i _=>(Av p).length - (intOf i).toNat)
   case atStart=>exact ⟨0,[],Nat.zero_le _,rfl,hk,rfl,Il⟩
   case round=>
    obtain ⟨k,ys,hkl,rfl,mO,KN,hjy⟩:=hrel
    by_cases Ac:k<(Av p).length
    ·obtain ⟨y,I6,c0,c1,c2,c3⟩:=D3 k Ac
     have d0:=(LF.trans mO).cell c0
     have d1:=(LF.trans mO).cell c1
     have d2:=(LF.trans mO).cell c2
     have d3:=(LF.trans mO).cell c3
     have hle:=Up Ac
     have htk:=Ik Ac
     have hpr:=fun q (hq:q <+: Cb ((Av p).getD k default))=>T6 Ac hq
     rw [<-I6] at hle htk hpr
     have hyl:ys.length=(BK ((Av p).take k)).length:=by rw [<-KN,List.length_map]
     have GL:=ih y (n - 1) (pre++x::ys) (wr.alloc (.cells #[.int .i64 (Af y.1.1),.string (Aj y.1.1),.int .i64 (Bq y.1.1),.slice y.1.2.1 y.1.2.2.1 y.1.2.2.2] 41)) (by omega) ((LF.trans mO).alloc _) (hJ _ _ _ hjy (World.grownBy_alloc _ _ none))
      (by simp only [List.length_append,List.length_cons]; omega)
     clear ih D3 I6
     simp only [Nd.enc] at GL
     obtain ⟨q,kB,m',c',hyx⟩:∃q kB m' c',y.1=(q,kB,m',c'):=⟨_,_,_,_,rfl⟩
     rw [hyx] at GL d0 d1 d2 d3 htk hpr hle
     simp only at GL d0 d1 d2 d3 htk hpr hle
     clear hyx c0 c1 c2 c3
     gi_wp2_with ((try refine ⟨FZ _,?_⟩); gi_at_call 268; refine GL.mono ?_; clear GL; rintro e W3 (⟨rfl,⟨zs,P0,hjz⟩,hk3⟩ | ⟨rfl,zs,P0,hxz⟩))
     ·go_roundw
      case rel=>exact ⟨k+1,ys++zs,Ac,by simp,(mO.alloc _).trans hk3,by rw [List.map_append,KN,P0,htk],by rw [<-List.cons_append,<-List.append_assoc]; exact hjz⟩
      case measure=>simp [intOf]; omega
     ·go_ret
      exact .inr ⟨rfl,x::(ys++zs),by simp only [List.map_cons,List.map_append,KN,hx]; exact VJ _ (hpr _ P0),by rw [<-List.cons_append,<-List.append_assoc]; exact hxz⟩
    ·obtain rfl:k=(Av p).length:=by omega
     gi_wp2
     go_ret
     exact .inl ⟨rfl,⟨x::ys,by simp only [List.map_cons,KN,hx,List.take_length]; exact Bv,hjy⟩,mO⟩
 ·go_ret
  exact .inr ⟨rfl,[x],by simp only [List.map_cons,List.map_nil,hx]; exact VJ [] (List.nil_prefix),by exact hx9⟩
set_option maxHeartbeats 1000000 in
theorem Uq(F:Fence)(hd:F.depth=none)(A14:F.fn 267)(bT:F.fn 268)(rL:F.round=none)(g:Gh)(W0:World)(l Bs:Nat)(x:Nd g W0)(n:Nat)(J Jx:List (Nd g W0)->World->Prop)
  (hJ:∀s W W',J s W->W.grownBy W' none->J s W')
  (hY:∀m pre (y:Nd g W0) W,J pre W->pre.length<(Cb x.1.1).length->YieldAt F m Tryz.prog l #[y.enc] W (YR J Jx pre y W)) (W:World) (LF:KC W0 W)
  (h1:W.cell? ⟨Bs,0,none⟩=some (.int .i64 (Af x.1.1))) (h2:W.cell? ⟨Bs,1,none⟩=some (.string (Aj x.1.1))) (h3:W.cell? ⟨Bs,2,none⟩=some (.int .i64 (Bq x.1.1))) (h4:W.cell? ⟨Bs,3,none⟩=some (.slice x.1.2.1 x.1.2.2.1 x.1.2.2.2)) (h0:J [] W) :
  CallsIn F n Tryz.prog 267 #[.func (.yield l) #[] #[],.pointer (some ⟨Bs,0,none⟩)] W fun e W'=>(∃v,e = .returned v) /\
   ((∃ys:List (Nd g W0),ys.map (·.1.1)=Cb x.1.1/\J ys W')∨(∃ys:List (Nd g W0),ys.map (·.1.1) <+: Cb x.1.1/\Jx ys W')):=by
 have FZ:∀k:Nat,(F.depth.isSome=true->1<=k):=fun k h=>by rw [hd] at h; cases h
 have GL:=bS F hd bT rL g W0 l _ J Jx hJ hY _ x (n - 1) [] W (Nat.le_refl _) LF h0 (by simp)
 simp only [Nd.enc,List.nil_append] at GL
 obtain ⟨p,oa,len,cap,hx⟩:∃p oa len cap,x.1=(p,oa,len,cap):=⟨_,_,_,_,rfl⟩
 rw [hx] at GL h1 h2 h3 h4 ⊢
 simp only at GL h1 h2 h3 h4 ⊢
 clear hY hx
 refine callsIn_of_wp Tryz.func267 rfl A14 ?_ rL
 simp only [Tryz.ntmps267,List.size_toArray,List.length_cons,List.length_nil,Nat.reduceAdd,Nat.reduceSub,Array.replicate_succ,Array.replicate_zero,List.push_toArray,List.append_toArray,List.nil_append,List.cons_append]
 gi_wp2_with ((try refine ⟨FZ _,?_⟩); gi_at_call 268; refine GL.mono ?_; clear GL; rintro e W1 (⟨rfl,⟨ys,KN,hj⟩,_⟩ | ⟨rfl,ys,KN,hx⟩))
 ·go_end0
  exact ⟨⟨_,rfl⟩,.inl ⟨ys,KN,hj⟩⟩
 ·go_end0
  exact ⟨⟨_,rfl⟩,.inr ⟨ys,KN,hx⟩⟩
set_option maxHeartbeats 1000000 in
theorem Xd(F:Fence)(n:Nat)(Agk:F.fn 225)(rL:F.round=none)(p:Pr)(oa:Option Addr)(m c:Nat)(w:World) :
  CallsIn F n Tryz.prog 225 #[Pn p (.slice oa m c)] w fun e w'=>e = .returned (.func (.func 267) #[] #[.pointer (some ⟨w.heap.size,0,none⟩)])/\w'=w.alloc (.cells #[.int .i64 (Af p),.string (Aj p),.int .i64 (Bq p),.slice oa m c] 41):=by
 refine callsIn_of_wp Tryz.func225 rfl Agk ?_ rL
 simp only [Tryz.ntmps225,List.size_toArray,List.length_cons,List.length_nil,Nat.reduceAdd,Nat.reduceSub,Array.replicate_succ,Array.replicate_zero,List.push_toArray,List.append_toArray,List.nil_append,List.cons_append]
 gi_wp2
 go_ret
 exact ⟨rfl,rfl⟩
end Go.Proofs.YthchpmnkecoafaaGreatDoor
