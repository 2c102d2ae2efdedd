/- Values of Go as plain data, an evaluator over them, and what the functions of the program return; part Ya. -/
import Derived.Test.YtmllcplaohkjnaaGreatDoorXe
import Derived.Test.YtmllcplaohkjnaaGreatDoorXh
import Derived.Test.YtmllcplaohkjnaaGreatDoorProg
import Derived.KernelRfl
import Derived.Test.YtmllcplaohkjnaaGreatDoorRows
import Derived.JoinedCond
import Derived.Deep.DeepHandedRow
import Derived.Lib.LaidTab
set_option linter.unusedSectionVars false
set_option linter.unusedSimpArgs false
set_option linter.unusedVariables false
namespace Go.Proofs.YtmllcplaohkjnaaGreatDoor
open Go.Proofs.Tryz
open Go.Pv Go.Proofs.Tryz
abbrev AI:BA:=ByteArray.mk #[]
inductive Pr where
 | mk (xO:Int) (Qr:BA) (xN:Int) (xK:List Pr)
instance:Inhabited Pr:=⟨.mk 0 AI 0 []⟩
def Ah:Pr->Int | .mk x _ _ _=>x
def AR:Pr->BA | .mk _ x _ _=>x
def DE:Pr->Int | .mk _ _ x _=>x
def Bg:Pr->List Pr | .mk _ _ _ x=>x
inductive Tp where
 | mk (xO:Int) (Qr:BA) (xA:List Tp) (rE:List BA) (xP:Pr) (xPs:List Pr)
instance:Inhabited Tp:=⟨.mk 0 AI [] [] default []⟩
def Bd:Tp->Int | .mk x _ _ _ _ _=>x
def AK:Tp->BA | .mk _ x _ _ _ _=>x
def AP:Tp->List Tp | .mk _ _ x _ _ _=>x
def C2:Tp->List BA | .mk _ _ _ x _ _=>x
def DU:Tp->Pr | .mk _ _ _ _ x _=>x
def DX:Tp->List Pr | .mk _ _ _ _ _ x=>x
inductive Pm where
 | mk (Qr:BA) (xT:Tp)
instance:Inhabited Pm:=⟨.mk AI default⟩
def BR:Pm->BA | .mk x _=>x
def Co:Pm->Tp | .mk _ x=>x
mutual
inductive Ex where
 | mk (xO:Int) (Qr:BA) (xN:Int) (xK:List Ex) (xP:List Pm) (xA:List Al) (xT:List Tp)
inductive Al where
 | mk (xC:BA) (rE:List BA) (xB:Ex)
end
instance:Inhabited Ex:=⟨.mk 0 AI 0 [] [] [] []⟩
instance:Inhabited Al:=⟨.mk AI [] default⟩
def B2:Ex->Int | .mk x _ _ _ _ _ _=>x
def Ap:Ex->BA | .mk _ x _ _ _ _ _=>x
def Fa:Ex->Int | .mk _ _ x _ _ _ _=>x
def AQ:Ex->List Ex | .mk _ _ _ x _ _ _=>x
def Ao:Ex->List Pm | .mk _ _ _ _ x _ _=>x
def Ae:Ex->List Al | .mk _ _ _ _ _ x _=>x
def Cg:Ex->List Tp | .mk _ _ _ _ _ _ x=>x
def FT:Al->BA | .mk x _ _=>x
def Bl:Al->List BA | .mk _ x _=>x
def D4:Al->Ex | .mk _ _ x=>x
inductive Vr where
 | mk (Qr:BA) (xS:BA)
instance:Inhabited Vr:=⟨.mk AI AI⟩
def CH:Vr->BA | .mk x _=>x
def SY:Vr->BA | .mk _ x=>x
inductive Cn where
 | mk (Qr:BA) (rE:List BA) (xF:List Tp)
instance:Inhabited Cn:=⟨.mk AI [] []⟩
def Bj:Cn->BA | .mk x _ _=>x
def EC:Cn->List BA | .mk _ x _=>x
def Fp:Cn->List Tp | .mk _ _ x=>x
inductive Da where
 | mk (Qr:BA) (xVs:List BA) (xP:List Vr) (xC:List Cn)
instance:Inhabited Da:=⟨.mk AI [] [] []⟩
def BS:Da->BA | .mk x _ _ _=>x
def C1:Da->List BA | .mk _ x _ _=>x
def Iq:Da->List Vr | .mk _ _ x _=>x
def AS:Da->List Cn | .mk _ _ _ x=>x
inductive Cl where
 | mk (Qr:BA) (xW:BA) (xM:List Pm)
instance:Inhabited Cl:=⟨.mk AI AI []⟩
def DK:Cl->BA | .mk x _ _=>x
def LM:Cl->BA | .mk _ x _=>x
def B9:Cl->List Pm | .mk _ _ x=>x
inductive Bo where
 | mk (Qr:BA) (xW:List Vr) (xH:Pr) (xG:Pr)
instance:Inhabited Bo:=⟨.mk AI [] default default⟩
def FD:Bo->BA | .mk x _ _ _=>x
def boW:Bo->List Vr | .mk _ x _ _=>x
def R2:Bo->Pr | .mk _ _ x _=>x
def R3:Bo->Pr | .mk _ _ _ x=>x
inductive Df where
 | mk (Qr:BA) (xP:List BA) (xB:Ex) (xM:Int) (xTy:Bool) (xVs:List BA) (xNe:List Vr) (xAb:List Vr) (xBo:List Bo) (xT:Tp) (xMe:List Pr)
instance:Inhabited Df:=⟨.mk AI [] default 0 false [] [] [] [] default []⟩
def Ag:Df->BA | .mk x _ _ _ _ _ _ _ _ _ _=>x
def BD:Df->List BA | .mk _ x _ _ _ _ _ _ _ _ _=>x
def DQ:Df->Ex | .mk _ _ x _ _ _ _ _ _ _ _=>x
def E0:Df->Int | .mk _ _ _ x _ _ _ _ _ _ _=>x
def Di:Df->Bool | .mk _ _ _ _ x _ _ _ _ _ _=>x
def Az:Df->List BA | .mk _ _ _ _ _ x _ _ _ _ _=>x
def C8:Df->List Vr | .mk _ _ _ _ _ _ x _ _ _ _=>x
def Bz:Df->List Vr | .mk _ _ _ _ _ _ _ x _ _ _=>x
def BB:Df->List Bo | .mk _ _ _ _ _ _ _ _ x _ _=>x
def BV:Df->Tp | .mk _ _ _ _ _ _ _ _ _ x _=>x
def Dj:Df->List Pr | .mk _ _ _ _ _ _ _ _ _ _ x=>x
inductive In where
 | mk (Qr:BA) (xT:Tp) (xNe:List Vr) (xD:List Df)
instance:Inhabited In:=⟨.mk AI default [] []⟩
def Ir:In->BA | .mk x _ _ _=>x
def CU:In->Tp | .mk _ x _ _=>x
def Z8:In->List Vr | .mk _ _ x _=>x
def Nn:In->List Df | .mk _ _ _ x=>x
inductive Cs where
 | mk (xC:BA) (rE:List BA) (xB:Pr)
instance:Inhabited Cs:=⟨.mk AI [] default⟩
def P8:Cs->BA | .mk x _ _=>x
def Is:Cs->List BA | .mk _ x _=>x
def Ll:Cs->Pr | .mk _ _ x=>x
inductive Ms where
 | mk (Qr:BA) (xD:BA) (xR:BA) (xC:List Cs) (xI:Pr)
instance:Inhabited Ms:=⟨.mk AI AI AI [] default⟩
def CM:Ms->BA | .mk x _ _ _ _=>x
def Qs:Ms->BA | .mk _ x _ _ _=>x
def msR:Ms->BA | .mk _ _ x _ _=>x
def CV:Ms->List Cs | .mk _ _ _ x _=>x
def J9:Ms->Pr | .mk _ _ _ _ x=>x
inductive Qu where
 | mk (Qr:BA) (xW:List Vr) (xB:Pr)
instance:Inhabited Qu:=⟨.mk AI [] default⟩
def M6:Qu->BA | .mk x _ _=>x
def quW:Qu->List Vr | .mk _ x _=>x
def P9:Qu->Pr | .mk _ _ x=>x
inductive Mo where
 | mk (xD:List Da) (xC:List Cl) (xI:List In) (xM:List Ms) (xQ:List Qu) (xF:List Df)
instance:Inhabited Mo:=⟨.mk [] [] [] [] [] []⟩
def Aj:Mo->List Da | .mk x _ _ _ _ _=>x
def AA:Mo->List Cl | .mk _ x _ _ _ _=>x
def Bv:Mo->List In | .mk _ _ x _ _ _=>x
def Ba:Mo->List Ms | .mk _ _ _ x _ _=>x
def BM:Mo->List Qu | .mk _ _ _ _ x _=>x
def AD:Mo->List Df | .mk _ _ _ _ _ x=>x
def A1:List BA->List (List PV)
 | []=>[]
 | s::r=>[.str s]::A1 r
theorem Fx(l:List BA):A1 l=l.map (fun s=>[.str s]):=by induction l with | nil=>rfl | cons x r ih=>simp [A1,ih]
theorem A3(l:List BA):(A1 l).length=l.length:=by simp [Fx]
theorem BN{l:List BA}{i:Nat}(h:i<l.length):(A1 l).getD i []=[.str (l.getD i AI)]:=by rw [Fx]; simp [List.getD,h]
theorem Av(a b:List BA):A1 (a++b)=A1 a++A1 b:=by simp [Fx]
theorem Aw(l:List BA)(x:BA):A1 (l++[x])=A1 l++[[.str x]]:=by simp [Fx]
mutual
def Pr.c:Pr->List PV
 | .mk xO Qr xN xK=>[.int .i64 xO,.str Qr,.int .i64 xN,.sl 4 (Pr.cs xK)]
def Pr.cs:List Pr->List (List PV)
 | []=>[]
 | x::r=>Pr.c x::Pr.cs r
end
abbrev CI(x:Pr):List PV:=[.int .i64 (Ah x),.str (AR x),.int .i64 (DE x),.sl 4 (Pr.cs (Bg x))]
abbrev Dn(x:Pr):List LV:=[.v (.int .i64 (Ah x)),.v (.str (AR x)),.v (.int .i64 (DE x)),.v (.sl 4 (Pr.cs (Bg x)))]
theorem Pr.Qt(x:Pr):Pr.c x=CI x:=by cases x; rfl
theorem Pr.Ay(l:List Pr):Pr.cs l=l.map (CI):=by induction l with | nil=>rfl | cons x r ih=>simp [Pr.cs,ih,Pr.Qt]
theorem Pr.A0(l:List Pr):(Pr.cs l).length=l.length:=by simp [Pr.Ay]
theorem Pr.B0{l:List Pr}{i:Nat}(h:i<l.length):(Pr.cs l).getD i []=CI (l.getD i default):=by rw [Pr.Ay]; simp [List.getD,h]
theorem Pr.A4(l:List Pr)(x:Pr):Pr.cs (l++[x])=Pr.cs l++[CI x]:=by simp [Pr.Ay]
mutual
def Tp.c:Tp->List PV
 | .mk xO Qr xA rE xP xPs=>[.int .i64 xO,.str Qr,.sl 9 (Tp.cs xA),.sl 1 (A1 rE),.int .i64 (Ah xP),.str (AR xP),.int .i64 (DE xP),.sl 4 (Pr.cs (Bg xP)),.sl 4 (Pr.cs xPs)]
def Tp.cs:List Tp->List (List PV)
 | []=>[]
 | x::r=>Tp.c x::Tp.cs r
end
abbrev BI(x:Tp):List PV:=[.int .i64 (Bd x),.str (AK x),.sl 9 (Tp.cs (AP x)),.sl 1 (A1 (C2 x)),.int .i64 (Ah (DU x)),.str (AR (DU x)),.int .i64 (DE (DU x)),.sl 4 (Pr.cs (Bg (DU x))),.sl 4 (Pr.cs (DX x))]
abbrev EV(x:Tp):List LV:=[.v (.int .i64 (Bd x)),.v (.str (AK x)),.v (.sl 9 (Tp.cs (AP x))),.v (.sl 1 (A1 (C2 x))),.v (.int .i64 (Ah (DU x))),.v (.str (AR (DU x))),.v (.int .i64 (DE (DU x))),.v (.sl 4 (Pr.cs (Bg (DU x)))),.v (.sl 4 (Pr.cs (DX x)))]
theorem Tp.Qt(x:Tp):Tp.c x=BI x:=by cases x; rfl
theorem Tp.Ay(l:List Tp):Tp.cs l=l.map (BI):=by induction l with | nil=>rfl | cons x r ih=>simp [Tp.cs,ih,Tp.Qt]
theorem Tp.A0(l:List Tp):(Tp.cs l).length=l.length:=by simp [Tp.Ay]
theorem Tp.B0{l:List Tp}{i:Nat}(h:i<l.length):(Tp.cs l).getD i []=BI (l.getD i default):=by rw [Tp.Ay]; simp [List.getD,h]
theorem Tp.A4(l:List Tp)(x:Tp):Tp.cs (l++[x])=Tp.cs l++[BI x]:=by simp [Tp.Ay]
abbrev KW(x:Pm):List PV:=[.str (BR x),.int .i64 (Bd (Co x)),.str (AK (Co x)),.sl 9 (Tp.cs (AP (Co x))),.sl 1 (A1 (C2 (Co x))),.int .i64 (Ah (DU (Co x))),.str (AR (DU (Co x))),.int .i64 (DE (DU (Co x))),.sl 4 (Pr.cs (Bg (DU (Co x)))),.sl 4 (Pr.cs (DX (Co x)))]
def Pm.cs:List Pm->List (List PV)
 | []=>[]
 | x::r=>KW x::Pm.cs r
theorem Pm.Ay(l:List Pm):Pm.cs l=l.map (KW):=by induction l with | nil=>rfl | cons x r ih=>simp [Pm.cs,ih]
theorem Pm.A0(l:List Pm):(Pm.cs l).length=l.length:=by simp [Pm.Ay]
theorem Pm.B0{l:List Pm}{i:Nat}(h:i<l.length):(Pm.cs l).getD i []=KW (l.getD i default):=by rw [Pm.Ay]; simp [List.getD,h]
mutual
def Ex.c:Ex->List PV
 | .mk xO Qr xN xK xP xA xT=>[.int .i64 xO,.str Qr,.int .i64 xN,.sl 7 (Ex.cs xK),.sl 10 (Pm.cs xP),.sl 9 (Al.cs xA),.sl 9 (Tp.cs xT)]
def Ex.cs:List Ex->List (List PV)
 | []=>[]
 | x::r=>Ex.c x::Ex.cs r
def Al.c:Al->List PV
 | .mk xC rE xB => .str xC :: .sl 1 (A1 rE)::Ex.c xB
def Al.cs:List Al->List (List PV)
 | []=>[]
 | x::r=>Al.c x::Al.cs r
end
abbrev AT(x:Ex):List PV:=[.int .i64 (B2 x),.str (Ap x),.int .i64 (Fa x),.sl 7 (Ex.cs (AQ x)),.sl 10 (Pm.cs (Ao x)),.sl 9 (Al.cs (Ae x)),.sl 9 (Tp.cs (Cg x))]
abbrev CP(x:Ex):List LV:=[.v (.int .i64 (B2 x)),.v (.str (Ap x)),.v (.int .i64 (Fa x)),.v (.sl 7 (Ex.cs (AQ x))),.v (.sl 10 (Pm.cs (Ao x))),.v (.sl 9 (Al.cs (Ae x))),.v (.sl 9 (Tp.cs (Cg x)))]
abbrev I4(x:Al):List PV:=[.str (FT x),.sl 1 (A1 (Bl x)),.int .i64 (B2 (D4 x)),.str (Ap (D4 x)),.int .i64 (Fa (D4 x)),.sl 7 (Ex.cs (AQ (D4 x))),.sl 10 (Pm.cs (Ao (D4 x))),.sl 9 (Al.cs (Ae (D4 x))),.sl 9 (Tp.cs (Cg (D4 x)))]
theorem Ex.Qt(x:Ex):Ex.c x=AT x:=by cases x; rfl
theorem Al.Qt(x:Al):Al.c x=I4 x:=by cases x with | mk a0 a1 a2=>cases a2; rfl
theorem Ex.Ay(l:List Ex):Ex.cs l=l.map (AT):=by induction l with | nil=>rfl | cons x r ih=>simp [Ex.cs,ih,Ex.Qt]
theorem Ex.A0(l:List Ex):(Ex.cs l).length=l.length:=by simp [Ex.Ay]
theorem Ex.B0{l:List Ex}{i:Nat}(h:i<l.length):(Ex.cs l).getD i []=AT (l.getD i default):=by rw [Ex.Ay]; simp [List.getD,h]
theorem Ex.A4(l:List Ex)(x:Ex):Ex.cs (l++[x])=Ex.cs l++[AT x]:=by simp [Ex.Ay]
theorem Al.Ay(l:List Al):Al.cs l=l.map (I4):=by induction l with | nil=>rfl | cons x r ih=>simp [Al.cs,ih,Al.Qt]
theorem Al.A0(l:List Al):(Al.cs l).length=l.length:=by simp [Al.Ay]
theorem Al.B0{l:List Al}{i:Nat}(h:i<l.length):(Al.cs l).getD i []=I4 (l.getD i default):=by rw [Al.Ay]; simp [List.getD,h]
abbrev O5(x:Vr):List PV:=[.str (CH x),.str (SY x)]
def Vr.cs:List Vr->List (List PV)
 | []=>[]
 | x::r=>O5 x::Vr.cs r
theorem Vr.Ay(l:List Vr):Vr.cs l=l.map (O5):=by induction l with | nil=>rfl | cons x r ih=>simp [Vr.cs,ih]
theorem Vr.A0(l:List Vr):(Vr.cs l).length=l.length:=by simp [Vr.Ay]
theorem Vr.A4(l:List Vr)(x:Vr):Vr.cs (l++[x])=Vr.cs l++[O5 x]:=by simp [Vr.Ay]
abbrev KX(x:Cn):List PV:=[.str (Bj x),.sl 1 (A1 (EC x)),.sl 9 (Tp.cs (Fp x))]
def Cn.cs:List Cn->List (List PV)
 | []=>[]
 | x::r=>KX x::Cn.cs r
theorem Cn.Ay(l:List Cn):Cn.cs l=l.map (KX):=by induction l with | nil=>rfl | cons x r ih=>simp [Cn.cs,ih]
theorem Cn.A0(l:List Cn):(Cn.cs l).length=l.length:=by simp [Cn.Ay]
theorem Cn.B0{l:List Cn}{i:Nat}(h:i<l.length):(Cn.cs l).getD i []=KX (l.getD i default):=by rw [Cn.Ay]; simp [List.getD,h]
abbrev EO(x:Da):List PV:=[.str (BS x),.sl 1 (A1 (C1 x)),.sl 2 (Vr.cs (Iq x)),.sl 3 (Cn.cs (AS x))]
abbrev JW(x:Da):List LV:=[.v (.str (BS x)),.v (.sl 1 (A1 (C1 x))),.v (.sl 2 (Vr.cs (Iq x))),.v (.sl 3 (Cn.cs (AS x)))]
def Da.cs:List Da->List (List PV)
 | []=>[]
 | x::r=>EO x::Da.cs r
theorem Da.Ay(l:List Da):Da.cs l=l.map (EO):=by induction l with | nil=>rfl | cons x r ih=>simp [Da.cs,ih]
theorem Da.A0(l:List Da):(Da.cs l).length=l.length:=by simp [Da.Ay]
theorem Da.B0{l:List Da}{i:Nat}(h:i<l.length):(Da.cs l).getD i []=EO (l.getD i default):=by rw [Da.Ay]; simp [List.getD,h]
abbrev Lm(x:Cl):List PV:=[.str (DK x),.str (LM x),.sl 10 (Pm.cs (B9 x))]
abbrev clV(x:Cl):List LV:=[.v (.str (DK x)),.v (.str (LM x)),.v (.sl 10 (Pm.cs (B9 x)))]
def Cl.cs:List Cl->List (List PV)
 | []=>[]
 | x::r=>Lm x::Cl.cs r
theorem Cl.Ay(l:List Cl):Cl.cs l=l.map (Lm):=by induction l with | nil=>rfl | cons x r ih=>simp [Cl.cs,ih]
theorem Cl.A0(l:List Cl):(Cl.cs l).length=l.length:=by simp [Cl.Ay]
theorem Cl.B0{l:List Cl}{i:Nat}(h:i<l.length):(Cl.cs l).getD i []=Lm (l.getD i default):=by rw [Cl.Ay]; simp [List.getD,h]
abbrev WG(x:Bo):List PV:=[.str (FD x),.sl 2 (Vr.cs (boW x)),.int .i64 (Ah (R2 x)),.str (AR (R2 x)),.int .i64 (DE (R2 x)),.sl 4 (Pr.cs (Bg (R2 x))),.int .i64 (Ah (R3 x)),.str (AR (R3 x)),.int .i64 (DE (R3 x)),.sl 4 (Pr.cs (Bg (R3 x)))]
def Bo.cs:List Bo->List (List PV)
 | []=>[]
 | x::r=>WG x::Bo.cs r
theorem Bo.Ay(l:List Bo):Bo.cs l=l.map (WG):=by induction l with | nil=>rfl | cons x r ih=>simp [Bo.cs,ih]
theorem Bo.A0(l:List Bo):(Bo.cs l).length=l.length:=by simp [Bo.Ay]
theorem Bo.B0{l:List Bo}{i:Nat}(h:i<l.length):(Bo.cs l).getD i []=WG (l.getD i default):=by rw [Bo.Ay]; simp [List.getD,h]
abbrev CZ(x:Df):List PV:=[.str (Ag x),.sl 1 (A1 (BD x)),.int .i64 (B2 (DQ x)),.str (Ap (DQ x)),.int .i64 (Fa (DQ x)),.sl 7 (Ex.cs (AQ (DQ x))),.sl 10 (Pm.cs (Ao (DQ x))),.sl 9 (Al.cs (Ae (DQ x))),.sl 9 (Tp.cs (Cg (DQ x))),.int .i64 (E0 x),.bool (Di x),.sl 1 (A1 (Az x)),.sl 2 (Vr.cs (C8 x)),.sl 2 (Vr.cs (Bz x)),.sl 10 (Bo.cs (BB x)),.int .i64 (Bd (BV x)),.str (AK (BV x)),.sl 9 (Tp.cs (AP (BV x))),.sl 1 (A1 (C2 (BV x))),.int .i64 (Ah (DU (BV x))),.str (AR (DU (BV x))),.int .i64 (DE (DU (BV x))),.sl 4 (Pr.cs (Bg (DU (BV x)))),.sl 4 (Pr.cs (DX (BV x))),.sl 4 (Pr.cs (Dj x))]
abbrev Jn(x:Df):List LV:=[.v (.str (Ag x)),.v (.sl 1 (A1 (BD x))),.v (.int .i64 (B2 (DQ x))),.v (.str (Ap (DQ x))),.v (.int .i64 (Fa (DQ x))),.v (.sl 7 (Ex.cs (AQ (DQ x)))),.v (.sl 10 (Pm.cs (Ao (DQ x)))),.v (.sl 9 (Al.cs (Ae (DQ x)))),.v (.sl 9 (Tp.cs (Cg (DQ x)))),.v (.int .i64 (E0 x)),.v (.bool (Di x)),.v (.sl 1 (A1 (Az x))),.v (.sl 2 (Vr.cs (C8 x))),.v (.sl 2 (Vr.cs (Bz x))),.v (.sl 10 (Bo.cs (BB x))),.v (.int .i64 (Bd (BV x))),.v (.str (AK (BV x))),.v (.sl 9 (Tp.cs (AP (BV x)))),.v (.sl 1 (A1 (C2 (BV x)))),.v (.int .i64 (Ah (DU (BV x)))),.v (.str (AR (DU (BV x)))),.v (.int .i64 (DE (DU (BV x)))),.v (.sl 4 (Pr.cs (Bg (DU (BV x))))),.v (.sl 4 (Pr.cs (DX (BV x)))),.v (.sl 4 (Pr.cs (Dj x)))]
def Df.cs:List Df->List (List PV)
 | []=>[]
 | x::r=>CZ x::Df.cs r
theorem Df.Ay(l:List Df):Df.cs l=l.map (CZ):=by induction l with | nil=>rfl | cons x r ih=>simp [Df.cs,ih]
theorem Df.A0(l:List Df):(Df.cs l).length=l.length:=by simp [Df.Ay]
theorem Df.B0{l:List Df}{i:Nat}(h:i<l.length):(Df.cs l).getD i []=CZ (l.getD i default):=by rw [Df.Ay]; simp [List.getD,h]
theorem Df.A4(l:List Df)(x:Df):Df.cs (l++[x])=Df.cs l++[CZ x]:=by simp [Df.Ay]
abbrev Oo(x:In):List PV:=[.str (Ir x),.int .i64 (Bd (CU x)),.str (AK (CU x)),.sl 9 (Tp.cs (AP (CU x))),.sl 1 (A1 (C2 (CU x))),.int .i64 (Ah (DU (CU x))),.str (AR (DU (CU x))),.int .i64 (DE (DU (CU x))),.sl 4 (Pr.cs (Bg (DU (CU x)))),.sl 4 (Pr.cs (DX (CU x))),.sl 2 (Vr.cs (Z8 x)),.sl 25 (Df.cs (Nn x))]
def In.cs:List In->List (List PV)
 | []=>[]
 | x::r=>Oo x::In.cs r
theorem In.Ay(l:List In):In.cs l=l.map (Oo):=by induction l with | nil=>rfl | cons x r ih=>simp [In.cs,ih]
theorem In.A0(l:List In):(In.cs l).length=l.length:=by simp [In.Ay]
theorem In.B0{l:List In}{i:Nat}(h:i<l.length):(In.cs l).getD i []=Oo (l.getD i default):=by rw [In.Ay]; simp [List.getD,h]
abbrev R4(x:Cs):List PV:=[.str (P8 x),.sl 1 (A1 (Is x)),.int .i64 (Ah (Ll x)),.str (AR (Ll x)),.int .i64 (DE (Ll x)),.sl 4 (Pr.cs (Bg (Ll x)))]
def Cs.cs:List Cs->List (List PV)
 | []=>[]
 | x::r=>R4 x::Cs.cs r
theorem Cs.Ay(l:List Cs):Cs.cs l=l.map (R4):=by induction l with | nil=>rfl | cons x r ih=>simp [Cs.cs,ih]
theorem Cs.A0(l:List Cs):(Cs.cs l).length=l.length:=by simp [Cs.Ay]
theorem Cs.B0{l:List Cs}{i:Nat}(h:i<l.length):(Cs.cs l).getD i []=R4 (l.getD i default):=by rw [Cs.Ay]; simp [List.getD,h]
abbrev M7(x:Ms):List PV:=[.str (CM x),.str (Qs x),.str (msR x),.sl 6 (Cs.cs (CV x)),.int .i64 (Ah (J9 x)),.str (AR (J9 x)),.int .i64 (DE (J9 x)),.sl 4 (Pr.cs (Bg (J9 x)))]
abbrev Mm(x:Ms):List LV:=[.v (.str (CM x)),.v (.str (Qs x)),.v (.str (msR x)),.v (.sl 6 (Cs.cs (CV x))),.v (.int .i64 (Ah (J9 x))),.v (.str (AR (J9 x))),.v (.int .i64 (DE (J9 x))),.v (.sl 4 (Pr.cs (Bg (J9 x))))]
def Ms.cs:List Ms->List (List PV)
 | []=>[]
 | x::r=>M7 x::Ms.cs r
theorem Ms.Ay(l:List Ms):Ms.cs l=l.map (M7):=by induction l with | nil=>rfl | cons x r ih=>simp [Ms.cs,ih]
theorem Ms.A0(l:List Ms):(Ms.cs l).length=l.length:=by simp [Ms.Ay]
theorem Ms.B0{l:List Ms}{i:Nat}(h:i<l.length):(Ms.cs l).getD i []=M7 (l.getD i default):=by rw [Ms.Ay]; simp [List.getD,h]
abbrev WH(x:Qu):List PV:=[.str (M6 x),.sl 2 (Vr.cs (quW x)),.int .i64 (Ah (P9 x)),.str (AR (P9 x)),.int .i64 (DE (P9 x)),.sl 4 (Pr.cs (Bg (P9 x)))]
def Qu.cs:List Qu->List (List PV)
 | []=>[]
 | x::r=>WH x::Qu.cs r
theorem Qu.Ay(l:List Qu):Qu.cs l=l.map (WH):=by induction l with | nil=>rfl | cons x r ih=>simp [Qu.cs,ih]
theorem Qu.A0(l:List Qu):(Qu.cs l).length=l.length:=by simp [Qu.Ay]
theorem Qu.B0{l:List Qu}{i:Nat}(h:i<l.length):(Qu.cs l).getD i []=WH (l.getD i default):=by rw [Qu.Ay]; simp [List.getD,h]
abbrev DJ(x:Mo):List PV:=[.sl 4 (Da.cs (Aj x)),.sl 3 (Cl.cs (AA x)),.sl 12 (In.cs (Bv x)),.sl 8 (Ms.cs (Ba x)),.sl 6 (Qu.cs (BM x)),.sl 25 (Df.cs (AD x))]
abbrev E1(x:Mo):List LV:=[.v (.sl 4 (Da.cs (Aj x))),.v (.sl 3 (Cl.cs (AA x))),.v (.sl 12 (In.cs (Bv x))),.v (.sl 8 (Ms.cs (Ba x))),.v (.sl 6 (Qu.cs (BM x))),.v (.sl 25 (Df.cs (AD x)))]
abbrev sgL(x:Df):List PV:=[.sl 1 (A1 (Az x)),.sl 2 (Vr.cs (C8 x)),.sl 2 (Vr.cs (Bz x)),.sl 10 (Bo.cs (BB x)),.int .i64 (Bd (BV x)),.str (AK (BV x)),.sl 9 (Tp.cs (AP (BV x))),.sl 1 (A1 (C2 (BV x))),.int .i64 (Ah (DU (BV x))),.str (AR (DU (BV x))),.int .i64 (DE (DU (BV x))),.sl 4 (Pr.cs (Bg (DU (BV x)))),.sl 4 (Pr.cs (DX (BV x))),.sl 4 (Pr.cs (Dj x))]
theorem AN{α:Type} [Inhabited α] {l:List α} {i:Nat} (h:i<l.length):l.drop i=l.getD i default::l.drop (i+1):=by
 rw [List.drop_eq_getElem_cons h]
 simp [List.getD,h]
theorem D9{l:List BA}{i:Nat}(h:i<l.length):l.drop i=l.getD i AI::l.drop (i+1):=by
 rw [List.drop_eq_getElem_cons h]
 simp [List.getD,h]
theorem Bk{α:Type} [Inhabited α] {l:List α} {i:Nat} (h:i<l.length):l.getD i default∈l:=by simp [List.getD,h]
set_option maxRecDepth 100000
theorem mixed:Tryz.prog.follows .mixedOrders=true:=by kernel_rfl
theorem pu{f:FuncId}{fn:Func}{args:List PV}(md:Md)(L:Ext->List (Ew Tryz.prog)){r:Cd}(hf:Tryz.prog.funcs[f]?=some fn)(Eu:(Fl Tryz.prog f&&JR fn)=true:=by kernel_rfl)(h:∀e,Qi Tryz.prog md 50 fn args e (Om (L e)) = .ok (r,e) [] (TL (L e)):=by intro e; kernel_rfl):(Ob.Jt f args r).ok Tryz.prog:=Ob.Qj md 50 (fun e=>Om (L e)) mixed hf Eu h fun e=>lQ (L e)
theorem ef{f:FuncId}{fn:Func}{args:List PV}{e e':Ext}(md:Md)(L:List (Ew Tryz.prog)){r:Cd}(hf:Tryz.prog.funcs[f]?=some fn)(Eu:(Fl Tryz.prog f&&JR fn)=true:=by kernel_rfl)(h:Qi Tryz.prog md 50 fn args e (Om L) = .ok (r,e') [] (TL L):=by kernel_rfl):(Ob.DT f args e r e').ok Tryz.prog:=Ob.JU md 50 (Om L) mixed hf Eu h (lQ L)
theorem pw{cx:Cx}{c:Code}{s s':S}{pe:A7}{Q:A7->S->Prop}(md:Md)(n:Nat)(L:List (Ew Tryz.prog))(ks bs:List Nat)(hn:cx.n=n)(hq:Q pe s')(hc:BZ n c=true:=by kernel_rfl)(h:(DW Tryz.prog md n 50 c s (Om L)).BK ks bs = .ok (pe,s') [] (TL L):=by kernel_rfl):PW Tryz.prog cx c s Q:=G8 md n 50 (Om L) ks bs mixed hn hc h (lQ L) hq
abbrev Pu(f:FuncId)(a:List PV)(r:Cd):Prop:=(Ob.Jt f a r).ok Tryz.prog
abbrev Ef(f:FuncId)(a:List PV)(e:Ext)(r:Cd)(e':Ext):Prop:=(Ob.DT f a e r e').ok Tryz.prog
theorem Wq{a b:LV}(h:WL a b:=by first | exact .inl rfl | exact .inr ⟨rfl,rfl⟩ | exact .inr rfl | exact .inr trivial):WL a b:=h
theorem pm{f:FuncId}{fn:Func}{args:List PV}(md:Md)(L:List (Ew Tryz.prog)){r:Cd}(hf:Tryz.prog.funcs[f]?=some fn)(Eu:(Fl Tryz.prog f&&JR fn)=true:=by kernel_rfl)(h:∀e,Qi Tryz.prog md 50 fn args e (Om L) = .ok (r,e) [] (TL L):=by intro e; kernel_rfl):(Ob.Jt f args r).ok Tryz.prog:=pu md (fun _=>L) hf Eu h
abbrev bM(n:UInt8):BA:=ByteArray.mk #[n]
theorem kr{a:PV}{l r:List PV}(h:Jv l r):Jv (a::l) (a::r):=Jv.c (Wk.r _) h
theorem kn(n:Nat){l r:List PV}(h:Jv l r):Jv (.Ab::l) (.sl n []::r):=Jv.c (Wk.n n) h
def ksT(s:S):List Nat:=s.tmps.map (·.1)
def ksB(s:S):List Nat:=s.boxes.map (·.1)
def kQ(s:S):Bool:=YW s.tmps []&&YW s.boxes []
/-- A round of a loop over a list,as proofs give it. -/
def RB(n:Nat)(c:Code){β R:Type}(I:Int → β → S)(f:Nat → β → R)(q:R → A7 × S)(inv:Nat → β → Prop)(i:Nat)(b:β):Prop:=BZ n c=true → ∀cx:Cx,cx.n=n → PW Tryz.prog cx c (I (i:Int) b) fun pe s'=>(pe = .normal ∧ ∃b',inv (i+1) b' ∧ Ol (I ((i:Int)+1) b') s' ∧ f i b=f (i+1) b')∨(pe ≠ .normal ∧ pe=(q (f i b)).1 ∧ Ol (q (f i b)).2 s')
theorem Ek{n:Nat}{c:Code}{β R:Type}(len:Nat)(I:Int → β → S)(f:Nat → β → R)(q:R → A7 × S)(inv:Nat → β → Prop)(hc:BZ n c=true)(h:∀i b,i ≤ len → inv i b → RB n c I f q (fun i b=>i ≤ len ∧ inv i b) i b)(b:β)(h0:inv 0 b):(Ob.loop n c (I 0 b) (q (f 0 b)).1 (q (f 0 b)).2).ok Tryz.prog:=by
  refine Ob.G9 (P:=Tryz.prog) (α:={ zz:Nat × β // zz.1 ≤ len ∧ inv zz.1 zz.2 }) (fun zz=>I (zz.1.1:Int) zz.1.2) (fun zz=>len - zz.1.1) (fun zz=>q (f zz.1.1 zz.1.2)) ?_ ⟨(0,b),Nat.zero_le _,h0⟩
  rintro ⟨⟨i,b⟩,hi,hv⟩ cx AH
  simp only at hi hv ⊢
  refine (h i b hi hv hc cx AH).mono ?_
  rintro pe s' (⟨h1,b',h2,h3,h4⟩ | h5)
  · exact .inl ⟨h1,⟨(i+1,b'),h2⟩,by have:=h2.1; simp only; omega,h3,by simp only; rw [h4]⟩
  · exact .inr h5
section
variable {n:Nat} {c:Code} {β R:Type} {I:Int → β → S} {f:Nat → β → R} {q:R → A7 × S} {inv:Nat → β → Prop} {i:Nat} {b:β}
theorem lN{len:Nat}(md:Md)(L:List (Ew Tryz.prog))(hi:i<len)(b':β)(hv:inv (i+1) b')(hf:f i b=f (i+1) b')(h:(DW Tryz.prog md n 50 c (I i b) (Om L)).BK (ksT (I ((i:Int)+1) b')) (ksB (I ((i:Int)+1) b')) = .ok (.normal,I ((i:Int)+1) b') [] (TL L):=by kernel_rfl)(hk:kQ (I ((i:Int)+1) b')=true:=by kernel_rfl):RB n c I f q (fun i b=>i ≤ len ∧ inv i b) i b:=fun hc _ AH=>
  G8 md n 50 (Om L) _ _ mixed AH hc h (lQ L) (.inl ⟨rfl,b',⟨hi,hv⟩,xq hk,hf⟩)
theorem lS{len:Nat}(md:Md)(L:List (Ew Tryz.prog))(ks bs:List Nat)(hi:i<len)(b':β)(s':S)(hle:Ol (I ((i:Int)+1) b') s')(hv:inv (i+1) b')(hf:f i b=f (i+1) b')(h:(DW Tryz.prog md n 50 c (I i b) (Om L)).BK ks bs = .ok (.normal,s') [] (TL L):=by kernel_rfl):RB n c I f q (fun i b=>i ≤ len ∧ inv i b) i b:=fun hc _ AH=>
  G8 md n 50 (Om L) _ _ mixed AH hc h (lQ L) (.inl ⟨rfl,b',⟨hi,hv⟩,hle,hf⟩)
theorem lX{inv:Nat → β → Prop}(md:Md)(L:List (Ew Tryz.prog))(r:R)(hr:f i b=r)(h:(DW Tryz.prog md n 50 c (I i b) (Om L)).BK (ksT (q r).2) (ksB (q r).2) = .ok ((q r).1,(q r).2) [] (TL L):=by kernel_rfl)(hk:kQ (q r).2=true:=by kernel_rfl)(hp:(q r).1 ≠ .normal:=by intro hp; cases hp):RB n c I f q inv i b:=fun hc _ AH=>
  G8 md n 50 (Om L) _ _ mixed AH hc h (lQ L) (.inr ⟨hp,by rw [hr],by rw [hr]; exact xq hk⟩)
theorem lY{inv:Nat → β → Prop}{pe:A7}(md:Md)(L:List (Ew Tryz.prog))(ks bs:List Nat)(s':S)(r:R)(hr:f i b=r)(hle:Ol (q r).2 s')(he:pe=(q r).1)(hp:pe ≠ .normal)(h:(DW Tryz.prog md n 50 c (I i b) (Om L)).BK ks bs = .ok (pe,s') [] (TL L):=by kernel_rfl):RB n c I f q inv i b:=fun hc _ AH=>
  G8 md n 50 (Om L) ks bs mixed AH hc h (lQ L) (.inr ⟨hp,by rw [hr]; exact he,by rw [hr]; exact hle⟩)
end
theorem rz{n:Nat}{c:Code}{R:Type}{s:S}{q:R → A7 × S}{x y:R}(h:(Ob.loop n c s (q x).1 (q x).2).ok Tryz.prog)(e:x=y):(Ob.loop n c s (q y).1 (q y).2).ok Tryz.prog:=e ▸ h
section
variable {P:Program}
def Qr(l:List ByteArray)(i:Nat)(h:i<l.length:=by omega):Ew P:=ar ((A1 l).getD i []) [.str (l.getD i AI)] (by rw [BN h])
def xEx(l:List Ex)(i:Nat)(h:i<l.length:=by omega):Ew P:=ar ((Ex.cs l).getD i []) (AT (l.getD i default)) (by rw [Ex.B0 h])
def xAl(l:List Al)(i:Nat)(h:i<l.length:=by omega):Ew P:=ar ((Al.cs l).getD i []) (I4 (l.getD i default)) (by rw [Al.B0 h])
def rG(l:List Pm)(i:Nat)(h:i<l.length:=by omega):Ew P:=ar ((Pm.cs l).getD i []) (KW (l.getD i default)) (by rw [Pm.B0 h])
def xTp(l:List Tp)(i:Nat)(h:i<l.length:=by omega):Ew P:=ar ((Tp.cs l).getD i []) (BI (l.getD i default)) (by rw [Tp.B0 h])
def rH(l:List Df)(i:Nat)(h:i<l.length:=by omega):Ew P:=ar ((Df.cs l).getD i []) (CZ (l.getD i default)) (by rw [Df.B0 h])
def xPr(l:List Pr)(i:Nat)(h:i<l.length:=by omega):Ew P:=ar ((Pr.cs l).getD i []) (CI (l.getD i default)) (by rw [Pr.B0 h])
def xCn(l:List Cn)(i:Nat)(h:i<l.length:=by omega):Ew P:=ar ((Cn.cs l).getD i []) (KX (l.getD i default)) (by rw [Cn.B0 h])
def fA(l:List Da)(i:Nat)(h:i<l.length:=by omega):Ew P:=ar ((Da.cs l).getD i []) (EO (l.getD i default)) (by rw [Da.B0 h])
def rJ(l:List Cl)(i:Nat)(h:i<l.length:=by omega):Ew P:=ar ((Cl.cs l).getD i []) (Lm (l.getD i default)) (by rw [Cl.B0 h])
def xBo(l:List Bo)(i:Nat)(h:i<l.length:=by omega):Ew P:=ar ((Bo.cs l).getD i []) (WG (l.getD i default)) (by rw [Bo.B0 h])
def xIn(l:List In)(i:Nat)(h:i<l.length:=by omega):Ew P:=ar ((In.cs l).getD i []) (Oo (l.getD i default)) (by rw [In.B0 h])
def xCs(l:List Cs)(i:Nat)(h:i<l.length:=by omega):Ew P:=ar ((Cs.cs l).getD i []) (R4 (l.getD i default)) (by rw [Cs.B0 h])
def xU(l:List Ms)(i:Nat)(h:i<l.length:=by omega):Ew P:=ar ((Ms.cs l).getD i []) (M7 (l.getD i default)) (by rw [Ms.B0 h])
def xQu(l:List Qu)(i:Nat)(h:i<l.length:=by omega):Ew P:=ar ((Qu.cs l).getD i []) (WH (l.getD i default)) (by rw [Qu.B0 h])
end
theorem WI:∀p:PV,1<=Dq p:=fun p=>by cases p <;> simp [Dq]
theorem CG(p:PV)(r:List PV):1<=A5 (p::r):=by have:=WI p; simp only [A5]; omega
theorem Db:∀ {l:List (List PV)} {c:List PV},c∈l->A5 c<=Af l
 | x::r,c,h=>by
  simp only [Af]
  rcases List.mem_cons.1 h with rfl | h
  ·omega
  ·have:=Db h; omega
theorem CW:∀ {l:List (List PV)},(∀c∈l,1<=A5 c)->l.length<=Af l
 | [],_=>by simp
 | x::r,h=>by
  have h1:=h x List.mem_cons_self
  have h2:=CW fun c hc=>h c (List.mem_cons_of_mem _ hc)
  simp only [Af,List.length_cons]
  omega
theorem Dc(l:List BA):l.length<=Af (A1 l):=by
 have:=CW (l:=A1 l) fun c hc=>by
  rw [Fx] at hc
  obtain ⟨x,-,rfl⟩:=List.mem_map.1 hc
  exact CG _ _
 rwa [A3] at this
theorem Pr.BF(l:List Pr):l.length<=Af (Pr.cs l):=by
 have:=CW (l:=Pr.cs l) fun c hc=>by
  rw [Pr.Ay] at hc
  obtain ⟨x,-,rfl⟩:=List.mem_map.1 hc
  exact CG _ _
 rwa [Pr.A0] at this
theorem Pr.mem{l:List Pr}{x:Pr}(h:x∈l):A5 (CI x)<=Af (Pr.cs l):=Db (by rw [Pr.Ay]; exact List.mem_map_of_mem h)
theorem Tp.BF(l:List Tp):l.length<=Af (Tp.cs l):=by
 have:=CW (l:=Tp.cs l) fun c hc=>by
  rw [Tp.Ay] at hc
  obtain ⟨x,-,rfl⟩:=List.mem_map.1 hc
  exact CG _ _
 rwa [Tp.A0] at this
theorem Tp.mem{l:List Tp}{x:Tp}(h:x∈l):A5 (BI x)<=Af (Tp.cs l):=Db (by rw [Tp.Ay]; exact List.mem_map_of_mem h)
theorem Pm.BF(l:List Pm):l.length<=Af (Pm.cs l):=by
 have:=CW (l:=Pm.cs l) fun c hc=>by
  rw [Pm.Ay] at hc
  obtain ⟨x,-,rfl⟩:=List.mem_map.1 hc
  exact CG _ _
 rwa [Pm.A0] at this
theorem Pm.mem{l:List Pm}{x:Pm}(h:x∈l):A5 (KW x)<=Af (Pm.cs l):=Db (by rw [Pm.Ay]; exact List.mem_map_of_mem h)
theorem Ex.BF(l:List Ex):l.length<=Af (Ex.cs l):=by
 have:=CW (l:=Ex.cs l) fun c hc=>by
  rw [Ex.Ay] at hc
  obtain ⟨x,-,rfl⟩:=List.mem_map.1 hc
  exact CG _ _
 rwa [Ex.A0] at this
theorem Ex.mem{l:List Ex}{x:Ex}(h:x∈l):A5 (AT x)<=Af (Ex.cs l):=Db (by rw [Ex.Ay]; exact List.mem_map_of_mem h)
theorem Al.BF(l:List Al):l.length<=Af (Al.cs l):=by
 have:=CW (l:=Al.cs l) fun c hc=>by
  rw [Al.Ay] at hc
  obtain ⟨x,-,rfl⟩:=List.mem_map.1 hc
  exact CG _ _
 rwa [Al.A0] at this
theorem Al.mem{l:List Al}{x:Al}(h:x∈l):A5 (I4 x)<=Af (Al.cs l):=Db (by rw [Al.Ay]; exact List.mem_map_of_mem h)
theorem Vr.BF(l:List Vr):l.length<=Af (Vr.cs l):=by
 have:=CW (l:=Vr.cs l) fun c hc=>by
  rw [Vr.Ay] at hc
  obtain ⟨x,-,rfl⟩:=List.mem_map.1 hc
  exact CG _ _
 rwa [Vr.A0] at this
theorem Cn.BF(l:List Cn):l.length<=Af (Cn.cs l):=by
 have:=CW (l:=Cn.cs l) fun c hc=>by
  rw [Cn.Ay] at hc
  obtain ⟨x,-,rfl⟩:=List.mem_map.1 hc
  exact CG _ _
 rwa [Cn.A0] at this
theorem Cn.mem{l:List Cn}{x:Cn}(h:x∈l):A5 (KX x)<=Af (Cn.cs l):=Db (by rw [Cn.Ay]; exact List.mem_map_of_mem h)
theorem Da.BF(l:List Da):l.length<=Af (Da.cs l):=by
 have:=CW (l:=Da.cs l) fun c hc=>by
  rw [Da.Ay] at hc
  obtain ⟨x,-,rfl⟩:=List.mem_map.1 hc
  exact CG _ _
 rwa [Da.A0] at this
theorem Da.mem{l:List Da}{x:Da}(h:x∈l):A5 (EO x)<=Af (Da.cs l):=Db (by rw [Da.Ay]; exact List.mem_map_of_mem h)
theorem Cl.BF(l:List Cl):l.length<=Af (Cl.cs l):=by
 have:=CW (l:=Cl.cs l) fun c hc=>by
  rw [Cl.Ay] at hc
  obtain ⟨x,-,rfl⟩:=List.mem_map.1 hc
  exact CG _ _
 rwa [Cl.A0] at this
theorem Cl.mem{l:List Cl}{x:Cl}(h:x∈l):A5 (Lm x)<=Af (Cl.cs l):=Db (by rw [Cl.Ay]; exact List.mem_map_of_mem h)
theorem Bo.BF(l:List Bo):l.length<=Af (Bo.cs l):=by
 have:=CW (l:=Bo.cs l) fun c hc=>by
  rw [Bo.Ay] at hc
  obtain ⟨x,-,rfl⟩:=List.mem_map.1 hc
  exact CG _ _
 rwa [Bo.A0] at this
theorem Bo.mem{l:List Bo}{x:Bo}(h:x∈l):A5 (WG x)<=Af (Bo.cs l):=Db (by rw [Bo.Ay]; exact List.mem_map_of_mem h)
theorem Df.BF(l:List Df):l.length<=Af (Df.cs l):=by
 have:=CW (l:=Df.cs l) fun c hc=>by
  rw [Df.Ay] at hc
  obtain ⟨x,-,rfl⟩:=List.mem_map.1 hc
  exact CG _ _
 rwa [Df.A0] at this
theorem Df.mem{l:List Df}{x:Df}(h:x∈l):A5 (CZ x)<=Af (Df.cs l):=Db (by rw [Df.Ay]; exact List.mem_map_of_mem h)
theorem In.BF(l:List In):l.length<=Af (In.cs l):=by
 have:=CW (l:=In.cs l) fun c hc=>by
  rw [In.Ay] at hc
  obtain ⟨x,-,rfl⟩:=List.mem_map.1 hc
  exact CG _ _
 rwa [In.A0] at this
theorem In.mem{l:List In}{x:In}(h:x∈l):A5 (Oo x)<=Af (In.cs l):=Db (by rw [In.Ay]; exact List.mem_map_of_mem h)
theorem Cs.BF(l:List Cs):l.length<=Af (Cs.cs l):=by
 have:=CW (l:=Cs.cs l) fun c hc=>by
  rw [Cs.Ay] at hc
  obtain ⟨x,-,rfl⟩:=List.mem_map.1 hc
  exact CG _ _
 rwa [Cs.A0] at this
theorem Cs.mem{l:List Cs}{x:Cs}(h:x∈l):A5 (R4 x)<=Af (Cs.cs l):=Db (by rw [Cs.Ay]; exact List.mem_map_of_mem h)
theorem Ms.BF(l:List Ms):l.length<=Af (Ms.cs l):=by
 have:=CW (l:=Ms.cs l) fun c hc=>by
  rw [Ms.Ay] at hc
  obtain ⟨x,-,rfl⟩:=List.mem_map.1 hc
  exact CG _ _
 rwa [Ms.A0] at this
theorem Ms.mem{l:List Ms}{x:Ms}(h:x∈l):A5 (M7 x)<=Af (Ms.cs l):=Db (by rw [Ms.Ay]; exact List.mem_map_of_mem h)
theorem Qu.BF(l:List Qu):l.length<=Af (Qu.cs l):=by
 have:=CW (l:=Qu.cs l) fun c hc=>by
  rw [Qu.Ay] at hc
  obtain ⟨x,-,rfl⟩:=List.mem_map.1 hc
  exact CG _ _
 rwa [Qu.A0] at this
theorem Qu.mem{l:List Qu}{x:Qu}(h:x∈l):A5 (WH x)<=Af (Qu.cs l):=Db (by rw [Qu.Ay]; exact List.mem_map_of_mem h)
section
variable {P:Program} {n:Nat} {t:TypeId} {cs:List PV}
theorem D2(hu:P.underlying t=some .string)(h:Ty P n t cs):∃s,cs=[.str s]:=by
 cases n with
 | zero=>exact h.elim
 | succ n=>simp only [Ty,hu] at h; obtain ⟨s,rfl,-⟩:=h; exact ⟨s,rfl⟩
theorem Ln{k:IntKind}(hu:P.underlying t=some (.int k))(h:Ty P n t cs):∃v,cs=[.int k v]/\(Lit.int k v).wf=true:=by
 cases n with
 | zero=>exact h.elim
 | succ n=>simp only [Ty,hu] at h; exact h
theorem iO(hu:P.underlying t=some .bool)(h:Ty P n t cs):∃b,cs=[.bool b]:=by
 cases n with
 | zero=>exact h.elim
 | succ n=>simp only [Ty,hu] at h; exact h
theorem C0{fs:Array Field}(hu:P.underlying t=some (.struct fs))(h:Ty P n t cs):∃m,m<n/\TyF (Ty P m) fs.toList cs:=by
 cases n with
 | zero=>exact h.elim
 | succ n=>simp only [Ty,hu] at h; exact ⟨n,by omega,h⟩
theorem Z9{q:TypeId}(hu:P.underlying t=some (.slice q))(h:Ty P n t cs):∃m es,m<n/\cs=[.sl (P.cellsOf q) es]/\∀x∈es,Ty P m q x:=by
 cases n with
 | zero=>exact h.elim
 | succ n=>simp only [Ty,hu] at h; obtain ⟨es,h1,-,h2⟩:=h; exact ⟨n,es,by omega,h1,h2⟩
theorem Za{α:Type}{mk:α->List PV}:∀ {es:List (List PV)},(∀x∈es,∃a,x=mk a)->∃l:List α,es=l.map mk
 | [],_=>⟨[],rfl⟩
 | x::r,h=>by
  obtain ⟨a,rfl⟩:=h x sM
  obtain ⟨l,rfl⟩:=Za (es:=r) fun y hy=>h y (List.mem_cons_of_mem _ hy)
  exact ⟨a::l,rfl⟩
theorem C3{α:Type}{mk:α->List PV}{C:List α->List (List PV)}(hC:∀l,C l=l.map mk){q:TypeId}(hu:P.underlying t=some (.slice q)){z:Nat}(hz:P.cellsOf q=z)(h:Ty P n t cs)(he:∀m x,m<n->Ty P m q x->∃a,x=mk a):∃l,cs=[.sl z (C l)]:=by
 obtain ⟨m,es,hm,rfl,h2⟩:=Z9 hu h
 obtain ⟨l,rfl⟩:=Za fun x hx=>he m x hm (h2 x hx)
 exact ⟨l,by rw [hC,hz]⟩
end
section
variable {n:Nat} {cs:List PV}
theorem JX(h:Ty prog n 34 cs):∃l,cs=[.sl 1 (A1 l)]:=
 C3 (mk:=fun s=>[.str s]) Fx Tryz.underlying34 kR h fun m x _ hx=>D2 Tryz.underlying9 hx
theorem LN:∀ (n:Nat) (cs:List PV),Ty prog n 50 cs->∃x:Pr,cs=CI x:=by
 intro n
 induction n using Nat.strongRecOn with
 | _ n ih=>
  intro cs h
  obtain ⟨m,hm,h⟩:=C0 Tryz.underlying50 h
  obtain ⟨c1,r1,rfl,h1,c2,r2,rfl,h2,c3,r3,rfl,h3,c4,r4,rfl,h4,rfl⟩:=h
  obtain ⟨vO,rfl,-⟩:=Ln Tryz.underlying47 h1
  obtain ⟨Lo,rfl⟩:=D2 Tryz.underlying9 h2
  obtain ⟨vN,rfl,-⟩:=Ln Tryz.underlying3 h3
  obtain ⟨vK,rfl⟩:=C3 (z:=4) Pr.Ay Tryz.underlying48 kR h4 fun m' x FN hx=>ih m' oM x hx
  exact ⟨.mk vO Lo vN vK,by simp only [Ah,AR,DE,Bg,CI,List.cons_append,List.nil_append,List.append_nil]⟩
theorem Pa:∀ (n:Nat) (cs:List PV),Ty prog n 52 cs->∃x:Tp,cs=BI x:=by
 intro n
 induction n using Nat.strongRecOn with
 | _ n ih=>
  intro cs h
  obtain ⟨m,hm,h⟩:=C0 Tryz.underlying52 h
  obtain ⟨c1,r1,rfl,h1,c2,r2,rfl,h2,c3,r3,rfl,h3,c4,r4,rfl,h4,c5,r5,rfl,h5,c6,r6,rfl,h6,rfl⟩:=h
  obtain ⟨vO,rfl,-⟩:=Ln Tryz.underlying46 h1
  obtain ⟨Lo,rfl⟩:=D2 Tryz.underlying9 h2
  obtain ⟨vA,rfl⟩:=C3 (z:=9) Tp.Ay Tryz.underlying39 kR h3 fun m' x FN hx=>ih m' oM x hx
  obtain ⟨vNs,rfl⟩:=JX h4
  obtain ⟨vP,rfl⟩:=LN _ _ h5
  obtain ⟨vPs,rfl⟩:=C3 (z:=4) Pr.Ay Tryz.underlying48 kR h6 fun m' x FN hx=>LN _ _ hx
  exact ⟨.mk vO Lo vA vNs vP vPs,by simp only [Bd,AK,AP,C2,DU,DX,BI,Ah,AR,DE,Bg,CI,List.cons_append,List.nil_append,List.append_nil]⟩
theorem A0n(h:Ty prog n 132 cs):∃x:Pm,cs=KW x:=by
 obtain ⟨m,hm,h⟩:=C0 Tryz.underlying132 h
 obtain ⟨c1,r1,rfl,h1,c2,r2,rfl,h2,rfl⟩:=h
 obtain ⟨Lo,rfl⟩:=D2 Tryz.underlying9 h1
 obtain ⟨vT,rfl⟩:=Pa _ _ h2
 exact ⟨.mk Lo vT,by simp only [BR,Co,KW,Bd,AK,AP,C2,DU,DX,BI,Ah,AR,DE,Bg,CI,List.cons_append,List.nil_append,List.append_nil]⟩
theorem Sc(h:Ty prog n 81 cs):∃x:Pm,cs=KW x:=by
 obtain ⟨m,hm,h⟩:=C0 Tryz.underlying81 h
 obtain ⟨c1,r1,rfl,h1,c2,r2,rfl,h2,rfl⟩:=h
 obtain ⟨Lo,rfl⟩:=D2 Tryz.underlying9 h1
 obtain ⟨vT,rfl⟩:=Pa _ _ h2
 exact ⟨.mk Lo vT,by simp only [BR,Co,KW,Bd,AK,AP,C2,DU,DX,BI,Ah,AR,DE,Bg,CI,List.cons_append,List.nil_append,List.append_nil]⟩
theorem A0o:∀ (n:Nat) (cs:List PV),Ty prog n 41 cs->∃x:Ex,cs=AT x:=by
 intro n
 induction n using Nat.strongRecOn with
 | _ n ih=>
  intro cs h
  obtain ⟨m,hm,h⟩:=C0 Tryz.underlying41 h
  obtain ⟨c1,r1,rfl,h1,c2,r2,rfl,h2,c3,r3,rfl,h3,c4,r4,rfl,h4,c5,r5,rfl,h5,c6,r6,rfl,h6,c7,r7,rfl,h7,rfl⟩:=h
  obtain ⟨vO,rfl,-⟩:=Ln Tryz.underlying35 h1
  obtain ⟨Lo,rfl⟩:=D2 Tryz.underlying9 h2
  obtain ⟨vN,rfl,-⟩:=Ln Tryz.underlying3 h3
  obtain ⟨vK,rfl⟩:=C3 (z:=7) Ex.Ay Tryz.underlying36 kR h4 fun m' x FN hx=>ih m' oM x hx
  obtain ⟨vP,rfl⟩:=C3 (z:=10) Pm.Ay Tryz.underlying37 kR h5 fun m' x FN hx=>A0n hx
  obtain ⟨vA,rfl⟩:=C3 (z:=9) Al.Ay Tryz.underlying38 kR h6 fun m' x FN hx=>by
   obtain ⟨m2,hm2,hx⟩:=C0 Tryz.underlying130 hx
   obtain ⟨d1,r1,rfl,k1,d2,r2,rfl,k2,d3,r3,rfl,k3,rfl⟩:=hx
   obtain ⟨s,rfl⟩:=D2 Tryz.underlying9 k1
   obtain ⟨ns,rfl⟩:=JX k2
   obtain ⟨b,rfl⟩:=ih m2 oM _ k3
   exact ⟨.mk s ns b,by simp only [I4,FT,Bl,D4,List.cons_append,List.nil_append,List.append_nil]⟩
  obtain ⟨vT,rfl⟩:=C3 (z:=9) Tp.Ay Tryz.underlying39 kR h7 fun m' x FN hx=>Pa _ _ hx
  exact ⟨.mk vO Lo vN vK vP vA vT,by simp only [B2,Ap,Fa,AQ,Ao,Ae,Cg,AT,List.cons_append,List.nil_append,List.append_nil]⟩
theorem Zb(h:Ty prog n 137 cs):∃x:Vr,cs=O5 x:=by
 obtain ⟨m,hm,h⟩:=C0 Tryz.underlying137 h
 obtain ⟨c1,r1,rfl,h1,c2,r2,rfl,h2,rfl⟩:=h
 obtain ⟨Lo,rfl⟩:=D2 Tryz.underlying9 h1
 obtain ⟨vS,rfl⟩:=D2 Tryz.underlying60 h2
 exact ⟨.mk Lo vS,by simp only [CH,SY,O5,List.cons_append,List.nil_append,List.append_nil]⟩
theorem Pb(h:Ty prog n 197 cs):∃x:Vr,cs=O5 x:=by
 obtain ⟨m,hm,h⟩:=C0 Tryz.underlying197 h
 obtain ⟨c1,r1,rfl,h1,c2,r2,rfl,h2,rfl⟩:=h
 obtain ⟨a,rfl⟩:=D2 Tryz.underlying9 h1
 obtain ⟨b,rfl⟩:=D2 Tryz.underlying9 h2
 exact ⟨.mk a b,by simp only [CH,SY,O5,List.cons_append,List.nil_append,List.append_nil]⟩
theorem Zc(h:Ty prog n 200 cs):∃x:Vr,cs=O5 x:=by
 obtain ⟨m,hm,h⟩:=C0 Tryz.underlying200 h
 obtain ⟨c1,r1,rfl,h1,c2,r2,rfl,h2,rfl⟩:=h
 obtain ⟨a,rfl⟩:=D2 Tryz.underlying9 h1
 obtain ⟨b,rfl⟩:=D2 Tryz.underlying60 h2
 exact ⟨.mk a b,by simp only [CH,SY,O5,List.cons_append,List.nil_append,List.append_nil]⟩
theorem A0p(h:Ty prog n 74 cs):∃x:Cn,cs=KX x:=by
 obtain ⟨m,hm,h⟩:=C0 Tryz.underlying74 h
 obtain ⟨c1,r1,rfl,h1,c2,r2,rfl,h2,c3,r3,rfl,h3,rfl⟩:=h
 obtain ⟨Lo,rfl⟩:=D2 Tryz.underlying9 h1
 obtain ⟨vNs,rfl⟩:=JX h2
 obtain ⟨vF,rfl⟩:=C3 (z:=9) Tp.Ay Tryz.underlying39 kR h3 fun m' x FN hx=>Pa _ _ hx
 exact ⟨.mk Lo vNs vF,by simp only [Bj,EC,Fp,KX,List.cons_append,List.nil_append,List.append_nil]⟩
theorem A0q(h:Ty prog n 72 cs):∃x:Da,cs=EO x:=by
 obtain ⟨m,hm,h⟩:=C0 Tryz.underlying72 h
 obtain ⟨c1,r1,rfl,h1,c2,r2,rfl,h2,c3,r3,rfl,h3,c4,r4,rfl,h4,rfl⟩:=h
 obtain ⟨Lo,rfl⟩:=D2 Tryz.underlying9 h1
 obtain ⟨vVs,rfl⟩:=JX h2
 obtain ⟨vP,rfl⟩:=C3 (z:=2) Vr.Ay Tryz.underlying69 kR h3 fun m' x FN hx=>Zb hx
 obtain ⟨vC,rfl⟩:=C3 (z:=3) Cn.Ay Tryz.underlying70 kR h4 fun m' x FN hx=>A0p hx
 exact ⟨.mk Lo vVs vP vC,by simp only [BS,C1,Iq,AS,EO,List.cons_append,List.nil_append,List.append_nil]⟩
theorem A0r(h:Ty prog n 79 cs):∃x:Cl,cs=Lm x:=by
 obtain ⟨m,hm,h⟩:=C0 Tryz.underlying79 h
 obtain ⟨c1,r1,rfl,h1,c2,r2,rfl,h2,c3,r3,rfl,h3,rfl⟩:=h
 obtain ⟨Lo,rfl⟩:=D2 Tryz.underlying9 h1
 obtain ⟨vW,rfl⟩:=D2 Tryz.underlying9 h2
 obtain ⟨vM,rfl⟩:=C3 (z:=10) Pm.Ay Tryz.underlying77 kR h3 fun m' x FN hx=>Sc hx
 exact ⟨.mk Lo vW vM,by simp only [DK,LM,B9,Lm,List.cons_append,List.nil_append,List.append_nil]⟩
theorem A0s(h:Ty prog n 101 cs):∃x:Bo,cs=WG x:=by
 obtain ⟨m,hm,h⟩:=C0 Tryz.underlying101 h
 obtain ⟨c1,r1,rfl,h1,c2,r2,rfl,h2,c3,r3,rfl,h3,c4,r4,rfl,h4,rfl⟩:=h
 obtain ⟨Lo,rfl⟩:=D2 Tryz.underlying9 h1
 obtain ⟨vW,rfl⟩:=C3 (z:=2) Vr.Ay Tryz.underlying69 kR h2 fun m' x FN hx=>Zb hx
 obtain ⟨vH,rfl⟩:=LN _ _ h3
 obtain ⟨vG,rfl⟩:=LN _ _ h4
 exact ⟨.mk Lo vW vH vG,by simp only [FD,boW,R2,R3,WG,Ah,AR,DE,Bg,CI,List.cons_append,List.nil_append,List.append_nil]⟩
theorem lT(h:Ty prog n 56 cs):∃x:Df,cs=CZ x:=by
 obtain ⟨m,hm,h⟩:=C0 Tryz.underlying56 h
 obtain ⟨c1,r1,rfl,h1,c2,r2,rfl,h2,c3,r3,rfl,h3,c4,r4,rfl,h4,c5,r5,rfl,h5,c6,r6,rfl,h6,rfl⟩:=h
 obtain ⟨Lo,rfl⟩:=D2 Tryz.underlying9 h1
 obtain ⟨vP,rfl⟩:=JX h2
 obtain ⟨vB,rfl⟩:=A0o _ _ h3
 obtain ⟨vM,rfl,-⟩:=Ln Tryz.underlying42 h4
 obtain ⟨vTy,rfl⟩:=iO Tryz.underlying4 h5
 obtain ⟨m2,hm2,h6⟩:=C0 Tryz.underlying54 h6
 obtain ⟨d1,q1,rfl,k1,d2,q2,rfl,k2,d3,q3,rfl,k3,d4,q4,rfl,k4,d5,q5,rfl,k5,d6,q6,rfl,k6,rfl⟩:=h6
 obtain ⟨vVs,rfl⟩:=JX k1
 obtain ⟨vNe,rfl⟩:=C3 (z:=2) Vr.Ay Tryz.underlying43 kR k2 fun m' x FN hx=>Pb hx
 obtain ⟨vAb,rfl⟩:=C3 (z:=2) Vr.Ay Tryz.underlying44 kR k3 fun m' x FN hx=>Zc hx
 obtain ⟨vBo,rfl⟩:=C3 (z:=10) Bo.Ay Tryz.underlying45 kR k4 fun m' x FN hx=>A0s hx
 obtain ⟨vT,rfl⟩:=Pa _ _ k5
 obtain ⟨vMe,rfl⟩:=C3 (z:=4) Pr.Ay Tryz.underlying48 kR k6 fun m' x FN hx=>LN _ _ hx
 exact ⟨.mk Lo vP vB vM vTy vVs vNe vAb vBo vT vMe,by simp only [Ag,BD,DQ,E0,Di,Az,C8,Bz,BB,BV,Dj,CZ,B2,Ap,Fa,AQ,Ao,Ae,Cg,AT,Bd,AK,AP,C2,DU,DX,BI,Ah,AR,DE,Bg,CI,List.cons_append,List.nil_append,List.append_nil]⟩
theorem A0t(h:Ty prog n 83 cs):∃x:In,cs=Oo x:=by
 obtain ⟨m,hm,h⟩:=C0 Tryz.underlying83 h
 obtain ⟨c1,r1,rfl,h1,c2,r2,rfl,h2,c3,r3,rfl,h3,c4,r4,rfl,h4,rfl⟩:=h
 obtain ⟨Lo,rfl⟩:=D2 Tryz.underlying9 h1
 obtain ⟨vT,rfl⟩:=Pa _ _ h2
 obtain ⟨vNe,rfl⟩:=C3 (z:=2) Vr.Ay Tryz.underlying43 kR h3 fun m' x FN hx=>Pb hx
 obtain ⟨vD,rfl⟩:=C3 (z:=25) Df.Ay Tryz.underlying27 kR h4 fun m' x FN hx=>lT hx
 exact ⟨.mk Lo vT vNe vD,by simp only [Ir,CU,Z8,Nn,Oo,Bd,AK,AP,C2,DU,DX,BI,Ah,AR,DE,Bg,CI,List.cons_append,List.nil_append,List.append_nil]⟩
theorem A0u(h:Ty prog n 86 cs):∃x:Cs,cs=R4 x:=by
 obtain ⟨m,hm,h⟩:=C0 Tryz.underlying86 h
 obtain ⟨c1,r1,rfl,h1,c2,r2,rfl,h2,c3,r3,rfl,h3,rfl⟩:=h
 obtain ⟨vC,rfl⟩:=D2 Tryz.underlying9 h1
 obtain ⟨vNs,rfl⟩:=JX h2
 obtain ⟨vB,rfl⟩:=LN _ _ h3
 exact ⟨.mk vC vNs vB,by simp only [P8,Is,Ll,R4,Ah,AR,DE,Bg,CI,List.cons_append,List.nil_append,List.append_nil]⟩
theorem A0v(h:Ty prog n 63 cs):∃x:Ms,cs=M7 x:=by
 obtain ⟨m,hm,h⟩:=C0 Tryz.underlying63 h
 obtain ⟨c1,r1,rfl,h1,c2,r2,rfl,h2,c3,r3,rfl,h3,c4,r4,rfl,h4,c5,r5,rfl,h5,rfl⟩:=h
 obtain ⟨Lo,rfl⟩:=D2 Tryz.underlying9 h1
 obtain ⟨vD,rfl⟩:=D2 Tryz.underlying9 h2
 obtain ⟨vR,rfl⟩:=D2 Tryz.underlying60 h3
 obtain ⟨vC,rfl⟩:=C3 (z:=6) Cs.Ay Tryz.underlying61 kR h4 fun m' x FN hx=>A0u hx
 obtain ⟨vI,rfl⟩:=LN _ _ h5
 exact ⟨.mk Lo vD vR vC vI,by simp only [CM,Qs,msR,CV,J9,M7,Ah,AR,DE,Bg,CI,List.cons_append,List.nil_append,List.append_nil]⟩
theorem A0w(h:Ty prog n 88 cs):∃x:Qu,cs=WH x:=by
 obtain ⟨m,hm,h⟩:=C0 Tryz.underlying88 h
 obtain ⟨c1,r1,rfl,h1,c2,r2,rfl,h2,c3,r3,rfl,h3,rfl⟩:=h
 obtain ⟨Lo,rfl⟩:=D2 Tryz.underlying9 h1
 obtain ⟨vW,rfl⟩:=C3 (z:=2) Vr.Ay Tryz.underlying69 kR h2 fun m' x FN hx=>Zb hx
 obtain ⟨vB,rfl⟩:=LN _ _ h3
 exact ⟨.mk Lo vW vB,by simp only [M6,quW,P9,WH,Ah,AR,DE,Bg,CI,List.cons_append,List.nil_append,List.append_nil]⟩
theorem A0x(h:Ty prog n 29 cs):∃x:Mo,cs=DJ x:=by
 obtain ⟨m,hm,h⟩:=C0 Tryz.underlying29 h
 obtain ⟨c1,r1,rfl,h1,c2,r2,rfl,h2,c3,r3,rfl,h3,c4,r4,rfl,h4,c5,r5,rfl,h5,c6,r6,rfl,h6,rfl⟩:=h
 obtain ⟨vD,rfl⟩:=C3 (z:=4) Da.Ay Tryz.underlying22 kR h1 fun m' x FN hx=>A0q hx
 obtain ⟨vC,rfl⟩:=C3 (z:=3) Cl.Ay Tryz.underlying23 kR h2 fun m' x FN hx=>A0r hx
 obtain ⟨vI,rfl⟩:=C3 (z:=12) In.Ay Tryz.underlying24 kR h3 fun m' x FN hx=>A0t hx
 obtain ⟨vM,rfl⟩:=C3 (z:=8) Ms.Ay Tryz.underlying25 kR h4 fun m' x FN hx=>A0v hx
 obtain ⟨vQ,rfl⟩:=C3 (z:=6) Qu.Ay Tryz.underlying26 kR h5 fun m' x FN hx=>A0w hx
 obtain ⟨vF,rfl⟩:=C3 (z:=25) Df.Ay Tryz.underlying27 kR h6 fun m' x FN hx=>lT hx
 exact ⟨.mk vD vC vI vM vQ vF,by simp only [Aj,AA,Bv,Ba,BM,AD,DJ,List.cons_append,List.nil_append,List.append_nil]⟩
end
open Go.ChangeShapes Go.WideShapes Go.ChangeAt Go.RowKit
theorem own:ownKnob prog.godebug=none:=by kernel_rfl
theorem laidOut:laidOutB prog=true:=by kernel_rfl
def rK(P:Program)(t:TypeId):List TypeId:=match P.underlying t with
 | some (.slice e)=>[e]
 | some (.struct fs)=>fs.toList.map fun f=>f.type
 | _=>[]
def A7p(l:List TypeId)(x:TypeId):List TypeId:=if l.contains x then l else l++[x]
def Zd(P:Program):Nat->List TypeId->List TypeId
 | 0,l=>l
 | n+1,l=>Zd P n ((l.map (rK P)).flatten.foldl A7p l)
mutual
theorem Kt{H:Type}:∀d:DataW H,Ep d=Rows.uptoBulk d
 | .lit q=>by cases q <;> rfl
 | .nil=>rfl
 | .ptr d=>by rw [Ep,Rows.uptoBulk,Kt d]
 | .slice a b=>by rw [Ep,Rows.uptoBulk,Ku a,Ku b]
 | .agg a=>by rw [Ep,Rows.uptoBulk,Ku a]
 | .iface _ d=>by rw [Ep,Rows.uptoBulk,Kt d]
 | .map es=>by rw [Ep,Rows.uptoBulk,Sd es]
 | .held _=>rfl
theorem Ku{H:Type}:∀l:List (DataW H),Ei l=Rows.uptoBulkAll l
 | []=>rfl
 | d::r=>by rw [Ei,Rows.uptoBulkAll,Kt d,Ku r]
theorem Sd{H:Type}:∀l:List (Lit × DataW H),Qn l=Rows.uptoBulkEntries l
 | []=>rfl
 | x::r=>by rw [Qn,Rows.uptoBulkEntries,Ze x,Sd r]
theorem Ze{H:Type}:∀x:Lit × DataW H,TO x=Rows.uptoBulkEntry x
 | (q,d)=>by cases q <;> simp only [TO,Rows.uptoBulkEntry,Kt d]
end
theorem UU{H:Type}:∀ {a b:List (DataW H)},Ei a<=Rows.uptoBulkAll (a++b)
 | [],b=>Nat.zero_le _
 | d::a,b=>by
  have:=UU (a:=a) (b:=b)
  rw [List.cons_append,Ei,Rows.uptoBulkAll,Kt d]
  omega
theorem Zf{H:Type}{a b:List (DataW H)}(hk:Rows.uptoSmall H (a++b)=true):Ei a<=1048576:=by
 have h:Rows.uptoBulkAll (a++b)<=1048576:=of_decide_eq_true hk
 have:=UU (a:=a) (b:=b)
 omega
def kwZ:List (List UInt8):=[[97,110,100],[97,115,115,117,109,101],[98,111,111,108],[98,111,117,110,100],[99,97,115,101],[99,101,108,108],[99,108,97,115,115],[100,97,116,97],[100,101,102],[100,105,118],[101,108,115,101],[101,110,100],[102,97,108,115,101],[102,111,114,97,108,108],[102,117,110],[103,101,116],[105,102],[105,110],[105,110,115,116],[105,110,116],[105,110,118,97,114,105,97,110,116],[108,101,116],[109,97,116,99,104],[109,101,97,115,117,114,101],[109,101,116,114,105,99],[109,111,100],[109,117],[110,101,119],[110,111,116],[111,102],[111,114],[113,117,97,108],[114,101,102,108,101,99,116],[115,101,116],[116,104,101,110],[116,114,117,101],[117,115,101],[118],[118,97,108],[116,97,103],[119,104,101,114,101],[119,105,116,104]]
theorem A7q:prog.globalNamed "liquidcheck/names.keywords" = some 0:=by kernel_rfl
theorem Zg:(prog.globals[0]?).map (·.type)=some 251:=by kernel_rfl
theorem Zh:prog.cellsOf 251=42:=by kernel_rfl
theorem Zi:prog.cellsOf 9=1:=by kernel_rfl
theorem A7r {W:World} (h:laidMetH prog [("liquidcheck/names.keywords",Rows.laid_liquidcheck_names_keywords)] W):Xt g0 W:=
 WC (g:=0) (zs:=kwZ) rfl (On (zs:=kwZ) (rest:=[]) A7q Zg Tryz.underlying251 Tryz.underlying9 Zi Zh h)
noncomputable def Lp (os:Os):World:=
 { World.holding prog os ⟨#[],#[],[]⟩ with heap:=(World.holding prog os ⟨#[],#[],[]⟩).heap.modify 0 fun
   | .cells _ t frozen => .cells (kwZ.map fun z=>Value.string ⟨z.toArray⟩).toArray t frozen
   | o=>o }
def An:Md:=⟨fun _=>some false,fun _=>false⟩
theorem Se{m:Mo}{i:Nat}(hm:∀c∈AA m,(B9 c).length<=1048576)(h:i<(AA m).length):(B9 ((AA m).getD i default)).length<=1000000000:=by
 have:=hm _ (Bk h); omega
abbrev lU(m:Mo)(c:Cl)(o:Int)(xe:Ext)(TQ:List BA)(j:Int)(out:List BA)  : S:=S.mk [(1,.lp 1 0),(2,.v .Ab),(3,.uniq 9 1 (A1 out)),(11,vL 3 (Cl.cs (AA m))),(12,A2 ((AA m).length:Int)),(13,A2 o),(18,vL 10 (Pm.cs (B9 c))),(19,A2 ((B9 c).length:Int)),(20,A2 j)] [(1,E1 m)] xe
def I5  : List Pm->(List BA)->(List BA)
 | [],out=>(out)
 | el::r,out=>I5  r (out++[BR el])
def Zj(m:Mo)(c:Cl)(o:Int)(xe:Ext)(TQ:List BA)(p:(List BA)):A7 × S:=(.exit 2,S.mk [(1,.lp 1 0),(2,.v .Ab),(3,.uniq 9 1 (A1 p)),(11,vL 3 (Cl.cs (AA m))),(12,A2 ((AA m).length:Int)),(13,A2 o),(18,vL 10 (Pm.cs (B9 c))),(19,A2 ((B9 c).length:Int))] [(1,E1 m)] xe)
theorem nA1(m:Mo)(c:Cl)(o:Int)(xe:Ext)(TQ:List BA)(out:List BA)(hN:(B9 c).length<=1000000000)(hv:List.length out<=2000000000000+0):(Ob.loop 45 (Am f18 1) (lU m c o xe TQ 0 out) (Zj m c o xe TQ  (I5  ((B9 c))  out)).1 (Zj m c o xe TQ  (I5  ((B9 c))  out)).2).ok prog:=by
 refine Ek ((B9 c).length) (fun j out=>lU m c o xe TQ j out) (fun i out=>I5  (List.drop i ((B9 c)))  out) (Zj m c o xe TQ) (fun i out=>(out.length<=2000000000000+i)) kR ?_ out (by first | exact hv | omega)
 rintro i out hi hv
 try simp only at hv
 rcases Nat.lt_or_ge i ((B9 c).length) with Ad | Dm
 ·have hd:=AN Ad
  exact lS An [dt ((i:Int)<((B9 c).length:Int)),am ((0:Int)<=(i:Int)/\(i:Int)<((Pm.cs (B9 c)).length:Int)) (by (simp only [Pm.A0]; omega)),rG (B9 c) i Ad,am (List.length (A1 out++(fun x=>Prod.snd x) (0+1,[[.str (BR (List.getD (B9 c) i default))]])) * (15+1)<=140737488355328) (by (simp only [List.length_append,List.length_cons,List.length_nil,A3]; omega)),wr ((i:Int)+1)] [1,2,3,11,12,13,18,19,20] [1] Ad (out++[BR (List.getD (B9 c) i default)]) (S.mk [(1,.lp 1 0),(2,.v .Ab),(3,.uniq 9 1 (A1 out++[[PV.str (BR (List.getD (B9 c) i default))]])),(11,vL 3 (Cl.cs (AA m))),(12,A2 ((AA m).length:Int)),(13,A2 o),(18,vL 10 (Pm.cs (B9 c))),(19,A2 ((B9 c).length:Int)),(20,A2 ((i:Int)+1))] [(1,E1 m)] xe) ⟨⟨W,W,(.inl (by first | (simp only [List.nil_append,Av,Aw,Pr.A4,Tp.A4,Ex.A4,Vr.A4,Df.A4]; done) | (simp only [List.nil_append,Av,Aw,Pr.A4,Tp.A4,Ex.A4,Vr.A4,Df.A4]; rfl))),W,W,W,W,W,W,Ar⟩,⟨Ws,Ar⟩,rfl⟩ (by first | assumption | omega | (simp only [List.length_append,List.length_cons,List.length_nil] at *; omega) | simp_all) (by rw [hd,I5])
 ·have he:i=(B9 c).length:=by omega
  exact lX An [df ((i:Int)<((B9 c).length:Int))] (out) (by rw [he,List.drop_length,I5])
theorem TR:∀ (l:List Pm) (out:List BA),I5 l out=out++l.map BR
 | [],out=>by simp [I5]
 | p::r,out=>by simp [I5,TR r]
theorem Zk{m:Mo}{i:Nat}{out:List BA}(ho:out.length<=1048576 * i)(hc:(AA m).length<=1048576)(h:i<(AA m).length):out.length<=2000000000000+0:=by
 have:1048576 * i<=1048576 * 1048576:=Nat.mul_le_mul_left _ oM
 omega
theorem UW{m:Mo}{i:Nat}{out:List BA}(ho:out.length<=1048576 * i)(hm:∀c∈AA m,(B9 c).length<=1048576)(h:i<(AA m).length):(I5 (B9 ((AA m).getD i default)) out).length<=1048576 * (i+1):=by
 have:=hm _ (Bk h)
 rw [TR,List.length_append,List.length_map]; omega
abbrev lV(m:Mo)(j:Int)(out:List BA)(e:Ext):S:=S.mk [(1,.lp 1 0),(2,.v .Ab),(3,.uniq 9 1 (A1 out)),(11,vL 3 (Cl.cs (AA m))),(12,A2 ((AA m).length:Int)),(13,A2 j)] [(1,E1 m)] e
def Hy  : List Cl->(List BA)->(List BA)
 | [],out=>(out)
 | el::r,out=>Hy  r (I5 (B9 el) out)
def Zl(m:Mo)(e:Ext)(p:(List BA)):A7 × S:=(.exit 0,S.mk [(1,.lp 1 0),(2,.v .Ab),(3,.uniq 9 1 (A1 p)),(11,vL 3 (Cl.cs (AA m))),(12,A2 ((AA m).length:Int))] [(1,E1 m)] e)
theorem nA0(m:Mo)(hc:(AA m).length<=1048576)(hm:∀c∈AA m,(B9 c).length<=1048576)(out:List BA)(e:Ext)(hN:(AA m).length<=1000000000)(hv:List.length out<=1048576 * 0):(Ob.loop 45 (Am f18 0) (lV m 0 out e) (Zl m e (Hy  ((AA m))  out)).1 (Zl m e (Hy  ((AA m))  out)).2).ok prog:=by
 refine Ek ((AA m).length) (fun j out=>lV m j out e) (fun i out=>Hy  (List.drop i ((AA m)))  out) (Zl m e) (fun i out=>(out.length<=1048576 * i)) kR ?_ out (by first | exact hv | omega)
 rintro i out hi hv
 try simp only at hv
 rcases Nat.lt_or_ge i ((AA m).length) with Ad | Dm
 ·have hd:=AN Ad
  exact lN An [dt ((i:Int)<((AA m).length:Int)),am ((0:Int)<=(i:Int)/\(i:Int)<((Cl.cs (AA m)).length:Int)) (by (simp only [Cl.A0]; omega)),rJ (AA m) i Ad,sl (Pm.A0 (B9 (List.getD (AA m) i default))),lp (S.mk [(1,.lp 1 0),(2,.v .Ab),(3,.uniq 9 1 (A1 out)),(11,vL 3 (Cl.cs (AA m))),(12,A2 ((AA m).length:Int)),(13,A2 (i:Int)),(14,.v (.bool (decide ((i:Int)<((AA m).length:Int))))),(15,.v (.ro (Lm (List.getD (AA m) i default)) 0)),(16,.v (.agg (Lm (List.getD (AA m) i default)))),(5,.lp 5 0),(17,.lp 5 2),(18,vL 10 (Pm.cs (B9 (List.getD (AA m) i default)))),(19,A2 ((B9 (List.getD (AA m) i default)).length:Int)),(20,A2 0)] [(1,E1 m),(5,clV (List.getD (AA m) i default))] e) (@nA1 (m) (List.getD (AA m) i default) ((i:Int)) (e) default (out) (by (apply Se <;> first | assumption | omega | decide)) oM) xr,wr ((i:Int)+1)] Ad (I5 (B9 (List.getD (AA m) i default)) out) (by first | assumption | omega | (apply Se <;> first | assumption | omega | decide) | (apply Zk <;> first | assumption | omega | decide) | (apply UW <;> first | assumption | omega | decide) | (simp only [List.length_append,List.length_cons,List.length_nil] at *; omega) | simp_all) (by rw [hd,Hy])
 ·have he:i=(AA m).length:=by omega
  exact lX An [df ((i:Int)<((AA m).length:Int))] (out) (by rw [he,List.drop_length,Hy])
abbrev lW(m:Mo)(j:Int)(out:List BA)(e:Ext):S:=S.mk [(2,.v .Ab),(3,.uniq 9 1 (A1 out)),(32,vL 25 (Df.cs (AD m))),(33,A2 ((AD m).length:Int)),(34,A2 j)] [] e
def Jz  : List Df->(List BA)->(List BA)
 | [],out=>(out)
 | el::r,out=>Jz  r (out++[Ag el])
def Zm(m:Mo)(e:Ext)(p:(List BA)):A7 × S:=(.exit 4,S.mk [(2,.v .Ab),(3,.uniq 9 1 (A1 p)),(32,vL 25 (Df.cs (AD m))),(33,A2 ((AD m).length:Int))] [] e)
theorem nA2(m:Mo)(hc:(AA m).length<=1048576)(hm:∀c∈AA m,(B9 c).length<=1048576)(out:List BA)(e:Ext)(hN:(AD m).length<=1000000000)(hv:List.length out<=2000000000000+0):(Ob.loop 45 (Am f18 2) (lW m 0 out e) (Zm m e (Jz  ((AD m))  out)).1 (Zm m e (Jz  ((AD m))  out)).2).ok prog:=by
 refine Ek ((AD m).length) (fun j out=>lW m j out e) (fun i out=>Jz  (List.drop i ((AD m)))  out) (Zm m e) (fun i out=>(out.length<=2000000000000+i)) kR ?_ out (by first | exact hv | omega)
 rintro i out hi hv
 try simp only at hv
 rcases Nat.lt_or_ge i ((AD m).length) with Ad | Dm
 ·have hd:=AN Ad
  exact lS An [dt ((i:Int)<((AD m).length:Int)),am ((0:Int)<=(i:Int)/\(i:Int)<((Df.cs (AD m)).length:Int)) (by (simp only [Df.A0]; omega)),rH (AD m) i Ad,am (List.length (A1 out++(fun x=>Prod.snd x) (0+1,[[.str (Ag (List.getD (AD m) i default))]])) * (15+1)<=140737488355328) (by (simp only [List.length_append,List.length_cons,List.length_nil,A3]; omega)),wr ((i:Int)+1)] [2,3,32,33,34] [] Ad (out++[Ag (List.getD (AD m) i default)]) (S.mk [(2,.v .Ab),(3,.uniq 9 1 (A1 out++[[PV.str (Ag (List.getD (AD m) i default))]])),(32,vL 25 (Df.cs (AD m))),(33,A2 ((AD m).length:Int)),(34,A2 ((i:Int)+1))] [] e) ⟨⟨W,(.inl (by first | (simp only [List.nil_append,Av,Aw,Pr.A4,Tp.A4,Ex.A4,Vr.A4,Df.A4]; done) | (simp only [List.nil_append,Av,Aw,Pr.A4,Tp.A4,Ex.A4,Vr.A4,Df.A4]; rfl))),W,W,W,Ar⟩,trivial,rfl⟩ (by first | assumption | omega | (apply Se <;> first | assumption | omega | decide) | (apply Zk <;> first | assumption | omega | decide) | (apply UW <;> first | assumption | omega | decide) | (simp only [List.length_append,List.length_cons,List.length_nil] at *; omega) | simp_all) (by rw [hd,Jz])
 ·have he:i=(AD m).length:=by omega
  exact lX An [df ((i:Int)<((AD m).length:Int))] (out) (by rw [he,List.drop_length,Jz])
theorem TS:∀ (l:List Cl) (out:List BA),Hy l out=out++l.flatMap fun c=>(B9 c).map BR
 | [],out=>by simp [Hy]
 | p::r,out=>by simp [Hy,TS r,TR]
theorem Zn:∀ (l:List Df) (out:List BA),Jz l out=out++l.map Ag
 | [],out=>by simp [Jz]
 | p::r,out=>by simp [Jz,Zn r]
theorem UX:∀ (l:List Cl),(∀c∈l,(B9 c).length<=1048576)->(l.flatMap fun c=>(B9 c).map BR).length<=1048576 * l.length
 | [],_=>by simp
 | x::r,h=>by
  have h1:=h x sM
  have h2:=UX r fun c hc=>h c (List.mem_cons_of_mem _ hc)
  simp only [List.flatMap_cons,List.length_append,List.length_map,List.length_cons]
  omega
theorem rL{m:Mo}(hc:(AA m).length<=1048576)(hm:∀c∈AA m,(B9 c).length<=1048576):(Hy (AA m) []).length<=2000000000000+0:=by
 rw [TS,List.nil_append]
 have h1:=UX (AA m) hm
 have h2:1048576 * (AA m).length<=1048576 * 1048576:=Nat.mul_le_mul_left _ hc
 omega
theorem rM(m:Mo)(hc:(AA m).length<=1048576)(hm:∀c∈AA m,(B9 c).length<=1048576)(hf:(AD m).length<=1048576):Pu 18 [.agg (DJ m)] (.own 9 1 (A1 (Jz (AD m) (Hy (AA m) [])))):=
 pu An (fun e=>[sl (Cl.A0 (AA m)),lp (S.mk [(0,.v (.agg (DJ m))),(1,.lp 1 0),(2,.v .Ab),(3,.v .Ab),(10,.lp 1 1),(11,vL 3 (Cl.cs (AA m))),(12,A2 ((AA m).length:Int)),(13,A2 0)] [(1,E1 m)] e) (@nA0 (m) hc hm ([]) (e) oM (by (simp only [List.length_nil]; omega))) ⟨⟨W,W,Wq,W,W,W,Ar⟩,⟨⟨W,W,W,W,W,W,Ar⟩,Ar⟩,rfl⟩,sl (Df.A0 (AD m)),lp (S.mk [(1,.lp 1 0),(2,.v .Ab),(3,.uniq 9 1 (A1 (Hy (AA m) []))),(11,vL 3 (Cl.cs (AA m))),(12,A2 ((AA m).length:Int)),(31,.lp 1 5),(32,vL 25 (Df.cs (AD m))),(33,A2 ((AD m).length:Int)),(34,A2 0)] [(1,E1 m)] e) (@nA2 (m) hc hm (Hy (AA m) []) (e) oM (by (apply rL <;> first | assumption | omega | decide))) xr]) func18
def Qv(m:Mo):List BA:=(AA m).flatMap fun c=>(B9 c).map BR
theorem lZ{m:Mo}{i:Nat}(hk:∀c∈Aj m,(AS c).length<=1048576)(h:i<(Aj m).length):(AS ((Aj m).getD i default)).length<=1000000000:=by
 have:=hk _ (Bk h); omega
def ix{α:Type}(f:α->BA)(name:BA):List α->Nat
 | []=>0
 | c::r=>if f c=name then 0 else ix f name r+1
abbrev iQ(m:Mo)(name:BA)(j:Int)(e:Ext):S:=S.mk [(1,vS name),(4,.lp 4 0),(5,.v (.bool false)),(9,vL 25 (Df.cs (AD m))),(10,A2 ((AD m).length:Int)),(11,A2 j)] [(4,[vS AI,.v .Ab,A2 0,vS AI,A2 0,.v .Ab,.v .Ab,.v .Ab,.v .Ab,A2 0,.v (.bool false),.v .Ab,.v .Ab,.v .Ab,.v .Ab,A2 0,vS AI,.v .Ab,.v .Ab,A2 0,vS AI,A2 0,.v .Ab,.v .Ab,.v .Ab])] e
inductive Kv where
 | e0 (el:Df)
 | e1
def JY(name:BA):List Df->Kv
 | []=>(Kv.e1)
 | el::r=>(if Ag el=name then (Kv.e0 el) else JY name r)
def TT(m:Mo)(name:BA)(e:Ext):Kv->A7 × S
 | .e0 el=>(.ret,S.mk [(1,vS name),(4,.lp 4 0),(5,.v (.bool true)),(9,vL 25 (Df.cs (AD m))),(10,A2 ((AD m).length:Int))] [(4,Jn el)] e)
 | .e1=>(.exit 0,S.mk [(1,vS name),(4,.lp 4 0),(5,.v (.bool false)),(9,vL 25 (Df.cs (AD m))),(10,A2 ((AD m).length:Int))] [(4,[vS AI,.v .Ab,A2 0,vS AI,A2 0,.v .Ab,.v .Ab,.v .Ab,.v .Ab,A2 0,.v (.bool false),.v .Ab,.v .Ab,.v .Ab,.v .Ab,A2 0,vS AI,.v .Ab,.v .Ab,A2 0,vS AI,A2 0,.v .Ab,.v .Ab,.v .Ab])] e)
theorem m0(m:Mo)(name:BA)(e:Ext)(hN:(AD m).length<=1000000000):(Ob.loop 22 (Am f28 0) (iQ m name 0  e) (TT m name e (JY name (List.drop 0 ((AD m))))).1 (TT m name e (JY name (List.drop 0 ((AD m))))).2).ok prog:=by
 refine Ek ((AD m).length) (fun j _=>iQ m name j  e) (fun i _=>JY name (List.drop i ((AD m)))) (TT m name e) (fun i _=>True) kR ?_ () trivial
 rintro i u hi -
 rcases Nat.lt_or_ge i ((AD m).length) with Ad | Dm
 ·have hd:=AN Ad
  by_cases h0:Ag (List.getD (AD m) i default)=name
  ·exact lX An [dt ((i:Int)<((AD m).length:Int)),am ((0:Int)<=(i:Int)/\(i:Int)<((Df.cs (AD m)).length:Int)) (by (simp only [Df.A0]; omega)),rH (AD m) i Ad,bt (ByteArray.toList (Ag (List.getD (AD m) i default))==ByteArray.toList name) (DZ h0)] (Kv.e0 (List.getD ((AD m)) i default)) (by rw [hd,JY,iP h0])
  ·exact lN An [dt ((i:Int)<((AD m).length:Int)),am ((0:Int)<=(i:Int)/\(i:Int)<((Df.cs (AD m)).length:Int)) (by (simp only [Df.A0]; omega)),rH (AD m) i Ad,bf (ByteArray.toList (Ag (List.getD (AD m) i default))==ByteArray.toList name) (HT h0),wr ((i:Int)+1)] Ad () trivial (by rw [hd,JY,iN h0])
 ·have he:i=(AD m).length:=by omega
  exact lX An [df ((i:Int)<((AD m).length:Int))] (Kv.e1) (by rw [he,List.drop_length,JY])
theorem A7s(m:Mo)(name:BA)(e:Ext)(hN:(AD m).length<=1000000000)(p0:Df)(AF:(JY name ((AD m)))=(Kv.e0 p0)):(Ob.loop 22 (Am f28 0) (iQ m name 0  e) (TT m name e (Kv.e0 p0)).1 (TT m name e (Kv.e0 p0)).2).ok prog:=
 rz (m0 m name e hN) AF
theorem A7t(m:Mo)(name:BA)(e:Ext)(hN:(AD m).length<=1000000000)(AF:(JY name ((AD m)))=(Kv.e1)):(Ob.loop 22 (Am f28 0) (iQ m name 0  e) (TT m name e (Kv.e1)).1 (TT m name e (Kv.e1)).2).ok prog:=
 rz (m0 m name e hN) AF
theorem rN(name:BA):∀l:List Df,JY name l=if ix Ag name l<l.length then .e0 (l.getD (ix Ag name l) default) else .e1
 | []=>by simp [JY,ix]
 | c::r=>by
  by_cases h:Ag c=name
  ·simp [JY,ix,h]
  ·simp only [JY,ix,h,if_false,rN name r,List.length_cons,Nat.add_lt_add_iff_right,List.getD_cons_succ]
theorem A0y(m:Mo)(name:BA)(hf:(AD m).length<=1048576)(Ee:Df)(Au:JY name (AD m)=Kv.e0 Ee):Pu 28 [.agg (DJ m),.str name] (.ret (.B6 [.agg (CZ Ee),.bool true])):=
 pu An (fun e=>[sl (Df.A0 (AD m)),lp (S.mk [(0,.v (.agg (DJ m))),(1,vS name),(2,.lp 2 0),(4,.lp 4 0),(5,.v (.bool false)),(8,.lp 2 5),(9,vL 25 (Df.cs (AD m))),(10,A2 ((AD m).length:Int)),(11,A2 0)] [(2,E1 m),(4,[vS AI,.v .Ab,A2 0,vS AI,A2 0,.v .Ab,.v .Ab,.v .Ab,.v .Ab,A2 0,.v (.bool false),.v .Ab,.v .Ab,.v .Ab,.v .Ab,A2 0,vS AI,.v .Ab,.v .Ab,A2 0,vS AI,A2 0,.v .Ab,.v .Ab,.v .Ab])] e) (@A7s (m) (name) (e) oM Ee Au) xr]) func28
theorem A0z(m:Mo)(name:BA)(hf:(AD m).length<=1048576)(Ak:JY name (AD m)=Kv.e1):Pu 28 [.agg (DJ m),.str name] (.ret (.B6 [.agg [.str AI,.sl 1 [],pI 0,.str AI,pI 0,.sl 7 [],.sl 10 [],.sl 9 [],.sl 9 [],pI 0,.bool false,.sl 1 [],.sl 2 [],.sl 2 [],.sl 10 [],pI 0,.str AI,.sl 9 [],.sl 1 [],pI 0,.str AI,pI 0,.sl 4 [],.sl 4 [],.sl 4 []],.bool false])):=
 Ob.Ql (Wk.t (Jv.c (Wk.a (kr (kn 1 (kr (kr (kr (kn 7 (kn 10 (kn 9 (kn 9 (kr (kr (kn 1 (kn 2 (kn 2 (kn 10 (kr (kr (kn 9 (kn 1 (kr (kr (kr (kn 4 (kn 4 (kn 4 (Jv.r _))))))))))))))))))))))))))) (Jv.r _))) (pu An (fun e=>[sl (Df.A0 (AD m)),lp (S.mk [(0,.v (.agg (DJ m))),(1,vS name),(2,.lp 2 0),(4,.lp 4 0),(5,.v (.bool false)),(8,.lp 2 5),(9,vL 25 (Df.cs (AD m))),(10,A2 ((AD m).length:Int)),(11,A2 0)] [(2,E1 m),(4,[vS AI,.v .Ab,A2 0,vS AI,A2 0,.v .Ab,.v .Ab,.v .Ab,.v .Ab,A2 0,.v (.bool false),.v .Ab,.v .Ab,.v .Ab,.v .Ab,A2 0,vS AI,.v .Ab,.v .Ab,A2 0,vS AI,A2 0,.v .Ab,.v .Ab,.v .Ab])] e) (@A7t (m) (name) (e) oM Ak) xr]) func28)
theorem dFT(m:Mo)(name:BA)(hf:(AD m).length<=1048576)(hx:ix Ag name (AD m)<(AD m).length):Pu 28 [.agg (DJ m),.str name] (.ret (.B6 [.agg (CZ ((AD m).getD (ix Ag name (AD m)) default)),.bool true])):=
 A0y m name hf _ (by rw [rN,iP hx])
theorem dFF(m:Mo)(name:BA)(hf:(AD m).length<=1048576)(hx:¬ix Ag name (AD m)<(AD m).length):Pu 28 [.agg (DJ m),.str name] (.ret (.B6 [.agg (CZ default),.bool false])):=
 A0z m name hf (by rw [rN,iN hx])
abbrev Pc(m:Mo)(d:Da)(name:BA)(o:Int)(xe:Ext)(j:Int)   : S:=S.mk [(1,vS name),(4,.lp 4 0),(5,A2 0),(6,.v (.bool false)),(8,.lp 8 0),(12,vL 4 (Da.cs (Aj m))),(13,A2 ((Aj m).length:Int)),(14,A2 o),(19,vL 3 (Cn.cs (AS d))),(20,A2 ((AS d).length:Int)),(21,A2 j)] [(4,[jk,jk,jk,jk]),(8,JW d)] xe
inductive I6 where
 | e0 (i:Nat)
 | e1
def Hz(name:BA):List Cn->Nat->I6
 | [],i=>(I6.e1)
 | el::r,i=>(if Bj el=name then (I6.e0 i) else Hz name r (i+1))
def IN(m:Mo)(d:Da)(name:BA)(o:Int)(xe:Ext)  : I6->A7 × S
 | .e0 i=>(.ret,S.mk [(1,vS name),(4,.lp 4 0),(5,A2 (i:Int)),(6,.v (.bool true)),(8,.lp 8 0),(12,vL 4 (Da.cs (Aj m))),(13,A2 ((Aj m).length:Int)),(14,A2 o),(19,vL 3 (Cn.cs (AS d))),(20,A2 ((AS d).length:Int))] [(4,JW d),(8,JW d)] xe)
 | .e1=>(.exit 2,S.mk [(1,vS name),(4,.lp 4 0),(5,A2 0),(6,.v (.bool false)),(8,.lp 8 0),(12,vL 4 (Da.cs (Aj m))),(13,A2 ((Aj m).length:Int)),(14,A2 o),(19,vL 3 (Cn.cs (AS d))),(20,A2 ((AS d).length:Int))] [(4,[jk,jk,jk,jk]),(8,JW d)] xe)
theorem Zo(m:Mo)(d:Da)(name:BA)(o:Int)(xe:Ext)(hN:(AS d).length<=1000000000):(Ob.loop 35 (Am f30 1) (Pc m d name o xe 0) (IN m d name o xe  (Hz name (List.drop 0 ((AS d))) 0)).1 (IN m d name o xe  (Hz name (List.drop 0 ((AS d))) 0)).2).ok prog:=by
 refine Ek ((AS d).length) (fun j _=>Pc m d name o xe j) (fun i _=>Hz name (List.drop i ((AS d))) i) (IN m d name o xe) (fun i _=>True) kR ?_ () trivial
 rintro i u hi -
 rcases Nat.lt_or_ge i ((AS d).length) with Ad | Dm
 ·have hd:=AN Ad
  by_cases h0:Bj (List.getD (AS d) i default)=name
  ·exact lX An [dt ((i:Int)<((AS d).length:Int)),am ((0:Int)<=(i:Int)/\(i:Int)<((Cn.cs (AS d)).length:Int)) (by (simp only [Cn.A0]; omega)),xCn (AS d) i Ad,bt (ByteArray.toList (Bj (List.getD (AS d) i default))==ByteArray.toList name) (DZ h0)] (I6.e0 i) (by rw [hd,Hz,iP h0])
  ·exact lN An [dt ((i:Int)<((AS d).length:Int)),am ((0:Int)<=(i:Int)/\(i:Int)<((Cn.cs (AS d)).length:Int)) (by (simp only [Cn.A0]; omega)),xCn (AS d) i Ad,bf (ByteArray.toList (Bj (List.getD (AS d) i default))==ByteArray.toList name) (HT h0),wr ((i:Int)+1)] Ad () trivial (by rw [hd,Hz,iN h0])
 ·have he:i=(AS d).length:=by omega
  exact lX An [df ((i:Int)<((AS d).length:Int))] (I6.e1) (by rw [he,List.drop_length,Hz])
theorem A10(m:Mo)(d:Da)(name:BA)(o:Int)(xe:Ext)(hN:(AS d).length<=1000000000)(p0:Nat)(AF:(Hz name ((AS d)) 0)=(I6.e0 p0)):(Ob.loop 35 (Am f30 1) (Pc m d name o xe 0) (IN m d name o xe  (I6.e0 p0)).1 (IN m d name o xe  (I6.e0 p0)).2).ok prog:=
 rz (Zo m d name o xe hN) AF
theorem A11(m:Mo)(d:Da)(name:BA)(o:Int)(xe:Ext)(hN:(AS d).length<=1000000000)(AF:(Hz name ((AS d)) 0)=(I6.e1)):(Ob.loop 35 (Am f30 1) (Pc m d name o xe 0) (IN m d name o xe  (I6.e1)).1 (IN m d name o xe  (I6.e1)).2).ok prog:=
 rz (Zo m d name o xe hN) AF
def JZ(name:BA):List Da->Nat
 | []=>0
 | d::r=>if ix Bj name (AS d)<(AS d).length then 0 else JZ name r+1
theorem Qw{name:BA}:∀ {l:List Da},JZ name l<l.length->ix Bj name (AS (l.getD (JZ name l) default))<(AS (l.getD (JZ name l) default)).length
 | [],h=>by simp at h
 | c::r,h=>by
  unfold JZ at h ⊢
  by_cases hc:ix Bj name (AS c)<(AS c).length
  ·simp [hc]
  ·simp only [hc,if_false,List.length_cons] at h ⊢
   simpa using Qw (by omega:JZ name r<r.length)
theorem Zp(name:BA):∀ (l:List Cn) (k:Nat),Hz name l k=if ix Bj name l<l.length then .e0 (k+ix Bj name l) else .e1
 | [],k=>by simp [Hz,ix]
 | c::r,k=>by
  by_cases h:Bj c=name
  ·simp [Hz,ix,h]
  ·simp only [Hz,ix,h,if_false,Zp name r (k+1),List.length_cons]
   by_cases h2:ix Bj name r<r.length
   ·rw [iP h2,iP oM]; congr 1; omega
   ·rw [iN h2,iN oM]
theorem A7u(m:Mo)(d:Da)(name:BA)(o:Int)(xe:Ext)(hN:(AS d).length<=1000000000)(hx:ix Bj name (AS d)<(AS d).length):(Ob.loop 35 (Am f30 1) (Pc m d name o xe 0) (IN m d name o xe (.e0 (ix Bj name (AS d)))).1 (IN m d name o xe (.e0 (ix Bj name (AS d)))).2).ok prog:=
 A10 m d name o xe hN _ (by rw [Zp,iP hx,Nat.zero_add])
theorem A7v(m:Mo)(d:Da)(name:BA)(o:Int)(xe:Ext)(hN:(AS d).length<=1000000000)(hx:¬ix Bj name (AS d)<(AS d).length):(Ob.loop 35 (Am f30 1) (Pc m d name o xe 0) (IN m d name o xe .e1).1 (IN m d name o xe .e1).2).ok prog:=
 A11 m d name o xe hN (by rw [Zp,iN hx])
abbrev UY(m:Mo)(name:BA)(j:Int)(e:Ext):S:=S.mk [(1,vS name),(4,.lp 4 0),(5,A2 0),(6,.v (.bool false)),(12,vL 4 (Da.cs (Aj m))),(13,A2 ((Aj m).length:Int)),(14,A2 j)] [(4,[jk,jk,jk,jk])] e
inductive GH where
 | e0 (el:Da)
 | e1
def Gq(name:BA):List Da->GH
 | []=>(GH.e1)
 | el::r=>(if ix Bj name (AS el)<List.length (AS el) then (GH.e0 el) else Gq name r)
def No(m:Mo)(name:BA)(e:Ext):GH->A7 × S
 | .e0 el=>(.ret,S.mk [(1,vS name),(4,.lp 4 0),(5,A2 (↑(ix Bj name (AS el)):Int)),(6,.v (.bool true)),(12,vL 4 (Da.cs (Aj m))),(13,A2 ((Aj m).length:Int))] [(4,JW el)] e)
 | .e1=>(.exit 0,S.mk [(1,vS name),(4,.lp 4 0),(5,A2 0),(6,.v (.bool false)),(12,vL 4 (Da.cs (Aj m))),(13,A2 ((Aj m).length:Int))] [(4,[jk,jk,jk,jk])] e)
theorem Zq(m:Mo)(name:BA)(K1:(Aj m).length<=1048576)(hk:∀c∈Aj m,(AS c).length<=1048576)(e:Ext)(hN:(Aj m).length<=1000000000):(Ob.loop 35 (Am f30 0) (UY m name 0  e) (No m name e (Gq name (List.drop 0 ((Aj m))))).1 (No m name e (Gq name (List.drop 0 ((Aj m))))).2).ok prog:=by
 refine Ek ((Aj m).length) (fun j _=>UY m name j  e) (fun i _=>Gq name (List.drop i ((Aj m)))) (No m name e) (fun i _=>True) kR ?_ () trivial
 rintro i u hi -
 rcases Nat.lt_or_ge i ((Aj m).length) with Ad | Dm
 ·have hd:=AN Ad
  by_cases h0:ix Bj name (AS (List.getD (Aj m) i default))<List.length (AS (List.getD (Aj m) i default))
  ·exact lX An [dt ((i:Int)<((Aj m).length:Int)),am ((0:Int)<=(i:Int)/\(i:Int)<((Da.cs (Aj m)).length:Int)) (by (simp only [Da.A0]; omega)),fA (Aj m) i Ad,sl (Cn.A0 (AS (List.getD (Aj m) i default))),lp (S.mk [(1,vS name),(4,.lp 4 0),(5,A2 0),(6,.v (.bool false)),(12,vL 4 (Da.cs (Aj m))),(13,A2 ((Aj m).length:Int)),(14,A2 (i:Int)),(15,.v (.bool (decide ((i:Int)<((Aj m).length:Int))))),(16,.v (.ro (EO (List.getD (Aj m) i default)) 0)),(17,.v (.agg (EO (List.getD (Aj m) i default)))),(8,.lp 8 0),(18,.lp 8 3),(19,vL 3 (Cn.cs (AS (List.getD (Aj m) i default)))),(20,A2 ((AS (List.getD (Aj m) i default)).length:Int)),(21,A2 0)] [(4,[jk,jk,jk,jk]),(8,JW (List.getD (Aj m) i default))] e) (@A7u (m) (List.getD (Aj m) i default) (name) ((i:Int)) (e) (by (apply lZ <;> first | assumption | omega | decide)) h0) xr] (GH.e0 (List.getD ((Aj m)) i default)) (by rw [hd,Gq,iP h0])
  ·exact lN An [dt ((i:Int)<((Aj m).length:Int)),am ((0:Int)<=(i:Int)/\(i:Int)<((Da.cs (Aj m)).length:Int)) (by (simp only [Da.A0]; omega)),fA (Aj m) i Ad,sl (Cn.A0 (AS (List.getD (Aj m) i default))),lp (S.mk [(1,vS name),(4,.lp 4 0),(5,A2 0),(6,.v (.bool false)),(12,vL 4 (Da.cs (Aj m))),(13,A2 ((Aj m).length:Int)),(14,A2 (i:Int)),(15,.v (.bool (decide ((i:Int)<((Aj m).length:Int))))),(16,.v (.ro (EO (List.getD (Aj m) i default)) 0)),(17,.v (.agg (EO (List.getD (Aj m) i default)))),(8,.lp 8 0),(18,.lp 8 3),(19,vL 3 (Cn.cs (AS (List.getD (Aj m) i default)))),(20,A2 ((AS (List.getD (Aj m) i default)).length:Int)),(21,A2 0)] [(4,[jk,jk,jk,jk]),(8,JW (List.getD (Aj m) i default))] e) (@A7v (m) (List.getD (Aj m) i default) (name) ((i:Int)) (e) (by (apply lZ <;> first | assumption | omega | decide)) h0) xr,wr ((i:Int)+1)] Ad () trivial (by rw [hd,Gq,iN h0])
 ·have he:i=(Aj m).length:=by omega
  exact lX An [df ((i:Int)<((Aj m).length:Int))] (GH.e1) (by rw [he,List.drop_length,Gq])
theorem A12(m:Mo)(name:BA)(K1:(Aj m).length<=1048576)(hk:∀c∈Aj m,(AS c).length<=1048576)(e:Ext)(hN:(Aj m).length<=1000000000)(p0:Da)(AF:(Gq name ((Aj m)))=(GH.e0 p0)):(Ob.loop 35 (Am f30 0) (UY m name 0  e) (No m name e (GH.e0 p0)).1 (No m name e (GH.e0 p0)).2).ok prog:=
 rz (Zq m name K1 hk e hN) AF
theorem A13(m:Mo)(name:BA)(K1:(Aj m).length<=1048576)(hk:∀c∈Aj m,(AS c).length<=1048576)(e:Ext)(hN:(Aj m).length<=1000000000)(AF:(Gq name ((Aj m)))=(GH.e1)):(Ob.loop 35 (Am f30 0) (UY m name 0  e) (No m name e (GH.e1)).1 (No m name e (GH.e1)).2).ok prog:=
 rz (Zq m name K1 hk e hN) AF
theorem Zr(name:BA):∀ (l:List Da),Gq name l=if JZ name l<l.length then .e0 (l.getD (JZ name l) default) else .e1
 | []=>by simp [Gq,JZ]
 | c::r=>by
  by_cases h:ix Bj name (AS c)<(AS c).length
  ·simp [Gq,JZ,h]
  ·simp only [Gq,JZ,h,if_false,Zr name r,List.length_cons,Nat.add_lt_add_iff_right,List.getD_cons_succ]
theorem A14(m:Mo)(name:BA)(K1:(Aj m).length<=1048576)(hk:∀c∈Aj m,(AS c).length<=1048576)(Ee:Da)(Au:Gq name (Aj m)=GH.e0 Ee):Pu 30 [.agg (DJ m),.str name] (.ret (.B6 [.agg (EO Ee),pI (↑(ix Bj name (AS Ee)):Int),.bool true])):=
 pu An (fun e=>[sl (Da.A0 (Aj m)),lp (S.mk [(0,.v (.agg (DJ m))),(1,vS name),(2,.lp 2 0),(4,.lp 4 0),(5,A2 0),(6,.v (.bool false)),(11,.lp 2 0),(12,vL 4 (Da.cs (Aj m))),(13,A2 ((Aj m).length:Int)),(14,A2 0)] [(2,E1 m),(4,[vS AI,.v .Ab,.v .Ab,.v .Ab])] e) (@A12 (m) (name) K1 hk (e) oM Ee Au) ⟨⟨W,W,W,W,W,W,W,Ar⟩,⟨⟨Wq,Wq,Wq,Wq,Ar⟩,Ar⟩,rfl⟩]) func30
theorem A15(m:Mo)(name:BA)(K1:(Aj m).length<=1048576)(hk:∀c∈Aj m,(AS c).length<=1048576)(Ak:Gq name (Aj m)=GH.e1):Pu 30 [.agg (DJ m),.str name] (.ret (.B6 [.agg [.str AI,.sl 1 [],.sl 2 [],.sl 3 []],pI 0,.bool false])):=
 Ob.Ql (Wk.t (Jv.c (Wk.a (kr (kn 1 (kn 2 (kn 3 (Jv.r _)))))) (Jv.r _))) (pu An (fun e=>[sl (Da.A0 (Aj m)),lp (S.mk [(0,.v (.agg (DJ m))),(1,vS name),(2,.lp 2 0),(4,.lp 4 0),(5,A2 0),(6,.v (.bool false)),(11,.lp 2 0),(12,vL 4 (Da.cs (Aj m))),(13,A2 ((Aj m).length:Int)),(14,A2 0)] [(2,E1 m),(4,[vS AI,.v .Ab,.v .Ab,.v .Ab])] e) (@A13 (m) (name) K1 hk (e) oM Ak) ⟨⟨W,W,W,W,W,W,W,Ar⟩,⟨⟨Wq,Wq,Wq,Wq,Ar⟩,Ar⟩,rfl⟩]) func30)
theorem scT(m:Mo)(name:BA)(K1:(Aj m).length<=1048576)(hk:∀c∈Aj m,(AS c).length<=1048576)(hx:JZ name (Aj m)<(Aj m).length):Pu 30 [.agg (DJ m),.str name] (.ret (.B6 [.agg (EO ((Aj m).getD (JZ name (Aj m)) default)),.int .i64 (ix Bj name (AS ((Aj m).getD (JZ name (Aj m)) default))),.bool true])):=
 A14 m name K1 hk _ (by rw [Zr,iP hx])
theorem scF(m:Mo)(name:BA)(K1:(Aj m).length<=1048576)(hk:∀c∈Aj m,(AS c).length<=1048576)(hx:¬JZ name (Aj m)<(Aj m).length):Pu 30 [.agg (DJ m),.str name] (.ret (.B6 [.agg (EO default),.int .i64 0,.bool false])):=
 A15 m name K1 hk (by rw [Zr,iN hx])
section
variable (m:Mo) (name:BA) (K1:(Aj m).length<=1048576) (hk:∀c∈Aj m,(AS c).length<=1048576)
include m name K1 hk
theorem A16(Ak:JZ name (Aj m)<List.length (Aj m))(Au:0<=(↑(ix Bj name (AS (List.getD (Aj m) (JZ name (Aj m)) default))):Int)/\(↑(ix Bj name (AS (List.getD (Aj m) (JZ name (Aj m)) default))):Int)<((Cn.cs (AS (List.getD (Aj m) (JZ name (Aj m)) default))).length:Int)):Pu 15 [.agg (DJ m),.str name] (.ret (.B6 [pI ((Fp (List.getD (AS (List.getD (Aj m) (JZ name (Aj m)) default)) (ix Bj name (AS (List.getD (Aj m) (JZ name (Aj m)) default))) default)).length:Int),.bool true])):=
 pm An [cl (@scT (m) (name) K1 hk Ak),bf false,am1 Au,xCn (AS (List.getD (Aj m) (JZ name (Aj m)) default)) (ix Bj name (AS (List.getD (Aj m) (JZ name (Aj m)) default))) (by (apply Qw <;> first | assumption | omega | decide)),sl (Tp.A0 (Fp (List.getD (AS (List.getD (Aj m) (JZ name (Aj m)) default)) (ix Bj name (AS (List.getD (Aj m) (JZ name (Aj m)) default))) default)))] func15
theorem A17(Ak:¬JZ name (Aj m)<List.length (Aj m)):Pu 15 [.agg (DJ m),.str name] (.ret (.B6 [pI 0,.bool false])):=
 pm An [cl (@scF (m) (name) K1 hk Ak),bt true] func15
end
end Go.Proofs.YtmllcplaohkjnaaGreatDoor
