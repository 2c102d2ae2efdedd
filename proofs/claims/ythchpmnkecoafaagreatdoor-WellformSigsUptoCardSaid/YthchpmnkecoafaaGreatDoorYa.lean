/- Values of Go as plain data, an evaluator over them, and what the functions of the program return; part Ya. -/
import Derived.Test.YthchpmnkecoafaaGreatDoorXe
import Derived.Test.YthchpmnkecoafaaGreatDoorXh
import Derived.Test.YthchpmnkecoafaaGreatDoorProg
import Derived.KernelRfl
import Derived.Test.YthchpmnkecoafaaGreatDoorRows
import Derived.JoinedCond
import Derived.Deep.DeepHandedRow
import Derived.Lib.LaidTab
set_option linter.unusedSectionVars false
set_option linter.unusedSimpArgs false
set_option linter.unusedVariables false
namespace Go.Proofs.YthchpmnkecoafaaGreatDoor
open Go.Proofs.Tryz
open Go.Pv Go.Proofs.Tryz
abbrev Ai:BA:=ByteArray.mk #[]
inductive Pr where
 | mk (xO:Int) (DU:BA) (xN:Int) (xK:List Pr)
instance:Inhabited Pr:=⟨.mk 0 Ai 0 []⟩
def Af:Pr->Int | .mk x _ _ _=>x
def Aj:Pr->BA | .mk _ x _ _=>x
def Bq:Pr->Int | .mk _ _ x _=>x
def Av:Pr->List Pr | .mk _ _ _ x=>x
inductive Tp where
 | mk (xO:Int) (DU:BA) (xA:List Tp) (zB:List BA) (xP:Pr) (xPs:List Pr)
instance:Inhabited Tp:=⟨.mk 0 Ai [] [] default []⟩
def AB:Tp->Int | .mk x _ _ _ _ _=>x
def An:Tp->BA | .mk _ x _ _ _ _=>x
def Ab:Tp->List Tp | .mk _ _ x _ _ _=>x
def Ag:Tp->List BA | .mk _ _ _ x _ _=>x
def AT:Tp->Pr | .mk _ _ _ _ x _=>x
def Aq:Tp->List Pr | .mk _ _ _ _ _ x=>x
inductive Pm where
 | mk (DU:BA) (xT:Tp)
instance:Inhabited Pm:=⟨.mk Ai default⟩
def Zs:Pm->BA | .mk x _=>x
def H9:Pm->Tp | .mk _ x=>x
mutual
inductive Ex where
 | mk (xO:Int) (DU:BA) (xN:Int) (xK:List Ex) (xP:List Pm) (xA:List Al) (xT:List Tp)
inductive Al where
 | mk (xC:BA) (zB:List BA) (xB:Ex)
end
instance:Inhabited Ex:=⟨.mk 0 Ai 0 [] [] [] []⟩
instance:Inhabited Al:=⟨.mk Ai [] default⟩
def pO:Ex->Int | .mk x _ _ _ _ _ _=>x
def LZ:Ex->BA | .mk _ x _ _ _ _ _=>x
def pP:Ex->Int | .mk _ _ x _ _ _ _=>x
def IT:Ex->List Ex | .mk _ _ _ x _ _ _=>x
def Hy:Ex->List Pm | .mk _ _ _ _ x _ _=>x
def Io:Ex->List Al | .mk _ _ _ _ _ x _=>x
def P2:Ex->List Tp | .mk _ _ _ _ _ _ x=>x
def alC:Al->BA | .mk x _ _=>x
def Zt:Al->List BA | .mk _ x _=>x
def Qa:Al->Ex | .mk _ _ x=>x
inductive Vr where
 | mk (DU:BA) (xS:BA)
instance:Inhabited Vr:=⟨.mk Ai Ai⟩
def AE:Vr->BA | .mk x _=>x
def CD:Vr->BA | .mk _ x=>x
inductive Cn where
 | mk (DU:BA) (zB:List BA) (xF:List Tp)
instance:Inhabited Cn:=⟨.mk Ai [] []⟩
def A7g:Cn->BA | .mk x _ _=>x
def X4:Cn->List BA | .mk _ x _=>x
def Nf:Cn->List Tp | .mk _ _ x=>x
inductive Da where
 | mk (DU:BA) (xVs:List BA) (xP:List Vr) (xC:List Cn)
instance:Inhabited Da:=⟨.mk Ai [] [] []⟩
def Bc:Da->BA | .mk x _ _ _=>x
def Ii:Da->List BA | .mk _ x _ _=>x
def F6:Da->List Vr | .mk _ _ x _=>x
def Gm:Da->List Cn | .mk _ _ _ x=>x
inductive Cl where
 | mk (DU:BA) (xW:BA) (xM:List Pm)
instance:Inhabited Cl:=⟨.mk Ai Ai []⟩
def A7h:Cl->BA | .mk x _ _=>x
def clW:Cl->BA | .mk _ x _=>x
def Hz:Cl->List Pm | .mk _ _ x=>x
inductive Bo where
 | mk (DU:BA) (xW:List Vr) (xH:Pr) (xG:Pr)
instance:Inhabited Bo:=⟨.mk Ai [] default default⟩
def Cd:Bo->BA | .mk x _ _ _=>x
def B6:Bo->List Vr | .mk _ x _ _=>x
def Cv:Bo->Pr | .mk _ _ x _=>x
def EU:Bo->Pr | .mk _ _ _ x=>x
inductive Df where
 | mk (DU:BA) (xP:List BA) (xB:Ex) (xM:Int) (xTy:Bool) (xVs:List BA) (xNe:List Vr) (xAb:List Vr) (Uk:List Bo) (xT:Tp) (xMe:List Pr)
instance:Inhabited Df:=⟨.mk Ai [] default 0 false [] [] [] [] default []⟩
def D4:Df->BA | .mk x _ _ _ _ _ _ _ _ _ _=>x
def L0:Df->List BA | .mk _ x _ _ _ _ _ _ _ _ _=>x
def Oq:Df->Ex | .mk _ _ x _ _ _ _ _ _ _ _=>x
def Tu:Df->Int | .mk _ _ _ x _ _ _ _ _ _ _=>x
def mA:Df->Bool | .mk _ _ _ _ x _ _ _ _ _ _=>x
def CS:Df->List BA | .mk _ _ _ _ _ x _ _ _ _ _=>x
def CT:Df->List Vr | .mk _ _ _ _ _ _ x _ _ _ _=>x
def A8:Df->List Vr | .mk _ _ _ _ _ _ _ x _ _ _=>x
def Ak:Df->List Bo | .mk _ _ _ _ _ _ _ _ x _ _=>x
def Ad:Df->Tp | .mk _ _ _ _ _ _ _ _ _ x _=>x
def AJ:Df->List Pr | .mk _ _ _ _ _ _ _ _ _ _ x=>x
inductive In where
 | mk (DU:BA) (xT:Tp) (xNe:List Vr) (xD:List Df)
instance:Inhabited In:=⟨.mk Ai default [] []⟩
def A7i:In->BA | .mk x _ _ _=>x
def Ot:In->Tp | .mk _ x _ _=>x
def Zu:In->List Vr | .mk _ _ x _=>x
def Ul:In->List Df | .mk _ _ _ x=>x
inductive Cs where
 | mk (xC:BA) (zB:List BA) (xB:Pr)
instance:Inhabited Cs:=⟨.mk Ai [] default⟩
def csC:Cs->BA | .mk x _ _=>x
def Zv:Cs->List BA | .mk _ x _=>x
def P3:Cs->Pr | .mk _ _ x=>x
inductive Ms where
 | mk (DU:BA) (xD:BA) (xR:BA) (xC:List Cs) (xI:Pr)
instance:Inhabited Ms:=⟨.mk Ai Ai Ai [] default⟩
def El:Ms->BA | .mk x _ _ _ _=>x
def Zw:Ms->BA | .mk _ x _ _ _=>x
def Zx:Ms->BA | .mk _ _ x _ _=>x
def HA:Ms->List Cs | .mk _ _ _ x _=>x
def SL:Ms->Pr | .mk _ _ _ _ x=>x
inductive Qu where
 | mk (DU:BA) (xW:List Vr) (xB:Pr)
instance:Inhabited Qu:=⟨.mk Ai [] default⟩
def A7j:Qu->BA | .mk x _ _=>x
def quW:Qu->List Vr | .mk _ x _=>x
def Vv:Qu->Pr | .mk _ _ x=>x
inductive Mo where
 | mk (xD:List Da) (xC:List Cl) (xI:List In) (xM:List Ms) (xQ:List Qu) (xF:List Df)
instance:Inhabited Mo:=⟨.mk [] [] [] [] [] []⟩
def AL:Mo->List Da | .mk x _ _ _ _ _=>x
def CB:Mo->List Cl | .mk _ x _ _ _ _=>x
def DD:Mo->List In | .mk _ _ x _ _ _=>x
def B3:Mo->List Ms | .mk _ _ _ x _ _=>x
def Ep:Mo->List Qu | .mk _ _ _ _ x _=>x
def AW:Mo->List Df | .mk _ _ _ _ _ x=>x
inductive Sy where
 | mk (DU:BA) (xA:List BA) (xR:BA)
instance:Inhabited Sy:=⟨.mk Ai [] Ai⟩
def HB:Sy->BA | .mk x _ _=>x
def DW:Sy->List BA | .mk _ x _=>x
def pQ:Sy->BA | .mk _ _ x=>x
inductive Ho where
 | mk (DU:BA) (xP:List Vr)
instance:Inhabited Ho:=⟨.mk Ai []⟩
def Bj:Ho->BA | .mk x _=>x
def E0:Ho->List Vr | .mk _ x=>x
inductive Nv where
 | mk (xW:List Vr) (xS:List Sy) (xH:List Ho)
instance:Inhabited Nv:=⟨.mk [] [] []⟩
def AX:Nv->List Vr | .mk x _ _=>x
def BV:Nv->List Sy | .mk _ x _=>x
def Bd:Nv->List Ho | .mk _ _ x=>x
def Ae:List BA->List (List PV)
 | []=>[]
 | s::r=>[.str s]::Ae r
theorem JF(l:List BA):Ae l=l.map (fun s=>[.str s]):=by induction l with | nil=>rfl | cons x r ih=>simp [Ae,ih]
theorem A5(l:List BA):(Ae l).length=l.length:=by simp [JF]
theorem mB{l:List BA}{i:Nat}(h:i<l.length):(Ae l).getD i []=[.str (l.getD i Ai)]:=by rw [JF]; simp [List.getD,h]
theorem AK(a b:List BA):Ae (a++b)=Ae a++Ae b:=by simp [JF]
theorem AF(l:List BA)(x:BA):Ae (l++[x])=Ae l++[[.str x]]:=by simp [JF]
mutual
def Pr.c:Pr->List PV
 | .mk xO DU xN xK=>[.int .i64 xO,.str DU,.int .i64 xN,.sl 4 (Pr.cs xK)]
def Pr.cs:List Pr->List (List PV)
 | []=>[]
 | x::r=>Pr.c x::Pr.cs r
end
abbrev AN(x:Pr):List PV:=[.int .i64 (Af x),.str (Aj x),.int .i64 (Bq x),.sl 4 (Pr.cs (Av x))]
abbrev CK(x:Pr):List LV:=[.v (.int .i64 (Af x)),.v (.str (Aj x)),.v (.int .i64 (Bq x)),.v (.sl 4 (Pr.cs (Av x)))]
theorem Pr.Um(x:Pr):Pr.c x=AN x:=by cases x; rfl
theorem Pr.AD(l:List Pr):Pr.cs l=l.map (AN):=by induction l with | nil=>rfl | cons x r ih=>simp [Pr.cs,ih,Pr.Um]
theorem Pr.A0(l:List Pr):(Pr.cs l).length=l.length:=by simp [Pr.AD]
theorem Pr.CG{l:List Pr}{i:Nat}(h:i<l.length):(Pr.cs l).getD i []=AN (l.getD i default):=by rw [Pr.AD]; simp [List.getD,h]
theorem Pr.A1(l:List Pr)(x:Pr):Pr.cs (l++[x])=Pr.cs l++[AN x]:=by simp [Pr.AD]
mutual
def Tp.c:Tp->List PV
 | .mk xO DU xA zB xP xPs=>[.int .i64 xO,.str DU,.sl 9 (Tp.cs xA),.sl 1 (Ae zB),.int .i64 (Af xP),.str (Aj xP),.int .i64 (Bq xP),.sl 4 (Pr.cs (Av xP)),.sl 4 (Pr.cs xPs)]
def Tp.cs:List Tp->List (List PV)
 | []=>[]
 | x::r=>Tp.c x::Tp.cs r
end
abbrev AO(x:Tp):List PV:=[.int .i64 (AB x),.str (An x),.sl 9 (Tp.cs (Ab x)),.sl 1 (Ae (Ag x)),.int .i64 (Af (AT x)),.str (Aj (AT x)),.int .i64 (Bq (AT x)),.sl 4 (Pr.cs (Av (AT x))),.sl 4 (Pr.cs (Aq x))]
abbrev Cz(x:Tp):List LV:=[.v (.int .i64 (AB x)),.v (.str (An x)),.v (.sl 9 (Tp.cs (Ab x))),.v (.sl 1 (Ae (Ag x))),.v (.int .i64 (Af (AT x))),.v (.str (Aj (AT x))),.v (.int .i64 (Bq (AT x))),.v (.sl 4 (Pr.cs (Av (AT x)))),.v (.sl 4 (Pr.cs (Aq x)))]
theorem Tp.Um(x:Tp):Tp.c x=AO x:=by cases x; rfl
theorem Tp.AD(l:List Tp):Tp.cs l=l.map (AO):=by induction l with | nil=>rfl | cons x r ih=>simp [Tp.cs,ih,Tp.Um]
theorem Tp.A0(l:List Tp):(Tp.cs l).length=l.length:=by simp [Tp.AD]
theorem Tp.CG{l:List Tp}{i:Nat}(h:i<l.length):(Tp.cs l).getD i []=AO (l.getD i default):=by rw [Tp.AD]; simp [List.getD,h]
theorem Tp.A1(l:List Tp)(x:Tp):Tp.cs (l++[x])=Tp.cs l++[AO x]:=by simp [Tp.AD]
abbrev jW(x:Pm):List PV:=[.str (Zs x),.int .i64 (AB (H9 x)),.str (An (H9 x)),.sl 9 (Tp.cs (Ab (H9 x))),.sl 1 (Ae (Ag (H9 x))),.int .i64 (Af (AT (H9 x))),.str (Aj (AT (H9 x))),.int .i64 (Bq (AT (H9 x))),.sl 4 (Pr.cs (Av (AT (H9 x)))),.sl 4 (Pr.cs (Aq (H9 x)))]
def Pm.cs:List Pm->List (List PV)
 | []=>[]
 | x::r=>jW x::Pm.cs r
theorem Pm.AD(l:List Pm):Pm.cs l=l.map (jW):=by induction l with | nil=>rfl | cons x r ih=>simp [Pm.cs,ih]
theorem Pm.A0(l:List Pm):(Pm.cs l).length=l.length:=by simp [Pm.AD]
theorem Pm.CG{l:List Pm}{i:Nat}(h:i<l.length):(Pm.cs l).getD i []=jW (l.getD i default):=by rw [Pm.AD]; simp [List.getD,h]
mutual
def Ex.c:Ex->List PV
 | .mk xO DU xN xK xP xA xT=>[.int .i64 xO,.str DU,.int .i64 xN,.sl 7 (Ex.cs xK),.sl 10 (Pm.cs xP),.sl 9 (Al.cs xA),.sl 9 (Tp.cs xT)]
def Ex.cs:List Ex->List (List PV)
 | []=>[]
 | x::r=>Ex.c x::Ex.cs r
def Al.c:Al->List PV
 | .mk xC zB xB => .str xC :: .sl 1 (Ae zB)::Ex.c xB
def Al.cs:List Al->List (List PV)
 | []=>[]
 | x::r=>Al.c x::Al.cs r
end
abbrev L1(x:Ex):List PV:=[.int .i64 (pO x),.str (LZ x),.int .i64 (pP x),.sl 7 (Ex.cs (IT x)),.sl 10 (Pm.cs (Hy x)),.sl 9 (Al.cs (Io x)),.sl 9 (Tp.cs (P2 x))]
abbrev exV(x:Ex):List LV:=[.v (.int .i64 (pO x)),.v (.str (LZ x)),.v (.int .i64 (pP x)),.v (.sl 7 (Ex.cs (IT x))),.v (.sl 10 (Pm.cs (Hy x))),.v (.sl 9 (Al.cs (Io x))),.v (.sl 9 (Tp.cs (P2 x)))]
abbrev zC(x:Al):List PV:=[.str (alC x),.sl 1 (Ae (Zt x)),.int .i64 (pO (Qa x)),.str (LZ (Qa x)),.int .i64 (pP (Qa x)),.sl 7 (Ex.cs (IT (Qa x))),.sl 10 (Pm.cs (Hy (Qa x))),.sl 9 (Al.cs (Io (Qa x))),.sl 9 (Tp.cs (P2 (Qa x)))]
theorem Ex.Um(x:Ex):Ex.c x=L1 x:=by cases x; rfl
theorem Al.Um(x:Al):Al.c x=zC x:=by cases x with | mk a0 a1 a2=>cases a2; rfl
theorem Ex.AD(l:List Ex):Ex.cs l=l.map (L1):=by induction l with | nil=>rfl | cons x r ih=>simp [Ex.cs,ih,Ex.Um]
theorem Ex.A0(l:List Ex):(Ex.cs l).length=l.length:=by simp [Ex.AD]
theorem Ex.CG{l:List Ex}{i:Nat}(h:i<l.length):(Ex.cs l).getD i []=L1 (l.getD i default):=by rw [Ex.AD]; simp [List.getD,h]
theorem Ex.A1(l:List Ex)(x:Ex):Ex.cs (l++[x])=Ex.cs l++[L1 x]:=by simp [Ex.AD]
theorem Al.AD(l:List Al):Al.cs l=l.map (zC):=by induction l with | nil=>rfl | cons x r ih=>simp [Al.cs,ih,Al.Um]
theorem Al.A0(l:List Al):(Al.cs l).length=l.length:=by simp [Al.AD]
theorem Al.CG{l:List Al}{i:Nat}(h:i<l.length):(Al.cs l).getD i []=zC (l.getD i default):=by rw [Al.AD]; simp [List.getD,h]
abbrev FU(x:Vr):List PV:=[.str (AE x),.str (CD x)]
abbrev Qb(x:Vr):List LV:=[.v (.str (AE x)),.v (.str (CD x))]
def Vr.cs:List Vr->List (List PV)
 | []=>[]
 | x::r=>FU x::Vr.cs r
theorem Vr.AD(l:List Vr):Vr.cs l=l.map (FU):=by induction l with | nil=>rfl | cons x r ih=>simp [Vr.cs,ih]
theorem Vr.A0(l:List Vr):(Vr.cs l).length=l.length:=by simp [Vr.AD]
theorem Vr.CG{l:List Vr}{i:Nat}(h:i<l.length):(Vr.cs l).getD i []=FU (l.getD i default):=by rw [Vr.AD]; simp [List.getD,h]
theorem Vr.A1(l:List Vr)(x:Vr):Vr.cs (l++[x])=Vr.cs l++[FU x]:=by simp [Vr.AD]
abbrev pR(x:Cn):List PV:=[.str (A7g x),.sl 1 (Ae (X4 x)),.sl 9 (Tp.cs (Nf x))]
def Cn.cs:List Cn->List (List PV)
 | []=>[]
 | x::r=>pR x::Cn.cs r
theorem Cn.AD(l:List Cn):Cn.cs l=l.map (pR):=by induction l with | nil=>rfl | cons x r ih=>simp [Cn.cs,ih]
theorem Cn.A0(l:List Cn):(Cn.cs l).length=l.length:=by simp [Cn.AD]
theorem Cn.CG{l:List Cn}{i:Nat}(h:i<l.length):(Cn.cs l).getD i []=pR (l.getD i default):=by rw [Cn.AD]; simp [List.getD,h]
abbrev Vw(x:Da):List PV:=[.str (Bc x),.sl 1 (Ae (Ii x)),.sl 2 (Vr.cs (F6 x)),.sl 3 (Cn.cs (Gm x))]
abbrev pS(x:Da):List LV:=[.v (.str (Bc x)),.v (.sl 1 (Ae (Ii x))),.v (.sl 2 (Vr.cs (F6 x))),.v (.sl 3 (Cn.cs (Gm x)))]
def Da.cs:List Da->List (List PV)
 | []=>[]
 | x::r=>Vw x::Da.cs r
theorem Da.AD(l:List Da):Da.cs l=l.map (Vw):=by induction l with | nil=>rfl | cons x r ih=>simp [Da.cs,ih]
theorem Da.A0(l:List Da):(Da.cs l).length=l.length:=by simp [Da.AD]
theorem Da.CG{l:List Da}{i:Nat}(h:i<l.length):(Da.cs l).getD i []=Vw (l.getD i default):=by rw [Da.AD]; simp [List.getD,h]
abbrev pU(x:Cl):List PV:=[.str (A7h x),.str (clW x),.sl 10 (Pm.cs (Hz x))]
def Cl.cs:List Cl->List (List PV)
 | []=>[]
 | x::r=>pU x::Cl.cs r
theorem Cl.AD(l:List Cl):Cl.cs l=l.map (pU):=by induction l with | nil=>rfl | cons x r ih=>simp [Cl.cs,ih]
theorem Cl.A0(l:List Cl):(Cl.cs l).length=l.length:=by simp [Cl.AD]
theorem Cl.CG{l:List Cl}{i:Nat}(h:i<l.length):(Cl.cs l).getD i []=pU (l.getD i default):=by rw [Cl.AD]; simp [List.getD,h]
abbrev KH(x:Bo):List PV:=[.str (Cd x),.sl 2 (Vr.cs (B6 x)),.int .i64 (Af (Cv x)),.str (Aj (Cv x)),.int .i64 (Bq (Cv x)),.sl 4 (Pr.cs (Av (Cv x))),.int .i64 (Af (EU x)),.str (Aj (EU x)),.int .i64 (Bq (EU x)),.sl 4 (Pr.cs (Av (EU x)))]
def Bo.cs:List Bo->List (List PV)
 | []=>[]
 | x::r=>KH x::Bo.cs r
theorem Bo.AD(l:List Bo):Bo.cs l=l.map (KH):=by induction l with | nil=>rfl | cons x r ih=>simp [Bo.cs,ih]
theorem Bo.A0(l:List Bo):(Bo.cs l).length=l.length:=by simp [Bo.AD]
theorem Bo.CG{l:List Bo}{i:Nat}(h:i<l.length):(Bo.cs l).getD i []=KH (l.getD i default):=by rw [Bo.AD]; simp [List.getD,h]
abbrev Ou(x:Df):List PV:=[.str (D4 x),.sl 1 (Ae (L0 x)),.int .i64 (pO (Oq x)),.str (LZ (Oq x)),.int .i64 (pP (Oq x)),.sl 7 (Ex.cs (IT (Oq x))),.sl 10 (Pm.cs (Hy (Oq x))),.sl 9 (Al.cs (Io (Oq x))),.sl 9 (Tp.cs (P2 (Oq x))),.int .i64 (Tu x),.bool (mA x),.sl 1 (Ae (CS x)),.sl 2 (Vr.cs (CT x)),.sl 2 (Vr.cs (A8 x)),.sl 10 (Bo.cs (Ak x)),.int .i64 (AB (Ad x)),.str (An (Ad x)),.sl 9 (Tp.cs (Ab (Ad x))),.sl 1 (Ae (Ag (Ad x))),.int .i64 (Af (AT (Ad x))),.str (Aj (AT (Ad x))),.int .i64 (Bq (AT (Ad x))),.sl 4 (Pr.cs (Av (AT (Ad x)))),.sl 4 (Pr.cs (Aq (Ad x))),.sl 4 (Pr.cs (AJ x))]
abbrev dfV(x:Df):List LV:=[.v (.str (D4 x)),.v (.sl 1 (Ae (L0 x))),.v (.int .i64 (pO (Oq x))),.v (.str (LZ (Oq x))),.v (.int .i64 (pP (Oq x))),.v (.sl 7 (Ex.cs (IT (Oq x)))),.v (.sl 10 (Pm.cs (Hy (Oq x)))),.v (.sl 9 (Al.cs (Io (Oq x)))),.v (.sl 9 (Tp.cs (P2 (Oq x)))),.v (.int .i64 (Tu x)),.v (.bool (mA x)),.v (.sl 1 (Ae (CS x))),.v (.sl 2 (Vr.cs (CT x))),.v (.sl 2 (Vr.cs (A8 x))),.v (.sl 10 (Bo.cs (Ak x))),.v (.int .i64 (AB (Ad x))),.v (.str (An (Ad x))),.v (.sl 9 (Tp.cs (Ab (Ad x)))),.v (.sl 1 (Ae (Ag (Ad x)))),.v (.int .i64 (Af (AT (Ad x)))),.v (.str (Aj (AT (Ad x)))),.v (.int .i64 (Bq (AT (Ad x)))),.v (.sl 4 (Pr.cs (Av (AT (Ad x))))),.v (.sl 4 (Pr.cs (Aq (Ad x)))),.v (.sl 4 (Pr.cs (AJ x)))]
def Df.cs:List Df->List (List PV)
 | []=>[]
 | x::r=>Ou x::Df.cs r
theorem Df.AD(l:List Df):Df.cs l=l.map (Ou):=by induction l with | nil=>rfl | cons x r ih=>simp [Df.cs,ih]
theorem Df.A0(l:List Df):(Df.cs l).length=l.length:=by simp [Df.AD]
theorem Df.CG{l:List Df}{i:Nat}(h:i<l.length):(Df.cs l).getD i []=Ou (l.getD i default):=by rw [Df.AD]; simp [List.getD,h]
theorem Df.A1(l:List Df)(x:Df):Df.cs (l++[x])=Df.cs l++[Ou x]:=by simp [Df.AD]
abbrev pV(x:In):List PV:=[.str (A7i x),.int .i64 (AB (Ot x)),.str (An (Ot x)),.sl 9 (Tp.cs (Ab (Ot x))),.sl 1 (Ae (Ag (Ot x))),.int .i64 (Af (AT (Ot x))),.str (Aj (AT (Ot x))),.int .i64 (Bq (AT (Ot x))),.sl 4 (Pr.cs (Av (AT (Ot x)))),.sl 4 (Pr.cs (Aq (Ot x))),.sl 2 (Vr.cs (Zu x)),.sl 25 (Df.cs (Ul x))]
def In.cs:List In->List (List PV)
 | []=>[]
 | x::r=>pV x::In.cs r
theorem In.AD(l:List In):In.cs l=l.map (pV):=by induction l with | nil=>rfl | cons x r ih=>simp [In.cs,ih]
theorem In.A0(l:List In):(In.cs l).length=l.length:=by simp [In.AD]
theorem In.CG{l:List In}{i:Nat}(h:i<l.length):(In.cs l).getD i []=pV (l.getD i default):=by rw [In.AD]; simp [List.getD,h]
abbrev pW(x:Cs):List PV:=[.str (csC x),.sl 1 (Ae (Zv x)),.int .i64 (Af (P3 x)),.str (Aj (P3 x)),.int .i64 (Bq (P3 x)),.sl 4 (Pr.cs (Av (P3 x)))]
def Cs.cs:List Cs->List (List PV)
 | []=>[]
 | x::r=>pW x::Cs.cs r
theorem Cs.AD(l:List Cs):Cs.cs l=l.map (pW):=by induction l with | nil=>rfl | cons x r ih=>simp [Cs.cs,ih]
theorem Cs.A0(l:List Cs):(Cs.cs l).length=l.length:=by simp [Cs.AD]
theorem Cs.CG{l:List Cs}{i:Nat}(h:i<l.length):(Cs.cs l).getD i []=pW (l.getD i default):=by rw [Cs.AD]; simp [List.getD,h]
abbrev mC(x:Ms):List PV:=[.str (El x),.str (Zw x),.str (Zx x),.sl 6 (Cs.cs (HA x)),.int .i64 (Af (SL x)),.str (Aj (SL x)),.int .i64 (Bq (SL x)),.sl 4 (Pr.cs (Av (SL x)))]
def Ms.cs:List Ms->List (List PV)
 | []=>[]
 | x::r=>mC x::Ms.cs r
theorem Ms.AD(l:List Ms):Ms.cs l=l.map (mC):=by induction l with | nil=>rfl | cons x r ih=>simp [Ms.cs,ih]
theorem Ms.A0(l:List Ms):(Ms.cs l).length=l.length:=by simp [Ms.AD]
theorem Ms.CG{l:List Ms}{i:Nat}(h:i<l.length):(Ms.cs l).getD i []=mC (l.getD i default):=by rw [Ms.AD]; simp [List.getD,h]
abbrev pX(x:Qu):List PV:=[.str (A7j x),.sl 2 (Vr.cs (quW x)),.int .i64 (Af (Vv x)),.str (Aj (Vv x)),.int .i64 (Bq (Vv x)),.sl 4 (Pr.cs (Av (Vv x)))]
def Qu.cs:List Qu->List (List PV)
 | []=>[]
 | x::r=>pX x::Qu.cs r
theorem Qu.AD(l:List Qu):Qu.cs l=l.map (pX):=by induction l with | nil=>rfl | cons x r ih=>simp [Qu.cs,ih]
theorem Qu.A0(l:List Qu):(Qu.cs l).length=l.length:=by simp [Qu.AD]
theorem Qu.CG{l:List Qu}{i:Nat}(h:i<l.length):(Qu.cs l).getD i []=pX (l.getD i default):=by rw [Qu.AD]; simp [List.getD,h]
abbrev BD(x:Mo):List PV:=[.sl 4 (Da.cs (AL x)),.sl 3 (Cl.cs (CB x)),.sl 12 (In.cs (DD x)),.sl 8 (Ms.cs (B3 x)),.sl 6 (Qu.cs (Ep x)),.sl 25 (Df.cs (AW x))]
abbrev Er(x:Mo):List LV:=[.v (.sl 4 (Da.cs (AL x))),.v (.sl 3 (Cl.cs (CB x))),.v (.sl 12 (In.cs (DD x))),.v (.sl 8 (Ms.cs (B3 x))),.v (.sl 6 (Qu.cs (Ep x))),.v (.sl 25 (Df.cs (AW x)))]
abbrev Tv(x:Sy):List PV:=[.str (HB x),.sl 1 (Ae (DW x)),.str (pQ x)]
abbrev syV(x:Sy):List LV:=[.v (.str (HB x)),.v (.sl 1 (Ae (DW x))),.v (.str (pQ x))]
def Sy.cs:List Sy->List (List PV)
 | []=>[]
 | x::r=>Tv x::Sy.cs r
theorem Sy.AD(l:List Sy):Sy.cs l=l.map (Tv):=by induction l with | nil=>rfl | cons x r ih=>simp [Sy.cs,ih]
theorem Sy.A0(l:List Sy):(Sy.cs l).length=l.length:=by simp [Sy.AD]
theorem Sy.CG{l:List Sy}{i:Nat}(h:i<l.length):(Sy.cs l).getD i []=Tv (l.getD i default):=by rw [Sy.AD]; simp [List.getD,h]
theorem Sy.A1(l:List Sy)(x:Sy):Sy.cs (l++[x])=Sy.cs l++[Tv x]:=by simp [Sy.AD]
abbrev XC(x:Ho):List PV:=[.str (Bj x),.sl 2 (Vr.cs (E0 x))]
abbrev pY(x:Ho):List LV:=[.v (.str (Bj x)),.v (.sl 2 (Vr.cs (E0 x)))]
def Ho.cs:List Ho->List (List PV)
 | []=>[]
 | x::r=>XC x::Ho.cs r
theorem Ho.AD(l:List Ho):Ho.cs l=l.map (XC):=by induction l with | nil=>rfl | cons x r ih=>simp [Ho.cs,ih]
theorem Ho.A0(l:List Ho):(Ho.cs l).length=l.length:=by simp [Ho.AD]
theorem Ho.CG{l:List Ho}{i:Nat}(h:i<l.length):(Ho.cs l).getD i []=XC (l.getD i default):=by rw [Ho.AD]; simp [List.getD,h]
theorem Ho.A1(l:List Ho)(x:Ho):Ho.cs (l++[x])=Ho.cs l++[XC x]:=by simp [Ho.AD]
abbrev BP(x:Nv):List PV:=[.sl 2 (Vr.cs (AX x)),.sl 3 (Sy.cs (BV x)),.sl 2 (Ho.cs (Bd x))]
abbrev Dy(x:Nv):List LV:=[.v (.sl 2 (Vr.cs (AX x))),.v (.sl 3 (Sy.cs (BV x))),.v (.sl 2 (Ho.cs (Bd x)))]
abbrev FM(x:Df):List PV:=[.sl 1 (Ae (CS x)),.sl 2 (Vr.cs (CT x)),.sl 2 (Vr.cs (A8 x)),.sl 10 (Bo.cs (Ak x)),.int .i64 (AB (Ad x)),.str (An (Ad x)),.sl 9 (Tp.cs (Ab (Ad x))),.sl 1 (Ae (Ag (Ad x))),.int .i64 (Af (AT (Ad x))),.str (Aj (AT (Ad x))),.int .i64 (Bq (AT (Ad x))),.sl 4 (Pr.cs (Av (AT (Ad x)))),.sl 4 (Pr.cs (Aq (Ad x))),.sl 4 (Pr.cs (AJ x))]
theorem At{α:Type} [Inhabited α] {l:List α} {i:Nat} (h:i<l.length):l.drop i=l.getD i default::l.drop (i+1):=by
 rw [List.drop_eq_getElem_cons h]
 simp [List.getD,h]
theorem CU{l:List BA}{i:Nat}(h:i<l.length):l.drop i=l.getD i Ai::l.drop (i+1):=by
 rw [List.drop_eq_getElem_cons h]
 simp [List.getD,h]
theorem Mx{α:Type} [Inhabited α] {l:List α} {i:Nat} (h:i<l.length):(l.take (i+1)).reverse=l.getD i default::(l.take i).reverse:=by
 rw [List.take_succ_eq_append_getElem h,List.reverse_append]
 simp [List.getD,h]
theorem Bm{α:Type} [Inhabited α] {l:List α} {i:Nat} (h:i<l.length):l.getD i default∈l:=by simp [List.getD,h]
set_option maxRecDepth 100000
theorem mixed:Tryz.prog.follows .mixedOrders=true:=by kernel_rfl
theorem pu{f:FuncId}{fn:Func}{args:List PV}(md:Md)(L:Ext->List (Ds Tryz.prog)){r:Ct}(hf:Tryz.prog.funcs[f]?=some fn)(EA:(FQ Tryz.prog f&&KW fn)=true:=by kernel_rfl)(h:∀e,Ud Tryz.prog md 50 fn args e (Tt (L e)) = .ok (r,e) [] (jV (L e)):=by intro e; kernel_rfl):(Ob.Rb f args r).ok Tryz.prog:=Ob.z0 md 50 (fun e=>Tt (L e)) mixed hf EA h fun e=>pM (L e)
theorem ef{f:FuncId}{fn:Func}{args:List PV}{e e':Ext}(md:Md)(L:List (Ds Tryz.prog)){r:Ct}(hf:Tryz.prog.funcs[f]?=some fn)(EA:(FQ Tryz.prog f&&KW fn)=true:=by kernel_rfl)(h:Ud Tryz.prog md 50 fn args e (Tt L) = .ok (r,e') [] (jV L):=by kernel_rfl):(Ob.Eh f args e r e').ok Tryz.prog:=Ob.z4 md 50 (Tt L) mixed hf EA h (pM L)
theorem pw{cx:Cx}{c:Code}{s s':S}{pe:A4}{Q:A4->S->Prop}(md:Md)(n:Nat)(L:List (Ds Tryz.prog))(ks bs:List Nat)(hn:cx.n=n)(hq:Q pe s')(hc:BU n c=true:=by kernel_rfl)(h:(Ei Tryz.prog md n 50 c s (Tt L)).BR ks bs = .ok (pe,s') [] (jV L):=by kernel_rfl):PW Tryz.prog cx c s Q:=Eb md n 50 (Tt L) ks bs mixed hn hc h (pM L) hq
abbrev Pu(f:FuncId)(a:List PV)(r:Ct):Prop:=(Ob.Rb f a r).ok Tryz.prog
abbrev Ef(f:FuncId)(a:List PV)(e:Ext)(r:Ct)(e':Ext):Prop:=(Ob.Eh f a e r e').ok Tryz.prog
theorem Wq{a b:LV}(h:WL a b:=by first | exact .inl rfl | exact .inr ⟨rfl,rfl⟩ | exact .inr rfl | exact .inr trivial):WL a b:=h
theorem pm{f:FuncId}{fn:Func}{args:List PV}(md:Md)(L:List (Ds Tryz.prog)){r:Ct}(hf:Tryz.prog.funcs[f]?=some fn)(EA:(FQ Tryz.prog f&&KW fn)=true:=by kernel_rfl)(h:∀e,Ud Tryz.prog md 50 fn args e (Tt L) = .ok (r,e) [] (jV L):=by intro e; kernel_rfl):(Ob.Rb f args r).ok Tryz.prog:=pu md (fun _=>L) hf EA h
abbrev bM(n:UInt8):BA:=ByteArray.mk #[n]
theorem kr{a:PV}{l r:List PV}(h:Co l r):Co (a::l) (a::r):=Co.c (Wk.r _) h
theorem kn(n:Nat){l r:List PV}(h:Co l r):Co (.A2::l) (.sl n []::r):=Co.c (Wk.n n) h
def ksT(s:S):List Nat:=s.tmps.map (·.1)
def ksB(s:S):List Nat:=s.boxes.map (·.1)
def kQ(s:S):Bool:=WZ s.tmps []&&WZ s.boxes []
/-- A round of a loop over a list,as proofs give it. -/
def RB(n:Nat)(c:Code){β R:Type}(I:Int → β → S)(f:Nat → β → R)(q:R → A4 × S)(inv:Nat → β → Prop)(i:Nat)(b:β):Prop:=BU n c=true → ∀cx:Cx,cx.n=n → PW Tryz.prog cx c (I (i:Int) b) fun pe s'=>(pe = .normal ∧ ∃b',inv (i+1) b' ∧ No (I ((i:Int)+1) b') s' ∧ f i b=f (i+1) b')∨(pe ≠ .normal ∧ pe=(q (f i b)).1 ∧ No (q (f i b)).2 s')
theorem CL{n:Nat}{c:Code}{β R:Type}(len:Nat)(I:Int → β → S)(f:Nat → β → R)(q:R → A4 × S)(inv:Nat → β → Prop)(hc:BU n c=true)(h:∀i b,i ≤ len → inv i b → RB n c I f q (fun i b=>i ≤ len ∧ inv i b) i b)(b:β)(h0:inv 0 b):(Ob.loop n c (I 0 b) (q (f 0 b)).1 (q (f 0 b)).2).ok Tryz.prog:=by
  refine Ob.Nq (P:=Tryz.prog) (α:={ zz:Nat × β // zz.1 ≤ len ∧ inv zz.1 zz.2 }) (fun zz=>I (zz.1.1:Int) zz.1.2) (fun zz=>len - zz.1.1) (fun zz=>q (f zz.1.1 zz.1.2)) ?_ ⟨(0,b),Nat.zero_le _,h0⟩
  rintro ⟨⟨i,b⟩,hi,hv⟩ cx Aw
  simp only at hi hv ⊢
  refine (h i b hi hv hc cx Aw).mono ?_
  rintro pe s' (⟨h1,b',h2,h3,h4⟩ | h5)
  · exact .inl ⟨h1,⟨(i+1,b'),h2⟩,by have:=h2.1; simp only; omega,h3,by simp only; rw [h4]⟩
  · exact .inr h5
section
variable {n:Nat} {c:Code} {β R:Type} {I:Int → β → S} {f:Nat → β → R} {q:R → A4 × S} {inv:Nat → β → Prop} {i:Nat} {b:β}
theorem lN{len:Nat}(md:Md)(L:List (Ds Tryz.prog))(hi:i<len)(b':β)(hv:inv (i+1) b')(hf:f i b=f (i+1) b')(h:(Ei Tryz.prog md n 50 c (I i b) (Tt L)).BR (ksT (I ((i:Int)+1) b')) (ksB (I ((i:Int)+1) b')) = .ok (.normal,I ((i:Int)+1) b') [] (jV L):=by kernel_rfl)(hk:kQ (I ((i:Int)+1) b')=true:=by kernel_rfl):RB n c I f q (fun i b=>i ≤ len ∧ inv i b) i b:=fun hc _ Aw=>
  Eb md n 50 (Tt L) _ _ mixed Aw hc h (pM L) (.inl ⟨rfl,b',⟨hi,hv⟩,xq hk,hf⟩)
theorem lS{len:Nat}(md:Md)(L:List (Ds Tryz.prog))(ks bs:List Nat)(hi:i<len)(b':β)(s':S)(hle:No (I ((i:Int)+1) b') s')(hv:inv (i+1) b')(hf:f i b=f (i+1) b')(h:(Ei Tryz.prog md n 50 c (I i b) (Tt L)).BR ks bs = .ok (.normal,s') [] (jV L):=by kernel_rfl):RB n c I f q (fun i b=>i ≤ len ∧ inv i b) i b:=fun hc _ Aw=>
  Eb md n 50 (Tt L) _ _ mixed Aw hc h (pM L) (.inl ⟨rfl,b',⟨hi,hv⟩,hle,hf⟩)
theorem lX{inv:Nat → β → Prop}(md:Md)(L:List (Ds Tryz.prog))(r:R)(hr:f i b=r)(h:(Ei Tryz.prog md n 50 c (I i b) (Tt L)).BR (ksT (q r).2) (ksB (q r).2) = .ok ((q r).1,(q r).2) [] (jV L):=by kernel_rfl)(hk:kQ (q r).2=true:=by kernel_rfl)(hp:(q r).1 ≠ .normal:=by intro hp; cases hp):RB n c I f q inv i b:=fun hc _ Aw=>
  Eb md n 50 (Tt L) _ _ mixed Aw hc h (pM L) (.inr ⟨hp,by rw [hr],by rw [hr]; exact xq hk⟩)
theorem lY{inv:Nat → β → Prop}{pe:A4}(md:Md)(L:List (Ds Tryz.prog))(ks bs:List Nat)(s':S)(r:R)(hr:f i b=r)(hle:No (q r).2 s')(he:pe=(q r).1)(hp:pe ≠ .normal)(h:(Ei Tryz.prog md n 50 c (I i b) (Tt L)).BR ks bs = .ok (pe,s') [] (jV L):=by kernel_rfl):RB n c I f q inv i b:=fun hc _ Aw=>
  Eb md n 50 (Tt L) ks bs mixed Aw hc h (pM L) (.inr ⟨hp,by rw [hr]; exact he,by rw [hr]; exact hle⟩)
end
theorem rz{n:Nat}{c:Code}{R:Type}{s:S}{q:R → A4 × S}{x y:R}(h:(Ob.loop n c s (q x).1 (q x).2).ok Tryz.prog)(e:x=y):(Ob.loop n c s (q y).1 (q y).2).ok Tryz.prog:=e ▸ h
section
variable {P:Program}
def DU(l:List ByteArray)(i:Nat)(h:i<l.length:=by omega):Ds P:=ar ((Ae l).getD i []) [.str (l.getD i Ai)] (by rw [mB h])
def xEx(l:List Ex)(i:Nat)(h:i<l.length:=by omega):Ds P:=ar ((Ex.cs l).getD i []) (L1 (l.getD i default)) (by rw [Ex.CG h])
def xAl(l:List Al)(i:Nat)(h:i<l.length:=by omega):Ds P:=ar ((Al.cs l).getD i []) (zC (l.getD i default)) (by rw [Al.CG h])
def xPm(l:List Pm)(i:Nat)(h:i<l.length:=by omega):Ds P:=ar ((Pm.cs l).getD i []) (jW (l.getD i default)) (by rw [Pm.CG h])
def I5(l:List Tp)(i:Nat)(h:i<l.length:=by omega):Ds P:=ar ((Tp.cs l).getD i []) (AO (l.getD i default)) (by rw [Tp.CG h])
def SN(l:List Df)(i:Nat)(h:i<l.length:=by omega):Ds P:=ar ((Df.cs l).getD i []) (Ou (l.getD i default)) (by rw [Df.CG h])
def My(l:List Pr)(i:Nat)(h:i<l.length:=by omega):Ds P:=ar ((Pr.cs l).getD i []) (AN (l.getD i default)) (by rw [Pr.CG h])
def Gn(l:List Vr)(i:Nat)(h:i<l.length:=by omega):Ds P:=ar ((Vr.cs l).getD i []) (FU (l.getD i default)) (by rw [Vr.CG h])
def xCn(l:List Cn)(i:Nat)(h:i<l.length:=by omega):Ds P:=ar ((Cn.cs l).getD i []) (pR (l.getD i default)) (by rw [Cn.CG h])
def X5(l:List Da)(i:Nat)(h:i<l.length:=by omega):Ds P:=ar ((Da.cs l).getD i []) (Vw (l.getD i default)) (by rw [Da.CG h])
def xCl(l:List Cl)(i:Nat)(h:i<l.length:=by omega):Ds P:=ar ((Cl.cs l).getD i []) (pU (l.getD i default)) (by rw [Cl.CG h])
def Uk(l:List Bo)(i:Nat)(h:i<l.length:=by omega):Ds P:=ar ((Bo.cs l).getD i []) (KH (l.getD i default)) (by rw [Bo.CG h])
def xIn(l:List In)(i:Nat)(h:i<l.length:=by omega):Ds P:=ar ((In.cs l).getD i []) (pV (l.getD i default)) (by rw [In.CG h])
def xCs(l:List Cs)(i:Nat)(h:i<l.length:=by omega):Ds P:=ar ((Cs.cs l).getD i []) (pW (l.getD i default)) (by rw [Cs.CG h])
def XD(l:List Ms)(i:Nat)(h:i<l.length:=by omega):Ds P:=ar ((Ms.cs l).getD i []) (mC (l.getD i default)) (by rw [Ms.CG h])
def xQu(l:List Qu)(i:Nat)(h:i<l.length:=by omega):Ds P:=ar ((Qu.cs l).getD i []) (pX (l.getD i default)) (by rw [Qu.CG h])
def xSy(l:List Sy)(i:Nat)(h:i<l.length:=by omega):Ds P:=ar ((Sy.cs l).getD i []) (Tv (l.getD i default)) (by rw [Sy.CG h])
def xHo(l:List Ho)(i:Nat)(h:i<l.length:=by omega):Ds P:=ar ((Ho.cs l).getD i []) (XC (l.getD i default)) (by rw [Ho.CG h])
end
section
variable {P:Program}
def CH(l:List BA)(e:Int)(h:0≤e∧e<(l.length:Int):=by omega):Ds P:=am ((0:Int)≤e∧e<((Ae l).length:Int)) (by rw [A5]; exact h)
def Afx(l:List Ex)(e:Int)(h:0≤e∧e<(l.length:Int):=by omega):Ds P:=am ((0:Int)≤e∧e<((Ex.cs l).length:Int)) (by rw [Ex.A0]; exact h)
def A7k(l:List Al)(e:Int)(h:0≤e∧e<(l.length:Int):=by omega):Ds P:=am ((0:Int)≤e∧e<((Al.cs l).length:Int)) (by rw [Al.A0]; exact h)
def zD(l:List Pm)(e:Int)(h:0≤e∧e<(l.length:Int):=by omega):Ds P:=am ((0:Int)≤e∧e<((Pm.cs l).length:Int)) (by rw [Pm.A0]; exact h)
def DH(l:List Tp)(e:Int)(h:0≤e∧e<(l.length:Int):=by omega):Ds P:=am ((0:Int)≤e∧e<((Tp.cs l).length:Int)) (by rw [Tp.A0]; exact h)
def J7(l:List Df)(e:Int)(h:0≤e∧e<(l.length:Int):=by omega):Ds P:=am ((0:Int)≤e∧e<((Df.cs l).length:Int)) (by rw [Df.A0]; exact h)
def FG(l:List Pr)(e:Int)(h:0≤e∧e<(l.length:Int):=by omega):Ds P:=am ((0:Int)≤e∧e<((Pr.cs l).length:Int)) (by rw [Pr.A0]; exact h)
def D2(l:List Vr)(e:Int)(h:0≤e∧e<(l.length:Int):=by omega):Ds P:=am ((0:Int)≤e∧e<((Vr.cs l).length:Int)) (by rw [Vr.A0]; exact h)
def A7l(l:List Cn)(e:Int)(h:0≤e∧e<(l.length:Int):=by omega):Ds P:=am ((0:Int)≤e∧e<((Cn.cs l).length:Int)) (by rw [Cn.A0]; exact h)
def M0(l:List Da)(e:Int)(h:0≤e∧e<(l.length:Int):=by omega):Ds P:=am ((0:Int)≤e∧e<((Da.cs l).length:Int)) (by rw [Da.A0]; exact h)
def mD(l:List Cl)(e:Int)(h:0≤e∧e<(l.length:Int):=by omega):Ds P:=am ((0:Int)≤e∧e<((Cl.cs l).length:Int)) (by rw [Cl.A0]; exact h)
def L2(l:List Bo)(e:Int)(h:0≤e∧e<(l.length:Int):=by omega):Ds P:=am ((0:Int)≤e∧e<((Bo.cs l).length:Int)) (by rw [Bo.A0]; exact h)
def zE(l:List In)(e:Int)(h:0≤e∧e<(l.length:Int):=by omega):Ds P:=am ((0:Int)≤e∧e<((In.cs l).length:Int)) (by rw [In.A0]; exact h)
def A7m(l:List Cs)(e:Int)(h:0≤e∧e<(l.length:Int):=by omega):Ds P:=am ((0:Int)≤e∧e<((Cs.cs l).length:Int)) (by rw [Cs.A0]; exact h)
def Ng(l:List Ms)(e:Int)(h:0≤e∧e<(l.length:Int):=by omega):Ds P:=am ((0:Int)≤e∧e<((Ms.cs l).length:Int)) (by rw [Ms.A0]; exact h)
def A7n(l:List Qu)(e:Int)(h:0≤e∧e<(l.length:Int):=by omega):Ds P:=am ((0:Int)≤e∧e<((Qu.cs l).length:Int)) (by rw [Qu.A0]; exact h)
def X6(l:List Sy)(e:Int)(h:0≤e∧e<(l.length:Int):=by omega):Ds P:=am ((0:Int)≤e∧e<((Sy.cs l).length:Int)) (by rw [Sy.A0]; exact h)
def X7(l:List Ho)(e:Int)(h:0≤e∧e<(l.length:Int):=by omega):Ds P:=am ((0:Int)≤e∧e<((Ho.cs l).length:Int)) (by rw [Ho.A0]; exact h)
def DM(s:BA)(i:Nat):Ds P:=av (.v (.int .u8 (↑(UInt8.toNat (s.data.toList.getD (Int.toNat (i:Int)) default)):Int))) (.v (.int .u8 (↑(UInt8.toNat (s.data.toList.getD i default)):Int)))
def mxB(s:BA)(i:Nat)(h:i<s.data.toList.length:=by first | assumption | omega):Ds P:=am ((0:Int)≤(i:Int)∧(i:Int)<(s.size:Int)) ⟨by omega,by have h2:s.data.toList.length=s.size:=(by simp); omega⟩
end
theorem X8:∀p:PV,1<=CR p:=fun p=>by cases p <;> simp [CR]
theorem CM(p:PV)(r:List PV):1<=A3 (p::r):=by have:=X8 p; simp only [A3]; omega
theorem D5:∀ {l:List (List PV)} {c:List PV},c∈l->A3 c<=Ah l
 | x::r,c,h=>by
  simp only [Ah]
  rcases List.mem_cons.1 h with rfl | h
  ·omega
  ·have:=D5 h; omega
theorem Dh:∀ {l:List (List PV)},(∀c∈l,1<=A3 c)->l.length<=Ah l
 | [],_=>by simp
 | x::r,h=>by
  have h1:=h x List.mem_cons_self
  have h2:=Dh fun c hc=>h c (List.mem_cons_of_mem _ hc)
  simp only [Ah,List.length_cons]
  omega
theorem Ov(l:List BA):l.length<=Ah (Ae l):=by
 have:=Dh (l:=Ae l) fun c hc=>by
  rw [JF] at hc
  obtain ⟨x,-,rfl⟩:=List.mem_map.1 hc
  exact CM _ _
 rwa [A5] at this
theorem Pr.BS(l:List Pr):l.length<=Ah (Pr.cs l):=by
 have:=Dh (l:=Pr.cs l) fun c hc=>by
  rw [Pr.AD] at hc
  obtain ⟨x,-,rfl⟩:=List.mem_map.1 hc
  exact CM _ _
 rwa [Pr.A0] at this
theorem Pr.mem{l:List Pr}{x:Pr}(h:x∈l):A3 (AN x)<=Ah (Pr.cs l):=D5 (by rw [Pr.AD]; exact List.mem_map_of_mem h)
theorem Tp.BS(l:List Tp):l.length<=Ah (Tp.cs l):=by
 have:=Dh (l:=Tp.cs l) fun c hc=>by
  rw [Tp.AD] at hc
  obtain ⟨x,-,rfl⟩:=List.mem_map.1 hc
  exact CM _ _
 rwa [Tp.A0] at this
theorem Tp.mem{l:List Tp}{x:Tp}(h:x∈l):A3 (AO x)<=Ah (Tp.cs l):=D5 (by rw [Tp.AD]; exact List.mem_map_of_mem h)
theorem Pm.BS(l:List Pm):l.length<=Ah (Pm.cs l):=by
 have:=Dh (l:=Pm.cs l) fun c hc=>by
  rw [Pm.AD] at hc
  obtain ⟨x,-,rfl⟩:=List.mem_map.1 hc
  exact CM _ _
 rwa [Pm.A0] at this
theorem Pm.mem{l:List Pm}{x:Pm}(h:x∈l):A3 (jW x)<=Ah (Pm.cs l):=D5 (by rw [Pm.AD]; exact List.mem_map_of_mem h)
theorem Ex.BS(l:List Ex):l.length<=Ah (Ex.cs l):=by
 have:=Dh (l:=Ex.cs l) fun c hc=>by
  rw [Ex.AD] at hc
  obtain ⟨x,-,rfl⟩:=List.mem_map.1 hc
  exact CM _ _
 rwa [Ex.A0] at this
theorem Ex.mem{l:List Ex}{x:Ex}(h:x∈l):A3 (L1 x)<=Ah (Ex.cs l):=D5 (by rw [Ex.AD]; exact List.mem_map_of_mem h)
theorem Al.BS(l:List Al):l.length<=Ah (Al.cs l):=by
 have:=Dh (l:=Al.cs l) fun c hc=>by
  rw [Al.AD] at hc
  obtain ⟨x,-,rfl⟩:=List.mem_map.1 hc
  exact CM _ _
 rwa [Al.A0] at this
theorem Al.mem{l:List Al}{x:Al}(h:x∈l):A3 (zC x)<=Ah (Al.cs l):=D5 (by rw [Al.AD]; exact List.mem_map_of_mem h)
theorem Vr.BS(l:List Vr):l.length<=Ah (Vr.cs l):=by
 have:=Dh (l:=Vr.cs l) fun c hc=>by
  rw [Vr.AD] at hc
  obtain ⟨x,-,rfl⟩:=List.mem_map.1 hc
  exact CM _ _
 rwa [Vr.A0] at this
theorem Cn.BS(l:List Cn):l.length<=Ah (Cn.cs l):=by
 have:=Dh (l:=Cn.cs l) fun c hc=>by
  rw [Cn.AD] at hc
  obtain ⟨x,-,rfl⟩:=List.mem_map.1 hc
  exact CM _ _
 rwa [Cn.A0] at this
theorem Cn.mem{l:List Cn}{x:Cn}(h:x∈l):A3 (pR x)<=Ah (Cn.cs l):=D5 (by rw [Cn.AD]; exact List.mem_map_of_mem h)
theorem Da.BS(l:List Da):l.length<=Ah (Da.cs l):=by
 have:=Dh (l:=Da.cs l) fun c hc=>by
  rw [Da.AD] at hc
  obtain ⟨x,-,rfl⟩:=List.mem_map.1 hc
  exact CM _ _
 rwa [Da.A0] at this
theorem Da.mem{l:List Da}{x:Da}(h:x∈l):A3 (Vw x)<=Ah (Da.cs l):=D5 (by rw [Da.AD]; exact List.mem_map_of_mem h)
theorem Cl.mem{l:List Cl}{x:Cl}(h:x∈l):A3 (pU x)<=Ah (Cl.cs l):=D5 (by rw [Cl.AD]; exact List.mem_map_of_mem h)
theorem Bo.BS(l:List Bo):l.length<=Ah (Bo.cs l):=by
 have:=Dh (l:=Bo.cs l) fun c hc=>by
  rw [Bo.AD] at hc
  obtain ⟨x,-,rfl⟩:=List.mem_map.1 hc
  exact CM _ _
 rwa [Bo.A0] at this
theorem Bo.mem{l:List Bo}{x:Bo}(h:x∈l):A3 (KH x)<=Ah (Bo.cs l):=D5 (by rw [Bo.AD]; exact List.mem_map_of_mem h)
theorem Df.BS(l:List Df):l.length<=Ah (Df.cs l):=by
 have:=Dh (l:=Df.cs l) fun c hc=>by
  rw [Df.AD] at hc
  obtain ⟨x,-,rfl⟩:=List.mem_map.1 hc
  exact CM _ _
 rwa [Df.A0] at this
theorem Df.mem{l:List Df}{x:Df}(h:x∈l):A3 (Ou x)<=Ah (Df.cs l):=D5 (by rw [Df.AD]; exact List.mem_map_of_mem h)
theorem In.mem{l:List In}{x:In}(h:x∈l):A3 (pV x)<=Ah (In.cs l):=D5 (by rw [In.AD]; exact List.mem_map_of_mem h)
theorem Cs.BS(l:List Cs):l.length<=Ah (Cs.cs l):=by
 have:=Dh (l:=Cs.cs l) fun c hc=>by
  rw [Cs.AD] at hc
  obtain ⟨x,-,rfl⟩:=List.mem_map.1 hc
  exact CM _ _
 rwa [Cs.A0] at this
theorem Cs.mem{l:List Cs}{x:Cs}(h:x∈l):A3 (pW x)<=Ah (Cs.cs l):=D5 (by rw [Cs.AD]; exact List.mem_map_of_mem h)
theorem Ms.BS(l:List Ms):l.length<=Ah (Ms.cs l):=by
 have:=Dh (l:=Ms.cs l) fun c hc=>by
  rw [Ms.AD] at hc
  obtain ⟨x,-,rfl⟩:=List.mem_map.1 hc
  exact CM _ _
 rwa [Ms.A0] at this
theorem Ms.mem{l:List Ms}{x:Ms}(h:x∈l):A3 (mC x)<=Ah (Ms.cs l):=D5 (by rw [Ms.AD]; exact List.mem_map_of_mem h)
theorem Qu.mem{l:List Qu}{x:Qu}(h:x∈l):A3 (pX x)<=Ah (Qu.cs l):=D5 (by rw [Qu.AD]; exact List.mem_map_of_mem h)
section
variable {P:Program} {n:Nat} {t:TypeId} {cs:List PV}
theorem CQ(hu:P.underlying t=some .string)(h:Ty P n t cs):∃s,cs=[.str s]:=by
 cases n with
 | zero=>exact h.elim
 | succ n=>simp only [Ty,hu] at h; obtain ⟨s,rfl,-⟩:=h; exact ⟨s,rfl⟩
theorem M1{k:IntKind}(hu:P.underlying t=some (.int k))(h:Ty P n t cs):∃v,cs=[.int k v]/\(Lit.int k v).wf=true:=by
 cases n with
 | zero=>exact h.elim
 | succ n=>simp only [Ty,hu] at h; exact h
theorem mE(hu:P.underlying t=some .bool)(h:Ty P n t cs):∃b,cs=[.bool b]:=by
 cases n with
 | zero=>exact h.elim
 | succ n=>simp only [Ty,hu] at h; exact h
theorem BO{fs:Array Field}(hu:P.underlying t=some (.struct fs))(h:Ty P n t cs):∃m,m<n/\TyF (Ty P m) fs.toList cs:=by
 cases n with
 | zero=>exact h.elim
 | succ n=>simp only [Ty,hu] at h; exact ⟨n,by omega,h⟩
theorem Zy{q:TypeId}(hu:P.underlying t=some (.slice q))(h:Ty P n t cs):∃m es,m<n/\cs=[.sl (P.cellsOf q) es]/\∀x∈es,Ty P m q x:=by
 cases n with
 | zero=>exact h.elim
 | succ n=>simp only [Ty,hu] at h; obtain ⟨es,h1,-,h2⟩:=h; exact ⟨n,es,by omega,h1,h2⟩
theorem Zz{α:Type}{mk:α->List PV}:∀ {es:List (List PV)},(∀x∈es,∃a,x=mk a)->∃l:List α,es=l.map mk
 | [],_=>⟨[],rfl⟩
 | x::r,h=>by
  obtain ⟨a,rfl⟩:=h x sM
  obtain ⟨l,rfl⟩:=Zz (es:=r) fun y hy=>h y (List.mem_cons_of_mem _ hy)
  exact ⟨a::l,rfl⟩
theorem BJ{α:Type}{mk:α->List PV}{C:List α->List (List PV)}(hC:∀l,C l=l.map mk){q:TypeId}(hu:P.underlying t=some (.slice q)){z:Nat}(hz:P.cellsOf q=z)(h:Ty P n t cs)(he:∀m x,m<n->Ty P m q x->∃a,x=mk a):∃l,cs=[.sl z (C l)]:=by
 obtain ⟨m,es,hm,rfl,h2⟩:=Zy hu h
 obtain ⟨l,rfl⟩:=Zz fun x hx=>he m x hm (h2 x hx)
 exact ⟨l,by rw [hC,hz]⟩
end
section
variable {n:Nat} {cs:List PV}
theorem J8(h:Ty prog n 37 cs):∃l,cs=[.sl 1 (Ae l)]:=
 BJ (mk:=fun s=>[.str s]) JF Tryz.underlying37 kR h fun m x _ hx=>CQ Tryz.underlying9 hx
theorem L3:∀ (n:Nat) (cs:List PV),Ty prog n 41 cs->∃x:Pr,cs=AN x:=by
 intro n
 induction n using Nat.strongRecOn with
 | _ n ih=>
  intro cs h
  obtain ⟨m,hm,h⟩:=BO Tryz.underlying41 h
  obtain ⟨c1,r1,rfl,h1,c2,r2,rfl,h2,c3,r3,rfl,h3,c4,r4,rfl,h4,rfl⟩:=h
  obtain ⟨vO,rfl,-⟩:=M1 Tryz.underlying38 h1
  obtain ⟨M3,rfl⟩:=CQ Tryz.underlying9 h2
  obtain ⟨vN,rfl,-⟩:=M1 Tryz.underlying3 h3
  obtain ⟨vK,rfl⟩:=BJ (z:=4) Pr.AD Tryz.underlying39 kR h4 fun m' x Fk hx=>ih m' oM x hx
  exact ⟨.mk vO M3 vN vK,by simp only [Af,Aj,Bq,Av,AN,List.cons_append,List.nil_append,List.append_nil]⟩
theorem Ow:∀ (n:Nat) (cs:List PV),Ty prog n 43 cs->∃x:Tp,cs=AO x:=by
 intro n
 induction n using Nat.strongRecOn with
 | _ n ih=>
  intro cs h
  obtain ⟨m,hm,h⟩:=BO Tryz.underlying43 h
  obtain ⟨c1,r1,rfl,h1,c2,r2,rfl,h2,c3,r3,rfl,h3,c4,r4,rfl,h4,c5,r5,rfl,h5,c6,r6,rfl,h6,rfl⟩:=h
  obtain ⟨vO,rfl,-⟩:=M1 Tryz.underlying35 h1
  obtain ⟨M3,rfl⟩:=CQ Tryz.underlying9 h2
  obtain ⟨vA,rfl⟩:=BJ (z:=9) Tp.AD Tryz.underlying36 kR h3 fun m' x Fk hx=>ih m' oM x hx
  obtain ⟨vNs,rfl⟩:=J8 h4
  obtain ⟨vP,rfl⟩:=L3 _ _ h5
  obtain ⟨vPs,rfl⟩:=BJ (z:=4) Pr.AD Tryz.underlying39 kR h6 fun m' x Fk hx=>L3 _ _ hx
  exact ⟨.mk vO M3 vA vNs vP vPs,by simp only [AB,An,Ab,Ag,AT,Aq,AO,Af,Aj,Bq,Av,AN,List.cons_append,List.nil_append,List.append_nil]⟩
theorem A7o(h:Ty prog n 140 cs):∃x:Pm,cs=jW x:=by
 obtain ⟨m,hm,h⟩:=BO Tryz.underlying140 h
 obtain ⟨c1,r1,rfl,h1,c2,r2,rfl,h2,rfl⟩:=h
 obtain ⟨M3,rfl⟩:=CQ Tryz.underlying9 h1
 obtain ⟨vT,rfl⟩:=Ow _ _ h2
 exact ⟨.mk M3 vT,by simp only [Zs,H9,jW,AB,An,Ab,Ag,AT,Aq,AO,Af,Aj,Bq,Av,AN,List.cons_append,List.nil_append,List.append_nil]⟩
theorem SO(h:Ty prog n 89 cs):∃x:Pm,cs=jW x:=by
 obtain ⟨m,hm,h⟩:=BO Tryz.underlying89 h
 obtain ⟨c1,r1,rfl,h1,c2,r2,rfl,h2,rfl⟩:=h
 obtain ⟨M3,rfl⟩:=CQ Tryz.underlying9 h1
 obtain ⟨vT,rfl⟩:=Ow _ _ h2
 exact ⟨.mk M3 vT,by simp only [Zs,H9,jW,AB,An,Ab,Ag,AT,Aq,AO,Af,Aj,Bq,Av,AN,List.cons_append,List.nil_append,List.append_nil]⟩
theorem A7p:∀ (n:Nat) (cs:List PV),Ty prog n 63 cs->∃x:Ex,cs=L1 x:=by
 intro n
 induction n using Nat.strongRecOn with
 | _ n ih=>
  intro cs h
  obtain ⟨m,hm,h⟩:=BO Tryz.underlying63 h
  obtain ⟨c1,r1,rfl,h1,c2,r2,rfl,h2,c3,r3,rfl,h3,c4,r4,rfl,h4,c5,r5,rfl,h5,c6,r6,rfl,h6,c7,r7,rfl,h7,rfl⟩:=h
  obtain ⟨vO,rfl,-⟩:=M1 Tryz.underlying58 h1
  obtain ⟨M3,rfl⟩:=CQ Tryz.underlying9 h2
  obtain ⟨vN,rfl,-⟩:=M1 Tryz.underlying3 h3
  obtain ⟨vK,rfl⟩:=BJ (z:=7) Ex.AD Tryz.underlying59 kR h4 fun m' x Fk hx=>ih m' oM x hx
  obtain ⟨vP,rfl⟩:=BJ (z:=10) Pm.AD Tryz.underlying60 kR h5 fun m' x Fk hx=>A7o hx
  obtain ⟨vA,rfl⟩:=BJ (z:=9) Al.AD Tryz.underlying61 kR h6 fun m' x Fk hx=>by
   obtain ⟨m2,hm2,hx⟩:=BO Tryz.underlying142 hx
   obtain ⟨d1,r1,rfl,k1,d2,r2,rfl,k2,d3,r3,rfl,k3,rfl⟩:=hx
   obtain ⟨s,rfl⟩:=CQ Tryz.underlying9 k1
   obtain ⟨ns,rfl⟩:=J8 k2
   obtain ⟨b,rfl⟩:=ih m2 oM _ k3
   exact ⟨.mk s ns b,by simp only [zC,alC,Zt,Qa,List.cons_append,List.nil_append,List.append_nil]⟩
  obtain ⟨vT,rfl⟩:=BJ (z:=9) Tp.AD Tryz.underlying36 kR h7 fun m' x Fk hx=>Ow _ _ hx
  exact ⟨.mk vO M3 vN vK vP vA vT,by simp only [pO,LZ,pP,IT,Hy,Io,P2,L1,List.cons_append,List.nil_append,List.append_nil]⟩
theorem ZA(h:Ty prog n 104 cs):∃x:Vr,cs=FU x:=by
 obtain ⟨m,hm,h⟩:=BO Tryz.underlying104 h
 obtain ⟨c1,r1,rfl,h1,c2,r2,rfl,h2,rfl⟩:=h
 obtain ⟨M3,rfl⟩:=CQ Tryz.underlying9 h1
 obtain ⟨vS,rfl⟩:=CQ Tryz.underlying74 h2
 exact ⟨.mk M3 vS,by simp only [AE,CD,FU,List.cons_append,List.nil_append,List.append_nil]⟩
theorem M4(h:Ty prog n 303 cs):∃x:Vr,cs=FU x:=by
 obtain ⟨m,hm,h⟩:=BO Tryz.underlying303 h
 obtain ⟨c1,r1,rfl,h1,c2,r2,rfl,h2,rfl⟩:=h
 obtain ⟨a,rfl⟩:=CQ Tryz.underlying9 h1
 obtain ⟨b,rfl⟩:=CQ Tryz.underlying9 h2
 exact ⟨.mk a b,by simp only [AE,CD,FU,List.cons_append,List.nil_append,List.append_nil]⟩
theorem SP(h:Ty prog n 113 cs):∃x:Vr,cs=FU x:=by
 obtain ⟨m,hm,h⟩:=BO Tryz.underlying113 h
 obtain ⟨c1,r1,rfl,h1,c2,r2,rfl,h2,rfl⟩:=h
 obtain ⟨a,rfl⟩:=CQ Tryz.underlying9 h1
 obtain ⟨b,rfl⟩:=CQ Tryz.underlying74 h2
 exact ⟨.mk a b,by simp only [AE,CD,FU,List.cons_append,List.nil_append,List.append_nil]⟩
theorem A7q(h:Ty prog n 83 cs):∃x:Cn,cs=pR x:=by
 obtain ⟨m,hm,h⟩:=BO Tryz.underlying83 h
 obtain ⟨c1,r1,rfl,h1,c2,r2,rfl,h2,c3,r3,rfl,h3,rfl⟩:=h
 obtain ⟨M3,rfl⟩:=CQ Tryz.underlying9 h1
 obtain ⟨vNs,rfl⟩:=J8 h2
 obtain ⟨vF,rfl⟩:=BJ (z:=9) Tp.AD Tryz.underlying36 kR h3 fun m' x Fk hx=>Ow _ _ hx
 exact ⟨.mk M3 vNs vF,by simp only [A7g,X4,Nf,pR,List.cons_append,List.nil_append,List.append_nil]⟩
theorem A7r(h:Ty prog n 81 cs):∃x:Da,cs=Vw x:=by
 obtain ⟨m,hm,h⟩:=BO Tryz.underlying81 h
 obtain ⟨c1,r1,rfl,h1,c2,r2,rfl,h2,c3,r3,rfl,h3,c4,r4,rfl,h4,rfl⟩:=h
 obtain ⟨M3,rfl⟩:=CQ Tryz.underlying9 h1
 obtain ⟨vVs,rfl⟩:=J8 h2
 obtain ⟨vP,rfl⟩:=BJ (z:=2) Vr.AD Tryz.underlying22 kR h3 fun m' x Fk hx=>ZA hx
 obtain ⟨vC,rfl⟩:=BJ (z:=3) Cn.AD Tryz.underlying79 kR h4 fun m' x Fk hx=>A7q hx
 exact ⟨.mk M3 vVs vP vC,by simp only [Bc,Ii,F6,Gm,Vw,List.cons_append,List.nil_append,List.append_nil]⟩
theorem A7s(h:Ty prog n 87 cs):∃x:Cl,cs=pU x:=by
 obtain ⟨m,hm,h⟩:=BO Tryz.underlying87 h
 obtain ⟨c1,r1,rfl,h1,c2,r2,rfl,h2,c3,r3,rfl,h3,rfl⟩:=h
 obtain ⟨M3,rfl⟩:=CQ Tryz.underlying9 h1
 obtain ⟨vW,rfl⟩:=CQ Tryz.underlying9 h2
 obtain ⟨vM,rfl⟩:=BJ (z:=10) Pm.AD Tryz.underlying85 kR h3 fun m' x Fk hx=>SO hx
 exact ⟨.mk M3 vW vM,by simp only [A7h,clW,Hz,pU,List.cons_append,List.nil_append,List.append_nil]⟩
theorem pZ(h:Ty prog n 120 cs):∃x:Bo,cs=KH x:=by
 obtain ⟨m,hm,h⟩:=BO Tryz.underlying120 h
 obtain ⟨c1,r1,rfl,h1,c2,r2,rfl,h2,c3,r3,rfl,h3,c4,r4,rfl,h4,rfl⟩:=h
 obtain ⟨M3,rfl⟩:=CQ Tryz.underlying9 h1
 obtain ⟨vW,rfl⟩:=BJ (z:=2) Vr.AD Tryz.underlying22 kR h2 fun m' x Fk hx=>ZA hx
 obtain ⟨vH,rfl⟩:=L3 _ _ h3
 obtain ⟨vG,rfl⟩:=L3 _ _ h4
 exact ⟨.mk M3 vW vH vG,by simp only [Cd,B6,Cv,EU,KH,Af,Aj,Bq,Av,AN,List.cons_append,List.nil_append,List.append_nil]⟩
theorem q7(h:Ty prog n 66 cs):∃x:Df,cs=Ou x:=by
 obtain ⟨m,hm,h⟩:=BO Tryz.underlying66 h
 obtain ⟨c1,r1,rfl,h1,c2,r2,rfl,h2,c3,r3,rfl,h3,c4,r4,rfl,h4,c5,r5,rfl,h5,c6,r6,rfl,h6,rfl⟩:=h
 obtain ⟨M3,rfl⟩:=CQ Tryz.underlying9 h1
 obtain ⟨vP,rfl⟩:=J8 h2
 obtain ⟨vB,rfl⟩:=A7p _ _ h3
 obtain ⟨vM,rfl,-⟩:=M1 Tryz.underlying64 h4
 obtain ⟨vTy,rfl⟩:=mE Tryz.underlying4 h5
 obtain ⟨m2,hm2,h6⟩:=BO Tryz.underlying57 h6
 obtain ⟨d1,q1,rfl,k1,d2,q2,rfl,k2,d3,q3,rfl,k3,d4,q4,rfl,k4,d5,q5,rfl,k5,d6,q6,rfl,k6,rfl⟩:=h6
 obtain ⟨vVs,rfl⟩:=J8 k1
 obtain ⟨vNe,rfl⟩:=BJ (z:=2) Vr.AD Tryz.underlying53 kR k2 fun m' x Fk hx=>M4 hx
 obtain ⟨vAb,rfl⟩:=BJ (z:=2) Vr.AD Tryz.underlying54 kR k3 fun m' x Fk hx=>SP hx
 obtain ⟨vBo,rfl⟩:=BJ (z:=10) Bo.AD Tryz.underlying55 kR k4 fun m' x Fk hx=>pZ hx
 obtain ⟨vT,rfl⟩:=Ow _ _ k5
 obtain ⟨vMe,rfl⟩:=BJ (z:=4) Pr.AD Tryz.underlying39 kR k6 fun m' x Fk hx=>L3 _ _ hx
 exact ⟨.mk M3 vP vB vM vTy vVs vNe vAb vBo vT vMe,by simp only [D4,L0,Oq,Tu,mA,CS,CT,A8,Ak,Ad,AJ,Ou,pO,LZ,pP,IT,Hy,Io,P2,L1,AB,An,Ab,Ag,AT,Aq,AO,Af,Aj,Bq,Av,AN,List.cons_append,List.nil_append,List.append_nil]⟩
theorem A7t(h:Ty prog n 91 cs):∃x:In,cs=pV x:=by
 obtain ⟨m,hm,h⟩:=BO Tryz.underlying91 h
 obtain ⟨c1,r1,rfl,h1,c2,r2,rfl,h2,c3,r3,rfl,h3,c4,r4,rfl,h4,rfl⟩:=h
 obtain ⟨M3,rfl⟩:=CQ Tryz.underlying9 h1
 obtain ⟨vT,rfl⟩:=Ow _ _ h2
 obtain ⟨vNe,rfl⟩:=BJ (z:=2) Vr.AD Tryz.underlying53 kR h3 fun m' x Fk hx=>M4 hx
 obtain ⟨vD,rfl⟩:=BJ (z:=25) Df.AD Tryz.underlying32 kR h4 fun m' x Fk hx=>q7 hx
 exact ⟨.mk M3 vT vNe vD,by simp only [A7i,Ot,Zu,Ul,pV,AB,An,Ab,Ag,AT,Aq,AO,Af,Aj,Bq,Av,AN,List.cons_append,List.nil_append,List.append_nil]⟩
theorem A7u(h:Ty prog n 97 cs):∃x:Cs,cs=pW x:=by
 obtain ⟨m,hm,h⟩:=BO Tryz.underlying97 h
 obtain ⟨c1,r1,rfl,h1,c2,r2,rfl,h2,c3,r3,rfl,h3,rfl⟩:=h
 obtain ⟨vC,rfl⟩:=CQ Tryz.underlying9 h1
 obtain ⟨vNs,rfl⟩:=J8 h2
 obtain ⟨vB,rfl⟩:=L3 _ _ h3
 exact ⟨.mk vC vNs vB,by simp only [csC,Zv,P3,pW,Af,Aj,Bq,Av,AN,List.cons_append,List.nil_append,List.append_nil]⟩
theorem A7v(h:Ty prog n 95 cs):∃x:Ms,cs=mC x:=by
 obtain ⟨m,hm,h⟩:=BO Tryz.underlying95 h
 obtain ⟨c1,r1,rfl,h1,c2,r2,rfl,h2,c3,r3,rfl,h3,c4,r4,rfl,h4,c5,r5,rfl,h5,rfl⟩:=h
 obtain ⟨M3,rfl⟩:=CQ Tryz.underlying9 h1
 obtain ⟨vD,rfl⟩:=CQ Tryz.underlying9 h2
 obtain ⟨vR,rfl⟩:=CQ Tryz.underlying74 h3
 obtain ⟨vC,rfl⟩:=BJ (z:=6) Cs.AD Tryz.underlying93 kR h4 fun m' x Fk hx=>A7u hx
 obtain ⟨vI,rfl⟩:=L3 _ _ h5
 exact ⟨.mk M3 vD vR vC vI,by simp only [El,Zw,Zx,HA,SL,mC,Af,Aj,Bq,Av,AN,List.cons_append,List.nil_append,List.append_nil]⟩
theorem A7w(h:Ty prog n 99 cs):∃x:Qu,cs=pX x:=by
 obtain ⟨m,hm,h⟩:=BO Tryz.underlying99 h
 obtain ⟨c1,r1,rfl,h1,c2,r2,rfl,h2,c3,r3,rfl,h3,rfl⟩:=h
 obtain ⟨M3,rfl⟩:=CQ Tryz.underlying9 h1
 obtain ⟨vW,rfl⟩:=BJ (z:=2) Vr.AD Tryz.underlying22 kR h2 fun m' x Fk hx=>ZA hx
 obtain ⟨vB,rfl⟩:=L3 _ _ h3
 exact ⟨.mk M3 vW vB,by simp only [A7j,quW,Vv,pX,Af,Aj,Bq,Av,AN,List.cons_append,List.nil_append,List.append_nil]⟩
theorem A7x(h:Ty prog n 34 cs):∃x:Mo,cs=BD x:=by
 obtain ⟨m,hm,h⟩:=BO Tryz.underlying34 h
 obtain ⟨c1,r1,rfl,h1,c2,r2,rfl,h2,c3,r3,rfl,h3,c4,r4,rfl,h4,c5,r5,rfl,h5,c6,r6,rfl,h6,rfl⟩:=h
 obtain ⟨vD,rfl⟩:=BJ (z:=4) Da.AD Tryz.underlying27 kR h1 fun m' x Fk hx=>A7r hx
 obtain ⟨vC,rfl⟩:=BJ (z:=3) Cl.AD Tryz.underlying28 kR h2 fun m' x Fk hx=>A7s hx
 obtain ⟨vI,rfl⟩:=BJ (z:=12) In.AD Tryz.underlying29 kR h3 fun m' x Fk hx=>A7t hx
 obtain ⟨vM,rfl⟩:=BJ (z:=8) Ms.AD Tryz.underlying30 kR h4 fun m' x Fk hx=>A7v hx
 obtain ⟨vQ,rfl⟩:=BJ (z:=6) Qu.AD Tryz.underlying31 kR h5 fun m' x Fk hx=>A7w hx
 obtain ⟨vF,rfl⟩:=BJ (z:=25) Df.AD Tryz.underlying32 kR h6 fun m' x Fk hx=>q7 hx
 exact ⟨.mk vD vC vI vM vQ vF,by simp only [AL,CB,DD,B3,Ep,AW,BD,List.cons_append,List.nil_append,List.append_nil]⟩
end
open Go.ChangeShapes Go.WideShapes Go.ChangeAt Go.RowKit
theorem own:ownKnob prog.godebug=none:=by kernel_rfl
theorem laidOut:laidOutB prog=true:=by kernel_rfl
def zF(P:Program)(t:TypeId):List TypeId:=match P.underlying t with
 | some (.slice e)=>[e]
 | some (.struct fs)=>fs.toList.map fun f=>f.type
 | _=>[]
def Afy(l:List TypeId)(x:TypeId):List TypeId:=if l.contains x then l else l++[x]
def ZB(P:Program):Nat->List TypeId->List TypeId
 | 0,l=>l
 | n+1,l=>ZB P n ((l.map (zF P)).flatten.foldl Afy l)
mutual
theorem L4{H:Type}:∀d:DataW H,Eu d=Rows.uptoBulk d
 | .lit q=>by cases q <;> rfl
 | .nil=>rfl
 | .ptr d=>by rw [Eu,Rows.uptoBulk,L4 d]
 | .slice a b=>by rw [Eu,Rows.uptoBulk,L5 a,L5 b]
 | .agg a=>by rw [Eu,Rows.uptoBulk,L5 a]
 | .iface _ d=>by rw [Eu,Rows.uptoBulk,L4 d]
 | .map es=>by rw [Eu,Rows.uptoBulk,SQ es]
 | .held _=>rfl
theorem L5{H:Type}:∀l:List (DataW H),Ek l=Rows.uptoBulkAll l
 | []=>rfl
 | d::r=>by rw [Ek,Rows.uptoBulkAll,L4 d,L5 r]
theorem SQ{H:Type}:∀l:List (Lit × DataW H),Rj l=Rows.uptoBulkEntries l
 | []=>rfl
 | x::r=>by rw [Rj,Rows.uptoBulkEntries,ZC x,SQ r]
theorem ZC{H:Type}:∀x:Lit × DataW H,Ui x=Rows.uptoBulkEntry x
 | (q,d)=>by cases q <;> simp only [Ui,Rows.uptoBulkEntry,L4 d]
end
theorem Vx{H:Type}:∀ {a b:List (DataW H)},Ek a<=Rows.uptoBulkAll (a++b)
 | [],b=>Nat.zero_le _
 | d::a,b=>by
  have:=Vx (a:=a) (b:=b)
  rw [List.cons_append,Ek,Rows.uptoBulkAll,L4 d]
  omega
theorem ZD{H:Type}{a b:List (DataW H)}(hk:Rows.uptoSmall H (a++b)=true):Ek a<=1048576:=by
 have h:Rows.uptoBulkAll (a++b)<=1048576:=of_decide_eq_true hk
 have:=Vx (a:=a) (b:=b)
 omega
def kwZ:List (List UInt8):=[[97,110,100],[97,115,115,117,109,101],[98,111,111,108],[98,111,117,110,100],[99,97,115,101],[99,101,108,108],[99,108,97,115,115],[100,97,116,97],[100,101,102],[100,105,118],[101,108,115,101],[101,110,100],[102,97,108,115,101],[102,111,114,97,108,108],[102,117,110],[103,101,116],[105,102],[105,110],[105,110,115,116],[105,110,116],[105,110,118,97,114,105,97,110,116],[108,101,116],[109,97,116,99,104],[109,101,97,115,117,114,101],[109,101,116,114,105,99],[109,111,100],[109,117],[110,101,119],[110,111,116],[111,102],[111,114],[113,117,97,108],[114,101,102,108,101,99,116],[115,101,116],[116,104,101,110],[116,114,117,101],[117,115,101],[118],[118,97,108],[116,97,103],[119,104,101,114,101],[119,105,116,104]]
theorem Afz:prog.globalNamed "liquidcheck/names.keywords" = some 0:=by kernel_rfl
theorem ZE:(prog.globals[0]?).map (·.type)=some 258:=by kernel_rfl
theorem ZF:prog.cellsOf 258=42:=by kernel_rfl
theorem ZG:prog.cellsOf 9=1:=by kernel_rfl
theorem Ag0 {W:World} (h:laidMetH prog [("liquidcheck/names.keywords",Rows.laid_liquidcheck_names_keywords)] W):XN g0 W:=
 X3 (g:=0) (zs:=kwZ) rfl (Pf (zs:=kwZ) (rest:=[]) Afz ZE Tryz.underlying258 Tryz.underlying9 ZG ZF h)
noncomputable def M5 (os:Os):World:=
 { World.holding prog os ⟨#[],#[],[]⟩ with heap:=(World.holding prog os ⟨#[],#[],[]⟩).heap.modify 0 fun
   | .cells _ t frozen => .cells (kwZ.map fun z=>Value.string ⟨z.toArray⟩).toArray t frozen
   | o=>o }
def A9:Md:=⟨fun _=>some false,fun _=>false⟩
def ix{α:Type}(f:α->BA)(name:BA):List α->Nat
 | []=>0
 | c::r=>if f c=name then 0 else ix f name r+1
abbrev A7y(m:Mo)(name:BA)(j:Int)(e:Ext):S:=S.mk [(1,vS name),(4,.lp 4 0),(5,.v (.bool false)),(9,vL 4 (Da.cs (AL m))),(10,A6 ((AL m).length:Int)),(11,A6 j)] [(4,[vS Ai,.v .A2,.v .A2,.v .A2])] e
inductive SS where
 | e0 (el:Da)
 | e1
def M6(name:BA):List Da->SS
 | []=>(SS.e1)
 | el::r=>(if Bc el=name then (SS.e0 el) else M6 name r)
def zG(m:Mo)(name:BA)(e:Ext):SS->A4 × S
 | .e0 el=>(.ret,S.mk [(1,vS name),(4,.lp 4 0),(5,.v (.bool true)),(9,vL 4 (Da.cs (AL m))),(10,A6 ((AL m).length:Int))] [(4,pS el)] e)
 | .e1=>(.exit 0,S.mk [(1,vS name),(4,.lp 4 0),(5,.v (.bool false)),(9,vL 4 (Da.cs (AL m))),(10,A6 ((AL m).length:Int))] [(4,[vS Ai,.v .A2,.v .A2,.v .A2])] e)
theorem q8(m:Mo)(name:BA)(e:Ext)(hN:(AL m).length<=1000000000):(Ob.loop 22 (Au f72 0) (A7y m name 0  e) (zG m name e (M6 name ((AL m)))).1 (zG m name e (M6 name ((AL m)))).2).ok prog:=by
 refine CL ((AL m).length) (fun j _=>A7y m name j  e) (fun i _=>M6 name (List.drop i ((AL m)))) (zG m name e) (fun i _=>True) kR ?_ () trivial
 rintro i u hi -
 rcases Nat.lt_or_ge i ((AL m).length) with Ac | Cm
 ·have hd:=At Ac
  by_cases h0:Bc (List.getD (AL m) i default)=name
  ·exact lX A9 [dt ((i:Int)<((AL m).length:Int)),M0 (AL m) (i:Int),X5 (AL m) i Ac,bt (ByteArray.toList (Bc (List.getD (AL m) i default))==ByteArray.toList name) (BI h0)] (SS.e0 (List.getD ((AL m)) i default)) (by rw [hd,M6,iP h0])
  ·exact lN A9 [dt ((i:Int)<((AL m).length:Int)),M0 (AL m) (i:Int),X5 (AL m) i Ac,bf (ByteArray.toList (Bc (List.getD (AL m) i default))==ByteArray.toList name) (Bp h0),wr ((i:Int)+1)] Ac () trivial (by rw [hd,M6,iN h0])
 ·have he:i=(AL m).length:=by omega
  exact lX A9 [df ((i:Int)<((AL m).length:Int))] (SS.e1) (by rw [he,List.drop_length,M6])
theorem zH(name:BA):∀l:List Da,M6 name l=if ix Bc name l<l.length then .e0 (l.getD (ix Bc name l) default) else .e1
 | []=>by simp [M6,ix]
 | c::r=>by
  by_cases h:Bc c=name
  ·simp [M6,ix,h]
  ·simp only [M6,ix,h,if_false,zH name r,List.length_cons,Nat.add_lt_add_iff_right,List.getD_cons_succ]
theorem A7z(m:Mo)(name:BA)(BC:(AL m).length<=1048576)(CX:Da)(Aa:M6 name (AL m)=SS.e0 CX):Pu 72 [.agg (BD m),.str name] (.ret (.Bf [.agg (Vw CX),.bool true])):=
 pu A9 (fun e=>[sl (Da.A0 (AL m)),lq (rz (q8 (m) (name) (e) oM) Aa)]) func72
theorem A80(m:Mo)(name:BA)(BC:(AL m).length<=1048576)(A7:M6 name (AL m)=SS.e1):Pu 72 [.agg (BD m),.str name] (.ret (.Bf [.agg [.str Ai,.sl 1 [],.sl 2 [],.sl 3 []],.bool false])):=
 Ob.Ej (Wk.t (Co.c (Wk.a (kr (kn 1 (kn 2 (kn 3 (Co.r _)))))) (Co.r _))) (pu A9 (fun e=>[sl (Da.A0 (AL m)),lq (rz (q8 (m) (name) (e) oM) A7)]) func72)
theorem dAT(m:Mo)(name:BA)(BC:(AL m).length<=1048576)(hx:ix Bc name (AL m)<(AL m).length):Pu 72 [.agg (BD m),.str name] (.ret (.Bf [.agg (Vw ((AL m).getD (ix Bc name (AL m)) default)),.bool true])):=
 A7z m name BC _ (by rw [zH,iP hx])
theorem dAF(m:Mo)(name:BA)(BC:(AL m).length<=1048576)(hx:¬ix Bc name (AL m)<(AL m).length):Pu 72 [.agg (BD m),.str name] (.ret (.Bf [.agg (Vw default),.bool false])):=
 A80 m name BC (by rw [zH,iN hx])
end Go.Proofs.YthchpmnkecoafaaGreatDoor
