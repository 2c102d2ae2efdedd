/- Values of Go as plain data, an evaluator over them, and what the functions of the program return; part Ya. -/
import Derived.Test.YthchpmnkecoafaaGreatDoorXe
import Derived.Test.YthchpmnkecoafaaGreatDoorXh
import Derived.Test.YthchpmnkecoafaaGreatDoorProg
import Derived.KernelRfl
import Derived.Test.YthchpmnkecoafaaGreatDoorRows
import Derived.JoinedCond
import Derived.Deep.DeepHandedRow
import Derived.Lib.LaidTab
set_option linter.unusedSectionVars false
set_option linter.unusedSimpArgs false
set_option linter.unusedVariables false
namespace Go.Proofs.YthchpmnkecoafaaGreatDoor
open Go.Proofs.Tryz
open Go.Pv Go.Proofs.Tryz
abbrev Ah:BA:=ByteArray.mk #[]
inductive Pr where
 | mk (xO:Int) (F5:BA) (xN:Int) (xK:List Pr)
instance:Inhabited Pr:=⟨.mk 0 Ah 0 []⟩
def Ab:Pr->Int | .mk x _ _ _=>x
def Aq:Pr->BA | .mk _ x _ _=>x
def Ch:Pr->Int | .mk _ _ x _=>x
def As:Pr->List Pr | .mk _ _ _ x=>x
inductive Tp where
 | mk (xO:Int) (F5:BA) (xA:List Tp) (rJ:List BA) (xP:Pr) (xPs:List Pr)
instance:Inhabited Tp:=⟨.mk 0 Ah [] [] default []⟩
def AA:Tp->Int | .mk x _ _ _ _ _=>x
def Af:Tp->BA | .mk _ x _ _ _ _=>x
def A8:Tp->List Tp | .mk _ _ x _ _ _=>x
def Aj:Tp->List BA | .mk _ _ _ x _ _=>x
def Br:Tp->Pr | .mk _ _ _ _ x _=>x
def Ak:Tp->List Pr | .mk _ _ _ _ _ x=>x
inductive Pm where
 | mk (F5:BA) (xT:Tp)
instance:Inhabited Pm:=⟨.mk Ah default⟩
def YI:Pm->BA | .mk x _=>x
def H8:Pm->Tp | .mk _ x=>x
mutual
inductive Ex where
 | mk (xO:Int) (F5:BA) (xN:Int) (xK:List Ex) (xP:List Pm) (xA:List Al) (xT:List Tp)
inductive Al where
 | mk (xC:BA) (rJ:List BA) (xB:Ex)
end
instance:Inhabited Ex:=⟨.mk 0 Ah 0 [] [] [] []⟩
instance:Inhabited Al:=⟨.mk Ah [] default⟩
def rK:Ex->Int | .mk x _ _ _ _ _ _=>x
def Iw:Ex->BA | .mk _ x _ _ _ _ _=>x
def rL:Ex->Int | .mk _ _ x _ _ _ _=>x
def IU:Ex->List Ex | .mk _ _ _ x _ _ _=>x
def HU:Ex->List Pm | .mk _ _ _ _ x _ _=>x
def Iy:Ex->List Al | .mk _ _ _ _ _ x _=>x
def LZ:Ex->List Tp | .mk _ _ _ _ _ _ x=>x
def alC:Al->BA | .mk x _ _=>x
def YJ:Al->List BA | .mk _ x _=>x
def Pb:Al->Ex | .mk _ _ x=>x
inductive Vr where
 | mk (F5:BA) (xS:BA)
instance:Inhabited Vr:=⟨.mk Ah Ah⟩
def BP:Vr->BA | .mk x _=>x
def Fe:Vr->BA | .mk _ x=>x
inductive Cn where
 | mk (F5:BA) (rJ:List BA) (xF:List Tp)
instance:Inhabited Cn:=⟨.mk Ah [] []⟩
def A1g:Cn->BA | .mk x _ _=>x
def Wt:Cn->List BA | .mk _ x _=>x
def M0:Cn->List Tp | .mk _ _ x=>x
inductive Da where
 | mk (F5:BA) (xVs:List BA) (xP:List Vr) (xC:List Cn)
instance:Inhabited Da:=⟨.mk Ah [] [] []⟩
def AB:Da->BA | .mk x _ _ _=>x
def Ek:Da->List BA | .mk _ x _ _=>x
def Dq:Da->List Vr | .mk _ _ x _=>x
def FP:Da->List Cn | .mk _ _ _ x=>x
inductive Cl where
 | mk (F5:BA) (xW:BA) (xM:List Pm)
instance:Inhabited Cl:=⟨.mk Ah Ah []⟩
def A1h:Cl->BA | .mk x _ _=>x
def clW:Cl->BA | .mk _ x _=>x
def Hv:Cl->List Pm | .mk _ _ x=>x
inductive Bo where
 | mk (F5:BA) (xW:List Vr) (xH:Pr) (xG:Pr)
instance:Inhabited Bo:=⟨.mk Ah [] default default⟩
def A1i:Bo->BA | .mk x _ _ _=>x
def boW:Bo->List Vr | .mk _ x _ _=>x
def QI:Bo->Pr | .mk _ _ x _=>x
def QJ:Bo->Pr | .mk _ _ _ x=>x
inductive Df where
 | mk (F5:BA) (xP:List BA) (xB:Ex) (xM:Int) (xTy:Bool) (xVs:List BA) (xNe:List Vr) (xAb:List Vr) (xBo:List Bo) (xT:Tp) (xMe:List Pr)
instance:Inhabited Df:=⟨.mk Ah [] default 0 false [] [] [] [] default []⟩
def CZ:Df->BA | .mk x _ _ _ _ _ _ _ _ _ _=>x
def Ez:Df->List BA | .mk _ x _ _ _ _ _ _ _ _ _=>x
def Of:Df->Ex | .mk _ _ x _ _ _ _ _ _ _ _=>x
def Kv:Df->Int | .mk _ _ _ x _ _ _ _ _ _ _=>x
def rM:Df->Bool | .mk _ _ _ _ x _ _ _ _ _ _=>x
def I5:Df->List BA | .mk _ _ _ _ _ x _ _ _ _ _=>x
def Iz:Df->List Vr | .mk _ _ _ _ _ _ x _ _ _ _=>x
def IV:Df->List Vr | .mk _ _ _ _ _ _ _ x _ _ _=>x
def D6:Df->List Bo | .mk _ _ _ _ _ _ _ _ x _ _=>x
def AN:Df->Tp | .mk _ _ _ _ _ _ _ _ _ x _=>x
def I6:Df->List Pr | .mk _ _ _ _ _ _ _ _ _ _ x=>x
inductive In where
 | mk (F5:BA) (xT:Tp) (xNe:List Vr) (xD:List Df)
instance:Inhabited In:=⟨.mk Ah default [] []⟩
def A1j:In->BA | .mk x _ _ _=>x
def N8:In->Tp | .mk _ x _ _=>x
def YK:In->List Vr | .mk _ _ x _=>x
def Tk:In->List Df | .mk _ _ _ x=>x
inductive Cs where
 | mk (xC:BA) (rJ:List BA) (xB:Pr)
instance:Inhabited Cs:=⟨.mk Ah [] default⟩
def csC:Cs->BA | .mk x _ _=>x
def YL:Cs->List BA | .mk _ x _=>x
def Og:Cs->Pr | .mk _ _ x=>x
inductive Ms where
 | mk (F5:BA) (xD:BA) (xR:BA) (xC:List Cs) (xI:Pr)
instance:Inhabited Ms:=⟨.mk Ah Ah Ah [] default⟩
def N9:Ms->BA | .mk x _ _ _ _=>x
def YM:Ms->BA | .mk _ x _ _ _=>x
def YN:Ms->BA | .mk _ _ x _ _=>x
def Hw:Ms->List Cs | .mk _ _ _ x _=>x
def Oh:Ms->Pr | .mk _ _ _ _ x=>x
inductive Qu where
 | mk (F5:BA) (xW:List Vr) (xB:Pr)
instance:Inhabited Qu:=⟨.mk Ah [] default⟩
def A1k:Qu->BA | .mk x _ _=>x
def quW:Qu->List Vr | .mk _ x _=>x
def Up:Qu->Pr | .mk _ _ x=>x
inductive Mo where
 | mk (xD:List Da) (xC:List Cl) (xI:List In) (xM:List Ms) (xQ:List Qu) (xF:List Df)
instance:Inhabited Mo:=⟨.mk [] [] [] [] [] []⟩
def Av:Mo->List Da | .mk x _ _ _ _ _=>x
def BW:Mo->List Cl | .mk _ x _ _ _ _=>x
def CJ:Mo->List In | .mk _ _ x _ _ _=>x
def Ba:Mo->List Ms | .mk _ _ _ x _ _=>x
def Dh:Mo->List Qu | .mk _ _ _ _ x _=>x
def AY:Mo->List Df | .mk _ _ _ _ _ x=>x
inductive Sy where
 | mk (F5:BA) (xA:List BA) (xR:BA)
instance:Inhabited Sy:=⟨.mk Ah [] Ah⟩
def DT:Sy->BA | .mk x _ _=>x
def Ca:Sy->List BA | .mk _ x _=>x
def Lj:Sy->BA | .mk _ _ x=>x
inductive Ho where
 | mk (F5:BA) (xP:List Vr)
instance:Inhabited Ho:=⟨.mk Ah []⟩
def AP:Ho->BA | .mk x _=>x
def CV:Ho->List Vr | .mk _ x=>x
inductive Nv where
 | mk (xW:List Vr) (xS:List Sy) (xH:List Ho)
instance:Inhabited Nv:=⟨.mk [] [] []⟩
def AS:Nv->List Vr | .mk x _ _=>x
def By:Nv->List Sy | .mk _ x _=>x
def AU:Nv->List Ho | .mk _ _ x=>x
def A7:List BA->List (List PV)
 | []=>[]
 | s::r=>[.str s]::A7 r
theorem I7(l:List BA):A7 l=l.map (fun s=>[.str s]):=by induction l with | nil=>rfl | cons x r ih=>simp [A7,ih]
theorem A3(l:List BA):(A7 l).length=l.length:=by simp [I7]
theorem Cv{l:List BA}{i:Nat}(h:i<l.length):(A7 l).getD i []=[.str (l.getD i Ah)]:=by rw [I7]; simp [List.getD,h]
theorem AX(a b:List BA):A7 (a++b)=A7 a++A7 b:=by simp [I7]
theorem AM(l:List BA)(x:BA):A7 (l++[x])=A7 l++[[.str x]]:=by simp [I7]
mutual
def Pr.c:Pr->List PV
 | .mk xO F5 xN xK=>[.int .i64 xO,.str F5,.int .i64 xN,.sl 4 (Pr.cs xK)]
def Pr.cs:List Pr->List (List PV)
 | []=>[]
 | x::r=>Pr.c x::Pr.cs r
end
abbrev AO(x:Pr):List PV:=[.int .i64 (Ab x),.str (Aq x),.int .i64 (Ch x),.sl 4 (Pr.cs (As x))]
abbrev BK(x:Pr):List LV:=[.v (.int .i64 (Ab x)),.v (.str (Aq x)),.v (.int .i64 (Ch x)),.v (.sl 4 (Pr.cs (As x)))]
theorem Pr.Tl(x:Pr):Pr.c x=AO x:=by cases x; rfl
theorem Pr.AD(l:List Pr):Pr.cs l=l.map (AO):=by induction l with | nil=>rfl | cons x r ih=>simp [Pr.cs,ih,Pr.Tl]
theorem Pr.A0(l:List Pr):(Pr.cs l).length=l.length:=by simp [Pr.AD]
theorem Pr.B5{l:List Pr}{i:Nat}(h:i<l.length):(Pr.cs l).getD i []=AO (l.getD i default):=by rw [Pr.AD]; simp [List.getD,h]
theorem Pr.A2(l:List Pr)(x:Pr):Pr.cs (l++[x])=Pr.cs l++[AO x]:=by simp [Pr.AD]
mutual
def Tp.c:Tp->List PV
 | .mk xO F5 xA rJ xP xPs=>[.int .i64 xO,.str F5,.sl 9 (Tp.cs xA),.sl 1 (A7 rJ),.int .i64 (Ab xP),.str (Aq xP),.int .i64 (Ch xP),.sl 4 (Pr.cs (As xP)),.sl 4 (Pr.cs xPs)]
def Tp.cs:List Tp->List (List PV)
 | []=>[]
 | x::r=>Tp.c x::Tp.cs r
end
abbrev Ay(x:Tp):List PV:=[.int .i64 (AA x),.str (Af x),.sl 9 (Tp.cs (A8 x)),.sl 1 (A7 (Aj x)),.int .i64 (Ab (Br x)),.str (Aq (Br x)),.int .i64 (Ch (Br x)),.sl 4 (Pr.cs (As (Br x))),.sl 4 (Pr.cs (Ak x))]
abbrev Bj(x:Tp):List LV:=[.v (.int .i64 (AA x)),.v (.str (Af x)),.v (.sl 9 (Tp.cs (A8 x))),.v (.sl 1 (A7 (Aj x))),.v (.int .i64 (Ab (Br x))),.v (.str (Aq (Br x))),.v (.int .i64 (Ch (Br x))),.v (.sl 4 (Pr.cs (As (Br x)))),.v (.sl 4 (Pr.cs (Ak x)))]
theorem Tp.Tl(x:Tp):Tp.c x=Ay x:=by cases x; rfl
theorem Tp.AD(l:List Tp):Tp.cs l=l.map (Ay):=by induction l with | nil=>rfl | cons x r ih=>simp [Tp.cs,ih,Tp.Tl]
theorem Tp.A0(l:List Tp):(Tp.cs l).length=l.length:=by simp [Tp.AD]
theorem Tp.B5{l:List Tp}{i:Nat}(h:i<l.length):(Tp.cs l).getD i []=Ay (l.getD i default):=by rw [Tp.AD]; simp [List.getD,h]
theorem Tp.A2(l:List Tp)(x:Tp):Tp.cs (l++[x])=Tp.cs l++[Ay x]:=by simp [Tp.AD]
abbrev eW(x:Pm):List PV:=[.str (YI x),.int .i64 (AA (H8 x)),.str (Af (H8 x)),.sl 9 (Tp.cs (A8 (H8 x))),.sl 1 (A7 (Aj (H8 x))),.int .i64 (Ab (Br (H8 x))),.str (Aq (Br (H8 x))),.int .i64 (Ch (Br (H8 x))),.sl 4 (Pr.cs (As (Br (H8 x)))),.sl 4 (Pr.cs (Ak (H8 x)))]
def Pm.cs:List Pm->List (List PV)
 | []=>[]
 | x::r=>eW x::Pm.cs r
theorem Pm.AD(l:List Pm):Pm.cs l=l.map (eW):=by induction l with | nil=>rfl | cons x r ih=>simp [Pm.cs,ih]
theorem Pm.A0(l:List Pm):(Pm.cs l).length=l.length:=by simp [Pm.AD]
theorem Pm.B5{l:List Pm}{i:Nat}(h:i<l.length):(Pm.cs l).getD i []=eW (l.getD i default):=by rw [Pm.AD]; simp [List.getD,h]
mutual
def Ex.c:Ex->List PV
 | .mk xO F5 xN xK xP xA xT=>[.int .i64 xO,.str F5,.int .i64 xN,.sl 7 (Ex.cs xK),.sl 10 (Pm.cs xP),.sl 9 (Al.cs xA),.sl 9 (Tp.cs xT)]
def Ex.cs:List Ex->List (List PV)
 | []=>[]
 | x::r=>Ex.c x::Ex.cs r
def Al.c:Al->List PV
 | .mk xC rJ xB => .str xC :: .sl 1 (A7 rJ)::Ex.c xB
def Al.cs:List Al->List (List PV)
 | []=>[]
 | x::r=>Al.c x::Al.cs r
end
abbrev Ka(x:Ex):List PV:=[.int .i64 (rK x),.str (Iw x),.int .i64 (rL x),.sl 7 (Ex.cs (IU x)),.sl 10 (Pm.cs (HU x)),.sl 9 (Al.cs (Iy x)),.sl 9 (Tp.cs (LZ x))]
abbrev rN(x:Ex):List LV:=[.v (.int .i64 (rK x)),.v (.str (Iw x)),.v (.int .i64 (rL x)),.v (.sl 7 (Ex.cs (IU x))),.v (.sl 10 (Pm.cs (HU x))),.v (.sl 9 (Al.cs (Iy x))),.v (.sl 9 (Tp.cs (LZ x)))]
abbrev rO(x:Al):List PV:=[.str (alC x),.sl 1 (A7 (YJ x)),.int .i64 (rK (Pb x)),.str (Iw (Pb x)),.int .i64 (rL (Pb x)),.sl 7 (Ex.cs (IU (Pb x))),.sl 10 (Pm.cs (HU (Pb x))),.sl 9 (Al.cs (Iy (Pb x))),.sl 9 (Tp.cs (LZ (Pb x)))]
theorem Ex.Tl(x:Ex):Ex.c x=Ka x:=by cases x; rfl
theorem Al.Tl(x:Al):Al.c x=rO x:=by cases x with | mk a0 a1 a2=>cases a2; rfl
theorem Ex.AD(l:List Ex):Ex.cs l=l.map (Ka):=by induction l with | nil=>rfl | cons x r ih=>simp [Ex.cs,ih,Ex.Tl]
theorem Ex.A0(l:List Ex):(Ex.cs l).length=l.length:=by simp [Ex.AD]
theorem Ex.B5{l:List Ex}{i:Nat}(h:i<l.length):(Ex.cs l).getD i []=Ka (l.getD i default):=by rw [Ex.AD]; simp [List.getD,h]
theorem Ex.A2(l:List Ex)(x:Ex):Ex.cs (l++[x])=Ex.cs l++[Ka x]:=by simp [Ex.AD]
theorem Al.AD(l:List Al):Al.cs l=l.map (rO):=by induction l with | nil=>rfl | cons x r ih=>simp [Al.cs,ih,Al.Tl]
theorem Al.A0(l:List Al):(Al.cs l).length=l.length:=by simp [Al.AD]
theorem Al.B5{l:List Al}{i:Nat}(h:i<l.length):(Al.cs l).getD i []=rO (l.getD i default):=by rw [Al.AD]; simp [List.getD,h]
abbrev Fo(x:Vr):List PV:=[.str (BP x),.str (Fe x)]
abbrev Oz(x:Vr):List LV:=[.v (.str (BP x)),.v (.str (Fe x))]
def Vr.cs:List Vr->List (List PV)
 | []=>[]
 | x::r=>Fo x::Vr.cs r
theorem Vr.AD(l:List Vr):Vr.cs l=l.map (Fo):=by induction l with | nil=>rfl | cons x r ih=>simp [Vr.cs,ih]
theorem Vr.A0(l:List Vr):(Vr.cs l).length=l.length:=by simp [Vr.AD]
theorem Vr.B5{l:List Vr}{i:Nat}(h:i<l.length):(Vr.cs l).getD i []=Fo (l.getD i default):=by rw [Vr.AD]; simp [List.getD,h]
theorem Vr.A2(l:List Vr)(x:Vr):Vr.cs (l++[x])=Vr.cs l++[Fo x]:=by simp [Vr.AD]
abbrev lF(x:Cn):List PV:=[.str (A1g x),.sl 1 (A7 (Wt x)),.sl 9 (Tp.cs (M0 x))]
def Cn.cs:List Cn->List (List PV)
 | []=>[]
 | x::r=>lF x::Cn.cs r
theorem Cn.AD(l:List Cn):Cn.cs l=l.map (lF):=by induction l with | nil=>rfl | cons x r ih=>simp [Cn.cs,ih]
theorem Cn.A0(l:List Cn):(Cn.cs l).length=l.length:=by simp [Cn.AD]
theorem Cn.B5{l:List Cn}{i:Nat}(h:i<l.length):(Cn.cs l).getD i []=lF (l.getD i default):=by rw [Cn.AD]; simp [List.getD,h]
abbrev Gn(x:Da):List PV:=[.str (AB x),.sl 1 (A7 (Ek x)),.sl 2 (Vr.cs (Dq x)),.sl 3 (Cn.cs (FP x))]
abbrev RP(x:Da):List LV:=[.v (.str (AB x)),.v (.sl 1 (A7 (Ek x))),.v (.sl 2 (Vr.cs (Dq x))),.v (.sl 3 (Cn.cs (FP x)))]
def Da.cs:List Da->List (List PV)
 | []=>[]
 | x::r=>Gn x::Da.cs r
theorem Da.AD(l:List Da):Da.cs l=l.map (Gn):=by induction l with | nil=>rfl | cons x r ih=>simp [Da.cs,ih]
theorem Da.A0(l:List Da):(Da.cs l).length=l.length:=by simp [Da.AD]
theorem Da.B5{l:List Da}{i:Nat}(h:i<l.length):(Da.cs l).getD i []=Gn (l.getD i default):=by rw [Da.AD]; simp [List.getD,h]
abbrev lG(x:Cl):List PV:=[.str (A1h x),.str (clW x),.sl 10 (Pm.cs (Hv x))]
def Cl.cs:List Cl->List (List PV)
 | []=>[]
 | x::r=>lG x::Cl.cs r
theorem Cl.AD(l:List Cl):Cl.cs l=l.map (lG):=by induction l with | nil=>rfl | cons x r ih=>simp [Cl.cs,ih]
theorem Cl.A0(l:List Cl):(Cl.cs l).length=l.length:=by simp [Cl.AD]
theorem Cl.B5{l:List Cl}{i:Nat}(h:i<l.length):(Cl.cs l).getD i []=lG (l.getD i default):=by rw [Cl.AD]; simp [List.getD,h]
abbrev lH(x:Bo):List PV:=[.str (A1i x),.sl 2 (Vr.cs (boW x)),.int .i64 (Ab (QI x)),.str (Aq (QI x)),.int .i64 (Ch (QI x)),.sl 4 (Pr.cs (As (QI x))),.int .i64 (Ab (QJ x)),.str (Aq (QJ x)),.int .i64 (Ch (QJ x)),.sl 4 (Pr.cs (As (QJ x)))]
def Bo.cs:List Bo->List (List PV)
 | []=>[]
 | x::r=>lH x::Bo.cs r
theorem Bo.AD(l:List Bo):Bo.cs l=l.map (lH):=by induction l with | nil=>rfl | cons x r ih=>simp [Bo.cs,ih]
theorem Bo.A0(l:List Bo):(Bo.cs l).length=l.length:=by simp [Bo.AD]
theorem Bo.B5{l:List Bo}{i:Nat}(h:i<l.length):(Bo.cs l).getD i []=lH (l.getD i default):=by rw [Bo.AD]; simp [List.getD,h]
abbrev Kb(x:Df):List PV:=[.str (CZ x),.sl 1 (A7 (Ez x)),.int .i64 (rK (Of x)),.str (Iw (Of x)),.int .i64 (rL (Of x)),.sl 7 (Ex.cs (IU (Of x))),.sl 10 (Pm.cs (HU (Of x))),.sl 9 (Al.cs (Iy (Of x))),.sl 9 (Tp.cs (LZ (Of x))),.int .i64 (Kv x),.bool (rM x),.sl 1 (A7 (I5 x)),.sl 2 (Vr.cs (Iz x)),.sl 2 (Vr.cs (IV x)),.sl 10 (Bo.cs (D6 x)),.int .i64 (AA (AN x)),.str (Af (AN x)),.sl 9 (Tp.cs (A8 (AN x))),.sl 1 (A7 (Aj (AN x))),.int .i64 (Ab (Br (AN x))),.str (Aq (Br (AN x))),.int .i64 (Ch (Br (AN x))),.sl 4 (Pr.cs (As (Br (AN x)))),.sl 4 (Pr.cs (Ak (AN x))),.sl 4 (Pr.cs (I6 x))]
abbrev dfV(x:Df):List LV:=[.v (.str (CZ x)),.v (.sl 1 (A7 (Ez x))),.v (.int .i64 (rK (Of x))),.v (.str (Iw (Of x))),.v (.int .i64 (rL (Of x))),.v (.sl 7 (Ex.cs (IU (Of x)))),.v (.sl 10 (Pm.cs (HU (Of x)))),.v (.sl 9 (Al.cs (Iy (Of x)))),.v (.sl 9 (Tp.cs (LZ (Of x)))),.v (.int .i64 (Kv x)),.v (.bool (rM x)),.v (.sl 1 (A7 (I5 x))),.v (.sl 2 (Vr.cs (Iz x))),.v (.sl 2 (Vr.cs (IV x))),.v (.sl 10 (Bo.cs (D6 x))),.v (.int .i64 (AA (AN x))),.v (.str (Af (AN x))),.v (.sl 9 (Tp.cs (A8 (AN x)))),.v (.sl 1 (A7 (Aj (AN x)))),.v (.int .i64 (Ab (Br (AN x)))),.v (.str (Aq (Br (AN x)))),.v (.int .i64 (Ch (Br (AN x)))),.v (.sl 4 (Pr.cs (As (Br (AN x))))),.v (.sl 4 (Pr.cs (Ak (AN x)))),.v (.sl 4 (Pr.cs (I6 x)))]
def Df.cs:List Df->List (List PV)
 | []=>[]
 | x::r=>Kb x::Df.cs r
theorem Df.AD(l:List Df):Df.cs l=l.map (Kb):=by induction l with | nil=>rfl | cons x r ih=>simp [Df.cs,ih]
theorem Df.A0(l:List Df):(Df.cs l).length=l.length:=by simp [Df.AD]
theorem Df.B5{l:List Df}{i:Nat}(h:i<l.length):(Df.cs l).getD i []=Kb (l.getD i default):=by rw [Df.AD]; simp [List.getD,h]
theorem Df.A2(l:List Df)(x:Df):Df.cs (l++[x])=Df.cs l++[Kb x]:=by simp [Df.AD]
abbrev lI(x:In):List PV:=[.str (A1j x),.int .i64 (AA (N8 x)),.str (Af (N8 x)),.sl 9 (Tp.cs (A8 (N8 x))),.sl 1 (A7 (Aj (N8 x))),.int .i64 (Ab (Br (N8 x))),.str (Aq (Br (N8 x))),.int .i64 (Ch (Br (N8 x))),.sl 4 (Pr.cs (As (Br (N8 x)))),.sl 4 (Pr.cs (Ak (N8 x))),.sl 2 (Vr.cs (YK x)),.sl 25 (Df.cs (Tk x))]
def In.cs:List In->List (List PV)
 | []=>[]
 | x::r=>lI x::In.cs r
theorem In.AD(l:List In):In.cs l=l.map (lI):=by induction l with | nil=>rfl | cons x r ih=>simp [In.cs,ih]
theorem In.A0(l:List In):(In.cs l).length=l.length:=by simp [In.AD]
theorem In.B5{l:List In}{i:Nat}(h:i<l.length):(In.cs l).getD i []=lI (l.getD i default):=by rw [In.AD]; simp [List.getD,h]
abbrev lJ(x:Cs):List PV:=[.str (csC x),.sl 1 (A7 (YL x)),.int .i64 (Ab (Og x)),.str (Aq (Og x)),.int .i64 (Ch (Og x)),.sl 4 (Pr.cs (As (Og x)))]
def Cs.cs:List Cs->List (List PV)
 | []=>[]
 | x::r=>lJ x::Cs.cs r
theorem Cs.AD(l:List Cs):Cs.cs l=l.map (lJ):=by induction l with | nil=>rfl | cons x r ih=>simp [Cs.cs,ih]
theorem Cs.A0(l:List Cs):(Cs.cs l).length=l.length:=by simp [Cs.AD]
theorem Cs.B5{l:List Cs}{i:Nat}(h:i<l.length):(Cs.cs l).getD i []=lJ (l.getD i default):=by rw [Cs.AD]; simp [List.getD,h]
abbrev eX(x:Ms):List PV:=[.str (N9 x),.str (YM x),.str (YN x),.sl 6 (Cs.cs (Hw x)),.int .i64 (Ab (Oh x)),.str (Aq (Oh x)),.int .i64 (Ch (Oh x)),.sl 4 (Pr.cs (As (Oh x)))]
def Ms.cs:List Ms->List (List PV)
 | []=>[]
 | x::r=>eX x::Ms.cs r
theorem Ms.AD(l:List Ms):Ms.cs l=l.map (eX):=by induction l with | nil=>rfl | cons x r ih=>simp [Ms.cs,ih]
theorem Ms.A0(l:List Ms):(Ms.cs l).length=l.length:=by simp [Ms.AD]
theorem Ms.B5{l:List Ms}{i:Nat}(h:i<l.length):(Ms.cs l).getD i []=eX (l.getD i default):=by rw [Ms.AD]; simp [List.getD,h]
abbrev lK(x:Qu):List PV:=[.str (A1k x),.sl 2 (Vr.cs (quW x)),.int .i64 (Ab (Up x)),.str (Aq (Up x)),.int .i64 (Ch (Up x)),.sl 4 (Pr.cs (As (Up x)))]
def Qu.cs:List Qu->List (List PV)
 | []=>[]
 | x::r=>lK x::Qu.cs r
theorem Qu.AD(l:List Qu):Qu.cs l=l.map (lK):=by induction l with | nil=>rfl | cons x r ih=>simp [Qu.cs,ih]
theorem Qu.A0(l:List Qu):(Qu.cs l).length=l.length:=by simp [Qu.AD]
theorem Qu.B5{l:List Qu}{i:Nat}(h:i<l.length):(Qu.cs l).getD i []=lK (l.getD i default):=by rw [Qu.AD]; simp [List.getD,h]
abbrev Ci(x:Mo):List PV:=[.sl 4 (Da.cs (Av x)),.sl 3 (Cl.cs (BW x)),.sl 12 (In.cs (CJ x)),.sl 8 (Ms.cs (Ba x)),.sl 6 (Qu.cs (Dh x)),.sl 25 (Df.cs (AY x))]
abbrev El(x:Mo):List LV:=[.v (.sl 4 (Da.cs (Av x))),.v (.sl 3 (Cl.cs (BW x))),.v (.sl 12 (In.cs (CJ x))),.v (.sl 8 (Ms.cs (Ba x))),.v (.sl 6 (Qu.cs (Dh x))),.v (.sl 25 (Df.cs (AY x)))]
abbrev Hx(x:Sy):List PV:=[.str (DT x),.sl 1 (A7 (Ca x)),.str (Lj x)]
abbrev rP(x:Sy):List LV:=[.v (.str (DT x)),.v (.sl 1 (A7 (Ca x))),.v (.str (Lj x))]
def Sy.cs:List Sy->List (List PV)
 | []=>[]
 | x::r=>Hx x::Sy.cs r
theorem Sy.AD(l:List Sy):Sy.cs l=l.map (Hx):=by induction l with | nil=>rfl | cons x r ih=>simp [Sy.cs,ih]
theorem Sy.A0(l:List Sy):(Sy.cs l).length=l.length:=by simp [Sy.AD]
theorem Sy.B5{l:List Sy}{i:Nat}(h:i<l.length):(Sy.cs l).getD i []=Hx (l.getD i default):=by rw [Sy.AD]; simp [List.getD,h]
theorem Sy.A2(l:List Sy)(x:Sy):Sy.cs (l++[x])=Sy.cs l++[Hx x]:=by simp [Sy.AD]
abbrev JV(x:Ho):List PV:=[.str (AP x),.sl 2 (Vr.cs (CV x))]
abbrev WX(x:Ho):List LV:=[.v (.str (AP x)),.v (.sl 2 (Vr.cs (CV x)))]
def Ho.cs:List Ho->List (List PV)
 | []=>[]
 | x::r=>JV x::Ho.cs r
theorem Ho.AD(l:List Ho):Ho.cs l=l.map (JV):=by induction l with | nil=>rfl | cons x r ih=>simp [Ho.cs,ih]
theorem Ho.A0(l:List Ho):(Ho.cs l).length=l.length:=by simp [Ho.AD]
theorem Ho.B5{l:List Ho}{i:Nat}(h:i<l.length):(Ho.cs l).getD i []=JV (l.getD i default):=by rw [Ho.AD]; simp [List.getD,h]
theorem Ho.A2(l:List Ho)(x:Ho):Ho.cs (l++[x])=Ho.cs l++[JV x]:=by simp [Ho.AD]
abbrev Bd(x:Nv):List PV:=[.sl 2 (Vr.cs (AS x)),.sl 3 (Sy.cs (By x)),.sl 2 (Ho.cs (AU x))]
abbrev CT(x:Nv):List LV:=[.v (.sl 2 (Vr.cs (AS x))),.v (.sl 3 (Sy.cs (By x))),.v (.sl 2 (Ho.cs (AU x)))]
theorem AH{α:Type} [Inhabited α] {l:List α} {i:Nat} (h:i<l.length):l.drop i=l.getD i default::l.drop (i+1):=by
 rw [List.drop_eq_getElem_cons h]
 simp [List.getD,h]
theorem CL{l:List BA}{i:Nat}(h:i<l.length):l.drop i=l.getD i Ah::l.drop (i+1):=by
 rw [List.drop_eq_getElem_cons h]
 simp [List.getD,h]
theorem LL{α:Type} [Inhabited α] {l:List α} {i:Nat} (h:i<l.length):(l.take (i+1)).reverse=l.getD i default::(l.take i).reverse:=by
 rw [List.take_succ_eq_append_getElem h,List.reverse_append]
 simp [List.getD,h]
theorem BF{α:Type} [Inhabited α] {l:List α} {i:Nat} (h:i<l.length):l.getD i default∈l:=by simp [List.getD,h]
set_option maxRecDepth 100000
theorem mixed:Tryz.prog.follows .mixedOrders=true:=by kernel_rfl
theorem pu{f:FuncId}{fn:Func}{args:List PV}(md:Md)(L:Ext->List (DX Tryz.prog)){r:Cr}(hf:Tryz.prog.funcs[f]?=some fn)(E5:(Fu Tryz.prog f&&Kt fn)=true:=by kernel_rfl)(h:∀e,Td Tryz.prog md 50 fn args e (Ss (L e)) = .ok (r,e) [] (eV (L e)):=by intro e; kernel_rfl):(Ob.Qa f args r).ok Tryz.prog:=Ob.qZ md 50 (fun e=>Ss (L e)) mixed hf E5 h fun e=>lD (L e)
theorem ef{f:FuncId}{fn:Func}{args:List PV}{e e':Ext}(md:Md)(L:List (DX Tryz.prog)){r:Cr}(hf:Tryz.prog.funcs[f]?=some fn)(E5:(Fu Tryz.prog f&&Kt fn)=true:=by kernel_rfl)(h:Td Tryz.prog md 50 fn args e (Ss L) = .ok (r,e') [] (eV L):=by kernel_rfl):(Ob.DO f args e r e').ok Tryz.prog:=Ob.r8 md 50 (Ss L) mixed hf E5 h (lD L)
theorem pw{cx:Cx}{c:Code}{s s':S}{pe:A5}{Q:A5->S->Prop}(md:Md)(n:Nat)(L:List (DX Tryz.prog))(ks bs:List Nat)(hn:cx.n=n)(hq:Q pe s')(hc:BS n c=true:=by kernel_rfl)(h:(DP Tryz.prog md n 50 c s (Ss L)).BN ks bs = .ok (pe,s') [] (eV L):=by kernel_rfl):PW Tryz.prog cx c s Q:=DK md n 50 (Ss L) ks bs mixed hn hc h (lD L) hq
abbrev Pu(f:FuncId)(a:List PV)(r:Cr):Prop:=(Ob.Qa f a r).ok Tryz.prog
abbrev Ef(f:FuncId)(a:List PV)(e:Ext)(r:Cr)(e':Ext):Prop:=(Ob.DO f a e r e').ok Tryz.prog
theorem Wq{a b:LV}(h:WL a b:=by first | exact .inl rfl | exact .inr ⟨rfl,rfl⟩ | exact .inr rfl | exact .inr trivial):WL a b:=h
theorem pm{f:FuncId}{fn:Func}{args:List PV}(md:Md)(L:List (DX Tryz.prog)){r:Cr}(hf:Tryz.prog.funcs[f]?=some fn)(E5:(Fu Tryz.prog f&&Kt fn)=true:=by kernel_rfl)(h:∀e,Td Tryz.prog md 50 fn args e (Ss L) = .ok (r,e) [] (eV L):=by intro e; kernel_rfl):(Ob.Qa f args r).ok Tryz.prog:=pu md (fun _=>L) hf E5 h
abbrev bM(n:UInt8):BA:=ByteArray.mk #[n]
theorem kr{a:PV}{l r:List PV}(h:DD l r):DD (a::l) (a::r):=DD.c (Wk.r _) h
theorem kn(n:Nat){l r:List PV}(h:DD l r):DD (.A4::l) (.sl n []::r):=DD.c (Wk.n n) h
def ksT(s:S):List Nat:=s.tmps.map (·.1)
def ksB(s:S):List Nat:=s.boxes.map (·.1)
def kQ(s:S):Bool:=Yz s.tmps []&&Yz s.boxes []
/-- A round of a loop over a list,as proofs give it. -/
def RB(n:Nat)(c:Code){β R:Type}(I:Int → β → S)(f:Nat → β → R)(q:R → A5 × S)(inv:Nat → β → Prop)(i:Nat)(b:β):Prop:=BS n c=true → ∀cx:Cx,cx.n=n → PW Tryz.prog cx c (I (i:Int) b) fun pe s'=>(pe = .normal ∧ ∃b',inv (i+1) b' ∧ Rq (I ((i:Int)+1) b') s' ∧ f i b=f (i+1) b')∨(pe ≠ .normal ∧ pe=(q (f i b)).1 ∧ Rq (q (f i b)).2 s')
theorem Ds{n:Nat}{c:Code}{β R:Type}(len:Nat)(I:Int → β → S)(f:Nat → β → R)(q:R → A5 × S)(inv:Nat → β → Prop)(hc:BS n c=true)(h:∀i b,i ≤ len → inv i b → RB n c I f q (fun i b=>i ≤ len ∧ inv i b) i b)(b:β)(h0:inv 0 b):(Ob.loop n c (I 0 b) (q (f 0 b)).1 (q (f 0 b)).2).ok Tryz.prog:=by
  refine Ob.Jg (P:=Tryz.prog) (α:={ zz:Nat × β // zz.1 ≤ len ∧ inv zz.1 zz.2 }) (fun zz=>I (zz.1.1:Int) zz.1.2) (fun zz=>len - zz.1.1) (fun zz=>q (f zz.1.1 zz.1.2)) ?_ ⟨(0,b),Nat.zero_le _,h0⟩
  rintro ⟨⟨i,b⟩,hi,hv⟩ cx Ar
  simp only at hi hv ⊢
  refine (h i b hi hv hc cx Ar).mono ?_
  rintro pe s' (⟨h1,b',h2,h3,h4⟩ | h5)
  · exact .inl ⟨h1,⟨(i+1,b'),h2⟩,by have:=h2.1; simp only; omega,h3,by simp only; rw [h4]⟩
  · exact .inr h5
section
variable {n:Nat} {c:Code} {β R:Type} {I:Int → β → S} {f:Nat → β → R} {q:R → A5 × S} {inv:Nat → β → Prop} {i:Nat} {b:β}
theorem lN{len:Nat}(md:Md)(L:List (DX Tryz.prog))(hi:i<len)(b':β)(hv:inv (i+1) b')(hf:f i b=f (i+1) b')(h:(DP Tryz.prog md n 50 c (I i b) (Ss L)).BN (ksT (I ((i:Int)+1) b')) (ksB (I ((i:Int)+1) b')) = .ok (.normal,I ((i:Int)+1) b') [] (eV L):=by kernel_rfl)(hk:kQ (I ((i:Int)+1) b')=true:=by kernel_rfl):RB n c I f q (fun i b=>i ≤ len ∧ inv i b) i b:=fun hc _ Ar=>
  DK md n 50 (Ss L) _ _ mixed Ar hc h (lD L) (.inl ⟨rfl,b',⟨hi,hv⟩,xq hk,hf⟩)
theorem lS{len:Nat}(md:Md)(L:List (DX Tryz.prog))(ks bs:List Nat)(hi:i<len)(b':β)(s':S)(hle:Rq (I ((i:Int)+1) b') s')(hv:inv (i+1) b')(hf:f i b=f (i+1) b')(h:(DP Tryz.prog md n 50 c (I i b) (Ss L)).BN ks bs = .ok (.normal,s') [] (eV L):=by kernel_rfl):RB n c I f q (fun i b=>i ≤ len ∧ inv i b) i b:=fun hc _ Ar=>
  DK md n 50 (Ss L) _ _ mixed Ar hc h (lD L) (.inl ⟨rfl,b',⟨hi,hv⟩,hle,hf⟩)
theorem lX{inv:Nat → β → Prop}(md:Md)(L:List (DX Tryz.prog))(r:R)(hr:f i b=r)(h:(DP Tryz.prog md n 50 c (I i b) (Ss L)).BN (ksT (q r).2) (ksB (q r).2) = .ok ((q r).1,(q r).2) [] (eV L):=by kernel_rfl)(hk:kQ (q r).2=true:=by kernel_rfl)(hp:(q r).1 ≠ .normal:=by intro hp; cases hp):RB n c I f q inv i b:=fun hc _ Ar=>
  DK md n 50 (Ss L) _ _ mixed Ar hc h (lD L) (.inr ⟨hp,by rw [hr],by rw [hr]; exact xq hk⟩)
theorem lY{inv:Nat → β → Prop}{pe:A5}(md:Md)(L:List (DX Tryz.prog))(ks bs:List Nat)(s':S)(r:R)(hr:f i b=r)(hle:Rq (q r).2 s')(he:pe=(q r).1)(hp:pe ≠ .normal)(h:(DP Tryz.prog md n 50 c (I i b) (Ss L)).BN ks bs = .ok (pe,s') [] (eV L):=by kernel_rfl):RB n c I f q inv i b:=fun hc _ Ar=>
  DK md n 50 (Ss L) ks bs mixed Ar hc h (lD L) (.inr ⟨hp,by rw [hr]; exact he,by rw [hr]; exact hle⟩)
end
theorem rz{n:Nat}{c:Code}{R:Type}{s:S}{q:R → A5 × S}{x y:R}(h:(Ob.loop n c s (q x).1 (q x).2).ok Tryz.prog)(e:x=y):(Ob.loop n c s (q y).1 (q y).2).ok Tryz.prog:=e ▸ h
section
variable {P:Program}
def F5(l:List ByteArray)(i:Nat)(h:i<l.length:=by omega):DX P:=ar ((A7 l).getD i []) [.str (l.getD i Ah)] (by rw [Cv h])
def xEx(l:List Ex)(i:Nat)(h:i<l.length:=by omega):DX P:=ar ((Ex.cs l).getD i []) (Ka (l.getD i default)) (by rw [Ex.B5 h])
def xAl(l:List Al)(i:Nat)(h:i<l.length:=by omega):DX P:=ar ((Al.cs l).getD i []) (rO (l.getD i default)) (by rw [Al.B5 h])
def xPm(l:List Pm)(i:Nat)(h:i<l.length:=by omega):DX P:=ar ((Pm.cs l).getD i []) (eW (l.getD i default)) (by rw [Pm.B5 h])
def OA(l:List Tp)(i:Nat)(h:i<l.length:=by omega):DX P:=ar ((Tp.cs l).getD i []) (Ay (l.getD i default)) (by rw [Tp.B5 h])
def WY(l:List Df)(i:Nat)(h:i<l.length:=by omega):DX P:=ar ((Df.cs l).getD i []) (Kb (l.getD i default)) (by rw [Df.B5 h])
def Wu(l:List Pr)(i:Nat)(h:i<l.length:=by omega):DX P:=ar ((Pr.cs l).getD i []) (AO (l.getD i default)) (by rw [Pr.B5 h])
def eY(l:List Vr)(i:Nat)(h:i<l.length:=by omega):DX P:=ar ((Vr.cs l).getD i []) (Fo (l.getD i default)) (by rw [Vr.B5 h])
def xCn(l:List Cn)(i:Nat)(h:i<l.length:=by omega):DX P:=ar ((Cn.cs l).getD i []) (lF (l.getD i default)) (by rw [Cn.B5 h])
def eZ(l:List Da)(i:Nat)(h:i<l.length:=by omega):DX P:=ar ((Da.cs l).getD i []) (Gn (l.getD i default)) (by rw [Da.B5 h])
def xCl(l:List Cl)(i:Nat)(h:i<l.length:=by omega):DX P:=ar ((Cl.cs l).getD i []) (lG (l.getD i default)) (by rw [Cl.B5 h])
def xBo(l:List Bo)(i:Nat)(h:i<l.length:=by omega):DX P:=ar ((Bo.cs l).getD i []) (lH (l.getD i default)) (by rw [Bo.B5 h])
def xIn(l:List In)(i:Nat)(h:i<l.length:=by omega):DX P:=ar ((In.cs l).getD i []) (lI (l.getD i default)) (by rw [In.B5 h])
def xCs(l:List Cs)(i:Nat)(h:i<l.length:=by omega):DX P:=ar ((Cs.cs l).getD i []) (lJ (l.getD i default)) (by rw [Cs.B5 h])
def lM(l:List Ms)(i:Nat)(h:i<l.length:=by omega):DX P:=ar ((Ms.cs l).getD i []) (eX (l.getD i default)) (by rw [Ms.B5 h])
def xQu(l:List Qu)(i:Nat)(h:i<l.length:=by omega):DX P:=ar ((Qu.cs l).getD i []) (lK (l.getD i default)) (by rw [Qu.B5 h])
def Wv(l:List Sy)(i:Nat)(h:i<l.length:=by omega):DX P:=ar ((Sy.cs l).getD i []) (Hx (l.getD i default)) (by rw [Sy.B5 h])
def xHo(l:List Ho)(i:Nat)(h:i<l.length:=by omega):DX P:=ar ((Ho.cs l).getD i []) (JV (l.getD i default)) (by rw [Ho.B5 h])
end
theorem Ww:∀p:PV,1<=CK p:=fun p=>by cases p <;> simp [CK]
theorem Cp(p:PV)(r:List PV):1<=A6 (p::r):=by have:=Ww p; simp only [A6]; omega
theorem CG:∀ {l:List (List PV)} {c:List PV},c∈l->A6 c<=Am l
 | x::r,c,h=>by
  simp only [Am]
  rcases List.mem_cons.1 h with rfl | h
  ·omega
  ·have:=CG h; omega
theorem CM:∀ {l:List (List PV)},(∀c∈l,1<=A6 c)->l.length<=Am l
 | [],_=>by simp
 | x::r,h=>by
  have h1:=h x List.mem_cons_self
  have h2:=CM fun c hc=>h c (List.mem_cons_of_mem _ hc)
  simp only [Am,List.length_cons]
  omega
theorem Na(l:List BA):l.length<=Am (A7 l):=by
 have:=CM (l:=A7 l) fun c hc=>by
  rw [I7] at hc
  obtain ⟨x,-,rfl⟩:=List.mem_map.1 hc
  exact Cp _ _
 rwa [A3] at this
theorem Pr.BT(l:List Pr):l.length<=Am (Pr.cs l):=by
 have:=CM (l:=Pr.cs l) fun c hc=>by
  rw [Pr.AD] at hc
  obtain ⟨x,-,rfl⟩:=List.mem_map.1 hc
  exact Cp _ _
 rwa [Pr.A0] at this
theorem Pr.mem{l:List Pr}{x:Pr}(h:x∈l):A6 (AO x)<=Am (Pr.cs l):=CG (by rw [Pr.AD]; exact List.mem_map_of_mem h)
theorem Tp.BT(l:List Tp):l.length<=Am (Tp.cs l):=by
 have:=CM (l:=Tp.cs l) fun c hc=>by
  rw [Tp.AD] at hc
  obtain ⟨x,-,rfl⟩:=List.mem_map.1 hc
  exact Cp _ _
 rwa [Tp.A0] at this
theorem Tp.mem{l:List Tp}{x:Tp}(h:x∈l):A6 (Ay x)<=Am (Tp.cs l):=CG (by rw [Tp.AD]; exact List.mem_map_of_mem h)
theorem Pm.BT(l:List Pm):l.length<=Am (Pm.cs l):=by
 have:=CM (l:=Pm.cs l) fun c hc=>by
  rw [Pm.AD] at hc
  obtain ⟨x,-,rfl⟩:=List.mem_map.1 hc
  exact Cp _ _
 rwa [Pm.A0] at this
theorem Pm.mem{l:List Pm}{x:Pm}(h:x∈l):A6 (eW x)<=Am (Pm.cs l):=CG (by rw [Pm.AD]; exact List.mem_map_of_mem h)
theorem Ex.BT(l:List Ex):l.length<=Am (Ex.cs l):=by
 have:=CM (l:=Ex.cs l) fun c hc=>by
  rw [Ex.AD] at hc
  obtain ⟨x,-,rfl⟩:=List.mem_map.1 hc
  exact Cp _ _
 rwa [Ex.A0] at this
theorem Ex.mem{l:List Ex}{x:Ex}(h:x∈l):A6 (Ka x)<=Am (Ex.cs l):=CG (by rw [Ex.AD]; exact List.mem_map_of_mem h)
theorem Al.BT(l:List Al):l.length<=Am (Al.cs l):=by
 have:=CM (l:=Al.cs l) fun c hc=>by
  rw [Al.AD] at hc
  obtain ⟨x,-,rfl⟩:=List.mem_map.1 hc
  exact Cp _ _
 rwa [Al.A0] at this
theorem Al.mem{l:List Al}{x:Al}(h:x∈l):A6 (rO x)<=Am (Al.cs l):=CG (by rw [Al.AD]; exact List.mem_map_of_mem h)
theorem Vr.BT(l:List Vr):l.length<=Am (Vr.cs l):=by
 have:=CM (l:=Vr.cs l) fun c hc=>by
  rw [Vr.AD] at hc
  obtain ⟨x,-,rfl⟩:=List.mem_map.1 hc
  exact Cp _ _
 rwa [Vr.A0] at this
theorem Cn.BT(l:List Cn):l.length<=Am (Cn.cs l):=by
 have:=CM (l:=Cn.cs l) fun c hc=>by
  rw [Cn.AD] at hc
  obtain ⟨x,-,rfl⟩:=List.mem_map.1 hc
  exact Cp _ _
 rwa [Cn.A0] at this
theorem Cn.mem{l:List Cn}{x:Cn}(h:x∈l):A6 (lF x)<=Am (Cn.cs l):=CG (by rw [Cn.AD]; exact List.mem_map_of_mem h)
theorem Da.BT(l:List Da):l.length<=Am (Da.cs l):=by
 have:=CM (l:=Da.cs l) fun c hc=>by
  rw [Da.AD] at hc
  obtain ⟨x,-,rfl⟩:=List.mem_map.1 hc
  exact Cp _ _
 rwa [Da.A0] at this
theorem Da.mem{l:List Da}{x:Da}(h:x∈l):A6 (Gn x)<=Am (Da.cs l):=CG (by rw [Da.AD]; exact List.mem_map_of_mem h)
theorem Cl.mem{l:List Cl}{x:Cl}(h:x∈l):A6 (lG x)<=Am (Cl.cs l):=CG (by rw [Cl.AD]; exact List.mem_map_of_mem h)
theorem Bo.BT(l:List Bo):l.length<=Am (Bo.cs l):=by
 have:=CM (l:=Bo.cs l) fun c hc=>by
  rw [Bo.AD] at hc
  obtain ⟨x,-,rfl⟩:=List.mem_map.1 hc
  exact Cp _ _
 rwa [Bo.A0] at this
theorem Bo.mem{l:List Bo}{x:Bo}(h:x∈l):A6 (lH x)<=Am (Bo.cs l):=CG (by rw [Bo.AD]; exact List.mem_map_of_mem h)
theorem Df.BT(l:List Df):l.length<=Am (Df.cs l):=by
 have:=CM (l:=Df.cs l) fun c hc=>by
  rw [Df.AD] at hc
  obtain ⟨x,-,rfl⟩:=List.mem_map.1 hc
  exact Cp _ _
 rwa [Df.A0] at this
theorem Df.mem{l:List Df}{x:Df}(h:x∈l):A6 (Kb x)<=Am (Df.cs l):=CG (by rw [Df.AD]; exact List.mem_map_of_mem h)
theorem In.mem{l:List In}{x:In}(h:x∈l):A6 (lI x)<=Am (In.cs l):=CG (by rw [In.AD]; exact List.mem_map_of_mem h)
theorem Cs.BT(l:List Cs):l.length<=Am (Cs.cs l):=by
 have:=CM (l:=Cs.cs l) fun c hc=>by
  rw [Cs.AD] at hc
  obtain ⟨x,-,rfl⟩:=List.mem_map.1 hc
  exact Cp _ _
 rwa [Cs.A0] at this
theorem Cs.mem{l:List Cs}{x:Cs}(h:x∈l):A6 (lJ x)<=Am (Cs.cs l):=CG (by rw [Cs.AD]; exact List.mem_map_of_mem h)
theorem Ms.BT(l:List Ms):l.length<=Am (Ms.cs l):=by
 have:=CM (l:=Ms.cs l) fun c hc=>by
  rw [Ms.AD] at hc
  obtain ⟨x,-,rfl⟩:=List.mem_map.1 hc
  exact Cp _ _
 rwa [Ms.A0] at this
theorem Ms.mem{l:List Ms}{x:Ms}(h:x∈l):A6 (eX x)<=Am (Ms.cs l):=CG (by rw [Ms.AD]; exact List.mem_map_of_mem h)
theorem Qu.mem{l:List Qu}{x:Qu}(h:x∈l):A6 (lK x)<=Am (Qu.cs l):=CG (by rw [Qu.AD]; exact List.mem_map_of_mem h)
theorem Sy.BT(l:List Sy):l.length<=Am (Sy.cs l):=by
 have:=CM (l:=Sy.cs l) fun c hc=>by
  rw [Sy.AD] at hc
  obtain ⟨x,-,rfl⟩:=List.mem_map.1 hc
  exact Cp _ _
 rwa [Sy.A0] at this
theorem Sy.mem{l:List Sy}{x:Sy}(h:x∈l):A6 (Hx x)<=Am (Sy.cs l):=CG (by rw [Sy.AD]; exact List.mem_map_of_mem h)
theorem Ho.BT(l:List Ho):l.length<=Am (Ho.cs l):=by
 have:=CM (l:=Ho.cs l) fun c hc=>by
  rw [Ho.AD] at hc
  obtain ⟨x,-,rfl⟩:=List.mem_map.1 hc
  exact Cp _ _
 rwa [Ho.A0] at this
theorem Ho.mem{l:List Ho}{x:Ho}(h:x∈l):A6 (JV x)<=Am (Ho.cs l):=CG (by rw [Ho.AD]; exact List.mem_map_of_mem h)
section
variable {P:Program} {n:Nat} {t:TypeId} {cs:List PV}
theorem Cm(hu:P.underlying t=some .string)(h:Ty P n t cs):∃s,cs=[.str s]:=by
 cases n with
 | zero=>exact h.elim
 | succ n=>simp only [Ty,hu] at h; obtain ⟨s,rfl,-⟩:=h; exact ⟨s,rfl⟩
theorem Ll{k:IntKind}(hu:P.underlying t=some (.int k))(h:Ty P n t cs):∃v,cs=[.int k v]/\(Lit.int k v).wf=true:=by
 cases n with
 | zero=>exact h.elim
 | succ n=>simp only [Ty,hu] at h; exact h
theorem iD(hu:P.underlying t=some .bool)(h:Ty P n t cs):∃b,cs=[.bool b]:=by
 cases n with
 | zero=>exact h.elim
 | succ n=>simp only [Ty,hu] at h; exact h
theorem BB{fs:Array Field}(hu:P.underlying t=some (.struct fs))(h:Ty P n t cs):∃m,m<n/\TyF (Ty P m) fs.toList cs:=by
 cases n with
 | zero=>exact h.elim
 | succ n=>simp only [Ty,hu] at h; exact ⟨n,by omega,h⟩
theorem YO{q:TypeId}(hu:P.underlying t=some (.slice q))(h:Ty P n t cs):∃m es,m<n/\cs=[.sl (P.cellsOf q) es]/\∀x∈es,Ty P m q x:=by
 cases n with
 | zero=>exact h.elim
 | succ n=>simp only [Ty,hu] at h; obtain ⟨es,h1,-,h2⟩:=h; exact ⟨n,es,by omega,h1,h2⟩
theorem YP{α:Type}{mk:α->List PV}:∀ {es:List (List PV)},(∀x∈es,∃a,x=mk a)->∃l:List α,es=l.map mk
 | [],_=>⟨[],rfl⟩
 | x::r,h=>by
  obtain ⟨a,rfl⟩:=h x sM
  obtain ⟨l,rfl⟩:=YP (es:=r) fun y hy=>h y (List.mem_cons_of_mem _ hy)
  exact ⟨a::l,rfl⟩
theorem BC{α:Type}{mk:α->List PV}{C:List α->List (List PV)}(hC:∀l,C l=l.map mk){q:TypeId}(hu:P.underlying t=some (.slice q)){z:Nat}(hz:P.cellsOf q=z)(h:Ty P n t cs)(he:∀m x,m<n->Ty P m q x->∃a,x=mk a):∃l,cs=[.sl z (C l)]:=by
 obtain ⟨m,es,hm,rfl,h2⟩:=YO hu h
 obtain ⟨l,rfl⟩:=YP fun x hx=>he m x hm (h2 x hx)
 exact ⟨l,by rw [hC,hz]⟩
end
section
variable {n:Nat} {cs:List PV}
theorem JW(h:Ty prog n 37 cs):∃l,cs=[.sl 1 (A7 l)]:=
 BC (mk:=fun s=>[.str s]) I7 Tryz.underlying37 kR h fun m x _ hx=>Cm Tryz.underlying9 hx
theorem rQ(h:Ty prog n 75 cs):∃l,cs=[.sl 1 (A7 l)]:=
 BC (mk:=fun s=>[.str s]) I7 Tryz.underlying75 kR h fun m x _ hx=>Cm Tryz.underlying74 hx
theorem LM:∀ (n:Nat) (cs:List PV),Ty prog n 41 cs->∃x:Pr,cs=AO x:=by
 intro n
 induction n using Nat.strongRecOn with
 | _ n ih=>
  intro cs h
  obtain ⟨m,hm,h⟩:=BB Tryz.underlying41 h
  obtain ⟨c1,r1,rfl,h1,c2,r2,rfl,h2,c3,r3,rfl,h3,c4,r4,rfl,h4,rfl⟩:=h
  obtain ⟨vO,rfl,-⟩:=Ll Tryz.underlying38 h1
  obtain ⟨JX,rfl⟩:=Cm Tryz.underlying9 h2
  obtain ⟨vN,rfl,-⟩:=Ll Tryz.underlying3 h3
  obtain ⟨vK,rfl⟩:=BC (z:=4) Pr.AD Tryz.underlying39 kR h4 fun m' x EM hx=>ih m' oM x hx
  exact ⟨.mk vO JX vN vK,by simp only [Ab,Aq,Ch,As,AO,List.cons_append,List.nil_append,List.append_nil]⟩
theorem Nb:∀ (n:Nat) (cs:List PV),Ty prog n 43 cs->∃x:Tp,cs=Ay x:=by
 intro n
 induction n using Nat.strongRecOn with
 | _ n ih=>
  intro cs h
  obtain ⟨m,hm,h⟩:=BB Tryz.underlying43 h
  obtain ⟨c1,r1,rfl,h1,c2,r2,rfl,h2,c3,r3,rfl,h3,c4,r4,rfl,h4,c5,r5,rfl,h5,c6,r6,rfl,h6,rfl⟩:=h
  obtain ⟨vO,rfl,-⟩:=Ll Tryz.underlying35 h1
  obtain ⟨JX,rfl⟩:=Cm Tryz.underlying9 h2
  obtain ⟨vA,rfl⟩:=BC (z:=9) Tp.AD Tryz.underlying36 kR h3 fun m' x EM hx=>ih m' oM x hx
  obtain ⟨vNs,rfl⟩:=JW h4
  obtain ⟨vP,rfl⟩:=LM _ _ h5
  obtain ⟨vPs,rfl⟩:=BC (z:=4) Pr.AD Tryz.underlying39 kR h6 fun m' x EM hx=>LM _ _ hx
  exact ⟨.mk vO JX vA vNs vP vPs,by simp only [AA,Af,A8,Aj,Br,Ak,Ay,Ab,Aq,Ch,As,AO,List.cons_append,List.nil_append,List.append_nil]⟩
theorem A1l(h:Ty prog n 140 cs):∃x:Pm,cs=eW x:=by
 obtain ⟨m,hm,h⟩:=BB Tryz.underlying140 h
 obtain ⟨c1,r1,rfl,h1,c2,r2,rfl,h2,rfl⟩:=h
 obtain ⟨JX,rfl⟩:=Cm Tryz.underlying9 h1
 obtain ⟨vT,rfl⟩:=Nb _ _ h2
 exact ⟨.mk JX vT,by simp only [YI,H8,eW,AA,Af,A8,Aj,Br,Ak,Ay,Ab,Aq,Ch,As,AO,List.cons_append,List.nil_append,List.append_nil]⟩
theorem RQ(h:Ty prog n 89 cs):∃x:Pm,cs=eW x:=by
 obtain ⟨m,hm,h⟩:=BB Tryz.underlying89 h
 obtain ⟨c1,r1,rfl,h1,c2,r2,rfl,h2,rfl⟩:=h
 obtain ⟨JX,rfl⟩:=Cm Tryz.underlying9 h1
 obtain ⟨vT,rfl⟩:=Nb _ _ h2
 exact ⟨.mk JX vT,by simp only [YI,H8,eW,AA,Af,A8,Aj,Br,Ak,Ay,Ab,Aq,Ch,As,AO,List.cons_append,List.nil_append,List.append_nil]⟩
theorem A1m:∀ (n:Nat) (cs:List PV),Ty prog n 63 cs->∃x:Ex,cs=Ka x:=by
 intro n
 induction n using Nat.strongRecOn with
 | _ n ih=>
  intro cs h
  obtain ⟨m,hm,h⟩:=BB Tryz.underlying63 h
  obtain ⟨c1,r1,rfl,h1,c2,r2,rfl,h2,c3,r3,rfl,h3,c4,r4,rfl,h4,c5,r5,rfl,h5,c6,r6,rfl,h6,c7,r7,rfl,h7,rfl⟩:=h
  obtain ⟨vO,rfl,-⟩:=Ll Tryz.underlying58 h1
  obtain ⟨JX,rfl⟩:=Cm Tryz.underlying9 h2
  obtain ⟨vN,rfl,-⟩:=Ll Tryz.underlying3 h3
  obtain ⟨vK,rfl⟩:=BC (z:=7) Ex.AD Tryz.underlying59 kR h4 fun m' x EM hx=>ih m' oM x hx
  obtain ⟨vP,rfl⟩:=BC (z:=10) Pm.AD Tryz.underlying60 kR h5 fun m' x EM hx=>A1l hx
  obtain ⟨vA,rfl⟩:=BC (z:=9) Al.AD Tryz.underlying61 kR h6 fun m' x EM hx=>by
   obtain ⟨m2,hm2,hx⟩:=BB Tryz.underlying142 hx
   obtain ⟨d1,r1,rfl,k1,d2,r2,rfl,k2,d3,r3,rfl,k3,rfl⟩:=hx
   obtain ⟨s,rfl⟩:=Cm Tryz.underlying9 k1
   obtain ⟨ns,rfl⟩:=JW k2
   obtain ⟨b,rfl⟩:=ih m2 oM _ k3
   exact ⟨.mk s ns b,by simp only [rO,alC,YJ,Pb,List.cons_append,List.nil_append,List.append_nil]⟩
  obtain ⟨vT,rfl⟩:=BC (z:=9) Tp.AD Tryz.underlying36 kR h7 fun m' x EM hx=>Nb _ _ hx
  exact ⟨.mk vO JX vN vK vP vA vT,by simp only [rK,Iw,rL,IU,HU,Iy,LZ,Ka,List.cons_append,List.nil_append,List.append_nil]⟩
theorem RR(h:Ty prog n 104 cs):∃x:Vr,cs=Fo x:=by
 obtain ⟨m,hm,h⟩:=BB Tryz.underlying104 h
 obtain ⟨c1,r1,rfl,h1,c2,r2,rfl,h2,rfl⟩:=h
 obtain ⟨JX,rfl⟩:=Cm Tryz.underlying9 h1
 obtain ⟨vS,rfl⟩:=Cm Tryz.underlying74 h2
 exact ⟨.mk JX vS,by simp only [BP,Fe,Fo,List.cons_append,List.nil_append,List.append_nil]⟩
theorem Pc(h:Ty prog n 303 cs):∃x:Vr,cs=Fo x:=by
 obtain ⟨m,hm,h⟩:=BB Tryz.underlying303 h
 obtain ⟨c1,r1,rfl,h1,c2,r2,rfl,h2,rfl⟩:=h
 obtain ⟨a,rfl⟩:=Cm Tryz.underlying9 h1
 obtain ⟨b,rfl⟩:=Cm Tryz.underlying9 h2
 exact ⟨.mk a b,by simp only [BP,Fe,Fo,List.cons_append,List.nil_append,List.append_nil]⟩
theorem YQ(h:Ty prog n 113 cs):∃x:Vr,cs=Fo x:=by
 obtain ⟨m,hm,h⟩:=BB Tryz.underlying113 h
 obtain ⟨c1,r1,rfl,h1,c2,r2,rfl,h2,rfl⟩:=h
 obtain ⟨a,rfl⟩:=Cm Tryz.underlying9 h1
 obtain ⟨b,rfl⟩:=Cm Tryz.underlying74 h2
 exact ⟨.mk a b,by simp only [BP,Fe,Fo,List.cons_append,List.nil_append,List.append_nil]⟩
theorem A1n(h:Ty prog n 83 cs):∃x:Cn,cs=lF x:=by
 obtain ⟨m,hm,h⟩:=BB Tryz.underlying83 h
 obtain ⟨c1,r1,rfl,h1,c2,r2,rfl,h2,c3,r3,rfl,h3,rfl⟩:=h
 obtain ⟨JX,rfl⟩:=Cm Tryz.underlying9 h1
 obtain ⟨vNs,rfl⟩:=JW h2
 obtain ⟨vF,rfl⟩:=BC (z:=9) Tp.AD Tryz.underlying36 kR h3 fun m' x EM hx=>Nb _ _ hx
 exact ⟨.mk JX vNs vF,by simp only [A1g,Wt,M0,lF,List.cons_append,List.nil_append,List.append_nil]⟩
theorem A1o(h:Ty prog n 81 cs):∃x:Da,cs=Gn x:=by
 obtain ⟨m,hm,h⟩:=BB Tryz.underlying81 h
 obtain ⟨c1,r1,rfl,h1,c2,r2,rfl,h2,c3,r3,rfl,h3,c4,r4,rfl,h4,rfl⟩:=h
 obtain ⟨JX,rfl⟩:=Cm Tryz.underlying9 h1
 obtain ⟨vVs,rfl⟩:=JW h2
 obtain ⟨vP,rfl⟩:=BC (z:=2) Vr.AD Tryz.underlying22 kR h3 fun m' x EM hx=>RR hx
 obtain ⟨vC,rfl⟩:=BC (z:=3) Cn.AD Tryz.underlying79 kR h4 fun m' x EM hx=>A1n hx
 exact ⟨.mk JX vVs vP vC,by simp only [AB,Ek,Dq,FP,Gn,List.cons_append,List.nil_append,List.append_nil]⟩
theorem A1p(h:Ty prog n 87 cs):∃x:Cl,cs=lG x:=by
 obtain ⟨m,hm,h⟩:=BB Tryz.underlying87 h
 obtain ⟨c1,r1,rfl,h1,c2,r2,rfl,h2,c3,r3,rfl,h3,rfl⟩:=h
 obtain ⟨JX,rfl⟩:=Cm Tryz.underlying9 h1
 obtain ⟨vW,rfl⟩:=Cm Tryz.underlying9 h2
 obtain ⟨vM,rfl⟩:=BC (z:=10) Pm.AD Tryz.underlying85 kR h3 fun m' x EM hx=>RQ hx
 exact ⟨.mk JX vW vM,by simp only [A1h,clW,Hv,lG,List.cons_append,List.nil_append,List.append_nil]⟩
theorem A1q(h:Ty prog n 120 cs):∃x:Bo,cs=lH x:=by
 obtain ⟨m,hm,h⟩:=BB Tryz.underlying120 h
 obtain ⟨c1,r1,rfl,h1,c2,r2,rfl,h2,c3,r3,rfl,h3,c4,r4,rfl,h4,rfl⟩:=h
 obtain ⟨JX,rfl⟩:=Cm Tryz.underlying9 h1
 obtain ⟨vW,rfl⟩:=BC (z:=2) Vr.AD Tryz.underlying22 kR h2 fun m' x EM hx=>RR hx
 obtain ⟨vH,rfl⟩:=LM _ _ h3
 obtain ⟨vG,rfl⟩:=LM _ _ h4
 exact ⟨.mk JX vW vH vG,by simp only [A1i,boW,QI,QJ,lH,Ab,Aq,Ch,As,AO,List.cons_append,List.nil_append,List.append_nil]⟩
theorem lO(h:Ty prog n 66 cs):∃x:Df,cs=Kb x:=by
 obtain ⟨m,hm,h⟩:=BB Tryz.underlying66 h
 obtain ⟨c1,r1,rfl,h1,c2,r2,rfl,h2,c3,r3,rfl,h3,c4,r4,rfl,h4,c5,r5,rfl,h5,c6,r6,rfl,h6,rfl⟩:=h
 obtain ⟨JX,rfl⟩:=Cm Tryz.underlying9 h1
 obtain ⟨vP,rfl⟩:=JW h2
 obtain ⟨vB,rfl⟩:=A1m _ _ h3
 obtain ⟨vM,rfl,-⟩:=Ll Tryz.underlying64 h4
 obtain ⟨vTy,rfl⟩:=iD Tryz.underlying4 h5
 obtain ⟨m2,hm2,h6⟩:=BB Tryz.underlying57 h6
 obtain ⟨d1,q1,rfl,k1,d2,q2,rfl,k2,d3,q3,rfl,k3,d4,q4,rfl,k4,d5,q5,rfl,k5,d6,q6,rfl,k6,rfl⟩:=h6
 obtain ⟨vVs,rfl⟩:=JW k1
 obtain ⟨vNe,rfl⟩:=BC (z:=2) Vr.AD Tryz.underlying53 kR k2 fun m' x EM hx=>Pc hx
 obtain ⟨vAb,rfl⟩:=BC (z:=2) Vr.AD Tryz.underlying54 kR k3 fun m' x EM hx=>YQ hx
 obtain ⟨vBo,rfl⟩:=BC (z:=10) Bo.AD Tryz.underlying55 kR k4 fun m' x EM hx=>A1q hx
 obtain ⟨vT,rfl⟩:=Nb _ _ k5
 obtain ⟨vMe,rfl⟩:=BC (z:=4) Pr.AD Tryz.underlying39 kR k6 fun m' x EM hx=>LM _ _ hx
 exact ⟨.mk JX vP vB vM vTy vVs vNe vAb vBo vT vMe,by simp only [CZ,Ez,Of,Kv,rM,I5,Iz,IV,D6,AN,I6,Kb,rK,Iw,rL,IU,HU,Iy,LZ,Ka,AA,Af,A8,Aj,Br,Ak,Ay,Ab,Aq,Ch,As,AO,List.cons_append,List.nil_append,List.append_nil]⟩
theorem A1r(h:Ty prog n 91 cs):∃x:In,cs=lI x:=by
 obtain ⟨m,hm,h⟩:=BB Tryz.underlying91 h
 obtain ⟨c1,r1,rfl,h1,c2,r2,rfl,h2,c3,r3,rfl,h3,c4,r4,rfl,h4,rfl⟩:=h
 obtain ⟨JX,rfl⟩:=Cm Tryz.underlying9 h1
 obtain ⟨vT,rfl⟩:=Nb _ _ h2
 obtain ⟨vNe,rfl⟩:=BC (z:=2) Vr.AD Tryz.underlying53 kR h3 fun m' x EM hx=>Pc hx
 obtain ⟨vD,rfl⟩:=BC (z:=25) Df.AD Tryz.underlying32 kR h4 fun m' x EM hx=>lO hx
 exact ⟨.mk JX vT vNe vD,by simp only [A1j,N8,YK,Tk,lI,AA,Af,A8,Aj,Br,Ak,Ay,Ab,Aq,Ch,As,AO,List.cons_append,List.nil_append,List.append_nil]⟩
theorem A1s(h:Ty prog n 97 cs):∃x:Cs,cs=lJ x:=by
 obtain ⟨m,hm,h⟩:=BB Tryz.underlying97 h
 obtain ⟨c1,r1,rfl,h1,c2,r2,rfl,h2,c3,r3,rfl,h3,rfl⟩:=h
 obtain ⟨vC,rfl⟩:=Cm Tryz.underlying9 h1
 obtain ⟨vNs,rfl⟩:=JW h2
 obtain ⟨vB,rfl⟩:=LM _ _ h3
 exact ⟨.mk vC vNs vB,by simp only [csC,YL,Og,lJ,Ab,Aq,Ch,As,AO,List.cons_append,List.nil_append,List.append_nil]⟩
theorem A1t(h:Ty prog n 95 cs):∃x:Ms,cs=eX x:=by
 obtain ⟨m,hm,h⟩:=BB Tryz.underlying95 h
 obtain ⟨c1,r1,rfl,h1,c2,r2,rfl,h2,c3,r3,rfl,h3,c4,r4,rfl,h4,c5,r5,rfl,h5,rfl⟩:=h
 obtain ⟨JX,rfl⟩:=Cm Tryz.underlying9 h1
 obtain ⟨vD,rfl⟩:=Cm Tryz.underlying9 h2
 obtain ⟨vR,rfl⟩:=Cm Tryz.underlying74 h3
 obtain ⟨vC,rfl⟩:=BC (z:=6) Cs.AD Tryz.underlying93 kR h4 fun m' x EM hx=>A1s hx
 obtain ⟨vI,rfl⟩:=LM _ _ h5
 exact ⟨.mk JX vD vR vC vI,by simp only [N9,YM,YN,Hw,Oh,eX,Ab,Aq,Ch,As,AO,List.cons_append,List.nil_append,List.append_nil]⟩
theorem A1u(h:Ty prog n 99 cs):∃x:Qu,cs=lK x:=by
 obtain ⟨m,hm,h⟩:=BB Tryz.underlying99 h
 obtain ⟨c1,r1,rfl,h1,c2,r2,rfl,h2,c3,r3,rfl,h3,rfl⟩:=h
 obtain ⟨JX,rfl⟩:=Cm Tryz.underlying9 h1
 obtain ⟨vW,rfl⟩:=BC (z:=2) Vr.AD Tryz.underlying22 kR h2 fun m' x EM hx=>RR hx
 obtain ⟨vB,rfl⟩:=LM _ _ h3
 exact ⟨.mk JX vW vB,by simp only [A1k,quW,Up,lK,Ab,Aq,Ch,As,AO,List.cons_append,List.nil_append,List.append_nil]⟩
theorem A1v(h:Ty prog n 34 cs):∃x:Mo,cs=Ci x:=by
 obtain ⟨m,hm,h⟩:=BB Tryz.underlying34 h
 obtain ⟨c1,r1,rfl,h1,c2,r2,rfl,h2,c3,r3,rfl,h3,c4,r4,rfl,h4,c5,r5,rfl,h5,c6,r6,rfl,h6,rfl⟩:=h
 obtain ⟨vD,rfl⟩:=BC (z:=4) Da.AD Tryz.underlying27 kR h1 fun m' x EM hx=>A1o hx
 obtain ⟨vC,rfl⟩:=BC (z:=3) Cl.AD Tryz.underlying28 kR h2 fun m' x EM hx=>A1p hx
 obtain ⟨vI,rfl⟩:=BC (z:=12) In.AD Tryz.underlying29 kR h3 fun m' x EM hx=>A1r hx
 obtain ⟨vM,rfl⟩:=BC (z:=8) Ms.AD Tryz.underlying30 kR h4 fun m' x EM hx=>A1t hx
 obtain ⟨vQ,rfl⟩:=BC (z:=6) Qu.AD Tryz.underlying31 kR h5 fun m' x EM hx=>A1u hx
 obtain ⟨vF,rfl⟩:=BC (z:=25) Df.AD Tryz.underlying32 kR h6 fun m' x EM hx=>lO hx
 exact ⟨.mk vD vC vI vM vQ vF,by simp only [Av,BW,CJ,Ba,Dh,AY,Ci,List.cons_append,List.nil_append,List.append_nil]⟩
theorem A1w(h:Ty prog n 77 cs):∃x:Sy,cs=Hx x:=by
 obtain ⟨m,hm,h⟩:=BB Tryz.underlying77 h
 obtain ⟨c1,r1,rfl,h1,c2,r2,rfl,h2,c3,r3,rfl,h3,rfl⟩:=h
 obtain ⟨JX,rfl⟩:=Cm Tryz.underlying9 h1
 obtain ⟨vA,rfl⟩:=rQ h2
 obtain ⟨vR,rfl⟩:=Cm Tryz.underlying74 h3
 exact ⟨.mk JX vA vR,by simp only [DT,Ca,Lj,Hx,List.cons_append,List.nil_append,List.append_nil]⟩
theorem A1x(h:Ty prog n 184 cs):∃x:Ho,cs=JV x:=by
 obtain ⟨m,hm,h⟩:=BB Tryz.underlying184 h
 obtain ⟨c1,r1,rfl,h1,c2,r2,rfl,h2,rfl⟩:=h
 obtain ⟨JX,rfl⟩:=Cm Tryz.underlying9 h1
 obtain ⟨vP,rfl⟩:=BC (z:=2) Vr.AD Tryz.underlying22 kR h2 fun m' x EM hx=>RR hx
 exact ⟨.mk JX vP,by simp only [AP,CV,JV,List.cons_append,List.nil_append,List.append_nil]⟩
theorem A1y(h:Ty prog n 26 cs):∃x:Nv,cs=Bd x:=by
 obtain ⟨m,hm,h⟩:=BB Tryz.underlying26 h
 obtain ⟨c1,r1,rfl,h1,c2,r2,rfl,h2,c3,r3,rfl,h3,rfl⟩:=h
 obtain ⟨vW,rfl⟩:=BC (z:=2) Vr.AD Tryz.underlying22 kR h1 fun m' x EM hx=>RR hx
 obtain ⟨vS,rfl⟩:=BC (z:=3) Sy.AD Tryz.underlying23 kR h2 fun m' x EM hx=>A1w hx
 obtain ⟨vH,rfl⟩:=BC (z:=2) Ho.AD Tryz.underlying24 kR h3 fun m' x EM hx=>A1x hx
 exact ⟨.mk vW vS vH,by simp only [AS,By,AU,Bd,List.cons_append,List.nil_append,List.append_nil]⟩
end
open Go.ChangeShapes Go.WideShapes Go.ChangeAt Go.RowKit
theorem own:ownKnob prog.godebug=none:=by kernel_rfl
theorem laidOut:laidOutB prog=true:=by kernel_rfl
def rR(P:Program)(t:TypeId):List TypeId:=match P.underlying t with
 | some (.slice e)=>[e]
 | some (.struct fs)=>fs.toList.map fun f=>f.type
 | _=>[]
def Aa8(l:List TypeId)(x:TypeId):List TypeId:=if l.contains x then l else l++[x]
def YS(P:Program):Nat->List TypeId->List TypeId
 | 0,l=>l
 | n+1,l=>YS P n ((l.map (rR P)).flatten.foldl Aa8 l)
mutual
theorem Kw{H:Type}:∀d:DataW H,E0 d=Rows.uptoBulk d
 | .lit q=>by cases q <;> rfl
 | .nil=>rfl
 | .ptr d=>by rw [E0,Rows.uptoBulk,Kw d]
 | .slice a b=>by rw [E0,Rows.uptoBulk,Kx a,Kx b]
 | .agg a=>by rw [E0,Rows.uptoBulk,Kx a]
 | .iface _ d=>by rw [E0,Rows.uptoBulk,Kw d]
 | .map es=>by rw [E0,Rows.uptoBulk,RS es]
 | .held _=>rfl
theorem Kx{H:Type}:∀l:List (DataW H),DR l=Rows.uptoBulkAll l
 | []=>rfl
 | d::r=>by rw [DR,Rows.uptoBulkAll,Kw d,Kx r]
theorem RS{H:Type}:∀l:List (Lit × DataW H),Ql l=Rows.uptoBulkEntries l
 | []=>rfl
 | x::r=>by rw [Ql,Rows.uptoBulkEntries,YT x,RS r]
theorem YT{H:Type}:∀x:Lit × DataW H,Ti x=Rows.uptoBulkEntry x
 | (q,d)=>by cases q <;> simp only [Ti,Rows.uptoBulkEntry,Kw d]
end
theorem Uq{H:Type}:∀ {a b:List (DataW H)},DR a<=Rows.uptoBulkAll (a++b)
 | [],b=>Nat.zero_le _
 | d::a,b=>by
  have:=Uq (a:=a) (b:=b)
  rw [List.cons_append,DR,Rows.uptoBulkAll,Kw d]
  omega
theorem YU{H:Type}{a b:List (DataW H)}(hk:Rows.uptoSmall H (a++b)=true):DR a<=1048576:=by
 have h:Rows.uptoBulkAll (a++b)<=1048576:=of_decide_eq_true hk
 have:=Uq (a:=a) (b:=b)
 omega
def kwZ:List (List UInt8):=[[97,110,100],[97,115,115,117,109,101],[98,111,111,108],[98,111,117,110,100],[99,97,115,101],[99,101,108,108],[99,108,97,115,115],[100,97,116,97],[100,101,102],[100,105,118],[101,108,115,101],[101,110,100],[102,97,108,115,101],[102,111,114,97,108,108],[102,117,110],[103,101,116],[105,102],[105,110],[105,110,115,116],[105,110,116],[105,110,118,97,114,105,97,110,116],[108,101,116],[109,97,116,99,104],[109,101,97,115,117,114,101],[109,101,116,114,105,99],[109,111,100],[109,117],[110,101,119],[110,111,116],[111,102],[111,114],[113,117,97,108],[114,101,102,108,101,99,116],[115,101,116],[116,104,101,110],[116,114,117,101],[117,115,101],[118],[118,97,108],[116,97,103],[119,104,101,114,101],[119,105,116,104]]
theorem Aa9:prog.globalNamed "liquidcheck/names.keywords" = some 0:=by kernel_rfl
theorem YV:(prog.globals[0]?).map (·.type)=some 258:=by kernel_rfl
theorem YW:prog.cellsOf 258=42:=by kernel_rfl
theorem YX:prog.cellsOf 9=1:=by kernel_rfl
theorem Aaa {W:World} (h:laidMetH prog [("liquidcheck/names.keywords",Rows.laid_liquidcheck_names_keywords)] W):X4 g0 W:=
 Wp (g:=0) (zs:=kwZ) rfl (Oy (zs:=kwZ) (rest:=[]) Aa9 YV Tryz.underlying258 Tryz.underlying9 YX YW h)
noncomputable def Lm (os:Os):World:=
 { World.holding prog os ⟨#[],#[],[]⟩ with heap:=(World.holding prog os ⟨#[],#[],[]⟩).heap.modify 0 fun
   | .cells _ t frozen => .cells (kwZ.map fun z=>Value.string ⟨z.toArray⟩).toArray t frozen
   | o=>o }
def Ad:Md:=⟨fun _=>some false,fun _=>false⟩
def ix{α:Type}(f:α->BA)(name:BA):List α->Nat
 | []=>0
 | c::r=>if f c=name then 0 else ix f name r+1
abbrev iE(m:Mo)(name:BA)(j:Int)(e:Ext):S:=S.mk [(1,vS name),(4,.lp 4 0),(5,.v (.bool false)),(9,vL 4 (Da.cs (Av m))),(10,A1 ((Av m).length:Int)),(11,A1 j)] [(4,[vS Ah,.v .A4,.v .A4,.v .A4])] e
inductive Ky where
 | e0 (el:Da)
 | e1
def JY(name:BA):List Da->Ky
 | []=>(Ky.e1)
 | el::r=>(if AB el=name then (Ky.e0 el) else JY name r)
def Tm(m:Mo)(name:BA)(e:Ext):Ky->A5 × S
 | .e0 el=>(.ret,S.mk [(1,vS name),(4,.lp 4 0),(5,.v (.bool true)),(9,vL 4 (Da.cs (Av m))),(10,A1 ((Av m).length:Int))] [(4,RP el)] e)
 | .e1=>(.exit 0,S.mk [(1,vS name),(4,.lp 4 0),(5,.v (.bool false)),(9,vL 4 (Da.cs (Av m))),(10,A1 ((Av m).length:Int))] [(4,[vS Ah,.v .A4,.v .A4,.v .A4])] e)
theorem lP(m:Mo)(name:BA)(e:Ext)(hN:(Av m).length<=1000000000):(Ob.loop 22 (Ai f72 0) (iE m name 0  e) (Tm m name e (JY name (List.drop 0 ((Av m))))).1 (Tm m name e (JY name (List.drop 0 ((Av m))))).2).ok prog:=by
 refine Ds ((Av m).length) (fun j _=>iE m name j  e) (fun i _=>JY name (List.drop i ((Av m)))) (Tm m name e) (fun i _=>True) kR ?_ () trivial
 rintro i u hi -
 rcases Nat.lt_or_ge i ((Av m).length) with Ag | CO
 ·have hd:=AH Ag
  by_cases h0:AB (List.getD (Av m) i default)=name
  ·exact lX Ad [dt ((i:Int)<((Av m).length:Int)),am ((0:Int)<=(i:Int)/\(i:Int)<((Da.cs (Av m)).length:Int)) (by (simp only [Da.A0]; omega)),eZ (Av m) i Ag,bt (ByteArray.toList (AB (List.getD (Av m) i default))==ByteArray.toList name) (BL h0)] (Ky.e0 (List.getD ((Av m)) i default)) (by rw [hd,JY,iP h0])
  ·exact lN Ad [dt ((i:Int)<((Av m).length:Int)),am ((0:Int)<=(i:Int)/\(i:Int)<((Da.cs (Av m)).length:Int)) (by (simp only [Da.A0]; omega)),eZ (Av m) i Ag,bf (ByteArray.toList (AB (List.getD (Av m) i default))==ByteArray.toList name) (BZ h0),wr ((i:Int)+1)] Ag () trivial (by rw [hd,JY,iN h0])
 ·have he:i=(Av m).length:=by omega
  exact lX Ad [df ((i:Int)<((Av m).length:Int))] (Ky.e1) (by rw [he,List.drop_length,JY])
theorem Aab(m:Mo)(name:BA)(e:Ext)(hN:(Av m).length<=1000000000)(p0:Da)(At:(JY name ((Av m)))=(Ky.e0 p0)):(Ob.loop 22 (Ai f72 0) (iE m name 0  e) (Tm m name e (Ky.e0 p0)).1 (Tm m name e (Ky.e0 p0)).2).ok prog:=
 rz (lP m name e hN) At
theorem Aac(m:Mo)(name:BA)(e:Ext)(hN:(Av m).length<=1000000000)(At:(JY name ((Av m)))=(Ky.e1)):(Ob.loop 22 (Ai f72 0) (iE m name 0  e) (Tm m name e (Ky.e1)).1 (Tm m name e (Ky.e1)).2).ok prog:=
 rz (lP m name e hN) At
theorem rS(name:BA):∀l:List Da,JY name l=if ix AB name l<l.length then .e0 (l.getD (ix AB name l) default) else .e1
 | []=>by simp [JY,ix]
 | c::r=>by
  by_cases h:AB c=name
  ·simp [JY,ix,h]
  ·simp only [JY,ix,h,if_false,rS name r,List.length_cons,Nat.add_lt_add_iff_right,List.getD_cons_succ]
theorem A1z(m:Mo)(name:BA)(Ct:(Av m).length<=1048576)(Dc:Da)(Ae:JY name (Av m)=Ky.e0 Dc):Pu 72 [.agg (Ci m),.str name] (.ret (.AE [.agg (Gn Dc),.bool true])):=
 pu Ad (fun e=>[sl (Da.A0 (Av m)),lp (S.mk [(0,.v (.agg (Ci m))),(1,vS name),(2,.lp 2 0),(4,.lp 4 0),(5,.v (.bool false)),(8,.lp 2 0),(9,vL 4 (Da.cs (Av m))),(10,A1 ((Av m).length:Int)),(11,A1 0)] [(2,El m),(4,[vS Ah,.v .A4,.v .A4,.v .A4])] e) (@Aab (m) (name) (e) oM Dc Ae) xr]) func72
theorem A20(m:Mo)(name:BA)(Ct:(Av m).length<=1048576)(Ac:JY name (Av m)=Ky.e1):Pu 72 [.agg (Ci m),.str name] (.ret (.AE [.agg [.str Ah,.sl 1 [],.sl 2 [],.sl 3 []],.bool false])):=
 Ob.Ed (Wk.t (DD.c (Wk.a (kr (kn 1 (kn 2 (kn 3 (DD.r _)))))) (DD.r _))) (pu Ad (fun e=>[sl (Da.A0 (Av m)),lp (S.mk [(0,.v (.agg (Ci m))),(1,vS name),(2,.lp 2 0),(4,.lp 4 0),(5,.v (.bool false)),(8,.lp 2 0),(9,vL 4 (Da.cs (Av m))),(10,A1 ((Av m).length:Int)),(11,A1 0)] [(2,El m),(4,[vS Ah,.v .A4,.v .A4,.v .A4])] e) (@Aac (m) (name) (e) oM Ac) xr]) func72)
theorem dAT(m:Mo)(name:BA)(Ct:(Av m).length<=1048576)(hx:ix AB name (Av m)<(Av m).length):Pu 72 [.agg (Ci m),.str name] (.ret (.AE [.agg (Gn ((Av m).getD (ix AB name (Av m)) default)),.bool true])):=
 A1z m name Ct _ (by rw [rS,iP hx])
theorem dAF(m:Mo)(name:BA)(Ct:(Av m).length<=1048576)(hx:¬ix AB name (Av m)<(Av m).length):Pu 72 [.agg (Ci m),.str name] (.ret (.AE [.agg (Gn default),.bool false])):=
 A20 m name Ct (by rw [rS,iN hx])
end Go.Proofs.YthchpmnkecoafaaGreatDoor
