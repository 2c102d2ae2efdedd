/- Values of Go as plain data, an evaluator over them, and what the functions of the program return; part Ya. -/
import Derived.Test.YtidabncghfbdaaaGreatDoorXe
import Derived.Test.YtidabncghfbdaaaGreatDoorXh
import Derived.Test.YtidabncghfbdaaaGreatDoorProg
import Derived.KernelRfl
import Derived.Test.YtidabncghfbdaaaGreatDoorRows
import Derived.JoinedCond
import Derived.Deep.DeepHandedRow
import Derived.Lib.LaidTab
set_option linter.unusedSectionVars false
set_option linter.unusedSimpArgs false
set_option linter.unusedVariables false
namespace Go.Proofs.YtidabncghfbdaaaGreatDoor
open Go.Proofs.Tryz
open Go.Pv Go.Proofs.Tryz
abbrev nm0:BA:=ByteArray.mk #[]
inductive Pr where
 | mk (xO:Int) (xNm:BA) (xN:Int) (xK:List Pr)
instance:Inhabited Pr:=⟨.mk 0 nm0 0 []⟩
def prO:Pr->Int | .mk x _ _ _=>x
def prNm:Pr->BA | .mk _ x _ _=>x
def prN:Pr->Int | .mk _ _ x _=>x
def prK:Pr->List Pr | .mk _ _ _ x=>x
inductive Tp where
 | mk (xO:Int) (xNm:BA) (xA:List Tp) (xNs:List BA) (xP:Pr) (xPs:List Pr)
instance:Inhabited Tp:=⟨.mk 0 nm0 [] [] default []⟩
def tpO:Tp->Int | .mk x _ _ _ _ _=>x
def tpNm:Tp->BA | .mk _ x _ _ _ _=>x
def tpA:Tp->List Tp | .mk _ _ x _ _ _=>x
def tpNs:Tp->List BA | .mk _ _ _ x _ _=>x
def tpP:Tp->Pr | .mk _ _ _ _ x _=>x
def tpPs:Tp->List Pr | .mk _ _ _ _ _ x=>x
inductive Pm where
 | mk (xNm:BA) (xT:Tp)
instance:Inhabited Pm:=⟨.mk nm0 default⟩
def pmNm:Pm->BA | .mk x _=>x
def pmT:Pm->Tp | .mk _ x=>x
mutual
inductive Ex where
 | mk (xO:Int) (xNm:BA) (xN:Int) (xK:List Ex) (xP:List Pm) (xA:List Al) (xT:List Tp)
inductive Al where
 | mk (xC:BA) (xNs:List BA) (xB:Ex)
end
instance:Inhabited Ex:=⟨.mk 0 nm0 0 [] [] [] []⟩
instance:Inhabited Al:=⟨.mk nm0 [] default⟩
def exO:Ex->Int | .mk x _ _ _ _ _ _=>x
def exNm:Ex->BA | .mk _ x _ _ _ _ _=>x
def exN:Ex->Int | .mk _ _ x _ _ _ _=>x
def exK:Ex->List Ex | .mk _ _ _ x _ _ _=>x
def exP:Ex->List Pm | .mk _ _ _ _ x _ _=>x
def exA:Ex->List Al | .mk _ _ _ _ _ x _=>x
def exT:Ex->List Tp | .mk _ _ _ _ _ _ x=>x
def alC:Al->BA | .mk x _ _=>x
def alNs:Al->List BA | .mk _ x _=>x
def alB:Al->Ex | .mk _ _ x=>x
inductive Vr where
 | mk (xNm:BA) (xS:BA)
instance:Inhabited Vr:=⟨.mk nm0 nm0⟩
def vrNm:Vr->BA | .mk x _=>x
def vrS:Vr->BA | .mk _ x=>x
inductive Cn where
 | mk (xNm:BA) (xNs:List BA) (xF:List Tp)
instance:Inhabited Cn:=⟨.mk nm0 [] []⟩
def cnNm:Cn->BA | .mk x _ _=>x
def cnNs:Cn->List BA | .mk _ x _=>x
def cnF:Cn->List Tp | .mk _ _ x=>x
inductive Da where
 | mk (xNm:BA) (xVs:List BA) (xP:List Vr) (xC:List Cn)
instance:Inhabited Da:=⟨.mk nm0 [] [] []⟩
def daNm:Da->BA | .mk x _ _ _=>x
def daVs:Da->List BA | .mk _ x _ _=>x
def daP:Da->List Vr | .mk _ _ x _=>x
def daC:Da->List Cn | .mk _ _ _ x=>x
inductive Cl where
 | mk (xNm:BA) (xW:BA) (xM:List Pm)
instance:Inhabited Cl:=⟨.mk nm0 nm0 []⟩
def clNm:Cl->BA | .mk x _ _=>x
def clW:Cl->BA | .mk _ x _=>x
def clM:Cl->List Pm | .mk _ _ x=>x
inductive Bo where
 | mk (xNm:BA) (xW:List Vr) (xH:Pr) (xG:Pr)
instance:Inhabited Bo:=⟨.mk nm0 [] default default⟩
def boNm:Bo->BA | .mk x _ _ _=>x
def boW:Bo->List Vr | .mk _ x _ _=>x
def boH:Bo->Pr | .mk _ _ x _=>x
def boG:Bo->Pr | .mk _ _ _ x=>x
inductive Df where
 | mk (xNm:BA) (xP:List BA) (xB:Ex) (xM:Int) (xTy:Bool) (xVs:List BA) (xNe:List Vr) (xAb:List Vr) (xBo:List Bo) (xT:Tp) (xMe:List Pr)
instance:Inhabited Df:=⟨.mk nm0 [] default 0 false [] [] [] [] default []⟩
def dfNm:Df->BA | .mk x _ _ _ _ _ _ _ _ _ _=>x
def dfP:Df->List BA | .mk _ x _ _ _ _ _ _ _ _ _=>x
def dfB:Df->Ex | .mk _ _ x _ _ _ _ _ _ _ _=>x
def dfM:Df->Int | .mk _ _ _ x _ _ _ _ _ _ _=>x
def dfTy:Df->Bool | .mk _ _ _ _ x _ _ _ _ _ _=>x
def dfVs:Df->List BA | .mk _ _ _ _ _ x _ _ _ _ _=>x
def dfNe:Df->List Vr | .mk _ _ _ _ _ _ x _ _ _ _=>x
def dfAb:Df->List Vr | .mk _ _ _ _ _ _ _ x _ _ _=>x
def dfBo:Df->List Bo | .mk _ _ _ _ _ _ _ _ x _ _=>x
def dfT:Df->Tp | .mk _ _ _ _ _ _ _ _ _ x _=>x
def dfMe:Df->List Pr | .mk _ _ _ _ _ _ _ _ _ _ x=>x
inductive In where
 | mk (xNm:BA) (xT:Tp) (xNe:List Vr) (xD:List Df)
instance:Inhabited In:=⟨.mk nm0 default [] []⟩
def inNm:In->BA | .mk x _ _ _=>x
def inT:In->Tp | .mk _ x _ _=>x
def inNe:In->List Vr | .mk _ _ x _=>x
def inD:In->List Df | .mk _ _ _ x=>x
inductive Cs where
 | mk (xC:BA) (xNs:List BA) (xB:Pr)
instance:Inhabited Cs:=⟨.mk nm0 [] default⟩
def csC:Cs->BA | .mk x _ _=>x
def csNs:Cs->List BA | .mk _ x _=>x
def csB:Cs->Pr | .mk _ _ x=>x
inductive Ms where
 | mk (xNm:BA) (xD:BA) (xR:BA) (xC:List Cs) (xI:Pr)
instance:Inhabited Ms:=⟨.mk nm0 nm0 nm0 [] default⟩
def msNm:Ms->BA | .mk x _ _ _ _=>x
def msD:Ms->BA | .mk _ x _ _ _=>x
def msR:Ms->BA | .mk _ _ x _ _=>x
def msC:Ms->List Cs | .mk _ _ _ x _=>x
def msI:Ms->Pr | .mk _ _ _ _ x=>x
inductive Qu where
 | mk (xNm:BA) (xW:List Vr) (xB:Pr)
instance:Inhabited Qu:=⟨.mk nm0 [] default⟩
def quNm:Qu->BA | .mk x _ _=>x
def quW:Qu->List Vr | .mk _ x _=>x
def quB:Qu->Pr | .mk _ _ x=>x
inductive Mo where
 | mk (xD:List Da) (xC:List Cl) (xI:List In) (xM:List Ms) (xQ:List Qu) (xF:List Df)
instance:Inhabited Mo:=⟨.mk [] [] [] [] [] []⟩
def moD:Mo->List Da | .mk x _ _ _ _ _=>x
def moC:Mo->List Cl | .mk _ x _ _ _ _=>x
def moI:Mo->List In | .mk _ _ x _ _ _=>x
def moM:Mo->List Ms | .mk _ _ _ x _ _=>x
def moQ:Mo->List Qu | .mk _ _ _ _ x _=>x
def moF:Mo->List Df | .mk _ _ _ _ _ x=>x
def nmsC:List BA->List (List PV)
 | []=>[]
 | s::r=>[.str s]::nmsC r
theorem nmsC_eq(l:List BA):nmsC l=l.map (fun s=>[.str s]):=by induction l with | nil=>rfl | cons x r ih=>simp [nmsC,ih]
theorem nmsC_len(l:List BA):(nmsC l).length=l.length:=by simp [nmsC_eq]
theorem nmsC_at{l:List BA}{i:Nat}(h:i<l.length):(nmsC l).getD i []=[.str (l.getD i nm0)]:=by rw [nmsC_eq]; simp [List.getD,h]
theorem nmsC_app(a b:List BA):nmsC (a++b)=nmsC a++nmsC b:=by simp [nmsC_eq]
theorem nmsC_snoc(l:List BA)(x:BA):nmsC (l++[x])=nmsC l++[[.str x]]:=by simp [nmsC_eq]
mutual
def Pr.c:Pr->List PV
 | .mk xO xNm xN xK=>[.int .i64 xO,.str xNm,.int .i64 xN,.sl 4 (Pr.cs xK)]
def Pr.cs:List Pr->List (List PV)
 | []=>[]
 | x::r=>Pr.c x::Pr.cs r
end
abbrev prL(x:Pr):List PV:=[.int .i64 (prO x),.str (prNm x),.int .i64 (prN x),.sl 4 (Pr.cs (prK x))]
abbrev prV(x:Pr):List LV:=[.v (.int .i64 (prO x)),.v (.str (prNm x)),.v (.int .i64 (prN x)),.v (.sl 4 (Pr.cs (prK x)))]
theorem Pr.c_eq(x:Pr):Pr.c x=prL x:=by cases x; rfl
theorem Pr.cs_eq(l:List Pr):Pr.cs l=l.map (prL):=by induction l with | nil=>rfl | cons x r ih=>simp [Pr.cs,ih,Pr.c_eq]
theorem Pr.cs_len(l:List Pr):(Pr.cs l).length=l.length:=by simp [Pr.cs_eq]
theorem Pr.cs_at{l:List Pr}{i:Nat}(h:i<l.length):(Pr.cs l).getD i []=prL (l.getD i default):=by rw [Pr.cs_eq]; simp [List.getD,h]
theorem Pr.cs_snoc(l:List Pr)(x:Pr):Pr.cs (l++[x])=Pr.cs l++[prL x]:=by simp [Pr.cs_eq]
mutual
def Tp.c:Tp->List PV
 | .mk xO xNm xA xNs xP xPs=>[.int .i64 xO,.str xNm,.sl 9 (Tp.cs xA),.sl 1 (nmsC xNs),.int .i64 (prO xP),.str (prNm xP),.int .i64 (prN xP),.sl 4 (Pr.cs (prK xP)),.sl 4 (Pr.cs xPs)]
def Tp.cs:List Tp->List (List PV)
 | []=>[]
 | x::r=>Tp.c x::Tp.cs r
end
abbrev tpL(x:Tp):List PV:=[.int .i64 (tpO x),.str (tpNm x),.sl 9 (Tp.cs (tpA x)),.sl 1 (nmsC (tpNs x)),.int .i64 (prO (tpP x)),.str (prNm (tpP x)),.int .i64 (prN (tpP x)),.sl 4 (Pr.cs (prK (tpP x))),.sl 4 (Pr.cs (tpPs x))]
abbrev tpV(x:Tp):List LV:=[.v (.int .i64 (tpO x)),.v (.str (tpNm x)),.v (.sl 9 (Tp.cs (tpA x))),.v (.sl 1 (nmsC (tpNs x))),.v (.int .i64 (prO (tpP x))),.v (.str (prNm (tpP x))),.v (.int .i64 (prN (tpP x))),.v (.sl 4 (Pr.cs (prK (tpP x)))),.v (.sl 4 (Pr.cs (tpPs x)))]
theorem Tp.c_eq(x:Tp):Tp.c x=tpL x:=by cases x; rfl
theorem Tp.cs_eq(l:List Tp):Tp.cs l=l.map (tpL):=by induction l with | nil=>rfl | cons x r ih=>simp [Tp.cs,ih,Tp.c_eq]
theorem Tp.cs_len(l:List Tp):(Tp.cs l).length=l.length:=by simp [Tp.cs_eq]
theorem Tp.cs_at{l:List Tp}{i:Nat}(h:i<l.length):(Tp.cs l).getD i []=tpL (l.getD i default):=by rw [Tp.cs_eq]; simp [List.getD,h]
theorem Tp.cs_snoc(l:List Tp)(x:Tp):Tp.cs (l++[x])=Tp.cs l++[tpL x]:=by simp [Tp.cs_eq]
abbrev pmL(x:Pm):List PV:=[.str (pmNm x),.int .i64 (tpO (pmT x)),.str (tpNm (pmT x)),.sl 9 (Tp.cs (tpA (pmT x))),.sl 1 (nmsC (tpNs (pmT x))),.int .i64 (prO (tpP (pmT x))),.str (prNm (tpP (pmT x))),.int .i64 (prN (tpP (pmT x))),.sl 4 (Pr.cs (prK (tpP (pmT x)))),.sl 4 (Pr.cs (tpPs (pmT x)))]
def Pm.cs:List Pm->List (List PV)
 | []=>[]
 | x::r=>pmL x::Pm.cs r
theorem Pm.cs_eq(l:List Pm):Pm.cs l=l.map (pmL):=by induction l with | nil=>rfl | cons x r ih=>simp [Pm.cs,ih]
theorem Pm.cs_len(l:List Pm):(Pm.cs l).length=l.length:=by simp [Pm.cs_eq]
theorem Pm.cs_at{l:List Pm}{i:Nat}(h:i<l.length):(Pm.cs l).getD i []=pmL (l.getD i default):=by rw [Pm.cs_eq]; simp [List.getD,h]
mutual
def Ex.c:Ex->List PV
 | .mk xO xNm xN xK xP xA xT=>[.int .i64 xO,.str xNm,.int .i64 xN,.sl 7 (Ex.cs xK),.sl 10 (Pm.cs xP),.sl 9 (Al.cs xA),.sl 9 (Tp.cs xT)]
def Ex.cs:List Ex->List (List PV)
 | []=>[]
 | x::r=>Ex.c x::Ex.cs r
def Al.c:Al->List PV
 | .mk xC xNs xB => .str xC :: .sl 1 (nmsC xNs)::Ex.c xB
def Al.cs:List Al->List (List PV)
 | []=>[]
 | x::r=>Al.c x::Al.cs r
end
abbrev exL(x:Ex):List PV:=[.int .i64 (exO x),.str (exNm x),.int .i64 (exN x),.sl 7 (Ex.cs (exK x)),.sl 10 (Pm.cs (exP x)),.sl 9 (Al.cs (exA x)),.sl 9 (Tp.cs (exT x))]
abbrev exV(x:Ex):List LV:=[.v (.int .i64 (exO x)),.v (.str (exNm x)),.v (.int .i64 (exN x)),.v (.sl 7 (Ex.cs (exK x))),.v (.sl 10 (Pm.cs (exP x))),.v (.sl 9 (Al.cs (exA x))),.v (.sl 9 (Tp.cs (exT x)))]
abbrev alL(x:Al):List PV:=[.str (alC x),.sl 1 (nmsC (alNs x)),.int .i64 (exO (alB x)),.str (exNm (alB x)),.int .i64 (exN (alB x)),.sl 7 (Ex.cs (exK (alB x))),.sl 10 (Pm.cs (exP (alB x))),.sl 9 (Al.cs (exA (alB x))),.sl 9 (Tp.cs (exT (alB x)))]
theorem Ex.c_eq(x:Ex):Ex.c x=exL x:=by cases x; rfl
theorem Al.c_eq(x:Al):Al.c x=alL x:=by cases x with | mk a0 a1 a2=>cases a2; rfl
theorem Ex.cs_eq(l:List Ex):Ex.cs l=l.map (exL):=by induction l with | nil=>rfl | cons x r ih=>simp [Ex.cs,ih,Ex.c_eq]
theorem Ex.cs_len(l:List Ex):(Ex.cs l).length=l.length:=by simp [Ex.cs_eq]
theorem Ex.cs_at{l:List Ex}{i:Nat}(h:i<l.length):(Ex.cs l).getD i []=exL (l.getD i default):=by rw [Ex.cs_eq]; simp [List.getD,h]
theorem Ex.cs_snoc(l:List Ex)(x:Ex):Ex.cs (l++[x])=Ex.cs l++[exL x]:=by simp [Ex.cs_eq]
theorem Al.cs_eq(l:List Al):Al.cs l=l.map (alL):=by induction l with | nil=>rfl | cons x r ih=>simp [Al.cs,ih,Al.c_eq]
theorem Al.cs_len(l:List Al):(Al.cs l).length=l.length:=by simp [Al.cs_eq]
theorem Al.cs_at{l:List Al}{i:Nat}(h:i<l.length):(Al.cs l).getD i []=alL (l.getD i default):=by rw [Al.cs_eq]; simp [List.getD,h]
abbrev vrL(x:Vr):List PV:=[.str (vrNm x),.str (vrS x)]
def Vr.cs:List Vr->List (List PV)
 | []=>[]
 | x::r=>vrL x::Vr.cs r
theorem Vr.cs_eq(l:List Vr):Vr.cs l=l.map (vrL):=by induction l with | nil=>rfl | cons x r ih=>simp [Vr.cs,ih]
theorem Vr.cs_len(l:List Vr):(Vr.cs l).length=l.length:=by simp [Vr.cs_eq]
theorem Vr.cs_snoc(l:List Vr)(x:Vr):Vr.cs (l++[x])=Vr.cs l++[vrL x]:=by simp [Vr.cs_eq]
abbrev cnL(x:Cn):List PV:=[.str (cnNm x),.sl 1 (nmsC (cnNs x)),.sl 9 (Tp.cs (cnF x))]
def Cn.cs:List Cn->List (List PV)
 | []=>[]
 | x::r=>cnL x::Cn.cs r
theorem Cn.cs_eq(l:List Cn):Cn.cs l=l.map (cnL):=by induction l with | nil=>rfl | cons x r ih=>simp [Cn.cs,ih]
theorem Cn.cs_len(l:List Cn):(Cn.cs l).length=l.length:=by simp [Cn.cs_eq]
abbrev daL(x:Da):List PV:=[.str (daNm x),.sl 1 (nmsC (daVs x)),.sl 2 (Vr.cs (daP x)),.sl 3 (Cn.cs (daC x))]
def Da.cs:List Da->List (List PV)
 | []=>[]
 | x::r=>daL x::Da.cs r
theorem Da.cs_eq(l:List Da):Da.cs l=l.map (daL):=by induction l with | nil=>rfl | cons x r ih=>simp [Da.cs,ih]
theorem Da.cs_len(l:List Da):(Da.cs l).length=l.length:=by simp [Da.cs_eq]
abbrev clL(x:Cl):List PV:=[.str (clNm x),.str (clW x),.sl 10 (Pm.cs (clM x))]
def Cl.cs:List Cl->List (List PV)
 | []=>[]
 | x::r=>clL x::Cl.cs r
theorem Cl.cs_eq(l:List Cl):Cl.cs l=l.map (clL):=by induction l with | nil=>rfl | cons x r ih=>simp [Cl.cs,ih]
theorem Cl.cs_len(l:List Cl):(Cl.cs l).length=l.length:=by simp [Cl.cs_eq]
abbrev boL(x:Bo):List PV:=[.str (boNm x),.sl 2 (Vr.cs (boW x)),.int .i64 (prO (boH x)),.str (prNm (boH x)),.int .i64 (prN (boH x)),.sl 4 (Pr.cs (prK (boH x))),.int .i64 (prO (boG x)),.str (prNm (boG x)),.int .i64 (prN (boG x)),.sl 4 (Pr.cs (prK (boG x)))]
def Bo.cs:List Bo->List (List PV)
 | []=>[]
 | x::r=>boL x::Bo.cs r
theorem Bo.cs_eq(l:List Bo):Bo.cs l=l.map (boL):=by induction l with | nil=>rfl | cons x r ih=>simp [Bo.cs,ih]
theorem Bo.cs_len(l:List Bo):(Bo.cs l).length=l.length:=by simp [Bo.cs_eq]
abbrev dfL(x:Df):List PV:=[.str (dfNm x),.sl 1 (nmsC (dfP x)),.int .i64 (exO (dfB x)),.str (exNm (dfB x)),.int .i64 (exN (dfB x)),.sl 7 (Ex.cs (exK (dfB x))),.sl 10 (Pm.cs (exP (dfB x))),.sl 9 (Al.cs (exA (dfB x))),.sl 9 (Tp.cs (exT (dfB x))),.int .i64 (dfM x),.bool (dfTy x),.sl 1 (nmsC (dfVs x)),.sl 2 (Vr.cs (dfNe x)),.sl 2 (Vr.cs (dfAb x)),.sl 10 (Bo.cs (dfBo x)),.int .i64 (tpO (dfT x)),.str (tpNm (dfT x)),.sl 9 (Tp.cs (tpA (dfT x))),.sl 1 (nmsC (tpNs (dfT x))),.int .i64 (prO (tpP (dfT x))),.str (prNm (tpP (dfT x))),.int .i64 (prN (tpP (dfT x))),.sl 4 (Pr.cs (prK (tpP (dfT x)))),.sl 4 (Pr.cs (tpPs (dfT x))),.sl 4 (Pr.cs (dfMe x))]
abbrev dfV(x:Df):List LV:=[.v (.str (dfNm x)),.v (.sl 1 (nmsC (dfP x))),.v (.int .i64 (exO (dfB x))),.v (.str (exNm (dfB x))),.v (.int .i64 (exN (dfB x))),.v (.sl 7 (Ex.cs (exK (dfB x)))),.v (.sl 10 (Pm.cs (exP (dfB x)))),.v (.sl 9 (Al.cs (exA (dfB x)))),.v (.sl 9 (Tp.cs (exT (dfB x)))),.v (.int .i64 (dfM x)),.v (.bool (dfTy x)),.v (.sl 1 (nmsC (dfVs x))),.v (.sl 2 (Vr.cs (dfNe x))),.v (.sl 2 (Vr.cs (dfAb x))),.v (.sl 10 (Bo.cs (dfBo x))),.v (.int .i64 (tpO (dfT x))),.v (.str (tpNm (dfT x))),.v (.sl 9 (Tp.cs (tpA (dfT x)))),.v (.sl 1 (nmsC (tpNs (dfT x)))),.v (.int .i64 (prO (tpP (dfT x)))),.v (.str (prNm (tpP (dfT x)))),.v (.int .i64 (prN (tpP (dfT x)))),.v (.sl 4 (Pr.cs (prK (tpP (dfT x))))),.v (.sl 4 (Pr.cs (tpPs (dfT x)))),.v (.sl 4 (Pr.cs (dfMe x)))]
def Df.cs:List Df->List (List PV)
 | []=>[]
 | x::r=>dfL x::Df.cs r
theorem Df.cs_eq(l:List Df):Df.cs l=l.map (dfL):=by induction l with | nil=>rfl | cons x r ih=>simp [Df.cs,ih]
theorem Df.cs_len(l:List Df):(Df.cs l).length=l.length:=by simp [Df.cs_eq]
theorem Df.cs_at{l:List Df}{i:Nat}(h:i<l.length):(Df.cs l).getD i []=dfL (l.getD i default):=by rw [Df.cs_eq]; simp [List.getD,h]
theorem Df.cs_snoc(l:List Df)(x:Df):Df.cs (l++[x])=Df.cs l++[dfL x]:=by simp [Df.cs_eq]
abbrev inL(x:In):List PV:=[.str (inNm x),.int .i64 (tpO (inT x)),.str (tpNm (inT x)),.sl 9 (Tp.cs (tpA (inT x))),.sl 1 (nmsC (tpNs (inT x))),.int .i64 (prO (tpP (inT x))),.str (prNm (tpP (inT x))),.int .i64 (prN (tpP (inT x))),.sl 4 (Pr.cs (prK (tpP (inT x)))),.sl 4 (Pr.cs (tpPs (inT x))),.sl 2 (Vr.cs (inNe x)),.sl 25 (Df.cs (inD x))]
def In.cs:List In->List (List PV)
 | []=>[]
 | x::r=>inL x::In.cs r
theorem In.cs_eq(l:List In):In.cs l=l.map (inL):=by induction l with | nil=>rfl | cons x r ih=>simp [In.cs,ih]
theorem In.cs_len(l:List In):(In.cs l).length=l.length:=by simp [In.cs_eq]
abbrev csL(x:Cs):List PV:=[.str (csC x),.sl 1 (nmsC (csNs x)),.int .i64 (prO (csB x)),.str (prNm (csB x)),.int .i64 (prN (csB x)),.sl 4 (Pr.cs (prK (csB x)))]
def Cs.cs:List Cs->List (List PV)
 | []=>[]
 | x::r=>csL x::Cs.cs r
theorem Cs.cs_eq(l:List Cs):Cs.cs l=l.map (csL):=by induction l with | nil=>rfl | cons x r ih=>simp [Cs.cs,ih]
theorem Cs.cs_len(l:List Cs):(Cs.cs l).length=l.length:=by simp [Cs.cs_eq]
abbrev msL(x:Ms):List PV:=[.str (msNm x),.str (msD x),.str (msR x),.sl 6 (Cs.cs (msC x)),.int .i64 (prO (msI x)),.str (prNm (msI x)),.int .i64 (prN (msI x)),.sl 4 (Pr.cs (prK (msI x)))]
def Ms.cs:List Ms->List (List PV)
 | []=>[]
 | x::r=>msL x::Ms.cs r
theorem Ms.cs_eq(l:List Ms):Ms.cs l=l.map (msL):=by induction l with | nil=>rfl | cons x r ih=>simp [Ms.cs,ih]
theorem Ms.cs_len(l:List Ms):(Ms.cs l).length=l.length:=by simp [Ms.cs_eq]
abbrev quL(x:Qu):List PV:=[.str (quNm x),.sl 2 (Vr.cs (quW x)),.int .i64 (prO (quB x)),.str (prNm (quB x)),.int .i64 (prN (quB x)),.sl 4 (Pr.cs (prK (quB x)))]
def Qu.cs:List Qu->List (List PV)
 | []=>[]
 | x::r=>quL x::Qu.cs r
theorem Qu.cs_eq(l:List Qu):Qu.cs l=l.map (quL):=by induction l with | nil=>rfl | cons x r ih=>simp [Qu.cs,ih]
theorem Qu.cs_len(l:List Qu):(Qu.cs l).length=l.length:=by simp [Qu.cs_eq]
abbrev moL(x:Mo):List PV:=[.sl 4 (Da.cs (moD x)),.sl 3 (Cl.cs (moC x)),.sl 12 (In.cs (moI x)),.sl 8 (Ms.cs (moM x)),.sl 6 (Qu.cs (moQ x)),.sl 25 (Df.cs (moF x))]
abbrev moV(x:Mo):List LV:=[.v (.sl 4 (Da.cs (moD x))),.v (.sl 3 (Cl.cs (moC x))),.v (.sl 12 (In.cs (moI x))),.v (.sl 8 (Ms.cs (moM x))),.v (.sl 6 (Qu.cs (moQ x))),.v (.sl 25 (Df.cs (moF x)))]
theorem drop_at{α:Type} [Inhabited α] {l:List α} {i:Nat} (h:i<l.length):l.drop i=l.getD i default::l.drop (i+1):=by
 rw [List.drop_eq_getElem_cons h]
 simp [List.getD,h]
theorem drop_at0{l:List BA}{i:Nat}(h:i<l.length):l.drop i=l.getD i nm0::l.drop (i+1):=by
 rw [List.drop_eq_getElem_cons h]
 simp [List.getD,h]
theorem getD_mem{α:Type} [Inhabited α] {l:List α} {i:Nat} (h:i<l.length):l.getD i default∈l:=by simp [List.getD,h]
set_option maxRecDepth 100000
theorem mixed:Tryz.prog.follows .mixedOrders=true:=by kernel_rfl
theorem pu{f:FuncId}{fn:Func}{args:List PV}(md:Md)(L:Ext->List (Stp Tryz.prog)){r:CRes}(hf:Tryz.prog.funcs[f]?=some fn)(hok:(isFn Tryz.prog f&&fnOK fn)=true:=by kernel_rfl)(h:∀e,evFX Tryz.prog md 50 fn args e (asS (L e)) = .ok (r,e) [] (osS (L e)):=by intro e; kernel_rfl):(Ob.pur f args r).ok Tryz.prog:=Ob.pur_of md 50 (fun e=>asS (L e)) mixed hf hok h fun e=>okS (L e)
theorem ef{f:FuncId}{fn:Func}{args:List PV}{e e':Ext}(md:Md)(L:List (Stp Tryz.prog)){r:CRes}(hf:Tryz.prog.funcs[f]?=some fn)(hok:(isFn Tryz.prog f&&fnOK fn)=true:=by kernel_rfl)(h:evFX Tryz.prog md 50 fn args e (asS L) = .ok (r,e') [] (osS L):=by kernel_rfl):(Ob.eff f args e r e').ok Tryz.prog:=Ob.eff_of md 50 (asS L) mixed hf hok h (okS L)
theorem pw{cx:Cx}{c:Code}{s s':S}{pe:PExit}{Q:PExit->S->Prop}(md:Md)(n:Nat)(L:List (Stp Tryz.prog))(ks bs:List Nat)(hn:cx.n=n)(hq:Q pe s')(hc:codeOK n c=true:=by kernel_rfl)(h:(evCX Tryz.prog md n 50 c s (asS L)).keep ks bs = .ok (pe,s') [] (osS L):=by kernel_rfl):PW Tryz.prog cx c s Q:=PW_runK md n 50 (asS L) ks bs mixed hn hc h (okS L) hq
abbrev Pu(f:FuncId)(a:List PV)(r:CRes):Prop:=(Ob.pur f a r).ok Tryz.prog
abbrev Ef(f:FuncId)(a:List PV)(e:Ext)(r:CRes)(e':Ext):Prop:=(Ob.eff f a e r e').ok Tryz.prog
theorem Wq{a b:LV}(h:WL a b:=by first | exact .inl rfl | exact .inr ⟨rfl,rfl⟩ | exact .inr rfl | exact .inr trivial):WL a b:=h
theorem pm{f:FuncId}{fn:Func}{args:List PV}(md:Md)(L:List (Stp Tryz.prog)){r:CRes}(hf:Tryz.prog.funcs[f]?=some fn)(hok:(isFn Tryz.prog f&&fnOK fn)=true:=by kernel_rfl)(h:∀e,evFX Tryz.prog md 50 fn args e (asS L) = .ok (r,e) [] (osS L):=by intro e; kernel_rfl):(Ob.pur f args r).ok Tryz.prog:=pu md (fun _=>L) hf hok h
abbrev bM(n:UInt8):BA:=ByteArray.mk #[n]
theorem kr{a:PV}{l r:List PV}(h:WkL l r):WkL (a::l) (a::r):=WkL.c (Wk.r _) h
theorem kn(n:Nat){l r:List PV}(h:WkL l r):WkL (.nilsl::l) (.sl n []::r):=WkL.c (Wk.n n) h
def ksT(s:S):List Nat:=s.tmps.map (·.1)
def ksB(s:S):List Nat:=s.boxes.map (·.1)
def kQ(s:S):Bool:=kyS s.tmps []&&kyS s.boxes []
/-- A round of a loop over a list,as proofs give it. -/
def RB(n:Nat)(c:Code){β R:Type}(I:Int → β → S)(f:Nat → β → R)(q:R → PExit × S)(inv:Nat → β → Prop)(i:Nat)(b:β):Prop:=codeOK n c=true → ∀cx:Cx,cx.n=n → PW Tryz.prog cx c (I (i:Int) b) fun pe s'=>(pe = .normal ∧ ∃b',inv (i+1) b' ∧ LeX (I ((i:Int)+1) b') s' ∧ f i b=f (i+1) b')∨(pe ≠ .normal ∧ pe=(q (f i b)).1 ∧ LeX (q (f i b)).2 s')
theorem rng{n:Nat}{c:Code}{β R:Type}(len:Nat)(I:Int → β → S)(f:Nat → β → R)(q:R → PExit × S)(inv:Nat → β → Prop)(hc:codeOK n c=true)(h:∀i b,i ≤ len → inv i b → RB n c I f q (fun i b=>i ≤ len ∧ inv i b) i b)(b:β)(h0:inv 0 b):(Ob.loop n c (I 0 b) (q (f 0 b)).1 (q (f 0 b)).2).ok Tryz.prog:=by
  refine Ob.loop_of (P:=Tryz.prog) (α:={ zz:Nat × β // zz.1 ≤ len ∧ inv zz.1 zz.2 }) (fun zz=>I (zz.1.1:Int) zz.1.2) (fun zz=>len - zz.1.1) (fun zz=>q (f zz.1.1 zz.1.2)) ?_ ⟨(0,b),Nat.zero_le _,h0⟩
  rintro ⟨⟨i,b⟩,hi,hv⟩ cx hcx
  simp only at hi hv ⊢
  refine (h i b hi hv hc cx hcx).mono ?_
  rintro pe s' (⟨h1,b',h2,h3,h4⟩ | h5)
  · exact .inl ⟨h1,⟨(i+1,b'),h2⟩,by have:=h2.1; simp only; omega,h3,by simp only; rw [h4]⟩
  · exact .inr h5
section
variable {n:Nat} {c:Code} {β R:Type} {I:Int → β → S} {f:Nat → β → R} {q:R → PExit × S} {inv:Nat → β → Prop} {i:Nat} {b:β}
theorem lN{len:Nat}(md:Md)(L:List (Stp Tryz.prog))(hi:i<len)(b':β)(hv:inv (i+1) b')(hf:f i b=f (i+1) b')(h:(evCX Tryz.prog md n 50 c (I i b) (asS L)).keep (ksT (I ((i:Int)+1) b')) (ksB (I ((i:Int)+1) b')) = .ok (.normal,I ((i:Int)+1) b') [] (osS L):=by kernel_rfl)(hk:kQ (I ((i:Int)+1) b')=true:=by kernel_rfl):RB n c I f q (fun i b=>i ≤ len ∧ inv i b) i b:=fun hc _ hcx=>
  PW_runK md n 50 (asS L) _ _ mixed hcx hc h (okS L) (.inl ⟨rfl,b',⟨hi,hv⟩,xq hk,hf⟩)
theorem lS{len:Nat}(md:Md)(L:List (Stp Tryz.prog))(ks bs:List Nat)(hi:i<len)(b':β)(s':S)(hle:LeX (I ((i:Int)+1) b') s')(hv:inv (i+1) b')(hf:f i b=f (i+1) b')(h:(evCX Tryz.prog md n 50 c (I i b) (asS L)).keep ks bs = .ok (.normal,s') [] (osS L):=by kernel_rfl):RB n c I f q (fun i b=>i ≤ len ∧ inv i b) i b:=fun hc _ hcx=>
  PW_runK md n 50 (asS L) _ _ mixed hcx hc h (okS L) (.inl ⟨rfl,b',⟨hi,hv⟩,hle,hf⟩)
theorem lX{inv:Nat → β → Prop}(md:Md)(L:List (Stp Tryz.prog))(r:R)(hr:f i b=r)(h:(evCX Tryz.prog md n 50 c (I i b) (asS L)).keep (ksT (q r).2) (ksB (q r).2) = .ok ((q r).1,(q r).2) [] (osS L):=by kernel_rfl)(hk:kQ (q r).2=true:=by kernel_rfl)(hp:(q r).1 ≠ .normal:=by intro hp; cases hp):RB n c I f q inv i b:=fun hc _ hcx=>
  PW_runK md n 50 (asS L) _ _ mixed hcx hc h (okS L) (.inr ⟨hp,by rw [hr],by rw [hr]; exact xq hk⟩)
theorem lY{inv:Nat → β → Prop}{pe:PExit}(md:Md)(L:List (Stp Tryz.prog))(ks bs:List Nat)(s':S)(r:R)(hr:f i b=r)(hle:LeX (q r).2 s')(he:pe=(q r).1)(hp:pe ≠ .normal)(h:(evCX Tryz.prog md n 50 c (I i b) (asS L)).keep ks bs = .ok (pe,s') [] (osS L):=by kernel_rfl):RB n c I f q inv i b:=fun hc _ hcx=>
  PW_runK md n 50 (asS L) ks bs mixed hcx hc h (okS L) (.inr ⟨hp,by rw [hr]; exact he,by rw [hr]; exact hle⟩)
end
theorem rz{n:Nat}{c:Code}{R:Type}{s:S}{q:R → PExit × S}{x y:R}(h:(Ob.loop n c s (q x).1 (q x).2).ok Tryz.prog)(e:x=y):(Ob.loop n c s (q y).1 (q y).2).ok Tryz.prog:=e ▸ h
section
variable {P:Program}
def xNm(l:List ByteArray)(i:Nat)(h:i<l.length:=by omega):Stp P:=ar ((nmsC l).getD i []) [.str (l.getD i nm0)] (by rw [nmsC_at h])
def xEx(l:List Ex)(i:Nat)(h:i<l.length:=by omega):Stp P:=ar ((Ex.cs l).getD i []) (exL (l.getD i default)) (by rw [Ex.cs_at h])
def xAl(l:List Al)(i:Nat)(h:i<l.length:=by omega):Stp P:=ar ((Al.cs l).getD i []) (alL (l.getD i default)) (by rw [Al.cs_at h])
def xPm(l:List Pm)(i:Nat)(h:i<l.length:=by omega):Stp P:=ar ((Pm.cs l).getD i []) (pmL (l.getD i default)) (by rw [Pm.cs_at h])
def xTp(l:List Tp)(i:Nat)(h:i<l.length:=by omega):Stp P:=ar ((Tp.cs l).getD i []) (tpL (l.getD i default)) (by rw [Tp.cs_at h])
def xDf(l:List Df)(i:Nat)(h:i<l.length:=by omega):Stp P:=ar ((Df.cs l).getD i []) (dfL (l.getD i default)) (by rw [Df.cs_at h])
def xPr(l:List Pr)(i:Nat)(h:i<l.length:=by omega):Stp P:=ar ((Pr.cs l).getD i []) (prL (l.getD i default)) (by rw [Pr.cs_at h])
end
abbrev gD{α:Type} [Inhabited α] (l:List α) (i:Nat):α:=l.getD i default
section
variable {P:Program}
def mxNm(l:List BA)(e:Int)(h:0≤e∧e<(l.length:Int):=by omega):Stp P:=am ((0:Int)≤e∧e<((nmsC l).length:Int)) (by rw [nmsC_len]; exact h)
def mxEx(l:List Ex)(e:Int)(h:0≤e∧e<(l.length:Int):=by omega):Stp P:=am ((0:Int)≤e∧e<((Ex.cs l).length:Int)) (by rw [Ex.cs_len]; exact h)
def mxAl(l:List Al)(e:Int)(h:0≤e∧e<(l.length:Int):=by omega):Stp P:=am ((0:Int)≤e∧e<((Al.cs l).length:Int)) (by rw [Al.cs_len]; exact h)
def mxPm(l:List Pm)(e:Int)(h:0≤e∧e<(l.length:Int):=by omega):Stp P:=am ((0:Int)≤e∧e<((Pm.cs l).length:Int)) (by rw [Pm.cs_len]; exact h)
def mxTp(l:List Tp)(e:Int)(h:0≤e∧e<(l.length:Int):=by omega):Stp P:=am ((0:Int)≤e∧e<((Tp.cs l).length:Int)) (by rw [Tp.cs_len]; exact h)
def mxDf(l:List Df)(e:Int)(h:0≤e∧e<(l.length:Int):=by omega):Stp P:=am ((0:Int)≤e∧e<((Df.cs l).length:Int)) (by rw [Df.cs_len]; exact h)
def mxPr(l:List Pr)(e:Int)(h:0≤e∧e<(l.length:Int):=by omega):Stp P:=am ((0:Int)≤e∧e<((Pr.cs l).length:Int)) (by rw [Pr.cs_len]; exact h)
def mxVr(l:List Vr)(e:Int)(h:0≤e∧e<(l.length:Int):=by omega):Stp P:=am ((0:Int)≤e∧e<((Vr.cs l).length:Int)) (by rw [Vr.cs_len]; exact h)
def mxCn(l:List Cn)(e:Int)(h:0≤e∧e<(l.length:Int):=by omega):Stp P:=am ((0:Int)≤e∧e<((Cn.cs l).length:Int)) (by rw [Cn.cs_len]; exact h)
def mxDa(l:List Da)(e:Int)(h:0≤e∧e<(l.length:Int):=by omega):Stp P:=am ((0:Int)≤e∧e<((Da.cs l).length:Int)) (by rw [Da.cs_len]; exact h)
def mxCl(l:List Cl)(e:Int)(h:0≤e∧e<(l.length:Int):=by omega):Stp P:=am ((0:Int)≤e∧e<((Cl.cs l).length:Int)) (by rw [Cl.cs_len]; exact h)
def mxBo(l:List Bo)(e:Int)(h:0≤e∧e<(l.length:Int):=by omega):Stp P:=am ((0:Int)≤e∧e<((Bo.cs l).length:Int)) (by rw [Bo.cs_len]; exact h)
def mxIn(l:List In)(e:Int)(h:0≤e∧e<(l.length:Int):=by omega):Stp P:=am ((0:Int)≤e∧e<((In.cs l).length:Int)) (by rw [In.cs_len]; exact h)
def mxCs(l:List Cs)(e:Int)(h:0≤e∧e<(l.length:Int):=by omega):Stp P:=am ((0:Int)≤e∧e<((Cs.cs l).length:Int)) (by rw [Cs.cs_len]; exact h)
def mxMs(l:List Ms)(e:Int)(h:0≤e∧e<(l.length:Int):=by omega):Stp P:=am ((0:Int)≤e∧e<((Ms.cs l).length:Int)) (by rw [Ms.cs_len]; exact h)
def mxQu(l:List Qu)(e:Int)(h:0≤e∧e<(l.length:Int):=by omega):Stp P:=am ((0:Int)≤e∧e<((Qu.cs l).length:Int)) (by rw [Qu.cs_len]; exact h)
def xBy(s:BA)(i:Nat):Stp P:=av (.v (.int .u8 (↑(UInt8.toNat (s.data.toList.getD (Int.toNat (i:Int)) default)):Int))) (.v (.int .u8 (↑(UInt8.toNat (s.data.toList.getD i default)):Int)))
def mxB(s:BA)(i:Nat)(h:i<s.data.toList.length:=by first | assumption | omega):Stp P:=am ((0:Int)≤(i:Int)∧(i:Int)<(s.size:Int)) ⟨by omega,by have h2:s.data.toList.length=s.size:=(by simp); omega⟩
def s2(a b:Stp P):Stp P:=⟨a.a++b.a,a.o++b.o,obs_app a.h b.h⟩
def dtl{α:Type}{l:List α}{i:Nat}(h:i<l.length):Stp P:=dt ((i:Int)<(l.length:Int))
def rgNm{l:List BA}{i:Nat}(h:i<l.length):Stp P:=s2 (dtl h) (s2 (mxNm l (i:Int)) (xNm l i h))
def rgEx{l:List Ex}{i:Nat}(h:i<l.length):Stp P:=s2 (dtl h) (s2 (mxEx l (i:Int)) (xEx l i h))
def rgAl{l:List Al}{i:Nat}(h:i<l.length):Stp P:=s2 (dtl h) (s2 (mxAl l (i:Int)) (xAl l i h))
def rgPm{l:List Pm}{i:Nat}(h:i<l.length):Stp P:=s2 (dtl h) (s2 (mxPm l (i:Int)) (xPm l i h))
def rgTp{l:List Tp}{i:Nat}(h:i<l.length):Stp P:=s2 (dtl h) (s2 (mxTp l (i:Int)) (xTp l i h))
def rgDf{l:List Df}{i:Nat}(h:i<l.length):Stp P:=s2 (dtl h) (s2 (mxDf l (i:Int)) (xDf l i h))
def rgPr{l:List Pr}{i:Nat}(h:i<l.length):Stp P:=s2 (dtl h) (s2 (mxPr l (i:Int)) (xPr l i h))
end
def TG(_:List (Stp Tryz.prog))(X:Prop):Prop:=X
theorem t0{X:Prop}(h:TG [] X):X:=h
theorem tp{p:List (Stp Tryz.prog)}{X:Prop}(L:List (Stp Tryz.prog))(h:TG (p++L) X):TG p X:=h
section
variable {p:List (Stp Tryz.prog)}
theorem tM{f:FuncId}{fn:Func}{args:List PV}(md:Md)(L:List (Stp Tryz.prog)){r:CRes}(hf:Tryz.prog.funcs[f]?=some fn)(hok:(isFn Tryz.prog f&&fnOK fn)=true:=by kernel_rfl)(h:∀e,evFX Tryz.prog md 50 fn args e (asS (p++L)) = .ok (r,e) [] (osS (p++L)):=by intro e; kernel_rfl):TG p ((Ob.pur f args r).ok Tryz.prog):=pm md (p++L) hf hok h
variable {n:Nat} {c:Code} {β R:Type} {I:Int→β→S} {f:Nat→β→R} {q:R→PExit×S} {inv:Nat→β→Prop} {i:Nat} {b:β}
theorem tN{len:Nat}(md:Md)(L:List (Stp Tryz.prog))(hi:i<len)(b':β)(hv:inv (i+1) b')(hf:f i b=f (i+1) b')(h:(evCX Tryz.prog md n 50 c (I i b) (asS (p++L))).keep (ksT (I ((i:Int)+1) b')) (ksB (I ((i:Int)+1) b')) = .ok (.normal,I ((i:Int)+1) b') [] (osS (p++L)):=by kernel_rfl)(hk:kQ (I ((i:Int)+1) b')=true:=by kernel_rfl):TG p (RB n c I f q (fun i b=>i≤len∧inv i b) i b):=lN md (p++L) hi b' hv hf h hk
theorem tS{len:Nat}(md:Md)(L:List (Stp Tryz.prog))(ks bs:List Nat)(hi:i<len)(b':β)(s':S)(hle:LeX (I ((i:Int)+1) b') s')(hv:inv (i+1) b')(hf:f i b=f (i+1) b')(h:(evCX Tryz.prog md n 50 c (I i b) (asS (p++L))).keep ks bs = .ok (.normal,s') [] (osS (p++L)):=by kernel_rfl):TG p (RB n c I f q (fun i b=>i≤len∧inv i b) i b):=lS md (p++L) ks bs hi b' s' hle hv hf h
theorem tX{inv:Nat→β→Prop}(md:Md)(L:List (Stp Tryz.prog))(r:R)(hr:f i b=r)(h:(evCX Tryz.prog md n 50 c (I i b) (asS (p++L))).keep (ksT (q r).2) (ksB (q r).2) = .ok ((q r).1,(q r).2) [] (osS (p++L)):=by kernel_rfl)(hk:kQ (q r).2=true:=by kernel_rfl)(hp:(q r).1≠.normal:=by intro hp; cases hp):TG p (RB n c I f q inv i b):=lX md (p++L) r hr h hk hp
theorem tY{inv:Nat→β→Prop}{pe:PExit}(md:Md)(L:List (Stp Tryz.prog))(ks bs:List Nat)(s':S)(r:R)(hr:f i b=r)(hle:LeX (q r).2 s')(he:pe=(q r).1)(hp:pe≠.normal)(h:(evCX Tryz.prog md n 50 c (I i b) (asS (p++L))).keep ks bs = .ok (pe,s') [] (osS (p++L)):=by kernel_rfl):TG p (RB n c I f q inv i b):=lY md (p++L) ks bs s' r hr hle he hp h
end
theorem bulkP_pos:∀p:PV,1<=bulkP p:=fun p=>by cases p <;> simp [bulkP]
theorem cons_bulk(p:PV)(r:List PV):1<=bulkPs (p::r):=by have:=bulkP_pos p; simp only [bulkPs]; omega
theorem mem_bulk:∀ {l:List (List PV)} {c:List PV},c∈l->bulkPs c<=bulkPss l
 | x::r,c,h=>by
  simp only [bulkPss]
  rcases List.mem_cons.1 h with rfl | h
  ·omega
  ·have:=mem_bulk h; omega
theorem len_bulk:∀ {l:List (List PV)},(∀c∈l,1<=bulkPs c)->l.length<=bulkPss l
 | [],_=>by simp
 | x::r,h=>by
  have h1:=h x List.mem_cons_self
  have h2:=len_bulk fun c hc=>h c (List.mem_cons_of_mem _ hc)
  simp only [bulkPss,List.length_cons]
  omega
theorem nms_bulk(l:List BA):l.length<=bulkPss (nmsC l):=by
 have:=len_bulk (l:=nmsC l) fun c hc=>by
  rw [nmsC_eq] at hc
  obtain ⟨x,-,rfl⟩:=List.mem_map.1 hc
  exact cons_bulk _ _
 rwa [nmsC_len] at this
theorem Pr.bulk(l:List Pr):l.length<=bulkPss (Pr.cs l):=by
 have:=len_bulk (l:=Pr.cs l) fun c hc=>by
  rw [Pr.cs_eq] at hc
  obtain ⟨x,-,rfl⟩:=List.mem_map.1 hc
  exact cons_bulk _ _
 rwa [Pr.cs_len] at this
theorem Pr.mem{l:List Pr}{x:Pr}(h:x∈l):bulkPs (prL x)<=bulkPss (Pr.cs l):=mem_bulk (by rw [Pr.cs_eq]; exact List.mem_map_of_mem h)
theorem Tp.bulk(l:List Tp):l.length<=bulkPss (Tp.cs l):=by
 have:=len_bulk (l:=Tp.cs l) fun c hc=>by
  rw [Tp.cs_eq] at hc
  obtain ⟨x,-,rfl⟩:=List.mem_map.1 hc
  exact cons_bulk _ _
 rwa [Tp.cs_len] at this
theorem Tp.mem{l:List Tp}{x:Tp}(h:x∈l):bulkPs (tpL x)<=bulkPss (Tp.cs l):=mem_bulk (by rw [Tp.cs_eq]; exact List.mem_map_of_mem h)
theorem Pm.bulk(l:List Pm):l.length<=bulkPss (Pm.cs l):=by
 have:=len_bulk (l:=Pm.cs l) fun c hc=>by
  rw [Pm.cs_eq] at hc
  obtain ⟨x,-,rfl⟩:=List.mem_map.1 hc
  exact cons_bulk _ _
 rwa [Pm.cs_len] at this
theorem Pm.mem{l:List Pm}{x:Pm}(h:x∈l):bulkPs (pmL x)<=bulkPss (Pm.cs l):=mem_bulk (by rw [Pm.cs_eq]; exact List.mem_map_of_mem h)
theorem Ex.bulk(l:List Ex):l.length<=bulkPss (Ex.cs l):=by
 have:=len_bulk (l:=Ex.cs l) fun c hc=>by
  rw [Ex.cs_eq] at hc
  obtain ⟨x,-,rfl⟩:=List.mem_map.1 hc
  exact cons_bulk _ _
 rwa [Ex.cs_len] at this
theorem Ex.mem{l:List Ex}{x:Ex}(h:x∈l):bulkPs (exL x)<=bulkPss (Ex.cs l):=mem_bulk (by rw [Ex.cs_eq]; exact List.mem_map_of_mem h)
theorem Al.bulk(l:List Al):l.length<=bulkPss (Al.cs l):=by
 have:=len_bulk (l:=Al.cs l) fun c hc=>by
  rw [Al.cs_eq] at hc
  obtain ⟨x,-,rfl⟩:=List.mem_map.1 hc
  exact cons_bulk _ _
 rwa [Al.cs_len] at this
theorem Al.mem{l:List Al}{x:Al}(h:x∈l):bulkPs (alL x)<=bulkPss (Al.cs l):=mem_bulk (by rw [Al.cs_eq]; exact List.mem_map_of_mem h)
theorem Df.bulk(l:List Df):l.length<=bulkPss (Df.cs l):=by
 have:=len_bulk (l:=Df.cs l) fun c hc=>by
  rw [Df.cs_eq] at hc
  obtain ⟨x,-,rfl⟩:=List.mem_map.1 hc
  exact cons_bulk _ _
 rwa [Df.cs_len] at this
theorem Df.mem{l:List Df}{x:Df}(h:x∈l):bulkPs (dfL x)<=bulkPss (Df.cs l):=mem_bulk (by rw [Df.cs_eq]; exact List.mem_map_of_mem h)
section
variable {P:Program} {n:Nat} {t:TypeId} {cs:List PV}
theorem ty_str(hu:P.underlying t=some .string)(h:Ty P n t cs):∃s,cs=[.str s]:=by
 cases n with
 | zero=>exact h.elim
 | succ n=>simp only [Ty,hu] at h; obtain ⟨s,rfl,-⟩:=h; exact ⟨s,rfl⟩
theorem ty_int{k:IntKind}(hu:P.underlying t=some (.int k))(h:Ty P n t cs):∃v,cs=[.int k v]/\(Lit.int k v).wf=true:=by
 cases n with
 | zero=>exact h.elim
 | succ n=>simp only [Ty,hu] at h; exact h
theorem ty_bool(hu:P.underlying t=some .bool)(h:Ty P n t cs):∃b,cs=[.bool b]:=by
 cases n with
 | zero=>exact h.elim
 | succ n=>simp only [Ty,hu] at h; exact h
theorem ty_struct{fs:Array Field}(hu:P.underlying t=some (.struct fs))(h:Ty P n t cs):∃m,m<n/\TyF (Ty P m) fs.toList cs:=by
 cases n with
 | zero=>exact h.elim
 | succ n=>simp only [Ty,hu] at h; exact ⟨n,by omega,h⟩
theorem ty_slice{q:TypeId}(hu:P.underlying t=some (.slice q))(h:Ty P n t cs):∃m es,m<n/\cs=[.sl (P.cellsOf q) es]/\∀x∈es,Ty P m q x:=by
 cases n with
 | zero=>exact h.elim
 | succ n=>simp only [Ty,hu] at h; obtain ⟨es,h1,-,h2⟩:=h; exact ⟨n,es,by omega,h1,h2⟩
theorem lst_of{α:Type}{mk:α->List PV}:∀ {es:List (List PV)},(∀x∈es,∃a,x=mk a)->∃l:List α,es=l.map mk
 | [],_=>⟨[],rfl⟩
 | x::r,h=>by
  obtain ⟨a,rfl⟩:=h x sM
  obtain ⟨l,rfl⟩:=lst_of (es:=r) fun y hy=>h y (List.mem_cons_of_mem _ hy)
  exact ⟨a::l,rfl⟩
theorem ty_list{α:Type}{mk:α->List PV}{C:List α->List (List PV)}(hC:∀l,C l=l.map mk){q:TypeId}(hu:P.underlying t=some (.slice q)){z:Nat}(hz:P.cellsOf q=z)(h:Ty P n t cs)(he:∀m x,m<n->Ty P m q x->∃a,x=mk a):∃l,cs=[.sl z (C l)]:=by
 obtain ⟨m,es,hm,rfl,h2⟩:=ty_slice hu h
 obtain ⟨l,rfl⟩:=lst_of fun x hx=>he m x hm (h2 x hx)
 exact ⟨l,by rw [hC,hz]⟩
end
section
variable {n:Nat} {cs:List PV}
theorem ty_nms(h:Ty prog n 30 cs):∃l,cs=[.sl 1 (nmsC l)]:=
 ty_list (mk:=fun s=>[.str s]) nmsC_eq Tryz.underlying30 kR h fun m x _ hx=>ty_str Tryz.underlying9 hx
theorem ty_Pr:∀ (n:Nat) (cs:List PV),Ty prog n 46 cs->∃x:Pr,cs=prL x:=by
 intro n
 induction n using Nat.strongRecOn with
 | _ n ih=>
  intro cs h
  obtain ⟨m,hm,h⟩:=ty_struct Tryz.underlying46 h
  obtain ⟨c1,r1,rfl,h1,c2,r2,rfl,h2,c3,r3,rfl,h3,c4,r4,rfl,h4,rfl⟩:=h
  obtain ⟨vO,rfl,-⟩:=ty_int Tryz.underlying43 h1
  obtain ⟨vNm,rfl⟩:=ty_str Tryz.underlying9 h2
  obtain ⟨vN,rfl,-⟩:=ty_int Tryz.underlying3 h3
  obtain ⟨vK,rfl⟩:=ty_list (z:=4) Pr.cs_eq Tryz.underlying44 kR h4 fun m' x hm' hx=>ih m' oM x hx
  exact ⟨.mk vO vNm vN vK,by simp only [prO,prNm,prN,prK,prL,List.cons_append,List.nil_append,List.append_nil]⟩
theorem ty_Tp:∀ (n:Nat) (cs:List PV),Ty prog n 48 cs->∃x:Tp,cs=tpL x:=by
 intro n
 induction n using Nat.strongRecOn with
 | _ n ih=>
  intro cs h
  obtain ⟨m,hm,h⟩:=ty_struct Tryz.underlying48 h
  obtain ⟨c1,r1,rfl,h1,c2,r2,rfl,h2,c3,r3,rfl,h3,c4,r4,rfl,h4,c5,r5,rfl,h5,c6,r6,rfl,h6,rfl⟩:=h
  obtain ⟨vO,rfl,-⟩:=ty_int Tryz.underlying42 h1
  obtain ⟨vNm,rfl⟩:=ty_str Tryz.underlying9 h2
  obtain ⟨vA,rfl⟩:=ty_list (z:=9) Tp.cs_eq Tryz.underlying35 kR h3 fun m' x hm' hx=>ih m' oM x hx
  obtain ⟨vNs,rfl⟩:=ty_nms h4
  obtain ⟨vP,rfl⟩:=ty_Pr _ _ h5
  obtain ⟨vPs,rfl⟩:=ty_list (z:=4) Pr.cs_eq Tryz.underlying44 kR h6 fun m' x hm' hx=>ty_Pr _ _ hx
  exact ⟨.mk vO vNm vA vNs vP vPs,by simp only [tpO,tpNm,tpA,tpNs,tpP,tpPs,tpL,prO,prNm,prN,prK,prL,List.cons_append,List.nil_append,List.append_nil]⟩
theorem ty_Pm(h:Ty prog n 195 cs):∃x:Pm,cs=pmL x:=by
 obtain ⟨m,hm,h⟩:=ty_struct Tryz.underlying195 h
 obtain ⟨c1,r1,rfl,h1,c2,r2,rfl,h2,rfl⟩:=h
 obtain ⟨vNm,rfl⟩:=ty_str Tryz.underlying9 h1
 obtain ⟨vT,rfl⟩:=ty_Tp _ _ h2
 exact ⟨.mk vNm vT,by simp only [pmNm,pmT,pmL,tpO,tpNm,tpA,tpNs,tpP,tpPs,tpL,prO,prNm,prN,prK,prL,List.cons_append,List.nil_append,List.append_nil]⟩
theorem ty_PmMethod(h:Ty prog n 304 cs):∃x:Pm,cs=pmL x:=by
 obtain ⟨m,hm,h⟩:=ty_struct Tryz.underlying304 h
 obtain ⟨c1,r1,rfl,h1,c2,r2,rfl,h2,rfl⟩:=h
 obtain ⟨vNm,rfl⟩:=ty_str Tryz.underlying9 h1
 obtain ⟨vT,rfl⟩:=ty_Tp _ _ h2
 exact ⟨.mk vNm vT,by simp only [pmNm,pmT,pmL,tpO,tpNm,tpA,tpNs,tpP,tpPs,tpL,prO,prNm,prN,prK,prL,List.cons_append,List.nil_append,List.append_nil]⟩
theorem ty_Ex:∀ (n:Nat) (cs:List PV),Ty prog n 37 cs->∃x:Ex,cs=exL x:=by
 intro n
 induction n using Nat.strongRecOn with
 | _ n ih=>
  intro cs h
  obtain ⟨m,hm,h⟩:=ty_struct Tryz.underlying37 h
  obtain ⟨c1,r1,rfl,h1,c2,r2,rfl,h2,c3,r3,rfl,h3,c4,r4,rfl,h4,c5,r5,rfl,h5,c6,r6,rfl,h6,c7,r7,rfl,h7,rfl⟩:=h
  obtain ⟨vO,rfl,-⟩:=ty_int Tryz.underlying31 h1
  obtain ⟨vNm,rfl⟩:=ty_str Tryz.underlying9 h2
  obtain ⟨vN,rfl,-⟩:=ty_int Tryz.underlying3 h3
  obtain ⟨vK,rfl⟩:=ty_list (z:=7) Ex.cs_eq Tryz.underlying32 kR h4 fun m' x hm' hx=>ih m' oM x hx
  obtain ⟨vP,rfl⟩:=ty_list (z:=10) Pm.cs_eq Tryz.underlying33 kR h5 fun m' x hm' hx=>ty_Pm hx
  obtain ⟨vA,rfl⟩:=ty_list (z:=9) Al.cs_eq Tryz.underlying34 kR h6 fun m' x hm' hx=>by
   obtain ⟨m2,hm2,hx⟩:=ty_struct Tryz.underlying108 hx
   obtain ⟨d1,r1,rfl,k1,d2,r2,rfl,k2,d3,r3,rfl,k3,rfl⟩:=hx
   obtain ⟨s,rfl⟩:=ty_str Tryz.underlying9 k1
   obtain ⟨ns,rfl⟩:=ty_nms k2
   obtain ⟨b,rfl⟩:=ih m2 oM _ k3
   exact ⟨.mk s ns b,by simp only [alL,alC,alNs,alB,List.cons_append,List.nil_append,List.append_nil]⟩
  obtain ⟨vT,rfl⟩:=ty_list (z:=9) Tp.cs_eq Tryz.underlying35 kR h7 fun m' x hm' hx=>ty_Tp _ _ hx
  exact ⟨.mk vO vNm vN vK vP vA vT,by simp only [exO,exNm,exN,exK,exP,exA,exT,exL,List.cons_append,List.nil_append,List.append_nil]⟩
theorem ty_Vr(h:Ty prog n 301 cs):∃x:Vr,cs=vrL x:=by
 obtain ⟨m,hm,h⟩:=ty_struct Tryz.underlying301 h
 obtain ⟨c1,r1,rfl,h1,c2,r2,rfl,h2,rfl⟩:=h
 obtain ⟨vNm,rfl⟩:=ty_str Tryz.underlying9 h1
 obtain ⟨vS,rfl⟩:=ty_str Tryz.underlying288 h2
 exact ⟨.mk vNm vS,by simp only [vrNm,vrS,vrL,List.cons_append,List.nil_append,List.append_nil]⟩
theorem ty_VrNeed(h:Ty prog n 295 cs):∃x:Vr,cs=vrL x:=by
 obtain ⟨m,hm,h⟩:=ty_struct Tryz.underlying295 h
 obtain ⟨c1,r1,rfl,h1,c2,r2,rfl,h2,rfl⟩:=h
 obtain ⟨a,rfl⟩:=ty_str Tryz.underlying9 h1
 obtain ⟨b,rfl⟩:=ty_str Tryz.underlying9 h2
 exact ⟨.mk a b,by simp only [vrNm,vrS,vrL,List.cons_append,List.nil_append,List.append_nil]⟩
theorem ty_VrAbs(h:Ty prog n 297 cs):∃x:Vr,cs=vrL x:=by
 obtain ⟨m,hm,h⟩:=ty_struct Tryz.underlying297 h
 obtain ⟨c1,r1,rfl,h1,c2,r2,rfl,h2,rfl⟩:=h
 obtain ⟨a,rfl⟩:=ty_str Tryz.underlying9 h1
 obtain ⟨b,rfl⟩:=ty_str Tryz.underlying288 h2
 exact ⟨.mk a b,by simp only [vrNm,vrS,vrL,List.cons_append,List.nil_append,List.append_nil]⟩
theorem ty_Cn(h:Ty prog n 303 cs):∃x:Cn,cs=cnL x:=by
 obtain ⟨m,hm,h⟩:=ty_struct Tryz.underlying303 h
 obtain ⟨c1,r1,rfl,h1,c2,r2,rfl,h2,c3,r3,rfl,h3,rfl⟩:=h
 obtain ⟨vNm,rfl⟩:=ty_str Tryz.underlying9 h1
 obtain ⟨vNs,rfl⟩:=ty_nms h2
 obtain ⟨vF,rfl⟩:=ty_list (z:=9) Tp.cs_eq Tryz.underlying35 kR h3 fun m' x hm' hx=>ty_Tp _ _ hx
 exact ⟨.mk vNm vNs vF,by simp only [cnNm,cnNs,cnF,cnL,List.cons_append,List.nil_append,List.append_nil]⟩
theorem ty_Da(h:Ty prog n 282 cs):∃x:Da,cs=daL x:=by
 obtain ⟨m,hm,h⟩:=ty_struct Tryz.underlying282 h
 obtain ⟨c1,r1,rfl,h1,c2,r2,rfl,h2,c3,r3,rfl,h3,c4,r4,rfl,h4,rfl⟩:=h
 obtain ⟨vNm,rfl⟩:=ty_str Tryz.underlying9 h1
 obtain ⟨vVs,rfl⟩:=ty_nms h2
 obtain ⟨vP,rfl⟩:=ty_list (z:=2) Vr.cs_eq Tryz.underlying279 kR h3 fun m' x hm' hx=>ty_Vr hx
 obtain ⟨vC,rfl⟩:=ty_list (z:=3) Cn.cs_eq Tryz.underlying280 kR h4 fun m' x hm' hx=>ty_Cn hx
 exact ⟨.mk vNm vVs vP vC,by simp only [daNm,daVs,daP,daC,daL,List.cons_append,List.nil_append,List.append_nil]⟩
theorem ty_Cl(h:Ty prog n 285 cs):∃x:Cl,cs=clL x:=by
 obtain ⟨m,hm,h⟩:=ty_struct Tryz.underlying285 h
 obtain ⟨c1,r1,rfl,h1,c2,r2,rfl,h2,c3,r3,rfl,h3,rfl⟩:=h
 obtain ⟨vNm,rfl⟩:=ty_str Tryz.underlying9 h1
 obtain ⟨vW,rfl⟩:=ty_str Tryz.underlying9 h2
 obtain ⟨vM,rfl⟩:=ty_list (z:=10) Pm.cs_eq Tryz.underlying283 kR h3 fun m' x hm' hx=>ty_PmMethod hx
 exact ⟨.mk vNm vW vM,by simp only [clNm,clW,clM,clL,List.cons_append,List.nil_append,List.append_nil]⟩
theorem ty_Bo(h:Ty prog n 299 cs):∃x:Bo,cs=boL x:=by
 obtain ⟨m,hm,h⟩:=ty_struct Tryz.underlying299 h
 obtain ⟨c1,r1,rfl,h1,c2,r2,rfl,h2,c3,r3,rfl,h3,c4,r4,rfl,h4,rfl⟩:=h
 obtain ⟨vNm,rfl⟩:=ty_str Tryz.underlying9 h1
 obtain ⟨vW,rfl⟩:=ty_list (z:=2) Vr.cs_eq Tryz.underlying279 kR h2 fun m' x hm' hx=>ty_Vr hx
 obtain ⟨vH,rfl⟩:=ty_Pr _ _ h3
 obtain ⟨vG,rfl⟩:=ty_Pr _ _ h4
 exact ⟨.mk vNm vW vH vG,by simp only [boNm,boW,boH,boG,boL,prO,prNm,prN,prK,prL,List.cons_append,List.nil_append,List.append_nil]⟩
theorem ty_Df(h:Ty prog n 52 cs):∃x:Df,cs=dfL x:=by
 obtain ⟨m,hm,h⟩:=ty_struct Tryz.underlying52 h
 obtain ⟨c1,r1,rfl,h1,c2,r2,rfl,h2,c3,r3,rfl,h3,c4,r4,rfl,h4,c5,r5,rfl,h5,c6,r6,rfl,h6,rfl⟩:=h
 obtain ⟨vNm,rfl⟩:=ty_str Tryz.underlying9 h1
 obtain ⟨vP,rfl⟩:=ty_nms h2
 obtain ⟨vB,rfl⟩:=ty_Ex _ _ h3
 obtain ⟨vM,rfl,-⟩:=ty_int Tryz.underlying38 h4
 obtain ⟨vTy,rfl⟩:=ty_bool Tryz.underlying4 h5
 obtain ⟨m2,hm2,h6⟩:=ty_struct Tryz.underlying50 h6
 obtain ⟨d1,q1,rfl,k1,d2,q2,rfl,k2,d3,q3,rfl,k3,d4,q4,rfl,k4,d5,q5,rfl,k5,d6,q6,rfl,k6,rfl⟩:=h6
 obtain ⟨vVs,rfl⟩:=ty_nms k1
 obtain ⟨vNe,rfl⟩:=ty_list (z:=2) Vr.cs_eq Tryz.underlying39 kR k2 fun m' x hm' hx=>ty_VrNeed hx
 obtain ⟨vAb,rfl⟩:=ty_list (z:=2) Vr.cs_eq Tryz.underlying40 kR k3 fun m' x hm' hx=>ty_VrAbs hx
 obtain ⟨vBo,rfl⟩:=ty_list (z:=10) Bo.cs_eq Tryz.underlying41 kR k4 fun m' x hm' hx=>ty_Bo hx
 obtain ⟨vT,rfl⟩:=ty_Tp _ _ k5
 obtain ⟨vMe,rfl⟩:=ty_list (z:=4) Pr.cs_eq Tryz.underlying44 kR k6 fun m' x hm' hx=>ty_Pr _ _ hx
 exact ⟨.mk vNm vP vB vM vTy vVs vNe vAb vBo vT vMe,by simp only [dfNm,dfP,dfB,dfM,dfTy,dfVs,dfNe,dfAb,dfBo,dfT,dfMe,dfL,exO,exNm,exN,exK,exP,exA,exT,exL,tpO,tpNm,tpA,tpNs,tpP,tpPs,tpL,prO,prNm,prN,prK,prL,List.cons_append,List.nil_append,List.append_nil]⟩
theorem ty_In(h:Ty prog n 287 cs):∃x:In,cs=inL x:=by
 obtain ⟨m,hm,h⟩:=ty_struct Tryz.underlying287 h
 obtain ⟨c1,r1,rfl,h1,c2,r2,rfl,h2,c3,r3,rfl,h3,c4,r4,rfl,h4,rfl⟩:=h
 obtain ⟨vNm,rfl⟩:=ty_str Tryz.underlying9 h1
 obtain ⟨vT,rfl⟩:=ty_Tp _ _ h2
 obtain ⟨vNe,rfl⟩:=ty_list (z:=2) Vr.cs_eq Tryz.underlying39 kR h3 fun m' x hm' hx=>ty_VrNeed hx
 obtain ⟨vD,rfl⟩:=ty_list (z:=25) Df.cs_eq Tryz.underlying27 kR h4 fun m' x hm' hx=>ty_Df hx
 exact ⟨.mk vNm vT vNe vD,by simp only [inNm,inT,inNe,inD,inL,tpO,tpNm,tpA,tpNs,tpP,tpPs,tpL,prO,prNm,prN,prK,prL,List.cons_append,List.nil_append,List.append_nil]⟩
theorem ty_Cs(h:Ty prog n 306 cs):∃x:Cs,cs=csL x:=by
 obtain ⟨m,hm,h⟩:=ty_struct Tryz.underlying306 h
 obtain ⟨c1,r1,rfl,h1,c2,r2,rfl,h2,c3,r3,rfl,h3,rfl⟩:=h
 obtain ⟨vC,rfl⟩:=ty_str Tryz.underlying9 h1
 obtain ⟨vNs,rfl⟩:=ty_nms h2
 obtain ⟨vB,rfl⟩:=ty_Pr _ _ h3
 exact ⟨.mk vC vNs vB,by simp only [csC,csNs,csB,csL,prO,prNm,prN,prK,prL,List.cons_append,List.nil_append,List.append_nil]⟩
theorem ty_Ms(h:Ty prog n 291 cs):∃x:Ms,cs=msL x:=by
 obtain ⟨m,hm,h⟩:=ty_struct Tryz.underlying291 h
 obtain ⟨c1,r1,rfl,h1,c2,r2,rfl,h2,c3,r3,rfl,h3,c4,r4,rfl,h4,c5,r5,rfl,h5,rfl⟩:=h
 obtain ⟨vNm,rfl⟩:=ty_str Tryz.underlying9 h1
 obtain ⟨vD,rfl⟩:=ty_str Tryz.underlying9 h2
 obtain ⟨vR,rfl⟩:=ty_str Tryz.underlying288 h3
 obtain ⟨vC,rfl⟩:=ty_list (z:=6) Cs.cs_eq Tryz.underlying289 kR h4 fun m' x hm' hx=>ty_Cs hx
 obtain ⟨vI,rfl⟩:=ty_Pr _ _ h5
 exact ⟨.mk vNm vD vR vC vI,by simp only [msNm,msD,msR,msC,msI,msL,prO,prNm,prN,prK,prL,List.cons_append,List.nil_append,List.append_nil]⟩
theorem ty_Qu(h:Ty prog n 293 cs):∃x:Qu,cs=quL x:=by
 obtain ⟨m,hm,h⟩:=ty_struct Tryz.underlying293 h
 obtain ⟨c1,r1,rfl,h1,c2,r2,rfl,h2,c3,r3,rfl,h3,rfl⟩:=h
 obtain ⟨vNm,rfl⟩:=ty_str Tryz.underlying9 h1
 obtain ⟨vW,rfl⟩:=ty_list (z:=2) Vr.cs_eq Tryz.underlying279 kR h2 fun m' x hm' hx=>ty_Vr hx
 obtain ⟨vB,rfl⟩:=ty_Pr _ _ h3
 exact ⟨.mk vNm vW vB,by simp only [quNm,quW,quB,quL,prO,prNm,prN,prK,prL,List.cons_append,List.nil_append,List.append_nil]⟩
theorem ty_Mo(h:Ty prog n 29 cs):∃x:Mo,cs=moL x:=by
 obtain ⟨m,hm,h⟩:=ty_struct Tryz.underlying29 h
 obtain ⟨c1,r1,rfl,h1,c2,r2,rfl,h2,c3,r3,rfl,h3,c4,r4,rfl,h4,c5,r5,rfl,h5,c6,r6,rfl,h6,rfl⟩:=h
 obtain ⟨vD,rfl⟩:=ty_list (z:=4) Da.cs_eq Tryz.underlying22 kR h1 fun m' x hm' hx=>ty_Da hx
 obtain ⟨vC,rfl⟩:=ty_list (z:=3) Cl.cs_eq Tryz.underlying23 kR h2 fun m' x hm' hx=>ty_Cl hx
 obtain ⟨vI,rfl⟩:=ty_list (z:=12) In.cs_eq Tryz.underlying24 kR h3 fun m' x hm' hx=>ty_In hx
 obtain ⟨vM,rfl⟩:=ty_list (z:=8) Ms.cs_eq Tryz.underlying25 kR h4 fun m' x hm' hx=>ty_Ms hx
 obtain ⟨vQ,rfl⟩:=ty_list (z:=6) Qu.cs_eq Tryz.underlying26 kR h5 fun m' x hm' hx=>ty_Qu hx
 obtain ⟨vF,rfl⟩:=ty_list (z:=25) Df.cs_eq Tryz.underlying27 kR h6 fun m' x hm' hx=>ty_Df hx
 exact ⟨.mk vD vC vI vM vQ vF,by simp only [moD,moC,moI,moM,moQ,moF,moL,List.cons_append,List.nil_append,List.append_nil]⟩
end
open Go.ChangeShapes Go.WideShapes Go.ChangeAt Go.RowKit
theorem own:ownKnob prog.godebug=none:=by kernel_rfl
theorem laidOut:laidOutB prog=true:=by kernel_rfl
def compsT(P:Program)(t:TypeId):List TypeId:=match P.underlying t with
 | some (.slice e)=>[e]
 | some (.struct fs)=>fs.toList.map fun f=>f.type
 | _=>[]
def addT(l:List TypeId)(x:TypeId):List TypeId:=if l.contains x then l else l++[x]
def reachT(P:Program):Nat->List TypeId->List TypeId
 | 0,l=>l
 | n+1,l=>reachT P n ((l.map (compsT P)).flatten.foldl addT l)
mutual
theorem bulk_eq{H:Type}:∀d:DataW H,bulkD d=Rows.uptoBulk d
 | .lit q=>by cases q <;> rfl
 | .nil=>rfl
 | .ptr d=>by rw [bulkD,Rows.uptoBulk,bulk_eq d]
 | .slice a b=>by rw [bulkD,Rows.uptoBulk,bulks_eq a,bulks_eq b]
 | .agg a=>by rw [bulkD,Rows.uptoBulk,bulks_eq a]
 | .iface _ d=>by rw [bulkD,Rows.uptoBulk,bulk_eq d]
 | .map es=>by rw [bulkD,Rows.uptoBulk,bulkm_eq es]
 | .held _=>rfl
theorem bulks_eq{H:Type}:∀l:List (DataW H),bulkDs l=Rows.uptoBulkAll l
 | []=>rfl
 | d::r=>by rw [bulkDs,Rows.uptoBulkAll,bulk_eq d,bulks_eq r]
theorem bulkm_eq{H:Type}:∀l:List (Lit × DataW H),bulkDm l=Rows.uptoBulkEntries l
 | []=>rfl
 | x::r=>by rw [bulkDm,Rows.uptoBulkEntries,bulke_eq x,bulkm_eq r]
theorem bulke_eq{H:Type}:∀x:Lit × DataW H,bulkDe x=Rows.uptoBulkEntry x
 | (q,d)=>by cases q <;> simp only [bulkDe,Rows.uptoBulkEntry,bulk_eq d]
end
theorem upto_le{H:Type}:∀ {a b:List (DataW H)},bulkDs a<=Rows.uptoBulkAll (a++b)
 | [],b=>Nat.zero_le _
 | d::a,b=>by
  have:=upto_le (a:=a) (b:=b)
  rw [List.cons_append,bulkDs,Rows.uptoBulkAll,bulk_eq d]
  omega
theorem small_le{H:Type}{a b:List (DataW H)}(hk:Rows.uptoSmall H (a++b)=true):bulkDs a<=1048576:=by
 have h:Rows.uptoBulkAll (a++b)<=1048576:=of_decide_eq_true hk
 have:=upto_le (a:=a) (b:=b)
 omega
def kwZ:List (List UInt8):=[[97,110,100],[97,115,115,117,109,101],[98,111,111,108],[98,111,117,110,100],[99,97,115,101],[99,101,108,108],[99,108,97,115,115],[100,97,116,97],[100,101,102],[100,105,118],[101,108,115,101],[101,110,100],[102,97,108,115,101],[102,111,114,97,108,108],[102,117,110],[103,101,116],[105,102],[105,110],[105,110,115,116],[105,110,116],[105,110,118,97,114,105,97,110,116],[108,101,116],[109,97,116,99,104],[109,101,97,115,117,114,101],[109,101,116,114,105,99],[109,111,100],[109,117],[110,101,119],[110,111,116],[111,102],[111,114],[113,117,97,108],[114,101,102,108,101,99,116],[115,101,116],[116,104,101,110],[116,114,117,101],[117,115,101],[118],[118,97,108],[116,97,103],[119,104,101,114,101],[119,105,116,104]]
theorem gTab:prog.globalNamed "liquidcheck/names.keywords" = some 0:=by kernel_rfl
theorem gTabType:(prog.globals[0]?).map (·.type)=some 237:=by kernel_rfl
theorem cellsTab:prog.cellsOf 237=42:=by kernel_rfl
theorem cellsStr:prog.cellsOf 9=1:=by kernel_rfl
theorem gokD {W:World} (h:laidMetH prog [("liquidcheck/names.keywords",Rows.laid_liquidcheck_names_keywords)] W):GOK g0 W:=
 gok_texts (g:=0) (zs:=kwZ) rfl (texts_of_head (zs:=kwZ) (rest:=[]) gTab gTabType Tryz.underlying237 Tryz.underlying9 cellsStr cellsTab h)
noncomputable def laidWorld (os:Os):World:=
 { World.holding prog os ⟨#[],#[],[]⟩ with heap:=(World.holding prog os ⟨#[],#[],[]⟩).heap.modify 0 fun
   | .cells _ t frozen => .cells (kwZ.map fun z=>Value.string ⟨z.toArray⟩).toArray t frozen
   | o=>o }
def mdL:Md:=⟨fun _=>some false,fun _=>false⟩
theorem gPr{l:List Pr}{i:Nat}(h:i<l.length):l.getD i default∈l:=getD_mem h
theorem gTp{l:List Tp}{i:Nat}(h:i<l.length):l.getD i default∈l:=getD_mem h
theorem gEx{l:List Ex}{i:Nat}(h:i<l.length):l.getD i default∈l:=getD_mem h
theorem gAl{l:List Al}{i:Nat}(h:i<l.length):l.getD i default∈l:=getD_mem h
theorem gDf{l:List Df}{i:Nat}(h:i<l.length):l.getD i default∈l:=getD_mem h
def ix{α:Type}(f:α->BA)(name:BA):List α->Nat
 | []=>0
 | c::r=>if f c=name then 0 else ix f name r+1
def nIn_r0(n:Int):Bool:=(if n >= -1000000000000 then (decide (n<=1000000000000)) else false)
theorem nIn(n:Int):Pu 108 [pI n] (rB (nIn_r0 n)):=by
 by_cases h0:n >= -1000000000000
 ·simp only [nIn_r0,iP h0]; exact pm mdL [rp 3 (dt1 h0)] func108
 ·simp only [nIn_r0,iN h0]; exact pm mdL [rp 3 (df1 h0)] func108
def nChecked_r0(n:Int)(ok:Bool):Int:=(if ok=false then 0 else (if nIn_r0 n=false then 0 else n))
def nChecked_r1(n:Int)(ok:Bool):Bool:=(if ok=false then false else (if nIn_r0 n=false then false else true))
theorem nChecked(n:Int)(ok:Bool):Pu 144 [pI n,.bool ok] (.ret (.tup [pI (nChecked_r0 n ok),.bool (nChecked_r1 n ok)])):=by
 refine t0 ?_;by_cases h0:ok=false
 ·simp only [nChecked_r0,nChecked_r1,iP h0]; exact tM mdL [rp 4 (bt1 (bnT h0)),bt true] func144
 ·refine tp [rp 2 (bf1 (bnF (bTF h0))),cl (@nIn n),rp 2 (bf1 (bnF (bTF h0)))] ?_;by_cases h1:nIn_r0 n=false
  ·simp only [nChecked_r0,nChecked_r1,iN h0,iP h1]; exact tM mdL [bt1 (bnT h1)] func144
  ·simp only [nChecked_r0,nChecked_r1,iN h0,iN h1]; exact tM mdL [bf1 (bnF (bTF h1))] func144
def nAdd_r0(a:Int)(b:Int):Int:=(if nIn_r0 a=false then 0 else (if nIn_r0 b=false then 0 else (nChecked_r0 (IntKind.wrap .i64 (a+b)) true)))
def nAdd_r1(a:Int)(b:Int):Bool:=(if nIn_r0 a=false then false else (if nIn_r0 b=false then false else (nChecked_r1 (IntKind.wrap .i64 (a+b)) true)))
theorem nAdd(a b:Int):Pu 145 [pI a,pI b] (.ret (.tup [pI (nAdd_r0 a b),.bool (nAdd_r1 a b)])):=by
 refine t0 ?_;refine tp [cl (@nIn a)] ?_;by_cases h0:nIn_r0 a=false
 ·simp only [nAdd_r0,nAdd_r1,iP h0]; exact tM mdL [rp 4 (bt1 (bnT h0)),bt true] func145
 ·refine tp [rp 2 (bf1 (bnF (bTF h0))),cl (@nIn b),rp 2 (bf1 (bnF (bTF h0)))] ?_;by_cases h1:nIn_r0 b=false
  ·simp only [nAdd_r0,nAdd_r1,iN h0,iP h1]; exact tM mdL [bt1 (bnT h1)] func145
  ·simp only [nAdd_r0,nAdd_r1,iN h0,iN h1]; exact tM mdL [bf1 (bnF (bTF h1)),kp,cl (@nChecked (IntKind.wrap .i64 (a+b)) true)] func145
def nSub_r0(a:Int)(b:Int):Int:=(if nIn_r0 a=false then 0 else (if nIn_r0 b=false then 0 else (nChecked_r0 (IntKind.wrap .i64 (a - b)) true)))
def nSub_r1(a:Int)(b:Int):Bool:=(if nIn_r0 a=false then false else (if nIn_r0 b=false then false else (nChecked_r1 (IntKind.wrap .i64 (a - b)) true)))
theorem nSub(a b:Int):Pu 112 [pI a,pI b] (.ret (.tup [pI (nSub_r0 a b),.bool (nSub_r1 a b)])):=by
 refine t0 ?_;refine tp [cl (@nIn a)] ?_;by_cases h0:nIn_r0 a=false
 ·simp only [nSub_r0,nSub_r1,iP h0]; exact tM mdL [rp 4 (bt1 (bnT h0)),bt true] func112
 ·refine tp [rp 2 (bf1 (bnF (bTF h0))),cl (@nIn b),rp 2 (bf1 (bnF (bTF h0)))] ?_;by_cases h1:nIn_r0 b=false
  ·simp only [nSub_r0,nSub_r1,iN h0,iP h1]; exact tM mdL [bt1 (bnT h1)] func112
  ·simp only [nSub_r0,nSub_r1,iN h0,iN h1]; exact tM mdL [bf1 (bnF (bTF h1)),kp,cl (@nChecked (IntKind.wrap .i64 (a - b)) true)] func112
def nAbs_r0(a:Int):Int:=(if a>=0 then a else (if IntKind.wrap .i64 (0 - a)<0 then 1000000000000 else (IntKind.wrap .i64 (0 - a))))
theorem nAbs(a:Int):Pu 180 [pI a] (rI (nAbs_r0 a)):=by
 by_cases h0:a>=0
 ·simp only [nAbs_r0,iP h0]; exact pm mdL [dt1 h0] func180
 ·by_cases h1:IntKind.wrap .i64 (0 - a)<0
  ·simp only [nAbs_r0,iN h0,iP h1]; exact pm mdL [df1 h0,kp,dt1 h1] func180
  ·simp only [nAbs_r0,iN h0,iN h1]; exact pm mdL [df1 h0,kp,df1 h1,kp] func180
theorem nAbs_ne{a:Int}(h:nIn_r0 a=true)(h0:¬a=0):nAbs_r0 a≠0:=by
 unfold nAbs_r0
 unfold nIn_r0 at h
 split at h
 ·have h:=of_decide_eq_true h
  split
  ·omega
  ·have e:IntKind.i64.wrap (0 - a) = -a:=by rw [wrap64_eq oM oM]; omega
   rw [e]
   split <;> omega
 ·cases h
section
variable (a b:Int) (hx0:nIn_r0 a=true) (hx1:nIn_r0 b=true) (hx2:¬a=0) (hx3:¬b=0)
include a b hx0 hx1 hx2 hx3
theorem nMul_5(hx4:nAbs_r0 b>IntKind.wrap .i64 (Int.tdiv 1000000000000 (nAbs_r0 a))):Pu 146 [pI a,pI b] (.ret (.tup [pI 0,.bool false])):=
 pm mdL [cl (@nIn a),rp 2 (bf1 (bnF hx0)),cl (@nIn b),rp 2 (bf1 (bnF hx0)),bf1 (bnF hx1),rp 3 (en1 hx2),en1 hx3,cl (@nAbs b),cl (@nAbs a),kp,am (nAbs_r0 a≠0) (by (apply nAbs_ne <;> first | assumption | omega | decide)),dt1 hx4] func146
theorem nMul_6(hx4:¬nAbs_r0 b>IntKind.wrap .i64 (Int.tdiv 1000000000000 (nAbs_r0 a))):Pu 146 [pI a,pI b] (.ret (.tup [pI (nChecked_r0 (IntKind.wrap .i64 (a * b)) true),.bool (nChecked_r1 (IntKind.wrap .i64 (a * b)) true)])):=
 pm mdL [cl (@nIn a),rp 2 (bf1 (bnF hx0)),cl (@nIn b),rp 2 (bf1 (bnF hx0)),bf1 (bnF hx1),rp 3 (en1 hx2),en1 hx3,cl (@nAbs b),cl (@nAbs a),kp,am (nAbs_r0 a≠0) (by (apply nAbs_ne <;> first | assumption | omega | decide)),df1 hx4,kp,cl (@nChecked (IntKind.wrap .i64 (a * b)) true)] func146
end
def nMul_r0(a:Int)(b:Int):Int:=(if nIn_r0 a=false then 0 else (if nIn_r0 b=false then 0 else (if a=0 then 0 else (if b=0 then 0 else (if nAbs_r0 b>IntKind.wrap .i64 (Int.tdiv 1000000000000 (nAbs_r0 a)) then 0 else (nChecked_r0 (IntKind.wrap .i64 (a * b)) true))))))
def nMul_r1(a:Int)(b:Int):Bool:=(if nIn_r0 a=false then false else (if nIn_r0 b=false then false else (if a=0 then true else (if b=0 then true else (if nAbs_r0 b>IntKind.wrap .i64 (Int.tdiv 1000000000000 (nAbs_r0 a)) then false else (nChecked_r1 (IntKind.wrap .i64 (a * b)) true))))))
theorem nMul(a b:Int):Pu 146 [pI a,pI b] (.ret (.tup [pI (nMul_r0 a b),.bool (nMul_r1 a b)])):=by
 by_cases h0:nIn_r0 a=false
 ·simp only [nMul_r0,nMul_r1,iP h0]; exact pm mdL [cl (@nIn a),rp 4 (bt1 (bnT h0)),bt true] func146
 ·by_cases h1:nIn_r0 b=false
  ·simp only [nMul_r0,nMul_r1,iN h0,iP h1]; exact pm mdL [cl (@nIn a),rp 2 (bf1 (bnF (bTF h0))),cl (@nIn b),rp 2 (bf1 (bnF (bTF h0))),bt1 (bnT h1)] func146
  ·by_cases h2:a=0
   ·simp only [nMul_r0,nMul_r1,iN h0,iN h1,iP h2]; exact pm mdL [cl (@nIn a),rp 2 (bf1 (bnF (bTF h0))),cl (@nIn b),rp 2 (bf1 (bnF (bTF h0))),bf1 (bnF (bTF h1)),rp 3 (et1 h2),bt true] func146
   ·by_cases h3:b=0
    ·simp only [nMul_r0,nMul_r1,iN h0,iN h1,iN h2,iP h3]; exact pm mdL [cl (@nIn a),rp 2 (bf1 (bnF (bTF h0))),cl (@nIn b),rp 2 (bf1 (bnF (bTF h0))),bf1 (bnF (bTF h1)),rp 3 (en1 h2),et1 h3] func146
    ·by_cases h4:nAbs_r0 b>IntKind.wrap .i64 (Int.tdiv 1000000000000 (nAbs_r0 a))
     ·simp only [nMul_r0,nMul_r1,iN h0,iN h1,iN h2,iN h3,iP h4]; exact nMul_5 a b (bTF h0) (bTF h1) h2 h3 h4
     ·simp only [nMul_r0,nMul_r1,iN h0,iN h1,iN h2,iN h3,iN h4]; exact nMul_6 a b (bTF h0) (bTF h1) h2 h3 h4
def ntC:List Int->List (List PV)
 | []=>[]
 | x::r=>[.int .i64 x]::ntC r
theorem ntC_eq(l:List Int):ntC l=l.map fun x=>[.int .i64 x]:=by induction l with | nil=>rfl | cons x r ih=>simp [ntC,ih]
theorem ntC_len(l:List Int):(ntC l).length=l.length:=by simp [ntC_eq]
theorem ntC_at{l:List Int}{i:Nat}(h:i<l.length):(ntC l).getD i []=[.int .i64 (l.getD i default)]:=by rw [ntC_eq]; simp [List.getD,h]
theorem ntC_snoc(l:List Int)(x:Int):ntC (l++[x])=ntC l++[[.int .i64 x]]:=by simp [ntC_eq]
inductive Ce where
 | mk (n:BA) (k:Int)
instance:Inhabited Ce:=⟨.mk nm0 0⟩
def ceN:Ce->BA | .mk x _=>x
def ceK:Ce->Int | .mk _ x=>x
abbrev ceL(x:Ce):List PV:=[.str (ceN x),.int .i64 (ceK x)]
def Ce.cs:List Ce->List (List PV)
 | []=>[]
 | x::r=>ceL x::Ce.cs r
theorem Ce.cs_eq(l:List Ce):Ce.cs l=l.map (ceL):=by induction l with | nil=>rfl | cons x r ih=>simp [Ce.cs,ih]
theorem Ce.cs_len(l:List Ce):(Ce.cs l).length=l.length:=by simp [Ce.cs_eq]
theorem Ce.cs_at{l:List Ce}{i:Nat}(h:i<l.length):(Ce.cs l).getD i []=ceL (l.getD i default):=by rw [Ce.cs_eq]; simp [List.getD,h]
section
variable {P:Program}
def xCe(l:List Ce)(i:Nat)(h:i<l.length:=by omega):Stp P:=ar ((Ce.cs l).getD i []) (ceL (l.getD i default)) (by rw [Ce.cs_at h])
def mxCe(l:List Ce)(e:Int)(h:0≤e∧e<(l.length:Int):=by omega):Stp P:=am ((0:Int)≤e∧e<((Ce.cs l).length:Int)) (by rw [Ce.cs_len]; exact h)
def rgCe{l:List Ce}{i:Nat}(h:i<l.length):Stp P:=s2 (dtl h) (s2 (mxCe l (i:Int)) (xCe l i h))
end
theorem Ce.cs_snoc(l:List Ce)(x:Ce):Ce.cs (l++[x])=Ce.cs l++[ceL x]:=by simp [Ce.cs_eq]
theorem Ce.cs_mk(l:List Ce)(n:BA)(k:Int):Ce.cs (l++[.mk n k])=Ce.cs l++[[.str n,.int .i64 k]]:=by simp [Ce.cs_eq,ceN,ceK]
inductive Fc where
 | mk (n:BA) (a:List Int) (r:Int)
instance:Inhabited Fc:=⟨.mk nm0 [] 0⟩
def fcN:Fc->BA | .mk x _ _=>x
def fcA:Fc->List Int | .mk _ x _=>x
def fcR:Fc->Int | .mk _ _ x=>x
abbrev fcL(x:Fc):List PV:=[.str (fcN x),.sl 1 (ntC (fcA x)),.int .i64 (fcR x)]
def Fc.cs:List Fc->List (List PV)
 | []=>[]
 | x::r=>fcL x::Fc.cs r
theorem Fc.cs_eq(l:List Fc):Fc.cs l=l.map (fcL):=by induction l with | nil=>rfl | cons x r ih=>simp [Fc.cs,ih]
theorem Fc.cs_len(l:List Fc):(Fc.cs l).length=l.length:=by simp [Fc.cs_eq]
theorem Fc.cs_at{l:List Fc}{i:Nat}(h:i<l.length):(Fc.cs l).getD i []=fcL (l.getD i default):=by rw [Fc.cs_eq]; simp [List.getD,h]
section
variable {P:Program}
def xFc(l:List Fc)(i:Nat)(h:i<l.length:=by omega):Stp P:=ar ((Fc.cs l).getD i []) (fcL (l.getD i default)) (by rw [Fc.cs_at h])
def mxFc(l:List Fc)(e:Int)(h:0≤e∧e<(l.length:Int):=by omega):Stp P:=am ((0:Int)≤e∧e<((Fc.cs l).length:Int)) (by rw [Fc.cs_len]; exact h)
def rgFc{l:List Fc}{i:Nat}(h:i<l.length):Stp P:=s2 (dtl h) (s2 (mxFc l (i:Int)) (xFc l i h))
end
theorem Fc.cs_snoc(l:List Fc)(x:Fc):Fc.cs (l++[x])=Fc.cs l++[fcL x]:=by simp [Fc.cs_eq]
theorem gNt{l:List Int}{i:Nat}(h:i<l.length):l.getD i default∈l:=getD_mem h
theorem gFc{l:List Fc}{i:Nat}(h:i<l.length):l.getD i default∈l:=getD_mem h
def trS_r0(b:Bool):Int:=(if b=true then 1 else 0)
theorem trS(b:Bool):Pu 113 [.bool b] (rI (trS_r0 b)):=by
 by_cases h0:b=true
 ·simp only [trS_r0,iP h0]; exact pm mdL [bt1 h0] func113
 ·simp only [trS_r0,iN h0]; exact pm mdL [bf1 (bFT h0)] func113
def opV_r0(o:Int)(a:Int)(b:Int):Int:=(if o=6 then (nAdd_r0 a b) else (if o=7 then (nSub_r0 a b) else (if o=8 then (nMul_r0 a b) else (if o=10 then (trS_r0 (a==b)) else (if o=11 then (trS_r0 (a != b)) else (if o=12 then (trS_r0 (decide (a<b))) else (if o=13 then (trS_r0 (decide (a<=b))) else (if o=15 then (if a=0 then 0 else (trS_r0 (b != 0))) else (if o=16 then (if a=0 then (trS_r0 (b != 0)) else 1) else (if o=17 then (if a=0 then 1 else (trS_r0 (b != 0))) else (if o=18 then (trS_r0 (if true=true then (a != 0)==(b != 0) else !(a != 0)==(b != 0))) else 0)))))))))))
def opV_r1(o:Int)(a:Int)(b:Int):Bool:=(if o=6 then (nAdd_r1 a b) else (if o=7 then (nSub_r1 a b) else (if o=8 then (nMul_r1 a b) else (if o=10 then true else (if o=11 then true else (if o=12 then true else (if o=13 then true else (if o=15 then (if a=0 then true else true) else (if o=16 then (if a=0 then true else true) else (if o=17 then (if a=0 then true else true) else (if o=18 then true else false)))))))))))
theorem opV(o a b:Int):Pu 114 [pI o,pI a,pI b] (.ret (.tup [pI (opV_r0 o a b),.bool (opV_r1 o a b)])):=by
 refine t0 ?_;by_cases h0:o=6
 ·simp only [opV_r0,opV_r1,iP h0]; exact tM mdL [et1 h0,cl (@nAdd a b)] func114
 ·refine tp [en1 h0] ?_;by_cases h1:o=7
  ·simp only [opV_r0,opV_r1,iN h0,iP h1]; exact tM mdL [et1 h1,cl (@nSub a b)] func114
  ·refine tp [en1 h1] ?_;by_cases h2:o=8
   ·simp only [opV_r0,opV_r1,iN h0,iN h1,iP h2]; exact tM mdL [et1 h2,cl (@nMul a b)] func114
   ·refine tp [en1 h2] ?_;by_cases h3:o=10
    ·simp only [opV_r0,opV_r1,iN h0,iN h1,iN h2,iP h3]; exact tM mdL [et1 h3,cl (@trS (a==b))] func114
    ·refine tp [en1 h3] ?_;by_cases h4:o=11
     ·simp only [opV_r0,opV_r1,iN h0,iN h1,iN h2,iN h3,iP h4]; exact tM mdL [et1 h4,cl (@trS (a != b))] func114
     ·refine tp [en1 h4] ?_;by_cases h5:o=12
      ·simp only [opV_r0,opV_r1,iN h0,iN h1,iN h2,iN h3,iN h4,iP h5]; exact tM mdL [et1 h5,cl (@trS (decide (a<b)))] func114
      ·refine tp [en1 h5] ?_;by_cases h6:o=13
       ·simp only [opV_r0,opV_r1,iN h0,iN h1,iN h2,iN h3,iN h4,iN h5,iP h6]; exact tM mdL [et1 h6,cl (@trS (decide (a<=b)))] func114
       ·refine tp [en1 h6] ?_;by_cases h7:o=15
        ·refine tp [et1 h7] ?_;by_cases h8:a=0
         ·simp only [opV_r0,opV_r1,iN h0,iN h1,iN h2,iN h3,iN h4,iN h5,iN h6,iP h7,iP h8]; exact tM mdL [rp 3 (nn1 h8),cl (@trS false)] func114
         ·simp only [opV_r0,opV_r1,iN h0,iN h1,iN h2,iN h3,iN h4,iN h5,iN h6,iP h7,iN h8]; exact tM mdL [rp 3 (nt1 h8),cl (@trS (b != 0))] func114
        ·refine tp [en1 h7] ?_;by_cases h8:o=16
         ·refine tp [et1 h8] ?_;by_cases h9:a=0
          ·simp only [opV_r0,opV_r1,iN h0,iN h1,iN h2,iN h3,iN h4,iN h5,iN h6,iN h7,iP h8,iP h9]; exact tM mdL [rp 3 (nn1 h9),cl (@trS (b != 0))] func114
          ·simp only [opV_r0,opV_r1,iN h0,iN h1,iN h2,iN h3,iN h4,iN h5,iN h6,iN h7,iP h8,iN h9]; exact tM mdL [rp 3 (nt1 h9),cl (@trS true)] func114
         ·refine tp [en1 h8] ?_;by_cases h9:o=17
          ·refine tp [et1 h9] ?_;by_cases h10:a=0
           ·simp only [opV_r0,opV_r1,iN h0,iN h1,iN h2,iN h3,iN h4,iN h5,iN h6,iN h7,iN h8,iP h9,iP h10]; exact tM mdL [rp 3 (et1 h10),cl (@trS true)] func114
           ·simp only [opV_r0,opV_r1,iN h0,iN h1,iN h2,iN h3,iN h4,iN h5,iN h6,iN h7,iN h8,iP h9,iN h10]; exact tM mdL [rp 3 (en1 h10),cl (@trS (b != 0))] func114
          ·refine tp [en1 h9] ?_;by_cases h10:o=18
           ·simp only [opV_r0,opV_r1,iN h0,iN h1,iN h2,iN h3,iN h4,iN h5,iN h6,iN h7,iN h8,iN h9,iP h10]; exact tM mdL [et1 h10,cl (@trS (if true=true then (a != 0)==(b != 0) else !(a != 0)==(b != 0)))] func114
           ·simp only [opV_r0,opV_r1,iN h0,iN h1,iN h2,iN h3,iN h4,iN h5,iN h6,iN h7,iN h8,iN h9,iN h10]; exact tM mdL [en1 h10] func114
abbrev fdA_I(l:List Ce)(s:BA)(j:Int)(e:Ext):S:=S.mk [(1,vS s),(8,vL 2 (Ce.cs l)),(9,vI6 (l.length:Int)),(10,vI6 j)] [] e
inductive fdA_R where
 | e0 (el:Ce)
 | e1
def fdA_f(s:BA):List Ce->fdA_R
 | []=>(fdA_R.e1)
 | el::r=>(if ceN el=s then (fdA_R.e0 el) else fdA_f s r)
def fdA_q(l:List Ce)(s:BA)(e:Ext):fdA_R->PExit × S
 | .e0 el=>(.ret,S.mk [(1,vS s),(8,vL 2 (Ce.cs l)),(9,vI6 (l.length:Int)),(4,vI6 (ceK el)),(5,.v (.bool true))] [] e)
 | .e1=>(.exit 0,S.mk [(1,vS s),(8,vL 2 (Ce.cs l)),(9,vI6 (l.length:Int))] [] e)
theorem fdA_lp(l:List Ce)(s:BA)(e:Ext)(hN:l.length<=1000000000):(Ob.loop 21 (loopF f110 0) (fdA_I l s 0  e) (fdA_q l s e (fdA_f s (l))).1 (fdA_q l s e (fdA_f s (l))).2).ok prog:=by
 refine rng l.length (fun j _=>fdA_I l s j  e) (fun i _=>fdA_f s (List.drop i (l))) (fdA_q l s e) (fun i _=>True) kR ?_ () trivial
 rintro i u hi -
 rcases Nat.lt_or_ge i (l.length) with hlt | hge
 ·have hd:=drop_at hlt
  by_cases h0:ceN (List.getD l i default)=s
  ·exact lX mdL [rgCe hlt,bt (ByteArray.toList (ceN (List.getD l i default))==ByteArray.toList s) (bsT h0)] (fdA_R.e0 (List.getD (l) i default)) (by rw [hd,fdA_f,iP h0])
  ·exact lN mdL [rgCe hlt,bf (ByteArray.toList (ceN (List.getD l i default))==ByteArray.toList s) (bsF h0),wr ((i:Int)+1)] hlt () trivial (by rw [hd,fdA_f,iN h0])
 ·have he:i=l.length:=by omega
  exact lX mdL [df ((i:Int)<(l.length:Int))] (fdA_R.e1) (by rw [he,List.drop_length,fdA_f])
section
variable (l:List Ce) (s:BA) (hN:l.length<=1000000000)
include l s hN
theorem fdL_1(hy0:Ce)(hx1:fdA_f s l=fdA_R.e0 hy0):Pu 110 [.sl 2 (Ce.cs l),.str s] (.ret (.tup [pI (ceK hy0),.bool true])):=
 pu mdL (fun e=>[sl (Ce.cs_len l),lq (rz (fdA_lp (l) (s) (e) hN) hx1)]) func110
theorem fdL_2(hx0:fdA_f s l=fdA_R.e1):Pu 110 [.sl 2 (Ce.cs l),.str s] (.ret (.tup [pI 0,.bool false])):=
 pu mdL (fun e=>[sl (Ce.cs_len l),lq (rz (fdA_lp (l) (s) (e) hN) hx0)]) func110
end
abbrev eqA_I(l1:List Int)(l2:List Int)(j:Int)(e:Ext):S:=S.mk [(0,vL 1 (ntC l1)),(1,vL 1 (ntC l2)),(12,vI6 (l1.length:Int)),(13,vI6 j)] [] e
inductive eqA_R where
 | e0
 | e1
def eqA_f(l2:List Int):List Int->Nat->eqA_R
 | [],i=>(eqA_R.e1)
 | el::r,i=>(if el=List.getD l2 i default then eqA_f l2 r (i+1)  else (eqA_R.e0))
def eqA_q(l1:List Int)(l2:List Int)(e:Ext):eqA_R->PExit × S
 | .e0=>(.ret,S.mk [(0,vL 1 (ntC l1)),(1,vL 1 (ntC l2)),(12,vI6 (l1.length:Int)),(4,.v (.bool false))] [] e)
 | .e1=>(.exit 0,S.mk [(0,vL 1 (ntC l1)),(1,vL 1 (ntC l2)),(12,vI6 (l1.length:Int))] [] e)
theorem eqA_lp(l1 l2:List Int)(hl12:l1.length=l2.length)(e:Ext)(hN:l1.length<=1000000000):(Ob.loop 26 (loopF f143 0) (eqA_I l1 l2 0  e) (eqA_q l1 l2 e (eqA_f l2 (l1) 0)).1 (eqA_q l1 l2 e (eqA_f l2 (l1) 0)).2).ok prog:=by
 refine rng l1.length (fun j _=>eqA_I l1 l2 j  e) (fun i _=>eqA_f l2 (List.drop i (l1)) i) (eqA_q l1 l2 e) (fun i _=>True) kR ?_ () trivial
 rintro i u hi -
 rcases Nat.lt_or_ge i (l1.length) with hlt | hge
 ·have hd:=drop_at hlt
  refine t0 ?_;refine tp [dt ((i:Int)<(l1.length:Int)),am ((0:Int)<=(i:Int)/\(i:Int)<((ntC l1).length:Int)) (by (simp only [ntC_len]; omega)),ar (List.getD (ntC l1) (Int.toNat (i:Int)) []) [pI (List.getD l1 i default)] (by simp only [Int.toNat_natCast,Int.toNat_zero]; rw [@ntC_at (l1) (i) hlt]; try rfl),am ((0:Int)<=(i:Int)/\(i:Int)<((ntC l2).length:Int)) (by (simp only [ntC_len]; omega)),ar (List.getD (ntC l2) (Int.toNat (i:Int)) []) [pI (List.getD l2 i default)] (by simp only [Int.toNat_natCast,Int.toNat_zero]; rw [@ntC_at (l2) (i) oM]; try rfl)] ?_;by_cases h0:List.getD l1 i default=List.getD l2 i default
  ·exact tN mdL [nn1 h0,wr ((i:Int)+1)] hlt () trivial (by rw [hd,eqA_f,iP h0])
  ·exact tX mdL [nt1 h0] (eqA_R.e0) (by rw [hd,eqA_f,iN h0])
 ·have he:i=l1.length:=by omega
  exact lX mdL [df ((i:Int)<(l1.length:Int))] (eqA_R.e1) (by rw [he,List.drop_length,eqA_f])
section
variable (l1 l2:List Int) (hN:l1.length<=1000000000) (hN2:l2.length<=1000000000)
include l1 l2 hN hN2
theorem eqL_1(hx0:¬(l1.length:Int)=(l2.length:Int)):Pu 143 [.sl 1 (ntC l1),.sl 1 (ntC l2)] (rB false):=
 pm mdL [sl (ntC_len l1),sl (ntC_len l2),nt1 hx0] func143
theorem eqL_2(hx0:(l1.length:Int)=(l2.length:Int))(hx1:eqA_f l2 l1 0=eqA_R.e0):Pu 143 [.sl 1 (ntC l1),.sl 1 (ntC l2)] (rB false):=
 pu mdL (fun e=>[sl (ntC_len l1),sl (ntC_len l2),nn1 hx0,sl (ntC_len l1),lq (rz (eqA_lp (l1) (l2) oM (e) hN) hx1)]) func143
theorem eqL_3(hx0:(l1.length:Int)=(l2.length:Int))(hx1:eqA_f l2 l1 0=eqA_R.e1):Pu 143 [.sl 1 (ntC l1),.sl 1 (ntC l2)] (rB true):=
 pu mdL (fun e=>[sl (ntC_len l1),sl (ntC_len l2),nn1 hx0,sl (ntC_len l1),lq (rz (eqA_lp (l1) (l2) oM (e) hN) hx1)]) func143
end
def fdF(l:List Ce)(s:BA):Int × Bool:=match fdA_f s l with
 | .e0 x=>(ceK x,true)
 | .e1=>(0,false)
theorem fdT(l:List Ce)(s:BA)(hN:l.length<=1000000000):Pu 110 [.sl 2 (Ce.cs l),.str s] (.ret (.tup [.int .i64 (fdF l s).1,.bool (fdF l s).2])):=by
 unfold fdF
 cases h:fdA_f s l with
 | e0 x=>first | exact fdL_1 l s hN x h | exact fdL_2 l s hN x h
 | e1=>first | exact fdL_1 l s hN h | exact fdL_2 l s hN h
def eqF(l1 l2:List Int):Bool:=if l1.length=l2.length then (match eqA_f l2 l1 0 with
 | .e0=>false
 | .e1=>true) else false
theorem eqT(l1 l2:List Int)(hN:l1.length<=1000000000)(hN2:l2.length<=1000000000):Pu 143 [.sl 1 (ntC l1),.sl 1 (ntC l2)] (.ret (.bool (eqF l1 l2))):=by
 unfold eqF
 by_cases hl:l1.length=l2.length
 ·rw [iP hl]
  cases h:eqA_f l2 l1 0 with
  | e0=>first | exact eqL_2 l1 l2 hN hN2 oM h | exact eqL_1 l1 l2 hN hN2 oM h | exact eqL_3 l1 l2 hN hN2 oM h
  | e1=>first | exact eqL_3 l1 l2 hN hN2 oM h | exact eqL_2 l1 l2 hN hN2 oM h | exact eqL_1 l1 l2 hN hN2 oM h
 ·rw [iN hl]
  first | exact eqL_1 l1 l2 hN hN2 oM | exact eqL_3 l1 l2 hN hN2 oM
theorem fc_len{l:List Fc}{i n:Nat}(h:∀w:Fc,w∈l->(fcA w).length<=n)(hi:i<l.length):(fcA (l.getD i default)).length<=n:=h _ (gFc hi)
abbrev ftA_I(pt:List Ce)(ap:List Fc)(nm:BA)(arz:List Int)(j:Int)(e:Ext):S:=S.mk [(1,vS nm),(2,vL 1 (ntC arz)),(11,vL 3 (Fc.cs ap)),(12,vI6 (ap.length:Int)),(13,vI6 j)] [] e
inductive ftA_R where
 | e0 (el:Fc)
 | e1
def ftA_f(nm:BA)(arz:List Int):List Fc->ftA_R
 | []=>(ftA_R.e1)
 | el::r=>(if fcN el=nm then (if eqF (fcA el) arz=true then (ftA_R.e0 el) else ftA_f nm arz r) else ftA_f nm arz r)
def ftA_q(pt:List Ce)(ap:List Fc)(nm:BA)(arz:List Int)(e:Ext):ftA_R->PExit × S
 | .e0 el=>(.ret,S.mk [(1,vS nm),(2,vL 1 (ntC arz)),(11,vL 3 (Fc.cs ap)),(12,vI6 (ap.length:Int)),(6,vI6 (fcR el)),(7,.v (.bool (nIn_r0 (fcR el))))] [] e)
 | .e1=>(.exit 0,S.mk [(1,vS nm),(2,vL 1 (ntC arz)),(11,vL 3 (Fc.cs ap)),(12,vI6 (ap.length:Int))] [] e)
theorem ftA_lp(pt:List Ce)(ap:List Fc)(nm:BA)(arz:List Int)(hNar:arz.length<=1000000000)(haf:∀w:Fc,w∈ap->(fcA w).length<=1000000000)(e:Ext)(hN:ap.length<=1000000000):(Ob.loop 33 (loopF f111 0) (ftA_I pt ap nm arz 0  e) (ftA_q pt ap nm arz e (ftA_f nm arz (ap))).1 (ftA_q pt ap nm arz e (ftA_f nm arz (ap))).2).ok prog:=by
 refine rng ap.length (fun j _=>ftA_I pt ap nm arz j  e) (fun i _=>ftA_f nm arz (List.drop i (ap))) (ftA_q pt ap nm arz e) (fun i _=>True) kR ?_ () trivial
 rintro i u hi -
 rcases Nat.lt_or_ge i (ap.length) with hlt | hge
 ·have hd:=drop_at hlt
  refine t0 ?_;refine tp [rgFc hlt] ?_;by_cases h0:fcN (List.getD ap i default)=nm
  ·refine tp [rp 4 (bt (ByteArray.toList (fcN (List.getD ap i default))==ByteArray.toList nm) (bsT h0)),cl (@eqT (fcA (List.getD ap i default)) arz (by (apply fc_len <;> first | assumption | omega | decide)) hNar),bt (ByteArray.toList (fcN (List.getD ap i default))==ByteArray.toList nm) (bsT h0)] ?_;by_cases h1:eqF (fcA (List.getD ap i default)) arz=true
   ·exact tX mdL [bt1 h1,cl (@nIn (fcR (List.getD ap i default)))] (ftA_R.e0 (List.getD (ap) i default)) (by rw [hd,ftA_f,iP h0,iP h1])
   ·exact tN mdL [bf1 (bFT h1),wr ((i:Int)+1)] hlt () trivial (by rw [hd,ftA_f,iP h0,iN h1])
  ·exact tN mdL [rp 5 (bf (ByteArray.toList (fcN (List.getD ap i default))==ByteArray.toList nm) (bsF h0)),bf false,wr ((i:Int)+1)] hlt () trivial (by rw [hd,ftA_f,iN h0])
 ·have he:i=ap.length:=by omega
  exact lX mdL [df ((i:Int)<(ap.length:Int))] (ftA_R.e1) (by rw [he,List.drop_length,ftA_f])
section
variable (pt:List Ce) (ap:List Fc) (nm:BA) (arz:List Int) (hNar:arz.length<=1000000000) (haf:∀w:Fc,w∈ap->(fcA w).length<=1000000000) (hN:ap.length<=1000000000)
include pt ap nm arz hNar haf hN
theorem ftL_1(hy0:Fc)(hx1:ftA_f nm arz ap=ftA_R.e0 hy0):Pu 111 [.agg [.sl 2 (Ce.cs pt),.sl 3 (Fc.cs ap)],.str nm,.sl 1 (ntC arz)] (.ret (.tup [pI (fcR hy0),.bool (nIn_r0 (fcR hy0))])):=
 pu mdL (fun e=>[sl (Fc.cs_len ap),lq (rz (ftA_lp default (ap) (nm) (arz) hNar haf (e) hN) hx1)]) func111
theorem ftL_2(hx0:ftA_f nm arz ap=ftA_R.e1):Pu 111 [.agg [.sl 2 (Ce.cs pt),.sl 3 (Fc.cs ap)],.str nm,.sl 1 (ntC arz)] (.ret (.tup [pI 0,.bool false])):=
 pu mdL (fun e=>[sl (Fc.cs_len ap),lq (rz (ftA_lp default (ap) (nm) (arz) hNar haf (e) hN) hx0)]) func111
end
abbrev vaA_I(pt:List Ce)(ap:List Fc)(u:Pr)(vf:Pr->Int × Bool)(j:Int)(arz:List Int)(e:Ext):S:=S.mk [(2,.lp 2 0),(3,.lp 3 0),(6,.uniq 3 1 (ntC arz)),(14,vL 4 (Pr.cs (prK u))),(15,vI6 ((prK u).length:Int)),(16,vI6 j)] [(2,[vL 2 (Ce.cs pt),vL 3 (Fc.cs ap)]),(3,prV u)] e
inductive vaA_R where
 | e0 (arz:List Int)
 | e1 (arz:List Int)
def vaA_f(vf:Pr->Int × Bool):List Pr->(List Int)->vaA_R
 | [],ar=>(vaA_R.e1 ar)
 | el::r,ar=>(if Prod.snd (vf el)=false then (vaA_R.e0 ar) else vaA_f vf r (ar++[Prod.fst (vf el)]))
def vaA_q(pt:List Ce)(ap:List Fc)(u:Pr)(vf:Pr->Int × Bool)(e:Ext):vaA_R->PExit × S
 | .e0 ar=>(.ret,S.mk [(2,.lp 2 0),(3,.lp 3 0),(6,.uniq 3 1 (ntC ar)),(14,vL 4 (Pr.cs (prK u))),(15,vI6 ((prK u).length:Int)),(4,vI6 0),(5,.v (.bool false))] [(2,[vL 2 (Ce.cs pt),vL 3 (Fc.cs ap)]),(3,prV u)] e)
 | .e1 ar=>(.exit 0,S.mk [(2,.lp 2 0),(3,.lp 3 0),(6,.uniq 3 1 (ntC ar)),(14,vL 4 (Pr.cs (prK u))),(15,vI6 ((prK u).length:Int))] [(2,[vL 2 (Ce.cs pt),vL 3 (Fc.cs ap)]),(3,prV u)] e)
theorem vaA_lp(pt:List Ce)(ap:List Fc)(u:Pr)(vf:Pr->Int × Bool)(hwk:∀w:Pr,w∈prK u->Pu 69 [.agg [.sl 2 (Ce.cs pt),.sl 3 (Fc.cs ap)],.agg (prL w)] (.ret (.tup [.int .i64 (vf w).1,.bool (vf w).2])))(e:Ext)(hN:(prK u).length<=1000000000)(arz:List Int)(hv:(arz.length=0)):(Ob.loop 93 (loopF f69 0) (vaA_I pt ap u vf 0 arz e) (vaA_q pt ap u vf e (vaA_f vf ((prK u))  arz)).1 (vaA_q pt ap u vf e (vaA_f vf ((prK u))  arz)).2).ok prog:=by
 refine rng ((prK u).length) (fun j arz=>vaA_I pt ap u vf j arz e) (fun i arz=>vaA_f vf (List.drop i ((prK u)))  arz) (vaA_q pt ap u vf e) (fun i arz=>(arz.length=i)) kR ?_ arz (by first | exact hv | omega)
 rintro i arz hi hv
 try simp only at hv
 rcases Nat.lt_or_ge i ((prK u).length) with hlt | hge
 ·have hd:=drop_at hlt
  refine t0 ?_;refine tp [rgPr hlt,cl (@hwk (List.getD (prK u) i default) (by simp_all [Bool.not_eq_true,Bool.not_eq_false,ntC_len]))] ?_;by_cases h0:Prod.snd (vf (List.getD (prK u) i default))=false
  ·exact tX mdL [bt1 (bnT h0)] (vaA_R.e0 arz) (by rw [hd,vaA_f,iP h0])
  ·exact tS mdL [bf1 (bnF (bTF h0)),am (List.length (ntC arz++[[pI (Prod.fst (vf (List.getD (prK u) i default)))]]) * (7+1)<=140737488355328) (by (simp only [List.length_append,List.length_cons,List.length_nil,ntC_len]; omega)),wr ((i:Int)+1)] [2,3,6,14,15,16,4,5] [2,3] hlt (arz++[Prod.fst (vf (List.getD (prK u) i default))]) (S.mk [(2,.lp 2 0),(3,.lp 3 0),(6,.uniq 3 1 (ntC arz++[[pI (Prod.fst (vf (List.getD (prK u) i default)))]])),(14,vL 4 (Pr.cs (prK u))),(15,vI6 ((prK u).length:Int)),(16,vI6 ((i:Int)+1))] [(2,[vL 2 (Ce.cs pt),vL 3 (Fc.cs ap)]),(3,prV u)] e) ⟨⟨W,W,(.inl (by first | (simp only [List.nil_append,nmsC_app,nmsC_snoc,Pr.cs_snoc,Tp.cs_snoc,Ex.cs_snoc,Vr.cs_snoc,Df.cs_snoc,ntC_snoc,Ce.cs_snoc,Fc.cs_snoc]; done) | (simp only [List.nil_append,nmsC_app,nmsC_snoc,Pr.cs_snoc,Tp.cs_snoc,Ex.cs_snoc,Vr.cs_snoc,Df.cs_snoc,ntC_snoc,Ce.cs_snoc,Fc.cs_snoc]; rfl))),W,W,W,tVv⟩,⟨Ws,Ws,tVv⟩,rfl⟩ (by first | assumption | omega | (apply gFc <;> first | assumption | omega | decide) | (apply fc_len <;> first | assumption | omega | decide) | (simp only [List.length_append,List.length_cons,List.length_nil] at *; omega) | simp_all) (by rw [hd,vaA_f,iN h0])
 ·have he:i=(prK u).length:=by omega
  exact lX mdL [df ((i:Int)<((prK u).length:Int))] (vaA_R.e1 arz) (by rw [he,List.drop_length,vaA_f])
theorem va_len{vf:Pr->Int × Bool}:∀ {l:List Pr} {a b:List Int},vaA_f vf l a = .e1 b->b.length=a.length+l.length
 | [],a,b,h=>by injection h with h; subst h; rfl
 | x::r,a,b,h=>by
  rw [vaA_f] at h
  split at h
  ·cases h
  ·have:=va_len h
   simp only [List.length_append,List.length_cons,List.length_nil] at this ⊢
   omega
def ftF(ap:List Fc)(nm:BA)(arz:List Int):Int × Bool:=match ftA_f nm arz ap with
 | .e0 x=>(fcR x,nIn_r0 (fcR x))
 | .e1=>(0,false)
theorem ftT(pt:List Ce)(ap:List Fc)(nm:BA)(arz:List Int)(hNar:arz.length<=1000000000)(haf:∀w:Fc,w∈ap->(fcA w).length<=1000000000)(hN:ap.length<=1000000000):Pu 111 [.agg [.sl 2 (Ce.cs pt),.sl 3 (Fc.cs ap)],.str nm,.sl 1 (ntC arz)] (.ret (.tup [.int .i64 (ftF ap nm arz).1,.bool (ftF ap nm arz).2])):=by
 unfold ftF
 cases h:ftA_f nm arz ap with
 | e0 x=>first | exact ftL_1 pt ap nm arz hNar haf hN x h | exact ftL_2 pt ap nm arz hNar haf hN x h
 | e1=>first | exact ftL_1 pt ap nm arz hNar haf hN h | exact ftL_2 pt ap nm arz hNar haf hN h
theorem va_l0{vf:Pr->Int × Bool}{l:List Pr}{b:List Int}(h:vaA_f vf l [] = .e1 b)(hl:0<l.length):(0:Int)<=0/\(0:Int)<(b.length:Int):=by have:=va_len h; simp at this; omega
theorem va_l1{vf:Pr->Int × Bool}{l:List Pr}{b:List Int}(h:vaA_f vf l [] = .e1 b)(hl:1<l.length):(0:Int)<=1/\(1:Int)<(b.length:Int):=by have:=va_len h; simp at this; omega
theorem va_l2{vf:Pr->Int × Bool}{l:List Pr}{b:List Int}{n:Nat}(h:vaA_f vf l [] = .e1 b)(hl:l.length<=n):b.length<=n:=by have:=va_len h; simp at this; omega
theorem va_k0{vf:Pr->Int × Bool}{l:List Pr}{b:List Int}(h:vaA_f vf l [] = .e1 b)(hl:0<l.length):0<b.length:=by have:=va_len h; simp at this; omega
theorem va_k1{vf:Pr->Int × Bool}{l:List Pr}{b:List Int}(h:vaA_f vf l [] = .e1 b)(hl:1<l.length):1<b.length:=by have:=va_len h; simp at this; omega
theorem va_m0{vf:Pr->Int × Bool}{l:List Pr}{b:List Int}(h:vaA_f vf l [] = .e1 b)(hl:0<l.length):(0:Int)<=0/\(0:Int)<((ntC b).length:Int):=by rw [ntC_len]; exact va_l0 h hl
theorem va_m1{vf:Pr->Int × Bool}{l:List Pr}{b:List Int}(h:vaA_f vf l [] = .e1 b)(hl:1<l.length):(0:Int)<=1/\(1:Int)<((ntC b).length:Int):=by rw [ntC_len]; exact va_l1 h hl
section
variable (pt:List Ce) (ap:List Fc) (u:Pr) (vf:Pr->Int × Bool) (hwk:∀w:Pr,w∈prK u->Pu 69 [.agg [.sl 2 (Ce.cs pt),.sl 3 (Fc.cs ap)],.agg (prL w)] (.ret (.tup [.int .i64 (vf w).1,.bool (vf w).2]))) (hK:(prK u).length<=1000000000) (hpt:pt.length<=1000000000) (hap:ap.length<=1000000000) (haf:∀w:Fc,w∈ap->(fcA w).length<=1000000000) (hk1:¬prO u=1->¬prO u=2->¬prO u=3->¬prO u=4->¬prO u=5->0<(prK u).length) (hk2:¬prO u=1->¬prO u=2->¬prO u=3->¬prO u=4->¬prO u=5->¬prO u=9->¬prO u=14->1<(prK u).length) (hy0:List Int)
include pt ap u vf hwk hK hpt hap haf hk1 hk2 hy0
theorem vaL_1(hx1:vaA_f vf (prK u) []=vaA_R.e0 hy0):Pu 69 [.agg [.sl 2 (Ce.cs pt),.sl 3 (Fc.cs ap)],.agg (prL u)] (.ret (.tup [pI 0,.bool false])):=
 pu mdL (fun e=>[sl (Pr.cs_len (prK u)),lp (S.mk [(2,.lp 2 0),(3,.lp 3 0),(6,.v .nilsl),(14,vL 4 (Pr.cs (prK u))),(15,vI6 ((prK u).length:Int)),(16,vI6 0)] [(2,[vL 2 (Ce.cs pt),vL 3 (Fc.cs ap)]),(3,prV u)] e) (rz (vaA_lp (pt) (ap) (u) (vf) hwk (e) hK ([]) (by (simp only [List.length_nil, *]; done))) hx1) ⟨⟨W,W,Wq,W,W,W,tVv⟩,⟨⟨W,W,tVv⟩,⟨W,W,W,W,tVv⟩,tVv⟩,rfl⟩]) func69
theorem vaL_2(hx1:vaA_f vf (prK u) []=vaA_R.e1 hy0)(hx2:prO u=1):Pu 69 [.agg [.sl 2 (Ce.cs pt),.sl 3 (Fc.cs ap)],.agg (prL u)] (.ret (.tup [pI (prN u),.bool true])):=
 pu mdL (fun e=>[sl (Pr.cs_len (prK u)),lp (S.mk [(2,.lp 2 0),(3,.lp 3 0),(6,.v .nilsl),(14,vL 4 (Pr.cs (prK u))),(15,vI6 ((prK u).length:Int)),(16,vI6 0)] [(2,[vL 2 (Ce.cs pt),vL 3 (Fc.cs ap)]),(3,prV u)] e) (rz (vaA_lp (pt) (ap) (u) (vf) hwk (e) hK ([]) (by (simp only [List.length_nil, *]; done))) hx1) ⟨⟨W,W,Wq,W,W,W,tVv⟩,⟨⟨W,W,tVv⟩,⟨W,W,W,W,tVv⟩,tVv⟩,rfl⟩,rp 2 (et1 hx2)]) func69
theorem vaL_3(hx1:vaA_f vf (prK u) []=vaA_R.e1 hy0)(hx2:¬prO u=1)(hx3:prO u=2):Pu 69 [.agg [.sl 2 (Ce.cs pt),.sl 3 (Fc.cs ap)],.agg (prL u)] (.ret (.tup [pI (prN u),.bool true])):=
 pu mdL (fun e=>[sl (Pr.cs_len (prK u)),lp (S.mk [(2,.lp 2 0),(3,.lp 3 0),(6,.v .nilsl),(14,vL 4 (Pr.cs (prK u))),(15,vI6 ((prK u).length:Int)),(16,vI6 0)] [(2,[vL 2 (Ce.cs pt),vL 3 (Fc.cs ap)]),(3,prV u)] e) (rz (vaA_lp (pt) (ap) (u) (vf) hwk (e) hK ([]) (by (simp only [List.length_nil, *]; done))) hx1) ⟨⟨W,W,Wq,W,W,W,tVv⟩,⟨⟨W,W,tVv⟩,⟨W,W,W,W,tVv⟩,tVv⟩,rfl⟩,en1 hx2,et1 hx3]) func69
theorem vaL_4(hx1:vaA_f vf (prK u) []=vaA_R.e1 hy0)(hx2:¬prO u=1)(hx3:¬prO u=2)(hx4:prO u=3)(hx5:Prod.snd (fdF pt (prNm u))=true):Pu 69 [.agg [.sl 2 (Ce.cs pt),.sl 3 (Fc.cs ap)],.agg (prL u)] (.ret (.tup [pI (Prod.fst (fdF pt (prNm u))),.bool (nIn_r0 (Prod.fst (fdF pt (prNm u))))])):=
 pu mdL (fun e=>[sl (Pr.cs_len (prK u)),lp (S.mk [(2,.lp 2 0),(3,.lp 3 0),(6,.v .nilsl),(14,vL 4 (Pr.cs (prK u))),(15,vI6 ((prK u).length:Int)),(16,vI6 0)] [(2,[vL 2 (Ce.cs pt),vL 3 (Fc.cs ap)]),(3,prV u)] e) (rz (vaA_lp (pt) (ap) (u) (vf) hwk (e) hK ([]) (by (simp only [List.length_nil, *]; done))) hx1) ⟨⟨W,W,Wq,W,W,W,tVv⟩,⟨⟨W,W,tVv⟩,⟨W,W,W,W,tVv⟩,tVv⟩,rfl⟩,en1 hx2,en1 hx3,et1 hx4,cl (@fdT pt (prNm u) hpt),rp 2 (bt1 hx5),cl (@nIn (Prod.fst (fdF pt (prNm u)))),bt1 hx5]) func69
theorem vaL_5(hx1:vaA_f vf (prK u) []=vaA_R.e1 hy0)(hx2:¬prO u=1)(hx3:¬prO u=2)(hx4:prO u=3)(hx5:Prod.snd (fdF pt (prNm u))=false):Pu 69 [.agg [.sl 2 (Ce.cs pt),.sl 3 (Fc.cs ap)],.agg (prL u)] (.ret (.tup [pI (Prod.fst (fdF pt (prNm u))),.bool false])):=
 pu mdL (fun e=>[sl (Pr.cs_len (prK u)),lp (S.mk [(2,.lp 2 0),(3,.lp 3 0),(6,.v .nilsl),(14,vL 4 (Pr.cs (prK u))),(15,vI6 ((prK u).length:Int)),(16,vI6 0)] [(2,[vL 2 (Ce.cs pt),vL 3 (Fc.cs ap)]),(3,prV u)] e) (rz (vaA_lp (pt) (ap) (u) (vf) hwk (e) hK ([]) (by (simp only [List.length_nil, *]; done))) hx1) ⟨⟨W,W,Wq,W,W,W,tVv⟩,⟨⟨W,W,tVv⟩,⟨W,W,W,W,tVv⟩,tVv⟩,rfl⟩,en1 hx2,en1 hx3,et1 hx4,cl (@fdT pt (prNm u) hpt),rp 3 (bf1 hx5)]) func69
theorem vaL_6(hx1:vaA_f vf (prK u) []=vaA_R.e1 hy0)(hx2:¬prO u=1)(hx3:¬prO u=2)(hx4:¬prO u=3)(hx5:prO u=4):Pu 69 [.agg [.sl 2 (Ce.cs pt),.sl 3 (Fc.cs ap)],.agg (prL u)] (.ret (.tup [pI (Prod.fst (ftF ap (prNm u) hy0)),.bool (Prod.snd (ftF ap (prNm u) hy0))])):=
 pu mdL (fun e=>[sl (Pr.cs_len (prK u)),lp (S.mk [(2,.lp 2 0),(3,.lp 3 0),(6,.v .nilsl),(14,vL 4 (Pr.cs (prK u))),(15,vI6 ((prK u).length:Int)),(16,vI6 0)] [(2,[vL 2 (Ce.cs pt),vL 3 (Fc.cs ap)]),(3,prV u)] e) (rz (vaA_lp (pt) (ap) (u) (vf) hwk (e) hK ([]) (by (simp only [List.length_nil, *]; done))) hx1) ⟨⟨W,W,Wq,W,W,W,tVv⟩,⟨⟨W,W,tVv⟩,⟨W,W,W,W,tVv⟩,tVv⟩,rfl⟩,en1 hx2,en1 hx3,en1 hx4,et1 hx5,cl (@ftT pt ap (prNm u) hy0 (by (apply va_l2 <;> first | assumption | omega | decide)) haf hap)]) func69
theorem vaL_7(hx1:vaA_f vf (prK u) []=vaA_R.e1 hy0)(hx2:¬prO u=1)(hx3:¬prO u=2)(hx4:¬prO u=3)(hx5:¬prO u=4)(hx6:prO u=5):Pu 69 [.agg [.sl 2 (Ce.cs pt),.sl 3 (Fc.cs ap)],.agg (prL u)] (.ret (.tup [pI 0,.bool false])):=
 pu mdL (fun e=>[sl (Pr.cs_len (prK u)),lp (S.mk [(2,.lp 2 0),(3,.lp 3 0),(6,.v .nilsl),(14,vL 4 (Pr.cs (prK u))),(15,vI6 ((prK u).length:Int)),(16,vI6 0)] [(2,[vL 2 (Ce.cs pt),vL 3 (Fc.cs ap)]),(3,prV u)] e) (rz (vaA_lp (pt) (ap) (u) (vf) hwk (e) hK ([]) (by (simp only [List.length_nil, *]; done))) hx1) ⟨⟨W,W,Wq,W,W,W,tVv⟩,⟨⟨W,W,tVv⟩,⟨W,W,W,W,tVv⟩,tVv⟩,rfl⟩,en1 hx2,en1 hx3,en1 hx4,en1 hx5,et1 hx6]) func69
theorem vaL_8(hx1:vaA_f vf (prK u) []=vaA_R.e1 hy0)(hx2:¬prO u=1)(hx3:¬prO u=2)(hx4:¬prO u=3)(hx5:¬prO u=4)(hx6:¬prO u=5)(hx7:prO u=9):Pu 69 [.agg [.sl 2 (Ce.cs pt),.sl 3 (Fc.cs ap)],.agg (prL u)] (.ret (.tup [pI (nSub_r0 0 (List.getD hy0 0 default)),.bool (nSub_r1 0 (List.getD hy0 0 default))])):=
 pu mdL (fun e=>[sl (Pr.cs_len (prK u)),lp (S.mk [(2,.lp 2 0),(3,.lp 3 0),(6,.v .nilsl),(14,vL 4 (Pr.cs (prK u))),(15,vI6 ((prK u).length:Int)),(16,vI6 0)] [(2,[vL 2 (Ce.cs pt),vL 3 (Fc.cs ap)]),(3,prV u)] e) (rz (vaA_lp (pt) (ap) (u) (vf) hwk (e) hK ([]) (by (simp only [List.length_nil, *]; done))) hx1) ⟨⟨W,W,Wq,W,W,W,tVv⟩,⟨⟨W,W,tVv⟩,⟨W,W,W,W,tVv⟩,tVv⟩,rfl⟩,en1 hx2,en1 hx3,en1 hx4,en1 hx5,en1 hx6,et1 hx7,am ((0:Int)<=0/\0<((ntC hy0).length:Int)) (by (apply va_m0 <;> first | assumption | omega | decide)),ar (List.getD (ntC hy0) 0 []) [pI (List.getD hy0 0 default)] (by rw [@ntC_at (hy0) (0) (by (apply va_k0 <;> first | assumption | omega | decide))]; try rfl),cl (@nSub 0 (List.getD hy0 0 default))]) func69
theorem vaL_9(hx1:vaA_f vf (prK u) []=vaA_R.e1 hy0)(hx2:¬prO u=1)(hx3:¬prO u=2)(hx4:¬prO u=3)(hx5:¬prO u=4)(hx6:¬prO u=5)(hx7:¬prO u=9)(hx8:prO u=14):Pu 69 [.agg [.sl 2 (Ce.cs pt),.sl 3 (Fc.cs ap)],.agg (prL u)] (.ret (.tup [pI (trS_r0 (List.getD hy0 0 default==0)),.bool true])):=
 pu mdL (fun e=>[sl (Pr.cs_len (prK u)),lp (S.mk [(2,.lp 2 0),(3,.lp 3 0),(6,.v .nilsl),(14,vL 4 (Pr.cs (prK u))),(15,vI6 ((prK u).length:Int)),(16,vI6 0)] [(2,[vL 2 (Ce.cs pt),vL 3 (Fc.cs ap)]),(3,prV u)] e) (rz (vaA_lp (pt) (ap) (u) (vf) hwk (e) hK ([]) (by (simp only [List.length_nil, *]; done))) hx1) ⟨⟨W,W,Wq,W,W,W,tVv⟩,⟨⟨W,W,tVv⟩,⟨W,W,W,W,tVv⟩,tVv⟩,rfl⟩,en1 hx2,en1 hx3,en1 hx4,en1 hx5,en1 hx6,en1 hx7,et1 hx8,am ((0:Int)<=0/\0<((ntC hy0).length:Int)) (by (apply va_m0 <;> first | assumption | omega | decide)),ar (List.getD (ntC hy0) 0 []) [pI (List.getD hy0 0 default)] (by rw [@ntC_at (hy0) (0) (by (apply va_k0 <;> first | assumption | omega | decide))]; try rfl),cl (@trS (List.getD hy0 0 default==0))]) func69
theorem vaL_10(hx1:vaA_f vf (prK u) []=vaA_R.e1 hy0)(hx2:¬prO u=1)(hx3:¬prO u=2)(hx4:¬prO u=3)(hx5:¬prO u=4)(hx6:¬prO u=5)(hx7:¬prO u=9)(hx8:¬prO u=14):Pu 69 [.agg [.sl 2 (Ce.cs pt),.sl 3 (Fc.cs ap)],.agg (prL u)] (.ret (.tup [pI (opV_r0 (prO u) (List.getD hy0 0 default) (List.getD hy0 1 default)),.bool (opV_r1 (prO u) (List.getD hy0 0 default) (List.getD hy0 1 default))])):=
 pu mdL (fun e=>[sl (Pr.cs_len (prK u)),lp (S.mk [(2,.lp 2 0),(3,.lp 3 0),(6,.v .nilsl),(14,vL 4 (Pr.cs (prK u))),(15,vI6 ((prK u).length:Int)),(16,vI6 0)] [(2,[vL 2 (Ce.cs pt),vL 3 (Fc.cs ap)]),(3,prV u)] e) (rz (vaA_lp (pt) (ap) (u) (vf) hwk (e) hK ([]) (by (simp only [List.length_nil, *]; done))) hx1) ⟨⟨W,W,Wq,W,W,W,tVv⟩,⟨⟨W,W,tVv⟩,⟨W,W,W,W,tVv⟩,tVv⟩,rfl⟩,en1 hx2,en1 hx3,en1 hx4,en1 hx5,en1 hx6,en1 hx7,en1 hx8,am ((0:Int)<=0/\0<((ntC hy0).length:Int)) (by (apply va_m0 <;> first | assumption | omega | decide)),ar (List.getD (ntC hy0) 0 []) [pI (List.getD hy0 0 default)] (by rw [@ntC_at (hy0) (0) (by (apply va_k0 <;> first | assumption | omega | decide))]; try rfl),am ((0:Int)<=1/\1<((ntC hy0).length:Int)) (by (apply va_m1 <;> first | assumption | omega | decide)),ar (List.getD (ntC hy0) 1 []) [pI (List.getD hy0 1 default)] (by rw [@ntC_at (hy0) (1) (by (apply va_k1 <;> first | assumption | omega | decide))]; try rfl),cl (@opV (prO u) (List.getD hy0 0 default) (List.getD hy0 1 default))]) func69
end
end Go.Proofs.YtidabncghfbdaaaGreatDoor
