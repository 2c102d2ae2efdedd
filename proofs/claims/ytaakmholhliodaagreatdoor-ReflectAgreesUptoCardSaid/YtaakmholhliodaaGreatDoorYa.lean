/- Values of Go as plain data, an evaluator over them, and what the functions of the program return; part Ya. -/
import Derived.Test.YtaakmholhliodaaGreatDoorXe
import Derived.Test.YtaakmholhliodaaGreatDoorXh
import Derived.Test.YtaakmholhliodaaGreatDoorProg
import Derived.KernelRfl
import Derived.Test.YtaakmholhliodaaGreatDoorRows
import Derived.JoinedCond
import Derived.Deep.DeepHandedRow
import Derived.Lib.LaidTab
set_option linter.unusedSectionVars false
set_option linter.unusedSimpArgs false
set_option linter.unusedVariables false
namespace Go.Proofs.YtaakmholhliodaaGreatDoor
open Go.Proofs.Tryz
open Go.Pv Go.Proofs.Tryz
abbrev nm0:BA:=ByteArray.mk #[]
inductive Pr where
 | mk (xO:Int) (xNm:BA) (xN:Int) (xK:List Pr)
instance:Inhabited Pr:=⟨.mk 0 nm0 0 []⟩
def prO:Pr->Int | .mk x _ _ _=>x
def prNm:Pr->BA | .mk _ x _ _=>x
def prN:Pr->Int | .mk _ _ x _=>x
def prK:Pr->List Pr | .mk _ _ _ x=>x
inductive Tp where
 | mk (xO:Int) (xNm:BA) (xA:List Tp) (xNs:List BA) (xP:Pr) (xPs:List Pr)
instance:Inhabited Tp:=⟨.mk 0 nm0 [] [] default []⟩
def tpO:Tp->Int | .mk x _ _ _ _ _=>x
def tpNm:Tp->BA | .mk _ x _ _ _ _=>x
def tpA:Tp->List Tp | .mk _ _ x _ _ _=>x
def tpNs:Tp->List BA | .mk _ _ _ x _ _=>x
def tpP:Tp->Pr | .mk _ _ _ _ x _=>x
def tpPs:Tp->List Pr | .mk _ _ _ _ _ x=>x
inductive Pm where
 | mk (xNm:BA) (xT:Tp)
instance:Inhabited Pm:=⟨.mk nm0 default⟩
def pmNm:Pm->BA | .mk x _=>x
def pmT:Pm->Tp | .mk _ x=>x
mutual
inductive Ex where
 | mk (xO:Int) (xNm:BA) (xN:Int) (xK:List Ex) (xP:List Pm) (xA:List Al) (xT:List Tp)
inductive Al where
 | mk (xC:BA) (xNs:List BA) (xB:Ex)
end
instance:Inhabited Ex:=⟨.mk 0 nm0 0 [] [] [] []⟩
instance:Inhabited Al:=⟨.mk nm0 [] default⟩
def exO:Ex->Int | .mk x _ _ _ _ _ _=>x
def exNm:Ex->BA | .mk _ x _ _ _ _ _=>x
def exN:Ex->Int | .mk _ _ x _ _ _ _=>x
def exK:Ex->List Ex | .mk _ _ _ x _ _ _=>x
def exP:Ex->List Pm | .mk _ _ _ _ x _ _=>x
def exA:Ex->List Al | .mk _ _ _ _ _ x _=>x
def exT:Ex->List Tp | .mk _ _ _ _ _ _ x=>x
def alC:Al->BA | .mk x _ _=>x
def alNs:Al->List BA | .mk _ x _=>x
def alB:Al->Ex | .mk _ _ x=>x
inductive Vr where
 | mk (xNm:BA) (xS:BA)
instance:Inhabited Vr:=⟨.mk nm0 nm0⟩
def vrNm:Vr->BA | .mk x _=>x
def vrS:Vr->BA | .mk _ x=>x
inductive Cn where
 | mk (xNm:BA) (xNs:List BA) (xF:List Tp)
instance:Inhabited Cn:=⟨.mk nm0 [] []⟩
def cnNm:Cn->BA | .mk x _ _=>x
def cnNs:Cn->List BA | .mk _ x _=>x
def cnF:Cn->List Tp | .mk _ _ x=>x
inductive Da where
 | mk (xNm:BA) (xVs:List BA) (xP:List Vr) (xC:List Cn)
instance:Inhabited Da:=⟨.mk nm0 [] [] []⟩
def daNm:Da->BA | .mk x _ _ _=>x
def daVs:Da->List BA | .mk _ x _ _=>x
def daP:Da->List Vr | .mk _ _ x _=>x
def daC:Da->List Cn | .mk _ _ _ x=>x
inductive Cl where
 | mk (xNm:BA) (xW:BA) (xM:List Pm)
instance:Inhabited Cl:=⟨.mk nm0 nm0 []⟩
def clNm:Cl->BA | .mk x _ _=>x
def clW:Cl->BA | .mk _ x _=>x
def clM:Cl->List Pm | .mk _ _ x=>x
inductive Bo where
 | mk (xNm:BA) (xW:List Vr) (xH:Pr) (xG:Pr)
instance:Inhabited Bo:=⟨.mk nm0 [] default default⟩
def boNm:Bo->BA | .mk x _ _ _=>x
def boW:Bo->List Vr | .mk _ x _ _=>x
def boH:Bo->Pr | .mk _ _ x _=>x
def boG:Bo->Pr | .mk _ _ _ x=>x
inductive Df where
 | mk (xNm:BA) (xP:List BA) (xB:Ex) (xM:Int) (xTy:Bool) (xVs:List BA) (xNe:List Vr) (xAb:List Vr) (xBo:List Bo) (xT:Tp) (xMe:List Pr)
instance:Inhabited Df:=⟨.mk nm0 [] default 0 false [] [] [] [] default []⟩
def dfNm:Df->BA | .mk x _ _ _ _ _ _ _ _ _ _=>x
def dfP:Df->List BA | .mk _ x _ _ _ _ _ _ _ _ _=>x
def dfB:Df->Ex | .mk _ _ x _ _ _ _ _ _ _ _=>x
def dfM:Df->Int | .mk _ _ _ x _ _ _ _ _ _ _=>x
def dfTy:Df->Bool | .mk _ _ _ _ x _ _ _ _ _ _=>x
def dfVs:Df->List BA | .mk _ _ _ _ _ x _ _ _ _ _=>x
def dfNe:Df->List Vr | .mk _ _ _ _ _ _ x _ _ _ _=>x
def dfAb:Df->List Vr | .mk _ _ _ _ _ _ _ x _ _ _=>x
def dfBo:Df->List Bo | .mk _ _ _ _ _ _ _ _ x _ _=>x
def dfT:Df->Tp | .mk _ _ _ _ _ _ _ _ _ x _=>x
def dfMe:Df->List Pr | .mk _ _ _ _ _ _ _ _ _ _ x=>x
inductive In where
 | mk (xNm:BA) (xT:Tp) (xNe:List Vr) (xD:List Df)
instance:Inhabited In:=⟨.mk nm0 default [] []⟩
def inNm:In->BA | .mk x _ _ _=>x
def inT:In->Tp | .mk _ x _ _=>x
def inNe:In->List Vr | .mk _ _ x _=>x
def inD:In->List Df | .mk _ _ _ x=>x
inductive Cs where
 | mk (xC:BA) (xNs:List BA) (xB:Pr)
instance:Inhabited Cs:=⟨.mk nm0 [] default⟩
def csC:Cs->BA | .mk x _ _=>x
def csNs:Cs->List BA | .mk _ x _=>x
def csB:Cs->Pr | .mk _ _ x=>x
inductive Ms where
 | mk (xNm:BA) (xD:BA) (xR:BA) (xC:List Cs) (xI:Pr)
instance:Inhabited Ms:=⟨.mk nm0 nm0 nm0 [] default⟩
def msNm:Ms->BA | .mk x _ _ _ _=>x
def msD:Ms->BA | .mk _ x _ _ _=>x
def msR:Ms->BA | .mk _ _ x _ _=>x
def msC:Ms->List Cs | .mk _ _ _ x _=>x
def msI:Ms->Pr | .mk _ _ _ _ x=>x
inductive Qu where
 | mk (xNm:BA) (xW:List Vr) (xB:Pr)
instance:Inhabited Qu:=⟨.mk nm0 [] default⟩
def quNm:Qu->BA | .mk x _ _=>x
def quW:Qu->List Vr | .mk _ x _=>x
def quB:Qu->Pr | .mk _ _ x=>x
inductive Mo where
 | mk (xD:List Da) (xC:List Cl) (xI:List In) (xM:List Ms) (xQ:List Qu) (xF:List Df)
instance:Inhabited Mo:=⟨.mk [] [] [] [] [] []⟩
def moD:Mo->List Da | .mk x _ _ _ _ _=>x
def moC:Mo->List Cl | .mk _ x _ _ _ _=>x
def moI:Mo->List In | .mk _ _ x _ _ _=>x
def moM:Mo->List Ms | .mk _ _ _ x _ _=>x
def moQ:Mo->List Qu | .mk _ _ _ _ x _=>x
def moF:Mo->List Df | .mk _ _ _ _ _ x=>x
def nmsC:List BA->List (List PV)
 | []=>[]
 | s::r=>[.str s]::nmsC r
theorem nmsC_eq(l:List BA):nmsC l=l.map (fun s=>[.str s]):=by induction l with | nil=>rfl | cons x r ih=>simp [nmsC,ih]
theorem nmsC_len(l:List BA):(nmsC l).length=l.length:=by simp [nmsC_eq]
theorem nmsC_at{l:List BA}{i:Nat}(h:i<l.length):(nmsC l).getD i []=[.str (l.getD i nm0)]:=by rw [nmsC_eq]; simp [List.getD,h]
theorem nmsC_app(a b:List BA):nmsC (a++b)=nmsC a++nmsC b:=by simp [nmsC_eq]
theorem nmsC_snoc(l:List BA)(x:BA):nmsC (l++[x])=nmsC l++[[.str x]]:=by simp [nmsC_eq]
mutual
def Pr.c:Pr->List PV
 | .mk xO xNm xN xK=>[.int .i64 xO,.str xNm,.int .i64 xN,.sl 4 (Pr.cs xK)]
def Pr.cs:List Pr->List (List PV)
 | []=>[]
 | x::r=>Pr.c x::Pr.cs r
end
abbrev prL(x:Pr):List PV:=[.int .i64 (prO x),.str (prNm x),.int .i64 (prN x),.sl 4 (Pr.cs (prK x))]
abbrev prV(x:Pr):List LV:=[.v (.int .i64 (prO x)),.v (.str (prNm x)),.v (.int .i64 (prN x)),.v (.sl 4 (Pr.cs (prK x)))]
theorem Pr.c_eq(x:Pr):Pr.c x=prL x:=by cases x; rfl
theorem Pr.cs_eq(l:List Pr):Pr.cs l=l.map (prL):=by induction l with | nil=>rfl | cons x r ih=>simp [Pr.cs,ih,Pr.c_eq]
theorem Pr.cs_len(l:List Pr):(Pr.cs l).length=l.length:=by simp [Pr.cs_eq]
theorem Pr.cs_at{l:List Pr}{i:Nat}(h:i<l.length):(Pr.cs l).getD i []=prL (l.getD i default):=by rw [Pr.cs_eq]; simp [List.getD,h]
theorem Pr.cs_snoc(l:List Pr)(x:Pr):Pr.cs (l++[x])=Pr.cs l++[prL x]:=by simp [Pr.cs_eq]
mutual
def Tp.c:Tp->List PV
 | .mk xO xNm xA xNs xP xPs=>[.int .i64 xO,.str xNm,.sl 9 (Tp.cs xA),.sl 1 (nmsC xNs),.int .i64 (prO xP),.str (prNm xP),.int .i64 (prN xP),.sl 4 (Pr.cs (prK xP)),.sl 4 (Pr.cs xPs)]
def Tp.cs:List Tp->List (List PV)
 | []=>[]
 | x::r=>Tp.c x::Tp.cs r
end
abbrev tpL(x:Tp):List PV:=[.int .i64 (tpO x),.str (tpNm x),.sl 9 (Tp.cs (tpA x)),.sl 1 (nmsC (tpNs x)),.int .i64 (prO (tpP x)),.str (prNm (tpP x)),.int .i64 (prN (tpP x)),.sl 4 (Pr.cs (prK (tpP x))),.sl 4 (Pr.cs (tpPs x))]
abbrev tpV(x:Tp):List LV:=[.v (.int .i64 (tpO x)),.v (.str (tpNm x)),.v (.sl 9 (Tp.cs (tpA x))),.v (.sl 1 (nmsC (tpNs x))),.v (.int .i64 (prO (tpP x))),.v (.str (prNm (tpP x))),.v (.int .i64 (prN (tpP x))),.v (.sl 4 (Pr.cs (prK (tpP x)))),.v (.sl 4 (Pr.cs (tpPs x)))]
theorem Tp.c_eq(x:Tp):Tp.c x=tpL x:=by cases x; rfl
theorem Tp.cs_eq(l:List Tp):Tp.cs l=l.map (tpL):=by induction l with | nil=>rfl | cons x r ih=>simp [Tp.cs,ih,Tp.c_eq]
theorem Tp.cs_len(l:List Tp):(Tp.cs l).length=l.length:=by simp [Tp.cs_eq]
theorem Tp.cs_at{l:List Tp}{i:Nat}(h:i<l.length):(Tp.cs l).getD i []=tpL (l.getD i default):=by rw [Tp.cs_eq]; simp [List.getD,h]
theorem Tp.cs_snoc(l:List Tp)(x:Tp):Tp.cs (l++[x])=Tp.cs l++[tpL x]:=by simp [Tp.cs_eq]
abbrev pmL(x:Pm):List PV:=[.str (pmNm x),.int .i64 (tpO (pmT x)),.str (tpNm (pmT x)),.sl 9 (Tp.cs (tpA (pmT x))),.sl 1 (nmsC (tpNs (pmT x))),.int .i64 (prO (tpP (pmT x))),.str (prNm (tpP (pmT x))),.int .i64 (prN (tpP (pmT x))),.sl 4 (Pr.cs (prK (tpP (pmT x)))),.sl 4 (Pr.cs (tpPs (pmT x)))]
def Pm.cs:List Pm->List (List PV)
 | []=>[]
 | x::r=>pmL x::Pm.cs r
theorem Pm.cs_eq(l:List Pm):Pm.cs l=l.map (pmL):=by induction l with | nil=>rfl | cons x r ih=>simp [Pm.cs,ih]
theorem Pm.cs_len(l:List Pm):(Pm.cs l).length=l.length:=by simp [Pm.cs_eq]
theorem Pm.cs_at{l:List Pm}{i:Nat}(h:i<l.length):(Pm.cs l).getD i []=pmL (l.getD i default):=by rw [Pm.cs_eq]; simp [List.getD,h]
mutual
def Ex.c:Ex->List PV
 | .mk xO xNm xN xK xP xA xT=>[.int .i64 xO,.str xNm,.int .i64 xN,.sl 7 (Ex.cs xK),.sl 10 (Pm.cs xP),.sl 9 (Al.cs xA),.sl 9 (Tp.cs xT)]
def Ex.cs:List Ex->List (List PV)
 | []=>[]
 | x::r=>Ex.c x::Ex.cs r
def Al.c:Al->List PV
 | .mk xC xNs xB => .str xC :: .sl 1 (nmsC xNs)::Ex.c xB
def Al.cs:List Al->List (List PV)
 | []=>[]
 | x::r=>Al.c x::Al.cs r
end
abbrev exL(x:Ex):List PV:=[.int .i64 (exO x),.str (exNm x),.int .i64 (exN x),.sl 7 (Ex.cs (exK x)),.sl 10 (Pm.cs (exP x)),.sl 9 (Al.cs (exA x)),.sl 9 (Tp.cs (exT x))]
abbrev exV(x:Ex):List LV:=[.v (.int .i64 (exO x)),.v (.str (exNm x)),.v (.int .i64 (exN x)),.v (.sl 7 (Ex.cs (exK x))),.v (.sl 10 (Pm.cs (exP x))),.v (.sl 9 (Al.cs (exA x))),.v (.sl 9 (Tp.cs (exT x)))]
abbrev alL(x:Al):List PV:=[.str (alC x),.sl 1 (nmsC (alNs x)),.int .i64 (exO (alB x)),.str (exNm (alB x)),.int .i64 (exN (alB x)),.sl 7 (Ex.cs (exK (alB x))),.sl 10 (Pm.cs (exP (alB x))),.sl 9 (Al.cs (exA (alB x))),.sl 9 (Tp.cs (exT (alB x)))]
theorem Ex.c_eq(x:Ex):Ex.c x=exL x:=by cases x; rfl
theorem Al.c_eq(x:Al):Al.c x=alL x:=by cases x with | mk a0 a1 a2=>cases a2; rfl
theorem Ex.cs_eq(l:List Ex):Ex.cs l=l.map (exL):=by induction l with | nil=>rfl | cons x r ih=>simp [Ex.cs,ih,Ex.c_eq]
theorem Ex.cs_len(l:List Ex):(Ex.cs l).length=l.length:=by simp [Ex.cs_eq]
theorem Ex.cs_at{l:List Ex}{i:Nat}(h:i<l.length):(Ex.cs l).getD i []=exL (l.getD i default):=by rw [Ex.cs_eq]; simp [List.getD,h]
theorem Ex.cs_snoc(l:List Ex)(x:Ex):Ex.cs (l++[x])=Ex.cs l++[exL x]:=by simp [Ex.cs_eq]
theorem Al.cs_eq(l:List Al):Al.cs l=l.map (alL):=by induction l with | nil=>rfl | cons x r ih=>simp [Al.cs,ih,Al.c_eq]
theorem Al.cs_len(l:List Al):(Al.cs l).length=l.length:=by simp [Al.cs_eq]
theorem Al.cs_at{l:List Al}{i:Nat}(h:i<l.length):(Al.cs l).getD i []=alL (l.getD i default):=by rw [Al.cs_eq]; simp [List.getD,h]
abbrev vrL(x:Vr):List PV:=[.str (vrNm x),.str (vrS x)]
def Vr.cs:List Vr->List (List PV)
 | []=>[]
 | x::r=>vrL x::Vr.cs r
theorem Vr.cs_eq(l:List Vr):Vr.cs l=l.map (vrL):=by induction l with | nil=>rfl | cons x r ih=>simp [Vr.cs,ih]
theorem Vr.cs_len(l:List Vr):(Vr.cs l).length=l.length:=by simp [Vr.cs_eq]
theorem Vr.cs_snoc(l:List Vr)(x:Vr):Vr.cs (l++[x])=Vr.cs l++[vrL x]:=by simp [Vr.cs_eq]
abbrev cnL(x:Cn):List PV:=[.str (cnNm x),.sl 1 (nmsC (cnNs x)),.sl 9 (Tp.cs (cnF x))]
def Cn.cs:List Cn->List (List PV)
 | []=>[]
 | x::r=>cnL x::Cn.cs r
theorem Cn.cs_eq(l:List Cn):Cn.cs l=l.map (cnL):=by induction l with | nil=>rfl | cons x r ih=>simp [Cn.cs,ih]
theorem Cn.cs_len(l:List Cn):(Cn.cs l).length=l.length:=by simp [Cn.cs_eq]
abbrev daL(x:Da):List PV:=[.str (daNm x),.sl 1 (nmsC (daVs x)),.sl 2 (Vr.cs (daP x)),.sl 3 (Cn.cs (daC x))]
def Da.cs:List Da->List (List PV)
 | []=>[]
 | x::r=>daL x::Da.cs r
theorem Da.cs_eq(l:List Da):Da.cs l=l.map (daL):=by induction l with | nil=>rfl | cons x r ih=>simp [Da.cs,ih]
theorem Da.cs_len(l:List Da):(Da.cs l).length=l.length:=by simp [Da.cs_eq]
abbrev clL(x:Cl):List PV:=[.str (clNm x),.str (clW x),.sl 10 (Pm.cs (clM x))]
def Cl.cs:List Cl->List (List PV)
 | []=>[]
 | x::r=>clL x::Cl.cs r
theorem Cl.cs_eq(l:List Cl):Cl.cs l=l.map (clL):=by induction l with | nil=>rfl | cons x r ih=>simp [Cl.cs,ih]
theorem Cl.cs_len(l:List Cl):(Cl.cs l).length=l.length:=by simp [Cl.cs_eq]
abbrev boL(x:Bo):List PV:=[.str (boNm x),.sl 2 (Vr.cs (boW x)),.int .i64 (prO (boH x)),.str (prNm (boH x)),.int .i64 (prN (boH x)),.sl 4 (Pr.cs (prK (boH x))),.int .i64 (prO (boG x)),.str (prNm (boG x)),.int .i64 (prN (boG x)),.sl 4 (Pr.cs (prK (boG x)))]
def Bo.cs:List Bo->List (List PV)
 | []=>[]
 | x::r=>boL x::Bo.cs r
theorem Bo.cs_eq(l:List Bo):Bo.cs l=l.map (boL):=by induction l with | nil=>rfl | cons x r ih=>simp [Bo.cs,ih]
theorem Bo.cs_len(l:List Bo):(Bo.cs l).length=l.length:=by simp [Bo.cs_eq]
abbrev dfL(x:Df):List PV:=[.str (dfNm x),.sl 1 (nmsC (dfP x)),.int .i64 (exO (dfB x)),.str (exNm (dfB x)),.int .i64 (exN (dfB x)),.sl 7 (Ex.cs (exK (dfB x))),.sl 10 (Pm.cs (exP (dfB x))),.sl 9 (Al.cs (exA (dfB x))),.sl 9 (Tp.cs (exT (dfB x))),.int .i64 (dfM x),.bool (dfTy x),.sl 1 (nmsC (dfVs x)),.sl 2 (Vr.cs (dfNe x)),.sl 2 (Vr.cs (dfAb x)),.sl 10 (Bo.cs (dfBo x)),.int .i64 (tpO (dfT x)),.str (tpNm (dfT x)),.sl 9 (Tp.cs (tpA (dfT x))),.sl 1 (nmsC (tpNs (dfT x))),.int .i64 (prO (tpP (dfT x))),.str (prNm (tpP (dfT x))),.int .i64 (prN (tpP (dfT x))),.sl 4 (Pr.cs (prK (tpP (dfT x)))),.sl 4 (Pr.cs (tpPs (dfT x))),.sl 4 (Pr.cs (dfMe x))]
abbrev dfV(x:Df):List LV:=[.v (.str (dfNm x)),.v (.sl 1 (nmsC (dfP x))),.v (.int .i64 (exO (dfB x))),.v (.str (exNm (dfB x))),.v (.int .i64 (exN (dfB x))),.v (.sl 7 (Ex.cs (exK (dfB x)))),.v (.sl 10 (Pm.cs (exP (dfB x)))),.v (.sl 9 (Al.cs (exA (dfB x)))),.v (.sl 9 (Tp.cs (exT (dfB x)))),.v (.int .i64 (dfM x)),.v (.bool (dfTy x)),.v (.sl 1 (nmsC (dfVs x))),.v (.sl 2 (Vr.cs (dfNe x))),.v (.sl 2 (Vr.cs (dfAb x))),.v (.sl 10 (Bo.cs (dfBo x))),.v (.int .i64 (tpO (dfT x))),.v (.str (tpNm (dfT x))),.v (.sl 9 (Tp.cs (tpA (dfT x)))),.v (.sl 1 (nmsC (tpNs (dfT x)))),.v (.int .i64 (prO (tpP (dfT x)))),.v (.str (prNm (tpP (dfT x)))),.v (.int .i64 (prN (tpP (dfT x)))),.v (.sl 4 (Pr.cs (prK (tpP (dfT x))))),.v (.sl 4 (Pr.cs (tpPs (dfT x)))),.v (.sl 4 (Pr.cs (dfMe x)))]
def Df.cs:List Df->List (List PV)
 | []=>[]
 | x::r=>dfL x::Df.cs r
theorem Df.cs_eq(l:List Df):Df.cs l=l.map (dfL):=by induction l with | nil=>rfl | cons x r ih=>simp [Df.cs,ih]
theorem Df.cs_len(l:List Df):(Df.cs l).length=l.length:=by simp [Df.cs_eq]
theorem Df.cs_at{l:List Df}{i:Nat}(h:i<l.length):(Df.cs l).getD i []=dfL (l.getD i default):=by rw [Df.cs_eq]; simp [List.getD,h]
theorem Df.cs_snoc(l:List Df)(x:Df):Df.cs (l++[x])=Df.cs l++[dfL x]:=by simp [Df.cs_eq]
abbrev inL(x:In):List PV:=[.str (inNm x),.int .i64 (tpO (inT x)),.str (tpNm (inT x)),.sl 9 (Tp.cs (tpA (inT x))),.sl 1 (nmsC (tpNs (inT x))),.int .i64 (prO (tpP (inT x))),.str (prNm (tpP (inT x))),.int .i64 (prN (tpP (inT x))),.sl 4 (Pr.cs (prK (tpP (inT x)))),.sl 4 (Pr.cs (tpPs (inT x))),.sl 2 (Vr.cs (inNe x)),.sl 25 (Df.cs (inD x))]
def In.cs:List In->List (List PV)
 | []=>[]
 | x::r=>inL x::In.cs r
theorem In.cs_eq(l:List In):In.cs l=l.map (inL):=by induction l with | nil=>rfl | cons x r ih=>simp [In.cs,ih]
theorem In.cs_len(l:List In):(In.cs l).length=l.length:=by simp [In.cs_eq]
abbrev csL(x:Cs):List PV:=[.str (csC x),.sl 1 (nmsC (csNs x)),.int .i64 (prO (csB x)),.str (prNm (csB x)),.int .i64 (prN (csB x)),.sl 4 (Pr.cs (prK (csB x)))]
def Cs.cs:List Cs->List (List PV)
 | []=>[]
 | x::r=>csL x::Cs.cs r
theorem Cs.cs_eq(l:List Cs):Cs.cs l=l.map (csL):=by induction l with | nil=>rfl | cons x r ih=>simp [Cs.cs,ih]
theorem Cs.cs_len(l:List Cs):(Cs.cs l).length=l.length:=by simp [Cs.cs_eq]
abbrev msL(x:Ms):List PV:=[.str (msNm x),.str (msD x),.str (msR x),.sl 6 (Cs.cs (msC x)),.int .i64 (prO (msI x)),.str (prNm (msI x)),.int .i64 (prN (msI x)),.sl 4 (Pr.cs (prK (msI x)))]
def Ms.cs:List Ms->List (List PV)
 | []=>[]
 | x::r=>msL x::Ms.cs r
theorem Ms.cs_eq(l:List Ms):Ms.cs l=l.map (msL):=by induction l with | nil=>rfl | cons x r ih=>simp [Ms.cs,ih]
theorem Ms.cs_len(l:List Ms):(Ms.cs l).length=l.length:=by simp [Ms.cs_eq]
abbrev quL(x:Qu):List PV:=[.str (quNm x),.sl 2 (Vr.cs (quW x)),.int .i64 (prO (quB x)),.str (prNm (quB x)),.int .i64 (prN (quB x)),.sl 4 (Pr.cs (prK (quB x)))]
def Qu.cs:List Qu->List (List PV)
 | []=>[]
 | x::r=>quL x::Qu.cs r
theorem Qu.cs_eq(l:List Qu):Qu.cs l=l.map (quL):=by induction l with | nil=>rfl | cons x r ih=>simp [Qu.cs,ih]
theorem Qu.cs_len(l:List Qu):(Qu.cs l).length=l.length:=by simp [Qu.cs_eq]
abbrev moL(x:Mo):List PV:=[.sl 4 (Da.cs (moD x)),.sl 3 (Cl.cs (moC x)),.sl 12 (In.cs (moI x)),.sl 8 (Ms.cs (moM x)),.sl 6 (Qu.cs (moQ x)),.sl 25 (Df.cs (moF x))]
abbrev moV(x:Mo):List LV:=[.v (.sl 4 (Da.cs (moD x))),.v (.sl 3 (Cl.cs (moC x))),.v (.sl 12 (In.cs (moI x))),.v (.sl 8 (Ms.cs (moM x))),.v (.sl 6 (Qu.cs (moQ x))),.v (.sl 25 (Df.cs (moF x)))]
theorem drop_at{α:Type} [Inhabited α] {l:List α} {i:Nat} (h:i<l.length):l.drop i=l.getD i default::l.drop (i+1):=by
 rw [List.drop_eq_getElem_cons h]
 simp [List.getD,h]
theorem drop_at0{l:List BA}{i:Nat}(h:i<l.length):l.drop i=l.getD i nm0::l.drop (i+1):=by
 rw [List.drop_eq_getElem_cons h]
 simp [List.getD,h]
theorem getD_mem{α:Type} [Inhabited α] {l:List α} {i:Nat} (h:i<l.length):l.getD i default∈l:=by simp [List.getD,h]
set_option maxRecDepth 100000
theorem mixed:Tryz.prog.follows .mixedOrders=true:=by kernel_rfl
theorem pu{f:FuncId}{fn:Func}{args:List PV}(md:Md)(L:Ext->List (Stp Tryz.prog)){r:CRes}(hf:Tryz.prog.funcs[f]?=some fn)(hok:(isFn Tryz.prog f&&fnOK fn)=true:=by kernel_rfl)(h:∀e,evFX Tryz.prog md 50 fn args e (asS (L e)) = .ok (r,e) [] (osS (L e)):=by intro e; kernel_rfl):(Ob.pur f args r).ok Tryz.prog:=Ob.pur_of md 50 (fun e=>asS (L e)) mixed hf hok h fun e=>okS (L e)
theorem ef{f:FuncId}{fn:Func}{args:List PV}{e e':Ext}(md:Md)(L:List (Stp Tryz.prog)){r:CRes}(hf:Tryz.prog.funcs[f]?=some fn)(hok:(isFn Tryz.prog f&&fnOK fn)=true:=by kernel_rfl)(h:evFX Tryz.prog md 50 fn args e (asS L) = .ok (r,e') [] (osS L):=by kernel_rfl):(Ob.eff f args e r e').ok Tryz.prog:=Ob.eff_of md 50 (asS L) mixed hf hok h (okS L)
theorem pw{cx:Cx}{c:Code}{s s':S}{pe:PExit}{Q:PExit->S->Prop}(md:Md)(n:Nat)(L:List (Stp Tryz.prog))(ks bs:List Nat)(hn:cx.n=n)(hq:Q pe s')(hc:codeOK n c=true:=by kernel_rfl)(h:(evCX Tryz.prog md n 50 c s (asS L)).keep ks bs = .ok (pe,s') [] (osS L):=by kernel_rfl):PW Tryz.prog cx c s Q:=PW_runK md n 50 (asS L) ks bs mixed hn hc h (okS L) hq
abbrev Pu(f:FuncId)(a:List PV)(r:CRes):Prop:=(Ob.pur f a r).ok Tryz.prog
abbrev Ef(f:FuncId)(a:List PV)(e:Ext)(r:CRes)(e':Ext):Prop:=(Ob.eff f a e r e').ok Tryz.prog
theorem Wq{a b:LV}(h:WL a b:=by first | exact .inl rfl | exact .inr ⟨rfl,rfl⟩ | exact .inr rfl | exact .inr trivial):WL a b:=h
theorem pm{f:FuncId}{fn:Func}{args:List PV}(md:Md)(L:List (Stp Tryz.prog)){r:CRes}(hf:Tryz.prog.funcs[f]?=some fn)(hok:(isFn Tryz.prog f&&fnOK fn)=true:=by kernel_rfl)(h:∀e,evFX Tryz.prog md 50 fn args e (asS L) = .ok (r,e) [] (osS L):=by intro e; kernel_rfl):(Ob.pur f args r).ok Tryz.prog:=pu md (fun _=>L) hf hok h
abbrev bM(n:UInt8):BA:=ByteArray.mk #[n]
theorem kr{a:PV}{l r:List PV}(h:WkL l r):WkL (a::l) (a::r):=WkL.c (Wk.r _) h
theorem kn(n:Nat){l r:List PV}(h:WkL l r):WkL (.nilsl::l) (.sl n []::r):=WkL.c (Wk.n n) h
def ksT(s:S):List Nat:=s.tmps.map (·.1)
def ksB(s:S):List Nat:=s.boxes.map (·.1)
def kQ(s:S):Bool:=kyS s.tmps []&&kyS s.boxes []
/-- A round of a loop over a list,as proofs give it. -/
def RB(n:Nat)(c:Code){β R:Type}(I:Int → β → S)(f:Nat → β → R)(q:R → PExit × S)(inv:Nat → β → Prop)(i:Nat)(b:β):Prop:=codeOK n c=true → ∀cx:Cx,cx.n=n → PW Tryz.prog cx c (I (i:Int) b) fun pe s'=>(pe = .normal ∧ ∃b',inv (i+1) b' ∧ LeX (I ((i:Int)+1) b') s' ∧ f i b=f (i+1) b')∨(pe ≠ .normal ∧ pe=(q (f i b)).1 ∧ LeX (q (f i b)).2 s')
theorem rng{n:Nat}{c:Code}{β R:Type}(len:Nat)(I:Int → β → S)(f:Nat → β → R)(q:R → PExit × S)(inv:Nat → β → Prop)(hc:codeOK n c=true)(h:∀i b,i ≤ len → inv i b → RB n c I f q (fun i b=>i ≤ len ∧ inv i b) i b)(b:β)(h0:inv 0 b):(Ob.loop n c (I 0 b) (q (f 0 b)).1 (q (f 0 b)).2).ok Tryz.prog:=by
  refine Ob.loop_of (P:=Tryz.prog) (α:={ zz:Nat × β // zz.1 ≤ len ∧ inv zz.1 zz.2 }) (fun zz=>I (zz.1.1:Int) zz.1.2) (fun zz=>len - zz.1.1) (fun zz=>q (f zz.1.1 zz.1.2)) ?_ ⟨(0,b),Nat.zero_le _,h0⟩
  rintro ⟨⟨i,b⟩,hi,hv⟩ cx hcx
  simp only at hi hv ⊢
  refine (h i b hi hv hc cx hcx).mono ?_
  rintro pe s' (⟨h1,b',h2,h3,h4⟩ | h5)
  · exact .inl ⟨h1,⟨(i+1,b'),h2⟩,by have:=h2.1; simp only; omega,h3,by simp only; rw [h4]⟩
  · exact .inr h5
section
variable {n:Nat} {c:Code} {β R:Type} {I:Int → β → S} {f:Nat → β → R} {q:R → PExit × S} {inv:Nat → β → Prop} {i:Nat} {b:β}
theorem lN{len:Nat}(md:Md)(L:List (Stp Tryz.prog))(hi:i<len)(b':β)(hv:inv (i+1) b')(hf:f i b=f (i+1) b')(h:(evCX Tryz.prog md n 50 c (I i b) (asS L)).keep (ksT (I ((i:Int)+1) b')) (ksB (I ((i:Int)+1) b')) = .ok (.normal,I ((i:Int)+1) b') [] (osS L):=by kernel_rfl)(hk:kQ (I ((i:Int)+1) b')=true:=by kernel_rfl):RB n c I f q (fun i b=>i ≤ len ∧ inv i b) i b:=fun hc _ hcx=>
  PW_runK md n 50 (asS L) _ _ mixed hcx hc h (okS L) (.inl ⟨rfl,b',⟨hi,hv⟩,xq hk,hf⟩)
theorem lS{len:Nat}(md:Md)(L:List (Stp Tryz.prog))(ks bs:List Nat)(hi:i<len)(b':β)(s':S)(hle:LeX (I ((i:Int)+1) b') s')(hv:inv (i+1) b')(hf:f i b=f (i+1) b')(h:(evCX Tryz.prog md n 50 c (I i b) (asS L)).keep ks bs = .ok (.normal,s') [] (osS L):=by kernel_rfl):RB n c I f q (fun i b=>i ≤ len ∧ inv i b) i b:=fun hc _ hcx=>
  PW_runK md n 50 (asS L) _ _ mixed hcx hc h (okS L) (.inl ⟨rfl,b',⟨hi,hv⟩,hle,hf⟩)
theorem lX{inv:Nat → β → Prop}(md:Md)(L:List (Stp Tryz.prog))(r:R)(hr:f i b=r)(h:(evCX Tryz.prog md n 50 c (I i b) (asS L)).keep (ksT (q r).2) (ksB (q r).2) = .ok ((q r).1,(q r).2) [] (osS L):=by kernel_rfl)(hk:kQ (q r).2=true:=by kernel_rfl)(hp:(q r).1 ≠ .normal:=by intro hp; cases hp):RB n c I f q inv i b:=fun hc _ hcx=>
  PW_runK md n 50 (asS L) _ _ mixed hcx hc h (okS L) (.inr ⟨hp,by rw [hr],by rw [hr]; exact xq hk⟩)
theorem lY{inv:Nat → β → Prop}{pe:PExit}(md:Md)(L:List (Stp Tryz.prog))(ks bs:List Nat)(s':S)(r:R)(hr:f i b=r)(hle:LeX (q r).2 s')(he:pe=(q r).1)(hp:pe ≠ .normal)(h:(evCX Tryz.prog md n 50 c (I i b) (asS L)).keep ks bs = .ok (pe,s') [] (osS L):=by kernel_rfl):RB n c I f q inv i b:=fun hc _ hcx=>
  PW_runK md n 50 (asS L) ks bs mixed hcx hc h (okS L) (.inr ⟨hp,by rw [hr]; exact he,by rw [hr]; exact hle⟩)
end
theorem rz{n:Nat}{c:Code}{R:Type}{s:S}{q:R → PExit × S}{x y:R}(h:(Ob.loop n c s (q x).1 (q x).2).ok Tryz.prog)(e:x=y):(Ob.loop n c s (q y).1 (q y).2).ok Tryz.prog:=e ▸ h
section
variable {P:Program}
def xNm(l:List ByteArray)(i:Nat)(h:i<l.length:=by omega):Stp P:=ar ((nmsC l).getD i []) [.str (l.getD i nm0)] (by rw [nmsC_at h])
def xEx(l:List Ex)(i:Nat)(h:i<l.length:=by omega):Stp P:=ar ((Ex.cs l).getD i []) (exL (l.getD i default)) (by rw [Ex.cs_at h])
def xAl(l:List Al)(i:Nat)(h:i<l.length:=by omega):Stp P:=ar ((Al.cs l).getD i []) (alL (l.getD i default)) (by rw [Al.cs_at h])
def xPm(l:List Pm)(i:Nat)(h:i<l.length:=by omega):Stp P:=ar ((Pm.cs l).getD i []) (pmL (l.getD i default)) (by rw [Pm.cs_at h])
def xTp(l:List Tp)(i:Nat)(h:i<l.length:=by omega):Stp P:=ar ((Tp.cs l).getD i []) (tpL (l.getD i default)) (by rw [Tp.cs_at h])
def xDf(l:List Df)(i:Nat)(h:i<l.length:=by omega):Stp P:=ar ((Df.cs l).getD i []) (dfL (l.getD i default)) (by rw [Df.cs_at h])
def xPr(l:List Pr)(i:Nat)(h:i<l.length:=by omega):Stp P:=ar ((Pr.cs l).getD i []) (prL (l.getD i default)) (by rw [Pr.cs_at h])
end
abbrev gD{α:Type} [Inhabited α] (l:List α) (i:Nat):α:=l.getD i default
section
variable {P:Program}
def mxNm(l:List BA)(e:Int)(h:0≤e∧e<(l.length:Int):=by omega):Stp P:=am ((0:Int)≤e∧e<((nmsC l).length:Int)) (by rw [nmsC_len]; exact h)
def mxEx(l:List Ex)(e:Int)(h:0≤e∧e<(l.length:Int):=by omega):Stp P:=am ((0:Int)≤e∧e<((Ex.cs l).length:Int)) (by rw [Ex.cs_len]; exact h)
def mxAl(l:List Al)(e:Int)(h:0≤e∧e<(l.length:Int):=by omega):Stp P:=am ((0:Int)≤e∧e<((Al.cs l).length:Int)) (by rw [Al.cs_len]; exact h)
def mxPm(l:List Pm)(e:Int)(h:0≤e∧e<(l.length:Int):=by omega):Stp P:=am ((0:Int)≤e∧e<((Pm.cs l).length:Int)) (by rw [Pm.cs_len]; exact h)
def mxTp(l:List Tp)(e:Int)(h:0≤e∧e<(l.length:Int):=by omega):Stp P:=am ((0:Int)≤e∧e<((Tp.cs l).length:Int)) (by rw [Tp.cs_len]; exact h)
def mxDf(l:List Df)(e:Int)(h:0≤e∧e<(l.length:Int):=by omega):Stp P:=am ((0:Int)≤e∧e<((Df.cs l).length:Int)) (by rw [Df.cs_len]; exact h)
def mxPr(l:List Pr)(e:Int)(h:0≤e∧e<(l.length:Int):=by omega):Stp P:=am ((0:Int)≤e∧e<((Pr.cs l).length:Int)) (by rw [Pr.cs_len]; exact h)
def mxVr(l:List Vr)(e:Int)(h:0≤e∧e<(l.length:Int):=by omega):Stp P:=am ((0:Int)≤e∧e<((Vr.cs l).length:Int)) (by rw [Vr.cs_len]; exact h)
def mxCn(l:List Cn)(e:Int)(h:0≤e∧e<(l.length:Int):=by omega):Stp P:=am ((0:Int)≤e∧e<((Cn.cs l).length:Int)) (by rw [Cn.cs_len]; exact h)
def mxDa(l:List Da)(e:Int)(h:0≤e∧e<(l.length:Int):=by omega):Stp P:=am ((0:Int)≤e∧e<((Da.cs l).length:Int)) (by rw [Da.cs_len]; exact h)
def mxCl(l:List Cl)(e:Int)(h:0≤e∧e<(l.length:Int):=by omega):Stp P:=am ((0:Int)≤e∧e<((Cl.cs l).length:Int)) (by rw [Cl.cs_len]; exact h)
def mxBo(l:List Bo)(e:Int)(h:0≤e∧e<(l.length:Int):=by omega):Stp P:=am ((0:Int)≤e∧e<((Bo.cs l).length:Int)) (by rw [Bo.cs_len]; exact h)
def mxIn(l:List In)(e:Int)(h:0≤e∧e<(l.length:Int):=by omega):Stp P:=am ((0:Int)≤e∧e<((In.cs l).length:Int)) (by rw [In.cs_len]; exact h)
def mxCs(l:List Cs)(e:Int)(h:0≤e∧e<(l.length:Int):=by omega):Stp P:=am ((0:Int)≤e∧e<((Cs.cs l).length:Int)) (by rw [Cs.cs_len]; exact h)
def mxMs(l:List Ms)(e:Int)(h:0≤e∧e<(l.length:Int):=by omega):Stp P:=am ((0:Int)≤e∧e<((Ms.cs l).length:Int)) (by rw [Ms.cs_len]; exact h)
def mxQu(l:List Qu)(e:Int)(h:0≤e∧e<(l.length:Int):=by omega):Stp P:=am ((0:Int)≤e∧e<((Qu.cs l).length:Int)) (by rw [Qu.cs_len]; exact h)
def xBy(s:BA)(i:Nat):Stp P:=av (.v (.int .u8 (↑(UInt8.toNat (s.data.toList.getD (Int.toNat (i:Int)) default)):Int))) (.v (.int .u8 (↑(UInt8.toNat (s.data.toList.getD i default)):Int)))
def mxB(s:BA)(i:Nat)(h:i<s.data.toList.length:=by first | assumption | omega):Stp P:=am ((0:Int)≤(i:Int)∧(i:Int)<(s.size:Int)) ⟨by omega,by have h2:s.data.toList.length=s.size:=(by simp); omega⟩
def s2(a b:Stp P):Stp P:=⟨a.a++b.a,a.o++b.o,obs_app a.h b.h⟩
def dtl{α:Type}{l:List α}{i:Nat}(h:i<l.length):Stp P:=dt ((i:Int)<(l.length:Int))
def rgNm{l:List BA}{i:Nat}(h:i<l.length):Stp P:=s2 (dtl h) (s2 (mxNm l (i:Int)) (xNm l i h))
def rgEx{l:List Ex}{i:Nat}(h:i<l.length):Stp P:=s2 (dtl h) (s2 (mxEx l (i:Int)) (xEx l i h))
def rgAl{l:List Al}{i:Nat}(h:i<l.length):Stp P:=s2 (dtl h) (s2 (mxAl l (i:Int)) (xAl l i h))
def rgPm{l:List Pm}{i:Nat}(h:i<l.length):Stp P:=s2 (dtl h) (s2 (mxPm l (i:Int)) (xPm l i h))
def rgTp{l:List Tp}{i:Nat}(h:i<l.length):Stp P:=s2 (dtl h) (s2 (mxTp l (i:Int)) (xTp l i h))
def rgDf{l:List Df}{i:Nat}(h:i<l.length):Stp P:=s2 (dtl h) (s2 (mxDf l (i:Int)) (xDf l i h))
def rgPr{l:List Pr}{i:Nat}(h:i<l.length):Stp P:=s2 (dtl h) (s2 (mxPr l (i:Int)) (xPr l i h))
end
def TG(_:List (Stp Tryz.prog))(X:Prop):Prop:=X
theorem t0{X:Prop}(h:TG [] X):X:=h
theorem tp{p:List (Stp Tryz.prog)}{X:Prop}(L:List (Stp Tryz.prog))(h:TG (p++L) X):TG p X:=h
section
variable {p:List (Stp Tryz.prog)}
theorem tM{f:FuncId}{fn:Func}{args:List PV}(md:Md)(L:List (Stp Tryz.prog)){r:CRes}(hf:Tryz.prog.funcs[f]?=some fn)(hok:(isFn Tryz.prog f&&fnOK fn)=true:=by kernel_rfl)(h:∀e,evFX Tryz.prog md 50 fn args e (asS (p++L)) = .ok (r,e) [] (osS (p++L)):=by intro e; kernel_rfl):TG p ((Ob.pur f args r).ok Tryz.prog):=pm md (p++L) hf hok h
variable {n:Nat} {c:Code} {β R:Type} {I:Int→β→S} {f:Nat→β→R} {q:R→PExit×S} {inv:Nat→β→Prop} {i:Nat} {b:β}
theorem tN{len:Nat}(md:Md)(L:List (Stp Tryz.prog))(hi:i<len)(b':β)(hv:inv (i+1) b')(hf:f i b=f (i+1) b')(h:(evCX Tryz.prog md n 50 c (I i b) (asS (p++L))).keep (ksT (I ((i:Int)+1) b')) (ksB (I ((i:Int)+1) b')) = .ok (.normal,I ((i:Int)+1) b') [] (osS (p++L)):=by kernel_rfl)(hk:kQ (I ((i:Int)+1) b')=true:=by kernel_rfl):TG p (RB n c I f q (fun i b=>i≤len∧inv i b) i b):=lN md (p++L) hi b' hv hf h hk
theorem tS{len:Nat}(md:Md)(L:List (Stp Tryz.prog))(ks bs:List Nat)(hi:i<len)(b':β)(s':S)(hle:LeX (I ((i:Int)+1) b') s')(hv:inv (i+1) b')(hf:f i b=f (i+1) b')(h:(evCX Tryz.prog md n 50 c (I i b) (asS (p++L))).keep ks bs = .ok (.normal,s') [] (osS (p++L)):=by kernel_rfl):TG p (RB n c I f q (fun i b=>i≤len∧inv i b) i b):=lS md (p++L) ks bs hi b' s' hle hv hf h
theorem tX{inv:Nat→β→Prop}(md:Md)(L:List (Stp Tryz.prog))(r:R)(hr:f i b=r)(h:(evCX Tryz.prog md n 50 c (I i b) (asS (p++L))).keep (ksT (q r).2) (ksB (q r).2) = .ok ((q r).1,(q r).2) [] (osS (p++L)):=by kernel_rfl)(hk:kQ (q r).2=true:=by kernel_rfl)(hp:(q r).1≠.normal:=by intro hp; cases hp):TG p (RB n c I f q inv i b):=lX md (p++L) r hr h hk hp
theorem tY{inv:Nat→β→Prop}{pe:PExit}(md:Md)(L:List (Stp Tryz.prog))(ks bs:List Nat)(s':S)(r:R)(hr:f i b=r)(hle:LeX (q r).2 s')(he:pe=(q r).1)(hp:pe≠.normal)(h:(evCX Tryz.prog md n 50 c (I i b) (asS (p++L))).keep ks bs = .ok (pe,s') [] (osS (p++L)):=by kernel_rfl):TG p (RB n c I f q inv i b):=lY md (p++L) ks bs s' r hr hle he hp h
end
theorem bulkP_pos:∀p:PV,1<=bulkP p:=fun p=>by cases p <;> simp [bulkP]
theorem cons_bulk(p:PV)(r:List PV):1<=bulkPs (p::r):=by have:=bulkP_pos p; simp only [bulkPs]; omega
theorem mem_bulk:∀ {l:List (List PV)} {c:List PV},c∈l->bulkPs c<=bulkPss l
 | x::r,c,h=>by
  simp only [bulkPss]
  rcases List.mem_cons.1 h with rfl | h
  ·omega
  ·have:=mem_bulk h; omega
theorem len_bulk:∀ {l:List (List PV)},(∀c∈l,1<=bulkPs c)->l.length<=bulkPss l
 | [],_=>by simp
 | x::r,h=>by
  have h1:=h x List.mem_cons_self
  have h2:=len_bulk fun c hc=>h c (List.mem_cons_of_mem _ hc)
  simp only [bulkPss,List.length_cons]
  omega
theorem nms_bulk(l:List BA):l.length<=bulkPss (nmsC l):=by
 have:=len_bulk (l:=nmsC l) fun c hc=>by
  rw [nmsC_eq] at hc
  obtain ⟨x,-,rfl⟩:=List.mem_map.1 hc
  exact cons_bulk _ _
 rwa [nmsC_len] at this
theorem Pr.bulk(l:List Pr):l.length<=bulkPss (Pr.cs l):=by
 have:=len_bulk (l:=Pr.cs l) fun c hc=>by
  rw [Pr.cs_eq] at hc
  obtain ⟨x,-,rfl⟩:=List.mem_map.1 hc
  exact cons_bulk _ _
 rwa [Pr.cs_len] at this
theorem Pr.mem{l:List Pr}{x:Pr}(h:x∈l):bulkPs (prL x)<=bulkPss (Pr.cs l):=mem_bulk (by rw [Pr.cs_eq]; exact List.mem_map_of_mem h)
theorem Tp.bulk(l:List Tp):l.length<=bulkPss (Tp.cs l):=by
 have:=len_bulk (l:=Tp.cs l) fun c hc=>by
  rw [Tp.cs_eq] at hc
  obtain ⟨x,-,rfl⟩:=List.mem_map.1 hc
  exact cons_bulk _ _
 rwa [Tp.cs_len] at this
theorem Tp.mem{l:List Tp}{x:Tp}(h:x∈l):bulkPs (tpL x)<=bulkPss (Tp.cs l):=mem_bulk (by rw [Tp.cs_eq]; exact List.mem_map_of_mem h)
theorem Pm.bulk(l:List Pm):l.length<=bulkPss (Pm.cs l):=by
 have:=len_bulk (l:=Pm.cs l) fun c hc=>by
  rw [Pm.cs_eq] at hc
  obtain ⟨x,-,rfl⟩:=List.mem_map.1 hc
  exact cons_bulk _ _
 rwa [Pm.cs_len] at this
theorem Pm.mem{l:List Pm}{x:Pm}(h:x∈l):bulkPs (pmL x)<=bulkPss (Pm.cs l):=mem_bulk (by rw [Pm.cs_eq]; exact List.mem_map_of_mem h)
theorem Ex.bulk(l:List Ex):l.length<=bulkPss (Ex.cs l):=by
 have:=len_bulk (l:=Ex.cs l) fun c hc=>by
  rw [Ex.cs_eq] at hc
  obtain ⟨x,-,rfl⟩:=List.mem_map.1 hc
  exact cons_bulk _ _
 rwa [Ex.cs_len] at this
theorem Ex.mem{l:List Ex}{x:Ex}(h:x∈l):bulkPs (exL x)<=bulkPss (Ex.cs l):=mem_bulk (by rw [Ex.cs_eq]; exact List.mem_map_of_mem h)
theorem Al.bulk(l:List Al):l.length<=bulkPss (Al.cs l):=by
 have:=len_bulk (l:=Al.cs l) fun c hc=>by
  rw [Al.cs_eq] at hc
  obtain ⟨x,-,rfl⟩:=List.mem_map.1 hc
  exact cons_bulk _ _
 rwa [Al.cs_len] at this
theorem Al.mem{l:List Al}{x:Al}(h:x∈l):bulkPs (alL x)<=bulkPss (Al.cs l):=mem_bulk (by rw [Al.cs_eq]; exact List.mem_map_of_mem h)
theorem Df.bulk(l:List Df):l.length<=bulkPss (Df.cs l):=by
 have:=len_bulk (l:=Df.cs l) fun c hc=>by
  rw [Df.cs_eq] at hc
  obtain ⟨x,-,rfl⟩:=List.mem_map.1 hc
  exact cons_bulk _ _
 rwa [Df.cs_len] at this
theorem Df.mem{l:List Df}{x:Df}(h:x∈l):bulkPs (dfL x)<=bulkPss (Df.cs l):=mem_bulk (by rw [Df.cs_eq]; exact List.mem_map_of_mem h)
section
variable {P:Program} {n:Nat} {t:TypeId} {cs:List PV}
theorem ty_str(hu:P.underlying t=some .string)(h:Ty P n t cs):∃s,cs=[.str s]:=by
 cases n with
 | zero=>exact h.elim
 | succ n=>simp only [Ty,hu] at h; obtain ⟨s,rfl,-⟩:=h; exact ⟨s,rfl⟩
theorem ty_int{k:IntKind}(hu:P.underlying t=some (.int k))(h:Ty P n t cs):∃v,cs=[.int k v]/\(Lit.int k v).wf=true:=by
 cases n with
 | zero=>exact h.elim
 | succ n=>simp only [Ty,hu] at h; exact h
theorem ty_bool(hu:P.underlying t=some .bool)(h:Ty P n t cs):∃b,cs=[.bool b]:=by
 cases n with
 | zero=>exact h.elim
 | succ n=>simp only [Ty,hu] at h; exact h
theorem ty_struct{fs:Array Field}(hu:P.underlying t=some (.struct fs))(h:Ty P n t cs):∃m,m<n/\TyF (Ty P m) fs.toList cs:=by
 cases n with
 | zero=>exact h.elim
 | succ n=>simp only [Ty,hu] at h; exact ⟨n,by omega,h⟩
theorem ty_slice{q:TypeId}(hu:P.underlying t=some (.slice q))(h:Ty P n t cs):∃m es,m<n/\cs=[.sl (P.cellsOf q) es]/\∀x∈es,Ty P m q x:=by
 cases n with
 | zero=>exact h.elim
 | succ n=>simp only [Ty,hu] at h; obtain ⟨es,h1,-,h2⟩:=h; exact ⟨n,es,by omega,h1,h2⟩
theorem lst_of{α:Type}{mk:α->List PV}:∀ {es:List (List PV)},(∀x∈es,∃a,x=mk a)->∃l:List α,es=l.map mk
 | [],_=>⟨[],rfl⟩
 | x::r,h=>by
  obtain ⟨a,rfl⟩:=h x sM
  obtain ⟨l,rfl⟩:=lst_of (es:=r) fun y hy=>h y (List.mem_cons_of_mem _ hy)
  exact ⟨a::l,rfl⟩
theorem ty_list{α:Type}{mk:α->List PV}{C:List α->List (List PV)}(hC:∀l,C l=l.map mk){q:TypeId}(hu:P.underlying t=some (.slice q)){z:Nat}(hz:P.cellsOf q=z)(h:Ty P n t cs)(he:∀m x,m<n->Ty P m q x->∃a,x=mk a):∃l,cs=[.sl z (C l)]:=by
 obtain ⟨m,es,hm,rfl,h2⟩:=ty_slice hu h
 obtain ⟨l,rfl⟩:=lst_of fun x hx=>he m x hm (h2 x hx)
 exact ⟨l,by rw [hC,hz]⟩
end
section
variable {n:Nat} {cs:List PV}
theorem ty_nms(h:Ty prog n 30 cs):∃l,cs=[.sl 1 (nmsC l)]:=
 ty_list (mk:=fun s=>[.str s]) nmsC_eq Tryz.underlying30 kR h fun m x _ hx=>ty_str Tryz.underlying9 hx
theorem ty_Pr:∀ (n:Nat) (cs:List PV),Ty prog n 46 cs->∃x:Pr,cs=prL x:=by
 intro n
 induction n using Nat.strongRecOn with
 | _ n ih=>
  intro cs h
  obtain ⟨m,hm,h⟩:=ty_struct Tryz.underlying46 h
  obtain ⟨c1,r1,rfl,h1,c2,r2,rfl,h2,c3,r3,rfl,h3,c4,r4,rfl,h4,rfl⟩:=h
  obtain ⟨vO,rfl,-⟩:=ty_int Tryz.underlying43 h1
  obtain ⟨vNm,rfl⟩:=ty_str Tryz.underlying9 h2
  obtain ⟨vN,rfl,-⟩:=ty_int Tryz.underlying3 h3
  obtain ⟨vK,rfl⟩:=ty_list (z:=4) Pr.cs_eq Tryz.underlying44 kR h4 fun m' x hm' hx=>ih m' oM x hx
  exact ⟨.mk vO vNm vN vK,by simp only [prO,prNm,prN,prK,prL,List.cons_append,List.nil_append,List.append_nil]⟩
theorem ty_Tp:∀ (n:Nat) (cs:List PV),Ty prog n 48 cs->∃x:Tp,cs=tpL x:=by
 intro n
 induction n using Nat.strongRecOn with
 | _ n ih=>
  intro cs h
  obtain ⟨m,hm,h⟩:=ty_struct Tryz.underlying48 h
  obtain ⟨c1,r1,rfl,h1,c2,r2,rfl,h2,c3,r3,rfl,h3,c4,r4,rfl,h4,c5,r5,rfl,h5,c6,r6,rfl,h6,rfl⟩:=h
  obtain ⟨vO,rfl,-⟩:=ty_int Tryz.underlying42 h1
  obtain ⟨vNm,rfl⟩:=ty_str Tryz.underlying9 h2
  obtain ⟨vA,rfl⟩:=ty_list (z:=9) Tp.cs_eq Tryz.underlying35 kR h3 fun m' x hm' hx=>ih m' oM x hx
  obtain ⟨vNs,rfl⟩:=ty_nms h4
  obtain ⟨vP,rfl⟩:=ty_Pr _ _ h5
  obtain ⟨vPs,rfl⟩:=ty_list (z:=4) Pr.cs_eq Tryz.underlying44 kR h6 fun m' x hm' hx=>ty_Pr _ _ hx
  exact ⟨.mk vO vNm vA vNs vP vPs,by simp only [tpO,tpNm,tpA,tpNs,tpP,tpPs,tpL,prO,prNm,prN,prK,prL,List.cons_append,List.nil_append,List.append_nil]⟩
theorem ty_Pm(h:Ty prog n 152 cs):∃x:Pm,cs=pmL x:=by
 obtain ⟨m,hm,h⟩:=ty_struct Tryz.underlying152 h
 obtain ⟨c1,r1,rfl,h1,c2,r2,rfl,h2,rfl⟩:=h
 obtain ⟨vNm,rfl⟩:=ty_str Tryz.underlying9 h1
 obtain ⟨vT,rfl⟩:=ty_Tp _ _ h2
 exact ⟨.mk vNm vT,by simp only [pmNm,pmT,pmL,tpO,tpNm,tpA,tpNs,tpP,tpPs,tpL,prO,prNm,prN,prK,prL,List.cons_append,List.nil_append,List.append_nil]⟩
theorem ty_PmMethod(h:Ty prog n 266 cs):∃x:Pm,cs=pmL x:=by
 obtain ⟨m,hm,h⟩:=ty_struct Tryz.underlying266 h
 obtain ⟨c1,r1,rfl,h1,c2,r2,rfl,h2,rfl⟩:=h
 obtain ⟨vNm,rfl⟩:=ty_str Tryz.underlying9 h1
 obtain ⟨vT,rfl⟩:=ty_Tp _ _ h2
 exact ⟨.mk vNm vT,by simp only [pmNm,pmT,pmL,tpO,tpNm,tpA,tpNs,tpP,tpPs,tpL,prO,prNm,prN,prK,prL,List.cons_append,List.nil_append,List.append_nil]⟩
theorem ty_Ex:∀ (n:Nat) (cs:List PV),Ty prog n 37 cs->∃x:Ex,cs=exL x:=by
 intro n
 induction n using Nat.strongRecOn with
 | _ n ih=>
  intro cs h
  obtain ⟨m,hm,h⟩:=ty_struct Tryz.underlying37 h
  obtain ⟨c1,r1,rfl,h1,c2,r2,rfl,h2,c3,r3,rfl,h3,c4,r4,rfl,h4,c5,r5,rfl,h5,c6,r6,rfl,h6,c7,r7,rfl,h7,rfl⟩:=h
  obtain ⟨vO,rfl,-⟩:=ty_int Tryz.underlying31 h1
  obtain ⟨vNm,rfl⟩:=ty_str Tryz.underlying9 h2
  obtain ⟨vN,rfl,-⟩:=ty_int Tryz.underlying3 h3
  obtain ⟨vK,rfl⟩:=ty_list (z:=7) Ex.cs_eq Tryz.underlying32 kR h4 fun m' x hm' hx=>ih m' oM x hx
  obtain ⟨vP,rfl⟩:=ty_list (z:=10) Pm.cs_eq Tryz.underlying33 kR h5 fun m' x hm' hx=>ty_Pm hx
  obtain ⟨vA,rfl⟩:=ty_list (z:=9) Al.cs_eq Tryz.underlying34 kR h6 fun m' x hm' hx=>by
   obtain ⟨m2,hm2,hx⟩:=ty_struct Tryz.underlying95 hx
   obtain ⟨d1,r1,rfl,k1,d2,r2,rfl,k2,d3,r3,rfl,k3,rfl⟩:=hx
   obtain ⟨s,rfl⟩:=ty_str Tryz.underlying9 k1
   obtain ⟨ns,rfl⟩:=ty_nms k2
   obtain ⟨b,rfl⟩:=ih m2 oM _ k3
   exact ⟨.mk s ns b,by simp only [alL,alC,alNs,alB,List.cons_append,List.nil_append,List.append_nil]⟩
  obtain ⟨vT,rfl⟩:=ty_list (z:=9) Tp.cs_eq Tryz.underlying35 kR h7 fun m' x hm' hx=>ty_Tp _ _ hx
  exact ⟨.mk vO vNm vN vK vP vA vT,by simp only [exO,exNm,exN,exK,exP,exA,exT,exL,List.cons_append,List.nil_append,List.append_nil]⟩
theorem ty_Vr(h:Ty prog n 155 cs):∃x:Vr,cs=vrL x:=by
 obtain ⟨m,hm,h⟩:=ty_struct Tryz.underlying155 h
 obtain ⟨c1,r1,rfl,h1,c2,r2,rfl,h2,rfl⟩:=h
 obtain ⟨vNm,rfl⟩:=ty_str Tryz.underlying9 h1
 obtain ⟨vS,rfl⟩:=ty_str Tryz.underlying119 h2
 exact ⟨.mk vNm vS,by simp only [vrNm,vrS,vrL,List.cons_append,List.nil_append,List.append_nil]⟩
theorem ty_VrNeed(h:Ty prog n 154 cs):∃x:Vr,cs=vrL x:=by
 obtain ⟨m,hm,h⟩:=ty_struct Tryz.underlying154 h
 obtain ⟨c1,r1,rfl,h1,c2,r2,rfl,h2,rfl⟩:=h
 obtain ⟨a,rfl⟩:=ty_str Tryz.underlying9 h1
 obtain ⟨b,rfl⟩:=ty_str Tryz.underlying9 h2
 exact ⟨.mk a b,by simp only [vrNm,vrS,vrL,List.cons_append,List.nil_append,List.append_nil]⟩
theorem ty_VrAbs(h:Ty prog n 121 cs):∃x:Vr,cs=vrL x:=by
 obtain ⟨m,hm,h⟩:=ty_struct Tryz.underlying121 h
 obtain ⟨c1,r1,rfl,h1,c2,r2,rfl,h2,rfl⟩:=h
 obtain ⟨a,rfl⟩:=ty_str Tryz.underlying9 h1
 obtain ⟨b,rfl⟩:=ty_str Tryz.underlying119 h2
 exact ⟨.mk a b,by simp only [vrNm,vrS,vrL,List.cons_append,List.nil_append,List.append_nil]⟩
theorem ty_Cn(h:Ty prog n 265 cs):∃x:Cn,cs=cnL x:=by
 obtain ⟨m,hm,h⟩:=ty_struct Tryz.underlying265 h
 obtain ⟨c1,r1,rfl,h1,c2,r2,rfl,h2,c3,r3,rfl,h3,rfl⟩:=h
 obtain ⟨vNm,rfl⟩:=ty_str Tryz.underlying9 h1
 obtain ⟨vNs,rfl⟩:=ty_nms h2
 obtain ⟨vF,rfl⟩:=ty_list (z:=9) Tp.cs_eq Tryz.underlying35 kR h3 fun m' x hm' hx=>ty_Tp _ _ hx
 exact ⟨.mk vNm vNs vF,by simp only [cnNm,cnNs,cnF,cnL,List.cons_append,List.nil_append,List.append_nil]⟩
theorem ty_Da(h:Ty prog n 252 cs):∃x:Da,cs=daL x:=by
 obtain ⟨m,hm,h⟩:=ty_struct Tryz.underlying252 h
 obtain ⟨c1,r1,rfl,h1,c2,r2,rfl,h2,c3,r3,rfl,h3,c4,r4,rfl,h4,rfl⟩:=h
 obtain ⟨vNm,rfl⟩:=ty_str Tryz.underlying9 h1
 obtain ⟨vVs,rfl⟩:=ty_nms h2
 obtain ⟨vP,rfl⟩:=ty_list (z:=2) Vr.cs_eq Tryz.underlying122 kR h3 fun m' x hm' hx=>ty_Vr hx
 obtain ⟨vC,rfl⟩:=ty_list (z:=3) Cn.cs_eq Tryz.underlying250 kR h4 fun m' x hm' hx=>ty_Cn hx
 exact ⟨.mk vNm vVs vP vC,by simp only [daNm,daVs,daP,daC,daL,List.cons_append,List.nil_append,List.append_nil]⟩
theorem ty_Cl(h:Ty prog n 255 cs):∃x:Cl,cs=clL x:=by
 obtain ⟨m,hm,h⟩:=ty_struct Tryz.underlying255 h
 obtain ⟨c1,r1,rfl,h1,c2,r2,rfl,h2,c3,r3,rfl,h3,rfl⟩:=h
 obtain ⟨vNm,rfl⟩:=ty_str Tryz.underlying9 h1
 obtain ⟨vW,rfl⟩:=ty_str Tryz.underlying9 h2
 obtain ⟨vM,rfl⟩:=ty_list (z:=10) Pm.cs_eq Tryz.underlying253 kR h3 fun m' x hm' hx=>ty_PmMethod hx
 exact ⟨.mk vNm vW vM,by simp only [clNm,clW,clM,clL,List.cons_append,List.nil_append,List.append_nil]⟩
theorem ty_Bo(h:Ty prog n 124 cs):∃x:Bo,cs=boL x:=by
 obtain ⟨m,hm,h⟩:=ty_struct Tryz.underlying124 h
 obtain ⟨c1,r1,rfl,h1,c2,r2,rfl,h2,c3,r3,rfl,h3,c4,r4,rfl,h4,rfl⟩:=h
 obtain ⟨vNm,rfl⟩:=ty_str Tryz.underlying9 h1
 obtain ⟨vW,rfl⟩:=ty_list (z:=2) Vr.cs_eq Tryz.underlying122 kR h2 fun m' x hm' hx=>ty_Vr hx
 obtain ⟨vH,rfl⟩:=ty_Pr _ _ h3
 obtain ⟨vG,rfl⟩:=ty_Pr _ _ h4
 exact ⟨.mk vNm vW vH vG,by simp only [boNm,boW,boH,boG,boL,prO,prNm,prN,prK,prL,List.cons_append,List.nil_append,List.append_nil]⟩
theorem ty_Df(h:Ty prog n 52 cs):∃x:Df,cs=dfL x:=by
 obtain ⟨m,hm,h⟩:=ty_struct Tryz.underlying52 h
 obtain ⟨c1,r1,rfl,h1,c2,r2,rfl,h2,c3,r3,rfl,h3,c4,r4,rfl,h4,c5,r5,rfl,h5,c6,r6,rfl,h6,rfl⟩:=h
 obtain ⟨vNm,rfl⟩:=ty_str Tryz.underlying9 h1
 obtain ⟨vP,rfl⟩:=ty_nms h2
 obtain ⟨vB,rfl⟩:=ty_Ex _ _ h3
 obtain ⟨vM,rfl,-⟩:=ty_int Tryz.underlying38 h4
 obtain ⟨vTy,rfl⟩:=ty_bool Tryz.underlying4 h5
 obtain ⟨m2,hm2,h6⟩:=ty_struct Tryz.underlying50 h6
 obtain ⟨d1,q1,rfl,k1,d2,q2,rfl,k2,d3,q3,rfl,k3,d4,q4,rfl,k4,d5,q5,rfl,k5,d6,q6,rfl,k6,rfl⟩:=h6
 obtain ⟨vVs,rfl⟩:=ty_nms k1
 obtain ⟨vNe,rfl⟩:=ty_list (z:=2) Vr.cs_eq Tryz.underlying39 kR k2 fun m' x hm' hx=>ty_VrNeed hx
 obtain ⟨vAb,rfl⟩:=ty_list (z:=2) Vr.cs_eq Tryz.underlying40 kR k3 fun m' x hm' hx=>ty_VrAbs hx
 obtain ⟨vBo,rfl⟩:=ty_list (z:=10) Bo.cs_eq Tryz.underlying41 kR k4 fun m' x hm' hx=>ty_Bo hx
 obtain ⟨vT,rfl⟩:=ty_Tp _ _ k5
 obtain ⟨vMe,rfl⟩:=ty_list (z:=4) Pr.cs_eq Tryz.underlying44 kR k6 fun m' x hm' hx=>ty_Pr _ _ hx
 exact ⟨.mk vNm vP vB vM vTy vVs vNe vAb vBo vT vMe,by simp only [dfNm,dfP,dfB,dfM,dfTy,dfVs,dfNe,dfAb,dfBo,dfT,dfMe,dfL,exO,exNm,exN,exK,exP,exA,exT,exL,tpO,tpNm,tpA,tpNs,tpP,tpPs,tpL,prO,prNm,prN,prK,prL,List.cons_append,List.nil_append,List.append_nil]⟩
theorem ty_In(h:Ty prog n 257 cs):∃x:In,cs=inL x:=by
 obtain ⟨m,hm,h⟩:=ty_struct Tryz.underlying257 h
 obtain ⟨c1,r1,rfl,h1,c2,r2,rfl,h2,c3,r3,rfl,h3,c4,r4,rfl,h4,rfl⟩:=h
 obtain ⟨vNm,rfl⟩:=ty_str Tryz.underlying9 h1
 obtain ⟨vT,rfl⟩:=ty_Tp _ _ h2
 obtain ⟨vNe,rfl⟩:=ty_list (z:=2) Vr.cs_eq Tryz.underlying39 kR h3 fun m' x hm' hx=>ty_VrNeed hx
 obtain ⟨vD,rfl⟩:=ty_list (z:=25) Df.cs_eq Tryz.underlying27 kR h4 fun m' x hm' hx=>ty_Df hx
 exact ⟨.mk vNm vT vNe vD,by simp only [inNm,inT,inNe,inD,inL,tpO,tpNm,tpA,tpNs,tpP,tpPs,tpL,prO,prNm,prN,prK,prL,List.cons_append,List.nil_append,List.append_nil]⟩
theorem ty_Cs(h:Ty prog n 268 cs):∃x:Cs,cs=csL x:=by
 obtain ⟨m,hm,h⟩:=ty_struct Tryz.underlying268 h
 obtain ⟨c1,r1,rfl,h1,c2,r2,rfl,h2,c3,r3,rfl,h3,rfl⟩:=h
 obtain ⟨vC,rfl⟩:=ty_str Tryz.underlying9 h1
 obtain ⟨vNs,rfl⟩:=ty_nms h2
 obtain ⟨vB,rfl⟩:=ty_Pr _ _ h3
 exact ⟨.mk vC vNs vB,by simp only [csC,csNs,csB,csL,prO,prNm,prN,prK,prL,List.cons_append,List.nil_append,List.append_nil]⟩
theorem ty_Ms(h:Ty prog n 260 cs):∃x:Ms,cs=msL x:=by
 obtain ⟨m,hm,h⟩:=ty_struct Tryz.underlying260 h
 obtain ⟨c1,r1,rfl,h1,c2,r2,rfl,h2,c3,r3,rfl,h3,c4,r4,rfl,h4,c5,r5,rfl,h5,rfl⟩:=h
 obtain ⟨vNm,rfl⟩:=ty_str Tryz.underlying9 h1
 obtain ⟨vD,rfl⟩:=ty_str Tryz.underlying9 h2
 obtain ⟨vR,rfl⟩:=ty_str Tryz.underlying119 h3
 obtain ⟨vC,rfl⟩:=ty_list (z:=6) Cs.cs_eq Tryz.underlying258 kR h4 fun m' x hm' hx=>ty_Cs hx
 obtain ⟨vI,rfl⟩:=ty_Pr _ _ h5
 exact ⟨.mk vNm vD vR vC vI,by simp only [msNm,msD,msR,msC,msI,msL,prO,prNm,prN,prK,prL,List.cons_append,List.nil_append,List.append_nil]⟩
theorem ty_Qu(h:Ty prog n 262 cs):∃x:Qu,cs=quL x:=by
 obtain ⟨m,hm,h⟩:=ty_struct Tryz.underlying262 h
 obtain ⟨c1,r1,rfl,h1,c2,r2,rfl,h2,c3,r3,rfl,h3,rfl⟩:=h
 obtain ⟨vNm,rfl⟩:=ty_str Tryz.underlying9 h1
 obtain ⟨vW,rfl⟩:=ty_list (z:=2) Vr.cs_eq Tryz.underlying122 kR h2 fun m' x hm' hx=>ty_Vr hx
 obtain ⟨vB,rfl⟩:=ty_Pr _ _ h3
 exact ⟨.mk vNm vW vB,by simp only [quNm,quW,quB,quL,prO,prNm,prN,prK,prL,List.cons_append,List.nil_append,List.append_nil]⟩
theorem ty_Mo(h:Ty prog n 29 cs):∃x:Mo,cs=moL x:=by
 obtain ⟨m,hm,h⟩:=ty_struct Tryz.underlying29 h
 obtain ⟨c1,r1,rfl,h1,c2,r2,rfl,h2,c3,r3,rfl,h3,c4,r4,rfl,h4,c5,r5,rfl,h5,c6,r6,rfl,h6,rfl⟩:=h
 obtain ⟨vD,rfl⟩:=ty_list (z:=4) Da.cs_eq Tryz.underlying22 kR h1 fun m' x hm' hx=>ty_Da hx
 obtain ⟨vC,rfl⟩:=ty_list (z:=3) Cl.cs_eq Tryz.underlying23 kR h2 fun m' x hm' hx=>ty_Cl hx
 obtain ⟨vI,rfl⟩:=ty_list (z:=12) In.cs_eq Tryz.underlying24 kR h3 fun m' x hm' hx=>ty_In hx
 obtain ⟨vM,rfl⟩:=ty_list (z:=8) Ms.cs_eq Tryz.underlying25 kR h4 fun m' x hm' hx=>ty_Ms hx
 obtain ⟨vQ,rfl⟩:=ty_list (z:=6) Qu.cs_eq Tryz.underlying26 kR h5 fun m' x hm' hx=>ty_Qu hx
 obtain ⟨vF,rfl⟩:=ty_list (z:=25) Df.cs_eq Tryz.underlying27 kR h6 fun m' x hm' hx=>ty_Df hx
 exact ⟨.mk vD vC vI vM vQ vF,by simp only [moD,moC,moI,moM,moQ,moF,moL,List.cons_append,List.nil_append,List.append_nil]⟩
end
open Go.ChangeShapes Go.WideShapes Go.ChangeAt Go.RowKit
theorem own:ownKnob prog.godebug=none:=by kernel_rfl
theorem laidOut:laidOutB prog=true:=by kernel_rfl
def compsT(P:Program)(t:TypeId):List TypeId:=match P.underlying t with
 | some (.slice e)=>[e]
 | some (.struct fs)=>fs.toList.map fun f=>f.type
 | _=>[]
def addT(l:List TypeId)(x:TypeId):List TypeId:=if l.contains x then l else l++[x]
def reachT(P:Program):Nat->List TypeId->List TypeId
 | 0,l=>l
 | n+1,l=>reachT P n ((l.map (compsT P)).flatten.foldl addT l)
mutual
theorem bulk_eq{H:Type}:∀d:DataW H,bulkD d=Rows.uptoBulk d
 | .lit q=>by cases q <;> rfl
 | .nil=>rfl
 | .ptr d=>by rw [bulkD,Rows.uptoBulk,bulk_eq d]
 | .slice a b=>by rw [bulkD,Rows.uptoBulk,bulks_eq a,bulks_eq b]
 | .agg a=>by rw [bulkD,Rows.uptoBulk,bulks_eq a]
 | .iface _ d=>by rw [bulkD,Rows.uptoBulk,bulk_eq d]
 | .map es=>by rw [bulkD,Rows.uptoBulk,bulkm_eq es]
 | .held _=>rfl
theorem bulks_eq{H:Type}:∀l:List (DataW H),bulkDs l=Rows.uptoBulkAll l
 | []=>rfl
 | d::r=>by rw [bulkDs,Rows.uptoBulkAll,bulk_eq d,bulks_eq r]
theorem bulkm_eq{H:Type}:∀l:List (Lit × DataW H),bulkDm l=Rows.uptoBulkEntries l
 | []=>rfl
 | x::r=>by rw [bulkDm,Rows.uptoBulkEntries,bulke_eq x,bulkm_eq r]
theorem bulke_eq{H:Type}:∀x:Lit × DataW H,bulkDe x=Rows.uptoBulkEntry x
 | (q,d)=>by cases q <;> simp only [bulkDe,Rows.uptoBulkEntry,bulk_eq d]
end
theorem upto_le{H:Type}:∀ {a b:List (DataW H)},bulkDs a<=Rows.uptoBulkAll (a++b)
 | [],b=>Nat.zero_le _
 | d::a,b=>by
  have:=upto_le (a:=a) (b:=b)
  rw [List.cons_append,bulkDs,Rows.uptoBulkAll,bulk_eq d]
  omega
theorem small_le{H:Type}{a b:List (DataW H)}(hk:Rows.uptoSmall H (a++b)=true):bulkDs a<=1048576:=by
 have h:Rows.uptoBulkAll (a++b)<=1048576:=of_decide_eq_true hk
 have:=upto_le (a:=a) (b:=b)
 omega
def kwZ:List (List UInt8):=[[97,110,100],[97,115,115,117,109,101],[98,111,111,108],[98,111,117,110,100],[99,97,115,101],[99,101,108,108],[99,108,97,115,115],[100,97,116,97],[100,101,102],[100,105,118],[101,108,115,101],[101,110,100],[102,97,108,115,101],[102,111,114,97,108,108],[102,117,110],[103,101,116],[105,102],[105,110],[105,110,115,116],[105,110,116],[105,110,118,97,114,105,97,110,116],[108,101,116],[109,97,116,99,104],[109,101,97,115,117,114,101],[109,101,116,114,105,99],[109,111,100],[109,117],[110,101,119],[110,111,116],[111,102],[111,114],[113,117,97,108],[114,101,102,108,101,99,116],[115,101,116],[116,104,101,110],[116,114,117,101],[117,115,101],[118],[118,97,108],[116,97,103],[119,104,101,114,101],[119,105,116,104]]
theorem gTab:prog.globalNamed "liquidcheck/names.keywords" = some 0:=by kernel_rfl
theorem gTabType:(prog.globals[0]?).map (·.type)=some 213:=by kernel_rfl
theorem cellsTab:prog.cellsOf 213=42:=by kernel_rfl
theorem cellsStr:prog.cellsOf 9=1:=by kernel_rfl
theorem gokD {W:World} (h:laidMetH prog [("liquidcheck/names.keywords",Rows.laid_liquidcheck_names_keywords)] W):GOK g0 W:=
 gok_texts (g:=0) (zs:=kwZ) rfl (texts_of_head (zs:=kwZ) (rest:=[]) gTab gTabType Tryz.underlying213 Tryz.underlying9 cellsStr cellsTab h)
noncomputable def laidWorld (os:Os):World:=
 { World.holding prog os ⟨#[],#[],[]⟩ with heap:=(World.holding prog os ⟨#[],#[],[]⟩).heap.modify 0 fun
   | .cells _ t frozen => .cells (kwZ.map fun z=>Value.string ⟨z.toArray⟩).toArray t frozen
   | o=>o }
def mdL:Md:=⟨fun _=>some false,fun _=>false⟩
theorem gPr{l:List Pr}{i:Nat}(h:i<l.length):l.getD i default∈l:=getD_mem h
theorem gTp{l:List Tp}{i:Nat}(h:i<l.length):l.getD i default∈l:=getD_mem h
theorem gEx{l:List Ex}{i:Nat}(h:i<l.length):l.getD i default∈l:=getD_mem h
theorem gAl{l:List Al}{i:Nat}(h:i<l.length):l.getD i default∈l:=getD_mem h
theorem gDf{l:List Df}{i:Nat}(h:i<l.length):l.getD i default∈l:=getD_mem h
def ix{α:Type}(f:α->BA)(name:BA):List α->Nat
 | []=>0
 | c::r=>if f c=name then 0 else ix f name r+1
theorem nms_nx:∀l:List BA,noXss (nmsC l)=true
 | []=>rfl
 | x::r=>by simp [nmsC,noXss,noXs,PV.noX,nms_nx r]
mutual
theorem Pr.cnx:∀x:Pr,noXs (Pr.c x)=true
 | .mk _ _ _ k=>by simp only [Pr.c,noXs,PV.noX,Pr.csnx k,Bool.and_self]
theorem Pr.csnx:∀l:List Pr,noXss (Pr.cs l)=true
 | []=>rfl
 | x::r=>by simp only [Pr.cs,noXss,Pr.cnx x,Pr.csnx r,Bool.and_self]
end
mutual
theorem Tp.cnx:∀x:Tp,noXs (Tp.c x)=true
 | .mk _ _ a ns p ps=>by simp only [Tp.c,noXs,PV.noX,Tp.csnx a,nms_nx,Pr.csnx,Bool.and_self]
theorem Tp.csnx:∀l:List Tp,noXss (Tp.cs l)=true
 | []=>rfl
 | x::r=>by simp only [Tp.cs,noXss,Tp.cnx x,Tp.csnx r,Bool.and_self]
end
theorem Pm.nx(x:Pm):noXs (pmL x)=true:=by simp only [noXs,PV.noX,Tp.csnx,nms_nx,Pr.csnx,Bool.and_self]
theorem Pm.csnx:∀l:List Pm,noXss (Pm.cs l)=true
 | []=>rfl
 | x::r=>by simp only [Pm.cs,noXss,Pm.nx x,Pm.csnx r,Bool.and_self]
mutual
theorem Ex.cnx:∀x:Ex,noXs (Ex.c x)=true
 | .mk _ _ _ k p a t=>by simp only [Ex.c,noXs,PV.noX,Ex.csnx k,Pm.csnx,Al.csnx a,Tp.csnx,Bool.and_self]
theorem Ex.csnx:∀l:List Ex,noXss (Ex.cs l)=true
 | []=>rfl
 | x::r=>by simp only [Ex.cs,noXss,Ex.cnx x,Ex.csnx r,Bool.and_self]
theorem Al.cnx:∀x:Al,noXs (Al.c x)=true
 | .mk _ ns b=>by simp only [Al.c,noXs,PV.noX,nms_nx,Ex.cnx b,Bool.and_self]
theorem Al.csnx:∀l:List Al,noXss (Al.cs l)=true
 | []=>rfl
 | x::r=>by simp only [Al.cs,noXss,Al.cnx x,Al.csnx r,Bool.and_self]
end
theorem Ex.nx(x:Ex):noXs (exL x)=true:=by rw [<-Ex.c_eq]; exact Ex.cnx x
theorem Vr.nx(x:Vr):noXs (vrL x)=true:=by simp only [noXs,PV.noX,Pr.csnx,Tp.csnx,Pm.csnx,Ex.csnx,Al.csnx,nms_nx,Bool.and_self]
theorem Vr.csnx:∀l:List Vr,noXss (Vr.cs l)=true
 | []=>rfl
 | x::r=>by simp only [Vr.cs,noXss,Vr.nx x,Vr.csnx r,Bool.and_self]
theorem Cn.nx(x:Cn):noXs (cnL x)=true:=by simp only [noXs,PV.noX,Pr.csnx,Tp.csnx,Pm.csnx,Ex.csnx,Al.csnx,nms_nx,Vr.csnx,Bool.and_self]
theorem Cn.csnx:∀l:List Cn,noXss (Cn.cs l)=true
 | []=>rfl
 | x::r=>by simp only [Cn.cs,noXss,Cn.nx x,Cn.csnx r,Bool.and_self]
theorem Da.nx(x:Da):noXs (daL x)=true:=by simp only [noXs,PV.noX,Pr.csnx,Tp.csnx,Pm.csnx,Ex.csnx,Al.csnx,nms_nx,Vr.csnx,Cn.csnx,Bool.and_self]
theorem Da.csnx:∀l:List Da,noXss (Da.cs l)=true
 | []=>rfl
 | x::r=>by simp only [Da.cs,noXss,Da.nx x,Da.csnx r,Bool.and_self]
theorem Cl.nx(x:Cl):noXs (clL x)=true:=by simp only [noXs,PV.noX,Pr.csnx,Tp.csnx,Pm.csnx,Ex.csnx,Al.csnx,nms_nx,Vr.csnx,Cn.csnx,Da.csnx,Bool.and_self]
theorem Cl.csnx:∀l:List Cl,noXss (Cl.cs l)=true
 | []=>rfl
 | x::r=>by simp only [Cl.cs,noXss,Cl.nx x,Cl.csnx r,Bool.and_self]
theorem Bo.nx(x:Bo):noXs (boL x)=true:=by simp only [noXs,PV.noX,Pr.csnx,Tp.csnx,Pm.csnx,Ex.csnx,Al.csnx,nms_nx,Vr.csnx,Cn.csnx,Da.csnx,Cl.csnx,Bool.and_self]
theorem Bo.csnx:∀l:List Bo,noXss (Bo.cs l)=true
 | []=>rfl
 | x::r=>by simp only [Bo.cs,noXss,Bo.nx x,Bo.csnx r,Bool.and_self]
theorem Df.nx(x:Df):noXs (dfL x)=true:=by simp only [noXs,PV.noX,Pr.csnx,Tp.csnx,Pm.csnx,Ex.csnx,Al.csnx,nms_nx,Vr.csnx,Cn.csnx,Da.csnx,Cl.csnx,Bo.csnx,Bool.and_self]
theorem Df.csnx:∀l:List Df,noXss (Df.cs l)=true
 | []=>rfl
 | x::r=>by simp only [Df.cs,noXss,Df.nx x,Df.csnx r,Bool.and_self]
theorem In.nx(x:In):noXs (inL x)=true:=by simp only [noXs,PV.noX,Pr.csnx,Tp.csnx,Pm.csnx,Ex.csnx,Al.csnx,nms_nx,Vr.csnx,Cn.csnx,Da.csnx,Cl.csnx,Bo.csnx,Df.csnx,Bool.and_self]
theorem In.csnx:∀l:List In,noXss (In.cs l)=true
 | []=>rfl
 | x::r=>by simp only [In.cs,noXss,In.nx x,In.csnx r,Bool.and_self]
theorem Cs.nx(x:Cs):noXs (csL x)=true:=by simp only [noXs,PV.noX,Pr.csnx,Tp.csnx,Pm.csnx,Ex.csnx,Al.csnx,nms_nx,Vr.csnx,Cn.csnx,Da.csnx,Cl.csnx,Bo.csnx,Df.csnx,In.csnx,Bool.and_self]
theorem Cs.csnx:∀l:List Cs,noXss (Cs.cs l)=true
 | []=>rfl
 | x::r=>by simp only [Cs.cs,noXss,Cs.nx x,Cs.csnx r,Bool.and_self]
theorem Ms.nx(x:Ms):noXs (msL x)=true:=by simp only [noXs,PV.noX,Pr.csnx,Tp.csnx,Pm.csnx,Ex.csnx,Al.csnx,nms_nx,Vr.csnx,Cn.csnx,Da.csnx,Cl.csnx,Bo.csnx,Df.csnx,In.csnx,Cs.csnx,Bool.and_self]
theorem Ms.csnx:∀l:List Ms,noXss (Ms.cs l)=true
 | []=>rfl
 | x::r=>by simp only [Ms.cs,noXss,Ms.nx x,Ms.csnx r,Bool.and_self]
theorem Qu.nx(x:Qu):noXs (quL x)=true:=by simp only [noXs,PV.noX,Pr.csnx,Tp.csnx,Pm.csnx,Ex.csnx,Al.csnx,nms_nx,Vr.csnx,Cn.csnx,Da.csnx,Cl.csnx,Bo.csnx,Df.csnx,In.csnx,Cs.csnx,Ms.csnx,Bool.and_self]
theorem Qu.csnx:∀l:List Qu,noXss (Qu.cs l)=true
 | []=>rfl
 | x::r=>by simp only [Qu.cs,noXss,Qu.nx x,Qu.csnx r,Bool.and_self]
theorem Mo.nx(x:Mo):noXs (moL x)=true:=by simp only [noXs,PV.noX,Pr.csnx,Tp.csnx,Pm.csnx,Ex.csnx,Al.csnx,nms_nx,Vr.csnx,Cn.csnx,Da.csnx,Cl.csnx,Bo.csnx,Df.csnx,In.csnx,Cs.csnx,Ms.csnx,Qu.csnx,Bool.and_self]
theorem noXA{l:List PV}(h:noXs l=true):noXs [.agg l]=true:=by rw [noXs,PV.noX,h]; rfl
open Go.Pv Go.Proofs.Tryz Go.RowKit
abbrev Sc:=List (BA × Int × Pr)
def scK(l:Sc):List BA:=l.map (·.1)
def scT(l:Sc):List PV:=l.map fun x => .int .i64 x.2.1
def scP(l:Sc):List PV:=l.map fun x => .agg (prL x.2.2)
def scL(l:Sc):List PV:=[.fm (scK l) (scT l),.fm (scK l) (scP l)]
def scN(nm:BA)(l:Sc):Sc:=l.filter fun x=>decide (x.1≠nm)
def scW(nm:BA)(t:Int)(p:Pr)(l:Sc):Sc:=(nm,t,p)::scN nm l
def scE1(l:Sc):List (BA × PV):=l.map fun x=>(x.1,.int .i64 x.2.1)
def scE2(l:Sc):List (BA × PV):=l.map fun x=>(x.1,.agg (prL x.2.2))
theorem scZ1:∀l:Sc,(scK l).zip (scT l)=scE1 l
 | []=>rfl
 | x::r=>by
  have:=scZ1 r
  simp only [scK,scT,scE1,List.map_cons,List.zip_cons_cons] at this ⊢
  rw [this]
theorem scZ2:∀l:Sc,(scK l).zip (scP l)=scE2 l
 | []=>rfl
 | x::r=>by
  have:=scZ2 r
  simp only [scK,scP,scE2,List.map_cons,List.zip_cons_cons] at this ⊢
  rw [this]
theorem sc_get2{l:Sc}(hn:(scK l).Nodup){x:BA × Int × Pr}(hx:x∈l):mget x.1 (scE2 l)=some (.agg (prL x.2.2)):=by
 refine mget_mem ?_ (List.mem_map.2 ⟨x,hx,rfl⟩)
 rw [scE2,List.map_map]
 exact hn
theorem scN_snoc(nm:BA)(q:Sc)(x:BA × Int × Pr):scN nm (x::q).reverse=scN nm q.reverse++scN nm [x]:=by
 simp [scN]
theorem sc_nxT:∀l:Sc,noXs (scT l)=true
 | []=>rfl
 | x::r=>by
  have:=sc_nxT r
  simp only [scT,List.map_cons,noXs,PV.noX,Bool.true_and] at this ⊢
  exact this
theorem sc_nxP:∀l:Sc,noXs (scP l)=true
 | []=>rfl
 | x::r=>by
  have:=sc_nxP r
  simp only [scP,List.map_cons,noXs,PV.noX,Pr.csnx,Bool.true_and,Bool.and_true] at this ⊢
  exact this
theorem sc_nx(l:Sc):noXs (scL l)=true:=by simp only [scL,noXs,PV.noX,sc_nxT,sc_nxP,Bool.and_self]
def seenC(q:Sc)(y:BA × Int × Pr):Bool:=q.any fun z=>decide (z.1=y.1)
theorem seenC_cons(x:BA × Int × Pr)(q:Sc)(y:BA × Int × Pr):seenC (x::q) y=(decide (x.1=y.1)||seenC q y):=rfl
theorem sc_le(q:Sc)(x:BA × Int × Pr):∀r:Sc,(r.filter fun y=>!seenC (x::q) y).length<=(r.filter fun y=>!seenC q y).length
 | []=>Nat.le_refl _
 | y::r=>by
  have ih:=sc_le q x r
  have h:=seenC_cons x q y
  simp only [List.filter_cons]
  cases h1:seenC q y with
  | true=>rw [h,h1]; simp; exact ih
  | false=>
   cases h2:seenC (x::q) y with
   | true=>simp; omega
   | false=>simp; exact ih
theorem sc_less(q:Sc)(x:BA × Int × Pr)(hx:∀y∈q,y.1≠x.1):∀l:Sc,x∈l->(l.filter fun y=>!seenC (x::q) y).length<(l.filter fun y=>!seenC q y).length
 | y::r,h=>by
  have h0:=sc_le q x r
  simp only [List.filter_cons]
  rcases List.mem_cons.1 h with rfl | h
  ·have h1:seenC q x=false:=by
    rw [seenC,List.any_eq_false]
    intro z hz
    simpa using hx z hz
   rw [seenC_cons x q x,h1]
   simp
   omega
  ·have ih:=sc_less q x hx r h
   have h2:=seenC_cons x q y
   cases h1:seenC q y with
   | true=>rw [h2,h1]; simp; exact ih
   | false=>
    cases h3:seenC (x::q) y with
    | true=>simp; omega
    | false=>simp; exact ih
theorem sc_perm{q l:Sc}(hn:(scK l).Nodup)(hq:(q.map (·.1)).Nodup)(hs:∀x∈q,x∈l)(hp:(scE1 q).Perm (scE1 l)):q.Perm l:=by
 have n1:q.Nodup:=List.Pairwise.of_map (fun x:BA × Int × Pr=>x.1) (fun a b h e=>h (by rw [e])) hq
 have n2:l.Nodup:=List.Pairwise.of_map (fun x:BA × Int × Pr=>x.1) (fun a b h e=>h (by rw [e])) hn
 refine (List.perm_ext_iff_of_nodup n1 n2).2 fun x=>⟨hs x,fun hx=>?_⟩
 have h1:(x.1,.int .i64 x.2.1)∈scE1 q:=hp.mem_iff.2 (List.mem_map.2 ⟨x,hx,rfl⟩)
 obtain ⟨y,hy,e⟩:=List.mem_map.1 h1
 injection e with e _
 have h2:=hs y hy
 have h3:y=x:=by
  obtain ⟨i,hi,rfl⟩:=List.getElem_of_mem h2
  obtain ⟨j,hj,rfl⟩:=List.getElem_of_mem hx
  have h4:i=j:=(List.getElem_inj (h₀:=by simpa [scK] using hi) (h₁:=by simpa [scK] using hj) hn).1 (by simpa [scK] using e)
  subst h4
  rfl
 rw [<-h3]
 exact hy
theorem sc_done{nm:BA}{t:Int}{p:Pr}{q l:Sc}(h:q.Perm l):(scE1 (scN nm q.reverse)).Perm (scE1 (scN nm l))/\(scE2 (scN nm q.reverse)).Perm (scE2 (scN nm l)):=by
 have h1:(scN nm q.reverse).Perm (scN nm l):=((List.reverse_perm q).trans h).filter _
 exact ⟨h1.map _,h1.map _⟩
def fstC:Code->Code
 | .seq a _=>a
 | c=>c
def sndC:Code->Code
 | .seq _ b=>b
 | c=>c
def isSeq:Code->Bool
 | .seq _ _=>true
 | _=>false
def reg2:Code->Option (Oper × Oper)
 | .region _ ⟨[a,b]⟩ false=>some (a,b)
 | _=>none
def sho(o:Oper):Op × Option (Nat × Bool) × Option Nat:=(o.op,o.guard,o.dst)
theorem sho_op{o:Oper}{a:Op}{b:Option (Nat × Bool)}{c:Option Nat}(h:sho o=(a,b,c)):o.op=a/\o.guard=b/\o.dst=c:=by
 injection h with h1 h2
 injection h2 with h2 h3
 exact ⟨h1,h2,h3⟩
theorem reg2_of{c:Code}{x0 x1:Op × Option (Nat × Bool) × Option Nat}(h:(reg2 c).map (fun z=>(sho z.1,sho z.2))=some (x0,x1)) :
  ∃id o0 o1,c = .region id #[o0,o1] false/\sho o0=x0/\sho o1=x1:=by
 unfold reg2 at h
 split at h
 ·simp only [Option.map_some,Option.some.injEq,Prod.mk.injEq] at h
  exact ⟨_,_,_,rfl,h.1,h.2⟩
 ·cases h
section
variable {P:Program} {cx:Cx} {s:S} {Q:PExit->S->Prop}
theorem PW_two{c:Code}(hc:isSeq c=true)(h:PW P cx (fstC c) s (thenQ (fun s'=>PW P cx (sndC c) s' Q) Q)):PW P cx c s Q:=by
 cases c with
 | seq a b=>exact PW_seq h
 | _=>cases hc
theorem PL_ext{o:Oper}{all:Array Oper}{rest:List Oper}{t d i:Nat}{ps:List PV}{p:PV}(hg:o.guard=none)(ho:o.op = .extract (.tmp t) i)(hd:o.dst=some d)(hn:d<cx.n)(ht:lk s.tmps t=some (.v (.tup ps)))(hp:ps[i]?=some p)(hk:PL P cx all rest { s with tmps:=put s.tmps d (.v p) } Q):PL P cx all (o::rest) s Q:=
 PL_act (ro:=fun _=>some false) (ops:=[]) hg (by
  simp only [act,ho,actEx,evP,ev,toP,RM.wp,ht,hp,wv,hd,hn,if_true]
  exact hk)
end
def mdW1:Md:=⟨fun _=>some false,fun _=>false⟩
abbrev wiB(l:Sc):List (Nat × List LV):=[(4,[.v (.fm (scK l) (scT l)),.v (.fm (scK l) (scP l))]),(8,[.v .mpn,.v .mpn]),(9,[.v (.mp 0),.v (.mp 1)])]
abbrev wiI(l:Sc)(nm:BA)(t:Int)(p:Pr)(q:Sc):S:=⟨[(1,.v (.str nm)),(4,.lp 4 0),(8,.lp 8 0),(9,.lp 9 0),(23,.v (.xp 2 0))],wiB l,
 [(0,[.mm (.s ((nm,.int .i64 t)::scE1 (scN nm q.reverse)))]),(1,[.mm (.s ((nm,.agg (prL p))::scE2 (scN nm q.reverse)))]),(2,[.mm (.fit (scK l) (scT l) (scE1 q))])]⟩
abbrev wiJ(l:Sc)(nm:BA)(t:Int)(p:Pr)(q:Sc)(x:BA × Int × Pr)(b:Bool):S:=⟨[(1,.v (.str nm)),(4,.lp 4 0),(8,.lp 8 0),(9,.lp 9 0),(23,.v (.xp 2 0)),(25,.v (.bool b))],wiB l,
 [(0,[.mm (.s ((nm,.int .i64 t)::scE1 (scN nm q.reverse)))]),(1,[.mm (.s ((nm,.agg (prL p))::scE2 (scN nm q.reverse)))]),(2,[.mm (.fit (scK l) (scT l) (cond b (scE1 (x::q)) (scE1 q)))])]⟩
theorem wi_next(l:Sc)(nm:BA)(t:Int)(p:Pr)(q:Sc)(cx:Cx)(hcx:cx.n=44){Q:PExit->S->Prop}(h0:(scE1 q).Perm (scE1 l)->Q .normal (wiJ l nm t p q default false))(h1:∀x∈l,(∀y∈q,y.1≠x.1)->Q .normal (wiJ l nm t p q x true)) :
  PW prog cx (fstC (loopF f66 0)) (wiI l nm t p q) Q:=by
 obtain ⟨id,o0,o1,hc,e0,e1⟩:=reg2_of (c:=fstC (loopF f66 0)) (x0:=(.next (.tmp 23) false,none,some 24)) (x1:=(.extract (.tmp 24) 0,none,some 25)) kR
 rw [hc]
 intro g l0 a w hs
 refine wp_region_lit ?_
 have hn:∀k,k<44->k<cx.n:=fun k hk=>by rw [hcx]; exact hk
 obtain ⟨a0,b0,c0⟩:=sho_op e0
 obtain ⟨a1,b1,c1⟩:=sho_op e1
 refine (PL_next (k:=2) b0 a0 c0 (hn _ dD) rfl rfl (fun hp=>?_) (fun kb v hm hne=>?_):PL _ _ _ _ _ _) g l0 a w hs
 ·rw [scZ1] at hp
  refine PL_ext b1 a1 c1 (hn _ dD) rfl rfl ?_
  refine PL_le (t:=wiJ l nm t p q default false) ?_ (PL_nil (h0 hp))
  exact ⟨⟨W,W,W,W,W,W,tVv⟩,⟨⟨W,W,tVv⟩,⟨W,W,tVv⟩,⟨W,W,tVv⟩,tVv⟩,⟨⟨W,tVv⟩,⟨W,tVv⟩,⟨W,tVv⟩,tVv⟩,Nat.le_refl _⟩
 ·rw [scZ1] at hm
  obtain ⟨x,hx,e⟩:=List.mem_map.1 hm
  injection e with e2 e3
  subst e2 e3
  refine PL_ext b1 a1 c1 (hn _ dD) rfl rfl ?_
  refine PL_le (t:=wiJ l nm t p q x true) ?_ (PL_nil (h1 x hx fun y hy=>hne (y.1,.int .i64 y.2.1) (List.mem_map.2 ⟨y,hy,rfl⟩)))
  exact ⟨⟨W,W,W,W,W,W,tVv⟩,⟨⟨W,W,tVv⟩,⟨W,W,tVv⟩,⟨W,W,tVv⟩,tVv⟩,⟨⟨W,tVv⟩,⟨W,tVv⟩,⟨W,tVv⟩,tVv⟩,Nat.le_refl _⟩
section
variable (l:Sc) (nm:BA) (t:Int) (p:Pr) (q:Sc) (x:BA × Int × Pr)
include l nm t p q x
theorem wiB1_1(hm:mget x.1 ((scK l).zip (scP l))=some (.agg (prL x.2.2)))(hx0:¬Prod.fst ((fun x=>(Prod.fst x,pI (Prod.fst (Prod.snd x)))) x)=nm)(cx:Cx)(hcx:cx.n=44){Q:PExit->S->Prop}(hq:Q (.normal) (S.mk [(1,vS nm),(4,.lp 4 0),(8,.lp 8 0),(9,.lp 9 0),(23,.v (.xp 2 0)),(25,.v (.bool true))] [(4,[.v (PV.fm (scK l) (scT l)),.v (PV.fm (scK l) (scP l))]),(8,[.v PV.mpn,.v PV.mpn]),(9,[.v (PV.mp 0),.v (PV.mp 1)])] [(0,[LV.mm (MM.s (mupd (Prod.fst ((fun x=>(Prod.fst x,pI (Prod.fst (Prod.snd x)))) x)) (Prod.snd ((fun x=>(Prod.fst x,pI (Prod.fst (Prod.snd x)))) x)) ((nm,pI t)::scE1 (scN nm (List.reverse q)))))]),(1,[LV.mm (MM.s (mupd (Prod.fst ((fun x=>(Prod.fst x,pI (Prod.fst (Prod.snd x)))) x)) (luRes false (mget (Prod.fst ((fun x=>(Prod.fst x,pI (Prod.fst (Prod.snd x)))) x)) (List.zip (scK l) (scP l))) (.agg [pI 0,.str nm0,pI 0,.nilsl])) ((nm,.agg (prL p))::scE2 (scN nm (List.reverse q)))))]),(2,[LV.mm (MM.fit (scK l) (scT l) (bif true then scE1 (x::q) else scE1 q))])])):PW prog cx (sndC (loopF f66 0)) (wiJ l nm t p q x true) Q:=
 pw mdW1 44 [bt true,bt (!ByteArray.toList (Prod.fst ((fun x=>(Prod.fst x,pI (Prod.fst (Prod.snd x)))) x))==ByteArray.toList nm) (bnT (bsF hx0)),kp] [1,4,8,9,23,25] [4,8,9] hcx hq
theorem wiB1_2(hm:mget x.1 ((scK l).zip (scP l))=some (.agg (prL x.2.2)))(hx0:Prod.fst ((fun x=>(Prod.fst x,pI (Prod.fst (Prod.snd x)))) x)=nm)(cx:Cx)(hcx:cx.n=44){Q:PExit->S->Prop}(hq:Q (.normal) (S.mk [(1,vS nm),(4,.lp 4 0),(8,.lp 8 0),(9,.lp 9 0),(23,.v (.xp 2 0)),(25,.v (.bool true))] [(4,[.v (PV.fm (scK l) (scT l)),.v (PV.fm (scK l) (scP l))]),(8,[.v PV.mpn,.v PV.mpn]),(9,[.v (PV.mp 0),.v (PV.mp 1)])] [(0,[LV.mm (MM.s ((nm,pI t)::scE1 (scN nm (List.reverse q))))]),(1,[LV.mm (MM.s ((nm,.agg (prL p))::scE2 (scN nm (List.reverse q))))]),(2,[LV.mm (MM.fit (scK l) (scT l) (bif true then scE1 (x::q) else scE1 q))])])):PW prog cx (sndC (loopF f66 0)) (wiJ l nm t p q x true) Q:=
 pw mdW1 44 [bt true,bf (!ByteArray.toList (Prod.fst ((fun x=>(Prod.fst x,pI (Prod.fst (Prod.snd x)))) x))==ByteArray.toList nm) (bnF (bsT hx0))] [1,4,8,9,23,25] [4,8,9] hcx hq
theorem wiC(cx:Cx)(hcx:cx.n=44){Q:PExit->S->Prop}(hq:Q (.exit 0) (S.mk [(1,vS nm),(4,.lp 4 0),(8,.lp 8 0),(9,.lp 9 0),(23,.v (.xp 2 0)),(25,.v (.bool false))] [(4,[.v (PV.fm (scK l) (scT l)),.v (PV.fm (scK l) (scP l))]),(8,[.v PV.mpn,.v PV.mpn]),(9,[.v (PV.mp 0),.v (PV.mp 1)])] [(0,[LV.mm (MM.s ((nm,pI t)::scE1 (scN nm (List.reverse q))))]),(1,[LV.mm (MM.s ((nm,.agg (prL p))::scE2 (scN nm (List.reverse q))))]),(2,[LV.mm (MM.fit (scK l) (scT l) (bif false then scE1 (x::q) else scE1 q))])])):PW prog cx (sndC (loopF f66 0)) (wiJ l nm t p q x false) Q:=
 pw mdW1 44 [bf false] [1,4,8,9,23,25] [4,8,9] hcx hq
end
theorem wi_upd1{nm:BA}{t:Int}{q:Sc}{x:BA × Int × Pr}(hx:x.1≠nm)(hq:∀y∈q,y.1≠x.1):mupd x.1 (.int .i64 x.2.1) ((nm,.int .i64 t)::scE1 (scN nm q.reverse))=(nm,.int .i64 t)::scE1 (scN nm (x::q).reverse):=by
 rw [mupd_new,scN_snoc]
 ·simp [scE1,scN,hx]
 ·intro y hy
  rcases List.mem_cons.1 hy with rfl | hy
  ·exact fun e=>hx e.symm
  ·obtain ⟨z,hz,rfl⟩:=List.mem_map.1 hy
   exact hq z (by simpa using (List.mem_filter.1 hz).1)
theorem wi_upd2{nm:BA}{p:Pr}{q:Sc}{x:BA × Int × Pr}(hx:x.1≠nm)(hq:∀y∈q,y.1≠x.1):mupd x.1 (.agg (prL x.2.2)) ((nm,.agg (prL p))::scE2 (scN nm q.reverse))=(nm,.agg (prL p))::scE2 (scN nm (x::q).reverse):=by
 rw [mupd_new,scN_snoc]
 ·simp [scE2,scN,hx]
 ·intro y hy
  rcases List.mem_cons.1 hy with rfl | hy
  ·exact fun e=>hx e.symm
  ·obtain ⟨z,hz,rfl⟩:=List.mem_map.1 hy
   exact hq z (by simpa using (List.mem_filter.1 hz).1)
theorem wi_same{nm:BA}{q:Sc}{x:BA × Int × Pr}(hx:x.1=nm):scN nm (x::q).reverse=scN nm q.reverse:=by
 rw [scN_snoc]
 simp [scN,hx]
def wiE(l:Sc)(nm:BA)(t:Int)(p:Pr)(q:Sc):S:=⟨[(1,.v (.str nm)),(4,.lp 4 0),(8,.lp 8 0),(9,.lp 9 0),(23,.v (.xp 2 0)),(25,.v (.bool false))],wiB l,
 [(0,[.mm (.s ((nm,.int .i64 t)::scE1 (scN nm q.reverse)))]),(1,[.mm (.s ((nm,.agg (prL p))::scE2 (scN nm q.reverse)))]),(2,[.mm (.fit (scK l) (scT l) (scE1 q))])]⟩
theorem wi_round(l:Sc)(hn:(scK l).Nodup)(nm:BA)(t:Int)(p:Pr)(q:Sc)(cx:Cx)(hcx:cx.n=44) :
  PW prog cx (loopF f66 0) (wiI l nm t p q) fun pe s'=>(pe = .normal/\∃x∈l,(∀y∈q,y.1≠x.1)/\LeX (wiI l nm t p (x::q)) s')∨(pe = .exit 0/\(scE1 q).Perm (scE1 l)/\s'=wiE l nm t p q):=by
 refine PW_two rfl (wi_next l nm t p q cx hcx (fun hp=>?_) (fun x hx hne=>?_))
 ·exact wiC l nm t p q default cx hcx (.inr ⟨rfl,hp,rfl⟩)
 ·have hm:mget x.1 ((scK l).zip (scP l))=some (.agg (prL x.2.2)):=by rw [scZ2]; exact sc_get2 hn hx
  by_cases hk:x.1=nm
  ·refine wiB1_2 l nm t p q x hm hk cx hcx (.inl ⟨rfl,x,hx,hne,?_⟩)
   simp only [wiI,wi_same hk]
   exact ⟨⟨W,W,W,W,W,tVv⟩,⟨⟨W,W,tVv⟩,⟨W,W,tVv⟩,⟨W,W,tVv⟩,tVv⟩,rfl⟩
  ·refine wiB1_1 l nm t p q x hm hk cx hcx (.inl ⟨rfl,x,hx,hne,?_⟩)
   rw [hm]
   simp only [luRes,Option.getD_some,wi_upd1 hk hne,wi_upd2 hk hne]
   exact ⟨⟨W,W,W,W,W,tVv⟩,⟨⟨W,W,tVv⟩,⟨W,W,tVv⟩,⟨W,W,tVv⟩,tVv⟩,rfl⟩
def seenOK(l q:Sc):Prop:=(q.map (·.1)).Nodup/\∀x∈q,x∈l
theorem seenOK_cons{l q:Sc}{x:BA × Int × Pr}(h:seenOK l q)(hx:x∈l)(hne:∀y∈q,y.1≠x.1):seenOK l (x::q):=by
 refine ⟨?_,fun y hy=>?_⟩
 ·simp only [List.map_cons,List.nodup_cons]
  refine ⟨fun hm=>?_,h.1⟩
  obtain ⟨y,hy,e⟩:=List.mem_map.1 hm
  exact hne y hy e
 ·rcases List.mem_cons.1 hy with rfl | hy
  ·exact hx
  ·exact h.2 y hy
theorem wi_loop(l:Sc)(hn:(scK l).Nodup)(nm:BA)(t:Int)(p:Pr)(cx:Cx)(hcx:cx.n=44){s:S}(hs:s=wiI l nm t p []){Q:PExit->S->Prop}(hQ:∀q,q.Perm l->Q (.exit 0) (wiE l nm t p q)) :
  PW prog cx (.loop (loopF f66 0)) s Q:=by
 subst hs
 refine PW_loopE (α:={ y:Sc × S // seenOK l y.1/\LeX (wiI l nm t p y.1) y.2 }) (fun y=>y.1.2) (fun y=>(l.filter fun z=>!seenC y.1.1 z).length) ⟨([],wiI l nm t p []),⟨List.nodup_nil,fun x hx=>by cases hx⟩,⟨⟨W,W,W,W,W,tVv⟩,⟨⟨W,W,tVv⟩,⟨W,W,tVv⟩,⟨W,W,tVv⟩,tVv⟩,rfl⟩⟩ rfl ?_
 rintro ⟨⟨q,s⟩,hq,hle⟩
 refine PW.leX hle ((wi_round l hn nm t p q cx hcx).mono ?_)
 rintro pe s' (⟨rfl,x,hx,hne,h1⟩ | ⟨rfl,hp,rfl⟩)
 ·exact ⟨⟨(x::q,s'),seenOK_cons hq hx hne,h1⟩,sc_less q x hne l hx,rfl⟩
 ·exact hQ q (sc_perm hn hq.1 hq.2 hp)
theorem scW_zip1(nm:BA)(t:Int)(p:Pr)(l:Sc):(scK (scW nm t p l)).zip (scT (scW nm t p l))=(nm,.int .i64 t)::scE1 (scN nm l):=by rw [scZ1]; rfl
theorem scW_zip2(nm:BA)(t:Int)(p:Pr)(l:Sc):(scK (scW nm t p l)).zip (scP (scW nm t p l))=(nm,.agg (prL p))::scE2 (scN nm l):=by rw [scZ2]; rfl
theorem withT(l:Sc)(hn:(scK l).Nodup)(nm:BA)(t:Int)(p:Pr):Pu 66 [.agg (scL l),.str nm,.int .i64 t,.agg (prL p)] (.ret (.agg (scL (scW nm t p l)))):=by
 refine ⟨by kernel_rfl,fun e=>CallC.freezeM ?_ (sc_nxT _) (sc_nxP _) (by simp [scK,scT]) (by simp [scK,scP]) ?_ e⟩
 ·simp only [noXs,PV.noX,sc_nx,Pr.csnx,Bool.and_self]
 refine CallC.enter func66 rfl (show 4<=44 by decide) fun cx hcx hds=>?_
 refine PW_seq ?_
 refine PW_runK mdW1 44 50 [] [1,2,4,7,8] [4,7,8] (s':=⟨[(1,.v (.str nm)),(2,.v (.int .i64 t)),(4,.lp 4 0),(7,.lp 7 0),(8,.lp 8 0)],[(4,[.v (.fm (scK l) (scT l)),.v (.fm (scK l) (scP l))]),(7,prV p),(8,[.v .mpn,.v .mpn])],[]⟩) (pe := .normal) (sc':=[]) (l:=[]) mixed hcx kR kR trivial ?_
 show PW _ _ _ _ _
 refine PW_seq ?_
 refine PW_runK mdW1 44 50 [] [1,4,8,9] [4,8,9] (s':=⟨[(1,.v (.str nm)),(4,.lp 4 0),(8,.lp 8 0),(9,.lp 9 0)],wiB l,[(0,[.mm (.s [(nm,.int .i64 t)])]),(1,[.mm (.s [(nm,.agg (prL p))])])]⟩) (pe := .normal) (sc':=[]) (l:=[]) mixed hcx kR kR trivial ?_
 show PW _ _ _ _ _
 refine PW_seq (PW_seq ?_)
 refine PW_runK mdW1 44 50 [] [1,4,8,9,23] [4,8,9] (s':=wiI l nm t p []) (pe := .normal) (sc':=[]) (l:=[]) mixed hcx kR kR trivial ?_
 show PW _ _ _ _ _
 refine PW_block ?_
 refine wi_loop l hn nm t p cx hcx rfl fun q hq=>?_
 show PW _ _ _ _ _
 refine PW_runK mdW1 44 50 [] [8] [8] (s':=⟨[(8,.lp 8 0)],[(8,[.v (.mp 0),.v (.mp 1)])],(wiE l nm t p q).ext⟩) (pe := .ret) (sc':=[]) (l:=[]) mixed hcx kR kR trivial ?_
 refine .inl ⟨_,rfl,_,_,_,rfl,rfl,?_,?_⟩
 ·rw [scW_zip1]
  exact (sc_done (nm:=nm) (t:=t) (p:=p) hq).1.cons _
 ·rw [scW_zip2]
  exact (sc_done (nm:=nm) (t:=t) (p:=p) hq).2.cons _
theorem scW_keys{nm:BA}{t:Int}{p:Pr}{l:Sc}(hn:(scK l).Nodup):(scK (scW nm t p l)).Nodup:=by
 simp only [scK,scW,List.map_cons,List.nodup_cons]
 refine ⟨fun h=>?_,?_⟩
 ·obtain ⟨x,hx,e⟩:=List.mem_map.1 h
  have:=(List.mem_filter.1 hx).2
  simp only [ne_eq,decide_not,Bool.not_eq_true',decide_eq_false_iff_not] at this
  exact this e
 ·exact (List.filter_sublist.map _).nodup hn
end Go.Proofs.YtaakmholhliodaaGreatDoor
