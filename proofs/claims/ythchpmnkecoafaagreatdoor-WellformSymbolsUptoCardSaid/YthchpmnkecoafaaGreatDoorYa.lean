/- Values of Go as plain data, an evaluator over them, and what the functions of the program return; part Ya. -/
import Derived.Test.YthchpmnkecoafaaGreatDoorXe
import Derived.Test.YthchpmnkecoafaaGreatDoorXh
import Derived.Test.YthchpmnkecoafaaGreatDoorProg
import Derived.KernelRfl
import Derived.Test.YthchpmnkecoafaaGreatDoorRows
import Derived.JoinedCond
import Derived.Deep.DeepHandedRow
import Derived.Lib.LaidTab
set_option linter.unusedSectionVars false
set_option linter.unusedSimpArgs false
set_option linter.unusedVariables false
namespace Go.Proofs.YthchpmnkecoafaaGreatDoor
open Go.Proofs.Tryz
open Go.Pv Go.Proofs.Tryz
abbrev nm0:BA:=ByteArray.mk #[]
inductive Pr where
 | mk (xO:Int) (xNm:BA) (xN:Int) (xK:List Pr)
instance:Inhabited Pr:=⟨.mk 0 nm0 0 []⟩
def prO:Pr->Int | .mk x _ _ _=>x
def prNm:Pr->BA | .mk _ x _ _=>x
def prN:Pr->Int | .mk _ _ x _=>x
def prK:Pr->List Pr | .mk _ _ _ x=>x
inductive Tp where
 | mk (xO:Int) (xNm:BA) (xA:List Tp) (xNs:List BA) (xP:Pr) (xPs:List Pr)
instance:Inhabited Tp:=⟨.mk 0 nm0 [] [] default []⟩
def tpO:Tp->Int | .mk x _ _ _ _ _=>x
def tpNm:Tp->BA | .mk _ x _ _ _ _=>x
def tpA:Tp->List Tp | .mk _ _ x _ _ _=>x
def tpNs:Tp->List BA | .mk _ _ _ x _ _=>x
def tpP:Tp->Pr | .mk _ _ _ _ x _=>x
def tpPs:Tp->List Pr | .mk _ _ _ _ _ x=>x
inductive Pm where
 | mk (xNm:BA) (xT:Tp)
instance:Inhabited Pm:=⟨.mk nm0 default⟩
def pmNm:Pm->BA | .mk x _=>x
def pmT:Pm->Tp | .mk _ x=>x
mutual
inductive Ex where
 | mk (xO:Int) (xNm:BA) (xN:Int) (xK:List Ex) (xP:List Pm) (xA:List Al) (xT:List Tp)
inductive Al where
 | mk (xC:BA) (xNs:List BA) (xB:Ex)
end
instance:Inhabited Ex:=⟨.mk 0 nm0 0 [] [] [] []⟩
instance:Inhabited Al:=⟨.mk nm0 [] default⟩
def exO:Ex->Int | .mk x _ _ _ _ _ _=>x
def exNm:Ex->BA | .mk _ x _ _ _ _ _=>x
def exN:Ex->Int | .mk _ _ x _ _ _ _=>x
def exK:Ex->List Ex | .mk _ _ _ x _ _ _=>x
def exP:Ex->List Pm | .mk _ _ _ _ x _ _=>x
def exA:Ex->List Al | .mk _ _ _ _ _ x _=>x
def exT:Ex->List Tp | .mk _ _ _ _ _ _ x=>x
def alC:Al->BA | .mk x _ _=>x
def alNs:Al->List BA | .mk _ x _=>x
def alB:Al->Ex | .mk _ _ x=>x
inductive Vr where
 | mk (xNm:BA) (xS:BA)
instance:Inhabited Vr:=⟨.mk nm0 nm0⟩
def vrNm:Vr->BA | .mk x _=>x
def vrS:Vr->BA | .mk _ x=>x
inductive Cn where
 | mk (xNm:BA) (xNs:List BA) (xF:List Tp)
instance:Inhabited Cn:=⟨.mk nm0 [] []⟩
def cnNm:Cn->BA | .mk x _ _=>x
def cnNs:Cn->List BA | .mk _ x _=>x
def cnF:Cn->List Tp | .mk _ _ x=>x
inductive Da where
 | mk (xNm:BA) (xVs:List BA) (xP:List Vr) (xC:List Cn)
instance:Inhabited Da:=⟨.mk nm0 [] [] []⟩
def daNm:Da->BA | .mk x _ _ _=>x
def daVs:Da->List BA | .mk _ x _ _=>x
def daP:Da->List Vr | .mk _ _ x _=>x
def daC:Da->List Cn | .mk _ _ _ x=>x
inductive Cl where
 | mk (xNm:BA) (xW:BA) (xM:List Pm)
instance:Inhabited Cl:=⟨.mk nm0 nm0 []⟩
def clNm:Cl->BA | .mk x _ _=>x
def clW:Cl->BA | .mk _ x _=>x
def clM:Cl->List Pm | .mk _ _ x=>x
inductive Bo where
 | mk (xNm:BA) (xW:List Vr) (xH:Pr) (xG:Pr)
instance:Inhabited Bo:=⟨.mk nm0 [] default default⟩
def boNm:Bo->BA | .mk x _ _ _=>x
def boW:Bo->List Vr | .mk _ x _ _=>x
def boH:Bo->Pr | .mk _ _ x _=>x
def boG:Bo->Pr | .mk _ _ _ x=>x
inductive Df where
 | mk (xNm:BA) (xP:List BA) (xB:Ex) (xM:Int) (xTy:Bool) (xVs:List BA) (xNe:List Vr) (xAb:List Vr) (xBo:List Bo) (xT:Tp) (xMe:List Pr)
instance:Inhabited Df:=⟨.mk nm0 [] default 0 false [] [] [] [] default []⟩
def dfNm:Df->BA | .mk x _ _ _ _ _ _ _ _ _ _=>x
def dfP:Df->List BA | .mk _ x _ _ _ _ _ _ _ _ _=>x
def dfB:Df->Ex | .mk _ _ x _ _ _ _ _ _ _ _=>x
def dfM:Df->Int | .mk _ _ _ x _ _ _ _ _ _ _=>x
def dfTy:Df->Bool | .mk _ _ _ _ x _ _ _ _ _ _=>x
def dfVs:Df->List BA | .mk _ _ _ _ _ x _ _ _ _ _=>x
def dfNe:Df->List Vr | .mk _ _ _ _ _ _ x _ _ _ _=>x
def dfAb:Df->List Vr | .mk _ _ _ _ _ _ _ x _ _ _=>x
def dfBo:Df->List Bo | .mk _ _ _ _ _ _ _ _ x _ _=>x
def dfT:Df->Tp | .mk _ _ _ _ _ _ _ _ _ x _=>x
def dfMe:Df->List Pr | .mk _ _ _ _ _ _ _ _ _ _ x=>x
inductive In where
 | mk (xNm:BA) (xT:Tp) (xNe:List Vr) (xD:List Df)
instance:Inhabited In:=⟨.mk nm0 default [] []⟩
def inNm:In->BA | .mk x _ _ _=>x
def inT:In->Tp | .mk _ x _ _=>x
def inNe:In->List Vr | .mk _ _ x _=>x
def inD:In->List Df | .mk _ _ _ x=>x
inductive Cs where
 | mk (xC:BA) (xNs:List BA) (xB:Pr)
instance:Inhabited Cs:=⟨.mk nm0 [] default⟩
def csC:Cs->BA | .mk x _ _=>x
def csNs:Cs->List BA | .mk _ x _=>x
def csB:Cs->Pr | .mk _ _ x=>x
inductive Ms where
 | mk (xNm:BA) (xD:BA) (xR:BA) (xC:List Cs) (xI:Pr)
instance:Inhabited Ms:=⟨.mk nm0 nm0 nm0 [] default⟩
def msNm:Ms->BA | .mk x _ _ _ _=>x
def msD:Ms->BA | .mk _ x _ _ _=>x
def msR:Ms->BA | .mk _ _ x _ _=>x
def msC:Ms->List Cs | .mk _ _ _ x _=>x
def msI:Ms->Pr | .mk _ _ _ _ x=>x
inductive Qu where
 | mk (xNm:BA) (xW:List Vr) (xB:Pr)
instance:Inhabited Qu:=⟨.mk nm0 [] default⟩
def quNm:Qu->BA | .mk x _ _=>x
def quW:Qu->List Vr | .mk _ x _=>x
def quB:Qu->Pr | .mk _ _ x=>x
inductive Mo where
 | mk (xD:List Da) (xC:List Cl) (xI:List In) (xM:List Ms) (xQ:List Qu) (xF:List Df)
instance:Inhabited Mo:=⟨.mk [] [] [] [] [] []⟩
def moD:Mo->List Da | .mk x _ _ _ _ _=>x
def moC:Mo->List Cl | .mk _ x _ _ _ _=>x
def moI:Mo->List In | .mk _ _ x _ _ _=>x
def moM:Mo->List Ms | .mk _ _ _ x _ _=>x
def moQ:Mo->List Qu | .mk _ _ _ _ x _=>x
def moF:Mo->List Df | .mk _ _ _ _ _ x=>x
inductive Sy where
 | mk (xNm:BA) (xA:List BA) (xR:BA)
instance:Inhabited Sy:=⟨.mk nm0 [] nm0⟩
def syNm:Sy->BA | .mk x _ _=>x
def syA:Sy->List BA | .mk _ x _=>x
def syR:Sy->BA | .mk _ _ x=>x
inductive Ho where
 | mk (xNm:BA) (xP:List Vr)
instance:Inhabited Ho:=⟨.mk nm0 []⟩
def hoNm:Ho->BA | .mk x _=>x
def hoP:Ho->List Vr | .mk _ x=>x
inductive Nv where
 | mk (xW:List Vr) (xS:List Sy) (xH:List Ho)
instance:Inhabited Nv:=⟨.mk [] [] []⟩
def nvW:Nv->List Vr | .mk x _ _=>x
def nvS:Nv->List Sy | .mk _ x _=>x
def nvH:Nv->List Ho | .mk _ _ x=>x
def nmsC:List BA->List (List PV)
 | []=>[]
 | s::r=>[.str s]::nmsC r
theorem nmsC_eq(l:List BA):nmsC l=l.map (fun s=>[.str s]):=by induction l with | nil=>rfl | cons x r ih=>simp [nmsC,ih]
theorem nmsC_len(l:List BA):(nmsC l).length=l.length:=by simp [nmsC_eq]
theorem nmsC_at{l:List BA}{i:Nat}(h:i<l.length):(nmsC l).getD i []=[.str (l.getD i nm0)]:=by rw [nmsC_eq]; simp [List.getD,h]
theorem nmsC_app(a b:List BA):nmsC (a++b)=nmsC a++nmsC b:=by simp [nmsC_eq]
theorem nmsC_snoc(l:List BA)(x:BA):nmsC (l++[x])=nmsC l++[[.str x]]:=by simp [nmsC_eq]
mutual
def Pr.c:Pr->List PV
 | .mk xO xNm xN xK=>[.int .i64 xO,.str xNm,.int .i64 xN,.sl 4 (Pr.cs xK)]
def Pr.cs:List Pr->List (List PV)
 | []=>[]
 | x::r=>Pr.c x::Pr.cs r
end
abbrev prL(x:Pr):List PV:=[.int .i64 (prO x),.str (prNm x),.int .i64 (prN x),.sl 4 (Pr.cs (prK x))]
abbrev prV(x:Pr):List LV:=[.v (.int .i64 (prO x)),.v (.str (prNm x)),.v (.int .i64 (prN x)),.v (.sl 4 (Pr.cs (prK x)))]
theorem Pr.c_eq(x:Pr):Pr.c x=prL x:=by cases x; rfl
theorem Pr.cs_eq(l:List Pr):Pr.cs l=l.map (prL):=by induction l with | nil=>rfl | cons x r ih=>simp [Pr.cs,ih,Pr.c_eq]
theorem Pr.cs_len(l:List Pr):(Pr.cs l).length=l.length:=by simp [Pr.cs_eq]
theorem Pr.cs_at{l:List Pr}{i:Nat}(h:i<l.length):(Pr.cs l).getD i []=prL (l.getD i default):=by rw [Pr.cs_eq]; simp [List.getD,h]
theorem Pr.cs_snoc(l:List Pr)(x:Pr):Pr.cs (l++[x])=Pr.cs l++[prL x]:=by simp [Pr.cs_eq]
mutual
def Tp.c:Tp->List PV
 | .mk xO xNm xA xNs xP xPs=>[.int .i64 xO,.str xNm,.sl 9 (Tp.cs xA),.sl 1 (nmsC xNs),.int .i64 (prO xP),.str (prNm xP),.int .i64 (prN xP),.sl 4 (Pr.cs (prK xP)),.sl 4 (Pr.cs xPs)]
def Tp.cs:List Tp->List (List PV)
 | []=>[]
 | x::r=>Tp.c x::Tp.cs r
end
abbrev tpL(x:Tp):List PV:=[.int .i64 (tpO x),.str (tpNm x),.sl 9 (Tp.cs (tpA x)),.sl 1 (nmsC (tpNs x)),.int .i64 (prO (tpP x)),.str (prNm (tpP x)),.int .i64 (prN (tpP x)),.sl 4 (Pr.cs (prK (tpP x))),.sl 4 (Pr.cs (tpPs x))]
abbrev tpV(x:Tp):List LV:=[.v (.int .i64 (tpO x)),.v (.str (tpNm x)),.v (.sl 9 (Tp.cs (tpA x))),.v (.sl 1 (nmsC (tpNs x))),.v (.int .i64 (prO (tpP x))),.v (.str (prNm (tpP x))),.v (.int .i64 (prN (tpP x))),.v (.sl 4 (Pr.cs (prK (tpP x)))),.v (.sl 4 (Pr.cs (tpPs x)))]
theorem Tp.c_eq(x:Tp):Tp.c x=tpL x:=by cases x; rfl
theorem Tp.cs_eq(l:List Tp):Tp.cs l=l.map (tpL):=by induction l with | nil=>rfl | cons x r ih=>simp [Tp.cs,ih,Tp.c_eq]
theorem Tp.cs_len(l:List Tp):(Tp.cs l).length=l.length:=by simp [Tp.cs_eq]
theorem Tp.cs_at{l:List Tp}{i:Nat}(h:i<l.length):(Tp.cs l).getD i []=tpL (l.getD i default):=by rw [Tp.cs_eq]; simp [List.getD,h]
theorem Tp.cs_snoc(l:List Tp)(x:Tp):Tp.cs (l++[x])=Tp.cs l++[tpL x]:=by simp [Tp.cs_eq]
abbrev pmL(x:Pm):List PV:=[.str (pmNm x),.int .i64 (tpO (pmT x)),.str (tpNm (pmT x)),.sl 9 (Tp.cs (tpA (pmT x))),.sl 1 (nmsC (tpNs (pmT x))),.int .i64 (prO (tpP (pmT x))),.str (prNm (tpP (pmT x))),.int .i64 (prN (tpP (pmT x))),.sl 4 (Pr.cs (prK (tpP (pmT x)))),.sl 4 (Pr.cs (tpPs (pmT x)))]
def Pm.cs:List Pm->List (List PV)
 | []=>[]
 | x::r=>pmL x::Pm.cs r
theorem Pm.cs_eq(l:List Pm):Pm.cs l=l.map (pmL):=by induction l with | nil=>rfl | cons x r ih=>simp [Pm.cs,ih]
theorem Pm.cs_len(l:List Pm):(Pm.cs l).length=l.length:=by simp [Pm.cs_eq]
theorem Pm.cs_at{l:List Pm}{i:Nat}(h:i<l.length):(Pm.cs l).getD i []=pmL (l.getD i default):=by rw [Pm.cs_eq]; simp [List.getD,h]
mutual
def Ex.c:Ex->List PV
 | .mk xO xNm xN xK xP xA xT=>[.int .i64 xO,.str xNm,.int .i64 xN,.sl 7 (Ex.cs xK),.sl 10 (Pm.cs xP),.sl 9 (Al.cs xA),.sl 9 (Tp.cs xT)]
def Ex.cs:List Ex->List (List PV)
 | []=>[]
 | x::r=>Ex.c x::Ex.cs r
def Al.c:Al->List PV
 | .mk xC xNs xB => .str xC :: .sl 1 (nmsC xNs)::Ex.c xB
def Al.cs:List Al->List (List PV)
 | []=>[]
 | x::r=>Al.c x::Al.cs r
end
abbrev exL(x:Ex):List PV:=[.int .i64 (exO x),.str (exNm x),.int .i64 (exN x),.sl 7 (Ex.cs (exK x)),.sl 10 (Pm.cs (exP x)),.sl 9 (Al.cs (exA x)),.sl 9 (Tp.cs (exT x))]
abbrev exV(x:Ex):List LV:=[.v (.int .i64 (exO x)),.v (.str (exNm x)),.v (.int .i64 (exN x)),.v (.sl 7 (Ex.cs (exK x))),.v (.sl 10 (Pm.cs (exP x))),.v (.sl 9 (Al.cs (exA x))),.v (.sl 9 (Tp.cs (exT x)))]
abbrev alL(x:Al):List PV:=[.str (alC x),.sl 1 (nmsC (alNs x)),.int .i64 (exO (alB x)),.str (exNm (alB x)),.int .i64 (exN (alB x)),.sl 7 (Ex.cs (exK (alB x))),.sl 10 (Pm.cs (exP (alB x))),.sl 9 (Al.cs (exA (alB x))),.sl 9 (Tp.cs (exT (alB x)))]
theorem Ex.c_eq(x:Ex):Ex.c x=exL x:=by cases x; rfl
theorem Al.c_eq(x:Al):Al.c x=alL x:=by cases x with | mk a0 a1 a2=>cases a2; rfl
theorem Ex.cs_eq(l:List Ex):Ex.cs l=l.map (exL):=by induction l with | nil=>rfl | cons x r ih=>simp [Ex.cs,ih,Ex.c_eq]
theorem Ex.cs_len(l:List Ex):(Ex.cs l).length=l.length:=by simp [Ex.cs_eq]
theorem Ex.cs_at{l:List Ex}{i:Nat}(h:i<l.length):(Ex.cs l).getD i []=exL (l.getD i default):=by rw [Ex.cs_eq]; simp [List.getD,h]
theorem Ex.cs_snoc(l:List Ex)(x:Ex):Ex.cs (l++[x])=Ex.cs l++[exL x]:=by simp [Ex.cs_eq]
theorem Al.cs_eq(l:List Al):Al.cs l=l.map (alL):=by induction l with | nil=>rfl | cons x r ih=>simp [Al.cs,ih,Al.c_eq]
theorem Al.cs_len(l:List Al):(Al.cs l).length=l.length:=by simp [Al.cs_eq]
theorem Al.cs_at{l:List Al}{i:Nat}(h:i<l.length):(Al.cs l).getD i []=alL (l.getD i default):=by rw [Al.cs_eq]; simp [List.getD,h]
abbrev vrL(x:Vr):List PV:=[.str (vrNm x),.str (vrS x)]
abbrev vrV(x:Vr):List LV:=[.v (.str (vrNm x)),.v (.str (vrS x))]
def Vr.cs:List Vr->List (List PV)
 | []=>[]
 | x::r=>vrL x::Vr.cs r
theorem Vr.cs_eq(l:List Vr):Vr.cs l=l.map (vrL):=by induction l with | nil=>rfl | cons x r ih=>simp [Vr.cs,ih]
theorem Vr.cs_len(l:List Vr):(Vr.cs l).length=l.length:=by simp [Vr.cs_eq]
theorem Vr.cs_at{l:List Vr}{i:Nat}(h:i<l.length):(Vr.cs l).getD i []=vrL (l.getD i default):=by rw [Vr.cs_eq]; simp [List.getD,h]
theorem Vr.cs_snoc(l:List Vr)(x:Vr):Vr.cs (l++[x])=Vr.cs l++[vrL x]:=by simp [Vr.cs_eq]
abbrev cnL(x:Cn):List PV:=[.str (cnNm x),.sl 1 (nmsC (cnNs x)),.sl 9 (Tp.cs (cnF x))]
def Cn.cs:List Cn->List (List PV)
 | []=>[]
 | x::r=>cnL x::Cn.cs r
theorem Cn.cs_eq(l:List Cn):Cn.cs l=l.map (cnL):=by induction l with | nil=>rfl | cons x r ih=>simp [Cn.cs,ih]
theorem Cn.cs_len(l:List Cn):(Cn.cs l).length=l.length:=by simp [Cn.cs_eq]
theorem Cn.cs_at{l:List Cn}{i:Nat}(h:i<l.length):(Cn.cs l).getD i []=cnL (l.getD i default):=by rw [Cn.cs_eq]; simp [List.getD,h]
abbrev daL(x:Da):List PV:=[.str (daNm x),.sl 1 (nmsC (daVs x)),.sl 2 (Vr.cs (daP x)),.sl 3 (Cn.cs (daC x))]
abbrev daV(x:Da):List LV:=[.v (.str (daNm x)),.v (.sl 1 (nmsC (daVs x))),.v (.sl 2 (Vr.cs (daP x))),.v (.sl 3 (Cn.cs (daC x)))]
def Da.cs:List Da->List (List PV)
 | []=>[]
 | x::r=>daL x::Da.cs r
theorem Da.cs_eq(l:List Da):Da.cs l=l.map (daL):=by induction l with | nil=>rfl | cons x r ih=>simp [Da.cs,ih]
theorem Da.cs_len(l:List Da):(Da.cs l).length=l.length:=by simp [Da.cs_eq]
theorem Da.cs_at{l:List Da}{i:Nat}(h:i<l.length):(Da.cs l).getD i []=daL (l.getD i default):=by rw [Da.cs_eq]; simp [List.getD,h]
abbrev clL(x:Cl):List PV:=[.str (clNm x),.str (clW x),.sl 10 (Pm.cs (clM x))]
def Cl.cs:List Cl->List (List PV)
 | []=>[]
 | x::r=>clL x::Cl.cs r
theorem Cl.cs_eq(l:List Cl):Cl.cs l=l.map (clL):=by induction l with | nil=>rfl | cons x r ih=>simp [Cl.cs,ih]
theorem Cl.cs_len(l:List Cl):(Cl.cs l).length=l.length:=by simp [Cl.cs_eq]
theorem Cl.cs_at{l:List Cl}{i:Nat}(h:i<l.length):(Cl.cs l).getD i []=clL (l.getD i default):=by rw [Cl.cs_eq]; simp [List.getD,h]
abbrev boL(x:Bo):List PV:=[.str (boNm x),.sl 2 (Vr.cs (boW x)),.int .i64 (prO (boH x)),.str (prNm (boH x)),.int .i64 (prN (boH x)),.sl 4 (Pr.cs (prK (boH x))),.int .i64 (prO (boG x)),.str (prNm (boG x)),.int .i64 (prN (boG x)),.sl 4 (Pr.cs (prK (boG x)))]
def Bo.cs:List Bo->List (List PV)
 | []=>[]
 | x::r=>boL x::Bo.cs r
theorem Bo.cs_eq(l:List Bo):Bo.cs l=l.map (boL):=by induction l with | nil=>rfl | cons x r ih=>simp [Bo.cs,ih]
theorem Bo.cs_len(l:List Bo):(Bo.cs l).length=l.length:=by simp [Bo.cs_eq]
theorem Bo.cs_at{l:List Bo}{i:Nat}(h:i<l.length):(Bo.cs l).getD i []=boL (l.getD i default):=by rw [Bo.cs_eq]; simp [List.getD,h]
abbrev dfL(x:Df):List PV:=[.str (dfNm x),.sl 1 (nmsC (dfP x)),.int .i64 (exO (dfB x)),.str (exNm (dfB x)),.int .i64 (exN (dfB x)),.sl 7 (Ex.cs (exK (dfB x))),.sl 10 (Pm.cs (exP (dfB x))),.sl 9 (Al.cs (exA (dfB x))),.sl 9 (Tp.cs (exT (dfB x))),.int .i64 (dfM x),.bool (dfTy x),.sl 1 (nmsC (dfVs x)),.sl 2 (Vr.cs (dfNe x)),.sl 2 (Vr.cs (dfAb x)),.sl 10 (Bo.cs (dfBo x)),.int .i64 (tpO (dfT x)),.str (tpNm (dfT x)),.sl 9 (Tp.cs (tpA (dfT x))),.sl 1 (nmsC (tpNs (dfT x))),.int .i64 (prO (tpP (dfT x))),.str (prNm (tpP (dfT x))),.int .i64 (prN (tpP (dfT x))),.sl 4 (Pr.cs (prK (tpP (dfT x)))),.sl 4 (Pr.cs (tpPs (dfT x))),.sl 4 (Pr.cs (dfMe x))]
def Df.cs:List Df->List (List PV)
 | []=>[]
 | x::r=>dfL x::Df.cs r
theorem Df.cs_eq(l:List Df):Df.cs l=l.map (dfL):=by induction l with | nil=>rfl | cons x r ih=>simp [Df.cs,ih]
theorem Df.cs_len(l:List Df):(Df.cs l).length=l.length:=by simp [Df.cs_eq]
theorem Df.cs_at{l:List Df}{i:Nat}(h:i<l.length):(Df.cs l).getD i []=dfL (l.getD i default):=by rw [Df.cs_eq]; simp [List.getD,h]
theorem Df.cs_snoc(l:List Df)(x:Df):Df.cs (l++[x])=Df.cs l++[dfL x]:=by simp [Df.cs_eq]
abbrev inL(x:In):List PV:=[.str (inNm x),.int .i64 (tpO (inT x)),.str (tpNm (inT x)),.sl 9 (Tp.cs (tpA (inT x))),.sl 1 (nmsC (tpNs (inT x))),.int .i64 (prO (tpP (inT x))),.str (prNm (tpP (inT x))),.int .i64 (prN (tpP (inT x))),.sl 4 (Pr.cs (prK (tpP (inT x)))),.sl 4 (Pr.cs (tpPs (inT x))),.sl 2 (Vr.cs (inNe x)),.sl 25 (Df.cs (inD x))]
def In.cs:List In->List (List PV)
 | []=>[]
 | x::r=>inL x::In.cs r
theorem In.cs_eq(l:List In):In.cs l=l.map (inL):=by induction l with | nil=>rfl | cons x r ih=>simp [In.cs,ih]
theorem In.cs_len(l:List In):(In.cs l).length=l.length:=by simp [In.cs_eq]
theorem In.cs_at{l:List In}{i:Nat}(h:i<l.length):(In.cs l).getD i []=inL (l.getD i default):=by rw [In.cs_eq]; simp [List.getD,h]
abbrev csL(x:Cs):List PV:=[.str (csC x),.sl 1 (nmsC (csNs x)),.int .i64 (prO (csB x)),.str (prNm (csB x)),.int .i64 (prN (csB x)),.sl 4 (Pr.cs (prK (csB x)))]
def Cs.cs:List Cs->List (List PV)
 | []=>[]
 | x::r=>csL x::Cs.cs r
theorem Cs.cs_eq(l:List Cs):Cs.cs l=l.map (csL):=by induction l with | nil=>rfl | cons x r ih=>simp [Cs.cs,ih]
theorem Cs.cs_len(l:List Cs):(Cs.cs l).length=l.length:=by simp [Cs.cs_eq]
theorem Cs.cs_at{l:List Cs}{i:Nat}(h:i<l.length):(Cs.cs l).getD i []=csL (l.getD i default):=by rw [Cs.cs_eq]; simp [List.getD,h]
abbrev msL(x:Ms):List PV:=[.str (msNm x),.str (msD x),.str (msR x),.sl 6 (Cs.cs (msC x)),.int .i64 (prO (msI x)),.str (prNm (msI x)),.int .i64 (prN (msI x)),.sl 4 (Pr.cs (prK (msI x)))]
def Ms.cs:List Ms->List (List PV)
 | []=>[]
 | x::r=>msL x::Ms.cs r
theorem Ms.cs_eq(l:List Ms):Ms.cs l=l.map (msL):=by induction l with | nil=>rfl | cons x r ih=>simp [Ms.cs,ih]
theorem Ms.cs_len(l:List Ms):(Ms.cs l).length=l.length:=by simp [Ms.cs_eq]
theorem Ms.cs_at{l:List Ms}{i:Nat}(h:i<l.length):(Ms.cs l).getD i []=msL (l.getD i default):=by rw [Ms.cs_eq]; simp [List.getD,h]
abbrev quL(x:Qu):List PV:=[.str (quNm x),.sl 2 (Vr.cs (quW x)),.int .i64 (prO (quB x)),.str (prNm (quB x)),.int .i64 (prN (quB x)),.sl 4 (Pr.cs (prK (quB x)))]
def Qu.cs:List Qu->List (List PV)
 | []=>[]
 | x::r=>quL x::Qu.cs r
theorem Qu.cs_eq(l:List Qu):Qu.cs l=l.map (quL):=by induction l with | nil=>rfl | cons x r ih=>simp [Qu.cs,ih]
theorem Qu.cs_len(l:List Qu):(Qu.cs l).length=l.length:=by simp [Qu.cs_eq]
theorem Qu.cs_at{l:List Qu}{i:Nat}(h:i<l.length):(Qu.cs l).getD i []=quL (l.getD i default):=by rw [Qu.cs_eq]; simp [List.getD,h]
abbrev moL(x:Mo):List PV:=[.sl 4 (Da.cs (moD x)),.sl 3 (Cl.cs (moC x)),.sl 12 (In.cs (moI x)),.sl 8 (Ms.cs (moM x)),.sl 6 (Qu.cs (moQ x)),.sl 25 (Df.cs (moF x))]
abbrev moV(x:Mo):List LV:=[.v (.sl 4 (Da.cs (moD x))),.v (.sl 3 (Cl.cs (moC x))),.v (.sl 12 (In.cs (moI x))),.v (.sl 8 (Ms.cs (moM x))),.v (.sl 6 (Qu.cs (moQ x))),.v (.sl 25 (Df.cs (moF x)))]
abbrev syL(x:Sy):List PV:=[.str (syNm x),.sl 1 (nmsC (syA x)),.str (syR x)]
abbrev syV(x:Sy):List LV:=[.v (.str (syNm x)),.v (.sl 1 (nmsC (syA x))),.v (.str (syR x))]
def Sy.cs:List Sy->List (List PV)
 | []=>[]
 | x::r=>syL x::Sy.cs r
theorem Sy.cs_eq(l:List Sy):Sy.cs l=l.map (syL):=by induction l with | nil=>rfl | cons x r ih=>simp [Sy.cs,ih]
theorem Sy.cs_len(l:List Sy):(Sy.cs l).length=l.length:=by simp [Sy.cs_eq]
theorem Sy.cs_at{l:List Sy}{i:Nat}(h:i<l.length):(Sy.cs l).getD i []=syL (l.getD i default):=by rw [Sy.cs_eq]; simp [List.getD,h]
theorem Sy.cs_snoc(l:List Sy)(x:Sy):Sy.cs (l++[x])=Sy.cs l++[syL x]:=by simp [Sy.cs_eq]
abbrev hoL(x:Ho):List PV:=[.str (hoNm x),.sl 2 (Vr.cs (hoP x))]
abbrev hoV(x:Ho):List LV:=[.v (.str (hoNm x)),.v (.sl 2 (Vr.cs (hoP x)))]
def Ho.cs:List Ho->List (List PV)
 | []=>[]
 | x::r=>hoL x::Ho.cs r
theorem Ho.cs_eq(l:List Ho):Ho.cs l=l.map (hoL):=by induction l with | nil=>rfl | cons x r ih=>simp [Ho.cs,ih]
theorem Ho.cs_len(l:List Ho):(Ho.cs l).length=l.length:=by simp [Ho.cs_eq]
theorem Ho.cs_at{l:List Ho}{i:Nat}(h:i<l.length):(Ho.cs l).getD i []=hoL (l.getD i default):=by rw [Ho.cs_eq]; simp [List.getD,h]
theorem Ho.cs_snoc(l:List Ho)(x:Ho):Ho.cs (l++[x])=Ho.cs l++[hoL x]:=by simp [Ho.cs_eq]
abbrev nvL(x:Nv):List PV:=[.sl 2 (Vr.cs (nvW x)),.sl 3 (Sy.cs (nvS x)),.sl 2 (Ho.cs (nvH x))]
abbrev nvV(x:Nv):List LV:=[.v (.sl 2 (Vr.cs (nvW x))),.v (.sl 3 (Sy.cs (nvS x))),.v (.sl 2 (Ho.cs (nvH x)))]
theorem drop_at{α:Type} [Inhabited α] {l:List α} {i:Nat} (h:i<l.length):l.drop i=l.getD i default::l.drop (i+1):=by
 rw [List.drop_eq_getElem_cons h]
 simp [List.getD,h]
theorem drop_at0{l:List BA}{i:Nat}(h:i<l.length):l.drop i=l.getD i nm0::l.drop (i+1):=by
 rw [List.drop_eq_getElem_cons h]
 simp [List.getD,h]
theorem take_rev_at{α:Type} [Inhabited α] {l:List α} {i:Nat} (h:i<l.length):(l.take (i+1)).reverse=l.getD i default::(l.take i).reverse:=by
 rw [List.take_succ_eq_append_getElem h,List.reverse_append]
 simp [List.getD,h]
theorem getD_mem{α:Type} [Inhabited α] {l:List α} {i:Nat} (h:i<l.length):l.getD i default∈l:=by simp [List.getD,h]
set_option maxRecDepth 100000
theorem mixed:Tryz.prog.follows .mixedOrders=true:=by kernel_rfl
theorem pu{f:FuncId}{fn:Func}{args:List PV}(md:Md)(L:Ext->List (Stp Tryz.prog)){r:CRes}(hf:Tryz.prog.funcs[f]?=some fn)(hok:(isFn Tryz.prog f&&fnOK fn)=true:=by kernel_rfl)(h:∀e,evFX Tryz.prog md 50 fn args e (asS (L e)) = .ok (r,e) [] (osS (L e)):=by intro e; kernel_rfl):(Ob.pur f args r).ok Tryz.prog:=Ob.pur_of md 50 (fun e=>asS (L e)) mixed hf hok h fun e=>okS (L e)
theorem ef{f:FuncId}{fn:Func}{args:List PV}{e e':Ext}(md:Md)(L:List (Stp Tryz.prog)){r:CRes}(hf:Tryz.prog.funcs[f]?=some fn)(hok:(isFn Tryz.prog f&&fnOK fn)=true:=by kernel_rfl)(h:evFX Tryz.prog md 50 fn args e (asS L) = .ok (r,e') [] (osS L):=by kernel_rfl):(Ob.eff f args e r e').ok Tryz.prog:=Ob.eff_of md 50 (asS L) mixed hf hok h (okS L)
theorem pw{cx:Cx}{c:Code}{s s':S}{pe:PExit}{Q:PExit->S->Prop}(md:Md)(n:Nat)(L:List (Stp Tryz.prog))(ks bs:List Nat)(hn:cx.n=n)(hq:Q pe s')(hc:codeOK n c=true:=by kernel_rfl)(h:(evCX Tryz.prog md n 50 c s (asS L)).keep ks bs = .ok (pe,s') [] (osS L):=by kernel_rfl):PW Tryz.prog cx c s Q:=PW_runK md n 50 (asS L) ks bs mixed hn hc h (okS L) hq
abbrev Pu(f:FuncId)(a:List PV)(r:CRes):Prop:=(Ob.pur f a r).ok Tryz.prog
abbrev Ef(f:FuncId)(a:List PV)(e:Ext)(r:CRes)(e':Ext):Prop:=(Ob.eff f a e r e').ok Tryz.prog
theorem Wq{a b:LV}(h:WL a b:=by first | exact .inl rfl | exact .inr ⟨rfl,rfl⟩ | exact .inr rfl | exact .inr trivial):WL a b:=h
theorem pm{f:FuncId}{fn:Func}{args:List PV}(md:Md)(L:List (Stp Tryz.prog)){r:CRes}(hf:Tryz.prog.funcs[f]?=some fn)(hok:(isFn Tryz.prog f&&fnOK fn)=true:=by kernel_rfl)(h:∀e,evFX Tryz.prog md 50 fn args e (asS L) = .ok (r,e) [] (osS L):=by intro e; kernel_rfl):(Ob.pur f args r).ok Tryz.prog:=pu md (fun _=>L) hf hok h
abbrev bM(n:UInt8):BA:=ByteArray.mk #[n]
theorem kr{a:PV}{l r:List PV}(h:WkL l r):WkL (a::l) (a::r):=WkL.c (Wk.r _) h
theorem kn(n:Nat){l r:List PV}(h:WkL l r):WkL (.nilsl::l) (.sl n []::r):=WkL.c (Wk.n n) h
def ksT(s:S):List Nat:=s.tmps.map (·.1)
def ksB(s:S):List Nat:=s.boxes.map (·.1)
def kQ(s:S):Bool:=kyS s.tmps []&&kyS s.boxes []
/-- A round of a loop over a list,as proofs give it. -/
def RB(n:Nat)(c:Code){β R:Type}(I:Int → β → S)(f:Nat → β → R)(q:R → PExit × S)(inv:Nat → β → Prop)(i:Nat)(b:β):Prop:=codeOK n c=true → ∀cx:Cx,cx.n=n → PW Tryz.prog cx c (I (i:Int) b) fun pe s'=>(pe = .normal ∧ ∃b',inv (i+1) b' ∧ LeX (I ((i:Int)+1) b') s' ∧ f i b=f (i+1) b')∨(pe ≠ .normal ∧ pe=(q (f i b)).1 ∧ LeX (q (f i b)).2 s')
theorem rng{n:Nat}{c:Code}{β R:Type}(len:Nat)(I:Int → β → S)(f:Nat → β → R)(q:R → PExit × S)(inv:Nat → β → Prop)(hc:codeOK n c=true)(h:∀i b,i ≤ len → inv i b → RB n c I f q (fun i b=>i ≤ len ∧ inv i b) i b)(b:β)(h0:inv 0 b):(Ob.loop n c (I 0 b) (q (f 0 b)).1 (q (f 0 b)).2).ok Tryz.prog:=by
  refine Ob.loop_of (P:=Tryz.prog) (α:={ zz:Nat × β // zz.1 ≤ len ∧ inv zz.1 zz.2 }) (fun zz=>I (zz.1.1:Int) zz.1.2) (fun zz=>len - zz.1.1) (fun zz=>q (f zz.1.1 zz.1.2)) ?_ ⟨(0,b),Nat.zero_le _,h0⟩
  rintro ⟨⟨i,b⟩,hi,hv⟩ cx hcx
  simp only at hi hv ⊢
  refine (h i b hi hv hc cx hcx).mono ?_
  rintro pe s' (⟨h1,b',h2,h3,h4⟩ | h5)
  · exact .inl ⟨h1,⟨(i+1,b'),h2⟩,by have:=h2.1; simp only; omega,h3,by simp only; rw [h4]⟩
  · exact .inr h5
section
variable {n:Nat} {c:Code} {β R:Type} {I:Int → β → S} {f:Nat → β → R} {q:R → PExit × S} {inv:Nat → β → Prop} {i:Nat} {b:β}
theorem lN{len:Nat}(md:Md)(L:List (Stp Tryz.prog))(hi:i<len)(b':β)(hv:inv (i+1) b')(hf:f i b=f (i+1) b')(h:(evCX Tryz.prog md n 50 c (I i b) (asS L)).keep (ksT (I ((i:Int)+1) b')) (ksB (I ((i:Int)+1) b')) = .ok (.normal,I ((i:Int)+1) b') [] (osS L):=by kernel_rfl)(hk:kQ (I ((i:Int)+1) b')=true:=by kernel_rfl):RB n c I f q (fun i b=>i ≤ len ∧ inv i b) i b:=fun hc _ hcx=>
  PW_runK md n 50 (asS L) _ _ mixed hcx hc h (okS L) (.inl ⟨rfl,b',⟨hi,hv⟩,xq hk,hf⟩)
theorem lS{len:Nat}(md:Md)(L:List (Stp Tryz.prog))(ks bs:List Nat)(hi:i<len)(b':β)(s':S)(hle:LeX (I ((i:Int)+1) b') s')(hv:inv (i+1) b')(hf:f i b=f (i+1) b')(h:(evCX Tryz.prog md n 50 c (I i b) (asS L)).keep ks bs = .ok (.normal,s') [] (osS L):=by kernel_rfl):RB n c I f q (fun i b=>i ≤ len ∧ inv i b) i b:=fun hc _ hcx=>
  PW_runK md n 50 (asS L) _ _ mixed hcx hc h (okS L) (.inl ⟨rfl,b',⟨hi,hv⟩,hle,hf⟩)
theorem lX{inv:Nat → β → Prop}(md:Md)(L:List (Stp Tryz.prog))(r:R)(hr:f i b=r)(h:(evCX Tryz.prog md n 50 c (I i b) (asS L)).keep (ksT (q r).2) (ksB (q r).2) = .ok ((q r).1,(q r).2) [] (osS L):=by kernel_rfl)(hk:kQ (q r).2=true:=by kernel_rfl)(hp:(q r).1 ≠ .normal:=by intro hp; cases hp):RB n c I f q inv i b:=fun hc _ hcx=>
  PW_runK md n 50 (asS L) _ _ mixed hcx hc h (okS L) (.inr ⟨hp,by rw [hr],by rw [hr]; exact xq hk⟩)
theorem lY{inv:Nat → β → Prop}{pe:PExit}(md:Md)(L:List (Stp Tryz.prog))(ks bs:List Nat)(s':S)(r:R)(hr:f i b=r)(hle:LeX (q r).2 s')(he:pe=(q r).1)(hp:pe ≠ .normal)(h:(evCX Tryz.prog md n 50 c (I i b) (asS L)).keep ks bs = .ok (pe,s') [] (osS L):=by kernel_rfl):RB n c I f q inv i b:=fun hc _ hcx=>
  PW_runK md n 50 (asS L) ks bs mixed hcx hc h (okS L) (.inr ⟨hp,by rw [hr]; exact he,by rw [hr]; exact hle⟩)
end
theorem rz{n:Nat}{c:Code}{R:Type}{s:S}{q:R → PExit × S}{x y:R}(h:(Ob.loop n c s (q x).1 (q x).2).ok Tryz.prog)(e:x=y):(Ob.loop n c s (q y).1 (q y).2).ok Tryz.prog:=e ▸ h
section
variable {P:Program}
def xNm(l:List ByteArray)(i:Nat)(h:i<l.length:=by omega):Stp P:=ar ((nmsC l).getD i []) [.str (l.getD i nm0)] (by rw [nmsC_at h])
def xEx(l:List Ex)(i:Nat)(h:i<l.length:=by omega):Stp P:=ar ((Ex.cs l).getD i []) (exL (l.getD i default)) (by rw [Ex.cs_at h])
def xAl(l:List Al)(i:Nat)(h:i<l.length:=by omega):Stp P:=ar ((Al.cs l).getD i []) (alL (l.getD i default)) (by rw [Al.cs_at h])
def xPm(l:List Pm)(i:Nat)(h:i<l.length:=by omega):Stp P:=ar ((Pm.cs l).getD i []) (pmL (l.getD i default)) (by rw [Pm.cs_at h])
def xTp(l:List Tp)(i:Nat)(h:i<l.length:=by omega):Stp P:=ar ((Tp.cs l).getD i []) (tpL (l.getD i default)) (by rw [Tp.cs_at h])
def xDf(l:List Df)(i:Nat)(h:i<l.length:=by omega):Stp P:=ar ((Df.cs l).getD i []) (dfL (l.getD i default)) (by rw [Df.cs_at h])
def xPr(l:List Pr)(i:Nat)(h:i<l.length:=by omega):Stp P:=ar ((Pr.cs l).getD i []) (prL (l.getD i default)) (by rw [Pr.cs_at h])
def xVr(l:List Vr)(i:Nat)(h:i<l.length:=by omega):Stp P:=ar ((Vr.cs l).getD i []) (vrL (l.getD i default)) (by rw [Vr.cs_at h])
def xCn(l:List Cn)(i:Nat)(h:i<l.length:=by omega):Stp P:=ar ((Cn.cs l).getD i []) (cnL (l.getD i default)) (by rw [Cn.cs_at h])
def xDa(l:List Da)(i:Nat)(h:i<l.length:=by omega):Stp P:=ar ((Da.cs l).getD i []) (daL (l.getD i default)) (by rw [Da.cs_at h])
def xCl(l:List Cl)(i:Nat)(h:i<l.length:=by omega):Stp P:=ar ((Cl.cs l).getD i []) (clL (l.getD i default)) (by rw [Cl.cs_at h])
def xBo(l:List Bo)(i:Nat)(h:i<l.length:=by omega):Stp P:=ar ((Bo.cs l).getD i []) (boL (l.getD i default)) (by rw [Bo.cs_at h])
def xIn(l:List In)(i:Nat)(h:i<l.length:=by omega):Stp P:=ar ((In.cs l).getD i []) (inL (l.getD i default)) (by rw [In.cs_at h])
def xCs(l:List Cs)(i:Nat)(h:i<l.length:=by omega):Stp P:=ar ((Cs.cs l).getD i []) (csL (l.getD i default)) (by rw [Cs.cs_at h])
def xMs(l:List Ms)(i:Nat)(h:i<l.length:=by omega):Stp P:=ar ((Ms.cs l).getD i []) (msL (l.getD i default)) (by rw [Ms.cs_at h])
def xQu(l:List Qu)(i:Nat)(h:i<l.length:=by omega):Stp P:=ar ((Qu.cs l).getD i []) (quL (l.getD i default)) (by rw [Qu.cs_at h])
def xSy(l:List Sy)(i:Nat)(h:i<l.length:=by omega):Stp P:=ar ((Sy.cs l).getD i []) (syL (l.getD i default)) (by rw [Sy.cs_at h])
def xHo(l:List Ho)(i:Nat)(h:i<l.length:=by omega):Stp P:=ar ((Ho.cs l).getD i []) (hoL (l.getD i default)) (by rw [Ho.cs_at h])
end
theorem bulkP_pos:∀p:PV,1<=bulkP p:=fun p=>by cases p <;> simp [bulkP]
theorem cons_bulk(p:PV)(r:List PV):1<=bulkPs (p::r):=by have:=bulkP_pos p; simp only [bulkPs]; omega
theorem mem_bulk:∀ {l:List (List PV)} {c:List PV},c∈l->bulkPs c<=bulkPss l
 | x::r,c,h=>by
  simp only [bulkPss]
  rcases List.mem_cons.1 h with rfl | h
  ·omega
  ·have:=mem_bulk h; omega
theorem len_bulk:∀ {l:List (List PV)},(∀c∈l,1<=bulkPs c)->l.length<=bulkPss l
 | [],_=>by simp
 | x::r,h=>by
  have h1:=h x List.mem_cons_self
  have h2:=len_bulk fun c hc=>h c (List.mem_cons_of_mem _ hc)
  simp only [bulkPss,List.length_cons]
  omega
theorem nms_bulk(l:List BA):l.length<=bulkPss (nmsC l):=by
 have:=len_bulk (l:=nmsC l) fun c hc=>by
  rw [nmsC_eq] at hc
  obtain ⟨x,-,rfl⟩:=List.mem_map.1 hc
  exact cons_bulk _ _
 rwa [nmsC_len] at this
theorem Pr.bulk(l:List Pr):l.length<=bulkPss (Pr.cs l):=by
 have:=len_bulk (l:=Pr.cs l) fun c hc=>by
  rw [Pr.cs_eq] at hc
  obtain ⟨x,-,rfl⟩:=List.mem_map.1 hc
  exact cons_bulk _ _
 rwa [Pr.cs_len] at this
theorem Pr.mem{l:List Pr}{x:Pr}(h:x∈l):bulkPs (prL x)<=bulkPss (Pr.cs l):=mem_bulk (by rw [Pr.cs_eq]; exact List.mem_map_of_mem h)
theorem Tp.bulk(l:List Tp):l.length<=bulkPss (Tp.cs l):=by
 have:=len_bulk (l:=Tp.cs l) fun c hc=>by
  rw [Tp.cs_eq] at hc
  obtain ⟨x,-,rfl⟩:=List.mem_map.1 hc
  exact cons_bulk _ _
 rwa [Tp.cs_len] at this
theorem Tp.mem{l:List Tp}{x:Tp}(h:x∈l):bulkPs (tpL x)<=bulkPss (Tp.cs l):=mem_bulk (by rw [Tp.cs_eq]; exact List.mem_map_of_mem h)
theorem Pm.bulk(l:List Pm):l.length<=bulkPss (Pm.cs l):=by
 have:=len_bulk (l:=Pm.cs l) fun c hc=>by
  rw [Pm.cs_eq] at hc
  obtain ⟨x,-,rfl⟩:=List.mem_map.1 hc
  exact cons_bulk _ _
 rwa [Pm.cs_len] at this
theorem Pm.mem{l:List Pm}{x:Pm}(h:x∈l):bulkPs (pmL x)<=bulkPss (Pm.cs l):=mem_bulk (by rw [Pm.cs_eq]; exact List.mem_map_of_mem h)
theorem Ex.bulk(l:List Ex):l.length<=bulkPss (Ex.cs l):=by
 have:=len_bulk (l:=Ex.cs l) fun c hc=>by
  rw [Ex.cs_eq] at hc
  obtain ⟨x,-,rfl⟩:=List.mem_map.1 hc
  exact cons_bulk _ _
 rwa [Ex.cs_len] at this
theorem Ex.mem{l:List Ex}{x:Ex}(h:x∈l):bulkPs (exL x)<=bulkPss (Ex.cs l):=mem_bulk (by rw [Ex.cs_eq]; exact List.mem_map_of_mem h)
theorem Al.bulk(l:List Al):l.length<=bulkPss (Al.cs l):=by
 have:=len_bulk (l:=Al.cs l) fun c hc=>by
  rw [Al.cs_eq] at hc
  obtain ⟨x,-,rfl⟩:=List.mem_map.1 hc
  exact cons_bulk _ _
 rwa [Al.cs_len] at this
theorem Al.mem{l:List Al}{x:Al}(h:x∈l):bulkPs (alL x)<=bulkPss (Al.cs l):=mem_bulk (by rw [Al.cs_eq]; exact List.mem_map_of_mem h)
theorem Vr.bulk(l:List Vr):l.length<=bulkPss (Vr.cs l):=by
 have:=len_bulk (l:=Vr.cs l) fun c hc=>by
  rw [Vr.cs_eq] at hc
  obtain ⟨x,-,rfl⟩:=List.mem_map.1 hc
  exact cons_bulk _ _
 rwa [Vr.cs_len] at this
theorem Cn.bulk(l:List Cn):l.length<=bulkPss (Cn.cs l):=by
 have:=len_bulk (l:=Cn.cs l) fun c hc=>by
  rw [Cn.cs_eq] at hc
  obtain ⟨x,-,rfl⟩:=List.mem_map.1 hc
  exact cons_bulk _ _
 rwa [Cn.cs_len] at this
theorem Cn.mem{l:List Cn}{x:Cn}(h:x∈l):bulkPs (cnL x)<=bulkPss (Cn.cs l):=mem_bulk (by rw [Cn.cs_eq]; exact List.mem_map_of_mem h)
theorem Da.bulk(l:List Da):l.length<=bulkPss (Da.cs l):=by
 have:=len_bulk (l:=Da.cs l) fun c hc=>by
  rw [Da.cs_eq] at hc
  obtain ⟨x,-,rfl⟩:=List.mem_map.1 hc
  exact cons_bulk _ _
 rwa [Da.cs_len] at this
theorem Da.mem{l:List Da}{x:Da}(h:x∈l):bulkPs (daL x)<=bulkPss (Da.cs l):=mem_bulk (by rw [Da.cs_eq]; exact List.mem_map_of_mem h)
theorem Cl.mem{l:List Cl}{x:Cl}(h:x∈l):bulkPs (clL x)<=bulkPss (Cl.cs l):=mem_bulk (by rw [Cl.cs_eq]; exact List.mem_map_of_mem h)
theorem Bo.bulk(l:List Bo):l.length<=bulkPss (Bo.cs l):=by
 have:=len_bulk (l:=Bo.cs l) fun c hc=>by
  rw [Bo.cs_eq] at hc
  obtain ⟨x,-,rfl⟩:=List.mem_map.1 hc
  exact cons_bulk _ _
 rwa [Bo.cs_len] at this
theorem Bo.mem{l:List Bo}{x:Bo}(h:x∈l):bulkPs (boL x)<=bulkPss (Bo.cs l):=mem_bulk (by rw [Bo.cs_eq]; exact List.mem_map_of_mem h)
theorem Df.bulk(l:List Df):l.length<=bulkPss (Df.cs l):=by
 have:=len_bulk (l:=Df.cs l) fun c hc=>by
  rw [Df.cs_eq] at hc
  obtain ⟨x,-,rfl⟩:=List.mem_map.1 hc
  exact cons_bulk _ _
 rwa [Df.cs_len] at this
theorem Df.mem{l:List Df}{x:Df}(h:x∈l):bulkPs (dfL x)<=bulkPss (Df.cs l):=mem_bulk (by rw [Df.cs_eq]; exact List.mem_map_of_mem h)
theorem In.mem{l:List In}{x:In}(h:x∈l):bulkPs (inL x)<=bulkPss (In.cs l):=mem_bulk (by rw [In.cs_eq]; exact List.mem_map_of_mem h)
theorem Cs.bulk(l:List Cs):l.length<=bulkPss (Cs.cs l):=by
 have:=len_bulk (l:=Cs.cs l) fun c hc=>by
  rw [Cs.cs_eq] at hc
  obtain ⟨x,-,rfl⟩:=List.mem_map.1 hc
  exact cons_bulk _ _
 rwa [Cs.cs_len] at this
theorem Cs.mem{l:List Cs}{x:Cs}(h:x∈l):bulkPs (csL x)<=bulkPss (Cs.cs l):=mem_bulk (by rw [Cs.cs_eq]; exact List.mem_map_of_mem h)
theorem Ms.mem{l:List Ms}{x:Ms}(h:x∈l):bulkPs (msL x)<=bulkPss (Ms.cs l):=mem_bulk (by rw [Ms.cs_eq]; exact List.mem_map_of_mem h)
theorem Qu.mem{l:List Qu}{x:Qu}(h:x∈l):bulkPs (quL x)<=bulkPss (Qu.cs l):=mem_bulk (by rw [Qu.cs_eq]; exact List.mem_map_of_mem h)
theorem Sy.bulk(l:List Sy):l.length<=bulkPss (Sy.cs l):=by
 have:=len_bulk (l:=Sy.cs l) fun c hc=>by
  rw [Sy.cs_eq] at hc
  obtain ⟨x,-,rfl⟩:=List.mem_map.1 hc
  exact cons_bulk _ _
 rwa [Sy.cs_len] at this
theorem Sy.mem{l:List Sy}{x:Sy}(h:x∈l):bulkPs (syL x)<=bulkPss (Sy.cs l):=mem_bulk (by rw [Sy.cs_eq]; exact List.mem_map_of_mem h)
theorem Ho.bulk(l:List Ho):l.length<=bulkPss (Ho.cs l):=by
 have:=len_bulk (l:=Ho.cs l) fun c hc=>by
  rw [Ho.cs_eq] at hc
  obtain ⟨x,-,rfl⟩:=List.mem_map.1 hc
  exact cons_bulk _ _
 rwa [Ho.cs_len] at this
theorem Ho.mem{l:List Ho}{x:Ho}(h:x∈l):bulkPs (hoL x)<=bulkPss (Ho.cs l):=mem_bulk (by rw [Ho.cs_eq]; exact List.mem_map_of_mem h)
section
variable {P:Program} {n:Nat} {t:TypeId} {cs:List PV}
theorem ty_str(hu:P.underlying t=some .string)(h:Ty P n t cs):∃s,cs=[.str s]:=by
 cases n with
 | zero=>exact h.elim
 | succ n=>simp only [Ty,hu] at h; obtain ⟨s,rfl,-⟩:=h; exact ⟨s,rfl⟩
theorem ty_int{k:IntKind}(hu:P.underlying t=some (.int k))(h:Ty P n t cs):∃v,cs=[.int k v]/\(Lit.int k v).wf=true:=by
 cases n with
 | zero=>exact h.elim
 | succ n=>simp only [Ty,hu] at h; exact h
theorem ty_bool(hu:P.underlying t=some .bool)(h:Ty P n t cs):∃b,cs=[.bool b]:=by
 cases n with
 | zero=>exact h.elim
 | succ n=>simp only [Ty,hu] at h; exact h
theorem ty_struct{fs:Array Field}(hu:P.underlying t=some (.struct fs))(h:Ty P n t cs):∃m,m<n/\TyF (Ty P m) fs.toList cs:=by
 cases n with
 | zero=>exact h.elim
 | succ n=>simp only [Ty,hu] at h; exact ⟨n,by omega,h⟩
theorem ty_slice{q:TypeId}(hu:P.underlying t=some (.slice q))(h:Ty P n t cs):∃m es,m<n/\cs=[.sl (P.cellsOf q) es]/\∀x∈es,Ty P m q x:=by
 cases n with
 | zero=>exact h.elim
 | succ n=>simp only [Ty,hu] at h; obtain ⟨es,h1,-,h2⟩:=h; exact ⟨n,es,by omega,h1,h2⟩
theorem lst_of{α:Type}{mk:α->List PV}:∀ {es:List (List PV)},(∀x∈es,∃a,x=mk a)->∃l:List α,es=l.map mk
 | [],_=>⟨[],rfl⟩
 | x::r,h=>by
  obtain ⟨a,rfl⟩:=h x sM
  obtain ⟨l,rfl⟩:=lst_of (es:=r) fun y hy=>h y (List.mem_cons_of_mem _ hy)
  exact ⟨a::l,rfl⟩
theorem ty_list{α:Type}{mk:α->List PV}{C:List α->List (List PV)}(hC:∀l,C l=l.map mk){q:TypeId}(hu:P.underlying t=some (.slice q)){z:Nat}(hz:P.cellsOf q=z)(h:Ty P n t cs)(he:∀m x,m<n->Ty P m q x->∃a,x=mk a):∃l,cs=[.sl z (C l)]:=by
 obtain ⟨m,es,hm,rfl,h2⟩:=ty_slice hu h
 obtain ⟨l,rfl⟩:=lst_of fun x hx=>he m x hm (h2 x hx)
 exact ⟨l,by rw [hC,hz]⟩
end
section
variable {n:Nat} {cs:List PV}
theorem ty_nms(h:Ty prog n 37 cs):∃l,cs=[.sl 1 (nmsC l)]:=
 ty_list (mk:=fun s=>[.str s]) nmsC_eq Tryz.underlying37 kR h fun m x _ hx=>ty_str Tryz.underlying9 hx
theorem ty_srs(h:Ty prog n 75 cs):∃l,cs=[.sl 1 (nmsC l)]:=
 ty_list (mk:=fun s=>[.str s]) nmsC_eq Tryz.underlying75 kR h fun m x _ hx=>ty_str Tryz.underlying74 hx
theorem ty_Pr:∀ (n:Nat) (cs:List PV),Ty prog n 41 cs->∃x:Pr,cs=prL x:=by
 intro n
 induction n using Nat.strongRecOn with
 | _ n ih=>
  intro cs h
  obtain ⟨m,hm,h⟩:=ty_struct Tryz.underlying41 h
  obtain ⟨c1,r1,rfl,h1,c2,r2,rfl,h2,c3,r3,rfl,h3,c4,r4,rfl,h4,rfl⟩:=h
  obtain ⟨vO,rfl,-⟩:=ty_int Tryz.underlying38 h1
  obtain ⟨vNm,rfl⟩:=ty_str Tryz.underlying9 h2
  obtain ⟨vN,rfl,-⟩:=ty_int Tryz.underlying3 h3
  obtain ⟨vK,rfl⟩:=ty_list (z:=4) Pr.cs_eq Tryz.underlying39 kR h4 fun m' x hm' hx=>ih m' oM x hx
  exact ⟨.mk vO vNm vN vK,by simp only [prO,prNm,prN,prK,prL,List.cons_append,List.nil_append,List.append_nil]⟩
theorem ty_Tp:∀ (n:Nat) (cs:List PV),Ty prog n 43 cs->∃x:Tp,cs=tpL x:=by
 intro n
 induction n using Nat.strongRecOn with
 | _ n ih=>
  intro cs h
  obtain ⟨m,hm,h⟩:=ty_struct Tryz.underlying43 h
  obtain ⟨c1,r1,rfl,h1,c2,r2,rfl,h2,c3,r3,rfl,h3,c4,r4,rfl,h4,c5,r5,rfl,h5,c6,r6,rfl,h6,rfl⟩:=h
  obtain ⟨vO,rfl,-⟩:=ty_int Tryz.underlying35 h1
  obtain ⟨vNm,rfl⟩:=ty_str Tryz.underlying9 h2
  obtain ⟨vA,rfl⟩:=ty_list (z:=9) Tp.cs_eq Tryz.underlying36 kR h3 fun m' x hm' hx=>ih m' oM x hx
  obtain ⟨vNs,rfl⟩:=ty_nms h4
  obtain ⟨vP,rfl⟩:=ty_Pr _ _ h5
  obtain ⟨vPs,rfl⟩:=ty_list (z:=4) Pr.cs_eq Tryz.underlying39 kR h6 fun m' x hm' hx=>ty_Pr _ _ hx
  exact ⟨.mk vO vNm vA vNs vP vPs,by simp only [tpO,tpNm,tpA,tpNs,tpP,tpPs,tpL,prO,prNm,prN,prK,prL,List.cons_append,List.nil_append,List.append_nil]⟩
theorem ty_Pm(h:Ty prog n 140 cs):∃x:Pm,cs=pmL x:=by
 obtain ⟨m,hm,h⟩:=ty_struct Tryz.underlying140 h
 obtain ⟨c1,r1,rfl,h1,c2,r2,rfl,h2,rfl⟩:=h
 obtain ⟨vNm,rfl⟩:=ty_str Tryz.underlying9 h1
 obtain ⟨vT,rfl⟩:=ty_Tp _ _ h2
 exact ⟨.mk vNm vT,by simp only [pmNm,pmT,pmL,tpO,tpNm,tpA,tpNs,tpP,tpPs,tpL,prO,prNm,prN,prK,prL,List.cons_append,List.nil_append,List.append_nil]⟩
theorem ty_PmMethod(h:Ty prog n 89 cs):∃x:Pm,cs=pmL x:=by
 obtain ⟨m,hm,h⟩:=ty_struct Tryz.underlying89 h
 obtain ⟨c1,r1,rfl,h1,c2,r2,rfl,h2,rfl⟩:=h
 obtain ⟨vNm,rfl⟩:=ty_str Tryz.underlying9 h1
 obtain ⟨vT,rfl⟩:=ty_Tp _ _ h2
 exact ⟨.mk vNm vT,by simp only [pmNm,pmT,pmL,tpO,tpNm,tpA,tpNs,tpP,tpPs,tpL,prO,prNm,prN,prK,prL,List.cons_append,List.nil_append,List.append_nil]⟩
theorem ty_Ex:∀ (n:Nat) (cs:List PV),Ty prog n 63 cs->∃x:Ex,cs=exL x:=by
 intro n
 induction n using Nat.strongRecOn with
 | _ n ih=>
  intro cs h
  obtain ⟨m,hm,h⟩:=ty_struct Tryz.underlying63 h
  obtain ⟨c1,r1,rfl,h1,c2,r2,rfl,h2,c3,r3,rfl,h3,c4,r4,rfl,h4,c5,r5,rfl,h5,c6,r6,rfl,h6,c7,r7,rfl,h7,rfl⟩:=h
  obtain ⟨vO,rfl,-⟩:=ty_int Tryz.underlying58 h1
  obtain ⟨vNm,rfl⟩:=ty_str Tryz.underlying9 h2
  obtain ⟨vN,rfl,-⟩:=ty_int Tryz.underlying3 h3
  obtain ⟨vK,rfl⟩:=ty_list (z:=7) Ex.cs_eq Tryz.underlying59 kR h4 fun m' x hm' hx=>ih m' oM x hx
  obtain ⟨vP,rfl⟩:=ty_list (z:=10) Pm.cs_eq Tryz.underlying60 kR h5 fun m' x hm' hx=>ty_Pm hx
  obtain ⟨vA,rfl⟩:=ty_list (z:=9) Al.cs_eq Tryz.underlying61 kR h6 fun m' x hm' hx=>by
   obtain ⟨m2,hm2,hx⟩:=ty_struct Tryz.underlying142 hx
   obtain ⟨d1,r1,rfl,k1,d2,r2,rfl,k2,d3,r3,rfl,k3,rfl⟩:=hx
   obtain ⟨s,rfl⟩:=ty_str Tryz.underlying9 k1
   obtain ⟨ns,rfl⟩:=ty_nms k2
   obtain ⟨b,rfl⟩:=ih m2 oM _ k3
   exact ⟨.mk s ns b,by simp only [alL,alC,alNs,alB,List.cons_append,List.nil_append,List.append_nil]⟩
  obtain ⟨vT,rfl⟩:=ty_list (z:=9) Tp.cs_eq Tryz.underlying36 kR h7 fun m' x hm' hx=>ty_Tp _ _ hx
  exact ⟨.mk vO vNm vN vK vP vA vT,by simp only [exO,exNm,exN,exK,exP,exA,exT,exL,List.cons_append,List.nil_append,List.append_nil]⟩
theorem ty_Vr(h:Ty prog n 104 cs):∃x:Vr,cs=vrL x:=by
 obtain ⟨m,hm,h⟩:=ty_struct Tryz.underlying104 h
 obtain ⟨c1,r1,rfl,h1,c2,r2,rfl,h2,rfl⟩:=h
 obtain ⟨vNm,rfl⟩:=ty_str Tryz.underlying9 h1
 obtain ⟨vS,rfl⟩:=ty_str Tryz.underlying74 h2
 exact ⟨.mk vNm vS,by simp only [vrNm,vrS,vrL,List.cons_append,List.nil_append,List.append_nil]⟩
theorem ty_VrNeed(h:Ty prog n 303 cs):∃x:Vr,cs=vrL x:=by
 obtain ⟨m,hm,h⟩:=ty_struct Tryz.underlying303 h
 obtain ⟨c1,r1,rfl,h1,c2,r2,rfl,h2,rfl⟩:=h
 obtain ⟨a,rfl⟩:=ty_str Tryz.underlying9 h1
 obtain ⟨b,rfl⟩:=ty_str Tryz.underlying9 h2
 exact ⟨.mk a b,by simp only [vrNm,vrS,vrL,List.cons_append,List.nil_append,List.append_nil]⟩
theorem ty_VrAbs(h:Ty prog n 113 cs):∃x:Vr,cs=vrL x:=by
 obtain ⟨m,hm,h⟩:=ty_struct Tryz.underlying113 h
 obtain ⟨c1,r1,rfl,h1,c2,r2,rfl,h2,rfl⟩:=h
 obtain ⟨a,rfl⟩:=ty_str Tryz.underlying9 h1
 obtain ⟨b,rfl⟩:=ty_str Tryz.underlying74 h2
 exact ⟨.mk a b,by simp only [vrNm,vrS,vrL,List.cons_append,List.nil_append,List.append_nil]⟩
theorem ty_Cn(h:Ty prog n 83 cs):∃x:Cn,cs=cnL x:=by
 obtain ⟨m,hm,h⟩:=ty_struct Tryz.underlying83 h
 obtain ⟨c1,r1,rfl,h1,c2,r2,rfl,h2,c3,r3,rfl,h3,rfl⟩:=h
 obtain ⟨vNm,rfl⟩:=ty_str Tryz.underlying9 h1
 obtain ⟨vNs,rfl⟩:=ty_nms h2
 obtain ⟨vF,rfl⟩:=ty_list (z:=9) Tp.cs_eq Tryz.underlying36 kR h3 fun m' x hm' hx=>ty_Tp _ _ hx
 exact ⟨.mk vNm vNs vF,by simp only [cnNm,cnNs,cnF,cnL,List.cons_append,List.nil_append,List.append_nil]⟩
theorem ty_Da(h:Ty prog n 81 cs):∃x:Da,cs=daL x:=by
 obtain ⟨m,hm,h⟩:=ty_struct Tryz.underlying81 h
 obtain ⟨c1,r1,rfl,h1,c2,r2,rfl,h2,c3,r3,rfl,h3,c4,r4,rfl,h4,rfl⟩:=h
 obtain ⟨vNm,rfl⟩:=ty_str Tryz.underlying9 h1
 obtain ⟨vVs,rfl⟩:=ty_nms h2
 obtain ⟨vP,rfl⟩:=ty_list (z:=2) Vr.cs_eq Tryz.underlying22 kR h3 fun m' x hm' hx=>ty_Vr hx
 obtain ⟨vC,rfl⟩:=ty_list (z:=3) Cn.cs_eq Tryz.underlying79 kR h4 fun m' x hm' hx=>ty_Cn hx
 exact ⟨.mk vNm vVs vP vC,by simp only [daNm,daVs,daP,daC,daL,List.cons_append,List.nil_append,List.append_nil]⟩
theorem ty_Cl(h:Ty prog n 87 cs):∃x:Cl,cs=clL x:=by
 obtain ⟨m,hm,h⟩:=ty_struct Tryz.underlying87 h
 obtain ⟨c1,r1,rfl,h1,c2,r2,rfl,h2,c3,r3,rfl,h3,rfl⟩:=h
 obtain ⟨vNm,rfl⟩:=ty_str Tryz.underlying9 h1
 obtain ⟨vW,rfl⟩:=ty_str Tryz.underlying9 h2
 obtain ⟨vM,rfl⟩:=ty_list (z:=10) Pm.cs_eq Tryz.underlying85 kR h3 fun m' x hm' hx=>ty_PmMethod hx
 exact ⟨.mk vNm vW vM,by simp only [clNm,clW,clM,clL,List.cons_append,List.nil_append,List.append_nil]⟩
theorem ty_Bo(h:Ty prog n 120 cs):∃x:Bo,cs=boL x:=by
 obtain ⟨m,hm,h⟩:=ty_struct Tryz.underlying120 h
 obtain ⟨c1,r1,rfl,h1,c2,r2,rfl,h2,c3,r3,rfl,h3,c4,r4,rfl,h4,rfl⟩:=h
 obtain ⟨vNm,rfl⟩:=ty_str Tryz.underlying9 h1
 obtain ⟨vW,rfl⟩:=ty_list (z:=2) Vr.cs_eq Tryz.underlying22 kR h2 fun m' x hm' hx=>ty_Vr hx
 obtain ⟨vH,rfl⟩:=ty_Pr _ _ h3
 obtain ⟨vG,rfl⟩:=ty_Pr _ _ h4
 exact ⟨.mk vNm vW vH vG,by simp only [boNm,boW,boH,boG,boL,prO,prNm,prN,prK,prL,List.cons_append,List.nil_append,List.append_nil]⟩
theorem ty_Df(h:Ty prog n 66 cs):∃x:Df,cs=dfL x:=by
 obtain ⟨m,hm,h⟩:=ty_struct Tryz.underlying66 h
 obtain ⟨c1,r1,rfl,h1,c2,r2,rfl,h2,c3,r3,rfl,h3,c4,r4,rfl,h4,c5,r5,rfl,h5,c6,r6,rfl,h6,rfl⟩:=h
 obtain ⟨vNm,rfl⟩:=ty_str Tryz.underlying9 h1
 obtain ⟨vP,rfl⟩:=ty_nms h2
 obtain ⟨vB,rfl⟩:=ty_Ex _ _ h3
 obtain ⟨vM,rfl,-⟩:=ty_int Tryz.underlying64 h4
 obtain ⟨vTy,rfl⟩:=ty_bool Tryz.underlying4 h5
 obtain ⟨m2,hm2,h6⟩:=ty_struct Tryz.underlying57 h6
 obtain ⟨d1,q1,rfl,k1,d2,q2,rfl,k2,d3,q3,rfl,k3,d4,q4,rfl,k4,d5,q5,rfl,k5,d6,q6,rfl,k6,rfl⟩:=h6
 obtain ⟨vVs,rfl⟩:=ty_nms k1
 obtain ⟨vNe,rfl⟩:=ty_list (z:=2) Vr.cs_eq Tryz.underlying53 kR k2 fun m' x hm' hx=>ty_VrNeed hx
 obtain ⟨vAb,rfl⟩:=ty_list (z:=2) Vr.cs_eq Tryz.underlying54 kR k3 fun m' x hm' hx=>ty_VrAbs hx
 obtain ⟨vBo,rfl⟩:=ty_list (z:=10) Bo.cs_eq Tryz.underlying55 kR k4 fun m' x hm' hx=>ty_Bo hx
 obtain ⟨vT,rfl⟩:=ty_Tp _ _ k5
 obtain ⟨vMe,rfl⟩:=ty_list (z:=4) Pr.cs_eq Tryz.underlying39 kR k6 fun m' x hm' hx=>ty_Pr _ _ hx
 exact ⟨.mk vNm vP vB vM vTy vVs vNe vAb vBo vT vMe,by simp only [dfNm,dfP,dfB,dfM,dfTy,dfVs,dfNe,dfAb,dfBo,dfT,dfMe,dfL,exO,exNm,exN,exK,exP,exA,exT,exL,tpO,tpNm,tpA,tpNs,tpP,tpPs,tpL,prO,prNm,prN,prK,prL,List.cons_append,List.nil_append,List.append_nil]⟩
theorem ty_In(h:Ty prog n 91 cs):∃x:In,cs=inL x:=by
 obtain ⟨m,hm,h⟩:=ty_struct Tryz.underlying91 h
 obtain ⟨c1,r1,rfl,h1,c2,r2,rfl,h2,c3,r3,rfl,h3,c4,r4,rfl,h4,rfl⟩:=h
 obtain ⟨vNm,rfl⟩:=ty_str Tryz.underlying9 h1
 obtain ⟨vT,rfl⟩:=ty_Tp _ _ h2
 obtain ⟨vNe,rfl⟩:=ty_list (z:=2) Vr.cs_eq Tryz.underlying53 kR h3 fun m' x hm' hx=>ty_VrNeed hx
 obtain ⟨vD,rfl⟩:=ty_list (z:=25) Df.cs_eq Tryz.underlying32 kR h4 fun m' x hm' hx=>ty_Df hx
 exact ⟨.mk vNm vT vNe vD,by simp only [inNm,inT,inNe,inD,inL,tpO,tpNm,tpA,tpNs,tpP,tpPs,tpL,prO,prNm,prN,prK,prL,List.cons_append,List.nil_append,List.append_nil]⟩
theorem ty_Cs(h:Ty prog n 97 cs):∃x:Cs,cs=csL x:=by
 obtain ⟨m,hm,h⟩:=ty_struct Tryz.underlying97 h
 obtain ⟨c1,r1,rfl,h1,c2,r2,rfl,h2,c3,r3,rfl,h3,rfl⟩:=h
 obtain ⟨vC,rfl⟩:=ty_str Tryz.underlying9 h1
 obtain ⟨vNs,rfl⟩:=ty_nms h2
 obtain ⟨vB,rfl⟩:=ty_Pr _ _ h3
 exact ⟨.mk vC vNs vB,by simp only [csC,csNs,csB,csL,prO,prNm,prN,prK,prL,List.cons_append,List.nil_append,List.append_nil]⟩
theorem ty_Ms(h:Ty prog n 95 cs):∃x:Ms,cs=msL x:=by
 obtain ⟨m,hm,h⟩:=ty_struct Tryz.underlying95 h
 obtain ⟨c1,r1,rfl,h1,c2,r2,rfl,h2,c3,r3,rfl,h3,c4,r4,rfl,h4,c5,r5,rfl,h5,rfl⟩:=h
 obtain ⟨vNm,rfl⟩:=ty_str Tryz.underlying9 h1
 obtain ⟨vD,rfl⟩:=ty_str Tryz.underlying9 h2
 obtain ⟨vR,rfl⟩:=ty_str Tryz.underlying74 h3
 obtain ⟨vC,rfl⟩:=ty_list (z:=6) Cs.cs_eq Tryz.underlying93 kR h4 fun m' x hm' hx=>ty_Cs hx
 obtain ⟨vI,rfl⟩:=ty_Pr _ _ h5
 exact ⟨.mk vNm vD vR vC vI,by simp only [msNm,msD,msR,msC,msI,msL,prO,prNm,prN,prK,prL,List.cons_append,List.nil_append,List.append_nil]⟩
theorem ty_Qu(h:Ty prog n 99 cs):∃x:Qu,cs=quL x:=by
 obtain ⟨m,hm,h⟩:=ty_struct Tryz.underlying99 h
 obtain ⟨c1,r1,rfl,h1,c2,r2,rfl,h2,c3,r3,rfl,h3,rfl⟩:=h
 obtain ⟨vNm,rfl⟩:=ty_str Tryz.underlying9 h1
 obtain ⟨vW,rfl⟩:=ty_list (z:=2) Vr.cs_eq Tryz.underlying22 kR h2 fun m' x hm' hx=>ty_Vr hx
 obtain ⟨vB,rfl⟩:=ty_Pr _ _ h3
 exact ⟨.mk vNm vW vB,by simp only [quNm,quW,quB,quL,prO,prNm,prN,prK,prL,List.cons_append,List.nil_append,List.append_nil]⟩
theorem ty_Mo(h:Ty prog n 34 cs):∃x:Mo,cs=moL x:=by
 obtain ⟨m,hm,h⟩:=ty_struct Tryz.underlying34 h
 obtain ⟨c1,r1,rfl,h1,c2,r2,rfl,h2,c3,r3,rfl,h3,c4,r4,rfl,h4,c5,r5,rfl,h5,c6,r6,rfl,h6,rfl⟩:=h
 obtain ⟨vD,rfl⟩:=ty_list (z:=4) Da.cs_eq Tryz.underlying27 kR h1 fun m' x hm' hx=>ty_Da hx
 obtain ⟨vC,rfl⟩:=ty_list (z:=3) Cl.cs_eq Tryz.underlying28 kR h2 fun m' x hm' hx=>ty_Cl hx
 obtain ⟨vI,rfl⟩:=ty_list (z:=12) In.cs_eq Tryz.underlying29 kR h3 fun m' x hm' hx=>ty_In hx
 obtain ⟨vM,rfl⟩:=ty_list (z:=8) Ms.cs_eq Tryz.underlying30 kR h4 fun m' x hm' hx=>ty_Ms hx
 obtain ⟨vQ,rfl⟩:=ty_list (z:=6) Qu.cs_eq Tryz.underlying31 kR h5 fun m' x hm' hx=>ty_Qu hx
 obtain ⟨vF,rfl⟩:=ty_list (z:=25) Df.cs_eq Tryz.underlying32 kR h6 fun m' x hm' hx=>ty_Df hx
 exact ⟨.mk vD vC vI vM vQ vF,by simp only [moD,moC,moI,moM,moQ,moF,moL,List.cons_append,List.nil_append,List.append_nil]⟩
theorem ty_Sy(h:Ty prog n 77 cs):∃x:Sy,cs=syL x:=by
 obtain ⟨m,hm,h⟩:=ty_struct Tryz.underlying77 h
 obtain ⟨c1,r1,rfl,h1,c2,r2,rfl,h2,c3,r3,rfl,h3,rfl⟩:=h
 obtain ⟨vNm,rfl⟩:=ty_str Tryz.underlying9 h1
 obtain ⟨vA,rfl⟩:=ty_srs h2
 obtain ⟨vR,rfl⟩:=ty_str Tryz.underlying74 h3
 exact ⟨.mk vNm vA vR,by simp only [syNm,syA,syR,syL,List.cons_append,List.nil_append,List.append_nil]⟩
theorem ty_Ho(h:Ty prog n 184 cs):∃x:Ho,cs=hoL x:=by
 obtain ⟨m,hm,h⟩:=ty_struct Tryz.underlying184 h
 obtain ⟨c1,r1,rfl,h1,c2,r2,rfl,h2,rfl⟩:=h
 obtain ⟨vNm,rfl⟩:=ty_str Tryz.underlying9 h1
 obtain ⟨vP,rfl⟩:=ty_list (z:=2) Vr.cs_eq Tryz.underlying22 kR h2 fun m' x hm' hx=>ty_Vr hx
 exact ⟨.mk vNm vP,by simp only [hoNm,hoP,hoL,List.cons_append,List.nil_append,List.append_nil]⟩
theorem ty_Nv(h:Ty prog n 26 cs):∃x:Nv,cs=nvL x:=by
 obtain ⟨m,hm,h⟩:=ty_struct Tryz.underlying26 h
 obtain ⟨c1,r1,rfl,h1,c2,r2,rfl,h2,c3,r3,rfl,h3,rfl⟩:=h
 obtain ⟨vW,rfl⟩:=ty_list (z:=2) Vr.cs_eq Tryz.underlying22 kR h1 fun m' x hm' hx=>ty_Vr hx
 obtain ⟨vS,rfl⟩:=ty_list (z:=3) Sy.cs_eq Tryz.underlying23 kR h2 fun m' x hm' hx=>ty_Sy hx
 obtain ⟨vH,rfl⟩:=ty_list (z:=2) Ho.cs_eq Tryz.underlying24 kR h3 fun m' x hm' hx=>ty_Ho hx
 exact ⟨.mk vW vS vH,by simp only [nvW,nvS,nvH,nvL,List.cons_append,List.nil_append,List.append_nil]⟩
end
open Go.ChangeShapes Go.WideShapes Go.ChangeAt Go.RowKit
theorem own:ownKnob prog.godebug=none:=by kernel_rfl
theorem laidOut:laidOutB prog=true:=by kernel_rfl
def compsT(P:Program)(t:TypeId):List TypeId:=match P.underlying t with
 | some (.slice e)=>[e]
 | some (.struct fs)=>fs.toList.map fun f=>f.type
 | _=>[]
def addT(l:List TypeId)(x:TypeId):List TypeId:=if l.contains x then l else l++[x]
def reachT(P:Program):Nat->List TypeId->List TypeId
 | 0,l=>l
 | n+1,l=>reachT P n ((l.map (compsT P)).flatten.foldl addT l)
mutual
theorem bulk_eq{H:Type}:∀d:DataW H,bulkD d=Rows.uptoBulk d
 | .lit q=>by cases q <;> rfl
 | .nil=>rfl
 | .ptr d=>by rw [bulkD,Rows.uptoBulk,bulk_eq d]
 | .slice a b=>by rw [bulkD,Rows.uptoBulk,bulks_eq a,bulks_eq b]
 | .agg a=>by rw [bulkD,Rows.uptoBulk,bulks_eq a]
 | .iface _ d=>by rw [bulkD,Rows.uptoBulk,bulk_eq d]
 | .map es=>by rw [bulkD,Rows.uptoBulk,bulkm_eq es]
 | .held _=>rfl
theorem bulks_eq{H:Type}:∀l:List (DataW H),bulkDs l=Rows.uptoBulkAll l
 | []=>rfl
 | d::r=>by rw [bulkDs,Rows.uptoBulkAll,bulk_eq d,bulks_eq r]
theorem bulkm_eq{H:Type}:∀l:List (Lit × DataW H),bulkDm l=Rows.uptoBulkEntries l
 | []=>rfl
 | x::r=>by rw [bulkDm,Rows.uptoBulkEntries,bulke_eq x,bulkm_eq r]
theorem bulke_eq{H:Type}:∀x:Lit × DataW H,bulkDe x=Rows.uptoBulkEntry x
 | (q,d)=>by cases q <;> simp only [bulkDe,Rows.uptoBulkEntry,bulk_eq d]
end
theorem upto_le{H:Type}:∀ {a b:List (DataW H)},bulkDs a<=Rows.uptoBulkAll (a++b)
 | [],b=>Nat.zero_le _
 | d::a,b=>by
  have:=upto_le (a:=a) (b:=b)
  rw [List.cons_append,bulkDs,Rows.uptoBulkAll,bulk_eq d]
  omega
theorem small_le{H:Type}{a b:List (DataW H)}(hk:Rows.uptoSmall H (a++b)=true):bulkDs a<=1048576:=by
 have h:Rows.uptoBulkAll (a++b)<=1048576:=of_decide_eq_true hk
 have:=upto_le (a:=a) (b:=b)
 omega
def kwZ:List (List UInt8):=[[97,110,100],[97,115,115,117,109,101],[98,111,111,108],[98,111,117,110,100],[99,97,115,101],[99,101,108,108],[99,108,97,115,115],[100,97,116,97],[100,101,102],[100,105,118],[101,108,115,101],[101,110,100],[102,97,108,115,101],[102,111,114,97,108,108],[102,117,110],[103,101,116],[105,102],[105,110],[105,110,115,116],[105,110,116],[105,110,118,97,114,105,97,110,116],[108,101,116],[109,97,116,99,104],[109,101,97,115,117,114,101],[109,101,116,114,105,99],[109,111,100],[109,117],[110,101,119],[110,111,116],[111,102],[111,114],[113,117,97,108],[114,101,102,108,101,99,116],[115,101,116],[116,104,101,110],[116,114,117,101],[117,115,101],[118],[118,97,108],[116,97,103],[119,104,101,114,101],[119,105,116,104]]
theorem gTab:prog.globalNamed "liquidcheck/names.keywords" = some 0:=by kernel_rfl
theorem gTabType:(prog.globals[0]?).map (·.type)=some 258:=by kernel_rfl
theorem cellsTab:prog.cellsOf 258=42:=by kernel_rfl
theorem cellsStr:prog.cellsOf 9=1:=by kernel_rfl
theorem gokD {W:World} (h:laidMetH prog [("liquidcheck/names.keywords",Rows.laid_liquidcheck_names_keywords)] W):GOK g0 W:=
 gok_texts (g:=0) (zs:=kwZ) rfl (texts_of_head (zs:=kwZ) (rest:=[]) gTab gTabType Tryz.underlying258 Tryz.underlying9 cellsStr cellsTab h)
noncomputable def laidWorld (os:Os):World:=
 { World.holding prog os ⟨#[],#[],[]⟩ with heap:=(World.holding prog os ⟨#[],#[],[]⟩).heap.modify 0 fun
   | .cells _ t frozen => .cells (kwZ.map fun z=>Value.string ⟨z.toArray⟩).toArray t frozen
   | o=>o }
def mdL:Md:=⟨fun _=>some false,fun _=>false⟩
def ix{α:Type}(f:α->BA)(name:BA):List α->Nat
 | []=>0
 | c::r=>if f c=name then 0 else ix f name r+1
abbrev dA_I(m:Mo)(name:BA)(j:Int)(e:Ext):S:=S.mk [(1,vS name),(4,.lp 4 0),(5,.v (.bool false)),(9,vL 4 (Da.cs (moD m))),(10,vI6 ((moD m).length:Int)),(11,vI6 j)] [(4,[vS nm0,.v .nilsl,.v .nilsl,.v .nilsl])] e
inductive dA_R where
 | e0 (el:Da)
 | e1
def dA_f(name:BA):List Da->dA_R
 | []=>(dA_R.e1)
 | el::r=>(if daNm el=name then (dA_R.e0 el) else dA_f name r)
def dA_q(m:Mo)(name:BA)(e:Ext):dA_R->PExit × S
 | .e0 el=>(.ret,S.mk [(1,vS name),(4,.lp 4 0),(5,.v (.bool true)),(9,vL 4 (Da.cs (moD m))),(10,vI6 ((moD m).length:Int))] [(4,daV el)] e)
 | .e1=>(.exit 0,S.mk [(1,vS name),(4,.lp 4 0),(5,.v (.bool false)),(9,vL 4 (Da.cs (moD m))),(10,vI6 ((moD m).length:Int))] [(4,[vS nm0,.v .nilsl,.v .nilsl,.v .nilsl])] e)
theorem dA_lp(m:Mo)(name:BA)(e:Ext)(hN:(moD m).length<=1000000000):(Ob.loop 22 (loopF f72 0) (dA_I m name 0  e) (dA_q m name e (dA_f name (List.drop 0 ((moD m))))).1 (dA_q m name e (dA_f name (List.drop 0 ((moD m))))).2).ok prog:=by
 refine rng ((moD m).length) (fun j _=>dA_I m name j  e) (fun i _=>dA_f name (List.drop i ((moD m)))) (dA_q m name e) (fun i _=>True) kR ?_ () trivial
 rintro i u hi -
 rcases Nat.lt_or_ge i ((moD m).length) with hlt | hge
 ·have hd:=drop_at hlt
  by_cases h0:daNm (List.getD (moD m) i default)=name
  ·exact lX mdL [dt ((i:Int)<((moD m).length:Int)),am ((0:Int)<=(i:Int)/\(i:Int)<((Da.cs (moD m)).length:Int)) (by (simp only [Da.cs_len]; omega)),xDa (moD m) i hlt,bt (ByteArray.toList (daNm (List.getD (moD m) i default))==ByteArray.toList name) (bsT h0)] (dA_R.e0 (List.getD ((moD m)) i default)) (by rw [hd,dA_f,iP h0])
  ·exact lN mdL [dt ((i:Int)<((moD m).length:Int)),am ((0:Int)<=(i:Int)/\(i:Int)<((Da.cs (moD m)).length:Int)) (by (simp only [Da.cs_len]; omega)),xDa (moD m) i hlt,bf (ByteArray.toList (daNm (List.getD (moD m) i default))==ByteArray.toList name) (bsF h0),wr ((i:Int)+1)] hlt () trivial (by rw [hd,dA_f,iN h0])
 ·have he:i=(moD m).length:=by omega
  exact lX mdL [df ((i:Int)<((moD m).length:Int))] (dA_R.e1) (by rw [he,List.drop_length,dA_f])
theorem dA_0(m:Mo)(name:BA)(e:Ext)(hN:(moD m).length<=1000000000)(p0:Da)(hres:(dA_f name ((moD m)))=(dA_R.e0 p0)):(Ob.loop 22 (loopF f72 0) (dA_I m name 0  e) (dA_q m name e (dA_R.e0 p0)).1 (dA_q m name e (dA_R.e0 p0)).2).ok prog:=
 rz (dA_lp m name e hN) hres
theorem dA_1(m:Mo)(name:BA)(e:Ext)(hN:(moD m).length<=1000000000)(hres:(dA_f name ((moD m)))=(dA_R.e1)):(Ob.loop 22 (loopF f72 0) (dA_I m name 0  e) (dA_q m name e (dA_R.e1)).1 (dA_q m name e (dA_R.e1)).2).ok prog:=
 rz (dA_lp m name e hN) hres
theorem dA_e(name:BA):∀l:List Da,dA_f name l=if ix daNm name l<l.length then .e0 (l.getD (ix daNm name l) default) else .e1
 | []=>by simp [dA_f,ix]
 | c::r=>by
  by_cases h:daNm c=name
  ·simp [dA_f,ix,h]
  ·simp only [dA_f,ix,h,if_false,dA_e name r,List.length_cons,Nat.add_lt_add_iff_right,List.getD_cons_succ]
theorem dAL_1(m:Mo)(name:BA)(hda:(moD m).length<=1048576)(hy0:Da)(hx1:dA_f name (moD m)=dA_R.e0 hy0):Pu 72 [.agg (moL m),.str name] (.ret (.tup [.agg (daL hy0),.bool true])):=
 pu mdL (fun e=>[sl (Da.cs_len (moD m)),lp (S.mk [(0,.v (.agg (moL m))),(1,vS name),(2,.lp 2 0),(4,.lp 4 0),(5,.v (.bool false)),(8,.lp 2 0),(9,vL 4 (Da.cs (moD m))),(10,vI6 ((moD m).length:Int)),(11,vI6 0)] [(2,moV m),(4,[vS nm0,.v .nilsl,.v .nilsl,.v .nilsl])] e) (@dA_0 (m) (name) (e) oM hy0 hx1) xr]) func72
theorem dAL_2(m:Mo)(name:BA)(hda:(moD m).length<=1048576)(hx0:dA_f name (moD m)=dA_R.e1):Pu 72 [.agg (moL m),.str name] (.ret (.tup [.agg [.str nm0,.sl 1 [],.sl 2 [],.sl 3 []],.bool false])):=
 Ob.pur_wk (Wk.t (WkL.c (Wk.a (kr (kn 1 (kn 2 (kn 3 (WkL.r _)))))) (WkL.r _))) (pu mdL (fun e=>[sl (Da.cs_len (moD m)),lp (S.mk [(0,.v (.agg (moL m))),(1,vS name),(2,.lp 2 0),(4,.lp 4 0),(5,.v (.bool false)),(8,.lp 2 0),(9,vL 4 (Da.cs (moD m))),(10,vI6 ((moD m).length:Int)),(11,vI6 0)] [(2,moV m),(4,[vS nm0,.v .nilsl,.v .nilsl,.v .nilsl])] e) (@dA_1 (m) (name) (e) oM hx0) xr]) func72)
theorem dAT(m:Mo)(name:BA)(hda:(moD m).length<=1048576)(hx:ix daNm name (moD m)<(moD m).length):Pu 72 [.agg (moL m),.str name] (.ret (.tup [.agg (daL ((moD m).getD (ix daNm name (moD m)) default)),.bool true])):=
 dAL_1 m name hda _ (by rw [dA_e,iP hx])
theorem dAF(m:Mo)(name:BA)(hda:(moD m).length<=1048576)(hx:¬ix daNm name (moD m)<(moD m).length):Pu 72 [.agg (moL m),.str name] (.ret (.tup [.agg (daL default),.bool false])):=
 dAL_2 m name hda (by rw [dA_e,iN hx])
theorem gTp{l:List Tp}{i:Nat}(h:i<l.length):l.getD i default∈l:=getD_mem h
abbrev pl0_I(t:Tp)(pf:Tp->Tp)(j:Int)(out:List Tp)(e:Ext):S:=S.mk [(2,.lp 2 0),(3,.lp 3 0),(12,vL 9 (Tp.cs (tpA t))),(13,vI6 ((tpA t).length:Int)),(14,vI6 j)] [(2,[vI6 0,vS nm0,.v .nilsl,.v .nilsl,vI6 0,vS nm0,vI6 0,.v .nilsl,.v .nilsl]),(3,[vI6 (tpO t),vS (tpNm t),.uniq 43 9 (Tp.cs out),.v .nilsl,vI6 0,vS nm0,vI6 0,.v .nilsl,.v .nilsl])] e
def pl0_f(pf:Tp->Tp):List Tp->(List Tp)->(List Tp)
 | [],out=>(out)
 | el::r,out=>pl0_f pf r (out++[pf el])
def pl0_q(t:Tp)(pf:Tp->Tp)(e:Ext)(p:(List Tp)):PExit × S:=(.exit 0,S.mk [(2,.lp 2 0),(3,.lp 3 0),(12,vL 9 (Tp.cs (tpA t))),(13,vI6 ((tpA t).length:Int))] [(2,[vI6 0,vS nm0,.v .nilsl,.v .nilsl,vI6 0,vS nm0,vI6 0,.v .nilsl,.v .nilsl]),(3,[vI6 (tpO t),vS (tpNm t),.uniq 43 9 (Tp.cs p),.v .nilsl,vI6 0,vS nm0,vI6 0,.v .nilsl,.v .nilsl])] e)
theorem pl0(t:Tp)(pf:Tp->Tp)(hwk:∀w:Tp,w∈tpA t->Pu 69 [.agg (tpL w)] (.ret (.agg (tpL (pf w)))))(out:List Tp)(e:Ext)(hN:(tpA t).length<=1000000000)(hv:List.length out<=0):(Ob.loop 27 (loopF f69 0) (pl0_I t pf 0 out e) (pl0_q t pf e (pl0_f pf ((tpA t))  out)).1 (pl0_q t pf e (pl0_f pf ((tpA t))  out)).2).ok prog:=by
 refine rng ((tpA t).length) (fun j out=>pl0_I t pf j out e) (fun i out=>pl0_f pf (List.drop i ((tpA t)))  out) (pl0_q t pf e) (fun i out=>(out.length<=i)) kR ?_ out (by first | exact hv | omega)
 rintro i out hi hv
 try simp only at hv
 rcases Nat.lt_or_ge i ((tpA t).length) with hlt | hge
 ·have hd:=drop_at hlt
  exact lS mdL [dt ((i:Int)<((tpA t).length:Int)),am ((0:Int)<=(i:Int)/\(i:Int)<((Tp.cs (tpA t)).length:Int)) (by (simp only [Tp.cs_len]; omega)),ar (List.getD (Tp.cs (tpA t)) (Int.toNat (i:Int)) []) (tpL (List.getD (tpA t) i default)) (by simp only [Int.toNat_natCast,Int.toNat_zero]; rw [@Tp.cs_at (tpA t) (i) hlt]; try rfl),cl (@hwk (List.getD (tpA t) i default) (by simp_all [List.length_map,List.length_append,List.length_cons,List.length_nil,nmsC_len,Pr.cs_len,Tp.cs_len,Pm.cs_len,Ex.cs_len,Al.cs_len,Vr.cs_len,Cn.cs_len,Da.cs_len,Cl.cs_len,Bo.cs_len,Df.cs_len,In.cs_len,Cs.cs_len,Ms.cs_len,Qu.cs_len,Sy.cs_len,Ho.cs_len,Int.toNat_natCast,Bool.cond_true_left,Bool.cond_false_right,Int.toNat_zero])),am (List.length (Tp.cs out++(fun x=>Prod.snd x) (8+1,[tpL (pf (List.getD (tpA t) i default))])) * (151+1)<=140737488355328) (by (simp only [List.length_append,List.length_cons,List.length_nil,nmsC_len,Pr.cs_len,Tp.cs_len]; omega)),wr ((i:Int)+1)] [2,3,12,13,14] [2,3] hlt (out++[pf (List.getD (tpA t) i default)]) (S.mk [(2,.lp 2 0),(3,.lp 3 0),(12,vL 9 (Tp.cs (tpA t))),(13,vI6 ((tpA t).length:Int)),(14,vI6 ((i:Int)+1))] [(2,[vI6 0,vS nm0,.v .nilsl,.v .nilsl,vI6 0,vS nm0,vI6 0,.v .nilsl,.v .nilsl]),(3,[vI6 (tpO t),vS (tpNm t),.uniq 43 9 (Tp.cs out++[tpL (pf (List.getD (tpA t) i default))]),.v .nilsl,vI6 0,vS nm0,vI6 0,.v .nilsl,.v .nilsl])] e) ⟨⟨W,W,W,W,W,tVv⟩,⟨Ws,⟨W,W,(.inl (by first | (simp only [List.nil_append,nmsC_app,nmsC_snoc,Pr.cs_snoc,Tp.cs_snoc,Ex.cs_snoc,Vr.cs_snoc,Df.cs_snoc]; done) | (simp only [List.nil_append,nmsC_app,nmsC_snoc,Pr.cs_snoc,Tp.cs_snoc,Ex.cs_snoc,Vr.cs_snoc,Df.cs_snoc]; rfl))),W,W,W,W,W,W,tVv⟩,tVv⟩,rfl⟩ (by first | assumption | omega | (apply gTp <;> first | assumption | omega | decide) | (simp only [List.length_append,List.length_cons,List.length_nil] at *; omega) | simp_all) (by rw [hd,pl0_f])
 ·have he:i=(tpA t).length:=by omega
  exact lX mdL [df ((i:Int)<((tpA t).length:Int))] (out) (by rw [he,List.drop_length,pl0_f])
theorem plL(t:Tp)(pf:Tp->Tp)(hwk:∀w:Tp,w∈tpA t->Pu 69 [.agg (tpL w)] (.ret (.agg (tpL (pf w)))))(hN:(tpA t).length<=1000000000):Pu 69 [.agg (tpL t)] (rA [pI (tpO t),.str (tpNm t),.sl 9 (Tp.cs (pl0_f pf (tpA t) [])),.sl 1 [],pI 0,.str nm0,pI 0,.sl 4 [],.sl 4 []]):=
 Ob.pur_wk (Wk.a (kr (kr (kr (kn 1 (kr (kr (kr (kn 4 (kn 4 (WkL.r _))))))))))) (pu mdL (fun e=>[sl (Tp.cs_len (tpA t)),lp (S.mk [(0,.v (.agg (tpL t))),(1,.lp 1 0),(2,.lp 2 0),(6,.lp 1 0),(7,vI6 (tpO t)),(8,.lp 1 1),(9,vS (tpNm t)),(10,.v (.agg [pI (tpO t),.str (tpNm t),.nilsl,.nilsl,pI 0,.str nm0,pI 0,.nilsl,.nilsl])),(3,.lp 3 0),(11,.lp 1 2),(12,vL 9 (Tp.cs (tpA t))),(13,vI6 ((tpA t).length:Int)),(14,vI6 0)] [(1,tpV t),(2,[vI6 0,vS nm0,.v .nilsl,.v .nilsl,vI6 0,vS nm0,vI6 0,.v .nilsl,.v .nilsl]),(3,[vI6 (tpO t),vS (tpNm t),.v .nilsl,.v .nilsl,vI6 0,vS nm0,vI6 0,.v .nilsl,.v .nilsl])] e) (@pl0 (t) (pf) hwk ([]) (e) hN (by (simp only [List.length_nil]; omega))) ⟨⟨W,W,W,W,W,tVv⟩,⟨⟨W,W,W,W,W,W,W,W,W,tVv⟩,⟨W,W,Wq,W,W,Wq,W,W,W,tVv⟩,tVv⟩,rfl⟩]) func69)
def sOf_r0(t:Tp):BA:=(if tpO t=1 then (ByteArray.mk #[73,110,116]) else (if tpO t=2 then (ByteArray.mk #[66,111,111,108]) else (if tpO t=3 then (ByteArray.mk #[67,101,108,108]) else (if tpO t=4 then (if ((tpA t).length:Int)=0 then (tpNm t) else nm0) else nm0))))
def sOf_r1(t:Tp):Bool:=(if tpO t=1 then true else (if tpO t=2 then true else (if tpO t=3 then true else (if tpO t=4 then (if ((tpA t).length:Int)=0 then true else false) else false))))
theorem sOf(t:Tp):Pu 68 [.agg (tpL t)] (.ret (.tup [.str (sOf_r0 t),.bool (sOf_r1 t)])):=by
 by_cases h0:tpO t=1
 ·simp only [sOf_r0,sOf_r1,iP h0]; exact pm mdL [et1 h0] func68
 ·by_cases h1:tpO t=2
  ·simp only [sOf_r0,sOf_r1,iN h0,iP h1]; exact pm mdL [en1 h0,et1 h1] func68
  ·by_cases h2:tpO t=3
   ·simp only [sOf_r0,sOf_r1,iN h0,iN h1,iP h2]; exact pm mdL [en1 h0,en1 h1,et1 h2] func68
   ·by_cases h3:tpO t=4
    ·by_cases h4:((tpA t).length:Int)=0
     ·simp only [sOf_r0,sOf_r1,iN h0,iN h1,iN h2,iP h3,iP h4]; exact pm mdL [en1 h0,en1 h1,en1 h2,et1 h3,sl (Tp.cs_len (tpA t)),et1 h4] func68
     ·simp only [sOf_r0,sOf_r1,iN h0,iN h1,iN h2,iP h3,iN h4]; exact pm mdL [en1 h0,en1 h1,en1 h2,et1 h3,sl (Tp.cs_len (tpA t)),en1 h4] func68
    ·simp only [sOf_r0,sOf_r1,iN h0,iN h1,iN h2,iN h3]; exact pm mdL [en1 h0,en1 h1,en1 h2,en1 h3] func68
theorem cloS(l:List BA)(hn:l.length<=1000000000):Pu 30 [.sl 1 (nmsC l)] (.own 74 1 (nmsC l)):=by
 refine ⟨by kernel_rfl,fun e=>?_⟩
 refine CallC.enter func30 rfl (show 1<=8 by decide) fun cx hcx hds=>?_
 refine PW_seq ?_
 refine PW_runK mdL 8 50 [] [0] [] (s':=⟨[(0,.v (.sl 1 (nmsC l)))],[],e⟩) (pe := .normal) (sc':=[]) (l:=[]) mixed hcx kR kR trivial ?_
 show PW _ _ _ _ _
 refine PW_seq (PW_seq ?_)
 intro g l0 a w hs
 refine wp_region_lit ?_
 have hn':∀k,k<8->k<cx.n:=fun k hk=>by rw [hcx]; exact hk
 refine (PL_moveV (p := .sl 1 (nmsC l)) rfl rfl rfl (hn' _ dD) rfl ?_:PL _ _ _ _ _ _) g l0 a w hs
 refine PL_nilcmp (z:=1) (es:=nmsC l) (el:=74) rfl rfl rfl (hn' _ dD) kR rfl fun b hb=>?_
 refine PL_nil ?_
 show PW _ _ _ _ _
 cases b with
 | true=>
  have h0:=hb rfl
  refine PW.leX (t:=⟨[(4,.v (.bool true))],[],e⟩) ⟨⟨W,tVv⟩,trivial,rfl⟩ ?_
  refine PW.postLe ?_
  refine PW_runK mdL 8 50 [Ans.bit true] [2] [] (s':=⟨[(2,.v .nilsl)],[],e⟩) (pe := .ret) (sc':=[]) (l:=[.bit true true]) mixed hcx kR kR ⟨rfl,tVv⟩ ?_
  refine ⟨⟨[(2,.uniq 74 1 [])],[],e⟩,⟨⟨.inr rfl,tVv⟩,trivial,rfl⟩,?_⟩
  refine .inr ⟨2,74,1,[],rfl,rfl,by decide,?_⟩
  rw [h0]
  exact ⟨rfl,rfl⟩
 | false=>
  refine PW.leX (t:=⟨[(0,.v (.sl 1 (nmsC l))),(4,.v (.bool false))],[],e⟩) ⟨⟨W,W,tVv⟩,trivial,rfl⟩ ?_
  refine PW_runK mdL 8 50 [Ans.bit false] [0] [] (s':=⟨[(0,.v (.sl 1 (nmsC l)))],[],e⟩) (pe := .normal) (sc':=[]) (l:=[.bit false false]) mixed hcx kR kR ⟨rfl,tVv⟩ ?_
  show PW _ _ _ _ _
  refine PW_runK mdL 8 50 [] [2] [] (s':=⟨[(2,.uniq 74 1 (nmsC l))],[],e⟩) (pe := .ret) (sc':=[]) (l:=[.bit (decide ((nmsC l).length * 16<=140737488355328)) true]) mixed hcx kR kR ⟨ob_bit (dT (by rw [nmsC_len]; omega)),tVv⟩ ?_
  exact .inr ⟨2,74,1,nmsC l,rfl,rfl,by decide,rfl,rfl⟩
theorem cloV(l:List Vr)(hn:l.length<=1000000000):Pu 126 [.sl 2 (Vr.cs l)] (.own 104 2 (Vr.cs l)):=by
 refine ⟨by kernel_rfl,fun e=>?_⟩
 refine CallC.enter func126 rfl (show 1<=8 by decide) fun cx hcx hds=>?_
 refine PW_seq ?_
 refine PW_runK mdL 8 50 [] [0] [] (s':=⟨[(0,.v (.sl 2 (Vr.cs l)))],[],e⟩) (pe := .normal) (sc':=[]) (l:=[]) mixed hcx kR kR trivial ?_
 show PW _ _ _ _ _
 refine PW_seq (PW_seq ?_)
 intro g l0 a w hs
 refine wp_region_lit ?_
 have hn':∀k,k<8->k<cx.n:=fun k hk=>by rw [hcx]; exact hk
 refine (PL_moveV (p := .sl 2 (Vr.cs l)) rfl rfl rfl (hn' _ dD) rfl ?_:PL _ _ _ _ _ _) g l0 a w hs
 refine PL_nilcmp (z:=2) (es:=Vr.cs l) (el:=104) rfl rfl rfl (hn' _ dD) kR rfl fun b hb=>?_
 refine PL_nil ?_
 show PW _ _ _ _ _
 cases b with
 | true=>
  have h0:=hb rfl
  refine PW.leX (t:=⟨[(4,.v (.bool true))],[],e⟩) ⟨⟨W,tVv⟩,trivial,rfl⟩ ?_
  refine PW.postLe ?_
  refine PW_runK mdL 8 50 [Ans.bit true] [2] [] (s':=⟨[(2,.v .nilsl)],[],e⟩) (pe := .ret) (sc':=[]) (l:=[.bit true true]) mixed hcx kR kR ⟨rfl,tVv⟩ ?_
  refine ⟨⟨[(2,.uniq 104 2 [])],[],e⟩,⟨⟨.inr rfl,tVv⟩,trivial,rfl⟩,?_⟩
  refine .inr ⟨2,104,2,[],rfl,rfl,by decide,?_⟩
  rw [h0]
  exact ⟨rfl,rfl⟩
 | false=>
  refine PW.leX (t:=⟨[(0,.v (.sl 2 (Vr.cs l))),(4,.v (.bool false))],[],e⟩) ⟨⟨W,W,tVv⟩,trivial,rfl⟩ ?_
  refine PW_runK mdL 8 50 [Ans.bit false] [0] [] (s':=⟨[(0,.v (.sl 2 (Vr.cs l)))],[],e⟩) (pe := .normal) (sc':=[]) (l:=[.bit false false]) mixed hcx kR kR ⟨rfl,tVv⟩ ?_
  show PW _ _ _ _ _
  refine PW_runK mdL 8 50 [] [2] [] (s':=⟨[(2,.uniq 104 2 (Vr.cs l))],[],e⟩) (pe := .ret) (sc':=[]) (l:=[.bit (decide ((Vr.cs l).length * 32<=140737488355328)) true]) mixed hcx kR kR ⟨ob_bit (dT (by rw [Vr.cs_len]; omega)),tVv⟩ ?_
  exact .inr ⟨2,104,2,Vr.cs l,rfl,rfl,by decide,rfl,rfl⟩
end Go.Proofs.YthchpmnkecoafaaGreatDoor
