/- Data of modules, and their cells. -/
import Derived.Test.YtmllcplaohkjnaaGreatDoorSx3
set_option linter.unusedVariables false
set_option linter.unusedSimpArgs false
set_option linter.unusedSectionVars false
namespace Go.Proofs.YtmllcplaohkjnaaGreatDoor
open Go.Pv
abbrev nm0 : ByteArray := ByteArray.mk #[]
inductive Pr where
  | mk (xO : Int) (xNm : ByteArray) (xN : Int) (xK : List Pr)
instance : Inhabited Pr := ⟨.mk 0 nm0 0 []⟩
def prO : Pr → Int | .mk x _ _ _ => x
def prNm : Pr → ByteArray | .mk _ x _ _ => x
def prN : Pr → Int | .mk _ _ x _ => x
def prK : Pr → List Pr | .mk _ _ _ x => x
inductive Tp where
  | mk (xO : Int) (xNm : ByteArray) (xA : List Tp) (xNs : List ByteArray) (xP : Pr) (xPs : List Pr)
instance : Inhabited Tp := ⟨.mk 0 nm0 [] [] default []⟩
def tpO : Tp → Int | .mk x _ _ _ _ _ => x
def tpNm : Tp → ByteArray | .mk _ x _ _ _ _ => x
def tpA : Tp → List Tp | .mk _ _ x _ _ _ => x
def tpNs : Tp → List ByteArray | .mk _ _ _ x _ _ => x
def tpP : Tp → Pr | .mk _ _ _ _ x _ => x
def tpPs : Tp → List Pr | .mk _ _ _ _ _ x => x
inductive Pm where
  | mk (xNm : ByteArray) (xT : Tp)
instance : Inhabited Pm := ⟨.mk nm0 default⟩
def pmNm : Pm → ByteArray | .mk x _ => x
def pmT : Pm → Tp | .mk _ x => x
mutual
inductive Ex where
  | mk (xO : Int) (xNm : ByteArray) (xN : Int) (xK : List Ex) (xP : List Pm) (xA : List Al) (xT : List Tp)
inductive Al where
  | mk (xC : ByteArray) (xNs : List ByteArray) (xB : Ex)
end
instance : Inhabited Ex := ⟨.mk 0 nm0 0 [] [] [] []⟩
instance : Inhabited Al := ⟨.mk nm0 [] default⟩
def exO : Ex → Int | .mk x _ _ _ _ _ _ => x
def exNm : Ex → ByteArray | .mk _ x _ _ _ _ _ => x
def exN : Ex → Int | .mk _ _ x _ _ _ _ => x
def exK : Ex → List Ex | .mk _ _ _ x _ _ _ => x
def exP : Ex → List Pm | .mk _ _ _ _ x _ _ => x
def exA : Ex → List Al | .mk _ _ _ _ _ x _ => x
def exT : Ex → List Tp | .mk _ _ _ _ _ _ x => x
def alC : Al → ByteArray | .mk x _ _ => x
def alNs : Al → List ByteArray | .mk _ x _ => x
def alB : Al → Ex | .mk _ _ x => x
inductive Vr where
  | mk (xNm : ByteArray) (xS : ByteArray)
instance : Inhabited Vr := ⟨.mk nm0 nm0⟩
def vrNm : Vr → ByteArray | .mk x _ => x
def vrS : Vr → ByteArray | .mk _ x => x
inductive Cn where
  | mk (xNm : ByteArray) (xNs : List ByteArray) (xF : List Tp)
instance : Inhabited Cn := ⟨.mk nm0 [] []⟩
def cnNm : Cn → ByteArray | .mk x _ _ => x
def cnNs : Cn → List ByteArray | .mk _ x _ => x
def cnF : Cn → List Tp | .mk _ _ x => x
inductive Da where
  | mk (xNm : ByteArray) (xVs : List ByteArray) (xP : List Vr) (xC : List Cn)
instance : Inhabited Da := ⟨.mk nm0 [] [] []⟩
def daNm : Da → ByteArray | .mk x _ _ _ => x
def daVs : Da → List ByteArray | .mk _ x _ _ => x
def daP : Da → List Vr | .mk _ _ x _ => x
def daC : Da → List Cn | .mk _ _ _ x => x
inductive Cl where
  | mk (xNm : ByteArray) (xW : ByteArray) (xM : List Pm)
instance : Inhabited Cl := ⟨.mk nm0 nm0 []⟩
def clNm : Cl → ByteArray | .mk x _ _ => x
def clW : Cl → ByteArray | .mk _ x _ => x
def clM : Cl → List Pm | .mk _ _ x => x
inductive Bo where
  | mk (xNm : ByteArray) (xW : List Vr) (xH : Pr) (xG : Pr)
instance : Inhabited Bo := ⟨.mk nm0 [] default default⟩
def boNm : Bo → ByteArray | .mk x _ _ _ => x
def boW : Bo → List Vr | .mk _ x _ _ => x
def boH : Bo → Pr | .mk _ _ x _ => x
def boG : Bo → Pr | .mk _ _ _ x => x
inductive Df where
  | mk (xNm : ByteArray) (xP : List ByteArray) (xB : Ex) (xM : Int) (xTy : Bool) (xVs : List ByteArray) (xNe : List Vr) (xAb : List Vr) (xBo : List Bo) (xT : Tp) (xMe : List Pr)
instance : Inhabited Df := ⟨.mk nm0 [] default 0 false [] [] [] [] default []⟩
def dfNm : Df → ByteArray | .mk x _ _ _ _ _ _ _ _ _ _ => x
def dfP : Df → List ByteArray | .mk _ x _ _ _ _ _ _ _ _ _ => x
def dfB : Df → Ex | .mk _ _ x _ _ _ _ _ _ _ _ => x
def dfM : Df → Int | .mk _ _ _ x _ _ _ _ _ _ _ => x
def dfTy : Df → Bool | .mk _ _ _ _ x _ _ _ _ _ _ => x
def dfVs : Df → List ByteArray | .mk _ _ _ _ _ x _ _ _ _ _ => x
def dfNe : Df → List Vr | .mk _ _ _ _ _ _ x _ _ _ _ => x
def dfAb : Df → List Vr | .mk _ _ _ _ _ _ _ x _ _ _ => x
def dfBo : Df → List Bo | .mk _ _ _ _ _ _ _ _ x _ _ => x
def dfT : Df → Tp | .mk _ _ _ _ _ _ _ _ _ x _ => x
def dfMe : Df → List Pr | .mk _ _ _ _ _ _ _ _ _ _ x => x
inductive In where
  | mk (xNm : ByteArray) (xT : Tp) (xNe : List Vr) (xD : List Df)
instance : Inhabited In := ⟨.mk nm0 default [] []⟩
def inNm : In → ByteArray | .mk x _ _ _ => x
def inT : In → Tp | .mk _ x _ _ => x
def inNe : In → List Vr | .mk _ _ x _ => x
def inD : In → List Df | .mk _ _ _ x => x
inductive Cs where
  | mk (xC : ByteArray) (xNs : List ByteArray) (xB : Pr)
instance : Inhabited Cs := ⟨.mk nm0 [] default⟩
def csC : Cs → ByteArray | .mk x _ _ => x
def csNs : Cs → List ByteArray | .mk _ x _ => x
def csB : Cs → Pr | .mk _ _ x => x
inductive Ms where
  | mk (xNm : ByteArray) (xD : ByteArray) (xR : ByteArray) (xC : List Cs) (xI : Pr)
instance : Inhabited Ms := ⟨.mk nm0 nm0 nm0 [] default⟩
def msNm : Ms → ByteArray | .mk x _ _ _ _ => x
def msD : Ms → ByteArray | .mk _ x _ _ _ => x
def msR : Ms → ByteArray | .mk _ _ x _ _ => x
def msC : Ms → List Cs | .mk _ _ _ x _ => x
def msI : Ms → Pr | .mk _ _ _ _ x => x
inductive Qu where
  | mk (xNm : ByteArray) (xW : List Vr) (xB : Pr)
instance : Inhabited Qu := ⟨.mk nm0 [] default⟩
def quNm : Qu → ByteArray | .mk x _ _ => x
def quW : Qu → List Vr | .mk _ x _ => x
def quB : Qu → Pr | .mk _ _ x => x
inductive Mo where
  | mk (xD : List Da) (xC : List Cl) (xI : List In) (xM : List Ms) (xQ : List Qu) (xF : List Df)
instance : Inhabited Mo := ⟨.mk [] [] [] [] [] []⟩
def moD : Mo → List Da | .mk x _ _ _ _ _ => x
def moC : Mo → List Cl | .mk _ x _ _ _ _ => x
def moI : Mo → List In | .mk _ _ x _ _ _ => x
def moM : Mo → List Ms | .mk _ _ _ x _ _ => x
def moQ : Mo → List Qu | .mk _ _ _ _ x _ => x
def moF : Mo → List Df | .mk _ _ _ _ _ x => x
def nmsC : List ByteArray → List (List PV)
  | [] => []
  | s :: r => [.str s] :: nmsC r
theorem nmsC_eq (l : List ByteArray) : nmsC l = l.map (fun s => [.str s]) := by induction l with | nil => rfl | cons x r ih => simp [nmsC, ih]
theorem nmsC_len (l : List ByteArray) : (nmsC l).length = l.length := by simp [nmsC_eq]
theorem nmsC_at {l : List ByteArray} {i : Nat} (h : i < l.length) : (nmsC l).getD i [] = [.str (l.getD i nm0)] := by rw [nmsC_eq]; simp [List.getD, h]
theorem nmsC_app (a b : List ByteArray) : nmsC (a ++ b) = nmsC a ++ nmsC b := by simp [nmsC_eq]
theorem nmsC_snoc (l : List ByteArray) (x : ByteArray) : nmsC (l ++ [x]) = nmsC l ++ [[.str x]] := by simp [nmsC_eq]
mutual
def Pr.c : Pr → List PV
  | .mk xO xNm xN xK => [.int .i64 xO, .str xNm, .int .i64 xN, .sl 4 (Pr.cs xK)]
def Pr.cs : List Pr → List (List PV)
  | [] => []
  | x :: r => Pr.c x :: Pr.cs r
end
abbrev prL (x : Pr) : List PV := [.int .i64 (prO x), .str (prNm x), .int .i64 (prN x), .sl 4 (Pr.cs (prK x))]
abbrev prV (x : Pr) : List LV := [.v (.int .i64 (prO x)), .v (.str (prNm x)), .v (.int .i64 (prN x)), .v (.sl 4 (Pr.cs (prK x)))]
theorem Pr.c_eq (x : Pr) : Pr.c x = prL x := by cases x; rfl
theorem Pr.cs_eq (l : List Pr) : Pr.cs l = l.map (prL) := by induction l with | nil => rfl | cons x r ih => simp [Pr.cs, ih, Pr.c_eq]
theorem Pr.cs_len (l : List Pr) : (Pr.cs l).length = l.length := by simp [Pr.cs_eq]
theorem Pr.cs_at {l : List Pr} {i : Nat} (h : i < l.length) : (Pr.cs l).getD i [] = prL (l.getD i default) := by rw [Pr.cs_eq]; simp [List.getD, h]
theorem Pr.cs_app (a b : List Pr) : Pr.cs (a ++ b) = Pr.cs a ++ Pr.cs b := by simp [Pr.cs_eq]
theorem Pr.cs_snoc (l : List Pr) (x : Pr) : Pr.cs (l ++ [x]) = Pr.cs l ++ [prL x] := by simp [Pr.cs_eq]
mutual
def Tp.c : Tp → List PV
  | .mk xO xNm xA xNs xP xPs => [.int .i64 xO, .str xNm, .sl 9 (Tp.cs xA), .sl 1 (nmsC xNs), .int .i64 (prO xP), .str (prNm xP), .int .i64 (prN xP), .sl 4 (Pr.cs (prK xP)), .sl 4 (Pr.cs xPs)]
def Tp.cs : List Tp → List (List PV)
  | [] => []
  | x :: r => Tp.c x :: Tp.cs r
end
abbrev tpL (x : Tp) : List PV := [.int .i64 (tpO x), .str (tpNm x), .sl 9 (Tp.cs (tpA x)), .sl 1 (nmsC (tpNs x)), .int .i64 (prO (tpP x)), .str (prNm (tpP x)), .int .i64 (prN (tpP x)), .sl 4 (Pr.cs (prK (tpP x))), .sl 4 (Pr.cs (tpPs x))]
abbrev tpV (x : Tp) : List LV := [.v (.int .i64 (tpO x)), .v (.str (tpNm x)), .v (.sl 9 (Tp.cs (tpA x))), .v (.sl 1 (nmsC (tpNs x))), .v (.int .i64 (prO (tpP x))), .v (.str (prNm (tpP x))), .v (.int .i64 (prN (tpP x))), .v (.sl 4 (Pr.cs (prK (tpP x)))), .v (.sl 4 (Pr.cs (tpPs x)))]
theorem Tp.c_eq (x : Tp) : Tp.c x = tpL x := by cases x; rfl
theorem Tp.cs_eq (l : List Tp) : Tp.cs l = l.map (tpL) := by induction l with | nil => rfl | cons x r ih => simp [Tp.cs, ih, Tp.c_eq]
theorem Tp.cs_len (l : List Tp) : (Tp.cs l).length = l.length := by simp [Tp.cs_eq]
theorem Tp.cs_at {l : List Tp} {i : Nat} (h : i < l.length) : (Tp.cs l).getD i [] = tpL (l.getD i default) := by rw [Tp.cs_eq]; simp [List.getD, h]
theorem Tp.cs_app (a b : List Tp) : Tp.cs (a ++ b) = Tp.cs a ++ Tp.cs b := by simp [Tp.cs_eq]
theorem Tp.cs_snoc (l : List Tp) (x : Tp) : Tp.cs (l ++ [x]) = Tp.cs l ++ [tpL x] := by simp [Tp.cs_eq]
abbrev pmL (x : Pm) : List PV := [.str (pmNm x), .int .i64 (tpO (pmT x)), .str (tpNm (pmT x)), .sl 9 (Tp.cs (tpA (pmT x))), .sl 1 (nmsC (tpNs (pmT x))), .int .i64 (prO (tpP (pmT x))), .str (prNm (tpP (pmT x))), .int .i64 (prN (tpP (pmT x))), .sl 4 (Pr.cs (prK (tpP (pmT x)))), .sl 4 (Pr.cs (tpPs (pmT x)))]
abbrev pmV (x : Pm) : List LV := [.v (.str (pmNm x)), .v (.int .i64 (tpO (pmT x))), .v (.str (tpNm (pmT x))), .v (.sl 9 (Tp.cs (tpA (pmT x)))), .v (.sl 1 (nmsC (tpNs (pmT x)))), .v (.int .i64 (prO (tpP (pmT x)))), .v (.str (prNm (tpP (pmT x)))), .v (.int .i64 (prN (tpP (pmT x)))), .v (.sl 4 (Pr.cs (prK (tpP (pmT x))))), .v (.sl 4 (Pr.cs (tpPs (pmT x))))]
def Pm.cs : List Pm → List (List PV)
  | [] => []
  | x :: r => pmL x :: Pm.cs r
theorem Pm.cs_eq (l : List Pm) : Pm.cs l = l.map (pmL) := by induction l with | nil => rfl | cons x r ih => simp [Pm.cs, ih]
theorem Pm.cs_len (l : List Pm) : (Pm.cs l).length = l.length := by simp [Pm.cs_eq]
theorem Pm.cs_at {l : List Pm} {i : Nat} (h : i < l.length) : (Pm.cs l).getD i [] = pmL (l.getD i default) := by rw [Pm.cs_eq]; simp [List.getD, h]
theorem Pm.cs_app (a b : List Pm) : Pm.cs (a ++ b) = Pm.cs a ++ Pm.cs b := by simp [Pm.cs_eq]
theorem Pm.cs_snoc (l : List Pm) (x : Pm) : Pm.cs (l ++ [x]) = Pm.cs l ++ [pmL x] := by simp [Pm.cs_eq]
mutual
def Ex.c : Ex → List PV
  | .mk xO xNm xN xK xP xA xT => [.int .i64 xO, .str xNm, .int .i64 xN, .sl 7 (Ex.cs xK), .sl 10 (Pm.cs xP), .sl 9 (Al.cs xA), .sl 9 (Tp.cs xT)]
def Ex.cs : List Ex → List (List PV)
  | [] => []
  | x :: r => Ex.c x :: Ex.cs r
def Al.c : Al → List PV
  | .mk xC xNs xB => .str xC :: .sl 1 (nmsC xNs) :: Ex.c xB
def Al.cs : List Al → List (List PV)
  | [] => []
  | x :: r => Al.c x :: Al.cs r
end
abbrev exL (x : Ex) : List PV := [.int .i64 (exO x), .str (exNm x), .int .i64 (exN x), .sl 7 (Ex.cs (exK x)), .sl 10 (Pm.cs (exP x)), .sl 9 (Al.cs (exA x)), .sl 9 (Tp.cs (exT x))]
abbrev exV (x : Ex) : List LV := [.v (.int .i64 (exO x)), .v (.str (exNm x)), .v (.int .i64 (exN x)), .v (.sl 7 (Ex.cs (exK x))), .v (.sl 10 (Pm.cs (exP x))), .v (.sl 9 (Al.cs (exA x))), .v (.sl 9 (Tp.cs (exT x)))]
abbrev alL (x : Al) : List PV := [.str (alC x), .sl 1 (nmsC (alNs x)), .int .i64 (exO (alB x)), .str (exNm (alB x)), .int .i64 (exN (alB x)), .sl 7 (Ex.cs (exK (alB x))), .sl 10 (Pm.cs (exP (alB x))), .sl 9 (Al.cs (exA (alB x))), .sl 9 (Tp.cs (exT (alB x)))]
abbrev alV (x : Al) : List LV := [.v (.str (alC x)), .v (.sl 1 (nmsC (alNs x))), .v (.int .i64 (exO (alB x))), .v (.str (exNm (alB x))), .v (.int .i64 (exN (alB x))), .v (.sl 7 (Ex.cs (exK (alB x)))), .v (.sl 10 (Pm.cs (exP (alB x)))), .v (.sl 9 (Al.cs (exA (alB x)))), .v (.sl 9 (Tp.cs (exT (alB x))))]
theorem Ex.c_eq (x : Ex) : Ex.c x = exL x := by cases x; rfl
theorem Al.c_eq (x : Al) : Al.c x = alL x := by cases x with | mk a0 a1 a2 => cases a2; rfl
theorem Ex.cs_eq (l : List Ex) : Ex.cs l = l.map (exL) := by induction l with | nil => rfl | cons x r ih => simp [Ex.cs, ih, Ex.c_eq]
theorem Ex.cs_len (l : List Ex) : (Ex.cs l).length = l.length := by simp [Ex.cs_eq]
theorem Ex.cs_at {l : List Ex} {i : Nat} (h : i < l.length) : (Ex.cs l).getD i [] = exL (l.getD i default) := by rw [Ex.cs_eq]; simp [List.getD, h]
theorem Ex.cs_app (a b : List Ex) : Ex.cs (a ++ b) = Ex.cs a ++ Ex.cs b := by simp [Ex.cs_eq]
theorem Ex.cs_snoc (l : List Ex) (x : Ex) : Ex.cs (l ++ [x]) = Ex.cs l ++ [exL x] := by simp [Ex.cs_eq]
theorem Al.cs_eq (l : List Al) : Al.cs l = l.map (alL) := by induction l with | nil => rfl | cons x r ih => simp [Al.cs, ih, Al.c_eq]
theorem Al.cs_len (l : List Al) : (Al.cs l).length = l.length := by simp [Al.cs_eq]
theorem Al.cs_at {l : List Al} {i : Nat} (h : i < l.length) : (Al.cs l).getD i [] = alL (l.getD i default) := by rw [Al.cs_eq]; simp [List.getD, h]
theorem Al.cs_app (a b : List Al) : Al.cs (a ++ b) = Al.cs a ++ Al.cs b := by simp [Al.cs_eq]
theorem Al.cs_snoc (l : List Al) (x : Al) : Al.cs (l ++ [x]) = Al.cs l ++ [alL x] := by simp [Al.cs_eq]
abbrev vrL (x : Vr) : List PV := [.str (vrNm x), .str (vrS x)]
abbrev vrV (x : Vr) : List LV := [.v (.str (vrNm x)), .v (.str (vrS x))]
def Vr.cs : List Vr → List (List PV)
  | [] => []
  | x :: r => vrL x :: Vr.cs r
theorem Vr.cs_eq (l : List Vr) : Vr.cs l = l.map (vrL) := by induction l with | nil => rfl | cons x r ih => simp [Vr.cs, ih]
theorem Vr.cs_len (l : List Vr) : (Vr.cs l).length = l.length := by simp [Vr.cs_eq]
theorem Vr.cs_at {l : List Vr} {i : Nat} (h : i < l.length) : (Vr.cs l).getD i [] = vrL (l.getD i default) := by rw [Vr.cs_eq]; simp [List.getD, h]
theorem Vr.cs_app (a b : List Vr) : Vr.cs (a ++ b) = Vr.cs a ++ Vr.cs b := by simp [Vr.cs_eq]
theorem Vr.cs_snoc (l : List Vr) (x : Vr) : Vr.cs (l ++ [x]) = Vr.cs l ++ [vrL x] := by simp [Vr.cs_eq]
abbrev cnL (x : Cn) : List PV := [.str (cnNm x), .sl 1 (nmsC (cnNs x)), .sl 9 (Tp.cs (cnF x))]
abbrev cnV (x : Cn) : List LV := [.v (.str (cnNm x)), .v (.sl 1 (nmsC (cnNs x))), .v (.sl 9 (Tp.cs (cnF x)))]
def Cn.cs : List Cn → List (List PV)
  | [] => []
  | x :: r => cnL x :: Cn.cs r
theorem Cn.cs_eq (l : List Cn) : Cn.cs l = l.map (cnL) := by induction l with | nil => rfl | cons x r ih => simp [Cn.cs, ih]
theorem Cn.cs_len (l : List Cn) : (Cn.cs l).length = l.length := by simp [Cn.cs_eq]
theorem Cn.cs_at {l : List Cn} {i : Nat} (h : i < l.length) : (Cn.cs l).getD i [] = cnL (l.getD i default) := by rw [Cn.cs_eq]; simp [List.getD, h]
theorem Cn.cs_app (a b : List Cn) : Cn.cs (a ++ b) = Cn.cs a ++ Cn.cs b := by simp [Cn.cs_eq]
theorem Cn.cs_snoc (l : List Cn) (x : Cn) : Cn.cs (l ++ [x]) = Cn.cs l ++ [cnL x] := by simp [Cn.cs_eq]
abbrev daL (x : Da) : List PV := [.str (daNm x), .sl 1 (nmsC (daVs x)), .sl 2 (Vr.cs (daP x)), .sl 3 (Cn.cs (daC x))]
abbrev daV (x : Da) : List LV := [.v (.str (daNm x)), .v (.sl 1 (nmsC (daVs x))), .v (.sl 2 (Vr.cs (daP x))), .v (.sl 3 (Cn.cs (daC x)))]
def Da.cs : List Da → List (List PV)
  | [] => []
  | x :: r => daL x :: Da.cs r
theorem Da.cs_eq (l : List Da) : Da.cs l = l.map (daL) := by induction l with | nil => rfl | cons x r ih => simp [Da.cs, ih]
theorem Da.cs_len (l : List Da) : (Da.cs l).length = l.length := by simp [Da.cs_eq]
theorem Da.cs_at {l : List Da} {i : Nat} (h : i < l.length) : (Da.cs l).getD i [] = daL (l.getD i default) := by rw [Da.cs_eq]; simp [List.getD, h]
theorem Da.cs_app (a b : List Da) : Da.cs (a ++ b) = Da.cs a ++ Da.cs b := by simp [Da.cs_eq]
theorem Da.cs_snoc (l : List Da) (x : Da) : Da.cs (l ++ [x]) = Da.cs l ++ [daL x] := by simp [Da.cs_eq]
abbrev clL (x : Cl) : List PV := [.str (clNm x), .str (clW x), .sl 10 (Pm.cs (clM x))]
abbrev clV (x : Cl) : List LV := [.v (.str (clNm x)), .v (.str (clW x)), .v (.sl 10 (Pm.cs (clM x)))]
def Cl.cs : List Cl → List (List PV)
  | [] => []
  | x :: r => clL x :: Cl.cs r
theorem Cl.cs_eq (l : List Cl) : Cl.cs l = l.map (clL) := by induction l with | nil => rfl | cons x r ih => simp [Cl.cs, ih]
theorem Cl.cs_len (l : List Cl) : (Cl.cs l).length = l.length := by simp [Cl.cs_eq]
theorem Cl.cs_at {l : List Cl} {i : Nat} (h : i < l.length) : (Cl.cs l).getD i [] = clL (l.getD i default) := by rw [Cl.cs_eq]; simp [List.getD, h]
theorem Cl.cs_app (a b : List Cl) : Cl.cs (a ++ b) = Cl.cs a ++ Cl.cs b := by simp [Cl.cs_eq]
theorem Cl.cs_snoc (l : List Cl) (x : Cl) : Cl.cs (l ++ [x]) = Cl.cs l ++ [clL x] := by simp [Cl.cs_eq]
abbrev boL (x : Bo) : List PV := [.str (boNm x), .sl 2 (Vr.cs (boW x)), .int .i64 (prO (boH x)), .str (prNm (boH x)), .int .i64 (prN (boH x)), .sl 4 (Pr.cs (prK (boH x))), .int .i64 (prO (boG x)), .str (prNm (boG x)), .int .i64 (prN (boG x)), .sl 4 (Pr.cs (prK (boG x)))]
abbrev boV (x : Bo) : List LV := [.v (.str (boNm x)), .v (.sl 2 (Vr.cs (boW x))), .v (.int .i64 (prO (boH x))), .v (.str (prNm (boH x))), .v (.int .i64 (prN (boH x))), .v (.sl 4 (Pr.cs (prK (boH x)))), .v (.int .i64 (prO (boG x))), .v (.str (prNm (boG x))), .v (.int .i64 (prN (boG x))), .v (.sl 4 (Pr.cs (prK (boG x))))]
def Bo.cs : List Bo → List (List PV)
  | [] => []
  | x :: r => boL x :: Bo.cs r
theorem Bo.cs_eq (l : List Bo) : Bo.cs l = l.map (boL) := by induction l with | nil => rfl | cons x r ih => simp [Bo.cs, ih]
theorem Bo.cs_len (l : List Bo) : (Bo.cs l).length = l.length := by simp [Bo.cs_eq]
theorem Bo.cs_at {l : List Bo} {i : Nat} (h : i < l.length) : (Bo.cs l).getD i [] = boL (l.getD i default) := by rw [Bo.cs_eq]; simp [List.getD, h]
theorem Bo.cs_app (a b : List Bo) : Bo.cs (a ++ b) = Bo.cs a ++ Bo.cs b := by simp [Bo.cs_eq]
theorem Bo.cs_snoc (l : List Bo) (x : Bo) : Bo.cs (l ++ [x]) = Bo.cs l ++ [boL x] := by simp [Bo.cs_eq]
abbrev dfL (x : Df) : List PV := [.str (dfNm x), .sl 1 (nmsC (dfP x)), .int .i64 (exO (dfB x)), .str (exNm (dfB x)), .int .i64 (exN (dfB x)), .sl 7 (Ex.cs (exK (dfB x))), .sl 10 (Pm.cs (exP (dfB x))), .sl 9 (Al.cs (exA (dfB x))), .sl 9 (Tp.cs (exT (dfB x))), .int .i64 (dfM x), .bool (dfTy x), .sl 1 (nmsC (dfVs x)), .sl 2 (Vr.cs (dfNe x)), .sl 2 (Vr.cs (dfAb x)), .sl 10 (Bo.cs (dfBo x)), .int .i64 (tpO (dfT x)), .str (tpNm (dfT x)), .sl 9 (Tp.cs (tpA (dfT x))), .sl 1 (nmsC (tpNs (dfT x))), .int .i64 (prO (tpP (dfT x))), .str (prNm (tpP (dfT x))), .int .i64 (prN (tpP (dfT x))), .sl 4 (Pr.cs (prK (tpP (dfT x)))), .sl 4 (Pr.cs (tpPs (dfT x))), .sl 4 (Pr.cs (dfMe x))]
abbrev dfV (x : Df) : List LV := [.v (.str (dfNm x)), .v (.sl 1 (nmsC (dfP x))), .v (.int .i64 (exO (dfB x))), .v (.str (exNm (dfB x))), .v (.int .i64 (exN (dfB x))), .v (.sl 7 (Ex.cs (exK (dfB x)))), .v (.sl 10 (Pm.cs (exP (dfB x)))), .v (.sl 9 (Al.cs (exA (dfB x)))), .v (.sl 9 (Tp.cs (exT (dfB x)))), .v (.int .i64 (dfM x)), .v (.bool (dfTy x)), .v (.sl 1 (nmsC (dfVs x))), .v (.sl 2 (Vr.cs (dfNe x))), .v (.sl 2 (Vr.cs (dfAb x))), .v (.sl 10 (Bo.cs (dfBo x))), .v (.int .i64 (tpO (dfT x))), .v (.str (tpNm (dfT x))), .v (.sl 9 (Tp.cs (tpA (dfT x)))), .v (.sl 1 (nmsC (tpNs (dfT x)))), .v (.int .i64 (prO (tpP (dfT x)))), .v (.str (prNm (tpP (dfT x)))), .v (.int .i64 (prN (tpP (dfT x)))), .v (.sl 4 (Pr.cs (prK (tpP (dfT x))))), .v (.sl 4 (Pr.cs (tpPs (dfT x)))), .v (.sl 4 (Pr.cs (dfMe x)))]
def Df.cs : List Df → List (List PV)
  | [] => []
  | x :: r => dfL x :: Df.cs r
theorem Df.cs_eq (l : List Df) : Df.cs l = l.map (dfL) := by induction l with | nil => rfl | cons x r ih => simp [Df.cs, ih]
theorem Df.cs_len (l : List Df) : (Df.cs l).length = l.length := by simp [Df.cs_eq]
theorem Df.cs_at {l : List Df} {i : Nat} (h : i < l.length) : (Df.cs l).getD i [] = dfL (l.getD i default) := by rw [Df.cs_eq]; simp [List.getD, h]
theorem Df.cs_app (a b : List Df) : Df.cs (a ++ b) = Df.cs a ++ Df.cs b := by simp [Df.cs_eq]
theorem Df.cs_snoc (l : List Df) (x : Df) : Df.cs (l ++ [x]) = Df.cs l ++ [dfL x] := by simp [Df.cs_eq]
abbrev inL (x : In) : List PV := [.str (inNm x), .int .i64 (tpO (inT x)), .str (tpNm (inT x)), .sl 9 (Tp.cs (tpA (inT x))), .sl 1 (nmsC (tpNs (inT x))), .int .i64 (prO (tpP (inT x))), .str (prNm (tpP (inT x))), .int .i64 (prN (tpP (inT x))), .sl 4 (Pr.cs (prK (tpP (inT x)))), .sl 4 (Pr.cs (tpPs (inT x))), .sl 2 (Vr.cs (inNe x)), .sl 25 (Df.cs (inD x))]
abbrev inV (x : In) : List LV := [.v (.str (inNm x)), .v (.int .i64 (tpO (inT x))), .v (.str (tpNm (inT x))), .v (.sl 9 (Tp.cs (tpA (inT x)))), .v (.sl 1 (nmsC (tpNs (inT x)))), .v (.int .i64 (prO (tpP (inT x)))), .v (.str (prNm (tpP (inT x)))), .v (.int .i64 (prN (tpP (inT x)))), .v (.sl 4 (Pr.cs (prK (tpP (inT x))))), .v (.sl 4 (Pr.cs (tpPs (inT x)))), .v (.sl 2 (Vr.cs (inNe x))), .v (.sl 25 (Df.cs (inD x)))]
def In.cs : List In → List (List PV)
  | [] => []
  | x :: r => inL x :: In.cs r
theorem In.cs_eq (l : List In) : In.cs l = l.map (inL) := by induction l with | nil => rfl | cons x r ih => simp [In.cs, ih]
theorem In.cs_len (l : List In) : (In.cs l).length = l.length := by simp [In.cs_eq]
theorem In.cs_at {l : List In} {i : Nat} (h : i < l.length) : (In.cs l).getD i [] = inL (l.getD i default) := by rw [In.cs_eq]; simp [List.getD, h]
theorem In.cs_app (a b : List In) : In.cs (a ++ b) = In.cs a ++ In.cs b := by simp [In.cs_eq]
theorem In.cs_snoc (l : List In) (x : In) : In.cs (l ++ [x]) = In.cs l ++ [inL x] := by simp [In.cs_eq]
abbrev csL (x : Cs) : List PV := [.str (csC x), .sl 1 (nmsC (csNs x)), .int .i64 (prO (csB x)), .str (prNm (csB x)), .int .i64 (prN (csB x)), .sl 4 (Pr.cs (prK (csB x)))]
abbrev csV (x : Cs) : List LV := [.v (.str (csC x)), .v (.sl 1 (nmsC (csNs x))), .v (.int .i64 (prO (csB x))), .v (.str (prNm (csB x))), .v (.int .i64 (prN (csB x))), .v (.sl 4 (Pr.cs (prK (csB x))))]
def Cs.cs : List Cs → List (List PV)
  | [] => []
  | x :: r => csL x :: Cs.cs r
theorem Cs.cs_eq (l : List Cs) : Cs.cs l = l.map (csL) := by induction l with | nil => rfl | cons x r ih => simp [Cs.cs, ih]
theorem Cs.cs_len (l : List Cs) : (Cs.cs l).length = l.length := by simp [Cs.cs_eq]
theorem Cs.cs_at {l : List Cs} {i : Nat} (h : i < l.length) : (Cs.cs l).getD i [] = csL (l.getD i default) := by rw [Cs.cs_eq]; simp [List.getD, h]
theorem Cs.cs_app (a b : List Cs) : Cs.cs (a ++ b) = Cs.cs a ++ Cs.cs b := by simp [Cs.cs_eq]
theorem Cs.cs_snoc (l : List Cs) (x : Cs) : Cs.cs (l ++ [x]) = Cs.cs l ++ [csL x] := by simp [Cs.cs_eq]
abbrev msL (x : Ms) : List PV := [.str (msNm x), .str (msD x), .str (msR x), .sl 6 (Cs.cs (msC x)), .int .i64 (prO (msI x)), .str (prNm (msI x)), .int .i64 (prN (msI x)), .sl 4 (Pr.cs (prK (msI x)))]
abbrev msV (x : Ms) : List LV := [.v (.str (msNm x)), .v (.str (msD x)), .v (.str (msR x)), .v (.sl 6 (Cs.cs (msC x))), .v (.int .i64 (prO (msI x))), .v (.str (prNm (msI x))), .v (.int .i64 (prN (msI x))), .v (.sl 4 (Pr.cs (prK (msI x))))]
def Ms.cs : List Ms → List (List PV)
  | [] => []
  | x :: r => msL x :: Ms.cs r
theorem Ms.cs_eq (l : List Ms) : Ms.cs l = l.map (msL) := by induction l with | nil => rfl | cons x r ih => simp [Ms.cs, ih]
theorem Ms.cs_len (l : List Ms) : (Ms.cs l).length = l.length := by simp [Ms.cs_eq]
theorem Ms.cs_at {l : List Ms} {i : Nat} (h : i < l.length) : (Ms.cs l).getD i [] = msL (l.getD i default) := by rw [Ms.cs_eq]; simp [List.getD, h]
theorem Ms.cs_app (a b : List Ms) : Ms.cs (a ++ b) = Ms.cs a ++ Ms.cs b := by simp [Ms.cs_eq]
theorem Ms.cs_snoc (l : List Ms) (x : Ms) : Ms.cs (l ++ [x]) = Ms.cs l ++ [msL x] := by simp [Ms.cs_eq]
abbrev quL (x : Qu) : List PV := [.str (quNm x), .sl 2 (Vr.cs (quW x)), .int .i64 (prO (quB x)), .str (prNm (quB x)), .int .i64 (prN (quB x)), .sl 4 (Pr.cs (prK (quB x)))]
abbrev quV (x : Qu) : List LV := [.v (.str (quNm x)), .v (.sl 2 (Vr.cs (quW x))), .v (.int .i64 (prO (quB x))), .v (.str (prNm (quB x))), .v (.int .i64 (prN (quB x))), .v (.sl 4 (Pr.cs (prK (quB x))))]
def Qu.cs : List Qu → List (List PV)
  | [] => []
  | x :: r => quL x :: Qu.cs r
theorem Qu.cs_eq (l : List Qu) : Qu.cs l = l.map (quL) := by induction l with | nil => rfl | cons x r ih => simp [Qu.cs, ih]
theorem Qu.cs_len (l : List Qu) : (Qu.cs l).length = l.length := by simp [Qu.cs_eq]
theorem Qu.cs_at {l : List Qu} {i : Nat} (h : i < l.length) : (Qu.cs l).getD i [] = quL (l.getD i default) := by rw [Qu.cs_eq]; simp [List.getD, h]
theorem Qu.cs_app (a b : List Qu) : Qu.cs (a ++ b) = Qu.cs a ++ Qu.cs b := by simp [Qu.cs_eq]
theorem Qu.cs_snoc (l : List Qu) (x : Qu) : Qu.cs (l ++ [x]) = Qu.cs l ++ [quL x] := by simp [Qu.cs_eq]
abbrev moL (x : Mo) : List PV := [.sl 4 (Da.cs (moD x)), .sl 3 (Cl.cs (moC x)), .sl 12 (In.cs (moI x)), .sl 8 (Ms.cs (moM x)), .sl 6 (Qu.cs (moQ x)), .sl 25 (Df.cs (moF x))]
abbrev moV (x : Mo) : List LV := [.v (.sl 4 (Da.cs (moD x))), .v (.sl 3 (Cl.cs (moC x))), .v (.sl 12 (In.cs (moI x))), .v (.sl 8 (Ms.cs (moM x))), .v (.sl 6 (Qu.cs (moQ x))), .v (.sl 25 (Df.cs (moF x)))]
def Mo.cs : List Mo → List (List PV)
  | [] => []
  | x :: r => moL x :: Mo.cs r
theorem Mo.cs_eq (l : List Mo) : Mo.cs l = l.map (moL) := by induction l with | nil => rfl | cons x r ih => simp [Mo.cs, ih]
theorem Mo.cs_len (l : List Mo) : (Mo.cs l).length = l.length := by simp [Mo.cs_eq]
theorem Mo.cs_at {l : List Mo} {i : Nat} (h : i < l.length) : (Mo.cs l).getD i [] = moL (l.getD i default) := by rw [Mo.cs_eq]; simp [List.getD, h]
theorem Mo.cs_app (a b : List Mo) : Mo.cs (a ++ b) = Mo.cs a ++ Mo.cs b := by simp [Mo.cs_eq]
theorem Mo.cs_snoc (l : List Mo) (x : Mo) : Mo.cs (l ++ [x]) = Mo.cs l ++ [moL x] := by simp [Mo.cs_eq]
abbrev sgL (x : Df) : List PV := [.sl 1 (nmsC (dfVs x)), .sl 2 (Vr.cs (dfNe x)), .sl 2 (Vr.cs (dfAb x)), .sl 10 (Bo.cs (dfBo x)), .int .i64 (tpO (dfT x)), .str (tpNm (dfT x)), .sl 9 (Tp.cs (tpA (dfT x))), .sl 1 (nmsC (tpNs (dfT x))), .int .i64 (prO (tpP (dfT x))), .str (prNm (tpP (dfT x))), .int .i64 (prN (tpP (dfT x))), .sl 4 (Pr.cs (prK (tpP (dfT x)))), .sl 4 (Pr.cs (tpPs (dfT x))), .sl 4 (Pr.cs (dfMe x))]
abbrev sgV (x : Df) : List LV := [.v (.sl 1 (nmsC (dfVs x))), .v (.sl 2 (Vr.cs (dfNe x))), .v (.sl 2 (Vr.cs (dfAb x))), .v (.sl 10 (Bo.cs (dfBo x))), .v (.int .i64 (tpO (dfT x))), .v (.str (tpNm (dfT x))), .v (.sl 9 (Tp.cs (tpA (dfT x)))), .v (.sl 1 (nmsC (tpNs (dfT x)))), .v (.int .i64 (prO (tpP (dfT x)))), .v (.str (prNm (tpP (dfT x)))), .v (.int .i64 (prN (tpP (dfT x)))), .v (.sl 4 (Pr.cs (prK (tpP (dfT x))))), .v (.sl 4 (Pr.cs (tpPs (dfT x)))), .v (.sl 4 (Pr.cs (dfMe x)))]
theorem drop_at {α : Type} [Inhabited α] {l : List α} {i : Nat} (h : i < l.length) : l.drop i = l.getD i default :: l.drop (i + 1) := by
  rw [List.drop_eq_getElem_cons h]
  simp [List.getD, h]
theorem drop_at0 {l : List ByteArray} {i : Nat} (h : i < l.length) : l.drop i = l.getD i nm0 :: l.drop (i + 1) := by
  rw [List.drop_eq_getElem_cons h]
  simp [List.getD, h]
theorem take_rev_at0 {l : List ByteArray} {i : Nat} (h : i < l.length) : (l.take (i + 1)).reverse = l.getD i nm0 :: (l.take i).reverse := by
  rw [List.take_succ_eq_append_getElem h, List.reverse_append]
  simp [List.getD, h]
theorem take_rev_at {α : Type} [Inhabited α] {l : List α} {i : Nat} (h : i < l.length) : (l.take (i + 1)).reverse = l.getD i default :: (l.take i).reverse := by
  rw [List.take_succ_eq_append_getElem h, List.reverse_append]
  simp [List.getD, h]
theorem getD_mem {α : Type} [Inhabited α] {l : List α} {i : Nat} (h : i < l.length) : l.getD i default ∈ l := by simp [List.getD, h]
end Go.Proofs.YtmllcplaohkjnaaGreatDoor
