/- Values of Go as plain data, an evaluator over them, and what the functions of the program return; part Yn. -/
import Derived.Test.YtmllcplaohkjnaaGreatDoorYm
import Derived.Test.YtmllcplaohkjnaaGreatDoorYi
import Derived.Test.YtmllcplaohkjnaaGreatDoorYa
set_option linter.unusedSectionVars false
set_option linter.unusedSimpArgs false
set_option linter.unusedVariables false
namespace Go.Proofs.YtmllcplaohkjnaaGreatDoor
open Go.Proofs.Tryz
open Go.Pv Go.Proofs.Tryz
set_option maxRecDepth 100000
def zz9:BA:=(ByteArray.mk #[122,122,57])
def zz8:BA:=(ByteArray.mk #[122,122,56])
theorem nu1(n:Int):Pu 13 [pI n] (rA [pI 1,.str nm0,pI n,.sl 7 [],.sl 10 [],.sl 9 [],.sl 9 []]):=
 Ob.pur_wk (Wk.a (kr (kr (kr (kn 7 (kn 10 (kn 9 (kn 9 (WkL.r _))))))))) (pm mdL [] func13)
section
variable (m:Mo) (haw:Pu 9 [] (.ret (.bool true)))
include m haw
theorem sxA(hb:Pu 8 [.agg (moL m)] (.ret (.bool false))):Pu 5 [.agg (moL m)] (rB true):=
 pm mdL [cl hb,rp 15 (bt true),cl haw] func5
theorem sxB(hb:Pu 8 [.agg (moL m)] (.ret (.bool true)))(g0:(moF m).length=0):Pu 5 [.agg (moL m)] (rB true):=
 pm mdL [cl hb,rp 3 (bf false),sl (Df.cs_len (moF m)),rp 2 (bf false),rp 5 (et ((moF m).length:Int) 0),rp 5 (bt true),cl haw] func5
theorem sxC(hb:Pu 8 [.agg (moL m)] (.ret (.bool true)))(g0:¬((moF m).length:Int)=0)(g6:((moF m).length:Int)>60):Pu 5 [.agg (moL m)] (rB true):=
 pm mdL [cl hb,rp 3 (bf false),sl (Df.cs_len (moF m)),rp 2 (bf false),rp 3 (en ((moF m).length:Int) 0 g0),sl (Df.cs_len (moF m)),rp 2 (en ((moF m).length:Int) 0 g0),rp 4 (dt (((moF m).length:Int)>60) g6),bt true,cl haw] func5
theorem sxD(hb:Pu 8 [.agg (moL m)] (.ret (.bool true)))(g0:¬((moF m).length:Int)=0)(g6:¬((moF m).length:Int)>60)(r:Int)(hc:Pu 10 [.agg (moL m)] (.ret (.int .i64 r)))(hr:¬r=0):Pu 5 [.agg (moL m)] (rB true):=
 pm mdL [cl hb,rp 3 (bf false),sl (Df.cs_len (moF m)),rp 2 (bf false),rp 3 (en ((moF m).length:Int) 0 g0),sl (Df.cs_len (moF m)),rp 2 (en ((moF m).length:Int) 0 g0),rp 2 (df (((moF m).length:Int)>60) g6),cl hc,rp 2 (df (((moF m).length:Int)>60) g6),nt r 0 hr,cl haw] func5
end
abbrev sq_I(m:Mo)(j:Int)(z:Bool)(e:Ext):S:=S.mk [(1,.lp 1 0),(2,.v (.bool false)),(4,.v (.bool z)),(5,vI6 j)] [(1,moV m)] e
def sq_f  : List Ms->(Bool)->(Bool)
 | [],z=>(z)
 | el::r,z=>(if z=true then sq_f  r (true) else sq_f  r (ByteArray.toList (msNm el)==ByteArray.toList (ByteArray.mk #[122,122,57])))
def sq_q(m:Mo)(e:Ext)(p:(Bool)):PExit × S:=(.exit 0,S.mk [(1,.lp 1 0),(2,.v (.bool false)),(4,.v (.bool p))] [(1,moV m)] e)
theorem sq(m:Mo)(haw:Pu 9 [] (.ret (.bool true)))(hb:Pu 8 [.agg (moL m)] (.ret (.bool true)))(g0:¬((moF m).length:Int)=0)(g6:¬((moF m).length:Int)>60)(hc:Pu 10 [.agg (moL m)] (.ret (.int .i64 0)))(hz:Sz m)(z:Bool)(e:Ext)(hN:(moM m).length<=1000000000)  : (Ob.loop 100 (loopF f5 0) (sq_I m 0 z e) (sq_q m e (sq_f  ((moM m))  z)).1 (sq_q m e (sq_f  ((moM m))  z)).2).ok prog:=by
 refine rng ((moM m).length) (fun j z=>sq_I m j z e) (fun i z=>sq_f  (List.drop i ((moM m)))  z) (sq_q m e) (fun i z=>True) kR ?_ z trivial
 rintro i z hi -
 rcases Nat.lt_or_ge i ((moM m).length) with hlt | hge
 ·have hd:=drop_at hlt
  by_cases h0:z=true
  ·exact lN mdL [sl (Ms.cs_len (moM m)),dt ((i:Int)<((moM m).length:Int)),rp 8 (bt1 h0),wr ((i:Int)+1)] hlt (true) trivial (by rw [hd,sq_f,iP h0])
  ·exact lN mdL [sl (Ms.cs_len (moM m)),dt ((i:Int)<((moM m).length:Int)),rp 4 (bf1 (bFT h0)),am ((0:Int)<=(i:Int)/\(i:Int)<((Ms.cs (moM m)).length:Int)) (by (simp only [Ms.cs_len]; omega)),ar (List.getD (Ms.cs (moM m)) (Int.toNat (i:Int)) []) (msL (List.getD (moM m) i default)) (by simp only [Int.toNat_natCast,Int.toNat_zero]; rw [@Ms.cs_at (moM m) (i) hlt]; try rfl),rp 4 (bf1 (bFT h0)),wr ((i:Int)+1)] hlt (ByteArray.toList (msNm (List.getD (moM m) i default))==ByteArray.toList (ByteArray.mk #[122,122,57])) trivial (by rw [hd,sq_f,iN h0])
 ·have he:i=(moM m).length:=by omega
  exact lX mdL [sl (Ms.cs_len (moM m)),df ((i:Int)<((moM m).length:Int))] (z) (by rw [he,List.drop_length,sq_f])
section
variable (m:Mo) (haw:Pu 9 [] (.ret (.bool true))) (hb:Pu 8 [.agg (moL m)] (.ret (.bool true))) (g0:¬((moF m).length:Int)=0) (g6:¬((moF m).length:Int)>60) (hc:Pu 10 [.agg (moL m)] (.ret (.int .i64 0))) (hz:Sz m) (hM:(moM m).length<=1000000000) (hx:Pu 10 [.agg [.sl 4 (Da.cs (moD m)),.sl 3 (Cl.cs (moC m)),.sl 12 (In.cs (moI m)),.sl 8 (Ms.cs (moM m)),.sl 6 (Qu.cs (moQ m)),.sl 25 (Df.cs (moF m)++[[.str (dfNm ((moF m).getD 0 default)),.nilsl,.int .i64 1,.str nm0,.int .i64 1,.sl 7 [],.sl 10 [],.sl 9 [],.sl 9 [],.int .i64 0,.bool false,.nilsl,.nilsl,.nilsl,.nilsl,.int .i64 0,.str nm0,.nilsl,.nilsl,.int .i64 0,.str nm0,.int .i64 0,.nilsl,.nilsl,.nilsl]])]] (.ret (.int .i64 4)))
include m haw hb g0 g6 hc hz hM hx
theorem sxF(ht:sq_f (moM m) (psF m (ByteArray.mk #[122,122,57])).2=true):Pu 5 [.agg (moL m)] (rB true):=
 pu mdL (fun e=>[cl hb,rp 3 (bf false),sl (Df.cs_len (moF m)),rp 2 (bf false),rp 3 (en ((moF m).length:Int) 0 g0),sl (Df.cs_len (moF m)),rp 2 (en ((moF m).length:Int) 0 g0),rp 2 (df (((moF m).length:Int)>60) g6),cl hc,rp 2 (df (((moF m).length:Int)>60) g6),bf false,cl (@spZ (m) (ByteArray.mk #[122,122,57]) hz),lp (S.mk [(0,.v (.agg (moL m))),(1,.lp 1 0),(2,.v (.bool false)),(10,.v (.agg (moL m))),(11,.v (.bool true)),(12,.v (.bool false)),(13,.v (.bool false)),(14,.lp 1 5),(15,vL 25 (Df.cs (moF m))),(16,vI6 ((moF m).length:Int)),(17,.v (.bool (((moF m).length:Int)==0))),(18,.v (.bool (((moF m).length:Int)==0))),(19,.v (.bool (((moF m).length:Int)==0))),(20,.lp 1 5),(21,vL 25 (Df.cs (moF m))),(22,vI6 ((moF m).length:Int)),(23,.v (.bool (decide (((moF m).length:Int)>60)))),(24,.v (.bool (decide (((moF m).length:Int)>60)))),(25,.v (.bool (decide (((moF m).length:Int)>60)))),(26,.v (.agg (moL m))),(27,vI6 0),(28,.v (.bool false)),(29,.v (.bool false)),(32,.v (.agg (moL m))),(33,.v (.tup [pI (Prod.fst (psF m (ByteArray.mk #[122,122,57]))),.bool (Prod.snd (psF m (ByteArray.mk #[122,122,57])))])),(31,.v (.tup [pI (Prod.fst (psF m (ByteArray.mk #[122,122,57]))),.bool (Prod.snd (psF m (ByteArray.mk #[122,122,57])))])),(34,vI6 (Prod.fst (psF m (ByteArray.mk #[122,122,57])))),(35,.v (.bool (Prod.snd (psF m (ByteArray.mk #[122,122,57]))))),(3,vI6 (Prod.fst (psF m (ByteArray.mk #[122,122,57])))),(4,.v (.bool (Prod.snd (psF m (ByteArray.mk #[122,122,57]))))),(5,vI6 0)] [(1,moV m)] e) (@sq (m) haw hb g0 g6 hc hz (Prod.snd (psF m (ByteArray.mk #[122,122,57]))) (e) hM) xr,am (List.length ([]++(fun x=>Prod.snd x) (25,Df.cs (moF m))) * (455+1)<=140737488355328) (by (simp only [List.length_append,List.length_nil,Df.cs_len]; omega)),am ((0:Int)<=0/\0<((Df.cs (moF m)).length:Int)) (by (simp only [Df.cs_len]; omega)),xDf (moF m) 0,cl (@nu1 (1)),am (List.length ([]++(fun x=>Prod.snd x) (25,Df.cs (moF m))++(fun x=>Prod.snd x) (24+1,[splice (splice [.str nm0,.nilsl,pI 0,.str nm0,pI 0,.nilsl,.nilsl,.nilsl,.nilsl,pI 0,.bool false,.nilsl,.nilsl,.nilsl,.nilsl,pI 0,.str nm0,.nilsl,.nilsl,pI 0,.str nm0,pI 0,.nilsl,.nilsl,.nilsl] (Field.offset (Field.mk "Name" 9 0 false "" "" 0)) [.str (dfNm (List.getD (moF m) 0 default))]) (Field.offset (Field.mk "Body" 41 2 false "" "" 40)) [pI 1,.str nm0,pI 1,.sl 7 [],.sl 10 [],.sl 9 [],.sl 9 []]])) * (455+1)<=140737488355328) (by (simp only [List.length_append,List.length_cons,List.length_nil,Df.cs_len]; omega)),am (List.length ([]++(fun x=>Prod.snd x) (25,Df.cs (moF m))) * (455+1)<=140737488355328) (by (simp only [List.length_append,List.length_nil,Df.cs_len]; omega)),am (List.length ([]++(fun x=>Prod.snd x) (25,Df.cs (moF m))++(fun x=>Prod.snd x) (24+1,[splice (splice [.str nm0,.nilsl,pI 0,.str nm0,pI 0,.nilsl,.nilsl,.nilsl,.nilsl,pI 0,.bool false,.nilsl,.nilsl,.nilsl,.nilsl,pI 0,.str nm0,.nilsl,.nilsl,pI 0,.str nm0,pI 0,.nilsl,.nilsl,.nilsl] (Field.offset (Field.mk "Name" 9 0 false "" "" 0)) [.str (ByteArray.mk #[122,122,57])]) (Field.offset (Field.mk "Body" 41 2 false "" "" 40)) (splice (splice [pI 0,.str nm0,pI 0,.nilsl,.nilsl,.nilsl,.nilsl] (Field.offset (Field.mk "Op" 35 0 false "" "" 0)) [pI 3]) (Field.offset (Field.mk "Name" 9 1 false "" "" 8)) [.str (ByteArray.mk #[122,122,56])])])) * (455+1)<=140737488355328) (by (simp only [List.length_append,List.length_cons,List.length_nil,Df.cs_len]; omega)),cl (@spZ (m) (ByteArray.mk #[122,122,56]) hz),cl hx,rp 2 (bt true),bt (sq_f (moM m) (Prod.snd (psF m (ByteArray.mk #[122,122,57])))) ht,bt true,bt (sq_f (moM m) (Prod.snd (psF m (ByteArray.mk #[122,122,57])))) ht,rp 8 (bt true),cl haw,bt true]) func5
theorem sxG(ht:sq_f (moM m) (psF m (ByteArray.mk #[122,122,57])).2=false)(hk:(psF m (ByteArray.mk #[122,122,56])).2=true):Pu 5 [.agg (moL m)] (rB true):=
 pu mdL (fun e=>[cl hb,rp 3 (bf false),sl (Df.cs_len (moF m)),rp 2 (bf false),rp 3 (en ((moF m).length:Int) 0 g0),sl (Df.cs_len (moF m)),rp 2 (en ((moF m).length:Int) 0 g0),rp 2 (df (((moF m).length:Int)>60) g6),cl hc,rp 2 (df (((moF m).length:Int)>60) g6),bf false,cl (@spZ (m) (ByteArray.mk #[122,122,57]) hz),lp (S.mk [(0,.v (.agg (moL m))),(1,.lp 1 0),(2,.v (.bool false)),(10,.v (.agg (moL m))),(11,.v (.bool true)),(12,.v (.bool false)),(13,.v (.bool false)),(14,.lp 1 5),(15,vL 25 (Df.cs (moF m))),(16,vI6 ((moF m).length:Int)),(17,.v (.bool (((moF m).length:Int)==0))),(18,.v (.bool (((moF m).length:Int)==0))),(19,.v (.bool (((moF m).length:Int)==0))),(20,.lp 1 5),(21,vL 25 (Df.cs (moF m))),(22,vI6 ((moF m).length:Int)),(23,.v (.bool (decide (((moF m).length:Int)>60)))),(24,.v (.bool (decide (((moF m).length:Int)>60)))),(25,.v (.bool (decide (((moF m).length:Int)>60)))),(26,.v (.agg (moL m))),(27,vI6 0),(28,.v (.bool false)),(29,.v (.bool false)),(32,.v (.agg (moL m))),(33,.v (.tup [pI (Prod.fst (psF m (ByteArray.mk #[122,122,57]))),.bool (Prod.snd (psF m (ByteArray.mk #[122,122,57])))])),(31,.v (.tup [pI (Prod.fst (psF m (ByteArray.mk #[122,122,57]))),.bool (Prod.snd (psF m (ByteArray.mk #[122,122,57])))])),(34,vI6 (Prod.fst (psF m (ByteArray.mk #[122,122,57])))),(35,.v (.bool (Prod.snd (psF m (ByteArray.mk #[122,122,57]))))),(3,vI6 (Prod.fst (psF m (ByteArray.mk #[122,122,57])))),(4,.v (.bool (Prod.snd (psF m (ByteArray.mk #[122,122,57]))))),(5,vI6 0)] [(1,moV m)] e) (@sq (m) haw hb g0 g6 hc hz (Prod.snd (psF m (ByteArray.mk #[122,122,57]))) (e) hM) xr,am (List.length ([]++(fun x=>Prod.snd x) (25,Df.cs (moF m))) * (455+1)<=140737488355328) (by (simp only [List.length_append,List.length_nil,Df.cs_len]; omega)),am ((0:Int)<=0/\0<((Df.cs (moF m)).length:Int)) (by (simp only [Df.cs_len]; omega)),xDf (moF m) 0,cl (@nu1 (1)),am (List.length ([]++(fun x=>Prod.snd x) (25,Df.cs (moF m))++(fun x=>Prod.snd x) (24+1,[splice (splice [.str nm0,.nilsl,pI 0,.str nm0,pI 0,.nilsl,.nilsl,.nilsl,.nilsl,pI 0,.bool false,.nilsl,.nilsl,.nilsl,.nilsl,pI 0,.str nm0,.nilsl,.nilsl,pI 0,.str nm0,pI 0,.nilsl,.nilsl,.nilsl] (Field.offset (Field.mk "Name" 9 0 false "" "" 0)) [.str (dfNm (List.getD (moF m) 0 default))]) (Field.offset (Field.mk "Body" 41 2 false "" "" 40)) [pI 1,.str nm0,pI 1,.sl 7 [],.sl 10 [],.sl 9 [],.sl 9 []]])) * (455+1)<=140737488355328) (by (simp only [List.length_append,List.length_cons,List.length_nil,Df.cs_len]; omega)),am (List.length ([]++(fun x=>Prod.snd x) (25,Df.cs (moF m))) * (455+1)<=140737488355328) (by (simp only [List.length_append,List.length_nil,Df.cs_len]; omega)),am (List.length ([]++(fun x=>Prod.snd x) (25,Df.cs (moF m))++(fun x=>Prod.snd x) (24+1,[splice (splice [.str nm0,.nilsl,pI 0,.str nm0,pI 0,.nilsl,.nilsl,.nilsl,.nilsl,pI 0,.bool false,.nilsl,.nilsl,.nilsl,.nilsl,pI 0,.str nm0,.nilsl,.nilsl,pI 0,.str nm0,pI 0,.nilsl,.nilsl,.nilsl] (Field.offset (Field.mk "Name" 9 0 false "" "" 0)) [.str (ByteArray.mk #[122,122,57])]) (Field.offset (Field.mk "Body" 41 2 false "" "" 40)) (splice (splice [pI 0,.str nm0,pI 0,.nilsl,.nilsl,.nilsl,.nilsl] (Field.offset (Field.mk "Op" 35 0 false "" "" 0)) [pI 3]) (Field.offset (Field.mk "Name" 9 1 false "" "" 8)) [.str (ByteArray.mk #[122,122,56])])])) * (455+1)<=140737488355328) (by (simp only [List.length_append,List.length_cons,List.length_nil,Df.cs_len]; omega)),cl (@spZ (m) (ByteArray.mk #[122,122,56]) hz),cl hx,rp 2 (bt true),bf (sq_f (moM m) (Prod.snd (psF m (ByteArray.mk #[122,122,57])))) ht,bt true,bf (sq_f (moM m) (Prod.snd (psF m (ByteArray.mk #[122,122,57])))) ht,bt true,rp 3 (bt (Prod.snd (psF m (ByteArray.mk #[122,122,56]))) hk),bt true,bt (Prod.snd (psF m (ByteArray.mk #[122,122,56]))) hk,rp 2 (bt true),cl haw,bt true]) func5
theorem sxH(hy:Pu 10 [.agg [.sl 4 (Da.cs (moD m)),.sl 3 (Cl.cs (moC m)),.sl 12 (In.cs (moI m)),.sl 8 (Ms.cs (moM m)),.sl 6 (Qu.cs (moQ m)),.sl 25 (Df.cs (moF m)++[[.str (ByteArray.mk #[122,122,57]),.nilsl,.int .i64 3,.str (ByteArray.mk #[122,122,56]),.int .i64 0,.nilsl,.nilsl,.nilsl,.nilsl,.int .i64 0,.bool false,.nilsl,.nilsl,.nilsl,.nilsl,.int .i64 0,.str nm0,.nilsl,.nilsl,.int .i64 0,.str nm0,.int .i64 0,.nilsl,.nilsl,.nilsl]])]] (.ret (.int .i64 16)))(ht:sq_f (moM m) (psF m (ByteArray.mk #[122,122,57])).2=false)(hk:(psF m (ByteArray.mk #[122,122,56])).2=false):Pu 5 [.agg (moL m)] (rB true):=
 pu mdL (fun e=>[cl hb,rp 3 (bf false),sl (Df.cs_len (moF m)),rp 2 (bf false),rp 3 (en ((moF m).length:Int) 0 g0),sl (Df.cs_len (moF m)),rp 2 (en ((moF m).length:Int) 0 g0),rp 2 (df (((moF m).length:Int)>60) g6),cl hc,rp 2 (df (((moF m).length:Int)>60) g6),bf false,cl (@spZ (m) (ByteArray.mk #[122,122,57]) hz),lp (S.mk [(0,.v (.agg (moL m))),(1,.lp 1 0),(2,.v (.bool false)),(10,.v (.agg (moL m))),(11,.v (.bool true)),(12,.v (.bool false)),(13,.v (.bool false)),(14,.lp 1 5),(15,vL 25 (Df.cs (moF m))),(16,vI6 ((moF m).length:Int)),(17,.v (.bool (((moF m).length:Int)==0))),(18,.v (.bool (((moF m).length:Int)==0))),(19,.v (.bool (((moF m).length:Int)==0))),(20,.lp 1 5),(21,vL 25 (Df.cs (moF m))),(22,vI6 ((moF m).length:Int)),(23,.v (.bool (decide (((moF m).length:Int)>60)))),(24,.v (.bool (decide (((moF m).length:Int)>60)))),(25,.v (.bool (decide (((moF m).length:Int)>60)))),(26,.v (.agg (moL m))),(27,vI6 0),(28,.v (.bool false)),(29,.v (.bool false)),(32,.v (.agg (moL m))),(33,.v (.tup [pI (Prod.fst (psF m (ByteArray.mk #[122,122,57]))),.bool (Prod.snd (psF m (ByteArray.mk #[122,122,57])))])),(31,.v (.tup [pI (Prod.fst (psF m (ByteArray.mk #[122,122,57]))),.bool (Prod.snd (psF m (ByteArray.mk #[122,122,57])))])),(34,vI6 (Prod.fst (psF m (ByteArray.mk #[122,122,57])))),(35,.v (.bool (Prod.snd (psF m (ByteArray.mk #[122,122,57]))))),(3,vI6 (Prod.fst (psF m (ByteArray.mk #[122,122,57])))),(4,.v (.bool (Prod.snd (psF m (ByteArray.mk #[122,122,57]))))),(5,vI6 0)] [(1,moV m)] e) (@sq (m) haw hb g0 g6 hc hz (Prod.snd (psF m (ByteArray.mk #[122,122,57]))) (e) hM) xr,am (List.length ([]++(fun x=>Prod.snd x) (25,Df.cs (moF m))) * (455+1)<=140737488355328) (by (simp only [List.length_append,List.length_nil,Df.cs_len]; omega)),am ((0:Int)<=0/\0<((Df.cs (moF m)).length:Int)) (by (simp only [Df.cs_len]; omega)),xDf (moF m) 0,cl (@nu1 (1)),am (List.length ([]++(fun x=>Prod.snd x) (25,Df.cs (moF m))++(fun x=>Prod.snd x) (24+1,[splice (splice [.str nm0,.nilsl,pI 0,.str nm0,pI 0,.nilsl,.nilsl,.nilsl,.nilsl,pI 0,.bool false,.nilsl,.nilsl,.nilsl,.nilsl,pI 0,.str nm0,.nilsl,.nilsl,pI 0,.str nm0,pI 0,.nilsl,.nilsl,.nilsl] (Field.offset (Field.mk "Name" 9 0 false "" "" 0)) [.str (dfNm (List.getD (moF m) 0 default))]) (Field.offset (Field.mk "Body" 41 2 false "" "" 40)) [pI 1,.str nm0,pI 1,.sl 7 [],.sl 10 [],.sl 9 [],.sl 9 []]])) * (455+1)<=140737488355328) (by (simp only [List.length_append,List.length_cons,List.length_nil,Df.cs_len]; omega)),am (List.length ([]++(fun x=>Prod.snd x) (25,Df.cs (moF m))) * (455+1)<=140737488355328) (by (simp only [List.length_append,List.length_nil,Df.cs_len]; omega)),am (List.length ([]++(fun x=>Prod.snd x) (25,Df.cs (moF m))++(fun x=>Prod.snd x) (24+1,[splice (splice [.str nm0,.nilsl,pI 0,.str nm0,pI 0,.nilsl,.nilsl,.nilsl,.nilsl,pI 0,.bool false,.nilsl,.nilsl,.nilsl,.nilsl,pI 0,.str nm0,.nilsl,.nilsl,pI 0,.str nm0,pI 0,.nilsl,.nilsl,.nilsl] (Field.offset (Field.mk "Name" 9 0 false "" "" 0)) [.str (ByteArray.mk #[122,122,57])]) (Field.offset (Field.mk "Body" 41 2 false "" "" 40)) (splice (splice [pI 0,.str nm0,pI 0,.nilsl,.nilsl,.nilsl,.nilsl] (Field.offset (Field.mk "Op" 35 0 false "" "" 0)) [pI 3]) (Field.offset (Field.mk "Name" 9 1 false "" "" 8)) [.str (ByteArray.mk #[122,122,56])])])) * (455+1)<=140737488355328) (by (simp only [List.length_append,List.length_cons,List.length_nil,Df.cs_len]; omega)),cl (@spZ (m) (ByteArray.mk #[122,122,56]) hz),cl hx,rp 2 (bt true),bf (sq_f (moM m) (Prod.snd (psF m (ByteArray.mk #[122,122,57])))) ht,bt true,bf (sq_f (moM m) (Prod.snd (psF m (ByteArray.mk #[122,122,57])))) ht,bt true,rp 2 (bf (Prod.snd (psF m (ByteArray.mk #[122,122,56]))) hk),cl hy,bf (Prod.snd (psF m (ByteArray.mk #[122,122,56]))) hk,bt true,bf (Prod.snd (psF m (ByteArray.mk #[122,122,56]))) hk,rp 2 (bt true),cl haw,bt true]) func5
end
def spX(s:BA):Df := .mk s [] (.mk 1 nm0 1 [] [] [] []) 0 false [] [] [] [] default []
def spY:Df := .mk zz9 [] (.mk 3 zz8 0 [] [] [] []) 0 false [] [] [] [] default []
theorem wk_snoc{a b:List PV}(h:WkL a b):∀l:List (List PV),WkLL (l++[a]) (l++[b])
 | [] => .c h (.r _)
 | _::r => .c (.r _) (wk_snoc h r)
abbrev rawP:List PV:=[.nilsl,.nilsl,.nilsl,.nilsl,.int .i64 0,.str nm0,.nilsl,.nilsl,.int .i64 0,.str nm0,.int .i64 0,.nilsl,.nilsl,.nilsl]
theorem wk_P:WkL rawP [.sl 1 [],.sl 2 [],.sl 2 [],.sl 10 [],.int .i64 0,.str nm0,.sl 9 [],.sl 1 [],.int .i64 0,.str nm0,.int .i64 0,.sl 4 [],.sl 4 [],.sl 4 []]:=
 .c (.n _) (.c (.n _) (.c (.n _) (.c (.n _) (.c (.r _) (.c (.r _) (.c (.n _) (.c (.n _) (.c (.r _) (.c (.r _) (.c (.r _) (.c (.n _) (.c (.n _) (.c (.n _) (.r _))))))))))))))
theorem spX_L(s:BA):dfL (spX s)=[.str s,.sl 1 [],.int .i64 1,.str nm0,.int .i64 1,.sl 7 [],.sl 10 [],.sl 9 [],.sl 9 [],.int .i64 0,.bool false,.sl 1 [],.sl 2 [],.sl 2 [],.sl 10 [],.int .i64 0,.str nm0,.sl 9 [],.sl 1 [],.int .i64 0,.str nm0,.int .i64 0,.sl 4 [],.sl 4 [],.sl 4 []]:=rfl
theorem spY_L:dfL spY=[.str zz9,.sl 1 [],.int .i64 3,.str zz8,.int .i64 0,.sl 7 [],.sl 10 [],.sl 9 [],.sl 9 [],.int .i64 0,.bool false,.sl 1 [],.sl 2 [],.sl 2 [],.sl 10 [],.int .i64 0,.str nm0,.sl 9 [],.sl 1 [],.int .i64 0,.str nm0,.int .i64 0,.sl 4 [],.sl 4 [],.sl 4 []]:=rfl
theorem sp_arg(m:Mo)(z:Df)(a:List PV)(ha:WkL a (dfL z)){r:CRes}(h:Pu 10 [.agg (moL (moW m (moF m++[z])))] r) :
  Pu 10 [.agg [.sl 4 (Da.cs (moD m)),.sl 3 (Cl.cs (moC m)),.sl 12 (In.cs (moI m)),.sl 8 (Ms.cs (moM m)),.sl 6 (Qu.cs (moQ m)),.sl 25 (Df.cs (moF m)++[a])]] r:=by
 have e:moL (moW m (moF m++[z]))=[.sl 4 (Da.cs (moD m)),.sl 3 (Cl.cs (moC m)),.sl 12 (In.cs (moI m)),.sl 8 (Ms.cs (moM m)),.sl 6 (Qu.cs (moQ m)),.sl 25 (Df.cs (moF m)++[dfL z])]:=by
  rw [<-Df.cs_snoc]; rfl
 rw [e] at h
 exact Ob.pur_arg (.c (.a (.c (.r _) (.c (.r _) (.c (.r _) (.c (.r _) (.c (.r _) (.c (.s (wk_snoc ha _)) (.r _)))))))) (.r _)) h
theorem sp_bulk(m:Mo)(z:Df):bulkPs (moL (moW m (moF m++[z])))=bulkPs (moL m)+bulkPs (dfL z):=by
 have h:=moL_W m (moF m++[z])
 have hp:(moF m++[z]).Perm (z::moF m):=List.perm_append_comm
 have h2:=dfs_perm hp
 have h3:bulkPss (Df.cs (z::moF m))=bulkPs (dfL z)+bulkPss (Df.cs (moF m)):=by simp only [Df.cs,bulkPss]
 omega
theorem sp_chk(m:Mo)(hz:Sz m)(hf:¬((moF m).length:Int)>60)(z:Df)(hb:bulkPs (moL m)+bulkPs (dfL z)<=10000000)(a:List PV)(ha:WkL a (dfL z)) :
  Pu 10 [.agg [.sl 4 (Da.cs (moD m)),.sl 3 (Cl.cs (moC m)),.sl 12 (In.cs (moI m)),.sl 8 (Ms.cs (moM m)),.sl 6 (Qu.cs (moQ m)),.sl 25 (Df.cs (moF m)++[a])]] (.ret (.int .i64 (moE geM (moW m (moF m++[z]))))):=
 sp_arg m z a ha (chkT _ ⟨hz.hc,hz.hm,by show (moF m++[z]).length<=_; rw [List.length_append,List.length_singleton]; omega,hz.ht,hz.hda,hz.hk⟩ (by rw [sp_bulk]; exact hb))
theorem twE_pos{s:BA}{ks:List BA}(h:s∈ks):twE s ks=4:=by unfold twE; rw [iP ((memB_iff s ks).2 h)]
theorem xF_mem(m:Mo)(h:(xF geM m).1=0)(x:Df)(hx:x∈moF m):dfNm x∈(xF geM m).2.d:=by
 unfold xF at h ⊢
 exact (frS_mem dfNm (·.d) (geF m) (gsF m) (fun x st t h=>gsF_mem m x st t h) (moF m) _ _ h).2 (.inl (List.mem_map_of_mem hx))
theorem frS_inv{α:Type}(ge:α->St->Int)(gs:α->St->St)(t:BA):∀ (l:List α),(∀x∈l,∀st,t∈(gs x st).d->t∈st.d)->∀st,t∈(frS ge gs l st).2.d->t∈st.d
 | [],_,_,h=>h
 | x::r,hx,st,h=>by
  unfold frS at h
  by_cases h0:ge x st=0
  ·rw [iP h0] at h
   exact hx x (List.mem_cons_self ..) _ (frS_inv ge gs t r (fun y hy=>hx y (List.mem_cons_of_mem _ hy)) _ h)
  ·rw [iN h0] at h
   exact hx x (List.mem_cons_self ..) _ h
theorem frL_mem{α:Type}(ge:α->List BA->Int)(nm:α->BA)(t:BA):∀ (l:List α) (k:List BA),t∈(frL ge nm l k).2->t∈k∨∃x∈l,nm x=t
 | [],_,h => .inl h
 | x::r,k,h=>by
  unfold frL at h
  have hk:t∈adK (nm x) k->t∈k∨∃y∈x::r,nm y=t:=fun h=>by
   rcases (adK_mem _ _ _).1 h with h | h
   ·exact .inr ⟨x,List.mem_cons_self ..,h.symm⟩
   ·exact .inl h
  by_cases h0:ge x k=0
  ·rw [iP h0] at h
   rcases frL_mem ge nm t r _ h with h | ⟨y,hy,e⟩
   ·exact hk h
   ·exact .inr ⟨y,List.mem_cons_of_mem _ hy,e⟩
  ·rw [iN h0] at h; exact hk h
theorem clI_some(s:BA):∀l:List Cl,clI s l<l.length↔∃c∈l,∃p∈clM c,pmNm p=s
 | []=>by simp [clI]
 | c::r=>by
  have ih:=clI_some s r
  have h1:=ix_some pmNm s (clM c)
  by_cases h:ix pmNm s (clM c)<(clM c).length
  ·simp only [clI,h,if_true,List.length_cons,List.mem_cons,exists_eq_or_imp]
   exact ⟨fun _ => .inl (h1.1 h),fun _=>by omega⟩
  ·simp only [clI,h,if_false,List.length_cons,List.mem_cons,exists_eq_or_imp,Nat.add_lt_add_iff_right]
   rw [ih]
   exact ⟨.inr,fun k=>k.resolve_left fun k=>h (h1.2 k)⟩
theorem psF_no{m:Mo}{s:BA}(h:(psF m s).2=false):(¬ ∃x∈moF m,dfNm x=s)/\¬ ∃c∈moC m,∃p∈clM c,pmNm p=s:=by
 unfold psF at h
 by_cases h1:ix dfNm s (moF m)<(moF m).length
 ·rw [iP h1] at h; exact absurd h sM
 ·rw [iN h1] at h
  by_cases h2:clI s (moC m)<(moC m).length
  ·rw [iP h2] at h; exact absurd h sM
  ·exact ⟨fun k=>h1 ((ix_some dfNm s _).2 k),fun k=>h2 ((clI_some s _).2 k)⟩
theorem clK_mem(m:Mo)(y:Cl)(c d:List BA)(t:BA)(h:t∈clK m y c d):t∈d∨∃p∈clM y,pmNm p=t:=by
 unfold clK at h
 by_cases h0:cl0 m y c=0
 ·rw [iP h0] at h; exact frL_mem _ _ _ _ _ h
 ·rw [iN h0] at h; exact .inl h
theorem xQ_no(m:Mo)(t:BA)(hp:(psF m t).2=false)(hM:∀x∈moM m,¬msNm x=t):¬t∈(xQ geM m).2.d:=by
 intro h
 have hC:=(psF_no hp).2
 unfold xQ at h
 have h:=frS_inv (geQ m) (gsQ m) t (moQ m) (fun x _ st h=>h) _ h
 replace h:t∈(xM geM m).2.d:=h
 unfold xM at h
 have h:=frS_inv (geM m) (gsM m) t (moM m) (fun x hx st h=>by
  rcases (adK_mem (msNm x) t st.d).1 h with e | e
  ·exact absurd e.symm (hM x hx)
  ·exact e) _ h
 replace h:t∈(xC m).2.d:=h
 unfold xC at h
 have h:=frS_inv (geC m) (gsC m) t (moC m) (fun x hx st h=>by
  rcases clK_mem m x st.c st.d t h with e | ⟨p,hq,e⟩
  ·exact e
  ·exact absurd ⟨x,hx,p,hq,e⟩ hC) _ h
 replace h:t∈(xD m).2.d:=h
 unfold xD at h
 have h:=frS_inv (geD m) (gsD m) t (moD m) (fun x _ st h=>h) _ h
 exact absurd h (by simp [st0])
theorem sq_no:∀ (l:List Ms) (z:Bool),sq_f l z=false->z=false/\∀x∈l,¬msNm x=zz9
 | [],z,h=>⟨h,fun _ h=>absurd h sM⟩
 | x::r,z,h=>by
  unfold sq_f at h
  cases z with
  | true=>rw [iP rfl] at h; exact absurd (sq_no r true h).1 sM
  | false=>
   rw [iN sM] at h
   obtain ⟨h1,h2⟩:=sq_no r _ h
   refine ⟨rfl,fun y hy=>?_⟩
   rcases List.mem_cons.1 hy with e | e
   ·subst e; intro e; rw [e] at h1; exact absurd h1 (by show ¬(zz9.toList==zz9.toList)=false; simp)
   ·exact h2 y e
theorem sp_twice(m:Mo)(hf:¬((moF m).length:Int)>60)(h:moE geM m=0)(x:Df)(hx:x∈moF m):moE geM (moW m (moF m++[spX (dfNm x)]))=4:=by
 rw [one_more geM (fun _ _ h=>geM_c h) (m:=m) (m2:=moW m (moF m++[spX (dfNm x)])) (z:=spX (dfNm x)) rfl rfl rfl rfl rfl rfl oM (fun _=>⟨x,hx,rfl⟩) h]
 have h6:=((moE_zero geM m).1 h).2.2.2.2.2.2
 have h7:=((xF_zero geM m).1 h6).1 x hx
 unfold geF dfE2
 rw [show dfNm (spX (dfNm x))=dfNm x from rfl,iP h7.1,twE_pos (xF_mem m h6 x hx),iN dD]
theorem spY_8(m:Mo):df8_v11 m spY [] default=0:=rfl
theorem spY_t:¬(dfTy spY=true∨emT_r0 (dfT spY)=false):=by
 intro h
 rcases h with h | h
 ·exact absurd h dD
 ·revert h
  show ¬emT_r0 default=false
  unfold emT_r0
  simp [psz_r0,tpO,tpNm,tpA,tpNs,tpPs,tpP,default,instInhabitedTp,prO,prNm,prN,prK,isNil]
theorem spY_s:fi1 (syE (dfB spY))=0:=by decide
theorem spY_k(m:Mo)(hk:(psF m zz8).2=false):(psF (moW m (moF m++[spY])) zz8).2=false:=by
 have h:=psF_no hk
 unfold psF
 rw [iN (fun k=>by
  obtain ⟨x,hx,e⟩:=(ix_some dfNm zz8 _).1 k
  rcases List.mem_append.1 hx with hx | hx
  ·exact h.1 ⟨x,hx,e⟩
  ·rw [List.mem_singleton.1 hx] at e; exact absurd e dD),show moC (moW m (moF m++[spY]))=moC m from rfl,iN (fun k=>h.2 ((clI_some zz8 _).1 k))]
theorem spY_n(ε:En)(hk:(ε.ps zz8).2=false):nqF ε [] (dfB spY) []=16:=by
 have e1:vaE ε.ps [] (dfB spY)=16:=by
  unfold vaE
  rw [iP ⟨.inl rfl,by decide⟩]
  show fi2 (whE (!(ε.ps zz8).2) 16) _=16
  rw [hk]; rfl
 have e2:nq3 ε [] [] (dfB spY)=16:=by
  have e3:nq1 ε [] [] (dfB spY)=16:=by unfold nq1; rw [e1]; rfl
  unfold nq3 nq2
  rw [iN (fun k=>absurd k.2 dD),e3]; rfl
 show nqB ε [] _ (dfB spY) []=16
 unfold nqB
 rw [e2]; rfl
theorem sp_unknown(m:Mo)(hf:¬((moF m).length:Int)>60)(h:moE geM m=0)(hp:(psF m zz9).2=false)(hM:∀x∈moM m,¬msNm x=zz9)(hk:(psF m zz8).2=false):moE geM (moW m (moF m++[spY]))=16:=by
 rw [one_more geM (fun _ _ h=>geM_c h) (m:=m) (m2:=moW m (moF m++[spY])) (z:=spY) rfl rfl rfl rfl rfl rfl oM (fun k=>by rw [show dfNm spY=zz9 from rfl,hp] at k; exact absurd k dD) h]
 have h6:=((moE_zero geM m).1 h).2.2.2.2.2.2
 have hn:¬dfNm spY∈(xF geM m).2.d:=fun k=>by
  unfold xF at h6 k
  rcases (frS_mem dfNm (·.d) (geF m) (gsF m) (fun x st t h=>gsF_mem m x st t h) (moF m) _ _ h6).1 k with k | k
  ·obtain ⟨x,hx,e⟩:=List.mem_map.1 k
   exact (psF_no hp).1 ⟨x,hx,e⟩
  ·exact xQ_no m zz9 hp hM k
 unfold geF dfE2
 rw [iP rF,iP ((twE_zero _ _).2 hn)]
 unfold dfR
 rw [iP (spY_8 _),iN spY_t,iN dD]
 unfold xpE
 rw [iP spY_s]
 exact spY_n _ (spY_k m hk)
theorem spX_b{n:Nat}(y:Df)(h1:bulkPs (dfL y)<=n):bulkPs (dfL (spX (dfNm y)))<=n+1000:=by
 have h2:bulkP (.str (dfNm y))<=bulkPs (dfL y):=Nat.le_add_right _ _
 have h3:bulkPs (dfL (spX (dfNm y)))<=bulkP (.str (dfNm y))+1000:=by
  rw [spX_L]
  exact Nat.add_le_add_left dD _
 omega
theorem spY_b:bulkPs (dfL spY)<=1000000:=by rw [spY_L]; decide
theorem spoils_true(m:Mo)(hs:bulkPs (moL m)<=1048576):Pu 5 [.agg (moL m)] (.ret (.bool true)):=by
 obtain ⟨b,hb⟩:=small_ok m hs
 cases b with
 | false=>exact sxA m awake_ok hb
 | true=>
  have hz:=sz_ok m hs
  by_cases g0:(moF m).length=0
  ·exact sxB m awake_ok hb g0
  ·have g0':¬((moF m).length:Int)=0:=by omega
   by_cases g6:((moF m).length:Int)>60
   ·exact sxC m awake_ok hb g0' g6
   ·have hc:=chkT m hz oM
    by_cases h:moE geM m=0
    ·have hM:(moM m).length<=1000000000:=by have:=mo_bulk m; have:=Ms.bulk (moM m); omega
     rw [h] at hc
     have h0:0<(moF m).length:=by omega
     have hm0:(moF m).getD 0 default∈moF m:=getD_mem h0
     have bX:=spX_b _ (Df.mem hm0)
     have h2:=mo_bulk m
     have hx:=sp_chk m hz g6 (spX (dfNm ((moF m).getD 0 default))) oM (_ :: .nilsl :: .int .i64 1 :: .str nm0 :: .int .i64 1 :: .sl 7 [] :: .sl 10 [] :: .sl 9 [] :: .sl 9 [] :: .int .i64 0 :: .bool false::rawP)
      (by rw [spX_L]; exact .c (.r _) (.c (.n _) (.c (.r _) (.c (.r _) (.c (.r _) (.c (.r _) (.c (.r _) (.c (.r _) (.c (.r _) (.c (.r _) (.c (.r _) wk_P)))))))))))
     rw [sp_twice m g6 h _ hm0] at hx
     have hy:=sp_chk m hz g6 spY (by have:=spY_b; omega) (.str zz9 :: .nilsl :: .int .i64 3 :: .str zz8 :: .int .i64 0 :: .nilsl :: .nilsl :: .nilsl :: .nilsl :: .int .i64 0 :: .bool false::rawP)
      (by rw [spY_L]; exact .c (.r _) (.c (.n _) (.c (.r _) (.c (.r _) (.c (.r _) (.c (.n _) (.c (.n _) (.c (.n _) (.c (.n _) (.c (.r _) (.c (.r _) wk_P)))))))))))
     cases ht:sq_f (moM m) (psF m zz9).2 with
     | true=>exact sxF m awake_ok hb g0' g6 hc hz hM hx ht
     | false=>
      cases hk:(psF m zz8).2 with
      | true=>exact sxG m awake_ok hb g0' g6 hc hz hM hx ht hk
      | false=>
       obtain ⟨h1,h2⟩:=sq_no _ _ ht
       rw [sp_unknown m g6 h h1 h2 hk] at hy
       exact sxH m awake_ok hb g0' g6 hc hz hM hx hy ht hk
    ·exact sxD m awake_ok hb g0' g6 _ hc h
end Go.Proofs.YtmllcplaohkjnaaGreatDoor
