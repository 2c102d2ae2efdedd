/- Values of Go as plain data, an evaluator over them, and what the functions of the program return; part Ym. -/
import Derived.Test.YthchpmnkecoafaaGreatDoorYl
import Derived.Test.YthchpmnkecoafaaGreatDoorYg
import Derived.Test.YthchpmnkecoafaaGreatDoorXh
import Derived.Test.YthchpmnkecoafaaGreatDoorYa
set_option linter.unusedSectionVars false
set_option linter.unusedSimpArgs false
set_option linter.unusedVariables false
namespace Go.Proofs.YthchpmnkecoafaaGreatDoor
open Go.Proofs.Tryz
open Go.Pv Go.Proofs.Tryz
set_option maxRecDepth 100000
theorem GV(l:List Sy)(a b:BA)(r:List BA):Sy.cs (l++[.mk a r b])=Sy.cs l++[[.str a,.sl 1 (A7 r),.str b]]:=Sy.A2 l (.mk a r b)
theorem Vz:∀ (l:List Tp) (acc:List BA),CX l acc=acc++(l.filter K7).map Pw
 | [],acc=>by simp [CX]
 | x::r,acc=>by
  rw [CX]
  by_cases h:K7 x=true
  ·rw [iP h,Vz r,List.filter_cons_of_pos h,List.map_cons,List.append_assoc]; rfl
  ·rw [iN h,Vz r,List.filter_cons_of_neg h]
theorem fI{m:Mo}{i:Nat}(hs:A6 (Ci m)<=10000000)(h:i<(AY m).length):A6 (Ay (AN ((AY m).getD i default)))<=10000000:=by
 have h1:=Jj m
 have h2:=Df.mem (BF h)
 have h3:=I8 ((AY m).getD i default)
 omega
theorem gEa{l:List Tp}(h:l.length<=1000000000):(CX l []).length<=1000000000:=by
 rw [Vz,List.nil_append,List.length_map]
 exact Nat.le_trans (List.length_filter_le _ _) h
theorem eA{m:Mo}{i:Nat}(hs:A6 (Ci m)<=10000000)(h:i<(AY m).length):(A8 (AN ((AY m).getD i default))).length<=1000000000:=by
 have h1:=fI hs h
 have h2:=BM (AN ((AY m).getD i default))
 have h3:=Tp.BT (A8 (AN ((AY m).getD i default)))
 omega
theorem Sf:∀ (l:List BA) (n:Nat),List.take n (A7 l)=A7 (l.take n)
 | [],n=>by simp [A7]
 | x::r,0=>by simp [A7]
 | x::r,n+1=>by rw [show A7 (x::r)=[.str x]::A7 r by simp [A7],List.take_succ_cons,List.take_succ_cons,Sf r n]; simp [A7]
theorem zN{m:Mo}{i:Nat}(hs:A6 (Ci m)<=10000000)(h:i<(AY m).length):(CX (A8 (AN ((AY m).getD i default))) []).length<=1000000000:=gEa (eA hs h)
theorem p5{m:Mo}{i:Nat}(hs:A6 (Ci m)<=10000000)(h:i<(AY m).length):((A8 (AN ((AY m).getD i default))).length:Int) - 1<=9223372036854775807:=by have:=eA hs h; omega
theorem p6{m:Mo}{i:Nat}(hs:A6 (Ci m)<=10000000)(h:i<(AY m).length):((A8 (AN ((AY m).getD i default))).length:Int) - 1+1<=9223372036854775807:=by have:=eA hs h; omega
theorem Ac1(l:List BA)(n:Nat)(hn:l.length<=1000000000):Pu 30 [.sl 1 (List.drop 0 (List.take n (A7 l)))] (.own 74 1 (A7 (l.take n))):=by
 have e:List.drop 0 (List.take n (A7 l))=A7 (l.take n):=by
  rw [List.drop_zero]; exact Sf l n
 rw [e]
 exact x7 _ (Nat.le_trans (List.length_take_le' _ _) hn)
abbrev p7(m:Mo)(j:Int)(out:List Sy)(e:Ext):S:=S.mk [(2,.v .A4),(3,.uniq 77 3 (Sy.cs out)),(16,vL 25 (Df.cs (AY m))),(17,A1 ((AY m).length:Int)),(18,A1 j)] [] e
def Ej  : List Df->(List Sy)->(List Sy)
 | [],out=>(out)
 | el::r,out=>(if Kv el=2 then (if ((Ez el).length:Int)=0 then Ej  r (out) else (if AA (AN el)=6 then (if ((A8 (AN el)).length:Int)=0 then Ej  r (out) else (if ((CX (A8 (AN el)) []).length:Int)=((A8 (AN el)).length:Int) - 1+1 then Ej  r (out++[Sy.mk (CZ el) (List.take (Int.toNat (((A8 (AN el)).length:Int) - 1)) (CX (A8 (AN el)) [])) (List.getD (CX (A8 (AN el)) []) (Int.toNat (((A8 (AN el)).length:Int) - 1)) Ah)]) else Ej  r (out))) else Ej  r (out))) else Ej  r (out))
def eB(m:Mo)(e:Ext)(p:(List Sy)):A5 × S:=(.exit 0,S.mk [(2,.v .A4),(3,.uniq 77 3 (Sy.cs p)),(16,vL 25 (Df.cs (AY m))),(17,A1 ((AY m).length:Int))] [] e)
theorem evb(m:Mo)(zO:(Ba m).length<=2000000)(hs:A6 (Ci m)<=10000000)(out:List Sy)(e:Ext)(hN:(AY m).length<=1000000000)(hv:List.length out<=List.length (Ba m)+0):(Ob.loop 96 (Ai f12 0) (p7 m 0 out e) (eB m e (Ej  ((AY m))  out)).1 (eB m e (Ej  ((AY m))  out)).2).ok prog:=by
 refine Ds ((AY m).length) (fun j out=>p7 m j out e) (fun i out=>Ej  (List.drop i ((AY m)))  out) (eB m e) (fun i out=>(out.length<=(Ba m).length+i)) kR ?_ out (by first | exact hv | omega)
 rintro i out hi hv
 try simp only at hv
 rcases Nat.lt_or_ge i ((AY m).length) with Ag | CO
 ·have hd:=AH Ag
  by_cases h0:Kv (List.getD (AY m) i default)=2
  ·by_cases h1:((Ez (List.getD (AY m) i default)).length:Int)=0
   ·exact lN Ad [dt ((i:Int)<((AY m).length:Int)),am ((0:Int)<=(i:Int)/\(i:Int)<((Df.cs (AY m)).length:Int)) (by (simp only [Df.A0]; omega)),WY (AY m) i Ag,rp 3 (Bi h0),sl (A3 (Ez (List.getD (AY m) i default))),rp 2 (Bi h0),rp 4 (Bh h1),rp 6 (bt true),wr ((i:Int)+1)] Ag (out) (by first | assumption | omega | (apply fI <;> first | assumption | omega | decide) | (apply zN <;> first | assumption | omega | decide) | (apply eA <;> first | assumption | omega | decide) | (apply p5 <;> first | assumption | omega | decide) | (apply p6 <;> first | assumption | omega | decide) | (simp only [List.length_append,List.length_cons,List.length_nil] at *; omega) | simp_all) (by rw [hd,Ej,iP h0,iP h1])
   ·by_cases h2:AA (AN (List.getD (AY m) i default))=6
    ·by_cases h3:((A8 (AN (List.getD (AY m) i default))).length:Int)=0
     ·exact lN Ad [dt ((i:Int)<((AY m).length:Int)),am ((0:Int)<=(i:Int)/\(i:Int)<((Df.cs (AY m)).length:Int)) (by (simp only [Df.A0]; omega)),WY (AY m) i Ag,rp 3 (Bi h0),sl (A3 (Ez (List.getD (AY m) i default))),rp 2 (Bi h0),rp 4 (Aw h1),rp 3 (Bi h2),sl (Tp.A0 (A8 (AN (List.getD (AY m) i default)))),rp 2 (Bi h2),Bh h3,wr ((i:Int)+1)] Ag (out) (by first | assumption | omega | (apply fI <;> first | assumption | omega | decide) | (apply zN <;> first | assumption | omega | decide) | (apply eA <;> first | assumption | omega | decide) | (apply p5 <;> first | assumption | omega | decide) | (apply p6 <;> first | assumption | omega | decide) | (simp only [List.length_append,List.length_cons,List.length_nil] at *; omega) | simp_all) (by rw [hd,Ej,iP h0,iN h1,iP h2,iP h3])
     ·by_cases h4:((CX (A8 (AN (List.getD (AY m) i default))) []).length:Int)=((A8 (AN (List.getD (AY m) i default))).length:Int) - 1+1
      ·exact lS Ad [dt ((i:Int)<((AY m).length:Int)),am ((0:Int)<=(i:Int)/\(i:Int)<((Df.cs (AY m)).length:Int)) (by (simp only [Df.A0]; omega)),WY (AY m) i Ag,rp 3 (Bi h0),sl (A3 (Ez (List.getD (AY m) i default))),rp 2 (Bi h0),rp 4 (Aw h1),rp 3 (Bi h2),sl (Tp.A0 (A8 (AN (List.getD (AY m) i default)))),rp 2 (Bi h2),Aw h3,sl (Tp.A0 (A8 (AN (List.getD (AY m) i default)))),lp (S.mk [(2,.v .A4),(3,.uniq 77 3 (Sy.cs out)),(16,vL 25 (Df.cs (AY m))),(17,A1 ((AY m).length:Int)),(18,A1 (i:Int)),(19,.v (.bool (decide ((i:Int)<((AY m).length:Int))))),(20,.v (.ro (Kb (List.getD (AY m) i default)) 0)),(21,.v (.agg (Kb (List.getD (AY m) i default)))),(5,.lp 5 0),(22,.lp 5 11),(23,.lp 5 15),(24,.v (.agg (Ay (AN (List.getD (AY m) i default))))),(6,.lp 6 0),(25,.lp 5 9),(26,A1 (Kv (List.getD (AY m) i default))),(27,.v (.bool (Kv (List.getD (AY m) i default) != 2))),(28,.v (.bool (Kv (List.getD (AY m) i default) != 2))),(29,.lp 5 1),(30,vL 1 (A7 (Ez (List.getD (AY m) i default)))),(31,A1 ((Ez (List.getD (AY m) i default)).length:Int)),(32,.v (.bool (((Ez (List.getD (AY m) i default)).length:Int)==0))),(33,.v (.bool (((Ez (List.getD (AY m) i default)).length:Int)==0))),(34,.v (.bool (((Ez (List.getD (AY m) i default)).length:Int)==0))),(35,.lp 6 0),(36,A1 (AA (AN (List.getD (AY m) i default)))),(37,.v (.bool (AA (AN (List.getD (AY m) i default)) != 6))),(38,.v (.bool (AA (AN (List.getD (AY m) i default)) != 6))),(39,.v (.bool (AA (AN (List.getD (AY m) i default)) != 6))),(40,.lp 6 2),(41,vL 9 (Tp.cs (A8 (AN (List.getD (AY m) i default))))),(42,A1 ((A8 (AN (List.getD (AY m) i default))).length:Int)),(43,.v (.bool (((A8 (AN (List.getD (AY m) i default))).length:Int)==0))),(44,.v (.bool (((A8 (AN (List.getD (AY m) i default))).length:Int)==0))),(45,.lp 5 0),(46,vS (CZ (List.getD (AY m) i default))),(47,.v (.agg [.str (CZ (List.getD (AY m) i default)),.A4,.str Ah])),(7,.lp 7 0),(48,.lp 6 2),(49,vL 9 (Tp.cs (A8 (AN (List.getD (AY m) i default))))),(50,A1 ((A8 (AN (List.getD (AY m) i default))).length:Int)),(51,A1 0)] [(5,dfV (List.getD (AY m) i default)),(6,Bj (AN (List.getD (AY m) i default))),(7,[vS (CZ (List.getD (AY m) i default)),.v .A4,vS Ah])] e) (@eva (m) (out) (List.getD (AY m) i default) ((i:Int)) (e) (by (apply fI <;> first | assumption | omega | decide)) ([]) (by (apply eA <;> first | assumption | omega | decide)) (by (simp only [List.length_nil]; omega))) ⟨⟨W,W,W,W,W,W,W,W,W,W,An⟩,⟨⟨W,W,W,W,W,W,W,W,W,An⟩,⟨W,Wq,Wq,An⟩,An⟩,rfl⟩,sl (Tp.A0 (A8 (AN (List.getD (AY m) i default)))),wr (((A8 (AN (List.getD (AY m) i default))).length:Int) - 1) oM (by (apply p5 <;> first | assumption | omega | decide)),ai (↑((fun x=>List.length (Prod.snd x)) (1,A7 (CX (A8 (AN (List.getD (AY m) i default))) []))):Int) ((CX (A8 (AN (List.getD (AY m) i default))) []).length:Int) (by (simp only [List.length_nil,A3]; done)),wr (((A8 (AN (List.getD (AY m) i default))).length:Int) - 1+1) oM (by (apply p6 <;> first | assumption | omega | decide)),Bh h4,am ((0:Int)<=((A8 (AN (List.getD (AY m) i default))).length:Int) - 1/\((A8 (AN (List.getD (AY m) i default))).length:Int) - 1<((A7 (CX (A8 (AN (List.getD (AY m) i default))) [])).length:Int)) (by (simp only [List.length_nil,A3]; omega)),F5 (CX (A8 (AN (List.getD (AY m) i default))) []) (Int.toNat (((A8 (AN (List.getD (AY m) i default))).length:Int) - 1)),kp,am ((0:Int)<=(0:Int)/\(0:Int)<=((A8 (AN (List.getD (AY m) i default))).length:Int) - 1/\((A8 (AN (List.getD (AY m) i default))).length:Int) - 1<=((A7 (CX (A8 (AN (List.getD (AY m) i default))) [])).length:Int)) (by (simp only [List.length_nil,A3]; omega)),cl (@Ac1 (CX (A8 (AN (List.getD (AY m) i default))) []) (Int.toNat (((A8 (AN (List.getD (AY m) i default))).length:Int) - 1)) (by (apply zN <;> first | assumption | omega | decide))),am (List.length (Sy.cs out++(fun x=>Prod.snd x) (2+1,[[.str (CZ (List.getD (AY m) i default)),.sl 1 (A7 (List.take (Int.toNat (((A8 (AN (List.getD (AY m) i default))).length:Int) - 1)) (CX (A8 (AN (List.getD (AY m) i default))) []))),.str (List.getD (CX (A8 (AN (List.getD (AY m) i default))) []) (Int.toNat (((A8 (AN (List.getD (AY m) i default))).length:Int) - 1)) Ah)]])) * (55+1)<=140737488355328) (by (simp only [List.length_append,List.length_cons,List.length_nil,A3,Sy.A0,Int.toNat_natCast]; omega)),wr ((i:Int)+1)] [2,3,16,17,18] [] Ag (out++[Sy.mk (CZ (List.getD (AY m) i default)) (List.take (Int.toNat (((A8 (AN (List.getD (AY m) i default))).length:Int) - 1)) (CX (A8 (AN (List.getD (AY m) i default))) [])) (List.getD (CX (A8 (AN (List.getD (AY m) i default))) []) (Int.toNat (((A8 (AN (List.getD (AY m) i default))).length:Int) - 1)) Ah)]) (S.mk [(2,.v .A4),(3,.uniq 77 3 (Sy.cs out++[[PV.str (CZ (List.getD (AY m) i default)),.sl 1 (A7 (List.take (Int.toNat (((A8 (AN (List.getD (AY m) i default))).length:Int) - 1)) (CX (A8 (AN (List.getD (AY m) i default))) []))),.str (List.getD (CX (A8 (AN (List.getD (AY m) i default))) []) (Int.toNat (((A8 (AN (List.getD (AY m) i default))).length:Int) - 1)) Ah)]])),(16,vL 25 (Df.cs (AY m))),(17,A1 ((AY m).length:Int)),(18,A1 ((i:Int)+1))] [] e) ⟨⟨W,(.inl (by first | (simp only [List.nil_append,AX,AM,Pr.A2,Tp.A2,Ex.A2,Vr.A2,Df.A2,Sy.A2,Ho.A2,DC,GV]; done) | (simp only [List.nil_append,AX,AM,Pr.A2,Tp.A2,Ex.A2,Vr.A2,Df.A2,Sy.A2,Ho.A2,DC,GV]; rfl))),W,W,W,An⟩,trivial,rfl⟩ (by first | assumption | omega | (apply fI <;> first | assumption | omega | decide) | (apply zN <;> first | assumption | omega | decide) | (apply eA <;> first | assumption | omega | decide) | (apply p5 <;> first | assumption | omega | decide) | (apply p6 <;> first | assumption | omega | decide) | (simp only [List.length_append,List.length_cons,List.length_nil] at *; omega) | simp_all) (by rw [hd,Ej,iP h0,iN h1,iP h2,iN h3,iP h4])
      ·exact lN Ad [dt ((i:Int)<((AY m).length:Int)),am ((0:Int)<=(i:Int)/\(i:Int)<((Df.cs (AY m)).length:Int)) (by (simp only [Df.A0]; omega)),WY (AY m) i Ag,rp 3 (Bi h0),sl (A3 (Ez (List.getD (AY m) i default))),rp 2 (Bi h0),rp 4 (Aw h1),rp 3 (Bi h2),sl (Tp.A0 (A8 (AN (List.getD (AY m) i default)))),rp 2 (Bi h2),Aw h3,sl (Tp.A0 (A8 (AN (List.getD (AY m) i default)))),lp (S.mk [(2,.v .A4),(3,.uniq 77 3 (Sy.cs out)),(16,vL 25 (Df.cs (AY m))),(17,A1 ((AY m).length:Int)),(18,A1 (i:Int)),(19,.v (.bool (decide ((i:Int)<((AY m).length:Int))))),(20,.v (.ro (Kb (List.getD (AY m) i default)) 0)),(21,.v (.agg (Kb (List.getD (AY m) i default)))),(5,.lp 5 0),(22,.lp 5 11),(23,.lp 5 15),(24,.v (.agg (Ay (AN (List.getD (AY m) i default))))),(6,.lp 6 0),(25,.lp 5 9),(26,A1 (Kv (List.getD (AY m) i default))),(27,.v (.bool (Kv (List.getD (AY m) i default) != 2))),(28,.v (.bool (Kv (List.getD (AY m) i default) != 2))),(29,.lp 5 1),(30,vL 1 (A7 (Ez (List.getD (AY m) i default)))),(31,A1 ((Ez (List.getD (AY m) i default)).length:Int)),(32,.v (.bool (((Ez (List.getD (AY m) i default)).length:Int)==0))),(33,.v (.bool (((Ez (List.getD (AY m) i default)).length:Int)==0))),(34,.v (.bool (((Ez (List.getD (AY m) i default)).length:Int)==0))),(35,.lp 6 0),(36,A1 (AA (AN (List.getD (AY m) i default)))),(37,.v (.bool (AA (AN (List.getD (AY m) i default)) != 6))),(38,.v (.bool (AA (AN (List.getD (AY m) i default)) != 6))),(39,.v (.bool (AA (AN (List.getD (AY m) i default)) != 6))),(40,.lp 6 2),(41,vL 9 (Tp.cs (A8 (AN (List.getD (AY m) i default))))),(42,A1 ((A8 (AN (List.getD (AY m) i default))).length:Int)),(43,.v (.bool (((A8 (AN (List.getD (AY m) i default))).length:Int)==0))),(44,.v (.bool (((A8 (AN (List.getD (AY m) i default))).length:Int)==0))),(45,.lp 5 0),(46,vS (CZ (List.getD (AY m) i default))),(47,.v (.agg [.str (CZ (List.getD (AY m) i default)),.A4,.str Ah])),(7,.lp 7 0),(48,.lp 6 2),(49,vL 9 (Tp.cs (A8 (AN (List.getD (AY m) i default))))),(50,A1 ((A8 (AN (List.getD (AY m) i default))).length:Int)),(51,A1 0)] [(5,dfV (List.getD (AY m) i default)),(6,Bj (AN (List.getD (AY m) i default))),(7,[vS (CZ (List.getD (AY m) i default)),.v .A4,vS Ah])] e) (@eva (m) (out) (List.getD (AY m) i default) ((i:Int)) (e) (by (apply fI <;> first | assumption | omega | decide)) ([]) (by (apply eA <;> first | assumption | omega | decide)) (by (simp only [List.length_nil]; omega))) ⟨⟨W,W,W,W,W,W,W,W,W,W,An⟩,⟨⟨W,W,W,W,W,W,W,W,W,An⟩,⟨W,Wq,Wq,An⟩,An⟩,rfl⟩,sl (Tp.A0 (A8 (AN (List.getD (AY m) i default)))),wr (((A8 (AN (List.getD (AY m) i default))).length:Int) - 1) oM (by (apply p5 <;> first | assumption | omega | decide)),ai (↑((fun x=>List.length (Prod.snd x)) (1,A7 (CX (A8 (AN (List.getD (AY m) i default))) []))):Int) ((CX (A8 (AN (List.getD (AY m) i default))) []).length:Int) (by (simp only [List.length_nil,A3]; done)),wr (((A8 (AN (List.getD (AY m) i default))).length:Int) - 1+1) oM (by (apply p6 <;> first | assumption | omega | decide)),Aw h4,wr ((i:Int)+1)] Ag (out) (by first | assumption | omega | (apply fI <;> first | assumption | omega | decide) | (apply zN <;> first | assumption | omega | decide) | (apply eA <;> first | assumption | omega | decide) | (apply p5 <;> first | assumption | omega | decide) | (apply p6 <;> first | assumption | omega | decide) | (simp only [List.length_append,List.length_cons,List.length_nil] at *; omega) | simp_all) (by rw [hd,Ej,iP h0,iN h1,iP h2,iN h3,iN h4])
    ·exact lN Ad [dt ((i:Int)<((AY m).length:Int)),am ((0:Int)<=(i:Int)/\(i:Int)<((Df.cs (AY m)).length:Int)) (by (simp only [Df.A0]; omega)),WY (AY m) i Ag,rp 3 (Bi h0),sl (A3 (Ez (List.getD (AY m) i default))),rp 2 (Bi h0),rp 4 (Aw h1),rp 5 (Bv h2),bt true,wr ((i:Int)+1)] Ag (out) (by first | assumption | omega | (apply fI <;> first | assumption | omega | decide) | (apply zN <;> first | assumption | omega | decide) | (apply eA <;> first | assumption | omega | decide) | (apply p5 <;> first | assumption | omega | decide) | (apply p6 <;> first | assumption | omega | decide) | (simp only [List.length_append,List.length_cons,List.length_nil] at *; omega) | simp_all) (by rw [hd,Ej,iP h0,iN h1,iN h2])
  ·exact lN Ad [dt ((i:Int)<((AY m).length:Int)),am ((0:Int)<=(i:Int)/\(i:Int)<((Df.cs (AY m)).length:Int)) (by (simp only [Df.A0]; omega)),WY (AY m) i Ag,rp 5 (Bv h0),rp 10 (bt true),wr ((i:Int)+1)] Ag (out) (by first | assumption | omega | (apply fI <;> first | assumption | omega | decide) | (apply zN <;> first | assumption | omega | decide) | (apply eA <;> first | assumption | omega | decide) | (apply p5 <;> first | assumption | omega | decide) | (apply p6 <;> first | assumption | omega | decide) | (simp only [List.length_append,List.length_cons,List.length_nil] at *; omega) | simp_all) (by rw [hd,Ej,iN h0])
 ·have he:i=(AY m).length:=by omega
  exact lX Ad [df ((i:Int)<((AY m).length:Int))] (out) (by rw [he,List.drop_length,Ej])
theorem Ac2(m:Mo)(hN:(Ba m).length<=2000000):Pu 28 [.agg (Ci m)] (.own 77 3 (Sy.cs ((Ba m).map Se))):=meT m oM
theorem gMl{m:Mo}:((Ba m).map Se).length<=(Ba m).length+0:=by rw [List.length_map]; omega
theorem enL(m:Mo)(zO:(Ba m).length<=2000000)(hs:A6 (Ci m)<=10000000)(hNf:(AY m).length<=1000000000):Pu 12 [.agg (Ci m)] (.own 77 3 (Sy.cs (Ej (AY m) (List.map Se (Ba m))))):=
 pu Ad (fun e=>[cl (@Ac2 (m) zO),sl (Df.A0 (AY m)),lp (S.mk [(0,.v (.agg (Ci m))),(1,.lp 1 0),(2,.v .A4),(13,.v (.agg (Ci m))),(14,vL 3 (Sy.cs (List.map Se (Ba m)))),(3,.uniq 77 3 (Sy.cs (List.map Se (Ba m)))),(15,.lp 1 5),(16,vL 25 (Df.cs (AY m))),(17,A1 ((AY m).length:Int)),(18,A1 0)] [(1,El m)] e) (@evb (m) zO hs (List.map Se (Ba m)) (e) hNf (by (simp only [List.length_map]; omega))) xr]) func12
abbrev VA(d:Df)(j:Int)(acc:List BA)(g:BA)(e:Ext):S:=S.mk [(2,.lp 2 0),(4,.lp 4 0),(5,.lp 5 0),(6,A1 j)] [(2,[vS Ah,.v .A4,vS Ah]),(4,Bj (AN d)),(5,[vS (CZ d),.uniq 74 1 (A7 acc),vS g])] e
inductive GW where
 | e0 (acc:List BA) (g:BA)
 | e1 (acc:List BA) (g:BA)
def Db(d:Df):List Tp->Nat->(List BA)->(BA)->GW
 | [],i,acc,g=>(GW.e1 acc g)
 | el::r,i,acc,g=>(if AA el=1 then (if (i:Int)<((A8 (AN d)).length:Int) - 1 then Db d r (i+1) (acc++[ByteArray.mk #[73,110,116]]) (g) else Db d r (i+1) (acc) (ByteArray.mk #[73,110,116])) else (if AA el=2 then (if (i:Int)<((A8 (AN d)).length:Int) - 1 then Db d r (i+1) (acc++[ByteArray.mk #[66,111,111,108]]) (g) else Db d r (i+1) (acc) (ByteArray.mk #[66,111,111,108])) else (GW.e0 acc g)))
def Oa(d:Df)(e:Ext):GW->A5 × S
 | .e0 acc g=>(.ret,S.mk [(2,.lp 2 0),(4,.lp 4 0),(5,.lp 5 0),(3,.v (.bool false))] [(2,[vS Ah,.v .A4,vS Ah]),(4,Bj (AN d)),(5,[vS (CZ d),.uniq 74 1 (A7 acc),vS g])] e)
 | .e1 acc g=>(.exit 0,S.mk [(2,.lp 2 0),(4,.lp 4 0),(5,.lp 5 0)] [(2,[vS Ah,.v .A4,vS Ah]),(4,Bj (AN d)),(5,[vS (CZ d),.uniq 74 1 (A7 acc),vS g])] e)
theorem eC(d:Df)(DV:Kv d=2)(Jh:¬((Ez d).length:Int)=0)(V3:AA (AN d)=6)(hq4:¬((A8 (AN d)).length:Int)=0)(hlen:(A8 (AN d)).length<=10000000)(e:Ext)(hN:List.length ((A8 (AN d)))<=1000000000)(acc:List BA)(g:BA)(hv:(acc.length<=0)):(Ob.loop 68 (Ai f32 0) (VA d 0 acc g e) (Oa d e (Db d (List.drop 0 ((A8 (AN d)))) 0 acc g)).1 (Oa d e (Db d (List.drop 0 ((A8 (AN d)))) 0 acc g)).2).ok prog:=by
 refine Ds (List.length ((A8 (AN d)))) (fun j zz=>VA d j zz.1 zz.2 e) (fun i zz=>Db d (List.drop i ((A8 (AN d)))) i zz.1 zz.2) (Oa d e) (fun i zz=>(fun (i:Nat) (acc:List BA) (g:BA)=>(acc.length<=i)) i zz.1 zz.2) kR ?_ (acc,g) (by first | exact hv | omega)
 rintro i ⟨acc,g⟩ hi hv
 try simp only at hv
 rcases Nat.lt_or_ge i (List.length ((A8 (AN d)))) with Ag | CO
 ·have hd:=AH Ag
  by_cases h0:AA (List.getD (A8 (AN d)) i default)=1
  ·by_cases h1:(i:Int)<((A8 (AN d)).length:Int) - 1
   ·exact lS Ad [sl (Tp.A0 (A8 (AN d))),dt ((i:Int)<((A8 (AN d)).length:Int)),am ((0:Int)<=(i:Int)/\(i:Int)<((Tp.cs (A8 (AN d))).length:Int)) (by (simp only [Tp.A0]; omega)),OA (A8 (AN d)) i Ag,Bh h0,sl (Tp.A0 (A8 (AN d))),wr (((A8 (AN d)).length:Int) - 1),C6 h1,am (List.length (A7 acc++(fun x=>Prod.snd x) (0+1,[[.str (ByteArray.mk #[73,110,116])]])) * (15+1)<=140737488355328) (by (simp only [List.length_append,List.length_cons,List.length_nil,A3]; omega)),wr ((i:Int)+1)] [2,4,5,6,3] [2,4,5] Ag ((acc++[ByteArray.mk #[73,110,116]]),(g)) (S.mk [(2,.lp 2 0),(4,.lp 4 0),(5,.lp 5 0),(6,A1 ((i:Int)+1))] [(2,[vS Ah,.v .A4,vS Ah]),(4,Bj (AN d)),(5,[vS (CZ d),.uniq 74 1 (A7 acc++[[PV.str (ByteArray.mk #[73,110,116])]]),vS g])] e) ⟨⟨W,W,W,W,An⟩,⟨Ws,Ws,⟨W,(.inl (by first | (simp only [List.nil_append,AX,AM,Pr.A2,Tp.A2,Ex.A2,Vr.A2,Df.A2,Sy.A2,Ho.A2,DC,GV]; done) | (simp only [List.nil_append,AX,AM,Pr.A2,Tp.A2,Ex.A2,Vr.A2,Df.A2,Sy.A2,Ho.A2,DC,GV]; rfl))),W,An⟩,An⟩,rfl⟩ (by first | assumption | omega | (simp only [List.length_append,List.length_cons,List.length_nil] at *; omega) | simp_all) (by rw [hd,Db,iP h0,iP h1])
   ·exact lS Ad [sl (Tp.A0 (A8 (AN d))),dt ((i:Int)<((A8 (AN d)).length:Int)),am ((0:Int)<=(i:Int)/\(i:Int)<((Tp.cs (A8 (AN d))).length:Int)) (by (simp only [Tp.A0]; omega)),OA (A8 (AN d)) i Ag,Bh h0,sl (Tp.A0 (A8 (AN d))),wr (((A8 (AN d)).length:Int) - 1),Az h1,wr ((i:Int)+1)] [2,4,5,6,3] [2,4,5] Ag ((acc),(ByteArray.mk #[73,110,116])) (S.mk [(2,.lp 2 0),(4,.lp 4 0),(5,.lp 5 0),(6,A1 ((i:Int)+1))] [(2,[vS Ah,.v .A4,vS Ah]),(4,Bj (AN d)),(5,[vS (CZ d),.uniq 74 1 (A7 acc),vS (ByteArray.mk #[73,110,116])])] e) ⟨⟨W,W,W,W,An⟩,⟨Ws,Ws,⟨W,W,Wq,An⟩,An⟩,rfl⟩ (by first | assumption | omega | (simp only [List.length_append,List.length_cons,List.length_nil] at *; omega) | simp_all) (by rw [hd,Db,iP h0,iN h1])
  ·by_cases h1:AA (List.getD (A8 (AN d)) i default)=2
   ·by_cases h2:(i:Int)<((A8 (AN d)).length:Int) - 1
    ·exact lS Ad [sl (Tp.A0 (A8 (AN d))),dt ((i:Int)<((A8 (AN d)).length:Int)),am ((0:Int)<=(i:Int)/\(i:Int)<((Tp.cs (A8 (AN d))).length:Int)) (by (simp only [Tp.A0]; omega)),OA (A8 (AN d)) i Ag,Aw h0,Bh h1,sl (Tp.A0 (A8 (AN d))),wr (((A8 (AN d)).length:Int) - 1),C6 h2,am (List.length (A7 acc++(fun x=>Prod.snd x) (0+1,[[.str (ByteArray.mk #[66,111,111,108])]])) * (15+1)<=140737488355328) (by (simp only [List.length_append,List.length_cons,List.length_nil,A3]; omega)),wr ((i:Int)+1)] [2,4,5,6,3] [2,4,5] Ag ((acc++[ByteArray.mk #[66,111,111,108]]),(g)) (S.mk [(2,.lp 2 0),(4,.lp 4 0),(5,.lp 5 0),(6,A1 ((i:Int)+1))] [(2,[vS Ah,.v .A4,vS Ah]),(4,Bj (AN d)),(5,[vS (CZ d),.uniq 74 1 (A7 acc++[[PV.str (ByteArray.mk #[66,111,111,108])]]),vS g])] e) ⟨⟨W,W,W,W,An⟩,⟨Ws,Ws,⟨W,(.inl (by first | (simp only [List.nil_append,AX,AM,Pr.A2,Tp.A2,Ex.A2,Vr.A2,Df.A2,Sy.A2,Ho.A2,DC,GV]; done) | (simp only [List.nil_append,AX,AM,Pr.A2,Tp.A2,Ex.A2,Vr.A2,Df.A2,Sy.A2,Ho.A2,DC,GV]; rfl))),W,An⟩,An⟩,rfl⟩ (by first | assumption | omega | (simp only [List.length_append,List.length_cons,List.length_nil] at *; omega) | simp_all) (by rw [hd,Db,iN h0,iP h1,iP h2])
    ·exact lS Ad [sl (Tp.A0 (A8 (AN d))),dt ((i:Int)<((A8 (AN d)).length:Int)),am ((0:Int)<=(i:Int)/\(i:Int)<((Tp.cs (A8 (AN d))).length:Int)) (by (simp only [Tp.A0]; omega)),OA (A8 (AN d)) i Ag,Aw h0,Bh h1,sl (Tp.A0 (A8 (AN d))),wr (((A8 (AN d)).length:Int) - 1),Az h2,wr ((i:Int)+1)] [2,4,5,6,3] [2,4,5] Ag ((acc),(ByteArray.mk #[66,111,111,108])) (S.mk [(2,.lp 2 0),(4,.lp 4 0),(5,.lp 5 0),(6,A1 ((i:Int)+1))] [(2,[vS Ah,.v .A4,vS Ah]),(4,Bj (AN d)),(5,[vS (CZ d),.uniq 74 1 (A7 acc),vS (ByteArray.mk #[66,111,111,108])])] e) ⟨⟨W,W,W,W,An⟩,⟨Ws,Ws,⟨W,W,Wq,An⟩,An⟩,rfl⟩ (by first | assumption | omega | (simp only [List.length_append,List.length_cons,List.length_nil] at *; omega) | simp_all) (by rw [hd,Db,iN h0,iP h1,iN h2])
   ·exact lX Ad [sl (Tp.A0 (A8 (AN d))),dt ((i:Int)<((A8 (AN d)).length:Int)),am ((0:Int)<=(i:Int)/\(i:Int)<((Tp.cs (A8 (AN d))).length:Int)) (by (simp only [Tp.A0]; omega)),OA (A8 (AN d)) i Ag,Aw h0,Aw h1] (GW.e0 acc g) (by rw [hd,Db,iN h0,iN h1])
 ·have he:i=List.length ((A8 (AN d))):=by omega
  exact lX Ad [sl (Tp.A0 (A8 (AN d))),df ((i:Int)<((A8 (AN d)).length:Int))] (GW.e1 acc g) (by rw [he,List.drop_length,Db])
theorem A92(d:Df)(DV:Kv d=2)(Jh:¬((Ez d).length:Int)=0)(V3:AA (AN d)=6)(hq4:¬((A8 (AN d)).length:Int)=0)(hlen:(A8 (AN d)).length<=10000000)(acc:List BA)(g:BA)(e:Ext)(hN:List.length ((A8 (AN d)))<=1000000000)(hv:List.length acc<=0)(p0:List BA)(p1:BA)(At:(Db d ((A8 (AN d))) 0 acc g)=(GW.e0 p0 p1)):(Ob.loop 68 (Ai f32 0) (VA d 0 acc g e) (Oa d e (GW.e0 p0 p1)).1 (Oa d e (GW.e0 p0 p1)).2).ok prog:=
 rz (eC d DV Jh V3 hq4 hlen e hN acc g hv) At
theorem A93(d:Df)(DV:Kv d=2)(Jh:¬((Ez d).length:Int)=0)(V3:AA (AN d)=6)(hq4:¬((A8 (AN d)).length:Int)=0)(hlen:(A8 (AN d)).length<=10000000)(acc:List BA)(g:BA)(e:Ext)(hN:List.length ((A8 (AN d)))<=1000000000)(hv:List.length acc<=0)(p0:List BA)(p1:BA)(At:(Db d ((A8 (AN d))) 0 acc g)=(GW.e1 p0 p1)):(Ob.loop 68 (Ai f32 0) (VA d 0 acc g e) (Oa d e (GW.e1 p0 p1)).1 (Oa d e (GW.e1 p0 p1)).2).ok prog:=
 rz (eC d DV Jh V3 hq4 hlen e hN acc g hv) At
theorem zP(d:Df)(hlen:(A8 (AN d)).length<=10000000)(Ac:¬Kv d=2):Pu 32 [.agg (Kb d)] (.ret (.AE [.agg [.str Ah,.sl 1 [],.str Ah],.bool false])):=
 Ob.Ed (Wk.t (DD.c (Wk.a (kr (kn 1 (DD.r _)))) (DD.r _))) (pm Ad [rp 5 (Bv Ac),rp 10 (bt true)] func32)
theorem zQ(d:Df)(hlen:(A8 (AN d)).length<=10000000)(Ac:Kv d=2)(Ae:((Ez d).length:Int)=0):Pu 32 [.agg (Kb d)] (.ret (.AE [.agg [.str Ah,.sl 1 [],.str Ah],.bool false])):=
 Ob.Ed (Wk.t (DD.c (Wk.a (kr (kn 1 (DD.r _)))) (DD.r _))) (pm Ad [rp 3 (Bi Ac),sl (A3 (Ez d)),rp 2 (Bi Ac),rp 4 (Bh Ae),rp 6 (bt true)] func32)
theorem zR(d:Df)(hlen:(A8 (AN d)).length<=10000000)(Ac:Kv d=2)(Ae:¬((Ez d).length:Int)=0)(Ao:¬AA (AN d)=6):Pu 32 [.agg (Kb d)] (.ret (.AE [.agg [.str Ah,.sl 1 [],.str Ah],.bool false])):=
 Ob.Ed (Wk.t (DD.c (Wk.a (kr (kn 1 (DD.r _)))) (DD.r _))) (pm Ad [rp 3 (Bi Ac),sl (A3 (Ez d)),rp 2 (Bi Ac),rp 4 (Aw Ae),rp 5 (Bv Ao),bt true] func32)
theorem zS(d:Df)(hlen:(A8 (AN d)).length<=10000000)(Ac:Kv d=2)(Ae:¬((Ez d).length:Int)=0)(Ao:AA (AN d)=6)(AK:((A8 (AN d)).length:Int)=0):Pu 32 [.agg (Kb d)] (.ret (.AE [.agg [.str Ah,.sl 1 [],.str Ah],.bool false])):=
 Ob.Ed (Wk.t (DD.c (Wk.a (kr (kn 1 (DD.r _)))) (DD.r _))) (pm Ad [rp 3 (Bi Ac),sl (A3 (Ez d)),rp 2 (Bi Ac),rp 4 (Aw Ae),rp 3 (Bi Ao),sl (Tp.A0 (A8 (AN d))),rp 2 (Bi Ao),Bh AK] func32)
theorem zT(d:Df)(hlen:(A8 (AN d)).length<=10000000)(Ac:Kv d=2)(Ae:¬((Ez d).length:Int)=0)(Ao:AA (AN d)=6)(AK:¬((A8 (AN d)).length:Int)=0)(QL:List BA)(fH:BA)(Fk:Db d (A8 (AN d)) 0 [] Ah=GW.e0 QL fH):Pu 32 [.agg (Kb d)] (.ret (.AE [.agg [.str Ah,.sl 1 [],.str Ah],.bool false])):=
 Ob.Ed (Wk.t (DD.c (Wk.a (kr (kn 1 (DD.r _)))) (DD.r _))) (pu Ad (fun e=>[rp 3 (Bi Ac),sl (A3 (Ez d)),rp 2 (Bi Ac),rp 4 (Aw Ae),rp 3 (Bi Ao),sl (Tp.A0 (A8 (AN d))),rp 2 (Bi Ao),Aw AK,lp (S.mk [(0,.v (.agg (Kb d))),(1,.lp 1 0),(2,.lp 2 0),(3,.v (.bool false)),(8,.lp 1 11),(9,.lp 1 15),(10,.v (.agg (Ay (AN d)))),(4,.lp 4 0),(11,.lp 1 9),(12,A1 (Kv d)),(13,.v (.bool (Kv d != 2))),(14,.v (.bool (Kv d != 2))),(15,.lp 1 1),(16,vL 1 (A7 (Ez d))),(17,A1 ((Ez d).length:Int)),(18,.v (.bool (((Ez d).length:Int)==0))),(19,.v (.bool (((Ez d).length:Int)==0))),(20,.v (.bool (((Ez d).length:Int)==0))),(21,.lp 4 0),(22,A1 (AA (AN d))),(23,.v (.bool (AA (AN d) != 6))),(24,.v (.bool (AA (AN d) != 6))),(25,.v (.bool (AA (AN d) != 6))),(26,.lp 4 2),(27,vL 9 (Tp.cs (A8 (AN d)))),(28,A1 ((A8 (AN d)).length:Int)),(29,.v (.bool (((A8 (AN d)).length:Int)==0))),(30,.v (.bool (((A8 (AN d)).length:Int)==0))),(32,.lp 1 0),(33,vS (CZ d)),(34,.v (.agg [.str (CZ d),.A4,.str Ah])),(5,.lp 5 0),(6,A1 0)] [(1,dfV d),(2,[vS Ah,.v .A4,vS Ah]),(4,Bj (AN d)),(5,[vS (CZ d),.v .A4,vS Ah])] e) (@A92 (d) Ac Ae Ao AK hlen ([]) Ah (e) oM (by (simp only [List.length_nil]; omega)) QL fH Fk) ⟨⟨W,W,W,W,An⟩,⟨⟨W,W,W,An⟩,⟨W,W,W,W,W,W,W,W,W,An⟩,⟨W,Wq,W,An⟩,An⟩,rfl⟩]) func32)
theorem zU(d:Df)(hlen:(A8 (AN d)).length<=10000000)(Ac:Kv d=2)(Ae:¬((Ez d).length:Int)=0)(Ao:AA (AN d)=6)(AK:¬((A8 (AN d)).length:Int)=0)(QL:List BA)(fH:BA)(Fk:Db d (A8 (AN d)) 0 [] Ah=GW.e1 QL fH):Pu 32 [.agg (Kb d)] (.ret (.AE [.agg [.str (CZ d),.sl 1 (A7 QL),.str fH],.bool true])):=
 pu Ad (fun e=>[rp 3 (Bi Ac),sl (A3 (Ez d)),rp 2 (Bi Ac),rp 4 (Aw Ae),rp 3 (Bi Ao),sl (Tp.A0 (A8 (AN d))),rp 2 (Bi Ao),Aw AK,lp (S.mk [(0,.v (.agg (Kb d))),(1,.lp 1 0),(2,.lp 2 0),(3,.v (.bool false)),(8,.lp 1 11),(9,.lp 1 15),(10,.v (.agg (Ay (AN d)))),(4,.lp 4 0),(11,.lp 1 9),(12,A1 (Kv d)),(13,.v (.bool (Kv d != 2))),(14,.v (.bool (Kv d != 2))),(15,.lp 1 1),(16,vL 1 (A7 (Ez d))),(17,A1 ((Ez d).length:Int)),(18,.v (.bool (((Ez d).length:Int)==0))),(19,.v (.bool (((Ez d).length:Int)==0))),(20,.v (.bool (((Ez d).length:Int)==0))),(21,.lp 4 0),(22,A1 (AA (AN d))),(23,.v (.bool (AA (AN d) != 6))),(24,.v (.bool (AA (AN d) != 6))),(25,.v (.bool (AA (AN d) != 6))),(26,.lp 4 2),(27,vL 9 (Tp.cs (A8 (AN d)))),(28,A1 ((A8 (AN d)).length:Int)),(29,.v (.bool (((A8 (AN d)).length:Int)==0))),(30,.v (.bool (((A8 (AN d)).length:Int)==0))),(32,.lp 1 0),(33,vS (CZ d)),(34,.v (.agg [.str (CZ d),.A4,.str Ah])),(5,.lp 5 0),(6,A1 0)] [(1,dfV d),(2,[vS Ah,.v .A4,vS Ah]),(4,Bj (AN d)),(5,[vS (CZ d),.v .A4,vS Ah])] e) (@A93 (d) Ac Ae Ao AK hlen ([]) Ah (e) oM (by (simp only [List.length_nil]; omega)) QL fH Fk) ⟨⟨W,W,W,W,An⟩,⟨⟨W,W,W,An⟩,⟨W,W,W,W,W,W,W,W,W,An⟩,⟨W,Wq,W,An⟩,An⟩,rfl⟩]) func32
theorem zV(l:List Tp):(l.filter K7).length<=l.length:=List.length_filter_le _ _
theorem VB:∀l:List Tp,l.all K7=true->l.filter K7=l
 | [],_=>rfl
 | x::r,h=>by
  rw [List.all_cons,Bool.and_eq_true] at h
  rw [List.filter_cons_of_pos h.1,VB r h.2]
theorem VC:∀l:List Tp,l.all K7=false->(l.filter K7).length<l.length
 | [],h=>by cases h
 | x::r,h=>by
  by_cases hx:K7 x=true
  ·rw [List.all_cons,hx,Bool.true_and] at h
   rw [List.filter_cons_of_pos hx]
   have:=VC r h
   simp only [List.length_cons]; omega
  ·rw [List.filter_cons_of_neg hx]
   have:=zV r
   simp only [List.length_cons]; omega
def LQ(d:Df):Bool:=if Kv d=2 then (if ((Ez d).length:Int)=0 then false else (if AA (AN d)=6 then (if ((A8 (AN d)).length:Int)=0 then false else (A8 (AN d)).all K7) else false)) else false
def rfS(d:Df):Sy := .mk (CZ d) (((A8 (AN d)).map Pw).take ((A8 (AN d)).length - 1)) (((A8 (AN d)).map Pw).getD ((A8 (AN d)).length - 1) Ah)
def eU(m:Mo):List Sy:=(Ba m).map Se++((AY m).filter LQ).map rfS
theorem p8:∀ (l:List Df) (out:List Sy),Ej l out=out++(l.filter LQ).map rfS
 | [],out=>by simp [Ej]
 | d::r,out=>by
  have ih:=p8 r
  have Wj:LQ d=false->(d::r).filter LQ=r.filter LQ:=fun h=>List.filter_cons_of_neg (by rw [h]; decide)
  rw [Ej]
  by_cases h1:Kv d=2
  ·rw [iP h1]
   by_cases h2:((Ez d).length:Int)=0
   ·rw [iP h2,ih,Wj (by unfold LQ; rw [iP h1,iP h2])]
   ·rw [iN h2]
    by_cases h3:AA (AN d)=6
    ·rw [iP h3]
     by_cases h4:((A8 (AN d)).length:Int)=0
     ·rw [iP h4,ih,Wj (by unfold LQ; rw [iP h1,iN h2,iP h3,iP h4])]
     ·rw [iN h4]
      have hb:LQ d=(A8 (AN d)).all K7:=by unfold LQ; rw [iP h1,iN h2,iP h3,iN h4]
      rw [Vz,List.nil_append,List.length_map]
      cases ha:(A8 (AN d)).all K7 with
      | true=>
       rw [VB _ ha,iP oM,ih,List.filter_cons_of_pos (by rw [hb]; exact ha),List.map_cons,List.append_assoc]
       have e:(((A8 (AN d)).length:Int) - 1).toNat=(A8 (AN d)).length - 1:=by omega
       rw [e]; rfl
      | false=>
       have:=VC _ ha
       rw [iN oM,ih,Wj (by rw [hb]; exact ha)]
    ·rw [iN h3,ih,Wj (by unfold LQ; rw [iP h1,iN h2,iN h3])]
  ·rw [iN h1,ih,Wj (by unfold LQ; rw [iN h1])]
theorem p9(d:Df):∀ (l:List Tp) (i:Nat) (acc:List BA) (g:BA),l.length+i=(A8 (AN d)).length ->
  (l.all K7=true->Db d l i acc g = .e1 (acc++(l.map Pw).take (l.length - 1)) ((l.map Pw).getLast?.getD g))/\(l.all K7=false->∃a b,Db d l i acc g = .e0 a b)
 | [],i,acc,g,_=>⟨fun _=>by simp [Db],fun h=>by cases h⟩
 | c::r,i,acc,g,h=>by
  have OU:∀s:BA,K7 c=true->Pw c=s->Db d (c::r) i acc g=(if (i:Int)<((A8 (AN d)).length:Int) - 1 then Db d r (i+1) (acc++[s]) g else Db d r (i+1) acc s)->((c::r).all K7=true->Db d (c::r) i acc g = .e1 (acc++((c::r).map Pw).take ((c::r).length - 1)) (((c::r).map Pw).getLast?.getD g))/\((c::r).all K7=false->∃a b,Db d (c::r) i acc g = .e0 a b):=by
   intro s hb hz he
   rw [List.all_cons,hb,Bool.true_and,he]
   simp only [List.length_cons] at h
   cases r with
   | nil=>
    rw [iN (by simp at h; omega)]
    refine ⟨fun _=>?_,fun h=>by cases h⟩
    simp [Db,hz]
   | cons c2 r2=>
    have ih:=p9 d (c2::r2) (i+1) (acc++[s]) g (by simp only [List.length_cons] at h ⊢; omega)
    rw [iP (by simp only [List.length_cons] at h; omega)]
    refine ⟨fun ha=>?_,ih.2⟩
    rw [ih.1 ha]
    simp [hz]
  by_cases h1:AA c=1
  ·refine OU H7 (by simp [K7,h1]) (by simp [Pw,K7,baS,h1]) ?_
   rw [Db,iP h1]
  ·by_cases h2:AA c=2
   ·refine OU E2 (by simp [K7,h2]) (by simp [Pw,K7,baS,h2]) ?_
    rw [Db,iN h1,iP h2]
   ·have hb:K7 c=false:=by simp [K7,h1,h2]
    rw [List.all_cons,hb,Bool.false_and]
    refine ⟨fun h=>absurd h dD,fun _=>⟨acc,g,?_⟩⟩
    rw [Db,iN h1,iN h2]
def jO(d:Df):Sy:=if LQ d=true then rfS d else .mk Ah [] Ah
theorem A94(d:Df)(hlen:(A8 (AN d)).length<=10000000):Pu 32 [.agg (Kb d)] (.ret (.AE [.agg (Hx (jO d)),.bool (LQ d)])):=by
 have Wj:LQ d=false->Pu 32 [.agg (Kb d)] (.ret (.AE [.agg [.str Ah,.sl 1 [],.str Ah],.bool false]))->Pu 32 [.agg (Kb d)] (.ret (.AE [.agg (Hx (jO d)),.bool (LQ d)])):=fun h hp=>by
  rw [jO,h,iN dD]; exact hp
 by_cases h1:Kv d=2
 ·by_cases h2:((Ez d).length:Int)=0
  ·exact Wj (by unfold LQ; rw [iP h1,iP h2]) (zQ d hlen h1 h2)
  ·by_cases h3:AA (AN d)=6
   ·by_cases h4:((A8 (AN d)).length:Int)=0
    ·exact Wj (by unfold LQ; rw [iP h1,iN h2,iP h3,iP h4]) (zS d hlen h1 h2 h3 h4)
    ·have hb:LQ d=(A8 (AN d)).all K7:=by unfold LQ; rw [iP h1,iN h2,iP h3,iN h4]
     have he:=p9 d (A8 (AN d)) 0 [] Ah rfl
     cases ha:(A8 (AN d)).all K7 with
     | true=>
      have h5:=zU d hlen h1 h2 h3 h4 _ _ (he.1 ha)
      have hn:(A8 (AN d)).map Pw≠[]:=fun e=>h4 (by have:=congrArg List.length e; simp at this; simp [this])
      have eg:((A8 (AN d)).map Pw).getLast?.getD Ah=((A8 (AN d)).map Pw).getD ((A8 (AN d)).length - 1) Ah:=by
       rw [List.getLast?_eq_getElem?,List.length_map]; rfl
      rw [eg,List.nil_append] at h5
      rw [jO,hb,ha,iP rfl]
      exact h5
     | false=>
      obtain ⟨a,b,e⟩:=he.2 ha
      exact Wj (by rw [hb]; exact ha) (zT d hlen h1 h2 h3 h4 a b e)
   ·exact Wj (by unfold LQ; rw [iP h1,iN h2,iN h3]) (zR d hlen h1 h2 h3)
 ·exact Wj (by unfold LQ; rw [iN h1]) (zP d hlen h1)
theorem gNd{m:Mo}{i:Nat}(hs:A6 (Ci m)<=10000000)(h:i<(AY m).length):(A8 (AN ((AY m).getD i default))).length<=10000000:=by
 have h1:=fI hs h
 have h2:=BM (AN ((AY m).getD i default))
 have h3:=Tp.BT (A8 (AN ((AY m).getD i default)))
 omega
theorem Ac3(m:Mo)(hN:(Ba m).length<=2000000):Pu 31 [.agg (Ci m)] (.own 77 3 (Sy.cs ((Ba m).map Se))):=Abx m oM
abbrev pE(m:Mo)(j:Int)(out:List Sy)(e:Ext):S:=S.mk [(1,.lp 1 0),(2,.v .A4),(3,.uniq 77 3 (Sy.cs out)),(4,A1 j)] [(1,El m)] e
def Ir  : List Df->(List Sy)->(List Sy)
 | [],out=>(out)
 | el::r,out=>(if LQ el=true then Ir  r (out++[jO el]) else Ir  r (out))
def eD(m:Mo)(e:Ext)(p:(List Sy)):A5 × S:=(.exit 0,S.mk [(1,.lp 1 0),(2,.v .A4),(3,.uniq 77 3 (Sy.cs p))] [(1,El m)] e)
theorem ren(m:Mo)(zO:(Ba m).length<=2000000)(hs:A6 (Ci m)<=10000000)(out:List Sy)(e:Ext)(hN:(AY m).length<=1000000000)(hv:List.length out<=List.length (Ba m)+0):(Ob.loop 31 (Ai f13 0) (pE m 0 out e) (eD m e (Ir  ((AY m))  out)).1 (eD m e (Ir  ((AY m))  out)).2).ok prog:=by
 refine Ds ((AY m).length) (fun j out=>pE m j out e) (fun i out=>Ir  (List.drop i ((AY m)))  out) (eD m e) (fun i out=>(out.length<=(Ba m).length+i)) kR ?_ out (by first | exact hv | omega)
 rintro i out hi hv
 try simp only at hv
 rcases Nat.lt_or_ge i ((AY m).length) with Ag | CO
 ·have hd:=AH Ag
  by_cases h0:LQ (List.getD (AY m) i default)=true
  ·exact lS Ad [sl (Df.A0 (AY m)),dt ((i:Int)<((AY m).length:Int)),am ((0:Int)<=(i:Int)/\(i:Int)<((Df.cs (AY m)).length:Int)) (by (simp only [Df.A0]; omega)),WY (AY m) i Ag,cl (@A94 (List.getD (AY m) i default) (by (apply gNd <;> first | assumption | omega | decide))),B2 h0,am (List.length (Sy.cs out++(fun x=>Prod.snd x) (2+1,[Hx (jO (List.getD (AY m) i default))])) * (55+1)<=140737488355328) (by (simp only [List.length_append,List.length_cons,List.length_nil,A3,Sy.A0]; omega)),wr ((i:Int)+1)] [1,2,3,4] [1] Ag (out++[jO (List.getD (AY m) i default)]) (S.mk [(1,.lp 1 0),(2,.v .A4),(3,.uniq 77 3 (Sy.cs out++[Hx (jO (List.getD (AY m) i default))])),(4,A1 ((i:Int)+1))] [(1,El m)] e) ⟨⟨W,W,(.inl (by first | (simp only [List.nil_append,AX,AM,Pr.A2,Tp.A2,Ex.A2,Vr.A2,Df.A2,Sy.A2,Ho.A2,DC,GV]; done) | (simp only [List.nil_append,AX,AM,Pr.A2,Tp.A2,Ex.A2,Vr.A2,Df.A2,Sy.A2,Ho.A2,DC,GV]; rfl))),W,An⟩,⟨Ws,An⟩,rfl⟩ (by first | assumption | omega | (apply gNd <;> first | assumption | omega | decide) | (apply gMl <;> first | assumption | omega | decide) | (simp only [List.length_append,List.length_cons,List.length_nil] at *; omega) | simp_all) (by rw [hd,Ir,iP h0])
  ·exact lN Ad [sl (Df.A0 (AY m)),dt ((i:Int)<((AY m).length:Int)),am ((0:Int)<=(i:Int)/\(i:Int)<((Df.cs (AY m)).length:Int)) (by (simp only [Df.A0]; omega)),WY (AY m) i Ag,cl (@A94 (List.getD (AY m) i default) (by (apply gNd <;> first | assumption | omega | decide))),AQ (DQ h0),wr ((i:Int)+1)] Ag (out) (by first | assumption | omega | (apply gNd <;> first | assumption | omega | decide) | (apply gMl <;> first | assumption | omega | decide) | (simp only [List.length_append,List.length_cons,List.length_nil] at *; omega) | simp_all) (by rw [hd,Ir,iN h0])
 ·have he:i=(AY m).length:=by omega
  exact lX Ad [sl (Df.A0 (AY m)),df ((i:Int)<((AY m).length:Int))] (out) (by rw [he,List.drop_length,Ir])
theorem Ac4(m:Mo)(zO:(Ba m).length<=2000000)(hs:A6 (Ci m)<=10000000)(hNf:(AY m).length<=1000000000):Pu 13 [.agg (Ci m)] (.own 77 3 (Sy.cs (Ir (AY m) (List.map Se (Ba m))))):=
 pu Ad (fun e=>[cl (@Ac3 (m) zO),lp (S.mk [(0,.v (.agg (Ci m))),(1,.lp 1 0),(2,.v .A4),(7,.v (.agg (Ci m))),(8,vL 3 (Sy.cs (List.map Se (Ba m)))),(3,.uniq 77 3 (Sy.cs (List.map Se (Ba m)))),(4,A1 0)] [(1,El m)] e) (@ren (m) zO hs (List.map Se (Ba m)) (e) hNf (by (simp only [List.length_map]; omega))) xr]) func13
theorem eE:∀ (l:List Df) (out:List Sy),Ir l out=out++(l.filter LQ).map rfS
 | [],out=>by simp [Ir]
 | d::r,out=>by
  rw [Ir]
  by_cases h:LQ d=true
  ·rw [iP h,eE r,List.filter_cons_of_pos h,List.map_cons,List.append_assoc,jO,iP h]; rfl
  ·rw [iN h,eE r,List.filter_cons_of_neg h]
abbrev Sg(l:List Sy)(i0:Nat)(xe:Ext)(j:Int)   : S:=S.mk [(0,vL 3 (Sy.cs l)),(1,vL 3 (Sy.cs l)),(5,A1 (i0:Int)),(6,A1 j)] [] xe
section
variable (l:List Sy) (i0:Nat) (Oi:i0<l.length) (xe:Ext) (i:Nat)
include l i0 Oi xe i
theorem zW(hi:i<List.length ((Ca (l.getD i0 default))))(hN:List.length ((Ca (l.getD i0 default)))<=1000000000)(cx:Cx)(Ar:cx.n=84){Q:A5->S->Prop}(hq:Q (.normal) (S.mk [(0,vL 3 (Sy.cs l)),(1,vL 3 (Sy.cs l)),(5,A1 (i0:Int)),(6,A1 ((i:Int)+1))] [] xe)):PW prog cx (Ai f11 1) (Sg l i0 xe (i:Int)) Q:=
 pw Ad 84 [am ((0:Int)<=(i0:Int)/\(i0:Int)<((Sy.cs l).length:Int)) (by (simp only [Sy.A0]; omega)),Wv l i0 Oi,sl (A3 (Ca (List.getD l i0 default))),dt ((i:Int)<((Ca (List.getD l i0 default)).length:Int)),am ((0:Int)<=(i0:Int)/\(i0:Int)<((Sy.cs l).length:Int)) (by (simp only [Sy.A0]; omega)),Wv l i0 Oi,am ((0:Int)<=(i:Int)/\(i:Int)<((A7 (Ca (List.getD l i0 default))).length:Int)) (by (simp only [A3]; omega)),F5 (Ca (List.getD l i0 default)) i hi,am ((0:Int)<=(i0:Int)/\(i0:Int)<((Sy.cs l).length:Int)) (by (simp only [Sy.A0]; omega)),Wv l i0 Oi,am ((0:Int)<=(i:Int)/\(i:Int)<((A7 (Ca (List.getD l i0 default))).length:Int)) (by (simp only [A3]; omega)),F5 (Ca (List.getD l i0 default)) i hi,bf (!ByteArray.toList (List.getD (Ca (List.getD l i0 default)) i Ah)==ByteArray.toList (List.getD (Ca (List.getD l i0 default)) i Ah)) (AJ (BL rF)),wr ((i:Int)+1)] [0,1,5,6] [] Ar hq
theorem zX(hi:i=List.length ((Ca (l.getD i0 default))))(hN:List.length ((Ca (l.getD i0 default)))<=1000000000)(cx:Cx)(Ar:cx.n=84){Q:A5->S->Prop}(hq:Q (.exit 2) (S.mk [(0,vL 3 (Sy.cs l)),(1,vL 3 (Sy.cs l)),(5,A1 (i0:Int)),(6,A1 (i:Int))] [] xe)):PW prog cx (Ai f11 1) (Sg l i0 xe (i:Int)) Q:=
 pw Ad 84 [am ((0:Int)<=(i0:Int)/\(i0:Int)<((Sy.cs l).length:Int)) (by (simp only [Sy.A0]; omega)),Wv l i0 Oi,sl (A3 (Ca (List.getD l i0 default))),df ((i:Int)<((Ca (List.getD l i0 default)).length:Int))] [0,1,5,6] [] Ar hq
end
def Sh(l:List Sy)(i0:Nat)(xe:Ext)  : A5 × S:=(.exit 2,S.mk [(0,vL 3 (Sy.cs l)),(1,vL 3 (Sy.cs l)),(5,A1 (i0:Int))] [] xe)
theorem zY(l:List Sy)(i0:Nat)(Oi:i0<l.length)(xe:Ext)(hN:List.length ((Ca (l.getD i0 default)))<=1000000000)(i:Nat)(Oi:i<=List.length ((Ca (l.getD i0 default))))  : (Ob.loop 84 (Ai f11 1) (Sg l i0 xe (i:Int)) (Sh l i0 xe).1 (Sh l i0 xe).2).ok prog:=by
 refine Ob.Jg (P:=prog) (α:={ zz:Nat × Unit // zz.1<=List.length ((Ca (l.getD i0 default))) }) (fun zz=>Sg l i0 xe (zz.1.1:Int)) (fun zz=>List.length ((Ca (l.getD i0 default))) - zz.1.1) (fun zz=>(Sh l i0 xe)) ?_ ⟨(i,()),Oi⟩
 clear Oi
 clear  i
 rintro ⟨⟨i,u⟩,hi⟩ cx Ar
 simp only at hi  ⊢
 rcases Nat.lt_or_ge i (List.length ((Ca (l.getD i0 default)))) with Ag | CO
 ·have hd:=CL Ag
  exact zW l i0 Oi xe i   Ag hN   cx Ar (.inl ⟨rfl,⟨((i+1),()),by simp only; omega⟩,by simp only; omega,xr,by trivial⟩)
 ·have he:i=List.length ((Ca (l.getD i0 default))):=by omega
  subst he
  refine zX l i0 Oi xe (List.length ((Ca (l.getD i0 default))))   rfl hN   cx Ar (.inr ?_)
  exact ⟨by simp,rfl,xr⟩
theorem ss1(l:List Sy)(i0:Nat)(Oi:i0<l.length)(xe:Ext)(hN:List.length ((Ca (l.getD i0 default)))<=1000000000)  : (Ob.loop 84 (Ai f11 1) (Sg l i0 xe 0) (Sh l i0 xe).1 (Sh l i0 xe).2).ok prog:=by
 have:=zY l i0 Oi xe  hN 0  (Nat.zero_le _)
 exact this
theorem Ac5(x:Tp)(hs:A6 (Ay x)<=10000000):∃b,Pu 9 [.agg (Ay x)] (.ret (.bool b)):=⟨_,smL x oM⟩
theorem gSa{l:List Sy}{i:Nat}(fJ:∀w∈l,(Ca w).length<=1000000000)(h:i<l.length):(Ca (l.getD i default)).length<=1000000000:=fJ _ (BF h)
abbrev Si(l:List Sy)(j:Int)(e:Ext):S:=S.mk [(0,vL 3 (Sy.cs l)),(1,vL 3 (Sy.cs l)),(5,A1 j)] [] e
section
variable (l:List Sy) (fJ:∀w∈l,(Ca w).length<=1000000000) (i:Nat) (e:Ext)
include l fJ i e
theorem zZ(hi:i<l.length)(hN:l.length<=1000000000)(cx:Cx)(Ar:cx.n=84){Q:A5->S->Prop}(hq:Q (.normal) (S.mk [(0,vL 3 (Sy.cs l)),(1,vL 3 (Sy.cs l)),(5,A1 ((i:Int)+1))] [] e)):PW prog cx (Ai f11 0) (Si l (i:Int) e) Q:=
 pw Ad 84 [sl (Sy.A0 l),dt ((i:Int)<(l.length:Int)),am ((0:Int)<=(i:Int)/\(i:Int)<((Sy.cs l).length:Int)) (by (simp only [Sy.A0]; omega)),Wv l i hi,am ((0:Int)<=(i:Int)/\(i:Int)<((Sy.cs l).length:Int)) (by (simp only [Sy.A0]; omega)),Wv l i hi,rp 3 (bf (!ByteArray.toList (DT (List.getD l i default))==ByteArray.toList (DT (List.getD l i default))) (AJ (BL rF))),am ((0:Int)<=(i:Int)/\(i:Int)<((Sy.cs l).length:Int)) (by (simp only [Sy.A0]; omega)),Wv l i hi,rp 5 (bf (!ByteArray.toList (DT (List.getD l i default))==ByteArray.toList (DT (List.getD l i default))) (AJ (BL rF))),am ((0:Int)<=(i:Int)/\(i:Int)<((Sy.cs l).length:Int)) (by (simp only [Sy.A0]; omega)),Wv l i hi,rp 4 (bf (!ByteArray.toList (DT (List.getD l i default))==ByteArray.toList (DT (List.getD l i default))) (AJ (BL rF))),rp 3 (bf (!ByteArray.toList (Lj (List.getD l i default))==ByteArray.toList (Lj (List.getD l i default))) (AJ (BL rF))),am ((0:Int)<=(i:Int)/\(i:Int)<((Sy.cs l).length:Int)) (by (simp only [Sy.A0]; omega)),Wv l i hi,rp 3 (bf (!ByteArray.toList (Lj (List.getD l i default))==ByteArray.toList (Lj (List.getD l i default))) (AJ (BL rF))),sl (A3 (Ca (List.getD l i default))),rp 3 (bf (!ByteArray.toList (Lj (List.getD l i default))==ByteArray.toList (Lj (List.getD l i default))) (AJ (BL rF))),am ((0:Int)<=(i:Int)/\(i:Int)<((Sy.cs l).length:Int)) (by (simp only [Sy.A0]; omega)),Wv l i hi,rp 3 (bf (!ByteArray.toList (Lj (List.getD l i default))==ByteArray.toList (Lj (List.getD l i default))) (AJ (BL rF))),sl (A3 (Ca (List.getD l i default))),rp 2 (bf (!ByteArray.toList (Lj (List.getD l i default))==ByteArray.toList (Lj (List.getD l i default))) (AJ (BL rF))),nn ((Ca (List.getD l i default)).length:Int) ((Ca (List.getD l i default)).length:Int),lp (S.mk [(0,vL 3 (Sy.cs l)),(1,vL 3 (Sy.cs l)),(5,A1 (i:Int)),(12,A1 (i:Int)),(13,vL 3 (Sy.cs l)),(14,A1 (l.length:Int)),(15,.v (.bool (decide ((i:Int)<(l.length:Int))))),(18,vL 3 (Sy.cs l)),(19,A1 (i:Int)),(20,.v (.ro (Hx (List.getD l i default)) 0)),(21,.v (.ro (Hx (List.getD l i default)) 0)),(22,vS (DT (List.getD l i default))),(23,vL 3 (Sy.cs l)),(24,A1 (i:Int)),(25,.v (.ro (Hx (List.getD l i default)) 0)),(26,.v (.ro (Hx (List.getD l i default)) 0)),(27,vS (DT (List.getD l i default))),(28,.v (.bool !ByteArray.toList (DT (List.getD l i default))==ByteArray.toList (DT (List.getD l i default)))),(29,.v (.bool !ByteArray.toList (DT (List.getD l i default))==ByteArray.toList (DT (List.getD l i default)))),(30,vL 3 (Sy.cs l)),(31,A1 (i:Int)),(32,.v (.ro (Hx (List.getD l i default)) 0)),(33,.v (.ro (Hx (List.getD l i default)) 2)),(34,vS (Lj (List.getD l i default))),(35,vL 3 (Sy.cs l)),(36,A1 (i:Int)),(37,.v (.ro (Hx (List.getD l i default)) 0)),(38,.v (.ro (Hx (List.getD l i default)) 2)),(39,vS (Lj (List.getD l i default))),(40,.v (.bool !ByteArray.toList (Lj (List.getD l i default))==ByteArray.toList (Lj (List.getD l i default)))),(41,.v (.bool !ByteArray.toList (Lj (List.getD l i default))==ByteArray.toList (Lj (List.getD l i default)))),(42,.v (.bool !ByteArray.toList (Lj (List.getD l i default))==ByteArray.toList (Lj (List.getD l i default)))),(43,vL 3 (Sy.cs l)),(44,A1 (i:Int)),(45,.v (.ro (Hx (List.getD l i default)) 0)),(46,.v (.ro (Hx (List.getD l i default)) 1)),(47,vL 1 (A7 (Ca (List.getD l i default)))),(48,A1 ((Ca (List.getD l i default)).length:Int)),(49,vL 3 (Sy.cs l)),(50,A1 (i:Int)),(51,.v (.ro (Hx (List.getD l i default)) 0)),(52,.v (.ro (Hx (List.getD l i default)) 1)),(53,vL 1 (A7 (Ca (List.getD l i default)))),(54,A1 ((Ca (List.getD l i default)).length:Int)),(55,.v (.bool (((Ca (List.getD l i default)).length:Int) != ((Ca (List.getD l i default)).length:Int)))),(56,.v (.bool (((Ca (List.getD l i default)).length:Int) != ((Ca (List.getD l i default)).length:Int)))),(6,A1 0)] [] e) (@ss1 (l) (i) hi (e) (by (apply gSa <;> first | assumption | omega | decide))) xr,wr ((i:Int)+1)] [0,1,5,4] [] Ar hq
theorem A00(hi:i=l.length)(hN:l.length<=1000000000)(cx:Cx)(Ar:cx.n=84){Q:A5->S->Prop}(hq:Q (.exit 0) (S.mk [(0,vL 3 (Sy.cs l)),(1,vL 3 (Sy.cs l)),(5,A1 (i:Int))] [] e)):PW prog cx (Ai f11 0) (Si l (i:Int) e) Q:=
 pw Ad 84 [sl (Sy.A0 l),df ((i:Int)<(l.length:Int))] [0,1,5,4] [] Ar hq
end
def Sj(l:List Sy)(e:Ext):A5 × S:=(.exit 0,S.mk [(0,vL 3 (Sy.cs l)),(1,vL 3 (Sy.cs l))] [] e)
theorem A01(l:List Sy)(fJ:∀w∈l,(Ca w).length<=1000000000)(e:Ext)(hN:l.length<=1000000000)(i:Nat)(Oi:i<=l.length)  : (Ob.loop 84 (Ai f11 0) (Si l (i:Int)  e) (Sj l e).1 (Sj l e).2).ok prog:=by
 refine Ob.Jg (P:=prog) (α:={ zz:Nat × Unit // zz.1<=l.length }) (fun zz=>Si l (zz.1.1:Int)  e) (fun zz=>l.length - zz.1.1) (fun zz=>(Sj l e)) ?_ ⟨(i,()),Oi⟩
 clear Oi
 clear  i
 rintro ⟨⟨i,u⟩,hi⟩ cx Ar
 simp only at hi  ⊢
 rcases Nat.lt_or_ge i (l.length) with Ag | CO
 ·have hd:=AH Ag
  exact zZ l fJ i  e Ag hN   cx Ar (.inl ⟨rfl,⟨((i+1),()),by simp only; omega⟩,by simp only; omega,xr,by trivial⟩)
 ·have he:i=l.length:=by omega
  subst he
  refine A00 l fJ (l.length)  e rfl hN   cx Ar (.inr ?_)
  exact ⟨by simp,rfl,xr⟩
theorem ss0(l:List Sy)(fJ:∀w∈l,(Ca w).length<=1000000000)(e:Ext)(hN:l.length<=1000000000)  : (Ob.loop 84 (Ai f11 0) (Si l 0  e) (Sj l e).1 (Sj l e).2).ok prog:=by
 have:=A01 l fJ e hN 0  (Nat.zero_le _)
 exact this
theorem ssL(l:List Sy)(fJ:∀w∈l,(Ca w).length<=1000000000)(Cd:l.length<=1000000000):Pu 11 [.sl 3 (Sy.cs l),.sl 3 (Sy.cs l)] (rB true):=
 pu Ad (fun e=>[rp 2 (sl (Sy.A0 l)),nn (l.length:Int) (l.length:Int),lp (S.mk [(0,vL 3 (Sy.cs l)),(1,vL 3 (Sy.cs l)),(4,.v (.bool false)),(7,vL 3 (Sy.cs l)),(8,A1 (l.length:Int)),(9,vL 3 (Sy.cs l)),(10,A1 (l.length:Int)),(11,.v (.bool ((l.length:Int) != (l.length:Int)))),(5,A1 0)] [] e) (@ss0 (l) fJ (e) Cd) xr]) func11
theorem eF(m:Mo)(hs:A6 (Ci m)<=1048576):(∀w∈eU m,(Ca w).length<=1000000000)/\(eU m).length<=1000000000:=by
 have h1:=Jj m
 have h2:=Ms.BT (Ba m)
 have h3:=Df.BT (AY m)
 constructor
 ·intro w hw
  rcases List.mem_append.1 hw with hw | hw
  ·obtain ⟨x,_,rfl⟩:=List.mem_map.1 hw
   simp [Se,Ca]
  ·obtain ⟨d,hd,rfl⟩:=List.mem_map.1 hw
   have hd:=(List.mem_filter.1 hd).1
   have h4:=Df.mem hd
   have h5:=I8 d
   have h6:=BM (AN d)
   have h7:=Tp.BT (A8 (AN d))
   have h8:(Ca (rfS d)).length<=(A8 (AN d)).length:=by
    simp only [rfS,Ca,List.length_take,List.length_map]; omega
   omega
 ·unfold eU
  have:=List.length_filter_le LQ (AY m)
  simp only [List.length_append,List.length_map]; omega
theorem ssT(m:Mo)(hs:A6 (Ci m)<=1048576):Pu 11 [.sl 3 (Sy.cs (eU m)),.sl 3 (Sy.cs (eU m))] (.ret (.bool true)):=ssL _ (eF m hs).1 (eF m hs).2
theorem Ac6(m:Mo)(hs:A6 (Ci m)<=1048576):Pu 12 [.agg (Ci m)] (.own 77 3 (Sy.cs (eU m))):=by
 have h1:=Jj m
 have h2:=Ms.BT (Ba m)
 have h3:=Df.BT (AY m)
 have:=enL m oM oM oM
 rw [p8] at this
 exact this
theorem A95(m:Mo)(hs:A6 (Ci m)<=1048576):Pu 13 [.agg (Ci m)] (.own 77 3 (Sy.cs (eU m))):=by
 have h1:=Jj m
 have h2:=Ms.BT (Ba m)
 have h3:=Df.BT (AY m)
 have:=Ac4 m oM oM oM
 rw [eE] at this
 exact this
section
variable (m:Mo) (v:Nv) (t:Tp) (Ct:(Av m).length<=1048576) (hE:BQ v) (A02:A6 (Ay t)<=10000000) (E3:(AS v).length<=10000000) (hs:A6 (Ci m)<=1048576) (b c:Bool) (hsm:Pu 8 [.agg (Ci m)] (.ret (.bool b))) (IF:Pu 9 [.agg (Ay t)] (.ret (.bool c))) (haw:Pu 10 [] (.ret (.bool true)))
include m v t Ct hE A02 E3 hs b c hsm IF haw
theorem A96(Ac:Ia v=false):Pu 3 [.agg (Bd v),.agg (Ci m),.agg (Ay t)] (rB true):=
 pm Ad [cl (@fwS (v)),rp 4 (B2 (B6 Ac)),rp 5 (bt true),cl haw] func3
theorem A97(Ac:Ia v=true)(Ae:b=false):Pu 3 [.agg (Bd v),.agg (Ci m),.agg (Ay t)] (rB true):=
 pm Ad [cl (@fwS (v)),rp 2 (AQ (AJ Ac)),cl hsm,rp 2 (AQ (AJ Ac)),rp 4 (B2 (B6 Ae)),bt true,cl haw] func3
theorem A98(Ac:Ia v=true)(Ae:b=true)(Ao:c=false):Pu 3 [.agg (Bd v),.agg (Ci m),.agg (Ay t)] (rB true):=
 pm Ad [cl (@fwS (v)),rp 2 (AQ (AJ Ac)),cl hsm,rp 2 (AQ (AJ Ac)),rp 2 (AQ (AJ Ae)),cl IF,rp 2 (AQ (AJ Ae)),B2 (B6 Ao),cl haw] func3
theorem A99(Ac:Ia v=true)(Ae:b=true)(Ao:c=true):Pu 3 [.agg (Bd v),.agg (Ci m),.agg (Ay t)] (rB true):=
 pm Ad [cl (@fwS (v)),rp 2 (AQ (AJ Ac)),cl hsm,rp 2 (AQ (AJ Ac)),rp 2 (AQ (AJ Ae)),cl IF,rp 2 (AQ (AJ Ae)),AQ (AJ Ao),cl (@Ac6 (m) hs),cl (@A95 (m) hs),cl (@ssT (m) hs),rp 4 (bt true),cl (@wt (m) (v) (t) Ct hE A02 E3),rp 4 (bt true),cl (@Abv (m) (v) (t) Ct hE A02 E3),rp 2 (bt true),et (J6 m v t) (J6 m v t),cl haw,et (J6 m v t) (J6 m v t)] func3
end
def eG(f:List PV->Option Pr):List (List PV)->Option (List Pr)
 | []=>some []
 | c::r=>match f c with
  | some p=>(match eG f r with
   | some l=>some (p::l)
   | none=>none)
  | none=>none
def jP:Nat->List PV->Option Pr
 | 0,_=>none
 | k+1,cs=>match cs with
  | [.int .i64 o,.str nm,.int .i64 n,.A4]=>some (.mk o nm n [])
  | [.int .i64 o,.str nm,.int .i64 n,.sl 4 es]=>(match eG (jP k) es with
   | some l=>some (.mk o nm n l)
   | none=>none)
  | _=>none
theorem VD{f:List PV->Option Pr}(hf:∀cs p,f cs=some p->DD cs (AO p)):∀ (es:List (List PV)) (l:List Pr),eG f es=some l->Qj es (Pr.cs l)
 | [],l,h=>by simp only [eG,Option.some.injEq] at h; subst h; exact Qj.r _
 | c::r,l,h=>by
  simp only [eG] at h
  split at h
  ·rename_i p hp
   split at h
   ·rename_i l' hl
    simp only [Option.some.injEq] at h
    subst h
    rw [show Pr.cs (p::l')=AO p::Pr.cs l' by simp [Pr.AD]]
    exact Qj.c (hf _ _ hp) (VD hf r l' hl)
   ·cases h
  ·cases h
theorem VE:∀ (k:Nat) (cs:List PV) (p:Pr),jP k cs=some p->DD cs (AO p)
 | 0,_,_,h=>by cases h
 | k+1,cs,p,h=>by
  simp only [jP] at h
  split at h
  ·simp only [Option.some.injEq] at h
   subst h
   exact DD.c (.r _) (DD.c (.r _) (DD.c (.r _) (DD.c (.n 4) (DD.r _))))
  ·split at h
   ·rename_i l hl
    simp only [Option.some.injEq] at h
    subst h
    exact DD.c (.r _) (DD.c (.r _) (DD.c (.r _) (DD.c (Wk.s (VD (VE k) _ _ hl)) (DD.r _))))
   ·cases h
  ·cases h
def knA:Jk:=fun f args e=>if f=173 then (match args with
 | [.agg cs]=>(match jP 50 cs with
  | some p=>if A6 (AO p)<=100000000 then some (.ret (.int .i64 (Ge p)),e) else none
  | none=>none)
 | _=>none) else none
theorem Oc:Et prog knA:=by
 intro f args e r e' h
 unfold knA at h
 split at h
 ·rename_i hf
  subst hf
  split at h
  ·rename_i cs
   split at h
   ·rename_i p hp
    split at h
    ·rename_i hs
     simp only [Option.some.injEq,Prod.mk.injEq] at h
     obtain ⟨rfl,rfl⟩:=h
     have:=Ob.gZ (DD.c (Wk.a (VE _ _ _ hp)) (DD.r [])) (pcT p hs)
     exact ⟨this.1,this.2 e⟩
    ·cases h
   ·cases h
  ·cases h
 ·cases h
def Ac7:List (Nat × Nat × Bool):=[(16,113,false),(16,120,false),(38,9,true),(45,26,false),(60,34,true),(60,54,false),(60,104,false),(60,112,false),(61,34,true),(61,95,true),(114,54,true),(114,187,false),(125,26,true),(125,215,false),(151,194,false),(151,202,true),(160,41,true),(196,81,true),(196,194,false),(196,202,true),(199,87,true),(199,194,true),(199,202,true),(202,37,false),(202,202,true),(205,81,false),(205,202,true),(225,41,true),(238,202,true),(256,97,true),(263,37,false),(263,57,false),(263,194,false),(263,202,true),(275,74,true),(281,37,true),(281,202,true),(291,50,false),(292,37,true),(292,63,true),(292,202,true),(314,3,false),(321,37,true),(321,202,true)]
def jQ(f:FuncId):Md:=⟨fun t=>match Ac7.find? fun x=>x.1==f&&x.2.1==t with
 | some (_,_,true)=>some true
 | some (_,_,false)=>none
 | none=>some false,fun _=>false⟩
theorem vb(a:BA):Pu 26 [.str a] (.ret (.agg [.int .i64 3,.str a,.int .i64 0,.A4])):=Ob.Gm jQ 60 60 mixed kR rfl rfl
theorem ig1:Pu 27 [.agg [.int .i64 0,.str Ah,.int .i64 0,.A4]] (.ret (.agg [.int .i64 1,.str Ah,.A4,.A4,.int .i64 0,.str Ah,.int .i64 0,.A4,.A4])):=Ob.Gm jQ 60 60 mixed kR rfl rfl
theorem ig2:Pu 27 [.agg [.int .i64 13,.str Ah,.int .i64 0,.sl 4 [[.int .i64 3,.str ⟨#[120]⟩,.int .i64 0,.A4],[.int .i64 3,.str ⟨#[118]⟩,.int .i64 0,.A4]]]] (.ret (.agg [.int .i64 1,.str Ah,.A4,.A4,.int .i64 13,.str Ah,.int .i64 0,.sl 4 [[.int .i64 3,.str ⟨#[120]⟩,.int .i64 0,.A4],[.int .i64 3,.str ⟨#[118]⟩,.int .i64 0,.A4]],.A4])):=Ob.Gm jQ 60 60 mixed kR rfl rfl
theorem ig3:Pu 27 [.agg [.int .i64 3,.str ⟨#[118]⟩,.int .i64 0,.A4]] (.ret (.agg [.int .i64 1,.str Ah,.A4,.A4,.int .i64 3,.str ⟨#[118]⟩,.int .i64 0,.A4,.A4])):=Ob.Gm jQ 60 60 mixed kR rfl rfl
theorem aw1:Pu 14 [.agg [.A4,.A4,.A4],.agg [.A4,.A4,.A4,.A4,.A4,.A4],.agg [.int .i64 6,.str Ah,.sl 9 [[.int .i64 1,.str Ah,.A4,.A4,.int .i64 0,.str Ah,.int .i64 0,.A4,.A4],[.int .i64 1,.str Ah,.A4,.A4,.int .i64 13,.str Ah,.int .i64 0,.sl 4 [[.int .i64 3,.str ⟨#[120]⟩,.int .i64 0,.A4],[.int .i64 3,.str ⟨#[118]⟩,.int .i64 0,.A4]],.A4],[.int .i64 2,.str Ah,.A4,.A4,.int .i64 0,.str Ah,.int .i64 0,.A4,.A4]],.sl 1 [[.str ⟨#[120]⟩],[.str ⟨#[121]⟩]],.int .i64 0,.str Ah,.int .i64 0,.A4,.A4]] (.ret (.int .i64 0)):=Ob.Ey knA Oc jQ 60 60 mixed kR rfl rfl
theorem aw2:Pu 20 [.agg [.A4,.A4,.A4,.A4,.sl 6 [[.str ⟨#[117,112,116,111]⟩,.sl 2 [[.str ⟨#[120]⟩,.str ⟨#[73,110,116]⟩]],.int .i64 13,.str Ah,.int .i64 0,.sl 4 [[.int .i64 1,.str Ah,.int .i64 0,.A4],[.int .i64 3,.str ⟨#[120]⟩,.int .i64 0,.A4]]]],.A4]] (.ret (.AE [.str ⟨#[117,112,116,111]⟩,.int .i64 6])):=Ob.Ey knA Oc jQ 60 60 mixed kR rfl rfl
theorem aw3:Pu 16 [.agg [.A4,.A4,.A4,.A4,.A4,.A4],.agg [.A4,.A4,.A4,.A4,.int .i64 6,.str Ah,.sl 9 [[.int .i64 1,.str Ah,.A4,.A4,.int .i64 0,.str Ah,.int .i64 0,.A4,.A4],[.int .i64 1,.str Ah,.A4,.A4,.int .i64 13,.str Ah,.int .i64 0,.sl 4 [[.int .i64 3,.str ⟨#[120]⟩,.int .i64 0,.A4],[.int .i64 3,.str ⟨#[118]⟩,.int .i64 0,.A4]],.A4],[.int .i64 2,.str Ah,.A4,.A4,.int .i64 0,.str Ah,.int .i64 0,.A4,.A4]],.sl 1 [[.str ⟨#[120]⟩],[.str ⟨#[121]⟩]],.int .i64 0,.str Ah,.int .i64 0,.A4,.A4,.sl 4 [[.int .i64 3,.str ⟨#[120]⟩,.int .i64 0,.A4]]]] (.ret (.int .i64 0)):=Ob.Ey knA Oc jQ 60 60 mixed kR rfl rfl
theorem aw4:Pu 14 [.agg [.A4,.A4,.A4],.agg [.A4,.A4,.A4,.A4,.A4,.A4],.agg [.int .i64 1,.str Ah,.A4,.A4,.int .i64 3,.str ⟨#[118]⟩,.int .i64 0,.A4,.A4]] (.ret (.int .i64 11)):=Ob.Ey knA Oc jQ 60 60 mixed kR rfl rfl
theorem aw5:Pu 12 [.agg [.A4,.A4,.A4,.sl 8 [[.str ⟨#[108,101,110]⟩,.str ⟨#[73,110,116,76,105,115,116]⟩,.str ⟨#[73,110,116]⟩,.A4,.int .i64 0,.str Ah,.int .i64 0,.A4]],.A4,.A4]] (.own 77 3 [[.str ⟨#[108,101,110]⟩,.sl 1 [[.str ⟨#[73,110,116,76,105,115,116]⟩]],.str ⟨#[73,110,116]⟩]]):=Ob.Ey knA Oc jQ 60 60 mixed kR rfl rfl
theorem awL  : Pu 10 [] (rB true):=
 pm Ad [cl (@vb (bM 120)),cl (@vb (bM 118)),cl ig1,cl ig2,cl (@vb (bM 120)),cl aw2,cl aw5,cl aw1,rp 3 (bt true),cl (@vb (bM 118)),bt true,cl ig3,bt true,cl aw4,rp 10 (bt true),kp,rp 4 (bt true),kp,rp 7 (bt true),ab true,cl (@vb (bM 120)),rp 3 (bt true),cl aw3,rp 2 (bt true)] func10
theorem jR(v:Nv):Am (Vr.cs (AS v))+Am (Sy.cs (By v))+Am (Ho.cs (AU v))<=A6 (Bd v):=by simp only [A6,CK]; omega
theorem jS(x:Sy):Am (A7 (Ca x))<A6 (Hx x):=by simp only [A6,CK]; omega
theorem jT(x:Ho):Am (Vr.cs (CV x))<A6 (JV x):=by simp only [A6,CK]; omega
theorem A9a(v:Nv)(hs:A6 (Bd v)<=1048576):BQ v/\(AS v).length<=1048576/\(By v).length<=1048576:=by
 have h0:=jR v
 have h1:=Vr.BT (AS v)
 have h2:=Sy.BT (By v)
 have h3:=Ho.BT (AU v)
 exact ⟨⟨by omega,by omega,by omega,fun w hw=>by have:=Sy.mem hw; have:=jS w; have:=Na (Ca w); omega,fun w hw=>by have:=Ho.mem hw; have:=jT w; have:=Vr.BT (CV w); omega⟩,by omega,by omega⟩
theorem TE(m:Mo)(v:Nv)(t:Tp)(hs:A6 (Bd v)+A6 (Ci m)+A6 (Ay t)<=1048576):Pu 3 [.agg (Bd v),.agg (Ci m),.agg (Ay t)] (.ret (.bool true)):=by
 obtain ⟨hE,hw,hsy⟩:=A9a v oM
 have Ct:(Av m).length<=1048576:=by have:=Jj m; have:=Da.BT (Av m); omega
 obtain ⟨b,hb⟩:=dZ m oM
 obtain ⟨c,hc⟩:=Ac5 t oM
 have ht:A6 (Ay t)<=10000000:=by omega
 have E3:(AS v).length<=10000000:=by omega
 have hm:A6 (Ci m)<=1048576:=by omega
 cases h0:Ia v with
 | false=>exact A96 m v t Ct hE ht E3 hm b c hb hc awL h0
 | true=>
  cases h1:b with
  | false=>exact A97 m v t Ct hE ht E3 hm b c hb hc awL h0 h1
  | true=>
   cases h2:c with
   | false=>exact A98 m v t Ct hE ht E3 hm b c hb hc awL h0 h1 h2
   | true=>exact A99 m v t Ct hE ht E3 hm b c hb hc awL h0 h1 h2
end Go.Proofs.YthchpmnkecoafaaGreatDoor
