/- Values of Go as plain data, an evaluator over them, and what the functions of the program return; part Yi. -/
import Derived.Test.YthchpmnkecoafaaGreatDoorYh
import Derived.Test.YthchpmnkecoafaaGreatDoorYe
import Derived.Test.YthchpmnkecoafaaGreatDoorYg
import Derived.Test.YthchpmnkecoafaaGreatDoorYa
set_option linter.unusedSectionVars false
set_option linter.unusedSimpArgs false
set_option linter.unusedVariables false
namespace Go.Proofs.YthchpmnkecoafaaGreatDoor
open Go.Proofs.Tryz
open Go.Pv Go.Proofs.Tryz
set_option maxRecDepth 100000
def X0:Md:=⟨fun _=>some false,fun t=>t==1000001⟩
abbrev Pp(t:Tp)(j:Int)(e:Ext):S:=S.mk [(1,.lp 1 0),(2,A1 0),(35,vL 1 (A7 (Aj t))),(36,A1 ((Aj t).length:Int)),(37,A1 j)] [(1,Bj t)] e
inductive Ij where
 | e0
 | e1
def HJ  : List BA->Ij
 | []=>(Ij.e1)
 | el::r=>(if Ck (AR el)=0 then HJ  r  else (Ij.e0))
def J1(t:Tp)(e:Ext):Ij->A5 × S
 | .e0=>(.ret,S.mk [(1,.lp 1 0),(2,A1 3),(35,vL 1 (A7 (Aj t))),(36,A1 ((Aj t).length:Int))] [(1,Bj t)] e)
 | .e1=>(.exit 0,S.mk [(1,.lp 1 0),(2,A1 0),(35,vL 1 (A7 (Aj t))),(36,A1 ((Aj t).length:Int))] [(1,Bj t)] e)
theorem bI(t:Tp)(DV:BE t=false)(e:Ext)(hN:(Aj t).length<=1000000000):(Ob.loop 68 (Ai f123 0) (Pp t 0  e) (J1 t e (HJ  (List.drop 0 ((Aj t))))).1 (J1 t e (HJ  (List.drop 0 ((Aj t))))).2).ok prog:=by
 refine Ds ((Aj t).length) (fun j _=>Pp t j  e) (fun i _=>HJ  (List.drop i ((Aj t)))) (J1 t e) (fun i _=>True) kR ?_ () trivial
 rintro i u hi -
 rcases Nat.lt_or_ge i ((Aj t).length) with Ag | CO
 ·have hd:=CL Ag
  by_cases h0:Ck (AR (List.getD (Aj t) i Ah))=0
  ·exact lN X0 [dt ((i:Int)<((Aj t).length:Int)),am ((0:Int)<=(i:Int)/\(i:Int)<((A7 (Aj t)).length:Int)) (by (simp only [A3]; omega)),ar (List.getD (A7 (Aj t)) (Int.toNat (i:Int)) []) [.str (List.getD (Aj t) i Ah)] (by simp only [Int.toNat_natCast,Int.toNat_zero]; rw [@Cv (Aj t) (i) Ag]; try rfl),cl (@A29 (List.getD (Aj t) i Ah)),Bi h0,wr ((i:Int)+1)] Ag () trivial (by rw [hd,HJ,iP h0])
  ·exact lX X0 [dt ((i:Int)<((Aj t).length:Int)),am ((0:Int)<=(i:Int)/\(i:Int)<((A7 (Aj t)).length:Int)) (by (simp only [A3]; omega)),ar (List.getD (A7 (Aj t)) (Int.toNat (i:Int)) []) [.str (List.getD (Aj t) i Ah)] (by simp only [Int.toNat_natCast,Int.toNat_zero]; rw [@Cv (Aj t) (i) Ag]; try rfl),cl (@A29 (List.getD (Aj t) i Ah)),Bv h0] (Ij.e0) (by rw [hd,HJ,iN h0])
 ·have he:i=(Aj t).length:=by omega
  exact lX X0 [df ((i:Int)<((Aj t).length:Int))] (Ij.e1) (by rw [he,List.drop_length,HJ])
theorem A4z(t:Tp)(DV:BE t=false)(e:Ext)(hN:(Aj t).length<=1000000000)(At:(HJ  ((Aj t)))=(Ij.e0)):(Ob.loop 68 (Ai f123 0) (Pp t 0  e) (J1 t e (Ij.e0)).1 (J1 t e (Ij.e0)).2).ok prog:=
 rz (bI t DV e hN) At
theorem A50(t:Tp)(DV:BE t=false)(e:Ext)(hN:(Aj t).length<=1000000000)(At:(HJ  ((Aj t)))=(Ij.e1)):(Ob.loop 68 (Ai f123 0) (Pp t 0  e) (J1 t e (Ij.e1)).1 (J1 t e (Ij.e1)).2).ok prog:=
 rz (bI t DV e hN) At
theorem bJ:∀l:List BA,HJ l=if BX (fun s=>Ck (AR s)) l=0 then .e1 else .e0
 | []=>by simp [HJ,BX]
 | c::r=>by
  by_cases h:Ck (AR c)=0
  ·simp [HJ,BX,h,bJ r]
  ·simp [HJ,BX,h]
theorem y3(t:Tp)(DV:BE t=false)(e:Ext)(hN:(Aj t).length<=1000000000)(hx:BX (fun s=>Ck (AR s)) (Aj t)=0):(Ob.loop 68 (Ai f123 0) (Pp t 0 e) (J1 t e .e1).1 (J1 t e .e1).2).ok prog:=A50 t DV e hN (by rw [bJ,iP hx])
theorem Abc(t:Tp)(DV:BE t=false)(e:Ext)(hN:(Aj t).length<=1000000000)(hx:¬BX (fun s=>Ck (AR s)) (Aj t)=0):(Ob.loop 68 (Ai f123 0) (Pp t 0 e) (J1 t e .e0).1 (J1 t e .e0).2).ok prog:=A4z t DV e hN (by rw [bJ,iN hx])
abbrev V2(t:Tp)(j:Int)(e:Ext):S:=S.mk [(2,A1 0),(54,.uniq 41 4 (AO (Br t)::Pr.cs (Ak t))),(55,A1 ((CU t).length:Int)),(56,A1 j)] [] e
inductive GG where
 | e0 (el:Pr)
 | e1
def EP  : List Pr->GG
 | []=>(GG.e1)
 | el::r=>(if BY el=true then EP  r  else (if Ge el=0 then EP  r  else (GG.e0 el)))
def ND(t:Tp)(e:Ext):GG->A5 × S
 | .e0 el=>(.ret,S.mk [(2,A1 (Ge el)),(54,.uniq 41 4 (AO (Br t)::Pr.cs (Ak t))),(55,A1 ((CU t).length:Int))] [] e)
 | .e1=>(.exit 2,S.mk [(2,A1 0),(54,.uniq 41 4 (AO (Br t)::Pr.cs (Ak t))),(55,A1 ((CU t).length:Int))] [] e)
theorem bK(t:Tp)(DV:BE t=false)(Ma:(Aj t).length<=1000000000)(Jh:BX (fun s=>Ck (AR s)) (Aj t)=0)(V3:F1 (Aj t)=true)(Bg:∀w:Pr,w∈CU t->Pu 173 [.agg (AO w)] (.ret (.int .i64 (Ge w))))(QB:(Ak t).length<=100000000)(e:Ext)(hN:(CU t).length<=1000000000):(Ob.loop 68 (Ai f123 1) (V2 t 0  e) (ND t e (EP  (List.drop 0 ((CU t))))).1 (ND t e (EP  (List.drop 0 ((CU t))))).2).ok prog:=by
 refine Ds ((CU t).length) (fun j _=>V2 t j  e) (fun i _=>EP  (List.drop i ((CU t)))) (ND t e) (fun i _=>True) kR ?_ () trivial
 rintro i u hi -
 rcases Nat.lt_or_ge i ((CU t).length) with Ag | CO
 ·have hd:=AH Ag
  by_cases h0:BY (List.getD (CU t) i default)=true
  ·exact lN X0 [dt ((i:Int)<((CU t).length:Int)),am ((0:Int)<=(i:Int)/\(i:Int)<((AO (Br t)::Pr.cs (Ak t)).length:Int)) (by (simp only [List.length_map,List.length_append,List.length_cons,List.length_nil,A3,Pr.A0,Tp.A0,Pm.A0,Ex.A0,Al.A0,Vr.A0,Cn.A0,Da.A0,Cl.A0,Bo.A0,Df.A0,In.A0,Cs.A0,Ms.A0,Qu.A0,Sy.A0,Ho.A0,Int.toNat_natCast,Bool.cond_true_left,Bool.cond_false_right,Int.toNat_zero,D2,DL,EG]; omega)),ar (List.getD (AO (Br t)::Pr.cs (Ak t)) (Int.toNat (i:Int)) []) (AO (List.getD (CU t) i default)) (by simp only [Int.toNat_natCast,Int.toNat_zero]; rw [@Ls (t) (i) Ag]; try rfl),cl (@zr (List.getD (CU t) i default)),B2 h0,wr ((i:Int)+1)] Ag () trivial (by rw [hd,EP,iP h0])
  ·by_cases h1:Ge (List.getD (CU t) i default)=0
   ·exact lN X0 [dt ((i:Int)<((CU t).length:Int)),am ((0:Int)<=(i:Int)/\(i:Int)<((AO (Br t)::Pr.cs (Ak t)).length:Int)) (by (simp only [List.length_map,List.length_append,List.length_cons,List.length_nil,A3,Pr.A0,Tp.A0,Pm.A0,Ex.A0,Al.A0,Vr.A0,Cn.A0,Da.A0,Cl.A0,Bo.A0,Df.A0,In.A0,Cs.A0,Ms.A0,Qu.A0,Sy.A0,Ho.A0,Int.toNat_natCast,Bool.cond_true_left,Bool.cond_false_right,Int.toNat_zero,D2,DL,EG]; omega)),ar (List.getD (AO (Br t)::Pr.cs (Ak t)) (Int.toNat (i:Int)) []) (AO (List.getD (CU t) i default)) (by simp only [Int.toNat_natCast,Int.toNat_zero]; rw [@Ls (t) (i) Ag]; try rfl),cl (@zr (List.getD (CU t) i default)),AQ (DQ h0),cl (@Bg (List.getD (CU t) i default) (by simp_all [D2,DL,EG])),Bi h1,wr ((i:Int)+1)] Ag () trivial (by rw [hd,EP,iN h0,iP h1])
   ·exact lX X0 [dt ((i:Int)<((CU t).length:Int)),am ((0:Int)<=(i:Int)/\(i:Int)<((AO (Br t)::Pr.cs (Ak t)).length:Int)) (by (simp only [List.length_map,List.length_append,List.length_cons,List.length_nil,A3,Pr.A0,Tp.A0,Pm.A0,Ex.A0,Al.A0,Vr.A0,Cn.A0,Da.A0,Cl.A0,Bo.A0,Df.A0,In.A0,Cs.A0,Ms.A0,Qu.A0,Sy.A0,Ho.A0,Int.toNat_natCast,Bool.cond_true_left,Bool.cond_false_right,Int.toNat_zero,D2,DL,EG]; omega)),ar (List.getD (AO (Br t)::Pr.cs (Ak t)) (Int.toNat (i:Int)) []) (AO (List.getD (CU t) i default)) (by simp only [Int.toNat_natCast,Int.toNat_zero]; rw [@Ls (t) (i) Ag]; try rfl),cl (@zr (List.getD (CU t) i default)),AQ (DQ h0),cl (@Bg (List.getD (CU t) i default) (by simp_all [D2,DL,EG])),Bv h1] (GG.e0 (List.getD ((CU t)) i default)) (by rw [hd,EP,iN h0,iN h1])
 ·have he:i=(CU t).length:=by omega
  exact lX X0 [df ((i:Int)<((CU t).length:Int))] (GG.e1) (by rw [he,List.drop_length,EP])
theorem A51(t:Tp)(DV:BE t=false)(Ma:(Aj t).length<=1000000000)(Jh:BX (fun s=>Ck (AR s)) (Aj t)=0)(V3:F1 (Aj t)=true)(Bg:∀w:Pr,w∈CU t->Pu 173 [.agg (AO w)] (.ret (.int .i64 (Ge w))))(QB:(Ak t).length<=100000000)(e:Ext)(hN:(CU t).length<=1000000000)(p0:Pr)(At:(EP  ((CU t)))=(GG.e0 p0)):(Ob.loop 68 (Ai f123 1) (V2 t 0  e) (ND t e (GG.e0 p0)).1 (ND t e (GG.e0 p0)).2).ok prog:=
 rz (bK t DV Ma Jh V3 Bg QB e hN) At
theorem A52(t:Tp)(DV:BE t=false)(Ma:(Aj t).length<=1000000000)(Jh:BX (fun s=>Ck (AR s)) (Aj t)=0)(V3:F1 (Aj t)=true)(Bg:∀w:Pr,w∈CU t->Pu 173 [.agg (AO w)] (.ret (.int .i64 (Ge w))))(QB:(Ak t).length<=100000000)(e:Ext)(hN:(CU t).length<=1000000000)(At:(EP  ((CU t)))=(GG.e1)):(Ob.loop 68 (Ai f123 1) (V2 t 0  e) (ND t e (GG.e1)).1 (ND t e (GG.e1)).2).ok prog:=
 rz (bK t DV Ma Jh V3 Bg QB e hN) At
def OE(w:Pr):Int:=if BY w=true then 0 else Ge w
theorem bL:∀l:List Pr,(BX OE l=0->EP l = .e1)/\(¬BX OE l=0->∃w,EP l = .e0 w/\Ge w=BX OE l)
 | []=>⟨fun _=>rfl,fun h=>absurd rfl h⟩
 | c::r=>by
  have ih:=bL r
  by_cases hz:BY c=true
  ·have e:OE c=0:=by unfold OE; rw [iP hz]
   simp only [BX,EP,e,hz,if_true]; exact ih
  ·by_cases hp:Ge c=0
   ·have e:OE c=0:=by unfold OE; rw [iN hz,hp]
    simp only [BX,EP,e,hz,hp,if_true,if_false]; exact ih
   ·have e:OE c=Ge c:=by unfold OE; rw [iN hz]
    simp only [BX,EP,e,hz,hp,if_false]
    exact ⟨fun h=>h.elim,fun _=>⟨c,rfl,rfl⟩⟩
section
variable (t:Tp) (Bg:∀w:Pr,w∈CU t->Pu 173 [.agg (AO w)] (.ret (.int .i64 (Ge w)))) (QB:(Ak t).length<=100000000) (Ma:(Aj t).length<=1000000000)
include t Bg QB Ma
theorem A53(Ac:BE t=true):Pu 123 [.agg (Ay t)] (rI 1):=
 pu X0 (fun e=>[lf (S.mk [(0,.v (.agg (Ay t))),(1,.lp 1 0),(2,A1 0)] [(1,Bj t)] e) (@bH (t) (e)) ⟨⟨W,W,An⟩,⟨⟨W,W,W,W,W,W,W,W,W,An⟩,An⟩,rfl⟩,B2 Ac]) func123
theorem A54(Ac:BE t=false)(Ae:BX (fun s=>Ck (AR s)) (Aj t)=0)(Ao:F1 (Aj t)=false):Pu 123 [.agg (Ay t)] (rI 4):=
 pu X0 (fun e=>[lf (S.mk [(0,.v (.agg (Ay t))),(1,.lp 1 0),(2,A1 0)] [(1,Bj t)] e) (@bH (t) (e)) ⟨⟨W,W,An⟩,⟨⟨W,W,W,W,W,W,W,W,W,An⟩,An⟩,rfl⟩,AQ Ac,sl (A3 (Aj t)),lp (S.mk [(1,.lp 1 0),(2,A1 0),(33,.v (.bool (BE t))),(34,.lp 1 3),(35,vL 1 (A7 (Aj t))),(36,A1 ((Aj t).length:Int)),(37,A1 0)] [(1,Bj t)] e) (@y3 (t) Ac (e) Ma Ae) xr,cl (@dsT (Aj t) Ma),B2 (B6 Ao)]) func123
theorem A55(Ac:BE t=false)(Ae:BX (fun s=>Ck (AR s)) (Aj t)=0)(Ao:F1 (Aj t)=true)(Tx:Pr)(B9:EP (CU t)=GG.e0 Tx):Pu 123 [.agg (Ay t)] (rI (Ge Tx)):=
 pu X0 (fun e=>[lf (S.mk [(0,.v (.agg (Ay t))),(1,.lp 1 0),(2,A1 0)] [(1,Bj t)] e) (@bH (t) (e)) ⟨⟨W,W,An⟩,⟨⟨W,W,W,W,W,W,W,W,W,An⟩,An⟩,rfl⟩,AQ Ac,sl (A3 (Aj t)),lp (S.mk [(1,.lp 1 0),(2,A1 0),(33,.v (.bool (BE t))),(34,.lp 1 3),(35,vL 1 (A7 (Aj t))),(36,A1 ((Aj t).length:Int)),(37,A1 0)] [(1,Bj t)] e) (@y3 (t) Ac (e) Ma Ae) xr,cl (@dsT (Aj t) Ma),AQ (AJ Ao),am (List.length ([AO (Br t)]++(fun x=>Prod.snd x) (4,Pr.cs (Ak t))) * (55+1)<=140737488355328) (by (simp only [List.length_append,List.length_cons,List.length_nil,Pr.A0]; omega)),ai (↑((fun x=>List.length (Prod.snd x)) (3+1,[AO (Br t)]++(fun x=>Prod.snd x) (4,Pr.cs (Ak t)))):Int) ((CU t).length:Int) (by (simp only [List.length_append,List.length_cons,List.length_nil,Pr.A0,DL,EG]; done)),lp (S.mk [(1,.lp 1 0),(2,A1 0),(35,vL 1 (A7 (Aj t))),(36,A1 ((Aj t).length:Int)),(45,.lp 1 3),(46,vL 1 (A7 (Aj t))),(47,.v (.bool (F1 (Aj t)))),(48,.v (.bool !F1 (Aj t))),(49,.lp 1 4),(50,.v (.agg (AO (Br t)))),(51,LV.full 4 [AO (Br t)]),(52,.lp 1 8),(53,vL 4 (Pr.cs (Ak t))),(54,.uniq 41 4 (AO (Br t)::List.append [] (Pr.cs (Ak t)))),(55,A1 ((CU t).length:Int)),(56,A1 0)] [(1,Bj t)] e) (@A51 (t) Ac Ma Ae Ao Bg QB (e) (by (apply QA <;> first | assumption | omega | decide)) Tx B9) ⟨⟨W,(by first | exact .inl rfl | exact .inr ⟨rfl,rfl⟩ | exact .inr rfl | exact .inr trivial | exact .inl (by first | (simp only [List.nil_append,AX,AM,Pr.A2,Tp.A2,Ex.A2,Vr.A2,Df.A2]; done) | (simp only [List.nil_append,AX,AM,Pr.A2,Tp.A2,Ex.A2,Vr.A2,Df.A2]; rfl))),W,W,An⟩,trivial,rfl⟩]) func123
theorem A56(Ac:BE t=false)(Ae:BX (fun s=>Ck (AR s)) (Aj t)=0)(Ao:F1 (Aj t)=true)(AK:EP (CU t)=GG.e1):Pu 123 [.agg (Ay t)] (rI 0):=
 pu X0 (fun e=>[lf (S.mk [(0,.v (.agg (Ay t))),(1,.lp 1 0),(2,A1 0)] [(1,Bj t)] e) (@bH (t) (e)) ⟨⟨W,W,An⟩,⟨⟨W,W,W,W,W,W,W,W,W,An⟩,An⟩,rfl⟩,AQ Ac,sl (A3 (Aj t)),lp (S.mk [(1,.lp 1 0),(2,A1 0),(33,.v (.bool (BE t))),(34,.lp 1 3),(35,vL 1 (A7 (Aj t))),(36,A1 ((Aj t).length:Int)),(37,A1 0)] [(1,Bj t)] e) (@y3 (t) Ac (e) Ma Ae) xr,cl (@dsT (Aj t) Ma),AQ (AJ Ao),am (List.length ([AO (Br t)]++(fun x=>Prod.snd x) (4,Pr.cs (Ak t))) * (55+1)<=140737488355328) (by (simp only [List.length_append,List.length_cons,List.length_nil,Pr.A0]; omega)),ai (↑((fun x=>List.length (Prod.snd x)) (3+1,[AO (Br t)]++(fun x=>Prod.snd x) (4,Pr.cs (Ak t)))):Int) ((CU t).length:Int) (by (simp only [List.length_append,List.length_cons,List.length_nil,Pr.A0,DL,EG]; done)),lp (S.mk [(1,.lp 1 0),(2,A1 0),(35,vL 1 (A7 (Aj t))),(36,A1 ((Aj t).length:Int)),(45,.lp 1 3),(46,vL 1 (A7 (Aj t))),(47,.v (.bool (F1 (Aj t)))),(48,.v (.bool !F1 (Aj t))),(49,.lp 1 4),(50,.v (.agg (AO (Br t)))),(51,LV.full 4 [AO (Br t)]),(52,.lp 1 8),(53,vL 4 (Pr.cs (Ak t))),(54,.uniq 41 4 (AO (Br t)::List.append [] (Pr.cs (Ak t)))),(55,A1 ((CU t).length:Int)),(56,A1 0)] [(1,Bj t)] e) (@A52 (t) Ac Ma Ae Ao Bg QB (e) (by (apply QA <;> first | assumption | omega | decide)) AK) ⟨⟨W,(by first | exact .inl rfl | exact .inr ⟨rfl,rfl⟩ | exact .inr rfl | exact .inr trivial | exact .inl (by first | (simp only [List.nil_append,AX,AM,Pr.A2,Tp.A2,Ex.A2,Vr.A2,Df.A2]; done) | (simp only [List.nil_append,AX,AM,Pr.A2,Tp.A2,Ex.A2,Vr.A2,Df.A2]; rfl))),W,W,An⟩,trivial,rfl⟩]) func123
theorem A57(Ac:BE t=false)(Ae:¬BX (fun s=>Ck (AR s)) (Aj t)=0):Pu 123 [.agg (Ay t)] (rI 3):=
 pu X0 (fun e=>[lf (S.mk [(0,.v (.agg (Ay t))),(1,.lp 1 0),(2,A1 0)] [(1,Bj t)] e) (@bH (t) (e)) ⟨⟨W,W,An⟩,⟨⟨W,W,W,W,W,W,W,W,W,An⟩,An⟩,rfl⟩,AQ Ac,sl (A3 (Aj t)),lp (S.mk [(1,.lp 1 0),(2,A1 0),(33,.v (.bool (BE t))),(34,.lp 1 3),(35,vL 1 (A7 (Aj t))),(36,A1 ((Aj t).length:Int)),(37,A1 0)] [(1,Bj t)] e) (@Abc (t) Ac (e) Ma Ae) xr]) func123
end
def IB(t:Tp):Int:=if BE t=true then 1 else if BX (fun s=>Ck (AR s)) (Aj t)=0 then (if F1 (Aj t)=false then 4 else BX OE (CU t)) else 3
theorem rpT(t:Tp)(hs:A6 (Ay t)<=100000000):Pu 123 [.agg (Ay t)] (.ret (.int .i64 (IB t))):=by
 have h1:=BM t
 have h2:=Pr.BT (Ak t)
 have hk:∀w:Pr,w∈CU t->Pu 173 [.agg (AO w)] (.ret (.int .i64 (Ge w))):=fun w hw=>pcT w (by have:=Sc hw; omega)
 have hn:(Aj t).length<=1000000000:=by have:=Na (Aj t); have h8:Am (A7 (Aj t))<A6 (Ay t):=(by simp only [A6,CK]; omega); omega
 unfold IB
 cases h0:BE t with
 | true=>rw [iP rfl]; exact A53 t hk oM hn h0
 | false=>
  rw [iN dD]
  by_cases h3:BX (fun s=>Ck (AR s)) (Aj t)=0
  ·rw [iP h3]
   cases h4:F1 (Aj t) with
   | false=>rw [iP rfl]; exact A54 t hk oM hn h0 h3 h4
   | true=>
    rw [iN dD]
    by_cases h5:BX OE (CU t)=0
    ·rw [h5]; exact A56 t hk oM hn h0 h3 h4 ((bL _).1 h5)
    ·obtain ⟨w,e1,e2⟩:=(bL _).2 h5
     rw [<-e2]; exact A55 t hk oM hn h0 h3 h4 w e1
  ·rw [iN h3]; exact A57 t hk oM hn h0 h3
abbrev V4(t:Tp)(pf:Tp->Int)(j:Int)(e:Ext):S:=S.mk [(2,A1 0),(13,vL 9 (Tp.cs (A8 t))),(14,A1 ((A8 t).length:Int)),(15,A1 j)] [] e
inductive GH where
 | e0 (el:Tp)
 | e1
def G4(pf:Tp->Int):List Tp->GH
 | []=>(GH.e1)
 | el::r=>(if pf el=0 then G4 pf r  else (GH.e0 el))
def NF(t:Tp)(pf:Tp->Int)(e:Ext):GH->A5 × S
 | .e0 el=>(.ret,S.mk [(2,A1 (pf el)),(13,vL 9 (Tp.cs (A8 t))),(14,A1 ((A8 t).length:Int))] [] e)
 | .e1=>(.exit 0,S.mk [(2,A1 0),(13,vL 9 (Tp.cs (A8 t))),(14,A1 ((A8 t).length:Int))] [] e)
theorem bN(t:Tp)(pf:Tp->Int)(Bg:∀w:Tp,w∈A8 t->Pu 71 [.agg (Ay w)] (.ret (.int .i64 (pf w))))(Bq:A6 (Ay t)<=100000000)(DV:IB t=0)(e:Ext)(hN:(A8 t).length<=1000000000):(Ob.loop 25 (Ai f71 0) (V4 t pf 0  e) (NF t pf e (G4 pf (List.drop 0 ((A8 t))))).1 (NF t pf e (G4 pf (List.drop 0 ((A8 t))))).2).ok prog:=by
 refine Ds ((A8 t).length) (fun j _=>V4 t pf j  e) (fun i _=>G4 pf (List.drop i ((A8 t)))) (NF t pf e) (fun i _=>True) kR ?_ () trivial
 rintro i u hi -
 rcases Nat.lt_or_ge i ((A8 t).length) with Ag | CO
 ·have hd:=AH Ag
  by_cases h0:pf (List.getD (A8 t) i default)=0
  ·exact lN Ad [dt ((i:Int)<((A8 t).length:Int)),am ((0:Int)<=(i:Int)/\(i:Int)<((Tp.cs (A8 t)).length:Int)) (by (simp only [Tp.A0]; omega)),ar (List.getD (Tp.cs (A8 t)) (Int.toNat (i:Int)) []) (Ay (List.getD (A8 t) i default)) (by simp only [Int.toNat_natCast,Int.toNat_zero]; rw [@Tp.B5 (A8 t) (i) Ag]; try rfl),cl (@Bg (List.getD (A8 t) i default) (by simp_all [D2])),Bi h0,wr ((i:Int)+1)] Ag () trivial (by rw [hd,G4,iP h0])
  ·exact lX Ad [dt ((i:Int)<((A8 t).length:Int)),am ((0:Int)<=(i:Int)/\(i:Int)<((Tp.cs (A8 t)).length:Int)) (by (simp only [Tp.A0]; omega)),ar (List.getD (Tp.cs (A8 t)) (Int.toNat (i:Int)) []) (Ay (List.getD (A8 t) i default)) (by simp only [Int.toNat_natCast,Int.toNat_zero]; rw [@Tp.B5 (A8 t) (i) Ag]; try rfl),cl (@Bg (List.getD (A8 t) i default) (by simp_all [D2])),Bv h0] (GH.e0 (List.getD ((A8 t)) i default)) (by rw [hd,G4,iN h0])
 ·have he:i=(A8 t).length:=by omega
  exact lX Ad [df ((i:Int)<((A8 t).length:Int))] (GH.e1) (by rw [he,List.drop_length,G4])
theorem A58(t:Tp)(pf:Tp->Int)(Bg:∀w:Tp,w∈A8 t->Pu 71 [.agg (Ay w)] (.ret (.int .i64 (pf w))))(Bq:A6 (Ay t)<=100000000)(DV:IB t=0)(e:Ext)(hN:(A8 t).length<=1000000000)(p0:Tp)(At:(G4 pf ((A8 t)))=(GH.e0 p0)):(Ob.loop 25 (Ai f71 0) (V4 t pf 0  e) (NF t pf e (GH.e0 p0)).1 (NF t pf e (GH.e0 p0)).2).ok prog:=
 rz (bN t pf Bg Bq DV e hN) At
theorem A59(t:Tp)(pf:Tp->Int)(Bg:∀w:Tp,w∈A8 t->Pu 71 [.agg (Ay w)] (.ret (.int .i64 (pf w))))(Bq:A6 (Ay t)<=100000000)(DV:IB t=0)(e:Ext)(hN:(A8 t).length<=1000000000)(At:(G4 pf ((A8 t)))=(GH.e1)):(Ob.loop 25 (Ai f71 0) (V4 t pf 0  e) (NF t pf e (GH.e1)).1 (NF t pf e (GH.e1)).2).ok prog:=
 rz (bN t pf Bg Bq DV e hN) At
theorem bO(pf:Tp->Int):∀l:List Tp,(BX pf l=0->G4 pf l = .e1)/\(¬BX pf l=0->∃w,G4 pf l = .e0 w/\pf w=BX pf l)
 | []=>⟨fun _=>rfl,fun h=>absurd rfl h⟩
 | c::r=>by
  have ih:=bO pf r
  by_cases hp:pf c=0
  ·simp only [BX,G4,hp,if_true]; exact ih
  ·simp only [BX,G4,hp,if_false]
   exact ⟨fun h=>h.elim,fun _=>⟨c,rfl,rfl⟩⟩
section
variable (t:Tp) (pf:Tp->Int) (Bg:∀w:Tp,w∈A8 t->Pu 71 [.agg (Ay w)] (.ret (.int .i64 (pf w)))) (Bq:A6 (Ay t)<=100000000) (WE:(A8 t).length<=1000000000)
include t pf Bg Bq WE
theorem A5a(Ac:¬IB t=0):Pu 71 [.agg (Ay t)] (rI (IB t)):=
 pm Ad [cl (@rpT (t) Bq),Bv Ac] func71
theorem A5b(Ac:IB t=0)(Ii:Tp)(Ao:G4 pf (A8 t)=GH.e0 Ii):Pu 71 [.agg (Ay t)] (rI (pf Ii)):=
 pu Ad (fun e=>[cl (@rpT (t) Bq),Bi Ac,sl (Tp.A0 (A8 t)),lp (S.mk [(0,.v (.agg (Ay t))),(1,.lp 1 0),(2,A1 0),(7,.v (.agg (Ay t))),(8,A1 (IB t)),(3,A1 (IB t)),(9,A1 (IB t)),(10,.v (.bool (IB t != 0))),(12,.lp 1 2),(13,vL 9 (Tp.cs (A8 t))),(14,A1 ((A8 t).length:Int)),(15,A1 0)] [(1,Bj t)] e) (@A58 (t) (pf) Bg Bq Ac (e) WE Ii Ao) xr]) func71
theorem A5c(Ac:IB t=0)(Ae:G4 pf (A8 t)=GH.e1):Pu 71 [.agg (Ay t)] (rI 0):=
 pu Ad (fun e=>[cl (@rpT (t) Bq),Bi Ac,sl (Tp.A0 (A8 t)),lp (S.mk [(0,.v (.agg (Ay t))),(1,.lp 1 0),(2,A1 0),(7,.v (.agg (Ay t))),(8,A1 (IB t)),(3,A1 (IB t)),(9,A1 (IB t)),(10,.v (.bool (IB t != 0))),(12,.lp 1 2),(13,vL 9 (Tp.cs (A8 t))),(14,A1 ((A8 t).length:Int)),(15,A1 0)] [(1,Bj t)] e) (@A59 (t) (pf) Bg Bq Ac (e) WE Ae) xr]) func71
end
def X1:Nat->Tp->Int
 | 0,_=>0
 | d+1,t=>if IB t=0 then BX (X1 d) (A8 t) else IB t
theorem nN:∀ (d:Nat) (t:Tp),A6 (Ay t)<d->d<=100000001->Pu 71 [.agg (Ay t)] (.ret (.int .i64 (X1 d t)))
 | 0,_,h,_=>by omega
 | d+1,t,h,hd=>by
  have h1:=BM t
  have h3:=Tp.BT (A8 t)
  have ht:∀w:Tp,w∈A8 t->Pu 71 [.agg (Ay w)] (.ret (.int .i64 (X1 d w))):=fun w hw=>nN d w (by have:=Tp.mem hw; omega) oM
  rw [X1]
  by_cases h0:IB t=0
  ·rw [iP h0]
   by_cases h5:BX (X1 d) (A8 t)=0
   ·rw [h5]; exact A5c t _ ht oM oM h0 ((bO _ _).1 h5)
   ·obtain ⟨w,e1,e2⟩:=(bO _ _).2 h5
    rw [<-e2]; exact A5b t _ ht oM oM h0 w e1
  ·rw [iN h0]; exact A5a t _ ht oM oM h0
def rsF(t:Tp):Int:=X1 (A6 (Ay t)+1) t
theorem rsT(t:Tp)(hs:A6 (Ay t)<=100000000):Pu 71 [.agg (Ay t)] (.ret (.int .i64 (rsF t))):=nN _ t oM oM
def DW(t:Tp):Int:=(if Ee t=0 then (rsF t) else (Ee t))
theorem rcS(t:Tp)(hs:A6 (Ay t)<=100000000):Pu 33 [.agg (Ay t)] (rI (DW t)):=by
 by_cases h0:Ee t=0
 ·simp only [DW,iP h0]; exact pm Ad [cl (@tyC (t) hs),Bi h0,cl (@rsT (t) hs)] func33
 ·simp only [DW,iN h0]; exact pm Ad [cl (@tyC (t) hs),Bv h0] func33
theorem rzr(u:Pr):Pu 177 [.agg (AO u)] (rB (BY u)):=
 pm Ad [cl (@Ab5 (u))] func177
abbrev rpI(t:Tp)(xe:Ext):S:=⟨[(1,.lp 1 0),(2,.v (.int .i64 0))],[(1,Bj t)],xe⟩
section
variable (t:Tp) (xe:Ext)
include t xe
theorem A5d(Ac:AA t=6)(Ae:BY (Br t)=false)(cx:Cx)(Ar:cx.n=65){Q:A5->S->Prop}(hq:Q (.normal) (S.mk [(1,.lp 1 0),(2,A1 0),(27,.v (.bool true))] [(1,Bj t)] xe)):PW prog cx (AW f127 1) (rpI t xe) Q:=
 pw Ad 65 [rp 3 (Bh Ac),cl (@rzr (Br t)),rp 2 (Bh Ac),rp 6 (B2 (B6 Ae))] [1,2,27] [1] Ar hq
theorem A5e(Ac:AA t=6)(Ae:BY (Br t)=true)(cx:Cx)(Ar:cx.n=65){Q:A5->S->Prop}(hq:Q (.normal) (S.mk [(1,.lp 1 0),(2,A1 0),(27,.v (.bool (decide (((Ak t).length:Int)>0))))] [(1,Bj t)] xe)):PW prog cx (AW f127 1) (rpI t xe) Q:=
 pw Ad 65 [rp 3 (Bh Ac),cl (@rzr (Br t)),rp 2 (Bh Ac),rp 4 (AQ (AJ Ae)),rp 3 (nt (AA t) 4),sl (Pr.A0 (Ak t)),nt (AA t) 4,AQ (AJ Ae),nt (AA t) 4,AQ (AJ Ae)] [1,2,27] [1] Ar hq
theorem A5f(Ac:¬AA t=6)(Ae:¬AA t=4)(cx:Cx)(Ar:cx.n=65){Q:A5->S->Prop}(hq:Q (.normal) (S.mk [(1,.lp 1 0),(2,A1 0),(27,.v (.bool (decide (((Ak t).length:Int)>0))))] [(1,Bj t)] xe)):PW prog cx (AW f127 1) (rpI t xe) Q:=
 pw Ad 65 [rp 5 (Aw Ac),rp 4 (bf false),rp 3 (Bv Ae),sl (Pr.A0 (Ak t)),Bv Ae,bf false,Bv Ae,bf false] [1,2,27] [1] Ar hq
theorem A5g(Ac:¬AA t=6)(Ae:AA t=4)(cx:Cx)(Ar:cx.n=65){Q:A5->S->Prop}(hq:Q (.normal) (S.mk [(1,.lp 1 0),(2,A1 0),(27,.v (.bool false))] [(1,Bj t)] xe)):PW prog cx (AW f127 1) (rpI t xe) Q:=
 pw Ad 65 [rp 5 (Aw Ac),rp 4 (bf false),rp 4 (Bi Ae),bf false,Bi Ae,bf false] [1,2,27] [1] Ar hq
end
def CD(t:Tp):Bool:=(if AA t=6 then (if BY (Br t)=true then ((decide (((Ak t).length:Int)>0))) else (true)) else (if AA t=4 then (false) else ((decide (((Ak t).length:Int)>0)))))
theorem bP(t:Tp)(xe:Ext):(Ob.Ev 65 (AW f127 1) (rpI t xe) (.normal) (S.mk [(1,.lp 1 0),(2,A1 0),(27,.v (.bool (CD t)))] [(1,Bj t)] xe)).ok prog:=by
 intro cx Ar
 by_cases g0:AA t=6
 ·by_cases g1:BY (Br t)=true
  ·exact A5e t xe g0 g1 cx Ar ⟨rfl,by rw [show CD t=((decide (((Ak t).length:Int)>0))) by unfold CD; rw [iP g0,iP g1]]⟩
  ·exact A5d t xe g0 (Bool.eq_false_iff.2 g1) cx Ar ⟨rfl,by rw [show CD t=(true) by unfold CD; rw [iP g0,iN g1]]⟩
 ·by_cases g1:AA t=4
  ·exact A5g t xe g0 g1 cx Ar ⟨rfl,by rw [show CD t=(false) by unfold CD; rw [iN g0,iP g1]]⟩
  ·exact A5f t xe g0 g1 cx Ar ⟨rfl,by rw [show CD t=((decide (((Ak t).length:Int)>0))) by unfold CD; rw [iN g0,iN g1]]⟩
abbrev V5(t:Tp)(xe:Ext)(j:Int)   : S:=S.mk [(1,.lp 1 0),(2,A1 0),(29,vL 1 (A7 (Aj t))),(30,A1 ((Aj t).length:Int)),(31,A1 j)] [(1,Bj t)] xe
inductive FC where
 | e0
 | e1
def ES  : List BA->FC
 | []=>(FC.e1)
 | el::r=>(if Ck (AR el)=0 then ES  r  else (FC.e0))
def NG(t:Tp)(xe:Ext)  : FC->A5 × S
 | .e0=>(.ret,S.mk [(1,.lp 1 0),(2,A1 3),(29,vL 1 (A7 (Aj t))),(30,A1 ((Aj t).length:Int))] [(1,Bj t)] xe)
 | .e1=>(.exit 0,S.mk [(1,.lp 1 0),(2,A1 0),(29,vL 1 (A7 (Aj t))),(30,A1 ((Aj t).length:Int))] [(1,Bj t)] xe)
theorem bQ(t:Tp)(xe:Ext)(hN:(Aj t).length<=1000000000):(Ob.loop 65 (Ai f127 0) (V5 t xe 0) (NG t xe  (ES  (List.drop 0 ((Aj t))))).1 (NG t xe  (ES  (List.drop 0 ((Aj t))))).2).ok prog:=by
 refine Ds ((Aj t).length) (fun j _=>V5 t xe j) (fun i _=>ES  (List.drop i ((Aj t)))) (NG t xe) (fun i _=>True) kR ?_ () trivial
 rintro i u hi -
 rcases Nat.lt_or_ge i ((Aj t).length) with Ag | CO
 ·have hd:=CL Ag
  by_cases h0:Ck (AR (List.getD (Aj t) i Ah))=0
  ·exact lN Ad [dt ((i:Int)<((Aj t).length:Int)),am ((0:Int)<=(i:Int)/\(i:Int)<((A7 (Aj t)).length:Int)) (by (simp only [A3]; omega)),ar (List.getD (A7 (Aj t)) (Int.toNat (i:Int)) []) [.str (List.getD (Aj t) i Ah)] (by simp only [Int.toNat_natCast,Int.toNat_zero]; rw [@Cv (Aj t) (i) Ag]; try rfl),cl (@OC (List.getD (Aj t) i Ah)),Bi h0,wr ((i:Int)+1)] Ag () trivial (by rw [hd,ES,iP h0])
  ·exact lX Ad [dt ((i:Int)<((Aj t).length:Int)),am ((0:Int)<=(i:Int)/\(i:Int)<((A7 (Aj t)).length:Int)) (by (simp only [A3]; omega)),ar (List.getD (A7 (Aj t)) (Int.toNat (i:Int)) []) [.str (List.getD (Aj t) i Ah)] (by simp only [Int.toNat_natCast,Int.toNat_zero]; rw [@Cv (Aj t) (i) Ag]; try rfl),cl (@OC (List.getD (Aj t) i Ah)),Bv h0] (FC.e0) (by rw [hd,ES,iN h0])
 ·have he:i=(Aj t).length:=by omega
  exact lX Ad [df ((i:Int)<((Aj t).length:Int))] (FC.e1) (by rw [he,List.drop_length,ES])
theorem A5h(t:Tp)(xe:Ext)(hN:(Aj t).length<=1000000000)(At:(ES  ((Aj t)))=(FC.e0)):(Ob.loop 65 (Ai f127 0) (V5 t xe 0) (NG t xe  (FC.e0)).1 (NG t xe  (FC.e0)).2).ok prog:=
 rz (bQ t xe hN) At
theorem bR(t:Tp)(xe:Ext)(hN:(Aj t).length<=1000000000)(At:(ES  ((Aj t)))=(FC.e1)):(Ob.loop 65 (Ai f127 0) (V5 t xe 0) (NG t xe  (FC.e1)).1 (NG t xe  (FC.e1)).2).ok prog:=
 rz (bQ t xe hN) At
abbrev V6(t:Tp)(xe:Ext)(j:Int)   : S:=S.mk [(2,A1 0),(48,.uniq 41 4 (AO (Br t)::Pr.cs (Ak t))),(49,A1 ((CU t).length:Int)),(50,A1 j)] [] xe
inductive GI where
 | e0 (el:Pr)
 | e1
def ET  : List Pr->GI
 | []=>(GI.e1)
 | el::r=>(if BY el=false then (if Ge el=0 then ET  r  else (GI.e0 el)) else ET  r)
def NH(t:Tp)(xe:Ext)  : GI->A5 × S
 | .e0 el=>(.ret,S.mk [(2,A1 (Ge el)),(48,.uniq 41 4 (AO (Br t)::Pr.cs (Ak t))),(49,A1 ((CU t).length:Int))] [] xe)
 | .e1=>(.exit 2,S.mk [(2,A1 0),(48,.uniq 41 4 (AO (Br t)::Pr.cs (Ak t))),(49,A1 ((CU t).length:Int))] [] xe)
theorem bS(t:Tp)(xe:Ext)(Bg:∀w:Pr,w∈CU t->Pu 98 [.agg (AO w)] (.ret (.int .i64 (Ge w))))(hN:(CU t).length<=1000000000):(Ob.loop 65 (Ai f127 1) (V6 t xe 0) (NH t xe  (ET  (List.drop 0 ((CU t))))).1 (NH t xe  (ET  (List.drop 0 ((CU t))))).2).ok prog:=by
 refine Ds ((CU t).length) (fun j _=>V6 t xe j) (fun i _=>ET  (List.drop i ((CU t)))) (NH t xe) (fun i _=>True) kR ?_ () trivial
 rintro i u hi -
 rcases Nat.lt_or_ge i ((CU t).length) with Ag | CO
 ·have hd:=AH Ag
  by_cases h0:BY (List.getD (CU t) i default)=false
  ·by_cases h1:Ge (List.getD (CU t) i default)=0
   ·exact lN Ad [dt ((i:Int)<((CU t).length:Int)),am ((0:Int)<=(i:Int)/\(i:Int)<((AO (Br t)::Pr.cs (Ak t)).length:Int)) (by (simp only [List.length_map,List.length_append,List.length_cons,List.length_nil,A3,Pr.A0,Tp.A0,Pm.A0,Ex.A0,Al.A0,Vr.A0,Cn.A0,Da.A0,Cl.A0,Bo.A0,Df.A0,In.A0,Cs.A0,Ms.A0,Qu.A0,Sy.A0,Ho.A0,Int.toNat_natCast,Bool.cond_true_left,Bool.cond_false_right,Int.toNat_zero,D2,DL,EG]; omega)),ar (List.getD (AO (Br t)::Pr.cs (Ak t)) (Int.toNat (i:Int)) []) (AO (List.getD (CU t) i default)) (by simp only [Int.toNat_natCast,Int.toNat_zero]; rw [@Ls (t) (i) Ag]; try rfl),cl (@Bg (List.getD (CU t) i default) (by simp_all [D2,DL,EG])),cl (@rzr (List.getD (CU t) i default)),rp 3 (B2 (B6 h0)),Bi h1,wr ((i:Int)+1)] Ag () trivial (by rw [hd,ET,iP h0,iP h1])
   ·exact lX Ad [dt ((i:Int)<((CU t).length:Int)),am ((0:Int)<=(i:Int)/\(i:Int)<((AO (Br t)::Pr.cs (Ak t)).length:Int)) (by (simp only [List.length_map,List.length_append,List.length_cons,List.length_nil,A3,Pr.A0,Tp.A0,Pm.A0,Ex.A0,Al.A0,Vr.A0,Cn.A0,Da.A0,Cl.A0,Bo.A0,Df.A0,In.A0,Cs.A0,Ms.A0,Qu.A0,Sy.A0,Ho.A0,Int.toNat_natCast,Bool.cond_true_left,Bool.cond_false_right,Int.toNat_zero,D2,DL,EG]; omega)),ar (List.getD (AO (Br t)::Pr.cs (Ak t)) (Int.toNat (i:Int)) []) (AO (List.getD (CU t) i default)) (by simp only [Int.toNat_natCast,Int.toNat_zero]; rw [@Ls (t) (i) Ag]; try rfl),cl (@Bg (List.getD (CU t) i default) (by simp_all [D2,DL,EG])),cl (@rzr (List.getD (CU t) i default)),rp 3 (B2 (B6 h0)),Bv h1] (GI.e0 (List.getD ((CU t)) i default)) (by rw [hd,ET,iP h0,iN h1])
  ·exact lN Ad [dt ((i:Int)<((CU t).length:Int)),am ((0:Int)<=(i:Int)/\(i:Int)<((AO (Br t)::Pr.cs (Ak t)).length:Int)) (by (simp only [List.length_map,List.length_append,List.length_cons,List.length_nil,A3,Pr.A0,Tp.A0,Pm.A0,Ex.A0,Al.A0,Vr.A0,Cn.A0,Da.A0,Cl.A0,Bo.A0,Df.A0,In.A0,Cs.A0,Ms.A0,Qu.A0,Sy.A0,Ho.A0,Int.toNat_natCast,Bool.cond_true_left,Bool.cond_false_right,Int.toNat_zero,D2,DL,EG]; omega)),ar (List.getD (AO (Br t)::Pr.cs (Ak t)) (Int.toNat (i:Int)) []) (AO (List.getD (CU t) i default)) (by simp only [Int.toNat_natCast,Int.toNat_zero]; rw [@Ls (t) (i) Ag]; try rfl),cl (@Bg (List.getD (CU t) i default) (by simp_all [D2,DL,EG])),cl (@rzr (List.getD (CU t) i default)),rp 3 (AQ (AJ (Jq h0))),bf false,wr ((i:Int)+1)] Ag () trivial (by rw [hd,ET,iN h0])
 ·have he:i=(CU t).length:=by omega
  exact lX Ad [df ((i:Int)<((CU t).length:Int))] (GI.e1) (by rw [he,List.drop_length,ET])
theorem A5i(t:Tp)(xe:Ext)(Bg:∀w:Pr,w∈CU t->Pu 98 [.agg (AO w)] (.ret (.int .i64 (Ge w))))(hN:(CU t).length<=1000000000)(p0:Pr)(At:(ET  ((CU t)))=(GI.e0 p0)):(Ob.loop 65 (Ai f127 1) (V6 t xe 0) (NH t xe  (GI.e0 p0)).1 (NH t xe  (GI.e0 p0)).2).ok prog:=
 rz (bS t xe Bg hN) At
theorem A5j(t:Tp)(xe:Ext)(Bg:∀w:Pr,w∈CU t->Pu 98 [.agg (AO w)] (.ret (.int .i64 (Ge w))))(hN:(CU t).length<=1000000000)(At:(ET  ((CU t)))=(GI.e1)):(Ob.loop 65 (Ai f127 1) (V6 t xe 0) (NH t xe  (GI.e1)).1 (NH t xe  (GI.e1)).2).ok prog:=
 rz (bS t xe Bg hN) At
def mdE:Md:=⟨fun _=>some false,fun t=>t==1000001⟩
section
variable (t:Tp) (Bg:∀w:Pr,w∈CU t->Pu 98 [.agg (AO w)] (.ret (.int .i64 (Ge w)))) (QB:(Ak t).length<=100000000) (Ma:(Aj t).length<=1000000000)
include t Bg QB Ma
theorem A5k(Ac:CD t=true):Pu 127 [.agg (Ay t)] (rI 1):=
 pu mdE (fun e=>[lf (S.mk [(0,.v (.agg (Ay t))),(1,.lp 1 0),(2,A1 0)] [(1,Bj t)] e) (@bP (t) (e)) ⟨⟨W,W,An⟩,⟨⟨W,W,W,W,W,W,W,W,W,An⟩,An⟩,rfl⟩,B2 Ac]) func127
theorem A5l(Ac:CD t=false)(Ae:ES (Aj t)=FC.e0):Pu 127 [.agg (Ay t)] (rI 3):=
 pu mdE (fun e=>[lf (S.mk [(0,.v (.agg (Ay t))),(1,.lp 1 0),(2,A1 0)] [(1,Bj t)] e) (@bP (t) (e)) ⟨⟨W,W,An⟩,⟨⟨W,W,W,W,W,W,W,W,W,An⟩,An⟩,rfl⟩,AQ Ac,sl (A3 (Aj t)),lp (S.mk [(1,.lp 1 0),(2,A1 0),(27,.v (.bool (CD t))),(28,.lp 1 3),(29,vL 1 (A7 (Aj t))),(30,A1 ((Aj t).length:Int)),(31,A1 0)] [(1,Bj t)] e) (@A5h (t) (e) Ma Ae) xr]) func127
theorem A5m(Ac:CD t=false)(Ae:ES (Aj t)=FC.e1)(Ao:F1 (Aj t)=false):Pu 127 [.agg (Ay t)] (rI 4):=
 pu mdE (fun e=>[lf (S.mk [(0,.v (.agg (Ay t))),(1,.lp 1 0),(2,A1 0)] [(1,Bj t)] e) (@bP (t) (e)) ⟨⟨W,W,An⟩,⟨⟨W,W,W,W,W,W,W,W,W,An⟩,An⟩,rfl⟩,AQ Ac,sl (A3 (Aj t)),lp (S.mk [(1,.lp 1 0),(2,A1 0),(27,.v (.bool (CD t))),(28,.lp 1 3),(29,vL 1 (A7 (Aj t))),(30,A1 ((Aj t).length:Int)),(31,A1 0)] [(1,Bj t)] e) (@bR (t) (e) Ma Ae) xr,cl (@u6 (Aj t) Ma),B2 (B6 Ao)]) func127
theorem A5n(Ac:CD t=false)(Ae:ES (Aj t)=FC.e1)(Ao:F1 (Aj t)=true)(Tx:Pr)(B9:ET (CU t)=GI.e0 Tx):Pu 127 [.agg (Ay t)] (rI (Ge Tx)):=
 pu mdE (fun e=>[lf (S.mk [(0,.v (.agg (Ay t))),(1,.lp 1 0),(2,A1 0)] [(1,Bj t)] e) (@bP (t) (e)) ⟨⟨W,W,An⟩,⟨⟨W,W,W,W,W,W,W,W,W,An⟩,An⟩,rfl⟩,AQ Ac,sl (A3 (Aj t)),lp (S.mk [(1,.lp 1 0),(2,A1 0),(27,.v (.bool (CD t))),(28,.lp 1 3),(29,vL 1 (A7 (Aj t))),(30,A1 ((Aj t).length:Int)),(31,A1 0)] [(1,Bj t)] e) (@bR (t) (e) Ma Ae) xr,cl (@u6 (Aj t) Ma),AQ (AJ Ao),am (List.length ([AO (Br t)]++(fun x=>Prod.snd x) (4,Pr.cs (Ak t))) * (55+1)<=140737488355328) (by (simp only [List.length_append,List.length_cons,List.length_nil,Pr.A0]; omega)),ai (↑((fun x=>List.length (Prod.snd x)) (3+1,[AO (Br t)]++(fun x=>Prod.snd x) (4,Pr.cs (Ak t)))):Int) ((CU t).length:Int) (by (simp only [List.length_append,List.length_cons,List.length_nil,Pr.A0,DL,EG]; done)),lp (S.mk [(1,.lp 1 0),(2,A1 0),(29,vL 1 (A7 (Aj t))),(30,A1 ((Aj t).length:Int)),(39,.lp 1 3),(40,vL 1 (A7 (Aj t))),(41,.v (.bool (F1 (Aj t)))),(42,.v (.bool !F1 (Aj t))),(43,.lp 1 4),(44,.v (.agg (AO (Br t)))),(45,LV.full 4 [AO (Br t)]),(46,.lp 1 8),(47,vL 4 (Pr.cs (Ak t))),(48,.uniq 41 4 (AO (Br t)::List.append [] (Pr.cs (Ak t)))),(49,A1 ((CU t).length:Int)),(50,A1 0)] [(1,Bj t)] e) (@A5i (t) (e) Bg (by (apply QA <;> first | assumption | omega | decide)) Tx B9) ⟨⟨W,(by first | exact .inl rfl | exact .inr ⟨rfl,rfl⟩ | exact .inr rfl | exact .inr trivial | exact .inl (by first | (simp only [List.nil_append,AX,AM,Pr.A2,Tp.A2,Ex.A2,Vr.A2,Df.A2]; done) | (simp only [List.nil_append,AX,AM,Pr.A2,Tp.A2,Ex.A2,Vr.A2,Df.A2]; rfl))),W,W,An⟩,trivial,rfl⟩]) func127
theorem A5o(Ac:CD t=false)(Ae:ES (Aj t)=FC.e1)(Ao:F1 (Aj t)=true)(AK:ET (CU t)=GI.e1):Pu 127 [.agg (Ay t)] (rI 0):=
 pu mdE (fun e=>[lf (S.mk [(0,.v (.agg (Ay t))),(1,.lp 1 0),(2,A1 0)] [(1,Bj t)] e) (@bP (t) (e)) ⟨⟨W,W,An⟩,⟨⟨W,W,W,W,W,W,W,W,W,An⟩,An⟩,rfl⟩,AQ Ac,sl (A3 (Aj t)),lp (S.mk [(1,.lp 1 0),(2,A1 0),(27,.v (.bool (CD t))),(28,.lp 1 3),(29,vL 1 (A7 (Aj t))),(30,A1 ((Aj t).length:Int)),(31,A1 0)] [(1,Bj t)] e) (@bR (t) (e) Ma Ae) xr,cl (@u6 (Aj t) Ma),AQ (AJ Ao),am (List.length ([AO (Br t)]++(fun x=>Prod.snd x) (4,Pr.cs (Ak t))) * (55+1)<=140737488355328) (by (simp only [List.length_append,List.length_cons,List.length_nil,Pr.A0]; omega)),ai (↑((fun x=>List.length (Prod.snd x)) (3+1,[AO (Br t)]++(fun x=>Prod.snd x) (4,Pr.cs (Ak t)))):Int) ((CU t).length:Int) (by (simp only [List.length_append,List.length_cons,List.length_nil,Pr.A0,DL,EG]; done)),lp (S.mk [(1,.lp 1 0),(2,A1 0),(29,vL 1 (A7 (Aj t))),(30,A1 ((Aj t).length:Int)),(39,.lp 1 3),(40,vL 1 (A7 (Aj t))),(41,.v (.bool (F1 (Aj t)))),(42,.v (.bool !F1 (Aj t))),(43,.lp 1 4),(44,.v (.agg (AO (Br t)))),(45,LV.full 4 [AO (Br t)]),(46,.lp 1 8),(47,vL 4 (Pr.cs (Ak t))),(48,.uniq 41 4 (AO (Br t)::List.append [] (Pr.cs (Ak t)))),(49,A1 ((CU t).length:Int)),(50,A1 0)] [(1,Bj t)] e) (@A5j (t) (e) Bg (by (apply QA <;> first | assumption | omega | decide)) AK) ⟨⟨W,(by first | exact .inl rfl | exact .inr ⟨rfl,rfl⟩ | exact .inr rfl | exact .inr trivial | exact .inl (by first | (simp only [List.nil_append,AX,AM,Pr.A2,Tp.A2,Ex.A2,Vr.A2,Df.A2]; done) | (simp only [List.nil_append,AX,AM,Pr.A2,Tp.A2,Ex.A2,Vr.A2,Df.A2]; rfl))),W,W,An⟩,trivial,rfl⟩]) func127
end
theorem bT:∀l:List BA,ES l=if BX (fun s=>Ck (AR s)) l=0 then .e1 else .e0
 | []=>by simp [ES,BX]
 | c::r=>by
  by_cases h:Ck (AR c)=0
  ·simp [ES,BX,h,bT r]
  ·simp [ES,BX,h]
theorem bU:∀l:List Pr,(BX OE l=0->ET l = .e1)/\(¬BX OE l=0->∃w,ET l = .e0 w/\Ge w=BX OE l)
 | []=>⟨fun _=>rfl,fun h=>absurd rfl h⟩
 | c::r=>by
  have ih:=bU r
  by_cases hz:BY c=true
  ·have e:OE c=0:=by unfold OE; rw [iP hz]
   have TS:¬BY c=false:=by rw [hz]; decide
   simp only [BX,ET,e,TS,if_true,if_false]; exact ih
  ·have TS:BY c=false:=by cases h:BY c <;> simp_all
   by_cases hp:Ge c=0
   ·have e:OE c=0:=by unfold OE; rw [iN hz,hp]
    simp only [BX,ET,e,TS,hp,if_true]; exact ih
   ·have e:OE c=Ge c:=by unfold OE; rw [iN hz]
    simp only [BX,ET,e,TS,hp,if_false,if_true]
    exact ⟨fun h=>h.elim,fun _=>⟨c,rfl,rfl⟩⟩
theorem A5p(t:Tp):CD t=BE t:=by
 unfold CD BE
 by_cases h:((Ak t).length:Int)>0 <;> simp [h]
abbrev jD(l:List BA)(a:BA)(j:Int)(e:Ext):S:=S.mk [(1,.v (.ro [.str a] 0)),(6,vL 1 (A7 l)),(7,A1 (l.length:Int)),(8,A1 j)] [] e
inductive KM where
 | e0
 | e1
def K2(a:BA):List BA->KM
 | []=>(KM.e1)
 | el::r=>(if el=a then K2 a r  else (KM.e0))
def Tz(l:List BA)(a:BA)(e:Ext):KM->A5 × S
 | .e0=>(.ret,S.mk [(1,.v (.ro [.str a] 0)),(6,vL 1 (A7 l)),(7,A1 (l.length:Int)),(3,.v (.bool false))] [] e)
 | .e1=>(.exit 0,S.mk [(1,.v (.ro [.str a] 0)),(6,vL 1 (A7 l)),(7,A1 (l.length:Int))] [] e)
theorem nO(l:List BA)(a:BA)(e:Ext)(hN:l.length<=1000000000):(Ob.loop 16 (Ai f293 0) (jD l a 0  e) (Tz l a e (K2 a (List.drop 0 (l)))).1 (Tz l a e (K2 a (List.drop 0 (l)))).2).ok prog:=by
 refine Ds l.length (fun j _=>jD l a j  e) (fun i _=>K2 a (List.drop i (l))) (Tz l a e) (fun i _=>True) kR ?_ () trivial
 rintro i u hi -
 rcases Nat.lt_or_ge i (l.length) with Ag | CO
 ·have hd:=CL Ag
  by_cases h0:List.getD l i Ah=a
  ·exact lN Ad [dt ((i:Int)<(l.length:Int)),am ((0:Int)<=(i:Int)/\(i:Int)<((A7 l).length:Int)) (by (simp only [A3]; omega)),ar (List.getD (A7 l) (Int.toNat (i:Int)) []) [.str (List.getD l i Ah)] (by simp only [Int.toNat_natCast,Int.toNat_zero]; rw [@Cv (l) (i) Ag]; try rfl),bf (!ByteArray.toList (List.getD l i Ah)==ByteArray.toList a) (AJ (BL h0)),wr ((i:Int)+1)] Ag () trivial (by rw [hd,K2,iP h0])
  ·exact lX Ad [dt ((i:Int)<(l.length:Int)),am ((0:Int)<=(i:Int)/\(i:Int)<((A7 l).length:Int)) (by (simp only [A3]; omega)),ar (List.getD (A7 l) (Int.toNat (i:Int)) []) [.str (List.getD l i Ah)] (by simp only [Int.toNat_natCast,Int.toNat_zero]; rw [@Cv (l) (i) Ag]; try rfl),bt (!ByteArray.toList (List.getD l i Ah)==ByteArray.toList a) (B6 (BZ h0))] (KM.e0) (by rw [hd,K2,iN h0])
 ·have he:i=l.length:=by omega
  exact lX Ad [df ((i:Int)<(l.length:Int))] (KM.e1) (by rw [he,List.drop_length,K2])
theorem Abd(l:List BA)(a:BA)(e:Ext)(hN:l.length<=1000000000)(At:(K2 a (l))=(KM.e0)):(Ob.loop 16 (Ai f293 0) (jD l a 0  e) (Tz l a e (KM.e0)).1 (Tz l a e (KM.e0)).2).ok prog:=
 rz (nO l a e hN) At
theorem Abe(l:List BA)(a:BA)(e:Ext)(hN:l.length<=1000000000)(At:(K2 a (l))=(KM.e1)):(Ob.loop 16 (Ai f293 0) (jD l a 0  e) (Tz l a e (KM.e1)).1 (Tz l a e (KM.e1)).2).ok prog:=
 rz (nO l a e hN) At
def Cj(a:BA)(l:List BA):Bool:=l.all fun b=>decide (b=a)
theorem bV(a:BA):∀l:List BA,K2 a l=if Cj a l=true then .e1 else .e0
 | []=>by simp [K2,Cj]
 | c::r=>by
  by_cases h:c=a
  ·simp [K2,Cj,h,bV a r]
  ·simp [K2,Cj,h]
section
variable (l:List BA) (a:BA) (hN:l.length<=1000000000)
include l a hN
theorem nP(Ac:K2 a l=KM.e0):Pu 293 [.sl 1 (A7 l),.ro [.str a] 0] (rB false):=
 pu Ad (fun e=>[sl (A3 l),lp (S.mk [(0,vL 1 (A7 l)),(1,.v (.ro [.str a] 0)),(3,.v (.bool false)),(6,vL 1 (A7 l)),(7,A1 (l.length:Int)),(8,A1 0)] [] e) (@Abd (l) (a) (e) hN Ac) xr]) func293
theorem nQ(Ac:K2 a l=KM.e1):Pu 293 [.sl 1 (A7 l),.ro [.str a] 0] (rB true):=
 pu Ad (fun e=>[sl (A3 l),lp (S.mk [(0,vL 1 (A7 l)),(1,.v (.ro [.str a] 0)),(3,.v (.bool false)),(6,vL 1 (A7 l)),(7,A1 (l.length:Int)),(8,A1 0)] [] e) (@Abe (l) (a) (e) hN Ac) xr]) func293
end
theorem V7(l:List BA)(a:BA)(hN:l.length<=1000000000):Pu 293 [.sl 1 (A7 l),.ro [.str a] 0] (.ret (.bool (Cj a l))):=by
 cases h:Cj a l with
 | true=>first | exact nQ l a hN (by rw [bV,iP h]) | exact nP l a hN (by rw [bV,iP h])
 | false=>first | exact nP l a hN (by rw [bV,iN (by rw [h]; decide)]) | exact nQ l a hN (by rw [bV,iN (by rw [h]; decide)])
theorem q2{l:List BA}(h:2<=l.length):(0:Int)<=0/\(0:Int)<(l.length:Int):=by omega
theorem q3{l:List BA}(h:2<=l.length):(0:Int)<=1/\(1:Int)<(l.length:Int):=by omega
theorem q4{l:List BA}(h:2<=l.length):0<l.length:=by omega
theorem q5{l:List BA}(h:2<=l.length):1<l.length:=by omega
theorem eq2(l:List BA)(h2:2<=l.length):Pu 276 [.sl 1 (A7 l)] (rB (ByteArray.toList (List.getD l 0 Ah)==ByteArray.toList (List.getD l 1 Ah))):=
 pm Ad [am ((0:Int)<=0/\0<((A7 l).length:Int)) (by (simp only [A3]; omega)),F5 l 0,am ((0:Int)<=1/\1<((A7 l).length:Int)) (by (simp only [A3]; omega)),F5 l 1] func276
theorem spl(a:BA):Pu 273 [.str a] (rB (ByteArray.toList a==ByteArray.toList (ByteArray.mk #[73,110,116])||ByteArray.toList a==ByteArray.toList (ByteArray.mk #[66,111,111,108])||ByteArray.toList a==ByteArray.toList (ByteArray.mk #[67,101,108,108]))):=
 pm Ad [mg,av (.v (.bool (bif ByteArray.toList a==ByteArray.toList (ByteArray.mk #[73,110,116]) then true else ByteArray.toList a==ByteArray.toList (ByteArray.mk #[66,111,111,108])))) (.v (.bool (ByteArray.toList a==ByteArray.toList (ByteArray.mk #[73,110,116])||ByteArray.toList a==ByteArray.toList (ByteArray.mk #[66,111,111,108])))) rF,mg,av (.v (.bool (bif ByteArray.toList a==ByteArray.toList (ByteArray.mk #[73,110,116])||ByteArray.toList a==ByteArray.toList (ByteArray.mk #[66,111,111,108]) then true else ByteArray.toList a==ByteArray.toList (ByteArray.mk #[67,101,108,108])))) (.v (.bool (ByteArray.toList a==ByteArray.toList (ByteArray.mk #[73,110,116])||ByteArray.toList a==ByteArray.toList (ByteArray.mk #[66,111,111,108])||ByteArray.toList a==ByteArray.toList (ByteArray.mk #[67,101,108,108])))) rF] func273
abbrev Pq(v:Nv)(name:BA)(l:List BA)(j:Int)(e:Ext):S:=S.mk [(8,.lp 8 0),(37,vL 1 (A7 l)),(38,A1 (l.length:Int)),(39,A1 j)] [(8,rP (Dw v name))] e
inductive Ik where
 | e0
 | e1
def HK(v:Nv)(name:BA):List BA->Nat->Ik
 | [],i=>(Ik.e1)
 | el::r,i=>(if el=List.getD (Ca (Dw v name)) i Ah then HK v name r (i+1)  else (Ik.e0))
def J2(v:Nv)(name:BA)(l:List BA)(e:Ext):Ik->A5 × S
 | .e0=>(.ret,S.mk [(8,.lp 8 0),(37,vL 1 (A7 l)),(38,A1 (l.length:Int)),(6,vS Ah),(7,A1 11)] [(8,rP (Dw v name))] e)
 | .e1=>(.exit 0,S.mk [(8,.lp 8 0),(37,vL 1 (A7 l)),(38,A1 (l.length:Int))] [(8,rP (Dw v name))] e)
theorem bW(v:Nv)(name:BA)(l:List BA)(hS:∀w∈By v,(Ca w).length<=1000000000)(Kc:(By v).length<=1000000000)(Oj:HV v name=true)(DV:¬name=ByteArray.mk #[116,97,103])(hlen:(l.length:Int)=((Ca (Dw v name)).length:Int))(e:Ext)(hN:l.length<=1000000000):(Ob.loop 54 (Ai f228 0) (Pq v name l 0  e) (J2 v name l e (HK v name (List.drop 0 (l)) 0)).1 (J2 v name l e (HK v name (List.drop 0 (l)) 0)).2).ok prog:=by
 refine Ds l.length (fun j _=>Pq v name l j  e) (fun i _=>HK v name (List.drop i (l)) i) (J2 v name l e) (fun i _=>True) kR ?_ () trivial
 rintro i u hi -
 rcases Nat.lt_or_ge i (l.length) with Ag | CO
 ·have hd:=CL Ag
  by_cases h0:List.getD l i Ah=List.getD (Ca (Dw v name)) i Ah
  ·exact lN Ad [dt ((i:Int)<(l.length:Int)),am ((0:Int)<=(i:Int)/\(i:Int)<((A7 l).length:Int)) (by (simp only [A3]; omega)),ar (List.getD (A7 l) (Int.toNat (i:Int)) []) [.str (List.getD l i Ah)] (by simp only [Int.toNat_natCast,Int.toNat_zero]; rw [@Cv (l) (i) Ag]; try rfl),am ((0:Int)<=(i:Int)/\(i:Int)<((A7 (Ca (Dw v name))).length:Int)) (by (simp only [A3]; omega)),ar (List.getD (A7 (Ca (Dw v name))) (Int.toNat (i:Int)) []) [.str (List.getD (Ca (Dw v name)) i Ah)] (by simp only [Int.toNat_natCast,Int.toNat_zero]; rw [@Cv (Ca (Dw v name)) (i) oM]; try rfl),bf (!ByteArray.toList (List.getD l i Ah)==ByteArray.toList (List.getD (Ca (Dw v name)) i Ah)) (AJ (BL h0)),wr ((i:Int)+1)] Ag () trivial (by rw [hd,HK,iP h0])
  ·exact lX Ad [dt ((i:Int)<(l.length:Int)),am ((0:Int)<=(i:Int)/\(i:Int)<((A7 l).length:Int)) (by (simp only [A3]; omega)),ar (List.getD (A7 l) (Int.toNat (i:Int)) []) [.str (List.getD l i Ah)] (by simp only [Int.toNat_natCast,Int.toNat_zero]; rw [@Cv (l) (i) Ag]; try rfl),am ((0:Int)<=(i:Int)/\(i:Int)<((A7 (Ca (Dw v name))).length:Int)) (by (simp only [A3]; omega)),ar (List.getD (A7 (Ca (Dw v name))) (Int.toNat (i:Int)) []) [.str (List.getD (Ca (Dw v name)) i Ah)] (by simp only [Int.toNat_natCast,Int.toNat_zero]; rw [@Cv (Ca (Dw v name)) (i) oM]; try rfl),bt (!ByteArray.toList (List.getD l i Ah)==ByteArray.toList (List.getD (Ca (Dw v name)) i Ah)) (B6 (BZ h0))] (Ik.e0) (by rw [hd,HK,iN h0])
 ·have he:i=l.length:=by omega
  exact lX Ad [df ((i:Int)<(l.length:Int))] (Ik.e1) (by rw [he,List.drop_length,HK])
theorem A5q(v:Nv)(name:BA)(l:List BA)(hS:∀w∈By v,(Ca w).length<=1000000000)(Kc:(By v).length<=1000000000)(Oj:HV v name=true)(DV:¬name=ByteArray.mk #[116,97,103])(hlen:(l.length:Int)=((Ca (Dw v name)).length:Int))(e:Ext)(hN:l.length<=1000000000)(At:(HK v name (l) 0)=(Ik.e0)):(Ob.loop 54 (Ai f228 0) (Pq v name l 0  e) (J2 v name l e (Ik.e0)).1 (J2 v name l e (Ik.e0)).2).ok prog:=
 rz (bW v name l hS Kc Oj DV hlen e hN) At
theorem A5r(v:Nv)(name:BA)(l:List BA)(hS:∀w∈By v,(Ca w).length<=1000000000)(Kc:(By v).length<=1000000000)(Oj:HV v name=true)(DV:¬name=ByteArray.mk #[116,97,103])(hlen:(l.length:Int)=((Ca (Dw v name)).length:Int))(e:Ext)(hN:l.length<=1000000000)(At:(HK v name (l) 0)=(Ik.e1)):(Ob.loop 54 (Ai f228 0) (Pq v name l 0  e) (J2 v name l e (Ik.e1)).1 (J2 v name l e (Ik.e1)).2).ok prog:=
 rz (bW v name l hS Kc Oj DV hlen e hN) At
theorem bX(v:Nv)(name:BA):∀ (l:List BA) (i:Nat),l.length+i=(Ca (Dw v name)).length->HK v name l i=if l=(Ca (Dw v name)).drop i then .e1 else .e0
 | [],i,h=>by
  have:(Ca (Dw v name)).drop i=[]:=List.drop_eq_nil_of_le (by simp at h; omega)
  rw [this]; simp [HK]
 | c::r,i,h=>by
  have hi:i<(Ca (Dw v name)).length:=by simp at h; omega
  have ih:=bX v name r (i+1) (by simp at h; omega)
  rw [CL hi]
  by_cases hc:c=(Ca (Dw v name)).getD i Ah
  ·simp only [HK,hc,List.cons.injEq,true_and,if_true,not_true_eq_false,if_false]; exact ih
  ·simp only [HK,hc,List.cons.injEq,false_and,if_false,not_false_eq_true,if_true]
abbrev Pt(v:Nv)(name:BA)(l:List BA)(j:Int)(e:Ext):S:=S.mk [(8,.lp 8 0),(26,vL 1 (A7 l)),(27,A1 (l.length:Int)),(28,A1 j)] [(8,WX (Au AP name (AU v)))] e
inductive Il where
 | e0
 | e1
def HL(v:Nv)(name:BA):List BA->Nat->Il
 | [],i=>(Il.e1)
 | el::r,i=>(if el=Fe (List.getD (CV (Au AP name (AU v))) i default) then HL v name r (i+1)  else (Il.e0))
def J3(v:Nv)(name:BA)(l:List BA)(e:Ext):Il->A5 × S
 | .e0=>(.ret,S.mk [(8,.lp 8 0),(26,vL 1 (A7 l)),(27,A1 (l.length:Int)),(6,vS Ah),(7,A1 11)] [(8,WX (Au AP name (AU v)))] e)
 | .e1=>(.exit 0,S.mk [(8,.lp 8 0),(26,vL 1 (A7 l)),(27,A1 (l.length:Int))] [(8,WX (Au AP name (AU v)))] e)
theorem bY(v:Nv)(name:BA)(l:List BA)(hH:∀w∈AU v,(CV w).length<=1000000000)(OF:(AU v).length<=1000000000)(Oj:Bl AP name (AU v)=true)(hlen:(l.length:Int)=((CV (Au AP name (AU v))).length:Int))(e:Ext)(hN:l.length<=1000000000):(Ob.loop 42 (Ai f229 0) (Pt v name l 0  e) (J3 v name l e (HL v name (List.drop 0 (l)) 0)).1 (J3 v name l e (HL v name (List.drop 0 (l)) 0)).2).ok prog:=by
 refine Ds l.length (fun j _=>Pt v name l j  e) (fun i _=>HL v name (List.drop i (l)) i) (J3 v name l e) (fun i _=>True) kR ?_ () trivial
 rintro i u hi -
 rcases Nat.lt_or_ge i (l.length) with Ag | CO
 ·have hd:=CL Ag
  by_cases h0:List.getD l i Ah=Fe (List.getD (CV (Au AP name (AU v))) i default)
  ·exact lN Ad [dt ((i:Int)<(l.length:Int)),am ((0:Int)<=(i:Int)/\(i:Int)<((A7 l).length:Int)) (by (simp only [A3]; omega)),ar (List.getD (A7 l) (Int.toNat (i:Int)) []) [.str (List.getD l i Ah)] (by simp only [Int.toNat_natCast,Int.toNat_zero]; rw [@Cv (l) (i) Ag]; try rfl),am ((0:Int)<=(i:Int)/\(i:Int)<((Vr.cs (CV (Au AP name (AU v)))).length:Int)) (by (simp only [Vr.A0]; omega)),ar (List.getD (Vr.cs (CV (Au AP name (AU v)))) (Int.toNat (i:Int)) []) (Fo (List.getD (CV (Au AP name (AU v))) i default)) (by simp only [Int.toNat_natCast,Int.toNat_zero]; rw [@Vr.B5 (CV (Au AP name (AU v))) (i) oM]; try rfl),bf (!ByteArray.toList (List.getD l i Ah)==ByteArray.toList (Fe (List.getD (CV (Au AP name (AU v))) i default))) (AJ (BL h0)),wr ((i:Int)+1)] Ag () trivial (by rw [hd,HL,iP h0])
  ·exact lX Ad [dt ((i:Int)<(l.length:Int)),am ((0:Int)<=(i:Int)/\(i:Int)<((A7 l).length:Int)) (by (simp only [A3]; omega)),ar (List.getD (A7 l) (Int.toNat (i:Int)) []) [.str (List.getD l i Ah)] (by simp only [Int.toNat_natCast,Int.toNat_zero]; rw [@Cv (l) (i) Ag]; try rfl),am ((0:Int)<=(i:Int)/\(i:Int)<((Vr.cs (CV (Au AP name (AU v)))).length:Int)) (by (simp only [Vr.A0]; omega)),ar (List.getD (Vr.cs (CV (Au AP name (AU v)))) (Int.toNat (i:Int)) []) (Fo (List.getD (CV (Au AP name (AU v))) i default)) (by simp only [Int.toNat_natCast,Int.toNat_zero]; rw [@Vr.B5 (CV (Au AP name (AU v))) (i) oM]; try rfl),bt (!ByteArray.toList (List.getD l i Ah)==ByteArray.toList (Fe (List.getD (CV (Au AP name (AU v))) i default))) (B6 (BZ h0))] (Il.e0) (by rw [hd,HL,iN h0])
 ·have he:i=l.length:=by omega
  exact lX Ad [df ((i:Int)<(l.length:Int))] (Il.e1) (by rw [he,List.drop_length,HL])
theorem A5s(v:Nv)(name:BA)(l:List BA)(hH:∀w∈AU v,(CV w).length<=1000000000)(OF:(AU v).length<=1000000000)(Oj:Bl AP name (AU v)=true)(hlen:(l.length:Int)=((CV (Au AP name (AU v))).length:Int))(e:Ext)(hN:l.length<=1000000000)(At:(HL v name (l) 0)=(Il.e0)):(Ob.loop 42 (Ai f229 0) (Pt v name l 0  e) (J3 v name l e (Il.e0)).1 (J3 v name l e (Il.e0)).2).ok prog:=
 rz (bY v name l hH OF Oj hlen e hN) At
theorem A5t(v:Nv)(name:BA)(l:List BA)(hH:∀w∈AU v,(CV w).length<=1000000000)(OF:(AU v).length<=1000000000)(Oj:Bl AP name (AU v)=true)(hlen:(l.length:Int)=((CV (Au AP name (AU v))).length:Int))(e:Ext)(hN:l.length<=1000000000)(At:(HL v name (l) 0)=(Il.e1)):(Ob.loop 42 (Ai f229 0) (Pt v name l 0  e) (J3 v name l e (Il.e1)).1 (J3 v name l e (Il.e1)).2).ok prog:=
 rz (bY v name l hH OF Oj hlen e hN) At
theorem bZ(v:Nv)(name:BA):∀ (l:List BA) (i:Nat),l.length+i=(CV (Au AP name (AU v))).length->HL v name l i=if l=((CV (Au AP name (AU v))).drop i).map Fe then .e1 else .e0
 | [],i,h=>by
  have:(CV (Au AP name (AU v))).drop i=[]:=List.drop_eq_nil_of_le (by simp at h; omega)
  rw [this]; simp [HL]
 | c::r,i,h=>by
  have hi:i<(CV (Au AP name (AU v))).length:=by simp at h; omega
  have ih:=bZ v name r (i+1) (by simp at h; omega)
  rw [AH hi,List.map_cons]
  by_cases hc:c=Fe ((CV (Au AP name (AU v))).getD i default)
  ·simp only [HL,hc,List.cons.injEq,true_and,if_true,not_true_eq_false,if_false]; exact ih
  ·simp only [HL,hc,List.cons.injEq,false_and,if_false,not_false_eq_true,if_true]
theorem apG(v:Nv)(name:BA)(l:List BA)(hS:∀w∈By v,(Ca w).length<=1000000000)(Kc:(By v).length<=1000000000)(Oj:HV v name=true)(DV:¬name=ByteArray.mk #[116,97,103])(hlen:(l.length:Int)=((Ca (Dw v name)).length:Int))(e:Ext)(hN:l.length<=1000000000)(hx:l=Ca (Dw v name)):(Ob.loop 54 (Ai f228 0) (Pq v name l 0 e) (J2 v name l e .e1).1 (J2 v name l e .e1).2).ok prog:=
 A5r v name l hS Kc Oj DV hlen e hN (by rw [bX v name l 0 oM,List.drop_zero,iP hx])
theorem apB(v:Nv)(name:BA)(l:List BA)(hS:∀w∈By v,(Ca w).length<=1000000000)(Kc:(By v).length<=1000000000)(Oj:HV v name=true)(DV:¬name=ByteArray.mk #[116,97,103])(hlen:(l.length:Int)=((Ca (Dw v name)).length:Int))(e:Ext)(hN:l.length<=1000000000)(hx:¬l=Ca (Dw v name)):(Ob.loop 54 (Ai f228 0) (Pq v name l 0 e) (J2 v name l e .e0).1 (J2 v name l e .e0).2).ok prog:=
 A5q v name l hS Kc Oj DV hlen e hN (by rw [bX v name l 0 oM,List.drop_zero,iN hx])
theorem fiG(v:Nv)(name:BA)(l:List BA)(hH:∀w∈AU v,(CV w).length<=1000000000)(OF:(AU v).length<=1000000000)(Oj:Bl AP name (AU v)=true)(hlen:(l.length:Int)=((CV (Au AP name (AU v))).length:Int))(e:Ext)(hN:l.length<=1000000000)(hx:l=(CV (Au AP name (AU v))).map Fe):(Ob.loop 42 (Ai f229 0) (Pt v name l 0 e) (J3 v name l e .e1).1 (J3 v name l e .e1).2).ok prog:=
 A5t v name l hH OF Oj hlen e hN (by rw [bZ v name l 0 oM,List.drop_zero,iP hx])
theorem fiB(v:Nv)(name:BA)(l:List BA)(hH:∀w∈AU v,(CV w).length<=1000000000)(OF:(AU v).length<=1000000000)(Oj:Bl AP name (AU v)=true)(hlen:(l.length:Int)=((CV (Au AP name (AU v))).length:Int))(e:Ext)(hN:l.length<=1000000000)(hx:¬l=(CV (Au AP name (AU v))).map Fe):(Ob.loop 42 (Ai f229 0) (Pt v name l 0 e) (J3 v name l e .e0).1 (J3 v name l e .e0).2).ok prog:=
 A5s v name l hH OF Oj hlen e hN (by rw [bZ v name l 0 oM,List.drop_zero,iN hx])
section
variable (v:Nv) (name:BA) (l:List BA) (hS:∀w∈By v,(Ca w).length<=1000000000) (Kc:(By v).length<=1000000000) (Cd:l.length<=1000000000)
include v name l hS Kc Cd
theorem A5u(Ac:HV v name=false):Pu 228 [.agg (Bd v),.str name,.sl 1 (A7 l)] (.ret (.AE [.str Ah,pI 5])):=
 pm Ad [cl (@xY (v) (name) hS Kc),B2 (B6 Ac)] func228
theorem A5v(Ac:HV v name=true)(Ae:name=ByteArray.mk #[116,97,103])(Ao:¬(l.length:Int)=1):Pu 228 [.agg (Bd v),.str name,.sl 1 (A7 l)] (.ret (.AE [.str Ah,pI 13])):=
 pm Ad [cl (@xY (v) (name) hS Kc),AQ (AJ Ac),bt (ByteArray.toList name==ByteArray.toList (ByteArray.mk #[116,97,103])) (BL Ae),sl (A3 l),Bv Ao] func228
theorem A5w(Ac:HV v name=true)(Ae:name=ByteArray.mk #[116,97,103])(Ao:(l.length:Int)=1)(AK:(ByteArray.toList (List.getD l 0 Ah)==ByteArray.toList (ByteArray.mk #[73,110,116])||ByteArray.toList (List.getD l 0 Ah)==ByteArray.toList (ByteArray.mk #[66,111,111,108])||ByteArray.toList (List.getD l 0 Ah)==ByteArray.toList (ByteArray.mk #[67,101,108,108]))=true):Pu 228 [.agg (Bd v),.str name,.sl 1 (A7 l)] (.ret (.AE [.str Ah,pI 11])):=
 pm Ad [cl (@xY (v) (name) hS Kc),AQ (AJ Ac),bt (ByteArray.toList name==ByteArray.toList (ByteArray.mk #[116,97,103])) (BL Ae),sl (A3 l),Bi Ao,am ((0:Int)<=0/\0<((A7 l).length:Int)) (by (simp only [A3]; omega)),F5 l 0,cl (@spl (List.getD l 0 Ah)),B2 AK] func228
theorem A5x(Ac:HV v name=true)(Ae:name=ByteArray.mk #[116,97,103])(Ao:(l.length:Int)=1)(AK:(ByteArray.toList (List.getD l 0 Ah)==ByteArray.toList (ByteArray.mk #[73,110,116])||ByteArray.toList (List.getD l 0 Ah)==ByteArray.toList (ByteArray.mk #[66,111,111,108])||ByteArray.toList (List.getD l 0 Ah)==ByteArray.toList (ByteArray.mk #[67,101,108,108]))=false):Pu 228 [.agg (Bd v),.str name,.sl 1 (A7 l)] (.ret (.AE [.str (Lj (Dw v name)),pI 0])):=
 pm Ad [cl (@xY (v) (name) hS Kc),AQ (AJ Ac),bt (ByteArray.toList name==ByteArray.toList (ByteArray.mk #[116,97,103])) (BL Ae),sl (A3 l),Bi Ao,am ((0:Int)<=0/\0<((A7 l).length:Int)) (by (simp only [A3]; omega)),F5 l 0,cl (@spl (List.getD l 0 Ah)),AQ AK] func228
theorem A5y(Ac:HV v name=true)(Ae:¬name=ByteArray.mk #[116,97,103])(Ao:¬(l.length:Int)=((Ca (Dw v name)).length:Int)):Pu 228 [.agg (Bd v),.str name,.sl 1 (A7 l)] (.ret (.AE [.str Ah,pI 13])):=
 pm Ad [cl (@xY (v) (name) hS Kc),AQ (AJ Ac),bf (ByteArray.toList name==ByteArray.toList (ByteArray.mk #[116,97,103])) (BZ Ae),sl (A3 l),sl (A3 (Ca (Dw v name))),Bv Ao] func228
theorem A5z(Ac:HV v name=true)(Ae:¬name=ByteArray.mk #[116,97,103])(Ao:(l.length:Int)=((Ca (Dw v name)).length:Int))(AK:l=Ca (Dw v name)):Pu 228 [.agg (Bd v),.str name,.sl 1 (A7 l)] (.ret (.AE [.str (Lj (Dw v name)),pI 0])):=
 pu Ad (fun e=>[cl (@xY (v) (name) hS Kc),AQ (AJ Ac),bf (ByteArray.toList name==ByteArray.toList (ByteArray.mk #[116,97,103])) (BZ Ae),sl (A3 l),sl (A3 (Ca (Dw v name))),Bi Ao,sl (A3 l),lp (S.mk [(0,.v (.agg (Bd v))),(1,vS name),(2,vL 1 (A7 l)),(3,.lp 3 0),(6,vS Ah),(7,A1 0),(13,.v (.agg (Bd v))),(14,vS name),(15,.v (.AE [.agg (Hx (Dw v name)),.bool (HV v name)])),(12,.v (.AE [.agg (Hx (Dw v name)),.bool (HV v name)])),(16,.v (.agg (Hx (Dw v name)))),(17,.v (.bool (HV v name))),(8,.lp 8 0),(9,.v (.bool (HV v name))),(18,.v (.bool (HV v name))),(19,.v (.bool !HV v name)),(20,vS name),(21,.v (.bool (ByteArray.toList name==ByteArray.toList (ByteArray.mk #[116,97,103])))),(31,vL 1 (A7 l)),(32,A1 (l.length:Int)),(33,.lp 8 1),(34,vL 1 (A7 (Ca (Dw v name)))),(35,A1 ((Ca (Dw v name)).length:Int)),(36,.v (.bool ((l.length:Int) != ((Ca (Dw v name)).length:Int)))),(37,vL 1 (A7 l)),(38,A1 (l.length:Int)),(39,A1 0)] [(3,CT v),(8,rP (Dw v name))] e) (@apG (v) (name) (l) hS Kc Ac Ae Ao (e) Cd AK) xr]) func228
theorem A60(Ac:HV v name=true)(Ae:¬name=ByteArray.mk #[116,97,103])(Ao:(l.length:Int)=((Ca (Dw v name)).length:Int))(AK:¬l=Ca (Dw v name)):Pu 228 [.agg (Bd v),.str name,.sl 1 (A7 l)] (.ret (.AE [.str Ah,pI 11])):=
 pu Ad (fun e=>[cl (@xY (v) (name) hS Kc),AQ (AJ Ac),bf (ByteArray.toList name==ByteArray.toList (ByteArray.mk #[116,97,103])) (BZ Ae),sl (A3 l),sl (A3 (Ca (Dw v name))),Bi Ao,sl (A3 l),lp (S.mk [(0,.v (.agg (Bd v))),(1,vS name),(2,vL 1 (A7 l)),(3,.lp 3 0),(6,vS Ah),(7,A1 0),(13,.v (.agg (Bd v))),(14,vS name),(15,.v (.AE [.agg (Hx (Dw v name)),.bool (HV v name)])),(12,.v (.AE [.agg (Hx (Dw v name)),.bool (HV v name)])),(16,.v (.agg (Hx (Dw v name)))),(17,.v (.bool (HV v name))),(8,.lp 8 0),(9,.v (.bool (HV v name))),(18,.v (.bool (HV v name))),(19,.v (.bool !HV v name)),(20,vS name),(21,.v (.bool (ByteArray.toList name==ByteArray.toList (ByteArray.mk #[116,97,103])))),(31,vL 1 (A7 l)),(32,A1 (l.length:Int)),(33,.lp 8 1),(34,vL 1 (A7 (Ca (Dw v name)))),(35,A1 ((Ca (Dw v name)).length:Int)),(36,.v (.bool ((l.length:Int) != ((Ca (Dw v name)).length:Int)))),(37,vL 1 (A7 l)),(38,A1 (l.length:Int)),(39,A1 0)] [(3,CT v),(8,rP (Dw v name))] e) (@apB (v) (name) (l) hS Kc Ac Ae Ao (e) Cd AK) xr]) func228
end
section
variable (v:Nv) (name:BA) (l:List BA) (hH:∀w∈AU v,(CV w).length<=1000000000) (OF:(AU v).length<=1000000000) (Cd:l.length<=1000000000)
include v name l hH OF Cd
theorem A61(Ac:Bl AP name (AU v)=false):Pu 229 [.agg (Bd v),.str name,.sl 1 (A7 l)] (.ret (.AE [.str Ah,pI 5])):=
 pm Ad [cl (@hoT (v) (name) hH OF),B2 (B6 Ac)] func229
theorem A62(Ac:Bl AP name (AU v)=true)(Ae:¬(l.length:Int)=((CV (Au AP name (AU v))).length:Int)):Pu 229 [.agg (Bd v),.str name,.sl 1 (A7 l)] (.ret (.AE [.str Ah,pI 13])):=
 pm Ad [cl (@hoT (v) (name) hH OF),AQ (AJ Ac),sl (A3 l),sl (Vr.A0 (CV (Au AP name (AU v)))),Bv Ae] func229
theorem A63(Ac:Bl AP name (AU v)=true)(Ae:(l.length:Int)=((CV (Au AP name (AU v))).length:Int))(Ao:l=List.map Fe (CV (Au AP name (AU v)))):Pu 229 [.agg (Bd v),.str name,.sl 1 (A7 l)] (.ret (.AE [.str (ByteArray.mk #[66,111,111,108]),pI 0])):=
 pu Ad (fun e=>[cl (@hoT (v) (name) hH OF),AQ (AJ Ac),sl (A3 l),sl (Vr.A0 (CV (Au AP name (AU v)))),Bi Ae,sl (A3 l),lp (S.mk [(0,.v (.agg (Bd v))),(1,vS name),(2,vL 1 (A7 l)),(3,.lp 3 0),(6,vS Ah),(7,A1 0),(13,.v (.agg (Bd v))),(14,vS name),(15,.v (.AE [.agg (JV (Au AP name (AU v))),.bool (Bl AP name (AU v))])),(12,.v (.AE [.agg (JV (Au AP name (AU v))),.bool (Bl AP name (AU v))])),(16,.v (.agg (JV (Au AP name (AU v))))),(17,.v (.bool (Bl AP name (AU v)))),(8,.lp 8 0),(9,.v (.bool (Bl AP name (AU v)))),(18,.v (.bool (Bl AP name (AU v)))),(19,.v (.bool !Bl AP name (AU v))),(20,vL 1 (A7 l)),(21,A1 (l.length:Int)),(22,.lp 8 1),(23,vL 2 (Vr.cs (CV (Au AP name (AU v))))),(24,A1 ((CV (Au AP name (AU v))).length:Int)),(25,.v (.bool ((l.length:Int) != ((CV (Au AP name (AU v))).length:Int)))),(26,vL 1 (A7 l)),(27,A1 (l.length:Int)),(28,A1 0)] [(3,CT v),(8,WX (Au AP name (AU v)))] e) (@fiG (v) (name) (l) hH OF Ac Ae (e) Cd Ao) xr]) func229
theorem A64(Ac:Bl AP name (AU v)=true)(Ae:(l.length:Int)=((CV (Au AP name (AU v))).length:Int))(Ao:¬l=List.map Fe (CV (Au AP name (AU v)))):Pu 229 [.agg (Bd v),.str name,.sl 1 (A7 l)] (.ret (.AE [.str Ah,pI 11])):=
 pu Ad (fun e=>[cl (@hoT (v) (name) hH OF),AQ (AJ Ac),sl (A3 l),sl (Vr.A0 (CV (Au AP name (AU v)))),Bi Ae,sl (A3 l),lp (S.mk [(0,.v (.agg (Bd v))),(1,vS name),(2,vL 1 (A7 l)),(3,.lp 3 0),(6,vS Ah),(7,A1 0),(13,.v (.agg (Bd v))),(14,vS name),(15,.v (.AE [.agg (JV (Au AP name (AU v))),.bool (Bl AP name (AU v))])),(12,.v (.AE [.agg (JV (Au AP name (AU v))),.bool (Bl AP name (AU v))])),(16,.v (.agg (JV (Au AP name (AU v))))),(17,.v (.bool (Bl AP name (AU v)))),(8,.lp 8 0),(9,.v (.bool (Bl AP name (AU v)))),(18,.v (.bool (Bl AP name (AU v)))),(19,.v (.bool !Bl AP name (AU v))),(20,vL 1 (A7 l)),(21,A1 (l.length:Int)),(22,.lp 8 1),(23,vL 2 (Vr.cs (CV (Au AP name (AU v))))),(24,A1 ((CV (Au AP name (AU v))).length:Int)),(25,.v (.bool ((l.length:Int) != ((CV (Au AP name (AU v))).length:Int)))),(26,vL 1 (A7 l)),(27,A1 (l.length:Int)),(28,A1 0)] [(3,CT v),(8,WX (Au AP name (AU v)))] e) (@fiB (v) (name) (l) hH OF Ac Ae (e) Cd Ao) xr]) func229
end
def jE(a:BA):Bool:=a.toList==H7.toList||a.toList==E2.toList||a.toList==V0.toList
def V8(v:Nv)(name:BA)(l:List BA):BA × Int:=
 if HV v name=false then (Ah,5) else if name=Sb then (if (l.length:Int)=1 then (if jE (l.getD 0 Ah)=true then (Ah,11) else (Lj (Dw v name),0)) else (Ah,13))
 else if (l.length:Int)=((Ca (Dw v name)).length:Int) then (if l=Ca (Dw v name) then (Lj (Dw v name),0) else (Ah,11)) else (Ah,13)
theorem apT(v:Nv)(name:BA)(l:List BA)(hS:∀w∈By v,(Ca w).length<=1000000000)(Kc:(By v).length<=1000000000)(Cd:l.length<=1000000000):Pu 228 [.agg (Bd v),.str name,.sl 1 (A7 l)] (.ret (.AE [.str (V8 v name l).1,.int .i64 (V8 v name l).2])):=by
 unfold V8
 by_cases h0:HV v name=false
 ·rw [iP h0]; exact A5u v name l hS Kc Cd h0
 ·rw [iN h0]
  have h0:=Jq h0
  by_cases h1:name=Sb
  ·rw [iP h1]
   by_cases h2:(l.length:Int)=1
   ·rw [iP h2]
    cases h3:jE (l.getD 0 Ah) with
    | true=>rw [iP rfl]; exact A5w v name l hS Kc Cd h0 h1 h2 h3
    | false=>rw [iN dD]; exact A5x v name l hS Kc Cd h0 h1 h2 h3
   ·rw [iN h2]; exact A5v v name l hS Kc Cd h0 h1 h2
  ·rw [iN h1]
   by_cases h2:(l.length:Int)=((Ca (Dw v name)).length:Int)
   ·rw [iP h2]
    by_cases h3:l=Ca (Dw v name)
    ·rw [iP h3]; exact A5z v name l hS Kc Cd h0 h1 h2 h3
    ·rw [iN h3]; exact A60 v name l hS Kc Cd h0 h1 h2 h3
   ·rw [iN h2]; exact A5y v name l hS Kc Cd h0 h1 h2
def V9(v:Nv)(name:BA)(l:List BA):BA × Int:=
 if Bl AP name (AU v)=false then (Ah,5) else if (l.length:Int)=((CV (Au AP name (AU v))).length:Int) then (if l=(CV (Au AP name (AU v))).map Fe then (E2,0) else (Ah,11)) else (Ah,13)
theorem fiT(v:Nv)(name:BA)(l:List BA)(hH:∀w∈AU v,(CV w).length<=1000000000)(OF:(AU v).length<=1000000000)(Cd:l.length<=1000000000):Pu 229 [.agg (Bd v),.str name,.sl 1 (A7 l)] (.ret (.AE [.str (V9 v name l).1,.int .i64 (V9 v name l).2])):=by
 unfold V9
 by_cases h0:Bl AP name (AU v)=false
 ·rw [iP h0]; exact A61 v name l hH OF Cd h0
 ·rw [iN h0]
  have h0:=Jq h0
  by_cases h2:(l.length:Int)=((CV (Au AP name (AU v))).length:Int)
  ·rw [iP h2]
   by_cases h3:l=(CV (Au AP name (AU v))).map Fe
   ·rw [iP h3]; exact A63 v name l hH OF Cd h0 h2 h3
   ·rw [iN h3]; exact A64 v name l hH OF Cd h0 h2 h3
  ·rw [iN h2]; exact A62 v name l hH OF Cd h0 h2
theorem aq(a:BA):Pu 275 [.str a] (.ret (.fn (.func 293) [] [.ro [.str a] 0])):=
 pm Ad [] func275
section
variable (op:Int)
include op
theorem A65(Ac:op=6):Pu 230 [pI op] (rA [.fn (.func 293) [] [.ro [.str (ByteArray.mk #[73,110,116])] 0],.str (ByteArray.mk #[73,110,116])]):=
 pm Ad [rp 2 (Bh Ac),cl (@aq (ByteArray.mk #[73,110,116]))] func230
theorem A66(Ac:¬op=6)(Ae:op=7):Pu 230 [pI op] (rA [.fn (.func 293) [] [.ro [.str (ByteArray.mk #[73,110,116])] 0],.str (ByteArray.mk #[73,110,116])]):=
 pm Ad [Aw Ac,rp 2 (Bh Ae),cl (@aq (ByteArray.mk #[73,110,116]))] func230
theorem A67(Ac:¬op=6)(Ae:¬op=7)(Ao:op=8):Pu 230 [pI op] (rA [.fn (.func 293) [] [.ro [.str (ByteArray.mk #[73,110,116])] 0],.str (ByteArray.mk #[73,110,116])]):=
 pm Ad [Aw Ac,Aw Ae,rp 2 (Bh Ao),cl (@aq (ByteArray.mk #[73,110,116]))] func230
theorem A68(Ac:¬op=6)(Ae:¬op=7)(Ao:¬op=8)(AK:op=9):Pu 230 [pI op] (rA [.fn (.func 293) [] [.ro [.str (ByteArray.mk #[73,110,116])] 0],.str (ByteArray.mk #[73,110,116])]):=
 pm Ad [Aw Ac,Aw Ae,Aw Ao,Bh AK,cl (@aq (ByteArray.mk #[73,110,116]))] func230
theorem A69(Ac:¬op=6)(Ae:¬op=7)(Ao:¬op=8)(AK:¬op=9)(B9:op=12):Pu 230 [pI op] (rA [.fn (.func 293) [] [.ro [.str (ByteArray.mk #[73,110,116])] 0],.str (ByteArray.mk #[66,111,111,108])]):=
 pm Ad [Aw Ac,Aw Ae,Aw Ao,Aw AK,rp 2 (Bh B9),cl (@aq (ByteArray.mk #[73,110,116]))] func230
theorem A6a(Ac:¬op=6)(Ae:¬op=7)(Ao:¬op=8)(AK:¬op=9)(B9:¬op=12)(BU:op=13):Pu 230 [pI op] (rA [.fn (.func 293) [] [.ro [.str (ByteArray.mk #[73,110,116])] 0],.str (ByteArray.mk #[66,111,111,108])]):=
 pm Ad [Aw Ac,Aw Ae,Aw Ao,Aw AK,Aw B9,Bh BU,cl (@aq (ByteArray.mk #[73,110,116]))] func230
theorem A6b(Ac:¬op=6)(Ae:¬op=7)(Ao:¬op=8)(AK:¬op=9)(B9:¬op=12)(BU:¬op=13)(Fk:op=10):Pu 230 [pI op] (rA [.fn (.func 276) [] [],.str (ByteArray.mk #[66,111,111,108])]):=
 pm Ad [Aw Ac,Aw Ae,Aw Ao,Aw AK,Aw B9,Aw BU,rp 2 (Bh Fk)] func230
theorem A6c(Ac:¬op=6)(Ae:¬op=7)(Ao:¬op=8)(AK:¬op=9)(B9:¬op=12)(BU:¬op=13)(Fk:¬op=10)(Qp:op=11):Pu 230 [pI op] (rA [.fn (.func 276) [] [],.str (ByteArray.mk #[66,111,111,108])]):=
 pm Ad [Aw Ac,Aw Ae,Aw Ao,Aw AK,Aw B9,Aw BU,Aw Fk,Bh Qp] func230
theorem A6d(Ac:¬op=6)(Ae:¬op=7)(Ao:¬op=8)(AK:¬op=9)(B9:¬op=12)(BU:¬op=13)(Fk:¬op=10)(Qp:¬op=11):Pu 230 [pI op] (rA [.fn (.func 293) [] [.ro [.str (ByteArray.mk #[66,111,111,108])] 0],.str (ByteArray.mk #[66,111,111,108])]):=
 pm Ad [Aw Ac,Aw Ae,Aw Ao,Aw AK,Aw B9,Aw BU,Aw Fk,Aw Qp,cl (@aq (ByteArray.mk #[66,111,111,108]))] func230
end
theorem A6e(v:Nv)(name:BA)(hW:BQ v):Pu 227 [.agg (Bd v),.str name] (.ret (.AE [.str (Fe (Au BP name (AS v).reverse)),.bool (Bl BP name (AS v).reverse)])):=vaT v name (by have:=hW.w; omega)
theorem Abf(v:Nv)(name:BA)(l:List BA)(hW:BQ v)(Cd:l.length<=1000000000):Pu 228 [.agg (Bd v),.str name,.sl 1 (A7 l)] (.ret (.AE [.str (V8 v name l).1,.int .i64 (V8 v name l).2])):=apT v name l hW.sa hW.s Cd
theorem Abg(v:Nv)(name:BA)(l:List BA)(hW:BQ v)(Cd:l.length<=1000000000):Pu 229 [.agg (Bd v),.str name,.sl 1 (A7 l)] (.ret (.AE [.str (V9 v name l).1,.int .i64 (V9 v name l).2])):=fiT v name l hW.hp hW.h Cd
def Cf(v:Nv)(p:Pr)(l:List BA):BA:=(if Ab p=1 then (ByteArray.mk #[73,110,116]) else (if Ab p=2 then (ByteArray.mk #[66,111,111,108]) else (if Ab p=3 then (if Bl BP (Aq p) (List.reverse (AS v))=false then Ah else (Fe (Au BP (Aq p) (List.reverse (AS v))))) else (if Ab p=4 then (Prod.fst (V8 v (Aq p) l)) else (if Ab p=5 then (Prod.fst (V9 v (Aq p) l)) else (if Ab p=6 then (if Cj (ByteArray.mk #[73,110,116]) l=false then Ah else (ByteArray.mk #[73,110,116])) else (if Ab p=7 then (if Cj (ByteArray.mk #[73,110,116]) l=false then Ah else (ByteArray.mk #[73,110,116])) else (if Ab p=8 then (if Cj (ByteArray.mk #[73,110,116]) l=false then Ah else (ByteArray.mk #[73,110,116])) else (if Ab p=9 then (if Cj (ByteArray.mk #[73,110,116]) l=false then Ah else (ByteArray.mk #[73,110,116])) else (if Ab p=12 then (if Cj (ByteArray.mk #[73,110,116]) l=false then Ah else (ByteArray.mk #[66,111,111,108])) else (if Ab p=13 then (if Cj (ByteArray.mk #[73,110,116]) l=false then Ah else (ByteArray.mk #[66,111,111,108])) else (if Ab p=10 then (if List.getD l 0 Ah=List.getD l 1 Ah then (ByteArray.mk #[66,111,111,108]) else Ah) else (if Ab p=11 then (if List.getD l 0 Ah=List.getD l 1 Ah then (ByteArray.mk #[66,111,111,108]) else Ah) else (if Cj (ByteArray.mk #[66,111,111,108]) l=false then Ah else (ByteArray.mk #[66,111,111,108])))))))))))))))
def Cg(v:Nv)(p:Pr)(l:List BA):Int:=(if Ab p=1 then 0 else (if Ab p=2 then 0 else (if Ab p=3 then (if Bl BP (Aq p) (List.reverse (AS v))=false then 5 else 0) else (if Ab p=4 then (Prod.snd (V8 v (Aq p) l)) else (if Ab p=5 then (Prod.snd (V9 v (Aq p) l)) else (if Ab p=6 then (if Cj (ByteArray.mk #[73,110,116]) l=false then 11 else 0) else (if Ab p=7 then (if Cj (ByteArray.mk #[73,110,116]) l=false then 11 else 0) else (if Ab p=8 then (if Cj (ByteArray.mk #[73,110,116]) l=false then 11 else 0) else (if Ab p=9 then (if Cj (ByteArray.mk #[73,110,116]) l=false then 11 else 0) else (if Ab p=12 then (if Cj (ByteArray.mk #[73,110,116]) l=false then 11 else 0) else (if Ab p=13 then (if Cj (ByteArray.mk #[73,110,116]) l=false then 11 else 0) else (if Ab p=10 then (if List.getD l 0 Ah=List.getD l 1 Ah then 0 else 11) else (if Ab p=11 then (if List.getD l 0 Ah=List.getD l 1 Ah then 0 else 11) else (if Cj (ByteArray.mk #[66,111,111,108]) l=false then 11 else 0))))))))))))))
theorem sn(v:Nv)(p:Pr)(l:List BA)(hW:BQ v)(Cd:l.length<=1000000000)(L7:Ab p=10∨Ab p=11->2<=l.length):Pu 176 [.agg (Bd v),.agg (AO p),.sl 1 (A7 l)] (.ret (.AE [.str (Cf v p l),pI (Cg v p l)])):=by
 by_cases h0:Ab p=1
 ·simp only [Cf,Cg,iP h0]; exact pm Ad [Bh h0] func176
 ·by_cases h1:Ab p=2
  ·simp only [Cf,Cg,iN h0,iP h1]; exact pm Ad [Aw h0,Bh h1] func176
  ·by_cases h2:Ab p=3
   ·by_cases h3:Bl BP (Aq p) (List.reverse (AS v))=false
    ·simp only [Cf,Cg,iN h0,iN h1,iP h2,iP h3]; exact pm Ad [Aw h0,Aw h1,Bh h2,cl (@A6e (v) (Aq p) hW),B2 (B6 h3)] func176
    ·simp only [Cf,Cg,iN h0,iN h1,iP h2,iN h3]; exact pm Ad [Aw h0,Aw h1,Bh h2,cl (@A6e (v) (Aq p) hW),AQ (AJ (Jq h3))] func176
   ·by_cases h3:Ab p=4
    ·simp only [Cf,Cg,iN h0,iN h1,iN h2,iP h3]; exact pm Ad [Aw h0,Aw h1,Aw h2,Bh h3,cl (@Abf (v) (Aq p) (l) hW Cd)] func176
    ·by_cases h4:Ab p=5
     ·simp only [Cf,Cg,iN h0,iN h1,iN h2,iN h3,iP h4]; exact pm Ad [Aw h0,Aw h1,Aw h2,Aw h3,Bh h4,cl (@Abg (v) (Aq p) (l) hW Cd)] func176
     ·by_cases h5:Ab p=6
      ·by_cases h6:Cj (ByteArray.mk #[73,110,116]) l=false
       ·simp only [Cf,Cg,iN h0,iN h1,iN h2,iN h3,iN h4,iP h5,iP h6]; exact pm Ad [Aw h0,Aw h1,Aw h2,Aw h3,Aw h4,cl (@A65 (Ab p) h5),cl (@V7 (l) (ByteArray.mk #[73,110,116]) Cd),B2 (B6 h6)] func176
       ·simp only [Cf,Cg,iN h0,iN h1,iN h2,iN h3,iN h4,iP h5,iN h6]; exact pm Ad [Aw h0,Aw h1,Aw h2,Aw h3,Aw h4,cl (@A65 (Ab p) h5),cl (@V7 (l) (ByteArray.mk #[73,110,116]) Cd),AQ (AJ (Jq h6))] func176
      ·by_cases h6:Ab p=7
       ·by_cases h7:Cj (ByteArray.mk #[73,110,116]) l=false
        ·simp only [Cf,Cg,iN h0,iN h1,iN h2,iN h3,iN h4,iN h5,iP h6,iP h7]; exact pm Ad [Aw h0,Aw h1,Aw h2,Aw h3,Aw h4,cl (@A66 (Ab p) h5 h6),cl (@V7 (l) (ByteArray.mk #[73,110,116]) Cd),B2 (B6 h7)] func176
        ·simp only [Cf,Cg,iN h0,iN h1,iN h2,iN h3,iN h4,iN h5,iP h6,iN h7]; exact pm Ad [Aw h0,Aw h1,Aw h2,Aw h3,Aw h4,cl (@A66 (Ab p) h5 h6),cl (@V7 (l) (ByteArray.mk #[73,110,116]) Cd),AQ (AJ (Jq h7))] func176
       ·by_cases h7:Ab p=8
        ·by_cases h8:Cj (ByteArray.mk #[73,110,116]) l=false
         ·simp only [Cf,Cg,iN h0,iN h1,iN h2,iN h3,iN h4,iN h5,iN h6,iP h7,iP h8]; exact pm Ad [Aw h0,Aw h1,Aw h2,Aw h3,Aw h4,cl (@A67 (Ab p) h5 h6 h7),cl (@V7 (l) (ByteArray.mk #[73,110,116]) Cd),B2 (B6 h8)] func176
         ·simp only [Cf,Cg,iN h0,iN h1,iN h2,iN h3,iN h4,iN h5,iN h6,iP h7,iN h8]; exact pm Ad [Aw h0,Aw h1,Aw h2,Aw h3,Aw h4,cl (@A67 (Ab p) h5 h6 h7),cl (@V7 (l) (ByteArray.mk #[73,110,116]) Cd),AQ (AJ (Jq h8))] func176
        ·by_cases h8:Ab p=9
         ·by_cases h9:Cj (ByteArray.mk #[73,110,116]) l=false
          ·simp only [Cf,Cg,iN h0,iN h1,iN h2,iN h3,iN h4,iN h5,iN h6,iN h7,iP h8,iP h9]; exact pm Ad [Aw h0,Aw h1,Aw h2,Aw h3,Aw h4,cl (@A68 (Ab p) h5 h6 h7 h8),cl (@V7 (l) (ByteArray.mk #[73,110,116]) Cd),B2 (B6 h9)] func176
          ·simp only [Cf,Cg,iN h0,iN h1,iN h2,iN h3,iN h4,iN h5,iN h6,iN h7,iP h8,iN h9]; exact pm Ad [Aw h0,Aw h1,Aw h2,Aw h3,Aw h4,cl (@A68 (Ab p) h5 h6 h7 h8),cl (@V7 (l) (ByteArray.mk #[73,110,116]) Cd),AQ (AJ (Jq h9))] func176
         ·by_cases h9:Ab p=12
          ·by_cases J4:Cj (ByteArray.mk #[73,110,116]) l=false
           ·simp only [Cf,Cg,iN h0,iN h1,iN h2,iN h3,iN h4,iN h5,iN h6,iN h7,iN h8,iP h9,iP J4]; exact pm Ad [Aw h0,Aw h1,Aw h2,Aw h3,Aw h4,cl (@A69 (Ab p) h5 h6 h7 h8 h9),cl (@V7 (l) (ByteArray.mk #[73,110,116]) Cd),B2 (B6 J4)] func176
           ·simp only [Cf,Cg,iN h0,iN h1,iN h2,iN h3,iN h4,iN h5,iN h6,iN h7,iN h8,iP h9,iN J4]; exact pm Ad [Aw h0,Aw h1,Aw h2,Aw h3,Aw h4,cl (@A69 (Ab p) h5 h6 h7 h8 h9),cl (@V7 (l) (ByteArray.mk #[73,110,116]) Cd),AQ (AJ (Jq J4))] func176
          ·by_cases J4:Ab p=13
           ·by_cases KN:Cj (ByteArray.mk #[73,110,116]) l=false
            ·simp only [Cf,Cg,iN h0,iN h1,iN h2,iN h3,iN h4,iN h5,iN h6,iN h7,iN h8,iN h9,iP J4,iP KN]; exact pm Ad [Aw h0,Aw h1,Aw h2,Aw h3,Aw h4,cl (@A6a (Ab p) h5 h6 h7 h8 h9 J4),cl (@V7 (l) (ByteArray.mk #[73,110,116]) Cd),B2 (B6 KN)] func176
            ·simp only [Cf,Cg,iN h0,iN h1,iN h2,iN h3,iN h4,iN h5,iN h6,iN h7,iN h8,iN h9,iP J4,iN KN]; exact pm Ad [Aw h0,Aw h1,Aw h2,Aw h3,Aw h4,cl (@A6a (Ab p) h5 h6 h7 h8 h9 J4),cl (@V7 (l) (ByteArray.mk #[73,110,116]) Cd),AQ (AJ (Jq KN))] func176
           ·by_cases KN:Ab p=10
            ·by_cases NI:List.getD l 0 Ah=List.getD l 1 Ah
             ·simp only [Cf,Cg,iN h0,iN h1,iN h2,iN h3,iN h4,iN h5,iN h6,iN h7,iN h8,iN h9,iN J4,iP KN,iP NI]; exact pm Ad [Aw h0,Aw h1,Aw h2,Aw h3,Aw h4,cl (@A6b (Ab p) h5 h6 h7 h8 h9 J4 KN),cl (@eq2 (l) oM),bf (!ByteArray.toList (List.getD l 0 Ah)==ByteArray.toList (List.getD l 1 Ah)) (AJ (BL NI))] func176
             ·simp only [Cf,Cg,iN h0,iN h1,iN h2,iN h3,iN h4,iN h5,iN h6,iN h7,iN h8,iN h9,iN J4,iP KN,iN NI]; exact pm Ad [Aw h0,Aw h1,Aw h2,Aw h3,Aw h4,cl (@A6b (Ab p) h5 h6 h7 h8 h9 J4 KN),cl (@eq2 (l) oM),bt (!ByteArray.toList (List.getD l 0 Ah)==ByteArray.toList (List.getD l 1 Ah)) (B6 (BZ NI))] func176
            ·by_cases NI:Ab p=11
             ·by_cases Jz:List.getD l 0 Ah=List.getD l 1 Ah
              ·simp only [Cf,Cg,iN h0,iN h1,iN h2,iN h3,iN h4,iN h5,iN h6,iN h7,iN h8,iN h9,iN J4,iN KN,iP NI,iP Jz]; exact pm Ad [Aw h0,Aw h1,Aw h2,Aw h3,Aw h4,cl (@A6c (Ab p) h5 h6 h7 h8 h9 J4 KN NI),cl (@eq2 (l) oM),bf (!ByteArray.toList (List.getD l 0 Ah)==ByteArray.toList (List.getD l 1 Ah)) (AJ (BL Jz))] func176
              ·simp only [Cf,Cg,iN h0,iN h1,iN h2,iN h3,iN h4,iN h5,iN h6,iN h7,iN h8,iN h9,iN J4,iN KN,iP NI,iN Jz]; exact pm Ad [Aw h0,Aw h1,Aw h2,Aw h3,Aw h4,cl (@A6c (Ab p) h5 h6 h7 h8 h9 J4 KN NI),cl (@eq2 (l) oM),bt (!ByteArray.toList (List.getD l 0 Ah)==ByteArray.toList (List.getD l 1 Ah)) (B6 (BZ Jz))] func176
             ·by_cases Jz:Cj (ByteArray.mk #[66,111,111,108]) l=false
              ·simp only [Cf,Cg,iN h0,iN h1,iN h2,iN h3,iN h4,iN h5,iN h6,iN h7,iN h8,iN h9,iN J4,iN KN,iN NI,iP Jz]; exact pm Ad [Aw h0,Aw h1,Aw h2,Aw h3,Aw h4,cl (@A6d (Ab p) h5 h6 h7 h8 h9 J4 KN NI),cl (@V7 (l) (ByteArray.mk #[66,111,111,108]) Cd),B2 (B6 Jz)] func176
              ·simp only [Cf,Cg,iN h0,iN h1,iN h2,iN h3,iN h4,iN h5,iN h6,iN h7,iN h8,iN h9,iN J4,iN KN,iN NI,iN Jz]; exact pm Ad [Aw h0,Aw h1,Aw h2,Aw h3,Aw h4,cl (@A6d (Ab p) h5 h6 h7 h8 h9 J4 KN NI),cl (@V7 (l) (ByteArray.mk #[66,111,111,108]) Cd),AQ (AJ (Jq Jz))] func176
end Go.Proofs.YthchpmnkecoafaaGreatDoor
