/- Values of Go as plain data, an evaluator over them, and what the functions of the program return; part Yi. -/
import Derived.Test.YthchpmnkecoafaaGreatDoorYh
import Derived.Test.YthchpmnkecoafaaGreatDoorYa
set_option linter.unusedSectionVars false
set_option linter.unusedSimpArgs false
set_option linter.unusedVariables false
namespace Go.Proofs.YthchpmnkecoafaaGreatDoor
open Go.Proofs.Tryz
open Go.Pv Go.Proofs.Tryz
set_option maxRecDepth 100000
theorem A44(a:BA):nG a=(decide (a=Gg)||decide (a=DP)||decide (a=OK)):=by
 have h:∀b:BA,(a.toList==b.toList)=decide (a=b):=fun b=>by
  by_cases h:a=b
  ·rw [decide_eq_true h,BI h]
  ·rw [decide_eq_false h,Bp h]
 unfold nG; rw [h,h,h]
theorem Ah7(v:Nv)(name:BA)(l:List BA)(hW:Ba v)(Br:l.length<=1000000000):Pu 146 [.agg (BP v),.str name,.sl 1 (Ae l)] (.ret (.Bf [.str (VU v name l).1,.int .i64 (VU v name l).2])):=by
 unfold VU
 by_cases h0:Lz v name=false
 ·rw [iP h0]; exact Ac0 v name l hW Br h0
 ·rw [iN h0]
  have h0:=JQ h0
  by_cases h1:name=Tc
  ·rw [iP h1]
   by_cases h2:(l.length:Int)=1
   ·rw [iP h2,A44]
    by_cases h3:l.getD 0 Ai=Gg
    ·rw [decide_eq_true h3]; exact Ac2 v name l hW Br h0 h1 h2 h3
    ·rw [decide_eq_false h3,Bool.false_or]
     by_cases h4:l.getD 0 Ai=DP
     ·rw [decide_eq_true h4]; exact Ac3 v name l hW Br h0 h1 h2 h3 h4
     ·rw [decide_eq_false h4,Bool.false_or]
      by_cases h5:l.getD 0 Ai=OK
      ·rw [decide_eq_true h5]; exact Ac4 v name l hW Br h0 h1 h2 h3 h4 h5
      ·rw [decide_eq_false h5,iN dD]
       have:=Ac5 v name l hW Br h0 h1 h2 h3 h4 h5
       have e:pQ (EV v name)=Gg:=by unfold EV; rw [iP h1]; rfl
       rw [e]; exact this
   ·rw [iN h2]; exact Ac1 v name l hW Br h0 h1 h2
  ·rw [iN h1]
   by_cases h2:(l.length:Int)=((DW (EV v name)).length:Int)
   ·rw [iP h2]
    by_cases h3:l=DW (EV v name)
    ·rw [iP h3]; exact Ac8 v name l hW Br h0 h1 h2 h3
    ·rw [iN h3]; exact Ac7 v name l hW Br h0 h1 h2 h3
   ·rw [iN h2]; exact Ac6 v name l hW Br h0 h1 h2
theorem tX(v:Nv)(name:BA):∀ (l:List BA) (i:Nat),l.length+i=(E0 (AQ Bj name (Bd v))).length->Jm v name l i=if l=((E0 (AQ Bj name (Bd v))).drop i).map CD then .e1 else .e0
 | [],i,h=>by
  have:(E0 (AQ Bj name (Bd v))).drop i=[]:=List.drop_eq_nil_of_le (by simp at h; omega)
  rw [this]; simp [Jm]
 | c::r,i,h=>by
  have hi:i<(E0 (AQ Bj name (Bd v))).length:=by simp at h; omega
  have ih:=tX v name r (i+1) (by simp at h; omega)
  rw [At hi,List.map_cons]
  by_cases hc:c=CD ((E0 (AQ Bj name (Bd v))).getD i default)
  ·simp only [Jm,hc,List.cons.injEq,true_and,if_true]; exact ih
  ·simp only [Jm,hc,List.cons.injEq,false_and,if_false]
theorem Ah8(v:Nv)(name:BA)(l:List BA)(hW:Ba v)(Br:l.length<=1000000000):Pu 147 [.agg (BP v),.str name,.sl 1 (Ae l)] (.ret (.Bf [.str (VV v name l).1,.int .i64 (VV v name l).2])):=by
 unfold VV
 by_cases h0:Dx Bj name (Bd v)=false
 ·rw [iP h0]; exact pm A9 [cl (@nI (v) (name) hW),AV (B0 h0)] func147
 ·rw [iN h0]
  have h0:=JQ h0
  by_cases h2:(l.length:Int)=((E0 (AQ Bj name (Bd v))).length:Int)
  ·rw [iP h2]
   have he:=tX v name l 0 oM
   rw [List.drop_zero] at he
   by_cases h3:l=(E0 (AQ Bj name (Bd v))).map CD
   ·rw [iP h3]; exact pu A9 (fun e=>[cl (@nI (v) (name) hW),AM (AI h0),sl (A5 l),sl (Vr.A0 (E0 (AQ Bj name (Bd v)))),B1 h2,lq (rz (fT (v) (name) (l) hW h0 h2 (e) Br) (by rw [he,iP h3]))]) func147
   ·rw [iN h3]; exact pu A9 (fun e=>[cl (@nI (v) (name) hW),AM (AI h0),sl (A5 l),sl (Vr.A0 (E0 (AQ Bj name (Bd v)))),B1 h2,lq (rz (fT (v) (name) (l) hW h0 h2 (e) Br) (by rw [he,iN h3]))]) func147
  ·rw [iN h2]; exact pm A9 [cl (@nI (v) (name) hW),AM (AI h0),sl (A5 l),sl (Vr.A0 (E0 (AQ Bj name (Bd v)))),Bi h2] func147
def tY(o:Int)(l:List BA):BA × Int:=
 if o=6∨o=7∨o=8∨o=9 then (if Ck Gg l=true then (Gg,0) else (Ai,11))
 else if o=10∨o=11 then (if l.getD 0 Ai=l.getD 1 Ai then (DP,0) else (Ai,11))
 else if o=12∨o=13 then (if Ck Gg l=true then (DP,0) else (Ai,11))
 else (if Ck DP l=true then (DP,0) else (Ai,11))
theorem Ah9(o:Int)(l:List BA)(Br:l.length<=1000000000)(LK:o=10∨o=11->2<=l.length):Pu 148 [.int .i64 o,.sl 1 (Ae l)] (.ret (.Bf [.str (tY o l).1,.int .i64 (tY o l).2])):=by
 have I:∀ (P:BA × Int->Prop) (s:BA),(Ck s l=true->P (Gg,0))->(Ck s l=false->P (Ai,11))->P (if Ck s l=true then (Gg,0) else (Ai,11)):=fun P s a b=>by
  cases h:Ck s l with
  | true=>exact a h
  | false=>exact b h
 have B:∀ (P:BA × Int->Prop) (s:BA),(Ck s l=true->P (DP,0))->(Ck s l=false->P (Ai,11))->P (if Ck s l=true then (DP,0) else (Ai,11)):=fun P s a b=>by
  cases h:Ck s l with
  | true=>exact a h
  | false=>exact b h
 have E:∀ (P:BA × Int->Prop),(l.getD 0 Ai=l.getD 1 Ai->P (DP,0))->(¬l.getD 0 Ai=l.getD 1 Ai->P (Ai,11))->P (if l.getD 0 Ai=l.getD 1 Ai then (DP,0) else (Ai,11)):=fun P a b=>by
  by_cases h:l.getD 0 Ai=l.getD 1 Ai
  ·rw [iP h]; exact a h
  ·rw [iN h]; exact b h
 unfold tY
 by_cases h6:o=6
 ·rw [iP oM]
  exact I (fun x=>Pu 148 [.int .i64 o,.sl 1 (Ae l)] (.ret (.Bf [.str x.1,.int .i64 x.2]))) _ (Ac9 o l Br LK h6) (Aca o l Br LK h6)
 ·by_cases h7:o=7
  ·rw [iP oM]
   exact I (fun x=>Pu 148 [.int .i64 o,.sl 1 (Ae l)] (.ret (.Bf [.str x.1,.int .i64 x.2]))) _ (Acb o l Br LK h6 h7) (Acd o l Br LK h6 h7)
  ·by_cases h8:o=8
   ·rw [iP oM]
    exact I (fun x=>Pu 148 [.int .i64 o,.sl 1 (Ae l)] (.ret (.Bf [.str x.1,.int .i64 x.2]))) _ (Ace o l Br LK h6 h7 h8) (Acf o l Br LK h6 h7 h8)
   ·by_cases h9:o=9
    ·rw [iP oM]
     exact I (fun x=>Pu 148 [.int .i64 o,.sl 1 (Ae l)] (.ret (.Bf [.str x.1,.int .i64 x.2]))) _ (Acg o l Br LK h6 h7 h8 h9) (Ach o l Br LK h6 h7 h8 h9)
    ·rw [iN oM]
     by_cases Ji:o=10
     ·rw [iP oM]
      exact E (fun x=>Pu 148 [.int .i64 o,.sl 1 (Ae l)] (.ret (.Bf [.str x.1,.int .i64 x.2]))) (Aci o l Br LK h6 h7 h8 h9 Ji) (A3v o l Br LK h6 h7 h8 h9 Ji)
     ·by_cases Lh:o=11
      ·rw [iP oM]
       exact E (fun x=>Pu 148 [.int .i64 o,.sl 1 (Ae l)] (.ret (.Bf [.str x.1,.int .i64 x.2]))) (A3w o l Br LK h6 h7 h8 h9 Ji Lh) (A3x o l Br LK h6 h7 h8 h9 Ji Lh)
      ·rw [iN oM]
       by_cases OL:o=12
       ·rw [iP oM]
        exact B (fun x=>Pu 148 [.int .i64 o,.sl 1 (Ae l)] (.ret (.Bf [.str x.1,.int .i64 x.2]))) _ (A3y o l Br LK h6 h7 h8 h9 Ji Lh OL) (A3z o l Br LK h6 h7 h8 h9 Ji Lh OL)
       ·by_cases JY:o=13
        ·rw [iP oM]
         exact B (fun x=>Pu 148 [.int .i64 o,.sl 1 (Ae l)] (.ret (.Bf [.str x.1,.int .i64 x.2]))) _ (A40 o l Br LK h6 h7 h8 h9 Ji Lh OL JY) (A41 o l Br LK h6 h7 h8 h9 Ji Lh OL JY)
        ·rw [iN oM]
         exact B (fun x=>Pu 148 [.int .i64 o,.sl 1 (Ae l)] (.ret (.Bf [.str x.1,.int .i64 x.2]))) _ (A42 o l Br LK h6 h7 h8 h9 Ji Lh OL JY) (A43 o l Br LK h6 h7 h8 h9 Ji Lh OL JY)
abbrev tZ(v:Nv)(p:Pr)(sf:Pr->BA)(BZ:Pr->Int)(j:Int)(out:List BA)(e:Ext):S:=S.mk [(2,.lp 2 0),(3,.lp 3 0),(6,.uniq 74 1 (Ae out)),(7,A6 j)] [(2,Dy v),(3,CK p)] e
inductive G7 where
 | e0 (el:Pr) (out:List BA)
 | e1 (out:List BA)
def Ev(sf:Pr->BA)(BZ:Pr->Int):List Pr->(List BA)->G7
 | [],out=>(G7.e1 out)
 | el::r,out=>(if BZ el=0 then Ev sf BZ r (out++[sf el]) else (G7.e0 el out))
def fU(v:Nv)(p:Pr)(sf:Pr->BA)(BZ:Pr->Int)(e:Ext):G7->A4 × S
 | .e0 el out=>(.ret,S.mk [(2,.lp 2 0),(3,.lp 3 0),(6,.uniq 74 1 (Ae out)),(4,vS Ai),(5,A6 (BZ el))] [(2,Dy v),(3,CK p)] e)
 | .e1 out=>(.exit 0,S.mk [(2,.lp 2 0),(3,.lp 3 0),(6,.uniq 74 1 (Ae out))] [(2,Dy v),(3,CK p)] e)
theorem Jn(v:Nv)(p:Pr)(sf:Pr->BA)(BZ:Pr->Int)(BM:∀w:Pr,w∈Av p->Pu 99 [.agg (BP v),.agg (AN w)] (.ret (.Bf [.str (sf w),.int .i64 (BZ w)])))(e:Ext)(hN:(Av p).length<=1000000000)(out:List BA)(hv:(out.length<=0)):(Ob.loop 78 (Au f99 0) (tZ v p sf BZ 0 out e) (fU v p sf BZ e (Ev sf BZ ((Av p))  out)).1 (fU v p sf BZ e (Ev sf BZ ((Av p))  out)).2).ok prog:=by
 refine CL ((Av p).length) (fun j out=>tZ v p sf BZ j out e) (fun i out=>Ev sf BZ (List.drop i ((Av p)))  out) (fU v p sf BZ e) (fun i out=>(out.length<=i)) kR ?_ out (by first | exact hv | omega)
 rintro i out hi hv
 try simp only at hv
 rcases Nat.lt_or_ge i ((Av p).length) with Ac | Cm
 ·have hd:=At Ac
  by_cases h0:BZ (List.getD (Av p) i default)=0
  ·exact lS A9 [sl (Pr.A0 (Av p)),dt ((i:Int)<((Av p).length:Int)),FG (Av p) (i:Int),My (Av p) i Ac,cl (@BM (List.getD (Av p) i default) (by simp_all)),B1 h0,am (List.length (Ae out++(fun x=>Prod.snd x) (0+1,[[.str (sf (List.getD (Av p) i default))]])) * (15+1)<=140737488355328) (by (simp only [List.length_append,List.length_cons,List.length_nil,A5]; omega)),wr ((i:Int)+1)] [2,3,6,7,4,5] [2,3] Ac (out++[sf (List.getD (Av p) i default)]) (S.mk [(2,.lp 2 0),(3,.lp 3 0),(6,.uniq 74 1 (Ae out++[[PV.str (sf (List.getD (Av p) i default))]])),(7,A6 ((i:Int)+1))] [(2,Dy v),(3,CK p)] e) ⟨⟨W,W,(.inl (by first | (simp only [List.nil_append,AK,AF,Pr.A1,Tp.A1,Ex.A1,Vr.A1,Df.A1]; done) | (simp only [List.nil_append,AK,AF,Pr.A1,Tp.A1,Ex.A1,Vr.A1,Df.A1]; rfl))),W,B7⟩,⟨Ws,Ws,B7⟩,rfl⟩ (by first | assumption | omega | (apply gPr <;> first | assumption | omega | decide) | (simp only [List.length_append,List.length_cons,List.length_nil] at *; omega) | simp_all) (by rw [hd,Ev,iP h0])
  ·exact lX A9 [sl (Pr.A0 (Av p)),dt ((i:Int)<((Av p).length:Int)),FG (Av p) (i:Int),My (Av p) i Ac,cl (@BM (List.getD (Av p) i default) (by simp_all)),Bi h0] (G7.e0 (List.getD ((Av p)) i default) out) (by rw [hd,Ev,iN h0])
 ·have he:i=(Av p).length:=by omega
  exact lX A9 [sl (Pr.A0 (Av p)),df ((i:Int)<((Av p).length:Int))] (G7.e1 out) (by rw [he,List.drop_length,Ev])
theorem fV(sf:Pr->BA)(BZ:Pr->Int):∀ (l:List Pr) (out:List BA),Ev sf BZ l out=match Ee sf BZ l out with
  | .e0 w o => .e0 w o
  | .e1 o => .e1 o
 | [],out=>rfl
 | x::r,out=>by
  rw [Ev,Ee]
  split
  ·exact fV sf BZ r _
  ·rfl
theorem Uy{sf:Pr->BA}{BZ:Pr->Int}{l:List Pr}{o:List BA}(h:Ev sf BZ l [] = .e1 o):Ee sf BZ l [] = .e1 o:=by
 rw [fV] at h
 cases h2:Ee sf BZ l [] with
 | e0 w o'=>rw [h2] at h; cases h
 | e1 o'=>rw [h2] at h; simp only [G7.e1.injEq] at h; rw [h]
theorem A45{p:Pr}{sf:Pr->BA}{BZ:Pr->Int}{o:List BA}(ha:OM p)(hr:Ev sf BZ (Av p) [] = .e1 o):Af p=10∨Af p=11->2<=o.length:=tA ha (Uy hr)
theorem Uz{p:Pr}{sf:Pr->BA}{BZ:Pr->Int}{o:List BA}(Br:(Av p).length<=1000000000)(hr:Ev sf BZ (Av p) [] = .e1 o):o.length<=1000000000:=of_le Br (Uy hr)
section
variable (v:Nv) (p:Pr) (sf:Pr->BA) (BZ:Pr->Int) (BM:∀w:Pr,w∈Av p->Pu 99 [.agg (BP v),.agg (AN w)] (.ret (.Bf [.str (sf w),.int .i64 (BZ w)]))) (Br:(Av p).length<=1000000000) (hW:Ba v) (hAr:OM p)
include v p sf BZ BM Br hW hAr
theorem A46(CX:Pr)(I6:List BA)(Am:Ev sf BZ (Av p) []=G7.e0 CX I6):Pu 99 [.agg (BP v),.agg (AN p)] (.ret (.Bf [.str Ai,pI (BZ CX)])):=
 pu A9 (fun e=>[lp (S.mk [(2,.lp 2 0),(3,.lp 3 0),(6,.v .A2),(7,A6 0)] [(2,Dy v),(3,CK p)] e) (rz (Jn (v) (p) (sf) (BZ) BM (e) Br ([]) (by (simp only [List.length_nil]; omega))) Am) ⟨⟨W,W,Wq,W,B7⟩,⟨⟨W,W,W,B7⟩,⟨W,W,W,W,B7⟩,B7⟩,rfl⟩]) func99
theorem A47(CX:List BA)(Aa:Ev sf BZ (Av p) []=G7.e1 CX)(Am:Af p=1):Pu 99 [.agg (BP v),.agg (AN p)] (.ret (.Bf [.str (ByteArray.mk #[73,110,116]),pI 0])):=
 pu A9 (fun e=>[lp (S.mk [(2,.lp 2 0),(3,.lp 3 0),(6,.v .A2),(7,A6 0)] [(2,Dy v),(3,CK p)] e) (rz (Jn (v) (p) (sf) (BZ) BM (e) Br ([]) (by (simp only [List.length_nil]; omega))) Aa) ⟨⟨W,W,Wq,W,B7⟩,⟨⟨W,W,W,B7⟩,⟨W,W,W,W,B7⟩,B7⟩,rfl⟩,Bb Am]) func99
theorem A48(CX:List BA)(Aa:Ev sf BZ (Av p) []=G7.e1 CX)(Am:¬Af p=1)(Az:Af p=2):Pu 99 [.agg (BP v),.agg (AN p)] (.ret (.Bf [.str (ByteArray.mk #[66,111,111,108]),pI 0])):=
 pu A9 (fun e=>[lp (S.mk [(2,.lp 2 0),(3,.lp 3 0),(6,.v .A2),(7,A6 0)] [(2,Dy v),(3,CK p)] e) (rz (Jn (v) (p) (sf) (BZ) BM (e) Br ([]) (by (simp only [List.length_nil]; omega))) Aa) ⟨⟨W,W,Wq,W,B7⟩,⟨⟨W,W,W,B7⟩,⟨W,W,W,W,B7⟩,B7⟩,rfl⟩,Ay Am,Bb Az]) func99
theorem A49(CX:List BA)(Aa:Ev sf BZ (Av p) []=G7.e1 CX)(Am:¬Af p=1)(Az:¬Af p=2)(AP:Af p=3)(Bu:Dx AE (Aj p) (List.reverse (AX v))=false):Pu 99 [.agg (BP v),.agg (AN p)] (.ret (.Bf [.str Ai,pI 5])):=
 pu A9 (fun e=>[lp (S.mk [(2,.lp 2 0),(3,.lp 3 0),(6,.v .A2),(7,A6 0)] [(2,Dy v),(3,CK p)] e) (rz (Jn (v) (p) (sf) (BZ) BM (e) Br ([]) (by (simp only [List.length_nil]; omega))) Aa) ⟨⟨W,W,Wq,W,B7⟩,⟨⟨W,W,W,B7⟩,⟨W,W,W,W,B7⟩,B7⟩,rfl⟩,Ay Am,Ay Az,Bb AP,cl (@Abw (v) (Aj p) hW),AV (B0 Bu)]) func99
theorem A4a(CX:List BA)(Aa:Ev sf BZ (Av p) []=G7.e1 CX)(Am:¬Af p=1)(Az:¬Af p=2)(AP:Af p=3)(Bu:Dx AE (Aj p) (List.reverse (AX v))=true):Pu 99 [.agg (BP v),.agg (AN p)] (.ret (.Bf [.str (CD (AQ AE (Aj p) (List.reverse (AX v)))),pI 0])):=
 pu A9 (fun e=>[lp (S.mk [(2,.lp 2 0),(3,.lp 3 0),(6,.v .A2),(7,A6 0)] [(2,Dy v),(3,CK p)] e) (rz (Jn (v) (p) (sf) (BZ) BM (e) Br ([]) (by (simp only [List.length_nil]; omega))) Aa) ⟨⟨W,W,Wq,W,B7⟩,⟨⟨W,W,W,B7⟩,⟨W,W,W,W,B7⟩,B7⟩,rfl⟩,Ay Am,Ay Az,Bb AP,cl (@Abw (v) (Aj p) hW),AM (AI Bu)]) func99
theorem A4b(CX:List BA)(Aa:Ev sf BZ (Av p) []=G7.e1 CX)(Am:¬Af p=1)(Az:¬Af p=2)(AP:¬Af p=3)(Bu:Af p=4):Pu 99 [.agg (BP v),.agg (AN p)] (.ret (.Bf [.str (Prod.fst (VU v (Aj p) CX)),pI (Prod.snd (VU v (Aj p) CX))])):=
 pu A9 (fun e=>[lp (S.mk [(2,.lp 2 0),(3,.lp 3 0),(6,.v .A2),(7,A6 0)] [(2,Dy v),(3,CK p)] e) (rz (Jn (v) (p) (sf) (BZ) BM (e) Br ([]) (by (simp only [List.length_nil]; omega))) Aa) ⟨⟨W,W,Wq,W,B7⟩,⟨⟨W,W,W,B7⟩,⟨W,W,W,W,B7⟩,B7⟩,rfl⟩,Ay Am,Ay Az,Ay AP,Bb Bu,cl (@Ah7 (v) (Aj p) (CX) hW (by (apply Uz <;> first | assumption | omega | decide)))]) func99
theorem A4c(CX:List BA)(Aa:Ev sf BZ (Av p) []=G7.e1 CX)(Am:¬Af p=1)(Az:¬Af p=2)(AP:¬Af p=3)(Bu:¬Af p=4)(En:Af p=5):Pu 99 [.agg (BP v),.agg (AN p)] (.ret (.Bf [.str (Prod.fst (VV v (Aj p) CX)),pI (Prod.snd (VV v (Aj p) CX))])):=
 pu A9 (fun e=>[lp (S.mk [(2,.lp 2 0),(3,.lp 3 0),(6,.v .A2),(7,A6 0)] [(2,Dy v),(3,CK p)] e) (rz (Jn (v) (p) (sf) (BZ) BM (e) Br ([]) (by (simp only [List.length_nil]; omega))) Aa) ⟨⟨W,W,Wq,W,B7⟩,⟨⟨W,W,W,B7⟩,⟨W,W,W,W,B7⟩,B7⟩,rfl⟩,Ay Am,Ay Az,Ay AP,Ay Bu,Bb En,cl (@Ah8 (v) (Aj p) (CX) hW (by (apply Uz <;> first | assumption | omega | decide)))]) func99
theorem A4d(CX:List BA)(Aa:Ev sf BZ (Av p) []=G7.e1 CX)(Am:¬Af p=1)(Az:¬Af p=2)(AP:¬Af p=3)(Bu:¬Af p=4)(En:¬Af p=5):Pu 99 [.agg (BP v),.agg (AN p)] (.ret (.Bf [.str (Prod.fst (tY (Af p) CX)),pI (Prod.snd (tY (Af p) CX))])):=
 pu A9 (fun e=>[lp (S.mk [(2,.lp 2 0),(3,.lp 3 0),(6,.v .A2),(7,A6 0)] [(2,Dy v),(3,CK p)] e) (rz (Jn (v) (p) (sf) (BZ) BM (e) Br ([]) (by (simp only [List.length_nil]; omega))) Aa) ⟨⟨W,W,Wq,W,B7⟩,⟨⟨W,W,W,B7⟩,⟨W,W,W,W,B7⟩,B7⟩,rfl⟩,Ay Am,Ay Az,Ay AP,Ay Bu,Ay En,cl (@Ah9 (Af p) (CX) (by (apply Uz <;> first | assumption | omega | decide)) (by (apply A45 <;> first | assumption | omega | decide)))]) func99
end
theorem Acj(v:Nv)(p:Pr)(l:List BA)(h1:¬Af p=1)(h2:¬Af p=2)(h3:¬Af p=3)(h4:¬Af p=4)(h5:¬Af p=5):Ci v p l=(tY (Af p) l).1/\Cj v p l=(tY (Af p) l).2:=by
 have hI:∀s:BA,(Ck s l=true)∨(Ck s l=false):=fun s=>by cases Ck s l <;> simp
 unfold Ci Cj tY
 simp only [h1,h2,h3,h4,h5,if_false]
 by_cases h6:Af p=6
 ·rcases hI (ByteArray.mk #[73,110,116]) with h | h <;> simp [h6,h,Gg]
 ·by_cases h7:Af p=7
  ·rcases hI (ByteArray.mk #[73,110,116]) with h | h <;> simp [h7,h,Gg]
  ·by_cases h8:Af p=8
   ·rcases hI (ByteArray.mk #[73,110,116]) with h | h <;> simp [h8,h,Gg]
   ·by_cases h9:Af p=9
    ·rcases hI (ByteArray.mk #[73,110,116]) with h | h <;> simp [h9,h,Gg]
    ·by_cases OL:Af p=12
     ·rcases hI (ByteArray.mk #[73,110,116]) with h | h <;> simp [OL,h,Gg,DP]
     ·by_cases JY:Af p=13
      ·rcases hI (ByteArray.mk #[73,110,116]) with h | h <;> simp [JY,h,Gg,DP]
      ·by_cases Ji:Af p=10
       ·by_cases h:l[0]?.getD Ai=l[1]?.getD Ai <;> simp [Ji,h,DP]
       ·by_cases Lh:Af p=11
        ·by_cases h:l[0]?.getD Ai=l[1]?.getD Ai <;> simp [Lh,h,DP]
        ·rcases hI (ByteArray.mk #[66,111,111,108]) with h | h <;> simp [h6,h7,h8,h9,Ji,Lh,OL,JY,h,DP]
theorem fW(v:Nv)(hW:Ba v):∀ (d:Nat) (p:Pr),A3 (AN p)<d->d<=1000000001->OM p->Pu 99 [.agg (BP v),.agg (AN p)] (.ret (.Bf [.str (P4 d v p).1,.int .i64 (P4 d v p).2]))
 | 0,_,h,_,_=>by omega
 | d+1,p,h,hd,ha=>by
  have h1:=ON p
  have h2:=Pr.BS (Av p)
  have hN:(Av p).length<=1000000000:=by omega
  have hk:∀w:Pr,w∈Av p->Pu 99 [.agg (BP v),.agg (AN w)] (.ret (.Bf [.str (P4 d v w).1,.int .i64 (P4 d v w).2])):=fun w hw=>fW v hW d w (by have:=Pr.mem hw; omega) oM (by cases ha with | mk _ _ hk=>exact hk w hw)
  rw [P4]
  cases Na:Ev (fun w=>(P4 d v w).1) (fun w=>(P4 d v w).2) (Av p) [] with
  | e0 w o=>
   have hr:=fV (fun w=>(P4 d v w).1) (fun w=>(P4 d v w).2) (Av p) []
   rw [Na] at hr
   cases hr2:Ee (fun w=>(P4 d v w).1) (fun w=>(P4 d v w).2) (Av p) [] with
   | e0 w' o'=>
    rw [hr2] at hr; simp only [G7.e0.injEq] at hr; rw [<-hr.1]
    exact A46 v p _ _ hk hN hW ha w o Na
   | e1 o'=>rw [hr2] at hr; cases hr
  | e1 o=>
   rw [Uy Na]
   simp only
   by_cases h1:Af p=1
   ·have e0:Ci v p o=Gg:=by unfold Ci; rw [iP h1]
    have e1:Cj v p o=0:=by unfold Cj; rw [iP h1]
    rw [e0,e1]; exact A47 v p _ _ hk hN hW ha o Na h1
   by_cases h2:Af p=2
   ·have e0:Ci v p o=DP:=by unfold Ci; rw [iN h1,iP h2]
    have e1:Cj v p o=0:=by unfold Cj; rw [iN h1,iP h2]
    rw [e0,e1]; exact A48 v p _ _ hk hN hW ha o Na h1 h2
   by_cases h3:Af p=3
   ·cases hb:Dx AE (Aj p) (AX v).reverse with
    | false=>
     have e0:Ci v p o=Ai:=by unfold Ci; rw [iN h1,iN h2,iP h3,iP hb]
     have e1:Cj v p o=5:=by unfold Cj; rw [iN h1,iN h2,iP h3,iP hb]
     rw [e0,e1]; exact A49 v p _ _ hk hN hW ha o Na h1 h2 h3 hb
    | true=>
     have e0:Ci v p o=CD (AQ AE (Aj p) (AX v).reverse):=by unfold Ci; rw [iN h1,iN h2,iP h3,iN (by rw [hb]; decide)]
     have e1:Cj v p o=0:=by unfold Cj; rw [iN h1,iN h2,iP h3,iN (by rw [hb]; decide)]
     rw [e0,e1]; exact A4a v p _ _ hk hN hW ha o Na h1 h2 h3 hb
   by_cases h4:Af p=4
   ·have e0:Ci v p o=(VU v (Aj p) o).1:=by unfold Ci; rw [iN h1,iN h2,iN h3,iP h4]
    have e1:Cj v p o=(VU v (Aj p) o).2:=by unfold Cj; rw [iN h1,iN h2,iN h3,iP h4]
    rw [e0,e1]; exact A4b v p _ _ hk hN hW ha o Na h1 h2 h3 h4
   by_cases h5:Af p=5
   ·have e0:Ci v p o=(VV v (Aj p) o).1:=by unfold Ci; rw [iN h1,iN h2,iN h3,iN h4,iP h5]
    have e1:Cj v p o=(VV v (Aj p) o).2:=by unfold Cj; rw [iN h1,iN h2,iN h3,iN h4,iP h5]
    rw [e0,e1]; exact A4c v p _ _ hk hN hW ha o Na h1 h2 h3 h4 h5
   ·have:=Acj v p o h1 h2 h3 h4 h5
    rw [this.1,this.2]; exact A4d v p _ _ hk hN hW ha o Na h1 h2 h3 h4 h5
theorem Aha(v:Nv)(p:Pr)(hW:Ba v)(hs:A3 (AN p)<=100000000)(oN:Hf p=0):Pu 99 [.agg (BP v),.agg (AN p)] (.ret (.Bf [.str (nH v p).1,.int .i64 (nH v p).2])):=fW v hW _ p oM oM (tC oN)
theorem Xh(v:Nv)(p:Pr)(hW:Ba v)(hs:A3 (AN p)<=100000000):Pu 55 [.agg (BP v),.agg (AN p)] (.ret (.Bf [.str (FX v p).1,.int .i64 (FX v p).2])):=by
 unfold FX
 by_cases h:Hf p=0
 ·rw [iP h]; exact pm A9 [cl (@A2c (p) hs),nn (Hf p) 0 h,cl (@Aha (v) (p) hW hs h)] func55
 ·rw [iN h]; exact pm A9 [cl (@A2c (p) hs),nt (Hf p) 0 h] func55
theorem rze(p:Pr):Pu 128 [.agg (AN p)] (rB (Af p==0&&ByteArray.toList (Aj p)==ByteArray.toList Ai&&Bq p==0&&((Av p).length:Int)==0)):=
 pm A9 [mg,av (.v (.bool (bif Af p==0 then ByteArray.toList (Aj p)==ByteArray.toList Ai else false))) (.v (.bool (Af p==0&&ByteArray.toList (Aj p)==ByteArray.toList Ai))) (by (simp only [Bool.cond_false_right]; done)),mg,av (.v (.bool (bif Af p==0&&ByteArray.toList (Aj p)==ByteArray.toList Ai then Bq p==0 else false))) (.v (.bool (Af p==0&&ByteArray.toList (Aj p)==ByteArray.toList Ai&&Bq p==0))) (by (simp only [Bool.cond_false_right]; done)),mg,av (.v (.bool (bif Af p==0&&ByteArray.toList (Aj p)==ByteArray.toList Ai&&Bq p==0 then (↑((fun x=>List.length (Prod.snd x)) (4,Pr.cs (Av p))):Int)==0 else false))) (.v (.bool (Af p==0&&ByteArray.toList (Aj p)==ByteArray.toList Ai&&Bq p==0&&((Av p).length:Int)==0))) (by (simp only [List.length_nil,Pr.A0,Bool.cond_false_right]; done))] func128
def KA(v:Nv)(p:Pr):Int:=(if (Af p==0&&ByteArray.toList (Aj p)==ByteArray.toList Ai&&Bq p==0&&((Av p).length:Int)==0)=true then 0 else (if Prod.snd (FX v p)=0 then (if Prod.fst (FX v p)=ByteArray.mk #[66,111,111,108] then 0 else 11) else (Prod.snd (FX v p))))
theorem rsb(v:Nv)(p:Pr)(hW:Ba v)(hs:A3 (AN p)<=100000000):Pu 77 [.agg (BP v),.agg (AN p)] (rI (KA v p)):=by
 by_cases h0:(Af p==0&&ByteArray.toList (Aj p)==ByteArray.toList Ai&&Bq p==0&&((Av p).length:Int)==0)=true
 ·simp only [KA,iP h0]; exact pm A9 [cl (@rze (p)),AV h0] func77
 ·by_cases h1:Prod.snd (FX v p)=0
  ·by_cases h2:Prod.fst (FX v p)=ByteArray.mk #[66,111,111,108]
   ·simp only [KA,iN h0,iP h1,iP h2]; exact pm A9 [cl (@rze (p)),AM (Db h0),cl (@Xh (v) (p) hW hs),B1 h1,bf (!ByteArray.toList (Prod.fst (FX v p))==ByteArray.toList (ByteArray.mk #[66,111,111,108])) (AI (BI h2))] func77
   ·simp only [KA,iN h0,iP h1,iN h2]; exact pm A9 [cl (@rze (p)),AM (Db h0),cl (@Xh (v) (p) hW hs),B1 h1,bt (!ByteArray.toList (Prod.fst (FX v p))==ByteArray.toList (ByteArray.mk #[66,111,111,108])) (B0 (Bp h2))] func77
  ·simp only [KA,iN h0,iN h1]; exact pm A9 [cl (@rze (p)),AM (Db h0),cl (@Xh (v) (p) hW hs),Bi h1] func77
theorem Ack(p:Pr):(Af p==0&&ByteArray.toList (Aj p)==ByteArray.toList Ai&&Bq p==0&&((Av p).length:Int)==0)=C0 p:=by
 have hl:(((Av p).length:Int)==0)=isNil (Av p):=by
  unfold isNil
  by_cases h:((Av p).length:Int)=0
  ·rw [decide_eq_true h]; exact beq_iff_eq.2 h
  ·rw [decide_eq_false h]; exact beq_eq_false_iff_ne.2 h
 rw [hl]
 unfold C0
 by_cases h0:Af p=0
 ·by_cases h1:Aj p=Ai
  ·by_cases h2:Bq p=0
   ·rw [iP h0,iP h1,iP h2,BI h1,h0,h2]; simp
   ·rw [iP h0,iP h1,iN h2,(beq_eq_false_iff_ne (a:=Bq p) (b:=0)).2 h2]; simp
  ·rw [iP h0,iN h1,Bp h1]; simp
 ·rw [iN h0,(beq_eq_false_iff_ne (a:=Af p) (b:=0)).2 h0]; simp
theorem Acl(v:Nv)(p:Pr):KA v p=Bt v p:=by
 unfold KA Bt
 rw [Ack]
 by_cases h0:C0 p=true
 ·rw [iP h0,iP h0]
 ·rw [iN h0,iN h0]
  by_cases h1:(FX v p).2=0
  ·rw [iP h1,h1]
   by_cases h2:(FX v p).1=ByteArray.mk #[66,111,111,108]
   ·rw [iP h2,BI h2]; rfl
   ·rw [iN h2,Bp h2]; rfl
  ·rw [iN h1,(beq_eq_false_iff_ne (a:=(FX v p).2) (b:=0)).2 h1]; simp
theorem Tf(v:Nv)(p:Pr)(hW:Ba v)(hs:A3 (AN p)<=100000000):Pu 77 [.agg (BP v),.agg (AN p)] (.ret (.int .i64 (Bt v p))):=by
 rw [<-Acl]; exact rsb v p hW hs
abbrev u0(t:Tp)(pf:Tp->Tp)(j:Int)(out:List Tp)(e:Ext):S:=S.mk [(2,.lp 2 0),(3,.lp 3 0),(12,vL 9 (Tp.cs (Ab t))),(13,A6 ((Ab t).length:Int)),(14,A6 j)] [(2,[A6 0,vS Ai,.v .A2,.v .A2,A6 0,vS Ai,A6 0,.v .A2,.v .A2]),(3,[A6 (AB t),vS (An t),.uniq 43 9 (Tp.cs out),.v .A2,A6 0,vS Ai,A6 0,.v .A2,.v .A2])] e
def Lm(pf:Tp->Tp):List Tp->(List Tp)->(List Tp)
 | [],out=>(out)
 | el::r,out=>Lm pf r (out++[pf el])
def fX(t:Tp)(pf:Tp->Tp)(e:Ext)(p:(List Tp)):A4 × S:=(.exit 0,S.mk [(2,.lp 2 0),(3,.lp 3 0),(12,vL 9 (Tp.cs (Ab t))),(13,A6 ((Ab t).length:Int))] [(2,[A6 0,vS Ai,.v .A2,.v .A2,A6 0,vS Ai,A6 0,.v .A2,.v .A2]),(3,[A6 (AB t),vS (An t),.uniq 43 9 (Tp.cs p),.v .A2,A6 0,vS Ai,A6 0,.v .A2,.v .A2])] e)
theorem rpl(t:Tp)(pf:Tp->Tp)(BM:∀w:Tp,w∈Ab t->Pu 97 [.agg (AO w)] (.ret (.agg (AO (pf w)))))(out:List Tp)(e:Ext)(hN:(Ab t).length<=1000000000)(hv:List.length out<=0):(Ob.loop 27 (Au f97 0) (u0 t pf 0 out e) (fX t pf e (Lm pf ((Ab t))  out)).1 (fX t pf e (Lm pf ((Ab t))  out)).2).ok prog:=by
 refine CL ((Ab t).length) (fun j out=>u0 t pf j out e) (fun i out=>Lm pf (List.drop i ((Ab t)))  out) (fX t pf e) (fun i out=>(out.length<=i)) kR ?_ out (by first | exact hv | omega)
 rintro i out hi hv
 try simp only at hv
 rcases Nat.lt_or_ge i ((Ab t).length) with Ac | Cm
 ·have hd:=At Ac
  exact lS A9 [dt ((i:Int)<((Ab t).length:Int)),DH (Ab t) (i:Int),I5 (Ab t) i Ac,cl (@BM (List.getD (Ab t) i default) (by simp_all)),am (List.length (Tp.cs out++(fun x=>Prod.snd x) (8+1,[AO (pf (List.getD (Ab t) i default))])) * (151+1)<=140737488355328) (by (simp only [List.length_append,List.length_cons,List.length_nil,A5,Pr.A0,Tp.A0]; omega)),wr ((i:Int)+1)] [2,3,12,13,14] [2,3] Ac (out++[pf (List.getD (Ab t) i default)]) (S.mk [(2,.lp 2 0),(3,.lp 3 0),(12,vL 9 (Tp.cs (Ab t))),(13,A6 ((Ab t).length:Int)),(14,A6 ((i:Int)+1))] [(2,[A6 0,vS Ai,.v .A2,.v .A2,A6 0,vS Ai,A6 0,.v .A2,.v .A2]),(3,[A6 (AB t),vS (An t),.uniq 43 9 (Tp.cs out++[AO (pf (List.getD (Ab t) i default))]),.v .A2,A6 0,vS Ai,A6 0,.v .A2,.v .A2])] e) ⟨⟨W,W,W,W,W,B7⟩,⟨Ws,⟨W,W,(.inl (by first | (simp only [List.nil_append,AK,AF,Pr.A1,Tp.A1,Ex.A1,Vr.A1,Df.A1,Sy.A1,Ho.A1]; done) | (simp only [List.nil_append,AK,AF,Pr.A1,Tp.A1,Ex.A1,Vr.A1,Df.A1,Sy.A1,Ho.A1]; rfl))),W,W,W,W,W,W,B7⟩,B7⟩,rfl⟩ (by first | assumption | omega | (apply gTp <;> first | assumption | omega | decide) | (simp only [List.length_append,List.length_cons,List.length_nil] at *; omega) | simp_all) (by rw [hd,Lm])
 ·have he:i=(Ab t).length:=by omega
  exact lX A9 [df ((i:Int)<((Ab t).length:Int))] (out) (by rw [he,List.drop_length,Lm])
theorem Ahb(t:Tp)(pf:Tp->Tp)(BM:∀w:Tp,w∈Ab t->Pu 97 [.agg (AO w)] (.ret (.agg (AO (pf w)))))(hN:(Ab t).length<=1000000000):Pu 97 [.agg (AO t)] (rA [pI (AB t),.str (An t),.sl 9 (Tp.cs (Lm pf (Ab t) [])),.sl 1 [],pI 0,.str Ai,pI 0,.sl 4 [],.sl 4 []]):=
 Ob.Ej (Wk.a (kr (kr (kr (kn 1 (kr (kr (kr (kn 4 (kn 4 (Co.r _))))))))))) (pu A9 (fun e=>[sl (Tp.A0 (Ab t)),lp (S.mk [(2,.lp 2 0),(3,.lp 3 0),(12,vL 9 (Tp.cs (Ab t))),(13,A6 ((Ab t).length:Int)),(14,A6 0)] [(2,[A6 0,vS Ai,.v .A2,.v .A2,A6 0,vS Ai,A6 0,.v .A2,.v .A2]),(3,[A6 (AB t),vS (An t),.v .A2,.v .A2,A6 0,vS Ai,A6 0,.v .A2,.v .A2])] e) (@rpl (t) (pf) BM ([]) (e) hN (by (simp only [List.length_nil]; omega))) ⟨⟨W,W,W,W,W,B7⟩,⟨⟨W,W,W,W,W,W,W,W,W,B7⟩,⟨W,W,Wq,W,W,Wq,W,W,W,B7⟩,B7⟩,rfl⟩]) func97)
theorem u5(pf:Tp->Tp):∀ (l out:List Tp),Lm pf l out=K0 pf l out
 | [],out=>rfl
 | x::r,out=>by rw [Lm,K0,u5 pf r]
theorem fY:∀ (d:Nat) (t:Tp),A3 (AO t)<d->d<=1000000001->Pu 97 [.agg (AO t)] (.ret (.agg (AO (plD d t))))
 | 0,_,h,_=>by omega
 | d+1,t,h,hd=>by
  have h1:=BY t
  have h2:=Tp.BS (Ab t)
  have:=Ahb t (plD d) (fun w hw=>fY d w (by have:=Tp.mem hw; omega) oM) oM
  rw [u5] at this
  exact this
theorem Acm(t:Tp)(hs:A3 (AO t)<=1000000000):Pu 97 [.agg (AO t)] (.ret (.agg (AO (LA t)))):=fY _ t oM oM
theorem A4e(v:Nv)(a b:BA)(hE:Ba v):Pu 79 [.agg (BP v),.agg [.str a,.str b]] (.ret (.agg (BP (JH v (.mk a b))))):=rwi v (.mk a b) hE
section
variable (v:Nv) (name:BA) (t:Tp) (hE:Ba v) (hs:A3 (AO t)<=1000000000)
include v name t hE hs
theorem Acn(A7:(!CY (LA t)||ByteArray.toList name==ByteArray.toList Ai)=true):Pu 53 [.agg (BP v),.str name,.agg (AO t)] (rA (BP v)):=
 pm A9 [cl (@Acm (t) hs),cl (@Abx (LA t)),mg,av (.v (.bool (bif !CY (LA t) then true else ByteArray.toList name==ByteArray.toList Ai))) (.v (.bool (!CY (LA t)||ByteArray.toList name==ByteArray.toList Ai))) rF,AV A7] func53
theorem Aco(A7:(!CY (LA t)||ByteArray.toList name==ByteArray.toList Ai)=false):Pu 53 [.agg (BP v),.str name,.agg (AO t)] (rA (BP (JH v (Vr.mk name (Eo (LA t)))))):=
 pm A9 [cl (@Acm (t) hs),cl (@Abx (LA t)),mg,av (.v (.bool (bif !CY (LA t) then true else ByteArray.toList name==ByteArray.toList Ai))) (.v (.bool (!CY (LA t)||ByteArray.toList name==ByteArray.toList Ai))) rF,AM A7,cl (@A4e (v) (name) (Eo (LA t)) hE)] func53
end
theorem Acp(t:Tp)(i:Nat)(A7:(i:Int)<((Ag t).length:Int)):Pu 54 [.agg (AO t),pI (i:Int)] (.ret (.str (List.getD (Ag t) i Ai))):=
 pm A9 [sl (A5 (Ag t)),BL A7,CH (Ag t) (i:Int),DU (Ag t) i] func54
theorem Acq(t:Tp)(i:Nat)(A7:¬(i:Int)<((Ag t).length:Int)):Pu 54 [.agg (AO t),pI (i:Int)] (.ret (.str Ai)):=
 pm A9 [sl (A5 (Ag t)),Ar A7] func54
theorem VY{v:Nv}(hE:Ba v):GF v v 0:=⟨hE,by omega⟩
section
variable (m:Mo) (v:Nv) (t:Tp) (tf:Nv->Tp->Int) (BM:∀ (u:Nv) (i:Nat),i<(Ab t).length->GF v u i->Pu 35 [.agg (GR m u),.agg (AO ((Ab t).getD i default))] (.ret (.int .i64 (tf u ((Ab t).getD i default))))) (hE:Ba v) (Fy:(AX v).length<=50000000) (Bk:A3 (AO t)<=10000000) (BC:(AL m).length<=1048576) (k:Int) (VW:Pu 73 [.sl 9 (Tp.cs (Ab t)),.fn (.func 35) [.agg (GR m v)] []] (.ret (.int .i64 k))) (Xf:(Ab t).length<=1000000000) (Uw:(Aq t).length<=1000000000)
include m v t tf BM hE Fy Bk BC k VW Xf Uw
theorem Acr(A7:AB t=6)(I6:Tp)(Iu:Nv)(Az:G5 t tf (Ab t) 0 v=MP.e0 I6 Iu):Pu 35 [.agg (GR m v),.agg (AO t)] (rI (tf Iu I6)):=
 pu A9 (fun e=>[Bb A7,sl (Tp.A0 (Ab t)),lq (rz (eR (m) (v) (t) (tf) BM A7 Fy Bk (e) Xf (v) (by (apply VY <;> first | assumption | omega | decide))) Az)]) func35
theorem Acs(A7:AB t=6)(I6:Nv)(Am:G5 t tf (Ab t) 0 v=MP.e1 I6):Pu 35 [.agg (GR m v),.agg (AO t)] (rI 0):=
 pu A9 (fun e=>[Bb A7,sl (Tp.A0 (Ab t)),lq (rz (eR (m) (v) (t) (tf) BM A7 Fy Bk (e) Xf (v) (by (apply VY <;> first | assumption | omega | decide))) Am)]) func35
theorem Acu(A7:¬AB t=6)(Aa:¬Bt (JI v (bM 118) t) (AT t)=0):Pu 35 [.agg (GR m v),.agg (AO t)] (rI (Bt (JI v (bM 118) t) (AT t))):=
 pm A9 [Ay A7,cl (@pwT (m) (v) (bM 118) (t) hE oM),cl (@sb (JI v (bM 118) t) (AT t) (by (apply gE1 <;> first | assumption | omega | decide)) (by (apply kC <;> first | assumption | omega | decide))),Bi Aa] func35
theorem Acv(A7:¬AB t=6)(Aa:Bt (JI v (bM 118) t) (AT t)=0)(Am:((Aq t).length:Int)>0)(Az:¬((Aq t).length:Int)=((F6 (AQ Bc (An t) (AL m))).length:Int)):Pu 35 [.agg (GR m v),.agg (AO t)] (rI 13):=
 pm A9 [Ay A7,cl (@pwT (m) (v) (bM 118) (t) hE oM),cl (@sb (JI v (bM 118) t) (AT t) (by (apply gE1 <;> first | assumption | omega | decide)) (by (apply kC <;> first | assumption | omega | decide))),B1 Aa,sl (Pr.A0 (Aq t)),BL Am,cl (@dTT (m) (An t) BC),sl (Pr.A0 (Aq t)),sl (Vr.A0 (F6 (AQ Bc (An t) (AL m)))),Bi Az] func35
theorem Acw(A7:¬AB t=6)(Aa:Bt (JI v (bM 118) t) (AT t)=0)(Am:((Aq t).length:Int)>0)(Az:((Aq t).length:Int)=((F6 (AQ Bc (An t) (AL m))).length:Int))(Xi:Pr)(kD:Nat)(En:GS m v t (Aq t) 0=MQ.e0 Xi kD):Pu 35 [.agg (GR m v),.agg (AO t)] (rI (Bt (JH v (Vr.mk (bM 118) (CD (List.getD (F6 (AQ Bc (An t) (AL m))) kD default)))) Xi)):=
 pu A9 (fun e=>[Ay A7,cl (@pwT (m) (v) (bM 118) (t) hE oM),cl (@sb (JI v (bM 118) t) (AT t) (by (apply gE1 <;> first | assumption | omega | decide)) (by (apply kC <;> first | assumption | omega | decide))),B1 Aa,sl (Pr.A0 (Aq t)),BL Am,cl (@dTT (m) (An t) BC),sl (Pr.A0 (Aq t)),sl (Vr.A0 (F6 (AQ Bc (An t) (AL m)))),B1 Az,sl (Pr.A0 (Aq t)),lq (rz (eT (m) (v) (t) A7 hE Fy Bk BC Aa Am Az (e) Uw) En)]) func35
theorem Acx(A7:¬AB t=6)(Aa:Bt (JI v (bM 118) t) (AT t)=0)(Am:((Aq t).length:Int)>0)(Az:((Aq t).length:Int)=((F6 (AQ Bc (An t) (AL m))).length:Int))(AP:GS m v t (Aq t) 0=MQ.e1):Pu 35 [.agg (GR m v),.agg (AO t)] (rI k):=
 pu A9 (fun e=>[Ay A7,cl (@pwT (m) (v) (bM 118) (t) hE oM),cl (@sb (JI v (bM 118) t) (AT t) (by (apply gE1 <;> first | assumption | omega | decide)) (by (apply kC <;> first | assumption | omega | decide))),B1 Aa,sl (Pr.A0 (Aq t)),BL Am,cl (@dTT (m) (An t) BC),sl (Pr.A0 (Aq t)),sl (Vr.A0 (F6 (AQ Bc (An t) (AL m)))),B1 Az,sl (Pr.A0 (Aq t)),lq (rz (eT (m) (v) (t) A7 hE Fy Bk BC Aa Am Az (e) Uw) AP),cl VW]) func35
theorem Acy(A7:¬AB t=6)(Aa:Bt (JI v (bM 118) t) (AT t)=0)(Am:¬((Aq t).length:Int)>0):Pu 35 [.agg (GR m v),.agg (AO t)] (rI k):=
 pm A9 [Ay A7,cl (@pwT (m) (v) (bM 118) (t) hE oM),cl (@sb (JI v (bM 118) t) (AT t) (by (apply gE1 <;> first | assumption | omega | decide)) (by (apply kC <;> first | assumption | omega | decide))),B1 Aa,sl (Pr.A0 (Aq t)),Ar Am,cl VW] func35
end
def JN(v:Nv)(name:BA)(t:Tp):Nv:=if (!CY (LA t)||ByteArray.toList name==ByteArray.toList Ai)=true then v else JH v (.mk name (Eo (LA t)))
theorem UA(v:Nv)(name:BA)(t:Tp)(hE:Ba v)(hs:A3 (AO t)<=1000000000):Pu 53 [.agg (BP v),.str name,.agg (AO t)] (.ret (.agg (BP (JN v name t)))):=by
 unfold JN
 by_cases h:(!CY (LA t)||ByteArray.toList name==ByteArray.toList Ai)=true
 ·rw [iP h]; exact Acn v name t hE hs h
 ·rw [iN h]; exact Aco v name t hE hs (Db h)
def UB(t:Tp)(i:Nat):BA:=if (i:Int)<((Ag t).length:Int) then (Ag t).getD i Ai else Ai
theorem Acz(t:Tp)(i:Nat):Pu 54 [.agg (AO t),.int .i64 (i:Int)] (.ret (.str (UB t i))):=by
 unfold UB
 by_cases h:(i:Int)<((Ag t).length:Int)
 ·rw [iP h]; exact Acp t i h
 ·rw [iN h]; exact Acq t i h
theorem Ba.rw'{v:Nv}{name:BA}{t:Tp}{n:Nat}(h:Ba v)(hn:(AX v).length<=n)(hs:n+1<=100000000):Ba (JN v name t)/\(AX (JN v name t)).length<=n+1:=by
 unfold JN
 split
 ·exact ⟨h,by omega⟩
 ·exact h.wi hn hs
theorem Ahc{t:Tp}{v u:Nv}{i:Nat}{name:BA}{w:Tp}(hv:GF v u i)(Fy:(AX v).length<=50000000)(Bk:A3 (AO t)<=10000000)(h:i<(Ab t).length):GF v (JN u name w) (i+1):=hv.1.rw' (n:=(AX v).length+i) hv.2 (by have h1:=BY t; have:=Tp.BS (Ab t); omega)
theorem fZ{v:Nv}{name:BA}{t:Tp}(hE:Ba v)(Fy:(AX v).length<=50000000):Ba (JN v name t):=(hE.rw' (n:=(AX v).length) (Nat.le_refl _) oM).1
abbrev u6(m:Mo)(v:Nv)(t:Tp)(tf:Nv->Tp->Int)(j:Int)(u:Nv)(e:Ext):S:=S.mk [(3,.lp 3 0),(4,.lp 4 0),(5,.lp 5 0),(7,A6 j)] [(3,Dy u),(4,Er m),(5,Cz t)] e
inductive MU where
 | e0 (el:Tp) (u:Nv)
 | e1 (u:Nv)
def Jo(t:Tp)(tf:Nv->Tp->Int):List Tp->Nat->(Nv)->MU
 | [],i,u=>(MU.e1 u)
 | el::r,i,u=>(if tf u el=0 then Jo t tf r (i+1) (JN u (UB t i) el) else (MU.e0 el u))
def g7(m:Mo)(v:Nv)(t:Tp)(tf:Nv->Tp->Int)(e:Ext):MU->A4 × S
 | .e0 el u=>(.ret,S.mk [(3,.lp 3 0),(4,.lp 4 0),(5,.lp 5 0),(6,A6 (tf u el))] [(3,Dy u),(4,Er m),(5,Cz t)] e)
 | .e1 u=>(.exit 0,S.mk [(3,.lp 3 0),(4,.lp 4 0),(5,.lp 5 0)] [(3,Dy u),(4,Er m),(5,Cz t)] e)
theorem g8(m:Mo)(v:Nv)(t:Tp)(tf:Nv->Tp->Int)(BM:∀ (u:Nv) (i:Nat),i<(Ab t).length->GF v u i->Pu 37 [.agg (BP u),.agg (BD m),.agg (AO ((Ab t).getD i default))] (.ret (.int .i64 (tf u ((Ab t).getD i default)))))(Gp:AB t=6)(Fy:(AX v).length<=50000000)(Bk:A3 (AO t)<=10000000)(e:Ext)(hN:(Ab t).length<=1000000000)(u:Nv)(hv:(GF v u 0)):(Ob.loop 117 (Au f37 0) (u6 m v t tf 0 u e) (g7 m v t tf e (Jo t tf ((Ab t)) 0 u)).1 (g7 m v t tf e (Jo t tf ((Ab t)) 0 u)).2).ok prog:=by
 refine CL ((Ab t).length) (fun j u=>u6 m v t tf j u e) (fun i u=>Jo t tf (List.drop i ((Ab t))) i u) (g7 m v t tf e) (fun i u=>(GF v u i)) kR ?_ u (by first | exact hv | omega)
 rintro i u hi hv
 try simp only at hv
 rcases Nat.lt_or_ge i ((Ab t).length) with Ac | Cm
 ·have hd:=At Ac
  by_cases h0:tf u (List.getD (Ab t) i default)=0
  ·exact lS A9 [sl (Tp.A0 (Ab t)),dt ((i:Int)<((Ab t).length:Int)),DH (Ab t) (i:Int),I5 (Ab t) i Ac,cl (@BM (u) (i) Ac hv),B1 h0,cl (@Acz (t) (i)),DH (Ab t) (i:Int),I5 (Ab t) i Ac,cl (@UA (u) (UB t i) (List.getD (Ab t) i default) (by (apply XK <;> first | assumption | omega | decide)) (by (apply tG <;> first | assumption | omega | decide))),wr ((i:Int)+1)] [3,4,5,7,6] [3,4,5] Ac (JN u (UB t i) (List.getD (Ab t) i default)) (S.mk [(3,.lp 3 0),(4,.lp 4 0),(5,.lp 5 0),(7,A6 ((i:Int)+1))] [(3,Dy (JN u (UB t i) (List.getD (Ab t) i default))),(4,Er m),(5,Cz t)] e) ⟨⟨W,W,W,W,B7⟩,⟨⟨Wq,Wq,Wq,B7⟩,Ws,Ws,B7⟩,rfl⟩ (by first | assumption | omega | (apply XK <;> first | assumption | omega | decide) | (apply tG <;> first | assumption | omega | decide) | (apply Ahc <;> first | assumption | omega | decide) | (apply GF.s <;> first | assumption | omega | decide) | (simp only [List.length_append,List.length_cons,List.length_nil] at *; omega) | simp_all) (by rw [hd,Jo,iP h0])
  ·exact lX A9 [sl (Tp.A0 (Ab t)),dt ((i:Int)<((Ab t).length:Int)),DH (Ab t) (i:Int),I5 (Ab t) i Ac,cl (@BM (u) (i) Ac hv),Bi h0] (MU.e0 (List.getD ((Ab t)) i default) u) (by rw [hd,Jo,iN h0])
 ·have he:i=(Ab t).length:=by omega
  exact lX A9 [sl (Tp.A0 (Ab t)),df ((i:Int)<((Ab t).length:Int))] (MU.e1 u) (by rw [he,List.drop_length,Jo])
abbrev u7(m:Mo)(v:Nv)(t:Tp)(j:Int)(e:Ext):S:=S.mk [(3,.lp 3 0),(4,.lp 4 0),(5,.lp 5 0),(10,.lp 10 0),(12,A6 j)] [(3,Dy v),(4,Er m),(5,Cz t),(10,pS (AQ Bc (An t) (AL m)))] e
inductive Ln where
 | e0 (el:Pr) (i:Nat)
 | e1
def HX(m:Mo)(v:Nv)(t:Tp):List Pr->Nat->Ln
 | [],i=>(Ln.e1)
 | el::r,i=>(if Bt (JH v (Vr.mk (bM 118) (CD (List.getD (F6 (AQ Bc (An t) (AL m))) i default)))) el=0 then HX m v t r (i+1)  else (Ln.e0 el i))
def g9(m:Mo)(v:Nv)(t:Tp)(e:Ext):Ln->A4 × S
 | .e0 el i=>(.ret,S.mk [(3,.lp 3 0),(4,.lp 4 0),(5,.lp 5 0),(10,.lp 10 0),(6,A6 (Bt (JH v (Vr.mk (bM 118) (CD (List.getD (F6 (AQ Bc (An t) (AL m))) i default)))) el))] [(3,Dy v),(4,Er m),(5,Cz t),(10,pS (AQ Bc (An t) (AL m)))] e)
 | .e1=>(.exit 2,S.mk [(3,.lp 3 0),(4,.lp 4 0),(5,.lp 5 0),(10,.lp 10 0)] [(3,Dy v),(4,Er m),(5,Cz t),(10,pS (AQ Bc (An t) (AL m)))] e)
theorem UC(m:Mo)(v:Nv)(t:Tp)(hlen:(Aq t).length<=(F6 (AQ Bc (An t) (AL m))).length)(Gp:¬AB t=6)(hE:Ba v)(Fy:(AX v).length<=50000000)(Bk:A3 (AO t)<=10000000)(BC:(AL m).length<=1048576)(XF:Bt (JN v (bM 118) t) (AT t)=0)(e:Ext)(hN:(Aq t).length<=1000000000):(Ob.loop 117 (Au f37 1) (u7 m v t 0  e) (g9 m v t e (HX m v t ((Aq t)) 0)).1 (g9 m v t e (HX m v t ((Aq t)) 0)).2).ok prog:=by
 refine CL ((Aq t).length) (fun j _=>u7 m v t j  e) (fun i _=>HX m v t (List.drop i ((Aq t))) i) (g9 m v t e) (fun i _=>True) kR ?_ () trivial
 rintro i u hi -
 rcases Nat.lt_or_ge i ((Aq t).length) with Ac | Cm
 ·have hd:=At Ac
  by_cases h0:Bt (JH v (Vr.mk (bM 118) (CD (List.getD (F6 (AQ Bc (An t) (AL m))) i default)))) (List.getD (Aq t) i default)=0
  ·exact lN A9 [sl (Pr.A0 (Aq t)),dt ((i:Int)<((Aq t).length:Int)),D2 (F6 (AQ Bc (An t) (AL m))) (i:Int),Gn (F6 (AQ Bc (An t) (AL m))) i,cl (@A4e (v) (bM 118) (CD (List.getD (F6 (AQ Bc (An t) (AL m))) i default)) hE),FG (Aq t) (i:Int),My (Aq t) i Ac,cl (@Tf (JH v (Vr.mk (bM 118) (CD (List.getD (F6 (AQ Bc (An t) (AL m))) i default)))) (List.getD (Aq t) i default) (by (apply gE2 <;> first | assumption | omega | decide)) (by (apply gB2 <;> first | assumption | omega | decide))),B1 h0,wr ((i:Int)+1)] Ac () trivial (by rw [hd,HX,iP h0])
  ·exact lX A9 [sl (Pr.A0 (Aq t)),dt ((i:Int)<((Aq t).length:Int)),D2 (F6 (AQ Bc (An t) (AL m))) (i:Int),Gn (F6 (AQ Bc (An t) (AL m))) i,cl (@A4e (v) (bM 118) (CD (List.getD (F6 (AQ Bc (An t) (AL m))) i default)) hE),FG (Aq t) (i:Int),My (Aq t) i Ac,cl (@Tf (JH v (Vr.mk (bM 118) (CD (List.getD (F6 (AQ Bc (An t) (AL m))) i default)))) (List.getD (Aq t) i default) (by (apply gE2 <;> first | assumption | omega | decide)) (by (apply gB2 <;> first | assumption | omega | decide))),Bi h0] (Ln.e0 (List.getD ((Aq t)) i default) i) (by rw [hd,HX,iN h0])
 ·have he:i=(Aq t).length:=by omega
  exact lX A9 [sl (Pr.A0 (Aq t)),df ((i:Int)<((Aq t).length:Int))] (Ln.e1) (by rw [he,List.drop_length,HX])
abbrev u9(m:Mo)(v:Nv)(t:Tp)(tf:Nv->Tp->Int)(j:Int)(e:Ext):S:=S.mk [(3,.lp 3 0),(4,.lp 4 0),(5,.lp 5 0),(13,A6 j)] [(3,Dy v),(4,Er m),(5,Cz t)] e
inductive MV where
 | e0 (el:Tp)
 | e1
def HY(v:Nv)(tf:Nv->Tp->Int):List Tp->MV
 | []=>(MV.e1)
 | el::r=>(if tf v el=0 then HY v tf r  else (MV.e0 el))
def gA(m:Mo)(v:Nv)(t:Tp)(tf:Nv->Tp->Int)(e:Ext):MV->A4 × S
 | .e0 el=>(.ret,S.mk [(3,.lp 3 0),(4,.lp 4 0),(5,.lp 5 0),(6,A6 (tf v el))] [(3,Dy v),(4,Er m),(5,Cz t)] e)
 | .e1=>(.exit 4,S.mk [(3,.lp 3 0),(4,.lp 4 0),(5,.lp 5 0)] [(3,Dy v),(4,Er m),(5,Cz t)] e)
theorem gB(m:Mo)(v:Nv)(t:Tp)(hlen:(Aq t).length<=(F6 (AQ Bc (An t) (AL m))).length)(tf:Nv->Tp->Int)(BM:∀w:Tp,w∈Ab t->Pu 37 [.agg (BP v),.agg (BD m),.agg (AO w)] (.ret (.int .i64 (tf v w))))(Gp:¬AB t=6)(hE:Ba v)(Fy:(AX v).length<=50000000)(Bk:A3 (AO t)<=10000000)(BC:(AL m).length<=1048576)(XF:Bt (JN v (bM 118) t) (AT t)=0)(e:Ext)(hN:(Ab t).length<=1000000000):(Ob.loop 117 (Au f37 2) (u9 m v t tf 0  e) (gA m v t tf e (HY v tf ((Ab t)))).1 (gA m v t tf e (HY v tf ((Ab t)))).2).ok prog:=by
 refine CL ((Ab t).length) (fun j _=>u9 m v t tf j  e) (fun i _=>HY v tf (List.drop i ((Ab t)))) (gA m v t tf e) (fun i _=>True) kR ?_ () trivial
 rintro i u hi -
 rcases Nat.lt_or_ge i ((Ab t).length) with Ac | Cm
 ·have hd:=At Ac
  by_cases h0:tf v (List.getD (Ab t) i default)=0
  ·exact lN A9 [sl (Tp.A0 (Ab t)),dt ((i:Int)<((Ab t).length:Int)),DH (Ab t) (i:Int),I5 (Ab t) i Ac,cl (@BM (List.getD (Ab t) i default) (by simp_all)),B1 h0,wr ((i:Int)+1)] Ac () trivial (by rw [hd,HY,iP h0])
  ·exact lX A9 [sl (Tp.A0 (Ab t)),dt ((i:Int)<((Ab t).length:Int)),DH (Ab t) (i:Int),I5 (Ab t) i Ac,cl (@BM (List.getD (Ab t) i default) (by simp_all)),Bi h0] (MV.e0 (List.getD ((Ab t)) i default)) (by rw [hd,HY,iN h0])
 ·have he:i=(Ab t).length:=by omega
  exact lX A9 [sl (Tp.A0 (Ab t)),df ((i:Int)<((Ab t).length:Int))] (MV.e1) (by rw [he,List.drop_length,HY])
theorem gLe{a b:Nat}(h:(decide ((a:Int)>0) && !((b:Int)==(a:Int)))=false):a<=b:=by
 by_cases h0:(a:Int)>0
 ·rw [decide_eq_true h0,Bool.true_and,Bool.not_eq_false'] at h
  have:=beq_iff_eq.1 h; omega
 ·omega
section
variable (m:Mo) (v:Nv) (t:Tp) (tf:Nv->Tp->Int) (BM:∀ (u:Nv) (i:Nat),i<(Ab t).length->GF v u i->Pu 37 [.agg (BP u),.agg (BD m),.agg (AO ((Ab t).getD i default))] (.ret (.int .i64 (tf u ((Ab t).getD i default))))) (hwl:∀w:Tp,w∈Ab t->Pu 37 [.agg (BP v),.agg (BD m),.agg (AO w)] (.ret (.int .i64 (tf v w)))) (hE:Ba v) (Fy:(AX v).length<=50000000) (Bk:A3 (AO t)<=10000000) (BC:(AL m).length<=1048576) (Xf:(Ab t).length<=1000000000) (Uw:(Aq t).length<=1000000000)
include m v t tf BM hwl hE Fy Bk BC Xf Uw
theorem A4f(A7:AB t=6)(I6:Tp)(Iu:Nv)(Az:Jo t tf (Ab t) 0 v=MU.e0 I6 Iu):Pu 37 [.agg (BP v),.agg (BD m),.agg (AO t)] (rI (tf Iu I6)):=
 pu A9 (fun e=>[Bb A7,lq (rz (g8 (m) (v) (t) (tf) BM A7 Fy Bk (e) Xf (v) (by (apply VY <;> first | assumption | omega | decide))) Az)]) func37
theorem A4g(A7:AB t=6)(I6:Nv)(Am:Jo t tf (Ab t) 0 v=MU.e1 I6):Pu 37 [.agg (BP v),.agg (BD m),.agg (AO t)] (rI 0):=
 pu A9 (fun e=>[Bb A7,lq (rz (g8 (m) (v) (t) (tf) BM A7 Fy Bk (e) Xf (v) (by (apply VY <;> first | assumption | omega | decide))) Am)]) func37
theorem A4h(A7:¬AB t=6)(Aa:¬Bt (JN v (bM 118) t) (AT t)=0):Pu 37 [.agg (BP v),.agg (BD m),.agg (AO t)] (rI (Bt (JN v (bM 118) t) (AT t))):=
 pm A9 [Ay A7,cl (@UA (v) (bM 118) (t) hE oM),cl (@Tf (JN v (bM 118) t) (AT t) (by (apply fZ <;> first | assumption | omega | decide)) (by (apply kC <;> first | assumption | omega | decide))),Bi Aa] func37
theorem A4i(A7:¬AB t=6)(Aa:Bt (JN v (bM 118) t) (AT t)=0)(Am:(decide (((Aq t).length:Int)>0)&&((F6 (AQ Bc (An t) (AL m))).length:Int) != ((Aq t).length:Int))=true):Pu 37 [.agg (BP v),.agg (BD m),.agg (AO t)] (rI 13):=
 pm A9 [Ay A7,cl (@UA (v) (bM 118) (t) hE oM),cl (@Tf (JN v (bM 118) t) (AT t) (by (apply fZ <;> first | assumption | omega | decide)) (by (apply kC <;> first | assumption | omega | decide))),B1 Aa,cl (@tM (m) (An t) BC),sl (Pr.A0 (Aq t)),mg,av (.v (.bool (bif decide (((Aq t).length:Int)>0) then (↑((fun x=>List.length (Prod.snd x)) (2,Vr.cs (F6 (AQ Bc (An t) (AL m))))):Int) != (↑((fun x=>List.length (Prod.snd x)) (4,Pr.cs (Aq t))):Int) else false))) (.v (.bool (decide (((Aq t).length:Int)>0)&&((F6 (AQ Bc (An t) (AL m))).length:Int) != ((Aq t).length:Int)))) (by (simp only [Pr.A0,Vr.A0,Bool.cond_false_right]; done)),AV Am] func37
theorem A4j(A7:¬AB t=6)(Aa:Bt (JN v (bM 118) t) (AT t)=0)(Am:(decide (((Aq t).length:Int)>0)&&((F6 (AQ Bc (An t) (AL m))).length:Int) != ((Aq t).length:Int))=false)(dR:Pr)(Xi:Nat)(Bu:HX m v t (Aq t) 0=Ln.e0 dR Xi):Pu 37 [.agg (BP v),.agg (BD m),.agg (AO t)] (rI (Bt (JH v (Vr.mk (bM 118) (CD (List.getD (F6 (AQ Bc (An t) (AL m))) Xi default)))) dR)):=
 pu A9 (fun e=>[Ay A7,cl (@UA (v) (bM 118) (t) hE oM),cl (@Tf (JN v (bM 118) t) (AT t) (by (apply fZ <;> first | assumption | omega | decide)) (by (apply kC <;> first | assumption | omega | decide))),B1 Aa,cl (@tM (m) (An t) BC),sl (Pr.A0 (Aq t)),mg,av (.v (.bool (bif decide (((Aq t).length:Int)>0) then (↑((fun x=>List.length (Prod.snd x)) (2,Vr.cs (F6 (AQ Bc (An t) (AL m))))):Int) != (↑((fun x=>List.length (Prod.snd x)) (4,Pr.cs (Aq t))):Int) else false))) (.v (.bool (decide (((Aq t).length:Int)>0)&&((F6 (AQ Bc (An t) (AL m))).length:Int) != ((Aq t).length:Int)))) (by (simp only [Pr.A0,Vr.A0,Bool.cond_false_right]; done)),AM Am,lq (rz (UC (m) (v) (t) (by (apply gLe <;> first | assumption | omega | decide)) A7 hE Fy Bk BC Aa (e) Uw) Bu)]) func37
theorem A4k(A7:¬AB t=6)(Aa:Bt (JN v (bM 118) t) (AT t)=0)(Am:(decide (((Aq t).length:Int)>0)&&((F6 (AQ Bc (An t) (AL m))).length:Int) != ((Aq t).length:Int))=false)(Az:HX m v t (Aq t) 0=Ln.e1)(Xi:Tp)(Bu:HY v tf (Ab t)=MV.e0 Xi):Pu 37 [.agg (BP v),.agg (BD m),.agg (AO t)] (rI (tf v Xi)):=
 pu A9 (fun e=>[Ay A7,cl (@UA (v) (bM 118) (t) hE oM),cl (@Tf (JN v (bM 118) t) (AT t) (by (apply fZ <;> first | assumption | omega | decide)) (by (apply kC <;> first | assumption | omega | decide))),B1 Aa,cl (@tM (m) (An t) BC),sl (Pr.A0 (Aq t)),mg,av (.v (.bool (bif decide (((Aq t).length:Int)>0) then (↑((fun x=>List.length (Prod.snd x)) (2,Vr.cs (F6 (AQ Bc (An t) (AL m))))):Int) != (↑((fun x=>List.length (Prod.snd x)) (4,Pr.cs (Aq t))):Int) else false))) (.v (.bool (decide (((Aq t).length:Int)>0)&&((F6 (AQ Bc (An t) (AL m))).length:Int) != ((Aq t).length:Int)))) (by (simp only [Pr.A0,Vr.A0,Bool.cond_false_right]; done)),AM Am,lq (rz (UC (m) (v) (t) (by (apply gLe <;> first | assumption | omega | decide)) A7 hE Fy Bk BC Aa (e) Uw) Az),lq (rz (gB (m) (v) (t) (by (apply gLe <;> first | assumption | omega | decide)) (tf) hwl A7 hE Fy Bk BC Aa (e) Xf) Bu)]) func37
theorem A4l(A7:¬AB t=6)(Aa:Bt (JN v (bM 118) t) (AT t)=0)(Am:(decide (((Aq t).length:Int)>0)&&((F6 (AQ Bc (An t) (AL m))).length:Int) != ((Aq t).length:Int))=false)(Az:HX m v t (Aq t) 0=Ln.e1)(AP:HY v tf (Ab t)=MV.e1):Pu 37 [.agg (BP v),.agg (BD m),.agg (AO t)] (rI 0):=
 pu A9 (fun e=>[Ay A7,cl (@UA (v) (bM 118) (t) hE oM),cl (@Tf (JN v (bM 118) t) (AT t) (by (apply fZ <;> first | assumption | omega | decide)) (by (apply kC <;> first | assumption | omega | decide))),B1 Aa,cl (@tM (m) (An t) BC),sl (Pr.A0 (Aq t)),mg,av (.v (.bool (bif decide (((Aq t).length:Int)>0) then (↑((fun x=>List.length (Prod.snd x)) (2,Vr.cs (F6 (AQ Bc (An t) (AL m))))):Int) != (↑((fun x=>List.length (Prod.snd x)) (4,Pr.cs (Aq t))):Int) else false))) (.v (.bool (decide (((Aq t).length:Int)>0)&&((F6 (AQ Bc (An t) (AL m))).length:Int) != ((Aq t).length:Int)))) (by (simp only [Pr.A0,Vr.A0,Bool.cond_false_right]; done)),AM Am,lq (rz (UC (m) (v) (t) (by (apply gLe <;> first | assumption | omega | decide)) A7 hE Fy Bk BC Aa (e) Uw) Az),lq (rz (gB (m) (v) (t) (by (apply gLe <;> first | assumption | omega | decide)) (tf) hwl A7 hE Fy Bk BC Aa (e) Xf) AP)]) func37
end
theorem OU:∀ {l:List Tp} {i:Nat},i<l.length->i+A3 (AO (l.getD i default))<=Ah (Tp.cs l)
 | [],i,h=>by simp at h
 | c::r,0,_=>by
  have e:Tp.cs (c::r)=AO c::Tp.cs r:=by simp [Tp.AD]
  rw [e]; simp only [Ah,List.getD_cons_zero]; omega
 | c::r,i+1,h=>by
  have e:Tp.cs (c::r)=AO c::Tp.cs r:=by simp [Tp.AD]
  have ih:=OU (l:=r) (i:=i) (by simpa using h)
  have hc:1<=A3 (AO c):=CM _ _
  rw [e]; simp only [Ah,List.getD_cons_succ]; omega
def tyS(m:Mo)(tf:Nv->Tp->Int)(v:Nv)(t:Tp)(k:Int):Int:=
 if AB t=6 then (match G5 t tf (Ab t) 0 v with
  | .e0 el u=>tf u el
  | .e1 _=>0)
 else if Bt (JI v vSS t) (AT t)=0 then
  (if ((Aq t).length:Int)>0 then (if ((Aq t).length:Int)=((F6 (AQ Bc (An t) (AL m))).length:Int) then (match GS m v t (Aq t) 0 with
   | .e0 el i=>Bt (JH v (.mk vSS (CD ((F6 (AQ Bc (An t) (AL m))).getD i default)))) el
   | .e1=>k) else 13) else k)
 else Bt (JI v vSS t) (AT t)
def Tg(m:Mo):Nat->Nv->Tp->Int
 | 0,_,_=>0
 | d+1,v,t=>tyS m (Tg m d) v t (Bg (Tg m d v) (Ab t))
theorem gC(m:Mo)(BC:(AL m).length<=1048576):∀ (d:Nat) (t:Tp) (v:Nv),A3 (AO t)<d->d<=10000001->Ba v->(AX v).length+A3 (AO t)<=50000000->Pu 35 [.agg (GR m v),.agg (AO t)] (.ret (.int .i64 (Tg m d v t)))
 | 0,_,_,h,_,_,_=>by omega
 | d+1,t,v,h,hd,hE,Fy=>by
  have h1:=BY t
  have h2:=Pr.BS (Aq t)
  have h3:=Tp.BS (Ab t)
  have hk:∀ (u:Nv) (i:Nat),i<(Ab t).length->GF v u i->Pu 35 [.agg (GR m u),.agg (AO ((Ab t).getD i default))] (.ret (.int .i64 (Tg m d u ((Ab t).getD i default)))):=fun u i hi hu=>gC m BC d _ u (by have:=Tp.mem (Bm hi); omega) oM hu.1 (by have:=hu.2; have:=OU hi; omega)
  have VW:=etT (Ab t) m v (Tg m d v) (fun w hw=>gC m BC d w v (by have:=Tp.mem hw; omega) oM hE (by have:=Tp.mem hw; omega)) oM
  have Aa:(AX v).length<=50000000:=by omega
  have Am:A3 (AO t)<=10000000:=by omega
  have Az:(Ab t).length<=1000000000:=by omega
  have AP:(Aq t).length<=1000000000:=by omega
  rw [Tg]
  unfold tyS
  by_cases h6:AB t=6
  ·rw [iP h6]
   cases hr:G5 t (Tg m d) (Ab t) 0 v with
   | e0 el u=>exact Acr m v t _ hk hE Aa Am BC _ VW Az AP h6 el u hr
   | e1 u=>exact Acs m v t _ hk hE Aa Am BC _ VW Az AP h6 u hr
  ·rw [iN h6]
   by_cases hs:Bt (JI v vSS t) (AT t)=0
   ·rw [iP hs]
    by_cases hp:((Aq t).length:Int)>0
    ·rw [iP hp]
     by_cases hl:((Aq t).length:Int)=((F6 (AQ Bc (An t) (AL m))).length:Int)
     ·rw [iP hl]
      cases hr:GS m v t (Aq t) 0 with
      | e0 el i=>exact Acw m v t _ hk hE Aa Am BC _ VW Az AP h6 hs hp hl el i hr
      | e1=>exact Acx m v t _ hk hE Aa Am BC _ VW Az AP h6 hs hp hl hr
     ·rw [iN hl]; exact Acv m v t _ hk hE Aa Am BC _ VW Az AP h6 hs hp hl
    ·rw [iN hp]; exact Acy m v t _ hk hE Aa Am BC _ VW Az AP h6 hs hp
   ·rw [iN hs]; exact Acu m v t _ hk hE Aa Am BC _ VW Az AP h6 hs
def tyF(m:Mo)(v:Nv)(t:Tp):Int:=Tg m (A3 (AO t)+1) v t
theorem tyT(m:Mo)(v:Nv)(t:Tp)(BC:(AL m).length<=1048576)(hE:Ba v)(hs:A3 (AO t)<=10000000)(Fy:(AX v).length<=10000000):Pu 35 [.agg (GR m v),.agg (AO t)] (.ret (.int .i64 (tyF m v t))):=gC m BC _ t v oM oM hE oM
theorem A4m(t:Tp)(hs:A3 (AO t)<=10000000):Pu 33 [.agg (AO t)] (.ret (.int .i64 (DE t))):=rcS t oM
theorem Ad0(m:Mo)(v:Nv)(t:Tp)(BC:(AL m).length<=1048576)(hs:A3 (AO t)<=10000000):Pu 34 [.agg (GR m v),.agg (AO t)] (.ret (.int .i64 (knF m t))):=knT m v t BC oM
def Cp(m:Mo)(v:Nv)(t:Tp):Int:=(if DE t=0 then (if knF m t=0 then (tyF m v t) else (knF m t)) else (DE t))
theorem wt(m:Mo)(v:Nv)(t:Tp)(BC:(AL m).length<=1048576)(hE:Ba v)(hs:A3 (AO t)<=10000000)(Fy:(AX v).length<=10000000):Pu 14 [.agg (BP v),.agg (BD m),.agg (AO t)] (rI (Cp m v t)):=by
 by_cases h0:DE t=0
 ·by_cases h1:knF m t=0
  ·simp only [Cp,iP h0,iP h1]; exact pm A9 [cl (@A4m (t) hs),B1 h0,cl (@Ad0 (m) (v) (t) BC hs),B1 h1,cl (@tyT (m) (v) (t) BC hE hs Fy)] func14
  ·simp only [Cp,iP h0,iN h1]; exact pm A9 [cl (@A4m (t) hs),B1 h0,cl (@Ad0 (m) (v) (t) BC hs),Bi h1] func14
 ·simp only [Cp,iN h0]; exact pm A9 [cl (@A4m (t) hs),Bi h0] func14
inductive Xj:Tp->Prop
 | mk (t:Tp) (h:∀s∈Ag t,¬s=Ai) (hk:∀w∈Ab t,Xj w):Xj t
theorem nJ{s:BA}(h:CJ (Bz s)=0):¬s=Ai:=by
 intro e
 subst e
 revert h
 decide
theorem VZ:∀ (d:Nat) (t:Tp),A3 (AO t)<d->XH d t=0->Xj t
 | 0,_,h,_=>by omega
 | d+1,t,h,he=>by
  rw [XH] at he
  by_cases hp:Rx t=0
  ·rw [iP hp] at he
   refine .mk t ?_ fun w hw=>VZ d w (by have:=Tp.mem hw; have:=BY t; omega) (Lj he w hw)
   unfold Rx at hp
   split at hp
   ·cases hp
   ·split at hp
    ·rename_i hz
     exact fun s hs=>nJ (Lj hz s hs)
    ·cases hp
  ·rw [iN hp] at he
   exact absurd he hp
theorem W5{t:Tp}(h:DE t=0):Xj t:=by
 unfold DE at h
 split at h
 ·exact VZ _ t (Nat.lt_succ_self _) h
 ·rename_i hn; exact absurd h hn
theorem RD{v:Nv}{name:BA}{t:Tp}(h:¬name=Ai):JN v name t=JI v name t:=by
 unfold JN JI
 rw [Bp h,Bool.or_false]
 cases CY (LA t) <;> rfl
theorem W6{v:Nv}{t:Tp}:JN v Ai t=v:=by
 unfold JN
 rw [BI rfl,Bool.or_true,iP rfl]
theorem uA{t:Tp}{tf:Nv->Tp->Int}(hn:∀s∈Ag t,¬s=Ai):∀ (l:List Tp) (i:Nat) (u:Nv),Jo t tf l i u=match G5 t tf l i u with
  | .e0 el u' => .e0 el u'
  | .e1 u' => .e1 u'
 | [],i,u=>rfl
 | c::r,i,u=>by
  have ih:=fun i u=>uA (t:=t) (tf:=tf) hn r i u
  rw [Jo,G5]
  by_cases h0:tf u c=0
  ·rw [iP h0,iP h0]
   by_cases h1:(i:Int)<((Ag t).length:Int)
   ·have hm:(Ag t).getD i Ai∈Ag t:=by
     have:i<(Ag t).length:=by omega
     rw [show (Ag t).getD i Ai=(Ag t)[i] by simp [List.getD,List.getElem?_eq_getElem this]]; exact List.getElem_mem _
    rw [iP h1,UB,iP h1,RD (hn _ hm)]; exact ih _ _
   ·rw [iN h1,UB,iN h1,W6]; exact ih _ _
  ·rw [iN h0,iN h0]
theorem uB{m:Mo}{v:Nv}{t:Tp}:∀ (l:List Pr) (i:Nat),HX m v t l i=match GS m v t l i with
  | .e0 el j => .e0 el j
  | .e1 => .e1
 | [],i=>rfl
 | c::r,i=>by
  rw [HX,GS]
  split
  ·exact uB r _
  ·rfl
theorem gD{v:Nv}(tf:Nv->Tp->Int):∀l:List Tp,(Bg (tf v) l=0->HY v tf l = .e1)/\(¬Bg (tf v) l=0->∃w,HY v tf l = .e0 w/\tf v w=Bg (tf v) l)
 | []=>⟨fun _=>rfl,fun h=>absurd rfl h⟩
 | c::r=>by
  have ih:=gD (v:=v) tf r
  by_cases hp:tf v c=0
  ·simp only [Bg,HY,hp,if_true]; exact ih
  ·simp only [Bg,HY,hp,if_false]
   exact ⟨fun h=>h.elim,fun _=>⟨c,rfl,rfl⟩⟩
theorem gE(m:Mo)(BC:(AL m).length<=1048576):∀ (d:Nat) (t:Tp) (v:Nv),A3 (AO t)<d->d<=10000001->Ba v->(AX v).length+A3 (AO t)<=50000000->Xj t->Pu 37 [.agg (BP v),.agg (BD m),.agg (AO t)] (.ret (.int .i64 (Tg m d v t)))
 | 0,_,_,h,_,_,_,_=>by omega
 | d+1,t,v,h,hd,hE,Fy,Xt=>by
  have h1:=BY t
  have h2:=Pr.BS (Aq t)
  have h3:=Tp.BS (Ab t)
  have hn:∀s∈Ag t,¬s=Ai:=by cases Xt with | mk _ hn _=>exact hn
  have hkn:∀w∈Ab t,Xj w:=by cases Xt with | mk _ _ hk=>exact hk
  have hk:∀ (u:Nv) (i:Nat),i<(Ab t).length->GF v u i->Pu 37 [.agg (BP u),.agg (BD m),.agg (AO ((Ab t).getD i default))] (.ret (.int .i64 (Tg m d u ((Ab t).getD i default)))):=fun u i hi hu=>gE m BC d _ u (by have:=Tp.mem (Bm hi); omega) oM hu.1 (by have:=hu.2; have:=OU hi; omega) (hkn _ (Bm hi))
  have hl:∀w:Tp,w∈Ab t->Pu 37 [.agg (BP v),.agg (BD m),.agg (AO w)] (.ret (.int .i64 (Tg m d v w))):=fun w hw=>gE m BC d w v (by have:=Tp.mem hw; omega) oM hE (by have:=Tp.mem hw; omega) (hkn w hw)
  have Aa:(AX v).length<=50000000:=by omega
  have Am:A3 (AO t)<=10000000:=by omega
  have Az:(Ab t).length<=1000000000:=by omega
  have AP:(Aq t).length<=1000000000:=by omega
  have hv:JN v (bM 118) t=JI v vSS t:=RD dD
  rw [Tg]
  unfold tyS
  by_cases h6:AB t=6
  ·rw [iP h6]
   have he:=uA (t:=t) (tf:=Tg m d) hn (Ab t) 0 v
   cases hr:G5 t (Tg m d) (Ab t) 0 v with
   | e0 el u=>rw [hr] at he; exact A4f m v t _ hk hl hE Aa Am BC Az AP h6 el u he
   | e1 u=>rw [hr] at he; exact A4g m v t _ hk hl hE Aa Am BC Az AP h6 u he
  ·rw [iN h6]
   by_cases hs:Bt (JI v vSS t) (AT t)=0
   ·rw [iP hs]
    have Tr:Bt (JN v (bM 118) t) (AT t)=0:=by rw [hv]; exact hs
    have hz:(decide (((Aq t).length:Int)>0)&&((F6 (AQ Bc (An t) (AL m))).length:Int) != ((Aq t).length:Int))=false->HX m v t (Aq t) 0 = .e1->Pu 37 [.agg (BP v),.agg (BD m),.agg (AO t)] (.ret (.int .i64 (Bg (Tg m d v) (Ab t)))):=fun hb hy=>by
     by_cases hf:Bg (Tg m d v) (Ab t)=0
     ·rw [hf]; exact A4l m v t _ hk hl hE Aa Am BC Az AP h6 Tr hb hy ((gD _ _).1 hf)
     ·obtain ⟨w,e1,e2⟩:=(gD (v:=v) (Tg m d) _).2 hf
      rw [<-e2]; exact A4k m v t _ hk hl hE Aa Am BC Az AP h6 Tr hb hy w e1
    have he:=uB (m:=m) (v:=v) (t:=t) (Aq t) 0
    by_cases hp:((Aq t).length:Int)>0
    ·rw [iP hp]
     by_cases PF:((Aq t).length:Int)=((F6 (AQ Bc (An t) (AL m))).length:Int)
     ·rw [iP PF]
      have hb:(decide (((Aq t).length:Int)>0)&&((F6 (AQ Bc (An t) (AL m))).length:Int) != ((Aq t).length:Int))=false:=by rw [<-PF]; simp
      cases hr:GS m v t (Aq t) 0 with
      | e0 el i=>rw [hr] at he; exact A4j m v t _ hk hl hE Aa Am BC Az AP h6 Tr hb el i he
      | e1=>rw [hr] at he; exact hz hb he
     ·rw [iN PF]
      exact A4i m v t _ hk hl hE Aa Am BC Az AP h6 Tr (by rw [decide_eq_true hp,Bool.true_and]; exact bne_iff_ne.2 (fun e=>PF e.symm))
    ·rw [iN hp]
     have TV:Aq t=[]:=List.eq_nil_of_length_eq_zero oM
     exact hz (by rw [decide_eq_false hp,Bool.false_and]) (by rw [TV]; rfl)
   ·rw [iN hs]
    have:=A4h m v t _ hk hl hE Aa Am BC Az AP h6 (by rw [hv]; exact hs)
    rw [hv] at this
    exact this
theorem Ahd(m:Mo)(v:Nv)(t:Tp)(BC:(AL m).length<=1048576)(hE:Ba v)(hs:A3 (AO t)<=10000000)(Fy:(AX v).length<=10000000)(YQ:DE t=0):Pu 37 [.agg (BP v),.agg (BD m),.agg (AO t)] (.ret (.int .i64 (tyF m v t))):=gE m BC _ t v oM oM hE oM (W5 YQ)
def Mc(m:Mo)(v:Nv)(t:Tp):Int:=(if DE t=0 then (if Kx m t=0 then (tyF m v t) else (Kx m t)) else (DE t))
theorem rtq(m:Mo)(v:Nv)(t:Tp)(BC:(AL m).length<=1048576)(hE:Ba v)(hs:A3 (AO t)<=10000000)(Fy:(AX v).length<=10000000):Pu 15 [.agg (BP v),.agg (BD m),.agg (AO t)] (rI (Mc m v t)):=by
 by_cases h0:DE t=0
 ·by_cases h1:Kx m t=0
  ·simp only [Mc,iP h0,iP h1]; exact pm A9 [cl (@A3b (t) hs),Bb h0,cl (@r3t (m) (t) BC hs),B1 h1,cl (@Ahd (m) (v) (t) BC hE hs Fy h0)] func15
  ·simp only [Mc,iP h0,iN h1]; exact pm A9 [cl (@A3b (t) hs),Bb h0,cl (@r3t (m) (t) BC hs),Bi h1] func15
 ·simp only [Mc,iN h0]; exact pm A9 [cl (@A3b (t) hs),Ay h0,Bi h0] func15
theorem Ad1(m:Mo)(v:Nv)(t:Tp):Mc m v t=Cp m v t:=by
 unfold Mc Cp
 by_cases h:DE t=0
 ·have hc:E5 t=0:=by
   unfold DE at h
   split at h
   ·assumption
   ·exact h
  rw [iP h,iP h,Kx,iP hc]
 ·rw [iN h,iN h]
theorem Ahe(m:Mo)(v:Nv)(t:Tp)(BC:(AL m).length<=1048576)(hE:Ba v)(hs:A3 (AO t)<=10000000)(Fy:(AX v).length<=10000000):Pu 15 [.agg (BP v),.agg (BD m),.agg (AO t)] (.ret (.int .i64 (Cp m v t))):=by
 rw [<-Ad1]; exact rtq m v t BC hE hs Fy
def Xk(x:Ms):Sy := .mk (El x) [Zw x] (Zx x)
theorem CN(l:List Sy)(a b c:BA):Sy.cs (l++[.mk a [b] c])=Sy.cs l++[[.str a,.sl 1 [[.str b]],.str c]]:=Sy.A1 l (.mk a [b] c)
abbrev uC(m:Mo)(j:Int)(out:List Sy)(e:Ext):S:=S.mk [(2,.v .A2),(3,.uniq 77 3 (Sy.cs out)),(7,vL 8 (Ms.cs (B3 m))),(8,A6 ((B3 m).length:Int)),(9,A6 j)] [] e
def K3  : List Ms->(List Sy)->(List Sy)
 | [],out=>(out)
 | el::r,out=>K3  r (out++[Sy.mk (El el) [Zw el] (Zx el)])
def gF(m:Mo)(e:Ext)(p:(List Sy)):A4 × S:=(.exit 0,S.mk [(2,.v .A2),(3,.uniq 77 3 (Sy.cs p)),(7,vL 8 (Ms.cs (B3 m))),(8,A6 ((B3 m).length:Int))] [] e)
theorem me0(m:Mo)(out:List Sy)(e:Ext)(hN:(B3 m).length<=1000000000)(hv:List.length out<=0):(Ob.loop 26 (Au f28 0) (uC m 0 out e) (gF m e (K3  ((B3 m))  out)).1 (gF m e (K3  ((B3 m))  out)).2).ok prog:=by
 refine CL ((B3 m).length) (fun j out=>uC m j out e) (fun i out=>K3  (List.drop i ((B3 m)))  out) (gF m e) (fun i out=>(out.length<=i)) kR ?_ out (by first | exact hv | omega)
 rintro i out hi hv
 try simp only at hv
 rcases Nat.lt_or_ge i ((B3 m).length) with Ac | Cm
 ·have hd:=At Ac
  exact lS A9 [dt ((i:Int)<((B3 m).length:Int)),Ng (B3 m) (i:Int),XD (B3 m) i Ac,am (List.length (Sy.cs out++(fun x=>Prod.snd x) (2+1,[AA (AA (AA [.str Ai,.A2,.str Ai] (Field.offset (Field.mk "Name" 9 0 false "" "" 0)) [.str (El (List.getD (B3 m) i default))]) (Field.offset (Field.mk "Args" 75 1 false "" "" 16)) [.sl (0+1) [[.str (Zw (List.getD (B3 m) i default))]]]) (Field.offset (Field.mk "Result" 74 2 false "" "" 40)) [.str (Zx (List.getD (B3 m) i default))]])) * (55+1)<=140737488355328) (by (simp only [List.length_append,List.length_cons,List.length_nil,Sy.A0]; omega)),wr ((i:Int)+1)] [2,3,7,8,9] [] Ac (out++[Sy.mk (El (List.getD (B3 m) i default)) [Zw (List.getD (B3 m) i default)] (Zx (List.getD (B3 m) i default))]) (S.mk [(2,.v .A2),(3,.uniq 77 3 (Sy.cs out++[AA (AA (AA [.str Ai,.A2,.str Ai] (Field.offset (Field.mk "Name" 9 0 false "" "" 0)) [.str (El (List.getD (B3 m) i default))]) (Field.offset (Field.mk "Args" 75 1 false "" "" 16)) [.sl (0+1) [[.str (Zw (List.getD (B3 m) i default))]]]) (Field.offset (Field.mk "Result" 74 2 false "" "" 40)) [.str (Zx (List.getD (B3 m) i default))]])),(7,vL 8 (Ms.cs (B3 m))),(8,A6 ((B3 m).length:Int)),(9,A6 ((i:Int)+1))] [] e) ⟨⟨W,(.inl (by first | (simp only [List.nil_append,AK,AF,Pr.A1,Tp.A1,Ex.A1,Vr.A1,Df.A1,Sy.A1,Ho.A1,CN]; done) | (simp only [List.nil_append,AK,AF,Pr.A1,Tp.A1,Ex.A1,Vr.A1,Df.A1,Sy.A1,Ho.A1,CN]; rfl))),W,W,W,B7⟩,trivial,rfl⟩ (by first | assumption | omega | (simp only [List.length_append,List.length_cons,List.length_nil] at *; omega) | simp_all) (by rw [hd,K3])
 ·have he:i=(B3 m).length:=by omega
  exact lX A9 [df ((i:Int)<((B3 m).length:Int))] (out) (by rw [he,List.drop_length,K3])
theorem meL(m:Mo)(hN:(B3 m).length<=1000000000):Pu 28 [.agg (BD m)] (.own 77 3 (Sy.cs (K3 (B3 m) []))):=
 pu A9 (fun e=>[sl (Ms.A0 (B3 m)),lp (S.mk [(2,.v .A2),(3,.v .A2),(7,vL 8 (Ms.cs (B3 m))),(8,A6 ((B3 m).length:Int)),(9,A6 0)] [] e) (@me0 (m) ([]) (e) hN (by (simp only [List.length_nil]; omega))) ⟨⟨W,Wq,W,W,W,B7⟩,trivial,rfl⟩]) func28
abbrev uD(m:Mo)(j:Int)(out:List Sy)(e:Ext):S:=S.mk [(1,.lp 1 0),(2,.v .A2),(3,.uniq 77 3 (Sy.cs out)),(4,A6 j)] [(1,Er m)] e
def K4  : List Ms->(List Sy)->(List Sy)
 | [],out=>(out)
 | el::r,out=>K4  r (out++[Sy.mk (El el) [Zw el] (Zx el)])
def gG(m:Mo)(e:Ext)(p:(List Sy)):A4 × S:=(.exit 0,S.mk [(1,.lp 1 0),(2,.v .A2),(3,.uniq 77 3 (Sy.cs p))] [(1,Er m)] e)
theorem rme(m:Mo)(out:List Sy)(e:Ext)(hN:(B3 m).length<=1000000000)(hv:List.length out<=0):(Ob.loop 30 (Au f31 0) (uD m 0 out e) (gG m e (K4  ((B3 m))  out)).1 (gG m e (K4  ((B3 m))  out)).2).ok prog:=by
 refine CL ((B3 m).length) (fun j out=>uD m j out e) (fun i out=>K4  (List.drop i ((B3 m)))  out) (gG m e) (fun i out=>(out.length<=i)) kR ?_ out (by first | exact hv | omega)
 rintro i out hi hv
 try simp only at hv
 rcases Nat.lt_or_ge i ((B3 m).length) with Ac | Cm
 ·have hd:=At Ac
  exact lS A9 [sl (Ms.A0 (B3 m)),dt ((i:Int)<((B3 m).length:Int)),Ng (B3 m) (i:Int),XD (B3 m) i Ac,am (List.length (Sy.cs out++(fun x=>Prod.snd x) (2+1,[AA (AA (AA [.str Ai,.A2,.str Ai] (Field.offset (Field.mk "Name" 9 0 false "" "" 0)) [.str (El (List.getD (B3 m) i default))]) (Field.offset (Field.mk "Args" 75 1 false "" "" 16)) [.sl (0+1) [[.str (Zw (List.getD (B3 m) i default))]]]) (Field.offset (Field.mk "Result" 74 2 false "" "" 40)) [.str (Zx (List.getD (B3 m) i default))]])) * (55+1)<=140737488355328) (by (simp only [List.length_append,List.length_cons,List.length_nil,Sy.A0]; omega)),wr ((i:Int)+1)] [1,2,3,4] [1] Ac (out++[Sy.mk (El (List.getD (B3 m) i default)) [Zw (List.getD (B3 m) i default)] (Zx (List.getD (B3 m) i default))]) (S.mk [(1,.lp 1 0),(2,.v .A2),(3,.uniq 77 3 (Sy.cs out++[AA (AA (AA [.str Ai,.A2,.str Ai] (Field.offset (Field.mk "Name" 9 0 false "" "" 0)) [.str (El (List.getD (B3 m) i default))]) (Field.offset (Field.mk "Args" 75 1 false "" "" 16)) [.sl (0+1) [[.str (Zw (List.getD (B3 m) i default))]]]) (Field.offset (Field.mk "Result" 74 2 false "" "" 40)) [.str (Zx (List.getD (B3 m) i default))]])),(4,A6 ((i:Int)+1))] [(1,Er m)] e) ⟨⟨W,W,(.inl (by first | (simp only [List.nil_append,AK,AF,Pr.A1,Tp.A1,Ex.A1,Vr.A1,Df.A1,Sy.A1,Ho.A1,CN]; done) | (simp only [List.nil_append,AK,AF,Pr.A1,Tp.A1,Ex.A1,Vr.A1,Df.A1,Sy.A1,Ho.A1,CN]; rfl))),W,B7⟩,⟨Ws,B7⟩,rfl⟩ (by first | assumption | omega | (simp only [List.length_append,List.length_cons,List.length_nil] at *; omega) | simp_all) (by rw [hd,K4])
 ·have he:i=(B3 m).length:=by omega
  exact lX A9 [sl (Ms.A0 (B3 m)),df ((i:Int)<((B3 m).length:Int))] (out) (by rw [he,List.drop_length,K4])
theorem Ahf(m:Mo)(hN:(B3 m).length<=1000000000):Pu 31 [.agg (BD m)] (.own 77 3 (Sy.cs (K4 (B3 m) []))):=
 pu A9 (fun e=>[lp (S.mk [(1,.lp 1 0),(2,.v .A2),(3,.v .A2),(4,A6 0)] [(1,Er m)] e) (@rme (m) ([]) (e) hN (by (simp only [List.length_nil]; omega))) ⟨⟨W,W,Wq,W,B7⟩,⟨⟨W,W,W,W,W,W,B7⟩,B7⟩,rfl⟩]) func31
def OV(t:Tp):BA:=(if (AB t != 1&&AB t != 2)=true then Ai else (Eo (LA t)))
def OW(t:Tp):Bool:=(if (AB t != 1&&AB t != 2)=true then false else (CY (LA t)))
theorem bas(t:Tp)(hs:A3 (AO t)<=1000000000):Pu 29 [.agg (AO t)] (.ret (.Bf [.str (OV t),.bool (OW t)])):=by
 by_cases h0:(AB t != 1&&AB t != 2)=true
 ·simp only [OV,OW,iP h0]; exact pm A9 [mg,av (.v (.bool (bif AB t != 1 then AB t != 2 else false))) (.v (.bool (AB t != 1&&AB t != 2))) (by (simp only [Bool.cond_false_right]; done)),AV h0] func29
 ·simp only [OV,OW,iN h0]; exact pm A9 [mg,av (.v (.bool (bif AB t != 1 then AB t != 2 else false))) (.v (.bool (AB t != 1&&AB t != 2))) (by (simp only [Bool.cond_false_right]; done)),AM (Db h0),cl (@plT (t) hs),cl (@sOf (LA t))] func29
theorem uE:∀ (l:List Ms) (out:List Sy),K3 l out=out++l.map Xk
 | [],out=>by simp [K3]
 | x::r,out=>by rw [K3,uE r,List.map_cons,List.append_assoc]; rfl
theorem uF:∀ (l:List Ms) (out:List Sy),K4 l out=out++l.map Xk
 | [],out=>by simp [K4]
 | x::r,out=>by rw [K4,uF r,List.map_cons,List.append_assoc]; rfl
theorem meT(m:Mo)(hN:(B3 m).length<=1000000000):Pu 28 [.agg (BD m)] (.own 77 3 (Sy.cs ((B3 m).map Xk))):=by
 have:=meL m hN
 rw [uE,List.nil_append] at this
 exact this
theorem Ahg(m:Mo)(hN:(B3 m).length<=1000000000):Pu 31 [.agg (BD m)] (.own 77 3 (Sy.cs ((B3 m).map Xk))):=by
 have:=Ahf m hN
 rw [uF,List.nil_append] at this
 exact this
def baS(t:Tp):BA:=if AB t=1 then Gg else DP
def KB(t:Tp):Bool:=decide (AB t=1)||decide (AB t=2)
def Qt(t:Tp):BA:=if KB t=true then baS t else Ai
theorem plO(t:Tp):AB (LA t)=AB t:=rfl
theorem Ad2(t:Tp)(hs:A3 (AO t)<=1000000000):Pu 29 [.agg (AO t)] (.ret (.Bf [.str (Qt t),.bool (KB t)])):=by
 have h:=bas t hs
 have e0:OV t=Qt t:=by
  unfold OV Qt KB baS
  by_cases h1:AB t=1
  ·simp [h1,Eo,plO,Gg]
  ·by_cases h2:AB t=2
   ·simp [h2,Eo,plO,DP]
   ·simp [h1,h2]
 have e1:OW t=KB t:=by
  unfold OW KB
  by_cases h1:AB t=1
  ·simp [h1,CY,plO]
  ·by_cases h2:AB t=2
   ·simp [h2,CY,plO]
   ·simp [h1,h2]
 rw [e0,e1] at h
 exact h
theorem gTk{t:Tp}{i:Nat}(Bk:A3 (AO t)<=10000000)(h:i<(Ab t).length):A3 (AO ((Ab t).getD i default))<=1000000000:=tG Bk h
abbrev uG(m:Mo)(out:List Sy)(d:Df)(o:Int)(xe:Ext)(j:Int)(acc:List BA)  : S:=S.mk [(2,.v .A2),(3,.uniq 77 3 (Sy.cs out)),(16,vL 25 (Df.cs (AW m))),(17,A6 ((AW m).length:Int)),(18,A6 o),(6,.lp 6 0),(7,.lp 7 0),(49,vL 9 (Tp.cs (Ab (Ad d)))),(50,A6 ((Ab (Ad d)).length:Int)),(51,A6 j)] [(6,Cz (Ad d)),(7,[vS (D4 d),.uniq 74 1 (Ae acc),vS Ai])] xe
def D8  : List Tp->(List BA)->(List BA)
 | [],acc=>(acc)
 | el::r,acc=>(if KB el=true then D8  r (acc++[Qt el]) else D8  r (acc))
def gH(m:Mo)(out:List Sy)(d:Df)(o:Int)(xe:Ext)(p:(List BA)):A4 × S:=(.exit 2,S.mk [(2,.v .A2),(3,.uniq 77 3 (Sy.cs out)),(16,vL 25 (Df.cs (AW m))),(17,A6 ((AW m).length:Int)),(18,A6 o),(6,.lp 6 0),(7,.lp 7 0),(49,vL 9 (Tp.cs (Ab (Ad d)))),(50,A6 ((Ab (Ad d)).length:Int))] [(6,Cz (Ad d)),(7,[vS (D4 d),.uniq 74 1 (Ae p),vS Ai])] xe)
theorem eva(m:Mo)(out:List Sy)(d:Df)(o:Int)(xe:Ext)(Bk:A3 (AO (Ad d))<=10000000)(acc:List BA)(hN:List.length ((Ab (Ad d)))<=1000000000)(hv:List.length acc<=0):(Ob.loop 96 (Au f12 1) (uG m out d o xe 0 acc) (gH m out d o xe  (D8  ((Ab (Ad d)))  acc)).1 (gH m out d o xe  (D8  ((Ab (Ad d)))  acc)).2).ok prog:=by
 refine CL (List.length ((Ab (Ad d)))) (fun j acc=>uG m out d o xe j acc) (fun i acc=>D8  (List.drop i ((Ab (Ad d))))  acc) (gH m out d o xe) (fun i acc=>(acc.length<=i)) kR ?_ acc (by first | exact hv | omega)
 rintro i acc hi hv
 try simp only at hv
 rcases Nat.lt_or_ge i (List.length ((Ab (Ad d)))) with Ac | Cm
 ·have hd:=At Ac
  by_cases h0:KB (List.getD (Ab (Ad d)) i default)=true
  ·exact lS A9 [dt ((i:Int)<((Ab (Ad d)).length:Int)),DH (Ab (Ad d)) (i:Int),I5 (Ab (Ad d)) i Ac,cl (@Ad2 (List.getD (Ab (Ad d)) i default) (by (apply gTk <;> first | assumption | omega | decide))),AV h0,am (List.length (Ae acc++(fun x=>Prod.snd x) (0+1,[[.str (Qt (List.getD (Ab (Ad d)) i default))]])) * (15+1)<=140737488355328) (by (simp only [List.length_append,List.length_cons,List.length_nil,A5]; omega)),wr ((i:Int)+1)] [2,3,16,17,18,6,7,49,50,51] [6,7] Ac (acc++[Qt (List.getD (Ab (Ad d)) i default)]) (S.mk [(2,.v .A2),(3,.uniq 77 3 (Sy.cs out)),(16,vL 25 (Df.cs (AW m))),(17,A6 ((AW m).length:Int)),(18,A6 o),(6,.lp 6 0),(7,.lp 7 0),(49,vL 9 (Tp.cs (Ab (Ad d)))),(50,A6 ((Ab (Ad d)).length:Int)),(51,A6 ((i:Int)+1))] [(6,Cz (Ad d)),(7,[vS (D4 d),.uniq 74 1 (Ae acc++[[PV.str (Qt (List.getD (Ab (Ad d)) i default))]]),vS Ai])] xe) ⟨⟨W,W,W,W,W,W,W,W,W,W,B7⟩,⟨Ws,⟨W,(.inl (by first | (simp only [List.nil_append,AK,AF,Pr.A1,Tp.A1,Ex.A1,Vr.A1,Df.A1,Sy.A1,Ho.A1,CN]; done) | (simp only [List.nil_append,AK,AF,Pr.A1,Tp.A1,Ex.A1,Vr.A1,Df.A1,Sy.A1,Ho.A1,CN]; rfl))),W,B7⟩,B7⟩,rfl⟩ (by first | assumption | omega | (apply gTk <;> first | assumption | omega | decide) | (simp only [List.length_append,List.length_cons,List.length_nil] at *; omega) | simp_all) (by rw [hd,D8,iP h0])
  ·exact lN A9 [dt ((i:Int)<((Ab (Ad d)).length:Int)),DH (Ab (Ad d)) (i:Int),I5 (Ab (Ad d)) i Ac,cl (@Ad2 (List.getD (Ab (Ad d)) i default) (by (apply gTk <;> first | assumption | omega | decide))),AM (Db h0),wr ((i:Int)+1)] Ac (acc) (by first | assumption | omega | (apply gTk <;> first | assumption | omega | decide) | (simp only [List.length_append,List.length_cons,List.length_nil] at *; omega) | simp_all) (by rw [hd,D8,iN h0])
 ·have he:i=List.length ((Ab (Ad d))):=by omega
  exact lX A9 [df ((i:Int)<((Ab (Ad d)).length:Int))] (acc) (by rw [he,List.drop_length,D8])
end Go.Proofs.YthchpmnkecoafaaGreatDoor
