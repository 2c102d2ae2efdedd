/- Values of Go as plain data, an evaluator over them, and what the functions of the program return; part Yd. -/
import Derived.Test.YthchpmnkecoafaaGreatDoorYc
import Derived.Test.YthchpmnkecoafaaGreatDoorYa
set_option linter.unusedSectionVars false
set_option linter.unusedSimpArgs false
set_option linter.unusedVariables false
namespace Go.Proofs.YthchpmnkecoafaaGreatDoor
open Go.Proofs.Tryz
open Go.Pv Go.Proofs.Tryz
set_option maxRecDepth 100000
def CH(s:BA):Bool:=decide (s.size<=120)&&(if B8 s<s.size then (AR (s.extract 0 (B8 s))||AZ (s.extract 0 (B8 s))||decide (s.extract 0 (B8 s)=tV))&&Nl (s.extract (B8 s+1) s.size) else AR s||AZ s)
theorem Pe{x:BA}{b:Bool}(h:Nl x=b):OB (x,true)=b:=by rw [<-h]; unfold OB; rw [iP rfl]
theorem Zl(s:BA):Pu 85 [.str s] (.ret (.int .i64 (Ck (CH s)))):=by
 unfold CH
 by_cases hl:s.size<=120
 ·have OP:(s.size:Int)<=120:=by omega
  rw [decide_eq_true hl,Bool.true_and]
  by_cases hx:B8 s<s.size
  ·rw [iP hx]
   cases h0:AR (s.extract 0 (B8 s)) with
   | true=>
    cases h3:Nl (s.extract (B8 s+1) s.size) with
    | true=>simpa only [Bool.true_or,Bool.false_or,Bool.true_and,Bool.or_true,Bool.false_and,Bool.and_true,Bool.and_false,Bool.or_false,Ck,if_true,Bool.false_eq_true,if_false] using sL s OP hx h0 (Pe h3)
    | false=>simpa only [Bool.true_or,Bool.false_or,Bool.true_and,Bool.or_true,Bool.false_and,Bool.and_true,Bool.and_false,Bool.or_false,Ck,if_true,Bool.false_eq_true,if_false] using sN s OP hx h0 (Pe h3)
   | false=>
    cases h1:AZ (s.extract 0 (B8 s)) with
    | true=>
     cases h3:Nl (s.extract (B8 s+1) s.size) with
     | true=>simpa only [Bool.true_or,Bool.false_or,Bool.true_and,Bool.or_true,Bool.false_and,Bool.and_true,Bool.and_false,Bool.or_false,Ck,if_true,Bool.false_eq_true,if_false] using sJ s OP hx h0 h1 (Pe h3)
     | false=>simpa only [Bool.true_or,Bool.false_or,Bool.true_and,Bool.or_true,Bool.false_and,Bool.and_true,Bool.and_false,Bool.or_false,Ck,if_true,Bool.false_eq_true,if_false] using sK s OP hx h0 h1 (Pe h3)
    | false=>
     by_cases h2:s.extract 0 (B8 s)=tV
     ·rw [decide_eq_true h2]
      cases h3:Nl (s.extract (B8 s+1) s.size) with
      | true=>simpa only [Bool.true_or,Bool.false_or,Bool.true_and,Bool.or_true,Bool.false_and,Bool.and_true,Bool.and_false,Bool.or_false,Ck,if_true,Bool.false_eq_true,if_false] using sH s OP hx h0 h1 h2 (Pe h3)
      | false=>simpa only [Bool.true_or,Bool.false_or,Bool.true_and,Bool.or_true,Bool.false_and,Bool.and_true,Bool.and_false,Bool.or_false,Ck,if_true,Bool.false_eq_true,if_false] using sI s OP hx h0 h1 h2 (Pe h3)
     ·rw [decide_eq_false h2]; simpa only [Bool.true_or,Bool.false_or,Bool.true_and,Bool.or_true,Bool.false_and,Bool.and_true,Bool.and_false,Bool.or_false,Ck,if_true,Bool.false_eq_true,if_false] using sG s OP hx h0 h1 h2
  ·rw [iN hx]
   cases h0:AR s with
   | true=>simpa only [Bool.true_or,Bool.false_or,Bool.true_and,Bool.or_true,Bool.false_and,Bool.and_true,Bool.and_false,Bool.or_false,Ck,if_true,Bool.false_eq_true,if_false] using sR s OP hx h0
   | false=>
    cases h1:AZ s with
    | true=>simpa only [Bool.true_or,Bool.false_or,Bool.true_and,Bool.or_true,Bool.false_and,Bool.and_true,Bool.and_false,Bool.or_false,Ck,if_true,Bool.false_eq_true,if_false] using sQ s OP hx h0 h1
    | false=>
     by_cases h2:s=tV
     ·simpa only [Bool.true_or,Bool.false_or,Bool.true_and,Bool.or_true,Bool.false_and,Bool.and_true,Bool.and_false,Bool.or_false,Ck,if_true,Bool.false_eq_true,if_false] using sP s OP hx h0 h1 h2
     ·simpa only [Bool.true_or,Bool.false_or,Bool.true_and,Bool.or_true,Bool.false_and,Bool.and_true,Bool.and_false,Bool.or_false,Ck,if_true,Bool.false_eq_true,if_false] using sO s OP hx h0 h1 h2
 ·rw [decide_eq_false hl,Bool.false_and]; simpa only [Bool.true_or,Bool.false_or,Bool.true_and,Bool.or_true,Bool.false_and,Bool.and_true,Bool.and_false,Bool.or_false,Ck,if_true,Bool.false_eq_true,if_false] using Aai s oM
theorem HC{s:BA}(h:Ck (CH s)=0):(0:Int)<=0/\(0:Int)<(s.size:Int):=by
 cases hb:CH s with
 | false=>rw [hb] at h; cases h
 | true=>
  by_cases hz:s.size=0
  ·have:s=Ah:=by
    have:s.data = #[]:=Array.eq_empty_of_size_eq_zero hz
    cases s; simp only at this; subst this; rfl
   subst this
   rw [show CH Ah=false by kernel_rfl] at hb
   cases hb
  ·omega
def TO(s:BA)(l:List BA):Int:=if ix id s l<l.length then (ix id s l:Nat) else -1
def BX{α:Type}(f:α->Int):List α->Int
 | []=>0
 | x::r=>if f x=0 then BX f r else f x
abbrev m7(t:Tp)(C7:Tp->Int)(j:Int)(n:Int)(e:Ext):S:=S.mk [(2,A1 0),(3,A1 n),(7,vL 9 (Tp.cs (A8 t))),(8,A1 ((A8 t).length:Int)),(9,A1 j)] [] e
def HD(C7:Tp->Int):List Tp->(Int)->(Int)
 | [],n=>(n)
 | el::r,n=>HD C7 r (VW true n (C7 el))
def Zm(t:Tp)(C7:Tp->Int)(e:Ext)(p:(Int)):A5 × S:=(.exit 0,S.mk [(2,A1 0),(3,A1 p),(7,vL 9 (Tp.cs (A8 t))),(8,A1 ((A8 t).length:Int))] [] e)
theorem tdA(t:Tp)(C7:Tp->Int)(Bg:∀w:Tp,w∈A8 t->Pu 121 [.agg (Ay w)] (.ret (.int .i64 (C7 w))))(n:Int)(e:Ext)(hN:(A8 t).length<=1000000000)  : (Ob.loop 20 (Ai f121 0) (m7 t C7 0 n e) (Zm t C7 e (HD C7 ((A8 t))  n)).1 (Zm t C7 e (HD C7 ((A8 t))  n)).2).ok prog:=by
 refine Ds ((A8 t).length) (fun j n=>m7 t C7 j n e) (fun i n=>HD C7 (List.drop i ((A8 t)))  n) (Zm t C7 e) (fun i n=>True) kR ?_ n trivial
 rintro i n hi -
 rcases Nat.lt_or_ge i ((A8 t).length) with Ag | CO
 ·have hd:=AH Ag
  exact lN Ad [dt ((i:Int)<((A8 t).length:Int)),am ((0:Int)<=(i:Int)/\(i:Int)<((Tp.cs (A8 t)).length:Int)) (by (simp only [Tp.A0]; omega)),ar (List.getD (Tp.cs (A8 t)) (Int.toNat (i:Int)) []) (Ay (List.getD (A8 t) i default)) (by simp only [Int.toNat_natCast,Int.toNat_zero]; rw [@Tp.B5 (A8 t) (i) Ag]; try rfl),cl (@Bg (List.getD (A8 t) i default) (by simp_all [D2])),wr ((i:Int)+1)] Ag (VW true n (C7 (List.getD (A8 t) i default))) trivial (by rw [hd,HD])
 ·have he:i=(A8 t).length:=by omega
  exact lX Ad [df ((i:Int)<((A8 t).length:Int))] (n) (by rw [he,List.drop_length,HD])
abbrev Pf(t:Tp)(xe:Ext)(ff:Tp->Int)(j:Int)   : S:=S.mk [(2,A1 0),(90,vL 9 (Tp.cs (A8 t))),(91,A1 ((A8 t).length:Int)),(92,A1 j)] [] xe
inductive Ig where
 | e0 (el:Tp)
 | e1
def HE(ff:Tp->Int):List Tp->Ig
 | []=>(Ig.e1)
 | el::r=>(if ff el=0 then HE ff r  else (Ig.e0 el))
def Nm(t:Tp)(xe:Ext)(ff:Tp->Int)  : Ig->A5 × S
 | .e0 el=>(.ret,S.mk [(2,A1 (ff el)),(90,vL 9 (Tp.cs (A8 t))),(91,A1 ((A8 t).length:Int))] [] xe)
 | .e1=>(.exit 0,S.mk [(2,A1 0),(90,vL 9 (Tp.cs (A8 t))),(91,A1 ((A8 t).length:Int))] [] xe)
theorem Zn(t:Tp)(xe:Ext)(ff:Tp->Int)(Bg:∀w:Tp,w∈A8 t->Pu 122 [.agg (Ay w)] (.ret (.int .i64 (ff w))))(hN:(A8 t).length<=1000000000):(Ob.loop 102 (Ai f122 0) (Pf t xe ff 0) (Nm t xe ff  (HE ff (List.drop 0 ((A8 t))))).1 (Nm t xe ff  (HE ff (List.drop 0 ((A8 t))))).2).ok prog:=by
 refine Ds ((A8 t).length) (fun j _=>Pf t xe ff j) (fun i _=>HE ff (List.drop i ((A8 t)))) (Nm t xe ff) (fun i _=>True) kR ?_ () trivial
 rintro i u hi -
 rcases Nat.lt_or_ge i ((A8 t).length) with Ag | CO
 ·have hd:=AH Ag
  by_cases h0:ff (List.getD (A8 t) i default)=0
  ·exact lN Ad [dt ((i:Int)<((A8 t).length:Int)),am ((0:Int)<=(i:Int)/\(i:Int)<((Tp.cs (A8 t)).length:Int)) (by (simp only [Tp.A0]; omega)),ar (List.getD (Tp.cs (A8 t)) (Int.toNat (i:Int)) []) (Ay (List.getD (A8 t) i default)) (by simp only [Int.toNat_natCast,Int.toNat_zero]; rw [@Tp.B5 (A8 t) (i) Ag]; try rfl),cl (@Bg (List.getD (A8 t) i default) (by simp_all [D2])),Bi h0,wr ((i:Int)+1)] Ag () trivial (by rw [hd,HE,iP h0])
  ·exact lX Ad [dt ((i:Int)<((A8 t).length:Int)),am ((0:Int)<=(i:Int)/\(i:Int)<((Tp.cs (A8 t)).length:Int)) (by (simp only [Tp.A0]; omega)),ar (List.getD (Tp.cs (A8 t)) (Int.toNat (i:Int)) []) (Ay (List.getD (A8 t) i default)) (by simp only [Int.toNat_natCast,Int.toNat_zero]; rw [@Tp.B5 (A8 t) (i) Ag]; try rfl),cl (@Bg (List.getD (A8 t) i default) (by simp_all [D2])),Bv h0] (Ig.e0 (List.getD ((A8 t)) i default)) (by rw [hd,HE,iN h0])
 ·have he:i=(A8 t).length:=by omega
  exact lX Ad [df ((i:Int)<((A8 t).length:Int))] (Ig.e1) (by rw [he,List.drop_length,HE])
theorem A2n(t:Tp)(xe:Ext)(ff:Tp->Int)(Bg:∀w:Tp,w∈A8 t->Pu 122 [.agg (Ay w)] (.ret (.int .i64 (ff w))))(hN:(A8 t).length<=1000000000)(p0:Tp)(At:(HE ff ((A8 t)))=(Ig.e0 p0)):(Ob.loop 102 (Ai f122 0) (Pf t xe ff 0) (Nm t xe ff  (Ig.e0 p0)).1 (Nm t xe ff  (Ig.e0 p0)).2).ok prog:=
 rz (Zn t xe ff Bg hN) At
theorem A2o(t:Tp)(xe:Ext)(ff:Tp->Int)(Bg:∀w:Tp,w∈A8 t->Pu 122 [.agg (Ay w)] (.ret (.int .i64 (ff w))))(hN:(A8 t).length<=1000000000)(At:(HE ff ((A8 t)))=(Ig.e1)):(Ob.loop 102 (Ai f122 0) (Pf t xe ff 0) (Nm t xe ff  (Ig.e1)).1 (Nm t xe ff  (Ig.e1)).2).ok prog:=
 rz (Zn t xe ff Bg hN) At
def Lo(t:Tp):Int:=if AA t=4 then (if ((A8 t).length:Int)>6 then 13 else 0) else if AA t=6 then (if ((A8 t).length:Int)<2 then 13 else if ((A8 t).length:Int)>7 then 13 else if ((Aj t).length:Int)=0 then 0 else if ((Aj t).length:Int)=((A8 t).length:Int) - 1 then 0 else 13) else 0
theorem sS(t:Tp):Pu 170 [.agg (Ay t)] (.ret (.int .i64 (Lo t))):=by
 unfold Lo
 by_cases h0:AA t=4
 ·rw [iP h0]
  by_cases h1:((A8 t).length:Int)>6
  ·rw [iP h1]; exact pm Ad [Bh h0,sl (Tp.A0 (A8 t)),C6 h1] func170
  ·rw [iN h1]; exact pm Ad [Bh h0,sl (Tp.A0 (A8 t)),Az h1] func170
 ·rw [iN h0]
  by_cases h1:AA t=6
  ·rw [iP h1]
   by_cases h2:((A8 t).length:Int)<2
   ·rw [iP h2]; exact pm Ad [Aw h0,Bh h1,sl (Tp.A0 (A8 t)),rp 5 (C6 h2),rp 8 (bt true)] func170
   ·rw [iN h2]
    by_cases h3:((A8 t).length:Int)>7
    ·rw [iP h3]; exact pm Ad [Aw h0,Bh h1,sl (Tp.A0 (A8 t)),rp 3 (Az h2),sl (Tp.A0 (A8 t)),rp 2 (Az h2),rp 7 (C6 h3),bt true] func170
    ·rw [iN h3]
     by_cases h4:((Aj t).length:Int)=0
     ·rw [iP h4]; exact pm Ad [Aw h0,Bh h1,sl (Tp.A0 (A8 t)),rp 3 (Az h2),sl (Tp.A0 (A8 t)),rp 2 (Az h2),rp 3 (Az h3),sl (A3 (Aj t)),rp 2 (Az h3),rp 8 (Bi h4),Az h3,Bi h4,Az h3,bf false] func170
     ·rw [iN h4]
      by_cases h5:((Aj t).length:Int)=((A8 t).length:Int) - 1
      ·rw [iP h5]; exact pm Ad [Aw h0,Bh h1,sl (Tp.A0 (A8 t)),rp 3 (Az h2),sl (Tp.A0 (A8 t)),rp 2 (Az h2),rp 3 (Az h3),sl (A3 (Aj t)),rp 2 (Az h3),rp 3 (Bv h4),sl (A3 (Aj t)),rp 3 (Bv h4),sl (Tp.A0 (A8 t)),Bv h4,wr (((A8 t).length:Int) - 1),Bv h4,Az h3,Bv h4,Az h3,Bi h5] func170
      ·rw [iN h5]; exact pm Ad [Aw h0,Bh h1,sl (Tp.A0 (A8 t)),rp 3 (Az h2),sl (Tp.A0 (A8 t)),rp 2 (Az h2),rp 3 (Az h3),sl (A3 (Aj t)),rp 2 (Az h3),rp 3 (Bv h4),sl (A3 (Aj t)),rp 3 (Bv h4),sl (Tp.A0 (A8 t)),Bv h4,wr (((A8 t).length:Int) - 1),Bv h4,Az h3,Bv h4,Az h3,Bv h5] func170
  ·rw [iN h1]; exact pm Ad [Aw h0,Aw h1] func170
def UB:Nat->Tp->Int
 | 0,_=>0
 | d+1,t=>HD (UB d) (A8 t) 0+1
theorem UC{f:Tp->Int}{B:Int}:∀ (l:List Tp) (n:Int),0<=n->n<=B->(∀w∈l,0<=f w/\f w<=B)->0<=HD f l n/\HD f l n<=B
 | [],n,h0,h1,_=>⟨h0,h1⟩
 | x::r,n,h0,h1,h=>by
  have hx:=h x sM
  refine UC r _ ?_ ?_ fun w hw=>h w (List.mem_cons_of_mem _ hw)
  ·show 0<=(if f x>n then f x else n); split <;> omega
  ·show (if f x>n then f x else n)<=B; split <;> omega
theorem Zo:∀ (d:Nat) (t:Tp),0<=UB d t/\UB d t<=d
 | 0,_=>⟨Int.le_refl _,Int.le_refl _⟩
 | d+1,t=>by
  have:=UC (f:=UB d) (B:=d) (A8 t) 0 oM oM fun w _=>Zo d w
  simp only [UB]; omega
theorem m8:∀ (d:Nat) (t:Tp),A6 (Ay t)<d->d<=100000001->Pu 121 [.agg (Ay t)] (.ret (.int .i64 (UB d t)))
 | 0,_,h,_=>by omega
 | d+1,t,h,hs=>by
  have hb:=UC (f:=UB d) (B:=d) (A8 t) 0 oM oM fun w _=>Zo d w
  exact pu Ad (fun e=>[sl (Tp.A0 (A8 t)),lp (S.mk [(0,.v (.agg (Ay t))),(1,.lp 1 0),(2,A1 0),(3,A1 0),(6,.lp 1 2),(7,vL 9 (Tp.cs (A8 t))),(8,A1 ((A8 t).length:Int)),(9,A1 0)] [(1,Bj t)] e) (@tdA (t) ((UB d)) (fun w hw=>m8 d w (by have:=EA t; have:=Tp.mem hw; omega) oM) (0) (e) (by have:=EA t; have:=Tp.BT (A8 t); omega)) xr,ai (IntKind.wrap .i64 (HD (UB d) (A8 t) 0+1)) (HD (UB d) (A8 t) 0+1) (wrap64 oM oM)]) func121
def tdF(t:Tp):Int:=UB (A6 (Ay t)+1) t
theorem tdT(t:Tp)(hs:A6 (Ay t)<=100000000):Pu 121 [.agg (Ay t)] (.ret (.int .i64 (tdF t))):=m8 _ t oM oM
theorem Zp(ff:Tp->Int):∀l:List Tp,(BX ff l=0->HE ff l = .e1)/\(¬BX ff l=0->∃w,HE ff l = .e0 w/\ff w=BX ff l)
 | []=>⟨fun _=>rfl,fun h=>absurd rfl h⟩
 | x::r=>by
  have ih:=Zp ff r
  by_cases h:ff x=0
  ·simp only [BX,HE,h,if_true]; exact ih
  ·simp only [BX,HE,h,if_false]; exact ⟨fun h'=>h'.elim,fun _=>⟨x,rfl,rfl⟩⟩
abbrev tfS(t:Tp)(v:Int)(xe:Ext):S:=⟨[(2,.v (.int .i64 v)),(90,.v (.sl 9 (Tp.cs (A8 t)))),(91,.v (.int .i64 (A8 t).length))],[],xe⟩
theorem tfT(t:Tp)(xe:Ext)(ff:Tp->Int)(Bg:∀w:Tp,w∈A8 t->Pu 122 [.agg (Ay w)] (.ret (.int .i64 (ff w))))(hN:(A8 t).length<=1000000000)(hx:BX ff (A8 t)=0):(Ob.loop 102 (Ai f122 0) (Pf t xe ff 0) (.exit 0) (tfS t 0 xe)).ok prog:=
 A2o t xe ff Bg hN ((Zp ff (A8 t)).1 hx)
theorem tfF(t:Tp)(xe:Ext)(ff:Tp->Int)(Bg:∀w:Tp,w∈A8 t->Pu 122 [.agg (Ay w)] (.ret (.int .i64 (ff w))))(hN:(A8 t).length<=1000000000)(hx:¬BX ff (A8 t)=0):(Ob.loop 102 (Ai f122 0) (Pf t xe ff 0) .ret (tfS t (BX ff (A8 t)) xe)).ok prog:=by
 obtain ⟨w,h1,h2⟩:=(Zp ff (A8 t)).2 hx
 have:=A2n t xe ff Bg hN w h1
 rw [<-h2]
 exact this
abbrev UD(l:List BA)(s:BA)(j:Int)(e:Ext):S:=S.mk [(0,vL 1 (A7 l)),(1,vS s),(4,A1 0),(7,A1 (l.length:Int)),(8,A1 j)] [] e
inductive HF where
 | e0 (i:Nat)
 | e1
def Gt(s:BA):List BA->Nat->HF
 | [],i=>(HF.e1)
 | el::r,i=>(if el=s then (HF.e0 i) else Gt s r (i+1))
def Nn(l:List BA)(s:BA)(e:Ext):HF->A5 × S
 | .e0 i=>(.ret,S.mk [(0,vL 1 (A7 l)),(1,vS s),(4,A1 (i:Int)),(7,A1 (l.length:Int))] [] e)
 | .e1=>(.exit 0,S.mk [(0,vL 1 (A7 l)),(1,vS s),(4,A1 0),(7,A1 (l.length:Int))] [] e)
theorem Zq(l:List BA)(s:BA)(e:Ext)(hN:l.length<=1000000000):(Ob.loop 19 (Ai f150 0) (UD l s 0  e) (Nn l s e (Gt s (List.drop 0 (l)) 0)).1 (Nn l s e (Gt s (List.drop 0 (l)) 0)).2).ok prog:=by
 refine Ds l.length (fun j _=>UD l s j  e) (fun i _=>Gt s (List.drop i (l)) i) (Nn l s e) (fun i _=>True) kR ?_ () trivial
 rintro i u hi -
 rcases Nat.lt_or_ge i (l.length) with Ag | CO
 ·have hd:=CL Ag
  by_cases h0:List.getD l i Ah=s
  ·exact lX Ad [dt ((i:Int)<(l.length:Int)),am ((0:Int)<=(i:Int)/\(i:Int)<((A7 l).length:Int)) (by (simp only [A3]; omega)),ar (List.getD (A7 l) (Int.toNat (i:Int)) []) [.str (List.getD l i Ah)] (by simp only [Int.toNat_natCast,Int.toNat_zero]; rw [@Cv (l) (i) Ag]; try rfl),bt (ByteArray.toList (List.getD l i Ah)==ByteArray.toList s) (BL h0)] (HF.e0 i) (by rw [hd,Gt,iP h0])
  ·exact lN Ad [dt ((i:Int)<(l.length:Int)),am ((0:Int)<=(i:Int)/\(i:Int)<((A7 l).length:Int)) (by (simp only [A3]; omega)),ar (List.getD (A7 l) (Int.toNat (i:Int)) []) [.str (List.getD l i Ah)] (by simp only [Int.toNat_natCast,Int.toNat_zero]; rw [@Cv (l) (i) Ag]; try rfl),bf (ByteArray.toList (List.getD l i Ah)==ByteArray.toList s) (BZ h0),wr ((i:Int)+1)] Ag () trivial (by rw [hd,Gt,iN h0])
 ·have he:i=l.length:=by omega
  exact lX Ad [df ((i:Int)<(l.length:Int))] (HF.e1) (by rw [he,List.drop_length,Gt])
theorem A2p(l:List BA)(s:BA)(e:Ext)(hN:l.length<=1000000000)(p0:Nat)(At:(Gt s (l) 0)=(HF.e0 p0)):(Ob.loop 19 (Ai f150 0) (UD l s 0  e) (Nn l s e (HF.e0 p0)).1 (Nn l s e (HF.e0 p0)).2).ok prog:=
 rz (Zq l s e hN) At
theorem A2q(l:List BA)(s:BA)(e:Ext)(hN:l.length<=1000000000)(At:(Gt s (l) 0)=(HF.e1)):(Ob.loop 19 (Ai f150 0) (UD l s 0  e) (Nn l s e (HF.e1)).1 (Nn l s e (HF.e1)).2).ok prog:=
 rz (Zq l s e hN) At
theorem sU(l:List BA)(s:BA)(hN:l.length<=1000000000)(Dc:Nat)(Ae:Gt s l 0=HF.e0 Dc):Pu 150 [.sl 1 (A7 l),.str s] (rI (Dc:Int)):=
 pu Ad (fun e=>[sl (A3 l),lp (S.mk [(0,vL 1 (A7 l)),(1,vS s),(4,A1 0),(6,vL 1 (A7 l)),(7,A1 (l.length:Int)),(8,A1 0)] [] e) (@A2p (l) (s) (e) hN Dc Ae) xr]) func150
theorem Zr(s:BA):∀ (l:List BA) (k:Nat),Gt s l k=if ix id s l<l.length then .e0 (k+ix id s l) else .e1
 | [],k=>by simp [Gt,ix]
 | c::r,k=>by
  by_cases h:c=s
  ·simp [Gt,ix,h]
  ·simp only [Gt,ix,id,h,if_false,Zr s r (k+1),List.length_cons]
   by_cases h2:ix id s r<r.length
   ·rw [iP h2,iP (by simpa using h2)]; congr 1; show k+1+ix id s r=k+(ix id s r+1); omega
   ·rw [iN h2,iN (by simpa using h2)]
theorem sV(l:List BA)(s:BA)(hN:l.length<=1000000000):Pu 150 [.sl 1 (A7 l),.str s] (.ret (.int .i64 (TO s l))):=by
 unfold TO
 by_cases h:ix id s l<l.length
 ·rw [iP h]; exact sU l s hN _ (by rw [Zr,iP h,Nat.zero_add])
 ·rw [iN h]; exact pu Ad (fun e=>[sl (A3 l),lp (S.mk [(0,vL 1 (A7 l)),(1,vS s),(4,A1 0),(6,vL 1 (A7 l)),(7,A1 (l.length:Int)),(8,A1 0)] [] e) (@A2q (l) (s) (e) hN (by rw [Zr,iN h])) xr]) func150
theorem rKy  : Pu 231 [] (.ret (.sl 1 [[.str (ByteArray.mk #[97,110,100])],[.str (ByteArray.mk #[97,115,115,117,109,101])],[.str (ByteArray.mk #[98,111,111,108])],[.str (ByteArray.mk #[98,111,117,110,100])],[.str (ByteArray.mk #[99,97,115,101])],[.str (ByteArray.mk #[99,101,108,108])],[.str (ByteArray.mk #[99,108,97,115,115])],[.str (ByteArray.mk #[100,97,116,97])],[.str (ByteArray.mk #[100,101,102])],[.str (ByteArray.mk #[100,105,118])],[.str (ByteArray.mk #[101,108,115,101])],[.str (ByteArray.mk #[101,110,100])],[.str (ByteArray.mk #[102,97,108,115,101])],[.str (ByteArray.mk #[102,111,114,97,108,108])],[.str (ByteArray.mk #[102,117,110])],[.str (ByteArray.mk #[103,101,116])],[.str (ByteArray.mk #[105,102])],[.str (ByteArray.mk #[105,110])],[.str (ByteArray.mk #[105,110,115,116])],[.str (ByteArray.mk #[105,110,116])],[.str (ByteArray.mk #[105,110,118,97,114,105,97,110,116])],[.str (ByteArray.mk #[108,101,116])],[.str (ByteArray.mk #[109,97,116,99,104])],[.str (ByteArray.mk #[109,101,97,115,117,114,101])],[.str (ByteArray.mk #[109,101,116,114,105,99])],[.str (ByteArray.mk #[109,111,100])],[.str (ByteArray.mk #[109,117])],[.str (ByteArray.mk #[110,101,119])],[.str (ByteArray.mk #[110,111,116])],[.str (ByteArray.mk #[111,102])],[.str (ByteArray.mk #[111,114])],[.str (ByteArray.mk #[113,117,97,108])],[.str (ByteArray.mk #[114,101,102,108,101,99,116])],[.str (ByteArray.mk #[115,101,116])],[.str (ByteArray.mk #[116,104,101,110])],[.str (ByteArray.mk #[116,114,117,101])],[.str (ByteArray.mk #[117,115,101])],[.str (bM 118)],[.str (ByteArray.mk #[118,97,108])],[.str (ByteArray.mk #[116,97,103])],[.str (ByteArray.mk #[119,104,101,114,101])],[.str (ByteArray.mk #[119,105,116,104])]])):=
 pm Ad [] func231
theorem Aak:Pu 231 [] (.ret (.sl 1 (A7 Jm))):=rKy
theorem A2r:Jm.length<=1000000000:=by decide
theorem rKw(s:BA):Pu 184 [.str s] (rB (decide (TO s Jm>=0))):=
 pm Ad [cl Aak,cl (@sV (Jm) (s) (by (apply A2r <;> first | assumption | omega | decide)))] func184
theorem sW(s:BA)(b:Bool)(h:Ln s=b):decide (TO s Jm>=0)=b:=by
 subst h
 unfold TO Ln
 split
 ·rename_i h; rw [decide_eq_true h]; exact decide_eq_true oM
 ·rename_i h; rw [decide_eq_false h]; rfl
theorem sX(s:BA):Pu 184 [.str s] (.ret (.bool (Ln s))):=by rw [<-sW s _ rfl]; exact rKw s
abbrev UE(s:BA)(xe:Ext)(j:Int)   : S:=S.mk [(0,vS s),(2,A1 0),(23,A1 (↑(ByteArray.size s):Int)),(24,A1 j)] [] xe
inductive Gu where
 | e0
 | e1
def Fh  : List UInt8->Gu
 | []=>(Gu.e1)
 | el::r=>(if D1 (↑(UInt8.toNat el):Int)=false then (if IW (↑(UInt8.toNat el):Int)=false then (if (↑(UInt8.toNat el):Int)=95 then Fh  r  else (Gu.e0)) else Fh  r) else Fh  r)
def No(s:BA)(xe:Ext)  : Gu->A5 × S
 | .e0=>(.ret,S.mk [(0,vS s),(2,A1 3),(23,A1 (↑(ByteArray.size s):Int))] [] xe)
 | .e1=>(.exit 0,S.mk [(0,vS s),(2,A1 0),(23,A1 (↑(ByteArray.size s):Int))] [] xe)
theorem Zs(s:BA)(xe:Ext)(hN:List.length ((s.data.toList))<=1000000000):(Ob.loop 46 (Ai f139 0) (UE s xe 0) (No s xe  (Fh  (List.drop 0 ((s.data.toList))))).1 (No s xe  (Fh  (List.drop 0 ((s.data.toList))))).2).ok prog:=by
 refine Ds (List.length ((s.data.toList))) (fun j _=>UE s xe j) (fun i _=>Fh  (List.drop i ((s.data.toList)))) (No s xe) (fun i _=>True) kR ?_ () trivial
 rintro i u hi -
 rcases Nat.lt_or_ge i (List.length ((s.data.toList))) with Ag | CO
 ·have hd:=AH Ag
  by_cases h0:D1 (↑(UInt8.toNat (List.getD (Array.toList (ByteArray.data s)) i default)):Int)=false
  ·by_cases h1:IW (↑(UInt8.toNat (List.getD (Array.toList (ByteArray.data s)) i default)):Int)=false
   ·by_cases h2:(↑(UInt8.toNat (List.getD (Array.toList (ByteArray.data s)) i default)):Int)=95
    ·exact lN Ad [dt ((i:Int)<(↑(ByteArray.size s):Int)) (by (apply KY <;> first | assumption | omega | decide)),am ((0:Int)<=(i:Int)/\(i:Int)<(↑(ByteArray.size s):Int)) (by simp_all [D2]),av (.v (.int .u8 (↑(UInt8.toNat (List.getD (Array.toList (ByteArray.data s)) (Int.toNat (i:Int)) default)):Int))) (.v (.int .u8 (↑(UInt8.toNat (List.getD (Array.toList (ByteArray.data s)) i default)):Int))) rF,cl (@Hy ((↑(UInt8.toNat (List.getD (Array.toList (ByteArray.data s)) i default)):Int))),rp 3 (B2 (B6 h0)),am ((0:Int)<=(i:Int)/\(i:Int)<(↑(ByteArray.size s):Int)) (by simp_all [D2]),av (.v (.int .u8 (↑(UInt8.toNat (List.getD (Array.toList (ByteArray.data s)) (Int.toNat (i:Int)) default)):Int))) (.v (.int .u8 (↑(UInt8.toNat (List.getD (Array.toList (ByteArray.data s)) i default)):Int))) rF,B2 (B6 h0),cl (@RU ((↑(UInt8.toNat (List.getD (Array.toList (ByteArray.data s)) i default)):Int))),rp 2 (B2 (B6 h0)),rp 3 (B2 (B6 h1)),am ((0:Int)<=(i:Int)/\(i:Int)<(↑(ByteArray.size s):Int)) (by simp_all [D2]),av (.v (.int .u8 (↑(UInt8.toNat (List.getD (Array.toList (ByteArray.data s)) (Int.toNat (i:Int)) default)):Int))) (.v (.int .u8 (↑(UInt8.toNat (List.getD (Array.toList (ByteArray.data s)) i default)):Int))) rF,rp 2 (B2 (B6 h1)),Bi h2,wr ((i:Int)+1)] Ag () trivial (by rw [hd,Fh,iP h0,iP h1,iP h2])
    ·exact lX Ad [dt ((i:Int)<(↑(ByteArray.size s):Int)) (by (apply KY <;> first | assumption | omega | decide)),am ((0:Int)<=(i:Int)/\(i:Int)<(↑(ByteArray.size s):Int)) (by simp_all [D2]),av (.v (.int .u8 (↑(UInt8.toNat (List.getD (Array.toList (ByteArray.data s)) (Int.toNat (i:Int)) default)):Int))) (.v (.int .u8 (↑(UInt8.toNat (List.getD (Array.toList (ByteArray.data s)) i default)):Int))) rF,cl (@Hy ((↑(UInt8.toNat (List.getD (Array.toList (ByteArray.data s)) i default)):Int))),rp 3 (B2 (B6 h0)),am ((0:Int)<=(i:Int)/\(i:Int)<(↑(ByteArray.size s):Int)) (by simp_all [D2]),av (.v (.int .u8 (↑(UInt8.toNat (List.getD (Array.toList (ByteArray.data s)) (Int.toNat (i:Int)) default)):Int))) (.v (.int .u8 (↑(UInt8.toNat (List.getD (Array.toList (ByteArray.data s)) i default)):Int))) rF,B2 (B6 h0),cl (@RU ((↑(UInt8.toNat (List.getD (Array.toList (ByteArray.data s)) i default)):Int))),rp 2 (B2 (B6 h0)),rp 3 (B2 (B6 h1)),am ((0:Int)<=(i:Int)/\(i:Int)<(↑(ByteArray.size s):Int)) (by simp_all [D2]),av (.v (.int .u8 (↑(UInt8.toNat (List.getD (Array.toList (ByteArray.data s)) (Int.toNat (i:Int)) default)):Int))) (.v (.int .u8 (↑(UInt8.toNat (List.getD (Array.toList (ByteArray.data s)) i default)):Int))) rF,rp 2 (B2 (B6 h1)),Bv h2] (Gu.e0) (by rw [hd,Fh,iP h0,iP h1,iN h2])
   ·exact lN Ad [dt ((i:Int)<(↑(ByteArray.size s):Int)) (by (apply KY <;> first | assumption | omega | decide)),am ((0:Int)<=(i:Int)/\(i:Int)<(↑(ByteArray.size s):Int)) (by simp_all [D2]),av (.v (.int .u8 (↑(UInt8.toNat (List.getD (Array.toList (ByteArray.data s)) (Int.toNat (i:Int)) default)):Int))) (.v (.int .u8 (↑(UInt8.toNat (List.getD (Array.toList (ByteArray.data s)) i default)):Int))) rF,cl (@Hy ((↑(UInt8.toNat (List.getD (Array.toList (ByteArray.data s)) i default)):Int))),rp 3 (B2 (B6 h0)),am ((0:Int)<=(i:Int)/\(i:Int)<(↑(ByteArray.size s):Int)) (by simp_all [D2]),av (.v (.int .u8 (↑(UInt8.toNat (List.getD (Array.toList (ByteArray.data s)) (Int.toNat (i:Int)) default)):Int))) (.v (.int .u8 (↑(UInt8.toNat (List.getD (Array.toList (ByteArray.data s)) i default)):Int))) rF,B2 (B6 h0),cl (@RU ((↑(UInt8.toNat (List.getD (Array.toList (ByteArray.data s)) i default)):Int))),rp 2 (B2 (B6 h0)),rp 5 (AQ (AJ (Jq h1))),bf false,wr ((i:Int)+1)] Ag () trivial (by rw [hd,Fh,iP h0,iN h1])
  ·exact lN Ad [dt ((i:Int)<(↑(ByteArray.size s):Int)) (by (apply KY <;> first | assumption | omega | decide)),am ((0:Int)<=(i:Int)/\(i:Int)<(↑(ByteArray.size s):Int)) (by simp_all [D2]),av (.v (.int .u8 (↑(UInt8.toNat (List.getD (Array.toList (ByteArray.data s)) (Int.toNat (i:Int)) default)):Int))) (.v (.int .u8 (↑(UInt8.toNat (List.getD (Array.toList (ByteArray.data s)) i default)):Int))) rF,cl (@Hy ((↑(UInt8.toNat (List.getD (Array.toList (ByteArray.data s)) i default)):Int))),rp 6 (AQ (AJ (Jq h0))),rp 6 (bf false),wr ((i:Int)+1)] Ag () trivial (by rw [hd,Fh,iN h0])
 ·have he:i=List.length ((s.data.toList)):=by omega
  exact lX Ad [df ((i:Int)<(↑(ByteArray.size s):Int)) (by (apply fA <;> first | assumption | omega | decide))] (Gu.e1) (by rw [he,List.drop_length,Fh])
theorem A2s(s:BA)(xe:Ext)(hN:List.length ((s.data.toList))<=1000000000)(At:(Fh  ((s.data.toList)))=(Gu.e0)):(Ob.loop 46 (Ai f139 0) (UE s xe 0) (No s xe  (Gu.e0)).1 (No s xe  (Gu.e0)).2).ok prog:=
 rz (Zs s xe hN) At
theorem A2t(s:BA)(xe:Ext)(hN:List.length ((s.data.toList))<=1000000000)(At:(Fh  ((s.data.toList)))=(Gu.e1)):(Ob.loop 46 (Ai f139 0) (UE s xe 0) (No s xe  (Gu.e1)).1 (No s xe  (Gu.e1)).2).ok prog:=
 rz (Zs s xe hN) At
abbrev UF(s:BA)(xe:Ext)(j:Int)   : S:=S.mk [(0,vS s),(2,A1 0),(35,A1 (↑(ByteArray.size s):Int)),(36,A1 j)] [] xe
inductive Gv where
 | e0
 | e1
def Fi  : List UInt8->Gv
 | []=>(Gv.e1)
 | el::r=>(if D1 (↑(UInt8.toNat el):Int)=false then (if Fp (↑(UInt8.toNat el):Int)=false then (if IW (↑(UInt8.toNat el):Int)=false then (Gv.e0) else Fi  r) else Fi  r) else Fi  r)
def Np(s:BA)(xe:Ext)  : Gv->A5 × S
 | .e0=>(.ret,S.mk [(0,vS s),(2,A1 3),(35,A1 (↑(ByteArray.size s):Int))] [] xe)
 | .e1=>(.exit 0,S.mk [(0,vS s),(2,A1 0),(35,A1 (↑(ByteArray.size s):Int))] [] xe)
theorem Zt(s:BA)(xe:Ext)(hN:List.length ((s.data.toList))<=1000000000):(Ob.loop 59 (Ai f140 0) (UF s xe 0) (Np s xe  (Fi  (List.drop 0 ((s.data.toList))))).1 (Np s xe  (Fi  (List.drop 0 ((s.data.toList))))).2).ok prog:=by
 refine Ds (List.length ((s.data.toList))) (fun j _=>UF s xe j) (fun i _=>Fi  (List.drop i ((s.data.toList)))) (Np s xe) (fun i _=>True) kR ?_ () trivial
 rintro i u hi -
 rcases Nat.lt_or_ge i (List.length ((s.data.toList))) with Ag | CO
 ·have hd:=AH Ag
  by_cases h0:D1 (↑(UInt8.toNat (List.getD (Array.toList (ByteArray.data s)) i default)):Int)=false
  ·by_cases h1:Fp (↑(UInt8.toNat (List.getD (Array.toList (ByteArray.data s)) i default)):Int)=false
   ·by_cases h2:IW (↑(UInt8.toNat (List.getD (Array.toList (ByteArray.data s)) i default)):Int)=false
    ·exact lX Ad [dt ((i:Int)<(↑(ByteArray.size s):Int)) (by (apply KY <;> first | assumption | omega | decide)),am ((0:Int)<=(i:Int)/\(i:Int)<(↑(ByteArray.size s):Int)) (by simp_all [D2]),av (.v (.int .u8 (↑(UInt8.toNat (List.getD (Array.toList (ByteArray.data s)) (Int.toNat (i:Int)) default)):Int))) (.v (.int .u8 (↑(UInt8.toNat (List.getD (Array.toList (ByteArray.data s)) i default)):Int))) rF,cl (@Hy ((↑(UInt8.toNat (List.getD (Array.toList (ByteArray.data s)) i default)):Int))),rp 3 (B2 (B6 h0)),am ((0:Int)<=(i:Int)/\(i:Int)<(↑(ByteArray.size s):Int)) (by simp_all [D2]),av (.v (.int .u8 (↑(UInt8.toNat (List.getD (Array.toList (ByteArray.data s)) (Int.toNat (i:Int)) default)):Int))) (.v (.int .u8 (↑(UInt8.toNat (List.getD (Array.toList (ByteArray.data s)) i default)):Int))) rF,B2 (B6 h0),cl (@M1 ((↑(UInt8.toNat (List.getD (Array.toList (ByteArray.data s)) i default)):Int))),rp 2 (B2 (B6 h0)),rp 3 (B2 (B6 h1)),am ((0:Int)<=(i:Int)/\(i:Int)<(↑(ByteArray.size s):Int)) (by simp_all [D2]),av (.v (.int .u8 (↑(UInt8.toNat (List.getD (Array.toList (ByteArray.data s)) (Int.toNat (i:Int)) default)):Int))) (.v (.int .u8 (↑(UInt8.toNat (List.getD (Array.toList (ByteArray.data s)) i default)):Int))) rF,B2 (B6 h1),cl (@RU ((↑(UInt8.toNat (List.getD (Array.toList (ByteArray.data s)) i default)):Int))),rp 2 (B2 (B6 h1)),B2 (B6 h2)] (Gv.e0) (by rw [hd,Fi,iP h0,iP h1,iP h2])
    ·exact lN Ad [dt ((i:Int)<(↑(ByteArray.size s):Int)) (by (apply KY <;> first | assumption | omega | decide)),am ((0:Int)<=(i:Int)/\(i:Int)<(↑(ByteArray.size s):Int)) (by simp_all [D2]),av (.v (.int .u8 (↑(UInt8.toNat (List.getD (Array.toList (ByteArray.data s)) (Int.toNat (i:Int)) default)):Int))) (.v (.int .u8 (↑(UInt8.toNat (List.getD (Array.toList (ByteArray.data s)) i default)):Int))) rF,cl (@Hy ((↑(UInt8.toNat (List.getD (Array.toList (ByteArray.data s)) i default)):Int))),rp 3 (B2 (B6 h0)),am ((0:Int)<=(i:Int)/\(i:Int)<(↑(ByteArray.size s):Int)) (by simp_all [D2]),av (.v (.int .u8 (↑(UInt8.toNat (List.getD (Array.toList (ByteArray.data s)) (Int.toNat (i:Int)) default)):Int))) (.v (.int .u8 (↑(UInt8.toNat (List.getD (Array.toList (ByteArray.data s)) i default)):Int))) rF,B2 (B6 h0),cl (@M1 ((↑(UInt8.toNat (List.getD (Array.toList (ByteArray.data s)) i default)):Int))),rp 2 (B2 (B6 h0)),rp 3 (B2 (B6 h1)),am ((0:Int)<=(i:Int)/\(i:Int)<(↑(ByteArray.size s):Int)) (by simp_all [D2]),av (.v (.int .u8 (↑(UInt8.toNat (List.getD (Array.toList (ByteArray.data s)) (Int.toNat (i:Int)) default)):Int))) (.v (.int .u8 (↑(UInt8.toNat (List.getD (Array.toList (ByteArray.data s)) i default)):Int))) rF,B2 (B6 h1),cl (@RU ((↑(UInt8.toNat (List.getD (Array.toList (ByteArray.data s)) i default)):Int))),rp 2 (B2 (B6 h1)),AQ (AJ (Jq h2)),wr ((i:Int)+1)] Ag () trivial (by rw [hd,Fi,iP h0,iP h1,iN h2])
   ·exact lN Ad [dt ((i:Int)<(↑(ByteArray.size s):Int)) (by (apply KY <;> first | assumption | omega | decide)),am ((0:Int)<=(i:Int)/\(i:Int)<(↑(ByteArray.size s):Int)) (by simp_all [D2]),av (.v (.int .u8 (↑(UInt8.toNat (List.getD (Array.toList (ByteArray.data s)) (Int.toNat (i:Int)) default)):Int))) (.v (.int .u8 (↑(UInt8.toNat (List.getD (Array.toList (ByteArray.data s)) i default)):Int))) rF,cl (@Hy ((↑(UInt8.toNat (List.getD (Array.toList (ByteArray.data s)) i default)):Int))),rp 3 (B2 (B6 h0)),am ((0:Int)<=(i:Int)/\(i:Int)<(↑(ByteArray.size s):Int)) (by simp_all [D2]),av (.v (.int .u8 (↑(UInt8.toNat (List.getD (Array.toList (ByteArray.data s)) (Int.toNat (i:Int)) default)):Int))) (.v (.int .u8 (↑(UInt8.toNat (List.getD (Array.toList (ByteArray.data s)) i default)):Int))) rF,B2 (B6 h0),cl (@M1 ((↑(UInt8.toNat (List.getD (Array.toList (ByteArray.data s)) i default)):Int))),rp 2 (B2 (B6 h0)),rp 6 (AQ (AJ (Jq h1))),bf false,wr ((i:Int)+1)] Ag () trivial (by rw [hd,Fi,iP h0,iN h1])
  ·exact lN Ad [dt ((i:Int)<(↑(ByteArray.size s):Int)) (by (apply KY <;> first | assumption | omega | decide)),am ((0:Int)<=(i:Int)/\(i:Int)<(↑(ByteArray.size s):Int)) (by simp_all [D2]),av (.v (.int .u8 (↑(UInt8.toNat (List.getD (Array.toList (ByteArray.data s)) (Int.toNat (i:Int)) default)):Int))) (.v (.int .u8 (↑(UInt8.toNat (List.getD (Array.toList (ByteArray.data s)) i default)):Int))) rF,cl (@Hy ((↑(UInt8.toNat (List.getD (Array.toList (ByteArray.data s)) i default)):Int))),rp 6 (AQ (AJ (Jq h0))),rp 7 (bf false),wr ((i:Int)+1)] Ag () trivial (by rw [hd,Fi,iN h0])
 ·have he:i=List.length ((s.data.toList)):=by omega
  exact lX Ad [df ((i:Int)<(↑(ByteArray.size s):Int)) (by (apply fA <;> first | assumption | omega | decide))] (Gv.e1) (by rw [he,List.drop_length,Fi])
theorem A2u(s:BA)(xe:Ext)(hN:List.length ((s.data.toList))<=1000000000)(At:(Fi  ((s.data.toList)))=(Gv.e0)):(Ob.loop 59 (Ai f140 0) (UF s xe 0) (Np s xe  (Gv.e0)).1 (Np s xe  (Gv.e0)).2).ok prog:=
 rz (Zt s xe hN) At
theorem A2v(s:BA)(xe:Ext)(hN:List.length ((s.data.toList))<=1000000000)(At:(Fi  ((s.data.toList)))=(Gv.e1)):(Ob.loop 59 (Ai f140 0) (UF s xe 0) (Np s xe  (Gv.e1)).1 (Np s xe  (Gv.e1)).2).ok prog:=
 rz (Zt s xe hN) At
theorem bzA{s:BA}{i:Nat}(hi:i<List.length (s.data.toList)):(0:Int)<=(i:Int)/\(i:Int)<(s.size:Int):=by
 have:=KY hi; omega
abbrev fC(s:BA)(a b:Bool)(i:Nat)(xe:Ext):S:=⟨[(0,.v (.str s)),(2,.v (.bool false)),(3,.v (.bool a)),(4,.v (.bool b)),(18,.v (.int .i64 s.size)),(19,.v (.int .i64 i)),(5,.v (.int .i64 i))],[],xe⟩
section
variable (s:BA) (a b:Bool) (i:Nat) (hi:i<List.length (s.data.toList)) (xe:Ext)
include s a b i hi xe
theorem Aal(Ac:a=true)(Ae:D1 (↑(UInt8.toNat (List.getD (Array.toList (ByteArray.data s)) i default)):Int)=true)(cx:Cx)(Ar:cx.n=65){Q:A5->S->Prop}(hq:Q (.normal) (S.mk [(0,vS s),(2,.v (.bool false)),(3,.v (.bool true)),(4,.v (.bool b)),(18,A1 (↑(ByteArray.size s):Int)),(19,A1 (i:Int)),(5,A1 (i:Int))] [] xe)):PW prog cx (AW f141 8) (fC s a b i xe) Q:=
 pw Ad 65 [rp 3 (B2 Ac),am ((0:Int)<=(i:Int)/\(i:Int)<(↑(ByteArray.size s):Int)) (by simp_all [D2]),av (.v (.int .u8 (↑(UInt8.toNat (List.getD (Array.toList (ByteArray.data s)) (Int.toNat (i:Int)) default)):Int))) (.v (.int .u8 (↑(UInt8.toNat (List.getD (Array.toList (ByteArray.data s)) i default)):Int))) rF,B2 Ac,cl (@Hy ((↑(UInt8.toNat (List.getD (Array.toList (ByteArray.data s)) i default)):Int))),B2 Ac,rp 4 (B2 Ae),B2 Ac,B2 Ae,B2 Ac,rp 4 (bt true),B2 Ac,bt true,B2 Ac] [0,2,3,4,18,19,5] [] Ar hq
theorem Aam(Ac:a=true)(Ae:D1 (↑(UInt8.toNat (List.getD (Array.toList (ByteArray.data s)) i default)):Int)=false)(Ao:Fp (↑(UInt8.toNat (List.getD (Array.toList (ByteArray.data s)) i default)):Int)=true)(cx:Cx)(Ar:cx.n=65){Q:A5->S->Prop}(hq:Q (.normal) (S.mk [(0,vS s),(2,.v (.bool false)),(3,.v (.bool true)),(4,.v (.bool b)),(18,A1 (↑(ByteArray.size s):Int)),(19,A1 (i:Int)),(5,A1 (i:Int))] [] xe)):PW prog cx (AW f141 8) (fC s a b i xe) Q:=
 pw Ad 65 [rp 3 (B2 Ac),am ((0:Int)<=(i:Int)/\(i:Int)<(↑(ByteArray.size s):Int)) (by simp_all [D2]),av (.v (.int .u8 (↑(UInt8.toNat (List.getD (Array.toList (ByteArray.data s)) (Int.toNat (i:Int)) default)):Int))) (.v (.int .u8 (↑(UInt8.toNat (List.getD (Array.toList (ByteArray.data s)) i default)):Int))) rF,B2 Ac,cl (@Hy ((↑(UInt8.toNat (List.getD (Array.toList (ByteArray.data s)) i default)):Int))),B2 Ac,rp 3 (AQ Ae),am ((0:Int)<=(i:Int)/\(i:Int)<(↑(ByteArray.size s):Int)) (by simp_all [D2]),av (.v (.int .u8 (↑(UInt8.toNat (List.getD (Array.toList (ByteArray.data s)) (Int.toNat (i:Int)) default)):Int))) (.v (.int .u8 (↑(UInt8.toNat (List.getD (Array.toList (ByteArray.data s)) i default)):Int))) rF,AQ Ae,cl (@M1 ((↑(UInt8.toNat (List.getD (Array.toList (ByteArray.data s)) i default)):Int))),B2 Ac,AQ Ae,B2 Ac,rp 4 (B2 Ao),B2 Ac,B2 Ao,B2 Ac] [0,2,3,4,18,19,5] [] Ar hq
theorem Aan(Ac:a=true)(Ae:D1 (↑(UInt8.toNat (List.getD (Array.toList (ByteArray.data s)) i default)):Int)=false)(Ao:Fp (↑(UInt8.toNat (List.getD (Array.toList (ByteArray.data s)) i default)):Int)=false)(cx:Cx)(Ar:cx.n=65){Q:A5->S->Prop}(hq:Q (.normal) (S.mk [(0,vS s),(2,.v (.bool false)),(3,.v (.bool (IW (↑(UInt8.toNat (List.getD (Array.toList (ByteArray.data s)) i default)):Int)))),(4,.v (.bool b)),(18,A1 (↑(ByteArray.size s):Int)),(19,A1 (i:Int)),(5,A1 (i:Int))] [] xe)):PW prog cx (AW f141 8) (fC s a b i xe) Q:=
 pw Ad 65 [rp 3 (B2 Ac),am ((0:Int)<=(i:Int)/\(i:Int)<(↑(ByteArray.size s):Int)) (by simp_all [D2]),av (.v (.int .u8 (↑(UInt8.toNat (List.getD (Array.toList (ByteArray.data s)) (Int.toNat (i:Int)) default)):Int))) (.v (.int .u8 (↑(UInt8.toNat (List.getD (Array.toList (ByteArray.data s)) i default)):Int))) rF,B2 Ac,cl (@Hy ((↑(UInt8.toNat (List.getD (Array.toList (ByteArray.data s)) i default)):Int))),B2 Ac,rp 3 (AQ Ae),am ((0:Int)<=(i:Int)/\(i:Int)<(↑(ByteArray.size s):Int)) (by simp_all [D2]),av (.v (.int .u8 (↑(UInt8.toNat (List.getD (Array.toList (ByteArray.data s)) (Int.toNat (i:Int)) default)):Int))) (.v (.int .u8 (↑(UInt8.toNat (List.getD (Array.toList (ByteArray.data s)) i default)):Int))) rF,AQ Ae,cl (@M1 ((↑(UInt8.toNat (List.getD (Array.toList (ByteArray.data s)) i default)):Int))),B2 Ac,AQ Ae,B2 Ac,rp 3 (AQ Ao),am ((0:Int)<=(i:Int)/\(i:Int)<(↑(ByteArray.size s):Int)) (by simp_all [D2]),av (.v (.int .u8 (↑(UInt8.toNat (List.getD (Array.toList (ByteArray.data s)) (Int.toNat (i:Int)) default)):Int))) (.v (.int .u8 (↑(UInt8.toNat (List.getD (Array.toList (ByteArray.data s)) i default)):Int))) rF,AQ Ao,cl (@RU ((↑(UInt8.toNat (List.getD (Array.toList (ByteArray.data s)) i default)):Int))),B2 Ac,AQ Ao,B2 Ac] [0,2,3,4,18,19,5] [] Ar hq
theorem Aao(Ac:a=false)(cx:Cx)(Ar:cx.n=65){Q:A5->S->Prop}(hq:Q (.normal) (S.mk [(0,vS s),(2,.v (.bool false)),(3,.v (.bool false)),(4,.v (.bool b)),(18,A1 (↑(ByteArray.size s):Int)),(19,A1 (i:Int)),(5,A1 (i:Int))] [] xe)):PW prog cx (AW f141 8) (fC s a b i xe) Q:=
 pw Ad 65 [rp 9 (AQ Ac)] [0,2,3,4,18,19,5] [] Ar hq
end
def Fj(s:BA)(a b:Bool)(i:Nat):Bool:=(if a=true then (if D1 (↑(UInt8.toNat (List.getD (Array.toList (ByteArray.data s)) i default)):Int)=true then (true) else (if Fp (↑(UInt8.toNat (List.getD (Array.toList (ByteArray.data s)) i default)):Int)=true then (true) else ((IW (↑(UInt8.toNat (List.getD (Array.toList (ByteArray.data s)) i default)):Int))))) else (false))
theorem p8J(s:BA)(a b:Bool)(i:Nat)(hi:i<List.length (s.data.toList))(xe:Ext):(Ob.Ev 65 (AW f141 8) (fC s a b i xe) (.normal) (S.mk [(0,vS s),(2,.v (.bool false)),(3,.v (.bool (Fj s a b i))),(4,.v (.bool b)),(18,A1 (↑(ByteArray.size s):Int)),(19,A1 (i:Int)),(5,A1 (i:Int))] [] xe)).ok prog:=by
 intro cx Ar
 by_cases g0:a=true
 ·by_cases g1:D1 (↑(UInt8.toNat (List.getD (Array.toList (ByteArray.data s)) i default)):Int)=true
  ·exact Aal s a b i hi xe g0 g1 cx Ar ⟨rfl,by rw [show Fj s a b i=(true) by unfold Fj; rw [iP g0,iP g1]]⟩
  ·by_cases g2:Fp (↑(UInt8.toNat (List.getD (Array.toList (ByteArray.data s)) i default)):Int)=true
   ·exact Aam s a b i hi xe g0 (Bool.eq_false_iff.2 g1) g2 cx Ar ⟨rfl,by rw [show Fj s a b i=(true) by unfold Fj; rw [iP g0,iN g1,iP g2]]⟩
   ·exact Aan s a b i hi xe g0 (Bool.eq_false_iff.2 g1) (Bool.eq_false_iff.2 g2) cx Ar ⟨rfl,by rw [show Fj s a b i=((IW (↑(UInt8.toNat (List.getD (Array.toList (ByteArray.data s)) i default)):Int))) by unfold Fj; rw [iP g0,iN g1,iN g2]]⟩
 ·exact Aao s a b i hi xe (Bool.eq_false_iff.2 g0) cx Ar ⟨rfl,by rw [show Fj s a b i=(false) by unfold Fj; rw [iN g0]]⟩
section
variable (s:BA) (a b:Bool) (i:Nat) (hi:i<List.length (s.data.toList)) (xe:Ext)
include s a b i hi xe
theorem Aap(Ac:b=true)(Ae:D1 (↑(UInt8.toNat (List.getD (Array.toList (ByteArray.data s)) i default)):Int)=true)(cx:Cx)(Ar:cx.n=65){Q:A5->S->Prop}(hq:Q (.normal) (S.mk [(0,vS s),(2,.v (.bool false)),(3,.v (.bool a)),(4,.v (.bool true)),(18,A1 (↑(ByteArray.size s):Int)),(19,A1 (i:Int)),(5,A1 (i:Int))] [] xe)):PW prog cx (AW f141 9) (fC s a b i xe) Q:=
 pw Ad 65 [rp 3 (B2 Ac),am ((0:Int)<=(i:Int)/\(i:Int)<(↑(ByteArray.size s):Int)) (by simp_all [D2]),av (.v (.int .u8 (↑(UInt8.toNat (List.getD (Array.toList (ByteArray.data s)) (Int.toNat (i:Int)) default)):Int))) (.v (.int .u8 (↑(UInt8.toNat (List.getD (Array.toList (ByteArray.data s)) i default)):Int))) rF,B2 Ac,cl (@Hy ((↑(UInt8.toNat (List.getD (Array.toList (ByteArray.data s)) i default)):Int))),B2 Ac,rp 4 (B2 Ae),B2 Ac,B2 Ae,B2 Ac,rp 4 (bt true),B2 Ac,bt true,B2 Ac] [0,2,3,4,18,19,5] [] Ar hq
theorem Aaq(Ac:b=true)(Ae:D1 (↑(UInt8.toNat (List.getD (Array.toList (ByteArray.data s)) i default)):Int)=false)(Ao:IW (↑(UInt8.toNat (List.getD (Array.toList (ByteArray.data s)) i default)):Int)=true)(cx:Cx)(Ar:cx.n=65){Q:A5->S->Prop}(hq:Q (.normal) (S.mk [(0,vS s),(2,.v (.bool false)),(3,.v (.bool a)),(4,.v (.bool true)),(18,A1 (↑(ByteArray.size s):Int)),(19,A1 (i:Int)),(5,A1 (i:Int))] [] xe)):PW prog cx (AW f141 9) (fC s a b i xe) Q:=
 pw Ad 65 [rp 3 (B2 Ac),am ((0:Int)<=(i:Int)/\(i:Int)<(↑(ByteArray.size s):Int)) (by simp_all [D2]),av (.v (.int .u8 (↑(UInt8.toNat (List.getD (Array.toList (ByteArray.data s)) (Int.toNat (i:Int)) default)):Int))) (.v (.int .u8 (↑(UInt8.toNat (List.getD (Array.toList (ByteArray.data s)) i default)):Int))) rF,B2 Ac,cl (@Hy ((↑(UInt8.toNat (List.getD (Array.toList (ByteArray.data s)) i default)):Int))),B2 Ac,rp 3 (AQ Ae),am ((0:Int)<=(i:Int)/\(i:Int)<(↑(ByteArray.size s):Int)) (by simp_all [D2]),av (.v (.int .u8 (↑(UInt8.toNat (List.getD (Array.toList (ByteArray.data s)) (Int.toNat (i:Int)) default)):Int))) (.v (.int .u8 (↑(UInt8.toNat (List.getD (Array.toList (ByteArray.data s)) i default)):Int))) rF,AQ Ae,cl (@RU ((↑(UInt8.toNat (List.getD (Array.toList (ByteArray.data s)) i default)):Int))),B2 Ac,AQ Ae,B2 Ac,rp 4 (B2 Ao),B2 Ac,B2 Ao,B2 Ac] [0,2,3,4,18,19,5] [] Ar hq
theorem Aar(Ac:b=true)(Ae:D1 (↑(UInt8.toNat (List.getD (Array.toList (ByteArray.data s)) i default)):Int)=false)(Ao:IW (↑(UInt8.toNat (List.getD (Array.toList (ByteArray.data s)) i default)):Int)=false)(cx:Cx)(Ar:cx.n=65){Q:A5->S->Prop}(hq:Q (.normal) (S.mk [(0,vS s),(2,.v (.bool false)),(3,.v (.bool a)),(4,.v (.bool ((↑(UInt8.toNat (List.getD (Array.toList (ByteArray.data s)) i default)):Int)==95))),(18,A1 (↑(ByteArray.size s):Int)),(19,A1 (i:Int)),(5,A1 (i:Int))] [] xe)):PW prog cx (AW f141 9) (fC s a b i xe) Q:=
 pw Ad 65 [rp 3 (B2 Ac),am ((0:Int)<=(i:Int)/\(i:Int)<(↑(ByteArray.size s):Int)) (by simp_all [D2]),av (.v (.int .u8 (↑(UInt8.toNat (List.getD (Array.toList (ByteArray.data s)) (Int.toNat (i:Int)) default)):Int))) (.v (.int .u8 (↑(UInt8.toNat (List.getD (Array.toList (ByteArray.data s)) i default)):Int))) rF,B2 Ac,cl (@Hy ((↑(UInt8.toNat (List.getD (Array.toList (ByteArray.data s)) i default)):Int))),B2 Ac,rp 3 (AQ Ae),am ((0:Int)<=(i:Int)/\(i:Int)<(↑(ByteArray.size s):Int)) (by simp_all [D2]),av (.v (.int .u8 (↑(UInt8.toNat (List.getD (Array.toList (ByteArray.data s)) (Int.toNat (i:Int)) default)):Int))) (.v (.int .u8 (↑(UInt8.toNat (List.getD (Array.toList (ByteArray.data s)) i default)):Int))) rF,AQ Ae,cl (@RU ((↑(UInt8.toNat (List.getD (Array.toList (ByteArray.data s)) i default)):Int))),B2 Ac,AQ Ae,B2 Ac,rp 3 (AQ Ao),am ((0:Int)<=(i:Int)/\(i:Int)<(↑(ByteArray.size s):Int)) (by simp_all [D2]),av (.v (.int .u8 (↑(UInt8.toNat (List.getD (Array.toList (ByteArray.data s)) (Int.toNat (i:Int)) default)):Int))) (.v (.int .u8 (↑(UInt8.toNat (List.getD (Array.toList (ByteArray.data s)) i default)):Int))) rF,AQ Ao,B2 Ac,AQ Ao,B2 Ac] [0,2,3,4,18,19,5] [] Ar hq
theorem Aas(Ac:b=false)(cx:Cx)(Ar:cx.n=65){Q:A5->S->Prop}(hq:Q (.normal) (S.mk [(0,vS s),(2,.v (.bool false)),(3,.v (.bool a)),(4,.v (.bool false)),(18,A1 (↑(ByteArray.size s):Int)),(19,A1 (i:Int)),(5,A1 (i:Int))] [] xe)):PW prog cx (AW f141 9) (fC s a b i xe) Q:=
 pw Ad 65 [rp 9 (AQ Ac)] [0,2,3,4,18,19,5] [] Ar hq
end
def HG(s:BA)(a b:Bool)(i:Nat):Bool:=(if b=true then (if D1 (↑(UInt8.toNat (List.getD (Array.toList (ByteArray.data s)) i default)):Int)=true then (true) else (if IW (↑(UInt8.toNat (List.getD (Array.toList (ByteArray.data s)) i default)):Int)=true then (true) else (((↑(UInt8.toNat (List.getD (Array.toList (ByteArray.data s)) i default)):Int)==95)))) else (false))
theorem p9J(s:BA)(a b:Bool)(i:Nat)(hi:i<List.length (s.data.toList))(xe:Ext):(Ob.Ev 65 (AW f141 9) (fC s a b i xe) (.normal) (S.mk [(0,vS s),(2,.v (.bool false)),(3,.v (.bool a)),(4,.v (.bool (HG s a b i))),(18,A1 (↑(ByteArray.size s):Int)),(19,A1 (i:Int)),(5,A1 (i:Int))] [] xe)).ok prog:=by
 intro cx Ar
 by_cases g0:b=true
 ·by_cases g1:D1 (↑(UInt8.toNat (List.getD (Array.toList (ByteArray.data s)) i default)):Int)=true
  ·exact Aap s a b i hi xe g0 g1 cx Ar ⟨rfl,by rw [show HG s a b i=(true) by unfold HG; rw [iP g0,iP g1]]⟩
  ·by_cases g2:IW (↑(UInt8.toNat (List.getD (Array.toList (ByteArray.data s)) i default)):Int)=true
   ·exact Aaq s a b i hi xe g0 (Bool.eq_false_iff.2 g1) g2 cx Ar ⟨rfl,by rw [show HG s a b i=(true) by unfold HG; rw [iP g0,iN g1,iP g2]]⟩
   ·exact Aar s a b i hi xe g0 (Bool.eq_false_iff.2 g1) (Bool.eq_false_iff.2 g2) cx Ar ⟨rfl,by rw [show HG s a b i=(((↑(UInt8.toNat (List.getD (Array.toList (ByteArray.data s)) i default)):Int)==95)) by unfold HG; rw [iP g0,iN g1,iN g2]]⟩
 ·exact Aas s a b i hi xe (Bool.eq_false_iff.2 g0) cx Ar ⟨rfl,by rw [show HG s a b i=(false) by unfold HG; rw [iN g0]]⟩
def A2w:Md:=⟨fun _=>some false,fun t=>t==1000008||t==1000009⟩
abbrev m9(s:BA)(b0:Bool)(xe:Ext)(j:Int)(a b:Bool)  : S:=S.mk [(0,vS s),(2,.v (.bool false)),(3,.v (.bool a)),(4,.v (.bool b)),(18,A1 (↑(ByteArray.size s):Int)),(19,A1 j)] [] xe
def Ih(s:BA):List UInt8->Nat->(Bool)->(Bool)->(Bool) × (Bool)
 | [],i,a,b=>(a,b)
 | el::r,i,a,b=>Ih s r (i+1) (Fj s a b i) (HG s (Fj s a b i) b i)
def Zu(s:BA)(b0:Bool)(xe:Ext)(p:(Bool) × (Bool)):A5 × S:=(.exit 0,S.mk [(0,vS s),(2,.v (.bool false)),(3,.v (.bool (Prod.fst p))),(4,.v (.bool (Prod.snd p))),(18,A1 (↑(ByteArray.size s):Int))] [] xe)
theorem rPa(s:BA)(b0:Bool)(xe:Ext)(a b:Bool)(hN:List.length ((s.data.toList))<=1000000000)  : (Ob.loop 65 (Ai f141 0) (m9 s b0 xe 0 a b) (Zu s b0 xe  (Ih s ((s.data.toList)) 0 a b)).1 (Zu s b0 xe  (Ih s ((s.data.toList)) 0 a b)).2).ok prog:=by
 refine Ds (List.length ((s.data.toList))) (fun j zz=>m9 s b0 xe j zz.1 zz.2) (fun i zz=>Ih s (List.drop i ((s.data.toList))) i zz.1 zz.2) (Zu s b0 xe) (fun i zz=>True) kR ?_ (a,b) trivial
 rintro i ⟨a,b⟩ hi -
 rcases Nat.lt_or_ge i (List.length ((s.data.toList))) with Ag | CO
 ·have hd:=AH Ag
  exact lN A2w [dt ((i:Int)<(↑(ByteArray.size s):Int)) (by (apply KY <;> first | assumption | omega | decide)),lf (S.mk [(0,vS s),(2,.v (.bool false)),(3,.v (.bool a)),(4,.v (.bool b)),(18,A1 (↑(ByteArray.size s):Int)),(19,A1 (i:Int)),(20,.v (.bool (decide ((i:Int)<(↑(ByteArray.size s):Int))))),(21,A1 (i:Int)),(5,A1 (i:Int))] [] xe) (@p8J (s) (a) (b) (i) Ag (xe)) ⟨⟨W,W,W,W,W,W,W,An⟩,trivial,rfl⟩,lf (S.mk [(0,vS s),(2,.v (.bool false)),(3,.v (.bool (Fj s a b i))),(4,.v (.bool b)),(18,A1 (↑(ByteArray.size s):Int)),(19,A1 (i:Int)),(5,A1 (i:Int))] [] xe) (@p9J (s) (Fj s a b i) (b) (i) Ag (xe)) ⟨⟨W,W,W,W,W,W,W,An⟩,trivial,rfl⟩,wr ((i:Int)+1)] Ag ((Fj s a b i),(HG s (Fj s a b i) b i)) trivial (by rw [hd,Ih])
 ·have he:i=List.length ((s.data.toList)):=by omega
  exact lX A2w [df ((i:Int)<(↑(ByteArray.size s):Int)) (by (apply fA <;> first | assumption | omega | decide))] (a,b) (by rw [he,List.drop_length,Ih])
theorem Zv{s:BA}(h:(s.size:Int)<1):DA s=false:=by unfold DA; rw [decide_eq_false oM,Bool.false_and]
theorem Zw{s:BA}(h:(s.size:Int)>24):DA s=false:=by unfold DA; rw [decide_eq_false (by omega:¬s.size<=24),Bool.and_false]
theorem sY{s:BA}(h1:¬(s.size:Int)<1)(h2:¬(s.size:Int)>24):DA s=true:=by unfold DA; rw [decide_eq_true oM,decide_eq_true oM]; rfl
theorem Zx:∀l:List UInt8,Fh l=if l.all QK=true then .e1 else .e0
 | []=>rfl
 | c::r=>by
  by_cases h1:D1 c.toNat=true <;> by_cases h2:IW c.toNat=true <;> by_cases h3:((c.toNat:Nat):Int)=95 <;> simp [Fh,QK,h1,h2,h3,Zx r]
theorem Zy:∀l:List UInt8,Fi l=if l.all Jn=true then .e1 else .e0
 | []=>rfl
 | c::r=>by
  by_cases h1:D1 c.toNat=true <;> by_cases h2:Fp c.toNat=true <;> by_cases h3:IW c.toNat=true <;> simp [Fi,Jn,h1,h2,h3,Zy r]
theorem mA{c:UInt8}(h:D1 c.toNat=true):QK c=true:=by simp [QK,h]
theorem sZ{l:List UInt8}(h:D1 (l.getD 0 default).toNat=true):l.all QK=(l.drop 1).all QK:=by
 cases l with
 | nil=>rfl
 | cons c r=>simp only [List.getD_cons_zero] at h; simp [mA h]
section
variable (s:BA) (Ac:¬(↑(ByteArray.size s):Int)<1) (Ae:¬(↑(ByteArray.size s):Int)>24)
include s Ac Ae
theorem tA(Ao:D1 (↑(UInt8.toNat (List.getD (Array.toList (ByteArray.data s)) 0 default)):Int)=true)(AK:Ln s=false)(B9:Fh (Array.toList (ByteArray.data s))=Gu.e0):Pu 139 [.str s] (rI 3):=
 pu Ad (fun e=>[kp,rp 2 (Az Ac),kp,rp 2 (Az Ac),rp 2 (Az Ae),am ((0:Int)<=0/\0<(↑(ByteArray.size s):Int)),av (.v (.int .u8 (↑(UInt8.toNat (List.getD (Array.toList (ByteArray.data s)) (Int.toNat 0) default)):Int))) (.v (.int .u8 (↑(UInt8.toNat (List.getD (Array.toList (ByteArray.data s)) 0 default)):Int))) rF,Az Ae,cl (@Hy ((↑(UInt8.toNat (List.getD (Array.toList (ByteArray.data s)) 0 default)):Int))),rp 2 (Az Ae),rp 2 (AQ (AJ Ao)),cl (@sX (s)),AQ (AJ Ao),AQ AK,kp,lp (S.mk [(0,vS s),(2,A1 0),(4,vS s),(5,A1 (↑(ByteArray.size s):Int)),(6,.v (.bool (decide ((↑(ByteArray.size s):Int)<1)))),(7,.v (.bool (decide ((↑(ByteArray.size s):Int)<1)))),(8,vS s),(9,A1 (↑(ByteArray.size s):Int)),(10,.v (.bool (decide ((↑(ByteArray.size s):Int)>24)))),(11,.v (.bool (decide ((↑(ByteArray.size s):Int)>24)))),(12,.v (.bool (decide ((↑(ByteArray.size s):Int)>24)))),(13,vS s),(14,.v (.int .u8 (↑(UInt8.toNat (List.getD (Array.toList (ByteArray.data s)) 0 default)):Int))),(15,.v (.bool (D1 (↑(UInt8.toNat (List.getD (Array.toList (ByteArray.data s)) 0 default)):Int)))),(16,.v (.bool !D1 (↑(UInt8.toNat (List.getD (Array.toList (ByteArray.data s)) 0 default)):Int))),(17,.v (.bool !D1 (↑(UInt8.toNat (List.getD (Array.toList (ByteArray.data s)) 0 default)):Int))),(18,.v (.bool !D1 (↑(UInt8.toNat (List.getD (Array.toList (ByteArray.data s)) 0 default)):Int))),(19,vS s),(20,.v (.bool (Ln s))),(21,.v (.bool (Ln s))),(22,vS s),(23,A1 (↑(ByteArray.size s):Int)),(24,A1 0)] [] e) (@A2s (s) (e) (by (apply Hz <;> first | assumption | omega | decide)) B9) xr]) func139
theorem tB(Ao:D1 (↑(UInt8.toNat (List.getD (Array.toList (ByteArray.data s)) 0 default)):Int)=true)(AK:Ln s=false)(B9:Fh (Array.toList (ByteArray.data s))=Gu.e1):Pu 139 [.str s] (rI 0):=
 pu Ad (fun e=>[kp,rp 2 (Az Ac),kp,rp 2 (Az Ac),rp 2 (Az Ae),am ((0:Int)<=0/\0<(↑(ByteArray.size s):Int)),av (.v (.int .u8 (↑(UInt8.toNat (List.getD (Array.toList (ByteArray.data s)) (Int.toNat 0) default)):Int))) (.v (.int .u8 (↑(UInt8.toNat (List.getD (Array.toList (ByteArray.data s)) 0 default)):Int))) rF,Az Ae,cl (@Hy ((↑(UInt8.toNat (List.getD (Array.toList (ByteArray.data s)) 0 default)):Int))),rp 2 (Az Ae),rp 2 (AQ (AJ Ao)),cl (@sX (s)),AQ (AJ Ao),AQ AK,kp,lp (S.mk [(0,vS s),(2,A1 0),(4,vS s),(5,A1 (↑(ByteArray.size s):Int)),(6,.v (.bool (decide ((↑(ByteArray.size s):Int)<1)))),(7,.v (.bool (decide ((↑(ByteArray.size s):Int)<1)))),(8,vS s),(9,A1 (↑(ByteArray.size s):Int)),(10,.v (.bool (decide ((↑(ByteArray.size s):Int)>24)))),(11,.v (.bool (decide ((↑(ByteArray.size s):Int)>24)))),(12,.v (.bool (decide ((↑(ByteArray.size s):Int)>24)))),(13,vS s),(14,.v (.int .u8 (↑(UInt8.toNat (List.getD (Array.toList (ByteArray.data s)) 0 default)):Int))),(15,.v (.bool (D1 (↑(UInt8.toNat (List.getD (Array.toList (ByteArray.data s)) 0 default)):Int)))),(16,.v (.bool !D1 (↑(UInt8.toNat (List.getD (Array.toList (ByteArray.data s)) 0 default)):Int))),(17,.v (.bool !D1 (↑(UInt8.toNat (List.getD (Array.toList (ByteArray.data s)) 0 default)):Int))),(18,.v (.bool !D1 (↑(UInt8.toNat (List.getD (Array.toList (ByteArray.data s)) 0 default)):Int))),(19,vS s),(20,.v (.bool (Ln s))),(21,.v (.bool (Ln s))),(22,vS s),(23,A1 (↑(ByteArray.size s):Int)),(24,A1 0)] [] e) (@A2t (s) (e) (by (apply Hz <;> first | assumption | omega | decide)) B9) xr]) func139
theorem tC(Ao:Fp (↑(UInt8.toNat (List.getD (Array.toList (ByteArray.data s)) 0 default)):Int)=true)(AK:¬s=ByteArray.mk #[73,110,116])(B9:¬s=ByteArray.mk #[66,111,111,108])(BU:¬s=ByteArray.mk #[67,101,108,108])(Fk:¬s=ByteArray.mk #[70,117,110])(Qp:Fi (Array.toList (ByteArray.data s))=Gv.e0):Pu 140 [.str s] (rI 3):=
 pu Ad (fun e=>[kp,rp 2 (Az Ac),kp,rp 2 (Az Ac),rp 2 (Az Ae),am ((0:Int)<=0/\0<(↑(ByteArray.size s):Int)),av (.v (.int .u8 (↑(UInt8.toNat (List.getD (Array.toList (ByteArray.data s)) (Int.toNat 0) default)):Int))) (.v (.int .u8 (↑(UInt8.toNat (List.getD (Array.toList (ByteArray.data s)) 0 default)):Int))) rF,Az Ae,cl (@M1 ((↑(UInt8.toNat (List.getD (Array.toList (ByteArray.data s)) 0 default)):Int))),rp 2 (Az Ae),rp 3 (AQ (AJ Ao)),rp 3 (bf (ByteArray.toList s==ByteArray.toList (ByteArray.mk #[73,110,116])) (BZ AK)),rp 3 (bf (ByteArray.toList s==ByteArray.toList (ByteArray.mk #[66,111,111,108])) (BZ B9)),rp 3 (bf (ByteArray.toList s==ByteArray.toList (ByteArray.mk #[67,101,108,108])) (BZ BU)),bf (ByteArray.toList s==ByteArray.toList (ByteArray.mk #[70,117,110])) (BZ Fk),kp,lp (S.mk [(0,vS s),(2,A1 0),(4,vS s),(5,A1 (↑(ByteArray.size s):Int)),(6,.v (.bool (decide ((↑(ByteArray.size s):Int)<1)))),(7,.v (.bool (decide ((↑(ByteArray.size s):Int)<1)))),(8,vS s),(9,A1 (↑(ByteArray.size s):Int)),(10,.v (.bool (decide ((↑(ByteArray.size s):Int)>24)))),(11,.v (.bool (decide ((↑(ByteArray.size s):Int)>24)))),(12,.v (.bool (decide ((↑(ByteArray.size s):Int)>24)))),(13,vS s),(14,.v (.int .u8 (↑(UInt8.toNat (List.getD (Array.toList (ByteArray.data s)) 0 default)):Int))),(15,.v (.bool (Fp (↑(UInt8.toNat (List.getD (Array.toList (ByteArray.data s)) 0 default)):Int)))),(16,.v (.bool !Fp (↑(UInt8.toNat (List.getD (Array.toList (ByteArray.data s)) 0 default)):Int))),(17,.v (.bool !Fp (↑(UInt8.toNat (List.getD (Array.toList (ByteArray.data s)) 0 default)):Int))),(18,.v (.bool !Fp (↑(UInt8.toNat (List.getD (Array.toList (ByteArray.data s)) 0 default)):Int))),(19,vS s),(20,.v (.bool (ByteArray.toList s==ByteArray.toList (ByteArray.mk #[73,110,116])))),(21,.v (.bool (ByteArray.toList s==ByteArray.toList (ByteArray.mk #[73,110,116])))),(22,.v (.bool (ByteArray.toList s==ByteArray.toList (ByteArray.mk #[73,110,116])))),(23,vS s),(24,.v (.bool (ByteArray.toList s==ByteArray.toList (ByteArray.mk #[66,111,111,108])))),(25,.v (.bool (ByteArray.toList s==ByteArray.toList (ByteArray.mk #[66,111,111,108])))),(26,.v (.bool (ByteArray.toList s==ByteArray.toList (ByteArray.mk #[66,111,111,108])))),(27,vS s),(28,.v (.bool (ByteArray.toList s==ByteArray.toList (ByteArray.mk #[67,101,108,108])))),(29,.v (.bool (ByteArray.toList s==ByteArray.toList (ByteArray.mk #[67,101,108,108])))),(30,.v (.bool (ByteArray.toList s==ByteArray.toList (ByteArray.mk #[67,101,108,108])))),(31,vS s),(32,.v (.bool (ByteArray.toList s==ByteArray.toList (ByteArray.mk #[70,117,110])))),(33,.v (.bool (ByteArray.toList s==ByteArray.toList (ByteArray.mk #[70,117,110])))),(34,vS s),(35,A1 (↑(ByteArray.size s):Int)),(36,A1 0)] [] e) (@A2u (s) (e) (by (apply Hz <;> first | assumption | omega | decide)) Qp) xr]) func140
theorem tD(Ao:Fp (↑(UInt8.toNat (List.getD (Array.toList (ByteArray.data s)) 0 default)):Int)=true)(AK:¬s=ByteArray.mk #[73,110,116])(B9:¬s=ByteArray.mk #[66,111,111,108])(BU:¬s=ByteArray.mk #[67,101,108,108])(Fk:¬s=ByteArray.mk #[70,117,110])(Qp:Fi (Array.toList (ByteArray.data s))=Gv.e1):Pu 140 [.str s] (rI 0):=
 pu Ad (fun e=>[kp,rp 2 (Az Ac),kp,rp 2 (Az Ac),rp 2 (Az Ae),am ((0:Int)<=0/\0<(↑(ByteArray.size s):Int)),av (.v (.int .u8 (↑(UInt8.toNat (List.getD (Array.toList (ByteArray.data s)) (Int.toNat 0) default)):Int))) (.v (.int .u8 (↑(UInt8.toNat (List.getD (Array.toList (ByteArray.data s)) 0 default)):Int))) rF,Az Ae,cl (@M1 ((↑(UInt8.toNat (List.getD (Array.toList (ByteArray.data s)) 0 default)):Int))),rp 2 (Az Ae),rp 3 (AQ (AJ Ao)),rp 3 (bf (ByteArray.toList s==ByteArray.toList (ByteArray.mk #[73,110,116])) (BZ AK)),rp 3 (bf (ByteArray.toList s==ByteArray.toList (ByteArray.mk #[66,111,111,108])) (BZ B9)),rp 3 (bf (ByteArray.toList s==ByteArray.toList (ByteArray.mk #[67,101,108,108])) (BZ BU)),bf (ByteArray.toList s==ByteArray.toList (ByteArray.mk #[70,117,110])) (BZ Fk),kp,lp (S.mk [(0,vS s),(2,A1 0),(4,vS s),(5,A1 (↑(ByteArray.size s):Int)),(6,.v (.bool (decide ((↑(ByteArray.size s):Int)<1)))),(7,.v (.bool (decide ((↑(ByteArray.size s):Int)<1)))),(8,vS s),(9,A1 (↑(ByteArray.size s):Int)),(10,.v (.bool (decide ((↑(ByteArray.size s):Int)>24)))),(11,.v (.bool (decide ((↑(ByteArray.size s):Int)>24)))),(12,.v (.bool (decide ((↑(ByteArray.size s):Int)>24)))),(13,vS s),(14,.v (.int .u8 (↑(UInt8.toNat (List.getD (Array.toList (ByteArray.data s)) 0 default)):Int))),(15,.v (.bool (Fp (↑(UInt8.toNat (List.getD (Array.toList (ByteArray.data s)) 0 default)):Int)))),(16,.v (.bool !Fp (↑(UInt8.toNat (List.getD (Array.toList (ByteArray.data s)) 0 default)):Int))),(17,.v (.bool !Fp (↑(UInt8.toNat (List.getD (Array.toList (ByteArray.data s)) 0 default)):Int))),(18,.v (.bool !Fp (↑(UInt8.toNat (List.getD (Array.toList (ByteArray.data s)) 0 default)):Int))),(19,vS s),(20,.v (.bool (ByteArray.toList s==ByteArray.toList (ByteArray.mk #[73,110,116])))),(21,.v (.bool (ByteArray.toList s==ByteArray.toList (ByteArray.mk #[73,110,116])))),(22,.v (.bool (ByteArray.toList s==ByteArray.toList (ByteArray.mk #[73,110,116])))),(23,vS s),(24,.v (.bool (ByteArray.toList s==ByteArray.toList (ByteArray.mk #[66,111,111,108])))),(25,.v (.bool (ByteArray.toList s==ByteArray.toList (ByteArray.mk #[66,111,111,108])))),(26,.v (.bool (ByteArray.toList s==ByteArray.toList (ByteArray.mk #[66,111,111,108])))),(27,vS s),(28,.v (.bool (ByteArray.toList s==ByteArray.toList (ByteArray.mk #[67,101,108,108])))),(29,.v (.bool (ByteArray.toList s==ByteArray.toList (ByteArray.mk #[67,101,108,108])))),(30,.v (.bool (ByteArray.toList s==ByteArray.toList (ByteArray.mk #[67,101,108,108])))),(31,vS s),(32,.v (.bool (ByteArray.toList s==ByteArray.toList (ByteArray.mk #[70,117,110])))),(33,.v (.bool (ByteArray.toList s==ByteArray.toList (ByteArray.mk #[70,117,110])))),(34,vS s),(35,A1 (↑(ByteArray.size s):Int)),(36,A1 0)] [] e) (@A2v (s) (e) (by (apply Hz <;> first | assumption | omega | decide)) Qp) xr]) func140
theorem tE(Ao:Prod.fst (Ih s (Array.toList (ByteArray.data s)) 0 true (D1 (↑(UInt8.toNat (List.getD (Array.toList (ByteArray.data s)) 0 default)):Int)))=true):Pu 141 [.str s] (rB true):=
 pu Ad (fun e=>[kp,rp 2 (Az Ac),kp,rp 2 (Az Ac),Az Ae,am ((0:Int)<=0/\0<(↑(ByteArray.size s):Int)),av (.v (.int .u8 (↑(UInt8.toNat (List.getD (Array.toList (ByteArray.data s)) (Int.toNat 0) default)):Int))) (.v (.int .u8 (↑(UInt8.toNat (List.getD (Array.toList (ByteArray.data s)) 0 default)):Int))) rF,cl (@Hy ((↑(UInt8.toNat (List.getD (Array.toList (ByteArray.data s)) 0 default)):Int))),kp,lp (S.mk [(0,vS s),(2,.v (.bool false)),(6,vS s),(7,A1 (↑(ByteArray.size s):Int)),(8,.v (.bool (decide ((↑(ByteArray.size s):Int)<1)))),(9,.v (.bool (decide ((↑(ByteArray.size s):Int)<1)))),(10,vS s),(11,A1 (↑(ByteArray.size s):Int)),(12,.v (.bool (decide ((↑(ByteArray.size s):Int)>24)))),(13,.v (.bool (decide ((↑(ByteArray.size s):Int)>24)))),(3,.v (.bool true)),(14,vS s),(15,.v (.int .u8 (↑(UInt8.toNat (List.getD (Array.toList (ByteArray.data s)) 0 default)):Int))),(16,.v (.bool (D1 (↑(UInt8.toNat (List.getD (Array.toList (ByteArray.data s)) 0 default)):Int)))),(4,.v (.bool (D1 (↑(UInt8.toNat (List.getD (Array.toList (ByteArray.data s)) 0 default)):Int)))),(17,vS s),(18,A1 (↑(ByteArray.size s):Int)),(19,A1 0)] [] e) (@rPa (s) default (e) (true) (D1 (↑(UInt8.toNat (List.getD (Array.toList (ByteArray.data s)) 0 default)):Int)) (by (apply Hz <;> first | assumption | omega | decide))) xr,rp 2 (B2 Ao)]) func141
theorem tF(Ao:Prod.fst (Ih s (Array.toList (ByteArray.data s)) 0 true (D1 (↑(UInt8.toNat (List.getD (Array.toList (ByteArray.data s)) 0 default)):Int)))=false):Pu 141 [.str s] (rB (Prod.snd (Ih s (Array.toList (ByteArray.data s)) 0 true (D1 (↑(UInt8.toNat (List.getD (Array.toList (ByteArray.data s)) 0 default)):Int))))):=
 pu Ad (fun e=>[kp,rp 2 (Az Ac),kp,rp 2 (Az Ac),Az Ae,am ((0:Int)<=0/\0<(↑(ByteArray.size s):Int)),av (.v (.int .u8 (↑(UInt8.toNat (List.getD (Array.toList (ByteArray.data s)) (Int.toNat 0) default)):Int))) (.v (.int .u8 (↑(UInt8.toNat (List.getD (Array.toList (ByteArray.data s)) 0 default)):Int))) rF,cl (@Hy ((↑(UInt8.toNat (List.getD (Array.toList (ByteArray.data s)) 0 default)):Int))),kp,lp (S.mk [(0,vS s),(2,.v (.bool false)),(6,vS s),(7,A1 (↑(ByteArray.size s):Int)),(8,.v (.bool (decide ((↑(ByteArray.size s):Int)<1)))),(9,.v (.bool (decide ((↑(ByteArray.size s):Int)<1)))),(10,vS s),(11,A1 (↑(ByteArray.size s):Int)),(12,.v (.bool (decide ((↑(ByteArray.size s):Int)>24)))),(13,.v (.bool (decide ((↑(ByteArray.size s):Int)>24)))),(3,.v (.bool true)),(14,vS s),(15,.v (.int .u8 (↑(UInt8.toNat (List.getD (Array.toList (ByteArray.data s)) 0 default)):Int))),(16,.v (.bool (D1 (↑(UInt8.toNat (List.getD (Array.toList (ByteArray.data s)) 0 default)):Int)))),(4,.v (.bool (D1 (↑(UInt8.toNat (List.getD (Array.toList (ByteArray.data s)) 0 default)):Int)))),(17,vS s),(18,A1 (↑(ByteArray.size s):Int)),(19,A1 0)] [] e) (@rPa (s) default (e) (true) (D1 (↑(UInt8.toNat (List.getD (Array.toList (ByteArray.data s)) 0 default)):Int)) (by (apply Hz <;> first | assumption | omega | decide))) xr,rp 2 (AQ Ao)]) func141
end
theorem mB{b:Bool}(h:b=true):Ck b=0:=by rw [h]; rfl
theorem HH{b:Bool}(h:b=false):Ck b=3:=by rw [h]; rfl
theorem OC(s:BA):Pu 139 [.str s] (.ret (.int .i64 (Ck (AR s)))):=by
 by_cases h1:(s.size:Int)<1
 ·rw [HH (by simp [AR,Zv h1])]; exact pm Ad [kp,rp 4 (C6 h1),rp 9 (bt true)] func139
 ·by_cases h2:(s.size:Int)>24
  ·rw [HH (by simp [AR,Zw h2])]; exact pm Ad [kp,rp 2 (Az h1),kp,rp 2 (Az h1),rp 5 (C6 h2),rp 4 (bt true)] func139
  ·have hz:=sY h1 h2
   cases h3:D1 (s.data.toList.getD 0 default).toNat with
   | false=>rw [HH (by unfold AR; rw [h3]; simp)]; exact pm Ad [kp,rp 2 (Az h1),kp,rp 2 (Az h1),rp 2 (Az h2),am ((0:Int)<=0/\0<(↑(ByteArray.size s):Int)),av (.v (.int .u8 (↑(UInt8.toNat (List.getD (Array.toList (ByteArray.data s)) (Int.toNat 0) default)):Int))) (.v (.int .u8 (↑(UInt8.toNat (List.getD (Array.toList (ByteArray.data s)) 0 default)):Int))) rF,Az h2,cl (@Hy ((↑(UInt8.toNat (List.getD (Array.toList (ByteArray.data s)) 0 default)):Int))),rp 2 (Az h2),rp 3 (B2 (B6 h3)),bt true] func139
   | true=>
    cases h4:Ln s with
    | true=>rw [HH (by unfold AR; rw [h4]; simp)]; exact pm Ad [kp,rp 2 (Az h1),kp,rp 2 (Az h1),rp 2 (Az h2),am ((0:Int)<=0/\0<(↑(ByteArray.size s):Int)),av (.v (.int .u8 (↑(UInt8.toNat (List.getD (Array.toList (ByteArray.data s)) (Int.toNat 0) default)):Int))) (.v (.int .u8 (↑(UInt8.toNat (List.getD (Array.toList (ByteArray.data s)) 0 default)):Int))) rF,Az h2,cl (@Hy ((↑(UInt8.toNat (List.getD (Array.toList (ByteArray.data s)) 0 default)):Int))),rp 2 (Az h2),rp 2 (AQ (AJ h3)),cl (@sX (s)),AQ (AJ h3),B2 h4] func139
    | false=>
     have ha:=sZ h3
     cases h5:(s.data.toList.drop 1).all QK with
     | true=>rw [mB (by unfold AR; rw [hz,h3,h4,h5]; rfl)]; exact tB s h1 h2 h3 h4 (by rw [Zx,iP (by rw [ha,h5])])
     | false=>rw [HH (by unfold AR; rw [hz,h3,h4,h5]; rfl)]; exact tA s h1 h2 h3 h4 (by rw [Zx,iN (by rw [ha,h5]; decide)])
theorem Wy(s:BA):Pu 140 [.str s] (.ret (.int .i64 (Ck (AZ s)))):=by
 by_cases h1:(s.size:Int)<1
 ·rw [HH (by simp [AZ,Zv h1])]; exact pm Ad [kp,rp 4 (C6 h1),rp 18 (bt true)] func140
 ·by_cases h2:(s.size:Int)>24
  ·rw [HH (by simp [AZ,Zw h2])]; exact pm Ad [kp,rp 2 (Az h1),kp,rp 2 (Az h1),rp 5 (C6 h2),rp 13 (bt true)] func140
  ·have hz:=sY h1 h2
   cases h3:Fp (s.data.toList.getD 0 default).toNat with
   | false=>rw [HH (by unfold AZ; rw [h3]; simp)]; exact pm Ad [kp,rp 2 (Az h1),kp,rp 2 (Az h1),rp 2 (Az h2),am ((0:Int)<=0/\0<(↑(ByteArray.size s):Int)),av (.v (.int .u8 (↑(UInt8.toNat (List.getD (Array.toList (ByteArray.data s)) (Int.toNat 0) default)):Int))) (.v (.int .u8 (↑(UInt8.toNat (List.getD (Array.toList (ByteArray.data s)) 0 default)):Int))) rF,Az h2,cl (@M1 ((↑(UInt8.toNat (List.getD (Array.toList (ByteArray.data s)) 0 default)):Int))),rp 2 (Az h2),rp 3 (B2 (B6 h3)),rp 10 (bt true)] func140
   | true=>
    by_cases h4:s=iH
    ·rw [HH (by unfold AZ; rw [decide_eq_true h4]; simp)]; exact pm Ad [kp,rp 2 (Az h1),kp,rp 2 (Az h1),rp 2 (Az h2),am ((0:Int)<=0/\0<(↑(ByteArray.size s):Int)),av (.v (.int .u8 (↑(UInt8.toNat (List.getD (Array.toList (ByteArray.data s)) (Int.toNat 0) default)):Int))) (.v (.int .u8 (↑(UInt8.toNat (List.getD (Array.toList (ByteArray.data s)) 0 default)):Int))) rF,Az h2,cl (@M1 ((↑(UInt8.toNat (List.getD (Array.toList (ByteArray.data s)) 0 default)):Int))),rp 2 (Az h2),rp 3 (AQ (AJ h3)),rp 3 (bt (ByteArray.toList s==ByteArray.toList (ByteArray.mk #[73,110,116])) (BL h4)),rp 7 (bt true)] func140
    ·by_cases h5:s=Uv
     ·rw [HH (by unfold AZ; rw [decide_eq_true h5]; simp)]; exact pm Ad [kp,rp 2 (Az h1),kp,rp 2 (Az h1),rp 2 (Az h2),am ((0:Int)<=0/\0<(↑(ByteArray.size s):Int)),av (.v (.int .u8 (↑(UInt8.toNat (List.getD (Array.toList (ByteArray.data s)) (Int.toNat 0) default)):Int))) (.v (.int .u8 (↑(UInt8.toNat (List.getD (Array.toList (ByteArray.data s)) 0 default)):Int))) rF,Az h2,cl (@M1 ((↑(UInt8.toNat (List.getD (Array.toList (ByteArray.data s)) 0 default)):Int))),rp 2 (Az h2),rp 3 (AQ (AJ h3)),rp 3 (bf (ByteArray.toList s==ByteArray.toList (ByteArray.mk #[73,110,116])) (BZ h4)),rp 3 (bt (ByteArray.toList s==ByteArray.toList (ByteArray.mk #[66,111,111,108])) (BL h5)),rp 4 (bt true)] func140
     ·by_cases h6:s=Uw
      ·rw [HH (by unfold AZ; rw [decide_eq_true h6]; simp)]; exact pm Ad [kp,rp 2 (Az h1),kp,rp 2 (Az h1),rp 2 (Az h2),am ((0:Int)<=0/\0<(↑(ByteArray.size s):Int)),av (.v (.int .u8 (↑(UInt8.toNat (List.getD (Array.toList (ByteArray.data s)) (Int.toNat 0) default)):Int))) (.v (.int .u8 (↑(UInt8.toNat (List.getD (Array.toList (ByteArray.data s)) 0 default)):Int))) rF,Az h2,cl (@M1 ((↑(UInt8.toNat (List.getD (Array.toList (ByteArray.data s)) 0 default)):Int))),rp 2 (Az h2),rp 3 (AQ (AJ h3)),rp 3 (bf (ByteArray.toList s==ByteArray.toList (ByteArray.mk #[73,110,116])) (BZ h4)),rp 3 (bf (ByteArray.toList s==ByteArray.toList (ByteArray.mk #[66,111,111,108])) (BZ h5)),rp 3 (bt (ByteArray.toList s==ByteArray.toList (ByteArray.mk #[67,101,108,108])) (BL h6)),bt true] func140
      ·by_cases h7:s=Z8
       ·rw [HH (by unfold AZ; rw [decide_eq_true h7]; simp)]; exact pm Ad [kp,rp 2 (Az h1),kp,rp 2 (Az h1),rp 2 (Az h2),am ((0:Int)<=0/\0<(↑(ByteArray.size s):Int)),av (.v (.int .u8 (↑(UInt8.toNat (List.getD (Array.toList (ByteArray.data s)) (Int.toNat 0) default)):Int))) (.v (.int .u8 (↑(UInt8.toNat (List.getD (Array.toList (ByteArray.data s)) 0 default)):Int))) rF,Az h2,cl (@M1 ((↑(UInt8.toNat (List.getD (Array.toList (ByteArray.data s)) 0 default)):Int))),rp 2 (Az h2),rp 3 (AQ (AJ h3)),rp 3 (bf (ByteArray.toList s==ByteArray.toList (ByteArray.mk #[73,110,116])) (BZ h4)),rp 3 (bf (ByteArray.toList s==ByteArray.toList (ByteArray.mk #[66,111,111,108])) (BZ h5)),rp 3 (bf (ByteArray.toList s==ByteArray.toList (ByteArray.mk #[67,101,108,108])) (BZ h6)),bt (ByteArray.toList s==ByteArray.toList (ByteArray.mk #[70,117,110])) (BL h7)] func140
       ·cases h8:s.data.toList.all Jn with
        | true=>rw [mB (by unfold AZ; rw [hz,h3,h8,decide_eq_false h4,decide_eq_false h5,decide_eq_false h6,decide_eq_false h7]; rfl)]; exact tD s h1 h2 h3 h4 h5 h6 h7 (by rw [Zy,iP h8])
        | false=>rw [HH (by unfold AZ; rw [hz,h3,h8]; rfl)]; exact tC s h1 h2 h3 h4 h5 h6 h7 (by rw [Zy,iN (by rw [h8]; decide)])
theorem mC(s:BA):∀ (pre r:List UInt8) (a b:Bool),s.data.toList=pre++r->Ih s r pre.length a b=(a&&r.all Jn,b&&r.all QK)
 | pre,[],a,b,_=>by simp [Ih]
 | pre,c::r,a,b,h=>by
  have hg:s.data.toList.getD pre.length default=c:=by rw [h]; simp [List.getD]
  have ih:=fun a b=>mC s (pre++[c]) r a b (by rw [h]; simp)
  simp only [List.length_append,List.length_cons,List.length_nil,Nat.zero_add] at ih
  have h8:∀b,Fj s a b pre.length=(a&&Jn c):=fun b=>by
   unfold Fj Jn; rw [hg]
   cases a <;> cases D1 c.toNat <;> cases Fp c.toNat <;> simp
  have h9:∀a,HG s a b pre.length=(b&&QK c):=fun a=>by
   unfold HG QK; rw [hg]
   cases b <;> cases D1 c.toNat <;> cases IW c.toNat <;> simp <;> rfl
  rw [Ih,h8,h9,ih,List.all_cons,List.all_cons,Bool.and_assoc,Bool.and_assoc]
theorem A2x(s:BA):Pu 141 [.str s] (.ret (.bool (CW s))):=by
 by_cases h1:(s.size:Int)<1
 ·rw [show CW s=false by simp [CW,Zv h1]]; exact pm Ad [kp,rp 4 (C6 h1),bt true] func141
 ·by_cases h2:(s.size:Int)>24
  ·rw [show CW s=false by simp [CW,Zw h2]]; exact pm Ad [kp,rp 2 (Az h1),kp,rp 2 (Az h1),C6 h2] func141
  ·have hz:=sY h1 h2
   have he:=mC s [] s.data.toList true (D1 (s.data.toList.getD 0 default).toNat) rfl
   have hw:(D1 (s.data.toList.getD 0 default).toNat&&s.data.toList.all QK)=FX s.data.toList:=by
    have hl:s.data.toList.length=s.size:=by simp
    generalize s.data.toList=l at hl
    cases l with
    | nil=>simp at hl; omega
    | cons c r=>
     simp only [List.getD_cons_zero,List.all_cons,FX]
     cases hc:D1 c.toNat with
     | false=>rfl
     | true=>rw [mA hc]; rfl
   simp only [List.length_nil,Bool.true_and,hw] at he
   have hp:CW s=(s.data.toList.all Jn||FX s.data.toList):=by unfold CW; rw [hz,Bool.true_and]
   rw [hp]
   cases h3:s.data.toList.all Jn with
   | true=>exact tE s h1 h2 (by rw [he]; exact h3)
   | false=>
    rw [Bool.false_or]
    have:=tF s h1 h2 (by rw [he]; exact h3)
    rw [he] at this
    exact this
end Go.Proofs.YthchpmnkecoafaaGreatDoor
