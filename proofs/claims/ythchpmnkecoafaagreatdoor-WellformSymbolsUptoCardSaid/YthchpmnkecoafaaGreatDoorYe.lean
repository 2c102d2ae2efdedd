/- Values of Go as plain data, an evaluator over them, and what the functions of the program return; part Ye. -/
import Derived.Test.YthchpmnkecoafaaGreatDoorYd
import Derived.RangeFuncNested
import Derived.RangeFuncBound
import Derived.RangeFuncCalls
import Derived.RangeFuncLeaves
import Derived.Shelf.Abstract
import Derived.Shelf.RegionOpen
import Derived.WalkKit
import Derived.OwnWalkIn
import Derived.TacticsInMore
import Derived.LoopNIn
import Derived.LoopIn
import Derived.Test.YthchpmnkecoafaaGreatDoorYa
set_option linter.unusedSectionVars false
set_option linter.unusedSimpArgs false
set_option linter.unusedVariables false
namespace Go.Proofs.YthchpmnkecoafaaGreatDoor
open Go.Proofs.Tryz
open Go.Pv Go.Proofs.Tryz
set_option maxRecDepth 100000
def coreB(s:BA):Bool:=decide (s.size<=120)&&(if ptS s<s.size then (nameB (s.extract 0 (ptS s))||titleB (s.extract 0 (ptS s))||decide (s.extract 0 (ptS s)=tV))&&corG (s.extract (ptS s+1) s.size) else nameB s||titleB s)
theorem coM_t{x:BA}{b:Bool}(h:corG x=b):coM (x,true)=b:=by rw [<-h]; unfold coM; rw [iP rfl]
theorem nCoT(s:BA):Pu 85 [.str s] (.ret (.int .i64 (erN (coreB s)))):=by
 unfold coreB
 by_cases hl:s.size<=120
 ·have hl':(s.size:Int)<=120:=by omega
  rw [decide_eq_true hl,Bool.true_and]
  by_cases hx:ptS s<s.size
  ·rw [iP hx]
   cases h0:nameB (s.extract 0 (ptS s)) with
   | true=>
    cases h3:corG (s.extract (ptS s+1) s.size) with
    | true=>simpa only [Bool.true_or,Bool.false_or,Bool.true_and,Bool.or_true,Bool.false_and,Bool.and_true,Bool.and_false,Bool.or_false,erN,if_true,Bool.false_eq_true,if_false] using nCoB_6 s hl' hx h0 (coM_t h3)
    | false=>simpa only [Bool.true_or,Bool.false_or,Bool.true_and,Bool.or_true,Bool.false_and,Bool.and_true,Bool.and_false,Bool.or_false,erN,if_true,Bool.false_eq_true,if_false] using nCoB_7 s hl' hx h0 (coM_t h3)
   | false=>
    cases h1:titleB (s.extract 0 (ptS s)) with
    | true=>
     cases h3:corG (s.extract (ptS s+1) s.size) with
     | true=>simpa only [Bool.true_or,Bool.false_or,Bool.true_and,Bool.or_true,Bool.false_and,Bool.and_true,Bool.and_false,Bool.or_false,erN,if_true,Bool.false_eq_true,if_false] using nCoB_4 s hl' hx h0 h1 (coM_t h3)
     | false=>simpa only [Bool.true_or,Bool.false_or,Bool.true_and,Bool.or_true,Bool.false_and,Bool.and_true,Bool.and_false,Bool.or_false,erN,if_true,Bool.false_eq_true,if_false] using nCoB_5 s hl' hx h0 h1 (coM_t h3)
    | false=>
     by_cases h2:s.extract 0 (ptS s)=tV
     ·rw [decide_eq_true h2]
      cases h3:corG (s.extract (ptS s+1) s.size) with
      | true=>simpa only [Bool.true_or,Bool.false_or,Bool.true_and,Bool.or_true,Bool.false_and,Bool.and_true,Bool.and_false,Bool.or_false,erN,if_true,Bool.false_eq_true,if_false] using nCoB_2 s hl' hx h0 h1 h2 (coM_t h3)
      | false=>simpa only [Bool.true_or,Bool.false_or,Bool.true_and,Bool.or_true,Bool.false_and,Bool.and_true,Bool.and_false,Bool.or_false,erN,if_true,Bool.false_eq_true,if_false] using nCoB_3 s hl' hx h0 h1 h2 (coM_t h3)
     ·rw [decide_eq_false h2]; simpa only [Bool.true_or,Bool.false_or,Bool.true_and,Bool.or_true,Bool.false_and,Bool.and_true,Bool.and_false,Bool.or_false,erN,if_true,Bool.false_eq_true,if_false] using nCoB_1 s hl' hx h0 h1 h2
  ·rw [iN hx]
   cases h0:nameB s with
   | true=>simpa only [Bool.true_or,Bool.false_or,Bool.true_and,Bool.or_true,Bool.false_and,Bool.and_true,Bool.and_false,Bool.or_false,erN,if_true,Bool.false_eq_true,if_false] using nCoC_4 s hl' hx h0
   | false=>
    cases h1:titleB s with
    | true=>simpa only [Bool.true_or,Bool.false_or,Bool.true_and,Bool.or_true,Bool.false_and,Bool.and_true,Bool.and_false,Bool.or_false,erN,if_true,Bool.false_eq_true,if_false] using nCoC_3 s hl' hx h0 h1
    | false=>
     by_cases h2:s=tV
     ·simpa only [Bool.true_or,Bool.false_or,Bool.true_and,Bool.or_true,Bool.false_and,Bool.and_true,Bool.and_false,Bool.or_false,erN,if_true,Bool.false_eq_true,if_false] using nCoC_2 s hl' hx h0 h1 h2
     ·simpa only [Bool.true_or,Bool.false_or,Bool.true_and,Bool.or_true,Bool.false_and,Bool.and_true,Bool.and_false,Bool.or_false,erN,if_true,Bool.false_eq_true,if_false] using nCoC_1 s hl' hx h0 h1 h2
 ·rw [decide_eq_false hl,Bool.false_and]; simpa only [Bool.true_or,Bool.false_or,Bool.true_and,Bool.or_true,Bool.false_and,Bool.and_true,Bool.and_false,Bool.or_false,erN,if_true,Bool.false_eq_true,if_false] using nCoA s oM
theorem core_pos{s:BA}(h:erN (coreB s)=0):(0:Int)<=0/\(0:Int)<(s.size:Int):=by
 cases hb:coreB s with
 | false=>rw [hb] at h; cases h
 | true=>
  by_cases hz:s.size=0
  ·have:s=nm0:=by
    have:s.data = #[]:=Array.eq_empty_of_size_eq_zero hz
    cases s; simp only at this; subst this; rfl
   subst this
   rw [show coreB nm0=false by kernel_rfl] at hb
   cases hb
  ·omega
def plc(s:BA)(l:List BA):Int:=if ix id s l<l.length then (ix id s l:Nat) else -1
def frE{α:Type}(f:α->Int):List α->Int
 | []=>0
 | x::r=>if f x=0 then frE f r else f x
abbrev tdA_I(t:Tp)(dfz:Tp->Int)(j:Int)(n:Int)(e:Ext):S:=S.mk [(2,vI6 0),(3,vI6 n),(7,vL 9 (Tp.cs (tpA t))),(8,vI6 ((tpA t).length:Int)),(9,vI6 j)] [] e
def tdA_f(dfz:Tp->Int):List Tp->(Int)->(Int)
 | [],n=>(n)
 | el::r,n=>tdA_f dfz r (mxI true n (dfz el))
def tdA_q(t:Tp)(dfz:Tp->Int)(e:Ext)(p:(Int)):PExit × S:=(.exit 0,S.mk [(2,vI6 0),(3,vI6 p),(7,vL 9 (Tp.cs (tpA t))),(8,vI6 ((tpA t).length:Int))] [] e)
theorem tdA(t:Tp)(dfz:Tp->Int)(hwk:∀w:Tp,w∈tpA t->Pu 121 [.agg (tpL w)] (.ret (.int .i64 (dfz w))))(n:Int)(e:Ext)(hN:(tpA t).length<=1000000000)  : (Ob.loop 20 (loopF f121 0) (tdA_I t dfz 0 n e) (tdA_q t dfz e (tdA_f dfz ((tpA t))  n)).1 (tdA_q t dfz e (tdA_f dfz ((tpA t))  n)).2).ok prog:=by
 refine rng ((tpA t).length) (fun j n=>tdA_I t dfz j n e) (fun i n=>tdA_f dfz (List.drop i ((tpA t)))  n) (tdA_q t dfz e) (fun i n=>True) kR ?_ n trivial
 rintro i n hi -
 rcases Nat.lt_or_ge i ((tpA t).length) with hlt | hge
 ·have hd:=drop_at hlt
  exact lN mdL [dt ((i:Int)<((tpA t).length:Int)),am ((0:Int)<=(i:Int)/\(i:Int)<((Tp.cs (tpA t)).length:Int)) (by (simp only [Tp.cs_len]; omega)),ar (List.getD (Tp.cs (tpA t)) (Int.toNat (i:Int)) []) (tpL (List.getD (tpA t) i default)) (by simp only [Int.toNat_natCast,Int.toNat_zero]; rw [@Tp.cs_at (tpA t) (i) hlt]; try rfl),cl (@hwk (List.getD (tpA t) i default) (by simp_all [List.length_map,List.length_append,List.length_cons,List.length_nil,nmsC_len,Pr.cs_len,Tp.cs_len,Pm.cs_len,Ex.cs_len,Al.cs_len,Vr.cs_len,Cn.cs_len,Da.cs_len,Cl.cs_len,Bo.cs_len,Df.cs_len,In.cs_len,Cs.cs_len,Ms.cs_len,Qu.cs_len,Sy.cs_len,Ho.cs_len,Int.toNat_natCast,Bool.cond_true_left,Bool.cond_false_right,Int.toNat_zero,tn1])),wr ((i:Int)+1)] hlt (mxI true n (dfz (List.getD (tpA t) i default))) trivial (by rw [hd,tdA_f])
 ·have he:i=(tpA t).length:=by omega
  exact lX mdL [df ((i:Int)<((tpA t).length:Int))] (n) (by rw [he,List.drop_length,tdA_f])
abbrev tfA_I(t:Tp)(xe:Ext)(ff:Tp->Int)(j:Int)   : S:=S.mk [(2,vI6 0),(90,vL 9 (Tp.cs (tpA t))),(91,vI6 ((tpA t).length:Int)),(92,vI6 j)] [] xe
inductive tfA_R where
 | e0 (el:Tp)
 | e1
def tfA_f(ff:Tp->Int):List Tp->tfA_R
 | []=>(tfA_R.e1)
 | el::r=>(if ff el=0 then tfA_f ff r  else (tfA_R.e0 el))
def tfA_q(t:Tp)(xe:Ext)(ff:Tp->Int)  : tfA_R->PExit × S
 | .e0 el=>(.ret,S.mk [(2,vI6 (ff el)),(90,vL 9 (Tp.cs (tpA t))),(91,vI6 ((tpA t).length:Int))] [] xe)
 | .e1=>(.exit 0,S.mk [(2,vI6 0),(90,vL 9 (Tp.cs (tpA t))),(91,vI6 ((tpA t).length:Int))] [] xe)
theorem tfA_lp(t:Tp)(xe:Ext)(ff:Tp->Int)(hwk:∀w:Tp,w∈tpA t->Pu 122 [.agg (tpL w)] (.ret (.int .i64 (ff w))))(hN:(tpA t).length<=1000000000):(Ob.loop 102 (loopF f122 0) (tfA_I t xe ff 0) (tfA_q t xe ff  (tfA_f ff (List.drop 0 ((tpA t))))).1 (tfA_q t xe ff  (tfA_f ff (List.drop 0 ((tpA t))))).2).ok prog:=by
 refine rng ((tpA t).length) (fun j _=>tfA_I t xe ff j) (fun i _=>tfA_f ff (List.drop i ((tpA t)))) (tfA_q t xe ff) (fun i _=>True) kR ?_ () trivial
 rintro i u hi -
 rcases Nat.lt_or_ge i ((tpA t).length) with hlt | hge
 ·have hd:=drop_at hlt
  by_cases h0:ff (List.getD (tpA t) i default)=0
  ·exact lN mdL [dt ((i:Int)<((tpA t).length:Int)),am ((0:Int)<=(i:Int)/\(i:Int)<((Tp.cs (tpA t)).length:Int)) (by (simp only [Tp.cs_len]; omega)),ar (List.getD (Tp.cs (tpA t)) (Int.toNat (i:Int)) []) (tpL (List.getD (tpA t) i default)) (by simp only [Int.toNat_natCast,Int.toNat_zero]; rw [@Tp.cs_at (tpA t) (i) hlt]; try rfl),cl (@hwk (List.getD (tpA t) i default) (by simp_all [List.length_map,List.length_append,List.length_cons,List.length_nil,nmsC_len,Pr.cs_len,Tp.cs_len,Pm.cs_len,Ex.cs_len,Al.cs_len,Vr.cs_len,Cn.cs_len,Da.cs_len,Cl.cs_len,Bo.cs_len,Df.cs_len,In.cs_len,Cs.cs_len,Ms.cs_len,Qu.cs_len,Sy.cs_len,Ho.cs_len,Int.toNat_natCast,Bool.cond_true_left,Bool.cond_false_right,Int.toNat_zero,tn1])),nn1 h0,wr ((i:Int)+1)] hlt () trivial (by rw [hd,tfA_f,iP h0])
  ·exact lX mdL [dt ((i:Int)<((tpA t).length:Int)),am ((0:Int)<=(i:Int)/\(i:Int)<((Tp.cs (tpA t)).length:Int)) (by (simp only [Tp.cs_len]; omega)),ar (List.getD (Tp.cs (tpA t)) (Int.toNat (i:Int)) []) (tpL (List.getD (tpA t) i default)) (by simp only [Int.toNat_natCast,Int.toNat_zero]; rw [@Tp.cs_at (tpA t) (i) hlt]; try rfl),cl (@hwk (List.getD (tpA t) i default) (by simp_all [List.length_map,List.length_append,List.length_cons,List.length_nil,nmsC_len,Pr.cs_len,Tp.cs_len,Pm.cs_len,Ex.cs_len,Al.cs_len,Vr.cs_len,Cn.cs_len,Da.cs_len,Cl.cs_len,Bo.cs_len,Df.cs_len,In.cs_len,Cs.cs_len,Ms.cs_len,Qu.cs_len,Sy.cs_len,Ho.cs_len,Int.toNat_natCast,Bool.cond_true_left,Bool.cond_false_right,Int.toNat_zero,tn1])),nt1 h0] (tfA_R.e0 (List.getD ((tpA t)) i default)) (by rw [hd,tfA_f,iN h0])
 ·have he:i=(tpA t).length:=by omega
  exact lX mdL [df ((i:Int)<((tpA t).length:Int))] (tfA_R.e1) (by rw [he,List.drop_length,tfA_f])
theorem tfA_0(t:Tp)(xe:Ext)(ff:Tp->Int)(hwk:∀w:Tp,w∈tpA t->Pu 122 [.agg (tpL w)] (.ret (.int .i64 (ff w))))(hN:(tpA t).length<=1000000000)(p0:Tp)(hres:(tfA_f ff ((tpA t)))=(tfA_R.e0 p0)):(Ob.loop 102 (loopF f122 0) (tfA_I t xe ff 0) (tfA_q t xe ff  (tfA_R.e0 p0)).1 (tfA_q t xe ff  (tfA_R.e0 p0)).2).ok prog:=
 rz (tfA_lp t xe ff hwk hN) hres
theorem tfA_1(t:Tp)(xe:Ext)(ff:Tp->Int)(hwk:∀w:Tp,w∈tpA t->Pu 122 [.agg (tpL w)] (.ret (.int .i64 (ff w))))(hN:(tpA t).length<=1000000000)(hres:(tfA_f ff ((tpA t)))=(tfA_R.e1)):(Ob.loop 102 (loopF f122 0) (tfA_I t xe ff 0) (tfA_q t xe ff  (tfA_R.e1)).1 (tfA_q t xe ff  (tfA_R.e1)).2).ok prog:=
 rz (tfA_lp t xe ff hwk hN) hres
def arE(t:Tp):Int:=if tpO t=4 then (if ((tpA t).length:Int)>6 then 13 else 0) else if tpO t=6 then (if ((tpA t).length:Int)<2 then 13 else if ((tpA t).length:Int)>7 then 13 else if ((tpNs t).length:Int)=0 then 0 else if ((tpNs t).length:Int)=((tpA t).length:Int) - 1 then 0 else 13) else 0
theorem arT(t:Tp):Pu 170 [.agg (tpL t)] (.ret (.int .i64 (arE t))):=by
 unfold arE
 by_cases h0:tpO t=4
 ·rw [iP h0]
  by_cases h1:((tpA t).length:Int)>6
  ·rw [iP h1]; exact pm mdL [et1 h0,sl (Tp.cs_len (tpA t)),dt1 h1] func170
  ·rw [iN h1]; exact pm mdL [et1 h0,sl (Tp.cs_len (tpA t)),df1 h1] func170
 ·rw [iN h0]
  by_cases h1:tpO t=6
  ·rw [iP h1]
   by_cases h2:((tpA t).length:Int)<2
   ·rw [iP h2]; exact pm mdL [en1 h0,et1 h1,sl (Tp.cs_len (tpA t)),rp 5 (dt1 h2),rp 8 (bt true)] func170
   ·rw [iN h2]
    by_cases h3:((tpA t).length:Int)>7
    ·rw [iP h3]; exact pm mdL [en1 h0,et1 h1,sl (Tp.cs_len (tpA t)),rp 3 (df1 h2),sl (Tp.cs_len (tpA t)),rp 2 (df1 h2),rp 7 (dt1 h3),bt true] func170
    ·rw [iN h3]
     by_cases h4:((tpNs t).length:Int)=0
     ·rw [iP h4]; exact pm mdL [en1 h0,et1 h1,sl (Tp.cs_len (tpA t)),rp 3 (df1 h2),sl (Tp.cs_len (tpA t)),rp 2 (df1 h2),rp 3 (df1 h3),sl (nmsC_len (tpNs t)),rp 2 (df1 h3),rp 8 (nn1 h4),df1 h3,nn1 h4,df1 h3,bf false] func170
     ·rw [iN h4]
      by_cases h5:((tpNs t).length:Int)=((tpA t).length:Int) - 1
      ·rw [iP h5]; exact pm mdL [en1 h0,et1 h1,sl (Tp.cs_len (tpA t)),rp 3 (df1 h2),sl (Tp.cs_len (tpA t)),rp 2 (df1 h2),rp 3 (df1 h3),sl (nmsC_len (tpNs t)),rp 2 (df1 h3),rp 3 (nt1 h4),sl (nmsC_len (tpNs t)),rp 3 (nt1 h4),sl (Tp.cs_len (tpA t)),nt1 h4,wr (((tpA t).length:Int) - 1),nt1 h4,df1 h3,nt1 h4,df1 h3,nn1 h5] func170
      ·rw [iN h5]; exact pm mdL [en1 h0,et1 h1,sl (Tp.cs_len (tpA t)),rp 3 (df1 h2),sl (Tp.cs_len (tpA t)),rp 2 (df1 h2),rp 3 (df1 h3),sl (nmsC_len (tpNs t)),rp 2 (df1 h3),rp 3 (nt1 h4),sl (nmsC_len (tpNs t)),rp 3 (nt1 h4),sl (Tp.cs_len (tpA t)),nt1 h4,wr (((tpA t).length:Int) - 1),nt1 h4,df1 h3,nt1 h4,df1 h3,nt1 h5] func170
  ·rw [iN h1]; exact pm mdL [en1 h0,en1 h1] func170
def tdD:Nat->Tp->Int
 | 0,_=>0
 | d+1,t=>tdA_f (tdD d) (tpA t) 0+1
theorem mx_le{f:Tp->Int}{B:Int}:∀ (l:List Tp) (n:Int),0<=n->n<=B->(∀w∈l,0<=f w/\f w<=B)->0<=tdA_f f l n/\tdA_f f l n<=B
 | [],n,h0,h1,_=>⟨h0,h1⟩
 | x::r,n,h0,h1,h=>by
  have hx:=h x sM
  refine mx_le r _ ?_ ?_ fun w hw=>h w (List.mem_cons_of_mem _ hw)
  ·show 0<=(if f x>n then f x else n); split <;> omega
  ·show (if f x>n then f x else n)<=B; split <;> omega
theorem tdD_b:∀ (d:Nat) (t:Tp),0<=tdD d t/\tdD d t<=d
 | 0,_=>⟨Int.le_refl _,Int.le_refl _⟩
 | d+1,t=>by
  have:=mx_le (f:=tdD d) (B:=d) (tpA t) 0 oM oM fun w _=>tdD_b d w
  simp only [tdD]; omega
theorem td_ok:∀ (d:Nat) (t:Tp),bulkPs (tpL t)<d->d<=100000001->Pu 121 [.agg (tpL t)] (.ret (.int .i64 (tdD d t)))
 | 0,_,h,_=>by omega
 | d+1,t,h,hs=>by
  have hb:=mx_le (f:=tdD d) (B:=d) (tpA t) 0 oM oM fun w _=>tdD_b d w
  exact pu mdL (fun e=>[sl (Tp.cs_len (tpA t)),lp (S.mk [(0,.v (.agg (tpL t))),(1,.lp 1 0),(2,vI6 0),(3,vI6 0),(6,.lp 1 2),(7,vL 9 (Tp.cs (tpA t))),(8,vI6 ((tpA t).length:Int)),(9,vI6 0)] [(1,tpV t)] e) (@tdA (t) ((tdD d)) (fun w hw=>td_ok d w (by have:=tp_bulk t; have:=Tp.mem hw; omega) oM) (0) (e) (by have:=tp_bulk t; have:=Tp.bulk (tpA t); omega)) xr,ai (IntKind.wrap .i64 (tdA_f (tdD d) (tpA t) 0+1)) (tdA_f (tdD d) (tpA t) 0+1) (wrap64 oM oM)]) func121
def tdF(t:Tp):Int:=tdD (bulkPs (tpL t)+1) t
theorem tdT(t:Tp)(hs:bulkPs (tpL t)<=100000000):Pu 121 [.agg (tpL t)] (.ret (.int .i64 (tdF t))):=td_ok _ t oM oM
theorem tfA_e(ff:Tp->Int):∀l:List Tp,(frE ff l=0->tfA_f ff l = .e1)/\(¬frE ff l=0->∃w,tfA_f ff l = .e0 w/\ff w=frE ff l)
 | []=>⟨fun _=>rfl,fun h=>absurd rfl h⟩
 | x::r=>by
  have ih:=tfA_e ff r
  by_cases h:ff x=0
  ·simp only [frE,tfA_f,h,if_true]; exact ih
  ·simp only [frE,tfA_f,h,if_false]; exact ⟨fun h'=>h'.elim,fun _=>⟨x,rfl,rfl⟩⟩
abbrev tfS(t:Tp)(v:Int)(xe:Ext):S:=⟨[(2,.v (.int .i64 v)),(90,.v (.sl 9 (Tp.cs (tpA t)))),(91,.v (.int .i64 (tpA t).length))],[],xe⟩
theorem tfT(t:Tp)(xe:Ext)(ff:Tp->Int)(hwk:∀w:Tp,w∈tpA t->Pu 122 [.agg (tpL w)] (.ret (.int .i64 (ff w))))(hN:(tpA t).length<=1000000000)(hx:frE ff (tpA t)=0):(Ob.loop 102 (loopF f122 0) (tfA_I t xe ff 0) (.exit 0) (tfS t 0 xe)).ok prog:=
 tfA_1 t xe ff hwk hN ((tfA_e ff (tpA t)).1 hx)
theorem tfF(t:Tp)(xe:Ext)(ff:Tp->Int)(hwk:∀w:Tp,w∈tpA t->Pu 122 [.agg (tpL w)] (.ret (.int .i64 (ff w))))(hN:(tpA t).length<=1000000000)(hx:¬frE ff (tpA t)=0):(Ob.loop 102 (loopF f122 0) (tfA_I t xe ff 0) .ret (tfS t (frE ff (tpA t)) xe)).ok prog:=by
 obtain ⟨w,h1,h2⟩:=(tfA_e ff (tpA t)).2 hx
 have:=tfA_0 t xe ff hwk hN w h1
 rw [<-h2]
 exact this
abbrev fm1I(t:Tp)(xe:Ext):S:=⟨[(1,.lp 1 0),(2,.v (.int .i64 0))],[(1,tpV t)],xe⟩
abbrev fm2I(t:Tp)(nmd:Bool)(xe:Ext):S:=⟨[(1,.lp 1 0),(2,.v (.int .i64 0)),(3,.v (.bool nmd))],[(1,tpV t)],xe⟩
abbrev fmI(t:Tp)(nmd cmp:Bool)(xe:Ext):S:=⟨[(1,.lp 1 0),(2,.v (.int .i64 0)),(3,.v (.bool nmd)),(4,.v (.bool cmp))],[(1,tpV t)],xe⟩
theorem fm1_1(t:Tp)(xe:Ext)(hx0:tpO t=4)(cx:Cx)(hcx:cx.n=102){Q:PExit->S->Prop}(hq:Q (.normal) (S.mk [(1,.lp 1 0),(2,vI6 0),(3,.v (.bool true))] [(1,tpV t)] xe)):PW prog cx (regF f122 1) (fm1I t xe) Q:=
 pw mdL 102 [rp 4 (et1 hx0)] [1,2,3] [1] hcx hq
theorem fm1_2(t:Tp)(xe:Ext)(hx0:¬tpO t=4)(cx:Cx)(hcx:cx.n=102){Q:PExit->S->Prop}(hq:Q (.normal) (S.mk [(1,.lp 1 0),(2,vI6 0),(3,.v (.bool (tpO t==5)))] [(1,tpV t)] xe)):PW prog cx (regF f122 1) (fm1I t xe) Q:=
 pw mdL 102 [rp 4 (en1 hx0)] [1,2,3] [1] hcx hq
def fm1_v3(t:Tp):Bool:=(if tpO t=4 then (true) else ((tpO t==5)))
theorem fm1J(t:Tp)(xe:Ext):(Ob.frag 102 (regF f122 1) (fm1I t xe) (.normal) (S.mk [(1,.lp 1 0),(2,vI6 0),(3,.v (.bool (fm1_v3 t)))] [(1,tpV t)] xe)).ok prog:=by
 intro cx hcx
 by_cases g0:tpO t=4
 ·exact fm1_1 t xe g0 cx hcx ⟨rfl,by rw [show fm1_v3 t=(true) by unfold fm1_v3; rw [iP g0]]⟩
 ·exact fm1_2 t xe g0 cx hcx ⟨rfl,by rw [show fm1_v3 t=((tpO t==5)) by unfold fm1_v3; rw [iN g0]]⟩
theorem fm2_1(t:Tp)(nmd:Bool)(xe:Ext)(hx0:tpO t=4)(cx:Cx)(hcx:cx.n=102){Q:PExit->S->Prop}(hq:Q (.normal) (S.mk [(1,.lp 1 0),(2,vI6 0),(3,.v (.bool nmd)),(4,.v (.bool true))] [(1,tpV t)] xe)):PW prog cx (regF f122 2) (fm2I t nmd xe) Q:=
 pw mdL 102 [rp 4 (et1 hx0)] [1,2,3,4] [1] hcx hq
theorem fm2_2(t:Tp)(nmd:Bool)(xe:Ext)(hx0:¬tpO t=4)(cx:Cx)(hcx:cx.n=102){Q:PExit->S->Prop}(hq:Q (.normal) (S.mk [(1,.lp 1 0),(2,vI6 0),(3,.v (.bool nmd)),(4,.v (.bool (tpO t==6)))] [(1,tpV t)] xe)):PW prog cx (regF f122 2) (fm2I t nmd xe) Q:=
 pw mdL 102 [rp 4 (en1 hx0)] [1,2,3,4] [1] hcx hq
def fm2_v4(t:Tp)(nmd:Bool):Bool:=(if tpO t=4 then (true) else ((tpO t==6)))
theorem fm2J(t:Tp)(nmd:Bool)(xe:Ext):(Ob.frag 102 (regF f122 2) (fm2I t nmd xe) (.normal) (S.mk [(1,.lp 1 0),(2,vI6 0),(3,.v (.bool nmd)),(4,.v (.bool (fm2_v4 t nmd)))] [(1,tpV t)] xe)).ok prog:=by
 intro cx hcx
 by_cases g0:tpO t=4
 ·exact fm2_1 t nmd xe g0 cx hcx ⟨rfl,by rw [show fm2_v4 t nmd=(true) by unfold fm2_v4; rw [iP g0]]⟩
 ·exact fm2_2 t nmd xe g0 cx hcx ⟨rfl,by rw [show fm2_v4 t nmd=((tpO t==6)) by unfold fm2_v4; rw [iN g0]]⟩
section
variable (t:Tp) (nmd cmp:Bool) (xe:Ext)
include t nmd cmp xe
theorem fm3_1(hx0:tpO t<1)(cx:Cx)(hcx:cx.n=102){Q:PExit->S->Prop}(hq:Q (.normal) (S.mk [(1,.lp 1 0),(2,vI6 0),(3,.v (.bool nmd)),(4,.v (.bool cmp)),(63,.v (.bool true))] [(1,tpV t)] xe)):PW prog cx (regF f122 3) (fmI t nmd cmp xe) Q:=
 pw mdL 102 [rp 4 (dt1 hx0),rp 20 (bt true)] [1,2,3,4,63] [1] hcx hq
theorem fm3_2(hx0:¬tpO t<1)(hx1:tpO t>6)(cx:Cx)(hcx:cx.n=102){Q:PExit->S->Prop}(hq:Q (.normal) (S.mk [(1,.lp 1 0),(2,vI6 0),(3,.v (.bool nmd)),(4,.v (.bool cmp)),(63,.v (.bool true))] [(1,tpV t)] xe)):PW prog cx (regF f122 3) (fmI t nmd cmp xe) Q:=
 pw mdL 102 [rp 4 (df1 hx0),rp 6 (dt1 hx1),rp 14 (bt true)] [1,2,3,4,63] [1] hcx hq
theorem fm3_3(hx0:¬tpO t<1)(hx1:¬tpO t>6)(hx2:¬tpNm t=ByteArray.mk #[])(hx3:nmd=false)(cx:Cx)(hcx:cx.n=102){Q:PExit->S->Prop}(hq:Q (.normal) (S.mk [(1,.lp 1 0),(2,vI6 0),(3,.v (.bool nmd)),(4,.v (.bool cmp)),(63,.v (.bool true))] [(1,tpV t)] xe)):PW prog cx (regF f122 3) (fmI t nmd cmp xe) Q:=
 pw mdL 102 [rp 4 (df1 hx0),rp 4 (df1 hx1),rp 2 (bt (!ByteArray.toList (tpNm t)==ByteArray.toList nm0) (bnT (bsF hx2))),df1 hx1,bt (!ByteArray.toList (tpNm t)==ByteArray.toList nm0) (bnT (bsF hx2)),df1 hx1,rp 7 (bt1 (bnT hx3)),rp 7 (bt true)] [1,2,3,4,63] [1] hcx hq
theorem fm3_4(hx0:¬tpO t<1)(hx1:¬tpO t>6)(hx2:¬tpNm t=ByteArray.mk #[])(hx3:nmd=true)(hx4:((tpA t).length:Int)>0)(hx5:cmp=false)(cx:Cx)(hcx:cx.n=102){Q:PExit->S->Prop}(hq:Q (.normal) (S.mk [(1,.lp 1 0),(2,vI6 0),(3,.v (.bool nmd)),(4,.v (.bool cmp)),(63,.v (.bool true))] [(1,tpV t)] xe)):PW prog cx (regF f122 3) (fmI t nmd cmp xe) Q:=
 pw mdL 102 [rp 4 (df1 hx0),rp 4 (df1 hx1),rp 2 (bt (!ByteArray.toList (tpNm t)==ByteArray.toList nm0) (bnT (bsF hx2))),df1 hx1,bt (!ByteArray.toList (tpNm t)==ByteArray.toList nm0) (bnT (bsF hx2)),df1 hx1,rp 3 (bf1 (bnF hx3)),sl (Tp.cs_len (tpA t)),rp 2 (bf1 (bnF hx3)),rp 2 (dt1 hx4),bf1 (bnF hx3),dt1 hx4,bf1 (bnF hx3),rp 7 (bt1 (bnT hx5))] [1,2,3,4,63] [1] hcx hq
theorem fm3_5(hx0:¬tpO t<1)(hx1:¬tpO t>6)(hx2:¬tpNm t=ByteArray.mk #[])(hx3:nmd=true)(hx4:((tpA t).length:Int)>0)(hx5:cmp=true)(hx6:((tpNs t).length:Int)>0)(cx:Cx)(hcx:cx.n=102){Q:PExit->S->Prop}(hq:Q (.normal) (S.mk [(1,.lp 1 0),(2,vI6 0),(3,.v (.bool nmd)),(4,.v (.bool cmp)),(63,.v (.bool (tpO t != 6)))] [(1,tpV t)] xe)):PW prog cx (regF f122 3) (fmI t nmd cmp xe) Q:=
 pw mdL 102 [rp 4 (df1 hx0),rp 4 (df1 hx1),rp 2 (bt (!ByteArray.toList (tpNm t)==ByteArray.toList nm0) (bnT (bsF hx2))),df1 hx1,bt (!ByteArray.toList (tpNm t)==ByteArray.toList nm0) (bnT (bsF hx2)),df1 hx1,rp 3 (bf1 (bnF hx3)),sl (Tp.cs_len (tpA t)),rp 2 (bf1 (bnF hx3)),rp 2 (dt1 hx4),bf1 (bnF hx3),dt1 hx4,bf1 (bnF hx3),rp 3 (bf1 (bnF hx5)),sl (nmsC_len (tpNs t)),rp 2 (bf1 (bnF hx5)),rp 3 (dt1 hx6),bf1 (bnF hx5),dt1 hx6,bf1 (bnF hx5)] [1,2,3,4,63] [1] hcx hq
theorem fm3_6(hx0:¬tpO t<1)(hx1:¬tpO t>6)(hx2:¬tpNm t=ByteArray.mk #[])(hx3:nmd=true)(hx4:((tpA t).length:Int)>0)(hx5:cmp=true)(hx6:¬((tpNs t).length:Int)>0)(cx:Cx)(hcx:cx.n=102){Q:PExit->S->Prop}(hq:Q (.normal) (S.mk [(1,.lp 1 0),(2,vI6 0),(3,.v (.bool nmd)),(4,.v (.bool cmp)),(63,.v (.bool false))] [(1,tpV t)] xe)):PW prog cx (regF f122 3) (fmI t nmd cmp xe) Q:=
 pw mdL 102 [rp 4 (df1 hx0),rp 4 (df1 hx1),rp 2 (bt (!ByteArray.toList (tpNm t)==ByteArray.toList nm0) (bnT (bsF hx2))),df1 hx1,bt (!ByteArray.toList (tpNm t)==ByteArray.toList nm0) (bnT (bsF hx2)),df1 hx1,rp 3 (bf1 (bnF hx3)),sl (Tp.cs_len (tpA t)),rp 2 (bf1 (bnF hx3)),rp 2 (dt1 hx4),bf1 (bnF hx3),dt1 hx4,bf1 (bnF hx3),rp 3 (bf1 (bnF hx5)),sl (nmsC_len (tpNs t)),rp 2 (bf1 (bnF hx5)),rp 3 (df1 hx6),bf1 (bnF hx5),df1 hx6,bf1 (bnF hx5)] [1,2,3,4,63] [1] hcx hq
theorem fm3_7(hx0:¬tpO t<1)(hx1:¬tpO t>6)(hx2:¬tpNm t=ByteArray.mk #[])(hx3:nmd=true)(hx4:¬((tpA t).length:Int)>0)(hx5:((tpNs t).length:Int)>0)(cx:Cx)(hcx:cx.n=102){Q:PExit->S->Prop}(hq:Q (.normal) (S.mk [(1,.lp 1 0),(2,vI6 0),(3,.v (.bool nmd)),(4,.v (.bool cmp)),(63,.v (.bool (tpO t != 6)))] [(1,tpV t)] xe)):PW prog cx (regF f122 3) (fmI t nmd cmp xe) Q:=
 pw mdL 102 [rp 4 (df1 hx0),rp 4 (df1 hx1),rp 2 (bt (!ByteArray.toList (tpNm t)==ByteArray.toList nm0) (bnT (bsF hx2))),df1 hx1,bt (!ByteArray.toList (tpNm t)==ByteArray.toList nm0) (bnT (bsF hx2)),df1 hx1,rp 3 (bf1 (bnF hx3)),sl (Tp.cs_len (tpA t)),rp 2 (bf1 (bnF hx3)),rp 2 (df1 hx4),bf1 (bnF hx3),df1 hx4,bf1 (bnF hx3),rp 3 (bf false),sl (nmsC_len (tpNs t)),rp 2 (bf false),rp 3 (dt1 hx5),bf false,dt1 hx5,bf false] [1,2,3,4,63] [1] hcx hq
theorem fm3_8(hx0:¬tpO t<1)(hx1:¬tpO t>6)(hx2:¬tpNm t=ByteArray.mk #[])(hx3:nmd=true)(hx4:¬((tpA t).length:Int)>0)(hx5:¬((tpNs t).length:Int)>0)(cx:Cx)(hcx:cx.n=102){Q:PExit->S->Prop}(hq:Q (.normal) (S.mk [(1,.lp 1 0),(2,vI6 0),(3,.v (.bool nmd)),(4,.v (.bool cmp)),(63,.v (.bool false))] [(1,tpV t)] xe)):PW prog cx (regF f122 3) (fmI t nmd cmp xe) Q:=
 pw mdL 102 [rp 4 (df1 hx0),rp 4 (df1 hx1),rp 2 (bt (!ByteArray.toList (tpNm t)==ByteArray.toList nm0) (bnT (bsF hx2))),df1 hx1,bt (!ByteArray.toList (tpNm t)==ByteArray.toList nm0) (bnT (bsF hx2)),df1 hx1,rp 3 (bf1 (bnF hx3)),sl (Tp.cs_len (tpA t)),rp 2 (bf1 (bnF hx3)),rp 2 (df1 hx4),bf1 (bnF hx3),df1 hx4,bf1 (bnF hx3),rp 3 (bf false),sl (nmsC_len (tpNs t)),rp 2 (bf false),rp 3 (df1 hx5),bf false,df1 hx5,bf false] [1,2,3,4,63] [1] hcx hq
theorem fm3_9(hx0:¬tpO t<1)(hx1:¬tpO t>6)(hx2:tpNm t=ByteArray.mk #[])(hx3:((tpA t).length:Int)>0)(hx4:cmp=false)(cx:Cx)(hcx:cx.n=102){Q:PExit->S->Prop}(hq:Q (.normal) (S.mk [(1,.lp 1 0),(2,vI6 0),(3,.v (.bool nmd)),(4,.v (.bool cmp)),(63,.v (.bool true))] [(1,tpV t)] xe)):PW prog cx (regF f122 3) (fmI t nmd cmp xe) Q:=
 pw mdL 102 [rp 4 (df1 hx0),rp 4 (df1 hx1),rp 2 (bf (!ByteArray.toList (tpNm t)==ByteArray.toList nm0) (bnF (bsT hx2))),df1 hx1,bf (!ByteArray.toList (tpNm t)==ByteArray.toList nm0) (bnF (bsT hx2)),df1 hx1,rp 3 (bf false),sl (Tp.cs_len (tpA t)),rp 2 (bf false),rp 2 (dt1 hx3),bf false,dt1 hx3,bf false,rp 7 (bt1 (bnT hx4))] [1,2,3,4,63] [1] hcx hq
theorem fm3_10(hx0:¬tpO t<1)(hx1:¬tpO t>6)(hx2:tpNm t=ByteArray.mk #[])(hx3:((tpA t).length:Int)>0)(hx4:cmp=true)(hx5:((tpNs t).length:Int)>0)(cx:Cx)(hcx:cx.n=102){Q:PExit->S->Prop}(hq:Q (.normal) (S.mk [(1,.lp 1 0),(2,vI6 0),(3,.v (.bool nmd)),(4,.v (.bool cmp)),(63,.v (.bool (tpO t != 6)))] [(1,tpV t)] xe)):PW prog cx (regF f122 3) (fmI t nmd cmp xe) Q:=
 pw mdL 102 [rp 4 (df1 hx0),rp 4 (df1 hx1),rp 2 (bf (!ByteArray.toList (tpNm t)==ByteArray.toList nm0) (bnF (bsT hx2))),df1 hx1,bf (!ByteArray.toList (tpNm t)==ByteArray.toList nm0) (bnF (bsT hx2)),df1 hx1,rp 3 (bf false),sl (Tp.cs_len (tpA t)),rp 2 (bf false),rp 2 (dt1 hx3),bf false,dt1 hx3,bf false,rp 3 (bf1 (bnF hx4)),sl (nmsC_len (tpNs t)),rp 2 (bf1 (bnF hx4)),rp 3 (dt1 hx5),bf1 (bnF hx4),dt1 hx5,bf1 (bnF hx4)] [1,2,3,4,63] [1] hcx hq
theorem fm3_11(hx0:¬tpO t<1)(hx1:¬tpO t>6)(hx2:tpNm t=ByteArray.mk #[])(hx3:((tpA t).length:Int)>0)(hx4:cmp=true)(hx5:¬((tpNs t).length:Int)>0)(cx:Cx)(hcx:cx.n=102){Q:PExit->S->Prop}(hq:Q (.normal) (S.mk [(1,.lp 1 0),(2,vI6 0),(3,.v (.bool nmd)),(4,.v (.bool cmp)),(63,.v (.bool false))] [(1,tpV t)] xe)):PW prog cx (regF f122 3) (fmI t nmd cmp xe) Q:=
 pw mdL 102 [rp 4 (df1 hx0),rp 4 (df1 hx1),rp 2 (bf (!ByteArray.toList (tpNm t)==ByteArray.toList nm0) (bnF (bsT hx2))),df1 hx1,bf (!ByteArray.toList (tpNm t)==ByteArray.toList nm0) (bnF (bsT hx2)),df1 hx1,rp 3 (bf false),sl (Tp.cs_len (tpA t)),rp 2 (bf false),rp 2 (dt1 hx3),bf false,dt1 hx3,bf false,rp 3 (bf1 (bnF hx4)),sl (nmsC_len (tpNs t)),rp 2 (bf1 (bnF hx4)),rp 3 (df1 hx5),bf1 (bnF hx4),df1 hx5,bf1 (bnF hx4)] [1,2,3,4,63] [1] hcx hq
theorem fm3_12(hx0:¬tpO t<1)(hx1:¬tpO t>6)(hx2:tpNm t=ByteArray.mk #[])(hx3:¬((tpA t).length:Int)>0)(hx4:((tpNs t).length:Int)>0)(cx:Cx)(hcx:cx.n=102){Q:PExit->S->Prop}(hq:Q (.normal) (S.mk [(1,.lp 1 0),(2,vI6 0),(3,.v (.bool nmd)),(4,.v (.bool cmp)),(63,.v (.bool (tpO t != 6)))] [(1,tpV t)] xe)):PW prog cx (regF f122 3) (fmI t nmd cmp xe) Q:=
 pw mdL 102 [rp 4 (df1 hx0),rp 4 (df1 hx1),rp 2 (bf (!ByteArray.toList (tpNm t)==ByteArray.toList nm0) (bnF (bsT hx2))),df1 hx1,bf (!ByteArray.toList (tpNm t)==ByteArray.toList nm0) (bnF (bsT hx2)),df1 hx1,rp 3 (bf false),sl (Tp.cs_len (tpA t)),rp 2 (bf false),rp 2 (df1 hx3),bf false,df1 hx3,rp 4 (bf false),sl (nmsC_len (tpNs t)),rp 2 (bf false),rp 3 (dt1 hx4),bf false,dt1 hx4,bf false] [1,2,3,4,63] [1] hcx hq
theorem fm3_13(hx0:¬tpO t<1)(hx1:¬tpO t>6)(hx2:tpNm t=ByteArray.mk #[])(hx3:¬((tpA t).length:Int)>0)(hx4:¬((tpNs t).length:Int)>0)(cx:Cx)(hcx:cx.n=102){Q:PExit->S->Prop}(hq:Q (.normal) (S.mk [(1,.lp 1 0),(2,vI6 0),(3,.v (.bool nmd)),(4,.v (.bool cmp)),(63,.v (.bool false))] [(1,tpV t)] xe)):PW prog cx (regF f122 3) (fmI t nmd cmp xe) Q:=
 pw mdL 102 [rp 4 (df1 hx0),rp 4 (df1 hx1),rp 2 (bf (!ByteArray.toList (tpNm t)==ByteArray.toList nm0) (bnF (bsT hx2))),df1 hx1,bf (!ByteArray.toList (tpNm t)==ByteArray.toList nm0) (bnF (bsT hx2)),df1 hx1,rp 3 (bf false),sl (Tp.cs_len (tpA t)),rp 2 (bf false),rp 2 (df1 hx3),bf false,df1 hx3,rp 4 (bf false),sl (nmsC_len (tpNs t)),rp 2 (bf false),rp 3 (df1 hx4),bf false,df1 hx4,bf false] [1,2,3,4,63] [1] hcx hq
end
def fm3_v63(t:Tp)(nmd cmp:Bool):Bool:=(if tpO t<1 then (true) else (if tpO t>6 then (true) else (if tpNm t=ByteArray.mk #[] then (if ((tpA t).length:Int)>0 then (if cmp=true then (if ((tpNs t).length:Int)>0 then ((tpO t != 6)) else (false)) else (true)) else (if ((tpNs t).length:Int)>0 then ((tpO t != 6)) else (false))) else (if nmd=true then (if ((tpA t).length:Int)>0 then (if cmp=true then (if ((tpNs t).length:Int)>0 then ((tpO t != 6)) else (false)) else (true)) else (if ((tpNs t).length:Int)>0 then ((tpO t != 6)) else (false))) else (true)))))
theorem fm3J(t:Tp)(nmd cmp:Bool)(xe:Ext):(Ob.frag 102 (regF f122 3) (fmI t nmd cmp xe) (.normal) (S.mk [(1,.lp 1 0),(2,vI6 0),(3,.v (.bool nmd)),(4,.v (.bool cmp)),(63,.v (.bool (fm3_v63 t nmd cmp)))] [(1,tpV t)] xe)).ok prog:=by
 intro cx hcx
 by_cases g0:tpO t<1
 ·exact fm3_1 t nmd cmp xe g0 cx hcx ⟨rfl,by rw [show fm3_v63 t nmd cmp=(true) by unfold fm3_v63; rw [iP g0]]⟩
 ·by_cases g1:tpO t>6
  ·exact fm3_2 t nmd cmp xe g0 g1 cx hcx ⟨rfl,by rw [show fm3_v63 t nmd cmp=(true) by unfold fm3_v63; rw [iN g0,iP g1]]⟩
  ·by_cases g2:tpNm t=ByteArray.mk #[]
   ·by_cases g3:((tpA t).length:Int)>0
    ·by_cases g4:cmp=true
     ·by_cases g5:((tpNs t).length:Int)>0
      ·exact fm3_10 t nmd cmp xe g0 g1 g2 g3 g4 g5 cx hcx ⟨rfl,by rw [show fm3_v63 t nmd cmp=((tpO t != 6)) by unfold fm3_v63; rw [iN g0,iN g1,iP g2,iP g3,iP g4,iP g5]]⟩
      ·exact fm3_11 t nmd cmp xe g0 g1 g2 g3 g4 g5 cx hcx ⟨rfl,by rw [show fm3_v63 t nmd cmp=(false) by unfold fm3_v63; rw [iN g0,iN g1,iP g2,iP g3,iP g4,iN g5]]⟩
     ·exact fm3_9 t nmd cmp xe g0 g1 g2 g3 (Bool.eq_false_iff.2 g4) cx hcx ⟨rfl,by rw [show fm3_v63 t nmd cmp=(true) by unfold fm3_v63; rw [iN g0,iN g1,iP g2,iP g3,iN g4]]⟩
    ·by_cases g4:((tpNs t).length:Int)>0
     ·exact fm3_12 t nmd cmp xe g0 g1 g2 g3 g4 cx hcx ⟨rfl,by rw [show fm3_v63 t nmd cmp=((tpO t != 6)) by unfold fm3_v63; rw [iN g0,iN g1,iP g2,iN g3,iP g4]]⟩
     ·exact fm3_13 t nmd cmp xe g0 g1 g2 g3 g4 cx hcx ⟨rfl,by rw [show fm3_v63 t nmd cmp=(false) by unfold fm3_v63; rw [iN g0,iN g1,iP g2,iN g3,iN g4]]⟩
   ·by_cases g3:nmd=true
    ·by_cases g4:((tpA t).length:Int)>0
     ·by_cases g5:cmp=true
      ·by_cases g6:((tpNs t).length:Int)>0
       ·exact fm3_5 t nmd cmp xe g0 g1 g2 g3 g4 g5 g6 cx hcx ⟨rfl,by rw [show fm3_v63 t nmd cmp=((tpO t != 6)) by unfold fm3_v63; rw [iN g0,iN g1,iN g2,iP g3,iP g4,iP g5,iP g6]]⟩
       ·exact fm3_6 t nmd cmp xe g0 g1 g2 g3 g4 g5 g6 cx hcx ⟨rfl,by rw [show fm3_v63 t nmd cmp=(false) by unfold fm3_v63; rw [iN g0,iN g1,iN g2,iP g3,iP g4,iP g5,iN g6]]⟩
      ·exact fm3_4 t nmd cmp xe g0 g1 g2 g3 g4 (Bool.eq_false_iff.2 g5) cx hcx ⟨rfl,by rw [show fm3_v63 t nmd cmp=(true) by unfold fm3_v63; rw [iN g0,iN g1,iN g2,iP g3,iP g4,iN g5]]⟩
     ·by_cases g5:((tpNs t).length:Int)>0
      ·exact fm3_7 t nmd cmp xe g0 g1 g2 g3 g4 g5 cx hcx ⟨rfl,by rw [show fm3_v63 t nmd cmp=((tpO t != 6)) by unfold fm3_v63; rw [iN g0,iN g1,iN g2,iP g3,iN g4,iP g5]]⟩
      ·exact fm3_8 t nmd cmp xe g0 g1 g2 g3 g4 g5 cx hcx ⟨rfl,by rw [show fm3_v63 t nmd cmp=(false) by unfold fm3_v63; rw [iN g0,iN g1,iN g2,iP g3,iN g4,iN g5]]⟩
    ·exact fm3_3 t nmd cmp xe g0 g1 g2 (Bool.eq_false_iff.2 g3) cx hcx ⟨rfl,by rw [show fm3_v63 t nmd cmp=(true) by unfold fm3_v63; rw [iN g0,iN g1,iN g2,iN g3]]⟩
section
variable (t:Tp) (xe:Ext) (hn:erN (coreB (tpNm t))=0)
include t xe hn
theorem fm11_1(hx0:(↑(UInt8.toNat (List.getD (Array.toList (ByteArray.data (tpNm t))) 0 default)):Int)>=65)(cx:Cx)(hcx:cx.n=102){Q:PExit->S->Prop}(hq:Q (.normal) (S.mk [(1,.lp 1 0),(2,vI6 0),(6,.v (.bool (decide ((↑(UInt8.toNat (List.getD (Array.toList (ByteArray.data (tpNm t))) 0 default)):Int)<=90))))] [(1,tpV t)] xe)):PW prog cx (regF f122 11) (fm1I t xe) Q:=
 pw mdL 102 [am ((0:Int)<=0/\0<(↑(ByteArray.size (tpNm t)):Int)) (by (apply core_pos <;> first | assumption | omega | decide)),av (.v (.int .u8 (↑(UInt8.toNat (List.getD (Array.toList (ByteArray.data (tpNm t))) (Int.toNat 0) default)):Int))) (.v (.int .u8 (↑(UInt8.toNat (List.getD (Array.toList (ByteArray.data (tpNm t))) 0 default)):Int))) rF,rp 3 (dt1 hx0),am ((0:Int)<=0/\0<(↑(ByteArray.size (tpNm t)):Int)) (by (apply core_pos <;> first | assumption | omega | decide)),av (.v (.int .u8 (↑(UInt8.toNat (List.getD (Array.toList (ByteArray.data (tpNm t))) (Int.toNat 0) default)):Int))) (.v (.int .u8 (↑(UInt8.toNat (List.getD (Array.toList (ByteArray.data (tpNm t))) 0 default)):Int))) rF,rp 2 (dt1 hx0)] [1,2,6] [1] hcx hq
theorem fm11_2(hx0:¬(↑(UInt8.toNat (List.getD (Array.toList (ByteArray.data (tpNm t))) 0 default)):Int)>=65)(cx:Cx)(hcx:cx.n=102){Q:PExit->S->Prop}(hq:Q (.normal) (S.mk [(1,.lp 1 0),(2,vI6 0),(6,.v (.bool false))] [(1,tpV t)] xe)):PW prog cx (regF f122 11) (fm1I t xe) Q:=
 pw mdL 102 [am ((0:Int)<=0/\0<(↑(ByteArray.size (tpNm t)):Int)) (by (apply core_pos <;> first | assumption | omega | decide)),av (.v (.int .u8 (↑(UInt8.toNat (List.getD (Array.toList (ByteArray.data (tpNm t))) (Int.toNat 0) default)):Int))) (.v (.int .u8 (↑(UInt8.toNat (List.getD (Array.toList (ByteArray.data (tpNm t))) 0 default)):Int))) rF,rp 5 (df1 hx0)] [1,2,6] [1] hcx hq
end
def fm11_v6(t:Tp):Bool:=(if (↑(UInt8.toNat (List.getD (Array.toList (ByteArray.data (tpNm t))) 0 default)):Int)>=65 then ((decide ((↑(UInt8.toNat (List.getD (Array.toList (ByteArray.data (tpNm t))) 0 default)):Int)<=90))) else (false))
theorem fm11J(t:Tp)(xe:Ext)(hn:erN (coreB (tpNm t))=0):(Ob.frag 102 (regF f122 11) (fm1I t xe) (.normal) (S.mk [(1,.lp 1 0),(2,vI6 0),(6,.v (.bool (fm11_v6 t)))] [(1,tpV t)] xe)).ok prog:=by
 intro cx hcx
 by_cases g0:(↑(UInt8.toNat (List.getD (Array.toList (ByteArray.data (tpNm t))) 0 default)):Int)>=65
 ·exact fm11_1 t xe hn g0 cx hcx ⟨rfl,by rw [show fm11_v6 t=((decide ((↑(UInt8.toNat (List.getD (Array.toList (ByteArray.data (tpNm t))) 0 default)):Int)<=90))) by unfold fm11_v6; rw [iP g0]]⟩
 ·exact fm11_2 t xe hn g0 cx hcx ⟨rfl,by rw [show fm11_v6 t=(false) by unfold fm11_v6; rw [iN g0]]⟩
def mdF:Md:=⟨fun _=>some false,fun t=>t==1000001||t==1000002||t==1000003||t==1000011⟩
def sFm_r0(t:Tp)(ff:Tp->Int):Int:=(if fm3_v63 t (fm1_v3 t) (fm2_v4 t (fm1_v3 t))=true then 1 else (if arE t=0 then (if fm1_v3 t=true then (if erN (coreB (tpNm t))=0 then (if (if false=true then fm11_v6 t==(tpO t==4) else !fm11_v6 t==(tpO t==4))=true then 3 else (if frE ff (tpA t)=0 then 0 else (frE ff (tpA t)))) else 3) else (if frE ff (tpA t)=0 then 0 else (frE ff (tpA t)))) else (arE t)))
theorem sFm(t:Tp)(ff:Tp->Int)(hwk:∀w:Tp,w∈tpA t->Pu 122 [.agg (tpL w)] (.ret (.int .i64 (ff w))))(hN0:(tpA t).length<=1000000000):Pu 122 [.agg (tpL t)] (rI (sFm_r0 t ff)):=by
 by_cases h0:fm3_v63 t (fm1_v3 t) (fm2_v4 t (fm1_v3 t))=true
 ·simp only [sFm_r0,iP h0]; exact pu mdF (fun e=>[lf (S.mk [(0,.v (.agg (tpL t))),(1,.lp 1 0),(2,vI6 0)] [(1,tpV t)] e) (@fm1J (t) (e)) ⟨⟨W,W,tVv⟩,⟨⟨W,W,W,W,W,W,W,W,W,tVv⟩,tVv⟩,rfl⟩,lf (S.mk [(1,.lp 1 0),(2,vI6 0),(3,.v (.bool (fm1_v3 t)))] [(1,tpV t)] e) (@fm2J (t) (fm1_v3 t) (e)) ⟨⟨W,W,W,tVv⟩,⟨⟨W,W,W,W,W,W,W,W,W,tVv⟩,tVv⟩,rfl⟩,lf (S.mk [(1,.lp 1 0),(2,vI6 0),(3,.v (.bool (fm1_v3 t))),(4,.v (.bool (fm2_v4 t (fm1_v3 t))))] [(1,tpV t)] e) (@fm3J (t) (fm1_v3 t) (fm2_v4 t (fm1_v3 t)) (e)) ⟨⟨W,W,W,W,tVv⟩,⟨⟨W,W,W,W,W,W,W,W,W,tVv⟩,tVv⟩,rfl⟩,bt1 h0]) func122
 ·by_cases h1:arE t=0
  ·by_cases h2:fm1_v3 t=true
   ·by_cases h3:erN (coreB (tpNm t))=0
    ·by_cases h4:(if false=true then fm11_v6 t==(tpO t==4) else !fm11_v6 t==(tpO t==4))=true
     ·simp only [sFm_r0,iN h0,iP h1,iP h2,iP h3,iP h4]; exact pu mdF (fun e=>[lf (S.mk [(0,.v (.agg (tpL t))),(1,.lp 1 0),(2,vI6 0)] [(1,tpV t)] e) (@fm1J (t) (e)) ⟨⟨W,W,tVv⟩,⟨⟨W,W,W,W,W,W,W,W,W,tVv⟩,tVv⟩,rfl⟩,lf (S.mk [(1,.lp 1 0),(2,vI6 0),(3,.v (.bool (fm1_v3 t)))] [(1,tpV t)] e) (@fm2J (t) (fm1_v3 t) (e)) ⟨⟨W,W,W,tVv⟩,⟨⟨W,W,W,W,W,W,W,W,W,tVv⟩,tVv⟩,rfl⟩,lf (S.mk [(1,.lp 1 0),(2,vI6 0),(3,.v (.bool (fm1_v3 t))),(4,.v (.bool (fm2_v4 t (fm1_v3 t))))] [(1,tpV t)] e) (@fm3J (t) (fm1_v3 t) (fm2_v4 t (fm1_v3 t)) (e)) ⟨⟨W,W,W,W,tVv⟩,⟨⟨W,W,W,W,W,W,W,W,W,tVv⟩,tVv⟩,rfl⟩,bf1 (bFT h0),cl (@arT (t)),nn1 h1,bt1 h2,cl (@nCoT (tpNm t)),nn1 h3,lf (S.mk [(1,.lp 1 0),(2,vI6 0),(3,.v (.bool (fm1_v3 t))),(4,.v (.bool (fm2_v4 t (fm1_v3 t)))),(63,.v (.bool (fm3_v63 t (fm1_v3 t) (fm2_v4 t (fm1_v3 t))))),(64,.v (.agg (tpL t))),(65,vI6 (arE t)),(5,vI6 (arE t)),(66,vI6 (arE t)),(67,.v (.bool (arE t != 0))),(69,.v (.bool (fm1_v3 t))),(70,.lp 1 1),(71,vS (tpNm t)),(72,vI6 (erN (coreB (tpNm t)))),(73,.v (.bool (erN (coreB (tpNm t)) != 0)))] [(1,tpV t)] e) (@fm11J (t) (e) h3) ⟨⟨W,W,tVv⟩,⟨⟨W,W,W,W,W,W,W,W,W,tVv⟩,tVv⟩,rfl⟩,bt1 h4]) func122
     ·by_cases h5:frE ff (tpA t)=0
      ·simp only [sFm_r0,iN h0,iP h1,iP h2,iP h3,iN h4,iP h5]; exact pu mdF (fun e=>[lf (S.mk [(0,.v (.agg (tpL t))),(1,.lp 1 0),(2,vI6 0)] [(1,tpV t)] e) (@fm1J (t) (e)) ⟨⟨W,W,tVv⟩,⟨⟨W,W,W,W,W,W,W,W,W,tVv⟩,tVv⟩,rfl⟩,lf (S.mk [(1,.lp 1 0),(2,vI6 0),(3,.v (.bool (fm1_v3 t)))] [(1,tpV t)] e) (@fm2J (t) (fm1_v3 t) (e)) ⟨⟨W,W,W,tVv⟩,⟨⟨W,W,W,W,W,W,W,W,W,tVv⟩,tVv⟩,rfl⟩,lf (S.mk [(1,.lp 1 0),(2,vI6 0),(3,.v (.bool (fm1_v3 t))),(4,.v (.bool (fm2_v4 t (fm1_v3 t))))] [(1,tpV t)] e) (@fm3J (t) (fm1_v3 t) (fm2_v4 t (fm1_v3 t)) (e)) ⟨⟨W,W,W,W,tVv⟩,⟨⟨W,W,W,W,W,W,W,W,W,tVv⟩,tVv⟩,rfl⟩,bf1 (bFT h0),cl (@arT (t)),nn1 h1,bt1 h2,cl (@nCoT (tpNm t)),nn1 h3,lf (S.mk [(1,.lp 1 0),(2,vI6 0),(3,.v (.bool (fm1_v3 t))),(4,.v (.bool (fm2_v4 t (fm1_v3 t)))),(63,.v (.bool (fm3_v63 t (fm1_v3 t) (fm2_v4 t (fm1_v3 t))))),(64,.v (.agg (tpL t))),(65,vI6 (arE t)),(5,vI6 (arE t)),(66,vI6 (arE t)),(67,.v (.bool (arE t != 0))),(69,.v (.bool (fm1_v3 t))),(70,.lp 1 1),(71,vS (tpNm t)),(72,vI6 (erN (coreB (tpNm t)))),(73,.v (.bool (erN (coreB (tpNm t)) != 0)))] [(1,tpV t)] e) (@fm11J (t) (e) h3) ⟨⟨W,W,tVv⟩,⟨⟨W,W,W,W,W,W,W,W,W,tVv⟩,tVv⟩,rfl⟩,bf1 (bFT h4),sl (Tp.cs_len (tpA t)),lp (S.mk [(1,.lp 1 0),(2,vI6 0),(6,.v (.bool (fm11_v6 t))),(84,.v (.bool (fm11_v6 t))),(85,.lp 1 0),(86,vI6 (tpO t)),(87,.v (.bool (tpO t==4))),(88,.v (.bool (if false=true then fm11_v6 t==(tpO t==4) else !fm11_v6 t==(tpO t==4)))),(89,.lp 1 2),(90,vL 9 (Tp.cs (tpA t))),(91,vI6 ((tpA t).length:Int)),(92,vI6 0)] [(1,tpV t)] e) (@tfT (t) (e) (ff) hwk hN0 h5) xr]) func122
      ·simp only [sFm_r0,iN h0,iP h1,iP h2,iP h3,iN h4,iN h5]; exact pu mdF (fun e=>[lf (S.mk [(0,.v (.agg (tpL t))),(1,.lp 1 0),(2,vI6 0)] [(1,tpV t)] e) (@fm1J (t) (e)) ⟨⟨W,W,tVv⟩,⟨⟨W,W,W,W,W,W,W,W,W,tVv⟩,tVv⟩,rfl⟩,lf (S.mk [(1,.lp 1 0),(2,vI6 0),(3,.v (.bool (fm1_v3 t)))] [(1,tpV t)] e) (@fm2J (t) (fm1_v3 t) (e)) ⟨⟨W,W,W,tVv⟩,⟨⟨W,W,W,W,W,W,W,W,W,tVv⟩,tVv⟩,rfl⟩,lf (S.mk [(1,.lp 1 0),(2,vI6 0),(3,.v (.bool (fm1_v3 t))),(4,.v (.bool (fm2_v4 t (fm1_v3 t))))] [(1,tpV t)] e) (@fm3J (t) (fm1_v3 t) (fm2_v4 t (fm1_v3 t)) (e)) ⟨⟨W,W,W,W,tVv⟩,⟨⟨W,W,W,W,W,W,W,W,W,tVv⟩,tVv⟩,rfl⟩,bf1 (bFT h0),cl (@arT (t)),nn1 h1,bt1 h2,cl (@nCoT (tpNm t)),nn1 h3,lf (S.mk [(1,.lp 1 0),(2,vI6 0),(3,.v (.bool (fm1_v3 t))),(4,.v (.bool (fm2_v4 t (fm1_v3 t)))),(63,.v (.bool (fm3_v63 t (fm1_v3 t) (fm2_v4 t (fm1_v3 t))))),(64,.v (.agg (tpL t))),(65,vI6 (arE t)),(5,vI6 (arE t)),(66,vI6 (arE t)),(67,.v (.bool (arE t != 0))),(69,.v (.bool (fm1_v3 t))),(70,.lp 1 1),(71,vS (tpNm t)),(72,vI6 (erN (coreB (tpNm t)))),(73,.v (.bool (erN (coreB (tpNm t)) != 0)))] [(1,tpV t)] e) (@fm11J (t) (e) h3) ⟨⟨W,W,tVv⟩,⟨⟨W,W,W,W,W,W,W,W,W,tVv⟩,tVv⟩,rfl⟩,bf1 (bFT h4),sl (Tp.cs_len (tpA t)),lp (S.mk [(1,.lp 1 0),(2,vI6 0),(6,.v (.bool (fm11_v6 t))),(84,.v (.bool (fm11_v6 t))),(85,.lp 1 0),(86,vI6 (tpO t)),(87,.v (.bool (tpO t==4))),(88,.v (.bool (if false=true then fm11_v6 t==(tpO t==4) else !fm11_v6 t==(tpO t==4)))),(89,.lp 1 2),(90,vL 9 (Tp.cs (tpA t))),(91,vI6 ((tpA t).length:Int)),(92,vI6 0)] [(1,tpV t)] e) (@tfF (t) (e) (ff) hwk hN0 h5) xr]) func122
    ·simp only [sFm_r0,iN h0,iP h1,iP h2,iN h3]; exact pu mdF (fun e=>[lf (S.mk [(0,.v (.agg (tpL t))),(1,.lp 1 0),(2,vI6 0)] [(1,tpV t)] e) (@fm1J (t) (e)) ⟨⟨W,W,tVv⟩,⟨⟨W,W,W,W,W,W,W,W,W,tVv⟩,tVv⟩,rfl⟩,lf (S.mk [(1,.lp 1 0),(2,vI6 0),(3,.v (.bool (fm1_v3 t)))] [(1,tpV t)] e) (@fm2J (t) (fm1_v3 t) (e)) ⟨⟨W,W,W,tVv⟩,⟨⟨W,W,W,W,W,W,W,W,W,tVv⟩,tVv⟩,rfl⟩,lf (S.mk [(1,.lp 1 0),(2,vI6 0),(3,.v (.bool (fm1_v3 t))),(4,.v (.bool (fm2_v4 t (fm1_v3 t))))] [(1,tpV t)] e) (@fm3J (t) (fm1_v3 t) (fm2_v4 t (fm1_v3 t)) (e)) ⟨⟨W,W,W,W,tVv⟩,⟨⟨W,W,W,W,W,W,W,W,W,tVv⟩,tVv⟩,rfl⟩,bf1 (bFT h0),cl (@arT (t)),nn1 h1,bt1 h2,cl (@nCoT (tpNm t)),nt1 h3]) func122
   ·by_cases h3:frE ff (tpA t)=0
    ·simp only [sFm_r0,iN h0,iP h1,iN h2,iP h3]; exact pu mdF (fun e=>[lf (S.mk [(0,.v (.agg (tpL t))),(1,.lp 1 0),(2,vI6 0)] [(1,tpV t)] e) (@fm1J (t) (e)) ⟨⟨W,W,tVv⟩,⟨⟨W,W,W,W,W,W,W,W,W,tVv⟩,tVv⟩,rfl⟩,lf (S.mk [(1,.lp 1 0),(2,vI6 0),(3,.v (.bool (fm1_v3 t)))] [(1,tpV t)] e) (@fm2J (t) (fm1_v3 t) (e)) ⟨⟨W,W,W,tVv⟩,⟨⟨W,W,W,W,W,W,W,W,W,tVv⟩,tVv⟩,rfl⟩,lf (S.mk [(1,.lp 1 0),(2,vI6 0),(3,.v (.bool (fm1_v3 t))),(4,.v (.bool (fm2_v4 t (fm1_v3 t))))] [(1,tpV t)] e) (@fm3J (t) (fm1_v3 t) (fm2_v4 t (fm1_v3 t)) (e)) ⟨⟨W,W,W,W,tVv⟩,⟨⟨W,W,W,W,W,W,W,W,W,tVv⟩,tVv⟩,rfl⟩,bf1 (bFT h0),cl (@arT (t)),nn1 h1,bf1 (bFT h2),sl (Tp.cs_len (tpA t)),lp (S.mk [(1,.lp 1 0),(2,vI6 0),(3,.v (.bool (fm1_v3 t))),(4,.v (.bool (fm2_v4 t (fm1_v3 t)))),(63,.v (.bool (fm3_v63 t (fm1_v3 t) (fm2_v4 t (fm1_v3 t))))),(64,.v (.agg (tpL t))),(65,vI6 (arE t)),(5,vI6 (arE t)),(66,vI6 (arE t)),(67,.v (.bool (arE t != 0))),(69,.v (.bool (fm1_v3 t))),(89,.lp 1 2),(90,vL 9 (Tp.cs (tpA t))),(91,vI6 ((tpA t).length:Int)),(92,vI6 0)] [(1,tpV t)] e) (@tfT (t) (e) (ff) hwk hN0 h3) xr]) func122
    ·simp only [sFm_r0,iN h0,iP h1,iN h2,iN h3]; exact pu mdF (fun e=>[lf (S.mk [(0,.v (.agg (tpL t))),(1,.lp 1 0),(2,vI6 0)] [(1,tpV t)] e) (@fm1J (t) (e)) ⟨⟨W,W,tVv⟩,⟨⟨W,W,W,W,W,W,W,W,W,tVv⟩,tVv⟩,rfl⟩,lf (S.mk [(1,.lp 1 0),(2,vI6 0),(3,.v (.bool (fm1_v3 t)))] [(1,tpV t)] e) (@fm2J (t) (fm1_v3 t) (e)) ⟨⟨W,W,W,tVv⟩,⟨⟨W,W,W,W,W,W,W,W,W,tVv⟩,tVv⟩,rfl⟩,lf (S.mk [(1,.lp 1 0),(2,vI6 0),(3,.v (.bool (fm1_v3 t))),(4,.v (.bool (fm2_v4 t (fm1_v3 t))))] [(1,tpV t)] e) (@fm3J (t) (fm1_v3 t) (fm2_v4 t (fm1_v3 t)) (e)) ⟨⟨W,W,W,W,tVv⟩,⟨⟨W,W,W,W,W,W,W,W,W,tVv⟩,tVv⟩,rfl⟩,bf1 (bFT h0),cl (@arT (t)),nn1 h1,bf1 (bFT h2),sl (Tp.cs_len (tpA t)),lp (S.mk [(1,.lp 1 0),(2,vI6 0),(3,.v (.bool (fm1_v3 t))),(4,.v (.bool (fm2_v4 t (fm1_v3 t)))),(63,.v (.bool (fm3_v63 t (fm1_v3 t) (fm2_v4 t (fm1_v3 t))))),(64,.v (.agg (tpL t))),(65,vI6 (arE t)),(5,vI6 (arE t)),(66,vI6 (arE t)),(67,.v (.bool (arE t != 0))),(69,.v (.bool (fm1_v3 t))),(89,.lp 1 2),(90,vL 9 (Tp.cs (tpA t))),(91,vI6 ((tpA t).length:Int)),(92,vI6 0)] [(1,tpV t)] e) (@tfF (t) (e) (ff) hwk hN0 h3) xr]) func122
  ·simp only [sFm_r0,iN h0,iN h1]; exact pu mdF (fun e=>[lf (S.mk [(0,.v (.agg (tpL t))),(1,.lp 1 0),(2,vI6 0)] [(1,tpV t)] e) (@fm1J (t) (e)) ⟨⟨W,W,tVv⟩,⟨⟨W,W,W,W,W,W,W,W,W,tVv⟩,tVv⟩,rfl⟩,lf (S.mk [(1,.lp 1 0),(2,vI6 0),(3,.v (.bool (fm1_v3 t)))] [(1,tpV t)] e) (@fm2J (t) (fm1_v3 t) (e)) ⟨⟨W,W,W,tVv⟩,⟨⟨W,W,W,W,W,W,W,W,W,tVv⟩,tVv⟩,rfl⟩,lf (S.mk [(1,.lp 1 0),(2,vI6 0),(3,.v (.bool (fm1_v3 t))),(4,.v (.bool (fm2_v4 t (fm1_v3 t))))] [(1,tpV t)] e) (@fm3J (t) (fm1_v3 t) (fm2_v4 t (fm1_v3 t)) (e)) ⟨⟨W,W,W,W,tVv⟩,⟨⟨W,W,W,W,W,W,W,W,W,tVv⟩,tVv⟩,rfl⟩,bf1 (bFT h0),cl (@arT (t)),nt1 h1]) func122
def fmD:Nat->Tp->Int
 | 0,_=>0
 | d+1,t=>sFm_r0 t (fmD d)
theorem fm_ok:∀ (d:Nat) (t:Tp),bulkPs (tpL t)<d->d<=100000001->Pu 122 [.agg (tpL t)] (.ret (.int .i64 (fmD d t)))
 | 0,_,h,_=>by omega
 | d+1,t,h,hs=>sFm t (fmD d) (fun w hw=>fm_ok d w (by have:=tp_bulk t; have:=Tp.mem hw; omega) oM) (by have:=tp_bulk t; have:=Tp.bulk (tpA t); omega)
def fmF(t:Tp):Int:=fmD (bulkPs (tpL t)+1) t
theorem fmT(t:Tp)(hs:bulkPs (tpL t)<=100000000):Pu 122 [.agg (tpL t)] (.ret (.int .i64 (fmF t))):=fm_ok _ t oM oM
def tyC_r0(t:Tp):Int:=(if tdF t>40 then 8 else (fmF t))
theorem tyC(t:Tp)(hs:bulkPs (tpL t)<=100000000):Pu 70 [.agg (tpL t)] (rI (tyC_r0 t)):=by
 by_cases h0:tdF t>40
 ·simp only [tyC_r0,iP h0]; exact pm mdL [cl (@tdT (t) hs),dt1 h0] func70
 ·simp only [tyC_r0,iN h0]; exact pm mdL [cl (@tdT (t) hs),df1 h0,cl (@fmT (t) hs)] func70
def mdW:Md:=⟨fun _=>some false,fun _=>false⟩
def mks:List BA->List (BA × PV)
 | []=>[]
 | k::r=>(k,.bool true)::mks r
def memB(s:BA):List BA->Bool
 | []=>false
 | k::r=>decide (k=s)||memB s r
theorem mget_mks(s:BA):∀ks,(mget s (mks ks)).getD (.bool false) = .bool (memB s ks)
 | []=>rfl
 | k::r=>by
  by_cases h:k=s
  ·simp [mks,mget,memB,h]
  ·simp only [mks,mget,memB,h,if_false,decide_false,Bool.false_or]; exact mget_mks s r
def adN(s:BA):List BA->List BA
 | []=>[s]
 | k::r=>if k=s then k::r else k::adN s r
theorem mks_ad(s:BA):∀ks,mks (adN s ks)=mupd s (.bool true) (mks ks)
 | []=>rfl
 | k::r=>by
  by_cases h:k=s
  ·subst h; simp [adN,mks,mupd]
  ·simp only [adN,mks,mupd,h,if_false,mks_ad s r]
theorem lu_mks(s:BA)(ks:List BA):luRes false (mget s (mks ks)) (.bool false) = .bool (memB s ks):=mget_mks s ks
open Go.RowKit Go.Shelf Go.Pv
attribute [local go_sem] Oper.semAt_some
set_option maxRecDepth 100000
structure KC (W W':World):Prop where
 size:W.heap.size<=W'.heap.size
 same:∀ (k:Nat) (o:Obj),W.heap[k]?=some o->o.isCells=true->W'.heap[k]?=some o
theorem KC.refl(W:World):KC W W:=⟨Nat.le_refl _,fun _ _ h _=>h⟩
theorem KC.trans{A B C:World}(h:KC A B)(k:KC B C):KC A C:=⟨Nat.le_trans h.size k.size,fun i o hi ho=>k.same i o (h.same i o hi ho) ho⟩
theorem KC.cell{A B:World}(h:KC A B){a:Addr}{v:Value}(hc:A.cell? a=some v):B.cell? a=some v:=by
 unfold World.cell? at hc ⊢
 cases hh:A.heap[a.block]? with
 | none=>simp [hh] at hc
 | some o=>
  cases o with
  | cells cur e m=>rw [h.same _ _ hh rfl]; rw [hh] at hc; exact hc
  | _=>simp [hh] at hc
mutual
/-- The nodes of a predicate,each before its kids' nodes. -/
def nodesP:Pr->List Pr
 | .mk o s n ks => .mk o s n ks::nodesPs ks
def nodesPs:List Pr->List Pr
 | []=>[]
 | x::r=>nodesP x++nodesPs r
end
theorem nodesP_e(p:Pr):nodesP p=p::nodesPs (prK p):=by cases p; simp [nodesP,prK]
abbrev encP(p:Pr)(kv:Value):Value := .agg #[.int .i64 (prO p),.string (prNm p),.int .i64 (prN p),kv]
theorem KC.alloc{A W:World}(h:KC A W)(o:Obj):KC A (W.alloc o):=⟨Nat.le_trans h.size (by simp),fun k o' hk hc=>by
 have h1:=h.same k o' hk hc
 exact (Below.heap_alloc _ _ _ (Array.getElem?_eq_some_iff.1 h1).1).trans h1⟩
theorem cell_new3(W:World)(v0 v1 v2 v3:Value):(W.alloc (.cells #[v0,v1,v2,v3] 41)).cell? ⟨W.heap.size,3,none⟩=some v3:=by
 unfold World.cell?
 rw [World.alloc_heap_new W (.cells #[v0,v1,v2,v3] 41)]
 rfl
abbrev Nd(g:Gh)(W0:World):Type:={ x:Pr × Option Addr × Nat × Nat // Rep g W0 (.sl 4 (Pr.cs (prK x.1))) (.slice x.2.1 x.2.2.1 x.2.2.2) }
abbrev Nd.enc{g:Gh}{W0:World}(x:Nd g W0):Value:=encP x.1.1 (.slice x.1.2.1 x.1.2.2.1 x.1.2.2.2)
theorem spotN{W:World}{a:Addr}{v:Value}(h:W.cell? a=some v):a=⟨a.block,a.off,none⟩:=by
 have:=spot_of_cell h
 cases a; simp only at this; subst this; rfl
theorem sl_val{g:Gh}{w:World}{z:Nat}{es:List (List PV)}{v:Value}(h:Rep g w (.sl z es) v):∃oa m c,v = .slice oa m c:=by
 cases h with
 | slnil=>exact ⟨none,0,0,rfl⟩
 | sl _ _ a cap _ _ _ _ _ _ _ _=>exact ⟨some a,_,cap,rfl⟩
theorem kids_inv{g:Gh}{W0:World}(x:Nd g W0):(prK x.1.1=[]/\x.1.2.2.1=0) ∨
  ∃b off,x.1.2.1=some ⟨b,off,none⟩/\x.1.2.2.1=(prK x.1.1).length/\0<(prK x.1.1).length/\(prK x.1.1).length<=9223372036854775807 /\
   ∀i,i<(prK x.1.1).length->∃y:Nd g W0,y.1.1=(prK x.1.1).getD i default/\W0.cell? ⟨b,off+i * 4,none⟩=some (.int .i64 (prO y.1.1))/\W0.cell? ⟨b,off+i * 4+1,none⟩=some (.string (prNm y.1.1)) /\
    W0.cell? ⟨b,off+i * 4+2,none⟩=some (.int .i64 (prN y.1.1))/\W0.cell? ⟨b,off+i * 4+3,none⟩=some (.slice y.1.2.1 y.1.2.2.1 y.1.2.2.2):=by
 obtain ⟨⟨p,oa,m,c⟩,h⟩:=x
 simp only at h ⊢
 generalize he:Pr.cs (prK p)=es at h
 generalize hv:Value.slice oa m c=v at h
 have hl:es.length=(prK p).length:=by rw [<-he,Pr.cs_len]
 cases h with
 | slnil=>
  injection hv with e1 e2 e3
  exact .inl ⟨List.eq_nil_of_length_eq_zero (by rw [<-hl]; rfl),e2⟩
 | sl _ _ a cap vs hle hcap hsz hc hf h1 hr=>
  injection hv with e1 e2 e3
  by_cases h0:(prK p).length=0
  ·exact .inl ⟨List.eq_nil_of_length_eq_zero h0,by omega⟩
  ·have c00:=spotN (hc 0 0 (by omega) (by omega))
   have ha:a=⟨a.block,a.off,none⟩:=by
    have h:=spot_of_cell (hc 0 0 (by omega) (by omega))
    cases a with
    | mk b o sp=>
     simp only [Addr.add] at h ⊢
     split at h <;> simp_all
   refine .inr ⟨a.block,a.off,by rw [e1,<-ha],by omega,by omega,Nat.le_trans (by omega) (Nat.le_trans hcap (by decide)),fun i hi=>?_⟩
   have hie:i<es.length:=by omega
   have hrow:es[i]=prL ((prK p).getD i default):=by
    have:=Pr.cs_at hi
    rw [he] at this
    rw [<-this]
    simp [List.getD,hie]
   have hat:∀j,a.add (i * 4+j)=⟨a.block,a.off+i * 4+j,none⟩:=fun j=>by
    rw [ha]; simp only [Addr.add]; simp [Nat.add_assoc]
   have hrr:∀j (hj:j<es[i].length),Rep g W0 es[i][j] (vs i j):=fun j hj=>hr i j hie hj
   have hlen:es[i].length=4:=hsz i hie
   have r0:Rep g W0 (.int .i64 (prO ((prK p).getD i default))) (vs i 0):=by have:=hrr 0 (by omega); simpa only [hrow,prL,List.getElem_cons_zero] using this
   have r1:Rep g W0 (.str (prNm ((prK p).getD i default))) (vs i 1):=by have:=hrr 1 (by omega); simpa only [hrow,prL,List.getElem_cons_zero,List.getElem_cons_succ] using this
   have r2:Rep g W0 (.int .i64 (prN ((prK p).getD i default))) (vs i 2):=by have:=hrr 2 (by omega); simpa only [hrow,prL,List.getElem_cons_zero,List.getElem_cons_succ] using this
   have r3:Rep g W0 (.sl 4 (Pr.cs (prK ((prK p).getD i default)))) (vs i 3):=by have:=hrr 3 (by omega); simpa only [hrow,prL,List.getElem_cons_zero,List.getElem_cons_succ] using this
   obtain ⟨oa',m',c',e'⟩:=sl_val r3
   have v0:vs i 0 = .int .i64 (prO ((prK p).getD i default)):=by generalize vs i 0=u at r0; cases r0; rfl
   have v1:vs i 1 = .string (prNm ((prK p).getD i default)):=by generalize vs i 1=u at r1; cases r1; rfl
   have v2:vs i 2 = .int .i64 (prN ((prK p).getD i default)):=by generalize vs i 2=u at r2; cases r2; rfl
   refine ⟨⟨⟨(prK p).getD i default,oa',m',c'⟩,by rw [e'] at r3; exact r3⟩,rfl,?_,?_,?_,?_⟩
   ·have:=hc i 0 hie (by omega); rw [hat,v0] at this; exact this
   ·have:=hc i 1 hie (by omega); rw [hat,v1] at this; exact this
   ·have:=hc i 2 hie (by omega); rw [hat,v2] at this; exact this
   ·have:=hc i 3 hie (by omega); rw [hat,e'] at this; exact this
theorem nodesPs_app:∀a b:List Pr,nodesPs (a++b)=nodesPs a++nodesPs b
 | [],b=>rfl
 | x::r,b=>by simp [nodesPs,nodesPs_app r b]
theorem nodesPs_take{ks:List Pr}{k:Nat}(h:k<ks.length):nodesPs (ks.take (k+1))=nodesPs (ks.take k)++nodesP (ks.getD k default):=by
 rw [List.take_add_one,nodesPs_app]
 simp [List.getD,h,nodesPs]
theorem nodesPs_le{ks:List Pr}{k:Nat}(h:k<ks.length):(nodesPs (ks.take k)).length+(nodesP (ks.getD k default)).length<=(nodesPs ks).length:=by
 have h1:nodesPs ks=nodesPs (ks.take (k+1))++nodesPs (ks.drop (k+1)):=by rw [<-nodesPs_app,List.take_append_drop]
 rw [h1,nodesPs_take h]
 simp only [List.length_append]
 omega
theorem nodesPs_pre{ks:List Pr}{k:Nat}(h:k<ks.length){q:List Pr}(hq:q <+: nodesP (ks.getD k default)):nodesPs (ks.take k)++q <+: nodesPs ks:=by
 have h1:nodesPs ks=nodesPs (ks.take (k+1))++nodesPs (ks.drop (k+1)):=by rw [<-nodesPs_app,List.take_append_drop]
 obtain ⟨r,hr⟩:=hq
 rw [h1,nodesPs_take h,<-hr]
 exact ⟨r++nodesPs (ks.drop (k+1)),by simp [List.append_assoc]⟩
abbrev YR{g:Gh}{W0:World}(J Jx:List (Nd g W0)->World->Prop)(pre:List (Nd g W0))(x:Nd g W0)(W:World)(e:Ending)(W':World):Prop:=
 (e = .returned (.bool true)/\J (pre++[x]) W'/\KC W W')∨(e = .returned (.bool false)/\Jx (pre++[x]) W')
set_option maxHeartbeats 2000000 in
theorem visit_in(F:Fence)(hd:F.depth=none)(h143:F.fn 268)(hro:F.round=none)(g:Gh)(W0:World)(l N:Nat)(J Jx:List (Nd g W0)->World->Prop)
  (hJ:∀s W W',J s W->W.grownBy W' none->J s W')
  (hY:∀m pre (x:Nd g W0) W,J pre W->pre.length<N->YieldAt F m Tryz.prog l #[x.enc] W (YR J Jx pre x W)) :
  ∀ (d:Nat) (x:Nd g W0) (n:Nat) (pre:List (Nd g W0)) (W:World),(nodesP x.1.1).length<=d->KC W0 W->J pre W->pre.length+(nodesP x.1.1).length<=N ->
   CallsIn F n Tryz.prog 268 #[x.enc,.func (.yield l) #[] #[]] W fun e W'=>
    (e = .returned (.bool true)/\(∃ys:List (Nd g W0),ys.map (·.1.1)=nodesP x.1.1/\J (pre++ys) W')/\KC W W') ∨
    (e = .returned (.bool false)/\∃ys:List (Nd g W0),ys.map (·.1.1) <+: nodesP x.1.1/\Jx (pre++ys) W'):=by
 intro d
 induction d with
 | zero=>intro x n pre W h; rw [nodesP_e] at h; simp at h
 | succ d ih=>
 intro x n pre W hlen hk0 hJ0 hN
 have hnd:(nodesPs (prK x.1.1)).length<=d:=by rw [nodesP_e] at hlen; simp at hlen; omega
 have hNs:pre.length+1+(nodesPs (prK x.1.1)).length<=N:=by rw [nodesP_e] at hN; simp at hN; omega
 have hpre1:∀q,q <+: nodesPs (prK x.1.1)->x.1.1::q <+: nodesP x.1.1:=fun q hq=>by rw [nodesP_e]; exact (List.prefix_cons_inj _).2 hq
 have hall:x.1.1::nodesPs (prK x.1.1)=nodesP x.1.1:=(nodesP_e _).symm
 have hkids:=kids_inv x
 have hY0:=fun m W=>hY m pre x W
 obtain ⟨p,oa,len,cap,hx⟩:∃p oa len cap,x.1=(p,oa,len,cap):=⟨_,_,_,_,rfl⟩
 simp only [Nd.enc] at hY0 ⊢
 rw [hx] at hlen hnd hNs hpre1 hall hkids hY0 hN ⊢
 simp only at hlen hnd hNs hpre1 hall hkids hY0 hN ⊢
 refine callsIn_of_wp Tryz.func268 rfl h143 ?_ hro
 simp only [Tryz.ntmps268,List.size_toArray,List.length_cons,List.length_nil,Nat.reduceAdd,Nat.reduceSub,Array.replicate_succ,Array.replicate_zero,List.push_toArray,List.append_toArray,List.nil_append,List.cons_append]
 have hdd:∀k:Nat,(F.depth.isSome=true->1<=k):=fun k h=>by rw [hd] at h; cases h
 have hJ1:J pre (W.alloc (.cells #[.int .i64 (prO p),.string (prNm p),.int .i64 (prN p),.slice oa len cap] 41)):=hJ _ _ _ hJ0 (World.grownBy_alloc W _ none)
 obtain ⟨fn,tmps,assign,body,hy,hR⟩:=hY0 (n - 1) _ hJ1 (by rw [nodesP_e] at hN; simp at hN; omega)
 have hR':=hR.mono (R':=fun e W2=>(e = .returned (.bool true)/\J (pre++[x]) W2/\KC W W2/\W2.cell? ⟨W.heap.size,3,none⟩=some (.slice oa len cap))∨(e = .returned (.bool false)/\Jx (pre++[x]) W2))
  (fun e W2 h=>h.elim (fun ⟨he,hj,hk⟩ => .inl ⟨he,hj,((KC.refl W).alloc _).trans hk,hk.cell (cell_new3 _ _ _ _ _)⟩) .inr)
 clear hR hY hY0
 gi_wp2_with ((try refine ⟨hdd _,?_⟩); refine hR'.mono ?_; clear hR'; rintro e W2 (⟨rfl,hj2,hk,hc⟩ | ⟨rfl,hx9⟩))
 ·rcases hkids with ⟨hnil,rfl⟩ | ⟨b,off,rfl,rfl,hpos,hmax,hcs⟩
  ·gi_loopw [14] (fun i wr=>i = .int .i64 0/\KC W wr/\J (pre++[x]) wr) (fun _ _=>0)
   case atStart=>exact ⟨rfl,hk,hj2⟩
   case round=>
    obtain ⟨rfl,hkc,hjy⟩:=hrel
    gi_wp2
    go_ret
    exact .inl ⟨rfl,⟨[x],by simp only [List.map_cons,List.map_nil,hx]; rw [hnil] at hall; exact hall,hjy⟩,hkc⟩
  ·gi_loopw [14] (fun i wr=>∃ (k:Nat) (ys:List (Nd g W0)),k<=(prK p).length/\i = .int .i64 k/\KC W wr/\ys.map (·.1.1)=nodesPs ((prK p).take k)/\J (pre++x::ys) wr) (fun i _=>(prK p).length - (intOf i).toNat)
   case atStart=>exact ⟨0,[],Nat.zero_le _,rfl,hk,rfl,hj2⟩
   case round=>
    obtain ⟨k,ys,hkl,rfl,hkc,hys,hjy⟩:=hrel
    by_cases hlt:k<(prK p).length
    ·obtain ⟨y,hy1,c0,c1,c2,c3⟩:=hcs k hlt
     have d0:=(hk0.trans hkc).cell c0
     have d1:=(hk0.trans hkc).cell c1
     have d2:=(hk0.trans hkc).cell c2
     have d3:=(hk0.trans hkc).cell c3
     have hle:=nodesPs_le hlt
     have htk:=nodesPs_take hlt
     have hpr:=fun q (hq:q <+: nodesP ((prK p).getD k default))=>nodesPs_pre hlt hq
     rw [<-hy1] at hle htk hpr
     have hyl:ys.length=(nodesPs ((prK p).take k)).length:=by rw [<-hys,List.length_map]
     have hcall:=ih y (n - 1) (pre++x::ys) (wr.alloc (.cells #[.int .i64 (prO y.1.1),.string (prNm y.1.1),.int .i64 (prN y.1.1),.slice y.1.2.1 y.1.2.2.1 y.1.2.2.2] 41)) (by omega) ((hk0.trans hkc).alloc _) (hJ _ _ _ hjy (World.grownBy_alloc _ _ none))
      (by simp only [List.length_append,List.length_cons]; omega)
     clear ih hcs hy1
     simp only [Nd.enc] at hcall
     obtain ⟨q,oa',m',c',hyx⟩:∃q oa' m' c',y.1=(q,oa',m',c'):=⟨_,_,_,_,rfl⟩
     rw [hyx] at hcall d0 d1 d2 d3 htk hpr hle
     simp only at hcall d0 d1 d2 d3 htk hpr hle
     clear hyx c0 c1 c2 c3
     gi_wp2_with ((try refine ⟨hdd _,?_⟩); gi_at_call 268; refine hcall.mono ?_; clear hcall; rintro e W3 (⟨rfl,⟨zs,hzs,hjz⟩,hk3⟩ | ⟨rfl,zs,hzs,hxz⟩))
     ·go_roundw
      case rel=>exact ⟨k+1,ys++zs,hlt,by simp,(hkc.alloc _).trans hk3,by rw [List.map_append,hys,hzs,htk],by rw [<-List.cons_append,<-List.append_assoc]; exact hjz⟩
      case measure=>simp [intOf]; omega
     ·go_ret
      exact .inr ⟨rfl,x::(ys++zs),by simp only [List.map_cons,List.map_append,hys,hx]; exact hpre1 _ (hpr _ hzs),by rw [<-List.cons_append,<-List.append_assoc]; exact hxz⟩
    ·obtain rfl:k=(prK p).length:=by omega
     gi_wp2
     go_ret
     exact .inl ⟨rfl,⟨x::ys,by simp only [List.map_cons,hys,hx,List.take_length]; exact hall,hjy⟩,hkc⟩
 ·go_ret
  exact .inr ⟨rfl,[x],by simp only [List.map_cons,List.map_nil,hx]; exact hpre1 [] (List.nil_prefix),by exact hx9⟩
set_option maxHeartbeats 1000000 in
theorem before1_in(F:Fence)(hd:F.depth=none)(h142:F.fn 267)(h143:F.fn 268)(hro:F.round=none)(g:Gh)(W0:World)(l Bs:Nat)(x:Nd g W0)(n:Nat)(J Jx:List (Nd g W0)->World->Prop)
  (hJ:∀s W W',J s W->W.grownBy W' none->J s W')
  (hY:∀m pre (y:Nd g W0) W,J pre W->pre.length<(nodesP x.1.1).length->YieldAt F m Tryz.prog l #[y.enc] W (YR J Jx pre y W)) (W:World) (hk0:KC W0 W)
  (h1:W.cell? ⟨Bs,0,none⟩=some (.int .i64 (prO x.1.1))) (h2:W.cell? ⟨Bs,1,none⟩=some (.string (prNm x.1.1))) (h3:W.cell? ⟨Bs,2,none⟩=some (.int .i64 (prN x.1.1))) (h4:W.cell? ⟨Bs,3,none⟩=some (.slice x.1.2.1 x.1.2.2.1 x.1.2.2.2)) (h0:J [] W) :
  CallsIn F n Tryz.prog 267 #[.func (.yield l) #[] #[],.pointer (some ⟨Bs,0,none⟩)] W fun e W'=>(∃v,e = .returned v) /\
   ((∃ys:List (Nd g W0),ys.map (·.1.1)=nodesP x.1.1/\J ys W')∨(∃ys:List (Nd g W0),ys.map (·.1.1) <+: nodesP x.1.1/\Jx ys W')):=by
 have hdd:∀k:Nat,(F.depth.isSome=true->1<=k):=fun k h=>by rw [hd] at h; cases h
 have hcall:=visit_in F hd h143 hro g W0 l _ J Jx hJ hY _ x (n - 1) [] W (Nat.le_refl _) hk0 h0 (by simp)
 simp only [Nd.enc,List.nil_append] at hcall
 obtain ⟨p,oa,len,cap,hx⟩:∃p oa len cap,x.1=(p,oa,len,cap):=⟨_,_,_,_,rfl⟩
 rw [hx] at hcall h1 h2 h3 h4 ⊢
 simp only at hcall h1 h2 h3 h4 ⊢
 clear hY hx
 refine callsIn_of_wp Tryz.func267 rfl h142 ?_ hro
 simp only [Tryz.ntmps267,List.size_toArray,List.length_cons,List.length_nil,Nat.reduceAdd,Nat.reduceSub,Array.replicate_succ,Array.replicate_zero,List.push_toArray,List.append_toArray,List.nil_append,List.cons_append]
 gi_wp2_with ((try refine ⟨hdd _,?_⟩); gi_at_call 268; refine hcall.mono ?_; clear hcall; rintro e W1 (⟨rfl,⟨ys,hys,hj⟩,_⟩ | ⟨rfl,ys,hys,hx⟩))
 ·go_end0
  exact ⟨⟨_,rfl⟩,.inl ⟨ys,hys,hj⟩⟩
 ·go_end0
  exact ⟨⟨_,rfl⟩,.inr ⟨ys,hys,hx⟩⟩
set_option maxHeartbeats 1000000 in
theorem before_in(F:Fence)(n:Nat)(h100:F.fn 225)(hro:F.round=none)(p:Pr)(oa:Option Addr)(m c:Nat)(w:World) :
  CallsIn F n Tryz.prog 225 #[encP p (.slice oa m c)] w fun e w'=>e = .returned (.func (.func 267) #[] #[.pointer (some ⟨w.heap.size,0,none⟩)])/\w'=w.alloc (.cells #[.int .i64 (prO p),.string (prNm p),.int .i64 (prN p),.slice oa m c] 41):=by
 refine callsIn_of_wp Tryz.func225 rfl h100 ?_ hro
 simp only [Tryz.ntmps225,List.size_toArray,List.length_cons,List.length_nil,Nat.reduceAdd,Nat.reduceSub,Array.replicate_succ,Array.replicate_zero,List.push_toArray,List.append_toArray,List.nil_append,List.cons_append]
 gi_wp2
 go_ret
 exact ⟨rfl,rfl⟩
end Go.Proofs.YthchpmnkecoafaaGreatDoor
