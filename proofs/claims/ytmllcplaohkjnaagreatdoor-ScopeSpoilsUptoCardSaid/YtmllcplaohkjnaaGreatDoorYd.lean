/- Values of Go as plain data, an evaluator over them, and what the functions of the program return; part Yd. -/
import Derived.Test.YtmllcplaohkjnaaGreatDoorYc
import Derived.Test.YtmllcplaohkjnaaGreatDoorXe
import Derived.Test.YtmllcplaohkjnaaGreatDoorYa
set_option linter.unusedSectionVars false
set_option linter.unusedSimpArgs false
set_option linter.unusedVariables false
namespace Go.Proofs.YtmllcplaohkjnaaGreatDoor
open Go.Proofs.Tryz
open Go.Pv Go.Proofs.Tryz
set_option maxRecDepth 100000
def coreB(s:BA):Bool:=decide (s.size<=120)&&(if ptS s<s.size then (nameB (s.extract 0 (ptS s))||titleB (s.extract 0 (ptS s))||decide (s.extract 0 (ptS s)=tV))&&corG (s.extract (ptS s+1) s.size) else nameB s||titleB s)
theorem coM_t{x:BA}{b:Bool}(h:corG x=b):coM (x,true)=b:=by rw [<-h]; unfold coM; rw [iP rfl]
theorem nCoT(s:BA):Pu 96 [.str s] (.ret (.int .i64 (erN (coreB s)))):=by
 unfold coreB
 by_cases hl:s.size<=120
 ·have hl':(s.size:Int)<=120:=by omega
  rw [decide_eq_true hl,Bool.true_and]
  by_cases hx:ptS s<s.size
  ·rw [iP hx]
   cases h0:nameB (s.extract 0 (ptS s)) with
   | true=>
    cases h3:corG (s.extract (ptS s+1) s.size) with
    | true=>simpa only [Bool.true_or,Bool.false_or,Bool.true_and,Bool.or_true,Bool.false_and,Bool.and_true,Bool.and_false,Bool.or_false,erN,if_true,Bool.false_eq_true,if_false] using nCoB_6 s hl' hx h0 (coM_t h3)
    | false=>simpa only [Bool.true_or,Bool.false_or,Bool.true_and,Bool.or_true,Bool.false_and,Bool.and_true,Bool.and_false,Bool.or_false,erN,if_true,Bool.false_eq_true,if_false] using nCoB_7 s hl' hx h0 (coM_t h3)
   | false=>
    cases h1:titleB (s.extract 0 (ptS s)) with
    | true=>
     cases h3:corG (s.extract (ptS s+1) s.size) with
     | true=>simpa only [Bool.true_or,Bool.false_or,Bool.true_and,Bool.or_true,Bool.false_and,Bool.and_true,Bool.and_false,Bool.or_false,erN,if_true,Bool.false_eq_true,if_false] using nCoB_4 s hl' hx h0 h1 (coM_t h3)
     | false=>simpa only [Bool.true_or,Bool.false_or,Bool.true_and,Bool.or_true,Bool.false_and,Bool.and_true,Bool.and_false,Bool.or_false,erN,if_true,Bool.false_eq_true,if_false] using nCoB_5 s hl' hx h0 h1 (coM_t h3)
    | false=>
     by_cases h2:s.extract 0 (ptS s)=tV
     ·rw [decide_eq_true h2]
      cases h3:corG (s.extract (ptS s+1) s.size) with
      | true=>simpa only [Bool.true_or,Bool.false_or,Bool.true_and,Bool.or_true,Bool.false_and,Bool.and_true,Bool.and_false,Bool.or_false,erN,if_true,Bool.false_eq_true,if_false] using nCoB_2 s hl' hx h0 h1 h2 (coM_t h3)
      | false=>simpa only [Bool.true_or,Bool.false_or,Bool.true_and,Bool.or_true,Bool.false_and,Bool.and_true,Bool.and_false,Bool.or_false,erN,if_true,Bool.false_eq_true,if_false] using nCoB_3 s hl' hx h0 h1 h2 (coM_t h3)
     ·rw [decide_eq_false h2]; simpa only [Bool.true_or,Bool.false_or,Bool.true_and,Bool.or_true,Bool.false_and,Bool.and_true,Bool.and_false,Bool.or_false,erN,if_true,Bool.false_eq_true,if_false] using nCoB_1 s hl' hx h0 h1 h2
  ·rw [iN hx]
   cases h0:nameB s with
   | true=>simpa only [Bool.true_or,Bool.false_or,Bool.true_and,Bool.or_true,Bool.false_and,Bool.and_true,Bool.and_false,Bool.or_false,erN,if_true,Bool.false_eq_true,if_false] using nCoC_4 s hl' hx h0
   | false=>
    cases h1:titleB s with
    | true=>simpa only [Bool.true_or,Bool.false_or,Bool.true_and,Bool.or_true,Bool.false_and,Bool.and_true,Bool.and_false,Bool.or_false,erN,if_true,Bool.false_eq_true,if_false] using nCoC_3 s hl' hx h0 h1
    | false=>
     by_cases h2:s=tV
     ·simpa only [Bool.true_or,Bool.false_or,Bool.true_and,Bool.or_true,Bool.false_and,Bool.and_true,Bool.and_false,Bool.or_false,erN,if_true,Bool.false_eq_true,if_false] using nCoC_2 s hl' hx h0 h1 h2
     ·simpa only [Bool.true_or,Bool.false_or,Bool.true_and,Bool.or_true,Bool.false_and,Bool.and_true,Bool.and_false,Bool.or_false,erN,if_true,Bool.false_eq_true,if_false] using nCoC_1 s hl' hx h0 h1 h2
 ·rw [decide_eq_false hl,Bool.false_and]; simpa only [Bool.true_or,Bool.false_or,Bool.true_and,Bool.or_true,Bool.false_and,Bool.and_true,Bool.and_false,Bool.or_false,erN,if_true,Bool.false_eq_true,if_false] using nCoA s oM
theorem core_pos{s:BA}(h:erN (coreB s)=0):(0:Int)<=0/\(0:Int)<(s.size:Int):=by
 cases hb:coreB s with
 | false=>rw [hb] at h; cases h
 | true=>
  by_cases hz:s.size=0
  ·have:s=nm0:=by
    have:s.data = #[]:=Array.eq_empty_of_size_eq_zero hz
    cases s; simp only at this; subst this; rfl
   subst this
   rw [show coreB nm0=false by kernel_rfl] at hb
   cases hb
  ·omega
def plc(s:BA)(l:List BA):Int:=if ix id s l<l.length then (ix id s l:Nat) else -1
theorem nIx_e(s:BA):∀ (l:List BA) (k:Nat),nIx_f s l k=if ix id s l<l.length then .e0 (k+ix id s l) else .e1
 | [],k=>by simp [nIx_f,ix]
 | c::r,k=>by
  by_cases h:c=s
  ·simp [nIx_f,ix,h]
  ·have h':¬s=c:=fun e=>h e.symm
   simp only [nIx_f,ix,id,h,h',if_false,nIx_e s r (k+1),List.length_cons]
   by_cases h2:ix id s r<r.length
   ·rw [iP h2,iP (by simpa using h2)]; congr 1; show k+1+ix id s r=k+(ix id s r+1); omega
   ·rw [iN h2,iN (by simpa using h2)]
theorem nIxT(l:List BA)(s:BA)(hN:l.length<=1000000000):Pu 172 [.sl 1 (nmsC l),.str s] (.ret (.int .i64 (plc s l))):=by
 unfold plc
 by_cases h:ix id s l<l.length
 ·rw [iP h]; exact nIxL_1 l s hN _ (by rw [nIx_e,iP h,Nat.zero_add])
 ·rw [iN h]; exact nIxL_2 l s hN (by rw [nIx_e,iN h])
theorem nFiT(l:List BA)(s:BA)(hN:l.length<=1000000000):Pu 127 [.sl 1 (nmsC l),.str s] (rI (plc s l)):=
 pm mdL [cl (@nIxT (l) (s) hN)] func127
def frE{α:Type}(f:α->Int):List α->Int
 | []=>0
 | x::r=>if f x=0 then frE f r else f x
abbrev tdA_I(t:Tp)(dfz:Tp->Int)(j:Int)(n:Int)(e:Ext):S:=S.mk [(2,vI6 0),(3,vI6 n),(7,vL 9 (Tp.cs (tpA t))),(8,vI6 ((tpA t).length:Int)),(9,vI6 j)] [] e
def tdA_f(dfz:Tp->Int):List Tp->(Int)->(Int)
 | [],n=>(n)
 | el::r,n=>tdA_f dfz r (mxI true n (dfz el))
def tdA_q(t:Tp)(dfz:Tp->Int)(e:Ext)(p:(Int)):PExit × S:=(.exit 0,S.mk [(2,vI6 0),(3,vI6 p),(7,vL 9 (Tp.cs (tpA t))),(8,vI6 ((tpA t).length:Int))] [] e)
theorem tdA(t:Tp)(dfz:Tp->Int)(hwk:∀w:Tp,w∈tpA t->Pu 130 [.agg (tpL w)] (.ret (.int .i64 (dfz w))))(n:Int)(e:Ext)(hN:(tpA t).length<=1000000000)  : (Ob.loop 20 (loopF f130 0) (tdA_I t dfz 0 n e) (tdA_q t dfz e (tdA_f dfz ((tpA t))  n)).1 (tdA_q t dfz e (tdA_f dfz ((tpA t))  n)).2).ok prog:=by
 refine rng ((tpA t).length) (fun j n=>tdA_I t dfz j n e) (fun i n=>tdA_f dfz (List.drop i ((tpA t)))  n) (tdA_q t dfz e) (fun i n=>True) kR ?_ n trivial
 rintro i n hi -
 rcases Nat.lt_or_ge i ((tpA t).length) with hlt | hge
 ·have hd:=drop_at hlt
  exact lN mdL [dt ((i:Int)<((tpA t).length:Int)),am ((0:Int)<=(i:Int)/\(i:Int)<((Tp.cs (tpA t)).length:Int)) (by (simp only [Tp.cs_len]; omega)),ar (List.getD (Tp.cs (tpA t)) (Int.toNat (i:Int)) []) (tpL (List.getD (tpA t) i default)) (by simp only [Int.toNat_natCast,Int.toNat_zero]; rw [@Tp.cs_at (tpA t) (i) hlt]; try rfl),cl (@hwk (List.getD (tpA t) i default) (by simp_all [List.length_map,List.length_append,List.length_cons,List.length_nil,nmsC_len,Pr.cs_len,Tp.cs_len,Pm.cs_len,Ex.cs_len,Al.cs_len,Vr.cs_len,Cn.cs_len,Da.cs_len,Cl.cs_len,Bo.cs_len,Df.cs_len,In.cs_len,Cs.cs_len,Ms.cs_len,Qu.cs_len,Int.toNat_natCast,Int.toNat_zero,tn1])),wr ((i:Int)+1)] hlt (mxI true n (dfz (List.getD (tpA t) i default))) trivial (by rw [hd,tdA_f])
 ·have he:i=(tpA t).length:=by omega
  exact lX mdL [df ((i:Int)<((tpA t).length:Int))] (n) (by rw [he,List.drop_length,tdA_f])
abbrev tfA_I(t:Tp)(xe:Ext)(ff:Tp->Int)(j:Int)   : S:=S.mk [(2,vI6 0),(90,vL 9 (Tp.cs (tpA t))),(91,vI6 ((tpA t).length:Int)),(92,vI6 j)] [] xe
inductive tfA_R where
 | e0 (el:Tp)
 | e1
def tfA_f(ff:Tp->Int):List Tp->tfA_R
 | []=>(tfA_R.e1)
 | el::r=>(if ff el=0 then tfA_f ff r  else (tfA_R.e0 el))
def tfA_q(t:Tp)(xe:Ext)(ff:Tp->Int)  : tfA_R->PExit × S
 | .e0 el=>(.ret,S.mk [(2,vI6 (ff el)),(90,vL 9 (Tp.cs (tpA t))),(91,vI6 ((tpA t).length:Int))] [] xe)
 | .e1=>(.exit 0,S.mk [(2,vI6 0),(90,vL 9 (Tp.cs (tpA t))),(91,vI6 ((tpA t).length:Int))] [] xe)
theorem tfA_lp(t:Tp)(xe:Ext)(ff:Tp->Int)(hwk:∀w:Tp,w∈tpA t->Pu 131 [.agg (tpL w)] (.ret (.int .i64 (ff w))))(hN:(tpA t).length<=1000000000):(Ob.loop 102 (loopF f131 0) (tfA_I t xe ff 0) (tfA_q t xe ff  (tfA_f ff (List.drop 0 ((tpA t))))).1 (tfA_q t xe ff  (tfA_f ff (List.drop 0 ((tpA t))))).2).ok prog:=by
 refine rng ((tpA t).length) (fun j _=>tfA_I t xe ff j) (fun i _=>tfA_f ff (List.drop i ((tpA t)))) (tfA_q t xe ff) (fun i _=>True) kR ?_ () trivial
 rintro i u hi -
 rcases Nat.lt_or_ge i ((tpA t).length) with hlt | hge
 ·have hd:=drop_at hlt
  by_cases h0:ff (List.getD (tpA t) i default)=0
  ·exact lN mdL [dt ((i:Int)<((tpA t).length:Int)),am ((0:Int)<=(i:Int)/\(i:Int)<((Tp.cs (tpA t)).length:Int)) (by (simp only [Tp.cs_len]; omega)),ar (List.getD (Tp.cs (tpA t)) (Int.toNat (i:Int)) []) (tpL (List.getD (tpA t) i default)) (by simp only [Int.toNat_natCast,Int.toNat_zero]; rw [@Tp.cs_at (tpA t) (i) hlt]; try rfl),cl (@hwk (List.getD (tpA t) i default) (by simp_all [List.length_map,List.length_append,List.length_cons,List.length_nil,nmsC_len,Pr.cs_len,Tp.cs_len,Pm.cs_len,Ex.cs_len,Al.cs_len,Vr.cs_len,Cn.cs_len,Da.cs_len,Cl.cs_len,Bo.cs_len,Df.cs_len,In.cs_len,Cs.cs_len,Ms.cs_len,Qu.cs_len,Int.toNat_natCast,Int.toNat_zero,tn1])),nn1 h0,wr ((i:Int)+1)] hlt () trivial (by rw [hd,tfA_f,iP h0])
  ·exact lX mdL [dt ((i:Int)<((tpA t).length:Int)),am ((0:Int)<=(i:Int)/\(i:Int)<((Tp.cs (tpA t)).length:Int)) (by (simp only [Tp.cs_len]; omega)),ar (List.getD (Tp.cs (tpA t)) (Int.toNat (i:Int)) []) (tpL (List.getD (tpA t) i default)) (by simp only [Int.toNat_natCast,Int.toNat_zero]; rw [@Tp.cs_at (tpA t) (i) hlt]; try rfl),cl (@hwk (List.getD (tpA t) i default) (by simp_all [List.length_map,List.length_append,List.length_cons,List.length_nil,nmsC_len,Pr.cs_len,Tp.cs_len,Pm.cs_len,Ex.cs_len,Al.cs_len,Vr.cs_len,Cn.cs_len,Da.cs_len,Cl.cs_len,Bo.cs_len,Df.cs_len,In.cs_len,Cs.cs_len,Ms.cs_len,Qu.cs_len,Int.toNat_natCast,Int.toNat_zero,tn1])),nt1 h0] (tfA_R.e0 (List.getD ((tpA t)) i default)) (by rw [hd,tfA_f,iN h0])
 ·have he:i=(tpA t).length:=by omega
  exact lX mdL [df ((i:Int)<((tpA t).length:Int))] (tfA_R.e1) (by rw [he,List.drop_length,tfA_f])
theorem tfA_0(t:Tp)(xe:Ext)(ff:Tp->Int)(hwk:∀w:Tp,w∈tpA t->Pu 131 [.agg (tpL w)] (.ret (.int .i64 (ff w))))(hN:(tpA t).length<=1000000000)(p0:Tp)(hres:(tfA_f ff ((tpA t)))=(tfA_R.e0 p0)):(Ob.loop 102 (loopF f131 0) (tfA_I t xe ff 0) (tfA_q t xe ff  (tfA_R.e0 p0)).1 (tfA_q t xe ff  (tfA_R.e0 p0)).2).ok prog:=
 rz (tfA_lp t xe ff hwk hN) hres
theorem tfA_1(t:Tp)(xe:Ext)(ff:Tp->Int)(hwk:∀w:Tp,w∈tpA t->Pu 131 [.agg (tpL w)] (.ret (.int .i64 (ff w))))(hN:(tpA t).length<=1000000000)(hres:(tfA_f ff ((tpA t)))=(tfA_R.e1)):(Ob.loop 102 (loopF f131 0) (tfA_I t xe ff 0) (tfA_q t xe ff  (tfA_R.e1)).1 (tfA_q t xe ff  (tfA_R.e1)).2).ok prog:=
 rz (tfA_lp t xe ff hwk hN) hres
def arE(t:Tp):Int:=if tpO t=4 then (if ((tpA t).length:Int)>6 then 13 else 0) else if tpO t=6 then (if ((tpA t).length:Int)<2 then 13 else if ((tpA t).length:Int)>7 then 13 else if ((tpNs t).length:Int)=0 then 0 else if ((tpNs t).length:Int)=((tpA t).length:Int) - 1 then 0 else 13) else 0
theorem arT(t:Tp):Pu 175 [.agg (tpL t)] (.ret (.int .i64 (arE t))):=by
 unfold arE
 by_cases h0:tpO t=4
 ·rw [iP h0]
  by_cases h1:((tpA t).length:Int)>6
  ·rw [iP h1]; exact pm mdL [et1 h0,sl (Tp.cs_len (tpA t)),dt1 h1] func175
  ·rw [iN h1]; exact pm mdL [et1 h0,sl (Tp.cs_len (tpA t)),df1 h1] func175
 ·rw [iN h0]
  by_cases h1:tpO t=6
  ·rw [iP h1]
   by_cases h2:((tpA t).length:Int)<2
   ·rw [iP h2]; exact pm mdL [en1 h0,et1 h1,sl (Tp.cs_len (tpA t)),rp 5 (dt1 h2),rp 8 (bt true)] func175
   ·rw [iN h2]
    by_cases h3:((tpA t).length:Int)>7
    ·rw [iP h3]; exact pm mdL [en1 h0,et1 h1,sl (Tp.cs_len (tpA t)),rp 3 (df1 h2),sl (Tp.cs_len (tpA t)),rp 2 (df1 h2),rp 7 (dt1 h3),bt true] func175
    ·rw [iN h3]
     by_cases h4:((tpNs t).length:Int)=0
     ·rw [iP h4]; exact pm mdL [en1 h0,et1 h1,sl (Tp.cs_len (tpA t)),rp 3 (df1 h2),sl (Tp.cs_len (tpA t)),rp 2 (df1 h2),rp 3 (df1 h3),sl (nmsC_len (tpNs t)),rp 2 (df1 h3),rp 8 (nn1 h4),df1 h3,nn1 h4,df1 h3,bf false] func175
     ·rw [iN h4]
      by_cases h5:((tpNs t).length:Int)=((tpA t).length:Int) - 1
      ·rw [iP h5]; exact pm mdL [en1 h0,et1 h1,sl (Tp.cs_len (tpA t)),rp 3 (df1 h2),sl (Tp.cs_len (tpA t)),rp 2 (df1 h2),rp 3 (df1 h3),sl (nmsC_len (tpNs t)),rp 2 (df1 h3),rp 3 (nt1 h4),sl (nmsC_len (tpNs t)),rp 3 (nt1 h4),sl (Tp.cs_len (tpA t)),nt1 h4,wr (((tpA t).length:Int) - 1),nt1 h4,df1 h3,nt1 h4,df1 h3,nn1 h5] func175
      ·rw [iN h5]; exact pm mdL [en1 h0,et1 h1,sl (Tp.cs_len (tpA t)),rp 3 (df1 h2),sl (Tp.cs_len (tpA t)),rp 2 (df1 h2),rp 3 (df1 h3),sl (nmsC_len (tpNs t)),rp 2 (df1 h3),rp 3 (nt1 h4),sl (nmsC_len (tpNs t)),rp 3 (nt1 h4),sl (Tp.cs_len (tpA t)),nt1 h4,wr (((tpA t).length:Int) - 1),nt1 h4,df1 h3,nt1 h4,df1 h3,nt1 h5] func175
  ·rw [iN h1]; exact pm mdL [en1 h0,en1 h1] func175
def tdD:Nat->Tp->Int
 | 0,_=>0
 | d+1,t=>tdA_f (tdD d) (tpA t) 0+1
theorem mx_le{f:Tp->Int}{B:Int}:∀ (l:List Tp) (n:Int),0<=n->n<=B->(∀w∈l,0<=f w/\f w<=B)->0<=tdA_f f l n/\tdA_f f l n<=B
 | [],n,h0,h1,_=>⟨h0,h1⟩
 | x::r,n,h0,h1,h=>by
  have hx:=h x sM
  refine mx_le r _ ?_ ?_ fun w hw=>h w (List.mem_cons_of_mem _ hw)
  ·show 0<=(if f x>n then f x else n); split <;> omega
  ·show (if f x>n then f x else n)<=B; split <;> omega
theorem tdD_b:∀ (d:Nat) (t:Tp),0<=tdD d t/\tdD d t<=d
 | 0,_=>⟨Int.le_refl _,Int.le_refl _⟩
 | d+1,t=>by
  have:=mx_le (f:=tdD d) (B:=d) (tpA t) 0 oM oM fun w _=>tdD_b d w
  simp only [tdD]; omega
theorem td_ok:∀ (d:Nat) (t:Tp),bulkPs (tpL t)<d->d<=100000001->Pu 130 [.agg (tpL t)] (.ret (.int .i64 (tdD d t)))
 | 0,_,h,_=>by omega
 | d+1,t,h,hs=>by
  have hb:=mx_le (f:=tdD d) (B:=d) (tpA t) 0 oM oM fun w _=>tdD_b d w
  exact pu mdL (fun e=>[sl (Tp.cs_len (tpA t)),lp (S.mk [(0,.v (.agg (tpL t))),(1,.lp 1 0),(2,vI6 0),(3,vI6 0),(6,.lp 1 2),(7,vL 9 (Tp.cs (tpA t))),(8,vI6 ((tpA t).length:Int)),(9,vI6 0)] [(1,tpV t)] e) (@tdA (t) ((tdD d)) (fun w hw=>td_ok d w (by have:=tp_bulk t; have:=Tp.mem hw; omega) oM) (0) (e) (by have:=tp_bulk t; have:=Tp.bulk (tpA t); omega)) xr,ai (IntKind.wrap .i64 (tdA_f (tdD d) (tpA t) 0+1)) (tdA_f (tdD d) (tpA t) 0+1) (wrap64 oM oM)]) func130
def tdF(t:Tp):Int:=tdD (bulkPs (tpL t)+1) t
theorem tdT(t:Tp)(hs:bulkPs (tpL t)<=100000000):Pu 130 [.agg (tpL t)] (.ret (.int .i64 (tdF t))):=td_ok _ t oM oM
theorem tfA_e(ff:Tp->Int):∀l:List Tp,(frE ff l=0->tfA_f ff l = .e1)/\(¬frE ff l=0->∃w,tfA_f ff l = .e0 w/\ff w=frE ff l)
 | []=>⟨fun _=>rfl,fun h=>absurd rfl h⟩
 | x::r=>by
  have ih:=tfA_e ff r
  by_cases h:ff x=0
  ·simp only [frE,tfA_f,h,if_true]; exact ih
  ·simp only [frE,tfA_f,h,if_false]; exact ⟨fun h'=>h'.elim,fun _=>⟨x,rfl,rfl⟩⟩
abbrev tfS(t:Tp)(v:Int)(xe:Ext):S:=⟨[(2,.v (.int .i64 v)),(90,.v (.sl 9 (Tp.cs (tpA t)))),(91,.v (.int .i64 (tpA t).length))],[],xe⟩
theorem tfT(t:Tp)(xe:Ext)(ff:Tp->Int)(hwk:∀w:Tp,w∈tpA t->Pu 131 [.agg (tpL w)] (.ret (.int .i64 (ff w))))(hN:(tpA t).length<=1000000000)(hx:frE ff (tpA t)=0):(Ob.loop 102 (loopF f131 0) (tfA_I t xe ff 0) (.exit 0) (tfS t 0 xe)).ok prog:=
 tfA_1 t xe ff hwk hN ((tfA_e ff (tpA t)).1 hx)
theorem tfF(t:Tp)(xe:Ext)(ff:Tp->Int)(hwk:∀w:Tp,w∈tpA t->Pu 131 [.agg (tpL w)] (.ret (.int .i64 (ff w))))(hN:(tpA t).length<=1000000000)(hx:¬frE ff (tpA t)=0):(Ob.loop 102 (loopF f131 0) (tfA_I t xe ff 0) .ret (tfS t (frE ff (tpA t)) xe)).ok prog:=by
 obtain ⟨w,h1,h2⟩:=(tfA_e ff (tpA t)).2 hx
 have:=tfA_0 t xe ff hwk hN w h1
 rw [<-h2]
 exact this
abbrev fm1I(t:Tp)(xe:Ext):S:=⟨[(1,.lp 1 0),(2,.v (.int .i64 0))],[(1,tpV t)],xe⟩
abbrev fm2I(t:Tp)(nmd:Bool)(xe:Ext):S:=⟨[(1,.lp 1 0),(2,.v (.int .i64 0)),(3,.v (.bool nmd))],[(1,tpV t)],xe⟩
abbrev fmI(t:Tp)(nmd cmp:Bool)(xe:Ext):S:=⟨[(1,.lp 1 0),(2,.v (.int .i64 0)),(3,.v (.bool nmd)),(4,.v (.bool cmp))],[(1,tpV t)],xe⟩
theorem fm1_1(t:Tp)(xe:Ext)(hx0:tpO t=4)(cx:Cx)(hcx:cx.n=102){Q:PExit->S->Prop}(hq:Q (.normal) (S.mk [(1,.lp 1 0),(2,vI6 0),(3,.v (.bool true))] [(1,tpV t)] xe)):PW prog cx (regF f131 1) (fm1I t xe) Q:=
 pw mdL 102 [rp 4 (et1 hx0)] [1,2,3] [1] hcx hq
theorem fm1_2(t:Tp)(xe:Ext)(hx0:¬tpO t=4)(cx:Cx)(hcx:cx.n=102){Q:PExit->S->Prop}(hq:Q (.normal) (S.mk [(1,.lp 1 0),(2,vI6 0),(3,.v (.bool (tpO t==5)))] [(1,tpV t)] xe)):PW prog cx (regF f131 1) (fm1I t xe) Q:=
 pw mdL 102 [rp 4 (en1 hx0)] [1,2,3] [1] hcx hq
def fm1_v3(t:Tp):Bool:=(if tpO t=4 then (true) else ((tpO t==5)))
theorem fm1J(t:Tp)(xe:Ext):(Ob.frag 102 (regF f131 1) (fm1I t xe) (.normal) (S.mk [(1,.lp 1 0),(2,vI6 0),(3,.v (.bool (fm1_v3 t)))] [(1,tpV t)] xe)).ok prog:=by
 intro cx hcx
 by_cases g0:tpO t=4
 ·exact fm1_1 t xe g0 cx hcx ⟨rfl,by rw [show fm1_v3 t=(true) by unfold fm1_v3; rw [iP g0]]⟩
 ·exact fm1_2 t xe g0 cx hcx ⟨rfl,by rw [show fm1_v3 t=((tpO t==5)) by unfold fm1_v3; rw [iN g0]]⟩
theorem fm2_1(t:Tp)(nmd:Bool)(xe:Ext)(hx0:tpO t=4)(cx:Cx)(hcx:cx.n=102){Q:PExit->S->Prop}(hq:Q (.normal) (S.mk [(1,.lp 1 0),(2,vI6 0),(3,.v (.bool nmd)),(4,.v (.bool true))] [(1,tpV t)] xe)):PW prog cx (regF f131 2) (fm2I t nmd xe) Q:=
 pw mdL 102 [rp 4 (et1 hx0)] [1,2,3,4] [1] hcx hq
theorem fm2_2(t:Tp)(nmd:Bool)(xe:Ext)(hx0:¬tpO t=4)(cx:Cx)(hcx:cx.n=102){Q:PExit->S->Prop}(hq:Q (.normal) (S.mk [(1,.lp 1 0),(2,vI6 0),(3,.v (.bool nmd)),(4,.v (.bool (tpO t==6)))] [(1,tpV t)] xe)):PW prog cx (regF f131 2) (fm2I t nmd xe) Q:=
 pw mdL 102 [rp 4 (en1 hx0)] [1,2,3,4] [1] hcx hq
def fm2_v4(t:Tp)(nmd:Bool):Bool:=(if tpO t=4 then (true) else ((tpO t==6)))
theorem fm2J(t:Tp)(nmd:Bool)(xe:Ext):(Ob.frag 102 (regF f131 2) (fm2I t nmd xe) (.normal) (S.mk [(1,.lp 1 0),(2,vI6 0),(3,.v (.bool nmd)),(4,.v (.bool (fm2_v4 t nmd)))] [(1,tpV t)] xe)).ok prog:=by
 intro cx hcx
 by_cases g0:tpO t=4
 ·exact fm2_1 t nmd xe g0 cx hcx ⟨rfl,by rw [show fm2_v4 t nmd=(true) by unfold fm2_v4; rw [iP g0]]⟩
 ·exact fm2_2 t nmd xe g0 cx hcx ⟨rfl,by rw [show fm2_v4 t nmd=((tpO t==6)) by unfold fm2_v4; rw [iN g0]]⟩
section
variable (t:Tp) (nmd cmp:Bool) (xe:Ext)
include t nmd cmp xe
theorem fm3_1(hx0:tpO t<1)(cx:Cx)(hcx:cx.n=102){Q:PExit->S->Prop}(hq:Q (.normal) (S.mk [(1,.lp 1 0),(2,vI6 0),(3,.v (.bool nmd)),(4,.v (.bool cmp)),(63,.v (.bool true))] [(1,tpV t)] xe)):PW prog cx (regF f131 3) (fmI t nmd cmp xe) Q:=
 pw mdL 102 [rp 4 (dt1 hx0),rp 20 (bt true)] [1,2,3,4,63] [1] hcx hq
theorem fm3_2(hx0:¬tpO t<1)(hx1:tpO t>6)(cx:Cx)(hcx:cx.n=102){Q:PExit->S->Prop}(hq:Q (.normal) (S.mk [(1,.lp 1 0),(2,vI6 0),(3,.v (.bool nmd)),(4,.v (.bool cmp)),(63,.v (.bool true))] [(1,tpV t)] xe)):PW prog cx (regF f131 3) (fmI t nmd cmp xe) Q:=
 pw mdL 102 [rp 4 (df1 hx0),rp 6 (dt1 hx1),rp 14 (bt true)] [1,2,3,4,63] [1] hcx hq
theorem fm3_3(hx0:¬tpO t<1)(hx1:¬tpO t>6)(hx2:¬tpNm t=ByteArray.mk #[])(hx3:nmd=false)(cx:Cx)(hcx:cx.n=102){Q:PExit->S->Prop}(hq:Q (.normal) (S.mk [(1,.lp 1 0),(2,vI6 0),(3,.v (.bool nmd)),(4,.v (.bool cmp)),(63,.v (.bool true))] [(1,tpV t)] xe)):PW prog cx (regF f131 3) (fmI t nmd cmp xe) Q:=
 pw mdL 102 [rp 4 (df1 hx0),rp 4 (df1 hx1),rp 2 (bt (!ByteArray.toList (tpNm t)==ByteArray.toList nm0) (bnT (bsF hx2))),df1 hx1,bt (!ByteArray.toList (tpNm t)==ByteArray.toList nm0) (bnT (bsF hx2)),df1 hx1,rp 7 (bt1 (bnT hx3)),rp 7 (bt true)] [1,2,3,4,63] [1] hcx hq
theorem fm3_4(hx0:¬tpO t<1)(hx1:¬tpO t>6)(hx2:¬tpNm t=ByteArray.mk #[])(hx3:nmd=true)(hx4:((tpA t).length:Int)>0)(hx5:cmp=false)(cx:Cx)(hcx:cx.n=102){Q:PExit->S->Prop}(hq:Q (.normal) (S.mk [(1,.lp 1 0),(2,vI6 0),(3,.v (.bool nmd)),(4,.v (.bool cmp)),(63,.v (.bool true))] [(1,tpV t)] xe)):PW prog cx (regF f131 3) (fmI t nmd cmp xe) Q:=
 pw mdL 102 [rp 4 (df1 hx0),rp 4 (df1 hx1),rp 2 (bt (!ByteArray.toList (tpNm t)==ByteArray.toList nm0) (bnT (bsF hx2))),df1 hx1,bt (!ByteArray.toList (tpNm t)==ByteArray.toList nm0) (bnT (bsF hx2)),df1 hx1,rp 3 (bf1 (bnF hx3)),sl (Tp.cs_len (tpA t)),rp 2 (bf1 (bnF hx3)),rp 2 (dt1 hx4),bf1 (bnF hx3),dt1 hx4,bf1 (bnF hx3),rp 7 (bt1 (bnT hx5))] [1,2,3,4,63] [1] hcx hq
theorem fm3_5(hx0:¬tpO t<1)(hx1:¬tpO t>6)(hx2:¬tpNm t=ByteArray.mk #[])(hx3:nmd=true)(hx4:((tpA t).length:Int)>0)(hx5:cmp=true)(hx6:((tpNs t).length:Int)>0)(cx:Cx)(hcx:cx.n=102){Q:PExit->S->Prop}(hq:Q (.normal) (S.mk [(1,.lp 1 0),(2,vI6 0),(3,.v (.bool nmd)),(4,.v (.bool cmp)),(63,.v (.bool (tpO t != 6)))] [(1,tpV t)] xe)):PW prog cx (regF f131 3) (fmI t nmd cmp xe) Q:=
 pw mdL 102 [rp 4 (df1 hx0),rp 4 (df1 hx1),rp 2 (bt (!ByteArray.toList (tpNm t)==ByteArray.toList nm0) (bnT (bsF hx2))),df1 hx1,bt (!ByteArray.toList (tpNm t)==ByteArray.toList nm0) (bnT (bsF hx2)),df1 hx1,rp 3 (bf1 (bnF hx3)),sl (Tp.cs_len (tpA t)),rp 2 (bf1 (bnF hx3)),rp 2 (dt1 hx4),bf1 (bnF hx3),dt1 hx4,bf1 (bnF hx3),rp 3 (bf1 (bnF hx5)),sl (nmsC_len (tpNs t)),rp 2 (bf1 (bnF hx5)),rp 3 (dt1 hx6),bf1 (bnF hx5),dt1 hx6,bf1 (bnF hx5)] [1,2,3,4,63] [1] hcx hq
theorem fm3_6(hx0:¬tpO t<1)(hx1:¬tpO t>6)(hx2:¬tpNm t=ByteArray.mk #[])(hx3:nmd=true)(hx4:((tpA t).length:Int)>0)(hx5:cmp=true)(hx6:¬((tpNs t).length:Int)>0)(cx:Cx)(hcx:cx.n=102){Q:PExit->S->Prop}(hq:Q (.normal) (S.mk [(1,.lp 1 0),(2,vI6 0),(3,.v (.bool nmd)),(4,.v (.bool cmp)),(63,.v (.bool false))] [(1,tpV t)] xe)):PW prog cx (regF f131 3) (fmI t nmd cmp xe) Q:=
 pw mdL 102 [rp 4 (df1 hx0),rp 4 (df1 hx1),rp 2 (bt (!ByteArray.toList (tpNm t)==ByteArray.toList nm0) (bnT (bsF hx2))),df1 hx1,bt (!ByteArray.toList (tpNm t)==ByteArray.toList nm0) (bnT (bsF hx2)),df1 hx1,rp 3 (bf1 (bnF hx3)),sl (Tp.cs_len (tpA t)),rp 2 (bf1 (bnF hx3)),rp 2 (dt1 hx4),bf1 (bnF hx3),dt1 hx4,bf1 (bnF hx3),rp 3 (bf1 (bnF hx5)),sl (nmsC_len (tpNs t)),rp 2 (bf1 (bnF hx5)),rp 3 (df1 hx6),bf1 (bnF hx5),df1 hx6,bf1 (bnF hx5)] [1,2,3,4,63] [1] hcx hq
theorem fm3_7(hx0:¬tpO t<1)(hx1:¬tpO t>6)(hx2:¬tpNm t=ByteArray.mk #[])(hx3:nmd=true)(hx4:¬((tpA t).length:Int)>0)(hx5:((tpNs t).length:Int)>0)(cx:Cx)(hcx:cx.n=102){Q:PExit->S->Prop}(hq:Q (.normal) (S.mk [(1,.lp 1 0),(2,vI6 0),(3,.v (.bool nmd)),(4,.v (.bool cmp)),(63,.v (.bool (tpO t != 6)))] [(1,tpV t)] xe)):PW prog cx (regF f131 3) (fmI t nmd cmp xe) Q:=
 pw mdL 102 [rp 4 (df1 hx0),rp 4 (df1 hx1),rp 2 (bt (!ByteArray.toList (tpNm t)==ByteArray.toList nm0) (bnT (bsF hx2))),df1 hx1,bt (!ByteArray.toList (tpNm t)==ByteArray.toList nm0) (bnT (bsF hx2)),df1 hx1,rp 3 (bf1 (bnF hx3)),sl (Tp.cs_len (tpA t)),rp 2 (bf1 (bnF hx3)),rp 2 (df1 hx4),bf1 (bnF hx3),df1 hx4,bf1 (bnF hx3),rp 3 (bf false),sl (nmsC_len (tpNs t)),rp 2 (bf false),rp 3 (dt1 hx5),bf false,dt1 hx5,bf false] [1,2,3,4,63] [1] hcx hq
theorem fm3_8(hx0:¬tpO t<1)(hx1:¬tpO t>6)(hx2:¬tpNm t=ByteArray.mk #[])(hx3:nmd=true)(hx4:¬((tpA t).length:Int)>0)(hx5:¬((tpNs t).length:Int)>0)(cx:Cx)(hcx:cx.n=102){Q:PExit->S->Prop}(hq:Q (.normal) (S.mk [(1,.lp 1 0),(2,vI6 0),(3,.v (.bool nmd)),(4,.v (.bool cmp)),(63,.v (.bool false))] [(1,tpV t)] xe)):PW prog cx (regF f131 3) (fmI t nmd cmp xe) Q:=
 pw mdL 102 [rp 4 (df1 hx0),rp 4 (df1 hx1),rp 2 (bt (!ByteArray.toList (tpNm t)==ByteArray.toList nm0) (bnT (bsF hx2))),df1 hx1,bt (!ByteArray.toList (tpNm t)==ByteArray.toList nm0) (bnT (bsF hx2)),df1 hx1,rp 3 (bf1 (bnF hx3)),sl (Tp.cs_len (tpA t)),rp 2 (bf1 (bnF hx3)),rp 2 (df1 hx4),bf1 (bnF hx3),df1 hx4,bf1 (bnF hx3),rp 3 (bf false),sl (nmsC_len (tpNs t)),rp 2 (bf false),rp 3 (df1 hx5),bf false,df1 hx5,bf false] [1,2,3,4,63] [1] hcx hq
theorem fm3_9(hx0:¬tpO t<1)(hx1:¬tpO t>6)(hx2:tpNm t=ByteArray.mk #[])(hx3:((tpA t).length:Int)>0)(hx4:cmp=false)(cx:Cx)(hcx:cx.n=102){Q:PExit->S->Prop}(hq:Q (.normal) (S.mk [(1,.lp 1 0),(2,vI6 0),(3,.v (.bool nmd)),(4,.v (.bool cmp)),(63,.v (.bool true))] [(1,tpV t)] xe)):PW prog cx (regF f131 3) (fmI t nmd cmp xe) Q:=
 pw mdL 102 [rp 4 (df1 hx0),rp 4 (df1 hx1),rp 2 (bf (!ByteArray.toList (tpNm t)==ByteArray.toList nm0) (bnF (bsT hx2))),df1 hx1,bf (!ByteArray.toList (tpNm t)==ByteArray.toList nm0) (bnF (bsT hx2)),df1 hx1,rp 3 (bf false),sl (Tp.cs_len (tpA t)),rp 2 (bf false),rp 2 (dt1 hx3),bf false,dt1 hx3,bf false,rp 7 (bt1 (bnT hx4))] [1,2,3,4,63] [1] hcx hq
theorem fm3_10(hx0:¬tpO t<1)(hx1:¬tpO t>6)(hx2:tpNm t=ByteArray.mk #[])(hx3:((tpA t).length:Int)>0)(hx4:cmp=true)(hx5:((tpNs t).length:Int)>0)(cx:Cx)(hcx:cx.n=102){Q:PExit->S->Prop}(hq:Q (.normal) (S.mk [(1,.lp 1 0),(2,vI6 0),(3,.v (.bool nmd)),(4,.v (.bool cmp)),(63,.v (.bool (tpO t != 6)))] [(1,tpV t)] xe)):PW prog cx (regF f131 3) (fmI t nmd cmp xe) Q:=
 pw mdL 102 [rp 4 (df1 hx0),rp 4 (df1 hx1),rp 2 (bf (!ByteArray.toList (tpNm t)==ByteArray.toList nm0) (bnF (bsT hx2))),df1 hx1,bf (!ByteArray.toList (tpNm t)==ByteArray.toList nm0) (bnF (bsT hx2)),df1 hx1,rp 3 (bf false),sl (Tp.cs_len (tpA t)),rp 2 (bf false),rp 2 (dt1 hx3),bf false,dt1 hx3,bf false,rp 3 (bf1 (bnF hx4)),sl (nmsC_len (tpNs t)),rp 2 (bf1 (bnF hx4)),rp 3 (dt1 hx5),bf1 (bnF hx4),dt1 hx5,bf1 (bnF hx4)] [1,2,3,4,63] [1] hcx hq
theorem fm3_11(hx0:¬tpO t<1)(hx1:¬tpO t>6)(hx2:tpNm t=ByteArray.mk #[])(hx3:((tpA t).length:Int)>0)(hx4:cmp=true)(hx5:¬((tpNs t).length:Int)>0)(cx:Cx)(hcx:cx.n=102){Q:PExit->S->Prop}(hq:Q (.normal) (S.mk [(1,.lp 1 0),(2,vI6 0),(3,.v (.bool nmd)),(4,.v (.bool cmp)),(63,.v (.bool false))] [(1,tpV t)] xe)):PW prog cx (regF f131 3) (fmI t nmd cmp xe) Q:=
 pw mdL 102 [rp 4 (df1 hx0),rp 4 (df1 hx1),rp 2 (bf (!ByteArray.toList (tpNm t)==ByteArray.toList nm0) (bnF (bsT hx2))),df1 hx1,bf (!ByteArray.toList (tpNm t)==ByteArray.toList nm0) (bnF (bsT hx2)),df1 hx1,rp 3 (bf false),sl (Tp.cs_len (tpA t)),rp 2 (bf false),rp 2 (dt1 hx3),bf false,dt1 hx3,bf false,rp 3 (bf1 (bnF hx4)),sl (nmsC_len (tpNs t)),rp 2 (bf1 (bnF hx4)),rp 3 (df1 hx5),bf1 (bnF hx4),df1 hx5,bf1 (bnF hx4)] [1,2,3,4,63] [1] hcx hq
theorem fm3_12(hx0:¬tpO t<1)(hx1:¬tpO t>6)(hx2:tpNm t=ByteArray.mk #[])(hx3:¬((tpA t).length:Int)>0)(hx4:((tpNs t).length:Int)>0)(cx:Cx)(hcx:cx.n=102){Q:PExit->S->Prop}(hq:Q (.normal) (S.mk [(1,.lp 1 0),(2,vI6 0),(3,.v (.bool nmd)),(4,.v (.bool cmp)),(63,.v (.bool (tpO t != 6)))] [(1,tpV t)] xe)):PW prog cx (regF f131 3) (fmI t nmd cmp xe) Q:=
 pw mdL 102 [rp 4 (df1 hx0),rp 4 (df1 hx1),rp 2 (bf (!ByteArray.toList (tpNm t)==ByteArray.toList nm0) (bnF (bsT hx2))),df1 hx1,bf (!ByteArray.toList (tpNm t)==ByteArray.toList nm0) (bnF (bsT hx2)),df1 hx1,rp 3 (bf false),sl (Tp.cs_len (tpA t)),rp 2 (bf false),rp 2 (df1 hx3),bf false,df1 hx3,rp 4 (bf false),sl (nmsC_len (tpNs t)),rp 2 (bf false),rp 3 (dt1 hx4),bf false,dt1 hx4,bf false] [1,2,3,4,63] [1] hcx hq
theorem fm3_13(hx0:¬tpO t<1)(hx1:¬tpO t>6)(hx2:tpNm t=ByteArray.mk #[])(hx3:¬((tpA t).length:Int)>0)(hx4:¬((tpNs t).length:Int)>0)(cx:Cx)(hcx:cx.n=102){Q:PExit->S->Prop}(hq:Q (.normal) (S.mk [(1,.lp 1 0),(2,vI6 0),(3,.v (.bool nmd)),(4,.v (.bool cmp)),(63,.v (.bool false))] [(1,tpV t)] xe)):PW prog cx (regF f131 3) (fmI t nmd cmp xe) Q:=
 pw mdL 102 [rp 4 (df1 hx0),rp 4 (df1 hx1),rp 2 (bf (!ByteArray.toList (tpNm t)==ByteArray.toList nm0) (bnF (bsT hx2))),df1 hx1,bf (!ByteArray.toList (tpNm t)==ByteArray.toList nm0) (bnF (bsT hx2)),df1 hx1,rp 3 (bf false),sl (Tp.cs_len (tpA t)),rp 2 (bf false),rp 2 (df1 hx3),bf false,df1 hx3,rp 4 (bf false),sl (nmsC_len (tpNs t)),rp 2 (bf false),rp 3 (df1 hx4),bf false,df1 hx4,bf false] [1,2,3,4,63] [1] hcx hq
end
def fm3_v63(t:Tp)(nmd cmp:Bool):Bool:=(if tpO t<1 then (true) else (if tpO t>6 then (true) else (if tpNm t=ByteArray.mk #[] then (if ((tpA t).length:Int)>0 then (if cmp=true then (if ((tpNs t).length:Int)>0 then ((tpO t != 6)) else (false)) else (true)) else (if ((tpNs t).length:Int)>0 then ((tpO t != 6)) else (false))) else (if nmd=true then (if ((tpA t).length:Int)>0 then (if cmp=true then (if ((tpNs t).length:Int)>0 then ((tpO t != 6)) else (false)) else (true)) else (if ((tpNs t).length:Int)>0 then ((tpO t != 6)) else (false))) else (true)))))
theorem fm3J(t:Tp)(nmd cmp:Bool)(xe:Ext):(Ob.frag 102 (regF f131 3) (fmI t nmd cmp xe) (.normal) (S.mk [(1,.lp 1 0),(2,vI6 0),(3,.v (.bool nmd)),(4,.v (.bool cmp)),(63,.v (.bool (fm3_v63 t nmd cmp)))] [(1,tpV t)] xe)).ok prog:=by
 intro cx hcx
 by_cases g0:tpO t<1
 ·exact fm3_1 t nmd cmp xe g0 cx hcx ⟨rfl,by rw [show fm3_v63 t nmd cmp=(true) by unfold fm3_v63; rw [iP g0]]⟩
 ·by_cases g1:tpO t>6
  ·exact fm3_2 t nmd cmp xe g0 g1 cx hcx ⟨rfl,by rw [show fm3_v63 t nmd cmp=(true) by unfold fm3_v63; rw [iN g0,iP g1]]⟩
  ·by_cases g2:tpNm t=ByteArray.mk #[]
   ·by_cases g3:((tpA t).length:Int)>0
    ·by_cases g4:cmp=true
     ·by_cases g5:((tpNs t).length:Int)>0
      ·exact fm3_10 t nmd cmp xe g0 g1 g2 g3 g4 g5 cx hcx ⟨rfl,by rw [show fm3_v63 t nmd cmp=((tpO t != 6)) by unfold fm3_v63; rw [iN g0,iN g1,iP g2,iP g3,iP g4,iP g5]]⟩
      ·exact fm3_11 t nmd cmp xe g0 g1 g2 g3 g4 g5 cx hcx ⟨rfl,by rw [show fm3_v63 t nmd cmp=(false) by unfold fm3_v63; rw [iN g0,iN g1,iP g2,iP g3,iP g4,iN g5]]⟩
     ·exact fm3_9 t nmd cmp xe g0 g1 g2 g3 (Bool.eq_false_iff.2 g4) cx hcx ⟨rfl,by rw [show fm3_v63 t nmd cmp=(true) by unfold fm3_v63; rw [iN g0,iN g1,iP g2,iP g3,iN g4]]⟩
    ·by_cases g4:((tpNs t).length:Int)>0
     ·exact fm3_12 t nmd cmp xe g0 g1 g2 g3 g4 cx hcx ⟨rfl,by rw [show fm3_v63 t nmd cmp=((tpO t != 6)) by unfold fm3_v63; rw [iN g0,iN g1,iP g2,iN g3,iP g4]]⟩
     ·exact fm3_13 t nmd cmp xe g0 g1 g2 g3 g4 cx hcx ⟨rfl,by rw [show fm3_v63 t nmd cmp=(false) by unfold fm3_v63; rw [iN g0,iN g1,iP g2,iN g3,iN g4]]⟩
   ·by_cases g3:nmd=true
    ·by_cases g4:((tpA t).length:Int)>0
     ·by_cases g5:cmp=true
      ·by_cases g6:((tpNs t).length:Int)>0
       ·exact fm3_5 t nmd cmp xe g0 g1 g2 g3 g4 g5 g6 cx hcx ⟨rfl,by rw [show fm3_v63 t nmd cmp=((tpO t != 6)) by unfold fm3_v63; rw [iN g0,iN g1,iN g2,iP g3,iP g4,iP g5,iP g6]]⟩
       ·exact fm3_6 t nmd cmp xe g0 g1 g2 g3 g4 g5 g6 cx hcx ⟨rfl,by rw [show fm3_v63 t nmd cmp=(false) by unfold fm3_v63; rw [iN g0,iN g1,iN g2,iP g3,iP g4,iP g5,iN g6]]⟩
      ·exact fm3_4 t nmd cmp xe g0 g1 g2 g3 g4 (Bool.eq_false_iff.2 g5) cx hcx ⟨rfl,by rw [show fm3_v63 t nmd cmp=(true) by unfold fm3_v63; rw [iN g0,iN g1,iN g2,iP g3,iP g4,iN g5]]⟩
     ·by_cases g5:((tpNs t).length:Int)>0
      ·exact fm3_7 t nmd cmp xe g0 g1 g2 g3 g4 g5 cx hcx ⟨rfl,by rw [show fm3_v63 t nmd cmp=((tpO t != 6)) by unfold fm3_v63; rw [iN g0,iN g1,iN g2,iP g3,iN g4,iP g5]]⟩
      ·exact fm3_8 t nmd cmp xe g0 g1 g2 g3 g4 g5 cx hcx ⟨rfl,by rw [show fm3_v63 t nmd cmp=(false) by unfold fm3_v63; rw [iN g0,iN g1,iN g2,iP g3,iN g4,iN g5]]⟩
    ·exact fm3_3 t nmd cmp xe g0 g1 g2 (Bool.eq_false_iff.2 g3) cx hcx ⟨rfl,by rw [show fm3_v63 t nmd cmp=(true) by unfold fm3_v63; rw [iN g0,iN g1,iN g2,iN g3]]⟩
section
variable (t:Tp) (xe:Ext) (hn:erN (coreB (tpNm t))=0)
include t xe hn
theorem fm11_1(hx0:(↑(UInt8.toNat (List.getD (Array.toList (ByteArray.data (tpNm t))) 0 default)):Int)>=65)(cx:Cx)(hcx:cx.n=102){Q:PExit->S->Prop}(hq:Q (.normal) (S.mk [(1,.lp 1 0),(2,vI6 0),(6,.v (.bool (decide ((↑(UInt8.toNat (List.getD (Array.toList (ByteArray.data (tpNm t))) 0 default)):Int)<=90))))] [(1,tpV t)] xe)):PW prog cx (regF f131 11) (fm1I t xe) Q:=
 pw mdL 102 [am ((0:Int)<=0/\0<(↑(ByteArray.size (tpNm t)):Int)) (by (apply core_pos <;> first | assumption | omega | decide)),av (.v (.int .u8 (↑(UInt8.toNat (List.getD (Array.toList (ByteArray.data (tpNm t))) (Int.toNat 0) default)):Int))) (.v (.int .u8 (↑(UInt8.toNat (List.getD (Array.toList (ByteArray.data (tpNm t))) 0 default)):Int))) rF,rp 3 (dt1 hx0),am ((0:Int)<=0/\0<(↑(ByteArray.size (tpNm t)):Int)) (by (apply core_pos <;> first | assumption | omega | decide)),av (.v (.int .u8 (↑(UInt8.toNat (List.getD (Array.toList (ByteArray.data (tpNm t))) (Int.toNat 0) default)):Int))) (.v (.int .u8 (↑(UInt8.toNat (List.getD (Array.toList (ByteArray.data (tpNm t))) 0 default)):Int))) rF,rp 2 (dt1 hx0)] [1,2,6] [1] hcx hq
theorem fm11_2(hx0:¬(↑(UInt8.toNat (List.getD (Array.toList (ByteArray.data (tpNm t))) 0 default)):Int)>=65)(cx:Cx)(hcx:cx.n=102){Q:PExit->S->Prop}(hq:Q (.normal) (S.mk [(1,.lp 1 0),(2,vI6 0),(6,.v (.bool false))] [(1,tpV t)] xe)):PW prog cx (regF f131 11) (fm1I t xe) Q:=
 pw mdL 102 [am ((0:Int)<=0/\0<(↑(ByteArray.size (tpNm t)):Int)) (by (apply core_pos <;> first | assumption | omega | decide)),av (.v (.int .u8 (↑(UInt8.toNat (List.getD (Array.toList (ByteArray.data (tpNm t))) (Int.toNat 0) default)):Int))) (.v (.int .u8 (↑(UInt8.toNat (List.getD (Array.toList (ByteArray.data (tpNm t))) 0 default)):Int))) rF,rp 5 (df1 hx0)] [1,2,6] [1] hcx hq
end
def fm11_v6(t:Tp):Bool:=(if (↑(UInt8.toNat (List.getD (Array.toList (ByteArray.data (tpNm t))) 0 default)):Int)>=65 then ((decide ((↑(UInt8.toNat (List.getD (Array.toList (ByteArray.data (tpNm t))) 0 default)):Int)<=90))) else (false))
theorem fm11J(t:Tp)(xe:Ext)(hn:erN (coreB (tpNm t))=0):(Ob.frag 102 (regF f131 11) (fm1I t xe) (.normal) (S.mk [(1,.lp 1 0),(2,vI6 0),(6,.v (.bool (fm11_v6 t)))] [(1,tpV t)] xe)).ok prog:=by
 intro cx hcx
 by_cases g0:(↑(UInt8.toNat (List.getD (Array.toList (ByteArray.data (tpNm t))) 0 default)):Int)>=65
 ·exact fm11_1 t xe hn g0 cx hcx ⟨rfl,by rw [show fm11_v6 t=((decide ((↑(UInt8.toNat (List.getD (Array.toList (ByteArray.data (tpNm t))) 0 default)):Int)<=90))) by unfold fm11_v6; rw [iP g0]]⟩
 ·exact fm11_2 t xe hn g0 cx hcx ⟨rfl,by rw [show fm11_v6 t=(false) by unfold fm11_v6; rw [iN g0]]⟩
def mdF:Md:=⟨fun _=>some false,fun t=>t==1000001||t==1000002||t==1000003||t==1000011⟩
def sFm_r0(t:Tp)(ff:Tp->Int):Int:=(if fm3_v63 t (fm1_v3 t) (fm2_v4 t (fm1_v3 t))=true then 1 else (if arE t=0 then (if fm1_v3 t=true then (if erN (coreB (tpNm t))=0 then (if (if false=true then fm11_v6 t==(tpO t==4) else !fm11_v6 t==(tpO t==4))=true then 3 else (if frE ff (tpA t)=0 then 0 else (frE ff (tpA t)))) else 3) else (if frE ff (tpA t)=0 then 0 else (frE ff (tpA t)))) else (arE t)))
theorem sFm(t:Tp)(ff:Tp->Int)(hwk:∀w:Tp,w∈tpA t->Pu 131 [.agg (tpL w)] (.ret (.int .i64 (ff w))))(hN0:(tpA t).length<=1000000000):Pu 131 [.agg (tpL t)] (rI (sFm_r0 t ff)):=by
 by_cases h0:fm3_v63 t (fm1_v3 t) (fm2_v4 t (fm1_v3 t))=true
 ·simp only [sFm_r0,iP h0]; exact pu mdF (fun e=>[lf (S.mk [(0,.v (.agg (tpL t))),(1,.lp 1 0),(2,vI6 0)] [(1,tpV t)] e) (@fm1J (t) (e)) ⟨⟨W,W,tVv⟩,⟨⟨W,W,W,W,W,W,W,W,W,tVv⟩,tVv⟩,rfl⟩,lf (S.mk [(1,.lp 1 0),(2,vI6 0),(3,.v (.bool (fm1_v3 t)))] [(1,tpV t)] e) (@fm2J (t) (fm1_v3 t) (e)) ⟨⟨W,W,W,tVv⟩,⟨⟨W,W,W,W,W,W,W,W,W,tVv⟩,tVv⟩,rfl⟩,lf (S.mk [(1,.lp 1 0),(2,vI6 0),(3,.v (.bool (fm1_v3 t))),(4,.v (.bool (fm2_v4 t (fm1_v3 t))))] [(1,tpV t)] e) (@fm3J (t) (fm1_v3 t) (fm2_v4 t (fm1_v3 t)) (e)) ⟨⟨W,W,W,W,tVv⟩,⟨⟨W,W,W,W,W,W,W,W,W,tVv⟩,tVv⟩,rfl⟩,bt1 h0]) func131
 ·by_cases h1:arE t=0
  ·by_cases h2:fm1_v3 t=true
   ·by_cases h3:erN (coreB (tpNm t))=0
    ·by_cases h4:(if false=true then fm11_v6 t==(tpO t==4) else !fm11_v6 t==(tpO t==4))=true
     ·simp only [sFm_r0,iN h0,iP h1,iP h2,iP h3,iP h4]; exact pu mdF (fun e=>[lf (S.mk [(0,.v (.agg (tpL t))),(1,.lp 1 0),(2,vI6 0)] [(1,tpV t)] e) (@fm1J (t) (e)) ⟨⟨W,W,tVv⟩,⟨⟨W,W,W,W,W,W,W,W,W,tVv⟩,tVv⟩,rfl⟩,lf (S.mk [(1,.lp 1 0),(2,vI6 0),(3,.v (.bool (fm1_v3 t)))] [(1,tpV t)] e) (@fm2J (t) (fm1_v3 t) (e)) ⟨⟨W,W,W,tVv⟩,⟨⟨W,W,W,W,W,W,W,W,W,tVv⟩,tVv⟩,rfl⟩,lf (S.mk [(1,.lp 1 0),(2,vI6 0),(3,.v (.bool (fm1_v3 t))),(4,.v (.bool (fm2_v4 t (fm1_v3 t))))] [(1,tpV t)] e) (@fm3J (t) (fm1_v3 t) (fm2_v4 t (fm1_v3 t)) (e)) ⟨⟨W,W,W,W,tVv⟩,⟨⟨W,W,W,W,W,W,W,W,W,tVv⟩,tVv⟩,rfl⟩,bf1 (bFT h0),cl (@arT (t)),nn1 h1,bt1 h2,cl (@nCoT (tpNm t)),nn1 h3,lf (S.mk [(1,.lp 1 0),(2,vI6 0),(3,.v (.bool (fm1_v3 t))),(4,.v (.bool (fm2_v4 t (fm1_v3 t)))),(63,.v (.bool (fm3_v63 t (fm1_v3 t) (fm2_v4 t (fm1_v3 t))))),(64,.v (.agg (tpL t))),(65,vI6 (arE t)),(5,vI6 (arE t)),(66,vI6 (arE t)),(67,.v (.bool (arE t != 0))),(69,.v (.bool (fm1_v3 t))),(70,.lp 1 1),(71,vS (tpNm t)),(72,vI6 (erN (coreB (tpNm t)))),(73,.v (.bool (erN (coreB (tpNm t)) != 0)))] [(1,tpV t)] e) (@fm11J (t) (e) h3) ⟨⟨W,W,tVv⟩,⟨⟨W,W,W,W,W,W,W,W,W,tVv⟩,tVv⟩,rfl⟩,bt1 h4]) func131
     ·by_cases h5:frE ff (tpA t)=0
      ·simp only [sFm_r0,iN h0,iP h1,iP h2,iP h3,iN h4,iP h5]; exact pu mdF (fun e=>[lf (S.mk [(0,.v (.agg (tpL t))),(1,.lp 1 0),(2,vI6 0)] [(1,tpV t)] e) (@fm1J (t) (e)) ⟨⟨W,W,tVv⟩,⟨⟨W,W,W,W,W,W,W,W,W,tVv⟩,tVv⟩,rfl⟩,lf (S.mk [(1,.lp 1 0),(2,vI6 0),(3,.v (.bool (fm1_v3 t)))] [(1,tpV t)] e) (@fm2J (t) (fm1_v3 t) (e)) ⟨⟨W,W,W,tVv⟩,⟨⟨W,W,W,W,W,W,W,W,W,tVv⟩,tVv⟩,rfl⟩,lf (S.mk [(1,.lp 1 0),(2,vI6 0),(3,.v (.bool (fm1_v3 t))),(4,.v (.bool (fm2_v4 t (fm1_v3 t))))] [(1,tpV t)] e) (@fm3J (t) (fm1_v3 t) (fm2_v4 t (fm1_v3 t)) (e)) ⟨⟨W,W,W,W,tVv⟩,⟨⟨W,W,W,W,W,W,W,W,W,tVv⟩,tVv⟩,rfl⟩,bf1 (bFT h0),cl (@arT (t)),nn1 h1,bt1 h2,cl (@nCoT (tpNm t)),nn1 h3,lf (S.mk [(1,.lp 1 0),(2,vI6 0),(3,.v (.bool (fm1_v3 t))),(4,.v (.bool (fm2_v4 t (fm1_v3 t)))),(63,.v (.bool (fm3_v63 t (fm1_v3 t) (fm2_v4 t (fm1_v3 t))))),(64,.v (.agg (tpL t))),(65,vI6 (arE t)),(5,vI6 (arE t)),(66,vI6 (arE t)),(67,.v (.bool (arE t != 0))),(69,.v (.bool (fm1_v3 t))),(70,.lp 1 1),(71,vS (tpNm t)),(72,vI6 (erN (coreB (tpNm t)))),(73,.v (.bool (erN (coreB (tpNm t)) != 0)))] [(1,tpV t)] e) (@fm11J (t) (e) h3) ⟨⟨W,W,tVv⟩,⟨⟨W,W,W,W,W,W,W,W,W,tVv⟩,tVv⟩,rfl⟩,bf1 (bFT h4),sl (Tp.cs_len (tpA t)),lp (S.mk [(1,.lp 1 0),(2,vI6 0),(6,.v (.bool (fm11_v6 t))),(84,.v (.bool (fm11_v6 t))),(85,.lp 1 0),(86,vI6 (tpO t)),(87,.v (.bool (tpO t==4))),(88,.v (.bool (if false=true then fm11_v6 t==(tpO t==4) else !fm11_v6 t==(tpO t==4)))),(89,.lp 1 2),(90,vL 9 (Tp.cs (tpA t))),(91,vI6 ((tpA t).length:Int)),(92,vI6 0)] [(1,tpV t)] e) (@tfT (t) (e) (ff) hwk hN0 h5) xr]) func131
      ·simp only [sFm_r0,iN h0,iP h1,iP h2,iP h3,iN h4,iN h5]; exact pu mdF (fun e=>[lf (S.mk [(0,.v (.agg (tpL t))),(1,.lp 1 0),(2,vI6 0)] [(1,tpV t)] e) (@fm1J (t) (e)) ⟨⟨W,W,tVv⟩,⟨⟨W,W,W,W,W,W,W,W,W,tVv⟩,tVv⟩,rfl⟩,lf (S.mk [(1,.lp 1 0),(2,vI6 0),(3,.v (.bool (fm1_v3 t)))] [(1,tpV t)] e) (@fm2J (t) (fm1_v3 t) (e)) ⟨⟨W,W,W,tVv⟩,⟨⟨W,W,W,W,W,W,W,W,W,tVv⟩,tVv⟩,rfl⟩,lf (S.mk [(1,.lp 1 0),(2,vI6 0),(3,.v (.bool (fm1_v3 t))),(4,.v (.bool (fm2_v4 t (fm1_v3 t))))] [(1,tpV t)] e) (@fm3J (t) (fm1_v3 t) (fm2_v4 t (fm1_v3 t)) (e)) ⟨⟨W,W,W,W,tVv⟩,⟨⟨W,W,W,W,W,W,W,W,W,tVv⟩,tVv⟩,rfl⟩,bf1 (bFT h0),cl (@arT (t)),nn1 h1,bt1 h2,cl (@nCoT (tpNm t)),nn1 h3,lf (S.mk [(1,.lp 1 0),(2,vI6 0),(3,.v (.bool (fm1_v3 t))),(4,.v (.bool (fm2_v4 t (fm1_v3 t)))),(63,.v (.bool (fm3_v63 t (fm1_v3 t) (fm2_v4 t (fm1_v3 t))))),(64,.v (.agg (tpL t))),(65,vI6 (arE t)),(5,vI6 (arE t)),(66,vI6 (arE t)),(67,.v (.bool (arE t != 0))),(69,.v (.bool (fm1_v3 t))),(70,.lp 1 1),(71,vS (tpNm t)),(72,vI6 (erN (coreB (tpNm t)))),(73,.v (.bool (erN (coreB (tpNm t)) != 0)))] [(1,tpV t)] e) (@fm11J (t) (e) h3) ⟨⟨W,W,tVv⟩,⟨⟨W,W,W,W,W,W,W,W,W,tVv⟩,tVv⟩,rfl⟩,bf1 (bFT h4),sl (Tp.cs_len (tpA t)),lp (S.mk [(1,.lp 1 0),(2,vI6 0),(6,.v (.bool (fm11_v6 t))),(84,.v (.bool (fm11_v6 t))),(85,.lp 1 0),(86,vI6 (tpO t)),(87,.v (.bool (tpO t==4))),(88,.v (.bool (if false=true then fm11_v6 t==(tpO t==4) else !fm11_v6 t==(tpO t==4)))),(89,.lp 1 2),(90,vL 9 (Tp.cs (tpA t))),(91,vI6 ((tpA t).length:Int)),(92,vI6 0)] [(1,tpV t)] e) (@tfF (t) (e) (ff) hwk hN0 h5) xr]) func131
    ·simp only [sFm_r0,iN h0,iP h1,iP h2,iN h3]; exact pu mdF (fun e=>[lf (S.mk [(0,.v (.agg (tpL t))),(1,.lp 1 0),(2,vI6 0)] [(1,tpV t)] e) (@fm1J (t) (e)) ⟨⟨W,W,tVv⟩,⟨⟨W,W,W,W,W,W,W,W,W,tVv⟩,tVv⟩,rfl⟩,lf (S.mk [(1,.lp 1 0),(2,vI6 0),(3,.v (.bool (fm1_v3 t)))] [(1,tpV t)] e) (@fm2J (t) (fm1_v3 t) (e)) ⟨⟨W,W,W,tVv⟩,⟨⟨W,W,W,W,W,W,W,W,W,tVv⟩,tVv⟩,rfl⟩,lf (S.mk [(1,.lp 1 0),(2,vI6 0),(3,.v (.bool (fm1_v3 t))),(4,.v (.bool (fm2_v4 t (fm1_v3 t))))] [(1,tpV t)] e) (@fm3J (t) (fm1_v3 t) (fm2_v4 t (fm1_v3 t)) (e)) ⟨⟨W,W,W,W,tVv⟩,⟨⟨W,W,W,W,W,W,W,W,W,tVv⟩,tVv⟩,rfl⟩,bf1 (bFT h0),cl (@arT (t)),nn1 h1,bt1 h2,cl (@nCoT (tpNm t)),nt1 h3]) func131
   ·by_cases h3:frE ff (tpA t)=0
    ·simp only [sFm_r0,iN h0,iP h1,iN h2,iP h3]; exact pu mdF (fun e=>[lf (S.mk [(0,.v (.agg (tpL t))),(1,.lp 1 0),(2,vI6 0)] [(1,tpV t)] e) (@fm1J (t) (e)) ⟨⟨W,W,tVv⟩,⟨⟨W,W,W,W,W,W,W,W,W,tVv⟩,tVv⟩,rfl⟩,lf (S.mk [(1,.lp 1 0),(2,vI6 0),(3,.v (.bool (fm1_v3 t)))] [(1,tpV t)] e) (@fm2J (t) (fm1_v3 t) (e)) ⟨⟨W,W,W,tVv⟩,⟨⟨W,W,W,W,W,W,W,W,W,tVv⟩,tVv⟩,rfl⟩,lf (S.mk [(1,.lp 1 0),(2,vI6 0),(3,.v (.bool (fm1_v3 t))),(4,.v (.bool (fm2_v4 t (fm1_v3 t))))] [(1,tpV t)] e) (@fm3J (t) (fm1_v3 t) (fm2_v4 t (fm1_v3 t)) (e)) ⟨⟨W,W,W,W,tVv⟩,⟨⟨W,W,W,W,W,W,W,W,W,tVv⟩,tVv⟩,rfl⟩,bf1 (bFT h0),cl (@arT (t)),nn1 h1,bf1 (bFT h2),sl (Tp.cs_len (tpA t)),lp (S.mk [(1,.lp 1 0),(2,vI6 0),(3,.v (.bool (fm1_v3 t))),(4,.v (.bool (fm2_v4 t (fm1_v3 t)))),(63,.v (.bool (fm3_v63 t (fm1_v3 t) (fm2_v4 t (fm1_v3 t))))),(64,.v (.agg (tpL t))),(65,vI6 (arE t)),(5,vI6 (arE t)),(66,vI6 (arE t)),(67,.v (.bool (arE t != 0))),(69,.v (.bool (fm1_v3 t))),(89,.lp 1 2),(90,vL 9 (Tp.cs (tpA t))),(91,vI6 ((tpA t).length:Int)),(92,vI6 0)] [(1,tpV t)] e) (@tfT (t) (e) (ff) hwk hN0 h3) xr]) func131
    ·simp only [sFm_r0,iN h0,iP h1,iN h2,iN h3]; exact pu mdF (fun e=>[lf (S.mk [(0,.v (.agg (tpL t))),(1,.lp 1 0),(2,vI6 0)] [(1,tpV t)] e) (@fm1J (t) (e)) ⟨⟨W,W,tVv⟩,⟨⟨W,W,W,W,W,W,W,W,W,tVv⟩,tVv⟩,rfl⟩,lf (S.mk [(1,.lp 1 0),(2,vI6 0),(3,.v (.bool (fm1_v3 t)))] [(1,tpV t)] e) (@fm2J (t) (fm1_v3 t) (e)) ⟨⟨W,W,W,tVv⟩,⟨⟨W,W,W,W,W,W,W,W,W,tVv⟩,tVv⟩,rfl⟩,lf (S.mk [(1,.lp 1 0),(2,vI6 0),(3,.v (.bool (fm1_v3 t))),(4,.v (.bool (fm2_v4 t (fm1_v3 t))))] [(1,tpV t)] e) (@fm3J (t) (fm1_v3 t) (fm2_v4 t (fm1_v3 t)) (e)) ⟨⟨W,W,W,W,tVv⟩,⟨⟨W,W,W,W,W,W,W,W,W,tVv⟩,tVv⟩,rfl⟩,bf1 (bFT h0),cl (@arT (t)),nn1 h1,bf1 (bFT h2),sl (Tp.cs_len (tpA t)),lp (S.mk [(1,.lp 1 0),(2,vI6 0),(3,.v (.bool (fm1_v3 t))),(4,.v (.bool (fm2_v4 t (fm1_v3 t)))),(63,.v (.bool (fm3_v63 t (fm1_v3 t) (fm2_v4 t (fm1_v3 t))))),(64,.v (.agg (tpL t))),(65,vI6 (arE t)),(5,vI6 (arE t)),(66,vI6 (arE t)),(67,.v (.bool (arE t != 0))),(69,.v (.bool (fm1_v3 t))),(89,.lp 1 2),(90,vL 9 (Tp.cs (tpA t))),(91,vI6 ((tpA t).length:Int)),(92,vI6 0)] [(1,tpV t)] e) (@tfF (t) (e) (ff) hwk hN0 h3) xr]) func131
  ·simp only [sFm_r0,iN h0,iN h1]; exact pu mdF (fun e=>[lf (S.mk [(0,.v (.agg (tpL t))),(1,.lp 1 0),(2,vI6 0)] [(1,tpV t)] e) (@fm1J (t) (e)) ⟨⟨W,W,tVv⟩,⟨⟨W,W,W,W,W,W,W,W,W,tVv⟩,tVv⟩,rfl⟩,lf (S.mk [(1,.lp 1 0),(2,vI6 0),(3,.v (.bool (fm1_v3 t)))] [(1,tpV t)] e) (@fm2J (t) (fm1_v3 t) (e)) ⟨⟨W,W,W,tVv⟩,⟨⟨W,W,W,W,W,W,W,W,W,tVv⟩,tVv⟩,rfl⟩,lf (S.mk [(1,.lp 1 0),(2,vI6 0),(3,.v (.bool (fm1_v3 t))),(4,.v (.bool (fm2_v4 t (fm1_v3 t))))] [(1,tpV t)] e) (@fm3J (t) (fm1_v3 t) (fm2_v4 t (fm1_v3 t)) (e)) ⟨⟨W,W,W,W,tVv⟩,⟨⟨W,W,W,W,W,W,W,W,W,tVv⟩,tVv⟩,rfl⟩,bf1 (bFT h0),cl (@arT (t)),nt1 h1]) func131
def fmD:Nat->Tp->Int
 | 0,_=>0
 | d+1,t=>sFm_r0 t (fmD d)
theorem fm_ok:∀ (d:Nat) (t:Tp),bulkPs (tpL t)<d->d<=100000001->Pu 131 [.agg (tpL t)] (.ret (.int .i64 (fmD d t)))
 | 0,_,h,_=>by omega
 | d+1,t,h,hs=>sFm t (fmD d) (fun w hw=>fm_ok d w (by have:=tp_bulk t; have:=Tp.mem hw; omega) oM) (by have:=tp_bulk t; have:=Tp.bulk (tpA t); omega)
def fmF(t:Tp):Int:=fmD (bulkPs (tpL t)+1) t
theorem fmT(t:Tp)(hs:bulkPs (tpL t)<=100000000):Pu 131 [.agg (tpL t)] (.ret (.int .i64 (fmF t))):=fm_ok _ t oM oM
def tyC_r0(t:Tp):Int:=(if tdF t>40 then 8 else (fmF t))
theorem tyC(t:Tp)(hs:bulkPs (tpL t)<=100000000):Pu 85 [.agg (tpL t)] (rI (tyC_r0 t)):=by
 by_cases h0:tdF t>40
 ·simp only [tyC_r0,iP h0]; exact pm mdL [cl (@tdT (t) hs),dt1 h0] func85
 ·simp only [tyC_r0,iN h0]; exact pm mdL [cl (@tdT (t) hs),df1 h0,cl (@fmT (t) hs)] func85
def mdW:Md:=⟨fun t=>if t=91∨t=34∨t=72∨t=79∨t=86∨t=41 then some true else some false,fun _=>false⟩
abbrev wL(m:Mo):List PV:=[.sl 4 (Da.cs (moD m)),.sl 3 (Cl.cs (moC m)),.sl 12 (In.cs (moI m)),.sl 8 (Ms.cs (moM m)),.sl 6 (Qu.cs (moQ m)),.sl 25 (Df.cs (moF m)),.bool false,.int .i64 64]
def mks:List BA->List (BA × PV)
 | []=>[]
 | k::r=>(k,.bool true)::mks r
def memB(s:BA):List BA->Bool
 | []=>false
 | k::r=>decide (k=s)||memB s r
theorem mget_mks(s:BA):∀ks,(mget s (mks ks)).getD (.bool false) = .bool (memB s ks)
 | []=>rfl
 | k::r=>by
  by_cases h:k=s
  ·simp [mks,mget,memB,h]
  ·simp only [mks,mget,memB,h,if_false,decide_false,Bool.false_or]; exact mget_mks s r
def adN(s:BA):List BA->List BA
 | []=>[s]
 | k::r=>if k=s then k::r else k::adN s r
theorem mks_ad(s:BA):∀ks,mks (adN s ks)=mupd s (.bool true) (mks ks)
 | []=>rfl
 | k::r=>by
  by_cases h:k=s
  ·subst h; simp [adN,mks,mupd]
  ·simp only [adN,mks,mupd,h,if_false,mks_ad s r]
theorem lu_mks(s:BA)(ks:List BA):luRes false (mget s (mks ks)) (.bool false) = .bool (memB s ks):=mget_mks s ks
def twE(s:BA)(ks:List BA):Int:=if memB s ks=true then 4 else 0
def adK(s:BA)(ks:List BA):List BA:=if memB s ks=true then ks else adN s ks
theorem on05T(s:BA)(a b c d e:List BA):Ef 54 [.mp 0,.str s] [(0,[.mm (mks a)]),(1,[.mm (mks b)]),(2,[.mm (mks c)]),(3,[.mm (mks d)]),(4,[.mm (mks e)])] (.ret (.int .i64 (twE s a))) [(0,[.mm (mks (adK s a))]),(1,[.mm (mks b)]),(2,[.mm (mks c)]),(3,[.mm (mks d)]),(4,[.mm (mks e)])]:=by
 unfold twE adK
 cases h:memB s a with
 | true=>rw [iP rfl,iP rfl]; exact ef mdW [av (.v (luRes false (mget s (mks a)) (.bool false))) (.v (.bool (memB s a))) (by (simp only [lu_mks]; done)),bt (memB s a) h] func54
 | false=>rw [iN dD,iN dD,mks_ad]; exact ef mdW [av (.v (luRes false (mget s (mks a)) (.bool false))) (.v (.bool (memB s a))) (by (simp only [lu_mks]; done)),bf (memB s a) h] func54
theorem on25T(s:BA)(a b c d e:List BA):Ef 54 [.mp 2,.str s] [(0,[.mm (mks a)]),(1,[.mm (mks b)]),(2,[.mm (mks c)]),(3,[.mm (mks d)]),(4,[.mm (mks e)])] (.ret (.int .i64 (twE s c))) [(0,[.mm (mks a)]),(1,[.mm (mks b)]),(2,[.mm (mks (adK s c))]),(3,[.mm (mks d)]),(4,[.mm (mks e)])]:=by
 unfold twE adK
 cases h:memB s c with
 | true=>rw [iP rfl,iP rfl]; exact ef mdW [av (.v (luRes false (mget s (mks c)) (.bool false))) (.v (.bool (memB s c))) (by (simp only [lu_mks]; done)),bt (memB s c) h] func54
 | false=>rw [iN dD,iN dD,mks_ad]; exact ef mdW [av (.v (luRes false (mget s (mks c)) (.bool false))) (.v (.bool (memB s c))) (by (simp only [lu_mks]; done)),bf (memB s c) h] func54
theorem on35T(s:BA)(a b c d e:List BA):Ef 54 [.mp 3,.str s] [(0,[.mm (mks a)]),(1,[.mm (mks b)]),(2,[.mm (mks c)]),(3,[.mm (mks d)]),(4,[.mm (mks e)])] (.ret (.int .i64 (twE s d))) [(0,[.mm (mks a)]),(1,[.mm (mks b)]),(2,[.mm (mks c)]),(3,[.mm (mks (adK s d))]),(4,[.mm (mks e)])]:=by
 unfold twE adK
 cases h:memB s d with
 | true=>rw [iP rfl,iP rfl]; exact ef mdW [av (.v (luRes false (mget s (mks d)) (.bool false))) (.v (.bool (memB s d))) (by (simp only [lu_mks]; done)),bt (memB s d) h] func54
 | false=>rw [iN dD,iN dD,mks_ad]; exact ef mdW [av (.v (luRes false (mget s (mks d)) (.bool false))) (.v (.bool (memB s d))) (by (simp only [lu_mks]; done)),bf (memB s d) h] func54
theorem on45T(s:BA)(a b c d e:List BA):Ef 54 [.mp 4,.str s] [(0,[.mm (mks a)]),(1,[.mm (mks b)]),(2,[.mm (mks c)]),(3,[.mm (mks d)]),(4,[.mm (mks e)])] (.ret (.int .i64 (twE s e))) [(0,[.mm (mks a)]),(1,[.mm (mks b)]),(2,[.mm (mks c)]),(3,[.mm (mks d)]),(4,[.mm (mks (adK s e))])]:=by
 unfold twE adK
 cases h:memB s e with
 | true=>rw [iP rfl,iP rfl]; exact ef mdW [av (.v (luRes false (mget s (mks e)) (.bool false))) (.v (.bool (memB s e))) (by (simp only [lu_mks]; done)),bt (memB s e) h] func54
 | false=>rw [iN dD,iN dD,mks_ad]; exact ef mdW [av (.v (luRes false (mget s (mks e)) (.bool false))) (.v (.bool (memB s e))) (by (simp only [lu_mks]; done)),bf (memB s e) h] func54
theorem on16T(s:BA)(a b c d e f:List BA):Ef 54 [.mp 1,.str s] [(0,[.mm (mks a)]),(1,[.mm (mks b)]),(2,[.mm (mks c)]),(3,[.mm (mks d)]),(4,[.mm (mks e)]),(5,[.mm (mks f)])] (.ret (.int .i64 (twE s b))) [(0,[.mm (mks a)]),(1,[.mm (mks (adK s b))]),(2,[.mm (mks c)]),(3,[.mm (mks d)]),(4,[.mm (mks e)]),(5,[.mm (mks f)])]:=by
 unfold twE adK
 cases h:memB s b with
 | true=>rw [iP rfl,iP rfl]; exact ef mdW [av (.v (luRes false (mget s (mks b)) (.bool false))) (.v (.bool (memB s b))) (by (simp only [lu_mks]; done)),bt (memB s b) h] func54
 | false=>rw [iN dD,iN dD,mks_ad]; exact ef mdW [av (.v (luRes false (mget s (mks b)) (.bool false))) (.v (.bool (memB s b))) (by (simp only [lu_mks]; done)),bf (memB s b) h] func54
theorem on56T(s:BA)(a b c d e f:List BA):Ef 54 [.mp 5,.str s] [(0,[.mm (mks a)]),(1,[.mm (mks b)]),(2,[.mm (mks c)]),(3,[.mm (mks d)]),(4,[.mm (mks e)]),(5,[.mm (mks f)])] (.ret (.int .i64 (twE s f))) [(0,[.mm (mks a)]),(1,[.mm (mks b)]),(2,[.mm (mks c)]),(3,[.mm (mks d)]),(4,[.mm (mks e)]),(5,[.mm (mks (adK s f))])]:=by
 unfold twE adK
 cases h:memB s f with
 | true=>rw [iP rfl,iP rfl]; exact ef mdW [av (.v (luRes false (mget s (mks f)) (.bool false))) (.v (.bool (memB s f))) (by (simp only [lu_mks]; done)),bt (memB s f) h] func54
 | false=>rw [iN dD,iN dD,mks_ad]; exact ef mdW [av (.v (luRes false (mget s (mks f)) (.bool false))) (.v (.bool (memB s f))) (by (simp only [lu_mks]; done)),bf (memB s f) h] func54
theorem on02T(s:BA)(a b:List BA):Ef 54 [.mp 0,.str s] [(0,[.mm (mks a)]),(1,[.mm (mks b)])] (.ret (.int .i64 (twE s a))) [(0,[.mm (mks (adK s a))]),(1,[.mm (mks b)])]:=by
 unfold twE adK
 cases h:memB s a with
 | true=>rw [iP rfl,iP rfl]; exact ef mdW [av (.v (luRes false (mget s (mks a)) (.bool false))) (.v (.bool (memB s a))) (by (simp only [lu_mks]; done)),bt (memB s a) h] func54
 | false=>rw [iN dD,iN dD,mks_ad]; exact ef mdW [av (.v (luRes false (mget s (mks a)) (.bool false))) (.v (.bool (memB s a))) (by (simp only [lu_mks]; done)),bf (memB s a) h] func54
theorem on12T(s:BA)(a b:List BA):Ef 54 [.mp 1,.str s] [(0,[.mm (mks a)]),(1,[.mm (mks b)])] (.ret (.int .i64 (twE s b))) [(0,[.mm (mks a)]),(1,[.mm (mks (adK s b))])]:=by
 unfold twE adK
 cases h:memB s b with
 | true=>rw [iP rfl,iP rfl]; exact ef mdW [av (.v (luRes false (mget s (mks b)) (.bool false))) (.v (.bool (memB s b))) (by (simp only [lu_mks]; done)),bt (memB s b) h] func54
 | false=>rw [iN dD,iN dD,mks_ad]; exact ef mdW [av (.v (luRes false (mget s (mks b)) (.bool false))) (.v (.bool (memB s b))) (by (simp only [lu_mks]; done)),bf (memB s b) h] func54
def fi1(x:Int):Int:=(if x=0 then 0 else x)
theorem fs1_1(x:Int)(hx0:¬x=0):Pu 52 [.sl 1 [[pI x]]] (rI x):=
 pm mdL [kp,ur,bt true,kp,bt true,ab (x != 0) (bneT hx0)] func52
theorem fs1_2(x:Int)(hx0:x=0):Pu 52 [.sl 1 [[pI x]]] (rI 0):=
 pm mdL [kp,ur,bt true,kp,ab true,nn1 hx0,kp,bf false] func52
theorem fs1T(x:Int):Pu 52 [.sl 1 [[.int .i64 x]]] (.ret (.int .i64 (fi1 x))):=by
 unfold fi1
 by_cases h0:x=0
 ·rw [iP h0]; (first | exact fs1_1 x h0 | exact fs1_2 x h0)
 ·rw [iN h0]; (first | exact fs1_1 x h0 | exact fs1_2 x h0)
def fi2(x y:Int):Int:=(if x=0 then (if y=0 then 0 else y) else x)
theorem fs2_1(x y:Int)(hx0:¬x=0):Pu 52 [.sl 1 [[pI x],[pI y]]] (rI x):=
 pm mdL [kp,ur,bt true,kp,bt true,ab (x != 0) (bneT hx0)] func52
theorem fs2_2(x y:Int)(hx0:x=0)(hx1:¬y=0):Pu 52 [.sl 1 [[pI x],[pI y]]] (rI y):=
 pm mdL [kp,ur,bt true,kp,ab true,nn1 hx0,kp,bt true,kp,bt true,ab (y != 0) (bneT hx1)] func52
theorem fs2_3(x y:Int)(hx0:x=0)(hx1:y=0):Pu 52 [.sl 1 [[pI x],[pI y]]] (rI 0):=
 pm mdL [kp,ur,bt true,kp,ab true,nn1 hx0,kp,bt true,kp,ab true,nn1 hx1,kp,bf false] func52
theorem fs2T(x y:Int):Pu 52 [.sl 1 [[.int .i64 x],[.int .i64 y]]] (.ret (.int .i64 (fi2 x y))):=by
 unfold fi2
 by_cases h0:x=0
 ·rw [iP h0]
  by_cases h1:y=0
  ·rw [iP h1]; (first | exact fs2_1 x y h0 h1 | exact fs2_2 x y h0 h1 | exact fs2_3 x y h0 h1)
  ·rw [iN h1]; (first | exact fs2_1 x y h0 h1 | exact fs2_2 x y h0 h1 | exact fs2_3 x y h0 h1)
 ·rw [iN h0]; (first | exact fs2_1 x y h0 | exact fs2_2 x y h0 | exact fs2_3 x y h0)
def fi3(x y z:Int):Int:=(if x=0 then (if y=0 then (if z=0 then 0 else z) else y) else x)
theorem fs3_1(x y z:Int)(hx0:¬x=0):Pu 52 [.sl 1 [[pI x],[pI y],[pI z]]] (rI x):=
 pm mdL [kp,ur,bt true,kp,bt true,ab (x != 0) (bneT hx0)] func52
section
variable (x y z:Int) (hx0:x=0)
include x y z hx0
theorem fs3_2(hx1:¬y=0):Pu 52 [.sl 1 [[pI x],[pI y],[pI z]]] (rI y):=
 pm mdL [kp,ur,bt true,kp,ab true,nn1 hx0,kp,bt true,kp,bt true,ab (y != 0) (bneT hx1)] func52
theorem fs3_3(hx1:y=0)(hx2:¬z=0):Pu 52 [.sl 1 [[pI x],[pI y],[pI z]]] (rI z):=
 pm mdL [kp,ur,bt true,kp,ab true,nn1 hx0,kp,bt true,kp,ab true,nn1 hx1,kp,bt true,kp,bt true,ab (z != 0) (bneT hx2)] func52
theorem fs3_4(hx1:y=0)(hx2:z=0):Pu 52 [.sl 1 [[pI x],[pI y],[pI z]]] (rI 0):=
 pm mdL [kp,ur,bt true,kp,ab true,nn1 hx0,kp,bt true,kp,ab true,nn1 hx1,kp,bt true,kp,ab true,nn1 hx2,kp,bf false] func52
end
theorem fs3T(x y z:Int):Pu 52 [.sl 1 [[.int .i64 x],[.int .i64 y],[.int .i64 z]]] (.ret (.int .i64 (fi3 x y z))):=by
 unfold fi3
 by_cases h0:x=0
 ·rw [iP h0]
  by_cases h1:y=0
  ·rw [iP h1]
   by_cases h2:z=0
   ·rw [iP h2]; (first | exact fs3_1 x y z h0 h1 h2 | exact fs3_2 x y z h0 h1 h2 | exact fs3_3 x y z h0 h1 h2 | exact fs3_4 x y z h0 h1 h2)
   ·rw [iN h2]; (first | exact fs3_1 x y z h0 h1 h2 | exact fs3_2 x y z h0 h1 h2 | exact fs3_3 x y z h0 h1 h2 | exact fs3_4 x y z h0 h1 h2)
  ·rw [iN h1]; (first | exact fs3_1 x y z h0 h1 | exact fs3_2 x y z h0 h1 | exact fs3_3 x y z h0 h1 | exact fs3_4 x y z h0 h1)
 ·rw [iN h0]; (first | exact fs3_1 x y z h0 | exact fs3_2 x y z h0 | exact fs3_3 x y z h0 | exact fs3_4 x y z h0)
def fi5(x y z u t:Int):Int:=(if x=0 then (if y=0 then (if z=0 then (if u=0 then (if t=0 then 0 else t) else u) else z) else y) else x)
section
variable (x y z u t:Int)
include x y z u t
theorem fs5_1(hx0:¬x=0):Pu 52 [.sl 1 [[pI x],[pI y],[pI z],[pI u],[pI t]]] (rI x):=
 pm mdL [kp,ur,bt true,kp,bt true,ab (x != 0) (bneT hx0)] func52
theorem fs5_2(hx0:x=0)(hx1:¬y=0):Pu 52 [.sl 1 [[pI x],[pI y],[pI z],[pI u],[pI t]]] (rI y):=
 pm mdL [kp,ur,bt true,kp,ab true,nn1 hx0,kp,bt true,kp,bt true,ab (y != 0) (bneT hx1)] func52
theorem fs5_3(hx0:x=0)(hx1:y=0)(hx2:¬z=0):Pu 52 [.sl 1 [[pI x],[pI y],[pI z],[pI u],[pI t]]] (rI z):=
 pm mdL [kp,ur,bt true,kp,ab true,nn1 hx0,kp,bt true,kp,ab true,nn1 hx1,kp,bt true,kp,bt true,ab (z != 0) (bneT hx2)] func52
theorem fs5_4(hx0:x=0)(hx1:y=0)(hx2:z=0)(hx3:¬u=0):Pu 52 [.sl 1 [[pI x],[pI y],[pI z],[pI u],[pI t]]] (rI u):=
 pm mdL [kp,ur,bt true,kp,ab true,nn1 hx0,kp,bt true,kp,ab true,nn1 hx1,kp,bt true,kp,ab true,nn1 hx2,kp,bt true,kp,bt true,ab (u != 0) (bneT hx3)] func52
theorem fs5_5(hx0:x=0)(hx1:y=0)(hx2:z=0)(hx3:u=0)(hx4:¬t=0):Pu 52 [.sl 1 [[pI x],[pI y],[pI z],[pI u],[pI t]]] (rI t):=
 pm mdL [kp,ur,bt true,kp,ab true,nn1 hx0,kp,bt true,kp,ab true,nn1 hx1,kp,bt true,kp,ab true,nn1 hx2,kp,bt true,kp,ab true,nn1 hx3,kp,bt true,kp,bt true,ab (t != 0) (bneT hx4)] func52
theorem fs5_6(hx0:x=0)(hx1:y=0)(hx2:z=0)(hx3:u=0)(hx4:t=0):Pu 52 [.sl 1 [[pI x],[pI y],[pI z],[pI u],[pI t]]] (rI 0):=
 pm mdL [kp,ur,bt true,kp,ab true,nn1 hx0,kp,bt true,kp,ab true,nn1 hx1,kp,bt true,kp,ab true,nn1 hx2,kp,bt true,kp,ab true,nn1 hx3,kp,bt true,kp,ab true,nn1 hx4,kp,bf false] func52
end
theorem fs5T(x y z u t:Int):Pu 52 [.sl 1 [[.int .i64 x],[.int .i64 y],[.int .i64 z],[.int .i64 u],[.int .i64 t]]] (.ret (.int .i64 (fi5 x y z u t))):=by
 unfold fi5
 by_cases h0:x=0
 ·rw [iP h0]
  by_cases h1:y=0
  ·rw [iP h1]
   by_cases h2:z=0
   ·rw [iP h2]
    by_cases h3:u=0
    ·rw [iP h3]
     by_cases h4:t=0
     ·rw [iP h4]; (first | exact fs5_1 x y z u t h0 h1 h2 h3 h4 | exact fs5_2 x y z u t h0 h1 h2 h3 h4 | exact fs5_3 x y z u t h0 h1 h2 h3 h4 | exact fs5_4 x y z u t h0 h1 h2 h3 h4 | exact fs5_5 x y z u t h0 h1 h2 h3 h4 | exact fs5_6 x y z u t h0 h1 h2 h3 h4)
     ·rw [iN h4]; (first | exact fs5_1 x y z u t h0 h1 h2 h3 h4 | exact fs5_2 x y z u t h0 h1 h2 h3 h4 | exact fs5_3 x y z u t h0 h1 h2 h3 h4 | exact fs5_4 x y z u t h0 h1 h2 h3 h4 | exact fs5_5 x y z u t h0 h1 h2 h3 h4 | exact fs5_6 x y z u t h0 h1 h2 h3 h4)
    ·rw [iN h3]; (first | exact fs5_1 x y z u t h0 h1 h2 h3 | exact fs5_2 x y z u t h0 h1 h2 h3 | exact fs5_3 x y z u t h0 h1 h2 h3 | exact fs5_4 x y z u t h0 h1 h2 h3 | exact fs5_5 x y z u t h0 h1 h2 h3 | exact fs5_6 x y z u t h0 h1 h2 h3)
   ·rw [iN h2]; (first | exact fs5_1 x y z u t h0 h1 h2 | exact fs5_2 x y z u t h0 h1 h2 | exact fs5_3 x y z u t h0 h1 h2 | exact fs5_4 x y z u t h0 h1 h2 | exact fs5_5 x y z u t h0 h1 h2 | exact fs5_6 x y z u t h0 h1 h2)
  ·rw [iN h1]; (first | exact fs5_1 x y z u t h0 h1 | exact fs5_2 x y z u t h0 h1 | exact fs5_3 x y z u t h0 h1 | exact fs5_4 x y z u t h0 h1 | exact fs5_5 x y z u t h0 h1 | exact fs5_6 x y z u t h0 h1)
 ·rw [iN h0]; (first | exact fs5_1 x y z u t h0 | exact fs5_2 x y z u t h0 | exact fs5_3 x y z u t h0 | exact fs5_4 x y z u t h0 | exact fs5_5 x y z u t h0 | exact fs5_6 x y z u t h0)
def whE(b:Bool)(x:Int):Int:=if b=true then x else 0
theorem whT(b:Bool)(x:Int):Pu 71 [.bool b,.int .i64 x] (.ret (.int .i64 (whE b x))):=by
 unfold whE
 cases b with
 | true=>rw [iP rfl]; exact pm mdL [bt true rfl] func71
 | false=>rw [iN dD]; exact pm mdL [bf false rfl] func71
theorem wNm(m:Mo)(s:BA):Pu 53 [.agg (wL m),.str s] (rI (erN (nameB s))):=
 pm mdW [bf false,cl (@nCkT (s))] func53
theorem wTi(m:Mo)(s:BA):Pu 70 [.agg (wL m),.str s] (rI (erN (titleB s))):=
 pm mdW [bf false,cl (@nTlT (s))] func70
theorem gX{α:Type} [Inhabited α] {l:List α} {i:Nat} (h:i<l.length):l.getD i default∈l:=getD_mem h
def rowG{α:Type}(gc:Nat->α->PV)(z:Nat)(x:α):List PV:=(List.range z).map fun i=>gc i x
def frG{α σ:Type}(ge:Nat->α->σ->Int)(gs:Nat->α->σ->σ):List α->Nat->σ->Int × σ
 | [],_,st=>(0,st)
 | x::r,i,st=>if ge i x st=0 then frG ge gs r (i+1) (gs i x st) else (ge i x st,gs i x st)
structure EI where
 F:Nat
 z:Nat
 a:Bool
 fn:Func
 hf:prog.funcs[F]?=some fn
def argG{α:Type}(q:EI)(gc:Nat->α->PV)(w:α):PV:=match q.a with
 | true => .agg (rowG gc q.z w)
 | false=>gc 0 w
abbrev eS(g:Nat)(caps:List PV)(z:Nat)(cs:List (List PV))(len r j:Int)(e:Ext):S:=⟨[(1,.v (.fn (.func g) [] caps)),(4,.v (.int .i64 r)),(8,.v (.sl z cs)),(9,.v (.int .i64 len)),(10,.v (.int .i64 j))],[],e⟩
abbrev eQ(g:Nat)(caps:List PV)(z:Nat)(cs:List (List PV))(len r:Int)(e:Ext):S:=⟨[(1,.v (.fn (.func g) [] caps)),(4,.v (.int .i64 r)),(8,.v (.sl z cs)),(9,.v (.int .i64 len))],[],e⟩
noncomputable def eL {α:Type} (q:EI) (gc:Nat->α->PV) (w:α) (cs:List (List PV)) (i len:Int) (g:Nat) (caps:List PV) (r:Int) (e e':Ext) (h1:i<len) (h2:(0:Int)<=i/\i<(cs.length:Int)) (h3:cs.getD i.toNat []=rowG gc q.z w) (h4:Ef g (.int .i64 i::argG q gc w::caps) e (.ret (.int .i64 r)) e'):List (Stp prog):=
 [dt1 h1,am1 h2,ar (cs.getD i.toNat []) (rowG gc q.z w) (by rw [h3]),ce h4]
structure EK (q:EI):Prop where
 k1:∀ {α:Type} (gc:Nat->α->PV) (w:α) (cs:List (List PV)) (i len:Int) (g:Nat) (caps:List PV) (r:Int) (e e':Ext) (h1:i<len) (h2:(0:Int)<=i/\i<(cs.length:Int)) (h3:cs.getD i.toNat []=rowG gc q.z w) (h4:Ef g (.int .i64 i::argG q gc w::caps) e (.ret (.int .i64 r)) e') (h5:r=0) (h6:i+1<=9223372036854775807),
  (evCX prog mdL 23 50 (loopF q.fn 0) (eS g caps q.z cs len 0 i e) (asS (eL q gc w cs i len g caps r e e' h1 h2 h3 h4++[nn1 h5,wr (i+1)]))).keep [1,4,8,9,10] [] = .ok (.normal,eS g caps q.z cs len 0 (i+1) e') [] (osS (eL q gc w cs i len g caps r e e' h1 h2 h3 h4++[nn1 h5,wr (i+1)]))
 k2:∀ {α:Type} (gc:Nat->α->PV) (w:α) (cs:List (List PV)) (i len:Int) (g:Nat) (caps:List PV) (r:Int) (e e':Ext) (h1:i<len) (h2:(0:Int)<=i/\i<(cs.length:Int)) (h3:cs.getD i.toNat []=rowG gc q.z w) (h4:Ef g (.int .i64 i::argG q gc w::caps) e (.ret (.int .i64 r)) e') (h5:¬r=0),
  (evCX prog mdL 23 50 (loopF q.fn 0) (eS g caps q.z cs len 0 i e) (asS (eL q gc w cs i len g caps r e e' h1 h2 h3 h4++[nt1 h5]))).keep [1,4,8,9] [] = .ok (.ret,eQ g caps q.z cs len r e') [] (osS (eL q gc w cs i len g caps r e e' h1 h2 h3 h4++[nt1 h5]))
 k3:∀ (cs:List (List PV)) (i len:Int) (g:Nat) (caps:List PV) (e:Ext) (h:¬i<len),(evCX prog mdL 23 50 (loopF q.fn 0) (eS g caps q.z cs len 0 i e) (asS (P:=prog) [df (i<len) h])).keep [1,4,8,9] [] = .ok (.exit 0,eQ g caps q.z cs len 0 e) [] (osS (P:=prog) [df (i<len) h])
 k4:∀ (cs:List (List PV)) (len:Nat) (hl:cs.length=len) (g:Nat) (caps:List PV) (r:Int) (e e':Ext) (h:(Ob.loop 23 (loopF q.fn 0) (eS g caps q.z cs len 0 0 e) .ret (eQ g caps q.z cs len r e')).ok prog) (hle:LeX (eS g caps q.z cs len 0 0 e) ⟨(0,.v (.sl q.z cs))::(eS g caps q.z cs len 0 0 e).tmps,[],e⟩),
  evFX prog mdL 50 q.fn [.sl q.z cs,.fn (.func g) [] caps] e (asS (P:=prog) [sl hl,lp ⟨(0,.v (.sl q.z cs))::(eS g caps q.z cs len 0 0 e).tmps,[],e⟩ h hle]) = .ok (.ret (.int .i64 r),e') [] (osS (P:=prog) [sl hl,lp ⟨(0,.v (.sl q.z cs))::(eS g caps q.z cs len 0 0 e).tmps,[],e⟩ h hle])
 k5:∀ (cs:List (List PV)) (len:Nat) (hl:cs.length=len) (g:Nat) (caps:List PV) (e e':Ext) (h:(Ob.loop 23 (loopF q.fn 0) (eS g caps q.z cs len 0 0 e) (.exit 0) (eQ g caps q.z cs len 0 e')).ok prog) (hle:LeX (eS g caps q.z cs len 0 0 e) ⟨(0,.v (.sl q.z cs))::(eS g caps q.z cs len 0 0 e).tmps,[],e⟩),
  evFX prog mdL 50 q.fn [.sl q.z cs,.fn (.func g) [] caps] e (asS (P:=prog) [sl hl,lp ⟨(0,.v (.sl q.z cs))::(eS g caps q.z cs len 0 0 e).tmps,[],e⟩ h hle]) = .ok (.ret (.int .i64 0),e') [] (osS (P:=prog) [sl hl,lp ⟨(0,.v (.sl q.z cs))::(eS g caps q.z cs len 0 0 e).tmps,[],e⟩ h hle])
 k6:(isFn prog q.F&&fnOK q.fn)=true
 k7:codeOK 23 (loopF q.fn 0)=true
noncomputable def eachs:List EI:=[⟨124,1,false,f124,func124⟩,⟨78,9,true,f78,func78⟩,⟨244,10,true,f244,func244⟩,⟨209,9,true,f209,func209⟩,⟨91,6,true,f91,func91⟩,⟨148,2,true,f148,func148⟩,⟨44,12,true,f44,func44⟩,⟨73,2,true,f73,func73⟩,⟨150,2,true,f150,func150⟩,⟨152,10,true,f152,func152⟩,⟨76,3,true,f76,func76⟩,⟨83,10,true,f83,func83⟩,⟨38,4,true,f38,func38⟩,⟨41,3,true,f41,func41⟩,⟨47,8,true,f47,func47⟩,⟨50,6,true,f50,func50⟩,⟨56,25,true,f56,func56⟩,⟨211,7,true,f211,func211⟩]
theorem each_k:∀q∈eachs,EK q:=by
 intro q hq
 simp only [eachs,List.mem_cons,List.not_mem_nil,or_false] at hq
 rcases hq with rfl | rfl | rfl | rfl | rfl | rfl | rfl | rfl | rfl | rfl | rfl | rfl | rfl | rfl | rfl | rfl | rfl | rfl <;>
 exact ⟨by intros; kernel_rfl,by intros; kernel_rfl,by intros; kernel_rfl,by intros; kernel_rfl,by intros; kernel_rfl,by kernel_rfl,by kernel_rfl⟩
theorem rowG_at{α:Type} [Inhabited α] (gc:Nat->α->PV) (z:Nat) {l:List α} {i:Nat} (h:i<l.length):(l.map (rowG gc z)).getD i []=rowG gc z (l.getD i default):=by simp [List.getD,h]
theorem each_ok(q:EI)(hq:q∈eachs){α σ:Type} [Inhabited α] (gc:Nat->α->PV) (l:List α) (g:Nat) (caps:List PV) (X:σ->Ext) (ge:Nat->α->σ->Int) (gs:Nat->α->σ->σ) (hwk:∀ (i:Nat) (w:α) (st:σ),w∈l->Ef g (.int .i64 (i:Int)::argG q gc w::caps) (X st) (.ret (.int .i64 (ge i w st))) (X (gs i w st))) (hN:l.length<=1000000000) (st:σ) :
  Ef q.F [.sl q.z (l.map (rowG gc q.z)),.fn (.func g) [] caps] (X st) (.ret (.int .i64 (frG ge gs l 0 st).1)) (X (frG ge gs l 0 st).2):=by
 have K:=each_k q hq
 have hlen:(l.map (rowG gc q.z)).length=l.length:=List.length_map _
 have lp:(Ob.loop 23 (loopF q.fn 0) (eS g caps q.z (l.map (rowG gc q.z)) l.length 0 ((0:Nat):Int) (X st)) (if (frG ge gs (l.drop 0) 0 st).1=0 then PExit.exit 0 else .ret) (eQ g caps q.z (l.map (rowG gc q.z)) l.length (frG ge gs (l.drop 0) 0 st).1 (X (frG ge gs (l.drop 0) 0 st).2))).ok prog:=by
  refine Ob.loop_of (P:=prog) (α:={ zz:Nat × σ // zz.1<=l.length }) (fun zz=>eS g caps q.z (l.map (rowG gc q.z)) l.length 0 (zz.1.1:Int) (X zz.1.2)) (fun zz=>l.length - zz.1.1) (fun zz=>(if (frG ge gs (l.drop zz.1.1) zz.1.1 zz.1.2).1=0 then PExit.exit 0 else .ret,eQ g caps q.z (l.map (rowG gc q.z)) l.length (frG ge gs (l.drop zz.1.1) zz.1.1 zz.1.2).1 (X (frG ge gs (l.drop zz.1.1) zz.1.1 zz.1.2).2))) ?_ ⟨(0,st),Nat.zero_le _⟩
  clear st
  rintro ⟨⟨i,st⟩,hi⟩ cx hcx
  simp only at hi ⊢
  rcases Nat.lt_or_ge i l.length with hlt | hge
  ·have hd:=drop_at hlt
   have hw:=hwk i (l.getD i default) st (gX hlt)
   have h2:(0:Int)<=(i:Int)/\(i:Int)<((l.map (rowG gc q.z)).length:Int):=by rw [hlen]; omega
   have h3:(l.map (rowG gc q.z)).getD ((i:Int)).toNat []=rowG gc q.z (l.getD i default):=by rw [Int.toNat_natCast]; exact rowG_at gc q.z hlt
   by_cases h0:ge i (l.getD i default) st=0
   ·have hr:frG ge gs (l.drop i) i st=frG ge gs (l.drop (i+1)) (i+1) (gs i (l.getD i default) st):=by rw [hd,frG,iP h0]
    exact pw mdL 23 _ [1,4,8,9,10] [] hcx (.inl ⟨rfl,⟨(i+1,gs i (l.getD i default) st),by simp only; omega⟩,by simp only; omega,⟨⟨W,W,W,W,W,tVv⟩,trivial,rfl⟩,by simp only; rw [hr]⟩) K.k7 (K.k1 gc (l.getD i default) _ i l.length g caps _ (X st) _ oM h2 h3 hw h0 oM)
   ·have hr:frG ge gs (l.drop i) i st=(ge i (l.getD i default) st,gs i (l.getD i default) st):=by rw [hd,frG,iN h0]
    refine pw mdL 23 _ [1,4,8,9] [] hcx (.inr ?_) K.k7 (K.k2 gc (l.getD i default) _ i l.length g caps _ (X st) _ oM h2 h3 hw h0)
    rw [hr]
    simp only [iN h0]
    exact ⟨by simp,trivial,⟨⟨W,W,W,W,tVv⟩,trivial,rfl⟩⟩
  ·have he:i=l.length:=by omega
   subst he
   have hr:frG ge gs (l.drop l.length) l.length st=(0,st):=by rw [List.drop_length,frG]
   refine pw mdL 23 _ [1,4,8,9] [] hcx (.inr ?_) K.k7 (K.k3 _ _ l.length g caps (X st) oM)
   rw [hr]
   exact ⟨by simp,rfl,xr⟩
 rw [List.drop_zero] at lp
 have hle:LeX (eS g caps q.z (l.map (rowG gc q.z)) l.length 0 0 (X st)) ⟨(0,.v (.sl q.z (l.map (rowG gc q.z))))::(eS g caps q.z (l.map (rowG gc q.z)) l.length 0 0 (X st)).tmps,[],X st⟩:=⟨⟨W,W,W,W,W,tVv⟩,trivial,rfl⟩
 by_cases h:(frG ge gs l 0 st).1=0
 ·rw [iP h] at lp
  rw [h] at lp ⊢
  exact ef mdL _ q.hf K.k6 (K.k5 _ _ hlen g caps (X st) _ lp hle)
 ·rw [iN h] at lp
  exact ef mdL _ q.hf K.k6 (K.k4 _ _ hlen g caps _ (X st) _ lp hle)
theorem frG_E{α:Type}(ge:α->Int):∀ (l:List α) (i:Nat),(frG (fun _ x (_:Unit)=>ge x) (fun _ _ _=>()) l i ()).1=frE ge l
 | [],_=>rfl
 | x::r,i=>by
  have ih:=frG_E ge r (i+1)
  by_cases h:ge x=0
  ·simp only [frG,frE,h,if_true]; exact ih
  ·simp only [frG,frE,h,if_false]
theorem each_E(q:EI)(hq:q∈eachs){α:Type} [Inhabited α] (gc:Nat->α->PV) (l:List α) (g:Nat) (caps:List PV) (ge:α->Int) (hwk:∀ (k:Int) (w:α),w∈l->Pu g (.int .i64 k::argG q gc w::caps) (.ret (.int .i64 (ge w)))) (hN:l.length<=1000000000) :
  Pu q.F [.sl q.z (l.map (rowG gc q.z)),.fn (.func g) [] caps] (.ret (.int .i64 (frE ge l))):=by
 have h:=fun e=>each_ok q hq gc l g caps (fun _:Unit=>e) (fun _ x _=>ge x) (fun _ _ _=>()) (fun i w _ hw=>⟨(hwk i w hw).1,(hwk i w hw).2 e⟩) hN ()
 rw [<-frG_E ge l 0]
 exact ⟨(h []).1,fun e=>(h e).2⟩
structure St where
 a:List BA
 b:List BA
 c:List BA
 d:List BA
 f:List BA
 g:List BA
instance:Inhabited St:=⟨⟨[],[],[],[],[],[]⟩⟩
def frS{α:Type}(ge:α->St->Int)(gs:α->St->St):List α->St->Int × St
 | [],st=>(0,st)
 | x::r,st=>if ge x st=0 then frS ge gs r (gs x st) else (ge x st,gs x st)
theorem frG_S{α:Type}(ge:α->St->Int)(gs:α->St->St):∀ (l:List α) (i:Nat) (st:St),frG (fun _ x st=>ge x st) (fun _ x st=>gs x st) l i st=frS ge gs l st
 | [],_,_=>rfl
 | x::r,i,st=>by
  have ih:=frG_S ge gs r (i+1) (gs x st)
  by_cases h:ge x st=0
  ·simp only [frG,frS,h,if_true]; exact ih
  ·simp only [frG,frS,h,if_false]
theorem cs_row{α:Type}(mk:α->List PV)(z:Nat)(h:∀x,rowG (fun i x=>(mk x).getD i .nilp) z x=mk x)(l:List α):l.map (rowG (fun i x=>(mk x).getD i .nilp) z)=l.map mk:=by simp only [funext h]
theorem eM{n:Nat}{q:EI}(h:eachs[n]?=some q):q∈eachs:=List.mem_of_getElem? h
theorem eaNT(l:List BA)(g:Nat)(caps:List PV)(ge:BA->Int)(hwk:∀ (k:Int) (w:BA),w∈l->Pu g (.int .i64 k :: .str w::caps) (.ret (.int .i64 (ge w))))(hN:l.length<=1000000000):Pu 124 [.sl 1 (nmsC l),.fn (.func g) [] caps] (.ret (.int .i64 (frE ge l))):=by
 have h:=each_E ⟨124,1,false,f124,func124⟩ (eM (n:=0) rfl) (fun i x=>((fun s:BA=>[PV.str s]) x).getD i .nilp) l g caps ge (fun k w hw=>hwk k w hw) hN
 rw [cs_row (fun s:BA=>[PV.str s]) 1 (fun _=>rfl) l,<-nmsC_eq] at h
 exact h
theorem eaTT(l:List Tp)(g:Nat)(caps:List PV)(ge:Tp->Int)(hwk:∀ (k:Int) (w:Tp),w∈l->Pu g (.int .i64 k :: .agg (tpL w)::caps) (.ret (.int .i64 (ge w))))(hN:l.length<=1000000000):Pu 78 [.sl 9 (Tp.cs l),.fn (.func g) [] caps] (.ret (.int .i64 (frE ge l))):=by
 have h:=each_E ⟨78,9,true,f78,func78⟩ (eM (n:=1) rfl) (fun i x=>(tpL x).getD i .nilp) l g caps ge (fun k w hw=>hwk k w hw) hN
 rw [cs_row tpL 9 (fun _=>rfl) l,<-Tp.cs_eq] at h
 exact h
theorem eaPT(l:List Pm)(g:Nat)(caps:List PV)(ge:Pm->Int)(hwk:∀ (k:Int) (w:Pm),w∈l->Pu g (.int .i64 k :: .agg (pmL w)::caps) (.ret (.int .i64 (ge w))))(hN:l.length<=1000000000):Pu 244 [.sl 10 (Pm.cs l),.fn (.func g) [] caps] (.ret (.int .i64 (frE ge l))):=by
 have h:=each_E ⟨244,10,true,f244,func244⟩ (eM (n:=2) rfl) (fun i x=>(pmL x).getD i .nilp) l g caps ge (fun k w hw=>hwk k w hw) hN
 rw [cs_row pmL 10 (fun _=>rfl) l,<-Pm.cs_eq] at h
 exact h
theorem eaAT(l:List Al)(g:Nat)(caps:List PV)(ge:Al->Int)(hwk:∀ (k:Int) (w:Al),w∈l->Pu g (.int .i64 k :: .agg (alL w)::caps) (.ret (.int .i64 (ge w))))(hN:l.length<=1000000000):Pu 209 [.sl 9 (Al.cs l),.fn (.func g) [] caps] (.ret (.int .i64 (frE ge l))):=by
 have h:=each_E ⟨209,9,true,f209,func209⟩ (eM (n:=3) rfl) (fun i x=>(alL x).getD i .nilp) l g caps ge (fun k w hw=>hwk k w hw) hN
 rw [cs_row alL 9 (fun _=>rfl) l,<-Al.cs_eq] at h
 exact h
theorem eaBT(l:List Cs)(g:Nat)(caps:List PV)(ge:Cs->Int)(hwk:∀ (k:Int) (w:Cs),w∈l->Pu g (.int .i64 k :: .agg (csL w)::caps) (.ret (.int .i64 (ge w))))(hN:l.length<=1000000000):Pu 91 [.sl 6 (Cs.cs l),.fn (.func g) [] caps] (.ret (.int .i64 (frE ge l))):=by
 have h:=each_E ⟨91,6,true,f91,func91⟩ (eM (n:=4) rfl) (fun i x=>(csL x).getD i .nilp) l g caps ge (fun k w hw=>hwk k w hw) hN
 rw [cs_row csL 6 (fun _=>rfl) l,<-Cs.cs_eq] at h
 exact h
theorem eaWT(l:List Vr)(g:Nat)(caps:List PV)(ge:Vr->Int)(hwk:∀ (k:Int) (w:Vr),w∈l->Pu g (.int .i64 k :: .agg (vrL w)::caps) (.ret (.int .i64 (ge w))))(hN:l.length<=1000000000):Pu 148 [.sl 2 (Vr.cs l),.fn (.func g) [] caps] (.ret (.int .i64 (frE ge l))):=by
 have h:=each_E ⟨148,2,true,f148,func148⟩ (eM (n:=5) rfl) (fun i x=>(vrL x).getD i .nilp) l g caps ge (fun k w hw=>hwk k w hw) hN
 rw [cs_row vrL 2 (fun _=>rfl) l,<-Vr.cs_eq] at h
 exact h
theorem eaIT(l:List In)(g:Nat)(caps:List PV)(ge:In->Int)(hwk:∀ (k:Int) (w:In),w∈l->Pu g (.int .i64 k :: .agg (inL w)::caps) (.ret (.int .i64 (ge w))))(hN:l.length<=1000000000):Pu 44 [.sl 12 (In.cs l),.fn (.func g) [] caps] (.ret (.int .i64 (frE ge l))):=by
 have h:=each_E ⟨44,12,true,f44,func44⟩ (eM (n:=6) rfl) (fun i x=>(inL x).getD i .nilp) l g caps ge (fun k w hw=>hwk k w hw) hN
 rw [cs_row inL 12 (fun _=>rfl) l,<-In.cs_eq] at h
 exact h
theorem esVT(l:List Vr)(g:Nat)(caps:List PV)(X:St->Ext)(ge:Vr->St->Int)(gs:Vr->St->St)(hwk:∀ (k:Int) (w:Vr) (st:St),w∈l->Ef g (.int .i64 k :: .agg (vrL w)::caps) (X st) (.ret (.int .i64 (ge w st))) (X (gs w st)))(s0:St)(hN:l.length<=1000000000):Ef 73 [.sl 2 (Vr.cs l),.fn (.func g) [] caps] (X s0) (.ret (.int .i64 (frS ge gs l s0).1)) (X (frS ge gs l s0).2):=by
 have h:=each_ok ⟨73,2,true,f73,func73⟩ (eM (n:=7) rfl) (fun i x=>(vrL x).getD i .nilp) l g caps X (fun _ x st=>ge x st) (fun _ x st=>gs x st) (fun k w st hw=>hwk k w st hw) hN s0
 rw [frG_S,cs_row vrL 2 (fun _=>rfl) l,<-Vr.cs_eq] at h
 exact h
theorem esQT(l:List Vr)(g:Nat)(caps:List PV)(X:St->Ext)(ge:Vr->St->Int)(gs:Vr->St->St)(hwk:∀ (k:Int) (w:Vr) (st:St),w∈l->Ef g (.int .i64 k :: .agg (vrL w)::caps) (X st) (.ret (.int .i64 (ge w st))) (X (gs w st)))(s0:St)(hN:l.length<=1000000000):Ef 150 [.sl 2 (Vr.cs l),.fn (.func g) [] caps] (X s0) (.ret (.int .i64 (frS ge gs l s0).1)) (X (frS ge gs l s0).2):=by
 have h:=each_ok ⟨150,2,true,f150,func150⟩ (eM (n:=8) rfl) (fun i x=>(vrL x).getD i .nilp) l g caps X (fun _ x st=>ge x st) (fun _ x st=>gs x st) (fun k w st hw=>hwk k w st hw) hN s0
 rw [frG_S,cs_row vrL 2 (fun _=>rfl) l,<-Vr.cs_eq] at h
 exact h
theorem esOT(l:List Bo)(g:Nat)(caps:List PV)(X:St->Ext)(ge:Bo->St->Int)(gs:Bo->St->St)(hwk:∀ (k:Int) (w:Bo) (st:St),w∈l->Ef g (.int .i64 k :: .agg (boL w)::caps) (X st) (.ret (.int .i64 (ge w st))) (X (gs w st)))(s0:St)(hN:l.length<=1000000000):Ef 152 [.sl 10 (Bo.cs l),.fn (.func g) [] caps] (X s0) (.ret (.int .i64 (frS ge gs l s0).1)) (X (frS ge gs l s0).2):=by
 have h:=each_ok ⟨152,10,true,f152,func152⟩ (eM (n:=9) rfl) (fun i x=>(boL x).getD i .nilp) l g caps X (fun _ x st=>ge x st) (fun _ x st=>gs x st) (fun k w st hw=>hwk k w st hw) hN s0
 rw [frG_S,cs_row boL 10 (fun _=>rfl) l,<-Bo.cs_eq] at h
 exact h
theorem esCT(l:List Cn)(g:Nat)(caps:List PV)(X:St->Ext)(ge:Cn->St->Int)(gs:Cn->St->St)(hwk:∀ (k:Int) (w:Cn) (st:St),w∈l->Ef g (.int .i64 k :: .agg (cnL w)::caps) (X st) (.ret (.int .i64 (ge w st))) (X (gs w st)))(s0:St)(hN:l.length<=1000000000):Ef 76 [.sl 3 (Cn.cs l),.fn (.func g) [] caps] (X s0) (.ret (.int .i64 (frS ge gs l s0).1)) (X (frS ge gs l s0).2):=by
 have h:=each_ok ⟨76,3,true,f76,func76⟩ (eM (n:=10) rfl) (fun i x=>(cnL x).getD i .nilp) l g caps X (fun _ x st=>ge x st) (fun _ x st=>gs x st) (fun k w st hw=>hwk k w st hw) hN s0
 rw [frG_S,cs_row cnL 3 (fun _=>rfl) l,<-Cn.cs_eq] at h
 exact h
theorem esMT(l:List Pm)(g:Nat)(caps:List PV)(X:St->Ext)(ge:Pm->St->Int)(gs:Pm->St->St)(hwk:∀ (k:Int) (w:Pm) (st:St),w∈l->Ef g (.int .i64 k :: .agg (pmL w)::caps) (X st) (.ret (.int .i64 (ge w st))) (X (gs w st)))(s0:St)(hN:l.length<=1000000000):Ef 83 [.sl 10 (Pm.cs l),.fn (.func g) [] caps] (X s0) (.ret (.int .i64 (frS ge gs l s0).1)) (X (frS ge gs l s0).2):=by
 have h:=each_ok ⟨83,10,true,f83,func83⟩ (eM (n:=11) rfl) (fun i x=>(pmL x).getD i .nilp) l g caps X (fun _ x st=>ge x st) (fun _ x st=>gs x st) (fun k w st hw=>hwk k w st hw) hN s0
 rw [frG_S,cs_row pmL 10 (fun _=>rfl) l,<-Pm.cs_eq] at h
 exact h
theorem esDT(l:List Da)(g:Nat)(caps:List PV)(X:St->Ext)(ge:Da->St->Int)(gs:Da->St->St)(hwk:∀ (k:Int) (w:Da) (st:St),w∈l->Ef g (.int .i64 k :: .agg (daL w)::caps) (X st) (.ret (.int .i64 (ge w st))) (X (gs w st)))(s0:St)(hN:l.length<=1000000000):Ef 38 [.sl 4 (Da.cs l),.fn (.func g) [] caps] (X s0) (.ret (.int .i64 (frS ge gs l s0).1)) (X (frS ge gs l s0).2):=by
 have h:=each_ok ⟨38,4,true,f38,func38⟩ (eM (n:=12) rfl) (fun i x=>(daL x).getD i .nilp) l g caps X (fun _ x st=>ge x st) (fun _ x st=>gs x st) (fun k w st hw=>hwk k w st hw) hN s0
 rw [frG_S,cs_row daL 4 (fun _=>rfl) l,<-Da.cs_eq] at h
 exact h
theorem esKT(l:List Cl)(g:Nat)(caps:List PV)(X:St->Ext)(ge:Cl->St->Int)(gs:Cl->St->St)(hwk:∀ (k:Int) (w:Cl) (st:St),w∈l->Ef g (.int .i64 k :: .agg (clL w)::caps) (X st) (.ret (.int .i64 (ge w st))) (X (gs w st)))(s0:St)(hN:l.length<=1000000000):Ef 41 [.sl 3 (Cl.cs l),.fn (.func g) [] caps] (X s0) (.ret (.int .i64 (frS ge gs l s0).1)) (X (frS ge gs l s0).2):=by
 have h:=each_ok ⟨41,3,true,f41,func41⟩ (eM (n:=13) rfl) (fun i x=>(clL x).getD i .nilp) l g caps X (fun _ x st=>ge x st) (fun _ x st=>gs x st) (fun k w st hw=>hwk k w st hw) hN s0
 rw [frG_S,cs_row clL 3 (fun _=>rfl) l,<-Cl.cs_eq] at h
 exact h
theorem esRT(l:List Ms)(g:Nat)(caps:List PV)(X:St->Ext)(ge:Ms->St->Int)(gs:Ms->St->St)(hwk:∀ (k:Int) (w:Ms) (st:St),w∈l->Ef g (.int .i64 k :: .agg (msL w)::caps) (X st) (.ret (.int .i64 (ge w st))) (X (gs w st)))(s0:St)(hN:l.length<=1000000000):Ef 47 [.sl 8 (Ms.cs l),.fn (.func g) [] caps] (X s0) (.ret (.int .i64 (frS ge gs l s0).1)) (X (frS ge gs l s0).2):=by
 have h:=each_ok ⟨47,8,true,f47,func47⟩ (eM (n:=14) rfl) (fun i x=>(msL x).getD i .nilp) l g caps X (fun _ x st=>ge x st) (fun _ x st=>gs x st) (fun k w st hw=>hwk k w st hw) hN s0
 rw [frG_S,cs_row msL 8 (fun _=>rfl) l,<-Ms.cs_eq] at h
 exact h
theorem esUT(l:List Qu)(g:Nat)(caps:List PV)(X:St->Ext)(ge:Qu->St->Int)(gs:Qu->St->St)(hwk:∀ (k:Int) (w:Qu) (st:St),w∈l->Ef g (.int .i64 k :: .agg (quL w)::caps) (X st) (.ret (.int .i64 (ge w st))) (X (gs w st)))(s0:St)(hN:l.length<=1000000000):Ef 50 [.sl 6 (Qu.cs l),.fn (.func g) [] caps] (X s0) (.ret (.int .i64 (frS ge gs l s0).1)) (X (frS ge gs l s0).2):=by
 have h:=each_ok ⟨50,6,true,f50,func50⟩ (eM (n:=15) rfl) (fun i x=>(quL x).getD i .nilp) l g caps X (fun _ x st=>ge x st) (fun _ x st=>gs x st) (fun k w st hw=>hwk k w st hw) hN s0
 rw [frG_S,cs_row quL 6 (fun _=>rfl) l,<-Qu.cs_eq] at h
 exact h
theorem esFT(l:List Df)(g:Nat)(caps:List PV)(X:St->Ext)(ge:Df->St->Int)(gs:Df->St->St)(hwk:∀ (k:Int) (w:Df) (st:St),w∈l->Ef g (.int .i64 k :: .agg (dfL w)::caps) (X st) (.ret (.int .i64 (ge w st))) (X (gs w st)))(s0:St)(hN:l.length<=1000000000):Ef 56 [.sl 25 (Df.cs l),.fn (.func g) [] caps] (X s0) (.ret (.int .i64 (frS ge gs l s0).1)) (X (frS ge gs l s0).2):=by
 have h:=each_ok ⟨56,25,true,f56,func56⟩ (eM (n:=16) rfl) (fun i x=>(dfL x).getD i .nilp) l g caps X (fun _ x st=>ge x st) (fun _ x st=>gs x st) (fun k w st hw=>hwk k w st hw) hN s0
 rw [frG_S,cs_row dfL 25 (fun _=>rfl) l,<-Df.cs_eq] at h
 exact h
theorem eaFT(l:List Df)(g:Nat)(caps:List PV)(ge:Df->Int)(hwk:∀ (k:Int) (w:Df),w∈l->Pu g (.int .i64 k :: .agg (dfL w)::caps) (.ret (.int .i64 (ge w))))(hN:l.length<=1000000000):Pu 56 [.sl 25 (Df.cs l),.fn (.func g) [] caps] (.ret (.int .i64 (frE ge l))):=by
 have h:=each_E ⟨56,25,true,f56,func56⟩ (eM (n:=16) rfl) (fun i x=>(dfL x).getD i .nilp) l g caps ge (fun k w hw=>hwk k w hw) hN
 rw [cs_row dfL 25 (fun _=>rfl) l,<-Df.cs_eq] at h
 exact h
end Go.Proofs.YtmllcplaohkjnaaGreatDoor
