/- Values of Go as plain data, an evaluator over them, and what the functions of the program return; part Yc. -/
import Derived.Test.YtidabncghfbdaaaGreatDoorYb
import Derived.Test.YtidabncghfbdaaaGreatDoorYa
set_option linter.unusedSectionVars false
set_option linter.unusedSimpArgs false
set_option linter.unusedVariables false
namespace Go.Proofs.YtidabncghfbdaaaGreatDoor
open Go.Proofs.Tryz
open Go.Pv Go.Proofs.Tryz
set_option maxRecDepth 100000
theorem tp_bulk(x:Tp):bulkPss (Tp.cs (tpA x))+bulkPss (Pr.cs (tpPs x))+bulkPs (prL (tpP x))<bulkPs (tpL x):=by simp only [bulkPs,bulkP]; omega
def coreB(s:BA):Bool:=decide (s.size<=120)&&(if ptS s<s.size then (nameB (s.extract 0 (ptS s))||titleB (s.extract 0 (ptS s))||decide (s.extract 0 (ptS s)=tV))&&corG (s.extract (ptS s+1) s.size) else nameB s||titleB s)
theorem coM_t{x:BA}{b:Bool}(h:corG x=b):coM (x,true)=b:=by rw [<-h]; unfold coM; rw [iP rfl]
theorem nCoT(s:BA):Pu 109 [.str s] (.ret (.int .i64 (erN (coreB s)))):=by
 unfold coreB
 by_cases hl:s.size<=120
 ·have hl':(s.size:Int)<=120:=by omega
  rw [decide_eq_true hl,Bool.true_and]
  by_cases hx:ptS s<s.size
  ·rw [iP hx]
   cases h0:nameB (s.extract 0 (ptS s)) with
   | true=>
    cases h3:corG (s.extract (ptS s+1) s.size) with
    | true=>simpa only [Bool.true_or,Bool.false_or,Bool.true_and,Bool.or_true,Bool.false_and,Bool.and_true,Bool.and_false,Bool.or_false,erN,if_true,Bool.false_eq_true,if_false] using nCoB_6 s hl' hx h0 (coM_t h3)
    | false=>simpa only [Bool.true_or,Bool.false_or,Bool.true_and,Bool.or_true,Bool.false_and,Bool.and_true,Bool.and_false,Bool.or_false,erN,if_true,Bool.false_eq_true,if_false] using nCoB_7 s hl' hx h0 (coM_t h3)
   | false=>
    cases h1:titleB (s.extract 0 (ptS s)) with
    | true=>
     cases h3:corG (s.extract (ptS s+1) s.size) with
     | true=>simpa only [Bool.true_or,Bool.false_or,Bool.true_and,Bool.or_true,Bool.false_and,Bool.and_true,Bool.and_false,Bool.or_false,erN,if_true,Bool.false_eq_true,if_false] using nCoB_4 s hl' hx h0 h1 (coM_t h3)
     | false=>simpa only [Bool.true_or,Bool.false_or,Bool.true_and,Bool.or_true,Bool.false_and,Bool.and_true,Bool.and_false,Bool.or_false,erN,if_true,Bool.false_eq_true,if_false] using nCoB_5 s hl' hx h0 h1 (coM_t h3)
    | false=>
     by_cases h2:s.extract 0 (ptS s)=tV
     ·rw [decide_eq_true h2]
      cases h3:corG (s.extract (ptS s+1) s.size) with
      | true=>simpa only [Bool.true_or,Bool.false_or,Bool.true_and,Bool.or_true,Bool.false_and,Bool.and_true,Bool.and_false,Bool.or_false,erN,if_true,Bool.false_eq_true,if_false] using nCoB_2 s hl' hx h0 h1 h2 (coM_t h3)
      | false=>simpa only [Bool.true_or,Bool.false_or,Bool.true_and,Bool.or_true,Bool.false_and,Bool.and_true,Bool.and_false,Bool.or_false,erN,if_true,Bool.false_eq_true,if_false] using nCoB_3 s hl' hx h0 h1 h2 (coM_t h3)
     ·rw [decide_eq_false h2]; simpa only [Bool.true_or,Bool.false_or,Bool.true_and,Bool.or_true,Bool.false_and,Bool.and_true,Bool.and_false,Bool.or_false,erN,if_true,Bool.false_eq_true,if_false] using nCoB_1 s hl' hx h0 h1 h2
  ·rw [iN hx]
   cases h0:nameB s with
   | true=>simpa only [Bool.true_or,Bool.false_or,Bool.true_and,Bool.or_true,Bool.false_and,Bool.and_true,Bool.and_false,Bool.or_false,erN,if_true,Bool.false_eq_true,if_false] using nCoC_4 s hl' hx h0
   | false=>
    cases h1:titleB s with
    | true=>simpa only [Bool.true_or,Bool.false_or,Bool.true_and,Bool.or_true,Bool.false_and,Bool.and_true,Bool.and_false,Bool.or_false,erN,if_true,Bool.false_eq_true,if_false] using nCoC_3 s hl' hx h0 h1
    | false=>
     by_cases h2:s=tV
     ·simpa only [Bool.true_or,Bool.false_or,Bool.true_and,Bool.or_true,Bool.false_and,Bool.and_true,Bool.and_false,Bool.or_false,erN,if_true,Bool.false_eq_true,if_false] using nCoC_2 s hl' hx h0 h1 h2
     ·simpa only [Bool.true_or,Bool.false_or,Bool.true_and,Bool.or_true,Bool.false_and,Bool.and_true,Bool.and_false,Bool.or_false,erN,if_true,Bool.false_eq_true,if_false] using nCoC_1 s hl' hx h0 h1 h2
 ·rw [decide_eq_false hl,Bool.false_and]; simpa only [Bool.true_or,Bool.false_or,Bool.true_and,Bool.or_true,Bool.false_and,Bool.and_true,Bool.and_false,Bool.or_false,erN,if_true,Bool.false_eq_true,if_false] using nCoA s oM
theorem core_pos{s:BA}(h:erN (coreB s)=0):(0:Int)<=0/\(0:Int)<(s.size:Int):=by
 cases hb:coreB s with
 | false=>rw [hb] at h; cases h
 | true=>
  by_cases hz:s.size=0
  ·have:s=nm0:=by
    have:s.data = #[]:=Array.eq_empty_of_size_eq_zero hz
    cases s; simp only at this; subst this; rfl
   subst this
   rw [show coreB nm0=false by kernel_rfl] at hb
   cases hb
  ·omega
def frE{α:Type}(f:α->Int):List α->Int
 | []=>0
 | x::r=>if f x=0 then frE f r else f x
abbrev tdA_I(t:Tp)(dfz:Tp->Int)(j:Int)(n:Int)(e:Ext):S:=S.mk [(2,vI6 0),(3,vI6 n),(7,vL 9 (Tp.cs (tpA t))),(8,vI6 ((tpA t).length:Int)),(9,vI6 j)] [] e
def tdA_f(dfz:Tp->Int):List Tp->(Int)->(Int)
 | [],n=>(n)
 | el::r,n=>tdA_f dfz r (mxI true n (dfz el))
def tdA_q(t:Tp)(dfz:Tp->Int)(e:Ext)(p:(Int)):PExit × S:=(.exit 0,S.mk [(2,vI6 0),(3,vI6 p),(7,vL 9 (Tp.cs (tpA t))),(8,vI6 ((tpA t).length:Int))] [] e)
theorem tdA(t:Tp)(dfz:Tp->Int)(hwk:∀w:Tp,w∈tpA t->Pu 163 [.agg (tpL w)] (.ret (.int .i64 (dfz w))))(n:Int)(e:Ext)(hN:(tpA t).length<=1000000000)  : (Ob.loop 20 (loopF f163 0) (tdA_I t dfz 0 n e) (tdA_q t dfz e (tdA_f dfz ((tpA t))  n)).1 (tdA_q t dfz e (tdA_f dfz ((tpA t))  n)).2).ok prog:=by
 refine rng ((tpA t).length) (fun j n=>tdA_I t dfz j n e) (fun i n=>tdA_f dfz (List.drop i ((tpA t)))  n) (tdA_q t dfz e) (fun i n=>True) kR ?_ n trivial
 rintro i n hi -
 rcases Nat.lt_or_ge i ((tpA t).length) with hlt | hge
 ·have hd:=drop_at hlt
  exact lN mdL [rgTp hlt,cl (@hwk (List.getD (tpA t) i default) (by simp_all [tn1])),wr ((i:Int)+1)] hlt (mxI true n (dfz (List.getD (tpA t) i default))) trivial (by rw [hd,tdA_f])
 ·have he:i=(tpA t).length:=by omega
  exact lX mdL [df ((i:Int)<((tpA t).length:Int))] (n) (by rw [he,List.drop_length,tdA_f])
abbrev tfA_I(t:Tp)(xe:Ext)(ff:Tp->Int)(j:Int)   : S:=S.mk [(2,vI6 0),(90,vL 9 (Tp.cs (tpA t))),(91,vI6 ((tpA t).length:Int)),(92,vI6 j)] [] xe
inductive tfA_R where
 | e0 (el:Tp)
 | e1
def tfA_f(ff:Tp->Int):List Tp->tfA_R
 | []=>(tfA_R.e1)
 | el::r=>(if ff el=0 then tfA_f ff r  else (tfA_R.e0 el))
def tfA_q(t:Tp)(xe:Ext)(ff:Tp->Int)  : tfA_R->PExit × S
 | .e0 el=>(.ret,S.mk [(2,vI6 (ff el)),(90,vL 9 (Tp.cs (tpA t))),(91,vI6 ((tpA t).length:Int))] [] xe)
 | .e1=>(.exit 0,S.mk [(2,vI6 0),(90,vL 9 (Tp.cs (tpA t))),(91,vI6 ((tpA t).length:Int))] [] xe)
theorem tfA_lp(t:Tp)(xe:Ext)(ff:Tp->Int)(hwk:∀w:Tp,w∈tpA t->Pu 164 [.agg (tpL w)] (.ret (.int .i64 (ff w))))(hN:(tpA t).length<=1000000000):(Ob.loop 102 (loopF f164 0) (tfA_I t xe ff 0) (tfA_q t xe ff  (tfA_f ff ((tpA t)))).1 (tfA_q t xe ff  (tfA_f ff ((tpA t)))).2).ok prog:=by
 refine rng ((tpA t).length) (fun j _=>tfA_I t xe ff j) (fun i _=>tfA_f ff (List.drop i ((tpA t)))) (tfA_q t xe ff) (fun i _=>True) kR ?_ () trivial
 rintro i u hi -
 rcases Nat.lt_or_ge i ((tpA t).length) with hlt | hge
 ·have hd:=drop_at hlt
  refine t0 ?_;refine tp [rgTp hlt,cl (@hwk (List.getD (tpA t) i default) (by simp_all [tn1]))] ?_;by_cases h0:ff (List.getD (tpA t) i default)=0
  ·exact tN mdL [nn1 h0,wr ((i:Int)+1)] hlt () trivial (by rw [hd,tfA_f,iP h0])
  ·exact tX mdL [nt1 h0] (tfA_R.e0 (List.getD ((tpA t)) i default)) (by rw [hd,tfA_f,iN h0])
 ·have he:i=(tpA t).length:=by omega
  exact lX mdL [df ((i:Int)<((tpA t).length:Int))] (tfA_R.e1) (by rw [he,List.drop_length,tfA_f])
theorem tfA_0(t:Tp)(xe:Ext)(ff:Tp->Int)(hwk:∀w:Tp,w∈tpA t->Pu 164 [.agg (tpL w)] (.ret (.int .i64 (ff w))))(hN:(tpA t).length<=1000000000)(p0:Tp)(hres:(tfA_f ff ((tpA t)))=(tfA_R.e0 p0)):(Ob.loop 102 (loopF f164 0) (tfA_I t xe ff 0) (tfA_q t xe ff  (tfA_R.e0 p0)).1 (tfA_q t xe ff  (tfA_R.e0 p0)).2).ok prog:=
 rz (tfA_lp t xe ff hwk hN) hres
theorem tfA_1(t:Tp)(xe:Ext)(ff:Tp->Int)(hwk:∀w:Tp,w∈tpA t->Pu 164 [.agg (tpL w)] (.ret (.int .i64 (ff w))))(hN:(tpA t).length<=1000000000)(hres:(tfA_f ff ((tpA t)))=(tfA_R.e1)):(Ob.loop 102 (loopF f164 0) (tfA_I t xe ff 0) (tfA_q t xe ff  (tfA_R.e1)).1 (tfA_q t xe ff  (tfA_R.e1)).2).ok prog:=
 rz (tfA_lp t xe ff hwk hN) hres
def arE(t:Tp):Int:=if tpO t=4 then (if ((tpA t).length:Int)>6 then 13 else 0) else if tpO t=6 then (if ((tpA t).length:Int)<2 then 13 else if ((tpA t).length:Int)>7 then 13 else if ((tpNs t).length:Int)=0 then 0 else if ((tpNs t).length:Int)=((tpA t).length:Int) - 1 then 0 else 13) else 0
theorem arT(t:Tp):Pu 187 [.agg (tpL t)] (.ret (.int .i64 (arE t))):=by
 unfold arE
 by_cases h0:tpO t=4
 ·rw [iP h0]
  refine t0 ?_;refine tp [et1 h0,sl (Tp.cs_len (tpA t))] ?_;by_cases h1:((tpA t).length:Int)>6
  ·rw [iP h1]; exact tM mdL [dt1 h1] func187
  ·rw [iN h1]; exact tM mdL [df1 h1] func187
 ·rw [iN h0]
  by_cases h1:tpO t=6
  ·rw [iP h1]
   by_cases h2:((tpA t).length:Int)<2
   ·rw [iP h2]; exact pm mdL [en1 h0,et1 h1,sl (Tp.cs_len (tpA t)),rp 5 (dt1 h2),rp 8 (bt true)] func187
   ·rw [iN h2]
    by_cases h3:((tpA t).length:Int)>7
    ·rw [iP h3]; exact pm mdL [en1 h0,et1 h1,sl (Tp.cs_len (tpA t)),rp 3 (df1 h2),sl (Tp.cs_len (tpA t)),rp 2 (df1 h2),rp 7 (dt1 h3),bt true] func187
    ·rw [iN h3]
     by_cases h4:((tpNs t).length:Int)=0
     ·rw [iP h4]; exact pm mdL [en1 h0,et1 h1,sl (Tp.cs_len (tpA t)),rp 3 (df1 h2),sl (Tp.cs_len (tpA t)),rp 2 (df1 h2),rp 3 (df1 h3),sl (nmsC_len (tpNs t)),rp 2 (df1 h3),rp 8 (nn1 h4),df1 h3,nn1 h4,df1 h3,bf false] func187
     ·rw [iN h4]
      refine t0 ?_;refine tp [en1 h0,et1 h1,sl (Tp.cs_len (tpA t)),rp 3 (df1 h2),sl (Tp.cs_len (tpA t)),rp 2 (df1 h2),rp 3 (df1 h3),sl (nmsC_len (tpNs t)),rp 2 (df1 h3),rp 3 (nt1 h4),sl (nmsC_len (tpNs t)),rp 3 (nt1 h4),sl (Tp.cs_len (tpA t)),nt1 h4,wr (((tpA t).length:Int) - 1),nt1 h4,df1 h3,nt1 h4,df1 h3] ?_;by_cases h5:((tpNs t).length:Int)=((tpA t).length:Int) - 1
      ·rw [iP h5]; exact tM mdL [nn1 h5] func187
      ·rw [iN h5]; exact tM mdL [nt1 h5] func187
  ·rw [iN h1]; exact pm mdL [en1 h0,en1 h1] func187
def tdD:Nat->Tp->Int
 | 0,_=>0
 | d+1,t=>tdA_f (tdD d) (tpA t) 0+1
theorem mx_le{f:Tp->Int}{B:Int}:∀ (l:List Tp) (n:Int),0<=n->n<=B->(∀w∈l,0<=f w/\f w<=B)->0<=tdA_f f l n/\tdA_f f l n<=B
 | [],n,h0,h1,_=>⟨h0,h1⟩
 | x::r,n,h0,h1,h=>by
  have hx:=h x sM
  refine mx_le r _ ?_ ?_ fun w hw=>h w (List.mem_cons_of_mem _ hw)
  ·show 0<=(if f x>n then f x else n); split <;> omega
  ·show (if f x>n then f x else n)<=B; split <;> omega
theorem tdD_b:∀ (d:Nat) (t:Tp),0<=tdD d t/\tdD d t<=d
 | 0,_=>⟨Int.le_refl _,Int.le_refl _⟩
 | d+1,t=>by
  have:=mx_le (f:=tdD d) (B:=d) (tpA t) 0 oM oM fun w _=>tdD_b d w
  simp only [tdD]; omega
theorem td_ok:∀ (d:Nat) (t:Tp),bulkPs (tpL t)<d->d<=100000001->Pu 163 [.agg (tpL t)] (.ret (.int .i64 (tdD d t)))
 | 0,_,h,_=>by omega
 | d+1,t,h,hs=>by
  have hb:=mx_le (f:=tdD d) (B:=d) (tpA t) 0 oM oM fun w _=>tdD_b d w
  exact pu mdL (fun e=>[sl (Tp.cs_len (tpA t)),lq (@tdA t ((tdD d)) (fun w hw=>td_ok d w (by have:=tp_bulk t; have:=Tp.mem hw; omega) oM) 0 e (by have:=tp_bulk t; have:=Tp.bulk (tpA t); omega)),ai (IntKind.wrap .i64 (tdA_f (tdD d) (tpA t) 0+1)) (tdA_f (tdD d) (tpA t) 0+1) (wrap64 oM oM)]) func163
def tdF(t:Tp):Int:=tdD (bulkPs (tpL t)+1) t
theorem tdT(t:Tp)(hs:bulkPs (tpL t)<=100000000):Pu 163 [.agg (tpL t)] (.ret (.int .i64 (tdF t))):=td_ok _ t oM oM
theorem tfA_e(ff:Tp->Int):∀l:List Tp,(frE ff l=0->tfA_f ff l = .e1)/\(¬frE ff l=0->∃w,tfA_f ff l = .e0 w/\ff w=frE ff l)
 | []=>⟨fun _=>rfl,fun h=>absurd rfl h⟩
 | x::r=>by
  have ih:=tfA_e ff r
  by_cases h:ff x=0
  ·simp only [frE,tfA_f,h,if_true]; exact ih
  ·simp only [frE,tfA_f,h,if_false]; exact ⟨fun h'=>h'.elim,fun _=>⟨x,rfl,rfl⟩⟩
abbrev tfS(t:Tp)(v:Int)(xe:Ext):S:=⟨[(2,.v (.int .i64 v)),(90,.v (.sl 9 (Tp.cs (tpA t)))),(91,.v (.int .i64 (tpA t).length))],[],xe⟩
theorem tfT(t:Tp)(xe:Ext)(ff:Tp->Int)(hwk:∀w:Tp,w∈tpA t->Pu 164 [.agg (tpL w)] (.ret (.int .i64 (ff w))))(hN:(tpA t).length<=1000000000)(hx:frE ff (tpA t)=0):(Ob.loop 102 (loopF f164 0) (tfA_I t xe ff 0) (.exit 0) (tfS t 0 xe)).ok prog:=
 tfA_1 t xe ff hwk hN ((tfA_e ff (tpA t)).1 hx)
theorem tfF(t:Tp)(xe:Ext)(ff:Tp->Int)(hwk:∀w:Tp,w∈tpA t->Pu 164 [.agg (tpL w)] (.ret (.int .i64 (ff w))))(hN:(tpA t).length<=1000000000)(hx:¬frE ff (tpA t)=0):(Ob.loop 102 (loopF f164 0) (tfA_I t xe ff 0) .ret (tfS t (frE ff (tpA t)) xe)).ok prog:=by
 obtain ⟨w,h1,h2⟩:=(tfA_e ff (tpA t)).2 hx
 have:=tfA_0 t xe ff hwk hN w h1
 rw [<-h2]
 exact this
theorem pr_bulk(x:Pr):bulkPss (Pr.cs (prK x))<bulkPs (prL x):=by simp only [bulkPs,bulkP]; omega
def pkS_r0(o:Int):Int:=(if o=1 then 0 else (if o=2 then 0 else (if o=3 then 0 else (if o=4 then 1 else (if o=5 then 1 else (if o=9 then 1 else (if o=14 then 1 else 2)))))))
def pkS_r1(o:Int):Int:=(if o=1 then 0 else (if o=2 then 0 else (if o=3 then 0 else (if o=4 then 24 else (if o=5 then 24 else (if o=9 then 1 else (if o=14 then 1 else 2)))))))
theorem pkS(o:Int):Pu 106 [pI o] (.ret (.tup [pI (pkS_r0 o),pI (pkS_r1 o)])):=by
 refine t0 ?_;by_cases h0:o=1
 ·simp only [pkS_r0,pkS_r1,iP h0]; exact tM mdL [rp 2 (et1 h0)] func106
 ·refine tp [en1 h0] ?_;by_cases h1:o=2
  ·simp only [pkS_r0,pkS_r1,iN h0,iP h1]; exact tM mdL [rp 2 (et1 h1)] func106
  ·refine tp [en1 h1] ?_;by_cases h2:o=3
   ·simp only [pkS_r0,pkS_r1,iN h0,iN h1,iP h2]; exact tM mdL [et1 h2] func106
   ·refine tp [en1 h2] ?_;by_cases h3:o=4
    ·simp only [pkS_r0,pkS_r1,iN h0,iN h1,iN h2,iP h3]; exact tM mdL [rp 2 (et1 h3)] func106
    ·refine tp [en1 h3] ?_;by_cases h4:o=5
     ·simp only [pkS_r0,pkS_r1,iN h0,iN h1,iN h2,iN h3,iP h4]; exact tM mdL [et1 h4] func106
     ·refine tp [en1 h4] ?_;by_cases h5:o=9
      ·simp only [pkS_r0,pkS_r1,iN h0,iN h1,iN h2,iN h3,iN h4,iP h5]; exact tM mdL [rp 2 (et1 h5)] func106
      ·refine tp [en1 h5] ?_;by_cases h6:o=14
       ·simp only [pkS_r0,pkS_r1,iN h0,iN h1,iN h2,iN h3,iN h4,iN h5,iP h6]; exact tM mdL [et1 h6] func106
       ·simp only [pkS_r0,pkS_r1,iN h0,iN h1,iN h2,iN h3,iN h4,iN h5,iN h6]; exact tM mdL [en1 h6] func106
def pnS_r0(o:Int):Bool:=(if o=3 then true else (if o=4 then true else (o==5)))
theorem pnS(o:Int):Pu 107 [pI o] (rB (pnS_r0 o)):=by
 by_cases h0:o=3
 ·simp only [pnS_r0,iP h0]; exact pm mdL [rp 3 (et1 h0),rp 3 (bt true)] func107
 ·by_cases h1:o=4
  ·simp only [pnS_r0,iN h0,iP h1]; exact pm mdL [rp 3 (en1 h0),rp 3 (et1 h1)] func107
  ·simp only [pnS_r0,iN h0,iN h1]; exact pm mdL [rp 3 (en1 h0),rp 3 (en1 h1)] func107
def niS_r0(n:Int):Bool:=(if n >= -1000000000000 then (decide (n<=1000000000000)) else false)
theorem niS(n:Int):Pu 108 [pI n] (rB (niS_r0 n)):=by
 by_cases h0:n >= -1000000000000
 ·simp only [niS_r0,iP h0]; exact pm mdL [rp 3 (dt1 h0)] func108
 ·simp only [niS_r0,iN h0]; exact pm mdL [rp 3 (df1 h0)] func108
abbrev pqA_I(u:Pr)(dfz:Pr->Int)(j:Int)(n:Int)(e:Ext):S:=S.mk [(2,vI6 0),(3,vI6 n),(7,vL 4 (Pr.cs (prK u))),(8,vI6 ((prK u).length:Int)),(9,vI6 j)] [] e
def pqA_f(dfz:Pr->Int):List Pr->(Int)->(Int)
 | [],n=>(n)
 | el::r,n=>pqA_f dfz r (IntKind.wrap .i64 (n+dfz el))
def pqA_q(u:Pr)(dfz:Pr->Int)(e:Ext)(p:(Int)):PExit × S:=(.exit 0,S.mk [(2,vI6 0),(3,vI6 p),(7,vL 4 (Pr.cs (prK u))),(8,vI6 ((prK u).length:Int))] [] e)
theorem pqA(u:Pr)(dfz:Pr->Int)(hwk:∀w:Pr,w∈prK u->Pu 64 [.agg (prL w)] (.ret (.int .i64 (dfz w))))(n:Int)(e:Ext)(hN:(prK u).length<=1000000000)  : (Ob.loop 19 (loopF f64 0) (pqA_I u dfz 0 n e) (pqA_q u dfz e (pqA_f dfz ((prK u))  n)).1 (pqA_q u dfz e (pqA_f dfz ((prK u))  n)).2).ok prog:=by
 refine rng ((prK u).length) (fun j n=>pqA_I u dfz j n e) (fun i n=>pqA_f dfz (List.drop i ((prK u)))  n) (pqA_q u dfz e) (fun i n=>True) kR ?_ n trivial
 rintro i n hi -
 rcases Nat.lt_or_ge i ((prK u).length) with hlt | hge
 ·have hd:=drop_at hlt
  exact lN mdL [rgPr hlt,cl (@hwk (List.getD (prK u) i default) (by simp_all [tn1])),kp,wr ((i:Int)+1)] hlt (IntKind.wrap .i64 (n+dfz (List.getD (prK u) i default))) trivial (by rw [hd,pqA_f])
 ·have he:i=(prK u).length:=by omega
  exact lX mdL [df ((i:Int)<((prK u).length:Int))] (n) (by rw [he,List.drop_length,pqA_f])
theorem pqL(u:Pr)(dfz:Pr->Int)(hwk:∀w:Pr,w∈prK u->Pu 64 [.agg (prL w)] (.ret (.int .i64 (dfz w))))(hN:(prK u).length<=1000000000):Pu 64 [.agg (prL u)] (rI (pqA_f dfz (prK u) 1)):=
 pu mdL (fun e=>[sl (Pr.cs_len (prK u)),lq (@pqA u dfz hwk 1 e hN)]) func64
def pqD:Nat->Pr->Int
 | 0,_=>0
 | d+1,u=>pqA_f (pqD d) (prK u) 1
def pqF(u:Pr):Int:=pqD (bulkPs (prL u)+1) u
abbrev peA_I(u:Pr)(dfz:Pr->Int)(j:Int)(n:Int)(e:Ext):S:=S.mk [(2,vI6 0),(3,vI6 n),(7,vL 4 (Pr.cs (prK u))),(8,vI6 ((prK u).length:Int)),(9,vI6 j)] [] e
def peA_f(dfz:Pr->Int):List Pr->(Int)->(Int)
 | [],n=>(n)
 | el::r,n=>peA_f dfz r (mxI true n (dfz el))
def peA_q(u:Pr)(dfz:Pr->Int)(e:Ext)(p:(Int)):PExit × S:=(.exit 0,S.mk [(2,vI6 0),(3,vI6 p),(7,vL 4 (Pr.cs (prK u))),(8,vI6 ((prK u).length:Int))] [] e)
theorem peA(u:Pr)(dfz:Pr->Int)(hwk:∀w:Pr,w∈prK u->Pu 65 [.agg (prL w)] (.ret (.int .i64 (dfz w))))(n:Int)(e:Ext)(hN:(prK u).length<=1000000000)  : (Ob.loop 20 (loopF f65 0) (peA_I u dfz 0 n e) (peA_q u dfz e (peA_f dfz ((prK u))  n)).1 (peA_q u dfz e (peA_f dfz ((prK u))  n)).2).ok prog:=by
 refine rng ((prK u).length) (fun j n=>peA_I u dfz j n e) (fun i n=>peA_f dfz (List.drop i ((prK u)))  n) (peA_q u dfz e) (fun i n=>True) kR ?_ n trivial
 rintro i n hi -
 rcases Nat.lt_or_ge i ((prK u).length) with hlt | hge
 ·have hd:=drop_at hlt
  exact lN mdL [rgPr hlt,cl (@hwk (List.getD (prK u) i default) (by simp_all [tn1])),wr ((i:Int)+1)] hlt (mxI true n (dfz (List.getD (prK u) i default))) trivial (by rw [hd,peA_f])
 ·have he:i=(prK u).length:=by omega
  exact lX mdL [df ((i:Int)<((prK u).length:Int))] (n) (by rw [he,List.drop_length,peA_f])
theorem peL(u:Pr)(dfz:Pr->Int)(hwk:∀w:Pr,w∈prK u->Pu 65 [.agg (prL w)] (.ret (.int .i64 (dfz w))))(hN:(prK u).length<=1000000000):Pu 65 [.agg (prL u)] (rI (IntKind.wrap .i64 (peA_f dfz (prK u) 0+1))):=
 pu mdL (fun e=>[sl (Pr.cs_len (prK u)),lq (@peA u dfz hwk 0 e hN),kp]) func65
def peD:Nat->Pr->Int
 | 0,_=>0
 | d+1,u=>IntKind.i64.wrap (peA_f (peD d) (prK u) 0+1)
def peF(u:Pr):Int:=peD (bulkPs (prL u)+1) u
abbrev nd0(u:Pr)(xe:Ext):S:=⟨[(1,.lp 1 0),(2,.v (.int .i64 0))],[(1,prV u)],xe⟩
abbrev nd1(u:Pr)(a b:Int)(xe:Ext):S:=⟨[(1,.lp 1 0),(2,.v (.int .i64 0)),(3,.v (.int .i64 a)),(4,.v (.int .i64 b))],[(1,prV u)],xe⟩
abbrev nd2(u:Pr)(a b:Int)(x y:Bool)(xe:Ext):S:=⟨[(1,.lp 1 0),(2,.v (.int .i64 0)),(3,.v (.int .i64 a)),(4,.v (.int .i64 b)),(5,.v (.bool x)),(6,.v (.bool y))],[(1,prV u)],xe⟩
abbrev nd3(u:Pr)(a b:Int)(x:Bool)(xe:Ext):S:=⟨[(1,.lp 1 0),(2,.v (.int .i64 0)),(3,.v (.int .i64 a)),(4,.v (.int .i64 b)),(5,.v (.bool x))],[(1,prV u)],xe⟩
theorem nd_1_1(u:Pr)(xe:Ext)(hx0:prO u<1)(cx:Cx)(hcx:cx.n=130){Q:PExit->S->Prop}(hq:Q (.normal) (S.mk [(1,.lp 1 0),(2,vI6 0),(14,.v (.bool true))] [(1,prV u)] xe)):PW prog cx (regF f67 1) (nd0 u xe) Q:=
 pw mdL 130 [rp 4 (dt1 hx0)] [1,2,14] [1] hcx hq
theorem nd_1_2(u:Pr)(xe:Ext)(hx0:¬prO u<1)(cx:Cx)(hcx:cx.n=130){Q:PExit->S->Prop}(hq:Q (.normal) (S.mk [(1,.lp 1 0),(2,vI6 0),(14,.v (.bool (decide (prO u>18))))] [(1,prV u)] xe)):PW prog cx (regF f67 1) (nd0 u xe) Q:=
 pw mdL 130 [rp 4 (df1 hx0)] [1,2,14] [1] hcx hq
def nd_1_v14(u:Pr):Bool:=(if prO u<1 then (true) else ((decide (prO u>18))))
theorem nd_1J(u:Pr)(xe:Ext):(Ob.frag 130 (regF f67 1) (nd0 u xe) (.normal) (S.mk [(1,.lp 1 0),(2,vI6 0),(14,.v (.bool (nd_1_v14 u)))] [(1,prV u)] xe)).ok prog:=by
 intro cx hcx
 by_cases g0:prO u<1
 ·exact nd_1_1 u xe g0 cx hcx ⟨rfl,by rw [show nd_1_v14 u=(true) by unfold nd_1_v14; rw [iP g0]]⟩
 ·exact nd_1_2 u xe g0 cx hcx ⟨rfl,by rw [show nd_1_v14 u=((decide (prO u>18))) by unfold nd_1_v14; rw [iN g0]]⟩
section
variable (u:Pr) (a b:Int) (xe:Ext)
include u a b xe
theorem nd_4_1(hx0:pnS_r0 (prO u)=false)(hx1:¬prNm u=ByteArray.mk #[])(cx:Cx)(hcx:cx.n=130){Q:PExit->S->Prop}(hq:Q (.normal) (S.mk [(1,.lp 1 0),(2,vI6 0),(3,vI6 a),(4,vI6 b),(58,.v (.bool true))] [(1,prV u)] xe)):PW prog cx (regF f67 4) (nd1 u a b xe) Q:=
 pw mdL 130 [cl (@pnS (prO u)),rp 4 (bt1 (bnT hx0)),rp 8 (bt (!ByteArray.toList (prNm u)==ByteArray.toList nm0) (bnT (bsF hx1))),rp 12 (bt true)] [1,2,3,4,58] [1] hcx hq
theorem nd_4_2(hx0:pnS_r0 (prO u)=false)(hx1:prNm u=ByteArray.mk #[])(hx2:¬prO u=1)(hx3:¬prO u=2)(hx4:¬prN u=0)(cx:Cx)(hcx:cx.n=130){Q:PExit->S->Prop}(hq:Q (.normal) (S.mk [(1,.lp 1 0),(2,vI6 0),(3,vI6 a),(4,vI6 b),(58,.v (.bool true))] [(1,prV u)] xe)):PW prog cx (regF f67 4) (nd1 u a b xe) Q:=
 pw mdL 130 [cl (@pnS (prO u)),rp 4 (bt1 (bnT hx0)),rp 4 (bf (!ByteArray.toList (prNm u)==ByteArray.toList nm0) (bnF (bsT hx1))),rp 3 (nt1 hx2),bf (!ByteArray.toList (prNm u)==ByteArray.toList nm0) (bnF (bsT hx1)),nt1 hx2,bf (!ByteArray.toList (prNm u)==ByteArray.toList nm0) (bnF (bsT hx1)),rp 3 (nt1 hx3),bf (!ByteArray.toList (prNm u)==ByteArray.toList nm0) (bnF (bsT hx1)),nt1 hx3,bf (!ByteArray.toList (prNm u)==ByteArray.toList nm0) (bnF (bsT hx1)),rp 6 (nt1 hx4),rp 6 (bt true)] [1,2,3,4,58] [1] hcx hq
theorem nd_4_3(hx0:pnS_r0 (prO u)=false)(hx1:prNm u=ByteArray.mk #[])(hx2:¬prO u=1)(hx3:¬prO u=2)(hx4:prN u=0)(hx5:((prK u).length:Int)<a)(cx:Cx)(hcx:cx.n=130){Q:PExit->S->Prop}(hq:Q (.normal) (S.mk [(1,.lp 1 0),(2,vI6 0),(3,vI6 a),(4,vI6 b),(58,.v (.bool true))] [(1,prV u)] xe)):PW prog cx (regF f67 4) (nd1 u a b xe) Q:=
 pw mdL 130 [cl (@pnS (prO u)),rp 4 (bt1 (bnT hx0)),rp 4 (bf (!ByteArray.toList (prNm u)==ByteArray.toList nm0) (bnF (bsT hx1))),rp 3 (nt1 hx2),bf (!ByteArray.toList (prNm u)==ByteArray.toList nm0) (bnF (bsT hx1)),nt1 hx2,bf (!ByteArray.toList (prNm u)==ByteArray.toList nm0) (bnF (bsT hx1)),rp 3 (nt1 hx3),bf (!ByteArray.toList (prNm u)==ByteArray.toList nm0) (bnF (bsT hx1)),nt1 hx3,bf (!ByteArray.toList (prNm u)==ByteArray.toList nm0) (bnF (bsT hx1)),rp 3 (nn1 hx4),sl (Pr.cs_len (prK u)),rp 3 (nn1 hx4),rp 6 (dt1 hx5)] [1,2,3,4,58] [1] hcx hq
theorem nd_4_4(hx0:pnS_r0 (prO u)=false)(hx1:prNm u=ByteArray.mk #[])(hx2:¬prO u=1)(hx3:¬prO u=2)(hx4:prN u=0)(hx5:¬((prK u).length:Int)<a)(cx:Cx)(hcx:cx.n=130){Q:PExit->S->Prop}(hq:Q (.normal) (S.mk [(1,.lp 1 0),(2,vI6 0),(3,vI6 a),(4,vI6 b),(58,.v (.bool (decide (((prK u).length:Int)>b))))] [(1,prV u)] xe)):PW prog cx (regF f67 4) (nd1 u a b xe) Q:=
 pw mdL 130 [cl (@pnS (prO u)),rp 4 (bt1 (bnT hx0)),rp 4 (bf (!ByteArray.toList (prNm u)==ByteArray.toList nm0) (bnF (bsT hx1))),rp 3 (nt1 hx2),bf (!ByteArray.toList (prNm u)==ByteArray.toList nm0) (bnF (bsT hx1)),nt1 hx2,bf (!ByteArray.toList (prNm u)==ByteArray.toList nm0) (bnF (bsT hx1)),rp 3 (nt1 hx3),bf (!ByteArray.toList (prNm u)==ByteArray.toList nm0) (bnF (bsT hx1)),nt1 hx3,bf (!ByteArray.toList (prNm u)==ByteArray.toList nm0) (bnF (bsT hx1)),rp 3 (nn1 hx4),sl (Pr.cs_len (prK u)),rp 3 (nn1 hx4),rp 3 (df1 hx5),sl (Pr.cs_len (prK u)),rp 3 (df1 hx5)] [1,2,3,4,58] [1] hcx hq
theorem nd_4_5(hx0:pnS_r0 (prO u)=false)(hx1:prNm u=ByteArray.mk #[])(hx2:¬prO u=1)(hx3:prO u=2)(hx4:((prK u).length:Int)<a)(cx:Cx)(hcx:cx.n=130){Q:PExit->S->Prop}(hq:Q (.normal) (S.mk [(1,.lp 1 0),(2,vI6 0),(3,vI6 a),(4,vI6 b),(58,.v (.bool true))] [(1,prV u)] xe)):PW prog cx (regF f67 4) (nd1 u a b xe) Q:=
 pw mdL 130 [cl (@pnS (prO u)),rp 4 (bt1 (bnT hx0)),rp 4 (bf (!ByteArray.toList (prNm u)==ByteArray.toList nm0) (bnF (bsT hx1))),rp 3 (nt1 hx2),bf (!ByteArray.toList (prNm u)==ByteArray.toList nm0) (bnF (bsT hx1)),nt1 hx2,bf (!ByteArray.toList (prNm u)==ByteArray.toList nm0) (bnF (bsT hx1)),rp 3 (nn1 hx3),bf (!ByteArray.toList (prNm u)==ByteArray.toList nm0) (bnF (bsT hx1)),nn1 hx3,bf (!ByteArray.toList (prNm u)==ByteArray.toList nm0) (bnF (bsT hx1)),rp 3 (bf false),sl (Pr.cs_len (prK u)),rp 3 (bf false),rp 6 (dt1 hx4)] [1,2,3,4,58] [1] hcx hq
theorem nd_4_6(hx0:pnS_r0 (prO u)=false)(hx1:prNm u=ByteArray.mk #[])(hx2:¬prO u=1)(hx3:prO u=2)(hx4:¬((prK u).length:Int)<a)(cx:Cx)(hcx:cx.n=130){Q:PExit->S->Prop}(hq:Q (.normal) (S.mk [(1,.lp 1 0),(2,vI6 0),(3,vI6 a),(4,vI6 b),(58,.v (.bool (decide (((prK u).length:Int)>b))))] [(1,prV u)] xe)):PW prog cx (regF f67 4) (nd1 u a b xe) Q:=
 pw mdL 130 [cl (@pnS (prO u)),rp 4 (bt1 (bnT hx0)),rp 4 (bf (!ByteArray.toList (prNm u)==ByteArray.toList nm0) (bnF (bsT hx1))),rp 3 (nt1 hx2),bf (!ByteArray.toList (prNm u)==ByteArray.toList nm0) (bnF (bsT hx1)),nt1 hx2,bf (!ByteArray.toList (prNm u)==ByteArray.toList nm0) (bnF (bsT hx1)),rp 3 (nn1 hx3),bf (!ByteArray.toList (prNm u)==ByteArray.toList nm0) (bnF (bsT hx1)),nn1 hx3,bf (!ByteArray.toList (prNm u)==ByteArray.toList nm0) (bnF (bsT hx1)),rp 3 (bf false),sl (Pr.cs_len (prK u)),rp 3 (bf false),rp 3 (df1 hx4),sl (Pr.cs_len (prK u)),rp 3 (df1 hx4)] [1,2,3,4,58] [1] hcx hq
theorem nd_4_7(hx0:pnS_r0 (prO u)=false)(hx1:prNm u=ByteArray.mk #[])(hx2:prO u=1)(hx3:((prK u).length:Int)<a)(cx:Cx)(hcx:cx.n=130){Q:PExit->S->Prop}(hq:Q (.normal) (S.mk [(1,.lp 1 0),(2,vI6 0),(3,vI6 a),(4,vI6 b),(58,.v (.bool true))] [(1,prV u)] xe)):PW prog cx (regF f67 4) (nd1 u a b xe) Q:=
 pw mdL 130 [cl (@pnS (prO u)),rp 4 (bt1 (bnT hx0)),rp 4 (bf (!ByteArray.toList (prNm u)==ByteArray.toList nm0) (bnF (bsT hx1))),rp 3 (nn1 hx2),bf (!ByteArray.toList (prNm u)==ByteArray.toList nm0) (bnF (bsT hx1)),nn1 hx2,bf (!ByteArray.toList (prNm u)==ByteArray.toList nm0) (bnF (bsT hx1)),rp 3 (bf false),bf (!ByteArray.toList (prNm u)==ByteArray.toList nm0) (bnF (bsT hx1)),bf false,bf (!ByteArray.toList (prNm u)==ByteArray.toList nm0) (bnF (bsT hx1)),rp 3 (bf false),sl (Pr.cs_len (prK u)),rp 3 (bf false),rp 6 (dt1 hx3)] [1,2,3,4,58] [1] hcx hq
theorem nd_4_8(hx0:pnS_r0 (prO u)=false)(hx1:prNm u=ByteArray.mk #[])(hx2:prO u=1)(hx3:¬((prK u).length:Int)<a)(cx:Cx)(hcx:cx.n=130){Q:PExit->S->Prop}(hq:Q (.normal) (S.mk [(1,.lp 1 0),(2,vI6 0),(3,vI6 a),(4,vI6 b),(58,.v (.bool (decide (((prK u).length:Int)>b))))] [(1,prV u)] xe)):PW prog cx (regF f67 4) (nd1 u a b xe) Q:=
 pw mdL 130 [cl (@pnS (prO u)),rp 4 (bt1 (bnT hx0)),rp 4 (bf (!ByteArray.toList (prNm u)==ByteArray.toList nm0) (bnF (bsT hx1))),rp 3 (nn1 hx2),bf (!ByteArray.toList (prNm u)==ByteArray.toList nm0) (bnF (bsT hx1)),nn1 hx2,bf (!ByteArray.toList (prNm u)==ByteArray.toList nm0) (bnF (bsT hx1)),rp 3 (bf false),bf (!ByteArray.toList (prNm u)==ByteArray.toList nm0) (bnF (bsT hx1)),bf false,bf (!ByteArray.toList (prNm u)==ByteArray.toList nm0) (bnF (bsT hx1)),rp 3 (bf false),sl (Pr.cs_len (prK u)),rp 3 (bf false),rp 3 (df1 hx3),sl (Pr.cs_len (prK u)),rp 3 (df1 hx3)] [1,2,3,4,58] [1] hcx hq
theorem nd_4_9(hx0:pnS_r0 (prO u)=true)(hx1:¬prO u=1)(hx2:¬prO u=2)(hx3:¬prN u=0)(cx:Cx)(hcx:cx.n=130){Q:PExit->S->Prop}(hq:Q (.normal) (S.mk [(1,.lp 1 0),(2,vI6 0),(3,vI6 a),(4,vI6 b),(58,.v (.bool true))] [(1,prV u)] xe)):PW prog cx (regF f67 4) (nd1 u a b xe) Q:=
 pw mdL 130 [cl (@pnS (prO u)),rp 4 (bf1 (bnF hx0)),rp 4 (bf false),rp 3 (nt1 hx1),bf false,nt1 hx1,bf false,rp 3 (nt1 hx2),bf false,nt1 hx2,bf false,rp 6 (nt1 hx3),rp 6 (bt true)] [1,2,3,4,58] [1] hcx hq
theorem nd_4_10(hx0:pnS_r0 (prO u)=true)(hx1:¬prO u=1)(hx2:¬prO u=2)(hx3:prN u=0)(hx4:((prK u).length:Int)<a)(cx:Cx)(hcx:cx.n=130){Q:PExit->S->Prop}(hq:Q (.normal) (S.mk [(1,.lp 1 0),(2,vI6 0),(3,vI6 a),(4,vI6 b),(58,.v (.bool true))] [(1,prV u)] xe)):PW prog cx (regF f67 4) (nd1 u a b xe) Q:=
 pw mdL 130 [cl (@pnS (prO u)),rp 4 (bf1 (bnF hx0)),rp 4 (bf false),rp 3 (nt1 hx1),bf false,nt1 hx1,bf false,rp 3 (nt1 hx2),bf false,nt1 hx2,bf false,rp 3 (nn1 hx3),sl (Pr.cs_len (prK u)),rp 3 (nn1 hx3),rp 6 (dt1 hx4)] [1,2,3,4,58] [1] hcx hq
theorem nd_4_11(hx0:pnS_r0 (prO u)=true)(hx1:¬prO u=1)(hx2:¬prO u=2)(hx3:prN u=0)(hx4:¬((prK u).length:Int)<a)(cx:Cx)(hcx:cx.n=130){Q:PExit->S->Prop}(hq:Q (.normal) (S.mk [(1,.lp 1 0),(2,vI6 0),(3,vI6 a),(4,vI6 b),(58,.v (.bool (decide (((prK u).length:Int)>b))))] [(1,prV u)] xe)):PW prog cx (regF f67 4) (nd1 u a b xe) Q:=
 pw mdL 130 [cl (@pnS (prO u)),rp 4 (bf1 (bnF hx0)),rp 4 (bf false),rp 3 (nt1 hx1),bf false,nt1 hx1,bf false,rp 3 (nt1 hx2),bf false,nt1 hx2,bf false,rp 3 (nn1 hx3),sl (Pr.cs_len (prK u)),rp 3 (nn1 hx3),rp 3 (df1 hx4),sl (Pr.cs_len (prK u)),rp 3 (df1 hx4)] [1,2,3,4,58] [1] hcx hq
theorem nd_4_12(hx0:pnS_r0 (prO u)=true)(hx1:¬prO u=1)(hx2:prO u=2)(hx3:((prK u).length:Int)<a)(cx:Cx)(hcx:cx.n=130){Q:PExit->S->Prop}(hq:Q (.normal) (S.mk [(1,.lp 1 0),(2,vI6 0),(3,vI6 a),(4,vI6 b),(58,.v (.bool true))] [(1,prV u)] xe)):PW prog cx (regF f67 4) (nd1 u a b xe) Q:=
 pw mdL 130 [cl (@pnS (prO u)),rp 4 (bf1 (bnF hx0)),rp 4 (bf false),rp 3 (nt1 hx1),bf false,nt1 hx1,bf false,rp 3 (nn1 hx2),bf false,nn1 hx2,rp 4 (bf false),sl (Pr.cs_len (prK u)),rp 3 (bf false),rp 6 (dt1 hx3)] [1,2,3,4,58] [1] hcx hq
theorem nd_4_13(hx0:pnS_r0 (prO u)=true)(hx1:¬prO u=1)(hx2:prO u=2)(hx3:¬((prK u).length:Int)<a)(cx:Cx)(hcx:cx.n=130){Q:PExit->S->Prop}(hq:Q (.normal) (S.mk [(1,.lp 1 0),(2,vI6 0),(3,vI6 a),(4,vI6 b),(58,.v (.bool (decide (((prK u).length:Int)>b))))] [(1,prV u)] xe)):PW prog cx (regF f67 4) (nd1 u a b xe) Q:=
 pw mdL 130 [cl (@pnS (prO u)),rp 4 (bf1 (bnF hx0)),rp 4 (bf false),rp 3 (nt1 hx1),bf false,nt1 hx1,bf false,rp 3 (nn1 hx2),bf false,nn1 hx2,rp 4 (bf false),sl (Pr.cs_len (prK u)),rp 3 (bf false),rp 3 (df1 hx3),sl (Pr.cs_len (prK u)),rp 3 (df1 hx3)] [1,2,3,4,58] [1] hcx hq
theorem nd_4_14(hx0:pnS_r0 (prO u)=true)(hx1:prO u=1)(hx2:((prK u).length:Int)<a)(cx:Cx)(hcx:cx.n=130){Q:PExit->S->Prop}(hq:Q (.normal) (S.mk [(1,.lp 1 0),(2,vI6 0),(3,vI6 a),(4,vI6 b),(58,.v (.bool true))] [(1,prV u)] xe)):PW prog cx (regF f67 4) (nd1 u a b xe) Q:=
 pw mdL 130 [cl (@pnS (prO u)),rp 4 (bf1 (bnF hx0)),rp 4 (bf false),rp 3 (nn1 hx1),bf false,nn1 hx1,rp 10 (bf false),sl (Pr.cs_len (prK u)),rp 3 (bf false),rp 6 (dt1 hx2)] [1,2,3,4,58] [1] hcx hq
theorem nd_4_15(hx0:pnS_r0 (prO u)=true)(hx1:prO u=1)(hx2:¬((prK u).length:Int)<a)(cx:Cx)(hcx:cx.n=130){Q:PExit->S->Prop}(hq:Q (.normal) (S.mk [(1,.lp 1 0),(2,vI6 0),(3,vI6 a),(4,vI6 b),(58,.v (.bool (decide (((prK u).length:Int)>b))))] [(1,prV u)] xe)):PW prog cx (regF f67 4) (nd1 u a b xe) Q:=
 pw mdL 130 [cl (@pnS (prO u)),rp 4 (bf1 (bnF hx0)),rp 4 (bf false),rp 3 (nn1 hx1),bf false,nn1 hx1,rp 10 (bf false),sl (Pr.cs_len (prK u)),rp 3 (bf false),rp 3 (df1 hx2),sl (Pr.cs_len (prK u)),rp 3 (df1 hx2)] [1,2,3,4,58] [1] hcx hq
end
def nd_4_v58(u:Pr)(a b:Int):Bool:=(if pnS_r0 (prO u)=true then (if prO u=1 then (if ((prK u).length:Int)<a then (true) else ((decide (((prK u).length:Int)>b)))) else (if prO u=2 then (if ((prK u).length:Int)<a then (true) else ((decide (((prK u).length:Int)>b)))) else (if prN u=0 then (if ((prK u).length:Int)<a then (true) else ((decide (((prK u).length:Int)>b)))) else (true)))) else (if prNm u=ByteArray.mk #[] then (if prO u=1 then (if ((prK u).length:Int)<a then (true) else ((decide (((prK u).length:Int)>b)))) else (if prO u=2 then (if ((prK u).length:Int)<a then (true) else ((decide (((prK u).length:Int)>b)))) else (if prN u=0 then (if ((prK u).length:Int)<a then (true) else ((decide (((prK u).length:Int)>b)))) else (true)))) else (true)))
theorem nd_4J(u:Pr)(a b:Int)(xe:Ext):(Ob.frag 130 (regF f67 4) (nd1 u a b xe) (.normal) (S.mk [(1,.lp 1 0),(2,vI6 0),(3,vI6 a),(4,vI6 b),(58,.v (.bool (nd_4_v58 u a b)))] [(1,prV u)] xe)).ok prog:=by
 intro cx hcx
 by_cases g0:pnS_r0 (prO u)=true
 ·by_cases g1:prO u=1
  ·by_cases g2:((prK u).length:Int)<a
   ·exact nd_4_14 u a b xe g0 g1 g2 cx hcx ⟨rfl,by rw [show nd_4_v58 u a b=(true) by unfold nd_4_v58; rw [iP g0,iP g1,iP g2]]⟩
   ·exact nd_4_15 u a b xe g0 g1 g2 cx hcx ⟨rfl,by rw [show nd_4_v58 u a b=((decide (((prK u).length:Int)>b))) by unfold nd_4_v58; rw [iP g0,iP g1,iN g2]]⟩
  ·by_cases g2:prO u=2
   ·by_cases g3:((prK u).length:Int)<a
    ·exact nd_4_12 u a b xe g0 g1 g2 g3 cx hcx ⟨rfl,by rw [show nd_4_v58 u a b=(true) by unfold nd_4_v58; rw [iP g0,iN g1,iP g2,iP g3]]⟩
    ·exact nd_4_13 u a b xe g0 g1 g2 g3 cx hcx ⟨rfl,by rw [show nd_4_v58 u a b=((decide (((prK u).length:Int)>b))) by unfold nd_4_v58; rw [iP g0,iN g1,iP g2,iN g3]]⟩
   ·by_cases g3:prN u=0
    ·by_cases g4:((prK u).length:Int)<a
     ·exact nd_4_10 u a b xe g0 g1 g2 g3 g4 cx hcx ⟨rfl,by rw [show nd_4_v58 u a b=(true) by unfold nd_4_v58; rw [iP g0,iN g1,iN g2,iP g3,iP g4]]⟩
     ·exact nd_4_11 u a b xe g0 g1 g2 g3 g4 cx hcx ⟨rfl,by rw [show nd_4_v58 u a b=((decide (((prK u).length:Int)>b))) by unfold nd_4_v58; rw [iP g0,iN g1,iN g2,iP g3,iN g4]]⟩
    ·exact nd_4_9 u a b xe g0 g1 g2 g3 cx hcx ⟨rfl,by rw [show nd_4_v58 u a b=(true) by unfold nd_4_v58; rw [iP g0,iN g1,iN g2,iN g3]]⟩
 ·by_cases g1:prNm u=ByteArray.mk #[]
  ·by_cases g2:prO u=1
   ·by_cases g3:((prK u).length:Int)<a
    ·exact nd_4_7 u a b xe (Bool.eq_false_iff.2 g0) g1 g2 g3 cx hcx ⟨rfl,by rw [show nd_4_v58 u a b=(true) by unfold nd_4_v58; rw [iN g0,iP g1,iP g2,iP g3]]⟩
    ·exact nd_4_8 u a b xe (Bool.eq_false_iff.2 g0) g1 g2 g3 cx hcx ⟨rfl,by rw [show nd_4_v58 u a b=((decide (((prK u).length:Int)>b))) by unfold nd_4_v58; rw [iN g0,iP g1,iP g2,iN g3]]⟩
   ·by_cases g3:prO u=2
    ·by_cases g4:((prK u).length:Int)<a
     ·exact nd_4_5 u a b xe (Bool.eq_false_iff.2 g0) g1 g2 g3 g4 cx hcx ⟨rfl,by rw [show nd_4_v58 u a b=(true) by unfold nd_4_v58; rw [iN g0,iP g1,iN g2,iP g3,iP g4]]⟩
     ·exact nd_4_6 u a b xe (Bool.eq_false_iff.2 g0) g1 g2 g3 g4 cx hcx ⟨rfl,by rw [show nd_4_v58 u a b=((decide (((prK u).length:Int)>b))) by unfold nd_4_v58; rw [iN g0,iP g1,iN g2,iP g3,iN g4]]⟩
    ·by_cases g4:prN u=0
     ·by_cases g5:((prK u).length:Int)<a
      ·exact nd_4_3 u a b xe (Bool.eq_false_iff.2 g0) g1 g2 g3 g4 g5 cx hcx ⟨rfl,by rw [show nd_4_v58 u a b=(true) by unfold nd_4_v58; rw [iN g0,iP g1,iN g2,iN g3,iP g4,iP g5]]⟩
      ·exact nd_4_4 u a b xe (Bool.eq_false_iff.2 g0) g1 g2 g3 g4 g5 cx hcx ⟨rfl,by rw [show nd_4_v58 u a b=((decide (((prK u).length:Int)>b))) by unfold nd_4_v58; rw [iN g0,iP g1,iN g2,iN g3,iP g4,iN g5]]⟩
     ·exact nd_4_2 u a b xe (Bool.eq_false_iff.2 g0) g1 g2 g3 g4 cx hcx ⟨rfl,by rw [show nd_4_v58 u a b=(true) by unfold nd_4_v58; rw [iN g0,iP g1,iN g2,iN g3,iN g4]]⟩
  ·exact nd_4_1 u a b xe (Bool.eq_false_iff.2 g0) g1 cx hcx ⟨rfl,by rw [show nd_4_v58 u a b=(true) by unfold nd_4_v58; rw [iN g0,iN g1]]⟩
section
variable (u:Pr) (a b:Int) (xe:Ext)
include u a b xe
theorem nd_6_1(hx0:prO u=1)(hx1:niS_r0 (prN u)=false)(cx:Cx)(hcx:cx.n=130){Q:PExit->S->Prop}(hq:Q (.normal) (S.mk [(1,.lp 1 0),(2,vI6 0),(3,vI6 a),(4,vI6 b),(82,.v (.bool true))] [(1,prV u)] xe)):PW prog cx (regF f67 6) (nd1 u a b xe) Q:=
 pw mdL 130 [rp 3 (et1 hx0),cl (@niS (prN u)),rp 2 (et1 hx0),rp 8 (bt1 (bnT hx1))] [1,2,3,4,82] [1] hcx hq
theorem nd_6_2(hx0:prO u=1)(hx1:niS_r0 (prN u)=true)(cx:Cx)(hcx:cx.n=130){Q:PExit->S->Prop}(hq:Q (.normal) (S.mk [(1,.lp 1 0),(2,vI6 0),(3,vI6 a),(4,vI6 b),(82,.v (.bool false))] [(1,prV u)] xe)):PW prog cx (regF f67 6) (nd1 u a b xe) Q:=
 pw mdL 130 [rp 3 (et1 hx0),cl (@niS (prN u)),rp 2 (et1 hx0),rp 4 (bf1 (bnF hx1)),rp 3 (en (prO u) 2),bf1 (bnF hx1),en (prO u) 2,bf1 (bnF hx1),rp 3 (bf false),bf1 (bnF hx1),bf false,bf1 (bnF hx1)] [1,2,3,4,82] [1] hcx hq
theorem nd_6_3(hx0:¬prO u=1)(hx1:prO u=2)(hx2:¬prN u=0)(cx:Cx)(hcx:cx.n=130){Q:PExit->S->Prop}(hq:Q (.normal) (S.mk [(1,.lp 1 0),(2,vI6 0),(3,vI6 a),(4,vI6 b),(82,.v (.bool (prN u != 1)))] [(1,prV u)] xe)):PW prog cx (regF f67 6) (nd1 u a b xe) Q:=
 pw mdL 130 [rp 5 (en1 hx0),rp 4 (bf false),rp 3 (et1 hx1),bf false,et1 hx1,bf false,rp 3 (nt1 hx2),bf false,nt1 hx2,bf false] [1,2,3,4,82] [1] hcx hq
theorem nd_6_4(hx0:¬prO u=1)(hx1:prO u=2)(hx2:prN u=0)(cx:Cx)(hcx:cx.n=130){Q:PExit->S->Prop}(hq:Q (.normal) (S.mk [(1,.lp 1 0),(2,vI6 0),(3,vI6 a),(4,vI6 b),(82,.v (.bool false))] [(1,prV u)] xe)):PW prog cx (regF f67 6) (nd1 u a b xe) Q:=
 pw mdL 130 [rp 5 (en1 hx0),rp 4 (bf false),rp 3 (et1 hx1),bf false,et1 hx1,bf false,rp 3 (nn1 hx2),bf false,nn1 hx2,bf false] [1,2,3,4,82] [1] hcx hq
theorem nd_6_5(hx0:¬prO u=1)(hx1:¬prO u=2)(cx:Cx)(hcx:cx.n=130){Q:PExit->S->Prop}(hq:Q (.normal) (S.mk [(1,.lp 1 0),(2,vI6 0),(3,vI6 a),(4,vI6 b),(82,.v (.bool false))] [(1,prV u)] xe)):PW prog cx (regF f67 6) (nd1 u a b xe) Q:=
 pw mdL 130 [rp 5 (en1 hx0),rp 4 (bf false),rp 3 (en1 hx1),bf false,en1 hx1,rp 7 (bf false)] [1,2,3,4,82] [1] hcx hq
end
def nd_6_v82(u:Pr)(a b:Int):Bool:=(if prO u=1 then (if niS_r0 (prN u)=true then (false) else (true)) else (if prO u=2 then (if prN u=0 then (false) else ((prN u != 1))) else (false)))
theorem nd_6J(u:Pr)(a b:Int)(xe:Ext):(Ob.frag 130 (regF f67 6) (nd1 u a b xe) (.normal) (S.mk [(1,.lp 1 0),(2,vI6 0),(3,vI6 a),(4,vI6 b),(82,.v (.bool (nd_6_v82 u a b)))] [(1,prV u)] xe)).ok prog:=by
 intro cx hcx
 by_cases g0:prO u=1
 ·by_cases g1:niS_r0 (prN u)=true
  ·exact nd_6_2 u a b xe g0 g1 cx hcx ⟨rfl,by rw [show nd_6_v82 u a b=(false) by unfold nd_6_v82; rw [iP g0,iP g1]]⟩
  ·exact nd_6_1 u a b xe g0 (Bool.eq_false_iff.2 g1) cx hcx ⟨rfl,by rw [show nd_6_v82 u a b=(true) by unfold nd_6_v82; rw [iP g0,iN g1]]⟩
 ·by_cases g1:prO u=2
  ·by_cases g2:prN u=0
   ·exact nd_6_4 u a b xe g0 g1 g2 cx hcx ⟨rfl,by rw [show nd_6_v82 u a b=(false) by unfold nd_6_v82; rw [iN g0,iP g1,iP g2]]⟩
   ·exact nd_6_3 u a b xe g0 g1 g2 cx hcx ⟨rfl,by rw [show nd_6_v82 u a b=((prN u != 1)) by unfold nd_6_v82; rw [iN g0,iP g1,iN g2]]⟩
  ·exact nd_6_5 u a b xe g0 g1 cx hcx ⟨rfl,by rw [show nd_6_v82 u a b=(false) by unfold nd_6_v82; rw [iN g0,iN g1]]⟩
theorem nd_8_1(u:Pr)(a b:Int)(xe:Ext)(hx0:pnS_r0 (prO u)=true)(cx:Cx)(hcx:cx.n=130){Q:PExit->S->Prop}(hq:Q (.normal) (S.mk [(1,.lp 1 0),(2,vI6 0),(3,vI6 a),(4,vI6 b),(91,.v (.bool (erN (coreB (prNm u)) != 0)))] [(1,prV u)] xe)):PW prog cx (regF f67 8) (nd1 u a b xe) Q:=
 pw mdL 130 [cl (@pnS (prO u)),rp 3 (bt1 hx0),cl (@nCoT (prNm u)),rp 2 (bt1 hx0)] [1,2,3,4,91] [1] hcx hq
theorem nd_8_2(u:Pr)(a b:Int)(xe:Ext)(hx0:pnS_r0 (prO u)=false)(cx:Cx)(hcx:cx.n=130){Q:PExit->S->Prop}(hq:Q (.normal) (S.mk [(1,.lp 1 0),(2,vI6 0),(3,vI6 a),(4,vI6 b),(91,.v (.bool false))] [(1,prV u)] xe)):PW prog cx (regF f67 8) (nd1 u a b xe) Q:=
 pw mdL 130 [cl (@pnS (prO u)),rp 5 (bf1 hx0)] [1,2,3,4,91] [1] hcx hq
def nd_8_v91(u:Pr)(a b:Int):Bool:=(if pnS_r0 (prO u)=true then ((erN (coreB (prNm u)) != 0)) else (false))
theorem nd_8J(u:Pr)(a b:Int)(xe:Ext):(Ob.frag 130 (regF f67 8) (nd1 u a b xe) (.normal) (S.mk [(1,.lp 1 0),(2,vI6 0),(3,vI6 a),(4,vI6 b),(91,.v (.bool (nd_8_v91 u a b)))] [(1,prV u)] xe)).ok prog:=by
 intro cx hcx
 by_cases g0:pnS_r0 (prO u)=true
 ·exact nd_8_1 u a b xe g0 cx hcx ⟨rfl,by rw [show nd_8_v91 u a b=((erN (coreB (prNm u)) != 0)) by unfold nd_8_v91; rw [iP g0]]⟩
 ·exact nd_8_2 u a b xe (Bool.eq_false_iff.2 g0) cx hcx ⟨rfl,by rw [show nd_8_v91 u a b=(false) by unfold nd_8_v91; rw [iN g0]]⟩
theorem nd_9_1(u:Pr)(a b:Int)(xe:Ext)(hx0:prO u=3)(cx:Cx)(hcx:cx.n=130){Q:PExit->S->Prop}(hq:Q (.normal) (S.mk [(1,.lp 1 0),(2,vI6 0),(3,vI6 a),(4,vI6 b),(5,.v (.bool (ByteArray.toList (prNm u)==ByteArray.toList (bM 118))))] [(1,prV u)] xe)):PW prog cx (regF f67 9) (nd1 u a b xe) Q:=
 pw mdL 130 [rp 4 (et1 hx0)] [1,2,3,4,5] [1] hcx hq
theorem nd_9_2(u:Pr)(a b:Int)(xe:Ext)(hx0:¬prO u=3)(cx:Cx)(hcx:cx.n=130){Q:PExit->S->Prop}(hq:Q (.normal) (S.mk [(1,.lp 1 0),(2,vI6 0),(3,vI6 a),(4,vI6 b),(5,.v (.bool false))] [(1,prV u)] xe)):PW prog cx (regF f67 9) (nd1 u a b xe) Q:=
 pw mdL 130 [rp 4 (en1 hx0)] [1,2,3,4,5] [1] hcx hq
def nd_9_v5(u:Pr)(a b:Int):Bool:=(if prO u=3 then ((ByteArray.toList (prNm u)==ByteArray.toList (bM 118))) else (false))
theorem nd_9J(u:Pr)(a b:Int)(xe:Ext):(Ob.frag 130 (regF f67 9) (nd1 u a b xe) (.normal) (S.mk [(1,.lp 1 0),(2,vI6 0),(3,vI6 a),(4,vI6 b),(5,.v (.bool (nd_9_v5 u a b)))] [(1,prV u)] xe)).ok prog:=by
 intro cx hcx
 by_cases g0:prO u=3
 ·exact nd_9_1 u a b xe g0 cx hcx ⟨rfl,by rw [show nd_9_v5 u a b=((ByteArray.toList (prNm u)==ByteArray.toList (bM 118))) by unfold nd_9_v5; rw [iP g0]]⟩
 ·exact nd_9_2 u a b xe g0 cx hcx ⟨rfl,by rw [show nd_9_v5 u a b=(false) by unfold nd_9_v5; rw [iN g0]]⟩
section
variable (u:Pr) (a b:Int) (x:Bool) (xe:Ext)
include u a b x xe
theorem nd_10_1(hx0:prO u=4)(hx1:prNm u=ByteArray.mk #[116,97,103])(cx:Cx)(hcx:cx.n=130){Q:PExit->S->Prop}(hq:Q (.normal) (S.mk [(1,.lp 1 0),(2,vI6 0),(3,vI6 a),(4,vI6 b),(5,.v (.bool x)),(6,.v (.bool true))] [(1,prV u)] xe)):PW prog cx (regF f67 10) (nd3 u a b x xe) Q:=
 pw mdL 130 [rp 4 (et1 hx0),rp 3 (bt (ByteArray.toList (prNm u)==ByteArray.toList (ByteArray.mk #[116,97,103])) (bsT hx1)),et1 hx0,bt (ByteArray.toList (prNm u)==ByteArray.toList (ByteArray.mk #[116,97,103])) (bsT hx1),et1 hx0] [1,2,3,4,5,6] [1] hcx hq
theorem nd_10_2(hx0:prO u=4)(hx1:¬prNm u=ByteArray.mk #[116,97,103])(cx:Cx)(hcx:cx.n=130){Q:PExit->S->Prop}(hq:Q (.normal) (S.mk [(1,.lp 1 0),(2,vI6 0),(3,vI6 a),(4,vI6 b),(5,.v (.bool x)),(6,.v (.bool (ByteArray.toList (prNm u)==ByteArray.toList (ByteArray.mk #[118,97,108]))))] [(1,prV u)] xe)):PW prog cx (regF f67 10) (nd3 u a b x xe) Q:=
 pw mdL 130 [rp 4 (et1 hx0),rp 3 (bf (ByteArray.toList (prNm u)==ByteArray.toList (ByteArray.mk #[116,97,103])) (bsF hx1)),et1 hx0,bf (ByteArray.toList (prNm u)==ByteArray.toList (ByteArray.mk #[116,97,103])) (bsF hx1),et1 hx0] [1,2,3,4,5,6] [1] hcx hq
theorem nd_10_3(hx0:¬prO u=4)(cx:Cx)(hcx:cx.n=130){Q:PExit->S->Prop}(hq:Q (.normal) (S.mk [(1,.lp 1 0),(2,vI6 0),(3,vI6 a),(4,vI6 b),(5,.v (.bool x)),(6,.v (.bool false))] [(1,prV u)] xe)):PW prog cx (regF f67 10) (nd3 u a b x xe) Q:=
 pw mdL 130 [rp 6 (en1 hx0)] [1,2,3,4,5,6] [1] hcx hq
end
def nd_10_v6(u:Pr)(a b:Int)(x:Bool):Bool:=(if prO u=4 then (if prNm u=ByteArray.mk #[116,97,103] then (true) else ((ByteArray.toList (prNm u)==ByteArray.toList (ByteArray.mk #[118,97,108])))) else (false))
theorem nd_10J(u:Pr)(a b:Int)(x:Bool)(xe:Ext):(Ob.frag 130 (regF f67 10) (nd3 u a b x xe) (.normal) (S.mk [(1,.lp 1 0),(2,vI6 0),(3,vI6 a),(4,vI6 b),(5,.v (.bool x)),(6,.v (.bool (nd_10_v6 u a b x)))] [(1,prV u)] xe)).ok prog:=by
 intro cx hcx
 by_cases g0:prO u=4
 ·by_cases g1:prNm u=ByteArray.mk #[116,97,103]
  ·exact nd_10_1 u a b x xe g0 g1 cx hcx ⟨rfl,by rw [show nd_10_v6 u a b x=(true) by unfold nd_10_v6; rw [iP g0,iP g1]]⟩
  ·exact nd_10_2 u a b x xe g0 g1 cx hcx ⟨rfl,by rw [show nd_10_v6 u a b x=((ByteArray.toList (prNm u)==ByteArray.toList (ByteArray.mk #[118,97,108]))) by unfold nd_10_v6; rw [iP g0,iN g1]]⟩
 ·exact nd_10_3 u a b x xe g0 cx hcx ⟨rfl,by rw [show nd_10_v6 u a b x=(false) by unfold nd_10_v6; rw [iN g0]]⟩
theorem nd_11_1(u:Pr)(a b:Int)(x y:Bool)(xe:Ext)(hx0:x=false)(cx:Cx)(hcx:cx.n=130){Q:PExit->S->Prop}(hq:Q (.normal) (S.mk [(1,.lp 1 0),(2,vI6 0),(3,vI6 a),(4,vI6 b),(5,.v (.bool x)),(6,.v (.bool y)),(118,.v (.bool !y))] [(1,prV u)] xe)):PW prog cx (regF f67 11) (nd2 u a b x y xe) Q:=
 pw mdL 130 [rp 3 (bt1 (bnT hx0))] [1,2,3,4,5,6,118] [1] hcx hq
theorem nd_11_2(u:Pr)(a b:Int)(x y:Bool)(xe:Ext)(hx0:x=true)(cx:Cx)(hcx:cx.n=130){Q:PExit->S->Prop}(hq:Q (.normal) (S.mk [(1,.lp 1 0),(2,vI6 0),(3,vI6 a),(4,vI6 b),(5,.v (.bool x)),(6,.v (.bool y)),(118,.v (.bool false))] [(1,prV u)] xe)):PW prog cx (regF f67 11) (nd2 u a b x y xe) Q:=
 pw mdL 130 [rp 3 (bf1 (bnF hx0))] [1,2,3,4,5,6,118] [1] hcx hq
def nd_11_v118(u:Pr)(a b:Int)(x y:Bool):Bool:=(if x=true then (false) else (!y))
theorem nd_11J(u:Pr)(a b:Int)(x y:Bool)(xe:Ext):(Ob.frag 130 (regF f67 11) (nd2 u a b x y xe) (.normal) (S.mk [(1,.lp 1 0),(2,vI6 0),(3,vI6 a),(4,vI6 b),(5,.v (.bool x)),(6,.v (.bool y)),(118,.v (.bool (nd_11_v118 u a b x y)))] [(1,prV u)] xe)).ok prog:=by
 intro cx hcx
 by_cases g0:x=true
 ·exact nd_11_2 u a b x y xe g0 cx hcx ⟨rfl,by rw [show nd_11_v118 u a b x y=(false) by unfold nd_11_v118; rw [iP g0]]⟩
 ·exact nd_11_1 u a b x y xe (Bool.eq_false_iff.2 g0) cx hcx ⟨rfl,by rw [show nd_11_v118 u a b x y=(!y) by unfold nd_11_v118; rw [iN g0]]⟩
abbrev nd4(u:Pr)(a b:Int)(x:Bool)(xe:Ext):S:=⟨[(1,.lp 1 0),(2,.v (.int .i64 0)),(3,.v (.int .i64 a)),(4,.v (.int .i64 b)),(91,.v (.bool x))],[(1,prV u)],xe⟩
section
variable (u:Pr) (a b:Int) (x y:Bool) (h13:prO u=8->0<(prK u).length) (xe:Ext)
include u a b x y h13 xe
theorem nd_13a_1(hx0:prO u=8)(cx:Cx)(hcx:cx.n=130){Q:PExit->S->Prop}(hq:Q (.normal) (S.mk [(1,.lp 1 0),(2,vI6 0),(3,vI6 a),(4,vI6 b),(5,.v (.bool x)),(6,.v (.bool y)),(129,.v (.bool (prO (List.getD (prK u) 0 default) != 1)))] [(1,prV u)] xe)):PW prog cx (regF f67 13) (nd2 u a b x y xe) Q:=
 pw mdL 130 [rp 3 (et1 hx0),mxPr (prK u) 0,xPr (prK u) 0,rp 4 (et1 hx0)] [1,2,3,4,5,6,129] [1] hcx hq
theorem nd_13a_2(hx0:¬prO u=8)(cx:Cx)(hcx:cx.n=130){Q:PExit->S->Prop}(hq:Q (.normal) (S.mk [(1,.lp 1 0),(2,vI6 0),(3,vI6 a),(4,vI6 b),(5,.v (.bool x)),(6,.v (.bool y)),(129,.v (.bool false))] [(1,prV u)] xe)):PW prog cx (regF f67 13) (nd2 u a b x y xe) Q:=
 pw mdL 130 [rp 7 (en1 hx0)] [1,2,3,4,5,6,129] [1] hcx hq
end
def nd_13a_v129(u:Pr)(a b:Int)(x y:Bool):Bool:=(if prO u=8 then ((prO (List.getD (prK u) 0 default) != 1)) else (false))
theorem nd_13aJ(u:Pr)(a b:Int)(x y:Bool)(h13:prO u=8->0<(prK u).length)(xe:Ext):(Ob.frag 130 (regF f67 13) (nd2 u a b x y xe) (.normal) (S.mk [(1,.lp 1 0),(2,vI6 0),(3,vI6 a),(4,vI6 b),(5,.v (.bool x)),(6,.v (.bool y)),(129,.v (.bool (nd_13a_v129 u a b x y)))] [(1,prV u)] xe)).ok prog:=by
 intro cx hcx
 by_cases g0:prO u=8
 ·exact nd_13a_1 u a b x y h13 xe g0 cx hcx ⟨rfl,by rw [show nd_13a_v129 u a b x y=((prO (List.getD (prK u) 0 default) != 1)) by unfold nd_13a_v129; rw [iP g0]]⟩
 ·exact nd_13a_2 u a b x y h13 xe g0 cx hcx ⟨rfl,by rw [show nd_13a_v129 u a b x y=(false) by unfold nd_13a_v129; rw [iN g0]]⟩
section
variable (u:Pr) (a b:Int) (x:Bool) (h13:prO u=8->0<(prK u).length) (xe:Ext)
include u a b x h13 xe
theorem nd_13b_1(hx0:prO u=8)(cx:Cx)(hcx:cx.n=130){Q:PExit->S->Prop}(hq:Q (.normal) (S.mk [(1,.lp 1 0),(2,vI6 0),(3,vI6 a),(4,vI6 b),(91,.v (.bool x)),(129,.v (.bool (prO (List.getD (prK u) 0 default) != 1)))] [(1,prV u)] xe)):PW prog cx (regF f67 13) (nd4 u a b x xe) Q:=
 pw mdL 130 [rp 3 (et1 hx0),mxPr (prK u) 0,xPr (prK u) 0,rp 4 (et1 hx0)] [1,2,3,4,91,129] [1] hcx hq
theorem nd_13b_2(hx0:¬prO u=8)(cx:Cx)(hcx:cx.n=130){Q:PExit->S->Prop}(hq:Q (.normal) (S.mk [(1,.lp 1 0),(2,vI6 0),(3,vI6 a),(4,vI6 b),(91,.v (.bool x)),(129,.v (.bool false))] [(1,prV u)] xe)):PW prog cx (regF f67 13) (nd4 u a b x xe) Q:=
 pw mdL 130 [rp 7 (en1 hx0)] [1,2,3,4,91,129] [1] hcx hq
end
def nd_13b_v129(u:Pr)(a b:Int)(x:Bool):Bool:=(if prO u=8 then ((prO (List.getD (prK u) 0 default) != 1)) else (false))
theorem nd_13bJ(u:Pr)(a b:Int)(x:Bool)(h13:prO u=8->0<(prK u).length)(xe:Ext):(Ob.frag 130 (regF f67 13) (nd4 u a b x xe) (.normal) (S.mk [(1,.lp 1 0),(2,vI6 0),(3,vI6 a),(4,vI6 b),(91,.v (.bool x)),(129,.v (.bool (nd_13b_v129 u a b x)))] [(1,prV u)] xe)).ok prog:=by
 intro cx hcx
 by_cases g0:prO u=8
 ·exact nd_13b_1 u a b x h13 xe g0 cx hcx ⟨rfl,by rw [show nd_13b_v129 u a b x=((prO (List.getD (prK u) 0 default) != 1)) by unfold nd_13b_v129; rw [iP g0]]⟩
 ·exact nd_13b_2 u a b x h13 xe g0 cx hcx ⟨rfl,by rw [show nd_13b_v129 u a b x=(false) by unfold nd_13b_v129; rw [iN g0]]⟩
theorem n13_h{u:Pr}(h:¬nd_4_v58 u (pkS_r0 (prO u)) (pkS_r1 (prO u))=true):prO u=8->0<(prK u).length:=fun h8=>by
 rcases Nat.eq_zero_or_pos (prK u).length with h0 | h0
 ·exfalso; apply h
  simp only [nd_4_v58,pnS_r0,pkS_r0,pkS_r1,h8,h0]
  simp
 ·exact h0
theorem n13_h2{u:Pr}(h:nd_4_v58 u (pkS_r0 (prO u)) (pkS_r1 (prO u))=false):prO u=8->0<(prK u).length:=n13_h (by rw [h]; decide)
def mdP:Md:=⟨fun _=>some false,fun t=>t==1000001||t==1000004||t==1000006||t==1000008||t==1000009||t==1000010||t==1000011||t==1000013⟩
section
variable (u:Pr) (hx0:nd_1_v14 u=false) (hx1:nd_4_v58 u (pkS_r0 (prO u)) (pkS_r1 (prO u))=false) (hx2:nd_6_v82 u (pkS_r0 (prO u)) (pkS_r1 (prO u))=false)
include u hx0 hx1 hx2
theorem pnd_5(hx3:nd_8_v91 u (pkS_r0 (prO u)) (pkS_r1 (prO u))=true)(hx4:nd_11_v118 u (pkS_r0 (prO u)) (pkS_r1 (prO u)) (nd_9_v5 u (pkS_r0 (prO u)) (pkS_r1 (prO u))) (nd_10_v6 u (pkS_r0 (prO u)) (pkS_r1 (prO u)) (nd_9_v5 u (pkS_r0 (prO u)) (pkS_r1 (prO u))))=false)(hx5:nd_13a_v129 u (pkS_r0 (prO u)) (pkS_r1 (prO u)) (nd_9_v5 u (pkS_r0 (prO u)) (pkS_r1 (prO u))) (nd_10_v6 u (pkS_r0 (prO u)) (pkS_r1 (prO u)) (nd_9_v5 u (pkS_r0 (prO u)) (pkS_r1 (prO u))))=true):Pu 67 [.agg (prL u)] (rI 6):=
 pu mdP (fun e=>[lg (@nd_1J u e),bf1 hx0,cl (@pkS (prO u)),lg (@nd_4J u (pkS_r0 (prO u)) (pkS_r1 (prO u)) e),bf1 hx1,lg (@nd_6J u (pkS_r0 (prO u)) (pkS_r1 (prO u)) e),bf1 hx2,lg (@nd_8J u (pkS_r0 (prO u)) (pkS_r1 (prO u)) e),bt1 hx3,lg (@nd_9J u (pkS_r0 (prO u)) (pkS_r1 (prO u)) e),lg (@nd_10J u (pkS_r0 (prO u)) (pkS_r1 (prO u)) (nd_9_v5 u (pkS_r0 (prO u)) (pkS_r1 (prO u))) e),lg (@nd_11J u (pkS_r0 (prO u)) (pkS_r1 (prO u)) (nd_9_v5 u (pkS_r0 (prO u)) (pkS_r1 (prO u))) (nd_10_v6 u (pkS_r0 (prO u)) (pkS_r1 (prO u)) (nd_9_v5 u (pkS_r0 (prO u)) (pkS_r1 (prO u)))) e),bf1 hx4,lg (@nd_13aJ u (pkS_r0 (prO u)) (pkS_r1 (prO u)) (nd_9_v5 u (pkS_r0 (prO u)) (pkS_r1 (prO u))) (nd_10_v6 u (pkS_r0 (prO u)) (pkS_r1 (prO u)) (nd_9_v5 u (pkS_r0 (prO u)) (pkS_r1 (prO u)))) (by (apply n13_h2 <;> first | assumption | omega | decide)) e),bt1 hx5]) func67
theorem pnd_6(hx3:nd_8_v91 u (pkS_r0 (prO u)) (pkS_r1 (prO u))=true)(hx4:nd_11_v118 u (pkS_r0 (prO u)) (pkS_r1 (prO u)) (nd_9_v5 u (pkS_r0 (prO u)) (pkS_r1 (prO u))) (nd_10_v6 u (pkS_r0 (prO u)) (pkS_r1 (prO u)) (nd_9_v5 u (pkS_r0 (prO u)) (pkS_r1 (prO u))))=false)(hx5:nd_13a_v129 u (pkS_r0 (prO u)) (pkS_r1 (prO u)) (nd_9_v5 u (pkS_r0 (prO u)) (pkS_r1 (prO u))) (nd_10_v6 u (pkS_r0 (prO u)) (pkS_r1 (prO u)) (nd_9_v5 u (pkS_r0 (prO u)) (pkS_r1 (prO u))))=false):Pu 67 [.agg (prL u)] (rI 0):=
 pu mdP (fun e=>[lg (@nd_1J u e),bf1 hx0,cl (@pkS (prO u)),lg (@nd_4J u (pkS_r0 (prO u)) (pkS_r1 (prO u)) e),bf1 hx1,lg (@nd_6J u (pkS_r0 (prO u)) (pkS_r1 (prO u)) e),bf1 hx2,lg (@nd_8J u (pkS_r0 (prO u)) (pkS_r1 (prO u)) e),bt1 hx3,lg (@nd_9J u (pkS_r0 (prO u)) (pkS_r1 (prO u)) e),lg (@nd_10J u (pkS_r0 (prO u)) (pkS_r1 (prO u)) (nd_9_v5 u (pkS_r0 (prO u)) (pkS_r1 (prO u))) e),lg (@nd_11J u (pkS_r0 (prO u)) (pkS_r1 (prO u)) (nd_9_v5 u (pkS_r0 (prO u)) (pkS_r1 (prO u))) (nd_10_v6 u (pkS_r0 (prO u)) (pkS_r1 (prO u)) (nd_9_v5 u (pkS_r0 (prO u)) (pkS_r1 (prO u)))) e),bf1 hx4,lg (@nd_13aJ u (pkS_r0 (prO u)) (pkS_r1 (prO u)) (nd_9_v5 u (pkS_r0 (prO u)) (pkS_r1 (prO u))) (nd_10_v6 u (pkS_r0 (prO u)) (pkS_r1 (prO u)) (nd_9_v5 u (pkS_r0 (prO u)) (pkS_r1 (prO u)))) (by (apply n13_h2 <;> first | assumption | omega | decide)) e),bf1 hx5]) func67
theorem pnd_7(hx3:nd_8_v91 u (pkS_r0 (prO u)) (pkS_r1 (prO u))=false)(hx4:nd_13b_v129 u (pkS_r0 (prO u)) (pkS_r1 (prO u)) (nd_8_v91 u (pkS_r0 (prO u)) (pkS_r1 (prO u)))=true):Pu 67 [.agg (prL u)] (rI 6):=
 pu mdP (fun e=>[lg (@nd_1J u e),bf1 hx0,cl (@pkS (prO u)),lg (@nd_4J u (pkS_r0 (prO u)) (pkS_r1 (prO u)) e),bf1 hx1,lg (@nd_6J u (pkS_r0 (prO u)) (pkS_r1 (prO u)) e),bf1 hx2,lg (@nd_8J u (pkS_r0 (prO u)) (pkS_r1 (prO u)) e),bf1 hx3,lg (@nd_13bJ u (pkS_r0 (prO u)) (pkS_r1 (prO u)) (nd_8_v91 u (pkS_r0 (prO u)) (pkS_r1 (prO u))) (by (apply n13_h2 <;> first | assumption | omega | decide)) e),bt1 hx4]) func67
theorem pnd_8(hx3:nd_8_v91 u (pkS_r0 (prO u)) (pkS_r1 (prO u))=false)(hx4:nd_13b_v129 u (pkS_r0 (prO u)) (pkS_r1 (prO u)) (nd_8_v91 u (pkS_r0 (prO u)) (pkS_r1 (prO u)))=false):Pu 67 [.agg (prL u)] (rI 0):=
 pu mdP (fun e=>[lg (@nd_1J u e),bf1 hx0,cl (@pkS (prO u)),lg (@nd_4J u (pkS_r0 (prO u)) (pkS_r1 (prO u)) e),bf1 hx1,lg (@nd_6J u (pkS_r0 (prO u)) (pkS_r1 (prO u)) e),bf1 hx2,lg (@nd_8J u (pkS_r0 (prO u)) (pkS_r1 (prO u)) e),bf1 hx3,lg (@nd_13bJ u (pkS_r0 (prO u)) (pkS_r1 (prO u)) (nd_8_v91 u (pkS_r0 (prO u)) (pkS_r1 (prO u))) (by (apply n13_h2 <;> first | assumption | omega | decide)) e),bf1 hx4]) func67
end
def pnd_r0(u:Pr):Int:=(if nd_1_v14 u=true then 1 else (if nd_4_v58 u (pkS_r0 (prO u)) (pkS_r1 (prO u))=true then 1 else (if nd_6_v82 u (pkS_r0 (prO u)) (pkS_r1 (prO u))=true then 2 else (if nd_8_v91 u (pkS_r0 (prO u)) (pkS_r1 (prO u))=true then (if nd_11_v118 u (pkS_r0 (prO u)) (pkS_r1 (prO u)) (nd_9_v5 u (pkS_r0 (prO u)) (pkS_r1 (prO u))) (nd_10_v6 u (pkS_r0 (prO u)) (pkS_r1 (prO u)) (nd_9_v5 u (pkS_r0 (prO u)) (pkS_r1 (prO u))))=true then 3 else (if nd_13a_v129 u (pkS_r0 (prO u)) (pkS_r1 (prO u)) (nd_9_v5 u (pkS_r0 (prO u)) (pkS_r1 (prO u))) (nd_10_v6 u (pkS_r0 (prO u)) (pkS_r1 (prO u)) (nd_9_v5 u (pkS_r0 (prO u)) (pkS_r1 (prO u))))=true then 6 else 0)) else (if nd_13b_v129 u (pkS_r0 (prO u)) (pkS_r1 (prO u)) (nd_8_v91 u (pkS_r0 (prO u)) (pkS_r1 (prO u)))=true then 6 else 0)))))
theorem pnd(u:Pr):Pu 67 [.agg (prL u)] (rI (pnd_r0 u)):=by
 by_cases h0:nd_1_v14 u=true
 ·simp only [pnd_r0,iP h0]; exact pu mdP (fun e=>[lg (@nd_1J u e),bt1 h0]) func67
 ·by_cases h1:nd_4_v58 u (pkS_r0 (prO u)) (pkS_r1 (prO u))=true
  ·simp only [pnd_r0,iN h0,iP h1]; exact pu mdP (fun e=>[lg (@nd_1J u e),bf1 (bFT h0),cl (@pkS (prO u)),lg (@nd_4J u (pkS_r0 (prO u)) (pkS_r1 (prO u)) e),bt1 h1]) func67
  ·by_cases h2:nd_6_v82 u (pkS_r0 (prO u)) (pkS_r1 (prO u))=true
   ·simp only [pnd_r0,iN h0,iN h1,iP h2]; exact pu mdP (fun e=>[lg (@nd_1J u e),bf1 (bFT h0),cl (@pkS (prO u)),lg (@nd_4J u (pkS_r0 (prO u)) (pkS_r1 (prO u)) e),bf1 (bFT h1),lg (@nd_6J u (pkS_r0 (prO u)) (pkS_r1 (prO u)) e),bt1 h2]) func67
   ·by_cases h3:nd_8_v91 u (pkS_r0 (prO u)) (pkS_r1 (prO u))=true
    ·by_cases h4:nd_11_v118 u (pkS_r0 (prO u)) (pkS_r1 (prO u)) (nd_9_v5 u (pkS_r0 (prO u)) (pkS_r1 (prO u))) (nd_10_v6 u (pkS_r0 (prO u)) (pkS_r1 (prO u)) (nd_9_v5 u (pkS_r0 (prO u)) (pkS_r1 (prO u))))=true
     ·simp only [pnd_r0,iN h0,iN h1,iN h2,iP h3,iP h4]; exact pu mdP (fun e=>[lg (@nd_1J u e),bf1 (bFT h0),cl (@pkS (prO u)),lg (@nd_4J u (pkS_r0 (prO u)) (pkS_r1 (prO u)) e),bf1 (bFT h1),lg (@nd_6J u (pkS_r0 (prO u)) (pkS_r1 (prO u)) e),bf1 (bFT h2),lg (@nd_8J u (pkS_r0 (prO u)) (pkS_r1 (prO u)) e),bt1 h3,lg (@nd_9J u (pkS_r0 (prO u)) (pkS_r1 (prO u)) e),lg (@nd_10J u (pkS_r0 (prO u)) (pkS_r1 (prO u)) (nd_9_v5 u (pkS_r0 (prO u)) (pkS_r1 (prO u))) e),lg (@nd_11J u (pkS_r0 (prO u)) (pkS_r1 (prO u)) (nd_9_v5 u (pkS_r0 (prO u)) (pkS_r1 (prO u))) (nd_10_v6 u (pkS_r0 (prO u)) (pkS_r1 (prO u)) (nd_9_v5 u (pkS_r0 (prO u)) (pkS_r1 (prO u)))) e),bt1 h4]) func67
     ·by_cases h5:nd_13a_v129 u (pkS_r0 (prO u)) (pkS_r1 (prO u)) (nd_9_v5 u (pkS_r0 (prO u)) (pkS_r1 (prO u))) (nd_10_v6 u (pkS_r0 (prO u)) (pkS_r1 (prO u)) (nd_9_v5 u (pkS_r0 (prO u)) (pkS_r1 (prO u))))=true
      ·simp only [pnd_r0,iN h0,iN h1,iN h2,iP h3,iN h4,iP h5]; exact pnd_5 u (bFT h0) (bFT h1) (bFT h2) h3 (bFT h4) h5
      ·simp only [pnd_r0,iN h0,iN h1,iN h2,iP h3,iN h4,iN h5]; exact pnd_6 u (bFT h0) (bFT h1) (bFT h2) h3 (bFT h4) (bFT h5)
    ·by_cases h4:nd_13b_v129 u (pkS_r0 (prO u)) (pkS_r1 (prO u)) (nd_8_v91 u (pkS_r0 (prO u)) (pkS_r1 (prO u)))=true
     ·simp only [pnd_r0,iN h0,iN h1,iN h2,iN h3,iP h4]; exact pnd_7 u (bFT h0) (bFT h1) (bFT h2) (bFT h3) h4
     ·simp only [pnd_r0,iN h0,iN h1,iN h2,iN h3,iN h4]; exact pnd_8 u (bFT h0) (bFT h1) (bFT h2) (bFT h3) (bFT h4)
theorem pez_1(l:List Pr)(hx0:¬(l.length:Int)=(0:Int)):Pu 68 [.sl 4 (Pr.cs l),.nilsl,.fn (.func 30) [] []] (rB false):=
 pm mdL [sl (Pr.cs_len l),kp,nt1 hx0] func68
theorem pez_2(l:List Pr)(hx0:(l.length:Int)=(0:Int)):Pu 68 [.sl 4 (Pr.cs l),.nilsl,.fn (.func 30) [] []] (rB true):=
 pm mdL [sl (Pr.cs_len l),kp,nn1 hx0,sl (Pr.cs_len l),ur,df (0<(l.length:Int))] func68
def isNil(l:List Pr):Bool:=decide ((l.length:Int)=0)
theorem pezT(l:List Pr):Pu 68 [.sl 4 (Pr.cs l),.nilsl,.fn (.func 30) [] []] (.ret (.bool (isNil l))):=by
 unfold isNil
 by_cases h:(l.length:Int)=0
 ·rw [decide_eq_true h]; first | exact pez_2 l h | exact pez_1 l h
 ·rw [decide_eq_false h]; first | exact pez_1 l h | exact pez_2 l h
def psz_r0(u:Pr):Bool:=(if prO u=0 then (if prNm u=nm0 then (if prN u=0 then (isNil (prK u)) else false) else false) else false)
theorem psz(u:Pr):Pu 30 [.agg (prL u),.agg [pI 0,.str nm0,pI 0,.nilsl]] (rB (psz_r0 u)):=by
 refine t0 ?_;by_cases h0:prO u=0
 ·refine tp [rp 6 (et1 h0)] ?_;by_cases h1:prNm u=nm0
  ·refine tp [rp 6 (bt (ByteArray.toList (prNm u)==ByteArray.toList nm0) (bsT h1))] ?_;by_cases h2:prN u=0
   ·simp only [psz_r0,iP h0,iP h1,iP h2]; exact tM mdL [rp 5 (et1 h2),cl (@pezT (prK u)),et1 h2] func30
   ·simp only [psz_r0,iP h0,iP h1,iN h2]; exact tM mdL [rp 6 (en1 h2)] func30
  ·simp only [psz_r0,iP h0,iN h1]; exact tM mdL [rp 6 (bf (ByteArray.toList (prNm u)==ByteArray.toList nm0) (bsF h1)),rp 6 (bf false)] func30
 ·simp only [psz_r0,iN h0]; exact tM mdL [rp 6 (en1 h0),rp 12 (bf false)] func30
theorem pr_blk(x:Pr):bulkPss (Pr.cs (prK x))<bulkPs (prL x):=by simp only [bulkPs,bulkP]; omega
theorem at_nn{n t:Nat}:0<=Int.tmod (t:Int) (n:Int):=Int.tmod_nonneg _ oM
theorem at_tl{n t:Nat}(h:¬(n:Int)=0):Int.tmod (t:Int) (n:Int)<(n:Int):=Int.tmod_lt_of_pos _ oM
theorem at_lt{n t:Nat}(h:¬(n:Int)=0):(Int.tmod (t:Int) (n:Int)).toNat<n:=by
 have:=at_nn (n:=n) (t:=t)
 have:=at_tl (t:=t) h
 omega
theorem at_bo{l:List Df}{t:Nat}(h:¬(l.length:Int)=0):0<=Int.tmod (t:Int) (l.length:Int)/\Int.tmod (t:Int) (l.length:Int)<((Df.cs l).length:Int):=by rw [Df.cs_len]; exact ⟨at_nn,at_tl h⟩
theorem at1_1(m:Mo)(t:Nat)(ht:t<256)(hx0:((moF m).length:Int)=0):Pu 5 [.agg (moL m),.int .u8 (t:Int)] (.ret (.tup [.agg [.str nm0,.sl 1 [],pI 0,.str nm0,pI 0,.sl 7 [],.sl 10 [],.sl 9 [],.sl 9 [],pI 0,.bool false,.sl 1 [],.sl 2 [],.sl 2 [],.sl 10 [],pI 0,.str nm0,.sl 9 [],.sl 1 [],pI 0,.str nm0,pI 0,.sl 4 [],.sl 4 [],.sl 4 []],.bool false])):=
 Ob.pur_wk (Wk.t (WkL.c (Wk.a (kr (kn 1 (kr (kr (kr (kn 7 (kn 10 (kn 9 (kn 9 (kr (kr (kn 1 (kn 2 (kn 2 (kn 10 (kr (kr (kn 9 (kn 1 (kr (kr (kr (kn 4 (kn 4 (kn 4 (WkL.r _))))))))))))))))))))))))))) (WkL.r _))) (pm mdL [sl (Df.cs_len (moF m)),et1 hx0] func5)
theorem at1_2(m:Mo)(t:Nat)(ht:t<256)(hx0:¬((moF m).length:Int)=0):Pu 5 [.agg (moL m),.int .u8 (t:Int)] (.ret (.tup [.agg (dfL (List.getD (moF m) (Int.toNat (Int.tmod (t:Int) ((moF m).length:Int))) default)),.bool true])):=
 pm mdL [sl (Df.cs_len (moF m)),en1 hx0,wr (t:Int),sl (Df.cs_len (moF m)),kp,am1 hx0,am ((0:Int)<=Int.tmod (t:Int) ((moF m).length:Int)/\Int.tmod (t:Int) ((moF m).length:Int)<((Df.cs (moF m)).length:Int)) (by (apply at_bo <;> first | assumption | omega | decide)),xDf (moF m) (Int.toNat (Int.tmod (t:Int) ((moF m).length:Int))) (by (apply at_lt <;> first | assumption | omega | decide))] func5
abbrev cpA_I(v:Pr)(j:Int)(out:List Pr)(e:Ext):S:=S.mk [(2,.lp 2 0),(3,.lp 3 0),(14,vL 4 (Pr.cs (prK v))),(15,vI6 ((prK v).length:Int)),(16,vI6 j)] [(2,[vI6 0,vS nm0,vI6 0,.v .nilsl]),(3,[vI6 (prO v),vS (prNm v),vI6 (prN v),.uniq 46 4 (Pr.cs out)])] e
def cpA_f  : List Pr->(List Pr)->(List Pr)
 | [],out=>(out)
 | el::r,out=>cpA_f  r (out++[el])
def cpA_q(v:Pr)(e:Ext)(p:(List Pr)):PExit × S:=(.exit 0,S.mk [(2,.lp 2 0),(3,.lp 3 0),(14,vL 4 (Pr.cs (prK v))),(15,vI6 ((prK v).length:Int))] [(2,[vI6 0,vS nm0,vI6 0,.v .nilsl]),(3,[vI6 (prO v),vS (prNm v),vI6 (prN v),.uniq 46 4 (Pr.cs p)])] e)
theorem cpA(v:Pr)(hwk:∀w:Pr,w∈prK v->Pu 73 [.agg (prL w)] (.ret (.agg (prL w))))(out:List Pr)(e:Ext)(hN:(prK v).length<=1000000000)(hv:List.length out<=0):(Ob.loop 29 (loopF f73 0) (cpA_I v 0 out e) (cpA_q v e (cpA_f  ((prK v))  out)).1 (cpA_q v e (cpA_f  ((prK v))  out)).2).ok prog:=by
 refine rng ((prK v).length) (fun j out=>cpA_I v j out e) (fun i out=>cpA_f  (List.drop i ((prK v)))  out) (cpA_q v e) (fun i out=>(out.length<=i)) kR ?_ out (by first | exact hv | omega)
 rintro i out hi hv
 try simp only at hv
 rcases Nat.lt_or_ge i ((prK v).length) with hlt | hge
 ·have hd:=drop_at hlt
  exact lS mdL [rgPr hlt,cl (@hwk (List.getD (prK v) i default) (by first | exact getD_mem hlt | simp_all)),am (List.length (Pr.cs out++[prL (List.getD (prK v) i default)]) * (55+1)<=140737488355328) (by (simp only [List.length_append,List.length_cons,List.length_nil,Pr.cs_len]; omega)),wr ((i:Int)+1)] [2,3,14,15,16] [2,3] hlt (out++[List.getD (prK v) i default]) (S.mk [(2,.lp 2 0),(3,.lp 3 0),(14,vL 4 (Pr.cs (prK v))),(15,vI6 ((prK v).length:Int)),(16,vI6 ((i:Int)+1))] [(2,[vI6 0,vS nm0,vI6 0,.v .nilsl]),(3,[vI6 (prO v),vS (prNm v),vI6 (prN v),.uniq 46 4 (Pr.cs out++[prL (List.getD (prK v) i default)])])] e) ⟨⟨W,W,W,W,W,tVv⟩,⟨Ws,⟨W,W,W,(.inl (by first | (simp only [List.nil_append,nmsC_app,nmsC_snoc,Pr.cs_snoc,Tp.cs_snoc,Ex.cs_snoc,Vr.cs_snoc,Df.cs_snoc]; done) | (simp only [List.nil_append,nmsC_app,nmsC_snoc,Pr.cs_snoc,Tp.cs_snoc,Ex.cs_snoc,Vr.cs_snoc,Df.cs_snoc]; rfl))),tVv⟩,tVv⟩,rfl⟩ (by first | assumption | omega | (apply gPr <;> first | assumption | omega | decide) | (simp only [List.length_append,List.length_cons,List.length_nil] at *; omega) | simp_all) (by rw [hd,cpA_f])
 ·have he:i=(prK v).length:=by omega
  exact lX mdL [df ((i:Int)<((prK v).length:Int))] (out) (by rw [he,List.drop_length,cpA_f])
theorem cpL(v:Pr)(hwk:∀w:Pr,w∈prK v->Pu 73 [.agg (prL w)] (.ret (.agg (prL w))))(hN:(prK v).length<=1000000000):Pu 73 [.agg (prL v)] (rA [pI (prO v),.str (prNm v),pI (prN v),.sl 4 (Pr.cs (cpA_f (prK v) []))]):=
 pu mdL (fun e=>[sl (Pr.cs_len (prK v)),lp (S.mk [(2,.lp 2 0),(3,.lp 3 0),(14,vL 4 (Pr.cs (prK v))),(15,vI6 ((prK v).length:Int)),(16,vI6 0)] [(2,[vI6 0,vS nm0,vI6 0,.v .nilsl]),(3,[vI6 (prO v),vS (prNm v),vI6 (prN v),.v .nilsl])] e) (@cpA v hwk ([]) e hN (by (simp only [List.length_nil]; omega))) ⟨⟨W,W,W,W,W,tVv⟩,⟨⟨W,W,W,W,tVv⟩,⟨W,W,W,Wq,tVv⟩,tVv⟩,rfl⟩]) func73
theorem coT:Pu 74 [.bool true] (.ret (.agg [.int .i64 2,.str nm0,.int .i64 1,.nilsl])):=Ob.pur_of_fast (fun _=>mdL) 60 60 mixed kR rfl rfl
theorem coF:Pu 74 [.bool false] (.ret (.agg [.int .i64 2,.str nm0,.int .i64 0,.nilsl])):=Ob.pur_of_fast (fun _=>mdL) 60 60 mixed kR rfl rfl
theorem pey_1(l:List Pr)(hx0:¬(l.length:Int)=(0:Int)):Pu 68 [.sl 4 (Pr.cs l),.nilsl,.fn (.func 30) [] []] (rB false):=
 pm mdL [sl (Pr.cs_len l),kp,nt1 hx0] func68
theorem pey_2(l:List Pr)(hx0:(l.length:Int)=(0:Int)):Pu 68 [.sl 4 (Pr.cs l),.nilsl,.fn (.func 30) [] []] (rB true):=
 pm mdL [sl (Pr.cs_len l),kp,nn1 hx0,sl (Pr.cs_len l),ur,df (0<(l.length:Int))] func68
def isNl(l:List Pr):Bool:=decide ((l.length:Int)=0)
theorem peyT(l:List Pr):Pu 68 [.sl 4 (Pr.cs l),.nilsl,.fn (.func 30) [] []] (.ret (.bool (isNl l))):=by
 unfold isNl
 by_cases h:(l.length:Int)=0
 ·rw [decide_eq_true h]; first | exact pey_2 l h | exact pey_1 l h
 ·rw [decide_eq_false h]; first | exact pey_1 l h | exact pey_2 l h
def pzz_r0(v:Pr):Bool:=(if prO v=0 then (if prNm v=nm0 then (if prN v=0 then (isNl (prK v)) else false) else false) else false)
theorem pzz(v:Pr):Pu 30 [.agg (prL v),.agg [pI 0,.str nm0,pI 0,.nilsl]] (rB (pzz_r0 v)):=by
 refine t0 ?_;by_cases h0:prO v=0
 ·refine tp [rp 6 (et1 h0)] ?_;by_cases h1:prNm v=nm0
  ·refine tp [rp 6 (bt (ByteArray.toList (prNm v)==ByteArray.toList nm0) (bsT h1))] ?_;by_cases h2:prN v=0
   ·simp only [pzz_r0,iP h0,iP h1,iP h2]; exact tM mdL [rp 5 (et1 h2),cl (@peyT (prK v)),et1 h2] func30
   ·simp only [pzz_r0,iP h0,iP h1,iN h2]; exact tM mdL [rp 6 (en1 h2)] func30
  ·simp only [pzz_r0,iP h0,iN h1]; exact tM mdL [rp 6 (bf (ByteArray.toList (prNm v)==ByteArray.toList nm0) (bsF h1)),rp 6 (bf false)] func30
 ·simp only [pzz_r0,iN h0]; exact tM mdL [rp 6 (en1 h0),rp 12 (bf false)] func30
def pst_r0(v:Pr):Bool:=(if prO v=2 then (if prNm v=nm0 then (if prN v=1 then (isNl (prK v)) else false) else false) else false)
theorem pst(v:Pr):Pu 30 [.agg (prL v),.agg [pI 2,.str nm0,pI 1,.nilsl]] (rB (pst_r0 v)):=by
 refine t0 ?_;by_cases h0:prO v=2
 ·refine tp [rp 6 (et1 h0)] ?_;by_cases h1:prNm v=nm0
  ·refine tp [rp 6 (bt (ByteArray.toList (prNm v)==ByteArray.toList nm0) (bsT h1))] ?_;by_cases h2:prN v=1
   ·simp only [pst_r0,iP h0,iP h1,iP h2]; exact tM mdL [rp 5 (et1 h2),cl (@peyT (prK v)),et1 h2] func30
   ·simp only [pst_r0,iP h0,iP h1,iN h2]; exact tM mdL [rp 6 (en1 h2)] func30
  ·simp only [pst_r0,iP h0,iN h1]; exact tM mdL [rp 6 (bf (ByteArray.toList (prNm v)==ByteArray.toList nm0) (bsF h1)),rp 6 (bf false)] func30
 ·simp only [pst_r0,iN h0]; exact tM mdL [rp 6 (en1 h0),rp 12 (bf false)] func30
def psf_r0(v:Pr):Bool:=(if prO v=2 then (if prNm v=nm0 then (if prN v=0 then (isNl (prK v)) else false) else false) else false)
theorem psf(v:Pr):Pu 30 [.agg (prL v),.agg [pI 2,.str nm0,pI 0,.nilsl]] (rB (psf_r0 v)):=by
 refine t0 ?_;by_cases h0:prO v=2
 ·refine tp [rp 6 (et1 h0)] ?_;by_cases h1:prNm v=nm0
  ·refine tp [rp 6 (bt (ByteArray.toList (prNm v)==ByteArray.toList nm0) (bsT h1))] ?_;by_cases h2:prN v=0
   ·simp only [psf_r0,iP h0,iP h1,iP h2]; exact tM mdL [rp 5 (et1 h2),cl (@peyT (prK v)),et1 h2] func30
   ·simp only [psf_r0,iP h0,iP h1,iN h2]; exact tM mdL [rp 6 (en1 h2)] func30
  ·simp only [psf_r0,iP h0,iN h1]; exact tM mdL [rp 6 (bf (ByteArray.toList (prNm v)==ByteArray.toList nm0) (bsF h1)),rp 6 (bf false)] func30
 ·simp only [psf_r0,iN h0]; exact tM mdL [rp 6 (en1 h0),rp 12 (bf false)] func30
def pvo_r0(v:Pr):Bool:=(if pzz_r0 v=true then true else (pst_r0 v))
theorem pvo(v:Pr):Pu 75 [.agg (prL v)] (rB (pvo_r0 v)):=by
 by_cases h0:pzz_r0 v=true
 ·simp only [pvo_r0,iP h0]; exact pm mdL [cl (@pzz v),rp 4 (bt1 h0)] func75
 ·simp only [pvo_r0,iN h0]; exact pm mdL [cl (@pzz v),rp 2 (bf1 (bFT h0)),cl coT,bf1 (bFT h0),cl (@pst v),bf1 (bFT h0)] func75
theorem cpA_e:∀ (l out:List Pr),cpA_f l out=out++l
 | [],out=>by simp [cpA_f]
 | c::r,out=>by simp [cpA_f,cpA_e r]
mutual
/-- All lists of kids are short. -/
def prS:Pr->Prop
 | .mk _ _ _ k=>k.length<=1000000000/\prSs k
def prSs:List Pr->Prop
 | []=>True
 | x::r=>prS x/\prSs r
end
theorem prS_len{u:Pr}(h:prS u):(prK u).length<=1000000000:=by
 cases u with
 | mk o n i k=>exact h.1
theorem prSs_mem:∀ {l:List Pr},prSs l->∀w∈l,prS w
 | x::r,h,w,hw=>by
  rcases List.mem_cons.1 hw with rfl | hw
  ·exact h.1
  ·exact prSs_mem h.2 w hw
theorem prSs_of:∀ {l:List Pr},(∀w∈l,prS w)->prSs l
 | [],_=>trivial
 | x::r,h=>⟨h x sM,prSs_of fun w hw=>h w (by simp [hw])⟩
theorem prS_kid{u w:Pr}(h:prS u)(hw:w∈prK u):prS w:=by
 cases u with
 | mk o n i k=>exact prSs_mem h.2 w hw
theorem prS_mk{o:Int}{n:BA}{i:Int}{k:List Pr}(hl:k.length<=1000000000)(h:∀w∈k,prS w):prS (.mk o n i k):=⟨hl,prSs_of h⟩
mutual
theorem prS_bulk:∀u:Pr,bulkPs (prL u)<=1000000000->prS u
 | .mk o n i k,h=>by
  have h1:bulkPss (Pr.cs k)<bulkPs (prL (.mk o n i k)):=pr_bulk (.mk o n i k)
  have h2:=Pr.bulk k
  exact ⟨by omega,prSs_bulk k oM⟩
theorem prSs_bulk:∀l:List Pr,bulkPss (Pr.cs l)<=1000000000->prSs l
 | [],_=>trivial
 | x::r,h=>by
  have h1:bulkPss (Pr.cs (x::r))=bulkPs (prL x)+bulkPss (Pr.cs r):=by rw [Pr.cs_eq,Pr.cs_eq]; rfl
  exact ⟨prS_bulk x oM,prSs_bulk r oM⟩
end
theorem pqS_ok:∀ (d:Nat) (u:Pr),bulkPs (prL u)<d->prS u->Pu 64 [.agg (prL u)] (.ret (.int .i64 (pqD d u)))
 | 0,_,h,_=>by omega
 | d+1,u,h,hs=>pqL u (pqD d) (fun w hw=>pqS_ok d w (by have:=pr_bulk u; have:=Pr.mem hw; omega) (prS_kid hs hw)) (prS_len hs)
theorem pqS(u:Pr)(hs:prS u):Pu 64 [.agg (prL u)] (.ret (.int .i64 (pqF u))):=pqS_ok _ u oM hs
theorem peS_ok:∀ (d:Nat) (u:Pr),bulkPs (prL u)<d->prS u->Pu 65 [.agg (prL u)] (.ret (.int .i64 (peD d u)))
 | 0,_,h,_=>by omega
 | d+1,u,h,hs=>peL u (peD d) (fun w hw=>peS_ok d w (by have:=pr_bulk u; have:=Pr.mem hw; omega) (prS_kid hs hw)) (prS_len hs)
theorem peS(u:Pr)(hs:prS u):Pu 65 [.agg (prL u)] (.ret (.int .i64 (peF u))):=peS_ok _ u oM hs
theorem cpS_ok:∀ (d:Nat) (v:Pr),bulkPs (prL v)<d->prS v->Pu 73 [.agg (prL v)] (.ret (.agg (prL v)))
 | 0,_,h,_=>by omega
 | d+1,v,h,hs=>by
  have:=cpL v (fun w hw=>cpS_ok d w (by have:=pr_blk v; have:=Pr.mem hw; omega) (prS_kid hs hw)) (prS_len hs)
  rw [cpA_e,List.nil_append] at this
  exact this
theorem cpS(v:Pr)(hs:prS v):Pu 73 [.agg (prL v)] (.ret (.agg (prL v))):=cpS_ok (bulkPs (prL v)+1) v oM hs
open Go.RowKit Go.Shelf Go.Pv
attribute [local go_sem] Oper.semAt_some
set_option maxRecDepth 100000
theorem room_of_none{F:Fence}(hd:F.depth=none)(k:Nat):F.room k:=fun d h=>by rw [hd] at h; cases h
theorem RoundIn.anyDepth{F:Fence}(hd:F.depth=none){m m':Nat}{P:Program}{l:Nat}{f:FuncId}{tmps:Array Value}{assign body:Code}{w:World}{R:Ending->World->Prop}
  (h:RoundIn F m P l f tmps assign body w R):RoundIn F m' P l f tmps assign body w R:=⟨h.1,fun c cs _=>h.2 c cs (room_of_none hd _)⟩
theorem YieldAt.anyDepth{F:Fence}(hd:F.depth=none){m:Nat}(m':Nat){P:Program}{l:Nat}{args:Array Value}{W:World}{R:Ending->World->Prop}(h:YieldAt F m P l args W R):YieldAt F m' P l args W R:=by
 obtain ⟨fn,tmps,assign,body,hy,hR⟩:=h
 exact ⟨fn,tmps,assign,body,hy,RoundIn.anyDepth hd hR⟩
theorem mono_below{g:Gh}{w w':World}(hb:Below w.heap.size w w'):Mono g w g w':=by
 refine ⟨fun _ _ h=>h,fun b o v hc hf=>⟨?_,hf⟩,fun b cur e hh=>⟨cur,?_,rfl⟩,fun _ _ _ h=>h,fun b arr c hh hn=>⟨(hb.block b (Array.getElem?_eq_some_iff.1 hh).1).trans hh,hn⟩⟩
 ·have hlt:b<w.heap.size:=by
   unfold World.cell? at hc
   cases hh:w.heap[b]? with
   | none=>simp [hh] at hc
   | some x=>exact (Array.getElem?_eq_some_iff.1 hh).1
  rw [<-hc]
  exact World.cell?_of_block (hb.block b hlt)
 ·exact (hb.block b (Array.getElem?_eq_some_iff.1 hh).1).trans hh
theorem ent_below{e:Ext}{g:Gh}{l:LG}{w w':World}(he:Ent e g l w)(hb:Below w.heap.size w w'):Ent e g l w' where
 ex x cs hx:=by
  obtain ⟨b,h1,h2,hE⟩:=he.ex x cs hx
  refine ⟨b,h1.mono (mono_below hb),h2,?_⟩
  have hm:Mono g w g w':=mono_below hb
  have hh:=hb.block b (he.olt b _ h2)
  rcases hE with ⟨h3,cur,te,h4,h5,h6⟩ | hE
  ·refine .inl ⟨h3,cur,te,hh.trans h4,h5,fun j hj=>⟨(h6 j hj).1,(h6 j hj).2.1,?_⟩⟩
   exact (h6 j hj).2.2.keep hm (fun _ _ _=>rfl) fun b' hu=>⟨hu,rfl,hb.block b' (he.olt b' _ (he.uo _ b' hu))⟩
  ·exact .inr (hE.keep hm (fun _ _ _ h=>h) rfl hh)
 olt b o ho:=Nat.lt_of_lt_of_le (he.olt b o ho) hb.size
 uo:=he.uo
 fresh:=⟨fun b h=>he.fresh.1 b (Nat.le_trans hb.size h),he.fresh.2⟩
 xlt n b h:=Nat.lt_of_lt_of_le (he.xlt n b h) hb.size
 only:=he.only
 glb:=he.glb.mono (mono_below hb)
theorem calls_pur{P:Program}{f:FuncId}{args:List PV}{vs:List Value}{k:Int}{g:Gh}{l:LG}{w:World}(h:(Ob.pur f args (.ret (.int .i64 k))).ok P)(ha:RepAll g w args vs)(he:Ent [] g l w) :
  Calls P f vs.toArray w fun enz w'=>enz = .returned (.int .i64 k)/\Below w.heap.size w w':=by
 refine (h.2 [] vs g ⟨fun _=>none,fun _=>none,fun _=>none⟩ w ha ⟨fun x cs hx=>(by simp [lk] at hx),fun b o ho=>(by cases ho),fun p b hb=>(by cases hb),he.fresh,he.xlt,fun b o ho=>(by cases ho),he.glb⟩).mono ?_
 rintro enz w' ⟨r,e2,g',l',⟨rfl,rfl⟩,hres,hent',hmono,hsz,hfr,hown,os,tape,output⟩
 refine ⟨?_,os,tape,output,hsz,fun b hb=>(hfr b hb rfl).1⟩
 cases enz <;> first | exact hres.elim | skip
 rename_i v
 have h1:Rep g' w' (.int .i64 k) v:=hres
 cases h1
 rfl
theorem KC.of_below{w W:World}(h:Below w.heap.size w W):KC w W:=⟨h.size,fun k o hk _=>(h.block k (Array.getElem?_eq_some_iff.1 hk).1).trans hk⟩
theorem before_stops(F:Fence)(hd:F.depth=none)(n:Nat)(h142:F.fn 104)(h143:F.fn 105)(hro:F.round=none)(g:Gh)(W0 w:World)(Bs:Nat)(x:Nd g W0)(hk0:KC W0 w)(hBs:Bs<w.heap.size)
  (h1:w.cell? ⟨Bs,0,none⟩=some (.int .i64 (prO x.1.1))) (h2:w.cell? ⟨Bs,1,none⟩=some (.string (prNm x.1.1))) (h3:w.cell? ⟨Bs,2,none⟩=some (.int .i64 (prN x.1.1))) (h4:w.cell? ⟨Bs,3,none⟩=some (.slice x.1.2.1 x.1.2.2.1 x.1.2.2.2)) :
  SeqStopsK F n prog 104 #[.pointer (some ⟨Bs,0,none⟩)] (fun y:Nd g W0=>#[y.enc]) KC (fun ys=>ys.map (·.1.1)=nodesP x.1.1) (fun ys=>ys.map (·.1.1) <+: nodesP x.1.1) (nodesP x.1.1).length w:=fun l J Jx W hW hJ _ hY h0=>
 before1_in F hd h142 h143 hro g W0 l Bs x n J Jx (fun s W W' hs hg=>hJ s W W' none hs hg (fun r e=>by cases e))
  (fun m pre y W hj hl=>YieldAt.anyDepth hd m (hY pre y W hj hl)) W (hk0.trans (KC.of_below hW)) ((hW.cell (p:=⟨Bs,0,none⟩) hBs).trans h1) ((hW.cell (p:=⟨Bs,1,none⟩) hBs).trans h2) ((hW.cell (p:=⟨Bs,2,none⟩) hBs).trans h3) ((hW.cell (p:=⟨Bs,3,none⟩) hBs).trans h4) h0
def pcE(p:Pr):Int:=if pqF p>400 then 7 else if peF p>40 then 8 else frE pnd_r0 (nodesP p)
theorem nd_rep{g:Gh}{W0:World}(x:Nd g W0):RepAll g W0 [.agg (prL x.1.1)] [x.enc]:=by
 refine .cons ?_ .nil
 refine .agg _ [_,_,_,_] rfl (fun v hv=>?_) fun j hj hj'=>?_
 ·simp only [List.mem_cons,List.not_mem_nil,or_false] at hv
  rcases hv with rfl | rfl | rfl | rfl <;> rfl
 ·match j with
  | 0=>exact .int _ _
  | 1=>exact .str _
  | 2=>exact .int _ _
  | 3=>exact x.2
theorem below_alloc{w W:World}(h:Below w.heap.size w W)(o:Obj):Below w.heap.size w (W.alloc o):=h.alloc h.size o
def Fr(p:Pr)(oa:Option Addr)(m c:Nat)(w W:World):Prop:=
 W.cell? ⟨w.heap.size,0,none⟩=some (.int .i64 (prO p))/\W.cell? ⟨w.heap.size,1,none⟩=some (.string (prNm p))/\W.cell? ⟨w.heap.size,2,none⟩=some (.int .i64 (prN p))/\W.cell? ⟨w.heap.size,3,none⟩=some (.slice oa m c) /\
 W.cell? ⟨w.heap.size+1,0,none⟩=some (.int .i64 0)/\W.frozen? ⟨w.heap.size+1,0,none⟩=false
theorem fr_new(p:Pr)(oa:Option Addr)(m c:Nat)(w:World):Fr p oa m c w ((w.alloc (.cells #[.int .i64 (prO p),.string (prNm p),.int .i64 (prN p),.slice oa m c] 46)).alloc (.cells #[.int .i64 0] 57)):=by
 have h1:((w.alloc (.cells #[.int .i64 (prO p),.string (prNm p),.int .i64 (prN p),.slice oa m c] 46)).alloc (.cells #[.int .i64 0] 57)).heap[w.heap.size]?=some (.cells #[.int .i64 (prO p),.string (prNm p),.int .i64 (prN p),.slice oa m c] 46):=
  (Below.heap_alloc _ _ _ sM).trans (World.alloc_heap_new w _)
 have h2:((w.alloc (.cells #[.int .i64 (prO p),.string (prNm p),.int .i64 (prN p),.slice oa m c] 46)).alloc (.cells #[.int .i64 0] 57)).heap[w.heap.size+1]?=some (.cells #[.int .i64 0] 57):=by
  have:=World.alloc_heap_new (w.alloc (.cells #[.int .i64 (prO p),.string (prNm p),.int .i64 (prN p),.slice oa m c] 46)) (.cells #[.int .i64 0] 57)
  rwa [World.size_alloc] at this
 unfold Fr World.cell? World.frozen?
 rw [h1,h2]
 exact ⟨rfl,rfl,rfl,rfl,rfl,rfl⟩
theorem Fr.kept{p:Pr}{oa:Option Addr}{m c:Nat}{w A B:World}(h:Fr p oa m c w A)(hl:w.heap.size+2<=A.heap.size)(hb:Below A.heap.size A B):Fr p oa m c w B:=by
 have k1:=hb.block w.heap.size oM
 have k2:=hb.block (w.heap.size+1) oM
 unfold Fr World.cell? World.frozen? at h ⊢
 rw [k1,k2]
 exact h
set_option maxHeartbeats 4000000 in
theorem check_in(p:Pr)(hs:prS p)(g:Gh)(l0:LG)(w:World)(oa:Option Addr)(m c:Nat)(hr:Rep g w (.sl 4 (Pr.cs (prK p))) (.slice oa m c))(he:Ent [] g l0 w) :
  Calls prog 29 #[encP p (.slice oa m c)] w fun e w'=>e = .returned (.int .i64 (pcE p))/\Below w.heap.size w w':=by
 refine (callsIn_wide (n:=6)).1 ?_
 obtain ⟨x,hx⟩:∃x:Nd g w,x.1=(p,oa,m,c):=⟨⟨(p,oa,m,c),hr⟩,rfl⟩
 have hrep:RepAll g w [.agg (prL p)] [encP p (.slice oa m c)]:=by have:=nd_rep x; rw [Nd.enc,hx] at this; exact this
 refine callsIn_of_wp_marks func29 rfl trivial ?_ rfl
 simp only [Tryz.ntmps29,List.size_toArray,List.length_cons,List.length_nil,Nat.reduceAdd,Nat.reduceSub,Array.replicate_succ,Array.replicate_zero,List.push_toArray,List.append_toArray,List.nil_append,List.cons_append]
 have hf1:=fr_new p oa m c w
 have hb1:Below w.heap.size w ((w.alloc (.cells #[.int .i64 (prO p),.string (prNm p),.int .i64 (prN p),.slice oa m c] 46)).alloc (.cells #[.int .i64 0] 57)):=below_alloc (below_alloc (Below.refl _ _) _) _
 have hz1:w.heap.size+2<=((w.alloc (.cells #[.int .i64 (prO p),.string (prNm p),.int .i64 (prN p),.slice oa m c] 46)).alloc (.cells #[.int .i64 0] 57)).heap.size:=by simp
 generalize hw1:(w.alloc (.cells #[.int .i64 (prO p),.string (prNm p),.int .i64 (prN p),.slice oa m c] 46)).alloc (.cells #[.int .i64 0] 57)=w1 at hf1 hb1 hz1
 have hall:∀ (f:FuncId) (k:Int),Pu f [.agg (prL p)] (.ret (.int .i64 k))->∀ (W:World),Fr p oa m c w W->Below w.heap.size w W->w.heap.size+2<=W.heap.size->CallsIn Fence.wide 5 prog f #[encP p (.slice oa m c)] W fun e W'=>e = .returned (.int .i64 k)/\Fr p oa m c w W'/\Below w.heap.size w W'/\w.heap.size+2<=W'.heap.size:=by
  intro f k hk W hF hB hS
  refine callsIn_wide.2 ?_
  refine (calls_pur hk (hrep.mono (mono_below hB)) (ent_below he hB)).mono ?_
  rintro e W' ⟨h1,h2⟩
  exact ⟨h1,hF.kept hS h2,hB.trans (h2.mono hB.size),Nat.le_trans hS h2.size⟩
 obtain ⟨c0,c1,c2,c3,r0,rf⟩:=id hf1
 have k98:=hall 64 _ (pqS p hs) w1 hf1 hb1 hz1
 gi_wp2_with (first
  | (refine ⟨trivial,?_⟩; gi_at_call 64; refine k98.mono ?_; clear k98; rintro e W2 ⟨rfl,hf2,hb2,hz2⟩; clear c0 c1 c2 c3 r0 rf; obtain ⟨c0,c1,c2,c3,r0,rf⟩:=id hf2; have k99:=hall 65 _ (peS p hs) W2 hf2 hb2 hz2)
  | (refine ⟨trivial,?_⟩; gi_at_call 65; refine k99.mono ?_; clear k99; rintro e W3 ⟨rfl,hf3,hb3,hz3⟩; clear c0 c1 c2 c3 r0 rf; obtain ⟨c0,c1,c2,c3,r0,rf⟩:=id hf3)
  | (refine ⟨trivial,?_⟩; gi_at_call 66; refine (before_in Fence.wide 5 trivial rfl p oa m c _).mono ?_; rintro e W4 ⟨rfl,rfl⟩))
 ·have hgt:pqF p>400:=by omega
  have hc5:=World.cell?_setCell_same' W2 ⟨w.heap.size+1,0,none⟩ (.int .i64 7) (by rw [r0]; rfl)
  refine ⟨.int .i64 7,by simp [results,f29,go_sem,hc5],?_,hb2.setCell (p:=⟨w.heap.size+1,0,none⟩) sM _⟩
  unfold pcE; rw [iP hgt]
 ·have hgt:¬pqF p>400:=by omega
  have hgt2:peF p>40:=by omega
  have hc5:=World.cell?_setCell_same' W3 ⟨w.heap.size+1,0,none⟩ (.int .i64 8) (by rw [r0]; rfl)
  refine ⟨.int .i64 8,by simp [results,f29,go_sem,hc5],?_,hb3.setCell (p:=⟨w.heap.size+1,0,none⟩) sM _⟩
  unfold pcE; rw [iN hgt,iP hgt2]
 ·have hgt:¬pqF p>400:=by omega
  have hgt2:¬peF p>40:=by omega
  have hpc:pcE p=frE pnd_r0 (nodesP p):=by unfold pcE; rw [iN hgt,iN hgt2]
  have hzW:W3.heap.size<(W3.alloc (.cells #[.int .i64 (prO p),.string (prNm p),.int .i64 (prN p),.slice oa m c] 46)).heap.size:=by simp
  have hb4:Below w.heap.size w (W3.alloc (.cells #[.int .i64 (prO p),.string (prNm p),.int .i64 (prN p),.slice oa m c] 46)):=hb3.alloc hb3.size _
  have hz4:w.heap.size+2<=(W3.alloc (.cells #[.int .i64 (prO p),.string (prNm p),.int .i64 (prN p),.slice oa m c] 46)).heap.size:=by simp; omega
  have hbox:(W3.alloc (.cells #[.int .i64 (prO p),.string (prNm p),.int .i64 (prN p),.slice oa m c] 46)).heap[W3.heap.size]?=some (.cells #[.int .i64 (prO p),.string (prNm p),.int .i64 (prN p),.slice oa m c] 46):=World.alloc_heap_new _ _
  have hf4:Fr p oa m c w (W3.alloc (.cells #[.int .i64 (prO p),.string (prNm p),.int .i64 (prN p),.slice oa m c] 46)):=hf3.kept hz3 ((Below.refl _ _).alloc (Nat.le_refl _) _)
  clear hall c0 c1 c2 c3 r0 rf hf1 hb1 hz1 hw1 hf2 hb2 hz2
  generalize hW4:W3.alloc (.cells #[.int .i64 (prO p),.string (prNm p),.int .i64 (prN p),.slice oa m c] 46)=W4 at hzW hb4 hz4 hbox hf4 ⊢
  generalize hBs:W3.heap.size=Bs at hzW hbox ⊢
  have hcell:∀j,W4.cell? ⟨Bs,j,none⟩ = #[Value.int .i64 (prO p),.string (prNm p),.int .i64 (prN p),.slice oa m c][j]?:=fun j=>by unfold World.cell?; rw [hbox]; rfl
  have hst:=before_stops Fence.wide rfl 5 trivial trivial rfl g w W4 Bs x (KC.of_below hb4) hzW (by rw [hx]; exact hcell 0) (by rw [hx]; exact hcell 1) (by rw [hx]; exact hcell 2) (by rw [hx]; exact hcell 3)
  obtain ⟨_,_,_,_,r0,rf⟩:=hf4
  refine wpIn_rangeFunc_ownH rfl oM (gf:=104) (lb:=#[.pointer (some ⟨Bs,0,none⟩)]) rfl trivial (enters_of func104 kR rfl) hst KC.trans
   (fun W l o o' hl hh ho _=>⟨by simp,fun k o2 hk hc2=>(World.putObj_heap_other (fun e=>by subst e; rw [hh] at hk; cases hk; rw [ho] at hc2; cases hc2)).trans hk⟩) (Below.refl _ _) (fun _=>rfl)
   (fun pre W=>((∀y∈pre,pnd_r0 y.1.1=0)/\W.cell? ⟨w.heap.size+1,0,none⟩=some (.int .i64 0)/\W.frozen? ⟨w.heap.size+1,0,none⟩=false)/\Below w.heap.size w W)
   (fun cdz pre W=>(cdz = .ret/\∃ps y,pre=ps++[y]/\(∀z∈ps,pnd_r0 z.1.1=0)/\¬pnd_r0 y.1.1=0/\W.cell? ⟨w.heap.size+1,0,none⟩=some (.int .i64 (pnd_r0 y.1.1)))/\Below w.heap.size w W)
   (OwnFrom.and (Own.from (fun s A B row hs hg hr=>⟨hs.1,cell_kept hs.2.1 hg hr,(frozen_kept hs.2.1 hg hr).trans hs.2.2⟩) _) (ownFrom_below (Nat.le_refl _) oM))
   (fun cdz=>OwnFrom.and (Own.from (fun s A B row hs hg hr=>⟨hs.1,let ⟨ps,y,k1,k2,k3,k4⟩:=hs.2; ⟨ps,y,k1,k2,k3,cell_kept k4 hg hr⟩⟩) _) (ownFrom_below (Nat.le_refl _) oM))
   ⟨⟨fun y hy=>(by cases hy),r0,rf⟩,hb4⟩
   (fun y a' W=>∃Bx,w.heap.size+2<=Bx/\W.heap[Bx]?=some (.cells #[.int .i64 (prO y.1.1),.string (prNm y.1.1),.int .i64 (prN y.1.1),.slice y.1.2.1 y.1.2.2.1 y.1.2.2.2] 46) /\
    a'={ tmps:=#[encP p (.slice oa m c),.pointer (some ⟨w.heap.size,0,none⟩),.pointer (some ⟨w.heap.size+1,0,none⟩),.pointer (some ⟨Bx,0,none⟩),undef,encP p (.slice oa m c),.int .i64 (pqF p),.bool false,encP p (.slice oa m c),.int .i64 (peF p),.bool false,encP p (.slice oa m c),.func (.func 104) #[] #[.pointer (some ⟨Bs,0,none⟩)],y.enc,undef,undef,undef,undef,undef],defers:=[] })
   (fun y a' s A B row hs hg hr=>by
    obtain ⟨Bx,h1,h2,h3⟩:=hs
    refine ⟨Bx,h1,(hg.block Bx (Array.getElem?_eq_some_iff.1 h2).1 (fun e=>?_)).trans h2,h3⟩
    obtain ⟨_,o,ho,hc⟩:=hr Bx e.symm
    rw [h2] at ho; cases ho; cases hc) ?assign ?body ?done ?stop
  case assign=>
   rintro l pre y W K ⟨⟨hz,q0,qf⟩,hB⟩ hK
   have hrc:w.heap.size+1<W.heap.size:=by
    unfold World.cell? at q0
    cases hh:W.heap[w.heap.size+1]? with
    | none=>simp [hh] at q0
    | some o=>exact (Array.getElem?_eq_some_iff.1 hh).1
   simp only [Nd.enc]
   obtain ⟨q,oa',m',c',hyx⟩:∃q oa' m' c',y.1=(q,oa',m',c'):=⟨_,_,_,_,rfl⟩
   simp only [Nd.enc,hyx] at hK ⊢
   gi_wp2
   exact hK _ _ ((KeepsOthers.alloc _ _).from _) ((KC.refl W).alloc _) ⟨⟨hz,cell_kept q0 (World.grownBy_alloc W _ none) (fun r e=>by cases e),(frozen_kept q0 (World.grownBy_alloc W _ none) (fun r e=>by cases e)).trans qf⟩,hB.alloc hB.size _⟩ ⟨W.heap.size,by omega,World.alloc_heap_new _ _,rfl⟩
  case body=>
   rintro l pre y a' W hl ⟨r,hr0⟩ ⟨⟨hz,q0,qf⟩,hB⟩ ⟨Bx,hBx,hbx,rfl⟩ hlt
   have hrc:w.heap.size+1<W.heap.size:=by
    unfold World.cell? at q0
    cases hh:W.heap[w.heap.size+1]? with
    | none=>simp [hh] at q0
    | some o=>exact (Array.getElem?_eq_some_iff.1 hh).1
   have k101:CallsIn (Fence.wide.inRound l) (6 - 1 - 1 - 1) prog 67 #[y.enc] W fun e W'=>e = .returned (.int .i64 (pnd_r0 y.1.1))/\Below W.heap.size W W'/\W'.cell? ⟨w.heap.size+1,0,none⟩=some (.int .i64 0)/\W'.frozen? ⟨w.heap.size+1,0,none⟩=false:=by
    refine CallsIn.inRound l (callsIn_wide.2 ((calls_pur (pnd y.1.1) ((nd_rep y).mono (mono_below hB)) (ent_below he hB)).mono ?_))
    rintro e W' ⟨h1,h2⟩
    have hblk:=h2.block (w.heap.size+1) hrc
    refine ⟨h1,h2,?_,?_⟩
    ·unfold World.cell? at q0 ⊢; rw [hblk]; exact q0
    ·unfold World.frozen? at qf ⊢; rw [hblk]; exact qf
   simp only [Nd.enc] at k101 ⊢
   have hxB:∀j,W.cell? ⟨Bx,j,none⟩ = #[Value.int .i64 (prO y.1.1),.string (prNm y.1.1),.int .i64 (prN y.1.1),.slice y.1.2.1 y.1.2.2.1 y.1.2.2.2][j]?:=fun j=>by unfold World.cell?; rw [hbx]; rfl
   have c0:=hxB 0
   have c1:=hxB 1
   have c2:=hxB 2
   have c3:=hxB 3
   clear hxB hbx hst hcell
   generalize hpn:pnd_r0 y.1.1=k at k101
   obtain ⟨q,oa',m',c',hyx⟩:∃q oa' m' c',y.1=(q,oa',m',c'):=⟨_,_,_,_,rfl⟩
   simp only [hyx,List.getElem?_toArray,List.getElem?_cons_zero,List.getElem?_cons_succ] at k101 c0 c1 c2 c3 ⊢
   clear hyx
   by_cases hk0:k=0
   ·subst hk0
    gi_wp2_with (refine ⟨trivial,?_⟩; gi_at_call 67; refine k101.mono ?_; clear k101; rintro e W2 ⟨rfl,hB2,p0,pf⟩)
    refine ⟨⟨hB2.size,fun k o _ hk _=>(hB2.block k (Array.getElem?_eq_some_iff.1 hk).1).trans hk⟩,KC.of_below hB2,⟨fun z hz'=>?_,p0,pf⟩,hB.trans (hB2.mono hB.size)⟩
    rcases List.mem_append.1 hz' with h | h
    ·exact hz z h
    ·simp only [List.mem_singleton] at h; subst h; exact hpn
   ·gi_wp2_with (refine ⟨trivial,?_⟩; gi_at_call 67; refine k101.mono ?_; clear k101; rintro e W2 ⟨rfl,hB2,p0,pf⟩)
    have hw2:=World.cell?_setCell_same' W2 ⟨w.heap.size+1,0,none⟩ (.int .i64 k) (by rw [p0]; rfl)
    exact ⟨(show KeepsFrom W4.heap.size W W2 from ⟨hB2.size,fun k o _ hk _=>(hB2.block k (Array.getElem?_eq_some_iff.1 hk).1).trans hk⟩).trans ((KeepsOthers.setCell W2 _ _).from _),
     ⟨rfl,pre,y,rfl,hz,by rw [hpn]; exact hk0,by rw [hpn]; exact hw2⟩,(hB.trans (hB2.mono hB.size)).setCell (p:=⟨w.heap.size+1,0,none⟩) sM _⟩
  case done=>
   rintro D ys W hD hS ⟨⟨hz,q0,qf⟩,hB⟩ hK
   gi_wp2
   have hK':=(KeepsOthers.setCell W ⟨w.heap.size+1,0,none⟩ (.int .i64 0)).same D _ hK rfl
   refine ⟨by simp,.inl ⟨_,_,rfl,run_takeDeferred hK',?_⟩⟩
   have hc5:=cell_kept (World.cell?_setCell_same' W ⟨w.heap.size+1,0,none⟩ (.int .i64 0) (by rw [q0]; rfl)) (grownBy_putObj' _ D (.deferred none)) (fun r e=>by cases e; exact ⟨_,hK',rfl⟩)
   refine ⟨.int .i64 0,by simp [results,f29,go_sem,hc5],?_,?_⟩
   ·have:∀zs:List (Nd g w),(∀z∈zs,pnd_r0 z.1.1=0)->frE pnd_r0 (zs.map (·.1.1))=0:=fun zs=>by
     induction zs with
     | nil=>intro _; rfl
     | cons a r ih=>intro h; simp only [List.map_cons,frE]; rw [iP (h a sM)]; exact ih fun z hz=>h z (List.mem_cons_of_mem _ hz)
    have h1:=this ys hz
    rw [hS,hx] at h1
    rw [h1]
   ·exact (hB.setCell (p:=⟨w.heap.size+1,0,none⟩) sM _).trans (belowK_b (w:=w) (Nat.le_refl _) _ D _ _ oM hK' rfl rfl)
  case stop=>
   rintro D cdz pre W hD hS ⟨⟨rfl,ps,y,rfl,hz,hne,q0⟩,hB⟩ hK
   gi_wp2
   refine ⟨by simp,.inl ⟨_,_,rfl,run_takeDeferred hK,?_⟩⟩
   have hc5:=cell_kept q0 (grownBy_putObj' _ D (.deferred none)) (fun r e=>by cases e; exact ⟨_,hK,rfl⟩)
   refine ⟨.int .i64 (pnd_r0 y.1.1),by simp [results,f29,go_sem,hc5],?_,hB.trans (belowK_b (w:=w) (Nat.le_refl _) _ D _ _ oM hK rfl rfl)⟩
   have:∀ (zs:List (Nd g w)) (rest:List Pr),(∀z∈zs,pnd_r0 z.1.1=0)->frE pnd_r0 ((zs++[y]).map (·.1.1)++rest)=pnd_r0 y.1.1:=fun zs rest=>by
    induction zs with
    | nil=>intro _; simp only [List.nil_append,List.map_cons,List.map_nil,List.cons_append,frE]; rw [iN hne]
    | cons a r ih=>intro h; simp only [List.cons_append,List.map_cons,frE]; rw [iP (h a sM)]; exact ih fun z hz=>h z (List.mem_cons_of_mem _ hz)
   obtain ⟨rest,hrest⟩:=hS
   have h1:=this ps rest hz
   rw [hrest,hx] at h1
   rw [h1]
mutual
theorem pr_nx:∀p:Pr,noXs (prL p)=true
 | .mk o s n ks=>by simp only [prK,noXs,PV.noX,prs_nx ks,Bool.and_self]
theorem prs_nx:∀l:List Pr,noXss (Pr.cs l)=true
 | []=>rfl
 | x::r=>by rw [show Pr.cs (x::r)=prL x::Pr.cs r by simp [Pr.cs_eq],noXss,prs_nx r,pr_nx x]; rfl
end
theorem pcS(p:Pr)(hs:prS p):Pu 29 [.agg (prL p)] (.ret (.int .i64 (pcE p))):=by
 refine Ob.pur_of_eff (e':=[]) (by have h1:=pr_nx p; simp only [noXs,PV.noX,Bool.and_true,Bool.true_and] at h1 ⊢; exact h1) rfl ⟨by kernel_rfl,fun vs g l w ha he=>?_⟩
 obtain ⟨v,vs',rfl,hr,ha'⟩:=ha.inv_cons
 obtain rfl:=ha'.inv_nil
 obtain ⟨oa,m,c,hk,rfl⟩:∃oa m c,Rep g w (.sl 4 (Pr.cs (prK p))) (.slice oa m c)/\v=encP p (.slice oa m c):=by
  generalize he:prL p=cs at hr
  cases hr with
  | agg _ vs h1 ho h=>
   subst he
   match vs,h1,h with
   | [v0,v1,v2,v3],_,h=>
    have r0:Rep g w (.int .i64 (prO p)) v0:=h 0 sM sM
    have r1:Rep g w (.str (prNm p)) v1:=h 1 sM sM
    have r2:Rep g w (.int .i64 (prN p)) v2:=h 2 sM sM
    have r3:Rep g w (.sl 4 (Pr.cs (prK p))) v3:=h 3 sM sM
    obtain ⟨oa,m,c,rfl⟩:=sl_val r3
    cases r0; cases r1; cases r2
    exact ⟨oa,m,c,r3,rfl⟩
 refine (check_in p hs g l w oa m c hk he).mono ?_
 rintro enz w' ⟨rfl,hbel⟩
 exact ⟨_,[],g,l,⟨rfl,rfl⟩,.int _ _,ent_below he hbel,mono_below hbel,hbel.size,fun b hb _=>⟨hbel.block b hb,rfl⟩,fun b o ho => .inr (by rw [ho]; rfl),hbel.os,hbel.tape,hbel.output⟩
theorem pcT(p:Pr)(hs:bulkPs (prL p)<=100000000):Pu 29 [.agg (prL p)] (.ret (.int .i64 (pcE p))):=pcS p (prS_bulk p oM)
end Go.Proofs.YtidabncghfbdaaaGreatDoor
