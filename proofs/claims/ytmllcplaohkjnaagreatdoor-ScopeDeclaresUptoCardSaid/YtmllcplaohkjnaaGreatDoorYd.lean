/- Values of Go as plain data, an evaluator over them, and what the functions of the program return; part Yd. -/
import Derived.Test.YtmllcplaohkjnaaGreatDoorYc
import Derived.Test.YtmllcplaohkjnaaGreatDoorXe
import Derived.Test.YtmllcplaohkjnaaGreatDoorYa
set_option linter.unusedSectionVars false
set_option linter.unusedSimpArgs false
set_option linter.unusedVariables false
namespace Go.Proofs.YtmllcplaohkjnaaGreatDoor
open Go.Proofs.Tryz
open Go.Pv Go.Proofs.Tryz
set_option maxRecDepth 100000
def Cr(s:BA):Bool:=decide (s.size<=120)&&(if Bb s<s.size then (Ac (s.extract 0 (Bb s))||AL (s.extract 0 (Bb s))||decide (s.extract 0 (Bb s)=tV))&&Oq (s.extract (Bb s+1) s.size) else Ac s||AL s)
theorem Pf{x:BA}{b:Bool}(h:Oq x=b):Ot (x,true)=b:=by rw [<-h]; unfold Ot; rw [iP rfl]
theorem WM(s:BA):Pu 96 [.str s] (.ret (.int .i64 (AU (Cr s)))):=by
 unfold Cr
 by_cases hl:s.size<=120
 ·have Tr:(s.size:Int)<=120:=by omega
  rw [decide_eq_true hl,Bool.true_and]
  by_cases hx:Bb s<s.size
  ·rw [iP hx]
   cases h0:Ac (s.extract 0 (Bb s)) with
   | true=>
    cases h3:Oq (s.extract (Bb s+1) s.size) with
    | true=>simpa only [Bool.true_or,Bool.false_or,Bool.true_and,Bool.or_true,Bool.false_and,Bool.and_true,Bool.and_false,Bool.or_false,AU,if_true,Bool.false_eq_true,if_false] using sP s Tr hx h0 (Pf h3)
    | false=>simpa only [Bool.true_or,Bool.false_or,Bool.true_and,Bool.or_true,Bool.false_and,Bool.and_true,Bool.and_false,Bool.or_false,AU,if_true,Bool.false_eq_true,if_false] using sQ s Tr hx h0 (Pf h3)
   | false=>
    cases h1:AL (s.extract 0 (Bb s)) with
    | true=>
     cases h3:Oq (s.extract (Bb s+1) s.size) with
     | true=>simpa only [Bool.true_or,Bool.false_or,Bool.true_and,Bool.or_true,Bool.false_and,Bool.and_true,Bool.and_false,Bool.or_false,AU,if_true,Bool.false_eq_true,if_false] using sN s Tr hx h0 h1 (Pf h3)
     | false=>simpa only [Bool.true_or,Bool.false_or,Bool.true_and,Bool.or_true,Bool.false_and,Bool.and_true,Bool.and_false,Bool.or_false,AU,if_true,Bool.false_eq_true,if_false] using sO s Tr hx h0 h1 (Pf h3)
    | false=>
     by_cases h2:s.extract 0 (Bb s)=tV
     ·rw [decide_eq_true h2]
      cases h3:Oq (s.extract (Bb s+1) s.size) with
      | true=>simpa only [Bool.true_or,Bool.false_or,Bool.true_and,Bool.or_true,Bool.false_and,Bool.and_true,Bool.and_false,Bool.or_false,AU,if_true,Bool.false_eq_true,if_false] using sK s Tr hx h0 h1 h2 (Pf h3)
      | false=>simpa only [Bool.true_or,Bool.false_or,Bool.true_and,Bool.or_true,Bool.false_and,Bool.and_true,Bool.and_false,Bool.or_false,AU,if_true,Bool.false_eq_true,if_false] using sL s Tr hx h0 h1 h2 (Pf h3)
     ·rw [decide_eq_false h2]; simpa only [Bool.true_or,Bool.false_or,Bool.true_and,Bool.or_true,Bool.false_and,Bool.and_true,Bool.and_false,Bool.or_false,AU,if_true,Bool.false_eq_true,if_false] using sJ s Tr hx h0 h1 h2
  ·rw [iN hx]
   cases h0:Ac s with
   | true=>simpa only [Bool.true_or,Bool.false_or,Bool.true_and,Bool.or_true,Bool.false_and,Bool.and_true,Bool.and_false,Bool.or_false,AU,if_true,Bool.false_eq_true,if_false] using sV s Tr hx h0
   | false=>
    cases h1:AL s with
    | true=>simpa only [Bool.true_or,Bool.false_or,Bool.true_and,Bool.or_true,Bool.false_and,Bool.and_true,Bool.and_false,Bool.or_false,AU,if_true,Bool.false_eq_true,if_false] using sU s Tr hx h0 h1
    | false=>
     by_cases h2:s=tV
     ·simpa only [Bool.true_or,Bool.false_or,Bool.true_and,Bool.or_true,Bool.false_and,Bool.and_true,Bool.and_false,Bool.or_false,AU,if_true,Bool.false_eq_true,if_false] using sS s Tr hx h0 h1 h2
     ·simpa only [Bool.true_or,Bool.false_or,Bool.true_and,Bool.or_true,Bool.false_and,Bool.and_true,Bool.and_false,Bool.or_false,AU,if_true,Bool.false_eq_true,if_false] using sR s Tr hx h0 h1 h2
 ·rw [decide_eq_false hl,Bool.false_and]; simpa only [Bool.true_or,Bool.false_or,Bool.true_and,Bool.or_true,Bool.false_and,Bool.and_true,Bool.and_false,Bool.or_false,AU,if_true,Bool.false_eq_true,if_false] using A85 s oM
theorem Ny{s:BA}(h:AU (Cr s)=0):(0:Int)<=0/\(0:Int)<(s.size:Int):=by
 cases hb:Cr s with
 | false=>rw [hb] at h; cases h
 | true=>
  by_cases hz:s.size=0
  ·have:s=AI:=by
    have:s.data = #[]:=Array.eq_empty_of_size_eq_zero hz
    cases s; simp only at this; subst this; rfl
   subst this
   rw [show Cr AI=false by kernel_rfl] at hb
   cases hb
  ·omega
def FX(s:BA)(l:List BA):Int:=if ix id s l<l.length then (ix id s l:Nat) else -1
theorem ZY(s:BA):∀ (l:List BA) (k:Nat),Gs s l k=if ix id s l<l.length then .e0 (k+ix id s l) else .e1
 | [],k=>by simp [Gs,ix]
 | c::r,k=>by
  by_cases h:c=s
  ·simp [Gs,ix,h]
  ·have h':¬s=c:=fun e=>h e.symm
   simp only [Gs,ix,id,h,h',if_false,ZY s r (k+1),List.length_cons]
   by_cases h2:ix id s r<r.length
   ·rw [iP h2,iP (by simpa using h2)]; congr 1; show k+1+ix id s r=k+(ix id s r+1); omega
   ·rw [iN h2,iN (by simpa using h2)]
theorem A87(l:List BA)(s:BA)(hN:l.length<=1000000000):Pu 172 [.sl 1 (A1 l),.str s] (.ret (.int .i64 (FX s l))):=by
 unfold FX
 by_cases h:ix id s l<l.length
 ·rw [iP h]; exact sG l s hN _ (by rw [ZY,iP h,Nat.zero_add])
 ·rw [iN h]; exact sH l s hN (by rw [ZY,iN h])
theorem TV(l:List BA)(s:BA)(hN:l.length<=1000000000):Pu 127 [.sl 1 (A1 l),.str s] (rI (FX s l)):=
 pm An [cl (@A87 (l) (s) hN)] func127
def BP{α:Type}(f:α->Int):List α->Int
 | []=>0
 | x::r=>if f x=0 then BP f r else f x
abbrev mI(t:Tp)(Dw:Tp->Int)(j:Int)(n:Int)(e:Ext):S:=S.mk [(2,A2 0),(3,A2 n),(7,vL 9 (Tp.cs (AP t))),(8,A2 ((AP t).length:Int)),(9,A2 j)] [] e
def IS(Dw:Tp->Int):List Tp->(Int)->(Int)
 | [],n=>(n)
 | el::r,n=>IS Dw r (EU true n (Dw el))
def ZZ(t:Tp)(Dw:Tp->Int)(e:Ext)(p:(Int)):A7 × S:=(.exit 0,S.mk [(2,A2 0),(3,A2 p),(7,vL 9 (Tp.cs (AP t))),(8,A2 ((AP t).length:Int))] [] e)
theorem tdA(t:Tp)(Dw:Tp->Int)(BY:∀w:Tp,w∈AP t->Pu 130 [.agg (BI w)] (.ret (.int .i64 (Dw w))))(n:Int)(e:Ext)(hN:(AP t).length<=1000000000)  : (Ob.loop 20 (Am f130 0) (mI t Dw 0 n e) (ZZ t Dw e (IS Dw ((AP t))  n)).1 (ZZ t Dw e (IS Dw ((AP t))  n)).2).ok prog:=by
 refine Ek ((AP t).length) (fun j n=>mI t Dw j n e) (fun i n=>IS Dw (List.drop i ((AP t)))  n) (ZZ t Dw e) (fun i n=>True) kR ?_ n trivial
 rintro i n hi -
 rcases Nat.lt_or_ge i ((AP t).length) with Ad | Dm
 ·have hd:=AN Ad
  exact lN An [dt ((i:Int)<((AP t).length:Int)),am ((0:Int)<=(i:Int)/\(i:Int)<((Tp.cs (AP t)).length:Int)) (by (simp only [Tp.A0]; omega)),ar (List.getD (Tp.cs (AP t)) (Int.toNat (i:Int)) []) (BI (List.getD (AP t) i default)) (by simp only [Int.toNat_natCast,Int.toNat_zero]; rw [@Tp.B0 (AP t) (i) Ad]; try rfl),cl (@BY (List.getD (AP t) i default) (by simp_all [List.length_map,List.length_append,List.length_cons,List.length_nil,A3,Pr.A0,Tp.A0,Pm.A0,Ex.A0,Al.A0,Vr.A0,Cn.A0,Da.A0,Cl.A0,Bo.A0,Df.A0,In.A0,Cs.A0,Ms.A0,Qu.A0,Int.toNat_natCast,Int.toNat_zero,Fg])),wr ((i:Int)+1)] Ad (EU true n (Dw (List.getD (AP t) i default))) trivial (by rw [hd,IS])
 ·have he:i=(AP t).length:=by omega
  exact lX An [df ((i:Int)<((AP t).length:Int))] (n) (by rw [he,List.drop_length,IS])
abbrev Pg(t:Tp)(xe:Ext)(ff:Tp->Int)(j:Int)   : S:=S.mk [(2,A2 0),(90,vL 9 (Tp.cs (AP t))),(91,A2 ((AP t).length:Int)),(92,A2 j)] [] xe
inductive I9 where
 | e0 (el:Tp)
 | e1
def HD(ff:Tp->Int):List Tp->I9
 | []=>(I9.e1)
 | el::r=>(if ff el=0 then HD ff r  else (I9.e0 el))
def Nz(t:Tp)(xe:Ext)(ff:Tp->Int)  : I9->A7 × S
 | .e0 el=>(.ret,S.mk [(2,A2 (ff el)),(90,vL 9 (Tp.cs (AP t))),(91,A2 ((AP t).length:Int))] [] xe)
 | .e1=>(.exit 0,S.mk [(2,A2 0),(90,vL 9 (Tp.cs (AP t))),(91,A2 ((AP t).length:Int))] [] xe)
theorem aA(t:Tp)(xe:Ext)(ff:Tp->Int)(BY:∀w:Tp,w∈AP t->Pu 131 [.agg (BI w)] (.ret (.int .i64 (ff w))))(hN:(AP t).length<=1000000000):(Ob.loop 102 (Am f131 0) (Pg t xe ff 0) (Nz t xe ff  (HD ff (List.drop 0 ((AP t))))).1 (Nz t xe ff  (HD ff (List.drop 0 ((AP t))))).2).ok prog:=by
 refine Ek ((AP t).length) (fun j _=>Pg t xe ff j) (fun i _=>HD ff (List.drop i ((AP t)))) (Nz t xe ff) (fun i _=>True) kR ?_ () trivial
 rintro i u hi -
 rcases Nat.lt_or_ge i ((AP t).length) with Ad | Dm
 ·have hd:=AN Ad
  by_cases h0:ff (List.getD (AP t) i default)=0
  ·exact lN An [dt ((i:Int)<((AP t).length:Int)),am ((0:Int)<=(i:Int)/\(i:Int)<((Tp.cs (AP t)).length:Int)) (by (simp only [Tp.A0]; omega)),ar (List.getD (Tp.cs (AP t)) (Int.toNat (i:Int)) []) (BI (List.getD (AP t) i default)) (by simp only [Int.toNat_natCast,Int.toNat_zero]; rw [@Tp.B0 (AP t) (i) Ad]; try rfl),cl (@BY (List.getD (AP t) i default) (by simp_all [List.length_map,List.length_append,List.length_cons,List.length_nil,A3,Pr.A0,Tp.A0,Pm.A0,Ex.A0,Al.A0,Vr.A0,Cn.A0,Da.A0,Cl.A0,Bo.A0,Df.A0,In.A0,Cs.A0,Ms.A0,Qu.A0,Int.toNat_natCast,Int.toNat_zero,Fg])),Bp h0,wr ((i:Int)+1)] Ad () trivial (by rw [hd,HD,iP h0])
  ·exact lX An [dt ((i:Int)<((AP t).length:Int)),am ((0:Int)<=(i:Int)/\(i:Int)<((Tp.cs (AP t)).length:Int)) (by (simp only [Tp.A0]; omega)),ar (List.getD (Tp.cs (AP t)) (Int.toNat (i:Int)) []) (BI (List.getD (AP t) i default)) (by simp only [Int.toNat_natCast,Int.toNat_zero]; rw [@Tp.B0 (AP t) (i) Ad]; try rfl),cl (@BY (List.getD (AP t) i default) (by simp_all [List.length_map,List.length_append,List.length_cons,List.length_nil,A3,Pr.A0,Tp.A0,Pm.A0,Ex.A0,Al.A0,Vr.A0,Cn.A0,Da.A0,Cl.A0,Bo.A0,Df.A0,In.A0,Cs.A0,Ms.A0,Qu.A0,Int.toNat_natCast,Int.toNat_zero,Fg])),D3 h0] (I9.e0 (List.getD ((AP t)) i default)) (by rw [hd,HD,iN h0])
 ·have he:i=(AP t).length:=by omega
  exact lX An [df ((i:Int)<((AP t).length:Int))] (I9.e1) (by rw [he,List.drop_length,HD])
theorem A21(t:Tp)(xe:Ext)(ff:Tp->Int)(BY:∀w:Tp,w∈AP t->Pu 131 [.agg (BI w)] (.ret (.int .i64 (ff w))))(hN:(AP t).length<=1000000000)(p0:Tp)(AF:(HD ff ((AP t)))=(I9.e0 p0)):(Ob.loop 102 (Am f131 0) (Pg t xe ff 0) (Nz t xe ff  (I9.e0 p0)).1 (Nz t xe ff  (I9.e0 p0)).2).ok prog:=
 rz (aA t xe ff BY hN) AF
theorem A22(t:Tp)(xe:Ext)(ff:Tp->Int)(BY:∀w:Tp,w∈AP t->Pu 131 [.agg (BI w)] (.ret (.int .i64 (ff w))))(hN:(AP t).length<=1000000000)(AF:(HD ff ((AP t)))=(I9.e1)):(Ob.loop 102 (Am f131 0) (Pg t xe ff 0) (Nz t xe ff  (I9.e1)).1 (Nz t xe ff  (I9.e1)).2).ok prog:=
 rz (aA t xe ff BY hN) AF
def Ma(t:Tp):Int:=if Bd t=4 then (if ((AP t).length:Int)>6 then 13 else 0) else if Bd t=6 then (if ((AP t).length:Int)<2 then 13 else if ((AP t).length:Int)>7 then 13 else if ((C2 t).length:Int)=0 then 0 else if ((C2 t).length:Int)=((AP t).length:Int) - 1 then 0 else 13) else 0
theorem sW(t:Tp):Pu 175 [.agg (BI t)] (.ret (.int .i64 (Ma t))):=by
 unfold Ma
 by_cases h0:Bd t=4
 ·rw [iP h0]
  by_cases h1:((AP t).length:Int)>6
  ·rw [iP h1]; exact pm An [CT h0,sl (Tp.A0 (AP t)),E9 h1] func175
  ·rw [iN h1]; exact pm An [CT h0,sl (Tp.A0 (AP t)),Br h1] func175
 ·rw [iN h0]
  by_cases h1:Bd t=6
  ·rw [iP h1]
   by_cases h2:((AP t).length:Int)<2
   ·rw [iP h2]; exact pm An [As h0,CT h1,sl (Tp.A0 (AP t)),rp 5 (E9 h2),rp 8 (bt true)] func175
   ·rw [iN h2]
    by_cases h3:((AP t).length:Int)>7
    ·rw [iP h3]; exact pm An [As h0,CT h1,sl (Tp.A0 (AP t)),rp 3 (Br h2),sl (Tp.A0 (AP t)),rp 2 (Br h2),rp 7 (E9 h3),bt true] func175
    ·rw [iN h3]
     by_cases h4:((C2 t).length:Int)=0
     ·rw [iP h4]; exact pm An [As h0,CT h1,sl (Tp.A0 (AP t)),rp 3 (Br h2),sl (Tp.A0 (AP t)),rp 2 (Br h2),rp 3 (Br h3),sl (A3 (C2 t)),rp 2 (Br h3),rp 8 (Bp h4),Br h3,Bp h4,Br h3,bf false] func175
     ·rw [iN h4]
      by_cases h5:((C2 t).length:Int)=((AP t).length:Int) - 1
      ·rw [iP h5]; exact pm An [As h0,CT h1,sl (Tp.A0 (AP t)),rp 3 (Br h2),sl (Tp.A0 (AP t)),rp 2 (Br h2),rp 3 (Br h3),sl (A3 (C2 t)),rp 2 (Br h3),rp 3 (D3 h4),sl (A3 (C2 t)),rp 3 (D3 h4),sl (Tp.A0 (AP t)),D3 h4,wr (((AP t).length:Int) - 1),D3 h4,Br h3,D3 h4,Br h3,Bp h5] func175
      ·rw [iN h5]; exact pm An [As h0,CT h1,sl (Tp.A0 (AP t)),rp 3 (Br h2),sl (Tp.A0 (AP t)),rp 2 (Br h2),rp 3 (Br h3),sl (A3 (C2 t)),rp 2 (Br h3),rp 3 (D3 h4),sl (A3 (C2 t)),rp 3 (D3 h4),sl (Tp.A0 (AP t)),D3 h4,wr (((AP t).length:Int) - 1),D3 h4,Br h3,D3 h4,Br h3,D3 h5] func175
  ·rw [iN h1]; exact pm An [As h0,As h1] func175
def aB:Nat->Tp->Int
 | 0,_=>0
 | d+1,t=>IS (aB d) (AP t) 0+1
theorem aC{f:Tp->Int}{B:Int}:∀ (l:List Tp) (n:Int),0<=n->n<=B->(∀w∈l,0<=f w/\f w<=B)->0<=IS f l n/\IS f l n<=B
 | [],n,h0,h1,_=>⟨h0,h1⟩
 | x::r,n,h0,h1,h=>by
  have hx:=h x sM
  refine aC r _ ?_ ?_ fun w hw=>h w (List.mem_cons_of_mem _ hw)
  ·show 0<=(if f x>n then f x else n); split <;> omega
  ·show (if f x>n then f x else n)<=B; split <;> omega
theorem mJ:∀ (d:Nat) (t:Tp),0<=aB d t/\aB d t<=d
 | 0,_=>⟨Int.le_refl _,Int.le_refl _⟩
 | d+1,t=>by
  have:=aC (f:=aB d) (B:=d) (AP t) 0 oM oM fun w _=>mJ d w
  simp only [aB]; omega
theorem mK:∀ (d:Nat) (t:Tp),A5 (BI t)<d->d<=100000001->Pu 130 [.agg (BI t)] (.ret (.int .i64 (aB d t)))
 | 0,_,h,_=>by omega
 | d+1,t,h,hs=>by
  have hb:=aC (f:=aB d) (B:=d) (AP t) 0 oM oM fun w _=>mJ d w
  exact pu An (fun e=>[sl (Tp.A0 (AP t)),lp (S.mk [(0,.v (.agg (BI t))),(1,.lp 1 0),(2,A2 0),(3,A2 0),(6,.lp 1 2),(7,vL 9 (Tp.cs (AP t))),(8,A2 ((AP t).length:Int)),(9,A2 0)] [(1,EV t)] e) (@tdA (t) ((aB d)) (fun w hw=>mK d w (by have:=DV t; have:=Tp.mem hw; omega) oM) (0) (e) (by have:=DV t; have:=Tp.BF (AP t); omega)) xr,ai (IntKind.wrap .i64 (IS (aB d) (AP t) 0+1)) (IS (aB d) (AP t) 0+1) (wrap64 oM oM)]) func130
def tdF(t:Tp):Int:=aB (A5 (BI t)+1) t
theorem tdT(t:Tp)(hs:A5 (BI t)<=100000000):Pu 130 [.agg (BI t)] (.ret (.int .i64 (tdF t))):=mK _ t oM oM
theorem aD(ff:Tp->Int):∀l:List Tp,(BP ff l=0->HD ff l = .e1)/\(¬BP ff l=0->∃w,HD ff l = .e0 w/\ff w=BP ff l)
 | []=>⟨fun _=>rfl,fun h=>absurd rfl h⟩
 | x::r=>by
  have ih:=aD ff r
  by_cases h:ff x=0
  ·simp only [BP,HD,h,if_true]; exact ih
  ·simp only [BP,HD,h,if_false]; exact ⟨fun h'=>h'.elim,fun _=>⟨x,rfl,rfl⟩⟩
abbrev tfS(t:Tp)(v:Int)(xe:Ext):S:=⟨[(2,.v (.int .i64 v)),(90,.v (.sl 9 (Tp.cs (AP t)))),(91,.v (.int .i64 (AP t).length))],[],xe⟩
theorem tfT(t:Tp)(xe:Ext)(ff:Tp->Int)(BY:∀w:Tp,w∈AP t->Pu 131 [.agg (BI w)] (.ret (.int .i64 (ff w))))(hN:(AP t).length<=1000000000)(hx:BP ff (AP t)=0):(Ob.loop 102 (Am f131 0) (Pg t xe ff 0) (.exit 0) (tfS t 0 xe)).ok prog:=
 A22 t xe ff BY hN ((aD ff (AP t)).1 hx)
theorem tfF(t:Tp)(xe:Ext)(ff:Tp->Int)(BY:∀w:Tp,w∈AP t->Pu 131 [.agg (BI w)] (.ret (.int .i64 (ff w))))(hN:(AP t).length<=1000000000)(hx:¬BP ff (AP t)=0):(Ob.loop 102 (Am f131 0) (Pg t xe ff 0) .ret (tfS t (BP ff (AP t)) xe)).ok prog:=by
 obtain ⟨w,h1,h2⟩:=(aD ff (AP t)).2 hx
 have:=A21 t xe ff BY hN w h1
 rw [<-h2]
 exact this
abbrev WN(t:Tp)(xe:Ext):S:=⟨[(1,.lp 1 0),(2,.v (.int .i64 0))],[(1,EV t)],xe⟩
abbrev sX(t:Tp)(DD:Bool)(xe:Ext):S:=⟨[(1,.lp 1 0),(2,.v (.int .i64 0)),(3,.v (.bool DD))],[(1,EV t)],xe⟩
abbrev V6(t:Tp)(DD cmp:Bool)(xe:Ext):S:=⟨[(1,.lp 1 0),(2,.v (.int .i64 0)),(3,.v (.bool DD)),(4,.v (.bool cmp))],[(1,EV t)],xe⟩
theorem A23(t:Tp)(xe:Ext)(Ak:Bd t=4)(cx:Cx)(AH:cx.n=102){Q:A7->S->Prop}(hq:Q (.normal) (S.mk [(1,.lp 1 0),(2,A2 0),(3,.v (.bool true))] [(1,EV t)] xe)):PW prog cx (BC f131 1) (WN t xe) Q:=
 pw An 102 [rp 4 (CT Ak)] [1,2,3] [1] AH hq
theorem A24(t:Tp)(xe:Ext)(Ak:¬Bd t=4)(cx:Cx)(AH:cx.n=102){Q:A7->S->Prop}(hq:Q (.normal) (S.mk [(1,.lp 1 0),(2,A2 0),(3,.v (.bool (Bd t==5)))] [(1,EV t)] xe)):PW prog cx (BC f131 1) (WN t xe) Q:=
 pw An 102 [rp 4 (As Ak)] [1,2,3] [1] AH hq
def AG(t:Tp):Bool:=(if Bd t=4 then (true) else ((Bd t==5)))
theorem Sk(t:Tp)(xe:Ext):(Ob.F9 102 (BC f131 1) (WN t xe) (.normal) (S.mk [(1,.lp 1 0),(2,A2 0),(3,.v (.bool (AG t)))] [(1,EV t)] xe)).ok prog:=by
 intro cx AH
 by_cases g0:Bd t=4
 ·exact A23 t xe g0 cx AH ⟨rfl,by rw [show AG t=(true) by unfold AG; rw [iP g0]]⟩
 ·exact A24 t xe g0 cx AH ⟨rfl,by rw [show AG t=((Bd t==5)) by unfold AG; rw [iN g0]]⟩
theorem A25(t:Tp)(DD:Bool)(xe:Ext)(Ak:Bd t=4)(cx:Cx)(AH:cx.n=102){Q:A7->S->Prop}(hq:Q (.normal) (S.mk [(1,.lp 1 0),(2,A2 0),(3,.v (.bool DD)),(4,.v (.bool true))] [(1,EV t)] xe)):PW prog cx (BC f131 2) (sX t DD xe) Q:=
 pw An 102 [rp 4 (CT Ak)] [1,2,3,4] [1] AH hq
theorem A26(t:Tp)(DD:Bool)(xe:Ext)(Ak:¬Bd t=4)(cx:Cx)(AH:cx.n=102){Q:A7->S->Prop}(hq:Q (.normal) (S.mk [(1,.lp 1 0),(2,A2 0),(3,.v (.bool DD)),(4,.v (.bool (Bd t==6)))] [(1,EV t)] xe)):PW prog cx (BC f131 2) (sX t DD xe) Q:=
 pw An 102 [rp 4 (As Ak)] [1,2,3,4] [1] AH hq
def C9(t:Tp)(DD:Bool):Bool:=(if Bd t=4 then (true) else ((Bd t==6)))
theorem Sl(t:Tp)(DD:Bool)(xe:Ext):(Ob.F9 102 (BC f131 2) (sX t DD xe) (.normal) (S.mk [(1,.lp 1 0),(2,A2 0),(3,.v (.bool DD)),(4,.v (.bool (C9 t DD)))] [(1,EV t)] xe)).ok prog:=by
 intro cx AH
 by_cases g0:Bd t=4
 ·exact A25 t DD xe g0 cx AH ⟨rfl,by rw [show C9 t DD=(true) by unfold C9; rw [iP g0]]⟩
 ·exact A26 t DD xe g0 cx AH ⟨rfl,by rw [show C9 t DD=((Bd t==6)) by unfold C9; rw [iN g0]]⟩
section
variable (t:Tp) (DD cmp:Bool) (xe:Ext)
include t DD cmp xe
theorem A27(Ak:Bd t<1)(cx:Cx)(AH:cx.n=102){Q:A7->S->Prop}(hq:Q (.normal) (S.mk [(1,.lp 1 0),(2,A2 0),(3,.v (.bool DD)),(4,.v (.bool cmp)),(63,.v (.bool true))] [(1,EV t)] xe)):PW prog cx (BC f131 3) (V6 t DD cmp xe) Q:=
 pw An 102 [rp 4 (E9 Ak),rp 20 (bt true)] [1,2,3,4,63] [1] AH hq
theorem A28(Ak:¬Bd t<1)(Au:Bd t>6)(cx:Cx)(AH:cx.n=102){Q:A7->S->Prop}(hq:Q (.normal) (S.mk [(1,.lp 1 0),(2,A2 0),(3,.v (.bool DD)),(4,.v (.bool cmp)),(63,.v (.bool true))] [(1,EV t)] xe)):PW prog cx (BC f131 3) (V6 t DD cmp xe) Q:=
 pw An 102 [rp 4 (Br Ak),rp 6 (E9 Au),rp 14 (bt true)] [1,2,3,4,63] [1] AH hq
theorem A29(Ak:¬Bd t<1)(Au:¬Bd t>6)(AW:¬AK t=ByteArray.mk #[])(Bt:DD=false)(cx:Cx)(AH:cx.n=102){Q:A7->S->Prop}(hq:Q (.normal) (S.mk [(1,.lp 1 0),(2,A2 0),(3,.v (.bool DD)),(4,.v (.bool cmp)),(63,.v (.bool true))] [(1,EV t)] xe)):PW prog cx (BC f131 3) (V6 t DD cmp xe) Q:=
 pw An 102 [rp 4 (Br Ak),rp 4 (Br Au),rp 2 (bt (!ByteArray.toList (AK t)==ByteArray.toList AI) (BH (HT AW))),Br Au,bt (!ByteArray.toList (AK t)==ByteArray.toList AI) (BH (HT AW)),Br Au,rp 7 (B7 (BH Bt)),rp 7 (bt true)] [1,2,3,4,63] [1] AH hq
theorem A2a(Ak:¬Bd t<1)(Au:¬Bd t>6)(AW:¬AK t=ByteArray.mk #[])(Bt:DD=true)(CJ:((AP t).length:Int)>0)(ED:cmp=false)(cx:Cx)(AH:cx.n=102){Q:A7->S->Prop}(hq:Q (.normal) (S.mk [(1,.lp 1 0),(2,A2 0),(3,.v (.bool DD)),(4,.v (.bool cmp)),(63,.v (.bool true))] [(1,EV t)] xe)):PW prog cx (BC f131 3) (V6 t DD cmp xe) Q:=
 pw An 102 [rp 4 (Br Ak),rp 4 (Br Au),rp 2 (bt (!ByteArray.toList (AK t)==ByteArray.toList AI) (BH (HT AW))),Br Au,bt (!ByteArray.toList (AK t)==ByteArray.toList AI) (BH (HT AW)),Br Au,rp 3 (B1 (B3 Bt)),sl (Tp.A0 (AP t)),rp 2 (B1 (B3 Bt)),rp 2 (E9 CJ),B1 (B3 Bt),E9 CJ,B1 (B3 Bt),rp 7 (B7 (BH ED))] [1,2,3,4,63] [1] AH hq
theorem A2b(Ak:¬Bd t<1)(Au:¬Bd t>6)(AW:¬AK t=ByteArray.mk #[])(Bt:DD=true)(CJ:((AP t).length:Int)>0)(ED:cmp=true)(iZ:((C2 t).length:Int)>0)(cx:Cx)(AH:cx.n=102){Q:A7->S->Prop}(hq:Q (.normal) (S.mk [(1,.lp 1 0),(2,A2 0),(3,.v (.bool DD)),(4,.v (.bool cmp)),(63,.v (.bool (Bd t != 6)))] [(1,EV t)] xe)):PW prog cx (BC f131 3) (V6 t DD cmp xe) Q:=
 pw An 102 [rp 4 (Br Ak),rp 4 (Br Au),rp 2 (bt (!ByteArray.toList (AK t)==ByteArray.toList AI) (BH (HT AW))),Br Au,bt (!ByteArray.toList (AK t)==ByteArray.toList AI) (BH (HT AW)),Br Au,rp 3 (B1 (B3 Bt)),sl (Tp.A0 (AP t)),rp 2 (B1 (B3 Bt)),rp 2 (E9 CJ),B1 (B3 Bt),E9 CJ,B1 (B3 Bt),rp 3 (B1 (B3 ED)),sl (A3 (C2 t)),rp 2 (B1 (B3 ED)),rp 3 (E9 iZ),B1 (B3 ED),E9 iZ,B1 (B3 ED)] [1,2,3,4,63] [1] AH hq
theorem A2c(Ak:¬Bd t<1)(Au:¬Bd t>6)(AW:¬AK t=ByteArray.mk #[])(Bt:DD=true)(CJ:((AP t).length:Int)>0)(ED:cmp=true)(iZ:¬((C2 t).length:Int)>0)(cx:Cx)(AH:cx.n=102){Q:A7->S->Prop}(hq:Q (.normal) (S.mk [(1,.lp 1 0),(2,A2 0),(3,.v (.bool DD)),(4,.v (.bool cmp)),(63,.v (.bool false))] [(1,EV t)] xe)):PW prog cx (BC f131 3) (V6 t DD cmp xe) Q:=
 pw An 102 [rp 4 (Br Ak),rp 4 (Br Au),rp 2 (bt (!ByteArray.toList (AK t)==ByteArray.toList AI) (BH (HT AW))),Br Au,bt (!ByteArray.toList (AK t)==ByteArray.toList AI) (BH (HT AW)),Br Au,rp 3 (B1 (B3 Bt)),sl (Tp.A0 (AP t)),rp 2 (B1 (B3 Bt)),rp 2 (E9 CJ),B1 (B3 Bt),E9 CJ,B1 (B3 Bt),rp 3 (B1 (B3 ED)),sl (A3 (C2 t)),rp 2 (B1 (B3 ED)),rp 3 (Br iZ),B1 (B3 ED),Br iZ,B1 (B3 ED)] [1,2,3,4,63] [1] AH hq
theorem A2d(Ak:¬Bd t<1)(Au:¬Bd t>6)(AW:¬AK t=ByteArray.mk #[])(Bt:DD=true)(CJ:¬((AP t).length:Int)>0)(ED:((C2 t).length:Int)>0)(cx:Cx)(AH:cx.n=102){Q:A7->S->Prop}(hq:Q (.normal) (S.mk [(1,.lp 1 0),(2,A2 0),(3,.v (.bool DD)),(4,.v (.bool cmp)),(63,.v (.bool (Bd t != 6)))] [(1,EV t)] xe)):PW prog cx (BC f131 3) (V6 t DD cmp xe) Q:=
 pw An 102 [rp 4 (Br Ak),rp 4 (Br Au),rp 2 (bt (!ByteArray.toList (AK t)==ByteArray.toList AI) (BH (HT AW))),Br Au,bt (!ByteArray.toList (AK t)==ByteArray.toList AI) (BH (HT AW)),Br Au,rp 3 (B1 (B3 Bt)),sl (Tp.A0 (AP t)),rp 2 (B1 (B3 Bt)),rp 2 (Br CJ),B1 (B3 Bt),Br CJ,B1 (B3 Bt),rp 3 (bf false),sl (A3 (C2 t)),rp 2 (bf false),rp 3 (E9 ED),bf false,E9 ED,bf false] [1,2,3,4,63] [1] AH hq
theorem A2e(Ak:¬Bd t<1)(Au:¬Bd t>6)(AW:¬AK t=ByteArray.mk #[])(Bt:DD=true)(CJ:¬((AP t).length:Int)>0)(ED:¬((C2 t).length:Int)>0)(cx:Cx)(AH:cx.n=102){Q:A7->S->Prop}(hq:Q (.normal) (S.mk [(1,.lp 1 0),(2,A2 0),(3,.v (.bool DD)),(4,.v (.bool cmp)),(63,.v (.bool false))] [(1,EV t)] xe)):PW prog cx (BC f131 3) (V6 t DD cmp xe) Q:=
 pw An 102 [rp 4 (Br Ak),rp 4 (Br Au),rp 2 (bt (!ByteArray.toList (AK t)==ByteArray.toList AI) (BH (HT AW))),Br Au,bt (!ByteArray.toList (AK t)==ByteArray.toList AI) (BH (HT AW)),Br Au,rp 3 (B1 (B3 Bt)),sl (Tp.A0 (AP t)),rp 2 (B1 (B3 Bt)),rp 2 (Br CJ),B1 (B3 Bt),Br CJ,B1 (B3 Bt),rp 3 (bf false),sl (A3 (C2 t)),rp 2 (bf false),rp 3 (Br ED),bf false,Br ED,bf false] [1,2,3,4,63] [1] AH hq
theorem A2f(Ak:¬Bd t<1)(Au:¬Bd t>6)(AW:AK t=ByteArray.mk #[])(Bt:((AP t).length:Int)>0)(CJ:cmp=false)(cx:Cx)(AH:cx.n=102){Q:A7->S->Prop}(hq:Q (.normal) (S.mk [(1,.lp 1 0),(2,A2 0),(3,.v (.bool DD)),(4,.v (.bool cmp)),(63,.v (.bool true))] [(1,EV t)] xe)):PW prog cx (BC f131 3) (V6 t DD cmp xe) Q:=
 pw An 102 [rp 4 (Br Ak),rp 4 (Br Au),rp 2 (bf (!ByteArray.toList (AK t)==ByteArray.toList AI) (B3 (DZ AW))),Br Au,bf (!ByteArray.toList (AK t)==ByteArray.toList AI) (B3 (DZ AW)),Br Au,rp 3 (bf false),sl (Tp.A0 (AP t)),rp 2 (bf false),rp 2 (E9 Bt),bf false,E9 Bt,bf false,rp 7 (B7 (BH CJ))] [1,2,3,4,63] [1] AH hq
theorem sY(Ak:¬Bd t<1)(Au:¬Bd t>6)(AW:AK t=ByteArray.mk #[])(Bt:((AP t).length:Int)>0)(CJ:cmp=true)(ED:((C2 t).length:Int)>0)(cx:Cx)(AH:cx.n=102){Q:A7->S->Prop}(hq:Q (.normal) (S.mk [(1,.lp 1 0),(2,A2 0),(3,.v (.bool DD)),(4,.v (.bool cmp)),(63,.v (.bool (Bd t != 6)))] [(1,EV t)] xe)):PW prog cx (BC f131 3) (V6 t DD cmp xe) Q:=
 pw An 102 [rp 4 (Br Ak),rp 4 (Br Au),rp 2 (bf (!ByteArray.toList (AK t)==ByteArray.toList AI) (B3 (DZ AW))),Br Au,bf (!ByteArray.toList (AK t)==ByteArray.toList AI) (B3 (DZ AW)),Br Au,rp 3 (bf false),sl (Tp.A0 (AP t)),rp 2 (bf false),rp 2 (E9 Bt),bf false,E9 Bt,bf false,rp 3 (B1 (B3 CJ)),sl (A3 (C2 t)),rp 2 (B1 (B3 CJ)),rp 3 (E9 ED),B1 (B3 CJ),E9 ED,B1 (B3 CJ)] [1,2,3,4,63] [1] AH hq
theorem sZ(Ak:¬Bd t<1)(Au:¬Bd t>6)(AW:AK t=ByteArray.mk #[])(Bt:((AP t).length:Int)>0)(CJ:cmp=true)(ED:¬((C2 t).length:Int)>0)(cx:Cx)(AH:cx.n=102){Q:A7->S->Prop}(hq:Q (.normal) (S.mk [(1,.lp 1 0),(2,A2 0),(3,.v (.bool DD)),(4,.v (.bool cmp)),(63,.v (.bool false))] [(1,EV t)] xe)):PW prog cx (BC f131 3) (V6 t DD cmp xe) Q:=
 pw An 102 [rp 4 (Br Ak),rp 4 (Br Au),rp 2 (bf (!ByteArray.toList (AK t)==ByteArray.toList AI) (B3 (DZ AW))),Br Au,bf (!ByteArray.toList (AK t)==ByteArray.toList AI) (B3 (DZ AW)),Br Au,rp 3 (bf false),sl (Tp.A0 (AP t)),rp 2 (bf false),rp 2 (E9 Bt),bf false,E9 Bt,bf false,rp 3 (B1 (B3 CJ)),sl (A3 (C2 t)),rp 2 (B1 (B3 CJ)),rp 3 (Br ED),B1 (B3 CJ),Br ED,B1 (B3 CJ)] [1,2,3,4,63] [1] AH hq
theorem tA(Ak:¬Bd t<1)(Au:¬Bd t>6)(AW:AK t=ByteArray.mk #[])(Bt:¬((AP t).length:Int)>0)(CJ:((C2 t).length:Int)>0)(cx:Cx)(AH:cx.n=102){Q:A7->S->Prop}(hq:Q (.normal) (S.mk [(1,.lp 1 0),(2,A2 0),(3,.v (.bool DD)),(4,.v (.bool cmp)),(63,.v (.bool (Bd t != 6)))] [(1,EV t)] xe)):PW prog cx (BC f131 3) (V6 t DD cmp xe) Q:=
 pw An 102 [rp 4 (Br Ak),rp 4 (Br Au),rp 2 (bf (!ByteArray.toList (AK t)==ByteArray.toList AI) (B3 (DZ AW))),Br Au,bf (!ByteArray.toList (AK t)==ByteArray.toList AI) (B3 (DZ AW)),Br Au,rp 3 (bf false),sl (Tp.A0 (AP t)),rp 2 (bf false),rp 2 (Br Bt),bf false,Br Bt,rp 4 (bf false),sl (A3 (C2 t)),rp 2 (bf false),rp 3 (E9 CJ),bf false,E9 CJ,bf false] [1,2,3,4,63] [1] AH hq
theorem tB(Ak:¬Bd t<1)(Au:¬Bd t>6)(AW:AK t=ByteArray.mk #[])(Bt:¬((AP t).length:Int)>0)(CJ:¬((C2 t).length:Int)>0)(cx:Cx)(AH:cx.n=102){Q:A7->S->Prop}(hq:Q (.normal) (S.mk [(1,.lp 1 0),(2,A2 0),(3,.v (.bool DD)),(4,.v (.bool cmp)),(63,.v (.bool false))] [(1,EV t)] xe)):PW prog cx (BC f131 3) (V6 t DD cmp xe) Q:=
 pw An 102 [rp 4 (Br Ak),rp 4 (Br Au),rp 2 (bf (!ByteArray.toList (AK t)==ByteArray.toList AI) (B3 (DZ AW))),Br Au,bf (!ByteArray.toList (AK t)==ByteArray.toList AI) (B3 (DZ AW)),Br Au,rp 3 (bf false),sl (Tp.A0 (AP t)),rp 2 (bf false),rp 2 (Br Bt),bf false,Br Bt,rp 4 (bf false),sl (A3 (C2 t)),rp 2 (bf false),rp 3 (Br CJ),bf false,Br CJ,bf false] [1,2,3,4,63] [1] AH hq
end
def Bw(t:Tp)(DD cmp:Bool):Bool:=(if Bd t<1 then (true) else (if Bd t>6 then (true) else (if AK t=ByteArray.mk #[] then (if ((AP t).length:Int)>0 then (if cmp=true then (if ((C2 t).length:Int)>0 then ((Bd t != 6)) else (false)) else (true)) else (if ((C2 t).length:Int)>0 then ((Bd t != 6)) else (false))) else (if DD=true then (if ((AP t).length:Int)>0 then (if cmp=true then (if ((C2 t).length:Int)>0 then ((Bd t != 6)) else (false)) else (true)) else (if ((C2 t).length:Int)>0 then ((Bd t != 6)) else (false))) else (true)))))
theorem Sm(t:Tp)(DD cmp:Bool)(xe:Ext):(Ob.F9 102 (BC f131 3) (V6 t DD cmp xe) (.normal) (S.mk [(1,.lp 1 0),(2,A2 0),(3,.v (.bool DD)),(4,.v (.bool cmp)),(63,.v (.bool (Bw t DD cmp)))] [(1,EV t)] xe)).ok prog:=by
 intro cx AH
 by_cases g0:Bd t<1
 ·exact A27 t DD cmp xe g0 cx AH ⟨rfl,by rw [show Bw t DD cmp=(true) by unfold Bw; rw [iP g0]]⟩
 ·by_cases g1:Bd t>6
  ·exact A28 t DD cmp xe g0 g1 cx AH ⟨rfl,by rw [show Bw t DD cmp=(true) by unfold Bw; rw [iN g0,iP g1]]⟩
  ·by_cases g2:AK t=ByteArray.mk #[]
   ·by_cases g3:((AP t).length:Int)>0
    ·by_cases g4:cmp=true
     ·by_cases g5:((C2 t).length:Int)>0
      ·exact sY t DD cmp xe g0 g1 g2 g3 g4 g5 cx AH ⟨rfl,by rw [show Bw t DD cmp=((Bd t != 6)) by unfold Bw; rw [iN g0,iN g1,iP g2,iP g3,iP g4,iP g5]]⟩
      ·exact sZ t DD cmp xe g0 g1 g2 g3 g4 g5 cx AH ⟨rfl,by rw [show Bw t DD cmp=(false) by unfold Bw; rw [iN g0,iN g1,iP g2,iP g3,iP g4,iN g5]]⟩
     ·exact A2f t DD cmp xe g0 g1 g2 g3 (Bool.eq_false_iff.2 g4) cx AH ⟨rfl,by rw [show Bw t DD cmp=(true) by unfold Bw; rw [iN g0,iN g1,iP g2,iP g3,iN g4]]⟩
    ·by_cases g4:((C2 t).length:Int)>0
     ·exact tA t DD cmp xe g0 g1 g2 g3 g4 cx AH ⟨rfl,by rw [show Bw t DD cmp=((Bd t != 6)) by unfold Bw; rw [iN g0,iN g1,iP g2,iN g3,iP g4]]⟩
     ·exact tB t DD cmp xe g0 g1 g2 g3 g4 cx AH ⟨rfl,by rw [show Bw t DD cmp=(false) by unfold Bw; rw [iN g0,iN g1,iP g2,iN g3,iN g4]]⟩
   ·by_cases g3:DD=true
    ·by_cases g4:((AP t).length:Int)>0
     ·by_cases g5:cmp=true
      ·by_cases g6:((C2 t).length:Int)>0
       ·exact A2b t DD cmp xe g0 g1 g2 g3 g4 g5 g6 cx AH ⟨rfl,by rw [show Bw t DD cmp=((Bd t != 6)) by unfold Bw; rw [iN g0,iN g1,iN g2,iP g3,iP g4,iP g5,iP g6]]⟩
       ·exact A2c t DD cmp xe g0 g1 g2 g3 g4 g5 g6 cx AH ⟨rfl,by rw [show Bw t DD cmp=(false) by unfold Bw; rw [iN g0,iN g1,iN g2,iP g3,iP g4,iP g5,iN g6]]⟩
      ·exact A2a t DD cmp xe g0 g1 g2 g3 g4 (Bool.eq_false_iff.2 g5) cx AH ⟨rfl,by rw [show Bw t DD cmp=(true) by unfold Bw; rw [iN g0,iN g1,iN g2,iP g3,iP g4,iN g5]]⟩
     ·by_cases g5:((C2 t).length:Int)>0
      ·exact A2d t DD cmp xe g0 g1 g2 g3 g4 g5 cx AH ⟨rfl,by rw [show Bw t DD cmp=((Bd t != 6)) by unfold Bw; rw [iN g0,iN g1,iN g2,iP g3,iN g4,iP g5]]⟩
      ·exact A2e t DD cmp xe g0 g1 g2 g3 g4 g5 cx AH ⟨rfl,by rw [show Bw t DD cmp=(false) by unfold Bw; rw [iN g0,iN g1,iN g2,iP g3,iN g4,iN g5]]⟩
    ·exact A29 t DD cmp xe g0 g1 g2 (Bool.eq_false_iff.2 g3) cx AH ⟨rfl,by rw [show Bw t DD cmp=(true) by unfold Bw; rw [iN g0,iN g1,iN g2,iN g3]]⟩
section
variable (t:Tp) (xe:Ext) (hn:AU (Cr (AK t))=0)
include t xe hn
theorem tC(Ak:(↑(UInt8.toNat (List.getD (Array.toList (ByteArray.data (AK t))) 0 default)):Int)>=65)(cx:Cx)(AH:cx.n=102){Q:A7->S->Prop}(hq:Q (.normal) (S.mk [(1,.lp 1 0),(2,A2 0),(6,.v (.bool (decide ((↑(UInt8.toNat (List.getD (Array.toList (ByteArray.data (AK t))) 0 default)):Int)<=90))))] [(1,EV t)] xe)):PW prog cx (BC f131 11) (WN t xe) Q:=
 pw An 102 [am ((0:Int)<=0/\0<(↑(ByteArray.size (AK t)):Int)) (by (apply Ny <;> first | assumption | omega | decide)),av (.v (.int .u8 (↑(UInt8.toNat (List.getD (Array.toList (ByteArray.data (AK t))) (Int.toNat 0) default)):Int))) (.v (.int .u8 (↑(UInt8.toNat (List.getD (Array.toList (ByteArray.data (AK t))) 0 default)):Int))) rF,rp 3 (E9 Ak),am ((0:Int)<=0/\0<(↑(ByteArray.size (AK t)):Int)) (by (apply Ny <;> first | assumption | omega | decide)),av (.v (.int .u8 (↑(UInt8.toNat (List.getD (Array.toList (ByteArray.data (AK t))) (Int.toNat 0) default)):Int))) (.v (.int .u8 (↑(UInt8.toNat (List.getD (Array.toList (ByteArray.data (AK t))) 0 default)):Int))) rF,rp 2 (E9 Ak)] [1,2,6] [1] AH hq
theorem tD(Ak:¬(↑(UInt8.toNat (List.getD (Array.toList (ByteArray.data (AK t))) 0 default)):Int)>=65)(cx:Cx)(AH:cx.n=102){Q:A7->S->Prop}(hq:Q (.normal) (S.mk [(1,.lp 1 0),(2,A2 0),(6,.v (.bool false))] [(1,EV t)] xe)):PW prog cx (BC f131 11) (WN t xe) Q:=
 pw An 102 [am ((0:Int)<=0/\0<(↑(ByteArray.size (AK t)):Int)) (by (apply Ny <;> first | assumption | omega | decide)),av (.v (.int .u8 (↑(UInt8.toNat (List.getD (Array.toList (ByteArray.data (AK t))) (Int.toNat 0) default)):Int))) (.v (.int .u8 (↑(UInt8.toNat (List.getD (Array.toList (ByteArray.data (AK t))) 0 default)):Int))) rF,rp 5 (Br Ak)] [1,2,6] [1] AH hq
end
def Dr(t:Tp):Bool:=(if (↑(UInt8.toNat (List.getD (Array.toList (ByteArray.data (AK t))) 0 default)):Int)>=65 then ((decide ((↑(UInt8.toNat (List.getD (Array.toList (ByteArray.data (AK t))) 0 default)):Int)<=90))) else (false))
theorem aE(t:Tp)(xe:Ext)(hn:AU (Cr (AK t))=0):(Ob.F9 102 (BC f131 11) (WN t xe) (.normal) (S.mk [(1,.lp 1 0),(2,A2 0),(6,.v (.bool (Dr t)))] [(1,EV t)] xe)).ok prog:=by
 intro cx AH
 by_cases g0:(↑(UInt8.toNat (List.getD (Array.toList (ByteArray.data (AK t))) 0 default)):Int)>=65
 ·exact tC t xe hn g0 cx AH ⟨rfl,by rw [show Dr t=((decide ((↑(UInt8.toNat (List.getD (Array.toList (ByteArray.data (AK t))) 0 default)):Int)<=90))) by unfold Dr; rw [iP g0]]⟩
 ·exact tD t xe hn g0 cx AH ⟨rfl,by rw [show Dr t=(false) by unfold Dr; rw [iN g0]]⟩
def mL:Md:=⟨fun _=>some false,fun t=>t==1000001||t==1000002||t==1000003||t==1000011⟩
def H8(t:Tp)(ff:Tp->Int):Int:=(if Bw t (AG t) (C9 t (AG t))=true then 1 else (if Ma t=0 then (if AG t=true then (if AU (Cr (AK t))=0 then (if (if false=true then Dr t==(Bd t==4) else !Dr t==(Bd t==4))=true then 3 else (if BP ff (AP t)=0 then 0 else (BP ff (AP t)))) else 3) else (if BP ff (AP t)=0 then 0 else (BP ff (AP t)))) else (Ma t)))
theorem sFm(t:Tp)(ff:Tp->Int)(BY:∀w:Tp,w∈AP t->Pu 131 [.agg (BI w)] (.ret (.int .i64 (ff w))))(Xm:(AP t).length<=1000000000):Pu 131 [.agg (BI t)] (rI (H8 t ff)):=by
 by_cases h0:Bw t (AG t) (C9 t (AG t))=true
 ·simp only [H8,iP h0]; exact pu mL (fun e=>[lf (S.mk [(0,.v (.agg (BI t))),(1,.lp 1 0),(2,A2 0)] [(1,EV t)] e) (@Sk (t) (e)) ⟨⟨W,W,Ar⟩,⟨⟨W,W,W,W,W,W,W,W,W,Ar⟩,Ar⟩,rfl⟩,lf (S.mk [(1,.lp 1 0),(2,A2 0),(3,.v (.bool (AG t)))] [(1,EV t)] e) (@Sl (t) (AG t) (e)) ⟨⟨W,W,W,Ar⟩,⟨⟨W,W,W,W,W,W,W,W,W,Ar⟩,Ar⟩,rfl⟩,lf (S.mk [(1,.lp 1 0),(2,A2 0),(3,.v (.bool (AG t))),(4,.v (.bool (C9 t (AG t))))] [(1,EV t)] e) (@Sm (t) (AG t) (C9 t (AG t)) (e)) ⟨⟨W,W,W,W,Ar⟩,⟨⟨W,W,W,W,W,W,W,W,W,Ar⟩,Ar⟩,rfl⟩,B7 h0]) func131
 ·by_cases h1:Ma t=0
  ·by_cases h2:AG t=true
   ·by_cases h3:AU (Cr (AK t))=0
    ·by_cases h4:(if false=true then Dr t==(Bd t==4) else !Dr t==(Bd t==4))=true
     ·simp only [H8,iN h0,iP h1,iP h2,iP h3,iP h4]; exact pu mL (fun e=>[lf (S.mk [(0,.v (.agg (BI t))),(1,.lp 1 0),(2,A2 0)] [(1,EV t)] e) (@Sk (t) (e)) ⟨⟨W,W,Ar⟩,⟨⟨W,W,W,W,W,W,W,W,W,Ar⟩,Ar⟩,rfl⟩,lf (S.mk [(1,.lp 1 0),(2,A2 0),(3,.v (.bool (AG t)))] [(1,EV t)] e) (@Sl (t) (AG t) (e)) ⟨⟨W,W,W,Ar⟩,⟨⟨W,W,W,W,W,W,W,W,W,Ar⟩,Ar⟩,rfl⟩,lf (S.mk [(1,.lp 1 0),(2,A2 0),(3,.v (.bool (AG t))),(4,.v (.bool (C9 t (AG t))))] [(1,EV t)] e) (@Sm (t) (AG t) (C9 t (AG t)) (e)) ⟨⟨W,W,W,W,Ar⟩,⟨⟨W,W,W,W,W,W,W,W,W,Ar⟩,Ar⟩,rfl⟩,B1 (DC h0),cl (@sW (t)),Bp h1,B7 h2,cl (@WM (AK t)),Bp h3,lf (S.mk [(1,.lp 1 0),(2,A2 0),(3,.v (.bool (AG t))),(4,.v (.bool (C9 t (AG t)))),(63,.v (.bool (Bw t (AG t) (C9 t (AG t))))),(64,.v (.agg (BI t))),(65,A2 (Ma t)),(5,A2 (Ma t)),(66,A2 (Ma t)),(67,.v (.bool (Ma t != 0))),(69,.v (.bool (AG t))),(70,.lp 1 1),(71,vS (AK t)),(72,A2 (AU (Cr (AK t)))),(73,.v (.bool (AU (Cr (AK t)) != 0)))] [(1,EV t)] e) (@aE (t) (e) h3) ⟨⟨W,W,Ar⟩,⟨⟨W,W,W,W,W,W,W,W,W,Ar⟩,Ar⟩,rfl⟩,B7 h4]) func131
     ·by_cases h5:BP ff (AP t)=0
      ·simp only [H8,iN h0,iP h1,iP h2,iP h3,iN h4,iP h5]; exact pu mL (fun e=>[lf (S.mk [(0,.v (.agg (BI t))),(1,.lp 1 0),(2,A2 0)] [(1,EV t)] e) (@Sk (t) (e)) ⟨⟨W,W,Ar⟩,⟨⟨W,W,W,W,W,W,W,W,W,Ar⟩,Ar⟩,rfl⟩,lf (S.mk [(1,.lp 1 0),(2,A2 0),(3,.v (.bool (AG t)))] [(1,EV t)] e) (@Sl (t) (AG t) (e)) ⟨⟨W,W,W,Ar⟩,⟨⟨W,W,W,W,W,W,W,W,W,Ar⟩,Ar⟩,rfl⟩,lf (S.mk [(1,.lp 1 0),(2,A2 0),(3,.v (.bool (AG t))),(4,.v (.bool (C9 t (AG t))))] [(1,EV t)] e) (@Sm (t) (AG t) (C9 t (AG t)) (e)) ⟨⟨W,W,W,W,Ar⟩,⟨⟨W,W,W,W,W,W,W,W,W,Ar⟩,Ar⟩,rfl⟩,B1 (DC h0),cl (@sW (t)),Bp h1,B7 h2,cl (@WM (AK t)),Bp h3,lf (S.mk [(1,.lp 1 0),(2,A2 0),(3,.v (.bool (AG t))),(4,.v (.bool (C9 t (AG t)))),(63,.v (.bool (Bw t (AG t) (C9 t (AG t))))),(64,.v (.agg (BI t))),(65,A2 (Ma t)),(5,A2 (Ma t)),(66,A2 (Ma t)),(67,.v (.bool (Ma t != 0))),(69,.v (.bool (AG t))),(70,.lp 1 1),(71,vS (AK t)),(72,A2 (AU (Cr (AK t)))),(73,.v (.bool (AU (Cr (AK t)) != 0)))] [(1,EV t)] e) (@aE (t) (e) h3) ⟨⟨W,W,Ar⟩,⟨⟨W,W,W,W,W,W,W,W,W,Ar⟩,Ar⟩,rfl⟩,B1 (DC h4),sl (Tp.A0 (AP t)),lp (S.mk [(1,.lp 1 0),(2,A2 0),(6,.v (.bool (Dr t))),(84,.v (.bool (Dr t))),(85,.lp 1 0),(86,A2 (Bd t)),(87,.v (.bool (Bd t==4))),(88,.v (.bool (if false=true then Dr t==(Bd t==4) else !Dr t==(Bd t==4)))),(89,.lp 1 2),(90,vL 9 (Tp.cs (AP t))),(91,A2 ((AP t).length:Int)),(92,A2 0)] [(1,EV t)] e) (@tfT (t) (e) (ff) BY Xm h5) xr]) func131
      ·simp only [H8,iN h0,iP h1,iP h2,iP h3,iN h4,iN h5]; exact pu mL (fun e=>[lf (S.mk [(0,.v (.agg (BI t))),(1,.lp 1 0),(2,A2 0)] [(1,EV t)] e) (@Sk (t) (e)) ⟨⟨W,W,Ar⟩,⟨⟨W,W,W,W,W,W,W,W,W,Ar⟩,Ar⟩,rfl⟩,lf (S.mk [(1,.lp 1 0),(2,A2 0),(3,.v (.bool (AG t)))] [(1,EV t)] e) (@Sl (t) (AG t) (e)) ⟨⟨W,W,W,Ar⟩,⟨⟨W,W,W,W,W,W,W,W,W,Ar⟩,Ar⟩,rfl⟩,lf (S.mk [(1,.lp 1 0),(2,A2 0),(3,.v (.bool (AG t))),(4,.v (.bool (C9 t (AG t))))] [(1,EV t)] e) (@Sm (t) (AG t) (C9 t (AG t)) (e)) ⟨⟨W,W,W,W,Ar⟩,⟨⟨W,W,W,W,W,W,W,W,W,Ar⟩,Ar⟩,rfl⟩,B1 (DC h0),cl (@sW (t)),Bp h1,B7 h2,cl (@WM (AK t)),Bp h3,lf (S.mk [(1,.lp 1 0),(2,A2 0),(3,.v (.bool (AG t))),(4,.v (.bool (C9 t (AG t)))),(63,.v (.bool (Bw t (AG t) (C9 t (AG t))))),(64,.v (.agg (BI t))),(65,A2 (Ma t)),(5,A2 (Ma t)),(66,A2 (Ma t)),(67,.v (.bool (Ma t != 0))),(69,.v (.bool (AG t))),(70,.lp 1 1),(71,vS (AK t)),(72,A2 (AU (Cr (AK t)))),(73,.v (.bool (AU (Cr (AK t)) != 0)))] [(1,EV t)] e) (@aE (t) (e) h3) ⟨⟨W,W,Ar⟩,⟨⟨W,W,W,W,W,W,W,W,W,Ar⟩,Ar⟩,rfl⟩,B1 (DC h4),sl (Tp.A0 (AP t)),lp (S.mk [(1,.lp 1 0),(2,A2 0),(6,.v (.bool (Dr t))),(84,.v (.bool (Dr t))),(85,.lp 1 0),(86,A2 (Bd t)),(87,.v (.bool (Bd t==4))),(88,.v (.bool (if false=true then Dr t==(Bd t==4) else !Dr t==(Bd t==4)))),(89,.lp 1 2),(90,vL 9 (Tp.cs (AP t))),(91,A2 ((AP t).length:Int)),(92,A2 0)] [(1,EV t)] e) (@tfF (t) (e) (ff) BY Xm h5) xr]) func131
    ·simp only [H8,iN h0,iP h1,iP h2,iN h3]; exact pu mL (fun e=>[lf (S.mk [(0,.v (.agg (BI t))),(1,.lp 1 0),(2,A2 0)] [(1,EV t)] e) (@Sk (t) (e)) ⟨⟨W,W,Ar⟩,⟨⟨W,W,W,W,W,W,W,W,W,Ar⟩,Ar⟩,rfl⟩,lf (S.mk [(1,.lp 1 0),(2,A2 0),(3,.v (.bool (AG t)))] [(1,EV t)] e) (@Sl (t) (AG t) (e)) ⟨⟨W,W,W,Ar⟩,⟨⟨W,W,W,W,W,W,W,W,W,Ar⟩,Ar⟩,rfl⟩,lf (S.mk [(1,.lp 1 0),(2,A2 0),(3,.v (.bool (AG t))),(4,.v (.bool (C9 t (AG t))))] [(1,EV t)] e) (@Sm (t) (AG t) (C9 t (AG t)) (e)) ⟨⟨W,W,W,W,Ar⟩,⟨⟨W,W,W,W,W,W,W,W,W,Ar⟩,Ar⟩,rfl⟩,B1 (DC h0),cl (@sW (t)),Bp h1,B7 h2,cl (@WM (AK t)),D3 h3]) func131
   ·by_cases h3:BP ff (AP t)=0
    ·simp only [H8,iN h0,iP h1,iN h2,iP h3]; exact pu mL (fun e=>[lf (S.mk [(0,.v (.agg (BI t))),(1,.lp 1 0),(2,A2 0)] [(1,EV t)] e) (@Sk (t) (e)) ⟨⟨W,W,Ar⟩,⟨⟨W,W,W,W,W,W,W,W,W,Ar⟩,Ar⟩,rfl⟩,lf (S.mk [(1,.lp 1 0),(2,A2 0),(3,.v (.bool (AG t)))] [(1,EV t)] e) (@Sl (t) (AG t) (e)) ⟨⟨W,W,W,Ar⟩,⟨⟨W,W,W,W,W,W,W,W,W,Ar⟩,Ar⟩,rfl⟩,lf (S.mk [(1,.lp 1 0),(2,A2 0),(3,.v (.bool (AG t))),(4,.v (.bool (C9 t (AG t))))] [(1,EV t)] e) (@Sm (t) (AG t) (C9 t (AG t)) (e)) ⟨⟨W,W,W,W,Ar⟩,⟨⟨W,W,W,W,W,W,W,W,W,Ar⟩,Ar⟩,rfl⟩,B1 (DC h0),cl (@sW (t)),Bp h1,B1 (DC h2),sl (Tp.A0 (AP t)),lp (S.mk [(1,.lp 1 0),(2,A2 0),(3,.v (.bool (AG t))),(4,.v (.bool (C9 t (AG t)))),(63,.v (.bool (Bw t (AG t) (C9 t (AG t))))),(64,.v (.agg (BI t))),(65,A2 (Ma t)),(5,A2 (Ma t)),(66,A2 (Ma t)),(67,.v (.bool (Ma t != 0))),(69,.v (.bool (AG t))),(89,.lp 1 2),(90,vL 9 (Tp.cs (AP t))),(91,A2 ((AP t).length:Int)),(92,A2 0)] [(1,EV t)] e) (@tfT (t) (e) (ff) BY Xm h3) xr]) func131
    ·simp only [H8,iN h0,iP h1,iN h2,iN h3]; exact pu mL (fun e=>[lf (S.mk [(0,.v (.agg (BI t))),(1,.lp 1 0),(2,A2 0)] [(1,EV t)] e) (@Sk (t) (e)) ⟨⟨W,W,Ar⟩,⟨⟨W,W,W,W,W,W,W,W,W,Ar⟩,Ar⟩,rfl⟩,lf (S.mk [(1,.lp 1 0),(2,A2 0),(3,.v (.bool (AG t)))] [(1,EV t)] e) (@Sl (t) (AG t) (e)) ⟨⟨W,W,W,Ar⟩,⟨⟨W,W,W,W,W,W,W,W,W,Ar⟩,Ar⟩,rfl⟩,lf (S.mk [(1,.lp 1 0),(2,A2 0),(3,.v (.bool (AG t))),(4,.v (.bool (C9 t (AG t))))] [(1,EV t)] e) (@Sm (t) (AG t) (C9 t (AG t)) (e)) ⟨⟨W,W,W,W,Ar⟩,⟨⟨W,W,W,W,W,W,W,W,W,Ar⟩,Ar⟩,rfl⟩,B1 (DC h0),cl (@sW (t)),Bp h1,B1 (DC h2),sl (Tp.A0 (AP t)),lp (S.mk [(1,.lp 1 0),(2,A2 0),(3,.v (.bool (AG t))),(4,.v (.bool (C9 t (AG t)))),(63,.v (.bool (Bw t (AG t) (C9 t (AG t))))),(64,.v (.agg (BI t))),(65,A2 (Ma t)),(5,A2 (Ma t)),(66,A2 (Ma t)),(67,.v (.bool (Ma t != 0))),(69,.v (.bool (AG t))),(89,.lp 1 2),(90,vL 9 (Tp.cs (AP t))),(91,A2 ((AP t).length:Int)),(92,A2 0)] [(1,EV t)] e) (@tfF (t) (e) (ff) BY Xm h3) xr]) func131
  ·simp only [H8,iN h0,iN h1]; exact pu mL (fun e=>[lf (S.mk [(0,.v (.agg (BI t))),(1,.lp 1 0),(2,A2 0)] [(1,EV t)] e) (@Sk (t) (e)) ⟨⟨W,W,Ar⟩,⟨⟨W,W,W,W,W,W,W,W,W,Ar⟩,Ar⟩,rfl⟩,lf (S.mk [(1,.lp 1 0),(2,A2 0),(3,.v (.bool (AG t)))] [(1,EV t)] e) (@Sl (t) (AG t) (e)) ⟨⟨W,W,W,Ar⟩,⟨⟨W,W,W,W,W,W,W,W,W,Ar⟩,Ar⟩,rfl⟩,lf (S.mk [(1,.lp 1 0),(2,A2 0),(3,.v (.bool (AG t))),(4,.v (.bool (C9 t (AG t))))] [(1,EV t)] e) (@Sm (t) (AG t) (C9 t (AG t)) (e)) ⟨⟨W,W,W,W,Ar⟩,⟨⟨W,W,W,W,W,W,W,W,W,Ar⟩,Ar⟩,rfl⟩,B1 (DC h0),cl (@sW (t)),D3 h1]) func131
def fmD:Nat->Tp->Int
 | 0,_=>0
 | d+1,t=>H8 t (fmD d)
theorem mM:∀ (d:Nat) (t:Tp),A5 (BI t)<d->d<=100000001->Pu 131 [.agg (BI t)] (.ret (.int .i64 (fmD d t)))
 | 0,_,h,_=>by omega
 | d+1,t,h,hs=>sFm t (fmD d) (fun w hw=>mM d w (by have:=DV t; have:=Tp.mem hw; omega) oM) (by have:=DV t; have:=Tp.BF (AP t); omega)
def fmF(t:Tp):Int:=fmD (A5 (BI t)+1) t
theorem fmT(t:Tp)(hs:A5 (BI t)<=100000000):Pu 131 [.agg (BI t)] (.ret (.int .i64 (fmF t))):=mM _ t oM oM
def Bm(t:Tp):Int:=(if tdF t>40 then 8 else (fmF t))
theorem tE(t:Tp)(hs:A5 (BI t)<=100000000):Pu 85 [.agg (BI t)] (rI (Bm t)):=by
 by_cases h0:tdF t>40
 ·simp only [Bm,iP h0]; exact pm An [cl (@tdT (t) hs),E9 h0] func85
 ·simp only [Bm,iN h0]; exact pm An [cl (@tdT (t) hs),Br h0,cl (@fmT (t) hs)] func85
def CR:Md:=⟨fun t=>if t=91∨t=34∨t=72∨t=79∨t=86∨t=41 then some true else some false,fun _=>false⟩
abbrev wL(m:Mo):List PV:=[.sl 4 (Da.cs (Aj m)),.sl 3 (Cl.cs (AA m)),.sl 12 (In.cs (Bv m)),.sl 8 (Ms.cs (Ba m)),.sl 6 (Qu.cs (BM m)),.sl 25 (Df.cs (AD m)),.bool false,.int .i64 64]
def A6:List BA->List (BA × PV)
 | []=>[]
 | k::r=>(k,.bool true)::A6 r
def CN(s:BA):List BA->Bool
 | []=>false
 | k::r=>decide (k=s)||CN s r
theorem Es(s:BA):∀ks,(EZ s (A6 ks)).getD (.bool false) = .bool (CN s ks)
 | []=>rfl
 | k::r=>by
  by_cases h:k=s
  ·simp [A6,EZ,CN,h]
  ·simp only [A6,EZ,CN,h,if_false,decide_false,Bool.false_or]; exact Es s r
def fD(s:BA):List BA->List BA
 | []=>[s]
 | k::r=>if k=s then k::r else k::fD s r
theorem EE(s:BA):∀ks,A6 (fD s ks)=JI s (.bool true) (A6 ks)
 | []=>rfl
 | k::r=>by
  by_cases h:k=s
  ·subst h; simp [fD,A6,JI]
  ·simp only [fD,A6,JI,h,if_false,EE s r]
theorem CX(s:BA)(ks:List BA):Eg false (EZ s (A6 ks)) (.bool false) = .bool (CN s ks):=Es s ks
def Cp(s:BA)(ks:List BA):Int:=if CN s ks=true then 4 else 0
def Dx(s:BA)(ks:List BA):List BA:=if CN s ks=true then ks else fD s ks
theorem aG(s:BA)(a b c d e:List BA):Ef 54 [.mp 0,.str s] [(0,[.mm (A6 a)]),(1,[.mm (A6 b)]),(2,[.mm (A6 c)]),(3,[.mm (A6 d)]),(4,[.mm (A6 e)])] (.ret (.int .i64 (Cp s a))) [(0,[.mm (A6 (Dx s a))]),(1,[.mm (A6 b)]),(2,[.mm (A6 c)]),(3,[.mm (A6 d)]),(4,[.mm (A6 e)])]:=by
 unfold Cp Dx
 cases h:CN s a with
 | true=>rw [iP rfl,iP rfl]; exact ef CR [av (.v (Eg false (EZ s (A6 a)) (.bool false))) (.v (.bool (CN s a))) (by (simp only [CX]; done)),bt (CN s a) h] func54
 | false=>rw [iN dD,iN dD,EE]; exact ef CR [av (.v (Eg false (EZ s (A6 a)) (.bool false))) (.v (.bool (CN s a))) (by (simp only [CX]; done)),bf (CN s a) h] func54
theorem V7(s:BA)(a b c d e:List BA):Ef 54 [.mp 2,.str s] [(0,[.mm (A6 a)]),(1,[.mm (A6 b)]),(2,[.mm (A6 c)]),(3,[.mm (A6 d)]),(4,[.mm (A6 e)])] (.ret (.int .i64 (Cp s c))) [(0,[.mm (A6 a)]),(1,[.mm (A6 b)]),(2,[.mm (A6 (Dx s c))]),(3,[.mm (A6 d)]),(4,[.mm (A6 e)])]:=by
 unfold Cp Dx
 cases h:CN s c with
 | true=>rw [iP rfl,iP rfl]; exact ef CR [av (.v (Eg false (EZ s (A6 c)) (.bool false))) (.v (.bool (CN s c))) (by (simp only [CX]; done)),bt (CN s c) h] func54
 | false=>rw [iN dD,iN dD,EE]; exact ef CR [av (.v (Eg false (EZ s (A6 c)) (.bool false))) (.v (.bool (CN s c))) (by (simp only [CX]; done)),bf (CN s c) h] func54
theorem GO(s:BA)(a b c d e:List BA):Ef 54 [.mp 3,.str s] [(0,[.mm (A6 a)]),(1,[.mm (A6 b)]),(2,[.mm (A6 c)]),(3,[.mm (A6 d)]),(4,[.mm (A6 e)])] (.ret (.int .i64 (Cp s d))) [(0,[.mm (A6 a)]),(1,[.mm (A6 b)]),(2,[.mm (A6 c)]),(3,[.mm (A6 (Dx s d))]),(4,[.mm (A6 e)])]:=by
 unfold Cp Dx
 cases h:CN s d with
 | true=>rw [iP rfl,iP rfl]; exact ef CR [av (.v (Eg false (EZ s (A6 d)) (.bool false))) (.v (.bool (CN s d))) (by (simp only [CX]; done)),bt (CN s d) h] func54
 | false=>rw [iN dD,iN dD,EE]; exact ef CR [av (.v (Eg false (EZ s (A6 d)) (.bool false))) (.v (.bool (CN s d))) (by (simp only [CX]; done)),bf (CN s d) h] func54
theorem A2g(s:BA)(a b c d e:List BA):Ef 54 [.mp 4,.str s] [(0,[.mm (A6 a)]),(1,[.mm (A6 b)]),(2,[.mm (A6 c)]),(3,[.mm (A6 d)]),(4,[.mm (A6 e)])] (.ret (.int .i64 (Cp s e))) [(0,[.mm (A6 a)]),(1,[.mm (A6 b)]),(2,[.mm (A6 c)]),(3,[.mm (A6 d)]),(4,[.mm (A6 (Dx s e))])]:=by
 unfold Cp Dx
 cases h:CN s e with
 | true=>rw [iP rfl,iP rfl]; exact ef CR [av (.v (Eg false (EZ s (A6 e)) (.bool false))) (.v (.bool (CN s e))) (by (simp only [CX]; done)),bt (CN s e) h] func54
 | false=>rw [iN dD,iN dD,EE]; exact ef CR [av (.v (Eg false (EZ s (A6 e)) (.bool false))) (.v (.bool (CN s e))) (by (simp only [CX]; done)),bf (CN s e) h] func54
theorem V8(s:BA)(a b c d e f:List BA):Ef 54 [.mp 1,.str s] [(0,[.mm (A6 a)]),(1,[.mm (A6 b)]),(2,[.mm (A6 c)]),(3,[.mm (A6 d)]),(4,[.mm (A6 e)]),(5,[.mm (A6 f)])] (.ret (.int .i64 (Cp s b))) [(0,[.mm (A6 a)]),(1,[.mm (A6 (Dx s b))]),(2,[.mm (A6 c)]),(3,[.mm (A6 d)]),(4,[.mm (A6 e)]),(5,[.mm (A6 f)])]:=by
 unfold Cp Dx
 cases h:CN s b with
 | true=>rw [iP rfl,iP rfl]; exact ef CR [av (.v (Eg false (EZ s (A6 b)) (.bool false))) (.v (.bool (CN s b))) (by (simp only [CX]; done)),bt (CN s b) h] func54
 | false=>rw [iN dD,iN dD,EE]; exact ef CR [av (.v (Eg false (EZ s (A6 b)) (.bool false))) (.v (.bool (CN s b))) (by (simp only [CX]; done)),bf (CN s b) h] func54
theorem A2h(s:BA)(a b c d e f:List BA):Ef 54 [.mp 5,.str s] [(0,[.mm (A6 a)]),(1,[.mm (A6 b)]),(2,[.mm (A6 c)]),(3,[.mm (A6 d)]),(4,[.mm (A6 e)]),(5,[.mm (A6 f)])] (.ret (.int .i64 (Cp s f))) [(0,[.mm (A6 a)]),(1,[.mm (A6 b)]),(2,[.mm (A6 c)]),(3,[.mm (A6 d)]),(4,[.mm (A6 e)]),(5,[.mm (A6 (Dx s f))])]:=by
 unfold Cp Dx
 cases h:CN s f with
 | true=>rw [iP rfl,iP rfl]; exact ef CR [av (.v (Eg false (EZ s (A6 f)) (.bool false))) (.v (.bool (CN s f))) (by (simp only [CX]; done)),bt (CN s f) h] func54
 | false=>rw [iN dD,iN dD,EE]; exact ef CR [av (.v (Eg false (EZ s (A6 f)) (.bool false))) (.v (.bool (CN s f))) (by (simp only [CX]; done)),bf (CN s f) h] func54
theorem A2i(s:BA)(a b:List BA):Ef 54 [.mp 0,.str s] [(0,[.mm (A6 a)]),(1,[.mm (A6 b)])] (.ret (.int .i64 (Cp s a))) [(0,[.mm (A6 (Dx s a))]),(1,[.mm (A6 b)])]:=by
 unfold Cp Dx
 cases h:CN s a with
 | true=>rw [iP rfl,iP rfl]; exact ef CR [av (.v (Eg false (EZ s (A6 a)) (.bool false))) (.v (.bool (CN s a))) (by (simp only [CX]; done)),bt (CN s a) h] func54
 | false=>rw [iN dD,iN dD,EE]; exact ef CR [av (.v (Eg false (EZ s (A6 a)) (.bool false))) (.v (.bool (CN s a))) (by (simp only [CX]; done)),bf (CN s a) h] func54
theorem A2j(s:BA)(a b:List BA):Ef 54 [.mp 1,.str s] [(0,[.mm (A6 a)]),(1,[.mm (A6 b)])] (.ret (.int .i64 (Cp s b))) [(0,[.mm (A6 a)]),(1,[.mm (A6 (Dx s b))])]:=by
 unfold Cp Dx
 cases h:CN s b with
 | true=>rw [iP rfl,iP rfl]; exact ef CR [av (.v (Eg false (EZ s (A6 b)) (.bool false))) (.v (.bool (CN s b))) (by (simp only [CX]; done)),bt (CN s b) h] func54
 | false=>rw [iN dD,iN dD,EE]; exact ef CR [av (.v (Eg false (EZ s (A6 b)) (.bool false))) (.v (.bool (CN s b))) (by (simp only [CX]; done)),bf (CN s b) h] func54
def j0(x:Int):Int:=(if x=0 then 0 else x)
theorem mN(x:Int)(Ak:¬x=0):Pu 52 [.sl 1 [[pI x]]] (rI x):=
 pm An [kp,ur,bt true,kp,bt true,ab (x != 0) (Jm Ak)] func52
theorem mO(x:Int)(Ak:x=0):Pu 52 [.sl 1 [[pI x]]] (rI 0):=
 pm An [kp,ur,bt true,kp,ab true,Bp Ak,kp,bf false] func52
theorem A2k(x:Int):Pu 52 [.sl 1 [[.int .i64 x]]] (.ret (.int .i64 (j0 x))):=by
 unfold j0
 by_cases h0:x=0
 ·rw [iP h0]; (first | exact mN x h0 | exact mO x h0)
 ·rw [iN h0]; (first | exact mN x h0 | exact mO x h0)
def Ds(x y:Int):Int:=(if x=0 then (if y=0 then 0 else y) else x)
theorem aH(x y:Int)(Ak:¬x=0):Pu 52 [.sl 1 [[pI x],[pI y]]] (rI x):=
 pm An [kp,ur,bt true,kp,bt true,ab (x != 0) (Jm Ak)] func52
theorem aJ(x y:Int)(Ak:x=0)(Au:¬y=0):Pu 52 [.sl 1 [[pI x],[pI y]]] (rI y):=
 pm An [kp,ur,bt true,kp,ab true,Bp Ak,kp,bt true,kp,bt true,ab (y != 0) (Jm Au)] func52
theorem aK(x y:Int)(Ak:x=0)(Au:y=0):Pu 52 [.sl 1 [[pI x],[pI y]]] (rI 0):=
 pm An [kp,ur,bt true,kp,ab true,Bp Ak,kp,bt true,kp,ab true,Bp Au,kp,bf false] func52
theorem DI(x y:Int):Pu 52 [.sl 1 [[.int .i64 x],[.int .i64 y]]] (.ret (.int .i64 (Ds x y))):=by
 unfold Ds
 by_cases h0:x=0
 ·rw [iP h0]
  by_cases h1:y=0
  ·rw [iP h1]; (first | exact aH x y h0 h1 | exact aJ x y h0 h1 | exact aK x y h0 h1)
  ·rw [iN h1]; (first | exact aH x y h0 h1 | exact aJ x y h0 h1 | exact aK x y h0 h1)
 ·rw [iN h0]; (first | exact aH x y h0 | exact aJ x y h0 | exact aK x y h0)
def HW(x y z:Int):Int:=(if x=0 then (if y=0 then (if z=0 then 0 else z) else y) else x)
theorem V9(x y z:Int)(Ak:¬x=0):Pu 52 [.sl 1 [[pI x],[pI y],[pI z]]] (rI x):=
 pm An [kp,ur,bt true,kp,bt true,ab (x != 0) (Jm Ak)] func52
section
variable (x y z:Int) (Ak:x=0)
include x y z Ak
theorem Va(Au:¬y=0):Pu 52 [.sl 1 [[pI x],[pI y],[pI z]]] (rI y):=
 pm An [kp,ur,bt true,kp,ab true,Bp Ak,kp,bt true,kp,bt true,ab (y != 0) (Jm Au)] func52
theorem Vb(Au:y=0)(AW:¬z=0):Pu 52 [.sl 1 [[pI x],[pI y],[pI z]]] (rI z):=
 pm An [kp,ur,bt true,kp,ab true,Bp Ak,kp,bt true,kp,ab true,Bp Au,kp,bt true,kp,bt true,ab (z != 0) (Jm AW)] func52
theorem Vc(Au:y=0)(AW:z=0):Pu 52 [.sl 1 [[pI x],[pI y],[pI z]]] (rI 0):=
 pm An [kp,ur,bt true,kp,ab true,Bp Ak,kp,bt true,kp,ab true,Bp Au,kp,bt true,kp,ab true,Bp AW,kp,bf false] func52
end
theorem QA(x y z:Int):Pu 52 [.sl 1 [[.int .i64 x],[.int .i64 y],[.int .i64 z]]] (.ret (.int .i64 (HW x y z))):=by
 unfold HW
 by_cases h0:x=0
 ·rw [iP h0]
  by_cases h1:y=0
  ·rw [iP h1]
   by_cases h2:z=0
   ·rw [iP h2]; (first | exact V9 x y z h0 h1 h2 | exact Va x y z h0 h1 h2 | exact Vb x y z h0 h1 h2 | exact Vc x y z h0 h1 h2)
   ·rw [iN h2]; (first | exact V9 x y z h0 h1 h2 | exact Va x y z h0 h1 h2 | exact Vb x y z h0 h1 h2 | exact Vc x y z h0 h1 h2)
  ·rw [iN h1]; (first | exact V9 x y z h0 h1 | exact Va x y z h0 h1 | exact Vb x y z h0 h1 | exact Vc x y z h0 h1)
 ·rw [iN h0]; (first | exact V9 x y z h0 | exact Va x y z h0 | exact Vb x y z h0 | exact Vc x y z h0)
def KE(x y z u t:Int):Int:=(if x=0 then (if y=0 then (if z=0 then (if u=0 then (if t=0 then 0 else t) else u) else z) else y) else x)
section
variable (x y z u t:Int)
include x y z u t
theorem Ph(Ak:¬x=0):Pu 52 [.sl 1 [[pI x],[pI y],[pI z],[pI u],[pI t]]] (rI x):=
 pm An [kp,ur,bt true,kp,bt true,ab (x != 0) (Jm Ak)] func52
theorem Pj(Ak:x=0)(Au:¬y=0):Pu 52 [.sl 1 [[pI x],[pI y],[pI z],[pI u],[pI t]]] (rI y):=
 pm An [kp,ur,bt true,kp,ab true,Bp Ak,kp,bt true,kp,bt true,ab (y != 0) (Jm Au)] func52
theorem Pn(Ak:x=0)(Au:y=0)(AW:¬z=0):Pu 52 [.sl 1 [[pI x],[pI y],[pI z],[pI u],[pI t]]] (rI z):=
 pm An [kp,ur,bt true,kp,ab true,Bp Ak,kp,bt true,kp,ab true,Bp Au,kp,bt true,kp,bt true,ab (z != 0) (Jm AW)] func52
theorem Po(Ak:x=0)(Au:y=0)(AW:z=0)(Bt:¬u=0):Pu 52 [.sl 1 [[pI x],[pI y],[pI z],[pI u],[pI t]]] (rI u):=
 pm An [kp,ur,bt true,kp,ab true,Bp Ak,kp,bt true,kp,ab true,Bp Au,kp,bt true,kp,ab true,Bp AW,kp,bt true,kp,bt true,ab (u != 0) (Jm Bt)] func52
theorem Pp(Ak:x=0)(Au:y=0)(AW:z=0)(Bt:u=0)(CJ:¬t=0):Pu 52 [.sl 1 [[pI x],[pI y],[pI z],[pI u],[pI t]]] (rI t):=
 pm An [kp,ur,bt true,kp,ab true,Bp Ak,kp,bt true,kp,ab true,Bp Au,kp,bt true,kp,ab true,Bp AW,kp,bt true,kp,ab true,Bp Bt,kp,bt true,kp,bt true,ab (t != 0) (Jm CJ)] func52
theorem Pq(Ak:x=0)(Au:y=0)(AW:z=0)(Bt:u=0)(CJ:t=0):Pu 52 [.sl 1 [[pI x],[pI y],[pI z],[pI u],[pI t]]] (rI 0):=
 pm An [kp,ur,bt true,kp,ab true,Bp Ak,kp,bt true,kp,ab true,Bp Au,kp,bt true,kp,ab true,Bp AW,kp,bt true,kp,ab true,Bp Bt,kp,bt true,kp,ab true,Bp CJ,kp,bf false] func52
end
theorem Lq(x y z u t:Int):Pu 52 [.sl 1 [[.int .i64 x],[.int .i64 y],[.int .i64 z],[.int .i64 u],[.int .i64 t]]] (.ret (.int .i64 (KE x y z u t))):=by
 unfold KE
 by_cases h0:x=0
 ·rw [iP h0]
  by_cases h1:y=0
  ·rw [iP h1]
   by_cases h2:z=0
   ·rw [iP h2]
    by_cases h3:u=0
    ·rw [iP h3]
     by_cases h4:t=0
     ·rw [iP h4]; (first | exact Ph x y z u t h0 h1 h2 h3 h4 | exact Pj x y z u t h0 h1 h2 h3 h4 | exact Pn x y z u t h0 h1 h2 h3 h4 | exact Po x y z u t h0 h1 h2 h3 h4 | exact Pp x y z u t h0 h1 h2 h3 h4 | exact Pq x y z u t h0 h1 h2 h3 h4)
     ·rw [iN h4]; (first | exact Ph x y z u t h0 h1 h2 h3 h4 | exact Pj x y z u t h0 h1 h2 h3 h4 | exact Pn x y z u t h0 h1 h2 h3 h4 | exact Po x y z u t h0 h1 h2 h3 h4 | exact Pp x y z u t h0 h1 h2 h3 h4 | exact Pq x y z u t h0 h1 h2 h3 h4)
    ·rw [iN h3]; (first | exact Ph x y z u t h0 h1 h2 h3 | exact Pj x y z u t h0 h1 h2 h3 | exact Pn x y z u t h0 h1 h2 h3 | exact Po x y z u t h0 h1 h2 h3 | exact Pp x y z u t h0 h1 h2 h3 | exact Pq x y z u t h0 h1 h2 h3)
   ·rw [iN h2]; (first | exact Ph x y z u t h0 h1 h2 | exact Pj x y z u t h0 h1 h2 | exact Pn x y z u t h0 h1 h2 | exact Po x y z u t h0 h1 h2 | exact Pp x y z u t h0 h1 h2 | exact Pq x y z u t h0 h1 h2)
  ·rw [iN h1]; (first | exact Ph x y z u t h0 h1 | exact Pj x y z u t h0 h1 | exact Pn x y z u t h0 h1 | exact Po x y z u t h0 h1 | exact Pp x y z u t h0 h1 | exact Pq x y z u t h0 h1)
 ·rw [iN h0]; (first | exact Ph x y z u t h0 | exact Pj x y z u t h0 | exact Pn x y z u t h0 | exact Po x y z u t h0 | exact Pp x y z u t h0 | exact Pq x y z u t h0)
def BT(b:Bool)(x:Int):Int:=if b=true then x else 0
theorem DY(b:Bool)(x:Int):Pu 71 [.bool b,.int .i64 x] (.ret (.int .i64 (BT b x))):=by
 unfold BT
 cases b with
 | true=>rw [iP rfl]; exact pm An [bt true rfl] func71
 | false=>rw [iN dD]; exact pm An [bf false rfl] func71
theorem IT(m:Mo)(s:BA):Pu 53 [.agg (wL m),.str s] (rI (AU (Ac s))):=
 pm CR [bf false,cl (@A81 (s))] func53
theorem T0(m:Mo)(s:BA):Pu 70 [.agg (wL m),.str s] (rI (AU (AL s))):=
 pm CR [bf false,cl (@A84 (s))] func70
theorem gX{α:Type} [Inhabited α] {l:List α} {i:Nat} (h:i<l.length):l.getD i default∈l:=Bk h
def Gz{α:Type}(gc:Nat->α->PV)(z:Nat)(x:α):List PV:=(List.range z).map fun i=>gc i x
def LQ{α σ:Type}(ge:Nat->α->σ->Int)(gs:Nat->α->σ->σ):List α->Nat->σ->Int × σ
 | [],_,st=>(0,st)
 | x::r,i,st=>if ge i x st=0 then LQ ge gs r (i+1) (gs i x st) else (ge i x st,gs i x st)
structure EI where
 F:Nat
 z:Nat
 a:Bool
 fn:Func
 hf:prog.funcs[F]?=some fn
def aL{α:Type}(q:EI)(gc:Nat->α->PV)(w:α):PV:=match q.a with
 | true => .agg (Gz gc q.z w)
 | false=>gc 0 w
abbrev eS(g:Nat)(Aa:List PV)(z:Nat)(cs:List (List PV))(len r j:Int)(e:Ext):S:=⟨[(1,.v (.fn (.func g) [] Aa)),(4,.v (.int .i64 r)),(8,.v (.sl z cs)),(9,.v (.int .i64 len)),(10,.v (.int .i64 j))],[],e⟩
abbrev eQ(g:Nat)(Aa:List PV)(z:Nat)(cs:List (List PV))(len r:Int)(e:Ext):S:=⟨[(1,.v (.fn (.func g) [] Aa)),(4,.v (.int .i64 r)),(8,.v (.sl z cs)),(9,.v (.int .i64 len))],[],e⟩
noncomputable def eL {α:Type} (q:EI) (gc:Nat->α->PV) (w:α) (cs:List (List PV)) (i len:Int) (g:Nat) (Aa:List PV) (r:Int) (e e':Ext) (h1:i<len) (h2:(0:Int)<=i/\i<(cs.length:Int)) (h3:cs.getD i.toNat []=Gz gc q.z w) (h4:Ef g (.int .i64 i::aL q gc w::Aa) e (.ret (.int .i64 r)) e'):List (Ew prog):=
 [E9 h1,am1 h2,ar (cs.getD i.toNat []) (Gz gc q.z w) (by rw [h3]),ce h4]
structure EK (q:EI):Prop where
 k1:∀ {α:Type} (gc:Nat->α->PV) (w:α) (cs:List (List PV)) (i len:Int) (g:Nat) (Aa:List PV) (r:Int) (e e':Ext) (h1:i<len) (h2:(0:Int)<=i/\i<(cs.length:Int)) (h3:cs.getD i.toNat []=Gz gc q.z w) (h4:Ef g (.int .i64 i::aL q gc w::Aa) e (.ret (.int .i64 r)) e') (h5:r=0) (h6:i+1<=9223372036854775807),
  (DW prog An 23 50 (Am q.fn 0) (eS g Aa q.z cs len 0 i e) (Om (eL q gc w cs i len g Aa r e e' h1 h2 h3 h4++[Bp h5,wr (i+1)]))).BK [1,4,8,9,10] [] = .ok (.normal,eS g Aa q.z cs len 0 (i+1) e') [] (TL (eL q gc w cs i len g Aa r e e' h1 h2 h3 h4++[Bp h5,wr (i+1)]))
 k2:∀ {α:Type} (gc:Nat->α->PV) (w:α) (cs:List (List PV)) (i len:Int) (g:Nat) (Aa:List PV) (r:Int) (e e':Ext) (h1:i<len) (h2:(0:Int)<=i/\i<(cs.length:Int)) (h3:cs.getD i.toNat []=Gz gc q.z w) (h4:Ef g (.int .i64 i::aL q gc w::Aa) e (.ret (.int .i64 r)) e') (h5:¬r=0),
  (DW prog An 23 50 (Am q.fn 0) (eS g Aa q.z cs len 0 i e) (Om (eL q gc w cs i len g Aa r e e' h1 h2 h3 h4++[D3 h5]))).BK [1,4,8,9] [] = .ok (.ret,eQ g Aa q.z cs len r e') [] (TL (eL q gc w cs i len g Aa r e e' h1 h2 h3 h4++[D3 h5]))
 k3:∀ (cs:List (List PV)) (i len:Int) (g:Nat) (Aa:List PV) (e:Ext) (h:¬i<len),(DW prog An 23 50 (Am q.fn 0) (eS g Aa q.z cs len 0 i e) (Om (P:=prog) [df (i<len) h])).BK [1,4,8,9] [] = .ok (.exit 0,eQ g Aa q.z cs len 0 e) [] (TL (P:=prog) [df (i<len) h])
 k4:∀ (cs:List (List PV)) (len:Nat) (hl:cs.length=len) (g:Nat) (Aa:List PV) (r:Int) (e e':Ext) (h:(Ob.loop 23 (Am q.fn 0) (eS g Aa q.z cs len 0 0 e) .ret (eQ g Aa q.z cs len r e')).ok prog) (hle:Ol (eS g Aa q.z cs len 0 0 e) ⟨(0,.v (.sl q.z cs))::(eS g Aa q.z cs len 0 0 e).tmps,[],e⟩),
  Qi prog An 50 q.fn [.sl q.z cs,.fn (.func g) [] Aa] e (Om (P:=prog) [sl hl,lp ⟨(0,.v (.sl q.z cs))::(eS g Aa q.z cs len 0 0 e).tmps,[],e⟩ h hle]) = .ok (.ret (.int .i64 r),e') [] (TL (P:=prog) [sl hl,lp ⟨(0,.v (.sl q.z cs))::(eS g Aa q.z cs len 0 0 e).tmps,[],e⟩ h hle])
 k5:∀ (cs:List (List PV)) (len:Nat) (hl:cs.length=len) (g:Nat) (Aa:List PV) (e e':Ext) (h:(Ob.loop 23 (Am q.fn 0) (eS g Aa q.z cs len 0 0 e) (.exit 0) (eQ g Aa q.z cs len 0 e')).ok prog) (hle:Ol (eS g Aa q.z cs len 0 0 e) ⟨(0,.v (.sl q.z cs))::(eS g Aa q.z cs len 0 0 e).tmps,[],e⟩),
  Qi prog An 50 q.fn [.sl q.z cs,.fn (.func g) [] Aa] e (Om (P:=prog) [sl hl,lp ⟨(0,.v (.sl q.z cs))::(eS g Aa q.z cs len 0 0 e).tmps,[],e⟩ h hle]) = .ok (.ret (.int .i64 0),e') [] (TL (P:=prog) [sl hl,lp ⟨(0,.v (.sl q.z cs))::(eS g Aa q.z cs len 0 0 e).tmps,[],e⟩ h hle])
 k6:(Fl prog q.F&&JR q.fn)=true
 k7:BZ 23 (Am q.fn 0)=true
noncomputable def Pt:List EI:=[⟨124,1,false,f124,func124⟩,⟨78,9,true,f78,func78⟩,⟨244,10,true,f244,func244⟩,⟨209,9,true,f209,func209⟩,⟨91,6,true,f91,func91⟩,⟨148,2,true,f148,func148⟩,⟨44,12,true,f44,func44⟩,⟨73,2,true,f73,func73⟩,⟨150,2,true,f150,func150⟩,⟨152,10,true,f152,func152⟩,⟨76,3,true,f76,func76⟩,⟨83,10,true,f83,func83⟩,⟨38,4,true,f38,func38⟩,⟨41,3,true,f41,func41⟩,⟨47,8,true,f47,func47⟩,⟨50,6,true,f50,func50⟩,⟨56,25,true,f56,func56⟩,⟨211,7,true,f211,func211⟩]
theorem tF:∀q∈Pt,EK q:=by
 intro q hq
 simp only [Pt,List.mem_cons,List.not_mem_nil,or_false] at hq
 rcases hq with rfl | rfl | rfl | rfl | rfl | rfl | rfl | rfl | rfl | rfl | rfl | rfl | rfl | rfl | rfl | rfl | rfl | rfl <;>
 exact ⟨by intros; kernel_rfl,by intros; kernel_rfl,by intros; kernel_rfl,by intros; kernel_rfl,by intros; kernel_rfl,by kernel_rfl,by kernel_rfl⟩
theorem j3{α:Type} [Inhabited α] (gc:Nat->α->PV) (z:Nat) {l:List α} {i:Nat} (h:i<l.length):(l.map (Gz gc z)).getD i []=Gz gc z (l.getD i default):=by simp [List.getD,h]
theorem Ey(q:EI)(hq:q∈Pt){α σ:Type} [Inhabited α] (gc:Nat->α->PV) (l:List α) (g:Nat) (Aa:List PV) (X:σ->Ext) (ge:Nat->α->σ->Int) (gs:Nat->α->σ->σ) (BY:∀ (i:Nat) (w:α) (st:σ),w∈l->Ef g (.int .i64 (i:Int)::aL q gc w::Aa) (X st) (.ret (.int .i64 (ge i w st))) (X (gs i w st))) (hN:l.length<=1000000000) (st:σ) :
  Ef q.F [.sl q.z (l.map (Gz gc q.z)),.fn (.func g) [] Aa] (X st) (.ret (.int .i64 (LQ ge gs l 0 st).1)) (X (LQ ge gs l 0 st).2):=by
 have K:=tF q hq
 have hlen:(l.map (Gz gc q.z)).length=l.length:=List.length_map _
 have lp:(Ob.loop 23 (Am q.fn 0) (eS g Aa q.z (l.map (Gz gc q.z)) l.length 0 ((0:Nat):Int) (X st)) (if (LQ ge gs (l.drop 0) 0 st).1=0 then A7.exit 0 else .ret) (eQ g Aa q.z (l.map (Gz gc q.z)) l.length (LQ ge gs (l.drop 0) 0 st).1 (X (LQ ge gs (l.drop 0) 0 st).2))).ok prog:=by
  refine Ob.G9 (P:=prog) (α:={ zz:Nat × σ // zz.1<=l.length }) (fun zz=>eS g Aa q.z (l.map (Gz gc q.z)) l.length 0 (zz.1.1:Int) (X zz.1.2)) (fun zz=>l.length - zz.1.1) (fun zz=>(if (LQ ge gs (l.drop zz.1.1) zz.1.1 zz.1.2).1=0 then A7.exit 0 else .ret,eQ g Aa q.z (l.map (Gz gc q.z)) l.length (LQ ge gs (l.drop zz.1.1) zz.1.1 zz.1.2).1 (X (LQ ge gs (l.drop zz.1.1) zz.1.1 zz.1.2).2))) ?_ ⟨(0,st),Nat.zero_le _⟩
  clear st
  rintro ⟨⟨i,st⟩,hi⟩ cx AH
  simp only at hi ⊢
  rcases Nat.lt_or_ge i l.length with Ad | Dm
  ·have hd:=AN Ad
   have hw:=BY i (l.getD i default) st (gX Ad)
   have h2:(0:Int)<=(i:Int)/\(i:Int)<((l.map (Gz gc q.z)).length:Int):=by rw [hlen]; omega
   have h3:(l.map (Gz gc q.z)).getD ((i:Int)).toNat []=Gz gc q.z (l.getD i default):=by rw [Int.toNat_natCast]; exact j3 gc q.z Ad
   by_cases h0:ge i (l.getD i default) st=0
   ·have hr:LQ ge gs (l.drop i) i st=LQ ge gs (l.drop (i+1)) (i+1) (gs i (l.getD i default) st):=by rw [hd,LQ,iP h0]
    exact pw An 23 _ [1,4,8,9,10] [] AH (.inl ⟨rfl,⟨(i+1,gs i (l.getD i default) st),by simp only; omega⟩,by simp only; omega,⟨⟨W,W,W,W,W,Ar⟩,trivial,rfl⟩,by simp only; rw [hr]⟩) K.k7 (K.k1 gc (l.getD i default) _ i l.length g Aa _ (X st) _ oM h2 h3 hw h0 oM)
   ·have hr:LQ ge gs (l.drop i) i st=(ge i (l.getD i default) st,gs i (l.getD i default) st):=by rw [hd,LQ,iN h0]
    refine pw An 23 _ [1,4,8,9] [] AH (.inr ?_) K.k7 (K.k2 gc (l.getD i default) _ i l.length g Aa _ (X st) _ oM h2 h3 hw h0)
    rw [hr]
    simp only [iN h0]
    exact ⟨by simp,trivial,⟨⟨W,W,W,W,Ar⟩,trivial,rfl⟩⟩
  ·have he:i=l.length:=by omega
   subst he
   have hr:LQ ge gs (l.drop l.length) l.length st=(0,st):=by rw [List.drop_length,LQ]
   refine pw An 23 _ [1,4,8,9] [] AH (.inr ?_) K.k7 (K.k3 _ _ l.length g Aa (X st) oM)
   rw [hr]
   exact ⟨by simp,rfl,xr⟩
 rw [List.drop_zero] at lp
 have hle:Ol (eS g Aa q.z (l.map (Gz gc q.z)) l.length 0 0 (X st)) ⟨(0,.v (.sl q.z (l.map (Gz gc q.z))))::(eS g Aa q.z (l.map (Gz gc q.z)) l.length 0 0 (X st)).tmps,[],X st⟩:=⟨⟨W,W,W,W,W,Ar⟩,trivial,rfl⟩
 by_cases h:(LQ ge gs l 0 st).1=0
 ·rw [iP h] at lp
  rw [h] at lp ⊢
  exact ef An _ q.hf K.k6 (K.k5 _ _ hlen g Aa (X st) _ lp hle)
 ·rw [iN h] at lp
  exact ef An _ q.hf K.k6 (K.k4 _ _ hlen g Aa _ (X st) _ lp hle)
theorem mP{α:Type}(ge:α->Int):∀ (l:List α) (i:Nat),(LQ (fun _ x (_:Unit)=>ge x) (fun _ _ _=>()) l i ()).1=BP ge l
 | [],_=>rfl
 | x::r,i=>by
  have ih:=mP ge r (i+1)
  by_cases h:ge x=0
  ·simp only [LQ,BP,h,if_true]; exact ih
  ·simp only [LQ,BP,h,if_false]
theorem IU(q:EI)(hq:q∈Pt){α:Type} [Inhabited α] (gc:Nat->α->PV) (l:List α) (g:Nat) (Aa:List PV) (ge:α->Int) (BY:∀ (k:Int) (w:α),w∈l->Pu g (.int .i64 k::aL q gc w::Aa) (.ret (.int .i64 (ge w)))) (hN:l.length<=1000000000) :
  Pu q.F [.sl q.z (l.map (Gz gc q.z)),.fn (.func g) [] Aa] (.ret (.int .i64 (BP ge l))):=by
 have h:=fun e=>Ey q hq gc l g Aa (fun _:Unit=>e) (fun _ x _=>ge x) (fun _ _ _=>()) (fun i w _ hw=>⟨(BY i w hw).1,(BY i w hw).2 e⟩) hN ()
 rw [<-mP ge l 0]
 exact ⟨(h []).1,fun e=>(h e).2⟩
structure St where
 a:List BA
 b:List BA
 c:List BA
 d:List BA
 f:List BA
 g:List BA
instance:Inhabited St:=⟨⟨[],[],[],[],[],[]⟩⟩
def E7{α:Type}(ge:α->St->Int)(gs:α->St->St):List α->St->Int × St
 | [],st=>(0,st)
 | x::r,st=>if ge x st=0 then E7 ge gs r (gs x st) else (ge x st,gs x st)
theorem IV{α:Type}(ge:α->St->Int)(gs:α->St->St):∀ (l:List α) (i:Nat) (st:St),LQ (fun _ x st=>ge x st) (fun _ x st=>gs x st) l i st=E7 ge gs l st
 | [],_,_=>rfl
 | x::r,i,st=>by
  have ih:=IV ge gs r (i+1) (gs x st)
  by_cases h:ge x st=0
  ·simp only [LQ,E7,h,if_true]; exact ih
  ·simp only [LQ,E7,h,if_false]
theorem DP{α:Type}(mk:α->List PV)(z:Nat)(h:∀x,Gz (fun i x=>(mk x).getD i .Dy) z x=mk x)(l:List α):l.map (Gz (fun i x=>(mk x).getD i .Dy) z)=l.map mk:=by simp only [funext h]
theorem eM{n:Nat}{q:EI}(h:Pt[n]?=some q):q∈Pt:=List.mem_of_getElem? h
theorem A2l(l:List BA)(g:Nat)(Aa:List PV)(ge:BA->Int)(BY:∀ (k:Int) (w:BA),w∈l->Pu g (.int .i64 k :: .str w::Aa) (.ret (.int .i64 (ge w))))(hN:l.length<=1000000000):Pu 124 [.sl 1 (A1 l),.fn (.func g) [] Aa] (.ret (.int .i64 (BP ge l))):=by
 have h:=IU ⟨124,1,false,f124,func124⟩ (eM (n:=0) rfl) (fun i x=>((fun s:BA=>[PV.str s]) x).getD i .Dy) l g Aa ge (fun k w hw=>BY k w hw) hN
 rw [DP (fun s:BA=>[PV.str s]) 1 (fun _=>rfl) l,<-Fx] at h
 exact h
theorem tG(l:List Tp)(g:Nat)(Aa:List PV)(ge:Tp->Int)(BY:∀ (k:Int) (w:Tp),w∈l->Pu g (.int .i64 k :: .agg (BI w)::Aa) (.ret (.int .i64 (ge w))))(hN:l.length<=1000000000):Pu 78 [.sl 9 (Tp.cs l),.fn (.func g) [] Aa] (.ret (.int .i64 (BP ge l))):=by
 have h:=IU ⟨78,9,true,f78,func78⟩ (eM (n:=1) rfl) (fun i x=>(BI x).getD i .Dy) l g Aa ge (fun k w hw=>BY k w hw) hN
 rw [DP BI 9 (fun _=>rfl) l,<-Tp.Ay] at h
 exact h
theorem A88(l:List Pm)(g:Nat)(Aa:List PV)(ge:Pm->Int)(BY:∀ (k:Int) (w:Pm),w∈l->Pu g (.int .i64 k :: .agg (KW w)::Aa) (.ret (.int .i64 (ge w))))(hN:l.length<=1000000000):Pu 244 [.sl 10 (Pm.cs l),.fn (.func g) [] Aa] (.ret (.int .i64 (BP ge l))):=by
 have h:=IU ⟨244,10,true,f244,func244⟩ (eM (n:=2) rfl) (fun i x=>(KW x).getD i .Dy) l g Aa ge (fun k w hw=>BY k w hw) hN
 rw [DP KW 10 (fun _=>rfl) l,<-Pm.Ay] at h
 exact h
theorem A2m(l:List Al)(g:Nat)(Aa:List PV)(ge:Al->Int)(BY:∀ (k:Int) (w:Al),w∈l->Pu g (.int .i64 k :: .agg (I4 w)::Aa) (.ret (.int .i64 (ge w))))(hN:l.length<=1000000000):Pu 209 [.sl 9 (Al.cs l),.fn (.func g) [] Aa] (.ret (.int .i64 (BP ge l))):=by
 have h:=IU ⟨209,9,true,f209,func209⟩ (eM (n:=3) rfl) (fun i x=>(I4 x).getD i .Dy) l g Aa ge (fun k w hw=>BY k w hw) hN
 rw [DP I4 9 (fun _=>rfl) l,<-Al.Ay] at h
 exact h
theorem A89(l:List Cs)(g:Nat)(Aa:List PV)(ge:Cs->Int)(BY:∀ (k:Int) (w:Cs),w∈l->Pu g (.int .i64 k :: .agg (R4 w)::Aa) (.ret (.int .i64 (ge w))))(hN:l.length<=1000000000):Pu 91 [.sl 6 (Cs.cs l),.fn (.func g) [] Aa] (.ret (.int .i64 (BP ge l))):=by
 have h:=IU ⟨91,6,true,f91,func91⟩ (eM (n:=4) rfl) (fun i x=>(R4 x).getD i .Dy) l g Aa ge (fun k w hw=>BY k w hw) hN
 rw [DP R4 6 (fun _=>rfl) l,<-Cs.Ay] at h
 exact h
theorem A8a(l:List Vr)(g:Nat)(Aa:List PV)(ge:Vr->Int)(BY:∀ (k:Int) (w:Vr),w∈l->Pu g (.int .i64 k :: .agg (O5 w)::Aa) (.ret (.int .i64 (ge w))))(hN:l.length<=1000000000):Pu 148 [.sl 2 (Vr.cs l),.fn (.func g) [] Aa] (.ret (.int .i64 (BP ge l))):=by
 have h:=IU ⟨148,2,true,f148,func148⟩ (eM (n:=5) rfl) (fun i x=>(O5 x).getD i .Dy) l g Aa ge (fun k w hw=>BY k w hw) hN
 rw [DP O5 2 (fun _=>rfl) l,<-Vr.Ay] at h
 exact h
theorem A8b(l:List In)(g:Nat)(Aa:List PV)(ge:In->Int)(BY:∀ (k:Int) (w:In),w∈l->Pu g (.int .i64 k :: .agg (Oo w)::Aa) (.ret (.int .i64 (ge w))))(hN:l.length<=1000000000):Pu 44 [.sl 12 (In.cs l),.fn (.func g) [] Aa] (.ret (.int .i64 (BP ge l))):=by
 have h:=IU ⟨44,12,true,f44,func44⟩ (eM (n:=6) rfl) (fun i x=>(Oo x).getD i .Dy) l g Aa ge (fun k w hw=>BY k w hw) hN
 rw [DP Oo 12 (fun _=>rfl) l,<-In.Ay] at h
 exact h
theorem A8c(l:List Vr)(g:Nat)(Aa:List PV)(X:St->Ext)(ge:Vr->St->Int)(gs:Vr->St->St)(BY:∀ (k:Int) (w:Vr) (st:St),w∈l->Ef g (.int .i64 k :: .agg (O5 w)::Aa) (X st) (.ret (.int .i64 (ge w st))) (X (gs w st)))(s0:St)(hN:l.length<=1000000000):Ef 73 [.sl 2 (Vr.cs l),.fn (.func g) [] Aa] (X s0) (.ret (.int .i64 (E7 ge gs l s0).1)) (X (E7 ge gs l s0).2):=by
 have h:=Ey ⟨73,2,true,f73,func73⟩ (eM (n:=7) rfl) (fun i x=>(O5 x).getD i .Dy) l g Aa X (fun _ x st=>ge x st) (fun _ x st=>gs x st) (fun k w st hw=>BY k w st hw) hN s0
 rw [IV,DP O5 2 (fun _=>rfl) l,<-Vr.Ay] at h
 exact h
theorem A8d(l:List Vr)(g:Nat)(Aa:List PV)(X:St->Ext)(ge:Vr->St->Int)(gs:Vr->St->St)(BY:∀ (k:Int) (w:Vr) (st:St),w∈l->Ef g (.int .i64 k :: .agg (O5 w)::Aa) (X st) (.ret (.int .i64 (ge w st))) (X (gs w st)))(s0:St)(hN:l.length<=1000000000):Ef 150 [.sl 2 (Vr.cs l),.fn (.func g) [] Aa] (X s0) (.ret (.int .i64 (E7 ge gs l s0).1)) (X (E7 ge gs l s0).2):=by
 have h:=Ey ⟨150,2,true,f150,func150⟩ (eM (n:=8) rfl) (fun i x=>(O5 x).getD i .Dy) l g Aa X (fun _ x st=>ge x st) (fun _ x st=>gs x st) (fun k w st hw=>BY k w st hw) hN s0
 rw [IV,DP O5 2 (fun _=>rfl) l,<-Vr.Ay] at h
 exact h
theorem A8e(l:List Bo)(g:Nat)(Aa:List PV)(X:St->Ext)(ge:Bo->St->Int)(gs:Bo->St->St)(BY:∀ (k:Int) (w:Bo) (st:St),w∈l->Ef g (.int .i64 k :: .agg (WG w)::Aa) (X st) (.ret (.int .i64 (ge w st))) (X (gs w st)))(s0:St)(hN:l.length<=1000000000):Ef 152 [.sl 10 (Bo.cs l),.fn (.func g) [] Aa] (X s0) (.ret (.int .i64 (E7 ge gs l s0).1)) (X (E7 ge gs l s0).2):=by
 have h:=Ey ⟨152,10,true,f152,func152⟩ (eM (n:=9) rfl) (fun i x=>(WG x).getD i .Dy) l g Aa X (fun _ x st=>ge x st) (fun _ x st=>gs x st) (fun k w st hw=>BY k w st hw) hN s0
 rw [IV,DP WG 10 (fun _=>rfl) l,<-Bo.Ay] at h
 exact h
theorem A8f(l:List Cn)(g:Nat)(Aa:List PV)(X:St->Ext)(ge:Cn->St->Int)(gs:Cn->St->St)(BY:∀ (k:Int) (w:Cn) (st:St),w∈l->Ef g (.int .i64 k :: .agg (KX w)::Aa) (X st) (.ret (.int .i64 (ge w st))) (X (gs w st)))(s0:St)(hN:l.length<=1000000000):Ef 76 [.sl 3 (Cn.cs l),.fn (.func g) [] Aa] (X s0) (.ret (.int .i64 (E7 ge gs l s0).1)) (X (E7 ge gs l s0).2):=by
 have h:=Ey ⟨76,3,true,f76,func76⟩ (eM (n:=10) rfl) (fun i x=>(KX x).getD i .Dy) l g Aa X (fun _ x st=>ge x st) (fun _ x st=>gs x st) (fun k w st hw=>BY k w st hw) hN s0
 rw [IV,DP KX 3 (fun _=>rfl) l,<-Cn.Ay] at h
 exact h
theorem A8g(l:List Pm)(g:Nat)(Aa:List PV)(X:St->Ext)(ge:Pm->St->Int)(gs:Pm->St->St)(BY:∀ (k:Int) (w:Pm) (st:St),w∈l->Ef g (.int .i64 k :: .agg (KW w)::Aa) (X st) (.ret (.int .i64 (ge w st))) (X (gs w st)))(s0:St)(hN:l.length<=1000000000):Ef 83 [.sl 10 (Pm.cs l),.fn (.func g) [] Aa] (X s0) (.ret (.int .i64 (E7 ge gs l s0).1)) (X (E7 ge gs l s0).2):=by
 have h:=Ey ⟨83,10,true,f83,func83⟩ (eM (n:=11) rfl) (fun i x=>(KW x).getD i .Dy) l g Aa X (fun _ x st=>ge x st) (fun _ x st=>gs x st) (fun k w st hw=>BY k w st hw) hN s0
 rw [IV,DP KW 10 (fun _=>rfl) l,<-Pm.Ay] at h
 exact h
theorem A8h(l:List Da)(g:Nat)(Aa:List PV)(X:St->Ext)(ge:Da->St->Int)(gs:Da->St->St)(BY:∀ (k:Int) (w:Da) (st:St),w∈l->Ef g (.int .i64 k :: .agg (EO w)::Aa) (X st) (.ret (.int .i64 (ge w st))) (X (gs w st)))(s0:St)(hN:l.length<=1000000000):Ef 38 [.sl 4 (Da.cs l),.fn (.func g) [] Aa] (X s0) (.ret (.int .i64 (E7 ge gs l s0).1)) (X (E7 ge gs l s0).2):=by
 have h:=Ey ⟨38,4,true,f38,func38⟩ (eM (n:=12) rfl) (fun i x=>(EO x).getD i .Dy) l g Aa X (fun _ x st=>ge x st) (fun _ x st=>gs x st) (fun k w st hw=>BY k w st hw) hN s0
 rw [IV,DP EO 4 (fun _=>rfl) l,<-Da.Ay] at h
 exact h
theorem A8i(l:List Cl)(g:Nat)(Aa:List PV)(X:St->Ext)(ge:Cl->St->Int)(gs:Cl->St->St)(BY:∀ (k:Int) (w:Cl) (st:St),w∈l->Ef g (.int .i64 k :: .agg (Lm w)::Aa) (X st) (.ret (.int .i64 (ge w st))) (X (gs w st)))(s0:St)(hN:l.length<=1000000000):Ef 41 [.sl 3 (Cl.cs l),.fn (.func g) [] Aa] (X s0) (.ret (.int .i64 (E7 ge gs l s0).1)) (X (E7 ge gs l s0).2):=by
 have h:=Ey ⟨41,3,true,f41,func41⟩ (eM (n:=13) rfl) (fun i x=>(Lm x).getD i .Dy) l g Aa X (fun _ x st=>ge x st) (fun _ x st=>gs x st) (fun k w st hw=>BY k w st hw) hN s0
 rw [IV,DP Lm 3 (fun _=>rfl) l,<-Cl.Ay] at h
 exact h
theorem A8j(l:List Ms)(g:Nat)(Aa:List PV)(X:St->Ext)(ge:Ms->St->Int)(gs:Ms->St->St)(BY:∀ (k:Int) (w:Ms) (st:St),w∈l->Ef g (.int .i64 k :: .agg (M7 w)::Aa) (X st) (.ret (.int .i64 (ge w st))) (X (gs w st)))(s0:St)(hN:l.length<=1000000000):Ef 47 [.sl 8 (Ms.cs l),.fn (.func g) [] Aa] (X s0) (.ret (.int .i64 (E7 ge gs l s0).1)) (X (E7 ge gs l s0).2):=by
 have h:=Ey ⟨47,8,true,f47,func47⟩ (eM (n:=14) rfl) (fun i x=>(M7 x).getD i .Dy) l g Aa X (fun _ x st=>ge x st) (fun _ x st=>gs x st) (fun k w st hw=>BY k w st hw) hN s0
 rw [IV,DP M7 8 (fun _=>rfl) l,<-Ms.Ay] at h
 exact h
theorem A8k(l:List Qu)(g:Nat)(Aa:List PV)(X:St->Ext)(ge:Qu->St->Int)(gs:Qu->St->St)(BY:∀ (k:Int) (w:Qu) (st:St),w∈l->Ef g (.int .i64 k :: .agg (WH w)::Aa) (X st) (.ret (.int .i64 (ge w st))) (X (gs w st)))(s0:St)(hN:l.length<=1000000000):Ef 50 [.sl 6 (Qu.cs l),.fn (.func g) [] Aa] (X s0) (.ret (.int .i64 (E7 ge gs l s0).1)) (X (E7 ge gs l s0).2):=by
 have h:=Ey ⟨50,6,true,f50,func50⟩ (eM (n:=15) rfl) (fun i x=>(WH x).getD i .Dy) l g Aa X (fun _ x st=>ge x st) (fun _ x st=>gs x st) (fun k w st hw=>BY k w st hw) hN s0
 rw [IV,DP WH 6 (fun _=>rfl) l,<-Qu.Ay] at h
 exact h
theorem A8l(l:List Df)(g:Nat)(Aa:List PV)(X:St->Ext)(ge:Df->St->Int)(gs:Df->St->St)(BY:∀ (k:Int) (w:Df) (st:St),w∈l->Ef g (.int .i64 k :: .agg (CZ w)::Aa) (X st) (.ret (.int .i64 (ge w st))) (X (gs w st)))(s0:St)(hN:l.length<=1000000000):Ef 56 [.sl 25 (Df.cs l),.fn (.func g) [] Aa] (X s0) (.ret (.int .i64 (E7 ge gs l s0).1)) (X (E7 ge gs l s0).2):=by
 have h:=Ey ⟨56,25,true,f56,func56⟩ (eM (n:=16) rfl) (fun i x=>(CZ x).getD i .Dy) l g Aa X (fun _ x st=>ge x st) (fun _ x st=>gs x st) (fun k w st hw=>BY k w st hw) hN s0
 rw [IV,DP CZ 25 (fun _=>rfl) l,<-Df.Ay] at h
 exact h
theorem A8m(l:List Df)(g:Nat)(Aa:List PV)(ge:Df->Int)(BY:∀ (k:Int) (w:Df),w∈l->Pu g (.int .i64 k :: .agg (CZ w)::Aa) (.ret (.int .i64 (ge w))))(hN:l.length<=1000000000):Pu 56 [.sl 25 (Df.cs l),.fn (.func g) [] Aa] (.ret (.int .i64 (BP ge l))):=by
 have h:=IU ⟨56,25,true,f56,func56⟩ (eM (n:=16) rfl) (fun i x=>(CZ x).getD i .Dy) l g Aa ge (fun k w hw=>BY k w hw) hN
 rw [DP CZ 25 (fun _=>rfl) l,<-Df.Ay] at h
 exact h
end Go.Proofs.YtmllcplaohkjnaaGreatDoor
