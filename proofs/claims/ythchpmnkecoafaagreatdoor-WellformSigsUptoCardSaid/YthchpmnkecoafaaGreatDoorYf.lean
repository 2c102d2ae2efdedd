/- Values of Go as plain data, an evaluator over them, and what the functions of the program return; part Yf. -/
import Derived.Test.YthchpmnkecoafaaGreatDoorYe
import Derived.Test.YthchpmnkecoafaaGreatDoorYd
import Derived.Test.YthchpmnkecoafaaGreatDoorYa
import Derived.Test.YthchpmnkecoafaaGreatDoorXh
set_option linter.unusedSectionVars false
set_option linter.unusedSimpArgs false
set_option linter.unusedVariables false
namespace Go.Proofs.YthchpmnkecoafaaGreatDoor
open Go.Proofs.Tryz
open Go.Pv Go.Proofs.Tryz
set_option maxRecDepth 100000
theorem Agq(u:Pr)(h:Dj u=true):Bn u (Bw u)=true:=by
 unfold Dj at h
 unfold Bn
 by_cases h0:Af u<1
 ·rw [iP h0]
 ·rw [iN h0] at h ⊢; rw [iP (of_decide_eq_true h)]
theorem A98(u:Pr):Je u=BG u:=by
 unfold Je BG
 cases h1:Dj u with
 | true=>rw [iP (Agq u h1),iP rfl]
 | false=>
  rw [<-Agn u h1]
  simp only [Bool.false_eq_true,if_false]
  cases h4:AY u (Ao (Af u)) (Ap (Af u)) with
  | true=>rfl
  | false=>
   simp only [Bool.false_eq_true,if_false]
   rw [<-Ago u (Ao (Af u)) (Ap (Af u)) (Bw u)]
   cases h6:CI u (Ao (Af u)) (Ap (Af u)) with
   | true=>rfl
   | false=>
    simp only [Bool.false_eq_true,if_false]
    have hc:=Agp u (Ao (Af u)) (Ap (Af u))
    cases h8:Ch u (Ao (Af u)) (Ap (Af u)) with
    | false=>
     have:¬EI u=false:=fun hh=>by have:=(hc.2 hh).1; rw [h8] at this; cases this
     rw [iN this]; rfl
    | true=>
     simp only [if_true]
     by_cases hr:EI u=false
     ·rw [iP hr,iP (hc.2 hr).2]
     ·rw [iN hr,iN (fun hh=>hr (hc.1 ⟨h8,hh⟩))]; rfl
theorem A2a(u:Pr):Pu 187 [.agg (AN u)] (.ret (.int .i64 (BG u))):=by rw [<-A98]; exact rnd u
abbrev rW(u:Pr)(Ca:Pr->Int)(j:Int)(n:Int)(e:Ext):S:=S.mk [(2,A6 0),(3,A6 n),(7,vL 4 (Pr.cs (Av u))),(8,A6 ((Av u).length:Int)),(9,A6 j)] [] e
def Ld(Ca:Pr->Int):List Pr->(Int)->(Int)
 | [],n=>(n)
 | el::r,n=>Ld Ca r (IntKind.wrap .i64 (n+Ca el))
def cF(u:Pr)(Ca:Pr->Int)(e:Ext)(p:(Int)):A4 × S:=(.exit 0,S.mk [(2,A6 0),(3,A6 p),(7,vL 4 (Pr.cs (Av u))),(8,A6 ((Av u).length:Int))] [] e)
theorem rNo(u:Pr)(Ca:Pr->Int)(BM:∀w:Pr,w∈Av u->Pu 142 [.agg (AN w)] (.ret (.int .i64 (Ca w))))(n:Int)(e:Ext)(hN:(Av u).length<=1000000000)  : (Ob.loop 19 (Au f142 0) (rW u Ca 0 n e) (cF u Ca e (Ld Ca ((Av u))  n)).1 (cF u Ca e (Ld Ca ((Av u))  n)).2).ok prog:=by
 refine CL ((Av u).length) (fun j n=>rW u Ca j n e) (fun i n=>Ld Ca (List.drop i ((Av u)))  n) (cF u Ca e) (fun i n=>True) kR ?_ n trivial
 rintro i n hi -
 rcases Nat.lt_or_ge i ((Av u).length) with Ac | Cm
 ·have hd:=At Ac
  exact lN A9 [dt ((i:Int)<((Av u).length:Int)),FG (Av u) (i:Int),My (Av u) i Ac,cl (@BM (List.getD (Av u) i default) (by simp_all)),kp,wr ((i:Int)+1)] Ac (IntKind.wrap .i64 (n+Ca (List.getD (Av u) i default))) trivial (by rw [hd,Ld])
 ·have he:i=(Av u).length:=by omega
  exact lX A9 [df ((i:Int)<((Av u).length:Int))] (n) (by rw [he,List.drop_length,Ld])
theorem Agr(u:Pr)(Ca:Pr->Int)(BM:∀w:Pr,w∈Av u->Pu 142 [.agg (AN w)] (.ret (.int .i64 (Ca w))))(hN:(Av u).length<=1000000000):Pu 142 [.agg (AN u)] (rI (Ld Ca (Av u) 1)):=
 pu A9 (fun e=>[sl (Pr.A0 (Av u)),lq (@rNo (u) (Ca) BM (1) (e) hN)]) func142
abbrev rX(u:Pr)(Ca:Pr->Int)(j:Int)(n:Int)(e:Ext):S:=S.mk [(2,A6 0),(3,A6 n),(7,vL 4 (Pr.cs (Av u))),(8,A6 ((Av u).length:Int)),(9,A6 j)] [] e
def Le(Ca:Pr->Int):List Pr->(Int)->(Int)
 | [],n=>(n)
 | el::r,n=>Le Ca r (WD true n (Ca el))
def cG(u:Pr)(Ca:Pr->Int)(e:Ext)(p:(Int)):A4 × S:=(.exit 0,S.mk [(2,A6 0),(3,A6 p),(7,vL 4 (Pr.cs (Av u))),(8,A6 ((Av u).length:Int))] [] e)
theorem rDe(u:Pr)(Ca:Pr->Int)(BM:∀w:Pr,w∈Av u->Pu 143 [.agg (AN w)] (.ret (.int .i64 (Ca w))))(n:Int)(e:Ext)(hN:(Av u).length<=1000000000)  : (Ob.loop 20 (Au f143 0) (rX u Ca 0 n e) (cG u Ca e (Le Ca ((Av u))  n)).1 (cG u Ca e (Le Ca ((Av u))  n)).2).ok prog:=by
 refine CL ((Av u).length) (fun j n=>rX u Ca j n e) (fun i n=>Le Ca (List.drop i ((Av u)))  n) (cG u Ca e) (fun i n=>True) kR ?_ n trivial
 rintro i n hi -
 rcases Nat.lt_or_ge i ((Av u).length) with Ac | Cm
 ·have hd:=At Ac
  exact lN A9 [dt ((i:Int)<((Av u).length:Int)),FG (Av u) (i:Int),My (Av u) i Ac,cl (@BM (List.getD (Av u) i default) (by simp_all)),wr ((i:Int)+1)] Ac (WD true n (Ca (List.getD (Av u) i default))) trivial (by rw [hd,Le])
 ·have he:i=(Av u).length:=by omega
  exact lX A9 [df ((i:Int)<((Av u).length:Int))] (n) (by rw [he,List.drop_length,Le])
theorem Ags(u:Pr)(Ca:Pr->Int)(BM:∀w:Pr,w∈Av u->Pu 143 [.agg (AN w)] (.ret (.int .i64 (Ca w))))(hN:(Av u).length<=1000000000):Pu 143 [.agg (AN u)] (rI (IntKind.wrap .i64 (Le Ca (Av u) 0+1))):=
 pu A9 (fun e=>[sl (Pr.A0 (Av u)),lq (@rDe (u) (Ca) BM (0) (e) hN),kp]) func143
abbrev rY(p:Pr)(xe:Ext)(ff:Pr->Int)(j:Int)   : S:=S.mk [(2,A6 0),(13,vL 4 (Pr.cs (Av p))),(14,A6 ((Av p).length:Int)),(15,A6 j)] [] xe
inductive MH where
 | e0 (el:Pr)
 | e1
def HL(ff:Pr->Int):List Pr->MH
 | []=>(MH.e1)
 | el::r=>(if ff el=0 then HL ff r  else (MH.e0 el))
def cH(p:Pr)(xe:Ext)(ff:Pr->Int)  : MH->A4 × S
 | .e0 el=>(.ret,S.mk [(2,A6 (ff el)),(13,vL 4 (Pr.cs (Av p))),(14,A6 ((Av p).length:Int))] [] xe)
 | .e1=>(.exit 0,S.mk [(2,A6 0),(13,vL 4 (Pr.cs (Av p))),(14,A6 ((Av p).length:Int))] [] xe)
theorem cI(p:Pr)(xe:Ext)(ff:Pr->Int)(BM:∀w:Pr,w∈Av p->Pu 144 [.agg (AN w)] (.ret (.int .i64 (ff w))))(hN:(Av p).length<=1000000000):(Ob.loop 25 (Au f144 0) (rY p xe ff 0) (cH p xe ff  (HL ff ((Av p)))).1 (cH p xe ff  (HL ff ((Av p)))).2).ok prog:=by
 refine CL ((Av p).length) (fun j _=>rY p xe ff j) (fun i _=>HL ff (List.drop i ((Av p)))) (cH p xe ff) (fun i _=>True) kR ?_ () trivial
 rintro i u hi -
 rcases Nat.lt_or_ge i ((Av p).length) with Ac | Cm
 ·have hd:=At Ac
  by_cases h0:ff (List.getD (Av p) i default)=0
  ·exact lN A9 [dt ((i:Int)<((Av p).length:Int)),FG (Av p) (i:Int),My (Av p) i Ac,cl (@BM (List.getD (Av p) i default) (by simp_all)),B1 h0,wr ((i:Int)+1)] Ac () trivial (by rw [hd,HL,iP h0])
  ·exact lX A9 [dt ((i:Int)<((Av p).length:Int)),FG (Av p) (i:Int),My (Av p) i Ac,cl (@BM (List.getD (Av p) i default) (by simp_all)),Bi h0] (MH.e0 (List.getD ((Av p)) i default)) (by rw [hd,HL,iN h0])
 ·have he:i=(Av p).length:=by omega
  exact lX A9 [df ((i:Int)<((Av p).length:Int))] (MH.e1) (by rw [he,List.drop_length,HL])
theorem A99(u:Pr)(A7:¬Af u=0):Pu 56 [.agg (AN u),.agg [pI 0,.str Ai,pI 0,.A2]] (rB false):=
 pm A9 [rp 6 (Bi A7),rp 15 (bt true)] func56
section
variable (u:Pr) (A7:Af u=0)
include u A7
theorem A9a(Aa:¬Aj u=Ai):Pu 56 [.agg (AN u),.agg [pI 0,.str Ai,pI 0,.A2]] (rB false):=
 pm A9 [rp 6 (B1 A7),rp 6 (bt (!ByteArray.toList (Aj u)==ByteArray.toList Ai) (B0 (Bp Aa))),rp 9 (bt true)] func56
theorem A9b(Aa:Aj u=Ai)(Am:¬Bq u=0):Pu 56 [.agg (AN u),.agg [pI 0,.str Ai,pI 0,.A2]] (rB false):=
 pm A9 [rp 6 (B1 A7),rp 6 (bf (!ByteArray.toList (Aj u)==ByteArray.toList Ai) (AI (BI Aa))),rp 8 (Bi Am),bt true] func56
theorem A9c(Aa:Aj u=Ai)(Am:Bq u=0)(Az:¬((Av u).length:Int)=(0:Int)):Pu 56 [.agg (AN u),.agg [pI 0,.str Ai,pI 0,.A2]] (rB false):=
 pm A9 [rp 6 (B1 A7),rp 6 (bf (!ByteArray.toList (Aj u)==ByteArray.toList Ai) (AI (BI Aa))),rp 3 (B1 Am),sl (Pr.A0 (Av u)),rp 3 (B1 Am),kp,rp 2 (B1 Am),Bi Az] func56
theorem A9d(Aa:Aj u=Ai)(Am:Bq u=0)(Az:((Av u).length:Int)=(0:Int)):Pu 56 [.agg (AN u),.agg [pI 0,.str Ai,pI 0,.A2]] (rB true):=
 pm A9 [rp 6 (B1 A7),rp 6 (bf (!ByteArray.toList (Aj u)==ByteArray.toList Ai) (AI (BI Aa))),rp 3 (B1 Am),sl (Pr.A0 (Av u)),rp 3 (B1 Am),kp,rp 2 (B1 Am),B1 Az,sl (Pr.A0 (Av u)),ur,df (0<((Av u).length:Int))] func56
end
theorem rZ(Ca:Pr->Int):∀ (l:List Pr) (n:Int),Ld Ca l n=JW Ca l n
 | [],_=>rfl
 | x::r,n=>by rw [Ld,JW,rZ Ca r]
theorem s7(Ca:Pr->Int):∀ (l:List Pr) (n:Int),Le Ca l n=JX Ca l n
 | [],_=>rfl
 | x::r,n=>by rw [Le,JX,s7 Ca r]
theorem cJ:∀ (d:Nat) (u:Pr),A3 (AN u)<d->d<=100000001->Pu 142 [.agg (AN u)] (.ret (.int .i64 (pqD d u)))
 | 0,_,h,_=>by omega
 | d+1,u,h,hs=>by
  have:=Agr u (pqD d) (fun w hw=>cJ d w (by have:=Gf u; have:=Pr.mem hw; omega) oM) (by have:=Gf u; have:=Pr.BS (Av u); omega)
  rw [rZ] at this
  exact this
theorem cK:∀ (d:Nat) (u:Pr),A3 (AN u)<d->d<=100000001->Pu 143 [.agg (AN u)] (.ret (.int .i64 (peD d u)))
 | 0,_,h,_=>by omega
 | d+1,u,h,hs=>by
  have:=Ags u (peD d) (fun w hw=>cK d w (by have:=Gf u; have:=Pr.mem hw; omega) oM) (by have:=Gf u; have:=Pr.BS (Av u); omega)
  rw [s7] at this
  exact this
theorem A2b(u:Pr)(hs:A3 (AN u)<=100000000):Pu 142 [.agg (AN u)] (.ret (.int .i64 (mP u))):=cJ _ u oM oM
theorem A9e(u:Pr)(hs:A3 (AN u)<=100000000):Pu 143 [.agg (AN u)] (.ret (.int .i64 (rQ u))):=cK _ u oM oM
theorem cL(ff:Pr->Int):∀l:List Pr,(Bg ff l=0->HL ff l = .e1)/\(¬Bg ff l=0->∃w,HL ff l = .e0 w/\ff w=Bg ff l)
 | []=>⟨fun _=>rfl,fun h=>absurd rfl h⟩
 | c::r=>by
  have ih:=cL ff r
  by_cases hp:ff c=0
  ·simp only [Bg,HL,hp,if_true]; exact ih
  ·simp only [Bg,HL,hp,if_false]
   exact ⟨fun h=>h.elim,fun _=>⟨c,rfl,rfl⟩⟩
section
variable (p:Pr) (ff:Pr->Int) (BM:∀w:Pr,w∈Av p->Pu 144 [.agg (AN w)] (.ret (.int .i64 (ff w)))) (hN:(Av p).length<=1000000000)
include p ff BM hN
theorem A9f(A7:¬BG p=0):Pu 144 [.agg (AN p)] (rI (BG p)):=
 pm A9 [cl (@A2a (p)),Bi A7] func144
theorem A9g(A7:BG p=0)(I6:Pr)(Am:HL ff (Av p)=MH.e0 I6):Pu 144 [.agg (AN p)] (rI (ff I6)):=
 pu A9 (fun e=>[cl (@A2a (p)),B1 A7,sl (Pr.A0 (Av p)),lq (rz (cI (p) (e) (ff) BM hN) Am)]) func144
theorem A9h(A7:BG p=0)(Aa:HL ff (Av p)=MH.e1):Pu 144 [.agg (AN p)] (rI 0):=
 pu A9 (fun e=>[cl (@A2a (p)),B1 A7,sl (Pr.A0 (Av p)),lq (rz (cI (p) (e) (ff) BM hN) Aa)]) func144
end
theorem VN{α:Type}(f:α->Int):∀a b:List α,Bg f (a++b)=if Bg f a=0 then Bg f b else Bg f a
 | [],b=>by simp [Bg]
 | x::r,b=>by
  by_cases h:f x=0
  ·simp only [List.cons_append,Bg,h,if_true]; exact VN f r b
  ·simp only [List.cons_append,Bg,h,if_false]
theorem Ql(f:Pr->Int):∀ks:List Pr,Bg (fun w=>Bg f (Cb w)) ks=Bg f (BK ks)
 | []=>rfl
 | x::r=>by rw [BK,VN,<-Ql f r]; rfl
theorem s8:∀ (d:Nat) (u:Pr),A3 (AN u)<d->d<=100000001->Pu 144 [.agg (AN u)] (.ret (.int .i64 (Bg BG (Cb u))))
 | 0,_,h,_=>by omega
 | d+1,u,h,hs=>by
  have h1:=Gf u
  have h2:=Pr.BS (Av u)
  have hk:∀w:Pr,w∈Av u->Pu 144 [.agg (AN w)] (.ret (.int .i64 (Bg BG (Cb w)))):=fun w hw=>s8 d w (by have:=Pr.mem hw; omega) oM
  have hf:=Ql BG (Av u)
  rw [FJ,Bg]
  by_cases h0:BG u=0
  ·rw [iP h0,<-hf]
   by_cases h5:Bg (fun w=>Bg BG (Cb w)) (Av u)=0
   ·rw [h5]; exact A9h u _ hk oM h0 ((cL _ _).1 h5)
   ·obtain ⟨w,e1,e2⟩:=(cL _ _).2 h5
    rw [<-e2]; exact A9g u _ hk oM h0 w e1
  ·rw [iN h0]; exact A9f u _ hk oM h0
theorem rfT(u:Pr)(hs:A3 (AN u)<=100000000):Pu 144 [.agg (AN u)] (.ret (.int .i64 (Bg BG (Cb u)))):=s8 (A3 (AN u)+1) u oM oM
def Rs(u:Pr):Int:=(if mP u>400 then 7 else (if rQ u>40 then 8 else (Bg BG (Cb u))))
theorem rpc(u:Pr)(hs:A3 (AN u)<=100000000):Pu 98 [.agg (AN u)] (rI (Rs u)):=by
 by_cases h0:mP u>400
 ·simp only [Rs,iP h0]; exact pm A9 [cl (@A2b (u) hs),BL h0] func98
 ·by_cases h1:rQ u>40
  ·simp only [Rs,iN h0,iP h1]; exact pm A9 [cl (@A2b (u) hs),Ar h0,cl (@A9e (u) hs),BL h1] func98
  ·simp only [Rs,iN h0,iN h1]; exact pm A9 [cl (@A2b (u) hs),Ar h0,cl (@A9e (u) hs),Ar h1,cl (@rfT (u) hs)] func98
theorem A2c(u:Pr)(hs:A3 (AN u)<=100000000):Pu 98 [.agg (AN u)] (.ret (.int .i64 (Hf u))):=rpc u hs
theorem Agt(u:Pr):Pu 56 [.agg (AN u),.agg [.int .i64 0,.str Ai,.int .i64 0,.A2]] (.ret (.bool (C0 u))):=by
 unfold C0
 by_cases h0:Af u=0
 ·rw [iP h0]
  by_cases h1:Aj u=Ai
  ·rw [iP h1]
   by_cases h2:Bq u=0
   ·rw [iP h2]
    by_cases h3:((Av u).length:Int)=0
    ·rw [show isNil (Av u)=true from decide_eq_true h3]; exact A9d u h0 h1 h2 h3
    ·rw [show isNil (Av u)=false from decide_eq_false h3]; exact A9c u h0 h1 h2 h3
   ·rw [iN h2]; exact A9b u h0 h1 h2
  ·rw [iN h1]; exact A9a u h0 h1
 ·rw [iN h0]; exact A99 u h0
section
variable (s:BA) (c:Bool) (A7:CJ (BE s)=0)
include s c A7
theorem A9i(Aa:(↑(UInt8.toNat (List.getD (Array.toList (ByteArray.data s)) (Int.toNat 0) default)):Int)>=65):Pu 192 [.str s,.bool c] (rB (if true=true then decide ((↑(UInt8.toNat (List.getD (Array.toList (ByteArray.data s)) (Int.toNat 0) default)):Int)<=90)==c else !decide ((↑(UInt8.toNat (List.getD (Array.toList (ByteArray.data s)) (Int.toNat 0) default)):Int)<=90)==c)):=
 pm A9 [cl (@Pj (s)),rp 2 (Bb A7),kp,am ((0:Int)<=0/\0<(↑(ByteArray.size s):Int)) (by (apply FH <;> first | assumption | omega | decide)),rp 2 (Bb A7),rp 2 (BL Aa),kp,am ((0:Int)<=0/\0<(↑(ByteArray.size s):Int)) (by (apply FH <;> first | assumption | omega | decide)),BL Aa,Bb A7,BL Aa,rp 3 (Bb A7)] func192
theorem A9j(Aa:¬(↑(UInt8.toNat (List.getD (Array.toList (ByteArray.data s)) (Int.toNat 0) default)):Int)>=65):Pu 192 [.str s,.bool c] (rB (if true=true then false==c else !false==c)):=
 pm A9 [cl (@Pj (s)),rp 2 (Bb A7),kp,am ((0:Int)<=0/\0<(↑(ByteArray.size s):Int)) (by (apply FH <;> first | assumption | omega | decide)),rp 2 (Bb A7),rp 3 (Ar Aa),Bb A7,Ar Aa,rp 3 (Bb A7)] func192
end
def Fx(s:BA)(c:Bool):Bool:=(if CJ (BE s)=0 then (if (↑(UInt8.toNat (List.getD (Array.toList (ByteArray.data s)) (Int.toNat 0) default)):Int)>=65 then (if true=true then decide ((↑(UInt8.toNat (List.getD (Array.toList (ByteArray.data s)) (Int.toNat 0) default)):Int)<=90)==c else !decide ((↑(UInt8.toNat (List.getD (Array.toList (ByteArray.data s)) (Int.toNat 0) default)):Int)<=90)==c) else (if true=true then false==c else !false==c)) else false)
theorem rco(s:BA)(c:Bool):Pu 192 [.str s,.bool c] (rB (Fx s c)):=by
 by_cases h0:CJ (BE s)=0
 ·by_cases h1:(↑(UInt8.toNat (List.getD (Array.toList (ByteArray.data s)) (Int.toNat 0) default)):Int)>=65
  ·simp only [Fx,iP h0,iP h1]; exact A9i s c h0 h1
  ·simp only [Fx,iP h0,iN h1]; exact A9j s c h0 h1
 ·simp only [Fx,iN h0]; exact pm A9 [cl (@Pj (s)),rp 8 (Ay h0)] func192
abbrev JZ(t:Tp)(xe:Ext):S:=⟨[(1,.lp 1 0),(2,.v (.int .i64 0))],[(1,Cz t)],xe⟩
section
variable (t:Tp) (xe:Ext)
include t xe
theorem A2d(A7:AB t<1)(cx:Cx)(Aw:cx.n=113){Q:A4->S->Prop}(hq:Q (.normal) (S.mk [(1,.lp 1 0),(2,A6 0),(52,.v (.bool true))] [(1,Cz t)] xe)):PW prog cx (AS f149 1) (JZ t xe) Q:=
 pw A9 113 [rp 4 (BL A7),rp 24 (bt true)] [1,2,52] [1] Aw hq
theorem A2e(A7:¬AB t<1)(Aa:AB t>6)(cx:Cx)(Aw:cx.n=113){Q:A4->S->Prop}(hq:Q (.normal) (S.mk [(1,.lp 1 0),(2,A6 0),(52,.v (.bool true))] [(1,Cz t)] xe)):PW prog cx (AS f149 1) (JZ t xe) Q:=
 pw A9 113 [rp 4 (Ar A7),rp 8 (BL Aa),rp 16 (bt true)] [1,2,52] [1] Aw hq
theorem A2f(A7:¬AB t<1)(Aa:¬AB t>6)(Am:¬An t=ByteArray.mk #[])(Az:¬AB t=4)(AP:¬AB t=5)(cx:Cx)(Aw:cx.n=113){Q:A4->S->Prop}(hq:Q (.normal) (S.mk [(1,.lp 1 0),(2,A6 0),(52,.v (.bool true))] [(1,Cz t)] xe)):PW prog cx (AS f149 1) (JZ t xe) Q:=
 pw A9 113 [rp 4 (Ar A7),rp 4 (Ar Aa),rp 3 (bt (!ByteArray.toList (An t)==ByteArray.toList Ai) (B0 (Bp Am))),Ar Aa,bt (!ByteArray.toList (An t)==ByteArray.toList Ai) (B0 (Bp Am)),Ar Aa,rp 3 (Bi Az),Ar Aa,Bi Az,Ar Aa,rp 9 (Bi AP),rp 7 (bt true)] [1,2,52] [1] Aw hq
theorem A2g(A7:¬AB t<1)(Aa:¬AB t>6)(Am:¬An t=ByteArray.mk #[])(Az:¬AB t=4)(AP:AB t=5)(Bu:((Ab t).length:Int)>0)(cx:Cx)(Aw:cx.n=113){Q:A4->S->Prop}(hq:Q (.normal) (S.mk [(1,.lp 1 0),(2,A6 0),(52,.v (.bool true))] [(1,Cz t)] xe)):PW prog cx (AS f149 1) (JZ t xe) Q:=
 pw A9 113 [rp 4 (Ar A7),rp 4 (Ar Aa),rp 3 (bt (!ByteArray.toList (An t)==ByteArray.toList Ai) (B0 (Bp Am))),Ar Aa,bt (!ByteArray.toList (An t)==ByteArray.toList Ai) (B0 (Bp Am)),Ar Aa,rp 3 (Bi Az),Ar Aa,Bi Az,Ar Aa,rp 3 (B1 AP),sl (Tp.A0 (Ab t)),rp 2 (B1 AP),rp 3 (BL Bu),B1 AP,BL Bu,B1 AP,rp 3 (Bi Az),B1 AP,Bi Az,B1 AP,rp 7 (nt (AB t) 6)] [1,2,52] [1] Aw hq
theorem A2h(A7:¬AB t<1)(Aa:¬AB t>6)(Am:¬An t=ByteArray.mk #[])(Az:¬AB t=4)(AP:AB t=5)(Bu:¬((Ab t).length:Int)>0)(En:((Ag t).length:Int)>0)(cx:Cx)(Aw:cx.n=113){Q:A4->S->Prop}(hq:Q (.normal) (S.mk [(1,.lp 1 0),(2,A6 0),(52,.v (.bool (AB t != 6)))] [(1,Cz t)] xe)):PW prog cx (AS f149 1) (JZ t xe) Q:=
 pw A9 113 [rp 4 (Ar A7),rp 4 (Ar Aa),rp 3 (bt (!ByteArray.toList (An t)==ByteArray.toList Ai) (B0 (Bp Am))),Ar Aa,bt (!ByteArray.toList (An t)==ByteArray.toList Ai) (B0 (Bp Am)),Ar Aa,rp 3 (Bi Az),Ar Aa,Bi Az,Ar Aa,rp 3 (B1 AP),sl (Tp.A0 (Ab t)),rp 2 (B1 AP),rp 3 (Ar Bu),B1 AP,Ar Bu,B1 AP,rp 3 (bf false),B1 AP,bf false,B1 AP,rp 3 (bf false),sl (A5 (Ag t)),rp 2 (bf false),rp 3 (BL En),bf false,BL En,bf false] [1,2,52] [1] Aw hq
theorem A2i(A7:¬AB t<1)(Aa:¬AB t>6)(Am:¬An t=ByteArray.mk #[])(Az:¬AB t=4)(AP:AB t=5)(Bu:¬((Ab t).length:Int)>0)(En:¬((Ag t).length:Int)>0)(cx:Cx)(Aw:cx.n=113){Q:A4->S->Prop}(hq:Q (.normal) (S.mk [(1,.lp 1 0),(2,A6 0),(52,.v (.bool false))] [(1,Cz t)] xe)):PW prog cx (AS f149 1) (JZ t xe) Q:=
 pw A9 113 [rp 4 (Ar A7),rp 4 (Ar Aa),rp 3 (bt (!ByteArray.toList (An t)==ByteArray.toList Ai) (B0 (Bp Am))),Ar Aa,bt (!ByteArray.toList (An t)==ByteArray.toList Ai) (B0 (Bp Am)),Ar Aa,rp 3 (Bi Az),Ar Aa,Bi Az,Ar Aa,rp 3 (B1 AP),sl (Tp.A0 (Ab t)),rp 2 (B1 AP),rp 3 (Ar Bu),B1 AP,Ar Bu,B1 AP,rp 3 (bf false),B1 AP,bf false,B1 AP,rp 3 (bf false),sl (A5 (Ag t)),rp 2 (bf false),rp 3 (Ar En),bf false,Ar En,bf false] [1,2,52] [1] Aw hq
theorem A2j(A7:¬AB t<1)(Aa:¬AB t>6)(Am:¬An t=ByteArray.mk #[])(Az:AB t=4)(AP:((Ab t).length:Int)>0)(Bu:((Ag t).length:Int)>0)(cx:Cx)(Aw:cx.n=113){Q:A4->S->Prop}(hq:Q (.normal) (S.mk [(1,.lp 1 0),(2,A6 0),(52,.v (.bool (AB t != 6)))] [(1,Cz t)] xe)):PW prog cx (AS f149 1) (JZ t xe) Q:=
 pw A9 113 [rp 4 (Ar A7),rp 4 (Ar Aa),rp 3 (bt (!ByteArray.toList (An t)==ByteArray.toList Ai) (B0 (Bp Am))),Ar Aa,bt (!ByteArray.toList (An t)==ByteArray.toList Ai) (B0 (Bp Am)),Ar Aa,rp 3 (B1 Az),Ar Aa,B1 Az,Ar Aa,rp 3 (bf false),sl (Tp.A0 (Ab t)),rp 2 (bf false),rp 3 (BL AP),bf false,BL AP,bf false,rp 3 (B1 Az),bf false,B1 Az,rp 4 (bf false),sl (A5 (Ag t)),rp 2 (bf false),rp 3 (BL Bu),bf false,BL Bu,bf false] [1,2,52] [1] Aw hq
theorem A2k(A7:¬AB t<1)(Aa:¬AB t>6)(Am:¬An t=ByteArray.mk #[])(Az:AB t=4)(AP:((Ab t).length:Int)>0)(Bu:¬((Ag t).length:Int)>0)(cx:Cx)(Aw:cx.n=113){Q:A4->S->Prop}(hq:Q (.normal) (S.mk [(1,.lp 1 0),(2,A6 0),(52,.v (.bool false))] [(1,Cz t)] xe)):PW prog cx (AS f149 1) (JZ t xe) Q:=
 pw A9 113 [rp 4 (Ar A7),rp 4 (Ar Aa),rp 3 (bt (!ByteArray.toList (An t)==ByteArray.toList Ai) (B0 (Bp Am))),Ar Aa,bt (!ByteArray.toList (An t)==ByteArray.toList Ai) (B0 (Bp Am)),Ar Aa,rp 3 (B1 Az),Ar Aa,B1 Az,Ar Aa,rp 3 (bf false),sl (Tp.A0 (Ab t)),rp 2 (bf false),rp 3 (BL AP),bf false,BL AP,bf false,rp 3 (B1 Az),bf false,B1 Az,rp 4 (bf false),sl (A5 (Ag t)),rp 2 (bf false),rp 3 (Ar Bu),bf false,Ar Bu,bf false] [1,2,52] [1] Aw hq
theorem A2l(A7:¬AB t<1)(Aa:¬AB t>6)(Am:¬An t=ByteArray.mk #[])(Az:AB t=4)(AP:¬((Ab t).length:Int)>0)(Bu:((Ag t).length:Int)>0)(cx:Cx)(Aw:cx.n=113){Q:A4->S->Prop}(hq:Q (.normal) (S.mk [(1,.lp 1 0),(2,A6 0),(52,.v (.bool (AB t != 6)))] [(1,Cz t)] xe)):PW prog cx (AS f149 1) (JZ t xe) Q:=
 pw A9 113 [rp 4 (Ar A7),rp 4 (Ar Aa),rp 3 (bt (!ByteArray.toList (An t)==ByteArray.toList Ai) (B0 (Bp Am))),Ar Aa,bt (!ByteArray.toList (An t)==ByteArray.toList Ai) (B0 (Bp Am)),Ar Aa,rp 3 (B1 Az),Ar Aa,B1 Az,Ar Aa,rp 3 (bf false),sl (Tp.A0 (Ab t)),rp 2 (bf false),rp 3 (Ar AP),bf false,Ar AP,rp 10 (bf false),sl (A5 (Ag t)),rp 2 (bf false),rp 3 (BL Bu),bf false,BL Bu,bf false] [1,2,52] [1] Aw hq
theorem n8(A7:¬AB t<1)(Aa:¬AB t>6)(Am:¬An t=ByteArray.mk #[])(Az:AB t=4)(AP:¬((Ab t).length:Int)>0)(Bu:¬((Ag t).length:Int)>0)(cx:Cx)(Aw:cx.n=113){Q:A4->S->Prop}(hq:Q (.normal) (S.mk [(1,.lp 1 0),(2,A6 0),(52,.v (.bool false))] [(1,Cz t)] xe)):PW prog cx (AS f149 1) (JZ t xe) Q:=
 pw A9 113 [rp 4 (Ar A7),rp 4 (Ar Aa),rp 3 (bt (!ByteArray.toList (An t)==ByteArray.toList Ai) (B0 (Bp Am))),Ar Aa,bt (!ByteArray.toList (An t)==ByteArray.toList Ai) (B0 (Bp Am)),Ar Aa,rp 3 (B1 Az),Ar Aa,B1 Az,Ar Aa,rp 3 (bf false),sl (Tp.A0 (Ab t)),rp 2 (bf false),rp 3 (Ar AP),bf false,Ar AP,rp 10 (bf false),sl (A5 (Ag t)),rp 2 (bf false),rp 3 (Ar Bu),bf false,Ar Bu,bf false] [1,2,52] [1] Aw hq
theorem n9(A7:¬AB t<1)(Aa:¬AB t>6)(Am:An t=ByteArray.mk #[])(Az:((Ab t).length:Int)>0)(AP:¬AB t=4)(Bu:¬AB t=6)(cx:Cx)(Aw:cx.n=113){Q:A4->S->Prop}(hq:Q (.normal) (S.mk [(1,.lp 1 0),(2,A6 0),(52,.v (.bool true))] [(1,Cz t)] xe)):PW prog cx (AS f149 1) (JZ t xe) Q:=
 pw A9 113 [rp 4 (Ar A7),rp 4 (Ar Aa),rp 3 (bf (!ByteArray.toList (An t)==ByteArray.toList Ai) (AI (BI Am))),Ar Aa,bf (!ByteArray.toList (An t)==ByteArray.toList Ai) (AI (BI Am)),Ar Aa,rp 3 (bf false),Ar Aa,bf false,Ar Aa,rp 3 (bf false),sl (Tp.A0 (Ab t)),rp 2 (bf false),rp 3 (BL Az),bf false,BL Az,bf false,rp 3 (Bi AP),bf false,Bi AP,bf false,rp 7 (Bi Bu)] [1,2,52] [1] Aw hq
theorem nA(A7:¬AB t<1)(Aa:¬AB t>6)(Am:An t=ByteArray.mk #[])(Az:((Ab t).length:Int)>0)(AP:¬AB t=4)(Bu:AB t=6)(En:((Ag t).length:Int)>0)(cx:Cx)(Aw:cx.n=113){Q:A4->S->Prop}(hq:Q (.normal) (S.mk [(1,.lp 1 0),(2,A6 0),(52,.v (.bool (AB t != 6)))] [(1,Cz t)] xe)):PW prog cx (AS f149 1) (JZ t xe) Q:=
 pw A9 113 [rp 4 (Ar A7),rp 4 (Ar Aa),rp 3 (bf (!ByteArray.toList (An t)==ByteArray.toList Ai) (AI (BI Am))),Ar Aa,bf (!ByteArray.toList (An t)==ByteArray.toList Ai) (AI (BI Am)),Ar Aa,rp 3 (bf false),Ar Aa,bf false,Ar Aa,rp 3 (bf false),sl (Tp.A0 (Ab t)),rp 2 (bf false),rp 3 (BL Az),bf false,BL Az,bf false,rp 3 (Bi AP),bf false,Bi AP,bf false,rp 3 (B1 Bu),sl (A5 (Ag t)),rp 2 (B1 Bu),rp 3 (BL En),B1 Bu,BL En,B1 Bu] [1,2,52] [1] Aw hq
theorem nB(A7:¬AB t<1)(Aa:¬AB t>6)(Am:An t=ByteArray.mk #[])(Az:((Ab t).length:Int)>0)(AP:¬AB t=4)(Bu:AB t=6)(En:¬((Ag t).length:Int)>0)(cx:Cx)(Aw:cx.n=113){Q:A4->S->Prop}(hq:Q (.normal) (S.mk [(1,.lp 1 0),(2,A6 0),(52,.v (.bool false))] [(1,Cz t)] xe)):PW prog cx (AS f149 1) (JZ t xe) Q:=
 pw A9 113 [rp 4 (Ar A7),rp 4 (Ar Aa),rp 3 (bf (!ByteArray.toList (An t)==ByteArray.toList Ai) (AI (BI Am))),Ar Aa,bf (!ByteArray.toList (An t)==ByteArray.toList Ai) (AI (BI Am)),Ar Aa,rp 3 (bf false),Ar Aa,bf false,Ar Aa,rp 3 (bf false),sl (Tp.A0 (Ab t)),rp 2 (bf false),rp 3 (BL Az),bf false,BL Az,bf false,rp 3 (Bi AP),bf false,Bi AP,bf false,rp 3 (B1 Bu),sl (A5 (Ag t)),rp 2 (B1 Bu),rp 3 (Ar En),B1 Bu,Ar En,B1 Bu] [1,2,52] [1] Aw hq
theorem nC(A7:¬AB t<1)(Aa:¬AB t>6)(Am:An t=ByteArray.mk #[])(Az:((Ab t).length:Int)>0)(AP:AB t=4)(Bu:((Ag t).length:Int)>0)(cx:Cx)(Aw:cx.n=113){Q:A4->S->Prop}(hq:Q (.normal) (S.mk [(1,.lp 1 0),(2,A6 0),(52,.v (.bool (AB t != 6)))] [(1,Cz t)] xe)):PW prog cx (AS f149 1) (JZ t xe) Q:=
 pw A9 113 [rp 4 (Ar A7),rp 4 (Ar Aa),rp 3 (bf (!ByteArray.toList (An t)==ByteArray.toList Ai) (AI (BI Am))),Ar Aa,bf (!ByteArray.toList (An t)==ByteArray.toList Ai) (AI (BI Am)),Ar Aa,rp 3 (bf false),Ar Aa,bf false,Ar Aa,rp 3 (bf false),sl (Tp.A0 (Ab t)),rp 2 (bf false),rp 3 (BL Az),bf false,BL Az,bf false,rp 3 (B1 AP),bf false,B1 AP,rp 4 (bf false),sl (A5 (Ag t)),rp 2 (bf false),rp 3 (BL Bu),bf false,BL Bu,bf false] [1,2,52] [1] Aw hq
theorem nD(A7:¬AB t<1)(Aa:¬AB t>6)(Am:An t=ByteArray.mk #[])(Az:((Ab t).length:Int)>0)(AP:AB t=4)(Bu:¬((Ag t).length:Int)>0)(cx:Cx)(Aw:cx.n=113){Q:A4->S->Prop}(hq:Q (.normal) (S.mk [(1,.lp 1 0),(2,A6 0),(52,.v (.bool false))] [(1,Cz t)] xe)):PW prog cx (AS f149 1) (JZ t xe) Q:=
 pw A9 113 [rp 4 (Ar A7),rp 4 (Ar Aa),rp 3 (bf (!ByteArray.toList (An t)==ByteArray.toList Ai) (AI (BI Am))),Ar Aa,bf (!ByteArray.toList (An t)==ByteArray.toList Ai) (AI (BI Am)),Ar Aa,rp 3 (bf false),Ar Aa,bf false,Ar Aa,rp 3 (bf false),sl (Tp.A0 (Ab t)),rp 2 (bf false),rp 3 (BL Az),bf false,BL Az,bf false,rp 3 (B1 AP),bf false,B1 AP,rp 4 (bf false),sl (A5 (Ag t)),rp 2 (bf false),rp 3 (Ar Bu),bf false,Ar Bu,bf false] [1,2,52] [1] Aw hq
theorem nE(A7:¬AB t<1)(Aa:¬AB t>6)(Am:An t=ByteArray.mk #[])(Az:¬((Ab t).length:Int)>0)(AP:((Ag t).length:Int)>0)(cx:Cx)(Aw:cx.n=113){Q:A4->S->Prop}(hq:Q (.normal) (S.mk [(1,.lp 1 0),(2,A6 0),(52,.v (.bool (AB t != 6)))] [(1,Cz t)] xe)):PW prog cx (AS f149 1) (JZ t xe) Q:=
 pw A9 113 [rp 4 (Ar A7),rp 4 (Ar Aa),rp 3 (bf (!ByteArray.toList (An t)==ByteArray.toList Ai) (AI (BI Am))),Ar Aa,bf (!ByteArray.toList (An t)==ByteArray.toList Ai) (AI (BI Am)),Ar Aa,rp 3 (bf false),Ar Aa,bf false,Ar Aa,rp 3 (bf false),sl (Tp.A0 (Ab t)),rp 2 (bf false),rp 3 (Ar Az),bf false,Ar Az,rp 10 (bf false),sl (A5 (Ag t)),rp 2 (bf false),rp 3 (BL AP),bf false,BL AP,bf false] [1,2,52] [1] Aw hq
theorem nF(A7:¬AB t<1)(Aa:¬AB t>6)(Am:An t=ByteArray.mk #[])(Az:¬((Ab t).length:Int)>0)(AP:¬((Ag t).length:Int)>0)(cx:Cx)(Aw:cx.n=113){Q:A4->S->Prop}(hq:Q (.normal) (S.mk [(1,.lp 1 0),(2,A6 0),(52,.v (.bool false))] [(1,Cz t)] xe)):PW prog cx (AS f149 1) (JZ t xe) Q:=
 pw A9 113 [rp 4 (Ar A7),rp 4 (Ar Aa),rp 3 (bf (!ByteArray.toList (An t)==ByteArray.toList Ai) (AI (BI Am))),Ar Aa,bf (!ByteArray.toList (An t)==ByteArray.toList Ai) (AI (BI Am)),Ar Aa,rp 3 (bf false),Ar Aa,bf false,Ar Aa,rp 3 (bf false),sl (Tp.A0 (Ab t)),rp 2 (bf false),rp 3 (Ar Az),bf false,Ar Az,rp 10 (bf false),sl (A5 (Ag t)),rp 2 (bf false),rp 3 (Ar AP),bf false,Ar AP,bf false] [1,2,52] [1] Aw hq
end
def AZ(t:Tp):Bool:=(if AB t<1 then (true) else (if AB t>6 then (true) else (if An t=ByteArray.mk #[] then (if ((Ab t).length:Int)>0 then (if AB t=4 then (if ((Ag t).length:Int)>0 then ((AB t != 6)) else (false)) else (if AB t=6 then (if ((Ag t).length:Int)>0 then ((AB t != 6)) else (false)) else (true))) else (if ((Ag t).length:Int)>0 then ((AB t != 6)) else (false))) else (if AB t=4 then (if ((Ab t).length:Int)>0 then (if ((Ag t).length:Int)>0 then ((AB t != 6)) else (false)) else (if ((Ag t).length:Int)>0 then ((AB t != 6)) else (false))) else (if AB t=5 then (if ((Ab t).length:Int)>0 then (true) else (if ((Ag t).length:Int)>0 then ((AB t != 6)) else (false))) else (true))))))
theorem Tb(t:Tp)(xe:Ext):(Ob.ES 113 (AS f149 1) (JZ t xe) (.normal) (S.mk [(1,.lp 1 0),(2,A6 0),(52,.v (.bool (AZ t)))] [(1,Cz t)] xe)).ok prog:=by
 intro cx Aw
 by_cases g0:AB t<1
 ·exact A2d t xe g0 cx Aw ⟨rfl,by rw [show AZ t=(true) by unfold AZ; rw [iP g0]]⟩
 ·by_cases g1:AB t>6
  ·exact A2e t xe g0 g1 cx Aw ⟨rfl,by rw [show AZ t=(true) by unfold AZ; rw [iN g0,iP g1]]⟩
  ·by_cases g2:An t=ByteArray.mk #[]
   ·by_cases g3:((Ab t).length:Int)>0
    ·by_cases g4:AB t=4
     ·by_cases g5:((Ag t).length:Int)>0
      ·exact nC t xe g0 g1 g2 g3 g4 g5 cx Aw ⟨rfl,by rw [show AZ t=((AB t != 6)) by unfold AZ; rw [iN g0,iN g1,iP g2,iP g3,iP g4,iP g5]]⟩
      ·exact nD t xe g0 g1 g2 g3 g4 g5 cx Aw ⟨rfl,by rw [show AZ t=(false) by unfold AZ; rw [iN g0,iN g1,iP g2,iP g3,iP g4,iN g5]]⟩
     ·by_cases g5:AB t=6
      ·by_cases g6:((Ag t).length:Int)>0
       ·exact nA t xe g0 g1 g2 g3 g4 g5 g6 cx Aw ⟨rfl,by rw [show AZ t=((AB t != 6)) by unfold AZ; rw [iN g0,iN g1,iP g2,iP g3,iN g4,iP g5,iP g6]]⟩
       ·exact nB t xe g0 g1 g2 g3 g4 g5 g6 cx Aw ⟨rfl,by rw [show AZ t=(false) by unfold AZ; rw [iN g0,iN g1,iP g2,iP g3,iN g4,iP g5,iN g6]]⟩
      ·exact n9 t xe g0 g1 g2 g3 g4 g5 cx Aw ⟨rfl,by rw [show AZ t=(true) by unfold AZ; rw [iN g0,iN g1,iP g2,iP g3,iN g4,iN g5]]⟩
    ·by_cases g4:((Ag t).length:Int)>0
     ·exact nE t xe g0 g1 g2 g3 g4 cx Aw ⟨rfl,by rw [show AZ t=((AB t != 6)) by unfold AZ; rw [iN g0,iN g1,iP g2,iN g3,iP g4]]⟩
     ·exact nF t xe g0 g1 g2 g3 g4 cx Aw ⟨rfl,by rw [show AZ t=(false) by unfold AZ; rw [iN g0,iN g1,iP g2,iN g3,iN g4]]⟩
   ·by_cases g3:AB t=4
    ·by_cases g4:((Ab t).length:Int)>0
     ·by_cases g5:((Ag t).length:Int)>0
      ·exact A2j t xe g0 g1 g2 g3 g4 g5 cx Aw ⟨rfl,by rw [show AZ t=((AB t != 6)) by unfold AZ; rw [iN g0,iN g1,iN g2,iP g3,iP g4,iP g5]]⟩
      ·exact A2k t xe g0 g1 g2 g3 g4 g5 cx Aw ⟨rfl,by rw [show AZ t=(false) by unfold AZ; rw [iN g0,iN g1,iN g2,iP g3,iP g4,iN g5]]⟩
     ·by_cases g5:((Ag t).length:Int)>0
      ·exact A2l t xe g0 g1 g2 g3 g4 g5 cx Aw ⟨rfl,by rw [show AZ t=((AB t != 6)) by unfold AZ; rw [iN g0,iN g1,iN g2,iP g3,iN g4,iP g5]]⟩
      ·exact n8 t xe g0 g1 g2 g3 g4 g5 cx Aw ⟨rfl,by rw [show AZ t=(false) by unfold AZ; rw [iN g0,iN g1,iN g2,iP g3,iN g4,iN g5]]⟩
    ·by_cases g4:AB t=5
     ·by_cases g5:((Ab t).length:Int)>0
      ·exact A2g t xe g0 g1 g2 g3 g4 g5 cx Aw ⟨rfl,by rw [show AZ t=(true) by unfold AZ; rw [iN g0,iN g1,iN g2,iN g3,iP g4,iP g5]]⟩
      ·by_cases g6:((Ag t).length:Int)>0
       ·exact A2h t xe g0 g1 g2 g3 g4 g5 g6 cx Aw ⟨rfl,by rw [show AZ t=((AB t != 6)) by unfold AZ; rw [iN g0,iN g1,iN g2,iN g3,iP g4,iN g5,iP g6]]⟩
       ·exact A2i t xe g0 g1 g2 g3 g4 g5 g6 cx Aw ⟨rfl,by rw [show AZ t=(false) by unfold AZ; rw [iN g0,iN g1,iN g2,iN g3,iP g4,iN g5,iN g6]]⟩
     ·exact A2f t xe g0 g1 g2 g3 g4 cx Aw ⟨rfl,by rw [show AZ t=(true) by unfold AZ; rw [iN g0,iN g1,iN g2,iN g3,iN g4]]⟩
theorem A2m(t:Tp)(xe:Ext)(A7:AB t=4)(cx:Cx)(Aw:cx.n=113){Q:A4->S->Prop}(hq:Q (.normal) (S.mk [(1,.lp 1 0),(2,A6 0),(61,.v (.bool (decide (((Ab t).length:Int)>6))))] [(1,Cz t)] xe)):PW prog cx (AS f149 3) (JZ t xe) Q:=
 pw A9 113 [rp 3 (Bb A7),sl (Tp.A0 (Ab t)),rp 2 (Bb A7)] [1,2,61] [1] Aw hq
theorem A2n(t:Tp)(xe:Ext)(A7:¬AB t=4)(cx:Cx)(Aw:cx.n=113){Q:A4->S->Prop}(hq:Q (.normal) (S.mk [(1,.lp 1 0),(2,A6 0),(61,.v (.bool false))] [(1,Cz t)] xe)):PW prog cx (AS f149 3) (JZ t xe) Q:=
 pw A9 113 [rp 5 (Ay A7)] [1,2,61] [1] Aw hq
def E6(t:Tp):Bool:=(if AB t=4 then ((decide (((Ab t).length:Int)>6))) else (false))
theorem VO(t:Tp)(xe:Ext):(Ob.ES 113 (AS f149 3) (JZ t xe) (.normal) (S.mk [(1,.lp 1 0),(2,A6 0),(61,.v (.bool (E6 t)))] [(1,Cz t)] xe)).ok prog:=by
 intro cx Aw
 by_cases g0:AB t=4
 ·exact A2m t xe g0 cx Aw ⟨rfl,by rw [show E6 t=((decide (((Ab t).length:Int)>6))) by unfold E6; rw [iP g0]]⟩
 ·exact A2n t xe g0 cx Aw ⟨rfl,by rw [show E6 t=(false) by unfold E6; rw [iN g0]]⟩
section
variable (t:Tp) (xe:Ext) (A7:AB t=6)
include t xe A7
theorem A2o(Aa:((Ab t).length:Int)<2)(cx:Cx)(Aw:cx.n=113){Q:A4->S->Prop}(hq:Q (.normal) (S.mk [(1,.lp 1 0),(2,A6 0),(92,.v (.bool true))] [(1,Cz t)] xe)):PW prog cx (AS f149 5) (JZ t xe) Q:=
 pw A9 113 [rp 3 (Bb A7),sl (Tp.A0 (Ab t)),rp 2 (Bb A7),rp 4 (BL Aa),Bb A7,BL Aa,Bb A7,rp 6 (bt true),Bb A7,bt true,Bb A7] [1,2,92] [1] Aw hq
theorem A2p(Aa:¬((Ab t).length:Int)<2)(Am:((Ab t).length:Int)>7)(cx:Cx)(Aw:cx.n=113){Q:A4->S->Prop}(hq:Q (.normal) (S.mk [(1,.lp 1 0),(2,A6 0),(92,.v (.bool true))] [(1,Cz t)] xe)):PW prog cx (AS f149 5) (JZ t xe) Q:=
 pw A9 113 [rp 3 (Bb A7),sl (Tp.A0 (Ab t)),rp 2 (Bb A7),rp 3 (Ar Aa),sl (Tp.A0 (Ab t)),Ar Aa,Bb A7,Ar Aa,Bb A7,rp 6 (BL Am),Bb A7,BL Am,Bb A7] [1,2,92] [1] Aw hq
theorem A2q(Aa:¬((Ab t).length:Int)<2)(Am:¬((Ab t).length:Int)>7)(Az:((Ag t).length:Int)>0)(cx:Cx)(Aw:cx.n=113){Q:A4->S->Prop}(hq:Q (.normal) (S.mk [(1,.lp 1 0),(2,A6 0),(92,.v (.bool (((Ag t).length:Int) != ((Ab t).length:Int) - 1)))] [(1,Cz t)] xe)):PW prog cx (AS f149 5) (JZ t xe) Q:=
 pw A9 113 [rp 3 (Bb A7),sl (Tp.A0 (Ab t)),rp 2 (Bb A7),rp 3 (Ar Aa),sl (Tp.A0 (Ab t)),Ar Aa,Bb A7,Ar Aa,Bb A7,rp 3 (Ar Am),sl (A5 (Ag t)),rp 2 (Ar Am),rp 3 (BL Az),sl (A5 (Ag t)),rp 3 (BL Az),sl (Tp.A0 (Ab t)),BL Az,wr (((Ab t).length:Int) - 1),BL Az,Ar Am,BL Az,Bb A7,Ar Am,Bb A7] [1,2,92] [1] Aw hq
theorem A2r(Aa:¬((Ab t).length:Int)<2)(Am:¬((Ab t).length:Int)>7)(Az:¬((Ag t).length:Int)>0)(cx:Cx)(Aw:cx.n=113){Q:A4->S->Prop}(hq:Q (.normal) (S.mk [(1,.lp 1 0),(2,A6 0),(92,.v (.bool false))] [(1,Cz t)] xe)):PW prog cx (AS f149 5) (JZ t xe) Q:=
 pw A9 113 [rp 3 (Bb A7),sl (Tp.A0 (Ab t)),rp 2 (Bb A7),rp 3 (Ar Aa),sl (Tp.A0 (Ab t)),Ar Aa,Bb A7,Ar Aa,Bb A7,rp 3 (Ar Am),sl (A5 (Ag t)),rp 2 (Ar Am),rp 8 (Ar Az),Ar Am,Ar Az,Bb A7,Ar Am,Bb A7] [1,2,92] [1] Aw hq
end
theorem A2s(t:Tp)(xe:Ext)(A7:¬AB t=6)(cx:Cx)(Aw:cx.n=113){Q:A4->S->Prop}(hq:Q (.normal) (S.mk [(1,.lp 1 0),(2,A6 0),(92,.v (.bool false))] [(1,Cz t)] xe)):PW prog cx (AS f149 5) (JZ t xe) Q:=
 pw A9 113 [rp 9 (Ay A7)] [1,2,92] [1] Aw hq
def Cy(t:Tp):Bool:=(if AB t=6 then (if ((Ab t).length:Int)<2 then (true) else (if ((Ab t).length:Int)>7 then (true) else (if ((Ag t).length:Int)>0 then ((((Ag t).length:Int) != ((Ab t).length:Int) - 1)) else (false)))) else (false))
theorem cM(t:Tp)(xe:Ext):(Ob.ES 113 (AS f149 5) (JZ t xe) (.normal) (S.mk [(1,.lp 1 0),(2,A6 0),(92,.v (.bool (Cy t)))] [(1,Cz t)] xe)).ok prog:=by
 intro cx Aw
 by_cases g0:AB t=6
 ·by_cases g1:((Ab t).length:Int)<2
  ·exact A2o t xe g0 g1 cx Aw ⟨rfl,by rw [show Cy t=(true) by unfold Cy; rw [iP g0,iP g1]]⟩
  ·by_cases g2:((Ab t).length:Int)>7
   ·exact A2p t xe g0 g1 g2 cx Aw ⟨rfl,by rw [show Cy t=(true) by unfold Cy; rw [iP g0,iN g1,iP g2]]⟩
   ·by_cases g3:((Ag t).length:Int)>0
    ·exact A2q t xe g0 g1 g2 g3 cx Aw ⟨rfl,by rw [show Cy t=((((Ag t).length:Int) != ((Ab t).length:Int) - 1)) by unfold Cy; rw [iP g0,iN g1,iN g2,iP g3]]⟩
    ·exact A2r t xe g0 g1 g2 g3 cx Aw ⟨rfl,by rw [show Cy t=(false) by unfold Cy; rw [iP g0,iN g1,iN g2,iN g3]]⟩
 ·exact A2s t xe g0 cx Aw ⟨rfl,by rw [show Cy t=(false) by unfold Cy; rw [iN g0]]⟩
section
variable (t:Tp) (xe:Ext)
include t xe
theorem A2t(A7:AB t=4)(Aa:Fx (An t) true=false)(cx:Cx)(Aw:cx.n=113){Q:A4->S->Prop}(hq:Q (.normal) (S.mk [(1,.lp 1 0),(2,A6 0),(112,.v (.bool true))] [(1,Cz t)] xe)):PW prog cx (AS f149 7) (JZ t xe) Q:=
 pw A9 113 [rp 3 (Bb A7),cl (@rco (An t) (true)),rp 2 (Bb A7),rp 6 (AV (B0 Aa))] [1,2,112] [1] Aw hq
theorem A2u(A7:AB t=4)(Aa:Fx (An t) true=true)(cx:Cx)(Aw:cx.n=113){Q:A4->S->Prop}(hq:Q (.normal) (S.mk [(1,.lp 1 0),(2,A6 0),(112,.v (.bool false))] [(1,Cz t)] xe)):PW prog cx (AS f149 7) (JZ t xe) Q:=
 pw A9 113 [rp 3 (Bb A7),cl (@rco (An t) (true)),rp 2 (Bb A7),rp 4 (AM (AI Aa)),rp 4 (en (AB t) 5),AM (AI Aa),en (AB t) 5,AM (AI Aa)] [1,2,112] [1] Aw hq
theorem A2v(A7:¬AB t=4)(Aa:AB t=5)(cx:Cx)(Aw:cx.n=113){Q:A4->S->Prop}(hq:Q (.normal) (S.mk [(1,.lp 1 0),(2,A6 0),(112,.v (.bool !Fx (An t) false))] [(1,Cz t)] xe)):PW prog cx (AS f149 7) (JZ t xe) Q:=
 pw A9 113 [rp 5 (Ay A7),rp 4 (bf false),rp 3 (Bb Aa),cl (@rco (An t) (false)),Bb Aa,bf false,Bb Aa,bf false] [1,2,112] [1] Aw hq
theorem A2w(A7:¬AB t=4)(Aa:¬AB t=5)(cx:Cx)(Aw:cx.n=113){Q:A4->S->Prop}(hq:Q (.normal) (S.mk [(1,.lp 1 0),(2,A6 0),(112,.v (.bool false))] [(1,Cz t)] xe)):PW prog cx (AS f149 7) (JZ t xe) Q:=
 pw A9 113 [rp 5 (Ay A7),rp 4 (bf false),rp 4 (Ay Aa),bf false,Ay Aa,bf false] [1,2,112] [1] Aw hq
end
def Dd(t:Tp):Bool:=(if AB t=4 then (if Fx (An t) true=true then (false) else (true)) else (if AB t=5 then (!Fx (An t) false) else (false)))
theorem s9(t:Tp)(xe:Ext):(Ob.ES 113 (AS f149 7) (JZ t xe) (.normal) (S.mk [(1,.lp 1 0),(2,A6 0),(112,.v (.bool (Dd t)))] [(1,Cz t)] xe)).ok prog:=by
 intro cx Aw
 by_cases g0:AB t=4
 ·by_cases g1:Fx (An t) true=true
  ·exact A2u t xe g0 g1 cx Aw ⟨rfl,by rw [show Dd t=(false) by unfold Dd; rw [iP g0,iP g1]]⟩
  ·exact A2t t xe g0 (Bool.eq_false_iff.2 g1) cx Aw ⟨rfl,by rw [show Dd t=(true) by unfold Dd; rw [iP g0,iN g1]]⟩
 ·by_cases g1:AB t=5
  ·exact A2v t xe g0 g1 cx Aw ⟨rfl,by rw [show Dd t=(!Fx (An t) false) by unfold Dd; rw [iN g0,iP g1]]⟩
  ·exact A2w t xe g0 g1 cx Aw ⟨rfl,by rw [show Dd t=(false) by unfold Dd; rw [iN g0,iN g1]]⟩
def mdN:Md:=⟨fun _=>some false,fun t=>t==1000001||t==1000003||t==1000005||t==1000007⟩
def E7(t:Tp):Int:=(if AZ t=true then 1 else (if E6 t=true then 13 else (if Cy t=true then 13 else (if Dd t=true then 3 else 0))))
theorem rtn(t:Tp):Pu 149 [.agg (AO t)] (rI (E7 t)):=by
 by_cases h0:AZ t=true
 ·simp only [E7,iP h0]; exact pu mdN (fun e=>[lg (@Tb (t) (e)),AV h0]) func149
 ·by_cases h1:E6 t=true
  ·simp only [E7,iN h0,iP h1]; exact pu mdN (fun e=>[lg (@Tb (t) (e)),AM (Db h0),lg (@VO (t) (e)),AV h1]) func149
  ·by_cases h2:Cy t=true
   ·simp only [E7,iN h0,iN h1,iP h2]; exact pu mdN (fun e=>[lg (@Tb (t) (e)),AM (Db h0),lg (@VO (t) (e)),AM (Db h1),lg (@cM (t) (e)),AV h2]) func149
   ·by_cases h3:Dd t=true
    ·simp only [E7,iN h0,iN h1,iN h2,iP h3]; exact pu mdN (fun e=>[lg (@Tb (t) (e)),AM (Db h0),lg (@VO (t) (e)),AM (Db h1),lg (@cM (t) (e)),AM (Db h2),lg (@s9 (t) (e)),AV h3]) func149
    ·simp only [E7,iN h0,iN h1,iN h2,iN h3]; exact pu mdN (fun e=>[lg (@Tb (t) (e)),AM (Db h0),lg (@VO (t) (e)),AM (Db h1),lg (@cM (t) (e)),AM (Db h2),lg (@s9 (t) (e)),AM (Db h3)]) func149
abbrev sB(t:Tp)(Ca:Tp->Int)(j:Int)(n:Int)(e:Ext):S:=S.mk [(2,A6 0),(3,A6 n),(7,vL 9 (Tp.cs (Ab t))),(8,A6 ((Ab t).length:Int)),(9,A6 j)] [] e
def HM(Ca:Tp->Int):List Tp->(Int)->(Int)
 | [],n=>(n)
 | el::r,n=>HM Ca r (WD true n (Ca el))
def cN(t:Tp)(Ca:Tp->Int)(e:Ext)(p:(Int)):A4 × S:=(.exit 0,S.mk [(2,A6 0),(3,A6 p),(7,vL 9 (Tp.cs (Ab t))),(8,A6 ((Ab t).length:Int))] [] e)
theorem rtd(t:Tp)(Ca:Tp->Int)(BM:∀w:Tp,w∈Ab t->Pu 100 [.agg (AO w)] (.ret (.int .i64 (Ca w))))(n:Int)(e:Ext)(hN:(Ab t).length<=1000000000)  : (Ob.loop 20 (Au f100 0) (sB t Ca 0 n e) (cN t Ca e (HM Ca ((Ab t))  n)).1 (cN t Ca e (HM Ca ((Ab t))  n)).2).ok prog:=by
 refine CL ((Ab t).length) (fun j n=>sB t Ca j n e) (fun i n=>HM Ca (List.drop i ((Ab t)))  n) (cN t Ca e) (fun i n=>True) kR ?_ n trivial
 rintro i n hi -
 rcases Nat.lt_or_ge i ((Ab t).length) with Ac | Cm
 ·have hd:=At Ac
  exact lN A9 [dt ((i:Int)<((Ab t).length:Int)),DH (Ab t) (i:Int),I5 (Ab t) i Ac,cl (@BM (List.getD (Ab t) i default) (by simp_all)),wr ((i:Int)+1)] Ac (WD true n (Ca (List.getD (Ab t) i default))) trivial (by rw [hd,HM])
 ·have he:i=(Ab t).length:=by omega
  exact lX A9 [df ((i:Int)<((Ab t).length:Int))] (n) (by rw [he,List.drop_length,HM])
theorem Agu(t:Tp)(Ca:Tp->Int)(BM:∀w:Tp,w∈Ab t->Pu 100 [.agg (AO w)] (.ret (.int .i64 (Ca w))))(hN:(Ab t).length<=1000000000)(hb:HM Ca (Ab t) 0+1<=9223372036854775807)(hc : -9223372036854775808<=HM Ca (Ab t) 0+1):Pu 100 [.agg (AO t)] (rI (HM Ca (Ab t) 0+1)):=
 pu A9 (fun e=>[sl (Tp.A0 (Ab t)),lq (@rtd (t) (Ca) BM (0) (e) hN),ai (IntKind.wrap .i64 (HM Ca (Ab t) 0+1)) (HM Ca (Ab t) 0+1) (wrap64 hc hb)]) func100
abbrev sC(t:Tp)(xe:Ext)(ff:Tp->Int)(j:Int)   : S:=S.mk [(2,A6 0),(13,vL 9 (Tp.cs (Ab t))),(14,A6 ((Ab t).length:Int)),(15,A6 j)] [] xe
inductive MI where
 | e0 (el:Tp)
 | e1
def HN(ff:Tp->Int):List Tp->MI
 | []=>(MI.e1)
 | el::r=>(if ff el=0 then HN ff r  else (MI.e0 el))
def cO(t:Tp)(xe:Ext)(ff:Tp->Int)  : MI->A4 × S
 | .e0 el=>(.ret,S.mk [(2,A6 (ff el)),(13,vL 9 (Tp.cs (Ab t))),(14,A6 ((Ab t).length:Int))] [] xe)
 | .e1=>(.exit 0,S.mk [(2,A6 0),(13,vL 9 (Tp.cs (Ab t))),(14,A6 ((Ab t).length:Int))] [] xe)
theorem cP(t:Tp)(xe:Ext)(ff:Tp->Int)(BM:∀w:Tp,w∈Ab t->Pu 101 [.agg (AO w)] (.ret (.int .i64 (ff w))))(hN:(Ab t).length<=1000000000):(Ob.loop 25 (Au f101 0) (sC t xe ff 0) (cO t xe ff  (HN ff ((Ab t)))).1 (cO t xe ff  (HN ff ((Ab t)))).2).ok prog:=by
 refine CL ((Ab t).length) (fun j _=>sC t xe ff j) (fun i _=>HN ff (List.drop i ((Ab t)))) (cO t xe ff) (fun i _=>True) kR ?_ () trivial
 rintro i u hi -
 rcases Nat.lt_or_ge i ((Ab t).length) with Ac | Cm
 ·have hd:=At Ac
  by_cases h0:ff (List.getD (Ab t) i default)=0
  ·exact lN A9 [dt ((i:Int)<((Ab t).length:Int)),DH (Ab t) (i:Int),I5 (Ab t) i Ac,cl (@BM (List.getD (Ab t) i default) (by simp_all)),B1 h0,wr ((i:Int)+1)] Ac () trivial (by rw [hd,HN,iP h0])
  ·exact lX A9 [dt ((i:Int)<((Ab t).length:Int)),DH (Ab t) (i:Int),I5 (Ab t) i Ac,cl (@BM (List.getD (Ab t) i default) (by simp_all)),Bi h0] (MI.e0 (List.getD ((Ab t)) i default)) (by rw [hd,HN,iN h0])
 ·have he:i=(Ab t).length:=by omega
  exact lX A9 [df ((i:Int)<((Ab t).length:Int))] (MI.e1) (by rw [he,List.drop_length,HN])
section
variable (t:Tp) (ff:Tp->Int) (BM:∀w:Tp,w∈Ab t->Pu 101 [.agg (AO w)] (.ret (.int .i64 (ff w)))) (hN:(Ab t).length<=1000000000)
include t ff BM hN
theorem A9k(A7:¬E7 t=0):Pu 101 [.agg (AO t)] (rI (E7 t)):=
 pm A9 [cl (@rtn (t)),Bi A7] func101
theorem A9l(A7:E7 t=0)(I6:Tp)(Am:HN ff (Ab t)=MI.e0 I6):Pu 101 [.agg (AO t)] (rI (ff I6)):=
 pu A9 (fun e=>[cl (@rtn (t)),B1 A7,sl (Tp.A0 (Ab t)),lq (rz (cP (t) (e) (ff) BM hN) Am)]) func101
theorem A9m(A7:E7 t=0)(Aa:HN ff (Ab t)=MI.e1):Pu 101 [.agg (AO t)] (rI 0):=
 pu A9 (fun e=>[cl (@rtn (t)),B1 A7,sl (Tp.A0 (Ab t)),lq (rz (cP (t) (e) (ff) BM hN) Aa)]) func101
end
theorem VP(Ca:Tp->Int):∀ (l:List Tp) (n:Int),HM Ca l n=HG Ca l n
 | [],_=>rfl
 | x::r,n=>by rw [HM,HG,VP Ca r]
theorem cQ:∀ (d:Nat) (t:Tp),A3 (AO t)<d->d<=100000001->Pu 100 [.agg (AO t)] (.ret (.int .i64 (VE d t)))
 | 0,_,h,_=>by omega
 | d+1,t,h,hs=>by
  have hb:=VF (f:=VE d) (B:=d) (Ab t) 0 oM oM fun w _=>aN d w
  have:=Agu t (VE d) (fun w hw=>cQ d w (by have:=F8 t; have:=Tp.mem hw; omega) oM) (by have:=F8 t; have:=Tp.BS (Ab t); omega) (by rw [VP]; omega) (by rw [VP]; omega)
  rw [VP] at this
  exact this
theorem A9n(t:Tp)(hs:A3 (AO t)<=100000000):Pu 100 [.agg (AO t)] (.ret (.int .i64 (tdF t))):=cQ (A3 (AO t)+1) t oM oM
theorem Agv(t:Tp):AZ t=BF t (BB t) (DV t (BB t)):=by
 unfold AZ BF BB DV
 by_cases h0:AB t<1
 ·rw [iP h0,iP h0]
 ·rw [iN h0,iN h0]
  by_cases h1:AB t>6
  ·rw [iP h1,iP h1]
  ·rw [iN h1,iN h1]
   by_cases h4:AB t=4
   ·have h6:¬AB t=6:=by omega
    by_cases hm:An t=ByteArray.mk #[] <;> simp [h4,hm]
   ·by_cases h5:AB t=5
    ·have h6:¬AB t=6:=by omega
     by_cases hm:An t=ByteArray.mk #[] <;> simp [h5,hm]
    ·by_cases h6:AB t=6
     ·by_cases hm:An t=ByteArray.mk #[] <;> simp [h6,hm]
     ·by_cases hm:An t=ByteArray.mk #[] <;> simp [h4,h5,h6,hm]
theorem Agw(t:Tp):arE t=if E6 t=true then 13 else if Cy t=true then 13 else 0:=by
 unfold arE E6 Cy
 by_cases h4:AB t=4
 ·have h6:¬AB t=6:=by omega
  rw [iP h4,iP h4,iN h6]
  by_cases hl:((Ab t).length:Int)>6
  ·rw [iP hl,decide_eq_true hl]; rfl
  ·rw [iN hl,decide_eq_false hl]; rfl
 ·rw [iN h4,iN h4]
  by_cases h6:AB t=6
  ·rw [iP h6,iP h6]
   by_cases h2:((Ab t).length:Int)<2
   ·rw [iP h2,iP h2]; rfl
   ·rw [iN h2,iN h2]
    by_cases h7:((Ab t).length:Int)>7
    ·rw [iP h7,iP h7]; rfl
    ·rw [iN h7,iN h7]
     by_cases hn:((Ag t).length:Int)=0
     ·rw [iP hn,iN (by omega:¬((Ag t).length:Int)>0)]; rfl
     ·rw [iN hn,iP (by omega:((Ag t).length:Int)>0)]
      by_cases he:((Ag t).length:Int)=((Ab t).length:Int) - 1
      ·rw [iP he,he]; simp
      ·rw [iN he,bne_iff_ne.2 he]; rfl
  ·rw [iN h6,iN h6]; rfl
theorem sE(t:Tp)(c:Bool):Fx (An t) c=(decide (CJ (BE (An t))=0)&&(Ec t==c)):=by
 unfold Fx Ec
 rw [show Int.toNat 0=0 from rfl]
 by_cases h:CJ (BE (An t))=0
 ·rw [iP h,decide_eq_true h,Bool.true_and]
  split <;> rfl
 ·rw [iN h,decide_eq_false h,Bool.false_and]
theorem sF(t:Tp)(ff:Tp->Int):FV t ff=if E7 t=0 then Bg ff (Ab t) else E7 t:=by
 have hd:(if Bg ff (Ab t)=0 then (0:Int) else Bg ff (Ab t))=Bg ff (Ab t):=by split <;> simp_all
 unfold FV E7
 rw [Agv,Agw,hd]
 cases h1:BF t (BB t) (DV t (BB t)) with
 | true=>rfl
 | false=>
  cases h3:E6 t with
  | true=>rfl
  | false=>
   cases h5:Cy t with
   | true=>rfl
   | false=>
    simp only [Bool.false_eq_true,if_false,if_true]
    unfold Dd
    rw [sE,sE]
    unfold BB
    by_cases h4:AB t=4
    ·simp only [h4,if_true]
     by_cases hc:CJ (BE (An t))=0
     ·rw [iP hc,decide_eq_true hc]
      cases Ec t <;> rfl
     ·rw [iN hc,decide_eq_false hc]; rfl
    ·by_cases h5:AB t=5
     ·simp only [h5,if_true]
      by_cases hc:CJ (BE (An t))=0
      ·rw [decide_eq_true hc]
       cases Ec t <;> simp [hc]
      ·rw [decide_eq_false hc]; simp [hc]
     ·simp [h4,h5]
theorem cR(ff:Tp->Int):∀l:List Tp,(Bg ff l=0->HN ff l = .e1)/\(¬Bg ff l=0->∃w,HN ff l = .e0 w/\ff w=Bg ff l)
 | []=>⟨fun _=>rfl,fun h=>absurd rfl h⟩
 | c::r=>by
  have ih:=cR ff r
  by_cases hp:ff c=0
  ·simp only [Bg,HN,hp,if_true]; exact ih
  ·simp only [Bg,HN,hp,if_false]
   exact ⟨fun h=>h.elim,fun _=>⟨c,rfl,rfl⟩⟩
theorem sG:∀ (d:Nat) (t:Tp),A3 (AO t)<d->d<=100000001->Pu 101 [.agg (AO t)] (.ret (.int .i64 (mL d t)))
 | 0,_,h,_=>by omega
 | d+1,t,h,hs=>by
  have h1:=F8 t
  have h2:=Tp.BS (Ab t)
  have hk:∀w:Tp,w∈Ab t->Pu 101 [.agg (AO w)] (.ret (.int .i64 (mL d w))):=fun w hw=>sG d w (by have:=Tp.mem hw; omega) oM
  rw [mL,sF]
  by_cases h0:E7 t=0
  ·rw [iP h0]
   by_cases h5:Bg (mL d) (Ab t)=0
   ·rw [h5]; exact A9m t _ hk oM h0 ((cR _ _).1 h5)
   ·obtain ⟨w,e1,e2⟩:=(cR _ _).2 h5
    rw [<-e2]; exact A9l t _ hk oM h0 w e1
  ·rw [iN h0]; exact A9k t _ hk oM h0
theorem rtT(t:Tp)(hs:A3 (AO t)<=100000000):Pu 101 [.agg (AO t)] (.ret (.int .i64 (fmF t))):=sG (A3 (AO t)+1) t oM oM
def Uv(t:Tp):Int:=(if tdF t>40 then 8 else (fmF t))
theorem rtc(t:Tp)(hs:A3 (AO t)<=100000000):Pu 57 [.agg (AO t)] (rI (Uv t)):=by
 by_cases h0:tdF t>40
 ·simp only [Uv,iP h0]; exact pm A9 [cl (@A9n (t) hs),BL h0] func57
 ·simp only [Uv,iN h0]; exact pm A9 [cl (@A9n (t) hs),Ar h0,cl (@rtT (t) hs)] func57
theorem A2x(t:Tp)(hs:A3 (AO t)<=100000000):Pu 57 [.agg (AO t)] (.ret (.int .i64 (E5 t))):=rtc t hs
theorem gTp{l:List Tp}{i:Nat}(h:i<l.length):l.getD i default∈l:=Bm h
abbrev sH(t:Tp)(pf:Tp->Tp)(j:Int)(out:List Tp)(e:Ext):S:=S.mk [(2,.lp 2 0),(3,.lp 3 0),(12,vL 9 (Tp.cs (Ab t))),(13,A6 ((Ab t).length:Int)),(14,A6 j)] [(2,[A6 0,vS Ai,.v .A2,.v .A2,A6 0,vS Ai,A6 0,.v .A2,.v .A2]),(3,[A6 (AB t),vS (An t),.uniq 43 9 (Tp.cs out),.v .A2,A6 0,vS Ai,A6 0,.v .A2,.v .A2])] e
def K0(pf:Tp->Tp):List Tp->(List Tp)->(List Tp)
 | [],out=>(out)
 | el::r,out=>K0 pf r (out++[pf el])
def cS(t:Tp)(pf:Tp->Tp)(e:Ext)(p:(List Tp)):A4 × S:=(.exit 0,S.mk [(2,.lp 2 0),(3,.lp 3 0),(12,vL 9 (Tp.cs (Ab t))),(13,A6 ((Ab t).length:Int))] [(2,[A6 0,vS Ai,.v .A2,.v .A2,A6 0,vS Ai,A6 0,.v .A2,.v .A2]),(3,[A6 (AB t),vS (An t),.uniq 43 9 (Tp.cs p),.v .A2,A6 0,vS Ai,A6 0,.v .A2,.v .A2])] e)
theorem pl0(t:Tp)(pf:Tp->Tp)(BM:∀w:Tp,w∈Ab t->Pu 69 [.agg (AO w)] (.ret (.agg (AO (pf w)))))(out:List Tp)(e:Ext)(hN:(Ab t).length<=1000000000)(hv:List.length out<=0):(Ob.loop 27 (Au f69 0) (sH t pf 0 out e) (cS t pf e (K0 pf ((Ab t))  out)).1 (cS t pf e (K0 pf ((Ab t))  out)).2).ok prog:=by
 refine CL ((Ab t).length) (fun j out=>sH t pf j out e) (fun i out=>K0 pf (List.drop i ((Ab t)))  out) (cS t pf e) (fun i out=>(out.length<=i)) kR ?_ out (by first | exact hv | omega)
 rintro i out hi hv
 try simp only at hv
 rcases Nat.lt_or_ge i ((Ab t).length) with Ac | Cm
 ·have hd:=At Ac
  exact lS A9 [dt ((i:Int)<((Ab t).length:Int)),DH (Ab t) (i:Int),I5 (Ab t) i Ac,cl (@BM (List.getD (Ab t) i default) (by simp_all)),am (List.length (Tp.cs out++(fun x=>Prod.snd x) (8+1,[AO (pf (List.getD (Ab t) i default))])) * (151+1)<=140737488355328) (by (simp only [List.length_append,List.length_cons,List.length_nil,A5,Pr.A0,Tp.A0]; omega)),wr ((i:Int)+1)] [2,3,12,13,14] [2,3] Ac (out++[pf (List.getD (Ab t) i default)]) (S.mk [(2,.lp 2 0),(3,.lp 3 0),(12,vL 9 (Tp.cs (Ab t))),(13,A6 ((Ab t).length:Int)),(14,A6 ((i:Int)+1))] [(2,[A6 0,vS Ai,.v .A2,.v .A2,A6 0,vS Ai,A6 0,.v .A2,.v .A2]),(3,[A6 (AB t),vS (An t),.uniq 43 9 (Tp.cs out++[AO (pf (List.getD (Ab t) i default))]),.v .A2,A6 0,vS Ai,A6 0,.v .A2,.v .A2])] e) ⟨⟨W,W,W,W,W,B7⟩,⟨Ws,⟨W,W,(.inl (by first | (simp only [List.nil_append,AK,AF,Pr.A1,Tp.A1,Ex.A1,Vr.A1,Df.A1]; done) | (simp only [List.nil_append,AK,AF,Pr.A1,Tp.A1,Ex.A1,Vr.A1,Df.A1]; rfl))),W,W,W,W,W,W,B7⟩,B7⟩,rfl⟩ (by first | assumption | omega | (apply gTp <;> first | assumption | omega | decide) | (simp only [List.length_append,List.length_cons,List.length_nil] at *; omega) | simp_all) (by rw [hd,K0])
 ·have he:i=(Ab t).length:=by omega
  exact lX A9 [df ((i:Int)<((Ab t).length:Int))] (out) (by rw [he,List.drop_length,K0])
theorem plL(t:Tp)(pf:Tp->Tp)(BM:∀w:Tp,w∈Ab t->Pu 69 [.agg (AO w)] (.ret (.agg (AO (pf w)))))(hN:(Ab t).length<=1000000000):Pu 69 [.agg (AO t)] (rA [pI (AB t),.str (An t),.sl 9 (Tp.cs (K0 pf (Ab t) [])),.sl 1 [],pI 0,.str Ai,pI 0,.sl 4 [],.sl 4 []]):=
 Ob.Ej (Wk.a (kr (kr (kr (kn 1 (kr (kr (kr (kn 4 (kn 4 (Co.r _))))))))))) (pu A9 (fun e=>[sl (Tp.A0 (Ab t)),lp (S.mk [(2,.lp 2 0),(3,.lp 3 0),(12,vL 9 (Tp.cs (Ab t))),(13,A6 ((Ab t).length:Int)),(14,A6 0)] [(2,[A6 0,vS Ai,.v .A2,.v .A2,A6 0,vS Ai,A6 0,.v .A2,.v .A2]),(3,[A6 (AB t),vS (An t),.v .A2,.v .A2,A6 0,vS Ai,A6 0,.v .A2,.v .A2])] e) (@pl0 (t) (pf) BM ([]) (e) hN (by (simp only [List.length_nil]; omega))) ⟨⟨W,W,W,W,W,B7⟩,⟨⟨W,W,W,W,W,W,W,W,W,B7⟩,⟨W,W,Wq,W,W,Wq,W,W,W,B7⟩,B7⟩,rfl⟩]) func69)
def Eo(t:Tp):BA:=(if AB t=1 then (ByteArray.mk #[73,110,116]) else (if AB t=2 then (ByteArray.mk #[66,111,111,108]) else (if AB t=3 then (ByteArray.mk #[67,101,108,108]) else (if AB t=4 then (if ((Ab t).length:Int)=0 then (An t) else Ai) else Ai))))
def CY(t:Tp):Bool:=(if AB t=1 then true else (if AB t=2 then true else (if AB t=3 then true else (if AB t=4 then (if ((Ab t).length:Int)=0 then true else false) else false))))
theorem sOf(t:Tp):Pu 68 [.agg (AO t)] (.ret (.Bf [.str (Eo t),.bool (CY t)])):=by
 by_cases h0:AB t=1
 ·simp only [Eo,CY,iP h0]; exact pm A9 [Bb h0] func68
 ·by_cases h1:AB t=2
  ·simp only [Eo,CY,iN h0,iP h1]; exact pm A9 [Ay h0,Bb h1] func68
  ·by_cases h2:AB t=3
   ·simp only [Eo,CY,iN h0,iN h1,iP h2]; exact pm A9 [Ay h0,Ay h1,Bb h2] func68
   ·by_cases h3:AB t=4
    ·by_cases h4:((Ab t).length:Int)=0
     ·simp only [Eo,CY,iN h0,iN h1,iN h2,iP h3,iP h4]; exact pm A9 [Ay h0,Ay h1,Ay h2,Bb h3,sl (Tp.A0 (Ab t)),Bb h4] func68
     ·simp only [Eo,CY,iN h0,iN h1,iN h2,iP h3,iN h4]; exact pm A9 [Ay h0,Ay h1,Ay h2,Bb h3,sl (Tp.A0 (Ab t)),Ay h4] func68
    ·simp only [Eo,CY,iN h0,iN h1,iN h2,iN h3]; exact pm A9 [Ay h0,Ay h1,Ay h2,Ay h3] func68
theorem A2y(l:List BA)(hn:l.length<=1000000000):Pu 30 [.sl 1 (Ae l)] (.own 74 1 (Ae l)):=by
 refine ⟨by kernel_rfl,fun e=>?_⟩
 refine C7.enter func30 rfl (show 1<=8 by decide) fun cx Aw NM=>?_
 refine I8 ?_
 refine Eb A9 8 50 [] [0] [] (s':=⟨[(0,.v (.sl 1 (Ae l)))],[],e⟩) (pe := .normal) (C4:=[]) (l:=[]) mixed Aw kR kR trivial ?_
 show PW _ _ _ _ _
 refine I8 (I8 ?_)
 intro g l0 a w hs
 refine wp_region_lit ?_
 have hn':∀k,k<8->k<cx.n:=fun k hk=>by rw [Aw]; exact hk
 refine (SK (p := .sl 1 (Ae l)) rfl rfl rfl (hn' _ dD) rfl ?_:PL _ _ _ _ _ _) g l0 a w hs
 refine Q9 (z:=1) (es:=Ae l) (el:=74) rfl rfl rfl (hn' _ dD) kR rfl fun b hb=>?_
 refine NU ?_
 show PW _ _ _ _ _
 cases b with
 | true=>
  have h0:=hb rfl
  refine PW.Xz (t:=⟨[(4,.v (.bool true))],[],e⟩) ⟨⟨W,B7⟩,trivial,rfl⟩ ?_
  refine PW.Rg ?_
  refine Eb A9 8 50 [Du.bit true] [2] [] (s':=⟨[(2,.v .A2)],[],e⟩) (pe := .ret) (C4:=[]) (l:=[.bit true true]) mixed Aw kR kR ⟨rfl,B7⟩ ?_
  refine ⟨⟨[(2,.uniq 74 1 [])],[],e⟩,⟨⟨.inr rfl,B7⟩,trivial,rfl⟩,?_⟩
  refine .inr ⟨2,74,1,[],rfl,rfl,by decide,?_⟩
  rw [h0]
  exact ⟨rfl,rfl⟩
 | false=>
  refine PW.Xz (t:=⟨[(0,.v (.sl 1 (Ae l))),(4,.v (.bool false))],[],e⟩) ⟨⟨W,W,B7⟩,trivial,rfl⟩ ?_
  refine Eb A9 8 50 [Du.bit false] [0] [] (s':=⟨[(0,.v (.sl 1 (Ae l)))],[],e⟩) (pe := .normal) (C4:=[]) (l:=[.bit false false]) mixed Aw kR kR ⟨rfl,B7⟩ ?_
  show PW _ _ _ _ _
  refine Eb A9 8 50 [] [2] [] (s':=⟨[(2,.uniq 74 1 (Ae l))],[],e⟩) (pe := .ret) (C4:=[]) (l:=[.bit (decide ((Ae l).length * 16<=140737488355328)) true]) mixed Aw kR kR ⟨Ok (dT (by rw [A5]; omega)),B7⟩ ?_
  exact .inr ⟨2,74,1,Ae l,rfl,rfl,by decide,rfl,rfl⟩
theorem A9o(l:List Vr)(hn:l.length<=1000000000):Pu 126 [.sl 2 (Vr.cs l)] (.own 104 2 (Vr.cs l)):=by
 refine ⟨by kernel_rfl,fun e=>?_⟩
 refine C7.enter func126 rfl (show 1<=8 by decide) fun cx Aw NM=>?_
 refine I8 ?_
 refine Eb A9 8 50 [] [0] [] (s':=⟨[(0,.v (.sl 2 (Vr.cs l)))],[],e⟩) (pe := .normal) (C4:=[]) (l:=[]) mixed Aw kR kR trivial ?_
 show PW _ _ _ _ _
 refine I8 (I8 ?_)
 intro g l0 a w hs
 refine wp_region_lit ?_
 have hn':∀k,k<8->k<cx.n:=fun k hk=>by rw [Aw]; exact hk
 refine (SK (p := .sl 2 (Vr.cs l)) rfl rfl rfl (hn' _ dD) rfl ?_:PL _ _ _ _ _ _) g l0 a w hs
 refine Q9 (z:=2) (es:=Vr.cs l) (el:=104) rfl rfl rfl (hn' _ dD) kR rfl fun b hb=>?_
 refine NU ?_
 show PW _ _ _ _ _
 cases b with
 | true=>
  have h0:=hb rfl
  refine PW.Xz (t:=⟨[(4,.v (.bool true))],[],e⟩) ⟨⟨W,B7⟩,trivial,rfl⟩ ?_
  refine PW.Rg ?_
  refine Eb A9 8 50 [Du.bit true] [2] [] (s':=⟨[(2,.v .A2)],[],e⟩) (pe := .ret) (C4:=[]) (l:=[.bit true true]) mixed Aw kR kR ⟨rfl,B7⟩ ?_
  refine ⟨⟨[(2,.uniq 104 2 [])],[],e⟩,⟨⟨.inr rfl,B7⟩,trivial,rfl⟩,?_⟩
  refine .inr ⟨2,104,2,[],rfl,rfl,by decide,?_⟩
  rw [h0]
  exact ⟨rfl,rfl⟩
 | false=>
  refine PW.Xz (t:=⟨[(0,.v (.sl 2 (Vr.cs l))),(4,.v (.bool false))],[],e⟩) ⟨⟨W,W,B7⟩,trivial,rfl⟩ ?_
  refine Eb A9 8 50 [Du.bit false] [0] [] (s':=⟨[(0,.v (.sl 2 (Vr.cs l)))],[],e⟩) (pe := .normal) (C4:=[]) (l:=[.bit false false]) mixed Aw kR kR ⟨rfl,B7⟩ ?_
  show PW _ _ _ _ _
  refine Eb A9 8 50 [] [2] [] (s':=⟨[(2,.uniq 104 2 (Vr.cs l))],[],e⟩) (pe := .ret) (C4:=[]) (l:=[.bit (decide ((Vr.cs l).length * 32<=140737488355328)) true]) mixed Aw kR kR ⟨Ok (dT (by rw [Vr.A0]; omega)),B7⟩ ?_
  exact .inr ⟨2,104,2,Vr.cs l,rfl,rfl,by decide,rfl,rfl⟩
theorem sI{v:Nv}{i:Nat}(hS:∀w∈BV v,(DW w).length<=1000000000)(h:i<(BV v).length):(DW ((BV v).getD i default)).length<=1000000000:=hS _ (Bm h)
theorem sJ{v:Nv}{i:Nat}(hH:∀w∈Bd v,(E0 w).length<=1000000000)(h:i<(Bd v).length):(E0 ((Bd v).getD i default)).length<=1000000000:=hH _ (Bm h)
abbrev OH(v:Nv)(name:BA)(j:Int)(e:Ext):S:=S.mk [(1,vS name),(2,.lp 2 0),(6,A6 j)] [(2,Dy v)] e
section
variable (v:Nv) (name:BA) (i:Nat) (e:Ext) (hi:i<(AX v).length) (hN:(AX v).length<=1000000000)
include v name i e hi hN
theorem A2z(A7:AE (List.getD (AX v) i default)=name)(cx:Cx)(Aw:cx.n=29){Q:A4->S->Prop}(hq:Q (.ret) (S.mk [(1,vS name),(2,.lp 2 0),(6,A6 (i:Int)),(4,vS (CD (List.getD (AX v) i default))),(5,.v (.bool true))] [(2,Dy v)] e)):PW prog cx (Au f227 0) (OH v name (i:Int) e) Q:=
 pw A9 29 [bt true,D2 (AX v) (i:Int),Gn (AX v) i hi,bt (ByteArray.toList (AE (List.getD (AX v) i default))==ByteArray.toList name) (BI A7),D2 (AX v) (i:Int),Gn (AX v) i hi] [1,2,6,4,5] [2] Aw hq
theorem A30(A7:¬AE (List.getD (AX v) i default)=name)(cx:Cx)(Aw:cx.n=29){Q:A4->S->Prop}(hq:Q (.normal) (S.mk [(1,vS name),(2,.lp 2 0),(6,A6 ((i:Int) - 1))] [(2,Dy v)] e)):PW prog cx (Au f227 0) (OH v name (i:Int) e) Q:=
 pw A9 29 [bt true,D2 (AX v) (i:Int),Gn (AX v) i hi,bf (ByteArray.toList (AE (List.getD (AX v) i default))==ByteArray.toList name) (Bp A7),wr ((i:Int) - 1)] [1,2,6,4,5] [2] Aw hq
end
theorem A31(v:Nv)(name:BA)(i:Nat)(e:Ext)(hi:i=0)(hN:(AX v).length<=1000000000)(cx:Cx)(Aw:cx.n=29){Q:A4->S->Prop}(hq:Q (.exit 0) (S.mk [(1,vS name),(2,.lp 2 0),(6,A6 (-1))] [(2,Dy v)] e)):PW prog cx (Au f227 0) (OH v name (-1) e) Q:=
 pw A9 29 [bf false] [1,2,6,4,5] [2] Aw hq
inductive GQ where
 | e0 (el:Vr)
 | e1
def Fb(name:BA):List Vr->GQ
 | []=>(GQ.e1)
 | el::r=>(if AE el=name then (GQ.e0 el) else Fb name r)
def OI(v:Nv)(name:BA)(e:Ext):GQ->A4 × S
 | .e0 el=>(.ret,S.mk [(1,vS name),(2,.lp 2 0),(4,vS (CD el)),(5,.v (.bool true))] [(2,Dy v)] e)
 | .e1=>(.exit 0,S.mk [(1,vS name),(2,.lp 2 0)] [(2,Dy v)] e)
theorem cT(v:Nv)(name:BA)(e:Ext)(hN:(AX v).length<=1000000000)(i:Nat)(hi0:i<=(AX v).length)  : (Ob.loop 29 (Au f227 0) (OH v name ((i:Int) - 1)  e) (OI v name e (Fb name (List.reverse (List.take i ((AX v)))))).1 (OI v name e (Fb name (List.reverse (List.take i ((AX v)))))).2).ok prog:=by
 refine Ob.Nq (P:=prog) (α:={ zz:Nat × Unit // zz.1<=(AX v).length }) (fun zz=>OH v name ((zz.1.1:Int) - 1)  e) (fun zz=>zz.1.1) (fun zz=>(OI v name e (Fb name (List.reverse (List.take zz.1.1 ((AX v))))))) ?_ ⟨(i,()),hi0⟩
 clear hi0
 clear  i
 rintro ⟨⟨i,u⟩,hi⟩ cx Aw
 simp only at hi  ⊢
 rcases i with _ | i
 ·rw [show (((0:Nat):Int) - 1) = -1 from rfl]
  have hr:(Fb name (List.reverse (List.take 0 ((AX v)))))=(GQ.e1):=by rw [List.take_zero,List.reverse_nil,Fb]
  refine A31 v name 0  e rfl hN   cx Aw (.inr ?_)
  rw [hr]
  exact ⟨by simp,rfl,xr⟩
 ·have Ac:i<(AX v).length:=by omega
  have hd:=Mx Ac
  rw [show (((i+1:Nat):Int) - 1)=(i:Int) by omega]
  by_cases h0:AE (List.getD (AX v) i default)=name
  ·have hr:(Fb name (List.reverse (List.take (i+1) ((AX v)))))=(GQ.e0 (List.getD ((AX v)) i default)):=by rw [hd,Fb,iP h0]
   refine A2z v name i  e Ac hN  h0 cx Aw (.inr ?_)
   rw [hr]
   exact ⟨by simp,rfl,xr⟩
  ·have hr:(Fb name (List.reverse (List.take (i+1) ((AX v)))))=(Fb name (List.reverse (List.take i ((AX v))))):=by rw [hd,Fb,iN h0]
   exact A30 v name i  e Ac hN  h0 cx Aw (.inl ⟨rfl,⟨(i,()),by simp only; omega⟩,by simp only; omega,xr,by simp only; rw [hr]⟩)
theorem A9p(v:Nv)(name:BA)(e:Ext)(hN:(AX v).length<=1000000000)(p0:Vr)(Be:(Fb name (List.reverse ((AX v))))=(GQ.e0 p0)):(Ob.loop 29 (Au f227 0) (OH v name (((AX v).length:Int) - 1)  e) (OI v name e (GQ.e0 p0)).1 (OI v name e (GQ.e0 p0)).2).ok prog:=by
 have:=cT v name e hN ((AX v).length)  (Nat.le_refl _)
 rw [List.take_length] at this
 rw [Be] at this
 exact this
theorem A9q(v:Nv)(name:BA)(e:Ext)(hN:(AX v).length<=1000000000)(Be:(Fb name (List.reverse ((AX v))))=(GQ.e1)):(Ob.loop 29 (Au f227 0) (OH v name (((AX v).length:Int) - 1)  e) (OI v name e (GQ.e1)).1 (OI v name e (GQ.e1)).2).ok prog:=by
 have:=cT v name e hN ((AX v).length)  (Nat.le_refl _)
 rw [List.take_length] at this
 rw [Be] at this
 exact this
theorem cU(name:BA):∀l:List Vr,Fb name l=if ix AE name l<l.length then .e0 (l.getD (ix AE name l) default) else .e1
 | []=>by simp [Fb,ix]
 | c::r=>by
  by_cases h:AE c=name
  ·simp [Fb,ix,h]
  ·simp only [Fb,ix,h,if_false,cU name r,List.length_cons,Nat.add_lt_add_iff_right,List.getD_cons_succ]
section
variable (v:Nv) (name:BA) (hN:(AX v).length<=1000000000)
include v name hN
theorem A9r(CX:Vr)(Aa:Fb name (List.reverse (AX v))=GQ.e0 CX):Pu 227 [.agg (BP v),.str name] (.ret (.Bf [.str (CD CX),.bool true])):=
 pu A9 (fun e=>[sl (Vr.A0 (AX v)),wr (((AX v).length:Int) - 1),lq (@A9p (v) (name) (e) hN CX Aa)]) func227
theorem A9s(A7:Fb name (List.reverse (AX v))=GQ.e1):Pu 227 [.agg (BP v),.str name] (.ret (.Bf [.str Ai,.bool false])):=
 pu A9 (fun e=>[sl (Vr.A0 (AX v)),wr (((AX v).length:Int) - 1),lq (@A9q (v) (name) (e) hN A7)]) func227
end
abbrev sK(v:Nv)(name:BA)(j:Int)(e:Ext):S:=S.mk [(1,vS name),(4,.lp 4 0),(17,vL 3 (Sy.cs (BV v))),(18,A6 ((BV v).length:Int)),(19,A6 j)] [(4,[vS Ai,.v .A2,vS Ai])] e
inductive MJ where
 | e0 (el:Sy)
 | e1
def HO(name:BA):List Sy->MJ
 | []=>(MJ.e1)
 | el::r=>(if HB el=name then (MJ.e0 el) else HO name r)
def cV(v:Nv)(name:BA)(e:Ext):MJ->A4 × S
 | .e0 el=>(.ret,S.mk [(1,vS name),(4,.lp 4 0),(17,vL 3 (Sy.cs (BV v))),(18,A6 ((BV v).length:Int)),(5,.v (.bool true))] [(4,syV el)] e)
 | .e1=>(.exit 1,S.mk [(1,vS name),(4,.lp 4 0),(17,vL 3 (Sy.cs (BV v))),(18,A6 ((BV v).length:Int))] [(4,[vS Ai,.v .A2,vS Ai])] e)
theorem cW(v:Nv)(name:BA)(Gp:¬name=ByteArray.mk #[116,97,103])(XF:¬name=ByteArray.mk #[118,97,108])(hS:∀w∈BV v,(DW w).length<=1000000000)(e:Ext)(hN:(BV v).length<=1000000000):(Ob.loop 34 (Au f272 0) (sK v name 0  e) (cV v name e (HO name ((BV v)))).1 (cV v name e (HO name ((BV v)))).2).ok prog:=by
 refine CL ((BV v).length) (fun j _=>sK v name j  e) (fun i _=>HO name (List.drop i ((BV v)))) (cV v name e) (fun i _=>True) kR ?_ () trivial
 rintro i u hi -
 rcases Nat.lt_or_ge i ((BV v).length) with Ac | Cm
 ·have hd:=At Ac
  by_cases h0:HB (List.getD (BV v) i default)=name
  ·exact lX A9 [dt ((i:Int)<((BV v).length:Int)),X6 (BV v) (i:Int),xSy (BV v) i Ac,bt (ByteArray.toList (HB (List.getD (BV v) i default))==ByteArray.toList name) (BI h0),cl (@A2y (DW (List.getD (BV v) i default)) (by (apply sI <;> first | assumption | omega | decide)))] (MJ.e0 (List.getD ((BV v)) i default)) (by rw [hd,HO,iP h0])
  ·exact lN A9 [dt ((i:Int)<((BV v).length:Int)),X6 (BV v) (i:Int),xSy (BV v) i Ac,bf (ByteArray.toList (HB (List.getD (BV v) i default))==ByteArray.toList name) (Bp h0),wr ((i:Int)+1)] Ac () trivial (by rw [hd,HO,iN h0])
 ·have he:i=(BV v).length:=by omega
  exact lX A9 [df ((i:Int)<((BV v).length:Int))] (MJ.e1) (by rw [he,List.drop_length,HO])
theorem cX(name:BA):∀l:List Sy,HO name l=if ix HB name l<l.length then .e0 (l.getD (ix HB name l) default) else .e1
 | []=>by simp [HO,ix]
 | c::r=>by
  by_cases h:HB c=name
  ·simp [HO,ix,h]
  ·simp only [HO,ix,h,if_false,cX name r,List.length_cons,Nat.add_lt_add_iff_right,List.getD_cons_succ]
theorem A9t(v:Nv)(name:BA)(hS:∀w∈BV v,(DW w).length<=1000000000)(hN:(BV v).length<=1000000000)(A7:name=ByteArray.mk #[116,97,103]):Pu 272 [.agg (BP v),.str name] (.ret (.Bf [.agg [.str (ByteArray.mk #[116,97,103]),.sl 1 [],.str (ByteArray.mk #[73,110,116])],.bool true])):=
 Ob.Ej (Wk.t (Co.c (Wk.a (kr (kn 1 (Co.r _)))) (Co.r _))) (pm A9 [bt (ByteArray.toList name==ByteArray.toList (ByteArray.mk #[116,97,103])) (BI A7)] func272)
section
variable (v:Nv) (name:BA) (hS:∀w∈BV v,(DW w).length<=1000000000) (hN:(BV v).length<=1000000000) (A7:¬name=ByteArray.mk #[116,97,103])
include v name hS hN A7
theorem A9u(Aa:name=ByteArray.mk #[118,97,108]):Pu 272 [.agg (BP v),.str name] (.ret (.Bf [.agg [.str (ByteArray.mk #[118,97,108]),.sl 1 [[.str (ByteArray.mk #[67,101,108,108])]],.str (ByteArray.mk #[73,110,116])],.bool true])):=
 pm A9 [bf (ByteArray.toList name==ByteArray.toList (ByteArray.mk #[116,97,103])) (Bp A7),bt (ByteArray.toList name==ByteArray.toList (ByteArray.mk #[118,97,108])) (BI Aa)] func272
theorem A9v(Aa:¬name=ByteArray.mk #[118,97,108])(Iu:Sy)(Az:HO name (BV v)=MJ.e0 Iu):Pu 272 [.agg (BP v),.str name] (.ret (.Bf [.agg (Tv Iu),.bool true])):=
 pu A9 (fun e=>[bf (ByteArray.toList name==ByteArray.toList (ByteArray.mk #[116,97,103])) (Bp A7),bf (ByteArray.toList name==ByteArray.toList (ByteArray.mk #[118,97,108])) (Bp Aa),sl (Sy.A0 (BV v)),lq (rz (cW (v) (name) A7 Aa hS (e) hN) Az)]) func272
end
theorem A9w(v:Nv)(name:BA)(hS:∀w∈BV v,(DW w).length<=1000000000)(hN:(BV v).length<=1000000000)(A7:¬name=ByteArray.mk #[116,97,103])(Aa:¬name=ByteArray.mk #[118,97,108])(Am:HO name (BV v)=MJ.e1):Pu 272 [.agg (BP v),.str name] (.ret (.Bf [.agg [.str Ai,.sl 1 [],.str Ai],.bool false])):=
 Ob.Ej (Wk.t (Co.c (Wk.a (kr (kn 1 (Co.r _)))) (Co.r _))) (pu A9 (fun e=>[bf (ByteArray.toList name==ByteArray.toList (ByteArray.mk #[116,97,103])) (Bp A7),bf (ByteArray.toList name==ByteArray.toList (ByteArray.mk #[118,97,108])) (Bp Aa),sl (Sy.A0 (BV v)),lq (rz (cW (v) (name) A7 Aa hS (e) hN) Am)]) func272)
abbrev sL(v:Nv)(name:BA)(j:Int)(e:Ext):S:=S.mk [(1,vS name),(4,.lp 4 0),(9,vL 2 (Ho.cs (Bd v))),(10,A6 ((Bd v).length:Int)),(11,A6 j)] [(4,[vS Ai,.v .A2])] e
inductive MK where
 | e0 (el:Ho)
 | e1
def HP(name:BA):List Ho->MK
 | []=>(MK.e1)
 | el::r=>(if Bj el=name then (MK.e0 el) else HP name r)
def cY(v:Nv)(name:BA)(e:Ext):MK->A4 × S
 | .e0 el=>(.ret,S.mk [(1,vS name),(4,.lp 4 0),(9,vL 2 (Ho.cs (Bd v))),(10,A6 ((Bd v).length:Int)),(5,.v (.bool true))] [(4,pY el)] e)
 | .e1=>(.exit 0,S.mk [(1,vS name),(4,.lp 4 0),(9,vL 2 (Ho.cs (Bd v))),(10,A6 ((Bd v).length:Int))] [(4,[vS Ai,.v .A2])] e)
theorem cZ(v:Nv)(name:BA)(hH:∀w∈Bd v,(E0 w).length<=1000000000)(e:Ext)(hN:(Bd v).length<=1000000000):(Ob.loop 26 (Au f274 0) (sL v name 0  e) (cY v name e (HP name ((Bd v)))).1 (cY v name e (HP name ((Bd v)))).2).ok prog:=by
 refine CL ((Bd v).length) (fun j _=>sL v name j  e) (fun i _=>HP name (List.drop i ((Bd v)))) (cY v name e) (fun i _=>True) kR ?_ () trivial
 rintro i u hi -
 rcases Nat.lt_or_ge i ((Bd v).length) with Ac | Cm
 ·have hd:=At Ac
  by_cases h0:Bj (List.getD (Bd v) i default)=name
  ·exact lX A9 [dt ((i:Int)<((Bd v).length:Int)),X7 (Bd v) (i:Int),xHo (Bd v) i Ac,bt (ByteArray.toList (Bj (List.getD (Bd v) i default))==ByteArray.toList name) (BI h0),cl (@A9o (E0 (List.getD (Bd v) i default)) (by (apply sJ <;> first | assumption | omega | decide)))] (MK.e0 (List.getD ((Bd v)) i default)) (by rw [hd,HP,iP h0])
  ·exact lN A9 [dt ((i:Int)<((Bd v).length:Int)),X7 (Bd v) (i:Int),xHo (Bd v) i Ac,bf (ByteArray.toList (Bj (List.getD (Bd v) i default))==ByteArray.toList name) (Bp h0),wr ((i:Int)+1)] Ac () trivial (by rw [hd,HP,iN h0])
 ·have he:i=(Bd v).length:=by omega
  exact lX A9 [df ((i:Int)<((Bd v).length:Int))] (MK.e1) (by rw [he,List.drop_length,HP])
theorem dA(name:BA):∀l:List Ho,HP name l=if ix Bj name l<l.length then .e0 (l.getD (ix Bj name l) default) else .e1
 | []=>by simp [HP,ix]
 | c::r=>by
  by_cases h:Bj c=name
  ·simp [HP,ix,h]
  ·simp only [HP,ix,h,if_false,dA name r,List.length_cons,Nat.add_lt_add_iff_right,List.getD_cons_succ]
theorem A32(v:Nv)(name:BA)(hH:∀w∈Bd v,(E0 w).length<=1000000000)(hN:(Bd v).length<=1000000000)(CX:Ho)(Aa:HP name (Bd v)=MK.e0 CX):Pu 274 [.agg (BP v),.str name] (.ret (.Bf [.agg (XC CX),.bool true])):=
 pu A9 (fun e=>[sl (Ho.A0 (Bd v)),lq (rz (cZ (v) (name) hH (e) hN) Aa)]) func274
theorem A33(v:Nv)(name:BA)(hH:∀w∈Bd v,(E0 w).length<=1000000000)(hN:(Bd v).length<=1000000000)(A7:HP name (Bd v)=MK.e1):Pu 274 [.agg (BP v),.str name] (.ret (.Bf [.agg [.str Ai,.sl 2 []],.bool false])):=
 Ob.Ej (Wk.t (Co.c (Wk.a (kr (kn 2 (Co.r _)))) (Co.r _))) (pu A9 (fun e=>[sl (Ho.A0 (Bd v)),lq (rz (cZ (v) (name) hH (e) hN) A7)]) func274)
abbrev sN(v:Nv)(u:Vr)(j:Int)(es:List (Int × PV))  : S:=S.mk [(2,.lp 2 0),(3,.lp 3 0),(4,.lp 4 0),(5,.v (PV.mp 0)),(18,vL 2 (Vr.cs (AX v))),(19,A6 ((AX v).length:Int)),(20,A6 j)] [(2,Dy v),(3,Qb u),(4,[.v .A2,.v .A2,.v .A2])] [(0,[LV.mm (MM.i es)])]
def CW(u:Vr):List Vr->Nat->(List (Int × PV))->(List (Int × PV))
 | [],i,es=>(es)
 | el::r,i,es=>(if AE el=AE u then CW u r (i+1) (Kh (i:Int) (EZ (i:Int) (.agg (FU el)) es)) else CW u r (i+1) (EZ (i:Int) (.agg (FU el)) es))
noncomputable def dB (v:Nv) (u:Vr)  (p:(List (Int × PV))):A4 × S:=(.exit 0,S.mk [(2,.lp 2 0),(3,.lp 3 0),(4,.lp 4 0),(5,.v (PV.mp 0)),(18,vL 2 (Vr.cs (AX v))),(19,A6 ((AX v).length:Int))] [(2,Dy v),(3,Qb u),(4,[.v .A2,.v .A2,.v .A2])] [(0,[LV.mm (MM.i p)])])
theorem kpq(v:Nv)(u:Vr)(es:List (Int × PV))(hN:(AX v).length<=1000000000)  : (Ob.loop 99 (Au f75 0) (sN v u 0 es) (dB v u  (CW u ((AX v)) 0 es)).1 (dB v u  (CW u ((AX v)) 0 es)).2).ok prog:=by
 refine CL ((AX v).length) (fun j es=>sN v u j es) (fun i es=>CW u (List.drop i ((AX v))) i es) (dB v u) (fun i es=>True) kR ?_ es trivial
 rintro i es hi -
 rcases Nat.lt_or_ge i ((AX v).length) with Ac | Cm
 ·have hd:=At Ac
  by_cases h0:AE (List.getD (AX v) i default)=AE u
  ·exact lS A9 [dt ((i:Int)<((AX v).length:Int)),D2 (AX v) (i:Int),Gn (AX v) i Ac,bt (ByteArray.toList (AE (List.getD (AX v) i default))==ByteArray.toList (AE u)) (BI h0),wr ((i:Int)+1)] [2,3,4,5,18,19,20] [2,3,4] Ac (Kh (i:Int) (EZ (i:Int) (.agg (FU (List.getD (AX v) i default))) es)) (S.mk [(2,.lp 2 0),(3,.lp 3 0),(4,.lp 4 0),(5,.v (PV.mp 0)),(18,vL 2 (Vr.cs (AX v))),(19,A6 ((AX v).length:Int)),(20,A6 ((i:Int)+1))] [(2,Dy v),(3,Qb u),(4,[.v .A2,.v .A2,.v .A2])] [(0,[LV.mm (MM.i (Kh (i:Int) (EZ (i:Int) (.agg (FU (List.getD (AX v) i default))) es)))])]) ⟨⟨W,W,W,W,W,W,W,B7⟩,⟨Ws,Ws,Ws,B7⟩,(by first | rfl | (simp only [List.nil_append,AK,AF,Pr.A1,Tp.A1,Ex.A1,Vr.A1,Df.A1,Sy.A1,Ho.A1]; done) | (simp only [List.nil_append,AK,AF,Pr.A1,Tp.A1,Ex.A1,Vr.A1,Df.A1,Sy.A1,Ho.A1]; rfl))⟩ trivial (by rw [hd,CW,iP h0])
  ·exact lS A9 [dt ((i:Int)<((AX v).length:Int)),D2 (AX v) (i:Int),Gn (AX v) i Ac,bf (ByteArray.toList (AE (List.getD (AX v) i default))==ByteArray.toList (AE u)) (Bp h0),wr ((i:Int)+1)] [2,3,4,5,18,19,20] [2,3,4] Ac (EZ (i:Int) (.agg (FU (List.getD (AX v) i default))) es) (S.mk [(2,.lp 2 0),(3,.lp 3 0),(4,.lp 4 0),(5,.v (PV.mp 0)),(18,vL 2 (Vr.cs (AX v))),(19,A6 ((AX v).length:Int)),(20,A6 ((i:Int)+1))] [(2,Dy v),(3,Qb u),(4,[.v .A2,.v .A2,.v .A2])] [(0,[LV.mm (MM.i (EZ (i:Int) (.agg (FU (List.getD (AX v) i default))) es))])]) ⟨⟨W,W,W,W,W,W,W,B7⟩,⟨Ws,Ws,Ws,B7⟩,(by first | rfl | (simp only [List.nil_append,AK,AF,Pr.A1,Tp.A1,Ex.A1,Vr.A1,Df.A1,Sy.A1,Ho.A1]; done) | (simp only [List.nil_append,AK,AF,Pr.A1,Tp.A1,Ex.A1,Vr.A1,Df.A1,Sy.A1,Ho.A1]; rfl))⟩ trivial (by rw [hd,CW,iN h0])
 ·have he:i=(AX v).length:=by omega
  exact lX A9 [df ((i:Int)<((AX v).length:Int))] (es) (by rw [he,List.drop_length,CW])
def dG(u:Vr)(l:List Vr)(i:Nat):Vr:=if i<l.length/\AE (l.getD i default)≠AE u then l.getD i default else default
def dH(u:Vr)(l:List Vr)(i:Nat):Bool:=decide (i<l.length/\AE (l.getD i default)≠AE u)
theorem JG{κ:Type} [DecidableEq κ] (k k':κ) (v:PV):∀es:List (κ × PV),EC k (EZ k' v es)=if k'=k then some v else EC k es
 | []=>by by_cases h:k'=k <;> simp [EZ,EC,h]
 | x::r=>by
  by_cases h1:x.1=k'
  ·by_cases h:k'=k
   ·subst h; simp [EZ,EC,h1]
   ·simp only [EZ,h1,if_true,EC,h,if_false]
  ·by_cases h:k'=k
   ·subst h; simp only [EZ,h1,if_false,EC,JG,if_true]
   ·simp only [EZ,h1,if_false,EC,JG,h]
theorem OJ(u:Vr):∀ (l:List Vr) (i:Nat) (es:List (Int × PV)),(∀x∈es,x.1<(i:Int))->(es.map (·.1)).Nodup ->
  ∀j:Nat,EC (j:Int) (CW u l i es)=if j<i then EC (j:Int) es else if j - i<l.length/\AE (l.getD (j - i) default)≠AE u then some (.agg (FU (l.getD (j - i) default))) else none
 | [],i,es,h,_,j=>by
  by_cases hj:j<i
  ·simp [CW,hj]
  ·rw [iN hj,iN sM,CW]
   exact Jz fun x hx=>by have:=h x hx; omega
 | c::r,i,es,h,hn,j=>by
  have hni:∀x∈es,x.1≠(i:Int):=fun x hx=>by have:=h x hx; omega
  have hm:=NQ (v := .agg (FU c)) hni
  have Ac:∀x∈EZ (i:Int) (.agg (FU c)) es,x.1<((i+1:Nat):Int):=fun x hx=>by
   rw [hm,List.mem_append] at hx
   rcases hx with hx | hx
   ·have:=h x hx; omega
   ·simp only [List.mem_singleton] at hx; subst hx; simp only; omega
  by_cases hc:AE c=AE u
  ·have hd:Kh (i:Int) (EZ (i:Int) (.agg (FU c)) es)=es:=by
    rw [hm,QV (j:=es.length) sM sM (fun q hq hql=>by rw [List.getElem_append_left hql]; exact hni _ (List.getElem_mem hql))]
    simp [List.eraseIdx_append_of_length_le]
   rw [CW,iP hc,hd,OJ u r (i+1) es (fun x hx=>by have:=h x hx; omega) hn j]
   by_cases hj:j<i
   ·rw [iP oM,iP hj]
   ·by_cases lA:j=i
    ·subst lA
     rw [iP oM,iN oM,iN (by simp [hc])]
     exact Jz hni
    ·rw [iN oM,iN hj]
     have e:j - i=(j - (i+1))+1:=by omega
     rw [e,List.length_cons,List.getD_cons_succ]
     simp only [Nat.add_lt_add_iff_right]
  ·rw [CW,iN hc,OJ u r (i+1) _ Ac (by rw [hm,List.map_append,List.nodup_append]; exact ⟨hn,by simp,fun a ha b hb=>by
     obtain ⟨x,hx,rfl⟩:=List.mem_map.1 ha
     simp only [List.map_cons,List.map_nil,List.mem_singleton] at hb
     subst hb
     exact hni x hx⟩) j]
   by_cases hj:j<i
   ·rw [iP oM,iP hj,JG,iN oM]
   ·by_cases lA:j=i
    ·subst lA
     rw [iP oM,iN oM,JG,iP rfl,iP ⟨by simp,by simpa using hc⟩]
     simp
    ·rw [iN oM,iN hj]
     have e:j - i=(j - (i+1))+1:=by omega
     rw [e,List.length_cons,List.getD_cons_succ]
     simp only [Nat.add_lt_add_iff_right]
theorem dI(u:Vr)(l:List Vr)(i:Nat):IY true (EC (i:Int) (CW u l 0 [])) (.agg [.str Ai,.str Ai]) = .Bf [.agg (FU (dG u l i)),.bool (dH u l i)]:=by
 rw [OJ u l 0 [] (fun x hx=>by cases hx) sM i,iN oM,Nat.sub_zero]
 unfold dG dH
 by_cases h:i<l.length/\AE (l.getD i default)≠AE u
 ·rw [iP h,iP h,decide_eq_true h]; rfl
 ·rw [iN h,iN h,decide_eq_false h]; rfl
theorem VQ(u:Vr)(l:List Vr)(i:Nat):(EC (i:Int) (CW u l 0 [])).getD (.agg [.str Ai,.str Ai]) = .agg (FU (dG u l i)):=by
 have:=dI u l i
 simp only [IY,PV.Bf.injEq,List.cons.injEq] at this
 exact this.1
theorem VR(u:Vr)(l:List Vr)(i:Nat):(EC (i:Int) (CW u l 0 [])).isSome=dH u l i:=by
 have:=dI u l i
 simp only [IY,PV.Bf.injEq,List.cons.injEq,PV.bool.injEq] at this
 exact this.2.1
end Go.Proofs.YthchpmnkecoafaaGreatDoor
