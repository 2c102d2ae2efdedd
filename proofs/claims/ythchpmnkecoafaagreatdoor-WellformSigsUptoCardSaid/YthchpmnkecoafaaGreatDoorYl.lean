/- Values of Go as plain data, an evaluator over them, and what the functions of the program return; part Yl. -/
import Derived.Test.YthchpmnkecoafaaGreatDoorYk
import Derived.Test.YthchpmnkecoafaaGreatDoorYj
import Derived.Test.YthchpmnkecoafaaGreatDoorYe
import Derived.Test.YthchpmnkecoafaaGreatDoorXh
import Derived.Test.YthchpmnkecoafaaGreatDoorYa
set_option linter.unusedSectionVars false
set_option linter.unusedSimpArgs false
set_option linter.unusedVariables false
namespace Go.Proofs.YthchpmnkecoafaaGreatDoor
open Go.Proofs.Tryz
open Go.Pv Go.Proofs.Tryz
set_option maxRecDepth 100000
theorem UH{s:Df}{l:List Sy}(Cw:A3 (AO (Ad s))<=10000000):∀ (r:List BA) (i:Nat) (u:Nv),i+r.length<=(Ag (Ad s)).length->GF (eV l) u i->GF (eV l) (Ey s r i u) (i+r.length)
 | [],i,u,_,h=>h
 | c::r,i,u,hl,h=>by
  simp only [List.length_cons] at hl
  rw [Ey,List.length_cons,show i+(r.length+1)=i+1+r.length by omega]
  by_cases hc:(i:Int)<((Ab (Ad s)).length:Int)
  ·rw [iP hc]; exact UH Cw r (i+1) _ oM (A58 h Cw oM)
  ·rw [iN hc]; exact UH Cw r (i+1) _ oM h.s
theorem gSc{s:Df}{l:List Sy}(hE:Ba (.mk [] l []))(Cw:A3 (AO (Ad s))<=10000000):Ba (Ey s (Ag (Ad s)) 0 (.mk [] l [])):=(UH Cw (Ag (Ad s)) 0 (.mk [] l []) oM (VY hE)).1
theorem Ob.Js{P:Program}{n:Nat}{c:Code}{s0 s s1:S}{pe:A4}(hl:No s0 s)(h:(Ob.loop n c s0 pe s1).ok P):(Ob.loop n c s pe s1).ok P:=fun cx Aw=>PW.Xz hl (h cx Aw)
abbrev sgX(s:Df):List LV:=[.v (.sl 1 (Ae (CS s))),.v (.sl 2 (Vr.cs (CT s))),.v (.sl 2 (Vr.cs (A8 s))),.v (.sl 10 (Bo.cs (Ak s))),.v (.int .i64 (AB (Ad s))),.v (.str (An (Ad s))),.v (.sl 9 (Tp.cs (Ab (Ad s)))),.v (.sl 1 (Ae (Ag (Ad s)))),.v (.int .i64 (Af (AT (Ad s)))),.v (.str (Aj (AT (Ad s)))),.v (.int .i64 (Bq (AT (Ad s)))),.v (.sl 4 (Pr.cs (Av (AT (Ad s))))),.v (.sl 4 (Pr.cs (Aq (Ad s)))),.v (.sl 4 (Pr.cs (AJ s)))]
theorem Ahz(m:Mo)(s:Df)(hs:A3 (BD m)<=1048576)(BC:(AL m).length<=1048576)(Gp:¬((A8 s).length:Int)>6)(Na:DQ m s (A8 s) 0=EO.e2)(hE:Ba (.mk [] (BQ m (A8 s)) []))(DR:∀b∈Ak s,A3 (AN (Cv b))<=100000000/\A3 (AN (EU b))<=100000000)(E9:Ah (Bo.cs (Ak s))<=10000000)(oY:Ew m s (Ak s) 0=GC.e2)(Cw:A3 (AO (Ad s))<=10000000)(hwt:Cp m (.mk [] (BQ m (A8 s)) []) (Ad s)=0)(sQ:¬((AJ s).length:Int)>6)(e:Ext):(Ob.loop 117 (Au f16 2) (S.mk [(3,.lp 3 0),(13,.lp 13 0),(89,vL 1 (Ae (Ag (Ad s)))),(90,A6 ((Ag (Ad s)).length:Int)),(91,A6 0)] [(3,sgX s),(13,[.v (.sl 4 (Da.cs (AL m))),.v (.sl 3 (Cl.cs (CB m))),.v (.sl 12 (In.cs (DD m))),.v (.sl 8 (Ms.cs (B3 m))),.v (.sl 6 (Qu.cs (Ep m))),.v (.sl 25 (Df.cs (AW m))),.v .A2,.v (.sl 3 (Sy.cs (BQ m (A8 s)))),.v .A2])] e) (Tj m s e (Ey s ((Ag (Ad s))) 0 (.mk [] (BQ m (A8 s)) []))).1 (Tj m s e (Ey s ((Ag (Ad s))) 0 (.mk [] (BQ m (A8 s)) []))).2).ok prog:=
 Ob.Js (by refine ⟨⟨W,W,W,W,W,B7⟩,⟨Fg.refl _,⟨W,W,W,W,W,W,.inr rfl,W,.inr rfl,B7⟩,B7⟩,rfl⟩) (sgC m s hs BC Gp Na hE DR E9 oY Cw hwt sQ (.mk [] (BQ m (A8 s)) []) e (gNl Cw) (VY hE))
section
variable (m:Mo) (s:Df) (hs:A3 (BD m)<=1048576) (BC:(AL m).length<=1048576) (hE:Ba (.mk [] (BQ m (A8 s)) [])) (DR:∀b∈Ak s,A3 (AN (Cv b))<=100000000/\A3 (AN (EU b))<=100000000) (E9:Ah (Bo.cs (Ak s))<=10000000) (Cw:A3 (AO (Ad s))<=10000000) (ET:∀w∈AJ s,A3 (AN w)<=100000000) (Fz:(AJ s).length<=1000000000)
include m s hs BC hE DR E9 Cw ET Fz
theorem A5a(A7:((A8 s).length:Int)>6):Pu 16 [.agg (BD m),.agg (FM s)] (rI 7):=
 pm A9 [sl (Vr.A0 (A8 s)),BL A7] func16
theorem A5b(A7:¬((A8 s).length:Int)>6)(Aa:DQ m s (A8 s) 0=EO.e0):Pu 16 [.agg (BD m),.agg (FM s)] (rI 4):=
 pu A9 (fun e=>[sl (Vr.A0 (A8 s)),Ar A7,sl (Vr.A0 (A8 s)),lq (rz (KE (m) (s) hs A7 (e) oM) Aa)]) func16
theorem A5c(A7:¬((A8 s).length:Int)>6)(I6:Vr)(Am:DQ m s (A8 s) 0=EO.e1 I6):Pu 16 [.agg (BD m),.agg (FM s)] (rI (H8 (CD I6))):=
 pu A9 (fun e=>[sl (Vr.A0 (A8 s)),Ar A7,sl (Vr.A0 (A8 s)),lq (rz (KE (m) (s) hs A7 (e) oM) Am)]) func16
theorem A5d(A7:¬((A8 s).length:Int)>6)(Aa:DQ m s (A8 s) 0=EO.e2)(Am:Ew m s (Ak s) 0=GC.e0):Pu 16 [.agg (BD m),.agg (FM s)] (rI 4):=
 pu A9 (fun e=>[sl (Vr.A0 (A8 s)),Ar A7,sl (Vr.A0 (A8 s)),lq (rz (KE (m) (s) hs A7 (e) oM) Aa),cl (@syT (m) (s) hs oM),sl (Bo.A0 (Ak s)),lq (rz (OY (m) (s) hs A7 Aa hE DR (e) (by (apply Nj <;> first | assumption | omega | decide))) Am)]) func16
theorem A5e(A7:¬((A8 s).length:Int)>6)(Aa:DQ m s (A8 s) 0=EO.e2)(Iu:Bo)(Az:Ew m s (Ak s) 0=GC.e1 Iu):Pu 16 [.agg (BD m),.agg (FM s)] (rI (Tw (Nv.mk [] (BQ m (A8 s)) []) Iu)):=
 pu A9 (fun e=>[sl (Vr.A0 (A8 s)),Ar A7,sl (Vr.A0 (A8 s)),lq (rz (KE (m) (s) hs A7 (e) oM) Aa),cl (@syT (m) (s) hs oM),sl (Bo.A0 (Ak s)),lq (rz (OY (m) (s) hs A7 Aa hE DR (e) (by (apply Nj <;> first | assumption | omega | decide))) Az)]) func16
theorem A5f(A7:¬((A8 s).length:Int)>6)(Aa:DQ m s (A8 s) 0=EO.e2)(Am:Ew m s (Ak s) 0=GC.e2)(Az:¬Cp m (Nv.mk [] (BQ m (A8 s)) []) (Ad s)=0):Pu 16 [.agg (BD m),.agg (FM s)] (rI (Cp m (Nv.mk [] (BQ m (A8 s)) []) (Ad s))):=
 pu A9 (fun e=>[sl (Vr.A0 (A8 s)),Ar A7,sl (Vr.A0 (A8 s)),lq (rz (KE (m) (s) hs A7 (e) oM) Aa),cl (@syT (m) (s) hs oM),sl (Bo.A0 (Ak s)),lq (rz (OY (m) (s) hs A7 Aa hE DR (e) (by (apply Nj <;> first | assumption | omega | decide))) Am),cl (@wtN (m) (BQ m (A8 s)) (Ad s) BC hE Cw),Bi Az]) func16
theorem A5g(A7:¬((A8 s).length:Int)>6)(Aa:DQ m s (A8 s) 0=EO.e2)(Am:Ew m s (Ak s) 0=GC.e2)(Az:Cp m (Nv.mk [] (BQ m (A8 s)) []) (Ad s)=0)(AP:((AJ s).length:Int)>6):Pu 16 [.agg (BD m),.agg (FM s)] (rI 7):=
 pu A9 (fun e=>[sl (Vr.A0 (A8 s)),Ar A7,sl (Vr.A0 (A8 s)),lq (rz (KE (m) (s) hs A7 (e) oM) Aa),cl (@syT (m) (s) hs oM),sl (Bo.A0 (Ak s)),lq (rz (OY (m) (s) hs A7 Aa hE DR (e) (by (apply Nj <;> first | assumption | omega | decide))) Am),cl (@wtN (m) (BQ m (A8 s)) (Ad s) BC hE Cw),B1 Az,sl (Pr.A0 (AJ s)),BL AP]) func16
theorem A5h(A7:¬((A8 s).length:Int)>6)(Aa:DQ m s (A8 s) 0=EO.e2)(Am:Ew m s (Ak s) 0=GC.e2)(Az:Cp m (Nv.mk [] (BQ m (A8 s)) []) (Ad s)=0)(AP:¬((AJ s).length:Int)>6):Pu 16 [.agg (BD m),.agg (FM s)] (rI (Bg (Cf (Ey s (Ag (Ad s)) 0 (Nv.mk [] (BQ m (A8 s)) []))) (AJ s))):=
 pu A9 (fun e=>[sl (Vr.A0 (A8 s)),Ar A7,sl (Vr.A0 (A8 s)),lq (rz (KE (m) (s) hs A7 (e) oM) Aa),cl (@syT (m) (s) hs oM),sl (Bo.A0 (Ak s)),lq (rz (OY (m) (s) hs A7 Aa hE DR (e) (by (apply Nj <;> first | assumption | omega | decide))) Am),cl (@wtN (m) (BQ m (A8 s)) (Ad s) BC hE Cw),B1 Az,sl (Pr.A0 (AJ s)),Ar AP,sl (A5 (Ag (Ad s))),lq (@Ahz (m) (s) hs BC A7 Aa hE DR E9 Am Cw Az AP (e)),cl (@Ahu (AJ s) (m) (Ey s (Ag (Ad s)) 0 (Nv.mk [] (BQ m (A8 s)) [])) (by (apply gSc <;> first | assumption | omega | decide)) ET Fz)]) func16
end
abbrev j9(m:Mo)(s:Df)(i0:Nat)(b0:Bool)(xe:Ext)(j:Int)(b:Bool)  : S:=S.mk [(2,.lp 2 0),(3,.lp 3 0),(5,A6 (i0:Int)),(6,.v (.bool b)),(7,A6 j)] [(2,Er m),(3,[vL 1 (Ae (CS s)),vL 2 (Vr.cs (CT s)),vL 2 (Vr.cs (A8 s)),vL 10 (Bo.cs (Ak s)),A6 (AB (Ad s)),vS (An (Ad s)),vL 9 (Tp.cs (Ab (Ad s))),vL 1 (Ae (Ag (Ad s))),A6 (Af (AT (Ad s))),vS (Aj (AT (Ad s))),A6 (Bq (AT (Ad s))),vL 4 (Pr.cs (Av (AT (Ad s)))),vL 4 (Pr.cs (Aq (Ad s))),vL 4 (Pr.cs (AJ s))])] xe
def Jt(s:Df)(i0:Nat):List Vr->Nat->(Bool)->(Bool)
 | [],i,b=>(b)
 | el::r,i,b=>(if b=true then Jt s i0 r (i+1) (true) else Jt s i0 r (i+1) (ByteArray.toList (AE (List.getD (A8 s) i default))==ByteArray.toList (AE (List.getD (A8 s) i0 default))))
def Tk(m:Mo)(s:Df)(i0:Nat)(b0:Bool)(xe:Ext)(p:(Bool)):A4 × S:=(.exit 2,S.mk [(2,.lp 2 0),(3,.lp 3 0),(5,A6 (i0:Int)),(6,.v (.bool p))] [(2,Er m),(3,[vL 1 (Ae (CS s)),vL 2 (Vr.cs (CT s)),vL 2 (Vr.cs (A8 s)),vL 10 (Bo.cs (Ak s)),A6 (AB (Ad s)),vS (An (Ad s)),vL 9 (Tp.cs (Ab (Ad s))),vL 1 (Ae (Ag (Ad s))),A6 (Af (AT (Ad s))),vS (Aj (AT (Ad s))),A6 (Bq (AT (Ad s))),vL 4 (Pr.cs (Av (AT (Ad s)))),vL 4 (Pr.cs (Aq (Ad s))),vL 4 (Pr.cs (AJ s))])] xe)
theorem rg1(m:Mo)(s:Df)(i0:Nat)(b0:Bool)(KD:i0<(A8 s).length)(LF:((A8 s).take i0).length=i0)(xe:Ext)(b:Bool)(hN:List.length (((A8 s).take i0))<=1000000000)  : (Ob.loop 173 (Au f17 1) (j9 m s i0 b0 xe 0 b) (Tk m s i0 b0 xe  (Jt s i0 (((A8 s).take i0)) 0 b)).1 (Tk m s i0 b0 xe  (Jt s i0 (((A8 s).take i0)) 0 b)).2).ok prog:=by
 refine CL (List.length (((A8 s).take i0))) (fun j b=>j9 m s i0 b0 xe j b) (fun i b=>Jt s i0 (List.drop i (((A8 s).take i0))) i b) (Tk m s i0 b0 xe) (fun i b=>True) kR ?_ b trivial
 rintro i b hi -
 rcases Nat.lt_or_ge i (List.length (((A8 s).take i0))) with Ac | Cm
 ·have hd:=At Ac
  by_cases h0:b=true
  ·exact lN A9 [dt ((i:Int)<(i0:Int)),rp 14 (AV h0),wr ((i:Int)+1)] Ac (true) trivial (by rw [hd,Jt,iP h0])
  ·exact lN A9 [dt ((i:Int)<(i0:Int)),rp 4 (AM (Db h0)),D2 (A8 s) (i:Int),Gn (A8 s) i,rp 6 (AM (Db h0)),D2 (A8 s) (i0:Int),Gn (A8 s) i0 KD,rp 4 (AM (Db h0)),wr ((i:Int)+1)] Ac (ByteArray.toList (AE (List.getD (A8 s) i default))==ByteArray.toList (AE (List.getD (A8 s) i0 default))) trivial (by rw [hd,Jt,iN h0])
 ·have he:i=List.length (((A8 s).take i0)):=by omega
  exact lX A9 [df ((i:Int)<(i0:Int))] (b) (by rw [he,List.drop_length,Jt])
abbrev Qz(m:Mo)(s:Df)(l:List Sy)(i0:Nat)(xe:Ext)(j:Int)   : S:=S.mk [(2,.lp 2 0),(3,.lp 3 0),(9,.uniq 77 3 (Sy.cs l)),(10,A6 (i0:Int)),(11,A6 j)] [(2,Er m),(3,[vL 1 (Ae (CS s)),vL 2 (Vr.cs (CT s)),vL 2 (Vr.cs (A8 s)),vL 10 (Bo.cs (Ak s)),A6 (AB (Ad s)),vS (An (Ad s)),vL 9 (Tp.cs (Ab (Ad s))),vL 1 (Ae (Ag (Ad s))),A6 (Af (AT (Ad s))),vS (Aj (AT (Ad s))),A6 (Bq (AT (Ad s))),vL 4 (Pr.cs (Av (AT (Ad s)))),vL 4 (Pr.cs (Aq (Ad s))),vL 4 (Pr.cs (AJ s))])] xe
inductive IL where
 | e0
 | e1
def GX(s:Df)(i0:Nat):List Bo->Nat->IL
 | [],i=>(IL.e1)
 | el::r,i=>(if Cd (List.getD (Ak s) i default)=Cd (List.getD (Ak s) i0 default) then (IL.e0) else GX s i0 r (i+1))
def Ju(m:Mo)(s:Df)(l:List Sy)(i0:Nat)(xe:Ext)  : IL->A4 × S
 | .e0=>(.ret,S.mk [(2,.lp 2 0),(3,.lp 3 0),(9,.uniq 77 3 (Sy.cs l)),(10,A6 (i0:Int)),(4,A6 4)] [(2,Er m),(3,[vL 1 (Ae (CS s)),vL 2 (Vr.cs (CT s)),vL 2 (Vr.cs (A8 s)),vL 10 (Bo.cs (Ak s)),A6 (AB (Ad s)),vS (An (Ad s)),vL 9 (Tp.cs (Ab (Ad s))),vL 1 (Ae (Ag (Ad s))),A6 (Af (AT (Ad s))),vS (Aj (AT (Ad s))),A6 (Bq (AT (Ad s))),vL 4 (Pr.cs (Av (AT (Ad s)))),vL 4 (Pr.cs (Aq (Ad s))),vL 4 (Pr.cs (AJ s))])] xe)
 | .e1=>(.exit 6,S.mk [(2,.lp 2 0),(3,.lp 3 0),(9,.uniq 77 3 (Sy.cs l)),(10,A6 (i0:Int))] [(2,Er m),(3,[vL 1 (Ae (CS s)),vL 2 (Vr.cs (CT s)),vL 2 (Vr.cs (A8 s)),vL 10 (Bo.cs (Ak s)),A6 (AB (Ad s)),vS (An (Ad s)),vL 9 (Tp.cs (Ab (Ad s))),vL 1 (Ae (Ag (Ad s))),A6 (Af (AT (Ad s))),vS (Aj (AT (Ad s))),A6 (Bq (AT (Ad s))),vL 4 (Pr.cs (Av (AT (Ad s)))),vL 4 (Pr.cs (Aq (Ad s))),vL 4 (Pr.cs (AJ s))])] xe)
theorem jA(m:Mo)(s:Df)(l:List Sy)(i0:Nat)(KD:i0<(Ak s).length)(LF:((Ak s).take i0).length=i0)(xe:Ext)(hN:List.length (((Ak s).take i0))<=1000000000):(Ob.loop 173 (Au f17 3) (Qz m s l i0 xe 0) (Ju m s l i0 xe  (GX s i0 (((Ak s).take i0)) 0)).1 (Ju m s l i0 xe  (GX s i0 (((Ak s).take i0)) 0)).2).ok prog:=by
 refine CL (List.length (((Ak s).take i0))) (fun j _=>Qz m s l i0 xe j) (fun i _=>GX s i0 (List.drop i (((Ak s).take i0))) i) (Ju m s l i0 xe) (fun i _=>True) kR ?_ () trivial
 rintro i u hi -
 rcases Nat.lt_or_ge i (List.length (((Ak s).take i0))) with Ac | Cm
 ·have hd:=At Ac
  by_cases h0:Cd (List.getD (Ak s) i default)=Cd (List.getD (Ak s) i0 default)
  ·exact lX A9 [dt ((i:Int)<(i0:Int)),L2 (Ak s) (i:Int),Uk (Ak s) i,L2 (Ak s) (i0:Int),Uk (Ak s) i0 KD,bt (ByteArray.toList (Cd (List.getD (Ak s) i default))==ByteArray.toList (Cd (List.getD (Ak s) i0 default))) (BI h0)] (IL.e0) (by rw [hd,GX,iP h0])
  ·exact lN A9 [dt ((i:Int)<(i0:Int)),L2 (Ak s) (i:Int),Uk (Ak s) i,L2 (Ak s) (i0:Int),Uk (Ak s) i0 KD,bf (ByteArray.toList (Cd (List.getD (Ak s) i default))==ByteArray.toList (Cd (List.getD (Ak s) i0 default))) (Bp h0),wr ((i:Int)+1)] Ac () trivial (by rw [hd,GX,iN h0])
 ·have he:i=List.length (((Ak s).take i0)):=by omega
  exact lX A9 [df ((i:Int)<(i0:Int))] (IL.e1) (by rw [he,List.drop_length,GX])
theorem Aep(m:Mo)(s:Df)(l:List Sy)(i0:Nat)(KD:i0<(Ak s).length)(LF:((Ak s).take i0).length=i0)(xe:Ext)(hN:List.length (((Ak s).take i0))<=1000000000)(Be:(GX s i0 (((Ak s).take i0)) 0)=(IL.e0)):(Ob.loop 173 (Au f17 3) (Qz m s l i0 xe 0) (Ju m s l i0 xe  (IL.e0)).1 (Ju m s l i0 xe  (IL.e0)).2).ok prog:=
 rz (jA m s l i0 KD LF xe hN) Be
theorem Aeq(m:Mo)(s:Df)(l:List Sy)(i0:Nat)(KD:i0<(Ak s).length)(LF:((Ak s).take i0).length=i0)(xe:Ext)(hN:List.length (((Ak s).take i0))<=1000000000)(Be:(GX s i0 (((Ak s).take i0)) 0)=(IL.e1)):(Ob.loop 173 (Au f17 3) (Qz m s l i0 xe 0) (Ju m s l i0 xe  (IL.e1)).1 (Ju m s l i0 xe  (IL.e1)).2).ok prog:=
 rz (jA m s l i0 KD LF xe hN) Be
theorem wO(s:Df)(i0:Nat)(KD:i0<=(A8 s).length):∀ (n k:Nat) (b:Bool),n+k=i0->Jt s i0 (((A8 s).take i0).drop k) k b=(b||C1 AE (AE ((A8 s).getD i0 default)) (((A8 s).take i0).drop k))
 | 0,k,b,h=>by
  have:((A8 s).take i0).drop k=[]:=List.drop_eq_nil_of_le (by simp; omega)
  rw [this,Jt]
  simp [C1]
 | n+1,k,b,h=>by
  have hk:k<((A8 s).take i0).length:=by rw [List.length_take]; omega
  have hd:((A8 s).take i0).drop k=(A8 s).getD k default::((A8 s).take i0).drop (k+1):=by
   rw [At hk]
   congr 1
   rw [List.getD,List.getD,List.getElem?_take,iP oM]
  have ih:=fun b=>wO s i0 KD n (k+1) b oM
  rw [hd,Jt]
  cases b with
  | true=>rw [iP rfl,ih]; simp
  | false=>
   rw [iN dD,ih]
   simp only [C1,List.any_cons,Bool.false_or]
   congr 1
   by_cases hc:AE ((A8 s).getD k default)=AE ((A8 s).getD i0 default)
   ·rw [BI hc,decide_eq_true hc]
   ·rw [Bp hc,decide_eq_false hc]
theorem A5i(m:Mo)(s:Df)(i0:Nat)(b0:Bool)(KD:i0<(A8 s).length)(hN:(A8 s).length<=1000000000)(xe:Ext):(Ob.loop 173 (Au f17 1) (j9 m s i0 b0 xe 0 b0) (Tk m s i0 b0 xe (b0||C1 AE (AE ((A8 s).getD i0 default)) ((A8 s).take i0))).1 (Tk m s i0 b0 xe (b0||C1 AE (AE ((A8 s).getD i0 default)) ((A8 s).take i0))).2).ok prog:=by
 have ht:((A8 s).take i0).length=i0:=by rw [List.length_take]; omega
 have he:=wO s i0 oM i0 0 b0 oM
 rw [List.drop_zero] at he
 have:=rg1 m s i0 b0 KD ht xe b0 oM
 rw [he] at this
 exact this
def Xm(s:Df)(i:Nat):Bool:=C1 Cd (Cd ((Ak s).getD i default)) ((Ak s).take i)
theorem jB(s:Df)(i0:Nat)(KD:i0<=(Ak s).length):∀ (n k:Nat),n+k=i0->(GX s i0 (((Ak s).take i0).drop k) k = .e0∨GX s i0 (((Ak s).take i0).drop k) k = .e1)/\(GX s i0 (((Ak s).take i0).drop k) k = .e0↔C1 Cd (Cd ((Ak s).getD i0 default)) (((Ak s).take i0).drop k)=true)
 | 0,k,h=>by
  have:((Ak s).take i0).drop k=[]:=List.drop_eq_nil_of_le (by simp; omega)
  rw [this]
  exact ⟨.inr rfl,⟨fun h=>absurd h (by simp [GX]),fun h=>absurd h (by simp [C1])⟩⟩
 | n+1,k,h=>by
  have hk:k<((Ak s).take i0).length:=by rw [List.length_take]; omega
  have hd:((Ak s).take i0).drop k=(Ak s).getD k default::((Ak s).take i0).drop (k+1):=by
   rw [At hk]
   congr 1
   rw [List.getD,List.getD,List.getElem?_take,iP oM]
  have ih:=jB s i0 KD n (k+1) oM
  rw [hd]
  unfold GX
  by_cases hc:Cd ((Ak s).getD k default)=Cd ((Ak s).getD i0 default)
  ·rw [iP hc]
   exact ⟨.inl rfl,⟨fun _=>by simp only [C1,List.any_cons]; rw [decide_eq_true hc,Bool.true_or],fun _=>rfl⟩⟩
  ·rw [iN hc]
   refine ⟨ih.1,ih.2.trans ?_⟩
   simp only [C1,List.any_cons]
   rw [decide_eq_false hc,Bool.false_or]
theorem Ai0(m:Mo)(s:Df)(l:List Sy)(i0:Nat)(KD:i0<(Ak s).length)(xe:Ext)(hN:(Ak s).length<=1000000000)(h:Xm s i0=true):(Ob.loop 173 (Au f17 3) (Qz m s l i0 xe 0) (Ju m s l i0 xe .e0).1 (Ju m s l i0 xe .e0).2).ok prog:=by
 have he:=jB s i0 oM i0 0 oM
 rw [List.drop_zero] at he
 have ht:((Ak s).take i0).length=i0:=by rw [List.length_take]; omega
 exact Aep m s l i0 KD ht xe oM (he.2.2 h)
theorem Aer(m:Mo)(s:Df)(l:List Sy)(i0:Nat)(KD:i0<(Ak s).length)(xe:Ext)(hN:(Ak s).length<=1000000000)(h:Xm s i0=false):(Ob.loop 173 (Au f17 3) (Qz m s l i0 xe 0) (Ju m s l i0 xe .e1).1 (Ju m s l i0 xe .e1).2).ok prog:=by
 have he:=jB s i0 oM i0 0 oM
 rw [List.drop_zero] at he
 have ht:((Ak s).take i0).length=i0:=by rw [List.length_take]; omega
 refine Aeq m s l i0 KD ht xe oM (he.1.resolve_left fun e=>?_)
 have:=he.2.1 e
 unfold Xm at h
 rw [this] at h; cases h
theorem A5j(m:Mo)(name:BA)(hs:A3 (BD m)<=1048576):Pu 49 [.agg (BD m),.str name] (.ret (.bool (EJ m name))):=tkT m name oM
abbrev wP(m:Mo)(s:Df)(j:Int)(e:Ext):S:=S.mk [(2,.lp 2 0),(3,.lp 3 0),(5,A6 j)] [(2,Er m),(3,[vL 1 (Ae (CS s)),vL 2 (Vr.cs (CT s)),vL 2 (Vr.cs (A8 s)),vL 10 (Bo.cs (Ak s)),A6 (AB (Ad s)),vS (An (Ad s)),vL 9 (Tp.cs (Ab (Ad s))),vL 1 (Ae (Ag (Ad s))),A6 (Af (AT (Ad s))),vS (Aj (AT (Ad s))),A6 (Bq (AT (Ad s))),vL 4 (Pr.cs (Av (AT (Ad s)))),vL 4 (Pr.cs (Aq (Ad s))),vL 4 (Pr.cs (AJ s))])] e
inductive CZ where
 | e0
 | e1 (el:Vr)
 | e2
def CO(m:Mo)(s:Df):List Vr->Nat->CZ
 | [],i=>(CZ.e2)
 | el::r,i=>(if (EJ m (AE el)||C1 AE (AE el) (List.take i (A8 s)))=true then (CZ.e0) else (if H8 (CD el)=0 then CO m s r (i+1)  else (CZ.e1 el)))
def jC(m:Mo)(s:Df)(e:Ext):CZ->A4 × S
 | .e0=>(.ret,S.mk [(2,.lp 2 0),(3,.lp 3 0),(4,A6 4)] [(2,Er m),(3,[vL 1 (Ae (CS s)),vL 2 (Vr.cs (CT s)),vL 2 (Vr.cs (A8 s)),vL 10 (Bo.cs (Ak s)),A6 (AB (Ad s)),vS (An (Ad s)),vL 9 (Tp.cs (Ab (Ad s))),vL 1 (Ae (Ag (Ad s))),A6 (Af (AT (Ad s))),vS (Aj (AT (Ad s))),A6 (Bq (AT (Ad s))),vL 4 (Pr.cs (Av (AT (Ad s)))),vL 4 (Pr.cs (Aq (Ad s))),vL 4 (Pr.cs (AJ s))])] e)
 | .e1 el=>(.ret,S.mk [(2,.lp 2 0),(3,.lp 3 0),(4,A6 (H8 (CD el)))] [(2,Er m),(3,[vL 1 (Ae (CS s)),vL 2 (Vr.cs (CT s)),vL 2 (Vr.cs (A8 s)),vL 10 (Bo.cs (Ak s)),A6 (AB (Ad s)),vS (An (Ad s)),vL 9 (Tp.cs (Ab (Ad s))),vL 1 (Ae (Ag (Ad s))),A6 (Af (AT (Ad s))),vS (Aj (AT (Ad s))),A6 (Bq (AT (Ad s))),vL 4 (Pr.cs (Av (AT (Ad s)))),vL 4 (Pr.cs (Aq (Ad s))),vL 4 (Pr.cs (AJ s))])] e)
 | .e2=>(.exit 0,S.mk [(2,.lp 2 0),(3,.lp 3 0)] [(2,Er m),(3,[vL 1 (Ae (CS s)),vL 2 (Vr.cs (CT s)),vL 2 (Vr.cs (A8 s)),vL 10 (Bo.cs (Ak s)),A6 (AB (Ad s)),vS (An (Ad s)),vL 9 (Tp.cs (Ab (Ad s))),vL 1 (Ae (Ag (Ad s))),A6 (Af (AT (Ad s))),vS (Aj (AT (Ad s))),A6 (Bq (AT (Ad s))),vL 4 (Pr.cs (Av (AT (Ad s)))),vL 4 (Pr.cs (Aq (Ad s))),vL 4 (Pr.cs (AJ s))])] e)
theorem Dt(m:Mo)(s:Df)(hs:A3 (BD m)<=1048576)(Gp:¬((A8 s).length:Int)>6)(e:Ext)(hN:(A8 s).length<=1000000000):(Ob.loop 173 (Au f17 0) (wP m s 0  e) (jC m s e (CO m s ((A8 s)) 0)).1 (jC m s e (CO m s ((A8 s)) 0)).2).ok prog:=by
 refine CL ((A8 s).length) (fun j _=>wP m s j  e) (fun i _=>CO m s (List.drop i ((A8 s))) i) (jC m s e) (fun i _=>True) kR ?_ () trivial
 rintro i u hi -
 rcases Nat.lt_or_ge i ((A8 s).length) with Ac | Cm
 ·have hd:=At Ac
  by_cases h0:(EJ m (AE (List.getD (A8 s) i default))||C1 AE (AE (List.getD (A8 s) i default)) (List.take i (A8 s)))=true
  ·exact lX A9 [sl (Vr.A0 (A8 s)),dt ((i:Int)<((A8 s).length:Int)),D2 (A8 s) (i:Int),Gn (A8 s) i Ac,cl (@A5j (m) (AE (List.getD (A8 s) i default)) hs),lq (@A5i (m) (s) (i) (EJ m (AE (List.getD (A8 s) i default))) Ac hN (e)),AV h0] (CZ.e0) (by rw [hd,CO,iP h0])
  ·by_cases h1:H8 (CD (List.getD (A8 s) i default))=0
   ·exact lN A9 [sl (Vr.A0 (A8 s)),dt ((i:Int)<((A8 s).length:Int)),D2 (A8 s) (i:Int),Gn (A8 s) i Ac,cl (@A5j (m) (AE (List.getD (A8 s) i default)) hs),lq (@A5i (m) (s) (i) (EJ m (AE (List.getD (A8 s) i default))) Ac hN (e)),AM (Db h0),D2 (A8 s) (i:Int),Gn (A8 s) i Ac,cl (@nO (CD (List.getD (A8 s) i default))),B1 h1,wr ((i:Int)+1)] Ac () trivial (by rw [hd,CO,iN h0,iP h1])
   ·exact lX A9 [sl (Vr.A0 (A8 s)),dt ((i:Int)<((A8 s).length:Int)),D2 (A8 s) (i:Int),Gn (A8 s) i Ac,cl (@A5j (m) (AE (List.getD (A8 s) i default)) hs),lq (@A5i (m) (s) (i) (EJ m (AE (List.getD (A8 s) i default))) Ac hN (e)),AM (Db h0),D2 (A8 s) (i:Int),Gn (A8 s) i Ac,cl (@nO (CD (List.getD (A8 s) i default))),Bi h1] (CZ.e1 (List.getD ((A8 s)) i default)) (by rw [hd,CO,iN h0,iN h1])
 ·have he:i=(A8 s).length:=by omega
  exact lX A9 [sl (Vr.A0 (A8 s)),df ((i:Int)<((A8 s).length:Int))] (CZ.e2) (by rw [he,List.drop_length,CO])
abbrev wQ(m:Mo)(s:Df)(j:Int)(e:Ext):S:=S.mk [(2,.lp 2 0),(3,.lp 3 0),(9,.uniq 77 3 (Sy.cs (BQ m (A8 s)))),(10,A6 j)] [(2,Er m),(3,[vL 1 (Ae (CS s)),vL 2 (Vr.cs (CT s)),vL 2 (Vr.cs (A8 s)),vL 10 (Bo.cs (Ak s)),A6 (AB (Ad s)),vS (An (Ad s)),vL 9 (Tp.cs (Ab (Ad s))),vL 1 (Ae (Ag (Ad s))),A6 (Af (AT (Ad s))),vS (Aj (AT (Ad s))),A6 (Bq (AT (Ad s))),vL 4 (Pr.cs (Av (AT (Ad s)))),vL 4 (Pr.cs (Aq (Ad s))),vL 4 (Pr.cs (AJ s))])] e
inductive DG where
 | e0
 | e1 (el:Bo)
 | e2
def Dp(m:Mo)(s:Df):List Bo->Nat->DG
 | [],i=>(DG.e2)
 | el::r,i=>(if Xm s i=true then (DG.e0) else (if Tw (Nv.mk [] (BQ m (A8 s)) []) el=0 then Dp m s r (i+1)  else (DG.e1 el)))
def jD(m:Mo)(s:Df)(e:Ext):DG->A4 × S
 | .e0=>(.ret,S.mk [(2,.lp 2 0),(3,.lp 3 0),(9,.uniq 77 3 (Sy.cs (BQ m (A8 s)))),(4,A6 4)] [(2,Er m),(3,[vL 1 (Ae (CS s)),vL 2 (Vr.cs (CT s)),vL 2 (Vr.cs (A8 s)),vL 10 (Bo.cs (Ak s)),A6 (AB (Ad s)),vS (An (Ad s)),vL 9 (Tp.cs (Ab (Ad s))),vL 1 (Ae (Ag (Ad s))),A6 (Af (AT (Ad s))),vS (Aj (AT (Ad s))),A6 (Bq (AT (Ad s))),vL 4 (Pr.cs (Av (AT (Ad s)))),vL 4 (Pr.cs (Aq (Ad s))),vL 4 (Pr.cs (AJ s))])] e)
 | .e1 el=>(.ret,S.mk [(2,.lp 2 0),(3,.lp 3 0),(9,.uniq 77 3 (Sy.cs (BQ m (A8 s)))),(4,A6 (Tw (Nv.mk [] (BQ m (A8 s)) []) el))] [(2,Er m),(3,[vL 1 (Ae (CS s)),vL 2 (Vr.cs (CT s)),vL 2 (Vr.cs (A8 s)),vL 10 (Bo.cs (Ak s)),A6 (AB (Ad s)),vS (An (Ad s)),vL 9 (Tp.cs (Ab (Ad s))),vL 1 (Ae (Ag (Ad s))),A6 (Af (AT (Ad s))),vS (Aj (AT (Ad s))),A6 (Bq (AT (Ad s))),vL 4 (Pr.cs (Av (AT (Ad s)))),vL 4 (Pr.cs (Aq (Ad s))),vL 4 (Pr.cs (AJ s))])] e)
 | .e2=>(.exit 4,S.mk [(2,.lp 2 0),(3,.lp 3 0),(9,.uniq 77 3 (Sy.cs (BQ m (A8 s))))] [(2,Er m),(3,[vL 1 (Ae (CS s)),vL 2 (Vr.cs (CT s)),vL 2 (Vr.cs (A8 s)),vL 10 (Bo.cs (Ak s)),A6 (AB (Ad s)),vS (An (Ad s)),vL 9 (Tp.cs (Ab (Ad s))),vL 1 (Ae (Ag (Ad s))),A6 (Af (AT (Ad s))),vS (Aj (AT (Ad s))),A6 (Bq (AT (Ad s))),vL 4 (Pr.cs (Av (AT (Ad s)))),vL 4 (Pr.cs (Aq (Ad s))),vL 4 (Pr.cs (AJ s))])] e)
theorem E8(m:Mo)(s:Df)(hs:A3 (BD m)<=1048576)(Gp:¬((A8 s).length:Int)>6)(Na:CO m s (A8 s) 0=CZ.e2)(hE:∀b∈Ak s,Ba (.mk (B6 b) (BQ m (A8 s)) []))(DR:∀b∈Ak s,A3 (AN (Cv b))<=100000000/\A3 (AN (EU b))<=100000000)(E9:Ah (Bo.cs (Ak s))<=10000000)(e:Ext)(hN:(Ak s).length<=1000000000):(Ob.loop 173 (Au f17 2) (wQ m s 0  e) (jD m s e (Dp m s ((Ak s)) 0)).1 (jD m s e (Dp m s ((Ak s)) 0)).2).ok prog:=by
 refine CL ((Ak s).length) (fun j _=>wQ m s j  e) (fun i _=>Dp m s (List.drop i ((Ak s))) i) (jD m s e) (fun i _=>True) kR ?_ () trivial
 rintro i u hi -
 rcases Nat.lt_or_ge i ((Ak s).length) with Ac | Cm
 ·have hd:=At Ac
  by_cases h0:Xm s i=true
  ·exact lX A9 [sl (Bo.A0 (Ak s)),dt ((i:Int)<((Ak s).length:Int)),lq (@Ai0 (m) (s) (BQ m (A8 s)) (i) Ac (e) hN h0)] (DG.e0) (by rw [hd,Dp,iP h0])
  ·by_cases h1:Tw (Nv.mk [] (BQ m (A8 s)) []) (List.getD (Ak s) i default)=0
   ·exact lN A9 [sl (Bo.A0 (Ak s)),dt ((i:Int)<((Ak s).length:Int)),lq (@Aer (m) (s) (BQ m (A8 s)) (i) Ac (e) hN (Db h0)),L2 (Ak s) (i:Int),Uk (Ak s) i Ac,cl (@rbT (BQ m (A8 s)) (List.getD (Ak s) i default) (by simp_all) (by (apply gBo <;> first | assumption | omega | decide)) (by (apply gBp <;> first | assumption | omega | decide))),B1 h1,wr ((i:Int)+1)] Ac () trivial (by rw [hd,Dp,iN h0,iP h1])
   ·exact lX A9 [sl (Bo.A0 (Ak s)),dt ((i:Int)<((Ak s).length:Int)),lq (@Aer (m) (s) (BQ m (A8 s)) (i) Ac (e) hN (Db h0)),L2 (Ak s) (i:Int),Uk (Ak s) i Ac,cl (@rbT (BQ m (A8 s)) (List.getD (Ak s) i default) (by simp_all) (by (apply gBo <;> first | assumption | omega | decide)) (by (apply gBp <;> first | assumption | omega | decide))),Bi h1] (DG.e1 (List.getD ((Ak s)) i default)) (by rw [hd,Dp,iN h0,iN h1])
 ·have he:i=(Ak s).length:=by omega
  exact lX A9 [sl (Bo.A0 (Ak s)),df ((i:Int)<((Ak s).length:Int))] (DG.e2) (by rw [he,List.drop_length,Dp])
theorem Aes{l:List Sy}{u:Nv}{i:Nat}{name:BA}{w t:Tp}(hv:GF (eV l) u i)(Cw:A3 (AO t)<=10000000)(hdl:(Ab t).dropLast.length=(Ab t).length - 1)(h:i<(Ab t).dropLast.length):GF (eV l) (JN u name w) (i+1):=by
 have h1:=BY t
 have h3:=Tp.BS (Ab t)
 have h2:(AX (eV l)).length=0:=rfl
 exact hv.1.rw' (n:=(AX (eV l)).length+i) hv.2 oM
theorem Aet{t:Tp}{i:Nat}(Cw:A3 (AO t)<=10000000)(hdl:(Ab t).dropLast.length=(Ab t).length - 1)(h:i<(Ab t).dropLast.length):A3 (AO ((Ab t).getD i default))<=1000000000:=tG Cw oM
abbrev wR(m:Mo)(s:Df)(j:Int)(u:Nv)(e:Ext):S:=S.mk [(3,.lp 3 0),(14,.lp 14 0),(15,A6 j)] [(3,[vL 1 (Ae (CS s)),vL 2 (Vr.cs (CT s)),vL 2 (Vr.cs (A8 s)),vL 10 (Bo.cs (Ak s)),A6 (AB (Ad s)),vS (An (Ad s)),vL 9 (Tp.cs (Ab (Ad s))),vL 1 (Ae (Ag (Ad s))),A6 (Af (AT (Ad s))),vS (Aj (AT (Ad s))),A6 (Bq (AT (Ad s))),vL 4 (Pr.cs (Av (AT (Ad s)))),vL 4 (Pr.cs (Aq (Ad s))),vL 4 (Pr.cs (AJ s))]),(14,Dy u)] e
def DY(s:Df):List Tp->Nat->(Nv)->(Nv)
 | [],i,u=>(u)
 | el::r,i,u=>DY s r (i+1) (JN u (UB (Ad s) i) (List.getD (Ab (Ad s)) i default))
def Tl(m:Mo)(s:Df)(e:Ext)(p:(Nv)):A4 × S:=(.exit 8,S.mk [(3,.lp 3 0),(14,.lp 14 0)] [(3,[vL 1 (Ae (CS s)),vL 2 (Vr.cs (CT s)),vL 2 (Vr.cs (A8 s)),vL 10 (Bo.cs (Ak s)),A6 (AB (Ad s)),vS (An (Ad s)),vL 9 (Tp.cs (Ab (Ad s))),vL 1 (Ae (Ag (Ad s))),A6 (Af (AT (Ad s))),vS (Aj (AT (Ad s))),A6 (Bq (AT (Ad s))),vL 4 (Pr.cs (Av (AT (Ad s)))),vL 4 (Pr.cs (Aq (Ad s))),vL 4 (Pr.cs (AJ s))]),(14,Dy p)] e)
theorem rgC(m:Mo)(s:Df)(hs:A3 (BD m)<=1048576)(BC:(AL m).length<=1048576)(Gp:¬((A8 s).length:Int)>6)(Na:CO m s (A8 s) 0=CZ.e2)(hE:∀b∈Ak s,Ba (.mk (B6 b) (BQ m (A8 s)) []))(EP:Ba (.mk [] (BQ m (A8 s)) []))(DR:∀b∈Ak s,A3 (AN (Cv b))<=100000000/\A3 (AN (EU b))<=100000000)(E9:Ah (Bo.cs (Ak s))<=10000000)(oY:Dp m s (Ak s) 0=DG.e2)(Cw:A3 (AO (Ad s))<=10000000)(hwt:Cp m (.mk [] (BQ m (A8 s)) []) (Ad s)=0)(sQ:¬((AJ s).length:Int)>6)(Kb:AB (Ad s)=6)(hdl:(Ab (Ad s)).dropLast.length=(Ab (Ad s)).length - 1)(u:Nv)(e:Ext)(hN:List.length (((Ab (Ad s)).dropLast))<=1000000000)(hv:GF (eV (BQ m (A8 s))) u 0):(Ob.loop 173 (Au f17 4) (wR m s 0 u e) (Tl m s e (DY s (((Ab (Ad s)).dropLast)) 0 u)).1 (Tl m s e (DY s (((Ab (Ad s)).dropLast)) 0 u)).2).ok prog:=by
 refine CL (List.length (((Ab (Ad s)).dropLast))) (fun j u=>wR m s j u e) (fun i u=>DY s (List.drop i (((Ab (Ad s)).dropLast))) i u) (Tl m s e) (fun i u=>(GF (eV (BQ m (A8 s))) u i)) kR ?_ u (by first | exact hv | omega)
 rintro i u hi hv
 try simp only at hv
 rcases Nat.lt_or_ge i (List.length (((Ab (Ad s)).dropLast))) with Ac | Cm
 ·have hd:=At Ac
  exact lS A9 [wr ((i:Int)+1),sl (Tp.A0 (Ab (Ad s))),rp 5 (dt ((i:Int)+1<((Ab (Ad s)).length:Int))),et (AB (Ad s)) 6 Kb,cl (@Acz (Ad s) (i)),DH (Ab (Ad s)) (i:Int),I5 (Ab (Ad s)) i,cl (@UA (u) (UB (Ad s) i) (List.getD (Ab (Ad s)) i default) (by (apply XK <;> first | assumption | omega | decide)) (by (apply Aet <;> first | assumption | omega | decide))),wr ((i:Int)+1)] [3,14,15,4] [3,14] Ac (JN u (UB (Ad s) i) (List.getD (Ab (Ad s)) i default)) (S.mk [(3,.lp 3 0),(14,.lp 14 0),(15,A6 ((i:Int)+1))] [(3,[vL 1 (Ae (CS s)),vL 2 (Vr.cs (CT s)),vL 2 (Vr.cs (A8 s)),vL 10 (Bo.cs (Ak s)),A6 (AB (Ad s)),vS (An (Ad s)),vL 9 (Tp.cs (Ab (Ad s))),vL 1 (Ae (Ag (Ad s))),A6 (Af (AT (Ad s))),vS (Aj (AT (Ad s))),A6 (Bq (AT (Ad s))),vL 4 (Pr.cs (Av (AT (Ad s)))),vL 4 (Pr.cs (Aq (Ad s))),vL 4 (Pr.cs (AJ s))]),(14,Dy (JN u (UB (Ad s) i) (List.getD (Ab (Ad s)) i default)))] e) ⟨⟨W,W,W,B7⟩,⟨Ws,⟨Wq,Wq,Wq,B7⟩,B7⟩,rfl⟩ (by first | assumption | omega | (apply gV7 <;> first | assumption | omega | decide) | (apply Nj <;> first | assumption | omega | decide) | (apply gBo <;> first | assumption | omega | decide) | (apply gBp <;> first | assumption | omega | decide) | (apply XK <;> first | assumption | omega | decide) | (apply Aes <;> first | assumption | omega | decide) | (apply Aet <;> first | assumption | omega | decide) | (apply VY <;> first | assumption | omega | decide) | (simp only [List.length_append,List.length_cons,List.length_nil] at *; omega) | simp_all) (by rw [hd,DY])
 ·have he:i=List.length (((Ab (Ad s)).dropLast)):=by omega
  exact lX A9 [wr ((i:Int)+1),sl (Tp.A0 (Ab (Ad s))),rp 5 (df ((i:Int)+1<((Ab (Ad s)).length:Int))),bf false] (u) (by rw [he,List.drop_length,DY])
theorem gMe{s:Df}{i:Nat}(ET:∀w∈AJ s,A3 (AN w)<=100000000)(h:i<(AJ s).length):A3 (AN ((AJ s).getD i default))<=100000000:=ET _ (Bm h)
abbrev wT(s:Df)(v:Nv)(xe:Ext)(j:Int)   : S:=S.mk [(3,.lp 3 0),(14,.lp 14 0),(16,A6 j)] [(3,[vL 1 (Ae (CS s)),vL 2 (Vr.cs (CT s)),vL 2 (Vr.cs (A8 s)),vL 10 (Bo.cs (Ak s)),A6 (AB (Ad s)),vS (An (Ad s)),vL 9 (Tp.cs (Ab (Ad s))),vL 1 (Ae (Ag (Ad s))),A6 (Af (AT (Ad s))),vS (Aj (AT (Ad s))),A6 (Bq (AT (Ad s))),vL 4 (Pr.cs (Av (AT (Ad s)))),vL 4 (Pr.cs (Aq (Ad s))),vL 4 (Pr.cs (AJ s))]),(14,Dy v)] xe
inductive DJ where
 | e0 (el:Pr)
 | e1
 | e2
def DZ(v:Nv):List Pr->DJ
 | []=>(DJ.e2)
 | el::r=>(if Prod.snd (FX v el)=0 then (if Prod.fst (FX v el)=ByteArray.mk #[73,110,116] then DZ v r  else (DJ.e1)) else (DJ.e0 el))
def Ls(s:Df)(v:Nv)(xe:Ext)  : DJ->A4 × S
 | .e0 el=>(.ret,S.mk [(3,.lp 3 0),(14,.lp 14 0),(4,A6 (Prod.snd (FX v el)))] [(3,[vL 1 (Ae (CS s)),vL 2 (Vr.cs (CT s)),vL 2 (Vr.cs (A8 s)),vL 10 (Bo.cs (Ak s)),A6 (AB (Ad s)),vS (An (Ad s)),vL 9 (Tp.cs (Ab (Ad s))),vL 1 (Ae (Ag (Ad s))),A6 (Af (AT (Ad s))),vS (Aj (AT (Ad s))),A6 (Bq (AT (Ad s))),vL 4 (Pr.cs (Av (AT (Ad s)))),vL 4 (Pr.cs (Aq (Ad s))),vL 4 (Pr.cs (AJ s))]),(14,Dy v)] xe)
 | .e1=>(.ret,S.mk [(3,.lp 3 0),(14,.lp 14 0),(4,A6 11)] [(3,[vL 1 (Ae (CS s)),vL 2 (Vr.cs (CT s)),vL 2 (Vr.cs (A8 s)),vL 10 (Bo.cs (Ak s)),A6 (AB (Ad s)),vS (An (Ad s)),vL 9 (Tp.cs (Ab (Ad s))),vL 1 (Ae (Ag (Ad s))),A6 (Af (AT (Ad s))),vS (Aj (AT (Ad s))),A6 (Bq (AT (Ad s))),vL 4 (Pr.cs (Av (AT (Ad s)))),vL 4 (Pr.cs (Aq (Ad s))),vL 4 (Pr.cs (AJ s))]),(14,Dy v)] xe)
 | .e2=>(.exit 10,S.mk [(3,.lp 3 0),(14,.lp 14 0)] [(3,[vL 1 (Ae (CS s)),vL 2 (Vr.cs (CT s)),vL 2 (Vr.cs (A8 s)),vL 10 (Bo.cs (Ak s)),A6 (AB (Ad s)),vS (An (Ad s)),vL 9 (Tp.cs (Ab (Ad s))),vL 1 (Ae (Ag (Ad s))),A6 (Af (AT (Ad s))),vS (Aj (AT (Ad s))),A6 (Bq (AT (Ad s))),vL 4 (Pr.cs (Av (AT (Ad s)))),vL 4 (Pr.cs (Aq (Ad s))),vL 4 (Pr.cs (AJ s))]),(14,Dy v)] xe)
theorem Mf(s:Df)(v:Nv)(hW:Ba v)(ET:∀w∈AJ s,A3 (AN w)<=100000000)(xe:Ext)(hN:(AJ s).length<=1000000000):(Ob.loop 173 (Au f17 5) (wT s v xe 0) (Ls s v xe  (DZ v ((AJ s)))).1 (Ls s v xe  (DZ v ((AJ s)))).2).ok prog:=by
 refine CL ((AJ s).length) (fun j _=>wT s v xe j) (fun i _=>DZ v (List.drop i ((AJ s)))) (Ls s v xe) (fun i _=>True) kR ?_ () trivial
 rintro i u hi -
 rcases Nat.lt_or_ge i ((AJ s).length) with Ac | Cm
 ·have hd:=At Ac
  by_cases h0:Prod.snd (FX v (List.getD (AJ s) i default))=0
  ·by_cases h1:Prod.fst (FX v (List.getD (AJ s) i default))=ByteArray.mk #[73,110,116]
   ·exact lN A9 [sl (Pr.A0 (AJ s)),dt ((i:Int)<((AJ s).length:Int)),FG (AJ s) (i:Int),My (AJ s) i Ac,cl (@Xh (v) (List.getD (AJ s) i default) hW (by (apply gMe <;> first | assumption | omega | decide))),B1 h0,bf (!ByteArray.toList (Prod.fst (FX v (List.getD (AJ s) i default)))==ByteArray.toList (ByteArray.mk #[73,110,116])) (AI (BI h1)),wr ((i:Int)+1)] Ac () trivial (by rw [hd,DZ,iP h0,iP h1])
   ·exact lX A9 [sl (Pr.A0 (AJ s)),dt ((i:Int)<((AJ s).length:Int)),FG (AJ s) (i:Int),My (AJ s) i Ac,cl (@Xh (v) (List.getD (AJ s) i default) hW (by (apply gMe <;> first | assumption | omega | decide))),B1 h0,bt (!ByteArray.toList (Prod.fst (FX v (List.getD (AJ s) i default)))==ByteArray.toList (ByteArray.mk #[73,110,116])) (B0 (Bp h1))] (DJ.e1) (by rw [hd,DZ,iP h0,iN h1])
  ·exact lX A9 [sl (Pr.A0 (AJ s)),dt ((i:Int)<((AJ s).length:Int)),FG (AJ s) (i:Int),My (AJ s) i Ac,cl (@Xh (v) (List.getD (AJ s) i default) hW (by (apply gMe <;> first | assumption | omega | decide))),Bi h0] (DJ.e0 (List.getD ((AJ s)) i default)) (by rw [hd,DZ,iN h0])
 ·have he:i=(AJ s).length:=by omega
  exact lX A9 [sl (Pr.A0 (AJ s)),df ((i:Int)<((AJ s).length:Int))] (DJ.e2) (by rw [he,List.drop_length,DZ])
theorem A5k(m:Mo)(s:Df)(hs:A3 (BD m)<=1048576)(BC:(AL m).length<=1048576)(hE:∀b∈Ak s,Ba (.mk (B6 b) (BQ m (A8 s)) []))(EP:Ba (.mk [] (BQ m (A8 s)) []))(DR:∀b∈Ak s,A3 (AN (Cv b))<=100000000/\A3 (AN (EU b))<=100000000)(E9:Ah (Bo.cs (Ak s))<=10000000)(Cw:A3 (AO (Ad s))<=10000000)(Gp:¬((A8 s).length:Int)>6)(Na:CO m s (A8 s) 0=CZ.e2)(oY:Dp m s (Ak s) 0=DG.e2)(hwt:Cp m (.mk [] (BQ m (A8 s)) []) (Ad s)=0)(sQ:¬((AJ s).length:Int)>6)(Kb:AB (Ad s)=6)(e:Ext):(Ob.loop 173 (Au f17 4) (S.mk [(3,.lp 3 0),(14,.lp 14 0),(15,A6 0)] [(3,sgX s),(14,[.v .A2,.v (.sl 3 (Sy.cs (BQ m (A8 s)))),.v .A2])] e) (Tl m s e (DY s (Ab (Ad s)).dropLast 0 (.mk [] (BQ m (A8 s)) []))).1 (Tl m s e (DY s (Ab (Ad s)).dropLast 0 (.mk [] (BQ m (A8 s)) []))).2).ok prog:=
 Ob.Js (by refine ⟨⟨W,W,W,B7⟩,⟨Fg.refl _,⟨.inr rfl,W,.inr rfl,B7⟩,B7⟩,rfl⟩) (rgC m s hs BC Gp Na hE EP DR E9 oY Cw hwt sQ Kb (List.length_dropLast) (.mk [] (BQ m (A8 s)) []) e (by
  have h1:=BY (Ad s)
  have h3:=Tp.BS (Ab (Ad s))
  rw [List.length_dropLast]; omega) (VY EP))
theorem wU(m:Mo)(s:Df)(EP:Ba (.mk [] (BQ m (A8 s)) []))(ET:∀w∈AJ s,A3 (AN w)<=100000000)(Fz:(AJ s).length<=1000000000)(xe:Ext)(p0:Pr)(Be:DZ (.mk [] (BQ m (A8 s)) []) (AJ s)=(DJ.e0 p0)):(Ob.loop 173 (Au f17 5) (S.mk [(3,.lp 3 0),(14,.lp 14 0),(16,A6 0)] [(3,sgX s),(14,[.v .A2,.v (.sl 3 (Sy.cs (BQ m (A8 s)))),.v .A2])] xe) (Ls s (.mk [] (BQ m (A8 s)) []) xe (DJ.e0 p0)).1 (Ls s (.mk [] (BQ m (A8 s)) []) xe (DJ.e0 p0)).2).ok prog:=
 Ob.Js (by refine ⟨⟨W,W,W,B7⟩,⟨Fg.refl _,⟨.inr rfl,W,.inr rfl,B7⟩,B7⟩,rfl⟩) (rz (Mf s (.mk [] (BQ m (A8 s)) []) EP ET xe Fz) Be)
theorem wW(m:Mo)(s:Df)(EP:Ba (.mk [] (BQ m (A8 s)) []))(ET:∀w∈AJ s,A3 (AN w)<=100000000)(Fz:(AJ s).length<=1000000000)(xe:Ext)(Be:DZ (.mk [] (BQ m (A8 s)) []) (AJ s)=DJ.e1):(Ob.loop 173 (Au f17 5) (S.mk [(3,.lp 3 0),(14,.lp 14 0),(16,A6 0)] [(3,sgX s),(14,[.v .A2,.v (.sl 3 (Sy.cs (BQ m (A8 s)))),.v .A2])] xe) (Ls s (.mk [] (BQ m (A8 s)) []) xe DJ.e1).1 (Ls s (.mk [] (BQ m (A8 s)) []) xe DJ.e1).2).ok prog:=
 Ob.Js (by refine ⟨⟨W,W,W,B7⟩,⟨Fg.refl _,⟨.inr rfl,W,.inr rfl,B7⟩,B7⟩,rfl⟩) (rz (Mf s (.mk [] (BQ m (A8 s)) []) EP ET xe Fz) Be)
theorem wX(m:Mo)(s:Df)(EP:Ba (.mk [] (BQ m (A8 s)) []))(ET:∀w∈AJ s,A3 (AN w)<=100000000)(Fz:(AJ s).length<=1000000000)(xe:Ext)(Be:DZ (.mk [] (BQ m (A8 s)) []) (AJ s)=DJ.e2):(Ob.loop 173 (Au f17 5) (S.mk [(3,.lp 3 0),(14,.lp 14 0),(16,A6 0)] [(3,sgX s),(14,[.v .A2,.v (.sl 3 (Sy.cs (BQ m (A8 s)))),.v .A2])] xe) (Ls s (.mk [] (BQ m (A8 s)) []) xe DJ.e2).1 (Ls s (.mk [] (BQ m (A8 s)) []) xe DJ.e2).2).ok prog:=
 Ob.Js (by refine ⟨⟨W,W,W,B7⟩,⟨Fg.refl _,⟨.inr rfl,W,.inr rfl,B7⟩,B7⟩,rfl⟩) (rz (Mf s (.mk [] (BQ m (A8 s)) []) EP ET xe Fz) Be)
theorem jE{s:Df}{l:List Sy}(Cw:A3 (AO (Ad s))<=10000000):∀ (r:List Tp) (i:Nat) (u:Nv),i+r.length<=(Ab (Ad s)).dropLast.length->GF (eV l) u i->GF (eV l) (DY s r i u) (i+r.length)
 | [],i,u,_,h=>h
 | c::r,i,u,hl,h=>by
  simp only [List.length_cons] at hl
  rw [DY,List.length_cons,show i+(r.length+1)=i+1+r.length by omega]
  exact jE Cw r (i+1) _ oM (Aes h Cw List.length_dropLast oM)
theorem gRc{s:Df}{l:List Sy}(EP:Ba (.mk [] l []))(Cw:A3 (AO (Ad s))<=10000000):Ba (DY s (Ab (Ad s)).dropLast 0 (.mk [] l [])):=(jE Cw (Ab (Ad s)).dropLast 0 (.mk [] l []) oM (VY EP)).1
section
variable (m:Mo) (s:Df) (hs:A3 (BD m)<=1048576) (BC:(AL m).length<=1048576) (hE:∀b∈Ak s,Ba (.mk (B6 b) (BQ m (A8 s)) [])) (EP:Ba (.mk [] (BQ m (A8 s)) [])) (DR:∀b∈Ak s,A3 (AN (Cv b))<=100000000/\A3 (AN (EU b))<=100000000) (E9:Ah (Bo.cs (Ak s))<=10000000) (Cw:A3 (AO (Ad s))<=10000000) (ET:∀w∈AJ s,A3 (AN w)<=100000000) (Fz:(AJ s).length<=1000000000)
include m s hs BC hE EP DR E9 Cw ET Fz
theorem A5l(Kb:AB (Ad s)=6)(A7:((A8 s).length:Int)>6):Pu 17 [.agg (BD m),.agg (FM s)] (rI 7):=
 pm A9 [sl (Vr.A0 (A8 s)),BL A7] func17
theorem A5m(Kb:AB (Ad s)=6)(A7:¬((A8 s).length:Int)>6)(Aa:CO m s (A8 s) 0=CZ.e0):Pu 17 [.agg (BD m),.agg (FM s)] (rI 4):=
 pu A9 (fun e=>[sl (Vr.A0 (A8 s)),Ar A7,lq (rz (Dt (m) (s) hs A7 (e) oM) Aa)]) func17
theorem A5n(Kb:AB (Ad s)=6)(A7:¬((A8 s).length:Int)>6)(I6:Vr)(Am:CO m s (A8 s) 0=CZ.e1 I6):Pu 17 [.agg (BD m),.agg (FM s)] (rI (H8 (CD I6))):=
 pu A9 (fun e=>[sl (Vr.A0 (A8 s)),Ar A7,lq (rz (Dt (m) (s) hs A7 (e) oM) Am)]) func17
theorem A5o(Kb:AB (Ad s)=6)(A7:¬((A8 s).length:Int)>6)(Aa:CO m s (A8 s) 0=CZ.e2)(Am:Dp m s (Ak s) 0=DG.e0):Pu 17 [.agg (BD m),.agg (FM s)] (rI 4):=
 pu A9 (fun e=>[sl (Vr.A0 (A8 s)),Ar A7,lq (rz (Dt (m) (s) hs A7 (e) oM) Aa),cl (@Jq (m) (A8 s) hs oM),lq (rz (E8 (m) (s) hs A7 Aa hE DR E9 (e) (by (apply Nj <;> first | assumption | omega | decide))) Am)]) func17
theorem A5p(Kb:AB (Ad s)=6)(A7:¬((A8 s).length:Int)>6)(Aa:CO m s (A8 s) 0=CZ.e2)(Iu:Bo)(Az:Dp m s (Ak s) 0=DG.e1 Iu):Pu 17 [.agg (BD m),.agg (FM s)] (rI (Tw (Nv.mk [] (BQ m (A8 s)) []) Iu)):=
 pu A9 (fun e=>[sl (Vr.A0 (A8 s)),Ar A7,lq (rz (Dt (m) (s) hs A7 (e) oM) Aa),cl (@Jq (m) (A8 s) hs oM),lq (rz (E8 (m) (s) hs A7 Aa hE DR E9 (e) (by (apply Nj <;> first | assumption | omega | decide))) Az)]) func17
theorem A5q(Kb:AB (Ad s)=6)(A7:¬((A8 s).length:Int)>6)(Aa:CO m s (A8 s) 0=CZ.e2)(Am:Dp m s (Ak s) 0=DG.e2)(Az:¬Cp m (Nv.mk [] (BQ m (A8 s)) []) (Ad s)=0):Pu 17 [.agg (BD m),.agg (FM s)] (rI (Cp m (Nv.mk [] (BQ m (A8 s)) []) (Ad s))):=
 pu A9 (fun e=>[sl (Vr.A0 (A8 s)),Ar A7,lq (rz (Dt (m) (s) hs A7 (e) oM) Aa),cl (@Jq (m) (A8 s) hs oM),lq (rz (E8 (m) (s) hs A7 Aa hE DR E9 (e) (by (apply Nj <;> first | assumption | omega | decide))) Am),cl (@Xl (m) (BQ m (A8 s)) (Ad s) BC EP Cw),Bi Az]) func17
theorem A5r(Kb:AB (Ad s)=6)(A7:¬((A8 s).length:Int)>6)(Aa:CO m s (A8 s) 0=CZ.e2)(Am:Dp m s (Ak s) 0=DG.e2)(Az:Cp m (Nv.mk [] (BQ m (A8 s)) []) (Ad s)=0)(AP:((AJ s).length:Int)>6):Pu 17 [.agg (BD m),.agg (FM s)] (rI 7):=
 pu A9 (fun e=>[sl (Vr.A0 (A8 s)),Ar A7,lq (rz (Dt (m) (s) hs A7 (e) oM) Aa),cl (@Jq (m) (A8 s) hs oM),lq (rz (E8 (m) (s) hs A7 Aa hE DR E9 (e) (by (apply Nj <;> first | assumption | omega | decide))) Am),cl (@Xl (m) (BQ m (A8 s)) (Ad s) BC EP Cw),B1 Az,sl (Pr.A0 (AJ s)),BL AP]) func17
theorem A5s(Kb:AB (Ad s)=6)(A7:¬((A8 s).length:Int)>6)(Aa:CO m s (A8 s) 0=CZ.e2)(Am:Dp m s (Ak s) 0=DG.e2)(Az:Cp m (Nv.mk [] (BQ m (A8 s)) []) (Ad s)=0)(AP:¬((AJ s).length:Int)>6)(kD:Pr)(En:DZ (DY s (List.dropLast (Ab (Ad s))) 0 (Nv.mk [] (BQ m (A8 s)) [])) (AJ s)=DJ.e0 kD):Pu 17 [.agg (BD m),.agg (FM s)] (rI (Prod.snd (FX (DY s (List.dropLast (Ab (Ad s))) 0 (Nv.mk [] (BQ m (A8 s)) [])) kD))):=
 pu A9 (fun e=>[sl (Vr.A0 (A8 s)),Ar A7,lq (rz (Dt (m) (s) hs A7 (e) oM) Aa),cl (@Jq (m) (A8 s) hs oM),lq (rz (E8 (m) (s) hs A7 Aa hE DR E9 (e) (by (apply Nj <;> first | assumption | omega | decide))) Am),cl (@Xl (m) (BQ m (A8 s)) (Ad s) BC EP Cw),B1 Az,sl (Pr.A0 (AJ s)),Ar AP,lq (@A5k (m) (s) hs BC hE EP DR E9 Cw A7 Aa Am Az AP Kb (e)),lq (rz (Mf (s) (DY s (List.dropLast (Ab (Ad s))) 0 (Nv.mk [] (BQ m (A8 s)) [])) (by (apply gRc <;> first | assumption | omega | decide)) ET (e) Fz) En)]) func17
theorem A5t(Kb:AB (Ad s)=6)(A7:¬((A8 s).length:Int)>6)(Aa:CO m s (A8 s) 0=CZ.e2)(Am:Dp m s (Ak s) 0=DG.e2)(Az:Cp m (Nv.mk [] (BQ m (A8 s)) []) (Ad s)=0)(AP:¬((AJ s).length:Int)>6)(Bu:DZ (DY s (List.dropLast (Ab (Ad s))) 0 (Nv.mk [] (BQ m (A8 s)) [])) (AJ s)=DJ.e1):Pu 17 [.agg (BD m),.agg (FM s)] (rI 11):=
 pu A9 (fun e=>[sl (Vr.A0 (A8 s)),Ar A7,lq (rz (Dt (m) (s) hs A7 (e) oM) Aa),cl (@Jq (m) (A8 s) hs oM),lq (rz (E8 (m) (s) hs A7 Aa hE DR E9 (e) (by (apply Nj <;> first | assumption | omega | decide))) Am),cl (@Xl (m) (BQ m (A8 s)) (Ad s) BC EP Cw),B1 Az,sl (Pr.A0 (AJ s)),Ar AP,lq (@A5k (m) (s) hs BC hE EP DR E9 Cw A7 Aa Am Az AP Kb (e)),lq (rz (Mf (s) (DY s (List.dropLast (Ab (Ad s))) 0 (Nv.mk [] (BQ m (A8 s)) [])) (by (apply gRc <;> first | assumption | omega | decide)) ET (e) Fz) Bu)]) func17
theorem nR(Kb:AB (Ad s)=6)(A7:¬((A8 s).length:Int)>6)(Aa:CO m s (A8 s) 0=CZ.e2)(Am:Dp m s (Ak s) 0=DG.e2)(Az:Cp m (Nv.mk [] (BQ m (A8 s)) []) (Ad s)=0)(AP:¬((AJ s).length:Int)>6)(Bu:DZ (DY s (List.dropLast (Ab (Ad s))) 0 (Nv.mk [] (BQ m (A8 s)) [])) (AJ s)=DJ.e2):Pu 17 [.agg (BD m),.agg (FM s)] (rI 0):=
 pu A9 (fun e=>[sl (Vr.A0 (A8 s)),Ar A7,lq (rz (Dt (m) (s) hs A7 (e) oM) Aa),cl (@Jq (m) (A8 s) hs oM),lq (rz (E8 (m) (s) hs A7 Aa hE DR E9 (e) (by (apply Nj <;> first | assumption | omega | decide))) Am),cl (@Xl (m) (BQ m (A8 s)) (Ad s) BC EP Cw),B1 Az,sl (Pr.A0 (AJ s)),Ar AP,lq (@A5k (m) (s) hs BC hE EP DR E9 Cw A7 Aa Am Az AP Kb (e)),lq (rz (Mf (s) (DY s (List.dropLast (Ab (Ad s))) 0 (Nv.mk [] (BQ m (A8 s)) [])) (by (apply gRc <;> first | assumption | omega | decide)) ET (e) Fz) Bu)]) func17
theorem A5u(Kb:¬AB (Ad s)=6)(A7:((A8 s).length:Int)>6):Pu 17 [.agg (BD m),.agg (FM s)] (rI 7):=
 pm A9 [sl (Vr.A0 (A8 s)),BL A7] func17
theorem A5v(Kb:¬AB (Ad s)=6)(A7:¬((A8 s).length:Int)>6)(Aa:CO m s (A8 s) 0=CZ.e0):Pu 17 [.agg (BD m),.agg (FM s)] (rI 4):=
 pu A9 (fun e=>[sl (Vr.A0 (A8 s)),Ar A7,lq (rz (Dt (m) (s) hs A7 (e) oM) Aa)]) func17
theorem A5w(Kb:¬AB (Ad s)=6)(A7:¬((A8 s).length:Int)>6)(I6:Vr)(Am:CO m s (A8 s) 0=CZ.e1 I6):Pu 17 [.agg (BD m),.agg (FM s)] (rI (H8 (CD I6))):=
 pu A9 (fun e=>[sl (Vr.A0 (A8 s)),Ar A7,lq (rz (Dt (m) (s) hs A7 (e) oM) Am)]) func17
theorem A5x(Kb:¬AB (Ad s)=6)(A7:¬((A8 s).length:Int)>6)(Aa:CO m s (A8 s) 0=CZ.e2)(Am:Dp m s (Ak s) 0=DG.e0):Pu 17 [.agg (BD m),.agg (FM s)] (rI 4):=
 pu A9 (fun e=>[sl (Vr.A0 (A8 s)),Ar A7,lq (rz (Dt (m) (s) hs A7 (e) oM) Aa),cl (@Jq (m) (A8 s) hs oM),lq (rz (E8 (m) (s) hs A7 Aa hE DR E9 (e) (by (apply Nj <;> first | assumption | omega | decide))) Am)]) func17
theorem A5y(Kb:¬AB (Ad s)=6)(A7:¬((A8 s).length:Int)>6)(Aa:CO m s (A8 s) 0=CZ.e2)(Iu:Bo)(Az:Dp m s (Ak s) 0=DG.e1 Iu):Pu 17 [.agg (BD m),.agg (FM s)] (rI (Tw (Nv.mk [] (BQ m (A8 s)) []) Iu)):=
 pu A9 (fun e=>[sl (Vr.A0 (A8 s)),Ar A7,lq (rz (Dt (m) (s) hs A7 (e) oM) Aa),cl (@Jq (m) (A8 s) hs oM),lq (rz (E8 (m) (s) hs A7 Aa hE DR E9 (e) (by (apply Nj <;> first | assumption | omega | decide))) Az)]) func17
theorem A5z(Kb:¬AB (Ad s)=6)(A7:¬((A8 s).length:Int)>6)(Aa:CO m s (A8 s) 0=CZ.e2)(Am:Dp m s (Ak s) 0=DG.e2)(Az:¬Cp m (Nv.mk [] (BQ m (A8 s)) []) (Ad s)=0):Pu 17 [.agg (BD m),.agg (FM s)] (rI (Cp m (Nv.mk [] (BQ m (A8 s)) []) (Ad s))):=
 pu A9 (fun e=>[sl (Vr.A0 (A8 s)),Ar A7,lq (rz (Dt (m) (s) hs A7 (e) oM) Aa),cl (@Jq (m) (A8 s) hs oM),lq (rz (E8 (m) (s) hs A7 Aa hE DR E9 (e) (by (apply Nj <;> first | assumption | omega | decide))) Am),cl (@Xl (m) (BQ m (A8 s)) (Ad s) BC EP Cw),Bi Az]) func17
theorem A60(Kb:¬AB (Ad s)=6)(A7:¬((A8 s).length:Int)>6)(Aa:CO m s (A8 s) 0=CZ.e2)(Am:Dp m s (Ak s) 0=DG.e2)(Az:Cp m (Nv.mk [] (BQ m (A8 s)) []) (Ad s)=0)(AP:((AJ s).length:Int)>6):Pu 17 [.agg (BD m),.agg (FM s)] (rI 7):=
 pu A9 (fun e=>[sl (Vr.A0 (A8 s)),Ar A7,lq (rz (Dt (m) (s) hs A7 (e) oM) Aa),cl (@Jq (m) (A8 s) hs oM),lq (rz (E8 (m) (s) hs A7 Aa hE DR E9 (e) (by (apply Nj <;> first | assumption | omega | decide))) Am),cl (@Xl (m) (BQ m (A8 s)) (Ad s) BC EP Cw),B1 Az,sl (Pr.A0 (AJ s)),BL AP]) func17
theorem A61(Kb:¬AB (Ad s)=6)(A7:¬((A8 s).length:Int)>6)(Aa:CO m s (A8 s) 0=CZ.e2)(Am:Dp m s (Ak s) 0=DG.e2)(Az:Cp m (Nv.mk [] (BQ m (A8 s)) []) (Ad s)=0)(AP:¬((AJ s).length:Int)>6)(Bu:IntKind.wrap .i64 (0+1)<((Ab (Ad s)).length:Int))(hy6:Pr)(OD:DZ (Nv.mk [] (BQ m (A8 s)) []) (AJ s)=DJ.e0 hy6):Pu 17 [.agg (BD m),.agg (FM s)] (rI (Prod.snd (FX (Nv.mk [] (BQ m (A8 s)) []) hy6))):=
 pu A9 (fun e=>[sl (Vr.A0 (A8 s)),Ar A7,lq (rz (Dt (m) (s) hs A7 (e) oM) Aa),cl (@Jq (m) (A8 s) hs oM),lq (rz (E8 (m) (s) hs A7 Aa hE DR E9 (e) (by (apply Nj <;> first | assumption | omega | decide))) Am),cl (@Xl (m) (BQ m (A8 s)) (Ad s) BC EP Cw),B1 Az,sl (Pr.A0 (AJ s)),Ar AP,ur,kp,sl (Tp.A0 (Ab (Ad s))),rp 5 (BL Bu),en (AB (Ad s)) 6 Kb,lq (@wU (m) (s) EP ET Fz (e) hy6 OD)]) func17
theorem A62(Kb:¬AB (Ad s)=6)(A7:¬((A8 s).length:Int)>6)(Aa:CO m s (A8 s) 0=CZ.e2)(Am:Dp m s (Ak s) 0=DG.e2)(Az:Cp m (Nv.mk [] (BQ m (A8 s)) []) (Ad s)=0)(AP:¬((AJ s).length:Int)>6)(Bu:IntKind.wrap .i64 (0+1)<((Ab (Ad s)).length:Int))(En:DZ (Nv.mk [] (BQ m (A8 s)) []) (AJ s)=DJ.e1):Pu 17 [.agg (BD m),.agg (FM s)] (rI 11):=
 pu A9 (fun e=>[sl (Vr.A0 (A8 s)),Ar A7,lq (rz (Dt (m) (s) hs A7 (e) oM) Aa),cl (@Jq (m) (A8 s) hs oM),lq (rz (E8 (m) (s) hs A7 Aa hE DR E9 (e) (by (apply Nj <;> first | assumption | omega | decide))) Am),cl (@Xl (m) (BQ m (A8 s)) (Ad s) BC EP Cw),B1 Az,sl (Pr.A0 (AJ s)),Ar AP,ur,kp,sl (Tp.A0 (Ab (Ad s))),rp 5 (BL Bu),en (AB (Ad s)) 6 Kb,lq (@wW (m) (s) EP ET Fz (e) En)]) func17
theorem nS(Kb:¬AB (Ad s)=6)(A7:¬((A8 s).length:Int)>6)(Aa:CO m s (A8 s) 0=CZ.e2)(Am:Dp m s (Ak s) 0=DG.e2)(Az:Cp m (Nv.mk [] (BQ m (A8 s)) []) (Ad s)=0)(AP:¬((AJ s).length:Int)>6)(Bu:IntKind.wrap .i64 (0+1)<((Ab (Ad s)).length:Int))(En:DZ (Nv.mk [] (BQ m (A8 s)) []) (AJ s)=DJ.e2):Pu 17 [.agg (BD m),.agg (FM s)] (rI 0):=
 pu A9 (fun e=>[sl (Vr.A0 (A8 s)),Ar A7,lq (rz (Dt (m) (s) hs A7 (e) oM) Aa),cl (@Jq (m) (A8 s) hs oM),lq (rz (E8 (m) (s) hs A7 Aa hE DR E9 (e) (by (apply Nj <;> first | assumption | omega | decide))) Am),cl (@Xl (m) (BQ m (A8 s)) (Ad s) BC EP Cw),B1 Az,sl (Pr.A0 (AJ s)),Ar AP,ur,kp,sl (Tp.A0 (Ab (Ad s))),rp 5 (BL Bu),en (AB (Ad s)) 6 Kb,lq (@wX (m) (s) EP ET Fz (e) En)]) func17
theorem nT(Kb:¬AB (Ad s)=6)(A7:¬((A8 s).length:Int)>6)(Aa:CO m s (A8 s) 0=CZ.e2)(Am:Dp m s (Ak s) 0=DG.e2)(Az:Cp m (Nv.mk [] (BQ m (A8 s)) []) (Ad s)=0)(AP:¬((AJ s).length:Int)>6)(Bu:¬IntKind.wrap .i64 (0+1)<((Ab (Ad s)).length:Int))(hy6:Pr)(OD:DZ (Nv.mk [] (BQ m (A8 s)) []) (AJ s)=DJ.e0 hy6):Pu 17 [.agg (BD m),.agg (FM s)] (rI (Prod.snd (FX (Nv.mk [] (BQ m (A8 s)) []) hy6))):=
 pu A9 (fun e=>[sl (Vr.A0 (A8 s)),Ar A7,lq (rz (Dt (m) (s) hs A7 (e) oM) Aa),cl (@Jq (m) (A8 s) hs oM),lq (rz (E8 (m) (s) hs A7 Aa hE DR E9 (e) (by (apply Nj <;> first | assumption | omega | decide))) Am),cl (@Xl (m) (BQ m (A8 s)) (Ad s) BC EP Cw),B1 Az,sl (Pr.A0 (AJ s)),Ar AP,ur,kp,sl (Tp.A0 (Ab (Ad s))),rp 5 (Ar Bu),bf false,lq (@wU (m) (s) EP ET Fz (e) hy6 OD)]) func17
theorem nU(Kb:¬AB (Ad s)=6)(A7:¬((A8 s).length:Int)>6)(Aa:CO m s (A8 s) 0=CZ.e2)(Am:Dp m s (Ak s) 0=DG.e2)(Az:Cp m (Nv.mk [] (BQ m (A8 s)) []) (Ad s)=0)(AP:¬((AJ s).length:Int)>6)(Bu:¬IntKind.wrap .i64 (0+1)<((Ab (Ad s)).length:Int))(En:DZ (Nv.mk [] (BQ m (A8 s)) []) (AJ s)=DJ.e1):Pu 17 [.agg (BD m),.agg (FM s)] (rI 11):=
 pu A9 (fun e=>[sl (Vr.A0 (A8 s)),Ar A7,lq (rz (Dt (m) (s) hs A7 (e) oM) Aa),cl (@Jq (m) (A8 s) hs oM),lq (rz (E8 (m) (s) hs A7 Aa hE DR E9 (e) (by (apply Nj <;> first | assumption | omega | decide))) Am),cl (@Xl (m) (BQ m (A8 s)) (Ad s) BC EP Cw),B1 Az,sl (Pr.A0 (AJ s)),Ar AP,ur,kp,sl (Tp.A0 (Ab (Ad s))),rp 5 (Ar Bu),bf false,lq (@wW (m) (s) EP ET Fz (e) En)]) func17
theorem nV(Kb:¬AB (Ad s)=6)(A7:¬((A8 s).length:Int)>6)(Aa:CO m s (A8 s) 0=CZ.e2)(Am:Dp m s (Ak s) 0=DG.e2)(Az:Cp m (Nv.mk [] (BQ m (A8 s)) []) (Ad s)=0)(AP:¬((AJ s).length:Int)>6)(Bu:¬IntKind.wrap .i64 (0+1)<((Ab (Ad s)).length:Int))(En:DZ (Nv.mk [] (BQ m (A8 s)) []) (AJ s)=DJ.e2):Pu 17 [.agg (BD m),.agg (FM s)] (rI 0):=
 pu A9 (fun e=>[sl (Vr.A0 (A8 s)),Ar A7,lq (rz (Dt (m) (s) hs A7 (e) oM) Aa),cl (@Jq (m) (A8 s) hs oM),lq (rz (E8 (m) (s) hs A7 Aa hE DR E9 (e) (by (apply Nj <;> first | assumption | omega | decide))) Am),cl (@Xl (m) (BQ m (A8 s)) (Ad s) BC EP Cw),B1 Az,sl (Pr.A0 (AJ s)),Ar AP,ur,kp,sl (Tp.A0 (Ab (Ad s))),rp 5 (Ar Bu),bf false,lq (@wX (m) (s) EP ET Fz (e) En)]) func17
end
def sgE(m:Mo)(s:Df):Int:=
 if ((A8 s).length:Int)>6 then 7 else match DQ m s (A8 s) 0 with
 | .e0=>4
 | .e1 w=>H8 (CD w)
 | .e2=>match Ew m s (Ak s) 0 with
  | .e0=>4
  | .e1 b=>Tw (.mk [] (BQ m (A8 s)) []) b
  | .e2=>if Cp m (.mk [] (BQ m (A8 s)) []) (Ad s)=0 then (if ((AJ s).length:Int)>6 then 7 else Bg (Cf (Ey s (Ag (Ad s)) 0 (.mk [] (BQ m (A8 s)) []))) (AJ s)) else Cp m (.mk [] (BQ m (A8 s)) []) (Ad s)
theorem sgT(m:Mo)(s:Df)(hs:A3 (BD m)<=1048576)(BC:(AL m).length<=1048576)(hE:Ba (.mk [] (BQ m (A8 s)) []))(DR:∀b∈Ak s,A3 (AN (Cv b))<=100000000/\A3 (AN (EU b))<=100000000)(E9:Ah (Bo.cs (Ak s))<=10000000)(Cw:A3 (AO (Ad s))<=10000000)(ET:∀w∈AJ s,A3 (AN w)<=100000000)(Fz:(AJ s).length<=1000000000):Pu 16 [.agg (BD m),.agg (FM s)] (.ret (.int .i64 (sgE m s))):=by
 unfold sgE
 by_cases h1:((A8 s).length:Int)>6
 ·rw [iP h1]; exact A5a m s hs BC hE DR E9 Cw ET Fz h1
 rw [iN h1]
 cases ha:DQ m s (A8 s) 0 with
 | e0=>exact A5b m s hs BC hE DR E9 Cw ET Fz h1 ha
 | e1 w=>exact A5c m s hs BC hE DR E9 Cw ET Fz h1 w ha
 | e2=>
  cases hb:Ew m s (Ak s) 0 with
  | e0=>exact A5d m s hs BC hE DR E9 Cw ET Fz h1 ha hb
  | e1 b=>exact A5e m s hs BC hE DR E9 Cw ET Fz h1 ha b hb
  | e2=>
   simp only
   by_cases hw:Cp m (.mk [] (BQ m (A8 s)) []) (Ad s)=0
   ·rw [iP hw]
    by_cases h6:((AJ s).length:Int)>6
    ·rw [iP h6]; exact A5g m s hs BC hE DR E9 Cw ET Fz h1 ha hb hw h6
    ·rw [iN h6]; exact A5h m s hs BC hE DR E9 Cw ET Fz h1 ha hb hw h6
   ·rw [iN hw]; exact A5f m s hs BC hE DR E9 Cw ET Fz h1 ha hb hw
theorem wY(m:Mo)(s:Df):∀ (l:List Vr) (i:Nat),CO m s l i=match DQ m s l i with
  | .e0 => .e0
  | .e1 w => .e1 w
  | .e2 => .e2
 | [],i=>rfl
 | c::r,i=>by
  have ih:=wY m s r (i+1)
  rw [CO,DQ]
  cases h1:EJ m (AE c) with
  | true=>rw [Bool.true_or,iP rfl,iP rfl]
  | false=>
   rw [Bool.false_or,iN (show ¬(false:Bool)=true by decide)]
   by_cases h2:C1 AE (AE c) (List.take i (A8 s))=true
   ·rw [iP h2,iP h2]
   ·rw [iN h2,iN h2]
    by_cases h3:H8 (CD c)=0
    ·rw [iP h3,iP h3]; exact ih
    ·rw [iN h3,iN h3]
theorem wZ(m:Mo)(s:Df):∀ (n i:Nat),n+i=(Ak s).length->Dp m s ((Ak s).drop i) i=match Ew m s ((Ak s).drop i) i with
  | .e0 => .e0
  | .e1 w => .e1 w
  | .e2 => .e2
 | 0,i,h=>by
  have:(Ak s).drop i=[]:=List.drop_eq_nil_of_le oM
  rw [this]; rfl
 | n+1,i,h=>by
  have hi:i<(Ak s).length:=by omega
  have ih:=wZ m s n (i+1) oM
  rw [At hi,Dp,Ew]
  have hd:Xm s i=C1 Cd (Cd ((Ak s).getD i default)) ((Ak s).take i):=rfl
  rw [hd]
  by_cases h2:C1 Cd (Cd ((Ak s).getD i default)) ((Ak s).take i)=true
  ·rw [iP h2,iP h2]
  ·rw [iN h2,iN h2]
   by_cases h3:Tw (.mk [] (BQ m (A8 s)) []) ((Ak s).getD i default)=0
   ·rw [iP h3,iP h3]; exact ih
   ·rw [iN h3,iN h3]
theorem jF(v:Nv):∀l:List Pr,(Bg (Cf v) l=0->DZ v l = .e2)/\(¬Bg (Cf v) l=0->(∃w,DZ v l = .e0 w/\(FX v w).2=Bg (Cf v) l)∨(DZ v l = .e1/\11=Bg (Cf v) l))
 | []=>⟨fun _=>rfl,fun h=>absurd rfl h⟩
 | c::r=>by
  have ih:=jF v r
  rw [DZ,Bg]
  by_cases h1:(FX v c).2=0
  ·rw [iP h1]
   by_cases h2:(FX v c).1=ByteArray.mk #[73,110,116]
   ·have h3:Cf v c=0:=by unfold Cf; rw [iP h1,iP h2,h1]
    rw [iP h2,iP h3]; exact ih
   ·have h3:Cf v c=11:=by unfold Cf; rw [iP h1,iN h2]
    rw [iN h2,iN (by rw [h3]; decide),h3]
    exact ⟨fun h=>absurd h dD,fun _ => .inr ⟨rfl,rfl⟩⟩
  ·have h3:Cf v c=(FX v c).2:=by unfold Cf; rw [iN h1]
   rw [iN h1,iN (by rw [h3]; exact h1),h3]
   exact ⟨fun h=>absurd h h1,fun _ => .inl ⟨c,rfl,rfl⟩⟩
theorem x3{t:Tp}(h:E7 t=0):(Ag t=[]∨(AB t=6/\(Ag t).length=(Ab t).length - 1)):=by
 unfold E7 at h
 by_cases h1:AZ t=true
 ·rw [iP h1] at h; cases h
 rw [iN h1] at h
 by_cases h3:E6 t=true
 ·rw [iP h3] at h; cases h
 rw [iN h3] at h
 by_cases h5:Cy t=true
 ·rw [iP h5] at h; cases h
 by_cases hn:(Ag t).length=0
 ·exact .inl (List.eq_nil_of_length_eq_zero hn)
 have hp:((Ag t).length:Int)>0:=by omega
 by_cases h6:AB t=6
 ·refine .inr ⟨h6,?_⟩
  unfold Cy at h5
  rw [iP h6] at h5
  by_cases ha:((Ab t).length:Int)<2
  ·rw [iP ha] at h5; exact absurd rfl h5
  rw [iN ha] at h5
  by_cases hb:((Ab t).length:Int)>7
  ·rw [iP hb] at h5; exact absurd rfl h5
  rw [iN hb,iP hp] at h5
  have:((Ag t).length:Int)=((Ab t).length:Int) - 1:=by
   by_cases e:((Ag t).length:Int)=((Ab t).length:Int) - 1
   ·exact e
   ·exact absurd (bne_iff_ne.2 e) h5
  omega
 ·have hb:(AB t != 6)=true:=bne_iff_ne.2 h6
  refine absurd ?_ h1
  unfold AZ
  simp only [hp,if_true,hb]
  repeat' split
  all_goals first | rfl | simp_all
theorem x4{t:Tp}(h:DE t=0):E7 t=0:=by
 have hc:E5 t=0:=by
  unfold DE at h
  split at h
  ·assumption
  ·exact h
 unfold E5 at hc
 split at hc
 ·cases hc
 ·unfold fmF at hc
  rw [mL,sF] at hc
  split at hc
  ·assumption
  ·exact hc
theorem x5{m:Mo}{v:Nv}{t:Tp}(h:Cp m v t=0):DE t=0:=by
 unfold Cp at h
 split at h
 ·assumption
 ·exact h
theorem Aeu{t:Tp}(h:DE t=0):∀x∈Ag t,¬x=Ai:=by
 cases W5 h with
 | mk _ h _=>exact h
theorem We{s:Df}(hn:Ag (Ad s)=[]):∀ (r:List Tp) (i:Nat) (u:Nv),DY s r i u=u
 | [],i,u=>rfl
 | c::r,i,u=>by
  rw [DY]
  have:UB (Ad s) i=Ai:=by unfold UB; rw [hn,iN sM]
  rw [this,W6]
  exact We hn r (i+1) u
theorem jG{s:Df}(hn:∀x∈Ag (Ad s),¬x=Ai)(hl:(Ag (Ad s)).length<=(Ab (Ad s)).length):∀ (n i:Nat) (u:Nv) (r:List Tp),n+i=(Ag (Ad s)).length->r.length=n->DY s r i u=Ey s ((Ag (Ad s)).drop i) i u
 | 0,i,u,r,h,hr=>by
  have h1:(Ag (Ad s)).drop i=[]:=List.drop_eq_nil_of_le oM
  have h2:r=[]:=List.eq_nil_of_length_eq_zero hr
  rw [h1,h2]; rfl
 | n+1,i,u,r,h,hr=>by
  have hi:i<(Ag (Ad s)).length:=by omega
  cases r with
  | nil=>cases hr
  | cons c r=>
   have hd:(Ag (Ad s)).drop i=(Ag (Ad s)).getD i Ai::(Ag (Ad s)).drop (i+1):=by
    rw [List.drop_eq_getElem_cons hi]
    simp [List.getD,hi]
   have hm:(Ag (Ad s)).getD i Ai∈Ag (Ad s):=by
    rw [show (Ag (Ad s)).getD i Ai=(Ag (Ad s))[i] by simp [List.getD,List.getElem?_eq_getElem hi]]; exact List.getElem_mem _
   rw [hd,DY,Ey,iP oM,UB,iP oM,RD (hn _ hm)]
   exact jG hn hl n (i+1) _ r oM (by simpa using hr)
theorem Ai1(m:Mo)(s:Df)(hs:A3 (BD m)<=1048576)(BC:(AL m).length<=1048576)(hE:∀b∈Ak s,Ba (.mk (B6 b) (BQ m (A8 s)) []))(EP:Ba (.mk [] (BQ m (A8 s)) []))(DR:∀b∈Ak s,A3 (AN (Cv b))<=100000000/\A3 (AN (EU b))<=100000000)(E9:Ah (Bo.cs (Ak s))<=10000000)(Cw:A3 (AO (Ad s))<=10000000)(ET:∀w∈AJ s,A3 (AN w)<=100000000)(Fz:(AJ s).length<=1000000000):Pu 17 [.agg (BD m),.agg (FM s)] (.ret (.int .i64 (sgE m s))):=by
 unfold sgE
 have hA:=wY m s (A8 s) 0
 have hB:=wZ m s (Ak s).length 0 oM
 rw [List.drop_zero] at hB
 by_cases h6:AB (Ad s)=6
 ·by_cases h1:((A8 s).length:Int)>6
  ·rw [iP h1]; exact A5l m s hs BC hE EP DR E9 Cw ET Fz h6 h1
  rw [iN h1]
  cases ha:DQ m s (A8 s) 0 with
  | e0=>rw [ha] at hA; exact A5m m s hs BC hE EP DR E9 Cw ET Fz h6 h1 hA
  | e1 w=>rw [ha] at hA; exact A5n m s hs BC hE EP DR E9 Cw ET Fz h6 h1 w hA
  | e2=>
   rw [ha] at hA
   cases hb:Ew m s (Ak s) 0 with
   | e0=>rw [hb] at hB; exact A5o m s hs BC hE EP DR E9 Cw ET Fz h6 h1 hA hB
   | e1 b=>rw [hb] at hB; exact A5p m s hs BC hE EP DR E9 Cw ET Fz h6 h1 hA b hB
   | e2=>
    rw [hb] at hB
    simp only
    by_cases hw:Cp m (.mk [] (BQ m (A8 s)) []) (Ad s)=0
    ·rw [iP hw]
     by_cases hq:((AJ s).length:Int)>6
     ·rw [iP hq]; exact A5r m s hs BC hE EP DR E9 Cw ET Fz h6 h1 hA hB hw hq
     ·rw [iN hq]
      have YQ:=x5 hw
      have hv:DY s (Ab (Ad s)).dropLast 0 (.mk [] (BQ m (A8 s)) [])=Ey s (Ag (Ad s)) 0 (.mk [] (BQ m (A8 s)) []):=by
       rcases x3 (x4 YQ) with hn | ⟨_,hn⟩
       ·rw [We hn,hn]; rfl
       ·have:=jG (Aeu YQ) oM (Ag (Ad s)).length 0 (.mk [] (BQ m (A8 s)) []) (Ab (Ad s)).dropLast oM (by rw [List.length_dropLast]; omega)
        rw [List.drop_zero] at this
        exact this
      have hD:=jF (Ey s (Ag (Ad s)) 0 (.mk [] (BQ m (A8 s)) [])) (AJ s)
      rw [<-hv] at hD ⊢
      by_cases hf:Bg (Cf (DY s (Ab (Ad s)).dropLast 0 (.mk [] (BQ m (A8 s)) []))) (AJ s)=0
      ·rw [hf]; exact nR m s hs BC hE EP DR E9 Cw ET Fz h6 h1 hA hB hw hq (hD.1 hf)
      ·rcases hD.2 hf with ⟨w,e1,e2⟩ | ⟨e1,e2⟩
       ·rw [<-e2]; exact A5s m s hs BC hE EP DR E9 Cw ET Fz h6 h1 hA hB hw hq w e1
       ·rw [<-e2]; exact A5t m s hs BC hE EP DR E9 Cw ET Fz h6 h1 hA hB hw hq e1
    ·rw [iN hw]; exact A5q m s hs BC hE EP DR E9 Cw ET Fz h6 h1 hA hB hw
 ·by_cases h1:((A8 s).length:Int)>6
  ·rw [iP h1]; exact A5u m s hs BC hE EP DR E9 Cw ET Fz h6 h1
  rw [iN h1]
  cases ha:DQ m s (A8 s) 0 with
  | e0=>rw [ha] at hA; exact A5v m s hs BC hE EP DR E9 Cw ET Fz h6 h1 hA
  | e1 w=>rw [ha] at hA; exact A5w m s hs BC hE EP DR E9 Cw ET Fz h6 h1 w hA
  | e2=>
   rw [ha] at hA
   cases hb:Ew m s (Ak s) 0 with
   | e0=>rw [hb] at hB; exact A5x m s hs BC hE EP DR E9 Cw ET Fz h6 h1 hA hB
   | e1 b=>rw [hb] at hB; exact A5y m s hs BC hE EP DR E9 Cw ET Fz h6 h1 hA b hB
   | e2=>
    rw [hb] at hB
    simp only
    by_cases hw:Cp m (.mk [] (BQ m (A8 s)) []) (Ad s)=0
    ·rw [iP hw]
     by_cases hq:((AJ s).length:Int)>6
     ·rw [iP hq]; exact A60 m s hs BC hE EP DR E9 Cw ET Fz h6 h1 hA hB hw hq
     ·rw [iN hq]
      have hn:Ag (Ad s)=[]:=(x3 (x4 (x5 hw))).resolve_right fun h=>h6 h.1
      have hv:Ey s (Ag (Ad s)) 0 (.mk [] (BQ m (A8 s)) []) = .mk [] (BQ m (A8 s)) []:=by rw [hn]; rfl
      rw [hv]
      have hD:=jF (.mk [] (BQ m (A8 s)) []) (AJ s)
      by_cases hl:IntKind.wrap .i64 (0+1)<((Ab (Ad s)).length:Int)
      ·by_cases hf:Bg (Cf (.mk [] (BQ m (A8 s)) [])) (AJ s)=0
       ·rw [hf]; exact nS m s hs BC hE EP DR E9 Cw ET Fz h6 h1 hA hB hw hq hl (hD.1 hf)
       ·rcases hD.2 hf with ⟨w,e1,e2⟩ | ⟨e1,e2⟩
        ·rw [<-e2]; exact A61 m s hs BC hE EP DR E9 Cw ET Fz h6 h1 hA hB hw hq hl w e1
        ·rw [<-e2]; exact A62 m s hs BC hE EP DR E9 Cw ET Fz h6 h1 hA hB hw hq hl e1
      ·by_cases hf:Bg (Cf (.mk [] (BQ m (A8 s)) [])) (AJ s)=0
       ·rw [hf]; exact nV m s hs BC hE EP DR E9 Cw ET Fz h6 h1 hA hB hw hq hl (hD.1 hf)
       ·rcases hD.2 hf with ⟨w,e1,e2⟩ | ⟨e1,e2⟩
        ·rw [<-e2]; exact nT m s hs BC hE EP DR E9 Cw ET Fz h6 h1 hA hB hw hq hl w e1
        ·rw [<-e2]; exact nU m s hs BC hE EP DR E9 Cw ET Fz h6 h1 hA hB hw hq hl e1
    ·rw [iN hw]; exact A5z m s hs BC hE EP DR E9 Cw ET Fz h6 h1 hA hB hw
def dfX(s:Df):Df := .mk Ai [] (.mk 0 Ai 0 [] [] [] []) 0 false (CS s) (CT s) (A8 s) (Ak s) (Ad s) (AJ s)
def moX(m:Mo)(s:Df):Mo := .mk (AL m) (CB m) (DD m) (B3 m) (Ep m) (AW m++[dfX s])
theorem QA{a b:List PV}(h:Co a b):∀l:List (List PV),LU (l++[a]) (l++[b])
 | []=>LU.c h (LU.r _)
 | c::r=>LU.c (Co.r _) (QA h r)
theorem Xn(m:Mo)(hs:Ah (Da.cs (AL m))+Ah (Cl.cs (CB m))+Ah (In.cs (DD m))+Ah (Ms.cs (B3 m))+Ah (Qu.cs (Ep m))<=1048576)(hf:Ah (Df.cs (AW m))<=100000000):∃b,Pu 8 [.agg (BD m)] (.ret (.bool b)):=by
 have w1:=fun {d} (h:d∈AL m)=>Nat.le_trans (Da.mem h) (by omega:Ah (Da.cs (AL m))<=1048576)
 have w2:=fun {d} (h:d∈CB m)=>Nat.le_trans (Cl.mem h) (by omega:Ah (Cl.cs (CB m))<=1048576)
 have w3:=fun {d} (h:d∈DD m)=>Nat.le_trans (In.mem h) (by omega:Ah (In.cs (DD m))<=1048576)
 have w4:=fun {d} (h:d∈B3 m)=>Nat.le_trans (Ms.mem h) (by omega:Ah (Ms.cs (B3 m))<=1048576)
 have w5:=fun {d} (h:d∈Ep m)=>Nat.le_trans (Qu.mem h) (by omega:Ah (Qu.cs (Ep m))<=1048576)
 refine smX m (fun d c k hd hc=>ctT _ k (by have:=w1 hd; have:=W7 d; have:=Cn.mem hc; have:=nK c; omega))
  (fun d hd=>by have:=w1 hd; have:=W7 d; have:=Cn.BS (Gm d); omega)
  (fun k=>Ade _ k oM)
  (fun c p k hc hp=>mJ _ k (by have:=w2 hc; have:=W8 c; have:=Pm.mem hp; have:=VC p; omega))
  (fun c hc=>by have:=w2 hc; have:=W8 c; have:=Pm.BS (Hz c); omega)
  (fun x k hx=>mJ _ k (by have:=w3 hx; have:=W9 x; omega))
  (fun x k hx=>Ade _ k (by have:=w3 hx; have:=W9 x; omega))
  (fun x k hx=>mI _ k (by have:=w4 hx; have:=RE x; omega))
  (fun x c k hx hc=>mI _ k (by have:=w4 hx; have:=RE x; have:=Cs.mem hc; have:=nL c; omega))
  (fun x hx=>by have:=w4 hx; have:=RE x; have:=Cs.BS (HA x); omega)
  (fun x k hx=>mI _ k (by have:=w5 hx; have:=nM x; omega))
theorem Tm:∀a b:List (List PV),Ah (a++b)=Ah a+Ah b
 | [],b=>by simp [Ah]
 | c::r,b=>by rw [List.cons_append,Ah,Ah,Tm r b]; omega
theorem jH(s:Df):A3 (Ou (dfX s))<=A3 (FM s)+1000:=by
 cases s
 simp only [Ou,FM,dfX,D4,L0,Oq,Tu,mA,CS,CT,A8,Ak,Ad,AJ,pO,LZ,pP,IT,Hy,Io,P2,Ae,Ex.cs,Pm.cs,Al.cs,Tp.cs,A3,Ah,CR]
 have hz:Ai.size=0:=rfl
 omega
theorem smW(m:Mo)(s:Df)(hs:A3 (BD m)+A3 (FM s)<=1048576):∃b,Pu 8 [.agg [.sl 4 (Da.cs (AL m)),.sl 3 (Cl.cs (CB m)),.sl 12 (In.cs (DD m)),.sl 8 (Ms.cs (B3 m)),.sl 6 (Qu.cs (Ep m)),.sl 25 (Df.cs (AW m)++[[.str Ai,.A2,.int .i64 0,.str Ai,.int .i64 0,.A2,.A2,.A2,.A2,.int .i64 0,.bool false,.sl 1 (Ae (CS s)),.sl 2 (Vr.cs (CT s)),.sl 2 (Vr.cs (A8 s)),.sl 10 (Bo.cs (Ak s)),.int .i64 (AB (Ad s)),.str (An (Ad s)),.sl 9 (Tp.cs (Ab (Ad s))),.sl 1 (Ae (Ag (Ad s))),.int .i64 (Af (AT (Ad s))),.str (Aj (AT (Ad s))),.int .i64 (Bq (AT (Ad s))),.sl 4 (Pr.cs (Av (AT (Ad s)))),.sl 4 (Pr.cs (Aq (Ad s))),.sl 4 (Pr.cs (AJ s))]])]] (.ret (.bool b)):=by
 have h1:=Gi m
 have h2:=jH s
 obtain ⟨b,hb⟩:=Xn (moX m s) (by show Ah (Da.cs (AL m))+Ah (Cl.cs (CB m))+Ah (In.cs (DD m))+Ah (Ms.cs (B3 m))+Ah (Qu.cs (Ep m))<=1048576; omega) (by
  show Ah (Df.cs (AW m++[dfX s]))<=100000000
  rw [Df.A1,Tm]
  simp only [Ah]; omega)
 refine ⟨b,?_⟩
 have e:BD (moX m s)=[.sl 4 (Da.cs (AL m)),.sl 3 (Cl.cs (CB m)),.sl 12 (In.cs (DD m)),.sl 8 (Ms.cs (B3 m)),.sl 6 (Qu.cs (Ep m)),.sl 25 (Df.cs (AW m)++[Ou (dfX s)])]:=by
  simp only [BD,moX,AL,CB,DD,B3,Ep,AW,Df.A1]
 rw [e] at hb
 exact Ob.JE (Co.c (Wk.a (Co.c (.r _) (Co.c (.r _) (Co.c (.r _) (Co.c (.r _) (Co.c (.r _) (Co.c (Wk.s (QA (Co.c (.r _) (Co.c (.n 1) (Co.c (.r _) (Co.c (.r _) (Co.c (.r _) (Co.c (.n 7) (Co.c (.n 10) (Co.c (.n 9) (Co.c (.n 9) (Co.r _)))))))))) _)) (Co.r [])))))))) (Co.r _)) hb
section
variable (m:Mo) (s:Df) (Ti:(AW m).length<=1048576) (b:Bool) (r:Int) (hsm:Pu 8 [.agg [.sl 4 (Da.cs (AL m)),.sl 3 (Cl.cs (CB m)),.sl 12 (In.cs (DD m)),.sl 8 (Ms.cs (B3 m)),.sl 6 (Qu.cs (Ep m)),.sl 25 (Df.cs (AW m)++[[.str Ai,.A2,.int .i64 0,.str Ai,.int .i64 0,.A2,.A2,.A2,.A2,.int .i64 0,.bool false,.sl 1 (Ae (CS s)),.sl 2 (Vr.cs (CT s)),.sl 2 (Vr.cs (A8 s)),.sl 10 (Bo.cs (Ak s)),.int .i64 (AB (Ad s)),.str (An (Ad s)),.sl 9 (Tp.cs (Ab (Ad s))),.sl 1 (Ae (Ag (Ad s))),.int .i64 (Af (AT (Ad s))),.str (Aj (AT (Ad s))),.int .i64 (Bq (AT (Ad s))),.sl 4 (Pr.cs (Av (AT (Ad s)))),.sl 4 (Pr.cs (Aq (Ad s))),.sl 4 (Pr.cs (AJ s))]])]] (.ret (.bool b))) (Ns:Pu 16 [.agg (BD m),.agg (FM s)] (.ret (.int .i64 r))) (hsr:Pu 17 [.agg (BD m),.agg (FM s)] (.ret (.int .i64 r))) (haw:Pu 10 [] (.ret (.bool true)))
include m s Ti b r hsm Ns hsr haw
theorem Aev(A7:((AW m).length:Int)>70):Pu 4 [.agg (BD m),.agg (FM s)] (rB true):=
 pm A9 [am (List.length ([]++(fun x=>Prod.snd x) (25,Df.cs (AW m))) * (455+1)<=140737488355328) (by (simp only [List.length_append,List.length_nil,Df.A0]; omega)),am (List.length ([]++(fun x=>Prod.snd x) (25,Df.cs (AW m))++(fun x=>Prod.snd x) (24+1,[AA [.str Ai,.A2,pI 0,.str Ai,pI 0,.A2,.A2,.A2,.A2,pI 0,.bool false,.A2,.A2,.A2,.A2,pI 0,.str Ai,.A2,.A2,pI 0,.str Ai,pI 0,.A2,.A2,.A2] (Field.offset (Field.mk "Sig" 57 11 false "" "" 184)) [.sl 1 (Ae (CS s)),.sl 2 (Vr.cs (CT s)),.sl 2 (Vr.cs (A8 s)),.sl 10 (Bo.cs (Ak s)),pI (AB (Ad s)),.str (An (Ad s)),.sl 9 (Tp.cs (Ab (Ad s))),.sl 1 (Ae (Ag (Ad s))),pI (Af (AT (Ad s))),.str (Aj (AT (Ad s))),pI (Bq (AT (Ad s))),.sl 4 (Pr.cs (Av (AT (Ad s)))),.sl 4 (Pr.cs (Aq (Ad s))),.sl 4 (Pr.cs (AJ s))]])) * (455+1)<=140737488355328) (by (simp only [List.length_append,List.length_cons,List.length_nil,A5,Pr.A0,Tp.A0,Vr.A0,Bo.A0,Df.A0]; omega)),sl (Df.A0 (AW m)),rp 4 (BL A7),bt true,cl haw] func4
theorem Aew(A7:¬((AW m).length:Int)>70)(Aa:b=false):Pu 4 [.agg (BD m),.agg (FM s)] (rB true):=
 pm A9 [am (List.length ([]++(fun x=>Prod.snd x) (25,Df.cs (AW m))) * (455+1)<=140737488355328) (by (simp only [List.length_append,List.length_nil,Df.A0]; omega)),am (List.length ([]++(fun x=>Prod.snd x) (25,Df.cs (AW m))++(fun x=>Prod.snd x) (24+1,[AA [.str Ai,.A2,pI 0,.str Ai,pI 0,.A2,.A2,.A2,.A2,pI 0,.bool false,.A2,.A2,.A2,.A2,pI 0,.str Ai,.A2,.A2,pI 0,.str Ai,pI 0,.A2,.A2,.A2] (Field.offset (Field.mk "Sig" 57 11 false "" "" 184)) [.sl 1 (Ae (CS s)),.sl 2 (Vr.cs (CT s)),.sl 2 (Vr.cs (A8 s)),.sl 10 (Bo.cs (Ak s)),pI (AB (Ad s)),.str (An (Ad s)),.sl 9 (Tp.cs (Ab (Ad s))),.sl 1 (Ae (Ag (Ad s))),pI (Af (AT (Ad s))),.str (Aj (AT (Ad s))),pI (Bq (AT (Ad s))),.sl 4 (Pr.cs (Av (AT (Ad s)))),.sl 4 (Pr.cs (Aq (Ad s))),.sl 4 (Pr.cs (AJ s))]])) * (455+1)<=140737488355328) (by (simp only [List.length_append,List.length_cons,List.length_nil,A5,Pr.A0,Tp.A0,Vr.A0,Bo.A0,Df.A0]; omega)),sl (Df.A0 (AW m)),rp 2 (Ar A7),cl hsm,rp 2 (Ar A7),AV (B0 Aa),cl haw] func4
theorem Aex(A7:¬((AW m).length:Int)>70)(Aa:b=true):Pu 4 [.agg (BD m),.agg (FM s)] (rB true):=
 pm A9 [am (List.length ([]++(fun x=>Prod.snd x) (25,Df.cs (AW m))) * (455+1)<=140737488355328) (by (simp only [List.length_append,List.length_nil,Df.A0]; omega)),am (List.length ([]++(fun x=>Prod.snd x) (25,Df.cs (AW m))++(fun x=>Prod.snd x) (24+1,[AA [.str Ai,.A2,pI 0,.str Ai,pI 0,.A2,.A2,.A2,.A2,pI 0,.bool false,.A2,.A2,.A2,.A2,pI 0,.str Ai,.A2,.A2,pI 0,.str Ai,pI 0,.A2,.A2,.A2] (Field.offset (Field.mk "Sig" 57 11 false "" "" 184)) [.sl 1 (Ae (CS s)),.sl 2 (Vr.cs (CT s)),.sl 2 (Vr.cs (A8 s)),.sl 10 (Bo.cs (Ak s)),pI (AB (Ad s)),.str (An (Ad s)),.sl 9 (Tp.cs (Ab (Ad s))),.sl 1 (Ae (Ag (Ad s))),pI (Af (AT (Ad s))),.str (Aj (AT (Ad s))),pI (Bq (AT (Ad s))),.sl 4 (Pr.cs (Av (AT (Ad s)))),.sl 4 (Pr.cs (Aq (Ad s))),.sl 4 (Pr.cs (AJ s))]])) * (455+1)<=140737488355328) (by (simp only [List.length_append,List.length_cons,List.length_nil,A5,Pr.A0,Tp.A0,Vr.A0,Bo.A0,Df.A0]; omega)),sl (Df.A0 (AW m)),rp 2 (Ar A7),cl hsm,rp 2 (Ar A7),AM (AI Aa),cl Ns,cl hsr,et r r,cl haw,et r r] func4
end
def jI(f:List PV->Option Pr):List (List PV)->Option (List Pr)
 | []=>some []
 | c::r=>match f c with
  | some p=>(match jI f r with
   | some l=>some (p::l)
   | none=>none)
  | none=>none
def nW:Nat->List PV->Option Pr
 | 0,_=>none
 | k+1,cs=>match cs with
  | [.int .i64 o,.str nm,.int .i64 n,.A2]=>some (.mk o nm n [])
  | [.int .i64 o,.str nm,.int .i64 n,.sl 4 es]=>(match jI (nW k) es with
   | some l=>some (.mk o nm n l)
   | none=>none)
  | _=>none
theorem Wf{f:List PV->Option Pr}(hf:∀cs p,f cs=some p->Co cs (AN p)):∀ (es:List (List PV)) (l:List Pr),jI f es=some l->LU es (Pr.cs l)
 | [],l,h=>by simp only [jI,Option.some.injEq] at h; subst h; exact LU.r _
 | c::r,l,h=>by
  simp only [jI] at h
  split at h
  ·rename_i p hp
   split at h
   ·rename_i l' hl
    simp only [Option.some.injEq] at h
    subst h
    rw [show Pr.cs (p::l')=AN p::Pr.cs l' by simp [Pr.AD]]
    exact LU.c (hf _ _ hp) (Wf hf r l' hl)
   ·cases h
  ·cases h
theorem Wg:∀ (k:Nat) (cs:List PV) (p:Pr),nW k cs=some p->Co cs (AN p)
 | 0,_,_,h=>by cases h
 | k+1,cs,p,h=>by
  simp only [nW] at h
  split at h
  ·simp only [Option.some.injEq] at h
   subst h
   exact Co.c (.r _) (Co.c (.r _) (Co.c (.r _) (Co.c (.n 4) (Co.r _))))
  ·split at h
   ·rename_i l hl
    simp only [Option.some.injEq] at h
    subst h
    exact Co.c (.r _) (Co.c (.r _) (Co.c (.r _) (Co.c (Wk.s (Wf (Wg k) _ _ hl)) (Co.r _))))
   ·cases h
  ·cases h
def knA:JK:=fun f args e=>if f=173 then (match args with
 | [.agg cs]=>(match nW 50 cs with
  | some p=>if A3 (AN p)<=100000000 then some (.ret (.int .i64 (Hf p)),e) else none
  | none=>none)
 | _=>none) else none
theorem OZ:F2 prog knA:=by
 intro f args e r e' h
 unfold knA at h
 split at h
 ·rename_i hf
  subst hf
  split at h
  ·rename_i cs
   split at h
   ·rename_i p hp
    split at h
    ·rename_i hs
     simp only [Option.some.injEq,Prod.mk.injEq] at h
     obtain ⟨rfl,rfl⟩:=h
     have:=Ob.JE (Co.c (Wk.a (Wg _ _ _ hp)) (Co.r [])) (pcT p hs)
     exact ⟨this.1,this.2 e⟩
    ·cases h
   ·cases h
  ·cases h
 ·cases h
def Ai2:List (Nat × Nat × Bool):=[(16,113,false),(16,120,false),(38,9,true),(45,26,false),(60,34,true),(60,54,false),(60,104,false),(60,112,false),(61,34,true),(61,95,true),(114,54,true),(114,187,false),(125,26,true),(125,215,false),(151,194,false),(151,202,true),(160,41,true),(196,81,true),(196,194,false),(196,202,true),(199,87,true),(199,194,true),(199,202,true),(202,37,false),(202,202,true),(205,81,false),(205,202,true),(225,41,true),(238,202,true),(256,97,true),(263,37,false),(263,57,false),(263,194,false),(263,202,true),(275,74,true),(281,37,true),(281,202,true),(291,50,false),(292,37,true),(292,63,true),(292,202,true),(314,3,false),(321,37,true),(321,202,true)]
def nX(f:FuncId):Md:=⟨fun t=>match Ai2.find? fun x=>x.1==f&&x.2.1==t with
 | some (_,_,true)=>some true
 | some (_,_,false)=>none
 | none=>some false,fun _=>false⟩
theorem vb(a:BA):Pu 26 [.str a] (.ret (.agg [.int .i64 3,.str a,.int .i64 0,.A2])):=Ob.GM nX 60 60 mixed kR rfl rfl
theorem ig1:Pu 27 [.agg [.int .i64 0,.str Ai,.int .i64 0,.A2]] (.ret (.agg [.int .i64 1,.str Ai,.A2,.A2,.int .i64 0,.str Ai,.int .i64 0,.A2,.A2])):=Ob.GM nX 60 60 mixed kR rfl rfl
theorem ig2:Pu 27 [.agg [.int .i64 13,.str Ai,.int .i64 0,.sl 4 [[.int .i64 3,.str ⟨#[120]⟩,.int .i64 0,.A2],[.int .i64 3,.str ⟨#[118]⟩,.int .i64 0,.A2]]]] (.ret (.agg [.int .i64 1,.str Ai,.A2,.A2,.int .i64 13,.str Ai,.int .i64 0,.sl 4 [[.int .i64 3,.str ⟨#[120]⟩,.int .i64 0,.A2],[.int .i64 3,.str ⟨#[118]⟩,.int .i64 0,.A2]],.A2])):=Ob.GM nX 60 60 mixed kR rfl rfl
theorem ig3:Pu 27 [.agg [.int .i64 3,.str ⟨#[118]⟩,.int .i64 0,.A2]] (.ret (.agg [.int .i64 1,.str Ai,.A2,.A2,.int .i64 3,.str ⟨#[118]⟩,.int .i64 0,.A2,.A2])):=Ob.GM nX 60 60 mixed kR rfl rfl
theorem aw1:Pu 14 [.agg [.A2,.A2,.A2],.agg [.A2,.A2,.A2,.A2,.A2,.A2],.agg [.int .i64 6,.str Ai,.sl 9 [[.int .i64 1,.str Ai,.A2,.A2,.int .i64 0,.str Ai,.int .i64 0,.A2,.A2],[.int .i64 1,.str Ai,.A2,.A2,.int .i64 13,.str Ai,.int .i64 0,.sl 4 [[.int .i64 3,.str ⟨#[120]⟩,.int .i64 0,.A2],[.int .i64 3,.str ⟨#[118]⟩,.int .i64 0,.A2]],.A2],[.int .i64 2,.str Ai,.A2,.A2,.int .i64 0,.str Ai,.int .i64 0,.A2,.A2]],.sl 1 [[.str ⟨#[120]⟩],[.str ⟨#[121]⟩]],.int .i64 0,.str Ai,.int .i64 0,.A2,.A2]] (.ret (.int .i64 0)):=Ob.F5 knA OZ nX 60 60 mixed kR rfl rfl
theorem aw2:Pu 20 [.agg [.A2,.A2,.A2,.A2,.sl 6 [[.str ⟨#[117,112,116,111]⟩,.sl 2 [[.str ⟨#[120]⟩,.str ⟨#[73,110,116]⟩]],.int .i64 13,.str Ai,.int .i64 0,.sl 4 [[.int .i64 1,.str Ai,.int .i64 0,.A2],[.int .i64 3,.str ⟨#[120]⟩,.int .i64 0,.A2]]]],.A2]] (.ret (.Bf [.str ⟨#[117,112,116,111]⟩,.int .i64 6])):=Ob.F5 knA OZ nX 60 60 mixed kR rfl rfl
theorem aw3:Pu 16 [.agg [.A2,.A2,.A2,.A2,.A2,.A2],.agg [.A2,.A2,.A2,.A2,.int .i64 6,.str Ai,.sl 9 [[.int .i64 1,.str Ai,.A2,.A2,.int .i64 0,.str Ai,.int .i64 0,.A2,.A2],[.int .i64 1,.str Ai,.A2,.A2,.int .i64 13,.str Ai,.int .i64 0,.sl 4 [[.int .i64 3,.str ⟨#[120]⟩,.int .i64 0,.A2],[.int .i64 3,.str ⟨#[118]⟩,.int .i64 0,.A2]],.A2],[.int .i64 2,.str Ai,.A2,.A2,.int .i64 0,.str Ai,.int .i64 0,.A2,.A2]],.sl 1 [[.str ⟨#[120]⟩],[.str ⟨#[121]⟩]],.int .i64 0,.str Ai,.int .i64 0,.A2,.A2,.sl 4 [[.int .i64 3,.str ⟨#[120]⟩,.int .i64 0,.A2]]]] (.ret (.int .i64 0)):=Ob.F5 knA OZ nX 60 60 mixed kR rfl rfl
theorem aw4:Pu 14 [.agg [.A2,.A2,.A2],.agg [.A2,.A2,.A2,.A2,.A2,.A2],.agg [.int .i64 1,.str Ai,.A2,.A2,.int .i64 3,.str ⟨#[118]⟩,.int .i64 0,.A2,.A2]] (.ret (.int .i64 11)):=Ob.F5 knA OZ nX 60 60 mixed kR rfl rfl
theorem aw5:Pu 12 [.agg [.A2,.A2,.A2,.sl 8 [[.str ⟨#[108,101,110]⟩,.str ⟨#[73,110,116,76,105,115,116]⟩,.str ⟨#[73,110,116]⟩,.A2,.int .i64 0,.str Ai,.int .i64 0,.A2]],.A2,.A2]] (.own 77 3 [[.str ⟨#[108,101,110]⟩,.sl 1 [[.str ⟨#[73,110,116,76,105,115,116]⟩]],.str ⟨#[73,110,116]⟩]]):=Ob.F5 knA OZ nX 60 60 mixed kR rfl rfl
theorem awL  : Pu 10 [] (rB true):=
 pm A9 [cl (@vb (bM 120)),cl (@vb (bM 118)),cl ig1,cl ig2,cl (@vb (bM 120)),cl aw2,cl aw5,cl aw1,rp 3 (bt true),cl (@vb (bM 118)),bt true,cl ig3,bt true,cl aw4,rp 10 (bt true),kp,rp 4 (bt true),kp,rp 7 (bt true),ab true,cl (@vb (bM 120)),rp 3 (bt true),cl aw3,rp 2 (bt true)] func10
theorem Aey(m:Mo):(PZ m).length<=(B3 m).length+(AW m).length:=by
 unfold PZ
 have:=List.length_filter_le Me (AW m)
 simp only [List.length_append,List.length_map]; omega
theorem Wh(s:Df):Ah (Vr.cs (A8 s))+Ah (Bo.cs (Ak s))+A3 (AO (Ad s))+Ah (Pr.cs (AJ s))<=A3 (FM s):=by
 simp only [FM,AO,A3,CR]; omega
theorem Ai3(b:Bo):Ah (Vr.cs (B6 b))<A3 (KH b):=by simp only [A3,CR]; omega
theorem jJ(m:Mo)(s:Df)(w:List Vr)(hs:A3 (BD m)+A3 (FM s)<=1048576)(hw:w.length<=1048576):Ba (.mk w (BQ m (A8 s)) []):=by
 have h1:=Gi m
 have h2:=Ms.BS (B3 m)
 have h3:=Df.BS (AW m)
 have h4:=Wh s
 have h5:=Vr.BS (A8 s)
 have h6:=Aey m
 refine ⟨Nat.le_trans hw dD,?_,by simp [Bd],?_,fun w hw=>by cases hw⟩
 ·show (BQ m (A8 s)).length<=1000000000
  unfold BQ
  simp only [List.length_append,List.length_map]; omega
 ·intro y hy
  rcases List.mem_append.1 (show y∈PZ m++(A8 s).map vE from hy) with hy | hy
  ·exact (UD m oM).1 y hy
  ·obtain ⟨x,_,rfl⟩:=List.mem_map.1 hy
   simp [vE,DW]
theorem Xo(m:Mo)(s:Df)(hs:A3 (BD m)+A3 (FM s)<=1048576):Pu 4 [.agg (BD m),.agg (FM s)] (.ret (.bool true)):=by
 have h1:=Gi m
 have h2:=Wh s
 have BC:(AL m).length<=1048576:=by have:=Da.BS (AL m); omega
 have Ti:(AW m).length<=1048576:=by have:=Df.BS (AW m); omega
 have EP:=jJ m s [] hs sM
 have hE:∀b∈Ak s,Ba (.mk (B6 b) (BQ m (A8 s)) []):=fun b hb=>jJ m s (B6 b) hs (by have:=Bo.mem hb; have:=Ai3 b; have:=Vr.BS (B6 b); omega)
 have DR:∀b∈Ak s,A3 (AN (Cv b))<=100000000/\A3 (AN (EU b))<=100000000:=fun b hb=>by
  have:=Bo.mem hb; have:=VD b
  exact ⟨by omega,by omega⟩
 have ET:∀w∈AJ s,A3 (AN w)<=100000000:=fun w hw=>by have:=Pr.mem hw; omega
 have Fz:(AJ s).length<=1000000000:=by have:=Pr.BS (AJ s); omega
 have hg:=sgT m s oM BC EP DR oM oM ET Fz
 have hr:=Ai1 m s oM BC hE EP DR oM oM ET Fz
 obtain ⟨b,hb⟩:=smW m s hs
 by_cases h0:((AW m).length:Int)>70
 ·exact Aev m s Ti b _ hb hg hr awL h0
 ·cases h:b with
  | false=>exact Aew m s Ti b _ hb hg hr awL h0 h
  | true=>exact Aex m s Ti b _ hb hg hr awL h0 h
theorem Aez{n:Nat}{cs:List PV}(h:Ty prog n 57 cs):∃x:Df,cs=FM x:=by
 obtain ⟨m2,hm2,h6⟩:=BO Tryz.underlying57 h
 obtain ⟨d1,q1,rfl,k1,d2,q2,rfl,k2,d3,q3,rfl,k3,d4,q4,rfl,k4,d5,q5,rfl,k5,d6,q6,rfl,k6,rfl⟩:=h6
 obtain ⟨vVs,rfl⟩:=J8 k1
 obtain ⟨vNe,rfl⟩:=BJ (z:=2) Vr.AD Tryz.underlying53 kR k2 fun m' x Fk hx=>M4 hx
 obtain ⟨vAb,rfl⟩:=BJ (z:=2) Vr.AD Tryz.underlying54 kR k3 fun m' x Fk hx=>SP hx
 obtain ⟨vBo,rfl⟩:=BJ (z:=10) Bo.AD Tryz.underlying55 kR k4 fun m' x Fk hx=>pZ hx
 obtain ⟨vT,rfl⟩:=Ow _ _ k5
 obtain ⟨vMe,rfl⟩:=BJ (z:=4) Pr.AD Tryz.underlying39 kR k6 fun m' x Fk hx=>L3 _ _ hx
 exact ⟨.mk Ai [] (.mk 0 Ai 0 [] [] [] []) 0 false vVs vNe vAb vBo vT vMe,by simp only [CS,CT,A8,Ak,Ad,AJ,FM,AB,An,Ab,Ag,AT,Aq,AO,Af,Aj,Bq,Av,AN,List.cons_append,List.nil_append,List.append_nil]⟩
end Go.Proofs.YthchpmnkecoafaaGreatDoor
