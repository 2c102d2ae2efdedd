/- Values of Go as plain data, an evaluator over them, and what the functions of the program return; part Yj. -/
import Derived.Test.YthchpmnkecoafaaGreatDoorYi
import Derived.Test.YthchpmnkecoafaaGreatDoorYg
import Derived.Test.YthchpmnkecoafaaGreatDoorYa
set_option linter.unusedSectionVars false
set_option linter.unusedSimpArgs false
set_option linter.unusedVariables false
namespace Go.Proofs.YthchpmnkecoafaaGreatDoor
open Go.Proofs.Tryz
open Go.Pv Go.Proofs.Tryz
set_option maxRecDepth 100000
abbrev St(v:Nv):Ext:=[(0,[.v (.fn (.func 175) [] [.xp 0 0,.ro (Bd v) 0])])]
theorem gPr{l:List Pr}{i:Nat}(h:i<l.length):l.getD i default∈l:=BF h
abbrev Va(v:Nv)(p:Pr)(sf:Pr->BA)(BD:Pr->Int)(j:Int)(out:List BA)  : S:=S.mk [(1,.v (.xp 0 0)),(2,.v (.ro (Bd v) 0)),(3,.lp 3 0),(6,.uniq 74 1 (A7 out)),(12,vL 4 (Pr.cs (As p))),(13,A1 ((As p).length:Int)),(14,A1 j)] [(3,BK p)] [(0,[.v (.fn (.func 175) [] [.xp 0 0,.ro (Bd v) 0])])]
inductive G5 where
 | e0 (el:Pr) (out:List BA)
 | e1 (out:List BA)
def DB(sf:Pr->BA)(BD:Pr->Int):List Pr->(List BA)->G5
 | [],out=>(G5.e1 out)
 | el::r,out=>(if BD el=0 then DB sf BD r (out++[sf el]) else (G5.e0 el out))
def NJ(v:Nv)(p:Pr)(sf:Pr->BA)(BD:Pr->Int)  : G5->A5 × S
 | .e0 el out=>(.ret,S.mk [(1,.v (.xp 0 0)),(2,.v (.ro (Bd v) 0)),(3,.lp 3 0),(6,.uniq 74 1 (A7 out)),(12,vL 4 (Pr.cs (As p))),(13,A1 ((As p).length:Int)),(4,vS Ah),(5,A1 (BD el))] [(3,BK p)] [(0,[.v (.fn (.func 175) [] [.xp 0 0,.ro (Bd v) 0])])])
 | .e1 out=>(.exit 0,S.mk [(1,.v (.xp 0 0)),(2,.v (.ro (Bd v) 0)),(3,.lp 3 0),(6,.uniq 74 1 (A7 out)),(12,vL 4 (Pr.cs (As p))),(13,A1 ((As p).length:Int))] [(3,BK p)] [(0,[.v (.fn (.func 175) [] [.xp 0 0,.ro (Bd v) 0])])])
theorem c8(v:Nv)(p:Pr)(sf:Pr->BA)(BD:Pr->Int)(Bg:∀w:Pr,w∈As p->Ef 175 [.agg (AO w),.xp 0 0,.ro (Bd v) 0] (St v) (.ret (.AE [.str (sf w),.int .i64 (BD w)])) (St v))(hN:(As p).length<=1000000000)(out:List BA)(hv:(out.length<=0)):(Ob.loop 38 (Ai f175 0) (Va v p sf BD 0 out) (NJ v p sf BD  (DB sf BD (List.drop 0 ((As p)))  out)).1 (NJ v p sf BD  (DB sf BD (List.drop 0 ((As p)))  out)).2).ok prog:=by
 refine Ds ((As p).length) (fun j out=>Va v p sf BD j out) (fun i out=>DB sf BD (List.drop i ((As p)))  out) (NJ v p sf BD) (fun i out=>(out.length<=i)) kR ?_ out (by first | exact hv | omega)
 rintro i out hi hv
 try simp only at hv
 rcases Nat.lt_or_ge i ((As p).length) with Ag | CO
 ·have hd:=AH Ag
  by_cases h0:BD (List.getD (As p) i default)=0
  ·exact lS Ad [dt ((i:Int)<((As p).length:Int)),am ((0:Int)<=(i:Int)/\(i:Int)<((Pr.cs (As p)).length:Int)) (by (simp only [Pr.A0]; omega)),ar (List.getD (Pr.cs (As p)) (Int.toNat (i:Int)) []) (AO (List.getD (As p) i default)) (by simp only [Int.toNat_natCast,Int.toNat_zero]; rw [@Pr.B5 (As p) (i) Ag]; try rfl),ce (@Bg (List.getD (As p) i default) (by simp_all)),Bi h0,am (List.length (A7 out++(fun x=>Prod.snd x) (0+1,[[.str (sf (List.getD (As p) i default))]])) * (15+1)<=140737488355328) (by (simp only [List.length_append,List.length_cons,List.length_nil,A3]; omega)),wr ((i:Int)+1)] [1,2,3,6,12,13,14,4,5] [3] Ag (out++[sf (List.getD (As p) i default)]) (S.mk [(1,.v (.xp 0 0)),(2,.v (.ro (Bd v) 0)),(3,.lp 3 0),(6,.uniq 74 1 (A7 out++[[PV.str (sf (List.getD (As p) i default))]])),(12,vL 4 (Pr.cs (As p))),(13,A1 ((As p).length:Int)),(14,A1 ((i:Int)+1))] [(3,BK p)] [(0,[.v (.fn (.func 175) [] [.xp 0 0,.ro (Bd v) 0])])]) ⟨⟨W,W,W,(.inl (by first | (simp only [List.nil_append,AX,AM,Pr.A2,Tp.A2,Ex.A2,Vr.A2,Df.A2,Sy.A2,Ho.A2]; done) | (simp only [List.nil_append,AX,AM,Pr.A2,Tp.A2,Ex.A2,Vr.A2,Df.A2,Sy.A2,Ho.A2]; rfl))),W,W,W,An⟩,⟨Ws,An⟩,rfl⟩ (by first | assumption | omega | (apply gPr <;> first | assumption | omega | decide) | (simp only [List.length_append,List.length_cons,List.length_nil] at *; omega) | simp_all) (by rw [hd,DB,iP h0])
  ·exact lX Ad [dt ((i:Int)<((As p).length:Int)),am ((0:Int)<=(i:Int)/\(i:Int)<((Pr.cs (As p)).length:Int)) (by (simp only [Pr.A0]; omega)),ar (List.getD (Pr.cs (As p)) (Int.toNat (i:Int)) []) (AO (List.getD (As p) i default)) (by simp only [Int.toNat_natCast,Int.toNat_zero]; rw [@Pr.B5 (As p) (i) Ag]; try rfl),ce (@Bg (List.getD (As p) i default) (by simp_all)),Bv h0] (G5.e0 (List.getD ((As p)) i default) out) (by rw [hd,DB,iN h0])
 ·have he:i=(As p).length:=by omega
  exact lX Ad [df ((i:Int)<((As p).length:Int))] (G5.e1 out) (by rw [he,List.drop_length,DB])
theorem A6f(v:Nv)(p:Pr)(sf:Pr->BA)(BD:Pr->Int)(Bg:∀w:Pr,w∈As p->Ef 175 [.agg (AO w),.xp 0 0,.ro (Bd v) 0] (St v) (.ret (.AE [.str (sf w),.int .i64 (BD w)])) (St v))(out:List BA)(hN:(As p).length<=1000000000)(hv:List.length out<=0)(p0:Pr)(p1:List BA)(At:(DB sf BD ((As p))  out)=(G5.e0 p0 p1)):(Ob.loop 38 (Ai f175 0) (Va v p sf BD 0 out) (NJ v p sf BD  (G5.e0 p0 p1)).1 (NJ v p sf BD  (G5.e0 p0 p1)).2).ok prog:=
 rz (c8 v p sf BD Bg hN out hv) At
theorem A6g(v:Nv)(p:Pr)(sf:Pr->BA)(BD:Pr->Int)(Bg:∀w:Pr,w∈As p->Ef 175 [.agg (AO w),.xp 0 0,.ro (Bd v) 0] (St v) (.ret (.AE [.str (sf w),.int .i64 (BD w)])) (St v))(out:List BA)(hN:(As p).length<=1000000000)(hv:List.length out<=0)(p0:List BA)(At:(DB sf BD ((As p))  out)=(G5.e1 p0)):(Ob.loop 38 (Ai f175 0) (Va v p sf BD 0 out) (NJ v p sf BD  (G5.e1 p0)).1 (NJ v p sf BD  (G5.e1 p0)).2).ok prog:=
 rz (c8 v p sf BD Bg hN out hv) At
theorem QC(sf:Pr->BA)(BD:Pr->Int):∀ (l:List Pr) (out o:List BA),DB sf BD l out = .e1 o->o.length=out.length+l.length
 | [],out,o,h=>by simp only [DB,G5.e1.injEq] at h; subst h; simp
 | x::r,out,o,h=>by
  by_cases hc:BD x=0
  ·simp only [DB,hc,if_true] at h
   have:=QC sf BD r _ o h
   simp at this ⊢; omega
  ·simp only [DB,hc,if_false] at h; cases h
inductive NK:Pr->Prop
 | mk (p:Pr) (h:Ab p=10∨Ab p=11->2<=(As p).length) (hk:∀w∈As p,NK w):NK p
theorem nR{p:Pr}{sf:Pr->BA}{BD:Pr->Int}{o:List BA}(ha:NK p)(hr:DB sf BD (As p) [] = .e1 o):Ab p=10∨Ab p=11->2<=o.length:=fun h=>by
 cases ha with
 | mk _ h1 _=>have:=QC sf BD _ _ _ hr; have:=h1 h; simp at *; omega
theorem of_le{p:Pr}{sf:Pr->BA}{BD:Pr->Int}{o:List BA}(Cd:(As p).length<=1000000000)(hr:DB sf BD (As p) [] = .e1 o):o.length<=1000000000:=by
 have:=QC sf BD _ _ _ hr; simp at this; omega
section
variable (v:Nv) (p:Pr) (sf:Pr->BA) (BD:Pr->Int) (Bg:∀w:Pr,w∈As p->Ef 175 [.agg (AO w),.xp 0 0,.ro (Bd v) 0] (St v) (.ret (.AE [.str (sf w),.int .i64 (BD w)])) (St v)) (Cd:(As p).length<=1000000000) (hW:BQ v) (hAr:NK p)
include v p sf BD Bg Cd hW hAr
theorem A6h(Dc:Pr)(Ii:List BA)(Ao:DB sf BD (As p) []=G5.e0 Dc Ii):Ef 175 [.agg (AO p),.xp 0 0,.ro (Bd v) 0] (St v) (.ret (.AE [.str Ah,pI (BD Dc)])) ([(0,[.v (.fn (.func 175) [] [.xp 0 0,.ro (Bd v) 0])])]):=
 ef Ad [sl (Pr.A0 (As p)),lp (S.mk [(0,.v (.agg (AO p))),(1,.v (.xp 0 0)),(2,.v (.ro (Bd v) 0)),(3,.lp 3 0),(4,vS Ah),(5,A1 0),(6,.v .A4),(11,.lp 3 3),(12,vL 4 (Pr.cs (As p))),(13,A1 ((As p).length:Int)),(14,A1 0)] [(3,BK p)] [(0,[.v (.fn (.func 175) [] [.xp 0 0,.ro (Bd v) 0])])]) (@A6f (v) (p) (sf) (BD) Bg ([]) Cd (by (simp only [List.length_nil]; omega)) Dc Ii Ao) ⟨⟨W,W,W,Wq,W,W,W,An⟩,⟨⟨W,W,W,W,An⟩,An⟩,rfl⟩] func175
theorem A6i(Dc:List BA)(Ae:DB sf BD (As p) []=G5.e1 Dc):Ef 175 [.agg (AO p),.xp 0 0,.ro (Bd v) 0] (St v) (.ret (.AE [.str (Cf v p Dc),pI (Cg v p Dc)])) ([(0,[.v (.fn (.func 175) [] [.xp 0 0,.ro (Bd v) 0])])]):=
 ef Ad [sl (Pr.A0 (As p)),lp (S.mk [(0,.v (.agg (AO p))),(1,.v (.xp 0 0)),(2,.v (.ro (Bd v) 0)),(3,.lp 3 0),(4,vS Ah),(5,A1 0),(6,.v .A4),(11,.lp 3 3),(12,vL 4 (Pr.cs (As p))),(13,A1 ((As p).length:Int)),(14,A1 0)] [(3,BK p)] [(0,[.v (.fn (.func 175) [] [.xp 0 0,.ro (Bd v) 0])])]) (@A6g (v) (p) (sf) (BD) Bg ([]) Cd (by (simp only [List.length_nil]; omega)) Dc Ae) ⟨⟨W,W,W,Wq,W,W,W,An⟩,⟨⟨W,W,W,W,An⟩,An⟩,rfl⟩,cl (@sn (v) (p) (Dc) hW (by (apply of_le <;> first | assumption | omega | decide)) (by (apply nR <;> first | assumption | omega | decide)))] func175
end
def Ok:Nat->Nv->Pr->BA × Int
 | 0,_,_=>(Ah,0)
 | d+1,v,p=>match DB (fun w=>(Ok d v w).1) (fun w=>(Ok d v w).2) (As p) [] with
  | .e0 w _=>(Ah,(Ok d v w).2)
  | .e1 out=>(Cf v p out,Cg v p out)
theorem NL(x:Pr):Am (Pr.cs (As x))<A6 (AO x):=by simp only [A6,CK]; omega
theorem nS(v:Nv)(hW:BQ v):∀ (d:Nat) (p:Pr),A6 (AO p)<d->d<=1000000001->NK p->Ef 175 [.agg (AO p),.xp 0 0,.ro (Bd v) 0] (St v) (.ret (.AE [.str (Ok d v p).1,.int .i64 (Ok d v p).2])) (St v)
 | 0,_,h,_,_=>by omega
 | d+1,p,h,hd,ha=>by
  have h1:=NL p
  have h2:=Pr.BT (As p)
  have hk:∀w:Pr,w∈As p->Ef 175 [.agg (AO w),.xp 0 0,.ro (Bd v) 0] (St v) (.ret (.AE [.str (Ok d v w).1,.int .i64 (Ok d v w).2])) (St v):=fun w hw=>nS v hW d w (by have:=Pr.mem hw; omega) oM (by cases ha with | mk _ _ hk=>exact hk w hw)
  rw [Ok]
  cases hr:DB (fun w=>(Ok d v w).1) (fun w=>(Ok d v w).2) (As p) [] with
  | e0 w o=>exact A6h v p _ _ hk oM hW ha w o hr
  | e1 o=>exact A6i v p _ _ hk oM hW ha o hr
def jF(v:Nv)(p:Pr):BA × Int:=Ok (A6 (AO p)+1) v p
theorem ofC(v:Nv)(p:Pr)(hW:BQ v)(ha:NK p)(hs:A6 (AO p)<=1000000000):Ef 175 [.agg (AO p),.xp 0 0,.ro (Bd v) 0] (St v) (.ret (.AE [.str (jF v p).1,.int .i64 (jF v p).2])) (St v):=nS v hW _ p oM oM ha
theorem KO{α:Type}{f:α->Int}:∀ {l:List α},BX f l=0->∀x∈l,f x=0
 | [],_,_,h=>by cases h
 | c::r,h,x,hx=>by
  by_cases hc:f c=0
  ·simp only [BX,hc,if_true] at h
   rcases List.mem_cons.1 hx with rfl | hx
   ·exact hc
   ·exact KO h x hx
  ·simp only [BX,hc,if_false] at h
theorem y4{u:Pr}(h:Bm u=0)(ho:Ab u=10∨Ab u=11):2<=(As u).length:=by
 rcases Nat.lt_or_ge (As u).length 2 with hl | hl
 ·exfalso
  have hb:((As u).length:Int)<2:=by omega
  have h4:AT u (A9 (Ab u)) (Aa (Ab u))=true:=by
   rcases ho with ho | ho <;> simp [AT,Cc,A9,Aa,ho,hb]
  unfold Bm at h
  by_cases h1:C9 u=true
  ·simp [h1] at h
  ·simp [h1,h4] at h
 ·exact hl
mutual
theorem WG:∀ (p:Pr) (w:Pr),w∈As p->∀x∈C8 w,x∈C8 p
 | .mk o s n ks,w,hw,x,hx=>by
  rw [C8]
  exact List.mem_cons_of_mem _ (NM ks w hw x hx)
theorem NM:∀ (l:List Pr) (w:Pr),w∈l->∀x∈C8 w,x∈BH l
 | [],w,hw,x,hx=>by cases hw
 | c::r,w,hw,x,hx=>by
  rw [BH,List.mem_append]
  rcases List.mem_cons.1 hw with rfl | hw
  ·exact .inl hx
  ·exact .inr (NM r w hw x hx)
end
theorem A6j(d:Nat):∀ (p:Pr),A6 (AO p)<d->(∀x∈C8 p,Bm x=0)->NK p:=by
 induction d with
 | zero=>intro p h; omega
 | succ d ih=>
  intro p h hn
  refine .mk p (fun ho=>y4 (hn p (by rw [Fl]; simp)) ho) fun w hw=>ih w (by have:=NL p; have:=Pr.mem hw; omega) fun x hx=>hn x (WG p w hw x hx)
theorem nT{p:Pr}(h:Ge p=0):NK p:=by
 unfold Ge at h
 split at h
 ·cases h
 ·split at h
  ·cases h
  ·exact A6j _ p (Nat.lt_succ_self _) (KO h)
def mdO:Md:=⟨fun t=>if t=215 then none else some false,fun _=>false⟩
theorem Abh(v:Nv)(p:Pr)(hW:BQ v)(hs:A6 (AO p)<=100000000)(kG:Ge p=0):Ef 175 [.agg (AO p),.xp 0 0,.ro (Bd v) 0] [(0,[.v (.fn (.func 175) [] [.xp 0 0,.ro (Bd v) 0])])] (.ret (.AE [.str (jF v p).1,.int .i64 (jF v p).2])) [(0,[.v (.fn (.func 175) [] [.xp 0 0,.ro (Bd v) 0])])]:=ofC v p hW (nT kG) oM
section
variable (v:Nv) (p:Pr) (hW:BQ v) (hs:A6 (AO p)<=100000000)
include v p hW hs
theorem A6k(Ac:¬Ge p=0):Ef 125 [.agg (Bd v),.agg (AO p)] ([]) (.ret (.AE [.str Ah,pI (Ge p)])) ([]):=
 ef mdO [cl (@pcT (p) hs),Bv Ac] func125
theorem A6l(Ac:Ge p=0):Ef 125 [.agg (Bd v),.agg (AO p)] ([]) (.ret (.AE [.str (Prod.fst (jF v p)),pI (Prod.snd (jF v p))])) ([(0,[.v (.fn (.func 175) [] [.xp 0 0,.ro (Bd v) 0])])]):=
 ef mdO [cl (@pcT (p) hs),Bi Ac,ce (@Abh (v) (p) hW hs Ac)] func125
end
def KP(v:Nv)(p:Pr):BA × Int:=if Ge p=0 then jF v p else (Ah,Ge p)
theorem soT(v:Nv)(p:Pr)(hW:BQ v)(hs:A6 (AO p)<=100000000):Pu 125 [.agg (Bd v),.agg (AO p)] (.ret (.AE [.str (KP v p).1,.int .i64 (KP v p).2])):=by
 have hx:Ec [.agg (Bd v),.agg (AO p)]=true:=by have h1:=bE v; have h2:=aD p; simp only [Ec,PV.HT,Bool.and_true,Bool.true_and] at h1 h2 ⊢; simp_all
 unfold KP
 by_cases h:Ge p=0
 ·rw [iP h]; exact Ob.De hx rfl (A6l v p hW hs h)
 ·rw [iN h]; exact Ob.De hx rfl (A6k v p hW hs h)
def Bp(v:Nv)(p:Pr):Int:=(if BY p=true then 0 else (if (Prod.snd (KP v p)==0 && !ByteArray.toList (Prod.fst (KP v p))==ByteArray.toList (ByteArray.mk #[66,111,111,108]))=true then 11 else (Prod.snd (KP v p))))
theorem sb(v:Nv)(p:Pr)(hW:BQ v)(hs:A6 (AO p)<=100000000):Pu 74 [.agg (Bd v),.agg (AO p)] (rI (Bp v p)):=by
 by_cases h0:BY p=true
 ·simp only [Bp,iP h0]; exact pm Ad [cl (@psz (p)),B2 h0] func74
 ·by_cases h1:(Prod.snd (KP v p)==0 && !ByteArray.toList (Prod.fst (KP v p))==ByteArray.toList (ByteArray.mk #[66,111,111,108]))=true
  ·simp only [Bp,iN h0,iP h1]; exact pm Ad [cl (@psz (p)),AQ (DQ h0),cl (@soT (v) (p) hW hs),mg,av (.v (.bool (bif Prod.snd (KP v p)==0 then !ByteArray.toList (Prod.fst (KP v p))==ByteArray.toList (ByteArray.mk #[66,111,111,108]) else false))) (.v (.bool (Prod.snd (KP v p)==0 && !ByteArray.toList (Prod.fst (KP v p))==ByteArray.toList (ByteArray.mk #[66,111,111,108])))) (by (simp only [Bool.cond_false_right]; done)),B2 h1] func74
  ·simp only [Bp,iN h0,iN h1]; exact pm Ad [cl (@psz (p)),AQ (DQ h0),cl (@soT (v) (p) hW hs),mg,av (.v (.bool (bif Prod.snd (KP v p)==0 then !ByteArray.toList (Prod.fst (KP v p))==ByteArray.toList (ByteArray.mk #[66,111,111,108]) else false))) (.v (.bool (Prod.snd (KP v p)==0 && !ByteArray.toList (Prod.fst (KP v p))==ByteArray.toList (ByteArray.mk #[66,111,111,108])))) (by (simp only [Bool.cond_false_right]; done)),AQ (DQ h1)] func74
abbrev Vb(l:List Tp)(m:Mo)(v:Nv)(ff:Tp->Int)(j:Int)(e:Ext):S:=S.mk [(1,.v (.fn (.func 34) [.agg (.sl 4 (Da.cs (Av m)) :: .sl 3 (Cl.cs (BW m)) :: .sl 12 (In.cs (CJ m)) :: .sl 8 (Ms.cs (Ba m)) :: .sl 6 (Qu.cs (Dh m)) :: .sl 25 (Df.cs (AY m))::Bd v)] [])),(4,A1 0),(8,vL 9 (Tp.cs l)),(9,A1 (l.length:Int)),(10,A1 j)] [] e
inductive HM where
 | e0 (el:Tp)
 | e1
def GJ(ff:Tp->Int):List Tp->HM
 | []=>(HM.e1)
 | el::r=>(if ff el=0 then GJ ff r  else (HM.e0 el))
def NN(l:List Tp)(m:Mo)(v:Nv)(ff:Tp->Int)(e:Ext):HM->A5 × S
 | .e0 el=>(.ret,S.mk [(1,.v (.fn (.func 34) [.agg (.sl 4 (Da.cs (Av m)) :: .sl 3 (Cl.cs (BW m)) :: .sl 12 (In.cs (CJ m)) :: .sl 8 (Ms.cs (Ba m)) :: .sl 6 (Qu.cs (Dh m)) :: .sl 25 (Df.cs (AY m))::Bd v)] [])),(4,A1 (ff el)),(8,vL 9 (Tp.cs l)),(9,A1 (l.length:Int))] [] e)
 | .e1=>(.exit 0,S.mk [(1,.v (.fn (.func 34) [.agg (.sl 4 (Da.cs (Av m)) :: .sl 3 (Cl.cs (BW m)) :: .sl 12 (In.cs (CJ m)) :: .sl 8 (Ms.cs (Ba m)) :: .sl 6 (Qu.cs (Dh m)) :: .sl 25 (Df.cs (AY m))::Bd v)] [])),(4,A1 0),(8,vL 9 (Tp.cs l)),(9,A1 (l.length:Int))] [] e)
theorem c9(l:List Tp)(m:Mo)(v:Nv)(ff:Tp->Int)(Bg:∀w:Tp,w∈l->Pu 34 [.agg (IC m v),.agg (Ay w)] (.ret (.int .i64 (ff w))))(e:Ext)(hN:l.length<=1000000000):(Ob.loop 21 (Ai f73 0) (Vb l m v ff 0  e) (NN l m v ff e (GJ ff (List.drop 0 (l)))).1 (NN l m v ff e (GJ ff (List.drop 0 (l)))).2).ok prog:=by
 refine Ds l.length (fun j _=>Vb l m v ff j  e) (fun i _=>GJ ff (List.drop i (l))) (NN l m v ff e) (fun i _=>True) kR ?_ () trivial
 rintro i u hi -
 rcases Nat.lt_or_ge i (l.length) with Ag | CO
 ·have hd:=AH Ag
  by_cases h0:ff (List.getD l i default)=0
  ·exact lN Ad [dt ((i:Int)<(l.length:Int)),am ((0:Int)<=(i:Int)/\(i:Int)<((Tp.cs l).length:Int)) (by (simp only [Tp.A0]; omega)),ar (List.getD (Tp.cs l) (Int.toNat (i:Int)) []) (Ay (List.getD l i default)) (by simp only [Int.toNat_natCast,Int.toNat_zero]; rw [@Tp.B5 (l) (i) Ag]; try rfl),cl (@Bg (List.getD l i default) (by simp_all)),Bi h0,wr ((i:Int)+1)] Ag () trivial (by rw [hd,GJ,iP h0])
  ·exact lX Ad [dt ((i:Int)<(l.length:Int)),am ((0:Int)<=(i:Int)/\(i:Int)<((Tp.cs l).length:Int)) (by (simp only [Tp.A0]; omega)),ar (List.getD (Tp.cs l) (Int.toNat (i:Int)) []) (Ay (List.getD l i default)) (by simp only [Int.toNat_natCast,Int.toNat_zero]; rw [@Tp.B5 (l) (i) Ag]; try rfl),cl (@Bg (List.getD l i default) (by simp_all)),Bv h0] (HM.e0 (List.getD (l) i default)) (by rw [hd,GJ,iN h0])
 ·have he:i=l.length:=by omega
  exact lX Ad [df ((i:Int)<(l.length:Int))] (HM.e1) (by rw [he,List.drop_length,GJ])
theorem A6m(l:List Tp)(m:Mo)(v:Nv)(ff:Tp->Int)(Bg:∀w:Tp,w∈l->Pu 34 [.agg (IC m v),.agg (Ay w)] (.ret (.int .i64 (ff w))))(e:Ext)(hN:l.length<=1000000000)(p0:Tp)(At:(GJ ff (l))=(HM.e0 p0)):(Ob.loop 21 (Ai f73 0) (Vb l m v ff 0  e) (NN l m v ff e (HM.e0 p0)).1 (NN l m v ff e (HM.e0 p0)).2).ok prog:=
 rz (c9 l m v ff Bg e hN) At
theorem A6n(l:List Tp)(m:Mo)(v:Nv)(ff:Tp->Int)(Bg:∀w:Tp,w∈l->Pu 34 [.agg (IC m v),.agg (Ay w)] (.ret (.int .i64 (ff w))))(e:Ext)(hN:l.length<=1000000000)(At:(GJ ff (l))=(HM.e1)):(Ob.loop 21 (Ai f73 0) (Vb l m v ff 0  e) (NN l m v ff e (HM.e1)).1 (NN l m v ff e (HM.e1)).2).ok prog:=
 rz (c9 l m v ff Bg e hN) At
theorem cA(ff:Tp->Int):∀l:List Tp,(BX ff l=0->GJ ff l = .e1)/\(¬BX ff l=0->∃w,GJ ff l = .e0 w/\ff w=BX ff l)
 | []=>⟨fun _=>rfl,fun h=>absurd rfl h⟩
 | c::r=>by
  have ih:=cA ff r
  by_cases hp:ff c=0
  ·simp only [BX,GJ,hp,if_true]; exact ih
  ·simp only [BX,GJ,hp,if_false]
   exact ⟨fun h=>h.elim,fun _=>⟨c,rfl,rfl⟩⟩
theorem A6o(l:List Tp)(m:Mo)(v:Nv)(ff:Tp->Int)(Bg:∀w:Tp,w∈l->Pu 34 [.agg (IC m v),.agg (Ay w)] (.ret (.int .i64 (ff w))))(jG:l.length<=1000000000)(Ac:GJ ff l=HM.e1):Pu 73 [.sl 9 (Tp.cs l),.fn (.func 34) [.agg (IC m v)] []] (rI 0):=
 pu Ad (fun e=>[sl (Tp.A0 l),lp (S.mk [(0,vL 9 (Tp.cs l)),(1,.v (.fn (.func 34) [.agg (.sl 4 (Da.cs (Av m)) :: .sl 3 (Cl.cs (BW m)) :: .sl 12 (In.cs (CJ m)) :: .sl 8 (Ms.cs (Ba m)) :: .sl 6 (Qu.cs (Dh m)) :: .sl 25 (Df.cs (AY m))::Bd v)] [])),(4,A1 0),(8,vL 9 (Tp.cs l)),(9,A1 (l.length:Int)),(10,A1 0)] [] e) (@A6n (l) (m) (v) (ff) Bg (e) jG Ac) xr]) func73
theorem ekT(l:List Tp)(m:Mo)(v:Nv)(ff:Tp->Int)(Bg:∀w:Tp,w∈l->Pu 34 [.agg (IC m v),.agg (Ay w)] (.ret (.int .i64 (ff w))))(jG:l.length<=1000000000):Pu 73 [.sl 9 (Tp.cs l),.fn (.func 34) [.agg (IC m v)] []] (.ret (.int .i64 (BX ff l))):=by
 by_cases h5:BX ff l=0
 ·rw [h5]; exact A6o l m v ff Bg jG ((cA _ _).1 h5)
 ·obtain ⟨w,e1,e2⟩:=(cA _ _).2 h5
  rw [<-e2]; exact pu Ad (fun e=>[sl (Tp.A0 l),lp (S.mk [(0,vL 9 (Tp.cs l)),(1,.v (.fn (.func 34) [.agg (.sl 4 (Da.cs (Av m)) :: .sl 3 (Cl.cs (BW m)) :: .sl 12 (In.cs (CJ m)) :: .sl 8 (Ms.cs (Ba m)) :: .sl 6 (Qu.cs (Dh m)) :: .sl 25 (Df.cs (AY m))::Bd v)] [])),(4,A1 0),(8,vL 9 (Tp.cs l)),(9,A1 (l.length:Int)),(10,A1 0)] [] e) (@A6m (l) (m) (v) (ff) Bg (e) jG w e1) xr]) func73
abbrev Vc(l:List Tp)(m:Mo)(v:Nv)(ff:Tp->Int)(j:Int)(e:Ext):S:=S.mk [(1,.v (.fn (.func 35) [.agg (.sl 4 (Da.cs (Av m)) :: .sl 3 (Cl.cs (BW m)) :: .sl 12 (In.cs (CJ m)) :: .sl 8 (Ms.cs (Ba m)) :: .sl 6 (Qu.cs (Dh m)) :: .sl 25 (Df.cs (AY m))::Bd v)] [])),(4,A1 0),(8,vL 9 (Tp.cs l)),(9,A1 (l.length:Int)),(10,A1 j)] [] e
inductive HN where
 | e0 (el:Tp)
 | e1
def GK(ff:Tp->Int):List Tp->HN
 | []=>(HN.e1)
 | el::r=>(if ff el=0 then GK ff r  else (HN.e0 el))
def NO(l:List Tp)(m:Mo)(v:Nv)(ff:Tp->Int)(e:Ext):HN->A5 × S
 | .e0 el=>(.ret,S.mk [(1,.v (.fn (.func 35) [.agg (.sl 4 (Da.cs (Av m)) :: .sl 3 (Cl.cs (BW m)) :: .sl 12 (In.cs (CJ m)) :: .sl 8 (Ms.cs (Ba m)) :: .sl 6 (Qu.cs (Dh m)) :: .sl 25 (Df.cs (AY m))::Bd v)] [])),(4,A1 (ff el)),(8,vL 9 (Tp.cs l)),(9,A1 (l.length:Int))] [] e)
 | .e1=>(.exit 0,S.mk [(1,.v (.fn (.func 35) [.agg (.sl 4 (Da.cs (Av m)) :: .sl 3 (Cl.cs (BW m)) :: .sl 12 (In.cs (CJ m)) :: .sl 8 (Ms.cs (Ba m)) :: .sl 6 (Qu.cs (Dh m)) :: .sl 25 (Df.cs (AY m))::Bd v)] [])),(4,A1 0),(8,vL 9 (Tp.cs l)),(9,A1 (l.length:Int))] [] e)
theorem cB(l:List Tp)(m:Mo)(v:Nv)(ff:Tp->Int)(Bg:∀w:Tp,w∈l->Pu 35 [.agg (IC m v),.agg (Ay w)] (.ret (.int .i64 (ff w))))(e:Ext)(hN:l.length<=1000000000):(Ob.loop 21 (Ai f73 0) (Vc l m v ff 0  e) (NO l m v ff e (GK ff (List.drop 0 (l)))).1 (NO l m v ff e (GK ff (List.drop 0 (l)))).2).ok prog:=by
 refine Ds l.length (fun j _=>Vc l m v ff j  e) (fun i _=>GK ff (List.drop i (l))) (NO l m v ff e) (fun i _=>True) kR ?_ () trivial
 rintro i u hi -
 rcases Nat.lt_or_ge i (l.length) with Ag | CO
 ·have hd:=AH Ag
  by_cases h0:ff (List.getD l i default)=0
  ·exact lN Ad [dt ((i:Int)<(l.length:Int)),am ((0:Int)<=(i:Int)/\(i:Int)<((Tp.cs l).length:Int)) (by (simp only [Tp.A0]; omega)),ar (List.getD (Tp.cs l) (Int.toNat (i:Int)) []) (Ay (List.getD l i default)) (by simp only [Int.toNat_natCast,Int.toNat_zero]; rw [@Tp.B5 (l) (i) Ag]; try rfl),cl (@Bg (List.getD l i default) (by simp_all)),Bi h0,wr ((i:Int)+1)] Ag () trivial (by rw [hd,GK,iP h0])
  ·exact lX Ad [dt ((i:Int)<(l.length:Int)),am ((0:Int)<=(i:Int)/\(i:Int)<((Tp.cs l).length:Int)) (by (simp only [Tp.A0]; omega)),ar (List.getD (Tp.cs l) (Int.toNat (i:Int)) []) (Ay (List.getD l i default)) (by simp only [Int.toNat_natCast,Int.toNat_zero]; rw [@Tp.B5 (l) (i) Ag]; try rfl),cl (@Bg (List.getD l i default) (by simp_all)),Bv h0] (HN.e0 (List.getD (l) i default)) (by rw [hd,GK,iN h0])
 ·have he:i=l.length:=by omega
  exact lX Ad [df ((i:Int)<(l.length:Int))] (HN.e1) (by rw [he,List.drop_length,GK])
theorem A6p(l:List Tp)(m:Mo)(v:Nv)(ff:Tp->Int)(Bg:∀w:Tp,w∈l->Pu 35 [.agg (IC m v),.agg (Ay w)] (.ret (.int .i64 (ff w))))(e:Ext)(hN:l.length<=1000000000)(p0:Tp)(At:(GK ff (l))=(HN.e0 p0)):(Ob.loop 21 (Ai f73 0) (Vc l m v ff 0  e) (NO l m v ff e (HN.e0 p0)).1 (NO l m v ff e (HN.e0 p0)).2).ok prog:=
 rz (cB l m v ff Bg e hN) At
theorem A6q(l:List Tp)(m:Mo)(v:Nv)(ff:Tp->Int)(Bg:∀w:Tp,w∈l->Pu 35 [.agg (IC m v),.agg (Ay w)] (.ret (.int .i64 (ff w))))(e:Ext)(hN:l.length<=1000000000)(At:(GK ff (l))=(HN.e1)):(Ob.loop 21 (Ai f73 0) (Vc l m v ff 0  e) (NO l m v ff e (HN.e1)).1 (NO l m v ff e (HN.e1)).2).ok prog:=
 rz (cB l m v ff Bg e hN) At
theorem cC(ff:Tp->Int):∀l:List Tp,(BX ff l=0->GK ff l = .e1)/\(¬BX ff l=0->∃w,GK ff l = .e0 w/\ff w=BX ff l)
 | []=>⟨fun _=>rfl,fun h=>absurd rfl h⟩
 | c::r=>by
  have ih:=cC ff r
  by_cases hp:ff c=0
  ·simp only [BX,GK,hp,if_true]; exact ih
  ·simp only [BX,GK,hp,if_false]
   exact ⟨fun h=>h.elim,fun _=>⟨c,rfl,rfl⟩⟩
theorem A6r(l:List Tp)(m:Mo)(v:Nv)(ff:Tp->Int)(Bg:∀w:Tp,w∈l->Pu 35 [.agg (IC m v),.agg (Ay w)] (.ret (.int .i64 (ff w))))(jG:l.length<=1000000000)(Ac:GK ff l=HN.e1):Pu 73 [.sl 9 (Tp.cs l),.fn (.func 35) [.agg (IC m v)] []] (rI 0):=
 pu Ad (fun e=>[sl (Tp.A0 l),lp (S.mk [(0,vL 9 (Tp.cs l)),(1,.v (.fn (.func 35) [.agg (.sl 4 (Da.cs (Av m)) :: .sl 3 (Cl.cs (BW m)) :: .sl 12 (In.cs (CJ m)) :: .sl 8 (Ms.cs (Ba m)) :: .sl 6 (Qu.cs (Dh m)) :: .sl 25 (Df.cs (AY m))::Bd v)] [])),(4,A1 0),(8,vL 9 (Tp.cs l)),(9,A1 (l.length:Int)),(10,A1 0)] [] e) (@A6q (l) (m) (v) (ff) Bg (e) jG Ac) xr]) func73
theorem etT(l:List Tp)(m:Mo)(v:Nv)(ff:Tp->Int)(Bg:∀w:Tp,w∈l->Pu 35 [.agg (IC m v),.agg (Ay w)] (.ret (.int .i64 (ff w))))(jG:l.length<=1000000000):Pu 73 [.sl 9 (Tp.cs l),.fn (.func 35) [.agg (IC m v)] []] (.ret (.int .i64 (BX ff l))):=by
 by_cases h5:BX ff l=0
 ·rw [h5]; exact A6r l m v ff Bg jG ((cC _ _).1 h5)
 ·obtain ⟨w,e1,e2⟩:=(cC _ _).2 h5
  rw [<-e2]; exact pu Ad (fun e=>[sl (Tp.A0 l),lp (S.mk [(0,vL 9 (Tp.cs l)),(1,.v (.fn (.func 35) [.agg (.sl 4 (Da.cs (Av m)) :: .sl 3 (Cl.cs (BW m)) :: .sl 12 (In.cs (CJ m)) :: .sl 8 (Ms.cs (Ba m)) :: .sl 6 (Qu.cs (Dh m)) :: .sl 25 (Df.cs (AY m))::Bd v)] [])),(4,A1 0),(8,vL 9 (Tp.cs l)),(9,A1 (l.length:Int)),(10,A1 0)] [] e) (@A6p (l) (m) (v) (ff) Bg (e) jG w e1) xr]) func73
def J5(m:Mo)(t:Tp)(k:Int):Int:=(if AA t=5 then 5 else (if AA t=4 then (if Bl AB (Af t) (Av m)=false then 5 else (if ((A8 t).length:Int)=((Ek (Au AB (Af t) (Av m))).length:Int) then k else 13)) else k))
theorem knS(m:Mo)(v:Nv)(t:Tp)(k:Int)(Ct:(Av m).length<=1048576)(Vd:Pu 73 [.sl 9 (Tp.cs (A8 t)),.fn (.func 34) [.agg (IC m v)] []] (.ret (.int .i64 k))):Pu 34 [.agg (IC m v),.agg (Ay t)] (rI (J5 m t k)):=by
 by_cases h0:AA t=5
 ·simp only [J5,iP h0]; exact pm Ad [Bh h0] func34
 ·by_cases h1:AA t=4
  ·by_cases h2:Bl AB (Af t) (Av m)=false
   ·simp only [J5,iN h0,iP h1,iP h2]; exact pm Ad [Aw h0,Bh h1,cl (@dTT (m) (Af t) Ct),B2 (B6 h2)] func34
   ·by_cases h3:((A8 t).length:Int)=((Ek (Au AB (Af t) (Av m))).length:Int)
    ·simp only [J5,iN h0,iP h1,iN h2,iP h3]; exact pm Ad [Aw h0,Bh h1,cl (@dTT (m) (Af t) Ct),AQ (AJ (Jq h2)),sl (Tp.A0 (A8 t)),sl (A3 (Ek (Au AB (Af t) (Av m)))),Bi h3,cl Vd] func34
    ·simp only [J5,iN h0,iP h1,iN h2,iN h3]; exact pm Ad [Aw h0,Bh h1,cl (@dTT (m) (Af t) Ct),AQ (AJ (Jq h2)),sl (Tp.A0 (A8 t)),sl (A3 (Ek (Au AB (Af t) (Av m)))),Bv h3] func34
  ·simp only [J5,iN h0,iN h1]; exact pm Ad [Aw h0,Aw h1,cl Vd] func34
def X2(m:Mo):Nat->Tp->Int
 | 0,_=>0
 | d+1,t=>J5 m t (BX (X2 m d) (A8 t))
theorem nU(m:Mo)(v:Nv)(Ct:(Av m).length<=1048576):∀ (d:Nat) (t:Tp),A6 (Ay t)<d->d<=100000001->Pu 34 [.agg (IC m v),.agg (Ay t)] (.ret (.int .i64 (X2 m d t)))
 | 0,_,h,_=>by omega
 | d+1,t,h,hd=>by
  have h1:=BM t
  have h3:=Tp.BT (A8 t)
  exact knS m v t _ Ct (ekT (A8 t) m v (X2 m d) (fun w hw=>nU m v Ct d w (by have:=Tp.mem hw; omega) oM) oM)
def y5(m:Mo)(t:Tp):Int:=X2 m (A6 (Ay t)+1) t
theorem knT(m:Mo)(v:Nv)(t:Tp)(Ct:(Av m).length<=1048576)(hs:A6 (Ay t)<=100000000):Pu 34 [.agg (IC m v),.agg (Ay t)] (.ret (.int .i64 (y5 m t))):=nU m v Ct _ t oM oM
theorem gEn{v u:Nv}{i:Nat}(hv:JC v u i):BQ u:=hv.1
theorem gBk{t:Tp}{i:Nat}(Bq:A6 (Ay t)<=10000000)(h:i<(A8 t).length):A6 (Ay ((A8 t).getD i default))<=1000000000:=by
 have h1:=BM t; have:=Tp.mem (BF h); omega
theorem Abi{v u:Nv}{i:Nat}{name:BA}{w:Tp}(hv:JC v u i)(E3:(AS v).length<=50000000)(hi:i<=10000000):JC v (GF u name w) (i+1):=hv.1.pw (n:=(AS v).length+i) hv.2 oM
theorem A6s{t:Tp}{v u:Nv}{i:Nat}{name:BA}{w:Tp}(hv:JC v u i)(E3:(AS v).length<=50000000)(Bq:A6 (Ay t)<=10000000)(h:i<(A8 t).length):JC v (GF u name w) (i+1):=Abi hv E3 (by have h1:=BM t; have:=Tp.BT (A8 t); omega)
abbrev Ve(m:Mo)(v:Nv)(t:Tp)(tf:Nv->Tp->Int)(j:Int)(u:Nv)(e:Ext):S:=S.mk [(2,.lp 2 0),(3,.lp 3 0),(4,A1 0),(5,.lp 5 0),(20,vL 9 (Tp.cs (A8 t))),(21,A1 ((A8 t).length:Int)),(22,A1 j)] [(2,vL 4 (Da.cs (Av m))::vL 3 (Cl.cs (BW m))::vL 12 (In.cs (CJ m))::vL 8 (Ms.cs (Ba m))::vL 6 (Qu.cs (Dh m))::vL 25 (Df.cs (AY m))::CT v),(3,Bj t),(5,vL 4 (Da.cs (Av m))::vL 3 (Cl.cs (BW m))::vL 12 (In.cs (CJ m))::vL 8 (Ms.cs (Ba m))::vL 6 (Qu.cs (Dh m))::vL 25 (Df.cs (AY m))::CT u)] e
inductive GL where
 | e0 (el:Tp) (u:Nv)
 | e1 (u:Nv)
def EU(t:Tp)(tf:Nv->Tp->Int):List Tp->Nat->(Nv)->GL
 | [],i,u=>(GL.e1 u)
 | el::r,i,u=>(if tf u el=0 then (if (i:Int)<((Aj t).length:Int) then EU t tf r (i+1) (GF u (List.getD (Aj t) i Ah) el) else EU t tf r (i+1) (u)) else (GL.e0 el u))
def NP(m:Mo)(v:Nv)(t:Tp)(tf:Nv->Tp->Int)(e:Ext):GL->A5 × S
 | .e0 el u=>(.ret,S.mk [(2,.lp 2 0),(3,.lp 3 0),(4,A1 (tf u el)),(5,.lp 5 0),(20,vL 9 (Tp.cs (A8 t))),(21,A1 ((A8 t).length:Int))] [(2,vL 4 (Da.cs (Av m))::vL 3 (Cl.cs (BW m))::vL 12 (In.cs (CJ m))::vL 8 (Ms.cs (Ba m))::vL 6 (Qu.cs (Dh m))::vL 25 (Df.cs (AY m))::CT v),(3,Bj t),(5,vL 4 (Da.cs (Av m))::vL 3 (Cl.cs (BW m))::vL 12 (In.cs (CJ m))::vL 8 (Ms.cs (Ba m))::vL 6 (Qu.cs (Dh m))::vL 25 (Df.cs (AY m))::CT u)] e)
 | .e1 u=>(.exit 0,S.mk [(2,.lp 2 0),(3,.lp 3 0),(4,A1 0),(5,.lp 5 0),(20,vL 9 (Tp.cs (A8 t))),(21,A1 ((A8 t).length:Int))] [(2,vL 4 (Da.cs (Av m))::vL 3 (Cl.cs (BW m))::vL 12 (In.cs (CJ m))::vL 8 (Ms.cs (Ba m))::vL 6 (Qu.cs (Dh m))::vL 25 (Df.cs (AY m))::CT v),(3,Bj t),(5,vL 4 (Da.cs (Av m))::vL 3 (Cl.cs (BW m))::vL 12 (In.cs (CJ m))::vL 8 (Ms.cs (Ba m))::vL 6 (Qu.cs (Dh m))::vL 25 (Df.cs (AY m))::CT u)] e)
theorem cD(m:Mo)(v:Nv)(t:Tp)(tf:Nv->Tp->Int)(Bg:∀ (u:Nv) (i:Nat),i<(A8 t).length->JC v u i->Pu 35 [.agg (IC m u),.agg (Ay ((A8 t).getD i default))] (.ret (.int .i64 (tf u ((A8 t).getD i default)))))(DV:AA t=6)(E3:(AS v).length<=50000000)(Bq:A6 (Ay t)<=10000000)(e:Ext)(hN:(A8 t).length<=1000000000)(u:Nv)(hv:(JC v u 0)):(Ob.loop 105 (Ai f35 0) (Ve m v t tf 0 u e) (NP m v t tf e (EU t tf (List.drop 0 ((A8 t))) 0 u)).1 (NP m v t tf e (EU t tf (List.drop 0 ((A8 t))) 0 u)).2).ok prog:=by
 refine Ds ((A8 t).length) (fun j u=>Ve m v t tf j u e) (fun i u=>EU t tf (List.drop i ((A8 t))) i u) (NP m v t tf e) (fun i u=>(JC v u i)) kR ?_ u (by first | exact hv | omega)
 rintro i u hi hv
 try simp only at hv
 rcases Nat.lt_or_ge i ((A8 t).length) with Ag | CO
 ·have hd:=AH Ag
  by_cases h0:tf u (List.getD (A8 t) i default)=0
  ·by_cases h1:(i:Int)<((Aj t).length:Int)
   ·exact lS Ad [dt ((i:Int)<((A8 t).length:Int)),am ((0:Int)<=(i:Int)/\(i:Int)<((Tp.cs (A8 t)).length:Int)) (by (simp only [Tp.A0]; omega)),ar (List.getD (Tp.cs (A8 t)) (Int.toNat (i:Int)) []) (Ay (List.getD (A8 t) i default)) (by simp only [Int.toNat_natCast,Int.toNat_zero]; rw [@Tp.B5 (A8 t) (i) Ag]; try rfl),cl (@Bg (u) (i) Ag hv),Bi h0,sl (A3 (Aj t)),C6 h1,am ((0:Int)<=(i:Int)/\(i:Int)<((A7 (Aj t)).length:Int)) (by (simp only [A3]; omega)),ar (List.getD (A7 (Aj t)) (Int.toNat (i:Int)) []) [.str (List.getD (Aj t) i Ah)] (by simp only [Int.toNat_natCast,Int.toNat_zero]; rw [@Cv (Aj t) (i) oM]; try rfl),cl (@pwT (m) (u) (List.getD (Aj t) i Ah) (List.getD (A8 t) i default) (by (apply gEn <;> first | assumption | omega | decide)) (by (apply gBk <;> first | assumption | omega | decide))),wr ((i:Int)+1)] [2,3,4,5,20,21,22] [2,3,5] Ag (GF u (List.getD (Aj t) i Ah) (List.getD (A8 t) i default)) (S.mk [(2,.lp 2 0),(3,.lp 3 0),(4,A1 0),(5,.lp 5 0),(20,vL 9 (Tp.cs (A8 t))),(21,A1 ((A8 t).length:Int)),(22,A1 ((i:Int)+1))] [(2,vL 4 (Da.cs (Av m))::vL 3 (Cl.cs (BW m))::vL 12 (In.cs (CJ m))::vL 8 (Ms.cs (Ba m))::vL 6 (Qu.cs (Dh m))::vL 25 (Df.cs (AY m))::CT v),(3,Bj t),(5,vL 4 (Da.cs (Av m))::vL 3 (Cl.cs (BW m))::vL 12 (In.cs (CJ m))::vL 8 (Ms.cs (Ba m))::vL 6 (Qu.cs (Dh m))::vL 25 (Df.cs (AY m))::CT (GF u (List.getD (Aj t) i Ah) (List.getD (A8 t) i default)))] e) ⟨⟨W,W,W,W,W,W,W,An⟩,⟨Ws,Ws,⟨W,W,W,W,W,W,Wq,Wq,Wq,An⟩,An⟩,rfl⟩ (by first | assumption | omega | (apply gEn <;> first | assumption | omega | decide) | (apply gBk <;> first | assumption | omega | decide) | (apply A6s <;> first | assumption | omega | decide) | (apply JC.s <;> first | assumption | omega | decide) | (simp only [List.length_append,List.length_cons,List.length_nil] at *; omega) | simp_all) (by rw [hd,EU,iP h0,iP h1])
   ·exact lN Ad [dt ((i:Int)<((A8 t).length:Int)),am ((0:Int)<=(i:Int)/\(i:Int)<((Tp.cs (A8 t)).length:Int)) (by (simp only [Tp.A0]; omega)),ar (List.getD (Tp.cs (A8 t)) (Int.toNat (i:Int)) []) (Ay (List.getD (A8 t) i default)) (by simp only [Int.toNat_natCast,Int.toNat_zero]; rw [@Tp.B5 (A8 t) (i) Ag]; try rfl),cl (@Bg (u) (i) Ag hv),Bi h0,sl (A3 (Aj t)),Az h1,wr ((i:Int)+1)] Ag (u) (by first | assumption | omega | (apply gEn <;> first | assumption | omega | decide) | (apply gBk <;> first | assumption | omega | decide) | (apply A6s <;> first | assumption | omega | decide) | (apply JC.s <;> first | assumption | omega | decide) | (simp only [List.length_append,List.length_cons,List.length_nil] at *; omega) | simp_all) (by rw [hd,EU,iP h0,iN h1])
  ·exact lX Ad [dt ((i:Int)<((A8 t).length:Int)),am ((0:Int)<=(i:Int)/\(i:Int)<((Tp.cs (A8 t)).length:Int)) (by (simp only [Tp.A0]; omega)),ar (List.getD (Tp.cs (A8 t)) (Int.toNat (i:Int)) []) (Ay (List.getD (A8 t) i default)) (by simp only [Int.toNat_natCast,Int.toNat_zero]; rw [@Tp.B5 (A8 t) (i) Ag]; try rfl),cl (@Bg (u) (i) Ag hv),Bv h0] (GL.e0 (List.getD ((A8 t)) i default) u) (by rw [hd,EU,iN h0])
 ·have he:i=(A8 t).length:=by omega
  exact lX Ad [df ((i:Int)<((A8 t).length:Int))] (GL.e1 u) (by rw [he,List.drop_length,EU])
theorem A6t(m:Mo)(v:Nv)(t:Tp)(tf:Nv->Tp->Int)(Bg:∀ (u:Nv) (i:Nat),i<(A8 t).length->JC v u i->Pu 35 [.agg (IC m u),.agg (Ay ((A8 t).getD i default))] (.ret (.int .i64 (tf u ((A8 t).getD i default)))))(DV:AA t=6)(E3:(AS v).length<=50000000)(Bq:A6 (Ay t)<=10000000)(u:Nv)(e:Ext)(hN:(A8 t).length<=1000000000)(hv:JC v u 0)(p0:Tp)(p1:Nv)(At:(EU t tf ((A8 t)) 0 u)=(GL.e0 p0 p1)):(Ob.loop 105 (Ai f35 0) (Ve m v t tf 0 u e) (NP m v t tf e (GL.e0 p0 p1)).1 (NP m v t tf e (GL.e0 p0 p1)).2).ok prog:=
 rz (cD m v t tf Bg DV E3 Bq e hN u hv) At
theorem A6u(m:Mo)(v:Nv)(t:Tp)(tf:Nv->Tp->Int)(Bg:∀ (u:Nv) (i:Nat),i<(A8 t).length->JC v u i->Pu 35 [.agg (IC m u),.agg (Ay ((A8 t).getD i default))] (.ret (.int .i64 (tf u ((A8 t).getD i default)))))(DV:AA t=6)(E3:(AS v).length<=50000000)(Bq:A6 (Ay t)<=10000000)(u:Nv)(e:Ext)(hN:(A8 t).length<=1000000000)(hv:JC v u 0)(p0:Nv)(At:(EU t tf ((A8 t)) 0 u)=(GL.e1 p0)):(Ob.loop 105 (Ai f35 0) (Ve m v t tf 0 u e) (NP m v t tf e (GL.e1 p0)).1 (NP m v t tf e (GL.e1 p0)).2).ok prog:=
 rz (cD m v t tf Bg DV E3 Bq e hN u hv) At
theorem gE1{v:Nv}{name:BA}{t:Tp}(hE:BQ v)(E3:(AS v).length<=50000000):BQ (GF v name t):=(hE.pw (n:=(AS v).length) (Nat.le_refl _) oM).1
theorem gE2{v:Nv}{a b:BA}(hE:BQ v)(E3:(AS v).length<=50000000):BQ (Lr v (.mk a b)):=(hE.wi (n:=(AS v).length) (Nat.le_refl _) oM).1
theorem fG{t:Tp}(Bq:A6 (Ay t)<=10000000):A6 (AO (Br t))<=100000000:=by have:=BM t; omega
theorem gB2{t:Tp}{i:Nat}(Bq:A6 (Ay t)<=10000000)(h:i<(Ak t).length):A6 (AO ((Ak t).getD i default))<=100000000:=by have:=BM t; have:=Pr.mem (BF h); omega
abbrev vSS:BA:=ByteArray.mk #[118]
abbrev Vf(m:Mo)(v:Nv)(t:Tp)(j:Int)(e:Ext):S:=S.mk [(2,.lp 2 0),(3,.lp 3 0),(4,A1 0),(10,.lp 10 0),(77,vL 4 (Pr.cs (Ak t))),(78,A1 ((Ak t).length:Int)),(79,A1 j)] [(2,vL 4 (Da.cs (Av m))::vL 3 (Cl.cs (BW m))::vL 12 (In.cs (CJ m))::vL 8 (Ms.cs (Ba m))::vL 6 (Qu.cs (Dh m))::vL 25 (Df.cs (AY m))::CT v),(3,Bj t),(10,RP (Au AB (Af t) (Av m)))] e
inductive GM where
 | e0 (el:Pr) (i:Nat)
 | e1
def FD(m:Mo)(v:Nv)(t:Tp):List Pr->Nat->GM
 | [],i=>(GM.e1)
 | el::r,i=>(if Bp (Lr v (Vr.mk (bM 118) (Fe (List.getD (Dq (Au AB (Af t) (Av m))) i default)))) el=0 then FD m v t r (i+1)  else (GM.e0 el i))
def NQ(m:Mo)(v:Nv)(t:Tp)(e:Ext):GM->A5 × S
 | .e0 el i=>(.ret,S.mk [(2,.lp 2 0),(3,.lp 3 0),(4,A1 (Bp (Lr v (Vr.mk (bM 118) (Fe (List.getD (Dq (Au AB (Af t) (Av m))) i default)))) el)),(10,.lp 10 0),(77,vL 4 (Pr.cs (Ak t))),(78,A1 ((Ak t).length:Int))] [(2,vL 4 (Da.cs (Av m))::vL 3 (Cl.cs (BW m))::vL 12 (In.cs (CJ m))::vL 8 (Ms.cs (Ba m))::vL 6 (Qu.cs (Dh m))::vL 25 (Df.cs (AY m))::CT v),(3,Bj t),(10,RP (Au AB (Af t) (Av m)))] e)
 | .e1=>(.exit 2,S.mk [(2,.lp 2 0),(3,.lp 3 0),(4,A1 0),(10,.lp 10 0),(77,vL 4 (Pr.cs (Ak t))),(78,A1 ((Ak t).length:Int))] [(2,vL 4 (Da.cs (Av m))::vL 3 (Cl.cs (BW m))::vL 12 (In.cs (CJ m))::vL 8 (Ms.cs (Ba m))::vL 6 (Qu.cs (Dh m))::vL 25 (Df.cs (AY m))::CT v),(3,Bj t),(10,RP (Au AB (Af t) (Av m)))] e)
theorem cE(m:Mo)(v:Nv)(t:Tp)(DV:¬AA t=6)(hE:BQ v)(E3:(AS v).length<=50000000)(Bq:A6 (Ay t)<=10000000)(Ct:(Av m).length<=1048576)(Jh:Bp (GF v (bM 118) t) (Br t)=0)(V3:((Ak t).length:Int)>0)(hlen:((Ak t).length:Int)=((Dq (Au AB (Af t) (Av m))).length:Int))(e:Ext)(hN:(Ak t).length<=1000000000):(Ob.loop 105 (Ai f35 1) (Vf m v t 0  e) (NQ m v t e (FD m v t (List.drop 0 ((Ak t))) 0)).1 (NQ m v t e (FD m v t (List.drop 0 ((Ak t))) 0)).2).ok prog:=by
 refine Ds ((Ak t).length) (fun j _=>Vf m v t j  e) (fun i _=>FD m v t (List.drop i ((Ak t))) i) (NQ m v t e) (fun i _=>True) kR ?_ () trivial
 rintro i u hi -
 rcases Nat.lt_or_ge i ((Ak t).length) with Ag | CO
 ·have hd:=AH Ag
  by_cases h0:Bp (Lr v (Vr.mk (bM 118) (Fe (List.getD (Dq (Au AB (Af t) (Av m))) i default)))) (List.getD (Ak t) i default)=0
  ·exact lN Ad [dt ((i:Int)<((Ak t).length:Int)),am ((0:Int)<=(i:Int)/\(i:Int)<((Pr.cs (Ak t)).length:Int)) (by (simp only [Pr.A0]; omega)),ar (List.getD (Pr.cs (Ak t)) (Int.toNat (i:Int)) []) (AO (List.getD (Ak t) i default)) (by simp only [Int.toNat_natCast,Int.toNat_zero]; rw [@Pr.B5 (Ak t) (i) Ag]; try rfl),am ((0:Int)<=(i:Int)/\(i:Int)<((Vr.cs (Dq (Au AB (Af t) (Av m)))).length:Int)) (by (simp only [Vr.A0]; omega)),ar (List.getD (Vr.cs (Dq (Au AB (Af t) (Av m)))) (Int.toNat (i:Int)) []) (Fo (List.getD (Dq (Au AB (Af t) (Av m))) i default)) (by simp only [Int.toNat_natCast,Int.toNat_zero]; rw [@Vr.B5 (Dq (Au AB (Af t) (Av m))) (i) oM]; try rfl),cl (@xZ (v) (bM 118) (Fe (List.getD (Dq (Au AB (Af t) (Av m))) i default)) hE),cl (@sb (Lr v (Vr.mk (bM 118) (Fe (List.getD (Dq (Au AB (Af t) (Av m))) i default)))) (List.getD (Ak t) i default) (by (apply gE2 <;> first | assumption | omega | decide)) (by (apply gB2 <;> first | assumption | omega | decide))),Bi h0,wr ((i:Int)+1)] Ag () trivial (by rw [hd,FD,iP h0])
  ·exact lX Ad [dt ((i:Int)<((Ak t).length:Int)),am ((0:Int)<=(i:Int)/\(i:Int)<((Pr.cs (Ak t)).length:Int)) (by (simp only [Pr.A0]; omega)),ar (List.getD (Pr.cs (Ak t)) (Int.toNat (i:Int)) []) (AO (List.getD (Ak t) i default)) (by simp only [Int.toNat_natCast,Int.toNat_zero]; rw [@Pr.B5 (Ak t) (i) Ag]; try rfl),am ((0:Int)<=(i:Int)/\(i:Int)<((Vr.cs (Dq (Au AB (Af t) (Av m)))).length:Int)) (by (simp only [Vr.A0]; omega)),ar (List.getD (Vr.cs (Dq (Au AB (Af t) (Av m)))) (Int.toNat (i:Int)) []) (Fo (List.getD (Dq (Au AB (Af t) (Av m))) i default)) (by simp only [Int.toNat_natCast,Int.toNat_zero]; rw [@Vr.B5 (Dq (Au AB (Af t) (Av m))) (i) oM]; try rfl),cl (@xZ (v) (bM 118) (Fe (List.getD (Dq (Au AB (Af t) (Av m))) i default)) hE),cl (@sb (Lr v (Vr.mk (bM 118) (Fe (List.getD (Dq (Au AB (Af t) (Av m))) i default)))) (List.getD (Ak t) i default) (by (apply gE2 <;> first | assumption | omega | decide)) (by (apply gB2 <;> first | assumption | omega | decide))),Bv h0] (GM.e0 (List.getD ((Ak t)) i default) i) (by rw [hd,FD,iN h0])
 ·have he:i=(Ak t).length:=by omega
  exact lX Ad [df ((i:Int)<((Ak t).length:Int))] (GM.e1) (by rw [he,List.drop_length,FD])
theorem A6v(m:Mo)(v:Nv)(t:Tp)(DV:¬AA t=6)(hE:BQ v)(E3:(AS v).length<=50000000)(Bq:A6 (Ay t)<=10000000)(Ct:(Av m).length<=1048576)(Jh:Bp (GF v (bM 118) t) (Br t)=0)(V3:((Ak t).length:Int)>0)(hlen:((Ak t).length:Int)=((Dq (Au AB (Af t) (Av m))).length:Int))(e:Ext)(hN:(Ak t).length<=1000000000)(p0:Pr)(p1:Nat)(At:(FD m v t ((Ak t)) 0)=(GM.e0 p0 p1)):(Ob.loop 105 (Ai f35 1) (Vf m v t 0  e) (NQ m v t e (GM.e0 p0 p1)).1 (NQ m v t e (GM.e0 p0 p1)).2).ok prog:=
 rz (cE m v t DV hE E3 Bq Ct Jh V3 hlen e hN) At
theorem A6w(m:Mo)(v:Nv)(t:Tp)(DV:¬AA t=6)(hE:BQ v)(E3:(AS v).length<=50000000)(Bq:A6 (Ay t)<=10000000)(Ct:(Av m).length<=1048576)(Jh:Bp (GF v (bM 118) t) (Br t)=0)(V3:((Ak t).length:Int)>0)(hlen:((Ak t).length:Int)=((Dq (Au AB (Af t) (Av m))).length:Int))(e:Ext)(hN:(Ak t).length<=1000000000)(At:(FD m v t ((Ak t)) 0)=(GM.e1)):(Ob.loop 105 (Ai f35 1) (Vf m v t 0  e) (NQ m v t e (GM.e1)).1 (NQ m v t e (GM.e1)).2).ok prog:=
 rz (cE m v t DV hE E3 Bq Ct Jh V3 hlen e hN) At
theorem rnT(t:Tp)(hs:A6 (Ay t)<=100000000):Pu 127 [.agg (Ay t)] (.ret (.int .i64 (IB t))):=by
 have h1:=BM t
 have h2:=Pr.BT (Ak t)
 have hk:∀w:Pr,w∈CU t->Pu 98 [.agg (AO w)] (.ret (.int .i64 (Ge w))):=fun w hw=>wF w (by have:=Sc hw; omega)
 have hn:(Aj t).length<=1000000000:=by have:=Na (Aj t); have h8:Am (A7 (Aj t))<A6 (Ay t):=(by simp only [A6,CK]; omega); omega
 unfold IB
 rw [<-A5p]
 cases h0:CD t with
 | true=>rw [iP rfl]; exact A5k t hk oM hn h0
 | false=>
  rw [iN dD]
  by_cases h3:BX (fun s=>Ck (AR s)) (Aj t)=0
  ·rw [iP h3]
   have h3':ES (Aj t) = .e1:=by rw [bT,iP h3]
   cases h4:F1 (Aj t) with
   | false=>rw [iP rfl]; exact A5m t hk oM hn h0 h3' h4
   | true=>
    rw [iN dD]
    by_cases h5:BX OE (CU t)=0
    ·rw [h5]; exact A5o t hk oM hn h0 h3' h4 ((bU _).1 h5)
    ·obtain ⟨w,e1,e2⟩:=(bU _).2 h5
     rw [<-e2]; exact A5n t hk oM hn h0 h3' h4 w e1
  ·rw [iN h3]; exact A5l t hk oM hn h0 (by rw [bT,iN h3])
abbrev Vg(t:Tp)(xe:Ext)(ff:Tp->Int)(j:Int)   : S:=S.mk [(2,A1 0),(13,vL 9 (Tp.cs (A8 t))),(14,A1 ((A8 t).length:Int)),(15,A1 j)] [] xe
inductive GN where
 | e0 (el:Tp)
 | e1
def G6(ff:Tp->Int):List Tp->GN
 | []=>(GN.e1)
 | el::r=>(if ff el=0 then G6 ff r  else (GN.e0 el))
def NR(t:Tp)(xe:Ext)(ff:Tp->Int)  : GN->A5 × S
 | .e0 el=>(.ret,S.mk [(2,A1 (ff el)),(13,vL 9 (Tp.cs (A8 t))),(14,A1 ((A8 t).length:Int))] [] xe)
 | .e1=>(.exit 0,S.mk [(2,A1 0),(13,vL 9 (Tp.cs (A8 t))),(14,A1 ((A8 t).length:Int))] [] xe)
theorem cF(t:Tp)(xe:Ext)(ff:Tp->Int)(Bg:∀w:Tp,w∈A8 t->Pu 76 [.agg (Ay w)] (.ret (.int .i64 (ff w))))(hN:(A8 t).length<=1000000000):(Ob.loop 25 (Ai f76 0) (Vg t xe ff 0) (NR t xe ff  (G6 ff (List.drop 0 ((A8 t))))).1 (NR t xe ff  (G6 ff (List.drop 0 ((A8 t))))).2).ok prog:=by
 refine Ds ((A8 t).length) (fun j _=>Vg t xe ff j) (fun i _=>G6 ff (List.drop i ((A8 t)))) (NR t xe ff) (fun i _=>True) kR ?_ () trivial
 rintro i u hi -
 rcases Nat.lt_or_ge i ((A8 t).length) with Ag | CO
 ·have hd:=AH Ag
  by_cases h0:ff (List.getD (A8 t) i default)=0
  ·exact lN Ad [dt ((i:Int)<((A8 t).length:Int)),am ((0:Int)<=(i:Int)/\(i:Int)<((Tp.cs (A8 t)).length:Int)) (by (simp only [Tp.A0]; omega)),ar (List.getD (Tp.cs (A8 t)) (Int.toNat (i:Int)) []) (Ay (List.getD (A8 t) i default)) (by simp only [Int.toNat_natCast,Int.toNat_zero]; rw [@Tp.B5 (A8 t) (i) Ag]; try rfl),cl (@Bg (List.getD (A8 t) i default) (by simp_all [D2,DL,EG])),Bi h0,wr ((i:Int)+1)] Ag () trivial (by rw [hd,G6,iP h0])
  ·exact lX Ad [dt ((i:Int)<((A8 t).length:Int)),am ((0:Int)<=(i:Int)/\(i:Int)<((Tp.cs (A8 t)).length:Int)) (by (simp only [Tp.A0]; omega)),ar (List.getD (Tp.cs (A8 t)) (Int.toNat (i:Int)) []) (Ay (List.getD (A8 t) i default)) (by simp only [Int.toNat_natCast,Int.toNat_zero]; rw [@Tp.B5 (A8 t) (i) Ag]; try rfl),cl (@Bg (List.getD (A8 t) i default) (by simp_all [D2,DL,EG])),Bv h0] (GN.e0 (List.getD ((A8 t)) i default)) (by rw [hd,G6,iN h0])
 ·have he:i=(A8 t).length:=by omega
  exact lX Ad [df ((i:Int)<((A8 t).length:Int))] (GN.e1) (by rw [he,List.drop_length,G6])
theorem A6x(t:Tp)(xe:Ext)(ff:Tp->Int)(Bg:∀w:Tp,w∈A8 t->Pu 76 [.agg (Ay w)] (.ret (.int .i64 (ff w))))(hN:(A8 t).length<=1000000000)(p0:Tp)(At:(G6 ff ((A8 t)))=(GN.e0 p0)):(Ob.loop 25 (Ai f76 0) (Vg t xe ff 0) (NR t xe ff  (GN.e0 p0)).1 (NR t xe ff  (GN.e0 p0)).2).ok prog:=
 rz (cF t xe ff Bg hN) At
theorem A6y(t:Tp)(xe:Ext)(ff:Tp->Int)(Bg:∀w:Tp,w∈A8 t->Pu 76 [.agg (Ay w)] (.ret (.int .i64 (ff w))))(hN:(A8 t).length<=1000000000)(At:(G6 ff ((A8 t)))=(GN.e1)):(Ob.loop 25 (Ai f76 0) (Vg t xe ff 0) (NR t xe ff  (GN.e1)).1 (NR t xe ff  (GN.e1)).2).ok prog:=
 rz (cF t xe ff Bg hN) At
section
variable (t:Tp) (ff:Tp->Int) (Bg:∀w:Tp,w∈A8 t->Pu 76 [.agg (Ay w)] (.ret (.int .i64 (ff w)))) (hs:A6 (Ay t)<=100000000) (hN:(A8 t).length<=1000000000)
include t ff Bg hs hN
theorem A6z(Ac:¬IB t=0):Pu 76 [.agg (Ay t)] (rI (IB t)):=
 pm Ad [cl (@rnT (t) hs),Bv Ac] func76
theorem A70(Ac:IB t=0)(Ii:Tp)(Ao:G6 ff (A8 t)=GN.e0 Ii):Pu 76 [.agg (Ay t)] (rI (ff Ii)):=
 pu Ad (fun e=>[cl (@rnT (t) hs),Bi Ac,sl (Tp.A0 (A8 t)),lp (S.mk [(0,.v (.agg (Ay t))),(1,.lp 1 0),(2,A1 0),(7,.v (.agg (Ay t))),(8,A1 (IB t)),(3,A1 (IB t)),(9,A1 (IB t)),(10,.v (.bool (IB t != 0))),(12,.lp 1 2),(13,vL 9 (Tp.cs (A8 t))),(14,A1 ((A8 t).length:Int)),(15,A1 0)] [(1,Bj t)] e) (@A6x (t) (e) (ff) Bg hN Ii Ao) xr]) func76
theorem A71(Ac:IB t=0)(Ae:G6 ff (A8 t)=GN.e1):Pu 76 [.agg (Ay t)] (rI 0):=
 pu Ad (fun e=>[cl (@rnT (t) hs),Bi Ac,sl (Tp.A0 (A8 t)),lp (S.mk [(0,.v (.agg (Ay t))),(1,.lp 1 0),(2,A1 0),(7,.v (.agg (Ay t))),(8,A1 (IB t)),(3,A1 (IB t)),(9,A1 (IB t)),(10,.v (.bool (IB t != 0))),(12,.lp 1 2),(13,vL 9 (Tp.cs (A8 t))),(14,A1 ((A8 t).length:Int)),(15,A1 0)] [(1,Bj t)] e) (@A6y (t) (e) (ff) Bg hN Ae) xr]) func76
end
theorem cG(ff:Tp->Int):∀l:List Tp,(BX ff l=0->G6 ff l = .e1)/\(¬BX ff l=0->∃w,G6 ff l = .e0 w/\ff w=BX ff l)
 | []=>⟨fun _=>rfl,fun h=>absurd rfl h⟩
 | c::r=>by
  have ih:=cG ff r
  by_cases hp:ff c=0
  ·simp only [BX,G6,hp,if_true]; exact ih
  ·simp only [BX,G6,hp,if_false]
   exact ⟨fun h=>h.elim,fun _=>⟨c,rfl,rfl⟩⟩
theorem nV:∀ (d:Nat) (t:Tp),A6 (Ay t)<d->d<=100000001->Pu 76 [.agg (Ay t)] (.ret (.int .i64 (X1 d t)))
 | 0,_,h,_=>by omega
 | d+1,t,h,hd=>by
  have h1:=BM t
  have h3:=Tp.BT (A8 t)
  have ht:∀w:Tp,w∈A8 t->Pu 76 [.agg (Ay w)] (.ret (.int .i64 (X1 d w))):=fun w hw=>nV d w (by have:=Tp.mem hw; omega) oM
  rw [X1]
  by_cases h0:IB t=0
  ·rw [iP h0]
   by_cases h5:BX (X1 d) (A8 t)=0
   ·rw [h5]; exact A71 t _ ht oM oM h0 ((cG _ _).1 h5)
   ·obtain ⟨w,e1,e2⟩:=(cG _ _).2 h5
    rw [<-e2]; exact A70 t _ ht oM oM h0 w e1
  ·rw [iN h0]; exact A6z t _ ht oM oM h0
theorem rgT(t:Tp)(hs:A6 (Ay t)<=100000000):Pu 76 [.agg (Ay t)] (.ret (.int .i64 (rsF t))):=nV (A6 (Ay t)+1) t oM oM
def TA(t:Tp):Int:=(if Ee t=0 then (rsF t) else (Ee t))
theorem rrc(t:Tp)(hs:A6 (Ay t)<=100000000):Pu 36 [.agg (Ay t)] (rI (TA t)):=by
 by_cases h0:Ee t=0
 ·simp only [TA,iP h0]; exact pm Ad [cl (@x6 (t) hs),Bi h0,cl (@rgT (t) hs)] func36
 ·simp only [TA,iN h0]; exact pm Ad [cl (@x6 (t) hs),Bv h0] func36
theorem y6(t:Tp)(hs:A6 (Ay t)<=10000000):Pu 36 [.agg (Ay t)] (.ret (.int .i64 (DW t))):=rrc t oM
abbrev Vh(m:Mo)(name:BA)(j:Int)(e:Ext):S:=S.mk [(1,vS name),(2,.lp 2 0),(4,.lp 4 0),(5,.v (.bool false)),(6,A1 j)] [(2,El m),(4,[vS Ah,.v .A4,.v .A4,.v .A4])] e
inductive HO where
 | e0 (el:Da)
 | e1
def GO(name:BA):List Da->HO
 | []=>(HO.e1)
 | el::r=>(if AB el=name then (HO.e0 el) else GO name r)
def NS(m:Mo)(name:BA)(e:Ext):HO->A5 × S
 | .e0 el=>(.ret,S.mk [(1,vS name),(2,.lp 2 0),(4,.lp 4 0),(5,.v (.bool true))] [(2,El m),(4,RP el)] e)
 | .e1=>(.exit 0,S.mk [(1,vS name),(2,.lp 2 0),(4,.lp 4 0),(5,.v (.bool false))] [(2,El m),(4,[vS Ah,.v .A4,.v .A4,.v .A4])] e)
theorem cH(m:Mo)(name:BA)(e:Ext)(hN:(Av m).length<=1000000000):(Ob.loop 28 (Ai f78 0) (Vh m name 0  e) (NS m name e (GO name (List.drop 0 ((Av m))))).1 (NS m name e (GO name (List.drop 0 ((Av m))))).2).ok prog:=by
 refine Ds ((Av m).length) (fun j _=>Vh m name j  e) (fun i _=>GO name (List.drop i ((Av m)))) (NS m name e) (fun i _=>True) kR ?_ () trivial
 rintro i u hi -
 rcases Nat.lt_or_ge i ((Av m).length) with Ag | CO
 ·have hd:=AH Ag
  by_cases h0:AB (List.getD (Av m) i default)=name
  ·exact lX Ad [sl (Da.A0 (Av m)),dt ((i:Int)<((Av m).length:Int)),am ((0:Int)<=(i:Int)/\(i:Int)<((Da.cs (Av m)).length:Int)) (by (simp only [Da.A0]; omega)),ar (List.getD (Da.cs (Av m)) (Int.toNat (i:Int)) []) (Gn (List.getD (Av m) i default)) (by simp only [Int.toNat_natCast,Int.toNat_zero]; rw [@Da.B5 (Av m) (i) Ag]; try rfl),bt (ByteArray.toList (AB (List.getD (Av m) i default))==ByteArray.toList name) (BL h0),am ((0:Int)<=(i:Int)/\(i:Int)<((Da.cs (Av m)).length:Int)) (by (simp only [Da.A0]; omega)),ar (List.getD (Da.cs (Av m)) (Int.toNat (i:Int)) []) (Gn (List.getD (Av m) i default)) (by simp only [Int.toNat_natCast,Int.toNat_zero]; rw [@Da.B5 (Av m) (i) Ag]; try rfl)] (HO.e0 (List.getD ((Av m)) i default)) (by rw [hd,GO,iP h0])
  ·exact lN Ad [sl (Da.A0 (Av m)),dt ((i:Int)<((Av m).length:Int)),am ((0:Int)<=(i:Int)/\(i:Int)<((Da.cs (Av m)).length:Int)) (by (simp only [Da.A0]; omega)),ar (List.getD (Da.cs (Av m)) (Int.toNat (i:Int)) []) (Gn (List.getD (Av m) i default)) (by simp only [Int.toNat_natCast,Int.toNat_zero]; rw [@Da.B5 (Av m) (i) Ag]; try rfl),bf (ByteArray.toList (AB (List.getD (Av m) i default))==ByteArray.toList name) (BZ h0),wr ((i:Int)+1)] Ag () trivial (by rw [hd,GO,iN h0])
 ·have he:i=(Av m).length:=by omega
  exact lX Ad [sl (Da.A0 (Av m)),df ((i:Int)<((Av m).length:Int))] (HO.e1) (by rw [he,List.drop_length,GO])
theorem A72(m:Mo)(name:BA)(e:Ext)(hN:(Av m).length<=1000000000)(p0:Da)(At:(GO name ((Av m)))=(HO.e0 p0)):(Ob.loop 28 (Ai f78 0) (Vh m name 0  e) (NS m name e (HO.e0 p0)).1 (NS m name e (HO.e0 p0)).2).ok prog:=
 rz (cH m name e hN) At
theorem A73(m:Mo)(name:BA)(e:Ext)(hN:(Av m).length<=1000000000)(At:(GO name ((Av m)))=(HO.e1)):(Ob.loop 28 (Ai f78 0) (Vh m name 0  e) (NS m name e (HO.e1)).1 (NS m name e (HO.e1)).2).ok prog:=
 rz (cH m name e hN) At
theorem cI(name:BA):∀l:List Da,GO name l=if ix AB name l<l.length then .e0 (l.getD (ix AB name l) default) else .e1
 | []=>by simp [GO,ix]
 | c::r=>by
  by_cases h:AB c=name
  ·simp [GO,ix,h]
  ·simp only [GO,ix,h,if_false,cI name r,List.length_cons,Nat.add_lt_add_iff_right,List.getD_cons_succ]
theorem A74(m:Mo)(name:BA)(Ct:(Av m).length<=1048576)(Dc:Da)(Ae:GO name (Av m)=HO.e0 Dc):Pu 78 [.agg (Ci m),.str name] (.ret (.AE [.agg (Gn Dc),.bool true])):=
 pu Ad (fun e=>[lp (S.mk [(0,.v (.agg (Ci m))),(1,vS name),(2,.lp 2 0),(4,.lp 4 0),(5,.v (.bool false)),(6,A1 0)] [(2,El m),(4,[vS Ah,.v .A4,.v .A4,.v .A4])] e) (@A72 (m) (name) (e) oM Dc Ae) xr]) func78
theorem nW(m:Mo)(name:BA)(Ct:(Av m).length<=1048576):Pu 78 [.agg (Ci m),.str name] (.ret (.AE [.agg (Gn (Au AB name (Av m))),.bool (Bl AB name (Av m))])):=by
 unfold Bl Au
 by_cases h:ix AB name (Av m)<(Av m).length
 ·rw [iP h,decide_eq_true h]; exact A74 m name Ct _ (by rw [cI,iP h])
 ·rw [iN h,decide_eq_false h]; exact Ob.Ed (Wk.t (DD.c (Wk.a (kr (kn 1 (kn 2 (kn 3 (DD.r _)))))) (DD.r _))) (pu Ad (fun e=>[lp (S.mk [(0,.v (.agg (Ci m))),(1,vS name),(2,.lp 2 0),(4,.lp 4 0),(5,.v (.bool false)),(6,A1 0)] [(2,El m),(4,[vS Ah,.v .A4,.v .A4,.v .A4])] e) (@A73 (m) (name) (e) oM (by rw [cI,iN h])) xr]) func78)
theorem Abj(s:BA):Pu 150 [.A4,.str s] (rI (-1)):=
 pm Ad [kp,ur,bf false] func150
theorem rHa(s:BA):Pu 102 [.A4,.str s] (rB false):=
 pm Ad [cl (@Abj (s))] func102
abbrev Vi(m:Mo)(t:Tp)(xe:Ext)(ff:Tp->Int)(j:Int)   : S:=S.mk [(2,.v .A4),(3,.lp 3 0),(4,.lp 4 0),(6,A1 0),(9,A1 j)] [(3,El m),(4,Bj t)] xe
inductive FE where
 | e0 (el:Tp)
 | e1
def EH(ff:Tp->Int):List Tp->FE
 | []=>(FE.e1)
 | el::r=>(if ff el=0 then EH ff r  else (FE.e0 el))
def NT(m:Mo)(t:Tp)(xe:Ext)(ff:Tp->Int)  : FE->A5 × S
 | .e0 el=>(.ret,S.mk [(2,.v .A4),(3,.lp 3 0),(4,.lp 4 0),(6,A1 (ff el))] [(3,El m),(4,Bj t)] xe)
 | .e1=>(.exit 0,S.mk [(2,.v .A4),(3,.lp 3 0),(4,.lp 4 0),(6,A1 0)] [(3,El m),(4,Bj t)] xe)
theorem cJ(m:Mo)(t:Tp)(xe:Ext)(ff:Tp->Int)(Bg:∀w:Tp,w∈A8 t->Pu 58 [.agg (Ci m),.agg (Ay w),.A4] (.ret (.int .i64 (ff w))))(hN:(A8 t).length<=1000000000):(Ob.loop 58 (Ai f58 0) (Vi m t xe ff 0) (NT m t xe ff  (EH ff (List.drop 0 ((A8 t))))).1 (NT m t xe ff  (EH ff (List.drop 0 ((A8 t))))).2).ok prog:=by
 refine Ds ((A8 t).length) (fun j _=>Vi m t xe ff j) (fun i _=>EH ff (List.drop i ((A8 t)))) (NT m t xe ff) (fun i _=>True) kR ?_ () trivial
 rintro i u hi -
 rcases Nat.lt_or_ge i ((A8 t).length) with Ag | CO
 ·have hd:=AH Ag
  by_cases h0:ff (List.getD (A8 t) i default)=0
  ·exact lN Ad [sl (Tp.A0 (A8 t)),dt ((i:Int)<((A8 t).length:Int)),am ((0:Int)<=(i:Int)/\(i:Int)<((Tp.cs (A8 t)).length:Int)) (by (simp only [Tp.A0]; omega)),ar (List.getD (Tp.cs (A8 t)) (Int.toNat (i:Int)) []) (Ay (List.getD (A8 t) i default)) (by simp only [Int.toNat_natCast,Int.toNat_zero]; rw [@Tp.B5 (A8 t) (i) Ag]; try rfl),cl (@Bg (List.getD (A8 t) i default) (by simp_all [D2,DL,EG])),Bi h0,wr ((i:Int)+1)] Ag () trivial (by rw [hd,EH,iP h0])
  ·exact lX Ad [sl (Tp.A0 (A8 t)),dt ((i:Int)<((A8 t).length:Int)),am ((0:Int)<=(i:Int)/\(i:Int)<((Tp.cs (A8 t)).length:Int)) (by (simp only [Tp.A0]; omega)),ar (List.getD (Tp.cs (A8 t)) (Int.toNat (i:Int)) []) (Ay (List.getD (A8 t) i default)) (by simp only [Int.toNat_natCast,Int.toNat_zero]; rw [@Tp.B5 (A8 t) (i) Ag]; try rfl),cl (@Bg (List.getD (A8 t) i default) (by simp_all [D2,DL,EG])),Bv h0] (FE.e0 (List.getD ((A8 t)) i default)) (by rw [hd,EH,iN h0])
 ·have he:i=(A8 t).length:=by omega
  exact lX Ad [sl (Tp.A0 (A8 t)),df ((i:Int)<((A8 t).length:Int))] (FE.e1) (by rw [he,List.drop_length,EH])
theorem nX(m:Mo)(t:Tp)(xe:Ext)(ff:Tp->Int)(Bg:∀w:Tp,w∈A8 t->Pu 58 [.agg (Ci m),.agg (Ay w),.A4] (.ret (.int .i64 (ff w))))(hN:(A8 t).length<=1000000000)(p0:Tp)(At:(EH ff ((A8 t)))=(FE.e0 p0)):(Ob.loop 58 (Ai f58 0) (Vi m t xe ff 0) (NT m t xe ff  (FE.e0 p0)).1 (NT m t xe ff  (FE.e0 p0)).2).ok prog:=
 rz (cJ m t xe ff Bg hN) At
theorem nY(m:Mo)(t:Tp)(xe:Ext)(ff:Tp->Int)(Bg:∀w:Tp,w∈A8 t->Pu 58 [.agg (Ci m),.agg (Ay w),.A4] (.ret (.int .i64 (ff w))))(hN:(A8 t).length<=1000000000)(At:(EH ff ((A8 t)))=(FE.e1)):(Ob.loop 58 (Ai f58 0) (Vi m t xe ff 0) (NT m t xe ff  (FE.e1)).1 (NT m t xe ff  (FE.e1)).2).ok prog:=
 rz (cJ m t xe ff Bg hN) At
section
variable (m:Mo) (t:Tp) (ff:Tp->Int) (Ct:(Av m).length<=1048576) (Bg:∀w:Tp,w∈A8 t->Pu 58 [.agg (Ci m),.agg (Ay w),.A4] (.ret (.int .i64 (ff w)))) (hN:(A8 t).length<=1000000000)
include m t ff Ct Bg hN
theorem y7(Ac:AA t=4)(Ae:Bl AB (Af t) (Av m)=false):Pu 58 [.agg (Ci m),.agg (Ay t),.A4] (rI 5):=
 pm Ad [Bh Ac,cl (@nW (m) (Af t) Ct),B2 (B6 Ae)] func58
theorem y8(Ac:AA t=4)(Ae:Bl AB (Af t) (Av m)=true)(Ao:¬((Ek (Au AB (Af t) (Av m))).length:Int)=((A8 t).length:Int)):Pu 58 [.agg (Ci m),.agg (Ay t),.A4] (rI 13):=
 pm Ad [Bh Ac,cl (@nW (m) (Af t) Ct),AQ (AJ Ae),sl (A3 (Ek (Au AB (Af t) (Av m)))),sl (Tp.A0 (A8 t)),Bv Ao] func58
theorem y9(Ac:AA t=4)(Ae:Bl AB (Af t) (Av m)=true)(Ao:((Ek (Au AB (Af t) (Av m))).length:Int)=((A8 t).length:Int))(Tx:Tp)(B9:EH ff (A8 t)=FE.e0 Tx):Pu 58 [.agg (Ci m),.agg (Ay t),.A4] (rI (ff Tx)):=
 pu Ad (fun e=>[Bh Ac,cl (@nW (m) (Af t) Ct),AQ (AJ Ae),sl (A3 (Ek (Au AB (Af t) (Av m)))),sl (Tp.A0 (A8 t)),Bi Ao,rp 6 (en (AA t) 5),bf false,lp (S.mk [(0,.v (.agg (Ci m))),(1,.v (.agg (Ay t))),(2,.v .A4),(3,.lp 3 0),(4,.lp 4 0),(6,A1 0),(11,.lp 4 0),(12,A1 (AA t)),(13,.v (.bool (AA t==4))),(15,.v (.agg (Ci m))),(16,.lp 4 1),(17,vS (Af t)),(18,.v (.AE [.agg (Gn (Au AB (Af t) (Av m))),.bool (Bl AB (Af t) (Av m))])),(14,.v (.AE [.agg (Gn (Au AB (Af t) (Av m))),.bool (Bl AB (Af t) (Av m))])),(19,.v (.agg (Gn (Au AB (Af t) (Av m))))),(20,.v (.bool (Bl AB (Af t) (Av m)))),(7,.lp 7 0),(8,.v (.bool (Bl AB (Af t) (Av m)))),(21,.v (.bool (Bl AB (Af t) (Av m)))),(22,.v (.bool !Bl AB (Af t) (Av m))),(23,.lp 7 1),(24,vL 1 (A7 (Ek (Au AB (Af t) (Av m))))),(25,A1 ((Ek (Au AB (Af t) (Av m))).length:Int)),(26,.lp 4 2),(27,vL 9 (Tp.cs (A8 t))),(28,A1 ((A8 t).length:Int)),(29,.v (.bool (((Ek (Au AB (Af t) (Av m))).length:Int) != ((A8 t).length:Int)))),(30,.lp 4 0),(31,A1 (AA t)),(32,.v (.bool (AA t==5))),(33,.v (.bool (AA t==5))),(34,.v (.AE [])),(35,.v (.AE [])),(36,.v (.AE [])),(37,.v (.AE [])),(38,.v (.AE [])),(39,.v (.bool false)),(9,A1 0)] [(3,El m),(4,Bj t),(7,RP (Au AB (Af t) (Av m)))] e) (@nX (m) (t) (e) (ff) Bg hN Tx B9) xr]) func58
theorem yA(Ac:AA t=4)(Ae:Bl AB (Af t) (Av m)=true)(Ao:((Ek (Au AB (Af t) (Av m))).length:Int)=((A8 t).length:Int))(AK:EH ff (A8 t)=FE.e1):Pu 58 [.agg (Ci m),.agg (Ay t),.A4] (rI 0):=
 pu Ad (fun e=>[Bh Ac,cl (@nW (m) (Af t) Ct),AQ (AJ Ae),sl (A3 (Ek (Au AB (Af t) (Av m)))),sl (Tp.A0 (A8 t)),Bi Ao,rp 6 (en (AA t) 5),bf false,lp (S.mk [(0,.v (.agg (Ci m))),(1,.v (.agg (Ay t))),(2,.v .A4),(3,.lp 3 0),(4,.lp 4 0),(6,A1 0),(11,.lp 4 0),(12,A1 (AA t)),(13,.v (.bool (AA t==4))),(15,.v (.agg (Ci m))),(16,.lp 4 1),(17,vS (Af t)),(18,.v (.AE [.agg (Gn (Au AB (Af t) (Av m))),.bool (Bl AB (Af t) (Av m))])),(14,.v (.AE [.agg (Gn (Au AB (Af t) (Av m))),.bool (Bl AB (Af t) (Av m))])),(19,.v (.agg (Gn (Au AB (Af t) (Av m))))),(20,.v (.bool (Bl AB (Af t) (Av m)))),(7,.lp 7 0),(8,.v (.bool (Bl AB (Af t) (Av m)))),(21,.v (.bool (Bl AB (Af t) (Av m)))),(22,.v (.bool !Bl AB (Af t) (Av m))),(23,.lp 7 1),(24,vL 1 (A7 (Ek (Au AB (Af t) (Av m))))),(25,A1 ((Ek (Au AB (Af t) (Av m))).length:Int)),(26,.lp 4 2),(27,vL 9 (Tp.cs (A8 t))),(28,A1 ((A8 t).length:Int)),(29,.v (.bool (((Ek (Au AB (Af t) (Av m))).length:Int) != ((A8 t).length:Int)))),(30,.lp 4 0),(31,A1 (AA t)),(32,.v (.bool (AA t==5))),(33,.v (.bool (AA t==5))),(34,.v (.AE [])),(35,.v (.AE [])),(36,.v (.AE [])),(37,.v (.AE [])),(38,.v (.AE [])),(39,.v (.bool false)),(9,A1 0)] [(3,El m),(4,Bj t),(7,RP (Au AB (Af t) (Av m)))] e) (@nY (m) (t) (e) (ff) Bg hN AK) xr]) func58
theorem yB(Ac:¬AA t=4)(Ae:AA t=5):Pu 58 [.agg (Ci m),.agg (Ay t),.A4] (rI 5):=
 pm Ad [Aw Ac,rp 4 (Bh Ae),cl (@rHa (Af t)),rp 2 (Bh Ae),bt true] func58
theorem yC(Ac:¬AA t=4)(Ae:¬AA t=5)(Qw:Tp)(AK:EH ff (A8 t)=FE.e0 Qw):Pu 58 [.agg (Ci m),.agg (Ay t),.A4] (rI (ff Qw)):=
 pu Ad (fun e=>[Aw Ac,rp 6 (Aw Ae),bf false,lp (S.mk [(0,.v (.agg (Ci m))),(1,.v (.agg (Ay t))),(2,.v .A4),(3,.lp 3 0),(4,.lp 4 0),(6,A1 0),(11,.lp 4 0),(12,A1 (AA t)),(13,.v (.bool (AA t==4))),(30,.lp 4 0),(31,A1 (AA t)),(32,.v (.bool (AA t==5))),(33,.v (.bool (AA t==5))),(34,.v (.AE [])),(35,.v (.AE [])),(36,.v (.AE [])),(37,.v (.AE [])),(38,.v (.AE [])),(39,.v (.bool false)),(9,A1 0)] [(3,El m),(4,Bj t)] e) (@nX (m) (t) (e) (ff) Bg hN Qw AK) xr]) func58
theorem yD(Ac:¬AA t=4)(Ae:¬AA t=5)(Ao:EH ff (A8 t)=FE.e1):Pu 58 [.agg (Ci m),.agg (Ay t),.A4] (rI 0):=
 pu Ad (fun e=>[Aw Ac,rp 6 (Aw Ae),bf false,lp (S.mk [(0,.v (.agg (Ci m))),(1,.v (.agg (Ay t))),(2,.v .A4),(3,.lp 3 0),(4,.lp 4 0),(6,A1 0),(11,.lp 4 0),(12,A1 (AA t)),(13,.v (.bool (AA t==4))),(30,.lp 4 0),(31,A1 (AA t)),(32,.v (.bool (AA t==5))),(33,.v (.bool (AA t==5))),(34,.v (.AE [])),(35,.v (.AE [])),(36,.v (.AE [])),(37,.v (.AE [])),(38,.v (.AE [])),(39,.v (.bool false)),(9,A1 0)] [(3,El m),(4,Bj t)] e) (@nY (m) (t) (e) (ff) Bg hN Ao) xr]) func58
end
theorem cK(ff:Tp->Int):∀l:List Tp,(BX ff l=0->EH ff l = .e1)/\(¬BX ff l=0->∃w,EH ff l = .e0 w/\ff w=BX ff l)
 | []=>⟨fun _=>rfl,fun h=>absurd rfl h⟩
 | c::r=>by
  have ih:=cK ff r
  by_cases hp:ff c=0
  ·simp only [BX,EH,hp,if_true]; exact ih
  ·simp only [BX,EH,hp,if_false]
   exact ⟨fun h=>h.elim,fun _=>⟨c,rfl,rfl⟩⟩
theorem cL(m:Mo)(Ct:(Av m).length<=1048576):∀ (d:Nat) (t:Tp),A6 (Ay t)<d->d<=100000001->Pu 58 [.agg (Ci m),.agg (Ay t),.A4] (.ret (.int .i64 (X2 m d t)))
 | 0,_,h,_=>by omega
 | d+1,t,h,hd=>by
  have h1:=BM t
  have h3:=Tp.BT (A8 t)
  have hk:∀w:Tp,w∈A8 t->Pu 58 [.agg (Ci m),.agg (Ay w),.A4] (.ret (.int .i64 (X2 m d w))):=fun w hw=>cL m Ct d w (by have:=Tp.mem hw; omega) oM
  have tail:∀ (h0:∀w,EH (X2 m d) (A8 t) = .e0 w->Pu 58 [.agg (Ci m),.agg (Ay t),.A4] (.ret (.int .i64 (X2 m d w)))) (h1:EH (X2 m d) (A8 t) = .e1->Pu 58 [.agg (Ci m),.agg (Ay t),.A4] (.ret (.int .i64 0))),Pu 58 [.agg (Ci m),.agg (Ay t),.A4] (.ret (.int .i64 (BX (X2 m d) (A8 t)))):=by
   intro h0 h1
   by_cases h5:BX (X2 m d) (A8 t)=0
   ·rw [h5]; exact h1 ((cK _ _).1 h5)
   ·obtain ⟨w,e1,e2⟩:=(cK _ _).2 h5
    rw [<-e2]; exact h0 w e1
  rw [X2]
  unfold J5
  by_cases h5:AA t=5
  ·rw [iP h5]; exact yB m t _ Ct hk oM oM h5
  ·rw [iN h5]
   by_cases h4:AA t=4
   ·rw [iP h4]
    by_cases hb:Bl AB (Af t) (Av m)=false
    ·rw [iP hb]; exact y7 m t _ Ct hk oM h4 hb
    ·rw [iN hb]
     have GY:=Jq hb
     by_cases hl:((A8 t).length:Int)=((Ek (Au AB (Af t) (Av m))).length:Int)
     ·rw [iP hl]; exact tail (y9 m t _ Ct hk oM h4 GY hl.symm) (yA m t _ Ct hk oM h4 GY hl.symm)
     ·rw [iN hl]; exact y8 m t _ Ct hk oM h4 GY fun e=>hl e.symm
   ·rw [iN h4]; exact tail (yC m t _ Ct hk oM h4 h5) (yD m t _ Ct hk oM h4 h5)
theorem Abk(m:Mo)(t:Tp)(Ct:(Av m).length<=1048576)(hs:A6 (Ay t)<=10000000):Pu 58 [.agg (Ci m),.agg (Ay t),.A4] (.ret (.int .i64 (y5 m t))):=cL m Ct (A6 (Ay t)+1) t oM oM
theorem nZ(t:Tp)(hs:A6 (Ay t)<=10000000):Pu 57 [.agg (Ay t)] (.ret (.int .i64 (Ee t))):=x6 t oM
def K3(m:Mo)(t:Tp):Int:=(if Ee t=0 then (y5 m t) else (Ee t))
theorem r3t(m:Mo)(t:Tp)(Ct:(Av m).length<=1048576)(hs:A6 (Ay t)<=10000000):Pu 19 [.agg (Ci m),.agg (Ay t),.A4] (rI (K3 m t)):=by
 by_cases h0:Ee t=0
 ·simp only [K3,iP h0]; exact pm Ad [cl (@nZ (t) hs),Bi h0,cl (@Abk (m) (t) Ct hs)] func19
 ·simp only [K3,iN h0]; exact pm Ad [cl (@nZ (t) hs),Bv h0] func19
abbrev NU(v:Nv)(name:BA)(j:Int)(e:Ext):S:=S.mk [(1,vS name),(2,.lp 2 0),(6,A1 j)] [(2,CT v)] e
section
variable (v:Nv) (name:BA) (i:Nat) (e:Ext) (hi:i<(AS v).length) (hN:(AS v).length<=1000000000)
include v name i e hi hN
theorem yE(Ac:BP (List.getD (AS v) i default)=name)(cx:Cx)(Ar:cx.n=29){Q:A5->S->Prop}(hq:Q (.ret) (S.mk [(1,vS name),(2,.lp 2 0),(6,A1 (i:Int)),(4,vS (Fe (List.getD (AS v) i default))),(5,.v (.bool true))] [(2,CT v)] e)):PW prog cx (Ai f145 0) (NU v name (i:Int) e) Q:=
 pw Ad 29 [bt true,am ((0:Int)<=(i:Int)/\(i:Int)<((Vr.cs (AS v)).length:Int)) (by (simp only [Vr.A0]; omega)),eY (AS v) i hi,bt (ByteArray.toList (BP (List.getD (AS v) i default))==ByteArray.toList name) (BL Ac),am ((0:Int)<=(i:Int)/\(i:Int)<((Vr.cs (AS v)).length:Int)) (by (simp only [Vr.A0]; omega)),eY (AS v) i hi] [1,2,6,4,5] [2] Ar hq
theorem yF(Ac:¬BP (List.getD (AS v) i default)=name)(cx:Cx)(Ar:cx.n=29){Q:A5->S->Prop}(hq:Q (.normal) (S.mk [(1,vS name),(2,.lp 2 0),(6,A1 ((i:Int) - 1))] [(2,CT v)] e)):PW prog cx (Ai f145 0) (NU v name (i:Int) e) Q:=
 pw Ad 29 [bt true,am ((0:Int)<=(i:Int)/\(i:Int)<((Vr.cs (AS v)).length:Int)) (by (simp only [Vr.A0]; omega)),eY (AS v) i hi,bf (ByteArray.toList (BP (List.getD (AS v) i default))==ByteArray.toList name) (BZ Ac),wr ((i:Int) - 1)] [1,2,6,4,5] [2] Ar hq
end
theorem yG(v:Nv)(name:BA)(i:Nat)(e:Ext)(hi:i=0)(hN:(AS v).length<=1000000000)(cx:Cx)(Ar:cx.n=29){Q:A5->S->Prop}(hq:Q (.exit 0) (S.mk [(1,vS name),(2,.lp 2 0),(6,A1 (-1))] [(2,CT v)] e)):PW prog cx (Ai f145 0) (NU v name (-1) e) Q:=
 pw Ad 29 [bf false] [1,2,6,4,5] [2] Ar hq
inductive GP where
 | e0 (el:Vr)
 | e1
def EI(name:BA):List Vr->GP
 | []=>(GP.e1)
 | el::r=>(if BP el=name then (GP.e0 el) else EI name r)
def NV(v:Nv)(name:BA)(e:Ext):GP->A5 × S
 | .e0 el=>(.ret,S.mk [(1,vS name),(2,.lp 2 0),(4,vS (Fe el)),(5,.v (.bool true))] [(2,CT v)] e)
 | .e1=>(.exit 0,S.mk [(1,vS name),(2,.lp 2 0)] [(2,CT v)] e)
theorem cM(v:Nv)(name:BA)(e:Ext)(hN:(AS v).length<=1000000000)(i:Nat)(Oi:i<=(AS v).length)  : (Ob.loop 29 (Ai f145 0) (NU v name ((i:Int) - 1)  e) (NV v name e (EI name (List.reverse (List.take i ((AS v)))))).1 (NV v name e (EI name (List.reverse (List.take i ((AS v)))))).2).ok prog:=by
 refine Ob.Jg (P:=prog) (α:={ zz:Nat × Unit // zz.1<=(AS v).length }) (fun zz=>NU v name ((zz.1.1:Int) - 1)  e) (fun zz=>zz.1.1) (fun zz=>(NV v name e (EI name (List.reverse (List.take zz.1.1 ((AS v))))))) ?_ ⟨(i,()),Oi⟩
 clear Oi
 clear  i
 rintro ⟨⟨i,u⟩,hi⟩ cx Ar
 simp only at hi  ⊢
 rcases i with _ | i
 ·rw [show (((0:Nat):Int) - 1) = -1 from rfl]
  have hr:(EI name (List.reverse (List.take 0 ((AS v)))))=(GP.e1):=by rw [List.take_zero,List.reverse_nil,EI]
  refine yG v name 0  e rfl hN   cx Ar (.inr ?_)
  rw [hr]
  exact ⟨by simp,rfl,xr⟩
 ·have Ag:i<(AS v).length:=by omega
  have hd:=LL Ag
  rw [show (((i+1:Nat):Int) - 1)=(i:Int) by omega]
  by_cases h0:BP (List.getD (AS v) i default)=name
  ·have hr:(EI name (List.reverse (List.take (i+1) ((AS v)))))=(GP.e0 (List.getD ((AS v)) i default)):=by rw [hd,EI,iP h0]
   refine yE v name i  e Ag hN  h0 cx Ar (.inr ?_)
   rw [hr]
   exact ⟨by simp,rfl,xr⟩
  ·have hr:(EI name (List.reverse (List.take (i+1) ((AS v)))))=(EI name (List.reverse (List.take i ((AS v))))):=by rw [hd,EI,iN h0]
   exact yF v name i  e Ag hN  h0 cx Ar (.inl ⟨rfl,⟨(i,()),by simp only; omega⟩,by simp only; omega,xr,by simp only; rw [hr]⟩)
theorem A75(v:Nv)(name:BA)(e:Ext)(hN:(AS v).length<=1000000000)(p0:Vr)(At:(EI name (List.reverse ((AS v))))=(GP.e0 p0)):(Ob.loop 29 (Ai f145 0) (NU v name (((AS v).length:Int) - 1)  e) (NV v name e (GP.e0 p0)).1 (NV v name e (GP.e0 p0)).2).ok prog:=by
 have:=cM v name e hN ((AS v).length)  (Nat.le_refl _)
 rw [List.take_length] at this
 rw [At] at this
 exact this
theorem A76(v:Nv)(name:BA)(e:Ext)(hN:(AS v).length<=1000000000)(At:(EI name (List.reverse ((AS v))))=(GP.e1)):(Ob.loop 29 (Ai f145 0) (NU v name (((AS v).length:Int) - 1)  e) (NV v name e (GP.e1)).1 (NV v name e (GP.e1)).2).ok prog:=by
 have:=cM v name e hN ((AS v).length)  (Nat.le_refl _)
 rw [List.take_length] at this
 rw [At] at this
 exact this
section
variable (v:Nv) (name:BA) (hN:(AS v).length<=1000000000)
include v name hN
theorem yH(Dc:Vr)(Ae:EI name (List.reverse (AS v))=GP.e0 Dc):Pu 145 [.agg (Bd v),.str name] (.ret (.AE [.str (Fe Dc),.bool true])):=
 pu Ad (fun e=>[sl (Vr.A0 (AS v)),wr (((AS v).length:Int) - 1),lp (S.mk [(0,.v (.agg (Bd v))),(1,vS name),(2,.lp 2 0),(4,vS Ah),(5,.v (.bool false)),(7,.lp 2 0),(8,vL 2 (Vr.cs (AS v))),(9,A1 ((AS v).length:Int)),(10,A1 (((AS v).length:Int) - 1)),(6,A1 (((AS v).length:Int) - 1))] [(2,CT v)] e) (@A75 (v) (name) (e) hN Dc Ae) xr]) func145
theorem yI(Ac:EI name (List.reverse (AS v))=GP.e1):Pu 145 [.agg (Bd v),.str name] (.ret (.AE [.str Ah,.bool false])):=
 pu Ad (fun e=>[sl (Vr.A0 (AS v)),wr (((AS v).length:Int) - 1),lp (S.mk [(0,.v (.agg (Bd v))),(1,vS name),(2,.lp 2 0),(4,vS Ah),(5,.v (.bool false)),(7,.lp 2 0),(8,vL 2 (Vr.cs (AS v))),(9,A1 ((AS v).length:Int)),(10,A1 (((AS v).length:Int) - 1)),(6,A1 (((AS v).length:Int) - 1))] [(2,CT v)] e) (@A76 (v) (name) (e) hN Ac) xr]) func145
end
abbrev Vj(v:Nv)(name:BA)(j:Int)(e:Ext):S:=S.mk [(1,vS name),(2,.lp 2 0),(4,.lp 4 0),(6,A1 j)] [(2,CT v),(4,[vS Ah,.v .A4,vS Ah])] e
inductive GQ where
 | e0 (el:Sy)
 | e1
def G7(name:BA):List Sy->GQ
 | []=>(GQ.e1)
 | el::r=>(if DT el=name then (GQ.e0 el) else G7 name r)
def NW(v:Nv)(name:BA)(e:Ext):GQ->A5 × S
 | .e0 el=>(.ret,S.mk [(1,vS name),(2,.lp 2 0),(4,.lp 4 0),(5,.v (.bool true))] [(2,CT v),(4,rP el)] e)
 | .e1=>(.exit 0,S.mk [(1,vS name),(2,.lp 2 0),(4,.lp 4 0)] [(2,CT v),(4,[vS Ah,.v .A4,vS Ah])] e)
theorem cN(v:Nv)(name:BA)(DV:¬name=ByteArray.mk #[116,97,103])(Jh:¬name=ByteArray.mk #[118,97,108])(e:Ext)(hN:(By v).length<=1000000000):(Ob.loop 35 (Ai f188 0) (Vj v name 0  e) (NW v name e (G7 name (List.drop 0 ((By v))))).1 (NW v name e (G7 name (List.drop 0 ((By v))))).2).ok prog:=by
 refine Ds ((By v).length) (fun j _=>Vj v name j  e) (fun i _=>G7 name (List.drop i ((By v)))) (NW v name e) (fun i _=>True) kR ?_ () trivial
 rintro i u hi -
 rcases Nat.lt_or_ge i ((By v).length) with Ag | CO
 ·have hd:=AH Ag
  by_cases h0:DT (List.getD (By v) i default)=name
  ·exact lX Ad [sl (Sy.A0 (By v)),dt ((i:Int)<((By v).length:Int)),am ((0:Int)<=(i:Int)/\(i:Int)<((Sy.cs (By v)).length:Int)) (by (simp only [Sy.A0]; omega)),Wv (By v) i Ag,bt (ByteArray.toList (DT (List.getD (By v) i default))==ByteArray.toList name) (BL h0),am ((0:Int)<=(i:Int)/\(i:Int)<((Sy.cs (By v)).length:Int)) (by (simp only [Sy.A0]; omega)),Wv (By v) i Ag] (GQ.e0 (List.getD ((By v)) i default)) (by rw [hd,G7,iP h0])
  ·exact lN Ad [sl (Sy.A0 (By v)),dt ((i:Int)<((By v).length:Int)),am ((0:Int)<=(i:Int)/\(i:Int)<((Sy.cs (By v)).length:Int)) (by (simp only [Sy.A0]; omega)),Wv (By v) i Ag,bf (ByteArray.toList (DT (List.getD (By v) i default))==ByteArray.toList name) (BZ h0),wr ((i:Int)+1)] Ag () trivial (by rw [hd,G7,iN h0])
 ·have he:i=(By v).length:=by omega
  exact lX Ad [sl (Sy.A0 (By v)),df ((i:Int)<((By v).length:Int))] (GQ.e1) (by rw [he,List.drop_length,G7])
theorem A77(v:Nv)(name:BA)(DV:¬name=ByteArray.mk #[116,97,103])(Jh:¬name=ByteArray.mk #[118,97,108])(e:Ext)(hN:(By v).length<=1000000000)(p0:Sy)(At:(G7 name ((By v)))=(GQ.e0 p0)):(Ob.loop 35 (Ai f188 0) (Vj v name 0  e) (NW v name e (GQ.e0 p0)).1 (NW v name e (GQ.e0 p0)).2).ok prog:=
 rz (cN v name DV Jh e hN) At
theorem A78(v:Nv)(name:BA)(DV:¬name=ByteArray.mk #[116,97,103])(Jh:¬name=ByteArray.mk #[118,97,108])(e:Ext)(hN:(By v).length<=1000000000)(At:(G7 name ((By v)))=(GQ.e1)):(Ob.loop 35 (Ai f188 0) (Vj v name 0  e) (NW v name e (GQ.e1)).1 (NW v name e (GQ.e1)).2).ok prog:=
 rz (cN v name DV Jh e hN) At
theorem yJ(v:Nv)(name:BA)(hN:(By v).length<=1000000000)(Ac:name=ByteArray.mk #[116,97,103]):Pu 188 [.agg (Bd v),.str name] (.ret (.AE [.agg [.str (ByteArray.mk #[116,97,103]),.sl 1 [],.str (ByteArray.mk #[73,110,116])],.bool true])):=
 Ob.Ed (Wk.t (DD.c (Wk.a (kr (kn 1 (DD.r _)))) (DD.r _))) (pm Ad [bt (ByteArray.toList name==ByteArray.toList (ByteArray.mk #[116,97,103])) (BL Ac)] func188)
section
variable (v:Nv) (name:BA) (hN:(By v).length<=1000000000) (Ac:¬name=ByteArray.mk #[116,97,103])
include v name hN Ac
theorem yK(Ae:name=ByteArray.mk #[118,97,108]):Pu 188 [.agg (Bd v),.str name] (.ret (.AE [.agg [.str (ByteArray.mk #[118,97,108]),.sl 1 [[.str (ByteArray.mk #[67,101,108,108])]],.str (ByteArray.mk #[73,110,116])],.bool true])):=
 pm Ad [bf (ByteArray.toList name==ByteArray.toList (ByteArray.mk #[116,97,103])) (BZ Ac),bt (ByteArray.toList name==ByteArray.toList (ByteArray.mk #[118,97,108])) (BL Ae)] func188
theorem yL(Ae:¬name=ByteArray.mk #[118,97,108])(Qw:Sy)(AK:G7 name (By v)=GQ.e0 Qw):Pu 188 [.agg (Bd v),.str name] (.ret (.AE [.agg (Hx Qw),.bool true])):=
 pu Ad (fun e=>[bf (ByteArray.toList name==ByteArray.toList (ByteArray.mk #[116,97,103])) (BZ Ac),bf (ByteArray.toList name==ByteArray.toList (ByteArray.mk #[118,97,108])) (BZ Ae),lp (S.mk [(0,.v (.agg (Bd v))),(1,vS name),(2,.lp 2 0),(4,.lp 4 0),(5,.v (.bool false)),(7,vS name),(8,.v (.bool (ByteArray.toList name==ByteArray.toList (ByteArray.mk #[116,97,103])))),(10,vS name),(11,.v (.bool (ByteArray.toList name==ByteArray.toList (ByteArray.mk #[118,97,108])))),(6,A1 0)] [(2,CT v),(4,[vS Ah,.v .A4,vS Ah])] e) (@A77 (v) (name) Ac Ae (e) hN Qw AK) xr]) func188
end
theorem yM(v:Nv)(name:BA)(hN:(By v).length<=1000000000)(Ac:¬name=ByteArray.mk #[116,97,103])(Ae:¬name=ByteArray.mk #[118,97,108])(Ao:G7 name (By v)=GQ.e1):Pu 188 [.agg (Bd v),.str name] (.ret (.AE [.agg [.str Ah,.sl 1 [],.str Ah],.bool false])):=
 Ob.Ed (Wk.t (DD.c (Wk.a (kr (kn 1 (DD.r _)))) (DD.r _))) (pu Ad (fun e=>[bf (ByteArray.toList name==ByteArray.toList (ByteArray.mk #[116,97,103])) (BZ Ac),bf (ByteArray.toList name==ByteArray.toList (ByteArray.mk #[118,97,108])) (BZ Ae),lp (S.mk [(0,.v (.agg (Bd v))),(1,vS name),(2,.lp 2 0),(4,.lp 4 0),(5,.v (.bool false)),(7,vS name),(8,.v (.bool (ByteArray.toList name==ByteArray.toList (ByteArray.mk #[116,97,103])))),(10,vS name),(11,.v (.bool (ByteArray.toList name==ByteArray.toList (ByteArray.mk #[118,97,108])))),(6,A1 0)] [(2,CT v),(4,[vS Ah,.v .A4,vS Ah])] e) (@A78 (v) (name) Ac Ae (e) hN Ao) xr]) func188)
abbrev Vk(v:Nv)(name:BA)(j:Int)(e:Ext):S:=S.mk [(1,vS name),(2,.lp 2 0),(4,.lp 4 0),(6,A1 j)] [(2,CT v),(4,[vS Ah,.v .A4])] e
inductive GR where
 | e0 (el:Ho)
 | e1
def G8(name:BA):List Ho->GR
 | []=>(GR.e1)
 | el::r=>(if AP el=name then (GR.e0 el) else G8 name r)
def NX(v:Nv)(name:BA)(e:Ext):GR->A5 × S
 | .e0 el=>(.ret,S.mk [(1,vS name),(2,.lp 2 0),(4,.lp 4 0),(5,.v (.bool true))] [(2,CT v),(4,WX el)] e)
 | .e1=>(.exit 0,S.mk [(1,vS name),(2,.lp 2 0),(4,.lp 4 0)] [(2,CT v),(4,[vS Ah,.v .A4])] e)
theorem cO(v:Nv)(name:BA)(e:Ext)(hN:(AU v).length<=1000000000):(Ob.loop 28 (Ai f190 0) (Vk v name 0  e) (NX v name e (G8 name (List.drop 0 ((AU v))))).1 (NX v name e (G8 name (List.drop 0 ((AU v))))).2).ok prog:=by
 refine Ds ((AU v).length) (fun j _=>Vk v name j  e) (fun i _=>G8 name (List.drop i ((AU v)))) (NX v name e) (fun i _=>True) kR ?_ () trivial
 rintro i u hi -
 rcases Nat.lt_or_ge i ((AU v).length) with Ag | CO
 ·have hd:=AH Ag
  by_cases h0:AP (List.getD (AU v) i default)=name
  ·exact lX Ad [sl (Ho.A0 (AU v)),dt ((i:Int)<((AU v).length:Int)),am ((0:Int)<=(i:Int)/\(i:Int)<((Ho.cs (AU v)).length:Int)) (by (simp only [Ho.A0]; omega)),xHo (AU v) i Ag,bt (ByteArray.toList (AP (List.getD (AU v) i default))==ByteArray.toList name) (BL h0),am ((0:Int)<=(i:Int)/\(i:Int)<((Ho.cs (AU v)).length:Int)) (by (simp only [Ho.A0]; omega)),xHo (AU v) i Ag] (GR.e0 (List.getD ((AU v)) i default)) (by rw [hd,G8,iP h0])
  ·exact lN Ad [sl (Ho.A0 (AU v)),dt ((i:Int)<((AU v).length:Int)),am ((0:Int)<=(i:Int)/\(i:Int)<((Ho.cs (AU v)).length:Int)) (by (simp only [Ho.A0]; omega)),xHo (AU v) i Ag,bf (ByteArray.toList (AP (List.getD (AU v) i default))==ByteArray.toList name) (BZ h0),wr ((i:Int)+1)] Ag () trivial (by rw [hd,G8,iN h0])
 ·have he:i=(AU v).length:=by omega
  exact lX Ad [sl (Ho.A0 (AU v)),df ((i:Int)<((AU v).length:Int))] (GR.e1) (by rw [he,List.drop_length,G8])
theorem A79(v:Nv)(name:BA)(e:Ext)(hN:(AU v).length<=1000000000)(p0:Ho)(At:(G8 name ((AU v)))=(GR.e0 p0)):(Ob.loop 28 (Ai f190 0) (Vk v name 0  e) (NX v name e (GR.e0 p0)).1 (NX v name e (GR.e0 p0)).2).ok prog:=
 rz (cO v name e hN) At
theorem A7a(v:Nv)(name:BA)(e:Ext)(hN:(AU v).length<=1000000000)(At:(G8 name ((AU v)))=(GR.e1)):(Ob.loop 28 (Ai f190 0) (Vk v name 0  e) (NX v name e (GR.e1)).1 (NX v name e (GR.e1)).2).ok prog:=
 rz (cO v name e hN) At
theorem yN(v:Nv)(name:BA)(hN:(AU v).length<=1000000000)(Dc:Ho)(Ae:G8 name (AU v)=GR.e0 Dc):Pu 190 [.agg (Bd v),.str name] (.ret (.AE [.agg (JV Dc),.bool true])):=
 pu Ad (fun e=>[lp (S.mk [(0,.v (.agg (Bd v))),(1,vS name),(2,.lp 2 0),(4,.lp 4 0),(5,.v (.bool false)),(6,A1 0)] [(2,CT v),(4,[vS Ah,.v .A4])] e) (@A79 (v) (name) (e) hN Dc Ae) xr]) func190
theorem yO(v:Nv)(name:BA)(hN:(AU v).length<=1000000000)(Ac:G8 name (AU v)=GR.e1):Pu 190 [.agg (Bd v),.str name] (.ret (.AE [.agg [.str Ah,.sl 2 []],.bool false])):=
 Ob.Ed (Wk.t (DD.c (Wk.a (kr (kn 2 (DD.r _)))) (DD.r _))) (pu Ad (fun e=>[lp (S.mk [(0,.v (.agg (Bd v))),(1,vS name),(2,.lp 2 0),(4,.lp 4 0),(5,.v (.bool false)),(6,A1 0)] [(2,CT v),(4,[vS Ah,.v .A4])] e) (@A7a (v) (name) (e) hN Ac) xr]) func190)
def K4(t:Tp):BA:=(if AA t=1 then (ByteArray.mk #[73,110,116]) else (if AA t=2 then (ByteArray.mk #[66,111,111,108]) else (if AA t=3 then (ByteArray.mk #[67,101,108,108]) else (if AA t=4 then (if ((A8 t).length:Int)=0 then (Af t) else Ah) else Ah))))
def K5(t:Tp):Bool:=(if AA t=1 then true else (if AA t=2 then true else (if AA t=3 then true else (if AA t=4 then (if ((A8 t).length:Int)=0 then true else false) else false))))
theorem rOf(t:Tp):Pu 96 [.agg (Ay t)] (.ret (.AE [.str (K4 t),.bool (K5 t)])):=by
 by_cases h0:AA t=1
 ·simp only [K4,K5,iP h0]; exact pm Ad [Bh h0] func96
 ·by_cases h1:AA t=2
  ·simp only [K4,K5,iN h0,iP h1]; exact pm Ad [Aw h0,Bh h1] func96
  ·by_cases h2:AA t=3
   ·simp only [K4,K5,iN h0,iN h1,iP h2]; exact pm Ad [Aw h0,Aw h1,Bh h2] func96
   ·by_cases h3:AA t=4
    ·by_cases h4:((A8 t).length:Int)=0
     ·simp only [K4,K5,iN h0,iN h1,iN h2,iP h3,iP h4]; exact pm Ad [Aw h0,Aw h1,Aw h2,Bh h3,sl (Tp.A0 (A8 t)),Bh h4] func96
     ·simp only [K4,K5,iN h0,iN h1,iN h2,iP h3,iN h4]; exact pm Ad [Aw h0,Aw h1,Aw h2,Bh h3,sl (Tp.A0 (A8 t)),Aw h4] func96
    ·simp only [K4,K5,iN h0,iN h1,iN h2,iN h3]; exact pm Ad [Aw h0,Aw h1,Aw h2,Aw h3] func96
abbrev o7(l:List Vr)(u:Vr)(j:Int)(out:List Vr)(e:Ext):S:=S.mk [(0,vL 2 (Vr.cs l)),(3,.lp 3 0),(4,.v .A4),(5,.uniq 104 2 (Vr.cs out)),(6,A1 j)] [(3,Oz u)] e
def FF(u:Vr):List Vr->(List Vr)->(List Vr)
 | [],out=>(out)
 | el::r,out=>(if BP el=BP u then FF u r (out) else FF u r (out++[el]))
def cP(l:List Vr)(u:Vr)(e:Ext)(p:(List Vr)):A5 × S:=(.exit 0,S.mk [(0,vL 2 (Vr.cs l)),(3,.lp 3 0),(4,.v .A4),(5,.uniq 104 2 (Vr.cs p))] [(3,Oz u)] e)
theorem rad(l:List Vr)(u:Vr)(out:List Vr)(e:Ext)(hN:l.length<=1000000000)(hv:List.length out<=0):(Ob.loop 32 (Ai f129 0) (o7 l u 0 out e) (cP l u e (FF u (l)  out)).1 (cP l u e (FF u (l)  out)).2).ok prog:=by
 refine Ds l.length (fun j out=>o7 l u j out e) (fun i out=>FF u (List.drop i (l))  out) (cP l u e) (fun i out=>(out.length<=i)) kR ?_ out (by first | exact hv | omega)
 rintro i out hi hv
 try simp only at hv
 rcases Nat.lt_or_ge i (l.length) with Ag | CO
 ·have hd:=AH Ag
  by_cases h0:BP (List.getD l i default)=BP u
  ·exact lN Ad [sl (Vr.A0 l),dt ((i:Int)<(l.length:Int)),am ((0:Int)<=(i:Int)/\(i:Int)<((Vr.cs l).length:Int)) (by (simp only [Vr.A0]; omega)),eY l i Ag,bf (!ByteArray.toList (BP (List.getD l i default))==ByteArray.toList (BP u)) (AJ (BL h0)),wr ((i:Int)+1)] Ag (out) (by first | assumption | omega | (apply nF <;> first | assumption | omega | decide) | (apply nG <;> first | assumption | omega | decide) | (simp only [List.length_append,List.length_cons,List.length_nil] at *; omega) | simp_all) (by rw [hd,FF,iP h0])
  ·exact lS Ad [sl (Vr.A0 l),dt ((i:Int)<(l.length:Int)),am ((0:Int)<=(i:Int)/\(i:Int)<((Vr.cs l).length:Int)) (by (simp only [Vr.A0]; omega)),eY l i Ag,bt (!ByteArray.toList (BP (List.getD l i default))==ByteArray.toList (BP u)) (B6 (BZ h0)),am ((0:Int)<=(i:Int)/\(i:Int)<((Vr.cs l).length:Int)) (by (simp only [Vr.A0]; omega)),eY l i Ag,am (List.length (Vr.cs out++(fun x=>Prod.snd x) (1+1,[List.take ((fun x=>TypeInfo.size x) (Tables.types (Program.toTables prog))[104]) (List.drop 0 (Fo (List.getD l i default)))])) * (31+1)<=140737488355328) (by (simp only [List.length_append,List.length_cons,List.length_nil,Vr.A0]; omega)),wr ((i:Int)+1)] [0,3,4,5,6] [3] Ag (out++[List.getD l i default]) (S.mk [(0,vL 2 (Vr.cs l)),(3,.lp 3 0),(4,.v .A4),(5,.uniq 104 2 (Vr.cs out++[List.take (TypeInfo.size (Tables.types (Program.toTables prog))[104]) (List.drop 0 (Fo (List.getD l i default)))])),(6,A1 ((i:Int)+1))] [(3,Oz u)] e) ⟨⟨W,W,W,(.inl (by first | (simp only [List.nil_append,AX,AM,Pr.A2,Tp.A2,Ex.A2,Vr.A2,Df.A2]; done) | (simp only [List.nil_append,AX,AM,Pr.A2,Tp.A2,Ex.A2,Vr.A2,Df.A2]; rfl))),W,An⟩,⟨Ws,An⟩,rfl⟩ (by first | assumption | omega | (apply nF <;> first | assumption | omega | decide) | (apply nG <;> first | assumption | omega | decide) | (simp only [List.length_append,List.length_cons,List.length_nil] at *; omega) | simp_all) (by rw [hd,FF,iN h0])
 ·have he:i=l.length:=by omega
  exact lX Ad [sl (Vr.A0 l),df ((i:Int)<(l.length:Int))] (out) (by rw [he,List.drop_length,FF])
abbrev Vl(a:List BA)(b:List BA)(j:Int)(e:Ext):S:=S.mk [(0,vL 1 (A7 a)),(1,vL 1 (A7 b)),(5,A1 j)] [] e
inductive Im where
 | e0
 | e1
def HP(b:List BA):List BA->Nat->Im
 | [],i=>(Im.e1)
 | el::r,i=>(if el=List.getD b i Ah then HP b r (i+1)  else (Im.e0))
def NY(a:List BA)(b:List BA)(e:Ext):Im->A5 × S
 | .e0=>(.ret,S.mk [(0,vL 1 (A7 a)),(1,vL 1 (A7 b)),(4,.v (.bool false))] [] e)
 | .e1=>(.exit 0,S.mk [(0,vL 1 (A7 a)),(1,vL 1 (A7 b))] [] e)
theorem cQ(a b:List BA)(Uh:(a.length:Int)=(b.length:Int))(e:Ext)(hN:a.length<=1000000000):(Ob.loop 26 (Ai f189 0) (Vl a b 0  e) (NY a b e (HP b (List.drop 0 (a)) 0)).1 (NY a b e (HP b (List.drop 0 (a)) 0)).2).ok prog:=by
 refine Ds a.length (fun j _=>Vl a b j  e) (fun i _=>HP b (List.drop i (a)) i) (NY a b e) (fun i _=>True) kR ?_ () trivial
 rintro i u hi -
 rcases Nat.lt_or_ge i (a.length) with Ag | CO
 ·have hd:=CL Ag
  by_cases h0:List.getD a i Ah=List.getD b i Ah
  ·exact lN Ad [sl (A3 a),dt ((i:Int)<(a.length:Int)),am ((0:Int)<=(i:Int)/\(i:Int)<((A7 a).length:Int)) (by (simp only [A3]; omega)),F5 a i Ag,am ((0:Int)<=(i:Int)/\(i:Int)<((A7 b).length:Int)) (by (simp only [A3]; omega)),F5 b i,bf (!ByteArray.toList (List.getD a i Ah)==ByteArray.toList (List.getD b i Ah)) (AJ (BL h0)),wr ((i:Int)+1)] Ag () trivial (by rw [hd,HP,iP h0])
  ·exact lX Ad [sl (A3 a),dt ((i:Int)<(a.length:Int)),am ((0:Int)<=(i:Int)/\(i:Int)<((A7 a).length:Int)) (by (simp only [A3]; omega)),F5 a i Ag,am ((0:Int)<=(i:Int)/\(i:Int)<((A7 b).length:Int)) (by (simp only [A3]; omega)),F5 b i,bt (!ByteArray.toList (List.getD a i Ah)==ByteArray.toList (List.getD b i Ah)) (B6 (BZ h0))] (Im.e0) (by rw [hd,HP,iN h0])
 ·have he:i=a.length:=by omega
  exact lX Ad [sl (A3 a),df ((i:Int)<(a.length:Int))] (Im.e1) (by rw [he,List.drop_length,HP])
theorem A7b(a b:List BA)(Uh:(a.length:Int)=(b.length:Int))(e:Ext)(hN:a.length<=1000000000)(At:(HP b (a) 0)=(Im.e0)):(Ob.loop 26 (Ai f189 0) (Vl a b 0  e) (NY a b e (Im.e0)).1 (NY a b e (Im.e0)).2).ok prog:=
 rz (cQ a b Uh e hN) At
theorem A7c(a b:List BA)(Uh:(a.length:Int)=(b.length:Int))(e:Ext)(hN:a.length<=1000000000)(At:(HP b (a) 0)=(Im.e1)):(Ob.loop 26 (Ai f189 0) (Vl a b 0  e) (NY a b e (Im.e1)).1 (NY a b e (Im.e1)).2).ok prog:=
 rz (cQ a b Uh e hN) At
end Go.Proofs.YthchpmnkecoafaaGreatDoor
