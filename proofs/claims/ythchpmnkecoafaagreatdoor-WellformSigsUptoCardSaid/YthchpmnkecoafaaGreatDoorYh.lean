/- Values of Go as plain data, an evaluator over them, and what the functions of the program return; part Yh. -/
import Derived.Test.YthchpmnkecoafaaGreatDoorYg
import Derived.Test.YthchpmnkecoafaaGreatDoorYe
import Derived.Test.YthchpmnkecoafaaGreatDoorYa
set_option linter.unusedSectionVars false
set_option linter.unusedSimpArgs false
set_option linter.unusedVariables false
namespace Go.Proofs.YthchpmnkecoafaaGreatDoor
open Go.Proofs.Tryz
open Go.Pv Go.Proofs.Tryz
set_option maxRecDepth 100000
abbrev XI(v:Nv):Ext:=[(0,[.v (.fn (.func 175) [] [.xp 0 0,.ro (BP v) 0])])]
theorem gPr{l:List Pr}{i:Nat}(h:i<l.length):l.getD i default∈l:=Bm h
abbrev sZ(v:Nv)(p:Pr)(sf:Pr->BA)(BZ:Pr->Int)(j:Int)(out:List BA)  : S:=S.mk [(1,.v (.xp 0 0)),(2,.v (.ro (BP v) 0)),(3,.lp 3 0),(6,.uniq 74 1 (Ae out)),(12,vL 4 (Pr.cs (Av p))),(13,A6 ((Av p).length:Int)),(14,A6 j)] [(3,CK p)] [(0,[.v (.fn (.func 175) [] [.xp 0 0,.ro (BP v) 0])])]
inductive Li where
 | e0 (el:Pr) (out:List BA)
 | e1 (out:List BA)
def Ee(sf:Pr->BA)(BZ:Pr->Int):List Pr->(List BA)->Li
 | [],out=>(Li.e1 out)
 | el::r,out=>(if BZ el=0 then Ee sf BZ r (out++[sf el]) else (Li.e0 el out))
def eH(v:Nv)(p:Pr)(sf:Pr->BA)(BZ:Pr->Int)  : Li->A4 × S
 | .e0 el out=>(.ret,S.mk [(1,.v (.xp 0 0)),(2,.v (.ro (BP v) 0)),(3,.lp 3 0),(6,.uniq 74 1 (Ae out)),(12,vL 4 (Pr.cs (Av p))),(13,A6 ((Av p).length:Int)),(4,vS Ai),(5,A6 (BZ el))] [(3,CK p)] [(0,[.v (.fn (.func 175) [] [.xp 0 0,.ro (BP v) 0])])])
 | .e1 out=>(.exit 0,S.mk [(1,.v (.xp 0 0)),(2,.v (.ro (BP v) 0)),(3,.lp 3 0),(6,.uniq 74 1 (Ae out)),(12,vL 4 (Pr.cs (Av p))),(13,A6 ((Av p).length:Int))] [(3,CK p)] [(0,[.v (.fn (.func 175) [] [.xp 0 0,.ro (BP v) 0])])])
theorem eI(v:Nv)(p:Pr)(sf:Pr->BA)(BZ:Pr->Int)(BM:∀w:Pr,w∈Av p->Ef 175 [.agg (AN w),.xp 0 0,.ro (BP v) 0] (XI v) (.ret (.Bf [.str (sf w),.int .i64 (BZ w)])) (XI v))(hN:(Av p).length<=1000000000)(out:List BA)(hv:(out.length<=0)):(Ob.loop 38 (Au f175 0) (sZ v p sf BZ 0 out) (eH v p sf BZ  (Ee sf BZ ((Av p))  out)).1 (eH v p sf BZ  (Ee sf BZ ((Av p))  out)).2).ok prog:=by
 refine CL ((Av p).length) (fun j out=>sZ v p sf BZ j out) (fun i out=>Ee sf BZ (List.drop i ((Av p)))  out) (eH v p sf BZ) (fun i out=>(out.length<=i)) kR ?_ out (by first | exact hv | omega)
 rintro i out hi hv
 try simp only at hv
 rcases Nat.lt_or_ge i ((Av p).length) with Ac | Cm
 ·have hd:=At Ac
  by_cases h0:BZ (List.getD (Av p) i default)=0
  ·exact lS A9 [dt ((i:Int)<((Av p).length:Int)),FG (Av p) (i:Int),My (Av p) i Ac,ce (@BM (List.getD (Av p) i default) (by simp_all)),B1 h0,am (List.length (Ae out++(fun x=>Prod.snd x) (0+1,[[.str (sf (List.getD (Av p) i default))]])) * (15+1)<=140737488355328) (by (simp only [List.length_append,List.length_cons,List.length_nil,A5]; omega)),wr ((i:Int)+1)] [1,2,3,6,12,13,14,4,5] [3] Ac (out++[sf (List.getD (Av p) i default)]) (S.mk [(1,.v (.xp 0 0)),(2,.v (.ro (BP v) 0)),(3,.lp 3 0),(6,.uniq 74 1 (Ae out++[[PV.str (sf (List.getD (Av p) i default))]])),(12,vL 4 (Pr.cs (Av p))),(13,A6 ((Av p).length:Int)),(14,A6 ((i:Int)+1))] [(3,CK p)] [(0,[.v (.fn (.func 175) [] [.xp 0 0,.ro (BP v) 0])])]) ⟨⟨W,W,W,(.inl (by first | (simp only [List.nil_append,AK,AF,Pr.A1,Tp.A1,Ex.A1,Vr.A1,Df.A1,Sy.A1,Ho.A1]; done) | (simp only [List.nil_append,AK,AF,Pr.A1,Tp.A1,Ex.A1,Vr.A1,Df.A1,Sy.A1,Ho.A1]; rfl))),W,W,W,B7⟩,⟨Ws,B7⟩,rfl⟩ (by first | assumption | omega | (apply gPr <;> first | assumption | omega | decide) | (simp only [List.length_append,List.length_cons,List.length_nil] at *; omega) | simp_all) (by rw [hd,Ee,iP h0])
  ·exact lX A9 [dt ((i:Int)<((Av p).length:Int)),FG (Av p) (i:Int),My (Av p) i Ac,ce (@BM (List.getD (Av p) i default) (by simp_all)),Bi h0] (Li.e0 (List.getD ((Av p)) i default) out) (by rw [hd,Ee,iN h0])
 ·have he:i=(Av p).length:=by omega
  exact lX A9 [df ((i:Int)<((Av p).length:Int))] (Li.e1 out) (by rw [he,List.drop_length,Ee])
theorem Rz(sf:Pr->BA)(BZ:Pr->Int):∀ (l:List Pr) (out o:List BA),Ee sf BZ l out = .e1 o->o.length=out.length+l.length
 | [],out,o,h=>by simp only [Ee,Li.e1.injEq] at h; subst h; simp
 | x::r,out,o,h=>by
  by_cases hc:BZ x=0
  ·simp only [Ee,hc,if_true] at h
   have:=Rz sf BZ r _ o h
   simp at this ⊢; omega
  ·simp only [Ee,hc,if_false] at h; cases h
inductive OM:Pr->Prop
 | mk (p:Pr) (h:Af p=10∨Af p=11->2<=(Av p).length) (hk:∀w∈Av p,OM w):OM p
theorem tA{p:Pr}{sf:Pr->BA}{BZ:Pr->Int}{o:List BA}(ha:OM p)(hr:Ee sf BZ (Av p) [] = .e1 o):Af p=10∨Af p=11->2<=o.length:=fun h=>by
 cases ha with
 | mk _ h1 _=>have:=Rz sf BZ _ _ _ hr; have:=h1 h; simp at *; omega
theorem of_le{p:Pr}{sf:Pr->BA}{BZ:Pr->Int}{o:List BA}(Br:(Av p).length<=1000000000)(hr:Ee sf BZ (Av p) [] = .e1 o):o.length<=1000000000:=by
 have:=Rz sf BZ _ _ _ hr; simp at this; omega
section
variable (v:Nv) (p:Pr) (sf:Pr->BA) (BZ:Pr->Int) (BM:∀w:Pr,w∈Av p->Ef 175 [.agg (AN w),.xp 0 0,.ro (BP v) 0] (XI v) (.ret (.Bf [.str (sf w),.int .i64 (BZ w)])) (XI v)) (Br:(Av p).length<=1000000000) (hW:Ba v) (hAr:OM p)
include v p sf BZ BM Br hW hAr
theorem Abi(CX:Pr)(I6:List BA)(Am:Ee sf BZ (Av p) []=Li.e0 CX I6):Ef 175 [.agg (AN p),.xp 0 0,.ro (BP v) 0] (XI v) (.ret (.Bf [.str Ai,pI (BZ CX)])) ([(0,[.v (.fn (.func 175) [] [.xp 0 0,.ro (BP v) 0])])]):=
 ef A9 [sl (Pr.A0 (Av p)),lp (S.mk [(1,.v (.xp 0 0)),(2,.v (.ro (BP v) 0)),(3,.lp 3 0),(6,.v .A2),(12,vL 4 (Pr.cs (Av p))),(13,A6 ((Av p).length:Int)),(14,A6 0)] [(3,CK p)] [(0,[.v (.fn (.func 175) [] [.xp 0 0,.ro (BP v) 0])])]) (rz (eI (v) (p) (sf) (BZ) BM Br ([]) (by (simp only [List.length_nil]; omega))) Am) ⟨⟨W,W,W,Wq,W,W,W,B7⟩,⟨⟨W,W,W,W,B7⟩,B7⟩,rfl⟩] func175
theorem Abj(CX:List BA)(Aa:Ee sf BZ (Av p) []=Li.e1 CX):Ef 175 [.agg (AN p),.xp 0 0,.ro (BP v) 0] (XI v) (.ret (.Bf [.str (Ci v p CX),pI (Cj v p CX)])) ([(0,[.v (.fn (.func 175) [] [.xp 0 0,.ro (BP v) 0])])]):=
 ef A9 [sl (Pr.A0 (Av p)),lp (S.mk [(1,.v (.xp 0 0)),(2,.v (.ro (BP v) 0)),(3,.lp 3 0),(6,.v .A2),(12,vL 4 (Pr.cs (Av p))),(13,A6 ((Av p).length:Int)),(14,A6 0)] [(3,CK p)] [(0,[.v (.fn (.func 175) [] [.xp 0 0,.ro (BP v) 0])])]) (rz (eI (v) (p) (sf) (BZ) BM Br ([]) (by (simp only [List.length_nil]; omega))) Aa) ⟨⟨W,W,W,Wq,W,W,W,B7⟩,⟨⟨W,W,W,W,B7⟩,B7⟩,rfl⟩,cl (@sn (v) (p) (CX) hW (by (apply of_le <;> first | assumption | omega | decide)) (by (apply tA <;> first | assumption | omega | decide)))] func175
end
def P4:Nat->Nv->Pr->BA × Int
 | 0,_,_=>(Ai,0)
 | d+1,v,p=>match Ee (fun w=>(P4 d v w).1) (fun w=>(P4 d v w).2) (Av p) [] with
  | .e0 w _=>(Ai,(P4 d v w).2)
  | .e1 out=>(Ci v p out,Cj v p out)
theorem ON(x:Pr):Ah (Pr.cs (Av x))<A3 (AN x):=by simp only [A3,CR]; omega
theorem tB(v:Nv)(hW:Ba v):∀ (d:Nat) (p:Pr),A3 (AN p)<d->d<=1000000001->OM p->Ef 175 [.agg (AN p),.xp 0 0,.ro (BP v) 0] (XI v) (.ret (.Bf [.str (P4 d v p).1,.int .i64 (P4 d v p).2])) (XI v)
 | 0,_,h,_,_=>by omega
 | d+1,p,h,hd,ha=>by
  have h1:=ON p
  have h2:=Pr.BS (Av p)
  have hk:∀w:Pr,w∈Av p->Ef 175 [.agg (AN w),.xp 0 0,.ro (BP v) 0] (XI v) (.ret (.Bf [.str (P4 d v w).1,.int .i64 (P4 d v w).2])) (XI v):=fun w hw=>tB v hW d w (by have:=Pr.mem hw; omega) oM (by cases ha with | mk _ _ hk=>exact hk w hw)
  rw [P4]
  cases hr:Ee (fun w=>(P4 d v w).1) (fun w=>(P4 d v w).2) (Av p) [] with
  | e0 w o=>exact Abi v p _ _ hk oM hW ha w o hr
  | e1 o=>exact Abj v p _ _ hk oM hW ha o hr
def nH(v:Nv)(p:Pr):BA × Int:=P4 (A3 (AN p)+1) v p
theorem ofC(v:Nv)(p:Pr)(hW:Ba v)(ha:OM p)(hs:A3 (AN p)<=1000000000):Ef 175 [.agg (AN p),.xp 0 0,.ro (BP v) 0] (XI v) (.ret (.Bf [.str (nH v p).1,.int .i64 (nH v p).2])) (XI v):=tB v hW _ p oM oM ha
theorem Lj{α:Type}{f:α->Int}:∀ {l:List α},Bg f l=0->∀x∈l,f x=0
 | [],_,_,h=>by cases h
 | c::r,h,x,hx=>by
  by_cases hc:f c=0
  ·simp only [Bg,hc,if_true] at h
   rcases List.mem_cons.1 hx with rfl | hx
   ·exact hc
   ·exact Lj h x hx
  ·simp only [Bg,hc,if_false] at h
theorem A3a{u:Pr}(h:BG u=0)(ho:Af u=10∨Af u=11):2<=(Av u).length:=by
 rcases Nat.lt_or_ge (Av u).length 2 with hl | hl
 ·exfalso
  have hb:((Av u).length:Int)<2:=by omega
  have h4:AY u (Ao (Af u)) (Ap (Af u))=true:=by
   rcases ho with ho | ho <;> simp [AY,Ce,Ao,Ap,ho,hb]
  unfold BG at h
  by_cases h1:Dj u=true
  ·simp [h1] at h
  ·simp [h1,h4] at h
 ·exact hl
mutual
theorem Xg:∀ (p:Pr) (w:Pr),w∈Av p->∀x∈Cb w,x∈Cb p
 | .mk o s n ks,w,hw,x,hx=>by
  rw [Cb]
  exact List.mem_cons_of_mem _ (OO ks w hw x hx)
theorem OO:∀ (l:List Pr) (w:Pr),w∈l->∀x∈Cb w,x∈BK l
 | [],w,hw,x,hx=>by cases hw
 | c::r,w,hw,x,hx=>by
  rw [BK,List.mem_append]
  rcases List.mem_cons.1 hw with rfl | hw
  ·exact .inl hx
  ·exact .inr (OO r w hw x hx)
end
theorem Abk(d:Nat):∀ (p:Pr),A3 (AN p)<d->(∀x∈Cb p,BG x=0)->OM p:=by
 induction d with
 | zero=>intro p h; omega
 | succ d ih=>
  intro p h hn
  refine .mk p (fun ho=>A3a (hn p (by rw [FJ]; simp)) ho) fun w hw=>ih w (by have:=ON p; have:=Pr.mem hw; omega) fun x hx=>hn x (Xg p w hw x hx)
theorem tC{p:Pr}(h:Hf p=0):OM p:=by
 unfold Hf at h
 split at h
 ·cases h
 ·split at h
  ·cases h
  ·exact Abk _ p (Nat.lt_succ_self _) (Lj h)
def mdO:Md:=⟨fun t=>if t=215 then none else some false,fun _=>false⟩
theorem Ah1(v:Nv)(p:Pr)(hW:Ba v)(hs:A3 (AN p)<=100000000)(oN:Hf p=0):Ef 175 [.agg (AN p),.xp 0 0,.ro (BP v) 0] [(0,[.v (.fn (.func 175) [] [.xp 0 0,.ro (BP v) 0])])] (.ret (.Bf [.str (nH v p).1,.int .i64 (nH v p).2])) [(0,[.v (.fn (.func 175) [] [.xp 0 0,.ro (BP v) 0])])]:=ofC v p hW (tC oN) oM
section
variable (v:Nv) (p:Pr) (hW:Ba v) (hs:A3 (AN p)<=100000000)
include v p hW hs
theorem Abl(A7:¬Hf p=0):Ef 125 [.agg (BP v),.agg (AN p)] ([]) (.ret (.Bf [.str Ai,pI (Hf p)])) ([]):=
 ef mdO [cl (@pcT (p) hs),Bi A7] func125
theorem Abm(A7:Hf p=0):Ef 125 [.agg (BP v),.agg (AN p)] ([]) (.ret (.Bf [.str (Prod.fst (nH v p)),pI (Prod.snd (nH v p))])) ([(0,[.v (.fn (.func 175) [] [.xp 0 0,.ro (BP v) 0])])]):=
 ef mdO [cl (@pcT (p) hs),B1 A7,ce (@Ah1 (v) (p) hW hs A7)] func125
end
def FX(v:Nv)(p:Pr):BA × Int:=if Hf p=0 then nH v p else (Ai,Hf p)
theorem soT(v:Nv)(p:Pr)(hW:Ba v)(hs:A3 (AN p)<=100000000):Pu 125 [.agg (BP v),.agg (AN p)] (.ret (.Bf [.str (FX v p).1,.int .i64 (FX v p).2])):=by
 have hx:EH [.agg (BP v),.agg (AN p)]=true:=by have h1:=dK v; have h2:=cC p; simp only [EH,PV.I4,Bool.and_true,Bool.true_and] at h1 h2 ⊢; simp_all
 unfold FX
 by_cases h:Hf p=0
 ·rw [iP h]; exact Ob.Dr hx rfl (Abm v p hW hs h)
 ·rw [iN h]; exact Ob.Dr hx rfl (Abl v p hW hs h)
def Bt(v:Nv)(p:Pr):Int:=(if C0 p=true then 0 else (if (Prod.snd (FX v p)==0 && !ByteArray.toList (Prod.fst (FX v p))==ByteArray.toList (ByteArray.mk #[66,111,111,108]))=true then 11 else (Prod.snd (FX v p))))
theorem sb(v:Nv)(p:Pr)(hW:Ba v)(hs:A3 (AN p)<=100000000):Pu 74 [.agg (BP v),.agg (AN p)] (rI (Bt v p)):=by
 by_cases h0:C0 p=true
 ·simp only [Bt,iP h0]; exact pm A9 [cl (@psz (p)),AV h0] func74
 ·by_cases h1:(Prod.snd (FX v p)==0 && !ByteArray.toList (Prod.fst (FX v p))==ByteArray.toList (ByteArray.mk #[66,111,111,108]))=true
  ·simp only [Bt,iN h0,iP h1]; exact pm A9 [cl (@psz (p)),AM (Db h0),cl (@soT (v) (p) hW hs),mg,av (.v (.bool (bif Prod.snd (FX v p)==0 then !ByteArray.toList (Prod.fst (FX v p))==ByteArray.toList (ByteArray.mk #[66,111,111,108]) else false))) (.v (.bool (Prod.snd (FX v p)==0 && !ByteArray.toList (Prod.fst (FX v p))==ByteArray.toList (ByteArray.mk #[66,111,111,108])))) (by (simp only [Bool.cond_false_right]; done)),AV h1] func74
  ·simp only [Bt,iN h0,iN h1]; exact pm A9 [cl (@psz (p)),AM (Db h0),cl (@soT (v) (p) hW hs),mg,av (.v (.bool (bif Prod.snd (FX v p)==0 then !ByteArray.toList (Prod.fst (FX v p))==ByteArray.toList (ByteArray.mk #[66,111,111,108]) else false))) (.v (.bool (Prod.snd (FX v p)==0 && !ByteArray.toList (Prod.fst (FX v p))==ByteArray.toList (ByteArray.mk #[66,111,111,108])))) (by (simp only [Bool.cond_false_right]; done)),AM (Db h1)] func74
abbrev tD(l:List Tp)(m:Mo)(v:Nv)(ff:Tp->Int)(j:Int)(e:Ext):S:=S.mk [(1,.v (.fn (.func 34) [.agg (GR m v)] [])),(4,A6 0),(8,vL 9 (Tp.cs l)),(9,A6 (l.length:Int)),(10,A6 j)] [] e
inductive OP where
 | e0 (el:Tp)
 | e1
def Iz(ff:Tp->Int):List Tp->OP
 | []=>(OP.e1)
 | el::r=>(if ff el=0 then Iz ff r  else (OP.e0 el))
def eJ(l:List Tp)(m:Mo)(v:Nv)(ff:Tp->Int)(e:Ext):OP->A4 × S
 | .e0 el=>(.ret,S.mk [(1,.v (.fn (.func 34) [.agg (GR m v)] [])),(4,A6 (ff el)),(8,vL 9 (Tp.cs l)),(9,A6 (l.length:Int))] [] e)
 | .e1=>(.exit 0,S.mk [(1,.v (.fn (.func 34) [.agg (GR m v)] [])),(4,A6 0),(8,vL 9 (Tp.cs l)),(9,A6 (l.length:Int))] [] e)
theorem eK(l:List Tp)(m:Mo)(v:Nv)(ff:Tp->Int)(BM:∀w:Tp,w∈l->Pu 34 [.agg (GR m v),.agg (AO w)] (.ret (.int .i64 (ff w))))(e:Ext)(hN:l.length<=1000000000):(Ob.loop 21 (Au f73 0) (tD l m v ff 0  e) (eJ l m v ff e (Iz ff (l))).1 (eJ l m v ff e (Iz ff (l))).2).ok prog:=by
 refine CL l.length (fun j _=>tD l m v ff j  e) (fun i _=>Iz ff (List.drop i (l))) (eJ l m v ff e) (fun i _=>True) kR ?_ () trivial
 rintro i u hi -
 rcases Nat.lt_or_ge i (l.length) with Ac | Cm
 ·have hd:=At Ac
  by_cases h0:ff (List.getD l i default)=0
  ·exact lN A9 [dt ((i:Int)<(l.length:Int)),DH l (i:Int),I5 l i Ac,cl (@BM (List.getD l i default) (by simp_all)),B1 h0,wr ((i:Int)+1)] Ac () trivial (by rw [hd,Iz,iP h0])
  ·exact lX A9 [dt ((i:Int)<(l.length:Int)),DH l (i:Int),I5 l i Ac,cl (@BM (List.getD l i default) (by simp_all)),Bi h0] (OP.e0 (List.getD (l) i default)) (by rw [hd,Iz,iN h0])
 ·have he:i=l.length:=by omega
  exact lX A9 [df ((i:Int)<(l.length:Int))] (OP.e1) (by rw [he,List.drop_length,Iz])
theorem eL(ff:Tp->Int):∀l:List Tp,(Bg ff l=0->Iz ff l = .e1)/\(¬Bg ff l=0->∃w,Iz ff l = .e0 w/\ff w=Bg ff l)
 | []=>⟨fun _=>rfl,fun h=>absurd rfl h⟩
 | c::r=>by
  have ih:=eL ff r
  by_cases hp:ff c=0
  ·simp only [Bg,Iz,hp,if_true]; exact ih
  ·simp only [Bg,Iz,hp,if_false]
   exact ⟨fun h=>h.elim,fun _=>⟨c,rfl,rfl⟩⟩
theorem Abn(l:List Tp)(m:Mo)(v:Nv)(ff:Tp->Int)(BM:∀w:Tp,w∈l->Pu 34 [.agg (GR m v),.agg (AO w)] (.ret (.int .i64 (ff w))))(JJ:l.length<=1000000000)(A7:Iz ff l=OP.e1):Pu 73 [.sl 9 (Tp.cs l),.fn (.func 34) [.agg (GR m v)] []] (rI 0):=
 pu A9 (fun e=>[sl (Tp.A0 l),lq (rz (eK (l) (m) (v) (ff) BM (e) JJ) A7)]) func73
theorem ekT(l:List Tp)(m:Mo)(v:Nv)(ff:Tp->Int)(BM:∀w:Tp,w∈l->Pu 34 [.agg (GR m v),.agg (AO w)] (.ret (.int .i64 (ff w))))(JJ:l.length<=1000000000):Pu 73 [.sl 9 (Tp.cs l),.fn (.func 34) [.agg (GR m v)] []] (.ret (.int .i64 (Bg ff l))):=by
 by_cases h5:Bg ff l=0
 ·rw [h5]; exact Abn l m v ff BM JJ ((eL _ _).1 h5)
 ·obtain ⟨w,e1,e2⟩:=(eL _ _).2 h5
  rw [<-e2]; exact pu A9 (fun e=>[sl (Tp.A0 l),lq (rz (eK (l) (m) (v) (ff) BM (e) JJ) e1)]) func73
abbrev tE(l:List Tp)(m:Mo)(v:Nv)(ff:Tp->Int)(j:Int)(e:Ext):S:=S.mk [(1,.v (.fn (.func 35) [.agg (GR m v)] [])),(4,A6 0),(8,vL 9 (Tp.cs l)),(9,A6 (l.length:Int)),(10,A6 j)] [] e
inductive OQ where
 | e0 (el:Tp)
 | e1
def IA(ff:Tp->Int):List Tp->OQ
 | []=>(OQ.e1)
 | el::r=>(if ff el=0 then IA ff r  else (OQ.e0 el))
def eM(l:List Tp)(m:Mo)(v:Nv)(ff:Tp->Int)(e:Ext):OQ->A4 × S
 | .e0 el=>(.ret,S.mk [(1,.v (.fn (.func 35) [.agg (GR m v)] [])),(4,A6 (ff el)),(8,vL 9 (Tp.cs l)),(9,A6 (l.length:Int))] [] e)
 | .e1=>(.exit 0,S.mk [(1,.v (.fn (.func 35) [.agg (GR m v)] [])),(4,A6 0),(8,vL 9 (Tp.cs l)),(9,A6 (l.length:Int))] [] e)
theorem eN(l:List Tp)(m:Mo)(v:Nv)(ff:Tp->Int)(BM:∀w:Tp,w∈l->Pu 35 [.agg (GR m v),.agg (AO w)] (.ret (.int .i64 (ff w))))(e:Ext)(hN:l.length<=1000000000):(Ob.loop 21 (Au f73 0) (tE l m v ff 0  e) (eM l m v ff e (IA ff (l))).1 (eM l m v ff e (IA ff (l))).2).ok prog:=by
 refine CL l.length (fun j _=>tE l m v ff j  e) (fun i _=>IA ff (List.drop i (l))) (eM l m v ff e) (fun i _=>True) kR ?_ () trivial
 rintro i u hi -
 rcases Nat.lt_or_ge i (l.length) with Ac | Cm
 ·have hd:=At Ac
  by_cases h0:ff (List.getD l i default)=0
  ·exact lN A9 [dt ((i:Int)<(l.length:Int)),DH l (i:Int),I5 l i Ac,cl (@BM (List.getD l i default) (by simp_all)),B1 h0,wr ((i:Int)+1)] Ac () trivial (by rw [hd,IA,iP h0])
  ·exact lX A9 [dt ((i:Int)<(l.length:Int)),DH l (i:Int),I5 l i Ac,cl (@BM (List.getD l i default) (by simp_all)),Bi h0] (OQ.e0 (List.getD (l) i default)) (by rw [hd,IA,iN h0])
 ·have he:i=l.length:=by omega
  exact lX A9 [df ((i:Int)<(l.length:Int))] (OQ.e1) (by rw [he,List.drop_length,IA])
theorem eO(ff:Tp->Int):∀l:List Tp,(Bg ff l=0->IA ff l = .e1)/\(¬Bg ff l=0->∃w,IA ff l = .e0 w/\ff w=Bg ff l)
 | []=>⟨fun _=>rfl,fun h=>absurd rfl h⟩
 | c::r=>by
  have ih:=eO ff r
  by_cases hp:ff c=0
  ·simp only [Bg,IA,hp,if_true]; exact ih
  ·simp only [Bg,IA,hp,if_false]
   exact ⟨fun h=>h.elim,fun _=>⟨c,rfl,rfl⟩⟩
theorem Abo(l:List Tp)(m:Mo)(v:Nv)(ff:Tp->Int)(BM:∀w:Tp,w∈l->Pu 35 [.agg (GR m v),.agg (AO w)] (.ret (.int .i64 (ff w))))(JJ:l.length<=1000000000)(A7:IA ff l=OQ.e1):Pu 73 [.sl 9 (Tp.cs l),.fn (.func 35) [.agg (GR m v)] []] (rI 0):=
 pu A9 (fun e=>[sl (Tp.A0 l),lq (rz (eN (l) (m) (v) (ff) BM (e) JJ) A7)]) func73
theorem etT(l:List Tp)(m:Mo)(v:Nv)(ff:Tp->Int)(BM:∀w:Tp,w∈l->Pu 35 [.agg (GR m v),.agg (AO w)] (.ret (.int .i64 (ff w))))(JJ:l.length<=1000000000):Pu 73 [.sl 9 (Tp.cs l),.fn (.func 35) [.agg (GR m v)] []] (.ret (.int .i64 (Bg ff l))):=by
 by_cases h5:Bg ff l=0
 ·rw [h5]; exact Abo l m v ff BM JJ ((eO _ _).1 h5)
 ·obtain ⟨w,e1,e2⟩:=(eO _ _).2 h5
  rw [<-e2]; exact pu A9 (fun e=>[sl (Tp.A0 l),lq (rz (eN (l) (m) (v) (ff) BM (e) JJ) e1)]) func73
def Jj(m:Mo)(t:Tp)(k:Int):Int:=(if AB t=5 then 5 else (if AB t=4 then (if Dx Bc (An t) (AL m)=false then 5 else (if ((Ab t).length:Int)=((Ii (AQ Bc (An t) (AL m))).length:Int) then k else 13)) else k))
theorem knS(m:Mo)(v:Nv)(t:Tp)(k:Int)(BC:(AL m).length<=1048576)(VW:Pu 73 [.sl 9 (Tp.cs (Ab t)),.fn (.func 34) [.agg (GR m v)] []] (.ret (.int .i64 k))):Pu 34 [.agg (GR m v),.agg (AO t)] (rI (Jj m t k)):=by
 by_cases h0:AB t=5
 ·simp only [Jj,iP h0]; exact pm A9 [Bb h0] func34
 ·by_cases h1:AB t=4
  ·by_cases h2:Dx Bc (An t) (AL m)=false
   ·simp only [Jj,iN h0,iP h1,iP h2]; exact pm A9 [Ay h0,Bb h1,cl (@dTT (m) (An t) BC),AV (B0 h2)] func34
   ·by_cases h3:((Ab t).length:Int)=((Ii (AQ Bc (An t) (AL m))).length:Int)
    ·simp only [Jj,iN h0,iP h1,iN h2,iP h3]; exact pm A9 [Ay h0,Bb h1,cl (@dTT (m) (An t) BC),AM (AI (JQ h2)),sl (Tp.A0 (Ab t)),sl (A5 (Ii (AQ Bc (An t) (AL m)))),B1 h3,cl VW] func34
    ·simp only [Jj,iN h0,iP h1,iN h2,iN h3]; exact pm A9 [Ay h0,Bb h1,cl (@dTT (m) (An t) BC),AM (AI (JQ h2)),sl (Tp.A0 (Ab t)),sl (A5 (Ii (AQ Bc (An t) (AL m)))),Bi h3] func34
  ·simp only [Jj,iN h0,iN h1]; exact pm A9 [Ay h0,Ay h1,cl VW] func34
def XJ(m:Mo):Nat->Tp->Int
 | 0,_=>0
 | d+1,t=>Jj m t (Bg (XJ m d) (Ab t))
theorem tF(m:Mo)(v:Nv)(BC:(AL m).length<=1048576):∀ (d:Nat) (t:Tp),A3 (AO t)<d->d<=100000001->Pu 34 [.agg (GR m v),.agg (AO t)] (.ret (.int .i64 (XJ m d t)))
 | 0,_,h,_=>by omega
 | d+1,t,h,hd=>by
  have h1:=BY t
  have h3:=Tp.BS (Ab t)
  exact knS m v t _ BC (ekT (Ab t) m v (XJ m d) (fun w hw=>tF m v BC d w (by have:=Tp.mem hw; omega) oM) oM)
def knF(m:Mo)(t:Tp):Int:=XJ m (A3 (AO t)+1) t
theorem knT(m:Mo)(v:Nv)(t:Tp)(BC:(AL m).length<=1048576)(hs:A3 (AO t)<=100000000):Pu 34 [.agg (GR m v),.agg (AO t)] (.ret (.int .i64 (knF m t))):=tF m v BC _ t oM oM
theorem XK{v u:Nv}{i:Nat}(hv:GF v u i):Ba u:=hv.1
theorem tG{t:Tp}{i:Nat}(Bk:A3 (AO t)<=10000000)(h:i<(Ab t).length):A3 (AO ((Ab t).getD i default))<=1000000000:=by
 have h1:=BY t; have:=Tp.mem (Bm h); omega
theorem Ah2{v u:Nv}{i:Nat}{name:BA}{w:Tp}(hv:GF v u i)(Fy:(AX v).length<=50000000)(hi:i<=10000000):GF v (JI u name w) (i+1):=hv.1.pw (n:=(AX v).length+i) hv.2 oM
theorem Abp{t:Tp}{v u:Nv}{i:Nat}{name:BA}{w:Tp}(hv:GF v u i)(Fy:(AX v).length<=50000000)(Bk:A3 (AO t)<=10000000)(h:i<(Ab t).length):GF v (JI u name w) (i+1):=Ah2 hv Fy (by have h1:=BY t; have:=Tp.BS (Ab t); omega)
abbrev tH(m:Mo)(v:Nv)(t:Tp)(tf:Nv->Tp->Int)(j:Int)(u:Nv)(e:Ext):S:=S.mk [(2,.lp 2 0),(3,.lp 3 0),(4,A6 0),(5,.lp 5 0),(20,vL 9 (Tp.cs (Ab t))),(21,A6 ((Ab t).length:Int)),(22,A6 j)] [(2,vL 4 (Da.cs (AL m))::vL 3 (Cl.cs (CB m))::vL 12 (In.cs (DD m))::vL 8 (Ms.cs (B3 m))::vL 6 (Qu.cs (Ep m))::vL 25 (Df.cs (AW m))::Dy v),(3,Cz t),(5,vL 4 (Da.cs (AL m))::vL 3 (Cl.cs (CB m))::vL 12 (In.cs (DD m))::vL 8 (Ms.cs (B3 m))::vL 6 (Qu.cs (Ep m))::vL 25 (Df.cs (AW m))::Dy u)] e
inductive MP where
 | e0 (el:Tp) (u:Nv)
 | e1 (u:Nv)
def G5(t:Tp)(tf:Nv->Tp->Int):List Tp->Nat->(Nv)->MP
 | [],i,u=>(MP.e1 u)
 | el::r,i,u=>(if tf u el=0 then (if (i:Int)<((Ag t).length:Int) then G5 t tf r (i+1) (JI u (List.getD (Ag t) i Ai) el) else G5 t tf r (i+1) (u)) else (MP.e0 el u))
def eP(m:Mo)(v:Nv)(t:Tp)(tf:Nv->Tp->Int)(e:Ext):MP->A4 × S
 | .e0 el u=>(.ret,S.mk [(2,.lp 2 0),(3,.lp 3 0),(4,A6 (tf u el)),(5,.lp 5 0),(20,vL 9 (Tp.cs (Ab t))),(21,A6 ((Ab t).length:Int))] [(2,vL 4 (Da.cs (AL m))::vL 3 (Cl.cs (CB m))::vL 12 (In.cs (DD m))::vL 8 (Ms.cs (B3 m))::vL 6 (Qu.cs (Ep m))::vL 25 (Df.cs (AW m))::Dy v),(3,Cz t),(5,vL 4 (Da.cs (AL m))::vL 3 (Cl.cs (CB m))::vL 12 (In.cs (DD m))::vL 8 (Ms.cs (B3 m))::vL 6 (Qu.cs (Ep m))::vL 25 (Df.cs (AW m))::Dy u)] e)
 | .e1 u=>(.exit 0,S.mk [(2,.lp 2 0),(3,.lp 3 0),(4,A6 0),(5,.lp 5 0),(20,vL 9 (Tp.cs (Ab t))),(21,A6 ((Ab t).length:Int))] [(2,vL 4 (Da.cs (AL m))::vL 3 (Cl.cs (CB m))::vL 12 (In.cs (DD m))::vL 8 (Ms.cs (B3 m))::vL 6 (Qu.cs (Ep m))::vL 25 (Df.cs (AW m))::Dy v),(3,Cz t),(5,vL 4 (Da.cs (AL m))::vL 3 (Cl.cs (CB m))::vL 12 (In.cs (DD m))::vL 8 (Ms.cs (B3 m))::vL 6 (Qu.cs (Ep m))::vL 25 (Df.cs (AW m))::Dy u)] e)
theorem eR(m:Mo)(v:Nv)(t:Tp)(tf:Nv->Tp->Int)(BM:∀ (u:Nv) (i:Nat),i<(Ab t).length->GF v u i->Pu 35 [.agg (GR m u),.agg (AO ((Ab t).getD i default))] (.ret (.int .i64 (tf u ((Ab t).getD i default)))))(Gp:AB t=6)(Fy:(AX v).length<=50000000)(Bk:A3 (AO t)<=10000000)(e:Ext)(hN:(Ab t).length<=1000000000)(u:Nv)(hv:(GF v u 0)):(Ob.loop 105 (Au f35 0) (tH m v t tf 0 u e) (eP m v t tf e (G5 t tf ((Ab t)) 0 u)).1 (eP m v t tf e (G5 t tf ((Ab t)) 0 u)).2).ok prog:=by
 refine CL ((Ab t).length) (fun j u=>tH m v t tf j u e) (fun i u=>G5 t tf (List.drop i ((Ab t))) i u) (eP m v t tf e) (fun i u=>(GF v u i)) kR ?_ u (by first | exact hv | omega)
 rintro i u hi hv
 try simp only at hv
 rcases Nat.lt_or_ge i ((Ab t).length) with Ac | Cm
 ·have hd:=At Ac
  by_cases h0:tf u (List.getD (Ab t) i default)=0
  ·by_cases h1:(i:Int)<((Ag t).length:Int)
   ·exact lS A9 [dt ((i:Int)<((Ab t).length:Int)),DH (Ab t) (i:Int),I5 (Ab t) i Ac,cl (@BM (u) (i) Ac hv),B1 h0,sl (A5 (Ag t)),BL h1,CH (Ag t) (i:Int),DU (Ag t) i oM,cl (@pwT (m) (u) (List.getD (Ag t) i Ai) (List.getD (Ab t) i default) (by (apply XK <;> first | assumption | omega | decide)) (by (apply tG <;> first | assumption | omega | decide))),wr ((i:Int)+1)] [2,3,4,5,20,21,22] [2,3,5] Ac (JI u (List.getD (Ag t) i Ai) (List.getD (Ab t) i default)) (S.mk [(2,.lp 2 0),(3,.lp 3 0),(4,A6 0),(5,.lp 5 0),(20,vL 9 (Tp.cs (Ab t))),(21,A6 ((Ab t).length:Int)),(22,A6 ((i:Int)+1))] [(2,vL 4 (Da.cs (AL m))::vL 3 (Cl.cs (CB m))::vL 12 (In.cs (DD m))::vL 8 (Ms.cs (B3 m))::vL 6 (Qu.cs (Ep m))::vL 25 (Df.cs (AW m))::Dy v),(3,Cz t),(5,vL 4 (Da.cs (AL m))::vL 3 (Cl.cs (CB m))::vL 12 (In.cs (DD m))::vL 8 (Ms.cs (B3 m))::vL 6 (Qu.cs (Ep m))::vL 25 (Df.cs (AW m))::Dy (JI u (List.getD (Ag t) i Ai) (List.getD (Ab t) i default)))] e) ⟨⟨W,W,W,W,W,W,W,B7⟩,⟨Ws,Ws,⟨W,W,W,W,W,W,Wq,Wq,Wq,B7⟩,B7⟩,rfl⟩ (by first | assumption | omega | (apply XK <;> first | assumption | omega | decide) | (apply tG <;> first | assumption | omega | decide) | (apply Abp <;> first | assumption | omega | decide) | (apply GF.s <;> first | assumption | omega | decide) | (simp only [List.length_append,List.length_cons,List.length_nil] at *; omega) | simp_all) (by rw [hd,G5,iP h0,iP h1])
   ·exact lN A9 [dt ((i:Int)<((Ab t).length:Int)),DH (Ab t) (i:Int),I5 (Ab t) i Ac,cl (@BM (u) (i) Ac hv),B1 h0,sl (A5 (Ag t)),Ar h1,wr ((i:Int)+1)] Ac (u) (by first | assumption | omega | (apply XK <;> first | assumption | omega | decide) | (apply tG <;> first | assumption | omega | decide) | (apply Abp <;> first | assumption | omega | decide) | (apply GF.s <;> first | assumption | omega | decide) | (simp only [List.length_append,List.length_cons,List.length_nil] at *; omega) | simp_all) (by rw [hd,G5,iP h0,iN h1])
  ·exact lX A9 [dt ((i:Int)<((Ab t).length:Int)),DH (Ab t) (i:Int),I5 (Ab t) i Ac,cl (@BM (u) (i) Ac hv),Bi h0] (MP.e0 (List.getD ((Ab t)) i default) u) (by rw [hd,G5,iN h0])
 ·have he:i=(Ab t).length:=by omega
  exact lX A9 [df ((i:Int)<((Ab t).length:Int))] (MP.e1 u) (by rw [he,List.drop_length,G5])
theorem gE1{v:Nv}{name:BA}{t:Tp}(hE:Ba v)(Fy:(AX v).length<=50000000):Ba (JI v name t):=(hE.pw (n:=(AX v).length) (Nat.le_refl _) oM).1
theorem gE2{v:Nv}{a b:BA}(hE:Ba v)(Fy:(AX v).length<=50000000):Ba (JH v (.mk a b)):=(hE.wi (n:=(AX v).length) (Nat.le_refl _) oM).1
theorem kC{t:Tp}(Bk:A3 (AO t)<=10000000):A3 (AN (AT t))<=100000000:=by have:=BY t; omega
theorem gB2{t:Tp}{i:Nat}(Bk:A3 (AO t)<=10000000)(h:i<(Aq t).length):A3 (AN ((Aq t).getD i default))<=100000000:=by have:=BY t; have:=Pr.mem (Bm h); omega
abbrev vSS:BA:=ByteArray.mk #[118]
abbrev tI(m:Mo)(v:Nv)(t:Tp)(j:Int)(e:Ext):S:=S.mk [(2,.lp 2 0),(3,.lp 3 0),(4,A6 0),(10,.lp 10 0),(77,vL 4 (Pr.cs (Aq t))),(78,A6 ((Aq t).length:Int)),(79,A6 j)] [(2,vL 4 (Da.cs (AL m))::vL 3 (Cl.cs (CB m))::vL 12 (In.cs (DD m))::vL 8 (Ms.cs (B3 m))::vL 6 (Qu.cs (Ep m))::vL 25 (Df.cs (AW m))::Dy v),(3,Cz t),(10,pS (AQ Bc (An t) (AL m)))] e
inductive MQ where
 | e0 (el:Pr) (i:Nat)
 | e1
def GS(m:Mo)(v:Nv)(t:Tp):List Pr->Nat->MQ
 | [],i=>(MQ.e1)
 | el::r,i=>(if Bt (JH v (Vr.mk (bM 118) (CD (List.getD (F6 (AQ Bc (An t) (AL m))) i default)))) el=0 then GS m v t r (i+1)  else (MQ.e0 el i))
def eS(m:Mo)(v:Nv)(t:Tp)(e:Ext):MQ->A4 × S
 | .e0 el i=>(.ret,S.mk [(2,.lp 2 0),(3,.lp 3 0),(4,A6 (Bt (JH v (Vr.mk (bM 118) (CD (List.getD (F6 (AQ Bc (An t) (AL m))) i default)))) el)),(10,.lp 10 0),(77,vL 4 (Pr.cs (Aq t))),(78,A6 ((Aq t).length:Int))] [(2,vL 4 (Da.cs (AL m))::vL 3 (Cl.cs (CB m))::vL 12 (In.cs (DD m))::vL 8 (Ms.cs (B3 m))::vL 6 (Qu.cs (Ep m))::vL 25 (Df.cs (AW m))::Dy v),(3,Cz t),(10,pS (AQ Bc (An t) (AL m)))] e)
 | .e1=>(.exit 2,S.mk [(2,.lp 2 0),(3,.lp 3 0),(4,A6 0),(10,.lp 10 0),(77,vL 4 (Pr.cs (Aq t))),(78,A6 ((Aq t).length:Int))] [(2,vL 4 (Da.cs (AL m))::vL 3 (Cl.cs (CB m))::vL 12 (In.cs (DD m))::vL 8 (Ms.cs (B3 m))::vL 6 (Qu.cs (Ep m))::vL 25 (Df.cs (AW m))::Dy v),(3,Cz t),(10,pS (AQ Bc (An t) (AL m)))] e)
theorem eT(m:Mo)(v:Nv)(t:Tp)(Gp:¬AB t=6)(hE:Ba v)(Fy:(AX v).length<=50000000)(Bk:A3 (AO t)<=10000000)(BC:(AL m).length<=1048576)(XF:Bt (JI v (bM 118) t) (AT t)=0)(sQ:((Aq t).length:Int)>0)(hlen:((Aq t).length:Int)=((F6 (AQ Bc (An t) (AL m))).length:Int))(e:Ext)(hN:(Aq t).length<=1000000000):(Ob.loop 105 (Au f35 1) (tI m v t 0  e) (eS m v t e (GS m v t ((Aq t)) 0)).1 (eS m v t e (GS m v t ((Aq t)) 0)).2).ok prog:=by
 refine CL ((Aq t).length) (fun j _=>tI m v t j  e) (fun i _=>GS m v t (List.drop i ((Aq t))) i) (eS m v t e) (fun i _=>True) kR ?_ () trivial
 rintro i u hi -
 rcases Nat.lt_or_ge i ((Aq t).length) with Ac | Cm
 ·have hd:=At Ac
  by_cases h0:Bt (JH v (Vr.mk (bM 118) (CD (List.getD (F6 (AQ Bc (An t) (AL m))) i default)))) (List.getD (Aq t) i default)=0
  ·exact lN A9 [dt ((i:Int)<((Aq t).length:Int)),FG (Aq t) (i:Int),My (Aq t) i Ac,D2 (F6 (AQ Bc (An t) (AL m))) (i:Int),Gn (F6 (AQ Bc (An t) (AL m))) i oM,cl (@A37 (v) (bM 118) (CD (List.getD (F6 (AQ Bc (An t) (AL m))) i default)) hE),cl (@sb (JH v (Vr.mk (bM 118) (CD (List.getD (F6 (AQ Bc (An t) (AL m))) i default)))) (List.getD (Aq t) i default) (by (apply gE2 <;> first | assumption | omega | decide)) (by (apply gB2 <;> first | assumption | omega | decide))),B1 h0,wr ((i:Int)+1)] Ac () trivial (by rw [hd,GS,iP h0])
  ·exact lX A9 [dt ((i:Int)<((Aq t).length:Int)),FG (Aq t) (i:Int),My (Aq t) i Ac,D2 (F6 (AQ Bc (An t) (AL m))) (i:Int),Gn (F6 (AQ Bc (An t) (AL m))) i oM,cl (@A37 (v) (bM 118) (CD (List.getD (F6 (AQ Bc (An t) (AL m))) i default)) hE),cl (@sb (JH v (Vr.mk (bM 118) (CD (List.getD (F6 (AQ Bc (An t) (AL m))) i default)))) (List.getD (Aq t) i default) (by (apply gE2 <;> first | assumption | omega | decide)) (by (apply gB2 <;> first | assumption | omega | decide))),Bi h0] (MQ.e0 (List.getD ((Aq t)) i default) i) (by rw [hd,GS,iN h0])
 ·have he:i=(Aq t).length:=by omega
  exact lX A9 [df ((i:Int)<((Aq t).length:Int))] (MQ.e1) (by rw [he,List.drop_length,GS])
theorem rnT(t:Tp)(hs:A3 (AO t)<=100000000):Pu 127 [.agg (AO t)] (.ret (.int .i64 (Rx t))):=by
 have h1:=BY t
 have h2:=Pr.BS (Aq t)
 have hk:∀w:Pr,w∈Dz t->Pu 98 [.agg (AN w)] (.ret (.int .i64 (Hf w))):=fun w hw=>A2c w (by have:=Td hw; omega)
 have hn:(Ag t).length<=1000000000:=by have:=Ov (Ag t); have h8:Ah (Ae (Ag t))<A3 (AO t):=(by simp only [A3,CR]; omega); omega
 unfold Rx
 rw [<-Aar]
 cases h0:Dn t with
 | true=>rw [iP rfl]; exact Aam t hk oM hn h0
 | false=>
  rw [iN dD]
  by_cases h3:Bg (fun s=>CJ (Bz s)) (Ag t)=0
  ·rw [iP h3]
   have h3':G3 (Ag t) = .e1:=by rw [eA,iP h3]
   cases h4:Ge (Ag t) with
   | false=>rw [iP rfl]; exact Aao t hk oM hn h0 h3' h4
   | true=>
    rw [iN dD]
    by_cases h5:Bg Po (Dz t)=0
    ·rw [h5]; exact Aaq t hk oM hn h0 h3' h4 ((eB _).1 h5)
    ·obtain ⟨w,e1,e2⟩:=(eB _).2 h5
     rw [<-e2]; exact Aap t hk oM hn h0 h3' h4 w e1
  ·rw [iN h3]; exact Aan t hk oM hn h0 (by rw [eA,iN h3])
abbrev tJ(t:Tp)(xe:Ext)(ff:Tp->Int)(j:Int)   : S:=S.mk [(2,A6 0),(13,vL 9 (Tp.cs (Ab t))),(14,A6 ((Ab t).length:Int)),(15,A6 j)] [] xe
inductive MR where
 | e0 (el:Tp)
 | e1
def HU(ff:Tp->Int):List Tp->MR
 | []=>(MR.e1)
 | el::r=>(if ff el=0 then HU ff r  else (MR.e0 el))
def eU(t:Tp)(xe:Ext)(ff:Tp->Int)  : MR->A4 × S
 | .e0 el=>(.ret,S.mk [(2,A6 (ff el)),(13,vL 9 (Tp.cs (Ab t))),(14,A6 ((Ab t).length:Int))] [] xe)
 | .e1=>(.exit 0,S.mk [(2,A6 0),(13,vL 9 (Tp.cs (Ab t))),(14,A6 ((Ab t).length:Int))] [] xe)
theorem eW(t:Tp)(xe:Ext)(ff:Tp->Int)(BM:∀w:Tp,w∈Ab t->Pu 76 [.agg (AO w)] (.ret (.int .i64 (ff w))))(hN:(Ab t).length<=1000000000):(Ob.loop 25 (Au f76 0) (tJ t xe ff 0) (eU t xe ff  (HU ff ((Ab t)))).1 (eU t xe ff  (HU ff ((Ab t)))).2).ok prog:=by
 refine CL ((Ab t).length) (fun j _=>tJ t xe ff j) (fun i _=>HU ff (List.drop i ((Ab t)))) (eU t xe ff) (fun i _=>True) kR ?_ () trivial
 rintro i u hi -
 rcases Nat.lt_or_ge i ((Ab t).length) with Ac | Cm
 ·have hd:=At Ac
  by_cases h0:ff (List.getD (Ab t) i default)=0
  ·exact lN A9 [dt ((i:Int)<((Ab t).length:Int)),DH (Ab t) (i:Int),I5 (Ab t) i Ac,cl (@BM (List.getD (Ab t) i default) (by simp_all [Dc,Fc,Fe])),B1 h0,wr ((i:Int)+1)] Ac () trivial (by rw [hd,HU,iP h0])
  ·exact lX A9 [dt ((i:Int)<((Ab t).length:Int)),DH (Ab t) (i:Int),I5 (Ab t) i Ac,cl (@BM (List.getD (Ab t) i default) (by simp_all [Dc,Fc,Fe])),Bi h0] (MR.e0 (List.getD ((Ab t)) i default)) (by rw [hd,HU,iN h0])
 ·have he:i=(Ab t).length:=by omega
  exact lX A9 [df ((i:Int)<((Ab t).length:Int))] (MR.e1) (by rw [he,List.drop_length,HU])
section
variable (t:Tp) (ff:Tp->Int) (BM:∀w:Tp,w∈Ab t->Pu 76 [.agg (AO w)] (.ret (.int .i64 (ff w)))) (hs:A3 (AO t)<=100000000) (hN:(Ab t).length<=1000000000)
include t ff BM hs hN
theorem Abq(A7:¬Rx t=0):Pu 76 [.agg (AO t)] (rI (Rx t)):=
 pm A9 [cl (@rnT (t) hs),Bi A7] func76
theorem Abr(A7:Rx t=0)(I6:Tp)(Am:HU ff (Ab t)=MR.e0 I6):Pu 76 [.agg (AO t)] (rI (ff I6)):=
 pu A9 (fun e=>[cl (@rnT (t) hs),B1 A7,sl (Tp.A0 (Ab t)),lq (rz (eW (t) (e) (ff) BM hN) Am)]) func76
theorem Abs(A7:Rx t=0)(Aa:HU ff (Ab t)=MR.e1):Pu 76 [.agg (AO t)] (rI 0):=
 pu A9 (fun e=>[cl (@rnT (t) hs),B1 A7,sl (Tp.A0 (Ab t)),lq (rz (eW (t) (e) (ff) BM hN) Aa)]) func76
end
theorem eX(ff:Tp->Int):∀l:List Tp,(Bg ff l=0->HU ff l = .e1)/\(¬Bg ff l=0->∃w,HU ff l = .e0 w/\ff w=Bg ff l)
 | []=>⟨fun _=>rfl,fun h=>absurd rfl h⟩
 | c::r=>by
  have ih:=eX ff r
  by_cases hp:ff c=0
  ·simp only [Bg,HU,hp,if_true]; exact ih
  ·simp only [Bg,HU,hp,if_false]
   exact ⟨fun h=>h.elim,fun _=>⟨c,rfl,rfl⟩⟩
theorem tK:∀ (d:Nat) (t:Tp),A3 (AO t)<d->d<=100000001->Pu 76 [.agg (AO t)] (.ret (.int .i64 (XH d t)))
 | 0,_,h,_=>by omega
 | d+1,t,h,hd=>by
  have h1:=BY t
  have h3:=Tp.BS (Ab t)
  have ht:∀w:Tp,w∈Ab t->Pu 76 [.agg (AO w)] (.ret (.int .i64 (XH d w))):=fun w hw=>tK d w (by have:=Tp.mem hw; omega) oM
  rw [XH]
  by_cases h0:Rx t=0
  ·rw [iP h0]
   by_cases h5:Bg (XH d) (Ab t)=0
   ·rw [h5]; exact Abs t _ ht oM oM h0 ((eX _ _).1 h5)
   ·obtain ⟨w,e1,e2⟩:=(eX _ _).2 h5
    rw [<-e2]; exact Abr t _ ht oM oM h0 w e1
  ·rw [iN h0]; exact Abq t _ ht oM oM h0
theorem rgT(t:Tp)(hs:A3 (AO t)<=100000000):Pu 76 [.agg (AO t)] (.ret (.int .i64 (rsF t))):=tK (A3 (AO t)+1) t oM oM
def Ux(t:Tp):Int:=(if E5 t=0 then (rsF t) else (E5 t))
theorem rrc(t:Tp)(hs:A3 (AO t)<=100000000):Pu 36 [.agg (AO t)] (rI (Ux t)):=by
 by_cases h0:E5 t=0
 ·simp only [Ux,iP h0]; exact pm A9 [cl (@A2x (t) hs),B1 h0,cl (@rgT (t) hs)] func36
 ·simp only [Ux,iN h0]; exact pm A9 [cl (@A2x (t) hs),Bi h0] func36
theorem A3b(t:Tp)(hs:A3 (AO t)<=10000000):Pu 36 [.agg (AO t)] (.ret (.int .i64 (DE t))):=rrc t oM
abbrev tL(m:Mo)(name:BA)(j:Int)(e:Ext):S:=S.mk [(1,vS name),(2,.lp 2 0),(4,.lp 4 0),(5,.v (.bool false)),(6,A6 j)] [(2,Er m),(4,[vS Ai,.v .A2,.v .A2,.v .A2])] e
inductive OR where
 | e0 (el:Da)
 | e1
def IB(name:BA):List Da->OR
 | []=>(OR.e1)
 | el::r=>(if Bc el=name then (OR.e0 el) else IB name r)
def eY(m:Mo)(name:BA)(e:Ext):OR->A4 × S
 | .e0 el=>(.ret,S.mk [(1,vS name),(2,.lp 2 0),(4,.lp 4 0),(5,.v (.bool true))] [(2,Er m),(4,pS el)] e)
 | .e1=>(.exit 0,S.mk [(1,vS name),(2,.lp 2 0),(4,.lp 4 0),(5,.v (.bool false))] [(2,Er m),(4,[vS Ai,.v .A2,.v .A2,.v .A2])] e)
theorem eZ(m:Mo)(name:BA)(e:Ext)(hN:(AL m).length<=1000000000):(Ob.loop 28 (Au f78 0) (tL m name 0  e) (eY m name e (IB name ((AL m)))).1 (eY m name e (IB name ((AL m)))).2).ok prog:=by
 refine CL ((AL m).length) (fun j _=>tL m name j  e) (fun i _=>IB name (List.drop i ((AL m)))) (eY m name e) (fun i _=>True) kR ?_ () trivial
 rintro i u hi -
 rcases Nat.lt_or_ge i ((AL m).length) with Ac | Cm
 ·have hd:=At Ac
  by_cases h0:Bc (List.getD (AL m) i default)=name
  ·exact lX A9 [sl (Da.A0 (AL m)),dt ((i:Int)<((AL m).length:Int)),M0 (AL m) (i:Int),X5 (AL m) i Ac,bt (ByteArray.toList (Bc (List.getD (AL m) i default))==ByteArray.toList name) (BI h0),M0 (AL m) (i:Int),X5 (AL m) i Ac] (OR.e0 (List.getD ((AL m)) i default)) (by rw [hd,IB,iP h0])
  ·exact lN A9 [sl (Da.A0 (AL m)),dt ((i:Int)<((AL m).length:Int)),M0 (AL m) (i:Int),X5 (AL m) i Ac,bf (ByteArray.toList (Bc (List.getD (AL m) i default))==ByteArray.toList name) (Bp h0),wr ((i:Int)+1)] Ac () trivial (by rw [hd,IB,iN h0])
 ·have he:i=(AL m).length:=by omega
  exact lX A9 [sl (Da.A0 (AL m)),df ((i:Int)<((AL m).length:Int))] (OR.e1) (by rw [he,List.drop_length,IB])
theorem fA(name:BA):∀l:List Da,IB name l=if ix Bc name l<l.length then .e0 (l.getD (ix Bc name l) default) else .e1
 | []=>by simp [IB,ix]
 | c::r=>by
  by_cases h:Bc c=name
  ·simp [IB,ix,h]
  ·simp only [IB,ix,h,if_false,fA name r,List.length_cons,Nat.add_lt_add_iff_right,List.getD_cons_succ]
theorem Abt(m:Mo)(name:BA)(BC:(AL m).length<=1048576)(CX:Da)(Aa:IB name (AL m)=OR.e0 CX):Pu 78 [.agg (BD m),.str name] (.ret (.Bf [.agg (Vw CX),.bool true])):=
 pu A9 (fun e=>[lq (rz (eZ (m) (name) (e) oM) Aa)]) func78
theorem tM(m:Mo)(name:BA)(BC:(AL m).length<=1048576):Pu 78 [.agg (BD m),.str name] (.ret (.Bf [.agg (Vw (AQ Bc name (AL m))),.bool (Dx Bc name (AL m))])):=by
 unfold Dx AQ
 by_cases h:ix Bc name (AL m)<(AL m).length
 ·rw [iP h,decide_eq_true h]; exact Abt m name BC _ (by rw [fA,iP h])
 ·rw [iN h,decide_eq_false h]; exact Ob.Ej (Wk.t (Co.c (Wk.a (kr (kn 1 (kn 2 (kn 3 (Co.r _)))))) (Co.r _))) (pu A9 (fun e=>[lq (rz (eZ (m) (name) (e) oM) (by rw [fA,iN h]))]) func78)
theorem Ah3(s:BA):Pu 150 [.A2,.str s] (rI (-1)):=
 pm A9 [kp,ur,bf false] func150
theorem rHa(s:BA):Pu 102 [.A2,.str s] (rB false):=
 pm A9 [cl (@Ah3 (s))] func102
abbrev tN(m:Mo)(t:Tp)(xe:Ext)(ff:Tp->Int)(j:Int)   : S:=S.mk [(2,.v .A2),(3,.lp 3 0),(4,.lp 4 0),(6,A6 0),(9,A6 j)] [(3,Er m),(4,Cz t)] xe
inductive K2 where
 | e0 (el:Tp)
 | e1
def FK(ff:Tp->Int):List Tp->K2
 | []=>(K2.e1)
 | el::r=>(if ff el=0 then FK ff r  else (K2.e0 el))
def fB(m:Mo)(t:Tp)(xe:Ext)(ff:Tp->Int)  : K2->A4 × S
 | .e0 el=>(.ret,S.mk [(2,.v .A2),(3,.lp 3 0),(4,.lp 4 0),(6,A6 (ff el))] [(3,Er m),(4,Cz t)] xe)
 | .e1=>(.exit 0,S.mk [(2,.v .A2),(3,.lp 3 0),(4,.lp 4 0),(6,A6 0)] [(3,Er m),(4,Cz t)] xe)
theorem RA(m:Mo)(t:Tp)(xe:Ext)(ff:Tp->Int)(BM:∀w:Tp,w∈Ab t->Pu 58 [.agg (BD m),.agg (AO w),.A2] (.ret (.int .i64 (ff w))))(hN:(Ab t).length<=1000000000):(Ob.loop 58 (Au f58 0) (tN m t xe ff 0) (fB m t xe ff  (FK ff ((Ab t)))).1 (fB m t xe ff  (FK ff ((Ab t)))).2).ok prog:=by
 refine CL ((Ab t).length) (fun j _=>tN m t xe ff j) (fun i _=>FK ff (List.drop i ((Ab t)))) (fB m t xe ff) (fun i _=>True) kR ?_ () trivial
 rintro i u hi -
 rcases Nat.lt_or_ge i ((Ab t).length) with Ac | Cm
 ·have hd:=At Ac
  by_cases h0:ff (List.getD (Ab t) i default)=0
  ·exact lN A9 [sl (Tp.A0 (Ab t)),dt ((i:Int)<((Ab t).length:Int)),DH (Ab t) (i:Int),I5 (Ab t) i Ac,cl (@BM (List.getD (Ab t) i default) (by simp_all [Dc,Fc,Fe])),B1 h0,wr ((i:Int)+1)] Ac () trivial (by rw [hd,FK,iP h0])
  ·exact lX A9 [sl (Tp.A0 (Ab t)),dt ((i:Int)<((Ab t).length:Int)),DH (Ab t) (i:Int),I5 (Ab t) i Ac,cl (@BM (List.getD (Ab t) i default) (by simp_all [Dc,Fc,Fe])),Bi h0] (K2.e0 (List.getD ((Ab t)) i default)) (by rw [hd,FK,iN h0])
 ·have he:i=(Ab t).length:=by omega
  exact lX A9 [sl (Tp.A0 (Ab t)),df ((i:Int)<((Ab t).length:Int))] (K2.e1) (by rw [he,List.drop_length,FK])
section
variable (m:Mo) (t:Tp) (ff:Tp->Int) (BC:(AL m).length<=1048576) (BM:∀w:Tp,w∈Ab t->Pu 58 [.agg (BD m),.agg (AO w),.A2] (.ret (.int .i64 (ff w)))) (hN:(Ab t).length<=1000000000)
include m t ff BC BM hN
theorem A3c(A7:AB t=4)(Aa:Dx Bc (An t) (AL m)=false):Pu 58 [.agg (BD m),.agg (AO t),.A2] (rI 5):=
 pm A9 [Bb A7,cl (@tM (m) (An t) BC),AV (B0 Aa)] func58
theorem A3d(A7:AB t=4)(Aa:Dx Bc (An t) (AL m)=true)(Am:¬((Ii (AQ Bc (An t) (AL m))).length:Int)=((Ab t).length:Int)):Pu 58 [.agg (BD m),.agg (AO t),.A2] (rI 13):=
 pm A9 [Bb A7,cl (@tM (m) (An t) BC),AM (AI Aa),sl (A5 (Ii (AQ Bc (An t) (AL m)))),sl (Tp.A0 (Ab t)),Bi Am] func58
theorem A3e(A7:AB t=4)(Aa:Dx Bc (An t) (AL m)=true)(Am:((Ii (AQ Bc (An t) (AL m))).length:Int)=((Ab t).length:Int))(dR:Tp)(AP:FK ff (Ab t)=K2.e0 dR):Pu 58 [.agg (BD m),.agg (AO t),.A2] (rI (ff dR)):=
 pu A9 (fun e=>[Bb A7,cl (@tM (m) (An t) BC),AM (AI Aa),sl (A5 (Ii (AQ Bc (An t) (AL m)))),sl (Tp.A0 (Ab t)),B1 Am,rp 6 (en (AB t) 5),bf false,lq (rz (RA (m) (t) (e) (ff) BM hN) AP)]) func58
theorem A3f(A7:AB t=4)(Aa:Dx Bc (An t) (AL m)=true)(Am:((Ii (AQ Bc (An t) (AL m))).length:Int)=((Ab t).length:Int))(Az:FK ff (Ab t)=K2.e1):Pu 58 [.agg (BD m),.agg (AO t),.A2] (rI 0):=
 pu A9 (fun e=>[Bb A7,cl (@tM (m) (An t) BC),AM (AI Aa),sl (A5 (Ii (AQ Bc (An t) (AL m)))),sl (Tp.A0 (Ab t)),B1 Am,rp 6 (en (AB t) 5),bf false,lq (rz (RA (m) (t) (e) (ff) BM hN) Az)]) func58
theorem A3g(A7:¬AB t=4)(Aa:AB t=5):Pu 58 [.agg (BD m),.agg (AO t),.A2] (rI 5):=
 pm A9 [Ay A7,rp 4 (Bb Aa),cl (@rHa (An t)),rp 2 (Bb Aa),bt true] func58
theorem A3h(A7:¬AB t=4)(Aa:¬AB t=5)(Iu:Tp)(Az:FK ff (Ab t)=K2.e0 Iu):Pu 58 [.agg (BD m),.agg (AO t),.A2] (rI (ff Iu)):=
 pu A9 (fun e=>[Ay A7,rp 6 (Ay Aa),bf false,lq (rz (RA (m) (t) (e) (ff) BM hN) Az)]) func58
theorem A3i(A7:¬AB t=4)(Aa:¬AB t=5)(Am:FK ff (Ab t)=K2.e1):Pu 58 [.agg (BD m),.agg (AO t),.A2] (rI 0):=
 pu A9 (fun e=>[Ay A7,rp 6 (Ay Aa),bf false,lq (rz (RA (m) (t) (e) (ff) BM hN) Am)]) func58
end
theorem fC(ff:Tp->Int):∀l:List Tp,(Bg ff l=0->FK ff l = .e1)/\(¬Bg ff l=0->∃w,FK ff l = .e0 w/\ff w=Bg ff l)
 | []=>⟨fun _=>rfl,fun h=>absurd rfl h⟩
 | c::r=>by
  have ih:=fC ff r
  by_cases hp:ff c=0
  ·simp only [Bg,FK,hp,if_true]; exact ih
  ·simp only [Bg,FK,hp,if_false]
   exact ⟨fun h=>h.elim,fun _=>⟨c,rfl,rfl⟩⟩
theorem fD(m:Mo)(BC:(AL m).length<=1048576):∀ (d:Nat) (t:Tp),A3 (AO t)<d->d<=100000001->Pu 58 [.agg (BD m),.agg (AO t),.A2] (.ret (.int .i64 (XJ m d t)))
 | 0,_,h,_=>by omega
 | d+1,t,h,hd=>by
  have h1:=BY t
  have h3:=Tp.BS (Ab t)
  have hk:∀w:Tp,w∈Ab t->Pu 58 [.agg (BD m),.agg (AO w),.A2] (.ret (.int .i64 (XJ m d w))):=fun w hw=>fD m BC d w (by have:=Tp.mem hw; omega) oM
  have tail:∀ (h0:∀w,FK (XJ m d) (Ab t) = .e0 w->Pu 58 [.agg (BD m),.agg (AO t),.A2] (.ret (.int .i64 (XJ m d w)))) (h1:FK (XJ m d) (Ab t) = .e1->Pu 58 [.agg (BD m),.agg (AO t),.A2] (.ret (.int .i64 0))),Pu 58 [.agg (BD m),.agg (AO t),.A2] (.ret (.int .i64 (Bg (XJ m d) (Ab t)))):=by
   intro h0 h1
   by_cases h5:Bg (XJ m d) (Ab t)=0
   ·rw [h5]; exact h1 ((fC _ _).1 h5)
   ·obtain ⟨w,e1,e2⟩:=(fC _ _).2 h5
    rw [<-e2]; exact h0 w e1
  rw [XJ]
  unfold Jj
  by_cases h5:AB t=5
  ·rw [iP h5]; exact A3g m t _ BC hk oM oM h5
  ·rw [iN h5]
   by_cases h4:AB t=4
   ·rw [iP h4]
    by_cases hb:Dx Bc (An t) (AL m)=false
    ·rw [iP hb]; exact A3c m t _ BC hk oM h4 hb
    ·rw [iN hb]
     have GZ:=JQ hb
     by_cases hl:((Ab t).length:Int)=((Ii (AQ Bc (An t) (AL m))).length:Int)
     ·rw [iP hl]; exact tail (A3e m t _ BC hk oM h4 GZ hl.symm) (A3f m t _ BC hk oM h4 GZ hl.symm)
     ·rw [iN hl]; exact A3d m t _ BC hk oM h4 GZ fun e=>hl e.symm
   ·rw [iN h4]; exact tail (A3h m t _ BC hk oM h4 h5) (A3i m t _ BC hk oM h4 h5)
theorem Ah4(m:Mo)(t:Tp)(BC:(AL m).length<=1048576)(hs:A3 (AO t)<=10000000):Pu 58 [.agg (BD m),.agg (AO t),.A2] (.ret (.int .i64 (knF m t))):=fD m BC (A3 (AO t)+1) t oM oM
theorem tO(t:Tp)(hs:A3 (AO t)<=10000000):Pu 57 [.agg (AO t)] (.ret (.int .i64 (E5 t))):=A2x t oM
def Kx(m:Mo)(t:Tp):Int:=(if E5 t=0 then (knF m t) else (E5 t))
theorem r3t(m:Mo)(t:Tp)(BC:(AL m).length<=1048576)(hs:A3 (AO t)<=10000000):Pu 19 [.agg (BD m),.agg (AO t),.A2] (rI (Kx m t)):=by
 by_cases h0:E5 t=0
 ·simp only [Kx,iP h0]; exact pm A9 [cl (@tO (t) hs),B1 h0,cl (@Ah4 (m) (t) BC hs)] func19
 ·simp only [Kx,iN h0]; exact pm A9 [cl (@tO (t) hs),Bi h0] func19
abbrev OS(v:Nv)(name:BA)(j:Int)(e:Ext):S:=S.mk [(1,vS name),(2,.lp 2 0),(6,A6 j)] [(2,Dy v)] e
section
variable (v:Nv) (name:BA) (i:Nat) (e:Ext) (hi:i<(AX v).length) (hN:(AX v).length<=1000000000)
include v name i e hi hN
theorem A3j(A7:AE (List.getD (AX v) i default)=name)(cx:Cx)(Aw:cx.n=29){Q:A4->S->Prop}(hq:Q (.ret) (S.mk [(1,vS name),(2,.lp 2 0),(6,A6 (i:Int)),(4,vS (CD (List.getD (AX v) i default))),(5,.v (.bool true))] [(2,Dy v)] e)):PW prog cx (Au f145 0) (OS v name (i:Int) e) Q:=
 pw A9 29 [bt true,D2 (AX v) (i:Int),Gn (AX v) i hi,bt (ByteArray.toList (AE (List.getD (AX v) i default))==ByteArray.toList name) (BI A7),D2 (AX v) (i:Int),Gn (AX v) i hi] [1,2,6,4,5] [2] Aw hq
theorem A3k(A7:¬AE (List.getD (AX v) i default)=name)(cx:Cx)(Aw:cx.n=29){Q:A4->S->Prop}(hq:Q (.normal) (S.mk [(1,vS name),(2,.lp 2 0),(6,A6 ((i:Int) - 1))] [(2,Dy v)] e)):PW prog cx (Au f145 0) (OS v name (i:Int) e) Q:=
 pw A9 29 [bt true,D2 (AX v) (i:Int),Gn (AX v) i hi,bf (ByteArray.toList (AE (List.getD (AX v) i default))==ByteArray.toList name) (Bp A7),wr ((i:Int) - 1)] [1,2,6,4,5] [2] Aw hq
end
theorem A3l(v:Nv)(name:BA)(i:Nat)(e:Ext)(hi:i=0)(hN:(AX v).length<=1000000000)(cx:Cx)(Aw:cx.n=29){Q:A4->S->Prop}(hq:Q (.exit 0) (S.mk [(1,vS name),(2,.lp 2 0),(6,A6 (-1))] [(2,Dy v)] e)):PW prog cx (Au f145 0) (OS v name (-1) e) Q:=
 pw A9 29 [bf false] [1,2,6,4,5] [2] Aw hq
inductive GU where
 | e0 (el:Vr)
 | e1
def Ff(name:BA):List Vr->GU
 | []=>(GU.e1)
 | el::r=>(if AE el=name then (GU.e0 el) else Ff name r)
def OT(v:Nv)(name:BA)(e:Ext):GU->A4 × S
 | .e0 el=>(.ret,S.mk [(1,vS name),(2,.lp 2 0),(4,vS (CD el)),(5,.v (.bool true))] [(2,Dy v)] e)
 | .e1=>(.exit 0,S.mk [(1,vS name),(2,.lp 2 0)] [(2,Dy v)] e)
theorem fE(v:Nv)(name:BA)(e:Ext)(hN:(AX v).length<=1000000000)(i:Nat)(hi0:i<=(AX v).length)  : (Ob.loop 29 (Au f145 0) (OS v name ((i:Int) - 1)  e) (OT v name e (Ff name (List.reverse (List.take i ((AX v)))))).1 (OT v name e (Ff name (List.reverse (List.take i ((AX v)))))).2).ok prog:=by
 refine Ob.Nq (P:=prog) (α:={ zz:Nat × Unit // zz.1<=(AX v).length }) (fun zz=>OS v name ((zz.1.1:Int) - 1)  e) (fun zz=>zz.1.1) (fun zz=>(OT v name e (Ff name (List.reverse (List.take zz.1.1 ((AX v))))))) ?_ ⟨(i,()),hi0⟩
 clear hi0
 clear  i
 rintro ⟨⟨i,u⟩,hi⟩ cx Aw
 simp only at hi  ⊢
 rcases i with _ | i
 ·rw [show (((0:Nat):Int) - 1) = -1 from rfl]
  have hr:(Ff name (List.reverse (List.take 0 ((AX v)))))=(GU.e1):=by rw [List.take_zero,List.reverse_nil,Ff]
  refine A3l v name 0  e rfl hN   cx Aw (.inr ?_)
  rw [hr]
  exact ⟨by simp,rfl,xr⟩
 ·have Ac:i<(AX v).length:=by omega
  have hd:=Mx Ac
  rw [show (((i+1:Nat):Int) - 1)=(i:Int) by omega]
  by_cases h0:AE (List.getD (AX v) i default)=name
  ·have hr:(Ff name (List.reverse (List.take (i+1) ((AX v)))))=(GU.e0 (List.getD ((AX v)) i default)):=by rw [hd,Ff,iP h0]
   refine A3j v name i  e Ac hN  h0 cx Aw (.inr ?_)
   rw [hr]
   exact ⟨by simp,rfl,xr⟩
  ·have hr:(Ff name (List.reverse (List.take (i+1) ((AX v)))))=(Ff name (List.reverse (List.take i ((AX v))))):=by rw [hd,Ff,iN h0]
   exact A3k v name i  e Ac hN  h0 cx Aw (.inl ⟨rfl,⟨(i,()),by simp only; omega⟩,by simp only; omega,xr,by simp only; rw [hr]⟩)
theorem Abu(v:Nv)(name:BA)(e:Ext)(hN:(AX v).length<=1000000000)(p0:Vr)(Be:(Ff name (List.reverse ((AX v))))=(GU.e0 p0)):(Ob.loop 29 (Au f145 0) (OS v name (((AX v).length:Int) - 1)  e) (OT v name e (GU.e0 p0)).1 (OT v name e (GU.e0 p0)).2).ok prog:=by
 have:=fE v name e hN ((AX v).length)  (Nat.le_refl _)
 rw [List.take_length] at this
 rw [Be] at this
 exact this
theorem Abv(v:Nv)(name:BA)(e:Ext)(hN:(AX v).length<=1000000000)(Be:(Ff name (List.reverse ((AX v))))=(GU.e1)):(Ob.loop 29 (Au f145 0) (OS v name (((AX v).length:Int) - 1)  e) (OT v name e (GU.e1)).1 (OT v name e (GU.e1)).2).ok prog:=by
 have:=fE v name e hN ((AX v).length)  (Nat.le_refl _)
 rw [List.take_length] at this
 rw [Be] at this
 exact this
section
variable (v:Nv) (name:BA) (hN:(AX v).length<=1000000000)
include v name hN
theorem A3m(CX:Vr)(Aa:Ff name (List.reverse (AX v))=GU.e0 CX):Pu 145 [.agg (BP v),.str name] (.ret (.Bf [.str (CD CX),.bool true])):=
 pu A9 (fun e=>[sl (Vr.A0 (AX v)),wr (((AX v).length:Int) - 1),lq (@Abu (v) (name) (e) hN CX Aa)]) func145
theorem A3n(A7:Ff name (List.reverse (AX v))=GU.e1):Pu 145 [.agg (BP v),.str name] (.ret (.Bf [.str Ai,.bool false])):=
 pu A9 (fun e=>[sl (Vr.A0 (AX v)),wr (((AX v).length:Int) - 1),lq (@Abv (v) (name) (e) hN A7)]) func145
end
abbrev tP(v:Nv)(name:BA)(j:Int)(e:Ext):S:=S.mk [(1,vS name),(2,.lp 2 0),(4,.lp 4 0),(6,A6 j)] [(2,Dy v),(4,[vS Ai,.v .A2,vS Ai])] e
inductive MS where
 | e0 (el:Sy)
 | e1
def HV(name:BA):List Sy->MS
 | []=>(MS.e1)
 | el::r=>(if HB el=name then (MS.e0 el) else HV name r)
def fF(v:Nv)(name:BA)(e:Ext):MS->A4 × S
 | .e0 el=>(.ret,S.mk [(1,vS name),(2,.lp 2 0),(4,.lp 4 0),(5,.v (.bool true))] [(2,Dy v),(4,syV el)] e)
 | .e1=>(.exit 0,S.mk [(1,vS name),(2,.lp 2 0),(4,.lp 4 0)] [(2,Dy v),(4,[vS Ai,.v .A2,vS Ai])] e)
theorem fG(v:Nv)(name:BA)(Gp:¬name=ByteArray.mk #[116,97,103])(XF:¬name=ByteArray.mk #[118,97,108])(e:Ext)(hN:(BV v).length<=1000000000):(Ob.loop 35 (Au f188 0) (tP v name 0  e) (fF v name e (HV name ((BV v)))).1 (fF v name e (HV name ((BV v)))).2).ok prog:=by
 refine CL ((BV v).length) (fun j _=>tP v name j  e) (fun i _=>HV name (List.drop i ((BV v)))) (fF v name e) (fun i _=>True) kR ?_ () trivial
 rintro i u hi -
 rcases Nat.lt_or_ge i ((BV v).length) with Ac | Cm
 ·have hd:=At Ac
  by_cases h0:HB (List.getD (BV v) i default)=name
  ·exact lX A9 [sl (Sy.A0 (BV v)),dt ((i:Int)<((BV v).length:Int)),X6 (BV v) (i:Int),xSy (BV v) i Ac,bt (ByteArray.toList (HB (List.getD (BV v) i default))==ByteArray.toList name) (BI h0),X6 (BV v) (i:Int),xSy (BV v) i Ac] (MS.e0 (List.getD ((BV v)) i default)) (by rw [hd,HV,iP h0])
  ·exact lN A9 [sl (Sy.A0 (BV v)),dt ((i:Int)<((BV v).length:Int)),X6 (BV v) (i:Int),xSy (BV v) i Ac,bf (ByteArray.toList (HB (List.getD (BV v) i default))==ByteArray.toList name) (Bp h0),wr ((i:Int)+1)] Ac () trivial (by rw [hd,HV,iN h0])
 ·have he:i=(BV v).length:=by omega
  exact lX A9 [sl (Sy.A0 (BV v)),df ((i:Int)<((BV v).length:Int))] (MS.e1) (by rw [he,List.drop_length,HV])
theorem A3o(v:Nv)(name:BA)(hN:(BV v).length<=1000000000)(A7:name=ByteArray.mk #[116,97,103]):Pu 188 [.agg (BP v),.str name] (.ret (.Bf [.agg [.str (ByteArray.mk #[116,97,103]),.sl 1 [],.str (ByteArray.mk #[73,110,116])],.bool true])):=
 Ob.Ej (Wk.t (Co.c (Wk.a (kr (kn 1 (Co.r _)))) (Co.r _))) (pm A9 [bt (ByteArray.toList name==ByteArray.toList (ByteArray.mk #[116,97,103])) (BI A7)] func188)
section
variable (v:Nv) (name:BA) (hN:(BV v).length<=1000000000) (A7:¬name=ByteArray.mk #[116,97,103])
include v name hN A7
theorem A3p(Aa:name=ByteArray.mk #[118,97,108]):Pu 188 [.agg (BP v),.str name] (.ret (.Bf [.agg [.str (ByteArray.mk #[118,97,108]),.sl 1 [[.str (ByteArray.mk #[67,101,108,108])]],.str (ByteArray.mk #[73,110,116])],.bool true])):=
 pm A9 [bf (ByteArray.toList name==ByteArray.toList (ByteArray.mk #[116,97,103])) (Bp A7),bt (ByteArray.toList name==ByteArray.toList (ByteArray.mk #[118,97,108])) (BI Aa)] func188
theorem A3q(Aa:¬name=ByteArray.mk #[118,97,108])(Iu:Sy)(Az:HV name (BV v)=MS.e0 Iu):Pu 188 [.agg (BP v),.str name] (.ret (.Bf [.agg (Tv Iu),.bool true])):=
 pu A9 (fun e=>[bf (ByteArray.toList name==ByteArray.toList (ByteArray.mk #[116,97,103])) (Bp A7),bf (ByteArray.toList name==ByteArray.toList (ByteArray.mk #[118,97,108])) (Bp Aa),lq (rz (fG (v) (name) A7 Aa (e) hN) Az)]) func188
end
theorem A3r(v:Nv)(name:BA)(hN:(BV v).length<=1000000000)(A7:¬name=ByteArray.mk #[116,97,103])(Aa:¬name=ByteArray.mk #[118,97,108])(Am:HV name (BV v)=MS.e1):Pu 188 [.agg (BP v),.str name] (.ret (.Bf [.agg [.str Ai,.sl 1 [],.str Ai],.bool false])):=
 Ob.Ej (Wk.t (Co.c (Wk.a (kr (kn 1 (Co.r _)))) (Co.r _))) (pu A9 (fun e=>[bf (ByteArray.toList name==ByteArray.toList (ByteArray.mk #[116,97,103])) (Bp A7),bf (ByteArray.toList name==ByteArray.toList (ByteArray.mk #[118,97,108])) (Bp Aa),lq (rz (fG (v) (name) A7 Aa (e) hN) Am)]) func188)
abbrev tQ(v:Nv)(name:BA)(j:Int)(e:Ext):S:=S.mk [(1,vS name),(2,.lp 2 0),(4,.lp 4 0),(6,A6 j)] [(2,Dy v),(4,[vS Ai,.v .A2])] e
inductive MT where
 | e0 (el:Ho)
 | e1
def HW(name:BA):List Ho->MT
 | []=>(MT.e1)
 | el::r=>(if Bj el=name then (MT.e0 el) else HW name r)
def fH(v:Nv)(name:BA)(e:Ext):MT->A4 × S
 | .e0 el=>(.ret,S.mk [(1,vS name),(2,.lp 2 0),(4,.lp 4 0),(5,.v (.bool true))] [(2,Dy v),(4,pY el)] e)
 | .e1=>(.exit 0,S.mk [(1,vS name),(2,.lp 2 0),(4,.lp 4 0)] [(2,Dy v),(4,[vS Ai,.v .A2])] e)
theorem fI(v:Nv)(name:BA)(e:Ext)(hN:(Bd v).length<=1000000000):(Ob.loop 28 (Au f190 0) (tQ v name 0  e) (fH v name e (HW name ((Bd v)))).1 (fH v name e (HW name ((Bd v)))).2).ok prog:=by
 refine CL ((Bd v).length) (fun j _=>tQ v name j  e) (fun i _=>HW name (List.drop i ((Bd v)))) (fH v name e) (fun i _=>True) kR ?_ () trivial
 rintro i u hi -
 rcases Nat.lt_or_ge i ((Bd v).length) with Ac | Cm
 ·have hd:=At Ac
  by_cases h0:Bj (List.getD (Bd v) i default)=name
  ·exact lX A9 [sl (Ho.A0 (Bd v)),dt ((i:Int)<((Bd v).length:Int)),X7 (Bd v) (i:Int),xHo (Bd v) i Ac,bt (ByteArray.toList (Bj (List.getD (Bd v) i default))==ByteArray.toList name) (BI h0),X7 (Bd v) (i:Int),xHo (Bd v) i Ac] (MT.e0 (List.getD ((Bd v)) i default)) (by rw [hd,HW,iP h0])
  ·exact lN A9 [sl (Ho.A0 (Bd v)),dt ((i:Int)<((Bd v).length:Int)),X7 (Bd v) (i:Int),xHo (Bd v) i Ac,bf (ByteArray.toList (Bj (List.getD (Bd v) i default))==ByteArray.toList name) (Bp h0),wr ((i:Int)+1)] Ac () trivial (by rw [hd,HW,iN h0])
 ·have he:i=(Bd v).length:=by omega
  exact lX A9 [sl (Ho.A0 (Bd v)),df ((i:Int)<((Bd v).length:Int))] (MT.e1) (by rw [he,List.drop_length,HW])
theorem A3s(v:Nv)(name:BA)(hN:(Bd v).length<=1000000000)(CX:Ho)(Aa:HW name (Bd v)=MT.e0 CX):Pu 190 [.agg (BP v),.str name] (.ret (.Bf [.agg (XC CX),.bool true])):=
 pu A9 (fun e=>[lq (rz (fI (v) (name) (e) hN) Aa)]) func190
theorem A3t(v:Nv)(name:BA)(hN:(Bd v).length<=1000000000)(A7:HW name (Bd v)=MT.e1):Pu 190 [.agg (BP v),.str name] (.ret (.Bf [.agg [.str Ai,.sl 2 []],.bool false])):=
 Ob.Ej (Wk.t (Co.c (Wk.a (kr (kn 2 (Co.r _)))) (Co.r _))) (pu A9 (fun e=>[lq (rz (fI (v) (name) (e) hN) A7)]) func190)
def Ky(t:Tp):BA:=(if AB t=1 then (ByteArray.mk #[73,110,116]) else (if AB t=2 then (ByteArray.mk #[66,111,111,108]) else (if AB t=3 then (ByteArray.mk #[67,101,108,108]) else (if AB t=4 then (if ((Ab t).length:Int)=0 then (An t) else Ai) else Ai))))
def Kz(t:Tp):Bool:=(if AB t=1 then true else (if AB t=2 then true else (if AB t=3 then true else (if AB t=4 then (if ((Ab t).length:Int)=0 then true else false) else false))))
theorem rOf(t:Tp):Pu 96 [.agg (AO t)] (.ret (.Bf [.str (Ky t),.bool (Kz t)])):=by
 by_cases h0:AB t=1
 ·simp only [Ky,Kz,iP h0]; exact pm A9 [Bb h0] func96
 ·by_cases h1:AB t=2
  ·simp only [Ky,Kz,iN h0,iP h1]; exact pm A9 [Ay h0,Bb h1] func96
  ·by_cases h2:AB t=3
   ·simp only [Ky,Kz,iN h0,iN h1,iP h2]; exact pm A9 [Ay h0,Ay h1,Bb h2] func96
   ·by_cases h3:AB t=4
    ·by_cases h4:((Ab t).length:Int)=0
     ·simp only [Ky,Kz,iN h0,iN h1,iN h2,iP h3,iP h4]; exact pm A9 [Ay h0,Ay h1,Ay h2,Bb h3,sl (Tp.A0 (Ab t)),Bb h4] func96
     ·simp only [Ky,Kz,iN h0,iN h1,iN h2,iP h3,iN h4]; exact pm A9 [Ay h0,Ay h1,Ay h2,Bb h3,sl (Tp.A0 (Ab t)),Ay h4] func96
    ·simp only [Ky,Kz,iN h0,iN h1,iN h2,iN h3]; exact pm A9 [Ay h0,Ay h1,Ay h2,Ay h3] func96
abbrev tR(l:List Vr)(u:Vr)(j:Int)(out:List Vr)(e:Ext):S:=S.mk [(0,vL 2 (Vr.cs l)),(3,.lp 3 0),(4,.v .A2),(5,.uniq 104 2 (Vr.cs out)),(6,A6 j)] [(3,Qb u)] e
def G6(u:Vr):List Vr->(List Vr)->(List Vr)
 | [],out=>(out)
 | el::r,out=>(if AE el=AE u then G6 u r (out) else G6 u r (out++[el]))
def fJ(l:List Vr)(u:Vr)(e:Ext)(p:(List Vr)):A4 × S:=(.exit 0,S.mk [(0,vL 2 (Vr.cs l)),(3,.lp 3 0),(4,.v .A2),(5,.uniq 104 2 (Vr.cs p))] [(3,Qb u)] e)
theorem rad(l:List Vr)(u:Vr)(out:List Vr)(e:Ext)(hN:l.length<=1000000000)(hv:List.length out<=0):(Ob.loop 32 (Au f129 0) (tR l u 0 out e) (fJ l u e (G6 u (l)  out)).1 (fJ l u e (G6 u (l)  out)).2).ok prog:=by
 refine CL l.length (fun j out=>tR l u j out e) (fun i out=>G6 u (List.drop i (l))  out) (fJ l u e) (fun i out=>(out.length<=i)) kR ?_ out (by first | exact hv | omega)
 rintro i out hi hv
 try simp only at hv
 rcases Nat.lt_or_ge i (l.length) with Ac | Cm
 ·have hd:=At Ac
  by_cases h0:AE (List.getD l i default)=AE u
  ·exact lN A9 [sl (Vr.A0 l),dt ((i:Int)<(l.length:Int)),D2 l (i:Int),Gn l i Ac,bf (!ByteArray.toList (AE (List.getD l i default))==ByteArray.toList (AE u)) (AI (BI h0)),wr ((i:Int)+1)] Ac (out) (by first | assumption | omega | (apply sI <;> first | assumption | omega | decide) | (apply sJ <;> first | assumption | omega | decide) | (simp only [List.length_append,List.length_cons,List.length_nil] at *; omega) | simp_all) (by rw [hd,G6,iP h0])
  ·exact lS A9 [sl (Vr.A0 l),dt ((i:Int)<(l.length:Int)),D2 l (i:Int),Gn l i Ac,bt (!ByteArray.toList (AE (List.getD l i default))==ByteArray.toList (AE u)) (B0 (Bp h0)),D2 l (i:Int),Gn l i Ac,am (List.length (Vr.cs out++(fun x=>Prod.snd x) (1+1,[List.take ((fun x=>TypeInfo.size x) (Tables.types (Program.toTables prog))[104]) (List.drop 0 (FU (List.getD l i default)))])) * (31+1)<=140737488355328) (by (simp only [List.length_append,List.length_cons,List.length_nil,Vr.A0]; omega)),wr ((i:Int)+1)] [0,3,4,5,6] [3] Ac (out++[List.getD l i default]) (S.mk [(0,vL 2 (Vr.cs l)),(3,.lp 3 0),(4,.v .A2),(5,.uniq 104 2 (Vr.cs out++[List.take (TypeInfo.size (Tables.types (Program.toTables prog))[104]) (List.drop 0 (FU (List.getD l i default)))])),(6,A6 ((i:Int)+1))] [(3,Qb u)] e) ⟨⟨W,W,W,(.inl (by first | (simp only [List.nil_append,AK,AF,Pr.A1,Tp.A1,Ex.A1,Vr.A1,Df.A1]; done) | (simp only [List.nil_append,AK,AF,Pr.A1,Tp.A1,Ex.A1,Vr.A1,Df.A1]; rfl))),W,B7⟩,⟨Ws,B7⟩,rfl⟩ (by first | assumption | omega | (apply sI <;> first | assumption | omega | decide) | (apply sJ <;> first | assumption | omega | decide) | (simp only [List.length_append,List.length_cons,List.length_nil] at *; omega) | simp_all) (by rw [hd,G6,iN h0])
 ·have he:i=l.length:=by omega
  exact lX A9 [sl (Vr.A0 l),df ((i:Int)<(l.length:Int))] (out) (by rw [he,List.drop_length,G6])
abbrev tS(a:List BA)(b:List BA)(j:Int)(e:Ext):S:=S.mk [(0,vL 1 (Ae a)),(1,vL 1 (Ae b)),(5,A6 j)] [] e
inductive Qq where
 | e0
 | e1
def Jk(b:List BA):List BA->Nat->Qq
 | [],i=>(Qq.e1)
 | el::r,i=>(if el=List.getD b i Ai then Jk b r (i+1)  else (Qq.e0))
def fK(a:List BA)(b:List BA)(e:Ext):Qq->A4 × S
 | .e0=>(.ret,S.mk [(0,vL 1 (Ae a)),(1,vL 1 (Ae b)),(4,.v (.bool false))] [] e)
 | .e1=>(.exit 0,S.mk [(0,vL 1 (Ae a)),(1,vL 1 (Ae b))] [] e)
theorem fL(a b:List BA)(jU:(a.length:Int)=(b.length:Int))(e:Ext)(hN:a.length<=1000000000):(Ob.loop 26 (Au f189 0) (tS a b 0  e) (fK a b e (Jk b (a) 0)).1 (fK a b e (Jk b (a) 0)).2).ok prog:=by
 refine CL a.length (fun j _=>tS a b j  e) (fun i _=>Jk b (List.drop i (a)) i) (fK a b e) (fun i _=>True) kR ?_ () trivial
 rintro i u hi -
 rcases Nat.lt_or_ge i (a.length) with Ac | Cm
 ·have hd:=CU Ac
  by_cases h0:List.getD a i Ai=List.getD b i Ai
  ·exact lN A9 [sl (A5 a),dt ((i:Int)<(a.length:Int)),CH a (i:Int),DU a i Ac,CH b (i:Int),DU b i,bf (!ByteArray.toList (List.getD a i Ai)==ByteArray.toList (List.getD b i Ai)) (AI (BI h0)),wr ((i:Int)+1)] Ac () trivial (by rw [hd,Jk,iP h0])
  ·exact lX A9 [sl (A5 a),dt ((i:Int)<(a.length:Int)),CH a (i:Int),DU a i Ac,CH b (i:Int),DU b i,bt (!ByteArray.toList (List.getD a i Ai)==ByteArray.toList (List.getD b i Ai)) (B0 (Bp h0))] (Qq.e0) (by rw [hd,Jk,iN h0])
 ·have he:i=a.length:=by omega
  exact lX A9 [sl (A5 a),df ((i:Int)<(a.length:Int))] (Qq.e1) (by rw [he,List.drop_length,Jk])
theorem fM(name:BA):∀l:List Vr,Ff name l=if ix AE name l<l.length then .e0 (l.getD (ix AE name l) default) else .e1
 | []=>by simp [Ff,ix]
 | c::r=>by
  by_cases h:AE c=name
  ·simp [Ff,ix,h]
  ·simp only [Ff,ix,h,if_false,fM name r,List.length_cons,Nat.add_lt_add_iff_right,List.getD_cons_succ]
theorem fN(name:BA):∀l:List Sy,HV name l=if ix HB name l<l.length then .e0 (l.getD (ix HB name l) default) else .e1
 | []=>by simp [HV,ix]
 | c::r=>by
  by_cases h:HB c=name
  ·simp [HV,ix,h]
  ·simp only [HV,ix,h,if_false,fN name r,List.length_cons,Nat.add_lt_add_iff_right,List.getD_cons_succ]
theorem fO(name:BA):∀l:List Ho,HW name l=if ix Bj name l<l.length then .e0 (l.getD (ix Bj name l) default) else .e1
 | []=>by simp [HW,ix]
 | c::r=>by
  by_cases h:Bj c=name
  ·simp [HW,ix,h]
  ·simp only [HW,ix,h,if_false,fO name r,List.length_cons,Nat.add_lt_add_iff_right,List.getD_cons_succ]
theorem Abw(v:Nv)(name:BA)(hW:Ba v):Pu 145 [.agg (BP v),.str name] (.ret (.Bf [.str (CD (AQ AE name (AX v).reverse)),.bool (Dx AE name (AX v).reverse)])):=by
 have hN:(AX v).length<=1000000000:=by have:=hW.w; omega
 unfold Dx AQ
 by_cases h:ix AE name (AX v).reverse<(AX v).reverse.length
 ·rw [iP h,decide_eq_true h]; exact A3m v name hN _ (by rw [fM,iP h])
 ·rw [iN h,decide_eq_false h]; exact A3n v name hN (by rw [fM,iN h])
theorem RC(v:Nv)(name:BA)(hW:Ba v):Pu 188 [.agg (BP v),.str name] (.ret (.Bf [.agg (Tv (EV v name)),.bool (Lz v name)])):=by
 have hN:=hW.s
 unfold Lz EV
 by_cases h1:name=Tc
 ·rw [iP h1,iP h1]; exact A3o v name hN h1
 ·rw [iN h1,iN h1]
  by_cases h2:name=dJ
  ·rw [iP h2,iP h2]; exact A3p v name hN h1 h2
  ·rw [iN h2,iN h2]
   unfold Dx AQ
   by_cases h:ix HB name (BV v)<(BV v).length
   ·rw [iP h,decide_eq_true h]; exact A3q v name hN h1 h2 _ (by rw [fN,iP h])
   ·rw [iN h,decide_eq_false h]; exact A3r v name hN h1 h2 (by rw [fN,iN h])
theorem nI(v:Nv)(name:BA)(hW:Ba v):Pu 190 [.agg (BP v),.str name] (.ret (.Bf [.agg (XC (AQ Bj name (Bd v))),.bool (Dx Bj name (Bd v))])):=by
 have hN:=hW.h
 unfold Dx AQ
 by_cases h:ix Bj name (Bd v)<(Bd v).length
 ·rw [iP h,decide_eq_true h]; exact A3s v name hN _ (by rw [fO,iP h])
 ·rw [iN h,decide_eq_false h]; exact A3t v name hN (by rw [fO,iN h])
theorem Abx(t:Tp):Pu 96 [.agg (AO t)] (.ret (.Bf [.str (Eo t),.bool (CY t)])):=rOf t
theorem VX(u:Vr):∀l out:List Vr,G6 u l out=out++Rt u l
 | [],out=>by simp [G6,Rt]
 | y::r,out=>by
  by_cases h:AE y=AE u
  ·rw [G6,iP h,VX u r]; simp [Rt,h]
  ·rw [G6,iN h,VX u r]; simp [Rt,h]
theorem A3u{u:Vr}{l:List Vr}(hN:l.length<=100000000):(G6 u l []).length<=100000000:=by
 rw [VX,List.nil_append]; exact Nat.le_trans (List.length_filter_le _ _) hN
theorem Ah5(l:List Vr)(u:Vr)(hN:l.length<=100000000)(hr:(G6 u l []).length<=100000000):Pu 129 [.sl 2 (Vr.cs l),.agg (FU u)] (.own 104 2 (Vr.cs (G6 u l [])++[FU u])):=
 pu A9 (fun e=>[lp (S.mk [(0,vL 2 (Vr.cs l)),(3,.lp 3 0),(4,.v .A2),(5,.v .A2),(6,A6 0)] [(3,Qb u)] e) (@rad (l) (u) ([]) (e) oM (by (simp only [List.length_nil]; omega))) ⟨⟨W,W,W,Wq,W,B7⟩,⟨⟨W,W,B7⟩,B7⟩,rfl⟩,am (List.length (Vr.cs (G6 u l [])++(fun x=>Prod.snd x) (1+1,[FU u])) * (31+1)<=140737488355328) (by (simp only [List.length_append,List.length_cons,List.length_nil,Vr.A0]; omega))]) func129
theorem Ah6(l:List Vr)(u:Vr)(hN:l.length<=100000000):Pu 129 [.sl 2 (Vr.cs l),.agg (FU u)] (.own 104 2 (Vr.cs (Rt u l++[u]))):=by
 have:=Ah5 l u hN (A3u hN)
 rw [VX,List.nil_append] at this
 rw [Vr.A1]
 exact this
theorem Aby(v:Nv)(u:Vr)(hE:Ba v):Pu 129 [.sl 2 (Vr.cs (AX v)),.agg (FU u)] (.own 104 2 (Vr.cs (Rt u (AX v)++[u]))):=Ah6 _ u hE.w
theorem rwi(v:Nv)(u:Vr)(hE:Ba v):Pu 79 [.agg (BP v),.agg (FU u)] (rA [.sl 2 (Vr.cs (Rt u (AX v)++[u])),.sl 3 (Sy.cs (BV v)),.sl 2 (Ho.cs (Bd v))]):=
 pm A9 [cl (@Aby (v) (u) hE)] func79
theorem tT(b:List BA):∀ (l:List BA) (i:Nat),l.length+i=b.length->Jk b l i=if l=b.drop i then .e1 else .e0
 | [],i,h=>by
  have:b.drop i=[]:=List.drop_eq_nil_of_le (by simp at h; omega)
  rw [this]; simp [Jk]
 | c::r,i,h=>by
  have hi:i<b.length:=by simp at h; omega
  have ih:=tT b r (i+1) (by simp at h; omega)
  rw [CU hi]
  by_cases hc:c=b.getD i Ai
  ·simp only [Jk,hc,List.cons.injEq,true_and,if_true]; exact ih
  ·simp only [Jk,hc,List.cons.injEq,false_and,if_false]
theorem Abz(a b:List BA)(hN:a.length<=1000000000):Pu 189 [.sl 1 (Ae a),.sl 1 (Ae b)] (.ret (.bool (decide (a=b)))):=by
 by_cases jU:(a.length:Int)=(b.length:Int)
 ·have he:=tT b a 0 oM
  rw [List.drop_zero] at he
  by_cases h:a=b
  ·rw [decide_eq_true h]; exact pu A9 (fun e=>[sl (A5 a),sl (A5 b),nn (a.length:Int) (b.length:Int) jU,lq (rz (fL (a) (b) jU (e) hN) (by rw [he,iP h]))]) func189
  ·rw [decide_eq_false h]; exact pu A9 (fun e=>[sl (A5 a),sl (A5 b),nn (a.length:Int) (b.length:Int) jU,lq (rz (fL (a) (b) jU (e) hN) (by rw [he,iN h]))]) func189
 ·rw [decide_eq_false fun e=>jU (by rw [e])]; exact pm A9 [sl (A5 a),sl (A5 b),nt (a.length:Int) (b.length:Int) jU] func189
abbrev tU(l:List BA)(a:BA)(j:Int)(e:Ext):S:=S.mk [(0,vL 1 (Ae l)),(1,vS a),(5,A6 j)] [] e
inductive Qr where
 | e0
 | e1
def Jl(a:BA):List BA->Qr
 | []=>(Qr.e1)
 | el::r=>(if el=a then Jl a r  else (Qr.e0))
def fP(l:List BA)(a:BA)(e:Ext):Qr->A4 × S
 | .e0=>(.ret,S.mk [(0,vL 1 (Ae l)),(1,vS a),(4,.v (.bool false))] [] e)
 | .e1=>(.exit 0,S.mk [(0,vL 1 (Ae l)),(1,vS a)] [] e)
theorem fQ(l:List BA)(a:BA)(e:Ext)(hN:l.length<=1000000000):(Ob.loop 18 (Au f191 0) (tU l a 0  e) (fP l a e (Jl a (l))).1 (fP l a e (Jl a (l))).2).ok prog:=by
 refine CL l.length (fun j _=>tU l a j  e) (fun i _=>Jl a (List.drop i (l))) (fP l a e) (fun i _=>True) kR ?_ () trivial
 rintro i u hi -
 rcases Nat.lt_or_ge i (l.length) with Ac | Cm
 ·have hd:=CU Ac
  by_cases h0:List.getD l i Ai=a
  ·exact lN A9 [sl (A5 l),dt ((i:Int)<(l.length:Int)),CH l (i:Int),DU l i Ac,bf (!ByteArray.toList (List.getD l i Ai)==ByteArray.toList a) (AI (BI h0)),wr ((i:Int)+1)] Ac () trivial (by rw [hd,Jl,iP h0])
  ·exact lX A9 [sl (A5 l),dt ((i:Int)<(l.length:Int)),CH l (i:Int),DU l i Ac,bt (!ByteArray.toList (List.getD l i Ai)==ByteArray.toList a) (B0 (Bp h0))] (Qr.e0) (by rw [hd,Jl,iN h0])
 ·have he:i=l.length:=by omega
  exact lX A9 [sl (A5 l),df ((i:Int)<(l.length:Int))] (Qr.e1) (by rw [he,List.drop_length,Jl])
theorem fR(a:BA):∀l:List BA,Jl a l=if Ck a l=true then .e1 else .e0
 | []=>by simp [Jl,Ck]
 | c::r=>by
  by_cases h:c=a
  ·simp [Jl,Ck,h,fR a r]
  ·simp [Jl,Ck,h]
theorem Ll(l:List BA)(a:BA)(hN:l.length<=1000000000):Pu 191 [.sl 1 (Ae l),.str a] (.ret (.bool (Ck a l))):=by
 cases h:Ck a l with
 | true=>exact pu A9 (fun e=>[lq (rz (fQ (l) (a) (e) hN) (by rw [fR,iP h]))]) func191
 | false=>exact pu A9 (fun e=>[lq (rz (fQ (l) (a) (e) hN) (by rw [fR,iN (by rw [h]; decide)]))]) func191
section
variable (v:Nv) (name:BA) (l:List BA) (hW:Ba v) (Br:l.length<=1000000000)
include v name l hW Br
theorem Ac0(A7:Lz v name=false):Pu 146 [.agg (BP v),.str name,.sl 1 (Ae l)] (.ret (.Bf [.str Ai,pI 5])):=
 pm A9 [cl (@RC (v) (name) hW),AV (B0 A7)] func146
theorem Ac1(A7:Lz v name=true)(Aa:name=ByteArray.mk #[116,97,103])(Am:¬(l.length:Int)=1):Pu 146 [.agg (BP v),.str name,.sl 1 (Ae l)] (.ret (.Bf [.str Ai,pI 13])):=
 pm A9 [cl (@RC (v) (name) hW),AM (AI A7),bt (ByteArray.toList name==ByteArray.toList (ByteArray.mk #[116,97,103])) (BI Aa),sl (A5 l),Bi Am] func146
theorem Ac2(A7:Lz v name=true)(Aa:name=ByteArray.mk #[116,97,103])(Am:(l.length:Int)=1)(Az:List.getD l 0 Ai=ByteArray.mk #[73,110,116]):Pu 146 [.agg (BP v),.str name,.sl 1 (Ae l)] (.ret (.Bf [.str Ai,pI 11])):=
 pm A9 [cl (@RC (v) (name) hW),AM (AI A7),bt (ByteArray.toList name==ByteArray.toList (ByteArray.mk #[116,97,103])) (BI Aa),sl (A5 l),B1 Am,CH l 0,DU l 0,rp 5 (bt (ByteArray.toList (List.getD l 0 Ai)==ByteArray.toList (ByteArray.mk #[73,110,116])) (BI Az)),rp 6 (bt true)] func146
theorem Ac3(A7:Lz v name=true)(Aa:name=ByteArray.mk #[116,97,103])(Am:(l.length:Int)=1)(Az:¬List.getD l 0 Ai=ByteArray.mk #[73,110,116])(AP:List.getD l 0 Ai=ByteArray.mk #[66,111,111,108]):Pu 146 [.agg (BP v),.str name,.sl 1 (Ae l)] (.ret (.Bf [.str Ai,pI 11])):=
 pm A9 [cl (@RC (v) (name) hW),AM (AI A7),bt (ByteArray.toList name==ByteArray.toList (ByteArray.mk #[116,97,103])) (BI Aa),sl (A5 l),B1 Am,CH l 0,DU l 0,rp 2 (bf (ByteArray.toList (List.getD l 0 Ai)==ByteArray.toList (ByteArray.mk #[73,110,116])) (Bp Az)),CH l 0,DU l 0,rp 3 (bf (ByteArray.toList (List.getD l 0 Ai)==ByteArray.toList (ByteArray.mk #[73,110,116])) (Bp Az)),rp 5 (bt (ByteArray.toList (List.getD l 0 Ai)==ByteArray.toList (ByteArray.mk #[66,111,111,108])) (BI AP)),bt true] func146
theorem Ac4(A7:Lz v name=true)(Aa:name=ByteArray.mk #[116,97,103])(Am:(l.length:Int)=1)(Az:¬List.getD l 0 Ai=ByteArray.mk #[73,110,116])(AP:¬List.getD l 0 Ai=ByteArray.mk #[66,111,111,108])(Bu:List.getD l 0 Ai=ByteArray.mk #[67,101,108,108]):Pu 146 [.agg (BP v),.str name,.sl 1 (Ae l)] (.ret (.Bf [.str Ai,pI 11])):=
 pm A9 [cl (@RC (v) (name) hW),AM (AI A7),bt (ByteArray.toList name==ByteArray.toList (ByteArray.mk #[116,97,103])) (BI Aa),sl (A5 l),B1 Am,CH l 0,DU l 0,rp 2 (bf (ByteArray.toList (List.getD l 0 Ai)==ByteArray.toList (ByteArray.mk #[73,110,116])) (Bp Az)),CH l 0,DU l 0,rp 3 (bf (ByteArray.toList (List.getD l 0 Ai)==ByteArray.toList (ByteArray.mk #[73,110,116])) (Bp Az)),rp 2 (bf (ByteArray.toList (List.getD l 0 Ai)==ByteArray.toList (ByteArray.mk #[66,111,111,108])) (Bp AP)),CH l 0,DU l 0,rp 3 (bf (ByteArray.toList (List.getD l 0 Ai)==ByteArray.toList (ByteArray.mk #[66,111,111,108])) (Bp AP)),bt (ByteArray.toList (List.getD l 0 Ai)==ByteArray.toList (ByteArray.mk #[67,101,108,108])) (BI Bu)] func146
theorem Ac5(A7:Lz v name=true)(Aa:name=ByteArray.mk #[116,97,103])(Am:(l.length:Int)=1)(Az:¬List.getD l 0 Ai=ByteArray.mk #[73,110,116])(AP:¬List.getD l 0 Ai=ByteArray.mk #[66,111,111,108])(Bu:¬List.getD l 0 Ai=ByteArray.mk #[67,101,108,108]):Pu 146 [.agg (BP v),.str name,.sl 1 (Ae l)] (.ret (.Bf [.str (ByteArray.mk #[73,110,116]),pI 0])):=
 pm A9 [cl (@RC (v) (name) hW),AM (AI A7),bt (ByteArray.toList name==ByteArray.toList (ByteArray.mk #[116,97,103])) (BI Aa),sl (A5 l),B1 Am,CH l 0,DU l 0,rp 2 (bf (ByteArray.toList (List.getD l 0 Ai)==ByteArray.toList (ByteArray.mk #[73,110,116])) (Bp Az)),CH l 0,DU l 0,rp 3 (bf (ByteArray.toList (List.getD l 0 Ai)==ByteArray.toList (ByteArray.mk #[73,110,116])) (Bp Az)),rp 2 (bf (ByteArray.toList (List.getD l 0 Ai)==ByteArray.toList (ByteArray.mk #[66,111,111,108])) (Bp AP)),CH l 0,DU l 0,rp 3 (bf (ByteArray.toList (List.getD l 0 Ai)==ByteArray.toList (ByteArray.mk #[66,111,111,108])) (Bp AP)),bf (ByteArray.toList (List.getD l 0 Ai)==ByteArray.toList (ByteArray.mk #[67,101,108,108])) (Bp Bu)] func146
theorem Ac6(A7:Lz v name=true)(Aa:¬name=ByteArray.mk #[116,97,103])(Am:¬(l.length:Int)=((DW (EV v name)).length:Int)):Pu 146 [.agg (BP v),.str name,.sl 1 (Ae l)] (.ret (.Bf [.str Ai,pI 13])):=
 pm A9 [cl (@RC (v) (name) hW),AM (AI A7),bf (ByteArray.toList name==ByteArray.toList (ByteArray.mk #[116,97,103])) (Bp Aa),sl (A5 l),sl (A5 (DW (EV v name))),Bi Am] func146
theorem Ac7(A7:Lz v name=true)(Aa:¬name=ByteArray.mk #[116,97,103])(Am:(l.length:Int)=((DW (EV v name)).length:Int))(Az:¬l=DW (EV v name)):Pu 146 [.agg (BP v),.str name,.sl 1 (Ae l)] (.ret (.Bf [.str Ai,pI 11])):=
 pm A9 [cl (@RC (v) (name) hW),AM (AI A7),bf (ByteArray.toList name==ByteArray.toList (ByteArray.mk #[116,97,103])) (Bp Aa),sl (A5 l),sl (A5 (DW (EV v name))),B1 Am,cl (@Abz (l) (DW (EV v name)) Br),bt (!decide (l=DW (EV v name))) (B0 (dF Az))] func146
theorem Ac8(A7:Lz v name=true)(Aa:¬name=ByteArray.mk #[116,97,103])(Am:(l.length:Int)=((DW (EV v name)).length:Int))(Az:l=DW (EV v name)):Pu 146 [.agg (BP v),.str name,.sl 1 (Ae l)] (.ret (.Bf [.str (pQ (EV v name)),pI 0])):=
 pm A9 [cl (@RC (v) (name) hW),AM (AI A7),bf (ByteArray.toList name==ByteArray.toList (ByteArray.mk #[116,97,103])) (Bp Aa),sl (A5 l),sl (A5 (DW (EV v name))),B1 Am,cl (@Abz (l) (DW (EV v name)) Br),bf (!decide (l=DW (EV v name))) (AI (dT Az))] func146
end
abbrev tW(v:Nv)(name:BA)(l:List BA)(j:Int)(e:Ext):S:=S.mk [(2,vL 1 (Ae l)),(8,.lp 8 0),(10,A6 j)] [(8,pY (AQ Bj name (Bd v)))] e
inductive Qs where
 | e0
 | e1
def Jm(v:Nv)(name:BA):List BA->Nat->Qs
 | [],i=>(Qs.e1)
 | el::r,i=>(if el=CD (List.getD (E0 (AQ Bj name (Bd v))) i default) then Jm v name r (i+1)  else (Qs.e0))
def fS(v:Nv)(name:BA)(l:List BA)(e:Ext):Qs->A4 × S
 | .e0=>(.ret,S.mk [(2,vL 1 (Ae l)),(8,.lp 8 0),(6,vS Ai),(7,A6 11)] [(8,pY (AQ Bj name (Bd v)))] e)
 | .e1=>(.exit 0,S.mk [(2,vL 1 (Ae l)),(8,.lp 8 0)] [(8,pY (AQ Bj name (Bd v)))] e)
theorem fT(v:Nv)(name:BA)(l:List BA)(hW:Ba v)(RL:Dx Bj name (Bd v)=true)(hlen:(l.length:Int)=((E0 (AQ Bj name (Bd v))).length:Int))(e:Ext)(hN:l.length<=1000000000):(Ob.loop 42 (Au f147 0) (tW v name l 0  e) (fS v name l e (Jm v name (l) 0)).1 (fS v name l e (Jm v name (l) 0)).2).ok prog:=by
 refine CL l.length (fun j _=>tW v name l j  e) (fun i _=>Jm v name (List.drop i (l)) i) (fS v name l e) (fun i _=>True) kR ?_ () trivial
 rintro i u hi -
 rcases Nat.lt_or_ge i (l.length) with Ac | Cm
 ·have hd:=CU Ac
  by_cases h0:List.getD l i Ai=CD (List.getD (E0 (AQ Bj name (Bd v))) i default)
  ·exact lN A9 [sl (A5 l),dt ((i:Int)<(l.length:Int)),CH l (i:Int),DU l i Ac,D2 (E0 (AQ Bj name (Bd v))) (i:Int),Gn (E0 (AQ Bj name (Bd v))) i,bf (!ByteArray.toList (List.getD l i Ai)==ByteArray.toList (CD (List.getD (E0 (AQ Bj name (Bd v))) i default))) (AI (BI h0)),wr ((i:Int)+1)] Ac () trivial (by rw [hd,Jm,iP h0])
  ·exact lX A9 [sl (A5 l),dt ((i:Int)<(l.length:Int)),CH l (i:Int),DU l i Ac,D2 (E0 (AQ Bj name (Bd v))) (i:Int),Gn (E0 (AQ Bj name (Bd v))) i,bt (!ByteArray.toList (List.getD l i Ai)==ByteArray.toList (CD (List.getD (E0 (AQ Bj name (Bd v))) i default))) (B0 (Bp h0))] (Qs.e0) (by rw [hd,Jm,iN h0])
 ·have he:i=l.length:=by omega
  exact lX A9 [sl (A5 l),df ((i:Int)<(l.length:Int))] (Qs.e1) (by rw [he,List.drop_length,Jm])
section
variable (o:Int) (l:List BA) (Br:l.length<=1000000000) (LK:o=10∨o=11->2<=l.length)
include o l Br LK
theorem Ac9(A7:o=6)(Aa:Ck (ByteArray.mk #[73,110,116]) l=true):Pu 148 [pI o,.sl 1 (Ae l)] (.ret (.Bf [.str (ByteArray.mk #[73,110,116]),pI 0])):=
 pm A9 [rp 2 (Bb A7),cl (@Ll (l) (ByteArray.mk #[73,110,116]) Br),AV Aa] func148
theorem Aca(A7:o=6)(Aa:Ck (ByteArray.mk #[73,110,116]) l=false):Pu 148 [pI o,.sl 1 (Ae l)] (.ret (.Bf [.str Ai,pI 11])):=
 pm A9 [rp 2 (Bb A7),cl (@Ll (l) (ByteArray.mk #[73,110,116]) Br),AM Aa] func148
theorem Acb(A7:¬o=6)(Aa:o=7)(Am:Ck (ByteArray.mk #[73,110,116]) l=true):Pu 148 [pI o,.sl 1 (Ae l)] (.ret (.Bf [.str (ByteArray.mk #[73,110,116]),pI 0])):=
 pm A9 [Ay A7,rp 2 (Bb Aa),cl (@Ll (l) (ByteArray.mk #[73,110,116]) Br),AV Am] func148
theorem Acd(A7:¬o=6)(Aa:o=7)(Am:Ck (ByteArray.mk #[73,110,116]) l=false):Pu 148 [pI o,.sl 1 (Ae l)] (.ret (.Bf [.str Ai,pI 11])):=
 pm A9 [Ay A7,rp 2 (Bb Aa),cl (@Ll (l) (ByteArray.mk #[73,110,116]) Br),AM Am] func148
theorem Ace(A7:¬o=6)(Aa:¬o=7)(Am:o=8)(Az:Ck (ByteArray.mk #[73,110,116]) l=true):Pu 148 [pI o,.sl 1 (Ae l)] (.ret (.Bf [.str (ByteArray.mk #[73,110,116]),pI 0])):=
 pm A9 [Ay A7,Ay Aa,rp 2 (Bb Am),cl (@Ll (l) (ByteArray.mk #[73,110,116]) Br),AV Az] func148
theorem Acf(A7:¬o=6)(Aa:¬o=7)(Am:o=8)(Az:Ck (ByteArray.mk #[73,110,116]) l=false):Pu 148 [pI o,.sl 1 (Ae l)] (.ret (.Bf [.str Ai,pI 11])):=
 pm A9 [Ay A7,Ay Aa,rp 2 (Bb Am),cl (@Ll (l) (ByteArray.mk #[73,110,116]) Br),AM Az] func148
theorem Acg(A7:¬o=6)(Aa:¬o=7)(Am:¬o=8)(Az:o=9)(AP:Ck (ByteArray.mk #[73,110,116]) l=true):Pu 148 [pI o,.sl 1 (Ae l)] (.ret (.Bf [.str (ByteArray.mk #[73,110,116]),pI 0])):=
 pm A9 [Ay A7,Ay Aa,Ay Am,Bb Az,cl (@Ll (l) (ByteArray.mk #[73,110,116]) Br),AV AP] func148
theorem Ach(A7:¬o=6)(Aa:¬o=7)(Am:¬o=8)(Az:o=9)(AP:Ck (ByteArray.mk #[73,110,116]) l=false):Pu 148 [pI o,.sl 1 (Ae l)] (.ret (.Bf [.str Ai,pI 11])):=
 pm A9 [Ay A7,Ay Aa,Ay Am,Bb Az,cl (@Ll (l) (ByteArray.mk #[73,110,116]) Br),AM AP] func148
theorem Aci(A7:¬o=6)(Aa:¬o=7)(Am:¬o=8)(Az:¬o=9)(AP:o=10)(Bu:List.getD l 0 Ai=List.getD l 1 Ai):Pu 148 [pI o,.sl 1 (Ae l)] (.ret (.Bf [.str (ByteArray.mk #[66,111,111,108]),pI 0])):=
 pm A9 [Ay A7,Ay Aa,Ay Am,Ay Az,rp 2 (Bb AP),CH l 0,DU l 0,CH l 1,DU l 1,bt (ByteArray.toList (List.getD l 0 Ai)==ByteArray.toList (List.getD l 1 Ai)) (BI Bu)] func148
theorem A3v(A7:¬o=6)(Aa:¬o=7)(Am:¬o=8)(Az:¬o=9)(AP:o=10)(Bu:¬List.getD l 0 Ai=List.getD l 1 Ai):Pu 148 [pI o,.sl 1 (Ae l)] (.ret (.Bf [.str Ai,pI 11])):=
 pm A9 [Ay A7,Ay Aa,Ay Am,Ay Az,rp 2 (Bb AP),CH l 0,DU l 0,CH l 1,DU l 1,bf (ByteArray.toList (List.getD l 0 Ai)==ByteArray.toList (List.getD l 1 Ai)) (Bp Bu)] func148
theorem A3w(A7:¬o=6)(Aa:¬o=7)(Am:¬o=8)(Az:¬o=9)(AP:¬o=10)(Bu:o=11)(En:List.getD l 0 Ai=List.getD l 1 Ai):Pu 148 [pI o,.sl 1 (Ae l)] (.ret (.Bf [.str (ByteArray.mk #[66,111,111,108]),pI 0])):=
 pm A9 [Ay A7,Ay Aa,Ay Am,Ay Az,Ay AP,Bb Bu,CH l 0,DU l 0,CH l 1,DU l 1,bt (ByteArray.toList (List.getD l 0 Ai)==ByteArray.toList (List.getD l 1 Ai)) (BI En)] func148
theorem A3x(A7:¬o=6)(Aa:¬o=7)(Am:¬o=8)(Az:¬o=9)(AP:¬o=10)(Bu:o=11)(En:¬List.getD l 0 Ai=List.getD l 1 Ai):Pu 148 [pI o,.sl 1 (Ae l)] (.ret (.Bf [.str Ai,pI 11])):=
 pm A9 [Ay A7,Ay Aa,Ay Am,Ay Az,Ay AP,Bb Bu,CH l 0,DU l 0,CH l 1,DU l 1,bf (ByteArray.toList (List.getD l 0 Ai)==ByteArray.toList (List.getD l 1 Ai)) (Bp En)] func148
theorem A3y(A7:¬o=6)(Aa:¬o=7)(Am:¬o=8)(Az:¬o=9)(AP:¬o=10)(Bu:¬o=11)(En:o=12)(OD:Ck (ByteArray.mk #[73,110,116]) l=true):Pu 148 [pI o,.sl 1 (Ae l)] (.ret (.Bf [.str (ByteArray.mk #[66,111,111,108]),pI 0])):=
 pm A9 [Ay A7,Ay Aa,Ay Am,Ay Az,Ay AP,Ay Bu,rp 2 (Bb En),cl (@Ll (l) (ByteArray.mk #[73,110,116]) Br),AV OD] func148
theorem A3z(A7:¬o=6)(Aa:¬o=7)(Am:¬o=8)(Az:¬o=9)(AP:¬o=10)(Bu:¬o=11)(En:o=12)(OD:Ck (ByteArray.mk #[73,110,116]) l=false):Pu 148 [pI o,.sl 1 (Ae l)] (.ret (.Bf [.str Ai,pI 11])):=
 pm A9 [Ay A7,Ay Aa,Ay Am,Ay Az,Ay AP,Ay Bu,rp 2 (Bb En),cl (@Ll (l) (ByteArray.mk #[73,110,116]) Br),AM OD] func148
theorem A40(A7:¬o=6)(Aa:¬o=7)(Am:¬o=8)(Az:¬o=9)(AP:¬o=10)(Bu:¬o=11)(En:¬o=12)(OD:o=13)(hx8:Ck (ByteArray.mk #[73,110,116]) l=true):Pu 148 [pI o,.sl 1 (Ae l)] (.ret (.Bf [.str (ByteArray.mk #[66,111,111,108]),pI 0])):=
 pm A9 [Ay A7,Ay Aa,Ay Am,Ay Az,Ay AP,Ay Bu,Ay En,Bb OD,cl (@Ll (l) (ByteArray.mk #[73,110,116]) Br),AV hx8] func148
theorem A41(A7:¬o=6)(Aa:¬o=7)(Am:¬o=8)(Az:¬o=9)(AP:¬o=10)(Bu:¬o=11)(En:¬o=12)(OD:o=13)(hx8:Ck (ByteArray.mk #[73,110,116]) l=false):Pu 148 [pI o,.sl 1 (Ae l)] (.ret (.Bf [.str Ai,pI 11])):=
 pm A9 [Ay A7,Ay Aa,Ay Am,Ay Az,Ay AP,Ay Bu,Ay En,Bb OD,cl (@Ll (l) (ByteArray.mk #[73,110,116]) Br),AM hx8] func148
theorem A42(A7:¬o=6)(Aa:¬o=7)(Am:¬o=8)(Az:¬o=9)(AP:¬o=10)(Bu:¬o=11)(En:¬o=12)(OD:¬o=13)(hx8:Ck (ByteArray.mk #[66,111,111,108]) l=true):Pu 148 [pI o,.sl 1 (Ae l)] (.ret (.Bf [.str (ByteArray.mk #[66,111,111,108]),pI 0])):=
 pm A9 [Ay A7,Ay Aa,Ay Am,Ay Az,Ay AP,Ay Bu,Ay En,Ay OD,cl (@Ll (l) (ByteArray.mk #[66,111,111,108]) Br),AV hx8] func148
theorem A43(A7:¬o=6)(Aa:¬o=7)(Am:¬o=8)(Az:¬o=9)(AP:¬o=10)(Bu:¬o=11)(En:¬o=12)(OD:¬o=13)(hx8:Ck (ByteArray.mk #[66,111,111,108]) l=false):Pu 148 [pI o,.sl 1 (Ae l)] (.ret (.Bf [.str Ai,pI 11])):=
 pm A9 [Ay A7,Ay Aa,Ay Am,Ay Az,Ay AP,Ay Bu,Ay En,Ay OD,cl (@Ll (l) (ByteArray.mk #[66,111,111,108]) Br),AM hx8] func148
end
end Go.Proofs.YthchpmnkecoafaaGreatDoor
