/- Values of Go as plain data, an evaluator over them, and what the functions of the program return; part Yk. -/
import Derived.Test.YthchpmnkecoafaaGreatDoorYj
import Derived.Test.YthchpmnkecoafaaGreatDoorYa
set_option linter.unusedSectionVars false
set_option linter.unusedSimpArgs false
set_option linter.unusedVariables false
namespace Go.Proofs.YthchpmnkecoafaaGreatDoor
open Go.Proofs.Tryz
open Go.Pv Go.Proofs.Tryz
set_option maxRecDepth 100000
theorem cR(name:BA):∀l:List Vr,EI name l=if ix BP name l<l.length then .e0 (l.getD (ix BP name l) default) else .e1
 | []=>by simp [EI,ix]
 | c::r=>by
  by_cases h:BP c=name
  ·simp [EI,ix,h]
  ·simp only [EI,ix,h,if_false,cR name r,List.length_cons,Nat.add_lt_add_iff_right,List.getD_cons_succ]
theorem cS(name:BA):∀l:List Sy,G7 name l=if ix DT name l<l.length then .e0 (l.getD (ix DT name l) default) else .e1
 | []=>by simp [G7,ix]
 | c::r=>by
  by_cases h:DT c=name
  ·simp [G7,ix,h]
  ·simp only [G7,ix,h,if_false,cS name r,List.length_cons,Nat.add_lt_add_iff_right,List.getD_cons_succ]
theorem cT(name:BA):∀l:List Ho,G8 name l=if ix AP name l<l.length then .e0 (l.getD (ix AP name l) default) else .e1
 | []=>by simp [G8,ix]
 | c::r=>by
  by_cases h:AP c=name
  ·simp [G8,ix,h]
  ·simp only [G8,ix,h,if_false,cT name r,List.length_cons,Nat.add_lt_add_iff_right,List.getD_cons_succ]
theorem A7d(v:Nv)(name:BA)(hW:BQ v):Pu 145 [.agg (Bd v),.str name] (.ret (.AE [.str (Fe (Au BP name (AS v).reverse)),.bool (Bl BP name (AS v).reverse)])):=by
 have hN:(AS v).length<=1000000000:=by have:=hW.w; omega
 unfold Bl Au
 by_cases h:ix BP name (AS v).reverse<(AS v).reverse.length
 ·rw [iP h,decide_eq_true h]; exact yH v name hN _ (by rw [cR,iP h])
 ·rw [iN h,decide_eq_false h]; exact yI v name hN (by rw [cR,iN h])
theorem QD(v:Nv)(name:BA)(hW:BQ v):Pu 188 [.agg (Bd v),.str name] (.ret (.AE [.agg (Hx (Dw v name)),.bool (HV v name)])):=by
 have hN:=hW.s
 unfold HV Dw
 by_cases h1:name=Sb
 ·rw [iP h1,iP h1]; exact yJ v name hN h1
 ·rw [iN h1,iN h1]
  by_cases h2:name=bD
  ·rw [iP h2,iP h2]; exact yK v name hN h1 h2
  ·rw [iN h2,iN h2]
   unfold Bl Au
   by_cases h:ix DT name (By v)<(By v).length
   ·rw [iP h,decide_eq_true h]; exact yL v name hN h1 h2 _ (by rw [cS,iP h])
   ·rw [iN h,decide_eq_false h]; exact yM v name hN h1 h2 (by rw [cS,iN h])
theorem jH(v:Nv)(name:BA)(hW:BQ v):Pu 190 [.agg (Bd v),.str name] (.ret (.AE [.agg (JV (Au AP name (AU v))),.bool (Bl AP name (AU v))])):=by
 have hN:=hW.h
 unfold Bl Au
 by_cases h:ix AP name (AU v)<(AU v).length
 ·rw [iP h,decide_eq_true h]; exact yN v name hN _ (by rw [cT,iP h])
 ·rw [iN h,decide_eq_false h]; exact yO v name hN (by rw [cT,iN h])
theorem A7e(t:Tp):Pu 96 [.agg (Ay t)] (.ret (.AE [.str (DU t),.bool (CP t)])):=rOf t
theorem Vm(u:Vr):∀l out:List Vr,FF u l out=out++Sa u l
 | [],out=>by simp [FF,Sa]
 | y::r,out=>by
  by_cases h:BP y=BP u
  ·rw [FF,iP h,Vm u r]; simp [Sa,h]
  ·rw [FF,iN h,Vm u r]; simp [Sa,h]
theorem yP{u:Vr}{l:List Vr}(hN:l.length<=100000000):(FF u l []).length<=100000000:=by
 rw [Vm,List.nil_append]; exact Nat.le_trans (List.length_filter_le _ _) hN
theorem Abl(l:List Vr)(u:Vr)(hN:l.length<=100000000)(hr:(FF u l []).length<=100000000):Pu 129 [.sl 2 (Vr.cs l),.agg (Fo u)] (.own 104 2 (Vr.cs (FF u l [])++[Fo u])):=
 pu Ad (fun e=>[lp (S.mk [(0,vL 2 (Vr.cs l)),(1,.v (.agg (Fo u))),(3,.lp 3 0),(4,.v .A4),(5,.v .A4),(6,A1 0)] [(3,Oz u)] e) (@rad (l) (u) ([]) (e) oM (by (simp only [List.length_nil]; omega))) ⟨⟨W,W,W,Wq,W,An⟩,⟨⟨W,W,An⟩,An⟩,rfl⟩,am (List.length (Vr.cs (FF u l [])++(fun x=>Prod.snd x) (1+1,[Fo u])) * (31+1)<=140737488355328) (by (simp only [List.length_append,List.length_cons,List.length_nil,Vr.A0]; omega))]) func129
theorem Abm(l:List Vr)(u:Vr)(hN:l.length<=100000000):Pu 129 [.sl 2 (Vr.cs l),.agg (Fo u)] (.own 104 2 (Vr.cs (Sa u l++[u]))):=by
 have:=Abl l u hN (yP hN)
 rw [Vm,List.nil_append] at this
 rw [Vr.A2]
 exact this
theorem A7f(v:Nv)(u:Vr)(hE:BQ v):Pu 129 [.sl 2 (Vr.cs (AS v)),.agg (Fo u)] (.own 104 2 (Vr.cs (Sa u (AS v)++[u]))):=Abm _ u hE.w
theorem rwi(v:Nv)(u:Vr)(hE:BQ v):Pu 79 [.agg (Bd v),.agg (Fo u)] (rA [.sl 2 (Vr.cs (Sa u (AS v)++[u])),.sl 3 (Sy.cs (By v)),.sl 2 (Ho.cs (AU v))]):=
 pm Ad [cl (@A7f (v) (u) hE)] func79
theorem o8(b:List BA):∀ (l:List BA) (i:Nat),l.length+i=b.length->HP b l i=if l=b.drop i then .e1 else .e0
 | [],i,h=>by
  have:b.drop i=[]:=List.drop_eq_nil_of_le (by simp at h; omega)
  rw [this]; simp [HP]
 | c::r,i,h=>by
  have hi:i<b.length:=by simp at h; omega
  have ih:=o8 b r (i+1) (by simp at h; omega)
  rw [CL hi]
  by_cases hc:c=b.getD i Ah
  ·simp only [HP,hc,List.cons.injEq,true_and,if_true]; exact ih
  ·simp only [HP,hc,List.cons.injEq,false_and,if_false]
theorem A7g(a b:List BA)(hN:a.length<=1000000000):Pu 189 [.sl 1 (A7 a),.sl 1 (A7 b)] (.ret (.bool (decide (a=b)))):=by
 by_cases Uh:(a.length:Int)=(b.length:Int)
 ·have he:=o8 b a 0 oM
  rw [List.drop_zero] at he
  by_cases h:a=b
  ·rw [decide_eq_true h]; exact pu Ad (fun e=>[sl (A3 a),sl (A3 b),nn (a.length:Int) (b.length:Int) Uh,lp (S.mk [(0,vL 1 (A7 a)),(1,vL 1 (A7 b)),(4,.v (.bool false)),(6,vL 1 (A7 a)),(7,A1 (a.length:Int)),(8,vL 1 (A7 b)),(9,A1 (b.length:Int)),(10,.v (.bool ((a.length:Int) != (b.length:Int)))),(5,A1 0)] [] e) (@A7c (a) (b) Uh (e) hN (by rw [he,iP h])) xr]) func189
  ·rw [decide_eq_false h]; exact pu Ad (fun e=>[sl (A3 a),sl (A3 b),nn (a.length:Int) (b.length:Int) Uh,lp (S.mk [(0,vL 1 (A7 a)),(1,vL 1 (A7 b)),(4,.v (.bool false)),(6,vL 1 (A7 a)),(7,A1 (a.length:Int)),(8,vL 1 (A7 b)),(9,A1 (b.length:Int)),(10,.v (.bool ((a.length:Int) != (b.length:Int)))),(5,A1 0)] [] e) (@A7b (a) (b) Uh (e) hN (by rw [he,iN h])) xr]) func189
 ·rw [decide_eq_false fun e=>Uh (by rw [e])]; exact pm Ad [sl (A3 a),sl (A3 b),nt (a.length:Int) (b.length:Int) Uh] func189
abbrev Vn(l:List BA)(a:BA)(j:Int)(e:Ext):S:=S.mk [(0,vL 1 (A7 l)),(1,vS a),(5,A1 j)] [] e
inductive Io where
 | e0
 | e1
def HQ(a:BA):List BA->Io
 | []=>(Io.e1)
 | el::r=>(if el=a then HQ a r  else (Io.e0))
def NZ(l:List BA)(a:BA)(e:Ext):Io->A5 × S
 | .e0=>(.ret,S.mk [(0,vL 1 (A7 l)),(1,vS a),(4,.v (.bool false))] [] e)
 | .e1=>(.exit 0,S.mk [(0,vL 1 (A7 l)),(1,vS a)] [] e)
theorem cU(l:List BA)(a:BA)(e:Ext)(hN:l.length<=1000000000):(Ob.loop 18 (Ai f191 0) (Vn l a 0  e) (NZ l a e (HQ a (List.drop 0 (l)))).1 (NZ l a e (HQ a (List.drop 0 (l)))).2).ok prog:=by
 refine Ds l.length (fun j _=>Vn l a j  e) (fun i _=>HQ a (List.drop i (l))) (NZ l a e) (fun i _=>True) kR ?_ () trivial
 rintro i u hi -
 rcases Nat.lt_or_ge i (l.length) with Ag | CO
 ·have hd:=CL Ag
  by_cases h0:List.getD l i Ah=a
  ·exact lN Ad [sl (A3 l),dt ((i:Int)<(l.length:Int)),am ((0:Int)<=(i:Int)/\(i:Int)<((A7 l).length:Int)) (by (simp only [A3]; omega)),F5 l i Ag,bf (!ByteArray.toList (List.getD l i Ah)==ByteArray.toList a) (AJ (BL h0)),wr ((i:Int)+1)] Ag () trivial (by rw [hd,HQ,iP h0])
  ·exact lX Ad [sl (A3 l),dt ((i:Int)<(l.length:Int)),am ((0:Int)<=(i:Int)/\(i:Int)<((A7 l).length:Int)) (by (simp only [A3]; omega)),F5 l i Ag,bt (!ByteArray.toList (List.getD l i Ah)==ByteArray.toList a) (B6 (BZ h0))] (Io.e0) (by rw [hd,HQ,iN h0])
 ·have he:i=l.length:=by omega
  exact lX Ad [sl (A3 l),df ((i:Int)<(l.length:Int))] (Io.e1) (by rw [he,List.drop_length,HQ])
theorem A7h(l:List BA)(a:BA)(e:Ext)(hN:l.length<=1000000000)(At:(HQ a (l))=(Io.e0)):(Ob.loop 18 (Ai f191 0) (Vn l a 0  e) (NZ l a e (Io.e0)).1 (NZ l a e (Io.e0)).2).ok prog:=
 rz (cU l a e hN) At
theorem A7i(l:List BA)(a:BA)(e:Ext)(hN:l.length<=1000000000)(At:(HQ a (l))=(Io.e1)):(Ob.loop 18 (Ai f191 0) (Vn l a 0  e) (NZ l a e (Io.e1)).1 (NZ l a e (Io.e1)).2).ok prog:=
 rz (cU l a e hN) At
theorem cV(a:BA):∀l:List BA,HQ a l=if Cj a l=true then .e1 else .e0
 | []=>by simp [HQ,Cj]
 | c::r=>by
  by_cases h:c=a
  ·simp [HQ,Cj,h,cV a r]
  ·simp [HQ,Cj,h]
theorem KQ(l:List BA)(a:BA)(hN:l.length<=1000000000):Pu 191 [.sl 1 (A7 l),.str a] (.ret (.bool (Cj a l))):=by
 cases h:Cj a l with
 | true=>exact pu Ad (fun e=>[lp (S.mk [(0,vL 1 (A7 l)),(1,vS a),(4,.v (.bool false)),(5,A1 0)] [] e) (@A7i (l) (a) (e) hN (by rw [cV,iP h])) xr]) func191
 | false=>exact pu Ad (fun e=>[lp (S.mk [(0,vL 1 (A7 l)),(1,vS a),(4,.v (.bool false)),(5,A1 0)] [] e) (@A7h (l) (a) (e) hN (by rw [cV,iN (by rw [h]; decide)])) xr]) func191
section
variable (v:Nv) (name:BA) (l:List BA) (hW:BQ v) (Cd:l.length<=1000000000)
include v name l hW Cd
theorem A7j(Ac:HV v name=false):Pu 146 [.agg (Bd v),.str name,.sl 1 (A7 l)] (.ret (.AE [.str Ah,pI 5])):=
 pm Ad [cl (@QD (v) (name) hW),B2 (B6 Ac)] func146
theorem A7k(Ac:HV v name=true)(Ae:name=ByteArray.mk #[116,97,103])(Ao:¬(l.length:Int)=1):Pu 146 [.agg (Bd v),.str name,.sl 1 (A7 l)] (.ret (.AE [.str Ah,pI 13])):=
 pm Ad [cl (@QD (v) (name) hW),AQ (AJ Ac),bt (ByteArray.toList name==ByteArray.toList (ByteArray.mk #[116,97,103])) (BL Ae),sl (A3 l),Bv Ao] func146
theorem A7l(Ac:HV v name=true)(Ae:name=ByteArray.mk #[116,97,103])(Ao:(l.length:Int)=1)(AK:List.getD l 0 Ah=ByteArray.mk #[73,110,116]):Pu 146 [.agg (Bd v),.str name,.sl 1 (A7 l)] (.ret (.AE [.str Ah,pI 11])):=
 pm Ad [cl (@QD (v) (name) hW),AQ (AJ Ac),bt (ByteArray.toList name==ByteArray.toList (ByteArray.mk #[116,97,103])) (BL Ae),sl (A3 l),Bi Ao,am ((0:Int)<=0/\0<((A7 l).length:Int)) (by (simp only [A3]; omega)),F5 l 0,rp 5 (bt (ByteArray.toList (List.getD l 0 Ah)==ByteArray.toList (ByteArray.mk #[73,110,116])) (BL AK)),rp 6 (bt true)] func146
theorem A7m(Ac:HV v name=true)(Ae:name=ByteArray.mk #[116,97,103])(Ao:(l.length:Int)=1)(AK:¬List.getD l 0 Ah=ByteArray.mk #[73,110,116])(B9:List.getD l 0 Ah=ByteArray.mk #[66,111,111,108]):Pu 146 [.agg (Bd v),.str name,.sl 1 (A7 l)] (.ret (.AE [.str Ah,pI 11])):=
 pm Ad [cl (@QD (v) (name) hW),AQ (AJ Ac),bt (ByteArray.toList name==ByteArray.toList (ByteArray.mk #[116,97,103])) (BL Ae),sl (A3 l),Bi Ao,am ((0:Int)<=0/\0<((A7 l).length:Int)) (by (simp only [A3]; omega)),F5 l 0,rp 2 (bf (ByteArray.toList (List.getD l 0 Ah)==ByteArray.toList (ByteArray.mk #[73,110,116])) (BZ AK)),am ((0:Int)<=0/\0<((A7 l).length:Int)) (by (simp only [A3]; omega)),F5 l 0,rp 3 (bf (ByteArray.toList (List.getD l 0 Ah)==ByteArray.toList (ByteArray.mk #[73,110,116])) (BZ AK)),rp 5 (bt (ByteArray.toList (List.getD l 0 Ah)==ByteArray.toList (ByteArray.mk #[66,111,111,108])) (BL B9)),bt true] func146
theorem A7n(Ac:HV v name=true)(Ae:name=ByteArray.mk #[116,97,103])(Ao:(l.length:Int)=1)(AK:¬List.getD l 0 Ah=ByteArray.mk #[73,110,116])(B9:¬List.getD l 0 Ah=ByteArray.mk #[66,111,111,108])(BU:List.getD l 0 Ah=ByteArray.mk #[67,101,108,108]):Pu 146 [.agg (Bd v),.str name,.sl 1 (A7 l)] (.ret (.AE [.str Ah,pI 11])):=
 pm Ad [cl (@QD (v) (name) hW),AQ (AJ Ac),bt (ByteArray.toList name==ByteArray.toList (ByteArray.mk #[116,97,103])) (BL Ae),sl (A3 l),Bi Ao,am ((0:Int)<=0/\0<((A7 l).length:Int)) (by (simp only [A3]; omega)),F5 l 0,rp 2 (bf (ByteArray.toList (List.getD l 0 Ah)==ByteArray.toList (ByteArray.mk #[73,110,116])) (BZ AK)),am ((0:Int)<=0/\0<((A7 l).length:Int)) (by (simp only [A3]; omega)),F5 l 0,rp 3 (bf (ByteArray.toList (List.getD l 0 Ah)==ByteArray.toList (ByteArray.mk #[73,110,116])) (BZ AK)),rp 2 (bf (ByteArray.toList (List.getD l 0 Ah)==ByteArray.toList (ByteArray.mk #[66,111,111,108])) (BZ B9)),am ((0:Int)<=0/\0<((A7 l).length:Int)) (by (simp only [A3]; omega)),F5 l 0,rp 3 (bf (ByteArray.toList (List.getD l 0 Ah)==ByteArray.toList (ByteArray.mk #[66,111,111,108])) (BZ B9)),bt (ByteArray.toList (List.getD l 0 Ah)==ByteArray.toList (ByteArray.mk #[67,101,108,108])) (BL BU)] func146
theorem A7o(Ac:HV v name=true)(Ae:name=ByteArray.mk #[116,97,103])(Ao:(l.length:Int)=1)(AK:¬List.getD l 0 Ah=ByteArray.mk #[73,110,116])(B9:¬List.getD l 0 Ah=ByteArray.mk #[66,111,111,108])(BU:¬List.getD l 0 Ah=ByteArray.mk #[67,101,108,108]):Pu 146 [.agg (Bd v),.str name,.sl 1 (A7 l)] (.ret (.AE [.str (ByteArray.mk #[73,110,116]),pI 0])):=
 pm Ad [cl (@QD (v) (name) hW),AQ (AJ Ac),bt (ByteArray.toList name==ByteArray.toList (ByteArray.mk #[116,97,103])) (BL Ae),sl (A3 l),Bi Ao,am ((0:Int)<=0/\0<((A7 l).length:Int)) (by (simp only [A3]; omega)),F5 l 0,rp 2 (bf (ByteArray.toList (List.getD l 0 Ah)==ByteArray.toList (ByteArray.mk #[73,110,116])) (BZ AK)),am ((0:Int)<=0/\0<((A7 l).length:Int)) (by (simp only [A3]; omega)),F5 l 0,rp 3 (bf (ByteArray.toList (List.getD l 0 Ah)==ByteArray.toList (ByteArray.mk #[73,110,116])) (BZ AK)),rp 2 (bf (ByteArray.toList (List.getD l 0 Ah)==ByteArray.toList (ByteArray.mk #[66,111,111,108])) (BZ B9)),am ((0:Int)<=0/\0<((A7 l).length:Int)) (by (simp only [A3]; omega)),F5 l 0,rp 3 (bf (ByteArray.toList (List.getD l 0 Ah)==ByteArray.toList (ByteArray.mk #[66,111,111,108])) (BZ B9)),bf (ByteArray.toList (List.getD l 0 Ah)==ByteArray.toList (ByteArray.mk #[67,101,108,108])) (BZ BU)] func146
theorem A7p(Ac:HV v name=true)(Ae:¬name=ByteArray.mk #[116,97,103])(Ao:¬(l.length:Int)=((Ca (Dw v name)).length:Int)):Pu 146 [.agg (Bd v),.str name,.sl 1 (A7 l)] (.ret (.AE [.str Ah,pI 13])):=
 pm Ad [cl (@QD (v) (name) hW),AQ (AJ Ac),bf (ByteArray.toList name==ByteArray.toList (ByteArray.mk #[116,97,103])) (BZ Ae),sl (A3 l),sl (A3 (Ca (Dw v name))),Bv Ao] func146
theorem A7q(Ac:HV v name=true)(Ae:¬name=ByteArray.mk #[116,97,103])(Ao:(l.length:Int)=((Ca (Dw v name)).length:Int))(AK:¬l=Ca (Dw v name)):Pu 146 [.agg (Bd v),.str name,.sl 1 (A7 l)] (.ret (.AE [.str Ah,pI 11])):=
 pm Ad [cl (@QD (v) (name) hW),AQ (AJ Ac),bf (ByteArray.toList name==ByteArray.toList (ByteArray.mk #[116,97,103])) (BZ Ae),sl (A3 l),sl (A3 (Ca (Dw v name))),Bi Ao,cl (@A7g (l) (Ca (Dw v name)) Cd),bt (!decide (l=Ca (Dw v name))) (B6 (dF AK))] func146
theorem A7r(Ac:HV v name=true)(Ae:¬name=ByteArray.mk #[116,97,103])(Ao:(l.length:Int)=((Ca (Dw v name)).length:Int))(AK:l=Ca (Dw v name)):Pu 146 [.agg (Bd v),.str name,.sl 1 (A7 l)] (.ret (.AE [.str (Lj (Dw v name)),pI 0])):=
 pm Ad [cl (@QD (v) (name) hW),AQ (AJ Ac),bf (ByteArray.toList name==ByteArray.toList (ByteArray.mk #[116,97,103])) (BZ Ae),sl (A3 l),sl (A3 (Ca (Dw v name))),Bi Ao,cl (@A7g (l) (Ca (Dw v name)) Cd),bf (!decide (l=Ca (Dw v name))) (AJ (dT AK))] func146
end
abbrev Vo(v:Nv)(name:BA)(l:List BA)(j:Int)(e:Ext):S:=S.mk [(2,vL 1 (A7 l)),(8,.lp 8 0),(10,A1 j)] [(8,WX (Au AP name (AU v)))] e
inductive Ip where
 | e0
 | e1
def HR(v:Nv)(name:BA):List BA->Nat->Ip
 | [],i=>(Ip.e1)
 | el::r,i=>(if el=Fe (List.getD (CV (Au AP name (AU v))) i default) then HR v name r (i+1)  else (Ip.e0))
def O0(v:Nv)(name:BA)(l:List BA)(e:Ext):Ip->A5 × S
 | .e0=>(.ret,S.mk [(2,vL 1 (A7 l)),(8,.lp 8 0),(6,vS Ah),(7,A1 11)] [(8,WX (Au AP name (AU v)))] e)
 | .e1=>(.exit 0,S.mk [(2,vL 1 (A7 l)),(8,.lp 8 0)] [(8,WX (Au AP name (AU v)))] e)
theorem cW(v:Nv)(name:BA)(l:List BA)(hW:BQ v)(Oj:Bl AP name (AU v)=true)(hlen:(l.length:Int)=((CV (Au AP name (AU v))).length:Int))(e:Ext)(hN:l.length<=1000000000):(Ob.loop 42 (Ai f147 0) (Vo v name l 0  e) (O0 v name l e (HR v name (List.drop 0 (l)) 0)).1 (O0 v name l e (HR v name (List.drop 0 (l)) 0)).2).ok prog:=by
 refine Ds l.length (fun j _=>Vo v name l j  e) (fun i _=>HR v name (List.drop i (l)) i) (O0 v name l e) (fun i _=>True) kR ?_ () trivial
 rintro i u hi -
 rcases Nat.lt_or_ge i (l.length) with Ag | CO
 ·have hd:=CL Ag
  by_cases h0:List.getD l i Ah=Fe (List.getD (CV (Au AP name (AU v))) i default)
  ·exact lN Ad [sl (A3 l),dt ((i:Int)<(l.length:Int)),am ((0:Int)<=(i:Int)/\(i:Int)<((A7 l).length:Int)) (by (simp only [A3]; omega)),F5 l i Ag,am ((0:Int)<=(i:Int)/\(i:Int)<((Vr.cs (CV (Au AP name (AU v)))).length:Int)) (by (simp only [Vr.A0]; omega)),eY (CV (Au AP name (AU v))) i,bf (!ByteArray.toList (List.getD l i Ah)==ByteArray.toList (Fe (List.getD (CV (Au AP name (AU v))) i default))) (AJ (BL h0)),wr ((i:Int)+1)] Ag () trivial (by rw [hd,HR,iP h0])
  ·exact lX Ad [sl (A3 l),dt ((i:Int)<(l.length:Int)),am ((0:Int)<=(i:Int)/\(i:Int)<((A7 l).length:Int)) (by (simp only [A3]; omega)),F5 l i Ag,am ((0:Int)<=(i:Int)/\(i:Int)<((Vr.cs (CV (Au AP name (AU v)))).length:Int)) (by (simp only [Vr.A0]; omega)),eY (CV (Au AP name (AU v))) i,bt (!ByteArray.toList (List.getD l i Ah)==ByteArray.toList (Fe (List.getD (CV (Au AP name (AU v))) i default))) (B6 (BZ h0))] (Ip.e0) (by rw [hd,HR,iN h0])
 ·have he:i=l.length:=by omega
  exact lX Ad [sl (A3 l),df ((i:Int)<(l.length:Int))] (Ip.e1) (by rw [he,List.drop_length,HR])
theorem A7s(v:Nv)(name:BA)(l:List BA)(hW:BQ v)(Oj:Bl AP name (AU v)=true)(hlen:(l.length:Int)=((CV (Au AP name (AU v))).length:Int))(e:Ext)(hN:l.length<=1000000000)(At:(HR v name (l) 0)=(Ip.e0)):(Ob.loop 42 (Ai f147 0) (Vo v name l 0  e) (O0 v name l e (Ip.e0)).1 (O0 v name l e (Ip.e0)).2).ok prog:=
 rz (cW v name l hW Oj hlen e hN) At
theorem A7t(v:Nv)(name:BA)(l:List BA)(hW:BQ v)(Oj:Bl AP name (AU v)=true)(hlen:(l.length:Int)=((CV (Au AP name (AU v))).length:Int))(e:Ext)(hN:l.length<=1000000000)(At:(HR v name (l) 0)=(Ip.e1)):(Ob.loop 42 (Ai f147 0) (Vo v name l 0  e) (O0 v name l e (Ip.e1)).1 (O0 v name l e (Ip.e1)).2).ok prog:=
 rz (cW v name l hW Oj hlen e hN) At
section
variable (o:Int) (l:List BA) (Cd:l.length<=1000000000) (L7:o=10∨o=11->2<=l.length)
include o l Cd L7
theorem A7u(Ac:o=6)(Ae:Cj (ByteArray.mk #[73,110,116]) l=true):Pu 148 [pI o,.sl 1 (A7 l)] (.ret (.AE [.str (ByteArray.mk #[73,110,116]),pI 0])):=
 pm Ad [rp 2 (Bh Ac),cl (@KQ (l) (ByteArray.mk #[73,110,116]) Cd),B2 Ae] func148
theorem A7v(Ac:o=6)(Ae:Cj (ByteArray.mk #[73,110,116]) l=false):Pu 148 [pI o,.sl 1 (A7 l)] (.ret (.AE [.str Ah,pI 11])):=
 pm Ad [rp 2 (Bh Ac),cl (@KQ (l) (ByteArray.mk #[73,110,116]) Cd),AQ Ae] func148
theorem A7w(Ac:¬o=6)(Ae:o=7)(Ao:Cj (ByteArray.mk #[73,110,116]) l=true):Pu 148 [pI o,.sl 1 (A7 l)] (.ret (.AE [.str (ByteArray.mk #[73,110,116]),pI 0])):=
 pm Ad [Aw Ac,rp 2 (Bh Ae),cl (@KQ (l) (ByteArray.mk #[73,110,116]) Cd),B2 Ao] func148
theorem A7x(Ac:¬o=6)(Ae:o=7)(Ao:Cj (ByteArray.mk #[73,110,116]) l=false):Pu 148 [pI o,.sl 1 (A7 l)] (.ret (.AE [.str Ah,pI 11])):=
 pm Ad [Aw Ac,rp 2 (Bh Ae),cl (@KQ (l) (ByteArray.mk #[73,110,116]) Cd),AQ Ao] func148
theorem A7y(Ac:¬o=6)(Ae:¬o=7)(Ao:o=8)(AK:Cj (ByteArray.mk #[73,110,116]) l=true):Pu 148 [pI o,.sl 1 (A7 l)] (.ret (.AE [.str (ByteArray.mk #[73,110,116]),pI 0])):=
 pm Ad [Aw Ac,Aw Ae,rp 2 (Bh Ao),cl (@KQ (l) (ByteArray.mk #[73,110,116]) Cd),B2 AK] func148
theorem A7z(Ac:¬o=6)(Ae:¬o=7)(Ao:o=8)(AK:Cj (ByteArray.mk #[73,110,116]) l=false):Pu 148 [pI o,.sl 1 (A7 l)] (.ret (.AE [.str Ah,pI 11])):=
 pm Ad [Aw Ac,Aw Ae,rp 2 (Bh Ao),cl (@KQ (l) (ByteArray.mk #[73,110,116]) Cd),AQ AK] func148
theorem A80(Ac:¬o=6)(Ae:¬o=7)(Ao:¬o=8)(AK:o=9)(B9:Cj (ByteArray.mk #[73,110,116]) l=true):Pu 148 [pI o,.sl 1 (A7 l)] (.ret (.AE [.str (ByteArray.mk #[73,110,116]),pI 0])):=
 pm Ad [Aw Ac,Aw Ae,Aw Ao,Bh AK,cl (@KQ (l) (ByteArray.mk #[73,110,116]) Cd),B2 B9] func148
theorem A81(Ac:¬o=6)(Ae:¬o=7)(Ao:¬o=8)(AK:o=9)(B9:Cj (ByteArray.mk #[73,110,116]) l=false):Pu 148 [pI o,.sl 1 (A7 l)] (.ret (.AE [.str Ah,pI 11])):=
 pm Ad [Aw Ac,Aw Ae,Aw Ao,Bh AK,cl (@KQ (l) (ByteArray.mk #[73,110,116]) Cd),AQ B9] func148
theorem A82(Ac:¬o=6)(Ae:¬o=7)(Ao:¬o=8)(AK:¬o=9)(B9:o=10)(BU:List.getD l 0 Ah=List.getD l 1 Ah):Pu 148 [pI o,.sl 1 (A7 l)] (.ret (.AE [.str (ByteArray.mk #[66,111,111,108]),pI 0])):=
 pm Ad [Aw Ac,Aw Ae,Aw Ao,Aw AK,rp 2 (Bh B9),am ((0:Int)<=0/\0<((A7 l).length:Int)) (by (simp only [A3]; omega)),F5 l 0,am ((0:Int)<=1/\1<((A7 l).length:Int)) (by (simp only [A3]; omega)),F5 l 1,bt (ByteArray.toList (List.getD l 0 Ah)==ByteArray.toList (List.getD l 1 Ah)) (BL BU)] func148
theorem yQ(Ac:¬o=6)(Ae:¬o=7)(Ao:¬o=8)(AK:¬o=9)(B9:o=10)(BU:¬List.getD l 0 Ah=List.getD l 1 Ah):Pu 148 [pI o,.sl 1 (A7 l)] (.ret (.AE [.str Ah,pI 11])):=
 pm Ad [Aw Ac,Aw Ae,Aw Ao,Aw AK,rp 2 (Bh B9),am ((0:Int)<=0/\0<((A7 l).length:Int)) (by (simp only [A3]; omega)),F5 l 0,am ((0:Int)<=1/\1<((A7 l).length:Int)) (by (simp only [A3]; omega)),F5 l 1,bf (ByteArray.toList (List.getD l 0 Ah)==ByteArray.toList (List.getD l 1 Ah)) (BZ BU)] func148
theorem yR(Ac:¬o=6)(Ae:¬o=7)(Ao:¬o=8)(AK:¬o=9)(B9:¬o=10)(BU:o=11)(Fk:List.getD l 0 Ah=List.getD l 1 Ah):Pu 148 [pI o,.sl 1 (A7 l)] (.ret (.AE [.str (ByteArray.mk #[66,111,111,108]),pI 0])):=
 pm Ad [Aw Ac,Aw Ae,Aw Ao,Aw AK,Aw B9,Bh BU,am ((0:Int)<=0/\0<((A7 l).length:Int)) (by (simp only [A3]; omega)),F5 l 0,am ((0:Int)<=1/\1<((A7 l).length:Int)) (by (simp only [A3]; omega)),F5 l 1,bt (ByteArray.toList (List.getD l 0 Ah)==ByteArray.toList (List.getD l 1 Ah)) (BL Fk)] func148
theorem yS(Ac:¬o=6)(Ae:¬o=7)(Ao:¬o=8)(AK:¬o=9)(B9:¬o=10)(BU:o=11)(Fk:¬List.getD l 0 Ah=List.getD l 1 Ah):Pu 148 [pI o,.sl 1 (A7 l)] (.ret (.AE [.str Ah,pI 11])):=
 pm Ad [Aw Ac,Aw Ae,Aw Ao,Aw AK,Aw B9,Bh BU,am ((0:Int)<=0/\0<((A7 l).length:Int)) (by (simp only [A3]; omega)),F5 l 0,am ((0:Int)<=1/\1<((A7 l).length:Int)) (by (simp only [A3]; omega)),F5 l 1,bf (ByteArray.toList (List.getD l 0 Ah)==ByteArray.toList (List.getD l 1 Ah)) (BZ Fk)] func148
theorem yT(Ac:¬o=6)(Ae:¬o=7)(Ao:¬o=8)(AK:¬o=9)(B9:¬o=10)(BU:¬o=11)(Fk:o=12)(Qp:Cj (ByteArray.mk #[73,110,116]) l=true):Pu 148 [pI o,.sl 1 (A7 l)] (.ret (.AE [.str (ByteArray.mk #[66,111,111,108]),pI 0])):=
 pm Ad [Aw Ac,Aw Ae,Aw Ao,Aw AK,Aw B9,Aw BU,rp 2 (Bh Fk),cl (@KQ (l) (ByteArray.mk #[73,110,116]) Cd),B2 Qp] func148
theorem yU(Ac:¬o=6)(Ae:¬o=7)(Ao:¬o=8)(AK:¬o=9)(B9:¬o=10)(BU:¬o=11)(Fk:o=12)(Qp:Cj (ByteArray.mk #[73,110,116]) l=false):Pu 148 [pI o,.sl 1 (A7 l)] (.ret (.AE [.str Ah,pI 11])):=
 pm Ad [Aw Ac,Aw Ae,Aw Ao,Aw AK,Aw B9,Aw BU,rp 2 (Bh Fk),cl (@KQ (l) (ByteArray.mk #[73,110,116]) Cd),AQ Qp] func148
theorem yV(Ac:¬o=6)(Ae:¬o=7)(Ao:¬o=8)(AK:¬o=9)(B9:¬o=10)(BU:¬o=11)(Fk:¬o=12)(Qp:o=13)(yW:Cj (ByteArray.mk #[73,110,116]) l=true):Pu 148 [pI o,.sl 1 (A7 l)] (.ret (.AE [.str (ByteArray.mk #[66,111,111,108]),pI 0])):=
 pm Ad [Aw Ac,Aw Ae,Aw Ao,Aw AK,Aw B9,Aw BU,Aw Fk,Bh Qp,cl (@KQ (l) (ByteArray.mk #[73,110,116]) Cd),B2 yW] func148
theorem yX(Ac:¬o=6)(Ae:¬o=7)(Ao:¬o=8)(AK:¬o=9)(B9:¬o=10)(BU:¬o=11)(Fk:¬o=12)(Qp:o=13)(yW:Cj (ByteArray.mk #[73,110,116]) l=false):Pu 148 [pI o,.sl 1 (A7 l)] (.ret (.AE [.str Ah,pI 11])):=
 pm Ad [Aw Ac,Aw Ae,Aw Ao,Aw AK,Aw B9,Aw BU,Aw Fk,Bh Qp,cl (@KQ (l) (ByteArray.mk #[73,110,116]) Cd),AQ yW] func148
theorem yY(Ac:¬o=6)(Ae:¬o=7)(Ao:¬o=8)(AK:¬o=9)(B9:¬o=10)(BU:¬o=11)(Fk:¬o=12)(Qp:¬o=13)(yW:Cj (ByteArray.mk #[66,111,111,108]) l=true):Pu 148 [pI o,.sl 1 (A7 l)] (.ret (.AE [.str (ByteArray.mk #[66,111,111,108]),pI 0])):=
 pm Ad [Aw Ac,Aw Ae,Aw Ao,Aw AK,Aw B9,Aw BU,Aw Fk,Aw Qp,cl (@KQ (l) (ByteArray.mk #[66,111,111,108]) Cd),B2 yW] func148
theorem yZ(Ac:¬o=6)(Ae:¬o=7)(Ao:¬o=8)(AK:¬o=9)(B9:¬o=10)(BU:¬o=11)(Fk:¬o=12)(Qp:¬o=13)(yW:Cj (ByteArray.mk #[66,111,111,108]) l=false):Pu 148 [pI o,.sl 1 (A7 l)] (.ret (.AE [.str Ah,pI 11])):=
 pm Ad [Aw Ac,Aw Ae,Aw Ao,Aw AK,Aw B9,Aw BU,Aw Fk,Aw Qp,cl (@KQ (l) (ByteArray.mk #[66,111,111,108]) Cd),AQ yW] func148
end
theorem z0(a:BA):jE a=(decide (a=H7)||decide (a=E2)||decide (a=V0)):=by
 have h:∀b:BA,(a.toList==b.toList)=decide (a=b):=fun b=>by
  by_cases h:a=b
  ·rw [decide_eq_true h,BL h]
  ·rw [decide_eq_false h,BZ h]
 unfold jE; rw [h,h,h]
theorem Abn(v:Nv)(name:BA)(l:List BA)(hW:BQ v)(Cd:l.length<=1000000000):Pu 146 [.agg (Bd v),.str name,.sl 1 (A7 l)] (.ret (.AE [.str (V8 v name l).1,.int .i64 (V8 v name l).2])):=by
 unfold V8
 by_cases h0:HV v name=false
 ·rw [iP h0]; exact A7j v name l hW Cd h0
 ·rw [iN h0]
  have h0:=Jq h0
  by_cases h1:name=Sb
  ·rw [iP h1]
   by_cases h2:(l.length:Int)=1
   ·rw [iP h2,z0]
    by_cases h3:l.getD 0 Ah=H7
    ·rw [decide_eq_true h3]; exact A7l v name l hW Cd h0 h1 h2 h3
    ·rw [decide_eq_false h3,Bool.false_or]
     by_cases h4:l.getD 0 Ah=E2
     ·rw [decide_eq_true h4]; exact A7m v name l hW Cd h0 h1 h2 h3 h4
     ·rw [decide_eq_false h4,Bool.false_or]
      by_cases h5:l.getD 0 Ah=V0
      ·rw [decide_eq_true h5]; exact A7n v name l hW Cd h0 h1 h2 h3 h4 h5
      ·rw [decide_eq_false h5,iN dD]
       have:=A7o v name l hW Cd h0 h1 h2 h3 h4 h5
       have e:Lj (Dw v name)=H7:=by unfold Dw; rw [iP h1]; rfl
       rw [e]; exact this
   ·rw [iN h2]; exact A7k v name l hW Cd h0 h1 h2
  ·rw [iN h1]
   by_cases h2:(l.length:Int)=((Ca (Dw v name)).length:Int)
   ·rw [iP h2]
    by_cases h3:l=Ca (Dw v name)
    ·rw [iP h3]; exact A7r v name l hW Cd h0 h1 h2 h3
    ·rw [iN h3]; exact A7q v name l hW Cd h0 h1 h2 h3
   ·rw [iN h2]; exact A7p v name l hW Cd h0 h1 h2
theorem o9(v:Nv)(name:BA):∀ (l:List BA) (i:Nat),l.length+i=(CV (Au AP name (AU v))).length->HR v name l i=if l=((CV (Au AP name (AU v))).drop i).map Fe then .e1 else .e0
 | [],i,h=>by
  have:(CV (Au AP name (AU v))).drop i=[]:=List.drop_eq_nil_of_le (by simp at h; omega)
  rw [this]; simp [HR]
 | c::r,i,h=>by
  have hi:i<(CV (Au AP name (AU v))).length:=by simp at h; omega
  have ih:=o9 v name r (i+1) (by simp at h; omega)
  rw [AH hi,List.map_cons]
  by_cases hc:c=Fe ((CV (Au AP name (AU v))).getD i default)
  ·simp only [HR,hc,List.cons.injEq,true_and,if_true]; exact ih
  ·simp only [HR,hc,List.cons.injEq,false_and,if_false]
theorem Abo(v:Nv)(name:BA)(l:List BA)(hW:BQ v)(Cd:l.length<=1000000000):Pu 147 [.agg (Bd v),.str name,.sl 1 (A7 l)] (.ret (.AE [.str (V9 v name l).1,.int .i64 (V9 v name l).2])):=by
 unfold V9
 by_cases h0:Bl AP name (AU v)=false
 ·rw [iP h0]; exact pm Ad [cl (@jH (v) (name) hW),B2 (B6 h0)] func147
 ·rw [iN h0]
  have h0:=Jq h0
  by_cases h2:(l.length:Int)=((CV (Au AP name (AU v))).length:Int)
  ·rw [iP h2]
   have he:=o9 v name l 0 oM
   rw [List.drop_zero] at he
   by_cases h3:l=(CV (Au AP name (AU v))).map Fe
   ·rw [iP h3]; exact pu Ad (fun e=>[cl (@jH (v) (name) hW),AQ (AJ h0),sl (A3 l),sl (Vr.A0 (CV (Au AP name (AU v)))),Bi h2,lp (S.mk [(0,.v (.agg (Bd v))),(1,vS name),(2,vL 1 (A7 l)),(3,.lp 3 0),(6,vS Ah),(7,A1 0),(12,.v (.agg (Bd v))),(13,vS name),(14,.v (.AE [.agg (JV (Au AP name (AU v))),.bool (Bl AP name (AU v))])),(11,.v (.AE [.agg (JV (Au AP name (AU v))),.bool (Bl AP name (AU v))])),(15,.v (.agg (JV (Au AP name (AU v))))),(16,.v (.bool (Bl AP name (AU v)))),(8,.lp 8 0),(9,.v (.bool (Bl AP name (AU v)))),(17,.v (.bool (Bl AP name (AU v)))),(18,.v (.bool !Bl AP name (AU v))),(19,vL 1 (A7 l)),(20,A1 (l.length:Int)),(21,.lp 8 1),(22,vL 2 (Vr.cs (CV (Au AP name (AU v))))),(23,A1 ((CV (Au AP name (AU v))).length:Int)),(24,.v (.bool ((l.length:Int) != ((CV (Au AP name (AU v))).length:Int)))),(10,A1 0)] [(3,CT v),(8,WX (Au AP name (AU v)))] e) (@A7t (v) (name) (l) hW h0 h2 (e) Cd (by rw [he,iP h3])) xr]) func147
   ·rw [iN h3]; exact pu Ad (fun e=>[cl (@jH (v) (name) hW),AQ (AJ h0),sl (A3 l),sl (Vr.A0 (CV (Au AP name (AU v)))),Bi h2,lp (S.mk [(0,.v (.agg (Bd v))),(1,vS name),(2,vL 1 (A7 l)),(3,.lp 3 0),(6,vS Ah),(7,A1 0),(12,.v (.agg (Bd v))),(13,vS name),(14,.v (.AE [.agg (JV (Au AP name (AU v))),.bool (Bl AP name (AU v))])),(11,.v (.AE [.agg (JV (Au AP name (AU v))),.bool (Bl AP name (AU v))])),(15,.v (.agg (JV (Au AP name (AU v))))),(16,.v (.bool (Bl AP name (AU v)))),(8,.lp 8 0),(9,.v (.bool (Bl AP name (AU v)))),(17,.v (.bool (Bl AP name (AU v)))),(18,.v (.bool !Bl AP name (AU v))),(19,vL 1 (A7 l)),(20,A1 (l.length:Int)),(21,.lp 8 1),(22,vL 2 (Vr.cs (CV (Au AP name (AU v))))),(23,A1 ((CV (Au AP name (AU v))).length:Int)),(24,.v (.bool ((l.length:Int) != ((CV (Au AP name (AU v))).length:Int)))),(10,A1 0)] [(3,CT v),(8,WX (Au AP name (AU v)))] e) (@A7s (v) (name) (l) hW h0 h2 (e) Cd (by rw [he,iN h3])) xr]) func147
  ·rw [iN h2]; exact pm Ad [cl (@jH (v) (name) hW),AQ (AJ h0),sl (A3 l),sl (Vr.A0 (CV (Au AP name (AU v)))),Bv h2] func147
def oA(o:Int)(l:List BA):BA × Int:=
 if o=6∨o=7∨o=8∨o=9 then (if Cj H7 l=true then (H7,0) else (Ah,11))
 else if o=10∨o=11 then (if l.getD 0 Ah=l.getD 1 Ah then (E2,0) else (Ah,11))
 else if o=12∨o=13 then (if Cj H7 l=true then (E2,0) else (Ah,11))
 else (if Cj E2 l=true then (E2,0) else (Ah,11))
theorem Abp(o:Int)(l:List BA)(Cd:l.length<=1000000000)(L7:o=10∨o=11->2<=l.length):Pu 148 [.int .i64 o,.sl 1 (A7 l)] (.ret (.AE [.str (oA o l).1,.int .i64 (oA o l).2])):=by
 have I:∀ (P:BA × Int->Prop) (s:BA),(Cj s l=true->P (H7,0))->(Cj s l=false->P (Ah,11))->P (if Cj s l=true then (H7,0) else (Ah,11)):=fun P s a b=>by
  cases h:Cj s l with
  | true=>exact a h
  | false=>exact b h
 have B:∀ (P:BA × Int->Prop) (s:BA),(Cj s l=true->P (E2,0))->(Cj s l=false->P (Ah,11))->P (if Cj s l=true then (E2,0) else (Ah,11)):=fun P s a b=>by
  cases h:Cj s l with
  | true=>exact a h
  | false=>exact b h
 have E:∀ (P:BA × Int->Prop),(l.getD 0 Ah=l.getD 1 Ah->P (E2,0))->(¬l.getD 0 Ah=l.getD 1 Ah->P (Ah,11))->P (if l.getD 0 Ah=l.getD 1 Ah then (E2,0) else (Ah,11)):=fun P a b=>by
  by_cases h:l.getD 0 Ah=l.getD 1 Ah
  ·rw [iP h]; exact a h
  ·rw [iN h]; exact b h
 unfold oA
 by_cases h6:o=6
 ·rw [iP oM]
  exact I (fun x=>Pu 148 [.int .i64 o,.sl 1 (A7 l)] (.ret (.AE [.str x.1,.int .i64 x.2]))) _ (A7u o l Cd L7 h6) (A7v o l Cd L7 h6)
 ·by_cases h7:o=7
  ·rw [iP oM]
   exact I (fun x=>Pu 148 [.int .i64 o,.sl 1 (A7 l)] (.ret (.AE [.str x.1,.int .i64 x.2]))) _ (A7w o l Cd L7 h6 h7) (A7x o l Cd L7 h6 h7)
  ·by_cases h8:o=8
   ·rw [iP oM]
    exact I (fun x=>Pu 148 [.int .i64 o,.sl 1 (A7 l)] (.ret (.AE [.str x.1,.int .i64 x.2]))) _ (A7y o l Cd L7 h6 h7 h8) (A7z o l Cd L7 h6 h7 h8)
   ·by_cases h9:o=9
    ·rw [iP oM]
     exact I (fun x=>Pu 148 [.int .i64 o,.sl 1 (A7 l)] (.ret (.AE [.str x.1,.int .i64 x.2]))) _ (A80 o l Cd L7 h6 h7 h8 h9) (A81 o l Cd L7 h6 h7 h8 h9)
    ·rw [iN oM]
     by_cases J4:o=10
     ·rw [iP oM]
      exact E (fun x=>Pu 148 [.int .i64 o,.sl 1 (A7 l)] (.ret (.AE [.str x.1,.int .i64 x.2]))) (A82 o l Cd L7 h6 h7 h8 h9 J4) (yQ o l Cd L7 h6 h7 h8 h9 J4)
     ·by_cases KN:o=11
      ·rw [iP oM]
       exact E (fun x=>Pu 148 [.int .i64 o,.sl 1 (A7 l)] (.ret (.AE [.str x.1,.int .i64 x.2]))) (yR o l Cd L7 h6 h7 h8 h9 J4 KN) (yS o l Cd L7 h6 h7 h8 h9 J4 KN)
      ·rw [iN oM]
       by_cases NI:o=12
       ·rw [iP oM]
        exact B (fun x=>Pu 148 [.int .i64 o,.sl 1 (A7 l)] (.ret (.AE [.str x.1,.int .i64 x.2]))) _ (yT o l Cd L7 h6 h7 h8 h9 J4 KN NI) (yU o l Cd L7 h6 h7 h8 h9 J4 KN NI)
       ·by_cases Jz:o=13
        ·rw [iP oM]
         exact B (fun x=>Pu 148 [.int .i64 o,.sl 1 (A7 l)] (.ret (.AE [.str x.1,.int .i64 x.2]))) _ (yV o l Cd L7 h6 h7 h8 h9 J4 KN NI Jz) (yX o l Cd L7 h6 h7 h8 h9 J4 KN NI Jz)
        ·rw [iN oM]
         exact B (fun x=>Pu 148 [.int .i64 o,.sl 1 (A7 l)] (.ret (.AE [.str x.1,.int .i64 x.2]))) _ (yY o l Cd L7 h6 h7 h8 h9 J4 KN NI Jz) (yZ o l Cd L7 h6 h7 h8 h9 J4 KN NI Jz)
abbrev Vp(v:Nv)(p:Pr)(sf:Pr->BA)(BD:Pr->Int)(j:Int)(out:List BA)(e:Ext):S:=S.mk [(2,.lp 2 0),(3,.lp 3 0),(6,.uniq 74 1 (A7 out)),(7,A1 j)] [(2,CT v),(3,BK p)] e
inductive DM where
 | e0 (el:Pr) (out:List BA)
 | e1 (out:List BA)
def DI(sf:Pr->BA)(BD:Pr->Int):List Pr->(List BA)->DM
 | [],out=>(DM.e1 out)
 | el::r,out=>(if BD el=0 then DI sf BD r (out++[sf el]) else (DM.e0 el out))
def O1(v:Nv)(p:Pr)(sf:Pr->BA)(BD:Pr->Int)(e:Ext):DM->A5 × S
 | .e0 el out=>(.ret,S.mk [(2,.lp 2 0),(3,.lp 3 0),(6,.uniq 74 1 (A7 out)),(4,vS Ah),(5,A1 (BD el))] [(2,CT v),(3,BK p)] e)
 | .e1 out=>(.exit 0,S.mk [(2,.lp 2 0),(3,.lp 3 0),(6,.uniq 74 1 (A7 out))] [(2,CT v),(3,BK p)] e)
theorem cX(v:Nv)(p:Pr)(sf:Pr->BA)(BD:Pr->Int)(Bg:∀w:Pr,w∈As p->Pu 99 [.agg (Bd v),.agg (AO w)] (.ret (.AE [.str (sf w),.int .i64 (BD w)])))(e:Ext)(hN:(As p).length<=1000000000)(out:List BA)(hv:(out.length<=0)):(Ob.loop 78 (Ai f99 0) (Vp v p sf BD 0 out e) (O1 v p sf BD e (DI sf BD (List.drop 0 ((As p)))  out)).1 (O1 v p sf BD e (DI sf BD (List.drop 0 ((As p)))  out)).2).ok prog:=by
 refine Ds ((As p).length) (fun j out=>Vp v p sf BD j out e) (fun i out=>DI sf BD (List.drop i ((As p)))  out) (O1 v p sf BD e) (fun i out=>(out.length<=i)) kR ?_ out (by first | exact hv | omega)
 rintro i out hi hv
 try simp only at hv
 rcases Nat.lt_or_ge i ((As p).length) with Ag | CO
 ·have hd:=AH Ag
  by_cases h0:BD (List.getD (As p) i default)=0
  ·exact lS Ad [sl (Pr.A0 (As p)),dt ((i:Int)<((As p).length:Int)),am ((0:Int)<=(i:Int)/\(i:Int)<((Pr.cs (As p)).length:Int)) (by (simp only [Pr.A0]; omega)),Wu (As p) i Ag,cl (@Bg (List.getD (As p) i default) (by simp_all)),Bi h0,am (List.length (A7 out++(fun x=>Prod.snd x) (0+1,[[.str (sf (List.getD (As p) i default))]])) * (15+1)<=140737488355328) (by (simp only [List.length_append,List.length_cons,List.length_nil,A3]; omega)),wr ((i:Int)+1)] [2,3,6,7,4,5] [2,3] Ag (out++[sf (List.getD (As p) i default)]) (S.mk [(2,.lp 2 0),(3,.lp 3 0),(6,.uniq 74 1 (A7 out++[[PV.str (sf (List.getD (As p) i default))]])),(7,A1 ((i:Int)+1))] [(2,CT v),(3,BK p)] e) ⟨⟨W,W,(.inl (by first | (simp only [List.nil_append,AX,AM,Pr.A2,Tp.A2,Ex.A2,Vr.A2,Df.A2]; done) | (simp only [List.nil_append,AX,AM,Pr.A2,Tp.A2,Ex.A2,Vr.A2,Df.A2]; rfl))),W,An⟩,⟨Ws,Ws,An⟩,rfl⟩ (by first | assumption | omega | (apply gPr <;> first | assumption | omega | decide) | (simp only [List.length_append,List.length_cons,List.length_nil] at *; omega) | simp_all) (by rw [hd,DI,iP h0])
  ·exact lX Ad [sl (Pr.A0 (As p)),dt ((i:Int)<((As p).length:Int)),am ((0:Int)<=(i:Int)/\(i:Int)<((Pr.cs (As p)).length:Int)) (by (simp only [Pr.A0]; omega)),Wu (As p) i Ag,cl (@Bg (List.getD (As p) i default) (by simp_all)),Bv h0] (DM.e0 (List.getD ((As p)) i default) out) (by rw [hd,DI,iN h0])
 ·have he:i=(As p).length:=by omega
  exact lX Ad [sl (Pr.A0 (As p)),df ((i:Int)<((As p).length:Int))] (DM.e1 out) (by rw [he,List.drop_length,DI])
theorem A83(v:Nv)(p:Pr)(sf:Pr->BA)(BD:Pr->Int)(Bg:∀w:Pr,w∈As p->Pu 99 [.agg (Bd v),.agg (AO w)] (.ret (.AE [.str (sf w),.int .i64 (BD w)])))(out:List BA)(e:Ext)(hN:(As p).length<=1000000000)(hv:List.length out<=0)(p0:Pr)(p1:List BA)(At:(DI sf BD ((As p))  out)=(DM.e0 p0 p1)):(Ob.loop 78 (Ai f99 0) (Vp v p sf BD 0 out e) (O1 v p sf BD e (DM.e0 p0 p1)).1 (O1 v p sf BD e (DM.e0 p0 p1)).2).ok prog:=
 rz (cX v p sf BD Bg e hN out hv) At
theorem O2(v:Nv)(p:Pr)(sf:Pr->BA)(BD:Pr->Int)(Bg:∀w:Pr,w∈As p->Pu 99 [.agg (Bd v),.agg (AO w)] (.ret (.AE [.str (sf w),.int .i64 (BD w)])))(out:List BA)(e:Ext)(hN:(As p).length<=1000000000)(hv:List.length out<=0)(p0:List BA)(At:(DI sf BD ((As p))  out)=(DM.e1 p0)):(Ob.loop 78 (Ai f99 0) (Vp v p sf BD 0 out e) (O1 v p sf BD e (DM.e1 p0)).1 (O1 v p sf BD e (DM.e1 p0)).2).ok prog:=
 rz (cX v p sf BD Bg e hN out hv) At
theorem cY(sf:Pr->BA)(BD:Pr->Int):∀ (l:List Pr) (out:List BA),DI sf BD l out=match DB sf BD l out with
  | .e0 w o => .e0 w o
  | .e1 o => .e1 o
 | [],out=>rfl
 | x::r,out=>by
  rw [DI,DB]
  split
  ·exact cY sf BD r _
  ·rfl
theorem TB{sf:Pr->BA}{BD:Pr->Int}{l:List Pr}{o:List BA}(h:DI sf BD l [] = .e1 o):DB sf BD l [] = .e1 o:=by
 rw [cY] at h
 cases h2:DB sf BD l [] with
 | e0 w o'=>rw [h2] at h; cases h
 | e1 o'=>rw [h2] at h; simp only [DM.e1.injEq] at h; rw [h]
theorem z4{p:Pr}{sf:Pr->BA}{BD:Pr->Int}{o:List BA}(ha:NK p)(hr:DI sf BD (As p) [] = .e1 o):Ab p=10∨Ab p=11->2<=o.length:=nR ha (TB hr)
theorem TC{p:Pr}{sf:Pr->BA}{BD:Pr->Int}{o:List BA}(Cd:(As p).length<=1000000000)(hr:DI sf BD (As p) [] = .e1 o):o.length<=1000000000:=of_le Cd (TB hr)
section
variable (v:Nv) (p:Pr) (sf:Pr->BA) (BD:Pr->Int) (Bg:∀w:Pr,w∈As p->Pu 99 [.agg (Bd v),.agg (AO w)] (.ret (.AE [.str (sf w),.int .i64 (BD w)]))) (Cd:(As p).length<=1000000000) (hW:BQ v) (hAr:NK p)
include v p sf BD Bg Cd hW hAr
theorem z5(Dc:Pr)(Ii:List BA)(Ao:DI sf BD (As p) []=DM.e0 Dc Ii):Pu 99 [.agg (Bd v),.agg (AO p)] (.ret (.AE [.str Ah,pI (BD Dc)])):=
 pu Ad (fun e=>[lp (S.mk [(0,.v (.agg (Bd v))),(1,.v (.agg (AO p))),(2,.lp 2 0),(3,.lp 3 0),(4,vS Ah),(5,A1 0),(6,.v .A4),(7,A1 0)] [(2,CT v),(3,BK p)] e) (@A83 (v) (p) (sf) (BD) Bg ([]) (e) Cd (by (simp only [List.length_nil]; omega)) Dc Ii Ao) ⟨⟨W,W,Wq,W,An⟩,⟨⟨W,W,W,An⟩,⟨W,W,W,W,An⟩,An⟩,rfl⟩]) func99
theorem z6(Dc:List BA)(Ae:DI sf BD (As p) []=DM.e1 Dc)(Ao:Ab p=1):Pu 99 [.agg (Bd v),.agg (AO p)] (.ret (.AE [.str (ByteArray.mk #[73,110,116]),pI 0])):=
 pu Ad (fun e=>[lp (S.mk [(0,.v (.agg (Bd v))),(1,.v (.agg (AO p))),(2,.lp 2 0),(3,.lp 3 0),(4,vS Ah),(5,A1 0),(6,.v .A4),(7,A1 0)] [(2,CT v),(3,BK p)] e) (@O2 (v) (p) (sf) (BD) Bg ([]) (e) Cd (by (simp only [List.length_nil]; omega)) Dc Ae) ⟨⟨W,W,Wq,W,An⟩,⟨⟨W,W,W,An⟩,⟨W,W,W,W,An⟩,An⟩,rfl⟩,Bh Ao]) func99
theorem z7(Dc:List BA)(Ae:DI sf BD (As p) []=DM.e1 Dc)(Ao:¬Ab p=1)(AK:Ab p=2):Pu 99 [.agg (Bd v),.agg (AO p)] (.ret (.AE [.str (ByteArray.mk #[66,111,111,108]),pI 0])):=
 pu Ad (fun e=>[lp (S.mk [(0,.v (.agg (Bd v))),(1,.v (.agg (AO p))),(2,.lp 2 0),(3,.lp 3 0),(4,vS Ah),(5,A1 0),(6,.v .A4),(7,A1 0)] [(2,CT v),(3,BK p)] e) (@O2 (v) (p) (sf) (BD) Bg ([]) (e) Cd (by (simp only [List.length_nil]; omega)) Dc Ae) ⟨⟨W,W,Wq,W,An⟩,⟨⟨W,W,W,An⟩,⟨W,W,W,W,An⟩,An⟩,rfl⟩,Aw Ao,Bh AK]) func99
theorem z8(Dc:List BA)(Ae:DI sf BD (As p) []=DM.e1 Dc)(Ao:¬Ab p=1)(AK:¬Ab p=2)(B9:Ab p=3)(BU:Bl BP (Aq p) (List.reverse (AS v))=false):Pu 99 [.agg (Bd v),.agg (AO p)] (.ret (.AE [.str Ah,pI 5])):=
 pu Ad (fun e=>[lp (S.mk [(0,.v (.agg (Bd v))),(1,.v (.agg (AO p))),(2,.lp 2 0),(3,.lp 3 0),(4,vS Ah),(5,A1 0),(6,.v .A4),(7,A1 0)] [(2,CT v),(3,BK p)] e) (@O2 (v) (p) (sf) (BD) Bg ([]) (e) Cd (by (simp only [List.length_nil]; omega)) Dc Ae) ⟨⟨W,W,Wq,W,An⟩,⟨⟨W,W,W,An⟩,⟨W,W,W,W,An⟩,An⟩,rfl⟩,Aw Ao,Aw AK,Bh B9,cl (@A7d (v) (Aq p) hW),B2 (B6 BU)]) func99
theorem z9(Dc:List BA)(Ae:DI sf BD (As p) []=DM.e1 Dc)(Ao:¬Ab p=1)(AK:¬Ab p=2)(B9:Ab p=3)(BU:Bl BP (Aq p) (List.reverse (AS v))=true):Pu 99 [.agg (Bd v),.agg (AO p)] (.ret (.AE [.str (Fe (Au BP (Aq p) (List.reverse (AS v)))),pI 0])):=
 pu Ad (fun e=>[lp (S.mk [(0,.v (.agg (Bd v))),(1,.v (.agg (AO p))),(2,.lp 2 0),(3,.lp 3 0),(4,vS Ah),(5,A1 0),(6,.v .A4),(7,A1 0)] [(2,CT v),(3,BK p)] e) (@O2 (v) (p) (sf) (BD) Bg ([]) (e) Cd (by (simp only [List.length_nil]; omega)) Dc Ae) ⟨⟨W,W,Wq,W,An⟩,⟨⟨W,W,W,An⟩,⟨W,W,W,W,An⟩,An⟩,rfl⟩,Aw Ao,Aw AK,Bh B9,cl (@A7d (v) (Aq p) hW),AQ (AJ BU)]) func99
theorem zA(Dc:List BA)(Ae:DI sf BD (As p) []=DM.e1 Dc)(Ao:¬Ab p=1)(AK:¬Ab p=2)(B9:¬Ab p=3)(BU:Ab p=4):Pu 99 [.agg (Bd v),.agg (AO p)] (.ret (.AE [.str (Prod.fst (V8 v (Aq p) Dc)),pI (Prod.snd (V8 v (Aq p) Dc))])):=
 pu Ad (fun e=>[lp (S.mk [(0,.v (.agg (Bd v))),(1,.v (.agg (AO p))),(2,.lp 2 0),(3,.lp 3 0),(4,vS Ah),(5,A1 0),(6,.v .A4),(7,A1 0)] [(2,CT v),(3,BK p)] e) (@O2 (v) (p) (sf) (BD) Bg ([]) (e) Cd (by (simp only [List.length_nil]; omega)) Dc Ae) ⟨⟨W,W,Wq,W,An⟩,⟨⟨W,W,W,An⟩,⟨W,W,W,W,An⟩,An⟩,rfl⟩,Aw Ao,Aw AK,Aw B9,Bh BU,cl (@Abn (v) (Aq p) (Dc) hW (by (apply TC <;> first | assumption | omega | decide)))]) func99
theorem zB(Dc:List BA)(Ae:DI sf BD (As p) []=DM.e1 Dc)(Ao:¬Ab p=1)(AK:¬Ab p=2)(B9:¬Ab p=3)(BU:¬Ab p=4)(Fk:Ab p=5):Pu 99 [.agg (Bd v),.agg (AO p)] (.ret (.AE [.str (Prod.fst (V9 v (Aq p) Dc)),pI (Prod.snd (V9 v (Aq p) Dc))])):=
 pu Ad (fun e=>[lp (S.mk [(0,.v (.agg (Bd v))),(1,.v (.agg (AO p))),(2,.lp 2 0),(3,.lp 3 0),(4,vS Ah),(5,A1 0),(6,.v .A4),(7,A1 0)] [(2,CT v),(3,BK p)] e) (@O2 (v) (p) (sf) (BD) Bg ([]) (e) Cd (by (simp only [List.length_nil]; omega)) Dc Ae) ⟨⟨W,W,Wq,W,An⟩,⟨⟨W,W,W,An⟩,⟨W,W,W,W,An⟩,An⟩,rfl⟩,Aw Ao,Aw AK,Aw B9,Aw BU,Bh Fk,cl (@Abo (v) (Aq p) (Dc) hW (by (apply TC <;> first | assumption | omega | decide)))]) func99
theorem zC(Dc:List BA)(Ae:DI sf BD (As p) []=DM.e1 Dc)(Ao:¬Ab p=1)(AK:¬Ab p=2)(B9:¬Ab p=3)(BU:¬Ab p=4)(Fk:¬Ab p=5):Pu 99 [.agg (Bd v),.agg (AO p)] (.ret (.AE [.str (Prod.fst (oA (Ab p) Dc)),pI (Prod.snd (oA (Ab p) Dc))])):=
 pu Ad (fun e=>[lp (S.mk [(0,.v (.agg (Bd v))),(1,.v (.agg (AO p))),(2,.lp 2 0),(3,.lp 3 0),(4,vS Ah),(5,A1 0),(6,.v .A4),(7,A1 0)] [(2,CT v),(3,BK p)] e) (@O2 (v) (p) (sf) (BD) Bg ([]) (e) Cd (by (simp only [List.length_nil]; omega)) Dc Ae) ⟨⟨W,W,Wq,W,An⟩,⟨⟨W,W,W,An⟩,⟨W,W,W,W,An⟩,An⟩,rfl⟩,Aw Ao,Aw AK,Aw B9,Aw BU,Aw Fk,cl (@Abp (Ab p) (Dc) (by (apply TC <;> first | assumption | omega | decide)) (by (apply z4 <;> first | assumption | omega | decide)))]) func99
end
theorem A84(v:Nv)(p:Pr)(l:List BA)(h1:¬Ab p=1)(h2:¬Ab p=2)(h3:¬Ab p=3)(h4:¬Ab p=4)(h5:¬Ab p=5):Cf v p l=(oA (Ab p) l).1/\Cg v p l=(oA (Ab p) l).2:=by
 have hI:∀s:BA,(Cj s l=true)∨(Cj s l=false):=fun s=>by cases Cj s l <;> simp
 unfold Cf Cg oA
 simp only [h1,h2,h3,h4,h5,if_false]
 by_cases h6:Ab p=6
 ·rcases hI (ByteArray.mk #[73,110,116]) with h | h <;> simp [h6,h,H7]
 ·by_cases h7:Ab p=7
  ·rcases hI (ByteArray.mk #[73,110,116]) with h | h <;> simp [h7,h,H7]
  ·by_cases h8:Ab p=8
   ·rcases hI (ByteArray.mk #[73,110,116]) with h | h <;> simp [h8,h,H7]
   ·by_cases h9:Ab p=9
    ·rcases hI (ByteArray.mk #[73,110,116]) with h | h <;> simp [h9,h,H7]
    ·by_cases NI:Ab p=12
     ·rcases hI (ByteArray.mk #[73,110,116]) with h | h <;> simp [NI,h,H7,E2]
     ·by_cases Jz:Ab p=13
      ·rcases hI (ByteArray.mk #[73,110,116]) with h | h <;> simp [Jz,h,H7,E2]
      ·by_cases J4:Ab p=10
       ·by_cases h:l[0]?.getD Ah=l[1]?.getD Ah <;> simp [J4,h,E2]
       ·by_cases KN:Ab p=11
        ·by_cases h:l[0]?.getD Ah=l[1]?.getD Ah <;> simp [KN,h,E2]
        ·rcases hI (ByteArray.mk #[66,111,111,108]) with h | h <;> simp [h6,h7,h8,h9,J4,KN,NI,Jz,h,E2]
theorem cZ(v:Nv)(hW:BQ v):∀ (d:Nat) (p:Pr),A6 (AO p)<d->d<=1000000001->NK p->Pu 99 [.agg (Bd v),.agg (AO p)] (.ret (.AE [.str (Ok d v p).1,.int .i64 (Ok d v p).2]))
 | 0,_,h,_,_=>by omega
 | d+1,p,h,hd,ha=>by
  have h1:=NL p
  have h2:=Pr.BT (As p)
  have hN:(As p).length<=1000000000:=by omega
  have hk:∀w:Pr,w∈As p->Pu 99 [.agg (Bd v),.agg (AO w)] (.ret (.AE [.str (Ok d v w).1,.int .i64 (Ok d v w).2])):=fun w hw=>cZ v hW d w (by have:=Pr.mem hw; omega) oM (by cases ha with | mk _ _ hk=>exact hk w hw)
  rw [Ok]
  cases Sm:DI (fun w=>(Ok d v w).1) (fun w=>(Ok d v w).2) (As p) [] with
  | e0 w o=>
   have hr:=cY (fun w=>(Ok d v w).1) (fun w=>(Ok d v w).2) (As p) []
   rw [Sm] at hr
   cases hr2:DB (fun w=>(Ok d v w).1) (fun w=>(Ok d v w).2) (As p) [] with
   | e0 w' o'=>
    rw [hr2] at hr; simp only [DM.e0.injEq] at hr; rw [<-hr.1]
    exact z5 v p _ _ hk hN hW ha w o Sm
   | e1 o'=>rw [hr2] at hr; cases hr
  | e1 o=>
   rw [TB Sm]
   simp only
   by_cases h1:Ab p=1
   ·have e0:Cf v p o=H7:=by unfold Cf; rw [iP h1]
    have e1:Cg v p o=0:=by unfold Cg; rw [iP h1]
    rw [e0,e1]; exact z6 v p _ _ hk hN hW ha o Sm h1
   by_cases h2:Ab p=2
   ·have e0:Cf v p o=E2:=by unfold Cf; rw [iN h1,iP h2]
    have e1:Cg v p o=0:=by unfold Cg; rw [iN h1,iP h2]
    rw [e0,e1]; exact z7 v p _ _ hk hN hW ha o Sm h1 h2
   by_cases h3:Ab p=3
   ·cases hb:Bl BP (Aq p) (AS v).reverse with
    | false=>
     have e0:Cf v p o=Ah:=by unfold Cf; rw [iN h1,iN h2,iP h3,iP hb]
     have e1:Cg v p o=5:=by unfold Cg; rw [iN h1,iN h2,iP h3,iP hb]
     rw [e0,e1]; exact z8 v p _ _ hk hN hW ha o Sm h1 h2 h3 hb
    | true=>
     have e0:Cf v p o=Fe (Au BP (Aq p) (AS v).reverse):=by unfold Cf; rw [iN h1,iN h2,iP h3,iN (by rw [hb]; decide)]
     have e1:Cg v p o=0:=by unfold Cg; rw [iN h1,iN h2,iP h3,iN (by rw [hb]; decide)]
     rw [e0,e1]; exact z9 v p _ _ hk hN hW ha o Sm h1 h2 h3 hb
   by_cases h4:Ab p=4
   ·have e0:Cf v p o=(V8 v (Aq p) o).1:=by unfold Cf; rw [iN h1,iN h2,iN h3,iP h4]
    have e1:Cg v p o=(V8 v (Aq p) o).2:=by unfold Cg; rw [iN h1,iN h2,iN h3,iP h4]
    rw [e0,e1]; exact zA v p _ _ hk hN hW ha o Sm h1 h2 h3 h4
   by_cases h5:Ab p=5
   ·have e0:Cf v p o=(V9 v (Aq p) o).1:=by unfold Cf; rw [iN h1,iN h2,iN h3,iN h4,iP h5]
    have e1:Cg v p o=(V9 v (Aq p) o).2:=by unfold Cg; rw [iN h1,iN h2,iN h3,iN h4,iP h5]
    rw [e0,e1]; exact zB v p _ _ hk hN hW ha o Sm h1 h2 h3 h4 h5
   ·have:=A84 v p o h1 h2 h3 h4 h5
    rw [this.1,this.2]; exact zC v p _ _ hk hN hW ha o Sm h1 h2 h3 h4 h5
theorem Abq(v:Nv)(p:Pr)(hW:BQ v)(hs:A6 (AO p)<=100000000)(kG:Ge p=0):Pu 99 [.agg (Bd v),.agg (AO p)] (.ret (.AE [.str (jF v p).1,.int .i64 (jF v p).2])):=cZ v hW _ p oM oM (nT kG)
theorem zD(v:Nv)(p:Pr)(hW:BQ v)(hs:A6 (AO p)<=100000000):Pu 55 [.agg (Bd v),.agg (AO p)] (.ret (.AE [.str (KP v p).1,.int .i64 (KP v p).2])):=by
 unfold KP
 by_cases h:Ge p=0
 ·rw [iP h]; exact pm Ad [cl (@wF (p) hs),nn (Ge p) 0 h,cl (@Abq (v) (p) hW hs h)] func55
 ·rw [iN h]; exact pm Ad [cl (@wF (p) hs),nt (Ge p) 0 h] func55
theorem rze(p:Pr):Pu 128 [.agg (AO p)] (rB (Ab p==0&&ByteArray.toList (Aq p)==ByteArray.toList Ah&&Ch p==0&&((As p).length:Int)==0)):=
 pm Ad [mg,av (.v (.bool (bif Ab p==0 then ByteArray.toList (Aq p)==ByteArray.toList Ah else false))) (.v (.bool (Ab p==0&&ByteArray.toList (Aq p)==ByteArray.toList Ah))) (by (simp only [Bool.cond_false_right]; done)),mg,av (.v (.bool (bif Ab p==0&&ByteArray.toList (Aq p)==ByteArray.toList Ah then Ch p==0 else false))) (.v (.bool (Ab p==0&&ByteArray.toList (Aq p)==ByteArray.toList Ah&&Ch p==0))) (by (simp only [Bool.cond_false_right]; done)),mg,av (.v (.bool (bif Ab p==0&&ByteArray.toList (Aq p)==ByteArray.toList Ah&&Ch p==0 then (↑((fun x=>List.length (Prod.snd x)) (4,Pr.cs (As p))):Int)==0 else false))) (.v (.bool (Ab p==0&&ByteArray.toList (Aq p)==ByteArray.toList Ah&&Ch p==0&&((As p).length:Int)==0))) (by (simp only [List.length_nil,Pr.A0,Bool.cond_false_right]; done))] func128
def K6(v:Nv)(p:Pr):Int:=(if (Ab p==0&&ByteArray.toList (Aq p)==ByteArray.toList Ah&&Ch p==0&&((As p).length:Int)==0)=true then 0 else (if Prod.snd (KP v p)=0 then (if Prod.fst (KP v p)=ByteArray.mk #[66,111,111,108] then 0 else 11) else (Prod.snd (KP v p))))
theorem rsb(v:Nv)(p:Pr)(hW:BQ v)(hs:A6 (AO p)<=100000000):Pu 77 [.agg (Bd v),.agg (AO p)] (rI (K6 v p)):=by
 by_cases h0:(Ab p==0&&ByteArray.toList (Aq p)==ByteArray.toList Ah&&Ch p==0&&((As p).length:Int)==0)=true
 ·simp only [K6,iP h0]; exact pm Ad [cl (@rze (p)),B2 h0] func77
 ·by_cases h1:Prod.snd (KP v p)=0
  ·by_cases h2:Prod.fst (KP v p)=ByteArray.mk #[66,111,111,108]
   ·simp only [K6,iN h0,iP h1,iP h2]; exact pm Ad [cl (@rze (p)),AQ (DQ h0),cl (@zD (v) (p) hW hs),Bi h1,bf (!ByteArray.toList (Prod.fst (KP v p))==ByteArray.toList (ByteArray.mk #[66,111,111,108])) (AJ (BL h2))] func77
   ·simp only [K6,iN h0,iP h1,iN h2]; exact pm Ad [cl (@rze (p)),AQ (DQ h0),cl (@zD (v) (p) hW hs),Bi h1,bt (!ByteArray.toList (Prod.fst (KP v p))==ByteArray.toList (ByteArray.mk #[66,111,111,108])) (B6 (BZ h2))] func77
  ·simp only [K6,iN h0,iN h1]; exact pm Ad [cl (@rze (p)),AQ (DQ h0),cl (@zD (v) (p) hW hs),Bv h1] func77
theorem A85(p:Pr):(Ab p==0&&ByteArray.toList (Aq p)==ByteArray.toList Ah&&Ch p==0&&((As p).length:Int)==0)=BY p:=by
 have hl:(((As p).length:Int)==0)=isNil (As p):=by
  unfold isNil
  by_cases h:((As p).length:Int)=0
  ·rw [decide_eq_true h]; exact beq_iff_eq.2 h
  ·rw [decide_eq_false h]; exact beq_eq_false_iff_ne.2 h
 rw [hl]
 unfold BY
 by_cases h0:Ab p=0
 ·by_cases h1:Aq p=Ah
  ·by_cases h2:Ch p=0
   ·rw [iP h0,iP h1,iP h2,BL h1,h0,h2]; simp
   ·rw [iP h0,iP h1,iN h2,(beq_eq_false_iff_ne (a:=Ch p) (b:=0)).2 h2]; simp
  ·rw [iP h0,iN h1,BZ h1]; simp
 ·rw [iN h0,(beq_eq_false_iff_ne (a:=Ab p) (b:=0)).2 h0]; simp
theorem A86(v:Nv)(p:Pr):K6 v p=Bp v p:=by
 unfold K6 Bp
 rw [A85]
 by_cases h0:BY p=true
 ·rw [iP h0,iP h0]
 ·rw [iN h0,iN h0]
  by_cases h1:(KP v p).2=0
  ·rw [iP h1,h1]
   by_cases h2:(KP v p).1=ByteArray.mk #[66,111,111,108]
   ·rw [iP h2,BL h2]; rfl
   ·rw [iN h2,BZ h2]; rfl
  ·rw [iN h1,(beq_eq_false_iff_ne (a:=(KP v p).2) (b:=0)).2 h1]; simp
theorem TD(v:Nv)(p:Pr)(hW:BQ v)(hs:A6 (AO p)<=100000000):Pu 77 [.agg (Bd v),.agg (AO p)] (.ret (.int .i64 (Bp v p))):=by
 rw [<-A86]; exact rsb v p hW hs
abbrev oD(t:Tp)(pf:Tp->Tp)(j:Int)(out:List Tp)(e:Ext):S:=S.mk [(2,.lp 2 0),(3,.lp 3 0),(12,vL 9 (Tp.cs (A8 t))),(13,A1 ((A8 t).length:Int)),(14,A1 j)] [(2,[A1 0,vS Ah,.v .A4,.v .A4,A1 0,vS Ah,A1 0,.v .A4,.v .A4]),(3,[A1 (AA t),vS (Af t),.uniq 43 9 (Tp.cs out),.v .A4,A1 0,vS Ah,A1 0,.v .A4,.v .A4])] e
def KR(pf:Tp->Tp):List Tp->(List Tp)->(List Tp)
 | [],out=>(out)
 | el::r,out=>KR pf r (out++[pf el])
def dA(t:Tp)(pf:Tp->Tp)(e:Ext)(p:(List Tp)):A5 × S:=(.exit 0,S.mk [(2,.lp 2 0),(3,.lp 3 0),(12,vL 9 (Tp.cs (A8 t))),(13,A1 ((A8 t).length:Int))] [(2,[A1 0,vS Ah,.v .A4,.v .A4,A1 0,vS Ah,A1 0,.v .A4,.v .A4]),(3,[A1 (AA t),vS (Af t),.uniq 43 9 (Tp.cs p),.v .A4,A1 0,vS Ah,A1 0,.v .A4,.v .A4])] e)
theorem rpl(t:Tp)(pf:Tp->Tp)(Bg:∀w:Tp,w∈A8 t->Pu 97 [.agg (Ay w)] (.ret (.agg (Ay (pf w)))))(out:List Tp)(e:Ext)(hN:(A8 t).length<=1000000000)(hv:List.length out<=0):(Ob.loop 27 (Ai f97 0) (oD t pf 0 out e) (dA t pf e (KR pf ((A8 t))  out)).1 (dA t pf e (KR pf ((A8 t))  out)).2).ok prog:=by
 refine Ds ((A8 t).length) (fun j out=>oD t pf j out e) (fun i out=>KR pf (List.drop i ((A8 t)))  out) (dA t pf e) (fun i out=>(out.length<=i)) kR ?_ out (by first | exact hv | omega)
 rintro i out hi hv
 try simp only at hv
 rcases Nat.lt_or_ge i ((A8 t).length) with Ag | CO
 ·have hd:=AH Ag
  exact lS Ad [dt ((i:Int)<((A8 t).length:Int)),am ((0:Int)<=(i:Int)/\(i:Int)<((Tp.cs (A8 t)).length:Int)) (by (simp only [Tp.A0]; omega)),OA (A8 t) i Ag,cl (@Bg (List.getD (A8 t) i default) (by simp_all)),am (List.length (Tp.cs out++(fun x=>Prod.snd x) (8+1,[Ay (pf (List.getD (A8 t) i default))])) * (151+1)<=140737488355328) (by (simp only [List.length_append,List.length_cons,List.length_nil,A3,Pr.A0,Tp.A0]; omega)),wr ((i:Int)+1)] [2,3,12,13,14] [2,3] Ag (out++[pf (List.getD (A8 t) i default)]) (S.mk [(2,.lp 2 0),(3,.lp 3 0),(12,vL 9 (Tp.cs (A8 t))),(13,A1 ((A8 t).length:Int)),(14,A1 ((i:Int)+1))] [(2,[A1 0,vS Ah,.v .A4,.v .A4,A1 0,vS Ah,A1 0,.v .A4,.v .A4]),(3,[A1 (AA t),vS (Af t),.uniq 43 9 (Tp.cs out++[Ay (pf (List.getD (A8 t) i default))]),.v .A4,A1 0,vS Ah,A1 0,.v .A4,.v .A4])] e) ⟨⟨W,W,W,W,W,An⟩,⟨Ws,⟨W,W,(.inl (by first | (simp only [List.nil_append,AX,AM,Pr.A2,Tp.A2,Ex.A2,Vr.A2,Df.A2,Sy.A2,Ho.A2]; done) | (simp only [List.nil_append,AX,AM,Pr.A2,Tp.A2,Ex.A2,Vr.A2,Df.A2,Sy.A2,Ho.A2]; rfl))),W,W,W,W,W,W,An⟩,An⟩,rfl⟩ (by first | assumption | omega | (apply gTp <;> first | assumption | omega | decide) | (simp only [List.length_append,List.length_cons,List.length_nil] at *; omega) | simp_all) (by rw [hd,KR])
 ·have he:i=(A8 t).length:=by omega
  exact lX Ad [df ((i:Int)<((A8 t).length:Int))] (out) (by rw [he,List.drop_length,KR])
theorem Abr(t:Tp)(pf:Tp->Tp)(Bg:∀w:Tp,w∈A8 t->Pu 97 [.agg (Ay w)] (.ret (.agg (Ay (pf w)))))(hN:(A8 t).length<=1000000000):Pu 97 [.agg (Ay t)] (rA [pI (AA t),.str (Af t),.sl 9 (Tp.cs (KR pf (A8 t) [])),.sl 1 [],pI 0,.str Ah,pI 0,.sl 4 [],.sl 4 []]):=
 Ob.Ed (Wk.a (kr (kr (kr (kn 1 (kr (kr (kr (kn 4 (kn 4 (DD.r _))))))))))) (pu Ad (fun e=>[sl (Tp.A0 (A8 t)),lp (S.mk [(0,.v (.agg (Ay t))),(1,.lp 1 0),(2,.lp 2 0),(6,.lp 1 0),(7,A1 (AA t)),(8,.lp 1 1),(9,vS (Af t)),(10,.v (.agg [pI (AA t),.str (Af t),.A4,.A4,pI 0,.str Ah,pI 0,.A4,.A4])),(3,.lp 3 0),(11,.lp 1 2),(12,vL 9 (Tp.cs (A8 t))),(13,A1 ((A8 t).length:Int)),(14,A1 0)] [(1,Bj t),(2,[A1 0,vS Ah,.v .A4,.v .A4,A1 0,vS Ah,A1 0,.v .A4,.v .A4]),(3,[A1 (AA t),vS (Af t),.v .A4,.v .A4,A1 0,vS Ah,A1 0,.v .A4,.v .A4])] e) (@rpl (t) (pf) Bg ([]) (e) hN (by (simp only [List.length_nil]; omega))) ⟨⟨W,W,W,W,W,An⟩,⟨⟨W,W,W,W,W,W,W,W,W,An⟩,⟨W,W,Wq,W,W,Wq,W,W,W,An⟩,An⟩,rfl⟩]) func97)
theorem oG(pf:Tp->Tp):∀ (l out:List Tp),KR pf l out=JB pf l out
 | [],out=>rfl
 | x::r,out=>by rw [KR,JB,oG pf r]
theorem dB:∀ (d:Nat) (t:Tp),A6 (Ay t)<d->d<=1000000001->Pu 97 [.agg (Ay t)] (.ret (.agg (Ay (plD d t))))
 | 0,_,h,_=>by omega
 | d+1,t,h,hd=>by
  have h1:=BM t
  have h2:=Tp.BT (A8 t)
  have:=Abr t (plD d) (fun w hw=>dB d w (by have:=Tp.mem hw; omega) oM) oM
  rw [oG] at this
  exact this
theorem A87(t:Tp)(hs:A6 (Ay t)<=1000000000):Pu 97 [.agg (Ay t)] (.ret (.agg (Ay (L0 t)))):=dB _ t oM oM
theorem zE(v:Nv)(a b:BA)(hE:BQ v):Pu 79 [.agg (Bd v),.agg [.str a,.str b]] (.ret (.agg (Bd (Lr v (.mk a b))))):=rwi v (.mk a b) hE
section
variable (v:Nv) (name:BA) (t:Tp) (hE:BQ v) (hs:A6 (Ay t)<=1000000000)
include v name t hE hs
theorem A88(Ac:(!CP (L0 t)||ByteArray.toList name==ByteArray.toList Ah)=true):Pu 53 [.agg (Bd v),.str name,.agg (Ay t)] (rA (Bd v)):=
 pm Ad [cl (@A87 (t) hs),cl (@A7e (L0 t)),mg,av (.v (.bool (bif !CP (L0 t) then true else ByteArray.toList name==ByteArray.toList Ah))) (.v (.bool (!CP (L0 t)||ByteArray.toList name==ByteArray.toList Ah))) rF,B2 Ac] func53
theorem A89(Ac:(!CP (L0 t)||ByteArray.toList name==ByteArray.toList Ah)=false):Pu 53 [.agg (Bd v),.str name,.agg (Ay t)] (rA (Bd (Lr v (Vr.mk name (DU (L0 t)))))):=
 pm Ad [cl (@A87 (t) hs),cl (@A7e (L0 t)),mg,av (.v (.bool (bif !CP (L0 t) then true else ByteArray.toList name==ByteArray.toList Ah))) (.v (.bool (!CP (L0 t)||ByteArray.toList name==ByteArray.toList Ah))) rF,AQ Ac,cl (@zE (v) (name) (DU (L0 t)) hE)] func53
end
theorem A8a(t:Tp)(i:Nat)(Ac:(i:Int)<((Aj t).length:Int)):Pu 54 [.agg (Ay t),pI (i:Int)] (.ret (.str (List.getD (Aj t) i Ah))):=
 pm Ad [sl (A3 (Aj t)),C6 Ac,am ((0:Int)<=(i:Int)/\(i:Int)<((A7 (Aj t)).length:Int)) (by (simp only [A3]; omega)),F5 (Aj t) i] func54
theorem A8b(t:Tp)(i:Nat)(Ac:¬(i:Int)<((Aj t).length:Int)):Pu 54 [.agg (Ay t),pI (i:Int)] (.ret (.str Ah)):=
 pm Ad [sl (A3 (Aj t)),Az Ac] func54
theorem gO0{v:Nv}(hE:BQ v):JC v v 0:=⟨hE,by omega⟩
section
variable (m:Mo) (v:Nv) (t:Tp) (tf:Nv->Tp->Int) (Bg:∀ (u:Nv) (i:Nat),i<(A8 t).length->JC v u i->Pu 35 [.agg (IC m u),.agg (Ay ((A8 t).getD i default))] (.ret (.int .i64 (tf u ((A8 t).getD i default))))) (hE:BQ v) (E3:(AS v).length<=50000000) (Bq:A6 (Ay t)<=10000000) (Ct:(Av m).length<=1048576) (k:Int) (Vd:Pu 73 [.sl 9 (Tp.cs (A8 t)),.fn (.func 35) [.agg (IC m v)] []] (.ret (.int .i64 k))) (WE:(A8 t).length<=1000000000) (QB:(Ak t).length<=1000000000)
include m v t tf Bg hE E3 Bq Ct k Vd WE QB
theorem A8c(Ac:AA t=6)(Ii:Tp)(Qw:Nv)(AK:EU t tf (A8 t) 0 v=GL.e0 Ii Qw):Pu 35 [.agg (IC m v),.agg (Ay t)] (rI (tf Qw Ii)):=
 pu Ad (fun e=>[Bh Ac,sl (Tp.A0 (A8 t)),lp (S.mk [(0,.v (.agg (.sl 4 (Da.cs (Av m)) :: .sl 3 (Cl.cs (BW m)) :: .sl 12 (In.cs (CJ m)) :: .sl 8 (Ms.cs (Ba m)) :: .sl 6 (Qu.cs (Dh m)) :: .sl 25 (Df.cs (AY m))::Bd v))),(1,.v (.agg (Ay t))),(2,.lp 2 0),(3,.lp 3 0),(4,A1 0),(15,.lp 3 0),(16,A1 (AA t)),(17,.v (.bool (AA t==6))),(18,.v (.agg (.sl 4 (Da.cs (Av m)) :: .sl 3 (Cl.cs (BW m)) :: .sl 12 (In.cs (CJ m)) :: .sl 8 (Ms.cs (Ba m)) :: .sl 6 (Qu.cs (Dh m)) :: .sl 25 (Df.cs (AY m))::Bd v))),(5,.lp 5 0),(19,.lp 3 2),(20,vL 9 (Tp.cs (A8 t))),(21,A1 ((A8 t).length:Int)),(22,A1 0)] [(2,vL 4 (Da.cs (Av m))::vL 3 (Cl.cs (BW m))::vL 12 (In.cs (CJ m))::vL 8 (Ms.cs (Ba m))::vL 6 (Qu.cs (Dh m))::vL 25 (Df.cs (AY m))::CT v),(3,Bj t),(5,vL 4 (Da.cs (Av m))::vL 3 (Cl.cs (BW m))::vL 12 (In.cs (CJ m))::vL 8 (Ms.cs (Ba m))::vL 6 (Qu.cs (Dh m))::vL 25 (Df.cs (AY m))::CT v)] e) (@A6t (m) (v) (t) (tf) Bg Ac E3 Bq (v) (e) WE (by (apply gO0 <;> first | assumption | omega | decide)) Ii Qw AK) xr]) func35
theorem A8d(Ac:AA t=6)(Ii:Nv)(Ao:EU t tf (A8 t) 0 v=GL.e1 Ii):Pu 35 [.agg (IC m v),.agg (Ay t)] (rI 0):=
 pu Ad (fun e=>[Bh Ac,sl (Tp.A0 (A8 t)),lp (S.mk [(0,.v (.agg (.sl 4 (Da.cs (Av m)) :: .sl 3 (Cl.cs (BW m)) :: .sl 12 (In.cs (CJ m)) :: .sl 8 (Ms.cs (Ba m)) :: .sl 6 (Qu.cs (Dh m)) :: .sl 25 (Df.cs (AY m))::Bd v))),(1,.v (.agg (Ay t))),(2,.lp 2 0),(3,.lp 3 0),(4,A1 0),(15,.lp 3 0),(16,A1 (AA t)),(17,.v (.bool (AA t==6))),(18,.v (.agg (.sl 4 (Da.cs (Av m)) :: .sl 3 (Cl.cs (BW m)) :: .sl 12 (In.cs (CJ m)) :: .sl 8 (Ms.cs (Ba m)) :: .sl 6 (Qu.cs (Dh m)) :: .sl 25 (Df.cs (AY m))::Bd v))),(5,.lp 5 0),(19,.lp 3 2),(20,vL 9 (Tp.cs (A8 t))),(21,A1 ((A8 t).length:Int)),(22,A1 0)] [(2,vL 4 (Da.cs (Av m))::vL 3 (Cl.cs (BW m))::vL 12 (In.cs (CJ m))::vL 8 (Ms.cs (Ba m))::vL 6 (Qu.cs (Dh m))::vL 25 (Df.cs (AY m))::CT v),(3,Bj t),(5,vL 4 (Da.cs (Av m))::vL 3 (Cl.cs (BW m))::vL 12 (In.cs (CJ m))::vL 8 (Ms.cs (Ba m))::vL 6 (Qu.cs (Dh m))::vL 25 (Df.cs (AY m))::CT v)] e) (@A6u (m) (v) (t) (tf) Bg Ac E3 Bq (v) (e) WE (by (apply gO0 <;> first | assumption | omega | decide)) Ii Ao) xr]) func35
theorem A8e(Ac:¬AA t=6)(Ae:¬Bp (GF v (bM 118) t) (Br t)=0):Pu 35 [.agg (IC m v),.agg (Ay t)] (rI (Bp (GF v (bM 118) t) (Br t))):=
 pm Ad [Aw Ac,cl (@pwT (m) (v) (bM 118) (t) hE oM),cl (@sb (GF v (bM 118) t) (Br t) (by (apply gE1 <;> first | assumption | omega | decide)) (by (apply fG <;> first | assumption | omega | decide))),Bv Ae] func35
theorem A8f(Ac:¬AA t=6)(Ae:Bp (GF v (bM 118) t) (Br t)=0)(Ao:((Ak t).length:Int)>0)(AK:¬((Ak t).length:Int)=((Dq (Au AB (Af t) (Av m))).length:Int)):Pu 35 [.agg (IC m v),.agg (Ay t)] (rI 13):=
 pm Ad [Aw Ac,cl (@pwT (m) (v) (bM 118) (t) hE oM),cl (@sb (GF v (bM 118) t) (Br t) (by (apply gE1 <;> first | assumption | omega | decide)) (by (apply fG <;> first | assumption | omega | decide))),Bi Ae,sl (Pr.A0 (Ak t)),C6 Ao,cl (@dTT (m) (Af t) Ct),sl (Pr.A0 (Ak t)),sl (Vr.A0 (Dq (Au AB (Af t) (Av m)))),Bv AK] func35
theorem A8g(Ac:¬AA t=6)(Ae:Bp (GF v (bM 118) t) (Br t)=0)(Ao:((Ak t).length:Int)>0)(AK:((Ak t).length:Int)=((Dq (Au AB (Af t) (Av m))).length:Int))(QL:Pr)(fH:Nat)(Fk:FD m v t (Ak t) 0=GM.e0 QL fH):Pu 35 [.agg (IC m v),.agg (Ay t)] (rI (Bp (Lr v (Vr.mk (bM 118) (Fe (List.getD (Dq (Au AB (Af t) (Av m))) fH default)))) QL)):=
 pu Ad (fun e=>[Aw Ac,cl (@pwT (m) (v) (bM 118) (t) hE oM),cl (@sb (GF v (bM 118) t) (Br t) (by (apply gE1 <;> first | assumption | omega | decide)) (by (apply fG <;> first | assumption | omega | decide))),Bi Ae,sl (Pr.A0 (Ak t)),C6 Ao,cl (@dTT (m) (Af t) Ct),sl (Pr.A0 (Ak t)),sl (Vr.A0 (Dq (Au AB (Af t) (Av m)))),Bi AK,sl (Pr.A0 (Ak t)),lp (S.mk [(0,.v (.agg (.sl 4 (Da.cs (Av m)) :: .sl 3 (Cl.cs (BW m)) :: .sl 12 (In.cs (CJ m)) :: .sl 8 (Ms.cs (Ba m)) :: .sl 6 (Qu.cs (Dh m)) :: .sl 25 (Df.cs (AY m))::Bd v))),(1,.v (.agg (Ay t))),(2,.lp 2 0),(3,.lp 3 0),(4,A1 0),(15,.lp 3 0),(16,A1 (AA t)),(17,.v (.bool (AA t==6))),(47,.v (.agg (.sl 4 (Da.cs (Av m)) :: .sl 3 (Cl.cs (BW m)) :: .sl 12 (In.cs (CJ m)) :: .sl 8 (Ms.cs (Ba m)) :: .sl 6 (Qu.cs (Dh m)) :: .sl 25 (Df.cs (AY m))::Bd v))),(48,.v (.agg (Ay t))),(49,.v (.agg (.sl 4 (Da.cs (Av m)) :: .sl 3 (Cl.cs (BW m)) :: .sl 12 (In.cs (CJ m)) :: .sl 8 (Ms.cs (Ba m)) :: .sl 6 (Qu.cs (Dh m)) :: .sl 25 (Df.cs (AY m))::Bd (GF v (bM 118) t)))),(50,.v (.agg (Bd (GF v (bM 118) t)))),(51,.lp 3 4),(52,.v (.agg (AO (Br t)))),(53,A1 (Bp (GF v (bM 118) t) (Br t))),(9,A1 (Bp (GF v (bM 118) t) (Br t))),(54,A1 (Bp (GF v (bM 118) t) (Br t))),(55,.v (.bool (Bp (GF v (bM 118) t) (Br t) != 0))),(57,.lp 3 8),(58,vL 4 (Pr.cs (Ak t))),(59,A1 ((Ak t).length:Int)),(60,.v (.bool (decide (((Ak t).length:Int)>0)))),(62,.lp 2 0),(63,.v (.agg (Ci m))),(64,.lp 3 1),(65,vS (Af t)),(66,.v (.AE [.agg (Gn (Au AB (Af t) (Av m))),.bool (Bl AB (Af t) (Av m))])),(61,.v (.AE [.agg (Gn (Au AB (Af t) (Av m))),.bool (Bl AB (Af t) (Av m))])),(67,.v (.agg (Gn (Au AB (Af t) (Av m))))),(68,.v (.bool (Bl AB (Af t) (Av m)))),(10,.lp 10 0),(11,.v (.bool (Bl AB (Af t) (Av m)))),(69,.lp 3 8),(70,vL 4 (Pr.cs (Ak t))),(71,A1 ((Ak t).length:Int)),(72,.lp 10 2),(73,vL 2 (Vr.cs (Dq (Au AB (Af t) (Av m))))),(74,A1 ((Dq (Au AB (Af t) (Av m))).length:Int)),(75,.v (.bool (((Ak t).length:Int) != ((Dq (Au AB (Af t) (Av m))).length:Int)))),(76,.lp 3 8),(77,vL 4 (Pr.cs (Ak t))),(78,A1 ((Ak t).length:Int)),(79,A1 0)] [(2,vL 4 (Da.cs (Av m))::vL 3 (Cl.cs (BW m))::vL 12 (In.cs (CJ m))::vL 8 (Ms.cs (Ba m))::vL 6 (Qu.cs (Dh m))::vL 25 (Df.cs (AY m))::CT v),(3,Bj t),(10,RP (Au AB (Af t) (Av m)))] e) (@A6v (m) (v) (t) Ac hE E3 Bq Ct Ae Ao AK (e) QB QL fH Fk) xr]) func35
theorem A8h(Ac:¬AA t=6)(Ae:Bp (GF v (bM 118) t) (Br t)=0)(Ao:((Ak t).length:Int)>0)(AK:((Ak t).length:Int)=((Dq (Au AB (Af t) (Av m))).length:Int))(B9:FD m v t (Ak t) 0=GM.e1):Pu 35 [.agg (IC m v),.agg (Ay t)] (rI k):=
 pu Ad (fun e=>[Aw Ac,cl (@pwT (m) (v) (bM 118) (t) hE oM),cl (@sb (GF v (bM 118) t) (Br t) (by (apply gE1 <;> first | assumption | omega | decide)) (by (apply fG <;> first | assumption | omega | decide))),Bi Ae,sl (Pr.A0 (Ak t)),C6 Ao,cl (@dTT (m) (Af t) Ct),sl (Pr.A0 (Ak t)),sl (Vr.A0 (Dq (Au AB (Af t) (Av m)))),Bi AK,sl (Pr.A0 (Ak t)),lp (S.mk [(0,.v (.agg (.sl 4 (Da.cs (Av m)) :: .sl 3 (Cl.cs (BW m)) :: .sl 12 (In.cs (CJ m)) :: .sl 8 (Ms.cs (Ba m)) :: .sl 6 (Qu.cs (Dh m)) :: .sl 25 (Df.cs (AY m))::Bd v))),(1,.v (.agg (Ay t))),(2,.lp 2 0),(3,.lp 3 0),(4,A1 0),(15,.lp 3 0),(16,A1 (AA t)),(17,.v (.bool (AA t==6))),(47,.v (.agg (.sl 4 (Da.cs (Av m)) :: .sl 3 (Cl.cs (BW m)) :: .sl 12 (In.cs (CJ m)) :: .sl 8 (Ms.cs (Ba m)) :: .sl 6 (Qu.cs (Dh m)) :: .sl 25 (Df.cs (AY m))::Bd v))),(48,.v (.agg (Ay t))),(49,.v (.agg (.sl 4 (Da.cs (Av m)) :: .sl 3 (Cl.cs (BW m)) :: .sl 12 (In.cs (CJ m)) :: .sl 8 (Ms.cs (Ba m)) :: .sl 6 (Qu.cs (Dh m)) :: .sl 25 (Df.cs (AY m))::Bd (GF v (bM 118) t)))),(50,.v (.agg (Bd (GF v (bM 118) t)))),(51,.lp 3 4),(52,.v (.agg (AO (Br t)))),(53,A1 (Bp (GF v (bM 118) t) (Br t))),(9,A1 (Bp (GF v (bM 118) t) (Br t))),(54,A1 (Bp (GF v (bM 118) t) (Br t))),(55,.v (.bool (Bp (GF v (bM 118) t) (Br t) != 0))),(57,.lp 3 8),(58,vL 4 (Pr.cs (Ak t))),(59,A1 ((Ak t).length:Int)),(60,.v (.bool (decide (((Ak t).length:Int)>0)))),(62,.lp 2 0),(63,.v (.agg (Ci m))),(64,.lp 3 1),(65,vS (Af t)),(66,.v (.AE [.agg (Gn (Au AB (Af t) (Av m))),.bool (Bl AB (Af t) (Av m))])),(61,.v (.AE [.agg (Gn (Au AB (Af t) (Av m))),.bool (Bl AB (Af t) (Av m))])),(67,.v (.agg (Gn (Au AB (Af t) (Av m))))),(68,.v (.bool (Bl AB (Af t) (Av m)))),(10,.lp 10 0),(11,.v (.bool (Bl AB (Af t) (Av m)))),(69,.lp 3 8),(70,vL 4 (Pr.cs (Ak t))),(71,A1 ((Ak t).length:Int)),(72,.lp 10 2),(73,vL 2 (Vr.cs (Dq (Au AB (Af t) (Av m))))),(74,A1 ((Dq (Au AB (Af t) (Av m))).length:Int)),(75,.v (.bool (((Ak t).length:Int) != ((Dq (Au AB (Af t) (Av m))).length:Int)))),(76,.lp 3 8),(77,vL 4 (Pr.cs (Ak t))),(78,A1 ((Ak t).length:Int)),(79,A1 0)] [(2,vL 4 (Da.cs (Av m))::vL 3 (Cl.cs (BW m))::vL 12 (In.cs (CJ m))::vL 8 (Ms.cs (Ba m))::vL 6 (Qu.cs (Dh m))::vL 25 (Df.cs (AY m))::CT v),(3,Bj t),(10,RP (Au AB (Af t) (Av m)))] e) (@A6w (m) (v) (t) Ac hE E3 Bq Ct Ae Ao AK (e) QB B9) xr,cl Vd]) func35
theorem A8i(Ac:¬AA t=6)(Ae:Bp (GF v (bM 118) t) (Br t)=0)(Ao:¬((Ak t).length:Int)>0):Pu 35 [.agg (IC m v),.agg (Ay t)] (rI k):=
 pm Ad [Aw Ac,cl (@pwT (m) (v) (bM 118) (t) hE oM),cl (@sb (GF v (bM 118) t) (Br t) (by (apply gE1 <;> first | assumption | omega | decide)) (by (apply fG <;> first | assumption | omega | decide))),Bi Ae,sl (Pr.A0 (Ak t)),Az Ao,cl Vd] func35
end
def FQ(v:Nv)(name:BA)(t:Tp):Nv:=if (!CP (L0 t)||ByteArray.toList name==ByteArray.toList Ah)=true then v else Lr v (.mk name (DU (L0 t)))
theorem WH(v:Nv)(name:BA)(t:Tp)(hE:BQ v)(hs:A6 (Ay t)<=1000000000):Pu 53 [.agg (Bd v),.str name,.agg (Ay t)] (.ret (.agg (Bd (FQ v name t)))):=by
 unfold FQ
 by_cases h:(!CP (L0 t)||ByteArray.toList name==ByteArray.toList Ah)=true
 ·rw [iP h]; exact A88 v name t hE hs h
 ·rw [iN h]; exact A89 v name t hE hs (DQ h)
def oH(t:Tp)(i:Nat):BA:=if (i:Int)<((Aj t).length:Int) then (Aj t).getD i Ah else Ah
theorem Abs(t:Tp)(i:Nat):Pu 54 [.agg (Ay t),.int .i64 (i:Int)] (.ret (.str (oH t i))):=by
 unfold oH
 by_cases h:(i:Int)<((Aj t).length:Int)
 ·rw [iP h]; exact A8a t i h
 ·rw [iN h]; exact A8b t i h
theorem BQ.rw'{v:Nv}{name:BA}{t:Tp}{n:Nat}(h:BQ v)(hn:(AS v).length<=n)(hs:n+1<=100000000):BQ (FQ v name t)/\(AS (FQ v name t)).length<=n+1:=by
 unfold FQ
 split
 ·exact ⟨h,by omega⟩
 ·exact h.wi hn hs
theorem Abt{t:Tp}{v u:Nv}{i:Nat}{name:BA}{w:Tp}(hv:JC v u i)(E3:(AS v).length<=50000000)(Bq:A6 (Ay t)<=10000000)(h:i<(A8 t).length):JC v (FQ u name w) (i+1):=hv.1.rw' (n:=(AS v).length+i) hv.2 (by have h1:=BM t; have:=Tp.BT (A8 t); omega)
theorem dG{v:Nv}{name:BA}{t:Tp}(hE:BQ v)(E3:(AS v).length<=50000000):BQ (FQ v name t):=(hE.rw' (n:=(AS v).length) (Nat.le_refl _) oM).1
abbrev Vq(m:Mo)(v:Nv)(t:Tp)(tf:Nv->Tp->Int)(j:Int)(u:Nv)(e:Ext):S:=S.mk [(3,.lp 3 0),(4,.lp 4 0),(5,.lp 5 0),(7,A1 j)] [(3,CT u),(4,El m),(5,Bj t)] e
inductive GS where
 | e0 (el:Tp) (u:Nv)
 | e1 (u:Nv)
def HS(t:Tp)(tf:Nv->Tp->Int):List Tp->Nat->(Nv)->GS
 | [],i,u=>(GS.e1 u)
 | el::r,i,u=>(if tf u el=0 then HS t tf r (i+1) (FQ u (oH t i) el) else (GS.e0 el u))
def O3(m:Mo)(v:Nv)(t:Tp)(tf:Nv->Tp->Int)(e:Ext):GS->A5 × S
 | .e0 el u=>(.ret,S.mk [(3,.lp 3 0),(4,.lp 4 0),(5,.lp 5 0),(6,A1 (tf u el))] [(3,CT u),(4,El m),(5,Bj t)] e)
 | .e1 u=>(.exit 0,S.mk [(3,.lp 3 0),(4,.lp 4 0),(5,.lp 5 0)] [(3,CT u),(4,El m),(5,Bj t)] e)
theorem dH(m:Mo)(v:Nv)(t:Tp)(tf:Nv->Tp->Int)(Bg:∀ (u:Nv) (i:Nat),i<(A8 t).length->JC v u i->Pu 37 [.agg (Bd u),.agg (Ci m),.agg (Ay ((A8 t).getD i default))] (.ret (.int .i64 (tf u ((A8 t).getD i default)))))(DV:AA t=6)(E3:(AS v).length<=50000000)(Bq:A6 (Ay t)<=10000000)(e:Ext)(hN:(A8 t).length<=1000000000)(u:Nv)(hv:(JC v u 0)):(Ob.loop 117 (Ai f37 0) (Vq m v t tf 0 u e) (O3 m v t tf e (HS t tf (List.drop 0 ((A8 t))) 0 u)).1 (O3 m v t tf e (HS t tf (List.drop 0 ((A8 t))) 0 u)).2).ok prog:=by
 refine Ds ((A8 t).length) (fun j u=>Vq m v t tf j u e) (fun i u=>HS t tf (List.drop i ((A8 t))) i u) (O3 m v t tf e) (fun i u=>(JC v u i)) kR ?_ u (by first | exact hv | omega)
 rintro i u hi hv
 try simp only at hv
 rcases Nat.lt_or_ge i ((A8 t).length) with Ag | CO
 ·have hd:=AH Ag
  by_cases h0:tf u (List.getD (A8 t) i default)=0
  ·exact lS Ad [sl (Tp.A0 (A8 t)),dt ((i:Int)<((A8 t).length:Int)),am ((0:Int)<=(i:Int)/\(i:Int)<((Tp.cs (A8 t)).length:Int)) (by (simp only [Tp.A0]; omega)),OA (A8 t) i Ag,cl (@Bg (u) (i) Ag hv),Bi h0,cl (@Abs (t) (i)),am ((0:Int)<=(i:Int)/\(i:Int)<((Tp.cs (A8 t)).length:Int)) (by (simp only [Tp.A0]; omega)),OA (A8 t) i Ag,cl (@WH (u) (oH t i) (List.getD (A8 t) i default) (by (apply gEn <;> first | assumption | omega | decide)) (by (apply gBk <;> first | assumption | omega | decide))),wr ((i:Int)+1)] [3,4,5,7,6] [3,4,5] Ag (FQ u (oH t i) (List.getD (A8 t) i default)) (S.mk [(3,.lp 3 0),(4,.lp 4 0),(5,.lp 5 0),(7,A1 ((i:Int)+1))] [(3,CT (FQ u (oH t i) (List.getD (A8 t) i default))),(4,El m),(5,Bj t)] e) ⟨⟨W,W,W,W,An⟩,⟨⟨Wq,Wq,Wq,An⟩,Ws,Ws,An⟩,rfl⟩ (by first | assumption | omega | (apply gEn <;> first | assumption | omega | decide) | (apply gBk <;> first | assumption | omega | decide) | (apply Abt <;> first | assumption | omega | decide) | (apply JC.s <;> first | assumption | omega | decide) | (simp only [List.length_append,List.length_cons,List.length_nil] at *; omega) | simp_all) (by rw [hd,HS,iP h0])
  ·exact lX Ad [sl (Tp.A0 (A8 t)),dt ((i:Int)<((A8 t).length:Int)),am ((0:Int)<=(i:Int)/\(i:Int)<((Tp.cs (A8 t)).length:Int)) (by (simp only [Tp.A0]; omega)),OA (A8 t) i Ag,cl (@Bg (u) (i) Ag hv),Bv h0] (GS.e0 (List.getD ((A8 t)) i default) u) (by rw [hd,HS,iN h0])
 ·have he:i=(A8 t).length:=by omega
  exact lX Ad [sl (Tp.A0 (A8 t)),df ((i:Int)<((A8 t).length:Int))] (GS.e1 u) (by rw [he,List.drop_length,HS])
theorem A8j(m:Mo)(v:Nv)(t:Tp)(tf:Nv->Tp->Int)(Bg:∀ (u:Nv) (i:Nat),i<(A8 t).length->JC v u i->Pu 37 [.agg (Bd u),.agg (Ci m),.agg (Ay ((A8 t).getD i default))] (.ret (.int .i64 (tf u ((A8 t).getD i default)))))(DV:AA t=6)(E3:(AS v).length<=50000000)(Bq:A6 (Ay t)<=10000000)(u:Nv)(e:Ext)(hN:(A8 t).length<=1000000000)(hv:JC v u 0)(p0:Tp)(p1:Nv)(At:(HS t tf ((A8 t)) 0 u)=(GS.e0 p0 p1)):(Ob.loop 117 (Ai f37 0) (Vq m v t tf 0 u e) (O3 m v t tf e (GS.e0 p0 p1)).1 (O3 m v t tf e (GS.e0 p0 p1)).2).ok prog:=
 rz (dH m v t tf Bg DV E3 Bq e hN u hv) At
theorem A8k(m:Mo)(v:Nv)(t:Tp)(tf:Nv->Tp->Int)(Bg:∀ (u:Nv) (i:Nat),i<(A8 t).length->JC v u i->Pu 37 [.agg (Bd u),.agg (Ci m),.agg (Ay ((A8 t).getD i default))] (.ret (.int .i64 (tf u ((A8 t).getD i default)))))(DV:AA t=6)(E3:(AS v).length<=50000000)(Bq:A6 (Ay t)<=10000000)(u:Nv)(e:Ext)(hN:(A8 t).length<=1000000000)(hv:JC v u 0)(p0:Nv)(At:(HS t tf ((A8 t)) 0 u)=(GS.e1 p0)):(Ob.loop 117 (Ai f37 0) (Vq m v t tf 0 u e) (O3 m v t tf e (GS.e1 p0)).1 (O3 m v t tf e (GS.e1 p0)).2).ok prog:=
 rz (dH m v t tf Bg DV E3 Bq e hN u hv) At
abbrev Vs(m:Mo)(v:Nv)(t:Tp)(j:Int)(e:Ext):S:=S.mk [(3,.lp 3 0),(4,.lp 4 0),(5,.lp 5 0),(10,.lp 10 0),(12,A1 j)] [(3,CT v),(4,El m),(5,Bj t),(10,RP (Au AB (Af t) (Av m)))] e
inductive G9 where
 | e0 (el:Pr) (i:Nat)
 | e1
def Ga(m:Mo)(v:Nv)(t:Tp):List Pr->Nat->G9
 | [],i=>(G9.e1)
 | el::r,i=>(if Bp (Lr v (Vr.mk (bM 118) (Fe (List.getD (Dq (Au AB (Af t) (Av m))) i default)))) el=0 then Ga m v t r (i+1)  else (G9.e0 el i))
def O4(m:Mo)(v:Nv)(t:Tp)(e:Ext):G9->A5 × S
 | .e0 el i=>(.ret,S.mk [(3,.lp 3 0),(4,.lp 4 0),(5,.lp 5 0),(10,.lp 10 0),(6,A1 (Bp (Lr v (Vr.mk (bM 118) (Fe (List.getD (Dq (Au AB (Af t) (Av m))) i default)))) el))] [(3,CT v),(4,El m),(5,Bj t),(10,RP (Au AB (Af t) (Av m)))] e)
 | .e1=>(.exit 2,S.mk [(3,.lp 3 0),(4,.lp 4 0),(5,.lp 5 0),(10,.lp 10 0)] [(3,CT v),(4,El m),(5,Bj t),(10,RP (Au AB (Af t) (Av m)))] e)
theorem dI(m:Mo)(v:Nv)(t:Tp)(hlen:(Ak t).length<=(Dq (Au AB (Af t) (Av m))).length)(DV:¬AA t=6)(hE:BQ v)(E3:(AS v).length<=50000000)(Bq:A6 (Ay t)<=10000000)(Ct:(Av m).length<=1048576)(Jh:Bp (FQ v (bM 118) t) (Br t)=0)(e:Ext)(hN:(Ak t).length<=1000000000):(Ob.loop 117 (Ai f37 1) (Vs m v t 0  e) (O4 m v t e (Ga m v t (List.drop 0 ((Ak t))) 0)).1 (O4 m v t e (Ga m v t (List.drop 0 ((Ak t))) 0)).2).ok prog:=by
 refine Ds ((Ak t).length) (fun j _=>Vs m v t j  e) (fun i _=>Ga m v t (List.drop i ((Ak t))) i) (O4 m v t e) (fun i _=>True) kR ?_ () trivial
 rintro i u hi -
 rcases Nat.lt_or_ge i ((Ak t).length) with Ag | CO
 ·have hd:=AH Ag
  by_cases h0:Bp (Lr v (Vr.mk (bM 118) (Fe (List.getD (Dq (Au AB (Af t) (Av m))) i default)))) (List.getD (Ak t) i default)=0
  ·exact lN Ad [sl (Pr.A0 (Ak t)),dt ((i:Int)<((Ak t).length:Int)),am ((0:Int)<=(i:Int)/\(i:Int)<((Vr.cs (Dq (Au AB (Af t) (Av m)))).length:Int)) (by (simp only [Vr.A0]; omega)),eY (Dq (Au AB (Af t) (Av m))) i,cl (@zE (v) (bM 118) (Fe (List.getD (Dq (Au AB (Af t) (Av m))) i default)) hE),am ((0:Int)<=(i:Int)/\(i:Int)<((Pr.cs (Ak t)).length:Int)) (by (simp only [Pr.A0]; omega)),Wu (Ak t) i Ag,cl (@TD (Lr v (Vr.mk (bM 118) (Fe (List.getD (Dq (Au AB (Af t) (Av m))) i default)))) (List.getD (Ak t) i default) (by (apply gE2 <;> first | assumption | omega | decide)) (by (apply gB2 <;> first | assumption | omega | decide))),Bi h0,wr ((i:Int)+1)] Ag () trivial (by rw [hd,Ga,iP h0])
  ·exact lX Ad [sl (Pr.A0 (Ak t)),dt ((i:Int)<((Ak t).length:Int)),am ((0:Int)<=(i:Int)/\(i:Int)<((Vr.cs (Dq (Au AB (Af t) (Av m)))).length:Int)) (by (simp only [Vr.A0]; omega)),eY (Dq (Au AB (Af t) (Av m))) i,cl (@zE (v) (bM 118) (Fe (List.getD (Dq (Au AB (Af t) (Av m))) i default)) hE),am ((0:Int)<=(i:Int)/\(i:Int)<((Pr.cs (Ak t)).length:Int)) (by (simp only [Pr.A0]; omega)),Wu (Ak t) i Ag,cl (@TD (Lr v (Vr.mk (bM 118) (Fe (List.getD (Dq (Au AB (Af t) (Av m))) i default)))) (List.getD (Ak t) i default) (by (apply gE2 <;> first | assumption | omega | decide)) (by (apply gB2 <;> first | assumption | omega | decide))),Bv h0] (G9.e0 (List.getD ((Ak t)) i default) i) (by rw [hd,Ga,iN h0])
 ·have he:i=(Ak t).length:=by omega
  exact lX Ad [sl (Pr.A0 (Ak t)),df ((i:Int)<((Ak t).length:Int))] (G9.e1) (by rw [he,List.drop_length,Ga])
theorem A8l(m:Mo)(v:Nv)(t:Tp)(hlen:(Ak t).length<=(Dq (Au AB (Af t) (Av m))).length)(DV:¬AA t=6)(hE:BQ v)(E3:(AS v).length<=50000000)(Bq:A6 (Ay t)<=10000000)(Ct:(Av m).length<=1048576)(Jh:Bp (FQ v (bM 118) t) (Br t)=0)(e:Ext)(hN:(Ak t).length<=1000000000)(p0:Pr)(p1:Nat)(At:(Ga m v t ((Ak t)) 0)=(G9.e0 p0 p1)):(Ob.loop 117 (Ai f37 1) (Vs m v t 0  e) (O4 m v t e (G9.e0 p0 p1)).1 (O4 m v t e (G9.e0 p0 p1)).2).ok prog:=
 rz (dI m v t hlen DV hE E3 Bq Ct Jh e hN) At
theorem oI(m:Mo)(v:Nv)(t:Tp)(hlen:(Ak t).length<=(Dq (Au AB (Af t) (Av m))).length)(DV:¬AA t=6)(hE:BQ v)(E3:(AS v).length<=50000000)(Bq:A6 (Ay t)<=10000000)(Ct:(Av m).length<=1048576)(Jh:Bp (FQ v (bM 118) t) (Br t)=0)(e:Ext)(hN:(Ak t).length<=1000000000)(At:(Ga m v t ((Ak t)) 0)=(G9.e1)):(Ob.loop 117 (Ai f37 1) (Vs m v t 0  e) (O4 m v t e (G9.e1)).1 (O4 m v t e (G9.e1)).2).ok prog:=
 rz (dI m v t hlen DV hE E3 Bq Ct Jh e hN) At
abbrev Vt(m:Mo)(v:Nv)(t:Tp)(tf:Nv->Tp->Int)(j:Int)(e:Ext):S:=S.mk [(3,.lp 3 0),(4,.lp 4 0),(5,.lp 5 0),(13,A1 j)] [(3,CT v),(4,El m),(5,Bj t)] e
inductive GU where
 | e0 (el:Tp)
 | e1
def Gb(v:Nv)(tf:Nv->Tp->Int):List Tp->GU
 | []=>(GU.e1)
 | el::r=>(if tf v el=0 then Gb v tf r  else (GU.e0 el))
def O5(m:Mo)(v:Nv)(t:Tp)(tf:Nv->Tp->Int)(e:Ext):GU->A5 × S
 | .e0 el=>(.ret,S.mk [(3,.lp 3 0),(4,.lp 4 0),(5,.lp 5 0),(6,A1 (tf v el))] [(3,CT v),(4,El m),(5,Bj t)] e)
 | .e1=>(.exit 4,S.mk [(3,.lp 3 0),(4,.lp 4 0),(5,.lp 5 0)] [(3,CT v),(4,El m),(5,Bj t)] e)
theorem dJ(m:Mo)(v:Nv)(t:Tp)(hlen:(Ak t).length<=(Dq (Au AB (Af t) (Av m))).length)(tf:Nv->Tp->Int)(Bg:∀w:Tp,w∈A8 t->Pu 37 [.agg (Bd v),.agg (Ci m),.agg (Ay w)] (.ret (.int .i64 (tf v w))))(DV:¬AA t=6)(hE:BQ v)(E3:(AS v).length<=50000000)(Bq:A6 (Ay t)<=10000000)(Ct:(Av m).length<=1048576)(Jh:Bp (FQ v (bM 118) t) (Br t)=0)(e:Ext)(hN:(A8 t).length<=1000000000):(Ob.loop 117 (Ai f37 2) (Vt m v t tf 0  e) (O5 m v t tf e (Gb v tf (List.drop 0 ((A8 t))))).1 (O5 m v t tf e (Gb v tf (List.drop 0 ((A8 t))))).2).ok prog:=by
 refine Ds ((A8 t).length) (fun j _=>Vt m v t tf j  e) (fun i _=>Gb v tf (List.drop i ((A8 t)))) (O5 m v t tf e) (fun i _=>True) kR ?_ () trivial
 rintro i u hi -
 rcases Nat.lt_or_ge i ((A8 t).length) with Ag | CO
 ·have hd:=AH Ag
  by_cases h0:tf v (List.getD (A8 t) i default)=0
  ·exact lN Ad [sl (Tp.A0 (A8 t)),dt ((i:Int)<((A8 t).length:Int)),am ((0:Int)<=(i:Int)/\(i:Int)<((Tp.cs (A8 t)).length:Int)) (by (simp only [Tp.A0]; omega)),OA (A8 t) i Ag,cl (@Bg (List.getD (A8 t) i default) (by simp_all)),Bi h0,wr ((i:Int)+1)] Ag () trivial (by rw [hd,Gb,iP h0])
  ·exact lX Ad [sl (Tp.A0 (A8 t)),dt ((i:Int)<((A8 t).length:Int)),am ((0:Int)<=(i:Int)/\(i:Int)<((Tp.cs (A8 t)).length:Int)) (by (simp only [Tp.A0]; omega)),OA (A8 t) i Ag,cl (@Bg (List.getD (A8 t) i default) (by simp_all)),Bv h0] (GU.e0 (List.getD ((A8 t)) i default)) (by rw [hd,Gb,iN h0])
 ·have he:i=(A8 t).length:=by omega
  exact lX Ad [sl (Tp.A0 (A8 t)),df ((i:Int)<((A8 t).length:Int))] (GU.e1) (by rw [he,List.drop_length,Gb])
theorem A8m(m:Mo)(v:Nv)(t:Tp)(hlen:(Ak t).length<=(Dq (Au AB (Af t) (Av m))).length)(tf:Nv->Tp->Int)(Bg:∀w:Tp,w∈A8 t->Pu 37 [.agg (Bd v),.agg (Ci m),.agg (Ay w)] (.ret (.int .i64 (tf v w))))(DV:¬AA t=6)(hE:BQ v)(E3:(AS v).length<=50000000)(Bq:A6 (Ay t)<=10000000)(Ct:(Av m).length<=1048576)(Jh:Bp (FQ v (bM 118) t) (Br t)=0)(e:Ext)(hN:(A8 t).length<=1000000000)(p0:Tp)(At:(Gb v tf ((A8 t)))=(GU.e0 p0)):(Ob.loop 117 (Ai f37 2) (Vt m v t tf 0  e) (O5 m v t tf e (GU.e0 p0)).1 (O5 m v t tf e (GU.e0 p0)).2).ok prog:=
 rz (dJ m v t hlen tf Bg DV hE E3 Bq Ct Jh e hN) At
theorem A8n(m:Mo)(v:Nv)(t:Tp)(hlen:(Ak t).length<=(Dq (Au AB (Af t) (Av m))).length)(tf:Nv->Tp->Int)(Bg:∀w:Tp,w∈A8 t->Pu 37 [.agg (Bd v),.agg (Ci m),.agg (Ay w)] (.ret (.int .i64 (tf v w))))(DV:¬AA t=6)(hE:BQ v)(E3:(AS v).length<=50000000)(Bq:A6 (Ay t)<=10000000)(Ct:(Av m).length<=1048576)(Jh:Bp (FQ v (bM 118) t) (Br t)=0)(e:Ext)(hN:(A8 t).length<=1000000000)(At:(Gb v tf ((A8 t)))=(GU.e1)):(Ob.loop 117 (Ai f37 2) (Vt m v t tf 0  e) (O5 m v t tf e (GU.e1)).1 (O5 m v t tf e (GU.e1)).2).ok prog:=
 rz (dJ m v t hlen tf Bg DV hE E3 Bq Ct Jh e hN) At
end Go.Proofs.YthchpmnkecoafaaGreatDoor
