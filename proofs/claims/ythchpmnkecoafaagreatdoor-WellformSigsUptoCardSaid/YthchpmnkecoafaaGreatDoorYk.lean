/- Values of Go as plain data, an evaluator over them, and what the functions of the program return; part Yk. -/
import Derived.Test.YthchpmnkecoafaaGreatDoorYj
import Derived.Test.YthchpmnkecoafaaGreatDoorYa
set_option linter.unusedSectionVars false
set_option linter.unusedSimpArgs false
set_option linter.unusedVariables false
namespace Go.Proofs.YthchpmnkecoafaaGreatDoor
open Go.Proofs.Tryz
open Go.Pv Go.Proofs.Tryz
set_option maxRecDepth 100000
abbrev c0(s:BA):Int:=(↑(UInt8.toNat (List.getD (Array.toList (ByteArray.data s)) (Int.toNat 0) default)):Int)
def H8(s:BA):Int:=if s=Gg then 0 else if s=DP then 0 else if s=OK then 0 else if CJ (BE s)=0 then (if c0 s<65 then 11 else if c0 s>90 then 11 else 0) else 11
theorem A4u(s:BA):Pu 41 [.str s] (.ret (.int .i64 (H8 s))):=by
 unfold H8
 by_cases h1:s=Gg
 ·rw [iP h1]; exact Adh s h1
 by_cases h2:s=DP
 ·rw [iN h1,iP h2]; exact Adi s h1 h2
 by_cases h3:s=OK
 ·rw [iN h1,iN h2,iP h3]; exact Adj s h1 h2 h3
 rw [iN h1,iN h2,iN h3]
 by_cases h4:CJ (BE s)=0
 ·rw [iP h4]
  by_cases h5:c0 s<65
  ·rw [iP h5]; exact Adl s h1 h2 h3 h4 h5
  by_cases h6:c0 s>90
  ·rw [iN h5,iP h6]; exact Adm s h1 h2 h3 h4 h5 h6
  ·rw [iN h5,iN h6]; exact Adn s h1 h2 h3 h4 h5 h6
 ·rw [iN h4]; exact Adk s h1 h2 h3 h4
theorem nO(s:BA):Pu 50 [.str s] (.ret (.int .i64 (H8 s))):=by
 unfold H8
 by_cases h1:s=Gg
 ·rw [iP h1]; exact Ado s h1
 by_cases h2:s=DP
 ·rw [iN h1,iP h2]; exact Adp s h1 h2
 by_cases h3:s=OK
 ·rw [iN h1,iN h2,iP h3]; exact Adq s h1 h2 h3
 rw [iN h1,iN h2,iN h3]
 by_cases hz:(s.size:Int)>0
 ·by_cases h5:c0 s>=65
  ·by_cases h6:c0 s<=90
   ·by_cases h4:CJ (BE s)=0
    ·rw [iP h4,iN oM,iN oM]; exact Adr s h1 h2 h3 hz h5 h6 h4
    ·rw [iN h4]; exact Ads s h1 h2 h3 hz h5 h6 h4
   ·have e:(if CJ (BE s)=0 then (if c0 s<65 then (11:Int) else if c0 s>90 then 11 else 0) else 11)=11:=by
     split
     ·rw [iN oM,iP oM]
     ·rfl
    rw [e]; exact Adt s h1 h2 h3 hz h5 h6
  ·have e:(if CJ (BE s)=0 then (if c0 s<65 then (11:Int) else if c0 s>90 then 11 else 0) else 11)=11:=by
    split
    ·rw [iP oM]
    ·rfl
   rw [e]; exact Adu s h1 h2 h3 hz h5
 ·rw [iN (fun h=>hz (by have:=(FH h).2; omega))]; exact Adv s h1 h2 h3 hz
def C1{α:Type}(f:α->BA)(name:BA)(l:List α):Bool:=l.any fun x=>decide (f x=name)
theorem v5(name:BA):∀ (l:List Ms) (i:Nat),(C1 El name l=true->∃k,IE name l i = .e0 k)/\(C1 El name l=false->IE name l i = .e1)
 | [],i=>⟨fun h=>(by cases h),fun _=>rfl⟩
 | c::r,i=>by
  have ih:=v5 name r (i+1)
  unfold IE
  by_cases hc:El c=name
  ·rw [iP hc]; exact ⟨fun _=>⟨_,rfl⟩,fun h=>by simp [C1,hc] at h⟩
  ·rw [iN hc]; simpa [C1,hc] using ih
theorem v7(name:BA):∀ (l:List Df) (i:Nat),(C1 D4 name l=true->∃k,IF name l i = .e0 k)/\(C1 D4 name l=false->IF name l i = .e1)
 | [],i=>⟨fun h=>(by cases h),fun _=>rfl⟩
 | c::r,i=>by
  have ih:=v7 name r (i+1)
  unfold IF
  by_cases hc:D4 c=name
  ·rw [iP hc]; exact ⟨fun _=>⟨_,rfl⟩,fun h=>by simp [C1,hc] at h⟩
  ·rw [iN hc]; simpa [C1,hc] using ih
theorem v8(b:Vr):∀ (l:List Vr) (i:Nat),(C1 AE (AE b) l=true->∃k,IG b l i = .e0 k)/\(C1 AE (AE b) l=false->IG b l i = .e1)
 | [],i=>⟨fun h=>(by cases h),fun _=>rfl⟩
 | c::r,i=>by
  have ih:=v8 b r (i+1)
  unfold IG
  by_cases hc:AE c=(AE b)
  ·rw [iP hc]; exact ⟨fun _=>⟨_,rfl⟩,fun h=>by simp [C1,hc] at h⟩
  ·rw [iN hc]; simpa [C1,hc] using ih
theorem v9(b:Bo):∀ (l:List Bo) (i:Nat),(C1 Cd (Cd b) l=true->∃k,II b l i = .e0 k)/\(C1 Cd (Cd b) l=false->II b l i = .e1)
 | [],i=>⟨fun h=>(by cases h),fun _=>rfl⟩
 | c::r,i=>by
  have ih:=v9 b r (i+1)
  unfold II
  by_cases hc:Cd c=(Cd b)
  ·rw [iP hc]; exact ⟨fun _=>⟨_,rfl⟩,fun h=>by simp [C1,hc] at h⟩
  ·rw [iN hc]; simpa [C1,hc] using ih
theorem imT(l:List Ms)(name:BA)(Br:l.length<=1000000000):Pu 80 [.sl 8 (Ms.cs l),.fn (.func 81) [] [.ro [.str name] 0]] (.ret (.bool (C1 El name l))):=by
 have he:=v5 name l 0
 cases h:C1 El name l with
 | true=>obtain ⟨k,hk⟩:=he.1 h; exact pm A9 [cl (@Adw (l) (name) Br k hk)] func80
 | false=>exact pm A9 [cl (@Adx (l) (name) Br (he.2 h))] func80
theorem idT(l:List Df)(name:BA)(Br:l.length<=1000000000):Pu 82 [.sl 25 (Df.cs l),.fn (.func 83) [] [.ro [.str name] 0]] (.ret (.bool (C1 D4 name l))):=by
 have he:=v7 name l 0
 cases h:C1 D4 name l with
 | true=>obtain ⟨k,hk⟩:=he.1 h; exact pm A9 [cl (@Ady (l) (name) Br k hk)] func82
 | false=>exact pm A9 [cl (@Adz (l) (name) Br (he.2 h))] func82
theorem iaT(l:List Vr)(b:Vr)(Br:l.length<=1000000000):Pu 39 [.sl 2 (Vr.cs l),.fn (.func 40) [] [.ro (FU b) 0]] (.ret (.bool (C1 AE (AE b) l))):=by
 have he:=v8 b l 0
 cases h:C1 AE (AE b) l with
 | true=>obtain ⟨k,hk⟩:=he.1 h; exact pm A9 [cl (@Ae0 (l) (b) Br k hk)] func39
 | false=>exact pm A9 [cl (@Ae1 (l) (b) Br (he.2 h))] func39
theorem ibT(l:List Bo)(b:Bo)(Br:l.length<=1000000000):Pu 43 [.sl 10 (Bo.cs l),.fn (.func 44) [] [.ro (KH b) 0]] (.ret (.bool (C1 Cd (Cd b) l))):=by
 have he:=v9 b l 0
 cases h:C1 Cd (Cd b) l with
 | true=>obtain ⟨k,hk⟩:=he.1 h; exact pm A9 [cl (@Ae2 (l) (b) Br k hk)] func43
 | false=>exact pm A9 [cl (@Ae3 (l) (b) Br (he.2 h))] func43
def vE(x:Vr):Sy := .mk (AE x) [CD x] DP
theorem gMs{m:Mo}(hs:A3 (BD m)<=10000000):(B3 m).length<=1000000000:=by have:=Gi m; have:=Ms.BS (B3 m); omega
theorem gFs{m:Mo}(hs:A3 (BD m)<=10000000):(AW m).length<=1000000000:=by have:=Gi m; have:=Df.BS (AW m); omega
section
variable (m:Mo) (name:BA) (hs:A3 (BD m)<=10000000)
include m name hs
theorem Ae4(A7:C1 El name (B3 m)=true):Pu 38 [.agg (BD m),.str name] (rB true):=
 pm A9 [cl (@imT (B3 m) (name) (by (apply gMs <;> first | assumption | omega | decide))),rp 5 (AV A7)] func38
theorem Ae5(A7:C1 El name (B3 m)=false):Pu 38 [.agg (BD m),.str name] (rB (C1 D4 name (AW m))):=
 pm A9 [cl (@imT (B3 m) (name) (by (apply gMs <;> first | assumption | omega | decide))),rp 4 (AM A7),cl (@idT (AW m) (name) (by (apply gFs <;> first | assumption | omega | decide))),AM A7] func38
end
def EJ(m:Mo)(name:BA):Bool:=(if C1 El name (B3 m)=true then true else (C1 D4 name (AW m)))
theorem dcl(m:Mo)(name:BA)(hs:A3 (BD m)<=10000000):Pu 38 [.agg (BD m),.str name] (rB (EJ m name)):=by
 by_cases h0:C1 El name (B3 m)=true
 ·simp only [EJ,iP h0]; exact Ae4 m name hs h0
 ·simp only [EJ,iN h0]; exact Ae5 m name hs (Db h0)
abbrev vJ(l:List Vr)(j:Int)(out:List Sy)(e:Ext):S:=S.mk [(2,.v .A2),(3,.uniq 77 3 (Sy.cs out)),(6,vL 2 (Vr.cs l)),(7,A6 (l.length:Int)),(8,A6 j)] [] e
def K6  : List Vr->(List Sy)->(List Sy)
 | [],out=>(out)
 | el::r,out=>K6  r (out++[Sy.mk (AE el) [CD el] (ByteArray.mk #[66,111,111,108])])
def iE(l:List Vr)(e:Ext)(p:(List Sy)):A4 × S:=(.exit 0,S.mk [(2,.v .A2),(3,.uniq 77 3 (Sy.cs p)),(6,vL 2 (Vr.cs l)),(7,A6 (l.length:Int))] [] e)
theorem apx(l:List Vr)(out:List Sy)(e:Ext)(hN:l.length<=1000000000)(hv:List.length out<=0):(Ob.loop 23 (Au f86 0) (vJ l 0 out e) (iE l e (K6  (l)  out)).1 (iE l e (K6  (l)  out)).2).ok prog:=by
 refine CL l.length (fun j out=>vJ l j out e) (fun i out=>K6  (List.drop i (l))  out) (iE l e) (fun i out=>(out.length<=i)) kR ?_ out (by first | exact hv | omega)
 rintro i out hi hv
 try simp only at hv
 rcases Nat.lt_or_ge i (l.length) with Ac | Cm
 ·have hd:=At Ac
  exact lS A9 [dt ((i:Int)<(l.length:Int)),D2 l (i:Int),Gn l i Ac,am (List.length (Sy.cs out++(fun x=>Prod.snd x) (2+1,[AA (AA (AA [.str Ai,.A2,.str Ai] (Field.offset (Field.mk "Name" 9 0 false "" "" 0)) [.str (AE (List.getD l i default))]) (Field.offset (Field.mk "Args" 75 1 false "" "" 16)) [.sl (0+1) [[.str (CD (List.getD l i default))]]]) (Field.offset (Field.mk "Result" 74 2 false "" "" 40)) [.str (ByteArray.mk #[66,111,111,108])]])) * (55+1)<=140737488355328) (by (simp only [List.length_append,List.length_cons,List.length_nil,Sy.A0]; omega)),wr ((i:Int)+1)] [2,3,6,7,8] [] Ac (out++[Sy.mk (AE (List.getD l i default)) [CD (List.getD l i default)] (ByteArray.mk #[66,111,111,108])]) (S.mk [(2,.v .A2),(3,.uniq 77 3 (Sy.cs out++[AA (AA (AA [.str Ai,.A2,.str Ai] (Field.offset (Field.mk "Name" 9 0 false "" "" 0)) [.str (AE (List.getD l i default))]) (Field.offset (Field.mk "Args" 75 1 false "" "" 16)) [.sl (0+1) [[.str (CD (List.getD l i default))]]]) (Field.offset (Field.mk "Result" 74 2 false "" "" 40)) [.str (ByteArray.mk #[66,111,111,108])]])),(6,vL 2 (Vr.cs l)),(7,A6 (l.length:Int)),(8,A6 ((i:Int)+1))] [] e) ⟨⟨W,(.inl (by first | (simp only [List.nil_append,AK,AF,Pr.A1,Tp.A1,Ex.A1,Vr.A1,Df.A1,Sy.A1,Ho.A1,CN,DX]; done) | (simp only [List.nil_append,AK,AF,Pr.A1,Tp.A1,Ex.A1,Vr.A1,Df.A1,Sy.A1,Ho.A1,CN,DX]; rfl))),W,W,W,B7⟩,trivial,rfl⟩ (by first | assumption | omega | (simp only [List.length_append,List.length_cons,List.length_nil] at *; omega) | simp_all) (by rw [hd,K6])
 ·have he:i=l.length:=by omega
  exact lX A9 [df ((i:Int)<(l.length:Int))] (out) (by rw [he,List.drop_length,K6])
abbrev vU(m:Mo)(name:BA)(j:Int)(e:Ext):S:=S.mk [(1,vS name),(2,.lp 2 0),(5,A6 j)] [(2,Er m)] e
inductive Qv where
 | e0
 | e1
def HZ(name:BA):List Ms->Qv
 | []=>(Qv.e1)
 | el::r=>(if El el=name then (Qv.e0) else HZ name r)
def iF(m:Mo)(name:BA)(e:Ext):Qv->A4 × S
 | .e0=>(.ret,S.mk [(1,vS name),(2,.lp 2 0),(4,.v (.bool true))] [(2,Er m)] e)
 | .e1=>(.exit 0,S.mk [(1,vS name),(2,.lp 2 0)] [(2,Er m)] e)
theorem UE(m:Mo)(name:BA)(e:Ext)(hN:(B3 m).length<=1000000000):(Ob.loop 30 (Au f49 0) (vU m name 0  e) (iF m name e (HZ name ((B3 m)))).1 (iF m name e (HZ name ((B3 m)))).2).ok prog:=by
 refine CL ((B3 m).length) (fun j _=>vU m name j  e) (fun i _=>HZ name (List.drop i ((B3 m)))) (iF m name e) (fun i _=>True) kR ?_ () trivial
 rintro i u hi -
 rcases Nat.lt_or_ge i ((B3 m).length) with Ac | Cm
 ·have hd:=At Ac
  by_cases h0:El (List.getD (B3 m) i default)=name
  ·exact lX A9 [sl (Ms.A0 (B3 m)),dt ((i:Int)<((B3 m).length:Int)),Ng (B3 m) (i:Int),XD (B3 m) i Ac,bt (ByteArray.toList (El (List.getD (B3 m) i default))==ByteArray.toList name) (BI h0)] (Qv.e0) (by rw [hd,HZ,iP h0])
  ·exact lN A9 [sl (Ms.A0 (B3 m)),dt ((i:Int)<((B3 m).length:Int)),Ng (B3 m) (i:Int),XD (B3 m) i Ac,bf (ByteArray.toList (El (List.getD (B3 m) i default))==ByteArray.toList name) (Bp h0),wr ((i:Int)+1)] Ac () trivial (by rw [hd,HZ,iN h0])
 ·have he:i=(B3 m).length:=by omega
  exact lX A9 [sl (Ms.A0 (B3 m)),df ((i:Int)<((B3 m).length:Int))] (Qv.e1) (by rw [he,List.drop_length,HZ])
abbrev vV(m:Mo)(name:BA)(j:Int)(e:Ext):S:=S.mk [(1,vS name),(2,.lp 2 0),(4,.lp 4 0),(6,A6 j)] [(2,Er m),(4,[vS Ai,.v .A2,A6 0,vS Ai,A6 0,.v .A2,.v .A2,.v .A2,.v .A2,A6 0,.v (.bool false),.v .A2,.v .A2,.v .A2,.v .A2,A6 0,vS Ai,.v .A2,.v .A2,A6 0,vS Ai,A6 0,.v .A2,.v .A2,.v .A2])] e
inductive K7 where
 | e0 (el:Df)
 | e1
def GV(name:BA):List Df->K7
 | []=>(K7.e1)
 | el::r=>(if D4 el=name then (K7.e0 el) else GV name r)
def iG(m:Mo)(name:BA)(e:Ext):K7->A4 × S
 | .e0 el=>(.ret,S.mk [(1,vS name),(2,.lp 2 0),(4,.lp 4 0),(5,.v (.bool true))] [(2,Er m),(4,dfV el)] e)
 | .e1=>(.exit 0,S.mk [(1,vS name),(2,.lp 2 0),(4,.lp 4 0)] [(2,Er m),(4,[vS Ai,.v .A2,A6 0,vS Ai,A6 0,.v .A2,.v .A2,.v .A2,.v .A2,A6 0,.v (.bool false),.v .A2,.v .A2,.v .A2,.v .A2,A6 0,vS Ai,.v .A2,.v .A2,A6 0,vS Ai,A6 0,.v .A2,.v .A2,.v .A2])] e)
theorem iH(m:Mo)(name:BA)(e:Ext)(hN:(AW m).length<=1000000000):(Ob.loop 28 (Au f93 0) (vV m name 0  e) (iG m name e (GV name ((AW m)))).1 (iG m name e (GV name ((AW m)))).2).ok prog:=by
 refine CL ((AW m).length) (fun j _=>vV m name j  e) (fun i _=>GV name (List.drop i ((AW m)))) (iG m name e) (fun i _=>True) kR ?_ () trivial
 rintro i u hi -
 rcases Nat.lt_or_ge i ((AW m).length) with Ac | Cm
 ·have hd:=At Ac
  by_cases h0:D4 (List.getD (AW m) i default)=name
  ·exact lX A9 [sl (Df.A0 (AW m)),dt ((i:Int)<((AW m).length:Int)),J7 (AW m) (i:Int),SN (AW m) i Ac,bt (ByteArray.toList (D4 (List.getD (AW m) i default))==ByteArray.toList name) (BI h0),J7 (AW m) (i:Int),SN (AW m) i Ac] (K7.e0 (List.getD ((AW m)) i default)) (by rw [hd,GV,iP h0])
  ·exact lN A9 [sl (Df.A0 (AW m)),dt ((i:Int)<((AW m).length:Int)),J7 (AW m) (i:Int),SN (AW m) i Ac,bf (ByteArray.toList (D4 (List.getD (AW m) i default))==ByteArray.toList name) (Bp h0),wr ((i:Int)+1)] Ac () trivial (by rw [hd,GV,iN h0])
 ·have he:i=(AW m).length:=by omega
  exact lX A9 [sl (Df.A0 (AW m)),df ((i:Int)<((AW m).length:Int))] (K7.e1) (by rw [he,List.drop_length,GV])
theorem apL(l:List Vr)(Br:l.length<=1000000000):Pu 86 [.sl 2 (Vr.cs l)] (.own 77 3 (Sy.cs (K6 l []))):=
 pu A9 (fun e=>[sl (Vr.A0 l),lp (S.mk [(2,.v .A2),(3,.v .A2),(6,vL 2 (Vr.cs l)),(7,A6 (l.length:Int)),(8,A6 0)] [] e) (@apx (l) ([]) (e) Br (by (simp only [List.length_nil]; omega))) ⟨⟨W,Wq,W,W,W,B7⟩,trivial,rfl⟩]) func86
theorem A4v(m:Mo)(name:BA)(Ti:(AW m).length<=1000000000)(CX:Df)(Aa:GV name (AW m)=K7.e0 CX):Pu 93 [.agg (BD m),.str name] (.ret (.Bf [.agg (Ou CX),.bool true])):=
 pu A9 (fun e=>[lq (rz (iH (m) (name) (e) Ti) Aa)]) func93
theorem A4w(m:Mo)(name:BA)(Ti:(AW m).length<=1000000000)(A7:GV name (AW m)=K7.e1):Pu 93 [.agg (BD m),.str name] (.ret (.Bf [.agg [.str Ai,.sl 1 [],pI 0,.str Ai,pI 0,.sl 7 [],.sl 10 [],.sl 9 [],.sl 9 [],pI 0,.bool false,.sl 1 [],.sl 2 [],.sl 2 [],.sl 10 [],pI 0,.str Ai,.sl 9 [],.sl 1 [],pI 0,.str Ai,pI 0,.sl 4 [],.sl 4 [],.sl 4 []],.bool false])):=
 Ob.Ej (Wk.t (Co.c (Wk.a (kr (kn 1 (kr (kr (kr (kn 7 (kn 10 (kn 9 (kn 9 (kr (kr (kn 1 (kn 2 (kn 2 (kn 10 (kr (kr (kn 9 (kn 1 (kr (kr (kr (kn 4 (kn 4 (kn 4 (Co.r _))))))))))))))))))))))))))) (Co.r _))) (pu A9 (fun e=>[lq (rz (iH (m) (name) (e) Ti) A7)]) func93)
theorem vX:∀ (l:List Vr) (out:List Sy),K6 l out=out++l.map vE
 | [],out=>by simp [K6]
 | x::r,out=>by rw [K6,vX r,List.map_cons,List.append_assoc]; rfl
theorem Ahp(l:List Vr)(Br:l.length<=1000000000):Pu 86 [.sl 2 (Vr.cs l)] (.own 77 3 (Sy.cs (l.map vE))):=by
 have:=apL l Br
 rw [vX,List.nil_append] at this
 exact this
theorem vY(name:BA):∀l:List Ms,(C1 El name l=true->HZ name l = .e0)/\(C1 El name l=false->HZ name l = .e1)
 | []=>⟨fun h=>(by cases h),fun _=>rfl⟩
 | c::r=>by
  have ih:=vY name r
  unfold HZ
  by_cases hc:El c=name
  ·rw [iP hc]; exact ⟨fun _=>rfl,fun h=>by simp [C1,hc] at h⟩
  ·rw [iN hc]; simpa [C1,hc] using ih
theorem vZ(name:BA):∀l:List Df,(C1 D4 name l=true->∃d,GV name l = .e0 d)/\(C1 D4 name l=false->GV name l = .e1)
 | []=>⟨fun h=>(by cases h),fun _=>rfl⟩
 | c::r=>by
  have ih:=vZ name r
  unfold GV
  by_cases hc:D4 c=name
  ·rw [iP hc]; exact ⟨fun _=>⟨_,rfl⟩,fun h=>by simp [C1,hc] at h⟩
  ·rw [iN hc]; simpa [C1,hc] using ih
section
variable (m:Mo) (name:BA) (XL:(B3 m).length<=1000000000) (Ti:(AW m).length<=1000000000)
include m name XL Ti
theorem Ahq(Gp:HZ name (B3 m) = .e0):Pu 49 [.agg (BD m),.str name] (rB true):=
 pu A9 (fun e=>[lq (rz (UE (m) (name) (e) XL) Gp)]) func49
theorem A4x(Gp:HZ name (B3 m) = .e1)(CX:Df)(Aa:GV name (AW m)=K7.e0 CX):Pu 49 [.agg (BD m),.str name] (rB true):=
 pu A9 (fun e=>[lq (rz (UE (m) (name) (e) XL) Gp),cl (@A4v (m) (name) Ti CX Aa)]) func49
theorem A4y(Gp:HZ name (B3 m) = .e1)(A7:GV name (AW m)=K7.e1):Pu 49 [.agg (BD m),.str name] (rB false):=
 pu A9 (fun e=>[lq (rz (UE (m) (name) (e) XL) Gp),cl (@A4w (m) (name) Ti A7)]) func49
end
theorem apC(a b:List Sy):Sy.cs (a++b)=Sy.cs a++Sy.cs b:=by simp [Sy.AD]
def BQ(m:Mo)(l:List Vr):List Sy:=PZ m++l.map vE
theorem Ahr(m:Mo)(s:Df)(hs:A3 (BD m)<=1048576)(Br:(A8 s).length<=1000000000)(A7:List.length (Sy.cs (PZ m)++(fun x=>Prod.snd x) (3,Sy.cs (List.map vE (A8 s)))) * (55+1)<=140737488355328):Pu 42 [.agg (BD m),.agg (FM s)] (.own 77 3 (Sy.cs (PZ m)++Sy.cs (List.map vE (A8 s)))):=
 pm A9 [cl (@Aho (m) hs),cl (@Ahp (A8 s) Br),am1 A7] func42
abbrev w6(m:Mo)(l:List Vr)(j:Int)(out:List Sy)(e:Ext):S:=S.mk [(1,vL 2 (Vr.cs l)),(4,.v .A2),(5,.uniq 77 3 (Sy.cs out)),(6,A6 j)] [] e
def K8  : List Vr->(List Sy)->(List Sy)
 | [],out=>(out)
 | el::r,out=>K8  r (out++[Sy.mk (AE el) [CD el] (ByteArray.mk #[66,111,111,108])])
def iI(m:Mo)(l:List Vr)(e:Ext)(p:(List Sy)):A4 × S:=(.exit 0,S.mk [(1,vL 2 (Vr.cs l)),(4,.v .A2),(5,.uniq 77 3 (Sy.cs p))] [] e)
theorem rsy(m:Mo)(l:List Vr)(hs:A3 (BD m)<=1048576)(hev:(PZ m).length<=1000000000)(out:List Sy)(e:Ext)(hN:l.length<=1000000000)(hv:List.length out<=List.length (PZ m)+0):(Ob.loop 31 (Au f51 0) (w6 m l 0 out e) (iI m l e (K8  (l)  out)).1 (iI m l e (K8  (l)  out)).2).ok prog:=by
 refine CL l.length (fun j out=>w6 m l j out e) (fun i out=>K8  (List.drop i (l))  out) (iI m l e) (fun i out=>(out.length<=(PZ m).length+i)) kR ?_ out (by first | exact hv | omega)
 rintro i out hi hv
 try simp only at hv
 rcases Nat.lt_or_ge i (l.length) with Ac | Cm
 ·have hd:=At Ac
  exact lS A9 [sl (Vr.A0 l),dt ((i:Int)<(l.length:Int)),D2 l (i:Int),Gn l i Ac,D2 l (i:Int),Gn l i Ac,am (List.length (Sy.cs out++(fun x=>Prod.snd x) (2+1,[AA (AA (AA [.str Ai,.A2,.str Ai] (Field.offset (Field.mk "Name" 9 0 false "" "" 0)) [.str (AE (List.getD l i default))]) (Field.offset (Field.mk "Args" 75 1 false "" "" 16)) [.sl (0+1) [[.str (CD (List.getD l i default))]]]) (Field.offset (Field.mk "Result" 74 2 false "" "" 40)) [.str (ByteArray.mk #[66,111,111,108])]])) * (55+1)<=140737488355328) (by (simp only [List.length_append,List.length_cons,List.length_nil,Sy.A0]; omega)),wr ((i:Int)+1)] [1,4,5,6] [] Ac (out++[Sy.mk (AE (List.getD l i default)) [CD (List.getD l i default)] (ByteArray.mk #[66,111,111,108])]) (S.mk [(1,vL 2 (Vr.cs l)),(4,.v .A2),(5,.uniq 77 3 (Sy.cs out++[AA (AA (AA [.str Ai,.A2,.str Ai] (Field.offset (Field.mk "Name" 9 0 false "" "" 0)) [.str (AE (List.getD l i default))]) (Field.offset (Field.mk "Args" 75 1 false "" "" 16)) [.sl (0+1) [[.str (CD (List.getD l i default))]]]) (Field.offset (Field.mk "Result" 74 2 false "" "" 40)) [.str (ByteArray.mk #[66,111,111,108])]])),(6,A6 ((i:Int)+1))] [] e) ⟨⟨W,W,(.inl (by first | (simp only [List.nil_append,AK,AF,Pr.A1,Tp.A1,Ex.A1,Vr.A1,Df.A1,Sy.A1,Ho.A1,CN,DX,apC]; done) | (simp only [List.nil_append,AK,AF,Pr.A1,Tp.A1,Ex.A1,Vr.A1,Df.A1,Sy.A1,Ho.A1,CN,DX,apC]; rfl))),W,B7⟩,trivial,rfl⟩ (by first | assumption | omega | (simp only [List.length_append,List.length_cons,List.length_nil] at *; omega) | simp_all) (by rw [hd,K8])
 ·have he:i=l.length:=by omega
  exact lX A9 [sl (Vr.A0 l),df ((i:Int)<(l.length:Int))] (out) (by rw [he,List.drop_length,K8])
theorem tkT(m:Mo)(name:BA)(hs:A3 (BD m)<=10000000):Pu 49 [.agg (BD m),.str name] (.ret (.bool (EJ m name))):=by
 have h1:=gMs hs
 have h2:=gFs hs
 unfold EJ
 have e1:=vY name (B3 m)
 have e2:=vZ name (AW m)
 cases ha:C1 El name (B3 m) with
 | true=>rw [iP rfl]; exact Ahq m name h1 h2 (e1.1 ha)
 | false=>
  rw [iN dD]
  cases hb:C1 D4 name (AW m) with
  | true=>obtain ⟨d,hd⟩:=e2.1 hb; exact A4x m name h1 h2 (e1.2 ha) d hd
  | false=>exact A4y m name h1 h2 (e1.2 ha) (e2.2 hb)
theorem syT(m:Mo)(s:Df)(hs:A3 (BD m)<=1048576)(Br:(A8 s).length<=1000000000):Pu 42 [.agg (BD m),.agg (FM s)] (.own 77 3 (Sy.cs (BQ m (A8 s)))):=by
 have h2:=(UD m hs).2
 have:=Ahr m s hs Br (by simp only [List.length_append,Sy.A0,List.length_map]; omega)
 rw [<-apC] at this
 exact this
theorem w7:∀ (l:List Vr) (out:List Sy),K8 l out=out++l.map vE
 | [],out=>by simp [K8]
 | x::r,out=>by rw [K8,w7 r,List.map_cons,List.append_assoc]; rfl
theorem gEv{m:Mo}(hs:A3 (BD m)<=1048576):(PZ m).length<=1000000000:=(UD m hs).2
theorem Ahs(m:Mo)(l:List Vr)(hs:A3 (BD m)<=1048576)(JJ:l.length<=1000000000):Pu 51 [.agg (BD m),.sl 2 (Vr.cs l)] (.own 77 3 (Sy.cs (K8 l (PZ m)))):=
 pu A9 (fun e=>[cl (@Adg (m) hs),lq (@rsy (m) (l) hs (by (apply gEv <;> first | assumption | omega | decide)) (PZ m) (e) JJ oM)]) func51
theorem Jq(m:Mo)(l:List Vr)(hs:A3 (BD m)<=1048576)(JJ:l.length<=1000000000):Pu 51 [.agg (BD m),.sl 2 (Vr.cs l)] (.own 77 3 (Sy.cs (BQ m l))):=by
 have:=Ahs m l hs JJ
 rw [w7] at this
 exact this
theorem b1C(u:Vr):Pu 90 [.agg (FU u)] (rI (H8 (CD u))):=
 pm A9 [cl (@A4u (CD u))] func90
theorem b2C(u:Pr)(v:Nv)(hW:Ba v)(hs:A3 (AN u)<=100000000):Pu 91 [.agg (AN u),.ro (BP v) 0] (rI (Bt v u)):=
 pm A9 [cl (@sb (v) (u) hW hs)] func91
def Cf(v:Nv)(p:Pr):Int:=(if Prod.snd (FX v p)=0 then (if Prod.fst (FX v p)=ByteArray.mk #[73,110,116] then (Prod.snd (FX v p)) else 11) else (Prod.snd (FX v p)))
theorem srt(m:Mo)(v:Nv)(p:Pr)(hW:Ba v)(hs:A3 (AN p)<=100000000):Pu 92 [.agg (GR m v),.agg (AN p),.str (ByteArray.mk #[73,110,116])] (rI (Cf v p)):=by
 by_cases h0:Prod.snd (FX v p)=0
 ·by_cases h1:Prod.fst (FX v p)=ByteArray.mk #[73,110,116]
  ·simp only [Cf,iP h0,iP h1]; exact pm A9 [cl (@soT (v) (p) hW hs),rp 4 (Bb h0),bf (!ByteArray.toList (Prod.fst (FX v p))==ByteArray.toList (ByteArray.mk #[73,110,116])) (AI (BI h1))] func92
  ·simp only [Cf,iP h0,iN h1]; exact pm A9 [cl (@soT (v) (p) hW hs),rp 4 (Bb h0),bt (!ByteArray.toList (Prod.fst (FX v p))==ByteArray.toList (ByteArray.mk #[73,110,116])) (B0 (Bp h1))] func92
 ·simp only [Cf,iN h0]; exact pm A9 [cl (@soT (v) (p) hW hs),rp 4 (Ay h0),bf false] func92
theorem tmC(m:Mo)(v:Nv)(p:Pr)(hW:Ba v)(hs:A3 (AN p)<=100000000):Pu 48 [.agg (GR m v),.agg (AN p)] (rI (Cf v p)):=
 pm A9 [cl (@srt (m) (v) (p) hW hs)] func48
theorem gPz{l:List Pr}{i:Nat}(Bk:∀w∈l,A3 (AN w)<=100000000)(h:i<l.length):A3 (AN (l.getD i default))<=100000000:=Bk _ (Bm h)
abbrev w8(l:List Vr)(j:Int)(e:Ext):S:=S.mk [(1,.v (.fn (.func 90) [] [])),(4,A6 0),(8,vL 2 (Vr.cs l)),(9,A6 (l.length:Int)),(10,A6 j)] [] e
inductive N2 where
 | e0 (el:Vr)
 | e1
def I0  : List Vr->N2
 | []=>(N2.e1)
 | el::r=>(if H8 (CD el)=0 then I0  r  else (N2.e0 el))
def iJ(l:List Vr)(e:Ext):N2->A4 × S
 | .e0 el=>(.ret,S.mk [(1,.v (.fn (.func 90) [] [])),(4,A6 (H8 (CD el))),(8,vL 2 (Vr.cs l)),(9,A6 (l.length:Int))] [] e)
 | .e1=>(.exit 0,S.mk [(1,.v (.fn (.func 90) [] [])),(4,A6 0),(8,vL 2 (Vr.cs l)),(9,A6 (l.length:Int))] [] e)
theorem iK(l:List Vr)(e:Ext)(hN:l.length<=1000000000):(Ob.loop 21 (Au f89 0) (w8 l 0  e) (iJ l e (I0  (l))).1 (iJ l e (I0  (l))).2).ok prog:=by
 refine CL l.length (fun j _=>w8 l j  e) (fun i _=>I0  (List.drop i (l))) (iJ l e) (fun i _=>True) kR ?_ () trivial
 rintro i u hi -
 rcases Nat.lt_or_ge i (l.length) with Ac | Cm
 ·have hd:=At Ac
  by_cases h0:H8 (CD (List.getD l i default))=0
  ·exact lN A9 [dt ((i:Int)<(l.length:Int)),D2 l (i:Int),Gn l i Ac,cl (@b1C (List.getD l i default)),B1 h0,wr ((i:Int)+1)] Ac () trivial (by rw [hd,I0,iP h0])
  ·exact lX A9 [dt ((i:Int)<(l.length:Int)),D2 l (i:Int),Gn l i Ac,cl (@b1C (List.getD l i default)),Bi h0] (N2.e0 (List.getD (l) i default)) (by rw [hd,I0,iN h0])
 ·have he:i=l.length:=by omega
  exact lX A9 [df ((i:Int)<(l.length:Int))] (N2.e1) (by rw [he,List.drop_length,I0])
theorem A4z(l:List Vr)(JJ:l.length<=1000000000)(CX:Vr)(Aa:I0 l=N2.e0 CX):Pu 89 [.sl 2 (Vr.cs l),.fn (.func 90) [] []] (rI (H8 (CD CX))):=
 pu A9 (fun e=>[sl (Vr.A0 l),lq (rz (iK (l) (e) JJ) Aa)]) func89
theorem A50(l:List Vr)(JJ:l.length<=1000000000)(A7:I0 l=N2.e1):Pu 89 [.sl 2 (Vr.cs l),.fn (.func 90) [] []] (rI 0):=
 pu A9 (fun e=>[sl (Vr.A0 l),lq (rz (iK (l) (e) JJ) A7)]) func89
abbrev w9(l:List Pr)(v:Nv)(j:Int)(e:Ext):S:=S.mk [(1,.v (.fn (.func 91) [] [.ro (BP v) 0])),(4,A6 0),(8,vL 4 (Pr.cs l)),(9,A6 (l.length:Int)),(10,A6 j)] [] e
inductive N3 where
 | e0 (el:Pr)
 | e1
def I1(v:Nv):List Pr->N3
 | []=>(N3.e1)
 | el::r=>(if Bt v el=0 then I1 v r  else (N3.e0 el))
def iL(l:List Pr)(v:Nv)(e:Ext):N3->A4 × S
 | .e0 el=>(.ret,S.mk [(1,.v (.fn (.func 91) [] [.ro (BP v) 0])),(4,A6 (Bt v el)),(8,vL 4 (Pr.cs l)),(9,A6 (l.length:Int))] [] e)
 | .e1=>(.exit 0,S.mk [(1,.v (.fn (.func 91) [] [.ro (BP v) 0])),(4,A6 0),(8,vL 4 (Pr.cs l)),(9,A6 (l.length:Int))] [] e)
theorem iM(l:List Pr)(v:Nv)(hW:Ba v)(Bk:∀w∈l,A3 (AN w)<=100000000)(e:Ext)(hN:l.length<=1000000000):(Ob.loop 21 (Au f47 0) (w9 l v 0  e) (iL l v e (I1 v (l))).1 (iL l v e (I1 v (l))).2).ok prog:=by
 refine CL l.length (fun j _=>w9 l v j  e) (fun i _=>I1 v (List.drop i (l))) (iL l v e) (fun i _=>True) kR ?_ () trivial
 rintro i u hi -
 rcases Nat.lt_or_ge i (l.length) with Ac | Cm
 ·have hd:=At Ac
  by_cases h0:Bt v (List.getD l i default)=0
  ·exact lN A9 [dt ((i:Int)<(l.length:Int)),FG l (i:Int),My l i Ac,cl (@b2C (List.getD l i default) (v) hW (by (apply gPz <;> first | assumption | omega | decide))),B1 h0,wr ((i:Int)+1)] Ac () trivial (by rw [hd,I1,iP h0])
  ·exact lX A9 [dt ((i:Int)<(l.length:Int)),FG l (i:Int),My l i Ac,cl (@b2C (List.getD l i default) (v) hW (by (apply gPz <;> first | assumption | omega | decide))),Bi h0] (N3.e0 (List.getD (l) i default)) (by rw [hd,I1,iN h0])
 ·have he:i=l.length:=by omega
  exact lX A9 [df ((i:Int)<(l.length:Int))] (N3.e1) (by rw [he,List.drop_length,I1])
section
variable (l:List Pr) (v:Nv) (hW:Ba v) (Bk:∀w∈l,A3 (AN w)<=100000000) (JJ:l.length<=1000000000)
include l v hW Bk JJ
theorem A51(CX:Pr)(Aa:I1 v l=N3.e0 CX):Pu 47 [.sl 4 (Pr.cs l),.fn (.func 91) [] [.ro (BP v) 0]] (rI (Bt v CX)):=
 pu A9 (fun e=>[sl (Pr.A0 l),lq (rz (iM (l) (v) hW Bk (e) JJ) Aa)]) func47
theorem A52(A7:I1 v l=N3.e1):Pu 47 [.sl 4 (Pr.cs l),.fn (.func 91) [] [.ro (BP v) 0]] (rI 0):=
 pu A9 (fun e=>[sl (Pr.A0 l),lq (rz (iM (l) (v) hW Bk (e) JJ) A7)]) func47
end
abbrev wA(l:List Pr)(m:Mo)(v:Nv)(j:Int)(e:Ext):S:=S.mk [(1,.v (.fn (.func 48) [.agg (GR m v)] [])),(4,A6 0),(8,vL 4 (Pr.cs l)),(9,A6 (l.length:Int)),(10,A6 j)] [] e
inductive N4 where
 | e0 (el:Pr)
 | e1
def I2(v:Nv):List Pr->N4
 | []=>(N4.e1)
 | el::r=>(if Cf v el=0 then I2 v r  else (N4.e0 el))
def iO(l:List Pr)(m:Mo)(v:Nv)(e:Ext):N4->A4 × S
 | .e0 el=>(.ret,S.mk [(1,.v (.fn (.func 48) [.agg (GR m v)] [])),(4,A6 (Cf v el)),(8,vL 4 (Pr.cs l)),(9,A6 (l.length:Int))] [] e)
 | .e1=>(.exit 0,S.mk [(1,.v (.fn (.func 48) [.agg (GR m v)] [])),(4,A6 0),(8,vL 4 (Pr.cs l)),(9,A6 (l.length:Int))] [] e)
theorem iQ(l:List Pr)(m:Mo)(v:Nv)(hW:Ba v)(Bk:∀w∈l,A3 (AN w)<=100000000)(e:Ext)(hN:l.length<=1000000000):(Ob.loop 21 (Au f47 0) (wA l m v 0  e) (iO l m v e (I2 v (l))).1 (iO l m v e (I2 v (l))).2).ok prog:=by
 refine CL l.length (fun j _=>wA l m v j  e) (fun i _=>I2 v (List.drop i (l))) (iO l m v e) (fun i _=>True) kR ?_ () trivial
 rintro i u hi -
 rcases Nat.lt_or_ge i (l.length) with Ac | Cm
 ·have hd:=At Ac
  by_cases h0:Cf v (List.getD l i default)=0
  ·exact lN A9 [dt ((i:Int)<(l.length:Int)),FG l (i:Int),My l i Ac,cl (@tmC (m) (v) (List.getD l i default) hW (by (apply gPz <;> first | assumption | omega | decide))),B1 h0,wr ((i:Int)+1)] Ac () trivial (by rw [hd,I2,iP h0])
  ·exact lX A9 [dt ((i:Int)<(l.length:Int)),FG l (i:Int),My l i Ac,cl (@tmC (m) (v) (List.getD l i default) hW (by (apply gPz <;> first | assumption | omega | decide))),Bi h0] (N4.e0 (List.getD (l) i default)) (by rw [hd,I2,iN h0])
 ·have he:i=l.length:=by omega
  exact lX A9 [df ((i:Int)<(l.length:Int))] (N4.e1) (by rw [he,List.drop_length,I2])
section
variable (l:List Pr) (m:Mo) (v:Nv) (hW:Ba v) (Bk:∀w∈l,A3 (AN w)<=100000000) (JJ:l.length<=1000000000)
include l m v hW Bk JJ
theorem A53(CX:Pr)(Aa:I2 v l=N4.e0 CX):Pu 47 [.sl 4 (Pr.cs l),.fn (.func 48) [.agg (GR m v)] []] (rI (Cf v CX)):=
 pu A9 (fun e=>[sl (Pr.A0 l),lq (rz (iQ (l) (m) (v) hW Bk (e) JJ) Aa)]) func47
theorem A54(A7:I2 v l=N4.e1):Pu 47 [.sl 4 (Pr.cs l),.fn (.func 48) [.agg (GR m v)] []] (rI 0):=
 pu A9 (fun e=>[sl (Pr.A0 l),lq (rz (iQ (l) (m) (v) hW Bk (e) JJ) A7)]) func47
end
theorem iR:∀l:List Vr,(Bg (fun w=>H8 (CD w)) l=0->I0 l = .e1)/\(¬Bg (fun w=>H8 (CD w)) l=0->∃w,I0 l = .e0 w/\(fun w=>H8 (CD w)) w=Bg (fun w=>H8 (CD w)) l)
 | []=>⟨fun _=>rfl,fun h=>absurd rfl h⟩
 | c::r=>by
  have ih:=iR r
  by_cases hp:(fun w=>H8 (CD w)) c=0
  ·simp only [Bg,I0,hp,if_true]; exact ih
  ·simp only [Bg,I0,hp,if_false]
   exact ⟨fun h=>h.elim,fun _=>⟨c,rfl,rfl⟩⟩
theorem Ae6(l:List Vr)(JJ:l.length<=1000000000):Pu 89 [.sl 2 (Vr.cs l),.fn (.func 90) [] []] (.ret (.int .i64 (Bg (fun w=>H8 (CD w)) l))):=by
 by_cases h5:Bg (fun w=>H8 (CD w)) l=0
 ·rw [h5]; exact A50 l JJ ((iR _).1 h5)
 ·obtain ⟨w,e1,e2⟩:=(iR _).2 h5
  rw [<-e2]; exact A4z l JJ w e1
theorem iS(v:Nv):∀l:List Pr,(Bg (Bt v) l=0->I1 v l = .e1)/\(¬Bg (Bt v) l=0->∃w,I1 v l = .e0 w/\(Bt v) w=Bg (Bt v) l)
 | []=>⟨fun _=>rfl,fun h=>absurd rfl h⟩
 | c::r=>by
  have ih:=iS v r
  by_cases hp:(Bt v) c=0
  ·simp only [Bg,I1,hp,if_true]; exact ih
  ·simp only [Bg,I1,hp,if_false]
   exact ⟨fun h=>h.elim,fun _=>⟨c,rfl,rfl⟩⟩
theorem Aht(l:List Pr)(v:Nv)(hW:Ba v)(Bk:∀w∈l,A3 (AN w)<=100000000)(JJ:l.length<=1000000000):Pu 47 [.sl 4 (Pr.cs l),.fn (.func 91) [] [.ro (BP v) 0]] (.ret (.int .i64 (Bg (Bt v) l))):=by
 by_cases h5:Bg (Bt v) l=0
 ·rw [h5]; exact A52 l v hW Bk JJ ((iS v _).1 h5)
 ·obtain ⟨w,e1,e2⟩:=(iS v _).2 h5
  rw [<-e2]; exact A51 l v hW Bk JJ w e1
theorem iT(v:Nv):∀l:List Pr,(Bg (Cf v) l=0->I2 v l = .e1)/\(¬Bg (Cf v) l=0->∃w,I2 v l = .e0 w/\(Cf v) w=Bg (Cf v) l)
 | []=>⟨fun _=>rfl,fun h=>absurd rfl h⟩
 | c::r=>by
  have ih:=iT v r
  by_cases hp:(Cf v) c=0
  ·simp only [Bg,I2,hp,if_true]; exact ih
  ·simp only [Bg,I2,hp,if_false]
   exact ⟨fun h=>h.elim,fun _=>⟨c,rfl,rfl⟩⟩
theorem Ahu(l:List Pr)(m:Mo)(v:Nv)(hW:Ba v)(Bk:∀w∈l,A3 (AN w)<=100000000)(JJ:l.length<=1000000000):Pu 47 [.sl 4 (Pr.cs l),.fn (.func 48) [.agg (GR m v)] []] (.ret (.int .i64 (Bg (Cf v) l))):=by
 by_cases h5:Bg (Cf v) l=0
 ·rw [h5]; exact A54 l m v hW Bk JJ ((iT v _).1 h5)
 ·obtain ⟨w,e1,e2⟩:=(iT v _).2 h5
  rw [<-e2]; exact A53 l m v hW Bk JJ w e1
theorem Ahv(v:Nv)(a b:Pr)(hW:Ba v)(ha:A3 (AN a)<=100000000)(hb:A3 (AN b)<=100000000):Pu 47 [.sl 4 [AN a,AN b],.fn (.func 91) [] [.ro (BP v) 0]] (.ret (.int .i64 (Bg (Bt v) [a,b]))):=by
 have:=Aht [a,b] v hW (fun w hw=>by
  rcases List.mem_cons.1 hw with rfl | hw
  ·exact ha
  ·rw [List.mem_singleton.1 hw]; exact hb) sM
 rw [show Pr.cs [a,b]=[AN a,AN b] by simp [Pr.AD]] at this
 exact this
abbrev wB(v:Nv)(b:Bo)(j:Int)(out:List BA)(e:Ext):S:=S.mk [(2,.lp 2 0),(3,.lp 3 0),(5,.uniq 9 1 (Ae out)),(22,vL 2 (Vr.cs (B6 b))),(23,A6 ((B6 b).length:Int)),(24,A6 j)] [(2,Dy v),(3,vS (Cd b)::vL 2 (Vr.cs (B6 b))::A6 (Af (Cv b))::vS (Aj (Cv b))::A6 (Bq (Cv b))::vL 4 (Pr.cs (Av (Cv b)))::CK (EU b))] e
inductive IJ where
 | e0 (out:List BA)
 | e1 (out:List BA)
def Fm  : List Vr->(List BA)->IJ
 | [],out=>(IJ.e1 out)
 | el::r,out=>(if CJ (BE (AE el))=0 then Fm  r (out++[AE el]) else (IJ.e0 out))
def iU(v:Nv)(b:Bo)(e:Ext):IJ->A4 × S
 | .e0 out=>(.ret,S.mk [(2,.lp 2 0),(3,.lp 3 0),(5,.uniq 9 1 (Ae out)),(22,vL 2 (Vr.cs (B6 b))),(23,A6 ((B6 b).length:Int)),(4,A6 3)] [(2,Dy v),(3,vS (Cd b)::vL 2 (Vr.cs (B6 b))::A6 (Af (Cv b))::vS (Aj (Cv b))::A6 (Bq (Cv b))::vL 4 (Pr.cs (Av (Cv b)))::CK (EU b))] e)
 | .e1 out=>(.exit 0,S.mk [(2,.lp 2 0),(3,.lp 3 0),(5,.uniq 9 1 (Ae out)),(22,vL 2 (Vr.cs (B6 b))),(23,A6 ((B6 b).length:Int))] [(2,Dy v),(3,vS (Cd b)::vL 2 (Vr.cs (B6 b))::A6 (Af (Cv b))::vS (Aj (Cv b))::A6 (Bq (Cv b))::vL 4 (Pr.cs (Av (Cv b)))::CK (EU b))] e)
theorem RF(v:Nv)(b:Bo)(Gp:¬((B6 b).length:Int)<1)(XF:¬((B6 b).length:Int)>6)(e:Ext)(hN:(B6 b).length<=1000000000)(out:List BA)(hv:(out.length<=0)):(Ob.loop 65 (Au f45 0) (wB v b 0 out e) (iU v b e (Fm  ((B6 b))  out)).1 (iU v b e (Fm  ((B6 b))  out)).2).ok prog:=by
 refine CL ((B6 b).length) (fun j out=>wB v b j out e) (fun i out=>Fm  (List.drop i ((B6 b)))  out) (iU v b e) (fun i out=>(out.length<=i)) kR ?_ out (by first | exact hv | omega)
 rintro i out hi hv
 try simp only at hv
 rcases Nat.lt_or_ge i ((B6 b).length) with Ac | Cm
 ·have hd:=At Ac
  by_cases h0:CJ (BE (AE (List.getD (B6 b) i default)))=0
  ·exact lS A9 [dt ((i:Int)<((B6 b).length:Int)),D2 (B6 b) (i:Int),Gn (B6 b) i Ac,cl (@OA (AE (List.getD (B6 b) i default))),B1 h0,am (List.length (Ae out++(fun x=>Prod.snd x) (0+1,[[.str (AE (List.getD (B6 b) i default))]])) * (15+1)<=140737488355328) (by (simp only [List.length_append,List.length_cons,List.length_nil,A5]; omega)),wr ((i:Int)+1)] [2,3,5,22,23,24,4] [2,3] Ac (out++[AE (List.getD (B6 b) i default)]) (S.mk [(2,.lp 2 0),(3,.lp 3 0),(5,.uniq 9 1 (Ae out++[[PV.str (AE (List.getD (B6 b) i default))]])),(22,vL 2 (Vr.cs (B6 b))),(23,A6 ((B6 b).length:Int)),(24,A6 ((i:Int)+1))] [(2,Dy v),(3,vS (Cd b)::vL 2 (Vr.cs (B6 b))::A6 (Af (Cv b))::vS (Aj (Cv b))::A6 (Bq (Cv b))::vL 4 (Pr.cs (Av (Cv b)))::CK (EU b))] e) ⟨⟨W,W,(.inl (by first | (simp only [List.nil_append,AK,AF,Pr.A1,Tp.A1,Ex.A1,Vr.A1,Df.A1,Sy.A1,Ho.A1,CN,DX,apC]; done) | (simp only [List.nil_append,AK,AF,Pr.A1,Tp.A1,Ex.A1,Vr.A1,Df.A1,Sy.A1,Ho.A1,CN,DX,apC]; rfl))),W,W,W,B7⟩,⟨Ws,Ws,B7⟩,rfl⟩ (by first | assumption | omega | (simp only [List.length_append,List.length_cons,List.length_nil] at *; omega) | simp_all) (by rw [hd,Fm,iP h0])
  ·exact lX A9 [dt ((i:Int)<((B6 b).length:Int)),D2 (B6 b) (i:Int),Gn (B6 b) i Ac,cl (@OA (AE (List.getD (B6 b) i default))),Bi h0] (IJ.e0 out) (by rw [hd,Fm,iN h0])
 ·have he:i=(B6 b).length:=by omega
  exact lX A9 [df ((i:Int)<((B6 b).length:Int))] (IJ.e1 out) (by rw [he,List.drop_length,Fm])
theorem Ae7{v u:Nv}{i:Nat}{w:Vr}(hv:GF v u i)(Fy:(AX v).length<=50000000)(hi:i<=10000000):GF v (JH u w) (i+1):=hv.1.wi (n:=(AX v).length+i) hv.2 oM
theorem Ahw{v u:Nv}{i:Nat}{w:Vr}{b:Bo}(hv:GF v u i)(Fy:(AX v).length<=50000000)(XF:¬((B6 b).length:Int)>6)(hi:i<(B6 b).length):GF v (JH u w) (i+1):=Ae7 hv Fy oM
abbrev wC(v:Nv)(b:Bo)(out:List BA)(j:Int)(u:Nv)(e:Ext):S:=S.mk [(2,.lp 2 0),(3,.lp 3 0),(48,vL 2 (Vr.cs (B6 b))),(49,A6 ((B6 b).length:Int)),(50,A6 j)] [(2,Dy u),(3,vS (Cd b)::vL 2 (Vr.cs (B6 b))::A6 (Af (Cv b))::vS (Aj (Cv b))::A6 (Bq (Cv b))::vL 4 (Pr.cs (Av (Cv b)))::CK (EU b))] e
def G8  : List Vr->(Nv)->(Nv)
 | [],u=>(u)
 | el::r,u=>G8  r (JH u el)
def iV(v:Nv)(b:Bo)(out:List BA)(e:Ext)(p:(Nv)):A4 × S:=(.exit 2,S.mk [(2,.lp 2 0),(3,.lp 3 0),(48,vL 2 (Vr.cs (B6 b))),(49,A6 ((B6 b).length:Int))] [(2,Dy p),(3,vS (Cd b)::vL 2 (Vr.cs (B6 b))::A6 (Af (Cv b))::vS (Aj (Cv b))::A6 (Bq (Cv b))::vL 4 (Pr.cs (Av (Cv b)))::CK (EU b))] e)
theorem bdB(v:Nv)(b:Bo)(Gp:¬((B6 b).length:Int)<1)(XF:¬((B6 b).length:Int)>6)(out:List BA)(Na:Fm (B6 b) []=IJ.e1 out)(Vm:out.length<=1000000000)(hdi:Ge out=true)(hso:Bg (fun w=>H8 (CD w)) (B6 b)=0)(hE:Ba v)(Fy:(AX v).length<=50000000)(u:Nv)(e:Ext)(hN:(B6 b).length<=1000000000)(hv:GF v u 0):(Ob.loop 65 (Au f45 1) (wC v b out 0 u e) (iV v b out e (G8  ((B6 b))  u)).1 (iV v b out e (G8  ((B6 b))  u)).2).ok prog:=by
 refine CL ((B6 b).length) (fun j u=>wC v b out j u e) (fun i u=>G8  (List.drop i ((B6 b)))  u) (iV v b out e) (fun i u=>(GF v u i)) kR ?_ u (by first | exact hv | omega)
 rintro i u hi hv
 try simp only at hv
 rcases Nat.lt_or_ge i ((B6 b).length) with Ac | Cm
 ·have hd:=At Ac
  exact lS A9 [dt ((i:Int)<((B6 b).length:Int)),D2 (B6 b) (i:Int),Gn (B6 b) i Ac,cl (@wiT (u) (List.getD (B6 b) i default) (by (apply XK <;> first | assumption | omega | decide))),wr ((i:Int)+1)] [2,3,48,49,50,4] [2,3] Ac (JH u (List.getD (B6 b) i default)) (S.mk [(2,.lp 2 0),(3,.lp 3 0),(48,vL 2 (Vr.cs (B6 b))),(49,A6 ((B6 b).length:Int)),(50,A6 ((i:Int)+1))] [(2,Dy (JH u (List.getD (B6 b) i default))),(3,vS (Cd b)::vL 2 (Vr.cs (B6 b))::A6 (Af (Cv b))::vS (Aj (Cv b))::A6 (Bq (Cv b))::vL 4 (Pr.cs (Av (Cv b)))::CK (EU b))] e) ⟨⟨W,W,W,W,W,B7⟩,⟨⟨Wq,Wq,Wq,B7⟩,Ws,B7⟩,rfl⟩ (by first | assumption | omega | (apply XK <;> first | assumption | omega | decide) | (apply Ahw <;> first | assumption | omega | decide) | (apply VY <;> first | assumption | omega | decide) | (simp only [List.length_append,List.length_cons,List.length_nil] at *; omega) | simp_all) (by rw [hd,G8])
 ·have he:i=(B6 b).length:=by omega
  exact lX A9 [df ((i:Int)<((B6 b).length:Int))] (u) (by rw [he,List.drop_length,G8])
theorem iW:∀ (l:List Vr) (out:List BA),(Bg (fun w=>CJ (BE (AE w))) l=0->Fm l out = .e1 (out++l.map AE))/\(¬Bg (fun w=>CJ (BE (AE w))) l=0->∃o,Fm l out = .e0 o)
 | [],out=>⟨fun _=>by simp [Fm],fun h=>absurd rfl h⟩
 | c::r,out=>by
  have ih:=iW r (out++[AE c])
  by_cases hp:CJ (BE (AE c))=0
  ·simp only [Bg,Fm,hp,if_true,List.map_cons]
   rw [List.append_assoc] at ih
   exact ih
  ·simp only [Bg,Fm,hp,if_false]
   exact ⟨fun h=>h.elim,fun _=>⟨_,rfl⟩⟩
theorem gOl{l:List Vr}{o:List BA}(XF:¬(l.length:Int)>6)(h:Fm l [] = .e1 o):o.length<=1000000000:=by
 have he:=iW l []
 by_cases hp:Bg (fun w=>CJ (BE (AE w))) l=0
 ·have:=he.1 hp
  rw [h] at this
  simp only [IJ.e1.injEq,List.nil_append] at this
  rw [this,List.length_map]; omega
 ·obtain ⟨o',ho⟩:=he.2 hp
  rw [h] at ho; cases ho
theorem iX{v:Nv}(Fy:(AX v).length<=50000000):∀ (l:List Vr) (u:Nv) (i:Nat),GF v u i->i+l.length<=1000->GF v (G8 l u) (i+l.length)
 | [],u,i,h,_=>h
 | c::r,u,i,h,hl=>by
  simp only [List.length_cons] at hl
  have:=iX Fy r (JH u c) (i+1) (Ae7 h Fy oM) oM
  rw [G8,List.length_cons]
  rw [show i+(r.length+1)=i+1+r.length by omega]
  exact this
theorem gBf{v:Nv}{l:List Vr}(hE:Ba v)(Fy:(AX v).length<=50000000)(XF:¬(l.length:Int)>6):Ba (G8 l v):=(iX Fy l v 0 (VY hE) oM).1
section
variable (v:Nv) (b:Bo) (hE:Ba v) (Fy:(AX v).length<=50000000) (KF:A3 (AN (Cv b))<=100000000) (Ns:A3 (AN (EU b))<=100000000)
include v b hE Fy KF Ns
theorem Ae8(A7:((B6 b).length:Int)<1):Pu 45 [.agg (BP v),.agg (KH b)] (rI 13):=
 pm A9 [sl (Vr.A0 (B6 b)),rp 5 (BL A7),bt true] func45
theorem Ae9(A7:¬((B6 b).length:Int)<1)(Aa:((B6 b).length:Int)>6):Pu 45 [.agg (BP v),.agg (KH b)] (rI 13):=
 pm A9 [sl (Vr.A0 (B6 b)),rp 3 (Ar A7),sl (Vr.A0 (B6 b)),rp 2 (Ar A7),BL Aa] func45
theorem Aea(A7:¬((B6 b).length:Int)<1)(Aa:¬((B6 b).length:Int)>6)(Iu:List BA)(Az:Fm (B6 b) []=IJ.e0 Iu):Pu 45 [.agg (BP v),.agg (KH b)] (rI 3):=
 pu A9 (fun e=>[sl (Vr.A0 (B6 b)),rp 3 (Ar A7),sl (Vr.A0 (B6 b)),rp 2 (Ar A7),Ar Aa,sl (Vr.A0 (B6 b)),lp (S.mk [(2,.lp 2 0),(3,.lp 3 0),(5,.v .A2),(22,vL 2 (Vr.cs (B6 b))),(23,A6 ((B6 b).length:Int)),(24,A6 0)] [(2,Dy v),(3,vS (Cd b)::vL 2 (Vr.cs (B6 b))::A6 (Af (Cv b))::vS (Aj (Cv b))::A6 (Bq (Cv b))::vL 4 (Pr.cs (Av (Cv b)))::CK (EU b))] e) (rz (RF (v) (b) A7 Aa (e) oM ([]) (by (simp only [List.length_nil]; omega))) Az) ⟨⟨W,W,Wq,W,W,W,B7⟩,⟨⟨W,W,W,B7⟩,⟨W,W,W,W,W,W,W,W,W,W,B7⟩,B7⟩,rfl⟩]) func45
theorem Aeb(A7:¬((B6 b).length:Int)<1)(Aa:¬((B6 b).length:Int)>6)(Iu:List BA)(Az:Fm (B6 b) []=IJ.e1 Iu)(AP:Ge Iu=false):Pu 45 [.agg (BP v),.agg (KH b)] (rI 4):=
 pu A9 (fun e=>[sl (Vr.A0 (B6 b)),rp 3 (Ar A7),sl (Vr.A0 (B6 b)),rp 2 (Ar A7),Ar Aa,sl (Vr.A0 (B6 b)),lp (S.mk [(2,.lp 2 0),(3,.lp 3 0),(5,.v .A2),(22,vL 2 (Vr.cs (B6 b))),(23,A6 ((B6 b).length:Int)),(24,A6 0)] [(2,Dy v),(3,vS (Cd b)::vL 2 (Vr.cs (B6 b))::A6 (Af (Cv b))::vS (Aj (Cv b))::A6 (Bq (Cv b))::vL 4 (Pr.cs (Av (Cv b)))::CK (EU b))] e) (rz (RF (v) (b) A7 Aa (e) oM ([]) (by (simp only [List.length_nil]; omega))) Az) ⟨⟨W,W,Wq,W,W,W,B7⟩,⟨⟨W,W,W,B7⟩,⟨W,W,W,W,W,W,W,W,W,W,B7⟩,B7⟩,rfl⟩,cl (@dsT (Iu) (by (apply gOl <;> first | assumption | omega | decide))),AV (B0 AP)]) func45
theorem Aec(A7:¬((B6 b).length:Int)<1)(Aa:¬((B6 b).length:Int)>6)(Iu:List BA)(Az:Fm (B6 b) []=IJ.e1 Iu)(AP:Ge Iu=true)(Bu:¬Bg (fun w=>H8 (CD w)) (B6 b)=0):Pu 45 [.agg (BP v),.agg (KH b)] (rI (Bg (fun w=>H8 (CD w)) (B6 b))):=
 pu A9 (fun e=>[sl (Vr.A0 (B6 b)),rp 3 (Ar A7),sl (Vr.A0 (B6 b)),rp 2 (Ar A7),Ar Aa,sl (Vr.A0 (B6 b)),lp (S.mk [(2,.lp 2 0),(3,.lp 3 0),(5,.v .A2),(22,vL 2 (Vr.cs (B6 b))),(23,A6 ((B6 b).length:Int)),(24,A6 0)] [(2,Dy v),(3,vS (Cd b)::vL 2 (Vr.cs (B6 b))::A6 (Af (Cv b))::vS (Aj (Cv b))::A6 (Bq (Cv b))::vL 4 (Pr.cs (Av (Cv b)))::CK (EU b))] e) (rz (RF (v) (b) A7 Aa (e) oM ([]) (by (simp only [List.length_nil]; omega))) Az) ⟨⟨W,W,Wq,W,W,W,B7⟩,⟨⟨W,W,W,B7⟩,⟨W,W,W,W,W,W,W,W,W,W,B7⟩,B7⟩,rfl⟩,cl (@dsT (Iu) (by (apply gOl <;> first | assumption | omega | decide))),AM (AI AP),cl (@Ae6 (B6 b) oM),Bi Bu]) func45
theorem Aed(A7:¬((B6 b).length:Int)<1)(Aa:¬((B6 b).length:Int)>6)(Iu:List BA)(Az:Fm (B6 b) []=IJ.e1 Iu)(AP:Ge Iu=true)(Bu:Bg (fun w=>H8 (CD w)) (B6 b)=0):Pu 45 [.agg (BP v),.agg (KH b)] (rI (Bg (Bt (G8 (B6 b) v)) [Cv b,EU b])):=
 pu A9 (fun e=>[sl (Vr.A0 (B6 b)),rp 3 (Ar A7),sl (Vr.A0 (B6 b)),rp 2 (Ar A7),Ar Aa,sl (Vr.A0 (B6 b)),lp (S.mk [(2,.lp 2 0),(3,.lp 3 0),(5,.v .A2),(22,vL 2 (Vr.cs (B6 b))),(23,A6 ((B6 b).length:Int)),(24,A6 0)] [(2,Dy v),(3,vS (Cd b)::vL 2 (Vr.cs (B6 b))::A6 (Af (Cv b))::vS (Aj (Cv b))::A6 (Bq (Cv b))::vL 4 (Pr.cs (Av (Cv b)))::CK (EU b))] e) (rz (RF (v) (b) A7 Aa (e) oM ([]) (by (simp only [List.length_nil]; omega))) Az) ⟨⟨W,W,Wq,W,W,W,B7⟩,⟨⟨W,W,W,B7⟩,⟨W,W,W,W,W,W,W,W,W,W,B7⟩,B7⟩,rfl⟩,cl (@dsT (Iu) (by (apply gOl <;> first | assumption | omega | decide))),AM (AI AP),cl (@Ae6 (B6 b) oM),B1 Bu,sl (Vr.A0 (B6 b)),lq (@bdB (v) (b) A7 Aa (Iu) Az (by (apply gOl <;> first | assumption | omega | decide)) AP Bu hE Fy (v) (e) oM (by (apply VY <;> first | assumption | omega | decide))),cl (@Ahv (G8 (B6 b) v) (Cv b) (EU b) (by (apply gBf <;> first | assumption | omega | decide)) KF Ns)]) func45
end
def iY(l:List Vr):Int:=if Ge (l.map AE)=true then Bg (fun w=>H8 (CD w)) l else 4
def Tw(v:Nv)(b:Bo):Int:=if ((B6 b).length:Int)<1 then 13 else if ((B6 b).length:Int)>6 then 13 else if Bg (fun w=>CJ (BE (AE w))) (B6 b)=0 then (if iY (B6 b)=0 then Bg (Bt (G8 (B6 b) v)) [Cv b,EU b] else iY (B6 b)) else 3
theorem bdT(v:Nv)(b:Bo)(hE:Ba v)(Fy:(AX v).length<=50000000)(KF:A3 (AN (Cv b))<=100000000)(Ns:A3 (AN (EU b))<=100000000):Pu 45 [.agg (BP v),.agg (KH b)] (.ret (.int .i64 (Tw v b))):=by
 unfold Tw iY
 by_cases h1:((B6 b).length:Int)<1
 ·rw [iP h1]; exact Ae8 v b hE Fy KF Ns h1
 rw [iN h1]
 by_cases h2:((B6 b).length:Int)>6
 ·rw [iP h2]; exact Ae9 v b hE Fy KF Ns h1 h2
 rw [iN h2]
 have he:=iW (B6 b) []
 by_cases h3:Bg (fun w=>CJ (BE (AE w))) (B6 b)=0
 ·rw [iP h3]
  have h4:=he.1 h3
  rw [List.nil_append] at h4
  cases hd:Ge ((B6 b).map AE) with
  | false=>exact Aeb v b hE Fy KF Ns h1 h2 _ h4 hd
  | true=>
   rw [iP rfl]
   by_cases h5:Bg (fun w=>H8 (CD w)) (B6 b)=0
   ·rw [iP h5]; exact Aed v b hE Fy KF Ns h1 h2 _ h4 hd h5
   ·rw [iN h5]; exact Aec v b hE Fy KF Ns h1 h2 _ h4 hd h5
 ·rw [iN h3]
  obtain ⟨o,ho⟩:=he.2 h3
  exact Aea v b hE Fy KF Ns h1 h2 o ho
def Pt(l:List Vr)(i:Nat):Bool:=C1 AE (AE (l.getD i default)) (l.take i)
abbrev Qw(l:List Vr)(i0:Nat)(xe:Ext)(j:Int)   : S:=S.mk [(0,vL 2 (Vr.cs l)),(3,A6 (i0:Int)),(4,A6 j)] [] xe
inductive IK where
 | e0
 | e1
def GW(l:List Vr)(i0:Nat):List Vr->Nat->IK
 | [],i=>(IK.e1)
 | el::r,i=>(if AE (List.getD l i0 default)=AE (List.getD l i default) then (IK.e0) else GW l i0 r (i+1))
def Jr(l:List Vr)(i0:Nat)(xe:Ext)  : IK->A4 × S
 | .e0=>(.ret,S.mk [(0,vL 2 (Vr.cs l)),(3,A6 (i0:Int)),(2,A6 4)] [] xe)
 | .e1=>(.exit 2,S.mk [(0,vL 2 (Vr.cs l)),(3,A6 (i0:Int))] [] xe)
theorem iZ(l:List Vr)(i0:Nat)(KD:i0<l.length)(LF:(l.take i0).length=i0)(xe:Ext)(hN:List.length ((l.take i0))<=1000000000):(Ob.loop 44 (Au f95 1) (Qw l i0 xe 0) (Jr l i0 xe  (GW l i0 ((l.take i0)) 0)).1 (Jr l i0 xe  (GW l i0 ((l.take i0)) 0)).2).ok prog:=by
 refine CL (List.length ((l.take i0))) (fun j _=>Qw l i0 xe j) (fun i _=>GW l i0 (List.drop i ((l.take i0))) i) (Jr l i0 xe) (fun i _=>True) kR ?_ () trivial
 rintro i u hi -
 rcases Nat.lt_or_ge i (List.length ((l.take i0))) with Ac | Cm
 ·have hd:=At Ac
  by_cases h0:AE (List.getD l i0 default)=AE (List.getD l i default)
  ·exact lX A9 [dt ((i:Int)<(i0:Int)),D2 l (i0:Int),Gn l i0 KD,D2 l (i:Int),Gn l i,bt (ByteArray.toList (AE (List.getD l i0 default))==ByteArray.toList (AE (List.getD l i default))) (BI h0)] (IK.e0) (by rw [hd,GW,iP h0])
  ·exact lN A9 [dt ((i:Int)<(i0:Int)),D2 l (i0:Int),Gn l i0 KD,D2 l (i:Int),Gn l i,bf (ByteArray.toList (AE (List.getD l i0 default))==ByteArray.toList (AE (List.getD l i default))) (Bp h0),wr ((i:Int)+1)] Ac () trivial (by rw [hd,GW,iN h0])
 ·have he:i=List.length ((l.take i0)):=by omega
  exact lX A9 [df ((i:Int)<(i0:Int))] (IK.e1) (by rw [he,List.drop_length,GW])
theorem Aee(l:List Vr)(i0:Nat)(KD:i0<l.length)(LF:(l.take i0).length=i0)(xe:Ext)(hN:List.length ((l.take i0))<=1000000000)(Be:(GW l i0 ((l.take i0)) 0)=(IK.e0)):(Ob.loop 44 (Au f95 1) (Qw l i0 xe 0) (Jr l i0 xe  (IK.e0)).1 (Jr l i0 xe  (IK.e0)).2).ok prog:=
 rz (iZ l i0 KD LF xe hN) Be
theorem Aef(l:List Vr)(i0:Nat)(KD:i0<l.length)(LF:(l.take i0).length=i0)(xe:Ext)(hN:List.length ((l.take i0))<=1000000000)(Be:(GW l i0 ((l.take i0)) 0)=(IK.e1)):(Ob.loop 44 (Au f95 1) (Qw l i0 xe 0) (Jr l i0 xe  (IK.e1)).1 (Jr l i0 xe  (IK.e1)).2).ok prog:=
 rz (iZ l i0 KD LF xe hN) Be
theorem j0(l:List Vr)(i0:Nat)(KD:i0<=l.length):∀ (n k:Nat),n+k=i0->(GW l i0 ((l.take i0).drop k) k = .e0∨GW l i0 ((l.take i0).drop k) k = .e1)/\(GW l i0 ((l.take i0).drop k) k = .e0↔C1 AE (AE (l.getD i0 default)) ((l.take i0).drop k)=true)
 | 0,k,h=>by
  have:(l.take i0).drop k=[]:=List.drop_eq_nil_of_le (by simp; omega)
  rw [this]
  exact ⟨.inr rfl,⟨fun h=>absurd h (by simp [GW]),fun h=>absurd h (by simp [C1])⟩⟩
 | n+1,k,h=>by
  have hk:k<(l.take i0).length:=by rw [List.length_take]; omega
  have hd:(l.take i0).drop k=l.getD k default::(l.take i0).drop (k+1):=by
   rw [At hk]
   congr 1
   rw [List.getD,List.getD,List.getElem?_take,iP oM]
  have ih:=j0 l i0 KD n (k+1) oM
  rw [hd]
  unfold GW
  by_cases hc:AE (l.getD i0 default)=AE (l.getD k default)
  ·rw [iP hc]
   exact ⟨.inl rfl,⟨fun _=>by simp only [C1,List.any_cons]; rw [decide_eq_true hc.symm,Bool.true_or],fun _=>rfl⟩⟩
  ·rw [iN hc]
   refine ⟨ih.1,ih.2.trans ?_⟩
   simp only [C1,List.any_cons]
   rw [decide_eq_false (fun e=>hc e.symm),Bool.false_or]
theorem Ahx(l:List Vr)(i0:Nat)(KD:i0<l.length)(xe:Ext)(hN:l.length<=1000000000)(h:Pt l i0=true):(Ob.loop 44 (Au f95 1) (Qw l i0 xe 0) (Jr l i0 xe .e0).1 (Jr l i0 xe .e0).2).ok prog:=by
 have he:=j0 l i0 oM i0 0 oM
 rw [List.drop_zero] at he
 have ht:(l.take i0).length=i0:=by rw [List.length_take]; omega
 exact Aee l i0 KD ht xe oM (he.2.2 h)
theorem Ahy(l:List Vr)(i0:Nat)(KD:i0<l.length)(xe:Ext)(hN:l.length<=1000000000)(h:Pt l i0=false):(Ob.loop 44 (Au f95 1) (Qw l i0 xe 0) (Jr l i0 xe .e1).1 (Jr l i0 xe .e1).2).ok prog:=by
 have he:=j0 l i0 oM i0 0 oM
 rw [List.drop_zero] at he
 have ht:(l.take i0).length=i0:=by rw [List.length_take]; omega
 refine Aef l i0 KD ht xe oM (he.1.resolve_left fun e=>?_)
 have:=he.2.1 e
 unfold Pt at h
 rw [this] at h; cases h
abbrev wD(l:List Vr)(j:Int)(e:Ext):S:=S.mk [(0,vL 2 (Vr.cs l)),(3,A6 j)] [] e
inductive K9 where
 | e0
 | e1
def GA(l:List Vr):List Vr->Nat->K9
 | [],i=>(K9.e1)
 | el::r,i=>(if Pt l i=true then (K9.e0) else GA l r (i+1))
def j3(l:List Vr)(e:Ext):K9->A4 × S
 | .e0=>(.ret,S.mk [(0,vL 2 (Vr.cs l)),(2,A6 4)] [] e)
 | .e1=>(.exit 0,S.mk [(0,vL 2 (Vr.cs l))] [] e)
theorem UF(l:List Vr)(e:Ext)(hN:l.length<=1000000000):(Ob.loop 44 (Au f95 0) (wD l 0  e) (j3 l e (GA l (l) 0)).1 (j3 l e (GA l (l) 0)).2).ok prog:=by
 refine CL l.length (fun j _=>wD l j  e) (fun i _=>GA l (List.drop i (l)) i) (j3 l e) (fun i _=>True) kR ?_ () trivial
 rintro i u hi -
 rcases Nat.lt_or_ge i (l.length) with Ac | Cm
 ·have hd:=At Ac
  by_cases h0:Pt l i=true
  ·exact lX A9 [sl (Vr.A0 l),dt ((i:Int)<(l.length:Int)),lq (@Ahx (l) (i) Ac (e) hN h0)] (K9.e0) (by rw [hd,GA,iP h0])
  ·exact lN A9 [sl (Vr.A0 l),dt ((i:Int)<(l.length:Int)),lq (@Ahy (l) (i) Ac (e) hN (Db h0)),wr ((i:Int)+1)] Ac () trivial (by rw [hd,GA,iN h0])
 ·have he:i=l.length:=by omega
  exact lX A9 [sl (Vr.A0 l),df ((i:Int)<(l.length:Int))] (K9.e1) (by rw [he,List.drop_length,GA])
abbrev wE(l:List Vr)(j:Int)(e:Ext):S:=S.mk [(0,vL 2 (Vr.cs l)),(5,A6 j)] [] e
inductive N5 where
 | e0 (el:Vr)
 | e1
def I3  : List Vr->N5
 | []=>(N5.e1)
 | el::r=>(if H8 (CD el)=0 then I3  r  else (N5.e0 el))
def j4(l:List Vr)(e:Ext):N5->A4 × S
 | .e0 el=>(.ret,S.mk [(0,vL 2 (Vr.cs l)),(2,A6 (H8 (CD el)))] [] e)
 | .e1=>(.exit 4,S.mk [(0,vL 2 (Vr.cs l))] [] e)
theorem j5(l:List Vr)(Gp:GA l l 0=K9.e1)(hNq:l.length<=1000000000)(e:Ext)(hN:l.length<=1000000000):(Ob.loop 44 (Au f95 2) (wE l 0  e) (j4 l e (I3  (l))).1 (j4 l e (I3  (l))).2).ok prog:=by
 refine CL l.length (fun j _=>wE l j  e) (fun i _=>I3  (List.drop i (l))) (j4 l e) (fun i _=>True) kR ?_ () trivial
 rintro i u hi -
 rcases Nat.lt_or_ge i (l.length) with Ac | Cm
 ·have hd:=At Ac
  by_cases h0:H8 (CD (List.getD l i default))=0
  ·exact lN A9 [sl (Vr.A0 l),dt ((i:Int)<(l.length:Int)),D2 l (i:Int),Gn l i Ac,cl (@nO (CD (List.getD l i default))),B1 h0,wr ((i:Int)+1)] Ac () trivial (by rw [hd,I3,iP h0])
  ·exact lX A9 [sl (Vr.A0 l),dt ((i:Int)<(l.length:Int)),D2 l (i:Int),Gn l i Ac,cl (@nO (CD (List.getD l i default))),Bi h0] (N5.e0 (List.getD (l) i default)) (by rw [hd,I3,iN h0])
 ·have he:i=l.length:=by omega
  exact lX A9 [sl (Vr.A0 l),df ((i:Int)<(l.length:Int))] (N5.e1) (by rw [he,List.drop_length,I3])
section
variable (l:List Vr) (Br:l.length<=1000000000)
include l Br
theorem Aeg(A7:GA l l 0=K9.e0):Pu 95 [.sl 2 (Vr.cs l)] (rI 4):=
 pu A9 (fun e=>[lq (rz (UF (l) (e) Br) A7)]) func95
theorem Aeh(A7:GA l l 0=K9.e1)(I6:Vr)(Am:I3 l=N5.e0 I6):Pu 95 [.sl 2 (Vr.cs l)] (rI (H8 (CD I6))):=
 pu A9 (fun e=>[lq (rz (UF (l) (e) Br) A7),lq (rz (j5 (l) A7 Br (e) Br) Am)]) func95
theorem Aei(A7:GA l l 0=K9.e1)(Aa:I3 l=N5.e1):Pu 95 [.sl 2 (Vr.cs l)] (rI 0):=
 pu A9 (fun e=>[lq (rz (UF (l) (e) Br) A7),lq (rz (j5 (l) A7 Br (e) Br) Aa)]) func95
end
theorem wF(l:List Vr):∀ (n i:Nat),n+i=l.length->(GA l (l.drop i) i = .e0∨GA l (l.drop i) i = .e1)/\(GA l (l.drop i) i = .e1↔∀j,i<=j->j<l.length->Pt l j=false)
 | 0,i,h=>by
  have:l.drop i=[]:=List.drop_eq_nil_of_le oM
  rw [this]
  exact ⟨.inr rfl,⟨fun _ j h1 h2=>by omega,fun _=>rfl⟩⟩
 | n+1,i,h=>by
  have hi:i<l.length:=by omega
  have ih:=wF l n (i+1) oM
  rw [At hi]
  unfold GA
  by_cases hc:Pt l i=true
  ·rw [iP hc]
   exact ⟨.inl rfl,⟨fun h=>(nomatch h),fun h=>(by have:=h i (Nat.le_refl _) hi; rw [hc] at this; cases this)⟩⟩
  ·rw [iN hc]
   refine ⟨ih.1,ih.2.trans ⟨fun h j h1 h2=>?_,fun h j h1 h2=>h j oM h2⟩⟩
   rcases Nat.lt_or_ge i j with hl | hl
   ·exact h j hl h2
   ·rw [show j=i by omega]; exact Db hc
theorem UG{α:Type} [Inhabited α] (l:List α):l.Nodup↔∀j,j<l.length->¬(l.getD j default∈l.take j):=by
 induction l with
 | nil=>simp
 | cons c r ih=>
  rw [List.nodup_cons,ih]
  constructor
  ·rintro ⟨h1,h2⟩ j hj hm
   cases j with
   | zero=>simp at hm
   | succ j=>
    simp only [List.length_cons] at hj
    simp only [List.getD_cons_succ,List.take_succ_cons,List.mem_cons] at hm
    rcases hm with hm | hm
    ·exact h1 (hm ▸ Bm oM)
    ·exact h2 j oM hm
  ·intro h
   refine ⟨fun hc=>?_,fun j hj hm=>h (j+1) (by simp; omega) (by simp only [List.getD_cons_succ,List.take_succ_cons,List.mem_cons]; exact .inr hm)⟩
   obtain ⟨j,hj,rfl⟩:=List.getElem_of_mem hc
   refine h (j+1) (by simp; omega) ?_
   simp only [List.getD_cons_succ,List.take_succ_cons,List.mem_cons]
   exact .inl (by simp [List.getD,hj])
theorem Qy(l:List Vr):(∀j,0<=j->j<l.length->Pt l j=false)↔(l.map AE).Nodup:=by
 rw [UG]
 have hg:∀j,j<l.length->(l.map AE).getD j default=AE (l.getD j default):=fun j hj=>by
  simp [List.getD,hj]
 constructor
 ·intro h j hj hm
  rw [List.length_map] at hj
  rw [hg j hj,<-List.map_take] at hm
  obtain ⟨w,hw,e⟩:=List.mem_map.1 hm
  have:=h j (Nat.zero_le _) hj
  unfold Pt C1 at this
  have h2:(l.take j).any (fun x=>decide (AE x=AE (l.getD j default)))=true:=List.any_eq_true.2 ⟨w,hw,decide_eq_true e⟩
  rw [h2] at this; cases this
 ·intro h j _ hj
  cases hd:Pt l j with
  | false=>rfl
  | true=>
   obtain ⟨w,hw,e⟩:=List.any_eq_true.1 hd
   refine (h j (by rw [List.length_map]; exact hj) ?_).elim
   rw [hg j hj,<-List.map_take]
   exact List.mem_map.2 ⟨w,hw,of_decide_eq_true e⟩
theorem wG:∀l:List Vr,(Bg (fun w=>H8 (CD w)) l=0->I3 l = .e1)/\(¬Bg (fun w=>H8 (CD w)) l=0->∃w,I3 l = .e0 w/\H8 (CD w)=Bg (fun w=>H8 (CD w)) l)
 | []=>⟨fun _=>rfl,fun h=>absurd rfl h⟩
 | c::r=>by
  have ih:=wG r
  by_cases hp:H8 (CD c)=0
  ·simp only [Bg,I3,hp,if_true]; exact ih
  ·simp only [Bg,I3,hp,if_false]
   exact ⟨fun h=>h.elim,fun _=>⟨c,rfl,rfl⟩⟩
theorem rvT(l:List Vr)(Br:l.length<=1000000000):Pu 95 [.sl 2 (Vr.cs l)] (.ret (.int .i64 (iY l))):=by
 have he:=wF l l.length 0 oM
 rw [List.drop_zero] at he
 have h2:=wG l
 unfold iY
 by_cases hd:Ge (l.map AE)=true
 ·rw [iP hd]
  have h1:=he.2.2 ((Qy l).2 ((Rn _).1 hd))
  by_cases hf:Bg (fun w=>H8 (CD w)) l=0
  ·rw [hf]; exact Aei l Br h1 (h2.1 hf)
  ·obtain ⟨w,e1,e2⟩:=h2.2 hf
   rw [<-e2]; exact Aeh l Br h1 w e1
 ·rw [iN hd]
  exact Aeg l Br (he.1.resolve_right fun e=>hd ((Rn _).2 ((Qy l).1 (he.2.1 e))))
abbrev wI(l:List Sy)(b:Bo)(j:Int)(e:Ext):S:=S.mk [(0,vL 3 (Sy.cs l)),(3,.lp 3 0),(5,A6 j)] [(3,vS (Cd b)::vL 2 (Vr.cs (B6 b))::A6 (Af (Cv b))::vS (Aj (Cv b))::A6 (Bq (Cv b))::vL 4 (Pr.cs (Av (Cv b)))::CK (EU b))] e
inductive Ka where
 | e0
 | e1
def GB  : List Vr->Ka
 | []=>(Ka.e1)
 | el::r=>(if CJ (BE (AE el))=0 then GB  r  else (Ka.e0))
def j6(l:List Sy)(b:Bo)(e:Ext):Ka->A4 × S
 | .e0=>(.ret,S.mk [(0,vL 3 (Sy.cs l)),(3,.lp 3 0),(4,A6 3)] [(3,vS (Cd b)::vL 2 (Vr.cs (B6 b))::A6 (Af (Cv b))::vS (Aj (Cv b))::A6 (Bq (Cv b))::vL 4 (Pr.cs (Av (Cv b)))::CK (EU b))] e)
 | .e1=>(.exit 0,S.mk [(0,vL 3 (Sy.cs l)),(3,.lp 3 0)] [(3,vS (Cd b)::vL 2 (Vr.cs (B6 b))::A6 (Af (Cv b))::vS (Aj (Cv b))::A6 (Bq (Cv b))::vL 4 (Pr.cs (Av (Cv b)))::CK (EU b))] e)
theorem RG(l:List Sy)(b:Bo)(Gp:¬((B6 b).length:Int)<1)(XF:¬((B6 b).length:Int)>6)(e:Ext)(hN:(B6 b).length<=1000000000):(Ob.loop 54 (Au f52 0) (wI l b 0  e) (j6 l b e (GB  ((B6 b)))).1 (j6 l b e (GB  ((B6 b)))).2).ok prog:=by
 refine CL ((B6 b).length) (fun j _=>wI l b j  e) (fun i _=>GB  (List.drop i ((B6 b)))) (j6 l b e) (fun i _=>True) kR ?_ () trivial
 rintro i u hi -
 rcases Nat.lt_or_ge i ((B6 b).length) with Ac | Cm
 ·have hd:=At Ac
  by_cases h0:CJ (BE (AE (List.getD (B6 b) i default)))=0
  ·exact lN A9 [sl (Vr.A0 (B6 b)),dt ((i:Int)<((B6 b).length:Int)),D2 (B6 b) (i:Int),Gn (B6 b) i Ac,cl (@Pj (AE (List.getD (B6 b) i default))),B1 h0,wr ((i:Int)+1)] Ac () trivial (by rw [hd,GB,iP h0])
  ·exact lX A9 [sl (Vr.A0 (B6 b)),dt ((i:Int)<((B6 b).length:Int)),D2 (B6 b) (i:Int),Gn (B6 b) i Ac,cl (@Pj (AE (List.getD (B6 b) i default))),Bi h0] (Ka.e0) (by rw [hd,GB,iN h0])
 ·have he:i=(B6 b).length:=by omega
  exact lX A9 [sl (Vr.A0 (B6 b)),df ((i:Int)<((B6 b).length:Int))] (Ka.e1) (by rw [he,List.drop_length,GB])
theorem A55(w:List Vr)(l:List Sy)(p:Pr)(hE:Ba (.mk w l []))(hs:A3 (AN p)<=100000000):Pu 77 [.agg [.sl 2 (Vr.cs w),.sl 3 (Sy.cs l),.A2],.agg (AN p)] (.ret (.int .i64 (Bt (.mk w l []) p))):=Ob.JE (Co.c (Wk.a (Co.c (.r _) (Co.c (.r _) (Co.c (.n 2) (Co.r []))))) (Co.r _)) (Tf (.mk w l []) p hE hs)
section
variable (l:List Sy) (b:Bo) (hE:Ba (.mk (B6 b) l [])) (KF:A3 (AN (Cv b))<=100000000) (Ns:A3 (AN (EU b))<=100000000)
include l b hE KF Ns
theorem Aej(A7:((B6 b).length:Int)<1):Pu 52 [.sl 3 (Sy.cs l),.agg (KH b)] (rI 13):=
 pm A9 [sl (Vr.A0 (B6 b)),rp 5 (BL A7),bt true] func52
theorem Aek(A7:¬((B6 b).length:Int)<1)(Aa:((B6 b).length:Int)>6):Pu 52 [.sl 3 (Sy.cs l),.agg (KH b)] (rI 13):=
 pm A9 [sl (Vr.A0 (B6 b)),rp 3 (Ar A7),sl (Vr.A0 (B6 b)),rp 2 (Ar A7),BL Aa] func52
theorem Ael(A7:¬((B6 b).length:Int)<1)(Aa:¬((B6 b).length:Int)>6)(Am:GB (B6 b)=Ka.e0):Pu 52 [.sl 3 (Sy.cs l),.agg (KH b)] (rI 3):=
 pu A9 (fun e=>[sl (Vr.A0 (B6 b)),rp 3 (Ar A7),sl (Vr.A0 (B6 b)),rp 2 (Ar A7),Ar Aa,lq (rz (RG (l) (b) A7 Aa (e) oM) Am)]) func52
theorem Aem(A7:¬((B6 b).length:Int)<1)(Aa:¬((B6 b).length:Int)>6)(Am:GB (B6 b)=Ka.e1)(Az:¬iY (B6 b)=0):Pu 52 [.sl 3 (Sy.cs l),.agg (KH b)] (rI (iY (B6 b))):=
 pu A9 (fun e=>[sl (Vr.A0 (B6 b)),rp 3 (Ar A7),sl (Vr.A0 (B6 b)),rp 2 (Ar A7),Ar Aa,lq (rz (RG (l) (b) A7 Aa (e) oM) Am),cl (@rvT (B6 b) oM),Bi Az]) func52
theorem Aen(A7:¬((B6 b).length:Int)<1)(Aa:¬((B6 b).length:Int)>6)(Am:GB (B6 b)=Ka.e1)(Az:iY (B6 b)=0)(AP:Bt (Nv.mk (B6 b) l []) (Cv b)=0):Pu 52 [.sl 3 (Sy.cs l),.agg (KH b)] (rI (Bt (Nv.mk (B6 b) l []) (EU b))):=
 pu A9 (fun e=>[sl (Vr.A0 (B6 b)),rp 3 (Ar A7),sl (Vr.A0 (B6 b)),rp 2 (Ar A7),Ar Aa,lq (rz (RG (l) (b) A7 Aa (e) oM) Am),cl (@rvT (B6 b) oM),B1 Az,cl (@A55 (B6 b) (l) (Cv b) hE KF),Bb AP,cl (@A55 (B6 b) (l) (EU b) hE Ns)]) func52
theorem Aeo(A7:¬((B6 b).length:Int)<1)(Aa:¬((B6 b).length:Int)>6)(Am:GB (B6 b)=Ka.e1)(Az:iY (B6 b)=0)(AP:¬Bt (Nv.mk (B6 b) l []) (Cv b)=0):Pu 52 [.sl 3 (Sy.cs l),.agg (KH b)] (rI (Bt (Nv.mk (B6 b) l []) (Cv b))):=
 pu A9 (fun e=>[sl (Vr.A0 (B6 b)),rp 3 (Ar A7),sl (Vr.A0 (B6 b)),rp 2 (Ar A7),Ar Aa,lq (rz (RG (l) (b) A7 Aa (e) oM) Am),cl (@rvT (B6 b) oM),B1 Az,cl (@A55 (B6 b) (l) (Cv b) hE KF),Ay AP]) func52
end
theorem wJ:∀l:List Vr,(Bg (fun w=>CJ (BE (AE w))) l=0->GB l = .e1)/\(¬Bg (fun w=>CJ (BE (AE w))) l=0->GB l = .e0)
 | []=>⟨fun _=>rfl,fun h=>absurd rfl h⟩
 | c::r=>by
  have ih:=wJ r
  by_cases hp:CJ (BE (AE c))=0
  ·simp only [Bg,GB,hp,if_true]; exact ih
  ·simp only [Bg,GB,hp,if_false]
   exact ⟨fun h=>h.elim,fun _=>trivial⟩
theorem wK(s:List Sy)(h:List Ho):∀ (l pre:List Vr),((pre++l).map AE).Nodup->G8 l (.mk pre s h) = .mk (pre++l) s h
 | [],pre,_=>by rw [List.append_nil,G8]
 | c::r,pre,hn=>by
  have hk:Rt c pre=pre:=by
   unfold Rt
   rw [List.filter_eq_self]
   intro y hy
   refine decide_eq_true fun e=>?_
   rw [List.map_append,List.map_cons,List.nodup_append] at hn
   exact hn.2.2 (AE y) (List.mem_map_of_mem hy) (AE c) List.mem_cons_self e
  rw [G8,JH,show AX (.mk pre s h)=pre from rfl,hk]
  have:=wK s h r (pre++[c]) (by rw [List.append_assoc]; exact hn)
  rw [List.append_assoc] at this
  exact this
theorem rbT(l:List Sy)(b:Bo)(hE:Ba (.mk (B6 b) l []))(KF:A3 (AN (Cv b))<=100000000)(Ns:A3 (AN (EU b))<=100000000):Pu 52 [.sl 3 (Sy.cs l),.agg (KH b)] (.ret (.int .i64 (Tw (.mk [] l []) b))):=by
 unfold Tw
 by_cases h1:((B6 b).length:Int)<1
 ·rw [iP h1]; exact Aej l b hE KF Ns h1
 rw [iN h1]
 by_cases h2:((B6 b).length:Int)>6
 ·rw [iP h2]; exact Aek l b hE KF Ns h1 h2
 rw [iN h2]
 have he:=wJ (B6 b)
 by_cases h3:Bg (fun w=>CJ (BE (AE w))) (B6 b)=0
 ·rw [iP h3]
  by_cases h4:iY (B6 b)=0
  ·rw [iP h4]
   have hn:((B6 b).map AE).Nodup:=by
    unfold iY at h4
    split at h4
    ·rename_i hd; exact (Rn _).1 hd
    ·cases h4
   have hb:G8 (B6 b) (.mk [] l []) = .mk (B6 b) l []:=wK l [] (B6 b) [] hn
   rw [hb]
   by_cases h5:Bt (.mk (B6 b) l []) (Cv b)=0
   ·simp only [Bg,h5,if_true]
    have:=Aen l b hE KF Ns h1 h2 (he.1 h3) h4 h5
    by_cases h6:Bt (.mk (B6 b) l []) (EU b)=0
    ·rw [h6] at this ⊢; simpa using this
    ·simpa [h6] using this
   ·simp only [Bg,h5,if_false]
    exact Aeo l b hE KF Ns h1 h2 (he.1 h3) h4 h5
  ·rw [iN h4]; exact Aem l b hE KF Ns h1 h2 (he.1 h3) h4
 ·rw [iN h3]; exact Ael l b hE KF Ns h1 h2 (he.2 h3)
theorem nP(l:List Vr)(n:Nat):List.drop 0 (List.take n (Vr.cs l))=Vr.cs (l.take n):=by rw [List.drop_zero,Vr.AD,Vr.AD,List.map_take]
theorem nQ(l:List Bo)(n:Nat):List.drop 0 (List.take n (Bo.cs l))=Bo.cs (l.take n):=by rw [List.drop_zero,Bo.AD,Bo.AD,List.map_take]
theorem A56(l:List Vr)(n:Nat)(b:Vr)(Br:l.length<=1000000000):Pu 39 [.sl 2 (List.drop 0 (List.take n (Vr.cs l))),.fn (.func 40) [] [.ro (FU b) 0]] (.ret (.bool (C1 AE (AE b) (l.take n)))):=by
 rw [nP]; exact iaT _ b (Nat.le_trans (List.length_take_le' _ _) Br)
theorem A57(l:List Bo)(n:Nat)(b:Bo)(Br:l.length<=1000000000):Pu 43 [.sl 10 (List.drop 0 (List.take n (Bo.cs l))),.fn (.func 44) [] [.ro (KH b) 0]] (.ret (.bool (C1 Cd (Cd b) (l.take n)))):=by
 rw [nQ]; exact ibT _ b (Nat.le_trans (List.length_take_le' _ _) Br)
theorem Wd(m:Mo)(name:BA)(hs:A3 (BD m)<=1048576):Pu 38 [.agg (BD m),.str name] (.ret (.bool (EJ m name))):=dcl m name oM
abbrev wL(m:Mo)(s:Df)(j:Int)(e:Ext):S:=S.mk [(2,.lp 2 0),(3,.lp 3 0),(21,vL 2 (Vr.cs (A8 s))),(22,A6 ((A8 s).length:Int)),(23,A6 j)] [(2,Er m),(3,[vL 1 (Ae (CS s)),vL 2 (Vr.cs (CT s)),vL 2 (Vr.cs (A8 s)),vL 10 (Bo.cs (Ak s)),A6 (AB (Ad s)),vS (An (Ad s)),vL 9 (Tp.cs (Ab (Ad s))),vL 1 (Ae (Ag (Ad s))),A6 (Af (AT (Ad s))),vS (Aj (AT (Ad s))),A6 (Bq (AT (Ad s))),vL 4 (Pr.cs (Av (AT (Ad s)))),vL 4 (Pr.cs (Aq (Ad s))),vL 4 (Pr.cs (AJ s))])] e
inductive EO where
 | e0
 | e1 (el:Vr)
 | e2
def DQ(m:Mo)(s:Df):List Vr->Nat->EO
 | [],i=>(EO.e2)
 | el::r,i=>(if EJ m (AE el)=true then (EO.e0) else (if C1 AE (AE el) (List.take i (A8 s))=true then (EO.e0) else (if H8 (CD el)=0 then DQ m s r (i+1)  else (EO.e1 el))))
def j7(m:Mo)(s:Df)(e:Ext):EO->A4 × S
 | .e0=>(.ret,S.mk [(2,.lp 2 0),(3,.lp 3 0),(21,vL 2 (Vr.cs (A8 s))),(22,A6 ((A8 s).length:Int)),(4,A6 4)] [(2,Er m),(3,[vL 1 (Ae (CS s)),vL 2 (Vr.cs (CT s)),vL 2 (Vr.cs (A8 s)),vL 10 (Bo.cs (Ak s)),A6 (AB (Ad s)),vS (An (Ad s)),vL 9 (Tp.cs (Ab (Ad s))),vL 1 (Ae (Ag (Ad s))),A6 (Af (AT (Ad s))),vS (Aj (AT (Ad s))),A6 (Bq (AT (Ad s))),vL 4 (Pr.cs (Av (AT (Ad s)))),vL 4 (Pr.cs (Aq (Ad s))),vL 4 (Pr.cs (AJ s))])] e)
 | .e1 el=>(.ret,S.mk [(2,.lp 2 0),(3,.lp 3 0),(21,vL 2 (Vr.cs (A8 s))),(22,A6 ((A8 s).length:Int)),(4,A6 (H8 (CD el)))] [(2,Er m),(3,[vL 1 (Ae (CS s)),vL 2 (Vr.cs (CT s)),vL 2 (Vr.cs (A8 s)),vL 10 (Bo.cs (Ak s)),A6 (AB (Ad s)),vS (An (Ad s)),vL 9 (Tp.cs (Ab (Ad s))),vL 1 (Ae (Ag (Ad s))),A6 (Af (AT (Ad s))),vS (Aj (AT (Ad s))),A6 (Bq (AT (Ad s))),vL 4 (Pr.cs (Av (AT (Ad s)))),vL 4 (Pr.cs (Aq (Ad s))),vL 4 (Pr.cs (AJ s))])] e)
 | .e2=>(.exit 0,S.mk [(2,.lp 2 0),(3,.lp 3 0),(21,vL 2 (Vr.cs (A8 s))),(22,A6 ((A8 s).length:Int))] [(2,Er m),(3,[vL 1 (Ae (CS s)),vL 2 (Vr.cs (CT s)),vL 2 (Vr.cs (A8 s)),vL 10 (Bo.cs (Ak s)),A6 (AB (Ad s)),vS (An (Ad s)),vL 9 (Tp.cs (Ab (Ad s))),vL 1 (Ae (Ag (Ad s))),A6 (Af (AT (Ad s))),vS (Aj (AT (Ad s))),A6 (Bq (AT (Ad s))),vL 4 (Pr.cs (Av (AT (Ad s)))),vL 4 (Pr.cs (Aq (Ad s))),vL 4 (Pr.cs (AJ s))])] e)
theorem KE(m:Mo)(s:Df)(hs:A3 (BD m)<=1048576)(Gp:¬((A8 s).length:Int)>6)(e:Ext)(hN:(A8 s).length<=1000000000):(Ob.loop 117 (Au f16 0) (wL m s 0  e) (j7 m s e (DQ m s ((A8 s)) 0)).1 (j7 m s e (DQ m s ((A8 s)) 0)).2).ok prog:=by
 refine CL ((A8 s).length) (fun j _=>wL m s j  e) (fun i _=>DQ m s (List.drop i ((A8 s))) i) (j7 m s e) (fun i _=>True) kR ?_ () trivial
 rintro i u hi -
 rcases Nat.lt_or_ge i ((A8 s).length) with Ac | Cm
 ·have hd:=At Ac
  by_cases h0:EJ m (AE (List.getD (A8 s) i default))=true
  ·exact lX A9 [dt ((i:Int)<((A8 s).length:Int)),D2 (A8 s) (i:Int),Gn (A8 s) i Ac,cl (@Wd (m) (AE (List.getD (A8 s) i default)) hs),rp 7 (AV h0),bt true] (EO.e0) (by rw [hd,DQ,iP h0])
  ·by_cases h1:C1 AE (AE (List.getD (A8 s) i default)) (List.take i (A8 s))=true
   ·exact lX A9 [dt ((i:Int)<((A8 s).length:Int)),D2 (A8 s) (i:Int),Gn (A8 s) i Ac,cl (@Wd (m) (AE (List.getD (A8 s) i default)) hs),rp 4 (AM (Db h0)),am ((0:Int)<=(0:Int)/\(0:Int)<=(i:Int)/\(i:Int)<=((Vr.cs (A8 s)).length:Int)) (by (simp only [Vr.A0]; omega)),av (vL 2 (List.drop 0 (List.take (Int.toNat (i:Int)) (Vr.cs (A8 s))))) (vL 2 (List.drop 0 (List.take i (Vr.cs (A8 s))))) rF,rp 2 (AM (Db h0)),cl (@A56 (A8 s) (i) (List.getD (A8 s) i default) hN),AM (Db h0),AV h1] (EO.e0) (by rw [hd,DQ,iN h0,iP h1])
   ·by_cases h2:H8 (CD (List.getD (A8 s) i default))=0
    ·exact lN A9 [dt ((i:Int)<((A8 s).length:Int)),D2 (A8 s) (i:Int),Gn (A8 s) i Ac,cl (@Wd (m) (AE (List.getD (A8 s) i default)) hs),rp 4 (AM (Db h0)),am ((0:Int)<=(0:Int)/\(0:Int)<=(i:Int)/\(i:Int)<=((Vr.cs (A8 s)).length:Int)) (by (simp only [Vr.A0]; omega)),av (vL 2 (List.drop 0 (List.take (Int.toNat (i:Int)) (Vr.cs (A8 s))))) (vL 2 (List.drop 0 (List.take i (Vr.cs (A8 s))))) rF,rp 2 (AM (Db h0)),cl (@A56 (A8 s) (i) (List.getD (A8 s) i default) hN),AM (Db h0),AM (Db h1),cl (@A4u (CD (List.getD (A8 s) i default))),B1 h2,wr ((i:Int)+1)] Ac () trivial (by rw [hd,DQ,iN h0,iN h1,iP h2])
    ·exact lX A9 [dt ((i:Int)<((A8 s).length:Int)),D2 (A8 s) (i:Int),Gn (A8 s) i Ac,cl (@Wd (m) (AE (List.getD (A8 s) i default)) hs),rp 4 (AM (Db h0)),am ((0:Int)<=(0:Int)/\(0:Int)<=(i:Int)/\(i:Int)<=((Vr.cs (A8 s)).length:Int)) (by (simp only [Vr.A0]; omega)),av (vL 2 (List.drop 0 (List.take (Int.toNat (i:Int)) (Vr.cs (A8 s))))) (vL 2 (List.drop 0 (List.take i (Vr.cs (A8 s))))) rF,rp 2 (AM (Db h0)),cl (@A56 (A8 s) (i) (List.getD (A8 s) i default) hN),AM (Db h0),AM (Db h1),cl (@A4u (CD (List.getD (A8 s) i default))),Bi h2] (EO.e1 (List.getD ((A8 s)) i default)) (by rw [hd,DQ,iN h0,iN h1,iN h2])
 ·have he:i=(A8 s).length:=by omega
  exact lX A9 [df ((i:Int)<((A8 s).length:Int))] (EO.e2) (by rw [he,List.drop_length,DQ])
theorem bdN(l:List Sy)(b:Bo)(hE:Ba (.mk [] l []))(KF:A3 (AN (Cv b))<=100000000)(Ns:A3 (AN (EU b))<=100000000):Pu 45 [.agg [.A2,.sl 3 (Sy.cs l),.A2],.agg (KH b)] (.ret (.int .i64 (Tw (.mk [] l []) b))):=Ob.JE (Co.c (Wk.a (Co.c (.n 2) (Co.c (.r _) (Co.c (.n 2) (Co.r []))))) (Co.r _)) (bdT (.mk [] l []) b hE (by simp [AX]) KF Ns)
theorem wtN(m:Mo)(l:List Sy)(t:Tp)(BC:(AL m).length<=1048576)(hE:Ba (.mk [] l []))(hs:A3 (AO t)<=10000000):Pu 14 [.agg [.A2,.sl 3 (Sy.cs l),.A2],.agg (BD m),.agg (AO t)] (.ret (.int .i64 (Cp m (.mk [] l []) t))):=Ob.JE (Co.c (Wk.a (Co.c (.n 2) (Co.c (.r _) (Co.c (.n 2) (Co.r []))))) (Co.r _)) (wt m (.mk [] l []) t BC hE hs (by simp [AX]))
theorem Xl(m:Mo)(l:List Sy)(t:Tp)(BC:(AL m).length<=1048576)(hE:Ba (.mk [] l []))(hs:A3 (AO t)<=10000000):Pu 15 [.agg [.A2,.sl 3 (Sy.cs l),.A2],.agg (BD m),.agg (AO t)] (.ret (.int .i64 (Cp m (.mk [] l []) t))):=Ob.JE (Co.c (Wk.a (Co.c (.n 2) (Co.c (.r _) (Co.c (.n 2) (Co.r []))))) (Co.r _)) (Ahe m (.mk [] l []) t BC hE hs (by simp [AX]))
theorem gBo{s:Df}{i:Nat}(DR:∀b∈Ak s,A3 (AN (Cv b))<=100000000/\A3 (AN (EU b))<=100000000)(h:i<(Ak s).length):A3 (AN (Cv ((Ak s).getD i default)))<=100000000:=(DR _ (Bm h)).1
theorem gBp{s:Df}{i:Nat}(DR:∀b∈Ak s,A3 (AN (Cv b))<=100000000/\A3 (AN (EU b))<=100000000)(h:i<(Ak s).length):A3 (AN (EU ((Ak s).getD i default)))<=100000000:=(DR _ (Bm h)).2
theorem gV7{s:Df}(Gp:¬((A8 s).length:Int)>6):(A8 s).length<=1000000000:=by omega
abbrev wM(m:Mo)(s:Df)(j:Int)(e:Ext):S:=S.mk [(2,.lp 2 0),(3,.lp 3 0),(8,.lp 8 0),(52,vL 10 (Bo.cs (Ak s))),(53,A6 ((Ak s).length:Int)),(54,A6 j)] [(2,Er m),(3,[vL 1 (Ae (CS s)),vL 2 (Vr.cs (CT s)),vL 2 (Vr.cs (A8 s)),vL 10 (Bo.cs (Ak s)),A6 (AB (Ad s)),vS (An (Ad s)),vL 9 (Tp.cs (Ab (Ad s))),vL 1 (Ae (Ag (Ad s))),A6 (Af (AT (Ad s))),vS (Aj (AT (Ad s))),A6 (Bq (AT (Ad s))),vL 4 (Pr.cs (Av (AT (Ad s)))),vL 4 (Pr.cs (Aq (Ad s))),vL 4 (Pr.cs (AJ s))]),(8,[.v .A2,vL 3 (Sy.cs (BQ m (A8 s))),.v .A2])] e
inductive GC where
 | e0
 | e1 (el:Bo)
 | e2
def Ew(m:Mo)(s:Df):List Bo->Nat->GC
 | [],i=>(GC.e2)
 | el::r,i=>(if C1 Cd (Cd el) (List.take i (Ak s))=true then (GC.e0) else (if Tw (Nv.mk [] (BQ m (A8 s)) []) el=0 then Ew m s r (i+1)  else (GC.e1 el)))
def j8(m:Mo)(s:Df)(e:Ext):GC->A4 × S
 | .e0=>(.ret,S.mk [(2,.lp 2 0),(3,.lp 3 0),(8,.lp 8 0),(52,vL 10 (Bo.cs (Ak s))),(53,A6 ((Ak s).length:Int)),(4,A6 4)] [(2,Er m),(3,[vL 1 (Ae (CS s)),vL 2 (Vr.cs (CT s)),vL 2 (Vr.cs (A8 s)),vL 10 (Bo.cs (Ak s)),A6 (AB (Ad s)),vS (An (Ad s)),vL 9 (Tp.cs (Ab (Ad s))),vL 1 (Ae (Ag (Ad s))),A6 (Af (AT (Ad s))),vS (Aj (AT (Ad s))),A6 (Bq (AT (Ad s))),vL 4 (Pr.cs (Av (AT (Ad s)))),vL 4 (Pr.cs (Aq (Ad s))),vL 4 (Pr.cs (AJ s))]),(8,[.v .A2,vL 3 (Sy.cs (BQ m (A8 s))),.v .A2])] e)
 | .e1 el=>(.ret,S.mk [(2,.lp 2 0),(3,.lp 3 0),(8,.lp 8 0),(52,vL 10 (Bo.cs (Ak s))),(53,A6 ((Ak s).length:Int)),(4,A6 (Tw (Nv.mk [] (BQ m (A8 s)) []) el))] [(2,Er m),(3,[vL 1 (Ae (CS s)),vL 2 (Vr.cs (CT s)),vL 2 (Vr.cs (A8 s)),vL 10 (Bo.cs (Ak s)),A6 (AB (Ad s)),vS (An (Ad s)),vL 9 (Tp.cs (Ab (Ad s))),vL 1 (Ae (Ag (Ad s))),A6 (Af (AT (Ad s))),vS (Aj (AT (Ad s))),A6 (Bq (AT (Ad s))),vL 4 (Pr.cs (Av (AT (Ad s)))),vL 4 (Pr.cs (Aq (Ad s))),vL 4 (Pr.cs (AJ s))]),(8,[.v .A2,vL 3 (Sy.cs (BQ m (A8 s))),.v .A2])] e)
 | .e2=>(.exit 2,S.mk [(2,.lp 2 0),(3,.lp 3 0),(8,.lp 8 0),(52,vL 10 (Bo.cs (Ak s))),(53,A6 ((Ak s).length:Int))] [(2,Er m),(3,[vL 1 (Ae (CS s)),vL 2 (Vr.cs (CT s)),vL 2 (Vr.cs (A8 s)),vL 10 (Bo.cs (Ak s)),A6 (AB (Ad s)),vS (An (Ad s)),vL 9 (Tp.cs (Ab (Ad s))),vL 1 (Ae (Ag (Ad s))),A6 (Af (AT (Ad s))),vS (Aj (AT (Ad s))),A6 (Bq (AT (Ad s))),vL 4 (Pr.cs (Av (AT (Ad s)))),vL 4 (Pr.cs (Aq (Ad s))),vL 4 (Pr.cs (AJ s))]),(8,[.v .A2,vL 3 (Sy.cs (BQ m (A8 s))),.v .A2])] e)
theorem OY(m:Mo)(s:Df)(hs:A3 (BD m)<=1048576)(Gp:¬((A8 s).length:Int)>6)(Na:DQ m s (A8 s) 0=EO.e2)(hE:Ba (.mk [] (BQ m (A8 s)) []))(DR:∀b∈Ak s,A3 (AN (Cv b))<=100000000/\A3 (AN (EU b))<=100000000)(e:Ext)(hN:(Ak s).length<=1000000000):(Ob.loop 117 (Au f16 1) (wM m s 0  e) (j8 m s e (Ew m s ((Ak s)) 0)).1 (j8 m s e (Ew m s ((Ak s)) 0)).2).ok prog:=by
 refine CL ((Ak s).length) (fun j _=>wM m s j  e) (fun i _=>Ew m s (List.drop i ((Ak s))) i) (j8 m s e) (fun i _=>True) kR ?_ () trivial
 rintro i u hi -
 rcases Nat.lt_or_ge i ((Ak s).length) with Ac | Cm
 ·have hd:=At Ac
  by_cases h0:C1 Cd (Cd (List.getD (Ak s) i default)) (List.take i (Ak s))=true
  ·exact lX A9 [dt ((i:Int)<((Ak s).length:Int)),L2 (Ak s) (i:Int),Uk (Ak s) i Ac,am ((0:Int)<=(0:Int)/\(0:Int)<=(i:Int)/\(i:Int)<=((Bo.cs (Ak s)).length:Int)) (by (simp only [Bo.A0]; omega)),av (vL 10 (List.drop 0 (List.take (Int.toNat (i:Int)) (Bo.cs (Ak s))))) (vL 10 (List.drop 0 (List.take i (Bo.cs (Ak s))))) rF,cl (@A57 (Ak s) (i) (List.getD (Ak s) i default) hN),AV h0] (GC.e0) (by rw [hd,Ew,iP h0])
  ·by_cases h1:Tw (Nv.mk [] (BQ m (A8 s)) []) (List.getD (Ak s) i default)=0
   ·exact lN A9 [dt ((i:Int)<((Ak s).length:Int)),L2 (Ak s) (i:Int),Uk (Ak s) i Ac,am ((0:Int)<=(0:Int)/\(0:Int)<=(i:Int)/\(i:Int)<=((Bo.cs (Ak s)).length:Int)) (by (simp only [Bo.A0]; omega)),av (vL 10 (List.drop 0 (List.take (Int.toNat (i:Int)) (Bo.cs (Ak s))))) (vL 10 (List.drop 0 (List.take i (Bo.cs (Ak s))))) rF,cl (@A57 (Ak s) (i) (List.getD (Ak s) i default) hN),AM (Db h0),cl (@bdN (BQ m (A8 s)) (List.getD (Ak s) i default) hE (by (apply gBo <;> first | assumption | omega | decide)) (by (apply gBp <;> first | assumption | omega | decide))),B1 h1,wr ((i:Int)+1)] Ac () trivial (by rw [hd,Ew,iN h0,iP h1])
   ·exact lX A9 [dt ((i:Int)<((Ak s).length:Int)),L2 (Ak s) (i:Int),Uk (Ak s) i Ac,am ((0:Int)<=(0:Int)/\(0:Int)<=(i:Int)/\(i:Int)<=((Bo.cs (Ak s)).length:Int)) (by (simp only [Bo.A0]; omega)),av (vL 10 (List.drop 0 (List.take (Int.toNat (i:Int)) (Bo.cs (Ak s))))) (vL 10 (List.drop 0 (List.take i (Bo.cs (Ak s))))) rF,cl (@A57 (Ak s) (i) (List.getD (Ak s) i default) hN),AM (Db h0),cl (@bdN (BQ m (A8 s)) (List.getD (Ak s) i default) hE (by (apply gBo <;> first | assumption | omega | decide)) (by (apply gBp <;> first | assumption | omega | decide))),Bi h1] (GC.e1 (List.getD ((Ak s)) i default)) (by rw [hd,Ew,iN h0,iN h1])
 ·have he:i=(Ak s).length:=by omega
  exact lX A9 [df ((i:Int)<((Ak s).length:Int))] (GC.e2) (by rw [he,List.drop_length,Ew])
abbrev eV(l:List Sy):Nv := .mk [] l []
theorem nsb{t:Tp}:(Ag t).length<=A3 (AO t):=by
 have h1:=Ov (Ag t)
 have h8:Ah (Ae (Ag t))<A3 (AO t):=by simp only [A3,CR]; omega
 omega
theorem gNl{t:Tp}(Cw:A3 (AO t)<=10000000):(Ag t).length<=1000000000:=by have:=@nsb t; omega
theorem A58{l:List Sy}{u:Nv}{i:Nat}{name:BA}{w t:Tp}(hv:GF (eV l) u i)(Cw:A3 (AO t)<=10000000)(h:i<(Ag t).length):GF (eV l) (JI u name w) (i+1):=by
 have h1:=@nsb t
 have h2:(AX (eV l)).length=0:=rfl
 exact hv.1.pw (n:=(AX (eV l)).length+i) hv.2 oM
theorem A59{t:Tp}{i:Nat}(Cw:A3 (AO t)<=10000000)(h:(i:Int)<((Ab t).length:Int)):A3 (AO ((Ab t).getD i default))<=1000000000:=tG Cw oM
theorem Nj{s:Df}(E9:Ah (Bo.cs (Ak s))<=10000000):(Ak s).length<=1000000000:=by have:=Bo.BS (Ak s); omega
abbrev wN(m:Mo)(s:Df)(j:Int)(u:Nv)(e:Ext):S:=S.mk [(3,.lp 3 0),(13,.lp 13 0),(89,vL 1 (Ae (Ag (Ad s)))),(90,A6 ((Ag (Ad s)).length:Int)),(91,A6 j)] [(3,[vL 1 (Ae (CS s)),vL 2 (Vr.cs (CT s)),vL 2 (Vr.cs (A8 s)),vL 10 (Bo.cs (Ak s)),A6 (AB (Ad s)),vS (An (Ad s)),vL 9 (Tp.cs (Ab (Ad s))),vL 1 (Ae (Ag (Ad s))),A6 (Af (AT (Ad s))),vS (Aj (AT (Ad s))),A6 (Bq (AT (Ad s))),vL 4 (Pr.cs (Av (AT (Ad s)))),vL 4 (Pr.cs (Aq (Ad s))),vL 4 (Pr.cs (AJ s))]),(13,vL 4 (Da.cs (AL m))::vL 3 (Cl.cs (CB m))::vL 12 (In.cs (DD m))::vL 8 (Ms.cs (B3 m))::vL 6 (Qu.cs (Ep m))::vL 25 (Df.cs (AW m))::Dy u)] e
def Ey(s:Df):List BA->Nat->(Nv)->(Nv)
 | [],i,u=>(u)
 | el::r,i,u=>(if (i:Int)<((Ab (Ad s)).length:Int) then Ey s r (i+1) (JI u el (List.getD (Ab (Ad s)) i default)) else Ey s r (i+1) (u))
def Tj(m:Mo)(s:Df)(e:Ext)(p:(Nv)):A4 × S:=(.exit 4,S.mk [(3,.lp 3 0),(13,.lp 13 0),(89,vL 1 (Ae (Ag (Ad s)))),(90,A6 ((Ag (Ad s)).length:Int))] [(3,[vL 1 (Ae (CS s)),vL 2 (Vr.cs (CT s)),vL 2 (Vr.cs (A8 s)),vL 10 (Bo.cs (Ak s)),A6 (AB (Ad s)),vS (An (Ad s)),vL 9 (Tp.cs (Ab (Ad s))),vL 1 (Ae (Ag (Ad s))),A6 (Af (AT (Ad s))),vS (Aj (AT (Ad s))),A6 (Bq (AT (Ad s))),vL 4 (Pr.cs (Av (AT (Ad s)))),vL 4 (Pr.cs (Aq (Ad s))),vL 4 (Pr.cs (AJ s))]),(13,vL 4 (Da.cs (AL m))::vL 3 (Cl.cs (CB m))::vL 12 (In.cs (DD m))::vL 8 (Ms.cs (B3 m))::vL 6 (Qu.cs (Ep m))::vL 25 (Df.cs (AW m))::Dy p)] e)
theorem sgC(m:Mo)(s:Df)(hs:A3 (BD m)<=1048576)(BC:(AL m).length<=1048576)(Gp:¬((A8 s).length:Int)>6)(Na:DQ m s (A8 s) 0=EO.e2)(hE:Ba (.mk [] (BQ m (A8 s)) []))(DR:∀b∈Ak s,A3 (AN (Cv b))<=100000000/\A3 (AN (EU b))<=100000000)(E9:Ah (Bo.cs (Ak s))<=10000000)(oY:Ew m s (Ak s) 0=GC.e2)(Cw:A3 (AO (Ad s))<=10000000)(hwt:Cp m (.mk [] (BQ m (A8 s)) []) (Ad s)=0)(sQ:¬((AJ s).length:Int)>6)(u:Nv)(e:Ext)(hN:List.length ((Ag (Ad s)))<=1000000000)(hv:GF (eV (BQ m (A8 s))) u 0):(Ob.loop 117 (Au f16 2) (wN m s 0 u e) (Tj m s e (Ey s ((Ag (Ad s))) 0 u)).1 (Tj m s e (Ey s ((Ag (Ad s))) 0 u)).2).ok prog:=by
 refine CL (List.length ((Ag (Ad s)))) (fun j u=>wN m s j u e) (fun i u=>Ey s (List.drop i ((Ag (Ad s)))) i u) (Tj m s e) (fun i u=>(GF (eV (BQ m (A8 s))) u i)) kR ?_ u (by first | exact hv | omega)
 rintro i u hi hv
 try simp only at hv
 rcases Nat.lt_or_ge i (List.length ((Ag (Ad s)))) with Ac | Cm
 ·have hd:=CU Ac
  by_cases h0:(i:Int)<((Ab (Ad s)).length:Int)
  ·exact lS A9 [dt ((i:Int)<((Ag (Ad s)).length:Int)),CH (Ag (Ad s)) (i:Int),DU (Ag (Ad s)) i Ac,sl (Tp.A0 (Ab (Ad s))),BL h0,DH (Ab (Ad s)) (i:Int),I5 (Ab (Ad s)) i,cl (@pwT (m) (u) (List.getD (Ag (Ad s)) i Ai) (List.getD (Ab (Ad s)) i default) (by (apply XK <;> first | assumption | omega | decide)) (by (apply A59 <;> first | assumption | omega | decide))),wr ((i:Int)+1)] [3,13,89,90,91,4] [3,13] Ac (JI u (List.getD (Ag (Ad s)) i Ai) (List.getD (Ab (Ad s)) i default)) (S.mk [(3,.lp 3 0),(13,.lp 13 0),(89,vL 1 (Ae (Ag (Ad s)))),(90,A6 ((Ag (Ad s)).length:Int)),(91,A6 ((i:Int)+1))] [(3,[vL 1 (Ae (CS s)),vL 2 (Vr.cs (CT s)),vL 2 (Vr.cs (A8 s)),vL 10 (Bo.cs (Ak s)),A6 (AB (Ad s)),vS (An (Ad s)),vL 9 (Tp.cs (Ab (Ad s))),vL 1 (Ae (Ag (Ad s))),A6 (Af (AT (Ad s))),vS (Aj (AT (Ad s))),A6 (Bq (AT (Ad s))),vL 4 (Pr.cs (Av (AT (Ad s)))),vL 4 (Pr.cs (Aq (Ad s))),vL 4 (Pr.cs (AJ s))]),(13,vL 4 (Da.cs (AL m))::vL 3 (Cl.cs (CB m))::vL 12 (In.cs (DD m))::vL 8 (Ms.cs (B3 m))::vL 6 (Qu.cs (Ep m))::vL 25 (Df.cs (AW m))::Dy (JI u (List.getD (Ag (Ad s)) i Ai) (List.getD (Ab (Ad s)) i default)))] e) ⟨⟨W,W,W,W,W,B7⟩,⟨Ws,⟨W,W,W,W,W,W,Wq,Wq,Wq,B7⟩,B7⟩,rfl⟩ (by first | assumption | omega | (apply gBo <;> first | assumption | omega | decide) | (apply gBp <;> first | assumption | omega | decide) | (apply gV7 <;> first | assumption | omega | decide) | (apply Nj <;> first | assumption | omega | decide) | (apply XK <;> first | assumption | omega | decide) | (apply A58 <;> first | assumption | omega | decide) | (apply A59 <;> first | assumption | omega | decide) | (apply GF.s <;> first | assumption | omega | decide) | (apply VY <;> first | assumption | omega | decide) | (apply gNl <;> first | assumption | omega | decide) | (simp only [List.length_append,List.length_cons,List.length_nil] at *; omega) | simp_all) (by rw [hd,Ey,iP h0])
  ·exact lN A9 [dt ((i:Int)<((Ag (Ad s)).length:Int)),CH (Ag (Ad s)) (i:Int),DU (Ag (Ad s)) i Ac,sl (Tp.A0 (Ab (Ad s))),Ar h0,wr ((i:Int)+1)] Ac (u) (by first | assumption | omega | (apply gBo <;> first | assumption | omega | decide) | (apply gBp <;> first | assumption | omega | decide) | (apply gV7 <;> first | assumption | omega | decide) | (apply Nj <;> first | assumption | omega | decide) | (apply XK <;> first | assumption | omega | decide) | (apply A58 <;> first | assumption | omega | decide) | (apply A59 <;> first | assumption | omega | decide) | (apply GF.s <;> first | assumption | omega | decide) | (apply VY <;> first | assumption | omega | decide) | (apply gNl <;> first | assumption | omega | decide) | (simp only [List.length_append,List.length_cons,List.length_nil] at *; omega) | simp_all) (by rw [hd,Ey,iN h0])
 ·have he:i=List.length ((Ag (Ad s))):=by omega
  exact lX A9 [df ((i:Int)<((Ag (Ad s)).length:Int))] (u) (by rw [he,List.drop_length,Ey])
end Go.Proofs.YthchpmnkecoafaaGreatDoor
