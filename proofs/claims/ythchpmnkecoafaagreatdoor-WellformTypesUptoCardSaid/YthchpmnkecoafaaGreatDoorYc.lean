/- Values of Go as plain data, an evaluator over them, and what the functions of the program return; part Yc. -/
import Derived.Test.YthchpmnkecoafaaGreatDoorYb
import Derived.Test.YthchpmnkecoafaaGreatDoorYa
set_option linter.unusedSectionVars false
set_option linter.unusedSimpArgs false
set_option linter.unusedVariables false
namespace Go.Proofs.YthchpmnkecoafaaGreatDoor
open Go.Proofs.Tryz
open Go.Pv Go.Proofs.Tryz
set_option maxRecDepth 100000
def Ck(b:Bool):Int:=if b=true then 0 else 3
theorem Aaf(b:Bool):Pu 222 [.bool b] (.ret (.int .i64 (Ck b))):=by
 cases b with
 | true=>exact pm Ad [bt true] func222
 | false=>exact pm Ad [bf false] func222
theorem A29(s:BA):Pu 172 [.str s] (rI (Ck (AR s))):=
 pm Ad [cl (@M3 (s)),cl (@Aaf (AR s))] func172
abbrev iH:BA:=⟨#[73,110,116]⟩
abbrev Uv:BA:=⟨#[66,111,111,108]⟩
abbrev Uw:BA:=⟨#[67,101,108,108]⟩
abbrev Z8:BA:=⟨#[70,117,110]⟩
def AZ(s:BA):Bool:=DA s&&Fp (s.data.toList.getD 0 default).toNat&&s.data.toList.all Jn && !decide (s=iH) && !decide (s=Uv) && !decide (s=Uw) && !decide (s=Z8)
theorem Ju{s:BA}(h:DA s=true):s.size<=1000000000:=by
 simp only [DA,Bool.and_eq_true,decide_eq_true_eq] at h; omega
section
variable (s:BA) (F6:DA s=true)
include s F6
theorem Aag(Gd:Fp (s.data.toList.getD 0 default).toNat=false):Pu 134 [.str s] (rB false):=
 pm Ad [cl (@HA (s)),rp 2 (bf (!DA s) (AJ F6)),am ((0:Int)<=0/\0<(↑(ByteArray.size s):Int)) (by (apply H6 <;> first | assumption | omega | decide)),av (.v (.int .u8 (↑(UInt8.toNat (List.getD (Array.toList (ByteArray.data s)) (Int.toNat 0) default)):Int))) (.v (.int .u8 (↑(UInt8.toNat (List.getD (Array.toList (ByteArray.data s)) 0 default)):Int))) rF,bf (!DA s) (AJ F6),cl (@Qo ((↑(UInt8.toNat (List.getD (Array.toList (ByteArray.data s)) 0 default)):Int))),rp 2 (bf (!DA s) (AJ F6)),rp 4 (bt (!Fp (↑(UInt8.toNat (List.getD (Array.toList (ByteArray.data s)) 0 default)):Int)) (B6 Gd)),bt true] func134
theorem Aah(Gd:Fp (s.data.toList.getD 0 default).toNat=true)(Jt:s.data.toList.all Jn=false):Pu 134 [.str s] (rB false):=
 pm Ad [cl (@HA (s)),rp 2 (bf (!DA s) (AJ F6)),am ((0:Int)<=0/\0<(↑(ByteArray.size s):Int)) (by (apply H6 <;> first | assumption | omega | decide)),av (.v (.int .u8 (↑(UInt8.toNat (List.getD (Array.toList (ByteArray.data s)) (Int.toNat 0) default)):Int))) (.v (.int .u8 (↑(UInt8.toNat (List.getD (Array.toList (ByteArray.data s)) 0 default)):Int))) rF,bf (!DA s) (AJ F6),cl (@Qo ((↑(UInt8.toNat (List.getD (Array.toList (ByteArray.data s)) 0 default)):Int))),rp 2 (bf (!DA s) (AJ F6)),rp 2 (bf (!Fp (↑(UInt8.toNat (List.getD (Array.toList (ByteArray.data s)) 0 default)):Int)) (AJ Gd)),cl (@Nf (s) (by (apply Ju <;> first | assumption | omega | decide))),rp 2 (bf (!Fp (↑(UInt8.toNat (List.getD (Array.toList (ByteArray.data s)) 0 default)):Int)) (AJ Gd)),bt (!List.all (Array.toList (ByteArray.data s)) Jn) (B6 Jt)] func134
theorem s7(Gd:Fp (s.data.toList.getD 0 default).toNat=true)(Jt:s.data.toList.all Jn=true)(Ac:¬s=ByteArray.mk #[73,110,116])(Ae:¬s=ByteArray.mk #[66,111,111,108])(Ao:¬s=ByteArray.mk #[67,101,108,108]):Pu 134 [.str s] (rB !ByteArray.toList s==ByteArray.toList (ByteArray.mk #[70,117,110])):=
 pm Ad [cl (@HA (s)),rp 2 (bf (!DA s) (AJ F6)),am ((0:Int)<=0/\0<(↑(ByteArray.size s):Int)) (by (apply H6 <;> first | assumption | omega | decide)),av (.v (.int .u8 (↑(UInt8.toNat (List.getD (Array.toList (ByteArray.data s)) (Int.toNat 0) default)):Int))) (.v (.int .u8 (↑(UInt8.toNat (List.getD (Array.toList (ByteArray.data s)) 0 default)):Int))) rF,bf (!DA s) (AJ F6),cl (@Qo ((↑(UInt8.toNat (List.getD (Array.toList (ByteArray.data s)) 0 default)):Int))),rp 2 (bf (!DA s) (AJ F6)),rp 2 (bf (!Fp (↑(UInt8.toNat (List.getD (Array.toList (ByteArray.data s)) 0 default)):Int)) (AJ Gd)),cl (@Nf (s) (by (apply Ju <;> first | assumption | omega | decide))),rp 2 (bf (!Fp (↑(UInt8.toNat (List.getD (Array.toList (ByteArray.data s)) 0 default)):Int)) (AJ Gd)),bf (!List.all (Array.toList (ByteArray.data s)) Jn) (AJ Jt),rp 3 (bt (!ByteArray.toList s==ByteArray.toList (ByteArray.mk #[73,110,116])) (B6 (BZ Ac))),rp 3 (bt (!ByteArray.toList s==ByteArray.toList (ByteArray.mk #[66,111,111,108])) (B6 (BZ Ae))),rp 3 (bt (!ByteArray.toList s==ByteArray.toList (ByteArray.mk #[67,101,108,108])) (B6 (BZ Ao)))] func134
theorem s8(Gd:Fp (s.data.toList.getD 0 default).toNat=true)(Jt:s.data.toList.all Jn=true)(Ac:¬s=ByteArray.mk #[73,110,116])(Ae:¬s=ByteArray.mk #[66,111,111,108])(Ao:s=ByteArray.mk #[67,101,108,108]):Pu 134 [.str s] (rB false):=
 pm Ad [cl (@HA (s)),rp 2 (bf (!DA s) (AJ F6)),am ((0:Int)<=0/\0<(↑(ByteArray.size s):Int)) (by (apply H6 <;> first | assumption | omega | decide)),av (.v (.int .u8 (↑(UInt8.toNat (List.getD (Array.toList (ByteArray.data s)) (Int.toNat 0) default)):Int))) (.v (.int .u8 (↑(UInt8.toNat (List.getD (Array.toList (ByteArray.data s)) 0 default)):Int))) rF,bf (!DA s) (AJ F6),cl (@Qo ((↑(UInt8.toNat (List.getD (Array.toList (ByteArray.data s)) 0 default)):Int))),rp 2 (bf (!DA s) (AJ F6)),rp 2 (bf (!Fp (↑(UInt8.toNat (List.getD (Array.toList (ByteArray.data s)) 0 default)):Int)) (AJ Gd)),cl (@Nf (s) (by (apply Ju <;> first | assumption | omega | decide))),rp 2 (bf (!Fp (↑(UInt8.toNat (List.getD (Array.toList (ByteArray.data s)) 0 default)):Int)) (AJ Gd)),bf (!List.all (Array.toList (ByteArray.data s)) Jn) (AJ Jt),rp 3 (bt (!ByteArray.toList s==ByteArray.toList (ByteArray.mk #[73,110,116])) (B6 (BZ Ac))),rp 3 (bt (!ByteArray.toList s==ByteArray.toList (ByteArray.mk #[66,111,111,108])) (B6 (BZ Ae))),rp 3 (bf (!ByteArray.toList s==ByteArray.toList (ByteArray.mk #[67,101,108,108])) (AJ (BL Ao)))] func134
theorem s9(Gd:Fp (s.data.toList.getD 0 default).toNat=true)(Jt:s.data.toList.all Jn=true)(Ac:¬s=ByteArray.mk #[73,110,116])(Ae:s=ByteArray.mk #[66,111,111,108]):Pu 134 [.str s] (rB false):=
 pm Ad [cl (@HA (s)),rp 2 (bf (!DA s) (AJ F6)),am ((0:Int)<=0/\0<(↑(ByteArray.size s):Int)) (by (apply H6 <;> first | assumption | omega | decide)),av (.v (.int .u8 (↑(UInt8.toNat (List.getD (Array.toList (ByteArray.data s)) (Int.toNat 0) default)):Int))) (.v (.int .u8 (↑(UInt8.toNat (List.getD (Array.toList (ByteArray.data s)) 0 default)):Int))) rF,bf (!DA s) (AJ F6),cl (@Qo ((↑(UInt8.toNat (List.getD (Array.toList (ByteArray.data s)) 0 default)):Int))),rp 2 (bf (!DA s) (AJ F6)),rp 2 (bf (!Fp (↑(UInt8.toNat (List.getD (Array.toList (ByteArray.data s)) 0 default)):Int)) (AJ Gd)),cl (@Nf (s) (by (apply Ju <;> first | assumption | omega | decide))),rp 2 (bf (!Fp (↑(UInt8.toNat (List.getD (Array.toList (ByteArray.data s)) 0 default)):Int)) (AJ Gd)),bf (!List.all (Array.toList (ByteArray.data s)) Jn) (AJ Jt),rp 3 (bt (!ByteArray.toList s==ByteArray.toList (ByteArray.mk #[73,110,116])) (B6 (BZ Ac))),rp 3 (bf (!ByteArray.toList s==ByteArray.toList (ByteArray.mk #[66,111,111,108])) (AJ (BL Ae))),rp 3 (bf false)] func134
theorem sB(Gd:Fp (s.data.toList.getD 0 default).toNat=true)(Jt:s.data.toList.all Jn=true)(Ac:s=ByteArray.mk #[73,110,116]):Pu 134 [.str s] (rB false):=
 pm Ad [cl (@HA (s)),rp 2 (bf (!DA s) (AJ F6)),am ((0:Int)<=0/\0<(↑(ByteArray.size s):Int)) (by (apply H6 <;> first | assumption | omega | decide)),av (.v (.int .u8 (↑(UInt8.toNat (List.getD (Array.toList (ByteArray.data s)) (Int.toNat 0) default)):Int))) (.v (.int .u8 (↑(UInt8.toNat (List.getD (Array.toList (ByteArray.data s)) 0 default)):Int))) rF,bf (!DA s) (AJ F6),cl (@Qo ((↑(UInt8.toNat (List.getD (Array.toList (ByteArray.data s)) 0 default)):Int))),rp 2 (bf (!DA s) (AJ F6)),rp 2 (bf (!Fp (↑(UInt8.toNat (List.getD (Array.toList (ByteArray.data s)) 0 default)):Int)) (AJ Gd)),cl (@Nf (s) (by (apply Ju <;> first | assumption | omega | decide))),rp 2 (bf (!Fp (↑(UInt8.toNat (List.getD (Array.toList (ByteArray.data s)) 0 default)):Int)) (AJ Gd)),bf (!List.all (Array.toList (ByteArray.data s)) Jn) (AJ Jt),rp 3 (bf (!ByteArray.toList s==ByteArray.toList (ByteArray.mk #[73,110,116])) (AJ (BL Ac))),rp 6 (bf false)] func134
end
theorem bcA{s:BA}{i:Nat}(h:i<List.length (s.data.toList)):(0:Int)<=((0:Nat):Int)/\((0:Nat):Int)<=(i:Int)/\(i:Int)<=(s.size:Int):=by
 have:=KY h; omega
theorem bcB{s:BA}{i:Nat}(h:i<List.length (s.data.toList)):(0:Int)<=(i:Int)+1/\(i:Int)+1<=(s.size:Int)/\(s.size:Int)<=(s.size:Int):=by
 have:=KY h; omega
def Ux:List UInt8->Nat
 | []=>0
 | c::r=>if ((c.toNat:Nat):Int)=46 then 0 else Ux r+1
abbrev Uy(s:BA)(j:Int)(e:Ext):S:=S.mk [(0,vS s),(2,vS Ah),(3,vS Ah),(4,.v (.bool false)),(5,A1 j)] [] e
inductive Gr where
 | e0 (i:Nat)
 | e1
def FY  : List UInt8->Nat->Gr
 | [],i=>(Gr.e1)
 | el::r,i=>(if (↑(UInt8.toNat el):Int)=46 then (Gr.e0 i) else FY  r (i+1))
def Nj(s:BA)(e:Ext):Gr->A5 × S
 | .e0 i=>(.ret,S.mk [(0,vS s),(2,vS (ByteArray.extract s 0 i)),(3,vS (ByteArray.extract s (i+1) (ByteArray.size s))),(4,.v (.bool true))] [] e)
 | .e1=>(.exit 0,S.mk [(0,vS s),(2,vS Ah),(3,vS Ah),(4,.v (.bool false))] [] e)
theorem Z9(s:BA)(e:Ext)(hN:List.length ((s.data.toList))<=1000000000):(Ob.loop 24 (Ai f132 0) (Uy s 0  e) (Nj s e (FY  (List.drop 0 ((s.data.toList))) 0)).1 (Nj s e (FY  (List.drop 0 ((s.data.toList))) 0)).2).ok prog:=by
 refine Ds (List.length ((s.data.toList))) (fun j _=>Uy s j  e) (fun i _=>FY  (List.drop i ((s.data.toList))) i) (Nj s e) (fun i _=>True) kR ?_ () trivial
 rintro i u hi -
 rcases Nat.lt_or_ge i (List.length ((s.data.toList))) with Ag | CO
 ·have hd:=AH Ag
  by_cases h0:(↑(UInt8.toNat (List.getD (Array.toList (ByteArray.data s)) i default)):Int)=46
  ·exact lX Ad [kp,dt ((i:Int)<(↑(ByteArray.size s):Int)) (by (apply KY <;> first | assumption | omega | decide)),am ((0:Int)<=(i:Int)/\(i:Int)<(↑(ByteArray.size s):Int)) (by simp_all [D2]),av (.v (.int .u8 (↑(UInt8.toNat (List.getD (Array.toList (ByteArray.data s)) (Int.toNat (i:Int)) default)):Int))) (.v (.int .u8 (↑(UInt8.toNat (List.getD (Array.toList (ByteArray.data s)) i default)):Int))) rF,Bh h0,am ((0:Int)<=(0:Int)/\(0:Int)<=(i:Int)/\(i:Int)<=(↑(ByteArray.size s):Int)) (by (apply bcA <;> first | assumption | omega | decide)),av (vS (ByteArray.extract s (Int.toNat (0:Int)) (Int.toNat (i:Int)))) (vS (ByteArray.extract s 0 i)) rF,wr ((i:Int)+1),am ((0:Int)<=(i:Int)+1/\(i:Int)+1<=(↑(ByteArray.size s):Int)/\(↑(ByteArray.size s):Int)<=(↑(ByteArray.size s):Int)) (by (apply bcB <;> first | assumption | omega | decide)),av (vS (ByteArray.extract s (Int.toNat ((i:Int)+1)) (Int.toNat (↑(ByteArray.size s):Int)))) (vS (ByteArray.extract s (i+1) (ByteArray.size s))) rF] (Gr.e0 i) (by rw [hd,FY,iP h0])
  ·exact lN Ad [kp,dt ((i:Int)<(↑(ByteArray.size s):Int)) (by (apply KY <;> first | assumption | omega | decide)),am ((0:Int)<=(i:Int)/\(i:Int)<(↑(ByteArray.size s):Int)) (by simp_all [D2]),av (.v (.int .u8 (↑(UInt8.toNat (List.getD (Array.toList (ByteArray.data s)) (Int.toNat (i:Int)) default)):Int))) (.v (.int .u8 (↑(UInt8.toNat (List.getD (Array.toList (ByteArray.data s)) i default)):Int))) rF,Aw h0,wr ((i:Int)+1)] Ag () trivial (by rw [hd,FY,iN h0])
 ·have he:i=List.length ((s.data.toList)):=by omega
  exact lX Ad [kp,df ((i:Int)<(↑(ByteArray.size s):Int)) (by (apply fA <;> first | assumption | omega | decide))] (Gr.e1) (by rw [he,List.drop_length,FY])
theorem A2a(s:BA)(e:Ext)(hN:List.length ((s.data.toList))<=1000000000)(p0:Nat)(At:(FY  ((s.data.toList)) 0)=(Gr.e0 p0)):(Ob.loop 24 (Ai f132 0) (Uy s 0  e) (Nj s e (Gr.e0 p0)).1 (Nj s e (Gr.e0 p0)).2).ok prog:=
 rz (Z9 s e hN) At
theorem A2b(s:BA)(e:Ext)(hN:List.length ((s.data.toList))<=1000000000)(At:(FY  ((s.data.toList)) 0)=(Gr.e1)):(Ob.loop 24 (Ai f132 0) (Uy s 0  e) (Nj s e (Gr.e1)).1 (Nj s e (Gr.e1)).2).ok prog:=
 rz (Z9 s e hN) At
theorem sC(s:BA)(hs:s.size<=1000000000)(Dc:Nat)(Ae:FY (Array.toList (ByteArray.data s)) 0=Gr.e0 Dc):Pu 132 [.str s] (.ret (.AE [.str (ByteArray.extract s 0 Dc),.str (ByteArray.extract s (Dc+1) (ByteArray.size s)),.bool true])):=
 pu Ad (fun e=>[lp (S.mk [(0,vS s),(2,vS Ah),(3,vS Ah),(4,.v (.bool false)),(5,A1 0)] [] e) (@A2a (s) (e) (by (apply Hz <;> first | assumption | omega | decide)) Dc Ae) ⟨⟨W,Wq,Wq,W,W,An⟩,trivial,rfl⟩]) func132
theorem sE(s:BA)(hs:s.size<=1000000000)(Ac:FY (Array.toList (ByteArray.data s)) 0=Gr.e1):Pu 132 [.str s] (.ret (.AE [.str s,.str Ah,.bool false])):=
 pu Ad (fun e=>[lp (S.mk [(0,vS s),(2,vS Ah),(3,vS Ah),(4,.v (.bool false)),(5,A1 0)] [] e) (@A2b (s) (e) (by (apply Hz <;> first | assumption | omega | decide)) Ac) ⟨⟨W,Wq,Wq,W,W,An⟩,trivial,rfl⟩]) func132
theorem RV(s:BA):Pu 134 [.str s] (.ret (.bool (AZ s))):=by
 unfold AZ
 cases F6:DA s with
 | false=>exact pm Ad [cl (@HA (s)),rp 5 (bt (!DA s) (B6 F6)),rp 5 (bt true)] func134
 | true=>
  cases Gd:Fp (s.data.toList.getD 0 default).toNat with
  | false=>exact Aag s F6 Gd
  | true=>
   cases Jt:s.data.toList.all Jn with
   | false=>exact Aah s F6 Gd Jt
   | true=>
    simp only [Bool.true_and]
    by_cases h1:s=iH
    ·rw [decide_eq_true h1]; simpa using sB s F6 Gd Jt h1
    ·by_cases h2:s=Uv
     ·rw [decide_eq_true h2]; simpa using s9 s F6 Gd Jt h1 h2
     ·by_cases h3:s=Uw
      ·rw [decide_eq_true h3]; simpa using s8 s F6 Gd Jt h1 h2 h3
      ·have e:(!decide (s=iH) && !decide (s=Uv) && !decide (s=Uw) && !decide (s=Z8)) = !(ByteArray.toList s==ByteArray.toList Z8):=by
        rw [decide_eq_false h1,decide_eq_false h2,decide_eq_false h3]
        by_cases h4:s=Z8
        ·rw [decide_eq_true h4,BL h4]; rfl
        ·rw [decide_eq_false h4,BZ h4]; rfl
       rw [e]
       exact s7 s F6 Gd Jt h1 h2 h3
theorem Za:∀ (l:List UInt8) (k:Nat),FY l k=if Ux l<l.length then .e0 (k+Ux l) else .e1
 | [],k=>by simp [FY,Ux]
 | c::r,k=>by
  by_cases h:((c.toNat:Nat):Int)=46
  ·simp [FY,Ux,h]
  ·simp only [FY,Ux,h,if_false,Za r (k+1),List.length_cons]
   by_cases h2:Ux r<r.length
   ·rw [iP h2,iP oM]; congr 1; omega
   ·rw [iN h2,iN oM]
abbrev B8(s:BA):Nat:=Ux s.data.toList
theorem Nk(s:BA)(hs:s.size<=1000000000)(hx:B8 s<s.size):Pu 132 [.str s] (.ret (.AE [.str (s.extract 0 (B8 s)),.str (s.extract (B8 s+1) s.size),.bool true])):=
 sC s hs _ (by rw [Za,iP (by simpa using hx),Nat.zero_add])
theorem RW(s:BA)(hs:s.size<=1000000000)(hx:¬B8 s<s.size):Pu 132 [.str s] (.ret (.AE [.str s,.str Ah,.bool false])):=
 sE s hs (by rw [Za,iN (by simpa using hx)])
def CW(s:BA):Bool:=DA s&&(s.data.toList.all Jn||FX s.data.toList)
abbrev Wx(first rest:BA)(more:Bool)(xe:Ext):S:=⟨[(2,.v (.int .i64 0)),(4,.v (.str rest)),(5,.v (.bool more))],[],xe⟩
section
variable (rest:BA) (xe:Ext)
include rest xe
theorem coZ(cx:Cx)(Ar:cx.n=52){Q:A5->S->Prop}(hq:Q (.exit 0) (S.mk [(2,A1 0),(4,vS rest),(5,.v (.bool false))] [] xe)):PW prog cx (Ai f85 0) (Wx rest rest false xe) Q:=
 pw Ad 52 [bf false] [2,4,5] [] Ar hq
theorem A2c(hs:rest.size<=1000000000)(hx:B8 rest<rest.size)(Ac:DA (ByteArray.extract rest 0 (B8 rest))=false)(cx:Cx)(Ar:cx.n=52){Q:A5->S->Prop}(hq:Q (.ret) (S.mk [(2,A1 3),(4,vS (ByteArray.extract rest (B8 rest+1) (ByteArray.size rest))),(5,.v (.bool true))] [] xe)):PW prog cx (Ai f85 0) (Wx rest rest true xe) Q:=
 pw Ad 52 [bt true,cl (@Nk (rest) hs hx),cl (@HA (ByteArray.extract rest 0 (B8 rest))),rp 6 (B2 (B6 Ac)),bt true] [2,4,5] [] Ar hq
theorem A2d(hs:rest.size<=1000000000)(hx:B8 rest<rest.size)(Ac:DA (ByteArray.extract rest 0 (B8 rest))=true)(Ae:List.all (Array.toList (ByteArray.data (ByteArray.extract rest 0 (B8 rest)))) Jn=false)(Ao:FX (Array.toList (ByteArray.data (ByteArray.extract rest 0 (B8 rest))))=false)(cx:Cx)(Ar:cx.n=52){Q:A5->S->Prop}(hq:Q (.ret) (S.mk [(2,A1 3),(4,vS (ByteArray.extract rest (B8 rest+1) (ByteArray.size rest))),(5,.v (.bool true))] [] xe)):PW prog cx (Ai f85 0) (Wx rest rest true xe) Q:=
 pw Ad 52 [bt true,cl (@Nk (rest) hs hx),cl (@HA (ByteArray.extract rest 0 (B8 rest))),rp 2 (AQ (AJ Ac)),cl (@Nf (ByteArray.extract rest 0 (B8 rest)) (by (apply Ju <;> first | assumption | omega | decide))),rp 2 (AQ (AJ Ac)),rp 2 (B2 (B6 Ae)),cl (@iF (ByteArray.extract rest 0 (B8 rest)) (by (apply Ju <;> first | assumption | omega | decide))),B2 (B6 Ae),AQ (AJ Ac),B2 (B6 Ae),AQ (AJ Ac),B2 (B6 Ao)] [2,4,5] [] Ar hq
theorem A2e(hs:rest.size<=1000000000)(hx:B8 rest<rest.size)(Ac:DA (ByteArray.extract rest 0 (B8 rest))=true)(Ae:List.all (Array.toList (ByteArray.data (ByteArray.extract rest 0 (B8 rest)))) Jn=false)(Ao:FX (Array.toList (ByteArray.data (ByteArray.extract rest 0 (B8 rest))))=true)(cx:Cx)(Ar:cx.n=52){Q:A5->S->Prop}(hq:Q (.normal) (S.mk [(2,A1 0),(4,vS (ByteArray.extract rest (B8 rest+1) (ByteArray.size rest))),(5,.v (.bool true))] [] xe)):PW prog cx (Ai f85 0) (Wx rest rest true xe) Q:=
 pw Ad 52 [bt true,cl (@Nk (rest) hs hx),cl (@HA (ByteArray.extract rest 0 (B8 rest))),rp 2 (AQ (AJ Ac)),cl (@Nf (ByteArray.extract rest 0 (B8 rest)) (by (apply Ju <;> first | assumption | omega | decide))),rp 2 (AQ (AJ Ac)),rp 2 (B2 (B6 Ae)),cl (@iF (ByteArray.extract rest 0 (B8 rest)) (by (apply Ju <;> first | assumption | omega | decide))),B2 (B6 Ae),AQ (AJ Ac),B2 (B6 Ae),AQ (AJ Ac),AQ (AJ Ao)] [2,4,5] [] Ar hq
theorem A2f(hs:rest.size<=1000000000)(hx:B8 rest<rest.size)(Ac:DA (ByteArray.extract rest 0 (B8 rest))=true)(Ae:List.all (Array.toList (ByteArray.data (ByteArray.extract rest 0 (B8 rest)))) Jn=true)(cx:Cx)(Ar:cx.n=52){Q:A5->S->Prop}(hq:Q (.normal) (S.mk [(2,A1 0),(4,vS (ByteArray.extract rest (B8 rest+1) (ByteArray.size rest))),(5,.v (.bool true))] [] xe)):PW prog cx (Ai f85 0) (Wx rest rest true xe) Q:=
 pw Ad 52 [bt true,cl (@Nk (rest) hs hx),cl (@HA (ByteArray.extract rest 0 (B8 rest))),rp 2 (AQ (AJ Ac)),cl (@Nf (ByteArray.extract rest 0 (B8 rest)) (by (apply Ju <;> first | assumption | omega | decide))),rp 2 (AQ (AJ Ac)),rp 3 (AQ (AJ Ae)),AQ (AJ Ac),AQ (AJ Ae),AQ (AJ Ac),bf false] [2,4,5] [] Ar hq
theorem A2g(hs:rest.size<=1000000000)(hx:¬B8 rest<rest.size)(Ac:DA rest=false)(cx:Cx)(Ar:cx.n=52){Q:A5->S->Prop}(hq:Q (.ret) (S.mk [(2,A1 3),(4,vS Ah),(5,.v (.bool false))] [] xe)):PW prog cx (Ai f85 0) (Wx rest rest true xe) Q:=
 pw Ad 52 [bt true,cl (@RW (rest) hs hx),cl (@HA (rest)),rp 6 (B2 (B6 Ac)),bt true] [2,4,5] [] Ar hq
theorem A2h(hs:rest.size<=1000000000)(hx:¬B8 rest<rest.size)(Ac:DA rest=true)(Ae:List.all (Array.toList (ByteArray.data rest)) Jn=false)(Ao:FX (Array.toList (ByteArray.data rest))=false)(cx:Cx)(Ar:cx.n=52){Q:A5->S->Prop}(hq:Q (.ret) (S.mk [(2,A1 3),(4,vS Ah),(5,.v (.bool false))] [] xe)):PW prog cx (Ai f85 0) (Wx rest rest true xe) Q:=
 pw Ad 52 [bt true,cl (@RW (rest) hs hx),cl (@HA (rest)),rp 2 (AQ (AJ Ac)),cl (@Nf (rest) hs),rp 2 (AQ (AJ Ac)),rp 2 (B2 (B6 Ae)),cl (@iF (rest) hs),B2 (B6 Ae),AQ (AJ Ac),B2 (B6 Ae),AQ (AJ Ac),B2 (B6 Ao)] [2,4,5] [] Ar hq
theorem A2i(hs:rest.size<=1000000000)(hx:¬B8 rest<rest.size)(Ac:DA rest=true)(Ae:List.all (Array.toList (ByteArray.data rest)) Jn=false)(Ao:FX (Array.toList (ByteArray.data rest))=true)(cx:Cx)(Ar:cx.n=52){Q:A5->S->Prop}(hq:Q (.normal) (S.mk [(2,A1 0),(4,vS Ah),(5,.v (.bool false))] [] xe)):PW prog cx (Ai f85 0) (Wx rest rest true xe) Q:=
 pw Ad 52 [bt true,cl (@RW (rest) hs hx),cl (@HA (rest)),rp 2 (AQ (AJ Ac)),cl (@Nf (rest) hs),rp 2 (AQ (AJ Ac)),rp 2 (B2 (B6 Ae)),cl (@iF (rest) hs),B2 (B6 Ae),AQ (AJ Ac),B2 (B6 Ae),AQ (AJ Ac),AQ (AJ Ao)] [2,4,5] [] Ar hq
theorem A2j(hs:rest.size<=1000000000)(hx:¬B8 rest<rest.size)(Ac:DA rest=true)(Ae:List.all (Array.toList (ByteArray.data rest)) Jn=true)(cx:Cx)(Ar:cx.n=52){Q:A5->S->Prop}(hq:Q (.normal) (S.mk [(2,A1 0),(4,vS Ah),(5,.v (.bool false))] [] xe)):PW prog cx (Ai f85 0) (Wx rest rest true xe) Q:=
 pw Ad 52 [bt true,cl (@RW (rest) hs hx),cl (@HA (rest)),rp 2 (AQ (AJ Ac)),cl (@Nf (rest) hs),rp 2 (AQ (AJ Ac)),rp 3 (AQ (AJ Ae)),AQ (AJ Ac),AQ (AJ Ae),AQ (AJ Ac),bf false] [2,4,5] [] Ar hq
end
def coR:Nat->BA->Bool
 | 0,_=>true
 | n+1,s=>if B8 s<s.size then CW (s.extract 0 (B8 s))&&coR n (s.extract (B8 s+1) s.size) else CW s
theorem JZ(s:BA)(h:B8 s<s.size):(s.extract (B8 s+1) s.size).size<s.size:=by rw [ByteArray.size_extract]; omega
theorem RX:∀ (n m:Nat) (s:BA),s.size<n->s.size<m->coR n s=coR m s
 | 0,_,_,h,_=>by omega
 | _+1,0,_,_,h=>by omega
 | n+1,m+1,s,h,k=>by
  simp only [coR]
  by_cases hx:B8 s<s.size
  ·have:=JZ s hx
   rw [iP hx,iP hx,RX n m _ oM oM]
  ·rw [iN hx,iN hx]
def Nl(s:BA):Bool:=coR (s.size+1) s
theorem Tn(s:BA):Nl s=if B8 s<s.size then CW (s.extract 0 (B8 s))&&Nl (s.extract (B8 s+1) s.size) else CW s:=by
 unfold Nl
 rw [coR]
 by_cases hx:B8 s<s.size
 ·have:=JZ s hx
  rw [iP hx,iP hx,RX _ ((s.extract (B8 s+1) s.size).size+1) _ oM oM]
 ·rw [iN hx,iN hx]
def fB(xe:Ext)(b:Bool):A5 × S:=if b=true then (.exit 0,⟨[(2,.v (.int .i64 0))],[],xe⟩) else (.ret,⟨[(2,.v (.int .i64 3))],[],xe⟩)
def OB(x:BA × Bool):Bool:=if x.2=true then Nl x.1 else true
theorem lR(xe:Ext)(rest:BA)(more:Bool)(hs:rest.size<=1000000000):(Ob.loop 52 (Ai f85 0) (Wx rest rest more xe) (fB xe (OB (rest,more))).1 (fB xe (OB (rest,more))).2).ok prog:=by
 refine Ob.Jg (P:=prog) (α:={ x:BA × Bool // x.1.size<=1000000000 }) (fun x=>Wx x.1.1 x.1.1 x.1.2 xe) (fun x=>if x.1.2=true then x.1.1.size+1 else 0) (fun x=>fB xe (OB x.1)) ?_ ⟨(rest,more),hs⟩
 clear hs more rest
 rintro ⟨⟨rest,more⟩,hs⟩ cx Ar
 replace hs:rest.size<=1000000000:=hs
 have W1:∀ (r:BA) (b:Bool),Rq (⟨[(2,.v (.int .i64 3))],[],xe⟩:S) ⟨[(2,.v (.int .i64 3)),(4,.v (.str r)),(5,.v (.bool b))],[],xe⟩:=fun r b=>⟨⟨W,An⟩,trivial,rfl⟩
 cases more with
 | false=>
  have hr:fB xe (OB (rest,false))=(.exit 0,⟨[(2,.v (.int .i64 0))],[],xe⟩):=rfl
  refine coZ rest xe cx Ar (.inr ?_)
  simp only
  rw [hr]
  exact ⟨by simp,rfl,xr⟩
 | true=>
  have hm:OB (rest,true)=Nl rest:=rfl
  by_cases hx:B8 rest<rest.size
  ·have Ag:=JZ rest hx
   have hg:=Tn rest
   rw [iP hx] at hg
   have bad:CW (rest.extract 0 (B8 rest))=false->fB xe (OB (rest,true))=(.ret,⟨[(2,.v (.int .i64 3))],[],xe⟩):=fun h=>by rw [hm,hg,h]; rfl
   have Zb:CW (rest.extract 0 (B8 rest))=true->fB xe (OB (rest,true))=fB xe (OB (rest.extract (B8 rest+1) rest.size,true)):=fun h=>by rw [hm,hg,h]; rfl
   cases h0:DA (rest.extract 0 (B8 rest)) with
   | false=>
    refine A2c rest xe hs hx h0 cx Ar (.inr ?_)
    simp only
    rw [bad (by simp [CW,h0])]
    exact ⟨by simp,rfl,W1 _ _⟩
   | true=>
    cases h1:(rest.extract 0 (B8 rest)).data.toList.all Jn with
    | true=>exact A2f rest xe hs hx h0 h1 cx Ar (.inl ⟨rfl,⟨(rest.extract (B8 rest+1) rest.size,true),by simp only; omega⟩,by simp only [if_true]; omega,⟨⟨W,W,W,An⟩,trivial,rfl⟩,(Zb (by simp only [CW,h0,h1]; rfl)).symm⟩)
    | false=>
     cases h2:FX (rest.extract 0 (B8 rest)).data.toList with
     | true=>exact A2e rest xe hs hx h0 h1 h2 cx Ar (.inl ⟨rfl,⟨(rest.extract (B8 rest+1) rest.size,true),by simp only; omega⟩,by simp only [if_true]; omega,⟨⟨W,W,W,An⟩,trivial,rfl⟩,(Zb (by simp only [CW,h0,h1,h2]; rfl)).symm⟩)
     | false=>
      refine A2d rest xe hs hx h0 h1 h2 cx Ar (.inr ?_)
      simp only
      rw [bad (by simp only [CW,h0,h1,h2]; rfl)]
      exact ⟨by simp,rfl,W1 _ _⟩
  ·have hg:=Tn rest
   rw [iN hx] at hg
   have bad:CW rest=false->fB xe (OB (rest,true))=(.ret,⟨[(2,.v (.int .i64 3))],[],xe⟩):=fun h=>by rw [hm,hg,h]; rfl
   have Zb:CW rest=true->fB xe (OB (rest,true))=fB xe (OB (Ah,false)):=fun h=>by rw [hm,hg,h]; rfl
   cases h0:DA rest with
   | false=>
    refine A2g rest xe hs hx h0 cx Ar (.inr ?_)
    simp only
    rw [bad (by simp [CW,h0])]
    exact ⟨by simp,rfl,W1 _ _⟩
   | true=>
    cases h1:rest.data.toList.all Jn with
    | true=>exact A2j rest xe hs hx h0 h1 cx Ar (.inl ⟨rfl,⟨(Ah,false),by decide⟩,by simp,⟨⟨W,W,W,An⟩,trivial,rfl⟩,(Zb (by simp only [CW,h0,h1]; rfl)).symm⟩)
    | false=>
     cases h2:FX rest.data.toList with
     | true=>exact A2i rest xe hs hx h0 h1 h2 cx Ar (.inl ⟨rfl,⟨(Ah,false),by decide⟩,by simp,⟨⟨W,W,W,An⟩,trivial,rfl⟩,(Zb (by simp only [CW,h0,h1,h2]; rfl)).symm⟩)
     | false=>
      refine A2h rest xe hs hx h0 h1 h2 cx Ar (.inr ?_)
      simp only
      rw [bad (by simp only [CW,h0,h1,h2]; rfl)]
      exact ⟨by simp,rfl,W1 _ _⟩
theorem Zc(xe:Ext)(rest:BA)(more:Bool)(hs:rest.size<=1000000000)(hb:OB (rest,more)=true):(Ob.loop 52 (Ai f85 0) (Wx rest rest more xe) (.exit 0) ⟨[(2,.v (.int .i64 0))],[],xe⟩).ok prog:=by
 have:=lR xe rest more hs
 rw [hb] at this
 exact this
theorem sF(xe:Ext)(rest:BA)(more:Bool)(hs:rest.size<=1000000000)(hb:OB (rest,more)=false):(Ob.loop 52 (Ai f85 0) (Wx rest rest more xe) .ret ⟨[(2,.v (.int .i64 3))],[],xe⟩).ok prog:=by
 have:=lR xe rest more hs
 rw [hb] at this
 exact this
theorem Pd{s:BA}{a b:Nat}(h:(s.size:Int)<=120):(s.extract a b).size<=1000000000:=by rw [ByteArray.size_extract]; omega
theorem A2k{s:BA}(h:(s.size:Int)<=120):s.size<=1000000000:=by omega
abbrev tV:BA:=⟨#[118]⟩
section
variable (s:BA)
include s
theorem Aai(hl:(s.size:Int)>120):Pu 85 [.str s] (rI 3):=
 pm Ad [kp,dt ((↑(ByteArray.size s):Int)>120) hl] func85
theorem sG(hl:(s.size:Int)<=120)(hx:B8 s<s.size)(Ac:AR (ByteArray.extract s 0 (B8 s))=false)(Ae:AZ (ByteArray.extract s 0 (B8 s))=false)(Ao:¬ByteArray.extract s 0 (B8 s)=ByteArray.mk #[118]):Pu 85 [.str s] (rI 3):=
 pm Ad [kp,df ((↑(ByteArray.size s):Int)>120),cl (@Nk (s) oM hx),cl (@M3 (ByteArray.extract s 0 (B8 s))),rp 2 (B2 (B6 Ac)),cl (@RV (ByteArray.extract s 0 (B8 s))),rp 2 (B2 (B6 Ac)),rp 3 (B2 (B6 Ae)),rp 2 (bt (!ByteArray.toList (ByteArray.extract s 0 (B8 s))==ByteArray.toList (bM 118)) (B6 (BZ Ao))),B2 (B6 Ae),bt (!ByteArray.toList (ByteArray.extract s 0 (B8 s))==ByteArray.toList (bM 118)) (B6 (BZ Ao)),B2 (B6 Ae),bt true] func85
theorem sH(hl:(s.size:Int)<=120)(hx:B8 s<s.size)(Ac:AR (ByteArray.extract s 0 (B8 s))=false)(Ae:AZ (ByteArray.extract s 0 (B8 s))=false)(Ao:ByteArray.extract s 0 (B8 s)=ByteArray.mk #[118])(AK:OB (ByteArray.extract s (B8 s+1) (ByteArray.size s),true)=true):Pu 85 [.str s] (rI 0):=
 pu Ad (fun e=>[kp,df ((↑(ByteArray.size s):Int)>120),cl (@Nk (s) oM hx),cl (@M3 (ByteArray.extract s 0 (B8 s))),rp 2 (B2 (B6 Ac)),cl (@RV (ByteArray.extract s 0 (B8 s))),rp 2 (B2 (B6 Ac)),rp 3 (B2 (B6 Ae)),rp 2 (bf (!ByteArray.toList (ByteArray.extract s 0 (B8 s))==ByteArray.toList (bM 118)) (AJ (BL Ao))),B2 (B6 Ae),bf (!ByteArray.toList (ByteArray.extract s 0 (B8 s))==ByteArray.toList (bM 118)) (AJ (BL Ao)),B2 (B6 Ae),bf false,lp (S.mk [(0,vS s),(2,A1 0),(7,vS s),(8,A1 (↑(ByteArray.size s):Int)),(9,.v (.bool (decide ((↑(ByteArray.size s):Int)>120)))),(11,vS s),(12,.v (.AE [.str (ByteArray.extract s 0 (B8 s)),.str (ByteArray.extract s (B8 s+1) (ByteArray.size s)),.bool true])),(10,.v (.AE [.str (ByteArray.extract s 0 (B8 s)),.str (ByteArray.extract s (B8 s+1) (ByteArray.size s)),.bool true])),(13,vS (ByteArray.extract s 0 (B8 s))),(14,vS (ByteArray.extract s (B8 s+1) (ByteArray.size s))),(15,.v (.bool true)),(3,vS (ByteArray.extract s 0 (B8 s))),(4,vS (ByteArray.extract s (B8 s+1) (ByteArray.size s))),(5,.v (.bool true)),(16,vS (ByteArray.extract s 0 (B8 s))),(17,.v (.bool (AR (ByteArray.extract s 0 (B8 s))))),(18,.v (.bool !AR (ByteArray.extract s 0 (B8 s)))),(19,.v (.bool !AR (ByteArray.extract s 0 (B8 s)))),(20,vS (ByteArray.extract s 0 (B8 s))),(21,.v (.bool (AZ (ByteArray.extract s 0 (B8 s))))),(22,.v (.bool !AZ (ByteArray.extract s 0 (B8 s)))),(23,.v (.bool !AZ (ByteArray.extract s 0 (B8 s)))),(24,.v (.bool !AZ (ByteArray.extract s 0 (B8 s)))),(25,vS (ByteArray.extract s 0 (B8 s))),(26,.v (.bool !ByteArray.toList (ByteArray.extract s 0 (B8 s))==ByteArray.toList (bM 118))),(27,.v (.bool !ByteArray.toList (ByteArray.extract s 0 (B8 s))==ByteArray.toList (bM 118))),(28,.v (.bool true)),(29,.v (.bool false)),(30,.v (.bool false)),(31,.v (.bool false))] [] e) (@Zc (e) (ByteArray.extract s (B8 s+1) (ByteArray.size s)) (true) (by (apply Pd <;> first | assumption | omega | decide)) AK) xr]) func85
theorem sI(hl:(s.size:Int)<=120)(hx:B8 s<s.size)(Ac:AR (ByteArray.extract s 0 (B8 s))=false)(Ae:AZ (ByteArray.extract s 0 (B8 s))=false)(Ao:ByteArray.extract s 0 (B8 s)=ByteArray.mk #[118])(AK:OB (ByteArray.extract s (B8 s+1) (ByteArray.size s),true)=false):Pu 85 [.str s] (rI 3):=
 pu Ad (fun e=>[kp,df ((↑(ByteArray.size s):Int)>120),cl (@Nk (s) oM hx),cl (@M3 (ByteArray.extract s 0 (B8 s))),rp 2 (B2 (B6 Ac)),cl (@RV (ByteArray.extract s 0 (B8 s))),rp 2 (B2 (B6 Ac)),rp 3 (B2 (B6 Ae)),rp 2 (bf (!ByteArray.toList (ByteArray.extract s 0 (B8 s))==ByteArray.toList (bM 118)) (AJ (BL Ao))),B2 (B6 Ae),bf (!ByteArray.toList (ByteArray.extract s 0 (B8 s))==ByteArray.toList (bM 118)) (AJ (BL Ao)),B2 (B6 Ae),bf false,lp (S.mk [(0,vS s),(2,A1 0),(7,vS s),(8,A1 (↑(ByteArray.size s):Int)),(9,.v (.bool (decide ((↑(ByteArray.size s):Int)>120)))),(11,vS s),(12,.v (.AE [.str (ByteArray.extract s 0 (B8 s)),.str (ByteArray.extract s (B8 s+1) (ByteArray.size s)),.bool true])),(10,.v (.AE [.str (ByteArray.extract s 0 (B8 s)),.str (ByteArray.extract s (B8 s+1) (ByteArray.size s)),.bool true])),(13,vS (ByteArray.extract s 0 (B8 s))),(14,vS (ByteArray.extract s (B8 s+1) (ByteArray.size s))),(15,.v (.bool true)),(3,vS (ByteArray.extract s 0 (B8 s))),(4,vS (ByteArray.extract s (B8 s+1) (ByteArray.size s))),(5,.v (.bool true)),(16,vS (ByteArray.extract s 0 (B8 s))),(17,.v (.bool (AR (ByteArray.extract s 0 (B8 s))))),(18,.v (.bool !AR (ByteArray.extract s 0 (B8 s)))),(19,.v (.bool !AR (ByteArray.extract s 0 (B8 s)))),(20,vS (ByteArray.extract s 0 (B8 s))),(21,.v (.bool (AZ (ByteArray.extract s 0 (B8 s))))),(22,.v (.bool !AZ (ByteArray.extract s 0 (B8 s)))),(23,.v (.bool !AZ (ByteArray.extract s 0 (B8 s)))),(24,.v (.bool !AZ (ByteArray.extract s 0 (B8 s)))),(25,vS (ByteArray.extract s 0 (B8 s))),(26,.v (.bool !ByteArray.toList (ByteArray.extract s 0 (B8 s))==ByteArray.toList (bM 118))),(27,.v (.bool !ByteArray.toList (ByteArray.extract s 0 (B8 s))==ByteArray.toList (bM 118))),(28,.v (.bool true)),(29,.v (.bool false)),(30,.v (.bool false)),(31,.v (.bool false))] [] e) (@sF (e) (ByteArray.extract s (B8 s+1) (ByteArray.size s)) (true) (by (apply Pd <;> first | assumption | omega | decide)) AK) xr]) func85
theorem sJ(hl:(s.size:Int)<=120)(hx:B8 s<s.size)(Ac:AR (ByteArray.extract s 0 (B8 s))=false)(Ae:AZ (ByteArray.extract s 0 (B8 s))=true)(Ao:OB (ByteArray.extract s (B8 s+1) (ByteArray.size s),true)=true):Pu 85 [.str s] (rI 0):=
 pu Ad (fun e=>[kp,df ((↑(ByteArray.size s):Int)>120),cl (@Nk (s) oM hx),cl (@M3 (ByteArray.extract s 0 (B8 s))),rp 2 (B2 (B6 Ac)),cl (@RV (ByteArray.extract s 0 (B8 s))),rp 2 (B2 (B6 Ac)),rp 5 (AQ (AJ Ae)),bf false,lp (S.mk [(0,vS s),(2,A1 0),(7,vS s),(8,A1 (↑(ByteArray.size s):Int)),(9,.v (.bool (decide ((↑(ByteArray.size s):Int)>120)))),(11,vS s),(12,.v (.AE [.str (ByteArray.extract s 0 (B8 s)),.str (ByteArray.extract s (B8 s+1) (ByteArray.size s)),.bool true])),(10,.v (.AE [.str (ByteArray.extract s 0 (B8 s)),.str (ByteArray.extract s (B8 s+1) (ByteArray.size s)),.bool true])),(13,vS (ByteArray.extract s 0 (B8 s))),(14,vS (ByteArray.extract s (B8 s+1) (ByteArray.size s))),(15,.v (.bool true)),(3,vS (ByteArray.extract s 0 (B8 s))),(4,vS (ByteArray.extract s (B8 s+1) (ByteArray.size s))),(5,.v (.bool true)),(16,vS (ByteArray.extract s 0 (B8 s))),(17,.v (.bool (AR (ByteArray.extract s 0 (B8 s))))),(18,.v (.bool !AR (ByteArray.extract s 0 (B8 s)))),(19,.v (.bool !AR (ByteArray.extract s 0 (B8 s)))),(20,vS (ByteArray.extract s 0 (B8 s))),(21,.v (.bool (AZ (ByteArray.extract s 0 (B8 s))))),(22,.v (.bool !AZ (ByteArray.extract s 0 (B8 s)))),(23,.v (.bool !AZ (ByteArray.extract s 0 (B8 s)))),(24,.v (.bool !AZ (ByteArray.extract s 0 (B8 s)))),(25,.v (.AE [])),(26,.v (.AE [])),(27,.v (.AE [])),(28,.v (.AE [])),(29,.v (.AE [])),(30,.v (.AE [])),(31,.v (.bool false))] [] e) (@Zc (e) (ByteArray.extract s (B8 s+1) (ByteArray.size s)) (true) (by (apply Pd <;> first | assumption | omega | decide)) Ao) xr]) func85
theorem sK(hl:(s.size:Int)<=120)(hx:B8 s<s.size)(Ac:AR (ByteArray.extract s 0 (B8 s))=false)(Ae:AZ (ByteArray.extract s 0 (B8 s))=true)(Ao:OB (ByteArray.extract s (B8 s+1) (ByteArray.size s),true)=false):Pu 85 [.str s] (rI 3):=
 pu Ad (fun e=>[kp,df ((↑(ByteArray.size s):Int)>120),cl (@Nk (s) oM hx),cl (@M3 (ByteArray.extract s 0 (B8 s))),rp 2 (B2 (B6 Ac)),cl (@RV (ByteArray.extract s 0 (B8 s))),rp 2 (B2 (B6 Ac)),rp 5 (AQ (AJ Ae)),bf false,lp (S.mk [(0,vS s),(2,A1 0),(7,vS s),(8,A1 (↑(ByteArray.size s):Int)),(9,.v (.bool (decide ((↑(ByteArray.size s):Int)>120)))),(11,vS s),(12,.v (.AE [.str (ByteArray.extract s 0 (B8 s)),.str (ByteArray.extract s (B8 s+1) (ByteArray.size s)),.bool true])),(10,.v (.AE [.str (ByteArray.extract s 0 (B8 s)),.str (ByteArray.extract s (B8 s+1) (ByteArray.size s)),.bool true])),(13,vS (ByteArray.extract s 0 (B8 s))),(14,vS (ByteArray.extract s (B8 s+1) (ByteArray.size s))),(15,.v (.bool true)),(3,vS (ByteArray.extract s 0 (B8 s))),(4,vS (ByteArray.extract s (B8 s+1) (ByteArray.size s))),(5,.v (.bool true)),(16,vS (ByteArray.extract s 0 (B8 s))),(17,.v (.bool (AR (ByteArray.extract s 0 (B8 s))))),(18,.v (.bool !AR (ByteArray.extract s 0 (B8 s)))),(19,.v (.bool !AR (ByteArray.extract s 0 (B8 s)))),(20,vS (ByteArray.extract s 0 (B8 s))),(21,.v (.bool (AZ (ByteArray.extract s 0 (B8 s))))),(22,.v (.bool !AZ (ByteArray.extract s 0 (B8 s)))),(23,.v (.bool !AZ (ByteArray.extract s 0 (B8 s)))),(24,.v (.bool !AZ (ByteArray.extract s 0 (B8 s)))),(25,.v (.AE [])),(26,.v (.AE [])),(27,.v (.AE [])),(28,.v (.AE [])),(29,.v (.AE [])),(30,.v (.AE [])),(31,.v (.bool false))] [] e) (@sF (e) (ByteArray.extract s (B8 s+1) (ByteArray.size s)) (true) (by (apply Pd <;> first | assumption | omega | decide)) Ao) xr]) func85
theorem sL(hl:(s.size:Int)<=120)(hx:B8 s<s.size)(Ac:AR (ByteArray.extract s 0 (B8 s))=true)(Ae:OB (ByteArray.extract s (B8 s+1) (ByteArray.size s),true)=true):Pu 85 [.str s] (rI 0):=
 pu Ad (fun e=>[kp,df ((↑(ByteArray.size s):Int)>120),cl (@Nk (s) oM hx),cl (@M3 (ByteArray.extract s 0 (B8 s))),rp 4 (AQ (AJ Ac)),rp 6 (bf false),lp (S.mk [(0,vS s),(2,A1 0),(7,vS s),(8,A1 (↑(ByteArray.size s):Int)),(9,.v (.bool (decide ((↑(ByteArray.size s):Int)>120)))),(11,vS s),(12,.v (.AE [.str (ByteArray.extract s 0 (B8 s)),.str (ByteArray.extract s (B8 s+1) (ByteArray.size s)),.bool true])),(10,.v (.AE [.str (ByteArray.extract s 0 (B8 s)),.str (ByteArray.extract s (B8 s+1) (ByteArray.size s)),.bool true])),(13,vS (ByteArray.extract s 0 (B8 s))),(14,vS (ByteArray.extract s (B8 s+1) (ByteArray.size s))),(15,.v (.bool true)),(3,vS (ByteArray.extract s 0 (B8 s))),(4,vS (ByteArray.extract s (B8 s+1) (ByteArray.size s))),(5,.v (.bool true)),(16,vS (ByteArray.extract s 0 (B8 s))),(17,.v (.bool (AR (ByteArray.extract s 0 (B8 s))))),(18,.v (.bool !AR (ByteArray.extract s 0 (B8 s)))),(19,.v (.bool !AR (ByteArray.extract s 0 (B8 s)))),(20,.v (.AE [])),(21,.v (.AE [])),(22,.v (.AE [])),(23,.v (.bool false)),(24,.v (.bool false)),(25,.v (.AE [])),(26,.v (.AE [])),(27,.v (.AE [])),(28,.v (.AE [])),(29,.v (.AE [])),(30,.v (.AE [])),(31,.v (.bool false))] [] e) (@Zc (e) (ByteArray.extract s (B8 s+1) (ByteArray.size s)) (true) (by (apply Pd <;> first | assumption | omega | decide)) Ae) xr]) func85
theorem sN(hl:(s.size:Int)<=120)(hx:B8 s<s.size)(Ac:AR (ByteArray.extract s 0 (B8 s))=true)(Ae:OB (ByteArray.extract s (B8 s+1) (ByteArray.size s),true)=false):Pu 85 [.str s] (rI 3):=
 pu Ad (fun e=>[kp,df ((↑(ByteArray.size s):Int)>120),cl (@Nk (s) oM hx),cl (@M3 (ByteArray.extract s 0 (B8 s))),rp 4 (AQ (AJ Ac)),rp 6 (bf false),lp (S.mk [(0,vS s),(2,A1 0),(7,vS s),(8,A1 (↑(ByteArray.size s):Int)),(9,.v (.bool (decide ((↑(ByteArray.size s):Int)>120)))),(11,vS s),(12,.v (.AE [.str (ByteArray.extract s 0 (B8 s)),.str (ByteArray.extract s (B8 s+1) (ByteArray.size s)),.bool true])),(10,.v (.AE [.str (ByteArray.extract s 0 (B8 s)),.str (ByteArray.extract s (B8 s+1) (ByteArray.size s)),.bool true])),(13,vS (ByteArray.extract s 0 (B8 s))),(14,vS (ByteArray.extract s (B8 s+1) (ByteArray.size s))),(15,.v (.bool true)),(3,vS (ByteArray.extract s 0 (B8 s))),(4,vS (ByteArray.extract s (B8 s+1) (ByteArray.size s))),(5,.v (.bool true)),(16,vS (ByteArray.extract s 0 (B8 s))),(17,.v (.bool (AR (ByteArray.extract s 0 (B8 s))))),(18,.v (.bool !AR (ByteArray.extract s 0 (B8 s)))),(19,.v (.bool !AR (ByteArray.extract s 0 (B8 s)))),(20,.v (.AE [])),(21,.v (.AE [])),(22,.v (.AE [])),(23,.v (.bool false)),(24,.v (.bool false)),(25,.v (.AE [])),(26,.v (.AE [])),(27,.v (.AE [])),(28,.v (.AE [])),(29,.v (.AE [])),(30,.v (.AE [])),(31,.v (.bool false))] [] e) (@sF (e) (ByteArray.extract s (B8 s+1) (ByteArray.size s)) (true) (by (apply Pd <;> first | assumption | omega | decide)) Ae) xr]) func85
theorem sO(hl:(s.size:Int)<=120)(hx:¬B8 s<s.size)(Ac:AR s=false)(Ae:AZ s=false)(Ao:¬s=ByteArray.mk #[118]):Pu 85 [.str s] (rI 3):=
 pm Ad [kp,df ((↑(ByteArray.size s):Int)>120),cl (@RW (s) oM hx),cl (@M3 (s)),rp 2 (B2 (B6 Ac)),cl (@RV (s)),rp 2 (B2 (B6 Ac)),rp 3 (B2 (B6 Ae)),rp 2 (bt (!ByteArray.toList s==ByteArray.toList (bM 118)) (B6 (BZ Ao))),B2 (B6 Ae),bt (!ByteArray.toList s==ByteArray.toList (bM 118)) (B6 (BZ Ao)),B2 (B6 Ae),bt true] func85
theorem sP(hl:(s.size:Int)<=120)(hx:¬B8 s<s.size)(Ac:AR s=false)(Ae:AZ s=false)(Ao:s=ByteArray.mk #[118]):Pu 85 [.str s] (rI 3):=
 pm Ad [kp,df ((↑(ByteArray.size s):Int)>120),cl (@RW (s) oM hx),cl (@M3 (s)),rp 2 (B2 (B6 Ac)),cl (@RV (s)),rp 2 (B2 (B6 Ac)),rp 3 (B2 (B6 Ae)),rp 2 (bf (!ByteArray.toList s==ByteArray.toList (bM 118)) (AJ (BL Ao))),B2 (B6 Ae),bf (!ByteArray.toList s==ByteArray.toList (bM 118)) (AJ (BL Ao)),B2 (B6 Ae),bt true] func85
theorem sQ(hl:(s.size:Int)<=120)(hx:¬B8 s<s.size)(Ac:AR s=false)(Ae:AZ s=true):Pu 85 [.str s] (rI 0):=
 pu Ad (fun e=>[kp,df ((↑(ByteArray.size s):Int)>120),cl (@RW (s) oM hx),cl (@M3 (s)),rp 2 (B2 (B6 Ac)),cl (@RV (s)),rp 2 (B2 (B6 Ac)),rp 5 (AQ (AJ Ae)),bf false,lp (S.mk [(0,vS s),(2,A1 0),(7,vS s),(8,A1 (↑(ByteArray.size s):Int)),(9,.v (.bool (decide ((↑(ByteArray.size s):Int)>120)))),(11,vS s),(12,.v (.AE [.str s,.str Ah,.bool false])),(10,.v (.AE [.str s,.str Ah,.bool false])),(13,vS s),(14,vS Ah),(15,.v (.bool false)),(3,vS s),(4,vS Ah),(5,.v (.bool false)),(16,vS s),(17,.v (.bool (AR s))),(18,.v (.bool !AR s)),(19,.v (.bool !AR s)),(20,vS s),(21,.v (.bool (AZ s))),(22,.v (.bool !AZ s)),(23,.v (.bool !AZ s)),(24,.v (.bool !AZ s)),(25,.v (.AE [])),(26,.v (.AE [])),(27,.v (.AE [])),(28,.v (.AE [])),(29,.v (.AE [])),(30,.v (.AE [])),(31,.v (.bool false))] [] e) (@Zc (e) (Ah) (false) (by (apply A2k <;> first | assumption | omega | decide)) rF) xr]) func85
theorem sR(hl:(s.size:Int)<=120)(hx:¬B8 s<s.size)(Ac:AR s=true):Pu 85 [.str s] (rI 0):=
 pu Ad (fun e=>[kp,df ((↑(ByteArray.size s):Int)>120),cl (@RW (s) oM hx),cl (@M3 (s)),rp 4 (AQ (AJ Ac)),rp 6 (bf false),lp (S.mk [(0,vS s),(2,A1 0),(7,vS s),(8,A1 (↑(ByteArray.size s):Int)),(9,.v (.bool (decide ((↑(ByteArray.size s):Int)>120)))),(11,vS s),(12,.v (.AE [.str s,.str Ah,.bool false])),(10,.v (.AE [.str s,.str Ah,.bool false])),(13,vS s),(14,vS Ah),(15,.v (.bool false)),(3,vS s),(4,vS Ah),(5,.v (.bool false)),(16,vS s),(17,.v (.bool (AR s))),(18,.v (.bool !AR s)),(19,.v (.bool !AR s)),(20,.v (.AE [])),(21,.v (.AE [])),(22,.v (.AE [])),(23,.v (.bool false)),(24,.v (.bool false)),(25,.v (.AE [])),(26,.v (.AE [])),(27,.v (.AE [])),(28,.v (.AE [])),(29,.v (.AE [])),(30,.v (.AE [])),(31,.v (.bool false))] [] e) (@Zc (e) (Ah) (false) (by (apply A2k <;> first | assumption | omega | decide)) rF) xr]) func85
end
abbrev lT(l:List Pr)(mx:Int)(pf:List Pr->Int->Int)(j:Int)(n:Int)(e:Ext):S:=S.mk [(0,vL 4 (Pr.cs l)),(1,A1 mx),(4,A1 0),(5,A1 n),(6,A1 j)] [] e
def KA(mx:Int)(pf:List Pr->Int->Int):List Pr->(Int)->(Int)
 | [],n=>(n)
 | el::r,n=>(if n<=mx then KA mx pf r (IntKind.wrap .i64 (IntKind.wrap .i64 (IntKind.wrap .i64 (n+1)+IntKind.wrap .i64 (Int.tdiv (↑(ByteArray.size (Aq el)):Int) 100))+pf (As el) (IntKind.wrap .i64 (mx - IntKind.wrap .i64 (IntKind.wrap .i64 (n+1)+IntKind.wrap .i64 (Int.tdiv (↑(ByteArray.size (Aq el)):Int) 100)))))) else (n))
def Zd(l:List Pr)(mx:Int)(pf:List Pr->Int->Int)(e:Ext)(p:(Int)):A5 × S:=(.exit 0,S.mk [(0,vL 4 (Pr.cs l)),(1,A1 mx),(4,A1 0),(5,A1 p)] [] e)
theorem cp0(l:List Pr)(mx:Int)(pf:List Pr->Int->Int)(Bg:∀ (w:Pr) (k:Int),w∈l->Pu 24 [.sl 4 (Pr.cs (As w)),.int .i64 k] (.ret (.int .i64 (pf (As w) k))))(n:Int)(e:Ext)(hN:l.length<=1000000000)  : (Ob.loop 40 (Ai f24 0) (lT l mx pf 0 n e) (Zd l mx pf e (KA mx pf (l)  n)).1 (Zd l mx pf e (KA mx pf (l)  n)).2).ok prog:=by
 refine Ds l.length (fun j n=>lT l mx pf j n e) (fun i n=>KA mx pf (List.drop i (l))  n) (Zd l mx pf e) (fun i n=>True) kR ?_ n trivial
 rintro i n hi -
 rcases Nat.lt_or_ge i (l.length) with Ag | CO
 ·have hd:=AH Ag
  by_cases h0:n<=mx
  ·exact lN Ad [sl (Pr.A0 l),rp 4 (dt ((i:Int)<(l.length:Int))),C6 h0,kp,am ((0:Int)<=(i:Int)/\(i:Int)<((Pr.cs l).length:Int)) (by (simp only [Pr.A0]; omega)),Wu l i Ag,rp 3 (kp),ab true,am ((0:Int)<=(i:Int)/\(i:Int)<((Pr.cs l).length:Int)) (by (simp only [Pr.A0]; omega)),Wu l i Ag,kp,cl (@Bg (List.getD l i default) (IntKind.wrap .i64 (mx - IntKind.wrap .i64 (IntKind.wrap .i64 (n+1)+IntKind.wrap .i64 (Int.tdiv (↑(ByteArray.size (Aq (List.getD l i default))):Int) 100)))) (by simp_all)),kp,wr ((i:Int)+1)] Ag (IntKind.wrap .i64 (IntKind.wrap .i64 (IntKind.wrap .i64 (n+1)+IntKind.wrap .i64 (Int.tdiv (↑(ByteArray.size (Aq (List.getD l i default))):Int) 100))+pf (As (List.getD l i default)) (IntKind.wrap .i64 (mx - IntKind.wrap .i64 (IntKind.wrap .i64 (n+1)+IntKind.wrap .i64 (Int.tdiv (↑(ByteArray.size (Aq (List.getD l i default))):Int) 100)))))) trivial (by rw [hd,KA,iP h0])
  ·exact lX Ad [sl (Pr.A0 l),rp 4 (dt ((i:Int)<(l.length:Int))),Az h0] (n) (by rw [hd,KA,iN h0])
 ·have he:i=l.length:=by omega
  exact lX Ad [sl (Pr.A0 l),rp 4 (df ((i:Int)<(l.length:Int))),bf false] (n) (by rw [he,List.drop_length,KA])
theorem cpL(l:List Pr)(mx:Int)(pf:List Pr->Int->Int)(Bg:∀ (w:Pr) (k:Int),w∈l->Pu 24 [.sl 4 (Pr.cs (As w)),.int .i64 k] (.ret (.int .i64 (pf (As w) k))))(hN:l.length<=1000000000):Pu 24 [.sl 4 (Pr.cs l),pI mx] (rI (KA mx pf l 0)):=
 pu Ad (fun e=>[lq (@cp0 (l) (mx) (pf) Bg (0) (e) hN)]) func24
def cpD:Nat->List Pr->Int->Int
 | 0,_,_=>0
 | d+1,l,mx=>KA mx (cpD d) l 0
theorem RY(x:Pr):Am (Pr.cs (As x))<A6 (AO x):=by simp only [A6,CK]; omega
theorem lU:∀ (d:Nat) (l:List Pr) (mx:Int),Am (Pr.cs l)<d->Am (Pr.cs l)<=100000000->Pu 24 [.sl 4 (Pr.cs l),.int .i64 mx] (.ret (.int .i64 (cpD d l mx)))
 | 0,_,_,h,_=>by omega
 | d+1,l,mx,h,hs=>cpL l mx (cpD d) (fun w k hw=>lU d (As w) k (by have:=RY w; have:=Pr.mem hw; omega) (by have:=RY w; have:=Pr.mem hw; omega)) (by have:=Pr.BT l; omega)
def Gs(l:List Pr)(mx:Int):Int:=cpD (Am (Pr.cs l)+1) l mx
theorem cpT(l:List Pr)(mx:Int)(hs:Am (Pr.cs l)<=100000000):Pu 24 [.sl 4 (Pr.cs l),.int .i64 mx] (.ret (.int .i64 (Gs l mx))):=lU _ l mx oM hs
theorem iI(x:Pr)(mx:Int)(hs:A6 (AO x)<=100000000):Pu 24 [.sl 4 [AO x],.int .i64 mx] (.ret (.int .i64 (Gs [x] mx))):=by
 have e:Pr.cs [x]=[AO x]:=by simp [Pr.AD]
 have:=cpT [x] mx (by rw [e]; simpa [Am] using hs)
 rwa [e] at this
theorem Aaj(x y:Pr)(mx:Int)(hs:A6 (AO x)+A6 (AO y)<=100000000):Pu 24 [.sl 4 [AO x,AO y],.int .i64 mx] (.ret (.int .i64 (Gs [x,y] mx))):=by
 have e:Pr.cs [x,y]=[AO x,AO y]:=by simp [Pr.AD]
 have:=cpT [x,y] mx (by rw [e]; simpa only [Am,Nat.add_zero,Nat.add_assoc] using hs)
 rwa [e] at this
abbrev lV(l:List Tp)(mx:Int)(pf:List Pr->Int->Int)(tf:List Tp->Int->Int)(j:Int)(n:Int)(e:Ext):S:=S.mk [(0,vL 9 (Tp.cs l)),(1,A1 mx),(4,A1 0),(5,A1 n),(6,A1 j)] [] e
def KB(mx:Int)(pf:List Pr->Int->Int)(tf:List Tp->Int->Int):List Tp->(Int)->(Int)
 | [],n=>(n)
 | el::r,n=>(if n<=mx then KB mx pf tf r (IntKind.wrap .i64 (IntKind.wrap .i64 (IntKind.wrap .i64 (IntKind.wrap .i64 (IntKind.wrap .i64 (IntKind.wrap .i64 (n+1)+IntKind.wrap .i64 (Int.tdiv (↑(ByteArray.size (Af el)):Int) 100))+((Aj el).length:Int))+pf (Ak el) mx)+pf [Br el] mx)+tf (A8 el) (IntKind.wrap .i64 (mx - IntKind.wrap .i64 (IntKind.wrap .i64 (IntKind.wrap .i64 (IntKind.wrap .i64 (IntKind.wrap .i64 (n+1)+IntKind.wrap .i64 (Int.tdiv (↑(ByteArray.size (Af el)):Int) 100))+((Aj el).length:Int))+pf (Ak el) mx)+pf [Br el] mx))))) else (n))
def Ze(l:List Tp)(mx:Int)(pf:List Pr->Int->Int)(tf:List Tp->Int->Int)(e:Ext)(p:(Int)):A5 × S:=(.exit 0,S.mk [(0,vL 9 (Tp.cs l)),(1,A1 mx),(4,A1 0),(5,A1 p)] [] e)
theorem ct0(l:List Tp)(mx:Int)(pf:List Pr->Int->Int)(tf:List Tp->Int->Int)(hp:∀ (w:Tp) (k:Int),w∈l->Pu 24 [.sl 4 (Pr.cs (Ak w)),.int .i64 k] (.ret (.int .i64 (pf (Ak w) k))))(hpp:∀ (w:Tp) (k:Int),w∈l->Pu 24 [.sl 4 [AO (Br w)],.int .i64 k] (.ret (.int .i64 (pf [Br w] k))))(ht:∀ (w:Tp) (k:Int),w∈l->Pu 23 [.sl 9 (Tp.cs (A8 w)),.int .i64 k] (.ret (.int .i64 (tf (A8 w) k))))(n:Int)(e:Ext)(hN:l.length<=1000000000)  : (Ob.loop 64 (Ai f23 0) (lV l mx pf tf 0 n e) (Ze l mx pf tf e (KB mx pf tf (l)  n)).1 (Ze l mx pf tf e (KB mx pf tf (l)  n)).2).ok prog:=by
 refine Ds l.length (fun j n=>lV l mx pf tf j n e) (fun i n=>KB mx pf tf (List.drop i (l))  n) (Ze l mx pf tf e) (fun i n=>True) kR ?_ n trivial
 rintro i n hi -
 rcases Nat.lt_or_ge i (l.length) with Ag | CO
 ·have hd:=AH Ag
  by_cases h0:n<=mx
  ·exact lN Ad [sl (Tp.A0 l),rp 4 (dt ((i:Int)<(l.length:Int))),C6 h0,kp,am ((0:Int)<=(i:Int)/\(i:Int)<((Tp.cs l).length:Int)) (by (simp only [Tp.A0]; omega)),OA l i Ag,rp 3 (kp),ab true,am ((0:Int)<=(i:Int)/\(i:Int)<((Tp.cs l).length:Int)) (by (simp only [Tp.A0]; omega)),OA l i Ag,sl (A3 (Aj (List.getD l i default))),kp,am ((0:Int)<=(i:Int)/\(i:Int)<((Tp.cs l).length:Int)) (by (simp only [Tp.A0]; omega)),OA l i Ag,cl (@hp (List.getD l i default) (mx) (by simp_all)),kp,am ((0:Int)<=(i:Int)/\(i:Int)<((Tp.cs l).length:Int)) (by (simp only [Tp.A0]; omega)),OA l i Ag,cl (@hpp (List.getD l i default) (mx) (by simp_all)),kp,am ((0:Int)<=(i:Int)/\(i:Int)<((Tp.cs l).length:Int)) (by (simp only [Tp.A0]; omega)),OA l i Ag,kp,cl (@ht (List.getD l i default) (IntKind.wrap .i64 (mx - IntKind.wrap .i64 (IntKind.wrap .i64 (IntKind.wrap .i64 (IntKind.wrap .i64 (IntKind.wrap .i64 (n+1)+IntKind.wrap .i64 (Int.tdiv (↑(ByteArray.size (Af (List.getD l i default))):Int) 100))+((Aj (List.getD l i default)).length:Int))+pf (Ak (List.getD l i default)) mx)+pf [Br (List.getD l i default)] mx))) (by simp_all)),kp,wr ((i:Int)+1)] Ag (IntKind.wrap .i64 (IntKind.wrap .i64 (IntKind.wrap .i64 (IntKind.wrap .i64 (IntKind.wrap .i64 (IntKind.wrap .i64 (n+1)+IntKind.wrap .i64 (Int.tdiv (↑(ByteArray.size (Af (List.getD l i default))):Int) 100))+((Aj (List.getD l i default)).length:Int))+pf (Ak (List.getD l i default)) mx)+pf [Br (List.getD l i default)] mx)+tf (A8 (List.getD l i default)) (IntKind.wrap .i64 (mx - IntKind.wrap .i64 (IntKind.wrap .i64 (IntKind.wrap .i64 (IntKind.wrap .i64 (IntKind.wrap .i64 (n+1)+IntKind.wrap .i64 (Int.tdiv (↑(ByteArray.size (Af (List.getD l i default))):Int) 100))+((Aj (List.getD l i default)).length:Int))+pf (Ak (List.getD l i default)) mx)+pf [Br (List.getD l i default)] mx))))) trivial (by rw [hd,KB,iP h0])
  ·exact lX Ad [sl (Tp.A0 l),rp 4 (dt ((i:Int)<(l.length:Int))),Az h0] (n) (by rw [hd,KB,iN h0])
 ·have he:i=l.length:=by omega
  exact lX Ad [sl (Tp.A0 l),rp 4 (df ((i:Int)<(l.length:Int))),bf false] (n) (by rw [he,List.drop_length,KB])
theorem ctL(l:List Tp)(mx:Int)(pf:List Pr->Int->Int)(tf:List Tp->Int->Int)(hp:∀ (w:Tp) (k:Int),w∈l->Pu 24 [.sl 4 (Pr.cs (Ak w)),.int .i64 k] (.ret (.int .i64 (pf (Ak w) k))))(hpp:∀ (w:Tp) (k:Int),w∈l->Pu 24 [.sl 4 [AO (Br w)],.int .i64 k] (.ret (.int .i64 (pf [Br w] k))))(ht:∀ (w:Tp) (k:Int),w∈l->Pu 23 [.sl 9 (Tp.cs (A8 w)),.int .i64 k] (.ret (.int .i64 (tf (A8 w) k))))(hN:l.length<=1000000000):Pu 23 [.sl 9 (Tp.cs l),pI mx] (rI (KB mx pf tf l 0)):=
 pu Ad (fun e=>[lq (@ct0 (l) (mx) (pf) (tf) hp hpp ht (0) (e) hN)]) func23
def ctD:Nat->List Tp->Int->Int
 | 0,_,_=>0
 | d+1,l,mx=>KB mx Gs (ctD d) l 0
theorem EA(x:Tp):Am (Tp.cs (A8 x))+Am (Pr.cs (Ak x))+A6 (AO (Br x))<A6 (Ay x):=by simp only [A6,CK]; omega
theorem lW:∀ (d:Nat) (l:List Tp) (mx:Int),Am (Tp.cs l)<d->Am (Tp.cs l)<=100000000->Pu 23 [.sl 9 (Tp.cs l),.int .i64 mx] (.ret (.int .i64 (ctD d l mx)))
 | 0,_,_,h,_=>by omega
 | d+1,l,mx,h,hs=>ctL l mx Gs (ctD d) (fun w k hw=>cpT _ k (by have:=EA w; have:=Tp.mem hw; omega)) (fun w k hw=>iI _ k (by have:=EA w; have:=Tp.mem hw; omega)) (fun w k hw=>lW d (A8 w) k (by have:=EA w; have:=Tp.mem hw; omega) (by have:=EA w; have:=Tp.mem hw; omega)) (by have:=Tp.BT l; omega)
def EB(l:List Tp)(mx:Int):Int:=ctD (Am (Tp.cs l)+1) l mx
theorem ctT(l:List Tp)(mx:Int)(hs:Am (Tp.cs l)<=100000000):Pu 23 [.sl 9 (Tp.cs l),.int .i64 mx] (.ret (.int .i64 (EB l mx))):=lW _ l mx oM hs
theorem iJ(x:Tp)(mx:Int)(hs:A6 (Ay x)<=100000000):Pu 23 [.sl 9 [Ay x],.int .i64 mx] (.ret (.int .i64 (EB [x] mx))):=by
 have e:Tp.cs [x]=[Ay x]:=by simp [Tp.AD]
 have:=ctT [x] mx (by rw [e]; simpa [Am] using hs)
 rwa [e] at this
abbrev lZ(x:Ex)(mx:Int)(BD:Ex->Int->Int)(j:Int)(n:Int)(e:Ext):S:=S.mk [(1,A1 mx),(2,.lp 2 0),(4,A1 0),(5,A1 n),(6,A1 j)] [(2,rN x)] e
def IY(mx:Int):List Pm->(Int)->(Int)
 | [],n=>(n)
 | el::r,n=>(if n<=mx then IY mx r (IntKind.wrap .i64 (IntKind.wrap .i64 (IntKind.wrap .i64 (n+1)+IntKind.wrap .i64 (Int.tdiv (↑(ByteArray.size (YI el)):Int) 100))+EB [H8 el] mx)) else (n))
def Zf(x:Ex)(mx:Int)(BD:Ex->Int->Int)(e:Ext)(p:(Int)):A5 × S:=(.exit 0,S.mk [(1,A1 mx),(2,.lp 2 0),(4,A1 0),(5,A1 p)] [(2,rN x)] e)
theorem pa0(x:Ex)(mx:Int)(BD:Ex->Int->Int)(ht:∀ (k:Int),Pu 23 [.sl 9 (Tp.cs (LZ x)),.int .i64 k] (.ret (.int .i64 (EB (LZ x) k))))(hP:∀ (p:Pm) (k:Int),p∈HU x->Pu 23 [.sl 9 [Ay (H8 p)],.int .i64 k] (.ret (.int .i64 (EB [H8 p] k))))(hK:∀ (w:Ex) (k:Int),w∈IU x->Pu 65 [.agg (Ka w),.int .i64 k] (.ret (.int .i64 (BD w k))))(hA:∀ (a:Al) (k:Int),a∈Iy x->Pu 65 [.agg (Ka (Pb a)),.int .i64 k] (.ret (.int .i64 (BD (Pb a) k))))(n:Int)(e:Ext)(hN:(HU x).length<=1000000000)  : (Ob.loop 108 (Ai f65 0) (lZ x mx BD 0 n e) (Zf x mx BD e (IY mx ((HU x))  n)).1 (Zf x mx BD e (IY mx ((HU x))  n)).2).ok prog:=by
 refine Ds ((HU x).length) (fun j n=>lZ x mx BD j n e) (fun i n=>IY mx (List.drop i ((HU x)))  n) (Zf x mx BD e) (fun i n=>True) kR ?_ n trivial
 rintro i n hi -
 rcases Nat.lt_or_ge i ((HU x).length) with Ag | CO
 ·have hd:=AH Ag
  by_cases h0:n<=mx
  ·exact lN Ad [sl (Pm.A0 (HU x)),rp 4 (dt ((i:Int)<((HU x).length:Int))),C6 h0,kp,am ((0:Int)<=(i:Int)/\(i:Int)<((Pm.cs (HU x)).length:Int)) (by (simp only [Pm.A0]; omega)),xPm (HU x) i Ag,rp 3 (kp),ab true,am ((0:Int)<=(i:Int)/\(i:Int)<((Pm.cs (HU x)).length:Int)) (by (simp only [Pm.A0]; omega)),xPm (HU x) i Ag,cl (@hP (List.getD (HU x) i default) (mx) (by simp_all)),kp,wr ((i:Int)+1)] Ag (IntKind.wrap .i64 (IntKind.wrap .i64 (IntKind.wrap .i64 (n+1)+IntKind.wrap .i64 (Int.tdiv (↑(ByteArray.size (YI (List.getD (HU x) i default))):Int) 100))+EB [H8 (List.getD (HU x) i default)] mx)) trivial (by rw [hd,IY,iP h0])
  ·exact lX Ad [sl (Pm.A0 (HU x)),rp 4 (dt ((i:Int)<((HU x).length:Int))),Az h0] (n) (by rw [hd,IY,iN h0])
 ·have he:i=(HU x).length:=by omega
  exact lX Ad [sl (Pm.A0 (HU x)),rp 4 (df ((i:Int)<((HU x).length:Int))),bf false] (n) (by rw [he,List.drop_length,IY])
abbrev m0(x:Ex)(mx:Int)(BD:Ex->Int->Int)(j:Int)(n:Int)(e:Ext):S:=S.mk [(1,A1 mx),(2,.lp 2 0),(4,A1 0),(5,A1 n),(7,A1 j)] [(2,rN x)] e
def Jv(mx:Int)(BD:Ex->Int->Int):List Ex->(Int)->(Int)
 | [],n=>(n)
 | el::r,n=>(if n<=mx then Jv mx BD r (IntKind.wrap .i64 (n+BD el (IntKind.wrap .i64 (mx - n)))) else (n))
def Zg(x:Ex)(mx:Int)(BD:Ex->Int->Int)(e:Ext)(p:(Int)):A5 × S:=(.exit 2,S.mk [(1,A1 mx),(2,.lp 2 0),(4,A1 0),(5,A1 p)] [(2,rN x)] e)
theorem pa1(x:Ex)(mx:Int)(BD:Ex->Int->Int)(ht:∀ (k:Int),Pu 23 [.sl 9 (Tp.cs (LZ x)),.int .i64 k] (.ret (.int .i64 (EB (LZ x) k))))(hP:∀ (p:Pm) (k:Int),p∈HU x->Pu 23 [.sl 9 [Ay (H8 p)],.int .i64 k] (.ret (.int .i64 (EB [H8 p] k))))(hK:∀ (w:Ex) (k:Int),w∈IU x->Pu 65 [.agg (Ka w),.int .i64 k] (.ret (.int .i64 (BD w k))))(hA:∀ (a:Al) (k:Int),a∈Iy x->Pu 65 [.agg (Ka (Pb a)),.int .i64 k] (.ret (.int .i64 (BD (Pb a) k))))(Cd:(HU x).length<=1000000000)(n:Int)(e:Ext)(hN:(IU x).length<=1000000000)  : (Ob.loop 108 (Ai f65 1) (m0 x mx BD 0 n e) (Zg x mx BD e (Jv mx BD ((IU x))  n)).1 (Zg x mx BD e (Jv mx BD ((IU x))  n)).2).ok prog:=by
 refine Ds ((IU x).length) (fun j n=>m0 x mx BD j n e) (fun i n=>Jv mx BD (List.drop i ((IU x)))  n) (Zg x mx BD e) (fun i n=>True) kR ?_ n trivial
 rintro i n hi -
 rcases Nat.lt_or_ge i ((IU x).length) with Ag | CO
 ·have hd:=AH Ag
  by_cases h0:n<=mx
  ·exact lN Ad [sl (Ex.A0 (IU x)),rp 4 (dt ((i:Int)<((IU x).length:Int))),C6 h0,am ((0:Int)<=(i:Int)/\(i:Int)<((Ex.cs (IU x)).length:Int)) (by (simp only [Ex.A0]; omega)),xEx (IU x) i Ag,kp,cl (@hK (List.getD (IU x) i default) (IntKind.wrap .i64 (mx - n)) (by simp_all)),kp,wr ((i:Int)+1)] Ag (IntKind.wrap .i64 (n+BD (List.getD (IU x) i default) (IntKind.wrap .i64 (mx - n)))) trivial (by rw [hd,Jv,iP h0])
  ·exact lX Ad [sl (Ex.A0 (IU x)),rp 4 (dt ((i:Int)<((IU x).length:Int))),Az h0] (n) (by rw [hd,Jv,iN h0])
 ·have he:i=(IU x).length:=by omega
  exact lX Ad [sl (Ex.A0 (IU x)),rp 4 (df ((i:Int)<((IU x).length:Int))),bf false] (n) (by rw [he,List.drop_length,Jv])
abbrev m4(x:Ex)(mx:Int)(BD:Ex->Int->Int)(j:Int)(n:Int)(e:Ext):S:=S.mk [(1,A1 mx),(2,.lp 2 0),(4,A1 0),(5,A1 n),(8,A1 j)] [(2,rN x)] e
def KD(mx:Int)(BD:Ex->Int->Int):List Al->(Int)->(Int)
 | [],n=>(n)
 | el::r,n=>(if n<=mx then KD mx BD r (IntKind.wrap .i64 (IntKind.wrap .i64 (n+((YJ el).length:Int))+BD (Pb el) (IntKind.wrap .i64 (mx - n)))) else (n))
def Zh(x:Ex)(mx:Int)(BD:Ex->Int->Int)(e:Ext)(p:(Int)):A5 × S:=(.exit 4,S.mk [(1,A1 mx),(2,.lp 2 0),(4,A1 0),(5,A1 p)] [(2,rN x)] e)
theorem pa2(x:Ex)(mx:Int)(BD:Ex->Int->Int)(ht:∀ (k:Int),Pu 23 [.sl 9 (Tp.cs (LZ x)),.int .i64 k] (.ret (.int .i64 (EB (LZ x) k))))(hP:∀ (p:Pm) (k:Int),p∈HU x->Pu 23 [.sl 9 [Ay (H8 p)],.int .i64 k] (.ret (.int .i64 (EB [H8 p] k))))(hK:∀ (w:Ex) (k:Int),w∈IU x->Pu 65 [.agg (Ka w),.int .i64 k] (.ret (.int .i64 (BD w k))))(hA:∀ (a:Al) (k:Int),a∈Iy x->Pu 65 [.agg (Ka (Pb a)),.int .i64 k] (.ret (.int .i64 (BD (Pb a) k))))(Cd:(HU x).length<=1000000000)(hN1:(IU x).length<=1000000000)(n:Int)(e:Ext)(hN:(Iy x).length<=1000000000)  : (Ob.loop 108 (Ai f65 2) (m4 x mx BD 0 n e) (Zh x mx BD e (KD mx BD ((Iy x))  n)).1 (Zh x mx BD e (KD mx BD ((Iy x))  n)).2).ok prog:=by
 refine Ds ((Iy x).length) (fun j n=>m4 x mx BD j n e) (fun i n=>KD mx BD (List.drop i ((Iy x)))  n) (Zh x mx BD e) (fun i n=>True) kR ?_ n trivial
 rintro i n hi -
 rcases Nat.lt_or_ge i ((Iy x).length) with Ag | CO
 ·have hd:=AH Ag
  by_cases h0:n<=mx
  ·exact lN Ad [sl (Al.A0 (Iy x)),rp 4 (dt ((i:Int)<((Iy x).length:Int))),C6 h0,am ((0:Int)<=(i:Int)/\(i:Int)<((Al.cs (Iy x)).length:Int)) (by (simp only [Al.A0]; omega)),xAl (Iy x) i Ag,sl (A3 (YJ (List.getD (Iy x) i default))),kp,am ((0:Int)<=(i:Int)/\(i:Int)<((Al.cs (Iy x)).length:Int)) (by (simp only [Al.A0]; omega)),xAl (Iy x) i Ag,kp,cl (@hA (List.getD (Iy x) i default) (IntKind.wrap .i64 (mx - n)) (by simp_all)),kp,wr ((i:Int)+1)] Ag (IntKind.wrap .i64 (IntKind.wrap .i64 (n+((YJ (List.getD (Iy x) i default)).length:Int))+BD (Pb (List.getD (Iy x) i default)) (IntKind.wrap .i64 (mx - n)))) trivial (by rw [hd,KD,iP h0])
  ·exact lX Ad [sl (Al.A0 (Iy x)),rp 4 (dt ((i:Int)<((Iy x).length:Int))),Az h0] (n) (by rw [hd,KD,iN h0])
 ·have he:i=(Iy x).length:=by omega
  exact lX Ad [sl (Al.A0 (Iy x)),rp 4 (df ((i:Int)<((Iy x).length:Int))),bf false] (n) (by rw [he,List.drop_length,KD])
theorem paL(x:Ex)(mx:Int)(BD:Ex->Int->Int)(ht:∀ (k:Int),Pu 23 [.sl 9 (Tp.cs (LZ x)),.int .i64 k] (.ret (.int .i64 (EB (LZ x) k))))(hP:∀ (p:Pm) (k:Int),p∈HU x->Pu 23 [.sl 9 [Ay (H8 p)],.int .i64 k] (.ret (.int .i64 (EB [H8 p] k))))(hK:∀ (w:Ex) (k:Int),w∈IU x->Pu 65 [.agg (Ka w),.int .i64 k] (.ret (.int .i64 (BD w k))))(hA:∀ (a:Al) (k:Int),a∈Iy x->Pu 65 [.agg (Ka (Pb a)),.int .i64 k] (.ret (.int .i64 (BD (Pb a) k))))(Cd:(HU x).length<=1000000000)(hN1:(IU x).length<=1000000000)(hN2:(Iy x).length<=1000000000):Pu 65 [.agg (Ka x),pI mx] (rI (KD mx BD (Iy x) (Jv mx BD (IU x) (IY mx (HU x) (IntKind.wrap .i64 (IntKind.wrap .i64 (1+IntKind.wrap .i64 (Int.tdiv (↑(ByteArray.size (Iw x)):Int) 100))+EB (LZ x) mx)))))):=
 pu Ad (fun e=>[rp 3 (kp),ab true,cl (@ht (mx)),kp,lp (S.mk [(0,.v (.agg (Ka x))),(1,A1 mx),(2,.lp 2 0),(4,A1 0),(9,.lp 2 1),(10,vS (Iw x)),(11,A1 (↑(ByteArray.size (Iw x)):Int)),(12,A1 (IntKind.wrap .i64 (Int.tdiv (↑(ByteArray.size (Iw x)):Int) 100))),(13,A1 (IntKind.wrap .i64 (1+IntKind.wrap .i64 (Int.tdiv (↑(ByteArray.size (Iw x)):Int) 100)))),(14,.lp 2 6),(15,vL 9 (Tp.cs (LZ x))),(16,A1 mx),(17,A1 (EB (LZ x) mx)),(18,A1 (IntKind.wrap .i64 (IntKind.wrap .i64 (1+IntKind.wrap .i64 (Int.tdiv (↑(ByteArray.size (Iw x)):Int) 100))+EB (LZ x) mx))),(5,A1 (IntKind.wrap .i64 (IntKind.wrap .i64 (1+IntKind.wrap .i64 (Int.tdiv (↑(ByteArray.size (Iw x)):Int) 100))+EB (LZ x) mx))),(6,A1 0)] [(2,rN x)] e) (@pa0 (x) (mx) (BD) ht hP hK hA (IntKind.wrap .i64 (IntKind.wrap .i64 (1+IntKind.wrap .i64 (Int.tdiv (↑(ByteArray.size (Iw x)):Int) 100))+EB (LZ x) mx)) (e) Cd) xr,lq (@pa1 (x) (mx) (BD) ht hP hK hA Cd (IY mx (HU x) (IntKind.wrap .i64 (IntKind.wrap .i64 (1+IntKind.wrap .i64 (Int.tdiv (↑(ByteArray.size (Iw x)):Int) 100))+EB (LZ x) mx))) (e) hN1),lq (@pa2 (x) (mx) (BD) ht hP hK hA Cd hN1 (Jv mx BD (IU x) (IY mx (HU x) (IntKind.wrap .i64 (IntKind.wrap .i64 (1+IntKind.wrap .i64 (Int.tdiv (↑(ByteArray.size (Iw x)):Int) 100))+EB (LZ x) mx)))) (e) hN2)]) func65
def paD:Nat->Ex->Int->Int
 | 0,_,_=>0
 | d+1,x,mx=>KD mx (paD d) (Iy x) (Jv mx (paD d) (IU x) (IY mx (HU x) (IntKind.i64.wrap (IntKind.i64.wrap (1+IntKind.i64.wrap (((Iw x).size:Int).tdiv 100))+EB (LZ x) mx))))
theorem iK(x:Ex):Am (Ex.cs (IU x))+Am (Pm.cs (HU x))+Am (Al.cs (Iy x))+Am (Tp.cs (LZ x))<A6 (Ka x):=by simp only [A6,CK]; omega
theorem Uz(a:Al):A6 (Ka (Pb a))<A6 (rO a):=by simp only [A6,CK]; omega
theorem UA(a:Pm):A6 (Ay (H8 a))<A6 (eW a):=by simp only [A6,CK]; omega
theorem Zi:∀ (d:Nat) (x:Ex) (mx:Int),A6 (Ka x)<d->A6 (Ka x)<=100000000->Pu 65 [.agg (Ka x),.int .i64 mx] (.ret (.int .i64 (paD d x mx)))
 | 0,_,_,h,_=>by omega
 | d+1,x,mx,h,hs=>by
  have h1:=iK x
  have h2:=Ex.BT (IU x)
  have h3:=Pm.BT (HU x)
  have h4:=Al.BT (Iy x)
  exact paL x mx (paD d) (fun k=>ctT _ k oM) (fun p k hp=>iJ _ k (by have:=UA p; have:=Pm.mem hp; omega)) (fun w k hw=>Zi d w k (by have:=Ex.mem hw; omega) (by have:=Ex.mem hw; omega)) (fun a k ha=>Zi d (Pb a) k (by have:=Uz a; have:=Al.mem ha; omega) (by have:=Uz a; have:=Al.mem ha; omega)) oM oM oM
def paF(x:Ex)(mx:Int):Int:=paD (A6 (Ka x)+1) x mx
theorem paT(x:Ex)(mx:Int)(hs:A6 (Ka x)<=100000000):Pu 65 [.agg (Ka x),.int .i64 mx] (.ret (.int .i64 (paF x mx))):=Zi _ x mx oM hs
abbrev m5(l:List Df)(mx:Int)(d:Df)(o:Int)(n0:Int)(xe:Ext)(j:Int)(n:Int)  : S:=S.mk [(0,vL 25 (Df.cs l)),(1,A1 mx),(4,A1 0),(5,A1 n),(6,A1 o),(7,.lp 7 0),(8,A1 j)] [(7,[vL 1 (A7 (I5 d)),vL 2 (Vr.cs (Iz d)),vL 2 (Vr.cs (IV d)),vL 10 (Bo.cs (D6 d)),A1 (AA (AN d)),vS (Af (AN d)),vL 9 (Tp.cs (A8 (AN d))),vL 1 (A7 (Aj (AN d))),A1 (Ab (Br (AN d))),vS (Aq (Br (AN d))),A1 (Ch (Br (AN d))),vL 4 (Pr.cs (As (Br (AN d)))),vL 4 (Pr.cs (Ak (AN d))),vL 4 (Pr.cs (I6 d))])] xe
def KE(mx:Int):List Bo->(Int)->(Int)
 | [],n=>(n)
 | el::r,n=>(if n<=mx then KE mx r (IntKind.wrap .i64 (IntKind.wrap .i64 (IntKind.wrap .i64 (n+1)+((boW el).length:Int))+Gs [QI el,QJ el] mx)) else (n))
def Zj(l:List Df)(mx:Int)(d:Df)(o:Int)(n0:Int)(xe:Ext)(p:(Int)):A5 × S:=(.exit 2,S.mk [(0,vL 25 (Df.cs l)),(1,A1 mx),(4,A1 0),(5,A1 p),(6,A1 o),(7,.lp 7 0)] [(7,[vL 1 (A7 (I5 d)),vL 2 (Vr.cs (Iz d)),vL 2 (Vr.cs (IV d)),vL 10 (Bo.cs (D6 d)),A1 (AA (AN d)),vS (Af (AN d)),vL 9 (Tp.cs (A8 (AN d))),vL 1 (A7 (Aj (AN d))),A1 (Ab (Br (AN d))),vS (Aq (Br (AN d))),A1 (Ch (Br (AN d))),vL 4 (Pr.cs (As (Br (AN d)))),vL 4 (Pr.cs (Ak (AN d))),vL 4 (Pr.cs (I6 d))])] xe)
theorem cd1(l:List Df)(mx:Int)(d:Df)(o n0:Int)(xe:Ext)(hwb:∀ (b:Bo) (k:Int),b∈D6 d->Pu 24 [.sl 4 [AO (QI b),AO (QJ b)],.int .i64 k] (.ret (.int .i64 (Gs [QI b,QJ b] k))))(n:Int)(hN:(D6 d).length<=1000000000)  : (Ob.loop 113 (Ai f22 1) (m5 l mx d o n0 xe 0 n) (Zj l mx d o n0 xe  (KE mx ((D6 d))  n)).1 (Zj l mx d o n0 xe  (KE mx ((D6 d))  n)).2).ok prog:=by
 refine Ds ((D6 d).length) (fun j n=>m5 l mx d o n0 xe j n) (fun i n=>KE mx (List.drop i ((D6 d)))  n) (Zj l mx d o n0 xe) (fun i n=>True) kR ?_ n trivial
 rintro i n hi -
 rcases Nat.lt_or_ge i ((D6 d).length) with Ag | CO
 ·have hd:=AH Ag
  by_cases h0:n<=mx
  ·exact lN Ad [sl (Bo.A0 (D6 d)),rp 4 (dt ((i:Int)<((D6 d).length:Int))),C6 h0,kp,am ((0:Int)<=(i:Int)/\(i:Int)<((Bo.cs (D6 d)).length:Int)) (by (simp only [Bo.A0]; omega)),xBo (D6 d) i Ag,sl (Vr.A0 (boW (List.getD (D6 d) i default))),kp,am ((0:Int)<=(i:Int)/\(i:Int)<((Bo.cs (D6 d)).length:Int)) (by (simp only [Bo.A0]; omega)),xBo (D6 d) i Ag,am ((0:Int)<=(i:Int)/\(i:Int)<((Bo.cs (D6 d)).length:Int)) (by (simp only [Bo.A0]; omega)),xBo (D6 d) i Ag,cl (@hwb (List.getD (D6 d) i default) (mx) (by simp_all)),kp,wr ((i:Int)+1)] Ag (IntKind.wrap .i64 (IntKind.wrap .i64 (IntKind.wrap .i64 (n+1)+((boW (List.getD (D6 d) i default)).length:Int))+Gs [QI (List.getD (D6 d) i default),QJ (List.getD (D6 d) i default)] mx)) trivial (by rw [hd,KE,iP h0])
  ·exact lX Ad [sl (Bo.A0 (D6 d)),rp 4 (dt ((i:Int)<((D6 d).length:Int))),Az h0] (n) (by rw [hd,KE,iN h0])
 ·have he:i=(D6 d).length:=by omega
  exact lX Ad [sl (Bo.A0 (D6 d)),rp 4 (df ((i:Int)<((D6 d).length:Int))),bf false] (n) (by rw [he,List.drop_length,KE])
theorem A2l{l:List Df}{i:Nat}(hw5:∀d∈l,(D6 d).length<=1000000000)(h:i<l.length):(D6 (l.getD i default)).length<=1000000000:=hw5 _ (BF h)
theorem A2m{l:List Df}{i:Nat}(hw3:∀ (d:Df) (b:Bo) (k:Int),d∈l->b∈D6 d->Pu 24 [.sl 4 [AO (QI b),AO (QJ b)],.int .i64 k] (.ret (.int .i64 (Gs [QI b,QJ b] k))))(h:i<l.length):∀ (b:Bo) (k:Int),b∈D6 (l.getD i default)->Pu 24 [.sl 4 [AO (QI b),AO (QJ b)],.int .i64 k] (.ret (.int .i64 (Gs [QI b,QJ b] k))):=fun b k hb=>hw3 _ b k (BF h) hb
abbrev m6(l:List Df)(mx:Int)(j:Int)(n:Int)(e:Ext):S:=S.mk [(0,vL 25 (Df.cs l)),(1,A1 mx),(4,A1 0),(5,A1 n),(6,A1 j)] [] e
def KF(mx:Int):List Df->(Int)->(Int)
 | [],n=>(n)
 | el::r,n=>(if n<=mx then KF mx r (IntKind.wrap .i64 (KE mx (D6 el) (IntKind.wrap .i64 (IntKind.wrap .i64 (IntKind.wrap .i64 (IntKind.wrap .i64 (IntKind.wrap .i64 (IntKind.wrap .i64 (IntKind.wrap .i64 (IntKind.wrap .i64 (n+1)+IntKind.wrap .i64 (Int.tdiv (↑(ByteArray.size (CZ el)):Int) 100))+((Ez el).length:Int))+((I5 el).length:Int))+((Iz el).length:Int))+((IV el).length:Int))+EB [AN el] mx)+Gs (I6 el) mx))+paF (Of el) mx)) else (n))
def Zk(l:List Df)(mx:Int)(e:Ext)(p:(Int)):A5 × S:=(.exit 0,S.mk [(0,vL 25 (Df.cs l)),(1,A1 mx),(4,A1 0),(5,A1 p)] [] e)
theorem cd0(l:List Df)(mx:Int)(kT:∀ (d:Df) (k:Int),d∈l->Pu 23 [.sl 9 [Ay (AN d)],.int .i64 k] (.ret (.int .i64 (EB [AN d] k))))(hw2:∀ (d:Df) (k:Int),d∈l->Pu 24 [.sl 4 (Pr.cs (I6 d)),.int .i64 k] (.ret (.int .i64 (Gs (I6 d) k))))(hw3:∀ (d:Df) (b:Bo) (k:Int),d∈l->b∈D6 d->Pu 24 [.sl 4 [AO (QI b),AO (QJ b)],.int .i64 k] (.ret (.int .i64 (Gs [QI b,QJ b] k))))(hw4:∀ (d:Df) (k:Int),d∈l->Pu 65 [.agg (Ka (Of d)),.int .i64 k] (.ret (.int .i64 (paF (Of d) k))))(hw5:∀d∈l,(D6 d).length<=1000000000)(n:Int)(e:Ext)(hN:l.length<=1000000000)  : (Ob.loop 113 (Ai f22 0) (m6 l mx 0 n e) (Zk l mx e (KF mx (l)  n)).1 (Zk l mx e (KF mx (l)  n)).2).ok prog:=by
 refine Ds l.length (fun j n=>m6 l mx j n e) (fun i n=>KF mx (List.drop i (l))  n) (Zk l mx e) (fun i n=>True) kR ?_ n trivial
 rintro i n hi -
 rcases Nat.lt_or_ge i (l.length) with Ag | CO
 ·have hd:=AH Ag
  by_cases h0:n<=mx
  ·exact lN Ad [sl (Df.A0 l),rp 4 (dt ((i:Int)<(l.length:Int))),C6 h0,am ((0:Int)<=(i:Int)/\(i:Int)<((Df.cs l).length:Int)) (by (simp only [Df.A0]; omega)),WY l i Ag,kp,am ((0:Int)<=(i:Int)/\(i:Int)<((Df.cs l).length:Int)) (by (simp only [Df.A0]; omega)),WY l i Ag,rp 3 (kp),ab true,am ((0:Int)<=(i:Int)/\(i:Int)<((Df.cs l).length:Int)) (by (simp only [Df.A0]; omega)),WY l i Ag,sl (A3 (Ez (List.getD l i default))),kp,sl (A3 (I5 (List.getD l i default))),kp,sl (Vr.A0 (Iz (List.getD l i default))),kp,sl (Vr.A0 (IV (List.getD l i default))),kp,cl (@kT (List.getD l i default) (mx) (by simp_all)),kp,cl (@hw2 (List.getD l i default) (mx) (by simp_all)),kp,lp (S.mk [(0,vL 25 (Df.cs l)),(1,A1 mx),(4,A1 0),(5,A1 (IntKind.wrap .i64 (IntKind.wrap .i64 (IntKind.wrap .i64 (IntKind.wrap .i64 (IntKind.wrap .i64 (IntKind.wrap .i64 (IntKind.wrap .i64 (IntKind.wrap .i64 (n+1)+IntKind.wrap .i64 (Int.tdiv (↑(ByteArray.size (CZ (List.getD l i default))):Int) 100))+((Ez (List.getD l i default)).length:Int))+((I5 (List.getD l i default)).length:Int))+((Iz (List.getD l i default)).length:Int))+((IV (List.getD l i default)).length:Int))+EB [AN (List.getD l i default)] mx)+Gs (I6 (List.getD l i default)) mx))),(6,A1 (i:Int)),(9,A1 (i:Int)),(10,vL 25 (Df.cs l)),(11,A1 (l.length:Int)),(12,.v (.bool (decide ((i:Int)<(l.length:Int))))),(13,.v (.bool (decide ((i:Int)<(l.length:Int))))),(14,A1 n),(15,A1 mx),(16,.v (.bool (decide (n<=mx)))),(17,.v (.bool (decide (n<=mx)))),(20,vL 25 (Df.cs l)),(21,A1 (i:Int)),(22,.v (.ro (Kb (List.getD l i default)) 0)),(23,.v (.ro (Kb (List.getD l i default)) 11)),(24,.v (.agg [.sl 1 (A7 (I5 (List.getD l i default))),.sl 2 (Vr.cs (Iz (List.getD l i default))),.sl 2 (Vr.cs (IV (List.getD l i default))),.sl 10 (Bo.cs (D6 (List.getD l i default))),pI (AA (AN (List.getD l i default))),.str (Af (AN (List.getD l i default))),.sl 9 (Tp.cs (A8 (AN (List.getD l i default)))),.sl 1 (A7 (Aj (AN (List.getD l i default)))),pI (Ab (Br (AN (List.getD l i default)))),.str (Aq (Br (AN (List.getD l i default)))),pI (Ch (Br (AN (List.getD l i default)))),.sl 4 (Pr.cs (As (Br (AN (List.getD l i default))))),.sl 4 (Pr.cs (Ak (AN (List.getD l i default)))),.sl 4 (Pr.cs (I6 (List.getD l i default)))])),(7,.lp 7 0),(25,A1 n),(26,A1 (IntKind.wrap .i64 (n+1))),(27,vL 25 (Df.cs l)),(28,A1 (i:Int)),(29,.v (.ro (Kb (List.getD l i default)) 0)),(30,.v (.ro (Kb (List.getD l i default)) 0)),(31,vS (CZ (List.getD l i default))),(32,A1 (↑(ByteArray.size (CZ (List.getD l i default))):Int)),(33,A1 (IntKind.wrap .i64 (Int.tdiv (↑(ByteArray.size (CZ (List.getD l i default))):Int) 100))),(34,A1 (IntKind.wrap .i64 (IntKind.wrap .i64 (n+1)+IntKind.wrap .i64 (Int.tdiv (↑(ByteArray.size (CZ (List.getD l i default))):Int) 100)))),(35,vL 25 (Df.cs l)),(36,A1 (i:Int)),(37,.v (.ro (Kb (List.getD l i default)) 0)),(38,.v (.ro (Kb (List.getD l i default)) 1)),(39,vL 1 (A7 (Ez (List.getD l i default)))),(40,A1 ((Ez (List.getD l i default)).length:Int)),(41,A1 (IntKind.wrap .i64 (IntKind.wrap .i64 (IntKind.wrap .i64 (n+1)+IntKind.wrap .i64 (Int.tdiv (↑(ByteArray.size (CZ (List.getD l i default))):Int) 100))+((Ez (List.getD l i default)).length:Int)))),(42,.lp 7 0),(43,vL 1 (A7 (I5 (List.getD l i default)))),(44,A1 ((I5 (List.getD l i default)).length:Int)),(45,A1 (IntKind.wrap .i64 (IntKind.wrap .i64 (IntKind.wrap .i64 (IntKind.wrap .i64 (n+1)+IntKind.wrap .i64 (Int.tdiv (↑(ByteArray.size (CZ (List.getD l i default))):Int) 100))+((Ez (List.getD l i default)).length:Int))+((I5 (List.getD l i default)).length:Int)))),(46,.lp 7 1),(47,vL 2 (Vr.cs (Iz (List.getD l i default)))),(48,A1 ((Iz (List.getD l i default)).length:Int)),(49,A1 (IntKind.wrap .i64 (IntKind.wrap .i64 (IntKind.wrap .i64 (IntKind.wrap .i64 (IntKind.wrap .i64 (n+1)+IntKind.wrap .i64 (Int.tdiv (↑(ByteArray.size (CZ (List.getD l i default))):Int) 100))+((Ez (List.getD l i default)).length:Int))+((I5 (List.getD l i default)).length:Int))+((Iz (List.getD l i default)).length:Int)))),(50,.lp 7 2),(51,vL 2 (Vr.cs (IV (List.getD l i default)))),(52,A1 ((IV (List.getD l i default)).length:Int)),(53,A1 (IntKind.wrap .i64 (IntKind.wrap .i64 (IntKind.wrap .i64 (IntKind.wrap .i64 (IntKind.wrap .i64 (IntKind.wrap .i64 (n+1)+IntKind.wrap .i64 (Int.tdiv (↑(ByteArray.size (CZ (List.getD l i default))):Int) 100))+((Ez (List.getD l i default)).length:Int))+((I5 (List.getD l i default)).length:Int))+((Iz (List.getD l i default)).length:Int))+((IV (List.getD l i default)).length:Int)))),(54,.lp 7 4),(55,.v (.agg (Ay (AN (List.getD l i default))))),(56,LV.full 9 [Ay (AN (List.getD l i default))]),(57,A1 mx),(58,A1 (EB [AN (List.getD l i default)] mx)),(59,A1 (IntKind.wrap .i64 (IntKind.wrap .i64 (IntKind.wrap .i64 (IntKind.wrap .i64 (IntKind.wrap .i64 (IntKind.wrap .i64 (IntKind.wrap .i64 (n+1)+IntKind.wrap .i64 (Int.tdiv (↑(ByteArray.size (CZ (List.getD l i default))):Int) 100))+((Ez (List.getD l i default)).length:Int))+((I5 (List.getD l i default)).length:Int))+((Iz (List.getD l i default)).length:Int))+((IV (List.getD l i default)).length:Int))+EB [AN (List.getD l i default)] mx))),(60,.lp 7 13),(61,vL 4 (Pr.cs (I6 (List.getD l i default)))),(62,A1 mx),(63,A1 (Gs (I6 (List.getD l i default)) mx)),(64,A1 (IntKind.wrap .i64 (IntKind.wrap .i64 (IntKind.wrap .i64 (IntKind.wrap .i64 (IntKind.wrap .i64 (IntKind.wrap .i64 (IntKind.wrap .i64 (IntKind.wrap .i64 (n+1)+IntKind.wrap .i64 (Int.tdiv (↑(ByteArray.size (CZ (List.getD l i default))):Int) 100))+((Ez (List.getD l i default)).length:Int))+((I5 (List.getD l i default)).length:Int))+((Iz (List.getD l i default)).length:Int))+((IV (List.getD l i default)).length:Int))+EB [AN (List.getD l i default)] mx)+Gs (I6 (List.getD l i default)) mx))),(8,A1 0)] [(7,[vL 1 (A7 (I5 (List.getD l i default))),vL 2 (Vr.cs (Iz (List.getD l i default))),vL 2 (Vr.cs (IV (List.getD l i default))),vL 10 (Bo.cs (D6 (List.getD l i default))),A1 (AA (AN (List.getD l i default))),vS (Af (AN (List.getD l i default))),vL 9 (Tp.cs (A8 (AN (List.getD l i default)))),vL 1 (A7 (Aj (AN (List.getD l i default)))),A1 (Ab (Br (AN (List.getD l i default)))),vS (Aq (Br (AN (List.getD l i default)))),A1 (Ch (Br (AN (List.getD l i default)))),vL 4 (Pr.cs (As (Br (AN (List.getD l i default))))),vL 4 (Pr.cs (Ak (AN (List.getD l i default)))),vL 4 (Pr.cs (I6 (List.getD l i default)))])] e) (@cd1 (l) (mx) (List.getD l i default) ((i:Int)) default (e) (by (apply A2m <;> first | assumption | omega | decide)) (IntKind.wrap .i64 (IntKind.wrap .i64 (IntKind.wrap .i64 (IntKind.wrap .i64 (IntKind.wrap .i64 (IntKind.wrap .i64 (IntKind.wrap .i64 (IntKind.wrap .i64 (n+1)+IntKind.wrap .i64 (Int.tdiv (↑(ByteArray.size (CZ (List.getD l i default))):Int) 100))+((Ez (List.getD l i default)).length:Int))+((I5 (List.getD l i default)).length:Int))+((Iz (List.getD l i default)).length:Int))+((IV (List.getD l i default)).length:Int))+EB [AN (List.getD l i default)] mx)+Gs (I6 (List.getD l i default)) mx)) (by (apply A2l <;> first | assumption | omega | decide))) xr,am ((0:Int)<=(i:Int)/\(i:Int)<((Df.cs l).length:Int)) (by (simp only [Df.A0]; omega)),WY l i Ag,cl (@hw4 (List.getD l i default) (mx) (by simp_all)),kp,wr ((i:Int)+1)] Ag (IntKind.wrap .i64 (KE mx (D6 (List.getD l i default)) (IntKind.wrap .i64 (IntKind.wrap .i64 (IntKind.wrap .i64 (IntKind.wrap .i64 (IntKind.wrap .i64 (IntKind.wrap .i64 (IntKind.wrap .i64 (IntKind.wrap .i64 (n+1)+IntKind.wrap .i64 (Int.tdiv (↑(ByteArray.size (CZ (List.getD l i default))):Int) 100))+((Ez (List.getD l i default)).length:Int))+((I5 (List.getD l i default)).length:Int))+((Iz (List.getD l i default)).length:Int))+((IV (List.getD l i default)).length:Int))+EB [AN (List.getD l i default)] mx)+Gs (I6 (List.getD l i default)) mx))+paF (Of (List.getD l i default)) mx)) trivial (by rw [hd,KF,iP h0])
  ·exact lX Ad [sl (Df.A0 l),rp 4 (dt ((i:Int)<(l.length:Int))),Az h0] (n) (by rw [hd,KF,iN h0])
 ·have he:i=l.length:=by omega
  exact lX Ad [sl (Df.A0 l),rp 4 (df ((i:Int)<(l.length:Int))),bf false] (n) (by rw [he,List.drop_length,KF])
theorem cdL(l:List Df)(mx:Int)(kT:∀ (d:Df) (k:Int),d∈l->Pu 23 [.sl 9 [Ay (AN d)],.int .i64 k] (.ret (.int .i64 (EB [AN d] k))))(hw2:∀ (d:Df) (k:Int),d∈l->Pu 24 [.sl 4 (Pr.cs (I6 d)),.int .i64 k] (.ret (.int .i64 (Gs (I6 d) k))))(hw3:∀ (d:Df) (b:Bo) (k:Int),d∈l->b∈D6 d->Pu 24 [.sl 4 [AO (QI b),AO (QJ b)],.int .i64 k] (.ret (.int .i64 (Gs [QI b,QJ b] k))))(hw4:∀ (d:Df) (k:Int),d∈l->Pu 65 [.agg (Ka (Of d)),.int .i64 k] (.ret (.int .i64 (paF (Of d) k))))(hw5:∀d∈l,(D6 d).length<=1000000000)(Cd:l.length<=1000000000):Pu 22 [.sl 25 (Df.cs l),pI mx] (rI (KF mx l 0)):=
 pu Ad (fun e=>[lq (@cd0 (l) (mx) kT hw2 hw3 hw4 hw5 (0) (e) Cd)]) func22
theorem I8(d:Df):A6 (Ka (Of d))+A6 (Ay (AN d))+Am (Pr.cs (I6 d))+Am (Bo.cs (D6 d))<A6 (Kb d):=by simp only [A6,CK]; omega
theorem iL(b:Bo):A6 (AO (QI b))+A6 (AO (QJ b))<A6 (lH b):=by simp only [A6,CK]; omega
end Go.Proofs.YthchpmnkecoafaaGreatDoor
