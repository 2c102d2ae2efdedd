/- Values of Go as plain data, an evaluator over them, and what the functions of the program return; part Ye. -/
import Derived.Test.YthchpmnkecoafaaGreatDoorYd
import Derived.RangeFuncNested
import Derived.RangeFuncBound
import Derived.RangeFuncCalls
import Derived.RangeFuncLeaves
import Derived.Shelf.Abstract
import Derived.Shelf.RegionOpen
import Derived.WalkKit
import Derived.OwnWalkIn
import Derived.TacticsInMore
import Derived.LoopNIn
import Derived.LoopIn
import Derived.Test.YthchpmnkecoafaaGreatDoorYa
set_option linter.unusedSectionVars false
set_option linter.unusedSimpArgs false
set_option linter.unusedVariables false
namespace Go.Proofs.YthchpmnkecoafaaGreatDoor
open Go.Proofs.Tryz
open Go.Pv Go.Proofs.Tryz
set_option maxRecDepth 100000
theorem pt1{s:BA}{b:Int}{i:Nat}{out:List BA}(hv:0<=b/\b<=(i:Int)/\out.length<=i)(h:i<List.length (s.data.toList)):(0:Int)<=b/\b<=(i:Int)/\(i:Int)<=(s.size:Int):=by
 have:=KY h; omega
theorem pt2{b:Int}{i:Nat}{out:List BA}{x:BA}(hv:0<=b/\b<=(i:Int)/\out.length<=i):0<=(i:Int)+1/\(i:Int)+1<=((i+1:Nat):Int)/\(out++[x]).length<=i+1:=by
 simp; omega
theorem pt3{b:Int}{i:Nat}{out:List BA}(hv:0<=b/\b<=(i:Int)/\out.length<=i):0<=b/\b<=((i+1:Nat):Int)/\out.length<=i+1:=by omega
abbrev mD(s:BA)(j:Int)(out:List BA)(b:Int)(e:Ext):S:=S.mk [(0,vS s),(2,.v .A4),(3,.uniq 9 1 (A7 out)),(4,A1 b),(7,A1 (↑(ByteArray.size s):Int)),(8,A1 j)] [] e
def D7(s:BA):List UInt8->Nat->(List BA)->(Int)->(List BA) × (Int)
 | [],i,out,b=>(out,b)
 | el::r,i,out,b=>(if (↑(UInt8.toNat el):Int)=46 then D7 s r (i+1) (out++[ByteArray.extract s (Int.toNat b) i]) ((i:Int)+1) else D7 s r (i+1) (out) (b))
def Zz(s:BA)(e:Ext)(p:(List BA) × (Int)):A5 × S:=(.exit 0,S.mk [(0,vS s),(2,.v .A4),(3,.uniq 9 1 (A7 (Prod.fst p))),(4,A1 (Prod.snd p)),(7,A1 (↑(ByteArray.size s):Int))] [] e)
theorem rPt(s:BA)(out:List BA)(b:Int)(e:Ext)(hN:List.length ((s.data.toList))<=1000000000)(hv:0<=b/\b<=(0:Int)/\List.length out<=0):(Ob.loop 31 (Ai f138 0) (mD s 0 out b e) (Zz s e (D7 s ((s.data.toList)) 0 out b)).1 (Zz s e (D7 s ((s.data.toList)) 0 out b)).2).ok prog:=by
 refine Ds (List.length ((s.data.toList))) (fun j zz=>mD s j zz.1 zz.2 e) (fun i zz=>D7 s (List.drop i ((s.data.toList))) i zz.1 zz.2) (Zz s e) (fun i zz=>(fun (i:Nat) (out:List BA) (b:Int)=>(0<=b/\b<=(i:Int)/\out.length<=i)) i zz.1 zz.2) kR ?_ (out,b) (by first | exact hv | omega)
 rintro i ⟨out,b⟩ hi hv
 try simp only at hv
 rcases Nat.lt_or_ge i (List.length ((s.data.toList))) with Ag | CO
 ·have hd:=AH Ag
  by_cases h0:(↑(UInt8.toNat (List.getD (Array.toList (ByteArray.data s)) i default)):Int)=46
  ·exact lS Ad [dt ((i:Int)<(↑(ByteArray.size s):Int)) (by (apply KY <;> first | assumption | omega | decide)),am ((0:Int)<=(i:Int)/\(i:Int)<(↑(ByteArray.size s):Int)) (by simp_all [D2]),av (.v (.int .u8 (↑(UInt8.toNat (List.getD (Array.toList (ByteArray.data s)) (Int.toNat (i:Int)) default)):Int))) (.v (.int .u8 (↑(UInt8.toNat (List.getD (Array.toList (ByteArray.data s)) i default)):Int))) rF,Bh h0,am ((0:Int)<=b/\b<=(i:Int)/\(i:Int)<=(↑(ByteArray.size s):Int)) (by (apply pt1 <;> first | assumption | omega | decide)),av (vS (ByteArray.extract s (Int.toNat b) (Int.toNat (i:Int)))) (vS (ByteArray.extract s (Int.toNat b) i)) rF,am (List.length (A7 out++(fun x=>Prod.snd x) (0+1,[[.str (ByteArray.extract s (Int.toNat b) i)]])) * (15+1)<=140737488355328) (by (simp only [List.length_append,List.length_cons,List.length_nil,A3]; omega)),rp 2 (wr ((i:Int)+1))] [0,2,3,4,7,8] [] Ag ((out++[ByteArray.extract s (Int.toNat b) i]),((i:Int)+1)) (S.mk [(0,vS s),(2,.v .A4),(3,.uniq 9 1 (A7 out++[[PV.str (ByteArray.extract s (Int.toNat b) i)]])),(4,A1 ((i:Int)+1)),(7,A1 (↑(ByteArray.size s):Int)),(8,A1 ((i:Int)+1))] [] e) ⟨⟨W,W,(.inl (by first | (simp only [List.nil_append,AX,AM,Pr.A2,Tp.A2,Ex.A2,Vr.A2,Df.A2]; done) | (simp only [List.nil_append,AX,AM,Pr.A2,Tp.A2,Ex.A2,Vr.A2,Df.A2]; rfl))),W,W,W,An⟩,trivial,rfl⟩ (by first | assumption | omega | (apply KY <;> first | assumption | omega | decide) | (apply fA <;> first | assumption | omega | decide) | (apply bzZ <;> first | assumption | omega | decide) | (apply bzA <;> first | assumption | omega | decide) | (apply pt1 <;> first | assumption | omega | decide) | (apply pt2 <;> first | assumption | omega | decide) | (apply pt3 <;> first | assumption | omega | decide) | (simp only [List.length_append,List.length_cons,List.length_nil] at *; omega) | simp_all) (by rw [hd,D7,iP h0])
  ·exact lN Ad [dt ((i:Int)<(↑(ByteArray.size s):Int)) (by (apply KY <;> first | assumption | omega | decide)),am ((0:Int)<=(i:Int)/\(i:Int)<(↑(ByteArray.size s):Int)) (by simp_all [D2]),av (.v (.int .u8 (↑(UInt8.toNat (List.getD (Array.toList (ByteArray.data s)) (Int.toNat (i:Int)) default)):Int))) (.v (.int .u8 (↑(UInt8.toNat (List.getD (Array.toList (ByteArray.data s)) i default)):Int))) rF,Aw h0,wr ((i:Int)+1)] Ag ((out),(b)) (by first | assumption | omega | (apply KY <;> first | assumption | omega | decide) | (apply fA <;> first | assumption | omega | decide) | (apply bzZ <;> first | assumption | omega | decide) | (apply bzA <;> first | assumption | omega | decide) | (apply pt1 <;> first | assumption | omega | decide) | (apply pt2 <;> first | assumption | omega | decide) | (apply pt3 <;> first | assumption | omega | decide) | (simp only [List.length_append,List.length_cons,List.length_nil] at *; omega) | simp_all) (by rw [hd,D7,iN h0])
 ·have he:i=List.length ((s.data.toList)):=by omega
  exact lX Ad [df ((i:Int)<(↑(ByteArray.size s):Int)) (by (apply fA <;> first | assumption | omega | decide))] (out,b) (by rw [he,List.drop_length,D7])
theorem ZA(s:BA):∀ (r:List UInt8) (i:Nat) (out:List BA) (b:Nat),b<=i->(D7 s r i out (b:Int)).1.length<=out.length+r.length/\∃b':Nat,(D7 s r i out (b:Int)).2=(b':Int)/\b'<=i+r.length
 | [],i,out,b,h=>⟨by simp [D7],b,rfl,by simp; omega⟩
 | c::r,i,out,b,h=>by
  rw [D7]
  split
  ·obtain ⟨h1,b',h2,h3⟩:=ZA s r (i+1) (out++[s.extract (Int.toNat b) i]) (i+1) (Nat.le_refl _)
   rw [show ((i:Int)+1)=((i+1:Nat):Int) by omega]
   exact ⟨by simp only [List.length_append,List.length_cons,List.length_nil] at h1 ⊢; omega,b',h2,by simp only [List.length_cons]; omega⟩
  ·obtain ⟨h1,b',h2,h3⟩:=ZA s r (i+1) out b oM
   exact ⟨by simp only [List.length_cons]; omega,b',h2,by simp only [List.length_cons]; omega⟩
theorem Aat(s:BA)(hs:s.size<=1000000000)(h2:0<=(D7 s (s.data.toList) 0 [] 0).2/\(D7 s (s.data.toList) 0 [] 0).2<=(s.size:Int))(h3:(D7 s (s.data.toList) 0 [] 0).1.length<=1000000000):Pu 138 [.str s] (.own 9 1 (A7 (Prod.fst (D7 s (Array.toList (ByteArray.data s)) 0 [] 0))++[[PV.str (ByteArray.extract s (Int.toNat (Prod.snd (D7 s (Array.toList (ByteArray.data s)) 0 [] 0))) (ByteArray.size s))]])):=
 pu Ad (fun e=>[kp,lp (S.mk [(0,vS s),(2,.v .A4),(3,.v .A4),(4,A1 0),(6,vS s),(7,A1 (↑(ByteArray.size s):Int)),(8,A1 0)] [] e) (@rPt (s) ([]) (0) (e) (by (apply Hz <;> first | assumption | omega | decide)) dD) ⟨⟨W,W,Wq,W,W,W,An⟩,trivial,rfl⟩,am ((0:Int)<=Prod.snd (D7 s (Array.toList (ByteArray.data s)) 0 [] 0)/\Prod.snd (D7 s (Array.toList (ByteArray.data s)) 0 [] 0)<=(↑(ByteArray.size s):Int)/\(↑(ByteArray.size s):Int)<=(↑(ByteArray.size s):Int)),av (vS (ByteArray.extract s (Int.toNat (Prod.snd (D7 s (Array.toList (ByteArray.data s)) 0 [] 0))) (Int.toNat (↑(ByteArray.size s):Int)))) (vS (ByteArray.extract s (Int.toNat (Prod.snd (D7 s (Array.toList (ByteArray.data s)) 0 [] 0))) (ByteArray.size s))) rF,am (List.length (A7 (Prod.fst (D7 s (Array.toList (ByteArray.data s)) 0 [] 0))++(fun x=>Prod.snd x) (0+1,[[.str (ByteArray.extract s (Int.toNat (Prod.snd (D7 s (Array.toList (ByteArray.data s)) 0 [] 0))) (ByteArray.size s))]])) * (15+1)<=140737488355328) (by (simp only [List.length_append,List.length_cons,List.length_nil,A3,Int.toNat_zero]; omega))]) func138
def WZ:Nat->BA->List BA
 | 0,s=>[s]
 | n+1,s=>if B8 s<s.size then s.extract 0 (B8 s)::WZ n (s.extract (B8 s+1) s.size) else [s]
theorem mE(s:BA)(b:Nat):(s.extract b s.size).data.toList=s.data.toList.drop b:=by
 rw [ByteArray.data_extract,Array.toList_extract,List.extract_eq_take_drop]
 exact List.take_of_length_le (by rw [List.length_drop,Array.length_toList]; exact Nat.le_refl _)
theorem ZB(s:BA):∀ (pre r:List UInt8) (out:List BA) (b n:Nat),s.data.toList=pre++r->b<=pre.length->Ux (s.data.toList.drop b)=pre.length - b+Ux r->s.size - b<n ->
  (D7 s r pre.length out (b:Int)).1++[s.extract (D7 s r pre.length out (b:Int)).2.toNat s.size]=out++WZ n (s.extract b s.size)
 | pre,r,out,b,0,_,_,_,h=>by omega
 | pre,[],out,b,n+1,h,hb,hp,_=>by
  have hl:s.size=pre.length:=by rw [show s.size=s.data.toList.length by simp,h]; simp
  have h2:B8 (s.extract b s.size)=s.size - b:=by rw [B8,mE,hp,hl]; rfl
  rw [D7,WZ,iN (by rw [h2,ByteArray.size_extract]; omega)]
  rfl
 | pre,c::r,out,b,n+1,h,hb,hp,hn=>by
  have hl:s.size=pre.length+(r.length+1):=by rw [show s.size=s.data.toList.length by simp,h]; simp
  have hd:s.data.toList.drop (pre.length+1)=r:=by rw [h]; simp
  rw [D7]
  by_cases hc:((c.toNat:Nat):Int)=46
  ·have h2:B8 (s.extract b s.size)=pre.length - b:=by rw [B8,mE,hp]; simp [Ux,hc]
   have ih:=ZB s (pre++[c]) r (out++[s.extract b pre.length]) (pre.length+1) n (by rw [h]; simp) sM (by rw [hd]; simp) oM
   simp only [List.length_append,List.length_cons,List.length_nil,Nat.zero_add] at ih
   rw [iP hc,show ((pre.length:Int)+1)=((pre.length+1:Nat):Int) by omega,Int.toNat_natCast,ih,WZ,iP (by rw [h2,ByteArray.size_extract]; omega),h2,ByteArray.extract_extract,ByteArray.extract_extract,List.append_assoc,ByteArray.size_extract]
   have e1:min (b+(pre.length - b)) s.size=pre.length:=by omega
   have e2:b+(pre.length - b+1)=pre.length+1:=by omega
   have e3:min (b+(min s.size s.size - b)) s.size=s.size:=by omega
   rw [e1,e2,e3]; rfl
  ·have hi:Ux (c::r)=Ux r+1:=by simp [Ux,hc]
   have ih:=ZB s (pre++[c]) r out b (n+1) (by rw [h]; simp) (by simp; omega) (by rw [hp,hi]; simp; omega) hn
   simp only [List.length_append,List.length_cons,List.length_nil,Nat.zero_add] at ih
   rw [iN hc,ih]
theorem ZC:∀ (n:Nat) (s:BA),s.size<n->Nl s=(WZ n s).all CW
 | 0,_,h=>by omega
 | n+1,s,h=>by
  rw [Tn,WZ]
  by_cases hx:B8 s<s.size
  ·have:=JZ s hx
   rw [iP hx,iP hx,List.all_cons,ZC n _ oM]
  ·rw [iN hx,iN hx]; simp
def fD(s:BA):BA:=if B8 s<s.size then s.extract 0 (B8 s) else s
def UG(s:BA):List BA:=if B8 s<s.size then WZ (s.size+1) (s.extract (B8 s+1) s.size) else []
theorem Aau(s:BA)(hs:s.size<=100000000):Pu 138 [.str s] (.own 9 1 ([.str (fD s)]::A7 (UG s))):=by
 obtain ⟨h1,b',h2,h3⟩:=ZA s s.data.toList 0 [] 0 (Nat.le_refl _)
 have hl:s.data.toList.length=s.size:=by simp
 have h0:=Aat s oM (by rw [show (0:Int)=((0:Nat):Int) from rfl,h2]; omega) (by rw [show (0:Int)=((0:Nat):Int) from rfl]; simp only [List.length_nil] at h1; omega)
 have he:=ZB s [] s.data.toList [] 0 (s.size+2) rfl (Nat.le_refl _) sM oM
 simp only [List.length_nil,List.nil_append,ByteArray.extract_zero_size] at he
 have hn:A7 ((D7 s s.data.toList 0 [] 0).1++[s.extract (D7 s s.data.toList 0 [] 0).2.toNat s.size])=[.str (fD s)]::A7 (UG s):=by
  rw [show (0:Int)=((0:Nat):Int) from rfl,he]
  unfold fD UG
  rw [WZ]
  by_cases hx:B8 s<s.size
  ·rw [iP hx,iP hx,iP hx]; rfl
  ·rw [iN hx,iN hx,iN hx]; rfl
 rw [<-hn,AM]
 exact h0
theorem dtk(x:List PV)(r:List BA):List.drop 1 (List.take (r.length+1) (x::A7 r))=A7 r:=by
 rw [List.take_succ_cons,List.drop_succ_cons,List.drop_zero]
 exact List.take_of_length_le (by rw [A3]; exact Nat.le_refl _)
abbrev Wz(t:Tp)(xe:Ext):S:=⟨[(1,.lp 1 0),(2,.v (.int .i64 0))],[(1,Bj t)],xe⟩
abbrev tG(t:Tp)(Dj:Bool)(xe:Ext):S:=⟨[(1,.lp 1 0),(2,.v (.int .i64 0)),(3,.v (.bool Dj))],[(1,Bj t)],xe⟩
abbrev UH(t:Tp)(Dj cmp:Bool)(xe:Ext):S:=⟨[(1,.lp 1 0),(2,.v (.int .i64 0)),(3,.v (.bool Dj)),(4,.v (.bool cmp))],[(1,Bj t)],xe⟩
theorem A2y(t:Tp)(xe:Ext)(Ac:AA t=4)(cx:Cx)(Ar:cx.n=102){Q:A5->S->Prop}(hq:Q (.normal) (S.mk [(1,.lp 1 0),(2,A1 0),(3,.v (.bool true))] [(1,Bj t)] xe)):PW prog cx (AW f122 1) (Wz t xe) Q:=
 pw Ad 102 [rp 4 (Bh Ac)] [1,2,3] [1] Ar hq
theorem A2z(t:Tp)(xe:Ext)(Ac:¬AA t=4)(cx:Cx)(Ar:cx.n=102){Q:A5->S->Prop}(hq:Q (.normal) (S.mk [(1,.lp 1 0),(2,A1 0),(3,.v (.bool (AA t==5)))] [(1,Bj t)] xe)):PW prog cx (AW f122 1) (Wz t xe) Q:=
 pw Ad 102 [rp 4 (Aw Ac)] [1,2,3] [1] Ar hq
def AF(t:Tp):Bool:=(if AA t=4 then (true) else ((AA t==5)))
theorem RZ(t:Tp)(xe:Ext):(Ob.Ev 102 (AW f122 1) (Wz t xe) (.normal) (S.mk [(1,.lp 1 0),(2,A1 0),(3,.v (.bool (AF t)))] [(1,Bj t)] xe)).ok prog:=by
 intro cx Ar
 by_cases g0:AA t=4
 ·exact A2y t xe g0 cx Ar ⟨rfl,by rw [show AF t=(true) by unfold AF; rw [iP g0]]⟩
 ·exact A2z t xe g0 cx Ar ⟨rfl,by rw [show AF t=((AA t==5)) by unfold AF; rw [iN g0]]⟩
theorem A30(t:Tp)(Dj:Bool)(xe:Ext)(Ac:AA t=4)(cx:Cx)(Ar:cx.n=102){Q:A5->S->Prop}(hq:Q (.normal) (S.mk [(1,.lp 1 0),(2,A1 0),(3,.v (.bool Dj)),(4,.v (.bool true))] [(1,Bj t)] xe)):PW prog cx (AW f122 2) (tG t Dj xe) Q:=
 pw Ad 102 [rp 4 (Bh Ac)] [1,2,3,4] [1] Ar hq
theorem A31(t:Tp)(Dj:Bool)(xe:Ext)(Ac:¬AA t=4)(cx:Cx)(Ar:cx.n=102){Q:A5->S->Prop}(hq:Q (.normal) (S.mk [(1,.lp 1 0),(2,A1 0),(3,.v (.bool Dj)),(4,.v (.bool (AA t==6)))] [(1,Bj t)] xe)):PW prog cx (AW f122 2) (tG t Dj xe) Q:=
 pw Ad 102 [rp 4 (Aw Ac)] [1,2,3,4] [1] Ar hq
def BO(t:Tp)(Dj:Bool):Bool:=(if AA t=4 then (true) else ((AA t==6)))
theorem S0(t:Tp)(Dj:Bool)(xe:Ext):(Ob.Ev 102 (AW f122 2) (tG t Dj xe) (.normal) (S.mk [(1,.lp 1 0),(2,A1 0),(3,.v (.bool Dj)),(4,.v (.bool (BO t Dj)))] [(1,Bj t)] xe)).ok prog:=by
 intro cx Ar
 by_cases g0:AA t=4
 ·exact A30 t Dj xe g0 cx Ar ⟨rfl,by rw [show BO t Dj=(true) by unfold BO; rw [iP g0]]⟩
 ·exact A31 t Dj xe g0 cx Ar ⟨rfl,by rw [show BO t Dj=((AA t==6)) by unfold BO; rw [iN g0]]⟩
section
variable (t:Tp) (Dj cmp:Bool) (xe:Ext)
include t Dj cmp xe
theorem A32(Ac:AA t<1)(cx:Cx)(Ar:cx.n=102){Q:A5->S->Prop}(hq:Q (.normal) (S.mk [(1,.lp 1 0),(2,A1 0),(3,.v (.bool Dj)),(4,.v (.bool cmp)),(63,.v (.bool true))] [(1,Bj t)] xe)):PW prog cx (AW f122 3) (UH t Dj cmp xe) Q:=
 pw Ad 102 [rp 4 (C6 Ac),rp 20 (bt true)] [1,2,3,4,63] [1] Ar hq
theorem A33(Ac:¬AA t<1)(Ae:AA t>6)(cx:Cx)(Ar:cx.n=102){Q:A5->S->Prop}(hq:Q (.normal) (S.mk [(1,.lp 1 0),(2,A1 0),(3,.v (.bool Dj)),(4,.v (.bool cmp)),(63,.v (.bool true))] [(1,Bj t)] xe)):PW prog cx (AW f122 3) (UH t Dj cmp xe) Q:=
 pw Ad 102 [rp 4 (Az Ac),rp 6 (C6 Ae),rp 14 (bt true)] [1,2,3,4,63] [1] Ar hq
theorem A34(Ac:¬AA t<1)(Ae:¬AA t>6)(Ao:¬Af t=ByteArray.mk #[])(AK:Dj=false)(cx:Cx)(Ar:cx.n=102){Q:A5->S->Prop}(hq:Q (.normal) (S.mk [(1,.lp 1 0),(2,A1 0),(3,.v (.bool Dj)),(4,.v (.bool cmp)),(63,.v (.bool true))] [(1,Bj t)] xe)):PW prog cx (AW f122 3) (UH t Dj cmp xe) Q:=
 pw Ad 102 [rp 4 (Az Ac),rp 4 (Az Ae),rp 2 (bt (!ByteArray.toList (Af t)==ByteArray.toList Ah) (B6 (BZ Ao))),Az Ae,bt (!ByteArray.toList (Af t)==ByteArray.toList Ah) (B6 (BZ Ao)),Az Ae,rp 7 (B2 (B6 AK)),rp 7 (bt true)] [1,2,3,4,63] [1] Ar hq
theorem A35(Ac:¬AA t<1)(Ae:¬AA t>6)(Ao:¬Af t=ByteArray.mk #[])(AK:Dj=true)(B9:((A8 t).length:Int)>0)(BU:cmp=false)(cx:Cx)(Ar:cx.n=102){Q:A5->S->Prop}(hq:Q (.normal) (S.mk [(1,.lp 1 0),(2,A1 0),(3,.v (.bool Dj)),(4,.v (.bool cmp)),(63,.v (.bool true))] [(1,Bj t)] xe)):PW prog cx (AW f122 3) (UH t Dj cmp xe) Q:=
 pw Ad 102 [rp 4 (Az Ac),rp 4 (Az Ae),rp 2 (bt (!ByteArray.toList (Af t)==ByteArray.toList Ah) (B6 (BZ Ao))),Az Ae,bt (!ByteArray.toList (Af t)==ByteArray.toList Ah) (B6 (BZ Ao)),Az Ae,rp 3 (AQ (AJ AK)),sl (Tp.A0 (A8 t)),rp 2 (AQ (AJ AK)),rp 2 (C6 B9),AQ (AJ AK),C6 B9,AQ (AJ AK),rp 7 (B2 (B6 BU))] [1,2,3,4,63] [1] Ar hq
theorem A36(Ac:¬AA t<1)(Ae:¬AA t>6)(Ao:¬Af t=ByteArray.mk #[])(AK:Dj=true)(B9:((A8 t).length:Int)>0)(BU:cmp=true)(Fk:((Aj t).length:Int)>0)(cx:Cx)(Ar:cx.n=102){Q:A5->S->Prop}(hq:Q (.normal) (S.mk [(1,.lp 1 0),(2,A1 0),(3,.v (.bool Dj)),(4,.v (.bool cmp)),(63,.v (.bool (AA t != 6)))] [(1,Bj t)] xe)):PW prog cx (AW f122 3) (UH t Dj cmp xe) Q:=
 pw Ad 102 [rp 4 (Az Ac),rp 4 (Az Ae),rp 2 (bt (!ByteArray.toList (Af t)==ByteArray.toList Ah) (B6 (BZ Ao))),Az Ae,bt (!ByteArray.toList (Af t)==ByteArray.toList Ah) (B6 (BZ Ao)),Az Ae,rp 3 (AQ (AJ AK)),sl (Tp.A0 (A8 t)),rp 2 (AQ (AJ AK)),rp 2 (C6 B9),AQ (AJ AK),C6 B9,AQ (AJ AK),rp 3 (AQ (AJ BU)),sl (A3 (Aj t)),rp 2 (AQ (AJ BU)),rp 3 (C6 Fk),AQ (AJ BU),C6 Fk,AQ (AJ BU)] [1,2,3,4,63] [1] Ar hq
theorem A37(Ac:¬AA t<1)(Ae:¬AA t>6)(Ao:¬Af t=ByteArray.mk #[])(AK:Dj=true)(B9:((A8 t).length:Int)>0)(BU:cmp=true)(Fk:¬((Aj t).length:Int)>0)(cx:Cx)(Ar:cx.n=102){Q:A5->S->Prop}(hq:Q (.normal) (S.mk [(1,.lp 1 0),(2,A1 0),(3,.v (.bool Dj)),(4,.v (.bool cmp)),(63,.v (.bool false))] [(1,Bj t)] xe)):PW prog cx (AW f122 3) (UH t Dj cmp xe) Q:=
 pw Ad 102 [rp 4 (Az Ac),rp 4 (Az Ae),rp 2 (bt (!ByteArray.toList (Af t)==ByteArray.toList Ah) (B6 (BZ Ao))),Az Ae,bt (!ByteArray.toList (Af t)==ByteArray.toList Ah) (B6 (BZ Ao)),Az Ae,rp 3 (AQ (AJ AK)),sl (Tp.A0 (A8 t)),rp 2 (AQ (AJ AK)),rp 2 (C6 B9),AQ (AJ AK),C6 B9,AQ (AJ AK),rp 3 (AQ (AJ BU)),sl (A3 (Aj t)),rp 2 (AQ (AJ BU)),rp 3 (Az Fk),AQ (AJ BU),Az Fk,AQ (AJ BU)] [1,2,3,4,63] [1] Ar hq
theorem A38(Ac:¬AA t<1)(Ae:¬AA t>6)(Ao:¬Af t=ByteArray.mk #[])(AK:Dj=true)(B9:¬((A8 t).length:Int)>0)(BU:((Aj t).length:Int)>0)(cx:Cx)(Ar:cx.n=102){Q:A5->S->Prop}(hq:Q (.normal) (S.mk [(1,.lp 1 0),(2,A1 0),(3,.v (.bool Dj)),(4,.v (.bool cmp)),(63,.v (.bool (AA t != 6)))] [(1,Bj t)] xe)):PW prog cx (AW f122 3) (UH t Dj cmp xe) Q:=
 pw Ad 102 [rp 4 (Az Ac),rp 4 (Az Ae),rp 2 (bt (!ByteArray.toList (Af t)==ByteArray.toList Ah) (B6 (BZ Ao))),Az Ae,bt (!ByteArray.toList (Af t)==ByteArray.toList Ah) (B6 (BZ Ao)),Az Ae,rp 3 (AQ (AJ AK)),sl (Tp.A0 (A8 t)),rp 2 (AQ (AJ AK)),rp 2 (Az B9),AQ (AJ AK),Az B9,AQ (AJ AK),rp 3 (bf false),sl (A3 (Aj t)),rp 2 (bf false),rp 3 (C6 BU),bf false,C6 BU,bf false] [1,2,3,4,63] [1] Ar hq
theorem A39(Ac:¬AA t<1)(Ae:¬AA t>6)(Ao:¬Af t=ByteArray.mk #[])(AK:Dj=true)(B9:¬((A8 t).length:Int)>0)(BU:¬((Aj t).length:Int)>0)(cx:Cx)(Ar:cx.n=102){Q:A5->S->Prop}(hq:Q (.normal) (S.mk [(1,.lp 1 0),(2,A1 0),(3,.v (.bool Dj)),(4,.v (.bool cmp)),(63,.v (.bool false))] [(1,Bj t)] xe)):PW prog cx (AW f122 3) (UH t Dj cmp xe) Q:=
 pw Ad 102 [rp 4 (Az Ac),rp 4 (Az Ae),rp 2 (bt (!ByteArray.toList (Af t)==ByteArray.toList Ah) (B6 (BZ Ao))),Az Ae,bt (!ByteArray.toList (Af t)==ByteArray.toList Ah) (B6 (BZ Ao)),Az Ae,rp 3 (AQ (AJ AK)),sl (Tp.A0 (A8 t)),rp 2 (AQ (AJ AK)),rp 2 (Az B9),AQ (AJ AK),Az B9,AQ (AJ AK),rp 3 (bf false),sl (A3 (Aj t)),rp 2 (bf false),rp 3 (Az BU),bf false,Az BU,bf false] [1,2,3,4,63] [1] Ar hq
theorem A3a(Ac:¬AA t<1)(Ae:¬AA t>6)(Ao:Af t=ByteArray.mk #[])(AK:((A8 t).length:Int)>0)(B9:cmp=false)(cx:Cx)(Ar:cx.n=102){Q:A5->S->Prop}(hq:Q (.normal) (S.mk [(1,.lp 1 0),(2,A1 0),(3,.v (.bool Dj)),(4,.v (.bool cmp)),(63,.v (.bool true))] [(1,Bj t)] xe)):PW prog cx (AW f122 3) (UH t Dj cmp xe) Q:=
 pw Ad 102 [rp 4 (Az Ac),rp 4 (Az Ae),rp 2 (bf (!ByteArray.toList (Af t)==ByteArray.toList Ah) (AJ (BL Ao))),Az Ae,bf (!ByteArray.toList (Af t)==ByteArray.toList Ah) (AJ (BL Ao)),Az Ae,rp 3 (bf false),sl (Tp.A0 (A8 t)),rp 2 (bf false),rp 2 (C6 AK),bf false,C6 AK,bf false,rp 7 (B2 (B6 B9))] [1,2,3,4,63] [1] Ar hq
theorem tH(Ac:¬AA t<1)(Ae:¬AA t>6)(Ao:Af t=ByteArray.mk #[])(AK:((A8 t).length:Int)>0)(B9:cmp=true)(BU:((Aj t).length:Int)>0)(cx:Cx)(Ar:cx.n=102){Q:A5->S->Prop}(hq:Q (.normal) (S.mk [(1,.lp 1 0),(2,A1 0),(3,.v (.bool Dj)),(4,.v (.bool cmp)),(63,.v (.bool (AA t != 6)))] [(1,Bj t)] xe)):PW prog cx (AW f122 3) (UH t Dj cmp xe) Q:=
 pw Ad 102 [rp 4 (Az Ac),rp 4 (Az Ae),rp 2 (bf (!ByteArray.toList (Af t)==ByteArray.toList Ah) (AJ (BL Ao))),Az Ae,bf (!ByteArray.toList (Af t)==ByteArray.toList Ah) (AJ (BL Ao)),Az Ae,rp 3 (bf false),sl (Tp.A0 (A8 t)),rp 2 (bf false),rp 2 (C6 AK),bf false,C6 AK,bf false,rp 3 (AQ (AJ B9)),sl (A3 (Aj t)),rp 2 (AQ (AJ B9)),rp 3 (C6 BU),AQ (AJ B9),C6 BU,AQ (AJ B9)] [1,2,3,4,63] [1] Ar hq
theorem tI(Ac:¬AA t<1)(Ae:¬AA t>6)(Ao:Af t=ByteArray.mk #[])(AK:((A8 t).length:Int)>0)(B9:cmp=true)(BU:¬((Aj t).length:Int)>0)(cx:Cx)(Ar:cx.n=102){Q:A5->S->Prop}(hq:Q (.normal) (S.mk [(1,.lp 1 0),(2,A1 0),(3,.v (.bool Dj)),(4,.v (.bool cmp)),(63,.v (.bool false))] [(1,Bj t)] xe)):PW prog cx (AW f122 3) (UH t Dj cmp xe) Q:=
 pw Ad 102 [rp 4 (Az Ac),rp 4 (Az Ae),rp 2 (bf (!ByteArray.toList (Af t)==ByteArray.toList Ah) (AJ (BL Ao))),Az Ae,bf (!ByteArray.toList (Af t)==ByteArray.toList Ah) (AJ (BL Ao)),Az Ae,rp 3 (bf false),sl (Tp.A0 (A8 t)),rp 2 (bf false),rp 2 (C6 AK),bf false,C6 AK,bf false,rp 3 (AQ (AJ B9)),sl (A3 (Aj t)),rp 2 (AQ (AJ B9)),rp 3 (Az BU),AQ (AJ B9),Az BU,AQ (AJ B9)] [1,2,3,4,63] [1] Ar hq
theorem tJ(Ac:¬AA t<1)(Ae:¬AA t>6)(Ao:Af t=ByteArray.mk #[])(AK:¬((A8 t).length:Int)>0)(B9:((Aj t).length:Int)>0)(cx:Cx)(Ar:cx.n=102){Q:A5->S->Prop}(hq:Q (.normal) (S.mk [(1,.lp 1 0),(2,A1 0),(3,.v (.bool Dj)),(4,.v (.bool cmp)),(63,.v (.bool (AA t != 6)))] [(1,Bj t)] xe)):PW prog cx (AW f122 3) (UH t Dj cmp xe) Q:=
 pw Ad 102 [rp 4 (Az Ac),rp 4 (Az Ae),rp 2 (bf (!ByteArray.toList (Af t)==ByteArray.toList Ah) (AJ (BL Ao))),Az Ae,bf (!ByteArray.toList (Af t)==ByteArray.toList Ah) (AJ (BL Ao)),Az Ae,rp 3 (bf false),sl (Tp.A0 (A8 t)),rp 2 (bf false),rp 2 (Az AK),bf false,Az AK,rp 4 (bf false),sl (A3 (Aj t)),rp 2 (bf false),rp 3 (C6 B9),bf false,C6 B9,bf false] [1,2,3,4,63] [1] Ar hq
theorem tK(Ac:¬AA t<1)(Ae:¬AA t>6)(Ao:Af t=ByteArray.mk #[])(AK:¬((A8 t).length:Int)>0)(B9:¬((Aj t).length:Int)>0)(cx:Cx)(Ar:cx.n=102){Q:A5->S->Prop}(hq:Q (.normal) (S.mk [(1,.lp 1 0),(2,A1 0),(3,.v (.bool Dj)),(4,.v (.bool cmp)),(63,.v (.bool false))] [(1,Bj t)] xe)):PW prog cx (AW f122 3) (UH t Dj cmp xe) Q:=
 pw Ad 102 [rp 4 (Az Ac),rp 4 (Az Ae),rp 2 (bf (!ByteArray.toList (Af t)==ByteArray.toList Ah) (AJ (BL Ao))),Az Ae,bf (!ByteArray.toList (Af t)==ByteArray.toList Ah) (AJ (BL Ao)),Az Ae,rp 3 (bf false),sl (Tp.A0 (A8 t)),rp 2 (bf false),rp 2 (Az AK),bf false,Az AK,rp 4 (bf false),sl (A3 (Aj t)),rp 2 (bf false),rp 3 (Az B9),bf false,Az B9,bf false] [1,2,3,4,63] [1] Ar hq
end
def Bn(t:Tp)(Dj cmp:Bool):Bool:=(if AA t<1 then (true) else (if AA t>6 then (true) else (if Af t=ByteArray.mk #[] then (if ((A8 t).length:Int)>0 then (if cmp=true then (if ((Aj t).length:Int)>0 then ((AA t != 6)) else (false)) else (true)) else (if ((Aj t).length:Int)>0 then ((AA t != 6)) else (false))) else (if Dj=true then (if ((A8 t).length:Int)>0 then (if cmp=true then (if ((Aj t).length:Int)>0 then ((AA t != 6)) else (false)) else (true)) else (if ((Aj t).length:Int)>0 then ((AA t != 6)) else (false))) else (true)))))
theorem S1(t:Tp)(Dj cmp:Bool)(xe:Ext):(Ob.Ev 102 (AW f122 3) (UH t Dj cmp xe) (.normal) (S.mk [(1,.lp 1 0),(2,A1 0),(3,.v (.bool Dj)),(4,.v (.bool cmp)),(63,.v (.bool (Bn t Dj cmp)))] [(1,Bj t)] xe)).ok prog:=by
 intro cx Ar
 by_cases g0:AA t<1
 ·exact A32 t Dj cmp xe g0 cx Ar ⟨rfl,by rw [show Bn t Dj cmp=(true) by unfold Bn; rw [iP g0]]⟩
 ·by_cases g1:AA t>6
  ·exact A33 t Dj cmp xe g0 g1 cx Ar ⟨rfl,by rw [show Bn t Dj cmp=(true) by unfold Bn; rw [iN g0,iP g1]]⟩
  ·by_cases g2:Af t=ByteArray.mk #[]
   ·by_cases g3:((A8 t).length:Int)>0
    ·by_cases g4:cmp=true
     ·by_cases g5:((Aj t).length:Int)>0
      ·exact tH t Dj cmp xe g0 g1 g2 g3 g4 g5 cx Ar ⟨rfl,by rw [show Bn t Dj cmp=((AA t != 6)) by unfold Bn; rw [iN g0,iN g1,iP g2,iP g3,iP g4,iP g5]]⟩
      ·exact tI t Dj cmp xe g0 g1 g2 g3 g4 g5 cx Ar ⟨rfl,by rw [show Bn t Dj cmp=(false) by unfold Bn; rw [iN g0,iN g1,iP g2,iP g3,iP g4,iN g5]]⟩
     ·exact A3a t Dj cmp xe g0 g1 g2 g3 (Bool.eq_false_iff.2 g4) cx Ar ⟨rfl,by rw [show Bn t Dj cmp=(true) by unfold Bn; rw [iN g0,iN g1,iP g2,iP g3,iN g4]]⟩
    ·by_cases g4:((Aj t).length:Int)>0
     ·exact tJ t Dj cmp xe g0 g1 g2 g3 g4 cx Ar ⟨rfl,by rw [show Bn t Dj cmp=((AA t != 6)) by unfold Bn; rw [iN g0,iN g1,iP g2,iN g3,iP g4]]⟩
     ·exact tK t Dj cmp xe g0 g1 g2 g3 g4 cx Ar ⟨rfl,by rw [show Bn t Dj cmp=(false) by unfold Bn; rw [iN g0,iN g1,iP g2,iN g3,iN g4]]⟩
   ·by_cases g3:Dj=true
    ·by_cases g4:((A8 t).length:Int)>0
     ·by_cases g5:cmp=true
      ·by_cases g6:((Aj t).length:Int)>0
       ·exact A36 t Dj cmp xe g0 g1 g2 g3 g4 g5 g6 cx Ar ⟨rfl,by rw [show Bn t Dj cmp=((AA t != 6)) by unfold Bn; rw [iN g0,iN g1,iN g2,iP g3,iP g4,iP g5,iP g6]]⟩
       ·exact A37 t Dj cmp xe g0 g1 g2 g3 g4 g5 g6 cx Ar ⟨rfl,by rw [show Bn t Dj cmp=(false) by unfold Bn; rw [iN g0,iN g1,iN g2,iP g3,iP g4,iP g5,iN g6]]⟩
      ·exact A35 t Dj cmp xe g0 g1 g2 g3 g4 (Bool.eq_false_iff.2 g5) cx Ar ⟨rfl,by rw [show Bn t Dj cmp=(true) by unfold Bn; rw [iN g0,iN g1,iN g2,iP g3,iP g4,iN g5]]⟩
     ·by_cases g5:((Aj t).length:Int)>0
      ·exact A38 t Dj cmp xe g0 g1 g2 g3 g4 g5 cx Ar ⟨rfl,by rw [show Bn t Dj cmp=((AA t != 6)) by unfold Bn; rw [iN g0,iN g1,iN g2,iP g3,iN g4,iP g5]]⟩
      ·exact A39 t Dj cmp xe g0 g1 g2 g3 g4 g5 cx Ar ⟨rfl,by rw [show Bn t Dj cmp=(false) by unfold Bn; rw [iN g0,iN g1,iN g2,iP g3,iN g4,iN g5]]⟩
    ·exact A34 t Dj cmp xe g0 g1 g2 (Bool.eq_false_iff.2 g3) cx Ar ⟨rfl,by rw [show Bn t Dj cmp=(true) by unfold Bn; rw [iN g0,iN g1,iN g2,iN g3]]⟩
section
variable (t:Tp) (xe:Ext) (hn:Ck (CH (Af t))=0)
include t xe hn
theorem tL(Ac:(↑(UInt8.toNat (List.getD (Array.toList (ByteArray.data (Af t))) 0 default)):Int)>=65)(cx:Cx)(Ar:cx.n=102){Q:A5->S->Prop}(hq:Q (.normal) (S.mk [(1,.lp 1 0),(2,A1 0),(6,.v (.bool (decide ((↑(UInt8.toNat (List.getD (Array.toList (ByteArray.data (Af t))) 0 default)):Int)<=90))))] [(1,Bj t)] xe)):PW prog cx (AW f122 11) (Wz t xe) Q:=
 pw Ad 102 [am ((0:Int)<=0/\0<(↑(ByteArray.size (Af t)):Int)) (by (apply HC <;> first | assumption | omega | decide)),av (.v (.int .u8 (↑(UInt8.toNat (List.getD (Array.toList (ByteArray.data (Af t))) (Int.toNat 0) default)):Int))) (.v (.int .u8 (↑(UInt8.toNat (List.getD (Array.toList (ByteArray.data (Af t))) 0 default)):Int))) rF,rp 3 (C6 Ac),am ((0:Int)<=0/\0<(↑(ByteArray.size (Af t)):Int)) (by (apply HC <;> first | assumption | omega | decide)),av (.v (.int .u8 (↑(UInt8.toNat (List.getD (Array.toList (ByteArray.data (Af t))) (Int.toNat 0) default)):Int))) (.v (.int .u8 (↑(UInt8.toNat (List.getD (Array.toList (ByteArray.data (Af t))) 0 default)):Int))) rF,rp 2 (C6 Ac)] [1,2,6] [1] Ar hq
theorem tM(Ac:¬(↑(UInt8.toNat (List.getD (Array.toList (ByteArray.data (Af t))) 0 default)):Int)>=65)(cx:Cx)(Ar:cx.n=102){Q:A5->S->Prop}(hq:Q (.normal) (S.mk [(1,.lp 1 0),(2,A1 0),(6,.v (.bool false))] [(1,Bj t)] xe)):PW prog cx (AW f122 11) (Wz t xe) Q:=
 pw Ad 102 [am ((0:Int)<=0/\0<(↑(ByteArray.size (Af t)):Int)) (by (apply HC <;> first | assumption | omega | decide)),av (.v (.int .u8 (↑(UInt8.toNat (List.getD (Array.toList (ByteArray.data (Af t))) (Int.toNat 0) default)):Int))) (.v (.int .u8 (↑(UInt8.toNat (List.getD (Array.toList (ByteArray.data (Af t))) 0 default)):Int))) rF,rp 5 (Az Ac)] [1,2,6] [1] Ar hq
end
def CC(t:Tp):Bool:=(if (↑(UInt8.toNat (List.getD (Array.toList (ByteArray.data (Af t))) 0 default)):Int)>=65 then ((decide ((↑(UInt8.toNat (List.getD (Array.toList (ByteArray.data (Af t))) 0 default)):Int)<=90))) else (false))
theorem ZD(t:Tp)(xe:Ext)(hn:Ck (CH (Af t))=0):(Ob.Ev 102 (AW f122 11) (Wz t xe) (.normal) (S.mk [(1,.lp 1 0),(2,A1 0),(6,.v (.bool (CC t)))] [(1,Bj t)] xe)).ok prog:=by
 intro cx Ar
 by_cases g0:(↑(UInt8.toNat (List.getD (Array.toList (ByteArray.data (Af t))) 0 default)):Int)>=65
 ·exact tL t xe hn g0 cx Ar ⟨rfl,by rw [show CC t=((decide ((↑(UInt8.toNat (List.getD (Array.toList (ByteArray.data (Af t))) 0 default)):Int)<=90))) by unfold CC; rw [iP g0]]⟩
 ·exact tM t xe hn g0 cx Ar ⟨rfl,by rw [show CC t=(false) by unfold CC; rw [iN g0]]⟩
def mF:Md:=⟨fun _=>some false,fun t=>t==1000001||t==1000002||t==1000003||t==1000011⟩
def Fx(t:Tp)(ff:Tp->Int):Int:=(if Bn t (AF t) (BO t (AF t))=true then 1 else (if Lo t=0 then (if AF t=true then (if Ck (CH (Af t))=0 then (if (if false=true then CC t==(AA t==4) else !CC t==(AA t==4))=true then 3 else (if BX ff (A8 t)=0 then 0 else (BX ff (A8 t)))) else 3) else (if BX ff (A8 t)=0 then 0 else (BX ff (A8 t)))) else (Lo t)))
theorem sFm(t:Tp)(ff:Tp->Int)(Bg:∀w:Tp,w∈A8 t->Pu 122 [.agg (Ay w)] (.ret (.int .i64 (ff w))))(Cd:(A8 t).length<=1000000000):Pu 122 [.agg (Ay t)] (rI (Fx t ff)):=by
 by_cases h0:Bn t (AF t) (BO t (AF t))=true
 ·simp only [Fx,iP h0]; exact pu mF (fun e=>[lf (S.mk [(0,.v (.agg (Ay t))),(1,.lp 1 0),(2,A1 0)] [(1,Bj t)] e) (@RZ (t) (e)) ⟨⟨W,W,An⟩,⟨⟨W,W,W,W,W,W,W,W,W,An⟩,An⟩,rfl⟩,lf (S.mk [(1,.lp 1 0),(2,A1 0),(3,.v (.bool (AF t)))] [(1,Bj t)] e) (@S0 (t) (AF t) (e)) ⟨⟨W,W,W,An⟩,⟨⟨W,W,W,W,W,W,W,W,W,An⟩,An⟩,rfl⟩,lf (S.mk [(1,.lp 1 0),(2,A1 0),(3,.v (.bool (AF t))),(4,.v (.bool (BO t (AF t))))] [(1,Bj t)] e) (@S1 (t) (AF t) (BO t (AF t)) (e)) ⟨⟨W,W,W,W,An⟩,⟨⟨W,W,W,W,W,W,W,W,W,An⟩,An⟩,rfl⟩,B2 h0]) func122
 ·by_cases h1:Lo t=0
  ·by_cases h2:AF t=true
   ·by_cases h3:Ck (CH (Af t))=0
    ·by_cases h4:(if false=true then CC t==(AA t==4) else !CC t==(AA t==4))=true
     ·simp only [Fx,iN h0,iP h1,iP h2,iP h3,iP h4]; exact pu mF (fun e=>[lf (S.mk [(0,.v (.agg (Ay t))),(1,.lp 1 0),(2,A1 0)] [(1,Bj t)] e) (@RZ (t) (e)) ⟨⟨W,W,An⟩,⟨⟨W,W,W,W,W,W,W,W,W,An⟩,An⟩,rfl⟩,lf (S.mk [(1,.lp 1 0),(2,A1 0),(3,.v (.bool (AF t)))] [(1,Bj t)] e) (@S0 (t) (AF t) (e)) ⟨⟨W,W,W,An⟩,⟨⟨W,W,W,W,W,W,W,W,W,An⟩,An⟩,rfl⟩,lf (S.mk [(1,.lp 1 0),(2,A1 0),(3,.v (.bool (AF t))),(4,.v (.bool (BO t (AF t))))] [(1,Bj t)] e) (@S1 (t) (AF t) (BO t (AF t)) (e)) ⟨⟨W,W,W,W,An⟩,⟨⟨W,W,W,W,W,W,W,W,W,An⟩,An⟩,rfl⟩,AQ (DQ h0),cl (@sS (t)),Bi h1,B2 h2,cl (@Zl (Af t)),Bi h3,lf (S.mk [(1,.lp 1 0),(2,A1 0),(3,.v (.bool (AF t))),(4,.v (.bool (BO t (AF t)))),(63,.v (.bool (Bn t (AF t) (BO t (AF t))))),(64,.v (.agg (Ay t))),(65,A1 (Lo t)),(5,A1 (Lo t)),(66,A1 (Lo t)),(67,.v (.bool (Lo t != 0))),(69,.v (.bool (AF t))),(70,.lp 1 1),(71,vS (Af t)),(72,A1 (Ck (CH (Af t)))),(73,.v (.bool (Ck (CH (Af t)) != 0)))] [(1,Bj t)] e) (@ZD (t) (e) h3) ⟨⟨W,W,An⟩,⟨⟨W,W,W,W,W,W,W,W,W,An⟩,An⟩,rfl⟩,B2 h4]) func122
     ·by_cases h5:BX ff (A8 t)=0
      ·simp only [Fx,iN h0,iP h1,iP h2,iP h3,iN h4,iP h5]; exact pu mF (fun e=>[lf (S.mk [(0,.v (.agg (Ay t))),(1,.lp 1 0),(2,A1 0)] [(1,Bj t)] e) (@RZ (t) (e)) ⟨⟨W,W,An⟩,⟨⟨W,W,W,W,W,W,W,W,W,An⟩,An⟩,rfl⟩,lf (S.mk [(1,.lp 1 0),(2,A1 0),(3,.v (.bool (AF t)))] [(1,Bj t)] e) (@S0 (t) (AF t) (e)) ⟨⟨W,W,W,An⟩,⟨⟨W,W,W,W,W,W,W,W,W,An⟩,An⟩,rfl⟩,lf (S.mk [(1,.lp 1 0),(2,A1 0),(3,.v (.bool (AF t))),(4,.v (.bool (BO t (AF t))))] [(1,Bj t)] e) (@S1 (t) (AF t) (BO t (AF t)) (e)) ⟨⟨W,W,W,W,An⟩,⟨⟨W,W,W,W,W,W,W,W,W,An⟩,An⟩,rfl⟩,AQ (DQ h0),cl (@sS (t)),Bi h1,B2 h2,cl (@Zl (Af t)),Bi h3,lf (S.mk [(1,.lp 1 0),(2,A1 0),(3,.v (.bool (AF t))),(4,.v (.bool (BO t (AF t)))),(63,.v (.bool (Bn t (AF t) (BO t (AF t))))),(64,.v (.agg (Ay t))),(65,A1 (Lo t)),(5,A1 (Lo t)),(66,A1 (Lo t)),(67,.v (.bool (Lo t != 0))),(69,.v (.bool (AF t))),(70,.lp 1 1),(71,vS (Af t)),(72,A1 (Ck (CH (Af t)))),(73,.v (.bool (Ck (CH (Af t)) != 0)))] [(1,Bj t)] e) (@ZD (t) (e) h3) ⟨⟨W,W,An⟩,⟨⟨W,W,W,W,W,W,W,W,W,An⟩,An⟩,rfl⟩,AQ (DQ h4),sl (Tp.A0 (A8 t)),lp (S.mk [(1,.lp 1 0),(2,A1 0),(6,.v (.bool (CC t))),(84,.v (.bool (CC t))),(85,.lp 1 0),(86,A1 (AA t)),(87,.v (.bool (AA t==4))),(88,.v (.bool (if false=true then CC t==(AA t==4) else !CC t==(AA t==4)))),(89,.lp 1 2),(90,vL 9 (Tp.cs (A8 t))),(91,A1 ((A8 t).length:Int)),(92,A1 0)] [(1,Bj t)] e) (@tfT (t) (e) (ff) Bg Cd h5) xr]) func122
      ·simp only [Fx,iN h0,iP h1,iP h2,iP h3,iN h4,iN h5]; exact pu mF (fun e=>[lf (S.mk [(0,.v (.agg (Ay t))),(1,.lp 1 0),(2,A1 0)] [(1,Bj t)] e) (@RZ (t) (e)) ⟨⟨W,W,An⟩,⟨⟨W,W,W,W,W,W,W,W,W,An⟩,An⟩,rfl⟩,lf (S.mk [(1,.lp 1 0),(2,A1 0),(3,.v (.bool (AF t)))] [(1,Bj t)] e) (@S0 (t) (AF t) (e)) ⟨⟨W,W,W,An⟩,⟨⟨W,W,W,W,W,W,W,W,W,An⟩,An⟩,rfl⟩,lf (S.mk [(1,.lp 1 0),(2,A1 0),(3,.v (.bool (AF t))),(4,.v (.bool (BO t (AF t))))] [(1,Bj t)] e) (@S1 (t) (AF t) (BO t (AF t)) (e)) ⟨⟨W,W,W,W,An⟩,⟨⟨W,W,W,W,W,W,W,W,W,An⟩,An⟩,rfl⟩,AQ (DQ h0),cl (@sS (t)),Bi h1,B2 h2,cl (@Zl (Af t)),Bi h3,lf (S.mk [(1,.lp 1 0),(2,A1 0),(3,.v (.bool (AF t))),(4,.v (.bool (BO t (AF t)))),(63,.v (.bool (Bn t (AF t) (BO t (AF t))))),(64,.v (.agg (Ay t))),(65,A1 (Lo t)),(5,A1 (Lo t)),(66,A1 (Lo t)),(67,.v (.bool (Lo t != 0))),(69,.v (.bool (AF t))),(70,.lp 1 1),(71,vS (Af t)),(72,A1 (Ck (CH (Af t)))),(73,.v (.bool (Ck (CH (Af t)) != 0)))] [(1,Bj t)] e) (@ZD (t) (e) h3) ⟨⟨W,W,An⟩,⟨⟨W,W,W,W,W,W,W,W,W,An⟩,An⟩,rfl⟩,AQ (DQ h4),sl (Tp.A0 (A8 t)),lp (S.mk [(1,.lp 1 0),(2,A1 0),(6,.v (.bool (CC t))),(84,.v (.bool (CC t))),(85,.lp 1 0),(86,A1 (AA t)),(87,.v (.bool (AA t==4))),(88,.v (.bool (if false=true then CC t==(AA t==4) else !CC t==(AA t==4)))),(89,.lp 1 2),(90,vL 9 (Tp.cs (A8 t))),(91,A1 ((A8 t).length:Int)),(92,A1 0)] [(1,Bj t)] e) (@tfF (t) (e) (ff) Bg Cd h5) xr]) func122
    ·simp only [Fx,iN h0,iP h1,iP h2,iN h3]; exact pu mF (fun e=>[lf (S.mk [(0,.v (.agg (Ay t))),(1,.lp 1 0),(2,A1 0)] [(1,Bj t)] e) (@RZ (t) (e)) ⟨⟨W,W,An⟩,⟨⟨W,W,W,W,W,W,W,W,W,An⟩,An⟩,rfl⟩,lf (S.mk [(1,.lp 1 0),(2,A1 0),(3,.v (.bool (AF t)))] [(1,Bj t)] e) (@S0 (t) (AF t) (e)) ⟨⟨W,W,W,An⟩,⟨⟨W,W,W,W,W,W,W,W,W,An⟩,An⟩,rfl⟩,lf (S.mk [(1,.lp 1 0),(2,A1 0),(3,.v (.bool (AF t))),(4,.v (.bool (BO t (AF t))))] [(1,Bj t)] e) (@S1 (t) (AF t) (BO t (AF t)) (e)) ⟨⟨W,W,W,W,An⟩,⟨⟨W,W,W,W,W,W,W,W,W,An⟩,An⟩,rfl⟩,AQ (DQ h0),cl (@sS (t)),Bi h1,B2 h2,cl (@Zl (Af t)),Bv h3]) func122
   ·by_cases h3:BX ff (A8 t)=0
    ·simp only [Fx,iN h0,iP h1,iN h2,iP h3]; exact pu mF (fun e=>[lf (S.mk [(0,.v (.agg (Ay t))),(1,.lp 1 0),(2,A1 0)] [(1,Bj t)] e) (@RZ (t) (e)) ⟨⟨W,W,An⟩,⟨⟨W,W,W,W,W,W,W,W,W,An⟩,An⟩,rfl⟩,lf (S.mk [(1,.lp 1 0),(2,A1 0),(3,.v (.bool (AF t)))] [(1,Bj t)] e) (@S0 (t) (AF t) (e)) ⟨⟨W,W,W,An⟩,⟨⟨W,W,W,W,W,W,W,W,W,An⟩,An⟩,rfl⟩,lf (S.mk [(1,.lp 1 0),(2,A1 0),(3,.v (.bool (AF t))),(4,.v (.bool (BO t (AF t))))] [(1,Bj t)] e) (@S1 (t) (AF t) (BO t (AF t)) (e)) ⟨⟨W,W,W,W,An⟩,⟨⟨W,W,W,W,W,W,W,W,W,An⟩,An⟩,rfl⟩,AQ (DQ h0),cl (@sS (t)),Bi h1,AQ (DQ h2),sl (Tp.A0 (A8 t)),lp (S.mk [(1,.lp 1 0),(2,A1 0),(3,.v (.bool (AF t))),(4,.v (.bool (BO t (AF t)))),(63,.v (.bool (Bn t (AF t) (BO t (AF t))))),(64,.v (.agg (Ay t))),(65,A1 (Lo t)),(5,A1 (Lo t)),(66,A1 (Lo t)),(67,.v (.bool (Lo t != 0))),(69,.v (.bool (AF t))),(89,.lp 1 2),(90,vL 9 (Tp.cs (A8 t))),(91,A1 ((A8 t).length:Int)),(92,A1 0)] [(1,Bj t)] e) (@tfT (t) (e) (ff) Bg Cd h3) xr]) func122
    ·simp only [Fx,iN h0,iP h1,iN h2,iN h3]; exact pu mF (fun e=>[lf (S.mk [(0,.v (.agg (Ay t))),(1,.lp 1 0),(2,A1 0)] [(1,Bj t)] e) (@RZ (t) (e)) ⟨⟨W,W,An⟩,⟨⟨W,W,W,W,W,W,W,W,W,An⟩,An⟩,rfl⟩,lf (S.mk [(1,.lp 1 0),(2,A1 0),(3,.v (.bool (AF t)))] [(1,Bj t)] e) (@S0 (t) (AF t) (e)) ⟨⟨W,W,W,An⟩,⟨⟨W,W,W,W,W,W,W,W,W,An⟩,An⟩,rfl⟩,lf (S.mk [(1,.lp 1 0),(2,A1 0),(3,.v (.bool (AF t))),(4,.v (.bool (BO t (AF t))))] [(1,Bj t)] e) (@S1 (t) (AF t) (BO t (AF t)) (e)) ⟨⟨W,W,W,W,An⟩,⟨⟨W,W,W,W,W,W,W,W,W,An⟩,An⟩,rfl⟩,AQ (DQ h0),cl (@sS (t)),Bi h1,AQ (DQ h2),sl (Tp.A0 (A8 t)),lp (S.mk [(1,.lp 1 0),(2,A1 0),(3,.v (.bool (AF t))),(4,.v (.bool (BO t (AF t)))),(63,.v (.bool (Bn t (AF t) (BO t (AF t))))),(64,.v (.agg (Ay t))),(65,A1 (Lo t)),(5,A1 (Lo t)),(66,A1 (Lo t)),(67,.v (.bool (Lo t != 0))),(69,.v (.bool (AF t))),(89,.lp 1 2),(90,vL 9 (Tp.cs (A8 t))),(91,A1 ((A8 t).length:Int)),(92,A1 0)] [(1,Bj t)] e) (@tfF (t) (e) (ff) Bg Cd h3) xr]) func122
  ·simp only [Fx,iN h0,iN h1]; exact pu mF (fun e=>[lf (S.mk [(0,.v (.agg (Ay t))),(1,.lp 1 0),(2,A1 0)] [(1,Bj t)] e) (@RZ (t) (e)) ⟨⟨W,W,An⟩,⟨⟨W,W,W,W,W,W,W,W,W,An⟩,An⟩,rfl⟩,lf (S.mk [(1,.lp 1 0),(2,A1 0),(3,.v (.bool (AF t)))] [(1,Bj t)] e) (@S0 (t) (AF t) (e)) ⟨⟨W,W,W,An⟩,⟨⟨W,W,W,W,W,W,W,W,W,An⟩,An⟩,rfl⟩,lf (S.mk [(1,.lp 1 0),(2,A1 0),(3,.v (.bool (AF t))),(4,.v (.bool (BO t (AF t))))] [(1,Bj t)] e) (@S1 (t) (AF t) (BO t (AF t)) (e)) ⟨⟨W,W,W,W,An⟩,⟨⟨W,W,W,W,W,W,W,W,W,An⟩,An⟩,rfl⟩,AQ (DQ h0),cl (@sS (t)),Bv h1]) func122
def mG:Nat->Tp->Int
 | 0,_=>0
 | d+1,t=>Fx t (mG d)
theorem mH:∀ (d:Nat) (t:Tp),A6 (Ay t)<d->d<=100000001->Pu 122 [.agg (Ay t)] (.ret (.int .i64 (mG d t)))
 | 0,_,h,_=>by omega
 | d+1,t,h,hs=>sFm t (mG d) (fun w hw=>mH d w (by have:=EA t; have:=Tp.mem hw; omega) oM) (by have:=EA t; have:=Tp.BT (A8 t); omega)
def fmF(t:Tp):Int:=mG (A6 (Ay t)+1) t
theorem fmT(t:Tp)(hs:A6 (Ay t)<=100000000):Pu 122 [.agg (Ay t)] (.ret (.int .i64 (fmF t))):=mH _ t oM oM
def Ee(t:Tp):Int:=(if tdF t>40 then 8 else (fmF t))
theorem tyC(t:Tp)(hs:A6 (Ay t)<=100000000):Pu 70 [.agg (Ay t)] (rI (Ee t)):=by
 by_cases h0:tdF t>40
 ·simp only [Ee,iP h0]; exact pm Ad [cl (@tdT (t) hs),C6 h0] func70
 ·simp only [Ee,iN h0]; exact pm Ad [cl (@tdT (t) hs),Az h0,cl (@fmT (t) hs)] func70
def mdW:Md:=⟨fun _=>some false,fun _=>false⟩
def S2:List BA->List (BA × PV)
 | []=>[]
 | k::r=>(k,.bool true)::S2 r
def Lp(s:BA):List BA->Bool
 | []=>false
 | k::r=>decide (k=s)||Lp s r
theorem S3(s:BA):∀ks,(E7 s (S2 ks)).getD (.bool false) = .bool (Lp s ks)
 | []=>rfl
 | k::r=>by
  by_cases h:k=s
  ·simp [S2,E7,Lp,h]
  ·simp only [S2,E7,Lp,h,if_false,decide_false,Bool.false_or]; exact S3 s r
def fE(s:BA):List BA->List BA
 | []=>[s]
 | k::r=>if k=s then k::r else k::fE s r
theorem To(s:BA):∀ks,S2 (fE s ks)=Ep s (.bool true) (S2 ks)
 | []=>rfl
 | k::r=>by
  by_cases h:k=s
  ·subst h; simp [fE,S2,Ep]
  ·simp only [fE,S2,Ep,h,if_false,To s r]
theorem ZE(s:BA)(ks:List BA):IJ false (E7 s (S2 ks)) (.bool false) = .bool (Lp s ks):=S3 s ks
theorem ZF:∀l:List BA,EN (A7 l)=true
 | []=>rfl
 | x::r=>by rw [show A7 (x::r)=[.str x]::A7 r by simp [A7],EN,ZF r]; rfl
abbrev Pg(l:List BA)(j:Int)(ks:List BA)  : S:=S.mk [(2,.v (.bool false)),(3,.v (PV.mp 0)),(7,vL 1 (A7 l)),(8,A1 (l.length:Int)),(9,A1 j)] [] [(0,[LV.mm (MM.s (S2 ks))])]
inductive Gw where
 | e0 (ks:List BA)
 | e1 (ks:List BA)
def EC  : List BA->(List BA)->Gw
 | [],ks=>(Gw.e1 ks)
 | el::r,ks=>(if Lp el ks=true then (Gw.e0 ks) else EC  r (fE el ks))
noncomputable def IZ (l:List BA)  : Gw->A5 × S
 | .e0 ks=>(.ret,S.mk [(2,.v (.bool false)),(3,.v (PV.mp 0)),(7,vL 1 (A7 l)),(8,A1 (l.length:Int))] [] [(0,[LV.mm (MM.s (S2 ks))])])
 | .e1 ks=>(.exit 0,S.mk [(2,.v (.bool false)),(3,.v (PV.mp 0)),(7,vL 1 (A7 l)),(8,A1 (l.length:Int))] [] [(0,[LV.mm (MM.s (S2 ks))])])
theorem ZG(l:List BA)(hN:l.length<=1000000000)(ks:List BA):(Ob.loop 19 (Ai f88 0) (Pg l 0 ks) (IZ l  (EC  (List.drop 0 (l))  ks)).1 (IZ l  (EC  (List.drop 0 (l))  ks)).2).ok prog:=by
 refine Ds l.length (fun j ks=>Pg l j ks) (fun i ks=>EC  (List.drop i (l))  ks) (IZ l) (fun i ks=>True) kR ?_ ks trivial
 rintro i ks hi -
 rcases Nat.lt_or_ge i (l.length) with Ag | CO
 ·have hd:=CL Ag
  by_cases h0:Lp (List.getD l i Ah) ks=true
  ·exact lX mdW [dt ((i:Int)<(l.length:Int)),am ((0:Int)<=(i:Int)/\(i:Int)<((A7 l).length:Int)) (by (simp only [A3]; omega)),ar (List.getD (A7 l) (Int.toNat (i:Int)) []) [.str (List.getD l i Ah)] (by simp only [Int.toNat_natCast,Int.toNat_zero]; rw [@Cv (l) (i) Ag]; try rfl),av (.v (IJ false (E7 (List.getD l i Ah) (S2 ks)) (.bool false))) (.v (.bool (Lp (List.getD l i Ah) ks))) (by (simp only [ZE]; done)),B2 h0] (Gw.e0 ks) (by rw [hd,EC,iP h0])
  ·exact lS mdW [dt ((i:Int)<(l.length:Int)),am ((0:Int)<=(i:Int)/\(i:Int)<((A7 l).length:Int)) (by (simp only [A3]; omega)),ar (List.getD (A7 l) (Int.toNat (i:Int)) []) [.str (List.getD l i Ah)] (by simp only [Int.toNat_natCast,Int.toNat_zero]; rw [@Cv (l) (i) Ag]; try rfl),av (.v (IJ false (E7 (List.getD l i Ah) (S2 ks)) (.bool false))) (.v (.bool (Lp (List.getD l i Ah) ks))) (by (simp only [ZE]; done)),AQ (DQ h0),wr ((i:Int)+1)] [2,3,7,8,9] [] Ag (fE (List.getD l i Ah) ks) (S.mk [(2,.v (.bool false)),(3,.v (PV.mp 0)),(7,vL 1 (A7 l)),(8,A1 (l.length:Int)),(9,A1 ((i:Int)+1))] [] [(0,[LV.mm (MM.s (Ep (List.getD l i Ah) (.bool true) (S2 ks)))])]) ⟨⟨W,W,W,W,W,An⟩,trivial,(by first | rfl | (simp only [List.nil_append,AX,AM,Pr.A2,Tp.A2,Ex.A2,Vr.A2,Df.A2,To]; done) | (simp only [List.nil_append,AX,AM,Pr.A2,Tp.A2,Ex.A2,Vr.A2,Df.A2,To]; rfl))⟩ trivial (by rw [hd,EC,iN h0])
 ·have he:i=l.length:=by omega
  exact lX mdW [df ((i:Int)<(l.length:Int))] (Gw.e1 ks) (by rw [he,List.drop_length,EC])
theorem A3b(l:List BA)(ks:List BA)(hN:l.length<=1000000000)(p0:List BA)(At:(EC  (l)  ks)=(Gw.e0 p0)):(Ob.loop 19 (Ai f88 0) (Pg l 0 ks) (IZ l  (Gw.e0 p0)).1 (IZ l  (Gw.e0 p0)).2).ok prog:=
 rz (ZG l hN ks) At
theorem A3c(l:List BA)(ks:List BA)(hN:l.length<=1000000000)(p0:List BA)(At:(EC  (l)  ks)=(Gw.e1 p0)):(Ob.loop 19 (Ai f88 0) (Pg l 0 ks) (IZ l  (Gw.e1 p0)).1 (IZ l  (Gw.e1 p0)).2).ok prog:=
 rz (ZG l hN ks) At
def F1(l:List BA):Bool:=match EC l [] with
 | .e0 _=>false
 | .e1 _=>true
theorem ds0(l:List BA)(hN:l.length<=1000000000)(k0:List BA)(At:EC l [] = .e0 k0):(Ob.loop 19 (Ai f88 0) (Pg l 0 []) (IZ l (.e0 k0)).1 (IZ l (.e0 k0)).2).ok prog:=A3b l [] hN k0 At
theorem ds1(l:List BA)(hN:l.length<=1000000000)(k0:List BA)(At:EC l [] = .e1 k0):(Ob.loop 19 (Ai f88 0) (Pg l 0 []) (IZ l (.e1 k0)).1 (IZ l (.e1 k0)).2).ok prog:=A3c l [] hN k0 At
section
variable (l:List BA) (hN:l.length<=1000000000) (Dc:List BA)
include l hN Dc
theorem mI(Ae:EC l []=Gw.e0 Dc):Ef 88 [.sl 1 (A7 l)] ([]) (rB false) ([(0,[LV.mm (MM.s (S2 Dc))])]):=
 ef mdW [sl (A3 l),lp (S.mk [(0,vL 1 (A7 l)),(2,.v (.bool false)),(6,.v (PV.mp 0)),(3,.v (PV.mp 0)),(7,vL 1 (A7 l)),(8,A1 (l.length:Int)),(9,A1 0)] [] [(0,[LV.mm (T3 (T2 prog 194))])]) (@ds0 (l) hN Dc Ae) xr] func88
theorem mJ(Ae:EC l []=Gw.e1 Dc):Ef 88 [.sl 1 (A7 l)] ([]) (rB true) ([(0,[LV.mm (MM.s (S2 Dc))])]):=
 ef mdW [sl (A3 l),lp (S.mk [(0,vL 1 (A7 l)),(2,.v (.bool false)),(6,.v (PV.mp 0)),(3,.v (PV.mp 0)),(7,vL 1 (A7 l)),(8,A1 (l.length:Int)),(9,A1 0)] [] [(0,[LV.mm (T3 (T2 prog 194))])]) (@ds1 (l) hN Dc Ae) xr] func88
end
theorem dsT(l:List BA)(hN:l.length<=1000000000):Pu 88 [.sl 1 (A7 l)] (.ret (.bool (F1 l))):=by
 have hx:Ec [.sl 1 (A7 l)]=true:=by rw [Ec,PV.HT,ZF]; rfl
 unfold F1
 cases h:EC l [] with
 | e0 k=>first | exact Ob.De hx rfl (mI l hN k h) | exact Ob.De hx rfl (mJ l hN k h)
 | e1 k=>first | exact Ob.De hx rfl (mI l hN k h) | exact Ob.De hx rfl (mJ l hN k h)
abbrev UI(r:List BA)(xe:Ext)(j:Int)   : S:=S.mk [(2,A1 0),(35,vL 1 (A7 r)),(36,A1 (r.length:Int)),(37,A1 j)] [] xe
inductive EO where
 | e0
 | e1
def ED  : List BA->EO
 | []=>(EO.e1)
 | el::r=>(if CW el=false then (EO.e0) else ED  r)
def Nq(r:List BA)(xe:Ext)  : EO->A5 × S
 | .e0=>(.ret,S.mk [(2,A1 3),(35,vL 1 (A7 r)),(36,A1 (r.length:Int))] [] xe)
 | .e1=>(.exit 0,S.mk [(2,A1 0),(35,vL 1 (A7 r)),(36,A1 (r.length:Int))] [] xe)
theorem ZH(r:List BA)(xe:Ext)(hN:r.length<=1000000000):(Ob.loop 45 (Ai f94 0) (UI r xe 0) (Nq r xe  (ED  (List.drop 0 (r)))).1 (Nq r xe  (ED  (List.drop 0 (r)))).2).ok prog:=by
 refine Ds r.length (fun j _=>UI r xe j) (fun i _=>ED  (List.drop i (r))) (Nq r xe) (fun i _=>True) kR ?_ () trivial
 rintro i u hi -
 rcases Nat.lt_or_ge i (r.length) with Ag | CO
 ·have hd:=CL Ag
  by_cases h0:CW (List.getD r i Ah)=false
  ·exact lX Ad [dt ((i:Int)<(r.length:Int)),am ((0:Int)<=(i:Int)/\(i:Int)<((A7 r).length:Int)) (by (simp only [A3]; omega)),ar (List.getD (A7 r) (Int.toNat (i:Int)) []) [.str (List.getD r i Ah)] (by simp only [Int.toNat_natCast,Int.toNat_zero]; rw [@Cv (r) (i) Ag]; try rfl),cl (@A2x (List.getD r i Ah)),B2 (B6 h0)] (EO.e0) (by rw [hd,ED,iP h0])
  ·exact lN Ad [dt ((i:Int)<(r.length:Int)),am ((0:Int)<=(i:Int)/\(i:Int)<((A7 r).length:Int)) (by (simp only [A3]; omega)),ar (List.getD (A7 r) (Int.toNat (i:Int)) []) [.str (List.getD r i Ah)] (by simp only [Int.toNat_natCast,Int.toNat_zero]; rw [@Cv (r) (i) Ag]; try rfl),cl (@A2x (List.getD r i Ah)),AQ (AJ (Jq h0)),wr ((i:Int)+1)] Ag () trivial (by rw [hd,ED,iN h0])
 ·have he:i=r.length:=by omega
  exact lX Ad [df ((i:Int)<(r.length:Int))] (EO.e1) (by rw [he,List.drop_length,ED])
theorem ZI(r:List BA)(xe:Ext)(hN:r.length<=1000000000)(At:(ED  (r))=(EO.e0)):(Ob.loop 45 (Ai f94 0) (UI r xe 0) (Nq r xe  (EO.e0)).1 (Nq r xe  (EO.e0)).2).ok prog:=
 rz (ZH r xe hN) At
theorem ZJ(r:List BA)(xe:Ext)(hN:r.length<=1000000000)(At:(ED  (r))=(EO.e1)):(Ob.loop 45 (Ai f94 0) (UI r xe 0) (Nq r xe  (EO.e1)).1 (Nq r xe  (EO.e1)).2).ok prog:=
 rz (ZH r xe hN) At
section
variable (s a:BA) (r:List BA) (hN:r.length<=1000000000) (iM:Pu 138 [.str s] (.own 9 1 ([.str a]::A7 r))) (Ac:¬(↑(ByteArray.size s):Int)>120)
include s a r hN iM Ac
theorem tN(Ae:¬Ck (AR a)=0)(Ao:¬Ck (AZ a)=0)(AK:¬a=ByteArray.mk #[118]):Pu 94 [.str s] (rI 3):=
 pm Ad [kp,Az Ac,cl iM,kp,am ((0:Int)<=0/\0<(([.str a]::A7 r).length:Int)) (by (simp only [List.length_cons,List.length_nil,A3]; omega)),cl (@OC (a)),rp 2 (Bv Ae),kp,am ((0:Int)<=0/\0<(([.str a]::A7 r).length:Int)) (by (simp only [List.length_cons,List.length_nil,A3]; omega)),rp 2 (Bv Ae),cl (@Wy (a)),rp 2 (Bv Ae),rp 2 (Bv Ao),kp,am ((0:Int)<=0/\0<(([.str a]::A7 r).length:Int)) (by (simp only [List.length_cons,List.length_nil,A3]; omega)),rp 3 (Bv Ao),rp 3 (bt (!ByteArray.toList a==ByteArray.toList (bM 118)) (B6 (BZ AK))),Bv Ao,bt (!ByteArray.toList a==ByteArray.toList (bM 118)) (B6 (BZ AK)),Bv Ao,bt true] func94
theorem tO(Ae:¬Ck (AR a)=0)(Ao:¬Ck (AZ a)=0)(AK:a=ByteArray.mk #[118])(B9:(↑(List.length r+1):Int)=1):Pu 94 [.str s] (rI 3):=
 pm Ad [kp,Az Ac,cl iM,kp,am ((0:Int)<=0/\0<(([.str a]::A7 r).length:Int)) (by (simp only [List.length_cons,List.length_nil,A3]; omega)),cl (@OC (a)),rp 2 (Bv Ae),kp,am ((0:Int)<=0/\0<(([.str a]::A7 r).length:Int)) (by (simp only [List.length_cons,List.length_nil,A3]; omega)),rp 2 (Bv Ae),cl (@Wy (a)),rp 2 (Bv Ae),rp 2 (Bv Ao),kp,am ((0:Int)<=0/\0<(([.str a]::A7 r).length:Int)) (by (simp only [List.length_cons,List.length_nil,A3]; omega)),rp 3 (Bv Ao),rp 2 (bf (!ByteArray.toList a==ByteArray.toList (bM 118)) (AJ (BL AK))),ai (↑((fun x=>List.length (Prod.snd x)) (1,[.str a]::A7 r)):Int) (↑(List.length r+1):Int) (by (simp only [List.length_cons,List.length_nil,A3]; done)),bf (!ByteArray.toList a==ByteArray.toList (bM 118)) (AJ (BL AK)),Bv Ao,bf (!ByteArray.toList a==ByteArray.toList (bM 118)) (AJ (BL AK)),Bv Ao,Bh B9] func94
theorem tP(Ae:¬Ck (AR a)=0)(Ao:¬Ck (AZ a)=0)(AK:a=ByteArray.mk #[118])(B9:¬(↑(List.length r+1):Int)=1)(BU:ED r=EO.e0):Pu 94 [.str s] (rI 3):=
 pu Ad (fun e=>[kp,Az Ac,cl iM,kp,am ((0:Int)<=0/\0<(([.str a]::A7 r).length:Int)) (by (simp only [List.length_cons,List.length_nil,A3]; omega)),cl (@OC (a)),rp 2 (Bv Ae),kp,am ((0:Int)<=0/\0<(([.str a]::A7 r).length:Int)) (by (simp only [List.length_cons,List.length_nil,A3]; omega)),rp 2 (Bv Ae),cl (@Wy (a)),rp 2 (Bv Ae),rp 2 (Bv Ao),kp,am ((0:Int)<=0/\0<(([.str a]::A7 r).length:Int)) (by (simp only [List.length_cons,List.length_nil,A3]; omega)),rp 3 (Bv Ao),rp 2 (bf (!ByteArray.toList a==ByteArray.toList (bM 118)) (AJ (BL AK))),ai (↑((fun x=>List.length (Prod.snd x)) (1,[.str a]::A7 r)):Int) (↑(List.length r+1):Int) (by (simp only [List.length_cons,List.length_nil,A3]; done)),bf (!ByteArray.toList a==ByteArray.toList (bM 118)) (AJ (BL AK)),Bv Ao,bf (!ByteArray.toList a==ByteArray.toList (bM 118)) (AJ (BL AK)),Bv Ao,Aw B9,am ((0:Int)<=1/\1<=(([.str a]::A7 r).length:Int)/\(([.str a]::A7 r).length:Int)<=(([.str a]::A7 r).length:Int)) (by (simp only [List.length_cons,List.length_nil,A3]; omega)),av (vL 1 (List.drop 1 (List.take (Int.toNat (([.str a]::A7 r).length:Int)) ([.str a]::A7 r)))) (vL 1 (A7 r)) (by (simp only [List.length_map,List.length_append,List.length_cons,List.length_nil,A3,Pr.A0,Tp.A0,Pm.A0,Ex.A0,Al.A0,Vr.A0,Cn.A0,Da.A0,Cl.A0,Bo.A0,Df.A0,In.A0,Cs.A0,Ms.A0,Qu.A0,Sy.A0,Ho.A0,Int.toNat_natCast,Bool.cond_true_left,Bool.cond_false_right,Int.toNat_zero,D2,dtk]; done)),sl (A3 r),lp (S.mk [(0,vS s),(2,A1 0),(6,vS s),(7,A1 (↑(ByteArray.size s):Int)),(8,.v (.bool (decide ((↑(ByteArray.size s):Int)>120)))),(9,vS s),(10,vL 1 ([.str a]::A7 r)),(3,.uniq 9 1 ([.str a]::A7 r)),(11,vL 1 ([.str a]::A7 r)),(12,.v (.ro [.str a] 0)),(13,vS a),(14,A1 (Ck (AR a))),(15,.v (.bool (Ck (AR a) != 0))),(16,.v (.bool (Ck (AR a) != 0))),(17,vL 1 ([.str a]::A7 r)),(18,.v (.ro [.str a] 0)),(19,vS a),(20,A1 (Ck (AZ a))),(21,.v (.bool (Ck (AZ a) != 0))),(22,.v (.bool (Ck (AZ a) != 0))),(23,.v (.bool (Ck (AZ a) != 0))),(24,vL 1 ([.str a]::A7 r)),(25,.v (.ro [.str a] 0)),(26,vS a),(27,.v (.bool !ByteArray.toList a==ByteArray.toList (bM 118))),(28,.v (.bool !ByteArray.toList a==ByteArray.toList (bM 118))),(29,vL 1 ([.str a]::A7 r)),(30,A1 (↑(List.length r+1):Int)),(31,.v (.bool ((↑(List.length r+1):Int)==1))),(32,.v (.bool ((↑(List.length r+1):Int)==1))),(33,.v (.bool ((↑(List.length r+1):Int)==1))),(34,vL 1 ([.str a]::A7 r)),(35,vL 1 (A7 r)),(36,A1 (r.length:Int)),(37,A1 0)] [] e) (@ZI (r) (e) hN BU) xr]) func94
theorem tQ(Ae:¬Ck (AR a)=0)(Ao:¬Ck (AZ a)=0)(AK:a=ByteArray.mk #[118])(B9:¬(↑(List.length r+1):Int)=1)(BU:ED r=EO.e1):Pu 94 [.str s] (rI 0):=
 pu Ad (fun e=>[kp,Az Ac,cl iM,kp,am ((0:Int)<=0/\0<(([.str a]::A7 r).length:Int)) (by (simp only [List.length_cons,List.length_nil,A3]; omega)),cl (@OC (a)),rp 2 (Bv Ae),kp,am ((0:Int)<=0/\0<(([.str a]::A7 r).length:Int)) (by (simp only [List.length_cons,List.length_nil,A3]; omega)),rp 2 (Bv Ae),cl (@Wy (a)),rp 2 (Bv Ae),rp 2 (Bv Ao),kp,am ((0:Int)<=0/\0<(([.str a]::A7 r).length:Int)) (by (simp only [List.length_cons,List.length_nil,A3]; omega)),rp 3 (Bv Ao),rp 2 (bf (!ByteArray.toList a==ByteArray.toList (bM 118)) (AJ (BL AK))),ai (↑((fun x=>List.length (Prod.snd x)) (1,[.str a]::A7 r)):Int) (↑(List.length r+1):Int) (by (simp only [List.length_cons,List.length_nil,A3]; done)),bf (!ByteArray.toList a==ByteArray.toList (bM 118)) (AJ (BL AK)),Bv Ao,bf (!ByteArray.toList a==ByteArray.toList (bM 118)) (AJ (BL AK)),Bv Ao,Aw B9,am ((0:Int)<=1/\1<=(([.str a]::A7 r).length:Int)/\(([.str a]::A7 r).length:Int)<=(([.str a]::A7 r).length:Int)) (by (simp only [List.length_cons,List.length_nil,A3]; omega)),av (vL 1 (List.drop 1 (List.take (Int.toNat (([.str a]::A7 r).length:Int)) ([.str a]::A7 r)))) (vL 1 (A7 r)) (by (simp only [List.length_map,List.length_append,List.length_cons,List.length_nil,A3,Pr.A0,Tp.A0,Pm.A0,Ex.A0,Al.A0,Vr.A0,Cn.A0,Da.A0,Cl.A0,Bo.A0,Df.A0,In.A0,Cs.A0,Ms.A0,Qu.A0,Sy.A0,Ho.A0,Int.toNat_natCast,Bool.cond_true_left,Bool.cond_false_right,Int.toNat_zero,D2,dtk]; done)),sl (A3 r),lp (S.mk [(0,vS s),(2,A1 0),(6,vS s),(7,A1 (↑(ByteArray.size s):Int)),(8,.v (.bool (decide ((↑(ByteArray.size s):Int)>120)))),(9,vS s),(10,vL 1 ([.str a]::A7 r)),(3,.uniq 9 1 ([.str a]::A7 r)),(11,vL 1 ([.str a]::A7 r)),(12,.v (.ro [.str a] 0)),(13,vS a),(14,A1 (Ck (AR a))),(15,.v (.bool (Ck (AR a) != 0))),(16,.v (.bool (Ck (AR a) != 0))),(17,vL 1 ([.str a]::A7 r)),(18,.v (.ro [.str a] 0)),(19,vS a),(20,A1 (Ck (AZ a))),(21,.v (.bool (Ck (AZ a) != 0))),(22,.v (.bool (Ck (AZ a) != 0))),(23,.v (.bool (Ck (AZ a) != 0))),(24,vL 1 ([.str a]::A7 r)),(25,.v (.ro [.str a] 0)),(26,vS a),(27,.v (.bool !ByteArray.toList a==ByteArray.toList (bM 118))),(28,.v (.bool !ByteArray.toList a==ByteArray.toList (bM 118))),(29,vL 1 ([.str a]::A7 r)),(30,A1 (↑(List.length r+1):Int)),(31,.v (.bool ((↑(List.length r+1):Int)==1))),(32,.v (.bool ((↑(List.length r+1):Int)==1))),(33,.v (.bool ((↑(List.length r+1):Int)==1))),(34,vL 1 ([.str a]::A7 r)),(35,vL 1 (A7 r)),(36,A1 (r.length:Int)),(37,A1 0)] [] e) (@ZJ (r) (e) hN BU) xr]) func94
theorem tR(Ae:¬Ck (AR a)=0)(Ao:Ck (AZ a)=0)(AK:ED r=EO.e0):Pu 94 [.str s] (rI 3):=
 pu Ad (fun e=>[kp,Az Ac,cl iM,kp,am ((0:Int)<=0/\0<(([.str a]::A7 r).length:Int)) (by (simp only [List.length_cons,List.length_nil,A3]; omega)),cl (@OC (a)),rp 2 (Bv Ae),kp,am ((0:Int)<=0/\0<(([.str a]::A7 r).length:Int)) (by (simp only [List.length_cons,List.length_nil,A3]; omega)),rp 2 (Bv Ae),cl (@Wy (a)),rp 2 (Bv Ae),rp 7 (Bi Ao),bf false,am ((0:Int)<=1/\1<=(([.str a]::A7 r).length:Int)/\(([.str a]::A7 r).length:Int)<=(([.str a]::A7 r).length:Int)) (by (simp only [List.length_cons,List.length_nil,A3]; omega)),av (vL 1 (List.drop 1 (List.take (Int.toNat (([.str a]::A7 r).length:Int)) ([.str a]::A7 r)))) (vL 1 (A7 r)) (by (simp only [List.length_map,List.length_append,List.length_cons,List.length_nil,A3,Pr.A0,Tp.A0,Pm.A0,Ex.A0,Al.A0,Vr.A0,Cn.A0,Da.A0,Cl.A0,Bo.A0,Df.A0,In.A0,Cs.A0,Ms.A0,Qu.A0,Sy.A0,Ho.A0,Int.toNat_natCast,Bool.cond_true_left,Bool.cond_false_right,Int.toNat_zero,D2,dtk]; done)),sl (A3 r),lp (S.mk [(0,vS s),(2,A1 0),(6,vS s),(7,A1 (↑(ByteArray.size s):Int)),(8,.v (.bool (decide ((↑(ByteArray.size s):Int)>120)))),(9,vS s),(10,vL 1 ([.str a]::A7 r)),(3,.uniq 9 1 ([.str a]::A7 r)),(11,vL 1 ([.str a]::A7 r)),(12,.v (.ro [.str a] 0)),(13,vS a),(14,A1 (Ck (AR a))),(15,.v (.bool (Ck (AR a) != 0))),(16,.v (.bool (Ck (AR a) != 0))),(17,vL 1 ([.str a]::A7 r)),(18,.v (.ro [.str a] 0)),(19,vS a),(20,A1 (Ck (AZ a))),(21,.v (.bool (Ck (AZ a) != 0))),(22,.v (.bool (Ck (AZ a) != 0))),(23,.v (.bool (Ck (AZ a) != 0))),(24,.v (.AE [])),(25,.v (.AE [])),(26,.v (.AE [])),(27,.v (.AE [])),(28,.v (.AE [])),(29,.v (.AE [])),(30,.v (.AE [])),(31,.v (.AE [])),(32,.v (.AE [])),(33,.v (.bool false)),(34,vL 1 ([.str a]::A7 r)),(35,vL 1 (A7 r)),(36,A1 (r.length:Int)),(37,A1 0)] [] e) (@ZI (r) (e) hN AK) xr]) func94
theorem tS(Ae:¬Ck (AR a)=0)(Ao:Ck (AZ a)=0)(AK:ED r=EO.e1):Pu 94 [.str s] (rI 0):=
 pu Ad (fun e=>[kp,Az Ac,cl iM,kp,am ((0:Int)<=0/\0<(([.str a]::A7 r).length:Int)) (by (simp only [List.length_cons,List.length_nil,A3]; omega)),cl (@OC (a)),rp 2 (Bv Ae),kp,am ((0:Int)<=0/\0<(([.str a]::A7 r).length:Int)) (by (simp only [List.length_cons,List.length_nil,A3]; omega)),rp 2 (Bv Ae),cl (@Wy (a)),rp 2 (Bv Ae),rp 7 (Bi Ao),bf false,am ((0:Int)<=1/\1<=(([.str a]::A7 r).length:Int)/\(([.str a]::A7 r).length:Int)<=(([.str a]::A7 r).length:Int)) (by (simp only [List.length_cons,List.length_nil,A3]; omega)),av (vL 1 (List.drop 1 (List.take (Int.toNat (([.str a]::A7 r).length:Int)) ([.str a]::A7 r)))) (vL 1 (A7 r)) (by (simp only [List.length_map,List.length_append,List.length_cons,List.length_nil,A3,Pr.A0,Tp.A0,Pm.A0,Ex.A0,Al.A0,Vr.A0,Cn.A0,Da.A0,Cl.A0,Bo.A0,Df.A0,In.A0,Cs.A0,Ms.A0,Qu.A0,Sy.A0,Ho.A0,Int.toNat_natCast,Bool.cond_true_left,Bool.cond_false_right,Int.toNat_zero,D2,dtk]; done)),sl (A3 r),lp (S.mk [(0,vS s),(2,A1 0),(6,vS s),(7,A1 (↑(ByteArray.size s):Int)),(8,.v (.bool (decide ((↑(ByteArray.size s):Int)>120)))),(9,vS s),(10,vL 1 ([.str a]::A7 r)),(3,.uniq 9 1 ([.str a]::A7 r)),(11,vL 1 ([.str a]::A7 r)),(12,.v (.ro [.str a] 0)),(13,vS a),(14,A1 (Ck (AR a))),(15,.v (.bool (Ck (AR a) != 0))),(16,.v (.bool (Ck (AR a) != 0))),(17,vL 1 ([.str a]::A7 r)),(18,.v (.ro [.str a] 0)),(19,vS a),(20,A1 (Ck (AZ a))),(21,.v (.bool (Ck (AZ a) != 0))),(22,.v (.bool (Ck (AZ a) != 0))),(23,.v (.bool (Ck (AZ a) != 0))),(24,.v (.AE [])),(25,.v (.AE [])),(26,.v (.AE [])),(27,.v (.AE [])),(28,.v (.AE [])),(29,.v (.AE [])),(30,.v (.AE [])),(31,.v (.AE [])),(32,.v (.AE [])),(33,.v (.bool false)),(34,vL 1 ([.str a]::A7 r)),(35,vL 1 (A7 r)),(36,A1 (r.length:Int)),(37,A1 0)] [] e) (@ZJ (r) (e) hN AK) xr]) func94
theorem tT(Ae:Ck (AR a)=0)(Ao:ED r=EO.e0):Pu 94 [.str s] (rI 3):=
 pu Ad (fun e=>[kp,Az Ac,cl iM,kp,am ((0:Int)<=0/\0<(([.str a]::A7 r).length:Int)) (by (simp only [List.length_cons,List.length_nil,A3]; omega)),cl (@OC (a)),rp 6 (Bi Ae),rp 8 (bf false),am ((0:Int)<=1/\1<=(([.str a]::A7 r).length:Int)/\(([.str a]::A7 r).length:Int)<=(([.str a]::A7 r).length:Int)) (by (simp only [List.length_cons,List.length_nil,A3]; omega)),av (vL 1 (List.drop 1 (List.take (Int.toNat (([.str a]::A7 r).length:Int)) ([.str a]::A7 r)))) (vL 1 (A7 r)) (by (simp only [List.length_map,List.length_append,List.length_cons,List.length_nil,A3,Pr.A0,Tp.A0,Pm.A0,Ex.A0,Al.A0,Vr.A0,Cn.A0,Da.A0,Cl.A0,Bo.A0,Df.A0,In.A0,Cs.A0,Ms.A0,Qu.A0,Sy.A0,Ho.A0,Int.toNat_natCast,Bool.cond_true_left,Bool.cond_false_right,Int.toNat_zero,D2,dtk]; done)),sl (A3 r),lp (S.mk [(0,vS s),(2,A1 0),(6,vS s),(7,A1 (↑(ByteArray.size s):Int)),(8,.v (.bool (decide ((↑(ByteArray.size s):Int)>120)))),(9,vS s),(10,vL 1 ([.str a]::A7 r)),(3,.uniq 9 1 ([.str a]::A7 r)),(11,vL 1 ([.str a]::A7 r)),(12,.v (.ro [.str a] 0)),(13,vS a),(14,A1 (Ck (AR a))),(15,.v (.bool (Ck (AR a) != 0))),(16,.v (.bool (Ck (AR a) != 0))),(17,.v (.AE [])),(18,.v (.AE [])),(19,.v (.AE [])),(20,.v (.AE [])),(21,.v (.AE [])),(22,.v (.bool false)),(23,.v (.bool false)),(24,.v (.AE [])),(25,.v (.AE [])),(26,.v (.AE [])),(27,.v (.AE [])),(28,.v (.AE [])),(29,.v (.AE [])),(30,.v (.AE [])),(31,.v (.AE [])),(32,.v (.AE [])),(33,.v (.bool false)),(34,vL 1 ([.str a]::A7 r)),(35,vL 1 (A7 r)),(36,A1 (r.length:Int)),(37,A1 0)] [] e) (@ZI (r) (e) hN Ao) xr]) func94
theorem tU(Ae:Ck (AR a)=0)(Ao:ED r=EO.e1):Pu 94 [.str s] (rI 0):=
 pu Ad (fun e=>[kp,Az Ac,cl iM,kp,am ((0:Int)<=0/\0<(([.str a]::A7 r).length:Int)) (by (simp only [List.length_cons,List.length_nil,A3]; omega)),cl (@OC (a)),rp 6 (Bi Ae),rp 8 (bf false),am ((0:Int)<=1/\1<=(([.str a]::A7 r).length:Int)/\(([.str a]::A7 r).length:Int)<=(([.str a]::A7 r).length:Int)) (by (simp only [List.length_cons,List.length_nil,A3]; omega)),av (vL 1 (List.drop 1 (List.take (Int.toNat (([.str a]::A7 r).length:Int)) ([.str a]::A7 r)))) (vL 1 (A7 r)) (by (simp only [List.length_map,List.length_append,List.length_cons,List.length_nil,A3,Pr.A0,Tp.A0,Pm.A0,Ex.A0,Al.A0,Vr.A0,Cn.A0,Da.A0,Cl.A0,Bo.A0,Df.A0,In.A0,Cs.A0,Ms.A0,Qu.A0,Sy.A0,Ho.A0,Int.toNat_natCast,Bool.cond_true_left,Bool.cond_false_right,Int.toNat_zero,D2,dtk]; done)),sl (A3 r),lp (S.mk [(0,vS s),(2,A1 0),(6,vS s),(7,A1 (↑(ByteArray.size s):Int)),(8,.v (.bool (decide ((↑(ByteArray.size s):Int)>120)))),(9,vS s),(10,vL 1 ([.str a]::A7 r)),(3,.uniq 9 1 ([.str a]::A7 r)),(11,vL 1 ([.str a]::A7 r)),(12,.v (.ro [.str a] 0)),(13,vS a),(14,A1 (Ck (AR a))),(15,.v (.bool (Ck (AR a) != 0))),(16,.v (.bool (Ck (AR a) != 0))),(17,.v (.AE [])),(18,.v (.AE [])),(19,.v (.AE [])),(20,.v (.AE [])),(21,.v (.AE [])),(22,.v (.bool false)),(23,.v (.bool false)),(24,.v (.AE [])),(25,.v (.AE [])),(26,.v (.AE [])),(27,.v (.AE [])),(28,.v (.AE [])),(29,.v (.AE [])),(30,.v (.AE [])),(31,.v (.AE [])),(32,.v (.AE [])),(33,.v (.bool false)),(34,vL 1 ([.str a]::A7 r)),(35,vL 1 (A7 r)),(36,A1 (r.length:Int)),(37,A1 0)] [] e) (@ZJ (r) (e) hN Ao) xr]) func94
end
theorem Aav(s:BA)(hl:(s.size:Int)>120):Pu 94 [.str s] (rI 3):=
 pm Ad [kp,dt ((↑(ByteArray.size s):Int)>120) hl] func94
abbrev UJ(l:List BA)(j:Int)(e:Ext):S:=S.mk [(0,vL 1 (A7 l)),(2,.v (.bool false)),(5,A1 (l.length:Int)),(6,A1 j)] [] e
inductive Gx where
 | e0
 | e1
def FZ(l:List BA):List BA->Nat->Gx
 | [],i=>(Gx.e1)
 | el::r,i=>(if TO el l=(i:Int) then FZ l r (i+1)  else (Gx.e0))
def Nr(l:List BA)(e:Ext):Gx->A5 × S
 | .e0=>(.ret,S.mk [(0,vL 1 (A7 l)),(2,.v (.bool false)),(5,A1 (l.length:Int))] [] e)
 | .e1=>(.exit 0,S.mk [(0,vL 1 (A7 l)),(2,.v (.bool false)),(5,A1 (l.length:Int))] [] e)
theorem ZK(l:List BA)(hN:l.length<=1000000000)(e:Ext)(hN:l.length<=1000000000):(Ob.loop 18 (Ai f178 0) (UJ l 0  e) (Nr l e (FZ l (List.drop 0 (l)) 0)).1 (Nr l e (FZ l (List.drop 0 (l)) 0)).2).ok prog:=by
 refine Ds l.length (fun j _=>UJ l j  e) (fun i _=>FZ l (List.drop i (l)) i) (Nr l e) (fun i _=>True) kR ?_ () trivial
 rintro i u hi -
 rcases Nat.lt_or_ge i (l.length) with Ag | CO
 ·have hd:=CL Ag
  by_cases h0:TO (List.getD l i Ah) l=(i:Int)
  ·exact lN Ad [dt ((i:Int)<(l.length:Int)),am ((0:Int)<=(i:Int)/\(i:Int)<((A7 l).length:Int)) (by (simp only [A3]; omega)),ar (List.getD (A7 l) (Int.toNat (i:Int)) []) [.str (List.getD l i Ah)] (by simp only [Int.toNat_natCast,Int.toNat_zero]; rw [@Cv (l) (i) Ag]; try rfl),cl (@sV (l) (List.getD l i Ah) hN),Bi h0,wr ((i:Int)+1)] Ag () trivial (by rw [hd,FZ,iP h0])
  ·exact lX Ad [dt ((i:Int)<(l.length:Int)),am ((0:Int)<=(i:Int)/\(i:Int)<((A7 l).length:Int)) (by (simp only [A3]; omega)),ar (List.getD (A7 l) (Int.toNat (i:Int)) []) [.str (List.getD l i Ah)] (by simp only [Int.toNat_natCast,Int.toNat_zero]; rw [@Cv (l) (i) Ag]; try rfl),cl (@sV (l) (List.getD l i Ah) hN),Bv h0] (Gx.e0) (by rw [hd,FZ,iN h0])
 ·have he:i=l.length:=by omega
  exact lX Ad [df ((i:Int)<(l.length:Int))] (Gx.e1) (by rw [he,List.drop_length,FZ])
theorem A3d(l:List BA)(hN:l.length<=1000000000)(e:Ext)(hN:l.length<=1000000000)(At:(FZ l (l) 0)=(Gx.e0)):(Ob.loop 18 (Ai f178 0) (UJ l 0  e) (Nr l e (Gx.e0)).1 (Nr l e (Gx.e0)).2).ok prog:=
 rz (ZK l hN e hN) At
theorem A3e(l:List BA)(hN:l.length<=1000000000)(e:Ext)(hN:l.length<=1000000000)(At:(FZ l (l) 0)=(Gx.e1)):(Ob.loop 18 (Ai f178 0) (UJ l 0  e) (Nr l e (Gx.e1)).1 (Nr l e (Gx.e1)).2).ok prog:=
 rz (ZK l hN e hN) At
section
variable (l:List BA) (hN:l.length<=1000000000)
include l hN
theorem tW(Ac:FZ l l 0=Gx.e0):Pu 178 [.sl 1 (A7 l)] (rB false):=
 pu Ad (fun e=>[sl (A3 l),lp (S.mk [(0,vL 1 (A7 l)),(2,.v (.bool false)),(4,vL 1 (A7 l)),(5,A1 (l.length:Int)),(6,A1 0)] [] e) (@A3d (l) hN (e) hN Ac) xr]) func178
theorem tX(Ac:FZ l l 0=Gx.e1):Pu 178 [.sl 1 (A7 l)] (rB true):=
 pu Ad (fun e=>[sl (A3 l),lp (S.mk [(0,vL 1 (A7 l)),(2,.v (.bool false)),(4,vL 1 (A7 l)),(5,A1 (l.length:Int)),(6,A1 0)] [] e) (@A3e (l) hN (e) hN Ac) xr]) func178
end
theorem ZL:∀r:List BA,ED r=if r.all CW=true then .e1 else .e0
 | []=>rfl
 | c::r=>by cases h:CW c <;> simp [ED,h,ZL r]
theorem tY(n:Nat)(s:BA):(WZ (n+1) s).length>=1:=by rw [WZ]; split <;> simp
theorem iO(s:BA):CH s=(decide (s.size<=120)&&((AR (fD s)||AZ (fD s)||(decide (fD s=tV)&&decide (1<=(UG s).length)))&&(UG s).all CW)):=by
 unfold CH fD UG
 by_cases hx:B8 s<s.size
 ·have h1:=JZ s hx
  rw [iP hx,iP hx,iP hx,<-ZC (s.size+1) _ oM,decide_eq_true (tY _ _),Bool.and_true]
 ·rw [iN hx,iN hx,iN hx]; simp
theorem tZ{s:BA}(hs:s.size<=100000000):(UG s).length<=100000000:=by
 have h:∀ (n:Nat) (s:BA),s.size<n->(WZ n s).length<=s.size+1:=by
  intro n
  induction n with
  | zero=>intro s h; omega
  | succ n ih=>
   intro s h
   rw [WZ]
   split
   ·rename_i hx
    have h1:=JZ s hx
    have:=ih _ (by omega:(s.extract (B8 s+1) s.size).size<n)
    simp only [List.length_cons]; omega
   ·simp
 unfold UG
 split
 ·rename_i hx
  have h1:=JZ s hx
  have:=h (s.size+1) (s.extract (B8 s+1) s.size) oM
  omega
 ·simp
theorem mK{b:Bool}:Ck b=0↔b=true:=by cases b <;> simp [Ck]
theorem ZM{b:Bool}(h:¬Ck b=0):b=false:=by
 cases b with
 | false=>rfl
 | true=>exact absurd rfl h
theorem WA(s:BA):Pu 94 [.str s] (.ret (.int .i64 (Ck (CH s)))):=by
 rw [iO]
 by_cases hl:(s.size:Int)>120
 ·rw [decide_eq_false (by omega:¬s.size<=120),Bool.false_and]; exact Aav s hl
 ·have hs:s.size<=100000000:=by omega
  have hN:(UG s).length<=1000000000:=by have:=tZ hs; omega
  have hp:=Aau s hs
  rw [decide_eq_true (by omega:s.size<=120),Bool.true_and]
  have tail:∀ (h0:ED (UG s) = .e0->Pu 94 [.str s] (.ret (.int .i64 3))) (h1:ED (UG s) = .e1->Pu 94 [.str s] (.ret (.int .i64 0))),Pu 94 [.str s] (.ret (.int .i64 (Ck ((UG s).all CW)))):=by
   intro h0 h1
   cases ha:(UG s).all CW with
   | true=>exact h1 (by rw [ZL,iP ha])
   | false=>exact h0 (by rw [ZL,iN (by rw [ha]; decide)])
  by_cases h1:Ck (AR (fD s))=0
  ·rw [mK.1 h1,Bool.true_or,Bool.true_or,Bool.true_and]
   exact tail (tT s _ _ hN hp hl h1) (tU s _ _ hN hp hl h1)
  ·have TN:=ZM h1
   rw [TN,Bool.false_or]
   by_cases h2:Ck (AZ (fD s))=0
   ·rw [mK.1 h2,Bool.true_or,Bool.true_and]
    exact tail (tR s _ _ hN hp hl h1 h2) (tS s _ _ hN hp hl h1 h2)
   ·have h2':=ZM h2
    rw [h2',Bool.false_or]
    by_cases h3:fD s=tV
    ·rw [decide_eq_true h3,Bool.true_and]
     by_cases h4:(((UG s).length+1:Nat):Int)=1
     ·rw [decide_eq_false oM,Bool.false_and]; exact tO s _ _ hN hp hl h1 h2 h3 h4
     ·rw [decide_eq_true oM,Bool.true_and]
      exact tail (tP s _ _ hN hp hl h1 h2 h3 h4) (tQ s _ _ hN hp hl h1 h2 h3 h4)
    ·rw [decide_eq_false h3,Bool.false_and,Bool.false_and]; exact tN s _ _ hN hp hl h1 h2 h3
theorem ZN(s:BA):∀ks:List BA,Lp s ks=true↔s∈ks
 | []=>by simp [Lp]
 | k::r=>by
  simp only [Lp,Bool.or_eq_true,decide_eq_true_eq,ZN s r,List.mem_cons]
  exact or_congr_left ⟨Eq.symm,Eq.symm⟩
theorem UK(s x:BA):∀ks:List BA,x∈fE s ks↔x=s∨x∈ks
 | []=>by simp [fE]
 | k::r=>by
  by_cases h:k=s
  ·subst h; simp [fE]
  ·simp only [fE,h,if_false,List.mem_cons,UK s x r]
   constructor
   ·rintro (h | h | h) <;> simp [h]
   ·rintro (h | h | h) <;> simp [h]
theorem mL:∀l ks:List BA,(∃k,EC l ks = .e1 k)↔(l.Nodup/\∀x∈l,x∉ks)
 | [],ks=>by simp [EC]
 | c::r,ks=>by
  have hm:=ZN c ks
  rw [EC]
  cases h:Lp c ks with
  | true=>
   have h':=hm.1 h
   simp only [if_true,List.mem_cons,forall_eq_or_imp,reduceCtorEq,exists_false,false_iff]
   exact fun hh=>hh.2.1 h'
  | false=>
   have h':c∉ks:=fun hh=>by rw [hm.2 hh] at h; cases h
   simp only [Bool.false_eq_true,if_false]
   rw [mL r,List.nodup_cons]
   simp only [UK,not_or,List.mem_cons,forall_eq_or_imp]
   constructor
   ·rintro ⟨h1,h2⟩; exact ⟨⟨fun hc=>(h2 c hc).1 rfl,h1⟩,h',fun x hx=>(h2 x hx).2⟩
   ·rintro ⟨⟨h0,h1⟩,_,h2⟩; exact ⟨h1,fun x hx=>⟨fun e=>h0 (e ▸ hx),h2 x hx⟩⟩
theorem u0(l:List BA):F1 l=true↔l.Nodup:=by
 have h:=mL l []
 unfold F1
 cases hr:EC l [] with
 | e0 k=>simp only [Bool.false_eq_true,false_iff]; intro hn; obtain ⟨k',hk⟩:=h.2 ⟨hn,fun x _=>List.not_mem_nil⟩; rw [hr] at hk; cases hk
 | e1 k=>simp only [true_iff]; exact (h.1 ⟨k,hr⟩).1
theorem ZO(s:BA)(r:List BA):∀pre:List BA,ix id s (pre++s::r)=pre.length↔s∉pre
 | []=>by simp [ix]
 | c::p=>by
  by_cases h:c=s
  ·subst h; simp [ix]
  ·have h':¬s=c:=fun e=>h e.symm
   simp [ix,h,h',ZO s r p]
theorem u5(s:BA)(pre r:List BA):TO s (pre++s::r)=(pre.length:Int)↔s∉pre:=by
 rw [<-ZO s r pre]
 unfold TO
 split
 ·exact ⟨fun h=>by omega,fun h=>by omega⟩
 ·rename_i h
  constructor
  ·intro h2; omega
  ·intro h2; exfalso; apply h; rw [h2]; simp
theorem mM(l:List BA):∀ (pre r:List BA),l=pre++r->(FZ l r pre.length = .e1↔(r.Nodup/\∀x∈r,x∉pre))
 | pre,[],h=>by simp [FZ]
 | pre,c::r,h=>by
  have ih:=mM l (pre++[c]) r (by rw [h]; simp)
  simp only [List.length_append,List.length_cons,List.length_nil,Nat.zero_add] at ih
  have hp:TO c l=(pre.length:Int)↔c∉pre:=by rw [h]; exact u5 c pre r
  rw [FZ]
  by_cases hc:TO c l=(pre.length:Int)
  ·have h':=hp.1 hc
   rw [iP hc,ih,List.nodup_cons]
   simp only [List.mem_append,List.mem_singleton,not_or,List.mem_cons,forall_eq_or_imp]
   constructor
   ·rintro ⟨h1,h2⟩; exact ⟨⟨fun hc=>(h2 c hc).2.1 rfl,h1⟩,h',fun x hx=>(h2 x hx).1⟩
   ·rintro ⟨⟨h0,h1⟩,_,h2⟩; exact ⟨h1,fun x hx=>⟨h2 x hx,fun e=>h0 (e ▸ hx),List.not_mem_nil⟩⟩
  ·rw [iN hc]
   simp only [reduceCtorEq,List.mem_cons,forall_eq_or_imp,false_iff]
   exact fun hh=>hc (hp.2 hh.2.1)
theorem u6(l:List BA)(hN:l.length<=1000000000):Pu 178 [.sl 1 (A7 l)] (.ret (.bool (F1 l))):=by
 have h:=mM l [] l rfl
 have hd:=u0 l
 simp only [List.length_nil,List.not_mem_nil,not_false_eq_true,implies_true,and_true] at h
 cases hr:FZ l l 0 with
 | e0=>
  have:F1 l=false:=by
   cases hb:F1 l with
   | false=>rfl
   | true=>have:=h.2 (hd.1 hb); rw [hr] at this; cases this
  rw [this]; exact tW l hN hr
 | e1=>rw [hd.2 (h.1 hr)]; exact tX l hN hr
open Go.RowKit Go.Shelf Go.Pv
attribute [local go_sem] Oper.semAt_some
set_option maxRecDepth 100000
structure KC (W W':World):Prop where
 size:W.heap.size<=W'.heap.size
 same:∀ (k:Nat) (o:Obj),W.heap[k]?=some o->o.isCells=true->W'.heap[k]?=some o
theorem KC.refl(W:World):KC W W:=⟨Nat.le_refl _,fun _ _ h _=>h⟩
theorem KC.trans{A B C:World}(h:KC A B)(k:KC B C):KC A C:=⟨Nat.le_trans h.size k.size,fun i o hi ho=>k.same i o (h.same i o hi ho) ho⟩
theorem KC.cell{A B:World}(h:KC A B){a:Addr}{v:Value}(hc:A.cell? a=some v):B.cell? a=some v:=by
 unfold World.cell? at hc ⊢
 cases hh:A.heap[a.block]? with
 | none=>simp [hh] at hc
 | some o=>
  cases o with
  | cells cur e m=>rw [h.same _ _ hh rfl]; rw [hh] at hc; exact hc
  | _=>simp [hh] at hc
mutual
/-- The nodes of a predicate,each before its kids' nodes. -/
def C8:Pr->List Pr
 | .mk o s n ks => .mk o s n ks::BH ks
def BH:List Pr->List Pr
 | []=>[]
 | x::r=>C8 x++BH r
end
theorem Fl(p:Pr):C8 p=p::BH (As p):=by cases p; simp [C8,As]
abbrev OD(p:Pr)(kv:Value):Value := .agg #[.int .i64 (Ab p),.string (Aq p),.int .i64 (Ch p),kv]
theorem KC.alloc{A W:World}(h:KC A W)(o:Obj):KC A (W.alloc o):=⟨Nat.le_trans h.size (by simp),fun k o' hk hc=>by
 have h1:=h.same k o' hk hc
 exact (Below.heap_alloc _ _ _ (Array.getElem?_eq_some_iff.1 h1).1).trans h1⟩
theorem WB(W:World)(v0 v1 v2 v3:Value):(W.alloc (.cells #[v0,v1,v2,v3] 41)).cell? ⟨W.heap.size,3,none⟩=some v3:=by
 unfold World.cell?
 rw [World.alloc_heap_new W (.cells #[v0,v1,v2,v3] 41)]
 rfl
abbrev Nd(g:Gh)(W0:World):Type:={ x:Pr × Option Addr × Nat × Nat // BJ g W0 (.sl 4 (Pr.cs (As x.1))) (.slice x.2.1 x.2.2.1 x.2.2.2) }
abbrev Nd.enc{g:Gh}{W0:World}(x:Nd g W0):Value:=OD x.1.1 (.slice x.1.2.1 x.1.2.2.1 x.1.2.2.2)
theorem A3f{W:World}{a:Addr}{v:Value}(h:W.cell? a=some v):a=⟨a.block,a.off,none⟩:=by
 have:=HW h
 cases a; simp only at this; subst this; rfl
theorem ZP{g:Gh}{w:World}{z:Nat}{es:List (List PV)}{v:Value}(h:BJ g w (.sl z es) v):∃oa m c,v = .slice oa m c:=by
 cases h with
 | slnil=>exact ⟨none,0,0,rfl⟩
 | sl _ _ a cap _ _ _ _ _ _ _ _=>exact ⟨some a,_,cap,rfl⟩
theorem ZQ{g:Gh}{W0:World}(x:Nd g W0):(As x.1.1=[]/\x.1.2.2.1=0) ∨
  ∃b off,x.1.2.1=some ⟨b,off,none⟩/\x.1.2.2.1=(As x.1.1).length/\0<(As x.1.1).length/\(As x.1.1).length<=9223372036854775807 /\
   ∀i,i<(As x.1.1).length->∃y:Nd g W0,y.1.1=(As x.1.1).getD i default/\W0.cell? ⟨b,off+i * 4,none⟩=some (.int .i64 (Ab y.1.1))/\W0.cell? ⟨b,off+i * 4+1,none⟩=some (.string (Aq y.1.1)) /\
    W0.cell? ⟨b,off+i * 4+2,none⟩=some (.int .i64 (Ch y.1.1))/\W0.cell? ⟨b,off+i * 4+3,none⟩=some (.slice y.1.2.1 y.1.2.2.1 y.1.2.2.2):=by
 obtain ⟨⟨p,oa,m,c⟩,h⟩:=x
 simp only at h ⊢
 generalize he:Pr.cs (As p)=es at h
 generalize hv:Value.slice oa m c=v at h
 have hl:es.length=(As p).length:=by rw [<-he,Pr.A0]
 cases h with
 | slnil=>
  injection hv with e1 e2 e3
  exact .inl ⟨List.eq_nil_of_length_eq_zero (by rw [<-hl]; rfl),e2⟩
 | sl _ _ a cap vs hle Di Bq hc hf h1 hr=>
  injection hv with e1 e2 e3
  by_cases h0:(As p).length=0
  ·exact .inl ⟨List.eq_nil_of_length_eq_zero h0,by omega⟩
  ·have c00:=A3f (hc 0 0 (by omega) (by omega))
   have ha:a=⟨a.block,a.off,none⟩:=by
    have h:=HW (hc 0 0 (by omega) (by omega))
    cases a with
    | mk b o sp=>
     simp only [Addr.add] at h ⊢
     split at h <;> simp_all
   refine .inr ⟨a.block,a.off,by rw [e1,<-ha],by omega,by omega,Nat.le_trans (by omega) (Nat.le_trans Di (by decide)),fun i hi=>?_⟩
   have u7:i<es.length:=by omega
   have JI:es[i]=AO ((As p).getD i default):=by
    have:=Pr.B5 hi
    rw [he] at this
    rw [<-this]
    simp [List.getD,u7]
   have lE:∀j,a.add (i * 4+j)=⟨a.block,a.off+i * 4+j,none⟩:=fun j=>by
    rw [ha]; simp only [Addr.add]; simp [Nat.add_assoc]
   have hrr:∀j (hj:j<es[i].length),BJ g W0 es[i][j] (vs i j):=fun j hj=>hr i j u7 hj
   have hlen:es[i].length=4:=Bq i u7
   have r0:BJ g W0 (.int .i64 (Ab ((As p).getD i default))) (vs i 0):=by have:=hrr 0 (by omega); simpa only [JI,AO,List.getElem_cons_zero] using this
   have r1:BJ g W0 (.str (Aq ((As p).getD i default))) (vs i 1):=by have:=hrr 1 (by omega); simpa only [JI,AO,List.getElem_cons_zero,List.getElem_cons_succ] using this
   have r2:BJ g W0 (.int .i64 (Ch ((As p).getD i default))) (vs i 2):=by have:=hrr 2 (by omega); simpa only [JI,AO,List.getElem_cons_zero,List.getElem_cons_succ] using this
   have r3:BJ g W0 (.sl 4 (Pr.cs (As ((As p).getD i default)))) (vs i 3):=by have:=hrr 3 (by omega); simpa only [JI,AO,List.getElem_cons_zero,List.getElem_cons_succ] using this
   obtain ⟨fF,m',c',e'⟩:=ZP r3
   have v0:vs i 0 = .int .i64 (Ab ((As p).getD i default)):=by generalize vs i 0=u at r0; cases r0; rfl
   have v1:vs i 1 = .string (Aq ((As p).getD i default)):=by generalize vs i 1=u at r1; cases r1; rfl
   have v2:vs i 2 = .int .i64 (Ch ((As p).getD i default)):=by generalize vs i 2=u at r2; cases r2; rfl
   refine ⟨⟨⟨(As p).getD i default,fF,m',c'⟩,by rw [e'] at r3; exact r3⟩,rfl,?_,?_,?_,?_⟩
   ·have:=hc i 0 u7 (by omega); rw [lE,v0] at this; exact this
   ·have:=hc i 1 u7 (by omega); rw [lE,v1] at this; exact this
   ·have:=hc i 2 u7 (by omega); rw [lE,v2] at this; exact this
   ·have:=hc i 3 u7 (by omega); rw [lE,e'] at this; exact this
theorem Gy:∀a b:List Pr,BH (a++b)=BH a++BH b
 | [],b=>rfl
 | x::r,b=>by simp [BH,Gy r b]
theorem I9{ks:List Pr}{k:Nat}(h:k<ks.length):BH (ks.take (k+1))=BH (ks.take k)++C8 (ks.getD k default):=by
 rw [List.take_add_one,Gy]
 simp [List.getD,h,BH]
theorem Tq{ks:List Pr}{k:Nat}(h:k<ks.length):(BH (ks.take k)).length+(C8 (ks.getD k default)).length<=(BH ks).length:=by
 have h1:BH ks=BH (ks.take (k+1))++BH (ks.drop (k+1)):=by rw [<-Gy,List.take_append_drop]
 rw [h1,I9 h]
 simp only [List.length_append]
 omega
theorem S4{ks:List Pr}{k:Nat}(h:k<ks.length){q:List Pr}(hq:q <+: C8 (ks.getD k default)):BH (ks.take k)++q <+: BH ks:=by
 have h1:BH ks=BH (ks.take (k+1))++BH (ks.drop (k+1)):=by rw [<-Gy,List.take_append_drop]
 obtain ⟨r,hr⟩:=hq
 rw [h1,I9 h,<-hr]
 exact ⟨r++BH (ks.drop (k+1)),by simp [List.append_assoc]⟩
abbrev YR{g:Gh}{W0:World}(J Jx:List (Nd g W0)->World->Prop)(pre:List (Nd g W0))(x:Nd g W0)(W:World)(e:Ending)(W':World):Prop:=
 (e = .returned (.bool true)/\J (pre++[x]) W'/\KC W W')∨(e = .returned (.bool false)/\Jx (pre++[x]) W')
set_option maxHeartbeats 2000000 in
theorem ZR(F:Fence)(hd:F.depth=none)(ZS:F.fn 268)(mN:F.round=none)(g:Gh)(W0:World)(l N:Nat)(J Jx:List (Nd g W0)->World->Prop)
  (hJ:∀s W W',J s W->W.grownBy W' none->J s W')
  (hY:∀m pre (x:Nd g W0) W,J pre W->pre.length<N->YieldAt F m Tryz.prog l #[x.enc] W (YR J Jx pre x W)) :
  ∀ (d:Nat) (x:Nd g W0) (n:Nat) (pre:List (Nd g W0)) (W:World),(C8 x.1.1).length<=d->KC W0 W->J pre W->pre.length+(C8 x.1.1).length<=N ->
   CallsIn F n Tryz.prog 268 #[x.enc,.func (.yield l) #[] #[]] W fun e W'=>
    (e = .returned (.bool true)/\(∃ys:List (Nd g W0),ys.map (·.1.1)=C8 x.1.1/\J (pre++ys) W')/\KC W W') ∨
    (e = .returned (.bool false)/\∃ys:List (Nd g W0),ys.map (·.1.1) <+: C8 x.1.1/\Jx (pre++ys) W'):=by
 intro d
 induction d with
 | zero=>intro x n pre W h; rw [Fl] at h; simp at h
 | succ d ih=>
 intro x n pre W hlen Sn hJ0 hN
 have hnd:(BH (As x.1.1)).length<=d:=by rw [Fl] at hlen; simp at hlen; omega
 have Kc:pre.length+1+(BH (As x.1.1)).length<=N:=by rw [Fl] at hN; simp at hN; omega
 have UM:∀q,q <+: BH (As x.1.1)->x.1.1::q <+: C8 x.1.1:=fun q hq=>by rw [Fl]; exact (List.prefix_cons_inj _).2 hq
 have Bw:x.1.1::BH (As x.1.1)=C8 x.1.1:=(Fl _).symm
 have ZT:=ZQ x
 have hY0:=fun m W=>hY m pre x W
 obtain ⟨p,oa,len,cap,hx⟩:∃p oa len cap,x.1=(p,oa,len,cap):=⟨_,_,_,_,rfl⟩
 simp only [Nd.enc] at hY0 ⊢
 rw [hx] at hlen hnd Kc UM Bw ZT hY0 hN ⊢
 simp only at hlen hnd Kc UM Bw ZT hY0 hN ⊢
 refine callsIn_of_wp Tryz.func268 rfl ZS ?_ mN
 simp only [Tryz.ntmps268,List.size_toArray,List.length_cons,List.length_nil,Nat.reduceAdd,Nat.reduceSub,Array.replicate_succ,Array.replicate_zero,List.push_toArray,List.append_toArray,List.nil_append,List.cons_append]
 have FA:∀k:Nat,(F.depth.isSome=true->1<=k):=fun k h=>by rw [hd] at h; cases h
 have hJ1:J pre (W.alloc (.cells #[.int .i64 (Ab p),.string (Aq p),.int .i64 (Ch p),.slice oa len cap] 41)):=hJ _ _ _ hJ0 (World.grownBy_alloc W _ none)
 obtain ⟨fn,tmps,assign,body,hy,hR⟩:=hY0 (n - 1) _ hJ1 (by rw [Fl] at hN; simp at hN; omega)
 have hR':=hR.mono (R':=fun e W2=>(e = .returned (.bool true)/\J (pre++[x]) W2/\KC W W2/\W2.cell? ⟨W.heap.size,3,none⟩=some (.slice oa len cap))∨(e = .returned (.bool false)/\Jx (pre++[x]) W2))
  (fun e W2 h=>h.elim (fun ⟨he,hj,hk⟩ => .inl ⟨he,hj,((KC.refl W).alloc _).trans hk,hk.cell (WB _ _ _ _ _)⟩) .inr)
 clear hR hY hY0
 gi_wp2_with ((try refine ⟨FA _,?_⟩); refine hR'.mono ?_; clear hR'; rintro e W2 (⟨rfl,Ib,hk,hc⟩ | ⟨rfl,hx9⟩))
 ·rcases ZT with ⟨SS,rfl⟩ | ⟨b,off,rfl,rfl,Hi,Ac9,CS⟩
  ·gi_loopw [14] (fun i wr=>i = .int .i64 0/\KC W wr/\J (pre++[x]) wr) (fun _ _=>0)
   case atStart=>exact ⟨rfl,hk,Ib⟩
   case round=>
    obtain ⟨rfl,iQ,hjy⟩:=hrel
    gi_wp2
    go_ret
    exact .inl ⟨rfl,⟨[x],by simp only [List.map_cons,List.map_nil,hx]; rw [SS] at Bw; exact Bw,hjy⟩,iQ⟩
  ·gi_loopw [14] (fun i wr=>∃ (k:Nat) (ys:List (Nd g W0)),k<=(As p).length/\i = .int .i64 k/\KC W wr/\ys.map (·.1.1)=BH ((As p).take k)/\J (pre++x::ys) wr) (fun i _=>(As p).length - (intOf i).toNat)
   case atStart=>exact ⟨0,[],Nat.zero_le _,rfl,hk,rfl,Ib⟩
   case round=>
    obtain ⟨k,ys,hkl,rfl,iQ,Kj,hjy⟩:=hrel
    by_cases Ag:k<(As p).length
    ·obtain ⟨y,Ii,c0,c1,c2,c3⟩:=CS k Ag
     have d0:=(Sn.trans iQ).cell c0
     have d1:=(Sn.trans iQ).cell c1
     have d2:=(Sn.trans iQ).cell c2
     have d3:=(Sn.trans iQ).cell c3
     have hle:=Tq Ag
     have htk:=I9 Ag
     have hpr:=fun q (hq:q <+: C8 ((As p).getD k default))=>S4 Ag hq
     rw [<-Ii] at hle htk hpr
     have hyl:ys.length=(BH ((As p).take k)).length:=by rw [<-Kj,List.length_map]
     have Gl:=ih y (n - 1) (pre++x::ys) (wr.alloc (.cells #[.int .i64 (Ab y.1.1),.string (Aq y.1.1),.int .i64 (Ch y.1.1),.slice y.1.2.1 y.1.2.2.1 y.1.2.2.2] 41)) (by omega) ((Sn.trans iQ).alloc _) (hJ _ _ _ hjy (World.grownBy_alloc _ _ none))
      (by simp only [List.length_append,List.length_cons]; omega)
     clear ih CS Ii
     simp only [Nd.enc] at Gl
     obtain ⟨q,fF,m',c',u9⟩:∃q fF m' c',y.1=(q,fF,m',c'):=⟨_,_,_,_,rfl⟩
     rw [u9] at Gl d0 d1 d2 d3 htk hpr hle
     simp only at Gl d0 d1 d2 d3 htk hpr hle
     clear u9 c0 c1 c2 c3
     gi_wp2_with ((try refine ⟨FA _,?_⟩); gi_at_call 268; refine Gl.mono ?_; clear Gl; rintro e W3 (⟨rfl,⟨zs,Od,hjz⟩,hk3⟩ | ⟨rfl,zs,Od,hxz⟩))
     ·go_roundw
      case rel=>exact ⟨k+1,ys++zs,Ag,by simp,(iQ.alloc _).trans hk3,by rw [List.map_append,Kj,Od,htk],by rw [<-List.cons_append,<-List.append_assoc]; exact hjz⟩
      case measure=>simp [intOf]; omega
     ·go_ret
      exact .inr ⟨rfl,x::(ys++zs),by simp only [List.map_cons,List.map_append,Kj,hx]; exact UM _ (hpr _ Od),by rw [<-List.cons_append,<-List.append_assoc]; exact hxz⟩
    ·obtain rfl:k=(As p).length:=by omega
     gi_wp2
     go_ret
     exact .inl ⟨rfl,⟨x::ys,by simp only [List.map_cons,Kj,hx,List.take_length]; exact Bw,hjy⟩,iQ⟩
 ·go_ret
  exact .inr ⟨rfl,[x],by simp only [List.map_cons,List.map_nil,hx]; exact UM [] (List.nil_prefix),by exact hx9⟩
set_option maxHeartbeats 1000000 in
theorem Tr(F:Fence)(hd:F.depth=none)(uA:F.fn 267)(ZS:F.fn 268)(mN:F.round=none)(g:Gh)(W0:World)(l Bs:Nat)(x:Nd g W0)(n:Nat)(J Jx:List (Nd g W0)->World->Prop)
  (hJ:∀s W W',J s W->W.grownBy W' none->J s W')
  (hY:∀m pre (y:Nd g W0) W,J pre W->pre.length<(C8 x.1.1).length->YieldAt F m Tryz.prog l #[y.enc] W (YR J Jx pre y W)) (W:World) (Sn:KC W0 W)
  (h1:W.cell? ⟨Bs,0,none⟩=some (.int .i64 (Ab x.1.1))) (h2:W.cell? ⟨Bs,1,none⟩=some (.string (Aq x.1.1))) (h3:W.cell? ⟨Bs,2,none⟩=some (.int .i64 (Ch x.1.1))) (h4:W.cell? ⟨Bs,3,none⟩=some (.slice x.1.2.1 x.1.2.2.1 x.1.2.2.2)) (h0:J [] W) :
  CallsIn F n Tryz.prog 267 #[.func (.yield l) #[] #[],.pointer (some ⟨Bs,0,none⟩)] W fun e W'=>(∃v,e = .returned v) /\
   ((∃ys:List (Nd g W0),ys.map (·.1.1)=C8 x.1.1/\J ys W')∨(∃ys:List (Nd g W0),ys.map (·.1.1) <+: C8 x.1.1/\Jx ys W')):=by
 have FA:∀k:Nat,(F.depth.isSome=true->1<=k):=fun k h=>by rw [hd] at h; cases h
 have Gl:=ZR F hd ZS mN g W0 l _ J Jx hJ hY _ x (n - 1) [] W (Nat.le_refl _) Sn h0 (by simp)
 simp only [Nd.enc,List.nil_append] at Gl
 obtain ⟨p,oa,len,cap,hx⟩:∃p oa len cap,x.1=(p,oa,len,cap):=⟨_,_,_,_,rfl⟩
 rw [hx] at Gl h1 h2 h3 h4 ⊢
 simp only at Gl h1 h2 h3 h4 ⊢
 clear hY hx
 refine callsIn_of_wp Tryz.func267 rfl uA ?_ mN
 simp only [Tryz.ntmps267,List.size_toArray,List.length_cons,List.length_nil,Nat.reduceAdd,Nat.reduceSub,Array.replicate_succ,Array.replicate_zero,List.push_toArray,List.append_toArray,List.nil_append,List.cons_append]
 gi_wp2_with ((try refine ⟨FA _,?_⟩); gi_at_call 268; refine Gl.mono ?_; clear Gl; rintro e W1 (⟨rfl,⟨ys,Kj,hj⟩,_⟩ | ⟨rfl,ys,Kj,hx⟩))
 ·go_end0
  exact ⟨⟨_,rfl⟩,.inl ⟨ys,Kj,hj⟩⟩
 ·go_end0
  exact ⟨⟨_,rfl⟩,.inr ⟨ys,Kj,hx⟩⟩
set_option maxHeartbeats 1000000 in
theorem WC(F:Fence)(n:Nat)(Aaw:F.fn 225)(mN:F.round=none)(p:Pr)(oa:Option Addr)(m c:Nat)(w:World) :
  CallsIn F n Tryz.prog 225 #[OD p (.slice oa m c)] w fun e w'=>e = .returned (.func (.func 267) #[] #[.pointer (some ⟨w.heap.size,0,none⟩)])/\w'=w.alloc (.cells #[.int .i64 (Ab p),.string (Aq p),.int .i64 (Ch p),.slice oa m c] 41):=by
 refine callsIn_of_wp Tryz.func225 rfl Aaw ?_ mN
 simp only [Tryz.ntmps225,List.size_toArray,List.length_cons,List.length_nil,Nat.reduceAdd,Nat.reduceSub,Array.replicate_succ,Array.replicate_zero,List.push_toArray,List.append_toArray,List.nil_append,List.cons_append]
 gi_wp2
 go_ret
 exact ⟨rfl,rfl⟩
end Go.Proofs.YthchpmnkecoafaaGreatDoor
