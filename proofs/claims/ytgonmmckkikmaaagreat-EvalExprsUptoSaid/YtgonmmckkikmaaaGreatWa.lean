/- What the law says of pure values. -/
import Derived.Test.YtgonmmckkikmaaaGreatXp
import Derived.Test.YtgonmmckkikmaaaGreatXq
import Derived.Test.YtgonmmckkikmaaaGreatXm
import Derived.Test.YtgonmmckkikmaaaGreatXl
import Derived.Sort.Walk0
set_option linter.unusedSectionVars false
set_option linter.unusedSimpArgs false
set_option linter.unusedVariables false
namespace Go.Proofs.YtgonmmckkikmaaaGreat
open Go.Pv
set_option maxRecDepth 100000
theorem vs_mem:∀ {l:List Bd} {i:Nat} {out:List Vl} {v:Vl},v∈vsS_f l i out->v∈out∨∃b∈l,v=bdV b
 | [],i,out,v,h => .inl (by simpa [vsS_f] using h)
 | b::r,i,out,v,h=>by
  rw [vsS_f] at h
  split at h
  ·rcases vs_mem h with h | ⟨c,hc,rfl⟩
   ·rcases List.mem_append.1 h with h | h
    ·exact .inl h
    ·rw [List.mem_singleton] at h; exact .inr ⟨b,List.mem_cons_self,h⟩
   ·exact .inr ⟨c,List.mem_cons_of_mem _ hc,rfl⟩
  ·exact .inl h
theorem vs_len:∀ {l:List Bd} {i:Nat} {out:List Vl},(vsS_f l i out).length<=out.length+l.length
 | [],i,out=>by simp [vsS_f]
 | b::r,i,out=>by
  rw [vsS_f]
  split
  ·have:=vs_len (l:=r) (i:=i+1) (out:=out++[bdV b])
   simp only [List.length_append,List.length_cons,List.length_nil] at this ⊢
   omega
  ·simp only [List.length_cons]; omega
section
variable (d0 d1 d2 d3 d4:List (List PV)) (z0 z1 z2 z3 z4:Nat) (l:List Df)
abbrev mdS:PV:=mdM (.sl z0 d0) (.sl z1 d1) (.sl z2 d2) (.sl z3 d3) (.sl z4 d4) l
theorem light_ex (hl:bulkPss (dfsC l)<=3000000):∃b,Pu 8 [mdS d0 d1 d2 d3 d4 z0 z1 z2 z3 z4 l] (.ret (.bool b)):=by
 have hs:SmL l:=SmL_bulk (by omega)
 exact ⟨_,rLight d0 d1 d2 d3 d4 z0 z1 z2 z3 z4 l (fun w hw=>rNodesT (hs.2 w hw).1) hs.1⟩
theorem few_ex {vs:List Vl} (hn:vs.length<=1000000000) (h:∀v∈vs,szV v<=3000000):∃b,Pu 10 [.sl 7 (Vl.cs vs)] (.ret (.bool b)):=
 ⟨_,rFew vs hn fun w m hw=>rPartsT (by have:=h w hw; omega) m⟩
end
end Go.Proofs.YtgonmmckkikmaaaGreat
namespace Go.Proofs.YtgonmmckkikmaaaGreat
open Go.Pv
set_option maxRecDepth 100000
theorem rName3 (d0 d1 d2 d3 d4:List (List PV)) (z0 z1 z2 z3 z4:Nat) (l:List Df) (k:Int) (hk0:0<=k) (hk1:k<=255) (hll:l.length<=1000000000) (hlp:0<l.length) (hk2:¬k>240) (i:Nat) (hi:i<l.length) (hki:Int.tmod k (l.length:Int)=(i:Int)):Pu 13 ([.agg [.sl z0 d0,.sl z1 d1,.sl z2 d2,.sl z3 d3,.sl z4 d4,.sl 25 (dfsC l)],.int .u8 k]) (.ret (.str (dfNm (List.getD l i default)))):=
 pu mdL (fun e=>[ai (↑((fun x=>List.length (Prod.snd x)) (25,dfsC l)):Int) (l.length:Int) (by (simp only [dfsC_len,hki]; done)),rp 3 (en (l.length:Int) 0),df (k>240) hk2,wr k,ai (↑((fun x=>List.length (Prod.snd x)) (25,dfsC l)):Int) (l.length:Int) (by (simp only [dfsC_len,hki]; done)),am ((l.length:Int)≠0),ai (Int.tmod k (l.length:Int)) (i:Int) (by (simp only [hki]; done)),am ((0:Int)<=(i:Int)/\(i:Int)<((dfsC l).length:Int)) (by (simp only [dfsC_len,hki]; omega)),ar (List.getD (dfsC l) (Int.toNat (i:Int)) []) (dfL (List.getD l i default)) (by simp only [Int.toNat_natCast,hki]; rw [@dfsC_at (l) (i) hi]; try rfl)]) Tryz.func13
end Go.Proofs.YtgonmmckkikmaaaGreat
namespace Go.Proofs.YtgonmmckkikmaaaGreat
open Go.Pv
set_option maxRecDepth 100000
section
variable (d0 d1 d2 d3 d4:List (List PV)) (z0 z1 z2 z3 z4:Nat) (l:List Df)
end
end Go.Proofs.YtgonmmckkikmaaaGreat
namespace Go.Proofs.YtgonmmckkikmaaaGreat
open Go.Pv
set_option maxRecDepth 100000
abbrev varP (s:ByteArray):PV := .agg [.int .i64 3,.str s,.int .i64 0,.nilsl,.nilsl,.nilsl,.nilsl]
section
variable (c0 c1 c2 c3 c4:PV) (l:List Df) (bs:List Bd) (x:Ex) (fu k:Int) (nm:ByteArray) (b0 b1 b2 b3:Bool) (nd:Int) (vs:List Vl) (hbl:bs.length<=1000000000) (hLt:Pu 8 [mdM c0 c1 c2 c3 c4 l] (.ret (.bool b0))) (hNd:Pu 9 [.agg (exL x)] (.ret (.int .i64 nd))) (hVs:Pu 11 [.sl 8 (Bd.cs bs)] (.ret (.sl 7 (Vl.cs vs)))) (hFw:Pu 10 [.sl 7 (Vl.cs vs)] (.ret (.bool b1))) (hAw:Pu 12 [] (.ret (.bool true))) (hNm:Pu 13 [mdM c0 c1 c2 c3 c4 l,.int .u8 k] (.ret (.str nm))) (hB1:Pu 14 [mdM c0 c1 c2 c3 c4 l,.sl 8 (Bd.cs bs),.agg (exL x),.int .i64 fu] (.ret (.bool b2))) (hB2:Pu 14 [mdM c0 c1 c2 c3 c4 l,.nilsl,varP nm,.int .i64 fu] (.ret (.bool b3))) (v0 v1:Vl) (e0 e1 s0 s1:Int) (w0 w1:ByteArray) (hO:Pu 16 [mdM c0 c1 c2 c3 c4 l,.sl 8 (Bd.cs bs),.agg (exL x),.int .i64 fu] (.ret (.agg (otL v0 e0 w0 s0)))) (hR:Pu 17 [mdM c0 c1 c2 c3 c4 l,.sl 8 (Bd.cs bs),.agg (exL x),.int .i64 fu] (.ret (.agg (otL v0 e0 w0 s0)))) (hC:Pu 18 [mdM c0 c1 c2 c3 c4 l,.str nm,.int .i64 fu] (.ret (.agg (otL v1 e1 w1 s1)))) (hD:Pu 19 [mdM c0 c1 c2 c3 c4 l,.str nm,.int .i64 fu] (.ret (.agg (otL v1 e1 w1 s1)))) (hS:Pu 15 [.agg (otL v0 e0 w0 s0),.agg (otL v0 e0 w0 s0)] (.ret (.bool true))) (hT:Pu 15 [.agg (otL v1 e1 w1 s1),.agg (otL v1 e1 w1 s1)] (.ret (.bool true)))
include c0 c1 c2 c3 c4 l bs x fu k nm b0 b1 b2 b3 nd vs hbl hLt hNd hVs hFw hAw hNm hB1 hB2 v0 v1 e0 e1 s0 s1 w0 w1 hO hR hC hD hS hT
theorem exprs_1 (hx0:b0=false):Pu 3 ([mdM c0 c1 c2 c3 c4 l,.agg (.sl 8 (Bd.cs bs)::(exL x++[pI fu])),.int .u8 k]) (rB true):=
 pu mdL (fun e=>[cl hLt,rp 5 (bt (!b0) (bnT hx0)),rp 16 (bt true),cl hAw]) Tryz.func3
theorem exprs_2 (hx0:b0=true) (hx1:nd>100):Pu 3 ([mdM c0 c1 c2 c3 c4 l,.agg (.sl 8 (Bd.cs bs)::(exL x++[pI fu])),.int .u8 k]) (rB true):=
 pu mdL (fun e=>[cl hLt,rp 3 (bf (!b0) (bnF hx0)),cl hNd,rp 2 (bf (!b0) (bnF hx0)),rp 5 (dt (nd>100) hx1),rp 11 (bt true),cl hAw]) Tryz.func3
theorem exprs_3 (hx0:b0=true) (hx1:¬nd>100) (hx2:(bs.length:Int)>10):Pu 3 ([mdM c0 c1 c2 c3 c4 l,.agg (.sl 8 (Bd.cs bs)::(exL x++[pI fu])),.int .u8 k]) (rB true):=
 pu mdL (fun e=>[cl hLt,rp 3 (bf (!b0) (bnF hx0)),cl hNd,rp 2 (bf (!b0) (bnF hx0)),rp 3 (df (nd>100) hx1),sl (Bd.cs_len bs),rp 2 (df (nd>100) hx1),rp 6 (dt ((bs.length:Int)>10) hx2),rp 5 (bt true),cl hAw]) Tryz.func3
theorem exprs_4 (hx0:b0=true) (hx1:¬nd>100) (hx2:¬(bs.length:Int)>10) (hx3:b1=false):Pu 3 ([mdM c0 c1 c2 c3 c4 l,.agg (.sl 8 (Bd.cs bs)::(exL x++[pI fu])),.int .u8 k]) (rB true):=
 pu mdL (fun e=>[cl hLt,rp 3 (bf (!b0) (bnF hx0)),cl hNd,rp 2 (bf (!b0) (bnF hx0)),rp 3 (df (nd>100) hx1),sl (Bd.cs_len bs),rp 2 (df (nd>100) hx1),rp 3 (df ((bs.length:Int)>10) hx2),cl hVs,df ((bs.length:Int)>10) hx2,cl hFw,rp 2 (df ((bs.length:Int)>10) hx2),rp 4 (bt (!b1) (bnT hx3)),bt true,cl hAw]) Tryz.func3
theorem exprs_5 (hx0:b0=true) (hx1:¬nd>100) (hx2:¬(bs.length:Int)>10) (hx3:b1=true) (hx4:fu>300):Pu 3 ([mdM c0 c1 c2 c3 c4 l,.agg (.sl 8 (Bd.cs bs)::(exL x++[pI fu])),.int .u8 k]) (rB true):=
 pu mdL (fun e=>[cl hLt,rp 3 (bf (!b0) (bnF hx0)),cl hNd,rp 2 (bf (!b0) (bnF hx0)),rp 3 (df (nd>100) hx1),sl (Bd.cs_len bs),rp 2 (df (nd>100) hx1),rp 3 (df ((bs.length:Int)>10) hx2),cl hVs,df ((bs.length:Int)>10) hx2,cl hFw,rp 2 (df ((bs.length:Int)>10) hx2),rp 4 (bf (!b1) (bnF hx3)),dt (fu>300) hx4,cl hAw]) Tryz.func3
theorem exprs_6 (hx0:b0=true) (hx1:¬nd>100) (hx2:¬(bs.length:Int)>10) (hx3:b1=true) (hx4:¬fu>300) (hx5:b2=true):Pu 3 ([mdM c0 c1 c2 c3 c4 l,.agg (.sl 8 (Bd.cs bs)::(exL x++[pI fu])),.int .u8 k]) (rB true):=
 pu mdL (fun e=>[cl hLt,rp 3 (bf (!b0) (bnF hx0)),cl hNd,rp 2 (bf (!b0) (bnF hx0)),rp 3 (df (nd>100) hx1),sl (Bd.cs_len bs),rp 2 (df (nd>100) hx1),rp 3 (df ((bs.length:Int)>10) hx2),cl hVs,df ((bs.length:Int)>10) hx2,cl hFw,rp 2 (df ((bs.length:Int)>10) hx2),rp 4 (bf (!b1) (bnF hx3)),df (fu>300) hx4,cl hNm,cl hB1,rp 7 (bt b2 hx5),bt true,cl hAw]) Tryz.func3
theorem exprs_7 (hx0:b0=true) (hx1:¬nd>100) (hx2:¬(bs.length:Int)>10) (hx3:b1=true) (hx4:¬fu>300) (hx5:b2=false) (hx6:b3=true):Pu 3 ([mdM c0 c1 c2 c3 c4 l,.agg (.sl 8 (Bd.cs bs)::(exL x++[pI fu])),.int .u8 k]) (rB true):=
 pu mdL (fun e=>[cl hLt,rp 3 (bf (!b0) (bnF hx0)),cl hNd,rp 2 (bf (!b0) (bnF hx0)),rp 3 (df (nd>100) hx1),sl (Bd.cs_len bs),rp 2 (df (nd>100) hx1),rp 3 (df ((bs.length:Int)>10) hx2),cl hVs,df ((bs.length:Int)>10) hx2,cl hFw,rp 2 (df ((bs.length:Int)>10) hx2),rp 4 (bf (!b1) (bnF hx3)),df (fu>300) hx4,cl hNm,cl hB1,rp 6 (bf b2 hx5),cl hB2,bf b2 hx5,bt b3 hx6,cl hAw]) Tryz.func3
theorem exprs_8 (hx0:b0=true) (hx1:¬nd>100) (hx2:¬(bs.length:Int)>10) (hx3:b1=true) (hx4:¬fu>300) (hx5:b2=false) (hx6:b3=false):Pu 3 ([mdM c0 c1 c2 c3 c4 l,.agg (.sl 8 (Bd.cs bs)::(exL x++[pI fu])),.int .u8 k]) (rB true):=
 pu mdL (fun e=>[cl hLt,rp 3 (bf (!b0) (bnF hx0)),cl hNd,rp 2 (bf (!b0) (bnF hx0)),rp 3 (df (nd>100) hx1),sl (Bd.cs_len bs),rp 2 (df (nd>100) hx1),rp 3 (df ((bs.length:Int)>10) hx2),cl hVs,df ((bs.length:Int)>10) hx2,cl hFw,rp 2 (df ((bs.length:Int)>10) hx2),rp 4 (bf (!b1) (bnF hx3)),df (fu>300) hx4,cl hNm,cl hB1,rp 6 (bf b2 hx5),cl hB2,bf b2 hx5,bf b3 hx6,cl hO,cl hR,cl hS,rp 5 (bt true),cl hC,rp 5 (bt true),cl hD,bt true,cl hT,rp 2 (bt true),cl hAw,bt true]) Tryz.func3
end
end Go.Proofs.YtgonmmckkikmaaaGreat
namespace Go.Proofs.YtgonmmckkikmaaaGreat
open Go.Pv
set_option maxRecDepth 100000
abbrev lsB (a b:ByteArray):Prop:=a.toList<b.toList
theorem lsB_trans {a b c:ByteArray} (h1:lsB a b) (h2:lsB b c):lsB a c:=List.lt_trans h1 h2
theorem lsB_irr {a:ByteArray} (h:lsB a a):False:=List.lt_irrefl _ h
theorem sorted_uniq:∀ {l m:List ByteArray},l.Pairwise lsB->m.Pairwise lsB->(∀x,x∈l↔x∈m)->l=m
 | [],[],_,_,_=>rfl
 | [],y::m,_,_,h=>by have:=(h y).2 List.mem_cons_self; cases this
 | x::l,[],_,_,h=>by have:=(h x).1 List.mem_cons_self; cases this
 | x::l,y::m,hl,hm,h=>by
  have hl':=List.pairwise_cons.1 hl
  have hm':=List.pairwise_cons.1 hm
  have e:x=y:=by
   rcases List.mem_cons.1 ((h x).1 List.mem_cons_self) with e | e
   ·exact e
   ·rcases List.mem_cons.1 ((h y).2 List.mem_cons_self) with e' | e'
    ·exact e'.symm
    ·exact (lsB_irr (lsB_trans (hm'.1 x e) (hl'.1 y e'))).elim
  subst e
  rw [sorted_uniq hl'.2 hm'.2 fun z=>⟨fun hz=>?_,fun hz=>?_⟩]
  ·rcases List.mem_cons.1 ((h z).1 (List.mem_cons_of_mem _ hz)) with e | e
   ·subst e; exact (lsB_irr (hl'.1 _ hz)).elim
   ·exact e
  ·rcases List.mem_cons.1 ((h z).2 (List.mem_cons_of_mem _ hz)) with e | e
   ·subst e; exact (lsB_irr (hm'.1 _ hz)).elim
   ·exact e
theorem lsB_or {a b:ByteArray} (h:¬lsB a b) (hn:¬a=b):lsB b a:=by
 by_cases h2:lsB b a
 ·exact h2
 ·exact (hn (bytes_eq (List.le_antisymm (List.not_lt.1 h2) (List.not_lt.1 h)))).elim
theorem sortB_mem {l:List ByteArray} {x:ByteArray}:x∈sortB l↔x∈l:=by
 unfold sortB
 simp only [List.mem_map,List.mem_mergeSort]
 constructor
 ·rintro ⟨y,⟨z,hz,rfl⟩,rfl⟩
  simpa using hz
 ·intro h
  exact ⟨_,⟨x,h,rfl⟩,by simp⟩
theorem sortB_pw {l:List ByteArray} (hn:l.Nodup):(sortB l).Pairwise lsB:=by
 have tr:∀a b c:List UInt8,leB a b=true->leB b c=true->leB a c=true:=fun a b c h1 h2=>by simp only [leB,decide_eq_true_eq] at *; exact List.le_trans h1 h2
 have to:∀a b:List UInt8,(leB a b||leB b a)=true:=fun a b=>by simp only [leB,Bool.or_eq_true,decide_eq_true_eq]; exact List.le_total a b
 have h1:=List.pairwise_mergeSort tr to (l.map fun x=>x.data.toList)
 have h2:((l.map fun x=>x.data.toList).mergeSort leB).Nodup:=by
  refine (List.mergeSort_perm _ _).nodup_iff.2 ?_
  refine List.pairwise_map.2 (hn.imp fun {a b} hne e=>hne ?_)
  cases a; cases b
  simp only [ByteArray.mk.injEq]
  exact Array.toList_inj.1 e
 unfold sortB
 refine List.pairwise_map.2 ((h1.and h2).imp fun {a b} h=>?_)
 obtain ⟨h3,h4⟩:=h
 simp only [leB,decide_eq_true_eq] at h3
 show (ByteArray.mk a.toArray).toList<(ByteArray.mk b.toArray).toList
 rw [Lib.toList_data,Lib.toList_data]
 show a<b
 by_cases h5:a<b
 ·exact h5
 ·exact (h4 (List.le_antisymm h3 (List.not_lt.1 h5))).elim
def insB (s:ByteArray):List ByteArray->List ByteArray
 | []=>[s]
 | y::r=>if Op.bytesLess y.toList s.toList=true then y::insB s r else if y=s then y::r else s::y::r
theorem put_out (s:ByteArray):∀ (l:List ByteArray) (i:Nat) (out:List ByteArray),put_f s l i out=(out++(put_f s l 0 []).1,i+(put_f s l 0 []).2)
 | [],i,out=>by simp [put_f]
 | y::r,i,out=>by
  rw [put_f,put_f]
  split
  ·rw [put_out s r (i+1) (out++[y]),put_out s r (0+1) ([]++[y])]
   simp only [List.nil_append,List.append_assoc]
   congr 1
   omega
  ·simp
theorem putN_ins (s:ByteArray):∀l:List ByteArray,putN s l=insB s l
 | []=>by simp [putN,put_f,insB]
 | y::r=>by
  have ih:=putN_ins s r
  rw [insB]
  by_cases h:Op.bytesLess y.toList s.toList=true
  ·rw [if_pos h,<-ih]
   have e:put_f s (y::r) 0 []=(y::(put_f s r 0 []).1,1+(put_f s r 0 []).2):=by
    rw [put_f,if_pos h,put_out]
    rfl
   unfold putN
   rw [e]
   simp only [List.length_cons,List.cons_append,Nat.add_comm 1,List.getD_cons_succ,Nat.add_lt_add_iff_right]
   split <;> rfl
  ·rw [if_neg h]
   have e:put_f s (y::r) 0 []=([],0):=by rw [put_f,if_neg h]
   unfold putN
   rw [e]
   by_cases h2:y=s
   ·subst h2; simp
   ·rw [if_neg h2,if_neg (fun h3=>h2 (by simpa using h3.2))]
    rfl
theorem insB_mem {s x:ByteArray}:∀ {l:List ByteArray},x∈insB s l↔x=s∨x∈l
 | []=>by simp [insB]
 | y::r=>by
  rw [insB]
  split
  ·rw [List.mem_cons,insB_mem,List.mem_cons]
   constructor
   ·rintro (h | h | h)
    ·exact .inr (.inl h)
    ·exact .inl h
    ·exact .inr (.inr h)
   ·rintro (h | h | h)
    ·exact .inr (.inl h)
    ·exact .inl h
    ·exact .inr (.inr h)
  ·split
   ·rename_i h; subst h; simp
   ·simp
theorem insB_pw {s:ByteArray}:∀ {l:List ByteArray},l.Pairwise lsB->(insB s l).Pairwise lsB
 | [],_=>by simp [insB]
 | y::r,h=>by
  have h':=List.pairwise_cons.1 h
  rw [insB]
  split
  ·rename_i hlt
   rw [bytesLess_eq,decide_eq_true_eq] at hlt
   refine List.pairwise_cons.2 ⟨fun z hz=>?_,insB_pw h'.2⟩
   rcases insB_mem.1 hz with rfl | hz
   ·exact hlt
   ·exact h'.1 z hz
  ·rename_i hlt
   rw [bytesLess_eq,decide_eq_true_eq] at hlt
   split
   ·exact h
   ·rename_i hne
    have hs:lsB s y:=lsB_or hlt hne
    refine List.pairwise_cons.2 ⟨fun z hz=>?_,h⟩
    rcases List.mem_cons.1 hz with rfl | hz
    ·exact hs
    ·exact lsB_trans hs (h'.1 z hz)
theorem uni_spec:∀ (a out:List ByteArray),out.Pairwise lsB->(uni_f a out).Pairwise lsB/\∀x,x∈uni_f a out↔x∈a∨x∈out
 | [],out,h=>⟨h,fun x=>by simp [uni_f]⟩
 | y::r,out,h=>by
  rw [uni_f]
  have hp:(putN y out).Pairwise lsB:=by rw [putN_ins]; exact insB_pw h
  obtain ⟨h1,h2⟩:=uni_spec r (putN y out) hp
  refine ⟨h1,fun x=>?_⟩
  rw [h2,putN_ins,insB_mem,List.mem_cons]
  constructor
  ·rintro (h | h | h)
   ·exact .inl (.inr h)
   ·exact .inl (.inl h)
   ·exact .inr h
  ·rintro ((h | h) | h)
   ·exact .inr (.inl h)
   ·exact .inl h
   ·exact .inr (.inr h)
end Go.Proofs.YtgonmmckkikmaaaGreat
namespace Go.Proofs.YtgonmmckkikmaaaGreat
open Go.Pv
set_option maxRecDepth 100000
theorem in_iff {n:Int}:nIn_r0 n=true ↔ -1000000000000<=n/\n<=1000000000000:=by
 unfold nIn_r0
 split
 ·simp; omega
 ·simp; omega
theorem rin_eq (n:Int):rIn_r0 n=nIn_r0 n:=rfl
theorem addq (a b:Int):eInteger_s (nAdd_r0 a b) (nAdd_r1 a b)=rAdd_r1 a b/\(rAdd_r1 a b=true->nAdd_r0 a b=rAdd_r0 a b):=by
 have h0:nIn_r0 0=true:=in_iff.2 (by omega)
 cases ha:nIn_r0 a <;> cases hb:nIn_r0 b <;> cases h:nIn_r0 (IntKind.wrap .i64 (a+b)) <;> simp [eInteger_s,nAdd_r0,nAdd_r1,rAdd_r0,rAdd_r1,nChecked_r0,nChecked_r1,rResult_r0,rResult_r1,rin_eq,ha,hb,h,h0]
theorem subq (a b:Int):eInteger_s (nSub_r0 a b) (nSub_r1 a b)=rSub_r1 a b/\(rSub_r1 a b=true->nSub_r0 a b=rSub_r0 a b):=by
 have h0:nIn_r0 0=true:=in_iff.2 (by omega)
 cases ha:nIn_r0 a <;> cases hb:nIn_r0 b <;> cases h:nIn_r0 (IntKind.wrap .i64 (a - b)) <;> simp [eInteger_s,nSub_r0,nSub_r1,rSub_r0,rSub_r1,nChecked_r0,nChecked_r1,rResult_r0,rResult_r1,rin_eq,ha,hb,h,h0]
theorem abs_in {a:Int} (h : -1000000000000<=a/\a<=1000000000000):nAbs_r0 a=(a.natAbs:Int):=by
 unfold nAbs_r0
 rw [wrap64_eq (by omega) (by omega)]
 split
 ·omega
 ·split <;> omega
theorem quo_gt {x y:Int} (hy:0<y) (hy1:y<=1000000000000):(x>IntKind.wrap .i64 (Int.tdiv 1000000000000 y))↔1000000000000<x * y:=by
 have h1:Int.tdiv 1000000000000 y=1000000000000 / y:=Int.tdiv_eq_ediv_of_nonneg (by decide)
 have h2:0<=(1000000000000:Int) / y:=Int.ediv_nonneg (by decide) (by omega)
 have h3:(1000000000000:Int) / y<=1000000000000:=Int.ediv_le_self _ (by decide)
 rw [h1,wrap64_eq (by omega) (by omega)]
 show _<x↔_
 exact Int.ediv_lt_iff_lt_mul hy
theorem mulq (a b:Int):eInteger_s (nMul_r0 a b) (nMul_r1 a b)=rMul_r1 a b/\(rMul_r1 a b=true->nMul_r0 a b=rMul_r0 a b):=by
 cases ha:nIn_r0 a with
 | false=>unfold eInteger_s nMul_r0 nMul_r1 rMul_r1 rMul_r0; simp [rin_eq,ha]
 | true=>
 cases hb:nIn_r0 b with
 | false=>unfold eInteger_s nMul_r0 nMul_r1 rMul_r1 rMul_r0; simp [rin_eq,ha,hb]
 | true=>
 have a1:=in_iff.1 ha
 have b1:=in_iff.1 hb
 have h00:nIn_r0 0=true:=in_iff.2 (by omega)
 by_cases a0:a=0
 ·unfold eInteger_s nMul_r0 nMul_r1 rMul_r1 rMul_r0; subst a0; simp [rin_eq,hb,h00]
 by_cases b0:b=0
 ·unfold eInteger_s nMul_r0 nMul_r1 rMul_r1 rMul_r0; subst b0; simp [rin_eq,ha,h00,a0]
 have eA:=abs_in a1
 have eB:=abs_in b1
 have g1:(nAbs_r0 b>IntKind.wrap .i64 (Int.tdiv 1000000000000 (nAbs_r0 a)))↔1000000000000<((a * b).natAbs:Int):=by
  rw [eA,quo_gt (by omega) (by omega),eB,Int.natAbs_mul,Int.natCast_mul,Int.mul_comm]
 have g2:∀x y:Int,0<y->y<=1000000000000->x * y=((a * b).natAbs:Int)->((x>IntKind.wrap .i64 (Int.tdiv 1000000000000 y))↔1000000000000<((a * b).natAbs:Int)):=fun x y h1 h2 h3=>by rw [quo_gt h1 h2,h3]
 have w1:IntKind.wrap .i64 (0 - a)=0 - a:=wrap64_eq (by omega) (by omega)
 have w2:IntKind.wrap .i64 (0 - b)=0 - b:=wrap64_eq (by omega) (by omega)
 have ab:∀x y:Int,(x=a∨x=0 - a)->(y=b∨y=0 - b)->0<x->0<y->x * y=((a * b).natAbs:Int):=by
  intro x y hx hy px py
  have:(x * y).natAbs=(a * b).natAbs:=by
   rw [Int.natAbs_mul,Int.natAbs_mul]
   rcases hx with rfl | rfl <;> rcases hy with rfl | rfl <;> simp
  rw [<-this]
  have:=Int.mul_pos px py
  omega
 by_cases hg:1000000000000<((a * b).natAbs:Int)
 ·have hr:rMul_r1 a b=false:=by
   unfold rMul_r1
   simp only [rin_eq,ha,hb,a0,b0,w1,w2,if_false,Bool.true_eq_false]
   split
   ·split
    ·rw [if_pos ((g2 _ _ (by omega) (by omega) (ab _ _ (.inr rfl) (.inr rfl) (by omega) (by omega))).2 hg)]
    ·rw [if_pos ((g2 _ _ (by omega) (by omega) (ab _ _ (.inr rfl) (.inl rfl) (by omega) (by omega))).2 hg)]
   ·split
    ·rw [if_pos ((g2 _ _ (by omega) (by omega) (ab _ _ (.inl rfl) (.inr rfl) (by omega) (by omega))).2 hg)]
    ·rw [if_pos ((g2 _ _ (by omega) (by omega) (ab _ _ (.inl rfl) (.inl rfl) (by omega) (by omega))).2 hg)]
  refine ⟨?_,fun h=>by rw [hr] at h; cases h⟩
  rw [hr]
  unfold eInteger_s nMul_r1
  simp only [ha,hb,a0,b0,if_false,Bool.true_eq_false]
  rw [if_pos (g1.2 hg)]
  rfl
 ·have w3:IntKind.wrap .i64 (a * b)=a * b:=wrap64_eq (by omega) (by omega)
  have hi:nIn_r0 (a * b)=true:=in_iff.2 (by omega)
  have hn0:nMul_r0 a b=a * b:=by
   unfold nMul_r0 nChecked_r0
   simp only [ha,hb,a0,b0,if_false,Bool.true_eq_false]
   rw [if_neg (fun h=>hg (g1.1 h)),w3,hi]
   rfl
  have hn1:nMul_r1 a b=true:=by
   unfold nMul_r1 nChecked_r1
   simp only [ha,hb,a0,b0,if_false,Bool.true_eq_false]
   rw [if_neg (fun h=>hg (g1.1 h)),w3,hi]
   rfl
  have hr0:rMul_r0 a b=a * b:=by
   unfold rMul_r0
   simp only [rin_eq,ha,hb,a0,b0,w1,w2,w3,if_false,Bool.true_eq_false]
   split
   ·split
    ·rw [if_neg (fun h=>hg ((g2 _ _ (by omega) (by omega) (ab _ _ (.inr rfl) (.inr rfl) (by omega) (by omega))).1 h))]
    ·rw [if_neg (fun h=>hg ((g2 _ _ (by omega) (by omega) (ab _ _ (.inr rfl) (.inl rfl) (by omega) (by omega))).1 h))]
   ·split
    ·rw [if_neg (fun h=>hg ((g2 _ _ (by omega) (by omega) (ab _ _ (.inl rfl) (.inr rfl) (by omega) (by omega))).1 h))]
    ·rw [if_neg (fun h=>hg ((g2 _ _ (by omega) (by omega) (ab _ _ (.inl rfl) (.inl rfl) (by omega) (by omega))).1 h))]
  have hr1:rMul_r1 a b=true:=by
   unfold rMul_r1
   simp only [rin_eq,ha,hb,a0,b0,w1,w2,if_false,Bool.true_eq_false]
   split
   ·split
    ·rw [if_neg (fun h=>hg ((g2 _ _ (by omega) (by omega) (ab _ _ (.inr rfl) (.inr rfl) (by omega) (by omega))).1 h))]
    ·rw [if_neg (fun h=>hg ((g2 _ _ (by omega) (by omega) (ab _ _ (.inr rfl) (.inl rfl) (by omega) (by omega))).1 h))]
   ·split
    ·rw [if_neg (fun h=>hg ((g2 _ _ (by omega) (by omega) (ab _ _ (.inl rfl) (.inr rfl) (by omega) (by omega))).1 h))]
    ·rw [if_neg (fun h=>hg ((g2 _ _ (by omega) (by omega) (ab _ _ (.inl rfl) (.inl rfl) (by omega) (by omega))).1 h))]
  refine ⟨?_,fun _=>by rw [hn0,hr0]⟩
  rw [hn0,hn1,hr1]
  unfold eInteger_s
  simp [hi]
end Go.Proofs.YtgonmmckkikmaaaGreat
namespace Go.Proofs.YtgonmmckkikmaaaGreat
open Go.Pv
set_option maxRecDepth 100000
structure DM (a b q r:Int):Prop where
 eq:q * b=a - r
 neg:r<0->a<0
 pos:0<r->0<a
 lt:r.natAbs<b.natAbs
 le:q.natAbs<=a.natAbs
 half:r≠0->q.natAbs * 2<=a.natAbs
theorem dm {a b:Int} (hb:¬b=0):DM a b (Int.tdiv a b) (Int.tmod a b):=by
 have h1:=Int.mul_tdiv_add_tmod a b
 have hq:(Int.tdiv a b).natAbs=a.natAbs / b.natAbs:=Int.natAbs_tdiv a b
 have hr:(Int.tmod a b).natAbs=a.natAbs % b.natAbs:=Int.natAbs_tmod a b
 have hb0:0<b.natAbs:=by omega
 have hlt:(Int.tmod a b).natAbs<b.natAbs:=by rw [hr]; exact Nat.mod_lt _ hb0
 refine ⟨?_,fun h=>?_,fun h=>?_,hlt,?_,fun h=>?_⟩
 ·rw [Int.mul_comm] at h1; omega
 ·rcases Int.lt_or_le a 0 with h2 | h2
  ·exact h2
  ·have:=Int.tmod_nonneg b h2; omega
 ·rcases Int.lt_or_le 0 a with h2 | h2
  ·exact h2
  ·have h3:=Int.tmod_nonneg b (a:=-a) (by omega)
   rw [Int.neg_tmod] at h3
   omega
 ·rw [hq]; exact Nat.div_le_self _ _
 ·have h2:2<=b.natAbs:=by omega
  rw [hq]
  have h3:a.natAbs / b.natAbs<=a.natAbs / 2:=Nat.div_le_div_left h2 (by omega)
  omega
theorem sgn (x b:Int):((if false=true then decide (x<0)==decide (b<0) else !decide (x<0)==decide (b<0))=true)↔¬((x<0)↔(b<0)):=by
 by_cases h1:x<0 <;> by_cases h2:b<0 <;> simp [h1,h2]
theorem divq (a b:Int):(eInteger_s (nDivide_r0 a b) (nDivide_r2 a b)=rDiv_r1 a b/\(rDiv_r1 a b=true->nDivide_r0 a b=rDiv_r0 a b))/\(eInteger_s (nDivide_r1 a b) (nDivide_r2 a b)=rMod_r1 a b/\(rMod_r1 a b=true->nDivide_r1 a b=rMod_r0 a b)):=by
 cases ha:nIn_r0 a with
 | false=>simp [eInteger_s,nDivide_r0,nDivide_r1,nDivide_r2,rDiv_r1,rDiv_r0,rMod_r0,rMod_r1,rin_eq,ha]
 | true=>
 cases hb:nIn_r0 b with
 | false=>simp [eInteger_s,nDivide_r0,nDivide_r1,nDivide_r2,rDiv_r1,rDiv_r0,rMod_r0,rMod_r1,rin_eq,ha,hb]
 | true=>
 by_cases b0:b=0
 ·simp [eInteger_s,nDivide_r0,nDivide_r1,nDivide_r2,rDiv_r1,rDiv_r0,rMod_r0,rMod_r1,rin_eq,ha,hb,b0]
 have a1:=in_iff.1 ha
 have b1:=in_iff.1 hb
 obtain ⟨e,n1,p1,lt,le,half⟩:=dm (a:=a) b0
 have wq:IntKind.wrap .i64 (Int.tdiv a b)=Int.tdiv a b:=wrap64_eq (by omega) (by omega)
 have wb:IntKind.wrap .i64 (Int.tdiv a b * b)=Int.tdiv a b * b:=by rw [e]; exact wrap64_eq (by omega) (by omega)
 have wp:IntKind.wrap .i64 (Int.tdiv a b - 1)=Int.tdiv a b - 1:=wrap64_eq (by omega) (by omega)
 have wr:IntKind.wrap .i64 (Int.tmod a b+b)=Int.tmod a b+b:=wrap64_eq (by omega) (by omega)
 have hr1:rDiv_r1 a b=true:=by
  unfold rDiv_r1
  simp only [rin_eq,ha,hb,b0,if_false,Bool.true_eq_false]
  repeat' split
  all_goals rfl
 have hn2:nDivide_r2 a b=true:=by
  unfold nDivide_r2
  simp only [ha,hb,b0,if_false,Bool.true_eq_false]
  repeat' split
  all_goals rfl
 have hm1:rMod_r1 a b=true:=by unfold rMod_r1; rw [hr1]; rfl
 have eI:∀ {n:Int}, -1000000000000<=n/\n<=1000000000000->eInteger_s n true=true:=fun h=>by unfold eInteger_s; simp [in_iff.2 h]
 have sg:Int.tmod a b≠0->((Int.tmod a b<0)↔(a<0)):=fun h=>⟨n1,fun h2=>by
  rcases Int.lt_or_le (Int.tmod a b) 0 with h3 | h3
  ·exact h3
  ·have:=p1 (by omega); omega⟩
 rw [hr1,hm1,hn2]
 by_cases r0:Int.tmod a b=0
 ·have hq:Int.tdiv a b * b=a:=by omega
  have v0:nDivide_r0 a b=Int.tdiv a b:=by unfold nDivide_r0; simp only [ha,hb,b0,r0,if_true,if_false,Bool.true_eq_false,wq]
  have v1:nDivide_r1 a b=0:=by unfold nDivide_r1; simp only [ha,hb,b0,r0,if_true,if_false,Bool.true_eq_false]
  have wa:IntKind.wrap .i64 a=a:=wrap64_eq (by omega) (by omega)
  have v2:rDiv_r0 a b=Int.tdiv a b:=by unfold rDiv_r0; simp only [rin_eq,ha,hb,b0,wq,wb,hq,wa,if_true,if_false,Bool.true_eq_false]
  have v3:rMod_r0 a b=0:=by
   unfold rMod_r0
   rw [hr1,v2,if_neg (by decide),Int.mul_comm,wb,hq,Int.sub_self]
   rfl
  rw [v0,v1,v2,v3]
  exact ⟨⟨eI (by omega),fun _=>rfl⟩,eI (by omega),fun _=>rfl⟩
 ·have hq:¬Int.tdiv a b * b=a:=by omega
  have hh:=half r0
  by_cases hs:(Int.tmod a b<0↔b<0)
  ·have hs2:(a<0↔b<0):=(sg r0).symm.trans hs
   have v0:nDivide_r0 a b=Int.tdiv a b:=by
    unfold nDivide_r0
    simp only [ha,hb,b0,r0,if_false,Bool.true_eq_false,wq]
    rw [if_neg (fun h=>(sgn _ _).1 h hs)]
   have v1:nDivide_r1 a b=Int.tmod a b:=by
    unfold nDivide_r1
    simp only [ha,hb,b0,r0,if_false,Bool.true_eq_false]
    rw [if_neg (fun h=>(sgn _ _).1 h hs)]
   have v2:rDiv_r0 a b=Int.tdiv a b:=by
    unfold rDiv_r0
    simp only [rin_eq,ha,hb,b0,wq,wb,hq,if_false,Bool.true_eq_false]
    rw [if_neg (fun h=>(sgn _ _).1 h hs2)]
   have v3:rMod_r0 a b=Int.tmod a b:=by
    unfold rMod_r0
    rw [hr1,v2,if_neg (by decide),Int.mul_comm,wb,e,wrap64_eq (by omega) (by omega)]
    omega
   rw [v0,v1,v2,v3]
   exact ⟨⟨eI (by omega),fun _=>rfl⟩,eI (by omega),fun _=>rfl⟩
  ·have hs2:¬(a<0↔b<0):=fun h=>hs ((sg r0).trans h)
   have v0:nDivide_r0 a b=Int.tdiv a b - 1:=by
    unfold nDivide_r0
    simp only [ha,hb,b0,r0,if_false,Bool.true_eq_false,wq,wp]
    rw [if_pos ((sgn _ _).2 hs)]
   have v1:nDivide_r1 a b=Int.tmod a b+b:=by
    unfold nDivide_r1
    simp only [ha,hb,b0,r0,if_false,Bool.true_eq_false,wr]
    rw [if_pos ((sgn _ _).2 hs)]
   have v2:rDiv_r0 a b=Int.tdiv a b - 1:=by
    unfold rDiv_r0
    simp only [rin_eq,ha,hb,b0,wq,wb,wp,hq,if_false,Bool.true_eq_false]
    rw [if_pos ((sgn _ _).2 hs2)]
   have v3:rMod_r0 a b=Int.tmod a b+b:=by
    have e2:b * (Int.tdiv a b - 1)=a - Int.tmod a b - b:=by rw [Int.mul_sub,Int.mul_one,Int.mul_comm,e]
    unfold rMod_r0
    rw [hr1,v2,if_neg (by decide),e2,wrap64_eq (x:=a - Int.tmod a b - b) (by omega) (by omega),wrap64_eq (by omega) (by omega)]
    omega
   rw [v0,v1,v2,v3]
   exact ⟨⟨eI (by omega),fun _=>rfl⟩,eI (by omega),fun _=>rfl⟩
end Go.Proofs.YtgonmmckkikmaaaGreat
namespace Go.Proofs.YtgonmmckkikmaaaGreat
open Go.Pv
set_option maxRecDepth 100000
theorem tbq (b:Bool):eTruth_r0 b=rBool_r0 b:=by cases b <;> rfl
theorem o1q {op:Int} (a:Vl) (h:isOne op):semE.o1 op a=semR.o1 op a:=by
 have s:=subq 0 (vlN a)
 simp only [semE,semR]
 rcases h with rfl | rfl | rfl | rfl
 ·by_cases ho:vlO a=1
  ·cases hr:rSub_r1 0 (vlN a) with
   | false=>rw [hr] at s; simp [eOne_s,eOne_f_r0,rOp1_r2,ho,hr,s.1]
   | true=>
    rw [hr] at s
    have s1:=s.1
    have s2:=s.2 rfl
    rw [s2] at s1
    simp [eOne_s,eOne_t_r0,eOne_t_r1,rOp1_r0,rOp1_r1,rOp1_r2,ho,hr,s1,s2]
  ·simp [eOne_s,eOne_f_r0,rOp1_r2,ho]
 ·by_cases ho:vlO a=2
  ·simp [eOne_s,eOne_t_r0,eOne_t_r1,rOp1_r0,rOp1_r1,rOp1_r2,ho,tbq]
  ·simp [eOne_s,eOne_f_r0,rOp1_r2,ho]
 ·by_cases ho:vlO a=1
  ·simp [eOne_s,eOne_t_r0,eOne_t_r1,rOp1_r0,rOp1_r1,rOp1_r2,ho]
  ·simp [eOne_s,eOne_f_r0,rOp1_r2,ho]
 ·by_cases ho:vlO a=4
  ·simp [eOne_s,eOne_t_r0,eOne_t_r1,rOp1_r0,rOp1_r1,rOp1_r2,ho]
  ·simp [eOne_s,eOne_f_r0,rOp1_r2,ho]
theorem o2n {op:Int} (v w:Vl) (h:op=10∨op=11∨op=12∨op=13∨op=14∨op=17∨op=18) (hn:¬(vlO v=1/\vlO w=1)):semE.o2 op v w=semR.o2 op v w:=by
 have e:eBoth_r0 1 (vlO v) (vlO w)=false:=by
  unfold eBoth_r0
  split
  ·rename_i h1; simp; exact fun h2=>hn ⟨h1,h2⟩
  ·rfl
 have e2:(vlO v==1&&vlO w==1)=false:=by
  rw [Bool.and_eq_false_iff]
  by_cases h1:vlO v=1
  ·exact .inr (by simpa using fun h2=>hn ⟨h1,h2⟩)
  ·exact .inl (by simpa using h1)
 simp only [semE,semR]
 rcases h with rfl | rfl | rfl | rfl | rfl | rfl | rfl <;> simp [eCompute_s,eCompute_f_r0,rOp2_r2,e,e2]
theorem o2_10 (v w:Vl) (h1:vlO v=1) (h2:vlO w=1):semE.o2 10 v w=semR.o2 10 v w:=by
 have s:=addq (vlN v) (vlN w)
 simp only [semE,semR]
 cases hr:rAdd_r1 (vlN v) (vlN w) with
 | false=>rw [hr] at s; simp [eCompute_s,eCompute_t_r0,eCompute_t_r1,eCompute_f_r0,rOp2_r0,rOp2_r1,rOp2_r2,rArith_r0,rArith_r1,rArith_r2,eBoth_r0,h1,h2,hr,s.1]
 | true=>
  rw [hr] at s
  have s1:=s.1
  have s2:=s.2 rfl
  rw [s2] at s1
  simp [eCompute_s,eCompute_t_r0,eCompute_t_r1,eCompute_f_r0,rOp2_r0,rOp2_r1,rOp2_r2,rArith_r0,rArith_r1,rArith_r2,eBoth_r0,h1,h2,hr,s1,s2]
theorem o2_11 (v w:Vl) (h1:vlO v=1) (h2:vlO w=1):semE.o2 11 v w=semR.o2 11 v w:=by
 have s:=subq (vlN v) (vlN w)
 simp only [semE,semR]
 cases hr:rSub_r1 (vlN v) (vlN w) with
 | false=>rw [hr] at s; simp [eCompute_s,eCompute_t_r0,eCompute_t_r1,eCompute_f_r0,rOp2_r0,rOp2_r1,rOp2_r2,rArith_r0,rArith_r1,rArith_r2,eBoth_r0,h1,h2,hr,s.1]
 | true=>
  rw [hr] at s
  have s1:=s.1
  have s2:=s.2 rfl
  rw [s2] at s1
  simp [eCompute_s,eCompute_t_r0,eCompute_t_r1,eCompute_f_r0,rOp2_r0,rOp2_r1,rOp2_r2,rArith_r0,rArith_r1,rArith_r2,eBoth_r0,h1,h2,hr,s1,s2]
theorem o2_12 (v w:Vl) (h1:vlO v=1) (h2:vlO w=1):semE.o2 12 v w=semR.o2 12 v w:=by
 have s:=mulq (vlN v) (vlN w)
 simp only [semE,semR]
 cases hr:rMul_r1 (vlN v) (vlN w) with
 | false=>rw [hr] at s; simp [eCompute_s,eCompute_t_r0,eCompute_t_r1,eCompute_f_r0,rOp2_r0,rOp2_r1,rOp2_r2,rArith_r0,rArith_r1,rArith_r2,eBoth_r0,h1,h2,hr,s.1]
 | true=>
  rw [hr] at s
  have s1:=s.1
  have s2:=s.2 rfl
  rw [s2] at s1
  simp [eCompute_s,eCompute_t_r0,eCompute_t_r1,eCompute_f_r0,rOp2_r0,rOp2_r1,rOp2_r2,rArith_r0,rArith_r1,rArith_r2,eBoth_r0,h1,h2,hr,s1,s2]
theorem Ev.conv {m m':Sem} (hf:∀x,m.fr x=m'.fr x) (h1:∀op a,isOne op->m.o1 op a=m'.o1 op a) (h2:∀op a b,isTwo op->m.o2 op a b=m'.o2 op a b) {l:List Df} {fu:Int} {t:Tk} {st:Int} {wh:ByteArray} {o:Oc} (h:Ev m l fu t st wh o):Ev m' l fu t st wh o:=by
 induction h with
 | @exL env x st wh h h1'=>
  have:=Ev.exL (m:=m') (l:=l) (fu:=fu) (env:=env) (st:=st) (wh:=wh) h h1'
  have e:lamV m.fr env x=lamV m'.fr env x:=by unfold lamV; rw [hf]
  rw [e]
  exact this
 | @exOo env x st wh v st1 h ho g ih=>
  have:=Ev.exOo (m:=m') (wh:=wh) h ho ih
  unfold Sem.one at this ⊢
  rw [h1 _ _ ho]
  exact this
 | @exWo env x st wh v u st1 h ho g ih=>
  have:=Ev.exWo (m:=m') (wh:=wh) h ho ih
  unfold Sem.two at this ⊢
  rw [h2 _ _ _ ho]
  exact this
 | runF h=>exact .runF h
 | runG h _ ih=>exact .runG h ih
 | callA h=>exact .callA h
 | callN h h1=>exact .callN h h1
 | callG h h1 h2 _ ih=>exact .callG h h1 h2 ih
 | conA h=>exact .conA h
 | conG h _ ih=>exact .conG h ih
 | appO h=>exact .appO h
 | appU h h1 h2=>exact .appU h h1 h2
 | appN h h1 h2 _ ih=>exact .appN h h1 h2 ih
 | appL h h1 h2=>exact .appL h h1 h2
 | appF h h1 h2 h3 h4=>exact .appF h h1 h2 h3 h4
 | appG h h1 h2 h3 h4 _ ih=>exact .appG h h1 h2 h3 h4 ih
 | liN=>exact .liN
 | liE _ ih=>exact .liE ih
 | liR _ _ i1 i2=>exact .liR i1 i2
 | liC _ _ i1 i2=>exact .liC i1 i2
 | exR h=>exact .exR h
 | exIo h h1 h2=>exact .exIo h h1 h2
 | exIe h h1 h2=>exact .exIe h h1 h2
 | exB h h1=>exact .exB h h1
 | exVb h h1 h2=>exact .exVb h h1 h2
 | exVu h h1 h2 h3=>exact .exVu h h1 h2 h3
 | exVf h h1 h2 h3 h4=>exact .exVf h h1 h2 h3 h4
 | exVc h h1 h2 h3 h4 _ ih=>exact .exVc h h1 h2 h3 h4 ih
 | exCe h h1 _ ih=>exact .exCe h h1 ih
 | exCo h h1 _ ih=>exact .exCo h h1 ih
 | exKe h h1 _ ih=>exact .exKe h h1 ih
 | exKa h h1 _ h2 _ i1 i2=>exact .exKa h h1 i1 h2 i2
 | exKu h h1 _ h2 h3 i1=>exact .exKu h h1 i1 h2 h3
 | exKc h h1 _ h2 h3 _ i1 i2=>exact .exKc h h1 i1 h2 h3 i2
 | exTe h h1 _ ih=>exact .exTe h h1 ih
 | exTo h h1 _ _ i1 i2=>exact .exTo h h1 i1 i2
 | exFe h h1 _ ih=>exact .exFe h h1 ih
 | exFs h h1 _ h2 ih=>exact .exFs h h1 ih h2
 | exFt h h1 _ h2 h3 _ i1 i2=>exact .exFt h h1 i1 h2 h3 i2
 | exFf h h1 _ h2 h3 _ i1 i2=>exact .exFf h h1 i1 h2 h3 i2
 | exMe h h1 _ ih=>exact .exMe h h1 ih
 | exMs h h1 _ h2 ih=>exact .exMs h h1 ih h2
 | exMn h h1 _ h2 h3 ih=>exact .exMn h h1 ih h2 h3
 | exMl h h1 _ h2 h3 h4 ih=>exact .exMl h h1 ih h2 h3 h4
 | exMo h h1 _ h2 h3 h4 _ i1 i2=>exact .exMo h h1 i1 h2 h3 h4 i2
 | exAe h h1 _ ih=>exact .exAe h h1 ih
 | exAs h h1 _ h2 ih=>exact .exAs h h1 ih h2
 | exAq h h1 _ h2 h3 ih=>exact .exAq h h1 ih h2 h3
 | exAr h h1 _ h2 h3 _ i1 i2=>exact .exAr h h1 i1 h2 h3 i2
 | exAt h h1 _ h2 h3 _ h4 i1 i2=>exact .exAt h h1 i1 h2 h3 i2 h4
 | exAo h h1 _ h2 h3 _ h4 i1 i2=>exact .exAo h h1 i1 h2 h3 i2 h4
 | exU h h1 _ ih=>exact .exU h h1 ih
 | exOe h h1 _ ih=>exact .exOe h h1 ih
 | exWe h h1 _ ih=>exact .exWe h h1 ih
end Go.Proofs.YtgonmmckkikmaaaGreat
namespace Go.Proofs.YtgonmmckkikmaaaGreat
open Go.Pv
set_option maxRecDepth 100000
theorem o2_13 (v w:Vl) (h1:vlO v=1) (h2:vlO w=1):semE.o2 13 v w=semR.o2 13 v w:=by
 have s:=(divq (vlN v) (vlN w)).1
 simp only [semE,semR]
 by_cases h0:vlN w=0
 ·simp [eCompute_s,eCompute_f_r0,rOp2_r2,rArith_r2,eBoth_r0,h1,h2,h0]
 cases hr:rDiv_r1 (vlN v) (vlN w) with
 | false=>rw [hr] at s; simp [eCompute_s,eCompute_f_r0,rOp2_r2,rArith_r2,eBoth_r0,h1,h2,h0,hr,s.1]
 | true=>
  rw [hr] at s
  have s1:=s.1
  have s2:=s.2 rfl
  rw [s2] at s1
  simp [eCompute_s,eCompute_t_r0,eCompute_t_r1,rOp2_r0,rOp2_r1,rOp2_r2,rArith_r0,rArith_r1,rArith_r2,eBoth_r0,h1,h2,h0,hr,s1,s2]
theorem o2_14 (v w:Vl) (h1:vlO v=1) (h2:vlO w=1):semE.o2 14 v w=semR.o2 14 v w:=by
 have s:=(divq (vlN v) (vlN w)).2
 simp only [semE,semR]
 by_cases h0:vlN w=0
 ·simp [eCompute_s,eCompute_f_r0,rOp2_r2,rArith_r2,eBoth_r0,h1,h2,h0]
 cases hr:rMod_r1 (vlN v) (vlN w) with
 | false=>rw [hr] at s; simp [eCompute_s,eCompute_f_r0,rOp2_r2,rArith_r2,eBoth_r0,h1,h2,h0,hr,s.1]
 | true=>
  rw [hr] at s
  have s1:=s.1
  have s2:=s.2 rfl
  rw [s2] at s1
  simp [eCompute_s,eCompute_t_r0,eCompute_t_r1,rOp2_r0,rOp2_r1,rOp2_r2,rArith_r0,rArith_r1,rArith_r2,eBoth_r0,h1,h2,h0,hr,s1,s2]
theorem o2_17 (v w:Vl) (h1:vlO v=1) (h2:vlO w=1):semE.o2 17 v w=semR.o2 17 v w:=by
 simp only [semE,semR]
 simp [eCompute_s,eCompute_t_r0,eCompute_t_r1,rOp2_r0,rOp2_r1,rOp2_r2,rArith_r0,rArith_r1,rArith_r2,eBoth_r0,h1,h2,tbq]
theorem o2_18 (v w:Vl) (h1:vlO v=1) (h2:vlO w=1):semE.o2 18 v w=semR.o2 18 v w:=by
 simp only [semE,semR]
 simp [eCompute_s,eCompute_t_r0,eCompute_t_r1,rOp2_r0,rOp2_r1,rOp2_r2,rArith_r0,rArith_r1,rArith_r2,eBoth_r0,h1,h2,tbq]
theorem o2_16 (v w:Vl):semE.o2 16 v w=semR.o2 16 v w:=by
 simp only [semE,semR]
 by_cases h1:vlO v=1
 ·by_cases h2:vlO w=1
  ·simp [eCompute_s,eCompute_t_r0,eCompute_t_r1,rOp2_r0,rOp2_r1,rOp2_r2,eBoth_r0,h1,h2,tbq]
  ·simp [eCompute_s,eCompute_f_r0,rOp2_r2,eBoth_r0,h1,h2]
 ·by_cases h2:vlO v=2
  ·by_cases h3:vlO w=2
   ·simp [eCompute_s,eCompute_t_r0,eCompute_t_r1,rOp2_r0,rOp2_r1,rOp2_r2,eBoth_r0,h2,h3,tbq]
   ·simp [eCompute_s,eCompute_f_r0,rOp2_r2,eBoth_r0,h2,h3]
  ·simp [eCompute_s,eCompute_f_r0,rOp2_r2,eBoth_r0,h1,h2]
theorem o2_24 (v w:Vl):semE.o2 24 v w=semR.o2 24 v w:=by
 simp only [semE,semR]
 by_cases h1:vlO v=4
 ·by_cases h2:vlO w=1
  ·simp [eCompute_s,eCompute_t_r0,eCompute_t_r1,rOp2_r0,rOp2_r1,rOp2_r2,h1,h2]
  ·simp [eCompute_s,eCompute_f_r0,rOp2_r2,h1,h2]
 ·simp [eCompute_s,eCompute_f_r0,rOp2_r2,h1]
theorem o2q {op:Int} (v w:Vl) (h:isTwo op):semE.o2 op v w=semR.o2 op v w:=by
 by_cases hn:vlO v=1/\vlO w=1
 ·rcases h with rfl | rfl | rfl | rfl | rfl | rfl | rfl | rfl | rfl
  ·exact o2_10 v w hn.1 hn.2
  ·exact o2_11 v w hn.1 hn.2
  ·exact o2_12 v w hn.1 hn.2
  ·exact o2_13 v w hn.1 hn.2
  ·exact o2_14 v w hn.1 hn.2
  ·exact o2_16 v w
  ·exact o2_17 v w hn.1 hn.2
  ·exact o2_18 v w hn.1 hn.2
  ·exact o2_24 v w
 ·rcases h with rfl | rfl | rfl | rfl | rfl | rfl | rfl | rfl | rfl
  ·exact o2n v w (by decide) hn
  ·exact o2n v w (by decide) hn
  ·exact o2n v w (by decide) hn
  ·exact o2n v w (by decide) hn
  ·exact o2n v w (by decide) hn
  ·exact o2_16 v w
  ·exact o2n v w (by decide) hn
  ·exact o2n v w (by decide) hn
  ·exact o2_24 v w
end Go.Proofs.YtgonmmckkikmaaaGreat
namespace Go.Proofs.YtgonmmckkikmaaaGreat
open Go.Pv
set_option maxRecDepth 100000
theorem mupd_keys {k:ByteArray} {v:PV}:∀ {es:List (ByteArray × PV)},(k∈es.map (·.1)/\(mupd k v es).map (·.1)=es.map (·.1))∨(¬k∈es.map (·.1)/\(mupd k v es).map (·.1)=es.map (·.1)++[k])
 | [] => .inr ⟨by simp,rfl⟩
 | x::r=>by
  rw [mupd]
  by_cases h:x.1=k
  ·rw [if_pos h]
   subst h
   exact .inl ⟨List.mem_cons_self,rfl⟩
  ·rw [if_neg h,List.map_cons,List.map_cons]
   rcases mupd_keys (k:=k) (v:=v) (es:=r) with ⟨h1,h2⟩ | ⟨h1,h2⟩
   ·exact .inl ⟨List.mem_cons_of_mem _ h1,by rw [h2]⟩
   ·exact .inr ⟨fun h3=>by rcases List.mem_cons.1 h3 with e | e; exact h e.symm; exact h1 e,by rw [h2]; rfl⟩
theorem addL_keys:∀ (l:List ByteArray) (es:List (ByteArray × PV)),(es.map (·.1)).Nodup->((addL es l).map (·.1)).Nodup/\∀x,x∈(addL es l).map (·.1)↔x∈l∨x∈es.map (·.1)
 | [],es,h=>⟨h,fun x=>by simp [addL]⟩
 | n::l,es,h=>by
  have e:addL es (n::l)=addL (addN es n) l:=rfl
  have hk:(n∈es.map (·.1)/\(addN es n).map (·.1)=es.map (·.1))∨(¬n∈es.map (·.1)/\(addN es n).map (·.1)=es.map (·.1)++[n]):=mupd_keys
  have hn:((addN es n).map (·.1)).Nodup:=by
   rcases hk with ⟨-,hk⟩ | ⟨h2,hk⟩
   ·rw [hk]; exact h
   ·rw [hk,List.nodup_append]
    exact ⟨h,by simp,fun a ha b hb e9=>by rw [List.mem_singleton] at hb; rw [e9,hb] at ha; exact h2 ha⟩
  obtain ⟨h1,h2⟩:=addL_keys l (addN es n) hn
  rw [e]
  refine ⟨h1,fun x=>?_⟩
  rw [h2]
  rcases hk with ⟨h3,hk⟩ | ⟨h3,hk⟩
  ·rw [hk,List.mem_cons]
   constructor
   ·rintro (h | h)
    ·exact .inl (.inr h)
    ·exact .inr h
   ·rintro ((h | h) | h)
    ·subst h; exact .inr h3
    ·exact .inl h
    ·exact .inr h
  ·rw [hk,List.mem_cons,List.mem_append,List.mem_singleton]
   constructor
   ·rintro (h | h | h)
    ·exact .inl (.inr h)
    ·exact .inr h
    ·exact .inl (.inl h)
   ·rintro ((h | h) | h)
    ·exact .inr (.inr h)
    ·exact .inl h
    ·exact .inr (.inl h)
theorem free_eq (x:Ex):freeS x=freeR x:=by
 obtain ⟨h1,h2⟩:=addL_keys (occN x []) [] List.nodup_nil
 obtain ⟨h3,h4⟩:=uni_spec (occN x []) [] List.Pairwise.nil
 refine sorted_uniq (sortB_pw h1) h3 fun y=>?_
 show y∈sortB _↔y∈uni_f _ _
 rw [sortB_mem,h2,h4]
 simp
theorem Ev.toR {l:List Df} {fu:Int} {t:Tk} {st:Int} {wh:ByteArray} {o:Oc} (h:Ev semE l fu t st wh o):Ev semR l fu t st wh o:=h.conv free_eq (fun _ a h=>o1q a h) fun _ a b h=>o2q a b h
end Go.Proofs.YtgonmmckkikmaaaGreat
namespace Go.Proofs.YtgonmmckkikmaaaGreat
open Go.Pv
set_option maxRecDepth 100000
section
variable (c0 c1 c2 c3 c4:PV) (l:List Df) (fu:Int) (bs:List Bd) (x:Ex) (v:Vl)
include c0 c1 c2 c3 c4 l fu bs x v
theorem rXo (st1:Int) (big1:Bool) (he:Ef 40 [.xp 0 0,.sl 8 (Bd.cs bs),.agg (exL x)] (RR c0 c1 c2 c3 c4 l (rl fu) 0 0 nm0 false) (.ret (.agg (vlL v))) (RR c0 c1 c2 c3 c4 l (rl fu) st1 0 nm0 big1)):Ef 17 ([mdM c0 c1 c2 c3 c4 l,.sl 8 (Bd.cs bs),.agg (exL x),pI fu]) ([]) (rA [pI (vlO v),pI (vlN v),.str (vlNm v),.sl 7 (Vl.cs (vlK v)),.sl 1 (nmsC (vlP v)),.sl 7 (Ex.cs (vlB v)),.sl 8 (Bd.cs (vlBd v)),pI 0,.str (ByteArray.mk #[]),pI st1]) (RR c0 c1 c2 c3 c4 l (rl fu) st1 0 nm0 big1):=
 ef mdL [ce (@rStartT (c0) (c1) (c2) (c3) (c4) (l) (fu)),ce he,ce (@rEnd_2 (c0) (c1) (c2) (c3) (c4) (l) (rl fu) (st1) (0) (nm0) (big1) (v) (by omega))] Tryz.func17
theorem rXe (er st1:Int) (wh1:ByteArray) (big1:Bool) (hk:¬er=0) (he:Ef 40 [.xp 0 0,.sl 8 (Bd.cs bs),.agg (exL x)] (RR c0 c1 c2 c3 c4 l (rl fu) 0 0 nm0 false) (.ret (.agg (vlL v))) (RR c0 c1 c2 c3 c4 l (rl fu) st1 er wh1 big1)):Ef 17 ([mdM c0 c1 c2 c3 c4 l,.sl 8 (Bd.cs bs),.agg (exL x),pI fu]) ([]) (rA [pI 0,pI 0,.str (ByteArray.mk #[]),.sl 7 [],.sl 1 [],.sl 7 [],.sl 8 [],pI er,.str wh1,pI st1]) (RR c0 c1 c2 c3 c4 l (rl fu) st1 er wh1 big1):=
 ef mdL [ce (@rStartT (c0) (c1) (c2) (c3) (c4) (l) (fu)),ce he,ce (@rEnd_1 (c0) (c1) (c2) (c3) (c4) (l) (rl fu) (st1) (er) (wh1) (big1) (v) hk)] Tryz.func17
end
end Go.Proofs.YtgonmmckkikmaaaGreat
namespace Go.Proofs.YtgonmmckkikmaaaGreat
open Go.Pv
set_option maxRecDepth 100000
theorem rEndN (c0 c1 c2 c3 c4:PV) (l:List Df) (fu st err:Int) (wh:ByteArray) (big:Bool) (hk:¬err=0):Ef 43 ([.xp 0 0,.agg [pI 0,pI 0,.str nm0,.nilsl,.nilsl,.nilsl,.nilsl]]) (RR c0 c1 c2 c3 c4 l fu st err wh big) (rA [pI 0,pI 0,.str (ByteArray.mk #[]),.sl 7 [],.sl 1 [],.sl 7 [],.sl 8 [],pI err,.str wh,pI st]) (RR c0 c1 c2 c3 c4 l fu st err wh big):=
 Ob.eff_wk (Wk.a (WkL.c (Wk.r _) (WkL.c (Wk.r _) (WkL.c (Wk.r _) (WkL.c (Wk.n 7) (WkL.c (Wk.n 1) (WkL.c (Wk.n 7) (WkL.c (Wk.n 8) (WkL.r _))))))))) (Ob.eff_of (mdL) 50 [Ans.bit true] (sc':=[]) (l:=[Ob.bit (err != 0) true]) mixed Tryz.func43 (by kernel_rfl) (by kernel_rfl) ⟨(ob_bit (bneT hk)),trivial⟩)
section
variable (c0 c1 c2 c3 c4:PV) (l:List Df) (fu:Int) (name:ByteArray) (hn:l.length<=1000000000)
include c0 c1 c2 c3 c4 l fu name hn
theorem rKu (hf:findD name l=none):Ef 19 ([mdM c0 c1 c2 c3 c4 l,.str name,pI fu]) ([]) (rA [pI 0,pI 0,.str (ByteArray.mk #[]),.sl 7 [],.sl 1 [],.sl 7 [],.sl 8 [],pI 19,.str nm0,pI 0]) (RR c0 c1 c2 c3 c4 l (rl fu) 0 19 nm0 false):=
 ef mdL [ce (@rStartT (c0) (c1) (c2) (c3) (c4) (l) (fu)),cl (@rDef_2 (c0) (c1) (c2) (c3) (c4) (l) (name) hn hf),rp 6 (bt true),ce (@rFail (c0) (c1) (c2) (c3) (c4) (l) (rl fu) (0) (nm0) (false) (19)),ce (@rEndN (c0) (c1) (c2) (c3) (c4) (l) (rl fu) (0) (19) (nm0) (false) (by omega))] Tryz.func19
theorem rKp (d:Df) (hf:findD name l=some d) (hp:(dfP d).length>0):Ef 19 ([mdM c0 c1 c2 c3 c4 l,.str name,pI fu]) ([]) (rA [pI 0,pI 0,.str (ByteArray.mk #[]),.sl 7 [],.sl 1 [],.sl 7 [],.sl 8 [],pI 19,.str nm0,pI 0]) (RR c0 c1 c2 c3 c4 l (rl fu) 0 19 nm0 false):=
 ef mdL [ce (@rStartT (c0) (c1) (c2) (c3) (c4) (l) (fu)),cl (@rDef_1 (c0) (c1) (c2) (c3) (c4) (l) (name) hn (d) hf),rp 3 (bf false),sl (nmsC_len (dfP d)),rp 2 (bf false),dt (((dfP d).length:Int)>0),ce (@rFail (c0) (c1) (c2) (c3) (c4) (l) (rl fu) (0) (nm0) (false) (19)),ce (@rEndN (c0) (c1) (c2) (c3) (c4) (l) (rl fu) (0) (19) (nm0) (false) (by omega))] Tryz.func19
theorem rKo (d:Df) (hf:findD name l=some d) (hp:(dfP d).length=0) (v:Vl) (st1:Int) (big1:Bool) (he:Ef 50 [.xp 0 0,.agg (dfL d)] (RR c0 c1 c2 c3 c4 l (rl fu) 0 0 nm0 false) (.ret (.agg (vlL v))) (RR c0 c1 c2 c3 c4 l (rl fu) st1 0 nm0 big1)):Ef 19 ([mdM c0 c1 c2 c3 c4 l,.str name,pI fu]) ([]) (rA [pI (vlO v),pI (vlN v),.str (vlNm v),.sl 7 (Vl.cs (vlK v)),.sl 1 (nmsC (vlP v)),.sl 7 (Ex.cs (vlB v)),.sl 8 (Bd.cs (vlBd v)),pI 0,.str (ByteArray.mk #[]),pI st1]) (RR c0 c1 c2 c3 c4 l (rl fu) st1 0 nm0 big1):=
 ef mdL [ce (@rStartT (c0) (c1) (c2) (c3) (c4) (l) (fu)),cl (@rDef_1 (c0) (c1) (c2) (c3) (c4) (l) (name) hn (d) hf),rp 3 (bf false),sl (nmsC_len (dfP d)),rp 2 (bf false),df (((dfP d).length:Int)>0),ce he,ce (@rEnd_2 (c0) (c1) (c2) (c3) (c4) (l) (rl fu) (st1) (0) (nm0) (big1) (v) (by omega))] Tryz.func19
theorem rKe (d:Df) (hf:findD name l=some d) (hp:(dfP d).length=0) (v:Vl) (er st1:Int) (wh1:ByteArray) (big1:Bool) (hk:¬er=0) (he:Ef 50 [.xp 0 0,.agg (dfL d)] (RR c0 c1 c2 c3 c4 l (rl fu) 0 0 nm0 false) (.ret (.agg (vlL v))) (RR c0 c1 c2 c3 c4 l (rl fu) st1 er wh1 big1)):Ef 19 ([mdM c0 c1 c2 c3 c4 l,.str name,pI fu]) ([]) (rA [pI 0,pI 0,.str (ByteArray.mk #[]),.sl 7 [],.sl 1 [],.sl 7 [],.sl 8 [],pI er,.str wh1,pI st1]) (RR c0 c1 c2 c3 c4 l (rl fu) st1 er wh1 big1):=
 ef mdL [ce (@rStartT (c0) (c1) (c2) (c3) (c4) (l) (fu)),cl (@rDef_1 (c0) (c1) (c2) (c3) (c4) (l) (name) hn (d) hf),rp 3 (bf false),sl (nmsC_len (dfP d)),rp 2 (bf false),df (((dfP d).length:Int)>0),ce he,ce (@rEnd_1 (c0) (c1) (c2) (c3) (c4) (l) (rl fu) (st1) (er) (wh1) (big1) (v) hk)] Tryz.func19
end
end Go.Proofs.YtgonmmckkikmaaaGreat
namespace Go.Proofs.YtgonmmckkikmaaaGreat
open Go.Pv
set_option maxRecDepth 100000
theorem rl_fl (fu:Int):rl fu=fl' fu:=by
 unfold rl fl' flX
 simp only [if_true,Bool.false_eq_true,if_false]
 repeat' split
 all_goals omega
section
variable (c0 c1 c2 c3 c4:PV) (l:List Df) (fu:Int)
theorem rExpr_ok (hx:PV.noX (mdM c0 c1 c2 c3 c4 l)=true) (hl:SmL l) {bs:List Bd} {x:Ex} (hb:SmBs bs) (hn:bs.length+szE x<=100000000) {o:Oc} (h:Ev semE l (fl' fu) (.ex bs.reverse x) 0 nm0 o) :
  Pu 17 [mdM c0 c1 c2 c3 c4 l,.sl 8 (Bd.cs bs),.agg (exL x),.int .i64 fu] (.ret (.agg (ocL o))):=by
 have h':=h.toR
 rw [<-rl_fl] at h'
 have hc:RfR c0 c1 c2 c3 c4 l (rl fu) 40 (evA bs.reverse.reverse x) 0 nm0 o:=confR c0 c1 c2 c3 c4 l (rl fu) (rl_le fu).1 hl h' (by omega) ⟨SmBs_rev.2 hb,by omega⟩ (by show bs.reverse.length+szE x<=900000000; rw [List.length_reverse]; omega)
 rw [List.reverse_reverse] at hc
 have ha:noXs [mdM c0 c1 c2 c3 c4 l,.sl 8 (Bd.cs bs),.agg (exL x),.int .i64 fu]=true:=by
  rw [noXs,hx,noXs,PV.noX,bds_nx,noXs,PV.noX,exL_nx]; rfl
 cases o with
 | ok vs st=>
  obtain ⟨v,rfl⟩:=sh1 h.shape trivial
  obtain ⟨b,hb'⟩:=hc v rfl false
  exact Ob.pur_of_eff ha (by rw [CRes.noX]; exact otL_nx v 0 st nm0) (rXo c0 c1 c2 c3 c4 l fu bs x v st b hb')
 | er k st wh=>
  obtain ⟨v,b,hb'⟩:=hc.2 false
  exact Ob.pur_of_eff ha (by rw [CRes.noX]; exact otL_nx default k st wh) (rXe c0 c1 c2 c3 c4 l fu bs x v k st wh b hc.1 hb')
theorem rCons_ok (hx:PV.noX (mdM c0 c1 c2 c3 c4 l)=true) (hl:SmL l) {name:ByteArray} {o:Oc} (h:(findD name l=none/\o = .er 19 0 nm0)∨∃d,findD name l=some d/\((¬(dfP d).length=0/\o = .er 19 0 nm0)∨((dfP d).length=0/\Ev semE l (fl' fu) (.con d) 0 nm0 o))) :
  Pu 19 [mdM c0 c1 c2 c3 c4 l,.str name,.int .i64 fu] (.ret (.agg (ocL o))):=by
 have e2:PV.noX (.str name)=true:=rfl
 have ha:noXs [mdM c0 c1 c2 c3 c4 l,.str name,.int .i64 fu]=true:=by rw [noXs,hx,noXs,e2]; rfl
 rcases h with ⟨h1,rfl⟩ | ⟨d,h1,⟨h2,rfl⟩ | ⟨h2,h3⟩⟩
 ·exact Ob.pur_of_eff ha (by rw [CRes.noX]; exact otL_nx default 19 0 nm0) (rKu c0 c1 c2 c3 c4 l fu name hl.1 h1)
 ·exact Ob.pur_of_eff ha (by rw [CRes.noX]; exact otL_nx default 19 0 nm0) (rKp c0 c1 c2 c3 c4 l fu name hl.1 d h1 (by omega))
 ·have h':=h3.toR
  rw [<-rl_fl] at h'
  have hc:RfR c0 c1 c2 c3 c4 l (rl fu) 50 [.xp 0 0,.agg (dfL d)] 0 nm0 o:=confR c0 c1 c2 c3 c4 l (rl fu) (rl_le fu).1 hl h' (by omega) (hl.2 _ (findD_mem h1)) trivial
  cases o with
  | ok vs st=>
   obtain ⟨v,rfl⟩:=sh1 h3.shape trivial
   obtain ⟨b,hb'⟩:=hc v rfl false
   exact Ob.pur_of_eff ha (by rw [CRes.noX]; exact otL_nx v 0 st nm0) (rKo c0 c1 c2 c3 c4 l fu name hl.1 d h1 h2 v st b hb')
  | er k st wh=>
   obtain ⟨v,b,hb'⟩:=hc.2 false
   exact Ob.pur_of_eff ha (by rw [CRes.noX]; exact otL_nx default k st wh) (rKe c0 c1 c2 c3 c4 l fu name hl.1 d h1 h2 v k st wh b hc.1 hb')
end
end Go.Proofs.YtgonmmckkikmaaaGreat
namespace Go.Proofs.YtgonmmckkikmaaaGreat
open Go.Pv
set_option maxRecDepth 100000
theorem dfnm_bulk (d:Df):(dfNm d).size<=bulkPs (dfL d):=by
 show _<=bulkPs (.str (dfNm d) :: .sl 1 (nmsC (dfP d))::(exL (dfB d)++_))
 rw [bulkPs]
 simp only [bulkP]
 omega
theorem varX_sz (s:ByteArray):szE (.mk 3 s 0 [] [] [] [])<=s.size+7:=by
 have h1:=szE_eq (.mk 3 s 0 [] [] [] [])
 have e1:bulkPss (Ex.cs (exK (.mk 3 s 0 [] [] [] [])))=0:=rfl
 have e2:bulkPss (pmsC (exP (.mk 3 s 0 [] [] [] [])))=0:=rfl
 have e3:bulkPss (Al.cs (exA (.mk 3 s 0 [] [] [] [])))=0:=rfl
 have e4:bulkPss (Tp.cs (exT (.mk 3 s 0 [] [] [] [])))=0:=rfl
 have e5:exNm (.mk 3 s 0 [] [] [] [])=s:=rfl
 rw [e1,e2,e3,e4,e5] at h1
 omega
theorem varP_wk (s:ByteArray):Wk (varP s) (.agg (exL (.mk 3 s 0 [] [] [] []))):=by
 show Wk _ (.agg [.int .i64 3,.str s,.int .i64 0,.sl 7 [],.sl 10 [],.sl 9 [],.sl 9 []])
 exact .a (.c (.r _) (.c (.r _) (.c (.r _) (.c (.n 7) (.c (.n 10) (.c (.n 9) (.c (.n 9) (.r _))))))))
section
variable (d0 d1 d2 d3 d4:List (List PV)) (z0 z1 z2 z3 z4:Nat) (l:List Df)
theorem nameB (k:Int) (hk0:0<=k) (hk1:k<=255) (hl:bulkPss (dfsC l)<=3000000) (hll:l.length<=1000000000):∃nm:ByteArray,nm.size<=3000007/\Pu 13 [mdS d0 d1 d2 d3 d4 z0 z1 z2 z3 z4 l,.int .u8 k] (.ret (.str nm)):=by
 by_cases h0:((List.length l:Nat):Int)=0
 ·exact ⟨_,by decide,rName_1 d0 d1 d2 d3 d4 z0 z1 z2 z3 z4 l k hk0 hk1 hll h0⟩
 ·by_cases h1:k>240
  ·exact ⟨_,by decide,rName_2 d0 d1 d2 d3 d4 z0 z1 z2 z3 z4 l k hk0 hk1 hll h0 h1⟩
  ·have hp:0<l.length:=by omega
   have e:Int.tmod k (l.length:Int)=((k.toNat % l.length:Nat):Int):=by
    rw [Int.tmod_eq_emod_of_nonneg hk0,Int.natCast_emod,Int.toNat_of_nonneg hk0]
   have hlt:=Nat.mod_lt k.toNat hp
   refine ⟨_,?_,rName3 d0 d1 d2 d3 d4 z0 z1 z2 z3 z4 l k hk0 hk1 hll hp h1 _ hlt e⟩
   have hm:l.getD (k.toNat % l.length) default∈l:=by simp [List.getD,hlt]
   have:=dfnm_bulk (l.getD (k.toNat % l.length) default)
   have:=dfs_bulk hm
   omega
theorem exprs_true (hx:PV.noX (mdS d0 d1 d2 d3 d4 z0 z1 z2 z3 z4 l)=true) (hl:bulkPss (dfsC l)<=3000000) {bs:List Bd} (hb:bulkPss (Bd.cs bs)<=3000000) {x:Ex} (he:szE x<=3000000) (fu k:Int) (hk0:0<=k) (hk1:k<=255) :
  Pu 3 [mdS d0 d1 d2 d3 d4 z0 z1 z2 z3 z4 l,.agg (.sl 8 (Bd.cs bs)::(exL x++[.int .i64 fu])),.int .u8 k] (.ret (.bool true)):=by
 have hsl:SmL l:=SmL_bulk (by omega)
 have hsb:SmBs bs:=SmBs_bulk (by omega)
 have hbl:=bds_bulk bs
 obtain ⟨b0,hLt⟩:=light_ex d0 d1 d2 d3 d4 z0 z1 z2 z3 z4 l hl
 have hNd:=rNodesT (x:=x) (by omega)
 have hVs:=rValues bs (by omega)
 have hvl:=vs_len (l:=bs) (i:=0) (out:=[])
 simp only [List.length_nil] at hvl
 obtain ⟨b1,hFw⟩:=few_ex (vs:=vsS_f bs 0 []) (by omega) fun v hv=>by
  rcases vs_mem hv with h | ⟨b,hb',rfl⟩
  ·cases h
  ·have:=bdv_bulk hb'; omega
 obtain ⟨nm,hns,hNm⟩:=nameB d0 d1 d2 d3 d4 z0 z1 z2 z3 z4 l k hk0 hk1 hl hsl.1
 obtain ⟨b2,hB1⟩:=bigExpr_ok _ _ _ _ _ l fu hx hsl (bs:=bs) (x:=x) hsb (by omega)
 have hvz:=varX_sz nm
 obtain ⟨b3,hB2'⟩:=bigExpr_ok _ _ _ _ _ l fu hx hsl (bs:=[]) (x := .mk 3 nm 0 [] [] [] []) SmBs_nil (by rw [List.length_nil]; omega)
 have hB2:Pu 14 [mdS d0 d1 d2 d3 d4 z0 z1 z2 z3 z4 l,.nilsl,varP nm,.int .i64 fu] (.ret (.bool b3)):=Ob.pur_arg (.c (.r _) (.c (.n 8) (.c (varP_wk nm) (.r _)))) hB2'
 obtain ⟨p,hp⟩:=total_ex semE l (fl' fu) bs.reverse x 0 nm0
 have hO:=eExpr_ok _ _ _ _ _ l fu hx hsl (bs:=bs) (x:=x) hsb (by omega) (by omega) hp
 have hR:=rExpr_ok _ _ _ _ _ l fu hx hsl (bs:=bs) (x:=x) hsb (by omega) hp
 rw [ocL_eq p] at hO hR
 have hS:=rSameOT (ocV_sm (Ev.small semE_small hsl hp ⟨SmBs_rev.2 hsb,by omega⟩)) (ocE p) p.st (ocW p)
 have hd:SmV default:=SmV_vX 0 0
 have hq:∃q:Oc,SmV (ocV q)/\((findD nm l=none/\q = .er 19 0 nm0)∨∃d,findD nm l=some d/\((¬(dfP d).length=0/\q = .er 19 0 nm0)∨((dfP d).length=0/\Ev semE l (fl' fu) (.con d) 0 nm0 q))):=by
  cases hf:findD nm l with
  | none=>exact ⟨.er 19 0 nm0,hd,.inl ⟨rfl,rfl⟩⟩
  | some d=>
   by_cases hn:(dfP d).length=0
   ·obtain ⟨q,hq⟩:=total_con semE l (fl' fu) d 0 nm0
    exact ⟨q,ocV_sm (Ev.small semE_small hsl hq (hsl.2 _ (findD_mem hf))),.inr ⟨d,rfl,.inr ⟨hn,hq⟩⟩⟩
   ·exact ⟨.er 19 0 nm0,hd,.inr ⟨d,rfl,.inl ⟨hn,rfl⟩⟩⟩
 obtain ⟨q,hqs,hq⟩:=hq
 have hC:=eCons_ok _ _ _ _ _ l fu hx hsl hq
 have hD:=rCons_ok _ _ _ _ _ l fu hx hsl hq
 rw [ocL_eq q] at hC hD
 have hT:=rSameOT hqs (ocE q) q.st (ocW q)
 rcases Bool.eq_false_or_eq_true b0 with h0 | h0
 case inr=>exact exprs_1 _ _ _ _ _ l bs x fu k nm b0 b1 b2 b3 (nodes x) _ (by omega) hLt hNd hVs hFw awake_ok hNm hB1 hB2 (ocV p) (ocV q) (ocE p) (ocE q) p.st q.st (ocW p) (ocW q) hO hR hC hD hS hT h0
 by_cases h1:nodes x>100
 ·exact exprs_2 _ _ _ _ _ l bs x fu k nm b0 b1 b2 b3 (nodes x) _ (by omega) hLt hNd hVs hFw awake_ok hNm hB1 hB2 (ocV p) (ocV q) (ocE p) (ocE q) p.st q.st (ocW p) (ocW q) hO hR hC hD hS hT h0 h1
 by_cases h2:(bs.length:Int)>10
 ·exact exprs_3 _ _ _ _ _ l bs x fu k nm b0 b1 b2 b3 (nodes x) _ (by omega) hLt hNd hVs hFw awake_ok hNm hB1 hB2 (ocV p) (ocV q) (ocE p) (ocE q) p.st q.st (ocW p) (ocW q) hO hR hC hD hS hT h0 h1 h2
 rcases Bool.eq_false_or_eq_true b1 with h3 | h3
 case inr=>exact exprs_4 _ _ _ _ _ l bs x fu k nm b0 b1 b2 b3 (nodes x) _ (by omega) hLt hNd hVs hFw awake_ok hNm hB1 hB2 (ocV p) (ocV q) (ocE p) (ocE q) p.st q.st (ocW p) (ocW q) hO hR hC hD hS hT h0 h1 h2 h3
 by_cases h4:fu>300
 ·exact exprs_5 _ _ _ _ _ l bs x fu k nm b0 b1 b2 b3 (nodes x) _ (by omega) hLt hNd hVs hFw awake_ok hNm hB1 hB2 (ocV p) (ocV q) (ocE p) (ocE q) p.st q.st (ocW p) (ocW q) hO hR hC hD hS hT h0 h1 h2 h3 h4
 rcases Bool.eq_false_or_eq_true b2 with h5 | h5
 ·exact exprs_6 _ _ _ _ _ l bs x fu k nm b0 b1 b2 b3 (nodes x) _ (by omega) hLt hNd hVs hFw awake_ok hNm hB1 hB2 (ocV p) (ocV q) (ocE p) (ocE q) p.st q.st (ocW p) (ocW q) hO hR hC hD hS hT h0 h1 h2 h3 h4 h5
 rcases Bool.eq_false_or_eq_true b3 with h6 | h6
 ·exact exprs_7 _ _ _ _ _ l bs x fu k nm b0 b1 b2 b3 (nodes x) _ (by omega) hLt hNd hVs hFw awake_ok hNm hB1 hB2 (ocV p) (ocV q) (ocE p) (ocE q) p.st q.st (ocW p) (ocW q) hO hR hC hD hS hT h0 h1 h2 h3 h4 h5 h6
 ·exact exprs_8 _ _ _ _ _ l bs x fu k nm b0 b1 b2 b3 (nodes x) _ (by omega) hLt hNd hVs hFw awake_ok hNm hB1 hB2 (ocV p) (ocV q) (ocE p) (ocE q) p.st q.st (ocW p) (ocW q) hO hR hC hD hS hT h0 h1 h2 h3 h4 h5 h6
end
end Go.Proofs.YtgonmmckkikmaaaGreat
