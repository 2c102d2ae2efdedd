/- Values of Go as plain data, an evaluator over them, and what the functions of the program return; part Ym. -/
import Derived.Test.YtmllcplaohkjnaaGreatDoorYl
import Derived.Test.YtmllcplaohkjnaaGreatDoorYi
import Derived.Test.YtmllcplaohkjnaaGreatDoorYa
set_option linter.unusedSectionVars false
set_option linter.unusedSimpArgs false
set_option linter.unusedVariables false
namespace Go.Proofs.YtmllcplaohkjnaaGreatDoor
open Go.Proofs.Tryz
open Go.Pv Go.Proofs.Tryz
set_option maxRecDepth 100000
theorem so_nn{n t i:Nat}(h:i<n):0<=Int.tmod ((n:Int) - 1 - (i:Int)+(t:Int)) (n:Int):=Int.tmod_nonneg _ oM
theorem so_tl{n t i:Nat}(h:i<n):Int.tmod ((n:Int) - 1 - (i:Int)+(t:Int)) (n:Int)<(n:Int):=Int.tmod_lt_of_pos _ oM
theorem so_lt{n t i:Nat}(h:i<n):(Int.tmod ((n:Int) - 1 - (i:Int)+(t:Int)) (n:Int)).toNat<n:=by
 have:=so_nn (t:=t) h
 have:=so_tl (t:=t) h
 omega
theorem so_bo{l:List Df}{t i:Nat}(h:i<l.length):0<=Int.tmod ((l.length:Int) - 1 - (i:Int)+(t:Int)) (l.length:Int)/\Int.tmod ((l.length:Int) - 1 - (i:Int)+(t:Int)) (l.length:Int)<((Df.cs l).length:Int):=by rw [Df.cs_len]; exact ⟨so_nn h,so_tl h⟩
abbrev so_I(m:Mo)(t:Nat)(j:Int)(out:List Df)(e:Ext):S:=S.mk [(1,.v (.int .u8 (t:Int))),(2,.lp 2 0),(4,.v (.bool false)),(5,.lp 5 0),(6,vI6 j)] [(2,moV m),(5,[vL 4 (Da.cs (moD m)),vL 3 (Cl.cs (moC m)),vL 12 (In.cs (moI m)),vL 8 (Ms.cs (moM m)),vL 6 (Qu.cs (moQ m)),.uniq 56 25 (Df.cs out)])] e
theorem so_b1(m:Mo)(t:Nat)(ht:t<256)(haw:Pu 9 [] (.ret (.bool true)))(hb:Pu 8 [.agg (moL m)] (.ret (.bool true)))(i:Nat)(out:List Df)(e:Ext)(hi:i<List.length ((moF m)))(hN:List.length ((moF m))<=1000000000)(hv:(out.length<=i))(cx:Cx)(hcx:cx.n=52){Q:PExit->S->Prop}(hq:Q (PExit.normal) (S.mk [(1,LV.v (PV.int IntKind.u8 (↑t:Int))),(2,LV.lp 2 0),(4,LV.v (PV.bool false)),(5,LV.lp 5 0),(6,LV.v (PV.int IntKind.i64 ((↑i:Int)+1)))] [(2,moV m),(5,[LV.v (PV.sl 4 (Da.cs (moD m))),LV.v (PV.sl 3 (Cl.cs (moC m))),LV.v (PV.sl 12 (In.cs (moI m))),LV.v (PV.sl 8 (Ms.cs (moM m))),LV.v (PV.sl 6 (Qu.cs (moQ m))),LV.uniq 56 25 (Df.cs out++[dfL (List.getD (moF m) (Int.toNat (Int.tmod ((↑(List.length (moF m)):Int) - 1 - (↑i:Int)+(↑t:Int)) (↑(List.length (moF m)):Int))) default)])])] e)):PW prog cx (loopF f4 0) (so_I m t (↑i:Int) out e) Q:=
 PW_runK (mdL) 52 50 [Ans.as_ (LV.v (PV.int IntKind.i64 (↑(List.length (moF m)):Int))),Ans.bit true,Ans.as_ (LV.v (PV.int IntKind.i64 (↑(List.length (moF m)):Int))),Ans.as_ (LV.v (PV.int IntKind.i64 ((↑(List.length (moF m)):Int) - 1))),Ans.as_ (LV.v (PV.int IntKind.i64 ((↑(List.length (moF m)):Int) - 1 - (↑i:Int)))),Ans.as_ (LV.v (PV.int IntKind.i64 (↑t:Int))),Ans.as_ (LV.v (PV.int IntKind.i64 ((↑(List.length (moF m)):Int) - 1 - (↑i:Int)+(↑t:Int)))),Ans.as_ (LV.v (PV.int IntKind.i64 (↑(List.length (moF m)):Int))),Ans.keep,Ans.as_ (LV.v (PV.ro (dfL (List.getD (moF m) (Int.toNat (Int.tmod ((↑(List.length (moF m)):Int) - 1 - (↑i:Int)+(↑t:Int)) (↑(List.length (moF m)):Int))) default)) 0)),Ans.as_ (LV.v (PV.int IntKind.i64 ((↑i:Int)+1)))] [1,2,4,5,6] [2,5] (sc':=[]) (l:=[Ob.eqv (LV.v (PV.int IntKind.i64 (↑((fun x=>List.length (Prod.snd x)) (25,Df.cs (moF m))):Int))) (LV.v (PV.int IntKind.i64 (↑(List.length (moF m)):Int))),Ob.bit (decide ((↑i:Int)<(↑(List.length (moF m)):Int))) true,Ob.eqv (LV.v (PV.int IntKind.i64 (↑((fun x=>List.length (Prod.snd x)) (25,Df.cs (moF m))):Int))) (LV.v (PV.int IntKind.i64 (↑(List.length (moF m)):Int))),Ob.eqv (LV.v (PV.int IntKind.i64 (IntKind.wrap IntKind.i64 ((↑(List.length (moF m)):Int) - 1)))) (LV.v (PV.int IntKind.i64 ((↑(List.length (moF m)):Int) - 1))),Ob.eqv (LV.v (PV.int IntKind.i64 (IntKind.wrap IntKind.i64 ((↑(List.length (moF m)):Int) - 1 - (↑i:Int))))) (LV.v (PV.int IntKind.i64 ((↑(List.length (moF m)):Int) - 1 - (↑i:Int)))),Ob.eqv (LV.v (PV.int IntKind.i64 (IntKind.wrap IntKind.i64 (↑t:Int)))) (LV.v (PV.int IntKind.i64 (↑t:Int))),Ob.eqv (LV.v (PV.int IntKind.i64 (IntKind.wrap IntKind.i64 ((↑(List.length (moF m)):Int) - 1 - (↑i:Int)+(↑t:Int))))) (LV.v (PV.int IntKind.i64 ((↑(List.length (moF m)):Int) - 1 - (↑i:Int)+(↑t:Int)))),Ob.eqv (LV.v (PV.int IntKind.i64 (↑((fun x=>List.length (Prod.snd x)) (25,Df.cs (moF m))):Int))) (LV.v (PV.int IntKind.i64 (↑(List.length (moF m)):Int))),Ob.bit (decide ((↑(List.length (moF m)):Int)≠0)) true,Ob.bit (decide ((0:Int)<=Int.tmod ((↑(List.length (moF m)):Int) - 1 - (↑i:Int)+(↑t:Int)) (↑(List.length (moF m)):Int)/\Int.tmod ((↑(List.length (moF m)):Int) - 1 - (↑i:Int)+(↑t:Int)) (↑(List.length (moF m)):Int)<(↑(List.length (Df.cs (moF m))):Int))) true,Ob.eqv (LV.v (PV.ro (List.getD (Df.cs (moF m)) (Int.toNat (Int.tmod ((↑(List.length (moF m)):Int) - 1 - (↑i:Int)+(↑t:Int)) (↑(List.length (moF m)):Int))) []) 0)) (LV.v (PV.ro (dfL (List.getD (moF m) (Int.toNat (Int.tmod ((↑(List.length (moF m)):Int) - 1 - (↑i:Int)+(↑t:Int)) (↑(List.length (moF m)):Int))) default)) 0)),Ob.bit (decide (List.length (Df.cs out++(fun x=>Prod.snd x) (24+1,[dfL (List.getD (moF m) (Int.toNat (Int.tmod ((↑(List.length (moF m)):Int) - 1 - (↑i:Int)+(↑t:Int)) (↑(List.length (moF m)):Int))) default)])) * (455+1)<=140737488355328)) true,Ob.eqv (LV.v (PV.int IntKind.i64 (IntKind.wrap IntKind.i64 ((↑i:Int)+1)))) (LV.v (PV.int IntKind.i64 ((↑i:Int)+1)))]) mixed hcx kR kR ⟨(ob_eqv (by (simp only [Df.cs_len]; done))),(ob_bit (dT oM)),(ob_eqv (by (simp only [Df.cs_len]; done))),(ob_eqv (wrap64 oM oM)),(ob_eqv (wrap64 oM oM)),(ob_eqv (wrap64 oM oM)),(ob_eqv (wrap64 oM oM)),(ob_eqv (by (simp only [Df.cs_len]; done))),(ob_bit (dT oM)),(ob_bit (dT (by (apply so_bo <;> first | assumption | omega | decide)))),(ob_eqv (by rw [@Df.cs_at (moF m) (Int.toNat (Int.tmod ((↑(List.length (moF m)):Int) - 1 - (↑i:Int)+(↑t:Int)) (↑(List.length (moF m)):Int))) (by (apply so_lt <;> first | assumption | omega | decide))]; try rfl)),(ob_bit (dT (by (simp only [List.length_append,List.length_cons,List.length_nil,nmsC_len,Pr.cs_len,Tp.cs_len,Pm.cs_len,Ex.cs_len,Al.cs_len,Vr.cs_len,Bo.cs_len,Df.cs_len,Int.toNat_natCast,Int.toNat_zero,tn1]; omega)))),(ob_eqv (wrap64 oM oM)),tVv⟩ hq
theorem so_z1(m:Mo)(t:Nat)(ht:t<256)(haw:Pu 9 [] (.ret (.bool true)))(hb:Pu 8 [.agg (moL m)] (.ret (.bool true)))(i:Nat)(out:List Df)(e:Ext)(hi:i=(moF m).length)(hN:(moF m).length<=1000000000)(hv:(out.length<=i))(cx:Cx)(hcx:cx.n=52){Q:PExit->S->Prop}(hq:Q (.exit 0) (S.mk [(1,.v (.int .u8 (t:Int))),(2,.lp 2 0),(4,.v (.bool false)),(5,.lp 5 0),(6,vI6 (i:Int))] [(2,moV m),(5,[vL 4 (Da.cs (moD m)),vL 3 (Cl.cs (moC m)),vL 12 (In.cs (moI m)),vL 8 (Ms.cs (moM m)),vL 6 (Qu.cs (moQ m)),.uniq 56 25 (Df.cs out)])] e)):PW prog cx (loopF f4 0) (so_I m t (i:Int) out e) Q:=
 pw mdL 52 [sl (Df.cs_len (moF m)),df ((i:Int)<((moF m).length:Int))] [1,2,4,5,6] [2,5] hcx hq
def so_f(m:Mo)(t:Nat):List Df->Nat->(List Df)->(List Df)
 | [],i,out=>(out)
 | el::r,i,out=>so_f m t r (i+1) (out++[List.getD (moF m) (Int.toNat (Int.tmod (((moF m).length:Int) - 1 - (i:Int)+(t:Int)) ((moF m).length:Int))) default])
def so_q(m:Mo)(t:Nat)(e:Ext)(p:(List Df)):PExit × S:=(.exit 0,S.mk [(1,.v (.int .u8 (t:Int))),(2,.lp 2 0),(4,.v (.bool false)),(5,.lp 5 0)] [(2,moV m),(5,[vL 4 (Da.cs (moD m)),vL 3 (Cl.cs (moC m)),vL 12 (In.cs (moI m)),vL 8 (Ms.cs (moM m)),vL 6 (Qu.cs (moQ m)),.uniq 56 25 (Df.cs p)])] e)
theorem so_lp(m:Mo)(t:Nat)(ht:t<256)(haw:Pu 9 [] (.ret (.bool true)))(hb:Pu 8 [.agg (moL m)] (.ret (.bool true)))(e:Ext)(hN:(moF m).length<=1000000000)(i:Nat)(out:List Df)(hi0:i<=(moF m).length)(hv:(out.length<=i)):(Ob.loop 52 (loopF f4 0) (so_I m t (i:Int) out e) (so_q m t e (so_f m t (List.drop i ((moF m))) i out)).1 (so_q m t e (so_f m t (List.drop i ((moF m))) i out)).2).ok prog:=by
 refine Ob.loop_of (P:=prog) (α:={ zz:Nat × (List Df) // zz.1<=(moF m).length/\(fun (i:Nat) (out:List Df)=>(out.length<=i)) zz.1 zz.2 }) (fun zz=>so_I m t (zz.1.1:Int) zz.1.2 e) (fun zz=>(moF m).length - zz.1.1) (fun zz=>(so_q m t e (so_f m t (List.drop zz.1.1 ((moF m))) zz.1.1 zz.1.2))) ?_ ⟨(i,out),hi0,hv⟩
 clear hi0 hv
 clear out i
 rintro ⟨⟨i,out⟩,hi,hv⟩ cx hcx
 simp only at hi hv ⊢
 rcases Nat.lt_or_ge i ((moF m).length) with hlt | hge
 ·have hd:=drop_at hlt
  have hr:(so_f m t (List.drop i ((moF m))) i out)=(so_f m t (List.drop (i+1) ((moF m))) (i+1) (out++[List.getD (moF m) (Int.toNat (Int.tmod (((moF m).length:Int) - 1 - (i:Int)+(t:Int)) ((moF m).length:Int))) default])):=by rw [hd,so_f]
  exact so_b1 m t ht haw hb i out e hlt hN hv  cx hcx (.inl ⟨rfl,⟨((i+1),(out++[List.getD (moF m) (Int.toNat (Int.tmod (((moF m).length:Int) - 1 - (i:Int)+(t:Int)) ((moF m).length:Int))) default])),by simp only; omega,(by first | assumption | omega | (apply so_nn <;> first | assumption | omega | decide) | (apply so_tl <;> first | assumption | omega | decide) | (apply so_lt <;> first | assumption | omega | decide) | (apply so_bo <;> first | assumption | omega | decide) | (simp only [List.length_append,List.length_cons,List.length_nil] at *; omega) | simp_all)⟩,by simp only; omega,⟨⟨W,W,W,W,W,tVv⟩,⟨Ws,⟨W,W,W,W,W,(.inl (by first | (simp only [List.nil_append,nmsC_app,nmsC_snoc,Pr.cs_snoc,Tp.cs_snoc,Ex.cs_snoc,Vr.cs_snoc,Df.cs_snoc]; done) | (simp only [List.nil_append,nmsC_app,nmsC_snoc,Pr.cs_snoc,Tp.cs_snoc,Ex.cs_snoc,Vr.cs_snoc,Df.cs_snoc]; rfl))),tVv⟩,tVv⟩,rfl⟩,by simp only; rw [hr]⟩)
 ·have he:i=(moF m).length:=by omega
  subst he
  have hr:(so_f m t (List.drop ((moF m).length) ((moF m))) ((moF m).length) out)=(out):=by rw [List.drop_length,so_f]
  refine so_z1 m t ht haw hb ((moF m).length) out e rfl hN hv  cx hcx (.inr ?_)
  rw [hr]
  exact ⟨by simp,rfl,xr⟩
theorem so(m:Mo)(t:Nat)(ht:t<256)(haw:Pu 9 [] (.ret (.bool true)))(hb:Pu 8 [.agg (moL m)] (.ret (.bool true)))(out:List Df)(e:Ext)(hN:(moF m).length<=1000000000)(hv:List.length out<=0):(Ob.loop 52 (loopF f4 0) (so_I m t 0 out e) (so_q m t e (so_f m t ((moF m)) 0 out)).1 (so_q m t e (so_f m t ((moF m)) 0 out)).2).ok prog:=by
 have:=so_lp m t ht haw hb e hN 0 out (Nat.zero_le _) hv
 rw [List.drop_zero] at this
 exact this
theorem oA(m:Mo)(t:Nat)(haw:Pu 9 [] (.ret (.bool true)))(hb:Pu 8 [.agg (moL m)] (.ret (.bool false))):Pu 4 [.agg (moL m),.int .u8 (t:Int)] (rB true):=
 pm mdL [cl hb,bt true,cl haw] func4
theorem oB(m:Mo)(t:Nat)(ht:t<256)(haw:Pu 9 [] (.ret (.bool true)))(hb:Pu 8 [.agg (moL m)] (.ret (.bool true)))(hN:(moF m).length<=1000000000)(r1 r2:Int)(h1:Pu 10 [.agg (moL m)] (.ret (.int .i64 r1)))(h2:Pu 10 [.agg [.sl 4 (Da.cs (moD m)),.sl 3 (Cl.cs (moC m)),.sl 12 (In.cs (moI m)),.sl 8 (Ms.cs (moM m)),.sl 6 (Qu.cs (moQ m)),.sl 25 (Df.cs (so_f m t (moF m) 0 []))]] (.ret (.int .i64 r2)))(he:((r1==0)==(r2==0))=true):Pu 4 [.agg (moL m),.int .u8 (t:Int)] (rB true):=
 pu mdL (fun e=>[cl hb,bf false,lp (S.mk [(0,.v (.agg (moL m))),(1,.v (.int .u8 (t:Int))),(2,.lp 2 0),(4,.v (.bool false)),(7,.v (.agg (moL m))),(8,.v (.bool true)),(9,.v (.bool false)),(11,.v (.agg (moL m))),(5,.lp 5 0),(12,.lp 5 5),(6,vI6 0)] [(2,moV m),(5,[vL 4 (Da.cs (moD m)),vL 3 (Cl.cs (moC m)),vL 12 (In.cs (moI m)),vL 8 (Ms.cs (moM m)),vL 6 (Qu.cs (moQ m)),.v .nilsl])] e) (@so (m) (t) ht haw hb ([]) (e) hN (by (simp only [List.length_nil]; omega))) ⟨⟨W,W,W,W,W,tVv⟩,⟨⟨W,W,W,W,W,W,tVv⟩,⟨W,W,W,W,W,Wq,tVv⟩,tVv⟩,rfl⟩,cl h1,cl h2,bt (if true=true then (r1==0)==(r2==0) else !(r1==0)==(r2==0)) (by assumption),cl haw,bt (if true=true then (r1==0)==(r2==0) else !(r1==0)==(r2==0)) (by assumption)]) func4
def soG(l:List Df)(t i:Nat):Df:=l.getD (Int.toNat (Int.tmod ((l.length:Int) - 1 - (i:Int)+(t:Int)) (l.length:Int))) default
theorem so_fx(m:Mo)(t:Nat):∀ (r:List Df) (i:Nat) (out:List Df),so_f m t r i out=out++(List.range' i r.length).map (soG (moF m) t)
 | [],i,out=>by simp [so_f]
 | x::r,i,out=>by
  rw [so_f,so_fx m t r (i+1)]
  simp [List.range'_succ,soG]
theorem soG_at(l:List Df)(t i:Nat)(h:i<l.length):soG l t i=(l.drop (t % l.length)++l.take (t % l.length)).getD (l.length - 1 - i) default:=by
 have e:Int.toNat (Int.tmod ((l.length:Int) - 1 - (i:Int)+(t:Int)) (l.length:Int))=(l.length - 1 - i+t) % l.length:=by
  have e1:((l.length:Int) - 1 - (i:Int)+(t:Int))=((l.length - 1 - i+t:Nat):Int):=by omega
  rw [e1,<-Int.ofNat_tmod,Int.toNat_natCast]
 unfold soG
 rw [e]
 have hr:t % l.length<l.length:=Nat.mod_lt _ oM
 have e2:(l.length - 1 - i+t) % l.length=(l.length - 1 - i+t % l.length) % l.length:=by rw [Nat.add_mod_mod]
 rw [e2]
 generalize t % l.length=r at hr
 by_cases h2:l.length - 1 - i<l.length - r
 ·rw [Nat.mod_eq_of_lt oM]
  simp only [List.getD,List.getElem?_append,List.length_drop,h2,if_true,List.getElem?_drop]
  rw [Nat.add_comm r]
 ·have e3:(l.length - 1 - i+r) % l.length=l.length - 1 - i - (l.length - r):=by
   rw [Nat.mod_eq_sub_mod oM,Nat.mod_eq_of_lt oM]; omega
  rw [e3]
  simp only [List.getD,List.getElem?_append,List.length_drop,h2,if_false]
  rw [List.getElem?_take_of_lt oM]
theorem so_all(m:Mo)(t:Nat):so_f m t (moF m) 0 []=((moF m).drop (t % (moF m).length)++(moF m).take (t % (moF m).length)).reverse:=by
 rw [so_fx,List.nil_append]
 have hl:((moF m).drop (t % (moF m).length)++(moF m).take (t % (moF m).length)).length=(moF m).length:=by simp; omega
 apply List.ext_getElem
 ·simp only [List.length_map,List.length_range',List.length_reverse,hl]
 ·intro i h1 h2
  simp only [List.length_map,List.length_range'] at h1
  simp only [List.getElem_map,List.getElem_range',List.getElem_reverse,Nat.zero_add,Nat.one_mul]
  rw [soG_at _ _ _ h1,List.getD_eq_getElem?_getD,List.getElem?_eq_getElem (by rw [hl]; omega)]
  simp only [Option.getD_some,hl]
theorem so_perm(m:Mo)(t:Nat):(moF m).Perm (so_f m t (moF m) 0 []):=by
 rw [so_all]
 have h1:=List.perm_append_comm (l₁:=(moF m).drop (t % (moF m).length)) (l₂:=(moF m).take (t % (moF m).length))
 rw [List.take_append_drop] at h1
 exact (h1.symm.trans (List.reverse_perm _).symm)
theorem dfs_perm{l l2:List Df}(h:l.Perm l2):bulkPss (Df.cs l)=bulkPss (Df.cs l2):=by
 induction h with
 | nil=>rfl
 | cons x _ ih=>simp only [Df.cs,bulkPss,ih]
 | swap x y l=>simp only [Df.cs,bulkPss]; omega
 | trans _ _ ih1 ih2=>exact ih1.trans ih2
def moW(m:Mo)(l:List Df):Mo := .mk (moD m) (moC m) (moI m) (moM m) (moQ m) l
theorem sz_ok(m:Mo)(hs:bulkPs (moL m)<=1048576):Sz m:=by
 have h0:=mo_bulk m
 have w1:=fun {d} (h:d∈moD m)=>Nat.le_trans (Da.mem h) (by omega:bulkPss (Da.cs (moD m))<=1048576)
 have w2:=fun {d} (h:d∈moC m)=>Nat.le_trans (Cl.mem h) (by omega:bulkPss (Cl.cs (moC m))<=1048576)
 have e1:=Da.bulk (moD m)
 have e2:=Cl.bulk (moC m)
 have e3:=Df.bulk (moF m)
 exact ⟨by omega,fun c hc=>by have:=w2 hc; have:=cl_bulk c; have:=Pm.bulk (clM c); omega,by omega,
  fun c hc p hp=>by have:=w2 hc; have:=cl_bulk c; have:=Pm.mem hp; have:=pm_bulk p; have:=tp_bulk (pmT p); have:=Tp.bulk (tpA (pmT p)); omega,
  by omega,fun c hc=>by have:=w1 hc; have:=da_bulk c; have:=Cn.bulk (daC c); omega⟩
theorem moL_W(m:Mo)(l:List Df):bulkPs (moL (moW m l))+bulkPss (Df.cs (moF m))=bulkPs (moL m)+bulkPss (Df.cs l):=by simp only [moW,moD,moC,moI,moM,moQ,moF,bulkPs,bulkP]; omega
theorem order_true(m:Mo)(t:Nat)(ht:t<256)(hs:bulkPs (moL m)<=1048576):Pu 4 [.agg (moL m),.int .u8 (t:Int)] (.ret (.bool true)):=by
 obtain ⟨b,hb⟩:=small_ok m hs
 cases b with
 | false=>exact oA m t awake_ok hb
 | true=>
  have hp:=so_perm m t
  have hs2:bulkPs (moL (moW m (so_f m t (moF m) 0 [])))<=1048576:=by have:=moL_W m (so_f m t (moF m) 0 []); have:=dfs_perm hp; omega
  have h1:=chkT m (sz_ok m hs) oM
  have h2:=chkT (moW m (so_f m t (moF m) 0 [])) (sz_ok _ hs2) oM
  have hM:∀m m2:Mo,moD m2=moD m->geM m2=geM m:=fun _ _ h=>geM_c h
  have e:moE geM m=0↔moE geM (moW m (so_f m t (moF m) 0 []))=0:=
   ⟨order geM hM rfl rfl rfl rfl rfl hp,order geM hM (m:=moW m (so_f m t (moF m) 0 [])) rfl rfl rfl rfl rfl hp.symm⟩
  refine oB m t ht awake_ok hb (by have:=mo_bulk m; have:=Df.bulk (moF m); omega) _ _ h1 h2 ?_
  by_cases h:moE geM m=0
  ·rw [h,e.1 h]; rfl
  ·have h':¬moE geM (moW m (so_f m t (moF m) 0 []))=0:=fun k=>h (e.2 k)
   rw [show (moE geM m==0)=false from beq_false_of_ne h,show (moE geM (moW m (so_f m t (moF m) 0 []))==0)=false from beq_false_of_ne h']
   rfl
theorem u8_nat{v:Int}(h:(Lit.int .u8 v).wf=true):∃t:Nat,v=(t:Int)/\t<256:=by
 have h1:IntKind.u8.min<=v/\v<=IntKind.u8.max:=by simpa [Lit.wf] using h
 have h2:IntKind.u8.min=0:=by decide
 have h3:IntKind.u8.max=255:=by decide
 exact ⟨v.toNat,by omega,by omega⟩
end Go.Proofs.YtmllcplaohkjnaaGreatDoor
