/- Values of Go as plain data, an evaluator over them, and what the functions of the program return; part Yf. -/
import Derived.Test.YtidabncghfbdaaaGreatDoorYe
import Derived.Test.YtidabncghfbdaaaGreatDoorYb
import Derived.Test.YtidabncghfbdaaaGreatDoorYd
import Derived.Test.YtidabncghfbdaaaGreatDoorYc
import Derived.Test.YtidabncghfbdaaaGreatDoorYa
set_option linter.unusedSectionVars false
set_option linter.unusedSimpArgs false
set_option linter.unusedVariables false
namespace Go.Proofs.YtidabncghfbdaaaGreatDoor
open Go.Proofs.Tryz
open Go.Pv
set_option maxRecDepth 100000
abbrev adP:PV := .fn (.func 59) [] [.xp 1 0,.xp 0 0]
abbrev pdP(m:Mo)(x:Ex)(s:Sc)(ll:List (List Pa)):PV := .fn (.func 62) [] [.ro [.sl 1 (qaC ll)] 0,.ro [adP] 0,.ro (moL m) 0,.ro (exL x) 0,.ro (scL s) 0,.xp 1 0,.xp 2 0]
abbrev pdA_I(m:Mo)(x:Ex)(s:Sc)(ll:List (List Pa))(n:Nat)(cs:List Pr)(ts:List Pr)(pg:Pa->List Pa->Bool->List Pa × Bool)(l0:List Pa)(f0:Bool)(j:Int)(l:List Pa)(f:Bool)  : S:=S.mk [(0,LV.v (PV.int IntKind.i64 (↑n:Int))),(1,LV.v (PV.sl 4 (Pr.cs cs))),(2,LV.v (PV.sl 4 (Pr.cs ts))),(8,LV.v (PV.xp 1 0)),(9,LV.v (PV.xp 2 0)),(33,LV.v (PV.sl 8 (Pa.cs (List.getD ll n [])))),(34,LV.v (PV.int IntKind.i64 (↑(List.length (List.getD ll n [])):Int))),(35,LV.v (PV.int IntKind.i64 j))] [] (paE l f (pdP m x s ll))
theorem pdA_b1(m:Mo)(x:Ex)(s:Sc)(ll:List (List Pa))(hLN:ll.length<=100000000)(n:Nat)(hnl:n<ll.length)(cs ts:List Pr)(hcN:cs.length<=100000000)(htN:ts.length<=100000000)(pg:Pa->List Pa->Bool->List Pa × Bool)(hwk:∀ (p:Pa) (l:List Pa) (f:Bool),p∈ll.getD n []->paI l f->(Ob.eff 62 [.int .i64 ((n:Int)+1),.sl 4 (Pr.cs cs++[prL (paC p)]),.sl 4 (Pr.cs ts++[prL (paT p)]),.ro [.sl 1 (qaC ll)] 0,.ro [adP] 0,.ro (moL m) 0,.ro (exL x) 0,.ro (scL s) 0,.xp 1 0,.xp 2 0] (paE l f (pdP m x s ll)) (.ret (.tup [])) (paE (pg p l f).1 (pg p l f).2 (pdP m x s ll))).ok Tryz.prog)(hpg:∀ (p:Pa) (l:List Pa) (f:Bool),paI l f->paI (pg p l f).1 (pg p l f).2)(l0:List Pa)(f0:Bool)(i:Nat)(l:List Pa)(f:Bool)(hi:i<List.length ((ll.getD n [])))(hN:List.length ((ll.getD n []))<=1000000000)(hv:(paI l f))(hx0:f=true)(cx:Cx)(hcx:cx.n=57){Q:PExit->S->Prop}(hq:Q (PExit.normal) (S.mk [(0,LV.v (PV.int IntKind.i64 (↑n:Int))),(1,LV.v (PV.sl 4 (Pr.cs cs))),(2,LV.v (PV.sl 4 (Pr.cs ts))),(8,LV.v (PV.xp 1 0)),(9,LV.v (PV.xp 2 0)),(33,LV.v (PV.sl 8 (Pa.cs (List.getD ll n [])))),(34,LV.v (PV.int IntKind.i64 (↑(List.length (List.getD ll n [])):Int))),(35,LV.v (PV.int IntKind.i64 ((↑i:Int)+1)))] [] [(0,[LV.uniq 98 8 (Pa.cs (Prod.fst (pg (List.getD (List.getD ll n []) i default) l f)))]),(1,[LV.v (PV.bool (Prod.snd (pg (List.getD (List.getD ll n []) i default) l f)))]),(2,[LV.v (PV.fn (Fn.func 62) [] [PV.ro [PV.sl 1 (qaC ll)] 0,PV.ro [PV.fn (Fn.func 59) [] [PV.xp 1 0,PV.xp 0 0]] 0,PV.ro (moL m) 0,PV.ro (exL x) 0,PV.ro [PV.fm (scK s) (scT s),PV.fm (scK s) (scP s)] 0,PV.xp 1 0,PV.xp 2 0])])])):PW Tryz.prog cx (loopF Tryz.f62 0) (pdA_I m x s ll n cs ts pg l0 f0 (↑i:Int) l f) Q:=
 PW_runK (mdPa) 57 50 [Ans.bit true,Ans.as_ (LV.v (PV.ro (paL (List.getD (List.getD ll n []) i default)) 0)),Ans.bit true,Ans.as_ (LV.v (PV.int IntKind.i64 ((↑n:Int)+1))),Ans.pur (CRes.own 46 4 (Pr.cs cs)),Ans.pur (CRes.own 46 4 (Pr.cs ts)),Ans.eff (CRes.ret (PV.tup [])) [(0,[LV.uniq 98 8 (Pa.cs (Prod.fst (pg (List.getD (List.getD ll n []) i default) l f)))]),(1,[LV.v (PV.bool (Prod.snd (pg (List.getD (List.getD ll n []) i default) l f)))]),(2,[LV.v (PV.fn (Fn.func 62) [] [PV.ro [PV.sl 1 (qaC ll)] 0,PV.ro [PV.fn (Fn.func 59) [] [PV.xp 1 0,PV.xp 0 0]] 0,PV.ro (moL m) 0,PV.ro (exL x) 0,PV.ro [PV.fm (scK s) (scT s),PV.fm (scK s) (scP s)] 0,PV.xp 1 0,PV.xp 2 0])])],Ans.as_ (LV.v (PV.int IntKind.i64 ((↑i:Int)+1)))] [0,1,2,8,9,33,34,35] [] (sc':=[]) (l:=[Ob.bit (decide ((↑i:Int)<(↑(List.length (List.getD ll n [])):Int))) true,Ob.bit (decide ((0:Int)<=(↑i:Int)/\(↑i:Int)<(↑(List.length (Pa.cs (List.getD ll n []))):Int))) true,Ob.eqv (LV.v (PV.ro (List.getD (Pa.cs (List.getD ll n [])) (Int.toNat (↑i:Int)) []) 0)) (LV.v (PV.ro (paL (List.getD (List.getD ll n []) i default)) 0)),Ob.bit f true,Ob.eqv (LV.v (PV.int IntKind.i64 (IntKind.wrap IntKind.i64 ((↑n:Int)+1)))) (LV.v (PV.int IntKind.i64 ((↑n:Int)+1))),Ob.pur 41 [PV.sl 4 (Pr.cs cs)] (CRes.own 46 4 (Pr.cs cs)),Ob.bit (decide (List.length (Pr.cs cs++(fun x=>Prod.snd x) (3+1,[prL (paC (List.getD (List.getD ll n []) i default))])) * (55+1)<=140737488355328)) true,Ob.pur 41 [PV.sl 4 (Pr.cs ts)] (CRes.own 46 4 (Pr.cs ts)),Ob.bit (decide (List.length (Pr.cs ts++(fun x=>Prod.snd x) (3+1,[prL (paT (List.getD (List.getD ll n []) i default))])) * (55+1)<=140737488355328)) true,Ob.eff 62 [PV.int IntKind.i64 ((↑n:Int)+1),PV.sl 4 (Pr.cs cs++[prL (paC (List.getD (List.getD ll n []) i default))]),PV.sl 4 (Pr.cs ts++[prL (paT (List.getD (List.getD ll n []) i default))]),PV.ro [PV.sl 1 (qaC ll)] 0,PV.ro [PV.fn (Fn.func 59) [] [PV.xp 1 0,PV.xp 0 0]] 0,PV.ro (moL m) 0,PV.ro (exL x) 0,PV.ro [PV.fm (scK s) (scT s),PV.fm (scK s) (scP s)] 0,PV.xp 1 0,PV.xp 2 0] [(0,[LV.uniq 98 8 (Pa.cs l)]),(1,[LV.v (PV.bool f)]),(2,[LV.v (PV.fn (Fn.func 62) [] [PV.ro [PV.sl 1 (qaC ll)] 0,PV.ro [PV.fn (Fn.func 59) [] [PV.xp 1 0,PV.xp 0 0]] 0,PV.ro (moL m) 0,PV.ro (exL x) 0,PV.ro [PV.fm (scK s) (scT s),PV.fm (scK s) (scP s)] 0,PV.xp 1 0,PV.xp 2 0])])] (CRes.ret (PV.tup [])) [(0,[LV.uniq 98 8 (Pa.cs (Prod.fst (pg (List.getD (List.getD ll n []) i default) l f)))]),(1,[LV.v (PV.bool (Prod.snd (pg (List.getD (List.getD ll n []) i default) l f)))]),(2,[LV.v (PV.fn (Fn.func 62) [] [PV.ro [PV.sl 1 (qaC ll)] 0,PV.ro [PV.fn (Fn.func 59) [] [PV.xp 1 0,PV.xp 0 0]] 0,PV.ro (moL m) 0,PV.ro (exL x) 0,PV.ro [PV.fm (scK s) (scT s),PV.fm (scK s) (scP s)] 0,PV.xp 1 0,PV.xp 2 0])])],Ob.eqv (LV.v (PV.int IntKind.i64 (IntKind.wrap IntKind.i64 ((↑i:Int)+1)))) (LV.v (PV.int IntKind.i64 ((↑i:Int)+1)))]) mixed hcx (by kernel_rfl) (by kernel_rfl) ⟨(ob_bit (dT (by omega))),(ob_bit (dT (by (simp only [List.length_nil,Pa.cs_len]; omega)))),(ob_eqv (by simp only [Int.toNat_natCast,Int.toNat_zero]; first | (rw [@Pa.cs_at (List.getD ll n []) (i) hi]; done) | (rw [@Pa.cs_at (List.getD ll n []) (i) hi]; rfl))),(ob_bit hx0),(ob_eqv (wrap64 (by omega) (by omega))),(@cloR (cs) (by omega)),(ob_bit (dT (by (simp only [List.length_append,List.length_cons,List.length_nil,Pr.cs_len]; omega)))),(@cloR (ts) (by omega)),(ob_bit (dT (by (simp only [List.length_append,List.length_cons,List.length_nil,Pr.cs_len]; omega)))),(@hwk (List.getD (List.getD ll n []) i default) (l) (f) (by simp_all [Bool.not_eq_true,Bool.not_eq_false,qaC_len,lu_s2]) hv),(ob_eqv (wrap64 (by omega) (by omega))),trivial⟩ hq
theorem pdA_b2(m:Mo)(x:Ex)(s:Sc)(ll:List (List Pa))(hLN:ll.length<=100000000)(n:Nat)(hnl:n<ll.length)(cs ts:List Pr)(hcN:cs.length<=100000000)(htN:ts.length<=100000000)(pg:Pa->List Pa->Bool->List Pa × Bool)(hwk:∀ (p:Pa) (l:List Pa) (f:Bool),p∈ll.getD n []->paI l f->(Ob.eff 62 [.int .i64 ((n:Int)+1),.sl 4 (Pr.cs cs++[prL (paC p)]),.sl 4 (Pr.cs ts++[prL (paT p)]),.ro [.sl 1 (qaC ll)] 0,.ro [adP] 0,.ro (moL m) 0,.ro (exL x) 0,.ro (scL s) 0,.xp 1 0,.xp 2 0] (paE l f (pdP m x s ll)) (.ret (.tup [])) (paE (pg p l f).1 (pg p l f).2 (pdP m x s ll))).ok Tryz.prog)(hpg:∀ (p:Pa) (l:List Pa) (f:Bool),paI l f->paI (pg p l f).1 (pg p l f).2)(l0:List Pa)(f0:Bool)(i:Nat)(l:List Pa)(f:Bool)(hi:i<List.length ((ll.getD n [])))(hN:List.length ((ll.getD n []))<=1000000000)(hv:(paI l f))(hx0:f=false)(cx:Cx)(hcx:cx.n=57){Q:PExit->S->Prop}(hq:Q (PExit.normal) (S.mk [(0,LV.v (PV.int IntKind.i64 (↑n:Int))),(1,LV.v (PV.sl 4 (Pr.cs cs))),(2,LV.v (PV.sl 4 (Pr.cs ts))),(8,LV.v (PV.xp 1 0)),(9,LV.v (PV.xp 2 0)),(33,LV.v (PV.sl 8 (Pa.cs (List.getD ll n [])))),(34,LV.v (PV.int IntKind.i64 (↑(List.length (List.getD ll n [])):Int))),(35,LV.v (PV.int IntKind.i64 ((↑i:Int)+1)))] [] [(0,[LV.uniq 98 8 (Pa.cs l)]),(1,[LV.v (PV.bool f)]),(2,[LV.v (PV.fn (Fn.func 62) [] [PV.ro [PV.sl 1 (qaC ll)] 0,PV.ro [PV.fn (Fn.func 59) [] [PV.xp 1 0,PV.xp 0 0]] 0,PV.ro (moL m) 0,PV.ro (exL x) 0,PV.ro [PV.fm (scK s) (scT s),PV.fm (scK s) (scP s)] 0,PV.xp 1 0,PV.xp 2 0])])])):PW Tryz.prog cx (loopF Tryz.f62 0) (pdA_I m x s ll n cs ts pg l0 f0 (↑i:Int) l f) Q:=
 PW_runK (mdPa) 57 50 [Ans.bit true,Ans.as_ (LV.v (PV.ro (paL (List.getD (List.getD ll n []) i default)) 0)),Ans.bit false,Ans.as_ (LV.v (PV.int IntKind.i64 ((↑i:Int)+1)))] [0,1,2,8,9,33,34,35] [] (sc':=[]) (l:=[Ob.bit (decide ((↑i:Int)<(↑(List.length (List.getD ll n [])):Int))) true,Ob.bit (decide ((0:Int)<=(↑i:Int)/\(↑i:Int)<(↑(List.length (Pa.cs (List.getD ll n []))):Int))) true,Ob.eqv (LV.v (PV.ro (List.getD (Pa.cs (List.getD ll n [])) (Int.toNat (↑i:Int)) []) 0)) (LV.v (PV.ro (paL (List.getD (List.getD ll n []) i default)) 0)),Ob.bit f false,Ob.eqv (LV.v (PV.int IntKind.i64 (IntKind.wrap IntKind.i64 ((↑i:Int)+1)))) (LV.v (PV.int IntKind.i64 ((↑i:Int)+1)))]) mixed hcx (by kernel_rfl) (by kernel_rfl) ⟨(ob_bit (dT (by omega))),(ob_bit (dT (by (simp only [List.length_nil,Pa.cs_len]; omega)))),(ob_eqv (by simp only [Int.toNat_natCast,Int.toNat_zero]; first | (rw [@Pa.cs_at (List.getD ll n []) (i) hi]; done) | (rw [@Pa.cs_at (List.getD ll n []) (i) hi]; rfl))),(ob_bit hx0),(ob_eqv (wrap64 (by omega) (by omega))),trivial⟩ hq
theorem pdA_z1(m:Mo)(x:Ex)(s:Sc)(ll:List (List Pa))(hLN:ll.length<=100000000)(n:Nat)(hnl:n<ll.length)(cs ts:List Pr)(hcN:cs.length<=100000000)(htN:ts.length<=100000000)(pg:Pa->List Pa->Bool->List Pa × Bool)(hwk:∀ (p:Pa) (l:List Pa) (f:Bool),p∈ll.getD n []->paI l f->(Ob.eff 62 [.int .i64 ((n:Int)+1),.sl 4 (Pr.cs cs++[prL (paC p)]),.sl 4 (Pr.cs ts++[prL (paT p)]),.ro [.sl 1 (qaC ll)] 0,.ro [adP] 0,.ro (moL m) 0,.ro (exL x) 0,.ro (scL s) 0,.xp 1 0,.xp 2 0] (paE l f (pdP m x s ll)) (.ret (.tup [])) (paE (pg p l f).1 (pg p l f).2 (pdP m x s ll))).ok Tryz.prog)(hpg:∀ (p:Pa) (l:List Pa) (f:Bool),paI l f->paI (pg p l f).1 (pg p l f).2)(l0:List Pa)(f0:Bool)(i:Nat)(l:List Pa)(f:Bool)(hi:i=List.length ((ll.getD n [])))(hN:List.length ((ll.getD n []))<=1000000000)(hv:(paI l f))(cx:Cx)(hcx:cx.n=57){Q:PExit->S->Prop}(hq:Q (PExit.exit 0) (S.mk [(0,LV.v (PV.int IntKind.i64 (↑n:Int))),(1,LV.v (PV.sl 4 (Pr.cs cs))),(2,LV.v (PV.sl 4 (Pr.cs ts))),(8,LV.v (PV.xp 1 0)),(9,LV.v (PV.xp 2 0)),(33,LV.v (PV.sl 8 (Pa.cs (List.getD ll n [])))),(34,LV.v (PV.int IntKind.i64 (↑(List.length (List.getD ll n [])):Int))),(35,LV.v (PV.int IntKind.i64 (↑i:Int)))] [] [(0,[LV.uniq 98 8 (Pa.cs l)]),(1,[LV.v (PV.bool f)]),(2,[LV.v (PV.fn (Fn.func 62) [] [PV.ro [PV.sl 1 (qaC ll)] 0,PV.ro [PV.fn (Fn.func 59) [] [PV.xp 1 0,PV.xp 0 0]] 0,PV.ro (moL m) 0,PV.ro (exL x) 0,PV.ro [PV.fm (scK s) (scT s),PV.fm (scK s) (scP s)] 0,PV.xp 1 0,PV.xp 2 0])])])):PW Tryz.prog cx (loopF Tryz.f62 0) (pdA_I m x s ll n cs ts pg l0 f0 (↑i:Int) l f) Q:=
 PW_runK (mdPa) 57 50 [Ans.bit false] [0,1,2,8,9,33,34,35] [] (sc':=[]) (l:=[Ob.bit (decide ((↑i:Int)<(↑(List.length (List.getD ll n [])):Int))) false]) mixed hcx (by kernel_rfl) (by kernel_rfl) ⟨(ob_bit (dF (by omega))),trivial⟩ hq
def pdA_f(pg:Pa->List Pa->Bool->List Pa × Bool):List Pa->(List Pa)->(Bool)->(List Pa) × (Bool)
 | [],l,f=>(l,f)
 | el::r,l,f=>(if f=true then pdA_f pg r (Prod.fst (pg el l f)) (Prod.snd (pg el l f)) else pdA_f pg r (l) (f))
noncomputable def pdA_q (m:Mo) (x:Ex) (s:Sc) (ll:List (List Pa)) (n:Nat) (cs:List Pr) (ts:List Pr) (pg:Pa->List Pa->Bool->List Pa × Bool) (l0:List Pa) (f0:Bool)  (p:(List Pa) × (Bool)):PExit × S:=(PExit.exit 0,S.mk [(0,LV.v (PV.int IntKind.i64 (↑n:Int))),(1,LV.v (PV.sl 4 (Pr.cs cs))),(2,LV.v (PV.sl 4 (Pr.cs ts))),(8,LV.v (PV.xp 1 0)),(9,LV.v (PV.xp 2 0)),(33,LV.v (PV.sl 8 (Pa.cs (List.getD ll n [])))),(34,LV.v (PV.int IntKind.i64 (↑(List.length (List.getD ll n [])):Int)))] [] [(0,[LV.uniq 98 8 (Pa.cs (Prod.fst p))]),(1,[LV.v (PV.bool (Prod.snd p))]),(2,[LV.v (PV.fn (Fn.func 62) [] [PV.ro [PV.sl 1 (qaC ll)] 0,PV.ro [PV.fn (Fn.func 59) [] [PV.xp 1 0,PV.xp 0 0]] 0,PV.ro (moL m) 0,PV.ro (exL x) 0,PV.ro [PV.fm (scK s) (scT s),PV.fm (scK s) (scP s)] 0,PV.xp 1 0,PV.xp 2 0])])])
theorem pdA_lp(m:Mo)(x:Ex)(s:Sc)(ll:List (List Pa))(hLN:ll.length<=100000000)(n:Nat)(hnl:n<ll.length)(cs ts:List Pr)(hcN:cs.length<=100000000)(htN:ts.length<=100000000)(pg:Pa->List Pa->Bool->List Pa × Bool)(hwk:∀ (p:Pa) (l:List Pa) (f:Bool),p∈ll.getD n []->paI l f->(Ob.eff 62 [.int .i64 ((n:Int)+1),.sl 4 (Pr.cs cs++[prL (paC p)]),.sl 4 (Pr.cs ts++[prL (paT p)]),.ro [.sl 1 (qaC ll)] 0,.ro [adP] 0,.ro (moL m) 0,.ro (exL x) 0,.ro (scL s) 0,.xp 1 0,.xp 2 0] (paE l f (pdP m x s ll)) (.ret (.tup [])) (paE (pg p l f).1 (pg p l f).2 (pdP m x s ll))).ok Tryz.prog)(hpg:∀ (p:Pa) (l:List Pa) (f:Bool),paI l f->paI (pg p l f).1 (pg p l f).2)(l0:List Pa)(f0:Bool)(hN:List.length ((ll.getD n []))<=1000000000)(i:Nat)(l:List Pa)(f:Bool)(hi0:i<=List.length ((ll.getD n [])))(hv:(paI l f)):(Ob.loop 57 (loopF Tryz.f62 0) (pdA_I m x s ll n cs ts pg l0 f0 (i:Int) l f) (pdA_q m x s ll n cs ts pg l0 f0  (pdA_f pg (List.drop i ((ll.getD n [])))  l f)).1 (pdA_q m x s ll n cs ts pg l0 f0  (pdA_f pg (List.drop i ((ll.getD n [])))  l f)).2).ok Tryz.prog:=by
 refine Ob.loop_of (P:=Tryz.prog) (α:={ zz:Nat × (List Pa) × (Bool) // zz.1<=List.length ((ll.getD n []))/\(fun (i:Nat) (l:List Pa) (f:Bool)=>(paI l f)) zz.1 zz.2.1 zz.2.2 }) (fun zz=>pdA_I m x s ll n cs ts pg l0 f0 (zz.1.1:Int) zz.1.2.1 zz.1.2.2) (fun zz=>List.length ((ll.getD n [])) - zz.1.1) (fun zz=>(pdA_q m x s ll n cs ts pg l0 f0  (pdA_f pg (List.drop zz.1.1 ((ll.getD n [])))  zz.1.2.1 zz.1.2.2))) ?_ ⟨(i,l,f),hi0,hv⟩
 clear hi0 hv
 clear l f i
 rintro ⟨⟨i,l,f⟩,hi,hv⟩ cx hcx
 simp only at hi hv ⊢
 rcases Nat.lt_or_ge i (List.length ((ll.getD n []))) with hlt | hge
 ·have hd:=drop_at hlt
  by_cases h0:f=true
  ·have hr:(pdA_f pg (List.drop i ((ll.getD n [])))  l f)=(pdA_f pg (List.drop (i+1) ((ll.getD n [])))  (Prod.fst (pg (List.getD (List.getD ll n []) i default) l f)) (Prod.snd (pg (List.getD (List.getD ll n []) i default) l f))):=by rw [hd,pdA_f,if_pos h0]
   exact pdA_b1 m x s ll hLN n hnl cs ts hcN htN pg hwk hpg l0 f0 i l f  hlt hN hv h0 cx hcx (.inl ⟨rfl,⟨((i+1),(Prod.fst (pg (List.getD (List.getD ll n []) i default) l f)),(Prod.snd (pg (List.getD (List.getD ll n []) i default) l f))),by simp only; omega,(by first | assumption | omega | (apply gPa <;> first | assumption | omega | decide) | (simp only [List.length_append,List.length_cons,List.length_nil] at *; omega) | simp_all)⟩,by simp only; omega,⟨⟨WL.r,WL.r,WL.r,WL.r,WL.r,WL.r,WL.r,WL.r,trivial⟩,trivial,(by first | rfl | (simp only [List.nil_append,nmsC_app,nmsC_snoc,Pr.cs_snoc,Tp.cs_snoc,Ex.cs_snoc,Vr.cs_snoc,Df.cs_snoc,Pa.cs_snoc,qaC_snoc]; done) | (simp only [List.nil_append,nmsC_app,nmsC_snoc,Pr.cs_snoc,Tp.cs_snoc,Ex.cs_snoc,Vr.cs_snoc,Df.cs_snoc,Pa.cs_snoc,qaC_snoc]; rfl))⟩,by simp only; rw [hr]⟩)
  ·have hr:(pdA_f pg (List.drop i ((ll.getD n [])))  l f)=(pdA_f pg (List.drop (i+1) ((ll.getD n [])))  (l) (f)):=by rw [hd,pdA_f,if_neg h0]
   exact pdA_b2 m x s ll hLN n hnl cs ts hcN htN pg hwk hpg l0 f0 i l f  hlt hN hv (bFT h0) cx hcx (.inl ⟨rfl,⟨((i+1),(l),(f)),by simp only; omega,(by first | assumption | omega | (apply gPa <;> first | assumption | omega | decide) | (simp only [List.length_append,List.length_cons,List.length_nil] at *; omega) | simp_all)⟩,by simp only; omega,⟨⟨WL.r,WL.r,WL.r,WL.r,WL.r,WL.r,WL.r,WL.r,trivial⟩,trivial,(by first | rfl | (simp only [List.nil_append,nmsC_app,nmsC_snoc,Pr.cs_snoc,Tp.cs_snoc,Ex.cs_snoc,Vr.cs_snoc,Df.cs_snoc,Pa.cs_snoc,qaC_snoc]; done) | (simp only [List.nil_append,nmsC_app,nmsC_snoc,Pr.cs_snoc,Tp.cs_snoc,Ex.cs_snoc,Vr.cs_snoc,Df.cs_snoc,Pa.cs_snoc,qaC_snoc]; rfl))⟩,by simp only; rw [hr]⟩)
 ·have he:i=List.length ((ll.getD n [])):=by omega
  subst he
  have hr:(pdA_f pg (List.drop (List.length ((ll.getD n []))) ((ll.getD n [])))  l f)=(l,f):=by rw [List.drop_length,pdA_f]
  refine pdA_z1 m x s ll hLN n hnl cs ts hcN htN pg hwk hpg l0 f0 (List.length ((ll.getD n []))) l f  rfl hN hv  cx hcx (.inr ?_)
  rw [hr]
  exact ⟨by simp,rfl,⟨⟨WL.r,WL.r,WL.r,WL.r,WL.r,WL.r,WL.r,trivial⟩,trivial,rfl⟩⟩
theorem pdA(m:Mo)(x:Ex)(s:Sc)(ll:List (List Pa))(hLN:ll.length<=100000000)(n:Nat)(hnl:n<ll.length)(cs ts:List Pr)(hcN:cs.length<=100000000)(htN:ts.length<=100000000)(pg:Pa->List Pa->Bool->List Pa × Bool)(hwk:∀ (p:Pa) (l:List Pa) (f:Bool),p∈ll.getD n []->paI l f->(Ob.eff 62 [.int .i64 ((n:Int)+1),.sl 4 (Pr.cs cs++[prL (paC p)]),.sl 4 (Pr.cs ts++[prL (paT p)]),.ro [.sl 1 (qaC ll)] 0,.ro [adP] 0,.ro (moL m) 0,.ro (exL x) 0,.ro (scL s) 0,.xp 1 0,.xp 2 0] (paE l f (pdP m x s ll)) (.ret (.tup [])) (paE (pg p l f).1 (pg p l f).2 (pdP m x s ll))).ok Tryz.prog)(hpg:∀ (p:Pa) (l:List Pa) (f:Bool),paI l f->paI (pg p l f).1 (pg p l f).2)(l0:List Pa)(f0:Bool)(l:List Pa)(f:Bool)(hN:List.length ((ll.getD n []))<=1000000000)(hv:paI l f):(Ob.loop 57 (loopF Tryz.f62 0) (pdA_I m x s ll n cs ts pg l0 f0 0 l f) (pdA_q m x s ll n cs ts pg l0 f0  (pdA_f pg ((ll.getD n []))  l f)).1 (pdA_q m x s ll n cs ts pg l0 f0  (pdA_f pg ((ll.getD n []))  l f)).2).ok Tryz.prog:=by
 have:=pdA_lp m x s ll hLN n hnl cs ts hcN htN pg hwk hpg l0 f0  hN 0 l f (Nat.zero_le _) hv
 rw [List.drop_zero] at this
 exact this
open Go.Pv Go.Proofs.Tryz
theorem pdT(m:Mo)(x:Ex)(s:Sc)(ll:List (List Pa))(hLN:ll.length<=100000000)(n:Nat)(hnl:n<ll.length)(cs ts:List Pr)(hcN:cs.length<=100000000)(htN:ts.length<=100000000)(pg:Pa->List Pa->Bool->List Pa × Bool)(hwk:∀ (p:Pa) (l:List Pa) (f:Bool),p∈ll.getD n []->paI l f->Ef 62 [.int .i64 ((n:Int)+1),.sl 4 (Pr.cs cs++[prL (paC p)]),.sl 4 (Pr.cs ts++[prL (paT p)]),.ro [.sl 1 (qaC ll)] 0,.ro [adP] 0,.ro (moL m) 0,.ro (exL x) 0,.ro (scL s) 0,.xp 1 0,.xp 2 0] (paE l f (pdP m x s ll)) (.ret (.tup [])) (paE (pg p l f).1 (pg p l f).2 (pdP m x s ll)))(hpg:∀ (p:Pa) (l:List Pa) (f:Bool),paI l f->paI (pg p l f).1 (pg p l f).2)(l:List Pa)(f:Bool)(hN:List.length ((ll.getD n []))<=1000000000)(hv:paI l f):(Ob.loop 57 (loopF f62 0) (pdA_I m x s ll n cs ts pg l f 0 l f) (pdA_q m x s ll n cs ts pg l f (pdA_f pg ((ll.getD n [])) l f)).1 (pdA_q m x s ll n cs ts pg l f (pdA_f pg ((ll.getD n [])) l f)).2).ok prog:=pdA m x s ll hLN n hnl cs ts hcN htN pg hwk hpg l f l f hN hv
section
variable (m:Mo) (x:Ex) (s:Sc) (ll:List (List Pa)) (hLN:ll.length<=100000000)
include m x s ll hLN
theorem pdZ(cs ts:List Pr)(hcs:∀w:Pr,w∈cs->prS w)(hcN:cs.length<=1000000000)(htN:ts.length<=1000000000)(nd:Pr)(hnd:Pu 63 [.agg (moL m),.agg (exL x),.agg (scL s),.sl 4 (Pr.cs ts)] (.ret (.agg (prL nd))))(l:List Pa)(f:Bool)(hv:paI l f):Ef 62 [pI (ll.length:Int),.sl 4 (Pr.cs cs),.sl 4 (Pr.cs ts),.ro [.sl 1 (qaC ll)] 0,.ro [adP] 0,.ro (moL m) 0,.ro (exL x) 0,.ro (scL s) 0,.xp 1 0,.xp 2 0] (paE l f (pdP m x s ll)) (.ret (.tup [])) ([(0,[.uniq 98 8 (Pa.cs (adL (Pa.mk (andF cs) nd) l f))]),(1,[.v (.bool (adB l f))]),(2,[.v (.fn (.func 62) [] [.ro [.sl 1 (qaC ll)] 0,.ro [.fn (.func 59) [] [.xp 1 0,.xp 0 0]] 0,.ro (moL m) 0,.ro (exL x) 0,.ro [PV.fm (scK s) (scT s),PV.fm (scK s) (scP s)] 0,.xp 1 0,.xp 2 0])])]):=
 ef mdPa [sl (qaC_len ll),et (ll.length:Int) (ll.length:Int),cl (@anT cs hcs hcN),cl (@cloR ts htN),cl hnd,ce (@adQ2 (andF cs) nd l f (.fn (.func 62) [] [.ro [.sl 1 (qaC ll)] 0,.ro [.fn (.func 59) [] [.xp 1 0,.xp 0 0]] 0,.ro (moL m) 0,.ro (exL x) 0,.ro [PV.fm (scK s) (scT s),PV.fm (scK s) (scP s)] 0,.xp 1 0,.xp 2 0]) hv)] func62
theorem pdW(n:Nat)(hnl:n<ll.length)(hqN:(ll.getD n []).length<=1000000000)(cs ts:List Pr)(hcN:cs.length<=100000000)(htN:ts.length<=100000000)(pg:Pa->List Pa->Bool->List Pa × Bool)(hwk:∀ (p:Pa) (l:List Pa) (f:Bool),p∈ll.getD n []->paI l f->Ef 62 [.int .i64 ((n:Int)+1),.sl 4 (Pr.cs cs++[prL (paC p)]),.sl 4 (Pr.cs ts++[prL (paT p)]),.ro [.sl 1 (qaC ll)] 0,.ro [adP] 0,.ro (moL m) 0,.ro (exL x) 0,.ro (scL s) 0,.xp 1 0,.xp 2 0] (paE l f (pdP m x s ll)) (.ret (.tup [])) (paE (pg p l f).1 (pg p l f).2 (pdP m x s ll)))(hpg:∀ (p:Pa) (l:List Pa) (f:Bool),paI l f->paI (pg p l f).1 (pg p l f).2)(l:List Pa)(f:Bool)(hv:paI l f):Ef 62 [pI (n:Int),.sl 4 (Pr.cs cs),.sl 4 (Pr.cs ts),.ro [.sl 1 (qaC ll)] 0,.ro [adP] 0,.ro (moL m) 0,.ro (exL x) 0,.ro (scL s) 0,.xp 1 0,.xp 2 0] (paE l f (pdP m x s ll)) (.ret (.tup [])) ([(0,[.uniq 98 8 (Pa.cs (Prod.fst (pdA_f pg (List.getD ll n []) l f)))]),(1,[.v (.bool (Prod.snd (pdA_f pg (List.getD ll n []) l f)))]),(2,[.v (.fn (.func 62) [] [.ro [.sl 1 (qaC ll)] 0,.ro [.fn (.func 59) [] [.xp 1 0,.xp 0 0]] 0,.ro (moL m) 0,.ro (exL x) 0,.ro [PV.fm (scK s) (scT s),PV.fm (scK s) (scP s)] 0,.xp 1 0,.xp 2 0])])]):=
 ef mdPa [sl (qaC_len ll),en (n:Int) (ll.length:Int),am ((0:Int)<=(n:Int)/\(n:Int)<((qaC ll).length:Int)) (by (simp only [qaC_len]; omega)),ar (List.getD (qaC ll) (Int.toNat (n:Int)) []) [.sl 8 (Pa.cs (List.getD ll n []))] (by simp only [Int.toNat_natCast,Int.toNat_zero]; rw [@qaC_at (ll) (n) hnl]; try rfl),ai (↑((fun x=>List.length (Prod.snd x)) (8,Pa.cs (List.getD ll n []))):Int) ((List.getD ll n []).length:Int) (by (simp only [List.length_nil,Pa.cs_len]; done)),lq (@pdT m x s ll hLN n hnl cs ts hcN htN pg hwk hpg l f hqN hv)] func62
end
theorem kaT(m:Mo)(x:Ex)(s:Sc)(pk:Ex->List Pa × Bool)(hk:∀ (w:Ex) (l:List Pa) (f:Bool),w∈exK x->Ef 60 [.agg (exL w),.agg (scL s),.xp 1 0,.ro (moL m) 0] (paE l f .nilfn) (.ret (.sl 8 (Pa.cs (inK f (pk w).1)))) (paE l (f&&(pk w).2) .nilfn))(lo:List Pa)(hlo:lo.length=0)(l1:List (List Pa))(f1:Bool)(hN:(exK x).length<=1000000000)(hka:kaA_f pk (exK x) [] true=(l1,f1)):(Ob.loop 201 (loopF f28 5) ⟨[(3,.v (.ro (moL m) 0)),(4,.lp 4 0),(5,.lp 5 0),(8,.v (.xp 0 0)),(9,.v (.xp 1 0)),(10,.v (.xp 2 0)),(11,.lp 11 0),(12,inX m),(25,.lp 25 0),(33,.v (.sl 7 (Ex.cs (exK x)))),(34,.v (.int .i64 ((exK x).length:Int))),(35,.v (.int .i64 0))],[(4,exV x),(5,scV s),(11,[adX]),(25,[.v .nilsl])],paN true .nilfn⟩ (kaA_q m x s pk lo [] true (l1,f1)).1 (kaA_q m x s pk lo [] true (l1,f1)).2).ok prog:=by
 cases lo with
 | cons a r=>simp at hlo
 | nil=>
  have:=kaA m x s pk hk [] [] true [] true hN sM
  rw [hka] at this
  intro cx hcx
  refine PW.le ?_ (this cx hcx)
  exact (⟨⟨W,W,W,W,W,W,W,W,W,W,W,W,tVv⟩,⟨WLs.refl _,WLs.refl _,WLs.refl _,⟨.inr rfl,tVv⟩,tVv⟩,⟨⟨.inr rfl,tVv⟩,WLs.refl _,WLs.refl _,tVv⟩,Nat.le_refl _⟩)
theorem ptD(m:Mo)(x:Ex)(s:Sc)(hop1:¬exO x=1)(hop2:¬exO x=2)(hop3:¬exO x=3)(hop8:¬exO x=8)(hop7:¬exO x=7)(hN:(exK x).length<=1000000000)(pk:Ex->List Pa × Bool)(hk:∀ (w:Ex) (l:List Pa) (f:Bool),w∈exK x->Ef 60 [.agg (exL w),.agg (scL s),.xp 1 0,.ro (moL m) 0] (paE l f .nilfn) (.ret (.sl 8 (Pa.cs (inK f (pk w).1)))) (paE l (f&&(pk w).2) .nilfn))(lo:List Pa)(hlo:lo.length=0)(l1:List (List Pa))(f1:Bool)(hka:kaA_f pk (exK x) [] true=(l1,f1))(l2:List Pa)(f2:Bool)(hpd:Ef 62 [.int .i64 0,.nilsl,.nilsl,.ro [.sl 1 (qaC l1)] 0,.ro [adP] 0,.ro (moL m) 0,.ro (exL x) 0,.ro (scL s) 0,.xp 1 0,.xp 2 0] (paE lo f1 (pdP m x s l1)) (.ret (.tup [])) (paE l2 f2 (pdP m x s l1))):Ef 28 [.agg (moL m),.agg (exL x),.agg (scL s)] ([]) (.ret (.tup [.sl 8 (Pa.cs l2),.bool f2])) ([(0,[vL 8 (Pa.cs l2)]),(1,[.v (.bool f2)]),(2,[.v (.fn (.func 62) [] [.ro [.sl 1 (qaC l1)] 0,.ro [.fn (.func 59) [] [.xp 1 0,.xp 0 0]] 0,.ro (moL m) 0,.ro (exL x) 0,.ro [PV.fm (scK s) (scT s),PV.fm (scK s) (scP s)] 0,.xp 1 0,.xp 2 0])])]):=
 Ob.eff_of (mdPa) 50 [Ans.bit false,Ans.bit false,Ans.bit false,Ans.bit false,Ans.bit false,Ans.as_ (vI6 ((exK x).length:Int)),Ans.loop (S.mk [(3,.v (.ro (moL m) 0)),(4,.lp 4 0),(5,.lp 5 0),(8,.v (.xp 0 0)),(9,.v (.xp 1 0)),(10,.v (.xp 2 0)),(11,.lp 11 0),(12,.v (.fn (.func 60) [] [.xp 1 0,.ro (moL m) 0])),(25,.lp 25 0),(33,vL 7 (Ex.cs (exK x))),(34,vI6 ((exK x).length:Int)),(35,vI6 0)] [(4,exV x),(5,[.v (PV.fm (scK s) (scT s)),.v (PV.fm (scK s) (scP s))]),(11,[.v (.fn (.func 59) [] [.xp 1 0,.xp 0 0])]),(25,[.v .nilsl])] [(0,[.v .nilsl]),(1,[.v (.bool true)]),(2,[.v PV.nilfn])]) (.exit 1) (S.mk [(3,.v (.ro (moL m) 0)),(4,.lp 4 0),(5,.lp 5 0),(8,.v (.xp 0 0)),(9,.v (.xp 1 0)),(10,.v (.xp 2 0)),(11,.lp 11 0),(12,.v (.fn (.func 60) [] [.xp 1 0,.ro (moL m) 0])),(25,.lp 25 0),(33,vL 7 (Ex.cs (exK x))),(34,vI6 ((exK x).length:Int))] [(4,exV x),(5,[.v (PV.fm (scK s) (scT s)),.v (PV.fm (scK s) (scP s))]),(11,[.v (.fn (.func 59) [] [.xp 1 0,.xp 0 0])]),(25,[.uniq 94 1 (qaC l1)])] [(0,[.uniq 98 8 (Pa.cs lo)]),(1,[.v (.bool (Prod.snd (l1,f1)))]),(2,[.v PV.nilfn])]),Ans.eff (.ret (.tup [])) [(0,[.uniq 98 8 (Pa.cs l2)]),(1,[.v (.bool f2)]),(2,[.v (.fn (.func 62) [] [.ro [.sl 1 (qaC l1)] 0,.ro [.fn (.func 59) [] [.xp 1 0,.xp 0 0]] 0,.ro (moL m) 0,.ro (exL x) 0,.ro [PV.fm (scK s) (scT s),PV.fm (scK s) (scP s)] 0,.xp 1 0,.xp 2 0])])]] (sc':=[]) (l:=[Ob.bit (exO x==1) false,Ob.bit (exO x==2) false,Ob.bit (exO x==3) false,Ob.bit (exO x==8) false,Ob.bit (exO x==7) false,Ob.eqv (vI6 (↑((fun x=>List.length (Prod.snd x)) (7,Ex.cs (exK x))):Int)) (vI6 ((exK x).length:Int)),Ob.le (S.mk [(3,.v (.ro (moL m) 0)),(4,.lp 4 0),(5,.lp 5 0),(8,.v (.xp 0 0)),(9,.v (.xp 1 0)),(10,.v (.xp 2 0)),(11,.lp 11 0),(12,.v (.fn (.func 60) [] [.xp 1 0,.ro (moL m) 0])),(25,.lp 25 0),(33,vL 7 (Ex.cs (exK x))),(34,vI6 ((exK x).length:Int)),(35,vI6 0)] [(4,exV x),(5,[.v (PV.fm (scK s) (scT s)),.v (PV.fm (scK s) (scP s))]),(11,[.v (.fn (.func 59) [] [.xp 1 0,.xp 0 0])]),(25,[.v .nilsl])] [(0,[.v .nilsl]),(1,[.v (.bool true)]),(2,[.v PV.nilfn])]) (S.mk [(3,.v (.ro (moL m) 0)),(4,.lp 4 0),(5,.lp 5 0),(8,.v (.xp 0 0)),(9,.v (.xp 1 0)),(10,.v (.xp 2 0)),(11,.lp 11 0),(12,.v (.fn (.func 60) [] [.xp 1 0,.ro (moL m) 0])),(25,.lp 25 0),(33,vL 7 (Ex.cs (exK x))),(34,vI6 ((exK x).length:Int)),(35,vI6 0)] [(4,exV x),(5,[.v (PV.fm (scK s) (scT s)),.v (PV.fm (scK s) (scP s))]),(11,[.v (.fn (.func 59) [] [.xp 1 0,.xp 0 0])]),(25,[.v .nilsl])] [(0,[.v .nilsl]),(1,[.v (.bool true)]),(2,[.v PV.nilfn])]),Ob.loop (Func.ntmps f28) (loopF f28 5) (S.mk [(3,.v (.ro (moL m) 0)),(4,.lp 4 0),(5,.lp 5 0),(8,.v (.xp 0 0)),(9,.v (.xp 1 0)),(10,.v (.xp 2 0)),(11,.lp 11 0),(12,.v (.fn (.func 60) [] [.xp 1 0,.ro (moL m) 0])),(25,.lp 25 0),(33,vL 7 (Ex.cs (exK x))),(34,vI6 ((exK x).length:Int)),(35,vI6 0)] [(4,exV x),(5,[.v (PV.fm (scK s) (scT s)),.v (PV.fm (scK s) (scP s))]),(11,[.v (.fn (.func 59) [] [.xp 1 0,.xp 0 0])]),(25,[.v .nilsl])] [(0,[.v .nilsl]),(1,[.v (.bool true)]),(2,[.v PV.nilfn])]) (.exit 1) (S.mk [(3,.v (.ro (moL m) 0)),(4,.lp 4 0),(5,.lp 5 0),(8,.v (.xp 0 0)),(9,.v (.xp 1 0)),(10,.v (.xp 2 0)),(11,.lp 11 0),(12,.v (.fn (.func 60) [] [.xp 1 0,.ro (moL m) 0])),(25,.lp 25 0),(33,vL 7 (Ex.cs (exK x))),(34,vI6 ((exK x).length:Int))] [(4,exV x),(5,[.v (PV.fm (scK s) (scT s)),.v (PV.fm (scK s) (scP s))]),(11,[.v (.fn (.func 59) [] [.xp 1 0,.xp 0 0])]),(25,[.uniq 94 1 (qaC l1)])] [(0,[.uniq 98 8 (Pa.cs lo)]),(1,[.v (.bool (Prod.snd (l1,f1)))]),(2,[.v PV.nilfn])]),Ob.eff 62 [pI 0,.nilsl,.nilsl,.ro [.sl 1 (qaC l1)] 0,.ro [.fn (.func 59) [] [.xp 1 0,.xp 0 0]] 0,.ro (moL m) 0,.ro (exL x) 0,.ro [PV.fm (scK s) (scT s),PV.fm (scK s) (scP s)] 0,.xp 1 0,.xp 2 0] [(0,[.uniq 98 8 (Pa.cs lo)]),(1,[.v (.bool (Prod.snd (l1,f1)))]),(2,[.v (.fn (.func 62) [] [.ro [.sl 1 (qaC l1)] 0,.ro [.fn (.func 59) [] [.xp 1 0,.xp 0 0]] 0,.ro (moL m) 0,.ro (exL x) 0,.ro [PV.fm (scK s) (scT s),PV.fm (scK s) (scP s)] 0,.xp 1 0,.xp 2 0])])] (.ret (.tup [])) [(0,[.uniq 98 8 (Pa.cs l2)]),(1,[.v (.bool f2)]),(2,[.v (.fn (.func 62) [] [.ro [.sl 1 (qaC l1)] 0,.ro [.fn (.func 59) [] [.xp 1 0,.xp 0 0]] 0,.ro (moL m) 0,.ro (exL x) 0,.ro [PV.fm (scK s) (scT s),PV.fm (scK s) (scP s)] 0,.xp 1 0,.xp 2 0])])],Ob.eqv (.v (.bool f2)) (.v (.bool f2)),Ob.eqv (.v (.bool f2)) (.v (.bool f2))]) mixed func28 kR kR ⟨(ob_bit (beF hop1)),(ob_bit (beF hop2)),(ob_bit (beF hop3)),(ob_bit (beF hop8)),(ob_bit (beF hop7)),(ob_eqv (by (simp only [Ex.cs_len]; done))),⟨⟨W,W,W,W,W,W,W,Wq,W,W,W,W,tVv⟩,⟨⟨W,W,W,W,W,W,W,tVv⟩,⟨W,W,tVv⟩,⟨Wq,tVv⟩,⟨W,tVv⟩,tVv⟩,rfl⟩,(@kaT (m) (x) (s) (pk) hk (lo) hlo (l1) (f1) hN hka),(@hpd),(ob_eqv rF),(ob_eqv rF),tVv⟩
def pdF(x:Ex)(ty:Int):List (List Pa)->List Pr->List Pr->List Pa->Bool->List Pa × Bool
 | [],cs,ts,l,f=>(adL (.mk (andF cs) (ndPF x ty ts)) l f,adB l f)
 | q::r,cs,ts,l,f=>pdA_f (fun p l f=>pdF x ty r (cs++[paC p]) (ts++[paT p]) l f) q l f
def pkD(m:Mo):Nat->Ex->Sc->List Pa × Bool
 | 0,_,_=>([],true)
 | d+1,x,s=>
  if exO x=1 then ([.mk prTr (.mk 1 nm0 (exN x) [])],true)
  else if exO x=2 then ([.mk prTr (.mk 2 nm0 (exN x) [])],true)
  else if exO x=3 then ([.mk prTr (scPr (exNm x) s)],true)
  else if exO x=8 then
   let y:=pkD m d ((exK x).getD 1 default) s
   let z:=pkD m d ((exK x).getD 2 default) s
   let c:=pkD m d ((exK x).getD 0 default) s
   pwA_f y.1 (inK y.2 z.1) (inK (y.2&&z.2) c.1) [] (y.2&&z.2&&c.2)
  else if exO x=7 then
   let a:=pkD m d ((exK x).getD 0 default) s
   lwA_f (fun p=>pkD m d ((exK x).getD 1 default) (scW (exNm x) (tpO (plF ((exT x).getD 0 default))) (paT p) s)) a.1 [] a.2
  else
   let k:=kaA_f (fun w=>pkD m d w s) (exK x) [] true
   pdF x (toD m d ((exK x).getD 0 default) s) k.1 [] [] [] k.2
def paG(z:List Pa × Bool):Prop:=paI z.1 z.2/\paS z.1
theorem paG_add{c t:Pr}{l:List Pa}{f:Bool}(hc:prS c)(ht:prS t)(h:paG (l,f)):paG (adL (.mk c t) l f,adB l f):=by
 refine ⟨paI_add h.1,?_⟩
 have h2:=h.2
 unfold adL
 split
 ·intro p hp
  rcases List.mem_append.1 hp with hp | hp
  ·exact h2 p hp
  ·rw [List.mem_singleton] at hp; subst hp; exact ⟨hc,ht⟩
 ·exact h2
theorem py_G(c:Pa)(hc1:prS (paC c))(hc2:prS (paT c)):∀ (r l:List Pa) (f:Bool),paS r->paG (l,f)->paG (pyA_f c r l f)
 | [],l,f,_,h=>h
 | p::r,l,f,hr,h=>py_G c hc1 hc2 r _ _ (fun q hq=>hr q (by simp [hq])) (paG_add (and3_S hc1 hc2 (hr p sM).1) (hr p sM).2 h)
theorem pz_G(c:Pa)(hc1:prS (paC c))(hc2:prS (paT c)):∀ (r l:List Pa) (f:Bool),paS r->paG (l,f)->paG (pzA_f c r l f)
 | [],l,f,_,h=>h
 | p::r,l,f,hr,h=>pz_G c hc1 hc2 r _ _ (fun q hq=>hr q (by simp [hq])) (paG_add (and3_S hc1 (notF_S hc2) (hr p sM).1) (hr p sM).2 h)
theorem pw_G(ys zs:List Pa)(hys:paS ys)(hzs:paS zs):∀ (r l:List Pa) (f:Bool),paS r->paG (l,f)->paG (pwA_f ys zs r l f)
 | [],l,f,_,h=>h
 | p::r,l,f,hr,h=>pw_G ys zs hys hzs r _ _ (fun q hq=>hr q (by simp [hq])) (pz_G p (hr p sM).1 (hr p sM).2 zs _ _ hzs (py_G p (hr p sM).1 (hr p sM).2 ys l f hys h))
theorem lv_G(b:Pa)(hb:prS (paC b)):∀ (r l:List Pa) (f:Bool),paS r->paG (l,f)->paG (lvA_f b r l f)
 | [],l,f,_,h=>h
 | p::r,l,f,hr,h=>lv_G b hb r _ _ (fun q hq=>hr q (by simp [hq])) (paG_add (and2_S hb (hr p sM).1) (hr p sM).2 h)
theorem paG_and{l:List Pa}{f:Bool}(b:Bool)(h:paG (l,f)):paG (l,f&&b):=⟨paI_and b h.1,h.2⟩
theorem lw_G(pk:Pa->List Pa × Bool):∀ (r l:List Pa) (f:Bool),paS r->(∀p∈r,paG (pk p))->paG (l,f)->paG (lwA_f pk r l f)
 | [],l,f,_,_,h=>h
 | p::r,l,f,hr,hp,h=>lw_G pk r _ _ (fun q hq=>hr q (by simp [hq])) (fun q hq=>hp q (by simp [hq])) (lv_G p (hr p sM).1 _ _ _ (paS_in (hp p sM).2) (paG_and _ h))
theorem pdA_G(pg:Pa->List Pa->Bool->List Pa × Bool):∀ (r l:List Pa) (f:Bool),(∀p∈r,∀l f,paG (l,f)->paG (pg p l f))->paG (l,f)->paG (pdA_f pg r l f)
 | [],l,f,_,h=>h
 | p::r,l,f,hp,h=>by
  rw [pdA_f]
  split
  ·exact pdA_G pg r _ _ (fun q hq=>hp q (by simp [hq])) (hp p sM l f h)
  ·exact pdA_G pg r _ _ (fun q hq=>hp q (by simp [hq])) h
theorem snoc_S{l:List Pr}{a:Pr}(h:∀w∈l,prS w)(ha:prS a):∀w∈l++[a],prS w:=fun w hw=>by
 rcases List.mem_append.1 hw with hw | hw
 ·exact h w hw
 ·rw [List.mem_singleton] at hw; subst hw; exact ha
theorem pd_G(x:Ex)(ty:Int):∀ (r:List (List Pa)) (cs ts:List Pr) (l:List Pa) (f:Bool),(∀q∈r,paS q)->(∀w∈cs,prS w)->(∀w∈ts,prS w)->ts.length+r.length<=1000000000->paG (l,f)->paG (pdF x ty r cs ts l f)
 | [],cs,ts,l,f,_,hcs,hts,hN,h=>paG_add (andF_S hcs) (ndF_S (by simpa using hN) hts) h
 | q::r,cs,ts,l,f,hr,hcs,hts,hN,h=>pdA_G _ q l f (fun p hp l f h=>pd_G x ty r _ _ l f (fun q hq=>hr q (by simp [hq])) (snoc_S hcs (hr q sM p hp).1) (snoc_S hts (hr q sM p hp).2) (by simp only [List.length_append,List.length_cons,List.length_nil] at hN ⊢; omega) h) h
theorem ka_G(pk:Ex->List Pa × Bool):∀ (r:List Ex) (ll:List (List Pa)) (f:Bool),(∀w∈r,paG (pk w))->(∀q∈ll,paS q/\q.length<=17)->(∀q∈(kaA_f pk r ll f).1,paS q/\q.length<=17)/\(kaA_f pk r ll f).1.length=ll.length+r.length
 | [],ll,f,_,h=>⟨h,rfl⟩
 | w::r,ll,f,hp,h=>by
  have:=ka_G pk r (ll++[inK f (pk w).1]) (f&&(pk w).2) (fun q hq=>hp q (by simp [hq])) (fun q hq=>by
   rcases List.mem_append.1 hq with hq | hq
   ·exact h q hq
   ·rw [List.mem_singleton] at hq; subst hq
    exact ⟨paS_in (hp w sM).2,inK_N (hp w sM).1.1⟩)
  refine ⟨this.1,?_⟩
  show (kaA_f pk r (ll++[inK f (pk w).1]) (f&&(pk w).2)).1.length=_
  rw [this.2]
  simp only [List.length_append,List.length_cons,List.length_nil]
  omega
def scS(s:Sc):Prop:=∀x∈s,prS x.2.2
theorem scW_S{nm:BA}{t:Int}{p:Pr}{s:Sc}(hp:prS p)(h:scS s):scS (scW nm t p s):=fun x hx=>by
 rcases List.mem_cons.1 hx with rfl | hx
 ·exact hp
 ·exact h x (List.mem_filter.1 hx).1
theorem prZ_S:prS prZ:=prS_mk sM sM
theorem scPr_S{k:BA}{s:Sc}(h:scS s):prS (scPr k s):=by
 unfold scPr scO
 cases he:s.find? fun x=>decide (x.1=k) with
 | none=>exact prZ_S
 | some x=>exact h x (List.mem_of_find?_eq_some he)
theorem paG_nil(f:Bool):paG ([],f):=⟨paI_nil f,fun p hp=>by cases hp⟩
theorem paG_one{t:Pr}(h:prS t):paG ([.mk prTr t],true):=⟨⟨by simp,by simp⟩,fun p hp=>by rw [List.mem_singleton] at hp; subst hp; exact ⟨prT_S,h⟩⟩
theorem pkD_G(m:Mo):∀ (d:Nat) (x:Ex) (s:Sc),bulkPs (exL x)<=1000000000->okD d x=true->scS s->paG (pkD m d x s)
 | 0,_,_,_,h,_=>by cases h
 | d+1,x,s,hb,h,hs=>by
  have h1:=exk_bulk x
  have h2:=Ex.bulk (exK x)
  have ih:∀ (w:Ex) (u:Sc),w∈exK x->scS u->paG (pkD m d w u):=fun w u hw hu=>pkD_G m d w u (by have:=Ex.mem hw; omega) (okD_kid h hw) hu
  rw [pkD]
  split
  ·exact paG_one (prS_mk sM sM)
  split
  ·exact paG_one (prS_mk sM sM)
  split
  ·exact paG_one (scPr_S hs)
  split
  ·rename_i e
   have hl:=okD_8 h e
   exact pw_G _ _ (ih _ s (gEx oM) hs).2 (paS_in (ih _ s (gEx oM) hs).2) _ _ _ (paS_in (ih _ s (gEx oM) hs).2) (paG_nil _)
  split
  ·rename_i e
   have hl:=(okD_7 h e).1
   have ha:=ih _ s (gEx (show 0<(exK x).length by omega)) hs
   exact lw_G _ _ _ _ ha.2 (fun p hp=>ih _ _ (gEx oM) (scW_S (ha.2 p hp).2 hs)) (paG_nil _)
  ·have hk:=ka_G (fun w=>pkD m d w s) (exK x) [] true (fun w hw=>ih w s hw hs) (fun q hq=>by cases hq)
   exact pd_G x _ _ [] [] [] _ (fun q hq=>(hk.1 q hq).1) sM sM (by rw [hk.2]; simp; omega) (paG_nil _)
theorem Pa.csnx:∀l:List Pa,noXss (Pa.cs l)=true
 | []=>rfl
 | x::r=>by
  have:=Pa.csnx r
  simp only [Pa.cs,noXss,noXs,PV.noX,Pr.csnx,this,Bool.and_self]
theorem pk_pur{m:Mo}{x:Ex}{s:Sc}{l:List Pa}{f:Bool}{e':Ext}(h:Ef 28 [.agg (moL m),.agg (exL x),.agg (scL s)] [] (.ret (.tup [.sl 8 (Pa.cs l),.bool f])) e'):Pu 28 [.agg (moL m),.agg (exL x),.agg (scL s)] (.ret (.tup [.sl 8 (Pa.cs l),.bool f])):=by
 refine Ob.pur_of_eff ?_ ?_ h
 ·have h1:=Mo.nx m
  have h2:=Ex.nx x
  have h3:=sc_nx s
  simp only [noXs,PV.noX,Bool.and_true,Bool.and_eq_true] at h1 h2 h3 ⊢
  exact ⟨h1,h2,h3⟩
 ·have h1:=Pa.csnx l
  simp only [CRes.noX,PV.noX,noXs,h1,Bool.and_true]
theorem pdA_P(pg:Pa->List Pa->Bool->List Pa × Bool)(hp:∀ (p:Pa) (l:List Pa) (f:Bool),paI l f->paI (pg p l f).1 (pg p l f).2):∀ (r l:List Pa) (f:Bool),paI l f->paI (pdA_f pg r l f).1 (pdA_f pg r l f).2
 | [],l,f,h=>h
 | p::r,l,f,h=>by
  rw [pdA_f]
  split
  ·exact pdA_P pg hp r _ _ (hp p l f h)
  ·exact pdA_P pg hp r _ _ h
theorem pd_P(x:Ex)(ty:Int):∀ (r:List (List Pa)) (cs ts:List Pr) (l:List Pa) (f:Bool),paI l f->paI (pdF x ty r cs ts l f).1 (pdF x ty r cs ts l f).2
 | [],_,_,l,f,h=>paI_add h
 | q::r,cs,ts,l,f,h=>pdA_P _ (fun p l f h=>pd_P x ty r _ _ l f h) q l f h
theorem pd_ok(m:Mo)(x:Ex)(s:Sc)(ll:List (List Pa))(hLN:ll.length<=100000000)(hll:∀q∈ll,paS q/\q.length<=17)(tg:Ex->Int)(hto:∀w:Ex,w∈exK x->Pu 103 [.agg (moL m),.agg (exL w),.agg (scL s)] (.ret (.int .i64 (tg w))))(hx2:exO x=12∨exO x=16->2<=(exK x).length)(hl:ll.length=(exK x).length):∀ (r:List (List Pa)) (n:Nat) (cs ts:List Pr) (l:List Pa) (f:Bool),ll.drop n=r->n<=ll.length->cs.length=n->ts.length=n->(∀w∈cs,prS w)->paI l f ->
  Ef 62 [.int .i64 n,.sl 4 (Pr.cs cs),.sl 4 (Pr.cs ts),.ro [.sl 1 (qaC ll)] 0,.ro [adP] 0,.ro (moL m) 0,.ro (exL x) 0,.ro (scL s) 0,.xp 1 0,.xp 2 0] (paE l f (pdP m x s ll)) (.ret (.tup [])) (paE (pdF x (tg ((exK x).getD 0 default)) r cs ts l f).1 (pdF x (tg ((exK x).getD 0 default)) r cs ts l f).2 (pdP m x s ll))
 | [],n,cs,ts,l,f,hd,hn,hc,ht,hcs,h=>by
  have hn2:n=ll.length:=by
   have:=congrArg List.length hd
   simp at this
   omega
  subst hn2
  exact pdZ m x s ll hLN cs ts hcs oM oM _ (ndPT m x s ts tg hto hx2 oM oM) l f h
 | q::r,n,cs,ts,l,f,hd,hn,hc,ht,hcs,h=>by
  have hn2:n<ll.length:=by
   have:=congrArg List.length hd
   simp at this
   omega
  have hq:ll.getD n []=q:=by
   have h1:ll.drop n=ll[n]::ll.drop (n+1):=List.drop_eq_getElem_cons hn2
   rw [h1] at hd
   injection hd with h2 h3
   rw [<-h2]
   simp [List.getD,hn2]
  have hr:ll.drop (n+1)=r:=by
   have h1:ll.drop n=ll[n]::ll.drop (n+1):=List.drop_eq_getElem_cons hn2
   rw [h1] at hd
   injection hd with h2 h3
  have hqm:q∈ll:=by
   rw [<-hq]
   simp [List.getD,hn2]
  have hqs:=hll q hqm
  have:=pdW m x s ll hLN n hn2 (by rw [hq]; omega) cs ts oM oM (fun p l f=>pdF x (tg ((exK x).getD 0 default)) r (cs++[paC p]) (ts++[paT p]) l f) (fun p l f hp hv=>by
   rw [hq] at hp
   have:=pd_ok m x s ll hLN hll tg hto hx2 hl r (n+1) (cs++[paC p]) (ts++[paT p]) l f hr hn2 (by simp [hc]) (by simp [ht]) (snoc_S hcs (hqs.1 p hp).1) hv
   rw [Pr.cs_snoc,Pr.cs_snoc] at this
   exact this) (fun p l f h=>pd_P x _ r _ _ l f h) l f h
  rw [hq] at this
  exact this
theorem pk_ok(m:Mo)(hm:bulkPs (moL m)<=1000000000):∀ (d:Nat) (x:Ex) (s:Sc),bulkPs (exL x)<=100000000->okD d x=true->(scK s).Nodup->scS s->Pu 28 [.agg (moL m),.agg (exL x),.agg (scL s)] (.ret (.tup [.sl 8 (Pa.cs (pkD m d x s).1),.bool (pkD m d x s).2]))
 | 0,_,_,_,h,_,_=>by cases h
 | d+1,x,s,hb,h,hn,hs=>by
  have h1:=exk_bulk x
  have h2:=Ex.bulk (exK x)
  have h3:=Tp.bulk (exT x)
  have hbk:∀w:Ex,w∈exK x->bulkPs (exL w)<=100000000:=fun w hw=>by have:=Ex.mem hw; omega
  have ih:∀ (w:Ex) (u:Sc),w∈exK x->(scK u).Nodup->scS u->Pu 28 [.agg (moL m),.agg (exL w),.agg (scL u)] (.ret (.tup [.sl 8 (Pa.cs (pkD m d w u).1),.bool (pkD m d w u).2])):=fun w u hw hu hs=>pk_ok m hm d w u (hbk w hw) (okD_kid h hw) hu hs
  have ig:∀ (w:Ex) (u:Sc),w∈exK x->scS u->paG (pkD m d w u):=fun w u hw hu=>pkD_G m d w u (by have:=hbk w hw; omega) (okD_kid h hw) hu
  have hpl:∀t:Tp,t∈exT x->Pu 54 [.agg (tpL t)] (.ret (.agg (tpL (plF t)))):=fun t ht=>plT t (by have:=Tp.mem ht; omega)
  rw [pkD]
  by_cases e1:exO x=1
  ·rw [iP e1]; exact pk_pur (pt1 m x s e1)
  rw [iN e1]
  by_cases e2:exO x=2
  ·rw [iP e2]; exact pk_pur (pt2 m x s e2)
  rw [iN e2]
  by_cases e3:exO x=3
  ·rw [iP e3]; exact pk_pur (pt3 m x s e3)
  rw [iN e3]
  by_cases e8:exO x=8
  ·rw [iP e8]
   have hl:=okD_8 h e8
   have k0:=gEx (show 0<(exK x).length by omega)
   have k1:=gEx (show 1<(exK x).length by omega)
   have k2:=gEx (show 2<(exK x).length by omega)
   have g0:=ig _ s k0 hs
   have g1:=ig _ s k1 hs
   have g2:=ig _ s k2 hs
   exact pk_pur (pt8 m x s e8 hl _ _ _ [] _ _ _ (inM m _ s .nilfn _ _ (ih _ s k1 hn hs)) (inQ m _ s [] _ .nilfn _ _ (ih _ s k2 hn hs)) (inQ m _ s [] _ .nilfn _ _ (ih _ s k0 hn hs)) (paI_nil _) (paS_in g0.2) g1.2 (paS_in g2.2) (Nat.le_trans g1.1.1 dD) (inK_N (Nat.le_trans g2.1.1 dD)) (inK_N (Nat.le_trans g0.1.1 dD)))
  rw [iN e8]
  by_cases e7:exO x=7
  ·rw [iP e7]
   have hl:=okD_7 h e7
   have k0:=gEx (show 0<(exK x).length by omega)
   have k1:=gEx (show 1<(exK x).length by omega)
   have g0:=ig _ s k0 hs
   exact pk_pur (pt7 m x s hn e7 hl.1 hl.2 hpl _ [] _ (inM m _ s .nilfn _ _ (ih _ s k0 hn hs)) g0.2 (Nat.le_trans g0.1.1 dD) (fun p=>pkD m d ((exK x).getD 1 default) (scW (exNm x) (tpO (plF ((exT x).getD 0 default))) (paT p) s)) (fun p l f hp=>inQ m _ _ l f .nilfn _ _ (ih _ _ k1 (scW_keys hn) (scW_S (g0.2 p hp).2 hs))) (fun p hp=>(ig _ _ k1 (scW_S (g0.2 p hp).2 hs)).2) (fun p hp=>(ig _ _ k1 (scW_S (g0.2 p hp).2 hs)).1.1) (paI_nil _))
  rw [iN e7]
  have hk:=ka_G (fun w=>pkD m d w s) (exK x) [] true (fun w hw=>ig w s hw hs) (fun q hq=>by cases hq)
  have hpd:=pd_ok m x s (kaA_f (fun w=>pkD m d w s) (exK x) [] true).1 (by rw [hk.2]; simp; omega) hk.1 (fun w=>toD m d w s) (fun w hw=>to_ok m hm d w s (by have:=hbk w hw; omega) (okD_kid h hw) hn) (fun e=>by have:=okD_2 h e; omega) (by rw [hk.2]; simp) _ 0 [] [] [] (kaA_f (fun w=>pkD m d w s) (exK x) [] true).2 List.drop_zero (Nat.zero_le _) rfl rfl sM (paI_nil _)
  exact pk_pur (ptD m x s e1 e2 e3 e8 e7 oM (fun w=>pkD m d w s) (fun w l f hw=>inQ m w s l f .nilfn _ _ (ih w s hw hn hs)) [] rfl _ _ rfl _ _ (Ob.eff_arg (.c (.r _) (.c (.n 4) (.c (.n 4) (.r _)))) hpd))
abbrev dsA_I(l:List BA)(j:Int)(ks:List BA)  : S:=S.mk [(2,.v (.bool false)),(3,.v (PV.mp 0)),(7,vL 1 (nmsC l)),(8,vI6 (l.length:Int)),(9,vI6 j)] [] [(0,[LV.mm (MM.s (mks ks))])]
inductive dsA_R where
 | e0 (ks:List BA)
 | e1 (ks:List BA)
def dsA_f  : List BA->(List BA)->dsA_R
 | [],ks=>(dsA_R.e1 ks)
 | el::r,ks=>(if memB el ks=true then (dsA_R.e0 ks) else dsA_f  r (adN el ks))
noncomputable def dsA_q (l:List BA)  : dsA_R->PExit × S
 | .e0 ks=>(.ret,S.mk [(2,.v (.bool false)),(3,.v (PV.mp 0)),(7,vL 1 (nmsC l)),(8,vI6 (l.length:Int))] [] [(0,[LV.mm (MM.s (mks ks))])])
 | .e1 ks=>(.exit 0,S.mk [(2,.v (.bool false)),(3,.v (PV.mp 0)),(7,vL 1 (nmsC l)),(8,vI6 (l.length:Int))] [] [(0,[LV.mm (MM.s (mks ks))])])
theorem dsA_lp(l:List BA)(hN:l.length<=1000000000)(ks:List BA):(Ob.loop 19 (loopF f186 0) (dsA_I l 0 ks) (dsA_q l  (dsA_f  (l)  ks)).1 (dsA_q l  (dsA_f  (l)  ks)).2).ok prog:=by
 refine rng l.length (fun j ks=>dsA_I l j ks) (fun i ks=>dsA_f  (List.drop i (l))  ks) (dsA_q l) (fun i ks=>True) kR ?_ ks trivial
 rintro i ks hi -
 rcases Nat.lt_or_ge i (l.length) with hlt | hge
 ·have hd:=drop_at0 hlt
  refine t0 ?_;refine tp [rgNm hlt,av (.v (luRes false (mget (List.getD l i nm0) (mks ks)) (.bool false))) (.v (.bool (memB (List.getD l i nm0) ks))) (by (simp only [lu_mks]; done))] ?_;by_cases h0:memB (List.getD l i nm0) ks=true
  ·exact tX mdW [bt1 h0] (dsA_R.e0 ks) (by rw [hd,dsA_f,iP h0])
  ·exact tS mdW [bf1 (bFT h0),wr ((i:Int)+1)] [2,3,7,8,9] [] hlt (adN (List.getD l i nm0) ks) (S.mk [(2,.v (.bool false)),(3,.v (PV.mp 0)),(7,vL 1 (nmsC l)),(8,vI6 (l.length:Int)),(9,vI6 ((i:Int)+1))] [] [(0,[LV.mm (MM.s (mupd (List.getD l i nm0) (.bool true) (mks ks)))])]) ⟨⟨W,W,W,W,W,tVv⟩,trivial,(by first | rfl | (simp only [List.nil_append,nmsC_app,nmsC_snoc,Pr.cs_snoc,Tp.cs_snoc,Ex.cs_snoc,Vr.cs_snoc,Df.cs_snoc,mks_ad]; done) | (simp only [List.nil_append,nmsC_app,nmsC_snoc,Pr.cs_snoc,Tp.cs_snoc,Ex.cs_snoc,Vr.cs_snoc,Df.cs_snoc,mks_ad]; rfl))⟩ trivial (by rw [hd,dsA_f,iN h0])
 ·have he:i=l.length:=by omega
  exact lX mdW [df ((i:Int)<(l.length:Int))] (dsA_R.e1 ks) (by rw [he,List.drop_length,dsA_f])
theorem dsA_0(l:List BA)(ks:List BA)(hN:l.length<=1000000000)(p0:List BA)(hres:(dsA_f  (l)  ks)=(dsA_R.e0 p0)):(Ob.loop 19 (loopF f186 0) (dsA_I l 0 ks) (dsA_q l  (dsA_R.e0 p0)).1 (dsA_q l  (dsA_R.e0 p0)).2).ok prog:=
 rz (dsA_lp l hN ks) hres
theorem dsA_1(l:List BA)(ks:List BA)(hN:l.length<=1000000000)(p0:List BA)(hres:(dsA_f  (l)  ks)=(dsA_R.e1 p0)):(Ob.loop 19 (loopF f186 0) (dsA_I l 0 ks) (dsA_q l  (dsA_R.e1 p0)).1 (dsA_q l  (dsA_R.e1 p0)).2).ok prog:=
 rz (dsA_lp l hN ks) hres
def disB(l:List BA):Bool:=match dsA_f l [] with
 | .e0 _=>false
 | .e1 _=>true
theorem ds0(l:List BA)(hN:l.length<=1000000000)(k0:List BA)(hres:dsA_f l [] = .e0 k0):(Ob.loop 19 (loopF f186 0) (dsA_I l 0 []) (dsA_q l (.e0 k0)).1 (dsA_q l (.e0 k0)).2).ok prog:=dsA_0 l [] hN k0 hres
theorem ds1(l:List BA)(hN:l.length<=1000000000)(k0:List BA)(hres:dsA_f l [] = .e1 k0):(Ob.loop 19 (loopF f186 0) (dsA_I l 0 []) (dsA_q l (.e1 k0)).1 (dsA_q l (.e1 k0)).2).ok prog:=dsA_1 l [] hN k0 hres
section
variable (l:List BA) (hN:l.length<=1000000000) (hy0:List BA)
include l hN hy0
theorem dsL_1(hx1:dsA_f l []=dsA_R.e0 hy0):Ef 186 [.sl 1 (nmsC l)] ([]) (rB false) ([(0,[LV.mm (MM.s (mks hy0))])]):=
 ef mdW [sl (nmsC_len l),lq (@ds0 l hN hy0 hx1)] func186
theorem dsL_2(hx1:dsA_f l []=dsA_R.e1 hy0):Ef 186 [.sl 1 (nmsC l)] ([]) (rB true) ([(0,[LV.mm (MM.s (mks hy0))])]):=
 ef mdW [sl (nmsC_len l),lq (@ds1 l hN hy0 hx1)] func186
end
theorem dsT(l:List BA)(hN:l.length<=1000000000):Pu 186 [.sl 1 (nmsC l)] (.ret (.bool (disB l))):=by
 have hx:noXs [.sl 1 (nmsC l)]=true:=by rw [noXs,PV.noX,nms_nx]; rfl
 unfold disB
 cases h:dsA_f l [] with
 | e0 k=>first | exact Ob.pur_of_eff hx rfl (dsL_1 l hN k h) | exact Ob.pur_of_eff hx rfl (dsL_2 l hN k h)
 | e1 k=>first | exact Ob.pur_of_eff hx rfl (dsL_1 l hN k h) | exact Ob.pur_of_eff hx rfl (dsL_2 l hN k h)
theorem twL(l:List BA)(hN:l.length<=1000000000):Pu 159 [.sl 1 (nmsC l)] (rB !disB l):=
 pm mdL [cl (@dsT l hN)] func159
abbrev bdA_I(l:List Pm)(j:Int)(out:List BA)(e:Ext):S:=S.mk [(2,.v .nilsl),(3,.uniq 9 1 (nmsC out)),(6,vL 10 (Pm.cs l)),(7,vI6 (l.length:Int)),(8,vI6 j)] [] e
def bdA_f  : List Pm->(List BA)->(List BA)
 | [],out=>(out)
 | el::r,out=>bdA_f  r (out++[pmNm el])
def bdA_q(l:List Pm)(e:Ext)(p:(List BA)):PExit × S:=(.exit 0,S.mk [(2,.v .nilsl),(3,.uniq 9 1 (nmsC p)),(6,vL 10 (Pm.cs l)),(7,vI6 (l.length:Int))] [] e)
theorem bdA(l:List Pm)(out:List BA)(e:Ext)(hN:l.length<=1000000000)(hv:List.length out<=0):(Ob.loop 19 (loopF f158 0) (bdA_I l 0 out e) (bdA_q l e (bdA_f  (l)  out)).1 (bdA_q l e (bdA_f  (l)  out)).2).ok prog:=by
 refine rng l.length (fun j out=>bdA_I l j out e) (fun i out=>bdA_f  (List.drop i (l))  out) (bdA_q l e) (fun i out=>(out.length<=i)) kR ?_ out (by first | exact hv | omega)
 rintro i out hi hv
 try simp only at hv
 rcases Nat.lt_or_ge i (l.length) with hlt | hge
 ·have hd:=drop_at hlt
  exact lS mdL [rgPm hlt,am (List.length (nmsC out++[[.str (pmNm (List.getD l i default))]]) * (15+1)<=140737488355328) (by (simp only [List.length_append,List.length_cons,List.length_nil,nmsC_len]; omega)),wr ((i:Int)+1)] [2,3,6,7,8] [] hlt (out++[pmNm (List.getD l i default)]) (S.mk [(2,.v .nilsl),(3,.uniq 9 1 (nmsC out++[[PV.str (pmNm (List.getD l i default))]])),(6,vL 10 (Pm.cs l)),(7,vI6 (l.length:Int)),(8,vI6 ((i:Int)+1))] [] e) ⟨⟨W,(.inl (by first | (simp only [List.nil_append,nmsC_app,nmsC_snoc,Pr.cs_snoc,Tp.cs_snoc,Ex.cs_snoc,Vr.cs_snoc,Df.cs_snoc,mks_ad]; done) | (simp only [List.nil_append,nmsC_app,nmsC_snoc,Pr.cs_snoc,Tp.cs_snoc,Ex.cs_snoc,Vr.cs_snoc,Df.cs_snoc,mks_ad]; rfl))),W,W,W,tVv⟩,trivial,rfl⟩ (by first | assumption | omega | (simp only [List.length_append,List.length_cons,List.length_nil] at *; omega) | simp_all) (by rw [hd,bdA_f])
 ·have he:i=l.length:=by omega
  exact lX mdL [df ((i:Int)<(l.length:Int))] (out) (by rw [he,List.drop_length,bdA_f])
theorem bdA_e:∀ (l:List Pm) (out:List BA),bdA_f l out=out++l.map pmNm
 | [],out=>by simp [bdA_f]
 | p::r,out=>by simp [bdA_f,bdA_e r]
theorem bdL(l:List Pm)(hN:l.length<=1000000000):Pu 158 [.sl 10 (Pm.cs l)] (.own 9 1 (nmsC (bdA_f l []))):=
 pu mdL (fun e=>[sl (Pm.cs_len l),lp (S.mk [(2,.v .nilsl),(3,.v .nilsl),(6,vL 10 (Pm.cs l)),(7,vI6 (l.length:Int)),(8,vI6 0)] [] e) (@bdA l ([]) e hN (by (simp only [List.length_nil]; omega))) ⟨⟨W,Wq,W,W,W,tVv⟩,trivial,rfl⟩]) func158
abbrev coA_I(l:List Al)(j:Int)(out:List BA)(e:Ext):S:=S.mk [(2,.v .nilsl),(3,.uniq 9 1 (nmsC out)),(6,vL 9 (Al.cs l)),(7,vI6 (l.length:Int)),(8,vI6 j)] [] e
def coA_f  : List Al->(List BA)->(List BA)
 | [],out=>(out)
 | el::r,out=>coA_f  r (out++[alC el])
def coA_q(l:List Al)(e:Ext)(p:(List BA)):PExit × S:=(.exit 0,S.mk [(2,.v .nilsl),(3,.uniq 9 1 (nmsC p)),(6,vL 9 (Al.cs l)),(7,vI6 (l.length:Int))] [] e)
theorem coA(l:List Al)(out:List BA)(e:Ext)(hN:l.length<=1000000000)(hv:List.length out<=0):(Ob.loop 19 (loopF f160 0) (coA_I l 0 out e) (coA_q l e (coA_f  (l)  out)).1 (coA_q l e (coA_f  (l)  out)).2).ok prog:=by
 refine rng l.length (fun j out=>coA_I l j out e) (fun i out=>coA_f  (List.drop i (l))  out) (coA_q l e) (fun i out=>(out.length<=i)) kR ?_ out (by first | exact hv | omega)
 rintro i out hi hv
 try simp only at hv
 rcases Nat.lt_or_ge i (l.length) with hlt | hge
 ·have hd:=drop_at hlt
  exact lS mdL [rgAl hlt,am (List.length (nmsC out++[[.str (alC (List.getD l i default))]]) * (15+1)<=140737488355328) (by (simp only [List.length_append,List.length_cons,List.length_nil,nmsC_len]; omega)),wr ((i:Int)+1)] [2,3,6,7,8] [] hlt (out++[alC (List.getD l i default)]) (S.mk [(2,.v .nilsl),(3,.uniq 9 1 (nmsC out++[[PV.str (alC (List.getD l i default))]])),(6,vL 9 (Al.cs l)),(7,vI6 (l.length:Int)),(8,vI6 ((i:Int)+1))] [] e) ⟨⟨W,(.inl (by first | (simp only [List.nil_append,nmsC_app,nmsC_snoc,Pr.cs_snoc,Tp.cs_snoc,Ex.cs_snoc,Vr.cs_snoc,Df.cs_snoc,mks_ad]; done) | (simp only [List.nil_append,nmsC_app,nmsC_snoc,Pr.cs_snoc,Tp.cs_snoc,Ex.cs_snoc,Vr.cs_snoc,Df.cs_snoc,mks_ad]; rfl))),W,W,W,tVv⟩,trivial,rfl⟩ (by first | assumption | omega | (simp only [List.length_append,List.length_cons,List.length_nil] at *; omega) | simp_all) (by rw [hd,coA_f])
 ·have he:i=l.length:=by omega
  exact lX mdL [df ((i:Int)<(l.length:Int))] (out) (by rw [he,List.drop_length,coA_f])
theorem coA_e:∀ (l:List Al) (out:List BA),coA_f l out=out++l.map alC
 | [],out=>by simp [coA_f]
 | p::r,out=>by simp [coA_f,coA_e r]
theorem coL(l:List Al)(hN:l.length<=1000000000):Pu 160 [.sl 9 (Al.cs l)] (.own 9 1 (nmsC (coA_f l []))):=
 pu mdL (fun e=>[sl (Al.cs_len l),lp (S.mk [(2,.v .nilsl),(3,.v .nilsl),(6,vL 9 (Al.cs l)),(7,vI6 (l.length:Int)),(8,vI6 0)] [] e) (@coA l ([]) e hN (by (simp only [List.length_nil]; omega))) ⟨⟨W,Wq,W,W,W,tVv⟩,trivial,rfl⟩]) func160
abbrev xfN_I(l:List BA)(g:Nat)(caps:List PV)(pe:BA->Bool)(j:Int)(e:Ext):S:=S.mk [(0,vL 1 (nmsC l)),(1,.v (.fn (.func g) [] caps)),(4,vI6 0),(7,vI6 (l.length:Int)),(8,vI6 j)] [] e
inductive xfN_R where
 | e0 (i:Nat)
 | e1
def xfN_f(pe:BA->Bool):List BA->Nat->xfN_R
 | [],i=>(xfN_R.e1)
 | el::r,i=>(if pe el=true then (xfN_R.e0 i) else xfN_f pe r (i+1))
def xfN_q(l:List BA)(g:Nat)(caps:List PV)(pe:BA->Bool)(e:Ext):xfN_R->PExit × S
 | .e0 i=>(.ret,S.mk [(0,vL 1 (nmsC l)),(1,.v (.fn (.func g) [] caps)),(4,vI6 (i:Int)),(7,vI6 (l.length:Int))] [] e)
 | .e1=>(.exit 0,S.mk [(0,vL 1 (nmsC l)),(1,.v (.fn (.func g) [] caps)),(4,vI6 0),(7,vI6 (l.length:Int))] [] e)
theorem xfN_lp(l:List BA)(g:Nat)(caps:List PV)(pe:BA->Bool)(hwk:∀ (w:BA),w∈l->Pu g (.str w::caps) (.ret (.bool (pe w))))(e:Ext)(hN:l.length<=1000000000):(Ob.loop 19 (loopF f153 0) (xfN_I l g caps pe 0  e) (xfN_q l g caps pe e (xfN_f pe (l) 0)).1 (xfN_q l g caps pe e (xfN_f pe (l) 0)).2).ok prog:=by
 refine rng l.length (fun j _=>xfN_I l g caps pe j  e) (fun i _=>xfN_f pe (List.drop i (l)) i) (xfN_q l g caps pe e) (fun i _=>True) kR ?_ () trivial
 rintro i u hi -
 rcases Nat.lt_or_ge i (l.length) with hlt | hge
 ·have hd:=drop_at0 hlt
  refine t0 ?_;refine tp [rgNm hlt,cl (@hwk (List.getD l i nm0) (by simp_all [mget_mks,lu_mks,tn1,Bool.not_eq_true,Bool.not_eq_false]))] ?_;by_cases h0:pe (List.getD l i nm0)=true
  ·exact tX mdL [bt1 h0] (xfN_R.e0 i) (by rw [hd,xfN_f,iP h0])
  ·exact tN mdL [bf1 (bFT h0),wr ((i:Int)+1)] hlt () trivial (by rw [hd,xfN_f,iN h0])
 ·have he:i=l.length:=by omega
  exact lX mdL [df ((i:Int)<(l.length:Int))] (xfN_R.e1) (by rw [he,List.drop_length,xfN_f])
theorem xfN_x(pe:BA->Bool):∀ (l:List BA) (k:Nat),xfN_f pe l k=if l.findIdx pe<l.length then .e0 (k+l.findIdx pe) else .e1
 | [],k=>by simp [xfN_f]
 | c::r,k=>by
  by_cases h:pe c=true
  ·simp [xfN_f,h,List.findIdx_cons]
  ·have h':pe c=false:=by cases hh:pe c <;> simp_all
   simp only [xfN_f,h',Bool.false_eq_true,if_false,xfN_x pe r (k+1),List.length_cons,List.findIdx_cons,cond_false]
   by_cases h2:r.findIdx pe<r.length
   ·rw [iP h2,iP oM]; congr 1; omega
   ·rw [iN h2,iN oM]
section
variable (l:List BA) (g:Nat) (caps:List PV) (pe:BA->Bool) (hwk:∀ (w:BA),w∈l->Pu g (.str w::caps) (.ret (.bool (pe w)))) (hN:l.length<=1000000000)
include l g caps pe hwk hN
theorem xfNL_1(hy0:Nat)(hx1:xfN_f pe l 0=xfN_R.e0 hy0):Pu 153 [.sl 1 (nmsC l),.fn (.func g) [] caps] (rI (hy0:Int)):=
 pu mdL (fun e=>[sl (nmsC_len l),lq (rz (xfN_lp (l) (g) (caps) (pe) hwk (e) hN) hx1)]) func153
theorem xfNL_2(hx0:xfN_f pe l 0=xfN_R.e1):Pu 153 [.sl 1 (nmsC l),.fn (.func g) [] caps] (rI (-1)):=
 pu mdL (fun e=>[sl (nmsC_len l),lq (rz (xfN_lp (l) (g) (caps) (pe) hwk (e) hN) hx0)]) func153
end
theorem xfNT(l:List BA)(g:Nat)(caps:List PV)(pe:BA->Bool)(hwk:∀ (w:BA),w∈l->Pu g (.str w::caps) (.ret (.bool (pe w))))(hN:l.length<=1000000000):Pu 153 [.sl 1 (nmsC l),.fn (.func g) [] caps] (.ret (.int .i64 (fxE pe l))):=by
 unfold fxE
 by_cases h:l.findIdx pe<l.length
 ·rw [iP h]; have e:xfN_f pe l 0 = .e0 (l.findIdx pe):=by rw [xfN_x,iP h,Nat.zero_add]
  first | exact xfNL_1 l g caps pe hwk hN _ e | exact xfNL_2 l g caps pe hwk hN _ e
 ·rw [iN h]; have e:xfN_f pe l 0 = .e1:=by rw [xfN_x,iN h]
  first | exact xfNL_1 l g caps pe hwk hN e | exact xfNL_2 l g caps pe hwk hN e
theorem cfN(l:List BA)(g:Nat)(caps:List PV)(pe:BA->Bool)(hwk:∀ (w:BA),w∈l->Pu g (.str w::caps) (.ret (.bool (pe w))))(hN:l.length<=1000000000):Pu 161 [.sl 1 (nmsC l),.fn (.func g) [] caps] (rB (decide (fxE pe l>=0))):=
 pm mdL [cl (@xfNT l g caps pe hwk hN)] func161
abbrev xfA_I(l:List Al)(g:Nat)(caps:List PV)(pe:Al->Bool)(j:Int)(e:Ext):S:=S.mk [(0,vL 9 (Al.cs l)),(1,.v (.fn (.func g) [] caps)),(4,vI6 0),(7,vI6 (l.length:Int)),(8,vI6 j)] [] e
inductive xfA_R where
 | e0 (i:Nat)
 | e1
def xfA_f(pe:Al->Bool):List Al->Nat->xfA_R
 | [],i=>(xfA_R.e1)
 | el::r,i=>(if pe el=true then (xfA_R.e0 i) else xfA_f pe r (i+1))
def xfA_q(l:List Al)(g:Nat)(caps:List PV)(pe:Al->Bool)(e:Ext):xfA_R->PExit × S
 | .e0 i=>(.ret,S.mk [(0,vL 9 (Al.cs l)),(1,.v (.fn (.func g) [] caps)),(4,vI6 (i:Int)),(7,vI6 (l.length:Int))] [] e)
 | .e1=>(.exit 0,S.mk [(0,vL 9 (Al.cs l)),(1,.v (.fn (.func g) [] caps)),(4,vI6 0),(7,vI6 (l.length:Int))] [] e)
theorem xfA_lp(l:List Al)(g:Nat)(caps:List PV)(pe:Al->Bool)(hwk:∀ (w:Al),w∈l->Pu g (.agg (alL w)::caps) (.ret (.bool (pe w))))(e:Ext)(hN:l.length<=1000000000):(Ob.loop 19 (loopF f185 0) (xfA_I l g caps pe 0  e) (xfA_q l g caps pe e (xfA_f pe (l) 0)).1 (xfA_q l g caps pe e (xfA_f pe (l) 0)).2).ok prog:=by
 refine rng l.length (fun j _=>xfA_I l g caps pe j  e) (fun i _=>xfA_f pe (List.drop i (l)) i) (xfA_q l g caps pe e) (fun i _=>True) kR ?_ () trivial
 rintro i u hi -
 rcases Nat.lt_or_ge i (l.length) with hlt | hge
 ·have hd:=drop_at hlt
  refine t0 ?_;refine tp [rgAl hlt,cl (@hwk (List.getD l i default) (by simp_all [mget_mks,lu_mks,tn1,Bool.not_eq_true,Bool.not_eq_false]))] ?_;by_cases h0:pe (List.getD l i default)=true
  ·exact tX mdL [bt1 h0] (xfA_R.e0 i) (by rw [hd,xfA_f,iP h0])
  ·exact tN mdL [bf1 (bFT h0),wr ((i:Int)+1)] hlt () trivial (by rw [hd,xfA_f,iN h0])
 ·have he:i=l.length:=by omega
  exact lX mdL [df ((i:Int)<(l.length:Int))] (xfA_R.e1) (by rw [he,List.drop_length,xfA_f])
theorem xfA_x(pe:Al->Bool):∀ (l:List Al) (k:Nat),xfA_f pe l k=if l.findIdx pe<l.length then .e0 (k+l.findIdx pe) else .e1
 | [],k=>by simp [xfA_f]
 | c::r,k=>by
  by_cases h:pe c=true
  ·simp [xfA_f,h,List.findIdx_cons]
  ·have h':pe c=false:=by cases hh:pe c <;> simp_all
   simp only [xfA_f,h',Bool.false_eq_true,if_false,xfA_x pe r (k+1),List.length_cons,List.findIdx_cons,cond_false]
   by_cases h2:r.findIdx pe<r.length
   ·rw [iP h2,iP oM]; congr 1; omega
   ·rw [iN h2,iN oM]
section
variable (l:List Al) (g:Nat) (caps:List PV) (pe:Al->Bool) (hwk:∀ (w:Al),w∈l->Pu g (.agg (alL w)::caps) (.ret (.bool (pe w)))) (hN:l.length<=1000000000)
include l g caps pe hwk hN
theorem xfAL_1(hy0:Nat)(hx1:xfA_f pe l 0=xfA_R.e0 hy0):Pu 185 [.sl 9 (Al.cs l),.fn (.func g) [] caps] (rI (hy0:Int)):=
 pu mdL (fun e=>[sl (Al.cs_len l),lq (rz (xfA_lp (l) (g) (caps) (pe) hwk (e) hN) hx1)]) func185
theorem xfAL_2(hx0:xfA_f pe l 0=xfA_R.e1):Pu 185 [.sl 9 (Al.cs l),.fn (.func g) [] caps] (rI (-1)):=
 pu mdL (fun e=>[sl (Al.cs_len l),lq (rz (xfA_lp (l) (g) (caps) (pe) hwk (e) hN) hx0)]) func185
end
theorem xfAT(l:List Al)(g:Nat)(caps:List PV)(pe:Al->Bool)(hwk:∀ (w:Al),w∈l->Pu g (.agg (alL w)::caps) (.ret (.bool (pe w))))(hN:l.length<=1000000000):Pu 185 [.sl 9 (Al.cs l),.fn (.func g) [] caps] (.ret (.int .i64 (fxE pe l))):=by
 unfold fxE
 by_cases h:l.findIdx pe<l.length
 ·rw [iP h]; have e:xfA_f pe l 0 = .e0 (l.findIdx pe):=by rw [xfA_x,iP h,Nat.zero_add]
  first | exact xfAL_1 l g caps pe hwk hN _ e | exact xfAL_2 l g caps pe hwk hN _ e
 ·rw [iN h]; have e:xfA_f pe l 0 = .e1:=by rw [xfA_x,iN h]
  first | exact xfAL_1 l g caps pe hwk hN e | exact xfAL_2 l g caps pe hwk hN e
theorem cfA(l:List Al)(g:Nat)(caps:List PV)(pe:Al->Bool)(hwk:∀ (w:Al),w∈l->Pu g (.agg (alL w)::caps) (.ret (.bool (pe w))))(hN:l.length<=1000000000):Pu 156 [.sl 9 (Al.cs l),.fn (.func g) [] caps] (rB (decide (fxE pe l>=0))):=
 pm mdL [cl (@xfAT l g caps pe hwk hN)] func156
abbrev shL(a b:Bool)(c d:Int)(p q:Bool)(g h:Int)(t:Bool):List PV:=[.bool a,.bool b,.int .i64 c,.int .i64 d,.bool p,.bool q,.int .i64 g,.int .i64 h,.bool t]
abbrev shV(a b:Bool)(c d:Int)(p q:Bool)(g h:Int)(t:Bool):List LV:=[.v (.bool a),.v (.bool b),.v (.int .i64 c),.v (.int .i64 d),.v (.bool p),.v (.bool q),.v (.int .i64 g),.v (.int .i64 h),.v (.bool t)]
def shS_r0(o:Int):Bool:=(if o=1 then true else (if o=2 then true else (if o=3 then false else (if o=4 then false else (if o=5 then false else (if o=6 then false else (if o=7 then false else (if o=8 then false else (if o=9 then false else (if o=10 then false else (if o=11 then false else (if o=12 then false else (if o=13 then false else (if o=14 then false else (if o=16 then false else (if o=17 then false else (if o=18 then false else (if o=19 then false else (if o=20 then false else (if o=24 then false else (if o=15 then false else (if o=21 then false else (if o=22 then false else (if o=23 then false else (if o=25 then false else (if o=26 then false else false))))))))))))))))))))))))))
def shS_r1(o:Int):Bool:=(if o=1 then false else (if o=2 then false else (if o=3 then true else (if o=4 then true else (if o=5 then true else (if o=6 then false else (if o=7 then true else (if o=8 then false else (if o=9 then false else (if o=10 then false else (if o=11 then false else (if o=12 then false else (if o=13 then false else (if o=14 then false else (if o=16 then false else (if o=17 then false else (if o=18 then false else (if o=19 then false else (if o=20 then false else (if o=24 then false else (if o=15 then false else (if o=21 then false else (if o=22 then false else (if o=23 then false else (if o=25 then true else (if o=26 then false else false))))))))))))))))))))))))))
def shS_r2(o:Int):Int:=(if o=1 then 0 else (if o=2 then 0 else (if o=3 then 0 else (if o=4 then 0 else (if o=5 then 1 else (if o=6 then 1 else (if o=7 then 2 else (if o=8 then 3 else (if o=9 then 1 else (if o=10 then 2 else (if o=11 then 2 else (if o=12 then 2 else (if o=13 then 2 else (if o=14 then 2 else (if o=16 then 2 else (if o=17 then 2 else (if o=18 then 2 else (if o=19 then 2 else (if o=20 then 2 else (if o=24 then 2 else (if o=15 then 1 else (if o=21 then 1 else (if o=22 then 1 else (if o=23 then 1 else (if o=25 then 2 else (if o=26 then 1 else 0))))))))))))))))))))))))))
def shS_r3(o:Int):Int:=(if o=1 then 0 else (if o=2 then 0 else (if o=3 then 0 else (if o=4 then 6 else (if o=5 then 6 else (if o=6 then 1 else (if o=7 then 2 else (if o=8 then 3 else (if o=9 then 1 else (if o=10 then 2 else (if o=11 then 2 else (if o=12 then 2 else (if o=13 then 2 else (if o=14 then 2 else (if o=16 then 2 else (if o=17 then 2 else (if o=18 then 2 else (if o=19 then 2 else (if o=20 then 2 else (if o=24 then 2 else (if o=15 then 1 else (if o=21 then 1 else (if o=22 then 1 else (if o=23 then 1 else (if o=25 then 7 else (if o=26 then 1 else 0))))))))))))))))))))))))))
def shS_r4(o:Int):Bool:=(if o=1 then false else (if o=2 then false else (if o=3 then false else (if o=4 then false else (if o=5 then false else (if o=6 then true else (if o=7 then false else (if o=8 then false else (if o=9 then false else (if o=10 then false else (if o=11 then false else (if o=12 then false else (if o=13 then false else (if o=14 then false else (if o=16 then false else (if o=17 then false else (if o=18 then false else (if o=19 then false else (if o=20 then false else (if o=24 then false else (if o=15 then false else (if o=21 then false else (if o=22 then false else (if o=23 then false else (if o=25 then false else (if o=26 then false else false))))))))))))))))))))))))))
def shS_r5(o:Int):Bool:=(if o=1 then false else (if o=2 then false else (if o=3 then false else (if o=4 then false else (if o=5 then false else (if o=6 then false else (if o=7 then false else (if o=8 then false else (if o=9 then true else (if o=10 then false else (if o=11 then false else (if o=12 then false else (if o=13 then false else (if o=14 then false else (if o=16 then false else (if o=17 then false else (if o=18 then false else (if o=19 then false else (if o=20 then false else (if o=24 then false else (if o=15 then false else (if o=21 then false else (if o=22 then false else (if o=23 then false else (if o=25 then false else (if o=26 then false else false))))))))))))))))))))))))))
def shS_r6(o:Int):Int:=(if o=1 then 0 else (if o=2 then 0 else (if o=3 then 0 else (if o=4 then 0 else (if o=5 then 0 else (if o=6 then 0 else (if o=7 then 0 else (if o=8 then 0 else (if o=9 then 0 else (if o=10 then 0 else (if o=11 then 0 else (if o=12 then 0 else (if o=13 then 0 else (if o=14 then 0 else (if o=16 then 0 else (if o=17 then 0 else (if o=18 then 0 else (if o=19 then 0 else (if o=20 then 0 else (if o=24 then 0 else (if o=15 then 0 else (if o=21 then 0 else (if o=22 then 0 else (if o=23 then 0 else (if o=25 then 0 else (if o=26 then 1 else 0))))))))))))))))))))))))))
def shS_r7(o:Int):Int:=(if o=1 then 0 else (if o=2 then 0 else (if o=3 then 0 else (if o=4 then 1073741824 else (if o=5 then 1073741824 else (if o=6 then 0 else (if o=7 then 1 else (if o=8 then 0 else (if o=9 then 0 else (if o=10 then 0 else (if o=11 then 0 else (if o=12 then 0 else (if o=13 then 0 else (if o=14 then 0 else (if o=16 then 0 else (if o=17 then 0 else (if o=18 then 0 else (if o=19 then 0 else (if o=20 then 0 else (if o=24 then 0 else (if o=15 then 0 else (if o=21 then 0 else (if o=22 then 0 else (if o=23 then 0 else (if o=25 then 0 else (if o=26 then 1 else 0))))))))))))))))))))))))))
def shS_r8(o:Int):Bool:=(if o=1 then false else (if o=2 then false else (if o=3 then false else (if o=4 then true else (if o=5 then true else (if o=6 then false else (if o=7 then true else (if o=8 then false else (if o=9 then false else (if o=10 then false else (if o=11 then false else (if o=12 then false else (if o=13 then false else (if o=14 then false else (if o=16 then false else (if o=17 then false else (if o=18 then false else (if o=19 then false else (if o=20 then false else (if o=24 then false else (if o=15 then false else (if o=21 then false else (if o=22 then false else (if o=23 then false else (if o=25 then false else (if o=26 then true else false))))))))))))))))))))))))))
def shS_r9(o:Int):Bool:=(if o=1 then true else (if o=2 then true else (if o=3 then true else (if o=4 then true else (if o=5 then true else (if o=6 then true else (if o=7 then true else (if o=8 then true else (if o=9 then true else (if o=10 then true else (if o=11 then true else (if o=12 then true else (if o=13 then true else (if o=14 then true else (if o=16 then true else (if o=17 then true else (if o=18 then true else (if o=19 then true else (if o=20 then true else (if o=24 then true else (if o=15 then true else (if o=21 then true else (if o=22 then true else (if o=23 then true else (if o=25 then true else (if o=26 then true else false))))))))))))))))))))))))))
theorem shS(o:Int):Pu 123 [pI o] (.ret (.tup [.agg [.bool (shS_r0 o),.bool (shS_r1 o),pI (shS_r2 o),pI (shS_r3 o),.bool (shS_r4 o),.bool (shS_r5 o),pI (shS_r6 o),pI (shS_r7 o),.bool (shS_r8 o)],.bool (shS_r9 o)])):=by
 refine t0 ?_;by_cases h0:o=1
 ·simp only [shS_r0,shS_r1,shS_r2,shS_r3,shS_r4,shS_r5,shS_r6,shS_r7,shS_r8,shS_r9,iP h0]; exact tM mdL [rp 2 (et1 h0)] func123
 ·refine tp [en1 h0] ?_;by_cases h1:o=2
  ·simp only [shS_r0,shS_r1,shS_r2,shS_r3,shS_r4,shS_r5,shS_r6,shS_r7,shS_r8,shS_r9,iN h0,iP h1]; exact tM mdL [et1 h1] func123
  ·refine tp [en1 h1] ?_;by_cases h2:o=3
   ·simp only [shS_r0,shS_r1,shS_r2,shS_r3,shS_r4,shS_r5,shS_r6,shS_r7,shS_r8,shS_r9,iN h0,iN h1,iP h2]; exact tM mdL [et1 h2] func123
   ·refine tp [en1 h2] ?_;by_cases h3:o=4
    ·simp only [shS_r0,shS_r1,shS_r2,shS_r3,shS_r4,shS_r5,shS_r6,shS_r7,shS_r8,shS_r9,iN h0,iN h1,iN h2,iP h3]; exact tM mdL [et1 h3] func123
    ·refine tp [en1 h3] ?_;by_cases h4:o=5
     ·simp only [shS_r0,shS_r1,shS_r2,shS_r3,shS_r4,shS_r5,shS_r6,shS_r7,shS_r8,shS_r9,iN h0,iN h1,iN h2,iN h3,iP h4]; exact tM mdL [et1 h4] func123
     ·refine tp [en1 h4] ?_;by_cases h5:o=6
      ·simp only [shS_r0,shS_r1,shS_r2,shS_r3,shS_r4,shS_r5,shS_r6,shS_r7,shS_r8,shS_r9,iN h0,iN h1,iN h2,iN h3,iN h4,iP h5]; exact tM mdL [et1 h5] func123
      ·refine tp [en1 h5] ?_;by_cases h6:o=7
       ·simp only [shS_r0,shS_r1,shS_r2,shS_r3,shS_r4,shS_r5,shS_r6,shS_r7,shS_r8,shS_r9,iN h0,iN h1,iN h2,iN h3,iN h4,iN h5,iP h6]; exact tM mdL [et1 h6] func123
       ·refine tp [en1 h6] ?_;by_cases h7:o=8
        ·simp only [shS_r0,shS_r1,shS_r2,shS_r3,shS_r4,shS_r5,shS_r6,shS_r7,shS_r8,shS_r9,iN h0,iN h1,iN h2,iN h3,iN h4,iN h5,iN h6,iP h7]; exact tM mdL [et1 h7] func123
        ·refine tp [en1 h7] ?_;by_cases h8:o=9
         ·simp only [shS_r0,shS_r1,shS_r2,shS_r3,shS_r4,shS_r5,shS_r6,shS_r7,shS_r8,shS_r9,iN h0,iN h1,iN h2,iN h3,iN h4,iN h5,iN h6,iN h7,iP h8]; exact tM mdL [et1 h8] func123
         ·refine tp [en1 h8] ?_;by_cases h9:o=10
          ·simp only [shS_r0,shS_r1,shS_r2,shS_r3,shS_r4,shS_r5,shS_r6,shS_r7,shS_r8,shS_r9,iN h0,iN h1,iN h2,iN h3,iN h4,iN h5,iN h6,iN h7,iN h8,iP h9]; exact tM mdL [rp 2 (et1 h9)] func123
          ·refine tp [en1 h9] ?_;by_cases h10:o=11
           ·simp only [shS_r0,shS_r1,shS_r2,shS_r3,shS_r4,shS_r5,shS_r6,shS_r7,shS_r8,shS_r9,iN h0,iN h1,iN h2,iN h3,iN h4,iN h5,iN h6,iN h7,iN h8,iN h9,iP h10]; exact tM mdL [rp 2 (et1 h10)] func123
           ·refine tp [en1 h10] ?_;by_cases h11:o=12
            ·simp only [shS_r0,shS_r1,shS_r2,shS_r3,shS_r4,shS_r5,shS_r6,shS_r7,shS_r8,shS_r9,iN h0,iN h1,iN h2,iN h3,iN h4,iN h5,iN h6,iN h7,iN h8,iN h9,iN h10,iP h11]; exact tM mdL [rp 2 (et1 h11)] func123
            ·refine tp [en1 h11] ?_;by_cases h12:o=13
             ·simp only [shS_r0,shS_r1,shS_r2,shS_r3,shS_r4,shS_r5,shS_r6,shS_r7,shS_r8,shS_r9,iN h0,iN h1,iN h2,iN h3,iN h4,iN h5,iN h6,iN h7,iN h8,iN h9,iN h10,iN h11,iP h12]; exact tM mdL [rp 2 (et1 h12)] func123
             ·refine tp [en1 h12] ?_;by_cases h13:o=14
              ·simp only [shS_r0,shS_r1,shS_r2,shS_r3,shS_r4,shS_r5,shS_r6,shS_r7,shS_r8,shS_r9,iN h0,iN h1,iN h2,iN h3,iN h4,iN h5,iN h6,iN h7,iN h8,iN h9,iN h10,iN h11,iN h12,iP h13]; exact tM mdL [rp 2 (et1 h13)] func123
              ·refine tp [en1 h13] ?_;by_cases h14:o=16
               ·simp only [shS_r0,shS_r1,shS_r2,shS_r3,shS_r4,shS_r5,shS_r6,shS_r7,shS_r8,shS_r9,iN h0,iN h1,iN h2,iN h3,iN h4,iN h5,iN h6,iN h7,iN h8,iN h9,iN h10,iN h11,iN h12,iN h13,iP h14]; exact tM mdL [rp 2 (et1 h14)] func123
               ·refine tp [en1 h14] ?_;by_cases h15:o=17
                ·simp only [shS_r0,shS_r1,shS_r2,shS_r3,shS_r4,shS_r5,shS_r6,shS_r7,shS_r8,shS_r9,iN h0,iN h1,iN h2,iN h3,iN h4,iN h5,iN h6,iN h7,iN h8,iN h9,iN h10,iN h11,iN h12,iN h13,iN h14,iP h15]; exact tM mdL [rp 2 (et1 h15)] func123
                ·refine tp [en1 h15] ?_;by_cases h16:o=18
                 ·simp only [shS_r0,shS_r1,shS_r2,shS_r3,shS_r4,shS_r5,shS_r6,shS_r7,shS_r8,shS_r9,iN h0,iN h1,iN h2,iN h3,iN h4,iN h5,iN h6,iN h7,iN h8,iN h9,iN h10,iN h11,iN h12,iN h13,iN h14,iN h15,iP h16]; exact tM mdL [rp 2 (et1 h16)] func123
                 ·refine tp [en1 h16] ?_;by_cases h17:o=19
                  ·simp only [shS_r0,shS_r1,shS_r2,shS_r3,shS_r4,shS_r5,shS_r6,shS_r7,shS_r8,shS_r9,iN h0,iN h1,iN h2,iN h3,iN h4,iN h5,iN h6,iN h7,iN h8,iN h9,iN h10,iN h11,iN h12,iN h13,iN h14,iN h15,iN h16,iP h17]; exact tM mdL [rp 2 (et1 h17)] func123
                  ·refine tp [en1 h17] ?_;by_cases h18:o=20
                   ·simp only [shS_r0,shS_r1,shS_r2,shS_r3,shS_r4,shS_r5,shS_r6,shS_r7,shS_r8,shS_r9,iN h0,iN h1,iN h2,iN h3,iN h4,iN h5,iN h6,iN h7,iN h8,iN h9,iN h10,iN h11,iN h12,iN h13,iN h14,iN h15,iN h16,iN h17,iP h18]; exact tM mdL [rp 2 (et1 h18)] func123
                   ·refine tp [en1 h18] ?_;by_cases h19:o=24
                    ·simp only [shS_r0,shS_r1,shS_r2,shS_r3,shS_r4,shS_r5,shS_r6,shS_r7,shS_r8,shS_r9,iN h0,iN h1,iN h2,iN h3,iN h4,iN h5,iN h6,iN h7,iN h8,iN h9,iN h10,iN h11,iN h12,iN h13,iN h14,iN h15,iN h16,iN h17,iN h18,iP h19]; exact tM mdL [et1 h19] func123
                    ·refine tp [en1 h19] ?_;by_cases h20:o=15
                     ·simp only [shS_r0,shS_r1,shS_r2,shS_r3,shS_r4,shS_r5,shS_r6,shS_r7,shS_r8,shS_r9,iN h0,iN h1,iN h2,iN h3,iN h4,iN h5,iN h6,iN h7,iN h8,iN h9,iN h10,iN h11,iN h12,iN h13,iN h14,iN h15,iN h16,iN h17,iN h18,iN h19,iP h20]; exact tM mdL [rp 2 (et1 h20)] func123
                     ·refine tp [en1 h20] ?_;by_cases h21:o=21
                      ·simp only [shS_r0,shS_r1,shS_r2,shS_r3,shS_r4,shS_r5,shS_r6,shS_r7,shS_r8,shS_r9,iN h0,iN h1,iN h2,iN h3,iN h4,iN h5,iN h6,iN h7,iN h8,iN h9,iN h10,iN h11,iN h12,iN h13,iN h14,iN h15,iN h16,iN h17,iN h18,iN h19,iN h20,iP h21]; exact tM mdL [rp 2 (et1 h21)] func123
                      ·refine tp [en1 h21] ?_;by_cases h22:o=22
                       ·simp only [shS_r0,shS_r1,shS_r2,shS_r3,shS_r4,shS_r5,shS_r6,shS_r7,shS_r8,shS_r9,iN h0,iN h1,iN h2,iN h3,iN h4,iN h5,iN h6,iN h7,iN h8,iN h9,iN h10,iN h11,iN h12,iN h13,iN h14,iN h15,iN h16,iN h17,iN h18,iN h19,iN h20,iN h21,iP h22]; exact tM mdL [rp 2 (et1 h22)] func123
                       ·refine tp [en1 h22] ?_;by_cases h23:o=23
                        ·simp only [shS_r0,shS_r1,shS_r2,shS_r3,shS_r4,shS_r5,shS_r6,shS_r7,shS_r8,shS_r9,iN h0,iN h1,iN h2,iN h3,iN h4,iN h5,iN h6,iN h7,iN h8,iN h9,iN h10,iN h11,iN h12,iN h13,iN h14,iN h15,iN h16,iN h17,iN h18,iN h19,iN h20,iN h21,iN h22,iP h23]; exact tM mdL [et1 h23] func123
                        ·refine tp [en1 h23] ?_;by_cases h24:o=25
                         ·simp only [shS_r0,shS_r1,shS_r2,shS_r3,shS_r4,shS_r5,shS_r6,shS_r7,shS_r8,shS_r9,iN h0,iN h1,iN h2,iN h3,iN h4,iN h5,iN h6,iN h7,iN h8,iN h9,iN h10,iN h11,iN h12,iN h13,iN h14,iN h15,iN h16,iN h17,iN h18,iN h19,iN h20,iN h21,iN h22,iN h23,iP h24]; exact tM mdL [et1 h24] func123
                         ·refine tp [en1 h24] ?_;by_cases h25:o=26
                          ·simp only [shS_r0,shS_r1,shS_r2,shS_r3,shS_r4,shS_r5,shS_r6,shS_r7,shS_r8,shS_r9,iN h0,iN h1,iN h2,iN h3,iN h4,iN h5,iN h6,iN h7,iN h8,iN h9,iN h10,iN h11,iN h12,iN h13,iN h14,iN h15,iN h16,iN h17,iN h18,iN h19,iN h20,iN h21,iN h22,iN h23,iN h24,iP h25]; exact tM mdL [et1 h25] func123
                          ·simp only [shS_r0,shS_r1,shS_r2,shS_r3,shS_r4,shS_r5,shS_r6,shS_r7,shS_r8,shS_r9,iN h0,iN h1,iN h2,iN h3,iN h4,iN h5,iN h6,iN h7,iN h8,iN h9,iN h10,iN h11,iN h12,iN h13,iN h14,iN h15,iN h16,iN h17,iN h18,iN h19,iN h20,iN h21,iN h22,iN h23,iN h24,iN h25]; exact tM mdL [en1 h25] func123
theorem ct1(w:Al):Pu 157 [.agg (alL w)] (rB (decide (((alNs w).length:Int)>6))):=
 pm mdL [sl (nmsC_len (alNs w))] func157
abbrev fm1I(t:Tp)(xe:Ext):S:=⟨[(1,.lp 1 0),(2,.v (.int .i64 0))],[(1,tpV t)],xe⟩
abbrev fm2I(t:Tp)(nmd:Bool)(xe:Ext):S:=⟨[(1,.lp 1 0),(2,.v (.int .i64 0)),(3,.v (.bool nmd))],[(1,tpV t)],xe⟩
abbrev fmI(t:Tp)(nmd cmp:Bool)(xe:Ext):S:=⟨[(1,.lp 1 0),(2,.v (.int .i64 0)),(3,.v (.bool nmd)),(4,.v (.bool cmp))],[(1,tpV t)],xe⟩
theorem fm1_1(t:Tp)(xe:Ext)(hx0:tpO t=4)(cx:Cx)(hcx:cx.n=102){Q:PExit->S->Prop}(hq:Q (.normal) (S.mk [(1,.lp 1 0),(2,vI6 0),(3,.v (.bool true))] [(1,tpV t)] xe)):PW prog cx (regF f164 1) (fm1I t xe) Q:=
 pw mdL 102 [rp 4 (et1 hx0)] [1,2,3] [1] hcx hq
theorem fm1_2(t:Tp)(xe:Ext)(hx0:¬tpO t=4)(cx:Cx)(hcx:cx.n=102){Q:PExit->S->Prop}(hq:Q (.normal) (S.mk [(1,.lp 1 0),(2,vI6 0),(3,.v (.bool (tpO t==5)))] [(1,tpV t)] xe)):PW prog cx (regF f164 1) (fm1I t xe) Q:=
 pw mdL 102 [rp 4 (en1 hx0)] [1,2,3] [1] hcx hq
def fm1_v3(t:Tp):Bool:=(if tpO t=4 then (true) else ((tpO t==5)))
theorem fm1J(t:Tp)(xe:Ext):(Ob.frag 102 (regF f164 1) (fm1I t xe) (.normal) (S.mk [(1,.lp 1 0),(2,vI6 0),(3,.v (.bool (fm1_v3 t)))] [(1,tpV t)] xe)).ok prog:=by
 intro cx hcx
 by_cases g0:tpO t=4
 ·exact fm1_1 t xe g0 cx hcx ⟨rfl,by rw [show fm1_v3 t=(true) by unfold fm1_v3; rw [iP g0]]⟩
 ·exact fm1_2 t xe g0 cx hcx ⟨rfl,by rw [show fm1_v3 t=((tpO t==5)) by unfold fm1_v3; rw [iN g0]]⟩
theorem fm2_1(t:Tp)(nmd:Bool)(xe:Ext)(hx0:tpO t=4)(cx:Cx)(hcx:cx.n=102){Q:PExit->S->Prop}(hq:Q (.normal) (S.mk [(1,.lp 1 0),(2,vI6 0),(3,.v (.bool nmd)),(4,.v (.bool true))] [(1,tpV t)] xe)):PW prog cx (regF f164 2) (fm2I t nmd xe) Q:=
 pw mdL 102 [rp 4 (et1 hx0)] [1,2,3,4] [1] hcx hq
theorem fm2_2(t:Tp)(nmd:Bool)(xe:Ext)(hx0:¬tpO t=4)(cx:Cx)(hcx:cx.n=102){Q:PExit->S->Prop}(hq:Q (.normal) (S.mk [(1,.lp 1 0),(2,vI6 0),(3,.v (.bool nmd)),(4,.v (.bool (tpO t==6)))] [(1,tpV t)] xe)):PW prog cx (regF f164 2) (fm2I t nmd xe) Q:=
 pw mdL 102 [rp 4 (en1 hx0)] [1,2,3,4] [1] hcx hq
def fm2_v4(t:Tp)(nmd:Bool):Bool:=(if tpO t=4 then (true) else ((tpO t==6)))
theorem fm2J(t:Tp)(nmd:Bool)(xe:Ext):(Ob.frag 102 (regF f164 2) (fm2I t nmd xe) (.normal) (S.mk [(1,.lp 1 0),(2,vI6 0),(3,.v (.bool nmd)),(4,.v (.bool (fm2_v4 t nmd)))] [(1,tpV t)] xe)).ok prog:=by
 intro cx hcx
 by_cases g0:tpO t=4
 ·exact fm2_1 t nmd xe g0 cx hcx ⟨rfl,by rw [show fm2_v4 t nmd=(true) by unfold fm2_v4; rw [iP g0]]⟩
 ·exact fm2_2 t nmd xe g0 cx hcx ⟨rfl,by rw [show fm2_v4 t nmd=((tpO t==6)) by unfold fm2_v4; rw [iN g0]]⟩
section
variable (t:Tp) (nmd cmp:Bool) (xe:Ext)
include t nmd cmp xe
theorem fm3_1(hx0:tpO t<1)(cx:Cx)(hcx:cx.n=102){Q:PExit->S->Prop}(hq:Q (.normal) (S.mk [(1,.lp 1 0),(2,vI6 0),(3,.v (.bool nmd)),(4,.v (.bool cmp)),(63,.v (.bool true))] [(1,tpV t)] xe)):PW prog cx (regF f164 3) (fmI t nmd cmp xe) Q:=
 pw mdL 102 [rp 4 (dt1 hx0),rp 20 (bt true)] [1,2,3,4,63] [1] hcx hq
theorem fm3_2(hx0:¬tpO t<1)(hx1:tpO t>6)(cx:Cx)(hcx:cx.n=102){Q:PExit->S->Prop}(hq:Q (.normal) (S.mk [(1,.lp 1 0),(2,vI6 0),(3,.v (.bool nmd)),(4,.v (.bool cmp)),(63,.v (.bool true))] [(1,tpV t)] xe)):PW prog cx (regF f164 3) (fmI t nmd cmp xe) Q:=
 pw mdL 102 [rp 4 (df1 hx0),rp 6 (dt1 hx1),rp 14 (bt true)] [1,2,3,4,63] [1] hcx hq
theorem fm3_3(hx0:¬tpO t<1)(hx1:¬tpO t>6)(hx2:¬tpNm t=ByteArray.mk #[])(hx3:nmd=false)(cx:Cx)(hcx:cx.n=102){Q:PExit->S->Prop}(hq:Q (.normal) (S.mk [(1,.lp 1 0),(2,vI6 0),(3,.v (.bool nmd)),(4,.v (.bool cmp)),(63,.v (.bool true))] [(1,tpV t)] xe)):PW prog cx (regF f164 3) (fmI t nmd cmp xe) Q:=
 pw mdL 102 [rp 4 (df1 hx0),rp 4 (df1 hx1),rp 2 (bt (!ByteArray.toList (tpNm t)==ByteArray.toList nm0) (bnT (bsF hx2))),df1 hx1,bt (!ByteArray.toList (tpNm t)==ByteArray.toList nm0) (bnT (bsF hx2)),df1 hx1,rp 7 (bt1 (bnT hx3)),rp 7 (bt true)] [1,2,3,4,63] [1] hcx hq
theorem fm3_4(hx0:¬tpO t<1)(hx1:¬tpO t>6)(hx2:¬tpNm t=ByteArray.mk #[])(hx3:nmd=true)(hx4:((tpA t).length:Int)>0)(hx5:cmp=false)(cx:Cx)(hcx:cx.n=102){Q:PExit->S->Prop}(hq:Q (.normal) (S.mk [(1,.lp 1 0),(2,vI6 0),(3,.v (.bool nmd)),(4,.v (.bool cmp)),(63,.v (.bool true))] [(1,tpV t)] xe)):PW prog cx (regF f164 3) (fmI t nmd cmp xe) Q:=
 pw mdL 102 [rp 4 (df1 hx0),rp 4 (df1 hx1),rp 2 (bt (!ByteArray.toList (tpNm t)==ByteArray.toList nm0) (bnT (bsF hx2))),df1 hx1,bt (!ByteArray.toList (tpNm t)==ByteArray.toList nm0) (bnT (bsF hx2)),df1 hx1,rp 3 (bf1 (bnF hx3)),sl (Tp.cs_len (tpA t)),rp 2 (bf1 (bnF hx3)),rp 2 (dt1 hx4),bf1 (bnF hx3),dt1 hx4,bf1 (bnF hx3),rp 7 (bt1 (bnT hx5))] [1,2,3,4,63] [1] hcx hq
theorem fm3_5(hx0:¬tpO t<1)(hx1:¬tpO t>6)(hx2:¬tpNm t=ByteArray.mk #[])(hx3:nmd=true)(hx4:((tpA t).length:Int)>0)(hx5:cmp=true)(hx6:((tpNs t).length:Int)>0)(cx:Cx)(hcx:cx.n=102){Q:PExit->S->Prop}(hq:Q (.normal) (S.mk [(1,.lp 1 0),(2,vI6 0),(3,.v (.bool nmd)),(4,.v (.bool cmp)),(63,.v (.bool (tpO t != 6)))] [(1,tpV t)] xe)):PW prog cx (regF f164 3) (fmI t nmd cmp xe) Q:=
 pw mdL 102 [rp 4 (df1 hx0),rp 4 (df1 hx1),rp 2 (bt (!ByteArray.toList (tpNm t)==ByteArray.toList nm0) (bnT (bsF hx2))),df1 hx1,bt (!ByteArray.toList (tpNm t)==ByteArray.toList nm0) (bnT (bsF hx2)),df1 hx1,rp 3 (bf1 (bnF hx3)),sl (Tp.cs_len (tpA t)),rp 2 (bf1 (bnF hx3)),rp 2 (dt1 hx4),bf1 (bnF hx3),dt1 hx4,bf1 (bnF hx3),rp 3 (bf1 (bnF hx5)),sl (nmsC_len (tpNs t)),rp 2 (bf1 (bnF hx5)),rp 3 (dt1 hx6),bf1 (bnF hx5),dt1 hx6,bf1 (bnF hx5)] [1,2,3,4,63] [1] hcx hq
theorem fm3_6(hx0:¬tpO t<1)(hx1:¬tpO t>6)(hx2:¬tpNm t=ByteArray.mk #[])(hx3:nmd=true)(hx4:((tpA t).length:Int)>0)(hx5:cmp=true)(hx6:¬((tpNs t).length:Int)>0)(cx:Cx)(hcx:cx.n=102){Q:PExit->S->Prop}(hq:Q (.normal) (S.mk [(1,.lp 1 0),(2,vI6 0),(3,.v (.bool nmd)),(4,.v (.bool cmp)),(63,.v (.bool false))] [(1,tpV t)] xe)):PW prog cx (regF f164 3) (fmI t nmd cmp xe) Q:=
 pw mdL 102 [rp 4 (df1 hx0),rp 4 (df1 hx1),rp 2 (bt (!ByteArray.toList (tpNm t)==ByteArray.toList nm0) (bnT (bsF hx2))),df1 hx1,bt (!ByteArray.toList (tpNm t)==ByteArray.toList nm0) (bnT (bsF hx2)),df1 hx1,rp 3 (bf1 (bnF hx3)),sl (Tp.cs_len (tpA t)),rp 2 (bf1 (bnF hx3)),rp 2 (dt1 hx4),bf1 (bnF hx3),dt1 hx4,bf1 (bnF hx3),rp 3 (bf1 (bnF hx5)),sl (nmsC_len (tpNs t)),rp 2 (bf1 (bnF hx5)),rp 3 (df1 hx6),bf1 (bnF hx5),df1 hx6,bf1 (bnF hx5)] [1,2,3,4,63] [1] hcx hq
theorem fm3_7(hx0:¬tpO t<1)(hx1:¬tpO t>6)(hx2:¬tpNm t=ByteArray.mk #[])(hx3:nmd=true)(hx4:¬((tpA t).length:Int)>0)(hx5:((tpNs t).length:Int)>0)(cx:Cx)(hcx:cx.n=102){Q:PExit->S->Prop}(hq:Q (.normal) (S.mk [(1,.lp 1 0),(2,vI6 0),(3,.v (.bool nmd)),(4,.v (.bool cmp)),(63,.v (.bool (tpO t != 6)))] [(1,tpV t)] xe)):PW prog cx (regF f164 3) (fmI t nmd cmp xe) Q:=
 pw mdL 102 [rp 4 (df1 hx0),rp 4 (df1 hx1),rp 2 (bt (!ByteArray.toList (tpNm t)==ByteArray.toList nm0) (bnT (bsF hx2))),df1 hx1,bt (!ByteArray.toList (tpNm t)==ByteArray.toList nm0) (bnT (bsF hx2)),df1 hx1,rp 3 (bf1 (bnF hx3)),sl (Tp.cs_len (tpA t)),rp 2 (bf1 (bnF hx3)),rp 2 (df1 hx4),bf1 (bnF hx3),df1 hx4,bf1 (bnF hx3),rp 3 (bf false),sl (nmsC_len (tpNs t)),rp 2 (bf false),rp 3 (dt1 hx5),bf false,dt1 hx5,bf false] [1,2,3,4,63] [1] hcx hq
theorem fm3_8(hx0:¬tpO t<1)(hx1:¬tpO t>6)(hx2:¬tpNm t=ByteArray.mk #[])(hx3:nmd=true)(hx4:¬((tpA t).length:Int)>0)(hx5:¬((tpNs t).length:Int)>0)(cx:Cx)(hcx:cx.n=102){Q:PExit->S->Prop}(hq:Q (.normal) (S.mk [(1,.lp 1 0),(2,vI6 0),(3,.v (.bool nmd)),(4,.v (.bool cmp)),(63,.v (.bool false))] [(1,tpV t)] xe)):PW prog cx (regF f164 3) (fmI t nmd cmp xe) Q:=
 pw mdL 102 [rp 4 (df1 hx0),rp 4 (df1 hx1),rp 2 (bt (!ByteArray.toList (tpNm t)==ByteArray.toList nm0) (bnT (bsF hx2))),df1 hx1,bt (!ByteArray.toList (tpNm t)==ByteArray.toList nm0) (bnT (bsF hx2)),df1 hx1,rp 3 (bf1 (bnF hx3)),sl (Tp.cs_len (tpA t)),rp 2 (bf1 (bnF hx3)),rp 2 (df1 hx4),bf1 (bnF hx3),df1 hx4,bf1 (bnF hx3),rp 3 (bf false),sl (nmsC_len (tpNs t)),rp 2 (bf false),rp 3 (df1 hx5),bf false,df1 hx5,bf false] [1,2,3,4,63] [1] hcx hq
theorem fm3_9(hx0:¬tpO t<1)(hx1:¬tpO t>6)(hx2:tpNm t=ByteArray.mk #[])(hx3:((tpA t).length:Int)>0)(hx4:cmp=false)(cx:Cx)(hcx:cx.n=102){Q:PExit->S->Prop}(hq:Q (.normal) (S.mk [(1,.lp 1 0),(2,vI6 0),(3,.v (.bool nmd)),(4,.v (.bool cmp)),(63,.v (.bool true))] [(1,tpV t)] xe)):PW prog cx (regF f164 3) (fmI t nmd cmp xe) Q:=
 pw mdL 102 [rp 4 (df1 hx0),rp 4 (df1 hx1),rp 2 (bf (!ByteArray.toList (tpNm t)==ByteArray.toList nm0) (bnF (bsT hx2))),df1 hx1,bf (!ByteArray.toList (tpNm t)==ByteArray.toList nm0) (bnF (bsT hx2)),df1 hx1,rp 3 (bf false),sl (Tp.cs_len (tpA t)),rp 2 (bf false),rp 2 (dt1 hx3),bf false,dt1 hx3,bf false,rp 7 (bt1 (bnT hx4))] [1,2,3,4,63] [1] hcx hq
theorem fm3_10(hx0:¬tpO t<1)(hx1:¬tpO t>6)(hx2:tpNm t=ByteArray.mk #[])(hx3:((tpA t).length:Int)>0)(hx4:cmp=true)(hx5:((tpNs t).length:Int)>0)(cx:Cx)(hcx:cx.n=102){Q:PExit->S->Prop}(hq:Q (.normal) (S.mk [(1,.lp 1 0),(2,vI6 0),(3,.v (.bool nmd)),(4,.v (.bool cmp)),(63,.v (.bool (tpO t != 6)))] [(1,tpV t)] xe)):PW prog cx (regF f164 3) (fmI t nmd cmp xe) Q:=
 pw mdL 102 [rp 4 (df1 hx0),rp 4 (df1 hx1),rp 2 (bf (!ByteArray.toList (tpNm t)==ByteArray.toList nm0) (bnF (bsT hx2))),df1 hx1,bf (!ByteArray.toList (tpNm t)==ByteArray.toList nm0) (bnF (bsT hx2)),df1 hx1,rp 3 (bf false),sl (Tp.cs_len (tpA t)),rp 2 (bf false),rp 2 (dt1 hx3),bf false,dt1 hx3,bf false,rp 3 (bf1 (bnF hx4)),sl (nmsC_len (tpNs t)),rp 2 (bf1 (bnF hx4)),rp 3 (dt1 hx5),bf1 (bnF hx4),dt1 hx5,bf1 (bnF hx4)] [1,2,3,4,63] [1] hcx hq
theorem fm3_11(hx0:¬tpO t<1)(hx1:¬tpO t>6)(hx2:tpNm t=ByteArray.mk #[])(hx3:((tpA t).length:Int)>0)(hx4:cmp=true)(hx5:¬((tpNs t).length:Int)>0)(cx:Cx)(hcx:cx.n=102){Q:PExit->S->Prop}(hq:Q (.normal) (S.mk [(1,.lp 1 0),(2,vI6 0),(3,.v (.bool nmd)),(4,.v (.bool cmp)),(63,.v (.bool false))] [(1,tpV t)] xe)):PW prog cx (regF f164 3) (fmI t nmd cmp xe) Q:=
 pw mdL 102 [rp 4 (df1 hx0),rp 4 (df1 hx1),rp 2 (bf (!ByteArray.toList (tpNm t)==ByteArray.toList nm0) (bnF (bsT hx2))),df1 hx1,bf (!ByteArray.toList (tpNm t)==ByteArray.toList nm0) (bnF (bsT hx2)),df1 hx1,rp 3 (bf false),sl (Tp.cs_len (tpA t)),rp 2 (bf false),rp 2 (dt1 hx3),bf false,dt1 hx3,bf false,rp 3 (bf1 (bnF hx4)),sl (nmsC_len (tpNs t)),rp 2 (bf1 (bnF hx4)),rp 3 (df1 hx5),bf1 (bnF hx4),df1 hx5,bf1 (bnF hx4)] [1,2,3,4,63] [1] hcx hq
theorem fm3_12(hx0:¬tpO t<1)(hx1:¬tpO t>6)(hx2:tpNm t=ByteArray.mk #[])(hx3:¬((tpA t).length:Int)>0)(hx4:((tpNs t).length:Int)>0)(cx:Cx)(hcx:cx.n=102){Q:PExit->S->Prop}(hq:Q (.normal) (S.mk [(1,.lp 1 0),(2,vI6 0),(3,.v (.bool nmd)),(4,.v (.bool cmp)),(63,.v (.bool (tpO t != 6)))] [(1,tpV t)] xe)):PW prog cx (regF f164 3) (fmI t nmd cmp xe) Q:=
 pw mdL 102 [rp 4 (df1 hx0),rp 4 (df1 hx1),rp 2 (bf (!ByteArray.toList (tpNm t)==ByteArray.toList nm0) (bnF (bsT hx2))),df1 hx1,bf (!ByteArray.toList (tpNm t)==ByteArray.toList nm0) (bnF (bsT hx2)),df1 hx1,rp 3 (bf false),sl (Tp.cs_len (tpA t)),rp 2 (bf false),rp 2 (df1 hx3),bf false,df1 hx3,rp 4 (bf false),sl (nmsC_len (tpNs t)),rp 2 (bf false),rp 3 (dt1 hx4),bf false,dt1 hx4,bf false] [1,2,3,4,63] [1] hcx hq
theorem fm3_13(hx0:¬tpO t<1)(hx1:¬tpO t>6)(hx2:tpNm t=ByteArray.mk #[])(hx3:¬((tpA t).length:Int)>0)(hx4:¬((tpNs t).length:Int)>0)(cx:Cx)(hcx:cx.n=102){Q:PExit->S->Prop}(hq:Q (.normal) (S.mk [(1,.lp 1 0),(2,vI6 0),(3,.v (.bool nmd)),(4,.v (.bool cmp)),(63,.v (.bool false))] [(1,tpV t)] xe)):PW prog cx (regF f164 3) (fmI t nmd cmp xe) Q:=
 pw mdL 102 [rp 4 (df1 hx0),rp 4 (df1 hx1),rp 2 (bf (!ByteArray.toList (tpNm t)==ByteArray.toList nm0) (bnF (bsT hx2))),df1 hx1,bf (!ByteArray.toList (tpNm t)==ByteArray.toList nm0) (bnF (bsT hx2)),df1 hx1,rp 3 (bf false),sl (Tp.cs_len (tpA t)),rp 2 (bf false),rp 2 (df1 hx3),bf false,df1 hx3,rp 4 (bf false),sl (nmsC_len (tpNs t)),rp 2 (bf false),rp 3 (df1 hx4),bf false,df1 hx4,bf false] [1,2,3,4,63] [1] hcx hq
end
def fm3_v63(t:Tp)(nmd cmp:Bool):Bool:=(if tpO t<1 then (true) else (if tpO t>6 then (true) else (if tpNm t=ByteArray.mk #[] then (if ((tpA t).length:Int)>0 then (if cmp=true then (if ((tpNs t).length:Int)>0 then ((tpO t != 6)) else (false)) else (true)) else (if ((tpNs t).length:Int)>0 then ((tpO t != 6)) else (false))) else (if nmd=true then (if ((tpA t).length:Int)>0 then (if cmp=true then (if ((tpNs t).length:Int)>0 then ((tpO t != 6)) else (false)) else (true)) else (if ((tpNs t).length:Int)>0 then ((tpO t != 6)) else (false))) else (true)))))
theorem fm3J(t:Tp)(nmd cmp:Bool)(xe:Ext):(Ob.frag 102 (regF f164 3) (fmI t nmd cmp xe) (.normal) (S.mk [(1,.lp 1 0),(2,vI6 0),(3,.v (.bool nmd)),(4,.v (.bool cmp)),(63,.v (.bool (fm3_v63 t nmd cmp)))] [(1,tpV t)] xe)).ok prog:=by
 intro cx hcx
 by_cases g0:tpO t<1
 ·exact fm3_1 t nmd cmp xe g0 cx hcx ⟨rfl,by rw [show fm3_v63 t nmd cmp=(true) by unfold fm3_v63; rw [iP g0]]⟩
 ·by_cases g1:tpO t>6
  ·exact fm3_2 t nmd cmp xe g0 g1 cx hcx ⟨rfl,by rw [show fm3_v63 t nmd cmp=(true) by unfold fm3_v63; rw [iN g0,iP g1]]⟩
  ·by_cases g2:tpNm t=ByteArray.mk #[]
   ·by_cases g3:((tpA t).length:Int)>0
    ·by_cases g4:cmp=true
     ·by_cases g5:((tpNs t).length:Int)>0
      ·exact fm3_10 t nmd cmp xe g0 g1 g2 g3 g4 g5 cx hcx ⟨rfl,by rw [show fm3_v63 t nmd cmp=((tpO t != 6)) by unfold fm3_v63; rw [iN g0,iN g1,iP g2,iP g3,iP g4,iP g5]]⟩
      ·exact fm3_11 t nmd cmp xe g0 g1 g2 g3 g4 g5 cx hcx ⟨rfl,by rw [show fm3_v63 t nmd cmp=(false) by unfold fm3_v63; rw [iN g0,iN g1,iP g2,iP g3,iP g4,iN g5]]⟩
     ·exact fm3_9 t nmd cmp xe g0 g1 g2 g3 (Bool.eq_false_iff.2 g4) cx hcx ⟨rfl,by rw [show fm3_v63 t nmd cmp=(true) by unfold fm3_v63; rw [iN g0,iN g1,iP g2,iP g3,iN g4]]⟩
    ·by_cases g4:((tpNs t).length:Int)>0
     ·exact fm3_12 t nmd cmp xe g0 g1 g2 g3 g4 cx hcx ⟨rfl,by rw [show fm3_v63 t nmd cmp=((tpO t != 6)) by unfold fm3_v63; rw [iN g0,iN g1,iP g2,iN g3,iP g4]]⟩
     ·exact fm3_13 t nmd cmp xe g0 g1 g2 g3 g4 cx hcx ⟨rfl,by rw [show fm3_v63 t nmd cmp=(false) by unfold fm3_v63; rw [iN g0,iN g1,iP g2,iN g3,iN g4]]⟩
   ·by_cases g3:nmd=true
    ·by_cases g4:((tpA t).length:Int)>0
     ·by_cases g5:cmp=true
      ·by_cases g6:((tpNs t).length:Int)>0
       ·exact fm3_5 t nmd cmp xe g0 g1 g2 g3 g4 g5 g6 cx hcx ⟨rfl,by rw [show fm3_v63 t nmd cmp=((tpO t != 6)) by unfold fm3_v63; rw [iN g0,iN g1,iN g2,iP g3,iP g4,iP g5,iP g6]]⟩
       ·exact fm3_6 t nmd cmp xe g0 g1 g2 g3 g4 g5 g6 cx hcx ⟨rfl,by rw [show fm3_v63 t nmd cmp=(false) by unfold fm3_v63; rw [iN g0,iN g1,iN g2,iP g3,iP g4,iP g5,iN g6]]⟩
      ·exact fm3_4 t nmd cmp xe g0 g1 g2 g3 g4 (Bool.eq_false_iff.2 g5) cx hcx ⟨rfl,by rw [show fm3_v63 t nmd cmp=(true) by unfold fm3_v63; rw [iN g0,iN g1,iN g2,iP g3,iP g4,iN g5]]⟩
     ·by_cases g5:((tpNs t).length:Int)>0
      ·exact fm3_7 t nmd cmp xe g0 g1 g2 g3 g4 g5 cx hcx ⟨rfl,by rw [show fm3_v63 t nmd cmp=((tpO t != 6)) by unfold fm3_v63; rw [iN g0,iN g1,iN g2,iP g3,iN g4,iP g5]]⟩
      ·exact fm3_8 t nmd cmp xe g0 g1 g2 g3 g4 g5 cx hcx ⟨rfl,by rw [show fm3_v63 t nmd cmp=(false) by unfold fm3_v63; rw [iN g0,iN g1,iN g2,iP g3,iN g4,iN g5]]⟩
    ·exact fm3_3 t nmd cmp xe g0 g1 g2 (Bool.eq_false_iff.2 g3) cx hcx ⟨rfl,by rw [show fm3_v63 t nmd cmp=(true) by unfold fm3_v63; rw [iN g0,iN g1,iN g2,iN g3]]⟩
section
variable (t:Tp) (xe:Ext) (hn:erN (coreB (tpNm t))=0)
include t xe hn
theorem fm11_1(hx0:(↑(UInt8.toNat (List.getD (Array.toList (ByteArray.data (tpNm t))) 0 default)):Int)>=65)(cx:Cx)(hcx:cx.n=102){Q:PExit->S->Prop}(hq:Q (.normal) (S.mk [(1,.lp 1 0),(2,vI6 0),(6,.v (.bool (decide ((↑(UInt8.toNat (List.getD (Array.toList (ByteArray.data (tpNm t))) 0 default)):Int)<=90))))] [(1,tpV t)] xe)):PW prog cx (regF f164 11) (fm1I t xe) Q:=
 pw mdL 102 [am ((0:Int)<=0/\0<(↑(ByteArray.size (tpNm t)):Int)) (by (apply core_pos <;> first | assumption | omega | decide)),xBy (tpNm t) 0,rp 3 (dt1 hx0),am ((0:Int)<=0/\0<(↑(ByteArray.size (tpNm t)):Int)) (by (apply core_pos <;> first | assumption | omega | decide)),xBy (tpNm t) 0,rp 2 (dt1 hx0)] [1,2,6] [1] hcx hq
theorem fm11_2(hx0:¬(↑(UInt8.toNat (List.getD (Array.toList (ByteArray.data (tpNm t))) 0 default)):Int)>=65)(cx:Cx)(hcx:cx.n=102){Q:PExit->S->Prop}(hq:Q (.normal) (S.mk [(1,.lp 1 0),(2,vI6 0),(6,.v (.bool false))] [(1,tpV t)] xe)):PW prog cx (regF f164 11) (fm1I t xe) Q:=
 pw mdL 102 [am ((0:Int)<=0/\0<(↑(ByteArray.size (tpNm t)):Int)) (by (apply core_pos <;> first | assumption | omega | decide)),xBy (tpNm t) 0,rp 5 (df1 hx0)] [1,2,6] [1] hcx hq
end
def fm11_v6(t:Tp):Bool:=(if (↑(UInt8.toNat (List.getD (Array.toList (ByteArray.data (tpNm t))) 0 default)):Int)>=65 then ((decide ((↑(UInt8.toNat (List.getD (Array.toList (ByteArray.data (tpNm t))) 0 default)):Int)<=90))) else (false))
theorem fm11J(t:Tp)(xe:Ext)(hn:erN (coreB (tpNm t))=0):(Ob.frag 102 (regF f164 11) (fm1I t xe) (.normal) (S.mk [(1,.lp 1 0),(2,vI6 0),(6,.v (.bool (fm11_v6 t)))] [(1,tpV t)] xe)).ok prog:=by
 intro cx hcx
 by_cases g0:(↑(UInt8.toNat (List.getD (Array.toList (ByteArray.data (tpNm t))) 0 default)):Int)>=65
 ·exact fm11_1 t xe hn g0 cx hcx ⟨rfl,by rw [show fm11_v6 t=((decide ((↑(UInt8.toNat (List.getD (Array.toList (ByteArray.data (tpNm t))) 0 default)):Int)<=90))) by unfold fm11_v6; rw [iP g0]]⟩
 ·exact fm11_2 t xe hn g0 cx hcx ⟨rfl,by rw [show fm11_v6 t=(false) by unfold fm11_v6; rw [iN g0]]⟩
end Go.Proofs.YtidabncghfbdaaaGreatDoor
