/- Values of Go as plain data, an evaluator over them, and what the functions of the program return; part Yd. -/
import Derived.Test.YtcflffbapgiicaaGreatDoorYc
import Derived.Test.YtcflffbapgiicaaGreatDoorYa
set_option linter.unusedSectionVars false
set_option linter.unusedSimpArgs false
set_option linter.unusedVariables false
namespace Go.Proofs.YtcflffbapgiicaaGreatDoor
open Go.Proofs.Tryz
open Go.Pv Go.Proofs.Tryz
set_option maxRecDepth 100000
theorem len_ex{α:Type}{n:Nat}:∀ {l:List α},l.length=n+1->∃a r,l=a::r/\r.length=n
 | a::r,h=>⟨a,r,rfl,by simpa using h⟩
theorem jn_all(m:Mo)(t:Nat)(nm tn:BA)(ps:List BA)(b:Ex)(ty:Bool)(vs ns:List BA)(ne abz:List Vr)(bo:List Bo)(ats:List Tp)(pp:Pr)(pse me:List Pr)(h0:1<=ps.length)(h8:ps.length<=8)(hl:ats.length=ps.length+1)(hs:∀a∈ats,bulkPs (tpL a)<=10000000)(hn:nm.size<=10000000)(hb1:bulkPss (nmsC ns)<=10000000)(hb2:bulkPss (nmsC ps)<=10000000)
  (hlg:Pu 6 [.agg (moL m)] (.ret (.bool true))) (hat:Pu 5 [.agg (moL m),.int .u8 t] (.ret (.tup [.agg (dfL (.mk nm ps b 2 ty vs ne abz bo (.mk 6 tn ats ns pp pse) me)),.bool true]))) (hw:∀a∈ats,Pu 9 [.agg (tpL a),.agg (tpL a)] (.ret (.bool true))) (haw:Pu 7 [] (.ret (.bool true))):Pu 3 [.agg (moL m),.int .u8 t] (.ret (.bool true)):=by
 rcases (by omega:ps.length=0+1∨ps.length=1+1∨ps.length=2+1∨ps.length=3+1∨ps.length=4+1∨ps.length=5+1∨ps.length=6+1∨ps.length=7+1) with h | h | h | h | h | h | h | h <;> rw [h] at hl
 ·obtain ⟨p0,r0,e0,g0⟩:=len_ex h
  subst e0
  obtain rfl:=List.eq_nil_of_length_eq_zero g0
  obtain ⟨a0,s0,f0,k0⟩:=len_ex (n:=1) hl
  subst f0
  obtain ⟨a1,s1,f1,k1⟩:=len_ex k0
  subst f1
  obtain rfl:=List.eq_nil_of_length_eq_zero k1
  exact jn1 m t nm p0 tn b ty vs ns ne abz bo a0 a1 pp pse me (hs a1 sM) hn hb1 hb2 hlg hat (hw a0 sM) haw
 ·obtain ⟨p0,r0,e0,g0⟩:=len_ex h
  subst e0
  obtain ⟨p1,r1,e1,g1⟩:=len_ex g0
  subst e1
  obtain rfl:=List.eq_nil_of_length_eq_zero g1
  obtain ⟨a0,s0,f0,k0⟩:=len_ex (n:=2) hl
  subst f0
  obtain ⟨a1,s1,f1,k1⟩:=len_ex k0
  subst f1
  obtain ⟨a2,s2,f2,k2⟩:=len_ex k1
  subst f2
  obtain rfl:=List.eq_nil_of_length_eq_zero k2
  exact jn2 m t nm p0 p1 tn b ty vs ns ne abz bo a0 a1 a2 pp pse me (hs a2 sM) hn hb1 hb2 hlg hat (hw a0 sM) (hw a1 sM) haw
 ·obtain ⟨p0,r0,e0,g0⟩:=len_ex h
  subst e0
  obtain ⟨p1,r1,e1,g1⟩:=len_ex g0
  subst e1
  obtain ⟨p2,r2,e2,g2⟩:=len_ex g1
  subst e2
  obtain rfl:=List.eq_nil_of_length_eq_zero g2
  obtain ⟨a0,s0,f0,k0⟩:=len_ex (n:=3) hl
  subst f0
  obtain ⟨a1,s1,f1,k1⟩:=len_ex k0
  subst f1
  obtain ⟨a2,s2,f2,k2⟩:=len_ex k1
  subst f2
  obtain ⟨a3,s3,f3,k3⟩:=len_ex k2
  subst f3
  obtain rfl:=List.eq_nil_of_length_eq_zero k3
  exact jn3 m t nm p0 p1 p2 tn b ty vs ns ne abz bo a0 a1 a2 a3 pp pse me (hs a3 sM) hn hb1 hb2 hlg hat (hw a0 sM) (hw a1 sM) (hw a2 sM) haw
 ·obtain ⟨p0,r0,e0,g0⟩:=len_ex h
  subst e0
  obtain ⟨p1,r1,e1,g1⟩:=len_ex g0
  subst e1
  obtain ⟨p2,r2,e2,g2⟩:=len_ex g1
  subst e2
  obtain ⟨p3,r3,e3,g3⟩:=len_ex g2
  subst e3
  obtain rfl:=List.eq_nil_of_length_eq_zero g3
  obtain ⟨a0,s0,f0,k0⟩:=len_ex (n:=4) hl
  subst f0
  obtain ⟨a1,s1,f1,k1⟩:=len_ex k0
  subst f1
  obtain ⟨a2,s2,f2,k2⟩:=len_ex k1
  subst f2
  obtain ⟨a3,s3,f3,k3⟩:=len_ex k2
  subst f3
  obtain ⟨a4,s4,f4,k4⟩:=len_ex k3
  subst f4
  obtain rfl:=List.eq_nil_of_length_eq_zero k4
  exact jn4 m t nm p0 p1 p2 p3 tn b ty vs ns ne abz bo a0 a1 a2 a3 a4 pp pse me (hs a4 sM) hn hb1 hb2 hlg hat (hw a0 sM) (hw a1 sM) (hw a2 sM) (hw a3 sM) haw
 ·obtain ⟨p0,r0,e0,g0⟩:=len_ex h
  subst e0
  obtain ⟨p1,r1,e1,g1⟩:=len_ex g0
  subst e1
  obtain ⟨p2,r2,e2,g2⟩:=len_ex g1
  subst e2
  obtain ⟨p3,r3,e3,g3⟩:=len_ex g2
  subst e3
  obtain ⟨p4,r4,e4,g4⟩:=len_ex g3
  subst e4
  obtain rfl:=List.eq_nil_of_length_eq_zero g4
  obtain ⟨a0,s0,f0,k0⟩:=len_ex (n:=5) hl
  subst f0
  obtain ⟨a1,s1,f1,k1⟩:=len_ex k0
  subst f1
  obtain ⟨a2,s2,f2,k2⟩:=len_ex k1
  subst f2
  obtain ⟨a3,s3,f3,k3⟩:=len_ex k2
  subst f3
  obtain ⟨a4,s4,f4,k4⟩:=len_ex k3
  subst f4
  obtain ⟨a5,s5,f5,k5⟩:=len_ex k4
  subst f5
  obtain rfl:=List.eq_nil_of_length_eq_zero k5
  exact jn5 m t nm p0 p1 p2 p3 p4 tn b ty vs ns ne abz bo a0 a1 a2 a3 a4 a5 pp pse me (hs a5 sM) hn hb1 hb2 hlg hat (hw a0 sM) (hw a1 sM) (hw a2 sM) (hw a3 sM) (hw a4 sM) haw
 ·obtain ⟨p0,r0,e0,g0⟩:=len_ex h
  subst e0
  obtain ⟨p1,r1,e1,g1⟩:=len_ex g0
  subst e1
  obtain ⟨p2,r2,e2,g2⟩:=len_ex g1
  subst e2
  obtain ⟨p3,r3,e3,g3⟩:=len_ex g2
  subst e3
  obtain ⟨p4,r4,e4,g4⟩:=len_ex g3
  subst e4
  obtain ⟨p5,r5,e5,g5⟩:=len_ex g4
  subst e5
  obtain rfl:=List.eq_nil_of_length_eq_zero g5
  obtain ⟨a0,s0,f0,k0⟩:=len_ex (n:=6) hl
  subst f0
  obtain ⟨a1,s1,f1,k1⟩:=len_ex k0
  subst f1
  obtain ⟨a2,s2,f2,k2⟩:=len_ex k1
  subst f2
  obtain ⟨a3,s3,f3,k3⟩:=len_ex k2
  subst f3
  obtain ⟨a4,s4,f4,k4⟩:=len_ex k3
  subst f4
  obtain ⟨a5,s5,f5,k5⟩:=len_ex k4
  subst f5
  obtain ⟨a6,s6,f6,k6⟩:=len_ex k5
  subst f6
  obtain rfl:=List.eq_nil_of_length_eq_zero k6
  exact jn6 m t nm p0 p1 p2 p3 p4 p5 tn b ty vs ns ne abz bo a0 a1 a2 a3 a4 a5 a6 pp pse me (hs a6 sM) hn hb1 hb2 hlg hat (hw a0 sM) (hw a1 sM) (hw a2 sM) (hw a3 sM) (hw a4 sM) (hw a5 sM) haw
 ·obtain ⟨p0,r0,e0,g0⟩:=len_ex h
  subst e0
  obtain ⟨p1,r1,e1,g1⟩:=len_ex g0
  subst e1
  obtain ⟨p2,r2,e2,g2⟩:=len_ex g1
  subst e2
  obtain ⟨p3,r3,e3,g3⟩:=len_ex g2
  subst e3
  obtain ⟨p4,r4,e4,g4⟩:=len_ex g3
  subst e4
  obtain ⟨p5,r5,e5,g5⟩:=len_ex g4
  subst e5
  obtain ⟨p6,r6,e6,g6⟩:=len_ex g5
  subst e6
  obtain rfl:=List.eq_nil_of_length_eq_zero g6
  obtain ⟨a0,s0,f0,k0⟩:=len_ex (n:=7) hl
  subst f0
  obtain ⟨a1,s1,f1,k1⟩:=len_ex k0
  subst f1
  obtain ⟨a2,s2,f2,k2⟩:=len_ex k1
  subst f2
  obtain ⟨a3,s3,f3,k3⟩:=len_ex k2
  subst f3
  obtain ⟨a4,s4,f4,k4⟩:=len_ex k3
  subst f4
  obtain ⟨a5,s5,f5,k5⟩:=len_ex k4
  subst f5
  obtain ⟨a6,s6,f6,k6⟩:=len_ex k5
  subst f6
  obtain ⟨a7,s7,f7,k7⟩:=len_ex k6
  subst f7
  obtain rfl:=List.eq_nil_of_length_eq_zero k7
  exact jn7 m t nm p0 p1 p2 p3 p4 p5 p6 tn b ty vs ns ne abz bo a0 a1 a2 a3 a4 a5 a6 a7 pp pse me (hs a7 sM) hn hb1 hb2 hlg hat (hw a0 sM) (hw a1 sM) (hw a2 sM) (hw a3 sM) (hw a4 sM) (hw a5 sM) (hw a6 sM) haw
 ·obtain ⟨p0,r0,e0,g0⟩:=len_ex h
  subst e0
  obtain ⟨p1,r1,e1,g1⟩:=len_ex g0
  subst e1
  obtain ⟨p2,r2,e2,g2⟩:=len_ex g1
  subst e2
  obtain ⟨p3,r3,e3,g3⟩:=len_ex g2
  subst e3
  obtain ⟨p4,r4,e4,g4⟩:=len_ex g3
  subst e4
  obtain ⟨p5,r5,e5,g5⟩:=len_ex g4
  subst e5
  obtain ⟨p6,r6,e6,g6⟩:=len_ex g5
  subst e6
  obtain ⟨p7,r7,e7,g7⟩:=len_ex g6
  subst e7
  obtain rfl:=List.eq_nil_of_length_eq_zero g7
  obtain ⟨a0,s0,f0,k0⟩:=len_ex (n:=8) hl
  subst f0
  obtain ⟨a1,s1,f1,k1⟩:=len_ex k0
  subst f1
  obtain ⟨a2,s2,f2,k2⟩:=len_ex k1
  subst f2
  obtain ⟨a3,s3,f3,k3⟩:=len_ex k2
  subst f3
  obtain ⟨a4,s4,f4,k4⟩:=len_ex k3
  subst f4
  obtain ⟨a5,s5,f5,k5⟩:=len_ex k4
  subst f5
  obtain ⟨a6,s6,f6,k6⟩:=len_ex k5
  subst f6
  obtain ⟨a7,s7,f7,k7⟩:=len_ex k6
  subst f7
  obtain ⟨a8,s8,f8,k8⟩:=len_ex k7
  subst f8
  obtain rfl:=List.eq_nil_of_length_eq_zero k8
  exact jn8 m t nm p0 p1 p2 p3 p4 p5 p6 p7 tn b ty vs ns ne abz bo a0 a1 a2 a3 a4 a5 a6 a7 a8 pp pse me (hs a8 sM) hn hb1 hb2 hlg hat (hw a0 sM) (hw a1 sM) (hw a2 sM) (hw a3 sM) (hw a4 sM) (hw a5 sM) (hw a6 sM) (hw a7 sM) haw
theorem tp_blk(t:Tp):bulkPss (Tp.cs (tpA t))+bulkPss (nmsC (tpNs t))+bulkPs (prL (tpP t))+bulkPss (Pr.cs (tpPs t))<bulkPs (tpL t):=by simp only [bulkPs,bulkP]; omega
theorem s3_ok:∀ (d:Nat) (t:Tp),bulkPs (tpL t)<d->d<=100000001->Pu 9 [.agg (tpL t),.agg (tpL t)] (.ret (.bool true))
 | 0,_,h,_=>by omega
 | d+1,t,h,hs=>by
  have h1:=tp_blk t
  have h2:=Tp.bulk (tpA t)
  have h3:=Pr.bulk (tpPs t)
  have h4:=nms_bulk (tpNs t)
  exact rS3 t (fun w hw=>s32 w (sPT w (by have:=Pr.mem hw; omega))) (s32 _ (sPT _ oM)) (rS4 _ oM) (fun w hw=>s3_ok d w (by have:=Tp.mem hw; omega) oM) oM oM
theorem s3T(t:Tp)(hs:bulkPs (tpL t)<=100000000):Pu 9 [.agg (tpL t),.agg (tpL t)] (.ret (.bool true)):=s3_ok _ t (Nat.lt_succ_self _) oM
theorem sy_ok:∀ (d:Nat) (t:Tp),bulkPs (tpL t)<d->d<=100000001->Pu 34 [.agg (tpL t),.agg (tpL t)] (.ret (.bool true))
 | 0,_,h,_=>by omega
 | d+1,t,h,hs=>by
  have h1:=tp_blk t
  have h2:=Tp.bulk (tpA t)
  have h3:=Pr.bulk (tpPs t)
  have h4:=nms_bulk (tpNs t)
  exact rSY t (fun w hw=>sPT w (by have:=Pr.mem hw; omega)) (sPT _ oM) (rSN _ oM) (rST _ (fun w hw=>sy_ok d w (by have:=Tp.mem hw; omega) oM) oM) oM
theorem syT(t:Tp)(hs:bulkPs (tpL t)<=100000000):Pu 34 [.agg (tpL t),.agg (tpL t)] (.ret (.bool true)):=sy_ok _ t (Nat.lt_succ_self _) oM
theorem df_blk(d:Df):(dfNm d).size+bulkPss (nmsC (dfP d))+bulkPs (exL (dfB d))+bulkPss (nmsC (dfVs d))+bulkPss (Vr.cs (dfNe d))+bulkPss (Vr.cs (dfAb d))+bulkPss (Bo.cs (dfBo d))+bulkPs (tpL (dfT d))+bulkPss (Pr.cs (dfMe d))<=bulkPs (dfL d):=by simp only [bulkPs,bulkP]; omega
theorem mo_blk(m:Mo):bulkPss (Df.cs (moF m))<=bulkPs (moL m):=by simp only [bulkPs,bulkP]; omega
theorem bo_blk(w:Bo):bulkPss (Vr.cs (boW w))+bulkPs (prL (boH w))+bulkPs (prL (boG w))<=bulkPs (boL w):=by simp only [bulkPs,bulkP]; omega
theorem ssT(d:Df)(hs:bulkPs (dfL d)<=2000000):Pu 10 [.agg (sgL d),.agg (sgL d)] (.ret (.bool true)):=by
 have h:=df_blk d
 have h1:=nms_bulk (dfVs d)
 have h2:=Vr.bulk (dfNe d)
 have h3:=Vr.bulk (dfAb d)
 have h4:=Bo.bulk (dfBo d)
 have h5:=Pr.bulk (dfMe d)
 have hb:∀w∈dfBo d,bulkPss (Vr.cs (boW w))+bulkPs (prL (boH w))+bulkPs (prL (boG w))<=2000000:=fun w hw=>by have:=Bo.mem hw; have:=bo_blk w; omega
 exact ssL d (rSN _ oM) (snT _ oM) (syT _ oM) (smT _ (fun w hw=>sPT w (by have:=Pr.mem hw; omega)) oM) (fun w hw=>soT _ (by have:=hb w hw; have:=Vr.bulk (boW w); omega)) (fun w hw=>sPT _ (by have:=hb w hw; omega)) (fun w hw=>sPT _ (by have:=hb w hw; omega)) oM oM
theorem liA_all:∀l:List Df,liA_f l = .e1->∀d∈l,¬((dfP d).length:Int)>8
 | [],_,d,hd=>by cases hd
 | c::r,h,d,hd=>by
  simp only [liA_f] at h
  split at h
  ·cases h
  ·split at h
   ·cases h
   ·split at h
    ·cases h
    ·rcases List.mem_cons.1 hd with rfl | hd
     ·assumption
     ·exact liA_all r h d hd
theorem jn_df(m:Mo)(t:Nat)(d:Df)(k0:dfM d=2)(k2:tpO (dfT d)=6)(h0:1<=(dfP d).length)(h8:(dfP d).length<=8)(hl:(tpA (dfT d)).length=(dfP d).length+1)(hs:∀a∈tpA (dfT d),bulkPs (tpL a)<=10000000)(hn:(dfNm d).size<=10000000)(hb1:bulkPss (nmsC (tpNs (dfT d)))<=10000000)(hb2:bulkPss (nmsC (dfP d))<=10000000)
  (hlg:Pu 6 [.agg (moL m)] (.ret (.bool true))) (hat:Pu 5 [.agg (moL m),.int .u8 t] (.ret (.tup [.agg (dfL d),.bool true]))) (hw:∀a∈tpA (dfT d),Pu 9 [.agg (tpL a),.agg (tpL a)] (.ret (.bool true))) (haw:Pu 7 [] (.ret (.bool true))):Pu 3 [.agg (moL m),.int .u8 t] (.ret (.bool true)):=by
 obtain ⟨nm,ps,b,md,ty,vs,ne,ab,bo,tt,me⟩:=d
 obtain ⟨o,tn,ats,ns,pp,pse⟩:=tt
 have k0:md=2:=k0
 have k2:o=6:=k2
 subst k0 k2
 exact jn_all m t nm tn ps b ty vs ns ne ab bo ats pp pse me h0 h8 hl hs hn hb1 hb2 hlg hat hw haw
theorem stay(m:Mo)(d:Df)(t:Nat)(hs:bulkPs (dfL d)<=2000000)(hlg:Pu 6 [.agg (moL m)] (.ret (.bool true)))(hat:Pu 5 [.agg (moL m),.int .u8 t] (.ret (.tup [.agg (dfL d),.bool true])))(haw:Pu 7 [] (.ret (.bool true)))(hrs:Pu 8 [.agg (moL m),.agg (dfL d)] (.ret (.agg (sgL d)))):Pu 3 [.agg (moL m),.int .u8 t] (.ret (.bool true)):=by
 have h:=df_blk d
 have h1:=tp_blk (dfT d)
 have h2:=Tp.bulk (tpA (dfT d))
 have hl:(tpA (dfT d)).dropLast.length=(tpA (dfT d)).length - 1:=List.length_dropLast
 have hw:∀w:Tp,w∈tpA (dfT d)->Pu 9 [.agg (tpL w),.agg (tpL w)] (.ret (.bool true)):=fun w hw=>s3T w (by have:=Tp.mem hw; omega)
 refine rpC m d t hlg hat hrs fun xe=>?_
 by_cases h0:dfM d=2
 ·have h7:=fun cx hcx=>lwT_1 d _ hl oM oM hw haw (ssT d hs) xe h0 cx hcx (Q:=fun pe' s'=>pe' = .ret/\s'=_) ⟨rfl,rfl⟩
  refine Ob.frag_le ?_ h7
  exact ⟨⟨W,tVv⟩,trivial,rfl⟩
 ·have h7:=fun cx hcx=>lwT_2 d _ hl oM oM hw haw (ssT d hs) xe h0 cx hcx (Q:=fun pe' s'=>pe' = .ret/\s'=_) ⟨rfl,rfl⟩
  refine Ob.frag_le ?_ h7
  exact ⟨⟨W,tVv⟩,trivial,rfl⟩
theorem reflect_true(m:Mo)(t:Nat)(ht:t<256)(hs:bulkPs (moL m)<=2000000)(haw:Pu 7 [] (.ret (.bool true))):Pu 3 [.agg (moL m),.int .u8 t] (.ret (.bool true)):=by
 have h1:=mo_blk m
 have h2:=Df.bulk (moF m)
 have hb:∀w∈moF m,bulkPs (dfL w)<=2000000:=fun w hw=>by have:=Df.mem hw; omega
 have hR:∀w:Df,w∈moF m->Pu 11 [.agg (exL (dfB w))] (.ret (.int .i64 (ndF (dfB w)))):=fun w hw=>ndT _ (by have:=hb w hw; have:=df_blk w; omega)
 have hS:∀w:Df,w∈moF m->Pu 17 [.agg (exL (dfB w))] (.ret (.int .i64 (ltF (dfB w)))):=fun w hw=>ltT _ (by have:=hb w hw; have:=df_blk w; omega)
 have hF:Pu 6 [.agg (moL m)] (.ret (.bool false))->Pu 3 [.agg (moL m),.int .u8 t] (.ret (.bool true)):=fun hlg=>by
  by_cases h0:((moF m).length:Int)=0
  ·exact rpA_1 m t ht hlg haw h0
  ·exact rpA_2 m t ht hlg haw h0
 by_cases h9:((moF m).length:Int)>9
 ·exact hF (liL_1 m hR hS h9)
 cases hf:liA_f (moF m) with
 | e0=>exact hF (liL_2 m hR hS h9 hf)
 | e1=>
  have hlg:=liL_3 m hR hS h9 hf
  by_cases h0:((moF m).length:Int)=0
  ·exact rpB m t ht h0 hlg haw
  have hat:=at1_2 m t ht h0
  have hd:(moF m).getD (Int.tmod (t:Int) ((moF m).length:Int)).toNat default∈moF m:=getD_mem (at_lt h0)
  generalize (moF m).getD (Int.tmod (t:Int) ((moF m).length:Int)).toNat default=d at hat hd
  have hbd:=hb d hd
  have h3:=df_blk d
  have h8:=liA_all _ hf d hd
  have hN:(dfP d).length<=100000000:=by omega
  by_cases k0:dfM d=2
  rotate_left
  ·exact stay m d t hbd hlg hat haw (rsP_1 m d hN k0)
  by_cases k1:((dfP d).length:Int)=0
  ·exact stay m d t hbd hlg hat haw (rsP_2 m d hN k0 k1)
  by_cases k2:tpO (dfT d)=6
  rotate_left
  ·exact stay m d t hbd hlg hat haw (rsP_3 m d hN k0 k1 k2)
  by_cases k3:((tpA (dfT d)).length:Int)=((dfP d).length:Int)+1
  rotate_left
  ·exact stay m d t hbd hlg hat haw (rsP_4 m d hN k0 k1 k2 k3)
  have h4:=tp_blk (dfT d)
  have b1:(dfNm d).size<=10000000:=by omega
  have b2:bulkPss (nmsC (dfP d))<=10000000:=by omega
  have b3:bulkPss (nmsC (tpNs (dfT d)))<=10000000:=by omega
  have b4:∀a∈tpA (dfT d),bulkPs (tpL a)<=10000000:=fun a ha=>by have:=Tp.mem ha; omega
  have b5:∀a∈tpA (dfT d),Pu 9 [.agg (tpL a),.agg (tpL a)] (.ret (.bool true)):=fun a ha=>s3T a (by have:=b4 a ha; omega)
  have b6:1<=(dfP d).length:=by omega
  have b7:(dfP d).length<=8:=by omega
  have b8:(tpA (dfT d)).length=(dfP d).length+1:=by omega
  clear h1 h2 hb hR hS hF hbd h3 h4 h8 hN k1 k3 hd
  exact jn_df m t d k0 k2 b6 b7 b8 b4 b1 b3 b2 hlg hat b5 haw
def smB(c:Int):Bool:=decide (97<=c)&&decide (c<=122)
def cpB(c:Int):Bool:=decide (65<=c)&&decide (c<=90)
def dgB(c:Int):Bool:=decide (48<=c)&&decide (c<=57)
theorem tn1(i:Nat):((i:Int)+1).toNat=i+1:=by omega
def kwL:List BA:=[⟨#[97,110,100]⟩,⟨#[97,115,115,117,109,101]⟩,⟨#[98,111,111,108]⟩,⟨#[98,111,117,110,100]⟩,⟨#[99,97,115,101]⟩,⟨#[99,101,108,108]⟩,⟨#[99,108,97,115,115]⟩,⟨#[100,97,116,97]⟩,⟨#[100,101,102]⟩,⟨#[100,105,118]⟩,⟨#[101,108,115,101]⟩,⟨#[101,110,100]⟩,⟨#[102,97,108,115,101]⟩,⟨#[102,111,114,97,108,108]⟩,⟨#[102,117,110]⟩,⟨#[103,101,116]⟩,⟨#[105,102]⟩,⟨#[105,110]⟩,⟨#[105,110,115,116]⟩,⟨#[105,110,116]⟩,⟨#[105,110,118,97,114,105,97,110,116]⟩,⟨#[108,101,116]⟩,⟨#[109,97,116,99,104]⟩,⟨#[109,101,97,115,117,114,101]⟩,⟨#[109,101,116,114,105,99]⟩,⟨#[109,111,100]⟩,⟨#[109,117]⟩,⟨#[110,101,119]⟩,⟨#[110,111,116]⟩,⟨#[111,102]⟩,⟨#[111,114]⟩,⟨#[113,117,97,108]⟩,⟨#[114,101,102,108,101,99,116]⟩,⟨#[115,101,116]⟩,⟨#[116,104,101,110]⟩,⟨#[116,114,117,101]⟩,⟨#[117,115,101]⟩,⟨#[118]⟩,⟨#[118,97,108]⟩,⟨#[116,97,103]⟩,⟨#[119,104,101,114,101]⟩,⟨#[119,105,116,104]⟩]
def kwC:List PV:=[.str ⟨#[97,110,100]⟩,.str ⟨#[97,115,115,117,109,101]⟩,.str ⟨#[98,111,111,108]⟩,.str ⟨#[98,111,117,110,100]⟩,.str ⟨#[99,97,115,101]⟩,.str ⟨#[99,101,108,108]⟩,.str ⟨#[99,108,97,115,115]⟩,.str ⟨#[100,97,116,97]⟩,.str ⟨#[100,101,102]⟩,.str ⟨#[100,105,118]⟩,.str ⟨#[101,108,115,101]⟩,.str ⟨#[101,110,100]⟩,.str ⟨#[102,97,108,115,101]⟩,.str ⟨#[102,111,114,97,108,108]⟩,.str ⟨#[102,117,110]⟩,.str ⟨#[103,101,116]⟩,.str ⟨#[105,102]⟩,.str ⟨#[105,110]⟩,.str ⟨#[105,110,115,116]⟩,.str ⟨#[105,110,116]⟩,.str ⟨#[105,110,118,97,114,105,97,110,116]⟩,.str ⟨#[108,101,116]⟩,.str ⟨#[109,97,116,99,104]⟩,.str ⟨#[109,101,97,115,117,114,101]⟩,.str ⟨#[109,101,116,114,105,99]⟩,.str ⟨#[109,111,100]⟩,.str ⟨#[109,117]⟩,.str ⟨#[110,101,119]⟩,.str ⟨#[110,111,116]⟩,.str ⟨#[111,102]⟩,.str ⟨#[111,114]⟩,.str ⟨#[113,117,97,108]⟩,.str ⟨#[114,101,102,108,101,99,116]⟩,.str ⟨#[115,101,116]⟩,.str ⟨#[116,104,101,110]⟩,.str ⟨#[116,114,117,101]⟩,.str ⟨#[117,115,101]⟩,.str ⟨#[118]⟩,.str ⟨#[118,97,108]⟩,.str ⟨#[116,97,103]⟩,.str ⟨#[119,104,101,114,101]⟩,.str ⟨#[119,105,116,104]⟩]
theorem kwC_at{i:Nat}(h:i<kwL.length):[PV.str ⟨#[97,110,100]⟩,.str ⟨#[97,115,115,117,109,101]⟩,.str ⟨#[98,111,111,108]⟩,.str ⟨#[98,111,117,110,100]⟩,.str ⟨#[99,97,115,101]⟩,.str ⟨#[99,101,108,108]⟩,.str ⟨#[99,108,97,115,115]⟩,.str ⟨#[100,97,116,97]⟩,.str ⟨#[100,101,102]⟩,.str ⟨#[100,105,118]⟩,.str ⟨#[101,108,115,101]⟩,.str ⟨#[101,110,100]⟩,.str ⟨#[102,97,108,115,101]⟩,.str ⟨#[102,111,114,97,108,108]⟩,.str ⟨#[102,117,110]⟩,.str ⟨#[103,101,116]⟩,.str ⟨#[105,102]⟩,.str ⟨#[105,110]⟩,.str ⟨#[105,110,115,116]⟩,.str ⟨#[105,110,116]⟩,.str ⟨#[105,110,118,97,114,105,97,110,116]⟩,.str ⟨#[108,101,116]⟩,.str ⟨#[109,97,116,99,104]⟩,.str ⟨#[109,101,97,115,117,114,101]⟩,.str ⟨#[109,101,116,114,105,99]⟩,.str ⟨#[109,111,100]⟩,.str ⟨#[109,117]⟩,.str ⟨#[110,101,119]⟩,.str ⟨#[110,111,116]⟩,.str ⟨#[111,102]⟩,.str ⟨#[111,114]⟩,.str ⟨#[113,117,97,108]⟩,.str ⟨#[114,101,102,108,101,99,116]⟩,.str ⟨#[115,101,116]⟩,.str ⟨#[116,104,101,110]⟩,.str ⟨#[116,114,117,101]⟩,.str ⟨#[117,115,101]⟩,.str ⟨#[118]⟩,.str ⟨#[118,97,108]⟩,.str ⟨#[116,97,103]⟩,.str ⟨#[119,104,101,114,101]⟩,.str ⟨#[119,105,116,104]⟩].getD i .nilp = .str (kwL.getD i nm0):=by
 show kwC.getD i .nilp=_
 have e:kwC=kwL.map .str:=rfl
 rw [e]
 simp [List.getD,h]
theorem dr_at{l:List UInt8}{i:Nat}(h:i<List.length (List.drop 1 l)):l.getD (i+1) default=(List.drop 1 l).getD i default:=by simp [List.getD,Nat.add_comm]
theorem kwT{i:Nat}(h:i<kwL.length):(i:Int)<42:=by
 have:kwL.length=42:=rfl
 omega
theorem kwF{i:Nat}(h:i=kwL.length):¬(i:Int)<42:=by
 have:kwL.length=42:=rfl
 omega
theorem kwA{i:Nat}(h:i<kwL.length):(0:Int)<=(i:Int)/\(i:Int)<((42:Nat):Int):=by
 have:=kwT h; omega
theorem b1T{s:BA}{i:Nat}(h:i<List.length (List.drop 1 s.data.toList)):(i:Int)+1<(s.size:Int):=by
 have:s.size=s.data.size:=rfl
 simp at h; omega
theorem b1F{s:BA}{i:Nat}(h:i=List.length (List.drop 1 s.data.toList)):¬(i:Int)+1<(s.size:Int):=by
 have:s.size=s.data.size:=rfl
 simp at h; omega
theorem bzT{s:BA}{i:Nat}(h:i<List.length (s.data.toList)):(i:Int)<(s.size:Int):=by
 have:s.size=s.data.size:=rfl
 simp at h; omega
theorem bzF{s:BA}{i:Nat}(h:i=List.length (s.data.toList)):¬(i:Int)<(s.size:Int):=by
 have:s.size=s.data.size:=rfl
 simp at h; omega
theorem nSmT(c:Int):Pu 261 [.int .u8 c] (.ret (.bool (smB c))):=by
 by_cases h:97<=c
 ·rw [show smB c=decide (c<=122) by simp [smB,h]]; exact pm mdL [rp 3 (dt (97<=c) h)] func261
 ·rw [show smB c=false by simp [smB,h]]; exact pm mdL [rp 3 (df (97<=c) h)] func261
theorem nCpT(c:Int):Pu 264 [.int .u8 c] (.ret (.bool (cpB c))):=by
 by_cases h:65<=c
 ·rw [show cpB c=decide (c<=90) by simp [cpB,h]]; exact pm mdL [rp 3 (dt (65<=c) h)] func264
 ·rw [show cpB c=false by simp [cpB,h]]; exact pm mdL [rp 3 (df (65<=c) h)] func264
theorem nDgT(c:Int):Pu 263 [.int .u8 c] (.ret (.bool (dgB c))):=by
 by_cases h:48<=c
 ·rw [show dgB c=decide (c<=57) by simp [dgB,h]]; exact pm mdL [rp 3 (dt (48<=c) h)] func263
 ·rw [show dgB c=false by simp [dgB,h]]; exact pm mdL [rp 3 (df (48<=c) h)] func263
abbrev nAl_I(s:BA)(j:Int)(e:Ext):S:=S.mk [(0,vS s),(3,vI6 j)] [] e
inductive nAl_R where
 | e0
 | e1
def nAl_f  : List UInt8->nAl_R
 | []=>(nAl_R.e1)
 | el::r=>(if smB (↑(UInt8.toNat el):Int)=false then (if cpB (↑(UInt8.toNat el):Int)=false then (if dgB (↑(UInt8.toNat el):Int)=false then (nAl_R.e0) else nAl_f  r) else nAl_f  r) else nAl_f  r)
def nAl_q(s:BA)(e:Ext):nAl_R->PExit × S
 | .e0=>(.ret,S.mk [(0,vS s),(2,.v (.bool false))] [] e)
 | .e1=>(.exit 0,S.mk [(0,vS s)] [] e)
theorem nAl_lp(s:BA)(e:Ext)(hN:List.length ((s.data.toList))<=1000000000):(Ob.loop 29 (loopF f202 0) (nAl_I s 0  e) (nAl_q s e (nAl_f  ((s.data.toList)))).1 (nAl_q s e (nAl_f  ((s.data.toList)))).2).ok prog:=by
 refine rng (List.length ((s.data.toList))) (fun j _=>nAl_I s j  e) (fun i _=>nAl_f  (List.drop i ((s.data.toList)))) (nAl_q s e) (fun i _=>True) kR ?_ () trivial
 rintro i u hi -
 rcases Nat.lt_or_ge i (List.length ((s.data.toList))) with hlt | hge
 ·have hd:=drop_at hlt
  refine t0 ?_;refine tp [kp,dt ((i:Int)<(↑(ByteArray.size s):Int)) (by (apply bzT <;> first | assumption | omega | decide)),am ((0:Int)<=(i:Int)/\(i:Int)<(↑(ByteArray.size s):Int)) (by simp_all [tn1]),xBy s i,cl (@nSmT ((↑(UInt8.toNat (List.getD (Array.toList (ByteArray.data s)) i default)):Int)))] ?_;by_cases h0:smB (↑(UInt8.toNat (List.getD (Array.toList (ByteArray.data s)) i default)):Int)=false
  ·refine tp [rp 3 (bt1 (bnT h0)),am ((0:Int)<=(i:Int)/\(i:Int)<(↑(ByteArray.size s):Int)) (by simp_all [tn1]),xBy s i,bt1 (bnT h0),cl (@nCpT ((↑(UInt8.toNat (List.getD (Array.toList (ByteArray.data s)) i default)):Int))),rp 2 (bt1 (bnT h0))] ?_;by_cases h1:cpB (↑(UInt8.toNat (List.getD (Array.toList (ByteArray.data s)) i default)):Int)=false
   ·refine tp [rp 3 (bt1 (bnT h1)),am ((0:Int)<=(i:Int)/\(i:Int)<(↑(ByteArray.size s):Int)) (by simp_all [tn1]),xBy s i,bt1 (bnT h1),cl (@nDgT ((↑(UInt8.toNat (List.getD (Array.toList (ByteArray.data s)) i default)):Int))),rp 2 (bt1 (bnT h1))] ?_;by_cases h2:dgB (↑(UInt8.toNat (List.getD (Array.toList (ByteArray.data s)) i default)):Int)=false
    ·exact tX mdL [bt1 (bnT h2)] (nAl_R.e0) (by rw [hd,nAl_f,iP h0,iP h1,iP h2])
    ·exact tN mdL [bf1 (bnF (bTF h2)),wr ((i:Int)+1)] hlt () trivial (by rw [hd,nAl_f,iP h0,iP h1,iN h2])
   ·exact tN mdL [rp 6 (bf1 (bnF (bTF h1))),bf false,wr ((i:Int)+1)] hlt () trivial (by rw [hd,nAl_f,iP h0,iN h1])
  ·exact tN mdL [rp 6 (bf1 (bnF (bTF h0))),rp 7 (bf false),wr ((i:Int)+1)] hlt () trivial (by rw [hd,nAl_f,iN h0])
 ·have he:i=List.length ((s.data.toList)):=by omega
  exact lX mdL [kp,df ((i:Int)<(↑(ByteArray.size s):Int)) (by (apply bzF <;> first | assumption | omega | decide))] (nAl_R.e1) (by rw [he,List.drop_length,nAl_f])
def anB(c:UInt8):Bool:=smB c.toNat||cpB c.toNat||dgB c.toNat
def wdB(c:UInt8):Bool:=smB c.toNat||dgB c.toNat||decide (((c.toNat:Nat):Int)=95)
theorem nAl_e:∀l:List UInt8,nAl_f l=if l.all anB=true then .e1 else .e0
 | []=>rfl
 | c::r=>by
  by_cases h1:smB c.toNat=true <;> by_cases h2:cpB c.toNat=true <;> by_cases h3:dgB c.toNat=true <;> simp [nAl_f,anB,h1,h2,h3,nAl_e r]
theorem sz_le{s:BA}(h:s.size<=1000000000):List.length (s.data.toList)<=1000000000:=by simpa using h
theorem nAlL_1(s:BA)(hs:s.size<=1000000000)(hx0:nAl_f (Array.toList (ByteArray.data s))=nAl_R.e0):Pu 202 [.str s] (rB false):=
 pu mdL (fun e=>[lq (rz (nAl_lp (s) (e) (by (apply sz_le <;> first | assumption | omega | decide))) hx0)]) func202
theorem nAlL_2(s:BA)(hs:s.size<=1000000000)(hx0:nAl_f (Array.toList (ByteArray.data s))=nAl_R.e1):Pu 202 [.str s] (rB true):=
 pu mdL (fun e=>[lq (rz (nAl_lp (s) (e) (by (apply sz_le <;> first | assumption | omega | decide))) hx0)]) func202
theorem nAlT(s:BA)(hs:s.size<=1000000000):Pu 202 [.str s] (.ret (.bool (s.data.toList.all anB))):=by
 cases h:s.data.toList.all anB with
 | true=>exact nAlL_2 s hs (by rw [nAl_e,iP h])
 | false=>exact nAlL_1 s hs (by rw [nAl_e,iN (by rw [h]; simp)])
def szB(s:BA):Bool:=decide (1<=s.size)&&decide (s.size<=24)
theorem nSiT(s:BA):Pu 201 [.str s] (.ret (.bool (szB s))):=by
 by_cases h:(s.size:Int)>=1
 ·rw [show szB s=decide ((s.size:Int)<=24) by unfold szB; rw [decide_eq_true (by omega:1<=s.size),Bool.true_and]; exact decide_eq_decide.2 oM]; exact pm mdL [kp,rp 2 (dt ((↑(ByteArray.size s):Int)>=1) h),kp,rp 2 (dt ((↑(ByteArray.size s):Int)>=1) h)] func201
 ·rw [show szB s=false by unfold szB; rw [decide_eq_false (by omega:¬1<=s.size),Bool.false_and]]; exact pm mdL [kp,rp 4 (df ((↑(ByteArray.size s):Int)>=1) h)] func201
abbrev nWd_I(s:BA)(j:Int)(e:Ext):S:=S.mk [(0,vS s),(3,vI6 j)] [] e
inductive nWd_R where
 | e0
 | e1
def nWd_f  : List UInt8->Nat->nWd_R
 | [],i=>(nWd_R.e1)
 | el::r,i=>(if smB (↑(UInt8.toNat el):Int)=false then (if (i:Int)=0 then (nWd_R.e0) else (if dgB (↑(UInt8.toNat el):Int)=false then (if (↑(UInt8.toNat el):Int)=95 then nWd_f  r (i+1)  else (nWd_R.e0)) else nWd_f  r (i+1))) else nWd_f  r (i+1))
def nWd_q(s:BA)(e:Ext):nWd_R->PExit × S
 | .e0=>(.ret,S.mk [(0,vS s),(2,.v (.bool false))] [] e)
 | .e1=>(.exit 0,S.mk [(0,vS s)] [] e)
theorem nWd_lp(s:BA)(e:Ext)(hN:List.length ((s.data.toList))<=1000000000):(Ob.loop 32 (loopF f203 0) (nWd_I s 0  e) (nWd_q s e (nWd_f  ((s.data.toList)) 0)).1 (nWd_q s e (nWd_f  ((s.data.toList)) 0)).2).ok prog:=by
 refine rng (List.length ((s.data.toList))) (fun j _=>nWd_I s j  e) (fun i _=>nWd_f  (List.drop i ((s.data.toList))) i) (nWd_q s e) (fun i _=>True) kR ?_ () trivial
 rintro i u hi -
 rcases Nat.lt_or_ge i (List.length ((s.data.toList))) with hlt | hge
 ·have hd:=drop_at hlt
  refine t0 ?_;refine tp [kp,dt ((i:Int)<(↑(ByteArray.size s):Int)) (by (apply bzT <;> first | assumption | omega | decide)),am ((0:Int)<=(i:Int)/\(i:Int)<(↑(ByteArray.size s):Int)) (by simp_all [tn1]),xBy s i,cl (@nSmT ((↑(UInt8.toNat (List.getD (Array.toList (ByteArray.data s)) i default)):Int)))] ?_;by_cases h0:smB (↑(UInt8.toNat (List.getD (Array.toList (ByteArray.data s)) i default)):Int)=false
  ·refine tp [rp 3 (bt1 (bnT h0))] ?_;by_cases h1:(i:Int)=0
   ·exact tX mdL [rp 7 (et1 h1),bt1 (bnT h0),et1 h1,bt1 (bnT h0),bt true] (nWd_R.e0) (by rw [hd,nWd_f,iP h0,iP h1])
   ·refine tp [rp 3 (en1 h1),am ((0:Int)<=(i:Int)/\(i:Int)<(↑(ByteArray.size s):Int)) (by simp_all [tn1]),xBy s i,en1 h1,cl (@nDgT ((↑(UInt8.toNat (List.getD (Array.toList (ByteArray.data s)) i default)):Int))),rp 2 (en1 h1)] ?_;by_cases h2:dgB (↑(UInt8.toNat (List.getD (Array.toList (ByteArray.data s)) i default)):Int)=false
    ·refine tp [rp 3 (bt1 (bnT h2)),am ((0:Int)<=(i:Int)/\(i:Int)<(↑(ByteArray.size s):Int)) (by simp_all [tn1]),xBy s i,bt1 (bnT h2),en1 h1,bt1 (bnT h2),bt1 (bnT h0),en1 h1,bt1 (bnT h0)] ?_;by_cases h3:(↑(UInt8.toNat (List.getD (Array.toList (ByteArray.data s)) i default)):Int)=95
     ·exact tN mdL [nn1 h3,wr ((i:Int)+1)] hlt () trivial (by rw [hd,nWd_f,iP h0,iN h1,iP h2,iP h3])
     ·exact tX mdL [nt1 h3] (nWd_R.e0) (by rw [hd,nWd_f,iP h0,iN h1,iP h2,iN h3])
    ·exact tN mdL [rp 4 (bf1 (bnF (bTF h2))),en1 h1,bf1 (bnF (bTF h2)),bt1 (bnT h0),en1 h1,bt1 (bnT h0),bf false,wr ((i:Int)+1)] hlt () trivial (by rw [hd,nWd_f,iP h0,iN h1,iN h2])
  ·exact tN mdL [rp 5 (bf1 (bnF (bTF h0))),bf false,wr ((i:Int)+1)] hlt () trivial (by rw [hd,nWd_f,iN h0])
 ·have he:i=List.length ((s.data.toList)):=by omega
  exact lX mdL [kp,df ((i:Int)<(↑(ByteArray.size s):Int)) (by (apply bzF <;> first | assumption | omega | decide))] (nWd_R.e1) (by rw [he,List.drop_length,nWd_f])
abbrev nKw_I(s:BA)(j:Int)(e:Ext):S:=S.mk [(0,vS s),(5,.v (.agg kwC)),(6,vI6 j)] [] e
inductive nKw_R where
 | e0
 | e1
def nKw_f(s:BA):List BA->nKw_R
 | []=>(nKw_R.e1)
 | el::r=>(if el=s then (nKw_R.e0) else nKw_f s r)
def nKw_q(s:BA)(e:Ext):nKw_R->PExit × S
 | .e0=>(.ret,S.mk [(0,vS s),(5,.v (.agg [.str (ByteArray.mk #[97,110,100]),.str (ByteArray.mk #[97,115,115,117,109,101]),.str (ByteArray.mk #[98,111,111,108]),.str (ByteArray.mk #[98,111,117,110,100]),.str (ByteArray.mk #[99,97,115,101]),.str (ByteArray.mk #[99,101,108,108]),.str (ByteArray.mk #[99,108,97,115,115]),.str (ByteArray.mk #[100,97,116,97]),.str (ByteArray.mk #[100,101,102]),.str (ByteArray.mk #[100,105,118]),.str (ByteArray.mk #[101,108,115,101]),.str (ByteArray.mk #[101,110,100]),.str (ByteArray.mk #[102,97,108,115,101]),.str (ByteArray.mk #[102,111,114,97,108,108]),.str (ByteArray.mk #[102,117,110]),.str (ByteArray.mk #[103,101,116]),.str (ByteArray.mk #[105,102]),.str (ByteArray.mk #[105,110]),.str (ByteArray.mk #[105,110,115,116]),.str (ByteArray.mk #[105,110,116]),.str (ByteArray.mk #[105,110,118,97,114,105,97,110,116]),.str (ByteArray.mk #[108,101,116]),.str (ByteArray.mk #[109,97,116,99,104]),.str (ByteArray.mk #[109,101,97,115,117,114,101]),.str (ByteArray.mk #[109,101,116,114,105,99]),.str (ByteArray.mk #[109,111,100]),.str (ByteArray.mk #[109,117]),.str (ByteArray.mk #[110,101,119]),.str (ByteArray.mk #[110,111,116]),.str (ByteArray.mk #[111,102]),.str (ByteArray.mk #[111,114]),.str (ByteArray.mk #[113,117,97,108]),.str (ByteArray.mk #[114,101,102,108,101,99,116]),.str (ByteArray.mk #[115,101,116]),.str (ByteArray.mk #[116,104,101,110]),.str (ByteArray.mk #[116,114,117,101]),.str (ByteArray.mk #[117,115,101]),.str (bM 118),.str (ByteArray.mk #[118,97,108]),.str (ByteArray.mk #[116,97,103]),.str (ByteArray.mk #[119,104,101,114,101]),.str (ByteArray.mk #[119,105,116,104])])),(2,.v (.bool true))] [] e)
 | .e1=>(.exit 0,S.mk [(0,vS s),(5,.v (.agg [.str (ByteArray.mk #[97,110,100]),.str (ByteArray.mk #[97,115,115,117,109,101]),.str (ByteArray.mk #[98,111,111,108]),.str (ByteArray.mk #[98,111,117,110,100]),.str (ByteArray.mk #[99,97,115,101]),.str (ByteArray.mk #[99,101,108,108]),.str (ByteArray.mk #[99,108,97,115,115]),.str (ByteArray.mk #[100,97,116,97]),.str (ByteArray.mk #[100,101,102]),.str (ByteArray.mk #[100,105,118]),.str (ByteArray.mk #[101,108,115,101]),.str (ByteArray.mk #[101,110,100]),.str (ByteArray.mk #[102,97,108,115,101]),.str (ByteArray.mk #[102,111,114,97,108,108]),.str (ByteArray.mk #[102,117,110]),.str (ByteArray.mk #[103,101,116]),.str (ByteArray.mk #[105,102]),.str (ByteArray.mk #[105,110]),.str (ByteArray.mk #[105,110,115,116]),.str (ByteArray.mk #[105,110,116]),.str (ByteArray.mk #[105,110,118,97,114,105,97,110,116]),.str (ByteArray.mk #[108,101,116]),.str (ByteArray.mk #[109,97,116,99,104]),.str (ByteArray.mk #[109,101,97,115,117,114,101]),.str (ByteArray.mk #[109,101,116,114,105,99]),.str (ByteArray.mk #[109,111,100]),.str (ByteArray.mk #[109,117]),.str (ByteArray.mk #[110,101,119]),.str (ByteArray.mk #[110,111,116]),.str (ByteArray.mk #[111,102]),.str (ByteArray.mk #[111,114]),.str (ByteArray.mk #[113,117,97,108]),.str (ByteArray.mk #[114,101,102,108,101,99,116]),.str (ByteArray.mk #[115,101,116]),.str (ByteArray.mk #[116,104,101,110]),.str (ByteArray.mk #[116,114,117,101]),.str (ByteArray.mk #[117,115,101]),.str (bM 118),.str (ByteArray.mk #[118,97,108]),.str (ByteArray.mk #[116,97,103]),.str (ByteArray.mk #[119,104,101,114,101]),.str (ByteArray.mk #[119,105,116,104])]))] [] e)
theorem nKw_lp(s:BA)(e:Ext)(hN:List.length ((kwL))<=1000000000):(Ob.loop 13 (loopF f262 0) (nKw_I s 0  e) (nKw_q s e (nKw_f s ((kwL)))).1 (nKw_q s e (nKw_f s ((kwL)))).2).ok prog:=by
 refine rng (List.length ((kwL))) (fun j _=>nKw_I s j  e) (fun i _=>nKw_f s (List.drop i ((kwL)))) (nKw_q s e) (fun i _=>True) kR ?_ () trivial
 rintro i u hi -
 rcases Nat.lt_or_ge i (List.length ((kwL))) with hlt | hge
 ·have hd:=drop_at0 hlt
  refine t0 ?_;refine tp [dt ((i:Int)<42) (by (apply kwT <;> first | assumption | omega | decide)),am ((0:Int)<=(i:Int)/\(i:Int)<(42:Int)) (by (apply kwA <;> first | assumption | omega | decide)),av (.v (List.getD [.str (ByteArray.mk #[97,110,100]),.str (ByteArray.mk #[97,115,115,117,109,101]),.str (ByteArray.mk #[98,111,111,108]),.str (ByteArray.mk #[98,111,117,110,100]),.str (ByteArray.mk #[99,97,115,101]),.str (ByteArray.mk #[99,101,108,108]),.str (ByteArray.mk #[99,108,97,115,115]),.str (ByteArray.mk #[100,97,116,97]),.str (ByteArray.mk #[100,101,102]),.str (ByteArray.mk #[100,105,118]),.str (ByteArray.mk #[101,108,115,101]),.str (ByteArray.mk #[101,110,100]),.str (ByteArray.mk #[102,97,108,115,101]),.str (ByteArray.mk #[102,111,114,97,108,108]),.str (ByteArray.mk #[102,117,110]),.str (ByteArray.mk #[103,101,116]),.str (ByteArray.mk #[105,102]),.str (ByteArray.mk #[105,110]),.str (ByteArray.mk #[105,110,115,116]),.str (ByteArray.mk #[105,110,116]),.str (ByteArray.mk #[105,110,118,97,114,105,97,110,116]),.str (ByteArray.mk #[108,101,116]),.str (ByteArray.mk #[109,97,116,99,104]),.str (ByteArray.mk #[109,101,97,115,117,114,101]),.str (ByteArray.mk #[109,101,116,114,105,99]),.str (ByteArray.mk #[109,111,100]),.str (ByteArray.mk #[109,117]),.str (ByteArray.mk #[110,101,119]),.str (ByteArray.mk #[110,111,116]),.str (ByteArray.mk #[111,102]),.str (ByteArray.mk #[111,114]),.str (ByteArray.mk #[113,117,97,108]),.str (ByteArray.mk #[114,101,102,108,101,99,116]),.str (ByteArray.mk #[115,101,116]),.str (ByteArray.mk #[116,104,101,110]),.str (ByteArray.mk #[116,114,117,101]),.str (ByteArray.mk #[117,115,101]),.str (bM 118),.str (ByteArray.mk #[118,97,108]),.str (ByteArray.mk #[116,97,103]),.str (ByteArray.mk #[119,104,101,114,101]),.str (ByteArray.mk #[119,105,116,104])] (Int.toNat (i:Int)) .nilp)) (vS (List.getD kwL i nm0)) (by simp only [Int.toNat_natCast,Int.toNat_zero]; rw [@kwC_at (i) hlt]; try rfl)] ?_;by_cases h0:List.getD kwL i nm0=s
  ·exact tX mdL [bt (ByteArray.toList (List.getD kwL i nm0)==ByteArray.toList s) (bsT h0)] (nKw_R.e0) (by rw [hd,nKw_f,iP h0])
  ·exact tN mdL [bf (ByteArray.toList (List.getD kwL i nm0)==ByteArray.toList s) (bsF h0),wr ((i:Int)+1)] hlt () trivial (by rw [hd,nKw_f,iN h0])
 ·have he:i=List.length ((kwL)):=by omega
  exact lX mdL [df ((i:Int)<42) (by (apply kwF <;> first | assumption | omega | decide))] (nKw_R.e1) (by rw [he,List.drop_length,nKw_f])
def wordB:List UInt8->Bool
 | []=>true
 | c::r=>smB c.toNat&&r.all wdB
theorem nWd_e1:∀ (l:List UInt8) (i:Nat),nWd_f l (i+1)=if l.all wdB=true then .e1 else .e0
 | [],_=>rfl
 | c::r,i=>by
  have hi:¬(((i+1:Nat):Int)=0):=by omega
  have hj:¬((i:Int)+1=0):=by omega
  by_cases h1:smB c.toNat=true <;> by_cases h2:dgB c.toNat=true <;> by_cases h3:((c.toNat:Nat):Int)=95 <;> simp [nWd_f,wdB,h1,h2,h3,hi,hj,nWd_e1 r (i+1)]
theorem nWd_e(l:List UInt8):nWd_f l 0=if wordB l=true then .e1 else .e0:=by
 cases l with
 | nil=>rfl
 | cons c r=>
  by_cases h1:smB c.toNat=true
  ·have:=nWd_e1 r 0
   simp [nWd_f,wordB,h1,this]
  ·simp [nWd_f,wordB,h1]
def kwB(s:BA):Bool:=decide (ix id s kwL<kwL.length)
theorem nKw_e(s:BA):∀l:List BA,nKw_f s l=if ix id s l<l.length then .e0 else .e1
 | []=>by simp [nKw_f,ix]
 | c::r=>by
  by_cases h:c=s
  ·simp [nKw_f,ix,h]
  ·simp only [nKw_f,ix,id,h,if_false,nKw_e s r,List.length_cons,Nat.add_lt_add_iff_right]
theorem nWdL_1(s:BA)(hs:s.size<=1000000000)(hx0:nWd_f (Array.toList (ByteArray.data s)) 0=nWd_R.e0):Pu 203 [.str s] (rB false):=
 pu mdL (fun e=>[lq (rz (nWd_lp (s) (e) (by (apply sz_le <;> first | assumption | omega | decide))) hx0)]) func203
theorem nWdL_2(s:BA)(hs:s.size<=1000000000)(hx0:nWd_f (Array.toList (ByteArray.data s)) 0=nWd_R.e1):Pu 203 [.str s] (rB true):=
 pu mdL (fun e=>[lq (rz (nWd_lp (s) (e) (by (apply sz_le <;> first | assumption | omega | decide))) hx0)]) func203
theorem nWdT(s:BA)(hs:s.size<=1000000000):Pu 203 [.str s] (.ret (.bool (wordB s.data.toList))):=by
 cases h:wordB s.data.toList with
 | true=>exact nWdL_2 s hs (by rw [nWd_e,iP h])
 | false=>exact nWdL_1 s hs (by rw [nWd_e,iN (by rw [h]; simp)])
theorem nKwT(s:BA):Pu 262 [.str s] (.ret (.bool (kwB s))):=by
 unfold kwB
 by_cases h:ix id s kwL<kwL.length
 ·rw [decide_eq_true h]; exact pu mdL (fun e=>[lq (rz (nKw_lp (s) (e) dD) (by rw [nKw_e,iP h]))]) func262
 ·rw [decide_eq_false h]; exact pu mdL (fun e=>[lq (rz (nKw_lp (s) (e) dD) (by rw [nKw_e,iN h]))]) func262
theorem szB_lt{s:BA}(h:szB s=true):(0:Int)<=0/\(0:Int)<(s.size:Int):=by
 simp only [szB,Bool.and_eq_true,decide_eq_true_eq] at h; omega
theorem szB_d1{s:BA}(h:szB s=true):List.length (List.drop 1 s.data.toList)<=1000000000:=by
 have:s.size=s.data.size:=rfl
 simp only [szB,Bool.and_eq_true,decide_eq_true_eq] at h; simp; omega
theorem b1A{s:BA}{i:Nat}(h:i<List.length (List.drop 1 s.data.toList)):(0:Int)<=(i:Int)+1/\(i:Int)+1<(s.size:Int):=by
 have:=b1T h; omega
abbrev nNl_I(s:BA)(j:Int)(e:Ext):S:=S.mk [(0,vS s),(3,vI6 (j+1))] [] e
inductive nNl_R where
 | e0
 | e1
def nNl_f  : List UInt8->nNl_R
 | []=>(nNl_R.e1)
 | el::r=>(if smB (↑(UInt8.toNat el):Int)=false then (if dgB (↑(UInt8.toNat el):Int)=false then (if (↑(UInt8.toNat el):Int)=95 then nNl_f  r  else (nNl_R.e0)) else nNl_f  r) else nNl_f  r)
def nNl_q(s:BA)(e:Ext):nNl_R->PExit × S
 | .e0=>(.ret,S.mk [(0,vS s),(2,.v (.bool false))] [] e)
 | .e1=>(.exit 0,S.mk [(0,vS s)] [] e)
theorem nNl_lp(s:BA)(hsa:szB s=true)(hsb:smB (s.data.toList.getD 0 default).toNat=true)(hsc:kwB s=false)(e:Ext)(hN:List.length ((List.drop 1 s.data.toList))<=1000000000):(Ob.loop 41 (loopF f199 0) (nNl_I s 0  e) (nNl_q s e (nNl_f  ((List.drop 1 s.data.toList)))).1 (nNl_q s e (nNl_f  ((List.drop 1 s.data.toList)))).2).ok prog:=by
 refine rng (List.length ((List.drop 1 s.data.toList))) (fun j _=>nNl_I s j  e) (fun i _=>nNl_f  (List.drop i ((List.drop 1 s.data.toList)))) (nNl_q s e) (fun i _=>True) kR ?_ () trivial
 rintro i u hi -
 rcases Nat.lt_or_ge i (List.length ((List.drop 1 s.data.toList))) with hlt | hge
 ·have hd:=drop_at hlt
  refine t0 ?_;refine tp [kp,dt ((i:Int)+1<(↑(ByteArray.size s):Int)) (by (apply b1T <;> first | assumption | omega | decide)),am ((0:Int)<=(i:Int)+1/\(i:Int)+1<(↑(ByteArray.size s):Int)) (by (apply b1A <;> first | assumption | omega | decide)),av (.v (.int .u8 (↑(UInt8.toNat (List.getD (Array.toList (ByteArray.data s)) (Int.toNat ((i:Int)+1)) default)):Int))) (.v (.int .u8 (↑(UInt8.toNat (List.getD (List.drop 1 (Array.toList (ByteArray.data s))) i default)):Int))) (by simp only [Int.toNat_natCast,Int.toNat_zero,tn1]; rw [@dr_at (Array.toList (ByteArray.data s)) (i) hlt]; try rfl),cl (@nSmT ((↑(UInt8.toNat (List.getD (List.drop 1 (Array.toList (ByteArray.data s))) i default)):Int)))] ?_;by_cases h0:smB (↑(UInt8.toNat (List.getD (List.drop 1 (Array.toList (ByteArray.data s))) i default)):Int)=false
  ·refine tp [rp 3 (bt1 (bnT h0)),am ((0:Int)<=(i:Int)+1/\(i:Int)+1<(↑(ByteArray.size s):Int)) (by (apply b1A <;> first | assumption | omega | decide)),av (.v (.int .u8 (↑(UInt8.toNat (List.getD (Array.toList (ByteArray.data s)) (Int.toNat ((i:Int)+1)) default)):Int))) (.v (.int .u8 (↑(UInt8.toNat (List.getD (List.drop 1 (Array.toList (ByteArray.data s))) i default)):Int))) (by simp only [Int.toNat_natCast,Int.toNat_zero,tn1]; rw [@dr_at (Array.toList (ByteArray.data s)) (i) hlt]; try rfl),bt1 (bnT h0),cl (@nDgT ((↑(UInt8.toNat (List.getD (List.drop 1 (Array.toList (ByteArray.data s))) i default)):Int))),rp 2 (bt1 (bnT h0))] ?_;by_cases h1:dgB (↑(UInt8.toNat (List.getD (List.drop 1 (Array.toList (ByteArray.data s))) i default)):Int)=false
   ·refine tp [rp 3 (bt1 (bnT h1)),am ((0:Int)<=(i:Int)+1/\(i:Int)+1<(↑(ByteArray.size s):Int)) (by (apply b1A <;> first | assumption | omega | decide)),av (.v (.int .u8 (↑(UInt8.toNat (List.getD (Array.toList (ByteArray.data s)) (Int.toNat ((i:Int)+1)) default)):Int))) (.v (.int .u8 (↑(UInt8.toNat (List.getD (List.drop 1 (Array.toList (ByteArray.data s))) i default)):Int))) (by simp only [Int.toNat_natCast,Int.toNat_zero,tn1]; rw [@dr_at (Array.toList (ByteArray.data s)) (i) hlt]; try rfl),rp 2 (bt1 (bnT h1))] ?_;by_cases h2:(↑(UInt8.toNat (List.getD (List.drop 1 (Array.toList (ByteArray.data s))) i default)):Int)=95
    ·exact tN mdL [nn1 h2,wr ((i:Int)+1+1)] hlt () trivial (by rw [hd,nNl_f,iP h0,iP h1,iP h2])
    ·exact tX mdL [nt1 h2] (nNl_R.e0) (by rw [hd,nNl_f,iP h0,iP h1,iN h2])
   ·exact tN mdL [rp 5 (bf1 (bnF (bTF h1))),bf false,wr ((i:Int)+1+1)] hlt () trivial (by rw [hd,nNl_f,iP h0,iN h1])
  ·exact tN mdL [rp 6 (bf1 (bnF (bTF h0))),rp 6 (bf false),wr ((i:Int)+1+1)] hlt () trivial (by rw [hd,nNl_f,iN h0])
 ·have he:i=List.length ((List.drop 1 s.data.toList)):=by omega
  exact lX mdL [kp,df ((i:Int)+1<(↑(ByteArray.size s):Int)) (by (apply b1F <;> first | assumption | omega | decide))] (nNl_R.e1) (by rw [he,List.drop_length,nNl_f])
theorem nNl_e:∀l:List UInt8,nNl_f l=if l.all wdB=true then .e1 else .e0
 | []=>rfl
 | c::r=>by
  by_cases h1:smB c.toNat=true <;> by_cases h2:dgB c.toNat=true <;> by_cases h3:((c.toNat:Nat):Int)=95 <;> simp [nNl_f,wdB,h1,h2,h3,nNl_e r]
def nameB(s:BA):Bool:=szB s&&smB (s.data.toList.getD 0 default).toNat && !kwB s&&(s.data.toList.drop 1).all wdB
section
variable (s:BA) (hsa:szB s=true)
include s hsa
theorem nNmB(hsb:smB (s.data.toList.getD 0 default).toNat=false):Pu 199 [.str s] (rB false):=
 pm mdL [cl (@nSiT s),rp 2 (bf (!szB s) (bnF hsa)),am ((0:Int)<=0/\0<(↑(ByteArray.size s):Int)) (by (apply szB_lt <;> first | assumption | omega | decide)),xBy s 0,bf (!szB s) (bnF hsa),cl (@nSmT ((↑(UInt8.toNat (List.getD (Array.toList (ByteArray.data s)) 0 default)):Int))),rp 2 (bf (!szB s) (bnF hsa)),rp 3 (bt (!smB (↑(UInt8.toNat (List.getD (Array.toList (ByteArray.data s)) 0 default)):Int)) (bnT hsb)),bt true] func199
theorem nNmC(hsb:smB (s.data.toList.getD 0 default).toNat=true)(hsc:kwB s=true):Pu 199 [.str s] (rB false):=
 pm mdL [cl (@nSiT s),rp 2 (bf (!szB s) (bnF hsa)),am ((0:Int)<=0/\0<(↑(ByteArray.size s):Int)) (by (apply szB_lt <;> first | assumption | omega | decide)),xBy s 0,bf (!szB s) (bnF hsa),cl (@nSmT ((↑(UInt8.toNat (List.getD (Array.toList (ByteArray.data s)) 0 default)):Int))),rp 2 (bf (!szB s) (bnF hsa)),rp 2 (bf (!smB (↑(UInt8.toNat (List.getD (Array.toList (ByteArray.data s)) 0 default)):Int)) (bnF hsb)),cl (@nKwT s),bf (!smB (↑(UInt8.toNat (List.getD (Array.toList (ByteArray.data s)) 0 default)):Int)) (bnF hsb),bt (kwB s) hsc] func199
theorem nNmD_1(hsb:smB (s.data.toList.getD 0 default).toNat=true)(hsc:kwB s=false)(hx0:nNl_f (List.drop 1 (Array.toList (ByteArray.data s)))=nNl_R.e0):Pu 199 [.str s] (rB false):=
 pu mdL (fun e=>[cl (@nSiT s),rp 2 (bf (!szB s) (bnF hsa)),am ((0:Int)<=0/\0<(↑(ByteArray.size s):Int)) (by (apply szB_lt <;> first | assumption | omega | decide)),xBy s 0,bf (!szB s) (bnF hsa),cl (@nSmT ((↑(UInt8.toNat (List.getD (Array.toList (ByteArray.data s)) 0 default)):Int))),rp 2 (bf (!szB s) (bnF hsa)),rp 2 (bf (!smB (↑(UInt8.toNat (List.getD (Array.toList (ByteArray.data s)) 0 default)):Int)) (bnF hsb)),cl (@nKwT s),bf (!smB (↑(UInt8.toNat (List.getD (Array.toList (ByteArray.data s)) 0 default)):Int)) (bnF hsb),bf (kwB s) hsc,lq (rz (nNl_lp (s) hsa hsb hsc (e) (by (apply szB_d1 <;> first | assumption | omega | decide))) hx0)]) func199
theorem nNmD_2(hsb:smB (s.data.toList.getD 0 default).toNat=true)(hsc:kwB s=false)(hx0:nNl_f (List.drop 1 (Array.toList (ByteArray.data s)))=nNl_R.e1):Pu 199 [.str s] (rB true):=
 pu mdL (fun e=>[cl (@nSiT s),rp 2 (bf (!szB s) (bnF hsa)),am ((0:Int)<=0/\0<(↑(ByteArray.size s):Int)) (by (apply szB_lt <;> first | assumption | omega | decide)),xBy s 0,bf (!szB s) (bnF hsa),cl (@nSmT ((↑(UInt8.toNat (List.getD (Array.toList (ByteArray.data s)) 0 default)):Int))),rp 2 (bf (!szB s) (bnF hsa)),rp 2 (bf (!smB (↑(UInt8.toNat (List.getD (Array.toList (ByteArray.data s)) 0 default)):Int)) (bnF hsb)),cl (@nKwT s),bf (!smB (↑(UInt8.toNat (List.getD (Array.toList (ByteArray.data s)) 0 default)):Int)) (bnF hsb),bf (kwB s) hsc,lq (rz (nNl_lp (s) hsa hsb hsc (e) (by (apply szB_d1 <;> first | assumption | omega | decide))) hx0)]) func199
end
theorem nNmT(s:BA):Pu 199 [.str s] (.ret (.bool (nameB s))):=by
 unfold nameB
 cases hsa:szB s with
 | false=>exact pm mdL [cl (@nSiT s),rp 5 (bt (!szB s) (bnT hsa)),rp 4 (bt true)] func199
 | true=>
  cases hsb:smB (s.data.toList.getD 0 default).toNat with
  | false=>exact nNmB s hsa hsb
  | true=>
   cases hsc:kwB s with
   | true=>exact nNmC s hsa hsb hsc
   | false=>
    cases h:(s.data.toList.drop 1).all wdB with
    | true=>exact nNmD_2 s hsa hsb hsc (by rw [nNl_e,iP h])
    | false=>exact nNmD_1 s hsa hsb hsc (by rw [nNl_e,iN (by rw [h]; simp)])
def erN(b:Bool):Int:=if b=true then 0 else 3
abbrev tInt:BA:=⟨#[73,110,116]⟩
abbrev tBool:BA:=⟨#[66,111,111,108]⟩
abbrev tCell:BA:=⟨#[67,101,108,108]⟩
abbrev tFun:BA:=⟨#[70,117,110]⟩
def titleB(s:BA):Bool:=szB s&&cpB (s.data.toList.getD 0 default).toNat&&s.data.toList.all anB && !decide (s=tInt) && !decide (s=tBool) && !decide (s=tCell) && !decide (s=tFun)
theorem szB_s{s:BA}(h:szB s=true):s.size<=1000000000:=by
 simp only [szB,Bool.and_eq_true,decide_eq_true_eq] at h; omega
section
variable (s:BA) (hsa:szB s=true)
include s hsa
theorem nTiB(hsb:cpB (s.data.toList.getD 0 default).toNat=false):Pu 200 [.str s] (rB false):=
 pm mdL [cl (@nSiT s),rp 2 (bf (!szB s) (bnF hsa)),am ((0:Int)<=0/\0<(↑(ByteArray.size s):Int)) (by (apply szB_lt <;> first | assumption | omega | decide)),xBy s 0,bf (!szB s) (bnF hsa),cl (@nCpT ((↑(UInt8.toNat (List.getD (Array.toList (ByteArray.data s)) 0 default)):Int))),rp 2 (bf (!szB s) (bnF hsa)),rp 4 (bt (!cpB (↑(UInt8.toNat (List.getD (Array.toList (ByteArray.data s)) 0 default)):Int)) (bnT hsb)),bt true] func200
theorem nTiC(hsb:cpB (s.data.toList.getD 0 default).toNat=true)(hsc:s.data.toList.all anB=false):Pu 200 [.str s] (rB false):=
 pm mdL [cl (@nSiT s),rp 2 (bf (!szB s) (bnF hsa)),am ((0:Int)<=0/\0<(↑(ByteArray.size s):Int)) (by (apply szB_lt <;> first | assumption | omega | decide)),xBy s 0,bf (!szB s) (bnF hsa),cl (@nCpT ((↑(UInt8.toNat (List.getD (Array.toList (ByteArray.data s)) 0 default)):Int))),rp 2 (bf (!szB s) (bnF hsa)),rp 2 (bf (!cpB (↑(UInt8.toNat (List.getD (Array.toList (ByteArray.data s)) 0 default)):Int)) (bnF hsb)),cl (@nAlT s (by (apply szB_s <;> first | assumption | omega | decide))),rp 2 (bf (!cpB (↑(UInt8.toNat (List.getD (Array.toList (ByteArray.data s)) 0 default)):Int)) (bnF hsb)),bt (!List.all (Array.toList (ByteArray.data s)) anB) (bnT hsc)] func200
theorem nTiD_1(hsb:cpB (s.data.toList.getD 0 default).toNat=true)(hsc:s.data.toList.all anB=true)(hx0:¬s=ByteArray.mk #[73,110,116])(hx1:¬s=ByteArray.mk #[66,111,111,108])(hx2:¬s=ByteArray.mk #[67,101,108,108]):Pu 200 [.str s] (rB !ByteArray.toList s==ByteArray.toList (ByteArray.mk #[70,117,110])):=
 pm mdL [cl (@nSiT s),rp 2 (bf (!szB s) (bnF hsa)),am ((0:Int)<=0/\0<(↑(ByteArray.size s):Int)) (by (apply szB_lt <;> first | assumption | omega | decide)),xBy s 0,bf (!szB s) (bnF hsa),cl (@nCpT ((↑(UInt8.toNat (List.getD (Array.toList (ByteArray.data s)) 0 default)):Int))),rp 2 (bf (!szB s) (bnF hsa)),rp 2 (bf (!cpB (↑(UInt8.toNat (List.getD (Array.toList (ByteArray.data s)) 0 default)):Int)) (bnF hsb)),cl (@nAlT s (by (apply szB_s <;> first | assumption | omega | decide))),rp 2 (bf (!cpB (↑(UInt8.toNat (List.getD (Array.toList (ByteArray.data s)) 0 default)):Int)) (bnF hsb)),bf (!List.all (Array.toList (ByteArray.data s)) anB) (bnF hsc),rp 3 (bt (!ByteArray.toList s==ByteArray.toList (ByteArray.mk #[73,110,116])) (bnT (bsF hx0))),rp 3 (bt (!ByteArray.toList s==ByteArray.toList (ByteArray.mk #[66,111,111,108])) (bnT (bsF hx1))),rp 3 (bt (!ByteArray.toList s==ByteArray.toList (ByteArray.mk #[67,101,108,108])) (bnT (bsF hx2)))] func200
theorem nTiD_2(hsb:cpB (s.data.toList.getD 0 default).toNat=true)(hsc:s.data.toList.all anB=true)(hx0:¬s=ByteArray.mk #[73,110,116])(hx1:¬s=ByteArray.mk #[66,111,111,108])(hx2:s=ByteArray.mk #[67,101,108,108]):Pu 200 [.str s] (rB false):=
 pm mdL [cl (@nSiT s),rp 2 (bf (!szB s) (bnF hsa)),am ((0:Int)<=0/\0<(↑(ByteArray.size s):Int)) (by (apply szB_lt <;> first | assumption | omega | decide)),xBy s 0,bf (!szB s) (bnF hsa),cl (@nCpT ((↑(UInt8.toNat (List.getD (Array.toList (ByteArray.data s)) 0 default)):Int))),rp 2 (bf (!szB s) (bnF hsa)),rp 2 (bf (!cpB (↑(UInt8.toNat (List.getD (Array.toList (ByteArray.data s)) 0 default)):Int)) (bnF hsb)),cl (@nAlT s (by (apply szB_s <;> first | assumption | omega | decide))),rp 2 (bf (!cpB (↑(UInt8.toNat (List.getD (Array.toList (ByteArray.data s)) 0 default)):Int)) (bnF hsb)),bf (!List.all (Array.toList (ByteArray.data s)) anB) (bnF hsc),rp 3 (bt (!ByteArray.toList s==ByteArray.toList (ByteArray.mk #[73,110,116])) (bnT (bsF hx0))),rp 3 (bt (!ByteArray.toList s==ByteArray.toList (ByteArray.mk #[66,111,111,108])) (bnT (bsF hx1))),rp 3 (bf (!ByteArray.toList s==ByteArray.toList (ByteArray.mk #[67,101,108,108])) (bnF (bsT hx2)))] func200
theorem nTiD_3(hsb:cpB (s.data.toList.getD 0 default).toNat=true)(hsc:s.data.toList.all anB=true)(hx0:¬s=ByteArray.mk #[73,110,116])(hx1:s=ByteArray.mk #[66,111,111,108]):Pu 200 [.str s] (rB false):=
 pm mdL [cl (@nSiT s),rp 2 (bf (!szB s) (bnF hsa)),am ((0:Int)<=0/\0<(↑(ByteArray.size s):Int)) (by (apply szB_lt <;> first | assumption | omega | decide)),xBy s 0,bf (!szB s) (bnF hsa),cl (@nCpT ((↑(UInt8.toNat (List.getD (Array.toList (ByteArray.data s)) 0 default)):Int))),rp 2 (bf (!szB s) (bnF hsa)),rp 2 (bf (!cpB (↑(UInt8.toNat (List.getD (Array.toList (ByteArray.data s)) 0 default)):Int)) (bnF hsb)),cl (@nAlT s (by (apply szB_s <;> first | assumption | omega | decide))),rp 2 (bf (!cpB (↑(UInt8.toNat (List.getD (Array.toList (ByteArray.data s)) 0 default)):Int)) (bnF hsb)),bf (!List.all (Array.toList (ByteArray.data s)) anB) (bnF hsc),rp 3 (bt (!ByteArray.toList s==ByteArray.toList (ByteArray.mk #[73,110,116])) (bnT (bsF hx0))),rp 3 (bf (!ByteArray.toList s==ByteArray.toList (ByteArray.mk #[66,111,111,108])) (bnF (bsT hx1))),rp 3 (bf false)] func200
theorem nTiD_4(hsb:cpB (s.data.toList.getD 0 default).toNat=true)(hsc:s.data.toList.all anB=true)(hx0:s=ByteArray.mk #[73,110,116]):Pu 200 [.str s] (rB false):=
 pm mdL [cl (@nSiT s),rp 2 (bf (!szB s) (bnF hsa)),am ((0:Int)<=0/\0<(↑(ByteArray.size s):Int)) (by (apply szB_lt <;> first | assumption | omega | decide)),xBy s 0,bf (!szB s) (bnF hsa),cl (@nCpT ((↑(UInt8.toNat (List.getD (Array.toList (ByteArray.data s)) 0 default)):Int))),rp 2 (bf (!szB s) (bnF hsa)),rp 2 (bf (!cpB (↑(UInt8.toNat (List.getD (Array.toList (ByteArray.data s)) 0 default)):Int)) (bnF hsb)),cl (@nAlT s (by (apply szB_s <;> first | assumption | omega | decide))),rp 2 (bf (!cpB (↑(UInt8.toNat (List.getD (Array.toList (ByteArray.data s)) 0 default)):Int)) (bnF hsb)),bf (!List.all (Array.toList (ByteArray.data s)) anB) (bnF hsc),rp 3 (bf (!ByteArray.toList s==ByteArray.toList (ByteArray.mk #[73,110,116])) (bnF (bsT hx0))),rp 6 (bf false)] func200
end
theorem bcA{s:BA}{i:Nat}(h:i<List.length (s.data.toList)):(0:Int)<=((0:Nat):Int)/\((0:Nat):Int)<=(i:Int)/\(i:Int)<=(s.size:Int):=by
 have:=bzT h; omega
theorem bcB{s:BA}{i:Nat}(h:i<List.length (s.data.toList)):(0:Int)<=(i:Int)+1/\(i:Int)+1<=(s.size:Int)/\(s.size:Int)<=(s.size:Int):=by
 have:=bzT h; omega
def ptI:List UInt8->Nat
 | []=>0
 | c::r=>if ((c.toNat:Nat):Int)=46 then 0 else ptI r+1
abbrev nCu_I(s:BA)(j:Int)(e:Ext):S:=S.mk [(0,vS s),(2,vS nm0),(3,vS nm0),(4,.v (.bool false)),(5,vI6 j)] [] e
inductive nCu_R where
 | e0 (i:Nat)
 | e1
def nCu_f  : List UInt8->Nat->nCu_R
 | [],i=>(nCu_R.e1)
 | el::r,i=>(if (↑(UInt8.toNat el):Int)=46 then (nCu_R.e0 i) else nCu_f  r (i+1))
def nCu_q(s:BA)(e:Ext):nCu_R->PExit × S
 | .e0 i=>(.ret,S.mk [(0,vS s),(2,vS (ByteArray.extract s 0 i)),(3,vS (ByteArray.extract s (i+1) (ByteArray.size s))),(4,.v (.bool true))] [] e)
 | .e1=>(.exit 0,S.mk [(0,vS s),(2,vS nm0),(3,vS nm0),(4,.v (.bool false))] [] e)
theorem nCu_lp(s:BA)(e:Ext)(hN:List.length ((s.data.toList))<=1000000000):(Ob.loop 24 (loopF f198 0) (nCu_I s 0  e) (nCu_q s e (nCu_f  ((s.data.toList)) 0)).1 (nCu_q s e (nCu_f  ((s.data.toList)) 0)).2).ok prog:=by
 refine rng (List.length ((s.data.toList))) (fun j _=>nCu_I s j  e) (fun i _=>nCu_f  (List.drop i ((s.data.toList))) i) (nCu_q s e) (fun i _=>True) kR ?_ () trivial
 rintro i u hi -
 rcases Nat.lt_or_ge i (List.length ((s.data.toList))) with hlt | hge
 ·have hd:=drop_at hlt
  refine t0 ?_;refine tp [kp,dt ((i:Int)<(↑(ByteArray.size s):Int)) (by (apply bzT <;> first | assumption | omega | decide)),am ((0:Int)<=(i:Int)/\(i:Int)<(↑(ByteArray.size s):Int)) (by simp_all [tn1]),xBy s i] ?_;by_cases h0:(↑(UInt8.toNat (List.getD (Array.toList (ByteArray.data s)) i default)):Int)=46
  ·exact tX mdL [et1 h0,am ((0:Int)<=(0:Int)/\(0:Int)<=(i:Int)/\(i:Int)<=(↑(ByteArray.size s):Int)) (by (apply bcA <;> first | assumption | omega | decide)),av (vS (ByteArray.extract s (Int.toNat (0:Int)) (Int.toNat (i:Int)))) (vS (ByteArray.extract s 0 i)) rF,wr ((i:Int)+1),am ((0:Int)<=(i:Int)+1/\(i:Int)+1<=(↑(ByteArray.size s):Int)/\(↑(ByteArray.size s):Int)<=(↑(ByteArray.size s):Int)) (by (apply bcB <;> first | assumption | omega | decide)),av (vS (ByteArray.extract s (Int.toNat ((i:Int)+1)) (Int.toNat (↑(ByteArray.size s):Int)))) (vS (ByteArray.extract s (i+1) (ByteArray.size s))) rF] (nCu_R.e0 i) (by rw [hd,nCu_f,iP h0])
  ·exact tN mdL [en1 h0,wr ((i:Int)+1)] hlt () trivial (by rw [hd,nCu_f,iN h0])
 ·have he:i=List.length ((s.data.toList)):=by omega
  exact lX mdL [kp,df ((i:Int)<(↑(ByteArray.size s):Int)) (by (apply bzF <;> first | assumption | omega | decide))] (nCu_R.e1) (by rw [he,List.drop_length,nCu_f])
theorem nCuL_1(s:BA)(hs:s.size<=1000000000)(hy0:Nat)(hx1:nCu_f (Array.toList (ByteArray.data s)) 0=nCu_R.e0 hy0):Pu 198 [.str s] (.ret (.tup [.str (ByteArray.extract s 0 hy0),.str (ByteArray.extract s (hy0+1) (ByteArray.size s)),.bool true])):=
 pu mdL (fun e=>[lp (S.mk [(0,vS s),(2,vS nm0),(3,vS nm0),(4,.v (.bool false)),(5,vI6 0)] [] e) (rz (nCu_lp (s) (e) (by (apply sz_le <;> first | assumption | omega | decide))) hx1) ⟨⟨W,Wq,Wq,W,W,tVv⟩,trivial,rfl⟩]) func198
theorem nCuL_2(s:BA)(hs:s.size<=1000000000)(hx0:nCu_f (Array.toList (ByteArray.data s)) 0=nCu_R.e1):Pu 198 [.str s] (.ret (.tup [.str s,.str nm0,.bool false])):=
 pu mdL (fun e=>[lp (S.mk [(0,vS s),(2,vS nm0),(3,vS nm0),(4,.v (.bool false)),(5,vI6 0)] [] e) (rz (nCu_lp (s) (e) (by (apply sz_le <;> first | assumption | omega | decide))) hx0) ⟨⟨W,Wq,Wq,W,W,tVv⟩,trivial,rfl⟩]) func198
theorem nTiT(s:BA):Pu 200 [.str s] (.ret (.bool (titleB s))):=by
 unfold titleB
 cases hsa:szB s with
 | false=>exact pm mdL [cl (@nSiT s),rp 5 (bt (!szB s) (bnT hsa)),rp 5 (bt true)] func200
 | true=>
  cases hsb:cpB (s.data.toList.getD 0 default).toNat with
  | false=>exact nTiB s hsa hsb
  | true=>
   cases hsc:s.data.toList.all anB with
   | false=>exact nTiC s hsa hsb hsc
   | true=>
    simp only [Bool.true_and]
    by_cases h1:s=tInt
    ·rw [decide_eq_true h1]; simpa using nTiD_4 s hsa hsb hsc h1
    ·by_cases h2:s=tBool
     ·rw [decide_eq_true h2]; simpa using nTiD_3 s hsa hsb hsc h1 h2
     ·by_cases h3:s=tCell
      ·rw [decide_eq_true h3]; simpa using nTiD_2 s hsa hsb hsc h1 h2 h3
      ·have e:(!decide (s=tInt) && !decide (s=tBool) && !decide (s=tCell) && !decide (s=tFun)) = !(ByteArray.toList s==ByteArray.toList tFun):=by
        rw [decide_eq_false h1,decide_eq_false h2,decide_eq_false h3]
        by_cases h4:s=tFun
        ·rw [decide_eq_true h4,bsT h4]; rfl
        ·rw [decide_eq_false h4,bsF h4]; rfl
       rw [e]
       exact nTiD_1 s hsa hsb hsc h1 h2 h3
theorem nCu_e:∀ (l:List UInt8) (k:Nat),nCu_f l k=if ptI l<l.length then .e0 (k+ptI l) else .e1
 | [],k=>by simp [nCu_f,ptI]
 | c::r,k=>by
  by_cases h:((c.toNat:Nat):Int)=46
  ·simp [nCu_f,ptI,h]
  ·simp only [nCu_f,ptI,h,if_false,nCu_e r (k+1),List.length_cons]
   by_cases h2:ptI r<r.length
   ·rw [iP h2,iP oM]; congr 1; omega
   ·rw [iN h2,iN oM]
abbrev ptS(s:BA):Nat:=ptI s.data.toList
theorem nCuT(s:BA)(hs:s.size<=1000000000)(hx:ptS s<s.size):Pu 198 [.str s] (.ret (.tup [.str (s.extract 0 (ptS s)),.str (s.extract (ptS s+1) s.size),.bool true])):=
 nCuL_1 s hs _ (by rw [nCu_e,iP (by simpa using hx),Nat.zero_add])
theorem nCuF(s:BA)(hs:s.size<=1000000000)(hx:¬ptS s<s.size):Pu 198 [.str s] (.ret (.tup [.str s,.str nm0,.bool false])):=
 nCuL_2 s hs (by rw [nCu_e,iN (by simpa using hx)])
def partB(s:BA):Bool:=szB s&&(s.data.toList.all anB||wordB s.data.toList)
abbrev coI(first rest:BA)(more:Bool)(xe:Ext):S:=⟨[(2,.v (.int .i64 0)),(4,.v (.str rest)),(5,.v (.bool more))],[],xe⟩
section
variable (rest:BA) (xe:Ext)
include rest xe
theorem coZ(cx:Cx)(hcx:cx.n=52){Q:PExit->S->Prop}(hq:Q (.exit 0) (S.mk [(2,vI6 0),(4,vS rest),(5,.v (.bool false))] [] xe)):PW prog cx (loopF f149 0) (coI rest rest false xe) Q:=
 pw mdL 52 [bf false] [2,4,5] [] hcx hq
theorem coT_1(hs:rest.size<=1000000000)(hx:ptS rest<rest.size)(hx0:szB (ByteArray.extract rest 0 (ptS rest))=false)(cx:Cx)(hcx:cx.n=52){Q:PExit->S->Prop}(hq:Q (.ret) (S.mk [(2,vI6 3),(4,vS (ByteArray.extract rest (ptS rest+1) (ByteArray.size rest))),(5,.v (.bool true))] [] xe)):PW prog cx (loopF f149 0) (coI rest rest true xe) Q:=
 pw mdL 52 [bt true,cl (@nCuT rest hs hx),cl (@nSiT (ByteArray.extract rest 0 (ptS rest))),rp 6 (bt1 (bnT hx0)),bt true] [2,4,5] [] hcx hq
theorem coT_2(hs:rest.size<=1000000000)(hx:ptS rest<rest.size)(hx0:szB (ByteArray.extract rest 0 (ptS rest))=true)(hx1:List.all (Array.toList (ByteArray.data (ByteArray.extract rest 0 (ptS rest)))) anB=false)(hx2:wordB (Array.toList (ByteArray.data (ByteArray.extract rest 0 (ptS rest))))=false)(cx:Cx)(hcx:cx.n=52){Q:PExit->S->Prop}(hq:Q (.ret) (S.mk [(2,vI6 3),(4,vS (ByteArray.extract rest (ptS rest+1) (ByteArray.size rest))),(5,.v (.bool true))] [] xe)):PW prog cx (loopF f149 0) (coI rest rest true xe) Q:=
 pw mdL 52 [bt true,cl (@nCuT rest hs hx),cl (@nSiT (ByteArray.extract rest 0 (ptS rest))),rp 2 (bf1 (bnF hx0)),cl (@nAlT (ByteArray.extract rest 0 (ptS rest)) (by (apply szB_s <;> first | assumption | omega | decide))),rp 2 (bf1 (bnF hx0)),rp 2 (bt1 (bnT hx1)),cl (@nWdT (ByteArray.extract rest 0 (ptS rest)) (by (apply szB_s <;> first | assumption | omega | decide))),bt1 (bnT hx1),bf1 (bnF hx0),bt1 (bnT hx1),bf1 (bnF hx0),bt1 (bnT hx2)] [2,4,5] [] hcx hq
theorem coT_3(hs:rest.size<=1000000000)(hx:ptS rest<rest.size)(hx0:szB (ByteArray.extract rest 0 (ptS rest))=true)(hx1:List.all (Array.toList (ByteArray.data (ByteArray.extract rest 0 (ptS rest)))) anB=false)(hx2:wordB (Array.toList (ByteArray.data (ByteArray.extract rest 0 (ptS rest))))=true)(cx:Cx)(hcx:cx.n=52){Q:PExit->S->Prop}(hq:Q (.normal) (S.mk [(2,vI6 0),(4,vS (ByteArray.extract rest (ptS rest+1) (ByteArray.size rest))),(5,.v (.bool true))] [] xe)):PW prog cx (loopF f149 0) (coI rest rest true xe) Q:=
 pw mdL 52 [bt true,cl (@nCuT rest hs hx),cl (@nSiT (ByteArray.extract rest 0 (ptS rest))),rp 2 (bf1 (bnF hx0)),cl (@nAlT (ByteArray.extract rest 0 (ptS rest)) (by (apply szB_s <;> first | assumption | omega | decide))),rp 2 (bf1 (bnF hx0)),rp 2 (bt1 (bnT hx1)),cl (@nWdT (ByteArray.extract rest 0 (ptS rest)) (by (apply szB_s <;> first | assumption | omega | decide))),bt1 (bnT hx1),bf1 (bnF hx0),bt1 (bnT hx1),bf1 (bnF hx0),bf1 (bnF hx2)] [2,4,5] [] hcx hq
theorem coT_4(hs:rest.size<=1000000000)(hx:ptS rest<rest.size)(hx0:szB (ByteArray.extract rest 0 (ptS rest))=true)(hx1:List.all (Array.toList (ByteArray.data (ByteArray.extract rest 0 (ptS rest)))) anB=true)(cx:Cx)(hcx:cx.n=52){Q:PExit->S->Prop}(hq:Q (.normal) (S.mk [(2,vI6 0),(4,vS (ByteArray.extract rest (ptS rest+1) (ByteArray.size rest))),(5,.v (.bool true))] [] xe)):PW prog cx (loopF f149 0) (coI rest rest true xe) Q:=
 pw mdL 52 [bt true,cl (@nCuT rest hs hx),cl (@nSiT (ByteArray.extract rest 0 (ptS rest))),rp 2 (bf1 (bnF hx0)),cl (@nAlT (ByteArray.extract rest 0 (ptS rest)) (by (apply szB_s <;> first | assumption | omega | decide))),rp 2 (bf1 (bnF hx0)),rp 3 (bf1 (bnF hx1)),bf1 (bnF hx0),bf1 (bnF hx1),bf1 (bnF hx0),bf false] [2,4,5] [] hcx hq
theorem coF_1(hs:rest.size<=1000000000)(hx:¬ptS rest<rest.size)(hx0:szB rest=false)(cx:Cx)(hcx:cx.n=52){Q:PExit->S->Prop}(hq:Q (.ret) (S.mk [(2,vI6 3),(4,vS nm0),(5,.v (.bool false))] [] xe)):PW prog cx (loopF f149 0) (coI rest rest true xe) Q:=
 pw mdL 52 [bt true,cl (@nCuF rest hs hx),cl (@nSiT rest),rp 6 (bt1 (bnT hx0)),bt true] [2,4,5] [] hcx hq
theorem coF_2(hs:rest.size<=1000000000)(hx:¬ptS rest<rest.size)(hx0:szB rest=true)(hx1:List.all (Array.toList (ByteArray.data rest)) anB=false)(hx2:wordB (Array.toList (ByteArray.data rest))=false)(cx:Cx)(hcx:cx.n=52){Q:PExit->S->Prop}(hq:Q (.ret) (S.mk [(2,vI6 3),(4,vS nm0),(5,.v (.bool false))] [] xe)):PW prog cx (loopF f149 0) (coI rest rest true xe) Q:=
 pw mdL 52 [bt true,cl (@nCuF rest hs hx),cl (@nSiT rest),rp 2 (bf1 (bnF hx0)),cl (@nAlT rest hs),rp 2 (bf1 (bnF hx0)),rp 2 (bt1 (bnT hx1)),cl (@nWdT rest hs),bt1 (bnT hx1),bf1 (bnF hx0),bt1 (bnT hx1),bf1 (bnF hx0),bt1 (bnT hx2)] [2,4,5] [] hcx hq
theorem coF_3(hs:rest.size<=1000000000)(hx:¬ptS rest<rest.size)(hx0:szB rest=true)(hx1:List.all (Array.toList (ByteArray.data rest)) anB=false)(hx2:wordB (Array.toList (ByteArray.data rest))=true)(cx:Cx)(hcx:cx.n=52){Q:PExit->S->Prop}(hq:Q (.normal) (S.mk [(2,vI6 0),(4,vS nm0),(5,.v (.bool false))] [] xe)):PW prog cx (loopF f149 0) (coI rest rest true xe) Q:=
 pw mdL 52 [bt true,cl (@nCuF rest hs hx),cl (@nSiT rest),rp 2 (bf1 (bnF hx0)),cl (@nAlT rest hs),rp 2 (bf1 (bnF hx0)),rp 2 (bt1 (bnT hx1)),cl (@nWdT rest hs),bt1 (bnT hx1),bf1 (bnF hx0),bt1 (bnT hx1),bf1 (bnF hx0),bf1 (bnF hx2)] [2,4,5] [] hcx hq
theorem coF_4(hs:rest.size<=1000000000)(hx:¬ptS rest<rest.size)(hx0:szB rest=true)(hx1:List.all (Array.toList (ByteArray.data rest)) anB=true)(cx:Cx)(hcx:cx.n=52){Q:PExit->S->Prop}(hq:Q (.normal) (S.mk [(2,vI6 0),(4,vS nm0),(5,.v (.bool false))] [] xe)):PW prog cx (loopF f149 0) (coI rest rest true xe) Q:=
 pw mdL 52 [bt true,cl (@nCuF rest hs hx),cl (@nSiT rest),rp 2 (bf1 (bnF hx0)),cl (@nAlT rest hs),rp 2 (bf1 (bnF hx0)),rp 3 (bf1 (bnF hx1)),bf1 (bnF hx0),bf1 (bnF hx1),bf1 (bnF hx0),bf false] [2,4,5] [] hcx hq
end
def coR:Nat->BA->Bool
 | 0,_=>true
 | n+1,s=>if ptS s<s.size then partB (s.extract 0 (ptS s))&&coR n (s.extract (ptS s+1) s.size) else partB s
theorem ext_lt(s:BA)(h:ptS s<s.size):(s.extract (ptS s+1) s.size).size<s.size:=by rw [ByteArray.size_extract]; omega
theorem coR_fuel:∀ (n m:Nat) (s:BA),s.size<n->s.size<m->coR n s=coR m s
 | 0,_,_,h,_=>by omega
 | _+1,0,_,_,h=>by omega
 | n+1,m+1,s,h,k=>by
  simp only [coR]
  by_cases hx:ptS s<s.size
  ·have:=ext_lt s hx
   rw [iP hx,iP hx,coR_fuel n m _ oM oM]
  ·rw [iN hx,iN hx]
def corG(s:BA):Bool:=coR (s.size+1) s
theorem corG_e(s:BA):corG s=if ptS s<s.size then partB (s.extract 0 (ptS s))&&corG (s.extract (ptS s+1) s.size) else partB s:=by
 unfold corG
 rw [coR]
 by_cases hx:ptS s<s.size
 ·have:=ext_lt s hx
  rw [iP hx,iP hx,coR_fuel _ ((s.extract (ptS s+1) s.size).size+1) _ oM oM]
 ·rw [iN hx,iN hx]
def coQ(xe:Ext)(b:Bool):PExit × S:=if b=true then (.exit 0,⟨[(2,.v (.int .i64 0))],[],xe⟩) else (.ret,⟨[(2,.v (.int .i64 3))],[],xe⟩)
def coM(x:BA × Bool):Bool:=if x.2=true then corG x.1 else true
theorem co_lp(xe:Ext)(rest:BA)(more:Bool)(hs:rest.size<=1000000000):(Ob.loop 52 (loopF f149 0) (coI rest rest more xe) (coQ xe (coM (rest,more))).1 (coQ xe (coM (rest,more))).2).ok prog:=by
 refine Ob.loop_of (P:=prog) (α:={ x:BA × Bool // x.1.size<=1000000000 }) (fun x=>coI x.1.1 x.1.1 x.1.2 xe) (fun x=>if x.1.2=true then x.1.1.size+1 else 0) (fun x=>coQ xe (coM x.1)) ?_ ⟨(rest,more),hs⟩
 clear hs more rest
 rintro ⟨⟨rest,more⟩,hs⟩ cx hcx
 replace hs:rest.size<=1000000000:=hs
 have W1:∀ (r:BA) (b:Bool),LeX (⟨[(2,.v (.int .i64 3))],[],xe⟩:S) ⟨[(2,.v (.int .i64 3)),(4,.v (.str r)),(5,.v (.bool b))],[],xe⟩:=fun r b=>⟨⟨W,tVv⟩,trivial,rfl⟩
 cases more with
 | false=>
  have hr:coQ xe (coM (rest,false))=(.exit 0,⟨[(2,.v (.int .i64 0))],[],xe⟩):=rfl
  refine coZ rest xe cx hcx (.inr ?_)
  simp only
  rw [hr]
  exact ⟨by simp,rfl,xr⟩
 | true=>
  have hm:coM (rest,true)=corG rest:=rfl
  by_cases hx:ptS rest<rest.size
  ·have hlt:=ext_lt rest hx
   have hg:=corG_e rest
   rw [iP hx] at hg
   have bad:partB (rest.extract 0 (ptS rest))=false->coQ xe (coM (rest,true))=(.ret,⟨[(2,.v (.int .i64 3))],[],xe⟩):=fun h=>by rw [hm,hg,h]; rfl
   have good:partB (rest.extract 0 (ptS rest))=true->coQ xe (coM (rest,true))=coQ xe (coM (rest.extract (ptS rest+1) rest.size,true)):=fun h=>by rw [hm,hg,h]; rfl
   cases h0:szB (rest.extract 0 (ptS rest)) with
   | false=>
    refine coT_1 rest xe hs hx h0 cx hcx (.inr ?_)
    simp only
    rw [bad (by simp [partB,h0])]
    exact ⟨by simp,rfl,W1 _ _⟩
   | true=>
    cases h1:(rest.extract 0 (ptS rest)).data.toList.all anB with
    | true=>exact coT_4 rest xe hs hx h0 h1 cx hcx (.inl ⟨rfl,⟨(rest.extract (ptS rest+1) rest.size,true),by simp only; omega⟩,by simp only [if_true]; omega,⟨⟨W,W,W,tVv⟩,trivial,rfl⟩,(good (by simp only [partB,h0,h1]; rfl)).symm⟩)
    | false=>
     cases h2:wordB (rest.extract 0 (ptS rest)).data.toList with
     | true=>exact coT_3 rest xe hs hx h0 h1 h2 cx hcx (.inl ⟨rfl,⟨(rest.extract (ptS rest+1) rest.size,true),by simp only; omega⟩,by simp only [if_true]; omega,⟨⟨W,W,W,tVv⟩,trivial,rfl⟩,(good (by simp only [partB,h0,h1,h2]; rfl)).symm⟩)
     | false=>
      refine coT_2 rest xe hs hx h0 h1 h2 cx hcx (.inr ?_)
      simp only
      rw [bad (by simp only [partB,h0,h1,h2]; rfl)]
      exact ⟨by simp,rfl,W1 _ _⟩
  ·have hg:=corG_e rest
   rw [iN hx] at hg
   have bad:partB rest=false->coQ xe (coM (rest,true))=(.ret,⟨[(2,.v (.int .i64 3))],[],xe⟩):=fun h=>by rw [hm,hg,h]; rfl
   have good:partB rest=true->coQ xe (coM (rest,true))=coQ xe (coM (nm0,false)):=fun h=>by rw [hm,hg,h]; rfl
   cases h0:szB rest with
   | false=>
    refine coF_1 rest xe hs hx h0 cx hcx (.inr ?_)
    simp only
    rw [bad (by simp [partB,h0])]
    exact ⟨by simp,rfl,W1 _ _⟩
   | true=>
    cases h1:rest.data.toList.all anB with
    | true=>exact coF_4 rest xe hs hx h0 h1 cx hcx (.inl ⟨rfl,⟨(nm0,false),by decide⟩,by simp,⟨⟨W,W,W,tVv⟩,trivial,rfl⟩,(good (by simp only [partB,h0,h1]; rfl)).symm⟩)
    | false=>
     cases h2:wordB rest.data.toList with
     | true=>exact coF_3 rest xe hs hx h0 h1 h2 cx hcx (.inl ⟨rfl,⟨(nm0,false),by decide⟩,by simp,⟨⟨W,W,W,tVv⟩,trivial,rfl⟩,(good (by simp only [partB,h0,h1,h2]; rfl)).symm⟩)
     | false=>
      refine coF_2 rest xe hs hx h0 h1 h2 cx hcx (.inr ?_)
      simp only
      rw [bad (by simp only [partB,h0,h1,h2]; rfl)]
      exact ⟨by simp,rfl,W1 _ _⟩
theorem co_T(xe:Ext)(rest:BA)(more:Bool)(hs:rest.size<=1000000000)(hb:coM (rest,more)=true):(Ob.loop 52 (loopF f149 0) (coI rest rest more xe) (.exit 0) ⟨[(2,.v (.int .i64 0))],[],xe⟩).ok prog:=by
 have:=co_lp xe rest more hs
 rw [hb] at this
 exact this
theorem co_F(xe:Ext)(rest:BA)(more:Bool)(hs:rest.size<=1000000000)(hb:coM (rest,more)=false):(Ob.loop 52 (loopF f149 0) (coI rest rest more xe) .ret ⟨[(2,.v (.int .i64 3))],[],xe⟩).ok prog:=by
 have:=co_lp xe rest more hs
 rw [hb] at this
 exact this
theorem ex_le{s:BA}{a b:Nat}(h:(s.size:Int)<=120):(s.extract a b).size<=1000000000:=by rw [ByteArray.size_extract]; omega
theorem s_le{s:BA}(h:(s.size:Int)<=120):s.size<=1000000000:=by omega
abbrev tV:BA:=⟨#[118]⟩
section
variable (s:BA)
include s
theorem nCoA(hl:(s.size:Int)>120):Pu 149 [.str s] (rI 3):=
 pm mdL [kp,dt ((↑(ByteArray.size s):Int)>120) hl] func149
theorem nCoB_1(hl:(s.size:Int)<=120)(hx:ptS s<s.size)(hx0:nameB (ByteArray.extract s 0 (ptS s))=false)(hx1:titleB (ByteArray.extract s 0 (ptS s))=false)(hx2:¬ByteArray.extract s 0 (ptS s)=ByteArray.mk #[118]):Pu 149 [.str s] (rI 3):=
 pm mdL [kp,df ((↑(ByteArray.size s):Int)>120),cl (@nCuT s oM hx),cl (@nNmT (ByteArray.extract s 0 (ptS s))),rp 2 (bt1 (bnT hx0)),cl (@nTiT (ByteArray.extract s 0 (ptS s))),rp 2 (bt1 (bnT hx0)),rp 3 (bt1 (bnT hx1)),rp 2 (bt (!ByteArray.toList (ByteArray.extract s 0 (ptS s))==ByteArray.toList (bM 118)) (bnT (bsF hx2))),bt1 (bnT hx1),bt (!ByteArray.toList (ByteArray.extract s 0 (ptS s))==ByteArray.toList (bM 118)) (bnT (bsF hx2)),bt1 (bnT hx1),bt true] func149
theorem nCoB_2(hl:(s.size:Int)<=120)(hx:ptS s<s.size)(hx0:nameB (ByteArray.extract s 0 (ptS s))=false)(hx1:titleB (ByteArray.extract s 0 (ptS s))=false)(hx2:ByteArray.extract s 0 (ptS s)=ByteArray.mk #[118])(hx3:coM (ByteArray.extract s (ptS s+1) (ByteArray.size s),true)=true):Pu 149 [.str s] (rI 0):=
 pu mdL (fun e=>[kp,df ((↑(ByteArray.size s):Int)>120),cl (@nCuT s oM hx),cl (@nNmT (ByteArray.extract s 0 (ptS s))),rp 2 (bt1 (bnT hx0)),cl (@nTiT (ByteArray.extract s 0 (ptS s))),rp 2 (bt1 (bnT hx0)),rp 3 (bt1 (bnT hx1)),rp 2 (bf (!ByteArray.toList (ByteArray.extract s 0 (ptS s))==ByteArray.toList (bM 118)) (bnF (bsT hx2))),bt1 (bnT hx1),bf (!ByteArray.toList (ByteArray.extract s 0 (ptS s))==ByteArray.toList (bM 118)) (bnF (bsT hx2)),bt1 (bnT hx1),bf false,lq (@co_T e (ByteArray.extract s (ptS s+1) (ByteArray.size s)) true (by (apply ex_le <;> first | assumption | omega | decide)) hx3)]) func149
theorem nCoB_3(hl:(s.size:Int)<=120)(hx:ptS s<s.size)(hx0:nameB (ByteArray.extract s 0 (ptS s))=false)(hx1:titleB (ByteArray.extract s 0 (ptS s))=false)(hx2:ByteArray.extract s 0 (ptS s)=ByteArray.mk #[118])(hx3:coM (ByteArray.extract s (ptS s+1) (ByteArray.size s),true)=false):Pu 149 [.str s] (rI 3):=
 pu mdL (fun e=>[kp,df ((↑(ByteArray.size s):Int)>120),cl (@nCuT s oM hx),cl (@nNmT (ByteArray.extract s 0 (ptS s))),rp 2 (bt1 (bnT hx0)),cl (@nTiT (ByteArray.extract s 0 (ptS s))),rp 2 (bt1 (bnT hx0)),rp 3 (bt1 (bnT hx1)),rp 2 (bf (!ByteArray.toList (ByteArray.extract s 0 (ptS s))==ByteArray.toList (bM 118)) (bnF (bsT hx2))),bt1 (bnT hx1),bf (!ByteArray.toList (ByteArray.extract s 0 (ptS s))==ByteArray.toList (bM 118)) (bnF (bsT hx2)),bt1 (bnT hx1),bf false,lq (@co_F e (ByteArray.extract s (ptS s+1) (ByteArray.size s)) true (by (apply ex_le <;> first | assumption | omega | decide)) hx3)]) func149
theorem nCoB_4(hl:(s.size:Int)<=120)(hx:ptS s<s.size)(hx0:nameB (ByteArray.extract s 0 (ptS s))=false)(hx1:titleB (ByteArray.extract s 0 (ptS s))=true)(hx2:coM (ByteArray.extract s (ptS s+1) (ByteArray.size s),true)=true):Pu 149 [.str s] (rI 0):=
 pu mdL (fun e=>[kp,df ((↑(ByteArray.size s):Int)>120),cl (@nCuT s oM hx),cl (@nNmT (ByteArray.extract s 0 (ptS s))),rp 2 (bt1 (bnT hx0)),cl (@nTiT (ByteArray.extract s 0 (ptS s))),rp 2 (bt1 (bnT hx0)),rp 5 (bf1 (bnF hx1)),bf false,lq (@co_T e (ByteArray.extract s (ptS s+1) (ByteArray.size s)) true (by (apply ex_le <;> first | assumption | omega | decide)) hx2)]) func149
theorem nCoB_5(hl:(s.size:Int)<=120)(hx:ptS s<s.size)(hx0:nameB (ByteArray.extract s 0 (ptS s))=false)(hx1:titleB (ByteArray.extract s 0 (ptS s))=true)(hx2:coM (ByteArray.extract s (ptS s+1) (ByteArray.size s),true)=false):Pu 149 [.str s] (rI 3):=
 pu mdL (fun e=>[kp,df ((↑(ByteArray.size s):Int)>120),cl (@nCuT s oM hx),cl (@nNmT (ByteArray.extract s 0 (ptS s))),rp 2 (bt1 (bnT hx0)),cl (@nTiT (ByteArray.extract s 0 (ptS s))),rp 2 (bt1 (bnT hx0)),rp 5 (bf1 (bnF hx1)),bf false,lq (@co_F e (ByteArray.extract s (ptS s+1) (ByteArray.size s)) true (by (apply ex_le <;> first | assumption | omega | decide)) hx2)]) func149
theorem nCoB_6(hl:(s.size:Int)<=120)(hx:ptS s<s.size)(hx0:nameB (ByteArray.extract s 0 (ptS s))=true)(hx1:coM (ByteArray.extract s (ptS s+1) (ByteArray.size s),true)=true):Pu 149 [.str s] (rI 0):=
 pu mdL (fun e=>[kp,df ((↑(ByteArray.size s):Int)>120),cl (@nCuT s oM hx),cl (@nNmT (ByteArray.extract s 0 (ptS s))),rp 4 (bf1 (bnF hx0)),rp 6 (bf false),lq (@co_T e (ByteArray.extract s (ptS s+1) (ByteArray.size s)) true (by (apply ex_le <;> first | assumption | omega | decide)) hx1)]) func149
theorem nCoB_7(hl:(s.size:Int)<=120)(hx:ptS s<s.size)(hx0:nameB (ByteArray.extract s 0 (ptS s))=true)(hx1:coM (ByteArray.extract s (ptS s+1) (ByteArray.size s),true)=false):Pu 149 [.str s] (rI 3):=
 pu mdL (fun e=>[kp,df ((↑(ByteArray.size s):Int)>120),cl (@nCuT s oM hx),cl (@nNmT (ByteArray.extract s 0 (ptS s))),rp 4 (bf1 (bnF hx0)),rp 6 (bf false),lq (@co_F e (ByteArray.extract s (ptS s+1) (ByteArray.size s)) true (by (apply ex_le <;> first | assumption | omega | decide)) hx1)]) func149
theorem nCoC_1(hl:(s.size:Int)<=120)(hx:¬ptS s<s.size)(hx0:nameB s=false)(hx1:titleB s=false)(hx2:¬s=ByteArray.mk #[118]):Pu 149 [.str s] (rI 3):=
 pm mdL [kp,df ((↑(ByteArray.size s):Int)>120),cl (@nCuF s oM hx),cl (@nNmT s),rp 2 (bt1 (bnT hx0)),cl (@nTiT s),rp 2 (bt1 (bnT hx0)),rp 3 (bt1 (bnT hx1)),rp 2 (bt (!ByteArray.toList s==ByteArray.toList (bM 118)) (bnT (bsF hx2))),bt1 (bnT hx1),bt (!ByteArray.toList s==ByteArray.toList (bM 118)) (bnT (bsF hx2)),bt1 (bnT hx1),bt true] func149
theorem nCoC_2(hl:(s.size:Int)<=120)(hx:¬ptS s<s.size)(hx0:nameB s=false)(hx1:titleB s=false)(hx2:s=ByteArray.mk #[118]):Pu 149 [.str s] (rI 3):=
 pm mdL [kp,df ((↑(ByteArray.size s):Int)>120),cl (@nCuF s oM hx),cl (@nNmT s),rp 2 (bt1 (bnT hx0)),cl (@nTiT s),rp 2 (bt1 (bnT hx0)),rp 3 (bt1 (bnT hx1)),rp 2 (bf (!ByteArray.toList s==ByteArray.toList (bM 118)) (bnF (bsT hx2))),bt1 (bnT hx1),bf (!ByteArray.toList s==ByteArray.toList (bM 118)) (bnF (bsT hx2)),bt1 (bnT hx1),bt true] func149
theorem nCoC_3(hl:(s.size:Int)<=120)(hx:¬ptS s<s.size)(hx0:nameB s=false)(hx1:titleB s=true):Pu 149 [.str s] (rI 0):=
 pu mdL (fun e=>[kp,df ((↑(ByteArray.size s):Int)>120),cl (@nCuF s oM hx),cl (@nNmT s),rp 2 (bt1 (bnT hx0)),cl (@nTiT s),rp 2 (bt1 (bnT hx0)),rp 5 (bf1 (bnF hx1)),bf false,lq (@co_T e nm0 false (by (apply s_le <;> first | assumption | omega | decide)) rF)]) func149
theorem nCoC_4(hl:(s.size:Int)<=120)(hx:¬ptS s<s.size)(hx0:nameB s=true):Pu 149 [.str s] (rI 0):=
 pu mdL (fun e=>[kp,df ((↑(ByteArray.size s):Int)>120),cl (@nCuF s oM hx),cl (@nNmT s),rp 4 (bf1 (bnF hx0)),rp 6 (bf false),lq (@co_T e nm0 false (by (apply s_le <;> first | assumption | omega | decide)) rF)]) func149
end
end Go.Proofs.YtcflffbapgiicaaGreatDoor
