/- Values of Go as plain data, an evaluator over them, and what the functions of the program return; part Yc. -/
import Derived.Test.YtcflffbapgiicaaGreatDoorYb
import Derived.Test.YtcflffbapgiicaaGreatDoorYa
set_option linter.unusedSectionVars false
set_option linter.unusedSimpArgs false
set_option linter.unusedVariables false
namespace Go.Proofs.YtcflffbapgiicaaGreatDoor
open Go.Proofs.Tryz
open Go.Pv Go.Proofs.Tryz
set_option maxRecDepth 100000
theorem Ob.frag_pre{P:Program}{n:Nat}{c:Code}{s0 t s1:S}{pe:PExit}(hl:LeX t s0)(h:(Ob.frag n c t pe s1).ok P):(Ob.frag n c s0 pe s1).ok P:=fun cx hcx g l a w hs=>h cx hcx g l a w (hs.leX hl)
theorem Ob.frag_both{P:Program}{n:Nat}{c:Code}{s0 t s1 v:S}{pe:PExit}(h:(Ob.frag n c t pe s1).ok P)(hl:LeX t s0)(hr:LeX v s1):(Ob.frag n c s0 pe v).ok P:=Ob.frag_le hr (Ob.frag_pre hl h)
theorem noX_in(m:Mo)(t:Int):noXs [.agg (moL m),.int .u8 t]=true:=by simp only [noXs,PV.noX,Da.csnx,Cl.csnx,In.csnx,Ms.csnx,Qu.csnx,Df.csnx,Bool.and_self]
theorem rlA_e:∀ (l:List BA) (out:List (List PV)),rlA_f l out=out++l.map fun s=>[.int .i64 3,.str s,.int .i64 0,.nilsl]
 | [],out=>by simp [rlA_f]
 | c::r,out=>by
  have h:=rlA_e r (out++[[.int .i64 3,.str c,.int .i64 0,.nilsl]])
  rw [List.append_assoc] at h
  rw [rlA_f]
  exact h
theorem ns_wk:∀ns:List BA,WkLL (ns.map fun s=>[.int .i64 3,.str s,.int .i64 0,.nilsl]) (Pr.cs (ns.map fun s => .mk 3 s 0 []))
 | []=>by rw [Pr.cs_eq]; exact WkLL.r _
 | s::r=>by
  have h:=ns_wk r
  rw [Pr.cs_eq] at h ⊢
  exact WkLL.c (WkL.c (.r _) (WkL.c (.r _) (WkL.c (.r _) (WkL.c (.n 4) (WkL.r _))))) h
theorem ns_bulk:∀ns:List BA,bulkPss (Pr.cs (ns.map fun s => .mk 3 s 0 []))<=5 * bulkPss (nmsC ns)
 | []=>by rw [Pr.cs_eq]; simp [bulkPss]
 | s::r=>by
  have h:=ns_bulk r
  rw [Pr.cs_eq] at h ⊢
  have e:bulkPs (prL (.mk 3 s 0 []))=s.size+4:=by simp only [bulkPs,bulkP,prO,prNm,prN,prK,Pr.cs,bulkPss]; omega
  simp only [List.map_cons,bulkPss,nmsC,bulkPs,bulkP] at h e ⊢
  omega
theorem ra_ns(a:Tp)(o:Int)(nm:BA)(ns:List BA)(hs:bulkPs (tpL a)<=10000000)(hn:nm.size<=10000000)(hp:bulkPss (nmsC ns)<=10000000):∃c:Tp,Pu 28 [.agg (tpL a),.agg [.int .i64 o,.str nm0,.int .i64 0,.sl 4 [[.int .i64 3,.str ⟨#[118]⟩,.int .i64 0,.sl 4 []],[.int .i64 4,.str nm,.int .i64 0,.sl 4 (rlA_f ns [])]]]] (.ret (.agg (tpL c))):=by
 have hb:=ns_bulk ns
 have e1:Pr.cs [.mk 3 ⟨#[118]⟩ 0 [],.mk 4 nm 0 (ns.map fun s => .mk 3 s 0 [])]=[[.int .i64 3,.str ⟨#[118]⟩,.int .i64 0,.sl 4 []],[.int .i64 4,.str nm,.int .i64 0,.sl 4 (Pr.cs (ns.map fun s => .mk 3 s 0 []))]]:=by rw [Pr.cs_eq]; rfl
 have e2:bulkPs (prL (.mk o nm0 0 [.mk 3 ⟨#[118]⟩ 0 [],.mk 4 nm 0 (ns.map fun s => .mk 3 s 0 [])]))<=100000000:=by
  show bulkPs [.int .i64 o,.str nm0,.int .i64 0,.sl 4 (Pr.cs [.mk 3 ⟨#[118]⟩ 0 [],.mk 4 nm 0 (ns.map fun s => .mk 3 s 0 [])])]<=_
  rw [e1]
  have e3:(⟨#[118]⟩:BA).size=1:=rfl
  have e4:nm0.size=0:=rfl
  simp only [bulkPs,bulkP,bulkPss,e3,e4]
  omega
 obtain ⟨c,hc⟩:=ra_ex a (.mk o nm0 0 [.mk 3 ⟨#[118]⟩ 0 [],.mk 4 nm 0 (ns.map fun s => .mk 3 s 0 [])]) oM e2
 refine ⟨c,Ob.pur_arg (WkL.c (.r _) (WkL.c (Wk.a (WkL.c (.r _) (WkL.c (.r _) (WkL.c (.r _) (WkL.c (Wk.s ?_) (WkL.r _)))))) (WkL.r _))) hc⟩
 show WkLL _ (Pr.cs [.mk 3 ⟨#[118]⟩ 0 [],.mk 4 nm 0 (ns.map fun s => .mk 3 s 0 [])])
 rw [e1,rlA_e,List.nil_append]
 exact WkLL.c (WkL.r _) (WkLL.c (WkL.c (.r _) (WkL.c (.r _) (WkL.c (.r _) (WkL.c (Wk.s (ns_wk ns)) (WkL.r _))))) (WkLL.r _))
theorem jn1(m:Mo)(t:Nat)(nm p0 tn:BA)(b:Ex)(ty:Bool)(vs ns:List BA)(ne abz:List Vr)(bo:List Bo)(a0 a1:Tp)(pp:Pr)(pse me:List Pr)(hs:bulkPs (tpL a1)<=10000000)(hn:nm.size<=10000000)(hb1:bulkPss (nmsC ns)<=10000000)(hb2:bulkPss (nmsC [p0])<=10000000)
  (hlg:Pu 6 [.agg (moL m)] (.ret (.bool true))) (hat:Pu 5 [.agg (moL m),.int .u8 t] (.ret (.tup [.agg (dfL (.mk nm [p0] b 2 ty vs ne abz bo (.mk 6 tn [a0,a1] ns pp pse) me:Df)),.bool true]))) (hw0:Pu 9 [.agg (tpL a0),.agg (tpL a0)] (.ret (.bool true))) (haw:Pu 7 [] (.ret (.bool true))):Pu 3 [.agg (moL m),.int .u8 t] (.ret (.bool true)):=by
 have hM:ns.length<=100000000:=by have:=nms_bulk ns; omega
 have hl:∀c:Tp,(Ob.frag 102 (tailF f3 5) (⟨[(4,.v (.bool false)),(5,.lp 5 0),(7,.lp 7 0)],[(5,[jk,jk,jk,jk,jk,jk,jk,jk,jk,.v (.int .i64 2),jk,jk,jk,jk,.v (.sl 10 (Bo.cs bo)),.v (.int .i64 6),jk,.v (.sl 9 [tpL a0,tpL a1]),jk,jk,jk,jk,jk,jk,.v (.sl 4 (Pr.cs me))]),(7,[jk,jk,jk,.v (.sl 10 (Bo.cs bo)),.v (.int .i64 6),jk,.v (.xsl 0 9 2),jk,jk,jk,jk,jk,jk,.v (.sl 4 (Pr.cs me))])],[(0,tpV a0++tpV c)]⟩) .ret ⟨[(4,.v (.bool true))],[],[(0,tpV a0++tpV c)]⟩).ok prog:=fun c=>by
  have h7:=fun cx hcx=>lw1 (Bo.cs bo) (Pr.cs me) a0 a1 c hw0 haw cx hcx (Q:=fun pe' s'=>pe' = .ret/\s'=_) ⟨rfl,rfl⟩
  refine Ob.frag_le ?_ h7
  exact ⟨⟨W,tVv⟩,trivial,rfl⟩
 have e:Tp.cs [a0,a1]=[tpL a0,tpL a1]:=by rw [Tp.cs_eq]; rfl
 rw [<-e] at hl
 by_cases h:(ns.length:Int)=1
 ·obtain ⟨c,hc⟩:=ra_ns a1 (eqS_r0 (tpO a1)) nm ns hs hn hb1
  have h7:=fun cx hcx=>rt1 (nmsC vs) (Vr.cs ne) (Vr.cs abz) (Bo.cs bo) (Pr.cs me) (nmsC ns) (rlA_f ns []) (Pr.cs (prK pp)) (Pr.cs pse) tn nm (prNm pp) (prO pp) (prN pp) a0 a1 c hc cx hcx (Q:=fun pe' s'=>pe' = .ret/\s'=_) ⟨rfl,rfl⟩
  exact Ob.pur_of_eff (noX_in m t) rfl (rpD m (.mk nm [p0] b 2 ty vs ne abz bo (.mk 6 tn [a0,a1] ns pp pse) me:Df) ns 2 (tpV a0++tpV c) t hlg hat (rsA m (.mk nm [p0] b 2 ty vs ne abz bo (.mk 6 tn [a0,a1] ns pp pse) me:Df) 2 (tpV a0++tpV c) (by simp [dfP]) hM rfl rfl (by simp [dfP]) rfl h (by refine Ob.frag_le ?_ h7; exact ⟨⟨W,tVv⟩,⟨WLs.refl _,tVv⟩,rfl⟩)) (hl c))
 ·obtain ⟨c,hc⟩:=ra_ns a1 (eqS_r0 (tpO a1)) nm [p0] hs hn hb2
  have h7:=fun cx hcx=>rt1 (nmsC vs) (Vr.cs ne) (Vr.cs abz) (Bo.cs bo) (Pr.cs me) (nmsC [p0]) (rlA_f [p0] []) (Pr.cs (prK pp)) (Pr.cs pse) tn nm (prNm pp) (prO pp) (prN pp) a0 a1 c hc cx hcx (Q:=fun pe' s'=>pe' = .ret/\s'=_) ⟨rfl,rfl⟩
  exact Ob.pur_of_eff (noX_in m t) rfl (rpD m (.mk nm [p0] b 2 ty vs ne abz bo (.mk 6 tn [a0,a1] ns pp pse) me:Df) [p0] 2 (tpV a0++tpV c) t hlg hat (rsB m (.mk nm [p0] b 2 ty vs ne abz bo (.mk 6 tn [a0,a1] ns pp pse) me:Df) 2 (tpV a0++tpV c) (by simp [dfP]) hM rfl rfl (by simp [dfP]) rfl h (Ob.frag_both h7 ⟨⟨W,W,W,W,W,tVv⟩,⟨WLs.refl _,WLs.refl _,⟨W,W,W,.inr ⟨rfl,rfl⟩,W,W,W,W,W,tVv⟩,WLs.refl _,tVv⟩,rfl⟩ ⟨⟨W,tVv⟩,⟨WLs.refl _,tVv⟩,rfl⟩)) (hl c))
theorem jn2(m:Mo)(t:Nat)(nm p0 p1 tn:BA)(b:Ex)(ty:Bool)(vs ns:List BA)(ne abz:List Vr)(bo:List Bo)(a0 a1 a2:Tp)(pp:Pr)(pse me:List Pr)(hs:bulkPs (tpL a2)<=10000000)(hn:nm.size<=10000000)(hb1:bulkPss (nmsC ns)<=10000000)(hb2:bulkPss (nmsC [p0,p1])<=10000000)
  (hlg:Pu 6 [.agg (moL m)] (.ret (.bool true))) (hat:Pu 5 [.agg (moL m),.int .u8 t] (.ret (.tup [.agg (dfL (.mk nm [p0,p1] b 2 ty vs ne abz bo (.mk 6 tn [a0,a1,a2] ns pp pse) me:Df)),.bool true]))) (hw0:Pu 9 [.agg (tpL a0),.agg (tpL a0)] (.ret (.bool true))) (hw1:Pu 9 [.agg (tpL a1),.agg (tpL a1)] (.ret (.bool true))) (haw:Pu 7 [] (.ret (.bool true))):Pu 3 [.agg (moL m),.int .u8 t] (.ret (.bool true)):=by
 have hM:ns.length<=100000000:=by have:=nms_bulk ns; omega
 have hl:∀c:Tp,(Ob.frag 102 (tailF f3 5) (⟨[(4,.v (.bool false)),(5,.lp 5 0),(7,.lp 7 0)],[(5,[jk,jk,jk,jk,jk,jk,jk,jk,jk,.v (.int .i64 2),jk,jk,jk,jk,.v (.sl 10 (Bo.cs bo)),.v (.int .i64 6),jk,.v (.sl 9 [tpL a0,tpL a1,tpL a2]),jk,jk,jk,jk,jk,jk,.v (.sl 4 (Pr.cs me))]),(7,[jk,jk,jk,.v (.sl 10 (Bo.cs bo)),.v (.int .i64 6),jk,.v (.xsl 0 9 3),jk,jk,jk,jk,jk,jk,.v (.sl 4 (Pr.cs me))])],[(0,tpV a0++tpV a1++tpV c)]⟩) .ret ⟨[(4,.v (.bool true))],[],[(0,tpV a0++tpV a1++tpV c)]⟩).ok prog:=fun c=>by
  have h7:=fun cx hcx=>lw2 (Bo.cs bo) (Pr.cs me) a0 a1 a2 c hw0 hw1 haw cx hcx (Q:=fun pe' s'=>pe' = .ret/\s'=_) ⟨rfl,rfl⟩
  refine Ob.frag_le ?_ h7
  exact ⟨⟨W,tVv⟩,trivial,rfl⟩
 have e:Tp.cs [a0,a1,a2]=[tpL a0,tpL a1,tpL a2]:=by rw [Tp.cs_eq]; rfl
 rw [<-e] at hl
 by_cases h:(ns.length:Int)=2
 ·obtain ⟨c,hc⟩:=ra_ns a2 (eqS_r0 (tpO a2)) nm ns hs hn hb1
  have h7:=fun cx hcx=>rt2 (nmsC vs) (Vr.cs ne) (Vr.cs abz) (Bo.cs bo) (Pr.cs me) (nmsC ns) (rlA_f ns []) (Pr.cs (prK pp)) (Pr.cs pse) tn nm (prNm pp) (prO pp) (prN pp) a0 a1 a2 c hc cx hcx (Q:=fun pe' s'=>pe' = .ret/\s'=_) ⟨rfl,rfl⟩
  exact Ob.pur_of_eff (noX_in m t) rfl (rpD m (.mk nm [p0,p1] b 2 ty vs ne abz bo (.mk 6 tn [a0,a1,a2] ns pp pse) me:Df) ns 3 (tpV a0++tpV a1++tpV c) t hlg hat (rsA m (.mk nm [p0,p1] b 2 ty vs ne abz bo (.mk 6 tn [a0,a1,a2] ns pp pse) me:Df) 3 (tpV a0++tpV a1++tpV c) (by simp [dfP]) hM rfl rfl (by simp [dfP]) rfl h (by refine Ob.frag_le ?_ h7; exact ⟨⟨W,tVv⟩,⟨WLs.refl _,tVv⟩,rfl⟩)) (hl c))
 ·obtain ⟨c,hc⟩:=ra_ns a2 (eqS_r0 (tpO a2)) nm [p0,p1] hs hn hb2
  have h7:=fun cx hcx=>rt2 (nmsC vs) (Vr.cs ne) (Vr.cs abz) (Bo.cs bo) (Pr.cs me) (nmsC [p0,p1]) (rlA_f [p0,p1] []) (Pr.cs (prK pp)) (Pr.cs pse) tn nm (prNm pp) (prO pp) (prN pp) a0 a1 a2 c hc cx hcx (Q:=fun pe' s'=>pe' = .ret/\s'=_) ⟨rfl,rfl⟩
  exact Ob.pur_of_eff (noX_in m t) rfl (rpD m (.mk nm [p0,p1] b 2 ty vs ne abz bo (.mk 6 tn [a0,a1,a2] ns pp pse) me:Df) [p0,p1] 3 (tpV a0++tpV a1++tpV c) t hlg hat (rsB m (.mk nm [p0,p1] b 2 ty vs ne abz bo (.mk 6 tn [a0,a1,a2] ns pp pse) me:Df) 3 (tpV a0++tpV a1++tpV c) (by simp [dfP]) hM rfl rfl (by simp [dfP]) rfl h (Ob.frag_both h7 ⟨⟨W,W,W,W,W,tVv⟩,⟨WLs.refl _,WLs.refl _,⟨W,W,W,.inr ⟨rfl,rfl⟩,W,W,W,W,W,tVv⟩,WLs.refl _,tVv⟩,rfl⟩ ⟨⟨W,tVv⟩,⟨WLs.refl _,tVv⟩,rfl⟩)) (hl c))
theorem jn3(m:Mo)(t:Nat)(nm p0 p1 p2 tn:BA)(b:Ex)(ty:Bool)(vs ns:List BA)(ne abz:List Vr)(bo:List Bo)(a0 a1 a2 a3:Tp)(pp:Pr)(pse me:List Pr)(hs:bulkPs (tpL a3)<=10000000)(hn:nm.size<=10000000)(hb1:bulkPss (nmsC ns)<=10000000)(hb2:bulkPss (nmsC [p0,p1,p2])<=10000000)
  (hlg:Pu 6 [.agg (moL m)] (.ret (.bool true))) (hat:Pu 5 [.agg (moL m),.int .u8 t] (.ret (.tup [.agg (dfL (.mk nm [p0,p1,p2] b 2 ty vs ne abz bo (.mk 6 tn [a0,a1,a2,a3] ns pp pse) me:Df)),.bool true]))) (hw0:Pu 9 [.agg (tpL a0),.agg (tpL a0)] (.ret (.bool true))) (hw1:Pu 9 [.agg (tpL a1),.agg (tpL a1)] (.ret (.bool true))) (hw2:Pu 9 [.agg (tpL a2),.agg (tpL a2)] (.ret (.bool true))) (haw:Pu 7 [] (.ret (.bool true))):Pu 3 [.agg (moL m),.int .u8 t] (.ret (.bool true)):=by
 have hM:ns.length<=100000000:=by have:=nms_bulk ns; omega
 have hl:∀c:Tp,(Ob.frag 102 (tailF f3 5) (⟨[(4,.v (.bool false)),(5,.lp 5 0),(7,.lp 7 0)],[(5,[jk,jk,jk,jk,jk,jk,jk,jk,jk,.v (.int .i64 2),jk,jk,jk,jk,.v (.sl 10 (Bo.cs bo)),.v (.int .i64 6),jk,.v (.sl 9 [tpL a0,tpL a1,tpL a2,tpL a3]),jk,jk,jk,jk,jk,jk,.v (.sl 4 (Pr.cs me))]),(7,[jk,jk,jk,.v (.sl 10 (Bo.cs bo)),.v (.int .i64 6),jk,.v (.xsl 0 9 4),jk,jk,jk,jk,jk,jk,.v (.sl 4 (Pr.cs me))])],[(0,tpV a0++tpV a1++tpV a2++tpV c)]⟩) .ret ⟨[(4,.v (.bool true))],[],[(0,tpV a0++tpV a1++tpV a2++tpV c)]⟩).ok prog:=fun c=>by
  have h7:=fun cx hcx=>lw3 (Bo.cs bo) (Pr.cs me) a0 a1 a2 a3 c hw0 hw1 hw2 haw cx hcx (Q:=fun pe' s'=>pe' = .ret/\s'=_) ⟨rfl,rfl⟩
  refine Ob.frag_le ?_ h7
  exact ⟨⟨W,tVv⟩,trivial,rfl⟩
 have e:Tp.cs [a0,a1,a2,a3]=[tpL a0,tpL a1,tpL a2,tpL a3]:=by rw [Tp.cs_eq]; rfl
 rw [<-e] at hl
 by_cases h:(ns.length:Int)=3
 ·obtain ⟨c,hc⟩:=ra_ns a3 (eqS_r0 (tpO a3)) nm ns hs hn hb1
  have h7:=fun cx hcx=>rt3 (nmsC vs) (Vr.cs ne) (Vr.cs abz) (Bo.cs bo) (Pr.cs me) (nmsC ns) (rlA_f ns []) (Pr.cs (prK pp)) (Pr.cs pse) tn nm (prNm pp) (prO pp) (prN pp) a0 a1 a2 a3 c hc cx hcx (Q:=fun pe' s'=>pe' = .ret/\s'=_) ⟨rfl,rfl⟩
  exact Ob.pur_of_eff (noX_in m t) rfl (rpD m (.mk nm [p0,p1,p2] b 2 ty vs ne abz bo (.mk 6 tn [a0,a1,a2,a3] ns pp pse) me:Df) ns 4 (tpV a0++tpV a1++tpV a2++tpV c) t hlg hat (rsA m (.mk nm [p0,p1,p2] b 2 ty vs ne abz bo (.mk 6 tn [a0,a1,a2,a3] ns pp pse) me:Df) 4 (tpV a0++tpV a1++tpV a2++tpV c) (by simp [dfP]) hM rfl rfl (by simp [dfP]) rfl h (by refine Ob.frag_le ?_ h7; exact ⟨⟨W,tVv⟩,⟨WLs.refl _,tVv⟩,rfl⟩)) (hl c))
 ·obtain ⟨c,hc⟩:=ra_ns a3 (eqS_r0 (tpO a3)) nm [p0,p1,p2] hs hn hb2
  have h7:=fun cx hcx=>rt3 (nmsC vs) (Vr.cs ne) (Vr.cs abz) (Bo.cs bo) (Pr.cs me) (nmsC [p0,p1,p2]) (rlA_f [p0,p1,p2] []) (Pr.cs (prK pp)) (Pr.cs pse) tn nm (prNm pp) (prO pp) (prN pp) a0 a1 a2 a3 c hc cx hcx (Q:=fun pe' s'=>pe' = .ret/\s'=_) ⟨rfl,rfl⟩
  exact Ob.pur_of_eff (noX_in m t) rfl (rpD m (.mk nm [p0,p1,p2] b 2 ty vs ne abz bo (.mk 6 tn [a0,a1,a2,a3] ns pp pse) me:Df) [p0,p1,p2] 4 (tpV a0++tpV a1++tpV a2++tpV c) t hlg hat (rsB m (.mk nm [p0,p1,p2] b 2 ty vs ne abz bo (.mk 6 tn [a0,a1,a2,a3] ns pp pse) me:Df) 4 (tpV a0++tpV a1++tpV a2++tpV c) (by simp [dfP]) hM rfl rfl (by simp [dfP]) rfl h (Ob.frag_both h7 ⟨⟨W,W,W,W,W,tVv⟩,⟨WLs.refl _,WLs.refl _,⟨W,W,W,.inr ⟨rfl,rfl⟩,W,W,W,W,W,tVv⟩,WLs.refl _,tVv⟩,rfl⟩ ⟨⟨W,tVv⟩,⟨WLs.refl _,tVv⟩,rfl⟩)) (hl c))
theorem jn4(m:Mo)(t:Nat)(nm p0 p1 p2 p3 tn:BA)(b:Ex)(ty:Bool)(vs ns:List BA)(ne abz:List Vr)(bo:List Bo)(a0 a1 a2 a3 a4:Tp)(pp:Pr)(pse me:List Pr)(hs:bulkPs (tpL a4)<=10000000)(hn:nm.size<=10000000)(hb1:bulkPss (nmsC ns)<=10000000)(hb2:bulkPss (nmsC [p0,p1,p2,p3])<=10000000)
  (hlg:Pu 6 [.agg (moL m)] (.ret (.bool true))) (hat:Pu 5 [.agg (moL m),.int .u8 t] (.ret (.tup [.agg (dfL (.mk nm [p0,p1,p2,p3] b 2 ty vs ne abz bo (.mk 6 tn [a0,a1,a2,a3,a4] ns pp pse) me:Df)),.bool true]))) (hw0:Pu 9 [.agg (tpL a0),.agg (tpL a0)] (.ret (.bool true))) (hw1:Pu 9 [.agg (tpL a1),.agg (tpL a1)] (.ret (.bool true))) (hw2:Pu 9 [.agg (tpL a2),.agg (tpL a2)] (.ret (.bool true))) (hw3:Pu 9 [.agg (tpL a3),.agg (tpL a3)] (.ret (.bool true))) (haw:Pu 7 [] (.ret (.bool true))):Pu 3 [.agg (moL m),.int .u8 t] (.ret (.bool true)):=by
 have hM:ns.length<=100000000:=by have:=nms_bulk ns; omega
 have hl:∀c:Tp,(Ob.frag 102 (tailF f3 5) (⟨[(4,.v (.bool false)),(5,.lp 5 0),(7,.lp 7 0)],[(5,[jk,jk,jk,jk,jk,jk,jk,jk,jk,.v (.int .i64 2),jk,jk,jk,jk,.v (.sl 10 (Bo.cs bo)),.v (.int .i64 6),jk,.v (.sl 9 [tpL a0,tpL a1,tpL a2,tpL a3,tpL a4]),jk,jk,jk,jk,jk,jk,.v (.sl 4 (Pr.cs me))]),(7,[jk,jk,jk,.v (.sl 10 (Bo.cs bo)),.v (.int .i64 6),jk,.v (.xsl 0 9 5),jk,jk,jk,jk,jk,jk,.v (.sl 4 (Pr.cs me))])],[(0,tpV a0++tpV a1++tpV a2++tpV a3++tpV c)]⟩) .ret ⟨[(4,.v (.bool true))],[],[(0,tpV a0++tpV a1++tpV a2++tpV a3++tpV c)]⟩).ok prog:=fun c=>by
  have h7:=fun cx hcx=>lw4 (Bo.cs bo) (Pr.cs me) a0 a1 a2 a3 a4 c hw0 hw1 hw2 hw3 haw cx hcx (Q:=fun pe' s'=>pe' = .ret/\s'=_) ⟨rfl,rfl⟩
  refine Ob.frag_le ?_ h7
  exact ⟨⟨W,tVv⟩,trivial,rfl⟩
 have e:Tp.cs [a0,a1,a2,a3,a4]=[tpL a0,tpL a1,tpL a2,tpL a3,tpL a4]:=by rw [Tp.cs_eq]; rfl
 rw [<-e] at hl
 by_cases h:(ns.length:Int)=4
 ·obtain ⟨c,hc⟩:=ra_ns a4 (eqS_r0 (tpO a4)) nm ns hs hn hb1
  have h7:=fun cx hcx=>rt4 (nmsC vs) (Vr.cs ne) (Vr.cs abz) (Bo.cs bo) (Pr.cs me) (nmsC ns) (rlA_f ns []) (Pr.cs (prK pp)) (Pr.cs pse) tn nm (prNm pp) (prO pp) (prN pp) a0 a1 a2 a3 a4 c hc cx hcx (Q:=fun pe' s'=>pe' = .ret/\s'=_) ⟨rfl,rfl⟩
  exact Ob.pur_of_eff (noX_in m t) rfl (rpD m (.mk nm [p0,p1,p2,p3] b 2 ty vs ne abz bo (.mk 6 tn [a0,a1,a2,a3,a4] ns pp pse) me:Df) ns 5 (tpV a0++tpV a1++tpV a2++tpV a3++tpV c) t hlg hat (rsA m (.mk nm [p0,p1,p2,p3] b 2 ty vs ne abz bo (.mk 6 tn [a0,a1,a2,a3,a4] ns pp pse) me:Df) 5 (tpV a0++tpV a1++tpV a2++tpV a3++tpV c) (by simp [dfP]) hM rfl rfl (by simp [dfP]) rfl h (by refine Ob.frag_le ?_ h7; exact ⟨⟨W,tVv⟩,⟨WLs.refl _,tVv⟩,rfl⟩)) (hl c))
 ·obtain ⟨c,hc⟩:=ra_ns a4 (eqS_r0 (tpO a4)) nm [p0,p1,p2,p3] hs hn hb2
  have h7:=fun cx hcx=>rt4 (nmsC vs) (Vr.cs ne) (Vr.cs abz) (Bo.cs bo) (Pr.cs me) (nmsC [p0,p1,p2,p3]) (rlA_f [p0,p1,p2,p3] []) (Pr.cs (prK pp)) (Pr.cs pse) tn nm (prNm pp) (prO pp) (prN pp) a0 a1 a2 a3 a4 c hc cx hcx (Q:=fun pe' s'=>pe' = .ret/\s'=_) ⟨rfl,rfl⟩
  exact Ob.pur_of_eff (noX_in m t) rfl (rpD m (.mk nm [p0,p1,p2,p3] b 2 ty vs ne abz bo (.mk 6 tn [a0,a1,a2,a3,a4] ns pp pse) me:Df) [p0,p1,p2,p3] 5 (tpV a0++tpV a1++tpV a2++tpV a3++tpV c) t hlg hat (rsB m (.mk nm [p0,p1,p2,p3] b 2 ty vs ne abz bo (.mk 6 tn [a0,a1,a2,a3,a4] ns pp pse) me:Df) 5 (tpV a0++tpV a1++tpV a2++tpV a3++tpV c) (by simp [dfP]) hM rfl rfl (by simp [dfP]) rfl h (Ob.frag_both h7 ⟨⟨W,W,W,W,W,tVv⟩,⟨WLs.refl _,WLs.refl _,⟨W,W,W,.inr ⟨rfl,rfl⟩,W,W,W,W,W,tVv⟩,WLs.refl _,tVv⟩,rfl⟩ ⟨⟨W,tVv⟩,⟨WLs.refl _,tVv⟩,rfl⟩)) (hl c))
theorem jn5(m:Mo)(t:Nat)(nm p0 p1 p2 p3 p4 tn:BA)(b:Ex)(ty:Bool)(vs ns:List BA)(ne abz:List Vr)(bo:List Bo)(a0 a1 a2 a3 a4 a5:Tp)(pp:Pr)(pse me:List Pr)(hs:bulkPs (tpL a5)<=10000000)(hn:nm.size<=10000000)(hb1:bulkPss (nmsC ns)<=10000000)(hb2:bulkPss (nmsC [p0,p1,p2,p3,p4])<=10000000)
  (hlg:Pu 6 [.agg (moL m)] (.ret (.bool true))) (hat:Pu 5 [.agg (moL m),.int .u8 t] (.ret (.tup [.agg (dfL (.mk nm [p0,p1,p2,p3,p4] b 2 ty vs ne abz bo (.mk 6 tn [a0,a1,a2,a3,a4,a5] ns pp pse) me:Df)),.bool true]))) (hw0:Pu 9 [.agg (tpL a0),.agg (tpL a0)] (.ret (.bool true))) (hw1:Pu 9 [.agg (tpL a1),.agg (tpL a1)] (.ret (.bool true))) (hw2:Pu 9 [.agg (tpL a2),.agg (tpL a2)] (.ret (.bool true))) (hw3:Pu 9 [.agg (tpL a3),.agg (tpL a3)] (.ret (.bool true))) (hw4:Pu 9 [.agg (tpL a4),.agg (tpL a4)] (.ret (.bool true))) (haw:Pu 7 [] (.ret (.bool true))):Pu 3 [.agg (moL m),.int .u8 t] (.ret (.bool true)):=by
 have hM:ns.length<=100000000:=by have:=nms_bulk ns; omega
 have hl:∀c:Tp,(Ob.frag 102 (tailF f3 5) (⟨[(4,.v (.bool false)),(5,.lp 5 0),(7,.lp 7 0)],[(5,[jk,jk,jk,jk,jk,jk,jk,jk,jk,.v (.int .i64 2),jk,jk,jk,jk,.v (.sl 10 (Bo.cs bo)),.v (.int .i64 6),jk,.v (.sl 9 [tpL a0,tpL a1,tpL a2,tpL a3,tpL a4,tpL a5]),jk,jk,jk,jk,jk,jk,.v (.sl 4 (Pr.cs me))]),(7,[jk,jk,jk,.v (.sl 10 (Bo.cs bo)),.v (.int .i64 6),jk,.v (.xsl 0 9 6),jk,jk,jk,jk,jk,jk,.v (.sl 4 (Pr.cs me))])],[(0,tpV a0++tpV a1++tpV a2++tpV a3++tpV a4++tpV c)]⟩) .ret ⟨[(4,.v (.bool true))],[],[(0,tpV a0++tpV a1++tpV a2++tpV a3++tpV a4++tpV c)]⟩).ok prog:=fun c=>by
  have h7:=fun cx hcx=>lw5 (Bo.cs bo) (Pr.cs me) a0 a1 a2 a3 a4 a5 c hw0 hw1 hw2 hw3 hw4 haw cx hcx (Q:=fun pe' s'=>pe' = .ret/\s'=_) ⟨rfl,rfl⟩
  refine Ob.frag_le ?_ h7
  exact ⟨⟨W,tVv⟩,trivial,rfl⟩
 have e:Tp.cs [a0,a1,a2,a3,a4,a5]=[tpL a0,tpL a1,tpL a2,tpL a3,tpL a4,tpL a5]:=by rw [Tp.cs_eq]; rfl
 rw [<-e] at hl
 by_cases h:(ns.length:Int)=5
 ·obtain ⟨c,hc⟩:=ra_ns a5 (eqS_r0 (tpO a5)) nm ns hs hn hb1
  have h7:=fun cx hcx=>rt5 (nmsC vs) (Vr.cs ne) (Vr.cs abz) (Bo.cs bo) (Pr.cs me) (nmsC ns) (rlA_f ns []) (Pr.cs (prK pp)) (Pr.cs pse) tn nm (prNm pp) (prO pp) (prN pp) a0 a1 a2 a3 a4 a5 c hc cx hcx (Q:=fun pe' s'=>pe' = .ret/\s'=_) ⟨rfl,rfl⟩
  exact Ob.pur_of_eff (noX_in m t) rfl (rpD m (.mk nm [p0,p1,p2,p3,p4] b 2 ty vs ne abz bo (.mk 6 tn [a0,a1,a2,a3,a4,a5] ns pp pse) me:Df) ns 6 (tpV a0++tpV a1++tpV a2++tpV a3++tpV a4++tpV c) t hlg hat (rsA m (.mk nm [p0,p1,p2,p3,p4] b 2 ty vs ne abz bo (.mk 6 tn [a0,a1,a2,a3,a4,a5] ns pp pse) me:Df) 6 (tpV a0++tpV a1++tpV a2++tpV a3++tpV a4++tpV c) (by simp [dfP]) hM rfl rfl (by simp [dfP]) rfl h (by refine Ob.frag_le ?_ h7; exact ⟨⟨W,tVv⟩,⟨WLs.refl _,tVv⟩,rfl⟩)) (hl c))
 ·obtain ⟨c,hc⟩:=ra_ns a5 (eqS_r0 (tpO a5)) nm [p0,p1,p2,p3,p4] hs hn hb2
  have h7:=fun cx hcx=>rt5 (nmsC vs) (Vr.cs ne) (Vr.cs abz) (Bo.cs bo) (Pr.cs me) (nmsC [p0,p1,p2,p3,p4]) (rlA_f [p0,p1,p2,p3,p4] []) (Pr.cs (prK pp)) (Pr.cs pse) tn nm (prNm pp) (prO pp) (prN pp) a0 a1 a2 a3 a4 a5 c hc cx hcx (Q:=fun pe' s'=>pe' = .ret/\s'=_) ⟨rfl,rfl⟩
  exact Ob.pur_of_eff (noX_in m t) rfl (rpD m (.mk nm [p0,p1,p2,p3,p4] b 2 ty vs ne abz bo (.mk 6 tn [a0,a1,a2,a3,a4,a5] ns pp pse) me:Df) [p0,p1,p2,p3,p4] 6 (tpV a0++tpV a1++tpV a2++tpV a3++tpV a4++tpV c) t hlg hat (rsB m (.mk nm [p0,p1,p2,p3,p4] b 2 ty vs ne abz bo (.mk 6 tn [a0,a1,a2,a3,a4,a5] ns pp pse) me:Df) 6 (tpV a0++tpV a1++tpV a2++tpV a3++tpV a4++tpV c) (by simp [dfP]) hM rfl rfl (by simp [dfP]) rfl h (Ob.frag_both h7 ⟨⟨W,W,W,W,W,tVv⟩,⟨WLs.refl _,WLs.refl _,⟨W,W,W,.inr ⟨rfl,rfl⟩,W,W,W,W,W,tVv⟩,WLs.refl _,tVv⟩,rfl⟩ ⟨⟨W,tVv⟩,⟨WLs.refl _,tVv⟩,rfl⟩)) (hl c))
theorem jn6(m:Mo)(t:Nat)(nm p0 p1 p2 p3 p4 p5 tn:BA)(b:Ex)(ty:Bool)(vs ns:List BA)(ne abz:List Vr)(bo:List Bo)(a0 a1 a2 a3 a4 a5 a6:Tp)(pp:Pr)(pse me:List Pr)(hs:bulkPs (tpL a6)<=10000000)(hn:nm.size<=10000000)(hb1:bulkPss (nmsC ns)<=10000000)(hb2:bulkPss (nmsC [p0,p1,p2,p3,p4,p5])<=10000000)
  (hlg:Pu 6 [.agg (moL m)] (.ret (.bool true))) (hat:Pu 5 [.agg (moL m),.int .u8 t] (.ret (.tup [.agg (dfL (.mk nm [p0,p1,p2,p3,p4,p5] b 2 ty vs ne abz bo (.mk 6 tn [a0,a1,a2,a3,a4,a5,a6] ns pp pse) me:Df)),.bool true]))) (hw0:Pu 9 [.agg (tpL a0),.agg (tpL a0)] (.ret (.bool true))) (hw1:Pu 9 [.agg (tpL a1),.agg (tpL a1)] (.ret (.bool true))) (hw2:Pu 9 [.agg (tpL a2),.agg (tpL a2)] (.ret (.bool true))) (hw3:Pu 9 [.agg (tpL a3),.agg (tpL a3)] (.ret (.bool true))) (hw4:Pu 9 [.agg (tpL a4),.agg (tpL a4)] (.ret (.bool true))) (hw5:Pu 9 [.agg (tpL a5),.agg (tpL a5)] (.ret (.bool true))) (haw:Pu 7 [] (.ret (.bool true))):Pu 3 [.agg (moL m),.int .u8 t] (.ret (.bool true)):=by
 have hM:ns.length<=100000000:=by have:=nms_bulk ns; omega
 have hl:∀c:Tp,(Ob.frag 102 (tailF f3 5) (⟨[(4,.v (.bool false)),(5,.lp 5 0),(7,.lp 7 0)],[(5,[jk,jk,jk,jk,jk,jk,jk,jk,jk,.v (.int .i64 2),jk,jk,jk,jk,.v (.sl 10 (Bo.cs bo)),.v (.int .i64 6),jk,.v (.sl 9 [tpL a0,tpL a1,tpL a2,tpL a3,tpL a4,tpL a5,tpL a6]),jk,jk,jk,jk,jk,jk,.v (.sl 4 (Pr.cs me))]),(7,[jk,jk,jk,.v (.sl 10 (Bo.cs bo)),.v (.int .i64 6),jk,.v (.xsl 0 9 7),jk,jk,jk,jk,jk,jk,.v (.sl 4 (Pr.cs me))])],[(0,tpV a0++tpV a1++tpV a2++tpV a3++tpV a4++tpV a5++tpV c)]⟩) .ret ⟨[(4,.v (.bool true))],[],[(0,tpV a0++tpV a1++tpV a2++tpV a3++tpV a4++tpV a5++tpV c)]⟩).ok prog:=fun c=>by
  have h7:=fun cx hcx=>lw6 (Bo.cs bo) (Pr.cs me) a0 a1 a2 a3 a4 a5 a6 c hw0 hw1 hw2 hw3 hw4 hw5 haw cx hcx (Q:=fun pe' s'=>pe' = .ret/\s'=_) ⟨rfl,rfl⟩
  refine Ob.frag_le ?_ h7
  exact ⟨⟨W,tVv⟩,trivial,rfl⟩
 have e:Tp.cs [a0,a1,a2,a3,a4,a5,a6]=[tpL a0,tpL a1,tpL a2,tpL a3,tpL a4,tpL a5,tpL a6]:=by rw [Tp.cs_eq]; rfl
 rw [<-e] at hl
 by_cases h:(ns.length:Int)=6
 ·obtain ⟨c,hc⟩:=ra_ns a6 (eqS_r0 (tpO a6)) nm ns hs hn hb1
  have h7:=fun cx hcx=>rt6 (nmsC vs) (Vr.cs ne) (Vr.cs abz) (Bo.cs bo) (Pr.cs me) (nmsC ns) (rlA_f ns []) (Pr.cs (prK pp)) (Pr.cs pse) tn nm (prNm pp) (prO pp) (prN pp) a0 a1 a2 a3 a4 a5 a6 c hc cx hcx (Q:=fun pe' s'=>pe' = .ret/\s'=_) ⟨rfl,rfl⟩
  exact Ob.pur_of_eff (noX_in m t) rfl (rpD m (.mk nm [p0,p1,p2,p3,p4,p5] b 2 ty vs ne abz bo (.mk 6 tn [a0,a1,a2,a3,a4,a5,a6] ns pp pse) me:Df) ns 7 (tpV a0++tpV a1++tpV a2++tpV a3++tpV a4++tpV a5++tpV c) t hlg hat (rsA m (.mk nm [p0,p1,p2,p3,p4,p5] b 2 ty vs ne abz bo (.mk 6 tn [a0,a1,a2,a3,a4,a5,a6] ns pp pse) me:Df) 7 (tpV a0++tpV a1++tpV a2++tpV a3++tpV a4++tpV a5++tpV c) (by simp [dfP]) hM rfl rfl (by simp [dfP]) rfl h (by refine Ob.frag_le ?_ h7; exact ⟨⟨W,tVv⟩,⟨WLs.refl _,tVv⟩,rfl⟩)) (hl c))
 ·obtain ⟨c,hc⟩:=ra_ns a6 (eqS_r0 (tpO a6)) nm [p0,p1,p2,p3,p4,p5] hs hn hb2
  have h7:=fun cx hcx=>rt6 (nmsC vs) (Vr.cs ne) (Vr.cs abz) (Bo.cs bo) (Pr.cs me) (nmsC [p0,p1,p2,p3,p4,p5]) (rlA_f [p0,p1,p2,p3,p4,p5] []) (Pr.cs (prK pp)) (Pr.cs pse) tn nm (prNm pp) (prO pp) (prN pp) a0 a1 a2 a3 a4 a5 a6 c hc cx hcx (Q:=fun pe' s'=>pe' = .ret/\s'=_) ⟨rfl,rfl⟩
  exact Ob.pur_of_eff (noX_in m t) rfl (rpD m (.mk nm [p0,p1,p2,p3,p4,p5] b 2 ty vs ne abz bo (.mk 6 tn [a0,a1,a2,a3,a4,a5,a6] ns pp pse) me:Df) [p0,p1,p2,p3,p4,p5] 7 (tpV a0++tpV a1++tpV a2++tpV a3++tpV a4++tpV a5++tpV c) t hlg hat (rsB m (.mk nm [p0,p1,p2,p3,p4,p5] b 2 ty vs ne abz bo (.mk 6 tn [a0,a1,a2,a3,a4,a5,a6] ns pp pse) me:Df) 7 (tpV a0++tpV a1++tpV a2++tpV a3++tpV a4++tpV a5++tpV c) (by simp [dfP]) hM rfl rfl (by simp [dfP]) rfl h (Ob.frag_both h7 ⟨⟨W,W,W,W,W,tVv⟩,⟨WLs.refl _,WLs.refl _,⟨W,W,W,.inr ⟨rfl,rfl⟩,W,W,W,W,W,tVv⟩,WLs.refl _,tVv⟩,rfl⟩ ⟨⟨W,tVv⟩,⟨WLs.refl _,tVv⟩,rfl⟩)) (hl c))
theorem jn7(m:Mo)(t:Nat)(nm p0 p1 p2 p3 p4 p5 p6 tn:BA)(b:Ex)(ty:Bool)(vs ns:List BA)(ne abz:List Vr)(bo:List Bo)(a0 a1 a2 a3 a4 a5 a6 a7:Tp)(pp:Pr)(pse me:List Pr)(hs:bulkPs (tpL a7)<=10000000)(hn:nm.size<=10000000)(hb1:bulkPss (nmsC ns)<=10000000)(hb2:bulkPss (nmsC [p0,p1,p2,p3,p4,p5,p6])<=10000000)
  (hlg:Pu 6 [.agg (moL m)] (.ret (.bool true))) (hat:Pu 5 [.agg (moL m),.int .u8 t] (.ret (.tup [.agg (dfL (.mk nm [p0,p1,p2,p3,p4,p5,p6] b 2 ty vs ne abz bo (.mk 6 tn [a0,a1,a2,a3,a4,a5,a6,a7] ns pp pse) me:Df)),.bool true]))) (hw0:Pu 9 [.agg (tpL a0),.agg (tpL a0)] (.ret (.bool true))) (hw1:Pu 9 [.agg (tpL a1),.agg (tpL a1)] (.ret (.bool true))) (hw2:Pu 9 [.agg (tpL a2),.agg (tpL a2)] (.ret (.bool true))) (hw3:Pu 9 [.agg (tpL a3),.agg (tpL a3)] (.ret (.bool true))) (hw4:Pu 9 [.agg (tpL a4),.agg (tpL a4)] (.ret (.bool true))) (hw5:Pu 9 [.agg (tpL a5),.agg (tpL a5)] (.ret (.bool true))) (hw6:Pu 9 [.agg (tpL a6),.agg (tpL a6)] (.ret (.bool true))) (haw:Pu 7 [] (.ret (.bool true))):Pu 3 [.agg (moL m),.int .u8 t] (.ret (.bool true)):=by
 have hM:ns.length<=100000000:=by have:=nms_bulk ns; omega
 have hl:∀c:Tp,(Ob.frag 102 (tailF f3 5) (⟨[(4,.v (.bool false)),(5,.lp 5 0),(7,.lp 7 0)],[(5,[jk,jk,jk,jk,jk,jk,jk,jk,jk,.v (.int .i64 2),jk,jk,jk,jk,.v (.sl 10 (Bo.cs bo)),.v (.int .i64 6),jk,.v (.sl 9 [tpL a0,tpL a1,tpL a2,tpL a3,tpL a4,tpL a5,tpL a6,tpL a7]),jk,jk,jk,jk,jk,jk,.v (.sl 4 (Pr.cs me))]),(7,[jk,jk,jk,.v (.sl 10 (Bo.cs bo)),.v (.int .i64 6),jk,.v (.xsl 0 9 8),jk,jk,jk,jk,jk,jk,.v (.sl 4 (Pr.cs me))])],[(0,tpV a0++tpV a1++tpV a2++tpV a3++tpV a4++tpV a5++tpV a6++tpV c)]⟩) .ret ⟨[(4,.v (.bool true))],[],[(0,tpV a0++tpV a1++tpV a2++tpV a3++tpV a4++tpV a5++tpV a6++tpV c)]⟩).ok prog:=fun c=>by
  have h7:=fun cx hcx=>lw7 (Bo.cs bo) (Pr.cs me) a0 a1 a2 a3 a4 a5 a6 a7 c hw0 hw1 hw2 hw3 hw4 hw5 hw6 haw cx hcx (Q:=fun pe' s'=>pe' = .ret/\s'=_) ⟨rfl,rfl⟩
  refine Ob.frag_le ?_ h7
  exact ⟨⟨W,tVv⟩,trivial,rfl⟩
 have e:Tp.cs [a0,a1,a2,a3,a4,a5,a6,a7]=[tpL a0,tpL a1,tpL a2,tpL a3,tpL a4,tpL a5,tpL a6,tpL a7]:=by rw [Tp.cs_eq]; rfl
 rw [<-e] at hl
 by_cases h:(ns.length:Int)=7
 ·obtain ⟨c,hc⟩:=ra_ns a7 (eqS_r0 (tpO a7)) nm ns hs hn hb1
  have h7:=fun cx hcx=>rt7 (nmsC vs) (Vr.cs ne) (Vr.cs abz) (Bo.cs bo) (Pr.cs me) (nmsC ns) (rlA_f ns []) (Pr.cs (prK pp)) (Pr.cs pse) tn nm (prNm pp) (prO pp) (prN pp) a0 a1 a2 a3 a4 a5 a6 a7 c hc cx hcx (Q:=fun pe' s'=>pe' = .ret/\s'=_) ⟨rfl,rfl⟩
  exact Ob.pur_of_eff (noX_in m t) rfl (rpD m (.mk nm [p0,p1,p2,p3,p4,p5,p6] b 2 ty vs ne abz bo (.mk 6 tn [a0,a1,a2,a3,a4,a5,a6,a7] ns pp pse) me:Df) ns 8 (tpV a0++tpV a1++tpV a2++tpV a3++tpV a4++tpV a5++tpV a6++tpV c) t hlg hat (rsA m (.mk nm [p0,p1,p2,p3,p4,p5,p6] b 2 ty vs ne abz bo (.mk 6 tn [a0,a1,a2,a3,a4,a5,a6,a7] ns pp pse) me:Df) 8 (tpV a0++tpV a1++tpV a2++tpV a3++tpV a4++tpV a5++tpV a6++tpV c) (by simp [dfP]) hM rfl rfl (by simp [dfP]) rfl h (by refine Ob.frag_le ?_ h7; exact ⟨⟨W,tVv⟩,⟨WLs.refl _,tVv⟩,rfl⟩)) (hl c))
 ·obtain ⟨c,hc⟩:=ra_ns a7 (eqS_r0 (tpO a7)) nm [p0,p1,p2,p3,p4,p5,p6] hs hn hb2
  have h7:=fun cx hcx=>rt7 (nmsC vs) (Vr.cs ne) (Vr.cs abz) (Bo.cs bo) (Pr.cs me) (nmsC [p0,p1,p2,p3,p4,p5,p6]) (rlA_f [p0,p1,p2,p3,p4,p5,p6] []) (Pr.cs (prK pp)) (Pr.cs pse) tn nm (prNm pp) (prO pp) (prN pp) a0 a1 a2 a3 a4 a5 a6 a7 c hc cx hcx (Q:=fun pe' s'=>pe' = .ret/\s'=_) ⟨rfl,rfl⟩
  exact Ob.pur_of_eff (noX_in m t) rfl (rpD m (.mk nm [p0,p1,p2,p3,p4,p5,p6] b 2 ty vs ne abz bo (.mk 6 tn [a0,a1,a2,a3,a4,a5,a6,a7] ns pp pse) me:Df) [p0,p1,p2,p3,p4,p5,p6] 8 (tpV a0++tpV a1++tpV a2++tpV a3++tpV a4++tpV a5++tpV a6++tpV c) t hlg hat (rsB m (.mk nm [p0,p1,p2,p3,p4,p5,p6] b 2 ty vs ne abz bo (.mk 6 tn [a0,a1,a2,a3,a4,a5,a6,a7] ns pp pse) me:Df) 8 (tpV a0++tpV a1++tpV a2++tpV a3++tpV a4++tpV a5++tpV a6++tpV c) (by simp [dfP]) hM rfl rfl (by simp [dfP]) rfl h (Ob.frag_both h7 ⟨⟨W,W,W,W,W,tVv⟩,⟨WLs.refl _,WLs.refl _,⟨W,W,W,.inr ⟨rfl,rfl⟩,W,W,W,W,W,tVv⟩,WLs.refl _,tVv⟩,rfl⟩ ⟨⟨W,tVv⟩,⟨WLs.refl _,tVv⟩,rfl⟩)) (hl c))
theorem jn8(m:Mo)(t:Nat)(nm p0 p1 p2 p3 p4 p5 p6 p7 tn:BA)(b:Ex)(ty:Bool)(vs ns:List BA)(ne abz:List Vr)(bo:List Bo)(a0 a1 a2 a3 a4 a5 a6 a7 a8:Tp)(pp:Pr)(pse me:List Pr)(hs:bulkPs (tpL a8)<=10000000)(hn:nm.size<=10000000)(hb1:bulkPss (nmsC ns)<=10000000)(hb2:bulkPss (nmsC [p0,p1,p2,p3,p4,p5,p6,p7])<=10000000)
  (hlg:Pu 6 [.agg (moL m)] (.ret (.bool true))) (hat:Pu 5 [.agg (moL m),.int .u8 t] (.ret (.tup [.agg (dfL (.mk nm [p0,p1,p2,p3,p4,p5,p6,p7] b 2 ty vs ne abz bo (.mk 6 tn [a0,a1,a2,a3,a4,a5,a6,a7,a8] ns pp pse) me:Df)),.bool true]))) (hw0:Pu 9 [.agg (tpL a0),.agg (tpL a0)] (.ret (.bool true))) (hw1:Pu 9 [.agg (tpL a1),.agg (tpL a1)] (.ret (.bool true))) (hw2:Pu 9 [.agg (tpL a2),.agg (tpL a2)] (.ret (.bool true))) (hw3:Pu 9 [.agg (tpL a3),.agg (tpL a3)] (.ret (.bool true))) (hw4:Pu 9 [.agg (tpL a4),.agg (tpL a4)] (.ret (.bool true))) (hw5:Pu 9 [.agg (tpL a5),.agg (tpL a5)] (.ret (.bool true))) (hw6:Pu 9 [.agg (tpL a6),.agg (tpL a6)] (.ret (.bool true))) (hw7:Pu 9 [.agg (tpL a7),.agg (tpL a7)] (.ret (.bool true))) (haw:Pu 7 [] (.ret (.bool true))):Pu 3 [.agg (moL m),.int .u8 t] (.ret (.bool true)):=by
 have hM:ns.length<=100000000:=by have:=nms_bulk ns; omega
 have hl:∀c:Tp,(Ob.frag 102 (tailF f3 5) (⟨[(4,.v (.bool false)),(5,.lp 5 0),(7,.lp 7 0)],[(5,[jk,jk,jk,jk,jk,jk,jk,jk,jk,.v (.int .i64 2),jk,jk,jk,jk,.v (.sl 10 (Bo.cs bo)),.v (.int .i64 6),jk,.v (.sl 9 [tpL a0,tpL a1,tpL a2,tpL a3,tpL a4,tpL a5,tpL a6,tpL a7,tpL a8]),jk,jk,jk,jk,jk,jk,.v (.sl 4 (Pr.cs me))]),(7,[jk,jk,jk,.v (.sl 10 (Bo.cs bo)),.v (.int .i64 6),jk,.v (.xsl 0 9 9),jk,jk,jk,jk,jk,jk,.v (.sl 4 (Pr.cs me))])],[(0,tpV a0++tpV a1++tpV a2++tpV a3++tpV a4++tpV a5++tpV a6++tpV a7++tpV c)]⟩) .ret ⟨[(4,.v (.bool true))],[],[(0,tpV a0++tpV a1++tpV a2++tpV a3++tpV a4++tpV a5++tpV a6++tpV a7++tpV c)]⟩).ok prog:=fun c=>by
  have h7:=fun cx hcx=>lw8 (Bo.cs bo) (Pr.cs me) a0 a1 a2 a3 a4 a5 a6 a7 a8 c hw0 hw1 hw2 hw3 hw4 hw5 hw6 hw7 haw cx hcx (Q:=fun pe' s'=>pe' = .ret/\s'=_) ⟨rfl,rfl⟩
  refine Ob.frag_le ?_ h7
  exact ⟨⟨W,tVv⟩,trivial,rfl⟩
 have e:Tp.cs [a0,a1,a2,a3,a4,a5,a6,a7,a8]=[tpL a0,tpL a1,tpL a2,tpL a3,tpL a4,tpL a5,tpL a6,tpL a7,tpL a8]:=by rw [Tp.cs_eq]; rfl
 rw [<-e] at hl
 by_cases h:(ns.length:Int)=8
 ·obtain ⟨c,hc⟩:=ra_ns a8 (eqS_r0 (tpO a8)) nm ns hs hn hb1
  have h7:=fun cx hcx=>rt8 (nmsC vs) (Vr.cs ne) (Vr.cs abz) (Bo.cs bo) (Pr.cs me) (nmsC ns) (rlA_f ns []) (Pr.cs (prK pp)) (Pr.cs pse) tn nm (prNm pp) (prO pp) (prN pp) a0 a1 a2 a3 a4 a5 a6 a7 a8 c hc cx hcx (Q:=fun pe' s'=>pe' = .ret/\s'=_) ⟨rfl,rfl⟩
  exact Ob.pur_of_eff (noX_in m t) rfl (rpD m (.mk nm [p0,p1,p2,p3,p4,p5,p6,p7] b 2 ty vs ne abz bo (.mk 6 tn [a0,a1,a2,a3,a4,a5,a6,a7,a8] ns pp pse) me:Df) ns 9 (tpV a0++tpV a1++tpV a2++tpV a3++tpV a4++tpV a5++tpV a6++tpV a7++tpV c) t hlg hat (rsA m (.mk nm [p0,p1,p2,p3,p4,p5,p6,p7] b 2 ty vs ne abz bo (.mk 6 tn [a0,a1,a2,a3,a4,a5,a6,a7,a8] ns pp pse) me:Df) 9 (tpV a0++tpV a1++tpV a2++tpV a3++tpV a4++tpV a5++tpV a6++tpV a7++tpV c) (by simp [dfP]) hM rfl rfl (by simp [dfP]) rfl h (by refine Ob.frag_le ?_ h7; exact ⟨⟨W,tVv⟩,⟨WLs.refl _,tVv⟩,rfl⟩)) (hl c))
 ·obtain ⟨c,hc⟩:=ra_ns a8 (eqS_r0 (tpO a8)) nm [p0,p1,p2,p3,p4,p5,p6,p7] hs hn hb2
  have h7:=fun cx hcx=>rt8 (nmsC vs) (Vr.cs ne) (Vr.cs abz) (Bo.cs bo) (Pr.cs me) (nmsC [p0,p1,p2,p3,p4,p5,p6,p7]) (rlA_f [p0,p1,p2,p3,p4,p5,p6,p7] []) (Pr.cs (prK pp)) (Pr.cs pse) tn nm (prNm pp) (prO pp) (prN pp) a0 a1 a2 a3 a4 a5 a6 a7 a8 c hc cx hcx (Q:=fun pe' s'=>pe' = .ret/\s'=_) ⟨rfl,rfl⟩
  exact Ob.pur_of_eff (noX_in m t) rfl (rpD m (.mk nm [p0,p1,p2,p3,p4,p5,p6,p7] b 2 ty vs ne abz bo (.mk 6 tn [a0,a1,a2,a3,a4,a5,a6,a7,a8] ns pp pse) me:Df) [p0,p1,p2,p3,p4,p5,p6,p7] 9 (tpV a0++tpV a1++tpV a2++tpV a3++tpV a4++tpV a5++tpV a6++tpV a7++tpV c) t hlg hat (rsB m (.mk nm [p0,p1,p2,p3,p4,p5,p6,p7] b 2 ty vs ne abz bo (.mk 6 tn [a0,a1,a2,a3,a4,a5,a6,a7,a8] ns pp pse) me:Df) 9 (tpV a0++tpV a1++tpV a2++tpV a3++tpV a4++tpV a5++tpV a6++tpV a7++tpV c) (by simp [dfP]) hM rfl rfl (by simp [dfP]) rfl h (Ob.frag_both h7 ⟨⟨W,W,W,W,W,tVv⟩,⟨WLs.refl _,WLs.refl _,⟨W,W,W,.inr ⟨rfl,rfl⟩,W,W,W,W,W,tVv⟩,WLs.refl _,tVv⟩,rfl⟩ ⟨⟨W,tVv⟩,⟨WLs.refl _,tVv⟩,rfl⟩)) (hl c))
theorem rTN:Pu 110 [] (.ret (.agg [.int .i64 2,.str nm0,.int .i64 1,.nilsl])):=Ob.pur_of_fast (fun _=>mdL) 60 60 mixed kR rfl rfl
def s1c_r0(v:Pr):Bool:=(if prO v=2 then (if prNm v=nm0 then (if prN v=1 then (if ((prK v).length:Int)=(0:Int) then true else false) else false) else false) else false)
theorem s1c(v:Pr):Pu 22 [.agg (prL v),.agg [pI 2,.str nm0,pI 1,.nilsl]] (rB (s1c_r0 v)):=by
 refine t0 ?_;by_cases h0:prO v=2
 ·refine tp [rp 6 (nn1 h0)] ?_;by_cases h1:prNm v=nm0
  ·refine tp [rp 6 (bf (!ByteArray.toList (prNm v)==ByteArray.toList nm0) (bnF (bsT h1)))] ?_;by_cases h2:prN v=1
   ·refine tp [rp 3 (nn1 h2),sl (Pr.cs_len (prK v)),rp 3 (nn1 h2),kp,rp 2 (nn1 h2)] ?_;by_cases h3:((prK v).length:Int)=(0:Int)
    ·simp only [s1c_r0,iP h0,iP h1,iP h2,iP h3]; exact tM mdL [nn1 h3,sl (Pr.cs_len (prK v)),ur,df (0<((prK v).length:Int))] func22
    ·simp only [s1c_r0,iP h0,iP h1,iP h2,iN h3]; exact tM mdL [nt1 h3] func22
   ·simp only [s1c_r0,iP h0,iP h1,iN h2]; exact tM mdL [rp 8 (nt1 h2),bt true] func22
  ·simp only [s1c_r0,iP h0,iN h1]; exact tM mdL [rp 6 (bt (!ByteArray.toList (prNm v)==ByteArray.toList nm0) (bnT (bsF h1))),rp 9 (bt true)] func22
 ·simp only [s1c_r0,iN h0]; exact tM mdL [rp 6 (nt1 h0),rp 15 (bt true)] func22
def s0c_r0(v:Pr):Bool:=(if prO v=0 then (if prNm v=nm0 then (if prN v=0 then (if ((prK v).length:Int)=(0:Int) then true else false) else false) else false) else false)
theorem s0c(v:Pr):Pu 22 [.agg (prL v),.agg [pI 0,.str nm0,pI 0,.nilsl]] (rB (s0c_r0 v)):=by
 refine t0 ?_;by_cases h0:prO v=0
 ·refine tp [rp 6 (nn1 h0)] ?_;by_cases h1:prNm v=nm0
  ·refine tp [rp 6 (bf (!ByteArray.toList (prNm v)==ByteArray.toList nm0) (bnF (bsT h1)))] ?_;by_cases h2:prN v=0
   ·refine tp [rp 3 (nn1 h2),sl (Pr.cs_len (prK v)),rp 3 (nn1 h2),kp,rp 2 (nn1 h2)] ?_;by_cases h3:((prK v).length:Int)=(0:Int)
    ·simp only [s0c_r0,iP h0,iP h1,iP h2,iP h3]; exact tM mdL [nn1 h3,sl (Pr.cs_len (prK v)),ur,df (0<((prK v).length:Int))] func22
    ·simp only [s0c_r0,iP h0,iP h1,iP h2,iN h3]; exact tM mdL [nt1 h3] func22
   ·simp only [s0c_r0,iP h0,iP h1,iN h2]; exact tM mdL [rp 8 (nt1 h2),bt true] func22
  ·simp only [s0c_r0,iP h0,iN h1]; exact tM mdL [rp 6 (bt (!ByteArray.toList (prNm v)==ByteArray.toList nm0) (bnT (bsF h1))),rp 9 (bt true)] func22
 ·simp only [s0c_r0,iN h0]; exact tM mdL [rp 6 (nt1 h0),rp 15 (bt true)] func22
def vd_r0(v:Pr):Bool:=(if s1c_r0 v=true then true else (s0c_r0 v))
theorem vd(v:Pr):Pu 66 [.agg (prL v)] (rB (vd_r0 v)):=by
 by_cases h0:s1c_r0 v=true
 ·simp only [vd_r0,iP h0]; exact pm mdL [cl rTN,cl (@s1c v),rp 4 (bt1 h0)] func66
 ·simp only [vd_r0,iN h0]; exact pm mdL [cl rTN,cl (@s1c v),rp 3 (bf1 (bFT h0)),cl (@s0c v),bf1 (bFT h0)] func66
theorem s32(v:Pr)(hq:Pu 22 [.agg (prL v),.agg (prL v)] (.ret (.bool true))):Pu 31 [.agg (prL v),.agg (prL v)] (rB true):=by
 by_cases h0:vd_r0 v=true
 ·exact pm mdL [cl (@vd v),rp 2 (bt1 h0),cl (@vd v),rp 5 (bt1 h0)] func31
 ·exact pm mdL [cl (@vd v),rp 3 (bf1 (bFT h0)),rp 3 (bf false),cl hq,bf false] func31
abbrev stS_I(l:List Tp)(j:Int)(e:Ext):S:=S.mk [(0,vL 9 (Tp.cs l)),(1,vL 9 (Tp.cs l)),(5,vI6 j)] [] e
section
variable (l:List Tp) (hwk:∀w:Tp,w∈l->Pu 34 [.agg (tpL w),.agg (tpL w)] (.ret (.bool true))) (i:Nat) (e:Ext)
include l hwk i e
theorem stS_b1(hi:i<l.length)(hN:l.length<=1000000000)(cx:Cx)(hcx:cx.n=27){Q:PExit->S->Prop}(hq:Q (.normal) (S.mk [(0,vL 9 (Tp.cs l)),(1,vL 9 (Tp.cs l)),(5,vI6 ((i:Int)+1))] [] e)):PW prog cx (loopF f67 0) (stS_I l (i:Int) e) Q:=
 pw mdL 27 [sl (Tp.cs_len l),rgTp hi,mxTp l (i:Int),xTp l i hi,cl (@hwk (List.getD l i default) (by simp_all)),bf false,wr ((i:Int)+1)] [0,1,5,4] [] hcx hq
theorem stS_z1(hi:i=l.length)(hN:l.length<=1000000000)(cx:Cx)(hcx:cx.n=27){Q:PExit->S->Prop}(hq:Q (.exit 0) (S.mk [(0,vL 9 (Tp.cs l)),(1,vL 9 (Tp.cs l)),(5,vI6 (i:Int))] [] e)):PW prog cx (loopF f67 0) (stS_I l (i:Int) e) Q:=
 pw mdL 27 [sl (Tp.cs_len l),df ((i:Int)<(l.length:Int))] [0,1,5,4] [] hcx hq
end
def stS_q(l:List Tp)(e:Ext):PExit × S:=(.exit 0,S.mk [(0,vL 9 (Tp.cs l)),(1,vL 9 (Tp.cs l))] [] e)
theorem stS_lp(l:List Tp)(hwk:∀w:Tp,w∈l->Pu 34 [.agg (tpL w),.agg (tpL w)] (.ret (.bool true)))(e:Ext)(hN:l.length<=1000000000)(i:Nat)(hi0:i<=l.length)  : (Ob.loop 27 (loopF f67 0) (stS_I l (i:Int)  e) (stS_q l e).1 (stS_q l e).2).ok prog:=by
 refine Ob.loop_of (P:=prog) (α:={ zz:Nat × Unit // zz.1<=l.length }) (fun zz=>stS_I l (zz.1.1:Int)  e) (fun zz=>l.length - zz.1.1) (fun zz=>(stS_q l e)) ?_ ⟨(i,()),hi0⟩
 clear hi0
 clear  i
 rintro ⟨⟨i,u⟩,hi⟩ cx hcx
 simp only at hi  ⊢
 rcases Nat.lt_or_ge i (l.length) with hlt | hge
 ·have hd:=drop_at hlt
  exact stS_b1 l hwk i  e hlt hN   cx hcx (.inl ⟨rfl,⟨((i+1),()),by simp only; omega⟩,by simp only; omega,xr,by trivial⟩)
 ·have he:i=l.length:=by omega
  subst he
  refine stS_z1 l hwk (l.length)  e rfl hN   cx hcx (.inr ?_)
  exact ⟨by simp,rfl,xr⟩
theorem stS(l:List Tp)(hwk:∀w:Tp,w∈l->Pu 34 [.agg (tpL w),.agg (tpL w)] (.ret (.bool true)))(e:Ext)(hN:l.length<=1000000000)  : (Ob.loop 27 (loopF f67 0) (stS_I l 0  e) (stS_q l e).1 (stS_q l e).2).ok prog:=by
 have:=stS_lp l hwk e hN 0  (Nat.zero_le _)
 exact this
theorem rST(l:List Tp)(hwk:∀w:Tp,w∈l->Pu 34 [.agg (tpL w),.agg (tpL w)] (.ret (.bool true)))(hN:l.length<=1000000000):Pu 67 [.sl 9 (Tp.cs l),.sl 9 (Tp.cs l)] (rB true):=
 pu mdL (fun e=>[rp 2 (sl (Tp.cs_len l)),nn (l.length:Int) (l.length:Int),lq (@stS l hwk e hN)]) func67
abbrev syS_I(t:Tp)(j:Int)(e:Ext):S:=S.mk [(2,.lp 2 0),(3,.lp 3 0),(5,vI6 j)] [(2,tpV t),(3,tpV t)] e
section
variable (t:Tp) (hwp:∀w:Pr,w∈tpPs t->Pu 22 [.agg (prL w),.agg (prL w)] (.ret (.bool true))) (hwq:Pu 22 [.agg (prL (tpP t)),.agg (prL (tpP t))] (.ret (.bool true))) (hwn:Pu 32 [.sl 1 (nmsC (tpNs t)),.sl 1 (nmsC (tpNs t))] (.ret (.bool true))) (i:Nat) (e:Ext)
include t hwp hwq hwn i e
theorem syS_b1(hi:i<(tpPs t).length)(hN:(tpPs t).length<=1000000000)(cx:Cx)(hcx:cx.n=67){Q:PExit->S->Prop}(hq:Q (.normal) (S.mk [(2,.lp 2 0),(3,.lp 3 0),(5,vI6 ((i:Int)+1))] [(2,tpV t),(3,tpV t)] e)):PW prog cx (loopF f34 0) (syS_I t (i:Int) e) Q:=
 pw mdL 67 [sl (Pr.cs_len (tpPs t)),rgPr hi,mxPr (tpPs t) (i:Int),xPr (tpPs t) i hi,cl (@hwp (List.getD (tpPs t) i default) (by simp_all)),bf false,wr ((i:Int)+1)] [2,3,5,4] [2,3] hcx hq
theorem syS_z1(hi:i=(tpPs t).length)(hN:(tpPs t).length<=1000000000)(cx:Cx)(hcx:cx.n=67){Q:PExit->S->Prop}(hq:Q (.exit 0) (S.mk [(2,.lp 2 0),(3,.lp 3 0),(5,vI6 (i:Int))] [(2,tpV t),(3,tpV t)] e)):PW prog cx (loopF f34 0) (syS_I t (i:Int) e) Q:=
 pw mdL 67 [sl (Pr.cs_len (tpPs t)),df ((i:Int)<((tpPs t).length:Int))] [2,3,5,4] [2,3] hcx hq
end
def syS_q(t:Tp)(e:Ext):PExit × S:=(.exit 0,S.mk [(2,.lp 2 0),(3,.lp 3 0)] [(2,tpV t),(3,tpV t)] e)
theorem syS_lp(t:Tp)(hwp:∀w:Pr,w∈tpPs t->Pu 22 [.agg (prL w),.agg (prL w)] (.ret (.bool true)))(hwq:Pu 22 [.agg (prL (tpP t)),.agg (prL (tpP t))] (.ret (.bool true)))(hwn:Pu 32 [.sl 1 (nmsC (tpNs t)),.sl 1 (nmsC (tpNs t))] (.ret (.bool true)))(e:Ext)(hN:(tpPs t).length<=1000000000)(i:Nat)(hi0:i<=(tpPs t).length)  : (Ob.loop 67 (loopF f34 0) (syS_I t (i:Int)  e) (syS_q t e).1 (syS_q t e).2).ok prog:=by
 refine Ob.loop_of (P:=prog) (α:={ zz:Nat × Unit // zz.1<=(tpPs t).length }) (fun zz=>syS_I t (zz.1.1:Int)  e) (fun zz=>(tpPs t).length - zz.1.1) (fun zz=>(syS_q t e)) ?_ ⟨(i,()),hi0⟩
 clear hi0
 clear  i
 rintro ⟨⟨i,u⟩,hi⟩ cx hcx
 simp only at hi  ⊢
 rcases Nat.lt_or_ge i ((tpPs t).length) with hlt | hge
 ·have hd:=drop_at hlt
  exact syS_b1 t hwp hwq hwn i  e hlt hN   cx hcx (.inl ⟨rfl,⟨((i+1),()),by simp only; omega⟩,by simp only; omega,xr,by trivial⟩)
 ·have he:i=(tpPs t).length:=by omega
  subst he
  refine syS_z1 t hwp hwq hwn ((tpPs t).length)  e rfl hN   cx hcx (.inr ?_)
  exact ⟨by simp,rfl,xr⟩
theorem syS(t:Tp)(hwp:∀w:Pr,w∈tpPs t->Pu 22 [.agg (prL w),.agg (prL w)] (.ret (.bool true)))(hwq:Pu 22 [.agg (prL (tpP t)),.agg (prL (tpP t))] (.ret (.bool true)))(hwn:Pu 32 [.sl 1 (nmsC (tpNs t)),.sl 1 (nmsC (tpNs t))] (.ret (.bool true)))(e:Ext)(hN:(tpPs t).length<=1000000000)  : (Ob.loop 67 (loopF f34 0) (syS_I t 0  e) (syS_q t e).1 (syS_q t e).2).ok prog:=by
 have:=syS_lp t hwp hwq hwn e hN 0  (Nat.zero_le _)
 exact this
theorem rSY(t:Tp)(hwp:∀w:Pr,w∈tpPs t->Pu 22 [.agg (prL w),.agg (prL w)] (.ret (.bool true)))(hwq:Pu 22 [.agg (prL (tpP t)),.agg (prL (tpP t))] (.ret (.bool true)))(hwn:Pu 32 [.sl 1 (nmsC (tpNs t)),.sl 1 (nmsC (tpNs t))] (.ret (.bool true)))(hwt:Pu 67 [.sl 9 (Tp.cs (tpA t)),.sl 9 (Tp.cs (tpA t))] (.ret (.bool true)))(hM:(tpPs t).length<=1000000000):Pu 34 [.agg (tpL t),.agg (tpL t)] (rB true):=
 pu mdL (fun e=>[rp 6 (nn (tpO t) (tpO t)),rp 5 (bf (!ByteArray.toList (tpNm t)==ByteArray.toList (tpNm t)) (bnF (bsT rF))),cl hwn,rp 2 (bf (!ByteArray.toList (tpNm t)==ByteArray.toList (tpNm t)) (bnF (bsT rF))),rp 5 (bf false),cl hwq,rp 5 (bf false),sl (Pr.cs_len (tpPs t)),rp 3 (bf false),sl (Pr.cs_len (tpPs t)),rp 2 (bf false),nn ((tpPs t).length:Int) ((tpPs t).length:Int),lq (@syS t hwp hwq hwn e hM),cl hwt]) func34
abbrev s3A_I(t:Tp)(j:Int)(e:Ext):S:=S.mk [(2,.lp 2 0),(3,.lp 3 0),(55,vI6 ((tpPs t).length:Int)),(56,vI6 j)] [(2,tpV t),(3,tpV t)] e
section
variable (t:Tp) (hw2:∀w:Pr,w∈tpPs t->Pu 31 [.agg (prL w),.agg (prL w)] (.ret (.bool true))) (hwq2:Pu 31 [.agg (prL (tpP t)),.agg (prL (tpP t))] (.ret (.bool true))) (hwn:Pu 30 [.sl 1 (nmsC (tpNs t)),.sl 1 (nmsC (tpNs t))] (.ret (.bool true))) (i:Nat) (e:Ext)
include t hw2 hwq2 hwn i e
theorem s3A_b1(hi:i<(tpPs t).length)(hN:(tpPs t).length<=1000000000)(cx:Cx)(hcx:cx.n=91){Q:PExit->S->Prop}(hq:Q (.normal) (S.mk [(2,.lp 2 0),(3,.lp 3 0),(55,vI6 ((tpPs t).length:Int)),(56,vI6 ((i:Int)+1))] [(2,tpV t),(3,tpV t)] e)):PW prog cx (loopF f9 0) (s3A_I t (i:Int) e) Q:=
 pw mdL 91 [rgPr hi,mxPr (tpPs t) (i:Int),xPr (tpPs t) i hi,cl (@hw2 (List.getD (tpPs t) i default) (by simp_all)),bf false,wr ((i:Int)+1)] [2,3,55,56,4] [2,3] hcx hq
theorem s3A_z1(hi:i=(tpPs t).length)(hN:(tpPs t).length<=1000000000)(cx:Cx)(hcx:cx.n=91){Q:PExit->S->Prop}(hq:Q (.exit 0) (S.mk [(2,.lp 2 0),(3,.lp 3 0),(55,vI6 ((tpPs t).length:Int)),(56,vI6 (i:Int))] [(2,tpV t),(3,tpV t)] e)):PW prog cx (loopF f9 0) (s3A_I t (i:Int) e) Q:=
 pw mdL 91 [df ((i:Int)<((tpPs t).length:Int))] [2,3,55,56,4] [2,3] hcx hq
end
def s3A_q(t:Tp)(e:Ext):PExit × S:=(.exit 0,S.mk [(2,.lp 2 0),(3,.lp 3 0),(55,vI6 ((tpPs t).length:Int))] [(2,tpV t),(3,tpV t)] e)
theorem s3A_lp(t:Tp)(hw2:∀w:Pr,w∈tpPs t->Pu 31 [.agg (prL w),.agg (prL w)] (.ret (.bool true)))(hwq2:Pu 31 [.agg (prL (tpP t)),.agg (prL (tpP t))] (.ret (.bool true)))(hwn:Pu 30 [.sl 1 (nmsC (tpNs t)),.sl 1 (nmsC (tpNs t))] (.ret (.bool true)))(e:Ext)(hN:(tpPs t).length<=1000000000)(i:Nat)(hi0:i<=(tpPs t).length)  : (Ob.loop 91 (loopF f9 0) (s3A_I t (i:Int)  e) (s3A_q t e).1 (s3A_q t e).2).ok prog:=by
 refine Ob.loop_of (P:=prog) (α:={ zz:Nat × Unit // zz.1<=(tpPs t).length }) (fun zz=>s3A_I t (zz.1.1:Int)  e) (fun zz=>(tpPs t).length - zz.1.1) (fun zz=>(s3A_q t e)) ?_ ⟨(i,()),hi0⟩
 clear hi0
 clear  i
 rintro ⟨⟨i,u⟩,hi⟩ cx hcx
 simp only at hi  ⊢
 rcases Nat.lt_or_ge i ((tpPs t).length) with hlt | hge
 ·have hd:=drop_at hlt
  exact s3A_b1 t hw2 hwq2 hwn i  e hlt hN   cx hcx (.inl ⟨rfl,⟨((i+1),()),by simp only; omega⟩,by simp only; omega,xr,by trivial⟩)
 ·have he:i=(tpPs t).length:=by omega
  subst he
  refine s3A_z1 t hw2 hwq2 hwn ((tpPs t).length)  e rfl hN   cx hcx (.inr ?_)
  exact ⟨by simp,rfl,xr⟩
theorem s3A(t:Tp)(hw2:∀w:Pr,w∈tpPs t->Pu 31 [.agg (prL w),.agg (prL w)] (.ret (.bool true)))(hwq2:Pu 31 [.agg (prL (tpP t)),.agg (prL (tpP t))] (.ret (.bool true)))(hwn:Pu 30 [.sl 1 (nmsC (tpNs t)),.sl 1 (nmsC (tpNs t))] (.ret (.bool true)))(e:Ext)(hN:(tpPs t).length<=1000000000)  : (Ob.loop 91 (loopF f9 0) (s3A_I t 0  e) (s3A_q t e).1 (s3A_q t e).2).ok prog:=by
 have:=s3A_lp t hw2 hwq2 hwn e hN 0  (Nat.zero_le _)
 exact this
abbrev s3B_I(t:Tp)(j:Int)(e:Ext):S:=S.mk [(2,.lp 2 0),(3,.lp 3 0),(74,vI6 ((tpA t).length:Int)),(75,vI6 j)] [(2,tpV t),(3,tpV t)] e
section
variable (t:Tp) (hw2:∀w:Pr,w∈tpPs t->Pu 31 [.agg (prL w),.agg (prL w)] (.ret (.bool true))) (hwq2:Pu 31 [.agg (prL (tpP t)),.agg (prL (tpP t))] (.ret (.bool true))) (hwn:Pu 30 [.sl 1 (nmsC (tpNs t)),.sl 1 (nmsC (tpNs t))] (.ret (.bool true))) (hwa:∀w:Tp,w∈tpA t->Pu 9 [.agg (tpL w),.agg (tpL w)] (.ret (.bool true))) (hM:(tpPs t).length<=1000000000) (i:Nat) (e:Ext)
include t hw2 hwq2 hwn hwa hM i e
theorem s3B_b1(hi:i<(tpA t).length)(hN:(tpA t).length<=1000000000)(cx:Cx)(hcx:cx.n=91){Q:PExit->S->Prop}(hq:Q (.normal) (S.mk [(2,.lp 2 0),(3,.lp 3 0),(74,vI6 ((tpA t).length:Int)),(75,vI6 ((i:Int)+1))] [(2,tpV t),(3,tpV t)] e)):PW prog cx (loopF f9 1) (s3B_I t (i:Int) e) Q:=
 pw mdL 91 [rgTp hi,mxTp (tpA t) (i:Int),xTp (tpA t) i hi,cl (@hwa (List.getD (tpA t) i default) (by simp_all)),bf false,wr ((i:Int)+1)] [2,3,74,75,4] [2,3] hcx hq
theorem s3B_z1(hi:i=(tpA t).length)(hN:(tpA t).length<=1000000000)(cx:Cx)(hcx:cx.n=91){Q:PExit->S->Prop}(hq:Q (.exit 2) (S.mk [(2,.lp 2 0),(3,.lp 3 0),(74,vI6 ((tpA t).length:Int)),(75,vI6 (i:Int))] [(2,tpV t),(3,tpV t)] e)):PW prog cx (loopF f9 1) (s3B_I t (i:Int) e) Q:=
 pw mdL 91 [df ((i:Int)<((tpA t).length:Int))] [2,3,74,75,4] [2,3] hcx hq
end
def s3B_q(t:Tp)(e:Ext):PExit × S:=(.exit 2,S.mk [(2,.lp 2 0),(3,.lp 3 0),(74,vI6 ((tpA t).length:Int))] [(2,tpV t),(3,tpV t)] e)
theorem s3B_lp(t:Tp)(hw2:∀w:Pr,w∈tpPs t->Pu 31 [.agg (prL w),.agg (prL w)] (.ret (.bool true)))(hwq2:Pu 31 [.agg (prL (tpP t)),.agg (prL (tpP t))] (.ret (.bool true)))(hwn:Pu 30 [.sl 1 (nmsC (tpNs t)),.sl 1 (nmsC (tpNs t))] (.ret (.bool true)))(hwa:∀w:Tp,w∈tpA t->Pu 9 [.agg (tpL w),.agg (tpL w)] (.ret (.bool true)))(hM:(tpPs t).length<=1000000000)(e:Ext)(hN:(tpA t).length<=1000000000)(i:Nat)(hi0:i<=(tpA t).length)  : (Ob.loop 91 (loopF f9 1) (s3B_I t (i:Int)  e) (s3B_q t e).1 (s3B_q t e).2).ok prog:=by
 refine Ob.loop_of (P:=prog) (α:={ zz:Nat × Unit // zz.1<=(tpA t).length }) (fun zz=>s3B_I t (zz.1.1:Int)  e) (fun zz=>(tpA t).length - zz.1.1) (fun zz=>(s3B_q t e)) ?_ ⟨(i,()),hi0⟩
 clear hi0
 clear  i
 rintro ⟨⟨i,u⟩,hi⟩ cx hcx
 simp only at hi  ⊢
 rcases Nat.lt_or_ge i ((tpA t).length) with hlt | hge
 ·have hd:=drop_at hlt
  exact s3B_b1 t hw2 hwq2 hwn hwa hM i  e hlt hN   cx hcx (.inl ⟨rfl,⟨((i+1),()),by simp only; omega⟩,by simp only; omega,xr,by trivial⟩)
 ·have he:i=(tpA t).length:=by omega
  subst he
  refine s3B_z1 t hw2 hwq2 hwn hwa hM ((tpA t).length)  e rfl hN   cx hcx (.inr ?_)
  exact ⟨by simp,rfl,xr⟩
theorem s3B(t:Tp)(hw2:∀w:Pr,w∈tpPs t->Pu 31 [.agg (prL w),.agg (prL w)] (.ret (.bool true)))(hwq2:Pu 31 [.agg (prL (tpP t)),.agg (prL (tpP t))] (.ret (.bool true)))(hwn:Pu 30 [.sl 1 (nmsC (tpNs t)),.sl 1 (nmsC (tpNs t))] (.ret (.bool true)))(hwa:∀w:Tp,w∈tpA t->Pu 9 [.agg (tpL w),.agg (tpL w)] (.ret (.bool true)))(hM:(tpPs t).length<=1000000000)(e:Ext)(hN:(tpA t).length<=1000000000)  : (Ob.loop 91 (loopF f9 1) (s3B_I t 0  e) (s3B_q t e).1 (s3B_q t e).2).ok prog:=by
 have:=s3B_lp t hw2 hwq2 hwn hwa hM e hN 0  (Nat.zero_le _)
 exact this
theorem rS3(t:Tp)(hw2:∀w:Pr,w∈tpPs t->Pu 31 [.agg (prL w),.agg (prL w)] (.ret (.bool true)))(hwq2:Pu 31 [.agg (prL (tpP t)),.agg (prL (tpP t))] (.ret (.bool true)))(hwn:Pu 30 [.sl 1 (nmsC (tpNs t)),.sl 1 (nmsC (tpNs t))] (.ret (.bool true)))(hwa:∀w:Tp,w∈tpA t->Pu 9 [.agg (tpL w),.agg (tpL w)] (.ret (.bool true)))(hM:(tpPs t).length<=1000000000)(hN:(tpA t).length<=1000000000):Pu 9 [.agg (tpL t),.agg (tpL t)] (rB true):=
 pu mdL (fun e=>[rp 6 (nn (tpO t) (tpO t)),rp 3 (bf (!ByteArray.toList (tpNm t)==ByteArray.toList (tpNm t)) (bnF (bsT rF))),sl (Tp.cs_len (tpA t)),rp 3 (bf (!ByteArray.toList (tpNm t)==ByteArray.toList (tpNm t)) (bnF (bsT rF))),sl (Tp.cs_len (tpA t)),rp 2 (bf (!ByteArray.toList (tpNm t)==ByteArray.toList (tpNm t)) (bnF (bsT rF))),rp 3 (nn ((tpA t).length:Int) ((tpA t).length:Int)),sl (Pr.cs_len (tpPs t)),rp 3 (nn ((tpA t).length:Int) ((tpA t).length:Int)),sl (Pr.cs_len (tpPs t)),rp 2 (nn ((tpA t).length:Int) ((tpA t).length:Int)),rp 5 (nn ((tpPs t).length:Int) ((tpPs t).length:Int)),cl hwn,rp 2 (nn ((tpPs t).length:Int) ((tpPs t).length:Int)),rp 5 (bf false),cl hwq2,rp 3 (bf false),sl (Pr.cs_len (tpPs t)),lq (@s3A t hw2 hwq2 hwn e hM),sl (Tp.cs_len (tpA t)),lq (@s3B t hw2 hwq2 hwn hwa hM e hN)]) func9
abbrev snA_I(l:List Vr)(j:Int)(e:Ext):S:=S.mk [(0,vL 2 (Vr.cs l)),(1,vL 2 (Vr.cs l)),(5,vI6 j)] [] e
theorem snA_b1(l:List Vr)(i:Nat)(e:Ext)(hi:i<l.length)(hN:l.length<=1000000000)(cx:Cx)(hcx:cx.n=26){Q:PExit->S->Prop}(hq:Q (.normal) (S.mk [(0,vL 2 (Vr.cs l)),(1,vL 2 (Vr.cs l)),(5,vI6 ((i:Int)+1))] [] e)):PW prog cx (loopF f33 0) (snA_I l (i:Int) e) Q:=
 pw mdL 26 [sl (Vr.cs_len l),rgVr hi,mxVr l (i:Int),xVr l i hi,bf (if false=true then ByteArray.toList (vrNm (List.getD l i default))==ByteArray.toList (vrNm (List.getD l i default))&&(ByteArray.toList (vrS (List.getD l i default))==ByteArray.toList (vrS (List.getD l i default))&&true) else !(ByteArray.toList (vrNm (List.getD l i default))==ByteArray.toList (vrNm (List.getD l i default))&&(ByteArray.toList (vrS (List.getD l i default))==ByteArray.toList (vrS (List.getD l i default))&&true))) (by simp_all),wr ((i:Int)+1)] [0,1,5,4] [] hcx hq
theorem snA_z1(l:List Vr)(i:Nat)(e:Ext)(hi:i=l.length)(hN:l.length<=1000000000)(cx:Cx)(hcx:cx.n=26){Q:PExit->S->Prop}(hq:Q (.exit 0) (S.mk [(0,vL 2 (Vr.cs l)),(1,vL 2 (Vr.cs l)),(5,vI6 (i:Int))] [] e)):PW prog cx (loopF f33 0) (snA_I l (i:Int) e) Q:=
 pw mdL 26 [sl (Vr.cs_len l),df ((i:Int)<(l.length:Int))] [0,1,5,4] [] hcx hq
def snA_q(l:List Vr)(e:Ext):PExit × S:=(.exit 0,S.mk [(0,vL 2 (Vr.cs l)),(1,vL 2 (Vr.cs l))] [] e)
theorem snA_lp(l:List Vr)(e:Ext)(hN:l.length<=1000000000)(i:Nat)(hi0:i<=l.length)  : (Ob.loop 26 (loopF f33 0) (snA_I l (i:Int)  e) (snA_q l e).1 (snA_q l e).2).ok prog:=by
 refine Ob.loop_of (P:=prog) (α:={ zz:Nat × Unit // zz.1<=l.length }) (fun zz=>snA_I l (zz.1.1:Int)  e) (fun zz=>l.length - zz.1.1) (fun zz=>(snA_q l e)) ?_ ⟨(i,()),hi0⟩
 clear hi0
 clear  i
 rintro ⟨⟨i,u⟩,hi⟩ cx hcx
 simp only at hi  ⊢
 rcases Nat.lt_or_ge i (l.length) with hlt | hge
 ·have hd:=drop_at hlt
  exact snA_b1 l i  e hlt hN   cx hcx (.inl ⟨rfl,⟨((i+1),()),by simp only; omega⟩,by simp only; omega,xr,by trivial⟩)
 ·have he:i=l.length:=by omega
  subst he
  refine snA_z1 l (l.length)  e rfl hN   cx hcx (.inr ?_)
  exact ⟨by simp,rfl,xr⟩
theorem snA(l:List Vr)(e:Ext)(hN:l.length<=1000000000)  : (Ob.loop 26 (loopF f33 0) (snA_I l 0  e) (snA_q l e).1 (snA_q l e).2).ok prog:=by
 have:=snA_lp l e hN 0  (Nat.zero_le _)
 exact this
theorem snT(l:List Vr)(hN:l.length<=1000000000):Pu 33 [.sl 2 (Vr.cs l),.sl 2 (Vr.cs l)] (rB true):=
 pu mdL (fun e=>[rp 2 (sl (Vr.cs_len l)),nn (l.length:Int) (l.length:Int),lq (@snA l e hN)]) func33
abbrev soA_I(l:List Vr)(j:Int)(e:Ext):S:=S.mk [(0,vL 2 (Vr.cs l)),(1,vL 2 (Vr.cs l)),(5,vI6 j)] [] e
theorem soA_b1(l:List Vr)(i:Nat)(e:Ext)(hi:i<l.length)(hN:l.length<=1000000000)(cx:Cx)(hcx:cx.n=26){Q:PExit->S->Prop}(hq:Q (.normal) (S.mk [(0,vL 2 (Vr.cs l)),(1,vL 2 (Vr.cs l)),(5,vI6 ((i:Int)+1))] [] e)):PW prog cx (loopF f36 0) (soA_I l (i:Int) e) Q:=
 pw mdL 26 [sl (Vr.cs_len l),rgVr hi,mxVr l (i:Int),xVr l i hi,bf (if false=true then ByteArray.toList (vrNm (List.getD l i default))==ByteArray.toList (vrNm (List.getD l i default))&&(ByteArray.toList (vrS (List.getD l i default))==ByteArray.toList (vrS (List.getD l i default))&&true) else !(ByteArray.toList (vrNm (List.getD l i default))==ByteArray.toList (vrNm (List.getD l i default))&&(ByteArray.toList (vrS (List.getD l i default))==ByteArray.toList (vrS (List.getD l i default))&&true))) (by simp_all),wr ((i:Int)+1)] [0,1,5,4] [] hcx hq
theorem soA_z1(l:List Vr)(i:Nat)(e:Ext)(hi:i=l.length)(hN:l.length<=1000000000)(cx:Cx)(hcx:cx.n=26){Q:PExit->S->Prop}(hq:Q (.exit 0) (S.mk [(0,vL 2 (Vr.cs l)),(1,vL 2 (Vr.cs l)),(5,vI6 (i:Int))] [] e)):PW prog cx (loopF f36 0) (soA_I l (i:Int) e) Q:=
 pw mdL 26 [sl (Vr.cs_len l),df ((i:Int)<(l.length:Int))] [0,1,5,4] [] hcx hq
def soA_q(l:List Vr)(e:Ext):PExit × S:=(.exit 0,S.mk [(0,vL 2 (Vr.cs l)),(1,vL 2 (Vr.cs l))] [] e)
theorem soA_lp(l:List Vr)(e:Ext)(hN:l.length<=1000000000)(i:Nat)(hi0:i<=l.length)  : (Ob.loop 26 (loopF f36 0) (soA_I l (i:Int)  e) (soA_q l e).1 (soA_q l e).2).ok prog:=by
 refine Ob.loop_of (P:=prog) (α:={ zz:Nat × Unit // zz.1<=l.length }) (fun zz=>soA_I l (zz.1.1:Int)  e) (fun zz=>l.length - zz.1.1) (fun zz=>(soA_q l e)) ?_ ⟨(i,()),hi0⟩
 clear hi0
 clear  i
 rintro ⟨⟨i,u⟩,hi⟩ cx hcx
 simp only at hi  ⊢
 rcases Nat.lt_or_ge i (l.length) with hlt | hge
 ·have hd:=drop_at hlt
  exact soA_b1 l i  e hlt hN   cx hcx (.inl ⟨rfl,⟨((i+1),()),by simp only; omega⟩,by simp only; omega,xr,by trivial⟩)
 ·have he:i=l.length:=by omega
  subst he
  refine soA_z1 l (l.length)  e rfl hN   cx hcx (.inr ?_)
  exact ⟨by simp,rfl,xr⟩
theorem soA(l:List Vr)(e:Ext)(hN:l.length<=1000000000)  : (Ob.loop 26 (loopF f36 0) (soA_I l 0  e) (soA_q l e).1 (soA_q l e).2).ok prog:=by
 have:=soA_lp l e hN 0  (Nat.zero_le _)
 exact this
theorem soT(l:List Vr)(hN:l.length<=1000000000):Pu 36 [.sl 2 (Vr.cs l),.sl 2 (Vr.cs l)] (rB true):=
 pu mdL (fun e=>[rp 2 (sl (Vr.cs_len l)),nn (l.length:Int) (l.length:Int),lq (@soA l e hN)]) func36
abbrev smA_I(l:List Pr)(j:Int)(e:Ext):S:=S.mk [(0,vL 4 (Pr.cs l)),(1,vL 4 (Pr.cs l)),(5,vI6 j)] [] e
section
variable (l:List Pr) (hwk:∀w:Pr,w∈l->Pu 22 [.agg (prL w),.agg (prL w)] (.ret (.bool true))) (i:Nat) (e:Ext)
include l hwk i e
theorem smA_b1(hi:i<l.length)(hN:l.length<=1000000000)(cx:Cx)(hcx:cx.n=27){Q:PExit->S->Prop}(hq:Q (.normal) (S.mk [(0,vL 4 (Pr.cs l)),(1,vL 4 (Pr.cs l)),(5,vI6 ((i:Int)+1))] [] e)):PW prog cx (loopF f35 0) (smA_I l (i:Int) e) Q:=
 pw mdL 27 [sl (Pr.cs_len l),rgPr hi,mxPr l (i:Int),xPr l i hi,cl (@hwk (List.getD l i default) (by simp_all)),bf false,wr ((i:Int)+1)] [0,1,5,4] [] hcx hq
theorem smA_z1(hi:i=l.length)(hN:l.length<=1000000000)(cx:Cx)(hcx:cx.n=27){Q:PExit->S->Prop}(hq:Q (.exit 0) (S.mk [(0,vL 4 (Pr.cs l)),(1,vL 4 (Pr.cs l)),(5,vI6 (i:Int))] [] e)):PW prog cx (loopF f35 0) (smA_I l (i:Int) e) Q:=
 pw mdL 27 [sl (Pr.cs_len l),df ((i:Int)<(l.length:Int))] [0,1,5,4] [] hcx hq
end
def smA_q(l:List Pr)(e:Ext):PExit × S:=(.exit 0,S.mk [(0,vL 4 (Pr.cs l)),(1,vL 4 (Pr.cs l))] [] e)
theorem smA_lp(l:List Pr)(hwk:∀w:Pr,w∈l->Pu 22 [.agg (prL w),.agg (prL w)] (.ret (.bool true)))(e:Ext)(hN:l.length<=1000000000)(i:Nat)(hi0:i<=l.length)  : (Ob.loop 27 (loopF f35 0) (smA_I l (i:Int)  e) (smA_q l e).1 (smA_q l e).2).ok prog:=by
 refine Ob.loop_of (P:=prog) (α:={ zz:Nat × Unit // zz.1<=l.length }) (fun zz=>smA_I l (zz.1.1:Int)  e) (fun zz=>l.length - zz.1.1) (fun zz=>(smA_q l e)) ?_ ⟨(i,()),hi0⟩
 clear hi0
 clear  i
 rintro ⟨⟨i,u⟩,hi⟩ cx hcx
 simp only at hi  ⊢
 rcases Nat.lt_or_ge i (l.length) with hlt | hge
 ·have hd:=drop_at hlt
  exact smA_b1 l hwk i  e hlt hN   cx hcx (.inl ⟨rfl,⟨((i+1),()),by simp only; omega⟩,by simp only; omega,xr,by trivial⟩)
 ·have he:i=l.length:=by omega
  subst he
  refine smA_z1 l hwk (l.length)  e rfl hN   cx hcx (.inr ?_)
  exact ⟨by simp,rfl,xr⟩
theorem smA(l:List Pr)(hwk:∀w:Pr,w∈l->Pu 22 [.agg (prL w),.agg (prL w)] (.ret (.bool true)))(e:Ext)(hN:l.length<=1000000000)  : (Ob.loop 27 (loopF f35 0) (smA_I l 0  e) (smA_q l e).1 (smA_q l e).2).ok prog:=by
 have:=smA_lp l hwk e hN 0  (Nat.zero_le _)
 exact this
theorem smT(l:List Pr)(hwk:∀w:Pr,w∈l->Pu 22 [.agg (prL w),.agg (prL w)] (.ret (.bool true)))(hN:l.length<=1000000000):Pu 35 [.sl 4 (Pr.cs l),.sl 4 (Pr.cs l)] (rB true):=
 pu mdL (fun e=>[rp 2 (sl (Pr.cs_len l)),nn (l.length:Int) (l.length:Int),lq (@smA l hwk e hN)]) func35
abbrev ssA_I(s:Df)(j:Int)(e:Ext):S:=S.mk [(2,.lp 2 0),(3,.lp 3 0),(5,vI6 j)] [(2,[vL 1 (nmsC (dfVs s)),vL 2 (Vr.cs (dfNe s)),vL 2 (Vr.cs (dfAb s)),vL 10 (Bo.cs (dfBo s)),vI6 (tpO (dfT s)),vS (tpNm (dfT s)),vL 9 (Tp.cs (tpA (dfT s))),vL 1 (nmsC (tpNs (dfT s))),vI6 (prO (tpP (dfT s))),vS (prNm (tpP (dfT s))),vI6 (prN (tpP (dfT s))),vL 4 (Pr.cs (prK (tpP (dfT s)))),vL 4 (Pr.cs (tpPs (dfT s))),vL 4 (Pr.cs (dfMe s))]),(3,[vL 1 (nmsC (dfVs s)),vL 2 (Vr.cs (dfNe s)),vL 2 (Vr.cs (dfAb s)),vL 10 (Bo.cs (dfBo s)),vI6 (tpO (dfT s)),vS (tpNm (dfT s)),vL 9 (Tp.cs (tpA (dfT s))),vL 1 (nmsC (tpNs (dfT s))),vI6 (prO (tpP (dfT s))),vS (prNm (tpP (dfT s))),vI6 (prN (tpP (dfT s))),vL 4 (Pr.cs (prK (tpP (dfT s)))),vL 4 (Pr.cs (tpPs (dfT s))),vL 4 (Pr.cs (dfMe s))])] e
section
variable (s:Df) (ha:Pu 32 [.sl 1 (nmsC (dfVs s)),.sl 1 (nmsC (dfVs s))] (.ret (.bool true))) (hb:Pu 33 [.sl 2 (Vr.cs (dfNe s)),.sl 2 (Vr.cs (dfNe s))] (.ret (.bool true))) (hc:Pu 34 [.agg (tpL (dfT s)),.agg (tpL (dfT s))] (.ret (.bool true))) (he:Pu 35 [.sl 4 (Pr.cs (dfMe s)),.sl 4 (Pr.cs (dfMe s))] (.ret (.bool true))) (i:Nat) (e:Ext)
include s ha hb hc he i e
theorem ssA_b1(hi:i<(dfAb s).length)(hN:(dfAb s).length<=1000000000)(cx:Cx)(hcx:cx.n=121){Q:PExit->S->Prop}(hq:Q (.normal) (S.mk [(2,.lp 2 0),(3,.lp 3 0),(5,vI6 ((i:Int)+1))] [(2,[vL 1 (nmsC (dfVs s)),vL 2 (Vr.cs (dfNe s)),vL 2 (Vr.cs (dfAb s)),vL 10 (Bo.cs (dfBo s)),vI6 (tpO (dfT s)),vS (tpNm (dfT s)),vL 9 (Tp.cs (tpA (dfT s))),vL 1 (nmsC (tpNs (dfT s))),vI6 (prO (tpP (dfT s))),vS (prNm (tpP (dfT s))),vI6 (prN (tpP (dfT s))),vL 4 (Pr.cs (prK (tpP (dfT s)))),vL 4 (Pr.cs (tpPs (dfT s))),vL 4 (Pr.cs (dfMe s))]),(3,[vL 1 (nmsC (dfVs s)),vL 2 (Vr.cs (dfNe s)),vL 2 (Vr.cs (dfAb s)),vL 10 (Bo.cs (dfBo s)),vI6 (tpO (dfT s)),vS (tpNm (dfT s)),vL 9 (Tp.cs (tpA (dfT s))),vL 1 (nmsC (tpNs (dfT s))),vI6 (prO (tpP (dfT s))),vS (prNm (tpP (dfT s))),vI6 (prN (tpP (dfT s))),vL 4 (Pr.cs (prK (tpP (dfT s)))),vL 4 (Pr.cs (tpPs (dfT s))),vL 4 (Pr.cs (dfMe s))])] e)):PW prog cx (loopF f10 0) (ssA_I s (i:Int) e) Q:=
 pw mdL 121 [sl (Vr.cs_len (dfAb s)),rgVr hi,mxVr (dfAb s) (i:Int),xVr (dfAb s) i hi,bf (if false=true then ByteArray.toList (vrNm (List.getD (dfAb s) i default))==ByteArray.toList (vrNm (List.getD (dfAb s) i default))&&(ByteArray.toList (vrS (List.getD (dfAb s) i default))==ByteArray.toList (vrS (List.getD (dfAb s) i default))&&true) else !(ByteArray.toList (vrNm (List.getD (dfAb s) i default))==ByteArray.toList (vrNm (List.getD (dfAb s) i default))&&(ByteArray.toList (vrS (List.getD (dfAb s) i default))==ByteArray.toList (vrS (List.getD (dfAb s) i default))&&true))) (by simp_all),wr ((i:Int)+1)] [2,3,5,4] [2,3] hcx hq
theorem ssA_z1(hi:i=(dfAb s).length)(hN:(dfAb s).length<=1000000000)(cx:Cx)(hcx:cx.n=121){Q:PExit->S->Prop}(hq:Q (.exit 0) (S.mk [(2,.lp 2 0),(3,.lp 3 0),(5,vI6 (i:Int))] [(2,[vL 1 (nmsC (dfVs s)),vL 2 (Vr.cs (dfNe s)),vL 2 (Vr.cs (dfAb s)),vL 10 (Bo.cs (dfBo s)),vI6 (tpO (dfT s)),vS (tpNm (dfT s)),vL 9 (Tp.cs (tpA (dfT s))),vL 1 (nmsC (tpNs (dfT s))),vI6 (prO (tpP (dfT s))),vS (prNm (tpP (dfT s))),vI6 (prN (tpP (dfT s))),vL 4 (Pr.cs (prK (tpP (dfT s)))),vL 4 (Pr.cs (tpPs (dfT s))),vL 4 (Pr.cs (dfMe s))]),(3,[vL 1 (nmsC (dfVs s)),vL 2 (Vr.cs (dfNe s)),vL 2 (Vr.cs (dfAb s)),vL 10 (Bo.cs (dfBo s)),vI6 (tpO (dfT s)),vS (tpNm (dfT s)),vL 9 (Tp.cs (tpA (dfT s))),vL 1 (nmsC (tpNs (dfT s))),vI6 (prO (tpP (dfT s))),vS (prNm (tpP (dfT s))),vI6 (prN (tpP (dfT s))),vL 4 (Pr.cs (prK (tpP (dfT s)))),vL 4 (Pr.cs (tpPs (dfT s))),vL 4 (Pr.cs (dfMe s))])] e)):PW prog cx (loopF f10 0) (ssA_I s (i:Int) e) Q:=
 pw mdL 121 [sl (Vr.cs_len (dfAb s)),df ((i:Int)<((dfAb s).length:Int))] [2,3,5,4] [2,3] hcx hq
end
def ssA_q(s:Df)(e:Ext):PExit × S:=(.exit 0,S.mk [(2,.lp 2 0),(3,.lp 3 0)] [(2,[vL 1 (nmsC (dfVs s)),vL 2 (Vr.cs (dfNe s)),vL 2 (Vr.cs (dfAb s)),vL 10 (Bo.cs (dfBo s)),vI6 (tpO (dfT s)),vS (tpNm (dfT s)),vL 9 (Tp.cs (tpA (dfT s))),vL 1 (nmsC (tpNs (dfT s))),vI6 (prO (tpP (dfT s))),vS (prNm (tpP (dfT s))),vI6 (prN (tpP (dfT s))),vL 4 (Pr.cs (prK (tpP (dfT s)))),vL 4 (Pr.cs (tpPs (dfT s))),vL 4 (Pr.cs (dfMe s))]),(3,[vL 1 (nmsC (dfVs s)),vL 2 (Vr.cs (dfNe s)),vL 2 (Vr.cs (dfAb s)),vL 10 (Bo.cs (dfBo s)),vI6 (tpO (dfT s)),vS (tpNm (dfT s)),vL 9 (Tp.cs (tpA (dfT s))),vL 1 (nmsC (tpNs (dfT s))),vI6 (prO (tpP (dfT s))),vS (prNm (tpP (dfT s))),vI6 (prN (tpP (dfT s))),vL 4 (Pr.cs (prK (tpP (dfT s)))),vL 4 (Pr.cs (tpPs (dfT s))),vL 4 (Pr.cs (dfMe s))])] e)
theorem ssA_lp(s:Df)(ha:Pu 32 [.sl 1 (nmsC (dfVs s)),.sl 1 (nmsC (dfVs s))] (.ret (.bool true)))(hb:Pu 33 [.sl 2 (Vr.cs (dfNe s)),.sl 2 (Vr.cs (dfNe s))] (.ret (.bool true)))(hc:Pu 34 [.agg (tpL (dfT s)),.agg (tpL (dfT s))] (.ret (.bool true)))(he:Pu 35 [.sl 4 (Pr.cs (dfMe s)),.sl 4 (Pr.cs (dfMe s))] (.ret (.bool true)))(e:Ext)(hN:(dfAb s).length<=1000000000)(i:Nat)(hi0:i<=(dfAb s).length)  : (Ob.loop 121 (loopF f10 0) (ssA_I s (i:Int)  e) (ssA_q s e).1 (ssA_q s e).2).ok prog:=by
 refine Ob.loop_of (P:=prog) (α:={ zz:Nat × Unit // zz.1<=(dfAb s).length }) (fun zz=>ssA_I s (zz.1.1:Int)  e) (fun zz=>(dfAb s).length - zz.1.1) (fun zz=>(ssA_q s e)) ?_ ⟨(i,()),hi0⟩
 clear hi0
 clear  i
 rintro ⟨⟨i,u⟩,hi⟩ cx hcx
 simp only at hi  ⊢
 rcases Nat.lt_or_ge i ((dfAb s).length) with hlt | hge
 ·have hd:=drop_at hlt
  exact ssA_b1 s ha hb hc he i  e hlt hN   cx hcx (.inl ⟨rfl,⟨((i+1),()),by simp only; omega⟩,by simp only; omega,xr,by trivial⟩)
 ·have he:i=(dfAb s).length:=by omega
  subst he
  refine ssA_z1 s ha hb hc he ((dfAb s).length)  e rfl hN   cx hcx (.inr ?_)
  exact ⟨by simp,rfl,xr⟩
theorem ssA(s:Df)(ha:Pu 32 [.sl 1 (nmsC (dfVs s)),.sl 1 (nmsC (dfVs s))] (.ret (.bool true)))(hb:Pu 33 [.sl 2 (Vr.cs (dfNe s)),.sl 2 (Vr.cs (dfNe s))] (.ret (.bool true)))(hc:Pu 34 [.agg (tpL (dfT s)),.agg (tpL (dfT s))] (.ret (.bool true)))(he:Pu 35 [.sl 4 (Pr.cs (dfMe s)),.sl 4 (Pr.cs (dfMe s))] (.ret (.bool true)))(e:Ext)(hN:(dfAb s).length<=1000000000)  : (Ob.loop 121 (loopF f10 0) (ssA_I s 0  e) (ssA_q s e).1 (ssA_q s e).2).ok prog:=by
 have:=ssA_lp s ha hb hc he e hN 0  (Nat.zero_le _)
 exact this
abbrev ssB_I(s:Df)(j:Int)(e:Ext):S:=S.mk [(2,.lp 2 0),(3,.lp 3 0),(6,vI6 j)] [(2,[vL 1 (nmsC (dfVs s)),vL 2 (Vr.cs (dfNe s)),vL 2 (Vr.cs (dfAb s)),vL 10 (Bo.cs (dfBo s)),vI6 (tpO (dfT s)),vS (tpNm (dfT s)),vL 9 (Tp.cs (tpA (dfT s))),vL 1 (nmsC (tpNs (dfT s))),vI6 (prO (tpP (dfT s))),vS (prNm (tpP (dfT s))),vI6 (prN (tpP (dfT s))),vL 4 (Pr.cs (prK (tpP (dfT s)))),vL 4 (Pr.cs (tpPs (dfT s))),vL 4 (Pr.cs (dfMe s))]),(3,[vL 1 (nmsC (dfVs s)),vL 2 (Vr.cs (dfNe s)),vL 2 (Vr.cs (dfAb s)),vL 10 (Bo.cs (dfBo s)),vI6 (tpO (dfT s)),vS (tpNm (dfT s)),vL 9 (Tp.cs (tpA (dfT s))),vL 1 (nmsC (tpNs (dfT s))),vI6 (prO (tpP (dfT s))),vS (prNm (tpP (dfT s))),vI6 (prN (tpP (dfT s))),vL 4 (Pr.cs (prK (tpP (dfT s)))),vL 4 (Pr.cs (tpPs (dfT s))),vL 4 (Pr.cs (dfMe s))])] e
section
variable (s:Df) (ha:Pu 32 [.sl 1 (nmsC (dfVs s)),.sl 1 (nmsC (dfVs s))] (.ret (.bool true))) (hb:Pu 33 [.sl 2 (Vr.cs (dfNe s)),.sl 2 (Vr.cs (dfNe s))] (.ret (.bool true))) (hc:Pu 34 [.agg (tpL (dfT s)),.agg (tpL (dfT s))] (.ret (.bool true))) (he:Pu 35 [.sl 4 (Pr.cs (dfMe s)),.sl 4 (Pr.cs (dfMe s))] (.ret (.bool true))) (hf:∀w:Bo,w∈dfBo s->Pu 36 [.sl 2 (Vr.cs (boW w)),.sl 2 (Vr.cs (boW w))] (.ret (.bool true))) (hg:∀w:Bo,w∈dfBo s->Pu 22 [.agg (prL (boH w)),.agg (prL (boH w))] (.ret (.bool true))) (hk:∀w:Bo,w∈dfBo s->Pu 22 [.agg (prL (boG w)),.agg (prL (boG w))] (.ret (.bool true))) (hM:(dfAb s).length<=1000000000) (i:Nat) (e:Ext)
include s ha hb hc he hf hg hk hM i e
theorem ssB_b1(hi:i<(dfBo s).length)(hN:(dfBo s).length<=1000000000)(cx:Cx)(hcx:cx.n=121){Q:PExit->S->Prop}(hq:Q (.normal) (S.mk [(2,.lp 2 0),(3,.lp 3 0),(6,vI6 ((i:Int)+1))] [(2,[vL 1 (nmsC (dfVs s)),vL 2 (Vr.cs (dfNe s)),vL 2 (Vr.cs (dfAb s)),vL 10 (Bo.cs (dfBo s)),vI6 (tpO (dfT s)),vS (tpNm (dfT s)),vL 9 (Tp.cs (tpA (dfT s))),vL 1 (nmsC (tpNs (dfT s))),vI6 (prO (tpP (dfT s))),vS (prNm (tpP (dfT s))),vI6 (prN (tpP (dfT s))),vL 4 (Pr.cs (prK (tpP (dfT s)))),vL 4 (Pr.cs (tpPs (dfT s))),vL 4 (Pr.cs (dfMe s))]),(3,[vL 1 (nmsC (dfVs s)),vL 2 (Vr.cs (dfNe s)),vL 2 (Vr.cs (dfAb s)),vL 10 (Bo.cs (dfBo s)),vI6 (tpO (dfT s)),vS (tpNm (dfT s)),vL 9 (Tp.cs (tpA (dfT s))),vL 1 (nmsC (tpNs (dfT s))),vI6 (prO (tpP (dfT s))),vS (prNm (tpP (dfT s))),vI6 (prN (tpP (dfT s))),vL 4 (Pr.cs (prK (tpP (dfT s)))),vL 4 (Pr.cs (tpPs (dfT s))),vL 4 (Pr.cs (dfMe s))])] e)):PW prog cx (loopF f10 1) (ssB_I s (i:Int) e) Q:=
 pw mdL 121 [sl (Bo.cs_len (dfBo s)),rgBo hi,mxBo (dfBo s) (i:Int),xBo (dfBo s) i hi,rp 5 (bf (!ByteArray.toList (boNm (List.getD (dfBo s) i default))==ByteArray.toList (boNm (List.getD (dfBo s) i default))) (bnF (bsT rF))),cl (@hf (List.getD (dfBo s) i default) (by simp_all)),rp 2 (bf (!ByteArray.toList (boNm (List.getD (dfBo s) i default))==ByteArray.toList (boNm (List.getD (dfBo s) i default))) (bnF (bsT rF))),rp 5 (bf false),cl (@hg (List.getD (dfBo s) i default) (by simp_all)),rp 7 (bf false),cl (@hk (List.getD (dfBo s) i default) (by simp_all)),rp 3 (bf false),wr ((i:Int)+1)] [2,3,6,4] [2,3] hcx hq
theorem ssB_z1(hi:i=(dfBo s).length)(hN:(dfBo s).length<=1000000000)(cx:Cx)(hcx:cx.n=121){Q:PExit->S->Prop}(hq:Q (.exit 2) (S.mk [(2,.lp 2 0),(3,.lp 3 0),(6,vI6 (i:Int))] [(2,[vL 1 (nmsC (dfVs s)),vL 2 (Vr.cs (dfNe s)),vL 2 (Vr.cs (dfAb s)),vL 10 (Bo.cs (dfBo s)),vI6 (tpO (dfT s)),vS (tpNm (dfT s)),vL 9 (Tp.cs (tpA (dfT s))),vL 1 (nmsC (tpNs (dfT s))),vI6 (prO (tpP (dfT s))),vS (prNm (tpP (dfT s))),vI6 (prN (tpP (dfT s))),vL 4 (Pr.cs (prK (tpP (dfT s)))),vL 4 (Pr.cs (tpPs (dfT s))),vL 4 (Pr.cs (dfMe s))]),(3,[vL 1 (nmsC (dfVs s)),vL 2 (Vr.cs (dfNe s)),vL 2 (Vr.cs (dfAb s)),vL 10 (Bo.cs (dfBo s)),vI6 (tpO (dfT s)),vS (tpNm (dfT s)),vL 9 (Tp.cs (tpA (dfT s))),vL 1 (nmsC (tpNs (dfT s))),vI6 (prO (tpP (dfT s))),vS (prNm (tpP (dfT s))),vI6 (prN (tpP (dfT s))),vL 4 (Pr.cs (prK (tpP (dfT s)))),vL 4 (Pr.cs (tpPs (dfT s))),vL 4 (Pr.cs (dfMe s))])] e)):PW prog cx (loopF f10 1) (ssB_I s (i:Int) e) Q:=
 pw mdL 121 [sl (Bo.cs_len (dfBo s)),df ((i:Int)<((dfBo s).length:Int))] [2,3,6,4] [2,3] hcx hq
end
def ssB_q(s:Df)(e:Ext):PExit × S:=(.exit 2,S.mk [(2,.lp 2 0),(3,.lp 3 0)] [(2,[vL 1 (nmsC (dfVs s)),vL 2 (Vr.cs (dfNe s)),vL 2 (Vr.cs (dfAb s)),vL 10 (Bo.cs (dfBo s)),vI6 (tpO (dfT s)),vS (tpNm (dfT s)),vL 9 (Tp.cs (tpA (dfT s))),vL 1 (nmsC (tpNs (dfT s))),vI6 (prO (tpP (dfT s))),vS (prNm (tpP (dfT s))),vI6 (prN (tpP (dfT s))),vL 4 (Pr.cs (prK (tpP (dfT s)))),vL 4 (Pr.cs (tpPs (dfT s))),vL 4 (Pr.cs (dfMe s))]),(3,[vL 1 (nmsC (dfVs s)),vL 2 (Vr.cs (dfNe s)),vL 2 (Vr.cs (dfAb s)),vL 10 (Bo.cs (dfBo s)),vI6 (tpO (dfT s)),vS (tpNm (dfT s)),vL 9 (Tp.cs (tpA (dfT s))),vL 1 (nmsC (tpNs (dfT s))),vI6 (prO (tpP (dfT s))),vS (prNm (tpP (dfT s))),vI6 (prN (tpP (dfT s))),vL 4 (Pr.cs (prK (tpP (dfT s)))),vL 4 (Pr.cs (tpPs (dfT s))),vL 4 (Pr.cs (dfMe s))])] e)
theorem ssB_lp(s:Df)(ha:Pu 32 [.sl 1 (nmsC (dfVs s)),.sl 1 (nmsC (dfVs s))] (.ret (.bool true)))(hb:Pu 33 [.sl 2 (Vr.cs (dfNe s)),.sl 2 (Vr.cs (dfNe s))] (.ret (.bool true)))(hc:Pu 34 [.agg (tpL (dfT s)),.agg (tpL (dfT s))] (.ret (.bool true)))(he:Pu 35 [.sl 4 (Pr.cs (dfMe s)),.sl 4 (Pr.cs (dfMe s))] (.ret (.bool true)))(hf:∀w:Bo,w∈dfBo s->Pu 36 [.sl 2 (Vr.cs (boW w)),.sl 2 (Vr.cs (boW w))] (.ret (.bool true)))(hg:∀w:Bo,w∈dfBo s->Pu 22 [.agg (prL (boH w)),.agg (prL (boH w))] (.ret (.bool true)))(hk:∀w:Bo,w∈dfBo s->Pu 22 [.agg (prL (boG w)),.agg (prL (boG w))] (.ret (.bool true)))(hM:(dfAb s).length<=1000000000)(e:Ext)(hN:(dfBo s).length<=1000000000)(i:Nat)(hi0:i<=(dfBo s).length)  : (Ob.loop 121 (loopF f10 1) (ssB_I s (i:Int)  e) (ssB_q s e).1 (ssB_q s e).2).ok prog:=by
 refine Ob.loop_of (P:=prog) (α:={ zz:Nat × Unit // zz.1<=(dfBo s).length }) (fun zz=>ssB_I s (zz.1.1:Int)  e) (fun zz=>(dfBo s).length - zz.1.1) (fun zz=>(ssB_q s e)) ?_ ⟨(i,()),hi0⟩
 clear hi0
 clear  i
 rintro ⟨⟨i,u⟩,hi⟩ cx hcx
 simp only at hi  ⊢
 rcases Nat.lt_or_ge i ((dfBo s).length) with hlt | hge
 ·have hd:=drop_at hlt
  exact ssB_b1 s ha hb hc he hf hg hk hM i  e hlt hN   cx hcx (.inl ⟨rfl,⟨((i+1),()),by simp only; omega⟩,by simp only; omega,xr,by trivial⟩)
 ·have he:i=(dfBo s).length:=by omega
  subst he
  refine ssB_z1 s ha hb hc he hf hg hk hM ((dfBo s).length)  e rfl hN   cx hcx (.inr ?_)
  exact ⟨by simp,rfl,xr⟩
theorem ssB(s:Df)(ha:Pu 32 [.sl 1 (nmsC (dfVs s)),.sl 1 (nmsC (dfVs s))] (.ret (.bool true)))(hb:Pu 33 [.sl 2 (Vr.cs (dfNe s)),.sl 2 (Vr.cs (dfNe s))] (.ret (.bool true)))(hc:Pu 34 [.agg (tpL (dfT s)),.agg (tpL (dfT s))] (.ret (.bool true)))(he:Pu 35 [.sl 4 (Pr.cs (dfMe s)),.sl 4 (Pr.cs (dfMe s))] (.ret (.bool true)))(hf:∀w:Bo,w∈dfBo s->Pu 36 [.sl 2 (Vr.cs (boW w)),.sl 2 (Vr.cs (boW w))] (.ret (.bool true)))(hg:∀w:Bo,w∈dfBo s->Pu 22 [.agg (prL (boH w)),.agg (prL (boH w))] (.ret (.bool true)))(hk:∀w:Bo,w∈dfBo s->Pu 22 [.agg (prL (boG w)),.agg (prL (boG w))] (.ret (.bool true)))(hM:(dfAb s).length<=1000000000)(e:Ext)(hN:(dfBo s).length<=1000000000)  : (Ob.loop 121 (loopF f10 1) (ssB_I s 0  e) (ssB_q s e).1 (ssB_q s e).2).ok prog:=by
 have:=ssB_lp s ha hb hc he hf hg hk hM e hN 0  (Nat.zero_le _)
 exact this
theorem ssL(s:Df)(ha:Pu 32 [.sl 1 (nmsC (dfVs s)),.sl 1 (nmsC (dfVs s))] (.ret (.bool true)))(hb:Pu 33 [.sl 2 (Vr.cs (dfNe s)),.sl 2 (Vr.cs (dfNe s))] (.ret (.bool true)))(hc:Pu 34 [.agg (tpL (dfT s)),.agg (tpL (dfT s))] (.ret (.bool true)))(he:Pu 35 [.sl 4 (Pr.cs (dfMe s)),.sl 4 (Pr.cs (dfMe s))] (.ret (.bool true)))(hf:∀w:Bo,w∈dfBo s->Pu 36 [.sl 2 (Vr.cs (boW w)),.sl 2 (Vr.cs (boW w))] (.ret (.bool true)))(hg:∀w:Bo,w∈dfBo s->Pu 22 [.agg (prL (boH w)),.agg (prL (boH w))] (.ret (.bool true)))(hk:∀w:Bo,w∈dfBo s->Pu 22 [.agg (prL (boG w)),.agg (prL (boG w))] (.ret (.bool true)))(hM:(dfAb s).length<=1000000000)(hN:(dfBo s).length<=1000000000):Pu 10 [.agg (sgL s),.agg (sgL s)] (rB true):=
 pu mdL (fun e=>[cl ha,rp 5 (bf false),cl hb,rp 5 (bf false),sl (Vr.cs_len (dfAb s)),rp 3 (bf false),sl (Vr.cs_len (dfAb s)),rp 2 (bf false),rp 3 (nn ((dfAb s).length:Int) ((dfAb s).length:Int)),sl (Bo.cs_len (dfBo s)),rp 3 (nn ((dfAb s).length:Int) ((dfAb s).length:Int)),sl (Bo.cs_len (dfBo s)),rp 2 (nn ((dfAb s).length:Int) ((dfAb s).length:Int)),rp 5 (nn ((dfBo s).length:Int) ((dfBo s).length:Int)),cl hc,rp 2 (nn ((dfBo s).length:Int) ((dfBo s).length:Int)),rp 5 (bf false),cl he,rp 3 (bf false),lq (@ssA s ha hb hc he e hM),lq (@ssB s ha hb hc he hf hg hk hM e hN)]) func10
abbrev bdS_I(v:Ex)(j:Int)(out:List Ex)(e:Ext):S:=S.mk [(1,.lp 1 0),(2,.v .nilsl),(3,.uniq 37 7 (Ex.cs out)),(4,vI6 j)] [(1,exV v)] e
def bdS_f  : List Al->(List Ex)->(List Ex)
 | [],out=>(out)
 | el::r,out=>bdS_f  r (out++[alB el])
def bdS_q(v:Ex)(e:Ext)(p:(List Ex)):PExit × S:=(.exit 0,S.mk [(1,.lp 1 0),(2,.v .nilsl),(3,.uniq 37 7 (Ex.cs p))] [(1,exV v)] e)
theorem bdS(v:Ex)(hk:(exK v).length<=1000000000)(hA:(exA v).length<=1000000000)(out:List Ex)(e:Ext)(hN:(exA v).length<=1000000000)(hv:List.length out<=1000000000+0):(Ob.loop 26 (loopF f37 0) (bdS_I v 0 out e) (bdS_q v e (bdS_f  ((exA v))  out)).1 (bdS_q v e (bdS_f  ((exA v))  out)).2).ok prog:=by
 refine rng ((exA v).length) (fun j out=>bdS_I v j out e) (fun i out=>bdS_f  (List.drop i ((exA v)))  out) (bdS_q v e) (fun i out=>(out.length<=1000000000+i)) kR ?_ out (by first | exact hv | omega)
 rintro i out hi hv
 try simp only at hv
 rcases Nat.lt_or_ge i ((exA v).length) with hlt | hge
 ·have hd:=drop_at hlt
  exact lS mdL [sl (Al.cs_len (exA v)),rgAl hlt,am (List.length (Ex.cs out++[List.take ((fun x=>TypeInfo.size x) (Tables.types (Program.toTables prog))[37]) (List.drop (0+Field.offset #[Field.mk "Con" 9 0 false "" "" 0,Field.mk "Names" 30 1 false "" "" 16,Field.mk "Body" 37 2 false "" "" 40][2]) (alL (List.getD (exA v) i default)))]) * (127+1)<=140737488355328) (by (simp only [List.length_append,List.length_cons,List.length_nil,nmsC_len,Tp.cs_len,Pm.cs_len,Ex.cs_len,Al.cs_len]; omega)),wr ((i:Int)+1)] [1,2,3,4] [1] hlt (out++[alB (List.getD (exA v) i default)]) (S.mk [(1,.lp 1 0),(2,.v .nilsl),(3,.uniq 37 7 (Ex.cs out++[List.take (TypeInfo.size (Tables.types (Program.toTables prog))[37]) (List.drop (0+Field.offset #[Field.mk "Con" 9 0 false "" "" 0,Field.mk "Names" 30 1 false "" "" 16,Field.mk "Body" 37 2 false "" "" 40][2]) (alL (List.getD (exA v) i default)))])),(4,vI6 ((i:Int)+1))] [(1,exV v)] e) ⟨⟨W,W,(.inl (by first | (simp only [List.nil_append,nmsC_app,nmsC_snoc,Pr.cs_snoc,Tp.cs_snoc,Ex.cs_snoc,Vr.cs_snoc,Df.cs_snoc]; done) | (simp only [List.nil_append,nmsC_app,nmsC_snoc,Pr.cs_snoc,Tp.cs_snoc,Ex.cs_snoc,Vr.cs_snoc,Df.cs_snoc]; rfl))),W,tVv⟩,⟨Ws,tVv⟩,rfl⟩ (by first | assumption | omega | (apply gEx <;> first | assumption | omega | decide) | (apply gAl <;> first | assumption | omega | decide) | (simp only [List.length_append,List.length_cons,List.length_nil] at *; omega) | simp_all) (by rw [hd,bdS_f])
 ·have he:i=(exA v).length:=by omega
  exact lX mdL [sl (Al.cs_len (exA v)),df ((i:Int)<((exA v).length:Int))] (out) (by rw [he,List.drop_length,bdS_f])
theorem bdT(v:Ex)(hk:(exK v).length<=1000000000)(hA:(exA v).length<=1000000000):Pu 37 [.agg (exL v)] (.own 37 7 (Ex.cs (bdS_f (exA v) (exK v)))):=
 pu mdL (fun e=>[am (List.length ([]++(fun x=>Prod.snd x) (7,Ex.cs (exK v))) * (127+1)<=140737488355328) (by (simp only [List.length_append,List.length_nil,Ex.cs_len]; omega)),lp (S.mk [(1,.lp 1 0),(2,.v .nilsl),(3,.uniq 37 7 ([]++Ex.cs (exK v))),(4,vI6 0)] [(1,exV v)] e) (@bdS v hk hA (exK v) e hA hk) ⟨⟨W,W,(by first | exact .inl rfl | exact .inr ⟨rfl,rfl⟩ | exact .inr rfl | exact .inr trivial | exact .inl (by first | (simp only [List.nil_append,nmsC_app,nmsC_snoc,Pr.cs_snoc,Tp.cs_snoc,Ex.cs_snoc,Vr.cs_snoc,Df.cs_snoc]; done) | (simp only [List.nil_append,nmsC_app,nmsC_snoc,Pr.cs_snoc,Tp.cs_snoc,Ex.cs_snoc,Vr.cs_snoc,Df.cs_snoc]; rfl))),W,tVv⟩,⟨⟨W,W,W,W,W,W,W,tVv⟩,tVv⟩,rfl⟩]) func37
abbrev ndS_I(v:Ex)(ks:List Ex)(nf:Ex->Int)(j:Int)(m:Int)(e:Ext):S:=S.mk [(2,vI6 0),(3,vI6 m),(4,vL 7 (Ex.cs ks)),(5,vI6 j)] [] e
def ndS_f(nf:Ex->Int):List Ex->(Int)->(Int)
 | [],m=>(m)
 | el::r,m=>ndS_f nf r (IntKind.wrap .i64 (m+nf el))
def ndS_q(v:Ex)(ks:List Ex)(nf:Ex->Int)(e:Ext)(p:(Int)):PExit × S:=(.exit 0,S.mk [(2,vI6 0),(3,vI6 p),(4,vL 7 (Ex.cs ks))] [] e)
theorem ndS(v:Ex)(ks:List Ex)(hB:Pu 37 [.agg (exL v)] (.ret (.sl 7 (Ex.cs ks))))(hks:ks.length<=2000000000)(nf:Ex->Int)(hR:∀y:Ex,y∈ks->Pu 11 [.agg (exL y)] (.ret (.int .i64 (nf y))))(m:Int)(e:Ext)(hN:ks.length<=1000000000)  : (Ob.loop 22 (loopF f11 0) (ndS_I v ks nf 0 m e) (ndS_q v ks nf e (ndS_f nf (ks)  m)).1 (ndS_q v ks nf e (ndS_f nf (ks)  m)).2).ok prog:=by
 refine rng ks.length (fun j m=>ndS_I v ks nf j m e) (fun i m=>ndS_f nf (List.drop i (ks))  m) (ndS_q v ks nf e) (fun i m=>True) kR ?_ m trivial
 rintro i m hi -
 rcases Nat.lt_or_ge i (ks.length) with hlt | hge
 ·have hd:=drop_at hlt
  exact lN mdL [sl (Ex.cs_len ks),rgEx hlt,cl (@hR (List.getD ks i default) (by simp_all)),kp,wr ((i:Int)+1)] hlt (IntKind.wrap .i64 (m+nf (List.getD ks i default))) trivial (by rw [hd,ndS_f])
 ·have he:i=ks.length:=by omega
  exact lX mdL [sl (Ex.cs_len ks),df ((i:Int)<(ks.length:Int))] (m) (by rw [he,List.drop_length,ndS_f])
theorem ndL(v:Ex)(ks:List Ex)(hB:Pu 37 [.agg (exL v)] (.ret (.sl 7 (Ex.cs ks))))(hks:ks.length<=2000000000)(nf:Ex->Int)(hR:∀y:Ex,y∈ks->Pu 11 [.agg (exL y)] (.ret (.int .i64 (nf y))))(hx0:List.length ks<=1000000000):Pu 11 [.agg (exL v)] (rI (ndS_f nf ks 1)):=
 pu mdL (fun e=>[cl hB,lq (@ndS v ks hB hks nf hR 1 e hx0)]) func11
theorem exs_lt(v:Ex):bulkPss (Ex.cs (exK v))+bulkPss (Al.cs (exA v))<bulkPs (exL v):=by simp only [bulkPs,bulkP]; omega
theorem bdS_eq:∀ (bs:List Al) (out:List Ex),bdS_f bs out=out++bs.map alB
 | [],out=>by simp [bdS_f]
 | a::r,out=>by simp [bdS_f,bdS_eq r]
theorem alB_lt(a:Al):bulkPs (exL (alB a))<bulkPs (alL a):=by simp only [bulkPs,bulkP]; omega
theorem bod_lt{v y:Ex}(h:y∈bdS_f (exA v) (exK v)):bulkPs (exL y)<bulkPs (exL v):=by
 have h1:=exs_lt v
 rw [bdS_eq,List.mem_append,List.mem_map] at h
 rcases h with h | ⟨a,h,rfl⟩
 ·have:=Ex.mem h; omega
 ·have:=Al.mem h; have:=alB_lt a; omega
def ndD:Nat->Ex->Int
 | 0,_=>0
 | d+1,v=>ndS_f (ndD d) (bdS_f (exA v) (exK v)) 1
theorem nd_ok:∀ (d:Nat) (v:Ex),bulkPs (exL v)<d->d<=100000001->Pu 11 [.agg (exL v)] (.ret (.int .i64 (ndD d v)))
 | 0,v,h,_=>by omega
 | d+1,v,h,hs=>by
  have h1:=exs_lt v
  have h2:=Ex.bulk (exK v)
  have h3:=Al.bulk (exA v)
  have hl:(bdS_f (exA v) (exK v)).length<=1000000000:=by rw [bdS_eq,List.length_append,List.length_map]; omega
  exact ndL v _ (Ob.pur_unown (bdT v oM oM)) oM (ndD d) (fun y hy=>nd_ok d y (by have:=bod_lt hy; omega) oM) hl
def ndF(v:Ex):Int:=ndD (bulkPs (exL v)+1) v
theorem ndT(v:Ex)(hs:bulkPs (exL v)<=100000000):Pu 11 [.agg (exL v)] (.ret (.int .i64 (ndF v))):=nd_ok _ v (Nat.lt_succ_self _) oM
abbrev ltA_I(v:Ex)(nf:Ex->Int)(j:Int)(n:Int)(e:Ext):S:=S.mk [(1,.lp 1 0),(2,vI6 0),(3,vI6 n),(4,vI6 j)] [(1,exV v)] e
def ltA_f(nf:Ex->Int):List Ex->(Int)->(Int)
 | [],n=>(n)
 | el::r,n=>ltA_f nf r (IntKind.wrap .i64 (n+nf el))
def ltA_q(v:Ex)(nf:Ex->Int)(e:Ext)(p:(Int)):PExit × S:=(.exit 0,S.mk [(1,.lp 1 0),(2,vI6 0),(3,vI6 p)] [(1,exV v)] e)
theorem ltA(v:Ex)(nf:Ex->Int)(hR:∀y:Ex,y∈exK v->Pu 17 [.agg (exL y)] (.ret (.int .i64 (nf y))))(n:Int)(e:Ext)(hN:(exK v).length<=1000000000)  : (Ob.loop 41 (loopF f17 0) (ltA_I v nf 0 n e) (ltA_q v nf e (ltA_f nf ((exK v))  n)).1 (ltA_q v nf e (ltA_f nf ((exK v))  n)).2).ok prog:=by
 refine rng ((exK v).length) (fun j n=>ltA_I v nf j n e) (fun i n=>ltA_f nf (List.drop i ((exK v)))  n) (ltA_q v nf e) (fun i n=>True) kR ?_ n trivial
 rintro i n hi -
 rcases Nat.lt_or_ge i ((exK v).length) with hlt | hge
 ·have hd:=drop_at hlt
  exact lN mdL [sl (Ex.cs_len (exK v)),rgEx hlt,cl (@hR (List.getD (exK v) i default) (by simp_all)),kp,wr ((i:Int)+1)] hlt (IntKind.wrap .i64 (n+nf (List.getD (exK v) i default))) trivial (by rw [hd,ltA_f])
 ·have he:i=(exK v).length:=by omega
  exact lX mdL [sl (Ex.cs_len (exK v)),df ((i:Int)<((exK v).length:Int))] (n) (by rw [he,List.drop_length,ltA_f])
abbrev ltB_I(v:Ex)(nf:Ex->Int)(j:Int)(n:Int)(e:Ext):S:=S.mk [(1,.lp 1 0),(2,vI6 0),(3,vI6 n),(5,vI6 j)] [(1,exV v)] e
def ltB_f(nf:Ex->Int):List Al->(Int)->(Int)
 | [],n=>(n)
 | el::r,n=>ltB_f nf r (IntKind.wrap .i64 (n+nf (alB el)))
def ltB_q(v:Ex)(nf:Ex->Int)(e:Ext)(p:(Int)):PExit × S:=(.exit 2,S.mk [(1,.lp 1 0),(2,vI6 0),(3,vI6 p)] [(1,exV v)] e)
theorem ltB(v:Ex)(nf:Ex->Int)(hR:∀y:Ex,y∈exK v->Pu 17 [.agg (exL y)] (.ret (.int .i64 (nf y))))(hS:∀y:Al,y∈exA v->Pu 17 [.agg (exL (alB y))] (.ret (.int .i64 (nf (alB y)))))(hM:(exK v).length<=1000000000)(n:Int)(e:Ext)(hN:(exA v).length<=1000000000)  : (Ob.loop 41 (loopF f17 1) (ltB_I v nf 0 n e) (ltB_q v nf e (ltB_f nf ((exA v))  n)).1 (ltB_q v nf e (ltB_f nf ((exA v))  n)).2).ok prog:=by
 refine rng ((exA v).length) (fun j n=>ltB_I v nf j n e) (fun i n=>ltB_f nf (List.drop i ((exA v)))  n) (ltB_q v nf e) (fun i n=>True) kR ?_ n trivial
 rintro i n hi -
 rcases Nat.lt_or_ge i ((exA v).length) with hlt | hge
 ·have hd:=drop_at hlt
  exact lN mdL [sl (Al.cs_len (exA v)),rgAl hlt,cl (@hS (List.getD (exA v) i default) (by simp_all)),kp,wr ((i:Int)+1)] hlt (IntKind.wrap .i64 (n+nf (alB (List.getD (exA v) i default)))) trivial (by rw [hd,ltB_f])
 ·have he:i=(exA v).length:=by omega
  exact lX mdL [sl (Al.cs_len (exA v)),df ((i:Int)<((exA v).length:Int))] (n) (by rw [he,List.drop_length,ltB_f])
def ltL_r0(v:Ex)(nf:Ex->Int):Int:=(if exO v=7 then (ltB_f nf (exA v) (ltA_f nf (exK v) 1)) else (ltB_f nf (exA v) (ltA_f nf (exK v) 0)))
theorem ltL(v:Ex)(nf:Ex->Int)(hR:∀y:Ex,y∈exK v->Pu 17 [.agg (exL y)] (.ret (.int .i64 (nf y))))(hS:∀y:Al,y∈exA v->Pu 17 [.agg (exL (alB y))] (.ret (.int .i64 (nf (alB y)))))(hM:(exK v).length<=1000000000)(hN:(exA v).length<=1000000000):Pu 17 [.agg (exL v)] (rI (ltL_r0 v nf)):=by
 by_cases h0:exO v=7
 ·simp only [ltL_r0,iP h0]; exact pu mdL (fun e=>[et1 h0,lq (@ltA v nf hR 1 e hM),lq (@ltB v nf hR hS hM (ltA_f nf (exK v) 1) e hN)]) func17
 ·simp only [ltL_r0,iN h0]; exact pu mdL (fun e=>[en1 h0,lq (@ltA v nf hR 0 e hM),lq (@ltB v nf hR hS hM (ltA_f nf (exK v) 0) e hN)]) func17
def ltD:Nat->Ex->Int
 | 0,_=>0
 | d+1,v=>ltL_r0 v (ltD d)
theorem lt_ok:∀ (d:Nat) (v:Ex),bulkPs (exL v)<d->d<=100000001->Pu 17 [.agg (exL v)] (.ret (.int .i64 (ltD d v)))
 | 0,v,h,_=>by omega
 | d+1,v,h,hs=>ltL v (ltD d) (fun y hy=>lt_ok d y (by have h1:=exs_lt v; have:=Ex.mem hy; omega) oM) (fun y hy=>lt_ok d (alB y) (by have h1:=exs_lt v; have:=Al.mem hy; have:=alB_lt y; omega) oM) (by have h1:=exs_lt v; have:=Ex.bulk (exK v); omega) (by have h1:=exs_lt v; have:=Al.bulk (exA v); omega)
def ltF(v:Ex):Int:=ltD (bulkPs (exL v)+1) v
theorem ltT(v:Ex)(hs:bulkPs (exL v)<=100000000):Pu 17 [.agg (exL v)] (.ret (.int .i64 (ltF v))):=lt_ok _ v (Nat.lt_succ_self _) oM
abbrev liA_I(m:Mo)(j:Int)(e:Ext):S:=S.mk [(1,.lp 1 0),(3,vI6 j)] [(1,moV m)] e
inductive liA_R where
 | e0
 | e1
def liA_f  : List Df->liA_R
 | []=>(liA_R.e1)
 | el::r=>(if ndF (dfB el)>100 then (liA_R.e0) else (if ((dfP el).length:Int)>8 then (liA_R.e0) else (if ltF (dfB el)>6 then (liA_R.e0) else liA_f  r)))
def liA_q(m:Mo)(e:Ext):liA_R->PExit × S
 | .e0=>(.ret,S.mk [(1,.lp 1 0),(2,.v (.bool false))] [(1,moV m)] e)
 | .e1=>(.exit 0,S.mk [(1,.lp 1 0)] [(1,moV m)] e)
theorem liA_lp(m:Mo)(hq1:¬((moF m).length:Int)>9)(hR:∀w:Df,w∈moF m->Pu 11 [.agg (exL (dfB w))] (.ret (.int .i64 (ndF (dfB w)))))(hS:∀w:Df,w∈moF m->Pu 17 [.agg (exL (dfB w))] (.ret (.int .i64 (ltF (dfB w)))))(e:Ext)(hN:(moF m).length<=1000000000):(Ob.loop 43 (loopF f6 0) (liA_I m 0  e) (liA_q m e (liA_f  ((moF m)))).1 (liA_q m e (liA_f  ((moF m)))).2).ok prog:=by
 refine rng ((moF m).length) (fun j _=>liA_I m j  e) (fun i _=>liA_f  (List.drop i ((moF m)))) (liA_q m e) (fun i _=>True) kR ?_ () trivial
 rintro i u hi -
 rcases Nat.lt_or_ge i ((moF m).length) with hlt | hge
 ·have hd:=drop_at hlt
  refine t0 ?_;refine tp [sl (Df.cs_len (moF m)),rgDf hlt,cl (@hR (List.getD (moF m) i default) (by simp_all))] ?_;by_cases h0:ndF (dfB (List.getD (moF m) i default))>100
  ·exact tX mdL [rp 9 (dt1 h0),rp 10 (bt true)] (liA_R.e0) (by rw [hd,liA_f,iP h0])
  ·refine tp [rp 4 (df1 h0),mxDf (moF m) (i:Int),xDf (moF m) i hlt,rp 3 (df1 h0),sl (nmsC_len (dfP (List.getD (moF m) i default))),rp 2 (df1 h0)] ?_;by_cases h1:((dfP (List.getD (moF m) i default)).length:Int)>8
   ·exact tX mdL [rp 9 (dt1 h1),bt true] (liA_R.e0) (by rw [hd,liA_f,iN h0,iP h1])
   ·refine tp [rp 4 (df1 h1),mxDf (moF m) (i:Int),xDf (moF m) i hlt,rp 3 (df1 h1),cl (@hS (List.getD (moF m) i default) (by simp_all)),rp 2 (df1 h1)] ?_;by_cases h2:ltF (dfB (List.getD (moF m) i default))>6
    ·exact tX mdL [dt1 h2] (liA_R.e0) (by rw [hd,liA_f,iN h0,iN h1,iP h2])
    ·exact tN mdL [df1 h2,wr ((i:Int)+1)] hlt () trivial (by rw [hd,liA_f,iN h0,iN h1,iN h2])
 ·have he:i=(moF m).length:=by omega
  exact lX mdL [sl (Df.cs_len (moF m)),df ((i:Int)<((moF m).length:Int))] (liA_R.e1) (by rw [he,List.drop_length,liA_f])
section
variable (m:Mo) (hR:∀w:Df,w∈moF m->Pu 11 [.agg (exL (dfB w))] (.ret (.int .i64 (ndF (dfB w))))) (hS:∀w:Df,w∈moF m->Pu 17 [.agg (exL (dfB w))] (.ret (.int .i64 (ltF (dfB w)))))
include m hR hS
theorem liL_1(hx0:((moF m).length:Int)>9):Pu 6 [.agg (moL m)] (rB false):=
 pm mdL [sl (Df.cs_len (moF m)),dt1 hx0] func6
theorem liL_2(hx0:¬((moF m).length:Int)>9)(hx1:liA_f (moF m)=liA_R.e0):Pu 6 [.agg (moL m)] (rB false):=
 pu mdL (fun e=>[sl (Df.cs_len (moF m)),df1 hx0,lq (rz (liA_lp (m) hx0 hR hS (e) oM) hx1)]) func6
theorem liL_3(hx0:¬((moF m).length:Int)>9)(hx1:liA_f (moF m)=liA_R.e1):Pu 6 [.agg (moL m)] (rB true):=
 pu mdL (fun e=>[sl (Df.cs_len (moF m)),df1 hx0,lq (rz (liA_lp (m) hx0 hR hS (e) oM) hx1)]) func6
end
end Go.Proofs.YtcflffbapgiicaaGreatDoor
