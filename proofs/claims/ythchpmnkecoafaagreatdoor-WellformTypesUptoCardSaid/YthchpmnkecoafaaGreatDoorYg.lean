/- Values of Go as plain data, an evaluator over them, and what the functions of the program return; part Yg. -/
import Derived.Test.YthchpmnkecoafaaGreatDoorYe
import Derived.Test.YthchpmnkecoafaaGreatDoorYf
import Derived.Test.YthchpmnkecoafaaGreatDoorYa
set_option linter.unusedSectionVars false
set_option linter.unusedSimpArgs false
set_option linter.unusedVariables false
namespace Go.Proofs.YthchpmnkecoafaaGreatDoor
open Go.Proofs.Tryz
open Go.RowKit Go.Shelf Go.Pv
attribute [local go_sem] Oper.semAt_some
set_option maxRecDepth 100000
theorem Qs{F:Fence}(hd:F.depth=none)(k:Nat):F.room k:=fun d h=>by rw [hd] at h; cases h
theorem RoundIn.Nt{F:Fence}(hd:F.depth=none){m m':Nat}{P:Program}{l:Nat}{f:FuncId}{tmps:Array Value}{assign body:Code}{w:World}{R:Ending->World->Prop}
  (h:RoundIn F m P l f tmps assign body w R):RoundIn F m' P l f tmps assign body w R:=⟨h.1,fun c cs _=>h.2 c cs (Qs hd _)⟩
theorem YieldAt.Nt{F:Fence}(hd:F.depth=none){m:Nat}(m':Nat){P:Program}{l:Nat}{args:Array Value}{W:World}{R:Ending->World->Prop}(h:YieldAt F m P l args W R):YieldAt F m' P l args W R:=by
 obtain ⟨fn,tmps,assign,body,hy,hR⟩:=h
 exact ⟨fn,tmps,assign,body,hy,RoundIn.Nt hd hR⟩
theorem F2{g:Gh}{w w':World}(hb:Below w.heap.size w w'):C0 g w g w':=by
 refine ⟨fun _ _ h=>h,fun b o v hc hf=>⟨?_,hf⟩,fun b cur e hh=>⟨cur,?_,rfl⟩,fun _ _ _ h=>h⟩
 ·have Ag:b<w.heap.size:=by
   unfold World.cell? at hc
   cases hh:w.heap[b]? with
   | none=>simp [hh] at hc
   | some x=>exact (Array.getElem?_eq_some_iff.1 hh).1
  rw [<-hc]
  exact World.cell?_of_block (hb.block b Ag)
 ·exact (hb.block b (Array.getElem?_eq_some_iff.1 hh).1).trans hh
theorem Lq{e:Ext}{g:Gh}{l:LG}{w w':World}(he:So e g l w)(hb:Below w.heap.size w w'):So e g l w' where
 ex x cs hx:=by
  obtain ⟨b,h1,h2,hE⟩:=he.ex x cs hx
  refine ⟨b,h1.mono (F2 hb),h2,?_⟩
  have hm:C0 g w g w':=F2 hb
  have hh:=hb.block b (he.Q1 b _ h2)
  rcases hE with ⟨h3,cur,te,h4,h5,h6⟩ | hE
  ·refine .inl ⟨h3,cur,te,hh.trans h4,h5,fun j hj=>⟨(h6 j hj).1,(h6 j hj).2.1,?_⟩⟩
   exact (h6 j hj).2.2.BN hm (fun _ _ _=>rfl) fun b' hu=>⟨hu,rfl,hb.block b' (he.Q1 b' _ (he.uo _ b' hu))⟩
  ·exact .inr (hE.BN hm (fun _ _ _ h=>h) rfl hh)
 Q1 b o ho:=Nat.lt_of_lt_of_le (he.Q1 b o ho) hb.size
 uo:=he.uo
 fresh:=⟨fun b h=>he.fresh.1 b (Nat.le_trans hb.size h),he.fresh.2⟩
 Gg n b h:=Nat.lt_of_lt_of_le (he.Gg n b h) hb.size
 only:=he.only
 JH:=he.JH.mono (F2 hb)
theorem Pj{P:Program}{f:FuncId}{args:List PV}{vs:List Value}{k:Int}{g:Gh}{l:LG}{w:World}(h:(Ob.Qa f args (.ret (.int .i64 k))).ok P)(ha:AG g w args vs)(he:So [] g l w) :
  Calls P f vs.toArray w fun enz w'=>enz = .returned (.int .i64 k)/\Below w.heap.size w w':=by
 refine (h.2 [] vs g ⟨fun _=>none,fun _=>none,fun _=>none⟩ w ha ⟨fun x cs hx=>(by simp [lk] at hx),fun b o ho=>(by cases ho),fun p b hb=>(by cases hb),he.fresh,he.Gg,fun b o ho=>(by cases ho),he.JH⟩).mono ?_
 rintro enz w' ⟨r,e2,g',l',⟨rfl,rfl⟩,At,Rm,P0,Bq,VY,Q2,os,tape,output⟩
 refine ⟨?_,os,tape,output,Bq,fun b hb=>(VY b hb rfl).1⟩
 cases enz <;> first | exact At.elim | skip
 rename_i v
 have h1:BJ g' w' (.int .i64 k) v:=At
 cases h1
 rfl
theorem KC.Nu{w W:World}(h:Below w.heap.size w W):KC w W:=⟨h.size,fun k o hk _=>(h.block k (Array.getElem?_eq_some_iff.1 hk).1).trans hk⟩
theorem Qt(F:Fence)(hd:F.depth=none)(n:Nat)(uA:F.fn 267)(ZS:F.fn 268)(mN:F.round=none)(g:Gh)(W0 w:World)(Bs:Nat)(x:Nd g W0)(Sn:KC W0 w)(hBs:Bs<w.heap.size)
  (h1:w.cell? ⟨Bs,0,none⟩=some (.int .i64 (Ab x.1.1))) (h2:w.cell? ⟨Bs,1,none⟩=some (.string (Aq x.1.1))) (h3:w.cell? ⟨Bs,2,none⟩=some (.int .i64 (Ch x.1.1))) (h4:w.cell? ⟨Bs,3,none⟩=some (.slice x.1.2.1 x.1.2.2.1 x.1.2.2.2)) :
  SeqStopsK F n prog 267 #[.pointer (some ⟨Bs,0,none⟩)] (fun y:Nd g W0=>#[y.enc]) KC (fun ys=>ys.map (·.1.1)=C8 x.1.1) (fun ys=>ys.map (·.1.1) <+: C8 x.1.1) (C8 x.1.1).length w:=fun l J Jx W hW hJ _ hY h0=>
 Tr F hd uA ZS mN g W0 l Bs x n J Jx (fun s W W' hs hg=>hJ s W W' none hs hg (fun r e=>by cases e))
  (fun m pre y W hj hl=>YieldAt.Nt hd m (hY pre y W hj hl)) W (Sn.trans (KC.Nu hW)) ((hW.cell (p:=⟨Bs,0,none⟩) hBs).trans h1) ((hW.cell (p:=⟨Bs,1,none⟩) hBs).trans h2) ((hW.cell (p:=⟨Bs,2,none⟩) hBs).trans h3) ((hW.cell (p:=⟨Bs,3,none⟩) hBs).trans h4) h0
def Ge(p:Pr):Int:=if iR p>400 then 7 else if mS p>40 then 8 else BX Bm (C8 p)
theorem aB{g:Gh}{W0:World}(x:Nd g W0):AG g W0 [.agg (AO x.1.1)] [x.enc]:=by
 refine .cons ?_ .nil
 refine .agg _ [_,_,_,_] rfl (fun v hv=>?_) fun j hj Cu=>?_
 ·simp only [List.mem_cons,List.not_mem_nil,or_false] at hv
  rcases hv with rfl | rfl | rfl | rfl <;> rfl
 ·match j with
  | 0=>exact .int _ _
  | 1=>exact .str _
  | 2=>exact .int _ _
  | 3=>exact x.2
theorem LO{w W:World}(h:Below w.heap.size w W)(o:Obj):Below w.heap.size w (W.alloc o):=h.alloc h.size o
def Fr(p:Pr)(oa:Option Addr)(m c:Nat)(w W:World):Prop:=
 W.cell? ⟨w.heap.size,0,none⟩=some (.int .i64 (Ab p))/\W.cell? ⟨w.heap.size,1,none⟩=some (.string (Aq p))/\W.cell? ⟨w.heap.size,2,none⟩=some (.int .i64 (Ch p))/\W.cell? ⟨w.heap.size,3,none⟩=some (.slice oa m c) /\
 W.cell? ⟨w.heap.size+1,0,none⟩=some (.int .i64 0)/\W.frozen? ⟨w.heap.size+1,0,none⟩=false
theorem w9(p:Pr)(oa:Option Addr)(m c:Nat)(w:World):Fr p oa m c w ((w.alloc (.cells #[.int .i64 (Ab p),.string (Aq p),.int .i64 (Ch p),.slice oa m c] 41)).alloc (.cells #[.int .i64 0] 50)):=by
 have h1:((w.alloc (.cells #[.int .i64 (Ab p),.string (Aq p),.int .i64 (Ch p),.slice oa m c] 41)).alloc (.cells #[.int .i64 0] 50)).heap[w.heap.size]?=some (.cells #[.int .i64 (Ab p),.string (Aq p),.int .i64 (Ch p),.slice oa m c] 41):=
  (Below.heap_alloc _ _ _ sM).trans (World.alloc_heap_new w _)
 have h2:((w.alloc (.cells #[.int .i64 (Ab p),.string (Aq p),.int .i64 (Ch p),.slice oa m c] 41)).alloc (.cells #[.int .i64 0] 50)).heap[w.heap.size+1]?=some (.cells #[.int .i64 0] 50):=by
  have:=World.alloc_heap_new (w.alloc (.cells #[.int .i64 (Ab p),.string (Aq p),.int .i64 (Ch p),.slice oa m c] 41)) (.cells #[.int .i64 0] 50)
  rwa [World.size_alloc] at this
 unfold Fr World.cell? World.frozen?
 rw [h1,h2]
 exact ⟨rfl,rfl,rfl,rfl,rfl,rfl⟩
theorem Fr.kept{p:Pr}{oa:Option Addr}{m c:Nat}{w A B:World}(h:Fr p oa m c w A)(hl:w.heap.size+2<=A.heap.size)(hb:Below A.heap.size A B):Fr p oa m c w B:=by
 have k1:=hb.block w.heap.size oM
 have k2:=hb.block (w.heap.size+1) oM
 unfold Fr World.cell? World.frozen? at h ⊢
 rw [k1,k2]
 exact h
set_option maxHeartbeats 4000000 in
theorem aC(p:Pr)(hs:A6 (AO p)<=100000000)(g:Gh)(l0:LG)(w:World)(oa:Option Addr)(m c:Nat)(hr:BJ g w (.sl 4 (Pr.cs (As p))) (.slice oa m c))(he:So [] g l0 w) :
  Calls prog 173 #[OD p (.slice oa m c)] w fun e w'=>e = .returned (.int .i64 (Ge p))/\Below w.heap.size w w':=by
 refine (callsIn_wide (n:=6)).1 ?_
 obtain ⟨x,hx⟩:∃x:Nd g w,x.1=(p,oa,m,c):=⟨⟨(p,oa,m,c),hr⟩,rfl⟩
 have Aay:AG g w [.agg (AO p)] [OD p (.slice oa m c)]:=by have:=aB x; rw [Nd.enc,hx] at this; exact this
 refine callsIn_of_wp_marks func173 rfl trivial ?_ rfl
 simp only [Tryz.ntmps173,List.size_toArray,List.length_cons,List.length_nil,Nat.reduceAdd,Nat.reduceSub,Array.replicate_succ,Array.replicate_zero,List.push_toArray,List.append_toArray,List.nil_append,List.cons_append]
 have hf1:=w9 p oa m c w
 have hb1:Below w.heap.size w ((w.alloc (.cells #[.int .i64 (Ab p),.string (Aq p),.int .i64 (Ch p),.slice oa m c] 41)).alloc (.cells #[.int .i64 0] 50)):=LO (LO (Below.refl _ _) _) _
 have eP:w.heap.size+2<=((w.alloc (.cells #[.int .i64 (Ab p),.string (Aq p),.int .i64 (Ch p),.slice oa m c] 41)).alloc (.cells #[.int .i64 0] 50)).heap.size:=by simp
 generalize kT:(w.alloc (.cells #[.int .i64 (Ab p),.string (Aq p),.int .i64 (Ch p),.slice oa m c] 41)).alloc (.cells #[.int .i64 0] 50)=w1 at hf1 hb1 eP
 have Bw:∀ (f:FuncId) (k:Int),Pu f [.agg (AO p)] (.ret (.int .i64 k))->∀ (W:World),Fr p oa m c w W->Below w.heap.size w W->w.heap.size+2<=W.heap.size->CallsIn Fence.wide 5 prog f #[OD p (.slice oa m c)] W fun e W'=>e = .returned (.int .i64 k)/\Fr p oa m c w W'/\Below w.heap.size w W'/\w.heap.size+2<=W'.heap.size:=by
  intro f k hk W hF hB hS
  refine callsIn_wide.2 ?_
  refine (Pj hk (Aay.mono (F2 hB)) (Lq he hB)).mono ?_
  rintro e W' ⟨h1,h2⟩
  exact ⟨h1,hF.kept hS h2,hB.trans (h2.mono hB.size),Nat.le_trans hS h2.size⟩
 obtain ⟨c0,c1,c2,c3,r0,rf⟩:=id hf1
 have k98:=Bw 223 _ (pqT p hs) w1 hf1 hb1 eP
 gi_wp2_with (first
  | (refine ⟨trivial,?_⟩; gi_at_call 223; refine k98.mono ?_; clear k98; rintro e W2 ⟨rfl,hf2,SD,fW⟩; clear c0 c1 c2 c3 r0 rf; obtain ⟨c0,c1,c2,c3,r0,rf⟩:=id hf2; have k99:=Bw 224 _ (peT p hs) W2 hf2 SD fW)
  | (refine ⟨trivial,?_⟩; gi_at_call 224; refine k99.mono ?_; clear k99; rintro e W3 ⟨rfl,hf3,hb3,hz3⟩; clear c0 c1 c2 c3 r0 rf; obtain ⟨c0,c1,c2,c3,r0,rf⟩:=id hf3)
  | (refine ⟨trivial,?_⟩; gi_at_call 225; refine (WC Fence.wide 5 trivial rfl p oa m c _).mono ?_; rintro e W4 ⟨rfl,rfl⟩))
 ·have hgt:iR p>400:=by omega
  have wA:=World.cell?_setCell_same' W2 ⟨w.heap.size+1,0,none⟩ (.int .i64 7) (by rw [r0]; rfl)
  refine ⟨.int .i64 7,by simp [results,f173,go_sem,wA],?_,SD.setCell (p:=⟨w.heap.size+1,0,none⟩) sM _⟩
  unfold Ge; rw [iP hgt]
 ·have hgt:¬iR p>400:=by omega
  have wB:mS p>40:=by omega
  have wA:=World.cell?_setCell_same' W3 ⟨w.heap.size+1,0,none⟩ (.int .i64 8) (by rw [r0]; rfl)
  refine ⟨.int .i64 8,by simp [results,f173,go_sem,wA],?_,hb3.setCell (p:=⟨w.heap.size+1,0,none⟩) sM _⟩
  unfold Ge; rw [iN hgt,iP wB]
 ·have hgt:¬iR p>400:=by omega
  have wB:¬mS p>40:=by omega
  have kG:Ge p=BX Bm (C8 p):=by unfold Ge; rw [iN hgt,iN wB]
  have hzW:W3.heap.size<(W3.alloc (.cells #[.int .i64 (Ab p),.string (Aq p),.int .i64 (Ch p),.slice oa m c] 41)).heap.size:=by simp
  have hb4:Below w.heap.size w (W3.alloc (.cells #[.int .i64 (Ab p),.string (Aq p),.int .i64 (Ch p),.slice oa m c] 41)):=hb3.alloc hb3.size _
  have hz4:w.heap.size+2<=(W3.alloc (.cells #[.int .i64 (Ab p),.string (Aq p),.int .i64 (Ch p),.slice oa m c] 41)).heap.size:=by simp; omega
  have wC:(W3.alloc (.cells #[.int .i64 (Ab p),.string (Aq p),.int .i64 (Ch p),.slice oa m c] 41)).heap[W3.heap.size]?=some (.cells #[.int .i64 (Ab p),.string (Aq p),.int .i64 (Ch p),.slice oa m c] 41):=World.alloc_heap_new _ _
  have hf4:Fr p oa m c w (W3.alloc (.cells #[.int .i64 (Ab p),.string (Aq p),.int .i64 (Ch p),.slice oa m c] 41)):=hf3.kept hz3 ((Below.refl _ _).alloc (Nat.le_refl _) _)
  clear Bw c0 c1 c2 c3 r0 rf hf1 hb1 eP kT hf2 SD fW
  generalize hW4:W3.alloc (.cells #[.int .i64 (Ab p),.string (Aq p),.int .i64 (Ch p),.slice oa m c] 41)=W4 at hzW hb4 hz4 wC hf4 ⊢
  generalize hBs:W3.heap.size=Bs at hzW wC ⊢
  have F8:∀j,W4.cell? ⟨Bs,j,none⟩ = #[Value.int .i64 (Ab p),.string (Aq p),.int .i64 (Ch p),.slice oa m c][j]?:=fun j=>by unfold World.cell?; rw [wC]; rfl
  have IF:=Qt Fence.wide rfl 5 trivial trivial rfl g w W4 Bs x (KC.Nu hb4) hzW (by rw [hx]; exact F8 0) (by rw [hx]; exact F8 1) (by rw [hx]; exact F8 2) (by rw [hx]; exact F8 3)
  obtain ⟨_,_,_,_,r0,rf⟩:=hf4
  refine wpIn_rangeFunc_ownH rfl oM (gf:=267) (lb:=#[.pointer (some ⟨Bs,0,none⟩)]) rfl trivial (enters_of func267 kR rfl) IF KC.trans
   (fun W l o o' hl hh ho _=>⟨by simp,fun k o2 hk R9=>(World.putObj_heap_other (fun e=>by subst e; rw [hh] at hk; cases hk; rw [ho] at R9; cases R9)).trans hk⟩) (Below.refl _ _) (fun _=>rfl)
   (fun pre W=>((∀y∈pre,Bm y.1.1=0)/\W.cell? ⟨w.heap.size+1,0,none⟩=some (.int .i64 0)/\W.frozen? ⟨w.heap.size+1,0,none⟩=false)/\Below w.heap.size w W)
   (fun cdz pre W=>(cdz = .ret/\∃ps y,pre=ps++[y]/\(∀z∈ps,Bm z.1.1=0)/\¬Bm y.1.1=0/\W.cell? ⟨w.heap.size+1,0,none⟩=some (.int .i64 (Bm y.1.1)))/\Below w.heap.size w W)
   (OwnFrom.and (Own.from (fun s A B row hs hg hr=>⟨hs.1,cell_kept hs.2.1 hg hr,(frozen_kept hs.2.1 hg hr).trans hs.2.2⟩) _) (ownFrom_below (Nat.le_refl _) oM))
   (fun cdz=>OwnFrom.and (Own.from (fun s A B row hs hg hr=>⟨hs.1,let ⟨ps,y,k1,k2,k3,k4⟩:=hs.2; ⟨ps,y,k1,k2,k3,cell_kept k4 hg hr⟩⟩) _) (ownFrom_below (Nat.le_refl _) oM))
   ⟨⟨fun y hy=>(by cases hy),r0,rf⟩,hb4⟩
   (fun y a' W=>∃Bx,w.heap.size+2<=Bx/\W.heap[Bx]?=some (.cells #[.int .i64 (Ab y.1.1),.string (Aq y.1.1),.int .i64 (Ch y.1.1),.slice y.1.2.1 y.1.2.2.1 y.1.2.2.2] 41) /\
    a'={ tmps:=#[OD p (.slice oa m c),.pointer (some ⟨w.heap.size,0,none⟩),.pointer (some ⟨w.heap.size+1,0,none⟩),.pointer (some ⟨Bx,0,none⟩),undef,OD p (.slice oa m c),.int .i64 (iR p),.bool false,OD p (.slice oa m c),.int .i64 (mS p),.bool false,OD p (.slice oa m c),.func (.func 267) #[] #[.pointer (some ⟨Bs,0,none⟩)],y.enc,undef,undef,undef,undef,undef],defers:=[] })
   (fun y a' s A B row hs hg hr=>by
    obtain ⟨Bx,h1,h2,h3⟩:=hs
    refine ⟨Bx,h1,(hg.block Bx (Array.getElem?_eq_some_iff.1 h2).1 (fun e=>?_)).trans h2,h3⟩
    obtain ⟨_,o,ho,hc⟩:=hr Bx e.symm
    rw [h2] at ho; cases ho; cases hc) ?assign ?body ?done ?stop
  case assign=>
   rintro l pre y W K ⟨⟨hz,q0,qf⟩,hB⟩ hK
   have kU:w.heap.size+1<W.heap.size:=by
    unfold World.cell? at q0
    cases hh:W.heap[w.heap.size+1]? with
    | none=>simp [hh] at q0
    | some o=>exact (Array.getElem?_eq_some_iff.1 hh).1
   simp only [Nd.enc]
   obtain ⟨q,fF,m',c',u9⟩:∃q fF m' c',y.1=(q,fF,m',c'):=⟨_,_,_,_,rfl⟩
   simp only [Nd.enc,u9] at hK ⊢
   gi_wp2
   exact hK _ _ ((KeepsOthers.alloc _ _).from _) ((KC.refl W).alloc _) ⟨⟨hz,cell_kept q0 (World.grownBy_alloc W _ none) (fun r e=>by cases e),(frozen_kept q0 (World.grownBy_alloc W _ none) (fun r e=>by cases e)).trans qf⟩,hB.alloc hB.size _⟩ ⟨W.heap.size,by omega,World.alloc_heap_new _ _,rfl⟩
  case body=>
   rintro l pre y a' W hl ⟨r,Sm⟩ ⟨⟨hz,q0,qf⟩,hB⟩ ⟨Bx,hBx,hbx,rfl⟩ Ag
   have kU:w.heap.size+1<W.heap.size:=by
    unfold World.cell? at q0
    cases hh:W.heap[w.heap.size+1]? with
    | none=>simp [hh] at q0
    | some o=>exact (Array.getElem?_eq_some_iff.1 hh).1
   have Tu:CallsIn (Fence.wide.inRound l) (6 - 1 - 1 - 1) prog 226 #[y.enc] W fun e W'=>e = .returned (.int .i64 (Bm y.1.1))/\Below W.heap.size W W'/\W'.cell? ⟨w.heap.size+1,0,none⟩=some (.int .i64 0)/\W'.frozen? ⟨w.heap.size+1,0,none⟩=false:=by
    refine CallsIn.inRound l (callsIn_wide.2 ((Pj (pnd y.1.1) ((aB y).mono (F2 hB)) (Lq he hB)).mono ?_))
    rintro e W' ⟨h1,h2⟩
    have A3l:=h2.block (w.heap.size+1) kU
    refine ⟨h1,h2,?_,?_⟩
    ·unfold World.cell? at q0 ⊢; rw [A3l]; exact q0
    ·unfold World.frozen? at qf ⊢; rw [A3l]; exact qf
   simp only [Nd.enc] at Tu ⊢
   have hxB:∀j,W.cell? ⟨Bx,j,none⟩ = #[Value.int .i64 (Ab y.1.1),.string (Aq y.1.1),.int .i64 (Ch y.1.1),.slice y.1.2.1 y.1.2.2.1 y.1.2.2.2][j]?:=fun j=>by unfold World.cell?; rw [hbx]; rfl
   have c0:=hxB 0
   have c1:=hxB 1
   have c2:=hxB 2
   have c3:=hxB 3
   clear hxB hbx IF F8
   generalize hpn:Bm y.1.1=k at Tu
   obtain ⟨q,fF,m',c',u9⟩:∃q fF m' c',y.1=(q,fF,m',c'):=⟨_,_,_,_,rfl⟩
   simp only [u9,List.getElem?_toArray,List.getElem?_cons_zero,List.getElem?_cons_succ] at Tu c0 c1 c2 c3 ⊢
   clear u9
   by_cases Sn:k=0
   ·subst Sn
    gi_wp2_with (refine ⟨trivial,?_⟩; gi_at_call 226; refine Tu.mono ?_; clear Tu; rintro e W2 ⟨rfl,mX,p0,pf⟩)
    refine ⟨⟨mX.size,fun k o _ hk _=>(mX.block k (Array.getElem?_eq_some_iff.1 hk).1).trans hk⟩,KC.Nu mX,⟨fun z TS=>?_,p0,pf⟩,hB.trans (mX.mono hB.size)⟩
    rcases List.mem_append.1 TS with h | h
    ·exact hz z h
    ·simp only [List.mem_singleton] at h; subst h; exact hpn
   ·gi_wp2_with (refine ⟨trivial,?_⟩; gi_at_call 226; refine Tu.mono ?_; clear Tu; rintro e W2 ⟨rfl,mX,p0,pf⟩)
    have hw2:=World.cell?_setCell_same' W2 ⟨w.heap.size+1,0,none⟩ (.int .i64 k) (by rw [p0]; rfl)
    exact ⟨(show KeepsFrom W4.heap.size W W2 from ⟨mX.size,fun k o _ hk _=>(mX.block k (Array.getElem?_eq_some_iff.1 hk).1).trans hk⟩).trans ((KeepsOthers.setCell W2 _ _).from _),
     ⟨rfl,pre,y,rfl,hz,by rw [hpn]; exact Sn,by rw [hpn]; exact hw2⟩,(hB.trans (mX.mono hB.size)).setCell (p:=⟨w.heap.size+1,0,none⟩) sM _⟩
  case done=>
   rintro D ys W hD hS ⟨⟨hz,q0,qf⟩,hB⟩ hK
   gi_wp2
   have hK':=(KeepsOthers.setCell W ⟨w.heap.size+1,0,none⟩ (.int .i64 0)).same D _ hK rfl
   refine ⟨by simp,.inl ⟨_,_,rfl,run_takeDeferred hK',?_⟩⟩
   have wA:=cell_kept (World.cell?_setCell_same' W ⟨w.heap.size+1,0,none⟩ (.int .i64 0) (by rw [q0]; rfl)) (grownBy_putObj' _ D (.deferred none)) (fun r e=>by cases e; exact ⟨_,hK',rfl⟩)
   refine ⟨.int .i64 0,by simp [results,f173,go_sem,wA],?_,?_⟩
   ·have:∀zs:List (Nd g w),(∀z∈zs,Bm z.1.1=0)->BX Bm (zs.map (·.1.1))=0:=fun zs=>by
     induction zs with
     | nil=>intro _; rfl
     | cons a r ih=>intro h; simp only [List.map_cons,BX]; rw [iP (h a sM)]; exact ih fun z hz=>h z (List.mem_cons_of_mem _ hz)
    have h1:=this ys hz
    rw [hS,hx] at h1
    rw [h1]
   ·exact (hB.setCell (p:=⟨w.heap.size+1,0,none⟩) sM _).trans (belowK_b (w:=w) (Nat.le_refl _) _ D _ _ oM hK' rfl rfl)
  case stop=>
   rintro D cdz pre W hD hS ⟨⟨rfl,ps,y,rfl,hz,D4,q0⟩,hB⟩ hK
   gi_wp2
   refine ⟨by simp,.inl ⟨_,_,rfl,run_takeDeferred hK,?_⟩⟩
   have wA:=cell_kept q0 (grownBy_putObj' _ D (.deferred none)) (fun r e=>by cases e; exact ⟨_,hK,rfl⟩)
   refine ⟨.int .i64 (Bm y.1.1),by simp [results,f173,go_sem,wA],?_,hB.trans (belowK_b (w:=w) (Nat.le_refl _) _ D _ _ oM hK rfl rfl)⟩
   have:∀ (zs:List (Nd g w)) (rest:List Pr),(∀z∈zs,Bm z.1.1=0)->BX Bm ((zs++[y]).map (·.1.1)++rest)=Bm y.1.1:=fun zs rest=>by
    induction zs with
    | nil=>intro _; simp only [List.nil_append,List.map_cons,List.map_nil,List.cons_append,BX]; rw [iN D4]
    | cons a r ih=>intro h; simp only [List.cons_append,List.map_cons,BX]; rw [iP (h a sM)]; exact ih fun z hz=>h z (List.mem_cons_of_mem _ hz)
   obtain ⟨rest,A3m⟩:=hS
   have h1:=this ps rest hz
   rw [A3m,hx] at h1
   rw [h1]
mutual
theorem aD:∀p:Pr,Ec (AO p)=true
 | .mk o s n ks=>by simp only [As,Ec,PV.HT,aE ks,Bool.and_self]
theorem aE:∀l:List Pr,EN (Pr.cs l)=true
 | []=>rfl
 | x::r=>by rw [show Pr.cs (x::r)=AO x::Pr.cs r by simp [Pr.AD],EN,aE r,aD x]; rfl
end
theorem pcT(p:Pr)(hs:A6 (AO p)<=100000000):Pu 173 [.agg (AO p)] (.ret (.int .i64 (Ge p))):=by
 refine Ob.De (e':=[]) (by have h1:=aD p; simp only [Ec,PV.HT,Bool.and_true,Bool.true_and] at h1 ⊢; exact h1) rfl ⟨by kernel_rfl,fun vs g l w ha he=>?_⟩
 obtain ⟨v,fK,rfl,hr,ha'⟩:=ha.H9
 obtain rfl:=ha'.Px
 obtain ⟨oa,m,c,hk,rfl⟩:∃oa m c,BJ g w (.sl 4 (Pr.cs (As p))) (.slice oa m c)/\v=OD p (.slice oa m c):=by
  generalize he:AO p=cs at hr
  cases hr with
  | agg _ vs h1 ho h=>
   subst he
   match vs,h1,h with
   | [v0,v1,v2,v3],_,h=>
    have r0:BJ g w (.int .i64 (Ab p)) v0:=h 0 sM sM
    have r1:BJ g w (.str (Aq p)) v1:=h 1 sM sM
    have r2:BJ g w (.int .i64 (Ch p)) v2:=h 2 sM sM
    have r3:BJ g w (.sl 4 (Pr.cs (As p))) v3:=h 3 sM sM
    obtain ⟨oa,m,c,rfl⟩:=ZP r3
    cases r0; cases r1; cases r2
    exact ⟨oa,m,c,r3,rfl⟩
 refine (aC p hs g l w oa m c hk he).mono ?_
 rintro enz w' ⟨rfl,Tv⟩
 exact ⟨_,[],g,l,⟨rfl,rfl⟩,.int _ _,Lq he Tv,F2 Tv,Tv.size,fun b hb _=>⟨Tv.block b hb,rfl⟩,fun b o ho => .inr (by rw [ho]; rfl),Tv.os,Tv.tape,Tv.output⟩
open Go.Pv Go.Proofs.Tryz
set_option maxRecDepth 100000
theorem kk1{n c:Int}:(if n<c then true else decide (n>c)) = !(n==c):=by
 by_cases h:n<c
 ·rw [iP h,show (n==c)=false from by rw [beq_eq_false_iff_ne]; omega]; rfl
 ·rw [iN h]
  by_cases h2:n=c
  ·subst h2; simp
  ·rw [decide_eq_true (by omega:n>c),show (n==c)=false from by rw [beq_eq_false_iff_ne]; exact h2]; rfl
theorem kk2{n a b:Int}:(if n<a then true else decide (n>b)) = !(if n>=a then decide (n<=b) else false):=by
 by_cases h:n<a
 ·rw [iP h,iN oM]; rfl
 ·rw [iN h,iP oM]
  by_cases h2:n<=b
  ·rw [decide_eq_true h2,decide_eq_false oM]; rfl
  ·rw [decide_eq_false h2,decide_eq_true oM]; rfl
theorem kk(o n:Int):(if n<A9 o then true else decide (n>Aa o)) = !CB o n:=by
 unfold A9 Aa CB
 by_cases h1:o=1
 ·simp only [h1,if_true]; exact kk1
 ·by_cases h2:o=2
  ·simp only [h1,h2,if_true,if_false]; exact kk1
  ·by_cases h3:o=3
   ·simp only [h1,h2,h3,if_true,if_false]; exact kk1
   ·by_cases h4:o=4
    ·simp only [h1,h2,h3,h4,if_true,if_false]; exact kk2
    ·by_cases h5:o=5
     ·simp only [h1,h2,h3,h4,h5,if_true,if_false]; exact kk2
     ·by_cases h9:o=9
      ·simp only [h1,h2,h3,h4,h5,h9,if_true,if_false]; exact kk1
      ·by_cases h14:o=14
       ·simp only [h1,h2,h3,h4,h5,h9,h14,if_true,if_false]; exact kk1
       ·simp only [h1,h2,h3,h4,h5,h9,h14,if_false]; exact kk1
theorem Aaz(u:Pr)(h:C9 u=false):AT u (A9 (Ab u)) (Aa (Ab u))=Bk u (B4 u):=by
 unfold C9 at h
 by_cases h0:Ab u<1
 ·rw [iP h0] at h; cases h
 ·rw [iN h0] at h
  have h1:¬Ab u>18:=of_decide_eq_false h
  unfold AT Bk B4
  rw [kk,iN h0,iN h1,show Fy (Ab u)=Cc (Ab u) from rfl]
  generalize (!CB (Ab u) ((As u).length:Int))=K
  by_cases hn:Ch u=0 <;> by_cases Xt:Ab u=1 <;> by_cases eR:Ab u=2 <;> by_cases hm:Aq u=ByteArray.mk #[] <;> cases hp:Cc (Ab u) <;> simp_all [Cc]
theorem Ab0(u:Pr)(a b:Int)(x:Bool):BV u a b=Cw u x:=by
 unfold BV Cw
 by_cases h1:Ab u=1
 ·rw [iP h1,iP h1]; rfl
 ·rw [iN h1,iN h1]
  by_cases h2:Ab u=2
  ·rw [iP h2,iP h2]
   by_cases h3:Ch u=0
   ·rw [iP h3,iN oM,decide_eq_false oM]
   ·rw [iN h3]
    by_cases h4:Ch u<0
    ·rw [iP h4,bne_iff_ne.2 oM]
    ·rw [iN h4]
     by_cases h5:Ch u=1
     ·rw [h5]; rfl
     ·rw [decide_eq_true oM,bne_iff_ne.2 h5]
  ·rw [iN h2,iN h2]
theorem Ab1(u:Pr)(a b:Int):(BI u a b=true/\CA u a b (B1 u a b) (Bu u a b (B1 u a b))=true)↔Dv u=false:=by
 unfold BI CA B1 Bu Dv Cc
 by_cases h3:Ab u=3
 ·have h4:¬Ab u=4:=by omega
  simp only [h3,if_true]
  by_cases hv:Aq u=ByteArray.mk #[118]
  ·simp only [BL hv,hv,if_true]; simp
  ·simp only [BZ hv,hv,if_false]; cases hc:CH (Aq u) <;> simp [Ck]
 ·by_cases h4:Ab u=4
  ·simp only [h4,if_true]
   by_cases ht:Aq u=ByteArray.mk #[116,97,103]
   ·simp only [ht,if_true]; simp
   ·by_cases hv:Aq u=ByteArray.mk #[118,97,108]
    ·simp only [BL hv,ht,hv,if_true,if_false]; simp
    ·simp only [BZ hv,ht,hv,if_false]; cases hc:CH (Aq u) <;> simp [Ck]
  ·by_cases h5:Ab u=5
   ·simp only [h5,if_true]; cases hc:CH (Aq u) <;> simp [Ck]
   ·simp [h3,h4,h5]
theorem A3n{u:Pr}(h:¬Bk u (B4 u)=true):Ab u=8->0<(As u).length:=fun h8=>by
 rcases Nat.eq_zero_or_pos (As u).length with h0 | h0
 ·exfalso; apply h
  simp only [Bk,B4,Fy,CB,h8,h0]
  by_cases hm:Aq u=ByteArray.mk #[] <;> by_cases hn:Ch u=0 <;> simp [hm,hn]
 ·exact h0
theorem aG{u:Pr}(h:Bk u (B4 u)=false):Ab u=8->0<(As u).length:=A3n (by rw [h]; decide)
def mdR:Md:=⟨fun _=>some false,fun t=>t==1000001||t==1000002||t==1000004||t==1000008⟩
section
variable (u:Pr) (Ac:Bk u (B4 u)=false) (Ae:Cw u (B4 u)=false) (Ao:Dv u=true)
include u Ac Ae Ao
theorem A3o(AK:EE u (B4 u)=true):Pu 187 [.agg (AO u)] (rI 6):=
 pu mdR (fun e=>[lf (S.mk [(0,.v (.agg (AO u))),(1,.lp 1 0),(2,A1 0)] [(1,BK u)] e) (@S7 (u) (e)) ⟨⟨W,W,An⟩,⟨⟨W,W,W,W,An⟩,An⟩,rfl⟩,lf (S.mk [(1,.lp 1 0),(2,A1 0),(3,.v (.bool (B4 u)))] [(1,BK u)] e) (@S8 (u) (B4 u) (e)) ⟨⟨W,W,W,An⟩,⟨⟨W,W,W,W,An⟩,An⟩,rfl⟩,AQ Ac,lf (S.mk [(1,.lp 1 0),(2,A1 0),(3,.v (.bool (B4 u))),(48,.v (.bool (Bk u (B4 u))))] [(1,BK u)] e) (@UP (u) (B4 u) (e)) ⟨⟨W,W,W,An⟩,⟨⟨W,W,W,W,An⟩,An⟩,rfl⟩,AQ Ae,cl (@rca (u)),AQ (AJ Ao),lf (S.mk [(1,.lp 1 0),(2,A1 0),(3,.v (.bool (B4 u))),(72,.v (.bool (Cw u (B4 u)))),(73,.v (.agg (AO u))),(74,.v (.bool (Dv u))),(75,.v (.bool !Dv u))] [(1,BK u)] e) (@mT (u) (B4 u) (by (apply aG <;> first | assumption | omega | decide)) (e)) ⟨⟨W,W,W,An⟩,⟨⟨W,W,W,W,An⟩,An⟩,rfl⟩,B2 AK]) func187
theorem A3p(AK:EE u (B4 u)=false):Pu 187 [.agg (AO u)] (rI 0):=
 pu mdR (fun e=>[lf (S.mk [(0,.v (.agg (AO u))),(1,.lp 1 0),(2,A1 0)] [(1,BK u)] e) (@S7 (u) (e)) ⟨⟨W,W,An⟩,⟨⟨W,W,W,W,An⟩,An⟩,rfl⟩,lf (S.mk [(1,.lp 1 0),(2,A1 0),(3,.v (.bool (B4 u)))] [(1,BK u)] e) (@S8 (u) (B4 u) (e)) ⟨⟨W,W,W,An⟩,⟨⟨W,W,W,W,An⟩,An⟩,rfl⟩,AQ Ac,lf (S.mk [(1,.lp 1 0),(2,A1 0),(3,.v (.bool (B4 u))),(48,.v (.bool (Bk u (B4 u))))] [(1,BK u)] e) (@UP (u) (B4 u) (e)) ⟨⟨W,W,W,An⟩,⟨⟨W,W,W,W,An⟩,An⟩,rfl⟩,AQ Ae,cl (@rca (u)),AQ (AJ Ao),lf (S.mk [(1,.lp 1 0),(2,A1 0),(3,.v (.bool (B4 u))),(72,.v (.bool (Cw u (B4 u)))),(73,.v (.agg (AO u))),(74,.v (.bool (Dv u))),(75,.v (.bool !Dv u))] [(1,BK u)] e) (@mT (u) (B4 u) (by (apply aG <;> first | assumption | omega | decide)) (e)) ⟨⟨W,W,W,An⟩,⟨⟨W,W,W,W,An⟩,An⟩,rfl⟩,AQ AK]) func187
end
def J0(u:Pr):Int:=(if Bk u (B4 u)=true then 1 else (if Cw u (B4 u)=true then 2 else (if Dv u=false then 3 else (if EE u (B4 u)=true then 6 else 0))))
theorem rnd(u:Pr):Pu 187 [.agg (AO u)] (rI (J0 u)):=by
 by_cases h0:Bk u (B4 u)=true
 ·simp only [J0,iP h0]; exact pu mdR (fun e=>[lf (S.mk [(0,.v (.agg (AO u))),(1,.lp 1 0),(2,A1 0)] [(1,BK u)] e) (@S7 (u) (e)) ⟨⟨W,W,An⟩,⟨⟨W,W,W,W,An⟩,An⟩,rfl⟩,lf (S.mk [(1,.lp 1 0),(2,A1 0),(3,.v (.bool (B4 u)))] [(1,BK u)] e) (@S8 (u) (B4 u) (e)) ⟨⟨W,W,W,An⟩,⟨⟨W,W,W,W,An⟩,An⟩,rfl⟩,B2 h0]) func187
 ·by_cases h1:Cw u (B4 u)=true
  ·simp only [J0,iN h0,iP h1]; exact pu mdR (fun e=>[lf (S.mk [(0,.v (.agg (AO u))),(1,.lp 1 0),(2,A1 0)] [(1,BK u)] e) (@S7 (u) (e)) ⟨⟨W,W,An⟩,⟨⟨W,W,W,W,An⟩,An⟩,rfl⟩,lf (S.mk [(1,.lp 1 0),(2,A1 0),(3,.v (.bool (B4 u)))] [(1,BK u)] e) (@S8 (u) (B4 u) (e)) ⟨⟨W,W,W,An⟩,⟨⟨W,W,W,W,An⟩,An⟩,rfl⟩,AQ (DQ h0),lf (S.mk [(1,.lp 1 0),(2,A1 0),(3,.v (.bool (B4 u))),(48,.v (.bool (Bk u (B4 u))))] [(1,BK u)] e) (@UP (u) (B4 u) (e)) ⟨⟨W,W,W,An⟩,⟨⟨W,W,W,W,An⟩,An⟩,rfl⟩,B2 h1]) func187
  ·by_cases h2:Dv u=false
   ·simp only [J0,iN h0,iN h1,iP h2]; exact pu mdR (fun e=>[lf (S.mk [(0,.v (.agg (AO u))),(1,.lp 1 0),(2,A1 0)] [(1,BK u)] e) (@S7 (u) (e)) ⟨⟨W,W,An⟩,⟨⟨W,W,W,W,An⟩,An⟩,rfl⟩,lf (S.mk [(1,.lp 1 0),(2,A1 0),(3,.v (.bool (B4 u)))] [(1,BK u)] e) (@S8 (u) (B4 u) (e)) ⟨⟨W,W,W,An⟩,⟨⟨W,W,W,W,An⟩,An⟩,rfl⟩,AQ (DQ h0),lf (S.mk [(1,.lp 1 0),(2,A1 0),(3,.v (.bool (B4 u))),(48,.v (.bool (Bk u (B4 u))))] [(1,BK u)] e) (@UP (u) (B4 u) (e)) ⟨⟨W,W,W,An⟩,⟨⟨W,W,W,W,An⟩,An⟩,rfl⟩,AQ (DQ h1),cl (@rca (u)),B2 (B6 h2)]) func187
   ·by_cases h3:EE u (B4 u)=true
    ·simp only [J0,iN h0,iN h1,iN h2,iP h3]; exact A3o u (DQ h0) (DQ h1) (Jq h2) h3
    ·simp only [J0,iN h0,iN h1,iN h2,iN h3]; exact A3p u (DQ h0) (DQ h1) (Jq h2) (DQ h3)
theorem Ab2(u:Pr)(h:C9 u=true):Bk u (B4 u)=true:=by
 unfold C9 at h
 unfold Bk
 by_cases h0:Ab u<1
 ·rw [iP h0]
 ·rw [iN h0] at h ⊢; rw [iP (of_decide_eq_true h)]
theorem A3q(u:Pr):J0 u=Bm u:=by
 unfold J0 Bm
 cases h1:C9 u with
 | true=>rw [iP (Ab2 u h1),iP rfl]
 | false=>
  rw [<-Aaz u h1]
  simp only [Bool.false_eq_true,if_false]
  cases h4:AT u (A9 (Ab u)) (Aa (Ab u)) with
  | true=>rfl
  | false=>
   simp only [Bool.false_eq_true,if_false]
   rw [<-Ab0 u (A9 (Ab u)) (Aa (Ab u)) (B4 u)]
   cases h6:BV u (A9 (Ab u)) (Aa (Ab u)) with
   | true=>rfl
   | false=>
    simp only [Bool.false_eq_true,if_false]
    have hc:=Ab1 u (A9 (Ab u)) (Aa (Ab u))
    cases h8:BI u (A9 (Ab u)) (Aa (Ab u)) with
    | false=>
     have:¬Dv u=false:=fun hh=>by have:=(hc.2 hh).1; rw [h8] at this; cases this
     rw [iN this]; rfl
    | true=>
     simp only [if_true]
     by_cases hr:Dv u=false
     ·rw [iP hr,iP (hc.2 hr).2]
     ·rw [iN hr,iN (fun hh=>hr (hc.1 ⟨h8,hh⟩))]; rfl
theorem wD(u:Pr):Pu 187 [.agg (AO u)] (.ret (.int .i64 (Bm u))):=by rw [<-A3q]; exact rnd u
abbrev mY(u:Pr)(C7:Pr->Int)(j:Int)(n:Int)(e:Ext):S:=S.mk [(2,A1 0),(3,A1 n),(7,vL 4 (Pr.cs (As u))),(8,A1 ((As u).length:Int)),(9,A1 j)] [] e
def KG(C7:Pr->Int):List Pr->(Int)->(Int)
 | [],n=>(n)
 | el::r,n=>KG C7 r (IntKind.wrap .i64 (n+C7 el))
def aH(u:Pr)(C7:Pr->Int)(e:Ext)(p:(Int)):A5 × S:=(.exit 0,S.mk [(2,A1 0),(3,A1 p),(7,vL 4 (Pr.cs (As u))),(8,A1 ((As u).length:Int))] [] e)
theorem rNo(u:Pr)(C7:Pr->Int)(Bg:∀w:Pr,w∈As u->Pu 142 [.agg (AO w)] (.ret (.int .i64 (C7 w))))(n:Int)(e:Ext)(hN:(As u).length<=1000000000)  : (Ob.loop 19 (Ai f142 0) (mY u C7 0 n e) (aH u C7 e (KG C7 ((As u))  n)).1 (aH u C7 e (KG C7 ((As u))  n)).2).ok prog:=by
 refine Ds ((As u).length) (fun j n=>mY u C7 j n e) (fun i n=>KG C7 (List.drop i ((As u)))  n) (aH u C7 e) (fun i n=>True) kR ?_ n trivial
 rintro i n hi -
 rcases Nat.lt_or_ge i ((As u).length) with Ag | CO
 ·have hd:=AH Ag
  exact lN Ad [dt ((i:Int)<((As u).length:Int)),am ((0:Int)<=(i:Int)/\(i:Int)<((Pr.cs (As u)).length:Int)) (by (simp only [Pr.A0]; omega)),Wu (As u) i Ag,cl (@Bg (List.getD (As u) i default) (by simp_all)),kp,wr ((i:Int)+1)] Ag (IntKind.wrap .i64 (n+C7 (List.getD (As u) i default))) trivial (by rw [hd,KG])
 ·have he:i=(As u).length:=by omega
  exact lX Ad [df ((i:Int)<((As u).length:Int))] (n) (by rw [he,List.drop_length,KG])
theorem Ab3(u:Pr)(C7:Pr->Int)(Bg:∀w:Pr,w∈As u->Pu 142 [.agg (AO w)] (.ret (.int .i64 (C7 w))))(hN:(As u).length<=1000000000):Pu 142 [.agg (AO u)] (rI (KG C7 (As u) 1)):=
 pu Ad (fun e=>[sl (Pr.A0 (As u)),lp (S.mk [(0,.v (.agg (AO u))),(1,.lp 1 0),(2,A1 0),(3,A1 1),(6,.lp 1 3),(7,vL 4 (Pr.cs (As u))),(8,A1 ((As u).length:Int)),(9,A1 0)] [(1,BK u)] e) (@rNo (u) (C7) Bg (1) (e) hN) xr]) func142
abbrev mZ(u:Pr)(C7:Pr->Int)(j:Int)(n:Int)(e:Ext):S:=S.mk [(2,A1 0),(3,A1 n),(7,vL 4 (Pr.cs (As u))),(8,A1 ((As u).length:Int)),(9,A1 j)] [] e
def KH(C7:Pr->Int):List Pr->(Int)->(Int)
 | [],n=>(n)
 | el::r,n=>KH C7 r (VW true n (C7 el))
def aJ(u:Pr)(C7:Pr->Int)(e:Ext)(p:(Int)):A5 × S:=(.exit 0,S.mk [(2,A1 0),(3,A1 p),(7,vL 4 (Pr.cs (As u))),(8,A1 ((As u).length:Int))] [] e)
theorem rDe(u:Pr)(C7:Pr->Int)(Bg:∀w:Pr,w∈As u->Pu 143 [.agg (AO w)] (.ret (.int .i64 (C7 w))))(n:Int)(e:Ext)(hN:(As u).length<=1000000000)  : (Ob.loop 20 (Ai f143 0) (mZ u C7 0 n e) (aJ u C7 e (KH C7 ((As u))  n)).1 (aJ u C7 e (KH C7 ((As u))  n)).2).ok prog:=by
 refine Ds ((As u).length) (fun j n=>mZ u C7 j n e) (fun i n=>KH C7 (List.drop i ((As u)))  n) (aJ u C7 e) (fun i n=>True) kR ?_ n trivial
 rintro i n hi -
 rcases Nat.lt_or_ge i ((As u).length) with Ag | CO
 ·have hd:=AH Ag
  exact lN Ad [dt ((i:Int)<((As u).length:Int)),am ((0:Int)<=(i:Int)/\(i:Int)<((Pr.cs (As u)).length:Int)) (by (simp only [Pr.A0]; omega)),Wu (As u) i Ag,cl (@Bg (List.getD (As u) i default) (by simp_all)),wr ((i:Int)+1)] Ag (VW true n (C7 (List.getD (As u) i default))) trivial (by rw [hd,KH])
 ·have he:i=(As u).length:=by omega
  exact lX Ad [df ((i:Int)<((As u).length:Int))] (n) (by rw [he,List.drop_length,KH])
theorem Ab4(u:Pr)(C7:Pr->Int)(Bg:∀w:Pr,w∈As u->Pu 143 [.agg (AO w)] (.ret (.int .i64 (C7 w))))(hN:(As u).length<=1000000000):Pu 143 [.agg (AO u)] (rI (IntKind.wrap .i64 (KH C7 (As u) 0+1))):=
 pu Ad (fun e=>[sl (Pr.A0 (As u)),lp (S.mk [(0,.v (.agg (AO u))),(1,.lp 1 0),(2,A1 0),(3,A1 0),(6,.lp 1 3),(7,vL 4 (Pr.cs (As u))),(8,A1 ((As u).length:Int)),(9,A1 0)] [(1,BK u)] e) (@rDe (u) (C7) Bg (0) (e) hN) xr,kp]) func143
abbrev UQ(p:Pr)(xe:Ext)(ff:Pr->Int)(j:Int)   : S:=S.mk [(2,A1 0),(13,vL 4 (Pr.cs (As p))),(14,A1 ((As p).length:Int)),(15,A1 j)] [] xe
inductive Gz where
 | e0 (el:Pr)
 | e1
def G0(ff:Pr->Int):List Pr->Gz
 | []=>(Gz.e1)
 | el::r=>(if ff el=0 then G0 ff r  else (Gz.e0 el))
def Nw(p:Pr)(xe:Ext)(ff:Pr->Int)  : Gz->A5 × S
 | .e0 el=>(.ret,S.mk [(2,A1 (ff el)),(13,vL 4 (Pr.cs (As p))),(14,A1 ((As p).length:Int))] [] xe)
 | .e1=>(.exit 0,S.mk [(2,A1 0),(13,vL 4 (Pr.cs (As p))),(14,A1 ((As p).length:Int))] [] xe)
theorem aK(p:Pr)(xe:Ext)(ff:Pr->Int)(Bg:∀w:Pr,w∈As p->Pu 144 [.agg (AO w)] (.ret (.int .i64 (ff w))))(hN:(As p).length<=1000000000):(Ob.loop 25 (Ai f144 0) (UQ p xe ff 0) (Nw p xe ff  (G0 ff (List.drop 0 ((As p))))).1 (Nw p xe ff  (G0 ff (List.drop 0 ((As p))))).2).ok prog:=by
 refine Ds ((As p).length) (fun j _=>UQ p xe ff j) (fun i _=>G0 ff (List.drop i ((As p)))) (Nw p xe ff) (fun i _=>True) kR ?_ () trivial
 rintro i u hi -
 rcases Nat.lt_or_ge i ((As p).length) with Ag | CO
 ·have hd:=AH Ag
  by_cases h0:ff (List.getD (As p) i default)=0
  ·exact lN Ad [dt ((i:Int)<((As p).length:Int)),am ((0:Int)<=(i:Int)/\(i:Int)<((Pr.cs (As p)).length:Int)) (by (simp only [Pr.A0]; omega)),Wu (As p) i Ag,cl (@Bg (List.getD (As p) i default) (by simp_all)),Bi h0,wr ((i:Int)+1)] Ag () trivial (by rw [hd,G0,iP h0])
  ·exact lX Ad [dt ((i:Int)<((As p).length:Int)),am ((0:Int)<=(i:Int)/\(i:Int)<((Pr.cs (As p)).length:Int)) (by (simp only [Pr.A0]; omega)),Wu (As p) i Ag,cl (@Bg (List.getD (As p) i default) (by simp_all)),Bv h0] (Gz.e0 (List.getD ((As p)) i default)) (by rw [hd,G0,iN h0])
 ·have he:i=(As p).length:=by omega
  exact lX Ad [df ((i:Int)<((As p).length:Int))] (Gz.e1) (by rw [he,List.drop_length,G0])
theorem A3r(p:Pr)(xe:Ext)(ff:Pr->Int)(Bg:∀w:Pr,w∈As p->Pu 144 [.agg (AO w)] (.ret (.int .i64 (ff w))))(hN:(As p).length<=1000000000)(p0:Pr)(At:(G0 ff ((As p)))=(Gz.e0 p0)):(Ob.loop 25 (Ai f144 0) (UQ p xe ff 0) (Nw p xe ff  (Gz.e0 p0)).1 (Nw p xe ff  (Gz.e0 p0)).2).ok prog:=
 rz (aK p xe ff Bg hN) At
theorem A3s(p:Pr)(xe:Ext)(ff:Pr->Int)(Bg:∀w:Pr,w∈As p->Pu 144 [.agg (AO w)] (.ret (.int .i64 (ff w))))(hN:(As p).length<=1000000000)(At:(G0 ff ((As p)))=(Gz.e1)):(Ob.loop 25 (Ai f144 0) (UQ p xe ff 0) (Nw p xe ff  (Gz.e1)).1 (Nw p xe ff  (Gz.e1)).2).ok prog:=
 rz (aK p xe ff Bg hN) At
theorem A3t(u:Pr)(Ac:¬Ab u=0):Pu 56 [.agg (AO u),.agg [pI 0,.str Ah,pI 0,.A4]] (rB false):=
 pm Ad [rp 6 (Bv Ac),rp 15 (bt true)] func56
section
variable (u:Pr) (Ac:Ab u=0)
include u Ac
theorem A3u(Ae:¬Aq u=Ah):Pu 56 [.agg (AO u),.agg [pI 0,.str Ah,pI 0,.A4]] (rB false):=
 pm Ad [rp 6 (Bi Ac),rp 6 (bt (!ByteArray.toList (Aq u)==ByteArray.toList Ah) (B6 (BZ Ae))),rp 9 (bt true)] func56
theorem A3v(Ae:Aq u=Ah)(Ao:¬Ch u=0):Pu 56 [.agg (AO u),.agg [pI 0,.str Ah,pI 0,.A4]] (rB false):=
 pm Ad [rp 6 (Bi Ac),rp 6 (bf (!ByteArray.toList (Aq u)==ByteArray.toList Ah) (AJ (BL Ae))),rp 8 (Bv Ao),bt true] func56
theorem A3w(Ae:Aq u=Ah)(Ao:Ch u=0)(AK:¬((As u).length:Int)=(0:Int)):Pu 56 [.agg (AO u),.agg [pI 0,.str Ah,pI 0,.A4]] (rB false):=
 pm Ad [rp 6 (Bi Ac),rp 6 (bf (!ByteArray.toList (Aq u)==ByteArray.toList Ah) (AJ (BL Ae))),rp 3 (Bi Ao),sl (Pr.A0 (As u)),rp 3 (Bi Ao),kp,rp 2 (Bi Ao),Bv AK] func56
theorem A3x(Ae:Aq u=Ah)(Ao:Ch u=0)(AK:((As u).length:Int)=(0:Int)):Pu 56 [.agg (AO u),.agg [pI 0,.str Ah,pI 0,.A4]] (rB true):=
 pm Ad [rp 6 (Bi Ac),rp 6 (bf (!ByteArray.toList (Aq u)==ByteArray.toList Ah) (AJ (BL Ae))),rp 3 (Bi Ao),sl (Pr.A0 (As u)),rp 3 (Bi Ao),kp,rp 2 (Bi Ao),Bi AK,sl (Pr.A0 (As u)),ur,df (0<((As u).length:Int))] func56
end
theorem n7(C7:Pr->Int):∀ (l:List Pr) (n:Int),KG C7 l n=Jw C7 l n
 | [],_=>rfl
 | x::r,n=>by rw [KG,Jw,n7 C7 r]
theorem n8(C7:Pr->Int):∀ (l:List Pr) (n:Int),KH C7 l n=Jy C7 l n
 | [],_=>rfl
 | x::r,n=>by rw [KH,Jy,n8 C7 r]
theorem aL:∀ (d:Nat) (u:Pr),A6 (AO u)<d->d<=100000001->Pu 142 [.agg (AO u)] (.ret (.int .i64 (pqD d u)))
 | 0,_,h,_=>by omega
 | d+1,u,h,hs=>by
  have:=Ab3 u (pqD d) (fun w hw=>aL d w (by have:=FL u; have:=Pr.mem hw; omega) oM) (by have:=FL u; have:=Pr.BT (As u); omega)
  rw [n7] at this
  exact this
theorem aM:∀ (d:Nat) (u:Pr),A6 (AO u)<d->d<=100000001->Pu 143 [.agg (AO u)] (.ret (.int .i64 (peD d u)))
 | 0,_,h,_=>by omega
 | d+1,u,h,hs=>by
  have:=Ab4 u (peD d) (fun w hw=>aM d w (by have:=FL u; have:=Pr.mem hw; omega) oM) (by have:=FL u; have:=Pr.BT (As u); omega)
  rw [n8] at this
  exact this
theorem wE(u:Pr)(hs:A6 (AO u)<=100000000):Pu 142 [.agg (AO u)] (.ret (.int .i64 (iR u))):=aL _ u oM oM
theorem A3y(u:Pr)(hs:A6 (AO u)<=100000000):Pu 143 [.agg (AO u)] (.ret (.int .i64 (mS u))):=aM _ u oM oM
theorem aN(ff:Pr->Int):∀l:List Pr,(BX ff l=0->G0 ff l = .e1)/\(¬BX ff l=0->∃w,G0 ff l = .e0 w/\ff w=BX ff l)
 | []=>⟨fun _=>rfl,fun h=>absurd rfl h⟩
 | c::r=>by
  have ih:=aN ff r
  by_cases hp:ff c=0
  ·simp only [BX,G0,hp,if_true]; exact ih
  ·simp only [BX,G0,hp,if_false]
   exact ⟨fun h=>h.elim,fun _=>⟨c,rfl,rfl⟩⟩
section
variable (p:Pr) (ff:Pr->Int) (Bg:∀w:Pr,w∈As p->Pu 144 [.agg (AO w)] (.ret (.int .i64 (ff w)))) (hN:(As p).length<=1000000000)
include p ff Bg hN
theorem A3z(Ac:¬Bm p=0):Pu 144 [.agg (AO p)] (rI (Bm p)):=
 pm Ad [cl (@wD (p)),Bv Ac] func144
theorem A40(Ac:Bm p=0)(Ii:Pr)(Ao:G0 ff (As p)=Gz.e0 Ii):Pu 144 [.agg (AO p)] (rI (ff Ii)):=
 pu Ad (fun e=>[cl (@wD (p)),Bi Ac,sl (Pr.A0 (As p)),lp (S.mk [(0,.v (.agg (AO p))),(1,.lp 1 0),(2,A1 0),(7,.v (.agg (AO p))),(8,A1 (Bm p)),(3,A1 (Bm p)),(9,A1 (Bm p)),(10,.v (.bool (Bm p != 0))),(12,.lp 1 3),(13,vL 4 (Pr.cs (As p))),(14,A1 ((As p).length:Int)),(15,A1 0)] [(1,BK p)] e) (@A3r (p) (e) (ff) Bg hN Ii Ao) xr]) func144
theorem A41(Ac:Bm p=0)(Ae:G0 ff (As p)=Gz.e1):Pu 144 [.agg (AO p)] (rI 0):=
 pu Ad (fun e=>[cl (@wD (p)),Bi Ac,sl (Pr.A0 (As p)),lp (S.mk [(0,.v (.agg (AO p))),(1,.lp 1 0),(2,A1 0),(7,.v (.agg (AO p))),(8,A1 (Bm p)),(3,A1 (Bm p)),(9,A1 (Bm p)),(10,.v (.bool (Bm p != 0))),(12,.lp 1 3),(13,vL 4 (Pr.cs (As p))),(14,A1 ((As p).length:Int)),(15,A1 0)] [(1,BK p)] e) (@A3s (p) (e) (ff) Bg hN Ae) xr]) func144
end
theorem UR{α:Type}(f:α->Int):∀a b:List α,BX f (a++b)=if BX f a=0 then BX f b else BX f a
 | [],b=>by simp [BX]
 | x::r,b=>by
  by_cases h:f x=0
  ·simp only [List.cons_append,BX,h,if_true]; exact UR f r b
  ·simp only [List.cons_append,BX,h,if_false]
theorem Pn(f:Pr->Int):∀ks:List Pr,BX (fun w=>BX f (C8 w)) ks=BX f (BH ks)
 | []=>rfl
 | x::r=>by rw [BH,UR,<-Pn f r]; rfl
theorem n9:∀ (d:Nat) (u:Pr),A6 (AO u)<d->d<=100000001->Pu 144 [.agg (AO u)] (.ret (.int .i64 (BX Bm (C8 u))))
 | 0,_,h,_=>by omega
 | d+1,u,h,hs=>by
  have h1:=FL u
  have h2:=Pr.BT (As u)
  have hk:∀w:Pr,w∈As u->Pu 144 [.agg (AO w)] (.ret (.int .i64 (BX Bm (C8 w)))):=fun w hw=>n9 d w (by have:=Pr.mem hw; omega) oM
  have hf:=Pn Bm (As u)
  rw [Fl,BX]
  by_cases h0:Bm u=0
  ·rw [iP h0,<-hf]
   by_cases h5:BX (fun w=>BX Bm (C8 w)) (As u)=0
   ·rw [h5]; exact A41 u _ hk oM h0 ((aN _ _).1 h5)
   ·obtain ⟨w,e1,e2⟩:=(aN _ _).2 h5
    rw [<-e2]; exact A40 u _ hk oM h0 w e1
  ·rw [iN h0]; exact A3z u _ hk oM h0
theorem rfT(u:Pr)(hs:A6 (AO u)<=100000000):Pu 144 [.agg (AO u)] (.ret (.int .i64 (BX Bm (C8 u)))):=n9 (A6 (AO u)+1) u oM oM
def Qv(u:Pr):Int:=(if iR u>400 then 7 else (if mS u>40 then 8 else (BX Bm (C8 u))))
theorem rpc(u:Pr)(hs:A6 (AO u)<=100000000):Pu 98 [.agg (AO u)] (rI (Qv u)):=by
 by_cases h0:iR u>400
 ·simp only [Qv,iP h0]; exact pm Ad [cl (@wE (u) hs),C6 h0] func98
 ·by_cases h1:mS u>40
  ·simp only [Qv,iN h0,iP h1]; exact pm Ad [cl (@wE (u) hs),Az h0,cl (@A3y (u) hs),C6 h1] func98
  ·simp only [Qv,iN h0,iN h1]; exact pm Ad [cl (@wE (u) hs),Az h0,cl (@A3y (u) hs),Az h1,cl (@rfT (u) hs)] func98
theorem wF(u:Pr)(hs:A6 (AO u)<=100000000):Pu 98 [.agg (AO u)] (.ret (.int .i64 (Ge u))):=rpc u hs
theorem Ab5(u:Pr):Pu 56 [.agg (AO u),.agg [.int .i64 0,.str Ah,.int .i64 0,.A4]] (.ret (.bool (BY u))):=by
 unfold BY
 by_cases h0:Ab u=0
 ·rw [iP h0]
  by_cases h1:Aq u=Ah
  ·rw [iP h1]
   by_cases h2:Ch u=0
   ·rw [iP h2]
    by_cases h3:((As u).length:Int)=0
    ·rw [show isNil (As u)=true from decide_eq_true h3]; exact A3x u h0 h1 h2 h3
    ·rw [show isNil (As u)=false from decide_eq_false h3]; exact A3w u h0 h1 h2 h3
   ·rw [iN h2]; exact A3v u h0 h1 h2
  ·rw [iN h1]; exact A3u u h0 h1
 ·rw [iN h0]; exact A3t u h0
section
variable (s:BA) (c:Bool) (Ac:Ck (CH s)=0)
include s c Ac
theorem A42(Ae:(↑(UInt8.toNat (List.getD (Array.toList (ByteArray.data s)) (Int.toNat 0) default)):Int)>=65):Pu 192 [.str s,.bool c] (rB (if true=true then decide ((↑(UInt8.toNat (List.getD (Array.toList (ByteArray.data s)) (Int.toNat 0) default)):Int)<=90)==c else !decide ((↑(UInt8.toNat (List.getD (Array.toList (ByteArray.data s)) (Int.toNat 0) default)):Int)<=90)==c)):=
 pm Ad [cl (@WA (s)),rp 2 (Bh Ac),kp,am ((0:Int)<=0/\0<(↑(ByteArray.size s):Int)) (by (apply HC <;> first | assumption | omega | decide)),rp 2 (Bh Ac),rp 2 (C6 Ae),kp,am ((0:Int)<=0/\0<(↑(ByteArray.size s):Int)) (by (apply HC <;> first | assumption | omega | decide)),C6 Ae,Bh Ac,C6 Ae,rp 3 (Bh Ac)] func192
theorem A43(Ae:¬(↑(UInt8.toNat (List.getD (Array.toList (ByteArray.data s)) (Int.toNat 0) default)):Int)>=65):Pu 192 [.str s,.bool c] (rB (if true=true then false==c else !false==c)):=
 pm Ad [cl (@WA (s)),rp 2 (Bh Ac),kp,am ((0:Int)<=0/\0<(↑(ByteArray.size s):Int)) (by (apply HC <;> first | assumption | omega | decide)),rp 2 (Bh Ac),rp 3 (Az Ae),Bh Ac,Az Ae,rp 3 (Bh Ac)] func192
end
def F3(s:BA)(c:Bool):Bool:=(if Ck (CH s)=0 then (if (↑(UInt8.toNat (List.getD (Array.toList (ByteArray.data s)) (Int.toNat 0) default)):Int)>=65 then (if true=true then decide ((↑(UInt8.toNat (List.getD (Array.toList (ByteArray.data s)) (Int.toNat 0) default)):Int)<=90)==c else !decide ((↑(UInt8.toNat (List.getD (Array.toList (ByteArray.data s)) (Int.toNat 0) default)):Int)<=90)==c) else (if true=true then false==c else !false==c)) else false)
theorem rco(s:BA)(c:Bool):Pu 192 [.str s,.bool c] (rB (F3 s c)):=by
 by_cases h0:Ck (CH s)=0
 ·by_cases h1:(↑(UInt8.toNat (List.getD (Array.toList (ByteArray.data s)) (Int.toNat 0) default)):Int)>=65
  ·simp only [F3,iP h0,iP h1]; exact A42 s c h0 h1
  ·simp only [F3,iP h0,iN h1]; exact A43 s c h0 h1
 ·simp only [F3,iN h0]; exact pm Ad [cl (@WA (s)),rp 8 (Aw h0)] func192
abbrev JA(t:Tp)(xe:Ext):S:=⟨[(1,.lp 1 0),(2,.v (.int .i64 0))],[(1,Bj t)],xe⟩
section
variable (t:Tp) (xe:Ext)
include t xe
theorem wG(Ac:AA t<1)(cx:Cx)(Ar:cx.n=113){Q:A5->S->Prop}(hq:Q (.normal) (S.mk [(1,.lp 1 0),(2,A1 0),(52,.v (.bool true))] [(1,Bj t)] xe)):PW prog cx (AW f149 1) (JA t xe) Q:=
 pw Ad 113 [rp 4 (C6 Ac),rp 24 (bt true)] [1,2,52] [1] Ar hq
theorem wI(Ac:¬AA t<1)(Ae:AA t>6)(cx:Cx)(Ar:cx.n=113){Q:A5->S->Prop}(hq:Q (.normal) (S.mk [(1,.lp 1 0),(2,A1 0),(52,.v (.bool true))] [(1,Bj t)] xe)):PW prog cx (AW f149 1) (JA t xe) Q:=
 pw Ad 113 [rp 4 (Az Ac),rp 8 (C6 Ae),rp 16 (bt true)] [1,2,52] [1] Ar hq
theorem wJ(Ac:¬AA t<1)(Ae:¬AA t>6)(Ao:¬Af t=ByteArray.mk #[])(AK:¬AA t=4)(B9:¬AA t=5)(cx:Cx)(Ar:cx.n=113){Q:A5->S->Prop}(hq:Q (.normal) (S.mk [(1,.lp 1 0),(2,A1 0),(52,.v (.bool true))] [(1,Bj t)] xe)):PW prog cx (AW f149 1) (JA t xe) Q:=
 pw Ad 113 [rp 4 (Az Ac),rp 4 (Az Ae),rp 3 (bt (!ByteArray.toList (Af t)==ByteArray.toList Ah) (B6 (BZ Ao))),Az Ae,bt (!ByteArray.toList (Af t)==ByteArray.toList Ah) (B6 (BZ Ao)),Az Ae,rp 3 (Bv AK),Az Ae,Bv AK,Az Ae,rp 9 (Bv B9),rp 7 (bt true)] [1,2,52] [1] Ar hq
theorem wK(Ac:¬AA t<1)(Ae:¬AA t>6)(Ao:¬Af t=ByteArray.mk #[])(AK:¬AA t=4)(B9:AA t=5)(BU:((A8 t).length:Int)>0)(cx:Cx)(Ar:cx.n=113){Q:A5->S->Prop}(hq:Q (.normal) (S.mk [(1,.lp 1 0),(2,A1 0),(52,.v (.bool true))] [(1,Bj t)] xe)):PW prog cx (AW f149 1) (JA t xe) Q:=
 pw Ad 113 [rp 4 (Az Ac),rp 4 (Az Ae),rp 3 (bt (!ByteArray.toList (Af t)==ByteArray.toList Ah) (B6 (BZ Ao))),Az Ae,bt (!ByteArray.toList (Af t)==ByteArray.toList Ah) (B6 (BZ Ao)),Az Ae,rp 3 (Bv AK),Az Ae,Bv AK,Az Ae,rp 3 (Bi B9),sl (Tp.A0 (A8 t)),rp 2 (Bi B9),rp 3 (C6 BU),Bi B9,C6 BU,Bi B9,rp 3 (Bv AK),Bi B9,Bv AK,Bi B9,rp 7 (nt (AA t) 6)] [1,2,52] [1] Ar hq
theorem wL(Ac:¬AA t<1)(Ae:¬AA t>6)(Ao:¬Af t=ByteArray.mk #[])(AK:¬AA t=4)(B9:AA t=5)(BU:¬((A8 t).length:Int)>0)(Fk:((Aj t).length:Int)>0)(cx:Cx)(Ar:cx.n=113){Q:A5->S->Prop}(hq:Q (.normal) (S.mk [(1,.lp 1 0),(2,A1 0),(52,.v (.bool (AA t != 6)))] [(1,Bj t)] xe)):PW prog cx (AW f149 1) (JA t xe) Q:=
 pw Ad 113 [rp 4 (Az Ac),rp 4 (Az Ae),rp 3 (bt (!ByteArray.toList (Af t)==ByteArray.toList Ah) (B6 (BZ Ao))),Az Ae,bt (!ByteArray.toList (Af t)==ByteArray.toList Ah) (B6 (BZ Ao)),Az Ae,rp 3 (Bv AK),Az Ae,Bv AK,Az Ae,rp 3 (Bi B9),sl (Tp.A0 (A8 t)),rp 2 (Bi B9),rp 3 (Az BU),Bi B9,Az BU,Bi B9,rp 3 (bf false),Bi B9,bf false,Bi B9,rp 3 (bf false),sl (A3 (Aj t)),rp 2 (bf false),rp 3 (C6 Fk),bf false,C6 Fk,bf false] [1,2,52] [1] Ar hq
theorem wM(Ac:¬AA t<1)(Ae:¬AA t>6)(Ao:¬Af t=ByteArray.mk #[])(AK:¬AA t=4)(B9:AA t=5)(BU:¬((A8 t).length:Int)>0)(Fk:¬((Aj t).length:Int)>0)(cx:Cx)(Ar:cx.n=113){Q:A5->S->Prop}(hq:Q (.normal) (S.mk [(1,.lp 1 0),(2,A1 0),(52,.v (.bool false))] [(1,Bj t)] xe)):PW prog cx (AW f149 1) (JA t xe) Q:=
 pw Ad 113 [rp 4 (Az Ac),rp 4 (Az Ae),rp 3 (bt (!ByteArray.toList (Af t)==ByteArray.toList Ah) (B6 (BZ Ao))),Az Ae,bt (!ByteArray.toList (Af t)==ByteArray.toList Ah) (B6 (BZ Ao)),Az Ae,rp 3 (Bv AK),Az Ae,Bv AK,Az Ae,rp 3 (Bi B9),sl (Tp.A0 (A8 t)),rp 2 (Bi B9),rp 3 (Az BU),Bi B9,Az BU,Bi B9,rp 3 (bf false),Bi B9,bf false,Bi B9,rp 3 (bf false),sl (A3 (Aj t)),rp 2 (bf false),rp 3 (Az Fk),bf false,Az Fk,bf false] [1,2,52] [1] Ar hq
theorem wN(Ac:¬AA t<1)(Ae:¬AA t>6)(Ao:¬Af t=ByteArray.mk #[])(AK:AA t=4)(B9:((A8 t).length:Int)>0)(BU:((Aj t).length:Int)>0)(cx:Cx)(Ar:cx.n=113){Q:A5->S->Prop}(hq:Q (.normal) (S.mk [(1,.lp 1 0),(2,A1 0),(52,.v (.bool (AA t != 6)))] [(1,Bj t)] xe)):PW prog cx (AW f149 1) (JA t xe) Q:=
 pw Ad 113 [rp 4 (Az Ac),rp 4 (Az Ae),rp 3 (bt (!ByteArray.toList (Af t)==ByteArray.toList Ah) (B6 (BZ Ao))),Az Ae,bt (!ByteArray.toList (Af t)==ByteArray.toList Ah) (B6 (BZ Ao)),Az Ae,rp 3 (Bi AK),Az Ae,Bi AK,Az Ae,rp 3 (bf false),sl (Tp.A0 (A8 t)),rp 2 (bf false),rp 3 (C6 B9),bf false,C6 B9,bf false,rp 3 (Bi AK),bf false,Bi AK,rp 4 (bf false),sl (A3 (Aj t)),rp 2 (bf false),rp 3 (C6 BU),bf false,C6 BU,bf false] [1,2,52] [1] Ar hq
theorem wO(Ac:¬AA t<1)(Ae:¬AA t>6)(Ao:¬Af t=ByteArray.mk #[])(AK:AA t=4)(B9:((A8 t).length:Int)>0)(BU:¬((Aj t).length:Int)>0)(cx:Cx)(Ar:cx.n=113){Q:A5->S->Prop}(hq:Q (.normal) (S.mk [(1,.lp 1 0),(2,A1 0),(52,.v (.bool false))] [(1,Bj t)] xe)):PW prog cx (AW f149 1) (JA t xe) Q:=
 pw Ad 113 [rp 4 (Az Ac),rp 4 (Az Ae),rp 3 (bt (!ByteArray.toList (Af t)==ByteArray.toList Ah) (B6 (BZ Ao))),Az Ae,bt (!ByteArray.toList (Af t)==ByteArray.toList Ah) (B6 (BZ Ao)),Az Ae,rp 3 (Bi AK),Az Ae,Bi AK,Az Ae,rp 3 (bf false),sl (Tp.A0 (A8 t)),rp 2 (bf false),rp 3 (C6 B9),bf false,C6 B9,bf false,rp 3 (Bi AK),bf false,Bi AK,rp 4 (bf false),sl (A3 (Aj t)),rp 2 (bf false),rp 3 (Az BU),bf false,Az BU,bf false] [1,2,52] [1] Ar hq
theorem wP(Ac:¬AA t<1)(Ae:¬AA t>6)(Ao:¬Af t=ByteArray.mk #[])(AK:AA t=4)(B9:¬((A8 t).length:Int)>0)(BU:((Aj t).length:Int)>0)(cx:Cx)(Ar:cx.n=113){Q:A5->S->Prop}(hq:Q (.normal) (S.mk [(1,.lp 1 0),(2,A1 0),(52,.v (.bool (AA t != 6)))] [(1,Bj t)] xe)):PW prog cx (AW f149 1) (JA t xe) Q:=
 pw Ad 113 [rp 4 (Az Ac),rp 4 (Az Ae),rp 3 (bt (!ByteArray.toList (Af t)==ByteArray.toList Ah) (B6 (BZ Ao))),Az Ae,bt (!ByteArray.toList (Af t)==ByteArray.toList Ah) (B6 (BZ Ao)),Az Ae,rp 3 (Bi AK),Az Ae,Bi AK,Az Ae,rp 3 (bf false),sl (Tp.A0 (A8 t)),rp 2 (bf false),rp 3 (Az B9),bf false,Az B9,rp 10 (bf false),sl (A3 (Aj t)),rp 2 (bf false),rp 3 (C6 BU),bf false,C6 BU,bf false] [1,2,52] [1] Ar hq
theorem j5(Ac:¬AA t<1)(Ae:¬AA t>6)(Ao:¬Af t=ByteArray.mk #[])(AK:AA t=4)(B9:¬((A8 t).length:Int)>0)(BU:¬((Aj t).length:Int)>0)(cx:Cx)(Ar:cx.n=113){Q:A5->S->Prop}(hq:Q (.normal) (S.mk [(1,.lp 1 0),(2,A1 0),(52,.v (.bool false))] [(1,Bj t)] xe)):PW prog cx (AW f149 1) (JA t xe) Q:=
 pw Ad 113 [rp 4 (Az Ac),rp 4 (Az Ae),rp 3 (bt (!ByteArray.toList (Af t)==ByteArray.toList Ah) (B6 (BZ Ao))),Az Ae,bt (!ByteArray.toList (Af t)==ByteArray.toList Ah) (B6 (BZ Ao)),Az Ae,rp 3 (Bi AK),Az Ae,Bi AK,Az Ae,rp 3 (bf false),sl (Tp.A0 (A8 t)),rp 2 (bf false),rp 3 (Az B9),bf false,Az B9,rp 10 (bf false),sl (A3 (Aj t)),rp 2 (bf false),rp 3 (Az BU),bf false,Az BU,bf false] [1,2,52] [1] Ar hq
theorem j6(Ac:¬AA t<1)(Ae:¬AA t>6)(Ao:Af t=ByteArray.mk #[])(AK:((A8 t).length:Int)>0)(B9:¬AA t=4)(BU:¬AA t=6)(cx:Cx)(Ar:cx.n=113){Q:A5->S->Prop}(hq:Q (.normal) (S.mk [(1,.lp 1 0),(2,A1 0),(52,.v (.bool true))] [(1,Bj t)] xe)):PW prog cx (AW f149 1) (JA t xe) Q:=
 pw Ad 113 [rp 4 (Az Ac),rp 4 (Az Ae),rp 3 (bf (!ByteArray.toList (Af t)==ByteArray.toList Ah) (AJ (BL Ao))),Az Ae,bf (!ByteArray.toList (Af t)==ByteArray.toList Ah) (AJ (BL Ao)),Az Ae,rp 3 (bf false),Az Ae,bf false,Az Ae,rp 3 (bf false),sl (Tp.A0 (A8 t)),rp 2 (bf false),rp 3 (C6 AK),bf false,C6 AK,bf false,rp 3 (Bv B9),bf false,Bv B9,bf false,rp 7 (Bv BU)] [1,2,52] [1] Ar hq
theorem j7(Ac:¬AA t<1)(Ae:¬AA t>6)(Ao:Af t=ByteArray.mk #[])(AK:((A8 t).length:Int)>0)(B9:¬AA t=4)(BU:AA t=6)(Fk:((Aj t).length:Int)>0)(cx:Cx)(Ar:cx.n=113){Q:A5->S->Prop}(hq:Q (.normal) (S.mk [(1,.lp 1 0),(2,A1 0),(52,.v (.bool (AA t != 6)))] [(1,Bj t)] xe)):PW prog cx (AW f149 1) (JA t xe) Q:=
 pw Ad 113 [rp 4 (Az Ac),rp 4 (Az Ae),rp 3 (bf (!ByteArray.toList (Af t)==ByteArray.toList Ah) (AJ (BL Ao))),Az Ae,bf (!ByteArray.toList (Af t)==ByteArray.toList Ah) (AJ (BL Ao)),Az Ae,rp 3 (bf false),Az Ae,bf false,Az Ae,rp 3 (bf false),sl (Tp.A0 (A8 t)),rp 2 (bf false),rp 3 (C6 AK),bf false,C6 AK,bf false,rp 3 (Bv B9),bf false,Bv B9,bf false,rp 3 (Bi BU),sl (A3 (Aj t)),rp 2 (Bi BU),rp 3 (C6 Fk),Bi BU,C6 Fk,Bi BU] [1,2,52] [1] Ar hq
theorem j8(Ac:¬AA t<1)(Ae:¬AA t>6)(Ao:Af t=ByteArray.mk #[])(AK:((A8 t).length:Int)>0)(B9:¬AA t=4)(BU:AA t=6)(Fk:¬((Aj t).length:Int)>0)(cx:Cx)(Ar:cx.n=113){Q:A5->S->Prop}(hq:Q (.normal) (S.mk [(1,.lp 1 0),(2,A1 0),(52,.v (.bool false))] [(1,Bj t)] xe)):PW prog cx (AW f149 1) (JA t xe) Q:=
 pw Ad 113 [rp 4 (Az Ac),rp 4 (Az Ae),rp 3 (bf (!ByteArray.toList (Af t)==ByteArray.toList Ah) (AJ (BL Ao))),Az Ae,bf (!ByteArray.toList (Af t)==ByteArray.toList Ah) (AJ (BL Ao)),Az Ae,rp 3 (bf false),Az Ae,bf false,Az Ae,rp 3 (bf false),sl (Tp.A0 (A8 t)),rp 2 (bf false),rp 3 (C6 AK),bf false,C6 AK,bf false,rp 3 (Bv B9),bf false,Bv B9,bf false,rp 3 (Bi BU),sl (A3 (Aj t)),rp 2 (Bi BU),rp 3 (Az Fk),Bi BU,Az Fk,Bi BU] [1,2,52] [1] Ar hq
theorem j9(Ac:¬AA t<1)(Ae:¬AA t>6)(Ao:Af t=ByteArray.mk #[])(AK:((A8 t).length:Int)>0)(B9:AA t=4)(BU:((Aj t).length:Int)>0)(cx:Cx)(Ar:cx.n=113){Q:A5->S->Prop}(hq:Q (.normal) (S.mk [(1,.lp 1 0),(2,A1 0),(52,.v (.bool (AA t != 6)))] [(1,Bj t)] xe)):PW prog cx (AW f149 1) (JA t xe) Q:=
 pw Ad 113 [rp 4 (Az Ac),rp 4 (Az Ae),rp 3 (bf (!ByteArray.toList (Af t)==ByteArray.toList Ah) (AJ (BL Ao))),Az Ae,bf (!ByteArray.toList (Af t)==ByteArray.toList Ah) (AJ (BL Ao)),Az Ae,rp 3 (bf false),Az Ae,bf false,Az Ae,rp 3 (bf false),sl (Tp.A0 (A8 t)),rp 2 (bf false),rp 3 (C6 AK),bf false,C6 AK,bf false,rp 3 (Bi B9),bf false,Bi B9,rp 4 (bf false),sl (A3 (Aj t)),rp 2 (bf false),rp 3 (C6 BU),bf false,C6 BU,bf false] [1,2,52] [1] Ar hq
theorem jA(Ac:¬AA t<1)(Ae:¬AA t>6)(Ao:Af t=ByteArray.mk #[])(AK:((A8 t).length:Int)>0)(B9:AA t=4)(BU:¬((Aj t).length:Int)>0)(cx:Cx)(Ar:cx.n=113){Q:A5->S->Prop}(hq:Q (.normal) (S.mk [(1,.lp 1 0),(2,A1 0),(52,.v (.bool false))] [(1,Bj t)] xe)):PW prog cx (AW f149 1) (JA t xe) Q:=
 pw Ad 113 [rp 4 (Az Ac),rp 4 (Az Ae),rp 3 (bf (!ByteArray.toList (Af t)==ByteArray.toList Ah) (AJ (BL Ao))),Az Ae,bf (!ByteArray.toList (Af t)==ByteArray.toList Ah) (AJ (BL Ao)),Az Ae,rp 3 (bf false),Az Ae,bf false,Az Ae,rp 3 (bf false),sl (Tp.A0 (A8 t)),rp 2 (bf false),rp 3 (C6 AK),bf false,C6 AK,bf false,rp 3 (Bi B9),bf false,Bi B9,rp 4 (bf false),sl (A3 (Aj t)),rp 2 (bf false),rp 3 (Az BU),bf false,Az BU,bf false] [1,2,52] [1] Ar hq
theorem jB(Ac:¬AA t<1)(Ae:¬AA t>6)(Ao:Af t=ByteArray.mk #[])(AK:¬((A8 t).length:Int)>0)(B9:((Aj t).length:Int)>0)(cx:Cx)(Ar:cx.n=113){Q:A5->S->Prop}(hq:Q (.normal) (S.mk [(1,.lp 1 0),(2,A1 0),(52,.v (.bool (AA t != 6)))] [(1,Bj t)] xe)):PW prog cx (AW f149 1) (JA t xe) Q:=
 pw Ad 113 [rp 4 (Az Ac),rp 4 (Az Ae),rp 3 (bf (!ByteArray.toList (Af t)==ByteArray.toList Ah) (AJ (BL Ao))),Az Ae,bf (!ByteArray.toList (Af t)==ByteArray.toList Ah) (AJ (BL Ao)),Az Ae,rp 3 (bf false),Az Ae,bf false,Az Ae,rp 3 (bf false),sl (Tp.A0 (A8 t)),rp 2 (bf false),rp 3 (Az AK),bf false,Az AK,rp 10 (bf false),sl (A3 (Aj t)),rp 2 (bf false),rp 3 (C6 B9),bf false,C6 B9,bf false] [1,2,52] [1] Ar hq
theorem jC(Ac:¬AA t<1)(Ae:¬AA t>6)(Ao:Af t=ByteArray.mk #[])(AK:¬((A8 t).length:Int)>0)(B9:¬((Aj t).length:Int)>0)(cx:Cx)(Ar:cx.n=113){Q:A5->S->Prop}(hq:Q (.normal) (S.mk [(1,.lp 1 0),(2,A1 0),(52,.v (.bool false))] [(1,Bj t)] xe)):PW prog cx (AW f149 1) (JA t xe) Q:=
 pw Ad 113 [rp 4 (Az Ac),rp 4 (Az Ae),rp 3 (bf (!ByteArray.toList (Af t)==ByteArray.toList Ah) (AJ (BL Ao))),Az Ae,bf (!ByteArray.toList (Af t)==ByteArray.toList Ah) (AJ (BL Ao)),Az Ae,rp 3 (bf false),Az Ae,bf false,Az Ae,rp 3 (bf false),sl (Tp.A0 (A8 t)),rp 2 (bf false),rp 3 (Az AK),bf false,Az AK,rp 10 (bf false),sl (A3 (Aj t)),rp 2 (bf false),rp 3 (Az B9),bf false,Az B9,bf false] [1,2,52] [1] Ar hq
end
def B3(t:Tp):Bool:=(if AA t<1 then (true) else (if AA t>6 then (true) else (if Af t=ByteArray.mk #[] then (if ((A8 t).length:Int)>0 then (if AA t=4 then (if ((Aj t).length:Int)>0 then ((AA t != 6)) else (false)) else (if AA t=6 then (if ((Aj t).length:Int)>0 then ((AA t != 6)) else (false)) else (true))) else (if ((Aj t).length:Int)>0 then ((AA t != 6)) else (false))) else (if AA t=4 then (if ((A8 t).length:Int)>0 then (if ((Aj t).length:Int)>0 then ((AA t != 6)) else (false)) else (if ((Aj t).length:Int)>0 then ((AA t != 6)) else (false))) else (if AA t=5 then (if ((A8 t).length:Int)>0 then (true) else (if ((Aj t).length:Int)>0 then ((AA t != 6)) else (false))) else (true))))))
theorem S9(t:Tp)(xe:Ext):(Ob.Ev 113 (AW f149 1) (JA t xe) (.normal) (S.mk [(1,.lp 1 0),(2,A1 0),(52,.v (.bool (B3 t)))] [(1,Bj t)] xe)).ok prog:=by
 intro cx Ar
 by_cases g0:AA t<1
 ·exact wG t xe g0 cx Ar ⟨rfl,by rw [show B3 t=(true) by unfold B3; rw [iP g0]]⟩
 ·by_cases g1:AA t>6
  ·exact wI t xe g0 g1 cx Ar ⟨rfl,by rw [show B3 t=(true) by unfold B3; rw [iN g0,iP g1]]⟩
  ·by_cases g2:Af t=ByteArray.mk #[]
   ·by_cases g3:((A8 t).length:Int)>0
    ·by_cases g4:AA t=4
     ·by_cases g5:((Aj t).length:Int)>0
      ·exact j9 t xe g0 g1 g2 g3 g4 g5 cx Ar ⟨rfl,by rw [show B3 t=((AA t != 6)) by unfold B3; rw [iN g0,iN g1,iP g2,iP g3,iP g4,iP g5]]⟩
      ·exact jA t xe g0 g1 g2 g3 g4 g5 cx Ar ⟨rfl,by rw [show B3 t=(false) by unfold B3; rw [iN g0,iN g1,iP g2,iP g3,iP g4,iN g5]]⟩
     ·by_cases g5:AA t=6
      ·by_cases g6:((Aj t).length:Int)>0
       ·exact j7 t xe g0 g1 g2 g3 g4 g5 g6 cx Ar ⟨rfl,by rw [show B3 t=((AA t != 6)) by unfold B3; rw [iN g0,iN g1,iP g2,iP g3,iN g4,iP g5,iP g6]]⟩
       ·exact j8 t xe g0 g1 g2 g3 g4 g5 g6 cx Ar ⟨rfl,by rw [show B3 t=(false) by unfold B3; rw [iN g0,iN g1,iP g2,iP g3,iN g4,iP g5,iN g6]]⟩
      ·exact j6 t xe g0 g1 g2 g3 g4 g5 cx Ar ⟨rfl,by rw [show B3 t=(true) by unfold B3; rw [iN g0,iN g1,iP g2,iP g3,iN g4,iN g5]]⟩
    ·by_cases g4:((Aj t).length:Int)>0
     ·exact jB t xe g0 g1 g2 g3 g4 cx Ar ⟨rfl,by rw [show B3 t=((AA t != 6)) by unfold B3; rw [iN g0,iN g1,iP g2,iN g3,iP g4]]⟩
     ·exact jC t xe g0 g1 g2 g3 g4 cx Ar ⟨rfl,by rw [show B3 t=(false) by unfold B3; rw [iN g0,iN g1,iP g2,iN g3,iN g4]]⟩
   ·by_cases g3:AA t=4
    ·by_cases g4:((A8 t).length:Int)>0
     ·by_cases g5:((Aj t).length:Int)>0
      ·exact wN t xe g0 g1 g2 g3 g4 g5 cx Ar ⟨rfl,by rw [show B3 t=((AA t != 6)) by unfold B3; rw [iN g0,iN g1,iN g2,iP g3,iP g4,iP g5]]⟩
      ·exact wO t xe g0 g1 g2 g3 g4 g5 cx Ar ⟨rfl,by rw [show B3 t=(false) by unfold B3; rw [iN g0,iN g1,iN g2,iP g3,iP g4,iN g5]]⟩
     ·by_cases g5:((Aj t).length:Int)>0
      ·exact wP t xe g0 g1 g2 g3 g4 g5 cx Ar ⟨rfl,by rw [show B3 t=((AA t != 6)) by unfold B3; rw [iN g0,iN g1,iN g2,iP g3,iN g4,iP g5]]⟩
      ·exact j5 t xe g0 g1 g2 g3 g4 g5 cx Ar ⟨rfl,by rw [show B3 t=(false) by unfold B3; rw [iN g0,iN g1,iN g2,iP g3,iN g4,iN g5]]⟩
    ·by_cases g4:AA t=5
     ·by_cases g5:((A8 t).length:Int)>0
      ·exact wK t xe g0 g1 g2 g3 g4 g5 cx Ar ⟨rfl,by rw [show B3 t=(true) by unfold B3; rw [iN g0,iN g1,iN g2,iN g3,iP g4,iP g5]]⟩
      ·by_cases g6:((Aj t).length:Int)>0
       ·exact wL t xe g0 g1 g2 g3 g4 g5 g6 cx Ar ⟨rfl,by rw [show B3 t=((AA t != 6)) by unfold B3; rw [iN g0,iN g1,iN g2,iN g3,iP g4,iN g5,iP g6]]⟩
       ·exact wM t xe g0 g1 g2 g3 g4 g5 g6 cx Ar ⟨rfl,by rw [show B3 t=(false) by unfold B3; rw [iN g0,iN g1,iN g2,iN g3,iP g4,iN g5,iN g6]]⟩
     ·exact wJ t xe g0 g1 g2 g3 g4 cx Ar ⟨rfl,by rw [show B3 t=(true) by unfold B3; rw [iN g0,iN g1,iN g2,iN g3,iN g4]]⟩
theorem wQ(t:Tp)(xe:Ext)(Ac:AA t=4)(cx:Cx)(Ar:cx.n=113){Q:A5->S->Prop}(hq:Q (.normal) (S.mk [(1,.lp 1 0),(2,A1 0),(61,.v (.bool (decide (((A8 t).length:Int)>6))))] [(1,Bj t)] xe)):PW prog cx (AW f149 3) (JA t xe) Q:=
 pw Ad 113 [rp 3 (Bh Ac),sl (Tp.A0 (A8 t)),rp 2 (Bh Ac)] [1,2,61] [1] Ar hq
theorem wR(t:Tp)(xe:Ext)(Ac:¬AA t=4)(cx:Cx)(Ar:cx.n=113){Q:A5->S->Prop}(hq:Q (.normal) (S.mk [(1,.lp 1 0),(2,A1 0),(61,.v (.bool false))] [(1,Bj t)] xe)):PW prog cx (AW f149 3) (JA t xe) Q:=
 pw Ad 113 [rp 5 (Aw Ac)] [1,2,61] [1] Ar hq
def Dp(t:Tp):Bool:=(if AA t=4 then ((decide (((A8 t).length:Int)>6))) else (false))
theorem US(t:Tp)(xe:Ext):(Ob.Ev 113 (AW f149 3) (JA t xe) (.normal) (S.mk [(1,.lp 1 0),(2,A1 0),(61,.v (.bool (Dp t)))] [(1,Bj t)] xe)).ok prog:=by
 intro cx Ar
 by_cases g0:AA t=4
 ·exact wQ t xe g0 cx Ar ⟨rfl,by rw [show Dp t=((decide (((A8 t).length:Int)>6))) by unfold Dp; rw [iP g0]]⟩
 ·exact wR t xe g0 cx Ar ⟨rfl,by rw [show Dp t=(false) by unfold Dp; rw [iN g0]]⟩
section
variable (t:Tp) (xe:Ext) (Ac:AA t=6)
include t xe Ac
theorem wT(Ae:((A8 t).length:Int)<2)(cx:Cx)(Ar:cx.n=113){Q:A5->S->Prop}(hq:Q (.normal) (S.mk [(1,.lp 1 0),(2,A1 0),(92,.v (.bool true))] [(1,Bj t)] xe)):PW prog cx (AW f149 5) (JA t xe) Q:=
 pw Ad 113 [rp 3 (Bh Ac),sl (Tp.A0 (A8 t)),rp 2 (Bh Ac),rp 4 (C6 Ae),Bh Ac,C6 Ae,Bh Ac,rp 6 (bt true),Bh Ac,bt true,Bh Ac] [1,2,92] [1] Ar hq
theorem wU(Ae:¬((A8 t).length:Int)<2)(Ao:((A8 t).length:Int)>7)(cx:Cx)(Ar:cx.n=113){Q:A5->S->Prop}(hq:Q (.normal) (S.mk [(1,.lp 1 0),(2,A1 0),(92,.v (.bool true))] [(1,Bj t)] xe)):PW prog cx (AW f149 5) (JA t xe) Q:=
 pw Ad 113 [rp 3 (Bh Ac),sl (Tp.A0 (A8 t)),rp 2 (Bh Ac),rp 3 (Az Ae),sl (Tp.A0 (A8 t)),Az Ae,Bh Ac,Az Ae,Bh Ac,rp 6 (C6 Ao),Bh Ac,C6 Ao,Bh Ac] [1,2,92] [1] Ar hq
theorem wW(Ae:¬((A8 t).length:Int)<2)(Ao:¬((A8 t).length:Int)>7)(AK:((Aj t).length:Int)>0)(cx:Cx)(Ar:cx.n=113){Q:A5->S->Prop}(hq:Q (.normal) (S.mk [(1,.lp 1 0),(2,A1 0),(92,.v (.bool (((Aj t).length:Int) != ((A8 t).length:Int) - 1)))] [(1,Bj t)] xe)):PW prog cx (AW f149 5) (JA t xe) Q:=
 pw Ad 113 [rp 3 (Bh Ac),sl (Tp.A0 (A8 t)),rp 2 (Bh Ac),rp 3 (Az Ae),sl (Tp.A0 (A8 t)),Az Ae,Bh Ac,Az Ae,Bh Ac,rp 3 (Az Ao),sl (A3 (Aj t)),rp 2 (Az Ao),rp 3 (C6 AK),sl (A3 (Aj t)),rp 3 (C6 AK),sl (Tp.A0 (A8 t)),C6 AK,wr (((A8 t).length:Int) - 1),C6 AK,Az Ao,C6 AK,Bh Ac,Az Ao,Bh Ac] [1,2,92] [1] Ar hq
theorem wX(Ae:¬((A8 t).length:Int)<2)(Ao:¬((A8 t).length:Int)>7)(AK:¬((Aj t).length:Int)>0)(cx:Cx)(Ar:cx.n=113){Q:A5->S->Prop}(hq:Q (.normal) (S.mk [(1,.lp 1 0),(2,A1 0),(92,.v (.bool false))] [(1,Bj t)] xe)):PW prog cx (AW f149 5) (JA t xe) Q:=
 pw Ad 113 [rp 3 (Bh Ac),sl (Tp.A0 (A8 t)),rp 2 (Bh Ac),rp 3 (Az Ae),sl (Tp.A0 (A8 t)),Az Ae,Bh Ac,Az Ae,Bh Ac,rp 3 (Az Ao),sl (A3 (Aj t)),rp 2 (Az Ao),rp 8 (Az AK),Az Ao,Az AK,Bh Ac,Az Ao,Bh Ac] [1,2,92] [1] Ar hq
end
theorem wY(t:Tp)(xe:Ext)(Ac:¬AA t=6)(cx:Cx)(Ar:cx.n=113){Q:A5->S->Prop}(hq:Q (.normal) (S.mk [(1,.lp 1 0),(2,A1 0),(92,.v (.bool false))] [(1,Bj t)] xe)):PW prog cx (AW f149 5) (JA t xe) Q:=
 pw Ad 113 [rp 9 (Aw Ac)] [1,2,92] [1] Ar hq
def Cy(t:Tp):Bool:=(if AA t=6 then (if ((A8 t).length:Int)<2 then (true) else (if ((A8 t).length:Int)>7 then (true) else (if ((Aj t).length:Int)>0 then ((((Aj t).length:Int) != ((A8 t).length:Int) - 1)) else (false)))) else (false))
theorem aO(t:Tp)(xe:Ext):(Ob.Ev 113 (AW f149 5) (JA t xe) (.normal) (S.mk [(1,.lp 1 0),(2,A1 0),(92,.v (.bool (Cy t)))] [(1,Bj t)] xe)).ok prog:=by
 intro cx Ar
 by_cases g0:AA t=6
 ·by_cases g1:((A8 t).length:Int)<2
  ·exact wT t xe g0 g1 cx Ar ⟨rfl,by rw [show Cy t=(true) by unfold Cy; rw [iP g0,iP g1]]⟩
  ·by_cases g2:((A8 t).length:Int)>7
   ·exact wU t xe g0 g1 g2 cx Ar ⟨rfl,by rw [show Cy t=(true) by unfold Cy; rw [iP g0,iN g1,iP g2]]⟩
   ·by_cases g3:((Aj t).length:Int)>0
    ·exact wW t xe g0 g1 g2 g3 cx Ar ⟨rfl,by rw [show Cy t=((((Aj t).length:Int) != ((A8 t).length:Int) - 1)) by unfold Cy; rw [iP g0,iN g1,iN g2,iP g3]]⟩
    ·exact wX t xe g0 g1 g2 g3 cx Ar ⟨rfl,by rw [show Cy t=(false) by unfold Cy; rw [iP g0,iN g1,iN g2,iN g3]]⟩
 ·exact wY t xe g0 cx Ar ⟨rfl,by rw [show Cy t=(false) by unfold Cy; rw [iN g0]]⟩
section
variable (t:Tp) (xe:Ext)
include t xe
theorem wZ(Ac:AA t=4)(Ae:F3 (Af t) true=false)(cx:Cx)(Ar:cx.n=113){Q:A5->S->Prop}(hq:Q (.normal) (S.mk [(1,.lp 1 0),(2,A1 0),(112,.v (.bool true))] [(1,Bj t)] xe)):PW prog cx (AW f149 7) (JA t xe) Q:=
 pw Ad 113 [rp 3 (Bh Ac),cl (@rco (Af t) (true)),rp 2 (Bh Ac),rp 6 (B2 (B6 Ae))] [1,2,112] [1] Ar hq
theorem x3(Ac:AA t=4)(Ae:F3 (Af t) true=true)(cx:Cx)(Ar:cx.n=113){Q:A5->S->Prop}(hq:Q (.normal) (S.mk [(1,.lp 1 0),(2,A1 0),(112,.v (.bool false))] [(1,Bj t)] xe)):PW prog cx (AW f149 7) (JA t xe) Q:=
 pw Ad 113 [rp 3 (Bh Ac),cl (@rco (Af t) (true)),rp 2 (Bh Ac),rp 4 (AQ (AJ Ae)),rp 4 (en (AA t) 5),AQ (AJ Ae),en (AA t) 5,AQ (AJ Ae)] [1,2,112] [1] Ar hq
theorem x4(Ac:¬AA t=4)(Ae:AA t=5)(cx:Cx)(Ar:cx.n=113){Q:A5->S->Prop}(hq:Q (.normal) (S.mk [(1,.lp 1 0),(2,A1 0),(112,.v (.bool !F3 (Af t) false))] [(1,Bj t)] xe)):PW prog cx (AW f149 7) (JA t xe) Q:=
 pw Ad 113 [rp 5 (Aw Ac),rp 4 (bf false),rp 3 (Bh Ae),cl (@rco (Af t) (false)),Bh Ae,bf false,Bh Ae,bf false] [1,2,112] [1] Ar hq
theorem x5(Ac:¬AA t=4)(Ae:¬AA t=5)(cx:Cx)(Ar:cx.n=113){Q:A5->S->Prop}(hq:Q (.normal) (S.mk [(1,.lp 1 0),(2,A1 0),(112,.v (.bool false))] [(1,Bj t)] xe)):PW prog cx (AW f149 7) (JA t xe) Q:=
 pw Ad 113 [rp 5 (Aw Ac),rp 4 (bf false),rp 4 (Aw Ae),bf false,Aw Ae,bf false] [1,2,112] [1] Ar hq
end
def D3(t:Tp):Bool:=(if AA t=4 then (if F3 (Af t) true=true then (false) else (true)) else (if AA t=5 then (!F3 (Af t) false) else (false)))
theorem nA(t:Tp)(xe:Ext):(Ob.Ev 113 (AW f149 7) (JA t xe) (.normal) (S.mk [(1,.lp 1 0),(2,A1 0),(112,.v (.bool (D3 t)))] [(1,Bj t)] xe)).ok prog:=by
 intro cx Ar
 by_cases g0:AA t=4
 ·by_cases g1:F3 (Af t) true=true
  ·exact x3 t xe g0 g1 cx Ar ⟨rfl,by rw [show D3 t=(false) by unfold D3; rw [iP g0,iP g1]]⟩
  ·exact wZ t xe g0 (Bool.eq_false_iff.2 g1) cx Ar ⟨rfl,by rw [show D3 t=(true) by unfold D3; rw [iP g0,iN g1]]⟩
 ·by_cases g1:AA t=5
  ·exact x4 t xe g0 g1 cx Ar ⟨rfl,by rw [show D3 t=(!F3 (Af t) false) by unfold D3; rw [iN g0,iP g1]]⟩
  ·exact x5 t xe g0 g1 cx Ar ⟨rfl,by rw [show D3 t=(false) by unfold D3; rw [iN g0,iN g1]]⟩
def mdN:Md:=⟨fun _=>some false,fun t=>t==1000001||t==1000003||t==1000005||t==1000007⟩
def D0(t:Tp):Int:=(if B3 t=true then 1 else (if Dp t=true then 13 else (if Cy t=true then 13 else (if D3 t=true then 3 else 0))))
theorem rtn(t:Tp):Pu 149 [.agg (Ay t)] (rI (D0 t)):=by
 by_cases h0:B3 t=true
 ·simp only [D0,iP h0]; exact pu mdN (fun e=>[lf (S.mk [(0,.v (.agg (Ay t))),(1,.lp 1 0),(2,A1 0)] [(1,Bj t)] e) (@S9 (t) (e)) ⟨⟨W,W,An⟩,⟨⟨W,W,W,W,W,W,W,W,W,An⟩,An⟩,rfl⟩,B2 h0]) func149
 ·by_cases h1:Dp t=true
  ·simp only [D0,iN h0,iP h1]; exact pu mdN (fun e=>[lf (S.mk [(0,.v (.agg (Ay t))),(1,.lp 1 0),(2,A1 0)] [(1,Bj t)] e) (@S9 (t) (e)) ⟨⟨W,W,An⟩,⟨⟨W,W,W,W,W,W,W,W,W,An⟩,An⟩,rfl⟩,AQ (DQ h0),lf (S.mk [(1,.lp 1 0),(2,A1 0),(52,.v (.bool (B3 t)))] [(1,Bj t)] e) (@US (t) (e)) ⟨⟨W,W,An⟩,⟨⟨W,W,W,W,W,W,W,W,W,An⟩,An⟩,rfl⟩,B2 h1]) func149
  ·by_cases h2:Cy t=true
   ·simp only [D0,iN h0,iN h1,iP h2]; exact pu mdN (fun e=>[lf (S.mk [(0,.v (.agg (Ay t))),(1,.lp 1 0),(2,A1 0)] [(1,Bj t)] e) (@S9 (t) (e)) ⟨⟨W,W,An⟩,⟨⟨W,W,W,W,W,W,W,W,W,An⟩,An⟩,rfl⟩,AQ (DQ h0),lf (S.mk [(1,.lp 1 0),(2,A1 0),(52,.v (.bool (B3 t)))] [(1,Bj t)] e) (@US (t) (e)) ⟨⟨W,W,An⟩,⟨⟨W,W,W,W,W,W,W,W,W,An⟩,An⟩,rfl⟩,AQ (DQ h1),lf (S.mk [(1,.lp 1 0),(2,A1 0),(61,.v (.bool (Dp t)))] [(1,Bj t)] e) (@aO (t) (e)) ⟨⟨W,W,An⟩,⟨⟨W,W,W,W,W,W,W,W,W,An⟩,An⟩,rfl⟩,B2 h2]) func149
   ·by_cases h3:D3 t=true
    ·simp only [D0,iN h0,iN h1,iN h2,iP h3]; exact pu mdN (fun e=>[lf (S.mk [(0,.v (.agg (Ay t))),(1,.lp 1 0),(2,A1 0)] [(1,Bj t)] e) (@S9 (t) (e)) ⟨⟨W,W,An⟩,⟨⟨W,W,W,W,W,W,W,W,W,An⟩,An⟩,rfl⟩,AQ (DQ h0),lf (S.mk [(1,.lp 1 0),(2,A1 0),(52,.v (.bool (B3 t)))] [(1,Bj t)] e) (@US (t) (e)) ⟨⟨W,W,An⟩,⟨⟨W,W,W,W,W,W,W,W,W,An⟩,An⟩,rfl⟩,AQ (DQ h1),lf (S.mk [(1,.lp 1 0),(2,A1 0),(61,.v (.bool (Dp t)))] [(1,Bj t)] e) (@aO (t) (e)) ⟨⟨W,W,An⟩,⟨⟨W,W,W,W,W,W,W,W,W,An⟩,An⟩,rfl⟩,AQ (DQ h2),lf (S.mk [(1,.lp 1 0),(2,A1 0),(92,.v (.bool (Cy t)))] [(1,Bj t)] e) (@nA (t) (e)) ⟨⟨W,W,An⟩,⟨⟨W,W,W,W,W,W,W,W,W,An⟩,An⟩,rfl⟩,B2 h3]) func149
    ·simp only [D0,iN h0,iN h1,iN h2,iN h3]; exact pu mdN (fun e=>[lf (S.mk [(0,.v (.agg (Ay t))),(1,.lp 1 0),(2,A1 0)] [(1,Bj t)] e) (@S9 (t) (e)) ⟨⟨W,W,An⟩,⟨⟨W,W,W,W,W,W,W,W,W,An⟩,An⟩,rfl⟩,AQ (DQ h0),lf (S.mk [(1,.lp 1 0),(2,A1 0),(52,.v (.bool (B3 t)))] [(1,Bj t)] e) (@US (t) (e)) ⟨⟨W,W,An⟩,⟨⟨W,W,W,W,W,W,W,W,W,An⟩,An⟩,rfl⟩,AQ (DQ h1),lf (S.mk [(1,.lp 1 0),(2,A1 0),(61,.v (.bool (Dp t)))] [(1,Bj t)] e) (@aO (t) (e)) ⟨⟨W,W,An⟩,⟨⟨W,W,W,W,W,W,W,W,W,An⟩,An⟩,rfl⟩,AQ (DQ h2),lf (S.mk [(1,.lp 1 0),(2,A1 0),(92,.v (.bool (Cy t)))] [(1,Bj t)] e) (@nA (t) (e)) ⟨⟨W,W,An⟩,⟨⟨W,W,W,W,W,W,W,W,W,An⟩,An⟩,rfl⟩,AQ (DQ h3)]) func149
abbrev nB(t:Tp)(C7:Tp->Int)(j:Int)(n:Int)(e:Ext):S:=S.mk [(2,A1 0),(3,A1 n),(7,vL 9 (Tp.cs (A8 t))),(8,A1 ((A8 t).length:Int)),(9,A1 j)] [] e
def HI(C7:Tp->Int):List Tp->(Int)->(Int)
 | [],n=>(n)
 | el::r,n=>HI C7 r (VW true n (C7 el))
def aP(t:Tp)(C7:Tp->Int)(e:Ext)(p:(Int)):A5 × S:=(.exit 0,S.mk [(2,A1 0),(3,A1 p),(7,vL 9 (Tp.cs (A8 t))),(8,A1 ((A8 t).length:Int))] [] e)
theorem rtd(t:Tp)(C7:Tp->Int)(Bg:∀w:Tp,w∈A8 t->Pu 100 [.agg (Ay w)] (.ret (.int .i64 (C7 w))))(n:Int)(e:Ext)(hN:(A8 t).length<=1000000000)  : (Ob.loop 20 (Ai f100 0) (nB t C7 0 n e) (aP t C7 e (HI C7 ((A8 t))  n)).1 (aP t C7 e (HI C7 ((A8 t))  n)).2).ok prog:=by
 refine Ds ((A8 t).length) (fun j n=>nB t C7 j n e) (fun i n=>HI C7 (List.drop i ((A8 t)))  n) (aP t C7 e) (fun i n=>True) kR ?_ n trivial
 rintro i n hi -
 rcases Nat.lt_or_ge i ((A8 t).length) with Ag | CO
 ·have hd:=AH Ag
  exact lN Ad [dt ((i:Int)<((A8 t).length:Int)),am ((0:Int)<=(i:Int)/\(i:Int)<((Tp.cs (A8 t)).length:Int)) (by (simp only [Tp.A0]; omega)),OA (A8 t) i Ag,cl (@Bg (List.getD (A8 t) i default) (by simp_all)),wr ((i:Int)+1)] Ag (VW true n (C7 (List.getD (A8 t) i default))) trivial (by rw [hd,HI])
 ·have he:i=(A8 t).length:=by omega
  exact lX Ad [df ((i:Int)<((A8 t).length:Int))] (n) (by rw [he,List.drop_length,HI])
theorem Ab6(t:Tp)(C7:Tp->Int)(Bg:∀w:Tp,w∈A8 t->Pu 100 [.agg (Ay w)] (.ret (.int .i64 (C7 w))))(hN:(A8 t).length<=1000000000)(hb:HI C7 (A8 t) 0+1<=9223372036854775807)(hc : -9223372036854775808<=HI C7 (A8 t) 0+1):Pu 100 [.agg (Ay t)] (rI (HI C7 (A8 t) 0+1)):=
 pu Ad (fun e=>[sl (Tp.A0 (A8 t)),lp (S.mk [(0,.v (.agg (Ay t))),(1,.lp 1 0),(2,A1 0),(3,A1 0),(6,.lp 1 2),(7,vL 9 (Tp.cs (A8 t))),(8,A1 ((A8 t).length:Int)),(9,A1 0)] [(1,Bj t)] e) (@rtd (t) (C7) Bg (0) (e) hN) xr,ai (IntKind.wrap .i64 (HI C7 (A8 t) 0+1)) (HI C7 (A8 t) 0+1) (wrap64 hc hb)]) func100
abbrev UT(t:Tp)(xe:Ext)(ff:Tp->Int)(j:Int)   : S:=S.mk [(2,A1 0),(13,vL 9 (Tp.cs (A8 t))),(14,A1 ((A8 t).length:Int)),(15,A1 j)] [] xe
inductive GA where
 | e0 (el:Tp)
 | e1
def G1(ff:Tp->Int):List Tp->GA
 | []=>(GA.e1)
 | el::r=>(if ff el=0 then G1 ff r  else (GA.e0 el))
def Nx(t:Tp)(xe:Ext)(ff:Tp->Int)  : GA->A5 × S
 | .e0 el=>(.ret,S.mk [(2,A1 (ff el)),(13,vL 9 (Tp.cs (A8 t))),(14,A1 ((A8 t).length:Int))] [] xe)
 | .e1=>(.exit 0,S.mk [(2,A1 0),(13,vL 9 (Tp.cs (A8 t))),(14,A1 ((A8 t).length:Int))] [] xe)
theorem aQ(t:Tp)(xe:Ext)(ff:Tp->Int)(Bg:∀w:Tp,w∈A8 t->Pu 101 [.agg (Ay w)] (.ret (.int .i64 (ff w))))(hN:(A8 t).length<=1000000000):(Ob.loop 25 (Ai f101 0) (UT t xe ff 0) (Nx t xe ff  (G1 ff (List.drop 0 ((A8 t))))).1 (Nx t xe ff  (G1 ff (List.drop 0 ((A8 t))))).2).ok prog:=by
 refine Ds ((A8 t).length) (fun j _=>UT t xe ff j) (fun i _=>G1 ff (List.drop i ((A8 t)))) (Nx t xe ff) (fun i _=>True) kR ?_ () trivial
 rintro i u hi -
 rcases Nat.lt_or_ge i ((A8 t).length) with Ag | CO
 ·have hd:=AH Ag
  by_cases h0:ff (List.getD (A8 t) i default)=0
  ·exact lN Ad [dt ((i:Int)<((A8 t).length:Int)),am ((0:Int)<=(i:Int)/\(i:Int)<((Tp.cs (A8 t)).length:Int)) (by (simp only [Tp.A0]; omega)),OA (A8 t) i Ag,cl (@Bg (List.getD (A8 t) i default) (by simp_all)),Bi h0,wr ((i:Int)+1)] Ag () trivial (by rw [hd,G1,iP h0])
  ·exact lX Ad [dt ((i:Int)<((A8 t).length:Int)),am ((0:Int)<=(i:Int)/\(i:Int)<((Tp.cs (A8 t)).length:Int)) (by (simp only [Tp.A0]; omega)),OA (A8 t) i Ag,cl (@Bg (List.getD (A8 t) i default) (by simp_all)),Bv h0] (GA.e0 (List.getD ((A8 t)) i default)) (by rw [hd,G1,iN h0])
 ·have he:i=(A8 t).length:=by omega
  exact lX Ad [df ((i:Int)<((A8 t).length:Int))] (GA.e1) (by rw [he,List.drop_length,G1])
theorem A44(t:Tp)(xe:Ext)(ff:Tp->Int)(Bg:∀w:Tp,w∈A8 t->Pu 101 [.agg (Ay w)] (.ret (.int .i64 (ff w))))(hN:(A8 t).length<=1000000000)(p0:Tp)(At:(G1 ff ((A8 t)))=(GA.e0 p0)):(Ob.loop 25 (Ai f101 0) (UT t xe ff 0) (Nx t xe ff  (GA.e0 p0)).1 (Nx t xe ff  (GA.e0 p0)).2).ok prog:=
 rz (aQ t xe ff Bg hN) At
theorem A45(t:Tp)(xe:Ext)(ff:Tp->Int)(Bg:∀w:Tp,w∈A8 t->Pu 101 [.agg (Ay w)] (.ret (.int .i64 (ff w))))(hN:(A8 t).length<=1000000000)(At:(G1 ff ((A8 t)))=(GA.e1)):(Ob.loop 25 (Ai f101 0) (UT t xe ff 0) (Nx t xe ff  (GA.e1)).1 (Nx t xe ff  (GA.e1)).2).ok prog:=
 rz (aQ t xe ff Bg hN) At
section
variable (t:Tp) (ff:Tp->Int) (Bg:∀w:Tp,w∈A8 t->Pu 101 [.agg (Ay w)] (.ret (.int .i64 (ff w)))) (hN:(A8 t).length<=1000000000)
include t ff Bg hN
theorem A46(Ac:¬D0 t=0):Pu 101 [.agg (Ay t)] (rI (D0 t)):=
 pm Ad [cl (@rtn (t)),Bv Ac] func101
theorem A47(Ac:D0 t=0)(Ii:Tp)(Ao:G1 ff (A8 t)=GA.e0 Ii):Pu 101 [.agg (Ay t)] (rI (ff Ii)):=
 pu Ad (fun e=>[cl (@rtn (t)),Bi Ac,sl (Tp.A0 (A8 t)),lp (S.mk [(0,.v (.agg (Ay t))),(1,.lp 1 0),(2,A1 0),(7,.v (.agg (Ay t))),(8,A1 (D0 t)),(3,A1 (D0 t)),(9,A1 (D0 t)),(10,.v (.bool (D0 t != 0))),(12,.lp 1 2),(13,vL 9 (Tp.cs (A8 t))),(14,A1 ((A8 t).length:Int)),(15,A1 0)] [(1,Bj t)] e) (@A44 (t) (e) (ff) Bg hN Ii Ao) xr]) func101
theorem A48(Ac:D0 t=0)(Ae:G1 ff (A8 t)=GA.e1):Pu 101 [.agg (Ay t)] (rI 0):=
 pu Ad (fun e=>[cl (@rtn (t)),Bi Ac,sl (Tp.A0 (A8 t)),lp (S.mk [(0,.v (.agg (Ay t))),(1,.lp 1 0),(2,A1 0),(7,.v (.agg (Ay t))),(8,A1 (D0 t)),(3,A1 (D0 t)),(9,A1 (D0 t)),(10,.v (.bool (D0 t != 0))),(12,.lp 1 2),(13,vL 9 (Tp.cs (A8 t))),(14,A1 ((A8 t).length:Int)),(15,A1 0)] [(1,Bj t)] e) (@A45 (t) (e) (ff) Bg hN Ae) xr]) func101
end
theorem UU(C7:Tp->Int):∀ (l:List Tp) (n:Int),HI C7 l n=HD C7 l n
 | [],_=>rfl
 | x::r,n=>by rw [HI,HD,UU C7 r]
theorem aS:∀ (d:Nat) (t:Tp),A6 (Ay t)<d->d<=100000001->Pu 100 [.agg (Ay t)] (.ret (.int .i64 (UB d t)))
 | 0,_,h,_=>by omega
 | d+1,t,h,hs=>by
  have hb:=UC (f:=UB d) (B:=d) (A8 t) 0 oM oM fun w _=>Zo d w
  have:=Ab6 t (UB d) (fun w hw=>aS d w (by have:=EA t; have:=Tp.mem hw; omega) oM) (by have:=EA t; have:=Tp.BT (A8 t); omega) (by rw [UU]; omega) (by rw [UU]; omega)
  rw [UU] at this
  exact this
theorem A49(t:Tp)(hs:A6 (Ay t)<=100000000):Pu 100 [.agg (Ay t)] (.ret (.int .i64 (tdF t))):=aS (A6 (Ay t)+1) t oM oM
theorem Ab7(t:Tp):B3 t=Bn t (AF t) (BO t (AF t)):=by
 unfold B3 Bn AF BO
 by_cases h0:AA t<1
 ·rw [iP h0,iP h0]
 ·rw [iN h0,iN h0]
  by_cases h1:AA t>6
  ·rw [iP h1,iP h1]
  ·rw [iN h1,iN h1]
   by_cases h4:AA t=4
   ·have h6:¬AA t=6:=by omega
    by_cases hm:Af t=ByteArray.mk #[] <;> simp [h4,hm]
   ·by_cases h5:AA t=5
    ·have h6:¬AA t=6:=by omega
     by_cases hm:Af t=ByteArray.mk #[] <;> simp [h5,hm]
    ·by_cases h6:AA t=6
     ·by_cases hm:Af t=ByteArray.mk #[] <;> simp [h6,hm]
     ·by_cases hm:Af t=ByteArray.mk #[] <;> simp [h4,h5,h6,hm]
theorem Ab8(t:Tp):Lo t=if Dp t=true then 13 else if Cy t=true then 13 else 0:=by
 unfold Lo Dp Cy
 by_cases h4:AA t=4
 ·have h6:¬AA t=6:=by omega
  rw [iP h4,iP h4,iN h6]
  by_cases hl:((A8 t).length:Int)>6
  ·rw [iP hl,decide_eq_true hl]; rfl
  ·rw [iN hl,decide_eq_false hl]; rfl
 ·rw [iN h4,iN h4]
  by_cases h6:AA t=6
  ·rw [iP h6,iP h6]
   by_cases h2:((A8 t).length:Int)<2
   ·rw [iP h2,iP h2]; rfl
   ·rw [iN h2,iN h2]
    by_cases h7:((A8 t).length:Int)>7
    ·rw [iP h7,iP h7]; rfl
    ·rw [iN h7,iN h7]
     by_cases hn:((Aj t).length:Int)=0
     ·rw [iP hn,iN (by omega:¬((Aj t).length:Int)>0)]; rfl
     ·rw [iN hn,iP (by omega:((Aj t).length:Int)>0)]
      by_cases he:((Aj t).length:Int)=((A8 t).length:Int) - 1
      ·rw [iP he,he]; simp
      ·rw [iN he,bne_iff_ne.2 he]; rfl
  ·rw [iN h6,iN h6]; rfl
theorem nC(t:Tp)(c:Bool):F3 (Af t) c=(decide (Ck (CH (Af t))=0)&&(CC t==c)):=by
 unfold F3 CC
 rw [show Int.toNat 0=0 from rfl]
 by_cases h:Ck (CH (Af t))=0
 ·rw [iP h,decide_eq_true h,Bool.true_and]
  split <;> rfl
 ·rw [iN h,decide_eq_false h,Bool.false_and]
theorem A4a(t:Tp)(ff:Tp->Int):Fx t ff=if D0 t=0 then BX ff (A8 t) else D0 t:=by
 have hd:(if BX ff (A8 t)=0 then (0:Int) else BX ff (A8 t))=BX ff (A8 t):=by split <;> simp_all
 unfold Fx D0
 rw [Ab7,Ab8,hd]
 cases h1:Bn t (AF t) (BO t (AF t)) with
 | true=>rfl
 | false=>
  cases h3:Dp t with
  | true=>rfl
  | false=>
   cases h5:Cy t with
   | true=>rfl
   | false=>
    simp only [Bool.false_eq_true,if_false,if_true]
    unfold D3
    rw [nC,nC]
    unfold AF
    by_cases h4:AA t=4
    ·simp only [h4,if_true]
     by_cases hc:Ck (CH (Af t))=0
     ·rw [iP hc,decide_eq_true hc]
      cases CC t <;> rfl
     ·rw [iN hc,decide_eq_false hc]; rfl
    ·by_cases h5:AA t=5
     ·simp only [h5,if_true]
      by_cases hc:Ck (CH (Af t))=0
      ·rw [decide_eq_true hc]
       cases CC t <;> simp [hc]
      ·rw [decide_eq_false hc]; simp [hc]
     ·simp [h4,h5]
theorem aU(ff:Tp->Int):∀l:List Tp,(BX ff l=0->G1 ff l = .e1)/\(¬BX ff l=0->∃w,G1 ff l = .e0 w/\ff w=BX ff l)
 | []=>⟨fun _=>rfl,fun h=>absurd rfl h⟩
 | c::r=>by
  have ih:=aU ff r
  by_cases hp:ff c=0
  ·simp only [BX,G1,hp,if_true]; exact ih
  ·simp only [BX,G1,hp,if_false]
   exact ⟨fun h=>h.elim,fun _=>⟨c,rfl,rfl⟩⟩
theorem nD:∀ (d:Nat) (t:Tp),A6 (Ay t)<d->d<=100000001->Pu 101 [.agg (Ay t)] (.ret (.int .i64 (mG d t)))
 | 0,_,h,_=>by omega
 | d+1,t,h,hs=>by
  have h1:=EA t
  have h2:=Tp.BT (A8 t)
  have hk:∀w:Tp,w∈A8 t->Pu 101 [.agg (Ay w)] (.ret (.int .i64 (mG d w))):=fun w hw=>nD d w (by have:=Tp.mem hw; omega) oM
  rw [mG,A4a]
  by_cases h0:D0 t=0
  ·rw [iP h0]
   by_cases h5:BX (mG d) (A8 t)=0
   ·rw [h5]; exact A48 t _ hk oM h0 ((aU _ _).1 h5)
   ·obtain ⟨w,e1,e2⟩:=(aU _ _).2 h5
    rw [<-e2]; exact A47 t _ hk oM h0 w e1
  ·rw [iN h0]; exact A46 t _ hk oM h0
theorem rtT(t:Tp)(hs:A6 (Ay t)<=100000000):Pu 101 [.agg (Ay t)] (.ret (.int .i64 (fmF t))):=nD (A6 (Ay t)+1) t oM oM
def Tw(t:Tp):Int:=(if tdF t>40 then 8 else (fmF t))
theorem rtc(t:Tp)(hs:A6 (Ay t)<=100000000):Pu 57 [.agg (Ay t)] (rI (Tw t)):=by
 by_cases h0:tdF t>40
 ·simp only [Tw,iP h0]; exact pm Ad [cl (@A49 (t) hs),C6 h0] func57
 ·simp only [Tw,iN h0]; exact pm Ad [cl (@A49 (t) hs),Az h0,cl (@rtT (t) hs)] func57
theorem x6(t:Tp)(hs:A6 (Ay t)<=100000000):Pu 57 [.agg (Ay t)] (.ret (.int .i64 (Ee t))):=rtc t hs
end Go.Proofs.YthchpmnkecoafaaGreatDoor
