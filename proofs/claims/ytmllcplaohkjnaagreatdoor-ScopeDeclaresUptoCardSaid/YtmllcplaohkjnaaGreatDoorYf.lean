/- Values of Go as plain data, an evaluator over them, and what the functions of the program return; part Yf. -/
import Derived.Test.YtmllcplaohkjnaaGreatDoorYe
import Derived.Test.YtmllcplaohkjnaaGreatDoorYd
import Derived.Test.YtmllcplaohkjnaaGreatDoorXh
import Derived.Test.YtmllcplaohkjnaaGreatDoorYa
set_option linter.unusedSectionVars false
set_option linter.unusedSimpArgs false
set_option linter.unusedVariables false
namespace Go.Proofs.YtmllcplaohkjnaaGreatDoor
open Go.Proofs.Tryz
open Go.RowKit Go.Shelf Go.Pv
attribute [local go_sem] Oper.semAt_some
set_option maxRecDepth 100000
theorem QC{F:Fence}(hd:F.depth=none)(k:Nat):F.room k:=fun d h=>by rw [hd] at h; cases h
theorem RoundIn.NB{F:Fence}(hd:F.depth=none){m m':Nat}{P:Program}{l:Nat}{f:FuncId}{tmps:Array Value}{assign body:Code}{w:World}{R:Ending->World->Prop}
  (h:RoundIn F m P l f tmps assign body w R):RoundIn F m' P l f tmps assign body w R:=⟨h.1,fun c cs _=>h.2 c cs (QC hd _)⟩
theorem YieldAt.NB{F:Fence}(hd:F.depth=none){m:Nat}(m':Nat){P:Program}{l:Nat}{args:Array Value}{W:World}{R:Ending->World->Prop}(h:YieldAt F m P l args W R):YieldAt F m' P l args W R:=by
 obtain ⟨fn,tmps,assign,body,hy,hR⟩:=h
 exact ⟨fn,tmps,assign,body,hy,RoundIn.NB hd hR⟩
theorem Fu{g:Gh}{w w':World}(hb:Below w.heap.size w w'):Ch g w g w':=by
 refine ⟨fun _ _ h=>h,fun b o v hc hf=>⟨?_,hf⟩,fun b cur e hh=>⟨cur,?_,rfl⟩,fun _ _ _ h=>h⟩
 ·have Ad:b<w.heap.size:=by
   unfold World.cell? at hc
   cases hh:w.heap[b]? with
   | none=>simp [hh] at hc
   | some x=>exact (Array.getElem?_eq_some_iff.1 hh).1
  rw [<-hc]
  exact World.cell?_of_block (hb.block b Ad)
 ·exact (hb.block b (Array.getElem?_eq_some_iff.1 hh).1).trans hh
theorem Lr{e:Ext}{g:Gh}{l:LG}{w w':World}(he:SV e g l w)(hb:Below w.heap.size w w'):SV e g l w' where
 ex x cs hx:=by
  obtain ⟨b,h1,h2,hE⟩:=he.ex x cs hx
  refine ⟨b,h1.mono (Fu hb),h2,?_⟩
  have hm:Ch g w g w':=Fu hb
  have hh:=hb.block b (he.OK b _ h2)
  rcases hE with ⟨h3,cur,te,h4,h5,h6⟩ | hE
  ·refine .inl ⟨h3,cur,te,hh.trans h4,h5,fun j hj=>⟨(h6 j hj).1,(h6 j hj).2.1,?_⟩⟩
   exact (h6 j hj).2.2.BK hm (fun _ _ _=>rfl) fun b' hu=>⟨hu,rfl,hb.block b' (he.OK b' _ (he.uo _ b' hu))⟩
  ·exact .inr (hE.BK hm (fun _ _ _ h=>h) rfl hh)
 OK b o ho:=Nat.lt_of_lt_of_le (he.OK b o ho) hb.size
 uo:=he.uo
 fresh:=⟨fun b h=>he.fresh.1 b (Nat.le_trans hb.size h),he.fresh.2⟩
 Gg n b h:=Nat.lt_of_lt_of_le (he.Gg n b h) hb.size
 only:=he.only
 Jj:=he.Jj.mono (Fu hb)
theorem Px{P:Program}{f:FuncId}{args:List PV}{vs:List Value}{k:Int}{g:Gh}{l:LG}{w:World}(h:(Ob.Jt f args (.ret (.int .i64 k))).ok P)(ha:AE g w args vs)(he:SV [] g l w) :
  Calls P f vs.toArray w fun mY w'=>mY = .returned (.int .i64 k)/\Below w.heap.size w w':=by
 refine (h.2 [] vs g ⟨fun _=>none,fun _=>none,fun _=>none⟩ w ha ⟨fun x cs hx=>(by simp [lk] at hx),fun b o ho=>(by cases ho),fun p b hb=>(by cases hb),he.fresh,he.Gg,fun b o ho=>(by cases ho),he.Jj⟩).mono ?_
 rintro mY w' ⟨r,e2,g',l',⟨rfl,rfl⟩,AF,IG,II,Cb,Tq,MU,os,tape,output⟩
 refine ⟨?_,os,tape,output,Cb,fun b hb=>(Tq b hb rfl).1⟩
 cases mY <;> first | exact AF.elim | skip
 rename_i v
 have h1:BO g' w' (.int .i64 k) v:=AF
 cases h1
 rfl
theorem KC.NC{w W:World}(h:Below w.heap.size w W):KC w W:=⟨h.size,fun k o hk _=>(h.block k (Array.getElem?_eq_some_iff.1 hk).1).trans hk⟩
theorem QD(F:Fence)(hd:F.depth=none)(n:Nat)(tJ:F.fn 142)(aP:F.fn 143)(mQ:F.round=none)(g:Gh)(W0 w:World)(Bs:Nat)(x:Nd g W0)(SU:KC W0 w)(hBs:Bs<w.heap.size)
  (h1:w.cell? ⟨Bs,0,none⟩=some (.int .i64 (Ah x.1.1))) (h2:w.cell? ⟨Bs,1,none⟩=some (.string (AR x.1.1))) (h3:w.cell? ⟨Bs,2,none⟩=some (.int .i64 (DE x.1.1))) (h4:w.cell? ⟨Bs,3,none⟩=some (.slice x.1.2.1 x.1.2.2.1 x.1.2.2.2)) :
  SeqStopsK F n prog 142 #[.pointer (some ⟨Bs,0,none⟩)] (fun y:Nd g W0=>#[y.enc]) KC (fun ys=>ys.map (·.1.1)=DA x.1.1) (fun ys=>ys.map (·.1.1) <+: DA x.1.1) (DA x.1.1).length w:=fun l J Jx W hW hJ _ hY h0=>
 TX F hd tJ aP mQ g W0 l Bs x n J Jx (fun s W W' hs hg=>hJ s W W' none hs hg (fun r e=>by cases e))
  (fun m pre y W hj hl=>YieldAt.NB hd m (hY pre y W hj hl)) W (SU.trans (KC.NC hW)) ((hW.cell (p:=⟨Bs,0,none⟩) hBs).trans h1) ((hW.cell (p:=⟨Bs,1,none⟩) hBs).trans h2) ((hW.cell (p:=⟨Bs,2,none⟩) hBs).trans h3) ((hW.cell (p:=⟨Bs,3,none⟩) hBs).trans h4) h0
def Ss(p:Pr):Int:=if xY p>400 then 7 else if peF p>40 then 8 else BP Dg (DA p)
theorem b7{g:Gh}{W0:World}(x:Nd g W0):AE g W0 [.agg (CI x.1.1)] [x.enc]:=by
 refine .cons ?_ .nil
 refine .agg _ [_,_,_,_] rfl (fun v hv=>?_) fun j hj Cj=>?_
 ·simp only [List.mem_cons,List.not_mem_nil,or_false] at hv
  rcases hv with rfl | rfl | rfl | rfl <;> rfl
 ·match j with
  | 0=>exact .int _ _
  | 1=>exact .str _
  | 2=>exact .int _ _
  | 3=>exact x.2
theorem LW{w W:World}(h:Below w.heap.size w W)(o:Obj):Below w.heap.size w (W.alloc o):=h.alloc h.size o
def Fr(p:Pr)(oa:Option Addr)(m c:Nat)(w W:World):Prop:=
 W.cell? ⟨w.heap.size,0,none⟩=some (.int .i64 (Ah p))/\W.cell? ⟨w.heap.size,1,none⟩=some (.string (AR p))/\W.cell? ⟨w.heap.size,2,none⟩=some (.int .i64 (DE p))/\W.cell? ⟨w.heap.size,3,none⟩=some (.slice oa m c) /\
 W.cell? ⟨w.heap.size+1,0,none⟩=some (.int .i64 0)/\W.frozen? ⟨w.heap.size+1,0,none⟩=false
theorem uB(p:Pr)(oa:Option Addr)(m c:Nat)(w:World):Fr p oa m c w ((w.alloc (.cells #[.int .i64 (Ah p),.string (AR p),.int .i64 (DE p),.slice oa m c] 50)).alloc (.cells #[.int .i64 0] 32)):=by
 have h1:((w.alloc (.cells #[.int .i64 (Ah p),.string (AR p),.int .i64 (DE p),.slice oa m c] 50)).alloc (.cells #[.int .i64 0] 32)).heap[w.heap.size]?=some (.cells #[.int .i64 (Ah p),.string (AR p),.int .i64 (DE p),.slice oa m c] 50):=
  (Below.heap_alloc _ _ _ sM).trans (World.alloc_heap_new w _)
 have h2:((w.alloc (.cells #[.int .i64 (Ah p),.string (AR p),.int .i64 (DE p),.slice oa m c] 50)).alloc (.cells #[.int .i64 0] 32)).heap[w.heap.size+1]?=some (.cells #[.int .i64 0] 32):=by
  have:=World.alloc_heap_new (w.alloc (.cells #[.int .i64 (Ah p),.string (AR p),.int .i64 (DE p),.slice oa m c] 50)) (.cells #[.int .i64 0] 32)
  rwa [World.size_alloc] at this
 unfold Fr World.cell? World.frozen?
 rw [h1,h2]
 exact ⟨rfl,rfl,rfl,rfl,rfl,rfl⟩
theorem Fr.kept{p:Pr}{oa:Option Addr}{m c:Nat}{w A B:World}(h:Fr p oa m c w A)(hl:w.heap.size+2<=A.heap.size)(hb:Below A.heap.size A B):Fr p oa m c w B:=by
 have k1:=hb.block w.heap.size oM
 have k2:=hb.block (w.heap.size+1) oM
 unfold Fr World.cell? World.frozen? at h ⊢
 rw [k1,k2]
 exact h
set_option maxHeartbeats 4000000 in
theorem b8(p:Pr)(hs:A5 (CI p)<=100000000)(g:Gh)(l0:LG)(w:World)(oa:Option Addr)(m c:Nat)(hr:BO g w (.sl 4 (Pr.cs (Bg p))) (.slice oa m c))(he:SV [] g l0 w) :
  Calls prog 55 #[Ou p (.slice oa m c)] w fun e w'=>e = .returned (.int .i64 (Ss p))/\Below w.heap.size w w':=by
 refine (callsIn_wide (n:=6)).1 ?_
 obtain ⟨x,hx⟩:∃x:Nd g w,x.1=(p,oa,m,c):=⟨⟨(p,oa,m,c),hr⟩,rfl⟩
 have A8p:AE g w [.agg (CI p)] [Ou p (.slice oa m c)]:=by have:=b7 x; rw [Nd.enc,hx] at this; exact this
 refine callsIn_of_wp_marks func55 rfl trivial ?_ rfl
 simp only [Tryz.ntmps55,List.size_toArray,List.length_cons,List.length_nil,Nat.reduceAdd,Nat.reduceSub,Array.replicate_succ,Array.replicate_zero,List.push_toArray,List.append_toArray,List.nil_append,List.cons_append]
 have hf1:=uB p oa m c w
 have zD:Below w.heap.size w ((w.alloc (.cells #[.int .i64 (Ah p),.string (AR p),.int .i64 (DE p),.slice oa m c] 50)).alloc (.cells #[.int .i64 0] 32)):=LW (LW (Below.refl _ _) _) _
 have wZ:w.heap.size+2<=((w.alloc (.cells #[.int .i64 (Ah p),.string (AR p),.int .i64 (DE p),.slice oa m c] 50)).alloc (.cells #[.int .i64 0] 32)).heap.size:=by simp
 generalize eY:(w.alloc (.cells #[.int .i64 (Ah p),.string (AR p),.int .i64 (DE p),.slice oa m c] 50)).alloc (.cells #[.int .i64 0] 32)=w1 at hf1 zD wZ
 have BE:∀ (f:FuncId) (k:Int),Pu f [.agg (CI p)] (.ret (.int .i64 k))->∀ (W:World),Fr p oa m c w W->Below w.heap.size w W->w.heap.size+2<=W.heap.size->CallsIn Fence.wide 5 prog f #[Ou p (.slice oa m c)] W fun e W'=>e = .returned (.int .i64 k)/\Fr p oa m c w W'/\Below w.heap.size w W'/\w.heap.size+2<=W'.heap.size:=by
  intro f k hk W hF hB hS
  refine callsIn_wide.2 ?_
  refine (Px hk (A8p.mono (Fu hB)) (Lr he hB)).mono ?_
  rintro e W' ⟨h1,h2⟩
  exact ⟨h1,hF.kept hS h2,hB.trans (h2.mono hB.size),Nat.le_trans hS h2.size⟩
 obtain ⟨c0,c1,c2,c3,r0,rf⟩:=id hf1
 have k98:=BE 98 _ (pqT p hs) w1 hf1 zD wZ
 gi_wp2_with (first
  | (refine ⟨trivial,?_⟩; gi_at_call 98; refine k98.mono ?_; clear k98; rintro e W2 ⟨rfl,hf2,yO,zB⟩; clear c0 c1 c2 c3 r0 rf; obtain ⟨c0,c1,c2,c3,r0,rf⟩:=id hf2; have k99:=BE 99 _ (peT p hs) W2 hf2 yO zB)
  | (refine ⟨trivial,?_⟩; gi_at_call 99; refine k99.mono ?_; clear k99; rintro e W3 ⟨rfl,hf3,hb3,hz3⟩; clear c0 c1 c2 c3 r0 rf; obtain ⟨c0,c1,c2,c3,r0,rf⟩:=id hf3)
  | (refine ⟨trivial,?_⟩; gi_at_call 100; refine (WQ Fence.wide 5 trivial rfl p oa m c _).mono ?_; rintro e W4 ⟨rfl,rfl⟩))
 ·have hgt:xY p>400:=by omega
  have uC:=World.cell?_setCell_same' W2 ⟨w.heap.size+1,0,none⟩ (.int .i64 7) (by rw [r0]; rfl)
  refine ⟨.int .i64 7,by simp [results,f55,go_sem,uC],?_,yO.setCell (p:=⟨w.heap.size+1,0,none⟩) sM _⟩
  unfold Ss; rw [iP hgt]
 ·have hgt:¬xY p>400:=by omega
  have uD:peF p>40:=by omega
  have uC:=World.cell?_setCell_same' W3 ⟨w.heap.size+1,0,none⟩ (.int .i64 8) (by rw [r0]; rfl)
  refine ⟨.int .i64 8,by simp [results,f55,go_sem,uC],?_,hb3.setCell (p:=⟨w.heap.size+1,0,none⟩) sM _⟩
  unfold Ss; rw [iN hgt,iP uD]
 ·have hgt:¬xY p>400:=by omega
  have uD:¬peF p>40:=by omega
  have hpc:Ss p=BP Dg (DA p):=by unfold Ss; rw [iN hgt,iN uD]
  have hzW:W3.heap.size<(W3.alloc (.cells #[.int .i64 (Ah p),.string (AR p),.int .i64 (DE p),.slice oa m c] 50)).heap.size:=by simp
  have hb4:Below w.heap.size w (W3.alloc (.cells #[.int .i64 (Ah p),.string (AR p),.int .i64 (DE p),.slice oa m c] 50)):=hb3.alloc hb3.size _
  have hz4:w.heap.size+2<=(W3.alloc (.cells #[.int .i64 (Ah p),.string (AR p),.int .i64 (DE p),.slice oa m c] 50)).heap.size:=by simp; omega
  have uE:(W3.alloc (.cells #[.int .i64 (Ah p),.string (AR p),.int .i64 (DE p),.slice oa m c] 50)).heap[W3.heap.size]?=some (.cells #[.int .i64 (Ah p),.string (AR p),.int .i64 (DE p),.slice oa m c] 50):=World.alloc_heap_new _ _
  have hf4:Fr p oa m c w (W3.alloc (.cells #[.int .i64 (Ah p),.string (AR p),.int .i64 (DE p),.slice oa m c] 50)):=hf3.kept hz3 ((Below.refl _ _).alloc (Nat.le_refl _) _)
  clear BE c0 c1 c2 c3 r0 rf hf1 zD wZ eY hf2 yO zB
  generalize hW4:W3.alloc (.cells #[.int .i64 (Ah p),.string (AR p),.int .i64 (DE p),.slice oa m c] 50)=W4 at hzW hb4 hz4 uE hf4 ⊢
  generalize hBs:W3.heap.size=Bs at hzW uE ⊢
  have Fy:∀j,W4.cell? ⟨Bs,j,none⟩ = #[Value.int .i64 (Ah p),.string (AR p),.int .i64 (DE p),.slice oa m c][j]?:=fun j=>by unfold World.cell?; rw [uE]; rfl
  have JH:=QD Fence.wide rfl 5 trivial trivial rfl g w W4 Bs x (KC.NC hb4) hzW (by rw [hx]; exact Fy 0) (by rw [hx]; exact Fy 1) (by rw [hx]; exact Fy 2) (by rw [hx]; exact Fy 3)
  obtain ⟨_,_,_,_,r0,rf⟩:=hf4
  refine wpIn_rangeFunc_ownH rfl oM (gf:=142) (lb:=#[.pointer (some ⟨Bs,0,none⟩)]) rfl trivial (enters_of func142 kR rfl) JH KC.trans
   (fun W l o o' hl hh ho _=>⟨by simp,fun k o2 hk Ru=>(World.putObj_heap_other (fun e=>by subst e; rw [hh] at hk; cases hk; rw [ho] at Ru; cases Ru)).trans hk⟩) (Below.refl _ _) (fun _=>rfl)
   (fun pre W=>((∀y∈pre,Dg y.1.1=0)/\W.cell? ⟨w.heap.size+1,0,none⟩=some (.int .i64 0)/\W.frozen? ⟨w.heap.size+1,0,none⟩=false)/\Below w.heap.size w W)
   (fun cdz pre W=>(cdz = .ret/\∃ps y,pre=ps++[y]/\(∀z∈ps,Dg z.1.1=0)/\¬Dg y.1.1=0/\W.cell? ⟨w.heap.size+1,0,none⟩=some (.int .i64 (Dg y.1.1)))/\Below w.heap.size w W)
   (OwnFrom.and (Own.from (fun s A B row hs hg hr=>⟨hs.1,cell_kept hs.2.1 hg hr,(frozen_kept hs.2.1 hg hr).trans hs.2.2⟩) _) (ownFrom_below (Nat.le_refl _) oM))
   (fun cdz=>OwnFrom.and (Own.from (fun s A B row hs hg hr=>⟨hs.1,let ⟨ps,y,k1,k2,k3,k4⟩:=hs.2; ⟨ps,y,k1,k2,k3,cell_kept k4 hg hr⟩⟩) _) (ownFrom_below (Nat.le_refl _) oM))
   ⟨⟨fun y hy=>(by cases hy),r0,rf⟩,hb4⟩
   (fun y a' W=>∃Bx,w.heap.size+2<=Bx/\W.heap[Bx]?=some (.cells #[.int .i64 (Ah y.1.1),.string (AR y.1.1),.int .i64 (DE y.1.1),.slice y.1.2.1 y.1.2.2.1 y.1.2.2.2] 50) /\
    a'={ tmps:=#[Ou p (.slice oa m c),.pointer (some ⟨w.heap.size,0,none⟩),.pointer (some ⟨w.heap.size+1,0,none⟩),.pointer (some ⟨Bx,0,none⟩),undef,Ou p (.slice oa m c),.int .i64 (xY p),.bool false,Ou p (.slice oa m c),.int .i64 (peF p),.bool false,Ou p (.slice oa m c),.func (.func 142) #[] #[.pointer (some ⟨Bs,0,none⟩)],y.enc,undef,undef,undef,undef,undef],defers:=[] })
   (fun y a' s A B row hs hg hr=>by
    obtain ⟨Bx,h1,h2,h3⟩:=hs
    refine ⟨Bx,h1,(hg.block Bx (Array.getElem?_eq_some_iff.1 h2).1 (fun e=>?_)).trans h2,h3⟩
    obtain ⟨_,o,ho,hc⟩:=hr Bx e.symm
    rw [h2] at ho; cases ho; cases hc) ?assign ?body ?done ?stop
  case assign=>
   rintro l pre y W K ⟨⟨hz,q0,qf⟩,hB⟩ hK
   have x7:w.heap.size+1<W.heap.size:=by
    unfold World.cell? at q0
    cases hh:W.heap[w.heap.size+1]? with
    | none=>simp [hh] at q0
    | some o=>exact (Array.getElem?_eq_some_iff.1 hh).1
   simp only [Nd.enc]
   obtain ⟨q,fE,m',c',tI⟩:∃q fE m' c',y.1=(q,fE,m',c'):=⟨_,_,_,_,rfl⟩
   simp only [Nd.enc,tI] at hK ⊢
   gi_wp2
   exact hK _ _ ((KeepsOthers.alloc _ _).from _) ((KC.refl W).alloc _) ⟨⟨hz,cell_kept q0 (World.grownBy_alloc W _ none) (fun r e=>by cases e),(frozen_kept q0 (World.grownBy_alloc W _ none) (fun r e=>by cases e)).trans qf⟩,hB.alloc hB.size _⟩ ⟨W.heap.size,by omega,World.alloc_heap_new _ _,rfl⟩
  case body=>
   rintro l pre y a' W hl ⟨r,yX⟩ ⟨⟨hz,q0,qf⟩,hB⟩ ⟨Bx,hBx,hbx,rfl⟩ Ad
   have x7:w.heap.size+1<W.heap.size:=by
    unfold World.cell? at q0
    cases hh:W.heap[w.heap.size+1]? with
    | none=>simp [hh] at q0
    | some o=>exact (Array.getElem?_eq_some_iff.1 hh).1
   have U0:CallsIn (Fence.wide.inRound l) (6 - 1 - 1 - 1) prog 101 #[y.enc] W fun e W'=>e = .returned (.int .i64 (Dg y.1.1))/\Below W.heap.size W W'/\W'.cell? ⟨w.heap.size+1,0,none⟩=some (.int .i64 0)/\W'.frozen? ⟨w.heap.size+1,0,none⟩=false:=by
    refine CallsIn.inRound l (callsIn_wide.2 ((Px (pnd y.1.1) ((b7 y).mono (Fu hB)) (Lr he hB)).mono ?_))
    rintro e W' ⟨h1,h2⟩
    have iM:=h2.block (w.heap.size+1) x7
    refine ⟨h1,h2,?_,?_⟩
    ·unfold World.cell? at q0 ⊢; rw [iM]; exact q0
    ·unfold World.frozen? at qf ⊢; rw [iM]; exact qf
   simp only [Nd.enc] at U0 ⊢
   have hxB:∀j,W.cell? ⟨Bx,j,none⟩ = #[Value.int .i64 (Ah y.1.1),.string (AR y.1.1),.int .i64 (DE y.1.1),.slice y.1.2.1 y.1.2.2.1 y.1.2.2.2][j]?:=fun j=>by unfold World.cell?; rw [hbx]; rfl
   have c0:=hxB 0
   have c1:=hxB 1
   have c2:=hxB 2
   have c3:=hxB 3
   clear hxB hbx JH Fy
   generalize hpn:Dg y.1.1=k at U0
   obtain ⟨q,fE,m',c',tI⟩:∃q fE m' c',y.1=(q,fE,m',c'):=⟨_,_,_,_,rfl⟩
   simp only [tI,List.getElem?_toArray,List.getElem?_cons_zero,List.getElem?_cons_succ] at U0 c0 c1 c2 c3 ⊢
   clear tI
   by_cases SU:k=0
   ·subst SU
    gi_wp2_with (refine ⟨trivial,?_⟩; gi_at_call 101; refine U0.mono ?_; clear U0; rintro e W2 ⟨rfl,mZ,p0,pf⟩)
    refine ⟨⟨mZ.size,fun k o _ hk _=>(mZ.block k (Array.getElem?_eq_some_iff.1 hk).1).trans hk⟩,KC.NC mZ,⟨fun z XU=>?_,p0,pf⟩,hB.trans (mZ.mono hB.size)⟩
    rcases List.mem_append.1 XU with h | h
    ·exact hz z h
    ·simp only [List.mem_singleton] at h; subst h; exact hpn
   ·gi_wp2_with (refine ⟨trivial,?_⟩; gi_at_call 101; refine U0.mono ?_; clear U0; rintro e W2 ⟨rfl,mZ,p0,pf⟩)
    have hw2:=World.cell?_setCell_same' W2 ⟨w.heap.size+1,0,none⟩ (.int .i64 k) (by rw [p0]; rfl)
    exact ⟨(show KeepsFrom W4.heap.size W W2 from ⟨mZ.size,fun k o _ hk _=>(mZ.block k (Array.getElem?_eq_some_iff.1 hk).1).trans hk⟩).trans ((KeepsOthers.setCell W2 _ _).from _),
     ⟨rfl,pre,y,rfl,hz,by rw [hpn]; exact SU,by rw [hpn]; exact hw2⟩,(hB.trans (mZ.mono hB.size)).setCell (p:=⟨w.heap.size+1,0,none⟩) sM _⟩
  case done=>
   rintro D ys W hD hS ⟨⟨hz,q0,qf⟩,hB⟩ hK
   gi_wp2
   have hK':=(KeepsOthers.setCell W ⟨w.heap.size+1,0,none⟩ (.int .i64 0)).same D _ hK rfl
   refine ⟨by simp,.inl ⟨_,_,rfl,run_takeDeferred hK',?_⟩⟩
   have uC:=cell_kept (World.cell?_setCell_same' W ⟨w.heap.size+1,0,none⟩ (.int .i64 0) (by rw [q0]; rfl)) (grownBy_putObj' _ D (.deferred none)) (fun r e=>by cases e; exact ⟨_,hK',rfl⟩)
   refine ⟨.int .i64 0,by simp [results,f55,go_sem,uC],?_,?_⟩
   ·have:∀zs:List (Nd g w),(∀z∈zs,Dg z.1.1=0)->BP Dg (zs.map (·.1.1))=0:=fun zs=>by
     induction zs with
     | nil=>intro _; rfl
     | cons a r ih=>intro h; simp only [List.map_cons,BP]; rw [iP (h a sM)]; exact ih fun z hz=>h z (List.mem_cons_of_mem _ hz)
    have h1:=this ys hz
    rw [hS,hx] at h1
    rw [h1]
   ·exact (hB.setCell (p:=⟨w.heap.size+1,0,none⟩) sM _).trans (belowK_b (w:=w) (Nat.le_refl _) _ D _ _ oM hK' rfl rfl)
  case stop=>
   rintro D cdz pre W hD hS ⟨⟨rfl,ps,y,rfl,hz,Ct,q0⟩,hB⟩ hK
   gi_wp2
   refine ⟨by simp,.inl ⟨_,_,rfl,run_takeDeferred hK,?_⟩⟩
   have uC:=cell_kept q0 (grownBy_putObj' _ D (.deferred none)) (fun r e=>by cases e; exact ⟨_,hK,rfl⟩)
   refine ⟨.int .i64 (Dg y.1.1),by simp [results,f55,go_sem,uC],?_,hB.trans (belowK_b (w:=w) (Nat.le_refl _) _ D _ _ oM hK rfl rfl)⟩
   have:∀ (zs:List (Nd g w)) (rest:List Pr),(∀z∈zs,Dg z.1.1=0)->BP Dg ((zs++[y]).map (·.1.1)++rest)=Dg y.1.1:=fun zs rest=>by
    induction zs with
    | nil=>intro _; simp only [List.nil_append,List.map_cons,List.map_nil,List.cons_append,BP]; rw [iN Ct]
    | cons a r ih=>intro h; simp only [List.cons_append,List.map_cons,BP]; rw [iP (h a sM)]; exact ih fun z hz=>h z (List.mem_cons_of_mem _ hz)
   obtain ⟨rest,A2t⟩:=hS
   have h1:=this ps rest hz
   rw [A2t,hx] at h1
   rw [h1]
mutual
theorem n6:∀p:Pr,Ci (CI p)=true
 | .mk o s n ks=>by simp only [Bg,Ci,PV.EN,b9 ks,Bool.and_self]
theorem b9:∀l:List Pr,Cq (Pr.cs l)=true
 | []=>rfl
 | x::r=>by rw [show Pr.cs (x::r)=CI x::Pr.cs r by simp [Pr.Ay],Cq,b9 r,n6 x]; rfl
end
theorem pcT(p:Pr)(hs:A5 (CI p)<=100000000):Pu 55 [.agg (CI p)] (.ret (.int .i64 (Ss p))):=by
 refine Ob.Bn (e':=[]) (by have h1:=n6 p; simp only [Ci,PV.EN,Bool.and_true,Bool.true_and] at h1 ⊢; exact h1) rfl ⟨by kernel_rfl,fun vs g l w ha he=>?_⟩
 obtain ⟨v,fO,rfl,hr,ha'⟩:=ha.Hf
 obtain rfl:=ha'.PD
 obtain ⟨oa,m,c,hk,rfl⟩:∃oa m c,BO g w (.sl 4 (Pr.cs (Bg p))) (.slice oa m c)/\v=Ou p (.slice oa m c):=by
  generalize he:CI p=cs at hr
  cases hr with
  | agg _ vs h1 ho h=>
   subst he
   match vs,h1,h with
   | [v0,v1,v2,v3],_,h=>
    have r0:BO g w (.int .i64 (Ah p)) v0:=h 0 sM sM
    have r1:BO g w (.str (AR p)) v1:=h 1 sM sM
    have r2:BO g w (.int .i64 (DE p)) v2:=h 2 sM sM
    have r3:BO g w (.sl 4 (Pr.cs (Bg p))) v3:=h 3 sM sM
    obtain ⟨oa,m,c,rfl⟩:=aM r3
    cases r0; cases r1; cases r2
    exact ⟨oa,m,c,r3,rfl⟩
 refine (b8 p hs g l w oa m c hk he).mono ?_
 rintro mY w' ⟨rfl,U1⟩
 exact ⟨_,[],g,l,⟨rfl,rfl⟩,.int _ _,Lr he U1,Fu U1,U1.size,fun b hb _=>⟨U1.block b hb,rfl⟩,fun b o ho => .inr (by rw [ho]; rfl),U1.os,U1.tape,U1.output⟩
open Go.Pv Go.Proofs.Tryz
set_option maxRecDepth 100000
theorem E8:∀l:List BA,Cq (A1 l)=true
 | []=>rfl
 | x::r=>by rw [show A1 (x::r)=[.str x]::A1 r by simp [A1],Cq,E8 r]; rfl
abbrev Py(l:List BA)(j:Int)(ks:List BA)  : S:=S.mk [(2,.v (.bool false)),(3,.v (PV.mp 0)),(7,vL 1 (A1 l)),(8,A2 (l.length:Int)),(9,A2 j)] [] [(0,[LV.mm (A6 ks)])]
inductive GQ where
 | e0 (ks:List BA)
 | e1 (ks:List BA)
def Gt  : List BA->(List BA)->GQ
 | [],ks=>(GQ.e1 ks)
 | el::r,ks=>(if CN el ks=true then (GQ.e0 ks) else Gt  r (fD el ks))
noncomputable def IW (l:List BA)  : GQ->A7 × S
 | .e0 ks=>(.ret,S.mk [(2,.v (.bool false)),(3,.v (PV.mp 0)),(7,vL 1 (A1 l)),(8,A2 (l.length:Int))] [] [(0,[LV.mm (A6 ks)])])
 | .e1 ks=>(.exit 0,S.mk [(2,.v (.bool false)),(3,.v (PV.mp 0)),(7,vL 1 (A1 l)),(8,A2 (l.length:Int))] [] [(0,[LV.mm (A6 ks)])])
theorem bA(l:List BA)(hN:l.length<=1000000000)(ks:List BA):(Ob.loop 19 (Am f126 0) (Py l 0 ks) (IW l  (Gt  (List.drop 0 (l))  ks)).1 (IW l  (Gt  (List.drop 0 (l))  ks)).2).ok prog:=by
 refine Ek l.length (fun j ks=>Py l j ks) (fun i ks=>Gt  (List.drop i (l))  ks) (IW l) (fun i ks=>True) kR ?_ ks trivial
 rintro i ks hi -
 rcases Nat.lt_or_ge i (l.length) with Ad | Dm
 ·have hd:=D9 Ad
  by_cases h0:CN (List.getD l i AI) ks=true
  ·exact lX CR [dt ((i:Int)<(l.length:Int)),am ((0:Int)<=(i:Int)/\(i:Int)<((A1 l).length:Int)) (by (simp only [A3]; omega)),ar (List.getD (A1 l) (Int.toNat (i:Int)) []) [.str (List.getD l i AI)] (by simp only [Int.toNat_natCast,Int.toNat_zero]; rw [@BN (l) (i) Ad]; try rfl),av (.v (Eg false (EZ (List.getD l i AI) (A6 ks)) (.bool false))) (.v (.bool (CN (List.getD l i AI) ks))) (by (simp only [CX]; done)),B7 h0] (GQ.e0 ks) (by rw [hd,Gt,iP h0])
  ·exact lS CR [dt ((i:Int)<(l.length:Int)),am ((0:Int)<=(i:Int)/\(i:Int)<((A1 l).length:Int)) (by (simp only [A3]; omega)),ar (List.getD (A1 l) (Int.toNat (i:Int)) []) [.str (List.getD l i AI)] (by simp only [Int.toNat_natCast,Int.toNat_zero]; rw [@BN (l) (i) Ad]; try rfl),av (.v (Eg false (EZ (List.getD l i AI) (A6 ks)) (.bool false))) (.v (.bool (CN (List.getD l i AI) ks))) (by (simp only [CX]; done)),B1 (DC h0),wr ((i:Int)+1)] [2,3,7,8,9] [] Ad (fD (List.getD l i AI) ks) (S.mk [(2,.v (.bool false)),(3,.v (PV.mp 0)),(7,vL 1 (A1 l)),(8,A2 (l.length:Int)),(9,A2 ((i:Int)+1))] [] [(0,[LV.mm (JI (List.getD l i AI) (.bool true) (A6 ks))])]) ⟨⟨W,W,W,W,W,Ar⟩,trivial,(by first | rfl | (simp only [List.nil_append,Av,Aw,Pr.A4,Tp.A4,Ex.A4,Vr.A4,Df.A4,EE]; done) | (simp only [List.nil_append,Av,Aw,Pr.A4,Tp.A4,Ex.A4,Vr.A4,Df.A4,EE]; rfl))⟩ trivial (by rw [hd,Gt,iN h0])
 ·have he:i=l.length:=by omega
  exact lX CR [df ((i:Int)<(l.length:Int))] (GQ.e1 ks) (by rw [he,List.drop_length,Gt])
theorem A2u(l:List BA)(ks:List BA)(hN:l.length<=1000000000)(p0:List BA)(AF:(Gt  (l)  ks)=(GQ.e0 p0)):(Ob.loop 19 (Am f126 0) (Py l 0 ks) (IW l  (GQ.e0 p0)).1 (IW l  (GQ.e0 p0)).2).ok prog:=
 rz (bA l hN ks) AF
theorem A2v(l:List BA)(ks:List BA)(hN:l.length<=1000000000)(p0:List BA)(AF:(Gt  (l)  ks)=(GQ.e1 p0)):(Ob.loop 19 (Am f126 0) (Py l 0 ks) (IW l  (GQ.e1 p0)).1 (IW l  (GQ.e1 p0)).2).ok prog:=
 rz (bA l hN ks) AF
def Bi(l:List BA):Bool:=match Gt l [] with
 | .e0 _=>false
 | .e1 _=>true
theorem ds0(l:List BA)(hN:l.length<=1000000000)(k0:List BA)(AF:Gt l [] = .e0 k0):(Ob.loop 19 (Am f126 0) (Py l 0 []) (IW l (.e0 k0)).1 (IW l (.e0 k0)).2).ok prog:=A2u l [] hN k0 AF
theorem ds1(l:List BA)(hN:l.length<=1000000000)(k0:List BA)(AF:Gt l [] = .e1 k0):(Ob.loop 19 (Am f126 0) (Py l 0 []) (IW l (.e1 k0)).1 (IW l (.e1 k0)).2).ok prog:=A2v l [] hN k0 AF
section
variable (l:List BA) (hN:l.length<=1000000000) (Ee:List BA)
include l hN Ee
theorem n7(Au:Gt l []=GQ.e0 Ee):Ef 126 [.sl 1 (A1 l)] ([]) (rB false) ([(0,[LV.mm (A6 Ee)])]):=
 ef CR [sl (A3 l),lp (S.mk [(0,vL 1 (A1 l)),(2,.v (.bool false)),(6,.v (PV.mp 0)),(3,.v (PV.mp 0)),(7,vL 1 (A1 l)),(8,A2 (l.length:Int)),(9,A2 0)] [] [(0,[LV.mm []])]) (@ds0 (l) hN Ee Au) xr] func126
theorem n8(Au:Gt l []=GQ.e1 Ee):Ef 126 [.sl 1 (A1 l)] ([]) (rB true) ([(0,[LV.mm (A6 Ee)])]):=
 ef CR [sl (A3 l),lp (S.mk [(0,vL 1 (A1 l)),(2,.v (.bool false)),(6,.v (PV.mp 0)),(3,.v (PV.mp 0)),(7,vL 1 (A1 l)),(8,A2 (l.length:Int)),(9,A2 0)] [] [(0,[LV.mm []])]) (@ds1 (l) hN Ee Au) xr] func126
end
theorem dsT(l:List BA)(hN:l.length<=1000000000):Pu 126 [.sl 1 (A1 l)] (.ret (.bool (Bi l))):=by
 have hx:Ci [.sl 1 (A1 l)]=true:=by rw [Ci,PV.EN,E8]; rfl
 unfold Bi
 cases h:Gt l [] with
 | e0 k=>first | exact Ob.Bn hx rfl (n7 l hN k h) | exact Ob.Bn hx rfl (n8 l hN k h)
 | e1 k=>first | exact Ob.Bn hx rfl (n7 l hN k h) | exact Ob.Bn hx rfl (n8 l hN k h)
theorem QE(l:List BA)(hN:l.length<=1000000000):Pu 261 [.sl 1 (A1 l)] (rB !Bi l):=
 pm An [cl (@dsT (l) hN)] func261
abbrev n9(l:List Pm)(j:Int)(out:List BA)(e:Ext):S:=S.mk [(2,.v .Ab),(3,.uniq 9 1 (A1 out)),(6,vL 10 (Pm.cs l)),(7,A2 (l.length:Int)),(8,A2 j)] [] e
def Ai  : List Pm->(List BA)->(List BA)
 | [],out=>(out)
 | el::r,out=>Ai  r (out++[BR el])
def bB(l:List Pm)(e:Ext)(p:(List BA)):A7 × S:=(.exit 0,S.mk [(2,.v .Ab),(3,.uniq 9 1 (A1 p)),(6,vL 10 (Pm.cs l)),(7,A2 (l.length:Int))] [] e)
theorem bdA(l:List Pm)(out:List BA)(e:Ext)(hN:l.length<=1000000000)(hv:List.length out<=0):(Ob.loop 19 (Am f260 0) (n9 l 0 out e) (bB l e (Ai  (l)  out)).1 (bB l e (Ai  (l)  out)).2).ok prog:=by
 refine Ek l.length (fun j out=>n9 l j out e) (fun i out=>Ai  (List.drop i (l))  out) (bB l e) (fun i out=>(out.length<=i)) kR ?_ out (by first | exact hv | omega)
 rintro i out hi hv
 try simp only at hv
 rcases Nat.lt_or_ge i (l.length) with Ad | Dm
 ·have hd:=AN Ad
  exact lS An [dt ((i:Int)<(l.length:Int)),am ((0:Int)<=(i:Int)/\(i:Int)<((Pm.cs l).length:Int)) (by (simp only [Pm.A0]; omega)),ar (List.getD (Pm.cs l) (Int.toNat (i:Int)) []) (KW (List.getD l i default)) (by simp only [Int.toNat_natCast,Int.toNat_zero]; rw [@Pm.B0 (l) (i) Ad]; try rfl),am (List.length (A1 out++(fun x=>Prod.snd x) (0+1,[[.str (BR (List.getD l i default))]])) * (15+1)<=140737488355328) (by (simp only [List.length_append,List.length_cons,List.length_nil,A3]; omega)),wr ((i:Int)+1)] [2,3,6,7,8] [] Ad (out++[BR (List.getD l i default)]) (S.mk [(2,.v .Ab),(3,.uniq 9 1 (A1 out++[[PV.str (BR (List.getD l i default))]])),(6,vL 10 (Pm.cs l)),(7,A2 (l.length:Int)),(8,A2 ((i:Int)+1))] [] e) ⟨⟨W,(.inl (by first | (simp only [List.nil_append,Av,Aw,Pr.A4,Tp.A4,Ex.A4,Vr.A4,Df.A4,EE]; done) | (simp only [List.nil_append,Av,Aw,Pr.A4,Tp.A4,Ex.A4,Vr.A4,Df.A4,EE]; rfl))),W,W,W,Ar⟩,trivial,rfl⟩ (by first | assumption | omega | (simp only [List.length_append,List.length_cons,List.length_nil] at *; omega) | simp_all) (by rw [hd,Ai])
 ·have he:i=l.length:=by omega
  exact lX An [df ((i:Int)<(l.length:Int))] (out) (by rw [he,List.drop_length,Ai])
theorem nA:∀ (l:List Pm) (out:List BA),Ai l out=out++l.map BR
 | [],out=>by simp [Ai]
 | p::r,out=>by simp [Ai,nA r]
theorem Mp(l:List Pm)(hN:l.length<=1000000000):Pu 260 [.sl 10 (Pm.cs l)] (.own 9 1 (A1 (Ai l []))):=
 pu An (fun e=>[sl (Pm.A0 l),lp (S.mk [(0,vL 10 (Pm.cs l)),(2,.v .Ab),(3,.v .Ab),(6,vL 10 (Pm.cs l)),(7,A2 (l.length:Int)),(8,A2 0)] [] e) (@bdA (l) ([]) (e) hN (by (simp only [List.length_nil]; omega))) ⟨⟨W,Wq,W,W,W,Ar⟩,trivial,rfl⟩]) func260
abbrev nB(l:List Al)(j:Int)(out:List BA)(e:Ext):S:=S.mk [(2,.v .Ab),(3,.uniq 9 1 (A1 out)),(6,vL 9 (Al.cs l)),(7,A2 (l.length:Int)),(8,A2 j)] [] e
def B4  : List Al->(List BA)->(List BA)
 | [],out=>(out)
 | el::r,out=>B4  r (out++[FT el])
def bC(l:List Al)(e:Ext)(p:(List BA)):A7 × S:=(.exit 0,S.mk [(2,.v .Ab),(3,.uniq 9 1 (A1 p)),(6,vL 9 (Al.cs l)),(7,A2 (l.length:Int))] [] e)
theorem coA(l:List Al)(out:List BA)(e:Ext)(hN:l.length<=1000000000)(hv:List.length out<=0):(Ob.loop 19 (Am f262 0) (nB l 0 out e) (bC l e (B4  (l)  out)).1 (bC l e (B4  (l)  out)).2).ok prog:=by
 refine Ek l.length (fun j out=>nB l j out e) (fun i out=>B4  (List.drop i (l))  out) (bC l e) (fun i out=>(out.length<=i)) kR ?_ out (by first | exact hv | omega)
 rintro i out hi hv
 try simp only at hv
 rcases Nat.lt_or_ge i (l.length) with Ad | Dm
 ·have hd:=AN Ad
  exact lS An [dt ((i:Int)<(l.length:Int)),am ((0:Int)<=(i:Int)/\(i:Int)<((Al.cs l).length:Int)) (by (simp only [Al.A0]; omega)),ar (List.getD (Al.cs l) (Int.toNat (i:Int)) []) (I4 (List.getD l i default)) (by simp only [Int.toNat_natCast,Int.toNat_zero]; rw [@Al.B0 (l) (i) Ad]; try rfl),am (List.length (A1 out++(fun x=>Prod.snd x) (0+1,[[.str (FT (List.getD l i default))]])) * (15+1)<=140737488355328) (by (simp only [List.length_append,List.length_cons,List.length_nil,A3]; omega)),wr ((i:Int)+1)] [2,3,6,7,8] [] Ad (out++[FT (List.getD l i default)]) (S.mk [(2,.v .Ab),(3,.uniq 9 1 (A1 out++[[PV.str (FT (List.getD l i default))]])),(6,vL 9 (Al.cs l)),(7,A2 (l.length:Int)),(8,A2 ((i:Int)+1))] [] e) ⟨⟨W,(.inl (by first | (simp only [List.nil_append,Av,Aw,Pr.A4,Tp.A4,Ex.A4,Vr.A4,Df.A4,EE]; done) | (simp only [List.nil_append,Av,Aw,Pr.A4,Tp.A4,Ex.A4,Vr.A4,Df.A4,EE]; rfl))),W,W,W,Ar⟩,trivial,rfl⟩ (by first | assumption | omega | (simp only [List.length_append,List.length_cons,List.length_nil] at *; omega) | simp_all) (by rw [hd,B4])
 ·have he:i=l.length:=by omega
  exact lX An [df ((i:Int)<(l.length:Int))] (out) (by rw [he,List.drop_length,B4])
theorem nC:∀ (l:List Al) (out:List BA),B4 l out=out++l.map FT
 | [],out=>by simp [B4]
 | p::r,out=>by simp [B4,nC r]
theorem y3(l:List Al)(hN:l.length<=1000000000):Pu 262 [.sl 9 (Al.cs l)] (.own 9 1 (A1 (B4 l []))):=
 pu An (fun e=>[sl (Al.A0 l),lp (S.mk [(0,vL 9 (Al.cs l)),(2,.v .Ab),(3,.v .Ab),(6,vL 9 (Al.cs l)),(7,A2 (l.length:Int)),(8,A2 0)] [] e) (@coA (l) ([]) (e) hN (by (simp only [List.length_nil]; omega))) ⟨⟨W,Wq,W,W,W,Ar⟩,trivial,rfl⟩]) func262
def HY{α:Type}(pe:α->Bool)(l:List α):Int:=if l.findIdx pe<l.length then (l.findIdx pe:Int) else -1
abbrev Vg(l:List BA)(g:Nat)(Aa:List PV)(pe:BA->Bool)(j:Int)(e:Ext):S:=S.mk [(0,vL 1 (A1 l)),(1,.v (.fn (.func g) [] Aa)),(4,A2 0),(7,A2 (l.length:Int)),(8,A2 j)] [] e
inductive GR where
 | e0 (i:Nat)
 | e1
def FH(pe:BA->Bool):List BA->Nat->GR
 | [],i=>(GR.e1)
 | el::r,i=>(if pe el=true then (GR.e0 i) else FH pe r (i+1))
def ND(l:List BA)(g:Nat)(Aa:List PV)(pe:BA->Bool)(e:Ext):GR->A7 × S
 | .e0 i=>(.ret,S.mk [(0,vL 1 (A1 l)),(1,.v (.fn (.func g) [] Aa)),(4,A2 (i:Int)),(7,A2 (l.length:Int))] [] e)
 | .e1=>(.exit 0,S.mk [(0,vL 1 (A1 l)),(1,.v (.fn (.func g) [] Aa)),(4,A2 0),(7,A2 (l.length:Int))] [] e)
theorem bD(l:List BA)(g:Nat)(Aa:List PV)(pe:BA->Bool)(BY:∀ (w:BA),w∈l->Pu g (.str w::Aa) (.ret (.bool (pe w))))(e:Ext)(hN:l.length<=1000000000):(Ob.loop 19 (Am f267 0) (Vg l g Aa pe 0  e) (ND l g Aa pe e (FH pe (List.drop 0 (l)) 0)).1 (ND l g Aa pe e (FH pe (List.drop 0 (l)) 0)).2).ok prog:=by
 refine Ek l.length (fun j _=>Vg l g Aa pe j  e) (fun i _=>FH pe (List.drop i (l)) i) (ND l g Aa pe e) (fun i _=>True) kR ?_ () trivial
 rintro i u hi -
 rcases Nat.lt_or_ge i (l.length) with Ad | Dm
 ·have hd:=D9 Ad
  by_cases h0:pe (List.getD l i AI)=true
  ·exact lX An [dt ((i:Int)<(l.length:Int)),am ((0:Int)<=(i:Int)/\(i:Int)<((A1 l).length:Int)) (by (simp only [A3]; omega)),ar (List.getD (A1 l) (Int.toNat (i:Int)) []) [.str (List.getD l i AI)] (by simp only [Int.toNat_natCast,Int.toNat_zero]; rw [@BN (l) (i) Ad]; try rfl),cl (@BY (List.getD l i AI) (by simp_all [List.length_map,List.length_append,List.length_cons,List.length_nil,A3,Pr.A0,Tp.A0,Pm.A0,Ex.A0,Al.A0,Vr.A0,Cn.A0,Da.A0,Cl.A0,Bo.A0,Df.A0,In.A0,Cs.A0,Ms.A0,Qu.A0,Int.toNat_natCast,Es,CX,Int.toNat_zero,Fg,Bool.not_eq_true,Bool.not_eq_false])),B7 h0] (GR.e0 i) (by rw [hd,FH,iP h0])
  ·exact lN An [dt ((i:Int)<(l.length:Int)),am ((0:Int)<=(i:Int)/\(i:Int)<((A1 l).length:Int)) (by (simp only [A3]; omega)),ar (List.getD (A1 l) (Int.toNat (i:Int)) []) [.str (List.getD l i AI)] (by simp only [Int.toNat_natCast,Int.toNat_zero]; rw [@BN (l) (i) Ad]; try rfl),cl (@BY (List.getD l i AI) (by simp_all [List.length_map,List.length_append,List.length_cons,List.length_nil,A3,Pr.A0,Tp.A0,Pm.A0,Ex.A0,Al.A0,Vr.A0,Cn.A0,Da.A0,Cl.A0,Bo.A0,Df.A0,In.A0,Cs.A0,Ms.A0,Qu.A0,Int.toNat_natCast,Es,CX,Int.toNat_zero,Fg,Bool.not_eq_true,Bool.not_eq_false])),B1 (DC h0),wr ((i:Int)+1)] Ad () trivial (by rw [hd,FH,iN h0])
 ·have he:i=l.length:=by omega
  exact lX An [df ((i:Int)<(l.length:Int))] (GR.e1) (by rw [he,List.drop_length,FH])
theorem A2w(l:List BA)(g:Nat)(Aa:List PV)(pe:BA->Bool)(BY:∀ (w:BA),w∈l->Pu g (.str w::Aa) (.ret (.bool (pe w))))(e:Ext)(hN:l.length<=1000000000)(p0:Nat)(AF:(FH pe (l) 0)=(GR.e0 p0)):(Ob.loop 19 (Am f267 0) (Vg l g Aa pe 0  e) (ND l g Aa pe e (GR.e0 p0)).1 (ND l g Aa pe e (GR.e0 p0)).2).ok prog:=
 rz (bD l g Aa pe BY e hN) AF
theorem A2x(l:List BA)(g:Nat)(Aa:List PV)(pe:BA->Bool)(BY:∀ (w:BA),w∈l->Pu g (.str w::Aa) (.ret (.bool (pe w))))(e:Ext)(hN:l.length<=1000000000)(AF:(FH pe (l) 0)=(GR.e1)):(Ob.loop 19 (Am f267 0) (Vg l g Aa pe 0  e) (ND l g Aa pe e (GR.e1)).1 (ND l g Aa pe e (GR.e1)).2).ok prog:=
 rz (bD l g Aa pe BY e hN) AF
theorem bE(pe:BA->Bool):∀ (l:List BA) (k:Nat),FH pe l k=if l.findIdx pe<l.length then .e0 (k+l.findIdx pe) else .e1
 | [],k=>by simp [FH]
 | c::r,k=>by
  by_cases h:pe c=true
  ·simp [FH,h,List.findIdx_cons]
  ·have h':pe c=false:=by cases hh:pe c <;> simp_all
   simp only [FH,h',Bool.false_eq_true,if_false,bE pe r (k+1),List.length_cons,List.findIdx_cons,cond_false]
   by_cases h2:r.findIdx pe<r.length
   ·rw [iP h2,iP oM]; congr 1; omega
   ·rw [iN h2,iN oM]
section
variable (l:List BA) (g:Nat) (Aa:List PV) (pe:BA->Bool) (BY:∀ (w:BA),w∈l->Pu g (.str w::Aa) (.ret (.bool (pe w)))) (hN:l.length<=1000000000)
include l g Aa pe BY hN
theorem bF(Ee:Nat)(Au:FH pe l 0=GR.e0 Ee):Pu 267 [.sl 1 (A1 l),.fn (.func g) [] Aa] (rI (Ee:Int)):=
 pu An (fun e=>[sl (A3 l),lp (S.mk [(0,vL 1 (A1 l)),(1,.v (.fn (.func g) [] Aa)),(4,A2 0),(6,vL 1 (A1 l)),(7,A2 (l.length:Int)),(8,A2 0)] [] e) (@A2w (l) (g) (Aa) (pe) BY (e) hN Ee Au) xr]) func267
theorem bG(Ak:FH pe l 0=GR.e1):Pu 267 [.sl 1 (A1 l),.fn (.func g) [] Aa] (rI (-1)):=
 pu An (fun e=>[sl (A3 l),lp (S.mk [(0,vL 1 (A1 l)),(1,.v (.fn (.func g) [] Aa)),(4,A2 0),(6,vL 1 (A1 l)),(7,A2 (l.length:Int)),(8,A2 0)] [] e) (@A2x (l) (g) (Aa) (pe) BY (e) hN Ak) xr]) func267
end
theorem A8q(l:List BA)(g:Nat)(Aa:List PV)(pe:BA->Bool)(BY:∀ (w:BA),w∈l->Pu g (.str w::Aa) (.ret (.bool (pe w))))(hN:l.length<=1000000000):Pu 267 [.sl 1 (A1 l),.fn (.func g) [] Aa] (.ret (.int .i64 (HY pe l))):=by
 unfold HY
 by_cases h:l.findIdx pe<l.length
 ·rw [iP h]; have e:FH pe l 0 = .e0 (l.findIdx pe):=by rw [bE,iP h,Nat.zero_add]
  first | exact bF l g Aa pe BY hN _ e | exact bG l g Aa pe BY hN _ e
 ·rw [iN h]; have e:FH pe l 0 = .e1:=by rw [bE,iN h]
  first | exact bF l g Aa pe BY hN e | exact bG l g Aa pe BY hN e
theorem cfN(l:List BA)(g:Nat)(Aa:List PV)(pe:BA->Bool)(BY:∀ (w:BA),w∈l->Pu g (.str w::Aa) (.ret (.bool (pe w))))(hN:l.length<=1000000000):Pu 263 [.sl 1 (A1 l),.fn (.func g) [] Aa] (rB (decide (HY pe l>=0))):=
 pm An [cl (@A8q (l) (g) (Aa) (pe) BY hN)] func263
abbrev Vh(l:List Tp)(g:Nat)(Aa:List PV)(pe:Tp->Bool)(j:Int)(e:Ext):S:=S.mk [(0,vL 9 (Tp.cs l)),(1,.v (.fn (.func g) [] Aa)),(4,A2 0),(7,A2 (l.length:Int)),(8,A2 j)] [] e
inductive GS where
 | e0 (i:Nat)
 | e1
def FI(pe:Tp->Bool):List Tp->Nat->GS
 | [],i=>(GS.e1)
 | el::r,i=>(if pe el=true then (GS.e0 i) else FI pe r (i+1))
def NF(l:List Tp)(g:Nat)(Aa:List PV)(pe:Tp->Bool)(e:Ext):GS->A7 × S
 | .e0 i=>(.ret,S.mk [(0,vL 9 (Tp.cs l)),(1,.v (.fn (.func g) [] Aa)),(4,A2 (i:Int)),(7,A2 (l.length:Int))] [] e)
 | .e1=>(.exit 0,S.mk [(0,vL 9 (Tp.cs l)),(1,.v (.fn (.func g) [] Aa)),(4,A2 0),(7,A2 (l.length:Int))] [] e)
theorem bH(l:List Tp)(g:Nat)(Aa:List PV)(pe:Tp->Bool)(BY:∀ (w:Tp),w∈l->Pu g (.agg (BI w)::Aa) (.ret (.bool (pe w))))(e:Ext)(hN:l.length<=1000000000):(Ob.loop 19 (Am f174 0) (Vh l g Aa pe 0  e) (NF l g Aa pe e (FI pe (List.drop 0 (l)) 0)).1 (NF l g Aa pe e (FI pe (List.drop 0 (l)) 0)).2).ok prog:=by
 refine Ek l.length (fun j _=>Vh l g Aa pe j  e) (fun i _=>FI pe (List.drop i (l)) i) (NF l g Aa pe e) (fun i _=>True) kR ?_ () trivial
 rintro i u hi -
 rcases Nat.lt_or_ge i (l.length) with Ad | Dm
 ·have hd:=AN Ad
  by_cases h0:pe (List.getD l i default)=true
  ·exact lX An [dt ((i:Int)<(l.length:Int)),am ((0:Int)<=(i:Int)/\(i:Int)<((Tp.cs l).length:Int)) (by (simp only [Tp.A0]; omega)),ar (List.getD (Tp.cs l) (Int.toNat (i:Int)) []) (BI (List.getD l i default)) (by simp only [Int.toNat_natCast,Int.toNat_zero]; rw [@Tp.B0 (l) (i) Ad]; try rfl),cl (@BY (List.getD l i default) (by simp_all [List.length_map,List.length_append,List.length_cons,List.length_nil,A3,Pr.A0,Tp.A0,Pm.A0,Ex.A0,Al.A0,Vr.A0,Cn.A0,Da.A0,Cl.A0,Bo.A0,Df.A0,In.A0,Cs.A0,Ms.A0,Qu.A0,Int.toNat_natCast,Es,CX,Int.toNat_zero,Fg,Bool.not_eq_true,Bool.not_eq_false])),B7 h0] (GS.e0 i) (by rw [hd,FI,iP h0])
  ·exact lN An [dt ((i:Int)<(l.length:Int)),am ((0:Int)<=(i:Int)/\(i:Int)<((Tp.cs l).length:Int)) (by (simp only [Tp.A0]; omega)),ar (List.getD (Tp.cs l) (Int.toNat (i:Int)) []) (BI (List.getD l i default)) (by simp only [Int.toNat_natCast,Int.toNat_zero]; rw [@Tp.B0 (l) (i) Ad]; try rfl),cl (@BY (List.getD l i default) (by simp_all [List.length_map,List.length_append,List.length_cons,List.length_nil,A3,Pr.A0,Tp.A0,Pm.A0,Ex.A0,Al.A0,Vr.A0,Cn.A0,Da.A0,Cl.A0,Bo.A0,Df.A0,In.A0,Cs.A0,Ms.A0,Qu.A0,Int.toNat_natCast,Es,CX,Int.toNat_zero,Fg,Bool.not_eq_true,Bool.not_eq_false])),B1 (DC h0),wr ((i:Int)+1)] Ad () trivial (by rw [hd,FI,iN h0])
 ·have he:i=l.length:=by omega
  exact lX An [df ((i:Int)<(l.length:Int))] (GS.e1) (by rw [he,List.drop_length,FI])
theorem A2y(l:List Tp)(g:Nat)(Aa:List PV)(pe:Tp->Bool)(BY:∀ (w:Tp),w∈l->Pu g (.agg (BI w)::Aa) (.ret (.bool (pe w))))(e:Ext)(hN:l.length<=1000000000)(p0:Nat)(AF:(FI pe (l) 0)=(GS.e0 p0)):(Ob.loop 19 (Am f174 0) (Vh l g Aa pe 0  e) (NF l g Aa pe e (GS.e0 p0)).1 (NF l g Aa pe e (GS.e0 p0)).2).ok prog:=
 rz (bH l g Aa pe BY e hN) AF
theorem A2z(l:List Tp)(g:Nat)(Aa:List PV)(pe:Tp->Bool)(BY:∀ (w:Tp),w∈l->Pu g (.agg (BI w)::Aa) (.ret (.bool (pe w))))(e:Ext)(hN:l.length<=1000000000)(AF:(FI pe (l) 0)=(GS.e1)):(Ob.loop 19 (Am f174 0) (Vh l g Aa pe 0  e) (NF l g Aa pe e (GS.e1)).1 (NF l g Aa pe e (GS.e1)).2).ok prog:=
 rz (bH l g Aa pe BY e hN) AF
theorem bI(pe:Tp->Bool):∀ (l:List Tp) (k:Nat),FI pe l k=if l.findIdx pe<l.length then .e0 (k+l.findIdx pe) else .e1
 | [],k=>by simp [FI]
 | c::r,k=>by
  by_cases h:pe c=true
  ·simp [FI,h,List.findIdx_cons]
  ·have h':pe c=false:=by cases hh:pe c <;> simp_all
   simp only [FI,h',Bool.false_eq_true,if_false,bI pe r (k+1),List.length_cons,List.findIdx_cons,cond_false]
   by_cases h2:r.findIdx pe<r.length
   ·rw [iP h2,iP oM]; congr 1; omega
   ·rw [iN h2,iN oM]
section
variable (l:List Tp) (g:Nat) (Aa:List PV) (pe:Tp->Bool) (BY:∀ (w:Tp),w∈l->Pu g (.agg (BI w)::Aa) (.ret (.bool (pe w)))) (hN:l.length<=1000000000)
include l g Aa pe BY hN
theorem bJ(Ee:Nat)(Au:FI pe l 0=GS.e0 Ee):Pu 174 [.sl 9 (Tp.cs l),.fn (.func g) [] Aa] (rI (Ee:Int)):=
 pu An (fun e=>[sl (Tp.A0 l),lp (S.mk [(0,vL 9 (Tp.cs l)),(1,.v (.fn (.func g) [] Aa)),(4,A2 0),(6,vL 9 (Tp.cs l)),(7,A2 (l.length:Int)),(8,A2 0)] [] e) (@A2y (l) (g) (Aa) (pe) BY (e) hN Ee Au) xr]) func174
theorem bK(Ak:FI pe l 0=GS.e1):Pu 174 [.sl 9 (Tp.cs l),.fn (.func g) [] Aa] (rI (-1)):=
 pu An (fun e=>[sl (Tp.A0 l),lp (S.mk [(0,vL 9 (Tp.cs l)),(1,.v (.fn (.func g) [] Aa)),(4,A2 0),(6,vL 9 (Tp.cs l)),(7,A2 (l.length:Int)),(8,A2 0)] [] e) (@A2z (l) (g) (Aa) (pe) BY (e) hN Ak) xr]) func174
end
theorem A8r(l:List Tp)(g:Nat)(Aa:List PV)(pe:Tp->Bool)(BY:∀ (w:Tp),w∈l->Pu g (.agg (BI w)::Aa) (.ret (.bool (pe w))))(hN:l.length<=1000000000):Pu 174 [.sl 9 (Tp.cs l),.fn (.func g) [] Aa] (.ret (.int .i64 (HY pe l))):=by
 unfold HY
 by_cases h:l.findIdx pe<l.length
 ·rw [iP h]; have e:FI pe l 0 = .e0 (l.findIdx pe):=by rw [bI,iP h,Nat.zero_add]
  first | exact bJ l g Aa pe BY hN _ e | exact bK l g Aa pe BY hN _ e
 ·rw [iN h]; have e:FI pe l 0 = .e1:=by rw [bI,iN h]
  first | exact bJ l g Aa pe BY hN e | exact bK l g Aa pe BY hN e
theorem cfT(l:List Tp)(g:Nat)(Aa:List PV)(pe:Tp->Bool)(BY:∀ (w:Tp),w∈l->Pu g (.agg (BI w)::Aa) (.ret (.bool (pe w))))(hN:l.length<=1000000000):Pu 129 [.sl 9 (Tp.cs l),.fn (.func g) [] Aa] (rB (decide (HY pe l>=0))):=
 pm An [cl (@A8r (l) (g) (Aa) (pe) BY hN)] func129
abbrev Vi(l:List Cn)(g:Nat)(Aa:List PV)(pe:Cn->Bool)(j:Int)(e:Ext):S:=S.mk [(0,vL 3 (Cn.cs l)),(1,.v (.fn (.func g) [] Aa)),(4,A2 0),(7,A2 (l.length:Int)),(8,A2 j)] [] e
inductive GU where
 | e0 (i:Nat)
 | e1
def FJ(pe:Cn->Bool):List Cn->Nat->GU
 | [],i=>(GU.e1)
 | el::r,i=>(if pe el=true then (GU.e0 i) else FJ pe r (i+1))
def NG(l:List Cn)(g:Nat)(Aa:List PV)(pe:Cn->Bool)(e:Ext):GU->A7 × S
 | .e0 i=>(.ret,S.mk [(0,vL 3 (Cn.cs l)),(1,.v (.fn (.func g) [] Aa)),(4,A2 (i:Int)),(7,A2 (l.length:Int))] [] e)
 | .e1=>(.exit 0,S.mk [(0,vL 3 (Cn.cs l)),(1,.v (.fn (.func g) [] Aa)),(4,A2 0),(7,A2 (l.length:Int))] [] e)
theorem bL(l:List Cn)(g:Nat)(Aa:List PV)(pe:Cn->Bool)(BY:∀ (w:Cn),w∈l->Pu g (.agg (KX w)::Aa) (.ret (.bool (pe w))))(e:Ext)(hN:l.length<=1000000000):(Ob.loop 19 (Am f93 0) (Vi l g Aa pe 0  e) (NG l g Aa pe e (FJ pe (List.drop 0 (l)) 0)).1 (NG l g Aa pe e (FJ pe (List.drop 0 (l)) 0)).2).ok prog:=by
 refine Ek l.length (fun j _=>Vi l g Aa pe j  e) (fun i _=>FJ pe (List.drop i (l)) i) (NG l g Aa pe e) (fun i _=>True) kR ?_ () trivial
 rintro i u hi -
 rcases Nat.lt_or_ge i (l.length) with Ad | Dm
 ·have hd:=AN Ad
  by_cases h0:pe (List.getD l i default)=true
  ·exact lX An [dt ((i:Int)<(l.length:Int)),am ((0:Int)<=(i:Int)/\(i:Int)<((Cn.cs l).length:Int)) (by (simp only [Cn.A0]; omega)),ar (List.getD (Cn.cs l) (Int.toNat (i:Int)) []) (KX (List.getD l i default)) (by simp only [Int.toNat_natCast,Int.toNat_zero]; rw [@Cn.B0 (l) (i) Ad]; try rfl),cl (@BY (List.getD l i default) (by simp_all [List.length_map,List.length_append,List.length_cons,List.length_nil,A3,Pr.A0,Tp.A0,Pm.A0,Ex.A0,Al.A0,Vr.A0,Cn.A0,Da.A0,Cl.A0,Bo.A0,Df.A0,In.A0,Cs.A0,Ms.A0,Qu.A0,Int.toNat_natCast,Es,CX,Int.toNat_zero,Fg,Bool.not_eq_true,Bool.not_eq_false])),B7 h0] (GU.e0 i) (by rw [hd,FJ,iP h0])
  ·exact lN An [dt ((i:Int)<(l.length:Int)),am ((0:Int)<=(i:Int)/\(i:Int)<((Cn.cs l).length:Int)) (by (simp only [Cn.A0]; omega)),ar (List.getD (Cn.cs l) (Int.toNat (i:Int)) []) (KX (List.getD l i default)) (by simp only [Int.toNat_natCast,Int.toNat_zero]; rw [@Cn.B0 (l) (i) Ad]; try rfl),cl (@BY (List.getD l i default) (by simp_all [List.length_map,List.length_append,List.length_cons,List.length_nil,A3,Pr.A0,Tp.A0,Pm.A0,Ex.A0,Al.A0,Vr.A0,Cn.A0,Da.A0,Cl.A0,Bo.A0,Df.A0,In.A0,Cs.A0,Ms.A0,Qu.A0,Int.toNat_natCast,Es,CX,Int.toNat_zero,Fg,Bool.not_eq_true,Bool.not_eq_false])),B1 (DC h0),wr ((i:Int)+1)] Ad () trivial (by rw [hd,FJ,iN h0])
 ·have he:i=l.length:=by omega
  exact lX An [df ((i:Int)<(l.length:Int))] (GU.e1) (by rw [he,List.drop_length,FJ])
theorem A30(l:List Cn)(g:Nat)(Aa:List PV)(pe:Cn->Bool)(BY:∀ (w:Cn),w∈l->Pu g (.agg (KX w)::Aa) (.ret (.bool (pe w))))(e:Ext)(hN:l.length<=1000000000)(p0:Nat)(AF:(FJ pe (l) 0)=(GU.e0 p0)):(Ob.loop 19 (Am f93 0) (Vi l g Aa pe 0  e) (NG l g Aa pe e (GU.e0 p0)).1 (NG l g Aa pe e (GU.e0 p0)).2).ok prog:=
 rz (bL l g Aa pe BY e hN) AF
theorem A31(l:List Cn)(g:Nat)(Aa:List PV)(pe:Cn->Bool)(BY:∀ (w:Cn),w∈l->Pu g (.agg (KX w)::Aa) (.ret (.bool (pe w))))(e:Ext)(hN:l.length<=1000000000)(AF:(FJ pe (l) 0)=(GU.e1)):(Ob.loop 19 (Am f93 0) (Vi l g Aa pe 0  e) (NG l g Aa pe e (GU.e1)).1 (NG l g Aa pe e (GU.e1)).2).ok prog:=
 rz (bL l g Aa pe BY e hN) AF
theorem bN(pe:Cn->Bool):∀ (l:List Cn) (k:Nat),FJ pe l k=if l.findIdx pe<l.length then .e0 (k+l.findIdx pe) else .e1
 | [],k=>by simp [FJ]
 | c::r,k=>by
  by_cases h:pe c=true
  ·simp [FJ,h,List.findIdx_cons]
  ·have h':pe c=false:=by cases hh:pe c <;> simp_all
   simp only [FJ,h',Bool.false_eq_true,if_false,bN pe r (k+1),List.length_cons,List.findIdx_cons,cond_false]
   by_cases h2:r.findIdx pe<r.length
   ·rw [iP h2,iP oM]; congr 1; omega
   ·rw [iN h2,iN oM]
section
variable (l:List Cn) (g:Nat) (Aa:List PV) (pe:Cn->Bool) (BY:∀ (w:Cn),w∈l->Pu g (.agg (KX w)::Aa) (.ret (.bool (pe w)))) (hN:l.length<=1000000000)
include l g Aa pe BY hN
theorem bO(Ee:Nat)(Au:FJ pe l 0=GU.e0 Ee):Pu 93 [.sl 3 (Cn.cs l),.fn (.func g) [] Aa] (rI (Ee:Int)):=
 pu An (fun e=>[sl (Cn.A0 l),lp (S.mk [(0,vL 3 (Cn.cs l)),(1,.v (.fn (.func g) [] Aa)),(4,A2 0),(6,vL 3 (Cn.cs l)),(7,A2 (l.length:Int)),(8,A2 0)] [] e) (@A30 (l) (g) (Aa) (pe) BY (e) hN Ee Au) xr]) func93
theorem bP(Ak:FJ pe l 0=GU.e1):Pu 93 [.sl 3 (Cn.cs l),.fn (.func g) [] Aa] (rI (-1)):=
 pu An (fun e=>[sl (Cn.A0 l),lp (S.mk [(0,vL 3 (Cn.cs l)),(1,.v (.fn (.func g) [] Aa)),(4,A2 0),(6,vL 3 (Cn.cs l)),(7,A2 (l.length:Int)),(8,A2 0)] [] e) (@A31 (l) (g) (Aa) (pe) BY (e) hN Ak) xr]) func93
end
theorem A8s(l:List Cn)(g:Nat)(Aa:List PV)(pe:Cn->Bool)(BY:∀ (w:Cn),w∈l->Pu g (.agg (KX w)::Aa) (.ret (.bool (pe w))))(hN:l.length<=1000000000):Pu 93 [.sl 3 (Cn.cs l),.fn (.func g) [] Aa] (.ret (.int .i64 (HY pe l))):=by
 unfold HY
 by_cases h:l.findIdx pe<l.length
 ·rw [iP h]; have e:FJ pe l 0 = .e0 (l.findIdx pe):=by rw [bN,iP h,Nat.zero_add]
  first | exact bO l g Aa pe BY hN _ e | exact bP l g Aa pe BY hN _ e
 ·rw [iN h]; have e:FJ pe l 0 = .e1:=by rw [bN,iN h]
  first | exact bO l g Aa pe BY hN e | exact bP l g Aa pe BY hN e
abbrev Vj(l:List Al)(g:Nat)(Aa:List PV)(pe:Al->Bool)(j:Int)(e:Ext):S:=S.mk [(0,vL 9 (Al.cs l)),(1,.v (.fn (.func g) [] Aa)),(4,A2 0),(7,A2 (l.length:Int)),(8,A2 j)] [] e
inductive GV where
 | e0 (i:Nat)
 | e1
def FK(pe:Al->Bool):List Al->Nat->GV
 | [],i=>(GV.e1)
 | el::r,i=>(if pe el=true then (GV.e0 i) else FK pe r (i+1))
def NH(l:List Al)(g:Nat)(Aa:List PV)(pe:Al->Bool)(e:Ext):GV->A7 × S
 | .e0 i=>(.ret,S.mk [(0,vL 9 (Al.cs l)),(1,.v (.fn (.func g) [] Aa)),(4,A2 (i:Int)),(7,A2 (l.length:Int))] [] e)
 | .e1=>(.exit 0,S.mk [(0,vL 9 (Al.cs l)),(1,.v (.fn (.func g) [] Aa)),(4,A2 0),(7,A2 (l.length:Int))] [] e)
theorem bQ(l:List Al)(g:Nat)(Aa:List PV)(pe:Al->Bool)(BY:∀ (w:Al),w∈l->Pu g (.agg (I4 w)::Aa) (.ret (.bool (pe w))))(e:Ext)(hN:l.length<=1000000000):(Ob.loop 19 (Am f266 0) (Vj l g Aa pe 0  e) (NH l g Aa pe e (FK pe (List.drop 0 (l)) 0)).1 (NH l g Aa pe e (FK pe (List.drop 0 (l)) 0)).2).ok prog:=by
 refine Ek l.length (fun j _=>Vj l g Aa pe j  e) (fun i _=>FK pe (List.drop i (l)) i) (NH l g Aa pe e) (fun i _=>True) kR ?_ () trivial
 rintro i u hi -
 rcases Nat.lt_or_ge i (l.length) with Ad | Dm
 ·have hd:=AN Ad
  by_cases h0:pe (List.getD l i default)=true
  ·exact lX An [dt ((i:Int)<(l.length:Int)),am ((0:Int)<=(i:Int)/\(i:Int)<((Al.cs l).length:Int)) (by (simp only [Al.A0]; omega)),ar (List.getD (Al.cs l) (Int.toNat (i:Int)) []) (I4 (List.getD l i default)) (by simp only [Int.toNat_natCast,Int.toNat_zero]; rw [@Al.B0 (l) (i) Ad]; try rfl),cl (@BY (List.getD l i default) (by simp_all [List.length_map,List.length_append,List.length_cons,List.length_nil,A3,Pr.A0,Tp.A0,Pm.A0,Ex.A0,Al.A0,Vr.A0,Cn.A0,Da.A0,Cl.A0,Bo.A0,Df.A0,In.A0,Cs.A0,Ms.A0,Qu.A0,Int.toNat_natCast,Es,CX,Int.toNat_zero,Fg,Bool.not_eq_true,Bool.not_eq_false])),B7 h0] (GV.e0 i) (by rw [hd,FK,iP h0])
  ·exact lN An [dt ((i:Int)<(l.length:Int)),am ((0:Int)<=(i:Int)/\(i:Int)<((Al.cs l).length:Int)) (by (simp only [Al.A0]; omega)),ar (List.getD (Al.cs l) (Int.toNat (i:Int)) []) (I4 (List.getD l i default)) (by simp only [Int.toNat_natCast,Int.toNat_zero]; rw [@Al.B0 (l) (i) Ad]; try rfl),cl (@BY (List.getD l i default) (by simp_all [List.length_map,List.length_append,List.length_cons,List.length_nil,A3,Pr.A0,Tp.A0,Pm.A0,Ex.A0,Al.A0,Vr.A0,Cn.A0,Da.A0,Cl.A0,Bo.A0,Df.A0,In.A0,Cs.A0,Ms.A0,Qu.A0,Int.toNat_natCast,Es,CX,Int.toNat_zero,Fg,Bool.not_eq_true,Bool.not_eq_false])),B1 (DC h0),wr ((i:Int)+1)] Ad () trivial (by rw [hd,FK,iN h0])
 ·have he:i=l.length:=by omega
  exact lX An [df ((i:Int)<(l.length:Int))] (GV.e1) (by rw [he,List.drop_length,FK])
theorem A32(l:List Al)(g:Nat)(Aa:List PV)(pe:Al->Bool)(BY:∀ (w:Al),w∈l->Pu g (.agg (I4 w)::Aa) (.ret (.bool (pe w))))(e:Ext)(hN:l.length<=1000000000)(p0:Nat)(AF:(FK pe (l) 0)=(GV.e0 p0)):(Ob.loop 19 (Am f266 0) (Vj l g Aa pe 0  e) (NH l g Aa pe e (GV.e0 p0)).1 (NH l g Aa pe e (GV.e0 p0)).2).ok prog:=
 rz (bQ l g Aa pe BY e hN) AF
theorem A33(l:List Al)(g:Nat)(Aa:List PV)(pe:Al->Bool)(BY:∀ (w:Al),w∈l->Pu g (.agg (I4 w)::Aa) (.ret (.bool (pe w))))(e:Ext)(hN:l.length<=1000000000)(AF:(FK pe (l) 0)=(GV.e1)):(Ob.loop 19 (Am f266 0) (Vj l g Aa pe 0  e) (NH l g Aa pe e (GV.e1)).1 (NH l g Aa pe e (GV.e1)).2).ok prog:=
 rz (bQ l g Aa pe BY e hN) AF
theorem bR(pe:Al->Bool):∀ (l:List Al) (k:Nat),FK pe l k=if l.findIdx pe<l.length then .e0 (k+l.findIdx pe) else .e1
 | [],k=>by simp [FK]
 | c::r,k=>by
  by_cases h:pe c=true
  ·simp [FK,h,List.findIdx_cons]
  ·have h':pe c=false:=by cases hh:pe c <;> simp_all
   simp only [FK,h',Bool.false_eq_true,if_false,bR pe r (k+1),List.length_cons,List.findIdx_cons,cond_false]
   by_cases h2:r.findIdx pe<r.length
   ·rw [iP h2,iP oM]; congr 1; omega
   ·rw [iN h2,iN oM]
section
variable (l:List Al) (g:Nat) (Aa:List PV) (pe:Al->Bool) (BY:∀ (w:Al),w∈l->Pu g (.agg (I4 w)::Aa) (.ret (.bool (pe w)))) (hN:l.length<=1000000000)
include l g Aa pe BY hN
theorem bS(Ee:Nat)(Au:FK pe l 0=GV.e0 Ee):Pu 266 [.sl 9 (Al.cs l),.fn (.func g) [] Aa] (rI (Ee:Int)):=
 pu An (fun e=>[sl (Al.A0 l),lp (S.mk [(0,vL 9 (Al.cs l)),(1,.v (.fn (.func g) [] Aa)),(4,A2 0),(6,vL 9 (Al.cs l)),(7,A2 (l.length:Int)),(8,A2 0)] [] e) (@A32 (l) (g) (Aa) (pe) BY (e) hN Ee Au) xr]) func266
theorem bT(Ak:FK pe l 0=GV.e1):Pu 266 [.sl 9 (Al.cs l),.fn (.func g) [] Aa] (rI (-1)):=
 pu An (fun e=>[sl (Al.A0 l),lp (S.mk [(0,vL 9 (Al.cs l)),(1,.v (.fn (.func g) [] Aa)),(4,A2 0),(6,vL 9 (Al.cs l)),(7,A2 (l.length:Int)),(8,A2 0)] [] e) (@A33 (l) (g) (Aa) (pe) BY (e) hN Ak) xr]) func266
end
theorem A8t(l:List Al)(g:Nat)(Aa:List PV)(pe:Al->Bool)(BY:∀ (w:Al),w∈l->Pu g (.agg (I4 w)::Aa) (.ret (.bool (pe w))))(hN:l.length<=1000000000):Pu 266 [.sl 9 (Al.cs l),.fn (.func g) [] Aa] (.ret (.int .i64 (HY pe l))):=by
 unfold HY
 by_cases h:l.findIdx pe<l.length
 ·rw [iP h]; have e:FK pe l 0 = .e0 (l.findIdx pe):=by rw [bR,iP h,Nat.zero_add]
  first | exact bS l g Aa pe BY hN _ e | exact bT l g Aa pe BY hN _ e
 ·rw [iN h]; have e:FK pe l 0 = .e1:=by rw [bR,iN h]
  first | exact bS l g Aa pe BY hN e | exact bT l g Aa pe BY hN e
theorem cfA(l:List Al)(g:Nat)(Aa:List PV)(pe:Al->Bool)(BY:∀ (w:Al),w∈l->Pu g (.agg (I4 w)::Aa) (.ret (.bool (pe w))))(hN:l.length<=1000000000):Pu 258 [.sl 9 (Al.cs l),.fn (.func g) [] Aa] (rB (decide (HY pe l>=0))):=
 pm An [cl (@A8t (l) (g) (Aa) (pe) BY hN)] func258
def fF(x y z u:Int):Int:=(if x=0 then (if y=0 then (if z=0 then (if u=0 then 0 else u) else z) else y) else x)
section
variable (x y z u:Int)
include x y z u
theorem Su(Ak:¬x=0):Pu 52 [.sl 1 [[pI x],[pI y],[pI z],[pI u]]] (rI x):=
 pm An [kp,ur,bt true,kp,bt true,ab (x != 0) (Jm Ak)] func52
theorem Sv(Ak:x=0)(Au:¬y=0):Pu 52 [.sl 1 [[pI x],[pI y],[pI z],[pI u]]] (rI y):=
 pm An [kp,ur,bt true,kp,ab true,Bp Ak,kp,bt true,kp,bt true,ab (y != 0) (Jm Au)] func52
theorem Sw(Ak:x=0)(Au:y=0)(AW:¬z=0):Pu 52 [.sl 1 [[pI x],[pI y],[pI z],[pI u]]] (rI z):=
 pm An [kp,ur,bt true,kp,ab true,Bp Ak,kp,bt true,kp,ab true,Bp Au,kp,bt true,kp,bt true,ab (z != 0) (Jm AW)] func52
theorem Sx(Ak:x=0)(Au:y=0)(AW:z=0)(Bt:¬u=0):Pu 52 [.sl 1 [[pI x],[pI y],[pI z],[pI u]]] (rI u):=
 pm An [kp,ur,bt true,kp,ab true,Bp Ak,kp,bt true,kp,ab true,Bp Au,kp,bt true,kp,ab true,Bp AW,kp,bt true,kp,bt true,ab (u != 0) (Jm Bt)] func52
theorem Sy(Ak:x=0)(Au:y=0)(AW:z=0)(Bt:u=0):Pu 52 [.sl 1 [[pI x],[pI y],[pI z],[pI u]]] (rI 0):=
 pm An [kp,ur,bt true,kp,ab true,Bp Ak,kp,bt true,kp,ab true,Bp Au,kp,bt true,kp,ab true,Bp AW,kp,bt true,kp,ab true,Bp Bt,kp,bf false] func52
end
theorem jH(x y z u:Int):Pu 52 [.sl 1 [[.int .i64 x],[.int .i64 y],[.int .i64 z],[.int .i64 u]]] (.ret (.int .i64 (fF x y z u))):=by
 unfold fF
 by_cases h0:x=0
 ·rw [iP h0]
  by_cases h1:y=0
  ·rw [iP h1]
   by_cases h2:z=0
   ·rw [iP h2]
    by_cases h3:u=0
    ·rw [iP h3]; (first | exact Su x y z u h0 h1 h2 h3 | exact Sv x y z u h0 h1 h2 h3 | exact Sw x y z u h0 h1 h2 h3 | exact Sx x y z u h0 h1 h2 h3 | exact Sy x y z u h0 h1 h2 h3)
    ·rw [iN h3]; (first | exact Su x y z u h0 h1 h2 h3 | exact Sv x y z u h0 h1 h2 h3 | exact Sw x y z u h0 h1 h2 h3 | exact Sx x y z u h0 h1 h2 h3 | exact Sy x y z u h0 h1 h2 h3)
   ·rw [iN h2]; (first | exact Su x y z u h0 h1 h2 | exact Sv x y z u h0 h1 h2 | exact Sw x y z u h0 h1 h2 | exact Sx x y z u h0 h1 h2 | exact Sy x y z u h0 h1 h2)
  ·rw [iN h1]; (first | exact Su x y z u h0 h1 | exact Sv x y z u h0 h1 | exact Sw x y z u h0 h1 | exact Sx x y z u h0 h1 | exact Sy x y z u h0 h1)
 ·rw [iN h0]; (first | exact Su x y z u h0 | exact Sv x y z u h0 | exact Sw x y z u h0 | exact Sx x y z u h0 | exact Sy x y z u h0)
theorem BU(l:List BA)(hn:l.length<=1000000000):Pu 103 [.sl 1 (A1 l)] (.own 9 1 (A1 l)):=by
 refine ⟨by kernel_rfl,fun e=>?_⟩
 refine BX.enter func103 rfl (show 1<=8 by decide) fun cx AH PX=>?_
 refine L5 ?_
 refine G8 An 8 50 [] [0] [] (s':=⟨[(0,.v (.sl 1 (A1 l)))],[],e⟩) (pe := .normal) (C6:=[]) (l:=[]) mixed AH kR kR trivial ?_
 show PW _ _ _ _ _
 refine L5 (L5 ?_)
 intro g l0 a w hs
 refine wp_region_lit ?_
 have hn':∀k,k<8->k<cx.n:=fun k hk=>by rw [AH]; exact hk
 refine (Z5 (p := .sl 1 (A1 l)) rfl rfl rfl (hn' _ dD) rfl ?_:PL _ _ _ _ _ _) g l0 a w hs
 refine WD (z:=1) (es:=A1 l) (el:=9) rfl rfl rfl (hn' _ dD) kR rfl fun b hb=>?_
 refine MS ?_
 show PW _ _ _ _ _
 cases b with
 | true=>
  have h0:=hb rfl
  refine PW.eZ (t:=⟨[(4,.v (.bool true))],[],e⟩) ⟨⟨W,Ar⟩,trivial,rfl⟩ ?_
  refine PW.TJ ?_
  refine G8 An 8 50 [Ca.bit true] [2] [] (s':=⟨[(2,.v .Ab)],[],e⟩) (pe := .ret) (C6:=[]) (l:=[.bit true true]) mixed AH kR kR ⟨rfl,Ar⟩ ?_
  refine ⟨⟨[(2,.uniq 9 1 [])],[],e⟩,⟨⟨.inr rfl,Ar⟩,trivial,rfl⟩,?_⟩
  refine .inr ⟨2,9,1,[],rfl,rfl,by decide,?_⟩
  rw [h0]
  exact ⟨rfl,rfl⟩
 | false=>
  refine PW.eZ (t:=⟨[(0,.v (.sl 1 (A1 l))),(4,.v (.bool false))],[],e⟩) ⟨⟨W,W,Ar⟩,trivial,rfl⟩ ?_
  refine G8 An 8 50 [Ca.bit false] [0] [] (s':=⟨[(0,.v (.sl 1 (A1 l)))],[],e⟩) (pe := .normal) (C6:=[]) (l:=[.bit false false]) mixed AH kR kR ⟨rfl,Ar⟩ ?_
  show PW _ _ _ _ _
  refine G8 An 8 50 [] [2] [] (s':=⟨[(2,.uniq 9 1 (A1 l))],[],e⟩) (pe := .ret) (C6:=[]) (l:=[.bit (decide ((A1 l).length * 16<=140737488355328)) true]) mixed AH kR kR ⟨Bu (dT (by rw [A3]; omega)),Ar⟩ ?_
  exact .inr ⟨2,9,1,A1 l,rfl,rfl,by decide,rfl,rfl⟩
theorem an1(m:Mo)(k:Int)(s:BA):Pu 125 [pI k,.str s,.ro (wL m) 0] (rI (AU (Ac s))):=
 pm CR [cl (@IT (m) (s))] func125
theorem anT(m:Mo)(l:List BA)(hN:l.length<=1000000000):Pu 124 [.sl 1 (A1 l),.fn (.func 125) [] [.ro (wL m) 0]] (.ret (.int .i64 (BP (fun s=>AU (Ac s)) l))):=A2l l _ _ _ (fun k w _=>an1 m k w) hN
def Fe(l:List BA):Int:=Ds (BP (fun s=>AU (Ac s)) l) (BT (!(Bi l)) 4)
theorem anL(m:Mo)(l:List BA)(hN:l.length<=1000000000):Pu 72 [.agg (wL m),.sl 1 (A1 l)] (rI (Ds (BP (fun s=>AU (Ac s)) l) (BT (!Bi l) 4))):=
 pm CR [cl (@anT (m) (l) hN),cl (@dsT (l) hN),cl (@DY (!Bi l) (4)),cl (@DI (BP (fun s=>AU (Ac s)) l) (BT (!Bi l) 4))] func72
theorem Pz(m:Mo)(l:List BA)(hN:l.length<=1000000000):Pu 72 [.agg (wL m),.sl 1 (A1 l)] (.ret (.int .i64 (Fe l))):=anL m l hN
abbrev jI(m:Mo)(name:BA)(j:Int)(e:Ext):S:=S.mk [(1,vS name),(4,.lp 4 0),(5,.v (.bool false)),(9,vL 4 (Da.cs (Aj m))),(10,A2 ((Aj m).length:Int)),(11,A2 j)] [(4,[vS AI,.v .Ab,.v .Ab,.v .Ab])] e
inductive KF where
 | e0 (el:Da)
 | e1
def K2(name:BA):List Da->KF
 | []=>(KF.e1)
 | el::r=>(if BS el=name then (KF.e0 el) else K2 name r)
def U2(m:Mo)(name:BA)(e:Ext):KF->A7 × S
 | .e0 el=>(.ret,S.mk [(1,vS name),(4,.lp 4 0),(5,.v (.bool true)),(9,vL 4 (Da.cs (Aj m))),(10,A2 ((Aj m).length:Int))] [(4,JW el)] e)
 | .e1=>(.exit 0,S.mk [(1,vS name),(4,.lp 4 0),(5,.v (.bool false)),(9,vL 4 (Da.cs (Aj m))),(10,A2 ((Aj m).length:Int))] [(4,[vS AI,.v .Ab,.v .Ab,.v .Ab])] e)
theorem nD(m:Mo)(name:BA)(e:Ext)(hN:(Aj m).length<=1000000000):(Ob.loop 22 (Am f82 0) (jI m name 0  e) (U2 m name e (K2 name (List.drop 0 ((Aj m))))).1 (U2 m name e (K2 name (List.drop 0 ((Aj m))))).2).ok prog:=by
 refine Ek ((Aj m).length) (fun j _=>jI m name j  e) (fun i _=>K2 name (List.drop i ((Aj m)))) (U2 m name e) (fun i _=>True) kR ?_ () trivial
 rintro i u hi -
 rcases Nat.lt_or_ge i ((Aj m).length) with Ad | Dm
 ·have hd:=AN Ad
  by_cases h0:BS (List.getD (Aj m) i default)=name
  ·exact lX An [dt ((i:Int)<((Aj m).length:Int)),am ((0:Int)<=(i:Int)/\(i:Int)<((Da.cs (Aj m)).length:Int)) (by (simp only [Da.A0]; omega)),ar (List.getD (Da.cs (Aj m)) (Int.toNat (i:Int)) []) (EO (List.getD (Aj m) i default)) (by simp only [Int.toNat_natCast,Int.toNat_zero]; rw [@Da.B0 (Aj m) (i) Ad]; try rfl),bt (ByteArray.toList (BS (List.getD (Aj m) i default))==ByteArray.toList name) (DZ h0)] (KF.e0 (List.getD ((Aj m)) i default)) (by rw [hd,K2,iP h0])
  ·exact lN An [dt ((i:Int)<((Aj m).length:Int)),am ((0:Int)<=(i:Int)/\(i:Int)<((Da.cs (Aj m)).length:Int)) (by (simp only [Da.A0]; omega)),ar (List.getD (Da.cs (Aj m)) (Int.toNat (i:Int)) []) (EO (List.getD (Aj m) i default)) (by simp only [Int.toNat_natCast,Int.toNat_zero]; rw [@Da.B0 (Aj m) (i) Ad]; try rfl),bf (ByteArray.toList (BS (List.getD (Aj m) i default))==ByteArray.toList name) (HT h0),wr ((i:Int)+1)] Ad () trivial (by rw [hd,K2,iN h0])
 ·have he:i=(Aj m).length:=by omega
  exact lX An [df ((i:Int)<((Aj m).length:Int))] (KF.e1) (by rw [he,List.drop_length,K2])
theorem A8u(m:Mo)(name:BA)(e:Ext)(hN:(Aj m).length<=1000000000)(p0:Da)(AF:(K2 name ((Aj m)))=(KF.e0 p0)):(Ob.loop 22 (Am f82 0) (jI m name 0  e) (U2 m name e (KF.e0 p0)).1 (U2 m name e (KF.e0 p0)).2).ok prog:=
 rz (nD m name e hN) AF
theorem A8v(m:Mo)(name:BA)(e:Ext)(hN:(Aj m).length<=1000000000)(AF:(K2 name ((Aj m)))=(KF.e1)):(Ob.loop 22 (Am f82 0) (jI m name 0  e) (U2 m name e (KF.e1)).1 (U2 m name e (KF.e1)).2).ok prog:=
 rz (nD m name e hN) AF
theorem uF(name:BA):∀l:List Da,K2 name l=if ix BS name l<l.length then .e0 (l.getD (ix BS name l) default) else .e1
 | []=>by simp [K2,ix]
 | c::r=>by
  by_cases h:BS c=name
  ·simp [K2,ix,h]
  ·simp only [K2,ix,h,if_false,uF name r,List.length_cons,Nat.add_lt_add_iff_right,List.getD_cons_succ]
theorem A34(m:Mo)(name:BA)(K1:(Aj m).length<=1048576)(Ee:Da)(Au:K2 name (Aj m)=KF.e0 Ee):Pu 82 [.agg (DJ m),.str name] (.ret (.B6 [.agg (EO Ee),.bool true])):=
 pu An (fun e=>[sl (Da.A0 (Aj m)),lp (S.mk [(0,.v (.agg (DJ m))),(1,vS name),(2,.lp 2 0),(4,.lp 4 0),(5,.v (.bool false)),(8,.lp 2 0),(9,vL 4 (Da.cs (Aj m))),(10,A2 ((Aj m).length:Int)),(11,A2 0)] [(2,E1 m),(4,[vS AI,.v .Ab,.v .Ab,.v .Ab])] e) (@A8u (m) (name) (e) oM Ee Au) xr]) func82
theorem A35(m:Mo)(name:BA)(K1:(Aj m).length<=1048576)(Ak:K2 name (Aj m)=KF.e1):Pu 82 [.agg (DJ m),.str name] (.ret (.B6 [.agg [.str AI,.sl 1 [],.sl 2 [],.sl 3 []],.bool false])):=
 Ob.Ql (Wk.t (Jv.c (Wk.a (kr (kn 1 (kn 2 (kn 3 (Jv.r _)))))) (Jv.r _))) (pu An (fun e=>[sl (Da.A0 (Aj m)),lp (S.mk [(0,.v (.agg (DJ m))),(1,vS name),(2,.lp 2 0),(4,.lp 4 0),(5,.v (.bool false)),(8,.lp 2 0),(9,vL 4 (Da.cs (Aj m))),(10,A2 ((Aj m).length:Int)),(11,A2 0)] [(2,E1 m),(4,[vS AI,.v .Ab,.v .Ab,.v .Ab])] e) (@A8v (m) (name) (e) oM Ak) xr]) func82)
theorem dAT(m:Mo)(name:BA)(K1:(Aj m).length<=1048576)(hx:ix BS name (Aj m)<(Aj m).length):Pu 82 [.agg (DJ m),.str name] (.ret (.B6 [.agg (EO ((Aj m).getD (ix BS name (Aj m)) default)),.bool true])):=
 A34 m name K1 _ (by rw [uF,iP hx])
theorem dAF(m:Mo)(name:BA)(K1:(Aj m).length<=1048576)(hx:¬ix BS name (Aj m)<(Aj m).length):Pu 82 [.agg (DJ m),.str name] (.ret (.B6 [.agg (EO default),.bool false])):=
 A35 m name K1 (by rw [uF,iN hx])
def FL{α:Type}(l:List α):Bool:=decide ((l.length:Int)=0)
theorem nE(l:List BA)(Ak:¬(l.length:Int)=(0:Int)):Pu 90 [.sl 1 (A1 l),.Ab] (rB false):=
 pm An [sl (A3 l),kp,D3 Ak] func90
theorem nF(l:List BA)(Ak:(l.length:Int)=(0:Int)):Pu 90 [.sl 1 (A1 l),.Ab] (rB true):=
 pm An [sl (A3 l),kp,Bp Ak,sl (A3 l),ur,df (0<(l.length:Int))] func90
theorem jJ(l:List BA):Pu 90 [.sl 1 (A1 l),.Ab] (.ret (.bool (FL l))):=by
 unfold FL
 by_cases h:(l.length:Int)=0
 ·rw [decide_eq_true h]; first | exact nF l h | exact nE l h
 ·rw [decide_eq_false h]; first | exact nE l h | exact nF l h
theorem nG(l:List Pr)(Ak:¬(l.length:Int)=(0:Int)):Pu 237 [.sl 4 (Pr.cs l),.Ab,.fn (.func 134) [] []] (rB false):=
 pm An [sl (Pr.A0 l),kp,D3 Ak] func237
theorem nH(l:List Pr)(Ak:(l.length:Int)=(0:Int)):Pu 237 [.sl 4 (Pr.cs l),.Ab,.fn (.func 134) [] []] (rB true):=
 pm An [sl (Pr.A0 l),kp,Bp Ak,sl (Pr.A0 l),ur,df (0<(l.length:Int))] func237
theorem A36(l:List Pr):Pu 237 [.sl 4 (Pr.cs l),.Ab,.fn (.func 134) [] []] (.ret (.bool (FL l))):=by
 unfold FL
 by_cases h:(l.length:Int)=0
 ·rw [decide_eq_true h]; first | exact nH l h | exact nG l h
 ·rw [decide_eq_false h]; first | exact nG l h | exact nH l h
theorem nI(l:List Tp)(Ak:¬(l.length:Int)=(0:Int)):Pu 193 [.sl 9 (Tp.cs l),.Ab,.fn (.func 194) [] []] (rB false):=
 pm An [sl (Tp.A0 l),kp,D3 Ak] func193
theorem nJ(l:List Tp)(Ak:(l.length:Int)=(0:Int)):Pu 193 [.sl 9 (Tp.cs l),.Ab,.fn (.func 194) [] []] (rB true):=
 pm An [sl (Tp.A0 l),kp,Bp Ak,sl (Tp.A0 l),ur,df (0<(l.length:Int))] func193
theorem jK(l:List Tp):Pu 193 [.sl 9 (Tp.cs l),.Ab,.fn (.func 194) [] []] (.ret (.bool (FL l))):=by
 unfold FL
 by_cases h:(l.length:Int)=0
 ·rw [decide_eq_true h]; first | exact nJ l h | exact nI l h
 ·rw [decide_eq_false h]; first | exact nI l h | exact nJ l h
theorem nK(l:List Ex)(Ak:¬(l.length:Int)=(0:Int)):Pu 192 [.sl 7 (Ex.cs l),.Ab,.fn (.func 147) [] []] (rB false):=
 pm An [sl (Ex.A0 l),kp,D3 Ak] func192
theorem nL(l:List Ex)(Ak:(l.length:Int)=(0:Int)):Pu 192 [.sl 7 (Ex.cs l),.Ab,.fn (.func 147) [] []] (rB true):=
 pm An [sl (Ex.A0 l),kp,Bp Ak,sl (Ex.A0 l),ur,df (0<(l.length:Int))] func192
theorem jL(l:List Ex):Pu 192 [.sl 7 (Ex.cs l),.Ab,.fn (.func 147) [] []] (.ret (.bool (FL l))):=by
 unfold FL
 by_cases h:(l.length:Int)=0
 ·rw [decide_eq_true h]; first | exact nL l h | exact nK l h
 ·rw [decide_eq_false h]; first | exact nK l h | exact nL l h
theorem nM(l:List Pm)(Ak:¬(l.length:Int)=(0:Int)):Pu 195 [.sl 10 (Pm.cs l),.Ab,.fn (.func 196) [] []] (rB false):=
 pm An [sl (Pm.A0 l),kp,D3 Ak] func195
theorem nN(l:List Pm)(Ak:(l.length:Int)=(0:Int)):Pu 195 [.sl 10 (Pm.cs l),.Ab,.fn (.func 196) [] []] (rB true):=
 pm An [sl (Pm.A0 l),kp,Bp Ak,sl (Pm.A0 l),ur,df (0<(l.length:Int))] func195
theorem A37(l:List Pm):Pu 195 [.sl 10 (Pm.cs l),.Ab,.fn (.func 196) [] []] (.ret (.bool (FL l))):=by
 unfold FL
 by_cases h:(l.length:Int)=0
 ·rw [decide_eq_true h]; first | exact nN l h | exact nM l h
 ·rw [decide_eq_false h]; first | exact nM l h | exact nN l h
theorem nO(l:List Al)(Ak:¬(l.length:Int)=(0:Int)):Pu 197 [.sl 9 (Al.cs l),.Ab,.fn (.func 198) [] []] (rB false):=
 pm An [sl (Al.A0 l),kp,D3 Ak] func197
theorem nP(l:List Al)(Ak:(l.length:Int)=(0:Int)):Pu 197 [.sl 9 (Al.cs l),.Ab,.fn (.func 198) [] []] (rB true):=
 pm An [sl (Al.A0 l),kp,Bp Ak,sl (Al.A0 l),ur,df (0<(l.length:Int))] func197
theorem A8w(l:List Al):Pu 197 [.sl 9 (Al.cs l),.Ab,.fn (.func 198) [] []] (.ret (.bool (FL l))):=by
 unfold FL
 by_cases h:(l.length:Int)=0
 ·rw [decide_eq_true h]; first | exact nP l h | exact nO l h
 ·rw [decide_eq_false h]; first | exact nO l h | exact nP l h
def Gu(u:Tp):Bool:=(if (Bd u==0&&ByteArray.toList (AK u)==ByteArray.toList AI)=true then (if FL (C2 u)=true then (if Ft (DU u)=true then (if FL (DX u)=true then (FL (AP u)) else false) else false) else false) else false)
theorem tyZ(u:Tp):Pu 194 [.agg (BI u),.agg [pI 0,.str AI,.Ab,.Ab,pI 0,.str AI,pI 0,.Ab,.Ab]] (rB (Gu u)):=by
 by_cases h0:(Bd u==0&&ByteArray.toList (AK u)==ByteArray.toList AI)=true
 ·by_cases h1:FL (C2 u)=true
  ·by_cases h2:Ft (DU u)=true
   ·by_cases h3:FL (DX u)=true
    ·simp only [Gu,iP h0,iP h1,iP h2,iP h3]; exact pm An [mg,av (.v (.bool (bif Bd u==0 then ByteArray.toList (AK u)==ByteArray.toList AI else false))) (.v (.bool (Bd u==0&&ByteArray.toList (AK u)==ByteArray.toList AI))) (by (simp only [Bool.cond_false_right]; done)),rp 5 (B7 h0),cl (@jJ (C2 u)),B7 h0,rp 5 (B7 h1),cl (@psz (DU u)),B7 h1,rp 5 (B7 h2),cl (@A36 (DX u)),B7 h2,rp 5 (B7 h3),cl (@jK (AP u)),B7 h3] func194
    ·simp only [Gu,iP h0,iP h1,iP h2,iN h3]; exact pm An [mg,av (.v (.bool (bif Bd u==0 then ByteArray.toList (AK u)==ByteArray.toList AI else false))) (.v (.bool (Bd u==0&&ByteArray.toList (AK u)==ByteArray.toList AI))) (by (simp only [Bool.cond_false_right]; done)),rp 5 (B7 h0),cl (@jJ (C2 u)),B7 h0,rp 5 (B7 h1),cl (@psz (DU u)),B7 h1,rp 5 (B7 h2),cl (@A36 (DX u)),B7 h2,rp 6 (B1 (DC h3))] func194
   ·simp only [Gu,iP h0,iP h1,iN h2]; exact pm An [mg,av (.v (.bool (bif Bd u==0 then ByteArray.toList (AK u)==ByteArray.toList AI else false))) (.v (.bool (Bd u==0&&ByteArray.toList (AK u)==ByteArray.toList AI))) (by (simp only [Bool.cond_false_right]; done)),rp 5 (B7 h0),cl (@jJ (C2 u)),B7 h0,rp 5 (B7 h1),cl (@psz (DU u)),B7 h1,rp 6 (B1 (DC h2)),rp 6 (bf false)] func194
  ·simp only [Gu,iP h0,iN h1]; exact pm An [mg,av (.v (.bool (bif Bd u==0 then ByteArray.toList (AK u)==ByteArray.toList AI else false))) (.v (.bool (Bd u==0&&ByteArray.toList (AK u)==ByteArray.toList AI))) (by (simp only [Bool.cond_false_right]; done)),rp 5 (B7 h0),cl (@jJ (C2 u)),B7 h0,rp 6 (B1 (DC h1)),rp 12 (bf false)] func194
 ·simp only [Gu,iN h0]; exact pm An [mg,av (.v (.bool (bif Bd u==0 then ByteArray.toList (AK u)==ByteArray.toList AI else false))) (.v (.bool (Bd u==0&&ByteArray.toList (AK u)==ByteArray.toList AI))) (by (simp only [Bool.cond_false_right]; done)),rp 6 (B1 (DC h0)),rp 18 (bf false)] func194
def EF(u:Ex):Bool:=(if (B2 u==0&&ByteArray.toList (Ap u)==ByteArray.toList AI&&Fa u==0)=true then (if FL (AQ u)=true then (if FL (Cg u)=true then (if FL (Ao u)=true then (FL (Ae u)) else false) else false) else false) else false)
theorem exZ(u:Ex):Pu 147 [.agg (AT u),.agg [pI 0,.str AI,pI 0,.Ab,.Ab,.Ab,.Ab]] (rB (EF u)):=by
 by_cases h0:(B2 u==0&&ByteArray.toList (Ap u)==ByteArray.toList AI&&Fa u==0)=true
 ·by_cases h1:FL (AQ u)=true
  ·by_cases h2:FL (Cg u)=true
   ·by_cases h3:FL (Ao u)=true
    ·simp only [EF,iP h0,iP h1,iP h2,iP h3]; exact pm An [mg,av (.v (.bool (bif B2 u==0 then ByteArray.toList (Ap u)==ByteArray.toList AI else false))) (.v (.bool (B2 u==0&&ByteArray.toList (Ap u)==ByteArray.toList AI))) (by (simp only [Bool.cond_false_right]; done)),mg,av (.v (.bool (bif B2 u==0&&ByteArray.toList (Ap u)==ByteArray.toList AI then Fa u==0 else false))) (.v (.bool (B2 u==0&&ByteArray.toList (Ap u)==ByteArray.toList AI&&Fa u==0))) (by (simp only [Bool.cond_false_right]; done)),rp 5 (B7 h0),cl (@jL (AQ u)),B7 h0,rp 5 (B7 h1),cl (@jK (Cg u)),B7 h1,rp 5 (B7 h2),cl (@A37 (Ao u)),B7 h2,rp 5 (B7 h3),cl (@A8w (Ae u)),B7 h3] func147
    ·simp only [EF,iP h0,iP h1,iP h2,iN h3]; exact pm An [mg,av (.v (.bool (bif B2 u==0 then ByteArray.toList (Ap u)==ByteArray.toList AI else false))) (.v (.bool (B2 u==0&&ByteArray.toList (Ap u)==ByteArray.toList AI))) (by (simp only [Bool.cond_false_right]; done)),mg,av (.v (.bool (bif B2 u==0&&ByteArray.toList (Ap u)==ByteArray.toList AI then Fa u==0 else false))) (.v (.bool (B2 u==0&&ByteArray.toList (Ap u)==ByteArray.toList AI&&Fa u==0))) (by (simp only [Bool.cond_false_right]; done)),rp 5 (B7 h0),cl (@jL (AQ u)),B7 h0,rp 5 (B7 h1),cl (@jK (Cg u)),B7 h1,rp 5 (B7 h2),cl (@A37 (Ao u)),B7 h2,rp 6 (B1 (DC h3))] func147
   ·simp only [EF,iP h0,iP h1,iN h2]; exact pm An [mg,av (.v (.bool (bif B2 u==0 then ByteArray.toList (Ap u)==ByteArray.toList AI else false))) (.v (.bool (B2 u==0&&ByteArray.toList (Ap u)==ByteArray.toList AI))) (by (simp only [Bool.cond_false_right]; done)),mg,av (.v (.bool (bif B2 u==0&&ByteArray.toList (Ap u)==ByteArray.toList AI then Fa u==0 else false))) (.v (.bool (B2 u==0&&ByteArray.toList (Ap u)==ByteArray.toList AI&&Fa u==0))) (by (simp only [Bool.cond_false_right]; done)),rp 5 (B7 h0),cl (@jL (AQ u)),B7 h0,rp 5 (B7 h1),cl (@jK (Cg u)),B7 h1,rp 6 (B1 (DC h2)),rp 6 (bf false)] func147
  ·simp only [EF,iP h0,iN h1]; exact pm An [mg,av (.v (.bool (bif B2 u==0 then ByteArray.toList (Ap u)==ByteArray.toList AI else false))) (.v (.bool (B2 u==0&&ByteArray.toList (Ap u)==ByteArray.toList AI))) (by (simp only [Bool.cond_false_right]; done)),mg,av (.v (.bool (bif B2 u==0&&ByteArray.toList (Ap u)==ByteArray.toList AI then Fa u==0 else false))) (.v (.bool (B2 u==0&&ByteArray.toList (Ap u)==ByteArray.toList AI&&Fa u==0))) (by (simp only [Bool.cond_false_right]; done)),rp 5 (B7 h0),cl (@jL (AQ u)),B7 h0,rp 6 (B1 (DC h1)),rp 12 (bf false)] func147
 ·simp only [EF,iN h0]; exact pm An [mg,av (.v (.bool (bif B2 u==0 then ByteArray.toList (Ap u)==ByteArray.toList AI else false))) (.v (.bool (B2 u==0&&ByteArray.toList (Ap u)==ByteArray.toList AI))) (by (simp only [Bool.cond_false_right]; done)),mg,av (.v (.bool (bif B2 u==0&&ByteArray.toList (Ap u)==ByteArray.toList AI then Fa u==0 else false))) (.v (.bool (B2 u==0&&ByteArray.toList (Ap u)==ByteArray.toList AI&&Fa u==0))) (by (simp only [Bool.cond_false_right]; done)),rp 6 (B1 (DC h0)),rp 18 (bf false)] func147
theorem nnT(u:Tp):Pu 242 [.agg (BI u)] (rB (Gu u)):=
 pm An [cl (@tyZ (u))] func242
theorem nnE(u:Ex):Pu 102 [.agg (AT u)] (rB (EF u)):=
 pm An [cl (@exZ (u))] func102
def Ej(u:Tp):Bool:=(if (Bd u==0&&ByteArray.toList (AK u)==ByteArray.toList AI&&((AP u).length:Int)==0&&((C2 u).length:Int)==0&&((DX u).length:Int)==0)=true then (Ft (DU u)) else false)
theorem fG(u:Tp):Pu 104 [.agg (BI u)] (rB (Ej u)):=by
 by_cases h0:(Bd u==0&&ByteArray.toList (AK u)==ByteArray.toList AI&&((AP u).length:Int)==0&&((C2 u).length:Int)==0&&((DX u).length:Int)==0)=true
 ·simp only [Ej,iP h0]; exact pm An [mg,av (.v (.bool (bif Bd u==0 then ByteArray.toList (AK u)==ByteArray.toList AI else false))) (.v (.bool (Bd u==0&&ByteArray.toList (AK u)==ByteArray.toList AI))) (by (simp only [Bool.cond_false_right]; done)),mg,av (.v (.bool (bif Bd u==0&&ByteArray.toList (AK u)==ByteArray.toList AI then (↑((fun x=>List.length (Prod.snd x)) (9,Tp.cs (AP u))):Int)==0 else false))) (.v (.bool (Bd u==0&&ByteArray.toList (AK u)==ByteArray.toList AI&&((AP u).length:Int)==0))) (by (simp only [List.length_nil,Tp.A0,Bool.cond_false_right]; done)),mg,av (.v (.bool (bif Bd u==0&&ByteArray.toList (AK u)==ByteArray.toList AI&&((AP u).length:Int)==0 then (↑((fun x=>List.length (Prod.snd x)) (1,A1 (C2 u))):Int)==0 else false))) (.v (.bool (Bd u==0&&ByteArray.toList (AK u)==ByteArray.toList AI&&((AP u).length:Int)==0&&((C2 u).length:Int)==0))) (by (simp only [List.length_nil,A3,Bool.cond_false_right]; done)),mg,av (.v (.bool (bif Bd u==0&&ByteArray.toList (AK u)==ByteArray.toList AI&&((AP u).length:Int)==0&&((C2 u).length:Int)==0 then (↑((fun x=>List.length (Prod.snd x)) (4,Pr.cs (DX u))):Int)==0 else false))) (.v (.bool (Bd u==0&&ByteArray.toList (AK u)==ByteArray.toList AI&&((AP u).length:Int)==0&&((C2 u).length:Int)==0&&((DX u).length:Int)==0))) (by (simp only [List.length_nil,Pr.A0,Bool.cond_false_right]; done)),rp 4 (B7 h0),cl (@psz (DU u)),B7 h0] func104
 ·simp only [Ej,iN h0]; exact pm An [mg,av (.v (.bool (bif Bd u==0 then ByteArray.toList (AK u)==ByteArray.toList AI else false))) (.v (.bool (Bd u==0&&ByteArray.toList (AK u)==ByteArray.toList AI))) (by (simp only [Bool.cond_false_right]; done)),mg,av (.v (.bool (bif Bd u==0&&ByteArray.toList (AK u)==ByteArray.toList AI then (↑((fun x=>List.length (Prod.snd x)) (9,Tp.cs (AP u))):Int)==0 else false))) (.v (.bool (Bd u==0&&ByteArray.toList (AK u)==ByteArray.toList AI&&((AP u).length:Int)==0))) (by (simp only [List.length_nil,Tp.A0,Bool.cond_false_right]; done)),mg,av (.v (.bool (bif Bd u==0&&ByteArray.toList (AK u)==ByteArray.toList AI&&((AP u).length:Int)==0 then (↑((fun x=>List.length (Prod.snd x)) (1,A1 (C2 u))):Int)==0 else false))) (.v (.bool (Bd u==0&&ByteArray.toList (AK u)==ByteArray.toList AI&&((AP u).length:Int)==0&&((C2 u).length:Int)==0))) (by (simp only [List.length_nil,A3,Bool.cond_false_right]; done)),mg,av (.v (.bool (bif Bd u==0&&ByteArray.toList (AK u)==ByteArray.toList AI&&((AP u).length:Int)==0&&((C2 u).length:Int)==0 then (↑((fun x=>List.length (Prod.snd x)) (4,Pr.cs (DX u))):Int)==0 else false))) (.v (.bool (Bd u==0&&ByteArray.toList (AK u)==ByteArray.toList AI&&((AP u).length:Int)==0&&((C2 u).length:Int)==0&&((DX u).length:Int)==0))) (by (simp only [List.length_nil,Pr.A0,Bool.cond_false_right]; done)),rp 5 (B1 (DC h0))] func104
theorem bar(d:Df):Pu 88 [.agg (sgL d)] (rB (((Az d).length:Int)==0&&((C8 d).length:Int)==0&&((Bz d).length:Int)==0&&((BB d).length:Int)==0&&((Dj d).length:Int)==0)):=
 pm An [sl (A3 (Az d)),mg,av (.v (.bool (bif ((Az d).length:Int)==0 then (↑((fun x=>List.length (Prod.snd x)) (2,Vr.cs (C8 d))):Int)==0 else false))) (.v (.bool (((Az d).length:Int)==0&&((C8 d).length:Int)==0))) (by (simp only [Vr.A0,Bool.cond_false_right]; done)),mg,av (.v (.bool (bif ((Az d).length:Int)==0&&((C8 d).length:Int)==0 then (↑((fun x=>List.length (Prod.snd x)) (2,Vr.cs (Bz d))):Int)==0 else false))) (.v (.bool (((Az d).length:Int)==0&&((C8 d).length:Int)==0&&((Bz d).length:Int)==0))) (by (simp only [Vr.A0,Bool.cond_false_right]; done)),mg,av (.v (.bool (bif ((Az d).length:Int)==0&&((C8 d).length:Int)==0&&((Bz d).length:Int)==0 then (↑((fun x=>List.length (Prod.snd x)) (10,Bo.cs (BB d))):Int)==0 else false))) (.v (.bool (((Az d).length:Int)==0&&((C8 d).length:Int)==0&&((Bz d).length:Int)==0&&((BB d).length:Int)==0))) (by (simp only [Bo.A0,Bool.cond_false_right]; done)),mg,av (.v (.bool (bif ((Az d).length:Int)==0&&((C8 d).length:Int)==0&&((Bz d).length:Int)==0&&((BB d).length:Int)==0 then (↑((fun x=>List.length (Prod.snd x)) (4,Pr.cs (Dj d))):Int)==0 else false))) (.v (.bool (((Az d).length:Int)==0&&((C8 d).length:Int)==0&&((Bz d).length:Int)==0&&((BB d).length:Int)==0&&((Dj d).length:Int)==0))) (by (simp only [Pr.A0,Bool.cond_false_right]; done))] func88
theorem opt(u:Pr)(hs:A5 (CI u)<=100000000):Pu 95 [.agg (CI u)] (rI (BT (!Ft u) (Ss u))):=
 pm An [cl (@psz (u)),cl (@pcT (u) hs),cl (@DY (!Ft u) (Ss u))] func95
structure Sz (m:Mo):Prop where
 hc:(AA m).length<=1048576
 hm:∀c∈AA m,(B9 c).length<=1048576
 hf:(AD m).length<=1048576
 ht:∀c∈AA m,∀p∈B9 c,(AP (Co p)).length<=1048576
 K1:(Aj m).length<=1048576
 hk:∀c∈Aj m,(AS c).length<=1048576
theorem spZ(m:Mo)(name:BA)(hz:Sz m):Pu 12 [.agg (DJ m),.str name] (.ret (.B6 [.int .i64 (Fb m name).1,.bool (Fb m name).2])):=spT m name hz.hc hz.hm hz.hf hz.ht
theorem arZ(m:Mo)(name:BA)(hz:Sz m):Pu 15 [.agg (DJ m),.str name] (.ret (.B6 [.int .i64 (Fq m name).1,.bool (Fq m name).2])):=A7y m name hz.K1 hz.hk
theorem y4(m:Mo)(name:BA)(hz:Sz m)(hx:ix BS name (Aj m)<(Aj m).length):Pu 82 [.agg (DJ m),.str name] (.ret (.B6 [.agg (EO ((Aj m).getD (ix BS name (Aj m)) default)),.bool true])):=dAT m name hz.K1 hx
theorem y5(m:Mo)(name:BA)(hz:Sz m)(hx:¬ix BS name (Aj m)<(Aj m).length):Pu 82 [.agg (DJ m),.str name] (.ret (.B6 [.agg (EO default),.bool false])):=dAF m name hz.K1 hx
def K3(m:Mo)(u:Ex)(bd:List BA):Int:=(if (B2 u != 3&&B2 u != 5)=true then 0 else (if FX (Ap u) bd>=0 then 0 else (if B2 u=5 then (Ds (BT (!Prod.snd (Fb m (Ap u))) 16) (BT (Prod.fst (Fb m (Ap u)) != ((AQ u).length:Int)) 13)) else (Ds (BT (!Prod.snd (Fb m (Ap u))) 16) 0))))
theorem vaL(m:Mo)(u:Ex)(bd:List BA)(hz:Sz m)(hN:bd.length<=1000000000):Pu 207 [.agg (wL m),.agg (AT u),.sl 1 (A1 bd)] (rI (K3 m u bd)):=by
 by_cases h0:(B2 u != 3&&B2 u != 5)=true
 ·simp only [K3,iP h0]; exact pm CR [mg,av (.v (.bool (bif B2 u != 3 then B2 u != 5 else false))) (.v (.bool (B2 u != 3&&B2 u != 5))) (by (simp only [Bool.cond_false_right]; done)),rp 6 (B7 h0),bt true] func207
 ·by_cases h1:FX (Ap u) bd>=0
  ·simp only [K3,iN h0,iP h1]; exact pm CR [mg,av (.v (.bool (bif B2 u != 3 then B2 u != 5 else false))) (.v (.bool (B2 u != 3&&B2 u != 5))) (by (simp only [Bool.cond_false_right]; done)),rp 4 (B1 (DC h0)),cl (@TV (bd) (Ap u) hN),rp 2 (B1 (DC h0)),E9 h1] func207
  ·by_cases h2:B2 u=5
   ·simp only [K3,iN h0,iN h1,iP h2]; exact pm CR [mg,av (.v (.bool (bif B2 u != 3 then B2 u != 5 else false))) (.v (.bool (B2 u != 3&&B2 u != 5))) (by (simp only [Bool.cond_false_right]; done)),rp 4 (B1 (DC h0)),cl (@TV (bd) (Ap u) hN),rp 2 (B1 (DC h0)),Br h1,cl (@spZ (m) (Ap u) hz),cl (@DY (!Prod.snd (Fb m (Ap u))) (16)),rp 4 (CT h2),sl (Ex.A0 (AQ u)),rp 2 (CT h2),cl (@DY (Prod.fst (Fb m (Ap u)) != ((AQ u).length:Int)) (13)),cl (@DI (BT (!Prod.snd (Fb m (Ap u))) 16) (BT (Prod.fst (Fb m (Ap u)) != ((AQ u).length:Int)) 13))] func207
   ·simp only [K3,iN h0,iN h1,iN h2]; exact pm CR [mg,av (.v (.bool (bif B2 u != 3 then B2 u != 5 else false))) (.v (.bool (B2 u != 3&&B2 u != 5))) (by (simp only [Bool.cond_false_right]; done)),rp 4 (B1 (DC h0)),cl (@TV (bd) (Ap u) hN),rp 2 (B1 (DC h0)),Br h1,cl (@spZ (m) (Ap u) hz),cl (@DY (!Prod.snd (Fb m (Ap u))) (16)),rp 6 (As h2),cl (@DY (false) (13)),cl (@DI (BT (!Prod.snd (Fb m (Ap u))) 16) (0))] func207
theorem cnE(m:Mo)(s:BA)(n:Int)(hz:Sz m):Pu 208 [.agg (wL m),.str s,pI n] (rI (Ds (BT (!Prod.snd (Fq m s)) 5) (BT (Prod.fst (Fq m s) != n) 13))):=
 pm CR [cl (@arZ (m) (s) hz),cl (@DY (!Prod.snd (Fq m s)) (5)),cl (@DY (Prod.fst (Fq m s) != n) (13)),cl (@DI (BT (!Prod.snd (Fq m s)) 5) (BT (Prod.fst (Fq m s) != n) 13))] func208
theorem pt1(m:Mo)(vs:List BA)(k:Int)(w:Tp)(r:Int)(eY:Pu 128 [.agg (wL m),.agg (BI w),.sl 1 (A1 vs)] (.ret (.int .i64 r))):Pu 173 [pI k,.agg (BI w),.ro (wL m) 0,.ro [.sl 1 (A1 vs)] 0] (rI r):=
 pm CR [cl eY] func173
theorem ptA(m:Mo)(vs:List BA)(l:List Tp)(pf:Tp->Int)(BY:∀w∈l,Pu 128 [.agg (wL m),.agg (BI w),.sl 1 (A1 vs)] (.ret (.int .i64 (pf w))))(hN:l.length<=1000000000):Pu 78 [.sl 9 (Tp.cs l),.fn (.func 173) [] [.ro (wL m) 0,.ro [.sl 1 (A1 vs)] 0]] (.ret (.int .i64 (BP pf l))):=tG l _ _ pf (fun k w hw=>pt1 m vs k w (pf w) (BY w hw)) hN
def HZ(m:Mo)(u:Tp)(vs:List BA)(pf:Tp->Int):Int:=(if Bd u=4 then (if ix BS (AK u) (Aj m)<List.length (Aj m) then (if ((AP u).length:Int)=((C1 (List.getD (Aj m) (ix BS (AK u) (Aj m)) default)).length:Int) then (BP pf (AP u)) else 13) else 5) else (if Bd u=5 then (if FX (AK u) vs<0 then 5 else (BP pf (AP u))) else (BP pf (AP u))))
theorem ptL(m:Mo)(u:Tp)(vs:List BA)(pf:Tp->Int)(hz:Sz m)(Dh:vs.length<=1000000000)(BY:∀w∈AP u,Pu 128 [.agg (wL m),.agg (BI w),.sl 1 (A1 vs)] (.ret (.int .i64 (pf w))))(hN:(AP u).length<=1000000000):Pu 128 [.agg (wL m),.agg (BI u),.sl 1 (A1 vs)] (rI (HZ m u vs pf)):=by
 by_cases h0:Bd u=4
 ·by_cases h1:ix BS (AK u) (Aj m)<List.length (Aj m)
  ·by_cases h2:((AP u).length:Int)=((C1 (List.getD (Aj m) (ix BS (AK u) (Aj m)) default)).length:Int)
   ·simp only [HZ,iP h0,iP h1,iP h2]; exact pm CR [CT h0,cl (@y4 (m) (AK u) hz h1),bf false,sl (Tp.A0 (AP u)),sl (A3 (C1 (List.getD (Aj m) (ix BS (AK u) (Aj m)) default))),Bp h2,cl (@ptA (m) (vs) (AP u) (pf) BY hN)] func128
   ·simp only [HZ,iP h0,iP h1,iN h2]; exact pm CR [CT h0,cl (@y4 (m) (AK u) hz h1),bf false,sl (Tp.A0 (AP u)),sl (A3 (C1 (List.getD (Aj m) (ix BS (AK u) (Aj m)) default))),D3 h2] func128
  ·simp only [HZ,iP h0,iN h1]; exact pm CR [CT h0,cl (@y5 (m) (AK u) hz h1),bt true] func128
 ·by_cases h1:Bd u=5
  ·by_cases h2:FX (AK u) vs<0
   ·simp only [HZ,iN h0,iP h1,iP h2]; exact pm CR [As h0,CT h1,cl (@TV (vs) (AK u) Dh),E9 h2] func128
   ·simp only [HZ,iN h0,iP h1,iN h2]; exact pm CR [As h0,CT h1,cl (@TV (vs) (AK u) Dh),Br h2,cl (@ptA (m) (vs) (AP u) (pf) BY hN)] func128
  ·simp only [HZ,iN h0,iN h1]; exact pm CR [As h0,As h1,cl (@ptA (m) (vs) (AP u) (pf) BY hN)] func128
structure En where
 ps:BA->Int × Bool
 ar:BA->Int × Bool
 dv:BA->Option Nat
def Ea(m:Mo)(s:BA):Option Nat:=if ix BS s (Aj m)<(Aj m).length then some (C1 ((Aj m).getD (ix BS s (Aj m)) default)).length else none
def O6(m:Mo):En:=⟨Fb m,Fq m,Ea m⟩
def tqB(dv:BA->Option Nat)(vs:List BA)(pf:Tp->Int)(u:Tp):Int:=
 if Bd u=4 then (match dv (AK u) with
  | none=>5
  | some n=>if (AP u).length=n then BP pf (AP u) else 13)
 else if Bd u=5/\FX (AK u) vs<0 then 5 else BP pf (AP u)
def tqD(dv:BA->Option Nat)(vs:List BA):Nat->Tp->Int
 | 0,_=>0
 | d+1,u=>tqB dv vs (tqD dv vs d) u
def tqF(dv:BA->Option Nat)(vs:List BA)(u:Tp):Int:=tqD dv vs (A5 (BI u)+1) u
def Jb(dv:BA->Option Nat)(vs:List BA)(u:Tp):Int:=Ds (Bm u) (tqF dv vs u)
def IX(ps:BA->Int × Bool)(bd:List BA)(u:Ex):Int:=
 if (B2 u=3∨B2 u=5)/\FX (Ap u) bd<0 then Ds (BT (!(ps (Ap u)).2) 16) (BT (decide (B2 u=5) && !decide ((ps (Ap u)).1=(AQ u).length)) 13) else 0
def Iv(arz:BA->Int × Bool)(s:BA)(n:Int):Int:=Ds (BT (!(arz s).2) 5) (BT (!decide ((arz s).1=n)) 13)
def K4(dv:BA->Option Nat)(vs:List BA)(u:Ex):Int:=Ds (BP (Jb dv vs) (Cg u)) (BP (fun p=>if Bd (Co p)=0 then 0 else Jb dv vs (Co p)) (Ao u))
def I0(u:Ex):List BA:=(if B2 u=7 then [Ap u] else [])++(Ao u).map BR++(Ae u).flatMap Bl
def Mb(u:Ex)(k:Int)(bd:List BA):List BA:=bd++(if B2 u=7/\0<k then [Ap u] else [])++(Ao u).map BR
def R5{α:Type}(f:Int->α->Int):List α->Int->Int
 | [],_=>0
 | x::r,k=>if f k x=0 then R5 f r (k+1) else f k x
def nq1(ε:En)(vs bd:List BA)(u:Ex):Int:=HW (BP (fun s=>AU (Ac s)) (I0 u)) (K4 ε.dv vs u) (IX ε.ps bd u)
def nq2(ε:En)(vs bd:List BA)(u:Ex):Int:=if nq1 ε vs bd u=0/\B2 u=4 then Iv ε.ar (Ap u) (AQ u).length else nq1 ε vs bd u
def fH(ε:En)(vs bd:List BA)(u:Ex):Int:=Ds (nq2 ε vs bd u) (BP (fun a=>Iv ε.ar (FT a) (Bl a).length) (Ae u))
def y6(ε:En)(vs:List BA)(nf:Ex->List BA->Int)(u:Ex)(bd:List BA):Int:=
 if fH ε vs bd u=0 then Ds (R5 (fun k w=>nf w (Mb u k bd)) (AQ u) 0) (BP (fun a=>nf (D4 a) (bd++Bl a)) (Ae u)) else fH ε vs bd u
def fI(ε:En)(vs:List BA):Nat->Ex->List BA->Int
 | 0,_,_=>0
 | d+1,u,bd=>y6 ε vs (fI ε vs d) u bd
def nqF(ε:En)(vs:List BA)(u:Ex)(bd:List BA):Int:=fI ε vs (A5 (AT u)+1) u bd
theorem KG(a b:Int):Ds a b=0↔a=0/\b=0:=by unfold Ds; (repeat' split) <;> simp_all
theorem SA(a b c:Int):HW a b c=0↔a=0/\b=0/\c=0:=by unfold HW; (repeat' split) <;> simp_all
theorem SB(a b c d f:Int):KE a b c d f=0↔a=0/\b=0/\c=0/\d=0/\f=0:=by unfold KE; (repeat' split) <;> simp_all
theorem NI(b:Bool)(n:Int)(hn:n≠0):BT b n=0↔b=false:=by unfold BT; cases b <;> simp_all
end Go.Proofs.YtmllcplaohkjnaaGreatDoor
