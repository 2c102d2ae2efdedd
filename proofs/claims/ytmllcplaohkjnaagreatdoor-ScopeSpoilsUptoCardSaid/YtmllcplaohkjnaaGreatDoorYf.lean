/- Values of Go as plain data, an evaluator over them, and what the functions of the program return; part Yf. -/
import Derived.Test.YtmllcplaohkjnaaGreatDoorYe
import Derived.Test.YtmllcplaohkjnaaGreatDoorYd
import Derived.Test.YtmllcplaohkjnaaGreatDoorXh
import Derived.Test.YtmllcplaohkjnaaGreatDoorYa
set_option linter.unusedSectionVars false
set_option linter.unusedSimpArgs false
set_option linter.unusedVariables false
namespace Go.Proofs.YtmllcplaohkjnaaGreatDoor
open Go.Proofs.Tryz
open Go.RowKit Go.Shelf Go.Pv
attribute [local go_sem] Oper.semAt_some
set_option maxRecDepth 100000
theorem room_of_none{F:Fence}(hd:F.depth=none)(k:Nat):F.room k:=fun d h=>by rw [hd] at h; cases h
theorem RoundIn.anyDepth{F:Fence}(hd:F.depth=none){m m':Nat}{P:Program}{l:Nat}{f:FuncId}{tmps:Array Value}{assign body:Code}{w:World}{R:Ending->World->Prop}
  (h:RoundIn F m P l f tmps assign body w R):RoundIn F m' P l f tmps assign body w R:=⟨h.1,fun c cs _=>h.2 c cs (room_of_none hd _)⟩
theorem YieldAt.anyDepth{F:Fence}(hd:F.depth=none){m:Nat}(m':Nat){P:Program}{l:Nat}{args:Array Value}{W:World}{R:Ending->World->Prop}(h:YieldAt F m P l args W R):YieldAt F m' P l args W R:=by
 obtain ⟨fn,tmps,assign,body,hy,hR⟩:=h
 exact ⟨fn,tmps,assign,body,hy,RoundIn.anyDepth hd hR⟩
theorem mono_below{g:Gh}{w w':World}(hb:Below w.heap.size w w'):Mono g w g w':=by
 refine ⟨fun _ _ h=>h,fun b o v hc hf=>⟨?_,hf⟩,fun b cur e hh=>⟨cur,?_,rfl⟩,fun _ _ _ h=>h⟩
 ·have hlt:b<w.heap.size:=by
   unfold World.cell? at hc
   cases hh:w.heap[b]? with
   | none=>simp [hh] at hc
   | some x=>exact (Array.getElem?_eq_some_iff.1 hh).1
  rw [<-hc]
  exact World.cell?_of_block (hb.block b hlt)
 ·exact (hb.block b (Array.getElem?_eq_some_iff.1 hh).1).trans hh
theorem ent_below{e:Ext}{g:Gh}{l:LG}{w w':World}(he:Ent e g l w)(hb:Below w.heap.size w w'):Ent e g l w' where
 ex x cs hx:=by
  obtain ⟨b,h1,h2,hE⟩:=he.ex x cs hx
  refine ⟨b,h1.mono (mono_below hb),h2,?_⟩
  have hm:Mono g w g w':=mono_below hb
  have hh:=hb.block b (he.olt b _ h2)
  rcases hE with ⟨h3,cur,te,h4,h5,h6⟩ | hE
  ·refine .inl ⟨h3,cur,te,hh.trans h4,h5,fun j hj=>⟨(h6 j hj).1,(h6 j hj).2.1,?_⟩⟩
   exact (h6 j hj).2.2.keep hm (fun _ _ _=>rfl) fun b' hu=>⟨hu,rfl,hb.block b' (he.olt b' _ (he.uo _ b' hu))⟩
  ·exact .inr (hE.keep hm (fun _ _ _ h=>h) rfl hh)
 olt b o ho:=Nat.lt_of_lt_of_le (he.olt b o ho) hb.size
 uo:=he.uo
 fresh:=⟨fun b h=>he.fresh.1 b (Nat.le_trans hb.size h),he.fresh.2⟩
 xlt n b h:=Nat.lt_of_lt_of_le (he.xlt n b h) hb.size
 only:=he.only
 glb:=he.glb.mono (mono_below hb)
theorem calls_pur{P:Program}{f:FuncId}{args:List PV}{vs:List Value}{k:Int}{g:Gh}{l:LG}{w:World}(h:(Ob.pur f args (.ret (.int .i64 k))).ok P)(ha:RepAll g w args vs)(he:Ent [] g l w) :
  Calls P f vs.toArray w fun enz w'=>enz = .returned (.int .i64 k)/\Below w.heap.size w w':=by
 refine (h.2 [] vs g ⟨fun _=>none,fun _=>none,fun _=>none⟩ w ha ⟨fun x cs hx=>(by simp [lk] at hx),fun b o ho=>(by cases ho),fun p b hb=>(by cases hb),he.fresh,he.xlt,fun b o ho=>(by cases ho),he.glb⟩).mono ?_
 rintro enz w' ⟨r,e2,g',l',⟨rfl,rfl⟩,hres,hent',hmono,hsz,hfr,hown,os,tape,output⟩
 refine ⟨?_,os,tape,output,hsz,fun b hb=>(hfr b hb rfl).1⟩
 cases enz <;> first | exact hres.elim | skip
 rename_i v
 have h1:Rep g' w' (.int .i64 k) v:=hres
 cases h1
 rfl
theorem KC.of_below{w W:World}(h:Below w.heap.size w W):KC w W:=⟨h.size,fun k o hk _=>(h.block k (Array.getElem?_eq_some_iff.1 hk).1).trans hk⟩
theorem before_stops(F:Fence)(hd:F.depth=none)(n:Nat)(h142:F.fn 142)(h143:F.fn 143)(hro:F.round=none)(g:Gh)(W0 w:World)(Bs:Nat)(x:Nd g W0)(hk0:KC W0 w)(hBs:Bs<w.heap.size)
  (h1:w.cell? ⟨Bs,0,none⟩=some (.int .i64 (prO x.1.1))) (h2:w.cell? ⟨Bs,1,none⟩=some (.string (prNm x.1.1))) (h3:w.cell? ⟨Bs,2,none⟩=some (.int .i64 (prN x.1.1))) (h4:w.cell? ⟨Bs,3,none⟩=some (.slice x.1.2.1 x.1.2.2.1 x.1.2.2.2)) :
  SeqStopsK F n prog 142 #[.pointer (some ⟨Bs,0,none⟩)] (fun y:Nd g W0=>#[y.enc]) KC (fun ys=>ys.map (·.1.1)=nodesP x.1.1) (fun ys=>ys.map (·.1.1) <+: nodesP x.1.1) (nodesP x.1.1).length w:=fun l J Jx W hW hJ _ hY h0=>
 before1_in F hd h142 h143 hro g W0 l Bs x n J Jx (fun s W W' hs hg=>hJ s W W' none hs hg (fun r e=>by cases e))
  (fun m pre y W hj hl=>YieldAt.anyDepth hd m (hY pre y W hj hl)) W (hk0.trans (KC.of_below hW)) ((hW.cell (p:=⟨Bs,0,none⟩) hBs).trans h1) ((hW.cell (p:=⟨Bs,1,none⟩) hBs).trans h2) ((hW.cell (p:=⟨Bs,2,none⟩) hBs).trans h3) ((hW.cell (p:=⟨Bs,3,none⟩) hBs).trans h4) h0
def pcE(p:Pr):Int:=if pqF p>400 then 7 else if peF p>40 then 8 else frE pnd_r0 (nodesP p)
theorem nd_rep{g:Gh}{W0:World}(x:Nd g W0):RepAll g W0 [.agg (prL x.1.1)] [x.enc]:=by
 refine .cons ?_ .nil
 refine .agg _ [_,_,_,_] rfl (fun v hv=>?_) fun j hj hj'=>?_
 ·simp only [List.mem_cons,List.not_mem_nil,or_false] at hv
  rcases hv with rfl | rfl | rfl | rfl <;> rfl
 ·match j with
  | 0=>exact .int _ _
  | 1=>exact .str _
  | 2=>exact .int _ _
  | 3=>exact x.2
theorem below_alloc{w W:World}(h:Below w.heap.size w W)(o:Obj):Below w.heap.size w (W.alloc o):=h.alloc h.size o
def Fr(p:Pr)(oa:Option Addr)(m c:Nat)(w W:World):Prop:=
 W.cell? ⟨w.heap.size,0,none⟩=some (.int .i64 (prO p))/\W.cell? ⟨w.heap.size,1,none⟩=some (.string (prNm p))/\W.cell? ⟨w.heap.size,2,none⟩=some (.int .i64 (prN p))/\W.cell? ⟨w.heap.size,3,none⟩=some (.slice oa m c) /\
 W.cell? ⟨w.heap.size+1,0,none⟩=some (.int .i64 0)/\W.frozen? ⟨w.heap.size+1,0,none⟩=false
theorem fr_new(p:Pr)(oa:Option Addr)(m c:Nat)(w:World):Fr p oa m c w ((w.alloc (.cells #[.int .i64 (prO p),.string (prNm p),.int .i64 (prN p),.slice oa m c] 50)).alloc (.cells #[.int .i64 0] 32)):=by
 have h1:((w.alloc (.cells #[.int .i64 (prO p),.string (prNm p),.int .i64 (prN p),.slice oa m c] 50)).alloc (.cells #[.int .i64 0] 32)).heap[w.heap.size]?=some (.cells #[.int .i64 (prO p),.string (prNm p),.int .i64 (prN p),.slice oa m c] 50):=
  (Below.heap_alloc _ _ _ sM).trans (World.alloc_heap_new w _)
 have h2:((w.alloc (.cells #[.int .i64 (prO p),.string (prNm p),.int .i64 (prN p),.slice oa m c] 50)).alloc (.cells #[.int .i64 0] 32)).heap[w.heap.size+1]?=some (.cells #[.int .i64 0] 32):=by
  have:=World.alloc_heap_new (w.alloc (.cells #[.int .i64 (prO p),.string (prNm p),.int .i64 (prN p),.slice oa m c] 50)) (.cells #[.int .i64 0] 32)
  rwa [World.size_alloc] at this
 unfold Fr World.cell? World.frozen?
 rw [h1,h2]
 exact ⟨rfl,rfl,rfl,rfl,rfl,rfl⟩
theorem Fr.kept{p:Pr}{oa:Option Addr}{m c:Nat}{w A B:World}(h:Fr p oa m c w A)(hl:w.heap.size+2<=A.heap.size)(hb:Below A.heap.size A B):Fr p oa m c w B:=by
 have k1:=hb.block w.heap.size oM
 have k2:=hb.block (w.heap.size+1) oM
 unfold Fr World.cell? World.frozen? at h ⊢
 rw [k1,k2]
 exact h
set_option maxHeartbeats 4000000 in
theorem check_in(p:Pr)(hs:bulkPs (prL p)<=100000000)(g:Gh)(l0:LG)(w:World)(oa:Option Addr)(m c:Nat)(hr:Rep g w (.sl 4 (Pr.cs (prK p))) (.slice oa m c))(he:Ent [] g l0 w) :
  Calls prog 55 #[encP p (.slice oa m c)] w fun e w'=>e = .returned (.int .i64 (pcE p))/\Below w.heap.size w w':=by
 refine (callsIn_wide (n:=6)).1 ?_
 obtain ⟨x,hx⟩:∃x:Nd g w,x.1=(p,oa,m,c):=⟨⟨(p,oa,m,c),hr⟩,rfl⟩
 have hrep:RepAll g w [.agg (prL p)] [encP p (.slice oa m c)]:=by have:=nd_rep x; rw [Nd.enc,hx] at this; exact this
 refine callsIn_of_wp_marks func55 rfl trivial ?_ rfl
 simp only [Tryz.ntmps55,List.size_toArray,List.length_cons,List.length_nil,Nat.reduceAdd,Nat.reduceSub,Array.replicate_succ,Array.replicate_zero,List.push_toArray,List.append_toArray,List.nil_append,List.cons_append]
 have hf1:=fr_new p oa m c w
 have hb1:Below w.heap.size w ((w.alloc (.cells #[.int .i64 (prO p),.string (prNm p),.int .i64 (prN p),.slice oa m c] 50)).alloc (.cells #[.int .i64 0] 32)):=below_alloc (below_alloc (Below.refl _ _) _) _
 have hz1:w.heap.size+2<=((w.alloc (.cells #[.int .i64 (prO p),.string (prNm p),.int .i64 (prN p),.slice oa m c] 50)).alloc (.cells #[.int .i64 0] 32)).heap.size:=by simp
 generalize hw1:(w.alloc (.cells #[.int .i64 (prO p),.string (prNm p),.int .i64 (prN p),.slice oa m c] 50)).alloc (.cells #[.int .i64 0] 32)=w1 at hf1 hb1 hz1
 have hall:∀ (f:FuncId) (k:Int),Pu f [.agg (prL p)] (.ret (.int .i64 k))->∀ (W:World),Fr p oa m c w W->Below w.heap.size w W->w.heap.size+2<=W.heap.size->CallsIn Fence.wide 5 prog f #[encP p (.slice oa m c)] W fun e W'=>e = .returned (.int .i64 k)/\Fr p oa m c w W'/\Below w.heap.size w W'/\w.heap.size+2<=W'.heap.size:=by
  intro f k hk W hF hB hS
  refine callsIn_wide.2 ?_
  refine (calls_pur hk (hrep.mono (mono_below hB)) (ent_below he hB)).mono ?_
  rintro e W' ⟨h1,h2⟩
  exact ⟨h1,hF.kept hS h2,hB.trans (h2.mono hB.size),Nat.le_trans hS h2.size⟩
 obtain ⟨c0,c1,c2,c3,r0,rf⟩:=id hf1
 have k98:=hall 98 _ (pqT p hs) w1 hf1 hb1 hz1
 gi_wp2_with (first
  | (refine ⟨trivial,?_⟩; gi_at_call 98; refine k98.mono ?_; clear k98; rintro e W2 ⟨rfl,hf2,hb2,hz2⟩; clear c0 c1 c2 c3 r0 rf; obtain ⟨c0,c1,c2,c3,r0,rf⟩:=id hf2; have k99:=hall 99 _ (peT p hs) W2 hf2 hb2 hz2)
  | (refine ⟨trivial,?_⟩; gi_at_call 99; refine k99.mono ?_; clear k99; rintro e W3 ⟨rfl,hf3,hb3,hz3⟩; clear c0 c1 c2 c3 r0 rf; obtain ⟨c0,c1,c2,c3,r0,rf⟩:=id hf3)
  | (refine ⟨trivial,?_⟩; gi_at_call 100; refine (before_in Fence.wide 5 trivial rfl p oa m c _).mono ?_; rintro e W4 ⟨rfl,rfl⟩))
 ·have hgt:pqF p>400:=by omega
  have hc5:=World.cell?_setCell_same' W2 ⟨w.heap.size+1,0,none⟩ (.int .i64 7) (by rw [r0]; rfl)
  refine ⟨.int .i64 7,by simp [results,f55,go_sem,hc5],?_,hb2.setCell (p:=⟨w.heap.size+1,0,none⟩) sM _⟩
  unfold pcE; rw [iP hgt]
 ·have hgt:¬pqF p>400:=by omega
  have hgt2:peF p>40:=by omega
  have hc5:=World.cell?_setCell_same' W3 ⟨w.heap.size+1,0,none⟩ (.int .i64 8) (by rw [r0]; rfl)
  refine ⟨.int .i64 8,by simp [results,f55,go_sem,hc5],?_,hb3.setCell (p:=⟨w.heap.size+1,0,none⟩) sM _⟩
  unfold pcE; rw [iN hgt,iP hgt2]
 ·have hgt:¬pqF p>400:=by omega
  have hgt2:¬peF p>40:=by omega
  have hpc:pcE p=frE pnd_r0 (nodesP p):=by unfold pcE; rw [iN hgt,iN hgt2]
  have hzW:W3.heap.size<(W3.alloc (.cells #[.int .i64 (prO p),.string (prNm p),.int .i64 (prN p),.slice oa m c] 50)).heap.size:=by simp
  have hb4:Below w.heap.size w (W3.alloc (.cells #[.int .i64 (prO p),.string (prNm p),.int .i64 (prN p),.slice oa m c] 50)):=hb3.alloc hb3.size _
  have hz4:w.heap.size+2<=(W3.alloc (.cells #[.int .i64 (prO p),.string (prNm p),.int .i64 (prN p),.slice oa m c] 50)).heap.size:=by simp; omega
  have hbox:(W3.alloc (.cells #[.int .i64 (prO p),.string (prNm p),.int .i64 (prN p),.slice oa m c] 50)).heap[W3.heap.size]?=some (.cells #[.int .i64 (prO p),.string (prNm p),.int .i64 (prN p),.slice oa m c] 50):=World.alloc_heap_new _ _
  have hf4:Fr p oa m c w (W3.alloc (.cells #[.int .i64 (prO p),.string (prNm p),.int .i64 (prN p),.slice oa m c] 50)):=hf3.kept hz3 ((Below.refl _ _).alloc (Nat.le_refl _) _)
  clear hall c0 c1 c2 c3 r0 rf hf1 hb1 hz1 hw1 hf2 hb2 hz2
  generalize hW4:W3.alloc (.cells #[.int .i64 (prO p),.string (prNm p),.int .i64 (prN p),.slice oa m c] 50)=W4 at hzW hb4 hz4 hbox hf4 ⊢
  generalize hBs:W3.heap.size=Bs at hzW hbox ⊢
  have hcell:∀j,W4.cell? ⟨Bs,j,none⟩ = #[Value.int .i64 (prO p),.string (prNm p),.int .i64 (prN p),.slice oa m c][j]?:=fun j=>by unfold World.cell?; rw [hbox]; rfl
  have hst:=before_stops Fence.wide rfl 5 trivial trivial rfl g w W4 Bs x (KC.of_below hb4) hzW (by rw [hx]; exact hcell 0) (by rw [hx]; exact hcell 1) (by rw [hx]; exact hcell 2) (by rw [hx]; exact hcell 3)
  obtain ⟨_,_,_,_,r0,rf⟩:=hf4
  refine wpIn_rangeFunc_ownH rfl oM (gf:=142) (lb:=#[.pointer (some ⟨Bs,0,none⟩)]) rfl trivial (enters_of func142 kR rfl) hst KC.trans
   (fun W l o o' hl hh ho _=>⟨by simp,fun k o2 hk hc2=>(World.putObj_heap_other (fun e=>by subst e; rw [hh] at hk; cases hk; rw [ho] at hc2; cases hc2)).trans hk⟩) (Below.refl _ _) (fun _=>rfl)
   (fun pre W=>((∀y∈pre,pnd_r0 y.1.1=0)/\W.cell? ⟨w.heap.size+1,0,none⟩=some (.int .i64 0)/\W.frozen? ⟨w.heap.size+1,0,none⟩=false)/\Below w.heap.size w W)
   (fun cdz pre W=>(cdz = .ret/\∃ps y,pre=ps++[y]/\(∀z∈ps,pnd_r0 z.1.1=0)/\¬pnd_r0 y.1.1=0/\W.cell? ⟨w.heap.size+1,0,none⟩=some (.int .i64 (pnd_r0 y.1.1)))/\Below w.heap.size w W)
   (OwnFrom.and (Own.from (fun s A B row hs hg hr=>⟨hs.1,cell_kept hs.2.1 hg hr,(frozen_kept hs.2.1 hg hr).trans hs.2.2⟩) _) (ownFrom_below (Nat.le_refl _) oM))
   (fun cdz=>OwnFrom.and (Own.from (fun s A B row hs hg hr=>⟨hs.1,let ⟨ps,y,k1,k2,k3,k4⟩:=hs.2; ⟨ps,y,k1,k2,k3,cell_kept k4 hg hr⟩⟩) _) (ownFrom_below (Nat.le_refl _) oM))
   ⟨⟨fun y hy=>(by cases hy),r0,rf⟩,hb4⟩
   (fun y a' W=>∃Bx,w.heap.size+2<=Bx/\W.heap[Bx]?=some (.cells #[.int .i64 (prO y.1.1),.string (prNm y.1.1),.int .i64 (prN y.1.1),.slice y.1.2.1 y.1.2.2.1 y.1.2.2.2] 50) /\
    a'={ tmps:=#[encP p (.slice oa m c),.pointer (some ⟨w.heap.size,0,none⟩),.pointer (some ⟨w.heap.size+1,0,none⟩),.pointer (some ⟨Bx,0,none⟩),undef,encP p (.slice oa m c),.int .i64 (pqF p),.bool false,encP p (.slice oa m c),.int .i64 (peF p),.bool false,encP p (.slice oa m c),.func (.func 142) #[] #[.pointer (some ⟨Bs,0,none⟩)],y.enc,undef,undef,undef,undef,undef],defers:=[] })
   (fun y a' s A B row hs hg hr=>by
    obtain ⟨Bx,h1,h2,h3⟩:=hs
    refine ⟨Bx,h1,(hg.block Bx (Array.getElem?_eq_some_iff.1 h2).1 (fun e=>?_)).trans h2,h3⟩
    obtain ⟨_,o,ho,hc⟩:=hr Bx e.symm
    rw [h2] at ho; cases ho; cases hc) ?assign ?body ?done ?stop
  case assign=>
   rintro l pre y W K ⟨⟨hz,q0,qf⟩,hB⟩ hK
   have hrc:w.heap.size+1<W.heap.size:=by
    unfold World.cell? at q0
    cases hh:W.heap[w.heap.size+1]? with
    | none=>simp [hh] at q0
    | some o=>exact (Array.getElem?_eq_some_iff.1 hh).1
   simp only [Nd.enc]
   obtain ⟨q,oa',m',c',hyx⟩:∃q oa' m' c',y.1=(q,oa',m',c'):=⟨_,_,_,_,rfl⟩
   simp only [Nd.enc,hyx] at hK ⊢
   gi_wp2
   exact hK _ _ ((KeepsOthers.alloc _ _).from _) ((KC.refl W).alloc _) ⟨⟨hz,cell_kept q0 (World.grownBy_alloc W _ none) (fun r e=>by cases e),(frozen_kept q0 (World.grownBy_alloc W _ none) (fun r e=>by cases e)).trans qf⟩,hB.alloc hB.size _⟩ ⟨W.heap.size,by omega,World.alloc_heap_new _ _,rfl⟩
  case body=>
   rintro l pre y a' W hl ⟨r,hr0⟩ ⟨⟨hz,q0,qf⟩,hB⟩ ⟨Bx,hBx,hbx,rfl⟩ hlt
   have hrc:w.heap.size+1<W.heap.size:=by
    unfold World.cell? at q0
    cases hh:W.heap[w.heap.size+1]? with
    | none=>simp [hh] at q0
    | some o=>exact (Array.getElem?_eq_some_iff.1 hh).1
   have k101:CallsIn (Fence.wide.inRound l) (6 - 1 - 1 - 1) prog 101 #[y.enc] W fun e W'=>e = .returned (.int .i64 (pnd_r0 y.1.1))/\Below W.heap.size W W'/\W'.cell? ⟨w.heap.size+1,0,none⟩=some (.int .i64 0)/\W'.frozen? ⟨w.heap.size+1,0,none⟩=false:=by
    refine CallsIn.inRound l (callsIn_wide.2 ((calls_pur (pnd y.1.1) ((nd_rep y).mono (mono_below hB)) (ent_below he hB)).mono ?_))
    rintro e W' ⟨h1,h2⟩
    have hblk:=h2.block (w.heap.size+1) hrc
    refine ⟨h1,h2,?_,?_⟩
    ·unfold World.cell? at q0 ⊢; rw [hblk]; exact q0
    ·unfold World.frozen? at qf ⊢; rw [hblk]; exact qf
   simp only [Nd.enc] at k101 ⊢
   have hxB:∀j,W.cell? ⟨Bx,j,none⟩ = #[Value.int .i64 (prO y.1.1),.string (prNm y.1.1),.int .i64 (prN y.1.1),.slice y.1.2.1 y.1.2.2.1 y.1.2.2.2][j]?:=fun j=>by unfold World.cell?; rw [hbx]; rfl
   have c0:=hxB 0
   have c1:=hxB 1
   have c2:=hxB 2
   have c3:=hxB 3
   clear hxB hbx hst hcell
   generalize hpn:pnd_r0 y.1.1=k at k101
   obtain ⟨q,oa',m',c',hyx⟩:∃q oa' m' c',y.1=(q,oa',m',c'):=⟨_,_,_,_,rfl⟩
   simp only [hyx,List.getElem?_toArray,List.getElem?_cons_zero,List.getElem?_cons_succ] at k101 c0 c1 c2 c3 ⊢
   clear hyx
   by_cases hk0:k=0
   ·subst hk0
    gi_wp2_with (refine ⟨trivial,?_⟩; gi_at_call 101; refine k101.mono ?_; clear k101; rintro e W2 ⟨rfl,hB2,p0,pf⟩)
    refine ⟨⟨hB2.size,fun k o _ hk _=>(hB2.block k (Array.getElem?_eq_some_iff.1 hk).1).trans hk⟩,KC.of_below hB2,⟨fun z hz'=>?_,p0,pf⟩,hB.trans (hB2.mono hB.size)⟩
    rcases List.mem_append.1 hz' with h | h
    ·exact hz z h
    ·simp only [List.mem_singleton] at h; subst h; exact hpn
   ·gi_wp2_with (refine ⟨trivial,?_⟩; gi_at_call 101; refine k101.mono ?_; clear k101; rintro e W2 ⟨rfl,hB2,p0,pf⟩)
    have hw2:=World.cell?_setCell_same' W2 ⟨w.heap.size+1,0,none⟩ (.int .i64 k) (by rw [p0]; rfl)
    exact ⟨(show KeepsFrom W4.heap.size W W2 from ⟨hB2.size,fun k o _ hk _=>(hB2.block k (Array.getElem?_eq_some_iff.1 hk).1).trans hk⟩).trans ((KeepsOthers.setCell W2 _ _).from _),
     ⟨rfl,pre,y,rfl,hz,by rw [hpn]; exact hk0,by rw [hpn]; exact hw2⟩,(hB.trans (hB2.mono hB.size)).setCell (p:=⟨w.heap.size+1,0,none⟩) sM _⟩
  case done=>
   rintro D ys W hD hS ⟨⟨hz,q0,qf⟩,hB⟩ hK
   gi_wp2
   have hK':=(KeepsOthers.setCell W ⟨w.heap.size+1,0,none⟩ (.int .i64 0)).same D _ hK rfl
   refine ⟨by simp,.inl ⟨_,_,rfl,run_takeDeferred hK',?_⟩⟩
   have hc5:=cell_kept (World.cell?_setCell_same' W ⟨w.heap.size+1,0,none⟩ (.int .i64 0) (by rw [q0]; rfl)) (grownBy_putObj' _ D (.deferred none)) (fun r e=>by cases e; exact ⟨_,hK',rfl⟩)
   refine ⟨.int .i64 0,by simp [results,f55,go_sem,hc5],?_,?_⟩
   ·have:∀zs:List (Nd g w),(∀z∈zs,pnd_r0 z.1.1=0)->frE pnd_r0 (zs.map (·.1.1))=0:=fun zs=>by
     induction zs with
     | nil=>intro _; rfl
     | cons a r ih=>intro h; simp only [List.map_cons,frE]; rw [iP (h a sM)]; exact ih fun z hz=>h z (List.mem_cons_of_mem _ hz)
    have h1:=this ys hz
    rw [hS,hx] at h1
    rw [h1]
   ·exact (hB.setCell (p:=⟨w.heap.size+1,0,none⟩) sM _).trans (belowK_b (w:=w) (Nat.le_refl _) _ D _ _ oM hK' rfl rfl)
  case stop=>
   rintro D cdz pre W hD hS ⟨⟨rfl,ps,y,rfl,hz,hne,q0⟩,hB⟩ hK
   gi_wp2
   refine ⟨by simp,.inl ⟨_,_,rfl,run_takeDeferred hK,?_⟩⟩
   have hc5:=cell_kept q0 (grownBy_putObj' _ D (.deferred none)) (fun r e=>by cases e; exact ⟨_,hK,rfl⟩)
   refine ⟨.int .i64 (pnd_r0 y.1.1),by simp [results,f55,go_sem,hc5],?_,hB.trans (belowK_b (w:=w) (Nat.le_refl _) _ D _ _ oM hK rfl rfl)⟩
   have:∀ (zs:List (Nd g w)) (rest:List Pr),(∀z∈zs,pnd_r0 z.1.1=0)->frE pnd_r0 ((zs++[y]).map (·.1.1)++rest)=pnd_r0 y.1.1:=fun zs rest=>by
    induction zs with
    | nil=>intro _; simp only [List.nil_append,List.map_cons,List.map_nil,List.cons_append,frE]; rw [iN hne]
    | cons a r ih=>intro h; simp only [List.cons_append,List.map_cons,frE]; rw [iP (h a sM)]; exact ih fun z hz=>h z (List.mem_cons_of_mem _ hz)
   obtain ⟨rest,hrest⟩:=hS
   have h1:=this ps rest hz
   rw [hrest,hx] at h1
   rw [h1]
mutual
theorem pr_nx:∀p:Pr,noXs (prL p)=true
 | .mk o s n ks=>by simp only [prK,noXs,PV.noX,prs_nx ks,Bool.and_self]
theorem prs_nx:∀l:List Pr,noXss (Pr.cs l)=true
 | []=>rfl
 | x::r=>by rw [show Pr.cs (x::r)=prL x::Pr.cs r by simp [Pr.cs_eq],noXss,prs_nx r,pr_nx x]; rfl
end
theorem pcT(p:Pr)(hs:bulkPs (prL p)<=100000000):Pu 55 [.agg (prL p)] (.ret (.int .i64 (pcE p))):=by
 refine Ob.pur_of_eff (e':=[]) (by have h1:=pr_nx p; simp only [noXs,PV.noX,Bool.and_true,Bool.true_and] at h1 ⊢; exact h1) rfl ⟨by kernel_rfl,fun vs g l w ha he=>?_⟩
 obtain ⟨v,vs',rfl,hr,ha'⟩:=ha.inv_cons
 obtain rfl:=ha'.inv_nil
 obtain ⟨oa,m,c,hk,rfl⟩:∃oa m c,Rep g w (.sl 4 (Pr.cs (prK p))) (.slice oa m c)/\v=encP p (.slice oa m c):=by
  generalize he:prL p=cs at hr
  cases hr with
  | agg _ vs h1 ho h=>
   subst he
   match vs,h1,h with
   | [v0,v1,v2,v3],_,h=>
    have r0:Rep g w (.int .i64 (prO p)) v0:=h 0 sM sM
    have r1:Rep g w (.str (prNm p)) v1:=h 1 sM sM
    have r2:Rep g w (.int .i64 (prN p)) v2:=h 2 sM sM
    have r3:Rep g w (.sl 4 (Pr.cs (prK p))) v3:=h 3 sM sM
    obtain ⟨oa,m,c,rfl⟩:=sl_val r3
    cases r0; cases r1; cases r2
    exact ⟨oa,m,c,r3,rfl⟩
 refine (check_in p hs g l w oa m c hk he).mono ?_
 rintro enz w' ⟨rfl,hbel⟩
 exact ⟨_,[],g,l,⟨rfl,rfl⟩,.int _ _,ent_below he hbel,mono_below hbel,hbel.size,fun b hb _=>⟨hbel.block b hb,rfl⟩,fun b o ho => .inr (by rw [ho]; rfl),hbel.os,hbel.tape,hbel.output⟩
open Go.Pv Go.Proofs.Tryz
set_option maxRecDepth 100000
theorem nms_nx:∀l:List BA,noXss (nmsC l)=true
 | []=>rfl
 | x::r=>by rw [show nmsC (x::r)=[.str x]::nmsC r by simp [nmsC],noXss,nms_nx r]; rfl
abbrev dsA_I(l:List BA)(j:Int)(ks:List BA)  : S:=S.mk [(2,.v (.bool false)),(3,.v (PV.mp 0)),(7,vL 1 (nmsC l)),(8,vI6 (l.length:Int)),(9,vI6 j)] [] [(0,[LV.mm (mks ks)])]
inductive dsA_R where
 | e0 (ks:List BA)
 | e1 (ks:List BA)
def dsA_f  : List BA->(List BA)->dsA_R
 | [],ks=>(dsA_R.e1 ks)
 | el::r,ks=>(if memB el ks=true then (dsA_R.e0 ks) else dsA_f  r (adN el ks))
noncomputable def dsA_q (l:List BA)  : dsA_R->PExit × S
 | .e0 ks=>(.ret,S.mk [(2,.v (.bool false)),(3,.v (PV.mp 0)),(7,vL 1 (nmsC l)),(8,vI6 (l.length:Int))] [] [(0,[LV.mm (mks ks)])])
 | .e1 ks=>(.exit 0,S.mk [(2,.v (.bool false)),(3,.v (PV.mp 0)),(7,vL 1 (nmsC l)),(8,vI6 (l.length:Int))] [] [(0,[LV.mm (mks ks)])])
theorem dsA_lp(l:List BA)(hN:l.length<=1000000000)(ks:List BA):(Ob.loop 19 (loopF f126 0) (dsA_I l 0 ks) (dsA_q l  (dsA_f  (List.drop 0 (l))  ks)).1 (dsA_q l  (dsA_f  (List.drop 0 (l))  ks)).2).ok prog:=by
 refine rng l.length (fun j ks=>dsA_I l j ks) (fun i ks=>dsA_f  (List.drop i (l))  ks) (dsA_q l) (fun i ks=>True) kR ?_ ks trivial
 rintro i ks hi -
 rcases Nat.lt_or_ge i (l.length) with hlt | hge
 ·have hd:=drop_at0 hlt
  by_cases h0:memB (List.getD l i nm0) ks=true
  ·exact lX mdW [dt ((i:Int)<(l.length:Int)),am ((0:Int)<=(i:Int)/\(i:Int)<((nmsC l).length:Int)) (by (simp only [nmsC_len]; omega)),ar (List.getD (nmsC l) (Int.toNat (i:Int)) []) [.str (List.getD l i nm0)] (by simp only [Int.toNat_natCast,Int.toNat_zero]; rw [@nmsC_at (l) (i) hlt]; try rfl),av (.v (luRes false (mget (List.getD l i nm0) (mks ks)) (.bool false))) (.v (.bool (memB (List.getD l i nm0) ks))) (by (simp only [lu_mks]; done)),bt1 h0] (dsA_R.e0 ks) (by rw [hd,dsA_f,iP h0])
  ·exact lS mdW [dt ((i:Int)<(l.length:Int)),am ((0:Int)<=(i:Int)/\(i:Int)<((nmsC l).length:Int)) (by (simp only [nmsC_len]; omega)),ar (List.getD (nmsC l) (Int.toNat (i:Int)) []) [.str (List.getD l i nm0)] (by simp only [Int.toNat_natCast,Int.toNat_zero]; rw [@nmsC_at (l) (i) hlt]; try rfl),av (.v (luRes false (mget (List.getD l i nm0) (mks ks)) (.bool false))) (.v (.bool (memB (List.getD l i nm0) ks))) (by (simp only [lu_mks]; done)),bf1 (bFT h0),wr ((i:Int)+1)] [2,3,7,8,9] [] hlt (adN (List.getD l i nm0) ks) (S.mk [(2,.v (.bool false)),(3,.v (PV.mp 0)),(7,vL 1 (nmsC l)),(8,vI6 (l.length:Int)),(9,vI6 ((i:Int)+1))] [] [(0,[LV.mm (mupd (List.getD l i nm0) (.bool true) (mks ks))])]) ⟨⟨W,W,W,W,W,tVv⟩,trivial,(by first | rfl | (simp only [List.nil_append,nmsC_app,nmsC_snoc,Pr.cs_snoc,Tp.cs_snoc,Ex.cs_snoc,Vr.cs_snoc,Df.cs_snoc,mks_ad]; done) | (simp only [List.nil_append,nmsC_app,nmsC_snoc,Pr.cs_snoc,Tp.cs_snoc,Ex.cs_snoc,Vr.cs_snoc,Df.cs_snoc,mks_ad]; rfl))⟩ trivial (by rw [hd,dsA_f,iN h0])
 ·have he:i=l.length:=by omega
  exact lX mdW [df ((i:Int)<(l.length:Int))] (dsA_R.e1 ks) (by rw [he,List.drop_length,dsA_f])
theorem dsA_0(l:List BA)(ks:List BA)(hN:l.length<=1000000000)(p0:List BA)(hres:(dsA_f  (l)  ks)=(dsA_R.e0 p0)):(Ob.loop 19 (loopF f126 0) (dsA_I l 0 ks) (dsA_q l  (dsA_R.e0 p0)).1 (dsA_q l  (dsA_R.e0 p0)).2).ok prog:=
 rz (dsA_lp l hN ks) hres
theorem dsA_1(l:List BA)(ks:List BA)(hN:l.length<=1000000000)(p0:List BA)(hres:(dsA_f  (l)  ks)=(dsA_R.e1 p0)):(Ob.loop 19 (loopF f126 0) (dsA_I l 0 ks) (dsA_q l  (dsA_R.e1 p0)).1 (dsA_q l  (dsA_R.e1 p0)).2).ok prog:=
 rz (dsA_lp l hN ks) hres
def disB(l:List BA):Bool:=match dsA_f l [] with
 | .e0 _=>false
 | .e1 _=>true
theorem ds0(l:List BA)(hN:l.length<=1000000000)(k0:List BA)(hres:dsA_f l [] = .e0 k0):(Ob.loop 19 (loopF f126 0) (dsA_I l 0 []) (dsA_q l (.e0 k0)).1 (dsA_q l (.e0 k0)).2).ok prog:=dsA_0 l [] hN k0 hres
theorem ds1(l:List BA)(hN:l.length<=1000000000)(k0:List BA)(hres:dsA_f l [] = .e1 k0):(Ob.loop 19 (loopF f126 0) (dsA_I l 0 []) (dsA_q l (.e1 k0)).1 (dsA_q l (.e1 k0)).2).ok prog:=dsA_1 l [] hN k0 hres
section
variable (l:List BA) (hN:l.length<=1000000000) (hy0:List BA)
include l hN hy0
theorem dsL_1(hx1:dsA_f l []=dsA_R.e0 hy0):Ef 126 [.sl 1 (nmsC l)] ([]) (rB false) ([(0,[LV.mm (mks hy0)])]):=
 ef mdW [sl (nmsC_len l),lp (S.mk [(0,vL 1 (nmsC l)),(2,.v (.bool false)),(6,.v (PV.mp 0)),(3,.v (PV.mp 0)),(7,vL 1 (nmsC l)),(8,vI6 (l.length:Int)),(9,vI6 0)] [] [(0,[LV.mm []])]) (@ds0 (l) hN hy0 hx1) xr] func126
theorem dsL_2(hx1:dsA_f l []=dsA_R.e1 hy0):Ef 126 [.sl 1 (nmsC l)] ([]) (rB true) ([(0,[LV.mm (mks hy0)])]):=
 ef mdW [sl (nmsC_len l),lp (S.mk [(0,vL 1 (nmsC l)),(2,.v (.bool false)),(6,.v (PV.mp 0)),(3,.v (PV.mp 0)),(7,vL 1 (nmsC l)),(8,vI6 (l.length:Int)),(9,vI6 0)] [] [(0,[LV.mm []])]) (@ds1 (l) hN hy0 hx1) xr] func126
end
theorem dsT(l:List BA)(hN:l.length<=1000000000):Pu 126 [.sl 1 (nmsC l)] (.ret (.bool (disB l))):=by
 have hx:noXs [.sl 1 (nmsC l)]=true:=by rw [noXs,PV.noX,nms_nx]; rfl
 unfold disB
 cases h:dsA_f l [] with
 | e0 k=>first | exact Ob.pur_of_eff hx rfl (dsL_1 l hN k h) | exact Ob.pur_of_eff hx rfl (dsL_2 l hN k h)
 | e1 k=>first | exact Ob.pur_of_eff hx rfl (dsL_1 l hN k h) | exact Ob.pur_of_eff hx rfl (dsL_2 l hN k h)
theorem twL(l:List BA)(hN:l.length<=1000000000):Pu 261 [.sl 1 (nmsC l)] (rB !disB l):=
 pm mdL [cl (@dsT (l) hN)] func261
abbrev bdA_I(l:List Pm)(j:Int)(out:List BA)(e:Ext):S:=S.mk [(2,.v .nilsl),(3,.uniq 9 1 (nmsC out)),(6,vL 10 (Pm.cs l)),(7,vI6 (l.length:Int)),(8,vI6 j)] [] e
def bdA_f  : List Pm->(List BA)->(List BA)
 | [],out=>(out)
 | el::r,out=>bdA_f  r (out++[pmNm el])
def bdA_q(l:List Pm)(e:Ext)(p:(List BA)):PExit × S:=(.exit 0,S.mk [(2,.v .nilsl),(3,.uniq 9 1 (nmsC p)),(6,vL 10 (Pm.cs l)),(7,vI6 (l.length:Int))] [] e)
theorem bdA(l:List Pm)(out:List BA)(e:Ext)(hN:l.length<=1000000000)(hv:List.length out<=0):(Ob.loop 19 (loopF f260 0) (bdA_I l 0 out e) (bdA_q l e (bdA_f  (l)  out)).1 (bdA_q l e (bdA_f  (l)  out)).2).ok prog:=by
 refine rng l.length (fun j out=>bdA_I l j out e) (fun i out=>bdA_f  (List.drop i (l))  out) (bdA_q l e) (fun i out=>(out.length<=i)) kR ?_ out (by first | exact hv | omega)
 rintro i out hi hv
 try simp only at hv
 rcases Nat.lt_or_ge i (l.length) with hlt | hge
 ·have hd:=drop_at hlt
  exact lS mdL [dt ((i:Int)<(l.length:Int)),am ((0:Int)<=(i:Int)/\(i:Int)<((Pm.cs l).length:Int)) (by (simp only [Pm.cs_len]; omega)),ar (List.getD (Pm.cs l) (Int.toNat (i:Int)) []) (pmL (List.getD l i default)) (by simp only [Int.toNat_natCast,Int.toNat_zero]; rw [@Pm.cs_at (l) (i) hlt]; try rfl),am (List.length (nmsC out++(fun x=>Prod.snd x) (0+1,[[.str (pmNm (List.getD l i default))]])) * (15+1)<=140737488355328) (by (simp only [List.length_append,List.length_cons,List.length_nil,nmsC_len]; omega)),wr ((i:Int)+1)] [2,3,6,7,8] [] hlt (out++[pmNm (List.getD l i default)]) (S.mk [(2,.v .nilsl),(3,.uniq 9 1 (nmsC out++[[PV.str (pmNm (List.getD l i default))]])),(6,vL 10 (Pm.cs l)),(7,vI6 (l.length:Int)),(8,vI6 ((i:Int)+1))] [] e) ⟨⟨W,(.inl (by first | (simp only [List.nil_append,nmsC_app,nmsC_snoc,Pr.cs_snoc,Tp.cs_snoc,Ex.cs_snoc,Vr.cs_snoc,Df.cs_snoc,mks_ad]; done) | (simp only [List.nil_append,nmsC_app,nmsC_snoc,Pr.cs_snoc,Tp.cs_snoc,Ex.cs_snoc,Vr.cs_snoc,Df.cs_snoc,mks_ad]; rfl))),W,W,W,tVv⟩,trivial,rfl⟩ (by first | assumption | omega | (simp only [List.length_append,List.length_cons,List.length_nil] at *; omega) | simp_all) (by rw [hd,bdA_f])
 ·have he:i=l.length:=by omega
  exact lX mdL [df ((i:Int)<(l.length:Int))] (out) (by rw [he,List.drop_length,bdA_f])
theorem bdA_e:∀ (l:List Pm) (out:List BA),bdA_f l out=out++l.map pmNm
 | [],out=>by simp [bdA_f]
 | p::r,out=>by simp [bdA_f,bdA_e r]
theorem bdL(l:List Pm)(hN:l.length<=1000000000):Pu 260 [.sl 10 (Pm.cs l)] (.own 9 1 (nmsC (bdA_f l []))):=
 pu mdL (fun e=>[sl (Pm.cs_len l),lp (S.mk [(0,vL 10 (Pm.cs l)),(2,.v .nilsl),(3,.v .nilsl),(6,vL 10 (Pm.cs l)),(7,vI6 (l.length:Int)),(8,vI6 0)] [] e) (@bdA (l) ([]) (e) hN (by (simp only [List.length_nil]; omega))) ⟨⟨W,Wq,W,W,W,tVv⟩,trivial,rfl⟩]) func260
abbrev coA_I(l:List Al)(j:Int)(out:List BA)(e:Ext):S:=S.mk [(2,.v .nilsl),(3,.uniq 9 1 (nmsC out)),(6,vL 9 (Al.cs l)),(7,vI6 (l.length:Int)),(8,vI6 j)] [] e
def coA_f  : List Al->(List BA)->(List BA)
 | [],out=>(out)
 | el::r,out=>coA_f  r (out++[alC el])
def coA_q(l:List Al)(e:Ext)(p:(List BA)):PExit × S:=(.exit 0,S.mk [(2,.v .nilsl),(3,.uniq 9 1 (nmsC p)),(6,vL 9 (Al.cs l)),(7,vI6 (l.length:Int))] [] e)
theorem coA(l:List Al)(out:List BA)(e:Ext)(hN:l.length<=1000000000)(hv:List.length out<=0):(Ob.loop 19 (loopF f262 0) (coA_I l 0 out e) (coA_q l e (coA_f  (l)  out)).1 (coA_q l e (coA_f  (l)  out)).2).ok prog:=by
 refine rng l.length (fun j out=>coA_I l j out e) (fun i out=>coA_f  (List.drop i (l))  out) (coA_q l e) (fun i out=>(out.length<=i)) kR ?_ out (by first | exact hv | omega)
 rintro i out hi hv
 try simp only at hv
 rcases Nat.lt_or_ge i (l.length) with hlt | hge
 ·have hd:=drop_at hlt
  exact lS mdL [dt ((i:Int)<(l.length:Int)),am ((0:Int)<=(i:Int)/\(i:Int)<((Al.cs l).length:Int)) (by (simp only [Al.cs_len]; omega)),ar (List.getD (Al.cs l) (Int.toNat (i:Int)) []) (alL (List.getD l i default)) (by simp only [Int.toNat_natCast,Int.toNat_zero]; rw [@Al.cs_at (l) (i) hlt]; try rfl),am (List.length (nmsC out++(fun x=>Prod.snd x) (0+1,[[.str (alC (List.getD l i default))]])) * (15+1)<=140737488355328) (by (simp only [List.length_append,List.length_cons,List.length_nil,nmsC_len]; omega)),wr ((i:Int)+1)] [2,3,6,7,8] [] hlt (out++[alC (List.getD l i default)]) (S.mk [(2,.v .nilsl),(3,.uniq 9 1 (nmsC out++[[PV.str (alC (List.getD l i default))]])),(6,vL 9 (Al.cs l)),(7,vI6 (l.length:Int)),(8,vI6 ((i:Int)+1))] [] e) ⟨⟨W,(.inl (by first | (simp only [List.nil_append,nmsC_app,nmsC_snoc,Pr.cs_snoc,Tp.cs_snoc,Ex.cs_snoc,Vr.cs_snoc,Df.cs_snoc,mks_ad]; done) | (simp only [List.nil_append,nmsC_app,nmsC_snoc,Pr.cs_snoc,Tp.cs_snoc,Ex.cs_snoc,Vr.cs_snoc,Df.cs_snoc,mks_ad]; rfl))),W,W,W,tVv⟩,trivial,rfl⟩ (by first | assumption | omega | (simp only [List.length_append,List.length_cons,List.length_nil] at *; omega) | simp_all) (by rw [hd,coA_f])
 ·have he:i=l.length:=by omega
  exact lX mdL [df ((i:Int)<(l.length:Int))] (out) (by rw [he,List.drop_length,coA_f])
theorem coA_e:∀ (l:List Al) (out:List BA),coA_f l out=out++l.map alC
 | [],out=>by simp [coA_f]
 | p::r,out=>by simp [coA_f,coA_e r]
theorem coL(l:List Al)(hN:l.length<=1000000000):Pu 262 [.sl 9 (Al.cs l)] (.own 9 1 (nmsC (coA_f l []))):=
 pu mdL (fun e=>[sl (Al.cs_len l),lp (S.mk [(0,vL 9 (Al.cs l)),(2,.v .nilsl),(3,.v .nilsl),(6,vL 9 (Al.cs l)),(7,vI6 (l.length:Int)),(8,vI6 0)] [] e) (@coA (l) ([]) (e) hN (by (simp only [List.length_nil]; omega))) ⟨⟨W,Wq,W,W,W,tVv⟩,trivial,rfl⟩]) func262
def fxE{α:Type}(pe:α->Bool)(l:List α):Int:=if l.findIdx pe<l.length then (l.findIdx pe:Int) else -1
abbrev xfN_I(l:List BA)(g:Nat)(caps:List PV)(pe:BA->Bool)(j:Int)(e:Ext):S:=S.mk [(0,vL 1 (nmsC l)),(1,.v (.fn (.func g) [] caps)),(4,vI6 0),(7,vI6 (l.length:Int)),(8,vI6 j)] [] e
inductive xfN_R where
 | e0 (i:Nat)
 | e1
def xfN_f(pe:BA->Bool):List BA->Nat->xfN_R
 | [],i=>(xfN_R.e1)
 | el::r,i=>(if pe el=true then (xfN_R.e0 i) else xfN_f pe r (i+1))
def xfN_q(l:List BA)(g:Nat)(caps:List PV)(pe:BA->Bool)(e:Ext):xfN_R->PExit × S
 | .e0 i=>(.ret,S.mk [(0,vL 1 (nmsC l)),(1,.v (.fn (.func g) [] caps)),(4,vI6 (i:Int)),(7,vI6 (l.length:Int))] [] e)
 | .e1=>(.exit 0,S.mk [(0,vL 1 (nmsC l)),(1,.v (.fn (.func g) [] caps)),(4,vI6 0),(7,vI6 (l.length:Int))] [] e)
theorem xfN_lp(l:List BA)(g:Nat)(caps:List PV)(pe:BA->Bool)(hwk:∀ (w:BA),w∈l->Pu g (.str w::caps) (.ret (.bool (pe w))))(e:Ext)(hN:l.length<=1000000000):(Ob.loop 19 (loopF f267 0) (xfN_I l g caps pe 0  e) (xfN_q l g caps pe e (xfN_f pe (List.drop 0 (l)) 0)).1 (xfN_q l g caps pe e (xfN_f pe (List.drop 0 (l)) 0)).2).ok prog:=by
 refine rng l.length (fun j _=>xfN_I l g caps pe j  e) (fun i _=>xfN_f pe (List.drop i (l)) i) (xfN_q l g caps pe e) (fun i _=>True) kR ?_ () trivial
 rintro i u hi -
 rcases Nat.lt_or_ge i (l.length) with hlt | hge
 ·have hd:=drop_at0 hlt
  by_cases h0:pe (List.getD l i nm0)=true
  ·exact lX mdL [dt ((i:Int)<(l.length:Int)),am ((0:Int)<=(i:Int)/\(i:Int)<((nmsC l).length:Int)) (by (simp only [nmsC_len]; omega)),ar (List.getD (nmsC l) (Int.toNat (i:Int)) []) [.str (List.getD l i nm0)] (by simp only [Int.toNat_natCast,Int.toNat_zero]; rw [@nmsC_at (l) (i) hlt]; try rfl),cl (@hwk (List.getD l i nm0) (by simp_all [List.length_map,List.length_append,List.length_cons,List.length_nil,nmsC_len,Pr.cs_len,Tp.cs_len,Pm.cs_len,Ex.cs_len,Al.cs_len,Vr.cs_len,Cn.cs_len,Da.cs_len,Cl.cs_len,Bo.cs_len,Df.cs_len,In.cs_len,Cs.cs_len,Ms.cs_len,Qu.cs_len,Int.toNat_natCast,mget_mks,lu_mks,Int.toNat_zero,tn1,Bool.not_eq_true,Bool.not_eq_false])),bt1 h0] (xfN_R.e0 i) (by rw [hd,xfN_f,iP h0])
  ·exact lN mdL [dt ((i:Int)<(l.length:Int)),am ((0:Int)<=(i:Int)/\(i:Int)<((nmsC l).length:Int)) (by (simp only [nmsC_len]; omega)),ar (List.getD (nmsC l) (Int.toNat (i:Int)) []) [.str (List.getD l i nm0)] (by simp only [Int.toNat_natCast,Int.toNat_zero]; rw [@nmsC_at (l) (i) hlt]; try rfl),cl (@hwk (List.getD l i nm0) (by simp_all [List.length_map,List.length_append,List.length_cons,List.length_nil,nmsC_len,Pr.cs_len,Tp.cs_len,Pm.cs_len,Ex.cs_len,Al.cs_len,Vr.cs_len,Cn.cs_len,Da.cs_len,Cl.cs_len,Bo.cs_len,Df.cs_len,In.cs_len,Cs.cs_len,Ms.cs_len,Qu.cs_len,Int.toNat_natCast,mget_mks,lu_mks,Int.toNat_zero,tn1,Bool.not_eq_true,Bool.not_eq_false])),bf1 (bFT h0),wr ((i:Int)+1)] hlt () trivial (by rw [hd,xfN_f,iN h0])
 ·have he:i=l.length:=by omega
  exact lX mdL [df ((i:Int)<(l.length:Int))] (xfN_R.e1) (by rw [he,List.drop_length,xfN_f])
theorem xfN_0(l:List BA)(g:Nat)(caps:List PV)(pe:BA->Bool)(hwk:∀ (w:BA),w∈l->Pu g (.str w::caps) (.ret (.bool (pe w))))(e:Ext)(hN:l.length<=1000000000)(p0:Nat)(hres:(xfN_f pe (l) 0)=(xfN_R.e0 p0)):(Ob.loop 19 (loopF f267 0) (xfN_I l g caps pe 0  e) (xfN_q l g caps pe e (xfN_R.e0 p0)).1 (xfN_q l g caps pe e (xfN_R.e0 p0)).2).ok prog:=
 rz (xfN_lp l g caps pe hwk e hN) hres
theorem xfN_1(l:List BA)(g:Nat)(caps:List PV)(pe:BA->Bool)(hwk:∀ (w:BA),w∈l->Pu g (.str w::caps) (.ret (.bool (pe w))))(e:Ext)(hN:l.length<=1000000000)(hres:(xfN_f pe (l) 0)=(xfN_R.e1)):(Ob.loop 19 (loopF f267 0) (xfN_I l g caps pe 0  e) (xfN_q l g caps pe e (xfN_R.e1)).1 (xfN_q l g caps pe e (xfN_R.e1)).2).ok prog:=
 rz (xfN_lp l g caps pe hwk e hN) hres
theorem xfN_x(pe:BA->Bool):∀ (l:List BA) (k:Nat),xfN_f pe l k=if l.findIdx pe<l.length then .e0 (k+l.findIdx pe) else .e1
 | [],k=>by simp [xfN_f]
 | c::r,k=>by
  by_cases h:pe c=true
  ·simp [xfN_f,h,List.findIdx_cons]
  ·have h':pe c=false:=by cases hh:pe c <;> simp_all
   simp only [xfN_f,h',Bool.false_eq_true,if_false,xfN_x pe r (k+1),List.length_cons,List.findIdx_cons,cond_false]
   by_cases h2:r.findIdx pe<r.length
   ·rw [iP h2,iP oM]; congr 1; omega
   ·rw [iN h2,iN oM]
section
variable (l:List BA) (g:Nat) (caps:List PV) (pe:BA->Bool) (hwk:∀ (w:BA),w∈l->Pu g (.str w::caps) (.ret (.bool (pe w)))) (hN:l.length<=1000000000)
include l g caps pe hwk hN
theorem xfNL_1(hy0:Nat)(hx1:xfN_f pe l 0=xfN_R.e0 hy0):Pu 267 [.sl 1 (nmsC l),.fn (.func g) [] caps] (rI (hy0:Int)):=
 pu mdL (fun e=>[sl (nmsC_len l),lp (S.mk [(0,vL 1 (nmsC l)),(1,.v (.fn (.func g) [] caps)),(4,vI6 0),(6,vL 1 (nmsC l)),(7,vI6 (l.length:Int)),(8,vI6 0)] [] e) (@xfN_0 (l) (g) (caps) (pe) hwk (e) hN hy0 hx1) xr]) func267
theorem xfNL_2(hx0:xfN_f pe l 0=xfN_R.e1):Pu 267 [.sl 1 (nmsC l),.fn (.func g) [] caps] (rI (-1)):=
 pu mdL (fun e=>[sl (nmsC_len l),lp (S.mk [(0,vL 1 (nmsC l)),(1,.v (.fn (.func g) [] caps)),(4,vI6 0),(6,vL 1 (nmsC l)),(7,vI6 (l.length:Int)),(8,vI6 0)] [] e) (@xfN_1 (l) (g) (caps) (pe) hwk (e) hN hx0) xr]) func267
end
theorem xfNT(l:List BA)(g:Nat)(caps:List PV)(pe:BA->Bool)(hwk:∀ (w:BA),w∈l->Pu g (.str w::caps) (.ret (.bool (pe w))))(hN:l.length<=1000000000):Pu 267 [.sl 1 (nmsC l),.fn (.func g) [] caps] (.ret (.int .i64 (fxE pe l))):=by
 unfold fxE
 by_cases h:l.findIdx pe<l.length
 ·rw [iP h]; have e:xfN_f pe l 0 = .e0 (l.findIdx pe):=by rw [xfN_x,iP h,Nat.zero_add]
  first | exact xfNL_1 l g caps pe hwk hN _ e | exact xfNL_2 l g caps pe hwk hN _ e
 ·rw [iN h]; have e:xfN_f pe l 0 = .e1:=by rw [xfN_x,iN h]
  first | exact xfNL_1 l g caps pe hwk hN e | exact xfNL_2 l g caps pe hwk hN e
theorem cfN(l:List BA)(g:Nat)(caps:List PV)(pe:BA->Bool)(hwk:∀ (w:BA),w∈l->Pu g (.str w::caps) (.ret (.bool (pe w))))(hN:l.length<=1000000000):Pu 263 [.sl 1 (nmsC l),.fn (.func g) [] caps] (rB (decide (fxE pe l>=0))):=
 pm mdL [cl (@xfNT (l) (g) (caps) (pe) hwk hN)] func263
abbrev xfT_I(l:List Tp)(g:Nat)(caps:List PV)(pe:Tp->Bool)(j:Int)(e:Ext):S:=S.mk [(0,vL 9 (Tp.cs l)),(1,.v (.fn (.func g) [] caps)),(4,vI6 0),(7,vI6 (l.length:Int)),(8,vI6 j)] [] e
inductive xfT_R where
 | e0 (i:Nat)
 | e1
def xfT_f(pe:Tp->Bool):List Tp->Nat->xfT_R
 | [],i=>(xfT_R.e1)
 | el::r,i=>(if pe el=true then (xfT_R.e0 i) else xfT_f pe r (i+1))
def xfT_q(l:List Tp)(g:Nat)(caps:List PV)(pe:Tp->Bool)(e:Ext):xfT_R->PExit × S
 | .e0 i=>(.ret,S.mk [(0,vL 9 (Tp.cs l)),(1,.v (.fn (.func g) [] caps)),(4,vI6 (i:Int)),(7,vI6 (l.length:Int))] [] e)
 | .e1=>(.exit 0,S.mk [(0,vL 9 (Tp.cs l)),(1,.v (.fn (.func g) [] caps)),(4,vI6 0),(7,vI6 (l.length:Int))] [] e)
theorem xfT_lp(l:List Tp)(g:Nat)(caps:List PV)(pe:Tp->Bool)(hwk:∀ (w:Tp),w∈l->Pu g (.agg (tpL w)::caps) (.ret (.bool (pe w))))(e:Ext)(hN:l.length<=1000000000):(Ob.loop 19 (loopF f174 0) (xfT_I l g caps pe 0  e) (xfT_q l g caps pe e (xfT_f pe (List.drop 0 (l)) 0)).1 (xfT_q l g caps pe e (xfT_f pe (List.drop 0 (l)) 0)).2).ok prog:=by
 refine rng l.length (fun j _=>xfT_I l g caps pe j  e) (fun i _=>xfT_f pe (List.drop i (l)) i) (xfT_q l g caps pe e) (fun i _=>True) kR ?_ () trivial
 rintro i u hi -
 rcases Nat.lt_or_ge i (l.length) with hlt | hge
 ·have hd:=drop_at hlt
  by_cases h0:pe (List.getD l i default)=true
  ·exact lX mdL [dt ((i:Int)<(l.length:Int)),am ((0:Int)<=(i:Int)/\(i:Int)<((Tp.cs l).length:Int)) (by (simp only [Tp.cs_len]; omega)),ar (List.getD (Tp.cs l) (Int.toNat (i:Int)) []) (tpL (List.getD l i default)) (by simp only [Int.toNat_natCast,Int.toNat_zero]; rw [@Tp.cs_at (l) (i) hlt]; try rfl),cl (@hwk (List.getD l i default) (by simp_all [List.length_map,List.length_append,List.length_cons,List.length_nil,nmsC_len,Pr.cs_len,Tp.cs_len,Pm.cs_len,Ex.cs_len,Al.cs_len,Vr.cs_len,Cn.cs_len,Da.cs_len,Cl.cs_len,Bo.cs_len,Df.cs_len,In.cs_len,Cs.cs_len,Ms.cs_len,Qu.cs_len,Int.toNat_natCast,mget_mks,lu_mks,Int.toNat_zero,tn1,Bool.not_eq_true,Bool.not_eq_false])),bt1 h0] (xfT_R.e0 i) (by rw [hd,xfT_f,iP h0])
  ·exact lN mdL [dt ((i:Int)<(l.length:Int)),am ((0:Int)<=(i:Int)/\(i:Int)<((Tp.cs l).length:Int)) (by (simp only [Tp.cs_len]; omega)),ar (List.getD (Tp.cs l) (Int.toNat (i:Int)) []) (tpL (List.getD l i default)) (by simp only [Int.toNat_natCast,Int.toNat_zero]; rw [@Tp.cs_at (l) (i) hlt]; try rfl),cl (@hwk (List.getD l i default) (by simp_all [List.length_map,List.length_append,List.length_cons,List.length_nil,nmsC_len,Pr.cs_len,Tp.cs_len,Pm.cs_len,Ex.cs_len,Al.cs_len,Vr.cs_len,Cn.cs_len,Da.cs_len,Cl.cs_len,Bo.cs_len,Df.cs_len,In.cs_len,Cs.cs_len,Ms.cs_len,Qu.cs_len,Int.toNat_natCast,mget_mks,lu_mks,Int.toNat_zero,tn1,Bool.not_eq_true,Bool.not_eq_false])),bf1 (bFT h0),wr ((i:Int)+1)] hlt () trivial (by rw [hd,xfT_f,iN h0])
 ·have he:i=l.length:=by omega
  exact lX mdL [df ((i:Int)<(l.length:Int))] (xfT_R.e1) (by rw [he,List.drop_length,xfT_f])
theorem xfT_0(l:List Tp)(g:Nat)(caps:List PV)(pe:Tp->Bool)(hwk:∀ (w:Tp),w∈l->Pu g (.agg (tpL w)::caps) (.ret (.bool (pe w))))(e:Ext)(hN:l.length<=1000000000)(p0:Nat)(hres:(xfT_f pe (l) 0)=(xfT_R.e0 p0)):(Ob.loop 19 (loopF f174 0) (xfT_I l g caps pe 0  e) (xfT_q l g caps pe e (xfT_R.e0 p0)).1 (xfT_q l g caps pe e (xfT_R.e0 p0)).2).ok prog:=
 rz (xfT_lp l g caps pe hwk e hN) hres
theorem xfT_1(l:List Tp)(g:Nat)(caps:List PV)(pe:Tp->Bool)(hwk:∀ (w:Tp),w∈l->Pu g (.agg (tpL w)::caps) (.ret (.bool (pe w))))(e:Ext)(hN:l.length<=1000000000)(hres:(xfT_f pe (l) 0)=(xfT_R.e1)):(Ob.loop 19 (loopF f174 0) (xfT_I l g caps pe 0  e) (xfT_q l g caps pe e (xfT_R.e1)).1 (xfT_q l g caps pe e (xfT_R.e1)).2).ok prog:=
 rz (xfT_lp l g caps pe hwk e hN) hres
theorem xfT_x(pe:Tp->Bool):∀ (l:List Tp) (k:Nat),xfT_f pe l k=if l.findIdx pe<l.length then .e0 (k+l.findIdx pe) else .e1
 | [],k=>by simp [xfT_f]
 | c::r,k=>by
  by_cases h:pe c=true
  ·simp [xfT_f,h,List.findIdx_cons]
  ·have h':pe c=false:=by cases hh:pe c <;> simp_all
   simp only [xfT_f,h',Bool.false_eq_true,if_false,xfT_x pe r (k+1),List.length_cons,List.findIdx_cons,cond_false]
   by_cases h2:r.findIdx pe<r.length
   ·rw [iP h2,iP oM]; congr 1; omega
   ·rw [iN h2,iN oM]
section
variable (l:List Tp) (g:Nat) (caps:List PV) (pe:Tp->Bool) (hwk:∀ (w:Tp),w∈l->Pu g (.agg (tpL w)::caps) (.ret (.bool (pe w)))) (hN:l.length<=1000000000)
include l g caps pe hwk hN
theorem xfTL_1(hy0:Nat)(hx1:xfT_f pe l 0=xfT_R.e0 hy0):Pu 174 [.sl 9 (Tp.cs l),.fn (.func g) [] caps] (rI (hy0:Int)):=
 pu mdL (fun e=>[sl (Tp.cs_len l),lp (S.mk [(0,vL 9 (Tp.cs l)),(1,.v (.fn (.func g) [] caps)),(4,vI6 0),(6,vL 9 (Tp.cs l)),(7,vI6 (l.length:Int)),(8,vI6 0)] [] e) (@xfT_0 (l) (g) (caps) (pe) hwk (e) hN hy0 hx1) xr]) func174
theorem xfTL_2(hx0:xfT_f pe l 0=xfT_R.e1):Pu 174 [.sl 9 (Tp.cs l),.fn (.func g) [] caps] (rI (-1)):=
 pu mdL (fun e=>[sl (Tp.cs_len l),lp (S.mk [(0,vL 9 (Tp.cs l)),(1,.v (.fn (.func g) [] caps)),(4,vI6 0),(6,vL 9 (Tp.cs l)),(7,vI6 (l.length:Int)),(8,vI6 0)] [] e) (@xfT_1 (l) (g) (caps) (pe) hwk (e) hN hx0) xr]) func174
end
theorem xfTT(l:List Tp)(g:Nat)(caps:List PV)(pe:Tp->Bool)(hwk:∀ (w:Tp),w∈l->Pu g (.agg (tpL w)::caps) (.ret (.bool (pe w))))(hN:l.length<=1000000000):Pu 174 [.sl 9 (Tp.cs l),.fn (.func g) [] caps] (.ret (.int .i64 (fxE pe l))):=by
 unfold fxE
 by_cases h:l.findIdx pe<l.length
 ·rw [iP h]; have e:xfT_f pe l 0 = .e0 (l.findIdx pe):=by rw [xfT_x,iP h,Nat.zero_add]
  first | exact xfTL_1 l g caps pe hwk hN _ e | exact xfTL_2 l g caps pe hwk hN _ e
 ·rw [iN h]; have e:xfT_f pe l 0 = .e1:=by rw [xfT_x,iN h]
  first | exact xfTL_1 l g caps pe hwk hN e | exact xfTL_2 l g caps pe hwk hN e
theorem cfT(l:List Tp)(g:Nat)(caps:List PV)(pe:Tp->Bool)(hwk:∀ (w:Tp),w∈l->Pu g (.agg (tpL w)::caps) (.ret (.bool (pe w))))(hN:l.length<=1000000000):Pu 129 [.sl 9 (Tp.cs l),.fn (.func g) [] caps] (rB (decide (fxE pe l>=0))):=
 pm mdL [cl (@xfTT (l) (g) (caps) (pe) hwk hN)] func129
abbrev xfC_I(l:List Cn)(g:Nat)(caps:List PV)(pe:Cn->Bool)(j:Int)(e:Ext):S:=S.mk [(0,vL 3 (Cn.cs l)),(1,.v (.fn (.func g) [] caps)),(4,vI6 0),(7,vI6 (l.length:Int)),(8,vI6 j)] [] e
inductive xfC_R where
 | e0 (i:Nat)
 | e1
def xfC_f(pe:Cn->Bool):List Cn->Nat->xfC_R
 | [],i=>(xfC_R.e1)
 | el::r,i=>(if pe el=true then (xfC_R.e0 i) else xfC_f pe r (i+1))
def xfC_q(l:List Cn)(g:Nat)(caps:List PV)(pe:Cn->Bool)(e:Ext):xfC_R->PExit × S
 | .e0 i=>(.ret,S.mk [(0,vL 3 (Cn.cs l)),(1,.v (.fn (.func g) [] caps)),(4,vI6 (i:Int)),(7,vI6 (l.length:Int))] [] e)
 | .e1=>(.exit 0,S.mk [(0,vL 3 (Cn.cs l)),(1,.v (.fn (.func g) [] caps)),(4,vI6 0),(7,vI6 (l.length:Int))] [] e)
theorem xfC_lp(l:List Cn)(g:Nat)(caps:List PV)(pe:Cn->Bool)(hwk:∀ (w:Cn),w∈l->Pu g (.agg (cnL w)::caps) (.ret (.bool (pe w))))(e:Ext)(hN:l.length<=1000000000):(Ob.loop 19 (loopF f93 0) (xfC_I l g caps pe 0  e) (xfC_q l g caps pe e (xfC_f pe (List.drop 0 (l)) 0)).1 (xfC_q l g caps pe e (xfC_f pe (List.drop 0 (l)) 0)).2).ok prog:=by
 refine rng l.length (fun j _=>xfC_I l g caps pe j  e) (fun i _=>xfC_f pe (List.drop i (l)) i) (xfC_q l g caps pe e) (fun i _=>True) kR ?_ () trivial
 rintro i u hi -
 rcases Nat.lt_or_ge i (l.length) with hlt | hge
 ·have hd:=drop_at hlt
  by_cases h0:pe (List.getD l i default)=true
  ·exact lX mdL [dt ((i:Int)<(l.length:Int)),am ((0:Int)<=(i:Int)/\(i:Int)<((Cn.cs l).length:Int)) (by (simp only [Cn.cs_len]; omega)),ar (List.getD (Cn.cs l) (Int.toNat (i:Int)) []) (cnL (List.getD l i default)) (by simp only [Int.toNat_natCast,Int.toNat_zero]; rw [@Cn.cs_at (l) (i) hlt]; try rfl),cl (@hwk (List.getD l i default) (by simp_all [List.length_map,List.length_append,List.length_cons,List.length_nil,nmsC_len,Pr.cs_len,Tp.cs_len,Pm.cs_len,Ex.cs_len,Al.cs_len,Vr.cs_len,Cn.cs_len,Da.cs_len,Cl.cs_len,Bo.cs_len,Df.cs_len,In.cs_len,Cs.cs_len,Ms.cs_len,Qu.cs_len,Int.toNat_natCast,mget_mks,lu_mks,Int.toNat_zero,tn1,Bool.not_eq_true,Bool.not_eq_false])),bt1 h0] (xfC_R.e0 i) (by rw [hd,xfC_f,iP h0])
  ·exact lN mdL [dt ((i:Int)<(l.length:Int)),am ((0:Int)<=(i:Int)/\(i:Int)<((Cn.cs l).length:Int)) (by (simp only [Cn.cs_len]; omega)),ar (List.getD (Cn.cs l) (Int.toNat (i:Int)) []) (cnL (List.getD l i default)) (by simp only [Int.toNat_natCast,Int.toNat_zero]; rw [@Cn.cs_at (l) (i) hlt]; try rfl),cl (@hwk (List.getD l i default) (by simp_all [List.length_map,List.length_append,List.length_cons,List.length_nil,nmsC_len,Pr.cs_len,Tp.cs_len,Pm.cs_len,Ex.cs_len,Al.cs_len,Vr.cs_len,Cn.cs_len,Da.cs_len,Cl.cs_len,Bo.cs_len,Df.cs_len,In.cs_len,Cs.cs_len,Ms.cs_len,Qu.cs_len,Int.toNat_natCast,mget_mks,lu_mks,Int.toNat_zero,tn1,Bool.not_eq_true,Bool.not_eq_false])),bf1 (bFT h0),wr ((i:Int)+1)] hlt () trivial (by rw [hd,xfC_f,iN h0])
 ·have he:i=l.length:=by omega
  exact lX mdL [df ((i:Int)<(l.length:Int))] (xfC_R.e1) (by rw [he,List.drop_length,xfC_f])
theorem xfC_0(l:List Cn)(g:Nat)(caps:List PV)(pe:Cn->Bool)(hwk:∀ (w:Cn),w∈l->Pu g (.agg (cnL w)::caps) (.ret (.bool (pe w))))(e:Ext)(hN:l.length<=1000000000)(p0:Nat)(hres:(xfC_f pe (l) 0)=(xfC_R.e0 p0)):(Ob.loop 19 (loopF f93 0) (xfC_I l g caps pe 0  e) (xfC_q l g caps pe e (xfC_R.e0 p0)).1 (xfC_q l g caps pe e (xfC_R.e0 p0)).2).ok prog:=
 rz (xfC_lp l g caps pe hwk e hN) hres
theorem xfC_1(l:List Cn)(g:Nat)(caps:List PV)(pe:Cn->Bool)(hwk:∀ (w:Cn),w∈l->Pu g (.agg (cnL w)::caps) (.ret (.bool (pe w))))(e:Ext)(hN:l.length<=1000000000)(hres:(xfC_f pe (l) 0)=(xfC_R.e1)):(Ob.loop 19 (loopF f93 0) (xfC_I l g caps pe 0  e) (xfC_q l g caps pe e (xfC_R.e1)).1 (xfC_q l g caps pe e (xfC_R.e1)).2).ok prog:=
 rz (xfC_lp l g caps pe hwk e hN) hres
theorem xfC_x(pe:Cn->Bool):∀ (l:List Cn) (k:Nat),xfC_f pe l k=if l.findIdx pe<l.length then .e0 (k+l.findIdx pe) else .e1
 | [],k=>by simp [xfC_f]
 | c::r,k=>by
  by_cases h:pe c=true
  ·simp [xfC_f,h,List.findIdx_cons]
  ·have h':pe c=false:=by cases hh:pe c <;> simp_all
   simp only [xfC_f,h',Bool.false_eq_true,if_false,xfC_x pe r (k+1),List.length_cons,List.findIdx_cons,cond_false]
   by_cases h2:r.findIdx pe<r.length
   ·rw [iP h2,iP oM]; congr 1; omega
   ·rw [iN h2,iN oM]
section
variable (l:List Cn) (g:Nat) (caps:List PV) (pe:Cn->Bool) (hwk:∀ (w:Cn),w∈l->Pu g (.agg (cnL w)::caps) (.ret (.bool (pe w)))) (hN:l.length<=1000000000)
include l g caps pe hwk hN
theorem xfCL_1(hy0:Nat)(hx1:xfC_f pe l 0=xfC_R.e0 hy0):Pu 93 [.sl 3 (Cn.cs l),.fn (.func g) [] caps] (rI (hy0:Int)):=
 pu mdL (fun e=>[sl (Cn.cs_len l),lp (S.mk [(0,vL 3 (Cn.cs l)),(1,.v (.fn (.func g) [] caps)),(4,vI6 0),(6,vL 3 (Cn.cs l)),(7,vI6 (l.length:Int)),(8,vI6 0)] [] e) (@xfC_0 (l) (g) (caps) (pe) hwk (e) hN hy0 hx1) xr]) func93
theorem xfCL_2(hx0:xfC_f pe l 0=xfC_R.e1):Pu 93 [.sl 3 (Cn.cs l),.fn (.func g) [] caps] (rI (-1)):=
 pu mdL (fun e=>[sl (Cn.cs_len l),lp (S.mk [(0,vL 3 (Cn.cs l)),(1,.v (.fn (.func g) [] caps)),(4,vI6 0),(6,vL 3 (Cn.cs l)),(7,vI6 (l.length:Int)),(8,vI6 0)] [] e) (@xfC_1 (l) (g) (caps) (pe) hwk (e) hN hx0) xr]) func93
end
theorem xfCT(l:List Cn)(g:Nat)(caps:List PV)(pe:Cn->Bool)(hwk:∀ (w:Cn),w∈l->Pu g (.agg (cnL w)::caps) (.ret (.bool (pe w))))(hN:l.length<=1000000000):Pu 93 [.sl 3 (Cn.cs l),.fn (.func g) [] caps] (.ret (.int .i64 (fxE pe l))):=by
 unfold fxE
 by_cases h:l.findIdx pe<l.length
 ·rw [iP h]; have e:xfC_f pe l 0 = .e0 (l.findIdx pe):=by rw [xfC_x,iP h,Nat.zero_add]
  first | exact xfCL_1 l g caps pe hwk hN _ e | exact xfCL_2 l g caps pe hwk hN _ e
 ·rw [iN h]; have e:xfC_f pe l 0 = .e1:=by rw [xfC_x,iN h]
  first | exact xfCL_1 l g caps pe hwk hN e | exact xfCL_2 l g caps pe hwk hN e
abbrev xfA_I(l:List Al)(g:Nat)(caps:List PV)(pe:Al->Bool)(j:Int)(e:Ext):S:=S.mk [(0,vL 9 (Al.cs l)),(1,.v (.fn (.func g) [] caps)),(4,vI6 0),(7,vI6 (l.length:Int)),(8,vI6 j)] [] e
inductive xfA_R where
 | e0 (i:Nat)
 | e1
def xfA_f(pe:Al->Bool):List Al->Nat->xfA_R
 | [],i=>(xfA_R.e1)
 | el::r,i=>(if pe el=true then (xfA_R.e0 i) else xfA_f pe r (i+1))
def xfA_q(l:List Al)(g:Nat)(caps:List PV)(pe:Al->Bool)(e:Ext):xfA_R->PExit × S
 | .e0 i=>(.ret,S.mk [(0,vL 9 (Al.cs l)),(1,.v (.fn (.func g) [] caps)),(4,vI6 (i:Int)),(7,vI6 (l.length:Int))] [] e)
 | .e1=>(.exit 0,S.mk [(0,vL 9 (Al.cs l)),(1,.v (.fn (.func g) [] caps)),(4,vI6 0),(7,vI6 (l.length:Int))] [] e)
theorem xfA_lp(l:List Al)(g:Nat)(caps:List PV)(pe:Al->Bool)(hwk:∀ (w:Al),w∈l->Pu g (.agg (alL w)::caps) (.ret (.bool (pe w))))(e:Ext)(hN:l.length<=1000000000):(Ob.loop 19 (loopF f266 0) (xfA_I l g caps pe 0  e) (xfA_q l g caps pe e (xfA_f pe (List.drop 0 (l)) 0)).1 (xfA_q l g caps pe e (xfA_f pe (List.drop 0 (l)) 0)).2).ok prog:=by
 refine rng l.length (fun j _=>xfA_I l g caps pe j  e) (fun i _=>xfA_f pe (List.drop i (l)) i) (xfA_q l g caps pe e) (fun i _=>True) kR ?_ () trivial
 rintro i u hi -
 rcases Nat.lt_or_ge i (l.length) with hlt | hge
 ·have hd:=drop_at hlt
  by_cases h0:pe (List.getD l i default)=true
  ·exact lX mdL [dt ((i:Int)<(l.length:Int)),am ((0:Int)<=(i:Int)/\(i:Int)<((Al.cs l).length:Int)) (by (simp only [Al.cs_len]; omega)),ar (List.getD (Al.cs l) (Int.toNat (i:Int)) []) (alL (List.getD l i default)) (by simp only [Int.toNat_natCast,Int.toNat_zero]; rw [@Al.cs_at (l) (i) hlt]; try rfl),cl (@hwk (List.getD l i default) (by simp_all [List.length_map,List.length_append,List.length_cons,List.length_nil,nmsC_len,Pr.cs_len,Tp.cs_len,Pm.cs_len,Ex.cs_len,Al.cs_len,Vr.cs_len,Cn.cs_len,Da.cs_len,Cl.cs_len,Bo.cs_len,Df.cs_len,In.cs_len,Cs.cs_len,Ms.cs_len,Qu.cs_len,Int.toNat_natCast,mget_mks,lu_mks,Int.toNat_zero,tn1,Bool.not_eq_true,Bool.not_eq_false])),bt1 h0] (xfA_R.e0 i) (by rw [hd,xfA_f,iP h0])
  ·exact lN mdL [dt ((i:Int)<(l.length:Int)),am ((0:Int)<=(i:Int)/\(i:Int)<((Al.cs l).length:Int)) (by (simp only [Al.cs_len]; omega)),ar (List.getD (Al.cs l) (Int.toNat (i:Int)) []) (alL (List.getD l i default)) (by simp only [Int.toNat_natCast,Int.toNat_zero]; rw [@Al.cs_at (l) (i) hlt]; try rfl),cl (@hwk (List.getD l i default) (by simp_all [List.length_map,List.length_append,List.length_cons,List.length_nil,nmsC_len,Pr.cs_len,Tp.cs_len,Pm.cs_len,Ex.cs_len,Al.cs_len,Vr.cs_len,Cn.cs_len,Da.cs_len,Cl.cs_len,Bo.cs_len,Df.cs_len,In.cs_len,Cs.cs_len,Ms.cs_len,Qu.cs_len,Int.toNat_natCast,mget_mks,lu_mks,Int.toNat_zero,tn1,Bool.not_eq_true,Bool.not_eq_false])),bf1 (bFT h0),wr ((i:Int)+1)] hlt () trivial (by rw [hd,xfA_f,iN h0])
 ·have he:i=l.length:=by omega
  exact lX mdL [df ((i:Int)<(l.length:Int))] (xfA_R.e1) (by rw [he,List.drop_length,xfA_f])
theorem xfA_0(l:List Al)(g:Nat)(caps:List PV)(pe:Al->Bool)(hwk:∀ (w:Al),w∈l->Pu g (.agg (alL w)::caps) (.ret (.bool (pe w))))(e:Ext)(hN:l.length<=1000000000)(p0:Nat)(hres:(xfA_f pe (l) 0)=(xfA_R.e0 p0)):(Ob.loop 19 (loopF f266 0) (xfA_I l g caps pe 0  e) (xfA_q l g caps pe e (xfA_R.e0 p0)).1 (xfA_q l g caps pe e (xfA_R.e0 p0)).2).ok prog:=
 rz (xfA_lp l g caps pe hwk e hN) hres
theorem xfA_1(l:List Al)(g:Nat)(caps:List PV)(pe:Al->Bool)(hwk:∀ (w:Al),w∈l->Pu g (.agg (alL w)::caps) (.ret (.bool (pe w))))(e:Ext)(hN:l.length<=1000000000)(hres:(xfA_f pe (l) 0)=(xfA_R.e1)):(Ob.loop 19 (loopF f266 0) (xfA_I l g caps pe 0  e) (xfA_q l g caps pe e (xfA_R.e1)).1 (xfA_q l g caps pe e (xfA_R.e1)).2).ok prog:=
 rz (xfA_lp l g caps pe hwk e hN) hres
theorem xfA_x(pe:Al->Bool):∀ (l:List Al) (k:Nat),xfA_f pe l k=if l.findIdx pe<l.length then .e0 (k+l.findIdx pe) else .e1
 | [],k=>by simp [xfA_f]
 | c::r,k=>by
  by_cases h:pe c=true
  ·simp [xfA_f,h,List.findIdx_cons]
  ·have h':pe c=false:=by cases hh:pe c <;> simp_all
   simp only [xfA_f,h',Bool.false_eq_true,if_false,xfA_x pe r (k+1),List.length_cons,List.findIdx_cons,cond_false]
   by_cases h2:r.findIdx pe<r.length
   ·rw [iP h2,iP oM]; congr 1; omega
   ·rw [iN h2,iN oM]
section
variable (l:List Al) (g:Nat) (caps:List PV) (pe:Al->Bool) (hwk:∀ (w:Al),w∈l->Pu g (.agg (alL w)::caps) (.ret (.bool (pe w)))) (hN:l.length<=1000000000)
include l g caps pe hwk hN
theorem xfAL_1(hy0:Nat)(hx1:xfA_f pe l 0=xfA_R.e0 hy0):Pu 266 [.sl 9 (Al.cs l),.fn (.func g) [] caps] (rI (hy0:Int)):=
 pu mdL (fun e=>[sl (Al.cs_len l),lp (S.mk [(0,vL 9 (Al.cs l)),(1,.v (.fn (.func g) [] caps)),(4,vI6 0),(6,vL 9 (Al.cs l)),(7,vI6 (l.length:Int)),(8,vI6 0)] [] e) (@xfA_0 (l) (g) (caps) (pe) hwk (e) hN hy0 hx1) xr]) func266
theorem xfAL_2(hx0:xfA_f pe l 0=xfA_R.e1):Pu 266 [.sl 9 (Al.cs l),.fn (.func g) [] caps] (rI (-1)):=
 pu mdL (fun e=>[sl (Al.cs_len l),lp (S.mk [(0,vL 9 (Al.cs l)),(1,.v (.fn (.func g) [] caps)),(4,vI6 0),(6,vL 9 (Al.cs l)),(7,vI6 (l.length:Int)),(8,vI6 0)] [] e) (@xfA_1 (l) (g) (caps) (pe) hwk (e) hN hx0) xr]) func266
end
theorem xfAT(l:List Al)(g:Nat)(caps:List PV)(pe:Al->Bool)(hwk:∀ (w:Al),w∈l->Pu g (.agg (alL w)::caps) (.ret (.bool (pe w))))(hN:l.length<=1000000000):Pu 266 [.sl 9 (Al.cs l),.fn (.func g) [] caps] (.ret (.int .i64 (fxE pe l))):=by
 unfold fxE
 by_cases h:l.findIdx pe<l.length
 ·rw [iP h]; have e:xfA_f pe l 0 = .e0 (l.findIdx pe):=by rw [xfA_x,iP h,Nat.zero_add]
  first | exact xfAL_1 l g caps pe hwk hN _ e | exact xfAL_2 l g caps pe hwk hN _ e
 ·rw [iN h]; have e:xfA_f pe l 0 = .e1:=by rw [xfA_x,iN h]
  first | exact xfAL_1 l g caps pe hwk hN e | exact xfAL_2 l g caps pe hwk hN e
theorem cfA(l:List Al)(g:Nat)(caps:List PV)(pe:Al->Bool)(hwk:∀ (w:Al),w∈l->Pu g (.agg (alL w)::caps) (.ret (.bool (pe w))))(hN:l.length<=1000000000):Pu 258 [.sl 9 (Al.cs l),.fn (.func g) [] caps] (rB (decide (fxE pe l>=0))):=
 pm mdL [cl (@xfAT (l) (g) (caps) (pe) hwk hN)] func258
def fi4(x y z u:Int):Int:=(if x=0 then (if y=0 then (if z=0 then (if u=0 then 0 else u) else z) else y) else x)
section
variable (x y z u:Int)
include x y z u
theorem fs4_1(hx0:¬x=0):Pu 52 [.sl 1 [[pI x],[pI y],[pI z],[pI u]]] (rI x):=
 pm mdL [kp,ur,bt true,kp,bt true,ab (x != 0) (bneT hx0)] func52
theorem fs4_2(hx0:x=0)(hx1:¬y=0):Pu 52 [.sl 1 [[pI x],[pI y],[pI z],[pI u]]] (rI y):=
 pm mdL [kp,ur,bt true,kp,ab true,nn1 hx0,kp,bt true,kp,bt true,ab (y != 0) (bneT hx1)] func52
theorem fs4_3(hx0:x=0)(hx1:y=0)(hx2:¬z=0):Pu 52 [.sl 1 [[pI x],[pI y],[pI z],[pI u]]] (rI z):=
 pm mdL [kp,ur,bt true,kp,ab true,nn1 hx0,kp,bt true,kp,ab true,nn1 hx1,kp,bt true,kp,bt true,ab (z != 0) (bneT hx2)] func52
theorem fs4_4(hx0:x=0)(hx1:y=0)(hx2:z=0)(hx3:¬u=0):Pu 52 [.sl 1 [[pI x],[pI y],[pI z],[pI u]]] (rI u):=
 pm mdL [kp,ur,bt true,kp,ab true,nn1 hx0,kp,bt true,kp,ab true,nn1 hx1,kp,bt true,kp,ab true,nn1 hx2,kp,bt true,kp,bt true,ab (u != 0) (bneT hx3)] func52
theorem fs4_5(hx0:x=0)(hx1:y=0)(hx2:z=0)(hx3:u=0):Pu 52 [.sl 1 [[pI x],[pI y],[pI z],[pI u]]] (rI 0):=
 pm mdL [kp,ur,bt true,kp,ab true,nn1 hx0,kp,bt true,kp,ab true,nn1 hx1,kp,bt true,kp,ab true,nn1 hx2,kp,bt true,kp,ab true,nn1 hx3,kp,bf false] func52
end
theorem fs4T(x y z u:Int):Pu 52 [.sl 1 [[.int .i64 x],[.int .i64 y],[.int .i64 z],[.int .i64 u]]] (.ret (.int .i64 (fi4 x y z u))):=by
 unfold fi4
 by_cases h0:x=0
 ·rw [iP h0]
  by_cases h1:y=0
  ·rw [iP h1]
   by_cases h2:z=0
   ·rw [iP h2]
    by_cases h3:u=0
    ·rw [iP h3]; (first | exact fs4_1 x y z u h0 h1 h2 h3 | exact fs4_2 x y z u h0 h1 h2 h3 | exact fs4_3 x y z u h0 h1 h2 h3 | exact fs4_4 x y z u h0 h1 h2 h3 | exact fs4_5 x y z u h0 h1 h2 h3)
    ·rw [iN h3]; (first | exact fs4_1 x y z u h0 h1 h2 h3 | exact fs4_2 x y z u h0 h1 h2 h3 | exact fs4_3 x y z u h0 h1 h2 h3 | exact fs4_4 x y z u h0 h1 h2 h3 | exact fs4_5 x y z u h0 h1 h2 h3)
   ·rw [iN h2]; (first | exact fs4_1 x y z u h0 h1 h2 | exact fs4_2 x y z u h0 h1 h2 | exact fs4_3 x y z u h0 h1 h2 | exact fs4_4 x y z u h0 h1 h2 | exact fs4_5 x y z u h0 h1 h2)
  ·rw [iN h1]; (first | exact fs4_1 x y z u h0 h1 | exact fs4_2 x y z u h0 h1 | exact fs4_3 x y z u h0 h1 | exact fs4_4 x y z u h0 h1 | exact fs4_5 x y z u h0 h1)
 ·rw [iN h0]; (first | exact fs4_1 x y z u h0 | exact fs4_2 x y z u h0 | exact fs4_3 x y z u h0 | exact fs4_4 x y z u h0 | exact fs4_5 x y z u h0)
theorem clone_ok(l:List BA)(hn:l.length<=1000000000):Pu 103 [.sl 1 (nmsC l)] (.own 9 1 (nmsC l)):=by
 refine ⟨by kernel_rfl,fun e=>?_⟩
 refine CallC.enter func103 rfl (show 1<=8 by decide) fun cx hcx hds=>?_
 refine PW_seq ?_
 refine PW_runK mdL 8 50 [] [0] [] (s':=⟨[(0,.v (.sl 1 (nmsC l)))],[],e⟩) (pe := .normal) (sc':=[]) (l:=[]) mixed hcx kR kR trivial ?_
 show PW _ _ _ _ _
 refine PW_seq (PW_seq ?_)
 intro g l0 a w hs
 refine wp_region_lit ?_
 have hn':∀k,k<8->k<cx.n:=fun k hk=>by rw [hcx]; exact hk
 refine (PL_moveV (p := .sl 1 (nmsC l)) rfl rfl rfl (hn' _ dD) rfl ?_:PL _ _ _ _ _ _) g l0 a w hs
 refine PL_nilcmp (z:=1) (es:=nmsC l) (el:=9) rfl rfl rfl (hn' _ dD) kR rfl fun b hb=>?_
 refine PL_nil ?_
 show PW _ _ _ _ _
 cases b with
 | true=>
  have h0:=hb rfl
  refine PW.leX (t:=⟨[(4,.v (.bool true))],[],e⟩) ⟨⟨W,tVv⟩,trivial,rfl⟩ ?_
  refine PW.postLe ?_
  refine PW_runK mdL 8 50 [Ans.bit true] [2] [] (s':=⟨[(2,.v .nilsl)],[],e⟩) (pe := .ret) (sc':=[]) (l:=[.bit true true]) mixed hcx kR kR ⟨rfl,tVv⟩ ?_
  refine ⟨⟨[(2,.uniq 9 1 [])],[],e⟩,⟨⟨.inr rfl,tVv⟩,trivial,rfl⟩,?_⟩
  refine .inr ⟨2,9,1,[],rfl,rfl,by decide,?_⟩
  rw [h0]
  exact ⟨rfl,rfl⟩
 | false=>
  refine PW.leX (t:=⟨[(0,.v (.sl 1 (nmsC l))),(4,.v (.bool false))],[],e⟩) ⟨⟨W,W,tVv⟩,trivial,rfl⟩ ?_
  refine PW_runK mdL 8 50 [Ans.bit false] [0] [] (s':=⟨[(0,.v (.sl 1 (nmsC l)))],[],e⟩) (pe := .normal) (sc':=[]) (l:=[.bit false false]) mixed hcx kR kR ⟨rfl,tVv⟩ ?_
  show PW _ _ _ _ _
  refine PW_runK mdL 8 50 [] [2] [] (s':=⟨[(2,.uniq 9 1 (nmsC l))],[],e⟩) (pe := .ret) (sc':=[]) (l:=[.bit (decide ((nmsC l).length * 16<=140737488355328)) true]) mixed hcx kR kR ⟨ob_bit (dT (by rw [nmsC_len]; omega)),tVv⟩ ?_
  exact .inr ⟨2,9,1,nmsC l,rfl,rfl,by decide,rfl,rfl⟩
theorem an1(m:Mo)(k:Int)(s:BA):Pu 125 [pI k,.str s,.ro (wL m) 0] (rI (erN (nameB s))):=
 pm mdW [cl (@wNm (m) (s))] func125
theorem anT(m:Mo)(l:List BA)(hN:l.length<=1000000000):Pu 124 [.sl 1 (nmsC l),.fn (.func 125) [] [.ro (wL m) 0]] (.ret (.int .i64 (frE (fun s=>erN (nameB s)) l))):=eaNT l _ _ _ (fun k w _=>an1 m k w) hN
def alE(l:List BA):Int:=fi2 (frE (fun s=>erN (nameB s)) l) (whE (!(disB l)) 4)
theorem anL(m:Mo)(l:List BA)(hN:l.length<=1000000000):Pu 72 [.agg (wL m),.sl 1 (nmsC l)] (rI (fi2 (frE (fun s=>erN (nameB s)) l) (whE (!disB l) 4))):=
 pm mdW [cl (@anT (m) (l) hN),cl (@dsT (l) hN),cl (@whT (!disB l) (4)),cl (@fs2T (frE (fun s=>erN (nameB s)) l) (whE (!disB l) 4))] func72
theorem alT(m:Mo)(l:List BA)(hN:l.length<=1000000000):Pu 72 [.agg (wL m),.sl 1 (nmsC l)] (.ret (.int .i64 (alE l))):=anL m l hN
abbrev dA_I(m:Mo)(name:BA)(j:Int)(e:Ext):S:=S.mk [(1,vS name),(4,.lp 4 0),(5,.v (.bool false)),(9,vL 4 (Da.cs (moD m))),(10,vI6 ((moD m).length:Int)),(11,vI6 j)] [(4,[vS nm0,.v .nilsl,.v .nilsl,.v .nilsl])] e
inductive dA_R where
 | e0 (el:Da)
 | e1
def dA_f(name:BA):List Da->dA_R
 | []=>(dA_R.e1)
 | el::r=>(if daNm el=name then (dA_R.e0 el) else dA_f name r)
def dA_q(m:Mo)(name:BA)(e:Ext):dA_R->PExit × S
 | .e0 el=>(.ret,S.mk [(1,vS name),(4,.lp 4 0),(5,.v (.bool true)),(9,vL 4 (Da.cs (moD m))),(10,vI6 ((moD m).length:Int))] [(4,daV el)] e)
 | .e1=>(.exit 0,S.mk [(1,vS name),(4,.lp 4 0),(5,.v (.bool false)),(9,vL 4 (Da.cs (moD m))),(10,vI6 ((moD m).length:Int))] [(4,[vS nm0,.v .nilsl,.v .nilsl,.v .nilsl])] e)
theorem dA_lp(m:Mo)(name:BA)(e:Ext)(hN:(moD m).length<=1000000000):(Ob.loop 22 (loopF f82 0) (dA_I m name 0  e) (dA_q m name e (dA_f name (List.drop 0 ((moD m))))).1 (dA_q m name e (dA_f name (List.drop 0 ((moD m))))).2).ok prog:=by
 refine rng ((moD m).length) (fun j _=>dA_I m name j  e) (fun i _=>dA_f name (List.drop i ((moD m)))) (dA_q m name e) (fun i _=>True) kR ?_ () trivial
 rintro i u hi -
 rcases Nat.lt_or_ge i ((moD m).length) with hlt | hge
 ·have hd:=drop_at hlt
  by_cases h0:daNm (List.getD (moD m) i default)=name
  ·exact lX mdL [dt ((i:Int)<((moD m).length:Int)),am ((0:Int)<=(i:Int)/\(i:Int)<((Da.cs (moD m)).length:Int)) (by (simp only [Da.cs_len]; omega)),ar (List.getD (Da.cs (moD m)) (Int.toNat (i:Int)) []) (daL (List.getD (moD m) i default)) (by simp only [Int.toNat_natCast,Int.toNat_zero]; rw [@Da.cs_at (moD m) (i) hlt]; try rfl),bt (ByteArray.toList (daNm (List.getD (moD m) i default))==ByteArray.toList name) (bsT h0)] (dA_R.e0 (List.getD ((moD m)) i default)) (by rw [hd,dA_f,iP h0])
  ·exact lN mdL [dt ((i:Int)<((moD m).length:Int)),am ((0:Int)<=(i:Int)/\(i:Int)<((Da.cs (moD m)).length:Int)) (by (simp only [Da.cs_len]; omega)),ar (List.getD (Da.cs (moD m)) (Int.toNat (i:Int)) []) (daL (List.getD (moD m) i default)) (by simp only [Int.toNat_natCast,Int.toNat_zero]; rw [@Da.cs_at (moD m) (i) hlt]; try rfl),bf (ByteArray.toList (daNm (List.getD (moD m) i default))==ByteArray.toList name) (bsF h0),wr ((i:Int)+1)] hlt () trivial (by rw [hd,dA_f,iN h0])
 ·have he:i=(moD m).length:=by omega
  exact lX mdL [df ((i:Int)<((moD m).length:Int))] (dA_R.e1) (by rw [he,List.drop_length,dA_f])
theorem dA_0(m:Mo)(name:BA)(e:Ext)(hN:(moD m).length<=1000000000)(p0:Da)(hres:(dA_f name ((moD m)))=(dA_R.e0 p0)):(Ob.loop 22 (loopF f82 0) (dA_I m name 0  e) (dA_q m name e (dA_R.e0 p0)).1 (dA_q m name e (dA_R.e0 p0)).2).ok prog:=
 rz (dA_lp m name e hN) hres
theorem dA_1(m:Mo)(name:BA)(e:Ext)(hN:(moD m).length<=1000000000)(hres:(dA_f name ((moD m)))=(dA_R.e1)):(Ob.loop 22 (loopF f82 0) (dA_I m name 0  e) (dA_q m name e (dA_R.e1)).1 (dA_q m name e (dA_R.e1)).2).ok prog:=
 rz (dA_lp m name e hN) hres
theorem dA_e(name:BA):∀l:List Da,dA_f name l=if ix daNm name l<l.length then .e0 (l.getD (ix daNm name l) default) else .e1
 | []=>by simp [dA_f,ix]
 | c::r=>by
  by_cases h:daNm c=name
  ·simp [dA_f,ix,h]
  ·simp only [dA_f,ix,h,if_false,dA_e name r,List.length_cons,Nat.add_lt_add_iff_right,List.getD_cons_succ]
theorem dAL_1(m:Mo)(name:BA)(hda:(moD m).length<=1048576)(hy0:Da)(hx1:dA_f name (moD m)=dA_R.e0 hy0):Pu 82 [.agg (moL m),.str name] (.ret (.tup [.agg (daL hy0),.bool true])):=
 pu mdL (fun e=>[sl (Da.cs_len (moD m)),lp (S.mk [(0,.v (.agg (moL m))),(1,vS name),(2,.lp 2 0),(4,.lp 4 0),(5,.v (.bool false)),(8,.lp 2 0),(9,vL 4 (Da.cs (moD m))),(10,vI6 ((moD m).length:Int)),(11,vI6 0)] [(2,moV m),(4,[vS nm0,.v .nilsl,.v .nilsl,.v .nilsl])] e) (@dA_0 (m) (name) (e) oM hy0 hx1) xr]) func82
theorem dAL_2(m:Mo)(name:BA)(hda:(moD m).length<=1048576)(hx0:dA_f name (moD m)=dA_R.e1):Pu 82 [.agg (moL m),.str name] (.ret (.tup [.agg [.str nm0,.sl 1 [],.sl 2 [],.sl 3 []],.bool false])):=
 Ob.pur_wk (Wk.t (WkL.c (Wk.a (kr (kn 1 (kn 2 (kn 3 (WkL.r _)))))) (WkL.r _))) (pu mdL (fun e=>[sl (Da.cs_len (moD m)),lp (S.mk [(0,.v (.agg (moL m))),(1,vS name),(2,.lp 2 0),(4,.lp 4 0),(5,.v (.bool false)),(8,.lp 2 0),(9,vL 4 (Da.cs (moD m))),(10,vI6 ((moD m).length:Int)),(11,vI6 0)] [(2,moV m),(4,[vS nm0,.v .nilsl,.v .nilsl,.v .nilsl])] e) (@dA_1 (m) (name) (e) oM hx0) xr]) func82)
theorem dAT(m:Mo)(name:BA)(hda:(moD m).length<=1048576)(hx:ix daNm name (moD m)<(moD m).length):Pu 82 [.agg (moL m),.str name] (.ret (.tup [.agg (daL ((moD m).getD (ix daNm name (moD m)) default)),.bool true])):=
 dAL_1 m name hda _ (by rw [dA_e,iP hx])
theorem dAF(m:Mo)(name:BA)(hda:(moD m).length<=1048576)(hx:¬ix daNm name (moD m)<(moD m).length):Pu 82 [.agg (moL m),.str name] (.ret (.tup [.agg (daL default),.bool false])):=
 dAL_2 m name hda (by rw [dA_e,iN hx])
def nilB{α:Type}(l:List α):Bool:=decide ((l.length:Int)=0)
theorem qzN_1(l:List BA)(hx0:¬(l.length:Int)=(0:Int)):Pu 90 [.sl 1 (nmsC l),.nilsl] (rB false):=
 pm mdL [sl (nmsC_len l),kp,nt1 hx0] func90
theorem qzN_2(l:List BA)(hx0:(l.length:Int)=(0:Int)):Pu 90 [.sl 1 (nmsC l),.nilsl] (rB true):=
 pm mdL [sl (nmsC_len l),kp,nn1 hx0,sl (nmsC_len l),ur,df (0<(l.length:Int))] func90
theorem qzNT(l:List BA):Pu 90 [.sl 1 (nmsC l),.nilsl] (.ret (.bool (nilB l))):=by
 unfold nilB
 by_cases h:(l.length:Int)=0
 ·rw [decide_eq_true h]; first | exact qzN_2 l h | exact qzN_1 l h
 ·rw [decide_eq_false h]; first | exact qzN_1 l h | exact qzN_2 l h
theorem qzP_1(l:List Pr)(hx0:¬(l.length:Int)=(0:Int)):Pu 237 [.sl 4 (Pr.cs l),.nilsl,.fn (.func 134) [] []] (rB false):=
 pm mdL [sl (Pr.cs_len l),kp,nt1 hx0] func237
theorem qzP_2(l:List Pr)(hx0:(l.length:Int)=(0:Int)):Pu 237 [.sl 4 (Pr.cs l),.nilsl,.fn (.func 134) [] []] (rB true):=
 pm mdL [sl (Pr.cs_len l),kp,nn1 hx0,sl (Pr.cs_len l),ur,df (0<(l.length:Int))] func237
theorem qzPT(l:List Pr):Pu 237 [.sl 4 (Pr.cs l),.nilsl,.fn (.func 134) [] []] (.ret (.bool (nilB l))):=by
 unfold nilB
 by_cases h:(l.length:Int)=0
 ·rw [decide_eq_true h]; first | exact qzP_2 l h | exact qzP_1 l h
 ·rw [decide_eq_false h]; first | exact qzP_1 l h | exact qzP_2 l h
theorem qzT_1(l:List Tp)(hx0:¬(l.length:Int)=(0:Int)):Pu 193 [.sl 9 (Tp.cs l),.nilsl,.fn (.func 194) [] []] (rB false):=
 pm mdL [sl (Tp.cs_len l),kp,nt1 hx0] func193
theorem qzT_2(l:List Tp)(hx0:(l.length:Int)=(0:Int)):Pu 193 [.sl 9 (Tp.cs l),.nilsl,.fn (.func 194) [] []] (rB true):=
 pm mdL [sl (Tp.cs_len l),kp,nn1 hx0,sl (Tp.cs_len l),ur,df (0<(l.length:Int))] func193
theorem qzTT(l:List Tp):Pu 193 [.sl 9 (Tp.cs l),.nilsl,.fn (.func 194) [] []] (.ret (.bool (nilB l))):=by
 unfold nilB
 by_cases h:(l.length:Int)=0
 ·rw [decide_eq_true h]; first | exact qzT_2 l h | exact qzT_1 l h
 ·rw [decide_eq_false h]; first | exact qzT_1 l h | exact qzT_2 l h
theorem qzE_1(l:List Ex)(hx0:¬(l.length:Int)=(0:Int)):Pu 192 [.sl 7 (Ex.cs l),.nilsl,.fn (.func 147) [] []] (rB false):=
 pm mdL [sl (Ex.cs_len l),kp,nt1 hx0] func192
theorem qzE_2(l:List Ex)(hx0:(l.length:Int)=(0:Int)):Pu 192 [.sl 7 (Ex.cs l),.nilsl,.fn (.func 147) [] []] (rB true):=
 pm mdL [sl (Ex.cs_len l),kp,nn1 hx0,sl (Ex.cs_len l),ur,df (0<(l.length:Int))] func192
theorem qzET(l:List Ex):Pu 192 [.sl 7 (Ex.cs l),.nilsl,.fn (.func 147) [] []] (.ret (.bool (nilB l))):=by
 unfold nilB
 by_cases h:(l.length:Int)=0
 ·rw [decide_eq_true h]; first | exact qzE_2 l h | exact qzE_1 l h
 ·rw [decide_eq_false h]; first | exact qzE_1 l h | exact qzE_2 l h
theorem qzM_1(l:List Pm)(hx0:¬(l.length:Int)=(0:Int)):Pu 195 [.sl 10 (Pm.cs l),.nilsl,.fn (.func 196) [] []] (rB false):=
 pm mdL [sl (Pm.cs_len l),kp,nt1 hx0] func195
theorem qzM_2(l:List Pm)(hx0:(l.length:Int)=(0:Int)):Pu 195 [.sl 10 (Pm.cs l),.nilsl,.fn (.func 196) [] []] (rB true):=
 pm mdL [sl (Pm.cs_len l),kp,nn1 hx0,sl (Pm.cs_len l),ur,df (0<(l.length:Int))] func195
theorem qzMT(l:List Pm):Pu 195 [.sl 10 (Pm.cs l),.nilsl,.fn (.func 196) [] []] (.ret (.bool (nilB l))):=by
 unfold nilB
 by_cases h:(l.length:Int)=0
 ·rw [decide_eq_true h]; first | exact qzM_2 l h | exact qzM_1 l h
 ·rw [decide_eq_false h]; first | exact qzM_1 l h | exact qzM_2 l h
theorem qzA_1(l:List Al)(hx0:¬(l.length:Int)=(0:Int)):Pu 197 [.sl 9 (Al.cs l),.nilsl,.fn (.func 198) [] []] (rB false):=
 pm mdL [sl (Al.cs_len l),kp,nt1 hx0] func197
theorem qzA_2(l:List Al)(hx0:(l.length:Int)=(0:Int)):Pu 197 [.sl 9 (Al.cs l),.nilsl,.fn (.func 198) [] []] (rB true):=
 pm mdL [sl (Al.cs_len l),kp,nn1 hx0,sl (Al.cs_len l),ur,df (0<(l.length:Int))] func197
theorem qzAT(l:List Al):Pu 197 [.sl 9 (Al.cs l),.nilsl,.fn (.func 198) [] []] (.ret (.bool (nilB l))):=by
 unfold nilB
 by_cases h:(l.length:Int)=0
 ·rw [decide_eq_true h]; first | exact qzA_2 l h | exact qzA_1 l h
 ·rw [decide_eq_false h]; first | exact qzA_1 l h | exact qzA_2 l h
def tyZ_r0(u:Tp):Bool:=(if (tpO u==0&&ByteArray.toList (tpNm u)==ByteArray.toList nm0)=true then (if nilB (tpNs u)=true then (if psz_r0 (tpP u)=true then (if nilB (tpPs u)=true then (nilB (tpA u)) else false) else false) else false) else false)
theorem tyZ(u:Tp):Pu 194 [.agg (tpL u),.agg [pI 0,.str nm0,.nilsl,.nilsl,pI 0,.str nm0,pI 0,.nilsl,.nilsl]] (rB (tyZ_r0 u)):=by
 by_cases h0:(tpO u==0&&ByteArray.toList (tpNm u)==ByteArray.toList nm0)=true
 ·by_cases h1:nilB (tpNs u)=true
  ·by_cases h2:psz_r0 (tpP u)=true
   ·by_cases h3:nilB (tpPs u)=true
    ·simp only [tyZ_r0,iP h0,iP h1,iP h2,iP h3]; exact pm mdL [mg,av (.v (.bool (bif tpO u==0 then ByteArray.toList (tpNm u)==ByteArray.toList nm0 else false))) (.v (.bool (tpO u==0&&ByteArray.toList (tpNm u)==ByteArray.toList nm0))) (by (simp only [Bool.cond_false_right]; done)),rp 5 (bt1 h0),cl (@qzNT (tpNs u)),bt1 h0,rp 5 (bt1 h1),cl (@psz (tpP u)),bt1 h1,rp 5 (bt1 h2),cl (@qzPT (tpPs u)),bt1 h2,rp 5 (bt1 h3),cl (@qzTT (tpA u)),bt1 h3] func194
    ·simp only [tyZ_r0,iP h0,iP h1,iP h2,iN h3]; exact pm mdL [mg,av (.v (.bool (bif tpO u==0 then ByteArray.toList (tpNm u)==ByteArray.toList nm0 else false))) (.v (.bool (tpO u==0&&ByteArray.toList (tpNm u)==ByteArray.toList nm0))) (by (simp only [Bool.cond_false_right]; done)),rp 5 (bt1 h0),cl (@qzNT (tpNs u)),bt1 h0,rp 5 (bt1 h1),cl (@psz (tpP u)),bt1 h1,rp 5 (bt1 h2),cl (@qzPT (tpPs u)),bt1 h2,rp 6 (bf1 (bFT h3))] func194
   ·simp only [tyZ_r0,iP h0,iP h1,iN h2]; exact pm mdL [mg,av (.v (.bool (bif tpO u==0 then ByteArray.toList (tpNm u)==ByteArray.toList nm0 else false))) (.v (.bool (tpO u==0&&ByteArray.toList (tpNm u)==ByteArray.toList nm0))) (by (simp only [Bool.cond_false_right]; done)),rp 5 (bt1 h0),cl (@qzNT (tpNs u)),bt1 h0,rp 5 (bt1 h1),cl (@psz (tpP u)),bt1 h1,rp 6 (bf1 (bFT h2)),rp 6 (bf false)] func194
  ·simp only [tyZ_r0,iP h0,iN h1]; exact pm mdL [mg,av (.v (.bool (bif tpO u==0 then ByteArray.toList (tpNm u)==ByteArray.toList nm0 else false))) (.v (.bool (tpO u==0&&ByteArray.toList (tpNm u)==ByteArray.toList nm0))) (by (simp only [Bool.cond_false_right]; done)),rp 5 (bt1 h0),cl (@qzNT (tpNs u)),bt1 h0,rp 6 (bf1 (bFT h1)),rp 12 (bf false)] func194
 ·simp only [tyZ_r0,iN h0]; exact pm mdL [mg,av (.v (.bool (bif tpO u==0 then ByteArray.toList (tpNm u)==ByteArray.toList nm0 else false))) (.v (.bool (tpO u==0&&ByteArray.toList (tpNm u)==ByteArray.toList nm0))) (by (simp only [Bool.cond_false_right]; done)),rp 6 (bf1 (bFT h0)),rp 18 (bf false)] func194
def exZ_r0(u:Ex):Bool:=(if (exO u==0&&ByteArray.toList (exNm u)==ByteArray.toList nm0&&exN u==0)=true then (if nilB (exK u)=true then (if nilB (exT u)=true then (if nilB (exP u)=true then (nilB (exA u)) else false) else false) else false) else false)
theorem exZ(u:Ex):Pu 147 [.agg (exL u),.agg [pI 0,.str nm0,pI 0,.nilsl,.nilsl,.nilsl,.nilsl]] (rB (exZ_r0 u)):=by
 by_cases h0:(exO u==0&&ByteArray.toList (exNm u)==ByteArray.toList nm0&&exN u==0)=true
 ·by_cases h1:nilB (exK u)=true
  ·by_cases h2:nilB (exT u)=true
   ·by_cases h3:nilB (exP u)=true
    ·simp only [exZ_r0,iP h0,iP h1,iP h2,iP h3]; exact pm mdL [mg,av (.v (.bool (bif exO u==0 then ByteArray.toList (exNm u)==ByteArray.toList nm0 else false))) (.v (.bool (exO u==0&&ByteArray.toList (exNm u)==ByteArray.toList nm0))) (by (simp only [Bool.cond_false_right]; done)),mg,av (.v (.bool (bif exO u==0&&ByteArray.toList (exNm u)==ByteArray.toList nm0 then exN u==0 else false))) (.v (.bool (exO u==0&&ByteArray.toList (exNm u)==ByteArray.toList nm0&&exN u==0))) (by (simp only [Bool.cond_false_right]; done)),rp 5 (bt1 h0),cl (@qzET (exK u)),bt1 h0,rp 5 (bt1 h1),cl (@qzTT (exT u)),bt1 h1,rp 5 (bt1 h2),cl (@qzMT (exP u)),bt1 h2,rp 5 (bt1 h3),cl (@qzAT (exA u)),bt1 h3] func147
    ·simp only [exZ_r0,iP h0,iP h1,iP h2,iN h3]; exact pm mdL [mg,av (.v (.bool (bif exO u==0 then ByteArray.toList (exNm u)==ByteArray.toList nm0 else false))) (.v (.bool (exO u==0&&ByteArray.toList (exNm u)==ByteArray.toList nm0))) (by (simp only [Bool.cond_false_right]; done)),mg,av (.v (.bool (bif exO u==0&&ByteArray.toList (exNm u)==ByteArray.toList nm0 then exN u==0 else false))) (.v (.bool (exO u==0&&ByteArray.toList (exNm u)==ByteArray.toList nm0&&exN u==0))) (by (simp only [Bool.cond_false_right]; done)),rp 5 (bt1 h0),cl (@qzET (exK u)),bt1 h0,rp 5 (bt1 h1),cl (@qzTT (exT u)),bt1 h1,rp 5 (bt1 h2),cl (@qzMT (exP u)),bt1 h2,rp 6 (bf1 (bFT h3))] func147
   ·simp only [exZ_r0,iP h0,iP h1,iN h2]; exact pm mdL [mg,av (.v (.bool (bif exO u==0 then ByteArray.toList (exNm u)==ByteArray.toList nm0 else false))) (.v (.bool (exO u==0&&ByteArray.toList (exNm u)==ByteArray.toList nm0))) (by (simp only [Bool.cond_false_right]; done)),mg,av (.v (.bool (bif exO u==0&&ByteArray.toList (exNm u)==ByteArray.toList nm0 then exN u==0 else false))) (.v (.bool (exO u==0&&ByteArray.toList (exNm u)==ByteArray.toList nm0&&exN u==0))) (by (simp only [Bool.cond_false_right]; done)),rp 5 (bt1 h0),cl (@qzET (exK u)),bt1 h0,rp 5 (bt1 h1),cl (@qzTT (exT u)),bt1 h1,rp 6 (bf1 (bFT h2)),rp 6 (bf false)] func147
  ·simp only [exZ_r0,iP h0,iN h1]; exact pm mdL [mg,av (.v (.bool (bif exO u==0 then ByteArray.toList (exNm u)==ByteArray.toList nm0 else false))) (.v (.bool (exO u==0&&ByteArray.toList (exNm u)==ByteArray.toList nm0))) (by (simp only [Bool.cond_false_right]; done)),mg,av (.v (.bool (bif exO u==0&&ByteArray.toList (exNm u)==ByteArray.toList nm0 then exN u==0 else false))) (.v (.bool (exO u==0&&ByteArray.toList (exNm u)==ByteArray.toList nm0&&exN u==0))) (by (simp only [Bool.cond_false_right]; done)),rp 5 (bt1 h0),cl (@qzET (exK u)),bt1 h0,rp 6 (bf1 (bFT h1)),rp 12 (bf false)] func147
 ·simp only [exZ_r0,iN h0]; exact pm mdL [mg,av (.v (.bool (bif exO u==0 then ByteArray.toList (exNm u)==ByteArray.toList nm0 else false))) (.v (.bool (exO u==0&&ByteArray.toList (exNm u)==ByteArray.toList nm0))) (by (simp only [Bool.cond_false_right]; done)),mg,av (.v (.bool (bif exO u==0&&ByteArray.toList (exNm u)==ByteArray.toList nm0 then exN u==0 else false))) (.v (.bool (exO u==0&&ByteArray.toList (exNm u)==ByteArray.toList nm0&&exN u==0))) (by (simp only [Bool.cond_false_right]; done)),rp 6 (bf1 (bFT h0)),rp 18 (bf false)] func147
theorem nnT(u:Tp):Pu 242 [.agg (tpL u)] (rB (tyZ_r0 u)):=
 pm mdL [cl (@tyZ (u))] func242
theorem nnE(u:Ex):Pu 102 [.agg (exL u)] (rB (exZ_r0 u)):=
 pm mdL [cl (@exZ (u))] func102
def emT_r0(u:Tp):Bool:=(if (tpO u==0&&ByteArray.toList (tpNm u)==ByteArray.toList nm0&&((tpA u).length:Int)==0&&((tpNs u).length:Int)==0&&((tpPs u).length:Int)==0)=true then (psz_r0 (tpP u)) else false)
theorem emT(u:Tp):Pu 104 [.agg (tpL u)] (rB (emT_r0 u)):=by
 by_cases h0:(tpO u==0&&ByteArray.toList (tpNm u)==ByteArray.toList nm0&&((tpA u).length:Int)==0&&((tpNs u).length:Int)==0&&((tpPs u).length:Int)==0)=true
 ·simp only [emT_r0,iP h0]; exact pm mdL [mg,av (.v (.bool (bif tpO u==0 then ByteArray.toList (tpNm u)==ByteArray.toList nm0 else false))) (.v (.bool (tpO u==0&&ByteArray.toList (tpNm u)==ByteArray.toList nm0))) (by (simp only [Bool.cond_false_right]; done)),mg,av (.v (.bool (bif tpO u==0&&ByteArray.toList (tpNm u)==ByteArray.toList nm0 then (↑((fun x=>List.length (Prod.snd x)) (9,Tp.cs (tpA u))):Int)==0 else false))) (.v (.bool (tpO u==0&&ByteArray.toList (tpNm u)==ByteArray.toList nm0&&((tpA u).length:Int)==0))) (by (simp only [List.length_nil,Tp.cs_len,Bool.cond_false_right]; done)),mg,av (.v (.bool (bif tpO u==0&&ByteArray.toList (tpNm u)==ByteArray.toList nm0&&((tpA u).length:Int)==0 then (↑((fun x=>List.length (Prod.snd x)) (1,nmsC (tpNs u))):Int)==0 else false))) (.v (.bool (tpO u==0&&ByteArray.toList (tpNm u)==ByteArray.toList nm0&&((tpA u).length:Int)==0&&((tpNs u).length:Int)==0))) (by (simp only [List.length_nil,nmsC_len,Bool.cond_false_right]; done)),mg,av (.v (.bool (bif tpO u==0&&ByteArray.toList (tpNm u)==ByteArray.toList nm0&&((tpA u).length:Int)==0&&((tpNs u).length:Int)==0 then (↑((fun x=>List.length (Prod.snd x)) (4,Pr.cs (tpPs u))):Int)==0 else false))) (.v (.bool (tpO u==0&&ByteArray.toList (tpNm u)==ByteArray.toList nm0&&((tpA u).length:Int)==0&&((tpNs u).length:Int)==0&&((tpPs u).length:Int)==0))) (by (simp only [List.length_nil,Pr.cs_len,Bool.cond_false_right]; done)),rp 4 (bt1 h0),cl (@psz (tpP u)),bt1 h0] func104
 ·simp only [emT_r0,iN h0]; exact pm mdL [mg,av (.v (.bool (bif tpO u==0 then ByteArray.toList (tpNm u)==ByteArray.toList nm0 else false))) (.v (.bool (tpO u==0&&ByteArray.toList (tpNm u)==ByteArray.toList nm0))) (by (simp only [Bool.cond_false_right]; done)),mg,av (.v (.bool (bif tpO u==0&&ByteArray.toList (tpNm u)==ByteArray.toList nm0 then (↑((fun x=>List.length (Prod.snd x)) (9,Tp.cs (tpA u))):Int)==0 else false))) (.v (.bool (tpO u==0&&ByteArray.toList (tpNm u)==ByteArray.toList nm0&&((tpA u).length:Int)==0))) (by (simp only [List.length_nil,Tp.cs_len,Bool.cond_false_right]; done)),mg,av (.v (.bool (bif tpO u==0&&ByteArray.toList (tpNm u)==ByteArray.toList nm0&&((tpA u).length:Int)==0 then (↑((fun x=>List.length (Prod.snd x)) (1,nmsC (tpNs u))):Int)==0 else false))) (.v (.bool (tpO u==0&&ByteArray.toList (tpNm u)==ByteArray.toList nm0&&((tpA u).length:Int)==0&&((tpNs u).length:Int)==0))) (by (simp only [List.length_nil,nmsC_len,Bool.cond_false_right]; done)),mg,av (.v (.bool (bif tpO u==0&&ByteArray.toList (tpNm u)==ByteArray.toList nm0&&((tpA u).length:Int)==0&&((tpNs u).length:Int)==0 then (↑((fun x=>List.length (Prod.snd x)) (4,Pr.cs (tpPs u))):Int)==0 else false))) (.v (.bool (tpO u==0&&ByteArray.toList (tpNm u)==ByteArray.toList nm0&&((tpA u).length:Int)==0&&((tpNs u).length:Int)==0&&((tpPs u).length:Int)==0))) (by (simp only [List.length_nil,Pr.cs_len,Bool.cond_false_right]; done)),rp 5 (bf1 (bFT h0))] func104
theorem bar(d:Df):Pu 88 [.agg (sgL d)] (rB (((dfVs d).length:Int)==0&&((dfNe d).length:Int)==0&&((dfAb d).length:Int)==0&&((dfBo d).length:Int)==0&&((dfMe d).length:Int)==0)):=
 pm mdL [sl (nmsC_len (dfVs d)),mg,av (.v (.bool (bif ((dfVs d).length:Int)==0 then (↑((fun x=>List.length (Prod.snd x)) (2,Vr.cs (dfNe d))):Int)==0 else false))) (.v (.bool (((dfVs d).length:Int)==0&&((dfNe d).length:Int)==0))) (by (simp only [Vr.cs_len,Bool.cond_false_right]; done)),mg,av (.v (.bool (bif ((dfVs d).length:Int)==0&&((dfNe d).length:Int)==0 then (↑((fun x=>List.length (Prod.snd x)) (2,Vr.cs (dfAb d))):Int)==0 else false))) (.v (.bool (((dfVs d).length:Int)==0&&((dfNe d).length:Int)==0&&((dfAb d).length:Int)==0))) (by (simp only [Vr.cs_len,Bool.cond_false_right]; done)),mg,av (.v (.bool (bif ((dfVs d).length:Int)==0&&((dfNe d).length:Int)==0&&((dfAb d).length:Int)==0 then (↑((fun x=>List.length (Prod.snd x)) (10,Bo.cs (dfBo d))):Int)==0 else false))) (.v (.bool (((dfVs d).length:Int)==0&&((dfNe d).length:Int)==0&&((dfAb d).length:Int)==0&&((dfBo d).length:Int)==0))) (by (simp only [Bo.cs_len,Bool.cond_false_right]; done)),mg,av (.v (.bool (bif ((dfVs d).length:Int)==0&&((dfNe d).length:Int)==0&&((dfAb d).length:Int)==0&&((dfBo d).length:Int)==0 then (↑((fun x=>List.length (Prod.snd x)) (4,Pr.cs (dfMe d))):Int)==0 else false))) (.v (.bool (((dfVs d).length:Int)==0&&((dfNe d).length:Int)==0&&((dfAb d).length:Int)==0&&((dfBo d).length:Int)==0&&((dfMe d).length:Int)==0))) (by (simp only [Pr.cs_len,Bool.cond_false_right]; done))] func88
theorem opt(u:Pr)(hs:bulkPs (prL u)<=100000000):Pu 95 [.agg (prL u)] (rI (whE (!psz_r0 u) (pcE u))):=
 pm mdL [cl (@psz (u)),cl (@pcT (u) hs),cl (@whT (!psz_r0 u) (pcE u))] func95
structure Sz (m:Mo):Prop where
 hc:(moC m).length<=1048576
 hm:∀c∈moC m,(clM c).length<=1048576
 hf:(moF m).length<=1048576
 ht:∀c∈moC m,∀p∈clM c,(tpA (pmT p)).length<=1048576
 hda:(moD m).length<=1048576
 hk:∀c∈moD m,(daC c).length<=1048576
theorem spZ(m:Mo)(name:BA)(hz:Sz m):Pu 12 [.agg (moL m),.str name] (.ret (.tup [.int .i64 (psF m name).1,.bool (psF m name).2])):=spT m name hz.hc hz.hm hz.hf hz.ht
theorem arZ(m:Mo)(name:BA)(hz:Sz m):Pu 15 [.agg (moL m),.str name] (.ret (.tup [.int .i64 (arF m name).1,.bool (arF m name).2])):=sArT m name hz.hda hz.hk
theorem dTZ(m:Mo)(name:BA)(hz:Sz m)(hx:ix daNm name (moD m)<(moD m).length):Pu 82 [.agg (moL m),.str name] (.ret (.tup [.agg (daL ((moD m).getD (ix daNm name (moD m)) default)),.bool true])):=dAT m name hz.hda hx
theorem dFZ(m:Mo)(name:BA)(hz:Sz m)(hx:¬ix daNm name (moD m)<(moD m).length):Pu 82 [.agg (moL m),.str name] (.ret (.tup [.agg (daL default),.bool false])):=dAF m name hz.hda hx
def vaL_r0(m:Mo)(u:Ex)(bd:List BA):Int:=(if (exO u != 3&&exO u != 5)=true then 0 else (if plc (exNm u) bd>=0 then 0 else (if exO u=5 then (fi2 (whE (!Prod.snd (psF m (exNm u))) 16) (whE (Prod.fst (psF m (exNm u)) != ((exK u).length:Int)) 13)) else (fi2 (whE (!Prod.snd (psF m (exNm u))) 16) 0))))
theorem vaL(m:Mo)(u:Ex)(bd:List BA)(hz:Sz m)(hN:bd.length<=1000000000):Pu 207 [.agg (wL m),.agg (exL u),.sl 1 (nmsC bd)] (rI (vaL_r0 m u bd)):=by
 by_cases h0:(exO u != 3&&exO u != 5)=true
 ·simp only [vaL_r0,iP h0]; exact pm mdW [mg,av (.v (.bool (bif exO u != 3 then exO u != 5 else false))) (.v (.bool (exO u != 3&&exO u != 5))) (by (simp only [Bool.cond_false_right]; done)),rp 6 (bt1 h0),bt true] func207
 ·by_cases h1:plc (exNm u) bd>=0
  ·simp only [vaL_r0,iN h0,iP h1]; exact pm mdW [mg,av (.v (.bool (bif exO u != 3 then exO u != 5 else false))) (.v (.bool (exO u != 3&&exO u != 5))) (by (simp only [Bool.cond_false_right]; done)),rp 4 (bf1 (bFT h0)),cl (@nFiT (bd) (exNm u) hN),rp 2 (bf1 (bFT h0)),dt1 h1] func207
  ·by_cases h2:exO u=5
   ·simp only [vaL_r0,iN h0,iN h1,iP h2]; exact pm mdW [mg,av (.v (.bool (bif exO u != 3 then exO u != 5 else false))) (.v (.bool (exO u != 3&&exO u != 5))) (by (simp only [Bool.cond_false_right]; done)),rp 4 (bf1 (bFT h0)),cl (@nFiT (bd) (exNm u) hN),rp 2 (bf1 (bFT h0)),df1 h1,cl (@spZ (m) (exNm u) hz),cl (@whT (!Prod.snd (psF m (exNm u))) (16)),rp 4 (et1 h2),sl (Ex.cs_len (exK u)),rp 2 (et1 h2),cl (@whT (Prod.fst (psF m (exNm u)) != ((exK u).length:Int)) (13)),cl (@fs2T (whE (!Prod.snd (psF m (exNm u))) 16) (whE (Prod.fst (psF m (exNm u)) != ((exK u).length:Int)) 13))] func207
   ·simp only [vaL_r0,iN h0,iN h1,iN h2]; exact pm mdW [mg,av (.v (.bool (bif exO u != 3 then exO u != 5 else false))) (.v (.bool (exO u != 3&&exO u != 5))) (by (simp only [Bool.cond_false_right]; done)),rp 4 (bf1 (bFT h0)),cl (@nFiT (bd) (exNm u) hN),rp 2 (bf1 (bFT h0)),df1 h1,cl (@spZ (m) (exNm u) hz),cl (@whT (!Prod.snd (psF m (exNm u))) (16)),rp 6 (en1 h2),cl (@whT (false) (13)),cl (@fs2T (whE (!Prod.snd (psF m (exNm u))) 16) (0))] func207
theorem cnE(m:Mo)(s:BA)(n:Int)(hz:Sz m):Pu 208 [.agg (wL m),.str s,pI n] (rI (fi2 (whE (!Prod.snd (arF m s)) 5) (whE (Prod.fst (arF m s) != n) 13))):=
 pm mdW [cl (@arZ (m) (s) hz),cl (@whT (!Prod.snd (arF m s)) (5)),cl (@whT (Prod.fst (arF m s) != n) (13)),cl (@fs2T (whE (!Prod.snd (arF m s)) 5) (whE (Prod.fst (arF m s) != n) 13))] func208
theorem pt1(m:Mo)(vs:List BA)(k:Int)(w:Tp)(r:Int)(hw1:Pu 128 [.agg (wL m),.agg (tpL w),.sl 1 (nmsC vs)] (.ret (.int .i64 r))):Pu 173 [pI k,.agg (tpL w),.ro (wL m) 0,.ro [.sl 1 (nmsC vs)] 0] (rI r):=
 pm mdW [cl hw1] func173
theorem ptA(m:Mo)(vs:List BA)(l:List Tp)(pf:Tp->Int)(hwk:∀w∈l,Pu 128 [.agg (wL m),.agg (tpL w),.sl 1 (nmsC vs)] (.ret (.int .i64 (pf w))))(hN:l.length<=1000000000):Pu 78 [.sl 9 (Tp.cs l),.fn (.func 173) [] [.ro (wL m) 0,.ro [.sl 1 (nmsC vs)] 0]] (.ret (.int .i64 (frE pf l))):=eaTT l _ _ pf (fun k w hw=>pt1 m vs k w (pf w) (hwk w hw)) hN
def ptL_r0(m:Mo)(u:Tp)(vs:List BA)(pf:Tp->Int):Int:=(if tpO u=4 then (if ix daNm (tpNm u) (moD m)<List.length (moD m) then (if ((tpA u).length:Int)=((daVs (List.getD (moD m) (ix daNm (tpNm u) (moD m)) default)).length:Int) then (frE pf (tpA u)) else 13) else 5) else (if tpO u=5 then (if plc (tpNm u) vs<0 then 5 else (frE pf (tpA u))) else (frE pf (tpA u))))
theorem ptL(m:Mo)(u:Tp)(vs:List BA)(pf:Tp->Int)(hz:Sz m)(hv0:vs.length<=1000000000)(hwk:∀w∈tpA u,Pu 128 [.agg (wL m),.agg (tpL w),.sl 1 (nmsC vs)] (.ret (.int .i64 (pf w))))(hN:(tpA u).length<=1000000000):Pu 128 [.agg (wL m),.agg (tpL u),.sl 1 (nmsC vs)] (rI (ptL_r0 m u vs pf)):=by
 by_cases h0:tpO u=4
 ·by_cases h1:ix daNm (tpNm u) (moD m)<List.length (moD m)
  ·by_cases h2:((tpA u).length:Int)=((daVs (List.getD (moD m) (ix daNm (tpNm u) (moD m)) default)).length:Int)
   ·simp only [ptL_r0,iP h0,iP h1,iP h2]; exact pm mdW [et1 h0,cl (@dTZ (m) (tpNm u) hz h1),bf false,sl (Tp.cs_len (tpA u)),sl (nmsC_len (daVs (List.getD (moD m) (ix daNm (tpNm u) (moD m)) default))),nn1 h2,cl (@ptA (m) (vs) (tpA u) (pf) hwk hN)] func128
   ·simp only [ptL_r0,iP h0,iP h1,iN h2]; exact pm mdW [et1 h0,cl (@dTZ (m) (tpNm u) hz h1),bf false,sl (Tp.cs_len (tpA u)),sl (nmsC_len (daVs (List.getD (moD m) (ix daNm (tpNm u) (moD m)) default))),nt1 h2] func128
  ·simp only [ptL_r0,iP h0,iN h1]; exact pm mdW [et1 h0,cl (@dFZ (m) (tpNm u) hz h1),bt true] func128
 ·by_cases h1:tpO u=5
  ·by_cases h2:plc (tpNm u) vs<0
   ·simp only [ptL_r0,iN h0,iP h1,iP h2]; exact pm mdW [en1 h0,et1 h1,cl (@nFiT (vs) (tpNm u) hv0),dt1 h2] func128
   ·simp only [ptL_r0,iN h0,iP h1,iN h2]; exact pm mdW [en1 h0,et1 h1,cl (@nFiT (vs) (tpNm u) hv0),df1 h2,cl (@ptA (m) (vs) (tpA u) (pf) hwk hN)] func128
  ·simp only [ptL_r0,iN h0,iN h1]; exact pm mdW [en1 h0,en1 h1,cl (@ptA (m) (vs) (tpA u) (pf) hwk hN)] func128
end Go.Proofs.YtmllcplaohkjnaaGreatDoor
