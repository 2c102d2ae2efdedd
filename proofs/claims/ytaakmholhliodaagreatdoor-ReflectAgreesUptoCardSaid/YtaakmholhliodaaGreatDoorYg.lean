/- Values of Go as plain data, an evaluator over them, and what the functions of the program return; part Yg. -/
import Derived.Test.YtaakmholhliodaaGreatDoorYc
import Derived.Test.YtaakmholhliodaaGreatDoorYf
import Derived.Test.YtaakmholhliodaaGreatDoorYd
import Derived.Test.YtaakmholhliodaaGreatDoorYa
import Derived.Test.YtaakmholhliodaaGreatDoorYe
set_option linter.unusedSectionVars false
set_option linter.unusedSimpArgs false
set_option linter.unusedVariables false
namespace Go.Proofs.YtaakmholhliodaaGreatDoor
open Go.Proofs.Tryz
open Go.RowKit Go.Shelf Go.Pv
attribute [local go_sem] Oper.semAt_some
set_option maxRecDepth 100000
theorem room_of_none{F:Fence}(hd:F.depth=none)(k:Nat):F.room k:=fun d h=>by rw [hd] at h; cases h
theorem RoundIn.anyDepth{F:Fence}(hd:F.depth=none){m m':Nat}{P:Program}{l:Nat}{f:FuncId}{tmps:Array Value}{assign body:Code}{w:World}{R:Ending->World->Prop}
  (h:RoundIn F m P l f tmps assign body w R):RoundIn F m' P l f tmps assign body w R:=⟨h.1,fun c cs _=>h.2 c cs (room_of_none hd _)⟩
theorem YieldAt.anyDepth{F:Fence}(hd:F.depth=none){m:Nat}(m':Nat){P:Program}{l:Nat}{args:Array Value}{W:World}{R:Ending->World->Prop}(h:YieldAt F m P l args W R):YieldAt F m' P l args W R:=by
 obtain ⟨fn,tmps,assign,body,hy,hR⟩:=h
 exact ⟨fn,tmps,assign,body,hy,RoundIn.anyDepth hd hR⟩
theorem mono_below{g:Gh}{w w':World}(hb:Below w.heap.size w w'):Mono g w g w':=by
 refine ⟨fun _ _ h=>h,fun b o v hc hf=>⟨?_,hf⟩,fun b cur e hh=>⟨cur,?_,rfl⟩,fun _ _ _ h=>h,fun b arr c hh hn=>⟨(hb.block b (Array.getElem?_eq_some_iff.1 hh).1).trans hh,hn⟩⟩
 ·have hlt:b<w.heap.size:=by
   unfold World.cell? at hc
   cases hh:w.heap[b]? with
   | none=>simp [hh] at hc
   | some x=>exact (Array.getElem?_eq_some_iff.1 hh).1
  rw [<-hc]
  exact World.cell?_of_block (hb.block b hlt)
 ·exact (hb.block b (Array.getElem?_eq_some_iff.1 hh).1).trans hh
theorem ent_below{e:Ext}{g:Gh}{l:LG}{w w':World}(he:Ent e g l w)(hb:Below w.heap.size w w'):Ent e g l w' where
 ex x cs hx:=by
  obtain ⟨b,h1,h2,hE⟩:=he.ex x cs hx
  refine ⟨b,h1.mono (mono_below hb),h2,?_⟩
  have hm:Mono g w g w':=mono_below hb
  have hh:=hb.block b (he.olt b _ h2)
  rcases hE with ⟨h3,cur,te,h4,h5,h6⟩ | hE
  ·refine .inl ⟨h3,cur,te,hh.trans h4,h5,fun j hj=>⟨(h6 j hj).1,(h6 j hj).2.1,?_⟩⟩
   exact (h6 j hj).2.2.keep hm (fun _ _ _=>rfl) fun b' hu=>⟨hu,rfl,hb.block b' (he.olt b' _ (he.uo _ b' hu))⟩
  ·exact .inr (hE.keep hm (fun _ _ _ h=>h) rfl hh)
 olt b o ho:=Nat.lt_of_lt_of_le (he.olt b o ho) hb.size
 uo:=he.uo
 fresh:=⟨fun b h=>he.fresh.1 b (Nat.le_trans hb.size h),he.fresh.2⟩
 xlt n b h:=Nat.lt_of_lt_of_le (he.xlt n b h) hb.size
 only:=he.only
 glb:=he.glb.mono (mono_below hb)
theorem calls_pur{P:Program}{f:FuncId}{args:List PV}{vs:List Value}{k:Int}{g:Gh}{l:LG}{w:World}(h:(Ob.pur f args (.ret (.int .i64 k))).ok P)(ha:RepAll g w args vs)(he:Ent [] g l w) :
  Calls P f vs.toArray w fun enz w'=>enz = .returned (.int .i64 k)/\Below w.heap.size w w':=by
 refine (h.2 [] vs g ⟨fun _=>none,fun _=>none,fun _=>none⟩ w ha ⟨fun x cs hx=>(by simp [lk] at hx),fun b o ho=>(by cases ho),fun p b hb=>(by cases hb),he.fresh,he.xlt,fun b o ho=>(by cases ho),he.glb⟩).mono ?_
 rintro enz w' ⟨r,e2,g',l',⟨rfl,rfl⟩,hres,hent',hmono,hsz,hfr,hown,os,tape,output⟩
 refine ⟨?_,os,tape,output,hsz,fun b hb=>(hfr b hb rfl).1⟩
 cases enz <;> first | exact hres.elim | skip
 rename_i v
 have h1:Rep g' w' (.int .i64 k) v:=hres
 cases h1
 rfl
theorem KC.of_below{w W:World}(h:Below w.heap.size w W):KC w W:=⟨h.size,fun k o hk _=>(h.block k (Array.getElem?_eq_some_iff.1 hk).1).trans hk⟩
theorem before_stops(F:Fence)(hd:F.depth=none)(n:Nat)(h142:F.fn 103)(h143:F.fn 104)(hro:F.round=none)(g:Gh)(W0 w:World)(Bs:Nat)(x:Nd g W0)(hk0:KC W0 w)(hBs:Bs<w.heap.size)
  (h1:w.cell? ⟨Bs,0,none⟩=some (.int .i64 (prO x.1.1))) (h2:w.cell? ⟨Bs,1,none⟩=some (.string (prNm x.1.1))) (h3:w.cell? ⟨Bs,2,none⟩=some (.int .i64 (prN x.1.1))) (h4:w.cell? ⟨Bs,3,none⟩=some (.slice x.1.2.1 x.1.2.2.1 x.1.2.2.2)) :
  SeqStopsK F n prog 103 #[.pointer (some ⟨Bs,0,none⟩)] (fun y:Nd g W0=>#[y.enc]) KC (fun ys=>ys.map (·.1.1)=nodesP x.1.1) (fun ys=>ys.map (·.1.1) <+: nodesP x.1.1) (nodesP x.1.1).length w:=fun l J Jx W hW hJ _ hY h0=>
 before1_in F hd h142 h143 hro g W0 l Bs x n J Jx (fun s W W' hs hg=>hJ s W W' none hs hg (fun r e=>by cases e))
  (fun m pre y W hj hl=>YieldAt.anyDepth hd m (hY pre y W hj hl)) W (hk0.trans (KC.of_below hW)) ((hW.cell (p:=⟨Bs,0,none⟩) hBs).trans h1) ((hW.cell (p:=⟨Bs,1,none⟩) hBs).trans h2) ((hW.cell (p:=⟨Bs,2,none⟩) hBs).trans h3) ((hW.cell (p:=⟨Bs,3,none⟩) hBs).trans h4) h0
def pcE(p:Pr):Int:=if pqF p>400 then 7 else if peF p>40 then 8 else frE pnd_r0 (nodesP p)
theorem nd_rep{g:Gh}{W0:World}(x:Nd g W0):RepAll g W0 [.agg (prL x.1.1)] [x.enc]:=by
 refine .cons ?_ .nil
 refine .agg _ [_,_,_,_] rfl (fun v hv=>?_) fun j hj hj'=>?_
 ·simp only [List.mem_cons,List.not_mem_nil,or_false] at hv
  rcases hv with rfl | rfl | rfl | rfl <;> rfl
 ·match j with
  | 0=>exact .int _ _
  | 1=>exact .str _
  | 2=>exact .int _ _
  | 3=>exact x.2
theorem below_alloc{w W:World}(h:Below w.heap.size w W)(o:Obj):Below w.heap.size w (W.alloc o):=h.alloc h.size o
def Fr(p:Pr)(oa:Option Addr)(m c:Nat)(w W:World):Prop:=
 W.cell? ⟨w.heap.size,0,none⟩=some (.int .i64 (prO p))/\W.cell? ⟨w.heap.size,1,none⟩=some (.string (prNm p))/\W.cell? ⟨w.heap.size,2,none⟩=some (.int .i64 (prN p))/\W.cell? ⟨w.heap.size,3,none⟩=some (.slice oa m c) /\
 W.cell? ⟨w.heap.size+1,0,none⟩=some (.int .i64 0)/\W.frozen? ⟨w.heap.size+1,0,none⟩=false
theorem fr_new(p:Pr)(oa:Option Addr)(m c:Nat)(w:World):Fr p oa m c w ((w.alloc (.cells #[.int .i64 (prO p),.string (prNm p),.int .i64 (prN p),.slice oa m c] 46)).alloc (.cells #[.int .i64 0] 61)):=by
 have h1:((w.alloc (.cells #[.int .i64 (prO p),.string (prNm p),.int .i64 (prN p),.slice oa m c] 46)).alloc (.cells #[.int .i64 0] 61)).heap[w.heap.size]?=some (.cells #[.int .i64 (prO p),.string (prNm p),.int .i64 (prN p),.slice oa m c] 46):=
  (Below.heap_alloc _ _ _ sM).trans (World.alloc_heap_new w _)
 have h2:((w.alloc (.cells #[.int .i64 (prO p),.string (prNm p),.int .i64 (prN p),.slice oa m c] 46)).alloc (.cells #[.int .i64 0] 61)).heap[w.heap.size+1]?=some (.cells #[.int .i64 0] 61):=by
  have:=World.alloc_heap_new (w.alloc (.cells #[.int .i64 (prO p),.string (prNm p),.int .i64 (prN p),.slice oa m c] 46)) (.cells #[.int .i64 0] 61)
  rwa [World.size_alloc] at this
 unfold Fr World.cell? World.frozen?
 rw [h1,h2]
 exact ⟨rfl,rfl,rfl,rfl,rfl,rfl⟩
theorem Fr.kept{p:Pr}{oa:Option Addr}{m c:Nat}{w A B:World}(h:Fr p oa m c w A)(hl:w.heap.size+2<=A.heap.size)(hb:Below A.heap.size A B):Fr p oa m c w B:=by
 have k1:=hb.block w.heap.size oM
 have k2:=hb.block (w.heap.size+1) oM
 unfold Fr World.cell? World.frozen? at h ⊢
 rw [k1,k2]
 exact h
set_option maxHeartbeats 4000000 in
theorem check_in(p:Pr)(hs:prS p)(g:Gh)(l0:LG)(w:World)(oa:Option Addr)(m c:Nat)(hr:Rep g w (.sl 4 (Pr.cs (prK p))) (.slice oa m c))(he:Ent [] g l0 w) :
  Calls prog 33 #[encP p (.slice oa m c)] w fun e w'=>e = .returned (.int .i64 (pcE p))/\Below w.heap.size w w':=by
 refine (callsIn_wide (n:=6)).1 ?_
 obtain ⟨x,hx⟩:∃x:Nd g w,x.1=(p,oa,m,c):=⟨⟨(p,oa,m,c),hr⟩,rfl⟩
 have hrep:RepAll g w [.agg (prL p)] [encP p (.slice oa m c)]:=by have:=nd_rep x; rw [Nd.enc,hx] at this; exact this
 refine callsIn_of_wp_marks func33 rfl trivial ?_ rfl
 simp only [Tryz.ntmps33,List.size_toArray,List.length_cons,List.length_nil,Nat.reduceAdd,Nat.reduceSub,Array.replicate_succ,Array.replicate_zero,List.push_toArray,List.append_toArray,List.nil_append,List.cons_append]
 have hf1:=fr_new p oa m c w
 have hb1:Below w.heap.size w ((w.alloc (.cells #[.int .i64 (prO p),.string (prNm p),.int .i64 (prN p),.slice oa m c] 46)).alloc (.cells #[.int .i64 0] 61)):=below_alloc (below_alloc (Below.refl _ _) _) _
 have hz1:w.heap.size+2<=((w.alloc (.cells #[.int .i64 (prO p),.string (prNm p),.int .i64 (prN p),.slice oa m c] 46)).alloc (.cells #[.int .i64 0] 61)).heap.size:=by simp
 generalize hw1:(w.alloc (.cells #[.int .i64 (prO p),.string (prNm p),.int .i64 (prN p),.slice oa m c] 46)).alloc (.cells #[.int .i64 0] 61)=w1 at hf1 hb1 hz1
 have hall:∀ (f:FuncId) (k:Int),Pu f [.agg (prL p)] (.ret (.int .i64 k))->∀ (W:World),Fr p oa m c w W->Below w.heap.size w W->w.heap.size+2<=W.heap.size->CallsIn Fence.wide 5 prog f #[encP p (.slice oa m c)] W fun e W'=>e = .returned (.int .i64 k)/\Fr p oa m c w W'/\Below w.heap.size w W'/\w.heap.size+2<=W'.heap.size:=by
  intro f k hk W hF hB hS
  refine callsIn_wide.2 ?_
  refine (calls_pur hk (hrep.mono (mono_below hB)) (ent_below he hB)).mono ?_
  rintro e W' ⟨h1,h2⟩
  exact ⟨h1,hF.kept hS h2,hB.trans (h2.mono hB.size),Nat.le_trans hS h2.size⟩
 obtain ⟨c0,c1,c2,c3,r0,rf⟩:=id hf1
 have k98:=hall 72 _ (pqS p hs) w1 hf1 hb1 hz1
 gi_wp2_with (first
  | (refine ⟨trivial,?_⟩; gi_at_call 72; refine k98.mono ?_; clear k98; rintro e W2 ⟨rfl,hf2,hb2,hz2⟩; clear c0 c1 c2 c3 r0 rf; obtain ⟨c0,c1,c2,c3,r0,rf⟩:=id hf2; have k99:=hall 73 _ (peS p hs) W2 hf2 hb2 hz2)
  | (refine ⟨trivial,?_⟩; gi_at_call 73; refine k99.mono ?_; clear k99; rintro e W3 ⟨rfl,hf3,hb3,hz3⟩; clear c0 c1 c2 c3 r0 rf; obtain ⟨c0,c1,c2,c3,r0,rf⟩:=id hf3)
  | (refine ⟨trivial,?_⟩; gi_at_call 74; refine (before_in Fence.wide 5 trivial rfl p oa m c _).mono ?_; rintro e W4 ⟨rfl,rfl⟩))
 ·have hgt:pqF p>400:=by omega
  have hc5:=World.cell?_setCell_same' W2 ⟨w.heap.size+1,0,none⟩ (.int .i64 7) (by rw [r0]; rfl)
  refine ⟨.int .i64 7,by simp [results,f33,go_sem,hc5],?_,hb2.setCell (p:=⟨w.heap.size+1,0,none⟩) sM _⟩
  unfold pcE; rw [iP hgt]
 ·have hgt:¬pqF p>400:=by omega
  have hgt2:peF p>40:=by omega
  have hc5:=World.cell?_setCell_same' W3 ⟨w.heap.size+1,0,none⟩ (.int .i64 8) (by rw [r0]; rfl)
  refine ⟨.int .i64 8,by simp [results,f33,go_sem,hc5],?_,hb3.setCell (p:=⟨w.heap.size+1,0,none⟩) sM _⟩
  unfold pcE; rw [iN hgt,iP hgt2]
 ·have hgt:¬pqF p>400:=by omega
  have hgt2:¬peF p>40:=by omega
  have hpc:pcE p=frE pnd_r0 (nodesP p):=by unfold pcE; rw [iN hgt,iN hgt2]
  have hzW:W3.heap.size<(W3.alloc (.cells #[.int .i64 (prO p),.string (prNm p),.int .i64 (prN p),.slice oa m c] 46)).heap.size:=by simp
  have hb4:Below w.heap.size w (W3.alloc (.cells #[.int .i64 (prO p),.string (prNm p),.int .i64 (prN p),.slice oa m c] 46)):=hb3.alloc hb3.size _
  have hz4:w.heap.size+2<=(W3.alloc (.cells #[.int .i64 (prO p),.string (prNm p),.int .i64 (prN p),.slice oa m c] 46)).heap.size:=by simp; omega
  have hbox:(W3.alloc (.cells #[.int .i64 (prO p),.string (prNm p),.int .i64 (prN p),.slice oa m c] 46)).heap[W3.heap.size]?=some (.cells #[.int .i64 (prO p),.string (prNm p),.int .i64 (prN p),.slice oa m c] 46):=World.alloc_heap_new _ _
  have hf4:Fr p oa m c w (W3.alloc (.cells #[.int .i64 (prO p),.string (prNm p),.int .i64 (prN p),.slice oa m c] 46)):=hf3.kept hz3 ((Below.refl _ _).alloc (Nat.le_refl _) _)
  clear hall c0 c1 c2 c3 r0 rf hf1 hb1 hz1 hw1 hf2 hb2 hz2
  generalize hW4:W3.alloc (.cells #[.int .i64 (prO p),.string (prNm p),.int .i64 (prN p),.slice oa m c] 46)=W4 at hzW hb4 hz4 hbox hf4 ⊢
  generalize hBs:W3.heap.size=Bs at hzW hbox ⊢
  have hcell:∀j,W4.cell? ⟨Bs,j,none⟩ = #[Value.int .i64 (prO p),.string (prNm p),.int .i64 (prN p),.slice oa m c][j]?:=fun j=>by unfold World.cell?; rw [hbox]; rfl
  have hst:=before_stops Fence.wide rfl 5 trivial trivial rfl g w W4 Bs x (KC.of_below hb4) hzW (by rw [hx]; exact hcell 0) (by rw [hx]; exact hcell 1) (by rw [hx]; exact hcell 2) (by rw [hx]; exact hcell 3)
  obtain ⟨_,_,_,_,r0,rf⟩:=hf4
  refine wpIn_rangeFunc_ownH rfl oM (gf:=103) (lb:=#[.pointer (some ⟨Bs,0,none⟩)]) rfl trivial (enters_of func103 kR rfl) hst KC.trans
   (fun W l o o' hl hh ho _=>⟨by simp,fun k o2 hk hc2=>(World.putObj_heap_other (fun e=>by subst e; rw [hh] at hk; cases hk; rw [ho] at hc2; cases hc2)).trans hk⟩) (Below.refl _ _) (fun _=>rfl)
   (fun pre W=>((∀y∈pre,pnd_r0 y.1.1=0)/\W.cell? ⟨w.heap.size+1,0,none⟩=some (.int .i64 0)/\W.frozen? ⟨w.heap.size+1,0,none⟩=false)/\Below w.heap.size w W)
   (fun cdz pre W=>(cdz = .ret/\∃ps y,pre=ps++[y]/\(∀z∈ps,pnd_r0 z.1.1=0)/\¬pnd_r0 y.1.1=0/\W.cell? ⟨w.heap.size+1,0,none⟩=some (.int .i64 (pnd_r0 y.1.1)))/\Below w.heap.size w W)
   (OwnFrom.and (Own.from (fun s A B row hs hg hr=>⟨hs.1,cell_kept hs.2.1 hg hr,(frozen_kept hs.2.1 hg hr).trans hs.2.2⟩) _) (ownFrom_below (Nat.le_refl _) oM))
   (fun cdz=>OwnFrom.and (Own.from (fun s A B row hs hg hr=>⟨hs.1,let ⟨ps,y,k1,k2,k3,k4⟩:=hs.2; ⟨ps,y,k1,k2,k3,cell_kept k4 hg hr⟩⟩) _) (ownFrom_below (Nat.le_refl _) oM))
   ⟨⟨fun y hy=>(by cases hy),r0,rf⟩,hb4⟩
   (fun y a' W=>∃Bx,w.heap.size+2<=Bx/\W.heap[Bx]?=some (.cells #[.int .i64 (prO y.1.1),.string (prNm y.1.1),.int .i64 (prN y.1.1),.slice y.1.2.1 y.1.2.2.1 y.1.2.2.2] 46) /\
    a'={ tmps:=#[encP p (.slice oa m c),.pointer (some ⟨w.heap.size,0,none⟩),.pointer (some ⟨w.heap.size+1,0,none⟩),.pointer (some ⟨Bx,0,none⟩),undef,encP p (.slice oa m c),.int .i64 (pqF p),.bool false,encP p (.slice oa m c),.int .i64 (peF p),.bool false,encP p (.slice oa m c),.func (.func 103) #[] #[.pointer (some ⟨Bs,0,none⟩)],y.enc,undef,undef,undef,undef,undef],defers:=[] })
   (fun y a' s A B row hs hg hr=>by
    obtain ⟨Bx,h1,h2,h3⟩:=hs
    refine ⟨Bx,h1,(hg.block Bx (Array.getElem?_eq_some_iff.1 h2).1 (fun e=>?_)).trans h2,h3⟩
    obtain ⟨_,o,ho,hc⟩:=hr Bx e.symm
    rw [h2] at ho; cases ho; cases hc) ?assign ?body ?done ?stop
  case assign=>
   rintro l pre y W K ⟨⟨hz,q0,qf⟩,hB⟩ hK
   have hrc:w.heap.size+1<W.heap.size:=by
    unfold World.cell? at q0
    cases hh:W.heap[w.heap.size+1]? with
    | none=>simp [hh] at q0
    | some o=>exact (Array.getElem?_eq_some_iff.1 hh).1
   simp only [Nd.enc]
   obtain ⟨q,oa',m',c',hyx⟩:∃q oa' m' c',y.1=(q,oa',m',c'):=⟨_,_,_,_,rfl⟩
   simp only [Nd.enc,hyx] at hK ⊢
   gi_wp2
   exact hK _ _ ((KeepsOthers.alloc _ _).from _) ((KC.refl W).alloc _) ⟨⟨hz,cell_kept q0 (World.grownBy_alloc W _ none) (fun r e=>by cases e),(frozen_kept q0 (World.grownBy_alloc W _ none) (fun r e=>by cases e)).trans qf⟩,hB.alloc hB.size _⟩ ⟨W.heap.size,by omega,World.alloc_heap_new _ _,rfl⟩
  case body=>
   rintro l pre y a' W hl ⟨r,hr0⟩ ⟨⟨hz,q0,qf⟩,hB⟩ ⟨Bx,hBx,hbx,rfl⟩ hlt
   have hrc:w.heap.size+1<W.heap.size:=by
    unfold World.cell? at q0
    cases hh:W.heap[w.heap.size+1]? with
    | none=>simp [hh] at q0
    | some o=>exact (Array.getElem?_eq_some_iff.1 hh).1
   have k101:CallsIn (Fence.wide.inRound l) (6 - 1 - 1 - 1) prog 75 #[y.enc] W fun e W'=>e = .returned (.int .i64 (pnd_r0 y.1.1))/\Below W.heap.size W W'/\W'.cell? ⟨w.heap.size+1,0,none⟩=some (.int .i64 0)/\W'.frozen? ⟨w.heap.size+1,0,none⟩=false:=by
    refine CallsIn.inRound l (callsIn_wide.2 ((calls_pur (pnd y.1.1) ((nd_rep y).mono (mono_below hB)) (ent_below he hB)).mono ?_))
    rintro e W' ⟨h1,h2⟩
    have hblk:=h2.block (w.heap.size+1) hrc
    refine ⟨h1,h2,?_,?_⟩
    ·unfold World.cell? at q0 ⊢; rw [hblk]; exact q0
    ·unfold World.frozen? at qf ⊢; rw [hblk]; exact qf
   simp only [Nd.enc] at k101 ⊢
   have hxB:∀j,W.cell? ⟨Bx,j,none⟩ = #[Value.int .i64 (prO y.1.1),.string (prNm y.1.1),.int .i64 (prN y.1.1),.slice y.1.2.1 y.1.2.2.1 y.1.2.2.2][j]?:=fun j=>by unfold World.cell?; rw [hbx]; rfl
   have c0:=hxB 0
   have c1:=hxB 1
   have c2:=hxB 2
   have c3:=hxB 3
   clear hxB hbx hst hcell
   generalize hpn:pnd_r0 y.1.1=k at k101
   obtain ⟨q,oa',m',c',hyx⟩:∃q oa' m' c',y.1=(q,oa',m',c'):=⟨_,_,_,_,rfl⟩
   simp only [hyx,List.getElem?_toArray,List.getElem?_cons_zero,List.getElem?_cons_succ] at k101 c0 c1 c2 c3 ⊢
   clear hyx
   by_cases hk0:k=0
   ·subst hk0
    gi_wp2_with (refine ⟨trivial,?_⟩; gi_at_call 75; refine k101.mono ?_; clear k101; rintro e W2 ⟨rfl,hB2,p0,pf⟩)
    refine ⟨⟨hB2.size,fun k o _ hk _=>(hB2.block k (Array.getElem?_eq_some_iff.1 hk).1).trans hk⟩,KC.of_below hB2,⟨fun z hz'=>?_,p0,pf⟩,hB.trans (hB2.mono hB.size)⟩
    rcases List.mem_append.1 hz' with h | h
    ·exact hz z h
    ·simp only [List.mem_singleton] at h; subst h; exact hpn
   ·gi_wp2_with (refine ⟨trivial,?_⟩; gi_at_call 75; refine k101.mono ?_; clear k101; rintro e W2 ⟨rfl,hB2,p0,pf⟩)
    have hw2:=World.cell?_setCell_same' W2 ⟨w.heap.size+1,0,none⟩ (.int .i64 k) (by rw [p0]; rfl)
    exact ⟨(show KeepsFrom W4.heap.size W W2 from ⟨hB2.size,fun k o _ hk _=>(hB2.block k (Array.getElem?_eq_some_iff.1 hk).1).trans hk⟩).trans ((KeepsOthers.setCell W2 _ _).from _),
     ⟨rfl,pre,y,rfl,hz,by rw [hpn]; exact hk0,by rw [hpn]; exact hw2⟩,(hB.trans (hB2.mono hB.size)).setCell (p:=⟨w.heap.size+1,0,none⟩) sM _⟩
  case done=>
   rintro D ys W hD hS ⟨⟨hz,q0,qf⟩,hB⟩ hK
   gi_wp2
   have hK':=(KeepsOthers.setCell W ⟨w.heap.size+1,0,none⟩ (.int .i64 0)).same D _ hK rfl
   refine ⟨by simp,.inl ⟨_,_,rfl,run_takeDeferred hK',?_⟩⟩
   have hc5:=cell_kept (World.cell?_setCell_same' W ⟨w.heap.size+1,0,none⟩ (.int .i64 0) (by rw [q0]; rfl)) (grownBy_putObj' _ D (.deferred none)) (fun r e=>by cases e; exact ⟨_,hK',rfl⟩)
   refine ⟨.int .i64 0,by simp [results,f33,go_sem,hc5],?_,?_⟩
   ·have:∀zs:List (Nd g w),(∀z∈zs,pnd_r0 z.1.1=0)->frE pnd_r0 (zs.map (·.1.1))=0:=fun zs=>by
     induction zs with
     | nil=>intro _; rfl
     | cons a r ih=>intro h; simp only [List.map_cons,frE]; rw [iP (h a sM)]; exact ih fun z hz=>h z (List.mem_cons_of_mem _ hz)
    have h1:=this ys hz
    rw [hS,hx] at h1
    rw [h1]
   ·exact (hB.setCell (p:=⟨w.heap.size+1,0,none⟩) sM _).trans (belowK_b (w:=w) (Nat.le_refl _) _ D _ _ oM hK' rfl rfl)
  case stop=>
   rintro D cdz pre W hD hS ⟨⟨rfl,ps,y,rfl,hz,hne,q0⟩,hB⟩ hK
   gi_wp2
   refine ⟨by simp,.inl ⟨_,_,rfl,run_takeDeferred hK,?_⟩⟩
   have hc5:=cell_kept q0 (grownBy_putObj' _ D (.deferred none)) (fun r e=>by cases e; exact ⟨_,hK,rfl⟩)
   refine ⟨.int .i64 (pnd_r0 y.1.1),by simp [results,f33,go_sem,hc5],?_,hB.trans (belowK_b (w:=w) (Nat.le_refl _) _ D _ _ oM hK rfl rfl)⟩
   have:∀ (zs:List (Nd g w)) (rest:List Pr),(∀z∈zs,pnd_r0 z.1.1=0)->frE pnd_r0 ((zs++[y]).map (·.1.1)++rest)=pnd_r0 y.1.1:=fun zs rest=>by
    induction zs with
    | nil=>intro _; simp only [List.nil_append,List.map_cons,List.map_nil,List.cons_append,frE]; rw [iN hne]
    | cons a r ih=>intro h; simp only [List.cons_append,List.map_cons,frE]; rw [iP (h a sM)]; exact ih fun z hz=>h z (List.mem_cons_of_mem _ hz)
   obtain ⟨rest,hrest⟩:=hS
   have h1:=this ps rest hz
   rw [hrest,hx] at h1
   rw [h1]
mutual
theorem pr_nx:∀p:Pr,noXs (prL p)=true
 | .mk o s n ks=>by simp only [prK,noXs,PV.noX,prs_nx ks,Bool.and_self]
theorem prs_nx:∀l:List Pr,noXss (Pr.cs l)=true
 | []=>rfl
 | x::r=>by rw [show Pr.cs (x::r)=prL x::Pr.cs r by simp [Pr.cs_eq],noXss,prs_nx r,pr_nx x]; rfl
end
theorem pcS(p:Pr)(hs:prS p):Pu 33 [.agg (prL p)] (.ret (.int .i64 (pcE p))):=by
 refine Ob.pur_of_eff (e':=[]) (by have h1:=pr_nx p; simp only [noXs,PV.noX,Bool.and_true,Bool.true_and] at h1 ⊢; exact h1) rfl ⟨by kernel_rfl,fun vs g l w ha he=>?_⟩
 obtain ⟨v,vs',rfl,hr,ha'⟩:=ha.inv_cons
 obtain rfl:=ha'.inv_nil
 obtain ⟨oa,m,c,hk,rfl⟩:∃oa m c,Rep g w (.sl 4 (Pr.cs (prK p))) (.slice oa m c)/\v=encP p (.slice oa m c):=by
  generalize he:prL p=cs at hr
  cases hr with
  | agg _ vs h1 ho h=>
   subst he
   match vs,h1,h with
   | [v0,v1,v2,v3],_,h=>
    have r0:Rep g w (.int .i64 (prO p)) v0:=h 0 sM sM
    have r1:Rep g w (.str (prNm p)) v1:=h 1 sM sM
    have r2:Rep g w (.int .i64 (prN p)) v2:=h 2 sM sM
    have r3:Rep g w (.sl 4 (Pr.cs (prK p))) v3:=h 3 sM sM
    obtain ⟨oa,m,c,rfl⟩:=sl_val r3
    cases r0; cases r1; cases r2
    exact ⟨oa,m,c,r3,rfl⟩
 refine (check_in p hs g l w oa m c hk he).mono ?_
 rintro enz w' ⟨rfl,hbel⟩
 exact ⟨_,[],g,l,⟨rfl,rfl⟩,.int _ _,ent_below he hbel,mono_below hbel,hbel.size,fun b hb _=>⟨hbel.block b hb,rfl⟩,fun b o ho => .inr (by rw [ho]; rfl),hbel.os,hbel.tape,hbel.output⟩
theorem pcT(p:Pr)(hs:bulkPs (prL p)<=100000000):Pu 33 [.agg (prL p)] (.ret (.int .i64 (pcE p))):=pcS p (prS_bulk p oM)
open Go.Pv Go.Proofs.Tryz
set_option maxRecDepth 100000
def nilB{α:Type}(l:List α):Bool:=decide ((l.length:Int)=0)
theorem qzN_1(l:List BA)(hx0:¬(l.length:Int)=(0:Int)):Pu 163 [.sl 1 (nmsC l),.nilsl] (rB false):=
 pm mdL [sl (nmsC_len l),kp,nt1 hx0] func163
theorem qzN_2(l:List BA)(hx0:(l.length:Int)=(0:Int)):Pu 163 [.sl 1 (nmsC l),.nilsl] (rB true):=
 pm mdL [sl (nmsC_len l),kp,nn1 hx0,sl (nmsC_len l),ur,df (0<(l.length:Int))] func163
theorem qzNT(l:List BA):Pu 163 [.sl 1 (nmsC l),.nilsl] (.ret (.bool (nilB l))):=by
 unfold nilB
 by_cases h:(l.length:Int)=0
 ·rw [decide_eq_true h]; first | exact qzN_2 l h | exact qzN_1 l h
 ·rw [decide_eq_false h]; first | exact qzN_1 l h | exact qzN_2 l h
theorem qzP_1(l:List Pr)(hx0:¬(l.length:Int)=(0:Int)):Pu 164 [.sl 4 (Pr.cs l),.nilsl,.fn (.func 43) [] []] (rB false):=
 pm mdL [sl (Pr.cs_len l),kp,nt1 hx0] func164
theorem qzP_2(l:List Pr)(hx0:(l.length:Int)=(0:Int)):Pu 164 [.sl 4 (Pr.cs l),.nilsl,.fn (.func 43) [] []] (rB true):=
 pm mdL [sl (Pr.cs_len l),kp,nn1 hx0,sl (Pr.cs_len l),ur,df (0<(l.length:Int))] func164
theorem qzPT(l:List Pr):Pu 164 [.sl 4 (Pr.cs l),.nilsl,.fn (.func 43) [] []] (.ret (.bool (nilB l))):=by
 unfold nilB
 by_cases h:(l.length:Int)=0
 ·rw [decide_eq_true h]; first | exact qzP_2 l h | exact qzP_1 l h
 ·rw [decide_eq_false h]; first | exact qzP_1 l h | exact qzP_2 l h
theorem qzT_1(l:List Tp)(hx0:¬(l.length:Int)=(0:Int)):Pu 165 [.sl 9 (Tp.cs l),.nilsl,.fn (.func 152) [] []] (rB false):=
 pm mdL [sl (Tp.cs_len l),kp,nt1 hx0] func165
theorem qzT_2(l:List Tp)(hx0:(l.length:Int)=(0:Int)):Pu 165 [.sl 9 (Tp.cs l),.nilsl,.fn (.func 152) [] []] (rB true):=
 pm mdL [sl (Tp.cs_len l),kp,nn1 hx0,sl (Tp.cs_len l),ur,df (0<(l.length:Int))] func165
theorem qzTT(l:List Tp):Pu 165 [.sl 9 (Tp.cs l),.nilsl,.fn (.func 152) [] []] (.ret (.bool (nilB l))):=by
 unfold nilB
 by_cases h:(l.length:Int)=0
 ·rw [decide_eq_true h]; first | exact qzT_2 l h | exact qzT_1 l h
 ·rw [decide_eq_false h]; first | exact qzT_1 l h | exact qzT_2 l h
def tyZ_r0(u:Tp):Bool:=(if tpO u=0 then (if tpNm u=nm0 then (if nilB (tpNs u)=true then (if psz_r0 (tpP u)=true then (if nilB (tpPs u)=true then (nilB (tpA u)) else false) else false) else false) else false) else false)
theorem tyZ(u:Tp):Pu 152 [.agg (tpL u),.agg [pI 0,.str nm0,.nilsl,.nilsl,pI 0,.str nm0,pI 0,.nilsl,.nilsl]] (rB (tyZ_r0 u)):=by
 refine t0 ?_;by_cases h0:tpO u=0
 ·refine tp [rp 6 (et1 h0)] ?_;by_cases h1:tpNm u=nm0
  ·refine tp [rp 5 (bt (ByteArray.toList (tpNm u)==ByteArray.toList nm0) (bsT h1)),cl (@qzNT (tpNs u)),bt (ByteArray.toList (tpNm u)==ByteArray.toList nm0) (bsT h1)] ?_;by_cases h2:nilB (tpNs u)=true
   ·refine tp [rp 5 (bt1 h2),cl (@psz (tpP u)),bt1 h2] ?_;by_cases h3:psz_r0 (tpP u)=true
    ·refine tp [rp 5 (bt1 h3),cl (@qzPT (tpPs u)),bt1 h3] ?_;by_cases h4:nilB (tpPs u)=true
     ·simp only [tyZ_r0,iP h0,iP h1,iP h2,iP h3,iP h4]; exact tM mdL [rp 5 (bt1 h4),cl (@qzTT (tpA u)),bt1 h4] func152
     ·simp only [tyZ_r0,iP h0,iP h1,iP h2,iP h3,iN h4]; exact tM mdL [rp 6 (bf1 (bFT h4))] func152
    ·simp only [tyZ_r0,iP h0,iP h1,iP h2,iN h3]; exact tM mdL [rp 6 (bf1 (bFT h3)),rp 6 (bf false)] func152
   ·simp only [tyZ_r0,iP h0,iP h1,iN h2]; exact tM mdL [rp 6 (bf1 (bFT h2)),rp 12 (bf false)] func152
  ·simp only [tyZ_r0,iP h0,iN h1]; exact tM mdL [rp 6 (bf (ByteArray.toList (tpNm u)==ByteArray.toList nm0) (bsF h1)),rp 18 (bf false)] func152
 ·simp only [tyZ_r0,iN h0]; exact tM mdL [rp 6 (en1 h0),rp 24 (bf false)] func152
theorem nnT(u:Tp):Pu 125 [.agg (tpL u)] (rB (tyZ_r0 u)):=
 pm mdL [cl (@tyZ u)] func125
theorem ex_bulk(x:Ex):bulkPss (Ex.cs (exK x))+bulkPss (Pm.cs (exP x))+bulkPss (Al.cs (exA x))+bulkPss (Tp.cs (exT x))<bulkPs (exL x):=by simp only [bulkPs,bulkP]; omega
theorem al_bulk(a:Al):bulkPs (exL (alB a))<bulkPs (alL a):=by simp only [bulkPs,bulkP]; omega
theorem pm_bulk(a:Pm):bulkPs (tpL (pmT a))<bulkPs (pmL a):=by simp only [bulkPs,bulkP]; omega
def wkS{α:Type}(f:α->Int->Bool × Int):List α->Int->Bool × Int
 | [],n=>(true,n)
 | x::r,n=>if (f x n).1=true then wkS f r (f x n).2 else (false,(f x n).2)
abbrev wkK_I(u:Ex)(g:Nat)(caps:List PV)(X:Int->Ext)(v:Ex->Int->Bool × Int)(f:Ex->Int->Bool × Int)(n0:Int)(j:Int)(n:Int)  : S:=S.mk [(1,.v (.fn (.func g) [] caps)),(2,.lp 2 0),(4,.v (.bool false)),(14,vL 7 (Ex.cs (exK u))),(15,vI6 ((exK u).length:Int)),(16,vI6 j)] [(2,exV u)] (X n)
inductive wkK_R where
 | e0 (el:Ex) (n:Int)
 | e1 (n:Int)
def wkK_f(f:Ex->Int->Bool × Int):List Ex->(Int)->wkK_R
 | [],n=>(wkK_R.e1 n)
 | el::r,n=>(if Prod.fst (f el n)=false then (wkK_R.e0 el n) else wkK_f f r (Prod.snd (f el n)))
noncomputable def wkK_q (u:Ex) (g:Nat) (caps:List PV) (X:Int->Ext) (v:Ex->Int->Bool × Int) (f:Ex->Int->Bool × Int) (n0:Int)  : wkK_R->PExit × S
 | .e0 el n=>(.ret,S.mk [(1,.v (.fn (.func g) [] caps)),(2,.lp 2 0),(4,.v (.bool false)),(14,vL 7 (Ex.cs (exK u))),(15,vI6 ((exK u).length:Int))] [(2,exV u)] (X (Prod.snd (f el n))))
 | .e1 n=>(.exit 0,S.mk [(1,.v (.fn (.func g) [] caps)),(2,.lp 2 0),(4,.v (.bool false)),(14,vL 7 (Ex.cs (exK u))),(15,vI6 ((exK u).length:Int))] [(2,exV u)] (X n))
theorem wkK_lp(u:Ex)(g:Nat)(caps:List PV)(X:Int->Ext)(v:Ex->Int->Bool × Int)(f:Ex->Int->Bool × Int)(hvs:∀ (n:Int),Ef g (.agg (exL u)::caps) (X n) (.ret (.bool (v u n).1)) (X (v u n).2))(hks:∀ (w:Ex) (n:Int),w∈exK u->Ef 93 [.agg (exL w),.fn (.func g) [] caps] (X n) (.ret (.bool (f w n).1)) (X (f w n).2))(n0:Int)(hN:(exK u).length<=1000000000)(n:Int):(Ob.loop 38 (loopF f93 0) (wkK_I u g caps X v f n0 0 n) (wkK_q u g caps X v f n0  (wkK_f f ((exK u))  n)).1 (wkK_q u g caps X v f n0  (wkK_f f ((exK u))  n)).2).ok prog:=by
 refine rng ((exK u).length) (fun j n=>wkK_I u g caps X v f n0 j n) (fun i n=>wkK_f f (List.drop i ((exK u)))  n) (wkK_q u g caps X v f n0) (fun i n=>True) kR ?_ n trivial
 rintro i n hi -
 rcases Nat.lt_or_ge i ((exK u).length) with hlt | hge
 ·have hd:=drop_at hlt
  refine t0 ?_;refine tp [rgEx hlt,ce (@hks (List.getD (exK u) i default) n (by simp_all [tn1]))] ?_;by_cases h0:Prod.fst (f (List.getD (exK u) i default) n)=false
  ·exact tX mdL [bt1 (bnT h0)] (wkK_R.e0 (List.getD ((exK u)) i default) n) (by rw [hd,wkK_f,iP h0])
  ·exact tS mdL [bf1 (bnF (bTF h0)),wr ((i:Int)+1)] [1,2,4,14,15,16] [2] hlt (Prod.snd (f (List.getD (exK u) i default) n)) (S.mk [(1,.v (.fn (.func g) [] caps)),(2,.lp 2 0),(4,.v (.bool false)),(14,vL 7 (Ex.cs (exK u))),(15,vI6 ((exK u).length:Int)),(16,vI6 ((i:Int)+1))] [(2,exV u)] (X (Prod.snd (f (List.getD (exK u) i default) n)))) ⟨⟨W,W,W,W,W,W,tVv⟩,⟨Ws,tVv⟩,(by first | rfl | (simp only [List.nil_append,nmsC_app,nmsC_snoc,Pr.cs_snoc,Tp.cs_snoc,Ex.cs_snoc,Vr.cs_snoc,Df.cs_snoc]; done) | (simp only [List.nil_append,nmsC_app,nmsC_snoc,Pr.cs_snoc,Tp.cs_snoc,Ex.cs_snoc,Vr.cs_snoc,Df.cs_snoc]; rfl))⟩ trivial (by rw [hd,wkK_f,iN h0])
 ·have he:i=(exK u).length:=by omega
  exact lX mdL [df ((i:Int)<((exK u).length:Int))] (wkK_R.e1 n) (by rw [he,List.drop_length,wkK_f])
abbrev wkA_I(u:Ex)(g:Nat)(caps:List PV)(X:Int->Ext)(v:Ex->Int->Bool × Int)(f:Ex->Int->Bool × Int)(n0:Int)(j:Int)(n:Int)  : S:=S.mk [(1,.v (.fn (.func g) [] caps)),(4,.v (.bool false)),(26,vL 9 (Al.cs (exA u))),(27,vI6 ((exA u).length:Int)),(28,vI6 j)] [] (X n)
inductive wkA_R where
 | e0 (el:Al) (n:Int)
 | e1 (n:Int)
def wkA_f(f:Ex->Int->Bool × Int):List Al->(Int)->wkA_R
 | [],n=>(wkA_R.e1 n)
 | el::r,n=>(if Prod.fst (f (alB el) n)=false then (wkA_R.e0 el n) else wkA_f f r (Prod.snd (f (alB el) n)))
noncomputable def wkA_q (u:Ex) (g:Nat) (caps:List PV) (X:Int->Ext) (v:Ex->Int->Bool × Int) (f:Ex->Int->Bool × Int) (n0:Int)  : wkA_R->PExit × S
 | .e0 el n=>(.ret,S.mk [(1,.v (.fn (.func g) [] caps)),(4,.v (.bool false)),(26,vL 9 (Al.cs (exA u))),(27,vI6 ((exA u).length:Int))] [] (X (Prod.snd (f (alB el) n))))
 | .e1 n=>(.exit 2,S.mk [(1,.v (.fn (.func g) [] caps)),(4,.v (.bool false)),(26,vL 9 (Al.cs (exA u))),(27,vI6 ((exA u).length:Int))] [] (X n))
theorem wkA_lp(u:Ex)(g:Nat)(caps:List PV)(X:Int->Ext)(v:Ex->Int->Bool × Int)(f:Ex->Int->Bool × Int)(hvs:∀ (n:Int),Ef g (.agg (exL u)::caps) (X n) (.ret (.bool (v u n).1)) (X (v u n).2))(hks:∀ (w:Ex) (n:Int),w∈exK u->Ef 93 [.agg (exL w),.fn (.func g) [] caps] (X n) (.ret (.bool (f w n).1)) (X (f w n).2))(has:∀ (w:Al) (n:Int),w∈exA u->Ef 93 [.agg (exL (alB w)),.fn (.func g) [] caps] (X n) (.ret (.bool (f (alB w) n).1)) (X (f (alB w) n).2))(hNK:(exK u).length<=1000000000)(n0:Int)(hN:(exA u).length<=1000000000)(n:Int):(Ob.loop 38 (loopF f93 1) (wkA_I u g caps X v f n0 0 n) (wkA_q u g caps X v f n0  (wkA_f f ((exA u))  n)).1 (wkA_q u g caps X v f n0  (wkA_f f ((exA u))  n)).2).ok prog:=by
 refine rng ((exA u).length) (fun j n=>wkA_I u g caps X v f n0 j n) (fun i n=>wkA_f f (List.drop i ((exA u)))  n) (wkA_q u g caps X v f n0) (fun i n=>True) kR ?_ n trivial
 rintro i n hi -
 rcases Nat.lt_or_ge i ((exA u).length) with hlt | hge
 ·have hd:=drop_at hlt
  refine t0 ?_;refine tp [rgAl hlt,ce (@has (List.getD (exA u) i default) n (by simp_all [tn1]))] ?_;by_cases h0:Prod.fst (f (alB (List.getD (exA u) i default)) n)=false
  ·exact tX mdL [bt1 (bnT h0)] (wkA_R.e0 (List.getD ((exA u)) i default) n) (by rw [hd,wkA_f,iP h0])
  ·exact tS mdL [bf1 (bnF (bTF h0)),wr ((i:Int)+1)] [1,4,26,27,28] [] hlt (Prod.snd (f (alB (List.getD (exA u) i default)) n)) (S.mk [(1,.v (.fn (.func g) [] caps)),(4,.v (.bool false)),(26,vL 9 (Al.cs (exA u))),(27,vI6 ((exA u).length:Int)),(28,vI6 ((i:Int)+1))] [] (X (Prod.snd (f (alB (List.getD (exA u) i default)) n)))) ⟨⟨W,W,W,W,W,tVv⟩,trivial,(by first | rfl | (simp only [List.nil_append,nmsC_app,nmsC_snoc,Pr.cs_snoc,Tp.cs_snoc,Ex.cs_snoc,Vr.cs_snoc,Df.cs_snoc]; done) | (simp only [List.nil_append,nmsC_app,nmsC_snoc,Pr.cs_snoc,Tp.cs_snoc,Ex.cs_snoc,Vr.cs_snoc,Df.cs_snoc]; rfl))⟩ trivial (by rw [hd,wkA_f,iN h0])
 ·have he:i=(exA u).length:=by omega
  exact lX mdL [df ((i:Int)<((exA u).length:Int))] (wkA_R.e1 n) (by rw [he,List.drop_length,wkA_f])
theorem wkL_1(u:Ex)(g:Nat)(caps:List PV)(X:Int->Ext)(v:Ex->Int->Bool × Int)(f:Ex->Int->Bool × Int)(hvs:∀ (n:Int),Ef g (.agg (exL u)::caps) (X n) (.ret (.bool (v u n).1)) (X (v u n).2))(hks:∀ (w:Ex) (n:Int),w∈exK u->Ef 93 [.agg (exL w),.fn (.func g) [] caps] (X n) (.ret (.bool (f w n).1)) (X (f w n).2))(has:∀ (w:Al) (n:Int),w∈exA u->Ef 93 [.agg (exL (alB w)),.fn (.func g) [] caps] (X n) (.ret (.bool (f (alB w) n).1)) (X (f (alB w) n).2))(hNK:(exK u).length<=1000000000)(hNA:(exA u).length<=1000000000)(n0:Int)(hx0:Prod.fst (v u n0)=false):Ef 93 [.agg (exL u),.fn (.func g) [] caps] (X n0) (rB false) (X (Prod.snd (v u n0))):=
 ef mdL [ce (@hvs n0),bt1 (bnT hx0)] func93
theorem wkK_x(f:Ex->Int->Bool × Int):∀ (l:List Ex) (n:Int),(∃m,wkK_f f l n = .e1 m/\wkS f l n=(true,m))∨(∃w m,wkK_f f l n = .e0 w m/\wkS f l n=(false,(f w m).2))
 | [],n => .inl ⟨n,rfl,rfl⟩
 | x::r,n=>by
  by_cases h:(f x n).1=true
  ·rcases wkK_x f r (f x n).2 with ⟨m,h1,h2⟩ | ⟨w,m,h1,h2⟩
   ·exact .inl ⟨m,by simp only [wkK_f]; rw [iN (by rw [h]; decide)]; exact h1,by simp only [wkS,iP h]; exact h2⟩
   ·exact .inr ⟨w,m,by simp only [wkK_f]; rw [iN (by rw [h]; decide)]; exact h1,by simp only [wkS,iP h]; exact h2⟩
  ·refine .inr ⟨x,n,?_,by simp only [wkS,iN h]⟩
   simp only [wkK_f]; rw [iP (by simpa using h)]
theorem wkA_x(f:Ex->Int->Bool × Int):∀ (l:List Al) (n:Int),(∃m,wkA_f f l n = .e1 m/\wkS (fun a=>f (alB a)) l n=(true,m))∨(∃w m,wkA_f f l n = .e0 w m/\wkS (fun a=>f (alB a)) l n=(false,(f (alB w) m).2))
 | [],n => .inl ⟨n,rfl,rfl⟩
 | x::r,n=>by
  by_cases h:(f (alB x) n).1=true
  ·rcases wkA_x f r (f (alB x) n).2 with ⟨m,h1,h2⟩ | ⟨w,m,h1,h2⟩
   ·exact .inl ⟨m,by simp only [wkA_f]; rw [iN (by rw [h]; decide)]; exact h1,by simp only [wkS,iP h]; exact h2⟩
   ·exact .inr ⟨w,m,by simp only [wkA_f]; rw [iN (by rw [h]; decide)]; exact h1,by simp only [wkS,iP h]; exact h2⟩
  ·refine .inr ⟨x,n,?_,by simp only [wkS,iN h]⟩
   simp only [wkA_f]; rw [iP (by simpa using h)]
def wkB(v f:Ex->Int->Bool × Int)(u:Ex)(n:Int):Bool × Int:=
 if (v u n).1=true then (if (wkS f (exK u) (v u n).2).1=true then wkS (fun a=>f (alB a)) (exA u) (wkS f (exK u) (v u n).2).2 else wkS f (exK u) (v u n).2) else v u n
def wkD(v:Ex->Int->Bool × Int):Nat->Ex->Int->Bool × Int
 | 0,_,n=>(true,n)
 | d+1,u,n=>wkB v (wkD v d) u n
theorem wk_one(u:Ex)(g:Nat)(caps:List PV)(X:Int->Ext)(v:Ex->Int->Bool × Int)(f:Ex->Int->Bool × Int)(hvs:∀ (n:Int),Ef g (.agg (exL u)::caps) (X n) (.ret (.bool (v u n).1)) (X (v u n).2))(hks:∀ (w:Ex) (n:Int),w∈exK u->Ef 93 [.agg (exL w),.fn (.func g) [] caps] (X n) (.ret (.bool (f w n).1)) (X (f w n).2))(has:∀ (w:Al) (n:Int),w∈exA u->Ef 93 [.agg (exL (alB w)),.fn (.func g) [] caps] (X n) (.ret (.bool (f (alB w) n).1)) (X (f (alB w) n).2))(hNK:(exK u).length<=1000000000)(hNA:(exA u).length<=1000000000)(n0:Int):Ef 93 [.agg (exL u),.fn (.func g) [] caps] (X n0) (.ret (.bool (wkB v f u n0).1)) (X (wkB v f u n0).2):=by
 unfold wkB
 cases h:(v u n0).1 with
 | false=>
  rw [iN dD]
  have:=wkL_1 u g caps X v f hvs hks has hNK hNA n0 h
  rw [h]; exact this
 | true=>
  rw [iP rfl]
  rcases wkK_x f (exK u) (v u n0).2 with ⟨m,h1,h2⟩ | ⟨w,m,h1,h2⟩
  ·rw [h2,iP rfl]
   rcases wkA_x f (exA u) m with ⟨k,h3,h4⟩ | ⟨w,k,h3,h4⟩
   ·rw [h4]; exact ef mdL [ce (@hvs n0),bf (!Prod.fst (v u n0)) (bnF h),sl (Ex.cs_len (exK u)),lq (rz (wkK_lp (u) (g) (caps) (X) (v) (f) hvs hks default hNK (Prod.snd (v u n0))) h1),sl (Al.cs_len (exA u)),lq (rz (wkA_lp (u) (g) (caps) (X) (v) (f) hvs hks has hNK default hNA (m)) h3)] func93
   ·rw [h4]; exact ef mdL [ce (@hvs n0),bf (!Prod.fst (v u n0)) (bnF h),sl (Ex.cs_len (exK u)),lq (rz (wkK_lp (u) (g) (caps) (X) (v) (f) hvs hks default hNK (Prod.snd (v u n0))) h1),sl (Al.cs_len (exA u)),lq (rz (wkA_lp (u) (g) (caps) (X) (v) (f) hvs hks has hNK default hNA (m)) h3)] func93
  ·rw [h2,iN sM]; exact ef mdL [ce (@hvs n0),bf (!Prod.fst (v u n0)) (bnF h),sl (Ex.cs_len (exK u)),lq (rz (wkK_lp (u) (g) (caps) (X) (v) (f) hvs hks default hNK (Prod.snd (v u n0))) h1)] func93
theorem wk_ok(g:Nat)(caps:List PV)(X:Int->Ext)(v:Ex->Int->Bool × Int)(hv:∀ (w:Ex) (n:Int),bulkPs (exL w)<=100000000->Ef g (.agg (exL w)::caps) (X n) (.ret (.bool (v w n).1)) (X (v w n).2)):∀ (d:Nat) (u:Ex) (n:Int),bulkPs (exL u)<d->d<=100000001->Ef 93 [.agg (exL u),.fn (.func g) [] caps] (X n) (.ret (.bool (wkD v d u n).1)) (X (wkD v d u n).2)
 | 0,_,_,h,_=>by omega
 | d+1,u,n,h,hs=>by
  have hb:=ex_bulk u
  have h1:=Ex.bulk (exK u)
  have h2:=Al.bulk (exA u)
  exact wk_one u g caps X v (wkD v d) (fun n=>hv u n oM) (fun w n hw=>wk_ok g caps X v hv d w n (by have:=Ex.mem hw; omega) oM)
   (fun w n hw=>wk_ok g caps X v hv d (alB w) n (by have:=Al.mem hw; have:=al_bulk w; omega) oM) oM oM n
def wkF(v:Ex->Int->Bool × Int)(u:Ex)(n:Int):Bool × Int:=wkD v (bulkPs (exL u)+1) u n
theorem wkT(u:Ex)(g:Nat)(caps:List PV)(X:Int->Ext)(v:Ex->Int->Bool × Int)(n:Int)(hv:∀ (w:Ex) (n:Int),bulkPs (exL w)<=100000000->Ef g (.agg (exL w)::caps) (X n) (.ret (.bool (v w n).1)) (X (v w n).2))(hs:bulkPs (exL u)<=100000000):Ef 93 [.agg (exL u),.fn (.func g) [] caps] (X n) (.ret (.bool (wkF v u n).1)) (X (wkF v u n).2):=wk_ok g caps X v hv _ u n oM oM
def mdI(t:Nat):Md:=⟨fun k=>if k=t then none else some false,fun _=>false⟩
abbrev cellI(n:Int):Ext:=[(0,[.v (.int .i64 n)])]
theorem no1(u:Ex)(n:Int):Ef 120 [.agg (exL u),.xp 0 0] (cellI n) (rB true) ([(0,[vI6 (IntKind.wrap .i64 (n+1))])]):=
 Ob.eff_of (mdI 3) 50 [Ans.keep] (sc':=[]) (l:=[]) mixed func120 kR kR trivial
def noV:Ex->Int->Bool × Int:=fun _ n=>(true,IntKind.i64.wrap (n+1))
theorem noW(u:Ex)(n:Int)(hs:bulkPs (exL u)<=100000000):Ef 93 [.agg (exL u),.fn (.func 120) [] [.xp 0 0]] (cellI n) (.ret (.bool (wkF noV u n).1)) (cellI (wkF noV u n).2):=wkT u _ _ cellI noV n (fun w n _=>no1 w n) hs
theorem noL(u:Ex)(hs:bulkPs (exL u)<=100000000):Ef 91 [.agg (exL u)] ([]) (rI (Prod.snd (wkF noV u 0))) ([(0,[vI6 (Prod.snd (wkF noV u 0))])]):=
 Ob.eff_of (mdI 3) 50 [Ans.eff (rB (Prod.fst (wkF noV u 0))) [(0,[vI6 (Prod.snd (wkF noV u 0))])]] (sc':=[]) (l:=[Ob.eff 93 [.agg (exL u),.fn (.func 120) [] [.xp 0 0]] [(0,[vI6 0])] (rB (Prod.fst (wkF noV u 0))) [(0,[vI6 (Prod.snd (wkF noV u 0))])]]) mixed func91 kR kR ⟨(@noW (u) (0) hs),tVv⟩
theorem nd_2(u:Ex)(a b:Bool)(c d:Int)(m o:Bool)(g k:Int)(t:Bool)(z:Bool)(xe:Ext)(cx:Cx)(hcx:cx.n=156){Q:PExit->S->Prop}(hq:Q (.normal) (S.mk [(1,.lp 1 0),(2,vI6 0),(3,.lp 3 0),(4,.v (.bool z)),(5,.v (.bool (!a&&exN u != 0 || !b && !ByteArray.toList (exNm u)==ByteArray.toList nm0||d==0&&decide (((exK u).length:Int)>0) || !m&&decide (((exP u).length:Int)>0) || !o&&decide (((exA u).length:Int)>0) || !t&&decide (((exT u).length:Int)>0))))] [(1,exV u),(3,[.v (.bool a),.v (.bool b),vI6 c,vI6 d,.v (.bool m),.v (.bool o),vI6 g,vI6 k,.v (.bool t)])] xe)):PW prog cx (regF f95 2) (S.mk [(1,.lp 1 0),(2,vI6 0),(3,.lp 3 0),(4,.v (.bool z))] [(1,exV u),(3,shV a b c d m o g k t)] xe) Q:=
 pw mdL 156 [mg,av (.v (.bool (bif !a then exN u != 0 else false))) (.v (.bool (!a&&exN u != 0))) (by (simp only [Bool.cond_false_right]; done)),mg,av (.v (.bool (bif !a&&exN u != 0 then true else bif !b then !ByteArray.toList (exNm u)==ByteArray.toList nm0 else false))) (.v (.bool (!a&&exN u != 0 || !b && !ByteArray.toList (exNm u)==ByteArray.toList nm0))) (by (simp only [Bool.cond_true_left,Bool.cond_false_right]; done)),mg,av (.v (.bool (bif !a&&exN u != 0 || !b && !ByteArray.toList (exNm u)==ByteArray.toList nm0 then true else bif d==0 then decide ((↑((fun x=>List.length (Prod.snd x)) (7,Ex.cs (exK u))):Int)>0) else false))) (.v (.bool (!a&&exN u != 0 || !b && !ByteArray.toList (exNm u)==ByteArray.toList nm0||d==0&&decide (((exK u).length:Int)>0)))) (by (simp only [List.length_nil,Ex.cs_len,Bool.cond_true_left,Bool.cond_false_right]; done)),mg,av (.v (.bool (bif !a&&exN u != 0 || !b && !ByteArray.toList (exNm u)==ByteArray.toList nm0||d==0&&decide (((exK u).length:Int)>0) then true else bif !m then decide ((↑((fun x=>List.length (Prod.snd x)) (10,Pm.cs (exP u))):Int)>0) else false))) (.v (.bool (!a&&exN u != 0 || !b && !ByteArray.toList (exNm u)==ByteArray.toList nm0||d==0&&decide (((exK u).length:Int)>0) || !m&&decide (((exP u).length:Int)>0)))) (by (simp only [List.length_nil,Pm.cs_len,Bool.cond_true_left,Bool.cond_false_right]; done)),mg,av (.v (.bool (bif !a&&exN u != 0 || !b && !ByteArray.toList (exNm u)==ByteArray.toList nm0||d==0&&decide (((exK u).length:Int)>0) || !m&&decide (((exP u).length:Int)>0) then true else bif !o then decide ((↑((fun x=>List.length (Prod.snd x)) (9,Al.cs (exA u))):Int)>0) else false))) (.v (.bool (!a&&exN u != 0 || !b && !ByteArray.toList (exNm u)==ByteArray.toList nm0||d==0&&decide (((exK u).length:Int)>0) || !m&&decide (((exP u).length:Int)>0) || !o&&decide (((exA u).length:Int)>0)))) (by (simp only [List.length_nil,Al.cs_len,Bool.cond_true_left,Bool.cond_false_right]; done)),mg,av (.v (.bool (bif !a&&exN u != 0 || !b && !ByteArray.toList (exNm u)==ByteArray.toList nm0||d==0&&decide (((exK u).length:Int)>0) || !m&&decide (((exP u).length:Int)>0) || !o&&decide (((exA u).length:Int)>0) then true else bif !t then decide ((↑((fun x=>List.length (Prod.snd x)) (9,Tp.cs (exT u))):Int)>0) else false))) (.v (.bool (!a&&exN u != 0 || !b && !ByteArray.toList (exNm u)==ByteArray.toList nm0||d==0&&decide (((exK u).length:Int)>0) || !m&&decide (((exP u).length:Int)>0) || !o&&decide (((exA u).length:Int)>0) || !t&&decide (((exT u).length:Int)>0)))) (by (simp only [List.length_nil,Tp.cs_len,Bool.cond_true_left,Bool.cond_false_right]; done))] [1,2,3,4,5] [1,3] hcx hq
def nd_2_v5(u:Ex)(a b:Bool)(c d:Int)(m o:Bool)(g k:Int)(t:Bool)(z:Bool):Bool:=((!a&&exN u != 0 || !b && !ByteArray.toList (exNm u)==ByteArray.toList nm0||d==0&&decide (((exK u).length:Int)>0) || !m&&decide (((exP u).length:Int)>0) || !o&&decide (((exA u).length:Int)>0) || !t&&decide (((exT u).length:Int)>0)))
theorem nd_2J(u:Ex)(a b:Bool)(c d:Int)(m o:Bool)(g k:Int)(t:Bool)(z:Bool)(xe:Ext):(Ob.frag 156 (regF f95 2) (S.mk [(1,.lp 1 0),(2,vI6 0),(3,.lp 3 0),(4,.v (.bool z))] [(1,exV u),(3,shV a b c d m o g k t)] xe) (.normal) (S.mk [(1,.lp 1 0),(2,vI6 0),(3,.lp 3 0),(4,.v (.bool z)),(5,.v (.bool (nd_2_v5 u a b c d m o g k t z)))] [(1,exV u),(3,[.v (.bool a),.v (.bool b),vI6 c,vI6 d,.v (.bool m),.v (.bool o),vI6 g,vI6 k,.v (.bool t)])] xe)).ok prog:=by
 intro cx hcx
 exact nd_2 u a b c d m o g k t z xe  cx hcx ⟨rfl,by rw [show nd_2_v5 u a b c d m o g k t z=((!a&&exN u != 0 || !b && !ByteArray.toList (exNm u)==ByteArray.toList nm0||d==0&&decide (((exK u).length:Int)>0) || !m&&decide (((exP u).length:Int)>0) || !o&&decide (((exA u).length:Int)>0) || !t&&decide (((exT u).length:Int)>0))) from rfl]⟩
section
variable (u:Ex) (a b:Bool) (c d:Int) (m o:Bool) (g k:Int) (t:Bool) (xe:Ext)
include u a b c d m o g k t xe
theorem nd_7_1(hx0:exO u=1)(cx:Cx)(hcx:cx.n=156){Q:PExit->S->Prop}(hq:Q (.normal) (S.mk [(1,.lp 1 0),(2,vI6 0),(3,.lp 3 0),(92,.v (.bool (!niS_r0 (exN u)||exO u==2&&exN u != 0&&exN u != 1)))] [(1,exV u),(3,[.v (.bool a),.v (.bool b),vI6 c,vI6 d,.v (.bool m),.v (.bool o),vI6 g,vI6 k,.v (.bool t)])] xe)):PW prog cx (regF f95 7) (S.mk [(1,.lp 1 0),(2,vI6 0),(3,.lp 3 0)] [(1,exV u),(3,shV a b c d m o g k t)] xe) Q:=
 pw mdL 156 [rp 3 (et1 hx0),cl (@niS (exN u)),rp 2 (et1 hx0),mg,av (.v (.bool (bif !niS_r0 (exN u) then true else bif bif exO u==2 then exN u != 0 else false then exN u != 1 else false))) (.v (.bool (!niS_r0 (exN u)||exO u==2&&exN u != 0&&exN u != 1))) (by (simp only [Bool.cond_true_left,Bool.cond_false_right]; done))] [1,2,3,92] [1,3] hcx hq
theorem nd_7_2(hx0:¬exO u=1)(hx1:exO u=2)(hx2:¬exN u=0)(cx:Cx)(hcx:cx.n=156){Q:PExit->S->Prop}(hq:Q (.normal) (S.mk [(1,.lp 1 0),(2,vI6 0),(3,.lp 3 0),(92,.v (.bool (exN u != 1)))] [(1,exV u),(3,[.v (.bool a),.v (.bool b),vI6 c,vI6 d,.v (.bool m),.v (.bool o),vI6 g,vI6 k,.v (.bool t)])] xe)):PW prog cx (regF f95 7) (S.mk [(1,.lp 1 0),(2,vI6 0),(3,.lp 3 0)] [(1,exV u),(3,shV a b c d m o g k t)] xe) Q:=
 pw mdL 156 [rp 5 (en1 hx0),rp 4 (bf false),rp 3 (et1 hx1),bf false,et1 hx1,bf false,rp 3 (nt1 hx2),bf false,nt1 hx2,bf false] [1,2,3,92] [1,3] hcx hq
theorem nd_7_3(hx0:¬exO u=1)(hx1:exO u=2)(hx2:exN u=0)(cx:Cx)(hcx:cx.n=156){Q:PExit->S->Prop}(hq:Q (.normal) (S.mk [(1,.lp 1 0),(2,vI6 0),(3,.lp 3 0),(92,.v (.bool false))] [(1,exV u),(3,[.v (.bool a),.v (.bool b),vI6 c,vI6 d,.v (.bool m),.v (.bool o),vI6 g,vI6 k,.v (.bool t)])] xe)):PW prog cx (regF f95 7) (S.mk [(1,.lp 1 0),(2,vI6 0),(3,.lp 3 0)] [(1,exV u),(3,shV a b c d m o g k t)] xe) Q:=
 pw mdL 156 [rp 5 (en1 hx0),rp 4 (bf false),rp 3 (et1 hx1),bf false,et1 hx1,bf false,rp 3 (nn1 hx2),bf false,nn1 hx2,bf false] [1,2,3,92] [1,3] hcx hq
theorem nd_7_4(hx0:¬exO u=1)(hx1:¬exO u=2)(cx:Cx)(hcx:cx.n=156){Q:PExit->S->Prop}(hq:Q (.normal) (S.mk [(1,.lp 1 0),(2,vI6 0),(3,.lp 3 0),(92,.v (.bool false))] [(1,exV u),(3,[.v (.bool a),.v (.bool b),vI6 c,vI6 d,.v (.bool m),.v (.bool o),vI6 g,vI6 k,.v (.bool t)])] xe)):PW prog cx (regF f95 7) (S.mk [(1,.lp 1 0),(2,vI6 0),(3,.lp 3 0)] [(1,exV u),(3,shV a b c d m o g k t)] xe) Q:=
 pw mdL 156 [rp 5 (en1 hx0),rp 4 (bf false),rp 3 (en1 hx1),bf false,en1 hx1,rp 7 (bf false)] [1,2,3,92] [1,3] hcx hq
end
def nd_7_v92(u:Ex)(a b:Bool)(c d:Int)(m o:Bool)(g k:Int)(t:Bool):Bool:=(if exO u=1 then ((!niS_r0 (exN u)||exO u==2&&exN u != 0&&exN u != 1)) else (if exO u=2 then (if exN u=0 then (false) else ((exN u != 1))) else (false)))
theorem nd_7J(u:Ex)(a b:Bool)(c d:Int)(m o:Bool)(g k:Int)(t:Bool)(xe:Ext):(Ob.frag 156 (regF f95 7) (S.mk [(1,.lp 1 0),(2,vI6 0),(3,.lp 3 0)] [(1,exV u),(3,shV a b c d m o g k t)] xe) (.normal) (S.mk [(1,.lp 1 0),(2,vI6 0),(3,.lp 3 0),(92,.v (.bool (nd_7_v92 u a b c d m o g k t)))] [(1,exV u),(3,[.v (.bool a),.v (.bool b),vI6 c,vI6 d,.v (.bool m),.v (.bool o),vI6 g,vI6 k,.v (.bool t)])] xe)).ok prog:=by
 intro cx hcx
 by_cases g0:exO u=1
 ·exact nd_7_1 u a b c d m o g k t xe g0 cx hcx ⟨rfl,by rw [show nd_7_v92 u a b c d m o g k t=((!niS_r0 (exN u)||exO u==2&&exN u != 0&&exN u != 1)) by unfold nd_7_v92; rw [iP g0]]⟩
 ·by_cases g1:exO u=2
  ·by_cases g2:exN u=0
   ·exact nd_7_3 u a b c d m o g k t xe g0 g1 g2 cx hcx ⟨rfl,by rw [show nd_7_v92 u a b c d m o g k t=(false) by unfold nd_7_v92; rw [iN g0,iP g1,iP g2]]⟩
   ·exact nd_7_2 u a b c d m o g k t xe g0 g1 g2 cx hcx ⟨rfl,by rw [show nd_7_v92 u a b c d m o g k t=((exN u != 1)) by unfold nd_7_v92; rw [iN g0,iP g1,iN g2]]⟩
  ·exact nd_7_4 u a b c d m o g k t xe g0 g1 cx hcx ⟨rfl,by rw [show nd_7_v92 u a b c d m o g k t=(false) by unfold nd_7_v92; rw [iN g0,iN g1]]⟩
abbrev dpK_I(u:Ex)(dfz:Ex->Int)(j:Int)(n:Int)(e:Ext):S:=S.mk [(1,.lp 1 0),(2,vI6 0),(3,vI6 n),(9,vL 7 (Ex.cs (exK u))),(10,vI6 ((exK u).length:Int)),(11,vI6 j)] [(1,exV u)] e
def dpK_f(dfz:Ex->Int):List Ex->(Int)->(Int)
 | [],n=>(n)
 | el::r,n=>dpK_f dfz r (mxI true n (dfz el))
def dpK_q(u:Ex)(dfz:Ex->Int)(e:Ext)(p:(Int)):PExit × S:=(.exit 0,S.mk [(1,.lp 1 0),(2,vI6 0),(3,vI6 p),(9,vL 7 (Ex.cs (exK u))),(10,vI6 ((exK u).length:Int))] [(1,exV u)] e)
theorem dpK(u:Ex)(dfz:Ex->Int)(hks:∀w:Ex,w∈exK u->Pu 92 [.agg (exL w)] (.ret (.int .i64 (dfz w))))(n:Int)(e:Ext)(hN:(exK u).length<=1000000000)  : (Ob.loop 35 (loopF f92 0) (dpK_I u dfz 0 n e) (dpK_q u dfz e (dpK_f dfz ((exK u))  n)).1 (dpK_q u dfz e (dpK_f dfz ((exK u))  n)).2).ok prog:=by
 refine rng ((exK u).length) (fun j n=>dpK_I u dfz j n e) (fun i n=>dpK_f dfz (List.drop i ((exK u)))  n) (dpK_q u dfz e) (fun i n=>True) kR ?_ n trivial
 rintro i n hi -
 rcases Nat.lt_or_ge i ((exK u).length) with hlt | hge
 ·have hd:=drop_at hlt
  exact lN mdL [rgEx hlt,cl (@hks (List.getD (exK u) i default) (by simp_all [tn1])),wr ((i:Int)+1)] hlt (mxI true n (dfz (List.getD (exK u) i default))) trivial (by rw [hd,dpK_f])
 ·have he:i=(exK u).length:=by omega
  exact lX mdL [df ((i:Int)<((exK u).length:Int))] (n) (by rw [he,List.drop_length,dpK_f])
abbrev dpA_I(u:Ex)(dfz:Ex->Int)(j:Int)(n:Int)(e:Ext):S:=S.mk [(2,vI6 0),(3,vI6 n),(21,vL 9 (Al.cs (exA u))),(22,vI6 ((exA u).length:Int)),(23,vI6 j)] [] e
def dpA_f(dfz:Ex->Int):List Al->(Int)->(Int)
 | [],n=>(n)
 | el::r,n=>dpA_f dfz r (mxI true n (dfz (alB el)))
def dpA_q(u:Ex)(dfz:Ex->Int)(e:Ext)(p:(Int)):PExit × S:=(.exit 2,S.mk [(2,vI6 0),(3,vI6 p),(21,vL 9 (Al.cs (exA u))),(22,vI6 ((exA u).length:Int))] [] e)
theorem dpA(u:Ex)(dfz:Ex->Int)(hks:∀w:Ex,w∈exK u->Pu 92 [.agg (exL w)] (.ret (.int .i64 (dfz w))))(has:∀w:Al,w∈exA u->Pu 92 [.agg (exL (alB w))] (.ret (.int .i64 (dfz (alB w)))))(hNK:(exK u).length<=1000000000)(n:Int)(e:Ext)(hN:(exA u).length<=1000000000)  : (Ob.loop 35 (loopF f92 1) (dpA_I u dfz 0 n e) (dpA_q u dfz e (dpA_f dfz ((exA u))  n)).1 (dpA_q u dfz e (dpA_f dfz ((exA u))  n)).2).ok prog:=by
 refine rng ((exA u).length) (fun j n=>dpA_I u dfz j n e) (fun i n=>dpA_f dfz (List.drop i ((exA u)))  n) (dpA_q u dfz e) (fun i n=>True) kR ?_ n trivial
 rintro i n hi -
 rcases Nat.lt_or_ge i ((exA u).length) with hlt | hge
 ·have hd:=drop_at hlt
  exact lN mdL [rgAl hlt,cl (@has (List.getD (exA u) i default) (by simp_all [tn1])),wr ((i:Int)+1)] hlt (mxI true n (dfz (alB (List.getD (exA u) i default)))) trivial (by rw [hd,dpA_f])
 ·have he:i=(exA u).length:=by omega
  exact lX mdL [df ((i:Int)<((exA u).length:Int))] (n) (by rw [he,List.drop_length,dpA_f])
def dpD:Nat->Ex->Int
 | 0,_=>0
 | d+1,u=>IntKind.i64.wrap (dpA_f (dpD d) (exA u) (dpK_f (dpD d) (exK u) 0)+1)
theorem dp_ok:∀ (d:Nat) (u:Ex),bulkPs (exL u)<d->d<=100000001->Pu 92 [.agg (exL u)] (.ret (.int .i64 (dpD d u)))
 | 0,_,h,_=>by omega
 | d+1,u,h,hs=>by
  have hb:=ex_bulk u
  have h1:=Ex.bulk (exK u)
  have h2:=Al.bulk (exA u)
  exact pu mdL (fun e=>[sl (Ex.cs_len (exK u)),lq (@dpK u ((dpD d)) (fun w hw=>dp_ok d w (by have:=Ex.mem hw; omega) oM) 0 e oM),sl (Al.cs_len (exA u)),lq (@dpA u ((dpD d)) (fun w hw=>dp_ok d w (by have:=Ex.mem hw; omega) oM) (fun w hw=>dp_ok d (alB w) (by have:=Al.mem hw; have:=al_bulk w; omega) oM) oM (dpK_f (dpD d) (exK u) 0) e oM),kp]) func92
def dpF(u:Ex):Int:=dpD (bulkPs (exL u)+1) u
theorem dpT(u:Ex)(hs:bulkPs (exL u)<=100000000):Pu 92 [.agg (exL u)] (.ret (.int .i64 (dpF u))):=dp_ok _ u oM oM
def mdF:Md:=⟨fun _=>some false,fun t=>t==1000001||t==1000002||t==1000003||t==1000011⟩
def sFm_r0(t:Tp)(ff:Tp->Int):Int:=(if fm3_v63 t (fm1_v3 t) (fm2_v4 t (fm1_v3 t))=true then 1 else (if arE t=0 then (if fm1_v3 t=true then (if erN (coreB (tpNm t))=0 then (if (if false=true then fm11_v6 t==(tpO t==4) else !fm11_v6 t==(tpO t==4))=true then 3 else (if frE ff (tpA t)=0 then 0 else (frE ff (tpA t)))) else 3) else (if frE ff (tpA t)=0 then 0 else (frE ff (tpA t)))) else (arE t)))
theorem sFm(t:Tp)(ff:Tp->Int)(hwk:∀w:Tp,w∈tpA t->Pu 151 [.agg (tpL w)] (.ret (.int .i64 (ff w))))(hN0:(tpA t).length<=1000000000):Pu 151 [.agg (tpL t)] (rI (sFm_r0 t ff)):=by
 by_cases h0:fm3_v63 t (fm1_v3 t) (fm2_v4 t (fm1_v3 t))=true
 ·simp only [sFm_r0,iP h0]; exact pu mdF (fun e=>[lg (@fm1J t e),lg (@fm2J t (fm1_v3 t) e),lg (@fm3J t (fm1_v3 t) (fm2_v4 t (fm1_v3 t)) e),bt1 h0]) func151
 ·by_cases h1:arE t=0
  ·by_cases h2:fm1_v3 t=true
   ·by_cases h3:erN (coreB (tpNm t))=0
    ·by_cases h4:(if false=true then fm11_v6 t==(tpO t==4) else !fm11_v6 t==(tpO t==4))=true
     ·simp only [sFm_r0,iN h0,iP h1,iP h2,iP h3,iP h4]; exact pu mdF (fun e=>[lg (@fm1J t e),lg (@fm2J t (fm1_v3 t) e),lg (@fm3J t (fm1_v3 t) (fm2_v4 t (fm1_v3 t)) e),bf1 (bFT h0),cl (@arT t),nn1 h1,bt1 h2,cl (@nCoT (tpNm t)),nn1 h3,lg (@fm11J t e h3),bt1 h4]) func151
     ·by_cases h5:frE ff (tpA t)=0
      ·simp only [sFm_r0,iN h0,iP h1,iP h2,iP h3,iN h4,iP h5]; exact pu mdF (fun e=>[lg (@fm1J t e),lg (@fm2J t (fm1_v3 t) e),lg (@fm3J t (fm1_v3 t) (fm2_v4 t (fm1_v3 t)) e),bf1 (bFT h0),cl (@arT t),nn1 h1,bt1 h2,cl (@nCoT (tpNm t)),nn1 h3,lg (@fm11J t e h3),bf1 (bFT h4),sl (Tp.cs_len (tpA t)),lq (@tfT t e ff hwk hN0 h5)]) func151
      ·simp only [sFm_r0,iN h0,iP h1,iP h2,iP h3,iN h4,iN h5]; exact pu mdF (fun e=>[lg (@fm1J t e),lg (@fm2J t (fm1_v3 t) e),lg (@fm3J t (fm1_v3 t) (fm2_v4 t (fm1_v3 t)) e),bf1 (bFT h0),cl (@arT t),nn1 h1,bt1 h2,cl (@nCoT (tpNm t)),nn1 h3,lg (@fm11J t e h3),bf1 (bFT h4),sl (Tp.cs_len (tpA t)),lq (@tfF t e ff hwk hN0 h5)]) func151
    ·simp only [sFm_r0,iN h0,iP h1,iP h2,iN h3]; exact pu mdF (fun e=>[lg (@fm1J t e),lg (@fm2J t (fm1_v3 t) e),lg (@fm3J t (fm1_v3 t) (fm2_v4 t (fm1_v3 t)) e),bf1 (bFT h0),cl (@arT t),nn1 h1,bt1 h2,cl (@nCoT (tpNm t)),nt1 h3]) func151
   ·by_cases h3:frE ff (tpA t)=0
    ·simp only [sFm_r0,iN h0,iP h1,iN h2,iP h3]; exact pu mdF (fun e=>[lg (@fm1J t e),lg (@fm2J t (fm1_v3 t) e),lg (@fm3J t (fm1_v3 t) (fm2_v4 t (fm1_v3 t)) e),bf1 (bFT h0),cl (@arT t),nn1 h1,bf1 (bFT h2),sl (Tp.cs_len (tpA t)),lq (@tfT t e ff hwk hN0 h3)]) func151
    ·simp only [sFm_r0,iN h0,iP h1,iN h2,iN h3]; exact pu mdF (fun e=>[lg (@fm1J t e),lg (@fm2J t (fm1_v3 t) e),lg (@fm3J t (fm1_v3 t) (fm2_v4 t (fm1_v3 t)) e),bf1 (bFT h0),cl (@arT t),nn1 h1,bf1 (bFT h2),sl (Tp.cs_len (tpA t)),lq (@tfF t e ff hwk hN0 h3)]) func151
  ·simp only [sFm_r0,iN h0,iN h1]; exact pu mdF (fun e=>[lg (@fm1J t e),lg (@fm2J t (fm1_v3 t) e),lg (@fm3J t (fm1_v3 t) (fm2_v4 t (fm1_v3 t)) e),bf1 (bFT h0),cl (@arT t),nt1 h1]) func151
def fmD:Nat->Tp->Int
 | 0,_=>0
 | d+1,t=>sFm_r0 t (fmD d)
theorem fm_ok:∀ (d:Nat) (t:Tp),bulkPs (tpL t)<d->d<=100000001->Pu 151 [.agg (tpL t)] (.ret (.int .i64 (fmD d t)))
 | 0,_,h,_=>by omega
 | d+1,t,h,hs=>sFm t (fmD d) (fun w hw=>fm_ok d w (by have:=tp_bulk t; have:=Tp.mem hw; omega) oM) (by have:=tp_bulk t; have:=Tp.bulk (tpA t); omega)
def fmF(t:Tp):Int:=fmD (bulkPs (tpL t)+1) t
theorem fmT(t:Tp)(hs:bulkPs (tpL t)<=100000000):Pu 151 [.agg (tpL t)] (.ret (.int .i64 (fmF t))):=fm_ok _ t oM oM
def tyC_r0(t:Tp):Int:=(if tdF t>40 then 8 else (fmF t))
theorem tyC(t:Tp)(hs:bulkPs (tpL t)<=100000000):Pu 124 [.agg (tpL t)] (rI (tyC_r0 t)):=by
 by_cases h0:tdF t>40
 ·simp only [tyC_r0,iP h0]; exact pm mdL [cl (@tdT t hs),dt1 h0] func124
 ·simp only [tyC_r0,iN h0]; exact pm mdL [cl (@tdT t hs),df1 h0,cl (@fmT t hs)] func124
def mdS:Md:=⟨fun _=>some false,fun t=>t==1000002||t==1000007⟩
abbrev ndT_I(y:Ex)(a:Bool)(b:Bool)(c:Int)(d:Int)(m:Bool)(o:Bool)(g:Int)(k:Int)(t:Bool)(z:Bool)(j:Int)(e:Ext):S:=S.mk [(1,.lp 1 0),(2,vI6 0),(124,vL 9 (Tp.cs (exT y))),(125,vI6 ((exT y).length:Int)),(126,vI6 j)] [(1,exV y)] e
inductive ndT_R where
 | e0 (el:Tp)
 | e1
def ndT_f  : List Tp->ndT_R
 | []=>(ndT_R.e1)
 | el::r=>(if tyC_r0 el=0 then ndT_f  r  else (ndT_R.e0 el))
def ndT_q(y:Ex)(a:Bool)(b:Bool)(c:Int)(d:Int)(m:Bool)(o:Bool)(g:Int)(k:Int)(t:Bool)(z:Bool)(e:Ext):ndT_R->PExit × S
 | .e0 el=>(.ret,S.mk [(1,.lp 1 0),(2,vI6 (tyC_r0 el)),(124,vL 9 (Tp.cs (exT y))),(125,vI6 ((exT y).length:Int))] [(1,exV y)] e)
 | .e1=>(.exit 1,S.mk [(1,.lp 1 0),(2,vI6 0),(124,vL 9 (Tp.cs (exT y))),(125,vI6 ((exT y).length:Int))] [(1,exV y)] e)
theorem ndT_lp(y:Ex)(a b:Bool)(c d:Int)(m o:Bool)(g k:Int)(t z:Bool)(hsh:Pu 121 [.int .i64 (exO y)] (.ret (.tup [.agg (shL a b c d m o g k t),.bool z])))(hP:(exP y).length<=1000000000)(hA:(exA y).length<=1000000000)(hP2:(bdA_f (exP y) []).length<=100000000)(hA2:(coA_f (exA y) []).length<=1000000000)(hA3:altN (exA y)<=100000000)(htk:∀w:Tp,w∈exT y->Pu 124 [.agg (tpL w)] (.ret (.int .i64 (tyC_r0 w))))(e:Ext)(hN:(exT y).length<=1000000000):(Ob.loop 156 (loopF f95 0) (ndT_I y a b c d m o g k t z 0  e) (ndT_q y a b c d m o g k t z e (ndT_f  ((exT y)))).1 (ndT_q y a b c d m o g k t z e (ndT_f  ((exT y)))).2).ok prog:=by
 refine rng ((exT y).length) (fun j _=>ndT_I y a b c d m o g k t z j  e) (fun i _=>ndT_f  (List.drop i ((exT y)))) (ndT_q y a b c d m o g k t z e) (fun i _=>True) kR ?_ () trivial
 rintro i u hi -
 rcases Nat.lt_or_ge i ((exT y).length) with hlt | hge
 ·have hd:=drop_at hlt
  refine t0 ?_;refine tp [rgTp hlt,cl (@htk (List.getD (exT y) i default) (by simp_all [tn1]))] ?_;by_cases h0:tyC_r0 (List.getD (exT y) i default)=0
  ·exact tN mdS [nn1 h0,wr ((i:Int)+1)] hlt () trivial (by rw [hd,ndT_f,iP h0])
  ·exact tX mdS [nt1 h0] (ndT_R.e0 (List.getD ((exT y)) i default)) (by rw [hd,ndT_f,iN h0])
 ·have he:i=(exT y).length:=by omega
  exact lX mdS [df ((i:Int)<((exT y).length:Int))] (ndT_R.e1) (by rw [he,List.drop_length,ndT_f])
abbrev ndP_I(y:Ex)(a:Bool)(b:Bool)(c:Int)(d:Int)(m:Bool)(o:Bool)(g:Int)(k:Int)(t:Bool)(z:Bool)(j:Int)(e:Ext):S:=S.mk [(2,vI6 0),(137,vL 10 (Pm.cs (exP y))),(138,vI6 ((exP y).length:Int)),(139,vI6 j)] [] e
inductive ndP_R where
 | e0 (el:Pm)
 | e1
def ndP_f  : List Pm->ndP_R
 | []=>(ndP_R.e1)
 | el::r=>(if tyC_r0 (pmT el)=0 then ndP_f  r  else (if tyZ_r0 (pmT el)=false then (ndP_R.e0 el) else ndP_f  r))
def ndP_q(y:Ex)(a:Bool)(b:Bool)(c:Int)(d:Int)(m:Bool)(o:Bool)(g:Int)(k:Int)(t:Bool)(z:Bool)(e:Ext):ndP_R->PExit × S
 | .e0 el=>(.ret,S.mk [(2,vI6 (tyC_r0 (pmT el))),(137,vL 10 (Pm.cs (exP y))),(138,vI6 ((exP y).length:Int))] [] e)
 | .e1=>(.exit 3,S.mk [(2,vI6 0),(137,vL 10 (Pm.cs (exP y))),(138,vI6 ((exP y).length:Int))] [] e)
theorem ndP_lp(y:Ex)(a b:Bool)(c d:Int)(m o:Bool)(g k:Int)(t z:Bool)(hsh:Pu 121 [.int .i64 (exO y)] (.ret (.tup [.agg (shL a b c d m o g k t),.bool z])))(hP:(exP y).length<=1000000000)(hA:(exA y).length<=1000000000)(hP2:(bdA_f (exP y) []).length<=100000000)(hA2:(coA_f (exA y) []).length<=1000000000)(hA3:altN (exA y)<=100000000)(htk:∀w:Tp,w∈exT y->Pu 124 [.agg (tpL w)] (.ret (.int .i64 (tyC_r0 w))))(hT:(exT y).length<=1000000000)(hpk:∀w:Pm,w∈exP y->Pu 124 [.agg (tpL (pmT w))] (.ret (.int .i64 (tyC_r0 (pmT w)))))(e:Ext)(hN:(exP y).length<=1000000000):(Ob.loop 156 (loopF f95 1) (ndP_I y a b c d m o g k t z 0  e) (ndP_q y a b c d m o g k t z e (ndP_f  ((exP y)))).1 (ndP_q y a b c d m o g k t z e (ndP_f  ((exP y)))).2).ok prog:=by
 refine rng ((exP y).length) (fun j _=>ndP_I y a b c d m o g k t z j  e) (fun i _=>ndP_f  (List.drop i ((exP y)))) (ndP_q y a b c d m o g k t z e) (fun i _=>True) kR ?_ () trivial
 rintro i u hi -
 rcases Nat.lt_or_ge i ((exP y).length) with hlt | hge
 ·have hd:=drop_at hlt
  refine t0 ?_;refine tp [rgPm hlt,cl (@hpk (List.getD (exP y) i default) (by simp_all [tn1]))] ?_;by_cases h0:tyC_r0 (pmT (List.getD (exP y) i default))=0
  ·exact tN mdS [rp 5 (nn1 h0),bf false,wr ((i:Int)+1)] hlt () trivial (by rw [hd,ndP_f,iP h0])
  ·refine tp [rp 3 (nt1 h0),cl (@nnT (pmT (List.getD (exP y) i default))),rp 2 (nt1 h0)] ?_;by_cases h1:tyZ_r0 (pmT (List.getD (exP y) i default))=false
   ·exact tX mdS [bt1 (bnT h1)] (ndP_R.e0 (List.getD ((exP y)) i default)) (by rw [hd,ndP_f,iN h0,iP h1])
   ·exact tN mdS [bf1 (bnF (bTF h1)),wr ((i:Int)+1)] hlt () trivial (by rw [hd,ndP_f,iN h0,iN h1])
 ·have he:i=(exP y).length:=by omega
  exact lX mdS [df ((i:Int)<((exP y).length:Int))] (ndP_R.e1) (by rw [he,List.drop_length,ndP_f])
def pmEr(p:Pm):Int:=if tyC_r0 (pmT p)=0 then 0 else if tyZ_r0 (pmT p)=false then tyC_r0 (pmT p) else 0
theorem ndT_x:∀l:List Tp,(frE tyC_r0 l=0->ndT_f l = .e1)/\(¬frE tyC_r0 l=0->∃w,ndT_f l = .e0 w/\tyC_r0 w=frE tyC_r0 l)
 | []=>⟨fun _=>rfl,fun h=>absurd rfl h⟩
 | x::r=>by
  have ih:=ndT_x r
  by_cases h:tyC_r0 x=0
  ·simp only [frE,ndT_f,h,if_true,not_true_eq_false,if_false]; exact ih
  ·simp only [frE,ndT_f,h,if_false,not_false_eq_true,if_true]; exact ⟨fun h'=>h'.elim,fun _=>⟨x,rfl,rfl⟩⟩
theorem ndP_x:∀l:List Pm,(frE pmEr l=0->ndP_f l = .e1)/\(¬frE pmEr l=0->∃w,ndP_f l = .e0 w/\tyC_r0 (pmT w)=frE pmEr l)
 | []=>⟨fun _=>rfl,fun h=>absurd rfl h⟩
 | x::r=>by
  have ih:=ndP_x r
  by_cases h:tyC_r0 (pmT x)=0
  ·have e:pmEr x=0:=by unfold pmEr; rw [iP h]
   simp only [frE,ndP_f,e,h,if_true,not_true_eq_false,if_false]; exact ih
  ·by_cases h2:tyZ_r0 (pmT x)=false
   ·have e:pmEr x=tyC_r0 (pmT x):=by unfold pmEr; rw [iN h,iP h2]
    simp only [frE,ndP_f,e,h,h2,if_false,not_false_eq_true,if_true]; exact ⟨fun h'=>h'.elim,fun _=>⟨x,rfl,rfl⟩⟩
   ·have e:pmEr x=0:=by unfold pmEr; rw [iN h,iN h2]
    simp only [frE,ndP_f,e,h,h2,if_true,if_false,not_false_eq_true]; exact ih
def sndE(y:Ex)(a b:Bool)(c d:Int)(m o:Bool)(g k:Int)(t z:Bool):Int:=
 if (!z||nd_2_v5 y a b c d m o g k t z)=true then 1 else if ctS_r0 y c d m o g k=false then 13 else if nd_7_v92 y a b c d m o g k t=true then 2
 else if nam_r0 y b=0 then (if frE tyC_r0 (exT y)=0 then frE pmEr (exP y) else frE tyC_r0 (exT y)) else nam_r0 y b
theorem sndT(y:Ex)(a b:Bool)(c d:Int)(m o:Bool)(g k:Int)(t z:Bool)(hsh:Pu 121 [.int .i64 (exO y)] (.ret (.tup [.agg (shL a b c d m o g k t),.bool z])))(hP:(exP y).length<=1000000000)(hA:(exA y).length<=1000000000)(hP2:(bdA_f (exP y) []).length<=100000000)(hA2:(coA_f (exA y) []).length<=1000000000)(hA3:altN (exA y)<=100000000)(htk:∀w:Tp,w∈exT y->Pu 124 [.agg (tpL w)] (.ret (.int .i64 (tyC_r0 w))))(hT:(exT y).length<=1000000000)(hpk:∀w:Pm,w∈exP y->Pu 124 [.agg (tpL (pmT w))] (.ret (.int .i64 (tyC_r0 (pmT w))))):Pu 95 [.agg (exL y)] (.ret (.int .i64 (sndE y a b c d m o g k t z))):=by
 unfold sndE
 by_cases h0:(!z||nd_2_v5 y a b c d m o g k t z)=true
 ·rw [iP h0]; exact pu mdS (fun e=>[cl hsh,lg (@nd_2J y a b c d m o g k t z e),mg,av (.v (.bool (bif !z then true else nd_2_v5 y a b c d m o g k t z))) (.v (.bool (!z||nd_2_v5 y a b c d m o g k t z))) rF,bt1 h0]) func95
 ·rw [iN h0]
  have h0:=bFT h0
  by_cases h1:ctS_r0 y c d m o g k=false
  ·rw [iP h1]; exact pu mdS (fun e=>[cl hsh,lg (@nd_2J y a b c d m o g k t z e),mg,av (.v (.bool (bif !z then true else nd_2_v5 y a b c d m o g k t z))) (.v (.bool (!z||nd_2_v5 y a b c d m o g k t z))) rF,bf1 h0,cl (@ctS y a b c d m o g k t hA),bt1 (bnT h1)]) func95
  ·rw [iN h1]
   have h1:=bTF h1
   by_cases h2:nd_7_v92 y a b c d m o g k t=true
   ·rw [iP h2]; exact pu mdS (fun e=>[cl hsh,lg (@nd_2J y a b c d m o g k t z e),mg,av (.v (.bool (bif !z then true else nd_2_v5 y a b c d m o g k t z))) (.v (.bool (!z||nd_2_v5 y a b c d m o g k t z))) rF,bf1 h0,cl (@ctS y a b c d m o g k t hA),bf1 (bnF h1),lg (@nd_7J y a b c d m o g k t e),bt1 h2]) func95
   ·rw [iN h2]
    have h2:=bFT h2
    by_cases h3:nam_r0 y b=0
    ·rw [iP h3]
     by_cases h4:frE tyC_r0 (exT y)=0
     ·rw [iP h4]
      have h4:=(ndT_x (exT y)).1 h4
      by_cases h5:frE pmEr (exP y)=0
      ·rw [h5]; exact pu mdS (fun e=>[cl hsh,lg (@nd_2J y a b c d m o g k t z e),mg,av (.v (.bool (bif !z then true else nd_2_v5 y a b c d m o g k t z))) (.v (.bool (!z||nd_2_v5 y a b c d m o g k t z))) rF,bf1 h0,cl (@ctS y a b c d m o g k t hA),bf1 (bnF h1),lg (@nd_7J y a b c d m o g k t e),bf1 h2,cl (@nam y a b c d m o g k t hP hA hP2 hA2 hA3),nn1 h3,sl (Tp.cs_len (exT y)),lq (rz (ndT_lp (y) (a) (b) (c) (d) (m) (o) (g) (k) (t) (z) hsh hP hA hP2 hA2 hA3 htk (e) hT) h4),sl (Pm.cs_len (exP y)),lq (rz (ndP_lp (y) (a) (b) (c) (d) (m) (o) (g) (k) (t) (z) hsh hP hA hP2 hA2 hA3 htk hT hpk (e) hP) ((ndP_x (exP y)).1 h5))]) func95
      ·obtain ⟨w,e1,e2⟩:=(ndP_x (exP y)).2 h5
       rw [<-e2]; exact pu mdS (fun e=>[cl hsh,lg (@nd_2J y a b c d m o g k t z e),mg,av (.v (.bool (bif !z then true else nd_2_v5 y a b c d m o g k t z))) (.v (.bool (!z||nd_2_v5 y a b c d m o g k t z))) rF,bf1 h0,cl (@ctS y a b c d m o g k t hA),bf1 (bnF h1),lg (@nd_7J y a b c d m o g k t e),bf1 h2,cl (@nam y a b c d m o g k t hP hA hP2 hA2 hA3),nn1 h3,sl (Tp.cs_len (exT y)),lq (rz (ndT_lp (y) (a) (b) (c) (d) (m) (o) (g) (k) (t) (z) hsh hP hA hP2 hA2 hA3 htk (e) hT) h4),sl (Pm.cs_len (exP y)),lq (rz (ndP_lp (y) (a) (b) (c) (d) (m) (o) (g) (k) (t) (z) hsh hP hA hP2 hA2 hA3 htk hT hpk (e) hP) e1)]) func95
     ·rw [iN h4]
      obtain ⟨w,e1,e2⟩:=(ndT_x (exT y)).2 h4
      rw [<-e2]; exact pu mdS (fun e=>[cl hsh,lg (@nd_2J y a b c d m o g k t z e),mg,av (.v (.bool (bif !z then true else nd_2_v5 y a b c d m o g k t z))) (.v (.bool (!z||nd_2_v5 y a b c d m o g k t z))) rF,bf1 h0,cl (@ctS y a b c d m o g k t hA),bf1 (bnF h1),lg (@nd_7J y a b c d m o g k t e),bf1 h2,cl (@nam y a b c d m o g k t hP hA hP2 hA2 hA3),nn1 h3,sl (Tp.cs_len (exT y)),lq (rz (ndT_lp (y) (a) (b) (c) (d) (m) (o) (g) (k) (t) (z) hsh hP hA hP2 hA2 hA3 htk (e) hT) e1)]) func95
    ·rw [iN h3]; exact pu mdS (fun e=>[cl hsh,lg (@nd_2J y a b c d m o g k t z e),mg,av (.v (.bool (bif !z then true else nd_2_v5 y a b c d m o g k t z))) (.v (.bool (!z||nd_2_v5 y a b c d m o g k t z))) rF,bf1 h0,cl (@ctS y a b c d m o g k t hA),bf1 (bnF h1),lg (@nd_7J y a b c d m o g k t e),bf1 h2,cl (@nam y a b c d m o g k t hP hA hP2 hA2 hA3),nt1 h3]) func95
def snE(y:Ex):Int:=sndE y (shS_r0 (exO y)) (shS_r1 (exO y)) (shS_r2 (exO y)) (shS_r3 (exO y)) (shS_r4 (exO y)) (shS_r5 (exO y)) (shS_r6 (exO y)) (shS_r7 (exO y)) (shS_r8 (exO y)) (shS_r9 (exO y))
theorem al_bulk2(a:Al):bulkPss (nmsC (alNs a))+bulkPs (exL (alB a))<bulkPs (alL a):=by simp only [bulkPs,bulkP]; omega
theorem altN_bulk:∀l:List Al,altN l<=bulkPss (Al.cs l)
 | []=>Nat.zero_le _
 | a::r=>by
  have h1:=altN_bulk r
  have h2:=al_bulk2 a
  have h3:=nms_bulk (alNs a)
  rw [altN,show Al.cs (a::r)=alL a::Al.cs r by rw [Al.cs,Al.c_eq],bulkPss]
  omega
theorem snT(y:Ex)(hs:bulkPs (exL y)<=100000000):Pu 95 [.agg (exL y)] (.ret (.int .i64 (snE y))):=by
 have hb:=ex_bulk y
 have h1:=Pm.bulk (exP y)
 have h2:=Al.bulk (exA y)
 have h3:=Tp.bulk (exT y)
 have h4:=altN_bulk (exA y)
 exact sndT y _ _ _ _ _ _ _ _ _ _ (shS (exO y)) oM oM (by rw [bdA_e]; simp only [List.nil_append,List.length_map]; omega) (by rw [coA_e]; simp only [List.nil_append,List.length_map]; omega) oM
  (fun w hw=>tyC w (by have:=Tp.mem hw; omega)) oM (fun w hw=>tyC (pmT w) (by have:=Pm.mem hw; have:=pm_bulk w; omega))
theorem sx1(y:Ex)(n:Int)(hsn:Pu 95 [.agg (exL y)] (.ret (.int .i64 (snE y)))):Ef 94 [.agg (exL y),.xp 0 0] (cellI n) (rB (snE y==0)) ([(0,[vI6 (snE y)])]):=
 Ob.eff_of (mdI 61) 50 [Ans.pur (rI (snE y))] (sc':=[]) (l:=[Ob.pur 95 [.agg (exL y)] (rI (snE y))]) mixed func94 kR kR ⟨(@hsn),tVv⟩
def sxV:Ex->Int->Bool × Int:=fun w _=>(snE w==0,snE w)
theorem sxW(y:Ex)(hs:bulkPs (exL y)<=100000000):Ef 93 [.agg (exL y),.fn (.func 94) [] [.xp 0 0]] (cellI 0) (.ret (.bool (wkF sxV y 0).1)) (cellI (wkF sxV y 0).2):=wkT y _ _ cellI sxV 0 (fun w n h=>sx1 w n (snT w h)) hs
theorem noT(y:Ex)(hs:bulkPs (exL y)<=100000000):Pu 91 [.agg (exL y)] (.ret (.int .i64 (wkF noV y 0).2)):=Ob.pur_of_eff (noXA (Ex.nx y)) rfl (noL y hs)
theorem sxK_1(y:Ex)(hs:bulkPs (exL y)<=100000000)(hx0:Prod.snd (wkF noV y 0)>400):Ef 60 [.agg (exL y)] ([]) (rI 7) ([]):=
 Ob.eff_of (mdI 61) 50 [Ans.pur (rI (Prod.snd (wkF noV y 0))),Ans.bit true] (sc':=[]) (l:=[Ob.pur 91 [.agg (exL y)] (rI (Prod.snd (wkF noV y 0))),Ob.bit (decide (Prod.snd (wkF noV y 0)>400)) true]) mixed func60 kR kR ⟨(@noT (y) hs),(ob_bit (dT hx0)),tVv⟩
theorem sxK_2(y:Ex)(hs:bulkPs (exL y)<=100000000)(hx0:¬Prod.snd (wkF noV y 0)>400)(hx1:dpF y>40):Ef 60 [.agg (exL y)] ([]) (rI 8) ([]):=
 Ob.eff_of (mdI 61) 50 [Ans.pur (rI (Prod.snd (wkF noV y 0))),Ans.bit false,Ans.pur (rI (dpF y)),Ans.bit true] (sc':=[]) (l:=[Ob.pur 91 [.agg (exL y)] (rI (Prod.snd (wkF noV y 0))),Ob.bit (decide (Prod.snd (wkF noV y 0)>400)) false,Ob.pur 92 [.agg (exL y)] (rI (dpF y)),Ob.bit (decide (dpF y>40)) true]) mixed func60 kR kR ⟨(@noT (y) hs),(ob_bit (dF hx0)),(@dpT (y) hs),(ob_bit (dT hx1)),tVv⟩
theorem sxK_3(y:Ex)(hs:bulkPs (exL y)<=100000000)(hx0:¬Prod.snd (wkF noV y 0)>400)(hx1:¬dpF y>40):Ef 60 [.agg (exL y)] ([]) (rI (Prod.snd (wkF sxV y 0))) ([(0,[vI6 (Prod.snd (wkF sxV y 0))])]):=
 Ob.eff_of (mdI 61) 50 [Ans.pur (rI (Prod.snd (wkF noV y 0))),Ans.bit false,Ans.pur (rI (dpF y)),Ans.bit false,Ans.eff (rB (Prod.fst (wkF sxV y 0))) [(0,[vI6 (Prod.snd (wkF sxV y 0))])]] (sc':=[]) (l:=[Ob.pur 91 [.agg (exL y)] (rI (Prod.snd (wkF noV y 0))),Ob.bit (decide (Prod.snd (wkF noV y 0)>400)) false,Ob.pur 92 [.agg (exL y)] (rI (dpF y)),Ob.bit (decide (dpF y>40)) false,Ob.eff 93 [.agg (exL y),.fn (.func 94) [] [.xp 0 0]] [(0,[vI6 0])] (rB (Prod.fst (wkF sxV y 0))) [(0,[vI6 (Prod.snd (wkF sxV y 0))])]]) mixed func60 kR kR ⟨(@noT (y) hs),(ob_bit (dF hx0)),(@dpT (y) hs),(ob_bit (dF hx1)),(@sxW (y) hs),tVv⟩
def syE(y:Ex):Int:=if (wkF noV y 0).2>400 then 7 else if dpF y>40 then 8 else (wkF sxV y 0).2
theorem syT(y:Ex)(hs:bulkPs (exL y)<=100000000):Pu 60 [.agg (exL y)] (.ret (.int .i64 (syE y))):=by
 unfold syE
 by_cases h:(wkF noV y 0).2>400
 ·rw [iP h]; exact Ob.pur_of_eff (noXA (Ex.nx y)) rfl (sxK_1 y hs h)
 ·rw [iN h]
  by_cases h2:dpF y>40
  ·rw [iP h2]; exact Ob.pur_of_eff (noXA (Ex.nx y)) rfl (sxK_2 y hs h h2)
  ·rw [iN h2]; exact Ob.pur_of_eff (noXA (Ex.nx y)) rfl (sxK_3 y hs h h2)
def frS_r0(bg:Bool)(se:Int)(ri:Bool):Bool:=(if bg=true then (if se=0 then ri else false) else false)
theorem frS(m:Mo)(d:Df)(s:Sc)(bg:Bool)(hbg:Pu 31 [.agg (dfL d)] (.ret (.tup [.agg (scL s),.bool bg])))(se:Int)(hsy:Pu 60 [.agg (exL (dfB d))] (.ret (.int .i64 se)))(ri:Bool)(hri:Pu 61 [.agg (moL m),.agg (exL (dfB d)),.agg (scL s)] (.ret (.bool ri))):Pu 30 [.agg (moL m),.agg (dfL d)] (rB (frS_r0 bg se ri)):=by
 refine t0 ?_;refine tp [cl hbg] ?_;by_cases h0:bg=true
 ·refine tp [rp 3 (bt1 h0),cl hsy,rp 2 (bt1 h0)] ?_;by_cases h1:se=0
  ·simp only [frS_r0,iP h0,iP h1]; exact tM mdL [rp 5 (et1 h1),cl hri,et1 h1] func30
  ·simp only [frS_r0,iP h0,iN h1]; exact tM mdL [rp 6 (en1 h1)] func30
 ·simp only [frS_r0,iN h0]; exact tM mdL [rp 5 (bf1 (bFT h0)),rp 6 (bf false)] func30
abbrev ckA_I(m:Mo)(fb:Df->Bool)(j:Int)(e:Ext):S:=S.mk [(1,.lp 1 0),(7,vL 25 (Df.cs (moF m))),(8,vI6 ((moF m).length:Int)),(9,vI6 j)] [(1,moV m)] e
inductive ckA_R where
 | e0 (el:Df)
 | e1
def ckA_f(fb:Df->Bool):List Df->ckA_R
 | []=>(ckA_R.e1)
 | el::r=>(if dfM el=2 then (if fb el=false then (ckA_R.e0 el) else ckA_f fb r) else ckA_f fb r)
def ckA_q(m:Mo)(fb:Df->Bool)(e:Ext):ckA_R->PExit × S
 | .e0 el=>(.ret,S.mk [(1,.lp 1 0),(7,vL 25 (Df.cs (moF m))),(8,vI6 ((moF m).length:Int)),(2,vS (dfNm el)),(3,vI6 6)] [(1,moV m)] e)
 | .e1=>(.exit 0,S.mk [(1,.lp 1 0),(7,vL 25 (Df.cs (moF m))),(8,vI6 ((moF m).length:Int))] [(1,moV m)] e)
theorem ckA_lp(m:Mo)(fb:Df->Bool)(hfr:∀d:Df,d∈moF m->Pu 30 [.agg (moL m),.agg (dfL d)] (.ret (.bool (fb d))))(e:Ext)(hN:(moF m).length<=1000000000):(Ob.loop 25 (loopF f12 0) (ckA_I m fb 0  e) (ckA_q m fb e (ckA_f fb ((moF m)))).1 (ckA_q m fb e (ckA_f fb ((moF m)))).2).ok prog:=by
 refine rng ((moF m).length) (fun j _=>ckA_I m fb j  e) (fun i _=>ckA_f fb (List.drop i ((moF m)))) (ckA_q m fb e) (fun i _=>True) kR ?_ () trivial
 rintro i u hi -
 rcases Nat.lt_or_ge i ((moF m).length) with hlt | hge
 ·have hd:=drop_at hlt
  refine t0 ?_;refine tp [rgDf hlt] ?_;by_cases h0:dfM (List.getD (moF m) i default)=2
  ·refine tp [rp 3 (et1 h0),cl (@hfr (List.getD (moF m) i default) (by simp_all [Bool.not_eq_true,Bool.not_eq_false])),rp 2 (et1 h0)] ?_;by_cases h1:fb (List.getD (moF m) i default)=false
   ·exact tX mdL [bt1 (bnT h1)] (ckA_R.e0 (List.getD ((moF m)) i default)) (by rw [hd,ckA_f,iP h0,iP h1])
   ·exact tN mdL [bf1 (bnF (bTF h1)),wr ((i:Int)+1)] hlt () trivial (by rw [hd,ckA_f,iP h0,iN h1])
  ·exact tN mdL [rp 5 (en1 h0),bf false,wr ((i:Int)+1)] hlt () trivial (by rw [hd,ckA_f,iN h0])
 ·have he:i=(moF m).length:=by omega
  exact lX mdL [df ((i:Int)<((moF m).length:Int))] (ckA_R.e1) (by rw [he,List.drop_length,ckA_f])
section
variable (m:Mo) (fb:Df->Bool) (hfr:∀d:Df,d∈moF m->Pu 30 [.agg (moL m),.agg (dfL d)] (.ret (.bool (fb d)))) (hN:(moF m).length<=1000000000)
include m fb hfr hN
theorem ckL_1(hy0:Df)(hx1:ckA_f fb (moF m)=ckA_R.e0 hy0):Pu 12 [.agg (moL m)] (.ret (.tup [.str (dfNm hy0),pI 6])):=
 pu mdL (fun e=>[sl (Df.cs_len (moF m)),lq (rz (ckA_lp (m) (fb) hfr (e) hN) hx1)]) func12
theorem ckL_2(hx0:ckA_f fb (moF m)=ckA_R.e1):Pu 12 [.agg (moL m)] (.ret (.tup [.str nm0,pI 0])):=
 pu mdL (fun e=>[sl (Df.cs_len (moF m)),lq (rz (ckA_lp (m) (fb) hfr (e) hN) hx0)]) func12
end
abbrev caA_I(m:Mo)(d:Df)(s:Sc)(bg:Bool)(ls:List Pa)(j:Int)(cs ts:List Pr)(e:Ext):S:=S.mk [(11,.uniq 46 4 (Pr.cs cs)),(12,.uniq 46 4 (Pr.cs ts)),(39,vL 8 (Pa.cs ls)),(40,vI6 (ls.length:Int)),(41,vI6 j)] [] e
section
variable (m:Mo) (d:Df) (hfr:Pu 30 [.agg (moL m),.agg (dfL d)] (.ret (.bool true))) (s:Sc) (bg:Bool) (hbg:Pu 31 [.agg (dfL d)] (.ret (.tup [.agg (scL s),.bool bg]))) (ls:List Pa) (hpk:Pu 32 [.agg (moL m),.agg (exL (dfB d)),.agg (scL s)] (.ret (.tup [.sl 8 (Pa.cs ls),.bool true]))) (hls:paS ls) (i:Nat) (cs ts:List Pr) (e:Ext)
include m d hfr s bg hbg ls hpk hls i cs ts e
theorem caA_b1(hi:i<ls.length)(hN:ls.length<=1000000000)(hv:(cs.length<=i/\ts.length<=i))(hx0:¬pcE (paC (List.getD ls i default))=0)(cx:Cx)(hcx:cx.n=68){Q:PExit->S->Prop}(hq:Q (.ret) (S.mk [(11,.uniq 46 4 (Pr.cs cs)),(12,.uniq 46 4 (Pr.cs ts)),(39,vL 8 (Pa.cs ls)),(40,vI6 (ls.length:Int)),(41,vI6 (i:Int)),(4,.v .nilsl),(5,.v .nilsl),(6,vI6 7)] [] e)):PW prog cx (loopF f13 0) (caA_I m d s bg ls (i:Int) cs ts e) Q:=
 pw mdL 68 [rgPa hi,cl (@pcS (paC (List.getD ls i default)) (by (apply gC1 <;> first | assumption | omega | decide))),rp 5 (nt1 hx0),bt true] [11,12,39,40,41,4,5,6] [] hcx hq
theorem caA_b2(hi:i<ls.length)(hN:ls.length<=1000000000)(hv:(cs.length<=i/\ts.length<=i))(hx0:pcE (paC (List.getD ls i default))=0)(hx1:¬pcE (paT (List.getD ls i default))=0)(cx:Cx)(hcx:cx.n=68){Q:PExit->S->Prop}(hq:Q (.ret) (S.mk [(11,.uniq 46 4 (Pr.cs cs)),(12,.uniq 46 4 (Pr.cs ts)),(39,vL 8 (Pa.cs ls)),(40,vI6 (ls.length:Int)),(41,vI6 (i:Int)),(4,.v .nilsl),(5,.v .nilsl),(6,vI6 7)] [] e)):PW prog cx (loopF f13 0) (caA_I m d s bg ls (i:Int) cs ts e) Q:=
 pw mdL 68 [rgPa hi,cl (@pcS (paC (List.getD ls i default)) (by (apply gC1 <;> first | assumption | omega | decide))),rp 3 (nn1 hx0),cl (@pcS (paT (List.getD ls i default)) (by (apply gC2 <;> first | assumption | omega | decide))),rp 2 (nn1 hx0),nt1 hx1] [11,12,39,40,41,4,5,6] [] hcx hq
theorem caA_b3(hi:i<ls.length)(hN:ls.length<=1000000000)(hv:(cs.length<=i/\ts.length<=i))(hx0:pcE (paC (List.getD ls i default))=0)(hx1:pcE (paT (List.getD ls i default))=0)(cx:Cx)(hcx:cx.n=68){Q:PExit->S->Prop}(hq:Q (.normal) (S.mk [(11,.uniq 46 4 (Pr.cs cs++[prL (paC (List.getD ls i default))])),(12,.uniq 46 4 (Pr.cs ts++[prL (paT (List.getD ls i default))])),(39,vL 8 (Pa.cs ls)),(40,vI6 (ls.length:Int)),(41,vI6 ((i:Int)+1))] [] e)):PW prog cx (loopF f13 0) (caA_I m d s bg ls (i:Int) cs ts e) Q:=
 pw mdL 68 [rgPa hi,cl (@pcS (paC (List.getD ls i default)) (by (apply gC1 <;> first | assumption | omega | decide))),rp 3 (nn1 hx0),cl (@pcS (paT (List.getD ls i default)) (by (apply gC2 <;> first | assumption | omega | decide))),rp 2 (nn1 hx0),nn1 hx1,am (List.length (Pr.cs cs++[prL (paC (List.getD ls i default))]) * (55+1)<=140737488355328) (by (simp only [List.length_append,List.length_cons,List.length_nil,Pr.cs_len]; omega)),am (List.length (Pr.cs ts++[prL (paT (List.getD ls i default))]) * (55+1)<=140737488355328) (by (simp only [List.length_append,List.length_cons,List.length_nil,Pr.cs_len]; omega)),wr ((i:Int)+1)] [11,12,39,40,41,4,5,6] [] hcx hq
theorem caA_z1(hi:i=ls.length)(hN:ls.length<=1000000000)(hv:(cs.length<=i/\ts.length<=i))(cx:Cx)(hcx:cx.n=68){Q:PExit->S->Prop}(hq:Q (.exit 0) (S.mk [(11,.uniq 46 4 (Pr.cs cs)),(12,.uniq 46 4 (Pr.cs ts)),(39,vL 8 (Pa.cs ls)),(40,vI6 (ls.length:Int)),(41,vI6 (i:Int))] [] e)):PW prog cx (loopF f13 0) (caA_I m d s bg ls (i:Int) cs ts e) Q:=
 pw mdL 68 [df ((i:Int)<(ls.length:Int))] [11,12,39,40,41,4,5,6] [] hcx hq
end
inductive caA_R where
 | e0 (cs:List Pr) (ts:List Pr)
 | e1 (cs:List Pr) (ts:List Pr)
def caA_f  : List Pa->(List Pr)->(List Pr)->caA_R
 | [],cs,ts=>(caA_R.e1 cs ts)
 | el::r,cs,ts=>(if pcE (paC el)=0 then (if pcE (paT el)=0 then caA_f  r (cs++[paC el]) (ts++[paT el]) else (caA_R.e0 cs ts)) else (caA_R.e0 cs ts))
def caA_q(m:Mo)(d:Df)(s:Sc)(bg:Bool)(ls:List Pa)(e:Ext):caA_R->PExit × S
 | .e0 cs ts=>(.ret,S.mk [(11,.uniq 46 4 (Pr.cs cs)),(12,.uniq 46 4 (Pr.cs ts)),(39,vL 8 (Pa.cs ls)),(40,vI6 (ls.length:Int)),(4,.v .nilsl),(5,.v .nilsl),(6,vI6 7)] [] e)
 | .e1 cs ts=>(.exit 0,S.mk [(11,.uniq 46 4 (Pr.cs cs)),(12,.uniq 46 4 (Pr.cs ts)),(39,vL 8 (Pa.cs ls)),(40,vI6 (ls.length:Int))] [] e)
theorem caA_lp(m:Mo)(d:Df)(hfr:Pu 30 [.agg (moL m),.agg (dfL d)] (.ret (.bool true)))(s:Sc)(bg:Bool)(hbg:Pu 31 [.agg (dfL d)] (.ret (.tup [.agg (scL s),.bool bg])))(ls:List Pa)(hpk:Pu 32 [.agg (moL m),.agg (exL (dfB d)),.agg (scL s)] (.ret (.tup [.sl 8 (Pa.cs ls),.bool true])))(hls:paS ls)(e:Ext)(hN:ls.length<=1000000000)(i:Nat)(cs ts:List Pr)(hi0:i<=ls.length)(hv:(cs.length<=i/\ts.length<=i)):(Ob.loop 68 (loopF f13 0) (caA_I m d s bg ls (i:Int) cs ts e) (caA_q m d s bg ls e (caA_f  (List.drop i (ls))  cs ts)).1 (caA_q m d s bg ls e (caA_f  (List.drop i (ls))  cs ts)).2).ok prog:=by
 refine Ob.loop_of (P:=prog) (α:={ zz:Nat × (List Pr) × (List Pr) // zz.1<=ls.length/\(fun (i:Nat) (cs ts:List Pr)=>(cs.length<=i/\ts.length<=i)) zz.1 zz.2.1 zz.2.2 }) (fun zz=>caA_I m d s bg ls (zz.1.1:Int) zz.1.2.1 zz.1.2.2 e) (fun zz=>ls.length - zz.1.1) (fun zz=>(caA_q m d s bg ls e (caA_f  (List.drop zz.1.1 (ls))  zz.1.2.1 zz.1.2.2))) ?_ ⟨(i,cs,ts),hi0,hv⟩
 clear hi0 hv
 clear cs ts i
 rintro ⟨⟨i,cs,ts⟩,hi,hv⟩ cx hcx
 simp only at hi hv ⊢
 rcases Nat.lt_or_ge i (ls.length) with hlt | hge
 ·have hd:=drop_at hlt
  by_cases h0:pcE (paC (List.getD ls i default))=0
  ·by_cases h1:pcE (paT (List.getD ls i default))=0
   ·have hr:(caA_f  (List.drop i (ls))  cs ts)=(caA_f  (List.drop (i+1) (ls))  (cs++[paC (List.getD ls i default)]) (ts++[paT (List.getD ls i default)])):=by rw [hd,caA_f,iP h0,iP h1]
    exact caA_b3 m d hfr s bg hbg ls hpk hls i cs ts e hlt hN hv h0 h1 cx hcx (.inl ⟨rfl,⟨((i+1),(cs++[paC (List.getD ls i default)]),(ts++[paT (List.getD ls i default)])),by simp only; omega,(by first | assumption | omega | (apply gDf <;> first | assumption | omega | decide) | (apply gPa <;> first | assumption | omega | decide) | (apply gC1 <;> first | assumption | omega | decide) | (apply gC2 <;> first | assumption | omega | decide) | (simp only [List.length_append,List.length_cons,List.length_nil] at *; omega) | simp_all)⟩,by simp only; omega,⟨⟨(.inl (by first | (simp only [List.nil_append,nmsC_app,nmsC_snoc,Pr.cs_snoc,Tp.cs_snoc,Ex.cs_snoc,Vr.cs_snoc,Df.cs_snoc,Pa.cs_snoc]; done) | (simp only [List.nil_append,nmsC_app,nmsC_snoc,Pr.cs_snoc,Tp.cs_snoc,Ex.cs_snoc,Vr.cs_snoc,Df.cs_snoc,Pa.cs_snoc]; rfl))),(.inl (by first | (simp only [List.nil_append,nmsC_app,nmsC_snoc,Pr.cs_snoc,Tp.cs_snoc,Ex.cs_snoc,Vr.cs_snoc,Df.cs_snoc,Pa.cs_snoc]; done) | (simp only [List.nil_append,nmsC_app,nmsC_snoc,Pr.cs_snoc,Tp.cs_snoc,Ex.cs_snoc,Vr.cs_snoc,Df.cs_snoc,Pa.cs_snoc]; rfl))),W,W,W,tVv⟩,trivial,rfl⟩,by simp only; rw [hr]⟩)
   ·have hr:(caA_f  (List.drop i (ls))  cs ts)=(caA_R.e0 cs ts):=by rw [hd,caA_f,iP h0,iN h1]
    refine caA_b2 m d hfr s bg hbg ls hpk hls i cs ts e hlt hN hv h0 h1 cx hcx (.inr ?_)
    rw [hr]
    exact ⟨by simp,rfl,xr⟩
  ·have hr:(caA_f  (List.drop i (ls))  cs ts)=(caA_R.e0 cs ts):=by rw [hd,caA_f,iN h0]
   refine caA_b1 m d hfr s bg hbg ls hpk hls i cs ts e hlt hN hv h0 cx hcx (.inr ?_)
   rw [hr]
   exact ⟨by simp,rfl,xr⟩
 ·have he:i=ls.length:=by omega
  subst he
  have hr:(caA_f  (List.drop (ls.length) (ls))  cs ts)=(caA_R.e1 cs ts):=by rw [List.drop_length,caA_f]
  refine caA_z1 m d hfr s bg hbg ls hpk hls (ls.length) cs ts e rfl hN hv  cx hcx (.inr ?_)
  rw [hr]
  exact ⟨by simp,rfl,xr⟩
theorem caA_0(m:Mo)(d:Df)(hfr:Pu 30 [.agg (moL m),.agg (dfL d)] (.ret (.bool true)))(s:Sc)(bg:Bool)(hbg:Pu 31 [.agg (dfL d)] (.ret (.tup [.agg (scL s),.bool bg])))(ls:List Pa)(hpk:Pu 32 [.agg (moL m),.agg (exL (dfB d)),.agg (scL s)] (.ret (.tup [.sl 8 (Pa.cs ls),.bool true])))(hls:paS ls)(cs ts:List Pr)(e:Ext)(hN:ls.length<=1000000000)(hv:List.length cs<=0/\List.length ts<=0)(p0:List Pr)(p1:List Pr)(hres:(caA_f  (ls)  cs ts)=(caA_R.e0 p0 p1)):(Ob.loop 68 (loopF f13 0) (caA_I m d s bg ls 0 cs ts e) (caA_q m d s bg ls e (caA_R.e0 p0 p1)).1 (caA_q m d s bg ls e (caA_R.e0 p0 p1)).2).ok prog:=by
 have:=caA_lp m d hfr s bg hbg ls hpk hls e hN 0 cs ts (Nat.zero_le _) hv
 rw [List.drop_zero] at this
 rw [hres] at this
 exact this
theorem caA_1(m:Mo)(d:Df)(hfr:Pu 30 [.agg (moL m),.agg (dfL d)] (.ret (.bool true)))(s:Sc)(bg:Bool)(hbg:Pu 31 [.agg (dfL d)] (.ret (.tup [.agg (scL s),.bool bg])))(ls:List Pa)(hpk:Pu 32 [.agg (moL m),.agg (exL (dfB d)),.agg (scL s)] (.ret (.tup [.sl 8 (Pa.cs ls),.bool true])))(hls:paS ls)(cs ts:List Pr)(e:Ext)(hN:ls.length<=1000000000)(hv:List.length cs<=0/\List.length ts<=0)(p0:List Pr)(p1:List Pr)(hres:(caA_f  (ls)  cs ts)=(caA_R.e1 p0 p1)):(Ob.loop 68 (loopF f13 0) (caA_I m d s bg ls 0 cs ts e) (caA_q m d s bg ls e (caA_R.e1 p0 p1)).1 (caA_q m d s bg ls e (caA_R.e1 p0 p1)).2).ok prog:=by
 have:=caA_lp m d hfr s bg hbg ls hpk hls e hN 0 cs ts (Nat.zero_le _) hv
 rw [List.drop_zero] at this
 rw [hres] at this
 exact this
theorem caM(m:Mo)(d:Df)(hmd:¬dfM d=2):Pu 13 [.agg (moL m),.agg (dfL d)] (.ret (.tup [.sl 4 [],.sl 4 [],pI 6])):=
 Ob.pur_wk (Wk.t (kn 4 (kn 4 (WkL.r _)))) (pm mdL [rp 5 (nt (dfM d) 2 hmd),bt true] func13)
theorem caN(m:Mo)(d:Df)(hmd:dfM d=2)(hfr:Pu 30 [.agg (moL m),.agg (dfL d)] (.ret (.bool false))):Pu 13 [.agg (moL m),.agg (dfL d)] (.ret (.tup [.sl 4 [],.sl 4 [],pI 6])):=
 Ob.pur_wk (Wk.t (kn 4 (kn 4 (WkL.r _)))) (pm mdL [rp 3 (nn (dfM d) 2 hmd),cl hfr,rp 2 (nn (dfM d) 2 hmd),bt true] func13)
theorem caO(m:Mo)(d:Df)(hmd:dfM d=2)(hfr:Pu 30 [.agg (moL m),.agg (dfL d)] (.ret (.bool true)))(s:Sc)(bg:Bool)(hbg:Pu 31 [.agg (dfL d)] (.ret (.tup [.agg (scL s),.bool bg])))(ls:List Pa)(hpk:Pu 32 [.agg (moL m),.agg (exL (dfB d)),.agg (scL s)] (.ret (.tup [.sl 8 (Pa.cs ls),.bool false]))):Pu 13 [.agg (moL m),.agg (dfL d)] (.ret (.tup [.sl 4 [],.sl 4 [],pI 7])):=
 Ob.pur_wk (Wk.t (kn 4 (kn 4 (WkL.r _)))) (pm mdL [rp 3 (nn (dfM d) 2 hmd),cl hfr,rp 2 (nn (dfM d) 2 hmd),bf false,cl hbg,cl hpk,bt true] func13)
theorem caL_1(m:Mo)(d:Df)(hmd:dfM d=2)(hfr:Pu 30 [.agg (moL m),.agg (dfL d)] (.ret (.bool true)))(s:Sc)(bg:Bool)(hbg:Pu 31 [.agg (dfL d)] (.ret (.tup [.agg (scL s),.bool bg])))(ls:List Pa)(hpk:Pu 32 [.agg (moL m),.agg (exL (dfB d)),.agg (scL s)] (.ret (.tup [.sl 8 (Pa.cs ls),.bool true])))(hls:paS ls)(hlN:ls.length<=1000000000)(hy0:List Pr)(hy1:List Pr)(hx2:caA_f ls [] []=caA_R.e0 hy0 hy1):Pu 13 [.agg (moL m),.agg (dfL d)] (.ret (.tup [.sl 4 [],.sl 4 [],pI 7])):=
 Ob.pur_wk (Wk.t (kn 4 (kn 4 (WkL.r _)))) (pu mdL (fun e=>[rp 3 (nn (dfM d) 2 hmd),cl hfr,rp 2 (nn (dfM d) 2 hmd),bf false,cl hbg,cl hpk,bf false,sl (Pa.cs_len ls),lp (S.mk [(11,.v .nilsl),(12,.v .nilsl),(39,vL 8 (Pa.cs ls)),(40,vI6 (ls.length:Int)),(41,vI6 0)] [] e) (@caA_0 m d hfr s bg hbg ls hpk hls ([]) ([]) e hlN dD hy0 hy1 hx2) ⟨⟨Wq,Wq,W,W,W,tVv⟩,trivial,rfl⟩]) func13)
theorem caL_2(m:Mo)(d:Df)(hmd:dfM d=2)(hfr:Pu 30 [.agg (moL m),.agg (dfL d)] (.ret (.bool true)))(s:Sc)(bg:Bool)(hbg:Pu 31 [.agg (dfL d)] (.ret (.tup [.agg (scL s),.bool bg])))(ls:List Pa)(hpk:Pu 32 [.agg (moL m),.agg (exL (dfB d)),.agg (scL s)] (.ret (.tup [.sl 8 (Pa.cs ls),.bool true])))(hls:paS ls)(hlN:ls.length<=1000000000)(hy0:List Pr)(hy1:List Pr)(hx2:caA_f ls [] []=caA_R.e1 hy0 hy1):Pu 13 [.agg (moL m),.agg (dfL d)] (.ret (.tup [.sl 4 (Pr.cs hy0),.sl 4 (Pr.cs hy1),pI 0])):=
 pu mdL (fun e=>[rp 3 (nn (dfM d) 2 hmd),cl hfr,rp 2 (nn (dfM d) 2 hmd),bf false,cl hbg,cl hpk,bf false,sl (Pa.cs_len ls),lp (S.mk [(11,.v .nilsl),(12,.v .nilsl),(39,vL 8 (Pa.cs ls)),(40,vI6 (ls.length:Int)),(41,vI6 0)] [] e) (@caA_1 m d hfr s bg hbg ls hpk hls ([]) ([]) e hlN dD hy0 hy1 hx2) ⟨⟨Wq,Wq,W,W,W,tVv⟩,trivial,rfl⟩]) func13
def frF(m:Mo)(d:Df):Bool:=frS_r0 (bgB d) (syE (dfB d)) (riD m 1000000001 (dfB d) (bgF d))
theorem frT(m:Mo)(d:Df)(hN:(moF m).length<=1000000000)(hd:bulkPs (dfL d)<=100000000):Pu 30 [.agg (moL m),.agg (dfL d)] (.ret (.bool (frF m d))):=by
 have h1:=df_le d
 exact frS m d (bgF d) (bgB d) (bgT d hd) (syE (dfB d)) (syT _ oM) _ (ri_ok m hN 1000000001 (dfB d) (bgF d) oM oM (bgF_keys d))
theorem frF_ok{m:Mo}{d:Df}(h:frF m d=true):okD 1000000001 (dfB d)=true:=by
 unfold frF frS_r0 at h
 split at h
 ·split at h
  ·exact okD_of m _ _ _ h
  ·cases h
 ·cases h
theorem be0_S(u:Tp):∀ (l:List BA) (i:Nat) (s:Sc),scS s->scS (be0_f u l i s)
 | [],i,s,h=>h
 | x::r,i,s,h=>be0_S u r (i+1) _ (scW_S (prS_mk sM sM) h)
theorem bgF_S(d:Df):scS (bgF d):=by
 unfold bgF
 split
 ·exact be0_S _ _ _ _ (fun x hx=>by cases hx)
 ·exact fun x hx=>by cases hx
def ckF(m:Mo):BA × Int:=match ckA_f (frF m) (moF m) with
 | .e0 d=>(dfNm d,6)
 | .e1=>(nm0,0)
theorem ckT(m:Mo)(hm:bulkPs (moL m)<=100000000):Pu 12 [.agg (moL m)] (.ret (.tup [.str (ckF m).1,.int .i64 (ckF m).2])):=by
 have h1:=moF_blk m
 have h2:=Df.bulk (moF m)
 have hf:∀d:Df,d∈moF m->Pu 30 [.agg (moL m),.agg (dfL d)] (.ret (.bool (frF m d))):=fun d hd=>frT m d oM (by have:=Df.mem hd; omega)
 unfold ckF
 cases h:ckA_f (frF m) (moF m) with
 | e0 d=>exact ckL_1 m (frF m) hf oM d h
 | e1=>exact ckL_2 m (frF m) hf oM h
def caF(m:Mo)(d:Df):List Pr × List Pr × Int:=
 if dfM d=2 then
  if frF m d=true then
   if (pkD m 1000000001 (dfB d) (bgF d)).2=true then match caA_f (pkD m 1000000001 (dfB d) (bgF d)).1 [] [] with
    | .e0 _ _=>([],[],7)
    | .e1 cs ts=>(cs,ts,0)
   else ([],[],7)
  else ([],[],6)
 else ([],[],6)
theorem caT(m:Mo)(d:Df)(hm:bulkPs (moL m)<=100000000)(hd:bulkPs (dfL d)<=100000000):Pu 13 [.agg (moL m),.agg (dfL d)] (.ret (.tup [.sl 4 (Pr.cs (caF m d).1),.sl 4 (Pr.cs (caF m d).2.1),.int .i64 (caF m d).2.2])):=by
 have h1:=moF_blk m
 have h2:=Df.bulk (moF m)
 have h3:=df_le d
 have hfr:=frT m d oM hd
 unfold caF
 by_cases hmd:dfM d=2
 case neg=>rw [iN hmd]; exact caM m d hmd
 rw [iP hmd]
 cases hf:frF m d with
 | false=>
  rw [hf] at hfr
  exact caN m d hmd hfr
 | true=>
  rw [hf] at hfr
  have hok:=frF_ok hf
  have hpk:=pk_ok m oM 1000000001 (dfB d) (bgF d) oM hok (bgF_keys d) (bgF_S d)
  have hg:=pkD_G m 1000000001 (dfB d) (bgF d) oM hok (bgF_S d)
  rw [iP rfl]
  cases hb:(pkD m 1000000001 (dfB d) (bgF d)).2 with
  | false=>
   rw [hb] at hpk
   exact caO m d hmd hfr _ _ (bgT d hd) _ hpk
  | true=>
   rw [hb] at hpk
   rw [iP rfl]
   have hl:(pkD m 1000000001 (dfB d) (bgF d)).1.length<=1000000000:=Nat.le_trans hg.1.1 dD
   cases hc:caA_f (pkD m 1000000001 (dfB d) (bgF d)).1 [] [] with
   | e0 cs ts=>exact caL_1 m d hmd hfr _ _ (bgT d hd) _ hpk hg.2 hl cs ts hc
   | e1 cs ts=>exact caL_2 m d hmd hfr _ _ (bgT d hd) _ hpk hg.2 hl cs ts hc
theorem ca_6(m:Mo)(d:Df)(hmd:dfM d=2):(caF m d).2.2=6↔frF m d=false:=by
 unfold caF
 rw [iP hmd]
 cases frF m d with
 | false=>simp
 | true=>
  rw [iP rfl]
  split
  ·split <;> simp
  ·simp
end Go.Proofs.YtaakmholhliodaaGreatDoor
