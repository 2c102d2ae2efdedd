/- Values of Go as plain data, an evaluator over them, and what the functions of the program return; part Yh. -/
import Derived.Test.YtaakmholhliodaaGreatDoorYg
import Derived.Test.YtaakmholhliodaaGreatDoorYb
import Derived.Test.YtaakmholhliodaaGreatDoorXh
import Derived.Test.YtaakmholhliodaaGreatDoorYf
import Derived.Test.YtaakmholhliodaaGreatDoorYa
set_option linter.unusedSectionVars false
set_option linter.unusedSimpArgs false
set_option linter.unusedVariables false
namespace Go.Proofs.YtaakmholhliodaaGreatDoor
open Go.Proofs.Tryz
open Go.Pv Go.Proofs.Tryz
set_option maxRecDepth 100000
theorem n13_h{u:Pr}(h:¬nd_4_v58 u (pkS_r0 (prO u)) (pkS_r1 (prO u))=true):prO u=8->0<(prK u).length:=fun h8=>by
 rcases Nat.eq_zero_or_pos (prK u).length with h0 | h0
 ·exfalso; apply h
  simp only [nd_4_v58,pnS_r0,pkS_r0,pkS_r1,h8,h0]
  simp
 ·exact h0
theorem n13_h2{u:Pr}(h:nd_4_v58 u (pkS_r0 (prO u)) (pkS_r1 (prO u))=false):prO u=8->0<(prK u).length:=n13_h (by rw [h]; decide)
def mdP:Md:=⟨fun _=>some false,fun t=>t==1000001||t==1000004||t==1000006||t==1000008||t==1000009||t==1000010||t==1000011||t==1000013⟩
section
variable (u:Pr) (hx0:nd_1_v14 u=false) (hx1:nd_4_v58 u (pkS_r0 (prO u)) (pkS_r1 (prO u))=false) (hx2:nd_6_v82 u (pkS_r0 (prO u)) (pkS_r1 (prO u))=false)
include u hx0 hx1 hx2
theorem pnd_5(hx3:nd_8_v91 u (pkS_r0 (prO u)) (pkS_r1 (prO u))=true)(hx4:nd_11_v118 u (pkS_r0 (prO u)) (pkS_r1 (prO u)) (nd_9_v5 u (pkS_r0 (prO u)) (pkS_r1 (prO u))) (nd_10_v6 u (pkS_r0 (prO u)) (pkS_r1 (prO u)) (nd_9_v5 u (pkS_r0 (prO u)) (pkS_r1 (prO u))))=false)(hx5:nd_13a_v129 u (pkS_r0 (prO u)) (pkS_r1 (prO u)) (nd_9_v5 u (pkS_r0 (prO u)) (pkS_r1 (prO u))) (nd_10_v6 u (pkS_r0 (prO u)) (pkS_r1 (prO u)) (nd_9_v5 u (pkS_r0 (prO u)) (pkS_r1 (prO u))))=true):Pu 75 [.agg (prL u)] (rI 6):=
 pu mdP (fun e=>[lg (@nd_1J u e),bf1 hx0,cl (@pkS (prO u)),lg (@nd_4J u (pkS_r0 (prO u)) (pkS_r1 (prO u)) e),bf1 hx1,lg (@nd_6J u (pkS_r0 (prO u)) (pkS_r1 (prO u)) e),bf1 hx2,lg (@nd_8J u (pkS_r0 (prO u)) (pkS_r1 (prO u)) e),bt1 hx3,lg (@nd_9J u (pkS_r0 (prO u)) (pkS_r1 (prO u)) e),lg (@nd_10J u (pkS_r0 (prO u)) (pkS_r1 (prO u)) (nd_9_v5 u (pkS_r0 (prO u)) (pkS_r1 (prO u))) e),lg (@nd_11J u (pkS_r0 (prO u)) (pkS_r1 (prO u)) (nd_9_v5 u (pkS_r0 (prO u)) (pkS_r1 (prO u))) (nd_10_v6 u (pkS_r0 (prO u)) (pkS_r1 (prO u)) (nd_9_v5 u (pkS_r0 (prO u)) (pkS_r1 (prO u)))) e),bf1 hx4,lg (@nd_13aJ u (pkS_r0 (prO u)) (pkS_r1 (prO u)) (nd_9_v5 u (pkS_r0 (prO u)) (pkS_r1 (prO u))) (nd_10_v6 u (pkS_r0 (prO u)) (pkS_r1 (prO u)) (nd_9_v5 u (pkS_r0 (prO u)) (pkS_r1 (prO u)))) (by (apply n13_h2 <;> first | assumption | omega | decide)) e),bt1 hx5]) func75
theorem pnd_6(hx3:nd_8_v91 u (pkS_r0 (prO u)) (pkS_r1 (prO u))=true)(hx4:nd_11_v118 u (pkS_r0 (prO u)) (pkS_r1 (prO u)) (nd_9_v5 u (pkS_r0 (prO u)) (pkS_r1 (prO u))) (nd_10_v6 u (pkS_r0 (prO u)) (pkS_r1 (prO u)) (nd_9_v5 u (pkS_r0 (prO u)) (pkS_r1 (prO u))))=false)(hx5:nd_13a_v129 u (pkS_r0 (prO u)) (pkS_r1 (prO u)) (nd_9_v5 u (pkS_r0 (prO u)) (pkS_r1 (prO u))) (nd_10_v6 u (pkS_r0 (prO u)) (pkS_r1 (prO u)) (nd_9_v5 u (pkS_r0 (prO u)) (pkS_r1 (prO u))))=false):Pu 75 [.agg (prL u)] (rI 0):=
 pu mdP (fun e=>[lg (@nd_1J u e),bf1 hx0,cl (@pkS (prO u)),lg (@nd_4J u (pkS_r0 (prO u)) (pkS_r1 (prO u)) e),bf1 hx1,lg (@nd_6J u (pkS_r0 (prO u)) (pkS_r1 (prO u)) e),bf1 hx2,lg (@nd_8J u (pkS_r0 (prO u)) (pkS_r1 (prO u)) e),bt1 hx3,lg (@nd_9J u (pkS_r0 (prO u)) (pkS_r1 (prO u)) e),lg (@nd_10J u (pkS_r0 (prO u)) (pkS_r1 (prO u)) (nd_9_v5 u (pkS_r0 (prO u)) (pkS_r1 (prO u))) e),lg (@nd_11J u (pkS_r0 (prO u)) (pkS_r1 (prO u)) (nd_9_v5 u (pkS_r0 (prO u)) (pkS_r1 (prO u))) (nd_10_v6 u (pkS_r0 (prO u)) (pkS_r1 (prO u)) (nd_9_v5 u (pkS_r0 (prO u)) (pkS_r1 (prO u)))) e),bf1 hx4,lg (@nd_13aJ u (pkS_r0 (prO u)) (pkS_r1 (prO u)) (nd_9_v5 u (pkS_r0 (prO u)) (pkS_r1 (prO u))) (nd_10_v6 u (pkS_r0 (prO u)) (pkS_r1 (prO u)) (nd_9_v5 u (pkS_r0 (prO u)) (pkS_r1 (prO u)))) (by (apply n13_h2 <;> first | assumption | omega | decide)) e),bf1 hx5]) func75
theorem pnd_7(hx3:nd_8_v91 u (pkS_r0 (prO u)) (pkS_r1 (prO u))=false)(hx4:nd_13b_v129 u (pkS_r0 (prO u)) (pkS_r1 (prO u)) (nd_8_v91 u (pkS_r0 (prO u)) (pkS_r1 (prO u)))=true):Pu 75 [.agg (prL u)] (rI 6):=
 pu mdP (fun e=>[lg (@nd_1J u e),bf1 hx0,cl (@pkS (prO u)),lg (@nd_4J u (pkS_r0 (prO u)) (pkS_r1 (prO u)) e),bf1 hx1,lg (@nd_6J u (pkS_r0 (prO u)) (pkS_r1 (prO u)) e),bf1 hx2,lg (@nd_8J u (pkS_r0 (prO u)) (pkS_r1 (prO u)) e),bf1 hx3,lg (@nd_13bJ u (pkS_r0 (prO u)) (pkS_r1 (prO u)) (nd_8_v91 u (pkS_r0 (prO u)) (pkS_r1 (prO u))) (by (apply n13_h2 <;> first | assumption | omega | decide)) e),bt1 hx4]) func75
theorem pnd_8(hx3:nd_8_v91 u (pkS_r0 (prO u)) (pkS_r1 (prO u))=false)(hx4:nd_13b_v129 u (pkS_r0 (prO u)) (pkS_r1 (prO u)) (nd_8_v91 u (pkS_r0 (prO u)) (pkS_r1 (prO u)))=false):Pu 75 [.agg (prL u)] (rI 0):=
 pu mdP (fun e=>[lg (@nd_1J u e),bf1 hx0,cl (@pkS (prO u)),lg (@nd_4J u (pkS_r0 (prO u)) (pkS_r1 (prO u)) e),bf1 hx1,lg (@nd_6J u (pkS_r0 (prO u)) (pkS_r1 (prO u)) e),bf1 hx2,lg (@nd_8J u (pkS_r0 (prO u)) (pkS_r1 (prO u)) e),bf1 hx3,lg (@nd_13bJ u (pkS_r0 (prO u)) (pkS_r1 (prO u)) (nd_8_v91 u (pkS_r0 (prO u)) (pkS_r1 (prO u))) (by (apply n13_h2 <;> first | assumption | omega | decide)) e),bf1 hx4]) func75
end
def pnd_r0(u:Pr):Int:=(if nd_1_v14 u=true then 1 else (if nd_4_v58 u (pkS_r0 (prO u)) (pkS_r1 (prO u))=true then 1 else (if nd_6_v82 u (pkS_r0 (prO u)) (pkS_r1 (prO u))=true then 2 else (if nd_8_v91 u (pkS_r0 (prO u)) (pkS_r1 (prO u))=true then (if nd_11_v118 u (pkS_r0 (prO u)) (pkS_r1 (prO u)) (nd_9_v5 u (pkS_r0 (prO u)) (pkS_r1 (prO u))) (nd_10_v6 u (pkS_r0 (prO u)) (pkS_r1 (prO u)) (nd_9_v5 u (pkS_r0 (prO u)) (pkS_r1 (prO u))))=true then 3 else (if nd_13a_v129 u (pkS_r0 (prO u)) (pkS_r1 (prO u)) (nd_9_v5 u (pkS_r0 (prO u)) (pkS_r1 (prO u))) (nd_10_v6 u (pkS_r0 (prO u)) (pkS_r1 (prO u)) (nd_9_v5 u (pkS_r0 (prO u)) (pkS_r1 (prO u))))=true then 6 else 0)) else (if nd_13b_v129 u (pkS_r0 (prO u)) (pkS_r1 (prO u)) (nd_8_v91 u (pkS_r0 (prO u)) (pkS_r1 (prO u)))=true then 6 else 0)))))
theorem pnd(u:Pr):Pu 75 [.agg (prL u)] (rI (pnd_r0 u)):=by
 by_cases h0:nd_1_v14 u=true
 ·simp only [pnd_r0,iP h0]; exact pu mdP (fun e=>[lg (@nd_1J u e),bt1 h0]) func75
 ·by_cases h1:nd_4_v58 u (pkS_r0 (prO u)) (pkS_r1 (prO u))=true
  ·simp only [pnd_r0,iN h0,iP h1]; exact pu mdP (fun e=>[lg (@nd_1J u e),bf1 (bFT h0),cl (@pkS (prO u)),lg (@nd_4J u (pkS_r0 (prO u)) (pkS_r1 (prO u)) e),bt1 h1]) func75
  ·by_cases h2:nd_6_v82 u (pkS_r0 (prO u)) (pkS_r1 (prO u))=true
   ·simp only [pnd_r0,iN h0,iN h1,iP h2]; exact pu mdP (fun e=>[lg (@nd_1J u e),bf1 (bFT h0),cl (@pkS (prO u)),lg (@nd_4J u (pkS_r0 (prO u)) (pkS_r1 (prO u)) e),bf1 (bFT h1),lg (@nd_6J u (pkS_r0 (prO u)) (pkS_r1 (prO u)) e),bt1 h2]) func75
   ·by_cases h3:nd_8_v91 u (pkS_r0 (prO u)) (pkS_r1 (prO u))=true
    ·by_cases h4:nd_11_v118 u (pkS_r0 (prO u)) (pkS_r1 (prO u)) (nd_9_v5 u (pkS_r0 (prO u)) (pkS_r1 (prO u))) (nd_10_v6 u (pkS_r0 (prO u)) (pkS_r1 (prO u)) (nd_9_v5 u (pkS_r0 (prO u)) (pkS_r1 (prO u))))=true
     ·simp only [pnd_r0,iN h0,iN h1,iN h2,iP h3,iP h4]; exact pu mdP (fun e=>[lg (@nd_1J u e),bf1 (bFT h0),cl (@pkS (prO u)),lg (@nd_4J u (pkS_r0 (prO u)) (pkS_r1 (prO u)) e),bf1 (bFT h1),lg (@nd_6J u (pkS_r0 (prO u)) (pkS_r1 (prO u)) e),bf1 (bFT h2),lg (@nd_8J u (pkS_r0 (prO u)) (pkS_r1 (prO u)) e),bt1 h3,lg (@nd_9J u (pkS_r0 (prO u)) (pkS_r1 (prO u)) e),lg (@nd_10J u (pkS_r0 (prO u)) (pkS_r1 (prO u)) (nd_9_v5 u (pkS_r0 (prO u)) (pkS_r1 (prO u))) e),lg (@nd_11J u (pkS_r0 (prO u)) (pkS_r1 (prO u)) (nd_9_v5 u (pkS_r0 (prO u)) (pkS_r1 (prO u))) (nd_10_v6 u (pkS_r0 (prO u)) (pkS_r1 (prO u)) (nd_9_v5 u (pkS_r0 (prO u)) (pkS_r1 (prO u)))) e),bt1 h4]) func75
     ·by_cases h5:nd_13a_v129 u (pkS_r0 (prO u)) (pkS_r1 (prO u)) (nd_9_v5 u (pkS_r0 (prO u)) (pkS_r1 (prO u))) (nd_10_v6 u (pkS_r0 (prO u)) (pkS_r1 (prO u)) (nd_9_v5 u (pkS_r0 (prO u)) (pkS_r1 (prO u))))=true
      ·simp only [pnd_r0,iN h0,iN h1,iN h2,iP h3,iN h4,iP h5]; exact pnd_5 u (bFT h0) (bFT h1) (bFT h2) h3 (bFT h4) h5
      ·simp only [pnd_r0,iN h0,iN h1,iN h2,iP h3,iN h4,iN h5]; exact pnd_6 u (bFT h0) (bFT h1) (bFT h2) h3 (bFT h4) (bFT h5)
    ·by_cases h4:nd_13b_v129 u (pkS_r0 (prO u)) (pkS_r1 (prO u)) (nd_8_v91 u (pkS_r0 (prO u)) (pkS_r1 (prO u)))=true
     ·simp only [pnd_r0,iN h0,iN h1,iN h2,iN h3,iP h4]; exact pnd_7 u (bFT h0) (bFT h1) (bFT h2) (bFT h3) h4
     ·simp only [pnd_r0,iN h0,iN h1,iN h2,iN h3,iN h4]; exact pnd_8 u (bFT h0) (bFT h1) (bFT h2) (bFT h3) (bFT h4)
open Go.RowKit Go.Shelf Go.Pv
attribute [local go_sem] Oper.semAt_some
set_option maxRecDepth 100000
theorem room_of_none{F:Fence}(hd:F.depth=none)(k:Nat):F.room k:=fun d h=>by rw [hd] at h; cases h
theorem RoundIn.anyDepth{F:Fence}(hd:F.depth=none){m m':Nat}{P:Program}{l:Nat}{f:FuncId}{tmps:Array Value}{assign body:Code}{w:World}{R:Ending->World->Prop}
  (h:RoundIn F m P l f tmps assign body w R):RoundIn F m' P l f tmps assign body w R:=⟨h.1,fun c cs _=>h.2 c cs (room_of_none hd _)⟩
theorem YieldAt.anyDepth{F:Fence}(hd:F.depth=none){m:Nat}(m':Nat){P:Program}{l:Nat}{args:Array Value}{W:World}{R:Ending->World->Prop}(h:YieldAt F m P l args W R):YieldAt F m' P l args W R:=by
 obtain ⟨fn,tmps,assign,body,hy,hR⟩:=h
 exact ⟨fn,tmps,assign,body,hy,RoundIn.anyDepth hd hR⟩
theorem mono_below{g:Gh}{w w':World}(hb:Below w.heap.size w w'):Mono g w g w':=by
 refine ⟨fun _ _ h=>h,fun b o v hc hf=>⟨?_,hf⟩,fun b cur e hh=>⟨cur,?_,rfl⟩,fun _ _ _ h=>h⟩
 ·have hlt:b<w.heap.size:=by
   unfold World.cell? at hc
   cases hh:w.heap[b]? with
   | none=>simp [hh] at hc
   | some x=>exact (Array.getElem?_eq_some_iff.1 hh).1
  rw [<-hc]
  exact World.cell?_of_block (hb.block b hlt)
 ·exact (hb.block b (Array.getElem?_eq_some_iff.1 hh).1).trans hh
theorem ent_below{e:Ext}{g:Gh}{l:LG}{w w':World}(he:Ent e g l w)(hb:Below w.heap.size w w'):Ent e g l w' where
 ex x cs hx:=by
  obtain ⟨b,h1,h2,hE⟩:=he.ex x cs hx
  refine ⟨b,h1.mono (mono_below hb),h2,?_⟩
  have hm:Mono g w g w':=mono_below hb
  have hh:=hb.block b (he.olt b _ h2)
  rcases hE with ⟨h3,cur,te,h4,h5,h6⟩ | hE
  ·refine .inl ⟨h3,cur,te,hh.trans h4,h5,fun j hj=>⟨(h6 j hj).1,(h6 j hj).2.1,?_⟩⟩
   exact (h6 j hj).2.2.keep hm (fun _ _ _=>rfl) fun b' hu=>⟨hu,rfl,hb.block b' (he.olt b' _ (he.uo _ b' hu))⟩
  ·exact .inr (hE.keep hm (fun _ _ _ h=>h) rfl hh)
 olt b o ho:=Nat.lt_of_lt_of_le (he.olt b o ho) hb.size
 uo:=he.uo
 fresh:=⟨fun b h=>he.fresh.1 b (Nat.le_trans hb.size h),he.fresh.2⟩
 xlt n b h:=Nat.lt_of_lt_of_le (he.xlt n b h) hb.size
 only:=he.only
 glb:=he.glb.mono (mono_below hb)
theorem calls_pur{P:Program}{f:FuncId}{args:List PV}{vs:List Value}{k:Int}{g:Gh}{l:LG}{w:World}(h:(Ob.pur f args (.ret (.int .i64 k))).ok P)(ha:RepAll g w args vs)(he:Ent [] g l w) :
  Calls P f vs.toArray w fun enz w'=>enz = .returned (.int .i64 k)/\Below w.heap.size w w':=by
 refine (h.2 [] vs g ⟨fun _=>none,fun _=>none,fun _=>none⟩ w ha ⟨fun x cs hx=>(by simp [lk] at hx),fun b o ho=>(by cases ho),fun p b hb=>(by cases hb),he.fresh,he.xlt,fun b o ho=>(by cases ho),he.glb⟩).mono ?_
 rintro enz w' ⟨r,e2,g',l',⟨rfl,rfl⟩,hres,hent',hmono,hsz,hfr,hown,os,tape,output⟩
 refine ⟨?_,os,tape,output,hsz,fun b hb=>(hfr b hb rfl).1⟩
 cases enz <;> first | exact hres.elim | skip
 rename_i v
 have h1:Rep g' w' (.int .i64 k) v:=hres
 cases h1
 rfl
theorem KC.of_below{w W:World}(h:Below w.heap.size w W):KC w W:=⟨h.size,fun k o hk _=>(h.block k (Array.getElem?_eq_some_iff.1 hk).1).trans hk⟩
theorem before_stops(F:Fence)(hd:F.depth=none)(n:Nat)(h142:F.fn 103)(h143:F.fn 104)(hro:F.round=none)(g:Gh)(W0 w:World)(Bs:Nat)(x:Nd g W0)(hk0:KC W0 w)(hBs:Bs<w.heap.size)
  (h1:w.cell? ⟨Bs,0,none⟩=some (.int .i64 (prO x.1.1))) (h2:w.cell? ⟨Bs,1,none⟩=some (.string (prNm x.1.1))) (h3:w.cell? ⟨Bs,2,none⟩=some (.int .i64 (prN x.1.1))) (h4:w.cell? ⟨Bs,3,none⟩=some (.slice x.1.2.1 x.1.2.2.1 x.1.2.2.2)) :
  SeqStopsK F n prog 103 #[.pointer (some ⟨Bs,0,none⟩)] (fun y:Nd g W0=>#[y.enc]) KC (fun ys=>ys.map (·.1.1)=nodesP x.1.1) (fun ys=>ys.map (·.1.1) <+: nodesP x.1.1) (nodesP x.1.1).length w:=fun l J Jx W hW hJ _ hY h0=>
 before1_in F hd h142 h143 hro g W0 l Bs x n J Jx (fun s W W' hs hg=>hJ s W W' none hs hg (fun r e=>by cases e))
  (fun m pre y W hj hl=>YieldAt.anyDepth hd m (hY pre y W hj hl)) W (hk0.trans (KC.of_below hW)) ((hW.cell (p:=⟨Bs,0,none⟩) hBs).trans h1) ((hW.cell (p:=⟨Bs,1,none⟩) hBs).trans h2) ((hW.cell (p:=⟨Bs,2,none⟩) hBs).trans h3) ((hW.cell (p:=⟨Bs,3,none⟩) hBs).trans h4) h0
def pcE(p:Pr):Int:=if pqF p>400 then 7 else if peF p>40 then 8 else frE pnd_r0 (nodesP p)
theorem nd_rep{g:Gh}{W0:World}(x:Nd g W0):RepAll g W0 [.agg (prL x.1.1)] [x.enc]:=by
 refine .cons ?_ .nil
 refine .agg _ [_,_,_,_] rfl (fun v hv=>?_) fun j hj hj'=>?_
 ·simp only [List.mem_cons,List.not_mem_nil,or_false] at hv
  rcases hv with rfl | rfl | rfl | rfl <;> rfl
 ·match j with
  | 0=>exact .int _ _
  | 1=>exact .str _
  | 2=>exact .int _ _
  | 3=>exact x.2
theorem below_alloc{w W:World}(h:Below w.heap.size w W)(o:Obj):Below w.heap.size w (W.alloc o):=h.alloc h.size o
def Fr(p:Pr)(oa:Option Addr)(m c:Nat)(w W:World):Prop:=
 W.cell? ⟨w.heap.size,0,none⟩=some (.int .i64 (prO p))/\W.cell? ⟨w.heap.size,1,none⟩=some (.string (prNm p))/\W.cell? ⟨w.heap.size,2,none⟩=some (.int .i64 (prN p))/\W.cell? ⟨w.heap.size,3,none⟩=some (.slice oa m c) /\
 W.cell? ⟨w.heap.size+1,0,none⟩=some (.int .i64 0)/\W.frozen? ⟨w.heap.size+1,0,none⟩=false
theorem fr_new(p:Pr)(oa:Option Addr)(m c:Nat)(w:World):Fr p oa m c w ((w.alloc (.cells #[.int .i64 (prO p),.string (prNm p),.int .i64 (prN p),.slice oa m c] 46)).alloc (.cells #[.int .i64 0] 61)):=by
 have h1:((w.alloc (.cells #[.int .i64 (prO p),.string (prNm p),.int .i64 (prN p),.slice oa m c] 46)).alloc (.cells #[.int .i64 0] 61)).heap[w.heap.size]?=some (.cells #[.int .i64 (prO p),.string (prNm p),.int .i64 (prN p),.slice oa m c] 46):=
  (Below.heap_alloc _ _ _ sM).trans (World.alloc_heap_new w _)
 have h2:((w.alloc (.cells #[.int .i64 (prO p),.string (prNm p),.int .i64 (prN p),.slice oa m c] 46)).alloc (.cells #[.int .i64 0] 61)).heap[w.heap.size+1]?=some (.cells #[.int .i64 0] 61):=by
  have:=World.alloc_heap_new (w.alloc (.cells #[.int .i64 (prO p),.string (prNm p),.int .i64 (prN p),.slice oa m c] 46)) (.cells #[.int .i64 0] 61)
  rwa [World.size_alloc] at this
 unfold Fr World.cell? World.frozen?
 rw [h1,h2]
 exact ⟨rfl,rfl,rfl,rfl,rfl,rfl⟩
theorem Fr.kept{p:Pr}{oa:Option Addr}{m c:Nat}{w A B:World}(h:Fr p oa m c w A)(hl:w.heap.size+2<=A.heap.size)(hb:Below A.heap.size A B):Fr p oa m c w B:=by
 have k1:=hb.block w.heap.size oM
 have k2:=hb.block (w.heap.size+1) oM
 unfold Fr World.cell? World.frozen? at h ⊢
 rw [k1,k2]
 exact h
set_option maxHeartbeats 4000000 in
theorem check_in(p:Pr)(hs:bulkPs (prL p)<=100000000)(g:Gh)(l0:LG)(w:World)(oa:Option Addr)(m c:Nat)(hr:Rep g w (.sl 4 (Pr.cs (prK p))) (.slice oa m c))(he:Ent [] g l0 w) :
  Calls prog 33 #[encP p (.slice oa m c)] w fun e w'=>e = .returned (.int .i64 (pcE p))/\Below w.heap.size w w':=by
 refine (callsIn_wide (n:=6)).1 ?_
 obtain ⟨x,hx⟩:∃x:Nd g w,x.1=(p,oa,m,c):=⟨⟨(p,oa,m,c),hr⟩,rfl⟩
 have hrep:RepAll g w [.agg (prL p)] [encP p (.slice oa m c)]:=by have:=nd_rep x; rw [Nd.enc,hx] at this; exact this
 refine callsIn_of_wp_marks func33 rfl trivial ?_ rfl
 simp only [Tryz.ntmps33,List.size_toArray,List.length_cons,List.length_nil,Nat.reduceAdd,Nat.reduceSub,Array.replicate_succ,Array.replicate_zero,List.push_toArray,List.append_toArray,List.nil_append,List.cons_append]
 have hf1:=fr_new p oa m c w
 have hb1:Below w.heap.size w ((w.alloc (.cells #[.int .i64 (prO p),.string (prNm p),.int .i64 (prN p),.slice oa m c] 46)).alloc (.cells #[.int .i64 0] 61)):=below_alloc (below_alloc (Below.refl _ _) _) _
 have hz1:w.heap.size+2<=((w.alloc (.cells #[.int .i64 (prO p),.string (prNm p),.int .i64 (prN p),.slice oa m c] 46)).alloc (.cells #[.int .i64 0] 61)).heap.size:=by simp
 generalize hw1:(w.alloc (.cells #[.int .i64 (prO p),.string (prNm p),.int .i64 (prN p),.slice oa m c] 46)).alloc (.cells #[.int .i64 0] 61)=w1 at hf1 hb1 hz1
 have hall:∀ (f:FuncId) (k:Int),Pu f [.agg (prL p)] (.ret (.int .i64 k))->∀ (W:World),Fr p oa m c w W->Below w.heap.size w W->w.heap.size+2<=W.heap.size->CallsIn Fence.wide 5 prog f #[encP p (.slice oa m c)] W fun e W'=>e = .returned (.int .i64 k)/\Fr p oa m c w W'/\Below w.heap.size w W'/\w.heap.size+2<=W'.heap.size:=by
  intro f k hk W hF hB hS
  refine callsIn_wide.2 ?_
  refine (calls_pur hk (hrep.mono (mono_below hB)) (ent_below he hB)).mono ?_
  rintro e W' ⟨h1,h2⟩
  exact ⟨h1,hF.kept hS h2,hB.trans (h2.mono hB.size),Nat.le_trans hS h2.size⟩
 obtain ⟨c0,c1,c2,c3,r0,rf⟩:=id hf1
 have k98:=hall 72 _ (pqT p hs) w1 hf1 hb1 hz1
 gi_wp2_with (first
  | (refine ⟨trivial,?_⟩; gi_at_call 72; refine k98.mono ?_; clear k98; rintro e W2 ⟨rfl,hf2,hb2,hz2⟩; clear c0 c1 c2 c3 r0 rf; obtain ⟨c0,c1,c2,c3,r0,rf⟩:=id hf2; have k99:=hall 73 _ (peT p hs) W2 hf2 hb2 hz2)
  | (refine ⟨trivial,?_⟩; gi_at_call 73; refine k99.mono ?_; clear k99; rintro e W3 ⟨rfl,hf3,hb3,hz3⟩; clear c0 c1 c2 c3 r0 rf; obtain ⟨c0,c1,c2,c3,r0,rf⟩:=id hf3)
  | (refine ⟨trivial,?_⟩; gi_at_call 74; refine (before_in Fence.wide 5 trivial rfl p oa m c _).mono ?_; rintro e W4 ⟨rfl,rfl⟩))
 ·have hgt:pqF p>400:=by omega
  have hc5:=World.cell?_setCell_same' W2 ⟨w.heap.size+1,0,none⟩ (.int .i64 7) (by rw [r0]; rfl)
  refine ⟨.int .i64 7,by simp [results,f33,go_sem,hc5],?_,hb2.setCell (p:=⟨w.heap.size+1,0,none⟩) sM _⟩
  unfold pcE; rw [iP hgt]
 ·have hgt:¬pqF p>400:=by omega
  have hgt2:peF p>40:=by omega
  have hc5:=World.cell?_setCell_same' W3 ⟨w.heap.size+1,0,none⟩ (.int .i64 8) (by rw [r0]; rfl)
  refine ⟨.int .i64 8,by simp [results,f33,go_sem,hc5],?_,hb3.setCell (p:=⟨w.heap.size+1,0,none⟩) sM _⟩
  unfold pcE; rw [iN hgt,iP hgt2]
 ·have hgt:¬pqF p>400:=by omega
  have hgt2:¬peF p>40:=by omega
  have hpc:pcE p=frE pnd_r0 (nodesP p):=by unfold pcE; rw [iN hgt,iN hgt2]
  have hzW:W3.heap.size<(W3.alloc (.cells #[.int .i64 (prO p),.string (prNm p),.int .i64 (prN p),.slice oa m c] 46)).heap.size:=by simp
  have hb4:Below w.heap.size w (W3.alloc (.cells #[.int .i64 (prO p),.string (prNm p),.int .i64 (prN p),.slice oa m c] 46)):=hb3.alloc hb3.size _
  have hz4:w.heap.size+2<=(W3.alloc (.cells #[.int .i64 (prO p),.string (prNm p),.int .i64 (prN p),.slice oa m c] 46)).heap.size:=by simp; omega
  have hbox:(W3.alloc (.cells #[.int .i64 (prO p),.string (prNm p),.int .i64 (prN p),.slice oa m c] 46)).heap[W3.heap.size]?=some (.cells #[.int .i64 (prO p),.string (prNm p),.int .i64 (prN p),.slice oa m c] 46):=World.alloc_heap_new _ _
  have hf4:Fr p oa m c w (W3.alloc (.cells #[.int .i64 (prO p),.string (prNm p),.int .i64 (prN p),.slice oa m c] 46)):=hf3.kept hz3 ((Below.refl _ _).alloc (Nat.le_refl _) _)
  clear hall c0 c1 c2 c3 r0 rf hf1 hb1 hz1 hw1 hf2 hb2 hz2
  generalize hW4:W3.alloc (.cells #[.int .i64 (prO p),.string (prNm p),.int .i64 (prN p),.slice oa m c] 46)=W4 at hzW hb4 hz4 hbox hf4 ⊢
  generalize hBs:W3.heap.size=Bs at hzW hbox ⊢
  have hcell:∀j,W4.cell? ⟨Bs,j,none⟩ = #[Value.int .i64 (prO p),.string (prNm p),.int .i64 (prN p),.slice oa m c][j]?:=fun j=>by unfold World.cell?; rw [hbox]; rfl
  have hst:=before_stops Fence.wide rfl 5 trivial trivial rfl g w W4 Bs x (KC.of_below hb4) hzW (by rw [hx]; exact hcell 0) (by rw [hx]; exact hcell 1) (by rw [hx]; exact hcell 2) (by rw [hx]; exact hcell 3)
  obtain ⟨_,_,_,_,r0,rf⟩:=hf4
  refine wpIn_rangeFunc_ownH rfl oM (gf:=103) (lb:=#[.pointer (some ⟨Bs,0,none⟩)]) rfl trivial (enters_of func103 kR rfl) hst KC.trans
   (fun W l o o' hl hh ho _=>⟨by simp,fun k o2 hk hc2=>(World.putObj_heap_other (fun e=>by subst e; rw [hh] at hk; cases hk; rw [ho] at hc2; cases hc2)).trans hk⟩) (Below.refl _ _) (fun _=>rfl)
   (fun pre W=>((∀y∈pre,pnd_r0 y.1.1=0)/\W.cell? ⟨w.heap.size+1,0,none⟩=some (.int .i64 0)/\W.frozen? ⟨w.heap.size+1,0,none⟩=false)/\Below w.heap.size w W)
   (fun cdz pre W=>(cdz = .ret/\∃ps y,pre=ps++[y]/\(∀z∈ps,pnd_r0 z.1.1=0)/\¬pnd_r0 y.1.1=0/\W.cell? ⟨w.heap.size+1,0,none⟩=some (.int .i64 (pnd_r0 y.1.1)))/\Below w.heap.size w W)
   (OwnFrom.and (Own.from (fun s A B row hs hg hr=>⟨hs.1,cell_kept hs.2.1 hg hr,(frozen_kept hs.2.1 hg hr).trans hs.2.2⟩) _) (ownFrom_below (Nat.le_refl _) oM))
   (fun cdz=>OwnFrom.and (Own.from (fun s A B row hs hg hr=>⟨hs.1,let ⟨ps,y,k1,k2,k3,k4⟩:=hs.2; ⟨ps,y,k1,k2,k3,cell_kept k4 hg hr⟩⟩) _) (ownFrom_below (Nat.le_refl _) oM))
   ⟨⟨fun y hy=>(by cases hy),r0,rf⟩,hb4⟩
   (fun y a' W=>∃Bx,w.heap.size+2<=Bx/\W.heap[Bx]?=some (.cells #[.int .i64 (prO y.1.1),.string (prNm y.1.1),.int .i64 (prN y.1.1),.slice y.1.2.1 y.1.2.2.1 y.1.2.2.2] 46) /\
    a'={ tmps:=#[encP p (.slice oa m c),.pointer (some ⟨w.heap.size,0,none⟩),.pointer (some ⟨w.heap.size+1,0,none⟩),.pointer (some ⟨Bx,0,none⟩),undef,encP p (.slice oa m c),.int .i64 (pqF p),.bool false,encP p (.slice oa m c),.int .i64 (peF p),.bool false,encP p (.slice oa m c),.func (.func 103) #[] #[.pointer (some ⟨Bs,0,none⟩)],y.enc,undef,undef,undef,undef,undef],defers:=[] })
   (fun y a' s A B row hs hg hr=>by
    obtain ⟨Bx,h1,h2,h3⟩:=hs
    refine ⟨Bx,h1,(hg.block Bx (Array.getElem?_eq_some_iff.1 h2).1 (fun e=>?_)).trans h2,h3⟩
    obtain ⟨_,o,ho,hc⟩:=hr Bx e.symm
    rw [h2] at ho; cases ho; cases hc) ?assign ?body ?done ?stop
  case assign=>
   rintro l pre y W K ⟨⟨hz,q0,qf⟩,hB⟩ hK
   have hrc:w.heap.size+1<W.heap.size:=by
    unfold World.cell? at q0
    cases hh:W.heap[w.heap.size+1]? with
    | none=>simp [hh] at q0
    | some o=>exact (Array.getElem?_eq_some_iff.1 hh).1
   simp only [Nd.enc]
   obtain ⟨q,oa',m',c',hyx⟩:∃q oa' m' c',y.1=(q,oa',m',c'):=⟨_,_,_,_,rfl⟩
   simp only [Nd.enc,hyx] at hK ⊢
   gi_wp2
   exact hK _ _ ((KeepsOthers.alloc _ _).from _) ((KC.refl W).alloc _) ⟨⟨hz,cell_kept q0 (World.grownBy_alloc W _ none) (fun r e=>by cases e),(frozen_kept q0 (World.grownBy_alloc W _ none) (fun r e=>by cases e)).trans qf⟩,hB.alloc hB.size _⟩ ⟨W.heap.size,by omega,World.alloc_heap_new _ _,rfl⟩
  case body=>
   rintro l pre y a' W hl ⟨r,hr0⟩ ⟨⟨hz,q0,qf⟩,hB⟩ ⟨Bx,hBx,hbx,rfl⟩ hlt
   have hrc:w.heap.size+1<W.heap.size:=by
    unfold World.cell? at q0
    cases hh:W.heap[w.heap.size+1]? with
    | none=>simp [hh] at q0
    | some o=>exact (Array.getElem?_eq_some_iff.1 hh).1
   have k101:CallsIn (Fence.wide.inRound l) (6 - 1 - 1 - 1) prog 75 #[y.enc] W fun e W'=>e = .returned (.int .i64 (pnd_r0 y.1.1))/\Below W.heap.size W W'/\W'.cell? ⟨w.heap.size+1,0,none⟩=some (.int .i64 0)/\W'.frozen? ⟨w.heap.size+1,0,none⟩=false:=by
    refine CallsIn.inRound l (callsIn_wide.2 ((calls_pur (pnd y.1.1) ((nd_rep y).mono (mono_below hB)) (ent_below he hB)).mono ?_))
    rintro e W' ⟨h1,h2⟩
    have hblk:=h2.block (w.heap.size+1) hrc
    refine ⟨h1,h2,?_,?_⟩
    ·unfold World.cell? at q0 ⊢; rw [hblk]; exact q0
    ·unfold World.frozen? at qf ⊢; rw [hblk]; exact qf
   simp only [Nd.enc] at k101 ⊢
   have hxB:∀j,W.cell? ⟨Bx,j,none⟩ = #[Value.int .i64 (prO y.1.1),.string (prNm y.1.1),.int .i64 (prN y.1.1),.slice y.1.2.1 y.1.2.2.1 y.1.2.2.2][j]?:=fun j=>by unfold World.cell?; rw [hbx]; rfl
   have c0:=hxB 0
   have c1:=hxB 1
   have c2:=hxB 2
   have c3:=hxB 3
   clear hxB hbx hst hcell
   generalize hpn:pnd_r0 y.1.1=k at k101
   obtain ⟨q,oa',m',c',hyx⟩:∃q oa' m' c',y.1=(q,oa',m',c'):=⟨_,_,_,_,rfl⟩
   simp only [hyx,List.getElem?_toArray,List.getElem?_cons_zero,List.getElem?_cons_succ] at k101 c0 c1 c2 c3 ⊢
   clear hyx
   by_cases hk0:k=0
   ·subst hk0
    gi_wp2_with (refine ⟨trivial,?_⟩; gi_at_call 75; refine k101.mono ?_; clear k101; rintro e W2 ⟨rfl,hB2,p0,pf⟩)
    refine ⟨⟨hB2.size,fun k o _ hk _=>(hB2.block k (Array.getElem?_eq_some_iff.1 hk).1).trans hk⟩,KC.of_below hB2,⟨fun z hz'=>?_,p0,pf⟩,hB.trans (hB2.mono hB.size)⟩
    rcases List.mem_append.1 hz' with h | h
    ·exact hz z h
    ·simp only [List.mem_singleton] at h; subst h; exact hpn
   ·gi_wp2_with (refine ⟨trivial,?_⟩; gi_at_call 75; refine k101.mono ?_; clear k101; rintro e W2 ⟨rfl,hB2,p0,pf⟩)
    have hw2:=World.cell?_setCell_same' W2 ⟨w.heap.size+1,0,none⟩ (.int .i64 k) (by rw [p0]; rfl)
    exact ⟨(show KeepsFrom W4.heap.size W W2 from ⟨hB2.size,fun k o _ hk _=>(hB2.block k (Array.getElem?_eq_some_iff.1 hk).1).trans hk⟩).trans ((KeepsOthers.setCell W2 _ _).from _),
     ⟨rfl,pre,y,rfl,hz,by rw [hpn]; exact hk0,by rw [hpn]; exact hw2⟩,(hB.trans (hB2.mono hB.size)).setCell (p:=⟨w.heap.size+1,0,none⟩) sM _⟩
  case done=>
   rintro D ys W hD hS ⟨⟨hz,q0,qf⟩,hB⟩ hK
   gi_wp2
   have hK':=(KeepsOthers.setCell W ⟨w.heap.size+1,0,none⟩ (.int .i64 0)).same D _ hK rfl
   refine ⟨by simp,.inl ⟨_,_,rfl,run_takeDeferred hK',?_⟩⟩
   have hc5:=cell_kept (World.cell?_setCell_same' W ⟨w.heap.size+1,0,none⟩ (.int .i64 0) (by rw [q0]; rfl)) (grownBy_putObj' _ D (.deferred none)) (fun r e=>by cases e; exact ⟨_,hK',rfl⟩)
   refine ⟨.int .i64 0,by simp [results,f33,go_sem,hc5],?_,?_⟩
   ·have:∀zs:List (Nd g w),(∀z∈zs,pnd_r0 z.1.1=0)->frE pnd_r0 (zs.map (·.1.1))=0:=fun zs=>by
     induction zs with
     | nil=>intro _; rfl
     | cons a r ih=>intro h; simp only [List.map_cons,frE]; rw [iP (h a sM)]; exact ih fun z hz=>h z (List.mem_cons_of_mem _ hz)
    have h1:=this ys hz
    rw [hS,hx] at h1
    rw [h1]
   ·exact (hB.setCell (p:=⟨w.heap.size+1,0,none⟩) sM _).trans (belowK_b (w:=w) (Nat.le_refl _) _ D _ _ oM hK' rfl rfl)
  case stop=>
   rintro D cdz pre W hD hS ⟨⟨rfl,ps,y,rfl,hz,hne,q0⟩,hB⟩ hK
   gi_wp2
   refine ⟨by simp,.inl ⟨_,_,rfl,run_takeDeferred hK,?_⟩⟩
   have hc5:=cell_kept q0 (grownBy_putObj' _ D (.deferred none)) (fun r e=>by cases e; exact ⟨_,hK,rfl⟩)
   refine ⟨.int .i64 (pnd_r0 y.1.1),by simp [results,f33,go_sem,hc5],?_,hB.trans (belowK_b (w:=w) (Nat.le_refl _) _ D _ _ oM hK rfl rfl)⟩
   have:∀ (zs:List (Nd g w)) (rest:List Pr),(∀z∈zs,pnd_r0 z.1.1=0)->frE pnd_r0 ((zs++[y]).map (·.1.1)++rest)=pnd_r0 y.1.1:=fun zs rest=>by
    induction zs with
    | nil=>intro _; simp only [List.nil_append,List.map_cons,List.map_nil,List.cons_append,frE]; rw [iN hne]
    | cons a r ih=>intro h; simp only [List.cons_append,List.map_cons,frE]; rw [iP (h a sM)]; exact ih fun z hz=>h z (List.mem_cons_of_mem _ hz)
   obtain ⟨rest,hrest⟩:=hS
   have h1:=this ps rest hz
   rw [hrest,hx] at h1
   rw [h1]
mutual
theorem pr_nx:∀p:Pr,noXs (prL p)=true
 | .mk o s n ks=>by simp only [prK,noXs,PV.noX,prs_nx ks,Bool.and_self]
theorem prs_nx:∀l:List Pr,noXss (Pr.cs l)=true
 | []=>rfl
 | x::r=>by rw [show Pr.cs (x::r)=prL x::Pr.cs r by simp [Pr.cs_eq],noXss,prs_nx r,pr_nx x]; rfl
end
theorem pcT(p:Pr)(hs:bulkPs (prL p)<=100000000):Pu 33 [.agg (prL p)] (.ret (.int .i64 (pcE p))):=by
 refine Ob.pur_of_eff (e':=[]) (by have h1:=pr_nx p; simp only [noXs,PV.noX,Bool.and_true,Bool.true_and] at h1 ⊢; exact h1) rfl ⟨by kernel_rfl,fun vs g l w ha he=>?_⟩
 obtain ⟨v,vs',rfl,hr,ha'⟩:=ha.inv_cons
 obtain rfl:=ha'.inv_nil
 obtain ⟨oa,m,c,hk,rfl⟩:∃oa m c,Rep g w (.sl 4 (Pr.cs (prK p))) (.slice oa m c)/\v=encP p (.slice oa m c):=by
  generalize he:prL p=cs at hr
  cases hr with
  | agg _ vs h1 ho h=>
   subst he
   match vs,h1,h with
   | [v0,v1,v2,v3],_,h=>
    have r0:Rep g w (.int .i64 (prO p)) v0:=h 0 sM sM
    have r1:Rep g w (.str (prNm p)) v1:=h 1 sM sM
    have r2:Rep g w (.int .i64 (prN p)) v2:=h 2 sM sM
    have r3:Rep g w (.sl 4 (Pr.cs (prK p))) v3:=h 3 sM sM
    obtain ⟨oa,m,c,rfl⟩:=sl_val r3
    cases r0; cases r1; cases r2
    exact ⟨oa,m,c,r3,rfl⟩
 refine (check_in p hs g l w oa m c hk he).mono ?_
 rintro enz w' ⟨rfl,hbel⟩
 exact ⟨_,[],g,l,⟨rfl,rfl⟩,.int _ _,ent_below he hbel,mono_below hbel,hbel.size,fun b hb _=>⟨hbel.block b hb,rfl⟩,fun b o ho => .inr (by rw [ho]; rfl),hbel.os,hbel.tape,hbel.output⟩
open Go.Pv
def mapO(f:List PV->Option Pr):List (List PV)->Option (List Pr)
 | []=>some []
 | c::r=>match f c with
  | some p=>(match mapO f r with
   | some l=>some (p::l)
   | none=>none)
  | none=>none
def toPr:Nat->List PV->Option Pr
 | 0,_=>none
 | k+1,cs=>match cs with
  | [.int .i64 o,.str nm,.int .i64 n,.nilsl]=>some (.mk o nm n [])
  | [.int .i64 o,.str nm,.int .i64 n,.sl 4 es]=>(match mapO (toPr k) es with
   | some l=>some (.mk o nm n l)
   | none=>none)
  | _=>none
theorem mapO_ok{f:List PV->Option Pr}(hf:∀cs p,f cs=some p->WkL cs (prL p)):∀ (es:List (List PV)) (l:List Pr),mapO f es=some l->WkLL es (Pr.cs l)
 | [],l,h=>by simp only [mapO,Option.some.injEq] at h; subst h; exact WkLL.r _
 | c::r,l,h=>by
  simp only [mapO] at h
  split at h
  ·rename_i p hp
   split at h
   ·rename_i l' hl
    simp only [Option.some.injEq] at h
    subst h
    rw [show Pr.cs (p::l')=prL p::Pr.cs l' by simp [Pr.cs_eq]]
    exact WkLL.c (hf _ _ hp) (mapO_ok hf r l' hl)
   ·cases h
  ·cases h
theorem toPr_ok:∀ (k:Nat) (cs:List PV) (p:Pr),toPr k cs=some p->WkL cs (prL p)
 | 0,_,_,h=>by cases h
 | k+1,cs,p,h=>by
  simp only [toPr] at h
  split at h
  ·simp only [Option.some.injEq] at h
   subst h
   exact WkL.c (.r _) (WkL.c (.r _) (WkL.c (.r _) (WkL.c (.n 4) (WkL.r _))))
  ·split at h
   ·rename_i l hl
    simp only [Option.some.injEq] at h
    subst h
    exact WkL.c (.r _) (WkL.c (.r _) (WkL.c (.r _) (WkL.c (Wk.s (mapO_ok (toPr_ok k) _ _ hl)) (WkL.r _))))
   ·cases h
  ·cases h
def knA:Orc:=fun f args e=>if f=33 then (match args with
 | [.agg cs]=>(match toPr 50 cs with
  | some p=>if bulkPs (prL p)<=100000000 then some (.ret (.int .i64 (pcE p)),e) else none
  | none=>none)
 | _=>none) else none
abbrev nA:ByteArray:=⟨#[108,111,111,112]⟩
abbrev nB:ByteArray:=⟨#[110]⟩
def knS(n:Nat)(e:Ext):Option (CRes × Ext):=match lk e n with
 | some [.v (.mp k)]=>(match lk e k with
  | some [.mm (.s [(a,.bool true),(b,.bool true)])]=>if a=nA/\b=nB then some (.ret (.sl 1 [[.str nA],[.str nB]]),e) else none
  | _=>none)
 | _=>none
def knB:Orc:=fun f args e=>if f=114 then (match args with
 | [.xp n 0]=>knS n e
 | _=>none) else knA f args e
theorem knA_ok:OrcOK Tryz.prog knA:=by
 intro f args e r e' h
 unfold knA at h
 split at h
 ·rename_i hf
  subst hf
  split at h
  ·rename_i cs
   split at h
   ·rename_i p hp
    split at h
    ·rename_i hs
     simp only [Option.some.injEq,Prod.mk.injEq] at h
     obtain ⟨rfl,rfl⟩:=h
     have:=Ob.pur_arg (WkL.c (Wk.a (toPr_ok _ _ _ hp)) (WkL.r [])) (pcT p hs)
     exact ⟨this.1,this.2 e⟩
    ·cases h
   ·cases h
  ·cases h
 ·cases h
theorem srt2:sortB [nA,nB]=[nA,nB]:=by
 unfold sortB
 rw [List.mergeSort_of_pairwise (by simp; decide)]
 rfl
theorem knB_ok:OrcOK Tryz.prog knB:=by
 intro f args e r e' h
 unfold knB at h
 split at h
 ·rename_i hf
  subst hf
  split at h
  ·rename_i n
   unfold knS at h
   split at h
   ·rename_i k hn
    split at h
    ·rename_i a b hk
     split at h
     ·rename_i hab
      obtain ⟨rfl,rfl⟩:=hab
      simp only [Option.some.injEq,Prod.mk.injEq] at h
      obtain ⟨rfl,rfl⟩:=h
      have:=sorted_ok n k e [(nA,.bool true),(nB,.bool true)] hn hk (fun x hx=>by
       simp only [List.mem_cons,List.not_mem_nil,or_false] at hx
       rcases hx with rfl | rfl <;> exact ⟨_,rfl⟩) (fun x hx=>by
       simp only [List.mem_cons,List.not_mem_nil,or_false] at hx
       rcases hx with rfl | rfl <;> decide) (by decide)
      rw [show ([(nA,PV.bool true),(nB,PV.bool true)].map (·.1))=[nA,nB] from rfl,srt2] at this
      exact this
     ·cases h
    ·cases h
   ·cases h
  ·cases h
 ·exact knA_ok _ _ _ _ _ h
def modA:List (Nat × Nat × Bool):=[(60,61,false),(32,4,false),(32,29,true),(32,37,true),(32,84,true),(32,87,false),(32,132,false),(22,9,true),(24,4,true),(24,9,true),(24,29,true),(24,30,false),(24,109,false),(91,3,false),(61,29,true),(61,37,true),(61,84,true),(50,29,true),(82,171,false),(110,193,false)]
def mdAw(f:FuncId):Md:=⟨fun t=>match modA.find? fun x=>x.1==f&&x.2.1==t with
 | some (_,_,true)=>some true
 | some (_,_,false)=>none
 | none=>some false,fun t=>(f==23&&t==27)||(f==45&&t==35)⟩
theorem awL:(Ob.pur 7 [] (.ret (.bool true))).ok Tryz.prog:=Ob.pur_of_known knB knB_ok mdAw 60 60 mixed (by kernel_rfl) rfl rfl
theorem u8_nat{v:Int}(h:(Lit.int .u8 v).wf=true):∃t:Nat,v=(t:Int)/\t<256:=by
 have h1:IntKind.u8.min<=v/\v<=IntKind.u8.max:=by simpa [Lit.wf] using h
 have h2:IntKind.u8.min=0:=by decide
 have h3:IntKind.u8.max=255:=by decide
 exact ⟨v.toNat,by omega,by omega⟩
end Go.Proofs.YtaakmholhliodaaGreatDoor
