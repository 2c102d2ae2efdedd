/- Values of Go as plain data, an evaluator over them, and what the functions of the program return; part Ye. -/
import Derived.RangeFuncNested
import Derived.RangeFuncBound
import Derived.RangeFuncCalls
import Derived.RangeFuncLeaves
import Derived.Shelf.Abstract
import Derived.Shelf.RegionOpen
import Derived.WalkKit
import Derived.OwnWalkIn
import Derived.TacticsInMore
import Derived.LoopNIn
import Derived.LoopIn
import Derived.Test.YtcflffbapgiicaaGreatDoorYd
import Derived.Test.YtcflffbapgiicaaGreatDoorXs
import Derived.Sort.KeysCollected
import Derived.Sort.OwnSorted
import Derived.Maps.AppendAt
import Derived.Maps.RangeWalk
import Derived.Tactics
import Derived.KernelRfl
import Derived.Test.YtcflffbapgiicaaGreatDoorYa
set_option linter.unusedSectionVars false
set_option linter.unusedSimpArgs false
set_option linter.unusedVariables false
namespace Go.Proofs.YtcflffbapgiicaaGreatDoor
open Go.Proofs.Tryz
open Go.RowKit Go.Shelf Go.Pv
attribute [local go_sem] Oper.semAt_some
set_option maxRecDepth 100000
structure KC (W W':World):Prop where
 size:W.heap.size<=W'.heap.size
 same:∀ (k:Nat) (o:Obj),W.heap[k]?=some o->o.isCells=true->W'.heap[k]?=some o
theorem KC.refl(W:World):KC W W:=⟨Nat.le_refl _,fun _ _ h _=>h⟩
theorem KC.trans{A B C:World}(h:KC A B)(k:KC B C):KC A C:=⟨Nat.le_trans h.size k.size,fun i o hi ho=>k.same i o (h.same i o hi ho) ho⟩
theorem KC.cell{A B:World}(h:KC A B){a:Addr}{v:Value}(hc:A.cell? a=some v):B.cell? a=some v:=by
 unfold World.cell? at hc ⊢
 cases hh:A.heap[a.block]? with
 | none=>simp [hh] at hc
 | some o=>
  cases o with
  | cells cur e m=>rw [h.same _ _ hh rfl]; rw [hh] at hc; exact hc
  | _=>simp [hh] at hc
mutual
/-- The nodes of a predicate,each before its kids' nodes. -/
def nodesP:Pr->List Pr
 | .mk o s n ks => .mk o s n ks::nodesPs ks
def nodesPs:List Pr->List Pr
 | []=>[]
 | x::r=>nodesP x++nodesPs r
end
theorem nodesP_e(p:Pr):nodesP p=p::nodesPs (prK p):=by cases p; simp [nodesP,prK]
abbrev encP(p:Pr)(kv:Value):Value := .agg #[.int .i64 (prO p),.string (prNm p),.int .i64 (prN p),kv]
theorem KC.alloc{A W:World}(h:KC A W)(o:Obj):KC A (W.alloc o):=⟨Nat.le_trans h.size (by simp),fun k o' hk hc=>by
 have h1:=h.same k o' hk hc
 exact (Below.heap_alloc _ _ _ (Array.getElem?_eq_some_iff.1 h1).1).trans h1⟩
theorem cell_new3(W:World)(v0 v1 v2 v3:Value):(W.alloc (.cells #[v0,v1,v2,v3] 46)).cell? ⟨W.heap.size,3,none⟩=some v3:=by
 unfold World.cell?
 rw [World.alloc_heap_new W (.cells #[v0,v1,v2,v3] 46)]
 rfl
abbrev Nd(g:Gh)(W0:World):Type:={ x:Pr × Option Addr × Nat × Nat // Rep g W0 (.sl 4 (Pr.cs (prK x.1))) (.slice x.2.1 x.2.2.1 x.2.2.2) }
abbrev Nd.enc{g:Gh}{W0:World}(x:Nd g W0):Value:=encP x.1.1 (.slice x.1.2.1 x.1.2.2.1 x.1.2.2.2)
theorem spotN{W:World}{a:Addr}{v:Value}(h:W.cell? a=some v):a=⟨a.block,a.off,none⟩:=by
 have:=spot_of_cell h
 cases a; simp only at this; subst this; rfl
theorem sl_val{g:Gh}{w:World}{z:Nat}{es:List (List PV)}{v:Value}(h:Rep g w (.sl z es) v):∃oa m c,v = .slice oa m c:=by
 cases h with
 | slnil=>exact ⟨none,0,0,rfl⟩
 | sl _ _ a cap _ _ _ _ _ _ _ _=>exact ⟨some a,_,cap,rfl⟩
theorem kids_inv{g:Gh}{W0:World}(x:Nd g W0):(prK x.1.1=[]/\x.1.2.2.1=0) ∨
  ∃b off,x.1.2.1=some ⟨b,off,none⟩/\x.1.2.2.1=(prK x.1.1).length/\0<(prK x.1.1).length/\(prK x.1.1).length<=9223372036854775807 /\
   ∀i,i<(prK x.1.1).length->∃y:Nd g W0,y.1.1=(prK x.1.1).getD i default/\W0.cell? ⟨b,off+i * 4,none⟩=some (.int .i64 (prO y.1.1))/\W0.cell? ⟨b,off+i * 4+1,none⟩=some (.string (prNm y.1.1)) /\
    W0.cell? ⟨b,off+i * 4+2,none⟩=some (.int .i64 (prN y.1.1))/\W0.cell? ⟨b,off+i * 4+3,none⟩=some (.slice y.1.2.1 y.1.2.2.1 y.1.2.2.2):=by
 obtain ⟨⟨p,oa,m,c⟩,h⟩:=x
 simp only at h ⊢
 generalize he:Pr.cs (prK p)=es at h
 generalize hv:Value.slice oa m c=v at h
 have hl:es.length=(prK p).length:=by rw [<-he,Pr.cs_len]
 cases h with
 | slnil=>
  injection hv with e1 e2 e3
  exact .inl ⟨List.eq_nil_of_length_eq_zero (by rw [<-hl]; rfl),e2⟩
 | sl _ _ a cap vs hle hcap hsz hc hf h1 hr=>
  injection hv with e1 e2 e3
  by_cases h0:(prK p).length=0
  ·exact .inl ⟨List.eq_nil_of_length_eq_zero h0,by omega⟩
  ·have c00:=spotN (hc 0 0 (by omega) (by omega))
   have ha:a=⟨a.block,a.off,none⟩:=by
    have h:=spot_of_cell (hc 0 0 (by omega) (by omega))
    cases a with
    | mk b o sp=>
     simp only [Addr.add] at h ⊢
     split at h <;> simp_all
   refine .inr ⟨a.block,a.off,by rw [e1,<-ha],by omega,by omega,Nat.le_trans (by omega) (Nat.le_trans hcap (by decide)),fun i hi=>?_⟩
   have hie:i<es.length:=by omega
   have hrow:es[i]=prL ((prK p).getD i default):=by
    have:=Pr.cs_at hi
    rw [he] at this
    rw [<-this]
    simp [List.getD,hie]
   have hat:∀j,a.add (i * 4+j)=⟨a.block,a.off+i * 4+j,none⟩:=fun j=>by
    rw [ha]; simp only [Addr.add]; simp [Nat.add_assoc]
   have hrr:∀j (hj:j<es[i].length),Rep g W0 es[i][j] (vs i j):=fun j hj=>hr i j hie hj
   have hlen:es[i].length=4:=hsz i hie
   have r0:Rep g W0 (.int .i64 (prO ((prK p).getD i default))) (vs i 0):=by have:=hrr 0 (by omega); simpa only [hrow,prL,List.getElem_cons_zero] using this
   have r1:Rep g W0 (.str (prNm ((prK p).getD i default))) (vs i 1):=by have:=hrr 1 (by omega); simpa only [hrow,prL,List.getElem_cons_zero,List.getElem_cons_succ] using this
   have r2:Rep g W0 (.int .i64 (prN ((prK p).getD i default))) (vs i 2):=by have:=hrr 2 (by omega); simpa only [hrow,prL,List.getElem_cons_zero,List.getElem_cons_succ] using this
   have r3:Rep g W0 (.sl 4 (Pr.cs (prK ((prK p).getD i default)))) (vs i 3):=by have:=hrr 3 (by omega); simpa only [hrow,prL,List.getElem_cons_zero,List.getElem_cons_succ] using this
   obtain ⟨oa',m',c',e'⟩:=sl_val r3
   have v0:vs i 0 = .int .i64 (prO ((prK p).getD i default)):=by generalize vs i 0=u at r0; cases r0; rfl
   have v1:vs i 1 = .string (prNm ((prK p).getD i default)):=by generalize vs i 1=u at r1; cases r1; rfl
   have v2:vs i 2 = .int .i64 (prN ((prK p).getD i default)):=by generalize vs i 2=u at r2; cases r2; rfl
   refine ⟨⟨⟨(prK p).getD i default,oa',m',c'⟩,by rw [e'] at r3; exact r3⟩,rfl,?_,?_,?_,?_⟩
   ·have:=hc i 0 hie (by omega); rw [hat,v0] at this; exact this
   ·have:=hc i 1 hie (by omega); rw [hat,v1] at this; exact this
   ·have:=hc i 2 hie (by omega); rw [hat,v2] at this; exact this
   ·have:=hc i 3 hie (by omega); rw [hat,e'] at this; exact this
theorem nodesPs_app:∀a b:List Pr,nodesPs (a++b)=nodesPs a++nodesPs b
 | [],b=>rfl
 | x::r,b=>by simp [nodesPs,nodesPs_app r b]
theorem nodesPs_take{ks:List Pr}{k:Nat}(h:k<ks.length):nodesPs (ks.take (k+1))=nodesPs (ks.take k)++nodesP (ks.getD k default):=by
 rw [List.take_add_one,nodesPs_app]
 simp [List.getD,h,nodesPs]
theorem nodesPs_le{ks:List Pr}{k:Nat}(h:k<ks.length):(nodesPs (ks.take k)).length+(nodesP (ks.getD k default)).length<=(nodesPs ks).length:=by
 have h1:nodesPs ks=nodesPs (ks.take (k+1))++nodesPs (ks.drop (k+1)):=by rw [<-nodesPs_app,List.take_append_drop]
 rw [h1,nodesPs_take h]
 simp only [List.length_append]
 omega
theorem nodesPs_pre{ks:List Pr}{k:Nat}(h:k<ks.length){q:List Pr}(hq:q <+: nodesP (ks.getD k default)):nodesPs (ks.take k)++q <+: nodesPs ks:=by
 have h1:nodesPs ks=nodesPs (ks.take (k+1))++nodesPs (ks.drop (k+1)):=by rw [<-nodesPs_app,List.take_append_drop]
 obtain ⟨r,hr⟩:=hq
 rw [h1,nodesPs_take h,<-hr]
 exact ⟨r++nodesPs (ks.drop (k+1)),by simp [List.append_assoc]⟩
abbrev YR{g:Gh}{W0:World}(J Jx:List (Nd g W0)->World->Prop)(pre:List (Nd g W0))(x:Nd g W0)(W:World)(e:Ending)(W':World):Prop:=
 (e = .returned (.bool true)/\J (pre++[x]) W'/\KC W W')∨(e = .returned (.bool false)/\Jx (pre++[x]) W')
set_option maxHeartbeats 2000000 in
theorem visit_in(F:Fence)(hd:F.depth=none)(h143:F.fn 146)(hro:F.round=none)(g:Gh)(W0:World)(l N:Nat)(J Jx:List (Nd g W0)->World->Prop)
  (hJ:∀s W W',J s W->W.grownBy W' none->J s W')
  (hY:∀m pre (x:Nd g W0) W,J pre W->pre.length<N->YieldAt F m Tryz.prog l #[x.enc] W (YR J Jx pre x W)) :
  ∀ (d:Nat) (x:Nd g W0) (n:Nat) (pre:List (Nd g W0)) (W:World),(nodesP x.1.1).length<=d->KC W0 W->J pre W->pre.length+(nodesP x.1.1).length<=N ->
   CallsIn F n Tryz.prog 146 #[x.enc,.func (.yield l) #[] #[]] W fun e W'=>
    (e = .returned (.bool true)/\(∃ys:List (Nd g W0),ys.map (·.1.1)=nodesP x.1.1/\J (pre++ys) W')/\KC W W') ∨
    (e = .returned (.bool false)/\∃ys:List (Nd g W0),ys.map (·.1.1) <+: nodesP x.1.1/\Jx (pre++ys) W'):=by
 intro d
 induction d with
 | zero=>intro x n pre W h; rw [nodesP_e] at h; simp at h
 | succ d ih=>
 intro x n pre W hlen hk0 hJ0 hN
 have hnd:(nodesPs (prK x.1.1)).length<=d:=by rw [nodesP_e] at hlen; simp at hlen; omega
 have hNs:pre.length+1+(nodesPs (prK x.1.1)).length<=N:=by rw [nodesP_e] at hN; simp at hN; omega
 have hpre1:∀q,q <+: nodesPs (prK x.1.1)->x.1.1::q <+: nodesP x.1.1:=fun q hq=>by rw [nodesP_e]; exact (List.prefix_cons_inj _).2 hq
 have hall:x.1.1::nodesPs (prK x.1.1)=nodesP x.1.1:=(nodesP_e _).symm
 have hkids:=kids_inv x
 have hY0:=fun m W=>hY m pre x W
 obtain ⟨p,oa,len,cap,hx⟩:∃p oa len cap,x.1=(p,oa,len,cap):=⟨_,_,_,_,rfl⟩
 simp only [Nd.enc] at hY0 ⊢
 rw [hx] at hlen hnd hNs hpre1 hall hkids hY0 hN ⊢
 simp only at hlen hnd hNs hpre1 hall hkids hY0 hN ⊢
 refine callsIn_of_wp Tryz.func146 rfl h143 ?_ hro
 simp only [Tryz.ntmps146,List.size_toArray,List.length_cons,List.length_nil,Nat.reduceAdd,Nat.reduceSub,Array.replicate_succ,Array.replicate_zero,List.push_toArray,List.append_toArray,List.nil_append,List.cons_append]
 have hdd:∀k:Nat,(F.depth.isSome=true->1<=k):=fun k h=>by rw [hd] at h; cases h
 have hJ1:J pre (W.alloc (.cells #[.int .i64 (prO p),.string (prNm p),.int .i64 (prN p),.slice oa len cap] 46)):=hJ _ _ _ hJ0 (World.grownBy_alloc W _ none)
 obtain ⟨fn,tmps,assign,body,hy,hR⟩:=hY0 (n - 1) _ hJ1 (by rw [nodesP_e] at hN; simp at hN; omega)
 have hR':=hR.mono (R':=fun e W2=>(e = .returned (.bool true)/\J (pre++[x]) W2/\KC W W2/\W2.cell? ⟨W.heap.size,3,none⟩=some (.slice oa len cap))∨(e = .returned (.bool false)/\Jx (pre++[x]) W2))
  (fun e W2 h=>h.elim (fun ⟨he,hj,hk⟩ => .inl ⟨he,hj,((KC.refl W).alloc _).trans hk,hk.cell (cell_new3 _ _ _ _ _)⟩) .inr)
 clear hR hY hY0
 gi_wp2_with ((try refine ⟨hdd _,?_⟩); refine hR'.mono ?_; clear hR'; rintro e W2 (⟨rfl,hj2,hk,hc⟩ | ⟨rfl,hx9⟩))
 ·rcases hkids with ⟨hnil,rfl⟩ | ⟨b,off,rfl,rfl,hpos,hmax,hcs⟩
  ·gi_loopw [14] (fun i wr=>i = .int .i64 0/\KC W wr/\J (pre++[x]) wr) (fun _ _=>0)
   case atStart=>exact ⟨rfl,hk,hj2⟩
   case round=>
    obtain ⟨rfl,hkc,hjy⟩:=hrel
    gi_wp2
    go_ret
    exact .inl ⟨rfl,⟨[x],by simp only [List.map_cons,List.map_nil,hx]; rw [hnil] at hall; exact hall,hjy⟩,hkc⟩
  ·gi_loopw [14] (fun i wr=>∃ (k:Nat) (ys:List (Nd g W0)),k<=(prK p).length/\i = .int .i64 k/\KC W wr/\ys.map (·.1.1)=nodesPs ((prK p).take k)/\J (pre++x::ys) wr) (fun i _=>(prK p).length - (intOf i).toNat)
   case atStart=>exact ⟨0,[],Nat.zero_le _,rfl,hk,rfl,hj2⟩
   case round=>
    obtain ⟨k,ys,hkl,rfl,hkc,hys,hjy⟩:=hrel
    by_cases hlt:k<(prK p).length
    ·obtain ⟨y,hy1,c0,c1,c2,c3⟩:=hcs k hlt
     have d0:=(hk0.trans hkc).cell c0
     have d1:=(hk0.trans hkc).cell c1
     have d2:=(hk0.trans hkc).cell c2
     have d3:=(hk0.trans hkc).cell c3
     have hle:=nodesPs_le hlt
     have htk:=nodesPs_take hlt
     have hpr:=fun q (hq:q <+: nodesP ((prK p).getD k default))=>nodesPs_pre hlt hq
     rw [<-hy1] at hle htk hpr
     have hyl:ys.length=(nodesPs ((prK p).take k)).length:=by rw [<-hys,List.length_map]
     have hcall:=ih y (n - 1) (pre++x::ys) (wr.alloc (.cells #[.int .i64 (prO y.1.1),.string (prNm y.1.1),.int .i64 (prN y.1.1),.slice y.1.2.1 y.1.2.2.1 y.1.2.2.2] 46)) (by omega) ((hk0.trans hkc).alloc _) (hJ _ _ _ hjy (World.grownBy_alloc _ _ none))
      (by simp only [List.length_append,List.length_cons]; omega)
     clear ih hcs hy1
     simp only [Nd.enc] at hcall
     obtain ⟨q,oa',m',c',hyx⟩:∃q oa' m' c',y.1=(q,oa',m',c'):=⟨_,_,_,_,rfl⟩
     rw [hyx] at hcall d0 d1 d2 d3 htk hpr hle
     simp only at hcall d0 d1 d2 d3 htk hpr hle
     clear hyx c0 c1 c2 c3
     gi_wp2_with ((try refine ⟨hdd _,?_⟩); gi_at_call 146; refine hcall.mono ?_; clear hcall; rintro e W3 (⟨rfl,⟨zs,hzs,hjz⟩,hk3⟩ | ⟨rfl,zs,hzs,hxz⟩))
     ·go_roundw
      case rel=>exact ⟨k+1,ys++zs,hlt,by simp,(hkc.alloc _).trans hk3,by rw [List.map_append,hys,hzs,htk],by rw [<-List.cons_append,<-List.append_assoc]; exact hjz⟩
      case measure=>simp [intOf]; omega
     ·go_ret
      exact .inr ⟨rfl,x::(ys++zs),by simp only [List.map_cons,List.map_append,hys,hx]; exact hpre1 _ (hpr _ hzs),by rw [<-List.cons_append,<-List.append_assoc]; exact hxz⟩
    ·obtain rfl:k=(prK p).length:=by omega
     gi_wp2
     go_ret
     exact .inl ⟨rfl,⟨x::ys,by simp only [List.map_cons,hys,hx,List.take_length]; exact hall,hjy⟩,hkc⟩
 ·go_ret
  exact .inr ⟨rfl,[x],by simp only [List.map_cons,List.map_nil,hx]; exact hpre1 [] (List.nil_prefix),by exact hx9⟩
set_option maxHeartbeats 1000000 in
theorem before1_in(F:Fence)(hd:F.depth=none)(h142:F.fn 145)(h143:F.fn 146)(hro:F.round=none)(g:Gh)(W0:World)(l Bs:Nat)(x:Nd g W0)(n:Nat)(J Jx:List (Nd g W0)->World->Prop)
  (hJ:∀s W W',J s W->W.grownBy W' none->J s W')
  (hY:∀m pre (y:Nd g W0) W,J pre W->pre.length<(nodesP x.1.1).length->YieldAt F m Tryz.prog l #[y.enc] W (YR J Jx pre y W)) (W:World) (hk0:KC W0 W)
  (h1:W.cell? ⟨Bs,0,none⟩=some (.int .i64 (prO x.1.1))) (h2:W.cell? ⟨Bs,1,none⟩=some (.string (prNm x.1.1))) (h3:W.cell? ⟨Bs,2,none⟩=some (.int .i64 (prN x.1.1))) (h4:W.cell? ⟨Bs,3,none⟩=some (.slice x.1.2.1 x.1.2.2.1 x.1.2.2.2)) (h0:J [] W) :
  CallsIn F n Tryz.prog 145 #[.func (.yield l) #[] #[],.pointer (some ⟨Bs,0,none⟩)] W fun e W'=>(∃v,e = .returned v) /\
   ((∃ys:List (Nd g W0),ys.map (·.1.1)=nodesP x.1.1/\J ys W')∨(∃ys:List (Nd g W0),ys.map (·.1.1) <+: nodesP x.1.1/\Jx ys W')):=by
 have hdd:∀k:Nat,(F.depth.isSome=true->1<=k):=fun k h=>by rw [hd] at h; cases h
 have hcall:=visit_in F hd h143 hro g W0 l _ J Jx hJ hY _ x (n - 1) [] W (Nat.le_refl _) hk0 h0 (by simp)
 simp only [Nd.enc,List.nil_append] at hcall
 obtain ⟨p,oa,len,cap,hx⟩:∃p oa len cap,x.1=(p,oa,len,cap):=⟨_,_,_,_,rfl⟩
 rw [hx] at hcall h1 h2 h3 h4 ⊢
 simp only at hcall h1 h2 h3 h4 ⊢
 clear hY hx
 refine callsIn_of_wp Tryz.func145 rfl h142 ?_ hro
 simp only [Tryz.ntmps145,List.size_toArray,List.length_cons,List.length_nil,Nat.reduceAdd,Nat.reduceSub,Array.replicate_succ,Array.replicate_zero,List.push_toArray,List.append_toArray,List.nil_append,List.cons_append]
 gi_wp2_with ((try refine ⟨hdd _,?_⟩); gi_at_call 146; refine hcall.mono ?_; clear hcall; rintro e W1 (⟨rfl,⟨ys,hys,hj⟩,_⟩ | ⟨rfl,ys,hys,hx⟩))
 ·go_end0
  exact ⟨⟨_,rfl⟩,.inl ⟨ys,hys,hj⟩⟩
 ·go_end0
  exact ⟨⟨_,rfl⟩,.inr ⟨ys,hys,hx⟩⟩
set_option maxHeartbeats 1000000 in
theorem before_in(F:Fence)(n:Nat)(h100:F.fn 97)(hro:F.round=none)(p:Pr)(oa:Option Addr)(m c:Nat)(w:World) :
  CallsIn F n Tryz.prog 97 #[encP p (.slice oa m c)] w fun e w'=>e = .returned (.func (.func 145) #[] #[.pointer (some ⟨w.heap.size,0,none⟩)])/\w'=w.alloc (.cells #[.int .i64 (prO p),.string (prNm p),.int .i64 (prN p),.slice oa m c] 46):=by
 refine callsIn_of_wp Tryz.func97 rfl h100 ?_ hro
 simp only [Tryz.ntmps97,List.size_toArray,List.length_cons,List.length_nil,Nat.reduceAdd,Nat.reduceSub,Array.replicate_succ,Array.replicate_zero,List.push_toArray,List.append_toArray,List.nil_append,List.cons_append]
 gi_wp2
 go_ret
 exact ⟨rfl,rfl⟩
open Go.Pv Go.Proofs.Tryz
set_option maxRecDepth 100000
def coreB(s:BA):Bool:=decide (s.size<=120)&&(if ptS s<s.size then (nameB (s.extract 0 (ptS s))||titleB (s.extract 0 (ptS s))||decide (s.extract 0 (ptS s)=tV))&&corG (s.extract (ptS s+1) s.size) else nameB s||titleB s)
theorem coM_t{x:BA}{b:Bool}(h:corG x=b):coM (x,true)=b:=by rw [<-h]; unfold coM; rw [iP rfl]
theorem nCoT(s:BA):Pu 149 [.str s] (.ret (.int .i64 (erN (coreB s)))):=by
 unfold coreB
 by_cases hl:s.size<=120
 ·have hl':(s.size:Int)<=120:=by omega
  rw [decide_eq_true hl,Bool.true_and]
  by_cases hx:ptS s<s.size
  ·rw [iP hx]
   cases h0:nameB (s.extract 0 (ptS s)) with
   | true=>
    cases h3:corG (s.extract (ptS s+1) s.size) with
    | true=>simpa only [Bool.true_or,Bool.false_or,Bool.true_and,Bool.or_true,Bool.false_and,Bool.and_true,Bool.and_false,Bool.or_false,erN,if_true,Bool.false_eq_true,if_false] using nCoB_6 s hl' hx h0 (coM_t h3)
    | false=>simpa only [Bool.true_or,Bool.false_or,Bool.true_and,Bool.or_true,Bool.false_and,Bool.and_true,Bool.and_false,Bool.or_false,erN,if_true,Bool.false_eq_true,if_false] using nCoB_7 s hl' hx h0 (coM_t h3)
   | false=>
    cases h1:titleB (s.extract 0 (ptS s)) with
    | true=>
     cases h3:corG (s.extract (ptS s+1) s.size) with
     | true=>simpa only [Bool.true_or,Bool.false_or,Bool.true_and,Bool.or_true,Bool.false_and,Bool.and_true,Bool.and_false,Bool.or_false,erN,if_true,Bool.false_eq_true,if_false] using nCoB_4 s hl' hx h0 h1 (coM_t h3)
     | false=>simpa only [Bool.true_or,Bool.false_or,Bool.true_and,Bool.or_true,Bool.false_and,Bool.and_true,Bool.and_false,Bool.or_false,erN,if_true,Bool.false_eq_true,if_false] using nCoB_5 s hl' hx h0 h1 (coM_t h3)
    | false=>
     by_cases h2:s.extract 0 (ptS s)=tV
     ·rw [decide_eq_true h2]
      cases h3:corG (s.extract (ptS s+1) s.size) with
      | true=>simpa only [Bool.true_or,Bool.false_or,Bool.true_and,Bool.or_true,Bool.false_and,Bool.and_true,Bool.and_false,Bool.or_false,erN,if_true,Bool.false_eq_true,if_false] using nCoB_2 s hl' hx h0 h1 h2 (coM_t h3)
      | false=>simpa only [Bool.true_or,Bool.false_or,Bool.true_and,Bool.or_true,Bool.false_and,Bool.and_true,Bool.and_false,Bool.or_false,erN,if_true,Bool.false_eq_true,if_false] using nCoB_3 s hl' hx h0 h1 h2 (coM_t h3)
     ·rw [decide_eq_false h2]; simpa only [Bool.true_or,Bool.false_or,Bool.true_and,Bool.or_true,Bool.false_and,Bool.and_true,Bool.and_false,Bool.or_false,erN,if_true,Bool.false_eq_true,if_false] using nCoB_1 s hl' hx h0 h1 h2
  ·rw [iN hx]
   cases h0:nameB s with
   | true=>simpa only [Bool.true_or,Bool.false_or,Bool.true_and,Bool.or_true,Bool.false_and,Bool.and_true,Bool.and_false,Bool.or_false,erN,if_true,Bool.false_eq_true,if_false] using nCoC_4 s hl' hx h0
   | false=>
    cases h1:titleB s with
    | true=>simpa only [Bool.true_or,Bool.false_or,Bool.true_and,Bool.or_true,Bool.false_and,Bool.and_true,Bool.and_false,Bool.or_false,erN,if_true,Bool.false_eq_true,if_false] using nCoC_3 s hl' hx h0 h1
    | false=>
     by_cases h2:s=tV
     ·simpa only [Bool.true_or,Bool.false_or,Bool.true_and,Bool.or_true,Bool.false_and,Bool.and_true,Bool.and_false,Bool.or_false,erN,if_true,Bool.false_eq_true,if_false] using nCoC_2 s hl' hx h0 h1 h2
     ·simpa only [Bool.true_or,Bool.false_or,Bool.true_and,Bool.or_true,Bool.false_and,Bool.and_true,Bool.and_false,Bool.or_false,erN,if_true,Bool.false_eq_true,if_false] using nCoC_1 s hl' hx h0 h1 h2
 ·rw [decide_eq_false hl,Bool.false_and]; simpa only [Bool.true_or,Bool.false_or,Bool.true_and,Bool.or_true,Bool.false_and,Bool.and_true,Bool.and_false,Bool.or_false,erN,if_true,Bool.false_eq_true,if_false] using nCoA s oM
def plc(s:BA)(l:List BA):Int:=if ix id s l<l.length then (ix id s l:Nat) else -1
def frE{α:Type}(f:α->Int):List α->Int
 | []=>0
 | x::r=>if f x=0 then frE f r else f x
theorem pr_bulk(x:Pr):bulkPss (Pr.cs (prK x))<bulkPs (prL x):=by simp only [bulkPs,bulkP]; omega
def pkS_r0(o:Int):Int:=(if o=1 then 0 else (if o=2 then 0 else (if o=3 then 0 else (if o=4 then 1 else (if o=5 then 1 else (if o=9 then 1 else (if o=14 then 1 else 2)))))))
def pkS_r1(o:Int):Int:=(if o=1 then 0 else (if o=2 then 0 else (if o=3 then 0 else (if o=4 then 24 else (if o=5 then 24 else (if o=9 then 1 else (if o=14 then 1 else 2)))))))
theorem pkS(o:Int):Pu 147 [pI o] (.ret (.tup [pI (pkS_r0 o),pI (pkS_r1 o)])):=by
 refine t0 ?_;by_cases h0:o=1
 ·simp only [pkS_r0,pkS_r1,iP h0]; exact tM mdL [rp 2 (et1 h0)] func147
 ·refine tp [en1 h0] ?_;by_cases h1:o=2
  ·simp only [pkS_r0,pkS_r1,iN h0,iP h1]; exact tM mdL [rp 2 (et1 h1)] func147
  ·refine tp [en1 h1] ?_;by_cases h2:o=3
   ·simp only [pkS_r0,pkS_r1,iN h0,iN h1,iP h2]; exact tM mdL [et1 h2] func147
   ·refine tp [en1 h2] ?_;by_cases h3:o=4
    ·simp only [pkS_r0,pkS_r1,iN h0,iN h1,iN h2,iP h3]; exact tM mdL [rp 2 (et1 h3)] func147
    ·refine tp [en1 h3] ?_;by_cases h4:o=5
     ·simp only [pkS_r0,pkS_r1,iN h0,iN h1,iN h2,iN h3,iP h4]; exact tM mdL [et1 h4] func147
     ·refine tp [en1 h4] ?_;by_cases h5:o=9
      ·simp only [pkS_r0,pkS_r1,iN h0,iN h1,iN h2,iN h3,iN h4,iP h5]; exact tM mdL [rp 2 (et1 h5)] func147
      ·refine tp [en1 h5] ?_;by_cases h6:o=14
       ·simp only [pkS_r0,pkS_r1,iN h0,iN h1,iN h2,iN h3,iN h4,iN h5,iP h6]; exact tM mdL [et1 h6] func147
       ·simp only [pkS_r0,pkS_r1,iN h0,iN h1,iN h2,iN h3,iN h4,iN h5,iN h6]; exact tM mdL [en1 h6] func147
def pnS_r0(o:Int):Bool:=(if o=3 then true else (if o=4 then true else (o==5)))
theorem pnS(o:Int):Pu 148 [pI o] (rB (pnS_r0 o)):=by
 by_cases h0:o=3
 ·simp only [pnS_r0,iP h0]; exact pm mdL [rp 3 (et1 h0),rp 3 (bt true)] func148
 ·by_cases h1:o=4
  ·simp only [pnS_r0,iN h0,iP h1]; exact pm mdL [rp 3 (en1 h0),rp 3 (et1 h1)] func148
  ·simp only [pnS_r0,iN h0,iN h1]; exact pm mdL [rp 3 (en1 h0),rp 3 (en1 h1)] func148
def niS_r0(n:Int):Bool:=(if n >= -1000000000000 then (decide (n<=1000000000000)) else false)
theorem niS(n:Int):Pu 130 [pI n] (rB (niS_r0 n)):=by
 by_cases h0:n >= -1000000000000
 ·simp only [niS_r0,iP h0]; exact pm mdL [rp 3 (dt1 h0)] func130
 ·simp only [niS_r0,iN h0]; exact pm mdL [rp 3 (df1 h0)] func130
abbrev pqA_I(u:Pr)(dfz:Pr->Int)(j:Int)(n:Int)(e:Ext):S:=S.mk [(2,vI6 0),(3,vI6 n),(7,vL 4 (Pr.cs (prK u))),(8,vI6 ((prK u).length:Int)),(9,vI6 j)] [] e
def pqA_f(dfz:Pr->Int):List Pr->(Int)->(Int)
 | [],n=>(n)
 | el::r,n=>pqA_f dfz r (IntKind.wrap .i64 (n+dfz el))
def pqA_q(u:Pr)(dfz:Pr->Int)(e:Ext)(p:(Int)):PExit × S:=(.exit 0,S.mk [(2,vI6 0),(3,vI6 p),(7,vL 4 (Pr.cs (prK u))),(8,vI6 ((prK u).length:Int))] [] e)
theorem pqA(u:Pr)(dfz:Pr->Int)(hwk:∀w:Pr,w∈prK u->Pu 95 [.agg (prL w)] (.ret (.int .i64 (dfz w))))(n:Int)(e:Ext)(hN:(prK u).length<=1000000000)  : (Ob.loop 19 (loopF f95 0) (pqA_I u dfz 0 n e) (pqA_q u dfz e (pqA_f dfz ((prK u))  n)).1 (pqA_q u dfz e (pqA_f dfz ((prK u))  n)).2).ok prog:=by
 refine rng ((prK u).length) (fun j n=>pqA_I u dfz j n e) (fun i n=>pqA_f dfz (List.drop i ((prK u)))  n) (pqA_q u dfz e) (fun i n=>True) kR ?_ n trivial
 rintro i n hi -
 rcases Nat.lt_or_ge i ((prK u).length) with hlt | hge
 ·have hd:=drop_at hlt
  exact lN mdL [rgPr hlt,cl (@hwk (List.getD (prK u) i default) (by simp_all [tn1])),kp,wr ((i:Int)+1)] hlt (IntKind.wrap .i64 (n+dfz (List.getD (prK u) i default))) trivial (by rw [hd,pqA_f])
 ·have he:i=(prK u).length:=by omega
  exact lX mdL [df ((i:Int)<((prK u).length:Int))] (n) (by rw [he,List.drop_length,pqA_f])
theorem pqL(u:Pr)(dfz:Pr->Int)(hwk:∀w:Pr,w∈prK u->Pu 95 [.agg (prL w)] (.ret (.int .i64 (dfz w))))(hN:(prK u).length<=1000000000):Pu 95 [.agg (prL u)] (rI (pqA_f dfz (prK u) 1)):=
 pu mdL (fun e=>[sl (Pr.cs_len (prK u)),lq (@pqA u dfz hwk 1 e hN)]) func95
def pqD:Nat->Pr->Int
 | 0,_=>0
 | d+1,u=>pqA_f (pqD d) (prK u) 1
theorem pq_ok:∀ (d:Nat) (u:Pr),bulkPs (prL u)<d->d<=100000001->Pu 95 [.agg (prL u)] (.ret (.int .i64 (pqD d u)))
 | 0,_,h,_=>by omega
 | d+1,u,h,hs=>pqL u (pqD d) (fun w hw=>pq_ok d w (by have:=pr_bulk u; have:=Pr.mem hw; omega) oM) (by have:=pr_bulk u; have:=Pr.bulk (prK u); omega)
def pqF(u:Pr):Int:=pqD (bulkPs (prL u)+1) u
theorem pqT(u:Pr)(hs:bulkPs (prL u)<=100000000):Pu 95 [.agg (prL u)] (.ret (.int .i64 (pqF u))):=pq_ok _ u oM oM
abbrev peA_I(u:Pr)(dfz:Pr->Int)(j:Int)(n:Int)(e:Ext):S:=S.mk [(2,vI6 0),(3,vI6 n),(7,vL 4 (Pr.cs (prK u))),(8,vI6 ((prK u).length:Int)),(9,vI6 j)] [] e
def peA_f(dfz:Pr->Int):List Pr->(Int)->(Int)
 | [],n=>(n)
 | el::r,n=>peA_f dfz r (mxI true n (dfz el))
def peA_q(u:Pr)(dfz:Pr->Int)(e:Ext)(p:(Int)):PExit × S:=(.exit 0,S.mk [(2,vI6 0),(3,vI6 p),(7,vL 4 (Pr.cs (prK u))),(8,vI6 ((prK u).length:Int))] [] e)
theorem peA(u:Pr)(dfz:Pr->Int)(hwk:∀w:Pr,w∈prK u->Pu 96 [.agg (prL w)] (.ret (.int .i64 (dfz w))))(n:Int)(e:Ext)(hN:(prK u).length<=1000000000)  : (Ob.loop 20 (loopF f96 0) (peA_I u dfz 0 n e) (peA_q u dfz e (peA_f dfz ((prK u))  n)).1 (peA_q u dfz e (peA_f dfz ((prK u))  n)).2).ok prog:=by
 refine rng ((prK u).length) (fun j n=>peA_I u dfz j n e) (fun i n=>peA_f dfz (List.drop i ((prK u)))  n) (peA_q u dfz e) (fun i n=>True) kR ?_ n trivial
 rintro i n hi -
 rcases Nat.lt_or_ge i ((prK u).length) with hlt | hge
 ·have hd:=drop_at hlt
  exact lN mdL [rgPr hlt,cl (@hwk (List.getD (prK u) i default) (by simp_all [tn1])),wr ((i:Int)+1)] hlt (mxI true n (dfz (List.getD (prK u) i default))) trivial (by rw [hd,peA_f])
 ·have he:i=(prK u).length:=by omega
  exact lX mdL [df ((i:Int)<((prK u).length:Int))] (n) (by rw [he,List.drop_length,peA_f])
theorem peL(u:Pr)(dfz:Pr->Int)(hwk:∀w:Pr,w∈prK u->Pu 96 [.agg (prL w)] (.ret (.int .i64 (dfz w))))(hN:(prK u).length<=1000000000):Pu 96 [.agg (prL u)] (rI (IntKind.wrap .i64 (peA_f dfz (prK u) 0+1))):=
 pu mdL (fun e=>[sl (Pr.cs_len (prK u)),lq (@peA u dfz hwk 0 e hN),kp]) func96
def peD:Nat->Pr->Int
 | 0,_=>0
 | d+1,u=>IntKind.i64.wrap (peA_f (peD d) (prK u) 0+1)
theorem pe_ok:∀ (d:Nat) (u:Pr),bulkPs (prL u)<d->d<=100000001->Pu 96 [.agg (prL u)] (.ret (.int .i64 (peD d u)))
 | 0,_,h,_=>by omega
 | d+1,u,h,hs=>peL u (peD d) (fun w hw=>pe_ok d w (by have:=pr_bulk u; have:=Pr.mem hw; omega) oM) (by have:=pr_bulk u; have:=Pr.bulk (prK u); omega)
def peF(u:Pr):Int:=peD (bulkPs (prL u)+1) u
theorem peT(u:Pr)(hs:bulkPs (prL u)<=100000000):Pu 96 [.agg (prL u)] (.ret (.int .i64 (peF u))):=pe_ok _ u oM oM
abbrev nd0(u:Pr)(xe:Ext):S:=⟨[(1,.lp 1 0),(2,.v (.int .i64 0))],[(1,prV u)],xe⟩
abbrev nd1(u:Pr)(a b:Int)(xe:Ext):S:=⟨[(1,.lp 1 0),(2,.v (.int .i64 0)),(3,.v (.int .i64 a)),(4,.v (.int .i64 b))],[(1,prV u)],xe⟩
abbrev nd2(u:Pr)(a b:Int)(x y:Bool)(xe:Ext):S:=⟨[(1,.lp 1 0),(2,.v (.int .i64 0)),(3,.v (.int .i64 a)),(4,.v (.int .i64 b)),(5,.v (.bool x)),(6,.v (.bool y))],[(1,prV u)],xe⟩
abbrev nd3(u:Pr)(a b:Int)(x:Bool)(xe:Ext):S:=⟨[(1,.lp 1 0),(2,.v (.int .i64 0)),(3,.v (.int .i64 a)),(4,.v (.int .i64 b)),(5,.v (.bool x))],[(1,prV u)],xe⟩
theorem nd_1_1(u:Pr)(xe:Ext)(hx0:prO u<1)(cx:Cx)(hcx:cx.n=130){Q:PExit->S->Prop}(hq:Q (.normal) (S.mk [(1,.lp 1 0),(2,vI6 0),(14,.v (.bool true))] [(1,prV u)] xe)):PW prog cx (regF f98 1) (nd0 u xe) Q:=
 pw mdL 130 [rp 4 (dt1 hx0)] [1,2,14] [1] hcx hq
theorem nd_1_2(u:Pr)(xe:Ext)(hx0:¬prO u<1)(cx:Cx)(hcx:cx.n=130){Q:PExit->S->Prop}(hq:Q (.normal) (S.mk [(1,.lp 1 0),(2,vI6 0),(14,.v (.bool (decide (prO u>18))))] [(1,prV u)] xe)):PW prog cx (regF f98 1) (nd0 u xe) Q:=
 pw mdL 130 [rp 4 (df1 hx0)] [1,2,14] [1] hcx hq
def nd_1_v14(u:Pr):Bool:=(if prO u<1 then (true) else ((decide (prO u>18))))
theorem nd_1J(u:Pr)(xe:Ext):(Ob.frag 130 (regF f98 1) (nd0 u xe) (.normal) (S.mk [(1,.lp 1 0),(2,vI6 0),(14,.v (.bool (nd_1_v14 u)))] [(1,prV u)] xe)).ok prog:=by
 intro cx hcx
 by_cases g0:prO u<1
 ·exact nd_1_1 u xe g0 cx hcx ⟨rfl,by rw [show nd_1_v14 u=(true) by unfold nd_1_v14; rw [iP g0]]⟩
 ·exact nd_1_2 u xe g0 cx hcx ⟨rfl,by rw [show nd_1_v14 u=((decide (prO u>18))) by unfold nd_1_v14; rw [iN g0]]⟩
section
variable (u:Pr) (a b:Int) (xe:Ext)
include u a b xe
theorem nd_4_1(hx0:pnS_r0 (prO u)=false)(hx1:¬prNm u=ByteArray.mk #[])(cx:Cx)(hcx:cx.n=130){Q:PExit->S->Prop}(hq:Q (.normal) (S.mk [(1,.lp 1 0),(2,vI6 0),(3,vI6 a),(4,vI6 b),(58,.v (.bool true))] [(1,prV u)] xe)):PW prog cx (regF f98 4) (nd1 u a b xe) Q:=
 pw mdL 130 [cl (@pnS (prO u)),rp 4 (bt1 (bnT hx0)),rp 8 (bt (!ByteArray.toList (prNm u)==ByteArray.toList nm0) (bnT (bsF hx1))),rp 12 (bt true)] [1,2,3,4,58] [1] hcx hq
theorem nd_4_2(hx0:pnS_r0 (prO u)=false)(hx1:prNm u=ByteArray.mk #[])(hx2:¬prO u=1)(hx3:¬prO u=2)(hx4:¬prN u=0)(cx:Cx)(hcx:cx.n=130){Q:PExit->S->Prop}(hq:Q (.normal) (S.mk [(1,.lp 1 0),(2,vI6 0),(3,vI6 a),(4,vI6 b),(58,.v (.bool true))] [(1,prV u)] xe)):PW prog cx (regF f98 4) (nd1 u a b xe) Q:=
 pw mdL 130 [cl (@pnS (prO u)),rp 4 (bt1 (bnT hx0)),rp 4 (bf (!ByteArray.toList (prNm u)==ByteArray.toList nm0) (bnF (bsT hx1))),rp 3 (nt1 hx2),bf (!ByteArray.toList (prNm u)==ByteArray.toList nm0) (bnF (bsT hx1)),nt1 hx2,bf (!ByteArray.toList (prNm u)==ByteArray.toList nm0) (bnF (bsT hx1)),rp 3 (nt1 hx3),bf (!ByteArray.toList (prNm u)==ByteArray.toList nm0) (bnF (bsT hx1)),nt1 hx3,bf (!ByteArray.toList (prNm u)==ByteArray.toList nm0) (bnF (bsT hx1)),rp 6 (nt1 hx4),rp 6 (bt true)] [1,2,3,4,58] [1] hcx hq
theorem nd_4_3(hx0:pnS_r0 (prO u)=false)(hx1:prNm u=ByteArray.mk #[])(hx2:¬prO u=1)(hx3:¬prO u=2)(hx4:prN u=0)(hx5:((prK u).length:Int)<a)(cx:Cx)(hcx:cx.n=130){Q:PExit->S->Prop}(hq:Q (.normal) (S.mk [(1,.lp 1 0),(2,vI6 0),(3,vI6 a),(4,vI6 b),(58,.v (.bool true))] [(1,prV u)] xe)):PW prog cx (regF f98 4) (nd1 u a b xe) Q:=
 pw mdL 130 [cl (@pnS (prO u)),rp 4 (bt1 (bnT hx0)),rp 4 (bf (!ByteArray.toList (prNm u)==ByteArray.toList nm0) (bnF (bsT hx1))),rp 3 (nt1 hx2),bf (!ByteArray.toList (prNm u)==ByteArray.toList nm0) (bnF (bsT hx1)),nt1 hx2,bf (!ByteArray.toList (prNm u)==ByteArray.toList nm0) (bnF (bsT hx1)),rp 3 (nt1 hx3),bf (!ByteArray.toList (prNm u)==ByteArray.toList nm0) (bnF (bsT hx1)),nt1 hx3,bf (!ByteArray.toList (prNm u)==ByteArray.toList nm0) (bnF (bsT hx1)),rp 3 (nn1 hx4),sl (Pr.cs_len (prK u)),rp 3 (nn1 hx4),rp 6 (dt1 hx5)] [1,2,3,4,58] [1] hcx hq
theorem nd_4_4(hx0:pnS_r0 (prO u)=false)(hx1:prNm u=ByteArray.mk #[])(hx2:¬prO u=1)(hx3:¬prO u=2)(hx4:prN u=0)(hx5:¬((prK u).length:Int)<a)(cx:Cx)(hcx:cx.n=130){Q:PExit->S->Prop}(hq:Q (.normal) (S.mk [(1,.lp 1 0),(2,vI6 0),(3,vI6 a),(4,vI6 b),(58,.v (.bool (decide (((prK u).length:Int)>b))))] [(1,prV u)] xe)):PW prog cx (regF f98 4) (nd1 u a b xe) Q:=
 pw mdL 130 [cl (@pnS (prO u)),rp 4 (bt1 (bnT hx0)),rp 4 (bf (!ByteArray.toList (prNm u)==ByteArray.toList nm0) (bnF (bsT hx1))),rp 3 (nt1 hx2),bf (!ByteArray.toList (prNm u)==ByteArray.toList nm0) (bnF (bsT hx1)),nt1 hx2,bf (!ByteArray.toList (prNm u)==ByteArray.toList nm0) (bnF (bsT hx1)),rp 3 (nt1 hx3),bf (!ByteArray.toList (prNm u)==ByteArray.toList nm0) (bnF (bsT hx1)),nt1 hx3,bf (!ByteArray.toList (prNm u)==ByteArray.toList nm0) (bnF (bsT hx1)),rp 3 (nn1 hx4),sl (Pr.cs_len (prK u)),rp 3 (nn1 hx4),rp 3 (df1 hx5),sl (Pr.cs_len (prK u)),rp 3 (df1 hx5)] [1,2,3,4,58] [1] hcx hq
theorem nd_4_5(hx0:pnS_r0 (prO u)=false)(hx1:prNm u=ByteArray.mk #[])(hx2:¬prO u=1)(hx3:prO u=2)(hx4:((prK u).length:Int)<a)(cx:Cx)(hcx:cx.n=130){Q:PExit->S->Prop}(hq:Q (.normal) (S.mk [(1,.lp 1 0),(2,vI6 0),(3,vI6 a),(4,vI6 b),(58,.v (.bool true))] [(1,prV u)] xe)):PW prog cx (regF f98 4) (nd1 u a b xe) Q:=
 pw mdL 130 [cl (@pnS (prO u)),rp 4 (bt1 (bnT hx0)),rp 4 (bf (!ByteArray.toList (prNm u)==ByteArray.toList nm0) (bnF (bsT hx1))),rp 3 (nt1 hx2),bf (!ByteArray.toList (prNm u)==ByteArray.toList nm0) (bnF (bsT hx1)),nt1 hx2,bf (!ByteArray.toList (prNm u)==ByteArray.toList nm0) (bnF (bsT hx1)),rp 3 (nn1 hx3),bf (!ByteArray.toList (prNm u)==ByteArray.toList nm0) (bnF (bsT hx1)),nn1 hx3,bf (!ByteArray.toList (prNm u)==ByteArray.toList nm0) (bnF (bsT hx1)),rp 3 (bf false),sl (Pr.cs_len (prK u)),rp 3 (bf false),rp 6 (dt1 hx4)] [1,2,3,4,58] [1] hcx hq
theorem nd_4_6(hx0:pnS_r0 (prO u)=false)(hx1:prNm u=ByteArray.mk #[])(hx2:¬prO u=1)(hx3:prO u=2)(hx4:¬((prK u).length:Int)<a)(cx:Cx)(hcx:cx.n=130){Q:PExit->S->Prop}(hq:Q (.normal) (S.mk [(1,.lp 1 0),(2,vI6 0),(3,vI6 a),(4,vI6 b),(58,.v (.bool (decide (((prK u).length:Int)>b))))] [(1,prV u)] xe)):PW prog cx (regF f98 4) (nd1 u a b xe) Q:=
 pw mdL 130 [cl (@pnS (prO u)),rp 4 (bt1 (bnT hx0)),rp 4 (bf (!ByteArray.toList (prNm u)==ByteArray.toList nm0) (bnF (bsT hx1))),rp 3 (nt1 hx2),bf (!ByteArray.toList (prNm u)==ByteArray.toList nm0) (bnF (bsT hx1)),nt1 hx2,bf (!ByteArray.toList (prNm u)==ByteArray.toList nm0) (bnF (bsT hx1)),rp 3 (nn1 hx3),bf (!ByteArray.toList (prNm u)==ByteArray.toList nm0) (bnF (bsT hx1)),nn1 hx3,bf (!ByteArray.toList (prNm u)==ByteArray.toList nm0) (bnF (bsT hx1)),rp 3 (bf false),sl (Pr.cs_len (prK u)),rp 3 (bf false),rp 3 (df1 hx4),sl (Pr.cs_len (prK u)),rp 3 (df1 hx4)] [1,2,3,4,58] [1] hcx hq
theorem nd_4_7(hx0:pnS_r0 (prO u)=false)(hx1:prNm u=ByteArray.mk #[])(hx2:prO u=1)(hx3:((prK u).length:Int)<a)(cx:Cx)(hcx:cx.n=130){Q:PExit->S->Prop}(hq:Q (.normal) (S.mk [(1,.lp 1 0),(2,vI6 0),(3,vI6 a),(4,vI6 b),(58,.v (.bool true))] [(1,prV u)] xe)):PW prog cx (regF f98 4) (nd1 u a b xe) Q:=
 pw mdL 130 [cl (@pnS (prO u)),rp 4 (bt1 (bnT hx0)),rp 4 (bf (!ByteArray.toList (prNm u)==ByteArray.toList nm0) (bnF (bsT hx1))),rp 3 (nn1 hx2),bf (!ByteArray.toList (prNm u)==ByteArray.toList nm0) (bnF (bsT hx1)),nn1 hx2,bf (!ByteArray.toList (prNm u)==ByteArray.toList nm0) (bnF (bsT hx1)),rp 3 (bf false),bf (!ByteArray.toList (prNm u)==ByteArray.toList nm0) (bnF (bsT hx1)),bf false,bf (!ByteArray.toList (prNm u)==ByteArray.toList nm0) (bnF (bsT hx1)),rp 3 (bf false),sl (Pr.cs_len (prK u)),rp 3 (bf false),rp 6 (dt1 hx3)] [1,2,3,4,58] [1] hcx hq
theorem nd_4_8(hx0:pnS_r0 (prO u)=false)(hx1:prNm u=ByteArray.mk #[])(hx2:prO u=1)(hx3:¬((prK u).length:Int)<a)(cx:Cx)(hcx:cx.n=130){Q:PExit->S->Prop}(hq:Q (.normal) (S.mk [(1,.lp 1 0),(2,vI6 0),(3,vI6 a),(4,vI6 b),(58,.v (.bool (decide (((prK u).length:Int)>b))))] [(1,prV u)] xe)):PW prog cx (regF f98 4) (nd1 u a b xe) Q:=
 pw mdL 130 [cl (@pnS (prO u)),rp 4 (bt1 (bnT hx0)),rp 4 (bf (!ByteArray.toList (prNm u)==ByteArray.toList nm0) (bnF (bsT hx1))),rp 3 (nn1 hx2),bf (!ByteArray.toList (prNm u)==ByteArray.toList nm0) (bnF (bsT hx1)),nn1 hx2,bf (!ByteArray.toList (prNm u)==ByteArray.toList nm0) (bnF (bsT hx1)),rp 3 (bf false),bf (!ByteArray.toList (prNm u)==ByteArray.toList nm0) (bnF (bsT hx1)),bf false,bf (!ByteArray.toList (prNm u)==ByteArray.toList nm0) (bnF (bsT hx1)),rp 3 (bf false),sl (Pr.cs_len (prK u)),rp 3 (bf false),rp 3 (df1 hx3),sl (Pr.cs_len (prK u)),rp 3 (df1 hx3)] [1,2,3,4,58] [1] hcx hq
theorem nd_4_9(hx0:pnS_r0 (prO u)=true)(hx1:¬prO u=1)(hx2:¬prO u=2)(hx3:¬prN u=0)(cx:Cx)(hcx:cx.n=130){Q:PExit->S->Prop}(hq:Q (.normal) (S.mk [(1,.lp 1 0),(2,vI6 0),(3,vI6 a),(4,vI6 b),(58,.v (.bool true))] [(1,prV u)] xe)):PW prog cx (regF f98 4) (nd1 u a b xe) Q:=
 pw mdL 130 [cl (@pnS (prO u)),rp 4 (bf1 (bnF hx0)),rp 4 (bf false),rp 3 (nt1 hx1),bf false,nt1 hx1,bf false,rp 3 (nt1 hx2),bf false,nt1 hx2,bf false,rp 6 (nt1 hx3),rp 6 (bt true)] [1,2,3,4,58] [1] hcx hq
theorem nd_4_10(hx0:pnS_r0 (prO u)=true)(hx1:¬prO u=1)(hx2:¬prO u=2)(hx3:prN u=0)(hx4:((prK u).length:Int)<a)(cx:Cx)(hcx:cx.n=130){Q:PExit->S->Prop}(hq:Q (.normal) (S.mk [(1,.lp 1 0),(2,vI6 0),(3,vI6 a),(4,vI6 b),(58,.v (.bool true))] [(1,prV u)] xe)):PW prog cx (regF f98 4) (nd1 u a b xe) Q:=
 pw mdL 130 [cl (@pnS (prO u)),rp 4 (bf1 (bnF hx0)),rp 4 (bf false),rp 3 (nt1 hx1),bf false,nt1 hx1,bf false,rp 3 (nt1 hx2),bf false,nt1 hx2,bf false,rp 3 (nn1 hx3),sl (Pr.cs_len (prK u)),rp 3 (nn1 hx3),rp 6 (dt1 hx4)] [1,2,3,4,58] [1] hcx hq
theorem nd_4_11(hx0:pnS_r0 (prO u)=true)(hx1:¬prO u=1)(hx2:¬prO u=2)(hx3:prN u=0)(hx4:¬((prK u).length:Int)<a)(cx:Cx)(hcx:cx.n=130){Q:PExit->S->Prop}(hq:Q (.normal) (S.mk [(1,.lp 1 0),(2,vI6 0),(3,vI6 a),(4,vI6 b),(58,.v (.bool (decide (((prK u).length:Int)>b))))] [(1,prV u)] xe)):PW prog cx (regF f98 4) (nd1 u a b xe) Q:=
 pw mdL 130 [cl (@pnS (prO u)),rp 4 (bf1 (bnF hx0)),rp 4 (bf false),rp 3 (nt1 hx1),bf false,nt1 hx1,bf false,rp 3 (nt1 hx2),bf false,nt1 hx2,bf false,rp 3 (nn1 hx3),sl (Pr.cs_len (prK u)),rp 3 (nn1 hx3),rp 3 (df1 hx4),sl (Pr.cs_len (prK u)),rp 3 (df1 hx4)] [1,2,3,4,58] [1] hcx hq
theorem nd_4_12(hx0:pnS_r0 (prO u)=true)(hx1:¬prO u=1)(hx2:prO u=2)(hx3:((prK u).length:Int)<a)(cx:Cx)(hcx:cx.n=130){Q:PExit->S->Prop}(hq:Q (.normal) (S.mk [(1,.lp 1 0),(2,vI6 0),(3,vI6 a),(4,vI6 b),(58,.v (.bool true))] [(1,prV u)] xe)):PW prog cx (regF f98 4) (nd1 u a b xe) Q:=
 pw mdL 130 [cl (@pnS (prO u)),rp 4 (bf1 (bnF hx0)),rp 4 (bf false),rp 3 (nt1 hx1),bf false,nt1 hx1,bf false,rp 3 (nn1 hx2),bf false,nn1 hx2,rp 4 (bf false),sl (Pr.cs_len (prK u)),rp 3 (bf false),rp 6 (dt1 hx3)] [1,2,3,4,58] [1] hcx hq
theorem nd_4_13(hx0:pnS_r0 (prO u)=true)(hx1:¬prO u=1)(hx2:prO u=2)(hx3:¬((prK u).length:Int)<a)(cx:Cx)(hcx:cx.n=130){Q:PExit->S->Prop}(hq:Q (.normal) (S.mk [(1,.lp 1 0),(2,vI6 0),(3,vI6 a),(4,vI6 b),(58,.v (.bool (decide (((prK u).length:Int)>b))))] [(1,prV u)] xe)):PW prog cx (regF f98 4) (nd1 u a b xe) Q:=
 pw mdL 130 [cl (@pnS (prO u)),rp 4 (bf1 (bnF hx0)),rp 4 (bf false),rp 3 (nt1 hx1),bf false,nt1 hx1,bf false,rp 3 (nn1 hx2),bf false,nn1 hx2,rp 4 (bf false),sl (Pr.cs_len (prK u)),rp 3 (bf false),rp 3 (df1 hx3),sl (Pr.cs_len (prK u)),rp 3 (df1 hx3)] [1,2,3,4,58] [1] hcx hq
theorem nd_4_14(hx0:pnS_r0 (prO u)=true)(hx1:prO u=1)(hx2:((prK u).length:Int)<a)(cx:Cx)(hcx:cx.n=130){Q:PExit->S->Prop}(hq:Q (.normal) (S.mk [(1,.lp 1 0),(2,vI6 0),(3,vI6 a),(4,vI6 b),(58,.v (.bool true))] [(1,prV u)] xe)):PW prog cx (regF f98 4) (nd1 u a b xe) Q:=
 pw mdL 130 [cl (@pnS (prO u)),rp 4 (bf1 (bnF hx0)),rp 4 (bf false),rp 3 (nn1 hx1),bf false,nn1 hx1,rp 10 (bf false),sl (Pr.cs_len (prK u)),rp 3 (bf false),rp 6 (dt1 hx2)] [1,2,3,4,58] [1] hcx hq
theorem nd_4_15(hx0:pnS_r0 (prO u)=true)(hx1:prO u=1)(hx2:¬((prK u).length:Int)<a)(cx:Cx)(hcx:cx.n=130){Q:PExit->S->Prop}(hq:Q (.normal) (S.mk [(1,.lp 1 0),(2,vI6 0),(3,vI6 a),(4,vI6 b),(58,.v (.bool (decide (((prK u).length:Int)>b))))] [(1,prV u)] xe)):PW prog cx (regF f98 4) (nd1 u a b xe) Q:=
 pw mdL 130 [cl (@pnS (prO u)),rp 4 (bf1 (bnF hx0)),rp 4 (bf false),rp 3 (nn1 hx1),bf false,nn1 hx1,rp 10 (bf false),sl (Pr.cs_len (prK u)),rp 3 (bf false),rp 3 (df1 hx2),sl (Pr.cs_len (prK u)),rp 3 (df1 hx2)] [1,2,3,4,58] [1] hcx hq
end
def nd_4_v58(u:Pr)(a b:Int):Bool:=(if pnS_r0 (prO u)=true then (if prO u=1 then (if ((prK u).length:Int)<a then (true) else ((decide (((prK u).length:Int)>b)))) else (if prO u=2 then (if ((prK u).length:Int)<a then (true) else ((decide (((prK u).length:Int)>b)))) else (if prN u=0 then (if ((prK u).length:Int)<a then (true) else ((decide (((prK u).length:Int)>b)))) else (true)))) else (if prNm u=ByteArray.mk #[] then (if prO u=1 then (if ((prK u).length:Int)<a then (true) else ((decide (((prK u).length:Int)>b)))) else (if prO u=2 then (if ((prK u).length:Int)<a then (true) else ((decide (((prK u).length:Int)>b)))) else (if prN u=0 then (if ((prK u).length:Int)<a then (true) else ((decide (((prK u).length:Int)>b)))) else (true)))) else (true)))
theorem nd_4J(u:Pr)(a b:Int)(xe:Ext):(Ob.frag 130 (regF f98 4) (nd1 u a b xe) (.normal) (S.mk [(1,.lp 1 0),(2,vI6 0),(3,vI6 a),(4,vI6 b),(58,.v (.bool (nd_4_v58 u a b)))] [(1,prV u)] xe)).ok prog:=by
 intro cx hcx
 by_cases g0:pnS_r0 (prO u)=true
 ·by_cases g1:prO u=1
  ·by_cases g2:((prK u).length:Int)<a
   ·exact nd_4_14 u a b xe g0 g1 g2 cx hcx ⟨rfl,by rw [show nd_4_v58 u a b=(true) by unfold nd_4_v58; rw [iP g0,iP g1,iP g2]]⟩
   ·exact nd_4_15 u a b xe g0 g1 g2 cx hcx ⟨rfl,by rw [show nd_4_v58 u a b=((decide (((prK u).length:Int)>b))) by unfold nd_4_v58; rw [iP g0,iP g1,iN g2]]⟩
  ·by_cases g2:prO u=2
   ·by_cases g3:((prK u).length:Int)<a
    ·exact nd_4_12 u a b xe g0 g1 g2 g3 cx hcx ⟨rfl,by rw [show nd_4_v58 u a b=(true) by unfold nd_4_v58; rw [iP g0,iN g1,iP g2,iP g3]]⟩
    ·exact nd_4_13 u a b xe g0 g1 g2 g3 cx hcx ⟨rfl,by rw [show nd_4_v58 u a b=((decide (((prK u).length:Int)>b))) by unfold nd_4_v58; rw [iP g0,iN g1,iP g2,iN g3]]⟩
   ·by_cases g3:prN u=0
    ·by_cases g4:((prK u).length:Int)<a
     ·exact nd_4_10 u a b xe g0 g1 g2 g3 g4 cx hcx ⟨rfl,by rw [show nd_4_v58 u a b=(true) by unfold nd_4_v58; rw [iP g0,iN g1,iN g2,iP g3,iP g4]]⟩
     ·exact nd_4_11 u a b xe g0 g1 g2 g3 g4 cx hcx ⟨rfl,by rw [show nd_4_v58 u a b=((decide (((prK u).length:Int)>b))) by unfold nd_4_v58; rw [iP g0,iN g1,iN g2,iP g3,iN g4]]⟩
    ·exact nd_4_9 u a b xe g0 g1 g2 g3 cx hcx ⟨rfl,by rw [show nd_4_v58 u a b=(true) by unfold nd_4_v58; rw [iP g0,iN g1,iN g2,iN g3]]⟩
 ·by_cases g1:prNm u=ByteArray.mk #[]
  ·by_cases g2:prO u=1
   ·by_cases g3:((prK u).length:Int)<a
    ·exact nd_4_7 u a b xe (Bool.eq_false_iff.2 g0) g1 g2 g3 cx hcx ⟨rfl,by rw [show nd_4_v58 u a b=(true) by unfold nd_4_v58; rw [iN g0,iP g1,iP g2,iP g3]]⟩
    ·exact nd_4_8 u a b xe (Bool.eq_false_iff.2 g0) g1 g2 g3 cx hcx ⟨rfl,by rw [show nd_4_v58 u a b=((decide (((prK u).length:Int)>b))) by unfold nd_4_v58; rw [iN g0,iP g1,iP g2,iN g3]]⟩
   ·by_cases g3:prO u=2
    ·by_cases g4:((prK u).length:Int)<a
     ·exact nd_4_5 u a b xe (Bool.eq_false_iff.2 g0) g1 g2 g3 g4 cx hcx ⟨rfl,by rw [show nd_4_v58 u a b=(true) by unfold nd_4_v58; rw [iN g0,iP g1,iN g2,iP g3,iP g4]]⟩
     ·exact nd_4_6 u a b xe (Bool.eq_false_iff.2 g0) g1 g2 g3 g4 cx hcx ⟨rfl,by rw [show nd_4_v58 u a b=((decide (((prK u).length:Int)>b))) by unfold nd_4_v58; rw [iN g0,iP g1,iN g2,iP g3,iN g4]]⟩
    ·by_cases g4:prN u=0
     ·by_cases g5:((prK u).length:Int)<a
      ·exact nd_4_3 u a b xe (Bool.eq_false_iff.2 g0) g1 g2 g3 g4 g5 cx hcx ⟨rfl,by rw [show nd_4_v58 u a b=(true) by unfold nd_4_v58; rw [iN g0,iP g1,iN g2,iN g3,iP g4,iP g5]]⟩
      ·exact nd_4_4 u a b xe (Bool.eq_false_iff.2 g0) g1 g2 g3 g4 g5 cx hcx ⟨rfl,by rw [show nd_4_v58 u a b=((decide (((prK u).length:Int)>b))) by unfold nd_4_v58; rw [iN g0,iP g1,iN g2,iN g3,iP g4,iN g5]]⟩
     ·exact nd_4_2 u a b xe (Bool.eq_false_iff.2 g0) g1 g2 g3 g4 cx hcx ⟨rfl,by rw [show nd_4_v58 u a b=(true) by unfold nd_4_v58; rw [iN g0,iP g1,iN g2,iN g3,iN g4]]⟩
  ·exact nd_4_1 u a b xe (Bool.eq_false_iff.2 g0) g1 cx hcx ⟨rfl,by rw [show nd_4_v58 u a b=(true) by unfold nd_4_v58; rw [iN g0,iN g1]]⟩
section
variable (u:Pr) (a b:Int) (xe:Ext)
include u a b xe
theorem nd_6_1(hx0:prO u=1)(hx1:niS_r0 (prN u)=false)(cx:Cx)(hcx:cx.n=130){Q:PExit->S->Prop}(hq:Q (.normal) (S.mk [(1,.lp 1 0),(2,vI6 0),(3,vI6 a),(4,vI6 b),(82,.v (.bool true))] [(1,prV u)] xe)):PW prog cx (regF f98 6) (nd1 u a b xe) Q:=
 pw mdL 130 [rp 3 (et1 hx0),cl (@niS (prN u)),rp 2 (et1 hx0),rp 8 (bt1 (bnT hx1))] [1,2,3,4,82] [1] hcx hq
theorem nd_6_2(hx0:prO u=1)(hx1:niS_r0 (prN u)=true)(cx:Cx)(hcx:cx.n=130){Q:PExit->S->Prop}(hq:Q (.normal) (S.mk [(1,.lp 1 0),(2,vI6 0),(3,vI6 a),(4,vI6 b),(82,.v (.bool false))] [(1,prV u)] xe)):PW prog cx (regF f98 6) (nd1 u a b xe) Q:=
 pw mdL 130 [rp 3 (et1 hx0),cl (@niS (prN u)),rp 2 (et1 hx0),rp 4 (bf1 (bnF hx1)),rp 3 (en (prO u) 2),bf1 (bnF hx1),en (prO u) 2,bf1 (bnF hx1),rp 3 (bf false),bf1 (bnF hx1),bf false,bf1 (bnF hx1)] [1,2,3,4,82] [1] hcx hq
theorem nd_6_3(hx0:¬prO u=1)(hx1:prO u=2)(hx2:¬prN u=0)(cx:Cx)(hcx:cx.n=130){Q:PExit->S->Prop}(hq:Q (.normal) (S.mk [(1,.lp 1 0),(2,vI6 0),(3,vI6 a),(4,vI6 b),(82,.v (.bool (prN u != 1)))] [(1,prV u)] xe)):PW prog cx (regF f98 6) (nd1 u a b xe) Q:=
 pw mdL 130 [rp 5 (en1 hx0),rp 4 (bf false),rp 3 (et1 hx1),bf false,et1 hx1,bf false,rp 3 (nt1 hx2),bf false,nt1 hx2,bf false] [1,2,3,4,82] [1] hcx hq
theorem nd_6_4(hx0:¬prO u=1)(hx1:prO u=2)(hx2:prN u=0)(cx:Cx)(hcx:cx.n=130){Q:PExit->S->Prop}(hq:Q (.normal) (S.mk [(1,.lp 1 0),(2,vI6 0),(3,vI6 a),(4,vI6 b),(82,.v (.bool false))] [(1,prV u)] xe)):PW prog cx (regF f98 6) (nd1 u a b xe) Q:=
 pw mdL 130 [rp 5 (en1 hx0),rp 4 (bf false),rp 3 (et1 hx1),bf false,et1 hx1,bf false,rp 3 (nn1 hx2),bf false,nn1 hx2,bf false] [1,2,3,4,82] [1] hcx hq
theorem nd_6_5(hx0:¬prO u=1)(hx1:¬prO u=2)(cx:Cx)(hcx:cx.n=130){Q:PExit->S->Prop}(hq:Q (.normal) (S.mk [(1,.lp 1 0),(2,vI6 0),(3,vI6 a),(4,vI6 b),(82,.v (.bool false))] [(1,prV u)] xe)):PW prog cx (regF f98 6) (nd1 u a b xe) Q:=
 pw mdL 130 [rp 5 (en1 hx0),rp 4 (bf false),rp 3 (en1 hx1),bf false,en1 hx1,rp 7 (bf false)] [1,2,3,4,82] [1] hcx hq
end
def nd_6_v82(u:Pr)(a b:Int):Bool:=(if prO u=1 then (if niS_r0 (prN u)=true then (false) else (true)) else (if prO u=2 then (if prN u=0 then (false) else ((prN u != 1))) else (false)))
theorem nd_6J(u:Pr)(a b:Int)(xe:Ext):(Ob.frag 130 (regF f98 6) (nd1 u a b xe) (.normal) (S.mk [(1,.lp 1 0),(2,vI6 0),(3,vI6 a),(4,vI6 b),(82,.v (.bool (nd_6_v82 u a b)))] [(1,prV u)] xe)).ok prog:=by
 intro cx hcx
 by_cases g0:prO u=1
 ·by_cases g1:niS_r0 (prN u)=true
  ·exact nd_6_2 u a b xe g0 g1 cx hcx ⟨rfl,by rw [show nd_6_v82 u a b=(false) by unfold nd_6_v82; rw [iP g0,iP g1]]⟩
  ·exact nd_6_1 u a b xe g0 (Bool.eq_false_iff.2 g1) cx hcx ⟨rfl,by rw [show nd_6_v82 u a b=(true) by unfold nd_6_v82; rw [iP g0,iN g1]]⟩
 ·by_cases g1:prO u=2
  ·by_cases g2:prN u=0
   ·exact nd_6_4 u a b xe g0 g1 g2 cx hcx ⟨rfl,by rw [show nd_6_v82 u a b=(false) by unfold nd_6_v82; rw [iN g0,iP g1,iP g2]]⟩
   ·exact nd_6_3 u a b xe g0 g1 g2 cx hcx ⟨rfl,by rw [show nd_6_v82 u a b=((prN u != 1)) by unfold nd_6_v82; rw [iN g0,iP g1,iN g2]]⟩
  ·exact nd_6_5 u a b xe g0 g1 cx hcx ⟨rfl,by rw [show nd_6_v82 u a b=(false) by unfold nd_6_v82; rw [iN g0,iN g1]]⟩
theorem nd_8_1(u:Pr)(a b:Int)(xe:Ext)(hx0:pnS_r0 (prO u)=true)(cx:Cx)(hcx:cx.n=130){Q:PExit->S->Prop}(hq:Q (.normal) (S.mk [(1,.lp 1 0),(2,vI6 0),(3,vI6 a),(4,vI6 b),(91,.v (.bool (erN (coreB (prNm u)) != 0)))] [(1,prV u)] xe)):PW prog cx (regF f98 8) (nd1 u a b xe) Q:=
 pw mdL 130 [cl (@pnS (prO u)),rp 3 (bt1 hx0),cl (@nCoT (prNm u)),rp 2 (bt1 hx0)] [1,2,3,4,91] [1] hcx hq
theorem nd_8_2(u:Pr)(a b:Int)(xe:Ext)(hx0:pnS_r0 (prO u)=false)(cx:Cx)(hcx:cx.n=130){Q:PExit->S->Prop}(hq:Q (.normal) (S.mk [(1,.lp 1 0),(2,vI6 0),(3,vI6 a),(4,vI6 b),(91,.v (.bool false))] [(1,prV u)] xe)):PW prog cx (regF f98 8) (nd1 u a b xe) Q:=
 pw mdL 130 [cl (@pnS (prO u)),rp 5 (bf1 hx0)] [1,2,3,4,91] [1] hcx hq
def nd_8_v91(u:Pr)(a b:Int):Bool:=(if pnS_r0 (prO u)=true then ((erN (coreB (prNm u)) != 0)) else (false))
theorem nd_8J(u:Pr)(a b:Int)(xe:Ext):(Ob.frag 130 (regF f98 8) (nd1 u a b xe) (.normal) (S.mk [(1,.lp 1 0),(2,vI6 0),(3,vI6 a),(4,vI6 b),(91,.v (.bool (nd_8_v91 u a b)))] [(1,prV u)] xe)).ok prog:=by
 intro cx hcx
 by_cases g0:pnS_r0 (prO u)=true
 ·exact nd_8_1 u a b xe g0 cx hcx ⟨rfl,by rw [show nd_8_v91 u a b=((erN (coreB (prNm u)) != 0)) by unfold nd_8_v91; rw [iP g0]]⟩
 ·exact nd_8_2 u a b xe (Bool.eq_false_iff.2 g0) cx hcx ⟨rfl,by rw [show nd_8_v91 u a b=(false) by unfold nd_8_v91; rw [iN g0]]⟩
theorem nd_9_1(u:Pr)(a b:Int)(xe:Ext)(hx0:prO u=3)(cx:Cx)(hcx:cx.n=130){Q:PExit->S->Prop}(hq:Q (.normal) (S.mk [(1,.lp 1 0),(2,vI6 0),(3,vI6 a),(4,vI6 b),(5,.v (.bool (ByteArray.toList (prNm u)==ByteArray.toList (bM 118))))] [(1,prV u)] xe)):PW prog cx (regF f98 9) (nd1 u a b xe) Q:=
 pw mdL 130 [rp 4 (et1 hx0)] [1,2,3,4,5] [1] hcx hq
theorem nd_9_2(u:Pr)(a b:Int)(xe:Ext)(hx0:¬prO u=3)(cx:Cx)(hcx:cx.n=130){Q:PExit->S->Prop}(hq:Q (.normal) (S.mk [(1,.lp 1 0),(2,vI6 0),(3,vI6 a),(4,vI6 b),(5,.v (.bool false))] [(1,prV u)] xe)):PW prog cx (regF f98 9) (nd1 u a b xe) Q:=
 pw mdL 130 [rp 4 (en1 hx0)] [1,2,3,4,5] [1] hcx hq
def nd_9_v5(u:Pr)(a b:Int):Bool:=(if prO u=3 then ((ByteArray.toList (prNm u)==ByteArray.toList (bM 118))) else (false))
theorem nd_9J(u:Pr)(a b:Int)(xe:Ext):(Ob.frag 130 (regF f98 9) (nd1 u a b xe) (.normal) (S.mk [(1,.lp 1 0),(2,vI6 0),(3,vI6 a),(4,vI6 b),(5,.v (.bool (nd_9_v5 u a b)))] [(1,prV u)] xe)).ok prog:=by
 intro cx hcx
 by_cases g0:prO u=3
 ·exact nd_9_1 u a b xe g0 cx hcx ⟨rfl,by rw [show nd_9_v5 u a b=((ByteArray.toList (prNm u)==ByteArray.toList (bM 118))) by unfold nd_9_v5; rw [iP g0]]⟩
 ·exact nd_9_2 u a b xe g0 cx hcx ⟨rfl,by rw [show nd_9_v5 u a b=(false) by unfold nd_9_v5; rw [iN g0]]⟩
section
variable (u:Pr) (a b:Int) (x:Bool) (xe:Ext)
include u a b x xe
theorem nd_10_1(hx0:prO u=4)(hx1:prNm u=ByteArray.mk #[116,97,103])(cx:Cx)(hcx:cx.n=130){Q:PExit->S->Prop}(hq:Q (.normal) (S.mk [(1,.lp 1 0),(2,vI6 0),(3,vI6 a),(4,vI6 b),(5,.v (.bool x)),(6,.v (.bool true))] [(1,prV u)] xe)):PW prog cx (regF f98 10) (nd3 u a b x xe) Q:=
 pw mdL 130 [rp 4 (et1 hx0),rp 3 (bt (ByteArray.toList (prNm u)==ByteArray.toList (ByteArray.mk #[116,97,103])) (bsT hx1)),et1 hx0,bt (ByteArray.toList (prNm u)==ByteArray.toList (ByteArray.mk #[116,97,103])) (bsT hx1),et1 hx0] [1,2,3,4,5,6] [1] hcx hq
theorem nd_10_2(hx0:prO u=4)(hx1:¬prNm u=ByteArray.mk #[116,97,103])(cx:Cx)(hcx:cx.n=130){Q:PExit->S->Prop}(hq:Q (.normal) (S.mk [(1,.lp 1 0),(2,vI6 0),(3,vI6 a),(4,vI6 b),(5,.v (.bool x)),(6,.v (.bool (ByteArray.toList (prNm u)==ByteArray.toList (ByteArray.mk #[118,97,108]))))] [(1,prV u)] xe)):PW prog cx (regF f98 10) (nd3 u a b x xe) Q:=
 pw mdL 130 [rp 4 (et1 hx0),rp 3 (bf (ByteArray.toList (prNm u)==ByteArray.toList (ByteArray.mk #[116,97,103])) (bsF hx1)),et1 hx0,bf (ByteArray.toList (prNm u)==ByteArray.toList (ByteArray.mk #[116,97,103])) (bsF hx1),et1 hx0] [1,2,3,4,5,6] [1] hcx hq
theorem nd_10_3(hx0:¬prO u=4)(cx:Cx)(hcx:cx.n=130){Q:PExit->S->Prop}(hq:Q (.normal) (S.mk [(1,.lp 1 0),(2,vI6 0),(3,vI6 a),(4,vI6 b),(5,.v (.bool x)),(6,.v (.bool false))] [(1,prV u)] xe)):PW prog cx (regF f98 10) (nd3 u a b x xe) Q:=
 pw mdL 130 [rp 6 (en1 hx0)] [1,2,3,4,5,6] [1] hcx hq
end
def nd_10_v6(u:Pr)(a b:Int)(x:Bool):Bool:=(if prO u=4 then (if prNm u=ByteArray.mk #[116,97,103] then (true) else ((ByteArray.toList (prNm u)==ByteArray.toList (ByteArray.mk #[118,97,108])))) else (false))
theorem nd_10J(u:Pr)(a b:Int)(x:Bool)(xe:Ext):(Ob.frag 130 (regF f98 10) (nd3 u a b x xe) (.normal) (S.mk [(1,.lp 1 0),(2,vI6 0),(3,vI6 a),(4,vI6 b),(5,.v (.bool x)),(6,.v (.bool (nd_10_v6 u a b x)))] [(1,prV u)] xe)).ok prog:=by
 intro cx hcx
 by_cases g0:prO u=4
 ·by_cases g1:prNm u=ByteArray.mk #[116,97,103]
  ·exact nd_10_1 u a b x xe g0 g1 cx hcx ⟨rfl,by rw [show nd_10_v6 u a b x=(true) by unfold nd_10_v6; rw [iP g0,iP g1]]⟩
  ·exact nd_10_2 u a b x xe g0 g1 cx hcx ⟨rfl,by rw [show nd_10_v6 u a b x=((ByteArray.toList (prNm u)==ByteArray.toList (ByteArray.mk #[118,97,108]))) by unfold nd_10_v6; rw [iP g0,iN g1]]⟩
 ·exact nd_10_3 u a b x xe g0 cx hcx ⟨rfl,by rw [show nd_10_v6 u a b x=(false) by unfold nd_10_v6; rw [iN g0]]⟩
theorem nd_11_1(u:Pr)(a b:Int)(x y:Bool)(xe:Ext)(hx0:x=false)(cx:Cx)(hcx:cx.n=130){Q:PExit->S->Prop}(hq:Q (.normal) (S.mk [(1,.lp 1 0),(2,vI6 0),(3,vI6 a),(4,vI6 b),(5,.v (.bool x)),(6,.v (.bool y)),(118,.v (.bool !y))] [(1,prV u)] xe)):PW prog cx (regF f98 11) (nd2 u a b x y xe) Q:=
 pw mdL 130 [rp 3 (bt1 (bnT hx0))] [1,2,3,4,5,6,118] [1] hcx hq
theorem nd_11_2(u:Pr)(a b:Int)(x y:Bool)(xe:Ext)(hx0:x=true)(cx:Cx)(hcx:cx.n=130){Q:PExit->S->Prop}(hq:Q (.normal) (S.mk [(1,.lp 1 0),(2,vI6 0),(3,vI6 a),(4,vI6 b),(5,.v (.bool x)),(6,.v (.bool y)),(118,.v (.bool false))] [(1,prV u)] xe)):PW prog cx (regF f98 11) (nd2 u a b x y xe) Q:=
 pw mdL 130 [rp 3 (bf1 (bnF hx0))] [1,2,3,4,5,6,118] [1] hcx hq
def nd_11_v118(u:Pr)(a b:Int)(x y:Bool):Bool:=(if x=true then (false) else (!y))
theorem nd_11J(u:Pr)(a b:Int)(x y:Bool)(xe:Ext):(Ob.frag 130 (regF f98 11) (nd2 u a b x y xe) (.normal) (S.mk [(1,.lp 1 0),(2,vI6 0),(3,vI6 a),(4,vI6 b),(5,.v (.bool x)),(6,.v (.bool y)),(118,.v (.bool (nd_11_v118 u a b x y)))] [(1,prV u)] xe)).ok prog:=by
 intro cx hcx
 by_cases g0:x=true
 ·exact nd_11_2 u a b x y xe g0 cx hcx ⟨rfl,by rw [show nd_11_v118 u a b x y=(false) by unfold nd_11_v118; rw [iP g0]]⟩
 ·exact nd_11_1 u a b x y xe (Bool.eq_false_iff.2 g0) cx hcx ⟨rfl,by rw [show nd_11_v118 u a b x y=(!y) by unfold nd_11_v118; rw [iN g0]]⟩
abbrev nd4(u:Pr)(a b:Int)(x:Bool)(xe:Ext):S:=⟨[(1,.lp 1 0),(2,.v (.int .i64 0)),(3,.v (.int .i64 a)),(4,.v (.int .i64 b)),(91,.v (.bool x))],[(1,prV u)],xe⟩
section
variable (u:Pr) (a b:Int) (x y:Bool) (h13:prO u=8->0<(prK u).length) (xe:Ext)
include u a b x y h13 xe
theorem nd_13a_1(hx0:prO u=8)(cx:Cx)(hcx:cx.n=130){Q:PExit->S->Prop}(hq:Q (.normal) (S.mk [(1,.lp 1 0),(2,vI6 0),(3,vI6 a),(4,vI6 b),(5,.v (.bool x)),(6,.v (.bool y)),(129,.v (.bool (prO (List.getD (prK u) 0 default) != 1)))] [(1,prV u)] xe)):PW prog cx (regF f98 13) (nd2 u a b x y xe) Q:=
 pw mdL 130 [rp 3 (et1 hx0),mxPr (prK u) 0,xPr (prK u) 0,rp 4 (et1 hx0)] [1,2,3,4,5,6,129] [1] hcx hq
theorem nd_13a_2(hx0:¬prO u=8)(cx:Cx)(hcx:cx.n=130){Q:PExit->S->Prop}(hq:Q (.normal) (S.mk [(1,.lp 1 0),(2,vI6 0),(3,vI6 a),(4,vI6 b),(5,.v (.bool x)),(6,.v (.bool y)),(129,.v (.bool false))] [(1,prV u)] xe)):PW prog cx (regF f98 13) (nd2 u a b x y xe) Q:=
 pw mdL 130 [rp 7 (en1 hx0)] [1,2,3,4,5,6,129] [1] hcx hq
end
def nd_13a_v129(u:Pr)(a b:Int)(x y:Bool):Bool:=(if prO u=8 then ((prO (List.getD (prK u) 0 default) != 1)) else (false))
theorem nd_13aJ(u:Pr)(a b:Int)(x y:Bool)(h13:prO u=8->0<(prK u).length)(xe:Ext):(Ob.frag 130 (regF f98 13) (nd2 u a b x y xe) (.normal) (S.mk [(1,.lp 1 0),(2,vI6 0),(3,vI6 a),(4,vI6 b),(5,.v (.bool x)),(6,.v (.bool y)),(129,.v (.bool (nd_13a_v129 u a b x y)))] [(1,prV u)] xe)).ok prog:=by
 intro cx hcx
 by_cases g0:prO u=8
 ·exact nd_13a_1 u a b x y h13 xe g0 cx hcx ⟨rfl,by rw [show nd_13a_v129 u a b x y=((prO (List.getD (prK u) 0 default) != 1)) by unfold nd_13a_v129; rw [iP g0]]⟩
 ·exact nd_13a_2 u a b x y h13 xe g0 cx hcx ⟨rfl,by rw [show nd_13a_v129 u a b x y=(false) by unfold nd_13a_v129; rw [iN g0]]⟩
section
variable (u:Pr) (a b:Int) (x:Bool) (h13:prO u=8->0<(prK u).length) (xe:Ext)
include u a b x h13 xe
theorem nd_13b_1(hx0:prO u=8)(cx:Cx)(hcx:cx.n=130){Q:PExit->S->Prop}(hq:Q (.normal) (S.mk [(1,.lp 1 0),(2,vI6 0),(3,vI6 a),(4,vI6 b),(91,.v (.bool x)),(129,.v (.bool (prO (List.getD (prK u) 0 default) != 1)))] [(1,prV u)] xe)):PW prog cx (regF f98 13) (nd4 u a b x xe) Q:=
 pw mdL 130 [rp 3 (et1 hx0),mxPr (prK u) 0,xPr (prK u) 0,rp 4 (et1 hx0)] [1,2,3,4,91,129] [1] hcx hq
theorem nd_13b_2(hx0:¬prO u=8)(cx:Cx)(hcx:cx.n=130){Q:PExit->S->Prop}(hq:Q (.normal) (S.mk [(1,.lp 1 0),(2,vI6 0),(3,vI6 a),(4,vI6 b),(91,.v (.bool x)),(129,.v (.bool false))] [(1,prV u)] xe)):PW prog cx (regF f98 13) (nd4 u a b x xe) Q:=
 pw mdL 130 [rp 7 (en1 hx0)] [1,2,3,4,91,129] [1] hcx hq
end
def nd_13b_v129(u:Pr)(a b:Int)(x:Bool):Bool:=(if prO u=8 then ((prO (List.getD (prK u) 0 default) != 1)) else (false))
theorem nd_13bJ(u:Pr)(a b:Int)(x:Bool)(h13:prO u=8->0<(prK u).length)(xe:Ext):(Ob.frag 130 (regF f98 13) (nd4 u a b x xe) (.normal) (S.mk [(1,.lp 1 0),(2,vI6 0),(3,vI6 a),(4,vI6 b),(91,.v (.bool x)),(129,.v (.bool (nd_13b_v129 u a b x)))] [(1,prV u)] xe)).ok prog:=by
 intro cx hcx
 by_cases g0:prO u=8
 ·exact nd_13b_1 u a b x h13 xe g0 cx hcx ⟨rfl,by rw [show nd_13b_v129 u a b x=((prO (List.getD (prK u) 0 default) != 1)) by unfold nd_13b_v129; rw [iP g0]]⟩
 ·exact nd_13b_2 u a b x h13 xe g0 cx hcx ⟨rfl,by rw [show nd_13b_v129 u a b x=(false) by unfold nd_13b_v129; rw [iN g0]]⟩
theorem n13_h{u:Pr}(h:¬nd_4_v58 u (pkS_r0 (prO u)) (pkS_r1 (prO u))=true):prO u=8->0<(prK u).length:=fun h8=>by
 rcases Nat.eq_zero_or_pos (prK u).length with h0 | h0
 ·exfalso; apply h
  simp only [nd_4_v58,pnS_r0,pkS_r0,pkS_r1,h8,h0]
  simp
 ·exact h0
theorem n13_h2{u:Pr}(h:nd_4_v58 u (pkS_r0 (prO u)) (pkS_r1 (prO u))=false):prO u=8->0<(prK u).length:=n13_h (by rw [h]; decide)
def mdP:Md:=⟨fun _=>some false,fun t=>t==1000001||t==1000004||t==1000006||t==1000008||t==1000009||t==1000010||t==1000011||t==1000013⟩
section
variable (u:Pr) (hx0:nd_1_v14 u=false) (hx1:nd_4_v58 u (pkS_r0 (prO u)) (pkS_r1 (prO u))=false) (hx2:nd_6_v82 u (pkS_r0 (prO u)) (pkS_r1 (prO u))=false)
include u hx0 hx1 hx2
theorem pnd_5(hx3:nd_8_v91 u (pkS_r0 (prO u)) (pkS_r1 (prO u))=true)(hx4:nd_11_v118 u (pkS_r0 (prO u)) (pkS_r1 (prO u)) (nd_9_v5 u (pkS_r0 (prO u)) (pkS_r1 (prO u))) (nd_10_v6 u (pkS_r0 (prO u)) (pkS_r1 (prO u)) (nd_9_v5 u (pkS_r0 (prO u)) (pkS_r1 (prO u))))=false)(hx5:nd_13a_v129 u (pkS_r0 (prO u)) (pkS_r1 (prO u)) (nd_9_v5 u (pkS_r0 (prO u)) (pkS_r1 (prO u))) (nd_10_v6 u (pkS_r0 (prO u)) (pkS_r1 (prO u)) (nd_9_v5 u (pkS_r0 (prO u)) (pkS_r1 (prO u))))=true):Pu 98 [.agg (prL u)] (rI 6):=
 pu mdP (fun e=>[lg (@nd_1J u e),bf1 hx0,cl (@pkS (prO u)),lg (@nd_4J u (pkS_r0 (prO u)) (pkS_r1 (prO u)) e),bf1 hx1,lg (@nd_6J u (pkS_r0 (prO u)) (pkS_r1 (prO u)) e),bf1 hx2,lg (@nd_8J u (pkS_r0 (prO u)) (pkS_r1 (prO u)) e),bt1 hx3,lg (@nd_9J u (pkS_r0 (prO u)) (pkS_r1 (prO u)) e),lg (@nd_10J u (pkS_r0 (prO u)) (pkS_r1 (prO u)) (nd_9_v5 u (pkS_r0 (prO u)) (pkS_r1 (prO u))) e),lg (@nd_11J u (pkS_r0 (prO u)) (pkS_r1 (prO u)) (nd_9_v5 u (pkS_r0 (prO u)) (pkS_r1 (prO u))) (nd_10_v6 u (pkS_r0 (prO u)) (pkS_r1 (prO u)) (nd_9_v5 u (pkS_r0 (prO u)) (pkS_r1 (prO u)))) e),bf1 hx4,lg (@nd_13aJ u (pkS_r0 (prO u)) (pkS_r1 (prO u)) (nd_9_v5 u (pkS_r0 (prO u)) (pkS_r1 (prO u))) (nd_10_v6 u (pkS_r0 (prO u)) (pkS_r1 (prO u)) (nd_9_v5 u (pkS_r0 (prO u)) (pkS_r1 (prO u)))) (by (apply n13_h2 <;> first | assumption | omega | decide)) e),bt1 hx5]) func98
theorem pnd_6(hx3:nd_8_v91 u (pkS_r0 (prO u)) (pkS_r1 (prO u))=true)(hx4:nd_11_v118 u (pkS_r0 (prO u)) (pkS_r1 (prO u)) (nd_9_v5 u (pkS_r0 (prO u)) (pkS_r1 (prO u))) (nd_10_v6 u (pkS_r0 (prO u)) (pkS_r1 (prO u)) (nd_9_v5 u (pkS_r0 (prO u)) (pkS_r1 (prO u))))=false)(hx5:nd_13a_v129 u (pkS_r0 (prO u)) (pkS_r1 (prO u)) (nd_9_v5 u (pkS_r0 (prO u)) (pkS_r1 (prO u))) (nd_10_v6 u (pkS_r0 (prO u)) (pkS_r1 (prO u)) (nd_9_v5 u (pkS_r0 (prO u)) (pkS_r1 (prO u))))=false):Pu 98 [.agg (prL u)] (rI 0):=
 pu mdP (fun e=>[lg (@nd_1J u e),bf1 hx0,cl (@pkS (prO u)),lg (@nd_4J u (pkS_r0 (prO u)) (pkS_r1 (prO u)) e),bf1 hx1,lg (@nd_6J u (pkS_r0 (prO u)) (pkS_r1 (prO u)) e),bf1 hx2,lg (@nd_8J u (pkS_r0 (prO u)) (pkS_r1 (prO u)) e),bt1 hx3,lg (@nd_9J u (pkS_r0 (prO u)) (pkS_r1 (prO u)) e),lg (@nd_10J u (pkS_r0 (prO u)) (pkS_r1 (prO u)) (nd_9_v5 u (pkS_r0 (prO u)) (pkS_r1 (prO u))) e),lg (@nd_11J u (pkS_r0 (prO u)) (pkS_r1 (prO u)) (nd_9_v5 u (pkS_r0 (prO u)) (pkS_r1 (prO u))) (nd_10_v6 u (pkS_r0 (prO u)) (pkS_r1 (prO u)) (nd_9_v5 u (pkS_r0 (prO u)) (pkS_r1 (prO u)))) e),bf1 hx4,lg (@nd_13aJ u (pkS_r0 (prO u)) (pkS_r1 (prO u)) (nd_9_v5 u (pkS_r0 (prO u)) (pkS_r1 (prO u))) (nd_10_v6 u (pkS_r0 (prO u)) (pkS_r1 (prO u)) (nd_9_v5 u (pkS_r0 (prO u)) (pkS_r1 (prO u)))) (by (apply n13_h2 <;> first | assumption | omega | decide)) e),bf1 hx5]) func98
theorem pnd_7(hx3:nd_8_v91 u (pkS_r0 (prO u)) (pkS_r1 (prO u))=false)(hx4:nd_13b_v129 u (pkS_r0 (prO u)) (pkS_r1 (prO u)) (nd_8_v91 u (pkS_r0 (prO u)) (pkS_r1 (prO u)))=true):Pu 98 [.agg (prL u)] (rI 6):=
 pu mdP (fun e=>[lg (@nd_1J u e),bf1 hx0,cl (@pkS (prO u)),lg (@nd_4J u (pkS_r0 (prO u)) (pkS_r1 (prO u)) e),bf1 hx1,lg (@nd_6J u (pkS_r0 (prO u)) (pkS_r1 (prO u)) e),bf1 hx2,lg (@nd_8J u (pkS_r0 (prO u)) (pkS_r1 (prO u)) e),bf1 hx3,lg (@nd_13bJ u (pkS_r0 (prO u)) (pkS_r1 (prO u)) (nd_8_v91 u (pkS_r0 (prO u)) (pkS_r1 (prO u))) (by (apply n13_h2 <;> first | assumption | omega | decide)) e),bt1 hx4]) func98
theorem pnd_8(hx3:nd_8_v91 u (pkS_r0 (prO u)) (pkS_r1 (prO u))=false)(hx4:nd_13b_v129 u (pkS_r0 (prO u)) (pkS_r1 (prO u)) (nd_8_v91 u (pkS_r0 (prO u)) (pkS_r1 (prO u)))=false):Pu 98 [.agg (prL u)] (rI 0):=
 pu mdP (fun e=>[lg (@nd_1J u e),bf1 hx0,cl (@pkS (prO u)),lg (@nd_4J u (pkS_r0 (prO u)) (pkS_r1 (prO u)) e),bf1 hx1,lg (@nd_6J u (pkS_r0 (prO u)) (pkS_r1 (prO u)) e),bf1 hx2,lg (@nd_8J u (pkS_r0 (prO u)) (pkS_r1 (prO u)) e),bf1 hx3,lg (@nd_13bJ u (pkS_r0 (prO u)) (pkS_r1 (prO u)) (nd_8_v91 u (pkS_r0 (prO u)) (pkS_r1 (prO u))) (by (apply n13_h2 <;> first | assumption | omega | decide)) e),bf1 hx4]) func98
end
def pnd_r0(u:Pr):Int:=(if nd_1_v14 u=true then 1 else (if nd_4_v58 u (pkS_r0 (prO u)) (pkS_r1 (prO u))=true then 1 else (if nd_6_v82 u (pkS_r0 (prO u)) (pkS_r1 (prO u))=true then 2 else (if nd_8_v91 u (pkS_r0 (prO u)) (pkS_r1 (prO u))=true then (if nd_11_v118 u (pkS_r0 (prO u)) (pkS_r1 (prO u)) (nd_9_v5 u (pkS_r0 (prO u)) (pkS_r1 (prO u))) (nd_10_v6 u (pkS_r0 (prO u)) (pkS_r1 (prO u)) (nd_9_v5 u (pkS_r0 (prO u)) (pkS_r1 (prO u))))=true then 3 else (if nd_13a_v129 u (pkS_r0 (prO u)) (pkS_r1 (prO u)) (nd_9_v5 u (pkS_r0 (prO u)) (pkS_r1 (prO u))) (nd_10_v6 u (pkS_r0 (prO u)) (pkS_r1 (prO u)) (nd_9_v5 u (pkS_r0 (prO u)) (pkS_r1 (prO u))))=true then 6 else 0)) else (if nd_13b_v129 u (pkS_r0 (prO u)) (pkS_r1 (prO u)) (nd_8_v91 u (pkS_r0 (prO u)) (pkS_r1 (prO u)))=true then 6 else 0)))))
theorem pnd(u:Pr):Pu 98 [.agg (prL u)] (rI (pnd_r0 u)):=by
 by_cases h0:nd_1_v14 u=true
 ·simp only [pnd_r0,iP h0]; exact pu mdP (fun e=>[lg (@nd_1J u e),bt1 h0]) func98
 ·by_cases h1:nd_4_v58 u (pkS_r0 (prO u)) (pkS_r1 (prO u))=true
  ·simp only [pnd_r0,iN h0,iP h1]; exact pu mdP (fun e=>[lg (@nd_1J u e),bf1 (bFT h0),cl (@pkS (prO u)),lg (@nd_4J u (pkS_r0 (prO u)) (pkS_r1 (prO u)) e),bt1 h1]) func98
  ·by_cases h2:nd_6_v82 u (pkS_r0 (prO u)) (pkS_r1 (prO u))=true
   ·simp only [pnd_r0,iN h0,iN h1,iP h2]; exact pu mdP (fun e=>[lg (@nd_1J u e),bf1 (bFT h0),cl (@pkS (prO u)),lg (@nd_4J u (pkS_r0 (prO u)) (pkS_r1 (prO u)) e),bf1 (bFT h1),lg (@nd_6J u (pkS_r0 (prO u)) (pkS_r1 (prO u)) e),bt1 h2]) func98
   ·by_cases h3:nd_8_v91 u (pkS_r0 (prO u)) (pkS_r1 (prO u))=true
    ·by_cases h4:nd_11_v118 u (pkS_r0 (prO u)) (pkS_r1 (prO u)) (nd_9_v5 u (pkS_r0 (prO u)) (pkS_r1 (prO u))) (nd_10_v6 u (pkS_r0 (prO u)) (pkS_r1 (prO u)) (nd_9_v5 u (pkS_r0 (prO u)) (pkS_r1 (prO u))))=true
     ·simp only [pnd_r0,iN h0,iN h1,iN h2,iP h3,iP h4]; exact pu mdP (fun e=>[lg (@nd_1J u e),bf1 (bFT h0),cl (@pkS (prO u)),lg (@nd_4J u (pkS_r0 (prO u)) (pkS_r1 (prO u)) e),bf1 (bFT h1),lg (@nd_6J u (pkS_r0 (prO u)) (pkS_r1 (prO u)) e),bf1 (bFT h2),lg (@nd_8J u (pkS_r0 (prO u)) (pkS_r1 (prO u)) e),bt1 h3,lg (@nd_9J u (pkS_r0 (prO u)) (pkS_r1 (prO u)) e),lg (@nd_10J u (pkS_r0 (prO u)) (pkS_r1 (prO u)) (nd_9_v5 u (pkS_r0 (prO u)) (pkS_r1 (prO u))) e),lg (@nd_11J u (pkS_r0 (prO u)) (pkS_r1 (prO u)) (nd_9_v5 u (pkS_r0 (prO u)) (pkS_r1 (prO u))) (nd_10_v6 u (pkS_r0 (prO u)) (pkS_r1 (prO u)) (nd_9_v5 u (pkS_r0 (prO u)) (pkS_r1 (prO u)))) e),bt1 h4]) func98
     ·by_cases h5:nd_13a_v129 u (pkS_r0 (prO u)) (pkS_r1 (prO u)) (nd_9_v5 u (pkS_r0 (prO u)) (pkS_r1 (prO u))) (nd_10_v6 u (pkS_r0 (prO u)) (pkS_r1 (prO u)) (nd_9_v5 u (pkS_r0 (prO u)) (pkS_r1 (prO u))))=true
      ·simp only [pnd_r0,iN h0,iN h1,iN h2,iP h3,iN h4,iP h5]; exact pnd_5 u (bFT h0) (bFT h1) (bFT h2) h3 (bFT h4) h5
      ·simp only [pnd_r0,iN h0,iN h1,iN h2,iP h3,iN h4,iN h5]; exact pnd_6 u (bFT h0) (bFT h1) (bFT h2) h3 (bFT h4) (bFT h5)
    ·by_cases h4:nd_13b_v129 u (pkS_r0 (prO u)) (pkS_r1 (prO u)) (nd_8_v91 u (pkS_r0 (prO u)) (pkS_r1 (prO u)))=true
     ·simp only [pnd_r0,iN h0,iN h1,iN h2,iN h3,iP h4]; exact pnd_7 u (bFT h0) (bFT h1) (bFT h2) (bFT h3) h4
     ·simp only [pnd_r0,iN h0,iN h1,iN h2,iN h3,iN h4]; exact pnd_8 u (bFT h0) (bFT h1) (bFT h2) (bFT h3) (bFT h4)
attribute [local go_sem] Oper.semAt_some
set_option maxRecDepth 100000
theorem room_of_none{F:Fence}(hd:F.depth=none)(k:Nat):F.room k:=fun d h=>by rw [hd] at h; cases h
theorem RoundIn.anyDepth{F:Fence}(hd:F.depth=none){m m':Nat}{P:Program}{l:Nat}{f:FuncId}{tmps:Array Value}{assign body:Code}{w:World}{R:Ending->World->Prop}
  (h:RoundIn F m P l f tmps assign body w R):RoundIn F m' P l f tmps assign body w R:=⟨h.1,fun c cs _=>h.2 c cs (room_of_none hd _)⟩
theorem YieldAt.anyDepth{F:Fence}(hd:F.depth=none){m:Nat}(m':Nat){P:Program}{l:Nat}{args:Array Value}{W:World}{R:Ending->World->Prop}(h:YieldAt F m P l args W R):YieldAt F m' P l args W R:=by
 obtain ⟨fn,tmps,assign,body,hy,hR⟩:=h
 exact ⟨fn,tmps,assign,body,hy,RoundIn.anyDepth hd hR⟩
theorem mono_below{g:Gh}{w w':World}(hb:Below w.heap.size w w'):Mono g w g w':=by
 refine ⟨fun _ _ h=>h,fun b o v hc hf=>⟨?_,hf⟩,fun b cur e hh=>⟨cur,?_,rfl⟩,fun _ _ _ h=>h⟩
 ·have hlt:b<w.heap.size:=by
   unfold World.cell? at hc
   cases hh:w.heap[b]? with
   | none=>simp [hh] at hc
   | some x=>exact (Array.getElem?_eq_some_iff.1 hh).1
  rw [<-hc]
  exact World.cell?_of_block (hb.block b hlt)
 ·exact (hb.block b (Array.getElem?_eq_some_iff.1 hh).1).trans hh
theorem ent_below{e:Ext}{g:Gh}{l:LG}{w w':World}(he:Ent e g l w)(hb:Below w.heap.size w w'):Ent e g l w' where
 ex x cs hx:=by
  obtain ⟨b,h1,h2,hE⟩:=he.ex x cs hx
  refine ⟨b,h1.mono (mono_below hb),h2,?_⟩
  have hm:Mono g w g w':=mono_below hb
  have hh:=hb.block b (he.olt b _ h2)
  rcases hE with ⟨h3,cur,te,h4,h5,h6⟩ | hE
  ·refine .inl ⟨h3,cur,te,hh.trans h4,h5,fun j hj=>⟨(h6 j hj).1,(h6 j hj).2.1,?_⟩⟩
   exact (h6 j hj).2.2.keep hm (fun _ _ _=>rfl) fun b' hu=>⟨hu,rfl,hb.block b' (he.olt b' _ (he.uo _ b' hu))⟩
  ·exact .inr (hE.keep hm (fun _ _ _ h=>h) rfl hh)
 olt b o ho:=Nat.lt_of_lt_of_le (he.olt b o ho) hb.size
 uo:=he.uo
 fresh:=⟨fun b h=>he.fresh.1 b (Nat.le_trans hb.size h),he.fresh.2⟩
 xlt n b h:=Nat.lt_of_lt_of_le (he.xlt n b h) hb.size
 only:=he.only
 glb:=he.glb.mono (mono_below hb)
theorem calls_pur{P:Program}{f:FuncId}{args:List PV}{vs:List Value}{k:Int}{g:Gh}{l:LG}{w:World}(h:(Ob.pur f args (.ret (.int .i64 k))).ok P)(ha:RepAll g w args vs)(he:Ent [] g l w) :
  Calls P f vs.toArray w fun enz w'=>enz = .returned (.int .i64 k)/\Below w.heap.size w w':=by
 refine (h.2 [] vs g ⟨fun _=>none,fun _=>none,fun _=>none⟩ w ha ⟨fun x cs hx=>(by simp [lk] at hx),fun b o ho=>(by cases ho),fun p b hb=>(by cases hb),he.fresh,he.xlt,fun b o ho=>(by cases ho),he.glb⟩).mono ?_
 rintro enz w' ⟨r,e2,g',l',⟨rfl,rfl⟩,hres,hent',hmono,hsz,hfr,hown,os,tape,output⟩
 refine ⟨?_,os,tape,output,hsz,fun b hb=>(hfr b hb rfl).1⟩
 cases enz <;> first | exact hres.elim | skip
 rename_i v
 have h1:Rep g' w' (.int .i64 k) v:=hres
 cases h1
 rfl
theorem KC.of_below{w W:World}(h:Below w.heap.size w W):KC w W:=⟨h.size,fun k o hk _=>(h.block k (Array.getElem?_eq_some_iff.1 hk).1).trans hk⟩
theorem before_stops(F:Fence)(hd:F.depth=none)(n:Nat)(h142:F.fn 145)(h143:F.fn 146)(hro:F.round=none)(g:Gh)(W0 w:World)(Bs:Nat)(x:Nd g W0)(hk0:KC W0 w)(hBs:Bs<w.heap.size)
  (h1:w.cell? ⟨Bs,0,none⟩=some (.int .i64 (prO x.1.1))) (h2:w.cell? ⟨Bs,1,none⟩=some (.string (prNm x.1.1))) (h3:w.cell? ⟨Bs,2,none⟩=some (.int .i64 (prN x.1.1))) (h4:w.cell? ⟨Bs,3,none⟩=some (.slice x.1.2.1 x.1.2.2.1 x.1.2.2.2)) :
  SeqStopsK F n prog 145 #[.pointer (some ⟨Bs,0,none⟩)] (fun y:Nd g W0=>#[y.enc]) KC (fun ys=>ys.map (·.1.1)=nodesP x.1.1) (fun ys=>ys.map (·.1.1) <+: nodesP x.1.1) (nodesP x.1.1).length w:=fun l J Jx W hW hJ _ hY h0=>
 before1_in F hd h142 h143 hro g W0 l Bs x n J Jx (fun s W W' hs hg=>hJ s W W' none hs hg (fun r e=>by cases e))
  (fun m pre y W hj hl=>YieldAt.anyDepth hd m (hY pre y W hj hl)) W (hk0.trans (KC.of_below hW)) ((hW.cell (p:=⟨Bs,0,none⟩) hBs).trans h1) ((hW.cell (p:=⟨Bs,1,none⟩) hBs).trans h2) ((hW.cell (p:=⟨Bs,2,none⟩) hBs).trans h3) ((hW.cell (p:=⟨Bs,3,none⟩) hBs).trans h4) h0
def pcE(p:Pr):Int:=if pqF p>400 then 7 else if peF p>40 then 8 else frE pnd_r0 (nodesP p)
theorem nd_rep{g:Gh}{W0:World}(x:Nd g W0):RepAll g W0 [.agg (prL x.1.1)] [x.enc]:=by
 refine .cons ?_ .nil
 refine .agg _ [_,_,_,_] rfl (fun v hv=>?_) fun j hj hj'=>?_
 ·simp only [List.mem_cons,List.not_mem_nil,or_false] at hv
  rcases hv with rfl | rfl | rfl | rfl <;> rfl
 ·match j with
  | 0=>exact .int _ _
  | 1=>exact .str _
  | 2=>exact .int _ _
  | 3=>exact x.2
theorem below_alloc{w W:World}(h:Below w.heap.size w W)(o:Obj):Below w.heap.size w (W.alloc o):=h.alloc h.size o
def Fr(p:Pr)(oa:Option Addr)(m c:Nat)(w W:World):Prop:=
 W.cell? ⟨w.heap.size,0,none⟩=some (.int .i64 (prO p))/\W.cell? ⟨w.heap.size,1,none⟩=some (.string (prNm p))/\W.cell? ⟨w.heap.size,2,none⟩=some (.int .i64 (prN p))/\W.cell? ⟨w.heap.size,3,none⟩=some (.slice oa m c) /\
 W.cell? ⟨w.heap.size+1,0,none⟩=some (.int .i64 0)/\W.frozen? ⟨w.heap.size+1,0,none⟩=false
theorem fr_new(p:Pr)(oa:Option Addr)(m c:Nat)(w:World):Fr p oa m c w ((w.alloc (.cells #[.int .i64 (prO p),.string (prNm p),.int .i64 (prN p),.slice oa m c] 46)).alloc (.cells #[.int .i64 0] 64)):=by
 have h1:((w.alloc (.cells #[.int .i64 (prO p),.string (prNm p),.int .i64 (prN p),.slice oa m c] 46)).alloc (.cells #[.int .i64 0] 64)).heap[w.heap.size]?=some (.cells #[.int .i64 (prO p),.string (prNm p),.int .i64 (prN p),.slice oa m c] 46):=
  (Below.heap_alloc _ _ _ sM).trans (World.alloc_heap_new w _)
 have h2:((w.alloc (.cells #[.int .i64 (prO p),.string (prNm p),.int .i64 (prN p),.slice oa m c] 46)).alloc (.cells #[.int .i64 0] 64)).heap[w.heap.size+1]?=some (.cells #[.int .i64 0] 64):=by
  have:=World.alloc_heap_new (w.alloc (.cells #[.int .i64 (prO p),.string (prNm p),.int .i64 (prN p),.slice oa m c] 46)) (.cells #[.int .i64 0] 64)
  rwa [World.size_alloc] at this
 unfold Fr World.cell? World.frozen?
 rw [h1,h2]
 exact ⟨rfl,rfl,rfl,rfl,rfl,rfl⟩
theorem Fr.kept{p:Pr}{oa:Option Addr}{m c:Nat}{w A B:World}(h:Fr p oa m c w A)(hl:w.heap.size+2<=A.heap.size)(hb:Below A.heap.size A B):Fr p oa m c w B:=by
 have k1:=hb.block w.heap.size oM
 have k2:=hb.block (w.heap.size+1) oM
 unfold Fr World.cell? World.frozen? at h ⊢
 rw [k1,k2]
 exact h
set_option maxHeartbeats 4000000 in
theorem check_in(p:Pr)(hs:bulkPs (prL p)<=100000000)(g:Gh)(l0:LG)(w:World)(oa:Option Addr)(m c:Nat)(hr:Rep g w (.sl 4 (Pr.cs (prK p))) (.slice oa m c))(he:Ent [] g l0 w) :
  Calls prog 55 #[encP p (.slice oa m c)] w fun e w'=>e = .returned (.int .i64 (pcE p))/\Below w.heap.size w w':=by
 refine (callsIn_wide (n:=6)).1 ?_
 obtain ⟨x,hx⟩:∃x:Nd g w,x.1=(p,oa,m,c):=⟨⟨(p,oa,m,c),hr⟩,rfl⟩
 have hrep:RepAll g w [.agg (prL p)] [encP p (.slice oa m c)]:=by have:=nd_rep x; rw [Nd.enc,hx] at this; exact this
 refine callsIn_of_wp_marks func55 rfl trivial ?_ rfl
 simp only [Tryz.ntmps55,List.size_toArray,List.length_cons,List.length_nil,Nat.reduceAdd,Nat.reduceSub,Array.replicate_succ,Array.replicate_zero,List.push_toArray,List.append_toArray,List.nil_append,List.cons_append]
 have hf1:=fr_new p oa m c w
 have hb1:Below w.heap.size w ((w.alloc (.cells #[.int .i64 (prO p),.string (prNm p),.int .i64 (prN p),.slice oa m c] 46)).alloc (.cells #[.int .i64 0] 64)):=below_alloc (below_alloc (Below.refl _ _) _) _
 have hz1:w.heap.size+2<=((w.alloc (.cells #[.int .i64 (prO p),.string (prNm p),.int .i64 (prN p),.slice oa m c] 46)).alloc (.cells #[.int .i64 0] 64)).heap.size:=by simp
 generalize hw1:(w.alloc (.cells #[.int .i64 (prO p),.string (prNm p),.int .i64 (prN p),.slice oa m c] 46)).alloc (.cells #[.int .i64 0] 64)=w1 at hf1 hb1 hz1
 have hall:∀ (f:FuncId) (k:Int),Pu f [.agg (prL p)] (.ret (.int .i64 k))->∀ (W:World),Fr p oa m c w W->Below w.heap.size w W->w.heap.size+2<=W.heap.size->CallsIn Fence.wide 5 prog f #[encP p (.slice oa m c)] W fun e W'=>e = .returned (.int .i64 k)/\Fr p oa m c w W'/\Below w.heap.size w W'/\w.heap.size+2<=W'.heap.size:=by
  intro f k hk W hF hB hS
  refine callsIn_wide.2 ?_
  refine (calls_pur hk (hrep.mono (mono_below hB)) (ent_below he hB)).mono ?_
  rintro e W' ⟨h1,h2⟩
  exact ⟨h1,hF.kept hS h2,hB.trans (h2.mono hB.size),Nat.le_trans hS h2.size⟩
 obtain ⟨c0,c1,c2,c3,r0,rf⟩:=id hf1
 have k98:=hall 95 _ (pqT p hs) w1 hf1 hb1 hz1
 gi_wp2_with (first
  | (refine ⟨trivial,?_⟩; gi_at_call 95; refine k98.mono ?_; clear k98; rintro e W2 ⟨rfl,hf2,hb2,hz2⟩; clear c0 c1 c2 c3 r0 rf; obtain ⟨c0,c1,c2,c3,r0,rf⟩:=id hf2; have k99:=hall 96 _ (peT p hs) W2 hf2 hb2 hz2)
  | (refine ⟨trivial,?_⟩; gi_at_call 96; refine k99.mono ?_; clear k99; rintro e W3 ⟨rfl,hf3,hb3,hz3⟩; clear c0 c1 c2 c3 r0 rf; obtain ⟨c0,c1,c2,c3,r0,rf⟩:=id hf3)
  | (refine ⟨trivial,?_⟩; gi_at_call 97; refine (before_in Fence.wide 5 trivial rfl p oa m c _).mono ?_; rintro e W4 ⟨rfl,rfl⟩))
 ·have hgt:pqF p>400:=by omega
  have hc5:=World.cell?_setCell_same' W2 ⟨w.heap.size+1,0,none⟩ (.int .i64 7) (by rw [r0]; rfl)
  refine ⟨.int .i64 7,by simp [results,f55,go_sem,hc5],?_,hb2.setCell (p:=⟨w.heap.size+1,0,none⟩) sM _⟩
  unfold pcE; rw [iP hgt]
 ·have hgt:¬pqF p>400:=by omega
  have hgt2:peF p>40:=by omega
  have hc5:=World.cell?_setCell_same' W3 ⟨w.heap.size+1,0,none⟩ (.int .i64 8) (by rw [r0]; rfl)
  refine ⟨.int .i64 8,by simp [results,f55,go_sem,hc5],?_,hb3.setCell (p:=⟨w.heap.size+1,0,none⟩) sM _⟩
  unfold pcE; rw [iN hgt,iP hgt2]
 ·have hgt:¬pqF p>400:=by omega
  have hgt2:¬peF p>40:=by omega
  have hpc:pcE p=frE pnd_r0 (nodesP p):=by unfold pcE; rw [iN hgt,iN hgt2]
  have hzW:W3.heap.size<(W3.alloc (.cells #[.int .i64 (prO p),.string (prNm p),.int .i64 (prN p),.slice oa m c] 46)).heap.size:=by simp
  have hb4:Below w.heap.size w (W3.alloc (.cells #[.int .i64 (prO p),.string (prNm p),.int .i64 (prN p),.slice oa m c] 46)):=hb3.alloc hb3.size _
  have hz4:w.heap.size+2<=(W3.alloc (.cells #[.int .i64 (prO p),.string (prNm p),.int .i64 (prN p),.slice oa m c] 46)).heap.size:=by simp; omega
  have hbox:(W3.alloc (.cells #[.int .i64 (prO p),.string (prNm p),.int .i64 (prN p),.slice oa m c] 46)).heap[W3.heap.size]?=some (.cells #[.int .i64 (prO p),.string (prNm p),.int .i64 (prN p),.slice oa m c] 46):=World.alloc_heap_new _ _
  have hf4:Fr p oa m c w (W3.alloc (.cells #[.int .i64 (prO p),.string (prNm p),.int .i64 (prN p),.slice oa m c] 46)):=hf3.kept hz3 ((Below.refl _ _).alloc (Nat.le_refl _) _)
  clear hall c0 c1 c2 c3 r0 rf hf1 hb1 hz1 hw1 hf2 hb2 hz2
  generalize hW4:W3.alloc (.cells #[.int .i64 (prO p),.string (prNm p),.int .i64 (prN p),.slice oa m c] 46)=W4 at hzW hb4 hz4 hbox hf4 ⊢
  generalize hBs:W3.heap.size=Bs at hzW hbox ⊢
  have hcell:∀j,W4.cell? ⟨Bs,j,none⟩ = #[Value.int .i64 (prO p),.string (prNm p),.int .i64 (prN p),.slice oa m c][j]?:=fun j=>by unfold World.cell?; rw [hbox]; rfl
  have hst:=before_stops Fence.wide rfl 5 trivial trivial rfl g w W4 Bs x (KC.of_below hb4) hzW (by rw [hx]; exact hcell 0) (by rw [hx]; exact hcell 1) (by rw [hx]; exact hcell 2) (by rw [hx]; exact hcell 3)
  obtain ⟨_,_,_,_,r0,rf⟩:=hf4
  refine wpIn_rangeFunc_ownH rfl oM (gf:=145) (lb:=#[.pointer (some ⟨Bs,0,none⟩)]) rfl trivial (enters_of func145 kR rfl) hst KC.trans
   (fun W l o o' hl hh ho _=>⟨by simp,fun k o2 hk hc2=>(World.putObj_heap_other (fun e=>by subst e; rw [hh] at hk; cases hk; rw [ho] at hc2; cases hc2)).trans hk⟩) (Below.refl _ _) (fun _=>rfl)
   (fun pre W=>((∀y∈pre,pnd_r0 y.1.1=0)/\W.cell? ⟨w.heap.size+1,0,none⟩=some (.int .i64 0)/\W.frozen? ⟨w.heap.size+1,0,none⟩=false)/\Below w.heap.size w W)
   (fun cdz pre W=>(cdz = .ret/\∃ps y,pre=ps++[y]/\(∀z∈ps,pnd_r0 z.1.1=0)/\¬pnd_r0 y.1.1=0/\W.cell? ⟨w.heap.size+1,0,none⟩=some (.int .i64 (pnd_r0 y.1.1)))/\Below w.heap.size w W)
   (OwnFrom.and (Own.from (fun s A B row hs hg hr=>⟨hs.1,cell_kept hs.2.1 hg hr,(frozen_kept hs.2.1 hg hr).trans hs.2.2⟩) _) (ownFrom_below (Nat.le_refl _) oM))
   (fun cdz=>OwnFrom.and (Own.from (fun s A B row hs hg hr=>⟨hs.1,let ⟨ps,y,k1,k2,k3,k4⟩:=hs.2; ⟨ps,y,k1,k2,k3,cell_kept k4 hg hr⟩⟩) _) (ownFrom_below (Nat.le_refl _) oM))
   ⟨⟨fun y hy=>(by cases hy),r0,rf⟩,hb4⟩
   (fun y a' W=>∃Bx,w.heap.size+2<=Bx/\W.heap[Bx]?=some (.cells #[.int .i64 (prO y.1.1),.string (prNm y.1.1),.int .i64 (prN y.1.1),.slice y.1.2.1 y.1.2.2.1 y.1.2.2.2] 46) /\
    a'={ tmps:=#[encP p (.slice oa m c),.pointer (some ⟨w.heap.size,0,none⟩),.pointer (some ⟨w.heap.size+1,0,none⟩),.pointer (some ⟨Bx,0,none⟩),undef,encP p (.slice oa m c),.int .i64 (pqF p),.bool false,encP p (.slice oa m c),.int .i64 (peF p),.bool false,encP p (.slice oa m c),.func (.func 145) #[] #[.pointer (some ⟨Bs,0,none⟩)],y.enc,undef,undef,undef,undef,undef],defers:=[] })
   (fun y a' s A B row hs hg hr=>by
    obtain ⟨Bx,h1,h2,h3⟩:=hs
    refine ⟨Bx,h1,(hg.block Bx (Array.getElem?_eq_some_iff.1 h2).1 (fun e=>?_)).trans h2,h3⟩
    obtain ⟨_,o,ho,hc⟩:=hr Bx e.symm
    rw [h2] at ho; cases ho; cases hc) ?assign ?body ?done ?stop
  case assign=>
   rintro l pre y W K ⟨⟨hz,q0,qf⟩,hB⟩ hK
   have hrc:w.heap.size+1<W.heap.size:=by
    unfold World.cell? at q0
    cases hh:W.heap[w.heap.size+1]? with
    | none=>simp [hh] at q0
    | some o=>exact (Array.getElem?_eq_some_iff.1 hh).1
   simp only [Nd.enc]
   obtain ⟨q,oa',m',c',hyx⟩:∃q oa' m' c',y.1=(q,oa',m',c'):=⟨_,_,_,_,rfl⟩
   simp only [Nd.enc,hyx] at hK ⊢
   gi_wp2
   exact hK _ _ ((KeepsOthers.alloc _ _).from _) ((KC.refl W).alloc _) ⟨⟨hz,cell_kept q0 (World.grownBy_alloc W _ none) (fun r e=>by cases e),(frozen_kept q0 (World.grownBy_alloc W _ none) (fun r e=>by cases e)).trans qf⟩,hB.alloc hB.size _⟩ ⟨W.heap.size,by omega,World.alloc_heap_new _ _,rfl⟩
  case body=>
   rintro l pre y a' W hl ⟨r,hr0⟩ ⟨⟨hz,q0,qf⟩,hB⟩ ⟨Bx,hBx,hbx,rfl⟩ hlt
   have hrc:w.heap.size+1<W.heap.size:=by
    unfold World.cell? at q0
    cases hh:W.heap[w.heap.size+1]? with
    | none=>simp [hh] at q0
    | some o=>exact (Array.getElem?_eq_some_iff.1 hh).1
   have k101:CallsIn (Fence.wide.inRound l) (6 - 1 - 1 - 1) prog 98 #[y.enc] W fun e W'=>e = .returned (.int .i64 (pnd_r0 y.1.1))/\Below W.heap.size W W'/\W'.cell? ⟨w.heap.size+1,0,none⟩=some (.int .i64 0)/\W'.frozen? ⟨w.heap.size+1,0,none⟩=false:=by
    refine CallsIn.inRound l (callsIn_wide.2 ((calls_pur (pnd y.1.1) ((nd_rep y).mono (mono_below hB)) (ent_below he hB)).mono ?_))
    rintro e W' ⟨h1,h2⟩
    have hblk:=h2.block (w.heap.size+1) hrc
    refine ⟨h1,h2,?_,?_⟩
    ·unfold World.cell? at q0 ⊢; rw [hblk]; exact q0
    ·unfold World.frozen? at qf ⊢; rw [hblk]; exact qf
   simp only [Nd.enc] at k101 ⊢
   have hxB:∀j,W.cell? ⟨Bx,j,none⟩ = #[Value.int .i64 (prO y.1.1),.string (prNm y.1.1),.int .i64 (prN y.1.1),.slice y.1.2.1 y.1.2.2.1 y.1.2.2.2][j]?:=fun j=>by unfold World.cell?; rw [hbx]; rfl
   have c0:=hxB 0
   have c1:=hxB 1
   have c2:=hxB 2
   have c3:=hxB 3
   clear hxB hbx hst hcell
   generalize hpn:pnd_r0 y.1.1=k at k101
   obtain ⟨q,oa',m',c',hyx⟩:∃q oa' m' c',y.1=(q,oa',m',c'):=⟨_,_,_,_,rfl⟩
   simp only [hyx,List.getElem?_toArray,List.getElem?_cons_zero,List.getElem?_cons_succ] at k101 c0 c1 c2 c3 ⊢
   clear hyx
   by_cases hk0:k=0
   ·subst hk0
    gi_wp2_with (refine ⟨trivial,?_⟩; gi_at_call 98; refine k101.mono ?_; clear k101; rintro e W2 ⟨rfl,hB2,p0,pf⟩)
    refine ⟨⟨hB2.size,fun k o _ hk _=>(hB2.block k (Array.getElem?_eq_some_iff.1 hk).1).trans hk⟩,KC.of_below hB2,⟨fun z hz'=>?_,p0,pf⟩,hB.trans (hB2.mono hB.size)⟩
    rcases List.mem_append.1 hz' with h | h
    ·exact hz z h
    ·simp only [List.mem_singleton] at h; subst h; exact hpn
   ·gi_wp2_with (refine ⟨trivial,?_⟩; gi_at_call 98; refine k101.mono ?_; clear k101; rintro e W2 ⟨rfl,hB2,p0,pf⟩)
    have hw2:=World.cell?_setCell_same' W2 ⟨w.heap.size+1,0,none⟩ (.int .i64 k) (by rw [p0]; rfl)
    exact ⟨(show KeepsFrom W4.heap.size W W2 from ⟨hB2.size,fun k o _ hk _=>(hB2.block k (Array.getElem?_eq_some_iff.1 hk).1).trans hk⟩).trans ((KeepsOthers.setCell W2 _ _).from _),
     ⟨rfl,pre,y,rfl,hz,by rw [hpn]; exact hk0,by rw [hpn]; exact hw2⟩,(hB.trans (hB2.mono hB.size)).setCell (p:=⟨w.heap.size+1,0,none⟩) sM _⟩
  case done=>
   rintro D ys W hD hS ⟨⟨hz,q0,qf⟩,hB⟩ hK
   gi_wp2
   have hK':=(KeepsOthers.setCell W ⟨w.heap.size+1,0,none⟩ (.int .i64 0)).same D _ hK rfl
   refine ⟨by simp,.inl ⟨_,_,rfl,run_takeDeferred hK',?_⟩⟩
   have hc5:=cell_kept (World.cell?_setCell_same' W ⟨w.heap.size+1,0,none⟩ (.int .i64 0) (by rw [q0]; rfl)) (grownBy_putObj' _ D (.deferred none)) (fun r e=>by cases e; exact ⟨_,hK',rfl⟩)
   refine ⟨.int .i64 0,by simp [results,f55,go_sem,hc5],?_,?_⟩
   ·have:∀zs:List (Nd g w),(∀z∈zs,pnd_r0 z.1.1=0)->frE pnd_r0 (zs.map (·.1.1))=0:=fun zs=>by
     induction zs with
     | nil=>intro _; rfl
     | cons a r ih=>intro h; simp only [List.map_cons,frE]; rw [iP (h a sM)]; exact ih fun z hz=>h z (List.mem_cons_of_mem _ hz)
    have h1:=this ys hz
    rw [hS,hx] at h1
    rw [h1]
   ·exact (hB.setCell (p:=⟨w.heap.size+1,0,none⟩) sM _).trans (belowK_b (w:=w) (Nat.le_refl _) _ D _ _ oM hK' rfl rfl)
  case stop=>
   rintro D cdz pre W hD hS ⟨⟨rfl,ps,y,rfl,hz,hne,q0⟩,hB⟩ hK
   gi_wp2
   refine ⟨by simp,.inl ⟨_,_,rfl,run_takeDeferred hK,?_⟩⟩
   have hc5:=cell_kept q0 (grownBy_putObj' _ D (.deferred none)) (fun r e=>by cases e; exact ⟨_,hK,rfl⟩)
   refine ⟨.int .i64 (pnd_r0 y.1.1),by simp [results,f55,go_sem,hc5],?_,hB.trans (belowK_b (w:=w) (Nat.le_refl _) _ D _ _ oM hK rfl rfl)⟩
   have:∀ (zs:List (Nd g w)) (rest:List Pr),(∀z∈zs,pnd_r0 z.1.1=0)->frE pnd_r0 ((zs++[y]).map (·.1.1)++rest)=pnd_r0 y.1.1:=fun zs rest=>by
    induction zs with
    | nil=>intro _; simp only [List.nil_append,List.map_cons,List.map_nil,List.cons_append,frE]; rw [iN hne]
    | cons a r ih=>intro h; simp only [List.cons_append,List.map_cons,frE]; rw [iP (h a sM)]; exact ih fun z hz=>h z (List.mem_cons_of_mem _ hz)
   obtain ⟨rest,hrest⟩:=hS
   have h1:=this ps rest hz
   rw [hrest,hx] at h1
   rw [h1]
mutual
theorem pr_nx:∀p:Pr,noXs (prL p)=true
 | .mk o s n ks=>by simp only [prK,noXs,PV.noX,prs_nx ks,Bool.and_self]
theorem prs_nx:∀l:List Pr,noXss (Pr.cs l)=true
 | []=>rfl
 | x::r=>by rw [show Pr.cs (x::r)=prL x::Pr.cs r by simp [Pr.cs_eq],noXss,prs_nx r,pr_nx x]; rfl
end
theorem pcT(p:Pr)(hs:bulkPs (prL p)<=100000000):Pu 55 [.agg (prL p)] (.ret (.int .i64 (pcE p))):=by
 refine Ob.pur_of_eff (e':=[]) (by have h1:=pr_nx p; simp only [noXs,PV.noX,Bool.and_true,Bool.true_and] at h1 ⊢; exact h1) rfl ⟨by kernel_rfl,fun vs g l w ha he=>?_⟩
 obtain ⟨v,vs',rfl,hr,ha'⟩:=ha.inv_cons
 obtain rfl:=ha'.inv_nil
 obtain ⟨oa,m,c,hk,rfl⟩:∃oa m c,Rep g w (.sl 4 (Pr.cs (prK p))) (.slice oa m c)/\v=encP p (.slice oa m c):=by
  generalize he:prL p=cs at hr
  cases hr with
  | agg _ vs h1 ho h=>
   subst he
   match vs,h1,h with
   | [v0,v1,v2,v3],_,h=>
    have r0:Rep g w (.int .i64 (prO p)) v0:=h 0 sM sM
    have r1:Rep g w (.str (prNm p)) v1:=h 1 sM sM
    have r2:Rep g w (.int .i64 (prN p)) v2:=h 2 sM sM
    have r3:Rep g w (.sl 4 (Pr.cs (prK p))) v3:=h 3 sM sM
    obtain ⟨oa,m,c,rfl⟩:=sl_val r3
    cases r0; cases r1; cases r2
    exact ⟨oa,m,c,r3,rfl⟩
 refine (check_in p hs g l w oa m c hk he).mono ?_
 rintro enz w' ⟨rfl,hbel⟩
 exact ⟨_,[],g,l,⟨rfl,rfl⟩,.int _ _,ent_below he hbel,mono_below hbel,hbel.size,fun b hb _=>⟨hbel.block b hb,rfl⟩,fun b o ho => .inr (by rw [ho]; rfl),hbel.os,hbel.tape,hbel.output⟩
open Go.RowKit Go.Maps Go.Sort
theorem pu9:Tryz.prog.underlying 9=some .string:=by kernel_rfl
theorem u4:Tryz.prog.underlying 4=some .bool:=by kernel_rfl
theorem u30:Tryz.prog.underlying 30=some (.slice 9):=by kernel_rfl
theorem u271:Tryz.prog.underlying 271=some (.map 9 4):=by kernel_rfl
theorem law9:Keyed Tryz.prog 9:=string_keyed pu9
theorem info9:(Tryz.prog.info? 9).map (fun i=>(i.zero,i.size,i.bytes))=some (some (.string ⟨#[]⟩),1,16):=by kernel_rfl
structure BB where
 b:Bool
theorem plainElem_bool_inv{H:Type}{v:Value}{y:DataW H × List MemPlace}(h:plainElem Tryz.prog 4 v=some y):∃c:BB,v = .bool c.b:=by
 unfold plainElem at h
 rw [u4] at h
 cases v <;> simp at h
 exact ⟨⟨_⟩,rfl⟩
set_option maxRecDepth 100000 in
set_option maxHeartbeats 1000000 in
theorem sorted_any{H:Type}(bs b n:Nat)(D0:DataW H)(w:World)(hset:w.cell? ⟨bs,0,none⟩=some (.map (some b)))(hown:w.ownsMap Tryz.prog 9 (plainElem Tryz.prog 4) b n D0)(hbytes:16 * Maps.size D0<=140737488355328) :
  Calls Tryz.prog 166 #[.pointer (some ⟨bs,0,none⟩)] w fun e w'=>∃ (v:Value) (ss:List (List UInt8)),e = .returned v/\ss.Perm (strKeys D0) /\
   w'.ownsRow w.heap.size 9 1 v ss.length ((ss.mergeSort (fun x y=>decide (x<=y))).map encStr)/\Below w.heap.size w w':=by
 obtain ⟨i0,hi,hz0,hz1,hz2⟩:=info_parts info9
 have hbl:=hown.lt
 go_enter Tryz.func166,Tryz.ntmps166
 go_wp2_with (first
  | (at_range; refine wpList_range_own _ rfl _ 271 rfl 9 4 law9 u271 _ b n _ rfl hown ?_; intro w0 hrg0 hg0 hs0)
  | go_in)
 go_frame
 go_loopw [3] (fun v wr=>∃ (left:Lit->Bool) (cnt:Nat) (ss:List (List UInt8)),wr.ranges Tryz.prog 9 (plainElem Tryz.prog 4) b w.heap.size n D0 left cnt/\ss.length+cnt<=Maps.size D0 /\
   wr.ownsRow w.heap.size 9 1 v ss.length (ss.map encStr)/\Collected D0 left ss/\Below w.heap.size w wr)
  (fun _ wr=>wr.rangeLeft b w.heap.size)
 case atStart=>
  exact ⟨_,_,[],hrg0,by simp,⟨rfl,.inl ⟨rfl,rfl⟩⟩,Collected.start D0,(Below.refl _ _).grown hg0 (Nat.le_refl _) (fun j hj=>by cases hj)⟩
 case round=>
  obtain ⟨left,cnt,ss,hrg,hcs,hrow,hC,hnx⟩:=hrel
  go_wp2_with (first
   | (at_next; refine wpList_next_ranges _ rfl _ rfl 9 law9 (plainElem Tryz.prog 4) encStr (fun c:BB=>Value.bool c.b) (fun key kl hk=>by obtain ⟨x,hx,_⟩:=Maps.keyOf_str pu9 hk; exact ⟨x,hx⟩) (fun v y hv=>plainElem_bool_inv hv) b w.heap.size n _ _ _ rfl hrg ?_ ?_)
   | go_in)
  ·-- nothing is left
   intro hc0 hl0
   rcases hrow.2 with ⟨hnil,hn0⟩ | ⟨g,cap,cur,rfl,hbase,hb,h1,h2,h3,h4⟩
   ·subst hnil
    have hss:ss=[]:=List.eq_nil_of_length_eq_zero hn0
    subst hss
    have hc:=Tryz.slices_Sort_string_none none 0 wr
    go_wp2_with (go_at_call 210; refine hc.mono ?_; rintro e w' ⟨rfl,rfl⟩)
    go_ret
    exact ⟨_,[],rfl,hC.perm hown law9 pu9 hl0,by simpa using hrow,hnx⟩
   ·have hH:Holds encStr wr g 0 ss.toArray:=holds_of_block hb (by simpa using h4)
    have hgl:g<wr.heap.size:=(Array.getElem?_eq_some_iff.1 hb).1
    have hc:=Tryz.slices_Sort_string g 0 cap ss wr hH hgl (by omega)
    go_wp2_with (go_at_call 210; refine hc.mono ?_; rintro e w' ⟨rfl,nn,os,rfl⟩)
    go_ret
    exact ⟨_,ss,rfl,hC.perm hown law9 pu9 hl0,ownsRow_sorted (by simp) hbase hb h1 h2 h3,hnx.grown (grownBy_sorted _) hnx.size (fun j hj=>by cases hj; exact hbase)⟩
  ·-- an entry has come
   intro x c kl yd yp w2 cnt2 hkey hlk hv hat hrg2 hlt hg2 hs2 hen
   obtain ⟨x',ex,rfl,_⟩:=Maps.keyOf_str pu9 hkey
   obtain rfl:x=x':=encStr_inj ex
   have hrow2:=hrow.kept hg2 (Or.inr (row_ne_iter hrow hrg).symm)
   clear hs2
   go_wp2_with (first
    | (at_builtin; refine wpList_append_own _ rfl _ _ 30 rfl w.heap.size 9 i0 (.string ⟨#[]⟩) 1 16 u30 hi hz0 hz1 hz2 rfl (by decide) _ _ _ rfl (hrow2.alloc _) ⟨w2.heap.size,0,none⟩ 1 1 [encStr x] rfl rfl (cell_one_new _ _ _) (by simp [Value.oneCell',encStr]) (by unfold maxLen at *; omega) (by omega) (by have:=hnx.size; have:=hg2.size; simp; omega) ?_; intro v' w3 hown' hg3 hnil3; go_frame)
    | go_in)
   have hrg3:=(hrg2.alloc _).kept hg3 (row_ne_low hrow2 hbl) (row_ne_iter hrow2 hrg2)
   go_roundw
   case rel=>
    refine ⟨_,cnt2,ss++[x],hrg3,by simp; omega,by simpa using hown',hC.step hlk hat,?_⟩
    exact ((hnx.grown hg2 hnx.size (fun j hj=>by cases hj; exact Nat.le_refl _)).alloc (by have:=hnx.size; have:=hg2.size; omega) _).grown hg3 (by have:=hnx.size; have:=hg2.size; simp; omega) (fun j hj=>(hrow2.lt j hj).1)
   case measure=>rw [hrg3.left_eq,hrg.left_eq]; exact hlt
end Go.Proofs.YtcflffbapgiicaaGreatDoor
