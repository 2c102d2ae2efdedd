/- Values of Go as plain data, an evaluator over them, and what the functions of the program return; part Ye. -/
import Derived.RangeFuncNested
import Derived.RangeFuncBound
import Derived.RangeFuncCalls
import Derived.RangeFuncLeaves
import Derived.Shelf.Abstract
import Derived.Shelf.RegionOpen
import Derived.WalkKit
import Derived.OwnWalkIn
import Derived.TacticsInMore
import Derived.LoopNIn
import Derived.LoopIn
import Derived.Test.YtmllcplaohkjnaaGreatDoorYd
import Derived.Test.YtmllcplaohkjnaaGreatDoorYa
set_option linter.unusedSectionVars false
set_option linter.unusedSimpArgs false
set_option linter.unusedVariables false
namespace Go.Proofs.YtmllcplaohkjnaaGreatDoor
open Go.Proofs.Tryz
open Go.RowKit Go.Shelf Go.Pv
attribute [local go_sem] Oper.semAt_some
set_option maxRecDepth 100000
structure KC (W W':World):Prop where
 size:W.heap.size<=W'.heap.size
 same:∀ (k:Nat) (o:Obj),W.heap[k]?=some o->o.isCells=true->W'.heap[k]?=some o
theorem KC.refl(W:World):KC W W:=⟨Nat.le_refl _,fun _ _ h _=>h⟩
theorem KC.trans{A B C:World}(h:KC A B)(k:KC B C):KC A C:=⟨Nat.le_trans h.size k.size,fun i o hi ho=>k.same i o (h.same i o hi ho) ho⟩
theorem KC.cell{A B:World}(h:KC A B){a:Addr}{v:Value}(hc:A.cell? a=some v):B.cell? a=some v:=by
 unfold World.cell? at hc ⊢
 cases hh:A.heap[a.block]? with
 | none=>simp [hh] at hc
 | some o=>
  cases o with
  | cells cur e m=>rw [h.same _ _ hh rfl]; rw [hh] at hc; exact hc
  | _=>simp [hh] at hc
mutual
/-- The nodes of a predicate,each before its kids' nodes. -/
def DA:Pr->List Pr
 | .mk o s n ks => .mk o s n ks::C4 ks
def C4:List Pr->List Pr
 | []=>[]
 | x::r=>DA x++C4 r
end
theorem HE(p:Pr):DA p=p::C4 (Bg p):=by cases p; simp [DA,Bg]
abbrev Ou(p:Pr)(kv:Value):Value := .agg #[.int .i64 (Ah p),.string (AR p),.int .i64 (DE p),kv]
theorem KC.alloc{A W:World}(h:KC A W)(o:Obj):KC A (W.alloc o):=⟨Nat.le_trans h.size (by simp),fun k o' hk hc=>by
 have h1:=h.same k o' hk hc
 exact (Below.heap_alloc _ _ _ (Array.getElem?_eq_some_iff.1 h1).1).trans h1⟩
theorem WO(W:World)(v0 v1 v2 v3:Value):(W.alloc (.cells #[v0,v1,v2,v3] 50)).cell? ⟨W.heap.size,3,none⟩=some v3:=by
 unfold World.cell?
 rw [World.alloc_heap_new W (.cells #[v0,v1,v2,v3] 50)]
 rfl
abbrev Nd(g:Gh)(W0:World):Type:={ x:Pr × Option Addr × Nat × Nat // BO g W0 (.sl 4 (Pr.cs (Bg x.1))) (.slice x.2.1 x.2.2.1 x.2.2.2) }
abbrev Nd.enc{g:Gh}{W0:World}(x:Nd g W0):Value:=Ou x.1.1 (.slice x.1.2.1 x.1.2.2.1 x.1.2.2.2)
theorem A2n{W:World}{a:Addr}{v:Value}(h:W.cell? a=some v):a=⟨a.block,a.off,none⟩:=by
 have:=HL h
 cases a; simp only at this; subst this; rfl
theorem aM{g:Gh}{w:World}{z:Nat}{es:List (List PV)}{v:Value}(h:BO g w (.sl z es) v):∃oa m c,v = .slice oa m c:=by
 cases h with
 | slnil=>exact ⟨none,0,0,rfl⟩
 | sl _ _ a cap _ _ _ _ _ _ _ _=>exact ⟨some a,_,cap,rfl⟩
theorem aN{g:Gh}{W0:World}(x:Nd g W0):(Bg x.1.1=[]/\x.1.2.2.1=0) ∨
  ∃b off,x.1.2.1=some ⟨b,off,none⟩/\x.1.2.2.1=(Bg x.1.1).length/\0<(Bg x.1.1).length/\(Bg x.1.1).length<=9223372036854775807 /\
   ∀i,i<(Bg x.1.1).length->∃y:Nd g W0,y.1.1=(Bg x.1.1).getD i default/\W0.cell? ⟨b,off+i * 4,none⟩=some (.int .i64 (Ah y.1.1))/\W0.cell? ⟨b,off+i * 4+1,none⟩=some (.string (AR y.1.1)) /\
    W0.cell? ⟨b,off+i * 4+2,none⟩=some (.int .i64 (DE y.1.1))/\W0.cell? ⟨b,off+i * 4+3,none⟩=some (.slice y.1.2.1 y.1.2.2.1 y.1.2.2.2):=by
 obtain ⟨⟨p,oa,m,c⟩,h⟩:=x
 simp only at h ⊢
 generalize he:Pr.cs (Bg p)=es at h
 generalize hv:Value.slice oa m c=v at h
 have hl:es.length=(Bg p).length:=by rw [<-he,Pr.A0]
 cases h with
 | slnil=>
  injection hv with e1 e2 e3
  exact .inl ⟨List.eq_nil_of_length_eq_zero (by rw [<-hl]; rfl),e2⟩
 | sl _ _ a cap vs hle D5 Cb hc hf h1 hr=>
  injection hv with e1 e2 e3
  by_cases h0:(Bg p).length=0
  ·exact .inl ⟨List.eq_nil_of_length_eq_zero h0,by omega⟩
  ·have c00:=A2n (hc 0 0 (by omega) (by omega))
   have ha:a=⟨a.block,a.off,none⟩:=by
    have h:=HL (hc 0 0 (by omega) (by omega))
    cases a with
    | mk b o sp=>
     simp only [Addr.add] at h ⊢
     split at h <;> simp_all
   refine .inr ⟨a.block,a.off,by rw [e1,<-ha],by omega,by omega,Nat.le_trans (by omega) (Nat.le_trans D5 (by decide)),fun i hi=>?_⟩
   have tH:i<es.length:=by omega
   have Gi:es[i]=CI ((Bg p).getD i default):=by
    have:=Pr.B0 hi
    rw [he] at this
    rw [<-this]
    simp [List.getD,tH]
   have Xk:∀j,a.add (i * 4+j)=⟨a.block,a.off+i * 4+j,none⟩:=fun j=>by
    rw [ha]; simp only [Addr.add]; simp [Nat.add_assoc]
   have hrr:∀j (hj:j<es[i].length),BO g W0 es[i][j] (vs i j):=fun j hj=>hr i j tH hj
   have hlen:es[i].length=4:=Cb i tH
   have r0:BO g W0 (.int .i64 (Ah ((Bg p).getD i default))) (vs i 0):=by have:=hrr 0 (by omega); simpa only [Gi,CI,List.getElem_cons_zero] using this
   have r1:BO g W0 (.str (AR ((Bg p).getD i default))) (vs i 1):=by have:=hrr 1 (by omega); simpa only [Gi,CI,List.getElem_cons_zero,List.getElem_cons_succ] using this
   have r2:BO g W0 (.int .i64 (DE ((Bg p).getD i default))) (vs i 2):=by have:=hrr 2 (by omega); simpa only [Gi,CI,List.getElem_cons_zero,List.getElem_cons_succ] using this
   have r3:BO g W0 (.sl 4 (Pr.cs (Bg ((Bg p).getD i default)))) (vs i 3):=by have:=hrr 3 (by omega); simpa only [Gi,CI,List.getElem_cons_zero,List.getElem_cons_succ] using this
   obtain ⟨fE,m',c',e'⟩:=aM r3
   have v0:vs i 0 = .int .i64 (Ah ((Bg p).getD i default)):=by generalize vs i 0=u at r0; cases r0; rfl
   have v1:vs i 1 = .string (AR ((Bg p).getD i default)):=by generalize vs i 1=u at r1; cases r1; rfl
   have v2:vs i 2 = .int .i64 (DE ((Bg p).getD i default)):=by generalize vs i 2=u at r2; cases r2; rfl
   refine ⟨⟨⟨(Bg p).getD i default,fE,m',c'⟩,by rw [e'] at r3; exact r3⟩,rfl,?_,?_,?_,?_⟩
   ·have:=hc i 0 tH (by omega); rw [Xk,v0] at this; exact this
   ·have:=hc i 1 tH (by omega); rw [Xk,v1] at this; exact this
   ·have:=hc i 2 tH (by omega); rw [Xk,v2] at this; exact this
   ·have:=hc i 3 tH (by omega); rw [Xk,e'] at this; exact this
theorem GP:∀a b:List Pr,C4 (a++b)=C4 a++C4 b
 | [],b=>rfl
 | x::r,b=>by simp [C4,GP r b]
theorem HX{ks:List Pr}{k:Nat}(h:k<ks.length):C4 (ks.take (k+1))=C4 (ks.take k)++DA (ks.getD k default):=by
 rw [List.take_add_one,GP]
 simp [List.getD,h,C4]
theorem TW{ks:List Pr}{k:Nat}(h:k<ks.length):(C4 (ks.take k)).length+(DA (ks.getD k default)).length<=(C4 ks).length:=by
 have h1:C4 ks=C4 (ks.take (k+1))++C4 (ks.drop (k+1)):=by rw [<-GP,List.take_append_drop]
 rw [h1,HX h]
 simp only [List.length_append]
 omega
theorem Sn{ks:List Pr}{k:Nat}(h:k<ks.length){q:List Pr}(hq:q <+: DA (ks.getD k default)):C4 (ks.take k)++q <+: C4 ks:=by
 have h1:C4 ks=C4 (ks.take (k+1))++C4 (ks.drop (k+1)):=by rw [<-GP,List.take_append_drop]
 obtain ⟨r,hr⟩:=hq
 rw [h1,HX h,<-hr]
 exact ⟨r++C4 (ks.drop (k+1)),by simp [List.append_assoc]⟩
abbrev YR{g:Gh}{W0:World}(J Jx:List (Nd g W0)->World->Prop)(pre:List (Nd g W0))(x:Nd g W0)(W:World)(e:Ending)(W':World):Prop:=
 (e = .returned (.bool true)/\J (pre++[x]) W'/\KC W W')∨(e = .returned (.bool false)/\Jx (pre++[x]) W')
set_option maxHeartbeats 2000000 in
theorem aO(F:Fence)(hd:F.depth=none)(aP:F.fn 143)(mQ:F.round=none)(g:Gh)(W0:World)(l N:Nat)(J Jx:List (Nd g W0)->World->Prop)
  (hJ:∀s W W',J s W->W.grownBy W' none->J s W')
  (hY:∀m pre (x:Nd g W0) W,J pre W->pre.length<N->YieldAt F m Tryz.prog l #[x.enc] W (YR J Jx pre x W)) :
  ∀ (d:Nat) (x:Nd g W0) (n:Nat) (pre:List (Nd g W0)) (W:World),(DA x.1.1).length<=d->KC W0 W->J pre W->pre.length+(DA x.1.1).length<=N ->
   CallsIn F n Tryz.prog 143 #[x.enc,.func (.yield l) #[] #[]] W fun e W'=>
    (e = .returned (.bool true)/\(∃ys:List (Nd g W0),ys.map (·.1.1)=DA x.1.1/\J (pre++ys) W')/\KC W W') ∨
    (e = .returned (.bool false)/\∃ys:List (Nd g W0),ys.map (·.1.1) <+: DA x.1.1/\Jx (pre++ys) W'):=by
 intro d
 induction d with
 | zero=>intro x n pre W h; rw [HE] at h; simp at h
 | succ d ih=>
 intro x n pre W hlen SU hJ0 hN
 have Of:(C4 (Bg x.1.1)).length<=d:=by rw [HE] at hlen; simp at hlen; omega
 have hNs:pre.length+1+(C4 (Bg x.1.1)).length<=N:=by rw [HE] at hN; simp at hN; omega
 have Vd:∀q,q <+: C4 (Bg x.1.1)->x.1.1::q <+: DA x.1.1:=fun q hq=>by rw [HE]; exact (List.prefix_cons_inj _).2 hq
 have BE:x.1.1::C4 (Bg x.1.1)=DA x.1.1:=(HE _).symm
 have aQ:=aN x
 have hY0:=fun m W=>hY m pre x W
 obtain ⟨p,oa,len,cap,hx⟩:∃p oa len cap,x.1=(p,oa,len,cap):=⟨_,_,_,_,rfl⟩
 simp only [Nd.enc] at hY0 ⊢
 rw [hx] at hlen Of hNs Vd BE aQ hY0 hN ⊢
 simp only at hlen Of hNs Vd BE aQ hY0 hN ⊢
 refine callsIn_of_wp Tryz.func143 rfl aP ?_ mQ
 simp only [Tryz.ntmps143,List.size_toArray,List.length_cons,List.length_nil,Nat.reduceAdd,Nat.reduceSub,Array.replicate_succ,Array.replicate_zero,List.push_toArray,List.append_toArray,List.nil_append,List.cons_append]
 have Eh:∀k:Nat,(F.depth.isSome=true->1<=k):=fun k h=>by rw [hd] at h; cases h
 have hJ1:J pre (W.alloc (.cells #[.int .i64 (Ah p),.string (AR p),.int .i64 (DE p),.slice oa len cap] 50)):=hJ _ _ _ hJ0 (World.grownBy_alloc W _ none)
 obtain ⟨fn,tmps,assign,body,hy,hR⟩:=hY0 (n - 1) _ hJ1 (by rw [HE] at hN; simp at hN; omega)
 have wX:=hR.mono (R':=fun e W2=>(e = .returned (.bool true)/\J (pre++[x]) W2/\KC W W2/\W2.cell? ⟨W.heap.size,3,none⟩=some (.slice oa len cap))∨(e = .returned (.bool false)/\Jx (pre++[x]) W2))
  (fun e W2 h=>h.elim (fun ⟨he,hj,hk⟩ => .inl ⟨he,hj,((KC.refl W).alloc _).trans hk,hk.cell (WO _ _ _ _ _)⟩) .inr)
 clear hR hY hY0
 gi_wp2_with ((try refine ⟨Eh _,?_⟩); refine wX.mono ?_; clear wX; rintro e W2 (⟨rfl,HK,hk,hc⟩ | ⟨rfl,hx9⟩))
 ·rcases aQ with ⟨XY,rfl⟩ | ⟨b,off,rfl,rfl,Ho,Aa3,DM⟩
  ·gi_loopw [14] (fun i wr=>i = .int .i64 0/\KC W wr/\J (pre++[x]) wr) (fun _ _=>0)
   case atStart=>exact ⟨rfl,hk,HK⟩
   case round=>
    obtain ⟨rfl,j5,hjy⟩:=hrel
    gi_wp2
    go_ret
    exact .inl ⟨rfl,⟨[x],by simp only [List.map_cons,List.map_nil,hx]; rw [XY] at BE; exact BE,hjy⟩,j5⟩
  ·gi_loopw [14] (fun i wr=>∃ (k:Nat) (ys:List (Nd g W0)),k<=(Bg p).length/\i = .int .i64 k/\KC W wr/\ys.map (·.1.1)=C4 ((Bg p).take k)/\J (pre++x::ys) wr) (fun i _=>(Bg p).length - (intOf i).toNat)
   case atStart=>exact ⟨0,[],Nat.zero_le _,rfl,hk,rfl,HK⟩
   case round=>
    obtain ⟨k,ys,xE,rfl,j5,Kh,hjy⟩:=hrel
    by_cases Ad:k<(Bg p).length
    ·obtain ⟨y,hy1,c0,c1,c2,c3⟩:=DM k Ad
     have d0:=(SU.trans j5).cell c0
     have d1:=(SU.trans j5).cell c1
     have d2:=(SU.trans j5).cell c2
     have d3:=(SU.trans j5).cell c3
     have hle:=TW Ad
     have Ml:=HX Ad
     have hpr:=fun q (hq:q <+: DA ((Bg p).getD k default))=>Sn Ad hq
     rw [<-hy1] at hle Ml hpr
     have hyl:ys.length=(C4 ((Bg p).take k)).length:=by rw [<-Kh,List.length_map]
     have GF:=ih y (n - 1) (pre++x::ys) (wr.alloc (.cells #[.int .i64 (Ah y.1.1),.string (AR y.1.1),.int .i64 (DE y.1.1),.slice y.1.2.1 y.1.2.2.1 y.1.2.2.2] 50)) (by omega) ((SU.trans j5).alloc _) (hJ _ _ _ hjy (World.grownBy_alloc _ _ none))
      (by simp only [List.length_append,List.length_cons]; omega)
     clear ih DM hy1
     simp only [Nd.enc] at GF
     obtain ⟨q,fE,m',c',tI⟩:∃q fE m' c',y.1=(q,fE,m',c'):=⟨_,_,_,_,rfl⟩
     rw [tI] at GF d0 d1 d2 d3 Ml hpr hle
     simp only at GF d0 d1 d2 d3 Ml hpr hle
     clear tI c0 c1 c2 c3
     gi_wp2_with ((try refine ⟨Eh _,?_⟩); gi_at_call 143; refine GF.mono ?_; clear GF; rintro e W3 (⟨rfl,⟨zs,O3,hjz⟩,hk3⟩ | ⟨rfl,zs,O3,hxz⟩))
     ·go_roundw
      case rel=>exact ⟨k+1,ys++zs,Ad,by simp,(j5.alloc _).trans hk3,by rw [List.map_append,Kh,O3,Ml],by rw [<-List.cons_append,<-List.append_assoc]; exact hjz⟩
      case measure=>simp [intOf]; omega
     ·go_ret
      exact .inr ⟨rfl,x::(ys++zs),by simp only [List.map_cons,List.map_append,Kh,hx]; exact Vd _ (hpr _ O3),by rw [<-List.cons_append,<-List.append_assoc]; exact hxz⟩
    ·obtain rfl:k=(Bg p).length:=by omega
     gi_wp2
     go_ret
     exact .inl ⟨rfl,⟨x::ys,by simp only [List.map_cons,Kh,hx,List.take_length]; exact BE,hjy⟩,j5⟩
 ·go_ret
  exact .inr ⟨rfl,[x],by simp only [List.map_cons,List.map_nil,hx]; exact Vd [] (List.nil_prefix),by exact hx9⟩
set_option maxHeartbeats 1000000 in
theorem TX(F:Fence)(hd:F.depth=none)(tJ:F.fn 142)(aP:F.fn 143)(mQ:F.round=none)(g:Gh)(W0:World)(l Bs:Nat)(x:Nd g W0)(n:Nat)(J Jx:List (Nd g W0)->World->Prop)
  (hJ:∀s W W',J s W->W.grownBy W' none->J s W')
  (hY:∀m pre (y:Nd g W0) W,J pre W->pre.length<(DA x.1.1).length->YieldAt F m Tryz.prog l #[y.enc] W (YR J Jx pre y W)) (W:World) (SU:KC W0 W)
  (h1:W.cell? ⟨Bs,0,none⟩=some (.int .i64 (Ah x.1.1))) (h2:W.cell? ⟨Bs,1,none⟩=some (.string (AR x.1.1))) (h3:W.cell? ⟨Bs,2,none⟩=some (.int .i64 (DE x.1.1))) (h4:W.cell? ⟨Bs,3,none⟩=some (.slice x.1.2.1 x.1.2.2.1 x.1.2.2.2)) (h0:J [] W) :
  CallsIn F n Tryz.prog 142 #[.func (.yield l) #[] #[],.pointer (some ⟨Bs,0,none⟩)] W fun e W'=>(∃v,e = .returned v) /\
   ((∃ys:List (Nd g W0),ys.map (·.1.1)=DA x.1.1/\J ys W')∨(∃ys:List (Nd g W0),ys.map (·.1.1) <+: DA x.1.1/\Jx ys W')):=by
 have Eh:∀k:Nat,(F.depth.isSome=true->1<=k):=fun k h=>by rw [hd] at h; cases h
 have GF:=aO F hd aP mQ g W0 l _ J Jx hJ hY _ x (n - 1) [] W (Nat.le_refl _) SU h0 (by simp)
 simp only [Nd.enc,List.nil_append] at GF
 obtain ⟨p,oa,len,cap,hx⟩:∃p oa len cap,x.1=(p,oa,len,cap):=⟨_,_,_,_,rfl⟩
 rw [hx] at GF h1 h2 h3 h4 ⊢
 simp only at GF h1 h2 h3 h4 ⊢
 clear hY hx
 refine callsIn_of_wp Tryz.func142 rfl tJ ?_ mQ
 simp only [Tryz.ntmps142,List.size_toArray,List.length_cons,List.length_nil,Nat.reduceAdd,Nat.reduceSub,Array.replicate_succ,Array.replicate_zero,List.push_toArray,List.append_toArray,List.nil_append,List.cons_append]
 gi_wp2_with ((try refine ⟨Eh _,?_⟩); gi_at_call 143; refine GF.mono ?_; clear GF; rintro e W1 (⟨rfl,⟨ys,Kh,hj⟩,_⟩ | ⟨rfl,ys,Kh,hx⟩))
 ·go_end0
  exact ⟨⟨_,rfl⟩,.inl ⟨ys,Kh,hj⟩⟩
 ·go_end0
  exact ⟨⟨_,rfl⟩,.inr ⟨ys,Kh,hx⟩⟩
set_option maxHeartbeats 1000000 in
theorem WQ(F:Fence)(n:Nat)(A8n:F.fn 100)(mQ:F.round=none)(p:Pr)(oa:Option Addr)(m c:Nat)(w:World) :
  CallsIn F n Tryz.prog 100 #[Ou p (.slice oa m c)] w fun e w'=>e = .returned (.func (.func 142) #[] #[.pointer (some ⟨w.heap.size,0,none⟩)])/\w'=w.alloc (.cells #[.int .i64 (Ah p),.string (AR p),.int .i64 (DE p),.slice oa m c] 50):=by
 refine callsIn_of_wp Tryz.func100 rfl A8n ?_ mQ
 simp only [Tryz.ntmps100,List.size_toArray,List.length_cons,List.length_nil,Nat.reduceAdd,Nat.reduceSub,Array.replicate_succ,Array.replicate_zero,List.push_toArray,List.append_toArray,List.nil_append,List.cons_append]
 gi_wp2
 go_ret
 exact ⟨rfl,rfl⟩
open Go.Pv Go.Proofs.Tryz
set_option maxRecDepth 100000
theorem Mn(x:Pr):Af (Pr.cs (Bg x))<A5 (CI x):=by simp only [A5,Dq]; omega
def A8(o:Int):Int:=(if o=1 then 0 else (if o=2 then 0 else (if o=3 then 0 else (if o=4 then 1 else (if o=5 then 1 else (if o=9 then 1 else (if o=14 then 1 else 2)))))))
def A9(o:Int):Int:=(if o=1 then 0 else (if o=2 then 0 else (if o=3 then 0 else (if o=4 then 24 else (if o=5 then 24 else (if o=9 then 1 else (if o=14 then 1 else 2)))))))
theorem tK(o:Int):Pu 144 [pI o] (.ret (.B6 [pI (A8 o),pI (A9 o)])):=by
 by_cases h0:o=1
 ·simp only [A8,A9,iP h0]; exact pm An [rp 2 (CT h0)] func144
 ·by_cases h1:o=2
  ·simp only [A8,A9,iN h0,iP h1]; exact pm An [As h0,rp 2 (CT h1)] func144
  ·by_cases h2:o=3
   ·simp only [A8,A9,iN h0,iN h1,iP h2]; exact pm An [As h0,As h1,CT h2] func144
   ·by_cases h3:o=4
    ·simp only [A8,A9,iN h0,iN h1,iN h2,iP h3]; exact pm An [As h0,As h1,As h2,rp 2 (CT h3)] func144
    ·by_cases h4:o=5
     ·simp only [A8,A9,iN h0,iN h1,iN h2,iN h3,iP h4]; exact pm An [As h0,As h1,As h2,As h3,CT h4] func144
     ·by_cases h5:o=9
      ·simp only [A8,A9,iN h0,iN h1,iN h2,iN h3,iN h4,iP h5]; exact pm An [As h0,As h1,As h2,As h3,As h4,rp 2 (CT h5)] func144
      ·by_cases h6:o=14
       ·simp only [A8,A9,iN h0,iN h1,iN h2,iN h3,iN h4,iN h5,iP h6]; exact pm An [As h0,As h1,As h2,As h3,As h4,As h5,CT h6] func144
       ·simp only [A8,A9,iN h0,iN h1,iN h2,iN h3,iN h4,iN h5,iN h6]; exact pm An [As h0,As h1,As h2,As h3,As h4,As h5,As h6] func144
def CY(o:Int):Bool:=(if o=3 then true else (if o=4 then true else (o==5)))
theorem Sq(o:Int):Pu 145 [pI o] (rB (CY o)):=by
 by_cases h0:o=3
 ·simp only [CY,iP h0]; exact pm An [rp 3 (CT h0),rp 3 (bt true)] func145
 ·by_cases h1:o=4
  ·simp only [CY,iN h0,iP h1]; exact pm An [rp 3 (As h0),rp 3 (CT h1)] func145
  ·simp only [CY,iN h0,iN h1]; exact pm An [rp 3 (As h0),rp 3 (As h1)] func145
def FV(n:Int):Bool:=(if n >= -1000000000000 then (decide (n<=1000000000000)) else false)
theorem niS(n:Int):Pu 146 [pI n] (rB (FV n)):=by
 by_cases h0:n >= -1000000000000
 ·simp only [FV,iP h0]; exact pm An [rp 3 (E9 h0)] func146
 ·simp only [FV,iN h0]; exact pm An [rp 3 (Br h0)] func146
abbrev mR(u:Pr)(Dw:Pr->Int)(j:Int)(n:Int)(e:Ext):S:=S.mk [(2,A2 0),(3,A2 n),(7,vL 4 (Pr.cs (Bg u))),(8,A2 ((Bg u).length:Int)),(9,A2 j)] [] e
def LR(Dw:Pr->Int):List Pr->(Int)->(Int)
 | [],n=>(n)
 | el::r,n=>LR Dw r (IntKind.wrap .i64 (n+Dw el))
def aS(u:Pr)(Dw:Pr->Int)(e:Ext)(p:(Int)):A7 × S:=(.exit 0,S.mk [(2,A2 0),(3,A2 p),(7,vL 4 (Pr.cs (Bg u))),(8,A2 ((Bg u).length:Int))] [] e)
theorem pqA(u:Pr)(Dw:Pr->Int)(BY:∀w:Pr,w∈Bg u->Pu 98 [.agg (CI w)] (.ret (.int .i64 (Dw w))))(n:Int)(e:Ext)(hN:(Bg u).length<=1000000000)  : (Ob.loop 19 (Am f98 0) (mR u Dw 0 n e) (aS u Dw e (LR Dw ((Bg u))  n)).1 (aS u Dw e (LR Dw ((Bg u))  n)).2).ok prog:=by
 refine Ek ((Bg u).length) (fun j n=>mR u Dw j n e) (fun i n=>LR Dw (List.drop i ((Bg u)))  n) (aS u Dw e) (fun i n=>True) kR ?_ n trivial
 rintro i n hi -
 rcases Nat.lt_or_ge i ((Bg u).length) with Ad | Dm
 ·have hd:=AN Ad
  exact lN An [dt ((i:Int)<((Bg u).length:Int)),am ((0:Int)<=(i:Int)/\(i:Int)<((Pr.cs (Bg u)).length:Int)) (by (simp only [Pr.A0]; omega)),ar (List.getD (Pr.cs (Bg u)) (Int.toNat (i:Int)) []) (CI (List.getD (Bg u) i default)) (by simp only [Int.toNat_natCast,Int.toNat_zero]; rw [@Pr.B0 (Bg u) (i) Ad]; try rfl),cl (@BY (List.getD (Bg u) i default) (by simp_all [List.length_map,List.length_append,List.length_cons,List.length_nil,A3,Pr.A0,Tp.A0,Pm.A0,Ex.A0,Al.A0,Vr.A0,Cn.A0,Da.A0,Cl.A0,Bo.A0,Df.A0,In.A0,Cs.A0,Ms.A0,Qu.A0,Int.toNat_natCast,Int.toNat_zero,Fg])),kp,wr ((i:Int)+1)] Ad (IntKind.wrap .i64 (n+Dw (List.getD (Bg u) i default))) trivial (by rw [hd,LR])
 ·have he:i=(Bg u).length:=by omega
  exact lX An [df ((i:Int)<((Bg u).length:Int))] (n) (by rw [he,List.drop_length,LR])
theorem pqL(u:Pr)(Dw:Pr->Int)(BY:∀w:Pr,w∈Bg u->Pu 98 [.agg (CI w)] (.ret (.int .i64 (Dw w))))(hN:(Bg u).length<=1000000000):Pu 98 [.agg (CI u)] (rI (LR Dw (Bg u) 1)):=
 pu An (fun e=>[sl (Pr.A0 (Bg u)),lp (S.mk [(0,.v (.agg (CI u))),(1,.lp 1 0),(2,A2 0),(3,A2 1),(6,.lp 1 3),(7,vL 4 (Pr.cs (Bg u))),(8,A2 ((Bg u).length:Int)),(9,A2 0)] [(1,Dn u)] e) (@pqA (u) (Dw) BY (1) (e) hN) xr]) func98
def pqD:Nat->Pr->Int
 | 0,_=>0
 | d+1,u=>LR (pqD d) (Bg u) 1
theorem mS:∀ (d:Nat) (u:Pr),A5 (CI u)<d->d<=100000001->Pu 98 [.agg (CI u)] (.ret (.int .i64 (pqD d u)))
 | 0,_,h,_=>by omega
 | d+1,u,h,hs=>pqL u (pqD d) (fun w hw=>mS d w (by have:=Mn u; have:=Pr.mem hw; omega) oM) (by have:=Mn u; have:=Pr.BF (Bg u); omega)
def xY(u:Pr):Int:=pqD (A5 (CI u)+1) u
theorem pqT(u:Pr)(hs:A5 (CI u)<=100000000):Pu 98 [.agg (CI u)] (.ret (.int .i64 (xY u))):=mS _ u oM oM
abbrev mT(u:Pr)(Dw:Pr->Int)(j:Int)(n:Int)(e:Ext):S:=S.mk [(2,A2 0),(3,A2 n),(7,vL 4 (Pr.cs (Bg u))),(8,A2 ((Bg u).length:Int)),(9,A2 j)] [] e
def LS(Dw:Pr->Int):List Pr->(Int)->(Int)
 | [],n=>(n)
 | el::r,n=>LS Dw r (EU true n (Dw el))
def aU(u:Pr)(Dw:Pr->Int)(e:Ext)(p:(Int)):A7 × S:=(.exit 0,S.mk [(2,A2 0),(3,A2 p),(7,vL 4 (Pr.cs (Bg u))),(8,A2 ((Bg u).length:Int))] [] e)
theorem peA(u:Pr)(Dw:Pr->Int)(BY:∀w:Pr,w∈Bg u->Pu 99 [.agg (CI w)] (.ret (.int .i64 (Dw w))))(n:Int)(e:Ext)(hN:(Bg u).length<=1000000000)  : (Ob.loop 20 (Am f99 0) (mT u Dw 0 n e) (aU u Dw e (LS Dw ((Bg u))  n)).1 (aU u Dw e (LS Dw ((Bg u))  n)).2).ok prog:=by
 refine Ek ((Bg u).length) (fun j n=>mT u Dw j n e) (fun i n=>LS Dw (List.drop i ((Bg u)))  n) (aU u Dw e) (fun i n=>True) kR ?_ n trivial
 rintro i n hi -
 rcases Nat.lt_or_ge i ((Bg u).length) with Ad | Dm
 ·have hd:=AN Ad
  exact lN An [dt ((i:Int)<((Bg u).length:Int)),am ((0:Int)<=(i:Int)/\(i:Int)<((Pr.cs (Bg u)).length:Int)) (by (simp only [Pr.A0]; omega)),ar (List.getD (Pr.cs (Bg u)) (Int.toNat (i:Int)) []) (CI (List.getD (Bg u) i default)) (by simp only [Int.toNat_natCast,Int.toNat_zero]; rw [@Pr.B0 (Bg u) (i) Ad]; try rfl),cl (@BY (List.getD (Bg u) i default) (by simp_all [List.length_map,List.length_append,List.length_cons,List.length_nil,A3,Pr.A0,Tp.A0,Pm.A0,Ex.A0,Al.A0,Vr.A0,Cn.A0,Da.A0,Cl.A0,Bo.A0,Df.A0,In.A0,Cs.A0,Ms.A0,Qu.A0,Int.toNat_natCast,Int.toNat_zero,Fg])),wr ((i:Int)+1)] Ad (EU true n (Dw (List.getD (Bg u) i default))) trivial (by rw [hd,LS])
 ·have he:i=(Bg u).length:=by omega
  exact lX An [df ((i:Int)<((Bg u).length:Int))] (n) (by rw [he,List.drop_length,LS])
theorem peL(u:Pr)(Dw:Pr->Int)(BY:∀w:Pr,w∈Bg u->Pu 99 [.agg (CI w)] (.ret (.int .i64 (Dw w))))(hN:(Bg u).length<=1000000000):Pu 99 [.agg (CI u)] (rI (IntKind.wrap .i64 (LS Dw (Bg u) 0+1))):=
 pu An (fun e=>[sl (Pr.A0 (Bg u)),lp (S.mk [(0,.v (.agg (CI u))),(1,.lp 1 0),(2,A2 0),(3,A2 0),(6,.lp 1 3),(7,vL 4 (Pr.cs (Bg u))),(8,A2 ((Bg u).length:Int)),(9,A2 0)] [(1,Dn u)] e) (@peA (u) (Dw) BY (0) (e) hN) xr,kp]) func99
def peD:Nat->Pr->Int
 | 0,_=>0
 | d+1,u=>IntKind.i64.wrap (LS (peD d) (Bg u) 0+1)
theorem mU:∀ (d:Nat) (u:Pr),A5 (CI u)<d->d<=100000001->Pu 99 [.agg (CI u)] (.ret (.int .i64 (peD d u)))
 | 0,_,h,_=>by omega
 | d+1,u,h,hs=>peL u (peD d) (fun w hw=>mU d w (by have:=Mn u; have:=Pr.mem hw; omega) oM) (by have:=Mn u; have:=Pr.BF (Bg u); omega)
def peF(u:Pr):Int:=peD (A5 (CI u)+1) u
theorem peT(u:Pr)(hs:A5 (CI u)<=100000000):Pu 99 [.agg (CI u)] (.ret (.int .i64 (peF u))):=mU _ u oM oM
abbrev nd0(u:Pr)(xe:Ext):S:=⟨[(1,.lp 1 0),(2,.v (.int .i64 0))],[(1,Dn u)],xe⟩
abbrev L2(u:Pr)(a b:Int)(xe:Ext):S:=⟨[(1,.lp 1 0),(2,.v (.int .i64 0)),(3,.v (.int .i64 a)),(4,.v (.int .i64 b))],[(1,Dn u)],xe⟩
abbrev xZ(u:Pr)(a b:Int)(x y:Bool)(xe:Ext):S:=⟨[(1,.lp 1 0),(2,.v (.int .i64 0)),(3,.v (.int .i64 a)),(4,.v (.int .i64 b)),(5,.v (.bool x)),(6,.v (.bool y))],[(1,Dn u)],xe⟩
abbrev nd3(u:Pr)(a b:Int)(x:Bool)(xe:Ext):S:=⟨[(1,.lp 1 0),(2,.v (.int .i64 0)),(3,.v (.int .i64 a)),(4,.v (.int .i64 b)),(5,.v (.bool x))],[(1,Dn u)],xe⟩
theorem tL(u:Pr)(xe:Ext)(Ak:Ah u<1)(cx:Cx)(AH:cx.n=130){Q:A7->S->Prop}(hq:Q (.normal) (S.mk [(1,.lp 1 0),(2,A2 0),(14,.v (.bool true))] [(1,Dn u)] xe)):PW prog cx (BC f101 1) (nd0 u xe) Q:=
 pw An 130 [rp 4 (E9 Ak)] [1,2,14] [1] AH hq
theorem tM(u:Pr)(xe:Ext)(Ak:¬Ah u<1)(cx:Cx)(AH:cx.n=130){Q:A7->S->Prop}(hq:Q (.normal) (S.mk [(1,.lp 1 0),(2,A2 0),(14,.v (.bool (decide (Ah u>18))))] [(1,Dn u)] xe)):PW prog cx (BC f101 1) (nd0 u xe) Q:=
 pw An 130 [rp 4 (Br Ak)] [1,2,14] [1] AH hq
def Dd(u:Pr):Bool:=(if Ah u<1 then (true) else ((decide (Ah u>18))))
theorem LU(u:Pr)(xe:Ext):(Ob.F9 130 (BC f101 1) (nd0 u xe) (.normal) (S.mk [(1,.lp 1 0),(2,A2 0),(14,.v (.bool (Dd u)))] [(1,Dn u)] xe)).ok prog:=by
 intro cx AH
 by_cases g0:Ah u<1
 ·exact tL u xe g0 cx AH ⟨rfl,by rw [show Dd u=(true) by unfold Dd; rw [iP g0]]⟩
 ·exact tM u xe g0 cx AH ⟨rfl,by rw [show Dd u=((decide (Ah u>18))) by unfold Dd; rw [iN g0]]⟩
section
variable (u:Pr) (a b:Int) (xe:Ext)
include u a b xe
theorem tN(Ak:CY (Ah u)=false)(Au:¬AR u=ByteArray.mk #[])(cx:Cx)(AH:cx.n=130){Q:A7->S->Prop}(hq:Q (.normal) (S.mk [(1,.lp 1 0),(2,A2 0),(3,A2 a),(4,A2 b),(58,.v (.bool true))] [(1,Dn u)] xe)):PW prog cx (BC f101 4) (L2 u a b xe) Q:=
 pw An 130 [cl (@Sq (Ah u)),rp 4 (B7 (BH Ak)),rp 8 (bt (!ByteArray.toList (AR u)==ByteArray.toList AI) (BH (HT Au))),rp 12 (bt true)] [1,2,3,4,58] [1] AH hq
theorem tO(Ak:CY (Ah u)=false)(Au:AR u=ByteArray.mk #[])(AW:¬Ah u=1)(Bt:¬Ah u=2)(CJ:¬DE u=0)(cx:Cx)(AH:cx.n=130){Q:A7->S->Prop}(hq:Q (.normal) (S.mk [(1,.lp 1 0),(2,A2 0),(3,A2 a),(4,A2 b),(58,.v (.bool true))] [(1,Dn u)] xe)):PW prog cx (BC f101 4) (L2 u a b xe) Q:=
 pw An 130 [cl (@Sq (Ah u)),rp 4 (B7 (BH Ak)),rp 4 (bf (!ByteArray.toList (AR u)==ByteArray.toList AI) (B3 (DZ Au))),rp 3 (D3 AW),bf (!ByteArray.toList (AR u)==ByteArray.toList AI) (B3 (DZ Au)),D3 AW,bf (!ByteArray.toList (AR u)==ByteArray.toList AI) (B3 (DZ Au)),rp 3 (D3 Bt),bf (!ByteArray.toList (AR u)==ByteArray.toList AI) (B3 (DZ Au)),D3 Bt,bf (!ByteArray.toList (AR u)==ByteArray.toList AI) (B3 (DZ Au)),rp 6 (D3 CJ),rp 6 (bt true)] [1,2,3,4,58] [1] AH hq
theorem tP(Ak:CY (Ah u)=false)(Au:AR u=ByteArray.mk #[])(AW:¬Ah u=1)(Bt:¬Ah u=2)(CJ:DE u=0)(ED:((Bg u).length:Int)<a)(cx:Cx)(AH:cx.n=130){Q:A7->S->Prop}(hq:Q (.normal) (S.mk [(1,.lp 1 0),(2,A2 0),(3,A2 a),(4,A2 b),(58,.v (.bool true))] [(1,Dn u)] xe)):PW prog cx (BC f101 4) (L2 u a b xe) Q:=
 pw An 130 [cl (@Sq (Ah u)),rp 4 (B7 (BH Ak)),rp 4 (bf (!ByteArray.toList (AR u)==ByteArray.toList AI) (B3 (DZ Au))),rp 3 (D3 AW),bf (!ByteArray.toList (AR u)==ByteArray.toList AI) (B3 (DZ Au)),D3 AW,bf (!ByteArray.toList (AR u)==ByteArray.toList AI) (B3 (DZ Au)),rp 3 (D3 Bt),bf (!ByteArray.toList (AR u)==ByteArray.toList AI) (B3 (DZ Au)),D3 Bt,bf (!ByteArray.toList (AR u)==ByteArray.toList AI) (B3 (DZ Au)),rp 3 (Bp CJ),sl (Pr.A0 (Bg u)),rp 3 (Bp CJ),rp 6 (E9 ED)] [1,2,3,4,58] [1] AH hq
theorem tQ(Ak:CY (Ah u)=false)(Au:AR u=ByteArray.mk #[])(AW:¬Ah u=1)(Bt:¬Ah u=2)(CJ:DE u=0)(ED:¬((Bg u).length:Int)<a)(cx:Cx)(AH:cx.n=130){Q:A7->S->Prop}(hq:Q (.normal) (S.mk [(1,.lp 1 0),(2,A2 0),(3,A2 a),(4,A2 b),(58,.v (.bool (decide (((Bg u).length:Int)>b))))] [(1,Dn u)] xe)):PW prog cx (BC f101 4) (L2 u a b xe) Q:=
 pw An 130 [cl (@Sq (Ah u)),rp 4 (B7 (BH Ak)),rp 4 (bf (!ByteArray.toList (AR u)==ByteArray.toList AI) (B3 (DZ Au))),rp 3 (D3 AW),bf (!ByteArray.toList (AR u)==ByteArray.toList AI) (B3 (DZ Au)),D3 AW,bf (!ByteArray.toList (AR u)==ByteArray.toList AI) (B3 (DZ Au)),rp 3 (D3 Bt),bf (!ByteArray.toList (AR u)==ByteArray.toList AI) (B3 (DZ Au)),D3 Bt,bf (!ByteArray.toList (AR u)==ByteArray.toList AI) (B3 (DZ Au)),rp 3 (Bp CJ),sl (Pr.A0 (Bg u)),rp 3 (Bp CJ),rp 3 (Br ED),sl (Pr.A0 (Bg u)),rp 3 (Br ED)] [1,2,3,4,58] [1] AH hq
theorem tR(Ak:CY (Ah u)=false)(Au:AR u=ByteArray.mk #[])(AW:¬Ah u=1)(Bt:Ah u=2)(CJ:((Bg u).length:Int)<a)(cx:Cx)(AH:cx.n=130){Q:A7->S->Prop}(hq:Q (.normal) (S.mk [(1,.lp 1 0),(2,A2 0),(3,A2 a),(4,A2 b),(58,.v (.bool true))] [(1,Dn u)] xe)):PW prog cx (BC f101 4) (L2 u a b xe) Q:=
 pw An 130 [cl (@Sq (Ah u)),rp 4 (B7 (BH Ak)),rp 4 (bf (!ByteArray.toList (AR u)==ByteArray.toList AI) (B3 (DZ Au))),rp 3 (D3 AW),bf (!ByteArray.toList (AR u)==ByteArray.toList AI) (B3 (DZ Au)),D3 AW,bf (!ByteArray.toList (AR u)==ByteArray.toList AI) (B3 (DZ Au)),rp 3 (Bp Bt),bf (!ByteArray.toList (AR u)==ByteArray.toList AI) (B3 (DZ Au)),Bp Bt,bf (!ByteArray.toList (AR u)==ByteArray.toList AI) (B3 (DZ Au)),rp 3 (bf false),sl (Pr.A0 (Bg u)),rp 3 (bf false),rp 6 (E9 CJ)] [1,2,3,4,58] [1] AH hq
theorem tS(Ak:CY (Ah u)=false)(Au:AR u=ByteArray.mk #[])(AW:¬Ah u=1)(Bt:Ah u=2)(CJ:¬((Bg u).length:Int)<a)(cx:Cx)(AH:cx.n=130){Q:A7->S->Prop}(hq:Q (.normal) (S.mk [(1,.lp 1 0),(2,A2 0),(3,A2 a),(4,A2 b),(58,.v (.bool (decide (((Bg u).length:Int)>b))))] [(1,Dn u)] xe)):PW prog cx (BC f101 4) (L2 u a b xe) Q:=
 pw An 130 [cl (@Sq (Ah u)),rp 4 (B7 (BH Ak)),rp 4 (bf (!ByteArray.toList (AR u)==ByteArray.toList AI) (B3 (DZ Au))),rp 3 (D3 AW),bf (!ByteArray.toList (AR u)==ByteArray.toList AI) (B3 (DZ Au)),D3 AW,bf (!ByteArray.toList (AR u)==ByteArray.toList AI) (B3 (DZ Au)),rp 3 (Bp Bt),bf (!ByteArray.toList (AR u)==ByteArray.toList AI) (B3 (DZ Au)),Bp Bt,bf (!ByteArray.toList (AR u)==ByteArray.toList AI) (B3 (DZ Au)),rp 3 (bf false),sl (Pr.A0 (Bg u)),rp 3 (bf false),rp 3 (Br CJ),sl (Pr.A0 (Bg u)),rp 3 (Br CJ)] [1,2,3,4,58] [1] AH hq
theorem tT(Ak:CY (Ah u)=false)(Au:AR u=ByteArray.mk #[])(AW:Ah u=1)(Bt:((Bg u).length:Int)<a)(cx:Cx)(AH:cx.n=130){Q:A7->S->Prop}(hq:Q (.normal) (S.mk [(1,.lp 1 0),(2,A2 0),(3,A2 a),(4,A2 b),(58,.v (.bool true))] [(1,Dn u)] xe)):PW prog cx (BC f101 4) (L2 u a b xe) Q:=
 pw An 130 [cl (@Sq (Ah u)),rp 4 (B7 (BH Ak)),rp 4 (bf (!ByteArray.toList (AR u)==ByteArray.toList AI) (B3 (DZ Au))),rp 3 (Bp AW),bf (!ByteArray.toList (AR u)==ByteArray.toList AI) (B3 (DZ Au)),Bp AW,bf (!ByteArray.toList (AR u)==ByteArray.toList AI) (B3 (DZ Au)),rp 3 (bf false),bf (!ByteArray.toList (AR u)==ByteArray.toList AI) (B3 (DZ Au)),bf false,bf (!ByteArray.toList (AR u)==ByteArray.toList AI) (B3 (DZ Au)),rp 3 (bf false),sl (Pr.A0 (Bg u)),rp 3 (bf false),rp 6 (E9 Bt)] [1,2,3,4,58] [1] AH hq
theorem tU(Ak:CY (Ah u)=false)(Au:AR u=ByteArray.mk #[])(AW:Ah u=1)(Bt:¬((Bg u).length:Int)<a)(cx:Cx)(AH:cx.n=130){Q:A7->S->Prop}(hq:Q (.normal) (S.mk [(1,.lp 1 0),(2,A2 0),(3,A2 a),(4,A2 b),(58,.v (.bool (decide (((Bg u).length:Int)>b))))] [(1,Dn u)] xe)):PW prog cx (BC f101 4) (L2 u a b xe) Q:=
 pw An 130 [cl (@Sq (Ah u)),rp 4 (B7 (BH Ak)),rp 4 (bf (!ByteArray.toList (AR u)==ByteArray.toList AI) (B3 (DZ Au))),rp 3 (Bp AW),bf (!ByteArray.toList (AR u)==ByteArray.toList AI) (B3 (DZ Au)),Bp AW,bf (!ByteArray.toList (AR u)==ByteArray.toList AI) (B3 (DZ Au)),rp 3 (bf false),bf (!ByteArray.toList (AR u)==ByteArray.toList AI) (B3 (DZ Au)),bf false,bf (!ByteArray.toList (AR u)==ByteArray.toList AI) (B3 (DZ Au)),rp 3 (bf false),sl (Pr.A0 (Bg u)),rp 3 (bf false),rp 3 (Br Bt),sl (Pr.A0 (Bg u)),rp 3 (Br Bt)] [1,2,3,4,58] [1] AH hq
theorem tW(Ak:CY (Ah u)=true)(Au:¬Ah u=1)(AW:¬Ah u=2)(Bt:¬DE u=0)(cx:Cx)(AH:cx.n=130){Q:A7->S->Prop}(hq:Q (.normal) (S.mk [(1,.lp 1 0),(2,A2 0),(3,A2 a),(4,A2 b),(58,.v (.bool true))] [(1,Dn u)] xe)):PW prog cx (BC f101 4) (L2 u a b xe) Q:=
 pw An 130 [cl (@Sq (Ah u)),rp 4 (B1 (B3 Ak)),rp 4 (bf false),rp 3 (D3 Au),bf false,D3 Au,bf false,rp 3 (D3 AW),bf false,D3 AW,bf false,rp 6 (D3 Bt),rp 6 (bt true)] [1,2,3,4,58] [1] AH hq
theorem j6(Ak:CY (Ah u)=true)(Au:¬Ah u=1)(AW:¬Ah u=2)(Bt:DE u=0)(CJ:((Bg u).length:Int)<a)(cx:Cx)(AH:cx.n=130){Q:A7->S->Prop}(hq:Q (.normal) (S.mk [(1,.lp 1 0),(2,A2 0),(3,A2 a),(4,A2 b),(58,.v (.bool true))] [(1,Dn u)] xe)):PW prog cx (BC f101 4) (L2 u a b xe) Q:=
 pw An 130 [cl (@Sq (Ah u)),rp 4 (B1 (B3 Ak)),rp 4 (bf false),rp 3 (D3 Au),bf false,D3 Au,bf false,rp 3 (D3 AW),bf false,D3 AW,bf false,rp 3 (Bp Bt),sl (Pr.A0 (Bg u)),rp 3 (Bp Bt),rp 6 (E9 CJ)] [1,2,3,4,58] [1] AH hq
theorem j7(Ak:CY (Ah u)=true)(Au:¬Ah u=1)(AW:¬Ah u=2)(Bt:DE u=0)(CJ:¬((Bg u).length:Int)<a)(cx:Cx)(AH:cx.n=130){Q:A7->S->Prop}(hq:Q (.normal) (S.mk [(1,.lp 1 0),(2,A2 0),(3,A2 a),(4,A2 b),(58,.v (.bool (decide (((Bg u).length:Int)>b))))] [(1,Dn u)] xe)):PW prog cx (BC f101 4) (L2 u a b xe) Q:=
 pw An 130 [cl (@Sq (Ah u)),rp 4 (B1 (B3 Ak)),rp 4 (bf false),rp 3 (D3 Au),bf false,D3 Au,bf false,rp 3 (D3 AW),bf false,D3 AW,bf false,rp 3 (Bp Bt),sl (Pr.A0 (Bg u)),rp 3 (Bp Bt),rp 3 (Br CJ),sl (Pr.A0 (Bg u)),rp 3 (Br CJ)] [1,2,3,4,58] [1] AH hq
theorem j8(Ak:CY (Ah u)=true)(Au:¬Ah u=1)(AW:Ah u=2)(Bt:((Bg u).length:Int)<a)(cx:Cx)(AH:cx.n=130){Q:A7->S->Prop}(hq:Q (.normal) (S.mk [(1,.lp 1 0),(2,A2 0),(3,A2 a),(4,A2 b),(58,.v (.bool true))] [(1,Dn u)] xe)):PW prog cx (BC f101 4) (L2 u a b xe) Q:=
 pw An 130 [cl (@Sq (Ah u)),rp 4 (B1 (B3 Ak)),rp 4 (bf false),rp 3 (D3 Au),bf false,D3 Au,bf false,rp 3 (Bp AW),bf false,Bp AW,rp 4 (bf false),sl (Pr.A0 (Bg u)),rp 3 (bf false),rp 6 (E9 Bt)] [1,2,3,4,58] [1] AH hq
theorem j9(Ak:CY (Ah u)=true)(Au:¬Ah u=1)(AW:Ah u=2)(Bt:¬((Bg u).length:Int)<a)(cx:Cx)(AH:cx.n=130){Q:A7->S->Prop}(hq:Q (.normal) (S.mk [(1,.lp 1 0),(2,A2 0),(3,A2 a),(4,A2 b),(58,.v (.bool (decide (((Bg u).length:Int)>b))))] [(1,Dn u)] xe)):PW prog cx (BC f101 4) (L2 u a b xe) Q:=
 pw An 130 [cl (@Sq (Ah u)),rp 4 (B1 (B3 Ak)),rp 4 (bf false),rp 3 (D3 Au),bf false,D3 Au,bf false,rp 3 (Bp AW),bf false,Bp AW,rp 4 (bf false),sl (Pr.A0 (Bg u)),rp 3 (bf false),rp 3 (Br Bt),sl (Pr.A0 (Bg u)),rp 3 (Br Bt)] [1,2,3,4,58] [1] AH hq
theorem jA(Ak:CY (Ah u)=true)(Au:Ah u=1)(AW:((Bg u).length:Int)<a)(cx:Cx)(AH:cx.n=130){Q:A7->S->Prop}(hq:Q (.normal) (S.mk [(1,.lp 1 0),(2,A2 0),(3,A2 a),(4,A2 b),(58,.v (.bool true))] [(1,Dn u)] xe)):PW prog cx (BC f101 4) (L2 u a b xe) Q:=
 pw An 130 [cl (@Sq (Ah u)),rp 4 (B1 (B3 Ak)),rp 4 (bf false),rp 3 (Bp Au),bf false,Bp Au,rp 10 (bf false),sl (Pr.A0 (Bg u)),rp 3 (bf false),rp 6 (E9 AW)] [1,2,3,4,58] [1] AH hq
theorem jB(Ak:CY (Ah u)=true)(Au:Ah u=1)(AW:¬((Bg u).length:Int)<a)(cx:Cx)(AH:cx.n=130){Q:A7->S->Prop}(hq:Q (.normal) (S.mk [(1,.lp 1 0),(2,A2 0),(3,A2 a),(4,A2 b),(58,.v (.bool (decide (((Bg u).length:Int)>b))))] [(1,Dn u)] xe)):PW prog cx (BC f101 4) (L2 u a b xe) Q:=
 pw An 130 [cl (@Sq (Ah u)),rp 4 (B1 (B3 Ak)),rp 4 (bf false),rp 3 (Bp Au),bf false,Bp Au,rp 10 (bf false),sl (Pr.A0 (Bg u)),rp 3 (bf false),rp 3 (Br AW),sl (Pr.A0 (Bg u)),rp 3 (Br AW)] [1,2,3,4,58] [1] AH hq
end
def AX(u:Pr)(a b:Int):Bool:=(if CY (Ah u)=true then (if Ah u=1 then (if ((Bg u).length:Int)<a then (true) else ((decide (((Bg u).length:Int)>b)))) else (if Ah u=2 then (if ((Bg u).length:Int)<a then (true) else ((decide (((Bg u).length:Int)>b)))) else (if DE u=0 then (if ((Bg u).length:Int)<a then (true) else ((decide (((Bg u).length:Int)>b)))) else (true)))) else (if AR u=ByteArray.mk #[] then (if Ah u=1 then (if ((Bg u).length:Int)<a then (true) else ((decide (((Bg u).length:Int)>b)))) else (if Ah u=2 then (if ((Bg u).length:Int)<a then (true) else ((decide (((Bg u).length:Int)>b)))) else (if DE u=0 then (if ((Bg u).length:Int)<a then (true) else ((decide (((Bg u).length:Int)>b)))) else (true)))) else (true)))
theorem NA(u:Pr)(a b:Int)(xe:Ext):(Ob.F9 130 (BC f101 4) (L2 u a b xe) (.normal) (S.mk [(1,.lp 1 0),(2,A2 0),(3,A2 a),(4,A2 b),(58,.v (.bool (AX u a b)))] [(1,Dn u)] xe)).ok prog:=by
 intro cx AH
 by_cases g0:CY (Ah u)=true
 ·by_cases g1:Ah u=1
  ·by_cases g2:((Bg u).length:Int)<a
   ·exact jA u a b xe g0 g1 g2 cx AH ⟨rfl,by rw [show AX u a b=(true) by unfold AX; rw [iP g0,iP g1,iP g2]]⟩
   ·exact jB u a b xe g0 g1 g2 cx AH ⟨rfl,by rw [show AX u a b=((decide (((Bg u).length:Int)>b))) by unfold AX; rw [iP g0,iP g1,iN g2]]⟩
  ·by_cases g2:Ah u=2
   ·by_cases g3:((Bg u).length:Int)<a
    ·exact j8 u a b xe g0 g1 g2 g3 cx AH ⟨rfl,by rw [show AX u a b=(true) by unfold AX; rw [iP g0,iN g1,iP g2,iP g3]]⟩
    ·exact j9 u a b xe g0 g1 g2 g3 cx AH ⟨rfl,by rw [show AX u a b=((decide (((Bg u).length:Int)>b))) by unfold AX; rw [iP g0,iN g1,iP g2,iN g3]]⟩
   ·by_cases g3:DE u=0
    ·by_cases g4:((Bg u).length:Int)<a
     ·exact j6 u a b xe g0 g1 g2 g3 g4 cx AH ⟨rfl,by rw [show AX u a b=(true) by unfold AX; rw [iP g0,iN g1,iN g2,iP g3,iP g4]]⟩
     ·exact j7 u a b xe g0 g1 g2 g3 g4 cx AH ⟨rfl,by rw [show AX u a b=((decide (((Bg u).length:Int)>b))) by unfold AX; rw [iP g0,iN g1,iN g2,iP g3,iN g4]]⟩
    ·exact tW u a b xe g0 g1 g2 g3 cx AH ⟨rfl,by rw [show AX u a b=(true) by unfold AX; rw [iP g0,iN g1,iN g2,iN g3]]⟩
 ·by_cases g1:AR u=ByteArray.mk #[]
  ·by_cases g2:Ah u=1
   ·by_cases g3:((Bg u).length:Int)<a
    ·exact tT u a b xe (Bool.eq_false_iff.2 g0) g1 g2 g3 cx AH ⟨rfl,by rw [show AX u a b=(true) by unfold AX; rw [iN g0,iP g1,iP g2,iP g3]]⟩
    ·exact tU u a b xe (Bool.eq_false_iff.2 g0) g1 g2 g3 cx AH ⟨rfl,by rw [show AX u a b=((decide (((Bg u).length:Int)>b))) by unfold AX; rw [iN g0,iP g1,iP g2,iN g3]]⟩
   ·by_cases g3:Ah u=2
    ·by_cases g4:((Bg u).length:Int)<a
     ·exact tR u a b xe (Bool.eq_false_iff.2 g0) g1 g2 g3 g4 cx AH ⟨rfl,by rw [show AX u a b=(true) by unfold AX; rw [iN g0,iP g1,iN g2,iP g3,iP g4]]⟩
     ·exact tS u a b xe (Bool.eq_false_iff.2 g0) g1 g2 g3 g4 cx AH ⟨rfl,by rw [show AX u a b=((decide (((Bg u).length:Int)>b))) by unfold AX; rw [iN g0,iP g1,iN g2,iP g3,iN g4]]⟩
    ·by_cases g4:DE u=0
     ·by_cases g5:((Bg u).length:Int)<a
      ·exact tP u a b xe (Bool.eq_false_iff.2 g0) g1 g2 g3 g4 g5 cx AH ⟨rfl,by rw [show AX u a b=(true) by unfold AX; rw [iN g0,iP g1,iN g2,iN g3,iP g4,iP g5]]⟩
      ·exact tQ u a b xe (Bool.eq_false_iff.2 g0) g1 g2 g3 g4 g5 cx AH ⟨rfl,by rw [show AX u a b=((decide (((Bg u).length:Int)>b))) by unfold AX; rw [iN g0,iP g1,iN g2,iN g3,iP g4,iN g5]]⟩
     ·exact tO u a b xe (Bool.eq_false_iff.2 g0) g1 g2 g3 g4 cx AH ⟨rfl,by rw [show AX u a b=(true) by unfold AX; rw [iN g0,iP g1,iN g2,iN g3,iN g4]]⟩
  ·exact tN u a b xe (Bool.eq_false_iff.2 g0) g1 cx AH ⟨rfl,by rw [show AX u a b=(true) by unfold AX; rw [iN g0,iN g1]]⟩
section
variable (u:Pr) (a b:Int) (xe:Ext)
include u a b xe
theorem tX(Ak:Ah u=1)(Au:FV (DE u)=false)(cx:Cx)(AH:cx.n=130){Q:A7->S->Prop}(hq:Q (.normal) (S.mk [(1,.lp 1 0),(2,A2 0),(3,A2 a),(4,A2 b),(82,.v (.bool true))] [(1,Dn u)] xe)):PW prog cx (BC f101 6) (L2 u a b xe) Q:=
 pw An 130 [rp 3 (CT Ak),cl (@niS (DE u)),rp 2 (CT Ak),rp 8 (B7 (BH Au))] [1,2,3,4,82] [1] AH hq
theorem tY(Ak:Ah u=1)(Au:FV (DE u)=true)(cx:Cx)(AH:cx.n=130){Q:A7->S->Prop}(hq:Q (.normal) (S.mk [(1,.lp 1 0),(2,A2 0),(3,A2 a),(4,A2 b),(82,.v (.bool false))] [(1,Dn u)] xe)):PW prog cx (BC f101 6) (L2 u a b xe) Q:=
 pw An 130 [rp 3 (CT Ak),cl (@niS (DE u)),rp 2 (CT Ak),rp 4 (B1 (B3 Au)),rp 3 (en (Ah u) 2),B1 (B3 Au),en (Ah u) 2,B1 (B3 Au),rp 3 (bf false),B1 (B3 Au),bf false,B1 (B3 Au)] [1,2,3,4,82] [1] AH hq
theorem tZ(Ak:¬Ah u=1)(Au:Ah u=2)(AW:¬DE u=0)(cx:Cx)(AH:cx.n=130){Q:A7->S->Prop}(hq:Q (.normal) (S.mk [(1,.lp 1 0),(2,A2 0),(3,A2 a),(4,A2 b),(82,.v (.bool (DE u != 1)))] [(1,Dn u)] xe)):PW prog cx (BC f101 6) (L2 u a b xe) Q:=
 pw An 130 [rp 5 (As Ak),rp 4 (bf false),rp 3 (CT Au),bf false,CT Au,bf false,rp 3 (D3 AW),bf false,D3 AW,bf false] [1,2,3,4,82] [1] AH hq
theorem u0(Ak:¬Ah u=1)(Au:Ah u=2)(AW:DE u=0)(cx:Cx)(AH:cx.n=130){Q:A7->S->Prop}(hq:Q (.normal) (S.mk [(1,.lp 1 0),(2,A2 0),(3,A2 a),(4,A2 b),(82,.v (.bool false))] [(1,Dn u)] xe)):PW prog cx (BC f101 6) (L2 u a b xe) Q:=
 pw An 130 [rp 5 (As Ak),rp 4 (bf false),rp 3 (CT Au),bf false,CT Au,bf false,rp 3 (Bp AW),bf false,Bp AW,bf false] [1,2,3,4,82] [1] AH hq
theorem u5(Ak:¬Ah u=1)(Au:¬Ah u=2)(cx:Cx)(AH:cx.n=130){Q:A7->S->Prop}(hq:Q (.normal) (S.mk [(1,.lp 1 0),(2,A2 0),(3,A2 a),(4,A2 b),(82,.v (.bool false))] [(1,Dn u)] xe)):PW prog cx (BC f101 6) (L2 u a b xe) Q:=
 pw An 130 [rp 5 (As Ak),rp 4 (bf false),rp 3 (As Au),bf false,As Au,rp 7 (bf false)] [1,2,3,4,82] [1] AH hq
end
def Cu(u:Pr)(a b:Int):Bool:=(if Ah u=1 then (if FV (DE u)=true then (false) else (true)) else (if Ah u=2 then (if DE u=0 then (false) else ((DE u != 1))) else (false)))
theorem Pw(u:Pr)(a b:Int)(xe:Ext):(Ob.F9 130 (BC f101 6) (L2 u a b xe) (.normal) (S.mk [(1,.lp 1 0),(2,A2 0),(3,A2 a),(4,A2 b),(82,.v (.bool (Cu u a b)))] [(1,Dn u)] xe)).ok prog:=by
 intro cx AH
 by_cases g0:Ah u=1
 ·by_cases g1:FV (DE u)=true
  ·exact tY u a b xe g0 g1 cx AH ⟨rfl,by rw [show Cu u a b=(false) by unfold Cu; rw [iP g0,iP g1]]⟩
  ·exact tX u a b xe g0 (Bool.eq_false_iff.2 g1) cx AH ⟨rfl,by rw [show Cu u a b=(true) by unfold Cu; rw [iP g0,iN g1]]⟩
 ·by_cases g1:Ah u=2
  ·by_cases g2:DE u=0
   ·exact u0 u a b xe g0 g1 g2 cx AH ⟨rfl,by rw [show Cu u a b=(false) by unfold Cu; rw [iN g0,iP g1,iP g2]]⟩
   ·exact tZ u a b xe g0 g1 g2 cx AH ⟨rfl,by rw [show Cu u a b=((DE u != 1)) by unfold Cu; rw [iN g0,iP g1,iN g2]]⟩
  ·exact u5 u a b xe g0 g1 cx AH ⟨rfl,by rw [show Cu u a b=(false) by unfold Cu; rw [iN g0,iN g1]]⟩
theorem u6(u:Pr)(a b:Int)(xe:Ext)(Ak:CY (Ah u)=true)(cx:Cx)(AH:cx.n=130){Q:A7->S->Prop}(hq:Q (.normal) (S.mk [(1,.lp 1 0),(2,A2 0),(3,A2 a),(4,A2 b),(91,.v (.bool (AU (Cr (AR u)) != 0)))] [(1,Dn u)] xe)):PW prog cx (BC f101 8) (L2 u a b xe) Q:=
 pw An 130 [cl (@Sq (Ah u)),rp 3 (B7 Ak),cl (@WM (AR u)),rp 2 (B7 Ak)] [1,2,3,4,91] [1] AH hq
theorem u7(u:Pr)(a b:Int)(xe:Ext)(Ak:CY (Ah u)=false)(cx:Cx)(AH:cx.n=130){Q:A7->S->Prop}(hq:Q (.normal) (S.mk [(1,.lp 1 0),(2,A2 0),(3,A2 a),(4,A2 b),(91,.v (.bool false))] [(1,Dn u)] xe)):PW prog cx (BC f101 8) (L2 u a b xe) Q:=
 pw An 130 [cl (@Sq (Ah u)),rp 5 (B1 Ak)] [1,2,3,4,91] [1] AH hq
def C7(u:Pr)(a b:Int):Bool:=(if CY (Ah u)=true then ((AU (Cr (AR u)) != 0)) else (false))
theorem Sr(u:Pr)(a b:Int)(xe:Ext):(Ob.F9 130 (BC f101 8) (L2 u a b xe) (.normal) (S.mk [(1,.lp 1 0),(2,A2 0),(3,A2 a),(4,A2 b),(91,.v (.bool (C7 u a b)))] [(1,Dn u)] xe)).ok prog:=by
 intro cx AH
 by_cases g0:CY (Ah u)=true
 ·exact u6 u a b xe g0 cx AH ⟨rfl,by rw [show C7 u a b=((AU (Cr (AR u)) != 0)) by unfold C7; rw [iP g0]]⟩
 ·exact u7 u a b xe (Bool.eq_false_iff.2 g0) cx AH ⟨rfl,by rw [show C7 u a b=(false) by unfold C7; rw [iN g0]]⟩
theorem u9(u:Pr)(a b:Int)(xe:Ext)(Ak:Ah u=3)(cx:Cx)(AH:cx.n=130){Q:A7->S->Prop}(hq:Q (.normal) (S.mk [(1,.lp 1 0),(2,A2 0),(3,A2 a),(4,A2 b),(5,.v (.bool (ByteArray.toList (AR u)==ByteArray.toList (bM 118))))] [(1,Dn u)] xe)):PW prog cx (BC f101 9) (L2 u a b xe) Q:=
 pw An 130 [rp 4 (CT Ak)] [1,2,3,4,5] [1] AH hq
theorem uA(u:Pr)(a b:Int)(xe:Ext)(Ak:¬Ah u=3)(cx:Cx)(AH:cx.n=130){Q:A7->S->Prop}(hq:Q (.normal) (S.mk [(1,.lp 1 0),(2,A2 0),(3,A2 a),(4,A2 b),(5,.v (.bool false))] [(1,Dn u)] xe)):PW prog cx (BC f101 9) (L2 u a b xe) Q:=
 pw An 130 [rp 4 (As Ak)] [1,2,3,4,5] [1] AH hq
def AY(u:Pr)(a b:Int):Bool:=(if Ah u=3 then ((ByteArray.toList (AR u)==ByteArray.toList (bM 118))) else (false))
theorem aV(u:Pr)(a b:Int)(xe:Ext):(Ob.F9 130 (BC f101 9) (L2 u a b xe) (.normal) (S.mk [(1,.lp 1 0),(2,A2 0),(3,A2 a),(4,A2 b),(5,.v (.bool (AY u a b)))] [(1,Dn u)] xe)).ok prog:=by
 intro cx AH
 by_cases g0:Ah u=3
 ·exact u9 u a b xe g0 cx AH ⟨rfl,by rw [show AY u a b=((ByteArray.toList (AR u)==ByteArray.toList (bM 118))) by unfold AY; rw [iP g0]]⟩
 ·exact uA u a b xe g0 cx AH ⟨rfl,by rw [show AY u a b=(false) by unfold AY; rw [iN g0]]⟩
section
variable (u:Pr) (a b:Int) (x:Bool) (xe:Ext)
include u a b x xe
theorem jC(Ak:Ah u=4)(Au:AR u=ByteArray.mk #[116,97,103])(cx:Cx)(AH:cx.n=130){Q:A7->S->Prop}(hq:Q (.normal) (S.mk [(1,.lp 1 0),(2,A2 0),(3,A2 a),(4,A2 b),(5,.v (.bool x)),(6,.v (.bool true))] [(1,Dn u)] xe)):PW prog cx (BC f101 10) (nd3 u a b x xe) Q:=
 pw An 130 [rp 4 (CT Ak),rp 3 (bt (ByteArray.toList (AR u)==ByteArray.toList (ByteArray.mk #[116,97,103])) (DZ Au)),CT Ak,bt (ByteArray.toList (AR u)==ByteArray.toList (ByteArray.mk #[116,97,103])) (DZ Au),CT Ak] [1,2,3,4,5,6] [1] AH hq
theorem jD(Ak:Ah u=4)(Au:¬AR u=ByteArray.mk #[116,97,103])(cx:Cx)(AH:cx.n=130){Q:A7->S->Prop}(hq:Q (.normal) (S.mk [(1,.lp 1 0),(2,A2 0),(3,A2 a),(4,A2 b),(5,.v (.bool x)),(6,.v (.bool (ByteArray.toList (AR u)==ByteArray.toList (ByteArray.mk #[118,97,108]))))] [(1,Dn u)] xe)):PW prog cx (BC f101 10) (nd3 u a b x xe) Q:=
 pw An 130 [rp 4 (CT Ak),rp 3 (bf (ByteArray.toList (AR u)==ByteArray.toList (ByteArray.mk #[116,97,103])) (HT Au)),CT Ak,bf (ByteArray.toList (AR u)==ByteArray.toList (ByteArray.mk #[116,97,103])) (HT Au),CT Ak] [1,2,3,4,5,6] [1] AH hq
theorem jE(Ak:¬Ah u=4)(cx:Cx)(AH:cx.n=130){Q:A7->S->Prop}(hq:Q (.normal) (S.mk [(1,.lp 1 0),(2,A2 0),(3,A2 a),(4,A2 b),(5,.v (.bool x)),(6,.v (.bool false))] [(1,Dn u)] xe)):PW prog cx (BC f101 10) (nd3 u a b x xe) Q:=
 pw An 130 [rp 6 (As Ak)] [1,2,3,4,5,6] [1] AH hq
end
def BG(u:Pr)(a b:Int)(x:Bool):Bool:=(if Ah u=4 then (if AR u=ByteArray.mk #[116,97,103] then (true) else ((ByteArray.toList (AR u)==ByteArray.toList (ByteArray.mk #[118,97,108])))) else (false))
theorem TY(u:Pr)(a b:Int)(x:Bool)(xe:Ext):(Ob.F9 130 (BC f101 10) (nd3 u a b x xe) (.normal) (S.mk [(1,.lp 1 0),(2,A2 0),(3,A2 a),(4,A2 b),(5,.v (.bool x)),(6,.v (.bool (BG u a b x)))] [(1,Dn u)] xe)).ok prog:=by
 intro cx AH
 by_cases g0:Ah u=4
 ·by_cases g1:AR u=ByteArray.mk #[116,97,103]
  ·exact jC u a b x xe g0 g1 cx AH ⟨rfl,by rw [show BG u a b x=(true) by unfold BG; rw [iP g0,iP g1]]⟩
  ·exact jD u a b x xe g0 g1 cx AH ⟨rfl,by rw [show BG u a b x=((ByteArray.toList (AR u)==ByteArray.toList (ByteArray.mk #[118,97,108]))) by unfold BG; rw [iP g0,iN g1]]⟩
 ·exact jE u a b x xe g0 cx AH ⟨rfl,by rw [show BG u a b x=(false) by unfold BG; rw [iN g0]]⟩
theorem jF(u:Pr)(a b:Int)(x y:Bool)(xe:Ext)(Ak:x=false)(cx:Cx)(AH:cx.n=130){Q:A7->S->Prop}(hq:Q (.normal) (S.mk [(1,.lp 1 0),(2,A2 0),(3,A2 a),(4,A2 b),(5,.v (.bool x)),(6,.v (.bool y)),(118,.v (.bool !y))] [(1,Dn u)] xe)):PW prog cx (BC f101 11) (xZ u a b x y xe) Q:=
 pw An 130 [rp 3 (B7 (BH Ak))] [1,2,3,4,5,6,118] [1] AH hq
theorem jG(u:Pr)(a b:Int)(x y:Bool)(xe:Ext)(Ak:x=true)(cx:Cx)(AH:cx.n=130){Q:A7->S->Prop}(hq:Q (.normal) (S.mk [(1,.lp 1 0),(2,A2 0),(3,A2 a),(4,A2 b),(5,.v (.bool x)),(6,.v (.bool y)),(118,.v (.bool false))] [(1,Dn u)] xe)):PW prog cx (BC f101 11) (xZ u a b x y xe) Q:=
 pw An 130 [rp 3 (B1 (B3 Ak))] [1,2,3,4,5,6,118] [1] AH hq
def De(u:Pr)(a b:Int)(x y:Bool):Bool:=(if x=true then (false) else (!y))
theorem TZ(u:Pr)(a b:Int)(x y:Bool)(xe:Ext):(Ob.F9 130 (BC f101 11) (xZ u a b x y xe) (.normal) (S.mk [(1,.lp 1 0),(2,A2 0),(3,A2 a),(4,A2 b),(5,.v (.bool x)),(6,.v (.bool y)),(118,.v (.bool (De u a b x y)))] [(1,Dn u)] xe)).ok prog:=by
 intro cx AH
 by_cases g0:x=true
 ·exact jG u a b x y xe g0 cx AH ⟨rfl,by rw [show De u a b x y=(false) by unfold De; rw [iP g0]]⟩
 ·exact jF u a b x y xe (Bool.eq_false_iff.2 g0) cx AH ⟨rfl,by rw [show De u a b x y=(!y) by unfold De; rw [iN g0]]⟩
abbrev nd4(u:Pr)(a b:Int)(x:Bool)(xe:Ext):S:=⟨[(1,.lp 1 0),(2,.v (.int .i64 0)),(3,.v (.int .i64 a)),(4,.v (.int .i64 b)),(91,.v (.bool x))],[(1,Dn u)],xe⟩
section
variable (u:Pr) (a b:Int) (x y:Bool) (Ia:Ah u=8->0<(Bg u).length) (xe:Ext)
include u a b x y Ia xe
theorem aW(Ak:Ah u=8)(cx:Cx)(AH:cx.n=130){Q:A7->S->Prop}(hq:Q (.normal) (S.mk [(1,.lp 1 0),(2,A2 0),(3,A2 a),(4,A2 b),(5,.v (.bool x)),(6,.v (.bool y)),(129,.v (.bool (Ah (List.getD (Bg u) 0 default) != 1)))] [(1,Dn u)] xe)):PW prog cx (BC f101 13) (xZ u a b x y xe) Q:=
 pw An 130 [rp 3 (CT Ak),am ((0:Int)<=0/\0<((Pr.cs (Bg u)).length:Int)) (by (simp only [Pr.A0]; omega)),xPr (Bg u) 0,rp 4 (CT Ak)] [1,2,3,4,5,6,129] [1] AH hq
theorem aX(Ak:¬Ah u=8)(cx:Cx)(AH:cx.n=130){Q:A7->S->Prop}(hq:Q (.normal) (S.mk [(1,.lp 1 0),(2,A2 0),(3,A2 a),(4,A2 b),(5,.v (.bool x)),(6,.v (.bool y)),(129,.v (.bool false))] [(1,Dn u)] xe)):PW prog cx (BC f101 13) (xZ u a b x y xe) Q:=
 pw An 130 [rp 7 (As Ak)] [1,2,3,4,5,6,129] [1] AH hq
end
def Dt(u:Pr)(a b:Int)(x y:Bool):Bool:=(if Ah u=8 then ((Ah (List.getD (Bg u) 0 default) != 1)) else (false))
theorem Ve(u:Pr)(a b:Int)(x y:Bool)(Ia:Ah u=8->0<(Bg u).length)(xe:Ext):(Ob.F9 130 (BC f101 13) (xZ u a b x y xe) (.normal) (S.mk [(1,.lp 1 0),(2,A2 0),(3,A2 a),(4,A2 b),(5,.v (.bool x)),(6,.v (.bool y)),(129,.v (.bool (Dt u a b x y)))] [(1,Dn u)] xe)).ok prog:=by
 intro cx AH
 by_cases g0:Ah u=8
 ·exact aW u a b x y Ia xe g0 cx AH ⟨rfl,by rw [show Dt u a b x y=((Ah (List.getD (Bg u) 0 default) != 1)) by unfold Dt; rw [iP g0]]⟩
 ·exact aX u a b x y Ia xe g0 cx AH ⟨rfl,by rw [show Dt u a b x y=(false) by unfold Dt; rw [iN g0]]⟩
section
variable (u:Pr) (a b:Int) (x:Bool) (Ia:Ah u=8->0<(Bg u).length) (xe:Ext)
include u a b x Ia xe
theorem aY(Ak:Ah u=8)(cx:Cx)(AH:cx.n=130){Q:A7->S->Prop}(hq:Q (.normal) (S.mk [(1,.lp 1 0),(2,A2 0),(3,A2 a),(4,A2 b),(91,.v (.bool x)),(129,.v (.bool (Ah (List.getD (Bg u) 0 default) != 1)))] [(1,Dn u)] xe)):PW prog cx (BC f101 13) (nd4 u a b x xe) Q:=
 pw An 130 [rp 3 (CT Ak),am ((0:Int)<=0/\0<((Pr.cs (Bg u)).length:Int)) (by (simp only [Pr.A0]; omega)),xPr (Bg u) 0,rp 4 (CT Ak)] [1,2,3,4,91,129] [1] AH hq
theorem aZ(Ak:¬Ah u=8)(cx:Cx)(AH:cx.n=130){Q:A7->S->Prop}(hq:Q (.normal) (S.mk [(1,.lp 1 0),(2,A2 0),(3,A2 a),(4,A2 b),(91,.v (.bool x)),(129,.v (.bool false))] [(1,Dn u)] xe)):PW prog cx (BC f101 13) (nd4 u a b x xe) Q:=
 pw An 130 [rp 7 (As Ak)] [1,2,3,4,91,129] [1] AH hq
end
def Du(u:Pr)(a b:Int)(x:Bool):Bool:=(if Ah u=8 then ((Ah (List.getD (Bg u) 0 default) != 1)) else (false))
theorem Vf(u:Pr)(a b:Int)(x:Bool)(Ia:Ah u=8->0<(Bg u).length)(xe:Ext):(Ob.F9 130 (BC f101 13) (nd4 u a b x xe) (.normal) (S.mk [(1,.lp 1 0),(2,A2 0),(3,A2 a),(4,A2 b),(91,.v (.bool x)),(129,.v (.bool (Du u a b x)))] [(1,Dn u)] xe)).ok prog:=by
 intro cx AH
 by_cases g0:Ah u=8
 ·exact aY u a b x Ia xe g0 cx AH ⟨rfl,by rw [show Du u a b x=((Ah (List.getD (Bg u) 0 default) != 1)) by unfold Du; rw [iP g0]]⟩
 ·exact aZ u a b x Ia xe g0 cx AH ⟨rfl,by rw [show Du u a b x=(false) by unfold Du; rw [iN g0]]⟩
theorem A2o{u:Pr}(h:¬AX u (A8 (Ah u)) (A9 (Ah u))=true):Ah u=8->0<(Bg u).length:=fun h8=>by
 rcases Nat.eq_zero_or_pos (Bg u).length with h0 | h0
 ·exfalso; apply h
  simp only [AX,CY,A8,A9,h8,h0]
  simp
 ·exact h0
theorem QB{u:Pr}(h:AX u (A8 (Ah u)) (A9 (Ah u))=false):Ah u=8->0<(Bg u).length:=A2o (by rw [h]; decide)
def mV:Md:=⟨fun _=>some false,fun t=>t==1000001||t==1000004||t==1000006||t==1000008||t==1000009||t==1000010||t==1000011||t==1000013⟩
section
variable (u:Pr) (Ak:Dd u=false) (Au:AX u (A8 (Ah u)) (A9 (Ah u))=false) (AW:Cu u (A8 (Ah u)) (A9 (Ah u))=false)
include u Ak Au AW
theorem A2p(Bt:C7 u (A8 (Ah u)) (A9 (Ah u))=true)(CJ:De u (A8 (Ah u)) (A9 (Ah u)) (AY u (A8 (Ah u)) (A9 (Ah u))) (BG u (A8 (Ah u)) (A9 (Ah u)) (AY u (A8 (Ah u)) (A9 (Ah u))))=false)(ED:Dt u (A8 (Ah u)) (A9 (Ah u)) (AY u (A8 (Ah u)) (A9 (Ah u))) (BG u (A8 (Ah u)) (A9 (Ah u)) (AY u (A8 (Ah u)) (A9 (Ah u))))=true):Pu 101 [.agg (CI u)] (rI 6):=
 pu mV (fun e=>[lf (S.mk [(0,.v (.agg (CI u))),(1,.lp 1 0),(2,A2 0)] [(1,Dn u)] e) (@LU (u) (e)) ⟨⟨W,W,Ar⟩,⟨⟨W,W,W,W,Ar⟩,Ar⟩,rfl⟩,B1 Ak,cl (@tK (Ah u)),lf (S.mk [(1,.lp 1 0),(2,A2 0),(14,.v (.bool (Dd u))),(16,.lp 1 0),(17,A2 (Ah u)),(18,.v (.B6 [pI (A8 (Ah u)),pI (A9 (Ah u))])),(15,.v (.B6 [pI (A8 (Ah u)),pI (A9 (Ah u))])),(19,A2 (A8 (Ah u))),(20,A2 (A9 (Ah u))),(3,A2 (A8 (Ah u))),(4,A2 (A9 (Ah u)))] [(1,Dn u)] e) (@NA (u) (A8 (Ah u)) (A9 (Ah u)) (e)) ⟨⟨W,W,W,W,Ar⟩,⟨⟨W,W,W,W,Ar⟩,Ar⟩,rfl⟩,B1 Au,lf (S.mk [(1,.lp 1 0),(2,A2 0),(3,A2 (A8 (Ah u))),(4,A2 (A9 (Ah u))),(58,.v (.bool (AX u (A8 (Ah u)) (A9 (Ah u)))))] [(1,Dn u)] e) (@Pw (u) (A8 (Ah u)) (A9 (Ah u)) (e)) ⟨⟨W,W,W,W,Ar⟩,⟨⟨W,W,W,W,Ar⟩,Ar⟩,rfl⟩,B1 AW,lf (S.mk [(1,.lp 1 0),(2,A2 0),(3,A2 (A8 (Ah u))),(4,A2 (A9 (Ah u))),(82,.v (.bool (Cu u (A8 (Ah u)) (A9 (Ah u)))))] [(1,Dn u)] e) (@Sr (u) (A8 (Ah u)) (A9 (Ah u)) (e)) ⟨⟨W,W,W,W,Ar⟩,⟨⟨W,W,W,W,Ar⟩,Ar⟩,rfl⟩,B7 Bt,lf (S.mk [(1,.lp 1 0),(2,A2 0),(3,A2 (A8 (Ah u))),(4,A2 (A9 (Ah u))),(91,.v (.bool (C7 u (A8 (Ah u)) (A9 (Ah u)))))] [(1,Dn u)] e) (@aV (u) (A8 (Ah u)) (A9 (Ah u)) (e)) ⟨⟨W,W,W,W,Ar⟩,⟨⟨W,W,W,W,Ar⟩,Ar⟩,rfl⟩,lf (S.mk [(1,.lp 1 0),(2,A2 0),(3,A2 (A8 (Ah u))),(4,A2 (A9 (Ah u))),(5,.v (.bool (AY u (A8 (Ah u)) (A9 (Ah u)))))] [(1,Dn u)] e) (@TY (u) (A8 (Ah u)) (A9 (Ah u)) (AY u (A8 (Ah u)) (A9 (Ah u))) (e)) ⟨⟨W,W,W,W,W,Ar⟩,⟨⟨W,W,W,W,Ar⟩,Ar⟩,rfl⟩,lf (S.mk [(1,.lp 1 0),(2,A2 0),(3,A2 (A8 (Ah u))),(4,A2 (A9 (Ah u))),(5,.v (.bool (AY u (A8 (Ah u)) (A9 (Ah u))))),(6,.v (.bool (BG u (A8 (Ah u)) (A9 (Ah u)) (AY u (A8 (Ah u)) (A9 (Ah u))))))] [(1,Dn u)] e) (@TZ (u) (A8 (Ah u)) (A9 (Ah u)) (AY u (A8 (Ah u)) (A9 (Ah u))) (BG u (A8 (Ah u)) (A9 (Ah u)) (AY u (A8 (Ah u)) (A9 (Ah u)))) (e)) ⟨⟨W,W,W,W,W,W,Ar⟩,⟨⟨W,W,W,W,Ar⟩,Ar⟩,rfl⟩,B1 CJ,lf (S.mk [(1,.lp 1 0),(2,A2 0),(3,A2 (A8 (Ah u))),(4,A2 (A9 (Ah u))),(5,.v (.bool (AY u (A8 (Ah u)) (A9 (Ah u))))),(6,.v (.bool (BG u (A8 (Ah u)) (A9 (Ah u)) (AY u (A8 (Ah u)) (A9 (Ah u)))))),(118,.v (.bool (De u (A8 (Ah u)) (A9 (Ah u)) (AY u (A8 (Ah u)) (A9 (Ah u))) (BG u (A8 (Ah u)) (A9 (Ah u)) (AY u (A8 (Ah u)) (A9 (Ah u)))))))] [(1,Dn u)] e) (@Ve (u) (A8 (Ah u)) (A9 (Ah u)) (AY u (A8 (Ah u)) (A9 (Ah u))) (BG u (A8 (Ah u)) (A9 (Ah u)) (AY u (A8 (Ah u)) (A9 (Ah u)))) (by (apply QB <;> first | assumption | omega | decide)) (e)) ⟨⟨W,W,W,W,W,W,Ar⟩,⟨⟨W,W,W,W,Ar⟩,Ar⟩,rfl⟩,B7 ED]) func101
theorem A2q(Bt:C7 u (A8 (Ah u)) (A9 (Ah u))=true)(CJ:De u (A8 (Ah u)) (A9 (Ah u)) (AY u (A8 (Ah u)) (A9 (Ah u))) (BG u (A8 (Ah u)) (A9 (Ah u)) (AY u (A8 (Ah u)) (A9 (Ah u))))=false)(ED:Dt u (A8 (Ah u)) (A9 (Ah u)) (AY u (A8 (Ah u)) (A9 (Ah u))) (BG u (A8 (Ah u)) (A9 (Ah u)) (AY u (A8 (Ah u)) (A9 (Ah u))))=false):Pu 101 [.agg (CI u)] (rI 0):=
 pu mV (fun e=>[lf (S.mk [(0,.v (.agg (CI u))),(1,.lp 1 0),(2,A2 0)] [(1,Dn u)] e) (@LU (u) (e)) ⟨⟨W,W,Ar⟩,⟨⟨W,W,W,W,Ar⟩,Ar⟩,rfl⟩,B1 Ak,cl (@tK (Ah u)),lf (S.mk [(1,.lp 1 0),(2,A2 0),(14,.v (.bool (Dd u))),(16,.lp 1 0),(17,A2 (Ah u)),(18,.v (.B6 [pI (A8 (Ah u)),pI (A9 (Ah u))])),(15,.v (.B6 [pI (A8 (Ah u)),pI (A9 (Ah u))])),(19,A2 (A8 (Ah u))),(20,A2 (A9 (Ah u))),(3,A2 (A8 (Ah u))),(4,A2 (A9 (Ah u)))] [(1,Dn u)] e) (@NA (u) (A8 (Ah u)) (A9 (Ah u)) (e)) ⟨⟨W,W,W,W,Ar⟩,⟨⟨W,W,W,W,Ar⟩,Ar⟩,rfl⟩,B1 Au,lf (S.mk [(1,.lp 1 0),(2,A2 0),(3,A2 (A8 (Ah u))),(4,A2 (A9 (Ah u))),(58,.v (.bool (AX u (A8 (Ah u)) (A9 (Ah u)))))] [(1,Dn u)] e) (@Pw (u) (A8 (Ah u)) (A9 (Ah u)) (e)) ⟨⟨W,W,W,W,Ar⟩,⟨⟨W,W,W,W,Ar⟩,Ar⟩,rfl⟩,B1 AW,lf (S.mk [(1,.lp 1 0),(2,A2 0),(3,A2 (A8 (Ah u))),(4,A2 (A9 (Ah u))),(82,.v (.bool (Cu u (A8 (Ah u)) (A9 (Ah u)))))] [(1,Dn u)] e) (@Sr (u) (A8 (Ah u)) (A9 (Ah u)) (e)) ⟨⟨W,W,W,W,Ar⟩,⟨⟨W,W,W,W,Ar⟩,Ar⟩,rfl⟩,B7 Bt,lf (S.mk [(1,.lp 1 0),(2,A2 0),(3,A2 (A8 (Ah u))),(4,A2 (A9 (Ah u))),(91,.v (.bool (C7 u (A8 (Ah u)) (A9 (Ah u)))))] [(1,Dn u)] e) (@aV (u) (A8 (Ah u)) (A9 (Ah u)) (e)) ⟨⟨W,W,W,W,Ar⟩,⟨⟨W,W,W,W,Ar⟩,Ar⟩,rfl⟩,lf (S.mk [(1,.lp 1 0),(2,A2 0),(3,A2 (A8 (Ah u))),(4,A2 (A9 (Ah u))),(5,.v (.bool (AY u (A8 (Ah u)) (A9 (Ah u)))))] [(1,Dn u)] e) (@TY (u) (A8 (Ah u)) (A9 (Ah u)) (AY u (A8 (Ah u)) (A9 (Ah u))) (e)) ⟨⟨W,W,W,W,W,Ar⟩,⟨⟨W,W,W,W,Ar⟩,Ar⟩,rfl⟩,lf (S.mk [(1,.lp 1 0),(2,A2 0),(3,A2 (A8 (Ah u))),(4,A2 (A9 (Ah u))),(5,.v (.bool (AY u (A8 (Ah u)) (A9 (Ah u))))),(6,.v (.bool (BG u (A8 (Ah u)) (A9 (Ah u)) (AY u (A8 (Ah u)) (A9 (Ah u))))))] [(1,Dn u)] e) (@TZ (u) (A8 (Ah u)) (A9 (Ah u)) (AY u (A8 (Ah u)) (A9 (Ah u))) (BG u (A8 (Ah u)) (A9 (Ah u)) (AY u (A8 (Ah u)) (A9 (Ah u)))) (e)) ⟨⟨W,W,W,W,W,W,Ar⟩,⟨⟨W,W,W,W,Ar⟩,Ar⟩,rfl⟩,B1 CJ,lf (S.mk [(1,.lp 1 0),(2,A2 0),(3,A2 (A8 (Ah u))),(4,A2 (A9 (Ah u))),(5,.v (.bool (AY u (A8 (Ah u)) (A9 (Ah u))))),(6,.v (.bool (BG u (A8 (Ah u)) (A9 (Ah u)) (AY u (A8 (Ah u)) (A9 (Ah u)))))),(118,.v (.bool (De u (A8 (Ah u)) (A9 (Ah u)) (AY u (A8 (Ah u)) (A9 (Ah u))) (BG u (A8 (Ah u)) (A9 (Ah u)) (AY u (A8 (Ah u)) (A9 (Ah u)))))))] [(1,Dn u)] e) (@Ve (u) (A8 (Ah u)) (A9 (Ah u)) (AY u (A8 (Ah u)) (A9 (Ah u))) (BG u (A8 (Ah u)) (A9 (Ah u)) (AY u (A8 (Ah u)) (A9 (Ah u)))) (by (apply QB <;> first | assumption | omega | decide)) (e)) ⟨⟨W,W,W,W,W,W,Ar⟩,⟨⟨W,W,W,W,Ar⟩,Ar⟩,rfl⟩,B1 ED]) func101
theorem A2r(Bt:C7 u (A8 (Ah u)) (A9 (Ah u))=false)(CJ:Du u (A8 (Ah u)) (A9 (Ah u)) (C7 u (A8 (Ah u)) (A9 (Ah u)))=true):Pu 101 [.agg (CI u)] (rI 6):=
 pu mV (fun e=>[lf (S.mk [(0,.v (.agg (CI u))),(1,.lp 1 0),(2,A2 0)] [(1,Dn u)] e) (@LU (u) (e)) ⟨⟨W,W,Ar⟩,⟨⟨W,W,W,W,Ar⟩,Ar⟩,rfl⟩,B1 Ak,cl (@tK (Ah u)),lf (S.mk [(1,.lp 1 0),(2,A2 0),(14,.v (.bool (Dd u))),(16,.lp 1 0),(17,A2 (Ah u)),(18,.v (.B6 [pI (A8 (Ah u)),pI (A9 (Ah u))])),(15,.v (.B6 [pI (A8 (Ah u)),pI (A9 (Ah u))])),(19,A2 (A8 (Ah u))),(20,A2 (A9 (Ah u))),(3,A2 (A8 (Ah u))),(4,A2 (A9 (Ah u)))] [(1,Dn u)] e) (@NA (u) (A8 (Ah u)) (A9 (Ah u)) (e)) ⟨⟨W,W,W,W,Ar⟩,⟨⟨W,W,W,W,Ar⟩,Ar⟩,rfl⟩,B1 Au,lf (S.mk [(1,.lp 1 0),(2,A2 0),(3,A2 (A8 (Ah u))),(4,A2 (A9 (Ah u))),(58,.v (.bool (AX u (A8 (Ah u)) (A9 (Ah u)))))] [(1,Dn u)] e) (@Pw (u) (A8 (Ah u)) (A9 (Ah u)) (e)) ⟨⟨W,W,W,W,Ar⟩,⟨⟨W,W,W,W,Ar⟩,Ar⟩,rfl⟩,B1 AW,lf (S.mk [(1,.lp 1 0),(2,A2 0),(3,A2 (A8 (Ah u))),(4,A2 (A9 (Ah u))),(82,.v (.bool (Cu u (A8 (Ah u)) (A9 (Ah u)))))] [(1,Dn u)] e) (@Sr (u) (A8 (Ah u)) (A9 (Ah u)) (e)) ⟨⟨W,W,W,W,Ar⟩,⟨⟨W,W,W,W,Ar⟩,Ar⟩,rfl⟩,B1 Bt,lf (S.mk [(1,.lp 1 0),(2,A2 0),(3,A2 (A8 (Ah u))),(4,A2 (A9 (Ah u))),(91,.v (.bool (C7 u (A8 (Ah u)) (A9 (Ah u)))))] [(1,Dn u)] e) (@Vf (u) (A8 (Ah u)) (A9 (Ah u)) (C7 u (A8 (Ah u)) (A9 (Ah u))) (by (apply QB <;> first | assumption | omega | decide)) (e)) ⟨⟨W,W,W,W,W,Ar⟩,⟨⟨W,W,W,W,Ar⟩,Ar⟩,rfl⟩,B7 CJ]) func101
theorem A2s(Bt:C7 u (A8 (Ah u)) (A9 (Ah u))=false)(CJ:Du u (A8 (Ah u)) (A9 (Ah u)) (C7 u (A8 (Ah u)) (A9 (Ah u)))=false):Pu 101 [.agg (CI u)] (rI 0):=
 pu mV (fun e=>[lf (S.mk [(0,.v (.agg (CI u))),(1,.lp 1 0),(2,A2 0)] [(1,Dn u)] e) (@LU (u) (e)) ⟨⟨W,W,Ar⟩,⟨⟨W,W,W,W,Ar⟩,Ar⟩,rfl⟩,B1 Ak,cl (@tK (Ah u)),lf (S.mk [(1,.lp 1 0),(2,A2 0),(14,.v (.bool (Dd u))),(16,.lp 1 0),(17,A2 (Ah u)),(18,.v (.B6 [pI (A8 (Ah u)),pI (A9 (Ah u))])),(15,.v (.B6 [pI (A8 (Ah u)),pI (A9 (Ah u))])),(19,A2 (A8 (Ah u))),(20,A2 (A9 (Ah u))),(3,A2 (A8 (Ah u))),(4,A2 (A9 (Ah u)))] [(1,Dn u)] e) (@NA (u) (A8 (Ah u)) (A9 (Ah u)) (e)) ⟨⟨W,W,W,W,Ar⟩,⟨⟨W,W,W,W,Ar⟩,Ar⟩,rfl⟩,B1 Au,lf (S.mk [(1,.lp 1 0),(2,A2 0),(3,A2 (A8 (Ah u))),(4,A2 (A9 (Ah u))),(58,.v (.bool (AX u (A8 (Ah u)) (A9 (Ah u)))))] [(1,Dn u)] e) (@Pw (u) (A8 (Ah u)) (A9 (Ah u)) (e)) ⟨⟨W,W,W,W,Ar⟩,⟨⟨W,W,W,W,Ar⟩,Ar⟩,rfl⟩,B1 AW,lf (S.mk [(1,.lp 1 0),(2,A2 0),(3,A2 (A8 (Ah u))),(4,A2 (A9 (Ah u))),(82,.v (.bool (Cu u (A8 (Ah u)) (A9 (Ah u)))))] [(1,Dn u)] e) (@Sr (u) (A8 (Ah u)) (A9 (Ah u)) (e)) ⟨⟨W,W,W,W,Ar⟩,⟨⟨W,W,W,W,Ar⟩,Ar⟩,rfl⟩,B1 Bt,lf (S.mk [(1,.lp 1 0),(2,A2 0),(3,A2 (A8 (Ah u))),(4,A2 (A9 (Ah u))),(91,.v (.bool (C7 u (A8 (Ah u)) (A9 (Ah u)))))] [(1,Dn u)] e) (@Vf (u) (A8 (Ah u)) (A9 (Ah u)) (C7 u (A8 (Ah u)) (A9 (Ah u))) (by (apply QB <;> first | assumption | omega | decide)) (e)) ⟨⟨W,W,W,W,W,Ar⟩,⟨⟨W,W,W,W,Ar⟩,Ar⟩,rfl⟩,B1 CJ]) func101
end
def Dg(u:Pr):Int:=(if Dd u=true then 1 else (if AX u (A8 (Ah u)) (A9 (Ah u))=true then 1 else (if Cu u (A8 (Ah u)) (A9 (Ah u))=true then 2 else (if C7 u (A8 (Ah u)) (A9 (Ah u))=true then (if De u (A8 (Ah u)) (A9 (Ah u)) (AY u (A8 (Ah u)) (A9 (Ah u))) (BG u (A8 (Ah u)) (A9 (Ah u)) (AY u (A8 (Ah u)) (A9 (Ah u))))=true then 3 else (if Dt u (A8 (Ah u)) (A9 (Ah u)) (AY u (A8 (Ah u)) (A9 (Ah u))) (BG u (A8 (Ah u)) (A9 (Ah u)) (AY u (A8 (Ah u)) (A9 (Ah u))))=true then 6 else 0)) else (if Du u (A8 (Ah u)) (A9 (Ah u)) (C7 u (A8 (Ah u)) (A9 (Ah u)))=true then 6 else 0)))))
theorem pnd(u:Pr):Pu 101 [.agg (CI u)] (rI (Dg u)):=by
 by_cases h0:Dd u=true
 ·simp only [Dg,iP h0]; exact pu mV (fun e=>[lf (S.mk [(0,.v (.agg (CI u))),(1,.lp 1 0),(2,A2 0)] [(1,Dn u)] e) (@LU (u) (e)) ⟨⟨W,W,Ar⟩,⟨⟨W,W,W,W,Ar⟩,Ar⟩,rfl⟩,B7 h0]) func101
 ·by_cases h1:AX u (A8 (Ah u)) (A9 (Ah u))=true
  ·simp only [Dg,iN h0,iP h1]; exact pu mV (fun e=>[lf (S.mk [(0,.v (.agg (CI u))),(1,.lp 1 0),(2,A2 0)] [(1,Dn u)] e) (@LU (u) (e)) ⟨⟨W,W,Ar⟩,⟨⟨W,W,W,W,Ar⟩,Ar⟩,rfl⟩,B1 (DC h0),cl (@tK (Ah u)),lf (S.mk [(1,.lp 1 0),(2,A2 0),(14,.v (.bool (Dd u))),(16,.lp 1 0),(17,A2 (Ah u)),(18,.v (.B6 [pI (A8 (Ah u)),pI (A9 (Ah u))])),(15,.v (.B6 [pI (A8 (Ah u)),pI (A9 (Ah u))])),(19,A2 (A8 (Ah u))),(20,A2 (A9 (Ah u))),(3,A2 (A8 (Ah u))),(4,A2 (A9 (Ah u)))] [(1,Dn u)] e) (@NA (u) (A8 (Ah u)) (A9 (Ah u)) (e)) ⟨⟨W,W,W,W,Ar⟩,⟨⟨W,W,W,W,Ar⟩,Ar⟩,rfl⟩,B7 h1]) func101
  ·by_cases h2:Cu u (A8 (Ah u)) (A9 (Ah u))=true
   ·simp only [Dg,iN h0,iN h1,iP h2]; exact pu mV (fun e=>[lf (S.mk [(0,.v (.agg (CI u))),(1,.lp 1 0),(2,A2 0)] [(1,Dn u)] e) (@LU (u) (e)) ⟨⟨W,W,Ar⟩,⟨⟨W,W,W,W,Ar⟩,Ar⟩,rfl⟩,B1 (DC h0),cl (@tK (Ah u)),lf (S.mk [(1,.lp 1 0),(2,A2 0),(14,.v (.bool (Dd u))),(16,.lp 1 0),(17,A2 (Ah u)),(18,.v (.B6 [pI (A8 (Ah u)),pI (A9 (Ah u))])),(15,.v (.B6 [pI (A8 (Ah u)),pI (A9 (Ah u))])),(19,A2 (A8 (Ah u))),(20,A2 (A9 (Ah u))),(3,A2 (A8 (Ah u))),(4,A2 (A9 (Ah u)))] [(1,Dn u)] e) (@NA (u) (A8 (Ah u)) (A9 (Ah u)) (e)) ⟨⟨W,W,W,W,Ar⟩,⟨⟨W,W,W,W,Ar⟩,Ar⟩,rfl⟩,B1 (DC h1),lf (S.mk [(1,.lp 1 0),(2,A2 0),(3,A2 (A8 (Ah u))),(4,A2 (A9 (Ah u))),(58,.v (.bool (AX u (A8 (Ah u)) (A9 (Ah u)))))] [(1,Dn u)] e) (@Pw (u) (A8 (Ah u)) (A9 (Ah u)) (e)) ⟨⟨W,W,W,W,Ar⟩,⟨⟨W,W,W,W,Ar⟩,Ar⟩,rfl⟩,B7 h2]) func101
   ·by_cases h3:C7 u (A8 (Ah u)) (A9 (Ah u))=true
    ·by_cases h4:De u (A8 (Ah u)) (A9 (Ah u)) (AY u (A8 (Ah u)) (A9 (Ah u))) (BG u (A8 (Ah u)) (A9 (Ah u)) (AY u (A8 (Ah u)) (A9 (Ah u))))=true
     ·simp only [Dg,iN h0,iN h1,iN h2,iP h3,iP h4]; exact pu mV (fun e=>[lf (S.mk [(0,.v (.agg (CI u))),(1,.lp 1 0),(2,A2 0)] [(1,Dn u)] e) (@LU (u) (e)) ⟨⟨W,W,Ar⟩,⟨⟨W,W,W,W,Ar⟩,Ar⟩,rfl⟩,B1 (DC h0),cl (@tK (Ah u)),lf (S.mk [(1,.lp 1 0),(2,A2 0),(14,.v (.bool (Dd u))),(16,.lp 1 0),(17,A2 (Ah u)),(18,.v (.B6 [pI (A8 (Ah u)),pI (A9 (Ah u))])),(15,.v (.B6 [pI (A8 (Ah u)),pI (A9 (Ah u))])),(19,A2 (A8 (Ah u))),(20,A2 (A9 (Ah u))),(3,A2 (A8 (Ah u))),(4,A2 (A9 (Ah u)))] [(1,Dn u)] e) (@NA (u) (A8 (Ah u)) (A9 (Ah u)) (e)) ⟨⟨W,W,W,W,Ar⟩,⟨⟨W,W,W,W,Ar⟩,Ar⟩,rfl⟩,B1 (DC h1),lf (S.mk [(1,.lp 1 0),(2,A2 0),(3,A2 (A8 (Ah u))),(4,A2 (A9 (Ah u))),(58,.v (.bool (AX u (A8 (Ah u)) (A9 (Ah u)))))] [(1,Dn u)] e) (@Pw (u) (A8 (Ah u)) (A9 (Ah u)) (e)) ⟨⟨W,W,W,W,Ar⟩,⟨⟨W,W,W,W,Ar⟩,Ar⟩,rfl⟩,B1 (DC h2),lf (S.mk [(1,.lp 1 0),(2,A2 0),(3,A2 (A8 (Ah u))),(4,A2 (A9 (Ah u))),(82,.v (.bool (Cu u (A8 (Ah u)) (A9 (Ah u)))))] [(1,Dn u)] e) (@Sr (u) (A8 (Ah u)) (A9 (Ah u)) (e)) ⟨⟨W,W,W,W,Ar⟩,⟨⟨W,W,W,W,Ar⟩,Ar⟩,rfl⟩,B7 h3,lf (S.mk [(1,.lp 1 0),(2,A2 0),(3,A2 (A8 (Ah u))),(4,A2 (A9 (Ah u))),(91,.v (.bool (C7 u (A8 (Ah u)) (A9 (Ah u)))))] [(1,Dn u)] e) (@aV (u) (A8 (Ah u)) (A9 (Ah u)) (e)) ⟨⟨W,W,W,W,Ar⟩,⟨⟨W,W,W,W,Ar⟩,Ar⟩,rfl⟩,lf (S.mk [(1,.lp 1 0),(2,A2 0),(3,A2 (A8 (Ah u))),(4,A2 (A9 (Ah u))),(5,.v (.bool (AY u (A8 (Ah u)) (A9 (Ah u)))))] [(1,Dn u)] e) (@TY (u) (A8 (Ah u)) (A9 (Ah u)) (AY u (A8 (Ah u)) (A9 (Ah u))) (e)) ⟨⟨W,W,W,W,W,Ar⟩,⟨⟨W,W,W,W,Ar⟩,Ar⟩,rfl⟩,lf (S.mk [(1,.lp 1 0),(2,A2 0),(3,A2 (A8 (Ah u))),(4,A2 (A9 (Ah u))),(5,.v (.bool (AY u (A8 (Ah u)) (A9 (Ah u))))),(6,.v (.bool (BG u (A8 (Ah u)) (A9 (Ah u)) (AY u (A8 (Ah u)) (A9 (Ah u))))))] [(1,Dn u)] e) (@TZ (u) (A8 (Ah u)) (A9 (Ah u)) (AY u (A8 (Ah u)) (A9 (Ah u))) (BG u (A8 (Ah u)) (A9 (Ah u)) (AY u (A8 (Ah u)) (A9 (Ah u)))) (e)) ⟨⟨W,W,W,W,W,W,Ar⟩,⟨⟨W,W,W,W,Ar⟩,Ar⟩,rfl⟩,B7 h4]) func101
     ·by_cases h5:Dt u (A8 (Ah u)) (A9 (Ah u)) (AY u (A8 (Ah u)) (A9 (Ah u))) (BG u (A8 (Ah u)) (A9 (Ah u)) (AY u (A8 (Ah u)) (A9 (Ah u))))=true
      ·simp only [Dg,iN h0,iN h1,iN h2,iP h3,iN h4,iP h5]; exact A2p u (DC h0) (DC h1) (DC h2) h3 (DC h4) h5
      ·simp only [Dg,iN h0,iN h1,iN h2,iP h3,iN h4,iN h5]; exact A2q u (DC h0) (DC h1) (DC h2) h3 (DC h4) (DC h5)
    ·by_cases h4:Du u (A8 (Ah u)) (A9 (Ah u)) (C7 u (A8 (Ah u)) (A9 (Ah u)))=true
     ·simp only [Dg,iN h0,iN h1,iN h2,iN h3,iP h4]; exact A2r u (DC h0) (DC h1) (DC h2) (DC h3) h4
     ·simp only [Dg,iN h0,iN h1,iN h2,iN h3,iN h4]; exact A2s u (DC h0) (DC h1) (DC h2) (DC h3) (DC h4)
theorem mW(l:List Pr)(Ak:¬(l.length:Int)=(0:Int)):Pu 187 [.sl 4 (Pr.cs l),.Ab,.fn (.func 134) [] []] (rB false):=
 pm An [sl (Pr.A0 l),kp,D3 Ak] func187
theorem mX(l:List Pr)(Ak:(l.length:Int)=(0:Int)):Pu 187 [.sl 4 (Pr.cs l),.Ab,.fn (.func 134) [] []] (rB true):=
 pm An [sl (Pr.A0 l),kp,Bp Ak,sl (Pr.A0 l),ur,df (0<(l.length:Int))] func187
def isNil(l:List Pr):Bool:=decide ((l.length:Int)=0)
theorem A8o(l:List Pr):Pu 187 [.sl 4 (Pr.cs l),.Ab,.fn (.func 134) [] []] (.ret (.bool (isNil l))):=by
 unfold isNil
 by_cases h:(l.length:Int)=0
 ·rw [decide_eq_true h]; first | exact mX l h | exact mW l h
 ·rw [decide_eq_false h]; first | exact mW l h | exact mX l h
def Ft(u:Pr):Bool:=(if Ah u=0 then (if AR u=AI then (if DE u=0 then (isNil (Bg u)) else false) else false) else false)
theorem psz(u:Pr):Pu 134 [.agg (CI u),.agg [pI 0,.str AI,pI 0,.Ab]] (rB (Ft u)):=by
 by_cases h0:Ah u=0
 ·by_cases h1:AR u=AI
  ·by_cases h2:DE u=0
   ·simp only [Ft,iP h0,iP h1,iP h2]; exact pm An [rp 6 (CT h0),rp 6 (bt (ByteArray.toList (AR u)==ByteArray.toList AI) (DZ h1)),rp 5 (CT h2),cl (@A8o (Bg u)),CT h2] func134
   ·simp only [Ft,iP h0,iP h1,iN h2]; exact pm An [rp 6 (CT h0),rp 6 (bt (ByteArray.toList (AR u)==ByteArray.toList AI) (DZ h1)),rp 6 (As h2)] func134
  ·simp only [Ft,iP h0,iN h1]; exact pm An [rp 6 (CT h0),rp 6 (bf (ByteArray.toList (AR u)==ByteArray.toList AI) (HT h1)),rp 6 (bf false)] func134
 ·simp only [Ft,iN h0]; exact pm An [rp 6 (As h0),rp 12 (bf false)] func134
end Go.Proofs.YtmllcplaohkjnaaGreatDoor
