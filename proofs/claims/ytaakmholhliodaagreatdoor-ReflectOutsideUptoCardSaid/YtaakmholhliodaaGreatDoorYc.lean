/- Values of Go as plain data, an evaluator over them, and what the functions of the program return; part Yc. -/
import Derived.Test.YtaakmholhliodaaGreatDoorYb
import Derived.Sort.OwnSorted
import Derived.Shelf.SlicesE.Kit
import Derived.Lib.SlKept
import Derived.Lib.SliceRun
import Derived.Sort.WalkB12
import Derived.Tactics
import Derived.KernelRfl
import Derived.Test.YtaakmholhliodaaGreatDoorXh
import Derived.Test.YtaakmholhliodaaGreatDoorYa
set_option linter.unusedSectionVars false
set_option linter.unusedSimpArgs false
set_option linter.unusedVariables false
namespace Go.Proofs.YtaakmholhliodaaGreatDoor
open Go.Proofs.Tryz
open Go.RowKit Go.Sort Go.Lib
theorem putRow_heap{α:Type} [Inhabited α] (enc:α->Value) {A B:World} {blk off b:Nat} {d:Array α} (h:A.heap[b]?=B.heap[b]?):(putRow enc A blk off d).heap[b]?=(putRow enc B blk off d).heap[b]?:=by
 simp only [putRow,mapBlock,Array.getElem?_modify,h]
theorem putRow_size{α:Type} [Inhabited α] (enc:α->Value) (A:World) (blk off:Nat) (d:Array α):(putRow enc A blk off d).heap.size=A.heap.size:=by
 simp only [putRow,mapBlock,Array.size_modify]
theorem holds_grown{w W:World}{blk:Nat}{d:Array (List UInt8)}(hH:Holds encStr w blk 0 d)(hb:blk<w.heap.size)(h:w.grownBy W none):Holds encStr W blk 0 d:=fun j hj=>by
 have h1:W.heap[blk]?=w.heap[blk]?:=h.block blk hb (by simp)
 exact ⟨(World.cell?_of_block h1).trans (hH j hj).1,(World.frozen?_of_block h1).trans (hH j hj).2⟩
theorem put_back{w W0 W':World}{blk:Nat}{d dk:Array (List UInt8)}(hH:Holds encStr w blk 0 d)(hb:blk<w.heap.size)(hs:dk.size=d.size)(h0:w.grownBy W0 none)(h1:(putRow encStr W0 blk 0 dk).grownBy W' none):∃W1,w.grownBy W1 none/\W'=putRow encStr W1 blk 0 dk:=by
 have hH0:=holds_grown hH hb h0
 have hHr:=holds_putRow encStr W0 blk 0 d dk hH0 hs
 have hH':=holds_grown hHr (by rw [putRow_size]; exact Nat.lt_of_lt_of_le hb h0.size) h1
 refine ⟨putRow encStr W' blk 0 d,⟨h1.os.trans h0.os,h1.tape.trans h0.tape,h1.output.trans h0.output,?_,fun k hk _=>?_⟩,?_⟩
 ·rw [putRow_size]
  have:=h1.size
  rw [putRow_size] at this
  exact Nat.le_trans h0.size this
 ·have e1:W'.heap[k]?=(putRow encStr W0 blk 0 dk).heap[k]?:=h1.block k (by rw [putRow_size]; exact Nat.lt_of_lt_of_le hk h0.size) (by simp)
  rw [putRow_heap encStr e1,putRow_putRow encStr W0 blk 0 dk d hs.symm,putRow_self encStr W0 blk 0 d hH0]
  exact h0.block k hk (by simp)
 ·rw [putRow_putRow encStr W' blk 0 d dk hs,putRow_self encStr W' blk 0 dk hH']
theorem u30d:Tryz.prog.underlying 30=some (.slice 9):=by kernel_rfl
theorem zr9(w:World):(zeroValue 9).run Tryz.prog w = .ok (encStr []) w:=by
 obtain ⟨i0,hi,hz0,hz1,hz2⟩:=info_parts info9
 simp [zeroValue,typeInfo,hi,hz0,encStr]
set_option maxHeartbeats 4000000 in
set_option maxRecDepth 1000000 in
theorem del_raw(p:List UInt8->Bool)(lb:Array Value)(blk cap:Nat)(d:Array (List UInt8))(w:World)(hH:Holds encStr w blk 0 d)(hb:blk<w.heap.size)(hsz:d.size<=1000000000)(hcap:d.size<=cap)
  (hp:∀ (W0:World) (dk:Array (List UInt8)) (x:List UInt8),w.grownBy W0 none->dk.size=d.size->Calls Tryz.prog 86 (#[encStr x]++lb) (putRow encStr W0 blk 0 dk) fun e w'=>e = .returned (.bool (p x))/\(putRow encStr W0 blk 0 dk).grownBy w' none)
  (hIF:∃k:Int,((k = -1/\∀j,j<d.size->p d[j]! =false)∨∃k0:Nat,k0<d.size/\k=(k0:Int)/\p d[k0]! =true/\∀j,j<k0->p d[j]! =false) /\
   Calls Tryz.prog 116 #[.slice (some ⟨blk,0,none⟩) d.size cap,.func (.func 86) #[] lb] w fun e w'=>e = .returned (.int .i64 k)/\w.grownBy w' none) :
  Calls Tryz.prog 85 #[.slice (some ⟨blk,0,none⟩) d.size cap,.func (.func 86) #[] lb] w fun e w'=>e = .returned (.slice (some ⟨blk,0,none⟩) (d.toList.filter fun x=>!p x).length cap) /\
   ∃W0,w.grownBy W0 none/\w'=putRow encStr W0 blk 0 ((d.toList.filter fun x=>!p x)++List.replicate (d.size - (d.toList.filter fun x=>!p x).length) []).toArray:=by
 obtain ⟨kp,HK⟩:∃kp:Nat->Bool,Hid (kp=fun j=>!p d[j]!):=⟨_,rfl⟩
 have hfil:(d.toList.filter fun x=>!p x)=keptUpTo kp d d.size:=by rw [HK.out]; exact (keptUpTo_filter (fun x=>!p x) d).symm
 rw [hfil]
 obtain ⟨k,hk,hIF⟩:=hIF
 rcases hk with ⟨rfl,hall⟩ | ⟨k0,hk0',rfl,ht,hall⟩
 ·have hkeep:∀j,j<d.size->kp j=true:=fun j hj=>by rw [HK.out]; show (!p d[j]!)=true; rw [hall j hj]; rfl
  have e3:keptUpTo kp d d.size=d.toList:=by rw [keptUpTo_all kp d _ hkeep,range_map_get]
  have HH:Aside (Holds encStr w blk 0 d):=hH
  have HB:Aside (blk<w.heap.size):=hb
  clear hH hp hb
  go_enter Tryz.func85,Tryz.ntmps85
  go_wp2_with (go_at_call 116; refine hIF.mono ?_; rintro e w' ⟨rfl,hg0⟩)
  go_ret
  rw [e3]
  refine ⟨by simp,_,hg0,?_⟩
  simp only [Array.length_toList,Nat.sub_self,List.replicate_zero,List.append_nil,Array.toArray_toList]
  exact (putRow_self encStr _ blk 0 d (holds_grown HH.out HB.out hg0)).symm
 ·have hkeep:∀j,j<k0->kp j=true:=fun j hj=>by rw [HK.out]; show (!p d[j]!)=true; rw [hall j hj]; rfl
  have hdrop:kp k0=false:=by rw [HK.out]; show (!p d[k0]!)=false; rw [ht]; rfl
  have hne1:((k0:Int) == -1)=false:=beq_eq_false_iff_ne.2 (by omega)
  have HC:Aside _:=hp
  have HH:Aside (Holds encStr w blk 0 d):=hH
  have HB:Aside (blk<w.heap.size):=hb
  clear hp hH hall ht hb
  go_enter Tryz.func85,Tryz.ntmps85
  go_wp2_with (go_at_call 116; refine hIF.mono ?_; rintro e w' ⟨rfl,hg0⟩)
  go_loopg [5,6,7] d.size (fun gg s5 s6 _ wr=>∃ (i j:Nat) (W0:World) (dk:Array (List UInt8)),s5 = .int .i64 i/\s6 = .int .i64 j/\j<=d.size/\d.size - j<=gg/\w.grownBy W0 none/\wr=putRow encStr W0 blk 0 dk/\Aside (KeptInv kp d j i dk))
  case atStart=>exact ⟨k0,k0+1,_,d,rfl,by go_num,by omega,by omega,hg0,(putRow_self encStr _ blk 0 d (holds_grown HH.out HB.out hg0)).symm,KeptInv.start hkeep hdrop⟩
  case round=>
   obtain ⟨i,j,W0,dk,rfl,rfl,hjd,hgg,hW0,hwr,I2⟩:=hrel
   have hI:=I2.out
   have hij:=hI.lt
   have hds:=hI.size
   have hHk:Holds encStr wr blk 0 dk:=by rw [hwr]; exact holds_putRow encStr _ blk 0 d dk (holds_grown HH.out HB.out hW0) hds
   have W2:Aside (wr=putRow encStr W0 blk 0 dk):=hwr
   have G2:Aside (w.grownBy W0 none):=hW0
   have HR:Aside (blk<wr.heap.size):=by show blk<wr.heap.size; rw [hwr,putRow_size]; exact Nat.lt_of_lt_of_le HB.out hW0.size
   by_cases hlt:j<d.size
   ·have hltz:(j:Int)<(d.size:Int):=by omega
    obtain ⟨cj,_⟩:=hHk j (by omega)
    obtain ⟨ci,fi⟩:=hHk i (by omega)
    rw [hI.high j (by omega)] at cj
    simp only [Nat.zero_add] at cj ci fi
    have hcall:=HC.out W0 dk d[j]! hW0 hds
    rw [<-hwr] at hcall
    clear hHk hI hwr hW0
    generalize hu:d[j]! =u at cj hcall
    generalize dk[i]! =old at ci
    have C:Aside (d[j]! =u):=hu
    clear hu
    cases hq:p u with
    | false=>
     rw [hq] at hcall
     go_wp2_with (go_at_call 86; refine hcall.mono ?_; rintro e w' ⟨rfl,hg1⟩; have hb1:=hg1.block blk HR.out (by simp); have ci:=(World.cell?_of_block (a:=⟨blk,i,none⟩) hb1).trans ci; have fi:=(World.frozen?_of_block (a:=⟨blk,i,none⟩) hb1).trans fi; have A1:Aside (wr.grownBy w' none):=hg1; clear hb1 hg1)
     go_roundg (d.size - (j+1))
     case measure=>omega
     case rel=>
      obtain ⟨W1,hW1,hw1⟩:=put_back HH.out HB.out hds G2.out (W2.out ▸ A1.out)
      refine ⟨i+1,j+1,W1,dk.setIfInBounds i u,by go_num,by go_num,by omega,Nat.le_refl _,hW1,?_,(show Aside _ from ?_)⟩
      ·have:=putRow_set encStr W1 blk 0 dk i u (by omega)
       rw [<-hw1,Nat.zero_add] at this
       exact this
      ·have:=I2.out.keep hlt (by rw [HK.out]; show (!p d[j]!)=true; rw [C.out,hq]; rfl)
       rwa [C.out] at this
    | true=>
     rw [hq] at hcall
     go_wp2_with (go_at_call 86; refine hcall.mono ?_; rintro e w' ⟨rfl,hg1⟩; have A1:Aside (wr.grownBy w' none):=hg1; clear hg1)
     go_roundg (d.size - (j+1))
     case measure=>omega
     case rel=>
      obtain ⟨W1,hW1,hw1⟩:=put_back HH.out HB.out hds G2.out (W2.out ▸ A1.out)
      exact ⟨i,j+1,W1,dk,rfl,by go_num,by omega,Nat.le_refl _,hW1,hw1,I2.out.skip (by rw [HK.out]; show (!p d[j]!)=false; rw [C.out,hq]; rfl)⟩
   ·obtain rfl:j=d.size:=by omega
    have hltz:¬(d.size:Int)<(d.size:Int):=by omega
    have hcl:∀ty,(Builtin.clear_ #[30] ty #[.slice (some ⟨blk,i,none⟩) (d.size - i) (cap - i)]).run Tryz.prog wr = .ok (.tuple #[]) (wr.setCells blk i (List.replicate (d.size - i) (encStr []))):=
     fun ty=>run_clear_slice wr _ _ ty _ u30d zr9 rfl rfl blk i _ _ (by omega) (fun t ht=>by have:=(hHk (i+t) (by omega)).1; rw [Nat.zero_add] at this; rw [this]; rfl) (fun t ht=>by have:=(hHk (i+t) (by omega)).2; rw [Nat.zero_add] at this; exact this)
    clear hHk hI hwr hW0
    go_wp2
    go_ret
    have hI:=I2.out
    refine ⟨by rw [hI.len]; rfl,W0,G2.out,?_⟩
    have h5:=putRow_setCells encStr W0 blk 0 (List.replicate (d.size - i) []) dk i (by simp; omega)
    rw [Nat.zero_add,<-W2.out,List.map_replicate] at h5
    rw [hI.len,<-hI.done [],<-h5]
open Go.Pv Go.Proofs.Tryz
set_option maxRecDepth 100000
theorem us1(m:Mo)(x:BA)(d:Df)(b:Bool)(hr:Pu 22 [.agg (moL m),.str x] (.ret (.tup [.agg (dfL d),.bool b]))):Pu 86 [.str x,.ro (moL m) 0] (rB !b):=
 pm mdL [cl hr] func86
def unR(m:Mo)(x:BA):Bool:=(rfD x (moF m)).isNone
theorem usT(m:Mo)(x:BA)(hN:(moF m).length<=1000000000):Pu 86 [.str x,.ro (moL m) 0] (.ret (.bool (unR m x))):=by
 unfold unR
 cases h:rfD x (moF m) with
 | none=>exact us1 m x _ _ (rfF m x hN h)
 | some d=>exact us1 m x _ _ (rfT m x hN d h)
abbrev xfA_I(l:List BA)(m:Mo)(dfz:BA->Bool)(j:Int)(e:Ext):S:=S.mk [(0,vL 1 (nmsC l)),(1,.v (.fn (.func 86) [] [.ro (moL m) 0])),(7,vI6 (l.length:Int)),(8,vI6 j)] [] e
inductive xfA_R where
 | e0 (i:Nat)
 | e1
def xfA_f(dfz:BA->Bool):List BA->Nat->xfA_R
 | [],i=>(xfA_R.e1)
 | el::r,i=>(if dfz el=true then (xfA_R.e0 i) else xfA_f dfz r (i+1))
def xfA_q(l:List BA)(m:Mo)(dfz:BA->Bool)(e:Ext):xfA_R->PExit × S
 | .e0 i=>(.ret,S.mk [(0,vL 1 (nmsC l)),(1,.v (.fn (.func 86) [] [.ro (moL m) 0])),(7,vI6 (l.length:Int)),(4,vI6 (i:Int))] [] e)
 | .e1=>(.exit 0,S.mk [(0,vL 1 (nmsC l)),(1,.v (.fn (.func 86) [] [.ro (moL m) 0])),(7,vI6 (l.length:Int))] [] e)
theorem xfA_lp(l:List BA)(m:Mo)(dfz:BA->Bool)(hwk:∀x:BA,Pu 86 [.str x,.ro (moL m) 0] (.ret (.bool (dfz x))))(e:Ext)(hN:l.length<=1000000000):(Ob.loop 19 (loopF f116 0) (xfA_I l m dfz 0  e) (xfA_q l m dfz e (xfA_f dfz (l) 0)).1 (xfA_q l m dfz e (xfA_f dfz (l) 0)).2).ok prog:=by
 refine rng l.length (fun j _=>xfA_I l m dfz j  e) (fun i _=>xfA_f dfz (List.drop i (l)) i) (xfA_q l m dfz e) (fun i _=>True) kR ?_ () trivial
 rintro i u hi -
 rcases Nat.lt_or_ge i (l.length) with hlt | hge
 ·have hd:=drop_at0 hlt
  refine t0 ?_;refine tp [rgNm hlt,cl (@hwk (List.getD l i nm0))] ?_;by_cases h0:dfz (List.getD l i nm0)=true
  ·exact tX mdL [bt1 h0] (xfA_R.e0 i) (by rw [hd,xfA_f,iP h0])
  ·exact tN mdL [bf1 (bFT h0),wr ((i:Int)+1)] hlt () trivial (by rw [hd,xfA_f,iN h0])
 ·have he:i=l.length:=by omega
  exact lX mdL [df ((i:Int)<(l.length:Int))] (xfA_R.e1) (by rw [he,List.drop_length,xfA_f])
section
variable (l:List BA) (m:Mo) (dfz:BA->Bool) (hwk:∀x:BA,Pu 86 [.str x,.ro (moL m) 0] (.ret (.bool (dfz x)))) (hN:l.length<=1000000000)
include l m dfz hwk hN
theorem xfL_1(hy0:Nat)(hx1:xfA_f dfz l 0=xfA_R.e0 hy0):Pu 116 [.sl 1 (nmsC l),.fn (.func 86) [] [.ro (moL m) 0]] (rI (hy0:Int)):=
 pu mdL (fun e=>[sl (nmsC_len l),lq (rz (xfA_lp (l) (m) (dfz) hwk (e) hN) hx1)]) func116
theorem xfL_2(hx0:xfA_f dfz l 0=xfA_R.e1):Pu 116 [.sl 1 (nmsC l),.fn (.func 86) [] [.ro (moL m) 0]] (rI (-1)):=
 pu mdL (fun e=>[sl (nmsC_len l),lq (rz (xfA_lp (l) (m) (dfz) hwk (e) hN) hx0)]) func116
end
open Go.Pv Go.RowKit Go.Sort
theorem pur_world{P:Program}{f:FuncId}{args:List PV}{p:PV}(h:(Ob.pur f args (.ret p)).ok P)(ha:noXs args=true){g:Gh}{W:World}{vs:List Value}(hr:RepAll g W args vs)(hf:∀b,W.heap.size<=b->g.M b=none)(hg:GOK g W) :
  Calls P f vs.toArray W fun e W'=>∃v g',e = .returned v/\Rep g' W' p v/\W.grownBy W' none:=by
 let g2:Gh:=⟨g.M,fun _=>none,fun _ _=>none⟩
 let l2:LG:=⟨fun _=>none,fun _=>none,fun _=>none⟩
 refine (h.2 [] vs g2 l2 W ⟨hr.1,fun j hj hj'=>Rep.names (g:=g) rfl (noXs_mem ha j hj) (hr.2 j hj hj')⟩ { ex:=fun x cs hx=>(by simp [lk] at hx),olt:=fun b o ho=>(by cases ho),uo:=fun p b hb=>(by cases hb),fresh:=⟨hf,fun _ _=>rfl,fun _ _ _=>rfl⟩,xlt:=fun n b hb=>(by cases hb),only:=fun b o ho=>(by cases ho),glb:=hg.names rfl }).mono ?_
 rintro en W' ⟨res,e1,g',l',⟨rfl,rfl⟩,hres,-,-,hsz,hfr,-,os,tape,output⟩
 cases en with
 | returned v=>exact ⟨v,g',rfl,hres,⟨os,tape,output,hsz,fun k hk _=>(hfr k hk rfl).1⟩⟩
 | _=>exact hres.elim
theorem pur_bool{P:Program}{f:FuncId}{args:List PV}{b:Bool}(h:(Ob.pur f args (.ret (.bool b))).ok P)(ha:noXs args=true){g:Gh}{W:World}{vs:List Value}(hr:RepAll g W args vs)(hf:∀b,W.heap.size<=b->g.M b=none)(hg:GOK g W) :
  Calls P f vs.toArray W fun e W'=>e = .returned (.bool b)/\W.grownBy W' none:=
 (pur_world h ha hr hf hg).mono fun _ _ ⟨v,g',h1,h2,h3⟩=>⟨by subst h1; cases h2; rfl,h3⟩
theorem pur_int{P:Program}{f:FuncId}{args:List PV}{k:Int}(h:(Ob.pur f args (.ret (.int .i64 k))).ok P)(ha:noXs args=true){g:Gh}{W:World}{vs:List Value}(hr:RepAll g W args vs)(hf:∀b,W.heap.size<=b->g.M b=none)(hg:GOK g W) :
  Calls P f vs.toArray W fun e W'=>e = .returned (.int .i64 k)/\W.grownBy W' none:=
 (pur_world h ha hr hf hg).mono fun _ _ ⟨v,g',h1,h2,h3⟩=>⟨by subst h1; cases h2; rfl,h3⟩
theorem xf_spec(df:ByteArray->Bool):∀ (l:List ByteArray) (i:Nat),(xfA_f df l i = .e1/\∀x∈l,df x=false)∨∃k:Nat,k<l.length/\xfA_f df l i = .e0 (i+k)/\df (l.getD k nm0)=true/\∀j,j<k->df (l.getD j nm0)=false
 | [],i => .inl ⟨rfl,by simp⟩
 | x::r,i=>by
  by_cases h:df x=true
  ·exact .inr ⟨0,by simp,by rw [xfA_f,if_pos h]; rfl,h,fun j hj=>absurd hj (Nat.not_lt_zero _)⟩
  ·rcases xf_spec df r (i+1) with ⟨h1,h2⟩ | ⟨k,h1,h2,h3,h4⟩
   ·refine .inl ⟨by rw [xfA_f,if_neg h]; exact h1,fun y hy=>?_⟩
    rcases List.mem_cons.1 hy with rfl | hy
    ·simpa using h
    ·exact h2 y hy
   ·refine .inr ⟨k+1,by simpa using h1,by rw [xfA_f,if_neg h,h2]; congr 1; omega,by simpa using h3,fun j hj=>?_⟩
    cases j with
    | zero=>simpa using h
    | succ j=>simpa using h4 j (by omega)
theorem Mono.put{g:Gh}{w W0:World}{b:Nat}{dk d:Array (List UInt8)}(hM:g.M b=some 0)(h0:w.grownBy W0 none)(hf:∀c,w.heap.size<=c->g.M c=none):Mono g w g (putRow encStr W0 b 0 dk):=by
 have hne:∀k,k≠b->(putRow encStr W0 b 0 dk).heap[k]?=W0.heap[k]?:=fun k hk=>by
  simp only [putRow,mapBlock,Array.getElem?_modify,if_neg (Ne.symm hk)]
 refine ⟨fun _ _ e=>e,fun b' o v hc hx=>⟨?_,hx⟩,fun b' cur e hb=>?_,fun _ _ _ e=>e⟩
 ·have h1:b'≠b:=by rintro rfl; have:=hx _ hM; omega
  have hl:=World.block_lt_of_cell? w _ hc
  rw [<-hc]
  exact World.cell?_of_block ((hne b' h1).trans (h0.block b' hl (by simp)))
 ·have hl:b'<w.heap.size:=(Array.getElem?_eq_some_iff.1 hb).1
  have h1:=h0.block b' hl (by simp)
  by_cases h2:b'=b
  ·subst h2
   refine ⟨putCells encStr 0 dk cur,?_,by simp [putCells]⟩
   simp only [putRow,mapBlock,Array.getElem?_modify,if_true,h1,hb,Option.map_some,onCells]
  ·exact ⟨cur,(hne b' h2).trans (h1.trans hb),rfl⟩
set_option maxHeartbeats 1000000 in
theorem del_nil(lb:Array Value)(w:World)(hIF:Calls Tryz.prog 116 #[.slice none 0 0,.func (.func 86) #[] lb] w fun e w'=>e = .returned (.int .i64 (-1))/\w.grownBy w' none) :
  Calls Tryz.prog 85 #[.slice none 0 0,.func (.func 86) #[] lb] w fun e w'=>e = .returned (.slice none 0 0)/\w.grownBy w' none:=by
 go_enter Tryz.func85,Tryz.ntmps85
 go_wp2_with (go_at_call 116; refine hIF.mono ?_; rintro e w' ⟨rfl,hg0⟩)
 go_ret
 exact ⟨rfl,hg0⟩
theorem strs_nms(l:List ByteArray):nmsC l=strs l:=nmsC_eq l
theorem flt_len(m:Mo)(l:List ByteArray):(l.filter fun x=>!unR m x).length<=l.length:=List.length_filter_le _ _
theorem flt_enc(m:Mo)(l:List ByteArray):((l.map ByteArray.toList).toArray.toList.filter fun x=>!unR m ⟨x.toArray⟩)=(l.filter fun x=>!unR m x).map ByteArray.toList:=by
 simp only [List.filter_map]
 congr 1
 refine List.filter_congr fun x _=>?_
 simp only [Function.comp]
 rw [ByteArray.toList_eq]
def delR:Code->Option (Nat × Nat × Nat × Nat × Nat × Nat × FuncId × FuncId)
 | .region _ ⟨[o0,o1,o2,o3]⟩ false=>match o0.op,o0.guard,o0.dst,o1.op,o1.guard,o1.dst,o2.op,o2.guard,o2.dst,o3.op,o3.guard,o3.dst with
  | .move (.tmp t),none,some u,.makeFunc (.func g) ⟨[]⟩ ⟨[.tmp c]⟩,none,some v,.call ⟨.value (.func f),⟨[.tmp u',.tmp v']⟩,_⟩,none,some d,.assign (.tmp d'),none,some r=>if u'=u/\v'=v/\d'=d then some (t,u,c,v,d,r,g,f) else none
  | _,_,_,_,_,_,_,_,_,_,_,_=>none
 | _=>none
theorem del_frag{id t u c v d r i n:Nat}{o0 o1 o2 o3:Oper}{ts:Array TypeId}{s:S}{cs:List LV}{m:Mo}{l:List ByteArray}
  (ho0:o0.op = .move (.tmp t)) (hg0:o0.guard=none) (hd0:o0.dst=some u) (ho1:o1.op = .makeFunc (.func 86) #[] #[.tmp c]) (hg1:o1.guard=none) (hd1:o1.dst=some v)
  (ho2:o2.op = .call ⟨.value (.func 85),#[.tmp u,.tmp v],ts⟩) (hg2:o2.guard=none) (hd2:o2.dst=some d) (ho3:o3.op = .assign (.tmp d)) (hg3:o3.guard=none) (hd3:o3.dst=some r)
  (hun:u<n) (hvn:v<n) (hdn:d<n) (hrn:r<n) (hut:u≠t) (huc:u≠c) (huv:v≠u) (hvt:v≠t) (hdt:d≠t)
  (hb:lk s.boxes i=some cs) (hq:frzL cs=some (moL m)) (hc:lk (frzT i (moL m) s.tmps) c=some (.v (.ro (moL m) 0))) (ht:lk (frzT i (moL m) s.tmps) t=some (.uniq 1000009 1 (nmsC l))) (hl:l.length<=1000000000) (hN:(moF m).length<=1000000000) :
  (Ob.frag n (.region id #[o0,o1,o2,o3] false) s .normal ⟨[(r,.v (.sl 1 (nmsC (l.filter fun x=>!unR m x))))],[],s.ext⟩).ok Tryz.prog:=by
 intro cx hcx g l0 a0 w hs00
 subst hcx
 obtain ⟨g,l0,hs0⟩:=hs00.frz hb hq
 refine wp_region_lit ?_
 refine wpList_plain hg0 fun K0 hK0=>?_
 unfold Oper.wp
 rw [show (execOp a0.eval o0).run Tryz.prog w = .ok (.value (a0.eval (.tmp t))) w by simp only [execOp,ho0]; rfl,Oper.upon_value,hd0]
 have hs1:=hs0.set (lv := .junk) (v:=a0.eval (.tmp t)) hun trivial
 have hsz0:u<a0.tmps.size:=by rw [hs0.size]; exact hun
 have hau:(a0.put (some u) (a0.eval (.tmp t))).tmps.getD u undef=a0.tmps.getD t undef:=by rw [eval_put a0 u u _ hsz0,if_pos rfl]; rfl
 have hac:(a0.put (some u) (a0.eval (.tmp t))).tmps.getD c undef=a0.tmps.getD c undef:=by rw [eval_put a0 u c _ hsz0,if_neg huc]
 have hr:=hs0.tm t _ ht
 have hrc:=hs0.tm c _ hc
 refine hK0 _ _ ?_
 generalize hA:a0.put (some u) (a0.eval (.tmp t))=a1 at hs1 hau hac
 refine wpList_plain hg1 fun K1 hK1=>?_
 unfold Oper.wp
 have hf1:(execOp a1.eval o1).run Tryz.prog w = .ok (.value (.func (.func 86) #[] #[a0.tmps.getD c undef])) w:=by
  have e1:a1.eval (.tmp c)=a0.tmps.getD c undef:=hac
  simp [execOp,ho1,Instr.makeFunc,e1]
 rw [hf1,Oper.upon_value,hd1]
 have hs2:=hs1.set (lv := .junk) (v := .func (.func 86) #[] #[a0.tmps.getD c undef]) hvn trivial
 have hsz1:v<a1.tmps.size:=by rw [hs1.size]; exact hvn
 have hbv:(a1.put (some v) (.func (.func 86) #[] #[a0.tmps.getD c undef])).tmps.getD v undef = .func (.func 86) #[] #[a0.tmps.getD c undef]:=by rw [eval_put a1 v v _ hsz1,if_pos rfl]
 have hbu:(a1.put (some v) (.func (.func 86) #[] #[a0.tmps.getD c undef])).tmps.getD u undef=a0.tmps.getD t undef:=by rw [eval_put a1 v u _ hsz1,if_neg huv,hau]
 refine hK1 _ _ ?_
 generalize hA1:a1.put (some v) (.func (.func 86) #[] #[a0.tmps.getD c undef])=a2 at hs2 hbv hbu
 refine wpList_plain hg2 fun K2 hK2=>?_
 unfold Oper.wp
 have hf2:∀x,a0.tmps.getD t undef=x->(execOp a2.eval o2).run Tryz.prog w = .ok (.enter 85 #[x,.func (.func 86) #[] #[a0.tmps.getD c undef]]) w:=by
  intro x hx
  have e1:a2.eval (.tmp u)=x:=hbu.trans hx
  have e3:a2.eval (.tmp v) = .func (.func 86) #[] #[a0.tmps.getD c undef]:=hbv
  have e2:a2.eval (.func 85) = .func (.func 85) #[] #[]:=rfl
  simp only [execOp,ho2,resolve,e2,Deferred.ofValue,Sem.run_bind,Sem.run_pure,Result.andThen_ok,invoke,List.map_toArray,List.map_cons,List.map_nil,e1,e3]
  exact run_callFunc (by kernel_rfl)
 generalize hpv:a0.tmps.getD c undef=pv at hrc hf2
 have hFn:∀ {g':Gh} {W:World},Rep g' W (.ro (moL m) 0) pv->Rep g' W (.fn (.func 86) [] [.ro (moL m) 0]) (.func (.func 86) #[] #[pv]):=fun h => .fn _ _ _ [] [pv] rfl rfl (fun j hj=>by simp at hj) (fun j hj hj'=>by
  have:j=0:=by simpa using hj
  subst this
  exact h)
 have hnx:noXs [PV.fn (.func 86) [] [.ro (moL m) 0]]=true:=by
  show ((true&&(noXs (moL m)&&true))&&true)=true
  rw [Mo.nx]; rfl
 have fin:∀g l' a3 W (F:List ByteArray),a3.eval (.tmp d)=a3.tmps.getD d undef->Sim cx ⟨[(d,.v (.sl 1 (nmsC F)))],[],s.ext⟩ g l' a3 W->F=(l.filter fun x=>!unR m x)->wpList Tryz.prog #[o0,o1,o2,o3] (post cx fun pe' s'=>pe' = .normal/\s'=⟨[(r,.v (.sl 1 (nmsC (l.filter fun x=>!unR m x))))],[],s.ext⟩) [o3] a3 W:=by
  intro g l' a3 W F he hs hF
  refine wpList_plain hg3 fun K3 hK3=>?_
  unfold Oper.wp
  rw [show (execOp a3.eval o3).run Tryz.prog W = .ok (.value (a3.eval (.tmp d))) W by simp only [execOp,ho3]; rfl,Oper.upon_value,hd3]
  subst hF
  have h1:=hs.tm d _ (show lk _ d=some _ from lk_put_same [] d _)
  have h2:=hs.set (d:=r) (lv := .v (.sl 1 (nmsC (l.filter fun x=>!unR m x)))) (v:=a3.eval (.tmp d)) hrn (by rw [he]; exact h1)
  refine hK3 _ _ (PL_nil (Q:=fun pe' s'=>pe' = .normal/\s'=⟨[(r,.v (.sl 1 (nmsC (l.filter fun x=>!unR m x))))],[],s.ext⟩) ⟨rfl,rfl⟩ g l' _ W (h2.leF (fun k x hk=>?_) (fun k x hk=>by cases hk) (same_le WLs.refl _)))
  simp only [lk] at hk
  split at hk
  ·rename_i e0; subst e0; injection hk with hk; subst hk; exact .inr ⟨_,lk_put_same _ _ _,WL.refl _⟩
  ·cases hk
 have cut:∀ {g l' a3 W} {F:List ByteArray} {T B E},Sim cx (S.mk (put T d (.v (.sl 1 (nmsC F)))) B E) g l' a3 W->Sim cx ⟨[(d,.v (.sl 1 (nmsC F)))],[],E⟩ g l' a3 W:=fun h=>h.leF (fun k x hk=>by
  simp only [lk] at hk
  split at hk
  ·rename_i e0; subst e0; injection hk with hk; subst hk; exact .inr ⟨_,lk_put_same _ _ _,WL.refl _⟩
  ·cases hk) (fun k x hk=>by cases hk) (same_le WLs.refl _)
 have hfr:=hs0.fresh.1
 have hgl:=hs0.hist.glb
 have hev:∀ (val:Value),(a2.put (some d) val).eval (.tmp d)=(a2.put (some d) val).tmps.getD d undef:=fun _=>rfl
 have hsz2:d<a2.tmps.size:=by rw [hs2.size]; exact hdn
 have hdv:∀ (val:Value),(a2.put (some d) val).tmps.getD d undef=val:=fun val=>by rw [eval_put a2 d d _ hsz2,if_pos rfl]
 rcases hr with (⟨hv,hes⟩ | ⟨a',-,-,hlt⟩) | ⟨b,off,cap,cur,hv,hU,hM,hh,hcs,hrow⟩
 ·have hl0:l=[]:=by cases l with | nil=>rfl | cons x r=>simp [nmsC] at hes
  subst hl0
  rw [hf2 _ hv,Oper.upon_enter]
  have hI:=pur_int (xfL_2 [] m (unR m) (fun x=>usT m x hN) (by simp) rfl) (by show (noXss []&&noXs [PV.fn (.func 86) [] [.ro (moL m) 0]])=true; rw [hnx]; rfl) (g:=g) (W:=w) (vs:=[.slice none 0 0,.func (.func 86) #[] #[pv]]) ⟨rfl,fun j hj hj'=>by
   rcases j with _ | _ | j
   ·exact .slnil 1
   ·exact hFn hrc
   ·simp at hj'; omega⟩ hfr hgl
  refine (del_nil #[pv] w hI).mono ?_
  rintro en W ⟨rfl,hg⟩
  obtain ⟨hs3,-⟩:=hs2.world hg.size (fun k hk=>hg.block k hk (by simp)) hg.os hg.tape hg.output
  have hs4:=hs3.set (d:=d) (lv := .v (.sl 1 (nmsC []))) (v := .slice none 0 0) hdn (.slnil 1)
  rw [hd2]
  exact hK2 _ _ (fin _ _ _ _ [] (hev _) (cut hs4) rfl)
 ·exact absurd hlt (by decide)
 ·have he:¬1000009<1000000:=by decide
  obtain ⟨h0,hrw⟩:=hrow.2 he
  subst h0
  clear hrow
  have hrow:=hrw
  clear hrw
  rw [mkE_ge he] at hM
  have hh:w.heap[b]?=some (.cells cur 9 (0,0)):=hh
  rw [strs_nms,strs_len] at hv
  rw [strs_nms] at hrow
  have htk:=row_strs hrow hcs
  obtain ⟨hle,hcap,hes,hrr⟩:=hrow
  rw [strs_len] at hle
  have hlt:b<w.heap.size:=(Array.getElem?_eq_some_iff.1 hh).1
  have hlm:(l.map ByteArray.toList).length=l.length:=by simp
  have hdz:(l.map ByteArray.toList).toArray.size=l.length:=by simp
  have hH:Holds encStr w b 0 (l.map ByteArray.toList).toArray:=holds_of_block hh (by rw [hlm,htk,map_enc])
  have hbk:∀x:ByteArray,(⟨x.toList.toArray⟩:ByteArray)=x:=fun x=>by rw [ByteArray.toList_eq]
  have hget:∀j,j<l.length->(⟨((l.map ByteArray.toList).toArray[j]!).toArray⟩:ByteArray)=l.getD j nm0:=fun j hj=>by
   rw [getElem!_pos _ j (by simpa using hj)]
   simp only [List.getElem_toArray,List.getElem_map]
   rw [hbk]
   simp [List.getD,hj]
  -- the search
  let g3:Gh:=⟨fun x=>if x=b then none else g.M x,g.X,g.Y⟩
  have hm3:Mono g w g3 w:=⟨fun _ _ e=>e,fun b' o v hc hf=>⟨hc,fun k hk=>by
   simp only [g3] at hk
   split at hk
   ·cases hk
   ·exact hf k hk⟩,fun b' c e2 hb'=>⟨c,hb',rfl⟩,fun _ _ _ h=>h⟩
  have hcl:∀j,j<l.length->cur[j]?=some (cur.getD j undef):=fun j hj=>by
   have:j<cur.size:=by rw [hcs]; omega
   simp [this]
  have hrs:Rep g3 w (.sl 1 (nmsC l)) (.slice (some ⟨b,0,none⟩) l.length cap):=by
   rw [strs_nms]
   have hfl:=flatten_length 1 (strs l) hes
   rw [show l.length=(strs l).length from (strs_len l).symm]
   refine Rep.of_flat (xs:=(List.range l.length).map fun j=>cur.getD j undef) (by rw [strs_len]; exact hle) hcap hes ⟨by simp [strs_flat],fun j hj hj'=>?_⟩ fun j u hu=>?_
   ·simp only [List.getElem_map,List.getElem_range]
    exact (hrr j hj).2.mono hm3
   ·have hj:j<l.length:=by
     have:=(List.getElem?_eq_some_iff.1 hu).1
     simpa using this
    have e1:u=cur.getD j undef:=by simpa [List.getElem?_range hj] using hu.symm
    subst e1
    refine ⟨?_,fun k hk=>?_,(hrr j (by rw [strs_flat]; simpa using hj)).1⟩
    ·rw [addr0]
     simp only [World.cell?,hh]
     simpa using hcl j hj
    ·simp only [g3,if_true] at hk
     cases hk
  have hfr3:∀b',w.heap.size<=b'->g3.M b'=none:=fun b' hb'=>by
   simp only [g3]
   split
   ·rfl
   ·exact hfr b' hb'
  have hra:RepAll g3 w [.sl 1 (nmsC l),.fn (.func 86) [] [.ro (moL m) 0]] [.slice (some ⟨b,0,none⟩) l.length cap,.func (.func 86) #[] #[pv]]:=⟨rfl,fun j hj hj'=>by
   rcases j with _ | _ | j
   ·exact hrs
   ·exact hFn (hrc.mono hm3)
   ·simp at hj'; omega⟩
  have hnx2:noXs [PV.sl 1 (nmsC l),PV.fn (.func 86) [] [.ro (moL m) 0]]=true:=by
   show (noXss (nmsC l)&&noXs [PV.fn (.func 86) [] [.ro (moL m) 0]])=true
   rw [hnx,nms_nx]; rfl
  have hIF:∃k:Int,((k = -1/\∀j,j<(l.map ByteArray.toList).toArray.size->unR m ⟨((l.map ByteArray.toList).toArray[j]!).toArray⟩=false)∨∃k0:Nat,k0<(l.map ByteArray.toList).toArray.size/\k=(k0:Int)/\unR m ⟨((l.map ByteArray.toList).toArray[k0]!).toArray⟩=true/\∀j,j<k0->unR m ⟨((l.map ByteArray.toList).toArray[j]!).toArray⟩=false) /\
    Calls Tryz.prog 116 #[.slice (some ⟨b,0,none⟩) (l.map ByteArray.toList).toArray.size cap,.func (.func 86) #[] #[pv]] w fun e w'=>e = .returned (.int .i64 k)/\w.grownBy w' none:=by
   rw [hdz]
   rcases xf_spec (unR m) l 0 with ⟨h1,h2⟩ | ⟨k,h1,h2,h3,h4⟩
   ·exact ⟨-1,.inl ⟨rfl,fun j hj=>by rw [hget j hj]; exact h2 _ (by simp [List.getD,hj])⟩,pur_int (xfL_2 l m (unR m) (fun x=>usT m x hN) hl h1) hnx2 hra hfr3 (hgl.mono hm3)⟩
   ·exact ⟨k,.inr ⟨k,h1,rfl,by rw [hget k h1]; exact h3,fun j hj=>by rw [hget j (by omega)]; exact h4 j hj⟩,pur_int (xfL_1 l m (unR m) (fun x=>usT m x hN) hl k (by rw [h2]; congr 1; omega)) hnx2 hra hfr3 (hgl.mono hm3)⟩
  have hp:∀ (W0:World) (dk:Array (List UInt8)) (x:List UInt8),w.grownBy W0 none->dk.size=(l.map ByteArray.toList).toArray.size->Calls Tryz.prog 86 (#[encStr x] ++ #[pv]) (putRow encStr W0 b 0 dk) fun e w'=>e = .returned (.bool (unR m ⟨x.toArray⟩))/\(putRow encStr W0 b 0 dk).grownBy w' none:=fun W0 dk x h0 hs=>by
   have hm4:=Mono.put (dk:=dk) (d:=dk) hM h0 hfr
   refine pur_bool (usT m ⟨x.toArray⟩ hN) (by show (true&&(noXs (moL m)&&true))=true; rw [Mo.nx]; rfl) (g:=g) (vs:=[encStr x,pv]) ⟨rfl,fun j hj hj'=>?_⟩ (fun b' hb'=>hfr b' (by rw [putRow_size] at hb'; exact Nat.le_trans h0.size hb')) (hgl.mono hm4)
   rcases j with _ | _ | j
   ·exact .str _
   ·exact hrc.mono hm4
   ·simp at hj'; omega
  rw [hf2 _ hv,Oper.upon_enter]
  have hD:=del_raw (fun x=>unR m ⟨x.toArray⟩) #[pv] b cap (l.map ByteArray.toList).toArray w hH hlt (by rw [hdz]; exact hl) (by rw [hdz]; exact hle) hp hIF
  rw [flt_enc,hdz] at hD
  refine hD.mono ?_
  rintro en W ⟨rfl,W0,hW0,rfl⟩
  obtain ⟨F,hF⟩:∃F,F=(l.filter fun x=>!unR m x):=⟨_,rfl⟩
  rw [<-hF]
  have hFl:F.length<=l.length:=by rw [hF]; exact flt_len m l
  have hFm:(F.map ByteArray.toList).length=F.length:=by simp
  generalize hts:F.map ByteArray.toList++List.replicate (l.length - (F.map ByteArray.toList).length) []=ts
  have htl:ts.length=l.length:=by rw [<-hts]; simp; omega
  have hgw:w.grownBy (putRow encStr W0 b 0 ts.toArray) (some b):=⟨hW0.os,hW0.tape,hW0.output,by rw [putRow_size]; exact hW0.size,fun k hk hne=>by
   have hkb:k≠b:=fun e=>hne (by rw [e])
   have:(putRow encStr W0 b 0 ts.toArray).heap[k]?=W0.heap[k]?:=by simp only [putRow,mapBlock,Array.getElem?_modify,if_neg (Ne.symm hkb)]
   exact this.trans (hW0.block k hk (by simp))⟩
  have hh2:(putRow encStr W0 b 0 ts.toArray).heap[b]?=some (.cells (putCells encStr 0 ts.toArray cur) 9 (0,0)):=by
   simp only [putRow,mapBlock,Array.getElem?_modify,if_true,hW0.block b hlt (by simp),hh,Option.map_some,onCells]
  have htk2:(putCells encStr 0 ts.toArray cur).toList.take F.length=F.map Value.string:=by
   have h1:=take_putCells cur ts (by rw [htl,hcs]; omega)
   have h2:=congrArg (List.take F.length) h1
   rw [List.take_take,Nat.min_eq_left (by omega)] at h2
   rw [h2,<-hts,List.map_append,List.take_append_of_le_length (by simp),List.take_of_length_le (by simp),map_enc]
  have hs3:=hs2.know (t:=t) (lv := .junk) trivial
  have hs4:=hs3.set (d:=d) (lv := .junk) (v := .slice (some ⟨b,0,none⟩) (F.map ByteArray.toList).length cap) hdn trivial
  have hs5:=hs4.reown (p := .t t) (q := .t d) hU (fun e z es h=>by
   simp only [lk_put,if_neg hdt,if_true] at h
   injection h with h; cases h) (fun e z es h=>by
   simp only [lk_put,if_true] at h
   injection h with h; cases h)
  obtain ⟨g',l',hs6⟩:=hs5.turn (t:=d) (z:=1) (es':=nmsC F) (cap:=cap) (cur':=putCells encStr 0 ts.toArray cur) (by rw [hdv,nmsC_len,hFm]) (by simp [updU]) hM hh hgw hh2 (by simp [putCells]) hcs (by rw [strs_nms]; exact strs_row (by omega) hcap htk2)
  rw [hd2]
  exact hK2 _ _ (fin _ _ _ _ F (hev _) (cut hs6) hF)
theorem del_code{c:Code}{t u cp v d r i n:Nat}{s:S}{cs:List LV}{m:Mo}{l:List BA}(hc:delR c=some (t,u,cp,v,d,r,86,85))(hun:u<n)(hvn:v<n)(hdn:d<n)(hrn:r<n)(hut:u≠t)(huc:u≠cp)(huv:v≠u)(hvt:v≠t)(hdt:d≠t)
  (hb:lk s.boxes i=some cs) (hq:frzL cs=some (moL m)) (hcp:lk (frzT i (moL m) s.tmps) cp=some (.v (.ro (moL m) 0))) (ht:lk (frzT i (moL m) s.tmps) t=some (.uniq 1000009 1 (nmsC l))) (hl:l.length<=1000000000) (hN:(moF m).length<=1000000000) :
  (Ob.frag n c s .normal ⟨[(r,.v (.sl 1 (nmsC (l.filter fun x=>!unR m x))))],[],s.ext⟩).ok prog:=by
 unfold delR at hc
 split at hc
 ·split at hc
  ·rename_i h1 h2 h3 h4 h5 h6 h7 h8 h9 h10 h11 h12
   split at hc
   ·rename_i hu
    obtain ⟨e1,e2,e3⟩:=hu
    subst e1 e2 e3
    simp only [Option.some.injEq,Prod.mk.injEq] at hc
    obtain ⟨rfl,rfl,rfl,rfl,rfl,rfl,rfl,rfl⟩:=hc
    exact del_frag h1 h2 h3 h4 h5 h6 h7 h8 h9 h10 h11 h12 hun hvn hdn hrn hut huc huv hvt hdt hb hq hcp ht hl hN
   ·cases hc
  ·cases hc
 ·cases hc
theorem usD(m:Mo)(l:List BA)(xe:Ext)(hl:l.length<=1000000000)(hN:(moF m).length<=1000000000):(Ob.frag 73 (regF f50 22) ⟨[(3,.lp 3 0),(9,.uniq 1000009 1 (nmsC l))],[(3,moV m)],xe⟩ .normal ⟨[(6,.v (.sl 1 (nmsC (l.filter fun x=>!unR m x))))],[],xe⟩).ok prog:=
 del_code (i:=3) (t:=9) (u:=70) (cp:=3) (v:=71) (d:=72) (r:=6) (cs:=moV m) kR dD dD dD dD dD dD dD dD dD rfl rfl rfl rfl hl hN
theorem ccL(l:List BA)(s:BA)(hn:l.length<=1000000000):Pu 51 [.sl 1 (nmsC l),.str s] (rB (decide (plc s l>=0))):=
 pm mdL [cl (@sIndexT l s hn)] func51
def inN(s:BA)(l:List BA):Bool:=decide (plc s l>=0)
theorem inN_iff(s:BA)(l:List BA):inN s l=true↔s∈l:=by
 have h2:=plc_neg s l
 simp only [inN,decide_eq_true_eq]
 constructor
 ·intro h
  by_cases hs:s∈l
  ·exact hs
  ·have:=h2.2 hs; omega
 ·intro h
  by_cases hs:plc s l<0
  ·exact absurd h (h2.1 hs)
  ·omega
theorem ccT(l:List BA)(s:BA)(hn:l.length<=1000000000):Pu 51 [.sl 1 (nmsC l),.str s] (.ret (.bool (inN s l))):=ccL l s hn
def mdU:Md:=⟨fun _=>some false,fun t=>t==3000000+83||t==1000022⟩
abbrev u0I(m:Mo)(d:Df)(b:Bool)(fs:List BA)(l:List BA)(j:Int)(xe:Ext):S:=⟨[(2,.v (.bool b)),(3,.lp 3 0),(7,.lp 7 0),(9,.uniq 1000009 1 (nmsC l)),(26,.v (.sl 1 (nmsC fs))),(27,.v (.int .i64 fs.length)),(28,.v (.int .i64 j))],[(3,moV m),(7,dfV d)],xe⟩
abbrev u0A_I(m:Mo)(d:Df)(b:Bool)(fs:List BA)(xe:Ext)(j:Int)(l:List BA)  : S:=S.mk [(2,.v (.bool b)),(3,.lp 3 0),(7,.lp 7 0),(9,.uniq 1000009 1 (nmsC l)),(26,vL 1 (nmsC fs)),(27,vI6 (fs.length:Int)),(28,vI6 j)] [(3,moV m),(7,dfV d)] xe
def u0A_f(d:Df):List BA->(List BA)->(List BA)
 | [],l=>(l)
 | el::r,l=>(if inN el (dfP d)=false then u0A_f d r (l++[el]) else u0A_f d r (l))
def u0A_q(m:Mo)(d:Df)(b:Bool)(fs:List BA)(xe:Ext)(p:(List BA)):PExit × S:=(.exit 0,S.mk [(2,.v (.bool b)),(3,.lp 3 0),(7,.lp 7 0),(9,.uniq 1000009 1 (nmsC p)),(26,vL 1 (nmsC fs)),(27,vI6 (fs.length:Int))] [(3,moV m),(7,dfV d)] xe)
theorem u0A(m:Mo)(d:Df)(b:Bool)(fs:List BA)(hp:(dfP d).length<=1000000000)(hb:fs.length<=1000000000)(xe:Ext)(l:List BA)(hN:fs.length<=1000000000)(hv:List.length l<=0):(Ob.loop 73 (loopF f50 0) (u0A_I m d b fs xe 0 l) (u0A_q m d b fs xe  (u0A_f d (fs)  l)).1 (u0A_q m d b fs xe  (u0A_f d (fs)  l)).2).ok prog:=by
 refine rng fs.length (fun j l=>u0A_I m d b fs xe j l) (fun i l=>u0A_f d (List.drop i (fs))  l) (u0A_q m d b fs xe) (fun i l=>(l.length<=i)) kR ?_ l (by first | exact hv | omega)
 rintro i l hi hv
 try simp only at hv
 rcases Nat.lt_or_ge i (fs.length) with hlt | hge
 ·have hd:=drop_at0 hlt
  refine t0 ?_;refine tp [rgNm hlt,cl (@ccT (dfP d) (List.getD fs i nm0) hp)] ?_;by_cases h0:inN (List.getD fs i nm0) (dfP d)=false
  ·exact tS mdU [bt1 (bnT h0),am (List.length (nmsC l++[[.str (List.getD fs i nm0)]]) * (15+1)<=140737488355328) (by (simp only [List.length_append,List.length_cons,List.length_nil,nmsC_len]; omega)),wr ((i:Int)+1)] [2,3,7,9,26,27,28] [3,7] hlt (l++[List.getD fs i nm0]) (S.mk [(2,.v (.bool b)),(3,.lp 3 0),(7,.lp 7 0),(9,.uniq 1000009 1 (nmsC l++[[PV.str (List.getD fs i nm0)]])),(26,vL 1 (nmsC fs)),(27,vI6 (fs.length:Int)),(28,vI6 ((i:Int)+1))] [(3,moV m),(7,dfV d)] xe) ⟨⟨W,W,W,(.inl (by first | (simp only [List.nil_append,nmsC_app,nmsC_snoc,Pr.cs_snoc,Tp.cs_snoc,Ex.cs_snoc,Vr.cs_snoc,Df.cs_snoc]; done) | (simp only [List.nil_append,nmsC_app,nmsC_snoc,Pr.cs_snoc,Tp.cs_snoc,Ex.cs_snoc,Vr.cs_snoc,Df.cs_snoc]; rfl))),W,W,W,tVv⟩,⟨Ws,Ws,tVv⟩,rfl⟩ (by first | assumption | omega | (simp only [List.length_append,List.length_cons,List.length_nil] at *; omega) | simp_all) (by rw [hd,u0A_f,iP h0])
  ·exact tN mdU [bf1 (bnF (bTF h0)),wr ((i:Int)+1)] hlt (l) (by first | assumption | omega | (simp only [List.length_append,List.length_cons,List.length_nil] at *; omega) | simp_all) (by rw [hd,u0A_f,iN h0])
 ·have he:i=fs.length:=by omega
  exact lX mdU [df ((i:Int)<(fs.length:Int))] (l) (by rw [he,List.drop_length,u0A_f])
abbrev u2I(m:Mo)(q:List Pr)(l:List BA)(j:Int)(xe:Ext):S:=⟨[(3,.lp 3 0),(9,.uniq 1000009 1 (nmsC l)),(50,.v (.sl 4 (Pr.cs q))),(51,.v (.int .i64 q.length)),(52,.v (.int .i64 j))],[(3,moV m)],xe⟩
abbrev u1I(m:Mo)(q:List Pr)(i0:Int)(a:List Pr)(l:List BA)(j:Int)(xe:Ext):S:=⟨[(3,.lp 3 0),(9,.uniq 1000009 1 (nmsC l)),(50,.v (.sl 4 (Pr.cs q))),(51,.v (.int .i64 q.length)),(52,.v (.int .i64 i0)),(57,.v (.sl 4 (Pr.cs a))),(58,.v (.int .i64 a.length)),(59,.v (.int .i64 j))],[(3,moV m)],xe⟩
abbrev u1A_I(m:Mo)(q:List Pr)(i0:Int)(a:List Pr)(l0:List BA)(xe:Ext)(j:Int)(l:List BA)  : S:=S.mk [(3,.lp 3 0),(9,.uniq 1000009 1 (nmsC l)),(50,vL 4 (Pr.cs q)),(51,vI6 (q.length:Int)),(52,vI6 i0),(57,vL 4 (Pr.cs a)),(58,vI6 (a.length:Int)),(59,vI6 j)] [(3,moV m)] xe
def u1A_f  : List Pr->(List BA)->(List BA)
 | [],l=>(l)
 | el::r,l=>u1A_f  r (l++[prNm el])
def u1A_q(m:Mo)(q:List Pr)(i0:Int)(a:List Pr)(l0:List BA)(xe:Ext)(p:(List BA)):PExit × S:=(.exit 4,S.mk [(3,.lp 3 0),(9,.uniq 1000009 1 (nmsC p)),(50,vL 4 (Pr.cs q)),(51,vI6 (q.length:Int)),(52,vI6 i0),(57,vL 4 (Pr.cs a)),(58,vI6 (a.length:Int))] [(3,moV m)] xe)
theorem u1A(m:Mo)(q:List Pr)(i0:Int)(a:List Pr)(l0:List BA)(hb:l0.length+a.length<=1000000000)(xe:Ext)(l:List BA)(hN:a.length<=1000000000)(hv:List.length l<=List.length l0+0):(Ob.loop 73 (loopF f50 2) (u1A_I m q i0 a l0 xe 0 l) (u1A_q m q i0 a l0 xe  (u1A_f  (a)  l)).1 (u1A_q m q i0 a l0 xe  (u1A_f  (a)  l)).2).ok prog:=by
 refine rng a.length (fun j l=>u1A_I m q i0 a l0 xe j l) (fun i l=>u1A_f  (List.drop i (a))  l) (u1A_q m q i0 a l0 xe) (fun i l=>(l.length<=l0.length+i)) kR ?_ l (by first | exact hv | omega)
 rintro i l hi hv
 try simp only at hv
 rcases Nat.lt_or_ge i (a.length) with hlt | hge
 ·have hd:=drop_at hlt
  exact lS mdU [rgPr hlt,am (List.length (nmsC l++[[.str (prNm (List.getD a i default))]]) * (15+1)<=140737488355328) (by (simp only [List.length_append,List.length_cons,List.length_nil,nmsC_len]; omega)),wr ((i:Int)+1)] [3,9,50,51,52,57,58,59] [3] hlt (l++[prNm (List.getD a i default)]) (S.mk [(3,.lp 3 0),(9,.uniq 1000009 1 (nmsC l++[[PV.str (prNm (List.getD a i default))]])),(50,vL 4 (Pr.cs q)),(51,vI6 (q.length:Int)),(52,vI6 i0),(57,vL 4 (Pr.cs a)),(58,vI6 (a.length:Int)),(59,vI6 ((i:Int)+1))] [(3,moV m)] xe) ⟨⟨W,(.inl (by first | (simp only [List.nil_append,nmsC_app,nmsC_snoc,Pr.cs_snoc,Tp.cs_snoc,Ex.cs_snoc,Vr.cs_snoc,Df.cs_snoc]; done) | (simp only [List.nil_append,nmsC_app,nmsC_snoc,Pr.cs_snoc,Tp.cs_snoc,Ex.cs_snoc,Vr.cs_snoc,Df.cs_snoc]; rfl))),W,W,W,W,W,W,tVv⟩,⟨Ws,tVv⟩,rfl⟩ (by first | assumption | omega | (apply gPr <;> first | assumption | omega | decide) | (simp only [List.length_append,List.length_cons,List.length_nil] at *; omega) | simp_all) (by rw [hd,u1A_f])
 ·have he:i=a.length:=by omega
  exact lX mdU [df ((i:Int)<(a.length:Int))] (l) (by rw [he,List.drop_length,u1A_f])
theorem u1A_eq:∀ (a:List Pr) (l:List BA),u1A_f a l=l++a.map prNm
 | [],l=>by simp [u1A_f]
 | x::r,l=>by rw [u1A_f,u1A_eq r]; simp
theorem u1T(m:Mo)(q:List Pr)(i0:Int)(a:List Pr)(l:List BA)(xe:Ext)(hb:l.length+a.length<=1000000000):(Ob.loop 73 (loopF f50 2) (u1I m q i0 a l 0 xe) (u1A_q m q i0 a l xe (l++a.map prNm)).1 (u1A_q m q i0 a l xe (l++a.map prNm)).2).ok prog:=by
 have:=u1A m q i0 a l hb xe l oM oM
 rw [u1A_eq] at this
 exact this
abbrev u2A_I(m:Mo)(q:List Pr)(l0:List BA)(dg:Pr->List Pr)(xe:Ext)(j:Int)(l:List BA)  : S:=S.mk [(3,.lp 3 0),(9,.uniq 1000009 1 (nmsC l)),(50,vL 4 (Pr.cs q)),(51,vI6 (q.length:Int)),(52,vI6 j)] [(3,moV m)] xe
def u2A_f(dg:Pr->List Pr):List Pr->(List BA)->(List BA)
 | [],l=>(l)
 | el::r,l=>u2A_f dg r (l++List.map prNm (dg el))
def u2A_q(m:Mo)(q:List Pr)(l0:List BA)(dg:Pr->List Pr)(xe:Ext)(p:(List BA)):PExit × S:=(.exit 2,S.mk [(3,.lp 3 0),(9,.uniq 1000009 1 (nmsC p)),(50,vL 4 (Pr.cs q)),(51,vI6 (q.length:Int))] [(3,moV m)] xe)
theorem u2A(m:Mo)(q:List Pr)(l0:List BA)(dg:Pr->List Pr)(hwk:∀w:Pr,w∈q->Pu 84 [.agg (prL w)] (.ret (.sl 4 (Pr.cs (dg w)))))(xe:Ext)(l:List BA)(hN:q.length<=1000000000)(hv:List.length l+apN dg (List.drop 0 q)<=1000000000):(Ob.loop 73 (loopF f50 1) (u2A_I m q l0 dg xe 0 l) (u2A_q m q l0 dg xe  (u2A_f dg (q)  l)).1 (u2A_q m q l0 dg xe  (u2A_f dg (q)  l)).2).ok prog:=by
 refine rng q.length (fun j l=>u2A_I m q l0 dg xe j l) (fun i l=>u2A_f dg (List.drop i (q))  l) (u2A_q m q l0 dg xe) (fun i l=>(l.length+apN dg (q.drop i)<=1000000000)) kR ?_ l (by first | exact hv | omega)
 rintro i l hi hv
 try simp only at hv
 rcases Nat.lt_or_ge i (q.length) with hlt | hge
 ·have hd:=drop_at hlt
  exact lN mdU [rgPr hlt,cl (@hwk (List.getD q i default) (by first | exact getD_mem hlt | simp_all)),sl (Pr.cs_len (dg (List.getD q i default))),lq (@u1T m q ((i:Int)) (dg (List.getD q i default)) l xe (by (apply ab_get <;> first | assumption | omega | decide))),wr ((i:Int)+1)] hlt (l++List.map prNm (dg (List.getD q i default))) (by first | assumption | omega | (apply gPr <;> first | assumption | omega | decide) | (apply ab_get <;> first | assumption | omega | decide) | (apply ab_inv <;> first | assumption | omega | decide) | (simp only [List.length_append,List.length_cons,List.length_nil] at *; omega) | simp_all) (by rw [hd,u2A_f])
 ·have he:i=q.length:=by omega
  exact lX mdU [df ((i:Int)<(q.length:Int))] (l) (by rw [he,List.drop_length,u2A_f])
theorem u2A_eq(dg:Pr->List Pr):∀ (q:List Pr) (l:List BA),u2A_f dg q l=l++q.flatMap (fun w=>(dg w).map prNm)
 | [],l=>by simp [u2A_f]
 | x::r,l=>by rw [u2A_f,u2A_eq dg r]; simp
theorem u0A_eq(d:Df):∀ (fs l:List BA),u0A_f d fs l=l++fs.filter fun x=>!inN x (dfP d)
 | [],l=>by simp [u0A_f]
 | x::r,l=>by
  rw [u0A_f]
  by_cases h:inN x (dfP d)=true
  ·simp [h,u0A_eq d r]
  ·simp [h,u0A_eq d r]
theorem usN(m:Mo)(x:BA)(b:Bool)(hr:Pu 22 [.agg (moL m),.str x] (.ret (.tup [.agg (dfL default),.bool false]))):Pu 50 [.agg (moL m),.str x,.bool b] (.ret (.sl 1 [])):=
 Ob.pur_wk (Wk.n 1) (pm mdU [cl hr,bt true] func50)
theorem usA1(m:Mo)(x:BA)(d:Df)(fs l1:List BA)(hr:Pu 22 [.agg (moL m),.str x] (.ret (.tup [.agg (dfL d),.bool true])))(hf:Pu 82 [.agg (exL (dfB d))] (.ret (.sl 1 (nmsC fs))))(h0:∀xe,(Ob.loop 73 (loopF f50 0) (u0I m d false fs [] 0 xe) (.exit 0) ⟨[(2,.v (.bool false)),(3,.lp 3 0),(7,.lp 7 0),(9,.uniq 1000009 1 (nmsC l1))],[(3,moV m),(7,dfV d)],xe⟩).ok prog)(hl1:l1.length<=1000000000)(hN:(moF m).length<=1000000000):Pu 50 [.agg (moL m),.str x,.bool false] (.ret (.sl 1 (nmsC (List.filter (fun x=>!unR m x) l1)))):=
 pu mdU (fun e=>[cl hr,bf false,cl hf,sl (nmsC_len fs),lp (S.mk [(2,.v (.bool false)),(3,.lp 3 0),(7,.lp 7 0),(9,.v .nilsl),(26,vL 1 (nmsC fs)),(27,vI6 (fs.length:Int)),(28,vI6 0)] [(3,moV m),(7,dfV d)] e) (@h0 e) ⟨⟨W,W,W,Wq,W,W,W,tVv⟩,⟨⟨W,W,W,W,W,W,tVv⟩,⟨W,W,W,W,W,W,W,W,W,W,W,W,W,W,W,W,W,W,W,W,W,W,W,W,W,tVv⟩,tVv⟩,rfl⟩,bf false,lg (@usD m l1 e hl1 hN)]) func50
theorem usA2(m:Mo)(x:BA)(d:Df)(fs l1 l2 l3:List BA)(hr:Pu 22 [.agg (moL m),.str x] (.ret (.tup [.agg (dfL d),.bool true])))(hf:Pu 82 [.agg (exL (dfB d))] (.ret (.sl 1 (nmsC fs))))(h0:∀xe,(Ob.loop 73 (loopF f50 0) (u0I m d true fs [] 0 xe) (.exit 0) ⟨[(2,.v (.bool true)),(3,.lp 3 0),(7,.lp 7 0),(9,.uniq 1000009 1 (nmsC l1))],[(3,moV m),(7,dfV d)],xe⟩).ok prog)(ha:∀xe,(Ob.own 83 [.agg (tpL (dfT d)),.nilsl] 1 1000009 1 (nmsC l1) xe (.own 1000009 1 (nmsC l2)) xe).ok prog)(h2:∀xe,(Ob.loop 73 (loopF f50 1) (u2I m (dfMe d) l2 0 xe) (.exit 2) ⟨[(3,.lp 3 0),(9,.uniq 1000009 1 (nmsC l3))],[(3,moV m)],xe⟩).ok prog)(hl3:l3.length<=1000000000)(hN:(moF m).length<=1000000000):Pu 50 [.agg (moL m),.str x,.bool true] (.ret (.sl 1 (nmsC (List.filter (fun x=>!unR m x) l3)))):=
 pu mdU (fun e=>[cl hr,bf false,cl hf,sl (nmsC_len fs),lp (S.mk [(2,.v (.bool true)),(3,.lp 3 0),(7,.lp 7 0),(9,.v .nilsl),(26,vL 1 (nmsC fs)),(27,vI6 (fs.length:Int)),(28,vI6 0)] [(3,moV m),(7,dfV d)] e) (@h0 e) ⟨⟨W,W,W,Wq,W,W,W,tVv⟩,⟨⟨W,W,W,W,W,W,tVv⟩,⟨W,W,W,W,W,W,W,W,W,W,W,W,W,W,W,W,W,W,W,W,W,W,W,W,W,tVv⟩,tVv⟩,rfl⟩,bt true,cw (@ha e),sl (Pr.cs_len (dfMe d)),lq (@h2 e),lg (@usD m l3 e hl3 hN)]) func50
theorem df_bulk(d:Df):bulkPs (dfL d)=(dfNm d).size+bulkPss (nmsC (dfP d))+szE (dfB d)+bulkPss (nmsC (dfVs d))+bulkPss (Vr.cs (dfNe d))+bulkPss (Vr.cs (dfAb d))+bulkPss (Bo.cs (dfBo d))+bulkPs (tpL (dfT d))+bulkPss (Pr.cs (dfMe d))+9:=by
 simp only [szE,bulkPs,bulkP]; omega
theorem moF_bulk(m:Mo):bulkPss (Df.cs (moF m))<bulkPs (moL m):=by simp only [bulkPs,bulkP]; omega
theorem moF_mem{m:Mo}{d:Df}(h:d∈moF m):bulkPs (dfL d)<bulkPs (moL m):=Nat.lt_of_le_of_lt (Df.mem h) (moF_bulk m)
theorem moF_len(m:Mo):(moF m).length<bulkPs (moL m):=Nat.lt_of_le_of_lt (Df.bulk _) (moF_bulk m)
theorem rfD_mem{s:BA}{l:List Df}{d:Df}(h:rfD s l=some d):d∈l:=by
 unfold rfD at h
 split at h
 ·rename_i hl
  injection h with h
  subst h
  exact Df.getD_mem hl
 ·cases h
def us1F(d:Df):List BA:=(freeS (dfB d)).filter fun x=>!inN x (dfP d)
def meN(d:Df):List BA:=(dfMe d).flatMap fun w=>(apF w).map prNm
def usW(d:Df)(ty:Bool):List BA:=if ty=true then apG (dfT d) (us1F d)++meN d else us1F d
def usF(m:Mo)(x:BA)(ty:Bool):List BA:=match rfD x (moF m) with
 | none=>[]
 | some d=>(usW d ty).filter fun y=>!unR m y
theorem us1F_len(d:Df):(us1F d).length<=szE (dfB d):=Nat.le_trans (List.length_filter_le _ _) (freeS_len _)
theorem usW_len(d:Df)(ty:Bool):(usW d ty).length<=bulkPs (dfL d):=by
 have h1:=us1F_len d
 have h2:=df_bulk d
 have h3:=apK_len (bulkPs (tpL (dfT d))+1) (dfT d) (us1F d)
 have h4:=apN_le apF (dfMe d) (fun w _=>apF_len w)
 have h5:=flatMap_len apF (dfMe d)
 unfold usW
 split
 ·rw [List.length_append,apG,meN]; omega
 ·omega
theorem usF_len(m:Mo)(x:BA)(ty:Bool):(usF m x ty).length<=bulkPs (moL m):=by
 unfold usF
 split
 ·simp
 ·rename_i d hd
  have h1:=usW_len d ty
  have h2:=moF_mem (rfD_mem hd)
  exact Nat.le_trans (List.length_filter_le _ _) oM
theorem usF_un{m:Mo}{x y:BA}{ty:Bool}(h:y∈usF m x ty):unR m y=false:=by
 unfold usF at h
 split at h
 ·simp at h
 ·simpa using (List.mem_filter.1 h).2
theorem usFT(m:Mo)(x:BA)(ty:Bool)(hs:bulkPs (moL m)<=100000000):Pu 50 [.agg (moL m),.str x,.bool ty] (.ret (.sl 1 (nmsC (usF m x ty)))):=by
 have hN:=moF_len m
 unfold usF
 cases h:rfD x (moF m) with
 | none=>exact usN m x ty (rfF m x oM h)
 | some d=>
  have h1:=moF_mem (rfD_mem h)
  have h2:=df_bulk d
  have h3:=us1F_len d
  have h4:=nms_bulk (dfP d)
  have h5:=freeS_len (dfB d)
  have h6:=usW_len d true
  have hr:=rfT m x oM d h
  have hf:=sFree (dfB d) oM
  have h0:∀ (b:Bool) (xe:Ext),(Ob.loop 73 (loopF f50 0) (u0I m d b (freeS (dfB d)) [] 0 xe) (.exit 0) ⟨[(2,.v (.bool b)),(3,.lp 3 0),(7,.lp 7 0),(9,.uniq 1000009 1 (nmsC (us1F d)))],[(3,moV m),(7,dfV d)],xe⟩).ok prog:=fun b xe=>by
   have:=u0A m d b (freeS (dfB d)) oM oM xe [] oM sM
   rw [u0A_eq,List.nil_append] at this
   exact Ob.loop_post this ⟨⟨W,W,W,W,tVv⟩,⟨WLs.refl _,WLs.refl _,tVv⟩,rfl⟩
  cases ty with
  | false=>exact usA1 m x d _ (us1F d) hr hf (h0 false) oM oM
  | true=>
   have h7:=Pr.bulk (dfMe d)
   have h8:=apN_le apF (dfMe d) (fun w _=>apF_len w)
   have h9:=apK_len (bulkPs (tpL (dfT d))+1) (dfT d) (us1F d)
   refine usA2 m x d _ (us1F d) (apG (dfT d) (us1F d)) (apG (dfT d) (us1F d)++meN d) hr hf (h0 true) (fun xe=>apGT (dfT d) (us1F d) xe oM oM) (fun xe=>?_) (by rw [<-show usW d true=_ from iP rfl]; omega) oM
   have:=u2A m (dfMe d) (apG (dfT d) (us1F d)) apF (fun w hw=>apT w (by have:=Pr.mem hw; omega)) xe (apG (dfT d) (us1F d)) oM (by rw [List.drop_zero]; unfold apG; omega)
   rw [u2A_eq] at this
   exact Ob.loop_post this ⟨⟨W,W,tVv⟩,⟨WLs.refl _,tVv⟩,rfl⟩
theorem sY_ok:∀ (d:Nat) (t:Tp),bulkPs (tpL t)<d->d<=100000001->Pu 57 [.agg (tpL t),.agg (tpL t)] (.ret (.bool true))
 | 0,_,h,_=>by omega
 | d+1,t,h,hs=>by
  have h1:=to_bulk t
  have h2:=Tp.bulk (tpA t)
  have h3:=Pr.bulk (tpPs t)
  have h4:=nms_bulk (tpNs t)
  have h5:bulkPss (nmsC (tpNs t))<bulkPs (tpL t):=by simp only [bulkPs,bulkP]; omega
  exact rSY t (fun w hw=>sPT w (by have:=Pr.mem hw; omega)) (sPT _ oM) (rSN _ oM) (rST _ (fun w hw=>sY_ok d w (by have:=Tp.mem hw; omega) oM) oM) oM
theorem sYT(t:Tp)(hs:bulkPs (tpL t)<=100000000):Pu 57 [.agg (tpL t),.agg (tpL t)] (.ret (.bool true)):=sY_ok _ t (Nat.lt_succ_self _) oM
abbrev pmS_I(ps:List Pm)(j:Int)(e:Ext):S:=S.mk [(0,vL 10 (Pm.cs ps)),(1,vL 10 (Pm.cs ps)),(5,vI6 j)] [] e
section
variable (ps:List Pm) (hwk:∀w:Pm,w∈ps->Pu 57 [.agg (tpL (pmT w)),.agg (tpL (pmT w))] (.ret (.bool true))) (i:Nat) (e:Ext)
include ps hwk i e
theorem pmS_b1(hi:i<ps.length)(hN:ps.length<=1000000000)(cx:Cx)(hcx:cx.n=42){Q:PExit->S->Prop}(hq:Q (.normal) (S.mk [(0,vL 10 (Pm.cs ps)),(1,vL 10 (Pm.cs ps)),(5,vI6 ((i:Int)+1))] [] e)):PW prog cx (loopF f54 0) (pmS_I ps (i:Int) e) Q:=
 pw mdL 42 [sl (Pm.cs_len ps),rgPm hi,mxPm ps (i:Int),xPm ps i hi,rp 3 (bf (!ByteArray.toList (pmNm (List.getD ps i default))==ByteArray.toList (pmNm (List.getD ps i default))) (bnF (bsT rF))),mxPm ps (i:Int),xPm ps i hi,rp 5 (bf (!ByteArray.toList (pmNm (List.getD ps i default))==ByteArray.toList (pmNm (List.getD ps i default))) (bnF (bsT rF))),mxPm ps (i:Int),xPm ps i hi,rp 3 (bf (!ByteArray.toList (pmNm (List.getD ps i default))==ByteArray.toList (pmNm (List.getD ps i default))) (bnF (bsT rF))),cl (@hwk (List.getD ps i default) (by simp_all)),rp 2 (bf (!ByteArray.toList (pmNm (List.getD ps i default))==ByteArray.toList (pmNm (List.getD ps i default))) (bnF (bsT rF))),bf false,wr ((i:Int)+1)] [0,1,5,4] [] hcx hq
theorem pmS_z1(hi:i=ps.length)(hN:ps.length<=1000000000)(cx:Cx)(hcx:cx.n=42){Q:PExit->S->Prop}(hq:Q (.exit 0) (S.mk [(0,vL 10 (Pm.cs ps)),(1,vL 10 (Pm.cs ps)),(5,vI6 (i:Int))] [] e)):PW prog cx (loopF f54 0) (pmS_I ps (i:Int) e) Q:=
 pw mdL 42 [sl (Pm.cs_len ps),df ((i:Int)<(ps.length:Int))] [0,1,5,4] [] hcx hq
end
def pmS_q(ps:List Pm)(e:Ext):PExit × S:=(.exit 0,S.mk [(0,vL 10 (Pm.cs ps)),(1,vL 10 (Pm.cs ps))] [] e)
theorem pmS_lp(ps:List Pm)(hwk:∀w:Pm,w∈ps->Pu 57 [.agg (tpL (pmT w)),.agg (tpL (pmT w))] (.ret (.bool true)))(e:Ext)(hN:ps.length<=1000000000)(i:Nat)(hi0:i<=ps.length)  : (Ob.loop 42 (loopF f54 0) (pmS_I ps (i:Int)  e) (pmS_q ps e).1 (pmS_q ps e).2).ok prog:=by
 refine Ob.loop_of (P:=prog) (α:={ zz:Nat × Unit // zz.1<=ps.length }) (fun zz=>pmS_I ps (zz.1.1:Int)  e) (fun zz=>ps.length - zz.1.1) (fun zz=>(pmS_q ps e)) ?_ ⟨(i,()),hi0⟩
 clear hi0
 clear  i
 rintro ⟨⟨i,u⟩,hi⟩ cx hcx
 simp only at hi  ⊢
 rcases Nat.lt_or_ge i (ps.length) with hlt | hge
 ·have hd:=drop_at hlt
  exact pmS_b1 ps hwk i  e hlt hN   cx hcx (.inl ⟨rfl,⟨((i+1),()),by simp only; omega⟩,by simp only; omega,xr,by trivial⟩)
 ·have he:i=ps.length:=by omega
  subst he
  refine pmS_z1 ps hwk (ps.length)  e rfl hN   cx hcx (.inr ?_)
  exact ⟨by simp,rfl,xr⟩
theorem pmS(ps:List Pm)(hwk:∀w:Pm,w∈ps->Pu 57 [.agg (tpL (pmT w)),.agg (tpL (pmT w))] (.ret (.bool true)))(e:Ext)(hN:ps.length<=1000000000)  : (Ob.loop 42 (loopF f54 0) (pmS_I ps 0  e) (pmS_q ps e).1 (pmS_q ps e).2).ok prog:=by
 have:=pmS_lp ps hwk e hN 0  (Nat.zero_le _)
 exact this
theorem rPM(ps:List Pm)(hwk:∀w:Pm,w∈ps->Pu 57 [.agg (tpL (pmT w)),.agg (tpL (pmT w))] (.ret (.bool true)))(hN:ps.length<=1000000000):Pu 54 [.sl 10 (Pm.cs ps),.sl 10 (Pm.cs ps)] (rB true):=
 pu mdL (fun e=>[rp 2 (sl (Pm.cs_len ps)),nn (ps.length:Int) (ps.length:Int),lq (@pmS ps hwk e hN)]) func54
abbrev seA_I(x:Ex)(j:Int)(e:Ext):S:=S.mk [(2,.lp 2 0),(3,.lp 3 0),(5,vI6 j)] [(2,exV x),(3,exV x)] e
section
variable (x:Ex) (hsp:Pu 54 [.sl 10 (Pm.cs (exP x)),.sl 10 (Pm.cs (exP x))] (.ret (.bool true))) (hst:Pu 55 [.sl 9 (Tp.cs (exT x)),.sl 9 (Tp.cs (exT x))] (.ret (.bool true))) (hwk:∀w:Ex,w∈exK x->Pu 28 [.agg (exL w),.agg (exL w)] (.ret (.bool true))) (i:Nat) (e:Ext)
include x hsp hst hwk i e
theorem seA_b1(hi:i<(exK x).length)(hN:(exK x).length<=1000000000)(cx:Cx)(hcx:cx.n=117){Q:PExit->S->Prop}(hq:Q (.normal) (S.mk [(2,.lp 2 0),(3,.lp 3 0),(5,vI6 ((i:Int)+1))] [(2,exV x),(3,exV x)] e)):PW prog cx (loopF f28 0) (seA_I x (i:Int) e) Q:=
 pw mdL 117 [sl (Ex.cs_len (exK x)),rgEx hi,mxEx (exK x) (i:Int),xEx (exK x) i hi,cl (@hwk (List.getD (exK x) i default) (by simp_all)),bf false,wr ((i:Int)+1)] [2,3,5,4] [2,3] hcx hq
theorem seA_z1(hi:i=(exK x).length)(hN:(exK x).length<=1000000000)(cx:Cx)(hcx:cx.n=117){Q:PExit->S->Prop}(hq:Q (.exit 0) (S.mk [(2,.lp 2 0),(3,.lp 3 0),(5,vI6 (i:Int))] [(2,exV x),(3,exV x)] e)):PW prog cx (loopF f28 0) (seA_I x (i:Int) e) Q:=
 pw mdL 117 [sl (Ex.cs_len (exK x)),df ((i:Int)<((exK x).length:Int))] [2,3,5,4] [2,3] hcx hq
end
def seA_q(x:Ex)(e:Ext):PExit × S:=(.exit 0,S.mk [(2,.lp 2 0),(3,.lp 3 0)] [(2,exV x),(3,exV x)] e)
theorem seA_lp(x:Ex)(hsp:Pu 54 [.sl 10 (Pm.cs (exP x)),.sl 10 (Pm.cs (exP x))] (.ret (.bool true)))(hst:Pu 55 [.sl 9 (Tp.cs (exT x)),.sl 9 (Tp.cs (exT x))] (.ret (.bool true)))(hwk:∀w:Ex,w∈exK x->Pu 28 [.agg (exL w),.agg (exL w)] (.ret (.bool true)))(e:Ext)(hN:(exK x).length<=1000000000)(i:Nat)(hi0:i<=(exK x).length)  : (Ob.loop 117 (loopF f28 0) (seA_I x (i:Int)  e) (seA_q x e).1 (seA_q x e).2).ok prog:=by
 refine Ob.loop_of (P:=prog) (α:={ zz:Nat × Unit // zz.1<=(exK x).length }) (fun zz=>seA_I x (zz.1.1:Int)  e) (fun zz=>(exK x).length - zz.1.1) (fun zz=>(seA_q x e)) ?_ ⟨(i,()),hi0⟩
 clear hi0
 clear  i
 rintro ⟨⟨i,u⟩,hi⟩ cx hcx
 simp only at hi  ⊢
 rcases Nat.lt_or_ge i ((exK x).length) with hlt | hge
 ·have hd:=drop_at hlt
  exact seA_b1 x hsp hst hwk i  e hlt hN   cx hcx (.inl ⟨rfl,⟨((i+1),()),by simp only; omega⟩,by simp only; omega,xr,by trivial⟩)
 ·have he:i=(exK x).length:=by omega
  subst he
  refine seA_z1 x hsp hst hwk ((exK x).length)  e rfl hN   cx hcx (.inr ?_)
  exact ⟨by simp,rfl,xr⟩
theorem seA(x:Ex)(hsp:Pu 54 [.sl 10 (Pm.cs (exP x)),.sl 10 (Pm.cs (exP x))] (.ret (.bool true)))(hst:Pu 55 [.sl 9 (Tp.cs (exT x)),.sl 9 (Tp.cs (exT x))] (.ret (.bool true)))(hwk:∀w:Ex,w∈exK x->Pu 28 [.agg (exL w),.agg (exL w)] (.ret (.bool true)))(e:Ext)(hN:(exK x).length<=1000000000)  : (Ob.loop 117 (loopF f28 0) (seA_I x 0  e) (seA_q x e).1 (seA_q x e).2).ok prog:=by
 have:=seA_lp x hsp hst hwk e hN 0  (Nat.zero_le _)
 exact this
abbrev seB_I(x:Ex)(j:Int)(e:Ext):S:=S.mk [(2,.lp 2 0),(3,.lp 3 0),(6,vI6 j)] [(2,exV x),(3,exV x)] e
section
variable (x:Ex) (hM:(exK x).length<=1000000000) (hsp:Pu 54 [.sl 10 (Pm.cs (exP x)),.sl 10 (Pm.cs (exP x))] (.ret (.bool true))) (hst:Pu 55 [.sl 9 (Tp.cs (exT x)),.sl 9 (Tp.cs (exT x))] (.ret (.bool true))) (hwk:∀w:Ex,w∈exK x->Pu 28 [.agg (exL w),.agg (exL w)] (.ret (.bool true))) (hwn:∀w:Al,w∈exA x->Pu 27 [.sl 1 (nmsC (alNs w)),.sl 1 (nmsC (alNs w))] (.ret (.bool true))) (hwb:∀w:Al,w∈exA x->Pu 28 [.agg (exL (alB w)),.agg (exL (alB w))] (.ret (.bool true))) (i:Nat) (e:Ext)
include x hM hsp hst hwk hwn hwb i e
theorem seB_b1(hi:i<(exA x).length)(hN:(exA x).length<=1000000000)(cx:Cx)(hcx:cx.n=117){Q:PExit->S->Prop}(hq:Q (.normal) (S.mk [(2,.lp 2 0),(3,.lp 3 0),(6,vI6 ((i:Int)+1))] [(2,exV x),(3,exV x)] e)):PW prog cx (loopF f28 1) (seB_I x (i:Int) e) Q:=
 pw mdL 117 [sl (Al.cs_len (exA x)),rgAl hi,mxAl (exA x) (i:Int),xAl (exA x) i hi,rp 5 (bf (!ByteArray.toList (alC (List.getD (exA x) i default))==ByteArray.toList (alC (List.getD (exA x) i default))) (bnF (bsT rF))),cl (@hwn (List.getD (exA x) i default) (by simp_all)),rp 2 (bf (!ByteArray.toList (alC (List.getD (exA x) i default))==ByteArray.toList (alC (List.getD (exA x) i default))) (bnF (bsT rF))),rp 5 (bf false),cl (@hwb (List.getD (exA x) i default) (by simp_all)),rp 3 (bf false),wr ((i:Int)+1)] [2,3,6,4] [2,3] hcx hq
theorem seB_z1(hi:i=(exA x).length)(hN:(exA x).length<=1000000000)(cx:Cx)(hcx:cx.n=117){Q:PExit->S->Prop}(hq:Q (.exit 2) (S.mk [(2,.lp 2 0),(3,.lp 3 0),(6,vI6 (i:Int))] [(2,exV x),(3,exV x)] e)):PW prog cx (loopF f28 1) (seB_I x (i:Int) e) Q:=
 pw mdL 117 [sl (Al.cs_len (exA x)),df ((i:Int)<((exA x).length:Int))] [2,3,6,4] [2,3] hcx hq
end
def seB_q(x:Ex)(e:Ext):PExit × S:=(.exit 2,S.mk [(2,.lp 2 0),(3,.lp 3 0)] [(2,exV x),(3,exV x)] e)
theorem seB_lp(x:Ex)(hM:(exK x).length<=1000000000)(hsp:Pu 54 [.sl 10 (Pm.cs (exP x)),.sl 10 (Pm.cs (exP x))] (.ret (.bool true)))(hst:Pu 55 [.sl 9 (Tp.cs (exT x)),.sl 9 (Tp.cs (exT x))] (.ret (.bool true)))(hwk:∀w:Ex,w∈exK x->Pu 28 [.agg (exL w),.agg (exL w)] (.ret (.bool true)))(hwn:∀w:Al,w∈exA x->Pu 27 [.sl 1 (nmsC (alNs w)),.sl 1 (nmsC (alNs w))] (.ret (.bool true)))(hwb:∀w:Al,w∈exA x->Pu 28 [.agg (exL (alB w)),.agg (exL (alB w))] (.ret (.bool true)))(e:Ext)(hN:(exA x).length<=1000000000)(i:Nat)(hi0:i<=(exA x).length)  : (Ob.loop 117 (loopF f28 1) (seB_I x (i:Int)  e) (seB_q x e).1 (seB_q x e).2).ok prog:=by
 refine Ob.loop_of (P:=prog) (α:={ zz:Nat × Unit // zz.1<=(exA x).length }) (fun zz=>seB_I x (zz.1.1:Int)  e) (fun zz=>(exA x).length - zz.1.1) (fun zz=>(seB_q x e)) ?_ ⟨(i,()),hi0⟩
 clear hi0
 clear  i
 rintro ⟨⟨i,u⟩,hi⟩ cx hcx
 simp only at hi  ⊢
 rcases Nat.lt_or_ge i ((exA x).length) with hlt | hge
 ·have hd:=drop_at hlt
  exact seB_b1 x hM hsp hst hwk hwn hwb i  e hlt hN   cx hcx (.inl ⟨rfl,⟨((i+1),()),by simp only; omega⟩,by simp only; omega,xr,by trivial⟩)
 ·have he:i=(exA x).length:=by omega
  subst he
  refine seB_z1 x hM hsp hst hwk hwn hwb ((exA x).length)  e rfl hN   cx hcx (.inr ?_)
  exact ⟨by simp,rfl,xr⟩
theorem seB(x:Ex)(hM:(exK x).length<=1000000000)(hsp:Pu 54 [.sl 10 (Pm.cs (exP x)),.sl 10 (Pm.cs (exP x))] (.ret (.bool true)))(hst:Pu 55 [.sl 9 (Tp.cs (exT x)),.sl 9 (Tp.cs (exT x))] (.ret (.bool true)))(hwk:∀w:Ex,w∈exK x->Pu 28 [.agg (exL w),.agg (exL w)] (.ret (.bool true)))(hwn:∀w:Al,w∈exA x->Pu 27 [.sl 1 (nmsC (alNs w)),.sl 1 (nmsC (alNs w))] (.ret (.bool true)))(hwb:∀w:Al,w∈exA x->Pu 28 [.agg (exL (alB w)),.agg (exL (alB w))] (.ret (.bool true)))(e:Ext)(hN:(exA x).length<=1000000000)  : (Ob.loop 117 (loopF f28 1) (seB_I x 0  e) (seB_q x e).1 (seB_q x e).2).ok prog:=by
 have:=seB_lp x hM hsp hst hwk hwn hwb e hN 0  (Nat.zero_le _)
 exact this
theorem seL(x:Ex)(hM:(exK x).length<=1000000000)(hN:(exA x).length<=1000000000)(hsp:Pu 54 [.sl 10 (Pm.cs (exP x)),.sl 10 (Pm.cs (exP x))] (.ret (.bool true)))(hst:Pu 55 [.sl 9 (Tp.cs (exT x)),.sl 9 (Tp.cs (exT x))] (.ret (.bool true)))(hwk:∀w:Ex,w∈exK x->Pu 28 [.agg (exL w),.agg (exL w)] (.ret (.bool true)))(hwn:∀w:Al,w∈exA x->Pu 27 [.sl 1 (nmsC (alNs w)),.sl 1 (nmsC (alNs w))] (.ret (.bool true)))(hwb:∀w:Al,w∈exA x->Pu 28 [.agg (exL (alB w)),.agg (exL (alB w))] (.ret (.bool true))):Pu 28 [.agg (exL x),.agg (exL x)] (rB true):=
 pu mdL (fun e=>[rp 6 (nn (exO x) (exO x)),rp 6 (bf (!ByteArray.toList (exNm x)==ByteArray.toList (exNm x)) (bnF (bsT rF))),rp 5 (nn (exN x) (exN x)),cl hsp,rp 2 (nn (exN x) (exN x)),rp 5 (bf false),cl hst,rp 3 (bf false),rp 2 (sl (Ex.cs_len (exK x))),rp 3 (nn ((exK x).length:Int) ((exK x).length:Int)),sl (Al.cs_len (exA x)),rp 3 (nn ((exK x).length:Int) ((exK x).length:Int)),sl (Al.cs_len (exA x)),rp 2 (nn ((exK x).length:Int) ((exK x).length:Int)),nn ((exA x).length:Int) ((exA x).length:Int),lq (@seA x hsp hst hwk e hM),lq (@seB x hM hsp hst hwk hwn hwb e hN)]) func28
theorem pm_mem{ps:List Pm}{w:Pm}(h:w∈ps):bulkPs (tpL (pmT w))<=bulkPss (Pm.cs ps):=by
 have h1:=Pm.mem h
 have h2:bulkPs (tpL (pmT w))<=bulkPs (pmL w):=by simp only [bulkPs,bulkP]; omega
 omega
theorem sE_ok:∀ (d:Nat) (x:Ex),szE x<d->d<=100000001->Pu 28 [.agg (exL x),.agg (exL x)] (.ret (.bool true))
 | 0,_,h,_=>by omega
 | d+1,x,h,hs=>by
  have h1:=szE_eq x
  have h2:=Ex.bulk (exK x)
  have h3:=Al.bulk (exA x)
  have h4:=Pm.bulk (exP x)
  have h5:=Tp.bulk (exT x)
  exact seL x oM oM (rPM _ (fun w hw=>sYT _ (by have:=pm_mem hw; omega)) oM) (rST _ (fun w hw=>sYT _ (by have:=Tp.mem hw; omega)) oM) (fun w hw=>sE_ok d w (by have:=kid_bulk hw; omega) oM) (fun w hw=>rSN _ (by have:=alt_bulk hw; omega)) (fun w hw=>sE_ok d _ (by have:=alt_bulk hw; omega) oM)
theorem sET(x:Ex)(hs:szE x<=100000000):Pu 28 [.agg (exL x),.agg (exL x)] (.ret (.bool true)):=sE_ok _ x (Nat.lt_succ_self _) oM
theorem sdL(d:Df)(ha:Pu 27 [.sl 1 (nmsC (dfP d)),.sl 1 (nmsC (dfP d))] (.ret (.bool true)))(hb:Pu 28 [.agg (exL (dfB d)),.agg (exL (dfB d))] (.ret (.bool true)))(hc:Pu 29 [.agg (sgL d),.agg (sgL d)] (.ret (.bool true))):Pu 11 [.agg (dfL d),.agg (dfL d)] (rB true):=
 pm mdL [rp 5 (bt (ByteArray.toList (dfNm d)==ByteArray.toList (dfNm d)) (bsT rF)),cl ha,bt (ByteArray.toList (dfNm d)==ByteArray.toList (dfNm d)) (bsT rF),rp 5 (bt true),cl hb,rp 7 (bt true),rp 6 (et (dfM d) (dfM d)),rp 5 (bt (if true=true then dfTy d==dfTy d else !dfTy d==dfTy d) (by simp_all)),cl hc,bt (if true=true then dfTy d==dfTy d else !dfTy d==dfTy d) (by simp_all)] func11
abbrev sdA_I(l:List Df)(j:Int)(e:Ext):S:=S.mk [(0,vL 25 (Df.cs l)),(1,vL 25 (Df.cs l)),(5,vI6 j)] [] e
section
variable (l:List Df) (hwk:∀w:Df,w∈l->Pu 11 [.agg (dfL w),.agg (dfL w)] (.ret (.bool true))) (i:Nat) (e:Ext)
include l hwk i e
theorem sdA_b1(hi:i<l.length)(hN:l.length<=1000000000)(cx:Cx)(hcx:cx.n=27){Q:PExit->S->Prop}(hq:Q (.normal) (S.mk [(0,vL 25 (Df.cs l)),(1,vL 25 (Df.cs l)),(5,vI6 ((i:Int)+1))] [] e)):PW prog cx (loopF f10 0) (sdA_I l (i:Int) e) Q:=
 pw mdL 27 [sl (Df.cs_len l),rgDf hi,mxDf l (i:Int),xDf l i hi,cl (@hwk (List.getD l i default) (by simp_all)),bf false,wr ((i:Int)+1)] [0,1,5,4] [] hcx hq
theorem sdA_z1(hi:i=l.length)(hN:l.length<=1000000000)(cx:Cx)(hcx:cx.n=27){Q:PExit->S->Prop}(hq:Q (.exit 0) (S.mk [(0,vL 25 (Df.cs l)),(1,vL 25 (Df.cs l)),(5,vI6 (i:Int))] [] e)):PW prog cx (loopF f10 0) (sdA_I l (i:Int) e) Q:=
 pw mdL 27 [sl (Df.cs_len l),df ((i:Int)<(l.length:Int))] [0,1,5,4] [] hcx hq
end
def sdA_q(l:List Df)(e:Ext):PExit × S:=(.exit 0,S.mk [(0,vL 25 (Df.cs l)),(1,vL 25 (Df.cs l))] [] e)
theorem sdA_lp(l:List Df)(hwk:∀w:Df,w∈l->Pu 11 [.agg (dfL w),.agg (dfL w)] (.ret (.bool true)))(e:Ext)(hN:l.length<=1000000000)(i:Nat)(hi0:i<=l.length)  : (Ob.loop 27 (loopF f10 0) (sdA_I l (i:Int)  e) (sdA_q l e).1 (sdA_q l e).2).ok prog:=by
 refine Ob.loop_of (P:=prog) (α:={ zz:Nat × Unit // zz.1<=l.length }) (fun zz=>sdA_I l (zz.1.1:Int)  e) (fun zz=>l.length - zz.1.1) (fun zz=>(sdA_q l e)) ?_ ⟨(i,()),hi0⟩
 clear hi0
 clear  i
 rintro ⟨⟨i,u⟩,hi⟩ cx hcx
 simp only at hi  ⊢
 rcases Nat.lt_or_ge i (l.length) with hlt | hge
 ·have hd:=drop_at hlt
  exact sdA_b1 l hwk i  e hlt hN   cx hcx (.inl ⟨rfl,⟨((i+1),()),by simp only; omega⟩,by simp only; omega,xr,by trivial⟩)
 ·have he:i=l.length:=by omega
  subst he
  refine sdA_z1 l hwk (l.length)  e rfl hN   cx hcx (.inr ?_)
  exact ⟨by simp,rfl,xr⟩
theorem sdA(l:List Df)(hwk:∀w:Df,w∈l->Pu 11 [.agg (dfL w),.agg (dfL w)] (.ret (.bool true)))(e:Ext)(hN:l.length<=1000000000)  : (Ob.loop 27 (loopF f10 0) (sdA_I l 0  e) (sdA_q l e).1 (sdA_q l e).2).ok prog:=by
 have:=sdA_lp l hwk e hN 0  (Nat.zero_le _)
 exact this
theorem bo_mem{l:List Bo}{w:Bo}(h:w∈l):bulkPss (Vr.cs (boW w))+bulkPs (prL (boH w))+bulkPs (prL (boG w))<=bulkPss (Bo.cs l):=by
 have h1:=Bo.mem h
 have h2:bulkPss (Vr.cs (boW w))+bulkPs (prL (boH w))+bulkPs (prL (boG w))<=bulkPs (boL w):=by simp only [bulkPs,bulkP]; omega
 omega
theorem sdT(d:Df)(hs:bulkPs (dfL d)<=100000000):Pu 11 [.agg (dfL d),.agg (dfL d)] (.ret (.bool true)):=by
 have h1:=df_bulk d
 have h2:=nms_bulk (dfP d)
 have h3:=nms_bulk (dfVs d)
 have h4:=Vr.bulk (dfNe d)
 have h5:=Vr.bulk (dfAb d)
 have h6:=Bo.bulk (dfBo d)
 have h7:=Pr.bulk (dfMe d)
 refine sdL d (rSN _ oM) (sET _ oM) (ssL d (rSN _ oM) (sgnT _ oM) (sYT _ oM) (sgmT _ (fun w hw=>sPT w (by have:=Pr.mem hw; omega)) oM) (fun w hw=>sgoT _ ?_) (fun w hw=>sPT _ ?_) (fun w hw=>sPT _ ?_) oM oM)
 ·have:=bo_mem hw; have:=Vr.bulk (boW w); omega
 ·have:=bo_mem hw; omega
 ·have:=bo_mem hw; omega
theorem sdsT(l:List Df)(hs:bulkPss (Df.cs l)<=100000000):Pu 10 [.sl 25 (Df.cs l),.sl 25 (Df.cs l)] (.ret (.bool true)):=by
 have h1:=Df.bulk l
 exact pu mdL (fun e=>[rp 2 (sl (Df.cs_len l)),nn (l.length:Int) (l.length:Int),lq (@sdA l (fun w hw=>sdT w (by have:=Df.mem hw; omega)) e oM)]) func10
abbrev rqA_I(c:Pr)(v:Pr)(dfz:Pr->Pr->Bool)(j:Int)(e:Ext):S:=S.mk [(2,.lp 2 0),(3,.lp 3 0),(36,vI6 ((prK c).length:Int)),(37,vI6 j)] [(2,prV c),(3,prV v)] e
inductive rqA_R where
 | e0
 | e1
def rqA_f(v:Pr)(dfz:Pr->Pr->Bool):List Pr->Nat->rqA_R
 | [],i=>(rqA_R.e1)
 | el::r,i=>(if dfz el (List.getD (prK v) i default)=false then (rqA_R.e0) else rqA_f v dfz r (i+1))
def rqA_q(c:Pr)(v:Pr)(dfz:Pr->Pr->Bool)(e:Ext):rqA_R->PExit × S
 | .e0=>(.ret,S.mk [(2,.lp 2 0),(3,.lp 3 0),(36,vI6 ((prK c).length:Int)),(4,.v (.bool false))] [(2,prV c),(3,prV v)] e)
 | .e1=>(.exit 0,S.mk [(2,.lp 2 0),(3,.lp 3 0),(36,vI6 ((prK c).length:Int))] [(2,prV c),(3,prV v)] e)
theorem rqA_lp(c v:Pr)(dfz:Pr->Pr->Bool)(g0:prO c=prO v)(g1:prNm c=prNm v)(g2:prN c=prN v)(gl:(prK c).length=(prK v).length)(hwk:∀w y:Pr,y∈prK v->Pu 18 [.agg (prL w),.agg (prL y)] (.ret (.bool (dfz w y))))(e:Ext)(hN:(prK c).length<=1000000000):(Ob.loop 53 (loopF f18 0) (rqA_I c v dfz 0  e) (rqA_q c v dfz e (rqA_f v dfz ((prK c)) 0)).1 (rqA_q c v dfz e (rqA_f v dfz ((prK c)) 0)).2).ok prog:=by
 refine rng ((prK c).length) (fun j _=>rqA_I c v dfz j  e) (fun i _=>rqA_f v dfz (List.drop i ((prK c))) i) (rqA_q c v dfz e) (fun i _=>True) kR ?_ () trivial
 rintro i u hi -
 rcases Nat.lt_or_ge i ((prK c).length) with hlt | hge
 ·have hd:=drop_at hlt
  refine t0 ?_;refine tp [rgPr hlt,mxPr (prK v) (i:Int),xPr (prK v) i,cl (@hwk (List.getD (prK c) i default) (List.getD (prK v) i default) (by simp_all))] ?_;by_cases h0:dfz (List.getD (prK c) i default) (List.getD (prK v) i default)=false
  ·exact tX mdL [bt1 (bnT h0)] (rqA_R.e0) (by rw [hd,rqA_f,iP h0])
  ·exact tN mdL [bf1 (bnF (bTF h0)),wr ((i:Int)+1)] hlt () trivial (by rw [hd,rqA_f,iN h0])
 ·have he:i=(prK c).length:=by omega
  exact lX mdL [df ((i:Int)<((prK c).length:Int))] (rqA_R.e1) (by rw [he,List.drop_length,rqA_f])
section
variable (c v:Pr) (dfz:Pr->Pr->Bool) (hN:(prK c).length<=1000000000) (g0:prO c=prO v) (g1:prNm c=prNm v) (g2:prN c=prN v) (gl:(prK c).length=(prK v).length) (hwk:∀w y:Pr,y∈prK v->Pu 18 [.agg (prL w),.agg (prL y)] (.ret (.bool (dfz w y))))
include c v dfz hN g0 g1 g2 gl hwk
theorem rqL_1(hx0:rqA_f v dfz (prK c) 0=rqA_R.e0):Pu 18 [.agg (prL c),.agg (prL v)] (rB false):=
 pu mdL (fun e=>[rp 6 (nn (prO c) (prO v) g0),rp 6 (bf (!ByteArray.toList (prNm c)==ByteArray.toList (prNm v)) (bnF (bsT g1))),rp 3 (nn (prN c) (prN v) g2),sl (Pr.cs_len (prK c)),rp 3 (nn (prN c) (prN v) g2),sl (Pr.cs_len (prK v)),rp 2 (nn (prN c) (prN v) g2),nn ((prK c).length:Int) ((prK v).length:Int),sl (Pr.cs_len (prK c)),lq (rz (rqA_lp (c) (v) (dfz) g0 g1 g2 gl hwk (e) hN) hx0)]) func18
theorem rqL_2(hx0:rqA_f v dfz (prK c) 0=rqA_R.e1):Pu 18 [.agg (prL c),.agg (prL v)] (rB true):=
 pu mdL (fun e=>[rp 6 (nn (prO c) (prO v) g0),rp 6 (bf (!ByteArray.toList (prNm c)==ByteArray.toList (prNm v)) (bnF (bsT g1))),rp 3 (nn (prN c) (prN v) g2),sl (Pr.cs_len (prK c)),rp 3 (nn (prN c) (prN v) g2),sl (Pr.cs_len (prK v)),rp 2 (nn (prN c) (prN v) g2),nn ((prK c).length:Int) ((prK v).length:Int),sl (Pr.cs_len (prK c)),lq (rz (rqA_lp (c) (v) (dfz) g0 g1 g2 gl hwk (e) hN) hx0)]) func18
end
def rqD:Nat->Pr->Pr->Bool
 | 0,_,_=>false
 | d+1,u,v=>decide (prO u=prO v)&&decide (prNm u=prNm v)&&decide (prN u=prN v)&&decide (((prK u).length:Int)=((prK v).length:Int))&&(match rqA_f v (rqD d) (prK u) 0 with | .e0=>false | .e1=>true)
theorem rq_ok:∀ (d:Nat) (u v:Pr),bulkPs (prL v)<d->d<=100000001->Pu 18 [.agg (prL u),.agg (prL v)] (.ret (.bool (rqD d u v)))
 | 0,_,_,h,_=>by omega
 | d+1,u,v,h,hs=>by
  have hb:=pr_blk v
  have hwk:∀w y:Pr,y∈prK v->Pu 18 [.agg (prL w),.agg (prL y)] (.ret (.bool (rqD d w y))):=fun w y hw=>rq_ok d w y (by have:=Pr.mem hw; omega) oM
  rw [rqD]
  by_cases g0:prO u=prO v
  ·by_cases g1:prNm u=prNm v
   ·by_cases g2:prN u=prN v
    ·by_cases g3:((prK u).length:Int)=((prK v).length:Int)
     ·simp only [g0,g1,g2,g3,decide_true,Bool.true_and]
      have hN:(prK u).length<=1000000000:=by have:=Pr.bulk (prK v); omega
      have h1:=rqL_1 u v (rqD d) hN g0 g1 g2 oM hwk
      have h2:=rqL_2 u v (rqD d) hN g0 g1 g2 oM hwk
      cases hf:rqA_f v (rqD d) (prK u) 0 with
      | e0=>exact h1 hf
      | e1=>exact h2 hf
     ·simp only [g0,g1,g2,decide_eq_false g3,decide_true,Bool.true_and,Bool.false_and]
      exact pm mdL [rp 6 (nn (prO u) (prO v) g0),rp 6 (bf (!ByteArray.toList (prNm u)==ByteArray.toList (prNm v)) (bnF (bsT g1))),rp 3 (nn (prN u) (prN v) g2),sl (Pr.cs_len (prK u)),rp 3 (nn (prN u) (prN v) g2),sl (Pr.cs_len (prK v)),rp 2 (nn (prN u) (prN v) g2),nt ((prK u).length:Int) ((prK v).length:Int) g3] func18
    ·simp only [g0,g1,decide_eq_false g2,decide_true,Bool.true_and,Bool.false_and]
     exact pm mdL [rp 6 (nn (prO u) (prO v) g0),rp 6 (bf (!ByteArray.toList (prNm u)==ByteArray.toList (prNm v)) (bnF (bsT g1))),rp 8 (nt (prN u) (prN v) g2),bt true] func18
   ·simp only [g0,decide_eq_false g1,decide_true,Bool.true_and,Bool.false_and]
    exact pm mdL [rp 6 (nn (prO u) (prO v) g0),rp 6 (bt (!ByteArray.toList (prNm u)==ByteArray.toList (prNm v)) (bnT (bsF g1))),rp 9 (bt true)] func18
  ·simp only [decide_eq_false g0,Bool.false_and]
   exact pm mdL [rp 6 (nt (prO u) (prO v) g0),rp 15 (bt true)] func18
def rqF(u v:Pr):Bool:=rqD (bulkPs (prL v)+1) u v
theorem rqT(u v:Pr)(hs:bulkPs (prL v)<=100000000):Pu 18 [.agg (prL u),.agg (prL v)] (.ret (.bool (rqF u v))):=rq_ok _ u v (Nat.lt_succ_self _) oM
theorem rqF_nm{u v:Pr}(h:rqF u v=true):prNm u=prNm v:=by
 unfold rqF rqD at h
 simp only [Bool.and_eq_true,decide_eq_true_eq] at h
 exact h.1.1.1.2
abbrev rhA_I(l:List Pr)(q:Pr)(dfz:Pr->Bool)(j:Int)(e:Ext):S:=S.mk [(3,.lp 3 0),(7,vL 4 (Pr.cs l)),(8,vI6 (l.length:Int)),(9,vI6 j)] [(3,prV q)] e
inductive rhA_R where
 | e0
 | e1
def rhA_f(dfz:Pr->Bool):List Pr->rhA_R
 | []=>(rhA_R.e1)
 | el::r=>(if dfz el=true then (rhA_R.e0) else rhA_f dfz r)
def rhA_q(l:List Pr)(q:Pr)(dfz:Pr->Bool)(e:Ext):rhA_R->PExit × S
 | .e0=>(.ret,S.mk [(3,.lp 3 0),(7,vL 4 (Pr.cs l)),(8,vI6 (l.length:Int)),(4,.v (.bool true))] [(3,prV q)] e)
 | .e1=>(.exit 0,S.mk [(3,.lp 3 0),(7,vL 4 (Pr.cs l)),(8,vI6 (l.length:Int))] [(3,prV q)] e)
theorem rhA_lp(l:List Pr)(q:Pr)(dfz:Pr->Bool)(hwk:∀w:Pr,w∈l->Pu 18 [.agg (prL w),.agg (prL q)] (.ret (.bool (dfz w))))(e:Ext)(hN:l.length<=1000000000):(Ob.loop 17 (loopF f159 0) (rhA_I l q dfz 0  e) (rhA_q l q dfz e (rhA_f dfz (l))).1 (rhA_q l q dfz e (rhA_f dfz (l))).2).ok prog:=by
 refine rng l.length (fun j _=>rhA_I l q dfz j  e) (fun i _=>rhA_f dfz (List.drop i (l))) (rhA_q l q dfz e) (fun i _=>True) kR ?_ () trivial
 rintro i u hi -
 rcases Nat.lt_or_ge i (l.length) with hlt | hge
 ·have hd:=drop_at hlt
  refine t0 ?_;refine tp [rgPr hlt,cl (@hwk (List.getD l i default) (by simp_all))] ?_;by_cases h0:dfz (List.getD l i default)=true
  ·exact tX mdL [bt1 h0] (rhA_R.e0) (by rw [hd,rhA_f,iP h0])
  ·exact tN mdL [bf1 (bFT h0),wr ((i:Int)+1)] hlt () trivial (by rw [hd,rhA_f,iN h0])
 ·have he:i=l.length:=by omega
  exact lX mdL [df ((i:Int)<(l.length:Int))] (rhA_R.e1) (by rw [he,List.drop_length,rhA_f])
section
variable (l:List Pr) (q:Pr) (dfz:Pr->Bool) (hwk:∀w:Pr,w∈l->Pu 18 [.agg (prL w),.agg (prL q)] (.ret (.bool (dfz w)))) (hN:l.length<=1000000000)
include l q dfz hwk hN
theorem rhL_1(hx0:rhA_f dfz l=rhA_R.e0):Pu 159 [.sl 4 (Pr.cs l),.agg (prL q)] (rB true):=
 pu mdL (fun e=>[sl (Pr.cs_len l),lq (rz (rhA_lp (l) (q) (dfz) hwk (e) hN) hx0)]) func159
theorem rhL_2(hx0:rhA_f dfz l=rhA_R.e1):Pu 159 [.sl 4 (Pr.cs l),.agg (prL q)] (rB false):=
 pu mdL (fun e=>[sl (Pr.cs_len l),lq (rz (rhA_lp (l) (q) (dfz) hwk (e) hN) hx0)]) func159
end
def rhB(dfz:Pr->Bool)(l:List Pr):Bool:=match rhA_f dfz l with | .e0=>true | .e1=>false
theorem rhB_any(dfz:Pr->Bool):∀l,rhB dfz l=l.any dfz
 | []=>rfl
 | x::r=>by
  have ih:=rhB_any dfz r
  unfold rhB at ih ⊢
  rw [rhA_f,List.any_cons]
  by_cases h:dfz x=true
  ·rw [iP h,h]; rfl
  ·rw [iN h,ih]; simp [h]
theorem rhT(l:List Pr)(q:Pr)(hs:bulkPs (prL q)<=100000000)(hN:l.length<=1000000000):Pu 159 [.sl 4 (Pr.cs l),.agg (prL q)] (.ret (.bool (l.any fun w=>rqF w q))):=by
 rw [<-rhB_any]
 unfold rhB
 cases h:rhA_f (fun w=>rqF w q) l with
 | e0=>exact rhL_1 l q (fun w=>rqF w q) (fun w _=>rqT w q hs) hN h
 | e1=>exact rhL_2 l q (fun w=>rqF w q) (fun w _=>rqT w q hs) hN h
def mdN7:Md:=⟨fun _=>some false,fun t=>t==3000000+142⟩
abbrev rnA_I(u:Pr)(o:Int)(l0:List Pr)(dg:Pr->List Pr->List Pr)(xe:Ext)(j:Int)(l:List Pr)  : S:=S.mk [(1,vI6 o),(2,.uniq 46 4 (Pr.cs l)),(3,.lp 3 0),(10,vL 4 (Pr.cs (prK u))),(11,vI6 ((prK u).length:Int)),(12,vI6 j)] [(3,prV u)] xe
def rnA_f(dg:Pr->List Pr->List Pr):List Pr->(List Pr)->(List Pr)
 | [],l=>(l)
 | el::r,l=>rnA_f dg r (dg el l)
def rnA_q(u:Pr)(o:Int)(l0:List Pr)(dg:Pr->List Pr->List Pr)(xe:Ext)(p:(List Pr)):PExit × S:=(.exit 0,S.mk [(1,vI6 o),(2,.uniq 46 4 (Pr.cs p)),(3,.lp 3 0),(10,vL 4 (Pr.cs (prK u))),(11,vI6 ((prK u).length:Int))] [(3,prV u)] xe)
theorem rnA(u:Pr)(o:Int)(l0:List Pr)(dg:Pr->List Pr->List Pr)(hwk:∀ (w:Pr) (l:List Pr) (e:Ext),w∈prK u->l.length+bulkPs (prL w)<=1000000000->(Ob.own 142 [.agg (prL w),.int .i64 o,.nilsl] 2 46 4 (Pr.cs l) e (.own 46 4 (Pr.cs (dg w l))) e).ok prog)(hdg:∀ (w:Pr) (l:List Pr),w∈prK u->(dg w l).length<=l.length+bulkPs (prL w))(xe:Ext)(l:List Pr)(hN:(prK u).length<=1000000000)(hv:List.length l+bulkPss (Pr.cs (List.drop 0 (prK u)))<=1000000000):(Ob.loop 36 (loopF f142 0) (rnA_I u o l0 dg xe 0 l) (rnA_q u o l0 dg xe  (rnA_f dg ((prK u))  l)).1 (rnA_q u o l0 dg xe  (rnA_f dg ((prK u))  l)).2).ok prog:=by
 refine rng ((prK u).length) (fun j l=>rnA_I u o l0 dg xe j l) (fun i l=>rnA_f dg (List.drop i ((prK u)))  l) (rnA_q u o l0 dg xe) (fun i l=>(l.length+bulkPss (Pr.cs ((prK u).drop i))<=1000000000)) kR ?_ l (by first | exact hv | omega)
 rintro i l hi hv
 try simp only at hv
 rcases Nat.lt_or_ge i ((prK u).length) with hlt | hge
 ·have hd:=drop_at hlt
  exact lN mdN7 [rgPr hlt,cw (@hwk (List.getD (prK u) i default) l xe (by first | exact getD_mem hlt | simp_all) (by (apply in_get <;> first | assumption | omega | decide))),wr ((i:Int)+1)] hlt (dg (List.getD (prK u) i default) l) (by first | assumption | omega | (apply gPr <;> first | assumption | omega | decide) | (apply in_inv <;> first | assumption | omega | decide) | (apply in_get <;> first | assumption | omega | decide) | (simp only [List.length_append,List.length_cons,List.length_nil] at *; omega) | simp_all) (by rw [hd,rnA_f])
 ·have he:i=(prK u).length:=by omega
  exact lX mdN7 [df ((i:Int)<((prK u).length:Int))] (l) (by rw [he,List.drop_length,rnA_f])
abbrev rn0(u:Pr)(o:Int)(l:List Pr)(xe:Ext):S:=⟨[(0,.v (.agg (prL u))),(1,.v (.int .i64 o)),(2,.uniq 46 4 (Pr.cs l))],[],xe⟩
section
variable (u:Pr) (o:Int) (l0:List Pr) (y:Bool) (dg:Pr->List Pr->List Pr) (hwk:∀ (w:Pr) (l:List Pr) (e:Ext),w∈prK u->l.length+bulkPs (prL w)<=1000000000->(Ob.own 142 [.agg (prL w),.int .i64 o,.nilsl] 2 46 4 (Pr.cs l) e (.own 46 4 (Pr.cs (dg w l))) e).ok prog) (hdg:∀ (w:Pr) (l:List Pr),w∈prK u->(dg w l).length<=l.length+bulkPs (prL w)) (hN:(prK u).length<=1000000000) (hv:l0.length+bulkPss (Pr.cs (List.drop 0 (prK u)))<=1000000000) (hL:(rnA_f dg (prK u) l0).length<=1000000000) (hh:Pu 159 [.sl 4 (Pr.cs (rnA_f dg (prK u) l0)),.agg (prL u)] (.ret (.bool y))) (xe:Ext)
include u o l0 y dg hwk hdg hN hv hL hh xe
theorem rnC_1(hx0:prO u=o)(hx1:y=false)(cx:Cx)(hcx:cx.n=36){Q:PExit->S->Prop}(hq:Q (.ret) (S.mk [(1,vI6 o),(2,vL 4 (Pr.cs (rnA_f dg (prK u) l0)++[prL u])),(6,.uniq 46 4 (Pr.cs (rnA_f dg (prK u) l0)++[prL u]))] [] xe)):PW prog cx (Option.getD (Func.body f142) Code.skip) (rn0 u o l0 xe) Q:=
 pw mdN7 36 [sl (Pr.cs_len (prK u)),lq (@rnA u o default dg hwk hdg xe l0 hN hv),rp 3 (et1 hx0),cl hh,rp 2 (et1 hx0),bt1 (bnT hx1),am (List.length (Pr.cs (rnA_f dg (prK u) l0)++[prL u]) * (55+1)<=140737488355328) (by (simp only [List.length_append,List.length_cons,List.length_nil,Pr.cs_len]; omega))] [0,1,2,6] [] hcx hq
theorem rnC_2(hx0:prO u=o)(hx1:y=true)(cx:Cx)(hcx:cx.n=36){Q:PExit->S->Prop}(hq:Q (.ret) (S.mk [(1,vI6 o),(2,vL 4 (Pr.cs (rnA_f dg (prK u) l0))),(6,.uniq 46 4 (Pr.cs (rnA_f dg (prK u) l0)))] [] xe)):PW prog cx (Option.getD (Func.body f142) Code.skip) (rn0 u o l0 xe) Q:=
 pw mdN7 36 [sl (Pr.cs_len (prK u)),lq (@rnA u o default dg hwk hdg xe l0 hN hv),rp 3 (et1 hx0),cl hh,rp 2 (et1 hx0),bf1 (bnF hx1)] [0,1,2,6] [] hcx hq
theorem rnC_3(hx0:¬prO u=o)(cx:Cx)(hcx:cx.n=36){Q:PExit->S->Prop}(hq:Q (.ret) (S.mk [(1,vI6 o),(2,vL 4 (Pr.cs (rnA_f dg (prK u) l0))),(6,.uniq 46 4 (Pr.cs (rnA_f dg (prK u) l0)))] [] xe)):PW prog cx (Option.getD (Func.body f142) Code.skip) (rn0 u o l0 xe) Q:=
 pw mdN7 36 [sl (Pr.cs_len (prK u)),lq (@rnA u o default dg hwk hdg xe l0 hN hv),rp 5 (en1 hx0),bf false] [0,1,2,6] [] hcx hq
end
def rnK(o:Int):Nat->Pr->List Pr->List Pr
 | 0,_,l=>l
 | d+1,u,l=>if prO u=o/\(rnA_f (rnK o d) (prK u) l).any (fun w=>rqF w u)=false then rnA_f (rnK o d) (prK u) l++[u] else rnA_f (rnK o d) (prK u) l
theorem rnA_len{d:Nat}{dg:Pr->List Pr->List Pr}:∀ (ks:List Pr) (l:List Pr),(∀w l,w∈ks->(dg w l).length<=l.length+bulkPs (prL w))->(rnA_f dg ks l).length<=l.length+bulkPss (Pr.cs ks)
 | [],l,_=>by simp [rnA_f]
 | x::r,l,h=>by
  have ih:=rnA_len (d:=d) r (dg x l) (fun w l hw=>h w l (List.mem_cons_of_mem _ hw))
  have h1:=h x l List.mem_cons_self
  have h2:bulkPss (Pr.cs (x::r))=bulkPs (prL x)+bulkPss (Pr.cs r):=by simp only [Pr.cs,bulkPss,Pr.c_eq]
  rw [rnA_f]
  omega
theorem rnK_len(o:Int):∀ (d:Nat) (u:Pr) (l:List Pr),(rnK o d u l).length<=l.length+bulkPs (prL u)
 | 0,u,l=>by simp [rnK]
 | d+1,u,l=>by
  have h1:=rnA_len (d:=d) (prK u) l (fun w l _=>rnK_len o d w l)
  have h2:=pr_blk u
  rw [rnK]
  split
  ·simp only [List.length_append,List.length_cons,List.length_nil]; omega
  ·omega
theorem rn_ok(o:Int):∀ (d:Nat) (u:Pr) (l:List Pr) (xe:Ext),bulkPs (prL u)<d->d<=100000001->l.length+bulkPs (prL u)<=1000000000->(Ob.own 142 [.agg (prL u),.int .i64 o,.nilsl] 2 46 4 (Pr.cs l) xe (.own 46 4 (Pr.cs (rnK o d u l))) xe).ok prog
 | 0,_,_,_,h,_,_=>by omega
 | d+1,u,l,xe,h,hs,hl=>by
  have hk:=pr_blk u
  have hwk:∀ (w:Pr) (l:List Pr) (e:Ext),w∈prK u->l.length+bulkPs (prL w)<=1000000000->(Ob.own 142 [.agg (prL w),.int .i64 o,.nilsl] 2 46 4 (Pr.cs l) e (.own 46 4 (Pr.cs (rnK o d w l))) e).ok prog:=fun w l e hw hl=>rn_ok o d w l e (by have:=Pr.mem hw; omega) oM hl
  have hdg:∀ (w:Pr) (l:List Pr),w∈prK u->(rnK o d w l).length<=l.length+bulkPs (prL w):=fun w l _=>rnK_len o d w l
  have hlen:=rnA_len (d:=d) (prK u) l (fun w l hw=>rnK_len o d w l)
  have hN:(prK u).length<=1000000000:=by have:=Pr.bulk (prK u); omega
  have hL:(rnA_f (rnK o d) (prK u) l).length<=1000000000:=by omega
  have hv:l.length+bulkPss (Pr.cs (List.drop 0 (prK u)))<=1000000000:=by rw [List.drop_zero]; omega
  have hh:=rhT (rnA_f (rnK o d) (prK u) l) u oM hL
  have hb:(rnA_f (rnK o d) (prK u) l).length<=1000000000->List.length (Pr.cs (rnA_f (rnK o d) (prK u) l)++[prL u]) * (55+1)<=140737488355328:=fun h=>by simp only [List.length_append,Pr.cs_len,List.length_cons,List.length_nil]; omega
  rw [rnK]
  split
  ·rename_i hx
   refine Ob.own_frag (n:=36) (pe := .ret) (s1:=S.mk [(1,vI6 o),(2,vL 4 (Pr.cs (rnA_f (rnK o d) (prK u) l)++[prL u])),(6,.uniq 46 4 (Pr.cs (rnA_f (rnK o d) (prK u) l++[u])))] [] xe) (c:=(f142).body.getD .skip) (fn:=f142) kR kR kR sM kR (fun cx hcx=>rnC_1 u o l _ (rnK o d) hwk hdg hN hv hL hh xe hx.1 hx.2 cx hcx ?_) kR
   exact ⟨rfl,by rw [Pr.cs_snoc]⟩
  ·rename_i hx
   by_cases h0:prO u=o
   ·have h1:(rnA_f (rnK o d) (prK u) l).any (fun w=>rqF w u)=true:=by
     cases h2:(rnA_f (rnK o d) (prK u) l).any (fun w=>rqF w u)
     ·exact (hx ⟨h0,h2⟩).elim
     ·rfl
    exact Ob.own_frag (n:=36) (pe := .ret) (c:=(f142).body.getD .skip) (fn:=f142) kR kR kR sM kR (fun cx hcx=>rnC_2 u o l _ (rnK o d) hwk hdg hN hv hL hh xe h0 h1 cx hcx ⟨rfl,rfl⟩) kR
   ·exact Ob.own_frag (n:=36) (pe := .ret) (c:=(f142).body.getD .skip) (fn:=f142) kR kR kR sM kR (fun cx hcx=>rnC_3 u o l _ (rnK o d) hwk hdg hN hv hL hh xe h0 cx hcx ⟨rfl,rfl⟩) kR
end Go.Proofs.YtaakmholhliodaaGreatDoor
