/- Values of Go as plain data, an evaluator over them, and what the functions of the program return; part k. -/
import Derived.Test.YtgonmmckkikmaaaGreatXj
import Derived.Sort.KeysCollected
import Derived.Sort.OwnSorted
import Derived.Maps.AppendAt
import Derived.Maps.RangeWalk
import Derived.WalkKit
import Derived.Tactics
import Derived.KernelRfl
import Derived.Test.YtgonmmckkikmaaaGreatXe
set_option linter.unusedSectionVars false
set_option linter.unusedSimpArgs false
set_option linter.unusedVariables false
namespace Go.Proofs.YtgonmmckkikmaaaGreat
open Go.RowKit Go.Maps Go.Sort
theorem u9:Tryz.prog.underlying 9=some .string:=by kernel_rfl
theorem u4:Tryz.prog.underlying 4=some .bool:=by kernel_rfl
theorem u50:Tryz.prog.underlying 50=some (.slice 9):=by kernel_rfl
theorem u235:Tryz.prog.underlying 235=some (.map 9 4):=by kernel_rfl
theorem law9:Keyed Tryz.prog 9:=string_keyed u9
theorem info9:(Tryz.prog.info? 9).map (fun i=>(i.zero,i.size,i.bytes))=some (some (.string ⟨#[]⟩),1,16):=by kernel_rfl
structure BB where
 b:Bool
theorem plainElem_bool_inv{H:Type}{v:Value}{y:DataW H × List MemPlace}(h:plainElem Tryz.prog 4 v=some y):∃c:BB,v = .bool c.b:=by
 unfold plainElem at h
 rw [u4] at h
 cases v <;> simp at h
 exact ⟨⟨_⟩,rfl⟩
set_option maxRecDepth 100000 in
set_option maxHeartbeats 1000000 in
theorem sorted_any{H:Type}(bs b n:Nat)(D0:DataW H)(w:World)(hset:w.cell? ⟨bs,0,none⟩=some (.map (some b)))(hown:w.ownsMap Tryz.prog 9 (plainElem Tryz.prog 4) b n D0)(hbytes:16 * Maps.size D0<=140737488355328) :
  Calls Tryz.prog 156 #[.pointer (some ⟨bs,0,none⟩)] w fun e w'=>∃ (v:Value) (ss:List (List UInt8)),e = .returned v/\ss.Perm (strKeys D0) /\
   w'.ownsRow w.heap.size 9 1 v ss.length ((ss.mergeSort (fun x y=>decide (x<=y))).map encStr)/\Below w.heap.size w w':=by
 obtain ⟨i0,hi,hz0,hz1,hz2⟩:=info_parts info9
 have hbl:=hown.lt
 go_enter Tryz.func156,Tryz.ntmps156
 go_wp2_with (first
  | (at_range; refine wpList_range_own _ rfl _ 235 rfl 9 4 law9 u235 _ b n _ rfl hown ?_; intro w0 hrg0 hg0 hs0)
  | go_in)
 go_frame
 go_loopw [3] (fun v wr=>∃ (left:Lit->Bool) (cnt:Nat) (ss:List (List UInt8)),wr.ranges Tryz.prog 9 (plainElem Tryz.prog 4) b w.heap.size n D0 left cnt/\ss.length+cnt<=Maps.size D0 /\
   wr.ownsRow w.heap.size 9 1 v ss.length (ss.map encStr)/\Collected D0 left ss/\Below w.heap.size w wr)
  (fun _ wr=>wr.rangeLeft b w.heap.size)
 case atStart=>
  exact ⟨_,_,[],hrg0,by simp,⟨rfl,.inl ⟨rfl,rfl⟩⟩,Collected.start D0,(Below.refl _ _).grown hg0 (Nat.le_refl _) (fun j hj=>by cases hj)⟩
 case round=>
  obtain ⟨left,cnt,ss,hrg,hcs,hrow,hC,hnx⟩:=hrel
  go_wp2_with (first
   | (at_next; refine wpList_next_ranges _ rfl _ rfl 9 law9 (plainElem Tryz.prog 4) encStr (fun c:BB=>Value.bool c.b) (fun key kl hk=>by obtain ⟨x,hx,_⟩:=Maps.keyOf_str u9 hk; exact ⟨x,hx⟩) (fun v y hv=>plainElem_bool_inv hv) b w.heap.size n _ _ _ rfl hrg ?_ ?_)
   | go_in)
  ·-- nothing is left
   intro hc0 hl0
   rcases hrow.2 with ⟨hnil,hn0⟩ | ⟨g,cap,cur,rfl,hbase,hb,h1,h2,h3,h4⟩
   ·subst hnil
    have hss:ss=[]:=List.eq_nil_of_length_eq_zero hn0
    subst hss
    have hc:=Tryz.slices_Sort_string_none none 0 wr
    go_wp2_with (go_at_call 169; refine hc.mono ?_; rintro e w' ⟨rfl,rfl⟩)
    go_ret
    exact ⟨_,[],rfl,hC.perm hown law9 u9 hl0,by simpa using hrow,hnx⟩
   ·have hH:Holds encStr wr g 0 ss.toArray:=holds_of_block hb (by simpa using h4)
    have hgl:g<wr.heap.size:=(Array.getElem?_eq_some_iff.1 hb).1
    have hc:=Tryz.slices_Sort_string g 0 cap ss wr hH hgl (by omega)
    go_wp2_with (go_at_call 169; refine hc.mono ?_; rintro e w' ⟨rfl,nn,os,rfl⟩)
    go_ret
    exact ⟨_,ss,rfl,hC.perm hown law9 u9 hl0,ownsRow_sorted (by simp) hbase hb h1 h2 h3,hnx.grown (grownBy_sorted _) hnx.size (fun j hj=>by cases hj; exact hbase)⟩
  ·-- an entry has come
   intro x c kl yd yp w2 cnt2 hkey hlk hv hat hrg2 hlt hg2 hs2 hen
   obtain ⟨x',ex,rfl,_⟩:=Maps.keyOf_str u9 hkey
   obtain rfl:x=x':=encStr_inj ex
   have hrow2:=hrow.kept hg2 (Or.inr (row_ne_iter hrow hrg).symm)
   clear hs2
   go_wp2_with (first
    | (at_builtin; refine wpList_append_own _ rfl _ _ 50 rfl w.heap.size 9 i0 (.string ⟨#[]⟩) 1 16 u50 hi hz0 hz1 hz2 rfl (by decide) _ _ _ rfl (hrow2.alloc _) ⟨w2.heap.size,0,none⟩ 1 1 [encStr x] rfl rfl (cell_one_new _ _ _) (by simp [Value.oneCell',encStr]) (by unfold maxLen at *; omega) (by omega) (by have:=hnx.size; have:=hg2.size; simp; omega) ?_; intro v' w3 hown' hg3 hnil3; go_frame)
    | go_in)
   have hrg3:=(hrg2.alloc _).kept hg3 (row_ne_low hrow2 hbl) (row_ne_iter hrow2 hrg2)
   go_roundw
   case rel=>
    refine ⟨_,cnt2,ss++[x],hrg3,by simp; omega,by simpa using hown',hC.step hlk hat,?_⟩
    exact ((hnx.grown hg2 hnx.size (fun j hj=>by cases hj; exact Nat.le_refl _)).alloc (by have:=hnx.size; have:=hg2.size; omega) _).grown hg3 (by have:=hnx.size; have:=hg2.size; simp; omega) (fun j hj=>(hrow2.lt j hj).1)
   case measure=>rw [hrg3.left_eq,hrg.left_eq]; exact hlt
open Go.RowKit Go.Maps Go.Sort Go.Pv
open Go.WideElems (Fit rd rg)
theorem mono_below{g:Gh}{w w':World}(hb:Below w.heap.size w w'):Mono g w g w':=by
 refine ⟨fun _ _ h=>h,fun b o v hc hf=>⟨?_,hf⟩,fun b cur e hh=>⟨cur,?_,rfl⟩,fun _ _ _ h=>h⟩
 ·have hlt:b<w.heap.size:=by
   unfold World.cell? at hc
   cases hh:w.heap[b]? with
   | none=>simp [hh] at hc
   | some x=>exact (Array.getElem?_eq_some_iff.1 hh).1
  rw [<-hc]
  exact World.cell?_of_block (hb.block b hlt)
 ·exact (hb.block b (Array.getElem?_eq_some_iff.1 hh).1).trans hh
theorem ent_below{e:Ext}{g:Gh}{l:LG}{w w':World}(he:Ent e g l w)(hb:Below w.heap.size w w'):Ent e g l w' where
 ex x cs hx:=by
  obtain ⟨b,h1,h2,hE⟩:=he.ex x cs hx
  refine ⟨b,h1,h2,?_⟩
  have hm:Mono g w g w':=mono_below hb
  have hh:=hb.block b (he.olt b _ h2)
  rcases hE with ⟨h3,cur,te,h4,h5,h6⟩ | hE
  ·refine .inl ⟨h3,cur,te,hh.trans h4,h5,fun j hj=>⟨(h6 j hj).1,(h6 j hj).2.1,?_⟩⟩
   exact (h6 j hj).2.2.keep hm (fun _ _ _=>rfl) fun b' hu=>⟨hu,rfl,hb.block b' (he.olt b' _ (he.uo _ b' hu))⟩
  ·exact .inr (hE.keep hm (fun _ _ _ h=>h) rfl hh)
 olt b o ho:=Nat.lt_of_lt_of_le (he.olt b o ho) hb.size
 uo:=he.uo
 fresh:=⟨fun b h=>he.fresh.1 b (Nat.le_trans hb.size h),he.fresh.2⟩
 xlt n b h:=Nat.lt_of_lt_of_le (he.xlt n b h) hb.size
 only:=he.only
def sortB(l:List ByteArray):List ByteArray:=((l.map fun x=>x.data.toList).mergeSort leB).map fun x=>⟨x.toArray⟩
theorem rep_names{g:Gh}{w:World}{base:Nat}{v:Value}{n:Nat}{ts:List (List UInt8)}(h:w.ownsRow base 9 1 v n (ts.map encStr))(hfix:∀b,base<=b->g.M b=none):Rep g w (.sl 1 ((ts.map fun x=>(⟨x.toArray⟩:ByteArray)).map fun s=>[.str s])) v:=by
 obtain ⟨h0,h1⟩:=h
 simp only [List.length_map,Nat.mul_one] at h0
 rcases h1 with ⟨rfl,hn⟩ | ⟨b,cap,cur,rfl,hbase,hb,h1,h2,h3,h4⟩
 ·have:ts=[]:=List.eq_nil_of_length_eq_zero (h0.trans hn)
  subst this
  exact .slnil 1
 ·subst h0
  have hlen:((ts.map fun x=>(⟨x.toArray⟩:ByteArray)).map fun s=>[PV.str s]).length=ts.length:=by simp
  have hat:∀i,i<ts.length->cur[i]?=some (encStr (ts.getD i [])):=fun i hi=>by
   have:=congrArg (·[i]?) h4
   simp only [Nat.mul_one,List.getElem?_map] at this
   rw [List.getElem?_take_of_lt hi] at this
   simp only [Array.getElem?_toList] at this
   rw [this]
   simp [List.getD,List.getElem?_eq_getElem hi]
  have:=Rep.sl (g:=g) (w:=w) 1 ((ts.map fun x=>(⟨x.toArray⟩:ByteArray)).map fun s=>[PV.str s]) ⟨b,0,none⟩ cap (fun i _=>encStr (ts.getD i [])) (by rw [hlen]; exact h1) h2 (by simp) ?_ ?_ ?_ ?_
  ·rw [hlen] at this; exact this
  ·intro i j hi hj
   rw [hlen] at hi
   have hj0:j=0:=by omega
   subst hj0
   have e1:(Addr.add ⟨b,0,none⟩ (i * 1+0))=⟨b,i,none⟩:=by unfold Addr.add; simp; intro h; exact h.symm
   rw [e1]
   simp [World.cell?,hb,hat i hi]
  ·intro i j hi hj k hk
   rw [hfix b hbase] at hk
   cases hk
  ·intro i j hi hj; rfl
  ·intro i j hi hj
   have hj0:j=0:=by simp at hj; exact hj
   subst hj0
   rw [hlen] at hi
   simp only [List.getElem_map,List.getElem_cons_zero,List.getD,List.getElem?_eq_getElem hi,Option.getD_some]
   exact .str _
theorem sorted_ok(n k:Nat)(e:Ext)(es:List (ByteArray × PV))(hn:lk e n=some [.v (.mp k)])(hk:lk e k=some [.mm es])(hv:∀x∈es,∃b,x.2 = .bool b)(hs:∀x∈es,x.1.size<=maxLen)(hc:16 * es.length<=140737488355328) :
  (Ob.eff 156 [.xp n 0] e (.ret (.sl 1 ((sortB (es.map (·.1))).map fun s=>[.str s]))) e).ok Tryz.prog:=by
 refine ⟨by kernel_rfl,fun vs g l w ha he=>?_⟩
 obtain ⟨v,vs',rfl,hr,ha'⟩:=ha.inv_cons
 obtain rfl:=ha'.inv_nil
 obtain ⟨bs,hbs,hobs,hE⟩:=he.ex n _ hn
 obtain ⟨bm,hbm,hobm,hEm⟩:=he.ex k _ hk
 replace hbs:g.X n=some bs:=hbs
 replace hbm:g.X k=some bm:=hbm
 have hv0:v = .pointer (some ⟨bs,0,none⟩):=by
  cases hr with
  | xp _ _ b h=>rw [hbs] at h; injection h with h; rw [h]
 subst hv0
 have hset:w.cell? ⟨bs,0,none⟩=some (.map (some bm)):=by
  rcases hE with ⟨h3,cur,te,h4,h5,h6⟩ | ⟨es2,hi,-⟩ | ⟨n0,c0,ps0,-,e0,-⟩
  rotate_left
  ·exact hi.elim
  ·injection e0 with e0 _; cases e0
  ·have h7:=(h6 0 (by simp)).2.2
   have h8:Rep g w (.mp k) (cur.getD 0 undef):=h7
   have h9:cur.getD 0 undef = .map (some bm):=by
    generalize cur.getD 0 undef=u at h8
    cases h8 with
    | mp _ b h=>rw [hbm] at h; injection h with h; rw [h]
   have h10:0<cur.size:=by simp at h5; omega
   have h11:cur[0]?=some (.map (some bm)):=by
    rw [<-h9]
    simp [Array.getD,h10]
   simp [World.cell?,h4,h11]
 obtain ⟨arr,clock,hh,hst,hsz,hents⟩:∃arr clock,w.heap[bm]?=some (.map arr clock)/\MapR g w es arr clock:=by
  rcases hEm with ⟨h3,cur,te,h4,h5,h6⟩ | ⟨es2,hi,hM,arr,clock,h1,h2⟩ | ⟨n0,c0,ps0,-,e0,-⟩
  rotate_right
  ·injection e0 with e0 _; cases e0
  ·exact ((h6 0 (by simp)).2.2).elim
  ·have:es=es2:=hi
   subst this
   exact ⟨arr,clock,h1,h2⟩
 have hrd:∀j (h:j<es.length) (h':j<arr.size),∃b,rd (H:=Unit) Tryz.prog 9 (plainElem Tryz.prog 4) arr[j]=some (.string es[j].1.data.toList,.lit (.bool b)):=fun j hj hj'=>by
  obtain ⟨h1,h2⟩:=hents j hj hj'
  obtain ⟨b,hb⟩:=hv es[j] (List.getElem_mem hj)
  rw [hb] at h2
  have h3:arr[j].val = .bool b:=by generalize arr[j].val=u at h2; cases h2; rfl
  refine ⟨b,?_⟩
  have h4:keyOf Tryz.prog 9 arr[j].key=some (.string es[j].1.data.toList):=by
   rw [h1]
   simp [keyOf,mapKey,u9,hs es[j] (List.getElem_mem hj)]
  have h5:plainElem (H:=Unit) Tryz.prog 4 arr[j].val=some (.lit (.bool b),[]):=by
   rw [h3]
   simp [plainElem,u4]
  exact by simp [WideElems.rd,h4,h5]
 have hown:w.ownsMap (H:=Unit) Tryz.prog 9 (plainElem Tryz.prog 4) bm arr.size (.map ((arr.toList.map (rg Tryz.prog 9 (plainElem Tryz.prog 4))).foldr DataW.insert [])):=by
  refine ⟨arr,clock,hh,⟨?_,hst,fun x hx=>?_⟩,Nat.le_refl _,rfl⟩
  ·unfold maxLen; omega
  ·obtain ⟨j,hj,e1⟩:=List.getElem_of_mem hx
   have hj':j<arr.size:=by simpa using hj
   obtain ⟨b,hb⟩:=hrd j (by omega) hj'
   have e2:arr[j]=x:=by simpa using e1
   rw [e2] at hb
   exact ⟨_,hb⟩
 have hperm:(strKeys (DataW.map ((arr.toList.map (rg (H:=Unit) Tryz.prog 9 (plainElem Tryz.prog 4))).foldr DataW.insert []))).Perm (es.map fun x=>x.1.data.toList):=by
  show List.Perm (List.map (fun (p:Lit × DataW Unit)=>strOf p.1) _) _
  have h1:=(WideShapes.sorted_perm (arr.toList.map (rg (H:=Unit) Tryz.prog 9 (plainElem Tryz.prog 4)))).map fun (p:Lit × DataW Unit)=>strOf p.1
  refine h1.trans (List.Perm.of_eq ?_)
  apply List.ext_getElem
  ·simp [hsz]
  ·intro j hj hj'
   have hja:j<arr.size:=by simpa using hj
   have hje:j<es.length:=by omega
   obtain ⟨b,hb⟩:=hrd j hje hja
   simp only [List.getElem_map,Array.getElem_toList]
   rw [WideElems.rg_of hb]
   rfl
 have hsize:Maps.size (DataW.map ((arr.toList.map (rg (H:=Unit) Tryz.prog 9 (plainElem Tryz.prog 4))).foldr DataW.insert []))=es.length:=by
  have:=hperm.length_eq
  simpa [strKeys,Maps.size_eq] using this
 refine (sorted_any bs bm arr.size _ w hset hown (by rw [hsize]; exact hc)).mono ?_
 rintro en w' ⟨v,ss,rfl,hp,hrow,hbel⟩
 refine ⟨_,e,g,l,⟨rfl,rfl⟩,?_,ent_below he hbel,mono_below hbel,hbel.size,fun b hb _=>⟨hbel.block b hb,rfl⟩,fun b o ho => .inr (by rw [ho]; rfl),hbel.os,hbel.tape,hbel.output⟩
 show Rep g w' _ v
 have e1:ss.mergeSort leB=(es.map fun x=>x.1.data.toList).mergeSort leB:=mergeSort_of_perm (hp.trans hperm)
 have hrow':w'.ownsRow w.heap.size 9 1 v ss.length ((ss.mergeSort leB).map encStr):=hrow
 rw [e1] at hrow'
 have:=rep_names (g:=g) hrow' fun b hb=>he.fresh.1 b hb
 unfold sortB
 have e2:(es.map (·.1)).map (fun x:ByteArray=>x.data.toList)=es.map fun x=>x.1.data.toList:=by simp
 rw [e2]
 exact this
end Go.Proofs.YtgonmmckkikmaaaGreat
