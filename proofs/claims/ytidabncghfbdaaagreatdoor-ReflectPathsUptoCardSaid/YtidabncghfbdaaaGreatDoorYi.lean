/- Values of Go as plain data, an evaluator over them, and what the functions of the program return; part Yi. -/
import Derived.Test.YtidabncghfbdaaaGreatDoorXs
import Derived.Sort.KeysCollected
import Derived.Sort.OwnSorted
import Derived.Maps.AppendAt
import Derived.Maps.RangeWalk
import Derived.WalkKit
import Derived.Tactics
import Derived.KernelRfl
import Derived.Test.YtidabncghfbdaaaGreatDoorXe
import Derived.Test.YtidabncghfbdaaaGreatDoorYc
import Derived.Test.YtidabncghfbdaaaGreatDoorXh
import Derived.Test.YtidabncghfbdaaaGreatDoorYh
import Derived.Test.YtidabncghfbdaaaGreatDoorYa
set_option linter.unusedSectionVars false
set_option linter.unusedSimpArgs false
set_option linter.unusedVariables false
namespace Go.Proofs.YtidabncghfbdaaaGreatDoor
open Go.Proofs.Tryz
open Go.RowKit Go.Maps Go.Sort
theorem pu9:Tryz.prog.underlying 9=some .string:=by kernel_rfl
theorem u4:Tryz.prog.underlying 4=some .bool:=by kernel_rfl
theorem u30:Tryz.prog.underlying 30=some (.slice 9):=by kernel_rfl
theorem u228:Tryz.prog.underlying 228=some (.map 9 4):=by kernel_rfl
theorem law9:Keyed Tryz.prog 9:=string_keyed pu9
theorem info9:(Tryz.prog.info? 9).map (fun i=>(i.zero,i.size,i.bytes))=some (some (.string ⟨#[]⟩),1,16):=by kernel_rfl
structure BB where
 b:Bool
theorem plainElem_bool_inv{H:Type}{v:Value}{y:DataW H × List MemPlace}(h:plainElem Tryz.prog 4 v=some y):∃c:BB,v = .bool c.b:=by
 unfold plainElem at h
 rw [u4] at h
 cases v <;> simp at h
 exact ⟨⟨_⟩,rfl⟩
set_option maxRecDepth 100000 in
set_option maxHeartbeats 1000000 in
theorem sorted_any{H:Type}(bs b n:Nat)(D0:DataW H)(w:World)(hset:w.cell? ⟨bs,0,none⟩=some (.map (some b)))(hown:w.ownsMap Tryz.prog 9 (plainElem Tryz.prog 4) b n D0)(hbytes:16 * Maps.size D0<=140737488355328) :
  Calls Tryz.prog 151 #[.pointer (some ⟨bs,0,none⟩)] w fun e w'=>∃ (v:Value) (ss:List (List UInt8)),e = .returned v/\ss.Perm (strKeys D0) /\
   w'.ownsRow w.heap.size 9 1 v ss.length ((ss.mergeSort (fun x y=>decide (x<=y))).map encStr)/\Below w.heap.size w w':=by
 obtain ⟨i0,hi,hz0,hz1,hz2⟩:=info_parts info9
 have hbl:=hown.lt
 go_enter Tryz.func151,Tryz.ntmps151
 go_wp2_with (first
  | (at_range; refine wpList_range_own _ rfl _ 228 rfl 9 4 law9 u228 _ b n _ rfl hown ?_; intro w0 hrg0 hg0 hs0)
  | go_in)
 go_frame
 go_loopw [3] (fun v wr=>∃ (left:Lit->Bool) (cnt:Nat) (ss:List (List UInt8)),wr.ranges Tryz.prog 9 (plainElem Tryz.prog 4) b w.heap.size n D0 left cnt/\ss.length+cnt<=Maps.size D0 /\
   wr.ownsRow w.heap.size 9 1 v ss.length (ss.map encStr)/\Collected D0 left ss/\Below w.heap.size w wr)
  (fun _ wr=>wr.rangeLeft b w.heap.size)
 case atStart=>
  exact ⟨_,_,[],hrg0,by simp,⟨rfl,.inl ⟨rfl,rfl⟩⟩,Collected.start D0,(Below.refl _ _).grown hg0 (Nat.le_refl _) (fun j hj=>by cases hj)⟩
 case round=>
  obtain ⟨left,cnt,ss,hrg,hcs,hrow,hC,hnx⟩:=hrel
  go_wp2_with (first
   | (at_next; refine wpList_next_ranges _ rfl _ rfl 9 law9 (plainElem Tryz.prog 4) encStr (fun c:BB=>Value.bool c.b) (fun key kl hk=>by obtain ⟨x,hx,_⟩:=Maps.keyOf_str pu9 hk; exact ⟨x,hx⟩) (fun v y hv=>plainElem_bool_inv hv) b w.heap.size n _ _ _ rfl hrg ?_ ?_)
   | go_in)
  ·-- nothing is left
   intro hc0 hl0
   rcases hrow.2 with ⟨hnil,hn0⟩ | ⟨g,cap,cur,rfl,hbase,hb,h1,h2,h3,h4⟩
   ·subst hnil
    have hss:ss=[]:=List.eq_nil_of_length_eq_zero hn0
    subst hss
    have hc:=Tryz.slices_Sort_string_none none 0 wr
    go_wp2_with (go_at_call 183; refine hc.mono ?_; rintro e w' ⟨rfl,rfl⟩)
    go_ret
    exact ⟨_,[],rfl,hC.perm hown law9 pu9 hl0,by simpa using hrow,hnx⟩
   ·have hH:Holds encStr wr g 0 ss.toArray:=holds_of_block hb (by simpa using h4)
    have hgl:g<wr.heap.size:=(Array.getElem?_eq_some_iff.1 hb).1
    have hc:=Tryz.slices_Sort_string g 0 cap ss wr hH hgl (by omega)
    go_wp2_with (go_at_call 183; refine hc.mono ?_; rintro e w' ⟨rfl,nn,os,rfl⟩)
    go_ret
    exact ⟨_,ss,rfl,hC.perm hown law9 pu9 hl0,ownsRow_sorted (by simp) hbase hb h1 h2 h3,hnx.grown (grownBy_sorted _) hnx.size (fun j hj=>by cases hj; exact hbase)⟩
  ·-- an entry has come
   intro x c kl yd yp w2 cnt2 hkey hlk hv hat hrg2 hlt hg2 hs2 hen
   obtain ⟨x',ex,rfl,_⟩:=Maps.keyOf_str pu9 hkey
   obtain rfl:x=x':=encStr_inj ex
   have hrow2:=hrow.kept hg2 (Or.inr (row_ne_iter hrow hrg).symm)
   clear hs2
   go_wp2_with (first
    | (at_builtin; refine wpList_append_own _ rfl _ _ 30 rfl w.heap.size 9 i0 (.string ⟨#[]⟩) 1 16 u30 hi hz0 hz1 hz2 rfl (by decide) _ _ _ rfl (hrow2.alloc _) ⟨w2.heap.size,0,none⟩ 1 1 [encStr x] rfl rfl (cell_one_new _ _ _) (by simp [Value.oneCell',encStr]) (by unfold maxLen at *; omega) (by omega) (by have:=hnx.size; have:=hg2.size; simp; omega) ?_; intro v' w3 hown' hg3 hnil3; go_frame)
    | go_in)
   have hrg3:=(hrg2.alloc _).kept hg3 (row_ne_low hrow2 hbl) (row_ne_iter hrow2 hrg2)
   go_roundw
   case rel=>
    refine ⟨_,cnt2,ss++[x],hrg3,by simp; omega,by simpa using hown',hC.step hlk hat,?_⟩
    exact ((hnx.grown hg2 hnx.size (fun j hj=>by cases hj; exact Nat.le_refl _)).alloc (by have:=hnx.size; have:=hg2.size; omega) _).grown hg3 (by have:=hnx.size; have:=hg2.size; simp; omega) (fun j hj=>(hrow2.lt j hj).1)
   case measure=>rw [hrg3.left_eq,hrg.left_eq]; exact hlt
open Go.RowKit Go.Maps Go.Sort Go.Pv
open Go.WideElems (Fit rd rg)
theorem mono_bel{g:Gh}{w w':World}(hb:Below w.heap.size w w'):Mono g w g w':=by
 refine ⟨fun _ _ h=>h,fun b o v hc hf=>⟨?_,hf⟩,fun b cur e hh=>⟨cur,?_,rfl⟩,fun _ _ _ h=>h,fun b arr clk hh hm=>⟨(hb.block b (Array.getElem?_eq_some_iff.1 hh).1).trans hh,hm⟩⟩
 ·have hlt:b<w.heap.size:=by
   unfold World.cell? at hc
   cases hh:w.heap[b]? with
   | none=>simp [hh] at hc
   | some x=>exact (Array.getElem?_eq_some_iff.1 hh).1
  rw [<-hc]
  exact World.cell?_of_block (hb.block b hlt)
 ·exact (hb.block b (Array.getElem?_eq_some_iff.1 hh).1).trans hh
theorem ent_bel{e:Ext}{g:Gh}{l:LG}{w w':World}(he:Ent e g l w)(hb:Below w.heap.size w w'):Ent e g l w' where
 ex x cs hx:=by
  obtain ⟨b,h1,h2,hE⟩:=he.ex x cs hx
  refine ⟨b,h1,h2,?_⟩
  have hm:Mono g w g w':=mono_bel hb
  have hh:=hb.block b (he.olt b _ h2)
  rcases hE with ⟨h3,cur,te,h4,h5,h6⟩ | hE
  ·refine .inl ⟨h3,cur,te,hh.trans h4,h5,fun j hj=>⟨(h6 j hj).1,(h6 j hj).2.1,?_⟩⟩
   exact (h6 j hj).2.2.keep hm (fun _ _ _=>rfl) fun b' hu=>⟨hu,rfl,hb.block b' (he.olt b' _ (he.uo _ b' hu))⟩
  ·exact .inr (hE.keep hm (fun _ _ _ h=>h) rfl hh)
 olt b o ho:=Nat.lt_of_lt_of_le (he.olt b o ho) hb.size
 uo:=he.uo
 fresh:=⟨fun b h=>he.fresh.1 b (Nat.le_trans hb.size h),he.fresh.2⟩
 xlt n b h:=Nat.lt_of_lt_of_le (he.xlt n b h) hb.size
 only:=he.only
 glb:=he.glb.mono (mono_bel hb)
def sortB(l:List ByteArray):List ByteArray:=((l.map fun x=>x.data.toList).mergeSort leB).map fun x=>⟨x.toArray⟩
theorem rep_names{g:Gh}{w:World}{base:Nat}{v:Value}{n:Nat}{ts:List (List UInt8)}(h:w.ownsRow base 9 1 v n (ts.map encStr))(hfix:∀b,base<=b->g.M b=none):Rep g w (.sl 1 ((ts.map fun x=>(⟨x.toArray⟩:ByteArray)).map fun s=>[.str s])) v:=by
 obtain ⟨h0,h1⟩:=h
 simp only [List.length_map,Nat.mul_one] at h0
 rcases h1 with ⟨rfl,hn⟩ | ⟨b,cap,cur,rfl,hbase,hb,h1,h2,h3,h4⟩
 ·have:ts=[]:=List.eq_nil_of_length_eq_zero (h0.trans hn)
  subst this
  exact .slnil 1
 ·subst h0
  have hlen:((ts.map fun x=>(⟨x.toArray⟩:ByteArray)).map fun s=>[PV.str s]).length=ts.length:=by simp
  have hat:∀i,i<ts.length->cur[i]?=some (encStr (ts.getD i [])):=fun i hi=>by
   have:=congrArg (·[i]?) h4
   simp only [Nat.mul_one,List.getElem?_map] at this
   rw [List.getElem?_take_of_lt hi] at this
   simp only [Array.getElem?_toList] at this
   rw [this]
   simp [List.getD,List.getElem?_eq_getElem hi]
  have:=Rep.sl (g:=g) (w:=w) 1 ((ts.map fun x=>(⟨x.toArray⟩:ByteArray)).map fun s=>[PV.str s]) ⟨b,0,none⟩ cap (fun i _=>encStr (ts.getD i [])) (by rw [hlen]; exact h1) h2 (by simp) ?_ ?_ ?_ ?_
  ·rw [hlen] at this; exact this
  ·intro i j hi hj
   rw [hlen] at hi
   have hj0:j=0:=by omega
   subst hj0
   have e1:(Addr.add ⟨b,0,none⟩ (i * 1+0))=⟨b,i,none⟩:=by unfold Addr.add; simp; intro h; exact h.symm
   rw [e1]
   simp [World.cell?,hb,hat i hi]
  ·intro i j hi hj k hk
   rw [hfix b hbase] at hk
   cases hk
  ·intro i j hi hj; rfl
  ·intro i j hi hj
   have hj0:j=0:=by simp at hj; exact hj
   subst hj0
   rw [hlen] at hi
   simp only [List.getElem_map,List.getElem_cons_zero,List.getD,List.getElem?_eq_getElem hi,Option.getD_some]
   exact .str _
theorem sorted_ok(n k:Nat)(e:Ext)(es:List (ByteArray × PV))(hn:lk e n=some [.v (.mp k)])(hk:lk e k=some [.mm (.s es)])(hv:∀x∈es,∃b,x.2 = .bool b)(hs:∀x∈es,x.1.size<=maxLen)(hc:16 * es.length<=140737488355328) :
  (Ob.eff 151 [.xp n 0] e (.ret (.sl 1 ((sortB (es.map (·.1))).map fun s=>[.str s]))) e).ok Tryz.prog:=by
 refine ⟨by kernel_rfl,fun vs g l w ha he=>?_⟩
 obtain ⟨v,vs',rfl,hr,ha'⟩:=ha.inv_cons
 obtain rfl:=ha'.inv_nil
 obtain ⟨bs,hbs,hobs,hE⟩:=he.ex n _ hn
 obtain ⟨bm,hbm,hobm,hEm⟩:=he.ex k _ hk
 replace hbs:g.X n=some bs:=hbs
 replace hbm:g.X k=some bm:=hbm
 have hv0:v = .pointer (some ⟨bs,0,none⟩):=by
  cases hr with
  | xp _ _ b h=>rw [hbs] at h; injection h with h; rw [h]
 subst hv0
 have hset:w.cell? ⟨bs,0,none⟩=some (.map (some bm)):=by
  rcases hE with ⟨h3,cur,te,h4,h5,h6⟩ | ⟨es2,hi,-⟩ | ⟨n0,c0,ps0,-,e0,-⟩
  rotate_left
  ·exact hi.elim
  ·injection e0 with e0 _; cases e0
  ·have h7:=(h6 0 (by simp)).2.2
   have h8:Rep g w (.mp k) (cur.getD 0 undef):=h7
   have h9:cur.getD 0 undef = .map (some bm):=by
    generalize cur.getD 0 undef=u at h8
    cases h8 with
    | mp _ b h=>rw [hbm] at h; injection h with h; rw [h]
   have h10:0<cur.size:=by simp at h5; omega
   have h11:cur[0]?=some (.map (some bm)):=by
    rw [<-h9]
    simp [Array.getD,h10]
   simp [World.cell?,h4,h11]
 obtain ⟨arr,clock,hh,hst,hsz,hents⟩:∃arr clock,w.heap[bm]?=some (.map arr clock)/\MapR Value.string g w es arr clock:=by
  rcases hEm with ⟨h3,cur,te,h4,h5,h6⟩ | ⟨es2,hi,hB⟩ | ⟨n0,c0,ps0,-,e0,-⟩
  rotate_right
  ·injection e0 with e0 _; cases e0
  ·exact ((h6 0 (by simp)).2.2).elim
  ·have:MM.s es=es2:=hi
   subst this
   obtain ⟨hM,arr,clock,h1,h2⟩:=hB
   exact ⟨arr,clock,h1,h2⟩
 have hrd:∀j (h:j<es.length) (h':j<arr.size),∃b,rd (H:=Unit) Tryz.prog 9 (plainElem Tryz.prog 4) arr[j]=some (.string es[j].1.data.toList,.lit (.bool b)):=fun j hj hj'=>by
  obtain ⟨h1,h2⟩:=hents j hj hj'
  obtain ⟨b,hb⟩:=hv es[j] (List.getElem_mem hj)
  rw [hb] at h2
  have h3:arr[j].val = .bool b:=by generalize arr[j].val=u at h2; cases h2; rfl
  refine ⟨b,?_⟩
  have h4:keyOf Tryz.prog 9 arr[j].key=some (.string es[j].1.data.toList):=by
   rw [h1]
   simp [keyOf,mapKey,pu9,hs es[j] (List.getElem_mem hj)]
  have h5:plainElem (H:=Unit) Tryz.prog 4 arr[j].val=some (.lit (.bool b),[]):=by
   rw [h3]
   simp [plainElem,u4]
  exact by simp [WideElems.rd,h4,h5]
 have hown:w.ownsMap (H:=Unit) Tryz.prog 9 (plainElem Tryz.prog 4) bm arr.size (.map ((arr.toList.map (rg Tryz.prog 9 (plainElem Tryz.prog 4))).foldr DataW.insert [])):=by
  refine ⟨arr,clock,hh,⟨?_,hst,fun x hx=>?_⟩,Nat.le_refl _,rfl⟩
  ·unfold maxLen; omega
  ·obtain ⟨j,hj,e1⟩:=List.getElem_of_mem hx
   have hj':j<arr.size:=by simpa using hj
   obtain ⟨b,hb⟩:=hrd j (by omega) hj'
   have e2:arr[j]=x:=by simpa using e1
   rw [e2] at hb
   exact ⟨_,hb⟩
 have hperm:(strKeys (DataW.map ((arr.toList.map (rg (H:=Unit) Tryz.prog 9 (plainElem Tryz.prog 4))).foldr DataW.insert []))).Perm (es.map fun x=>x.1.data.toList):=by
  show List.Perm (List.map (fun (p:Lit × DataW Unit)=>strOf p.1) _) _
  have h1:=(WideShapes.sorted_perm (arr.toList.map (rg (H:=Unit) Tryz.prog 9 (plainElem Tryz.prog 4)))).map fun (p:Lit × DataW Unit)=>strOf p.1
  refine h1.trans (List.Perm.of_eq ?_)
  apply List.ext_getElem
  ·simp [hsz]
  ·intro j hj hj'
   have hja:j<arr.size:=by simpa using hj
   have hje:j<es.length:=by omega
   obtain ⟨b,hb⟩:=hrd j hje hja
   simp only [List.getElem_map,Array.getElem_toList]
   rw [WideElems.rg_of hb]
   rfl
 have hsize:Maps.size (DataW.map ((arr.toList.map (rg (H:=Unit) Tryz.prog 9 (plainElem Tryz.prog 4))).foldr DataW.insert []))=es.length:=by
  have:=hperm.length_eq
  simpa [strKeys,Maps.size_eq] using this
 refine (sorted_any bs bm arr.size _ w hset hown (by rw [hsize]; exact hc)).mono ?_
 rintro en w' ⟨v,ss,rfl,hp,hrow,hbel⟩
 refine ⟨_,e,g,l,⟨rfl,rfl⟩,?_,ent_bel he hbel,mono_bel hbel,hbel.size,fun b hb _=>⟨hbel.block b hb,rfl⟩,fun b o ho => .inr (by rw [ho]; rfl),hbel.os,hbel.tape,hbel.output⟩
 show Rep g w' _ v
 have e1:ss.mergeSort leB=(es.map fun x=>x.1.data.toList).mergeSort leB:=mergeSort_of_perm (hp.trans hperm)
 have hrow':w'.ownsRow w.heap.size 9 1 v ss.length ((ss.mergeSort leB).map encStr):=hrow
 rw [e1] at hrow'
 have:=rep_names (g:=g) hrow' fun b hb=>he.fresh.1 b hb
 unfold sortB
 have e2:(es.map (·.1)).map (fun x:ByteArray=>x.data.toList)=es.map fun x=>x.1.data.toList:=by simp
 rw [e2]
 exact this
open Go.Pv
set_option maxRecDepth 100000
def mapO(f:List PV->Option Pr):List (List PV)->Option (List Pr)
 | []=>some []
 | c::r=>match f c with
  | some p=>(match mapO f r with
   | some l=>some (p::l)
   | none=>none)
  | none=>none
def toPr:Nat->List PV->Option Pr
 | 0,_=>none
 | k+1,cs=>match cs with
  | [.int .i64 o,.str nm,.int .i64 n,.nilsl]=>some (.mk o nm n [])
  | [.int .i64 o,.str nm,.int .i64 n,.sl 4 es]=>(match mapO (toPr k) es with
   | some l=>some (.mk o nm n l)
   | none=>none)
  | _=>none
theorem mapO_ok{f:List PV->Option Pr}(hf:∀cs p,f cs=some p->WkL cs (prL p)):∀ (es:List (List PV)) (l:List Pr),mapO f es=some l->WkLL es (Pr.cs l)
 | [],l,h=>by simp only [mapO,Option.some.injEq] at h; subst h; exact WkLL.r _
 | c::r,l,h=>by
  simp only [mapO] at h
  split at h
  ·rename_i p hp
   split at h
   ·rename_i l' hl
    simp only [Option.some.injEq] at h
    subst h
    rw [show Pr.cs (p::l')=prL p::Pr.cs l' by simp [Pr.cs_eq]]
    exact WkLL.c (hf _ _ hp) (mapO_ok hf r l' hl)
   ·cases h
  ·cases h
theorem toPr_ok:∀ (k:Nat) (cs:List PV) (p:Pr),toPr k cs=some p->WkL cs (prL p)
 | 0,_,_,h=>by cases h
 | k+1,cs,p,h=>by
  simp only [toPr] at h
  split at h
  ·simp only [Option.some.injEq] at h
   subst h
   exact WkL.c (.r _) (WkL.c (.r _) (WkL.c (.r _) (WkL.c (.n 4) (WkL.r _))))
  ·split at h
   ·rename_i l hl
    simp only [Option.some.injEq] at h
    subst h
    exact WkL.c (.r _) (WkL.c (.r _) (WkL.c (.r _) (WkL.c (Wk.s (mapO_ok (toPr_ok k) _ _ hl)) (WkL.r _))))
   ·cases h
  ·cases h
def knA:Orc:=fun f args e=>if f=29 then (match args with
 | [.agg cs]=>(match toPr 50 cs with
  | some p=>if bulkPs (prL p)<=100000000 then some (.ret (.int .i64 (pcE p)),e) else none
  | none=>none)
 | _=>none) else none
abbrev nA:ByteArray:=⟨#[108,111,111,112]⟩
abbrev nB:ByteArray:=⟨#[110]⟩
def knS(n:Nat)(e:Ext):Option (CRes × Ext):=match lk e n with
 | some [.v (.mp k)]=>(match lk e k with
  | some [.mm (.s [(a,.bool true),(b,.bool true)])]=>if a=nA/\b=nB then some (.ret (.sl 1 [[.str nA],[.str nB]]),e) else none
  | _=>none)
 | _=>none
def knB:Orc:=fun f args e=>if f=151 then (match args with
 | [.xp n 0]=>knS n e
 | _=>none) else knA f args e
theorem knA_ok:OrcOK Tryz.prog knA:=by
 intro f args e r e' h
 unfold knA at h
 split at h
 ·rename_i hf
  subst hf
  split at h
  ·rename_i cs
   split at h
   ·rename_i p hp
    split at h
    ·rename_i hs
     simp only [Option.some.injEq,Prod.mk.injEq] at h
     obtain ⟨rfl,rfl⟩:=h
     have:=Ob.pur_arg (WkL.c (Wk.a (toPr_ok _ _ _ hp)) (WkL.r [])) (pcT p hs)
     exact ⟨this.1,this.2 e⟩
    ·cases h
   ·cases h
  ·cases h
 ·cases h
theorem srt2:sortB [nA,nB]=[nA,nB]:=by
 unfold sortB
 rw [List.mergeSort_of_pairwise (by simp; decide)]
 rfl
theorem knB_ok:OrcOK Tryz.prog knB:=by
 intro f args e r e' h
 unfold knB at h
 split at h
 ·rename_i hf
  subst hf
  split at h
  ·rename_i n
   unfold knS at h
   split at h
   ·rename_i k hn
    split at h
    ·rename_i a b hk
     split at h
     ·rename_i hab
      obtain ⟨rfl,rfl⟩:=hab
      simp only [Option.some.injEq,Prod.mk.injEq] at h
      obtain ⟨rfl,rfl⟩:=h
      have:=sorted_ok n k e [(nA,.bool true),(nB,.bool true)] hn hk (fun x hx=>by
       simp only [List.mem_cons,List.not_mem_nil,or_false] at hx
       rcases hx with rfl | rfl <;> exact ⟨_,rfl⟩) (fun x hx=>by
       simp only [List.mem_cons,List.not_mem_nil,or_false] at hx
       rcases hx with rfl | rfl <;> decide) (by decide)
      rw [show ([(nA,PV.bool true),(nB,PV.bool true)].map (·.1))=[nA,nB] from rfl,srt2] at this
      exact this
     ·cases h
    ·cases h
   ·cases h
  ·cases h
 ·exact knA_ok _ _ _ _ _ h
def modA:List (Nat × Nat × Bool):=[(28,4,false),(28,29,true),(28,37,true),(28,91,true),(28,94,false),(28,138,false),(35,9,true),(43,4,true),(43,9,true),(43,29,true),(43,30,false),(43,157,false),(47,57,false),(48,29,true),(48,37,true),(48,91,true),(77,29,true),(80,3,false),(116,206,false),(147,230,false)]
def mdAw(f:FuncId):Md:=⟨fun t=>match modA.find? fun x=>x.1==f&&x.2.1==t with
 | some (_,_,true)=>some true
 | some (_,_,false)=>none
 | none=>some false,fun t=>(f==42&&t==27)||(f==45&&t==35)⟩
theorem awL:(Ob.pur 7 [] (.ret (.bool true))).ok Tryz.prog:=Ob.pur_of_known knB knB_ok mdAw 60 60 mixed (by kernel_rfl) rfl rfl
open Go.Pv Go.Proofs.Tryz
theorem u8_nat{v:Int}(h:(Lit.int .u8 v).wf=true):∃t:Nat,v=(t:Int)/\t<256:=by
 have h1:IntKind.u8.min<=v/\v<=IntKind.u8.max:=by simpa [Lit.wf] using h
 have h2:IntKind.u8.min=0:=by decide
 have h3:IntKind.u8.max=255:=by decide
 exact ⟨v.toNat,by omega,by omega⟩
variable {n:Nat} {cs:List PV}
theorem ty_Is(h:Ty prog n 64 cs):∃l:List Int,cs=[.sl 1 (ntC l)]:=
 ty_list (z:=1) ntC_eq Tryz.underlying64 kR h fun m' x hm' hx=>by
  obtain ⟨v,rfl,-⟩:=ty_int Tryz.underlying3 hx
  exact ⟨v,rfl⟩
theorem ty_Fc(h:Ty prog n 203 cs):∃x:Fc,cs=fcL x:=by
 obtain ⟨m,hm,h⟩:=ty_struct Tryz.underlying203 h
 obtain ⟨c1,r1,rfl,h1,c2,r2,rfl,h2,c3,r3,rfl,h3,rfl⟩:=h
 obtain ⟨vN,rfl⟩:=ty_str Tryz.underlying9 h1
 obtain ⟨vA,rfl⟩:=ty_Is h2
 obtain ⟨vR,rfl,-⟩:=ty_int Tryz.underlying3 h3
 exact ⟨.mk vN vA vR,by simp only [fcN,fcA,fcR,fcL,List.cons_append,List.nil_append,List.append_nil]⟩
theorem ty_Ip(h:Ty prog n 67 cs):∃ (a:List Int) (p:List Fc),cs=[.sl 1 (ntC a),.sl 3 (Fc.cs p)]:=by
 obtain ⟨m,hm,h⟩:=ty_struct Tryz.underlying67 h
 obtain ⟨c1,r1,rfl,h1,c2,r2,rfl,h2,rfl⟩:=h
 obtain ⟨vA,rfl⟩:=ty_Is h1
 obtain ⟨vP,rfl⟩:=ty_list (z:=3) Fc.cs_eq Tryz.underlying65 kR h2 fun m' x hm' hx=>ty_Fc hx
 exact ⟨vA,vP,by simp only [List.cons_append,List.nil_append,List.append_nil]⟩
theorem ip_bulk(ia:List Int)(ip:List Fc):bulkPss (Fc.cs ip)<=bulkPs [.sl 1 (ntC ia),.sl 3 (Fc.cs ip)]:=by
 simp only [bulkPs,bulkP]; omega
theorem paths_all(m:Mo)(t:Nat)(ht:t<256)(ia:List Int)(ip:List Fc)(hs:bulkPs (moL m)<=2000000)(hi:bulkPs [.sl 1 (ntC ia),.sl 3 (Fc.cs ip)]<=2000000):Pu 4 [.agg (moL m),.int .u8 (t:Int),.agg [.sl 1 (ntC ia),.sl 3 (Fc.cs ip)]] (.ret (.bool true)):=paths_true m t ht ia ip hs (Nat.le_trans (ip_bulk ia ip) hi) awL
end Go.Proofs.YtidabncghfbdaaaGreatDoor
