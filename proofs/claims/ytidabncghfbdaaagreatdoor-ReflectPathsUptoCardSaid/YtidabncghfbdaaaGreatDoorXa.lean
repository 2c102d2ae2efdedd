/- Values of Go as plain data, an evaluator over them, and what the functions of the program return; part Xa. -/
import Derived.Tactics
import Derived.Below
import Derived.Laws.AppendOwn
import Derived.MapKept
import Derived.Deep.LoopGhost
import Derived.Laws.CopyRow
import Derived.Laws.Cells
import Derived.Maps.AppendAt
set_option linter.unusedVariables false
set_option linter.unusedSimpArgs false
set_option linter.unusedSectionVars false
namespace Go.Pv
theorem oM {p:Prop}(h:p:=by omega):p:=h
theorem dD {p:Prop}(h:p:=by decide):p:=h
theorem sM {p:Prop}(h:p:=by simp):p:=h
theorem rF {p:Prop}(h:p:=by rfl):p:=h
theorem sA {p:Prop}(h:p:=by simp_all):p:=h
theorem iN {c:Prop}[Decidable c]{α:Sort _}{a b:α}(h:¬c):ite c a b=b:=if_neg h
theorem iP {c:Prop}[Decidable c]{α:Sort _}{a b:α}(h:c):ite c a b=a:=if_pos h
theorem tVv:True:=trivial
inductive PV where
 | bool (b:Bool)
 | int (k:IntKind) (n:Int)
 | str (s:ByteArray)
 | nilp
 | ro (cs:List PV) (off:Nat)
 | xp (n off:Nat)
 | nilsl
 | sl (size:Nat) (es:List (List PV))
 | xsl (n size len:Nat)
 | fn (f:Fn) (first captured:List PV)
 | nilfn
 | iface (t:TypeId) (p:PV)
 | nilif
 | agg (cs:List PV)
 | tup (vs:List PV)
 | mpn
 | mp (n:Nat)
 | fm (ks:List ByteArray) (vs:List PV)
 | ysl (n c len:Nat)
 | yp (n c off:Nat)
 | ifm (t:TypeId) (f:Nat) (p:PV)
 | opq (p:PV)
 deriving Inhabited
structure Gh where
 M:Nat->Option Nat
 X:Nat->Option Nat
 Y:Nat->Nat->Option Nat
def Gh.Fix(g:Gh)(b o:Nat):Prop:=∀k,g.M b=some k->o<k
inductive Rep (g:Gh) (w:World):PV->Value->Prop
 | bool (b:Bool):Rep g w (.bool b) (.bool b)
 | int (k:IntKind) (n:Int):Rep g w (.int k n) (.int k n)
 | str (s:ByteArray):Rep g w (.str s) (.string s)
 | nilp:Rep g w .nilp (.pointer none)
 | ro (cs:List PV) (off b o:Nat) (vs:Nat->Value)
   (hc:∀j,j<cs.length->w.cell? ⟨b,o+j,none⟩=some (vs j)) (hf:∀j,j<cs.length->g.Fix b (o+j)) (h1:∀j,j<cs.length->(vs j).oneCell'=true)
   (hr:∀j (h:j<cs.length),Rep g w cs[j] (vs j)):Rep g w (.ro cs off) (.pointer (some ⟨b,o+off,none⟩))
 | xp (n off b:Nat) (h:g.X n=some b):Rep g w (.xp n off) (.pointer (some ⟨b,off,none⟩))
 | nilsl:Rep g w .nilsl (.slice none 0 0)
 | slnil (size:Nat):Rep g w (.sl size []) (.slice none 0 0)
 | sl (size:Nat) (es:List (List PV)) (a:Addr) (cap:Nat) (vs:Nat->Nat->Value) (hle:es.length<=cap) (hcap:cap<=maxLen)
   (hsz:∀i (h:i<es.length),es[i].length=size)
   (hc:∀i j,i<es.length->j<size->w.cell? (a.add (i * size+j))=some (vs i j))
   (hf:∀i j,i<es.length->j<size->g.Fix a.block (a.off+(i * size+j))) (h1:∀i j,i<es.length->j<size->(vs i j).oneCell'=true)
   (hr:∀i j (hi:i<es.length) (hj:j<es[i].length),Rep g w es[i][j] (vs i j)):Rep g w (.sl size es) (.slice (some a) es.length cap)
 | xsl (n size len b cap:Nat) (cur:Array Value) (e:TypeId) (h:g.X n=some b) (hh:w.heap[b]?=some (.cells cur e (0,0))) (hs:cap * size=cur.size) (hle:len<=cap) (hcap:cap<=maxLen):Rep g w (.xsl n size len) (.slice (some ⟨b,0,none⟩) len cap)
 | fn (f:Fn) (first captured:List PV) (fv cv:List Value) (h1:first.length=fv.length) (h2:captured.length=cv.length)
   (hf:∀j (h:j<first.length) (h':j<fv.length),Rep g w first[j] fv[j]) (hc:∀j (h:j<captured.length) (h':j<cv.length),Rep g w captured[j] cv[j]) :
   Rep g w (.fn f first captured) (.func f fv.toArray cv.toArray)
 | nilfn:Rep g w .nilfn .nilFunc
 | iface (t:TypeId) (p:PV) (v:Value) (h:Rep g w p v):Rep g w (.iface t p) (.iface t v)
 | nilif:Rep g w .nilif .nilIface
 | agg (cs:List PV) (vs:List Value) (h1:cs.length=vs.length) (ho:∀v∈vs,v.oneCell'=true) (h:∀j (h:j<cs.length) (h':j<vs.length),Rep g w cs[j] vs[j]):Rep g w (.agg cs) (.agg vs.toArray)
 | tup (cs:List PV) (vs:List Value) (h1:cs.length=vs.length) (h:∀j (h:j<cs.length) (h':j<vs.length),Rep g w cs[j] vs[j]):Rep g w (.tup cs) (.tuple vs.toArray)
 | mpn:Rep g w .mpn (.map none)
 | mp (n b:Nat) (h:g.X n=some b):Rep g w (.mp n) (.map (some b))
 | fm (ks:List ByteArray) (vs:List PV) (es:List (ByteArray × PV)) (b:Nat) (arr:Array MapEntry) (clock:Nat) (hp:es.Perm (ks.zip vs)) (hl:ks.length=vs.length) (hM:g.M b=none) (hh:w.heap[b]?=some (.map arr clock)) (hst:MapKept.Stamped arr clock)
   (hz:arr.size=es.length) (hk:∀j (h:j<es.length) (h':j<arr.size),arr[j].key = .string es[j].1) (hr:∀j (h:j<es.length) (h':j<arr.size),Rep g w es[j].2 arr[j].val):Rep g w (.fm ks vs) (.map (some b))
 | ysl (n c len b cap:Nat) (cur:Array Value) (e:TypeId) (h:g.Y n c=some b) (hh:w.heap[b]?=some (.cells cur e (0,0))) (hs:cap=cur.size) (hle:len<=cap) (hcap:cap<=maxLen):Rep g w (.ysl n c len) (.slice (some ⟨b,0,none⟩) len cap)
 | yp (n c off b:Nat) (h:g.Y n c=some b):Rep g w (.yp n c off) (.pointer (some ⟨b,off,none⟩))
 | ifm (t:TypeId) (f:Nat) (p:PV) (v:Value) (h:Rep g w p v):Rep g w (.ifm t f p) (.iface t v)
 | opq (p:PV) (v:Value) (h1:v.oneCell'=true) (h:Rep g w p v):Rep g w (.opq p) v
def RepAll(g:Gh)(w:World)(ps:List PV)(vs:List Value):Prop:=ps.length=vs.length/\∀j (h:j<ps.length) (h':j<vs.length),Rep g w ps[j] vs[j]
theorem RepAll.nil{g:Gh}{w:World}:RepAll g w [] []:=⟨rfl,fun j h=>by simp at h⟩
theorem RepAll.cons{g:Gh}{w:World}{p:PV}{v:Value}{ps:List PV}{vs:List Value}(h:Rep g w p v)(hs:RepAll g w ps vs):RepAll g w (p::ps) (v::vs):=by
 refine ⟨by simp [hs.1],fun j hj hj'=>?_⟩
 cases j with
 | zero=>exact h
 | succ j=>exact hs.2 j (by simpa using hj) (by simpa using hj')
theorem RepAll.inv_nil{g:Gh}{w:World}{vs:List Value}(h:RepAll g w [] vs):vs=[]:=List.eq_nil_of_length_eq_zero h.1.symm
theorem RepAll.inv_cons{g:Gh}{w:World}{p:PV}{ps:List PV}{vs:List Value}(h:RepAll g w (p::ps) vs):∃v vs',vs=v::vs'/\Rep g w p v/\RepAll g w ps vs':=by
 cases vs with
 | nil=>exact absurd h.1 sM
 | cons v vs'=>
  refine ⟨v,vs',rfl,h.2 0 sM sM,by simpa using h.1,fun j hj hj'=>?_⟩
  exact h.2 (j+1) (by simpa using hj) (by simpa using hj')
structure Mono (g:Gh) (w:World) (g':Gh) (w':World):Prop where
 ext:∀n b,g.X n=some b->g'.X n=some b
 cell:∀b o v,w.cell? ⟨b,o,none⟩=some v->g.Fix b o->w'.cell? ⟨b,o,none⟩=some v/\g'.Fix b o
 len:∀ (b:Nat) (cur:Array Value) (e:TypeId),w.heap[b]?=some (Obj.cells cur e (0,0))->∃cur':Array Value,w'.heap[b]?=some (Obj.cells cur' e (0,0))/\cur'.size=cur.size
 row:∀n c b,g.Y n c=some b->g'.Y n c=some b
 map:∀ (b:Nat) (arr:Array MapEntry) (clk:Nat),w.heap[b]?=some (Obj.map arr clk)->g.M b=none->w'.heap[b]?=some (Obj.map arr clk)/\g'.M b=none
theorem Mono.refl(g:Gh)(w:World):Mono g w g w:=⟨fun _ _ h=>h,fun _ _ _ h k=>⟨h,k⟩,fun _ cur _ h=>⟨cur,h,rfl⟩,fun _ _ _ h=>h,fun _ _ _ h k=>⟨h,k⟩⟩
theorem Mono.trans{g g' g'':Gh}{w w' w'':World}(h:Mono g w g' w')(k:Mono g' w' g'' w''):Mono g w g'' w'':=
 ⟨fun n b e=>k.ext n b (h.ext n b e),fun b o v e f=>let ⟨e',f'⟩:=h.cell b o v e f; k.cell b o v e' f',fun b cur e hh=>let ⟨c1,h1,h2⟩:=h.len b cur e hh; let ⟨c2,h3,h4⟩:=k.len b c1 e h1; ⟨c2,h3,h4.trans h2⟩,fun n c b e=>k.row n c b (h.row n c b e),fun b arr c e f=>let ⟨e',f'⟩:=h.map b arr c e f; k.map b arr c e' f'⟩
theorem spot_of_cell{w:World}{a:Addr}{v:Value}(h:w.cell? a=some v):a.spot=none:=by
 unfold World.cell? at h
 split at h
 ·split at h
  ·cases h
  ·rename_i hs; simpa using hs
 ·cases h
theorem addr_add(a:Addr)(n:Nat)(h:(a.add n).spot=none):a.add n=⟨a.block,a.off+n,none⟩:=by
 unfold Addr.add at h ⊢
 split
 ·rename_i hn
  subst hn
  cases a
  simp_all
 ·rfl
theorem cell_add{w:World}{a:Addr}{n:Nat}{v:Value}(h:w.cell? (a.add n)=some v):a.add n=⟨a.block,a.off+n,none⟩:=addr_add a n (spot_of_cell h)
theorem Mono.at_{g g':Gh}{w w':World}(h:Mono g w g' w'){a:Addr}{n:Nat}{v:Value}(hc:w.cell? (a.add n)=some v)(hf:g.Fix a.block (a.off+n)) :
  w'.cell? (a.add n)=some v/\g'.Fix a.block (a.off+n):=by
 have e:=cell_add hc
 rw [e] at hc ⊢
 exact h.cell _ _ _ hc hf
theorem Rep.mono{g g':Gh}{w w':World}{p:PV}{v:Value}(hr:Rep g w p v)(h:Mono g w g' w'):Rep g' w' p v:=by
 induction hr with
 | bool b=>exact .bool b
 | int k n=>exact .int k n
 | str s=>exact .str s
 | nilp=>exact .nilp
 | ro cs off b o vs hc hf h1 hr ih=>exact .ro cs off b o vs (fun j hj=>(h.cell _ _ _ (hc j hj) (hf j hj)).1) (fun j hj=>(h.cell _ _ _ (hc j hj) (hf j hj)).2) h1 ih
 | xp n off b hx=>exact .xp n off b (h.ext _ _ hx)
 | nilsl=>exact .nilsl
 | slnil size=>exact .slnil size
 | sl size es a cap vs hle hcap hsz hc hf h1 hr ih=>
  exact .sl size es a cap vs hle hcap hsz (fun i j hi hj=>(h.at_ (hc i j hi hj) (hf i j hi hj)).1) (fun i j hi hj=>(h.at_ (hc i j hi hj) (hf i j hi hj)).2) h1 ih
 | xsl n size len b cap cur e hx hh hs hle hcap=>
  obtain ⟨cur',h1,h2⟩:=h.len _ _ _ hh
  exact .xsl n size len b cap cur' e (h.ext _ _ hx) h1 (hs.trans h2.symm) hle hcap
 | fn f first captured fv cv h1 h2 hf hc ihf ihc=>exact .fn f first captured fv cv h1 h2 ihf ihc
 | nilfn=>exact .nilfn
 | iface t p v hp ih=>exact .iface t p v ih
 | nilif=>exact .nilif
 | agg cs vs h1 ho hp ih=>exact .agg cs vs h1 ho ih
 | tup cs vs h1 hp ih=>exact .tup cs vs h1 ih
 | mpn=>exact .mpn
 | mp n b hx=>exact .mp n b (h.ext _ _ hx)
 | fm ks vs es b arr clock hp hl hM hh hst hz hk hr ih=>exact .fm ks vs es b arr clock hp hl (h.map _ _ _ hh hM).2 (h.map _ _ _ hh hM).1 hst hz hk ih
 | ysl n c len b cap cur e hx hh hs hle hcap=>
  obtain ⟨cur',h1,h2⟩:=h.len _ _ _ hh
  exact .ysl n c len b cap cur' e (h.row _ _ _ hx) h1 (hs.trans h2.symm) hle hcap
 | yp n c off b hx=>exact .yp n c off b (h.row _ _ _ hx)
 | ifm t f p v hp ih=>exact .ifm t f p v ih
 | opq p v h1 hp ih=>exact .opq p v h1 ih
theorem RepAll.mono{g g':Gh}{w w':World}{ps:List PV}{vs:List Value}(hr:RepAll g w ps vs)(h:Mono g w g' w'):RepAll g' w' ps vs:=
 ⟨hr.1,fun j hj hj'=>(hr.2 j hj hj').mono h⟩
def PV.one:PV->Bool
 | .agg _=>false
 | .tup _=>false
 | _=>true
theorem Rep.one{g:Gh}{w:World}{p:PV}{v:Value}(h:Rep g w p v)(hp:p.one=true):v.oneCell'=true:=by
 cases h <;> first | rfl | assumption | cases hp
inductive MM where
 | s (es:List (ByteArray × PV))
 | i (es:List (Int × PV))
 | it (m:Nat)
 | fit (ks:List ByteArray) (vs:List PV) (seen:List (ByteArray × PV))
 deriving Inhabited
inductive LV where
 | v (p:PV)
 | lp (i off:Nat)
 | uniq (e:TypeId) (size:Nat) (es:List (List PV))
 | full (size:Nat) (es:List (List PV))
 | junk
 | mm (es:MM)
 | row (c:Nat) (ps:List Int)
 deriving Inhabited
def LV.nolp:LV->Bool
 | .lp _ _=>false
 | _=>true
inductive UL where
 | t (i:Nat)
 | b (i off:Nat)
 | x (n off:Nat)
 deriving DecidableEq
inductive Own where
 | l (i:Nat)
 | x (n:Nat)
 | u (p:UL)
 deriving DecidableEq
def btE(e:TypeId):TypeId:=if e<1000000 then e else e - 1000000
def mkE(e:TypeId)(k:Nat):Nat:=if e<1000000 then k else 0
theorem btE_lt{e:TypeId}(h:e<1000000):btE e=e:=iP h
theorem mkE_lt{e:TypeId}{k:Nat}(h:e<1000000):mkE e k=k:=iP h
theorem mkE_ge{e:TypeId}{k:Nat}(h:¬e<1000000):mkE e k=0:=iN h
def Row(g:Gh)(w:World)(size:Nat)(es:List (List PV))(cap:Nat)(cur:Array Value):Prop:=es.length<=cap/\cap<=maxLen/\(∀i (h:i<es.length),es[i].length=size)/\∀j (h:j<es.flatten.length),(cur.getD j undef).oneCell'=true/\Rep g w es.flatten[j] (cur.getD j undef)
def RowV(g:Gh)(w:World)(e:TypeId)(size:Nat)(es:List (List PV))(cap off:Nat)(cur:Array Value)(v:Value):Prop:=(e<1000000->Rep g w (.sl size es) v)/\(¬e<1000000->off=0/\Row g w size es cap cur)
structure LG where
 L:Nat->Option Nat
 U:UL->Option Nat
 O:Nat->Option Own
def RepL(g:Gh)(l:LG)(w:World)(p:UL):LV->Value->Prop
 | .v q,v=>Rep g w q v
 | .lp i off,v=>∃b,l.L i=some b/\v = .pointer (some ⟨b,off,none⟩)
 | .junk,_=>True
 | .mm _,_=>False
 | .row _ _,_=>False
 | .full size es,v=>(v = .slice none 0 0/\es=[])∨∃a,v = .slice (some a) es.length es.length/\Rep g w (.sl size es) v
 | .uniq e size es,v=>((v = .slice none 0 0/\es=[])∨∃a,v = .slice (some a) es.length es.length/\Rep g w (.sl size es) v/\e<1000000) ∨
   ∃b off cap cur,v = .slice (some ⟨b,off,none⟩) es.length cap/\l.U p=some b/\g.M b=some (mkE e (es.length * size+off)) /\
   w.heap[b]?=some (.cells cur (btE e) (0,0))/\cur.size=cap * size+off/\RowV g w e size es cap off cur v
structure S where
 tmps:List (Nat × LV)
 boxes:List (Nat × List LV)
 ext:List (Nat × List LV)
def lk{α:Type}:List (Nat × α)->Nat->Option α
 | [],_=>none
 | (k,v)::r,t=>if k=t then some v else lk r t
def put{α:Type}:List (Nat × α)->Nat->α->List (Nat × α)
 | [],t,v=>[(t,v)]
 | (k,u)::r,t,v=>if k=t then (k,v)::r else (k,u)::put r t v
theorem lk_put_same{α:Type}(l:List (Nat × α))(t:Nat)(v:α):lk (put l t v) t=some v:=by
 induction l with
 | nil=>simp [put,lk]
 | cons x r ih=>
  obtain ⟨k,u⟩:=x
  by_cases h:k=t
  ·simp [put,lk,h]
  ·simp [put,lk,h,ih]
theorem lk_put_other{α:Type}(l:List (Nat × α))(t u:Nat)(v:α)(h:t≠u):lk (put l t v) u=lk l u:=by
 induction l with
 | nil=>simp [put,lk,h]
 | cons x r ih=>
  obtain ⟨k,y⟩:=x
  by_cases hk:k=t
  ·subst hk; simp [put,lk,h]
  ·by_cases hu:k=u
   ·subst hu; simp [put,lk,hk]
   ·simp [put,lk,hk,hu,ih]
theorem lk_put{α:Type}(l:List (Nat × α))(t u:Nat)(v:α):lk (put l t v) u=if t=u then some v else lk l u:=by
 split
 ·rename_i h; subst h; exact lk_put_same l t v
 ·rename_i h; exact lk_put_other l t u v h
def cnt{α:Type}:List (Nat × α)->Nat
 | []=>0
 | (k,_)::r=>max (k+1) (cnt r)
theorem lt_cnt{α:Type}:∀ {e:List (Nat × α)} {x:Nat} {v:α},lk e x=some v->x<cnt e
 | [],_,_,h=>by simp [lk] at h
 | (k,u)::r,x,v,h=>by
  simp only [lk] at h
  simp only [cnt]
  split at h
  ·rename_i e0; subst e0; omega
  ·have:=lt_cnt h; omega
theorem lk_cnt{α:Type}{e:List (Nat × α)}{x:Nat}(h:cnt e<=x):lk e x=none:=by
 cases hx:lk e x with
 | none=>rfl
 | some v=>have:=lt_cnt hx; omega
theorem cnt_put{α:Type}(v:α):∀ (e:List (Nat × α)) (n:Nat),cnt (put e n v)=max (cnt e) (n+1)
 | [],n=>by simp [put,cnt]
 | (k,u)::r,n=>by
  simp only [put]
  split
  ·rename_i e0; subst e0; simp only [cnt]; omega
  ·simp only [cnt,cnt_put v r n]; omega
theorem cnt_put_old{α:Type}{e:List (Nat × α)}{n:Nat}{u v:α}(h:lk e n=some u):cnt (put e n v)=cnt e:=by
 have:=lt_cnt h
 rw [cnt_put]
 omega
theorem flatten_get{α:Type}(size:Nat):∀ (es:List (List α)),(∀i (h:i<es.length),es[i].length=size)->∀i j,i<es.length->j<size->es.flatten[i * size+j]?=(es[i]?).bind (·[j]?)
 | [],_,i,_,hi,_=>by simp at hi
 | e::es,hs,i,j,hi,hj=>by
  have he:e.length=size:=hs 0 sM
  cases i with
  | zero=>simp [List.getElem?_append,he,hj]
  | succ i=>
   have ih:=flatten_get size es (fun i h=>hs (i+1) (by simpa using h)) i j (by simpa using hi) hj
   have e1:(i+1) * size+j=e.length+(i * size+j):=by rw [he,Nat.add_mul]; omega
   rw [List.flatten_cons,e1,List.getElem?_append_right oM]
   simpa using ih
theorem flatten_length{α:Type}(size:Nat):∀ (es:List (List α)),(∀i (h:i<es.length),es[i].length=size)->es.flatten.length=es.length * size
 | [],_=>by simp
 | e::es,hs=>by
  have he:e.length=size:=hs 0 sM
  have ih:=flatten_length size es (fun i h=>hs (i+1) (by simpa using h))
  simp [he,ih,Nat.add_mul,Nat.add_comm]
theorem div_parts{k n size:Nat}(h:k<n * size):k / size<n/\k % size<size/\(k / size) * size+k % size=k:=by
 have hs:0<size:=by
  rcases Nat.eq_zero_or_pos size with h0 | h0
  ·subst h0; simp at h
  ·exact h0
 exact ⟨(Nat.div_lt_iff_lt_mul hs).2 h,Nat.mod_lt _ hs,by rw [Nat.mul_comm]; exact Nat.div_add_mod k size⟩
theorem Rep.flat{g:Gh}{w:World}{size:Nat}{es:List (List PV)}{a:Addr}{n cap:Nat}(h:Rep g w (.sl size es) (.slice (some a) n cap)) :
  n=es.length/\es.length<=cap/\cap<=maxLen/\(∀i (h:i<es.length),es[i].length=size)/\∃xs,RepAll g w es.flatten xs/\xs.length=es.length * size /\
   ∀j u,xs[j]?=some u->w.cell? (a.add j)=some u/\g.Fix a.block (a.off+j)/\u.oneCell'=true:=by
 cases h with
 | sl _ _ _ _ vs hle hcap hsz hc hf h1 hr=>
  have hfl:=flatten_length size es hsz
  refine ⟨rfl,hle,hcap,hsz,(List.range (es.length * size)).map (fun k=>vs (k / size) (k % size)),⟨by simp [hfl],fun k hk hk'=>?_⟩,by simp,fun k u hu=>?_⟩
  ·have hk1:k<es.length * size:=by rw [<-hfl]; exact hk
   obtain ⟨d1,d2,d3⟩:=div_parts hk1
   have hg:=flatten_get size es hsz (k / size) (k % size) d1 d2
   rw [d3,List.getElem?_eq_getElem hk,List.getElem?_eq_getElem d1] at hg
   have hj:k % size<es[k / size].length:=by rw [hsz _ d1]; exact d2
   simp only [Option.bind_some,List.getElem?_eq_getElem hj] at hg
   injection hg with hg
   rw [hg]
   simpa using hr (k / size) (k % size) d1 hj
  ·have hk1:k<es.length * size:=by
    have:=(List.getElem?_eq_some_iff.1 hu).1
    simpa using this
   obtain ⟨d1,d2,d3⟩:=div_parts hk1
   have e:u=vs (k / size) (k % size):=by simpa [List.getElem?_range hk1] using hu.symm
   subst e
   have:=hc (k / size) (k % size) d1 d2
   rw [d3] at this
   have hf':=hf (k / size) (k % size) d1 d2
   rw [d3] at hf'
   exact ⟨this,hf',h1 _ _ d1 d2⟩
theorem Rep.of_flat{g:Gh}{w:World}{size:Nat}{es:List (List PV)}{a:Addr}{cap:Nat}{xs:List Value}(hle:es.length<=cap)(hcap:cap<=maxLen)
  (hsz:∀i (h:i<es.length),es[i].length=size) (hr:RepAll g w es.flatten xs) (hc:∀j u,xs[j]?=some u->w.cell? (a.add j)=some u/\g.Fix a.block (a.off+j)/\u.oneCell'=true) :
  Rep g w (.sl size es) (.slice (some a) es.length cap):=by
 have hfl:=flatten_length size es hsz
 have key:∀i j,i<es.length->j<size->i * size+j<xs.length:=fun i j hi hj=>by
  rw [<-hr.1,hfl]
  have:=Nat.mul_le_mul_right size (show i+1<=es.length from hi)
  rw [Nat.add_mul] at this
  omega
 have at_:∀i j (hi:i<es.length) (hj:j<size),xs[i * size+j]?=some (xs.getD (i * size+j) undef):=fun i j hi hj=>by
  have:=key i j hi hj
  simp [List.getD,List.getElem?_eq_getElem this]
 refine .sl size es a cap (fun i j=>xs.getD (i * size+j) undef) hle hcap hsz (fun i j hi hj=>(hc _ _ (at_ i j hi hj)).1) (fun i j hi hj=>(hc _ _ (at_ i j hi hj)).2.1) (fun i j hi hj=>(hc _ _ (at_ i j hi hj)).2.2) fun i j hi hj=>?_
 have hj':j<size:=by rw [<-hsz i hi]; exact hj
 have hk:=key i j hi hj'
 have hk2:i * size+j<es.flatten.length:=by rw [hr.1]; exact hk
 have hg:=flatten_get size es hsz i j hi hj'
 rw [List.getElem?_eq_getElem hk2,List.getElem?_eq_getElem hi] at hg
 simp only [Option.bind_some,List.getElem?_eq_getElem hj] at hg
 injection hg with hg
 have:=hr.2 _ hk2 hk
 rw [hg] at this
 simpa [List.getD,List.getElem?_eq_getElem hk] using this
theorem Row.mono{g g':Gh}{w w':World}{size:Nat}{es:List (List PV)}{cap:Nat}{cur:Array Value}(h:Row g w size es cap cur)(hm:Mono g w g' w'):Row g' w' size es cap cur:=
 ⟨h.1,h.2.1,h.2.2.1,fun j hj=>⟨(h.2.2.2 j hj).1,(h.2.2.2 j hj).2.mono hm⟩⟩
theorem RowV.mono{g g':Gh}{w w':World}{e:TypeId}{size:Nat}{es:List (List PV)}{cap off:Nat}{cur:Array Value}{v:Value}(h:RowV g w e size es cap off cur v)(hm:Mono g w g' w'):RowV g' w' e size es cap off cur v:=
 ⟨fun he=>(h.1 he).mono hm,fun he=>⟨(h.2 he).1,(h.2 he).2.mono hm⟩⟩
theorem addr0(b j:Nat):(⟨b,0,none⟩:Addr).add j=⟨b,j,none⟩:=by unfold Addr.add; split <;> simp_all
theorem addrO(b o j:Nat):(⟨b,o,none⟩:Addr).add j=⟨b,o+j,none⟩:=by unfold Addr.add; split <;> simp_all
theorem RowV.flat{g:Gh}{w:World}{e e':TypeId}{size:Nat}{es:List (List PV)}{b cap off:Nat}{cur:Array Value}(h:RowV g w e size es cap off cur (.slice (some ⟨b,off,none⟩) es.length cap))(hh:w.heap[b]?=some (.cells cur e' (0,0)))(hcs:cur.size=cap * size+off) :
  es.length<=cap/\cap<=maxLen/\(∀i (h:i<es.length),es[i].length=size)/\∃pre xs,pre.length=off/\RepAll g w es.flatten xs/\xs.length=es.length * size/\cur.toList.take (off+es.length * size)=pre++xs /\
   ∀j u,xs[j]?=some u->w.cell? ⟨b,off+j,none⟩=some u/\u.oneCell'=true:=by
 by_cases he:e<1000000
 ·obtain ⟨-,hle,hcap,hes,xs,hxr,hxl,hxc⟩:=(h.1 he).flat
  have hcl:es.length * size<=cap * size:=Nat.mul_le_mul_right _ hle
  have hpl:(cur.toList.take off).length=off:=by simp; omega
  refine ⟨hle,hcap,hes,cur.toList.take off,xs,hpl,hxr,hxl,?_,fun j u hu=>?_⟩
  ·apply List.ext_getElem?
   intro j
   rw [List.getElem?_take]
   split
   ·rename_i hj
    by_cases hjo:j<off
    ·rw [List.getElem?_append_left oM,List.getElem?_take,iP hjo]
    ·rw [List.getElem?_append_right oM,hpl]
     have hj':j - off<xs.length:=by omega
     have hc:=(hxc (j - off) _ (List.getElem?_eq_getElem hj')).1
     rw [addrO,show off+(j - off)=j by omega] at hc
     simp only [World.cell?,hh] at hc
     rw [List.getElem?_eq_getElem hj']
     simpa using hc
   ·rename_i hj
    exact (List.getElem?_eq_none (by rw [List.length_append]; omega)).symm
  ·have:=hxc j u hu
   rw [addrO] at this
   exact ⟨this.1,this.2.2⟩
 ·obtain ⟨h0,hle,hcap,hes,hr⟩:=h.2 he
  subst h0
  have hfl:=flatten_length size es hes
  have hcl:es.length * size<=cur.size:=by rw [hcs]; exact Nat.mul_le_mul_right _ hle
  have hget:∀j,j<es.length * size->cur.toList[j]?=some (cur.getD j undef):=fun j hj=>by
   have:j<cur.size:=by omega
   simp [this]
  refine ⟨hle,hcap,hes,[],cur.toList.take (es.length * size),rfl,⟨by simp [hfl]; omega,fun j hj hj'=>?_⟩,by simp; omega,by rw [Nat.zero_add,List.nil_append],fun j u hu=>?_⟩
  ·have hj2:j<es.length * size:=by rw [<-hfl]; exact hj
   have h1:=(hr j hj).2
   have h2:=hget j hj2
   have h3:(cur.toList.take (es.length * size))[j]?=some (cur.getD j undef):=by rw [List.getElem?_take,iP hj2,h2]
   rw [List.getElem?_eq_getElem hj'] at h3
   injection h3 with h3
   rw [h3]; exact h1
  ·have hj:j<es.length * size:=by
    have:=(List.getElem?_eq_some_iff.1 hu).1
    simp at this; omega
   rw [List.getElem?_take,iP hj,hget j hj] at hu
   injection hu with hu
   subst hu
   have:j<cur.size:=by omega
   exact ⟨by simp [World.cell?,hh,this],(hr j (by rw [hfl]; exact hj)).1⟩
theorem wlE{e:TypeId}{es:List (List PV)}(h:e<1000000):(es,decide (e<1000000))=(es,true):=by rw [decide_eq_true h]
structure Cx where
 n:Nat
 ds:List Deferred
 g0:Gh
 w0:World
 own0:Nat->Prop
def GLB:List (Nat × List PV):=[(0,[.str ⟨#[97,110,100]⟩,.str ⟨#[97,115,115,117,109,101]⟩,.str ⟨#[98,111,111,108]⟩,.str ⟨#[98,111,117,110,100]⟩,.str ⟨#[99,97,115,101]⟩,.str ⟨#[99,101,108,108]⟩,.str ⟨#[99,108,97,115,115]⟩,.str ⟨#[100,97,116,97]⟩,.str ⟨#[100,101,102]⟩,.str ⟨#[100,105,118]⟩,.str ⟨#[101,108,115,101]⟩,.str ⟨#[101,110,100]⟩,.str ⟨#[102,97,108,115,101]⟩,.str ⟨#[102,111,114,97,108,108]⟩,.str ⟨#[102,117,110]⟩,.str ⟨#[103,101,116]⟩,.str ⟨#[105,102]⟩,.str ⟨#[105,110]⟩,.str ⟨#[105,110,115,116]⟩,.str ⟨#[105,110,116]⟩,.str ⟨#[105,110,118,97,114,105,97,110,116]⟩,.str ⟨#[108,101,116]⟩,.str ⟨#[109,97,116,99,104]⟩,.str ⟨#[109,101,97,115,117,114,101]⟩,.str ⟨#[109,101,116,114,105,99]⟩,.str ⟨#[109,111,100]⟩,.str ⟨#[109,117]⟩,.str ⟨#[110,101,119]⟩,.str ⟨#[110,111,116]⟩,.str ⟨#[111,102]⟩,.str ⟨#[111,114]⟩,.str ⟨#[113,117,97,108]⟩,.str ⟨#[114,101,102,108,101,99,116]⟩,.str ⟨#[115,101,116]⟩,.str ⟨#[116,104,101,110]⟩,.str ⟨#[116,114,117,101]⟩,.str ⟨#[117,115,101]⟩,.str ⟨#[118]⟩,.str ⟨#[118,97,108]⟩,.str ⟨#[116,97,103]⟩,.str ⟨#[119,104,101,114,101]⟩,.str ⟨#[119,105,116,104]⟩])]
def GOK(g:Gh)(w:World):Prop:=∀k cs,lk GLB k=some cs->Rep g w (.ro cs 0) (.pointer (some ⟨k,0,none⟩))
theorem GOK.mono{g g':Gh}{w w':World}(h:GOK g w)(hm:Mono g w g' w'):GOK g' w':=fun k cs e=>(h k cs e).mono hm
structure Hist (cx:Cx) (g:Gh) (w:World):Prop where
 mono:Mono cx.g0 cx.w0 g w
 size:cx.w0.heap.size<=w.heap.size
 frame:∀b,b<cx.w0.heap.size->¬cx.own0 b->w.heap[b]?=cx.w0.heap[b]?/\g.M b=cx.g0.M b
 os:w.os=cx.w0.os
 tape:w.tape=cx.w0.tape
 output:w.output=cx.w0.output
 glb:GOK g w
def BlkR(g:Gh)(l:LG)(w:World)(f:Nat->UL)(b:Nat)(cs:List LV):Prop:=
 g.M b=some 0/\∃cur e,w.heap[b]?=some (.cells cur e (0,0))/\cs.length<=cur.size/\∀j (h:j<cs.length),cs[j].nolp=true/\(cur.getD j undef).oneCell'=true/\RepL g l w (f j) cs[j] (cur.getD j undef)
def MapR{κ:Type}(kv:κ->Value)(g:Gh)(w:World)(es:List (κ × PV))(arr:Array MapEntry)(clock:Nat):Prop:=
 MapKept.Stamped arr clock/\arr.size=es.length/\∀j (h:j<es.length) (h':j<arr.size),arr[j].key=kv es[j].1/\Rep g w es[j].2 arr[j].val
theorem MapR.mono{κ:Type}{kv:κ->Value}{g g':Gh}{w w':World}{es:List (κ × PV)}{arr:Array MapEntry}{clock:Nat}(h:MapR kv g w es arr clock)(hm:Mono g w g' w'):MapR kv g' w' es arr clock:=
 ⟨h.1,h.2.1,fun j hj hj'=>⟨(h.2.2 j hj hj').1,(h.2.2 j hj hj').2.mono hm⟩⟩
def bornAt(arr:Array MapEntry)(i:Nat):Nat:=(arr[i]?.map MapEntry.born).getD 0
def FitR(g:Gh)(w:World)(ks:List ByteArray)(vs:List PV)(seen:List (ByteArray × PV))(stamps:Array Nat)(clk:Nat)(arr:Array MapEntry)(es:List (ByteArray × PV))(I:List Nat):Prop:=
 MapR Value.string g w es arr clk/\es.Perm (ks.zip vs)/\I.Nodup/\(∀i∈I,i<es.length)/\stamps.toList=I.reverse.map (bornAt arr)/\seen=I.map fun i=>es.getD i default
def BlkM(g:Gh)(w:World)(b:Nat):MM->Prop
 | .s es=>g.M b=some 0/\∃arr clock,w.heap[b]?=some (.map arr clock)/\MapR Value.string g w es arr clock
 | .i es=>g.M b=some 0/\∃arr clock,w.heap[b]?=some (.map arr clock)/\MapR (Value.int .i64) g w es arr clock
 | .it m=>g.M b=some 0/\∃bm since last,g.X m=some bm/\w.heap[b]?=some (.mapIter (some bm) since #[] last)
 | .fit ks vs seen=>g.M b=some 0/\∃bm stamps clk arr es I,w.heap[b]?=some (.mapIter (some bm) clk stamps clk)/\w.heap[bm]?=some (.map arr clk)/\g.M bm=none/\FitR g w ks vs seen stamps clk arr es I
theorem BlkM.keep{g g':Gh}{w w':World}{b:Nat}{es:MM}(h:BlkM g w b es)(hm:Mono g w g' w')(hM:g'.M b=g.M b)(hh:w'.heap[b]?=w.heap[b]?):BlkM g' w' b es:=by
 cases es with
 | s es=>obtain ⟨h1,arr,clock,h2,h3⟩:=h; exact ⟨hM.trans h1,arr,clock,hh.trans h2,h3.mono hm⟩
 | i es=>obtain ⟨h1,arr,clock,h2,h3⟩:=h; exact ⟨hM.trans h1,arr,clock,hh.trans h2,h3.mono hm⟩
 | it m=>obtain ⟨h1,bm,since,last,h2,h3⟩:=h; exact ⟨hM.trans h1,bm,since,last,hm.ext _ _ h2,hh.trans h3⟩
 | fit ks vs seen=>obtain ⟨h1,bm,stamps,clk,arr,es,I,h2,h3,h4,h5,h6⟩:=h; exact ⟨hM.trans h1,bm,stamps,clk,arr,es,I,hh.trans h2,(hm.map _ _ _ h3 h4).1,(hm.map _ _ _ h3 h4).2,h5.mono hm,h6⟩
def isMM:List LV->MM->Prop
 | [.mm es],es'=>es=es'
 | _,_=>False
def BlkY(g:Gh)(w:World)(n b c:Nat)(ps:List Int):Prop:=(∀c',c<c'->g.Y n c'=none)/\g.M b=some 0/\∃cur e,w.heap[b]?=some (.cells cur e (0,0))/\ps.length<=cur.size/\∀j (h:j<ps.length),(cur.getD j undef).oneCell'=true/\Rep g w (.int .i64 ps[j]) (cur.getD j undef)
def BlkN(g:Gh)(w:World)(f:Nat->UL)(b:Nat)(cs:List LV):Prop:=(∃es,isMM cs es/\BlkM g w b es)∨∃n c ps,f=UL.x n/\cs=[.row c ps]/\BlkY g w n b c ps
theorem BlkN.keep{g g':Gh}{w w':World}{f:Nat->UL}{b:Nat}{cs:List LV}(h:BlkN g w f b cs)(hm:Mono g w g' w')(hY:∀n c,f=UL.x n->g.Y n c=none->g'.Y n c=none)(hM:g'.M b=g.M b)(hh:w'.heap[b]?=w.heap[b]?):BlkN g' w' f b cs:=by
 rcases h with ⟨es,h1,h2⟩ | ⟨n,c,ps,h1,h2,h3,h4,cur,e,h5,h6,h7⟩
 ·exact .inl ⟨es,h1,h2.keep hm hM hh⟩
 ·exact .inr ⟨n,c,ps,h1,h2,fun c' hc=>hY _ _ h1 (h3 c' hc),hM.trans h4,cur,e,hh.trans h5,h6,fun j hj=>⟨(h7 j hj).1,(h7 j hj).2.mono hm⟩⟩
def XR(g:Gh)(x:Nat)(cs:List LV)(b:Nat):Prop:=match cs with
 | [.row c _]=>g.Y x c=some b
 | _=>g.X x=some b
theorem XR.mono{g g':Gh}{w w':World}{x b:Nat}{cs:List LV}(h:XR g x cs b)(hm:Mono g w g' w'):XR g' x cs b:=by
 unfold XR at *
 split
 ·exact hm.row _ _ _ h
 ·rename_i hn
  split at h
  ·exact absurd rfl (hn _ _)
  ·exact hm.ext _ _ h
def plainE(cs:List LV):Prop:=(∀es,¬isMM cs es)/\∀c ps,cs≠[.row c ps]
theorem BlkN.plain{g:Gh}{w:World}{f:Nat->UL}{b:Nat}{cs:List LV}(h:BlkN g w f b cs)(hp:plainE cs):False:=by
 rcases h with ⟨es,h1,-⟩ | ⟨n,c,ps,-,h2,-⟩
 ·exact hp.1 es h1
 ·exact hp.2 c ps h2
theorem XR.plain{g:Gh}{x b:Nat}{cs:List LV}(h:XR g x cs b)(hp:∀c ps,cs≠[.row c ps]):g.X x=some b:=by
 unfold XR at h
 split at h
 ·exact absurd rfl (hp _ _)
 ·exact h
theorem XR.of{g:Gh}{x b:Nat}{cs:List LV}(h:g.X x=some b)(hp:∀c ps,cs≠[.row c ps]):XR g x cs b:=by
 unfold XR
 split
 ·exact absurd rfl (hp _ _)
 ·exact h
def BlkE(g:Gh)(l:LG)(w:World)(f:Nat->UL)(b:Nat)(cs:List LV):Prop:=BlkR g l w f b cs∨BlkN g w f b cs
theorem BlkR.norow{g:Gh}{l:LG}{w:World}{f:Nat->UL}{b:Nat}{cs:List LV}(h:BlkR g l w f b cs):∀c ps,cs≠[.row c ps]:=by
 rintro c ps rfl
 obtain ⟨-,cur,e,-,-,h6⟩:=h
 exact (h6 0 sM).2.2.elim
theorem ex_R{g:Gh}{l:LG}{w:World}{x b:Nat}{cs:List LV}(h1:g.X x=some b)(h2:l.O b=some (.x x))(h:BlkR g l w (.x x) b cs):∃b,XR g x cs b/\l.O b=some (.x x)/\BlkE g l w (.x x) b cs:=
 ⟨b,XR.of h1 h.norow,h2,.inl h⟩
structure Sim (cx:Cx) (s:S) (g:Gh) (l:LG) (a:Act) (w:World):Prop where
 hist:Hist cx g w
 size:a.tmps.size=cx.n
 defers:a.defers=cx.ds
 tm:∀t lv,lk s.tmps t=some lv->RepL g l w (.t t) lv (a.tmps.getD t undef)
 bx:∀i cs,lk s.boxes i=some cs->∃b,l.L i=some b/\l.O b=some (.l i)/\BlkR g l w (.b i) b cs
 ex:∀x cs,lk s.ext x=some cs->∃b,XR g x cs b/\l.O b=some (.x x)/\BlkE g l w (.x x) b cs
 own:∀b o,l.O b=some o->b<w.heap.size/\(cx.w0.heap.size<=b∨cx.own0 b)
 uo:∀p b,l.U p=some b->l.O b=some (.u p)
 fresh:(∀b,w.heap.size<=b->g.M b=none)/\(∀n,cnt s.ext<=n->g.X n=none)/\∀n c,cnt s.ext<=n->g.Y n c=none
 xlt:∀n b,g.X n=some b->b<w.heap.size
def WL:LV->LV->Prop:=fun t s=>t=s∨match t,s with
 | .v (.sl z es),.uniq e z' es'=>z=z'/\(es,decide (e<1000000))=(es',true)
 | .v (.sl z es),.full z' es'=>z=z'/\es=es'
 | .uniq _ _ es,.v .nilsl=>es=[]
 | .full _ es,.v .nilsl=>es=[]
 | .v (.sl _ es),.v .nilsl=>es=[]
 | .v q,.v (.opq p)=>q=p
 | .v (.opq p),.v q=>p=q/\q.one=true
 | .uniq e z es,.full z' es'=>z=z'/\(es,decide (e<1000000))=(es',true)
 | .junk,.mm _=>False
 | .junk,.row _ _=>False
 | .junk,_=>True
 | _,_=>False
def WLs:List LV->List LV->Prop
 | [],[]=>True
 | t::ts,s::ss=>WL t s/\WLs ts ss
 | _,_=>False
def LeT:List (Nat × LV)->List (Nat × LV)->Prop
 | [],_=>True
 | (k,v)::r,s=>(match lk s k with | some u=>WL v u | none=>False)/\LeT r s
def LeB:List (Nat × List LV)->List (Nat × List LV)->Prop
 | [],_=>True
 | (k,v)::r,s=>(match lk s k with | some u=>WLs v u | none=>False)/\LeB r s
structure Le (t s:S):Prop where
 tmps:LeT t.tmps s.tmps
 boxes:LeB t.boxes s.boxes
 ext:LeB t.ext s.ext
 cnt:Pv.cnt s.ext<=Pv.cnt t.ext
theorem WL.refl(v:LV):WL v v := .inl rfl
theorem WLs.refl:∀l:List LV,WLs l l
 | []=>trivial
 | v::r=>⟨WL.refl v,WLs.refl r⟩
theorem WL.rep{g:Gh}{l:LG}{w:World}{p:UL}{t s:LV}{v:Value}(h:WL t s)(hr:RepL g l w p s v):RepL g l w p t v:=by
 rcases h with rfl | h
 ·exact hr
 ·split at h
  ·obtain ⟨rfl,h⟩:=h
   injection h with h1 h2
   subst h1
   rcases hr with (⟨rfl,rfl⟩ | ⟨a,-,hr,-⟩) | ⟨b,off,cap,cur,-,-,-,-,-,hr⟩
   ·exact .slnil _
   ·exact hr
   ·exact hr.1 (of_decide_eq_true h2)
  ·obtain ⟨rfl,rfl⟩:=h
   rcases hr with ⟨rfl,rfl⟩ | ⟨a,-,hr⟩
   ·exact .slnil _
   ·exact hr
  ·subst h; cases hr; exact .inl (.inl ⟨rfl,rfl⟩)
  ·subst h; cases hr; exact .inl ⟨rfl,rfl⟩
  ·subst h; cases hr; exact .slnil _
  ·subst h; cases hr with | opq _ _ h1 h=>exact h
  ·obtain ⟨rfl,h1⟩:=h; exact .opq _ _ (Rep.one hr h1) hr
  ·obtain ⟨rfl,h⟩:=h
   injection h with h1 h2
   subst h1
   rcases hr with hr | ⟨a,k1,k2⟩
   ·exact .inl (.inl hr)
   ·exact .inl (.inr ⟨a,k1,k2,of_decide_eq_true h2⟩)
  ·exact h.elim
  ·exact h.elim
  ·trivial
  ·exact h.elim
theorem WL.junk{x:LV}(h:∀es,x ≠ .mm es)(h2:∀c ps,x ≠ .row c ps):WL .junk x:=by
 cases x <;> first | exact .inr trivial | exact absurd rfl (h _) | exact absurd rfl (h2 _ _)
theorem WL.row_eq{t s:LV}(h:WL t s)(hs:(∃c ps,t = .row c ps)∨∃c ps,s = .row c ps):t=s:=by
 rcases h with rfl | h
 ·rfl
 ·rcases hs with ⟨c,ps,rfl⟩ | ⟨c,ps,rfl⟩
  ·cases s <;> first | exact h.elim | (rename_i p; cases p <;> exact h.elim)
  ·cases t <;> first | exact h.elim | (rename_i p; cases p <;> exact h.elim)
theorem WL.nolp{t s:LV}(h:WL t s)(hs:s.nolp=true):t.nolp=true:=by
 rcases h with rfl | h
 ·exact hs
 ·split at h <;> first | rfl | exact h.elim
theorem WLs.length:∀ {t s:List LV},WLs t s->t.length=s.length
 | [],[],_=>rfl
 | _::_,_::_,h=>by simp [WLs.length h.2]
 | [],_::_,h=>h.elim
 | _::_,[],h=>h.elim
theorem WLs.at_:∀ {t s:List LV},WLs t s->∀ (j:Nat) (h:j<t.length) (h':j<s.length),WL t[j] s[j]
 | [],[],_,j,h,_=>absurd h sM
 | _::_,_::_,hh,0,_,_=>hh.1
 | _::_,_::_,hh,j+1,h,h'=>WLs.at_ hh.2 j (by simpa using h) (by simpa using h')
 | [],_::_,h,_,_,_=>h.elim
 | _::_,[],h,_,_,_=>h.elim
theorem LeT.at_{t s:List (Nat × LV)}(h:LeT t s){k:Nat}{v:LV}(hk:lk t k=some v):∃u,lk s k=some u/\WL v u:=by
 induction t with
 | nil=>simp [lk] at hk
 | cons x r ih=>
  obtain ⟨k',v'⟩:=x
  simp only [LeT] at h
  simp only [lk] at hk
  split at hk
  ·rename_i e
   subst e
   injection hk with hk
   subst hk
   have h1:=h.1
   split at h1
   ·rename_i u hu; exact ⟨u,hu,h1⟩
   ·exact h1.elim
  ·exact ih h.2 hk
theorem LeB.at_{t s:List (Nat × List LV)}(h:LeB t s){k:Nat}{v:List LV}(hk:lk t k=some v):∃u,lk s k=some u/\WLs v u:=by
 induction t with
 | nil=>simp [lk] at hk
 | cons x r ih=>
  obtain ⟨k',v'⟩:=x
  simp only [LeB] at h
  simp only [lk] at hk
  split at hk
  ·rename_i e
   subst e
   injection hk with hk
   subst hk
   have h1:=h.1
   split at h1
   ·rename_i u hu; exact ⟨u,hu,h1⟩
   ·exact h1.elim
  ·exact ih h.2 hk
theorem BlkR.le{g:Gh}{l:LG}{w:World}{f:Nat->UL}{b:Nat}{t s:List LV}(h:WLs t s)(hb:BlkR g l w f b s):BlkR g l w f b t:=by
 obtain ⟨hm,cur,e,hh,hs,hr⟩:=hb
 exact ⟨hm,cur,e,hh,by rw [h.length]; exact hs,fun j hj=>⟨(h.at_ j hj (by rw [<-h.length]; exact hj)).nolp (hr j (by rw [<-h.length]; exact hj)).1,(hr j (by rw [<-h.length]; exact hj)).2.1,(h.at_ j hj (by rw [<-h.length]; exact hj)).rep (hr j (by rw [<-h.length]; exact hj)).2.2⟩⟩
theorem isMM.inv{s:List LV}{es:MM}(h:isMM s es):s=[.mm es]:=by
 unfold isMM at h
 split at h
 ·subst h; rfl
 ·exact h.elim
theorem WLs.one_inv{t:List LV}{x:LV}(h:WLs t [x]):∃t0,t=[t0]/\WL t0 x:=by
 cases t with
 | nil=>exact h.elim
 | cons t0 r=>
  cases r with
  | nil=>exact ⟨t0,rfl,h.1⟩
  | cons _ _=>exact h.2.elim
theorem isMM.le{t s:List LV}{es:MM}(h:WLs t s)(hs:isMM s es):isMM t es:=by
 have:=hs.inv
 subst this
 obtain ⟨t0,rfl,h0⟩:=h.one_inv
 rcases h0 with rfl | h0
 ·rfl
 ·cases t0 <;> first | exact h0.elim | (rename_i p; cases p <;> exact h0.elim)
theorem BlkE.le{g:Gh}{l:LG}{w:World}{f:Nat->UL}{b:Nat}{t s:List LV}(h:WLs t s)(hb:BlkE g l w f b s):BlkE g l w f b t:=by
 rcases hb with hb | ⟨es,h1,h2⟩ | ⟨n,c,ps,h1,rfl,h2⟩
 ·exact .inl (hb.le h)
 ·exact .inr (.inl ⟨es,h1.le h,h2⟩)
 ·obtain ⟨t0,rfl,h0⟩:=h.one_inv
  have:=h0.row_eq (.inr ⟨_,_,rfl⟩)
  subst this
  exact .inr (.inr ⟨n,c,ps,h1,rfl,h2⟩)
theorem XR.le{g:Gh}{x b:Nat}{t s:List LV}(h:WLs t s)(hx:XR g x s b):XR g x t b:=by
 unfold XR at *
 split at hx
 ·obtain ⟨t0,rfl,h0⟩:=h.one_inv
  have:=h0.row_eq (.inr ⟨_,_,rfl⟩)
  subst this
  exact hx
 ·rename_i hn
  split
  ·rename_i c ps
   have hl:=h.length
   match s,hl,h,hn with
   | [s0],_,h,hn=>
    have:=h.1.row_eq (.inl ⟨_,_,rfl⟩)
    subst this
    exact absurd rfl (hn _ _)
  ·exact hx
theorem Sim.le{cx:Cx}{s t:S}{g:Gh}{l:LG}{a:Act}{w:World}(h:Sim cx s g l a w)(hl:Le t s):Sim cx t g l a w where
 hist:=h.hist
 size:=h.size
 defers:=h.defers
 tm k v hk:=let ⟨_,hu,hw⟩:=hl.tmps.at_ hk; hw.rep (h.tm k _ hu)
 bx k v hk:=by
  obtain ⟨u,hu,hw⟩:=hl.boxes.at_ hk
  obtain ⟨b,h1,h2,h3⟩:=h.bx k u hu
  exact ⟨b,h1,h2,h3.le hw⟩
 ex k v hk:=by
  obtain ⟨u,hu,hw⟩:=hl.ext.at_ hk
  obtain ⟨b,h1,h2,h3⟩:=h.ex k u hu
  exact ⟨b,h1.le hw,h2,h3.le hw⟩
 own:=h.own
 uo:=h.uo
 fresh:=⟨h.fresh.1,fun n hn=>h.fresh.2.1 n (Nat.le_trans hl.cnt hn),fun n c hn=>h.fresh.2.2 n c (Nat.le_trans hl.cnt hn)⟩
 xlt:=h.xlt
inductive PExit where
 | normal
 | exit (id:Nat)
 | ret
 | panic (p:PV)
def ER(g:Gh)(w:World):PExit->Exit->Prop
 | .normal,.normal=>True
 | .exit i,.exit j=>i=j
 | .ret,.ret=>True
 | .panic p,.panic ch=>∃v,ch=[{ v,recovered:=false }]/\Rep g w p v
 | _,_=>False
def post(cx:Cx)(Q:PExit->S->Prop):Exit->Act->World->Prop:=fun e a w=>∃pe s g l,Q pe s/\ER g w pe e/\Sim cx s g l a w
def PW(P:Program)(cx:Cx)(c:Code)(s:S)(Q:PExit->S->Prop):Prop:=∀g l a w,Sim cx s g l a w->c.wp P (post cx Q) a w
section
variable {P:Program} {cx:Cx} {s:S} {Q:PExit->S->Prop}
theorem PW.le{c:Code}{t:S}(hl:Le t s)(h:PW P cx c t Q):PW P cx c s Q:=fun g l a w hs=>h g l a w (hs.le hl)
theorem PW.mono{c:Code}{Q':PExit->S->Prop}(h:PW P cx c s Q)(hq:∀e s,Q e s->Q' e s):PW P cx c s Q':=fun g l a w hs=>
 wp_mono (h g l a w hs) fun _ _ _ ⟨pe,s',g',l',q,er,sm⟩=>⟨pe,s',g',l',hq _ _ q,er,sm⟩
def thenQ(K:S->Prop)(Q:PExit->S->Prop):PExit->S->Prop
 | .normal,s=>K s
 | e,s=>Q e s
def blockQ(id:Nat)(Q:PExit->S->Prop):PExit->S->Prop
 | .exit id',s=>if id'=id then Q .normal s else Q (.exit id') s
 | e,s=>Q e s
theorem PW_skip(h:Q .normal s):PW P cx .skip s Q:=fun g l _ _ hs=>wp_skip ⟨.normal,s,g,l,h,trivial,hs⟩
theorem PW_ret(h:Q .ret s):PW P cx .ret s Q:=fun g l _ _ hs=>wp_ret ⟨.ret,s,g,l,h,trivial,hs⟩
theorem PW_exit{id:Nat}(h:Q (.exit id) s):PW P cx (.exit id) s Q:=fun g l _ _ hs=>wp_exit ⟨.exit id,s,g,l,h,rfl,hs⟩
theorem PW_seq{x y:Code}(h:PW P cx x s (thenQ (fun s'=>PW P cx y s' Q) Q)):PW P cx (.seq x y) s Q:=fun g l a w hs=>by
 refine wp_seq (wp_mono (h g l a w hs) ?_)
 rintro e a' w' ⟨pe,s',g',l',q,er,sm⟩
 cases pe <;> cases e <;> first | exact er.elim | skip
 ·exact q g' l' a' w' sm
 ·exact ⟨_,s',g',l',q,er,sm⟩
 ·exact ⟨_,s',g',l',q,er,sm⟩
 ·exact ⟨_,s',g',l',q,er,sm⟩
theorem PW_block{id:Nat}{c:Code}(h:PW P cx c s (blockQ id Q)):PW P cx (.block id c) s Q:=fun g l a w hs=>by
 refine wp_block (wp_mono (h g l a w hs) ?_)
 rintro e a' w' ⟨pe,s',g',l',q,er,sm⟩
 cases pe <;> cases e <;> first | exact er.elim | skip
 ·exact ⟨.normal,s',g',l',q,er,sm⟩
 ·rename_i i j
  have er':i=j:=er
  subst er'
  simp only [Exit.inBlock]
  simp only [blockQ] at q
  split
  ·rename_i hi; rw [iP hi] at q; exact ⟨.normal,s',g',l',q,trivial,sm⟩
  ·rename_i hi; rw [iN hi] at q; exact ⟨.exit i,s',g',l',q,rfl,sm⟩
 ·exact ⟨_,s',g',l',q,er,sm⟩
 ·exact ⟨_,s',g',l',q,er,sm⟩
theorem Rep.bool_inv{g:Gh}{w:World}{b:Bool}{v:Value}(h:Rep g w (.bool b) v):v = .bool b:=by cases h; rfl
theorem PW_cond{t:Tmp}{b:Bool}{x y:Code}(hc:lk s.tmps t=some (.v (.bool b)))(ht:b=true->PW P cx x s Q)(hf:b=false->PW P cx y s Q) :
  PW P cx (.cond (.tmp t) x y) s Q:=fun g l a w hs=>by
 have hv:a.eval (.tmp t) = .bool b:=Rep.bool_inv (hs.tm t _ hc)
 exact wp_cond_split hv (fun e=>ht e g l a w hs) (fun e=>hf e g l a w hs)
end
open Go.RowKit
theorem RepL.keep{g g':Gh}{l l':LG}{w w':World}{p:UL}{lv:LV}{v:Value}(hr:RepL g l w p lv v)(hm:Mono g w g' w')
  (hL:∀i off,lv = .lp i off->l'.L i=l.L i) (hU:∀b,l.U p=some b->l'.U p=some b/\g'.M b=g.M b/\w'.heap[b]?=w.heap[b]?):RepL g' l' w' p lv v:=by
 cases lv with
 | v q=>exact Rep.mono hr hm
 | lp i off=>
  obtain ⟨b,h1,h2⟩:=hr
  exact ⟨b,(hL i off rfl).trans h1,h2⟩
 | uniq e size es=>
  rcases hr with (h | ⟨a,h1,h2,h3⟩) | ⟨b,off,cap,cur,h1,h2,h3,h4,h5,h6⟩
  ·exact .inl (.inl h)
  ·exact .inl (.inr ⟨a,h1,h2.mono hm,h3⟩)
  ·obtain ⟨k1,k2,k3⟩:=hU b h2
   exact .inr ⟨b,off,cap,cur,h1,k1,k2.trans h3,k3.trans h4,h5,h6.mono hm⟩
 | full size es=>
  rcases hr with h | ⟨a,h1,h2⟩
  ·exact .inl h
  ·exact .inr ⟨a,h1,h2.mono hm⟩
 | junk=>trivial
 | mm _=>exact hr.elim
 | row _ _=>exact hr.elim
def LV.free:LV->Bool
 | .uniq _ _ _=>false
 | _=>true
theorem RepL.free{g:Gh}{l:LG}{w:World}{p q:UL}{lv:LV}{v:Value}(h:lv.free=true)(hr:RepL g l w p lv v):RepL g l w q lv v:=by
 cases lv with
 | uniq e size es=>cases h
 | v _=>exact hr
 | lp _ _=>exact hr
 | full _ _=>exact hr
 | junk=>exact hr
 | mm _=>exact hr
 | row _ _=>exact hr
theorem eval_put(a:Act)(d t:Nat)(v:Value)(h:d<a.tmps.size):(a.put (some d) v).tmps.getD t undef=if d=t then v else a.tmps.getD t undef:=by
 simp only [Act.put,Array.getD_eq_getD_getElem?,Array.getElem?_setIfInBounds]
 split
 ·simp
 ·rfl
section
variable {cx:Cx} {s:S} {g:Gh} {l:LG} {a:Act} {w:World}
theorem Sim.set(h:Sim cx s g l a w){d:Nat}{lv:LV}{v:Value}(hd:d<cx.n)(hr:RepL g l w (.t d) lv v) :
  Sim cx { s with tmps:=put s.tmps d lv } g l (a.put (some d) v) w where
 hist:=h.hist
 size:=by simp [Act.put,h.size]
 defers:=by simp [Act.put,h.defers]
 tm t lv' ht:=by
  rw [eval_put a d t v (by rw [h.size]; exact hd)]
  rw [lk_put] at ht
  split
  ·rename_i e; subst e; rw [iP rfl] at ht; injection ht with ht; subst ht; exact hr
  ·rename_i e; rw [iN e] at ht; exact h.tm t lv' ht
 bx:=h.bx
 ex:=h.ex
 own:=h.own
 uo:=h.uo
 fresh:=h.fresh
 xlt:=h.xlt
def del{α:Type}:List (Nat × α)->Nat->List (Nat × α)
 | [],_=>[]
 | (k,v)::r,t=>if k=t then del r t else (k,v)::del r t
theorem lk_del{α:Type}(l:List (Nat × α))(t u:Nat):lk (del l t) u=if t=u then none else lk l u:=by
 induction l with
 | nil=>simp [del,lk]
 | cons x r ih=>
  obtain ⟨k,v⟩:=x
  by_cases hk:k=t
  ·subst hk
   simp only [del,if_true,ih,lk]
   split <;> rfl
  ·simp only [del,hk,if_false,lk,ih]
   by_cases hu:k=u
   ·subst hu; simp [Ne.symm hk]
   ·simp [hu]
theorem len_of_same{w w':World}(hb:∀b,b<w.heap.size->w'.heap[b]?=w.heap[b]?):∀ (b:Nat) (cur:Array Value) (e:TypeId),w.heap[b]?=some (Obj.cells cur e (0,0))->∃cur':Array Value,w'.heap[b]?=some (Obj.cells cur' e (0,0))/\cur'.size=cur.size:=
 fun b cur _ h=>⟨cur,(hb b (Array.getElem?_eq_some_iff.1 h).1).trans h,rfl⟩
theorem map_of_same{g g':Gh}{w w':World}(hb:∀b,b<w.heap.size->w'.heap[b]?=w.heap[b]?)(hM:∀b,b<w.heap.size->g.M b=none->g'.M b=none):∀ (b:Nat) (arr:Array MapEntry) (clk:Nat),w.heap[b]?=some (Obj.map arr clk)->g.M b=none->w'.heap[b]?=some (Obj.map arr clk)/\g'.M b=none:=
 fun b _ _ h hn=>have hlt:=(Array.getElem?_eq_some_iff.1 h).1; ⟨(hb b hlt).trans h,hM b hlt hn⟩
theorem Sim.world{w':World}(h:Sim cx s g l a w)(hsz:w.heap.size<=w'.heap.size)(hb:∀b,b<w.heap.size->w'.heap[b]?=w.heap[b]?)
  (os:w'.os=w.os) (tape:w'.tape=w.tape) (output:w'.output=w.output):Sim cx s g l a w'/\Mono g w g w':=by
 have hm:Mono g w g w':=⟨fun _ _ e=>e,fun b o v hc hf=>⟨by
  have:=World.block_lt_of_cell? w _ hc
  rw [<-hc]; exact World.cell?_of_block (hb b this),hf⟩,len_of_same hb,fun _ _ _ h=>h,map_of_same hb fun _ _ h=>h⟩
 have hL:∀ {p lv v},RepL g l w p lv v->RepL g l w' p lv v:=fun hr=>hr.keep hm (fun _ _ _=>rfl) fun b hu=>⟨hu,rfl,hb b (h.own b _ (h.uo _ _ hu)).1⟩
 refine ⟨⟨⟨h.hist.mono.trans hm,Nat.le_trans h.hist.size hsz,fun b hlt ho=>?_,os.trans h.hist.os,tape.trans h.hist.tape,output.trans h.hist.output,h.hist.glb.mono hm⟩,h.size,h.defers,fun t lv ht=>hL (h.tm t lv ht),?_,?_,?_,h.uo,?_,?_⟩,hm⟩
 ·obtain ⟨h1,h2⟩:=h.hist.frame b hlt ho
  exact ⟨(hb b (Nat.lt_of_lt_of_le hlt h.hist.size)).trans h1,h2⟩
 ·intro i cs hi
  obtain ⟨b,h1,h2,h3,cur,e,h4,h5,h6⟩:=h.bx i cs hi
  exact ⟨b,h1,h2,h3,cur,e,(hb b (h.own b _ h2).1).trans h4,h5,fun j hj=>⟨(h6 j hj).1,(h6 j hj).2.1,hL (h6 j hj).2.2⟩⟩
 ·intro i cs hi
  obtain ⟨b,h1,h2,hE⟩:=h.ex i cs hi
  refine ⟨b,h1,h2,?_⟩
  rcases hE with ⟨h3,cur,e,h4,h5,h6⟩ | hE
  ·exact .inl ⟨h3,cur,e,(hb b (h.own b _ h2).1).trans h4,h5,fun j hj=>⟨(h6 j hj).1,(h6 j hj).2.1,hL (h6 j hj).2.2⟩⟩
  ·exact .inr (hE.keep hm (fun _ _ _ h=>h) rfl (hb b (h.own b _ h2).1))
 ·intro b o ho
  exact ⟨Nat.lt_of_lt_of_le (h.own b o ho).1 hsz,(h.own b o ho).2⟩
 ·exact ⟨fun b hb'=>h.fresh.1 b (Nat.le_trans hsz hb'),h.fresh.2⟩
 ·exact fun n b hx=>Nat.lt_of_lt_of_le (h.xlt n b hx) hsz
theorem Sim.alloc(h:Sim cx s g l a w)(o:Obj):Sim cx s g l a (w.alloc o)/\Mono g w g (w.alloc o):=
 h.world sM (fun b hb=>Below.heap_alloc w o b hb) rfl rfl rfl
theorem Sim.drew(h:Sim cx s g l a w):Sim cx s g l a w.drew/\Mono g w g w.drew:=h.world (Nat.le_refl _) (fun _ _=>rfl) rfl rfl rfl
def kl(i:Nat):LV->LV
 | .lp j o=>if j=i then .junk else .lp j o
 | lv=>lv
def killp(i:Nat):List (Nat × LV)->List (Nat × LV)
 | []=>[]
 | (k,lv)::r=>(k,kl i lv)::killp i r
theorem lk_kill(i:Nat):∀ (tl:List (Nat × LV)) (t:Nat),lk (killp i tl) t=(lk tl t).map (kl i)
 | [],t=>rfl
 | (k,x)::r,t=>by
  simp only [killp,lk]
  split
  ·rfl
  ·exact lk_kill i r t
theorem kl_rep{i:Nat}{lv:LV}:(kl i lv = .junk)∨(kl i lv=lv/\∀off,lv ≠ .lp i off):=by
 cases lv with
 | lp j o=>
  simp only [kl]
  split
  ·exact .inl rfl
  ·rename_i h; exact .inr ⟨rfl,fun off e=>by injection e with e1 e2; exact h e1⟩
 | _=>exact .inr ⟨rfl,fun off e=>by cases e⟩
def upd{α:Type}(f:Nat->α)(b:Nat)(x:α):Nat->α:=fun y=>if y=b then x else f y
def updU(f:UL->Option Nat)(p:UL)(x:Option Nat):UL->Option Nat:=fun y=>if y=p then x else f y
theorem upd_same{α:Type}(f:Nat->α)(b:Nat)(x:α):upd f b x b=x:=by simp [upd]
theorem upd_other{α:Type}(f:Nat->α){b y:Nat}(x:α)(h:y≠b):upd f b x y=f y:=by simp [upd,h]
theorem Sim.newbox(h:Sim cx s g l a w)(i:Nat)(cur:Array Value)(e:TypeId)(ps:List PV)(hr:RepAll g w ps cur.toList)(hone:∀u∈cur.toList,u.oneCell'=true) :
  Sim cx { s with tmps:=killp i s.tmps,boxes:=put s.boxes i (ps.map .v) } { g with M:=upd g.M w.heap.size (some 0) }
   { l with L:=upd l.L i (some w.heap.size),O:=upd l.O w.heap.size (some (.l i)) } a (w.alloc (.cells cur e)) /\
  Mono g w { g with M:=upd g.M w.heap.size (some 0) } (w.alloc (.cells cur e)):=by
 have hb:∀b,b<w.heap.size->(w.alloc (.cells cur e)).heap[b]?=w.heap[b]?:=fun b hb=>Below.heap_alloc w _ b hb
 have hm:Mono g w { g with M:=upd g.M w.heap.size (some 0) } (w.alloc (.cells cur e)):=by
  refine ⟨fun _ _ e=>e,fun b o v hc hf=>?_,len_of_same hb,fun _ _ _ h=>h,map_of_same hb fun b hlt hn=>(upd_other _ _ (Nat.ne_of_lt hlt)).trans hn⟩
  have hlt:=World.block_lt_of_cell? w _ hc
  refine ⟨by rw [<-hc]; exact World.cell?_of_block (hb b hlt),fun k hk=>hf k ?_⟩
  simp only at hlt
  rw [<-upd_other g.M (some 0) (Nat.ne_of_lt hlt)]; exact hk
 have hU:∀ {p b},l.U p=some b->l.U p=some b/\upd g.M w.heap.size (some 0) b=g.M b/\(w.alloc (.cells cur e)).heap[b]?=w.heap[b]?:=fun {p b} hu=>by
  have hlt:=(h.own b _ (h.uo _ _ hu)).1
  exact ⟨hu,upd_other _ _ (Nat.ne_of_lt hlt),hb b hlt⟩
 have hsz:(w.alloc (.cells cur e)).heap.size=w.heap.size+1:=by simp
 refine ⟨⟨⟨h.hist.mono.trans hm,by rw [hsz]; exact Nat.le_succ_of_le h.hist.size,fun b hlt ho=>?_,h.hist.os,h.hist.tape,h.hist.output,h.hist.glb.mono hm⟩,h.size,h.defers,?_,?_,?_,?_,?_,?_,?_⟩,hm⟩
 ·obtain ⟨h1,h2⟩:=h.hist.frame b hlt ho
  have hlt':=Nat.lt_of_lt_of_le hlt h.hist.size
  exact ⟨(hb b hlt').trans h1,(upd_other g.M (some 0) (Nat.ne_of_lt hlt')).trans h2⟩
 ·intro t lv ht
  simp only [lk_kill,Option.map_eq_some_iff] at ht
  obtain ⟨lv0,h0,rfl⟩:=ht
  rcases kl_rep (i:=i) (lv:=lv0) with hj | ⟨he,hne⟩
  ·rw [hj]; trivial
  ·rw [he]
   refine (h.tm t lv0 h0).keep hm (fun k off e=>?_) fun b hu=>hU hu
   exact upd_other _ _ (fun ek=>hne off (by rw [e,ek]))
 ·intro k cs hk
  rw [lk_put] at hk
  split at hk
  ·rename_i ek
   subst ek
   injection hk with hk
   subst hk
   refine ⟨w.heap.size,upd_same _ _ _,upd_same _ _ _,upd_same _ _ _,cur,e,heap_alloc_new w _,by simpa using Nat.le_of_eq hr.1,fun j hj=>?_⟩
   have hj1:j<ps.length:=by simpa using hj
   have hj2:j<cur.toList.length:=by rw [<-hr.1]; exact hj1
   have hj3:j<cur.size:=by simpa using hj2
   refine ⟨by simp [LV.nolp],hone _ (by simp [hj3]),?_⟩
   have:=(hr.2 j hj1 hj2).mono hm
   simpa [RepL,hj3] using this
  ·rename_i ek
   obtain ⟨b,h1,h2,h3,cur',e',h4,h5,h6⟩:=h.bx k cs hk
   have hlt:=(h.own b _ h2).1
   refine ⟨b,(upd_other _ _ (Ne.symm ek)).trans h1,(upd_other _ _ (Nat.ne_of_lt hlt)).trans h2,(upd_other _ _ (Nat.ne_of_lt hlt)).trans h3,cur',e',(hb b hlt).trans h4,h5,fun j hj=>⟨(h6 j hj).1,(h6 j hj).2.1,(h6 j hj).2.2.keep hm (fun k off e=>?_) fun b hu=>hU hu⟩⟩
   have:=(h6 j hj).1
   rw [e] at this
   cases this
 ·intro k cs hk
  obtain ⟨b,h1,h2,hE⟩:=h.ex k cs hk
  have hlt:=(h.own b _ h2).1
  refine ⟨b,h1,(upd_other _ _ (Nat.ne_of_lt hlt)).trans h2,?_⟩
  rcases hE with ⟨h3,cur',e',h4,h5,h6⟩ | hE
  ·refine .inl ⟨(upd_other _ _ (Nat.ne_of_lt hlt)).trans h3,cur',e',(hb b hlt).trans h4,h5,fun j hj=>⟨(h6 j hj).1,(h6 j hj).2.1,(h6 j hj).2.2.keep hm (fun k off e=>?_) fun b hu=>hU hu⟩⟩
   have:=(h6 j hj).1
   rw [e] at this
   cases this
  ·exact .inr (hE.keep hm (fun _ _ _ h=>h) (upd_other _ _ (Nat.ne_of_lt hlt)) (hb b hlt))
 ·intro b o ho
  simp only [upd] at ho
  split at ho
  ·rename_i eb
   subst eb
   exact ⟨by rw [hsz]; omega,.inl h.hist.size⟩
  ·obtain ⟨k1,k2⟩:=h.own b o ho
   exact ⟨by rw [hsz]; omega,k2⟩
 ·intro p b hu
  have hlt:=(h.own b _ (h.uo _ _ hu)).1
  exact (upd_other _ _ (Nat.ne_of_lt hlt)).trans (h.uo p b hu)
 ·refine ⟨fun b hb'=>?_,h.fresh.2⟩
  rw [hsz] at hb'
  exact (upd_other _ _ oM).trans (h.fresh.1 b oM)
 ·intro n b hx
  rw [hsz]
  exact Nat.lt_succ_of_lt (h.xlt n b hx)
def splice{α:Type}:List α->Nat->List α->List α
 | cs,0,[]=>cs
 | _::cs,0,v::vs=>v::splice cs 0 vs
 | c::cs,off+1,vs=>c::splice cs off vs
 | [],_,_=>[]
theorem splice_length{α:Type}:∀ (cs:List α) (off:Nat) (vs:List α),(splice cs off vs).length=cs.length
 | cs,0,[]=>by simp [splice]
 | c::cs,0,v::vs=>by simp [splice,splice_length cs 0 vs]
 | c::cs,off+1,vs=>by simp [splice,splice_length cs off vs]
 | [],0,v::vs=>by simp [splice]
 | [],off+1,vs=>by simp [splice]
theorem splice_get{α:Type}:∀ (cs:List α) (off:Nat) (vs:List α),off+vs.length<=cs.length->∀j,(splice cs off vs)[j]?=if off<=j/\j<off+vs.length then vs[j - off]? else cs[j]?
 | cs,0,[],_,j=>by simp [splice]
 | c::cs,0,v::vs,h,j=>by
  cases j with
  | zero=>simp [splice]
  | succ j=>
   have:=splice_get cs 0 vs (by simpa using h) j
   simp only [splice,List.getElem?_cons_succ,this]
   simp
 | c::cs,off+1,vs,h,j=>by
  cases j with
  | zero=>simp [splice]
  | succ j=>
   have:=splice_get cs off vs (by simp at h; omega) j
   simp only [splice,List.getElem?_cons_succ,this]
   by_cases hc:off<=j/\j<off+vs.length
   ·rw [iP hc,iP oM]
    congr 1
    omega
   ·rw [iN hc,iN oM]
 | [],0,v::vs,h,_=>by simp at h
 | [],off+1,vs,h,_=>by simp at h
theorem splice_eq{α:Type}(cs:List α)(off:Nat)(vs:List α)(h:off+vs.length<=cs.length):splice cs off vs=cs.take off++vs++cs.drop (off+vs.length):=by
 apply List.ext_getElem?
 intro j
 rw [splice_get cs off vs h j]
 by_cases h1:j<off
 ·rw [iN oM,List.getElem?_append_left (by simp; omega),List.getElem?_append_left (by simp; omega),List.getElem?_take_of_lt h1]
 ·by_cases h2:j<off+vs.length
  ·rw [iP oM,List.getElem?_append_left (by simp; omega),List.getElem?_append_right (by simp; omega)]
   congr 1
   simp
   omega
  ·rw [iN oM,List.getElem?_append_right (by simp; omega),List.getElem?_drop]
   congr 1
   simp
   omega
end
section
variable {cx:Cx} {s:S} {g:Gh} {l:LG} {a:Act} {w:World}
theorem len_setRow{b:Nat}{arr cur:Array Value}{e:TypeId}(h4:w.heap[b]?=some (.cells cur e (0,0)))(hs:arr.size=cur.size):∀ (b':Nat) (cur:Array Value) (e:TypeId),w.heap[b']?=some (Obj.cells cur e (0,0))->∃cur':Array Value,(w.setRow b arr).heap[b']?=some (Obj.cells cur' e (0,0))/\cur'.size=cur.size:=
 fun b' cur' e' hh=>by
  by_cases hb:b'=b
  ·subst hb
   rw [h4] at hh
   injection hh with hh
   injection hh with h1 h2
   subst h1 h2
   exact ⟨arr,setRow_heap w b' cur _ e _ h4,hs⟩
  ·exact ⟨cur',(setRow_other w b b' arr hb).trans hh,rfl⟩
theorem mono_setRow{b:Nat}{arr cur:Array Value}{e:TypeId}(hM:g.M b=some 0)(h4:w.heap[b]?=some (.cells cur e (0,0)))(hs:arr.size=cur.size):Mono g w g (w.setRow b arr):=
 ⟨fun _ _ e=>e,fun b' o v hc hf=>by
  have hne:b'≠b:=by
   rintro rfl
   exact absurd (hf 0 hM) oM
  exact ⟨by rw [<-hc]; exact World.cell?_of_block (setRow_other w b b' arr hne),hf⟩,len_setRow h4 hs,fun _ _ _ h=>h,fun b' arr' clk hh hn=>⟨(setRow_other w b b' arr (by rintro rfl; rw [h4] at hh; cases hh)).trans hh,hn⟩⟩
theorem Hist.setRow{b:Nat}{arr cur:Array Value}{e:TypeId}(h:Hist cx g w)(hM:g.M b=some 0)(h4:w.heap[b]?=some (.cells cur e (0,0)))(hs:arr.size=cur.size)(hb:cx.w0.heap.size<=b∨cx.own0 b):Hist cx g (w.setRow b arr):=
 ⟨h.mono.trans (mono_setRow hM h4 hs),by simpa using h.size,fun b' hlt ho=>by
  have hne:b'≠b:=by
   rintro rfl
   rcases hb with hb | hb
   ·omega
   ·exact ho hb
  rw [setRow_other w b b' arr hne]
  exact h.frame b' hlt ho,h.os,h.tape,h.output,h.glb.mono (mono_setRow hM h4 hs)⟩
theorem Sim.wbox(h:Sim cx s g l a w){i:Nat}{cs:List LV}(hi:lk s.boxes i=some cs)(off:Nat)(lvs:List LV)(vs:List Value)(hl:lvs.length=vs.length)(hfit:off+lvs.length<=cs.length)
  (hr:∀j (h:j<lvs.length) (h':j<vs.length),lvs[j].nolp=true/\vs[j].oneCell'=true/\RepL g l w (.b i (off+j)) lvs[j] vs[j]) :
  ∃b cur e,l.L i=some b/\w.heap[b]?=some (.cells cur e (0,0))/\cs.length<=cur.size /\
   Sim cx { s with boxes:=put s.boxes i (splice cs off lvs) } g l a (w.setRow b (splice cur.toList off vs).toArray)/\Mono g w g (w.setRow b (splice cur.toList off vs).toArray):=by
 obtain ⟨b,h1,h2,hM,cur,e,h4,h5,h6⟩:=h.bx i cs hi
 refine ⟨b,cur,e,h1,h4,h5,?_,mono_setRow hM h4 (by simp [splice_length])⟩
 have hm:Mono g w g (w.setRow b (splice cur.toList off vs).toArray):=mono_setRow hM h4 (by simp [splice_length])
 have hne:∀ {b' o},l.O b'=some o->o ≠ .l i->b'≠b:=fun {b' o} ho hn e=>by
  subst e
  rw [h2] at ho
  injection ho with ho
  exact hn ho.symm
 have hU:∀ {p b'},l.U p=some b'->l.U p=some b'/\g.M b'=g.M b'/\(w.setRow b (splice cur.toList off vs).toArray).heap[b']?=w.heap[b']?:=fun {p b'} hu=>
  ⟨hu,rfl,setRow_other w b b' _ (hne (h.uo _ _ hu) sM)⟩
 have hL:∀ {p lv v},RepL g l w p lv v->RepL g l (w.setRow b (splice cur.toList off vs).toArray) p lv v:=fun hr=>hr.keep hm (fun _ _ _=>rfl) fun b hu=>hU hu
 refine ⟨h.hist.setRow hM h4 (by simp [splice_length]) (h.own b _ h2).2,h.size,h.defers,fun t lv ht=>hL (h.tm t lv ht),?_,?_,?_,h.uo,?_,?_⟩
 ·intro k cs' hk
  rw [lk_put] at hk
  split at hk
  ·rename_i ek
   subst ek
   injection hk with hk
   subst hk
   refine ⟨b,h1,h2,hM,_,e,setRow_heap w b cur _ e _ h4,by simp [splice_length,h5],fun j hj=>?_⟩
   rw [splice_length] at hj
   have hfit':off+vs.length<=cur.toList.length:=by simp only [Array.length_toList]; omega
   have g1:=splice_get cs off lvs hfit j
   have g2:=splice_get cur.toList off vs hfit' j
   have hj1:j<(splice cs off lvs).length:=by rw [splice_length]; exact hj
   rw [List.getElem?_eq_getElem hj1] at g1
   have g3:((splice cur.toList off vs).toArray.getD j undef)=((splice cur.toList off vs)[j]?).getD undef:=by simp [Array.getD_eq_getD_getElem?]
   by_cases hc:off<=j/\j<off+lvs.length
   ·have hc':off<=j/\j<off+vs.length:=by omega
    rw [iP hc,List.getElem?_eq_getElem (l:=lvs) oM] at g1
    rw [iP hc',List.getElem?_eq_getElem (l:=vs) oM] at g2
    injection g1 with g1
    have hh:=hr (j - off) oM oM
    rw [show off+(j - off)=j by omega] at hh
    rw [g1,g3,g2]
    exact ⟨hh.1,hh.2.1,hL hh.2.2⟩
   ·have hc':¬(off<=j/\j<off+vs.length):=by omega
    rw [iN hc,List.getElem?_eq_getElem (l:=cs) hj] at g1
    rw [iN hc'] at g2
    injection g1 with g1
    have hh:=h6 j hj
    rw [g1,g3,g2]
    refine ⟨hh.1,?_,hL ?_⟩
    ·have:=hh.2.1
     simpa [Array.getD_eq_getD_getElem?] using this
    ·have:=hh.2.2
     simpa [Array.getD_eq_getD_getElem?] using this
  ·rename_i ek
   obtain ⟨b',k1,k2,k3,cur',e',k4,k5,k6⟩:=h.bx k cs' hk
   have hn:=hne k2 (by simp; exact fun e=>ek e.symm)
   exact ⟨b',k1,k2,k3,cur',e',(setRow_other w b b' _ hn).trans k4,k5,fun j hj=>⟨(k6 j hj).1,(k6 j hj).2.1,hL (k6 j hj).2.2⟩⟩
 ·intro k cs' hk
  obtain ⟨b',k1,k2,hE⟩:=h.ex k cs' hk
  have hn:=hne k2 sM
  refine ⟨b',k1,k2,?_⟩
  rcases hE with ⟨k3,cur',e',k4,k5,k6⟩ | hE
  ·exact .inl ⟨k3,cur',e',(setRow_other w b b' _ hn).trans k4,k5,fun j hj=>⟨(k6 j hj).1,(k6 j hj).2.1,hL (k6 j hj).2.2⟩⟩
  ·exact .inr (hE.keep hm (fun _ _ _ h=>h) rfl (setRow_other w b b' _ hn))
 ·intro b' o ho
  simpa using h.own b' o ho
 ·exact ⟨fun b' hb'=>h.fresh.1 b' (by simpa using hb'),h.fresh.2⟩
 ·intro n b' hx
  simpa using h.xlt n b' hx
theorem Sim.wext(h:Sim cx s g l a w){i:Nat}{cs:List LV}(hi:lk s.ext i=some cs)(off:Nat)(lvs:List LV)(vs:List Value)(hl:lvs.length=vs.length)(hfit:off+lvs.length<=cs.length)
  (hr:∀j (h:j<lvs.length) (h':j<vs.length),lvs[j].nolp=true/\vs[j].oneCell'=true/\RepL g l w (.x i (off+j)) lvs[j] vs[j]) (hcs:plainE cs) :
  ∃b cur e,g.X i=some b/\w.heap[b]?=some (.cells cur e (0,0))/\cs.length<=cur.size /\
   Sim cx { s with ext:=put s.ext i (splice cs off lvs) } g l a (w.setRow b (splice cur.toList off vs).toArray)/\Mono g w g (w.setRow b (splice cur.toList off vs).toArray):=by
 obtain ⟨b,h1,h2,hE⟩:=h.ex i cs hi
 rcases hE with hB | hE
 rotate_left
 ·exact (hE.plain hcs).elim
 replace h1:=h1.plain hcs.2
 obtain ⟨hM,cur,e,h4,h5,h6⟩:=hB
 refine ⟨b,cur,e,h1,h4,h5,?_,mono_setRow hM h4 (by simp [splice_length])⟩
 have hm:Mono g w g (w.setRow b (splice cur.toList off vs).toArray):=mono_setRow hM h4 (by simp [splice_length])
 have hne:∀ {b' o},l.O b'=some o->o ≠ .x i->b'≠b:=fun {b' o} ho hn e=>by
  subst e
  rw [h2] at ho
  injection ho with ho
  exact hn ho.symm
 have hU:∀ {p b'},l.U p=some b'->l.U p=some b'/\g.M b'=g.M b'/\(w.setRow b (splice cur.toList off vs).toArray).heap[b']?=w.heap[b']?:=fun {p b'} hu=>
  ⟨hu,rfl,setRow_other w b b' _ (hne (h.uo _ _ hu) sM)⟩
 have hL:∀ {p lv v},RepL g l w p lv v->RepL g l (w.setRow b (splice cur.toList off vs).toArray) p lv v:=fun hr=>hr.keep hm (fun _ _ _=>rfl) fun b hu=>hU hu
 refine ⟨h.hist.setRow hM h4 (by simp [splice_length]) (h.own b _ h2).2,h.size,h.defers,fun t lv ht=>hL (h.tm t lv ht),?_,?_,?_,h.uo,?_,?_⟩
 ·intro k cs' hk
  obtain ⟨b',k1,k2,k3,cur',e',k4,k5,k6⟩:=h.bx k cs' hk
  have hn:=hne k2 sM
  exact ⟨b',k1,k2,k3,cur',e',(setRow_other w b b' _ hn).trans k4,k5,fun j hj=>⟨(k6 j hj).1,(k6 j hj).2.1,hL (k6 j hj).2.2⟩⟩
 ·intro k cs' hk
  rw [lk_put] at hk
  split at hk
  ·rename_i ek
   subst ek
   injection hk with hk
   subst hk
   refine ex_R h1 h2 ⟨hM,_,e,setRow_heap w b cur _ e _ h4,by simp [splice_length,h5],fun j hj=>?_⟩
   rw [splice_length] at hj
   have hfit':off+vs.length<=cur.toList.length:=by simp only [Array.length_toList]; omega
   have g1:=splice_get cs off lvs hfit j
   have g2:=splice_get cur.toList off vs hfit' j
   have hj1:j<(splice cs off lvs).length:=by rw [splice_length]; exact hj
   rw [List.getElem?_eq_getElem hj1] at g1
   have g3:((splice cur.toList off vs).toArray.getD j undef)=((splice cur.toList off vs)[j]?).getD undef:=by simp [Array.getD_eq_getD_getElem?]
   by_cases hc:off<=j/\j<off+lvs.length
   ·have hc':off<=j/\j<off+vs.length:=by omega
    rw [iP hc,List.getElem?_eq_getElem (l:=lvs) oM] at g1
    rw [iP hc',List.getElem?_eq_getElem (l:=vs) oM] at g2
    injection g1 with g1
    have hh:=hr (j - off) oM oM
    rw [show off+(j - off)=j by omega] at hh
    rw [g1,g3,g2]
    exact ⟨hh.1,hh.2.1,hL hh.2.2⟩
   ·have hc':¬(off<=j/\j<off+vs.length):=by omega
    rw [iN hc,List.getElem?_eq_getElem (l:=cs) hj] at g1
    rw [iN hc'] at g2
    injection g1 with g1
    have hh:=h6 j hj
    rw [g1,g3,g2]
    refine ⟨hh.1,?_,hL ?_⟩
    ·have:=hh.2.1
     simpa [Array.getD_eq_getD_getElem?] using this
    ·have:=hh.2.2
     simpa [Array.getD_eq_getD_getElem?] using this
  ·rename_i ek
   obtain ⟨b',k1,k2,hE⟩:=h.ex k cs' hk
   have hn:=hne k2 (by simp; exact fun e=>ek e.symm)
   refine ⟨b',k1,k2,?_⟩
   rcases hE with ⟨k3,cur',e',k4,k5,k6⟩ | hE
   ·exact .inl ⟨k3,cur',e',(setRow_other w b b' _ hn).trans k4,k5,fun j hj=>⟨(k6 j hj).1,(k6 j hj).2.1,hL (k6 j hj).2.2⟩⟩
   ·exact .inr (hE.keep hm (fun _ _ _ h=>h) rfl (setRow_other w b b' _ hn))
 ·intro b' o ho
  simpa using h.own b' o ho
 ·exact ⟨fun b' hb'=>h.fresh.1 b' (by simpa using hb'),fun n hn=>h.fresh.2.1 n (by rw [cnt_put_old hi] at hn; exact hn),fun n c hn=>h.fresh.2.2 n c (by rw [cnt_put_old hi] at hn; exact hn)⟩
 ·intro n b' hx
  simpa using h.xlt n b' hx
def noU(s:S):UL->Prop
 | .t d=>∀e z es,lk s.tmps d≠some (.uniq e z es)
 | .b i j=>∀cs,lk s.boxes i=some cs->∀e z es,cs[j]?≠some (.uniq e z es)
 | .x n j=>∀cs,lk s.ext n=some cs->∀e z es,cs[j]?≠some (.uniq e z es)
theorem RepL.noU{g':Gh}{l':LG}{w':World}{p:UL}{lv:LV}{v:Value}(hr:RepL g l w p lv v)(hm:Mono g w g' w')(hL:l'.L=l.L)(hlv:∀e z es,lv ≠ .uniq e z es):RepL g' l' w' p lv v:=by
 cases lv with
 | v q=>exact Rep.mono hr hm
 | lp i off=>
  obtain ⟨b,h1,h2⟩:=hr
  exact ⟨b,by rw [hL]; exact h1,h2⟩
 | uniq e size es=>exact absurd rfl (hlv e size es)
 | full size es=>
  rcases hr with h | ⟨a,h1,h2⟩
  ·exact .inl h
  ·exact .inr ⟨a,h1,h2.mono hm⟩
 | junk=>trivial
 | mm _=>exact hr.elim
 | row _ _=>exact hr.elim
theorem Sim.reown(h:Sim cx s g l a w){p q:UL}{b:Nat}(hb:l.U p=some b)(hp:noU s p)(hq:noU s q) :
  Sim cx s g { l with U:=updU (updU l.U p none) q (some b),O:=upd l.O b (some (.u q)) } a w:=by
 have hob:=h.uo p b hb
 have hU:∀ {r b'},r≠p->r≠q->l.U r=some b'->updU (updU l.U p none) q (some b) r=some b':=fun {r b'} h1 h2 hu=>by
  simp [updU,h1,h2,hu]
 have keep:∀ {r lv v},(r=p∨r=q->∀e z es,lv≠LV.uniq e z es)->RepL g l w r lv v->RepL g { l with U:=updU (updU l.U p none) q (some b),O:=upd l.O b (some (.u q)) } w r lv v:=fun {r lv v} hn hr=>by
  by_cases hc:r=p∨r=q
  ·exact hr.noU (Mono.refl g w) rfl (hn hc)
  ·simp only [not_or] at hc
   exact hr.keep (Mono.refl g w) (fun _ _ _=>rfl) fun b' hu=>⟨hU hc.1 hc.2 hu,rfl,rfl⟩
 have hO:∀ {b' o},l.O b'=some o->(∀r,o ≠ .u r)->upd l.O b (some (.u q)) b'=some o:=fun {b' o} ho hn=>by
  have:b'≠b:=by
   rintro rfl
   rw [hob] at ho
   injection ho with ho
   exact hn p ho.symm
  exact (upd_other _ _ this).trans ho
 refine ⟨h.hist,h.size,h.defers,fun t lv ht=>keep ?_ (h.tm t lv ht),?_,?_,?_,?_,h.fresh,h.xlt⟩
 ·rintro (e | e) e' z es rfl
  ·subst e; exact hp e' z es ht
  ·subst e; exact hq e' z es ht
 ·intro i cs hi
  obtain ⟨b',h1,h2,h3,cur,e,h4,h5,h6⟩:=h.bx i cs hi
  refine ⟨b',h1,hO h2 sM,h3,cur,e,h4,h5,fun j hj=>⟨(h6 j hj).1,(h6 j hj).2.1,keep ?_ (h6 j hj).2.2⟩⟩
  rintro (e0 | e0) e' z es e1
  ·subst e0; exact hp cs hi e' z es (by rw [List.getElem?_eq_getElem hj,e1])
  ·subst e0; exact hq cs hi e' z es (by rw [List.getElem?_eq_getElem hj,e1])
 ·intro i cs hi
  obtain ⟨b',h1,h2,hE⟩:=h.ex i cs hi
  refine ⟨b',h1,hO h2 sM,?_⟩
  rcases hE with ⟨h3,cur,e,h4,h5,h6⟩ | hE
  rotate_left
  ·exact .inr hE
  refine .inl ⟨h3,cur,e,h4,h5,fun j hj=>⟨(h6 j hj).1,(h6 j hj).2.1,keep ?_ (h6 j hj).2.2⟩⟩
  rintro (e0 | e0) e' z es e1
  ·subst e0; exact hp cs hi e' z es (by rw [List.getElem?_eq_getElem hj,e1])
  ·subst e0; exact hq cs hi e' z es (by rw [List.getElem?_eq_getElem hj,e1])
 ·intro b' o ho
  simp only [upd] at ho
  split at ho
  ·rename_i e; subst e; exact h.own _ _ hob
  ·exact h.own b' o ho
 ·intro r b' hu
  simp only [updU] at hu
  split at hu
  ·rename_i e; subst e; injection hu with hu; subst hu; exact upd_same _ _ _
  ·split at hu
   ·cases hu
   ·rename_i h1 h2
    have:=h.uo r b' hu
    have hne:b'≠b:=by
     rintro rfl
     rw [hob] at this
     injection this with this
     injection this with this
     exact h2 this.symm
    exact (upd_other _ _ hne).trans this
theorem Sim.transfer(h:Sim cx s g l a w){p q:UL}{e:TypeId}{z:Nat}{es:List (List PV)}{v:Value}(hr:RepL g l w p (.uniq e z es) v)(hp:noU s p)(hq:noU s q) :
  ∃l',Sim cx s g l' a w/\RepL g l' w q (.uniq e z es) v/\l'.L=l.L:=by
 rcases hr with hn | ⟨b,off,cap,cur,h1,h2,h3,h4,h5,h6⟩
 ·exact ⟨l,h,.inl hn,rfl⟩
 ·refine ⟨_,h.reown h2 hp hq,.inr ⟨b,off,cap,cur,h1,?_,h3,h4,h5,h6⟩,rfl⟩
  simp [updU]
theorem Sim.newrow(h:Sim cx s g l a w)(q:UL)(hq:noU s q)(cur:Array Value)(e:TypeId){e1:TypeId}(he1:btE e1=e)(size cap:Nat)(es:List (List PV))(hcs:cur.size=cap * size)(hle:es.length<=cap)(hcap:cap<=maxLen)
  (hsz:∀i (h:i<es.length),es[i].length=size) (xs:List Value) (hr:RepAll g w es.flatten xs) (hone:∀u∈xs,u.oneCell'=true) (htake:cur.toList.take (es.length * size)=xs) :
  ∃g' l',Sim cx s g' l' a (w.alloc (.cells cur e))/\Mono g w g' (w.alloc (.cells cur e))/\RepL g' l' (w.alloc (.cells cur e)) q (.uniq e1 size es) (.slice (some ⟨w.heap.size,0,none⟩) es.length cap):=by
 have hb:∀b,b<w.heap.size->(w.alloc (.cells cur e)).heap[b]?=w.heap[b]?:=fun b hb=>Below.heap_alloc w _ b hb
 have hsz':(w.alloc (.cells cur e)).heap.size=w.heap.size+1:=by simp
 have hm:Mono g w { g with M:=upd g.M w.heap.size (some (mkE e1 (es.length * size))) } (w.alloc (.cells cur e)):=by
  refine ⟨fun _ _ e=>e,fun b o v hc hf=>?_,len_of_same hb,fun _ _ _ h=>h,map_of_same hb fun b hlt hn=>(upd_other _ _ (Nat.ne_of_lt hlt)).trans hn⟩
  have hlt:=World.block_lt_of_cell? w _ hc
  refine ⟨by rw [<-hc]; exact World.cell?_of_block (hb b hlt),fun k hk=>hf k ?_⟩
  simp only at hlt
  rw [<-upd_other g.M (some (mkE e1 (es.length * size))) (Nat.ne_of_lt hlt)]; exact hk
 have hUne:∀ {r b'},r≠q->l.U r=some b'->updU l.U q (some w.heap.size) r=some b':=fun {r b'} h1 hu=>by simp [updU,h1,hu]
 have keep:∀ {r lv v},(r=q->∀e z es,lv≠LV.uniq e z es)->RepL g l w r lv v ->
   RepL { g with M:=upd g.M w.heap.size (some (mkE e1 (es.length * size))) } { l with U:=updU l.U q (some w.heap.size),O:=upd l.O w.heap.size (some (.u q)) } (w.alloc (.cells cur e)) r lv v:=fun {r lv v} hn hr=>by
  by_cases hc:r=q
  ·exact hr.noU hm rfl (hn hc)
  ·refine hr.keep hm (fun _ _ _=>rfl) fun b' hu=>?_
   have hlt:=(h.own b' _ (h.uo _ _ hu)).1
   exact ⟨hUne hc hu,upd_other _ _ (Nat.ne_of_lt hlt),hb b' hlt⟩
 refine ⟨{ g with M:=upd g.M w.heap.size (some (mkE e1 (es.length * size))) },{ l with U:=updU l.U q (some w.heap.size),O:=upd l.O w.heap.size (some (.u q)) },⟨⟨h.hist.mono.trans hm,by rw [hsz']; exact Nat.le_succ_of_le h.hist.size,fun b hlt ho=>?_,h.hist.os,h.hist.tape,h.hist.output,h.hist.glb.mono hm⟩,h.size,h.defers,fun t lv ht=>keep ?_ (h.tm t lv ht),?_,?_,?_,?_,?_,?_⟩,hm,?_⟩
 ·obtain ⟨h1,h2⟩:=h.hist.frame b hlt ho
  have hlt':=Nat.lt_of_lt_of_le hlt h.hist.size
  exact ⟨(hb b hlt').trans h1,(upd_other g.M _ (Nat.ne_of_lt hlt')).trans h2⟩
 ·rintro e0 e' z es' rfl
  subst e0; exact hq e' z es' ht
 ·intro i cs hi
  obtain ⟨b',h1,h2,h3,cur',e',h4,h5,h6⟩:=h.bx i cs hi
  have hlt:=(h.own b' _ h2).1
  refine ⟨b',h1,(upd_other _ _ (Nat.ne_of_lt hlt)).trans h2,(upd_other _ _ (Nat.ne_of_lt hlt)).trans h3,cur',e',(hb b' hlt).trans h4,h5,fun j hj=>⟨(h6 j hj).1,(h6 j hj).2.1,keep ?_ (h6 j hj).2.2⟩⟩
  rintro e0 e2 z es' e1
  subst e0; exact hq cs hi e2 z es' (by rw [List.getElem?_eq_getElem hj,e1])
 ·intro i cs hi
  obtain ⟨b',h1,h2,hE⟩:=h.ex i cs hi
  have hlt:=(h.own b' _ h2).1
  refine ⟨b',h1,(upd_other _ _ (Nat.ne_of_lt hlt)).trans h2,?_⟩
  rcases hE with ⟨h3,cur',e',h4,h5,h6⟩ | hE
  rotate_left
  ·exact .inr (hE.keep hm (fun _ _ _ h=>h) (upd_other _ _ (Nat.ne_of_lt hlt)) (hb b' hlt))
  refine .inl ⟨(upd_other _ _ (Nat.ne_of_lt hlt)).trans h3,cur',e',(hb b' hlt).trans h4,h5,fun j hj=>⟨(h6 j hj).1,(h6 j hj).2.1,keep ?_ (h6 j hj).2.2⟩⟩
  rintro e0 e2 z es' e1
  subst e0; exact hq cs hi e2 z es' (by rw [List.getElem?_eq_getElem hj,e1])
 ·intro b o ho
  simp only [upd] at ho
  split at ho
  ·rename_i eb
   subst eb
   exact ⟨by rw [hsz']; omega,.inl h.hist.size⟩
  ·obtain ⟨k1,k2⟩:=h.own b o ho
   exact ⟨by rw [hsz']; omega,k2⟩
 ·intro r b hu
  simp only [updU] at hu
  split at hu
  ·rename_i e0; subst e0; injection hu with hu; subst hu; exact upd_same _ _ _
  ·have hlt:=(h.own b _ (h.uo _ _ hu)).1
   exact (upd_other _ _ (Nat.ne_of_lt hlt)).trans (h.uo r b hu)
 ·refine ⟨fun b hb'=>?_,h.fresh.2⟩
  rw [hsz'] at hb'
  exact (upd_other _ _ oM).trans (h.fresh.1 b oM)
 ·intro n b hx
  rw [hsz']
  exact Nat.lt_succ_of_lt (h.xlt n b hx)
 ·have hxl:xs.length=es.length * size:=by rw [<-hr.1,flatten_length size es hsz]
  have hcur:∀j u,xs[j]?=some u->cur.toList[j]?=some u:=fun j u hu=>by
   rw [<-htake,List.getElem?_take] at hu
   split at hu
   ·exact hu
   ·cases hu
  refine .inr ⟨w.heap.size,0,cap,cur,rfl,by simp [updU],upd_same _ _ _,by rw [he1]; exact heap_alloc_new w _,hcs,fun hlt=>?_,fun hge=>⟨rfl,hle,hcap,hsz,fun j hj=>?_⟩⟩
  ·refine Rep.of_flat hle hcap hsz (hr.mono hm) fun j u hu=>?_
   have hj:=(List.getElem?_eq_some_iff.1 hu).1
   have hcj:=hcur j u hu
   refine ⟨?_,fun k hk=>?_,hone u (List.mem_of_getElem? hu)⟩
   ·rw [addr0]
    have:=heap_alloc_new w (.cells cur e)
    simp only [World.cell?,this]
    simpa using hcj
   ·have hk':some (mkE e1 (es.length * size))=some k:=by rw [<-hk]; exact (upd_same _ _ _).symm
    injection hk' with hk'
    rw [mkE_lt hlt] at hk'
    simp only
    omega
  ·have hj':j<xs.length:=by rw [<-hr.1]; exact hj
   have hcj:=hcur j _ (List.getElem?_eq_getElem hj')
   have hg:cur.getD j undef=xs[j]:=by
    rw [Array.getD_eq_getD_getElem?,<-Array.getElem?_toList,hcj]
    rfl
   rw [hg]
   exact ⟨hone _ (List.getElem_mem _),(hr.2 j hj hj').mono hm⟩
theorem Sim.inplace(h:Sim cx s g l a w){p q:UL}{b cap off:Nat}{cur:Array Value}{e:TypeId}{e1:TypeId}(he1:btE e1=e){size:Nat}{es ys:List (List PV)}(hp:noU s p)(hq:noU s q)(hU:l.U p=some b)(hM:g.M b=some (mkE e1 (es.length * size+off)))
  (hh:w.heap[b]?=some (.cells cur e (0,0))) (hcs:cur.size=cap * size+off) (hR:RowV g w e1 size es cap off cur (.slice (some ⟨b,off,none⟩) es.length cap))
  (hys:∀i (h:i<ys.length),ys[i].length=size) (news:List Value) (hn:RepAll g w ys.flatten news) (hone:∀u∈news,u.oneCell'=true) (hroom:es.length+ys.length<=cap) :
  ∃g' l',Sim cx s g' l' a (w.setRow b (cur.toList.take (off+es.length * size)++news++cur.toList.drop (off+es.length * size+news.length)).toArray) /\
   Mono g w g' (w.setRow b (cur.toList.take (off+es.length * size)++news++cur.toList.drop (off+es.length * size+news.length)).toArray) /\
   RepL g' l' (w.setRow b (cur.toList.take (off+es.length * size)++news++cur.toList.drop (off+es.length * size+news.length)).toArray) q (.uniq e1 size (es++ys)) (.slice (some ⟨b,off,none⟩) (es.length+ys.length) cap):=by
 obtain ⟨hle,hcap,hes,pre,xs,hpl,hxr,hxl,hxcur,hxc⟩:=hR.flat hh hcs
 have hnl:news.length=ys.length * size:=by rw [<-hn.1,flatten_length size ys hys]
 have hfit:off+es.length * size+news.length<=cur.size:=by
  have h1:(es.length+ys.length) * size<=cap * size:=Nat.mul_le_mul_right _ hroom
  rw [Nat.add_mul] at h1
  rw [hnl,hcs]; omega
 rw [hxcur]
 generalize harr:(pre++xs++news++cur.toList.drop (off+es.length * size+news.length)).toArray=arr
 have harrs:arr.size=cap * size+off:=by
  subst harr
  simp only [List.size_toArray,List.length_append,List.length_drop,Array.length_toList]
  omega
 have hcell:∀j u,(xs++news)[j]?=some u->(w.setRow b arr).cell? ⟨b,off+j,none⟩=some u:=fun j u hu=>by
  have hset:=setRow_heap w b cur arr e _ hh
  simp only [World.cell?,hset]
  subst harr
  have hj:=(List.getElem?_eq_some_iff.1 hu).1
  simp only [Option.isSome_none,Bool.false_eq_true,↓reduceIte,List.getElem?_toArray]
  rw [List.append_assoc pre,List.getElem?_append_left (by rw [List.length_append]; omega),List.getElem?_append_right oM,hpl,show off+j - off=j by omega]
  exact hu
 have hpre:∀j,j<off->arr[j]?=cur[j]?:=fun j hj=>by
  have h1:=congrArg (fun z=>z[j]?) hxcur
  simp only [List.getElem?_take] at h1
  rw [iP oM,List.getElem?_append_left oM] at h1
  subst harr
  simp only [List.getElem?_toArray,List.append_assoc]
  rw [List.getElem?_append_left oM,<-h1]
  simp
 have hm:Mono g w { g with M:=upd g.M b (some (mkE e1 ((es++ys).length * size+off))) } (w.setRow b arr):=by
  refine ⟨fun _ _ e=>e,fun b' o v hc hf=>?_,len_setRow hh (harrs.trans hcs.symm),fun _ _ _ h=>h,fun b' arr' clk hm' hn=>have hne:b'≠b:=(by rintro rfl; rw [hh] at hm'; cases hm'); ⟨(setRow_other w b b' arr hne).trans hm',(upd_other g.M _ hne).trans hn⟩⟩
  by_cases hbb:b'=b
  ·subst hbb
   have ho:=hf _ hM
   have hlt:e1<1000000:=by
    by_cases hlt:e1<1000000
    ·exact hlt
    ·rw [mkE_ge hlt] at ho; omega
   rw [mkE_lt hlt] at ho
   refine ⟨?_,fun k hk=>?_⟩
   ·by_cases hoo:o<off
    ·have hset:=setRow_heap w b' cur arr e _ hh
     simp only [World.cell?,hh] at hc
     simp only [World.cell?,hset]
     simp only [Option.isSome_none,Bool.false_eq_true,↓reduceIte] at hc ⊢
     rw [hpre o hoo]
     exact hc
    ·have hxo:xs[o - off]?=some v:=by
      have hc':=(hxc (o - off) _ (List.getElem?_eq_getElem oM)).1
      rw [show off+(o - off)=o by omega,hc] at hc'
      rw [List.getElem?_eq_getElem oM]
      exact hc'.symm
     have:=hcell (o - off) v (by rw [List.getElem?_append_left oM]; exact hxo)
     rw [show off+(o - off)=o by omega] at this
     exact this
   ·have hk':some (mkE e1 ((es++ys).length * size+off))=some k:=by rw [<-hk]; exact (upd_same _ _ _).symm
    injection hk' with hk'
    rw [mkE_lt hlt,List.length_append,Nat.add_mul] at hk'
    omega
  ·refine ⟨by rw [<-hc]; exact World.cell?_of_block (setRow_other w b b' arr hbb),fun k hk=>hf k ?_⟩
   rw [<-upd_other g.M (some (mkE e1 ((es++ys).length * size+off))) hbb]; exact hk
 have hob:=h.uo p b hU
 have h1:=h.reown hU hp hq
 have keep:∀ {r lv v},(r=q->∀e z es,lv≠LV.uniq e z es)->RepL g { l with U:=updU (updU l.U p none) q (some b),O:=upd l.O b (some (.u q)) } w r lv v ->
   RepL { g with M:=upd g.M b (some (mkE e1 ((es++ys).length * size+off))) } { l with U:=updU (updU l.U p none) q (some b),O:=upd l.O b (some (.u q)) } (w.setRow b arr) r lv v:=fun {r lv v} hn hr=>by
  by_cases hc:r=q
  ·exact hr.noU hm rfl (hn hc)
  ·refine hr.keep hm (fun _ _ _=>rfl) fun b' hu=>?_
   have hne:b'≠b:=by
    rintro rfl
    have:=h1.uo r b' hu
    simp only [upd_same] at this
    injection this with this
    injection this with this
    exact hc this.symm
   exact ⟨hu,upd_other _ _ hne,setRow_other w b b' arr hne⟩
 have hOb:∀ {b' o},upd l.O b (some (Own.u q)) b'=some o->(∀r,o ≠ .u r)->b'≠b:=fun {b' o} ho hn e0=>by
  subst e0
  rw [upd_same] at ho
  injection ho with ho
  exact hn q ho.symm
 refine ⟨{ g with M:=upd g.M b (some (mkE e1 ((es++ys).length * size+off))) },{ l with U:=updU (updU l.U p none) q (some b),O:=upd l.O b (some (.u q)) },⟨⟨h.hist.mono.trans hm,by simpa using h.hist.size,fun b' hlt ho=>?_,h.hist.os,h.hist.tape,h.hist.output,h.hist.glb.mono hm⟩,h.size,h.defers,fun t lv ht=>keep ?_ (h1.tm t lv ht),?_,?_,?_,h1.uo,?_,?_⟩,hm,?_⟩
 ·have hne:b'≠b:=by
   rintro rfl
   rcases (h.own b' _ hob).2 with hb | hb
   ·omega
   ·exact ho hb
  obtain ⟨k1,k2⟩:=h.hist.frame b' hlt ho
  exact ⟨(setRow_other w b b' arr hne).trans k1,(upd_other g.M _ hne).trans k2⟩
 ·rintro e0 e' z es' rfl
  subst e0; exact hq e' z es' ht
 ·intro i cs hi
  obtain ⟨b',k1,k2,k3,cur',e',k4,k5,k6⟩:=h1.bx i cs hi
  have hne:=hOb k2 sM
  refine ⟨b',k1,k2,(upd_other _ _ hne).trans k3,cur',e',(setRow_other w b b' arr hne).trans k4,k5,fun j hj=>⟨(k6 j hj).1,(k6 j hj).2.1,keep ?_ (k6 j hj).2.2⟩⟩
  rintro e0 e2 z es' e1
  subst e0; exact hq cs hi e2 z es' (by rw [List.getElem?_eq_getElem hj,e1])
 ·intro i cs hi
  obtain ⟨b',k1,k2,hE⟩:=h1.ex i cs hi
  have hne:=hOb k2 sM
  refine ⟨b',k1,k2,?_⟩
  rcases hE with ⟨k3,cur',e',k4,k5,k6⟩ | hE
  rotate_left
  ·exact .inr (hE.keep hm (fun _ _ _ h=>h) (upd_other _ _ hne) (setRow_other w b b' arr hne))
  refine .inl ⟨(upd_other _ _ hne).trans k3,cur',e',(setRow_other w b b' arr hne).trans k4,k5,fun j hj=>⟨(k6 j hj).1,(k6 j hj).2.1,keep ?_ (k6 j hj).2.2⟩⟩
  rintro e0 e2 z es' e1
  subst e0; exact hq cs hi e2 z es' (by rw [List.getElem?_eq_getElem hj,e1])
 ·intro b' o ho
  simpa using h1.own b' o ho
 ·refine ⟨fun b' hb'=>?_,h.fresh.2⟩
  have hb2:w.heap.size<=b':=by simpa using hb'
  have hlt:=(h.own b _ hob).1
  exact (upd_other _ _ oM).trans (h.fresh.1 b' hb2)
 ·intro n b' hx
  simpa using h.xlt n b' hx
 ·have hesys:∀i (h:i<(es++ys).length),(es++ys)[i].length=size:=by
   intro i hi
   rw [List.getElem_append]
   split
   ·exact hes _ _
   ·exact hys _ _
  have hall:RepAll { g with M:=upd g.M b (some (mkE e1 ((es++ys).length * size+off))) } (w.setRow b arr) (es++ys).flatten (xs++news):=by
   have h2:=hxr.mono hm
   have h3:=hn.mono hm
   refine ⟨by simp only [List.flatten_append,List.length_append,h2.1,h3.1],fun j hj hj'=>?_⟩
   simp only [List.flatten_append]
   simp only [List.getElem_append]
   have hlen:es.flatten.length=xs.length:=h2.1
   split
   ·rename_i hlt
    rw [dif_pos oM]
    exact h2.2 _ _ _
   ·rename_i hlt
    rw [dif_neg oM]
    simp only [hlen]
    exact h3.2 _ _ _
  have hone':∀ (j:Nat) (u:Value),(xs++news)[j]?=some u->u.oneCell'=true:=fun j u hu=>by
   rcases List.mem_append.1 (List.mem_of_getElem? hu) with hx | hx
   ·obtain ⟨j',hj1,hj2⟩:=List.getElem_of_mem hx
    exact (hxc j' u (by rw [List.getElem?_eq_getElem hj1,hj2])).2
   ·exact hone u hx
  refine .inr ⟨b,off,cap,arr,by simp,by simp [updU],upd_same _ _ _,by rw [he1]; exact setRow_heap w b cur arr e _ hh,harrs,fun hlt=>?_,fun hge=>⟨(hR.2 hge).1,by simpa using hroom,hcap,hesys,fun j hj=>?_⟩⟩
  ·rw [<-List.length_append]
   refine Rep.of_flat (by simpa using hroom) hcap hesys (xs:=xs++news) hall fun j u hu=>?_
   have hj:=(List.getElem?_eq_some_iff.1 hu).1
   refine ⟨by rw [addrO]; exact hcell j u hu,fun k hk=>?_,hone' j u hu⟩
   have hk':some (mkE e1 ((es++ys).length * size+off))=some k:=by rw [<-hk]; exact (upd_same _ _ _).symm
   injection hk' with hk'
   rw [mkE_lt hlt,List.length_append,Nat.add_mul] at hk'
   rw [List.length_append] at hj
   simp only
   omega
  ·have hj':j<(xs++news).length:=by rw [<-hall.1]; exact hj
   have hu:=List.getElem?_eq_getElem hj'
   have hc:=hcell j _ hu
   have hset:=setRow_heap w b cur arr e _ hh
   rw [(hR.2 hge).1,Nat.zero_add] at hc
   simp only [World.cell?,hset] at hc
   have hg:arr.getD j undef=(xs++news)[j]:=by
    rw [Array.getD_eq_getD_getElem?]
    simp at hc
    rw [hc]
    rfl
   rw [hg]
   exact ⟨hone' j _ hu,hall.2 j hj hj'⟩
def rowOf:List LV->Option (Nat × List Int)
 | [.row c ps]=>some (c,ps)
 | _=>none
theorem rowOf_inv{cs:List LV}{c:Nat}{ps:List Int}(h:rowOf cs=some (c,ps)):cs=[.row c ps]:=by
 unfold rowOf at h
 split at h
 ·injection h with h; injection h with h1 h2; subst h1 h2; rfl
 ·cases h
theorem row_at(h:Sim cx s g l a w){n c:Nat}{cs:List LV}{ps:List Int}(hi:lk s.ext n=some cs)(hc:rowOf cs=some (c,ps)) :
  ∃b,g.Y n c=some b/\l.O b=some (.x n)/\BlkY g w n b c ps:=by
 have:=rowOf_inv hc
 subst this
 obtain ⟨b,h1,h2,hE⟩:=h.ex n _ hi
 rcases hE with hB | ⟨es,he,-⟩ | ⟨n',c',ps',e1,e2,hY⟩
 ·exact absurd rfl (hB.norow c ps)
 ·have:=he.inv
  injection this with h1 _
  cases h1
 ·injection e2 with e2 _
  injection e2 with e2 e3
  subst e2 e3
  have:n=n':=by
   have:=congrFun e1 0
   injection this
  subst this
  exact ⟨b,h1,h2,hY⟩
def updY(Y:Nat->Nat->Option Nat)(n c b:Nat):Nat->Nat->Option Nat:=fun n' c'=>if n'=n/\c'=c then some b else Y n' c'
theorem updY_same(Y:Nat->Nat->Option Nat)(n c b:Nat):updY Y n c b n c=some b:=by simp [updY]
theorem updY_other{Y:Nat->Nat->Option Nat}{n c b n' c':Nat}(h:¬(n'=n/\c'=c)):updY Y n c b n' c'=Y n' c':=by simp [updY,h]
theorem Sim.rowset(h:Sim cx s g l a w){n c c2 b:Nat}{ps ps':List Int}{cur cur':Array Value}{e:TypeId}(hi:lk s.ext n=some [.row c ps])(hY:g.Y n c=some b)(hO:l.O b=some (.x n))(hF:∀c',c<c'->g.Y n c'=none)(hM:g.M b=some 0)
  (hh:w.heap[b]?=some (.cells cur e (0,0))) (hsz:cur'.size=cur.size) (hc:c2=c∨c<c2) (hlen:ps'.length<=cur'.size) (hr:∀j (hj:j<ps'.length),(cur'.getD j undef).oneCell'=true/\Rep g w (.int .i64 ps'[j]) (cur'.getD j undef)) :
  Sim cx { s with ext:=put s.ext n [.row c2 ps'] } { g with Y:=updY g.Y n c2 b } l a (w.setRow b cur'):=by
 have hYm:∀n' c' b',g.Y n' c'=some b'->updY g.Y n c2 b n' c'=some b':=fun n' c' b' hx=>by
  by_cases hq:n'=n/\c'=c2
  ·obtain ⟨rfl,rfl⟩:=hq
   rcases hc with rfl | hc
   ·rw [hY] at hx; rw [updY_same]; exact hx
   ·rw [hF _ hc] at hx; cases hx
  ·rw [updY_other hq]; exact hx
 have hm0:Mono g w g (w.setRow b cur'):=mono_setRow hM hh hsz
 have hm:Mono g w { g with Y:=updY g.Y n c2 b } (w.setRow b cur'):=⟨hm0.ext,hm0.cell,hm0.len,hYm,hm0.map⟩
 have hne:∀ {b' o},l.O b'=some o->o ≠ .x n->b'≠b:=fun {b' o} ho' hn e0=>by
  subst e0
  rw [hO] at ho'
  injection ho' with ho'
  exact hn ho'.symm
 have hoth:∀ {b'},b'≠b->(w.setRow b cur').heap[b']?=w.heap[b']?:=fun {b'} hn=>setRow_other w b b' _ hn
 have hU:∀ {p b'},l.U p=some b'->l.U p=some b'/\g.M b'=g.M b'/\(w.setRow b cur').heap[b']?=w.heap[b']?:=fun {p b'} hu=>⟨hu,rfl,hoth (hne (h.uo _ _ hu) sM)⟩
 have hL:∀ {p lv v},RepL g l w p lv v->RepL { g with Y:=updY g.Y n c2 b } l (w.setRow b cur') p lv v:=fun hr=>hr.keep hm (fun _ _ _=>rfl) fun b hu=>hU hu
 have hH:=h.hist.setRow hM hh hsz (h.own b _ hO).2
 have hs2:(w.setRow b cur').heap.size=w.heap.size:=by simp
 refine ⟨⟨h.hist.mono.trans hm,hH.size,hH.frame,hH.os,hH.tape,hH.output,h.hist.glb.mono hm⟩,h.size,h.defers,fun t lv ht=>hL (h.tm t lv ht),?_,?_,?_,h.uo,?_,?_⟩
 ·intro k cs hk
  obtain ⟨b',k1,k2,k3,cur2,e2,k4,k5,k6⟩:=h.bx k cs hk
  exact ⟨b',k1,k2,k3,cur2,e2,(hoth (hne k2 sM)).trans k4,k5,fun j hj=>⟨(k6 j hj).1,(k6 j hj).2.1,hL (k6 j hj).2.2⟩⟩
 ·intro k cs hk
  simp only [lk_put] at hk
  split at hk
  ·rename_i ek
   subst ek
   injection hk with hk
   subst hk
   refine ⟨b,updY_same _ _ _ _,hO,.inr (.inr ⟨n,c2,ps',rfl,rfl,fun c' hc'=>?_,hM,cur',e,setRow_heap w b cur cur' e _ hh,hlen,fun j hj=>⟨(hr j hj).1,(hr j hj).2.mono hm⟩⟩)⟩
   show updY g.Y n c2 b n c'=none
   rw [updY_other oM]
   exact hF c' oM
  ·rename_i ek
   obtain ⟨b',k1,k2,hE⟩:=h.ex k cs hk
   have hn:b'≠b:=hne k2 (fun e0=>by injection e0 with e0; exact ek e0.symm)
   refine ⟨b',k1.mono hm,k2,?_⟩
   rcases hE with ⟨k3,cur2,e2,k4,k5,k6⟩ | hE
   ·exact .inl ⟨k3,cur2,e2,(hoth hn).trans k4,k5,fun j hj=>⟨(k6 j hj).1,(k6 j hj).2.1,hL (k6 j hj).2.2⟩⟩
   ·refine .inr (hE.keep hm (fun n' c' hf hx=>?_) rfl (hoth hn))
    have:n'=k:=by
     have:=congrFun hf 0
     injection this with h1 _
     exact h1.symm
    show updY g.Y n c2 b n' c'=none
    rw [updY_other (by rintro ⟨h1,-⟩; exact ek (h1.symm.trans this))]
    exact hx
 ·intro b' o ho
  rw [hs2]; exact h.own b' o ho
 ·refine ⟨fun b' hb'=>h.fresh.1 b' (by rw [hs2] at hb'; exact hb'),fun k hk=>h.fresh.2.1 k (by rw [cnt_put_old hi] at hk; exact hk),fun k c' hk=>?_⟩
  have hlt:=lt_cnt hi
  rw [cnt_put_old hi] at hk
  show updY g.Y n c2 b k c'=none
  rw [updY_other oM]
  exact h.fresh.2.2 k c' hk
 ·intro k b' hx
  rw [hs2]; exact h.xlt k b' hx
theorem Sim.rownew(h:Sim cx s g l a w)(n c2:Nat)(hF:∀c',c2<=c'->g.Y n c'=none)(hn0:n<=cnt s.ext)(cur:Array Value)(e:TypeId)(ps':List Int)(hlen:ps'.length<=cur.size)(hr:∀j (hj:j<ps'.length),(cur.getD j undef).oneCell'=true/\Rep g w (.int .i64 ps'[j]) (cur.getD j undef)) :
  Sim cx { s with ext:=put s.ext n [.row c2 ps'] } { g with M:=upd g.M w.heap.size (some 0),Y:=updY g.Y n c2 w.heap.size } { l with O:=upd l.O w.heap.size (some (.x n)) } a (w.alloc (.cells cur e)):=by
 have hb:∀b,b<w.heap.size->(w.alloc (.cells cur e)).heap[b]?=w.heap[b]?:=fun b hb=>Below.heap_alloc w _ b hb
 have hYm:∀n' c' b',g.Y n' c'=some b'->updY g.Y n c2 w.heap.size n' c'=some b':=fun n' c' b' hx=>by
  by_cases hq:n'=n/\c'=c2
  ·obtain ⟨rfl,rfl⟩:=hq
   rw [hF _ (Nat.le_refl _)] at hx; cases hx
  ·rw [updY_other hq]; exact hx
 have hm:Mono g w { g with M:=upd g.M w.heap.size (some 0),Y:=updY g.Y n c2 w.heap.size } (w.alloc (.cells cur e)):=by
  refine ⟨fun _ _ e=>e,fun b o v hc hf=>?_,len_of_same hb,hYm,map_of_same hb fun b hlt hn=>(upd_other _ _ (Nat.ne_of_lt hlt)).trans hn⟩
  have hlt:=World.block_lt_of_cell? w _ hc
  refine ⟨by rw [<-hc]; exact World.cell?_of_block (hb b hlt),fun k hk=>hf k ?_⟩
  simp only at hlt
  rw [<-upd_other g.M (some 0) (Nat.ne_of_lt hlt)]; exact hk
 have hU:∀ {p b},l.U p=some b->l.U p=some b/\upd g.M w.heap.size (some 0) b=g.M b/\(w.alloc (.cells cur e)).heap[b]?=w.heap[b]?:=fun {p b} hu=>by
  have hlt:=(h.own b _ (h.uo _ _ hu)).1
  exact ⟨hu,upd_other _ _ (Nat.ne_of_lt hlt),hb b hlt⟩
 have hsz:(w.alloc (.cells cur e)).heap.size=w.heap.size+1:=by simp
 refine ⟨⟨h.hist.mono.trans hm,by rw [hsz]; exact Nat.le_succ_of_le h.hist.size,fun b hlt ho=>?_,h.hist.os,h.hist.tape,h.hist.output,h.hist.glb.mono hm⟩,h.size,h.defers,?_,?_,?_,?_,?_,?_,?_⟩
 ·obtain ⟨h1,h2⟩:=h.hist.frame b hlt ho
  have hlt':=Nat.lt_of_lt_of_le hlt h.hist.size
  exact ⟨(hb b hlt').trans h1,(upd_other g.M (some 0) (Nat.ne_of_lt hlt')).trans h2⟩
 ·intro t lv ht
  exact (h.tm t lv ht).keep hm (fun _ _ _=>rfl) fun b hu=>hU hu
 ·intro k cs hk
  obtain ⟨b,h1,h2,h3,cur',e',h4,h5,h6⟩:=h.bx k cs hk
  have hlt:=(h.own b _ h2).1
  refine ⟨b,h1,(upd_other _ _ (Nat.ne_of_lt hlt)).trans h2,(upd_other _ _ (Nat.ne_of_lt hlt)).trans h3,cur',e',(hb b hlt).trans h4,h5,fun j hj=>⟨(h6 j hj).1,(h6 j hj).2.1,(h6 j hj).2.2.keep hm (fun _ _ _=>rfl) fun b hu=>hU hu⟩⟩
 ·intro k cs' hk
  simp only [lk_put] at hk
  split at hk
  ·rename_i ek
   subst ek
   injection hk with hk
   subst hk
   refine ⟨w.heap.size,updY_same _ _ _ _,upd_same _ _ _,.inr (.inr ⟨n,c2,ps',rfl,rfl,fun c' hc'=>?_,upd_same _ _ _,cur,e,heap_alloc_new w _,hlen,fun j hj=>⟨(hr j hj).1,(hr j hj).2.mono hm⟩⟩)⟩
   show updY g.Y n c2 w.heap.size n c'=none
   rw [updY_other oM]
   exact hF c' oM
  ·rename_i ek
   obtain ⟨b,h1,h2,hE⟩:=h.ex k cs' hk
   have hlt:=(h.own b _ h2).1
   refine ⟨b,h1.mono hm,(upd_other _ _ (Nat.ne_of_lt hlt)).trans h2,?_⟩
   rcases hE with ⟨h3,cur',e',h4,h5,h6⟩ | hE
   ·exact .inl ⟨(upd_other _ _ (Nat.ne_of_lt hlt)).trans h3,cur',e',(hb b hlt).trans h4,h5,fun j hj=>⟨(h6 j hj).1,(h6 j hj).2.1,(h6 j hj).2.2.keep hm (fun _ _ _=>rfl) fun b hu=>hU hu⟩⟩
   ·refine .inr (hE.keep hm (fun n' c' hf hx=>?_) (upd_other _ _ (Nat.ne_of_lt hlt)) (hb b hlt))
    have:n'=k:=by
     have:=congrFun hf 0
     injection this with h1 _
     exact h1.symm
    show updY g.Y n c2 w.heap.size n' c'=none
    rw [updY_other (by rintro ⟨h1,-⟩; exact ek (h1.symm.trans this))]
    exact hx
 ·intro b o ho
  simp only [upd] at ho
  split at ho
  ·rename_i eb
   subst eb
   exact ⟨by rw [hsz]; omega,.inl h.hist.size⟩
  ·obtain ⟨k1,k2⟩:=h.own b o ho
   exact ⟨by rw [hsz]; omega,k2⟩
 ·intro p b hu
  have hlt:=(h.own b _ (h.uo _ _ hu)).1
  exact (upd_other _ _ (Nat.ne_of_lt hlt)).trans (h.uo p b hu)
 ·refine ⟨fun b hb'=>?_,fun k hk=>h.fresh.2.1 k (by simp only [cnt_put] at hk; omega),fun k c' hk=>?_⟩
  ·rw [hsz] at hb'
   exact (upd_other _ _ oM).trans (h.fresh.1 b oM)
  ·simp only [cnt_put] at hk
   show updY g.Y n c2 w.heap.size k c'=none
   rw [updY_other oM]
   exact h.fresh.2.2 k c' oM
 ·intro k b hx
  rw [hsz]
  exact Nat.lt_succ_of_lt (h.xlt k b hx)
end
def cv1:Value->Option PV
 | .bool b=>some (.bool b)
 | .int k n=>some (.int k n)
 | .string s=>some (.str s)
 | .pointer none=>some .nilp
 | .slice none 0 0=>some .nilsl
 | .nilFunc=>some .nilfn
 | .nilIface=>some .nilif
 | .map none=>some .mpn
 | _=>none
def cvs:List Value->Option (List PV)
 | []=>some []
 | v::r=>match cv1 v,cvs r with
  | some p,some ps=>some (p::ps)
  | _,_=>none
def cv:Value->Option PV
 | .agg cs=>(cvs cs.toList).map .agg
 | v=>cv1 v
theorem cv1_rep{g:Gh}{w:World}{v:Value}{p:PV}(h:cv1 v=some p):Rep g w p v/\v.oneCell'=true/\p.one=true:=by
 unfold cv1 at h
 split at h <;> first | (injection h with h; subst h; exact ⟨by constructor,rfl,rfl⟩) | cases h
theorem cvs_rep{g:Gh}{w:World}:∀ {vs:List Value} {ps:List PV},cvs vs=some ps->RepAll g w ps vs/\(∀v∈vs,v.oneCell'=true)/\∀p∈ps,p.one=true
 | [],ps,h=>by
  simp only [cvs,Option.some.injEq] at h
  subst h
  exact ⟨.nil,by simp,by simp⟩
 | v::r,ps,h=>by
  simp only [cvs] at h
  split at h
  ·rename_i p qs h1 h2
   injection h with h
   subst h
   have k1:=cv1_rep (g:=g) (w:=w) h1
   have k2:=cvs_rep (g:=g) (w:=w) h2
   exact ⟨.cons k1.1 k2.1,by simp only [List.mem_cons,forall_eq_or_imp]; exact ⟨k1.2.1,k2.2.1⟩,by simp only [List.mem_cons,forall_eq_or_imp]; exact ⟨k1.2.2,k2.2.2⟩⟩
  ·cases h
theorem RepAll.agg{g:Gh}{w:World}{ps:List PV}{vs:List Value}(h:RepAll g w ps vs)(ho:∀v∈vs,v.oneCell'=true):Rep g w (.agg ps) (.agg vs.toArray) := .agg ps vs h.1 ho h.2
theorem cv_rep{g:Gh}{w:World}{v:Value}{p:PV}(h:cv v=some p):Rep g w p v:=by
 unfold cv at h
 split at h
 ·rename_i cs
  simp only [Option.map_eq_some_iff] at h
  obtain ⟨ps,h1,rfl⟩:=h
  have:=cvs_rep (g:=g) (w:=w) h1
  simpa using this.1.agg this.2.1
 ·exact (cv1_rep h).1
def csz(P:Program)(t:TypeId):Option Nat:=(P.info? t).map (·.size)
def cbytes(P:Program)(t:TypeId):Option Nat:=(P.info? t).map (·.bytes)
def aggT(P:Program)(t:TypeId):Option Bool:=(P.underlying t).map fun
 | .struct _ | .array _ _=>true
 | _=>false
def foff(P:Program)(t:TypeId)(f:Nat):Option (Nat × TypeId):=match P.underlying t with
 | some (.struct fs)=>(fs[f]?).map fun x=>(x.offset,x.type)
 | _=>none
def zro(P:Program)(t:TypeId):Option (List PV):=((P.info? t).bind (·.zero)).bind fun v=>cvs v.cells.toList
def elemT(P:Program)(t:TypeId):Option TypeId:=match P.underlying t with
 | some (.slice e)=>some e
 | _=>none
def intT(P:Program)(t:TypeId):Option IntKind:=match P.underlying t with
 | some (.int k)=>some k
 | _=>none
theorem run_sizeOf{P:Program}{w:World}{t:TypeId}{n:Nat}(h:csz P t=some n):(sizeOf t).run P w = .ok n w:=by
 simp only [csz,Option.map_eq_some_iff] at h
 obtain ⟨i,h1,rfl⟩:=h
 simp [sizeOf,typeInfo,h1]
theorem run_isAgg{P:Program}{w:World}{t:TypeId}{b:Bool}(h:aggT P t=some b):(isAgg t).run P w = .ok b w:=by
 simp only [aggT,Option.map_eq_some_iff] at h
 obtain ⟨d,h1,rfl⟩:=h
 simp only [isAgg,underlying,Sem.run_bind,run_program,Result.andThen_ok,h1,Sem.run_pure]
 cases d <;> rfl
inductive RM (α:Type) where
 | ret (a:α)
 | fail
 | getT (t:Nat) (k:LV->RM α)
 | getB (i:Nat) (k:List LV->RM α)
 | getX (n:Nat) (k:List LV->RM α)
 | assume (p:Bool) (k:RM α)
def RM.wp{α:Type}:RM α->S->(α->Prop)->Prop
 | .ret a,_,K=>K a
 | .fail,_,_=>False
 | .getT t k,s,K=>match lk s.tmps t with
  | some v=>(k v).wp s K
  | none=>False
 | .getB i k,s,K=>match lk s.boxes i with
  | some v=>(k v).wp s K
  | none=>False
 | .getX n k,s,K=>match lk s.ext n with
  | some v=>(k v).wp s K
  | none=>False
 | .assume p k,s,K=>p=true/\k.wp s K
inductive Wr where
 | tmp (t:Nat) (v:LV)
 | newbox (i:Nat) (ps:List PV)
 | cells (i off:Nat) (vs:List LV)
 | ext (n off:Nat) (vs:List LV)
def S.wr(s:S):Wr->S
 | .tmp t v=>{ s with tmps:=put s.tmps t v }
 | .newbox i ps=>{ s with tmps:=killp i s.tmps,boxes:=put s.boxes i (ps.map .v) }
 | .cells i off vs=>match lk s.boxes i with
  | some cs=>{ s with boxes:=put s.boxes i (splice cs off vs) }
  | none=>s
 | .ext n off vs=>match lk s.ext n with
  | some cs=>{ s with ext:=put s.ext n (splice cs off vs) }
  | none=>s
def S.wrs(s:S):List Wr->S
 | []=>s
 | x::r=>(s.wr x).wrs r
def notMM:List LV->Bool
 | [.mm _]=>false
 | [.row _ _]=>false
 | _=>true
theorem notMM_not{cs:List LV}(h:notMM cs=true):plainE cs:=by
 refine ⟨fun es hs=>?_,fun c ps hs=>?_⟩
 ·have:=hs.inv
  subst this
  cases h
 ·subst hs
  cases h
def toP:LV->Option PV
 | .v p=>some p
 | .uniq e z es=>if e<1000000 then some (.sl z es) else none
 | .full z es=>some (.sl z es)
 | _=>none
theorem toP_u{e:TypeId}{z:Nat}{es:List (List PV)}(h:e<1000000):toP (.uniq e z es)=some (.sl z es):=iP h
def toPs:List LV->Option (List PV)
 | []=>some []
 | v::r=>match toP v,toPs r with
  | some p,some ps=>some (p::ps)
  | _,_=>none
theorem toP_rep{g:Gh}{l:LG}{w:World}{u:UL}{lv:LV}{p:PV}{v:Value}(h:toP lv=some p)(hr:RepL g l w u lv v):Rep g w p v:=by
 cases lv with
 | v q=>simp only [toP,Option.some.injEq] at h; subst h; exact hr
 | lp i off=>cases h
 | uniq e z es=>
  simp only [toP] at h
  split at h
  case isFalse=>cases h
  rename_i hlt
  injection h with h
  subst h
  rcases hr with (⟨rfl,rfl⟩ | ⟨a,-,hr,-⟩) | ⟨b,off,cap,cur,-,-,-,-,-,hr⟩
  ·exact .slnil z
  ·exact hr
  ·exact hr.1 hlt
 | full z es=>
  simp only [toP,Option.some.injEq] at h
  subst h
  rcases hr with ⟨rfl,rfl⟩ | ⟨a,-,hr⟩
  ·exact .slnil z
  ·exact hr
 | junk=>cases h
 | mm _=>cases h
 | row _ _=>cases h
def ev{α:Type}(x:Operand)(k:LV->RM α):RM α:=match x with
 | .tmp t => .getT t k
 | .const c=>match cv c with
  | some p=>k (.v p)
  | none => .fail
 | .func f=>k (.v (.fn (.func f) [] []))
 | .global n=>match lk GLB n with
  | some cs=>k (.v (.ro cs 0))
  | none => .fail
def evP{α:Type}(x:Operand)(k:PV->RM α):RM α:=ev x fun lv=>match toP lv with
 | some p=>k p
 | none => .fail
def evs{α:Type}:List Operand->(List PV->RM α)->RM α
 | [],k=>k []
 | x::r,k=>evP x fun p=>evs r fun ps=>k (p::ps)
section
variable {cx:Cx} {s:S} {g:Gh} {l:LG} {a:Act} {w:World}
theorem ev_sound{α:Type}{x:Operand}{k:LV->RM α}{K:α->Prop}(h:Sim cx s g l a w)(hw:(ev x k).wp s K):∃lv u,(k lv).wp s K/\RepL g l w u lv (a.eval x)/\(∀e z es,lv = .uniq e z es->∃t,x = .tmp t/\u = .t t/\lk s.tmps t=some lv):=by
 unfold ev at hw
 split at hw
 ·rename_i t
  simp only [RM.wp] at hw
  split at hw
  ·rename_i v hv; exact ⟨v,.t t,hw,h.tm t v hv,fun e z es _=>⟨t,rfl,rfl,hv⟩⟩
  ·exact hw.elim
 ·rename_i c
  split at hw
  ·rename_i p hp; exact ⟨.v p,.t 0,hw,cv_rep hp,fun e z es h=>by cases h⟩
  ·exact hw.elim
 ·rename_i f
  exact ⟨_,.t 0,hw,.fn (.func f) [] [] [] [] rfl rfl (fun j h=>by simp at h) (fun j h=>by simp at h),fun e z es h=>by cases h⟩
 ·rename_i n
  split at hw
  ·rename_i cs hcs
   exact ⟨_,.t 0,hw,h.hist.glb n cs hcs,fun e z es h=>by cases h⟩
  ·exact hw.elim
theorem evP_sound{α:Type}{x:Operand}{k:PV->RM α}{K:α->Prop}(h:Sim cx s g l a w)(hw:(evP x k).wp s K):∃p,(k p).wp s K/\Rep g w p (a.eval x):=by
 obtain ⟨lv,u,h1,h2,-⟩:=ev_sound h hw
 split at h1
 ·rename_i p hp; exact ⟨p,h1,toP_rep hp h2⟩
 ·exact h1.elim
theorem evs_sound{α:Type}:∀ {xs:List Operand} {k:List PV->RM α} {K:α->Prop},Sim cx s g l a w->(evs xs k).wp s K->∃ps,(k ps).wp s K/\RepAll g w ps (xs.map a.eval)
 | [],k,K,_,hw=>⟨[],hw,.nil⟩
 | x::r,k,K,h,hw=>by
  obtain ⟨p,h1,h2⟩:=evP_sound h hw
  obtain ⟨ps,h3,h4⟩:=evs_sound h h1
  exact ⟨p::ps,h3,.cons h2 h4⟩
end
end Go.Pv
