/- Values of Go as plain data, an evaluator over them, and what the functions of the program return; part Xa. -/
import Derived.Tactics
import Derived.Below
import Derived.Laws.AppendOwn
import Derived.Deep.LoopGhost
import Derived.MapKept
import Derived.Laws.CopyRow
import Derived.Laws.Cells
import Derived.Maps.AppendAt
set_option linter.unusedVariables false
set_option linter.unusedSimpArgs false
set_option linter.unusedSectionVars false
namespace Go.Pv
theorem oM {p:Prop}(h:p:=by omega):p:=h
theorem dD {p:Prop}(h:p:=by decide):p:=h
theorem sM {p:Prop}(h:p:=by simp):p:=h
theorem rF {p:Prop}(h:p:=by rfl):p:=h
theorem sA {p:Prop}(h:p:=by simp_all):p:=h
theorem iN {c:Prop}[Decidable c]{α:Sort _}{a b:α}(h:¬c):ite c a b=b:=if_neg h
theorem iP {c:Prop}[Decidable c]{α:Sort _}{a b:α}(h:c):ite c a b=a:=if_pos h
theorem Ar:True:=trivial
inductive PV where
 | bool (b:Bool)
 | int (k:IntKind) (n:Int)
 | str (s:ByteArray)
 | Dy
 | ro (cs:List PV) (off:Nat)
 | xp (n off:Nat)
 | Ab
 | sl (size:Nat) (es:List (List PV))
 | Ue (n size len:Nat)
 | fn (f:Fn) (first captured:List PV)
 | Mx
 | iface (t:TypeId) (p:PV)
 | FW
 | agg (cs:List PV)
 | B6 (vs:List PV)
 | HJ
 | mp (n:Nat)
 | M0 (n c len:Nat)
 | yp (n c off:Nat)
 | VQ (t:TypeId) (f:Nat) (p:PV)
 | T3 (p:PV)
 deriving Inhabited
structure Gh where
 M:Nat->Option Nat
 X:Nat->Option Nat
 Y:Nat->Nat->Option Nat
def Gh.Fix(g:Gh)(b o:Nat):Prop:=∀k,g.M b=some k->o<k
inductive BO (g:Gh) (w:World):PV->Value->Prop
 | bool (b:Bool):BO g w (.bool b) (.bool b)
 | int (k:IntKind) (n:Int):BO g w (.int k n) (.int k n)
 | str (s:ByteArray):BO g w (.str s) (.string s)
 | Dy:BO g w .Dy (.pointer none)
 | ro (cs:List PV) (off b o:Nat) (vs:Nat->Value)
   (hc:∀j,j<cs.length->w.cell? ⟨b,o+j,none⟩=some (vs j)) (hf:∀j,j<cs.length->g.Fix b (o+j)) (h1:∀j,j<cs.length->(vs j).oneCell'=true)
   (hr:∀j (h:j<cs.length),BO g w cs[j] (vs j)):BO g w (.ro cs off) (.pointer (some ⟨b,o+off,none⟩))
 | xp (n off b:Nat) (h:g.X n=some b):BO g w (.xp n off) (.pointer (some ⟨b,off,none⟩))
 | Ab:BO g w .Ab (.slice none 0 0)
 | slnil (size:Nat):BO g w (.sl size []) (.slice none 0 0)
 | sl (size:Nat) (es:List (List PV)) (a:Addr) (cap:Nat) (vs:Nat->Nat->Value) (hle:es.length<=cap) (D5:cap<=maxLen)
   (Cb:∀i (h:i<es.length),es[i].length=size)
   (hc:∀i j,i<es.length->j<size->w.cell? (a.add (i * size+j))=some (vs i j))
   (hf:∀i j,i<es.length->j<size->g.Fix a.block (a.off+(i * size+j))) (h1:∀i j,i<es.length->j<size->(vs i j).oneCell'=true)
   (hr:∀i j (hi:i<es.length) (hj:j<es[i].length),BO g w es[i][j] (vs i j)):BO g w (.sl size es) (.slice (some a) es.length cap)
 | Ue (n size len b cap:Nat) (cur:Array Value) (e:TypeId) (h:g.X n=some b) (hh:w.heap[b]?=some (.cells cur e (0,0))) (hs:cap * size=cur.size) (hle:len<=cap) (D5:cap<=maxLen):BO g w (.Ue n size len) (.slice (some ⟨b,0,none⟩) len cap)
 | fn (f:Fn) (first captured:List PV) (fv cv:List Value) (h1:first.length=fv.length) (h2:captured.length=cv.length)
   (hf:∀j (h:j<first.length) (h':j<fv.length),BO g w first[j] fv[j]) (hc:∀j (h:j<captured.length) (h':j<cv.length),BO g w captured[j] cv[j]) :
   BO g w (.fn f first captured) (.func f fv.toArray cv.toArray)
 | Mx:BO g w .Mx .nilFunc
 | iface (t:TypeId) (p:PV) (v:Value) (h:BO g w p v):BO g w (.iface t p) (.iface t v)
 | FW:BO g w .FW .nilIface
 | agg (cs:List PV) (vs:List Value) (h1:cs.length=vs.length) (ho:∀v∈vs,v.oneCell'=true) (h:∀j (h:j<cs.length) (h':j<vs.length),BO g w cs[j] vs[j]):BO g w (.agg cs) (.agg vs.toArray)
 | B6 (cs:List PV) (vs:List Value) (h1:cs.length=vs.length) (h:∀j (h:j<cs.length) (h':j<vs.length),BO g w cs[j] vs[j]):BO g w (.B6 cs) (.tuple vs.toArray)
 | HJ:BO g w .HJ (.map none)
 | mp (n b:Nat) (h:g.X n=some b):BO g w (.mp n) (.map (some b))
 | M0 (n c len b cap:Nat) (cur:Array Value) (e:TypeId) (h:g.Y n c=some b) (hh:w.heap[b]?=some (.cells cur e (0,0))) (hs:cap=cur.size) (hle:len<=cap) (D5:cap<=maxLen):BO g w (.M0 n c len) (.slice (some ⟨b,0,none⟩) len cap)
 | yp (n c off b:Nat) (h:g.Y n c=some b):BO g w (.yp n c off) (.pointer (some ⟨b,off,none⟩))
 | VQ (t:TypeId) (f:Nat) (p:PV) (v:Value) (h:BO g w p v):BO g w (.VQ t f p) (.iface t v)
 | T3 (p:PV) (v:Value) (h1:v.oneCell'=true) (h:BO g w p v):BO g w (.T3 p) v
def AE(g:Gh)(w:World)(ps:List PV)(vs:List Value):Prop:=ps.length=vs.length/\∀j (h:j<ps.length) (h':j<vs.length),BO g w ps[j] vs[j]
theorem AE.nil{g:Gh}{w:World}:AE g w [] []:=⟨rfl,fun j h=>by simp at h⟩
theorem AE.cons{g:Gh}{w:World}{p:PV}{v:Value}{ps:List PV}{vs:List Value}(h:BO g w p v)(hs:AE g w ps vs):AE g w (p::ps) (v::vs):=by
 refine ⟨by simp [hs.1],fun j hj Cj=>?_⟩
 cases j with
 | zero=>exact h
 | succ j=>exact hs.2 j (by simpa using hj) (by simpa using Cj)
theorem AE.PD{g:Gh}{w:World}{vs:List Value}(h:AE g w [] vs):vs=[]:=List.eq_nil_of_length_eq_zero h.1.symm
theorem AE.Hf{g:Gh}{w:World}{p:PV}{ps:List PV}{vs:List Value}(h:AE g w (p::ps) vs):∃v fO,vs=v::fO/\BO g w p v/\AE g w ps fO:=by
 cases vs with
 | nil=>exact absurd h.1 sM
 | cons v fO=>
  refine ⟨v,fO,rfl,h.2 0 sM sM,by simpa using h.1,fun j hj Cj=>?_⟩
  exact h.2 (j+1) (by simpa using hj) (by simpa using Cj)
structure Ch (g:Gh) (w:World) (g':Gh) (w':World):Prop where
 ext:∀n b,g.X n=some b->g'.X n=some b
 cell:∀b o v,w.cell? ⟨b,o,none⟩=some v->g.Fix b o->w'.cell? ⟨b,o,none⟩=some v/\g'.Fix b o
 len:∀ (b:Nat) (cur:Array Value) (e:TypeId),w.heap[b]?=some (Obj.cells cur e (0,0))->∃cur':Array Value,w'.heap[b]?=some (Obj.cells cur' e (0,0))/\cur'.size=cur.size
 row:∀n c b,g.Y n c=some b->g'.Y n c=some b
theorem Ch.refl(g:Gh)(w:World):Ch g w g w:=⟨fun _ _ h=>h,fun _ _ _ h k=>⟨h,k⟩,fun _ cur _ h=>⟨cur,h,rfl⟩,fun _ _ _ h=>h⟩
theorem Ch.trans{g g' p8:Gh}{w w' w'':World}(h:Ch g w g' w')(k:Ch g' w' p8 w''):Ch g w p8 w'':=
 ⟨fun n b e=>k.ext n b (h.ext n b e),fun b o v e f=>let ⟨e',f'⟩:=h.cell b o v e f; k.cell b o v e' f',fun b cur e hh=>let ⟨c1,h1,h2⟩:=h.len b cur e hh; let ⟨c2,h3,h4⟩:=k.len b c1 e h1; ⟨c2,h3,h4.trans h2⟩,fun n c b e=>k.row n c b (h.row n c b e)⟩
theorem HL{w:World}{a:Addr}{v:Value}(h:w.cell? a=some v):a.spot=none:=by
 unfold World.cell? at h
 split at h
 ·split at h
  ·cases h
  ·rename_i hs; simpa using hs
 ·cases h
theorem My(a:Addr)(n:Nat)(h:(a.add n).spot=none):a.add n=⟨a.block,a.off+n,none⟩:=by
 unfold Addr.add at h ⊢
 split
 ·rename_i hn
  subst hn
  cases a
  simp_all
 ·rfl
theorem Kc{w:World}{a:Addr}{n:Nat}{v:Value}(h:w.cell? (a.add n)=some v):a.add n=⟨a.block,a.off+n,none⟩:=My a n (HL h)
theorem Ch.at_{g g':Gh}{w w':World}(h:Ch g w g' w'){a:Addr}{n:Nat}{v:Value}(hc:w.cell? (a.add n)=some v)(hf:g.Fix a.block (a.off+n)) :
  w'.cell? (a.add n)=some v/\g'.Fix a.block (a.off+n):=by
 have e:=Kc hc
 rw [e] at hc ⊢
 exact h.cell _ _ _ hc hf
theorem BO.mono{g g':Gh}{w w':World}{p:PV}{v:Value}(hr:BO g w p v)(h:Ch g w g' w'):BO g' w' p v:=by
 induction hr with
 | bool b=>exact .bool b
 | int k n=>exact .int k n
 | str s=>exact .str s
 | Dy=>exact .Dy
 | ro cs off b o vs hc hf h1 hr ih=>exact .ro cs off b o vs (fun j hj=>(h.cell _ _ _ (hc j hj) (hf j hj)).1) (fun j hj=>(h.cell _ _ _ (hc j hj) (hf j hj)).2) h1 ih
 | xp n off b hx=>exact .xp n off b (h.ext _ _ hx)
 | Ab=>exact .Ab
 | slnil size=>exact .slnil size
 | sl size es a cap vs hle D5 Cb hc hf h1 hr ih=>
  exact .sl size es a cap vs hle D5 Cb (fun i j hi hj=>(h.at_ (hc i j hi hj) (hf i j hi hj)).1) (fun i j hi hj=>(h.at_ (hc i j hi hj) (hf i j hi hj)).2) h1 ih
 | Ue n size len b cap cur e hx hh hs hle D5=>
  obtain ⟨cur',h1,h2⟩:=h.len _ _ _ hh
  exact .Ue n size len b cap cur' e (h.ext _ _ hx) h1 (hs.trans h2.symm) hle D5
 | fn f first captured fv cv h1 h2 hf hc ihf ihc=>exact .fn f first captured fv cv h1 h2 ihf ihc
 | Mx=>exact .Mx
 | iface t p v hp ih=>exact .iface t p v ih
 | FW=>exact .FW
 | agg cs vs h1 ho hp ih=>exact .agg cs vs h1 ho ih
 | B6 cs vs h1 hp ih=>exact .B6 cs vs h1 ih
 | HJ=>exact .HJ
 | mp n b hx=>exact .mp n b (h.ext _ _ hx)
 | M0 n c len b cap cur e hx hh hs hle D5=>
  obtain ⟨cur',h1,h2⟩:=h.len _ _ _ hh
  exact .M0 n c len b cap cur' e (h.row _ _ _ hx) h1 (hs.trans h2.symm) hle D5
 | yp n c off b hx=>exact .yp n c off b (h.row _ _ _ hx)
 | VQ t f p v hp ih=>exact .VQ t f p v ih
 | T3 p v h1 hp ih=>exact .T3 p v h1 ih
theorem AE.mono{g g':Gh}{w w':World}{ps:List PV}{vs:List Value}(hr:AE g w ps vs)(h:Ch g w g' w'):AE g' w' ps vs:=
 ⟨hr.1,fun j hj Cj=>(hr.2 j hj Cj).mono h⟩
def PV.one:PV->Bool
 | .agg _=>false
 | .B6 _=>false
 | _=>true
theorem BO.one{g:Gh}{w:World}{p:PV}{v:Value}(h:BO g w p v)(hp:p.one=true):v.oneCell'=true:=by
 cases h <;> first | rfl | assumption | cases hp
inductive LV where
 | v (p:PV)
 | lp (i off:Nat)
 | uniq (e:TypeId) (size:Nat) (es:List (List PV))
 | full (size:Nat) (es:List (List PV))
 | D8
 | mm (es:List (ByteArray × PV))
 | row (c:Nat) (ps:List Int)
 deriving Inhabited
def LV.Mz:LV->Bool
 | .lp _ _=>false
 | _=>true
inductive UL where
 | t (i:Nat)
 | b (i off:Nat)
 | x (n off:Nat)
 deriving DecidableEq
inductive Own where
 | l (i:Nat)
 | x (n:Nat)
 | u (p:UL)
 deriving DecidableEq
def kJ(e:TypeId):TypeId:=if e<1000000 then e else e - 1000000
def R9(e:TypeId)(k:Nat):Nat:=if e<1000000 then k else 0
theorem T4{e:TypeId}(h:e<1000000):kJ e=e:=iP h
theorem L3{e:TypeId}{k:Nat}(h:e<1000000):R9 e k=k:=iP h
theorem Xs{e:TypeId}{k:Nat}(h:¬e<1000000):R9 e k=0:=iN h
def Row(g:Gh)(w:World)(size:Nat)(es:List (List PV))(cap:Nat)(cur:Array Value):Prop:=es.length<=cap/\cap<=maxLen/\(∀i (h:i<es.length),es[i].length=size)/\∀j (h:j<es.flatten.length),(cur.getD j undef).oneCell'=true/\BO g w es.flatten[j] (cur.getD j undef)
def O8(g:Gh)(w:World)(e:TypeId)(size:Nat)(es:List (List PV))(cap:Nat)(cur:Array Value)(v:Value):Prop:=(e<1000000->BO g w (.sl size es) v)/\(¬e<1000000->Row g w size es cap cur)
structure LG where
 L:Nat->Option Nat
 U:UL->Option Nat
 O:Nat->Option Own
def Cm(g:Gh)(l:LG)(w:World)(p:UL):LV->Value->Prop
 | .v q,v=>BO g w q v
 | .lp i off,v=>∃b,l.L i=some b/\v = .pointer (some ⟨b,off,none⟩)
 | .D8,_=>True
 | .mm _,_=>False
 | .row _ _,_=>False
 | .full size es,v=>(v = .slice none 0 0/\es=[])∨∃a,v = .slice (some a) es.length es.length/\BO g w (.sl size es) v
 | .uniq e size es,v=>((v = .slice none 0 0/\es=[])∨∃a,v = .slice (some a) es.length es.length/\BO g w (.sl size es) v/\e<1000000) ∨
   ∃b cap cur,v = .slice (some ⟨b,0,none⟩) es.length cap/\l.U p=some b/\g.M b=some (R9 e (es.length * size)) /\
   w.heap[b]?=some (.cells cur (kJ e) (0,0))/\cur.size=cap * size/\O8 g w e size es cap cur v
structure S where
 tmps:List (Nat × LV)
 boxes:List (Nat × List LV)
 ext:List (Nat × List LV)
def lk{α:Type}:List (Nat × α)->Nat->Option α
 | [],_=>none
 | (k,v)::r,t=>if k=t then some v else lk r t
def put{α:Type}:List (Nat × α)->Nat->α->List (Nat × α)
 | [],t,v=>[(t,v)]
 | (k,u)::r,t,v=>if k=t then (k,v)::r else (k,u)::put r t v
theorem Lt{α:Type}(l:List (Nat × α))(t:Nat)(v:α):lk (put l t v) t=some v:=by
 induction l with
 | nil=>simp [put,lk]
 | cons x r ih=>
  obtain ⟨k,u⟩:=x
  by_cases h:k=t
  ·simp [put,lk,h]
  ·simp [put,lk,h,ih]
theorem EW{α:Type}(l:List (Nat × α))(t u:Nat)(v:α)(h:t≠u):lk (put l t v) u=lk l u:=by
 induction l with
 | nil=>simp [put,lk,h]
 | cons x r ih=>
  obtain ⟨k,y⟩:=x
  by_cases hk:k=t
  ·subst hk; simp [put,lk,h]
  ·by_cases hu:k=u
   ·subst hu; simp [put,lk,hk]
   ·simp [put,lk,hk,hu,ih]
theorem B8{α:Type}(l:List (Nat × α))(t u:Nat)(v:α):lk (put l t v) u=if t=u then some v else lk l u:=by
 split
 ·rename_i h; subst h; exact Lt l t v
 ·rename_i h; exact EW l t u v h
def El{α:Type}:List (Nat × α)->Nat
 | []=>0
 | (k,_)::r=>max (k+1) (El r)
theorem L4{α:Type}:∀ {e:List (Nat × α)} {x:Nat} {v:α},lk e x=some v->x<El e
 | [],_,_,h=>by simp [lk] at h
 | (k,u)::r,x,v,h=>by
  simp only [lk] at h
  simp only [El]
  split at h
  ·rename_i e0; subst e0; omega
  ·have:=L4 h; omega
theorem G2{α:Type}(v:α):∀ (e:List (Nat × α)) (n:Nat),El (put e n v)=max (El e) (n+1)
 | [],n=>by simp [put,El]
 | (k,u)::r,n=>by
  simp only [put]
  split
  ·rename_i e0; subst e0; simp only [El]; omega
  ·simp only [El,G2 v r n]; omega
theorem DL{α:Type}{e:List (Nat × α)}{n:Nat}{u v:α}(h:lk e n=some u):El (put e n v)=El e:=by
 have:=L4 h
 rw [G2]
 omega
theorem Iy{α:Type}(size:Nat):∀ (es:List (List α)),(∀i (h:i<es.length),es[i].length=size)->∀i j,i<es.length->j<size->es.flatten[i * size+j]?=(es[i]?).bind (·[j]?)
 | [],_,i,_,hi,_=>by simp at hi
 | e::es,hs,i,j,hi,hj=>by
  have he:e.length=size:=hs 0 sM
  cases i with
  | zero=>simp [List.getElem?_append,he,hj]
  | succ i=>
   have ih:=Iy size es (fun i h=>hs (i+1) (by simpa using h)) i j (by simpa using hi) hj
   have e1:(i+1) * size+j=e.length+(i * size+j):=by rw [he,Nat.add_mul]; omega
   rw [List.flatten_cons,e1,List.getElem?_append_right oM]
   simpa using ih
theorem BQ{α:Type}(size:Nat):∀ (es:List (List α)),(∀i (h:i<es.length),es[i].length=size)->es.flatten.length=es.length * size
 | [],_=>by simp
 | e::es,hs=>by
  have he:e.length=size:=hs 0 sM
  have ih:=BQ size es (fun i h=>hs (i+1) (by simpa using h))
  simp [he,ih,Nat.add_mul,Nat.add_comm]
theorem OD{k n size:Nat}(h:k<n * size):k / size<n/\k % size<size/\(k / size) * size+k % size=k:=by
 have hs:0<size:=by
  rcases Nat.eq_zero_or_pos size with h0 | h0
  ·subst h0; simp at h
  ·exact h0
 exact ⟨(Nat.div_lt_iff_lt_mul hs).2 h,Nat.mod_lt _ hs,by rw [Nat.mul_comm]; exact Nat.div_add_mod k size⟩
theorem BO.flat{g:Gh}{w:World}{size:Nat}{es:List (List PV)}{a:Addr}{n cap:Nat}(h:BO g w (.sl size es) (.slice (some a) n cap)) :
  n=es.length/\es.length<=cap/\cap<=maxLen/\(∀i (h:i<es.length),es[i].length=size)/\∃xs,AE g w es.flatten xs/\xs.length=es.length * size /\
   ∀j u,xs[j]?=some u->w.cell? (a.add j)=some u/\g.Fix a.block (a.off+j)/\u.oneCell'=true:=by
 cases h with
 | sl _ _ _ _ vs hle D5 Cb hc hf h1 hr=>
  have T5:=BQ size es Cb
  refine ⟨rfl,hle,D5,Cb,(List.range (es.length * size)).map (fun k=>vs (k / size) (k % size)),⟨by simp [T5],fun k hk Ra=>?_⟩,by simp,fun k u hu=>?_⟩
  ·have hk1:k<es.length * size:=by rw [<-T5]; exact hk
   obtain ⟨d1,d2,d3⟩:=OD hk1
   have hg:=Iy size es Cb (k / size) (k % size) d1 d2
   rw [d3,List.getElem?_eq_getElem hk,List.getElem?_eq_getElem d1] at hg
   have hj:k % size<es[k / size].length:=by rw [Cb _ d1]; exact d2
   simp only [Option.bind_some,List.getElem?_eq_getElem hj] at hg
   injection hg with hg
   rw [hg]
   simpa using hr (k / size) (k % size) d1 hj
  ·have hk1:k<es.length * size:=by
    have:=(List.getElem?_eq_some_iff.1 hu).1
    simpa using this
   obtain ⟨d1,d2,d3⟩:=OD hk1
   have e:u=vs (k / size) (k % size):=by simpa [List.getElem?_range hk1] using hu.symm
   subst e
   have:=hc (k / size) (k % size) d1 d2
   rw [d3] at this
   have kK:=hf (k / size) (k % size) d1 d2
   rw [d3] at kK
   exact ⟨this,kK,h1 _ _ d1 d2⟩
theorem BO.of_flat{g:Gh}{w:World}{size:Nat}{es:List (List PV)}{a:Addr}{cap:Nat}{xs:List Value}(hle:es.length<=cap)(D5:cap<=maxLen)
  (Cb:∀i (h:i<es.length),es[i].length=size) (hr:AE g w es.flatten xs) (hc:∀j u,xs[j]?=some u->w.cell? (a.add j)=some u/\g.Fix a.block (a.off+j)/\u.oneCell'=true) :
  BO g w (.sl size es) (.slice (some a) es.length cap):=by
 have T5:=BQ size es Cb
 have key:∀i j,i<es.length->j<size->i * size+j<xs.length:=fun i j hi hj=>by
  rw [<-hr.1,T5]
  have:=Nat.mul_le_mul_right size (show i+1<=es.length from hi)
  rw [Nat.add_mul] at this
  omega
 have at_:∀i j (hi:i<es.length) (hj:j<size),xs[i * size+j]?=some (xs.getD (i * size+j) undef):=fun i j hi hj=>by
  have:=key i j hi hj
  simp [List.getD,List.getElem?_eq_getElem this]
 refine .sl size es a cap (fun i j=>xs.getD (i * size+j) undef) hle D5 Cb (fun i j hi hj=>(hc _ _ (at_ i j hi hj)).1) (fun i j hi hj=>(hc _ _ (at_ i j hi hj)).2.1) (fun i j hi hj=>(hc _ _ (at_ i j hi hj)).2.2) fun i j hi hj=>?_
 have Cj:j<size:=by rw [<-Cb i hi]; exact hj
 have hk:=key i j hi Cj
 have hk2:i * size+j<es.flatten.length:=by rw [hr.1]; exact hk
 have hg:=Iy size es Cb i j hi Cj
 rw [List.getElem?_eq_getElem hk2,List.getElem?_eq_getElem hi] at hg
 simp only [Option.bind_some,List.getElem?_eq_getElem hj] at hg
 injection hg with hg
 have:=hr.2 _ hk2 hk
 rw [hg] at this
 simpa [List.getD,List.getElem?_eq_getElem hk] using this
theorem Row.mono{g g':Gh}{w w':World}{size:Nat}{es:List (List PV)}{cap:Nat}{cur:Array Value}(h:Row g w size es cap cur)(hm:Ch g w g' w'):Row g' w' size es cap cur:=
 ⟨h.1,h.2.1,h.2.2.1,fun j hj=>⟨(h.2.2.2 j hj).1,(h.2.2.2 j hj).2.mono hm⟩⟩
theorem O8.mono{g g':Gh}{w w':World}{e:TypeId}{size:Nat}{es:List (List PV)}{cap:Nat}{cur:Array Value}{v:Value}(h:O8 g w e size es cap cur v)(hm:Ch g w g' w'):O8 g' w' e size es cap cur v:=
 ⟨fun he=>(h.1 he).mono hm,fun he=>(h.2 he).mono hm⟩
theorem O8.of{g:Gh}{w:World}{e:TypeId}{size:Nat}{es:List (List PV)}{cap:Nat}{cur:Array Value}{v:Value}(he:e<1000000)(h:BO g w (.sl size es) v):O8 g w e size es cap cur v:=⟨fun _=>h,fun hn=>absurd he hn⟩
theorem OE(b j:Nat):(⟨b,0,none⟩:Addr).add j=⟨b,j,none⟩:=by unfold Addr.add; split <;> simp_all
theorem O8.flat{g:Gh}{w:World}{e e':TypeId}{size:Nat}{es:List (List PV)}{b cap:Nat}{cur:Array Value}(h:O8 g w e size es cap cur (.slice (some ⟨b,0,none⟩) es.length cap))(hh:w.heap[b]?=some (.cells cur e' (0,0)))(DM:cur.size=cap * size) :
  es.length<=cap/\cap<=maxLen/\(∀i (h:i<es.length),es[i].length=size)/\∃xs,AE g w es.flatten xs/\xs.length=es.length * size/\cur.toList.take (es.length * size)=xs /\
   ∀j u,xs[j]?=some u->w.cell? ⟨b,j,none⟩=some u/\u.oneCell'=true:=by
 by_cases he:e<1000000
 ·obtain ⟨-,hle,D5,HM,xs,hxr,wR,yF⟩:=(h.1 he).flat
  refine ⟨hle,D5,HM,xs,hxr,wR,?_,fun j u hu=>?_⟩
  ·apply List.ext_getElem?
   intro j
   rw [List.getElem?_take]
   split
   ·rename_i hj
    have Cj:j<xs.length:=by omega
    have hc:=(yF j _ (List.getElem?_eq_getElem Cj)).1
    rw [OE] at hc
    simp only [World.cell?,hh] at hc
    rw [List.getElem?_eq_getElem Cj]
    simpa using hc
   ·rename_i hj
    exact (List.getElem?_eq_none oM).symm
  ·have:=yF j u hu
   rw [OE] at this
   exact ⟨this.1,this.2.2⟩
 ·obtain ⟨hle,D5,HM,hr⟩:=h.2 he
  have T5:=BQ size es HM
  have fP:es.length * size<=cur.size:=by rw [DM]; exact Nat.mul_le_mul_right _ hle
  have VR:∀j,j<es.length * size->cur.toList[j]?=some (cur.getD j undef):=fun j hj=>by
   have:j<cur.size:=by omega
   simp [this]
  refine ⟨hle,D5,HM,cur.toList.take (es.length * size),⟨by simp [T5]; omega,fun j hj Cj=>?_⟩,by simp; omega,rfl,fun j u hu=>?_⟩
  ·have HK:j<es.length * size:=by rw [<-T5]; exact hj
   have h1:=(hr j hj).2
   have h2:=VR j HK
   have h3:(cur.toList.take (es.length * size))[j]?=some (cur.getD j undef):=by rw [List.getElem?_take,iP HK,h2]
   rw [List.getElem?_eq_getElem Cj] at h3
   injection h3 with h3
   rw [h3]; exact h1
  ·have hj:j<es.length * size:=by
    have:=(List.getElem?_eq_some_iff.1 hu).1
    simp at this; omega
   rw [List.getElem?_take,iP hj,VR j hj] at hu
   injection hu with hu
   subst hu
   have:j<cur.size:=by omega
   exact ⟨by simp [World.cell?,hh,this],(hr j (by rw [T5]; exact hj)).1⟩
theorem p9{e:TypeId}{es:List (List PV)}(h:e<1000000):(es,decide (e<1000000))=(es,true):=by rw [decide_eq_true h]
structure Cx where
 n:Nat
 ds:List Deferred
 g0:Gh
 w0:World
 VS:Nat->Prop
def yG:List (Nat × List PV):=[(0,[.str ⟨#[97,110,100]⟩,.str ⟨#[97,115,115,117,109,101]⟩,.str ⟨#[98,111,111,108]⟩,.str ⟨#[98,111,117,110,100]⟩,.str ⟨#[99,97,115,101]⟩,.str ⟨#[99,101,108,108]⟩,.str ⟨#[99,108,97,115,115]⟩,.str ⟨#[100,97,116,97]⟩,.str ⟨#[100,101,102]⟩,.str ⟨#[100,105,118]⟩,.str ⟨#[101,108,115,101]⟩,.str ⟨#[101,110,100]⟩,.str ⟨#[102,97,108,115,101]⟩,.str ⟨#[102,111,114,97,108,108]⟩,.str ⟨#[102,117,110]⟩,.str ⟨#[103,101,116]⟩,.str ⟨#[105,102]⟩,.str ⟨#[105,110]⟩,.str ⟨#[105,110,115,116]⟩,.str ⟨#[105,110,116]⟩,.str ⟨#[105,110,118,97,114,105,97,110,116]⟩,.str ⟨#[108,101,116]⟩,.str ⟨#[109,97,116,99,104]⟩,.str ⟨#[109,101,97,115,117,114,101]⟩,.str ⟨#[109,101,116,114,105,99]⟩,.str ⟨#[109,111,100]⟩,.str ⟨#[109,117]⟩,.str ⟨#[110,101,119]⟩,.str ⟨#[110,111,116]⟩,.str ⟨#[111,102]⟩,.str ⟨#[111,114]⟩,.str ⟨#[113,117,97,108]⟩,.str ⟨#[114,101,102,108,101,99,116]⟩,.str ⟨#[115,101,116]⟩,.str ⟨#[116,104,101,110]⟩,.str ⟨#[116,114,117,101]⟩,.str ⟨#[117,115,101]⟩,.str ⟨#[118]⟩,.str ⟨#[118,97,108]⟩,.str ⟨#[116,97,103]⟩,.str ⟨#[119,104,101,114,101]⟩,.str ⟨#[119,105,116,104]⟩])]
def Xt(g:Gh)(w:World):Prop:=∀k cs,lk yG k=some cs->BO g w (.ro cs 0) (.pointer (some ⟨k,0,none⟩))
theorem Xt.mono{g g':Gh}{w w':World}(h:Xt g w)(hm:Ch g w g' w'):Xt g' w':=fun k cs e=>(h k cs e).mono hm
structure fQ (cx:Cx) (g:Gh) (w:World):Prop where
 mono:Ch cx.g0 cx.w0 g w
 size:cx.w0.heap.size<=w.heap.size
 frame:∀b,b<cx.w0.heap.size->¬cx.VS b->w.heap[b]?=cx.w0.heap[b]?/\g.M b=cx.g0.M b
 os:w.os=cx.w0.os
 tape:w.tape=cx.w0.tape
 output:w.output=cx.w0.output
 Jj:Xt g w
def PE(g:Gh)(l:LG)(w:World)(f:Nat->UL)(b:Nat)(cs:List LV):Prop:=
 g.M b=some 0/\∃cur e,w.heap[b]?=some (.cells cur e (0,0))/\cs.length<=cur.size/\∀j (h:j<cs.length),cs[j].Mz=true/\(cur.getD j undef).oneCell'=true/\Cm g l w (f j) cs[j] (cur.getD j undef)
def Rb(g:Gh)(w:World)(es:List (ByteArray × PV))(arr:Array MapEntry)(clock:Nat):Prop:=
 MapKept.Stamped arr clock/\arr.size=es.length/\∀j (h:j<es.length) (h':j<arr.size),arr[j].key = .string es[j].1/\BO g w es[j].2 arr[j].val
def Rc(g:Gh)(w:World)(b:Nat)(es:List (ByteArray × PV)):Prop:=g.M b=some 0/\∃arr clock,w.heap[b]?=some (.map arr clock)/\Rb g w es arr clock
theorem Rc.BK{g g':Gh}{w w':World}{b:Nat}{es:List (ByteArray × PV)}(h:Rc g w b es)(hm:Ch g w g' w')(hM:g'.M b=g.M b)(hh:w'.heap[b]?=w.heap[b]?):Rc g' w' b es:=by
 obtain ⟨h1,arr,clock,h2,h3,h5,h6⟩:=h
 exact ⟨hM.trans h1,arr,clock,hh.trans h2,h3,h5,fun j hj Cj=>⟨(h6 j hj Cj).1,(h6 j hj Cj).2.mono hm⟩⟩
def Re:List LV->List (ByteArray × PV)->Prop
 | [.mm es],es'=>es=es'
 | _,_=>False
def yH(g:Gh)(w:World)(n b c:Nat)(ps:List Int):Prop:=(∀c',c<c'->g.Y n c'=none)/\g.M b=some 0/\∃cur e,w.heap[b]?=some (.cells cur e (0,0))/\ps.length<=cur.size/\∀j (h:j<ps.length),(cur.getD j undef).oneCell'=true/\BO g w (.int .i64 ps[j]) (cur.getD j undef)
def VT(g:Gh)(w:World)(f:Nat->UL)(b:Nat)(cs:List LV):Prop:=(∃es,Re cs es/\Rc g w b es)∨∃n c ps,f=UL.x n/\cs=[.row c ps]/\yH g w n b c ps
theorem VT.BK{g g':Gh}{w w':World}{f:Nat->UL}{b:Nat}{cs:List LV}(h:VT g w f b cs)(hm:Ch g w g' w')(hY:∀n c,f=UL.x n->g.Y n c=none->g'.Y n c=none)(hM:g'.M b=g.M b)(hh:w'.heap[b]?=w.heap[b]?):VT g' w' f b cs:=by
 rcases h with ⟨es,h1,h2⟩ | ⟨n,c,ps,h1,h2,h3,h4,cur,e,h5,h6,h7⟩
 ·exact .inl ⟨es,h1,h2.BK hm hM hh⟩
 ·exact .inr ⟨n,c,ps,h1,h2,fun c' hc=>hY _ _ h1 (h3 c' hc),hM.trans h4,cur,e,hh.trans h5,h6,fun j hj=>⟨(h7 j hj).1,(h7 j hj).2.mono hm⟩⟩
def XR(g:Gh)(x:Nat)(cs:List LV)(b:Nat):Prop:=match cs with
 | [.row c _]=>g.Y x c=some b
 | _=>g.X x=some b
theorem XR.mono{g g':Gh}{w w':World}{x b:Nat}{cs:List LV}(h:XR g x cs b)(hm:Ch g w g' w'):XR g' x cs b:=by
 unfold XR at *
 split
 ·exact hm.row _ _ _ h
 ·rename_i hn
  split at h
  ·exact absurd rfl (hn _ _)
  ·exact hm.ext _ _ h
def T6(cs:List LV):Prop:=(∀es,¬Re cs es)/\∀c ps,cs≠[.row c ps]
theorem VT.plain{g:Gh}{w:World}{f:Nat->UL}{b:Nat}{cs:List LV}(h:VT g w f b cs)(hp:T6 cs):False:=by
 rcases h with ⟨es,h1,-⟩ | ⟨n,c,ps,-,h2,-⟩
 ·exact hp.1 es h1
 ·exact hp.2 c ps h2
theorem XR.plain{g:Gh}{x b:Nat}{cs:List LV}(h:XR g x cs b)(hp:∀c ps,cs≠[.row c ps]):g.X x=some b:=by
 unfold XR at h
 split at h
 ·exact absurd rfl (hp _ _)
 ·exact h
theorem XR.of{g:Gh}{x b:Nat}{cs:List LV}(h:g.X x=some b)(hp:∀c ps,cs≠[.row c ps]):XR g x cs b:=by
 unfold XR
 split
 ·exact absurd rfl (hp _ _)
 ·exact h
def VU(g:Gh)(l:LG)(w:World)(f:Nat->UL)(b:Nat)(cs:List LV):Prop:=PE g l w f b cs∨VT g w f b cs
theorem PE.Uf{g:Gh}{l:LG}{w:World}{f:Nat->UL}{b:Nat}{cs:List LV}(h:PE g l w f b cs):∀c ps,cs≠[.row c ps]:=by
 rintro c ps rfl
 obtain ⟨-,cur,e,-,-,h6⟩:=h
 exact (h6 0 sM).2.2.elim
theorem yI{g:Gh}{l:LG}{w:World}{x b:Nat}{cs:List LV}(h1:g.X x=some b)(h2:l.O b=some (.x x))(h:PE g l w (.x x) b cs):∃b,XR g x cs b/\l.O b=some (.x x)/\VU g l w (.x x) b cs:=
 ⟨b,XR.of h1 h.Uf,h2,.inl h⟩
structure Bc (cx:Cx) (s:S) (g:Gh) (l:LG) (a:Act) (w:World):Prop where
 AM:fQ cx g w
 size:a.tmps.size=cx.n
 defers:a.defers=cx.ds
 tm:∀t lv,lk s.tmps t=some lv->Cm g l w (.t t) lv (a.tmps.getD t undef)
 bx:∀i cs,lk s.boxes i=some cs->∃b,l.L i=some b/\l.O b=some (.l i)/\PE g l w (.b i) b cs
 ex:∀x cs,lk s.ext x=some cs->∃b,XR g x cs b/\l.O b=some (.x x)/\VU g l w (.x x) b cs
 own:∀b o,l.O b=some o->b<w.heap.size/\(cx.w0.heap.size<=b∨cx.VS b)
 uo:∀p b,l.U p=some b->l.O b=some (.u p)
 fresh:(∀b,w.heap.size<=b->g.M b=none)/\(∀n,El s.ext<=n->g.X n=none)/\∀n c,El s.ext<=n->g.Y n c=none
 Gg:∀n b,g.X n=some b->b<w.heap.size
def WL:LV->LV->Prop:=fun t s=>t=s∨match t,s with
 | .v (.sl z es),.uniq e z' es'=>z=z'/\(es,decide (e<1000000))=(es',true)
 | .v (.sl z es),.full z' es'=>z=z'/\es=es'
 | .uniq _ _ es,.v .Ab=>es=[]
 | .full _ es,.v .Ab=>es=[]
 | .v (.sl _ es),.v .Ab=>es=[]
 | .v q,.v (.T3 p)=>q=p
 | .v (.T3 p),.v q=>p=q/\q.one=true
 | .uniq e z es,.full z' es'=>z=z'/\(es,decide (e<1000000))=(es',true)
 | .D8,.mm _=>False
 | .D8,.row _ _=>False
 | .D8,_=>True
 | _,_=>False
def ES:List LV->List LV->Prop
 | [],[]=>True
 | t::ts,s::ss=>WL t s/\ES ts ss
 | _,_=>False
def eP:List (Nat × LV)->List (Nat × LV)->Prop
 | [],_=>True
 | (k,v)::r,s=>(match lk s k with | some u=>WL v u | none=>False)/\eP r s
def eR:List (Nat × List LV)->List (Nat × List LV)->Prop
 | [],_=>True
 | (k,v)::r,s=>(match lk s k with | some u=>ES v u | none=>False)/\eR r s
theorem WL.refl(v:LV):WL v v := .inl rfl
theorem ES.refl:∀l:List LV,ES l l
 | []=>trivial
 | v::r=>⟨WL.refl v,ES.refl r⟩
theorem WL.rep{g:Gh}{l:LG}{w:World}{p:UL}{t s:LV}{v:Value}(h:WL t s)(hr:Cm g l w p s v):Cm g l w p t v:=by
 rcases h with rfl | h
 ·exact hr
 ·split at h
  ·obtain ⟨rfl,h⟩:=h
   injection h with h1 h2
   subst h1
   rcases hr with (⟨rfl,rfl⟩ | ⟨a,-,hr,-⟩) | ⟨b,cap,cur,-,-,-,-,-,hr⟩
   ·exact .slnil _
   ·exact hr
   ·exact hr.1 (of_decide_eq_true h2)
  ·obtain ⟨rfl,rfl⟩:=h
   rcases hr with ⟨rfl,rfl⟩ | ⟨a,-,hr⟩
   ·exact .slnil _
   ·exact hr
  ·subst h; cases hr; exact .inl (.inl ⟨rfl,rfl⟩)
  ·subst h; cases hr; exact .inl ⟨rfl,rfl⟩
  ·subst h; cases hr; exact .slnil _
  ·subst h; cases hr with | T3 _ _ h1 h=>exact h
  ·obtain ⟨rfl,h1⟩:=h; exact .T3 _ _ (BO.one hr h1) hr
  ·obtain ⟨rfl,h⟩:=h
   injection h with h1 h2
   subst h1
   rcases hr with hr | ⟨a,k1,k2⟩
   ·exact .inl (.inl hr)
   ·exact .inl (.inr ⟨a,k1,k2,of_decide_eq_true h2⟩)
  ·exact h.elim
  ·exact h.elim
  ·trivial
  ·exact h.elim
theorem WL.D8{x:LV}(h:∀es,x ≠ .mm es)(h2:∀c ps,x ≠ .row c ps):WL .D8 x:=by
 cases x <;> first | exact .inr trivial | exact absurd rfl (h _) | exact absurd rfl (h2 _ _)
theorem WL.T7{t s:LV}(h:WL t s)(hs:(∃c ps,t = .row c ps)∨∃c ps,s = .row c ps):t=s:=by
 rcases h with rfl | h
 ·rfl
 ·rcases hs with ⟨c,ps,rfl⟩ | ⟨c,ps,rfl⟩
  ·cases s <;> first | exact h.elim | (rename_i p; cases p <;> exact h.elim)
  ·cases t <;> first | exact h.elim | (rename_i p; cases p <;> exact h.elim)
theorem WL.Mz{t s:LV}(h:WL t s)(hs:s.Mz=true):t.Mz=true:=by
 rcases h with rfl | h
 ·exact hs
 ·split at h <;> first | rfl | exact h.elim
theorem ES.length:∀ {t s:List LV},ES t s->t.length=s.length
 | [],[],_=>rfl
 | _::_,_::_,h=>by simp [ES.length h.2]
 | [],_::_,h=>h.elim
 | _::_,[],h=>h.elim
theorem ES.at_:∀ {t s:List LV},ES t s->∀ (j:Nat) (h:j<t.length) (h':j<s.length),WL t[j] s[j]
 | [],[],_,j,h,_=>absurd h sM
 | _::_,_::_,hh,0,_,_=>hh.1
 | _::_,_::_,hh,j+1,h,h'=>ES.at_ hh.2 j (by simpa using h) (by simpa using h')
 | [],_::_,h,_,_,_=>h.elim
 | _::_,[],h,_,_,_=>h.elim
theorem eP.at_{t s:List (Nat × LV)}(h:eP t s){k:Nat}{v:LV}(hk:lk t k=some v):∃u,lk s k=some u/\WL v u:=by
 induction t with
 | nil=>simp [lk] at hk
 | cons x r ih=>
  obtain ⟨k',v'⟩:=x
  simp only [eP] at h
  simp only [lk] at hk
  split at hk
  ·rename_i e
   subst e
   injection hk with hk
   subst hk
   have h1:=h.1
   split at h1
   ·rename_i u hu; exact ⟨u,hu,h1⟩
   ·exact h1.elim
  ·exact ih h.2 hk
theorem eR.at_{t s:List (Nat × List LV)}(h:eR t s){k:Nat}{v:List LV}(hk:lk t k=some v):∃u,lk s k=some u/\ES v u:=by
 induction t with
 | nil=>simp [lk] at hk
 | cons x r ih=>
  obtain ⟨k',v'⟩:=x
  simp only [eR] at h
  simp only [lk] at hk
  split at hk
  ·rename_i e
   subst e
   injection hk with hk
   subst hk
   have h1:=h.1
   split at h1
   ·rename_i u hu; exact ⟨u,hu,h1⟩
   ·exact h1.elim
  ·exact ih h.2 hk
theorem PE.le{g:Gh}{l:LG}{w:World}{f:Nat->UL}{b:Nat}{t s:List LV}(h:ES t s)(hb:PE g l w f b s):PE g l w f b t:=by
 obtain ⟨hm,cur,e,hh,hs,hr⟩:=hb
 exact ⟨hm,cur,e,hh,by rw [h.length]; exact hs,fun j hj=>⟨(h.at_ j hj (by rw [<-h.length]; exact hj)).Mz (hr j (by rw [<-h.length]; exact hj)).1,(hr j (by rw [<-h.length]; exact hj)).2.1,(h.at_ j hj (by rw [<-h.length]; exact hj)).rep (hr j (by rw [<-h.length]; exact hj)).2.2⟩⟩
theorem Re.inv{s:List LV}{es:List (ByteArray × PV)}(h:Re s es):s=[.mm es]:=by
 unfold Re at h
 split at h
 ·subst h; rfl
 ·exact h.elim
theorem ES.PF{t:List LV}{x:LV}(h:ES t [x]):∃t0,t=[t0]/\WL t0 x:=by
 cases t with
 | nil=>exact h.elim
 | cons t0 r=>
  cases r with
  | nil=>exact ⟨t0,rfl,h.1⟩
  | cons _ _=>exact h.2.elim
theorem Re.le{t s:List LV}{es:List (ByteArray × PV)}(h:ES t s)(hs:Re s es):Re t es:=by
 have:=hs.inv
 subst this
 obtain ⟨t0,rfl,h0⟩:=h.PF
 rcases h0 with rfl | h0
 ·rfl
 ·cases t0 <;> first | exact h0.elim | (rename_i p; cases p <;> exact h0.elim)
theorem VU.le{g:Gh}{l:LG}{w:World}{f:Nat->UL}{b:Nat}{t s:List LV}(h:ES t s)(hb:VU g l w f b s):VU g l w f b t:=by
 rcases hb with hb | ⟨es,h1,h2⟩ | ⟨n,c,ps,h1,rfl,h2⟩
 ·exact .inl (hb.le h)
 ·exact .inr (.inl ⟨es,h1.le h,h2⟩)
 ·obtain ⟨t0,rfl,h0⟩:=h.PF
  have:=h0.T7 (.inr ⟨_,_,rfl⟩)
  subst this
  exact .inr (.inr ⟨n,c,ps,h1,rfl,h2⟩)
theorem XR.le{g:Gh}{x b:Nat}{t s:List LV}(h:ES t s)(hx:XR g x s b):XR g x t b:=by
 unfold XR at *
 split at hx
 ·obtain ⟨t0,rfl,h0⟩:=h.PF
  have:=h0.T7 (.inr ⟨_,_,rfl⟩)
  subst this
  exact hx
 ·rename_i hn
  split
  ·rename_i c ps
   have hl:=h.length
   match s,hl,h,hn with
   | [s0],_,h,hn=>
    have:=h.1.T7 (.inl ⟨_,_,rfl⟩)
    subst this
    exact absurd rfl (hn _ _)
  ·exact hx
inductive A7 where
 | normal
 | exit (id:Nat)
 | ret
 | panic (p:PV)
def ER(g:Gh)(w:World):A7->Exit->Prop
 | .normal,.normal=>True
 | .exit i,.exit j=>i=j
 | .ret,.ret=>True
 | .panic p,.panic ch=>∃v,ch=[{ v,recovered:=false }]/\BO g w p v
 | _,_=>False
def post(cx:Cx)(Q:A7->S->Prop):Exit->Act->World->Prop:=fun e a w=>∃pe s g l,Q pe s/\ER g w pe e/\Bc cx s g l a w
def PW(P:Program)(cx:Cx)(c:Code)(s:S)(Q:A7->S->Prop):Prop:=∀g l a w,Bc cx s g l a w->c.wp P (post cx Q) a w
section
variable {P:Program} {cx:Cx} {s:S} {Q:A7->S->Prop}
theorem PW.mono{c:Code}{Q':A7->S->Prop}(h:PW P cx c s Q)(hq:∀e s,Q e s->Q' e s):PW P cx c s Q':=fun g l a w hs=>
 wp_mono (h g l a w hs) fun _ _ _ ⟨pe,s',g',l',q,er,sm⟩=>⟨pe,s',g',l',hq _ _ q,er,sm⟩
def I3(K:S->Prop)(Q:A7->S->Prop):A7->S->Prop
 | .normal,s=>K s
 | e,s=>Q e s
def MA(id:Nat)(Q:A7->S->Prop):A7->S->Prop
 | .exit Rf,s=>if Rf=id then Q .normal s else Q (.exit Rf) s
 | e,s=>Q e s
theorem PG(h:Q .normal s):PW P cx .skip s Q:=fun g l _ _ hs=>wp_skip ⟨.normal,s,g,l,h,trivial,hs⟩
theorem T8(h:Q .ret s):PW P cx .ret s Q:=fun g l _ _ hs=>wp_ret ⟨.ret,s,g,l,h,trivial,hs⟩
theorem PI{id:Nat}(h:Q (.exit id) s):PW P cx (.exit id) s Q:=fun g l _ _ hs=>wp_exit ⟨.exit id,s,g,l,h,rfl,hs⟩
theorem L5{x y:Code}(h:PW P cx x s (I3 (fun s'=>PW P cx y s' Q) Q)):PW P cx (.seq x y) s Q:=fun g l a w hs=>by
 refine wp_seq (wp_mono (h g l a w hs) ?_)
 rintro e a' w' ⟨pe,s',g',l',q,er,sm⟩
 cases pe <;> cases e <;> first | exact er.elim | skip
 ·exact q g' l' a' w' sm
 ·exact ⟨_,s',g',l',q,er,sm⟩
 ·exact ⟨_,s',g',l',q,er,sm⟩
 ·exact ⟨_,s',g',l',q,er,sm⟩
theorem MB{id:Nat}{c:Code}(h:PW P cx c s (MA id Q)):PW P cx (.block id c) s Q:=fun g l a w hs=>by
 refine wp_block (wp_mono (h g l a w hs) ?_)
 rintro e a' w' ⟨pe,s',g',l',q,er,sm⟩
 cases pe <;> cases e <;> first | exact er.elim | skip
 ·exact ⟨.normal,s',g',l',q,er,sm⟩
 ·rename_i i j
  have er':i=j:=er
  subst er'
  simp only [Exit.inBlock]
  simp only [MA] at q
  split
  ·rename_i hi; rw [iP hi] at q; exact ⟨.normal,s',g',l',q,trivial,sm⟩
  ·rename_i hi; rw [iN hi] at q; exact ⟨.exit i,s',g',l',q,rfl,sm⟩
 ·exact ⟨_,s',g',l',q,er,sm⟩
 ·exact ⟨_,s',g',l',q,er,sm⟩
theorem BO.Xu{g:Gh}{w:World}{b:Bool}{v:Value}(h:BO g w (.bool b) v):v = .bool b:=by cases h; rfl
theorem Kf{t:Tmp}{b:Bool}{x y:Code}(hc:lk s.tmps t=some (.v (.bool b)))(ht:b=true->PW P cx x s Q)(hf:b=false->PW P cx y s Q) :
  PW P cx (.cond (.tmp t) x y) s Q:=fun g l a w hs=>by
 have hv:a.eval (.tmp t) = .bool b:=BO.Xu (hs.tm t _ hc)
 exact wp_cond_split hv (fun e=>ht e g l a w hs) (fun e=>hf e g l a w hs)
end
open Go.RowKit
theorem Cm.BK{g g':Gh}{l l':LG}{w w':World}{p:UL}{lv:LV}{v:Value}(hr:Cm g l w p lv v)(hm:Ch g w g' w')
  (hL:∀i off,lv = .lp i off->l'.L i=l.L i) (hU:∀b,l.U p=some b->l'.U p=some b/\g'.M b=g.M b/\w'.heap[b]?=w.heap[b]?):Cm g' l' w' p lv v:=by
 cases lv with
 | v q=>exact BO.mono hr hm
 | lp i off=>
  obtain ⟨b,h1,h2⟩:=hr
  exact ⟨b,(hL i off rfl).trans h1,h2⟩
 | uniq e size es=>
  rcases hr with (h | ⟨a,h1,h2,h3⟩) | ⟨b,cap,cur,h1,h2,h3,h4,h5,h6⟩
  ·exact .inl (.inl h)
  ·exact .inl (.inr ⟨a,h1,h2.mono hm,h3⟩)
  ·obtain ⟨k1,k2,k3⟩:=hU b h2
   exact .inr ⟨b,cap,cur,h1,k1,k2.trans h3,k3.trans h4,h5,h6.mono hm⟩
 | full size es=>
  rcases hr with h | ⟨a,h1,h2⟩
  ·exact .inl h
  ·exact .inr ⟨a,h1,h2.mono hm⟩
 | D8=>trivial
 | mm _=>exact hr.elim
 | row _ _=>exact hr.elim
def LV.free:LV->Bool
 | .uniq _ _ _=>false
 | _=>true
theorem Cm.free{g:Gh}{l:LG}{w:World}{p q:UL}{lv:LV}{v:Value}(h:lv.free=true)(hr:Cm g l w p lv v):Cm g l w q lv v:=by
 cases lv with
 | uniq e size es=>cases h
 | v _=>exact hr
 | lp _ _=>exact hr
 | full _ _=>exact hr
 | D8=>exact hr
 | mm _=>exact hr
 | row _ _=>exact hr
theorem eval_put(a:Act)(d t:Nat)(v:Value)(h:d<a.tmps.size):(a.put (some d) v).tmps.getD t undef=if d=t then v else a.tmps.getD t undef:=by
 simp only [Act.put,Array.getD_eq_getD_getElem?,Array.getElem?_setIfInBounds]
 split
 ·simp
 ·rfl
section
variable {cx:Cx} {s:S} {g:Gh} {l:LG} {a:Act} {w:World}
theorem Bc.set(h:Bc cx s g l a w){d:Nat}{lv:LV}{v:Value}(hd:d<cx.n)(hr:Cm g l w (.t d) lv v) :
  Bc cx { s with tmps:=put s.tmps d lv } g l (a.put (some d) v) w where
 AM:=h.AM
 size:=by simp [Act.put,h.size]
 defers:=by simp [Act.put,h.defers]
 tm t Xa ht:=by
  rw [eval_put a d t v (by rw [h.size]; exact hd)]
  rw [B8] at ht
  split
  ·rename_i e; subst e; rw [iP rfl] at ht; injection ht with ht; subst ht; exact hr
  ·rename_i e; rw [iN e] at ht; exact h.tm t Xa ht
 bx:=h.bx
 ex:=h.ex
 own:=h.own
 uo:=h.uo
 fresh:=h.fresh
 Gg:=h.Gg
def del{α:Type}:List (Nat × α)->Nat->List (Nat × α)
 | [],_=>[]
 | (k,v)::r,t=>if k=t then del r t else (k,v)::del r t
theorem T9{α:Type}(l:List (Nat × α))(t u:Nat):lk (del l t) u=if t=u then none else lk l u:=by
 induction l with
 | nil=>simp [del,lk]
 | cons x r ih=>
  obtain ⟨k,v⟩:=x
  by_cases hk:k=t
  ·subst hk
   simp only [del,if_true,ih,lk]
   split <;> rfl
  ·simp only [del,hk,if_false,lk,ih]
   by_cases hu:k=u
   ·subst hu; simp [Ne.symm hk]
   ·simp [hu]
theorem EG{w w':World}(hb:∀b,b<w.heap.size->w'.heap[b]?=w.heap[b]?):∀ (b:Nat) (cur:Array Value) (e:TypeId),w.heap[b]?=some (Obj.cells cur e (0,0))->∃cur':Array Value,w'.heap[b]?=some (Obj.cells cur' e (0,0))/\cur'.size=cur.size:=
 fun b cur _ h=>⟨cur,(hb b (Array.getElem?_eq_some_iff.1 h).1).trans h,rfl⟩
theorem Bc.world{w':World}(h:Bc cx s g l a w)(Cb:w.heap.size<=w'.heap.size)(hb:∀b,b<w.heap.size->w'.heap[b]?=w.heap[b]?)
  (os:w'.os=w.os) (tape:w'.tape=w.tape) (output:w'.output=w.output):Bc cx s g l a w'/\Ch g w g w':=by
 have hm:Ch g w g w':=⟨fun _ _ e=>e,fun b o v hc hf=>⟨by
  have:=World.block_lt_of_cell? w _ hc
  rw [<-hc]; exact World.cell?_of_block (hb b this),hf⟩,EG hb,fun _ _ _ h=>h⟩
 have hL:∀ {p lv v},Cm g l w p lv v->Cm g l w' p lv v:=fun hr=>hr.BK hm (fun _ _ _=>rfl) fun b hu=>⟨hu,rfl,hb b (h.own b _ (h.uo _ _ hu)).1⟩
 refine ⟨⟨⟨h.AM.mono.trans hm,Nat.le_trans h.AM.size Cb,fun b Ad ho=>?_,os.trans h.AM.os,tape.trans h.AM.tape,output.trans h.AM.output,h.AM.Jj.mono hm⟩,h.size,h.defers,fun t lv ht=>hL (h.tm t lv ht),?_,?_,?_,h.uo,?_,?_⟩,hm⟩
 ·obtain ⟨h1,h2⟩:=h.AM.frame b Ad ho
  exact ⟨(hb b (Nat.lt_of_lt_of_le Ad h.AM.size)).trans h1,h2⟩
 ·intro i cs hi
  obtain ⟨b,h1,h2,h3,cur,e,h4,h5,h6⟩:=h.bx i cs hi
  exact ⟨b,h1,h2,h3,cur,e,(hb b (h.own b _ h2).1).trans h4,h5,fun j hj=>⟨(h6 j hj).1,(h6 j hj).2.1,hL (h6 j hj).2.2⟩⟩
 ·intro i cs hi
  obtain ⟨b,h1,h2,hE⟩:=h.ex i cs hi
  refine ⟨b,h1,h2,?_⟩
  rcases hE with ⟨h3,cur,e,h4,h5,h6⟩ | hE
  ·exact .inl ⟨h3,cur,e,(hb b (h.own b _ h2).1).trans h4,h5,fun j hj=>⟨(h6 j hj).1,(h6 j hj).2.1,hL (h6 j hj).2.2⟩⟩
  ·exact .inr (hE.BK hm (fun _ _ _ h=>h) rfl (hb b (h.own b _ h2).1))
 ·intro b o ho
  exact ⟨Nat.lt_of_lt_of_le (h.own b o ho).1 Cb,(h.own b o ho).2⟩
 ·exact ⟨fun b Ga=>h.fresh.1 b (Nat.le_trans Cb Ga),h.fresh.2⟩
 ·exact fun n b hx=>Nat.lt_of_lt_of_le (h.Gg n b hx) Cb
theorem Bc.alloc(h:Bc cx s g l a w)(o:Obj):Bc cx s g l a (w.alloc o)/\Ch g w g (w.alloc o):=
 h.world sM (fun b hb=>Below.heap_alloc w o b hb) rfl rfl rfl
theorem Bc.drew(h:Bc cx s g l a w):Bc cx s g l a w.drew/\Ch g w g w.drew:=h.world (Nat.le_refl _) (fun _ _=>rfl) rfl rfl rfl
def kl(i:Nat):LV->LV
 | .lp j o=>if j=i then .D8 else .lp j o
 | lv=>lv
def Lu(i:Nat):List (Nat × LV)->List (Nat × LV)
 | []=>[]
 | (k,lv)::r=>(k,kl i lv)::Lu i r
theorem Kg(i:Nat):∀ (tl:List (Nat × LV)) (t:Nat),lk (Lu i tl) t=(lk tl t).map (kl i)
 | [],t=>rfl
 | (k,x)::r,t=>by
  simp only [Lu,lk]
  split
  ·rfl
  ·exact Kg i r t
theorem Xv{i:Nat}{lv:LV}:(kl i lv = .D8)∨(kl i lv=lv/\∀off,lv ≠ .lp i off):=by
 cases lv with
 | lp j o=>
  simp only [kl]
  split
  ·exact .inl rfl
  ·rename_i h; exact .inr ⟨rfl,fun off e=>by injection e with e1 e2; exact h e1⟩
 | _=>exact .inr ⟨rfl,fun off e=>by cases e⟩
def ET{α:Type}(f:Nat->α)(b:Nat)(x:α):Nat->α:=fun y=>if y=b then x else f y
def F7(f:UL->Option Nat)(p:UL)(x:Option Nat):UL->Option Nat:=fun y=>if y=p then x else f y
theorem BJ{α:Type}(f:Nat->α)(b:Nat)(x:α):ET f b x b=x:=by simp [ET]
theorem Aq{α:Type}(f:Nat->α){b y:Nat}(x:α)(h:y≠b):ET f b x y=f y:=by simp [ET,h]
theorem Bc.Dz(h:Bc cx s g l a w)(i:Nat)(cur:Array Value)(e:TypeId)(ps:List PV)(hr:AE g w ps cur.toList)(Ck:∀u∈cur.toList,u.oneCell'=true) :
  Bc cx { s with tmps:=Lu i s.tmps,boxes:=put s.boxes i (ps.map .v) } { g with M:=ET g.M w.heap.size (some 0) }
   { l with L:=ET l.L i (some w.heap.size),O:=ET l.O w.heap.size (some (.l i)) } a (w.alloc (.cells cur e)) /\
  Ch g w { g with M:=ET g.M w.heap.size (some 0) } (w.alloc (.cells cur e)):=by
 have hb:∀b,b<w.heap.size->(w.alloc (.cells cur e)).heap[b]?=w.heap[b]?:=fun b hb=>Below.heap_alloc w _ b hb
 have hm:Ch g w { g with M:=ET g.M w.heap.size (some 0) } (w.alloc (.cells cur e)):=by
  refine ⟨fun _ _ e=>e,fun b o v hc hf=>?_,EG hb,fun _ _ _ h=>h⟩
  have Ad:=World.block_lt_of_cell? w _ hc
  refine ⟨by rw [<-hc]; exact World.cell?_of_block (hb b Ad),fun k hk=>hf k ?_⟩
  simp only at Ad
  rw [<-Aq g.M (some 0) (Nat.ne_of_lt Ad)]; exact hk
 have hU:∀ {p b},l.U p=some b->l.U p=some b/\ET g.M w.heap.size (some 0) b=g.M b/\(w.alloc (.cells cur e)).heap[b]?=w.heap[b]?:=fun {p b} hu=>by
  have Ad:=(h.own b _ (h.uo _ _ hu)).1
  exact ⟨hu,Aq _ _ (Nat.ne_of_lt Ad),hb b Ad⟩
 have Cb:(w.alloc (.cells cur e)).heap.size=w.heap.size+1:=by simp
 refine ⟨⟨⟨h.AM.mono.trans hm,by rw [Cb]; exact Nat.le_succ_of_le h.AM.size,fun b Ad ho=>?_,h.AM.os,h.AM.tape,h.AM.output,h.AM.Jj.mono hm⟩,h.size,h.defers,?_,?_,?_,?_,?_,?_,?_⟩,hm⟩
 ·obtain ⟨h1,h2⟩:=h.AM.frame b Ad ho
  have CL:=Nat.lt_of_lt_of_le Ad h.AM.size
  exact ⟨(hb b CL).trans h1,(Aq g.M (some 0) (Nat.ne_of_lt CL)).trans h2⟩
 ·intro t lv ht
  simp only [Kg,Option.map_eq_some_iff] at ht
  obtain ⟨lv0,h0,rfl⟩:=ht
  rcases Xv (i:=i) (lv:=lv0) with hj | ⟨he,Ct⟩
  ·rw [hj]; trivial
  ·rw [he]
   refine (h.tm t lv0 h0).BK hm (fun k off e=>?_) fun b hu=>hU hu
   exact Aq _ _ (fun ek=>Ct off (by rw [e,ek]))
 ·intro k cs hk
  rw [B8] at hk
  split at hk
  ·rename_i ek
   subst ek
   injection hk with hk
   subst hk
   refine ⟨w.heap.size,BJ _ _ _,BJ _ _ _,BJ _ _ _,cur,e,heap_alloc_new w _,by simpa using Nat.le_of_eq hr.1,fun j hj=>?_⟩
   have SS:j<ps.length:=by simpa using hj
   have HK:j<cur.toList.length:=by rw [<-hr.1]; exact SS
   have Xb:j<cur.size:=by simpa using HK
   refine ⟨by simp [LV.Mz],Ck _ (by simp [Xb]),?_⟩
   have:=(hr.2 j SS HK).mono hm
   simpa [Cm,Xb] using this
  ·rename_i ek
   obtain ⟨b,h1,h2,h3,cur',e',h4,h5,h6⟩:=h.bx k cs hk
   have Ad:=(h.own b _ h2).1
   refine ⟨b,(Aq _ _ (Ne.symm ek)).trans h1,(Aq _ _ (Nat.ne_of_lt Ad)).trans h2,(Aq _ _ (Nat.ne_of_lt Ad)).trans h3,cur',e',(hb b Ad).trans h4,h5,fun j hj=>⟨(h6 j hj).1,(h6 j hj).2.1,(h6 j hj).2.2.BK hm (fun k off e=>?_) fun b hu=>hU hu⟩⟩
   have:=(h6 j hj).1
   rw [e] at this
   cases this
 ·intro k cs hk
  obtain ⟨b,h1,h2,hE⟩:=h.ex k cs hk
  have Ad:=(h.own b _ h2).1
  refine ⟨b,h1,(Aq _ _ (Nat.ne_of_lt Ad)).trans h2,?_⟩
  rcases hE with ⟨h3,cur',e',h4,h5,h6⟩ | hE
  ·refine .inl ⟨(Aq _ _ (Nat.ne_of_lt Ad)).trans h3,cur',e',(hb b Ad).trans h4,h5,fun j hj=>⟨(h6 j hj).1,(h6 j hj).2.1,(h6 j hj).2.2.BK hm (fun k off e=>?_) fun b hu=>hU hu⟩⟩
   have:=(h6 j hj).1
   rw [e] at this
   cases this
  ·exact .inr (hE.BK hm (fun _ _ _ h=>h) (Aq _ _ (Nat.ne_of_lt Ad)) (hb b Ad))
 ·intro b o ho
  simp only [ET] at ho
  split at ho
  ·rename_i eb
   subst eb
   exact ⟨by rw [Cb]; omega,.inl h.AM.size⟩
  ·obtain ⟨k1,k2⟩:=h.own b o ho
   exact ⟨by rw [Cb]; omega,k2⟩
 ·intro p b hu
  have Ad:=(h.own b _ (h.uo _ _ hu)).1
  exact (Aq _ _ (Nat.ne_of_lt Ad)).trans (h.uo p b hu)
 ·refine ⟨fun b Ga=>?_,h.fresh.2⟩
  rw [Cb] at Ga
  exact (Aq _ _ oM).trans (h.fresh.1 b oM)
 ·intro n b hx
  rw [Cb]
  exact Nat.lt_succ_of_lt (h.Gg n b hx)
def AO{α:Type}:List α->Nat->List α->List α
 | cs,0,[]=>cs
 | _::cs,0,v::vs=>v::AO cs 0 vs
 | c::cs,off+1,vs=>c::AO cs off vs
 | [],_,_=>[]
theorem AV{α:Type}:∀ (cs:List α) (off:Nat) (vs:List α),(AO cs off vs).length=cs.length
 | cs,0,[]=>by simp [AO]
 | c::cs,0,v::vs=>by simp [AO,AV cs 0 vs]
 | c::cs,off+1,vs=>by simp [AO,AV cs off vs]
 | [],0,v::vs=>by simp [AO]
 | [],off+1,vs=>by simp [AO]
theorem BL{α:Type}:∀ (cs:List α) (off:Nat) (vs:List α),off+vs.length<=cs.length->∀j,(AO cs off vs)[j]?=if off<=j/\j<off+vs.length then vs[j - off]? else cs[j]?
 | cs,0,[],_,j=>by simp [AO]
 | c::cs,0,v::vs,h,j=>by
  cases j with
  | zero=>simp [AO]
  | succ j=>
   have:=BL cs 0 vs (by simpa using h) j
   simp only [AO,List.getElem?_cons_succ,this]
   simp
 | c::cs,off+1,vs,h,j=>by
  cases j with
  | zero=>simp [AO]
  | succ j=>
   have:=BL cs off vs (by simp at h; omega) j
   simp only [AO,List.getElem?_cons_succ,this]
   by_cases hc:off<=j/\j<off+vs.length
   ·rw [iP hc,iP oM]
    congr 1
    omega
   ·rw [iN hc,iN oM]
 | [],0,v::vs,h,_=>by simp at h
 | [],off+1,vs,h,_=>by simp at h
theorem Gb{α:Type}(cs:List α)(off:Nat)(vs:List α)(h:off+vs.length<=cs.length):AO cs off vs=cs.take off++vs++cs.drop (off+vs.length):=by
 apply List.ext_getElem?
 intro j
 rw [BL cs off vs h j]
 by_cases h1:j<off
 ·rw [iN oM,List.getElem?_append_left (by simp; omega),List.getElem?_append_left (by simp; omega),List.getElem?_take_of_lt h1]
 ·by_cases h2:j<off+vs.length
  ·rw [iP oM,List.getElem?_append_left (by simp; omega),List.getElem?_append_right (by simp; omega)]
   congr 1
   simp
   omega
  ·rw [iN oM,List.getElem?_append_right (by simp; omega),List.getElem?_drop]
   congr 1
   simp
   omega
end
section
variable {cx:Cx} {s:S} {g:Gh} {l:LG} {a:Act} {w:World}
theorem MC{b:Nat}{arr cur:Array Value}{e:TypeId}(h4:w.heap[b]?=some (.cells cur e (0,0)))(hs:arr.size=cur.size):∀ (b':Nat) (cur:Array Value) (e:TypeId),w.heap[b']?=some (Obj.cells cur e (0,0))->∃cur':Array Value,(w.setRow b arr).heap[b']?=some (Obj.cells cur' e (0,0))/\cur'.size=cur.size:=
 fun b' cur' e' hh=>by
  by_cases hb:b'=b
  ·subst hb
   rw [h4] at hh
   injection hh with hh
   injection hh with h1 h2
   subst h1 h2
   exact ⟨arr,setRow_heap w b' cur _ e _ h4,hs⟩
  ·exact ⟨cur',(setRow_other w b b' arr hb).trans hh,rfl⟩
theorem E2{b:Nat}{arr cur:Array Value}{e:TypeId}(hM:g.M b=some 0)(h4:w.heap[b]?=some (.cells cur e (0,0)))(hs:arr.size=cur.size):Ch g w g (w.setRow b arr):=
 ⟨fun _ _ e=>e,fun b' o v hc hf=>by
  have Ct:b'≠b:=by
   rintro rfl
   exact absurd (hf 0 hM) oM
  exact ⟨by rw [<-hc]; exact World.cell?_of_block (setRow_other w b b' arr Ct),hf⟩,MC h4 hs,fun _ _ _ h=>h⟩
theorem fQ.setRow{b:Nat}{arr cur:Array Value}{e:TypeId}(h:fQ cx g w)(hM:g.M b=some 0)(h4:w.heap[b]?=some (.cells cur e (0,0)))(hs:arr.size=cur.size)(hb:cx.w0.heap.size<=b∨cx.VS b):fQ cx g (w.setRow b arr):=
 ⟨h.mono.trans (E2 hM h4 hs),by simpa using h.size,fun b' Ad ho=>by
  have Ct:b'≠b:=by
   rintro rfl
   rcases hb with hb | hb
   ·omega
   ·exact ho hb
  rw [setRow_other w b b' arr Ct]
  exact h.frame b' Ad ho,h.os,h.tape,h.output,h.Jj.mono (E2 hM h4 hs)⟩
theorem Bc.yJ(h:Bc cx s g l a w){i:Nat}{cs:List LV}(hi:lk s.boxes i=some cs)(off:Nat)(O9:List LV)(vs:List Value)(hl:O9.length=vs.length)(M1:off+O9.length<=cs.length)
  (hr:∀j (h:j<O9.length) (h':j<vs.length),O9[j].Mz=true/\vs[j].oneCell'=true/\Cm g l w (.b i (off+j)) O9[j] vs[j]) :
  ∃b cur e,l.L i=some b/\w.heap[b]?=some (.cells cur e (0,0))/\cs.length<=cur.size /\
   Bc cx { s with boxes:=put s.boxes i (AO cs off O9) } g l a (w.setRow b (AO cur.toList off vs).toArray)/\Ch g w g (w.setRow b (AO cur.toList off vs).toArray):=by
 obtain ⟨b,h1,h2,hM,cur,e,h4,h5,h6⟩:=h.bx i cs hi
 refine ⟨b,cur,e,h1,h4,h5,?_,E2 hM h4 (by simp [AV])⟩
 have hm:Ch g w g (w.setRow b (AO cur.toList off vs).toArray):=E2 hM h4 (by simp [AV])
 have Ct:∀ {b' o},l.O b'=some o->o ≠ .l i->b'≠b:=fun {b' o} ho hn e=>by
  subst e
  rw [h2] at ho
  injection ho with ho
  exact hn ho.symm
 have hU:∀ {p b'},l.U p=some b'->l.U p=some b'/\g.M b'=g.M b'/\(w.setRow b (AO cur.toList off vs).toArray).heap[b']?=w.heap[b']?:=fun {p b'} hu=>
  ⟨hu,rfl,setRow_other w b b' _ (Ct (h.uo _ _ hu) sM)⟩
 have hL:∀ {p lv v},Cm g l w p lv v->Cm g l (w.setRow b (AO cur.toList off vs).toArray) p lv v:=fun hr=>hr.BK hm (fun _ _ _=>rfl) fun b hu=>hU hu
 refine ⟨h.AM.setRow hM h4 (by simp [AV]) (h.own b _ h2).2,h.size,h.defers,fun t lv ht=>hL (h.tm t lv ht),?_,?_,?_,h.uo,?_,?_⟩
 ·intro k Jk hk
  rw [B8] at hk
  split at hk
  ·rename_i ek
   subst ek
   injection hk with hk
   subst hk
   refine ⟨b,h1,h2,hM,_,e,setRow_heap w b cur _ e _ h4,by simp [AV,h5],fun j hj=>?_⟩
   rw [AV] at hj
   have Xw:off+vs.length<=cur.toList.length:=by simp only [Array.length_toList]; omega
   have g1:=BL cs off O9 M1 j
   have g2:=BL cur.toList off vs Xw j
   have SS:j<(AO cs off O9).length:=by rw [AV]; exact hj
   rw [List.getElem?_eq_getElem SS] at g1
   have g3:((AO cur.toList off vs).toArray.getD j undef)=((AO cur.toList off vs)[j]?).getD undef:=by simp [Array.getD_eq_getD_getElem?]
   by_cases hc:off<=j/\j<off+O9.length
   ·have QX:off<=j/\j<off+vs.length:=by omega
    rw [iP hc,List.getElem?_eq_getElem (l:=O9) oM] at g1
    rw [iP QX,List.getElem?_eq_getElem (l:=vs) oM] at g2
    injection g1 with g1
    have hh:=hr (j - off) oM oM
    rw [show off+(j - off)=j by omega] at hh
    rw [g1,g3,g2]
    exact ⟨hh.1,hh.2.1,hL hh.2.2⟩
   ·have QX:¬(off<=j/\j<off+vs.length):=by omega
    rw [iN hc,List.getElem?_eq_getElem (l:=cs) hj] at g1
    rw [iN QX] at g2
    injection g1 with g1
    have hh:=h6 j hj
    rw [g1,g3,g2]
    refine ⟨hh.1,?_,hL ?_⟩
    ·have:=hh.2.1
     simpa [Array.getD_eq_getD_getElem?] using this
    ·have:=hh.2.2
     simpa [Array.getD_eq_getD_getElem?] using this
  ·rename_i ek
   obtain ⟨b',k1,k2,k3,cur',e',k4,k5,k6⟩:=h.bx k Jk hk
   have hn:=Ct k2 (by simp; exact fun e=>ek e.symm)
   exact ⟨b',k1,k2,k3,cur',e',(setRow_other w b b' _ hn).trans k4,k5,fun j hj=>⟨(k6 j hj).1,(k6 j hj).2.1,hL (k6 j hj).2.2⟩⟩
 ·intro k Jk hk
  obtain ⟨b',k1,k2,hE⟩:=h.ex k Jk hk
  have hn:=Ct k2 sM
  refine ⟨b',k1,k2,?_⟩
  rcases hE with ⟨k3,cur',e',k4,k5,k6⟩ | hE
  ·exact .inl ⟨k3,cur',e',(setRow_other w b b' _ hn).trans k4,k5,fun j hj=>⟨(k6 j hj).1,(k6 j hj).2.1,hL (k6 j hj).2.2⟩⟩
  ·exact .inr (hE.BK hm (fun _ _ _ h=>h) rfl (setRow_other w b b' _ hn))
 ·intro b' o ho
  simpa using h.own b' o ho
 ·exact ⟨fun b' Ga=>h.fresh.1 b' (by simpa using Ga),h.fresh.2⟩
 ·intro n b' hx
  simpa using h.Gg n b' hx
theorem Bc.yK(h:Bc cx s g l a w){i:Nat}{cs:List LV}(hi:lk s.ext i=some cs)(off:Nat)(O9:List LV)(vs:List Value)(hl:O9.length=vs.length)(M1:off+O9.length<=cs.length)
  (hr:∀j (h:j<O9.length) (h':j<vs.length),O9[j].Mz=true/\vs[j].oneCell'=true/\Cm g l w (.x i (off+j)) O9[j] vs[j]) (DM:T6 cs) :
  ∃b cur e,g.X i=some b/\w.heap[b]?=some (.cells cur e (0,0))/\cs.length<=cur.size /\
   Bc cx { s with ext:=put s.ext i (AO cs off O9) } g l a (w.setRow b (AO cur.toList off vs).toArray)/\Ch g w g (w.setRow b (AO cur.toList off vs).toArray):=by
 obtain ⟨b,h1,h2,hE⟩:=h.ex i cs hi
 rcases hE with hB | hE
 rotate_left
 ·exact (hE.plain DM).elim
 replace h1:=h1.plain DM.2
 obtain ⟨hM,cur,e,h4,h5,h6⟩:=hB
 refine ⟨b,cur,e,h1,h4,h5,?_,E2 hM h4 (by simp [AV])⟩
 have hm:Ch g w g (w.setRow b (AO cur.toList off vs).toArray):=E2 hM h4 (by simp [AV])
 have Ct:∀ {b' o},l.O b'=some o->o ≠ .x i->b'≠b:=fun {b' o} ho hn e=>by
  subst e
  rw [h2] at ho
  injection ho with ho
  exact hn ho.symm
 have hU:∀ {p b'},l.U p=some b'->l.U p=some b'/\g.M b'=g.M b'/\(w.setRow b (AO cur.toList off vs).toArray).heap[b']?=w.heap[b']?:=fun {p b'} hu=>
  ⟨hu,rfl,setRow_other w b b' _ (Ct (h.uo _ _ hu) sM)⟩
 have hL:∀ {p lv v},Cm g l w p lv v->Cm g l (w.setRow b (AO cur.toList off vs).toArray) p lv v:=fun hr=>hr.BK hm (fun _ _ _=>rfl) fun b hu=>hU hu
 refine ⟨h.AM.setRow hM h4 (by simp [AV]) (h.own b _ h2).2,h.size,h.defers,fun t lv ht=>hL (h.tm t lv ht),?_,?_,?_,h.uo,?_,?_⟩
 ·intro k Jk hk
  obtain ⟨b',k1,k2,k3,cur',e',k4,k5,k6⟩:=h.bx k Jk hk
  have hn:=Ct k2 sM
  exact ⟨b',k1,k2,k3,cur',e',(setRow_other w b b' _ hn).trans k4,k5,fun j hj=>⟨(k6 j hj).1,(k6 j hj).2.1,hL (k6 j hj).2.2⟩⟩
 ·intro k Jk hk
  rw [B8] at hk
  split at hk
  ·rename_i ek
   subst ek
   injection hk with hk
   subst hk
   refine yI h1 h2 ⟨hM,_,e,setRow_heap w b cur _ e _ h4,by simp [AV,h5],fun j hj=>?_⟩
   rw [AV] at hj
   have Xw:off+vs.length<=cur.toList.length:=by simp only [Array.length_toList]; omega
   have g1:=BL cs off O9 M1 j
   have g2:=BL cur.toList off vs Xw j
   have SS:j<(AO cs off O9).length:=by rw [AV]; exact hj
   rw [List.getElem?_eq_getElem SS] at g1
   have g3:((AO cur.toList off vs).toArray.getD j undef)=((AO cur.toList off vs)[j]?).getD undef:=by simp [Array.getD_eq_getD_getElem?]
   by_cases hc:off<=j/\j<off+O9.length
   ·have QX:off<=j/\j<off+vs.length:=by omega
    rw [iP hc,List.getElem?_eq_getElem (l:=O9) oM] at g1
    rw [iP QX,List.getElem?_eq_getElem (l:=vs) oM] at g2
    injection g1 with g1
    have hh:=hr (j - off) oM oM
    rw [show off+(j - off)=j by omega] at hh
    rw [g1,g3,g2]
    exact ⟨hh.1,hh.2.1,hL hh.2.2⟩
   ·have QX:¬(off<=j/\j<off+vs.length):=by omega
    rw [iN hc,List.getElem?_eq_getElem (l:=cs) hj] at g1
    rw [iN QX] at g2
    injection g1 with g1
    have hh:=h6 j hj
    rw [g1,g3,g2]
    refine ⟨hh.1,?_,hL ?_⟩
    ·have:=hh.2.1
     simpa [Array.getD_eq_getD_getElem?] using this
    ·have:=hh.2.2
     simpa [Array.getD_eq_getD_getElem?] using this
  ·rename_i ek
   obtain ⟨b',k1,k2,hE⟩:=h.ex k Jk hk
   have hn:=Ct k2 (by simp; exact fun e=>ek e.symm)
   refine ⟨b',k1,k2,?_⟩
   rcases hE with ⟨k3,cur',e',k4,k5,k6⟩ | hE
   ·exact .inl ⟨k3,cur',e',(setRow_other w b b' _ hn).trans k4,k5,fun j hj=>⟨(k6 j hj).1,(k6 j hj).2.1,hL (k6 j hj).2.2⟩⟩
   ·exact .inr (hE.BK hm (fun _ _ _ h=>h) rfl (setRow_other w b b' _ hn))
 ·intro b' o ho
  simpa using h.own b' o ho
 ·exact ⟨fun b' Ga=>h.fresh.1 b' (by simpa using Ga),fun n hn=>h.fresh.2.1 n (by rw [DL hi] at hn; exact hn),fun n c hn=>h.fresh.2.2 n c (by rw [DL hi] at hn; exact hn)⟩
 ·intro n b' hx
  simpa using h.Gg n b' hx
def Rg(s:S):UL->Prop
 | .t d=>∀e z es,lk s.tmps d≠some (.uniq e z es)
 | .b i j=>∀cs,lk s.boxes i=some cs->∀e z es,cs[j]?≠some (.uniq e z es)
 | .x n j=>∀cs,lk s.ext n=some cs->∀e z es,cs[j]?≠some (.uniq e z es)
theorem Cm.Rg{g':Gh}{l':LG}{w':World}{p:UL}{lv:LV}{v:Value}(hr:Cm g l w p lv v)(hm:Ch g w g' w')(hL:l'.L=l.L)(Gx:∀e z es,lv ≠ .uniq e z es):Cm g' l' w' p lv v:=by
 cases lv with
 | v q=>exact BO.mono hr hm
 | lp i off=>
  obtain ⟨b,h1,h2⟩:=hr
  exact ⟨b,by rw [hL]; exact h1,h2⟩
 | uniq e size es=>exact absurd rfl (Gx e size es)
 | full size es=>
  rcases hr with h | ⟨a,h1,h2⟩
  ·exact .inl h
  ·exact .inr ⟨a,h1,h2.mono hm⟩
 | D8=>trivial
 | mm _=>exact hr.elim
 | row _ _=>exact hr.elim
theorem Bc.kN(h:Bc cx s g l a w){p q:UL}{b:Nat}(hb:l.U p=some b)(hp:Rg s p)(hq:Rg s q) :
  Bc cx s g { l with U:=F7 (F7 l.U p none) q (some b),O:=ET l.O b (some (.u q)) } a w:=by
 have wS:=h.uo p b hb
 have hU:∀ {r b'},r≠p->r≠q->l.U r=some b'->F7 (F7 l.U p none) q (some b) r=some b':=fun {r b'} h1 h2 hu=>by
  simp [F7,h1,h2,hu]
 have BK:∀ {r lv v},(r=p∨r=q->∀e z es,lv≠LV.uniq e z es)->Cm g l w r lv v->Cm g { l with U:=F7 (F7 l.U p none) q (some b),O:=ET l.O b (some (.u q)) } w r lv v:=fun {r lv v} hn hr=>by
  by_cases hc:r=p∨r=q
  ·exact hr.Rg (Ch.refl g w) rfl (hn hc)
  ·simp only [not_or] at hc
   exact hr.BK (Ch.refl g w) (fun _ _ _=>rfl) fun b' hu=>⟨hU hc.1 hc.2 hu,rfl,rfl⟩
 have hO:∀ {b' o},l.O b'=some o->(∀r,o ≠ .u r)->ET l.O b (some (.u q)) b'=some o:=fun {b' o} ho hn=>by
  have:b'≠b:=by
   rintro rfl
   rw [wS] at ho
   injection ho with ho
   exact hn p ho.symm
  exact (Aq _ _ this).trans ho
 refine ⟨h.AM,h.size,h.defers,fun t lv ht=>BK ?_ (h.tm t lv ht),?_,?_,?_,?_,h.fresh,h.Gg⟩
 ·rintro (e | e) e' z es rfl
  ·subst e; exact hp e' z es ht
  ·subst e; exact hq e' z es ht
 ·intro i cs hi
  obtain ⟨b',h1,h2,h3,cur,e,h4,h5,h6⟩:=h.bx i cs hi
  refine ⟨b',h1,hO h2 sM,h3,cur,e,h4,h5,fun j hj=>⟨(h6 j hj).1,(h6 j hj).2.1,BK ?_ (h6 j hj).2.2⟩⟩
  rintro (e0 | e0) e' z es e1
  ·subst e0; exact hp cs hi e' z es (by rw [List.getElem?_eq_getElem hj,e1])
  ·subst e0; exact hq cs hi e' z es (by rw [List.getElem?_eq_getElem hj,e1])
 ·intro i cs hi
  obtain ⟨b',h1,h2,hE⟩:=h.ex i cs hi
  refine ⟨b',h1,hO h2 sM,?_⟩
  rcases hE with ⟨h3,cur,e,h4,h5,h6⟩ | hE
  rotate_left
  ·exact .inr hE
  refine .inl ⟨h3,cur,e,h4,h5,fun j hj=>⟨(h6 j hj).1,(h6 j hj).2.1,BK ?_ (h6 j hj).2.2⟩⟩
  rintro (e0 | e0) e' z es e1
  ·subst e0; exact hp cs hi e' z es (by rw [List.getElem?_eq_getElem hj,e1])
  ·subst e0; exact hq cs hi e' z es (by rw [List.getElem?_eq_getElem hj,e1])
 ·intro b' o ho
  simp only [ET] at ho
  split at ho
  ·rename_i e; subst e; exact h.own _ _ wS
  ·exact h.own b' o ho
 ·intro r b' hu
  simp only [F7] at hu
  split at hu
  ·rename_i e; subst e; injection hu with hu; subst hu; exact BJ _ _ _
  ·split at hu
   ·cases hu
   ·rename_i h1 h2
    have:=h.uo r b' hu
    have Ct:b'≠b:=by
     rintro rfl
     rw [wS] at this
     injection this with this
     injection this with this
     exact h2 this.symm
    exact (Aq _ _ Ct).trans this
theorem Bc.Hg(h:Bc cx s g l a w){p q:UL}{e:TypeId}{z:Nat}{es:List (List PV)}{v:Value}(hr:Cm g l w p (.uniq e z es) v)(hp:Rg s p)(hq:Rg s q) :
  ∃l',Bc cx s g l' a w/\Cm g l' w q (.uniq e z es) v/\l'.L=l.L:=by
 rcases hr with hn | ⟨b,cap,cur,h1,h2,h3,h4,h5,h6⟩
 ·exact ⟨l,h,.inl hn,rfl⟩
 ·refine ⟨_,h.kN h2 hp hq,.inr ⟨b,cap,cur,h1,?_,h3,h4,h5,h6⟩,rfl⟩
  simp [F7]
theorem Bc.pE(h:Bc cx s g l a w)(q:UL)(hq:Rg s q)(cur:Array Value)(e:TypeId){e1:TypeId}(VV:kJ e1=e)(size cap:Nat)(es:List (List PV))(DM:cur.size=cap * size)(hle:es.length<=cap)(D5:cap<=maxLen)
  (Cb:∀i (h:i<es.length),es[i].length=size) (xs:List Value) (hr:AE g w es.flatten xs) (Ck:∀u∈xs,u.oneCell'=true) (Xx:cur.toList.take (es.length * size)=xs) :
  ∃g' l',Bc cx s g' l' a (w.alloc (.cells cur e))/\Ch g w g' (w.alloc (.cells cur e))/\Cm g' l' (w.alloc (.cells cur e)) q (.uniq e1 size es) (.slice (some ⟨w.heap.size,0,none⟩) es.length cap):=by
 have hb:∀b,b<w.heap.size->(w.alloc (.cells cur e)).heap[b]?=w.heap[b]?:=fun b hb=>Below.heap_alloc w _ b hb
 have Ta:(w.alloc (.cells cur e)).heap.size=w.heap.size+1:=by simp
 have hm:Ch g w { g with M:=ET g.M w.heap.size (some (R9 e1 (es.length * size))) } (w.alloc (.cells cur e)):=by
  refine ⟨fun _ _ e=>e,fun b o v hc hf=>?_,EG hb,fun _ _ _ h=>h⟩
  have Ad:=World.block_lt_of_cell? w _ hc
  refine ⟨by rw [<-hc]; exact World.cell?_of_block (hb b Ad),fun k hk=>hf k ?_⟩
  simp only at Ad
  rw [<-Aq g.M (some (R9 e1 (es.length * size))) (Nat.ne_of_lt Ad)]; exact hk
 have A72:∀ {r b'},r≠q->l.U r=some b'->F7 l.U q (some w.heap.size) r=some b':=fun {r b'} h1 hu=>by simp [F7,h1,hu]
 have BK:∀ {r lv v},(r=q->∀e z es,lv≠LV.uniq e z es)->Cm g l w r lv v ->
   Cm { g with M:=ET g.M w.heap.size (some (R9 e1 (es.length * size))) } { l with U:=F7 l.U q (some w.heap.size),O:=ET l.O w.heap.size (some (.u q)) } (w.alloc (.cells cur e)) r lv v:=fun {r lv v} hn hr=>by
  by_cases hc:r=q
  ·exact hr.Rg hm rfl (hn hc)
  ·refine hr.BK hm (fun _ _ _=>rfl) fun b' hu=>?_
   have Ad:=(h.own b' _ (h.uo _ _ hu)).1
   exact ⟨A72 hc hu,Aq _ _ (Nat.ne_of_lt Ad),hb b' Ad⟩
 refine ⟨{ g with M:=ET g.M w.heap.size (some (R9 e1 (es.length * size))) },{ l with U:=F7 l.U q (some w.heap.size),O:=ET l.O w.heap.size (some (.u q)) },⟨⟨h.AM.mono.trans hm,by rw [Ta]; exact Nat.le_succ_of_le h.AM.size,fun b Ad ho=>?_,h.AM.os,h.AM.tape,h.AM.output,h.AM.Jj.mono hm⟩,h.size,h.defers,fun t lv ht=>BK ?_ (h.tm t lv ht),?_,?_,?_,?_,?_,?_⟩,hm,?_⟩
 ·obtain ⟨h1,h2⟩:=h.AM.frame b Ad ho
  have CL:=Nat.lt_of_lt_of_le Ad h.AM.size
  exact ⟨(hb b CL).trans h1,(Aq g.M _ (Nat.ne_of_lt CL)).trans h2⟩
 ·rintro e0 e' z es' rfl
  subst e0; exact hq e' z es' ht
 ·intro i cs hi
  obtain ⟨b',h1,h2,h3,cur',e',h4,h5,h6⟩:=h.bx i cs hi
  have Ad:=(h.own b' _ h2).1
  refine ⟨b',h1,(Aq _ _ (Nat.ne_of_lt Ad)).trans h2,(Aq _ _ (Nat.ne_of_lt Ad)).trans h3,cur',e',(hb b' Ad).trans h4,h5,fun j hj=>⟨(h6 j hj).1,(h6 j hj).2.1,BK ?_ (h6 j hj).2.2⟩⟩
  rintro e0 e2 z es' e1
  subst e0; exact hq cs hi e2 z es' (by rw [List.getElem?_eq_getElem hj,e1])
 ·intro i cs hi
  obtain ⟨b',h1,h2,hE⟩:=h.ex i cs hi
  have Ad:=(h.own b' _ h2).1
  refine ⟨b',h1,(Aq _ _ (Nat.ne_of_lt Ad)).trans h2,?_⟩
  rcases hE with ⟨h3,cur',e',h4,h5,h6⟩ | hE
  rotate_left
  ·exact .inr (hE.BK hm (fun _ _ _ h=>h) (Aq _ _ (Nat.ne_of_lt Ad)) (hb b' Ad))
  refine .inl ⟨(Aq _ _ (Nat.ne_of_lt Ad)).trans h3,cur',e',(hb b' Ad).trans h4,h5,fun j hj=>⟨(h6 j hj).1,(h6 j hj).2.1,BK ?_ (h6 j hj).2.2⟩⟩
  rintro e0 e2 z es' e1
  subst e0; exact hq cs hi e2 z es' (by rw [List.getElem?_eq_getElem hj,e1])
 ·intro b o ho
  simp only [ET] at ho
  split at ho
  ·rename_i eb
   subst eb
   exact ⟨by rw [Ta]; omega,.inl h.AM.size⟩
  ·obtain ⟨k1,k2⟩:=h.own b o ho
   exact ⟨by rw [Ta]; omega,k2⟩
 ·intro r b hu
  simp only [F7] at hu
  split at hu
  ·rename_i e0; subst e0; injection hu with hu; subst hu; exact BJ _ _ _
  ·have Ad:=(h.own b _ (h.uo _ _ hu)).1
   exact (Aq _ _ (Nat.ne_of_lt Ad)).trans (h.uo r b hu)
 ·refine ⟨fun b Ga=>?_,h.fresh.2⟩
  rw [Ta] at Ga
  exact (Aq _ _ oM).trans (h.fresh.1 b oM)
 ·intro n b hx
  rw [Ta]
  exact Nat.lt_succ_of_lt (h.Gg n b hx)
 ·have wR:xs.length=es.length * size:=by rw [<-hr.1,BQ size es Cb]
  have yL:∀j u,xs[j]?=some u->cur.toList[j]?=some u:=fun j u hu=>by
   rw [<-Xx,List.getElem?_take] at hu
   split at hu
   ·exact hu
   ·cases hu
  refine .inr ⟨w.heap.size,cap,cur,rfl,by simp [F7],BJ _ _ _,by rw [VV]; exact heap_alloc_new w _,DM,fun Ad=>?_,fun Dm=>⟨hle,D5,Cb,fun j hj=>?_⟩⟩
  ·refine BO.of_flat hle D5 Cb (hr.mono hm) fun j u hu=>?_
   have hj:=(List.getElem?_eq_some_iff.1 hu).1
   have hcj:=yL j u hu
   refine ⟨?_,fun k hk=>?_,Ck u (List.mem_of_getElem? hu)⟩
   ·rw [OE]
    have:=heap_alloc_new w (.cells cur e)
    simp only [World.cell?,this]
    simpa using hcj
   ·have Ra:some (R9 e1 (es.length * size))=some k:=by rw [<-hk]; exact (BJ _ _ _).symm
    injection Ra with Ra
    rw [L3 Ad] at Ra
    simp only
    omega
  ·have Cj:j<xs.length:=by rw [<-hr.1]; exact hj
   have hcj:=yL j _ (List.getElem?_eq_getElem Cj)
   have hg:cur.getD j undef=xs[j]:=by
    rw [Array.getD_eq_getD_getElem?,<-Array.getElem?_toList,hcj]
    rfl
   rw [hg]
   exact ⟨Ck _ (List.getElem_mem _),(hr.2 j hj Cj).mono hm⟩
theorem Bc.fR(h:Bc cx s g l a w){p q:UL}{b cap:Nat}{cur:Array Value}{e:TypeId}{e1:TypeId}(VV:kJ e1=e){size:Nat}{es ys:List (List PV)}(hp:Rg s p)(hq:Rg s q)(hU:l.U p=some b)(hM:g.M b=some (R9 e1 (es.length * size)))
  (hh:w.heap[b]?=some (.cells cur e (0,0))) (DM:cur.size=cap * size) (hR:O8 g w e1 size es cap cur (.slice (some ⟨b,0,none⟩) es.length cap))
  (Kh:∀i (h:i<ys.length),ys[i].length=size) (news:List Value) (hn:AE g w ys.flatten news) (Ck:∀u∈news,u.oneCell'=true) (GB:es.length+ys.length<=cap) :
  ∃g' l',Bc cx s g' l' a (w.setRow b (cur.toList.take (es.length * size)++news++cur.toList.drop (es.length * size+news.length)).toArray) /\
   Ch g w g' (w.setRow b (cur.toList.take (es.length * size)++news++cur.toList.drop (es.length * size+news.length)).toArray) /\
   Cm g' l' (w.setRow b (cur.toList.take (es.length * size)++news++cur.toList.drop (es.length * size+news.length)).toArray) q (.uniq e1 size (es++ys)) (.slice (some ⟨b,0,none⟩) (es.length+ys.length) cap):=by
 obtain ⟨hle,D5,HM,xs,hxr,wR,yM,yF⟩:=hR.flat hh DM
 have Iz:news.length=ys.length * size:=by rw [<-hn.1,BQ size ys Kh]
 have M1:es.length * size+news.length<=cur.size:=by rw [Iz,DM,<-Nat.add_mul]; exact Nat.mul_le_mul_right _ GB
 rw [yM]
 generalize yN:(xs++news++cur.toList.drop (es.length * size+news.length)).toArray=arr
 have kO:arr.size=cap * size:=by
  subst yN
  simp only [List.size_toArray,List.length_append,List.length_drop,Array.length_toList]
  omega
 have Fy:∀j u,(xs++news)[j]?=some u->(w.setRow b arr).cell? ⟨b,j,none⟩=some u:=fun j u hu=>by
  have pG:=setRow_heap w b cur arr e _ hh
  simp only [World.cell?,pG]
  subst yN
  have hj:=(List.getElem?_eq_some_iff.1 hu).1
  simp only [Option.isSome_none,Bool.false_eq_true,↓reduceIte,List.getElem?_toArray]
  rw [List.getElem?_append_left hj]
  exact hu
 have hm:Ch g w { g with M:=ET g.M b (some (R9 e1 ((es++ys).length * size))) } (w.setRow b arr):=by
  refine ⟨fun _ _ e=>e,fun b' o v hc hf=>?_,MC hh (kO.trans DM.symm),fun _ _ _ h=>h⟩
  by_cases hbb:b'=b
  ·subst hbb
   have ho:=hf _ hM
   have Ad:e1<1000000:=by
    by_cases Ad:e1<1000000
    ·exact Ad
    ·rw [Xs Ad] at ho; omega
   rw [L3 Ad] at ho
   refine ⟨?_,fun k hk=>?_⟩
   ·have hxo:xs[o]?=some v:=by
     have QX:=(yF o _ (List.getElem?_eq_getElem oM)).1
     rw [hc] at QX
     rw [List.getElem?_eq_getElem oM]
     exact QX.symm
    exact Fy o v (by rw [List.getElem?_append_left oM]; exact hxo)
   ·have Ra:some (R9 e1 ((es++ys).length * size))=some k:=by rw [<-hk]; exact (BJ _ _ _).symm
    injection Ra with Ra
    rw [L3 Ad,List.length_append,Nat.add_mul] at Ra
    omega
  ·refine ⟨by rw [<-hc]; exact World.cell?_of_block (setRow_other w b b' arr hbb),fun k hk=>hf k ?_⟩
   rw [<-Aq g.M (some (R9 e1 ((es++ys).length * size))) hbb]; exact hk
 have wS:=h.uo p b hU
 have h1:=h.kN hU hp hq
 have BK:∀ {r lv v},(r=q->∀e z es,lv≠LV.uniq e z es)->Cm g { l with U:=F7 (F7 l.U p none) q (some b),O:=ET l.O b (some (.u q)) } w r lv v ->
   Cm { g with M:=ET g.M b (some (R9 e1 ((es++ys).length * size))) } { l with U:=F7 (F7 l.U p none) q (some b),O:=ET l.O b (some (.u q)) } (w.setRow b arr) r lv v:=fun {r lv v} hn hr=>by
  by_cases hc:r=q
  ·exact hr.Rg hm rfl (hn hc)
  ·refine hr.BK hm (fun _ _ _=>rfl) fun b' hu=>?_
   have Ct:b'≠b:=by
    rintro rfl
    have:=h1.uo r b' hu
    simp only [BJ] at this
    injection this with this
    injection this with this
    exact hc this.symm
   exact ⟨hu,Aq _ _ Ct,setRow_other w b b' arr Ct⟩
 have hOb:∀ {b' o},ET l.O b (some (Own.u q)) b'=some o->(∀r,o ≠ .u r)->b'≠b:=fun {b' o} ho hn e0=>by
  subst e0
  rw [BJ] at ho
  injection ho with ho
  exact hn q ho.symm
 refine ⟨{ g with M:=ET g.M b (some (R9 e1 ((es++ys).length * size))) },{ l with U:=F7 (F7 l.U p none) q (some b),O:=ET l.O b (some (.u q)) },⟨⟨h.AM.mono.trans hm,by simpa using h.AM.size,fun b' Ad ho=>?_,h.AM.os,h.AM.tape,h.AM.output,h.AM.Jj.mono hm⟩,h.size,h.defers,fun t lv ht=>BK ?_ (h1.tm t lv ht),?_,?_,?_,h1.uo,?_,?_⟩,hm,?_⟩
 ·have Ct:b'≠b:=by
   rintro rfl
   rcases (h.own b' _ wS).2 with hb | hb
   ·omega
   ·exact ho hb
  obtain ⟨k1,k2⟩:=h.AM.frame b' Ad ho
  exact ⟨(setRow_other w b b' arr Ct).trans k1,(Aq g.M _ Ct).trans k2⟩
 ·rintro e0 e' z es' rfl
  subst e0; exact hq e' z es' ht
 ·intro i cs hi
  obtain ⟨b',k1,k2,k3,cur',e',k4,k5,k6⟩:=h1.bx i cs hi
  have Ct:=hOb k2 sM
  refine ⟨b',k1,k2,(Aq _ _ Ct).trans k3,cur',e',(setRow_other w b b' arr Ct).trans k4,k5,fun j hj=>⟨(k6 j hj).1,(k6 j hj).2.1,BK ?_ (k6 j hj).2.2⟩⟩
  rintro e0 e2 z es' e1
  subst e0; exact hq cs hi e2 z es' (by rw [List.getElem?_eq_getElem hj,e1])
 ·intro i cs hi
  obtain ⟨b',k1,k2,hE⟩:=h1.ex i cs hi
  have Ct:=hOb k2 sM
  refine ⟨b',k1,k2,?_⟩
  rcases hE with ⟨k3,cur',e',k4,k5,k6⟩ | hE
  rotate_left
  ·exact .inr (hE.BK hm (fun _ _ _ h=>h) (Aq _ _ Ct) (setRow_other w b b' arr Ct))
  refine .inl ⟨(Aq _ _ Ct).trans k3,cur',e',(setRow_other w b b' arr Ct).trans k4,k5,fun j hj=>⟨(k6 j hj).1,(k6 j hj).2.1,BK ?_ (k6 j hj).2.2⟩⟩
  rintro e0 e2 z es' e1
  subst e0; exact hq cs hi e2 z es' (by rw [List.getElem?_eq_getElem hj,e1])
 ·intro b' o ho
  simpa using h1.own b' o ho
 ·refine ⟨fun b' Ga=>?_,h.fresh.2⟩
  have yO:w.heap.size<=b':=by simpa using Ga
  have Ad:=(h.own b _ wS).1
  exact (Aq _ _ oM).trans (h.fresh.1 b' yO)
 ·intro n b' hx
  simpa using h.Gg n b' hx
 ·have kP:∀i (h:i<(es++ys).length),(es++ys)[i].length=size:=by
   intro i hi
   rw [List.getElem_append]
   split
   ·exact HM _ _
   ·exact Kh _ _
  have BE:AE { g with M:=ET g.M b (some (R9 e1 ((es++ys).length * size))) } (w.setRow b arr) (es++ys).flatten (xs++news):=by
   have h2:=hxr.mono hm
   have h3:=hn.mono hm
   refine ⟨by simp only [List.flatten_append,List.length_append,h2.1,h3.1],fun j hj Cj=>?_⟩
   simp only [List.flatten_append]
   simp only [List.getElem_append]
   have hlen:es.flatten.length=xs.length:=h2.1
   split
   ·rename_i Ad
    rw [dif_pos oM]
    exact h2.2 _ _ _
   ·rename_i Ad
    rw [dif_neg oM]
    simp only [hlen]
    exact h3.2 _ _ _
  have kS:∀ (j:Nat) (u:Value),(xs++news)[j]?=some u->u.oneCell'=true:=fun j u hu=>by
   rcases List.mem_append.1 (List.mem_of_getElem? hu) with hx | hx
   ·obtain ⟨j',SS,HK⟩:=List.getElem_of_mem hx
    exact (yF j' u (by rw [List.getElem?_eq_getElem SS,HK])).2
   ·exact Ck u hx
  refine .inr ⟨b,cap,arr,by simp,by simp [F7],BJ _ _ _,by rw [VV]; exact setRow_heap w b cur arr e _ hh,kO,fun Ad=>?_,fun Dm=>⟨by simpa using GB,D5,kP,fun j hj=>?_⟩⟩
  ·rw [<-List.length_append]
   refine BO.of_flat (by simpa using GB) D5 kP (xs:=xs++news) BE fun j u hu=>?_
   have hj:=(List.getElem?_eq_some_iff.1 hu).1
   refine ⟨by rw [OE]; exact Fy j u hu,fun k hk=>?_,kS j u hu⟩
   have Ra:some (R9 e1 ((es++ys).length * size))=some k:=by rw [<-hk]; exact (BJ _ _ _).symm
   injection Ra with Ra
   rw [L3 Ad,List.length_append,Nat.add_mul] at Ra
   rw [List.length_append] at hj
   simp only
   omega
  ·have Cj:j<(xs++news).length:=by rw [<-BE.1]; exact hj
   have hu:=List.getElem?_eq_getElem Cj
   have hc:=Fy j _ hu
   have pG:=setRow_heap w b cur arr e _ hh
   simp only [World.cell?,pG] at hc
   have hg:arr.getD j undef=(xs++news)[j]:=by
    rw [Array.getD_eq_getD_getElem?]
    simp at hc
    rw [hc]
    rfl
   rw [hg]
   exact ⟨kS j _ hu,BE.2 j hj Cj⟩
def rowOf:List LV->Option (Nat × List Int)
 | [.row c ps]=>some (c,ps)
 | _=>none
theorem J3{cs:List LV}{c:Nat}{ps:List Int}(h:rowOf cs=some (c,ps)):cs=[.row c ps]:=by
 unfold rowOf at h
 split at h
 ·injection h with h; injection h with h1 h2; subst h1 h2; rfl
 ·cases h
theorem Tb(h:Bc cx s g l a w){n c:Nat}{cs:List LV}{ps:List Int}(hi:lk s.ext n=some cs)(hc:rowOf cs=some (c,ps)) :
  ∃b,g.Y n c=some b/\l.O b=some (.x n)/\yH g w n b c ps:=by
 have:=J3 hc
 subst this
 obtain ⟨b,h1,h2,hE⟩:=h.ex n _ hi
 rcases hE with hB | ⟨es,he,-⟩ | ⟨n',c',ps',e1,e2,hY⟩
 ·exact absurd rfl (hB.Uf c ps)
 ·have:=he.inv
  injection this with h1 _
  cases h1
 ·injection e2 with e2 _
  injection e2 with e2 e3
  subst e2 e3
  have:n=n':=by
   have:=congrFun e1 0
   injection this
  subst this
  exact ⟨b,h1,h2,hY⟩
def Ik(Y:Nat->Nat->Option Nat)(n c b:Nat):Nat->Nat->Option Nat:=fun n' c'=>if n'=n/\c'=c then some b else Y n' c'
theorem Fi(Y:Nat->Nat->Option Nat)(n c b:Nat):Ik Y n c b n c=some b:=by simp [Ik]
theorem E3{Y:Nat->Nat->Option Nat}{n c b n' c':Nat}(h:¬(n'=n/\c'=c)):Ik Y n c b n' c'=Y n' c':=by simp [Ik,h]
theorem Bc.Xy(h:Bc cx s g l a w){n c c2 b:Nat}{ps ps':List Int}{cur cur':Array Value}{e:TypeId}(hi:lk s.ext n=some [.row c ps])(hY:g.Y n c=some b)(hO:l.O b=some (.x n))(hF:∀c',c<c'->g.Y n c'=none)(hM:g.M b=some 0)
  (hh:w.heap[b]?=some (.cells cur e (0,0))) (Cb:cur'.size=cur.size) (hc:c2=c∨c<c2) (hlen:ps'.length<=cur'.size) (hr:∀j (hj:j<ps'.length),(cur'.getD j undef).oneCell'=true/\BO g w (.int .i64 ps'[j]) (cur'.getD j undef)) :
  Bc cx { s with ext:=put s.ext n [.row c2 ps'] } { g with Y:=Ik g.Y n c2 b } l a (w.setRow b cur'):=by
 have hYm:∀n' c' b',g.Y n' c'=some b'->Ik g.Y n c2 b n' c'=some b':=fun n' c' b' hx=>by
  by_cases hq:n'=n/\c'=c2
  ·obtain ⟨rfl,rfl⟩:=hq
   rcases hc with rfl | hc
   ·rw [hY] at hx; rw [Fi]; exact hx
   ·rw [hF _ hc] at hx; cases hx
  ·rw [E3 hq]; exact hx
 have pH:Ch g w g (w.setRow b cur'):=E2 hM hh Cb
 have hm:Ch g w { g with Y:=Ik g.Y n c2 b } (w.setRow b cur'):=⟨pH.ext,pH.cell,pH.len,hYm⟩
 have Ct:∀ {b' o},l.O b'=some o->o ≠ .x n->b'≠b:=fun {b' o} MD hn e0=>by
  subst e0
  rw [hO] at MD
  injection MD with MD
  exact hn MD.symm
 have fS:∀ {b'},b'≠b->(w.setRow b cur').heap[b']?=w.heap[b']?:=fun {b'} hn=>setRow_other w b b' _ hn
 have hU:∀ {p b'},l.U p=some b'->l.U p=some b'/\g.M b'=g.M b'/\(w.setRow b cur').heap[b']?=w.heap[b']?:=fun {p b'} hu=>⟨hu,rfl,fS (Ct (h.uo _ _ hu) sM)⟩
 have hL:∀ {p lv v},Cm g l w p lv v->Cm { g with Y:=Ik g.Y n c2 b } l (w.setRow b cur') p lv v:=fun hr=>hr.BK hm (fun _ _ _=>rfl) fun b hu=>hU hu
 have hH:=h.AM.setRow hM hh Cb (h.own b _ hO).2
 have pJ:(w.setRow b cur').heap.size=w.heap.size:=by simp
 refine ⟨⟨h.AM.mono.trans hm,hH.size,hH.frame,hH.os,hH.tape,hH.output,h.AM.Jj.mono hm⟩,h.size,h.defers,fun t lv ht=>hL (h.tm t lv ht),?_,?_,?_,h.uo,?_,?_⟩
 ·intro k cs hk
  obtain ⟨b',k1,k2,k3,fT,e2,k4,k5,k6⟩:=h.bx k cs hk
  exact ⟨b',k1,k2,k3,fT,e2,(fS (Ct k2 sM)).trans k4,k5,fun j hj=>⟨(k6 j hj).1,(k6 j hj).2.1,hL (k6 j hj).2.2⟩⟩
 ·intro k cs hk
  simp only [B8] at hk
  split at hk
  ·rename_i ek
   subst ek
   injection hk with hk
   subst hk
   refine ⟨b,Fi _ _ _ _,hO,.inr (.inr ⟨n,c2,ps',rfl,rfl,fun c' QX=>?_,hM,cur',e,setRow_heap w b cur cur' e _ hh,hlen,fun j hj=>⟨(hr j hj).1,(hr j hj).2.mono hm⟩⟩)⟩
   show Ik g.Y n c2 b n c'=none
   rw [E3 oM]
   exact hF c' oM
  ·rename_i ek
   obtain ⟨b',k1,k2,hE⟩:=h.ex k cs hk
   have hn:b'≠b:=Ct k2 (fun e0=>by injection e0 with e0; exact ek e0.symm)
   refine ⟨b',k1.mono hm,k2,?_⟩
   rcases hE with ⟨k3,fT,e2,k4,k5,k6⟩ | hE
   ·exact .inl ⟨k3,fT,e2,(fS hn).trans k4,k5,fun j hj=>⟨(k6 j hj).1,(k6 j hj).2.1,hL (k6 j hj).2.2⟩⟩
   ·refine .inr (hE.BK hm (fun n' c' hf hx=>?_) rfl (fS hn))
    have:n'=k:=by
     have:=congrFun hf 0
     injection this with h1 _
     exact h1.symm
    show Ik g.Y n c2 b n' c'=none
    rw [E3 (by rintro ⟨h1,-⟩; exact ek (h1.symm.trans this))]
    exact hx
 ·intro b' o ho
  rw [pJ]; exact h.own b' o ho
 ·refine ⟨fun b' Ga=>h.fresh.1 b' (by rw [pJ] at Ga; exact Ga),fun k hk=>h.fresh.2.1 k (by rw [DL hi] at hk; exact hk),fun k c' hk=>?_⟩
  have Ad:=L4 hi
  rw [DL hi] at hk
  show Ik g.Y n c2 b k c'=none
  rw [E3 oM]
  exact h.fresh.2.2 k c' hk
 ·intro k b' hx
  rw [pJ]; exact h.Gg k b' hx
theorem Bc.Tc(h:Bc cx s g l a w)(n c2:Nat)(hF:∀c',c2<=c'->g.Y n c'=none)(hn0:n<=El s.ext)(cur:Array Value)(e:TypeId)(ps':List Int)(hlen:ps'.length<=cur.size)(hr:∀j (hj:j<ps'.length),(cur.getD j undef).oneCell'=true/\BO g w (.int .i64 ps'[j]) (cur.getD j undef)) :
  Bc cx { s with ext:=put s.ext n [.row c2 ps'] } { g with M:=ET g.M w.heap.size (some 0),Y:=Ik g.Y n c2 w.heap.size } { l with O:=ET l.O w.heap.size (some (.x n)) } a (w.alloc (.cells cur e)):=by
 have hb:∀b,b<w.heap.size->(w.alloc (.cells cur e)).heap[b]?=w.heap[b]?:=fun b hb=>Below.heap_alloc w _ b hb
 have hYm:∀n' c' b',g.Y n' c'=some b'->Ik g.Y n c2 w.heap.size n' c'=some b':=fun n' c' b' hx=>by
  by_cases hq:n'=n/\c'=c2
  ·obtain ⟨rfl,rfl⟩:=hq
   rw [hF _ (Nat.le_refl _)] at hx; cases hx
  ·rw [E3 hq]; exact hx
 have hm:Ch g w { g with M:=ET g.M w.heap.size (some 0),Y:=Ik g.Y n c2 w.heap.size } (w.alloc (.cells cur e)):=by
  refine ⟨fun _ _ e=>e,fun b o v hc hf=>?_,EG hb,hYm⟩
  have Ad:=World.block_lt_of_cell? w _ hc
  refine ⟨by rw [<-hc]; exact World.cell?_of_block (hb b Ad),fun k hk=>hf k ?_⟩
  simp only at Ad
  rw [<-Aq g.M (some 0) (Nat.ne_of_lt Ad)]; exact hk
 have hU:∀ {p b},l.U p=some b->l.U p=some b/\ET g.M w.heap.size (some 0) b=g.M b/\(w.alloc (.cells cur e)).heap[b]?=w.heap[b]?:=fun {p b} hu=>by
  have Ad:=(h.own b _ (h.uo _ _ hu)).1
  exact ⟨hu,Aq _ _ (Nat.ne_of_lt Ad),hb b Ad⟩
 have Cb:(w.alloc (.cells cur e)).heap.size=w.heap.size+1:=by simp
 refine ⟨⟨h.AM.mono.trans hm,by rw [Cb]; exact Nat.le_succ_of_le h.AM.size,fun b Ad ho=>?_,h.AM.os,h.AM.tape,h.AM.output,h.AM.Jj.mono hm⟩,h.size,h.defers,?_,?_,?_,?_,?_,?_,?_⟩
 ·obtain ⟨h1,h2⟩:=h.AM.frame b Ad ho
  have CL:=Nat.lt_of_lt_of_le Ad h.AM.size
  exact ⟨(hb b CL).trans h1,(Aq g.M (some 0) (Nat.ne_of_lt CL)).trans h2⟩
 ·intro t lv ht
  exact (h.tm t lv ht).BK hm (fun _ _ _=>rfl) fun b hu=>hU hu
 ·intro k cs hk
  obtain ⟨b,h1,h2,h3,cur',e',h4,h5,h6⟩:=h.bx k cs hk
  have Ad:=(h.own b _ h2).1
  refine ⟨b,h1,(Aq _ _ (Nat.ne_of_lt Ad)).trans h2,(Aq _ _ (Nat.ne_of_lt Ad)).trans h3,cur',e',(hb b Ad).trans h4,h5,fun j hj=>⟨(h6 j hj).1,(h6 j hj).2.1,(h6 j hj).2.2.BK hm (fun _ _ _=>rfl) fun b hu=>hU hu⟩⟩
 ·intro k Jk hk
  simp only [B8] at hk
  split at hk
  ·rename_i ek
   subst ek
   injection hk with hk
   subst hk
   refine ⟨w.heap.size,Fi _ _ _ _,BJ _ _ _,.inr (.inr ⟨n,c2,ps',rfl,rfl,fun c' QX=>?_,BJ _ _ _,cur,e,heap_alloc_new w _,hlen,fun j hj=>⟨(hr j hj).1,(hr j hj).2.mono hm⟩⟩)⟩
   show Ik g.Y n c2 w.heap.size n c'=none
   rw [E3 oM]
   exact hF c' oM
  ·rename_i ek
   obtain ⟨b,h1,h2,hE⟩:=h.ex k Jk hk
   have Ad:=(h.own b _ h2).1
   refine ⟨b,h1.mono hm,(Aq _ _ (Nat.ne_of_lt Ad)).trans h2,?_⟩
   rcases hE with ⟨h3,cur',e',h4,h5,h6⟩ | hE
   ·exact .inl ⟨(Aq _ _ (Nat.ne_of_lt Ad)).trans h3,cur',e',(hb b Ad).trans h4,h5,fun j hj=>⟨(h6 j hj).1,(h6 j hj).2.1,(h6 j hj).2.2.BK hm (fun _ _ _=>rfl) fun b hu=>hU hu⟩⟩
   ·refine .inr (hE.BK hm (fun n' c' hf hx=>?_) (Aq _ _ (Nat.ne_of_lt Ad)) (hb b Ad))
    have:n'=k:=by
     have:=congrFun hf 0
     injection this with h1 _
     exact h1.symm
    show Ik g.Y n c2 w.heap.size n' c'=none
    rw [E3 (by rintro ⟨h1,-⟩; exact ek (h1.symm.trans this))]
    exact hx
 ·intro b o ho
  simp only [ET] at ho
  split at ho
  ·rename_i eb
   subst eb
   exact ⟨by rw [Cb]; omega,.inl h.AM.size⟩
  ·obtain ⟨k1,k2⟩:=h.own b o ho
   exact ⟨by rw [Cb]; omega,k2⟩
 ·intro p b hu
  have Ad:=(h.own b _ (h.uo _ _ hu)).1
  exact (Aq _ _ (Nat.ne_of_lt Ad)).trans (h.uo p b hu)
 ·refine ⟨fun b Ga=>?_,fun k hk=>h.fresh.2.1 k (by simp only [G2] at hk; omega),fun k c' hk=>?_⟩
  ·rw [Cb] at Ga
   exact (Aq _ _ oM).trans (h.fresh.1 b oM)
  ·simp only [G2] at hk
   show Ik g.Y n c2 w.heap.size k c'=none
   rw [E3 oM]
   exact h.fresh.2.2 k c' oM
 ·intro k b hx
  rw [Cb]
  exact Nat.lt_succ_of_lt (h.Gg k b hx)
end
def cv1:Value->Option PV
 | .bool b=>some (.bool b)
 | .int k n=>some (.int k n)
 | .string s=>some (.str s)
 | .pointer none=>some .Dy
 | .slice none 0 0=>some .Ab
 | .nilFunc=>some .Mx
 | .nilIface=>some .FW
 | .map none=>some .HJ
 | _=>none
def eT:List Value->Option (List PV)
 | []=>some []
 | v::r=>match cv1 v,eT r with
  | some p,some ps=>some (p::ps)
  | _,_=>none
def cv:Value->Option PV
 | .agg cs=>(eT cs.toList).map .agg
 | v=>cv1 v
theorem Ug{g:Gh}{w:World}{v:Value}{p:PV}(h:cv1 v=some p):BO g w p v/\v.oneCell'=true/\p.one=true:=by
 unfold cv1 at h
 split at h <;> first | (injection h with h; subst h; exact ⟨by constructor,rfl,rfl⟩) | cases h
theorem EX{g:Gh}{w:World}:∀ {vs:List Value} {ps:List PV},eT vs=some ps->AE g w ps vs/\(∀v∈vs,v.oneCell'=true)/\∀p∈ps,p.one=true
 | [],ps,h=>by
  simp only [eT,Option.some.injEq] at h
  subst h
  exact ⟨.nil,by simp,by simp⟩
 | v::r,ps,h=>by
  simp only [eT] at h
  split at h
  ·rename_i p qs h1 h2
   injection h with h
   subst h
   have k1:=Ug (g:=g) (w:=w) h1
   have k2:=EX (g:=g) (w:=w) h2
   exact ⟨.cons k1.1 k2.1,by simp only [List.mem_cons,forall_eq_or_imp]; exact ⟨k1.2.1,k2.2.1⟩,by simp only [List.mem_cons,forall_eq_or_imp]; exact ⟨k1.2.2,k2.2.2⟩⟩
  ·cases h
theorem AE.agg{g:Gh}{w:World}{ps:List PV}{vs:List Value}(h:AE g w ps vs)(ho:∀v∈vs,v.oneCell'=true):BO g w (.agg ps) (.agg vs.toArray) := .agg ps vs h.1 ho h.2
theorem Xz{g:Gh}{w:World}{v:Value}{p:PV}(h:cv v=some p):BO g w p v:=by
 unfold cv at h
 split at h
 ·rename_i cs
  simp only [Option.map_eq_some_iff] at h
  obtain ⟨ps,h1,rfl⟩:=h
  have:=EX (g:=g) (w:=w) h1
  simpa using this.1.agg this.2.1
 ·exact (Ug h).1
def KV(P:Program)(t:TypeId):Option Nat:=(P.info? t).map (·.size)
def FP(P:Program)(t:TypeId):Option Nat:=(P.info? t).map (·.bytes)
def M3(P:Program)(t:TypeId):Option Bool:=(P.underlying t).map fun
 | .struct _ | .array _ _=>true
 | _=>false
def XA(P:Program)(t:TypeId)(f:Nat):Option (Nat × TypeId):=match P.underlying t with
 | some (.struct fs)=>(fs[f]?).map fun x=>(x.offset,x.type)
 | _=>none
def Uh(P:Program)(t:TypeId):Option (List PV):=((P.info? t).bind (·.zero)).bind fun v=>eT v.cells.toList
def GC(P:Program)(t:TypeId):Option TypeId:=match P.underlying t with
 | some (.slice e)=>some e
 | _=>none
def pK(P:Program)(t:TypeId):Option IntKind:=match P.underlying t with
 | some (.int k)=>some k
 | _=>none
theorem run_sizeOf{P:Program}{w:World}{t:TypeId}{n:Nat}(h:KV P t=some n):(sizeOf t).run P w = .ok n w:=by
 simp only [KV,Option.map_eq_some_iff] at h
 obtain ⟨i,h1,rfl⟩:=h
 simp [sizeOf,typeInfo,h1]
theorem Hh{P:Program}{w:World}{t:TypeId}{b:Bool}(h:M3 P t=some b):(isAgg t).run P w = .ok b w:=by
 simp only [M3,Option.map_eq_some_iff] at h
 obtain ⟨d,h1,rfl⟩:=h
 simp only [isAgg,underlying,Sem.run_bind,run_program,Result.andThen_ok,h1,Sem.run_pure]
 cases d <;> rfl
inductive RM (α:Type) where
 | ret (a:α)
 | fail
 | Il (t:Nat) (k:LV->RM α)
 | Im (i:Nat) (k:List LV->RM α)
 | G3 (n:Nat) (k:List LV->RM α)
 | assume (p:Bool) (k:RM α)
def RM.wp{α:Type}:RM α->S->(α->Prop)->Prop
 | .ret a,_,K=>K a
 | .fail,_,_=>False
 | .Il t k,s,K=>match lk s.tmps t with
  | some v=>(k v).wp s K
  | none=>False
 | .Im i k,s,K=>match lk s.boxes i with
  | some v=>(k v).wp s K
  | none=>False
 | .G3 n k,s,K=>match lk s.ext n with
  | some v=>(k v).wp s K
  | none=>False
 | .assume p k,s,K=>p=true/\k.wp s K
inductive Wr where
 | tmp (t:Nat) (v:LV)
 | Dz (i:Nat) (ps:List PV)
 | cells (i off:Nat) (vs:List LV)
 | ext (n off:Nat) (vs:List LV)
def S.wr(s:S):Wr->S
 | .tmp t v=>{ s with tmps:=put s.tmps t v }
 | .Dz i ps=>{ s with tmps:=Lu i s.tmps,boxes:=put s.boxes i (ps.map .v) }
 | .cells i off vs=>match lk s.boxes i with
  | some cs=>{ s with boxes:=put s.boxes i (AO cs off vs) }
  | none=>s
 | .ext n off vs=>match lk s.ext n with
  | some cs=>{ s with ext:=put s.ext n (AO cs off vs) }
  | none=>s
def S.Io(s:S):List Wr->S
 | []=>s
 | x::r=>(s.wr x).Io r
def OF:List LV->Bool
 | [.mm _]=>false
 | [.row _ _]=>false
 | _=>true
theorem Hi{cs:List LV}(h:OF cs=true):T6 cs:=by
 refine ⟨fun es hs=>?_,fun c ps hs=>?_⟩
 ·have:=hs.inv
  subst this
  cases h
 ·subst hs
  cases h
def Xc:LV->Option PV
 | .v p=>some p
 | .uniq e z es=>if e<1000000 then some (.sl z es) else none
 | .full z es=>some (.sl z es)
 | _=>none
theorem XB{e:TypeId}{z:Nat}{es:List (List PV)}(h:e<1000000):Xc (.uniq e z es)=some (.sl z es):=iP h
def VW:List LV->Option (List PV)
 | []=>some []
 | v::r=>match Xc v,VW r with
  | some p,some ps=>some (p::ps)
  | _,_=>none
theorem EY{g:Gh}{l:LG}{w:World}{u:UL}{lv:LV}{p:PV}{v:Value}(h:Xc lv=some p)(hr:Cm g l w u lv v):BO g w p v:=by
 cases lv with
 | v q=>simp only [Xc,Option.some.injEq] at h; subst h; exact hr
 | lp i off=>cases h
 | uniq e z es=>
  simp only [Xc] at h
  split at h
  case isFalse=>cases h
  rename_i Ad
  injection h with h
  subst h
  rcases hr with (⟨rfl,rfl⟩ | ⟨a,-,hr,-⟩) | ⟨b,cap,cur,-,-,-,-,-,hr⟩
  ·exact .slnil z
  ·exact hr
  ·exact hr.1 Ad
 | full z es=>
  simp only [Xc,Option.some.injEq] at h
  subst h
  rcases hr with ⟨rfl,rfl⟩ | ⟨a,-,hr⟩
  ·exact .slnil z
  ·exact hr
 | D8=>cases h
 | mm _=>cases h
 | row _ _=>cases h
def ev{α:Type}(x:Operand)(k:LV->RM α):RM α:=match x with
 | .tmp t => .Il t k
 | .const c=>match cv c with
  | some p=>k (.v p)
  | none => .fail
 | .func f=>k (.v (.fn (.func f) [] []))
 | .global n=>match lk yG n with
  | some cs=>k (.v (.ro cs 0))
  | none => .fail
def Hj{α:Type}(x:Operand)(k:PV->RM α):RM α:=ev x fun lv=>match Xc lv with
 | some p=>k p
 | none => .fail
def kT{α:Type}:List Operand->(List PV->RM α)->RM α
 | [],k=>k []
 | x::r,k=>Hj x fun p=>kT r fun ps=>k (p::ps)
section
variable {cx:Cx} {s:S} {g:Gh} {l:LG} {a:Act} {w:World}
theorem Cc{α:Type}{x:Operand}{k:LV->RM α}{K:α->Prop}(h:Bc cx s g l a w)(hw:(ev x k).wp s K):∃lv u,(k lv).wp s K/\Cm g l w u lv (a.eval x)/\(∀e z es,lv = .uniq e z es->∃t,x = .tmp t/\u = .t t/\lk s.tmps t=some lv):=by
 unfold ev at hw
 split at hw
 ·rename_i t
  simp only [RM.wp] at hw
  split at hw
  ·rename_i v hv; exact ⟨v,.t t,hw,h.tm t v hv,fun e z es _=>⟨t,rfl,rfl,hv⟩⟩
  ·exact hw.elim
 ·rename_i c
  split at hw
  ·rename_i p hp; exact ⟨.v p,.t 0,hw,Xz hp,fun e z es h=>by cases h⟩
  ·exact hw.elim
 ·rename_i f
  exact ⟨_,.t 0,hw,.fn (.func f) [] [] [] [] rfl rfl (fun j h=>by simp at h) (fun j h=>by simp at h),fun e z es h=>by cases h⟩
 ·rename_i n
  split at hw
  ·rename_i cs DM
   exact ⟨_,.t 0,hw,h.AM.Jj n cs DM,fun e z es h=>by cases h⟩
  ·exact hw.elim
theorem AZ{α:Type}{x:Operand}{k:PV->RM α}{K:α->Prop}(h:Bc cx s g l a w)(hw:(Hj x k).wp s K):∃p,(k p).wp s K/\BO g w p (a.eval x):=by
 obtain ⟨lv,u,h1,h2,-⟩:=Cc h hw
 split at h1
 ·rename_i p hp; exact ⟨p,h1,EY hp h2⟩
 ·exact h1.elim
theorem Fj{α:Type}:∀ {xs:List Operand} {k:List PV->RM α} {K:α->Prop},Bc cx s g l a w->(kT xs k).wp s K->∃ps,(k ps).wp s K/\AE g w ps (xs.map a.eval)
 | [],k,K,_,hw=>⟨[],hw,.nil⟩
 | x::r,k,K,h,hw=>by
  obtain ⟨p,h1,h2⟩:=AZ h hw
  obtain ⟨ps,h3,h4⟩:=Fj h h1
  exact ⟨p::ps,h3,.cons h2 h4⟩
end
end Go.Pv
