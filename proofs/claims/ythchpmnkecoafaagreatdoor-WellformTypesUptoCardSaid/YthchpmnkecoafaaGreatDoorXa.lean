/- Values of Go as plain data, an evaluator over them, and what the functions of the program return; part Xa. -/
import Derived.Tactics
import Derived.Below
import Derived.Laws.AppendOwn
import Derived.Deep.LoopGhost
import Derived.MapKept
import Derived.Laws.CopyRow
import Derived.Laws.Cells
import Derived.Maps.AppendAt
set_option linter.unusedVariables false
set_option linter.unusedSimpArgs false
set_option linter.unusedSectionVars false
namespace Go.Pv
theorem oM {p:Prop}(h:p:=by omega):p:=h
theorem dD {p:Prop}(h:p:=by decide):p:=h
theorem sM {p:Prop}(h:p:=by simp):p:=h
theorem rF {p:Prop}(h:p:=by rfl):p:=h
theorem sA {p:Prop}(h:p:=by simp_all):p:=h
theorem iN {c:Prop}[Decidable c]{α:Sort _}{a b:α}(h:¬c):ite c a b=b:=if_neg h
theorem iP {c:Prop}[Decidable c]{α:Sort _}{a b:α}(h:c):ite c a b=a:=if_pos h
theorem An:True:=trivial
inductive PV where
 | bool (b:Bool)
 | int (k:IntKind) (n:Int)
 | str (s:ByteArray)
 | Gf
 | ro (cs:List PV) (off:Nat)
 | xp (n off:Nat)
 | A4
 | sl (size:Nat) (es:List (List PV))
 | TH (n size len:Nat)
 | fn (f:Fn) (first captured:List PV)
 | Mb
 | iface (t:TypeId) (p:PV)
 | Fz
 | agg (cs:List PV)
 | AE (vs:List PV)
 | X3
 | mp (n:Nat)
 | LR (n c len:Nat)
 | yp (n c off:Nat)
 | VF (t:TypeId) (f:Nat) (p:PV)
 | Su (p:PV)
 deriving Inhabited
structure Gh where
 M:Nat->Option Nat
 X:Nat->Option Nat
 Y:Nat->Nat->Option Nat
def Gh.Fix(g:Gh)(b o:Nat):Prop:=∀k,g.M b=some k->o<k
inductive BJ (g:Gh) (w:World):PV->Value->Prop
 | bool (b:Bool):BJ g w (.bool b) (.bool b)
 | int (k:IntKind) (n:Int):BJ g w (.int k n) (.int k n)
 | str (s:ByteArray):BJ g w (.str s) (.string s)
 | Gf:BJ g w .Gf (.pointer none)
 | ro (cs:List PV) (off b o:Nat) (vs:Nat->Value)
   (hc:∀j,j<cs.length->w.cell? ⟨b,o+j,none⟩=some (vs j)) (hf:∀j,j<cs.length->g.Fix b (o+j)) (h1:∀j,j<cs.length->(vs j).oneCell'=true)
   (hr:∀j (h:j<cs.length),BJ g w cs[j] (vs j)):BJ g w (.ro cs off) (.pointer (some ⟨b,o+off,none⟩))
 | xp (n off b:Nat) (h:g.X n=some b):BJ g w (.xp n off) (.pointer (some ⟨b,off,none⟩))
 | A4:BJ g w .A4 (.slice none 0 0)
 | slnil (size:Nat):BJ g w (.sl size []) (.slice none 0 0)
 | sl (size:Nat) (es:List (List PV)) (a:Addr) (cap:Nat) (vs:Nat->Nat->Value) (hle:es.length<=cap) (Di:cap<=maxLen)
   (Bq:∀i (h:i<es.length),es[i].length=size)
   (hc:∀i j,i<es.length->j<size->w.cell? (a.add (i * size+j))=some (vs i j))
   (hf:∀i j,i<es.length->j<size->g.Fix a.block (a.off+(i * size+j))) (h1:∀i j,i<es.length->j<size->(vs i j).oneCell'=true)
   (hr:∀i j (hi:i<es.length) (hj:j<es[i].length),BJ g w es[i][j] (vs i j)):BJ g w (.sl size es) (.slice (some a) es.length cap)
 | TH (n size len b cap:Nat) (cur:Array Value) (e:TypeId) (h:g.X n=some b) (hh:w.heap[b]?=some (.cells cur e (0,0))) (hs:cap * size=cur.size) (hle:len<=cap) (Di:cap<=maxLen):BJ g w (.TH n size len) (.slice (some ⟨b,0,none⟩) len cap)
 | fn (f:Fn) (first captured:List PV) (fv cv:List Value) (h1:first.length=fv.length) (h2:captured.length=cv.length)
   (hf:∀j (h:j<first.length) (h':j<fv.length),BJ g w first[j] fv[j]) (hc:∀j (h:j<captured.length) (h':j<cv.length),BJ g w captured[j] cv[j]) :
   BJ g w (.fn f first captured) (.func f fv.toArray cv.toArray)
 | Mb:BJ g w .Mb .nilFunc
 | iface (t:TypeId) (p:PV) (v:Value) (h:BJ g w p v):BJ g w (.iface t p) (.iface t v)
 | Fz:BJ g w .Fz .nilIface
 | agg (cs:List PV) (vs:List Value) (h1:cs.length=vs.length) (ho:∀v∈vs,v.oneCell'=true) (h:∀j (h:j<cs.length) (h':j<vs.length),BJ g w cs[j] vs[j]):BJ g w (.agg cs) (.agg vs.toArray)
 | AE (cs:List PV) (vs:List Value) (h1:cs.length=vs.length) (h:∀j (h:j<cs.length) (h':j<vs.length),BJ g w cs[j] vs[j]):BJ g w (.AE cs) (.tuple vs.toArray)
 | X3:BJ g w .X3 (.map none)
 | mp (n b:Nat) (h:g.X n=some b):BJ g w (.mp n) (.map (some b))
 | LR (n c len b cap:Nat) (cur:Array Value) (e:TypeId) (h:g.Y n c=some b) (hh:w.heap[b]?=some (.cells cur e (0,0))) (hs:cap=cur.size) (hle:len<=cap) (Di:cap<=maxLen):BJ g w (.LR n c len) (.slice (some ⟨b,0,none⟩) len cap)
 | yp (n c off b:Nat) (h:g.Y n c=some b):BJ g w (.yp n c off) (.pointer (some ⟨b,off,none⟩))
 | VF (t:TypeId) (f:Nat) (p:PV) (v:Value) (h:BJ g w p v):BJ g w (.VF t f p) (.iface t v)
 | Su (p:PV) (v:Value) (h1:v.oneCell'=true) (h:BJ g w p v):BJ g w (.Su p) v
def AG(g:Gh)(w:World)(ps:List PV)(vs:List Value):Prop:=ps.length=vs.length/\∀j (h:j<ps.length) (h':j<vs.length),BJ g w ps[j] vs[j]
theorem AG.nil{g:Gh}{w:World}:AG g w [] []:=⟨rfl,fun j h=>by simp at h⟩
theorem AG.cons{g:Gh}{w:World}{p:PV}{v:Value}{ps:List PV}{vs:List Value}(h:BJ g w p v)(hs:AG g w ps vs):AG g w (p::ps) (v::vs):=by
 refine ⟨by simp [hs.1],fun j hj Cu=>?_⟩
 cases j with
 | zero=>exact h
 | succ j=>exact hs.2 j (by simpa using hj) (by simpa using Cu)
theorem AG.Px{g:Gh}{w:World}{vs:List Value}(h:AG g w [] vs):vs=[]:=List.eq_nil_of_length_eq_zero h.1.symm
theorem AG.H9{g:Gh}{w:World}{p:PV}{ps:List PV}{vs:List Value}(h:AG g w (p::ps) vs):∃v fK,vs=v::fK/\BJ g w p v/\AG g w ps fK:=by
 cases vs with
 | nil=>exact absurd h.1 sM
 | cons v fK=>
  refine ⟨v,fK,rfl,h.2 0 sM sM,by simpa using h.1,fun j hj Cu=>?_⟩
  exact h.2 (j+1) (by simpa using hj) (by simpa using Cu)
structure C0 (g:Gh) (w:World) (g':Gh) (w':World):Prop where
 ext:∀n b,g.X n=some b->g'.X n=some b
 cell:∀b o v,w.cell? ⟨b,o,none⟩=some v->g.Fix b o->w'.cell? ⟨b,o,none⟩=some v/\g'.Fix b o
 len:∀ (b:Nat) (cur:Array Value) (e:TypeId),w.heap[b]?=some (Obj.cells cur e (0,0))->∃cur':Array Value,w'.heap[b]?=some (Obj.cells cur' e (0,0))/\cur'.size=cur.size
 row:∀n c b,g.Y n c=some b->g'.Y n c=some b
theorem C0.refl(g:Gh)(w:World):C0 g w g w:=⟨fun _ _ h=>h,fun _ _ _ h k=>⟨h,k⟩,fun _ cur _ h=>⟨cur,h,rfl⟩,fun _ _ _ h=>h⟩
theorem C0.trans{g g' pG:Gh}{w w' w'':World}(h:C0 g w g' w')(k:C0 g' w' pG w''):C0 g w pG w'':=
 ⟨fun n b e=>k.ext n b (h.ext n b e),fun b o v e f=>let ⟨e',f'⟩:=h.cell b o v e f; k.cell b o v e' f',fun b cur e hh=>let ⟨c1,h1,h2⟩:=h.len b cur e hh; let ⟨c2,h3,h4⟩:=k.len b c1 e h1; ⟨c2,h3,h4.trans h2⟩,fun n c b e=>k.row n c b (h.row n c b e)⟩
theorem HW{w:World}{a:Addr}{v:Value}(h:w.cell? a=some v):a.spot=none:=by
 unfold World.cell? at h
 split at h
 ·split at h
  ·cases h
  ·rename_i hs; simpa using hs
 ·cases h
theorem Mc(a:Addr)(n:Nat)(h:(a.add n).spot=none):a.add n=⟨a.block,a.off+n,none⟩:=by
 unfold Addr.add at h ⊢
 split
 ·rename_i hn
  subst hn
  cases a
  simp_all
 ·rfl
theorem Kf{w:World}{a:Addr}{n:Nat}{v:Value}(h:w.cell? (a.add n)=some v):a.add n=⟨a.block,a.off+n,none⟩:=Mc a n (HW h)
theorem C0.at_{g g':Gh}{w w':World}(h:C0 g w g' w'){a:Addr}{n:Nat}{v:Value}(hc:w.cell? (a.add n)=some v)(hf:g.Fix a.block (a.off+n)) :
  w'.cell? (a.add n)=some v/\g'.Fix a.block (a.off+n):=by
 have e:=Kf hc
 rw [e] at hc ⊢
 exact h.cell _ _ _ hc hf
theorem BJ.mono{g g':Gh}{w w':World}{p:PV}{v:Value}(hr:BJ g w p v)(h:C0 g w g' w'):BJ g' w' p v:=by
 induction hr with
 | bool b=>exact .bool b
 | int k n=>exact .int k n
 | str s=>exact .str s
 | Gf=>exact .Gf
 | ro cs off b o vs hc hf h1 hr ih=>exact .ro cs off b o vs (fun j hj=>(h.cell _ _ _ (hc j hj) (hf j hj)).1) (fun j hj=>(h.cell _ _ _ (hc j hj) (hf j hj)).2) h1 ih
 | xp n off b hx=>exact .xp n off b (h.ext _ _ hx)
 | A4=>exact .A4
 | slnil size=>exact .slnil size
 | sl size es a cap vs hle Di Bq hc hf h1 hr ih=>
  exact .sl size es a cap vs hle Di Bq (fun i j hi hj=>(h.at_ (hc i j hi hj) (hf i j hi hj)).1) (fun i j hi hj=>(h.at_ (hc i j hi hj) (hf i j hi hj)).2) h1 ih
 | TH n size len b cap cur e hx hh hs hle Di=>
  obtain ⟨cur',h1,h2⟩:=h.len _ _ _ hh
  exact .TH n size len b cap cur' e (h.ext _ _ hx) h1 (hs.trans h2.symm) hle Di
 | fn f first captured fv cv h1 h2 hf hc ihf ihc=>exact .fn f first captured fv cv h1 h2 ihf ihc
 | Mb=>exact .Mb
 | iface t p v hp ih=>exact .iface t p v ih
 | Fz=>exact .Fz
 | agg cs vs h1 ho hp ih=>exact .agg cs vs h1 ho ih
 | AE cs vs h1 hp ih=>exact .AE cs vs h1 ih
 | X3=>exact .X3
 | mp n b hx=>exact .mp n b (h.ext _ _ hx)
 | LR n c len b cap cur e hx hh hs hle Di=>
  obtain ⟨cur',h1,h2⟩:=h.len _ _ _ hh
  exact .LR n c len b cap cur' e (h.row _ _ _ hx) h1 (hs.trans h2.symm) hle Di
 | yp n c off b hx=>exact .yp n c off b (h.row _ _ _ hx)
 | VF t f p v hp ih=>exact .VF t f p v ih
 | Su p v h1 hp ih=>exact .Su p v h1 ih
theorem AG.mono{g g':Gh}{w w':World}{ps:List PV}{vs:List Value}(hr:AG g w ps vs)(h:C0 g w g' w'):AG g' w' ps vs:=
 ⟨hr.1,fun j hj Cu=>(hr.2 j hj Cu).mono h⟩
def PV.one:PV->Bool
 | .agg _=>false
 | .AE _=>false
 | _=>true
theorem BJ.one{g:Gh}{w:World}{p:PV}{v:Value}(h:BJ g w p v)(hp:p.one=true):v.oneCell'=true:=by
 cases h <;> first | rfl | assumption | cases hp
inductive MM where
 | s (es:List (ByteArray × PV))
 | i (es:List (Int × PV))
 | it (m:Nat)
 deriving Inhabited
inductive LV where
 | v (p:PV)
 | lp (i off:Nat)
 | uniq (e:TypeId) (size:Nat) (es:List (List PV))
 | full (size:Nat) (es:List (List PV))
 | Dx
 | mm (es:MM)
 | row (c:Nat) (ps:List Int)
 deriving Inhabited
def LV.Me:LV->Bool
 | .lp _ _=>false
 | _=>true
inductive UL where
 | t (i:Nat)
 | b (i off:Nat)
 | x (n off:Nat)
 deriving DecidableEq
inductive Own where
 | l (i:Nat)
 | x (n:Nat)
 | u (p:UL)
 deriving DecidableEq
def jU(e:TypeId):TypeId:=if e<1000000 then e else e - 1000000
def QM(e:TypeId)(k:Nat):Nat:=if e<1000000 then k else 0
theorem Sv{e:TypeId}(h:e<1000000):jU e=e:=iP h
theorem L1{e:TypeId}{k:Nat}(h:e<1000000):QM e k=k:=iP h
theorem pH{e:TypeId}{k:Nat}(h:¬e<1000000):QM e k=0:=iN h
def Row(g:Gh)(w:World)(size:Nat)(es:List (List PV))(cap:Nat)(cur:Array Value):Prop:=es.length<=cap/\cap<=maxLen/\(∀i (h:i<es.length),es[i].length=size)/\∀j (h:j<es.flatten.length),(cur.getD j undef).oneCell'=true/\BJ g w es.flatten[j] (cur.getD j undef)
def Ol(g:Gh)(w:World)(e:TypeId)(size:Nat)(es:List (List PV))(cap:Nat)(cur:Array Value)(v:Value):Prop:=(e<1000000->BJ g w (.sl size es) v)/\(¬e<1000000->Row g w size es cap cur)
structure LG where
 L:Nat->Option Nat
 U:UL->Option Nat
 O:Nat->Option Own
def Cq(g:Gh)(l:LG)(w:World)(p:UL):LV->Value->Prop
 | .v q,v=>BJ g w q v
 | .lp i off,v=>∃b,l.L i=some b/\v = .pointer (some ⟨b,off,none⟩)
 | .Dx,_=>True
 | .mm _,_=>False
 | .row _ _,_=>False
 | .full size es,v=>(v = .slice none 0 0/\es=[])∨∃a,v = .slice (some a) es.length es.length/\BJ g w (.sl size es) v
 | .uniq e size es,v=>((v = .slice none 0 0/\es=[])∨∃a,v = .slice (some a) es.length es.length/\BJ g w (.sl size es) v/\e<1000000) ∨
   ∃b cap cur,v = .slice (some ⟨b,0,none⟩) es.length cap/\l.U p=some b/\g.M b=some (QM e (es.length * size)) /\
   w.heap[b]?=some (.cells cur (jU e) (0,0))/\cur.size=cap * size/\Ol g w e size es cap cur v
structure S where
 tmps:List (Nat × LV)
 boxes:List (Nat × List LV)
 ext:List (Nat × List LV)
def lk{α:Type}:List (Nat × α)->Nat->Option α
 | [],_=>none
 | (k,v)::r,t=>if k=t then some v else lk r t
def put{α:Type}:List (Nat × α)->Nat->α->List (Nat × α)
 | [],t,v=>[(t,v)]
 | (k,u)::r,t,v=>if k=t then (k,v)::r else (k,u)::put r t v
theorem Lu{α:Type}(l:List (Nat × α))(t:Nat)(v:α):lk (put l t v) t=some v:=by
 induction l with
 | nil=>simp [put,lk]
 | cons x r ih=>
  obtain ⟨k,u⟩:=x
  by_cases h:k=t
  ·simp [put,lk,h]
  ·simp [put,lk,h,ih]
theorem Em{α:Type}(l:List (Nat × α))(t u:Nat)(v:α)(h:t≠u):lk (put l t v) u=lk l u:=by
 induction l with
 | nil=>simp [put,lk,h]
 | cons x r ih=>
  obtain ⟨k,y⟩:=x
  by_cases hk:k=t
  ·subst hk; simp [put,lk,h]
  ·by_cases hu:k=u
   ·subst hu; simp [put,lk,hk]
   ·simp [put,lk,hk,hu,ih]
theorem Be{α:Type}(l:List (Nat × α))(t u:Nat)(v:α):lk (put l t v) u=if t=u then some v else lk l u:=by
 split
 ·rename_i h; subst h; exact Lu l t v
 ·rename_i h; exact Em l t u v h
def DN{α:Type}:List (Nat × α)->Nat
 | []=>0
 | (k,_)::r=>max (k+1) (DN r)
theorem JG{α:Type}:∀ {e:List (Nat × α)} {x:Nat} {v:α},lk e x=some v->x<DN e
 | [],_,_,h=>by simp [lk] at h
 | (k,u)::r,x,v,h=>by
  simp only [lk] at h
  simp only [DN]
  split at h
  ·rename_i e0; subst e0; omega
  ·have:=JG h; omega
theorem FG{α:Type}(v:α):∀ (e:List (Nat × α)) (n:Nat),DN (put e n v)=max (DN e) (n+1)
 | [],n=>by simp [put,DN]
 | (k,u)::r,n=>by
  simp only [put]
  split
  ·rename_i e0; subst e0; simp only [DN]; omega
  ·simp only [DN,FG v r n]; omega
theorem Dr{α:Type}{e:List (Nat × α)}{n:Nat}{u v:α}(h:lk e n=some u):DN (put e n v)=DN e:=by
 have:=JG h
 rw [FG]
 omega
theorem ID{α:Type}(size:Nat):∀ (es:List (List α)),(∀i (h:i<es.length),es[i].length=size)->∀i j,i<es.length->j<size->es.flatten[i * size+j]?=(es[i]?).bind (·[j]?)
 | [],_,i,_,hi,_=>by simp at hi
 | e::es,hs,i,j,hi,hj=>by
  have he:e.length=size:=hs 0 sM
  cases i with
  | zero=>simp [List.getElem?_append,he,hj]
  | succ i=>
   have ih:=ID size es (fun i h=>hs (i+1) (by simpa using h)) i j (by simpa using hi) hj
   have e1:(i+1) * size+j=e.length+(i * size+j):=by rw [he,Nat.add_mul]; omega
   rw [List.flatten_cons,e1,List.getElem?_append_right oM]
   simpa using ih
theorem BR{α:Type}(size:Nat):∀ (es:List (List α)),(∀i (h:i<es.length),es[i].length=size)->es.flatten.length=es.length * size
 | [],_=>by simp
 | e::es,hs=>by
  have he:e.length=size:=hs 0 sM
  have ih:=BR size es (fun i h=>hs (i+1) (by simpa using h))
  simp [he,ih,Nat.add_mul,Nat.add_comm]
theorem OG{k n size:Nat}(h:k<n * size):k / size<n/\k % size<size/\(k / size) * size+k % size=k:=by
 have hs:0<size:=by
  rcases Nat.eq_zero_or_pos size with h0 | h0
  ·subst h0; simp at h
  ·exact h0
 exact ⟨(Nat.div_lt_iff_lt_mul hs).2 h,Nat.mod_lt _ hs,by rw [Nat.mul_comm]; exact Nat.div_add_mod k size⟩
theorem BJ.flat{g:Gh}{w:World}{size:Nat}{es:List (List PV)}{a:Addr}{n cap:Nat}(h:BJ g w (.sl size es) (.slice (some a) n cap)) :
  n=es.length/\es.length<=cap/\cap<=maxLen/\(∀i (h:i<es.length),es[i].length=size)/\∃xs,AG g w es.flatten xs/\xs.length=es.length * size /\
   ∀j u,xs[j]?=some u->w.cell? (a.add j)=some u/\g.Fix a.block (a.off+j)/\u.oneCell'=true:=by
 cases h with
 | sl _ _ _ _ vs hle Di Bq hc hf h1 hr=>
  have WJ:=BR size es Bq
  refine ⟨rfl,hle,Di,Bq,(List.range (es.length * size)).map (fun k=>vs (k / size) (k % size)),⟨by simp [WJ],fun k hk QN=>?_⟩,by simp,fun k u hu=>?_⟩
  ·have hk1:k<es.length * size:=by rw [<-WJ]; exact hk
   obtain ⟨d1,d2,d3⟩:=OG hk1
   have hg:=ID size es Bq (k / size) (k % size) d1 d2
   rw [d3,List.getElem?_eq_getElem hk,List.getElem?_eq_getElem d1] at hg
   have hj:k % size<es[k / size].length:=by rw [Bq _ d1]; exact d2
   simp only [Option.bind_some,List.getElem?_eq_getElem hj] at hg
   injection hg with hg
   rw [hg]
   simpa using hr (k / size) (k % size) d1 hj
  ·have hk1:k<es.length * size:=by
    have:=(List.getElem?_eq_some_iff.1 hu).1
    simpa using this
   obtain ⟨d1,d2,d3⟩:=OG hk1
   have e:u=vs (k / size) (k % size):=by simpa [List.getElem?_range hk1] using hu.symm
   subst e
   have:=hc (k / size) (k % size) d1 d2
   rw [d3] at this
   have jV:=hf (k / size) (k % size) d1 d2
   rw [d3] at jV
   exact ⟨this,jV,h1 _ _ d1 d2⟩
theorem BJ.of_flat{g:Gh}{w:World}{size:Nat}{es:List (List PV)}{a:Addr}{cap:Nat}{xs:List Value}(hle:es.length<=cap)(Di:cap<=maxLen)
  (Bq:∀i (h:i<es.length),es[i].length=size) (hr:AG g w es.flatten xs) (hc:∀j u,xs[j]?=some u->w.cell? (a.add j)=some u/\g.Fix a.block (a.off+j)/\u.oneCell'=true) :
  BJ g w (.sl size es) (.slice (some a) es.length cap):=by
 have WJ:=BR size es Bq
 have key:∀i j,i<es.length->j<size->i * size+j<xs.length:=fun i j hi hj=>by
  rw [<-hr.1,WJ]
  have:=Nat.mul_le_mul_right size (show i+1<=es.length from hi)
  rw [Nat.add_mul] at this
  omega
 have at_:∀i j (hi:i<es.length) (hj:j<size),xs[i * size+j]?=some (xs.getD (i * size+j) undef):=fun i j hi hj=>by
  have:=key i j hi hj
  simp [List.getD,List.getElem?_eq_getElem this]
 refine .sl size es a cap (fun i j=>xs.getD (i * size+j) undef) hle Di Bq (fun i j hi hj=>(hc _ _ (at_ i j hi hj)).1) (fun i j hi hj=>(hc _ _ (at_ i j hi hj)).2.1) (fun i j hi hj=>(hc _ _ (at_ i j hi hj)).2.2) fun i j hi hj=>?_
 have Cu:j<size:=by rw [<-Bq i hi]; exact hj
 have hk:=key i j hi Cu
 have hk2:i * size+j<es.flatten.length:=by rw [hr.1]; exact hk
 have hg:=ID size es Bq i j hi Cu
 rw [List.getElem?_eq_getElem hk2,List.getElem?_eq_getElem hi] at hg
 simp only [Option.bind_some,List.getElem?_eq_getElem hj] at hg
 injection hg with hg
 have:=hr.2 _ hk2 hk
 rw [hg] at this
 simpa [List.getD,List.getElem?_eq_getElem hk] using this
theorem Row.mono{g g':Gh}{w w':World}{size:Nat}{es:List (List PV)}{cap:Nat}{cur:Array Value}(h:Row g w size es cap cur)(hm:C0 g w g' w'):Row g' w' size es cap cur:=
 ⟨h.1,h.2.1,h.2.2.1,fun j hj=>⟨(h.2.2.2 j hj).1,(h.2.2.2 j hj).2.mono hm⟩⟩
theorem Ol.mono{g g':Gh}{w w':World}{e:TypeId}{size:Nat}{es:List (List PV)}{cap:Nat}{cur:Array Value}{v:Value}(h:Ol g w e size es cap cur v)(hm:C0 g w g' w'):Ol g' w' e size es cap cur v:=
 ⟨fun he=>(h.1 he).mono hm,fun he=>(h.2 he).mono hm⟩
theorem Ol.of{g:Gh}{w:World}{e:TypeId}{size:Nat}{es:List (List PV)}{cap:Nat}{cur:Array Value}{v:Value}(he:e<1000000)(h:BJ g w (.sl size es) v):Ol g w e size es cap cur v:=⟨fun _=>h,fun hn=>absurd he hn⟩
theorem QO(b j:Nat):(⟨b,0,none⟩:Addr).add j=⟨b,j,none⟩:=by unfold Addr.add; split <;> simp_all
theorem Ol.flat{g:Gh}{w:World}{e e':TypeId}{size:Nat}{es:List (List PV)}{b cap:Nat}{cur:Array Value}(h:Ol g w e size es cap cur (.slice (some ⟨b,0,none⟩) es.length cap))(hh:w.heap[b]?=some (.cells cur e' (0,0)))(CS:cur.size=cap * size) :
  es.length<=cap/\cap<=maxLen/\(∀i (h:i<es.length),es[i].length=size)/\∃xs,AG g w es.flatten xs/\xs.length=es.length * size/\cur.toList.take (es.length * size)=xs /\
   ∀j u,xs[j]?=some u->w.cell? ⟨b,j,none⟩=some u/\u.oneCell'=true:=by
 by_cases he:e<1000000
 ·obtain ⟨-,hle,Di,J8,xs,hxr,hxl,hxc⟩:=(h.1 he).flat
  refine ⟨hle,Di,J8,xs,hxr,hxl,?_,fun j u hu=>?_⟩
  ·apply List.ext_getElem?
   intro j
   rw [List.getElem?_take]
   split
   ·rename_i hj
    have Cu:j<xs.length:=by omega
    have hc:=(hxc j _ (List.getElem?_eq_getElem Cu)).1
    rw [QO] at hc
    simp only [World.cell?,hh] at hc
    rw [List.getElem?_eq_getElem Cu]
    simpa using hc
   ·rename_i hj
    exact (List.getElem?_eq_none oM).symm
  ·have:=hxc j u hu
   rw [QO] at this
   exact ⟨this.1,this.2.2⟩
 ·obtain ⟨hle,Di,J8,hr⟩:=h.2 he
  have WJ:=BR size es J8
  have jW:es.length * size<=cur.size:=by rw [CS]; exact Nat.mul_le_mul_right _ hle
  have fL:∀j,j<es.length * size->cur.toList[j]?=some (cur.getD j undef):=fun j hj=>by
   have:j<cur.size:=by omega
   simp [this]
  refine ⟨hle,Di,J8,cur.toList.take (es.length * size),⟨by simp [WJ]; omega,fun j hj Cu=>?_⟩,by simp; omega,rfl,fun j u hu=>?_⟩
  ·have Ib:j<es.length * size:=by rw [<-WJ]; exact hj
   have h1:=(hr j hj).2
   have h2:=fL j Ib
   have h3:(cur.toList.take (es.length * size))[j]?=some (cur.getD j undef):=by rw [List.getElem?_take,iP Ib,h2]
   rw [List.getElem?_eq_getElem Cu] at h3
   injection h3 with h3
   rw [h3]; exact h1
  ·have hj:j<es.length * size:=by
    have:=(List.getElem?_eq_some_iff.1 hu).1
    simp at this; omega
   rw [List.getElem?_take,iP hj,fL j hj] at hu
   injection hu with hu
   subst hu
   have:j<cur.size:=by omega
   exact ⟨by simp [World.cell?,hh,this],(hr j (by rw [WJ]; exact hj)).1⟩
theorem pJ{e:TypeId}{es:List (List PV)}(h:e<1000000):(es,decide (e<1000000))=(es,true):=by rw [decide_eq_true h]
structure Cx where
 n:Nat
 ds:List Deferred
 g0:Gh
 w0:World
 VG:Nat->Prop
def GLB:List (Nat × List PV):=[(0,[.str ⟨#[97,110,100]⟩,.str ⟨#[97,115,115,117,109,101]⟩,.str ⟨#[98,111,111,108]⟩,.str ⟨#[98,111,117,110,100]⟩,.str ⟨#[99,97,115,101]⟩,.str ⟨#[99,101,108,108]⟩,.str ⟨#[99,108,97,115,115]⟩,.str ⟨#[100,97,116,97]⟩,.str ⟨#[100,101,102]⟩,.str ⟨#[100,105,118]⟩,.str ⟨#[101,108,115,101]⟩,.str ⟨#[101,110,100]⟩,.str ⟨#[102,97,108,115,101]⟩,.str ⟨#[102,111,114,97,108,108]⟩,.str ⟨#[102,117,110]⟩,.str ⟨#[103,101,116]⟩,.str ⟨#[105,102]⟩,.str ⟨#[105,110]⟩,.str ⟨#[105,110,115,116]⟩,.str ⟨#[105,110,116]⟩,.str ⟨#[105,110,118,97,114,105,97,110,116]⟩,.str ⟨#[108,101,116]⟩,.str ⟨#[109,97,116,99,104]⟩,.str ⟨#[109,101,97,115,117,114,101]⟩,.str ⟨#[109,101,116,114,105,99]⟩,.str ⟨#[109,111,100]⟩,.str ⟨#[109,117]⟩,.str ⟨#[110,101,119]⟩,.str ⟨#[110,111,116]⟩,.str ⟨#[111,102]⟩,.str ⟨#[111,114]⟩,.str ⟨#[113,117,97,108]⟩,.str ⟨#[114,101,102,108,101,99,116]⟩,.str ⟨#[115,101,116]⟩,.str ⟨#[116,104,101,110]⟩,.str ⟨#[116,114,117,101]⟩,.str ⟨#[117,115,101]⟩,.str ⟨#[118]⟩,.str ⟨#[118,97,108]⟩,.str ⟨#[116,97,103]⟩,.str ⟨#[119,104,101,114,101]⟩,.str ⟨#[119,105,116,104]⟩])]
def X4(g:Gh)(w:World):Prop:=∀k cs,lk GLB k=some cs->BJ g w (.ro cs 0) (.pointer (some ⟨k,0,none⟩))
theorem X4.mono{g g':Gh}{w w':World}(h:X4 g w)(hm:C0 g w g' w'):X4 g' w':=fun k cs e=>(h k cs e).mono hm
structure fM (cx:Cx) (g:Gh) (w:World):Prop where
 mono:C0 cx.g0 cx.w0 g w
 size:cx.w0.heap.size<=w.heap.size
 frame:∀b,b<cx.w0.heap.size->¬cx.VG b->w.heap[b]?=cx.w0.heap[b]?/\g.M b=cx.g0.M b
 os:w.os=cx.w0.os
 tape:w.tape=cx.w0.tape
 output:w.output=cx.w0.output
 JH:X4 g w
def Py(g:Gh)(l:LG)(w:World)(f:Nat->UL)(b:Nat)(cs:List LV):Prop:=
 g.M b=some 0/\∃cur e,w.heap[b]?=some (.cells cur e (0,0))/\cs.length<=cur.size/\∀j (h:j<cs.length),cs[j].Me=true/\(cur.getD j undef).oneCell'=true/\Cq g l w (f j) cs[j] (cur.getD j undef)
def GX{κ:Type}(kv:κ->Value)(g:Gh)(w:World)(es:List (κ × PV))(arr:Array MapEntry)(clock:Nat):Prop:=
 MapKept.Stamped arr clock/\arr.size=es.length/\∀j (h:j<es.length) (h':j<arr.size),arr[j].key=kv es[j].1/\BJ g w es[j].2 arr[j].val
theorem GX.mono{κ:Type}{kv:κ->Value}{g g':Gh}{w w':World}{es:List (κ × PV)}{arr:Array MapEntry}{clock:Nat}(h:GX kv g w es arr clock)(hm:C0 g w g' w'):GX kv g' w' es arr clock:=
 ⟨h.1,h.2.1,fun j hj Cu=>⟨(h.2.2 j hj Cu).1,(h.2.2 j hj Cu).2.mono hm⟩⟩
def Sw(g:Gh)(w:World)(b:Nat):MM->Prop
 | .s es=>g.M b=some 0/\∃arr clock,w.heap[b]?=some (.map arr clock)/\GX Value.string g w es arr clock
 | .i es=>g.M b=some 0/\∃arr clock,w.heap[b]?=some (.map arr clock)/\GX (Value.int .i64) g w es arr clock
 | .it m=>g.M b=some 0/\∃bm since last,g.X m=some bm/\w.heap[b]?=some (.mapIter (some bm) since #[] last)
theorem Sw.BN{g g':Gh}{w w':World}{b:Nat}{es:MM}(h:Sw g w b es)(hm:C0 g w g' w')(hM:g'.M b=g.M b)(hh:w'.heap[b]?=w.heap[b]?):Sw g' w' b es:=by
 cases es with
 | s es=>obtain ⟨h1,arr,clock,h2,h3⟩:=h; exact ⟨hM.trans h1,arr,clock,hh.trans h2,h3.mono hm⟩
 | i es=>obtain ⟨h1,arr,clock,h2,h3⟩:=h; exact ⟨hM.trans h1,arr,clock,hh.trans h2,h3.mono hm⟩
 | it m=>obtain ⟨h1,bm,since,last,h2,h3⟩:=h; exact ⟨hM.trans h1,bm,since,last,hm.ext _ _ h2,hh.trans h3⟩
def QS:List LV->MM->Prop
 | [.mm es],es'=>es=es'
 | _,_=>False
def A03(g:Gh)(w:World)(n b c:Nat)(ps:List Int):Prop:=(∀c',c<c'->g.Y n c'=none)/\g.M b=some 0/\∃cur e,w.heap[b]?=some (.cells cur e (0,0))/\ps.length<=cur.size/\∀j (h:j<ps.length),(cur.getD j undef).oneCell'=true/\BJ g w (.int .i64 ps[j]) (cur.getD j undef)
def VH(g:Gh)(w:World)(f:Nat->UL)(b:Nat)(cs:List LV):Prop:=(∃es,QS cs es/\Sw g w b es)∨∃n c ps,f=UL.x n/\cs=[.row c ps]/\A03 g w n b c ps
theorem VH.BN{g g':Gh}{w w':World}{f:Nat->UL}{b:Nat}{cs:List LV}(h:VH g w f b cs)(hm:C0 g w g' w')(hY:∀n c,f=UL.x n->g.Y n c=none->g'.Y n c=none)(hM:g'.M b=g.M b)(hh:w'.heap[b]?=w.heap[b]?):VH g' w' f b cs:=by
 rcases h with ⟨es,h1,h2⟩ | ⟨n,c,ps,h1,h2,h3,h4,cur,e,h5,h6,h7⟩
 ·exact .inl ⟨es,h1,h2.BN hm hM hh⟩
 ·exact .inr ⟨n,c,ps,h1,h2,fun c' hc=>hY _ _ h1 (h3 c' hc),hM.trans h4,cur,e,hh.trans h5,h6,fun j hj=>⟨(h7 j hj).1,(h7 j hj).2.mono hm⟩⟩
def XR(g:Gh)(x:Nat)(cs:List LV)(b:Nat):Prop:=match cs with
 | [.row c _]=>g.Y x c=some b
 | _=>g.X x=some b
theorem XR.mono{g g':Gh}{w w':World}{x b:Nat}{cs:List LV}(h:XR g x cs b)(hm:C0 g w g' w'):XR g' x cs b:=by
 unfold XR at *
 split
 ·exact hm.row _ _ _ h
 ·rename_i hn
  split at h
  ·exact absurd rfl (hn _ _)
  ·exact hm.ext _ _ h
def Sx(cs:List LV):Prop:=(∀es,¬QS cs es)/\∀c ps,cs≠[.row c ps]
theorem VH.plain{g:Gh}{w:World}{f:Nat->UL}{b:Nat}{cs:List LV}(h:VH g w f b cs)(hp:Sx cs):False:=by
 rcases h with ⟨es,h1,-⟩ | ⟨n,c,ps,-,h2,-⟩
 ·exact hp.1 es h1
 ·exact hp.2 c ps h2
theorem XR.plain{g:Gh}{x b:Nat}{cs:List LV}(h:XR g x cs b)(hp:∀c ps,cs≠[.row c ps]):g.X x=some b:=by
 unfold XR at h
 split at h
 ·exact absurd rfl (hp _ _)
 ·exact h
theorem XR.of{g:Gh}{x b:Nat}{cs:List LV}(h:g.X x=some b)(hp:∀c ps,cs≠[.row c ps]):XR g x cs b:=by
 unfold XR
 split
 ·exact absurd rfl (hp _ _)
 ·exact h
def VI(g:Gh)(l:LG)(w:World)(f:Nat->UL)(b:Nat)(cs:List LV):Prop:=Py g l w f b cs∨VH g w f b cs
theorem Py.TI{g:Gh}{l:LG}{w:World}{f:Nat->UL}{b:Nat}{cs:List LV}(h:Py g l w f b cs):∀c ps,cs≠[.row c ps]:=by
 rintro c ps rfl
 obtain ⟨-,cur,e,-,-,h6⟩:=h
 exact (h6 0 sM).2.2.elim
theorem A04{g:Gh}{l:LG}{w:World}{x b:Nat}{cs:List LV}(h1:g.X x=some b)(h2:l.O b=some (.x x))(h:Py g l w (.x x) b cs):∃b,XR g x cs b/\l.O b=some (.x x)/\VI g l w (.x x) b cs:=
 ⟨b,XR.of h1 h.TI,h2,.inl h⟩
structure Bb (cx:Cx) (s:S) (g:Gh) (l:LG) (a:Act) (w:World):Prop where
 AV:fM cx g w
 size:a.tmps.size=cx.n
 defers:a.defers=cx.ds
 tm:∀t lv,lk s.tmps t=some lv->Cq g l w (.t t) lv (a.tmps.getD t undef)
 bx:∀i cs,lk s.boxes i=some cs->∃b,l.L i=some b/\l.O b=some (.l i)/\Py g l w (.b i) b cs
 ex:∀x cs,lk s.ext x=some cs->∃b,XR g x cs b/\l.O b=some (.x x)/\VI g l w (.x x) b cs
 own:∀b o,l.O b=some o->b<w.heap.size/\(cx.w0.heap.size<=b∨cx.VG b)
 uo:∀p b,l.U p=some b->l.O b=some (.u p)
 fresh:(∀b,w.heap.size<=b->g.M b=none)/\(∀n,DN s.ext<=n->g.X n=none)/\∀n c,DN s.ext<=n->g.Y n c=none
 Gg:∀n b,g.X n=some b->b<w.heap.size
def WL:LV->LV->Prop:=fun t s=>t=s∨match t,s with
 | .v (.sl z es),.uniq e z' es'=>z=z'/\(es,decide (e<1000000))=(es',true)
 | .v (.sl z es),.full z' es'=>z=z'/\es=es'
 | .uniq _ _ es,.v .A4=>es=[]
 | .full _ es,.v .A4=>es=[]
 | .v (.sl _ es),.v .A4=>es=[]
 | .v q,.v (.Su p)=>q=p
 | .v (.Su p),.v q=>p=q/\q.one=true
 | .uniq e z es,.full z' es'=>z=z'/\(es,decide (e<1000000))=(es',true)
 | .Dx,.mm _=>False
 | .Dx,.row _ _=>False
 | .Dx,_=>True
 | _,_=>False
def F7:List LV->List LV->Prop
 | [],[]=>True
 | t::ts,s::ss=>WL t s/\F7 ts ss
 | _,_=>False
def eI:List (Nat × LV)->List (Nat × LV)->Prop
 | [],_=>True
 | (k,v)::r,s=>(match lk s k with | some u=>WL v u | none=>False)/\eI r s
def eJ:List (Nat × List LV)->List (Nat × List LV)->Prop
 | [],_=>True
 | (k,v)::r,s=>(match lk s k with | some u=>F7 v u | none=>False)/\eJ r s
theorem WL.refl(v:LV):WL v v := .inl rfl
theorem F7.refl:∀l:List LV,F7 l l
 | []=>trivial
 | v::r=>⟨WL.refl v,F7.refl r⟩
theorem WL.rep{g:Gh}{l:LG}{w:World}{p:UL}{t s:LV}{v:Value}(h:WL t s)(hr:Cq g l w p s v):Cq g l w p t v:=by
 rcases h with rfl | h
 ·exact hr
 ·split at h
  ·obtain ⟨rfl,h⟩:=h
   injection h with h1 h2
   subst h1
   rcases hr with (⟨rfl,rfl⟩ | ⟨a,-,hr,-⟩) | ⟨b,cap,cur,-,-,-,-,-,hr⟩
   ·exact .slnil _
   ·exact hr
   ·exact hr.1 (of_decide_eq_true h2)
  ·obtain ⟨rfl,rfl⟩:=h
   rcases hr with ⟨rfl,rfl⟩ | ⟨a,-,hr⟩
   ·exact .slnil _
   ·exact hr
  ·subst h; cases hr; exact .inl (.inl ⟨rfl,rfl⟩)
  ·subst h; cases hr; exact .inl ⟨rfl,rfl⟩
  ·subst h; cases hr; exact .slnil _
  ·subst h; cases hr with | Su _ _ h1 h=>exact h
  ·obtain ⟨rfl,h1⟩:=h; exact .Su _ _ (BJ.one hr h1) hr
  ·obtain ⟨rfl,h⟩:=h
   injection h with h1 h2
   subst h1
   rcases hr with hr | ⟨a,k1,k2⟩
   ·exact .inl (.inl hr)
   ·exact .inl (.inr ⟨a,k1,k2,of_decide_eq_true h2⟩)
  ·exact h.elim
  ·exact h.elim
  ·trivial
  ·exact h.elim
theorem WL.Dx{x:LV}(h:∀es,x ≠ .mm es)(h2:∀c ps,x ≠ .row c ps):WL .Dx x:=by
 cases x <;> first | exact .inr trivial | exact absurd rfl (h _) | exact absurd rfl (h2 _ _)
theorem WL.Sz{t s:LV}(h:WL t s)(hs:(∃c ps,t = .row c ps)∨∃c ps,s = .row c ps):t=s:=by
 rcases h with rfl | h
 ·rfl
 ·rcases hs with ⟨c,ps,rfl⟩ | ⟨c,ps,rfl⟩
  ·cases s <;> first | exact h.elim | (rename_i p; cases p <;> exact h.elim)
  ·cases t <;> first | exact h.elim | (rename_i p; cases p <;> exact h.elim)
theorem WL.Me{t s:LV}(h:WL t s)(hs:s.Me=true):t.Me=true:=by
 rcases h with rfl | h
 ·exact hs
 ·split at h <;> first | rfl | exact h.elim
theorem F7.length:∀ {t s:List LV},F7 t s->t.length=s.length
 | [],[],_=>rfl
 | _::_,_::_,h=>by simp [F7.length h.2]
 | [],_::_,h=>h.elim
 | _::_,[],h=>h.elim
theorem F7.at_:∀ {t s:List LV},F7 t s->∀ (j:Nat) (h:j<t.length) (h':j<s.length),WL t[j] s[j]
 | [],[],_,j,h,_=>absurd h sM
 | _::_,_::_,hh,0,_,_=>hh.1
 | _::_,_::_,hh,j+1,h,h'=>F7.at_ hh.2 j (by simpa using h) (by simpa using h')
 | [],_::_,h,_,_,_=>h.elim
 | _::_,[],h,_,_,_=>h.elim
theorem eI.at_{t s:List (Nat × LV)}(h:eI t s){k:Nat}{v:LV}(hk:lk t k=some v):∃u,lk s k=some u/\WL v u:=by
 induction t with
 | nil=>simp [lk] at hk
 | cons x r ih=>
  obtain ⟨k',v'⟩:=x
  simp only [eI] at h
  simp only [lk] at hk
  split at hk
  ·rename_i e
   subst e
   injection hk with hk
   subst hk
   have h1:=h.1
   split at h1
   ·rename_i u hu; exact ⟨u,hu,h1⟩
   ·exact h1.elim
  ·exact ih h.2 hk
theorem eJ.at_{t s:List (Nat × List LV)}(h:eJ t s){k:Nat}{v:List LV}(hk:lk t k=some v):∃u,lk s k=some u/\F7 v u:=by
 induction t with
 | nil=>simp [lk] at hk
 | cons x r ih=>
  obtain ⟨k',v'⟩:=x
  simp only [eJ] at h
  simp only [lk] at hk
  split at hk
  ·rename_i e
   subst e
   injection hk with hk
   subst hk
   have h1:=h.1
   split at h1
   ·rename_i u hu; exact ⟨u,hu,h1⟩
   ·exact h1.elim
  ·exact ih h.2 hk
theorem Py.le{g:Gh}{l:LG}{w:World}{f:Nat->UL}{b:Nat}{t s:List LV}(h:F7 t s)(hb:Py g l w f b s):Py g l w f b t:=by
 obtain ⟨hm,cur,e,hh,hs,hr⟩:=hb
 exact ⟨hm,cur,e,hh,by rw [h.length]; exact hs,fun j hj=>⟨(h.at_ j hj (by rw [<-h.length]; exact hj)).Me (hr j (by rw [<-h.length]; exact hj)).1,(hr j (by rw [<-h.length]; exact hj)).2.1,(h.at_ j hj (by rw [<-h.length]; exact hj)).rep (hr j (by rw [<-h.length]; exact hj)).2.2⟩⟩
theorem QS.inv{s:List LV}{es:MM}(h:QS s es):s=[.mm es]:=by
 unfold QS at h
 split at h
 ·subst h; rfl
 ·exact h.elim
theorem F7.Pz{t:List LV}{x:LV}(h:F7 t [x]):∃t0,t=[t0]/\WL t0 x:=by
 cases t with
 | nil=>exact h.elim
 | cons t0 r=>
  cases r with
  | nil=>exact ⟨t0,rfl,h.1⟩
  | cons _ _=>exact h.2.elim
theorem QS.le{t s:List LV}{es:MM}(h:F7 t s)(hs:QS s es):QS t es:=by
 have:=hs.inv
 subst this
 obtain ⟨t0,rfl,h0⟩:=h.Pz
 rcases h0 with rfl | h0
 ·rfl
 ·cases t0 <;> first | exact h0.elim | (rename_i p; cases p <;> exact h0.elim)
theorem VI.le{g:Gh}{l:LG}{w:World}{f:Nat->UL}{b:Nat}{t s:List LV}(h:F7 t s)(hb:VI g l w f b s):VI g l w f b t:=by
 rcases hb with hb | ⟨es,h1,h2⟩ | ⟨n,c,ps,h1,rfl,h2⟩
 ·exact .inl (hb.le h)
 ·exact .inr (.inl ⟨es,h1.le h,h2⟩)
 ·obtain ⟨t0,rfl,h0⟩:=h.Pz
  have:=h0.Sz (.inr ⟨_,_,rfl⟩)
  subst this
  exact .inr (.inr ⟨n,c,ps,h1,rfl,h2⟩)
theorem XR.le{g:Gh}{x b:Nat}{t s:List LV}(h:F7 t s)(hx:XR g x s b):XR g x t b:=by
 unfold XR at *
 split at hx
 ·obtain ⟨t0,rfl,h0⟩:=h.Pz
  have:=h0.Sz (.inr ⟨_,_,rfl⟩)
  subst this
  exact hx
 ·rename_i hn
  split
  ·rename_i c ps
   have hl:=h.length
   match s,hl,h,hn with
   | [s0],_,h,hn=>
    have:=h.1.Sz (.inl ⟨_,_,rfl⟩)
    subst this
    exact absurd rfl (hn _ _)
  ·exact hx
inductive A5 where
 | normal
 | exit (id:Nat)
 | ret
 | panic (p:PV)
def ER(g:Gh)(w:World):A5->Exit->Prop
 | .normal,.normal=>True
 | .exit i,.exit j=>i=j
 | .ret,.ret=>True
 | .panic p,.panic ch=>∃v,ch=[{ v,recovered:=false }]/\BJ g w p v
 | _,_=>False
def post(cx:Cx)(Q:A5->S->Prop):Exit->Act->World->Prop:=fun e a w=>∃pe s g l,Q pe s/\ER g w pe e/\Bb cx s g l a w
def PW(P:Program)(cx:Cx)(c:Code)(s:S)(Q:A5->S->Prop):Prop:=∀g l a w,Bb cx s g l a w->c.wp P (post cx Q) a w
section
variable {P:Program} {cx:Cx} {s:S} {Q:A5->S->Prop}
theorem PW.mono{c:Code}{Q':A5->S->Prop}(h:PW P cx c s Q)(hq:∀e s,Q e s->Q' e s):PW P cx c s Q':=fun g l a w hs=>
 wp_mono (h g l a w hs) fun _ _ _ ⟨pe,s',g',l',q,er,sm⟩=>⟨pe,s',g',l',hq _ _ q,er,sm⟩
def Ic(K:S->Prop)(Q:A5->S->Prop):A5->S->Prop
 | .normal,s=>K s
 | e,s=>Q e s
def Mf(id:Nat)(Q:A5->S->Prop):A5->S->Prop
 | .exit QT,s=>if QT=id then Q .normal s else Q (.exit QT) s
 | e,s=>Q e s
theorem PA(h:Q .normal s):PW P cx .skip s Q:=fun g l _ _ hs=>wp_skip ⟨.normal,s,g,l,h,trivial,hs⟩
theorem SA(h:Q .ret s):PW P cx .ret s Q:=fun g l _ _ hs=>wp_ret ⟨.ret,s,g,l,h,trivial,hs⟩
theorem PB{id:Nat}(h:Q (.exit id) s):PW P cx (.exit id) s Q:=fun g l _ _ hs=>wp_exit ⟨.exit id,s,g,l,h,rfl,hs⟩
theorem HX{x y:Code}(h:PW P cx x s (Ic (fun s'=>PW P cx y s' Q) Q)):PW P cx (.seq x y) s Q:=fun g l a w hs=>by
 refine wp_seq (wp_mono (h g l a w hs) ?_)
 rintro e a' w' ⟨pe,s',g',l',q,er,sm⟩
 cases pe <;> cases e <;> first | exact er.elim | skip
 ·exact q g' l' a' w' sm
 ·exact ⟨_,s',g',l',q,er,sm⟩
 ·exact ⟨_,s',g',l',q,er,sm⟩
 ·exact ⟨_,s',g',l',q,er,sm⟩
theorem Mg{id:Nat}{c:Code}(h:PW P cx c s (Mf id Q)):PW P cx (.block id c) s Q:=fun g l a w hs=>by
 refine wp_block (wp_mono (h g l a w hs) ?_)
 rintro e a' w' ⟨pe,s',g',l',q,er,sm⟩
 cases pe <;> cases e <;> first | exact er.elim | skip
 ·exact ⟨.normal,s',g',l',q,er,sm⟩
 ·rename_i i j
  have er':i=j:=er
  subst er'
  simp only [Exit.inBlock]
  simp only [Mf] at q
  split
  ·rename_i hi; rw [iP hi] at q; exact ⟨.normal,s',g',l',q,trivial,sm⟩
  ·rename_i hi; rw [iN hi] at q; exact ⟨.exit i,s',g',l',q,rfl,sm⟩
 ·exact ⟨_,s',g',l',q,er,sm⟩
 ·exact ⟨_,s',g',l',q,er,sm⟩
theorem BJ.X5{g:Gh}{w:World}{b:Bool}{v:Value}(h:BJ g w (.bool b) v):v = .bool b:=by cases h; rfl
theorem Kg{t:Tmp}{b:Bool}{x y:Code}(hc:lk s.tmps t=some (.v (.bool b)))(ht:b=true->PW P cx x s Q)(hf:b=false->PW P cx y s Q) :
  PW P cx (.cond (.tmp t) x y) s Q:=fun g l a w hs=>by
 have hv:a.eval (.tmp t) = .bool b:=BJ.X5 (hs.tm t _ hc)
 exact wp_cond_split hv (fun e=>ht e g l a w hs) (fun e=>hf e g l a w hs)
end
open Go.RowKit
theorem Cq.BN{g g':Gh}{l l':LG}{w w':World}{p:UL}{lv:LV}{v:Value}(hr:Cq g l w p lv v)(hm:C0 g w g' w')
  (hL:∀i off,lv = .lp i off->l'.L i=l.L i) (hU:∀b,l.U p=some b->l'.U p=some b/\g'.M b=g.M b/\w'.heap[b]?=w.heap[b]?):Cq g' l' w' p lv v:=by
 cases lv with
 | v q=>exact BJ.mono hr hm
 | lp i off=>
  obtain ⟨b,h1,h2⟩:=hr
  exact ⟨b,(hL i off rfl).trans h1,h2⟩
 | uniq e size es=>
  rcases hr with (h | ⟨a,h1,h2,h3⟩) | ⟨b,cap,cur,h1,h2,h3,h4,h5,h6⟩
  ·exact .inl (.inl h)
  ·exact .inl (.inr ⟨a,h1,h2.mono hm,h3⟩)
  ·obtain ⟨k1,k2,k3⟩:=hU b h2
   exact .inr ⟨b,cap,cur,h1,k1,k2.trans h3,k3.trans h4,h5,h6.mono hm⟩
 | full size es=>
  rcases hr with h | ⟨a,h1,h2⟩
  ·exact .inl h
  ·exact .inr ⟨a,h1,h2.mono hm⟩
 | Dx=>trivial
 | mm _=>exact hr.elim
 | row _ _=>exact hr.elim
def LV.free:LV->Bool
 | .uniq _ _ _=>false
 | _=>true
theorem Cq.free{g:Gh}{l:LG}{w:World}{p q:UL}{lv:LV}{v:Value}(h:lv.free=true)(hr:Cq g l w p lv v):Cq g l w q lv v:=by
 cases lv with
 | uniq e size es=>cases h
 | v _=>exact hr
 | lp _ _=>exact hr
 | full _ _=>exact hr
 | Dx=>exact hr
 | mm _=>exact hr
 | row _ _=>exact hr
theorem eval_put(a:Act)(d t:Nat)(v:Value)(h:d<a.tmps.size):(a.put (some d) v).tmps.getD t undef=if d=t then v else a.tmps.getD t undef:=by
 simp only [Act.put,Array.getD_eq_getD_getElem?,Array.getElem?_setIfInBounds]
 split
 ·simp
 ·rfl
section
variable {cx:Cx} {s:S} {g:Gh} {l:LG} {a:Act} {w:World}
theorem Bb.set(h:Bb cx s g l a w){d:Nat}{lv:LV}{v:Value}(hd:d<cx.n)(hr:Cq g l w (.t d) lv v) :
  Bb cx { s with tmps:=put s.tmps d lv } g l (a.put (some d) v) w where
 AV:=h.AV
 size:=by simp [Act.put,h.size]
 defers:=by simp [Act.put,h.defers]
 tm t eK ht:=by
  rw [eval_put a d t v (by rw [h.size]; exact hd)]
  rw [Be] at ht
  split
  ·rename_i e; subst e; rw [iP rfl] at ht; injection ht with ht; subst ht; exact hr
  ·rename_i e; rw [iN e] at ht; exact h.tm t eK ht
 bx:=h.bx
 ex:=h.ex
 own:=h.own
 uo:=h.uo
 fresh:=h.fresh
 Gg:=h.Gg
def del{α:Type}:List (Nat × α)->Nat->List (Nat × α)
 | [],_=>[]
 | (k,v)::r,t=>if k=t then del r t else (k,v)::del r t
theorem SB{α:Type}(l:List (Nat × α))(t u:Nat):lk (del l t) u=if t=u then none else lk l u:=by
 induction l with
 | nil=>simp [del,lk]
 | cons x r ih=>
  obtain ⟨k,v⟩:=x
  by_cases hk:k=t
  ·subst hk
   simp only [del,if_true,ih,lk]
   split <;> rfl
  ·simp only [del,hk,if_false,lk,ih]
   by_cases hu:k=u
   ·subst hu; simp [Ne.symm hk]
   ·simp [hu]
theorem Eg{w w':World}(hb:∀b,b<w.heap.size->w'.heap[b]?=w.heap[b]?):∀ (b:Nat) (cur:Array Value) (e:TypeId),w.heap[b]?=some (Obj.cells cur e (0,0))->∃cur':Array Value,w'.heap[b]?=some (Obj.cells cur' e (0,0))/\cur'.size=cur.size:=
 fun b cur _ h=>⟨cur,(hb b (Array.getElem?_eq_some_iff.1 h).1).trans h,rfl⟩
theorem Bb.world{w':World}(h:Bb cx s g l a w)(Bq:w.heap.size<=w'.heap.size)(hb:∀b,b<w.heap.size->w'.heap[b]?=w.heap[b]?)
  (os:w'.os=w.os) (tape:w'.tape=w.tape) (output:w'.output=w.output):Bb cx s g l a w'/\C0 g w g w':=by
 have hm:C0 g w g w':=⟨fun _ _ e=>e,fun b o v hc hf=>⟨by
  have:=World.block_lt_of_cell? w _ hc
  rw [<-hc]; exact World.cell?_of_block (hb b this),hf⟩,Eg hb,fun _ _ _ h=>h⟩
 have hL:∀ {p lv v},Cq g l w p lv v->Cq g l w' p lv v:=fun hr=>hr.BN hm (fun _ _ _=>rfl) fun b hu=>⟨hu,rfl,hb b (h.own b _ (h.uo _ _ hu)).1⟩
 refine ⟨⟨⟨h.AV.mono.trans hm,Nat.le_trans h.AV.size Bq,fun b Ag ho=>?_,os.trans h.AV.os,tape.trans h.AV.tape,output.trans h.AV.output,h.AV.JH.mono hm⟩,h.size,h.defers,fun t lv ht=>hL (h.tm t lv ht),?_,?_,?_,h.uo,?_,?_⟩,hm⟩
 ·obtain ⟨h1,h2⟩:=h.AV.frame b Ag ho
  exact ⟨(hb b (Nat.lt_of_lt_of_le Ag h.AV.size)).trans h1,h2⟩
 ·intro i cs hi
  obtain ⟨b,h1,h2,h3,cur,e,h4,h5,h6⟩:=h.bx i cs hi
  exact ⟨b,h1,h2,h3,cur,e,(hb b (h.own b _ h2).1).trans h4,h5,fun j hj=>⟨(h6 j hj).1,(h6 j hj).2.1,hL (h6 j hj).2.2⟩⟩
 ·intro i cs hi
  obtain ⟨b,h1,h2,hE⟩:=h.ex i cs hi
  refine ⟨b,h1,h2,?_⟩
  rcases hE with ⟨h3,cur,e,h4,h5,h6⟩ | hE
  ·exact .inl ⟨h3,cur,e,(hb b (h.own b _ h2).1).trans h4,h5,fun j hj=>⟨(h6 j hj).1,(h6 j hj).2.1,hL (h6 j hj).2.2⟩⟩
  ·exact .inr (hE.BN hm (fun _ _ _ h=>h) rfl (hb b (h.own b _ h2).1))
 ·intro b o ho
  exact ⟨Nat.lt_of_lt_of_le (h.own b o ho).1 Bq,(h.own b o ho).2⟩
 ·exact ⟨fun b GY=>h.fresh.1 b (Nat.le_trans Bq GY),h.fresh.2⟩
 ·exact fun n b hx=>Nat.lt_of_lt_of_le (h.Gg n b hx) Bq
theorem Bb.alloc(h:Bb cx s g l a w)(o:Obj):Bb cx s g l a (w.alloc o)/\C0 g w g (w.alloc o):=
 h.world sM (fun b hb=>Below.heap_alloc w o b hb) rfl rfl rfl
theorem Bb.drew(h:Bb cx s g l a w):Bb cx s g l a w.drew/\C0 g w g w.drew:=h.world (Nat.le_refl _) (fun _ _=>rfl) rfl rfl rfl
def kl(i:Nat):LV->LV
 | .lp j o=>if j=i then .Dx else .lp j o
 | lv=>lv
def Lv(i:Nat):List (Nat × LV)->List (Nat × LV)
 | []=>[]
 | (k,lv)::r=>(k,kl i lv)::Lv i r
theorem Kh(i:Nat):∀ (tl:List (Nat × LV)) (t:Nat),lk (Lv i tl) t=(lk tl t).map (kl i)
 | [],t=>rfl
 | (k,x)::r,t=>by
  simp only [Lv,lk]
  split
  ·rfl
  ·exact Kh i r t
theorem X6{i:Nat}{lv:LV}:(kl i lv = .Dx)∨(kl i lv=lv/\∀off,lv ≠ .lp i off):=by
 cases lv with
 | lp j o=>
  simp only [kl]
  split
  ·exact .inl rfl
  ·rename_i h; exact .inr ⟨rfl,fun off e=>by injection e with e1 e2; exact h e1⟩
 | _=>exact .inr ⟨rfl,fun off e=>by cases e⟩
def Dz{α:Type}(f:Nat->α)(b:Nat)(x:α):Nat->α:=fun y=>if y=b then x else f y
def EJ(f:UL->Option Nat)(p:UL)(x:Option Nat):UL->Option Nat:=fun y=>if y=p then x else f y
theorem Bt{α:Type}(f:Nat->α)(b:Nat)(x:α):Dz f b x b=x:=by simp [Dz]
theorem Ap{α:Type}(f:Nat->α){b y:Nat}(x:α)(h:y≠b):Dz f b x y=f y:=by simp [Dz,h]
theorem Bb.Dd(h:Bb cx s g l a w)(i:Nat)(cur:Array Value)(e:TypeId)(ps:List PV)(hr:AG g w ps cur.toList)(Ce:∀u∈cur.toList,u.oneCell'=true) :
  Bb cx { s with tmps:=Lv i s.tmps,boxes:=put s.boxes i (ps.map .v) } { g with M:=Dz g.M w.heap.size (some 0) }
   { l with L:=Dz l.L i (some w.heap.size),O:=Dz l.O w.heap.size (some (.l i)) } a (w.alloc (.cells cur e)) /\
  C0 g w { g with M:=Dz g.M w.heap.size (some 0) } (w.alloc (.cells cur e)):=by
 have hb:∀b,b<w.heap.size->(w.alloc (.cells cur e)).heap[b]?=w.heap[b]?:=fun b hb=>Below.heap_alloc w _ b hb
 have hm:C0 g w { g with M:=Dz g.M w.heap.size (some 0) } (w.alloc (.cells cur e)):=by
  refine ⟨fun _ _ e=>e,fun b o v hc hf=>?_,Eg hb,fun _ _ _ h=>h⟩
  have Ag:=World.block_lt_of_cell? w _ hc
  refine ⟨by rw [<-hc]; exact World.cell?_of_block (hb b Ag),fun k hk=>hf k ?_⟩
  simp only at Ag
  rw [<-Ap g.M (some 0) (Nat.ne_of_lt Ag)]; exact hk
 have hU:∀ {p b},l.U p=some b->l.U p=some b/\Dz g.M w.heap.size (some 0) b=g.M b/\(w.alloc (.cells cur e)).heap[b]?=w.heap[b]?:=fun {p b} hu=>by
  have Ag:=(h.own b _ (h.uo _ _ hu)).1
  exact ⟨hu,Ap _ _ (Nat.ne_of_lt Ag),hb b Ag⟩
 have Bq:(w.alloc (.cells cur e)).heap.size=w.heap.size+1:=by simp
 refine ⟨⟨⟨h.AV.mono.trans hm,by rw [Bq]; exact Nat.le_succ_of_le h.AV.size,fun b Ag ho=>?_,h.AV.os,h.AV.tape,h.AV.output,h.AV.JH.mono hm⟩,h.size,h.defers,?_,?_,?_,?_,?_,?_,?_⟩,hm⟩
 ·obtain ⟨h1,h2⟩:=h.AV.frame b Ag ho
  have CE:=Nat.lt_of_lt_of_le Ag h.AV.size
  exact ⟨(hb b CE).trans h1,(Ap g.M (some 0) (Nat.ne_of_lt CE)).trans h2⟩
 ·intro t lv ht
  simp only [Kh,Option.map_eq_some_iff] at ht
  obtain ⟨lv0,h0,rfl⟩:=ht
  rcases X6 (i:=i) (lv:=lv0) with hj | ⟨he,D4⟩
  ·rw [hj]; trivial
  ·rw [he]
   refine (h.tm t lv0 h0).BN hm (fun k off e=>?_) fun b hu=>hU hu
   exact Ap _ _ (fun ek=>D4 off (by rw [e,ek]))
 ·intro k cs hk
  rw [Be] at hk
  split at hk
  ·rename_i ek
   subst ek
   injection hk with hk
   subst hk
   refine ⟨w.heap.size,Bt _ _ _,Bt _ _ _,Bt _ _ _,cur,e,heap_alloc_new w _,by simpa using Nat.le_of_eq hr.1,fun j hj=>?_⟩
   have Sl:j<ps.length:=by simpa using hj
   have Ib:j<cur.toList.length:=by rw [<-hr.1]; exact Sl
   have WK:j<cur.size:=by simpa using Ib
   refine ⟨by simp [LV.Me],Ce _ (by simp [WK]),?_⟩
   have:=(hr.2 j Sl Ib).mono hm
   simpa [Cq,WK] using this
  ·rename_i ek
   obtain ⟨b,h1,h2,h3,cur',e',h4,h5,h6⟩:=h.bx k cs hk
   have Ag:=(h.own b _ h2).1
   refine ⟨b,(Ap _ _ (Ne.symm ek)).trans h1,(Ap _ _ (Nat.ne_of_lt Ag)).trans h2,(Ap _ _ (Nat.ne_of_lt Ag)).trans h3,cur',e',(hb b Ag).trans h4,h5,fun j hj=>⟨(h6 j hj).1,(h6 j hj).2.1,(h6 j hj).2.2.BN hm (fun k off e=>?_) fun b hu=>hU hu⟩⟩
   have:=(h6 j hj).1
   rw [e] at this
   cases this
 ·intro k cs hk
  obtain ⟨b,h1,h2,hE⟩:=h.ex k cs hk
  have Ag:=(h.own b _ h2).1
  refine ⟨b,h1,(Ap _ _ (Nat.ne_of_lt Ag)).trans h2,?_⟩
  rcases hE with ⟨h3,cur',e',h4,h5,h6⟩ | hE
  ·refine .inl ⟨(Ap _ _ (Nat.ne_of_lt Ag)).trans h3,cur',e',(hb b Ag).trans h4,h5,fun j hj=>⟨(h6 j hj).1,(h6 j hj).2.1,(h6 j hj).2.2.BN hm (fun k off e=>?_) fun b hu=>hU hu⟩⟩
   have:=(h6 j hj).1
   rw [e] at this
   cases this
  ·exact .inr (hE.BN hm (fun _ _ _ h=>h) (Ap _ _ (Nat.ne_of_lt Ag)) (hb b Ag))
 ·intro b o ho
  simp only [Dz] at ho
  split at ho
  ·rename_i eb
   subst eb
   exact ⟨by rw [Bq]; omega,.inl h.AV.size⟩
  ·obtain ⟨k1,k2⟩:=h.own b o ho
   exact ⟨by rw [Bq]; omega,k2⟩
 ·intro p b hu
  have Ag:=(h.own b _ (h.uo _ _ hu)).1
  exact (Ap _ _ (Nat.ne_of_lt Ag)).trans (h.uo p b hu)
 ·refine ⟨fun b GY=>?_,h.fresh.2⟩
  rw [Bq] at GY
  exact (Ap _ _ oM).trans (h.fresh.1 b oM)
 ·intro n b hx
  rw [Bq]
  exact Nat.lt_succ_of_lt (h.Gg n b hx)
def AI{α:Type}:List α->Nat->List α->List α
 | cs,0,[]=>cs
 | _::cs,0,v::vs=>v::AI cs 0 vs
 | c::cs,off+1,vs=>c::AI cs off vs
 | [],_,_=>[]
theorem B0{α:Type}:∀ (cs:List α) (off:Nat) (vs:List α),(AI cs off vs).length=cs.length
 | cs,0,[]=>by simp [AI]
 | c::cs,0,v::vs=>by simp [AI,B0 cs 0 vs]
 | c::cs,off+1,vs=>by simp [AI,B0 cs off vs]
 | [],0,v::vs=>by simp [AI]
 | [],off+1,vs=>by simp [AI]
theorem BG{α:Type}:∀ (cs:List α) (off:Nat) (vs:List α),off+vs.length<=cs.length->∀j,(AI cs off vs)[j]?=if off<=j/\j<off+vs.length then vs[j - off]? else cs[j]?
 | cs,0,[],_,j=>by simp [AI]
 | c::cs,0,v::vs,h,j=>by
  cases j with
  | zero=>simp [AI]
  | succ j=>
   have:=BG cs 0 vs (by simpa using h) j
   simp only [AI,List.getElem?_cons_succ,this]
   simp
 | c::cs,off+1,vs,h,j=>by
  cases j with
  | zero=>simp [AI]
  | succ j=>
   have:=BG cs off vs (by simp at h; omega) j
   simp only [AI,List.getElem?_cons_succ,this]
   by_cases hc:off<=j/\j<off+vs.length
   ·rw [iP hc,iP oM]
    congr 1
    omega
   ·rw [iN hc,iN oM]
 | [],0,v::vs,h,_=>by simp at h
 | [],off+1,vs,h,_=>by simp at h
theorem FM{α:Type}(cs:List α)(off:Nat)(vs:List α)(h:off+vs.length<=cs.length):AI cs off vs=cs.take off++vs++cs.drop (off+vs.length):=by
 apply List.ext_getElem?
 intro j
 rw [BG cs off vs h j]
 by_cases h1:j<off
 ·rw [iN oM,List.getElem?_append_left (by simp; omega),List.getElem?_append_left (by simp; omega),List.getElem?_take_of_lt h1]
 ·by_cases h2:j<off+vs.length
  ·rw [iP oM,List.getElem?_append_left (by simp; omega),List.getElem?_append_right (by simp; omega)]
   congr 1
   simp
   omega
  ·rw [iN oM,List.getElem?_append_right (by simp; omega),List.getElem?_drop]
   congr 1
   simp
   omega
end
section
variable {cx:Cx} {s:S} {g:Gh} {l:LG} {a:Act} {w:World}
theorem Mh{b:Nat}{arr cur:Array Value}{e:TypeId}(h4:w.heap[b]?=some (.cells cur e (0,0)))(hs:arr.size=cur.size):∀ (b':Nat) (cur:Array Value) (e:TypeId),w.heap[b']?=some (Obj.cells cur e (0,0))->∃cur':Array Value,(w.setRow b arr).heap[b']?=some (Obj.cells cur' e (0,0))/\cur'.size=cur.size:=
 fun b' cur' e' hh=>by
  by_cases hb:b'=b
  ·subst hb
   rw [h4] at hh
   injection hh with hh
   injection hh with h1 h2
   subst h1 h2
   exact ⟨arr,setRow_heap w b' cur _ e _ h4,hs⟩
  ·exact ⟨cur',(setRow_other w b b' arr hb).trans hh,rfl⟩
theorem DE{b:Nat}{arr cur:Array Value}{e:TypeId}(hM:g.M b=some 0)(h4:w.heap[b]?=some (.cells cur e (0,0)))(hs:arr.size=cur.size):C0 g w g (w.setRow b arr):=
 ⟨fun _ _ e=>e,fun b' o v hc hf=>by
  have D4:b'≠b:=by
   rintro rfl
   exact absurd (hf 0 hM) oM
  exact ⟨by rw [<-hc]; exact World.cell?_of_block (setRow_other w b b' arr D4),hf⟩,Mh h4 hs,fun _ _ _ h=>h⟩
theorem fM.setRow{b:Nat}{arr cur:Array Value}{e:TypeId}(h:fM cx g w)(hM:g.M b=some 0)(h4:w.heap[b]?=some (.cells cur e (0,0)))(hs:arr.size=cur.size)(hb:cx.w0.heap.size<=b∨cx.VG b):fM cx g (w.setRow b arr):=
 ⟨h.mono.trans (DE hM h4 hs),by simpa using h.size,fun b' Ag ho=>by
  have D4:b'≠b:=by
   rintro rfl
   rcases hb with hb | hb
   ·omega
   ·exact ho hb
  rw [setRow_other w b b' arr D4]
  exact h.frame b' Ag ho,h.os,h.tape,h.output,h.JH.mono (DE hM h4 hs)⟩
theorem Bb.A05(h:Bb cx s g l a w){i:Nat}{cs:List LV}(hi:lk s.boxes i=some cs)(off:Nat)(Om:List LV)(vs:List Value)(hl:Om.length=vs.length)(LS:off+Om.length<=cs.length)
  (hr:∀j (h:j<Om.length) (h':j<vs.length),Om[j].Me=true/\vs[j].oneCell'=true/\Cq g l w (.b i (off+j)) Om[j] vs[j]) :
  ∃b cur e,l.L i=some b/\w.heap[b]?=some (.cells cur e (0,0))/\cs.length<=cur.size /\
   Bb cx { s with boxes:=put s.boxes i (AI cs off Om) } g l a (w.setRow b (AI cur.toList off vs).toArray)/\C0 g w g (w.setRow b (AI cur.toList off vs).toArray):=by
 obtain ⟨b,h1,h2,hM,cur,e,h4,h5,h6⟩:=h.bx i cs hi
 refine ⟨b,cur,e,h1,h4,h5,?_,DE hM h4 (by simp [B0])⟩
 have hm:C0 g w g (w.setRow b (AI cur.toList off vs).toArray):=DE hM h4 (by simp [B0])
 have D4:∀ {b' o},l.O b'=some o->o ≠ .l i->b'≠b:=fun {b' o} ho hn e=>by
  subst e
  rw [h2] at ho
  injection ho with ho
  exact hn ho.symm
 have hU:∀ {p b'},l.U p=some b'->l.U p=some b'/\g.M b'=g.M b'/\(w.setRow b (AI cur.toList off vs).toArray).heap[b']?=w.heap[b']?:=fun {p b'} hu=>
  ⟨hu,rfl,setRow_other w b b' _ (D4 (h.uo _ _ hu) sM)⟩
 have hL:∀ {p lv v},Cq g l w p lv v->Cq g l (w.setRow b (AI cur.toList off vs).toArray) p lv v:=fun hr=>hr.BN hm (fun _ _ _=>rfl) fun b hu=>hU hu
 refine ⟨h.AV.setRow hM h4 (by simp [B0]) (h.own b _ h2).2,h.size,h.defers,fun t lv ht=>hL (h.tm t lv ht),?_,?_,?_,h.uo,?_,?_⟩
 ·intro k Ki hk
  rw [Be] at hk
  split at hk
  ·rename_i ek
   subst ek
   injection hk with hk
   subst hk
   refine ⟨b,h1,h2,hM,_,e,setRow_heap w b cur _ e _ h4,by simp [B0,h5],fun j hj=>?_⟩
   rw [B0] at hj
   have X7:off+vs.length<=cur.toList.length:=by simp only [Array.length_toList]; omega
   have g1:=BG cs off Om LS j
   have g2:=BG cur.toList off vs X7 j
   have Sl:j<(AI cs off Om).length:=by rw [B0]; exact hj
   rw [List.getElem?_eq_getElem Sl] at g1
   have g3:((AI cur.toList off vs).toArray.getD j undef)=((AI cur.toList off vs)[j]?).getD undef:=by simp [Array.getD_eq_getD_getElem?]
   by_cases hc:off<=j/\j<off+Om.length
   ·have QF:off<=j/\j<off+vs.length:=by omega
    rw [iP hc,List.getElem?_eq_getElem (l:=Om) oM] at g1
    rw [iP QF,List.getElem?_eq_getElem (l:=vs) oM] at g2
    injection g1 with g1
    have hh:=hr (j - off) oM oM
    rw [show off+(j - off)=j by omega] at hh
    rw [g1,g3,g2]
    exact ⟨hh.1,hh.2.1,hL hh.2.2⟩
   ·have QF:¬(off<=j/\j<off+vs.length):=by omega
    rw [iN hc,List.getElem?_eq_getElem (l:=cs) hj] at g1
    rw [iN QF] at g2
    injection g1 with g1
    have hh:=h6 j hj
    rw [g1,g3,g2]
    refine ⟨hh.1,?_,hL ?_⟩
    ·have:=hh.2.1
     simpa [Array.getD_eq_getD_getElem?] using this
    ·have:=hh.2.2
     simpa [Array.getD_eq_getD_getElem?] using this
  ·rename_i ek
   obtain ⟨b',k1,k2,k3,cur',e',k4,k5,k6⟩:=h.bx k Ki hk
   have hn:=D4 k2 (by simp; exact fun e=>ek e.symm)
   exact ⟨b',k1,k2,k3,cur',e',(setRow_other w b b' _ hn).trans k4,k5,fun j hj=>⟨(k6 j hj).1,(k6 j hj).2.1,hL (k6 j hj).2.2⟩⟩
 ·intro k Ki hk
  obtain ⟨b',k1,k2,hE⟩:=h.ex k Ki hk
  have hn:=D4 k2 sM
  refine ⟨b',k1,k2,?_⟩
  rcases hE with ⟨k3,cur',e',k4,k5,k6⟩ | hE
  ·exact .inl ⟨k3,cur',e',(setRow_other w b b' _ hn).trans k4,k5,fun j hj=>⟨(k6 j hj).1,(k6 j hj).2.1,hL (k6 j hj).2.2⟩⟩
  ·exact .inr (hE.BN hm (fun _ _ _ h=>h) rfl (setRow_other w b b' _ hn))
 ·intro b' o ho
  simpa using h.own b' o ho
 ·exact ⟨fun b' GY=>h.fresh.1 b' (by simpa using GY),h.fresh.2⟩
 ·intro n b' hx
  simpa using h.Gg n b' hx
theorem Bb.A06(h:Bb cx s g l a w){i:Nat}{cs:List LV}(hi:lk s.ext i=some cs)(off:Nat)(Om:List LV)(vs:List Value)(hl:Om.length=vs.length)(LS:off+Om.length<=cs.length)
  (hr:∀j (h:j<Om.length) (h':j<vs.length),Om[j].Me=true/\vs[j].oneCell'=true/\Cq g l w (.x i (off+j)) Om[j] vs[j]) (CS:Sx cs) :
  ∃b cur e,g.X i=some b/\w.heap[b]?=some (.cells cur e (0,0))/\cs.length<=cur.size /\
   Bb cx { s with ext:=put s.ext i (AI cs off Om) } g l a (w.setRow b (AI cur.toList off vs).toArray)/\C0 g w g (w.setRow b (AI cur.toList off vs).toArray):=by
 obtain ⟨b,h1,h2,hE⟩:=h.ex i cs hi
 rcases hE with hB | hE
 rotate_left
 ·exact (hE.plain CS).elim
 replace h1:=h1.plain CS.2
 obtain ⟨hM,cur,e,h4,h5,h6⟩:=hB
 refine ⟨b,cur,e,h1,h4,h5,?_,DE hM h4 (by simp [B0])⟩
 have hm:C0 g w g (w.setRow b (AI cur.toList off vs).toArray):=DE hM h4 (by simp [B0])
 have D4:∀ {b' o},l.O b'=some o->o ≠ .x i->b'≠b:=fun {b' o} ho hn e=>by
  subst e
  rw [h2] at ho
  injection ho with ho
  exact hn ho.symm
 have hU:∀ {p b'},l.U p=some b'->l.U p=some b'/\g.M b'=g.M b'/\(w.setRow b (AI cur.toList off vs).toArray).heap[b']?=w.heap[b']?:=fun {p b'} hu=>
  ⟨hu,rfl,setRow_other w b b' _ (D4 (h.uo _ _ hu) sM)⟩
 have hL:∀ {p lv v},Cq g l w p lv v->Cq g l (w.setRow b (AI cur.toList off vs).toArray) p lv v:=fun hr=>hr.BN hm (fun _ _ _=>rfl) fun b hu=>hU hu
 refine ⟨h.AV.setRow hM h4 (by simp [B0]) (h.own b _ h2).2,h.size,h.defers,fun t lv ht=>hL (h.tm t lv ht),?_,?_,?_,h.uo,?_,?_⟩
 ·intro k Ki hk
  obtain ⟨b',k1,k2,k3,cur',e',k4,k5,k6⟩:=h.bx k Ki hk
  have hn:=D4 k2 sM
  exact ⟨b',k1,k2,k3,cur',e',(setRow_other w b b' _ hn).trans k4,k5,fun j hj=>⟨(k6 j hj).1,(k6 j hj).2.1,hL (k6 j hj).2.2⟩⟩
 ·intro k Ki hk
  rw [Be] at hk
  split at hk
  ·rename_i ek
   subst ek
   injection hk with hk
   subst hk
   refine A04 h1 h2 ⟨hM,_,e,setRow_heap w b cur _ e _ h4,by simp [B0,h5],fun j hj=>?_⟩
   rw [B0] at hj
   have X7:off+vs.length<=cur.toList.length:=by simp only [Array.length_toList]; omega
   have g1:=BG cs off Om LS j
   have g2:=BG cur.toList off vs X7 j
   have Sl:j<(AI cs off Om).length:=by rw [B0]; exact hj
   rw [List.getElem?_eq_getElem Sl] at g1
   have g3:((AI cur.toList off vs).toArray.getD j undef)=((AI cur.toList off vs)[j]?).getD undef:=by simp [Array.getD_eq_getD_getElem?]
   by_cases hc:off<=j/\j<off+Om.length
   ·have QF:off<=j/\j<off+vs.length:=by omega
    rw [iP hc,List.getElem?_eq_getElem (l:=Om) oM] at g1
    rw [iP QF,List.getElem?_eq_getElem (l:=vs) oM] at g2
    injection g1 with g1
    have hh:=hr (j - off) oM oM
    rw [show off+(j - off)=j by omega] at hh
    rw [g1,g3,g2]
    exact ⟨hh.1,hh.2.1,hL hh.2.2⟩
   ·have QF:¬(off<=j/\j<off+vs.length):=by omega
    rw [iN hc,List.getElem?_eq_getElem (l:=cs) hj] at g1
    rw [iN QF] at g2
    injection g1 with g1
    have hh:=h6 j hj
    rw [g1,g3,g2]
    refine ⟨hh.1,?_,hL ?_⟩
    ·have:=hh.2.1
     simpa [Array.getD_eq_getD_getElem?] using this
    ·have:=hh.2.2
     simpa [Array.getD_eq_getD_getElem?] using this
  ·rename_i ek
   obtain ⟨b',k1,k2,hE⟩:=h.ex k Ki hk
   have hn:=D4 k2 (by simp; exact fun e=>ek e.symm)
   refine ⟨b',k1,k2,?_⟩
   rcases hE with ⟨k3,cur',e',k4,k5,k6⟩ | hE
   ·exact .inl ⟨k3,cur',e',(setRow_other w b b' _ hn).trans k4,k5,fun j hj=>⟨(k6 j hj).1,(k6 j hj).2.1,hL (k6 j hj).2.2⟩⟩
   ·exact .inr (hE.BN hm (fun _ _ _ h=>h) rfl (setRow_other w b b' _ hn))
 ·intro b' o ho
  simpa using h.own b' o ho
 ·exact ⟨fun b' GY=>h.fresh.1 b' (by simpa using GY),fun n hn=>h.fresh.2.1 n (by rw [Dr hi] at hn; exact hn),fun n c hn=>h.fresh.2.2 n c (by rw [Dr hi] at hn; exact hn)⟩
 ·intro n b' hx
  simpa using h.Gg n b' hx
def QU(s:S):UL->Prop
 | .t d=>∀e z es,lk s.tmps d≠some (.uniq e z es)
 | .b i j=>∀cs,lk s.boxes i=some cs->∀e z es,cs[j]?≠some (.uniq e z es)
 | .x n j=>∀cs,lk s.ext n=some cs->∀e z es,cs[j]?≠some (.uniq e z es)
theorem Cq.QU{g':Gh}{l':LG}{w':World}{p:UL}{lv:LV}{v:Value}(hr:Cq g l w p lv v)(hm:C0 g w g' w')(hL:l'.L=l.L)(Gc:∀e z es,lv ≠ .uniq e z es):Cq g' l' w' p lv v:=by
 cases lv with
 | v q=>exact BJ.mono hr hm
 | lp i off=>
  obtain ⟨b,h1,h2⟩:=hr
  exact ⟨b,by rw [hL]; exact h1,h2⟩
 | uniq e size es=>exact absurd rfl (Gc e size es)
 | full size es=>
  rcases hr with h | ⟨a,h1,h2⟩
  ·exact .inl h
  ·exact .inr ⟨a,h1,h2.mono hm⟩
 | Dx=>trivial
 | mm _=>exact hr.elim
 | row _ _=>exact hr.elim
theorem Bb.jX(h:Bb cx s g l a w){p q:UL}{b:Nat}(hb:l.U p=some b)(hp:QU s p)(hq:QU s q) :
  Bb cx s g { l with U:=EJ (EJ l.U p none) q (some b),O:=Dz l.O b (some (.u q)) } a w:=by
 have hob:=h.uo p b hb
 have hU:∀ {r b'},r≠p->r≠q->l.U r=some b'->EJ (EJ l.U p none) q (some b) r=some b':=fun {r b'} h1 h2 hu=>by
  simp [EJ,h1,h2,hu]
 have BN:∀ {r lv v},(r=p∨r=q->∀e z es,lv≠LV.uniq e z es)->Cq g l w r lv v->Cq g { l with U:=EJ (EJ l.U p none) q (some b),O:=Dz l.O b (some (.u q)) } w r lv v:=fun {r lv v} hn hr=>by
  by_cases hc:r=p∨r=q
  ·exact hr.QU (C0.refl g w) rfl (hn hc)
  ·simp only [not_or] at hc
   exact hr.BN (C0.refl g w) (fun _ _ _=>rfl) fun b' hu=>⟨hU hc.1 hc.2 hu,rfl,rfl⟩
 have hO:∀ {b' o},l.O b'=some o->(∀r,o ≠ .u r)->Dz l.O b (some (.u q)) b'=some o:=fun {b' o} ho hn=>by
  have:b'≠b:=by
   rintro rfl
   rw [hob] at ho
   injection ho with ho
   exact hn p ho.symm
  exact (Ap _ _ this).trans ho
 refine ⟨h.AV,h.size,h.defers,fun t lv ht=>BN ?_ (h.tm t lv ht),?_,?_,?_,?_,h.fresh,h.Gg⟩
 ·rintro (e | e) e' z es rfl
  ·subst e; exact hp e' z es ht
  ·subst e; exact hq e' z es ht
 ·intro i cs hi
  obtain ⟨b',h1,h2,h3,cur,e,h4,h5,h6⟩:=h.bx i cs hi
  refine ⟨b',h1,hO h2 sM,h3,cur,e,h4,h5,fun j hj=>⟨(h6 j hj).1,(h6 j hj).2.1,BN ?_ (h6 j hj).2.2⟩⟩
  rintro (e0 | e0) e' z es e1
  ·subst e0; exact hp cs hi e' z es (by rw [List.getElem?_eq_getElem hj,e1])
  ·subst e0; exact hq cs hi e' z es (by rw [List.getElem?_eq_getElem hj,e1])
 ·intro i cs hi
  obtain ⟨b',h1,h2,hE⟩:=h.ex i cs hi
  refine ⟨b',h1,hO h2 sM,?_⟩
  rcases hE with ⟨h3,cur,e,h4,h5,h6⟩ | hE
  rotate_left
  ·exact .inr hE
  refine .inl ⟨h3,cur,e,h4,h5,fun j hj=>⟨(h6 j hj).1,(h6 j hj).2.1,BN ?_ (h6 j hj).2.2⟩⟩
  rintro (e0 | e0) e' z es e1
  ·subst e0; exact hp cs hi e' z es (by rw [List.getElem?_eq_getElem hj,e1])
  ·subst e0; exact hq cs hi e' z es (by rw [List.getElem?_eq_getElem hj,e1])
 ·intro b' o ho
  simp only [Dz] at ho
  split at ho
  ·rename_i e; subst e; exact h.own _ _ hob
  ·exact h.own b' o ho
 ·intro r b' hu
  simp only [EJ] at hu
  split at hu
  ·rename_i e; subst e; injection hu with hu; subst hu; exact Bt _ _ _
  ·split at hu
   ·cases hu
   ·rename_i h1 h2
    have:=h.uo r b' hu
    have D4:b'≠b:=by
     rintro rfl
     rw [hob] at this
     injection this with this
     injection this with this
     exact h2 this.symm
    exact (Ap _ _ D4).trans this
theorem Bb.He(h:Bb cx s g l a w){p q:UL}{e:TypeId}{z:Nat}{es:List (List PV)}{v:Value}(hr:Cq g l w p (.uniq e z es) v)(hp:QU s p)(hq:QU s q) :
  ∃l',Bb cx s g l' a w/\Cq g l' w q (.uniq e z es) v/\l'.L=l.L:=by
 rcases hr with hn | ⟨b,cap,cur,h1,h2,h3,h4,h5,h6⟩
 ·exact ⟨l,h,.inl hn,rfl⟩
 ·refine ⟨_,h.jX h2 hp hq,.inr ⟨b,cap,cur,h1,?_,h3,h4,h5,h6⟩,rfl⟩
  simp [EJ]
theorem Bb.pK(h:Bb cx s g l a w)(q:UL)(hq:QU s q)(cur:Array Value)(e:TypeId){e1:TypeId}(VJ:jU e1=e)(size cap:Nat)(es:List (List PV))(CS:cur.size=cap * size)(hle:es.length<=cap)(Di:cap<=maxLen)
  (Bq:∀i (h:i<es.length),es[i].length=size) (xs:List Value) (hr:AG g w es.flatten xs) (Ce:∀u∈xs,u.oneCell'=true) (X8:cur.toList.take (es.length * size)=xs) :
  ∃g' l',Bb cx s g' l' a (w.alloc (.cells cur e))/\C0 g w g' (w.alloc (.cells cur e))/\Cq g' l' (w.alloc (.cells cur e)) q (.uniq e1 size es) (.slice (some ⟨w.heap.size,0,none⟩) es.length cap):=by
 have hb:∀b,b<w.heap.size->(w.alloc (.cells cur e)).heap[b]?=w.heap[b]?:=fun b hb=>Below.heap_alloc w _ b hb
 have SC:(w.alloc (.cells cur e)).heap.size=w.heap.size+1:=by simp
 have hm:C0 g w { g with M:=Dz g.M w.heap.size (some (QM e1 (es.length * size))) } (w.alloc (.cells cur e)):=by
  refine ⟨fun _ _ e=>e,fun b o v hc hf=>?_,Eg hb,fun _ _ _ h=>h⟩
  have Ag:=World.block_lt_of_cell? w _ hc
  refine ⟨by rw [<-hc]; exact World.cell?_of_block (hb b Ag),fun k hk=>hf k ?_⟩
  simp only at Ag
  rw [<-Ap g.M (some (QM e1 (es.length * size))) (Nat.ne_of_lt Ag)]; exact hk
 have A9l:∀ {r b'},r≠q->l.U r=some b'->EJ l.U q (some w.heap.size) r=some b':=fun {r b'} h1 hu=>by simp [EJ,h1,hu]
 have BN:∀ {r lv v},(r=q->∀e z es,lv≠LV.uniq e z es)->Cq g l w r lv v ->
   Cq { g with M:=Dz g.M w.heap.size (some (QM e1 (es.length * size))) } { l with U:=EJ l.U q (some w.heap.size),O:=Dz l.O w.heap.size (some (.u q)) } (w.alloc (.cells cur e)) r lv v:=fun {r lv v} hn hr=>by
  by_cases hc:r=q
  ·exact hr.QU hm rfl (hn hc)
  ·refine hr.BN hm (fun _ _ _=>rfl) fun b' hu=>?_
   have Ag:=(h.own b' _ (h.uo _ _ hu)).1
   exact ⟨A9l hc hu,Ap _ _ (Nat.ne_of_lt Ag),hb b' Ag⟩
 refine ⟨{ g with M:=Dz g.M w.heap.size (some (QM e1 (es.length * size))) },{ l with U:=EJ l.U q (some w.heap.size),O:=Dz l.O w.heap.size (some (.u q)) },⟨⟨h.AV.mono.trans hm,by rw [SC]; exact Nat.le_succ_of_le h.AV.size,fun b Ag ho=>?_,h.AV.os,h.AV.tape,h.AV.output,h.AV.JH.mono hm⟩,h.size,h.defers,fun t lv ht=>BN ?_ (h.tm t lv ht),?_,?_,?_,?_,?_,?_⟩,hm,?_⟩
 ·obtain ⟨h1,h2⟩:=h.AV.frame b Ag ho
  have CE:=Nat.lt_of_lt_of_le Ag h.AV.size
  exact ⟨(hb b CE).trans h1,(Ap g.M _ (Nat.ne_of_lt CE)).trans h2⟩
 ·rintro e0 e' z es' rfl
  subst e0; exact hq e' z es' ht
 ·intro i cs hi
  obtain ⟨b',h1,h2,h3,cur',e',h4,h5,h6⟩:=h.bx i cs hi
  have Ag:=(h.own b' _ h2).1
  refine ⟨b',h1,(Ap _ _ (Nat.ne_of_lt Ag)).trans h2,(Ap _ _ (Nat.ne_of_lt Ag)).trans h3,cur',e',(hb b' Ag).trans h4,h5,fun j hj=>⟨(h6 j hj).1,(h6 j hj).2.1,BN ?_ (h6 j hj).2.2⟩⟩
  rintro e0 e2 z es' e1
  subst e0; exact hq cs hi e2 z es' (by rw [List.getElem?_eq_getElem hj,e1])
 ·intro i cs hi
  obtain ⟨b',h1,h2,hE⟩:=h.ex i cs hi
  have Ag:=(h.own b' _ h2).1
  refine ⟨b',h1,(Ap _ _ (Nat.ne_of_lt Ag)).trans h2,?_⟩
  rcases hE with ⟨h3,cur',e',h4,h5,h6⟩ | hE
  rotate_left
  ·exact .inr (hE.BN hm (fun _ _ _ h=>h) (Ap _ _ (Nat.ne_of_lt Ag)) (hb b' Ag))
  refine .inl ⟨(Ap _ _ (Nat.ne_of_lt Ag)).trans h3,cur',e',(hb b' Ag).trans h4,h5,fun j hj=>⟨(h6 j hj).1,(h6 j hj).2.1,BN ?_ (h6 j hj).2.2⟩⟩
  rintro e0 e2 z es' e1
  subst e0; exact hq cs hi e2 z es' (by rw [List.getElem?_eq_getElem hj,e1])
 ·intro b o ho
  simp only [Dz] at ho
  split at ho
  ·rename_i eb
   subst eb
   exact ⟨by rw [SC]; omega,.inl h.AV.size⟩
  ·obtain ⟨k1,k2⟩:=h.own b o ho
   exact ⟨by rw [SC]; omega,k2⟩
 ·intro r b hu
  simp only [EJ] at hu
  split at hu
  ·rename_i e0; subst e0; injection hu with hu; subst hu; exact Bt _ _ _
  ·have Ag:=(h.own b _ (h.uo _ _ hu)).1
   exact (Ap _ _ (Nat.ne_of_lt Ag)).trans (h.uo r b hu)
 ·refine ⟨fun b GY=>?_,h.fresh.2⟩
  rw [SC] at GY
  exact (Ap _ _ oM).trans (h.fresh.1 b oM)
 ·intro n b hx
  rw [SC]
  exact Nat.lt_succ_of_lt (h.Gg n b hx)
 ·have hxl:xs.length=es.length * size:=by rw [<-hr.1,BR size es Bq]
  have A07:∀j u,xs[j]?=some u->cur.toList[j]?=some u:=fun j u hu=>by
   rw [<-X8,List.getElem?_take] at hu
   split at hu
   ·exact hu
   ·cases hu
  refine .inr ⟨w.heap.size,cap,cur,rfl,by simp [EJ],Bt _ _ _,by rw [VJ]; exact heap_alloc_new w _,CS,fun Ag=>?_,fun CO=>⟨hle,Di,Bq,fun j hj=>?_⟩⟩
  ·refine BJ.of_flat hle Di Bq (hr.mono hm) fun j u hu=>?_
   have hj:=(List.getElem?_eq_some_iff.1 hu).1
   have hcj:=A07 j u hu
   refine ⟨?_,fun k hk=>?_,Ce u (List.mem_of_getElem? hu)⟩
   ·rw [QO]
    have:=heap_alloc_new w (.cells cur e)
    simp only [World.cell?,this]
    simpa using hcj
   ·have QN:some (QM e1 (es.length * size))=some k:=by rw [<-hk]; exact (Bt _ _ _).symm
    injection QN with QN
    rw [L1 Ag] at QN
    simp only
    omega
  ·have Cu:j<xs.length:=by rw [<-hr.1]; exact hj
   have hcj:=A07 j _ (List.getElem?_eq_getElem Cu)
   have hg:cur.getD j undef=xs[j]:=by
    rw [Array.getD_eq_getD_getElem?,<-Array.getElem?_toList,hcj]
    rfl
   rw [hg]
   exact ⟨Ce _ (List.getElem_mem _),(hr.2 j hj Cu).mono hm⟩
theorem Bb.fN(h:Bb cx s g l a w){p q:UL}{b cap:Nat}{cur:Array Value}{e:TypeId}{e1:TypeId}(VJ:jU e1=e){size:Nat}{es ys:List (List PV)}(hp:QU s p)(hq:QU s q)(hU:l.U p=some b)(hM:g.M b=some (QM e1 (es.length * size)))
  (hh:w.heap[b]?=some (.cells cur e (0,0))) (CS:cur.size=cap * size) (hR:Ol g w e1 size es cap cur (.slice (some ⟨b,0,none⟩) es.length cap))
  (Kj:∀i (h:i<ys.length),ys[i].length=size) (news:List Value) (hn:AG g w ys.flatten news) (Ce:∀u∈news,u.oneCell'=true) (Gi:es.length+ys.length<=cap) :
  ∃g' l',Bb cx s g' l' a (w.setRow b (cur.toList.take (es.length * size)++news++cur.toList.drop (es.length * size+news.length)).toArray) /\
   C0 g w g' (w.setRow b (cur.toList.take (es.length * size)++news++cur.toList.drop (es.length * size+news.length)).toArray) /\
   Cq g' l' (w.setRow b (cur.toList.take (es.length * size)++news++cur.toList.drop (es.length * size+news.length)).toArray) q (.uniq e1 size (es++ys)) (.slice (some ⟨b,0,none⟩) (es.length+ys.length) cap):=by
 obtain ⟨hle,Di,J8,xs,hxr,hxl,A08,hxc⟩:=hR.flat hh CS
 have IE:news.length=ys.length * size:=by rw [<-hn.1,BR size ys Kj]
 have LS:es.length * size+news.length<=cur.size:=by rw [IE,CS,<-Nat.add_mul]; exact Nat.mul_le_mul_right _ Gi
 rw [A08]
 generalize A09:(xs++news++cur.toList.drop (es.length * size+news.length)).toArray=arr
 have jY:arr.size=cap * size:=by
  subst A09
  simp only [List.size_toArray,List.length_append,List.length_drop,Array.length_toList]
  omega
 have F8:∀j u,(xs++news)[j]?=some u->(w.setRow b arr).cell? ⟨b,j,none⟩=some u:=fun j u hu=>by
  have pL:=setRow_heap w b cur arr e _ hh
  simp only [World.cell?,pL]
  subst A09
  have hj:=(List.getElem?_eq_some_iff.1 hu).1
  simp only [Option.isSome_none,Bool.false_eq_true,↓reduceIte,List.getElem?_toArray]
  rw [List.getElem?_append_left hj]
  exact hu
 have hm:C0 g w { g with M:=Dz g.M b (some (QM e1 ((es++ys).length * size))) } (w.setRow b arr):=by
  refine ⟨fun _ _ e=>e,fun b' o v hc hf=>?_,Mh hh (jY.trans CS.symm),fun _ _ _ h=>h⟩
  by_cases hbb:b'=b
  ·subst hbb
   have ho:=hf _ hM
   have Ag:e1<1000000:=by
    by_cases Ag:e1<1000000
    ·exact Ag
    ·rw [pH Ag] at ho; omega
   rw [L1 Ag] at ho
   refine ⟨?_,fun k hk=>?_⟩
   ·have hxo:xs[o]?=some v:=by
     have QF:=(hxc o _ (List.getElem?_eq_getElem oM)).1
     rw [hc] at QF
     rw [List.getElem?_eq_getElem oM]
     exact QF.symm
    exact F8 o v (by rw [List.getElem?_append_left oM]; exact hxo)
   ·have QN:some (QM e1 ((es++ys).length * size))=some k:=by rw [<-hk]; exact (Bt _ _ _).symm
    injection QN with QN
    rw [L1 Ag,List.length_append,Nat.add_mul] at QN
    omega
  ·refine ⟨by rw [<-hc]; exact World.cell?_of_block (setRow_other w b b' arr hbb),fun k hk=>hf k ?_⟩
   rw [<-Ap g.M (some (QM e1 ((es++ys).length * size))) hbb]; exact hk
 have hob:=h.uo p b hU
 have h1:=h.jX hU hp hq
 have BN:∀ {r lv v},(r=q->∀e z es,lv≠LV.uniq e z es)->Cq g { l with U:=EJ (EJ l.U p none) q (some b),O:=Dz l.O b (some (.u q)) } w r lv v ->
   Cq { g with M:=Dz g.M b (some (QM e1 ((es++ys).length * size))) } { l with U:=EJ (EJ l.U p none) q (some b),O:=Dz l.O b (some (.u q)) } (w.setRow b arr) r lv v:=fun {r lv v} hn hr=>by
  by_cases hc:r=q
  ·exact hr.QU hm rfl (hn hc)
  ·refine hr.BN hm (fun _ _ _=>rfl) fun b' hu=>?_
   have D4:b'≠b:=by
    rintro rfl
    have:=h1.uo r b' hu
    simp only [Bt] at this
    injection this with this
    injection this with this
    exact hc this.symm
   exact ⟨hu,Ap _ _ D4,setRow_other w b b' arr D4⟩
 have hOb:∀ {b' o},Dz l.O b (some (Own.u q)) b'=some o->(∀r,o ≠ .u r)->b'≠b:=fun {b' o} ho hn e0=>by
  subst e0
  rw [Bt] at ho
  injection ho with ho
  exact hn q ho.symm
 refine ⟨{ g with M:=Dz g.M b (some (QM e1 ((es++ys).length * size))) },{ l with U:=EJ (EJ l.U p none) q (some b),O:=Dz l.O b (some (.u q)) },⟨⟨h.AV.mono.trans hm,by simpa using h.AV.size,fun b' Ag ho=>?_,h.AV.os,h.AV.tape,h.AV.output,h.AV.JH.mono hm⟩,h.size,h.defers,fun t lv ht=>BN ?_ (h1.tm t lv ht),?_,?_,?_,h1.uo,?_,?_⟩,hm,?_⟩
 ·have D4:b'≠b:=by
   rintro rfl
   rcases (h.own b' _ hob).2 with hb | hb
   ·omega
   ·exact ho hb
  obtain ⟨k1,k2⟩:=h.AV.frame b' Ag ho
  exact ⟨(setRow_other w b b' arr D4).trans k1,(Ap g.M _ D4).trans k2⟩
 ·rintro e0 e' z es' rfl
  subst e0; exact hq e' z es' ht
 ·intro i cs hi
  obtain ⟨b',k1,k2,k3,cur',e',k4,k5,k6⟩:=h1.bx i cs hi
  have D4:=hOb k2 sM
  refine ⟨b',k1,k2,(Ap _ _ D4).trans k3,cur',e',(setRow_other w b b' arr D4).trans k4,k5,fun j hj=>⟨(k6 j hj).1,(k6 j hj).2.1,BN ?_ (k6 j hj).2.2⟩⟩
  rintro e0 e2 z es' e1
  subst e0; exact hq cs hi e2 z es' (by rw [List.getElem?_eq_getElem hj,e1])
 ·intro i cs hi
  obtain ⟨b',k1,k2,hE⟩:=h1.ex i cs hi
  have D4:=hOb k2 sM
  refine ⟨b',k1,k2,?_⟩
  rcases hE with ⟨k3,cur',e',k4,k5,k6⟩ | hE
  rotate_left
  ·exact .inr (hE.BN hm (fun _ _ _ h=>h) (Ap _ _ D4) (setRow_other w b b' arr D4))
  refine .inl ⟨(Ap _ _ D4).trans k3,cur',e',(setRow_other w b b' arr D4).trans k4,k5,fun j hj=>⟨(k6 j hj).1,(k6 j hj).2.1,BN ?_ (k6 j hj).2.2⟩⟩
  rintro e0 e2 z es' e1
  subst e0; exact hq cs hi e2 z es' (by rw [List.getElem?_eq_getElem hj,e1])
 ·intro b' o ho
  simpa using h1.own b' o ho
 ·refine ⟨fun b' GY=>?_,h.fresh.2⟩
  have SD:w.heap.size<=b':=by simpa using GY
  have Ag:=(h.own b _ hob).1
  exact (Ap _ _ oM).trans (h.fresh.1 b' SD)
 ·intro n b' hx
  simpa using h.Gg n b' hx
 ·have jZ:∀i (h:i<(es++ys).length),(es++ys)[i].length=size:=by
   intro i hi
   rw [List.getElem_append]
   split
   ·exact J8 _ _
   ·exact Kj _ _
  have Bw:AG { g with M:=Dz g.M b (some (QM e1 ((es++ys).length * size))) } (w.setRow b arr) (es++ys).flatten (xs++news):=by
   have h2:=hxr.mono hm
   have h3:=hn.mono hm
   refine ⟨by simp only [List.flatten_append,List.length_append,h2.1,h3.1],fun j hj Cu=>?_⟩
   simp only [List.flatten_append]
   simp only [List.getElem_append]
   have hlen:es.flatten.length=xs.length:=h2.1
   split
   ·rename_i Ag
    rw [dif_pos oM]
    exact h2.2 _ _ _
   ·rename_i Ag
    rw [dif_neg oM]
    simp only [hlen]
    exact h3.2 _ _ _
  have k9:∀ (j:Nat) (u:Value),(xs++news)[j]?=some u->u.oneCell'=true:=fun j u hu=>by
   rcases List.mem_append.1 (List.mem_of_getElem? hu) with hx | hx
   ·obtain ⟨j',Sl,Ib⟩:=List.getElem_of_mem hx
    exact (hxc j' u (by rw [List.getElem?_eq_getElem Sl,Ib])).2
   ·exact Ce u hx
  refine .inr ⟨b,cap,arr,by simp,by simp [EJ],Bt _ _ _,by rw [VJ]; exact setRow_heap w b cur arr e _ hh,jY,fun Ag=>?_,fun CO=>⟨by simpa using Gi,Di,jZ,fun j hj=>?_⟩⟩
  ·rw [<-List.length_append]
   refine BJ.of_flat (by simpa using Gi) Di jZ (xs:=xs++news) Bw fun j u hu=>?_
   have hj:=(List.getElem?_eq_some_iff.1 hu).1
   refine ⟨by rw [QO]; exact F8 j u hu,fun k hk=>?_,k9 j u hu⟩
   have QN:some (QM e1 ((es++ys).length * size))=some k:=by rw [<-hk]; exact (Bt _ _ _).symm
   injection QN with QN
   rw [L1 Ag,List.length_append,Nat.add_mul] at QN
   rw [List.length_append] at hj
   simp only
   omega
  ·have Cu:j<(xs++news).length:=by rw [<-Bw.1]; exact hj
   have hu:=List.getElem?_eq_getElem Cu
   have hc:=F8 j _ hu
   have pL:=setRow_heap w b cur arr e _ hh
   simp only [World.cell?,pL] at hc
   have hg:arr.getD j undef=(xs++news)[j]:=by
    rw [Array.getD_eq_getD_getElem?]
    simp at hc
    rw [hc]
    rfl
   rw [hg]
   exact ⟨k9 j _ hu,Bw.2 j hj Cu⟩
def rowOf:List LV->Option (Nat × List Int)
 | [.row c ps]=>some (c,ps)
 | _=>none
theorem J9{cs:List LV}{c:Nat}{ps:List Int}(h:rowOf cs=some (c,ps)):cs=[.row c ps]:=by
 unfold rowOf at h
 split at h
 ·injection h with h; injection h with h1 h2; subst h1 h2; rfl
 ·cases h
theorem SE(h:Bb cx s g l a w){n c:Nat}{cs:List LV}{ps:List Int}(hi:lk s.ext n=some cs)(hc:rowOf cs=some (c,ps)) :
  ∃b,g.Y n c=some b/\l.O b=some (.x n)/\A03 g w n b c ps:=by
 have:=J9 hc
 subst this
 obtain ⟨b,h1,h2,hE⟩:=h.ex n _ hi
 rcases hE with hB | ⟨es,he,-⟩ | ⟨n',c',ps',e1,e2,hY⟩
 ·exact absurd rfl (hB.TI c ps)
 ·have:=he.inv
  injection this with h1 _
  cases h1
 ·injection e2 with e2 _
  injection e2 with e2 e3
  subst e2 e3
  have:n=n':=by
   have:=congrFun e1 0
   injection this
  subst this
  exact ⟨b,h1,h2,hY⟩
def Is(Y:Nat->Nat->Option Nat)(n c b:Nat):Nat->Nat->Option Nat:=fun n' c'=>if n'=n/\c'=c then some b else Y n' c'
theorem EV(Y:Nat->Nat->Option Nat)(n c b:Nat):Is Y n c b n c=some b:=by simp [Is]
theorem DF{Y:Nat->Nat->Option Nat}{n c b n' c':Nat}(h:¬(n'=n/\c'=c)):Is Y n c b n' c'=Y n' c':=by simp [Is,h]
theorem Bb.X9(h:Bb cx s g l a w){n c c2 b:Nat}{ps ps':List Int}{cur cur':Array Value}{e:TypeId}(hi:lk s.ext n=some [.row c ps])(hY:g.Y n c=some b)(hO:l.O b=some (.x n))(hF:∀c',c<c'->g.Y n c'=none)(hM:g.M b=some 0)
  (hh:w.heap[b]?=some (.cells cur e (0,0))) (Bq:cur'.size=cur.size) (hc:c2=c∨c<c2) (hlen:ps'.length<=cur'.size) (hr:∀j (hj:j<ps'.length),(cur'.getD j undef).oneCell'=true/\BJ g w (.int .i64 ps'[j]) (cur'.getD j undef)) :
  Bb cx { s with ext:=put s.ext n [.row c2 ps'] } { g with Y:=Is g.Y n c2 b } l a (w.setRow b cur'):=by
 have hYm:∀n' c' b',g.Y n' c'=some b'->Is g.Y n c2 b n' c'=some b':=fun n' c' b' hx=>by
  by_cases hq:n'=n/\c'=c2
  ·obtain ⟨rfl,rfl⟩:=hq
   rcases hc with rfl | hc
   ·rw [hY] at hx; rw [EV]; exact hx
   ·rw [hF _ hc] at hx; cases hx
  ·rw [DF hq]; exact hx
 have pM:C0 g w g (w.setRow b cur'):=DE hM hh Bq
 have hm:C0 g w { g with Y:=Is g.Y n c2 b } (w.setRow b cur'):=⟨pM.ext,pM.cell,pM.len,hYm⟩
 have D4:∀ {b' o},l.O b'=some o->o ≠ .x n->b'≠b:=fun {b' o} Mi hn e0=>by
  subst e0
  rw [hO] at Mi
  injection Mi with Mi
  exact hn Mi.symm
 have fO:∀ {b'},b'≠b->(w.setRow b cur').heap[b']?=w.heap[b']?:=fun {b'} hn=>setRow_other w b b' _ hn
 have hU:∀ {p b'},l.U p=some b'->l.U p=some b'/\g.M b'=g.M b'/\(w.setRow b cur').heap[b']?=w.heap[b']?:=fun {p b'} hu=>⟨hu,rfl,fO (D4 (h.uo _ _ hu) sM)⟩
 have hL:∀ {p lv v},Cq g l w p lv v->Cq { g with Y:=Is g.Y n c2 b } l (w.setRow b cur') p lv v:=fun hr=>hr.BN hm (fun _ _ _=>rfl) fun b hu=>hU hu
 have hH:=h.AV.setRow hM hh Bq (h.own b _ hO).2
 have hs2:(w.setRow b cur').heap.size=w.heap.size:=by simp
 refine ⟨⟨h.AV.mono.trans hm,hH.size,hH.frame,hH.os,hH.tape,hH.output,h.AV.JH.mono hm⟩,h.size,h.defers,fun t lv ht=>hL (h.tm t lv ht),?_,?_,?_,h.uo,?_,?_⟩
 ·intro k cs hk
  obtain ⟨b',k1,k2,k3,fP,e2,k4,k5,k6⟩:=h.bx k cs hk
  exact ⟨b',k1,k2,k3,fP,e2,(fO (D4 k2 sM)).trans k4,k5,fun j hj=>⟨(k6 j hj).1,(k6 j hj).2.1,hL (k6 j hj).2.2⟩⟩
 ·intro k cs hk
  simp only [Be] at hk
  split at hk
  ·rename_i ek
   subst ek
   injection hk with hk
   subst hk
   refine ⟨b,EV _ _ _ _,hO,.inr (.inr ⟨n,c2,ps',rfl,rfl,fun c' QF=>?_,hM,cur',e,setRow_heap w b cur cur' e _ hh,hlen,fun j hj=>⟨(hr j hj).1,(hr j hj).2.mono hm⟩⟩)⟩
   show Is g.Y n c2 b n c'=none
   rw [DF oM]
   exact hF c' oM
  ·rename_i ek
   obtain ⟨b',k1,k2,hE⟩:=h.ex k cs hk
   have hn:b'≠b:=D4 k2 (fun e0=>by injection e0 with e0; exact ek e0.symm)
   refine ⟨b',k1.mono hm,k2,?_⟩
   rcases hE with ⟨k3,fP,e2,k4,k5,k6⟩ | hE
   ·exact .inl ⟨k3,fP,e2,(fO hn).trans k4,k5,fun j hj=>⟨(k6 j hj).1,(k6 j hj).2.1,hL (k6 j hj).2.2⟩⟩
   ·refine .inr (hE.BN hm (fun n' c' hf hx=>?_) rfl (fO hn))
    have:n'=k:=by
     have:=congrFun hf 0
     injection this with h1 _
     exact h1.symm
    show Is g.Y n c2 b n' c'=none
    rw [DF (by rintro ⟨h1,-⟩; exact ek (h1.symm.trans this))]
    exact hx
 ·intro b' o ho
  rw [hs2]; exact h.own b' o ho
 ·refine ⟨fun b' GY=>h.fresh.1 b' (by rw [hs2] at GY; exact GY),fun k hk=>h.fresh.2.1 k (by rw [Dr hi] at hk; exact hk),fun k c' hk=>?_⟩
  have Ag:=JG hi
  rw [Dr hi] at hk
  show Is g.Y n c2 b k c'=none
  rw [DF oM]
  exact h.fresh.2.2 k c' hk
 ·intro k b' hx
  rw [hs2]; exact h.Gg k b' hx
theorem Bb.SF(h:Bb cx s g l a w)(n c2:Nat)(hF:∀c',c2<=c'->g.Y n c'=none)(WM:n<=DN s.ext)(cur:Array Value)(e:TypeId)(ps':List Int)(hlen:ps'.length<=cur.size)(hr:∀j (hj:j<ps'.length),(cur.getD j undef).oneCell'=true/\BJ g w (.int .i64 ps'[j]) (cur.getD j undef)) :
  Bb cx { s with ext:=put s.ext n [.row c2 ps'] } { g with M:=Dz g.M w.heap.size (some 0),Y:=Is g.Y n c2 w.heap.size } { l with O:=Dz l.O w.heap.size (some (.x n)) } a (w.alloc (.cells cur e)):=by
 have hb:∀b,b<w.heap.size->(w.alloc (.cells cur e)).heap[b]?=w.heap[b]?:=fun b hb=>Below.heap_alloc w _ b hb
 have hYm:∀n' c' b',g.Y n' c'=some b'->Is g.Y n c2 w.heap.size n' c'=some b':=fun n' c' b' hx=>by
  by_cases hq:n'=n/\c'=c2
  ·obtain ⟨rfl,rfl⟩:=hq
   rw [hF _ (Nat.le_refl _)] at hx; cases hx
  ·rw [DF hq]; exact hx
 have hm:C0 g w { g with M:=Dz g.M w.heap.size (some 0),Y:=Is g.Y n c2 w.heap.size } (w.alloc (.cells cur e)):=by
  refine ⟨fun _ _ e=>e,fun b o v hc hf=>?_,Eg hb,hYm⟩
  have Ag:=World.block_lt_of_cell? w _ hc
  refine ⟨by rw [<-hc]; exact World.cell?_of_block (hb b Ag),fun k hk=>hf k ?_⟩
  simp only at Ag
  rw [<-Ap g.M (some 0) (Nat.ne_of_lt Ag)]; exact hk
 have hU:∀ {p b},l.U p=some b->l.U p=some b/\Dz g.M w.heap.size (some 0) b=g.M b/\(w.alloc (.cells cur e)).heap[b]?=w.heap[b]?:=fun {p b} hu=>by
  have Ag:=(h.own b _ (h.uo _ _ hu)).1
  exact ⟨hu,Ap _ _ (Nat.ne_of_lt Ag),hb b Ag⟩
 have Bq:(w.alloc (.cells cur e)).heap.size=w.heap.size+1:=by simp
 refine ⟨⟨h.AV.mono.trans hm,by rw [Bq]; exact Nat.le_succ_of_le h.AV.size,fun b Ag ho=>?_,h.AV.os,h.AV.tape,h.AV.output,h.AV.JH.mono hm⟩,h.size,h.defers,?_,?_,?_,?_,?_,?_,?_⟩
 ·obtain ⟨h1,h2⟩:=h.AV.frame b Ag ho
  have CE:=Nat.lt_of_lt_of_le Ag h.AV.size
  exact ⟨(hb b CE).trans h1,(Ap g.M (some 0) (Nat.ne_of_lt CE)).trans h2⟩
 ·intro t lv ht
  exact (h.tm t lv ht).BN hm (fun _ _ _=>rfl) fun b hu=>hU hu
 ·intro k cs hk
  obtain ⟨b,h1,h2,h3,cur',e',h4,h5,h6⟩:=h.bx k cs hk
  have Ag:=(h.own b _ h2).1
  refine ⟨b,h1,(Ap _ _ (Nat.ne_of_lt Ag)).trans h2,(Ap _ _ (Nat.ne_of_lt Ag)).trans h3,cur',e',(hb b Ag).trans h4,h5,fun j hj=>⟨(h6 j hj).1,(h6 j hj).2.1,(h6 j hj).2.2.BN hm (fun _ _ _=>rfl) fun b hu=>hU hu⟩⟩
 ·intro k Ki hk
  simp only [Be] at hk
  split at hk
  ·rename_i ek
   subst ek
   injection hk with hk
   subst hk
   refine ⟨w.heap.size,EV _ _ _ _,Bt _ _ _,.inr (.inr ⟨n,c2,ps',rfl,rfl,fun c' QF=>?_,Bt _ _ _,cur,e,heap_alloc_new w _,hlen,fun j hj=>⟨(hr j hj).1,(hr j hj).2.mono hm⟩⟩)⟩
   show Is g.Y n c2 w.heap.size n c'=none
   rw [DF oM]
   exact hF c' oM
  ·rename_i ek
   obtain ⟨b,h1,h2,hE⟩:=h.ex k Ki hk
   have Ag:=(h.own b _ h2).1
   refine ⟨b,h1.mono hm,(Ap _ _ (Nat.ne_of_lt Ag)).trans h2,?_⟩
   rcases hE with ⟨h3,cur',e',h4,h5,h6⟩ | hE
   ·exact .inl ⟨(Ap _ _ (Nat.ne_of_lt Ag)).trans h3,cur',e',(hb b Ag).trans h4,h5,fun j hj=>⟨(h6 j hj).1,(h6 j hj).2.1,(h6 j hj).2.2.BN hm (fun _ _ _=>rfl) fun b hu=>hU hu⟩⟩
   ·refine .inr (hE.BN hm (fun n' c' hf hx=>?_) (Ap _ _ (Nat.ne_of_lt Ag)) (hb b Ag))
    have:n'=k:=by
     have:=congrFun hf 0
     injection this with h1 _
     exact h1.symm
    show Is g.Y n c2 w.heap.size n' c'=none
    rw [DF (by rintro ⟨h1,-⟩; exact ek (h1.symm.trans this))]
    exact hx
 ·intro b o ho
  simp only [Dz] at ho
  split at ho
  ·rename_i eb
   subst eb
   exact ⟨by rw [Bq]; omega,.inl h.AV.size⟩
  ·obtain ⟨k1,k2⟩:=h.own b o ho
   exact ⟨by rw [Bq]; omega,k2⟩
 ·intro p b hu
  have Ag:=(h.own b _ (h.uo _ _ hu)).1
  exact (Ap _ _ (Nat.ne_of_lt Ag)).trans (h.uo p b hu)
 ·refine ⟨fun b GY=>?_,fun k hk=>h.fresh.2.1 k (by simp only [FG] at hk; omega),fun k c' hk=>?_⟩
  ·rw [Bq] at GY
   exact (Ap _ _ oM).trans (h.fresh.1 b oM)
  ·simp only [FG] at hk
   show Is g.Y n c2 w.heap.size k c'=none
   rw [DF oM]
   exact h.fresh.2.2 k c' oM
 ·intro k b hx
  rw [Bq]
  exact Nat.lt_succ_of_lt (h.Gg k b hx)
end
def cv1:Value->Option PV
 | .bool b=>some (.bool b)
 | .int k n=>some (.int k n)
 | .string s=>some (.str s)
 | .pointer none=>some .Gf
 | .slice none 0 0=>some .A4
 | .nilFunc=>some .Mb
 | .nilIface=>some .Fz
 | .map none=>some .X3
 | _=>none
def eL:List Value->Option (List PV)
 | []=>some []
 | v::r=>match cv1 v,eL r with
  | some p,some ps=>some (p::ps)
  | _,_=>none
def cv:Value->Option PV
 | .agg cs=>(eL cs.toList).map .agg
 | v=>cv1 v
theorem TJ{g:Gh}{w:World}{v:Value}{p:PV}(h:cv1 v=some p):BJ g w p v/\v.oneCell'=true/\p.one=true:=by
 unfold cv1 at h
 split at h <;> first | (injection h with h; subst h; exact ⟨by constructor,rfl,rfl⟩) | cases h
theorem En{g:Gh}{w:World}:∀ {vs:List Value} {ps:List PV},eL vs=some ps->AG g w ps vs/\(∀v∈vs,v.oneCell'=true)/\∀p∈ps,p.one=true
 | [],ps,h=>by
  simp only [eL,Option.some.injEq] at h
  subst h
  exact ⟨.nil,by simp,by simp⟩
 | v::r,ps,h=>by
  simp only [eL] at h
  split at h
  ·rename_i p qs h1 h2
   injection h with h
   subst h
   have k1:=TJ (g:=g) (w:=w) h1
   have k2:=En (g:=g) (w:=w) h2
   exact ⟨.cons k1.1 k2.1,by simp only [List.mem_cons,forall_eq_or_imp]; exact ⟨k1.2.1,k2.2.1⟩,by simp only [List.mem_cons,forall_eq_or_imp]; exact ⟨k1.2.2,k2.2.2⟩⟩
  ·cases h
theorem AG.agg{g:Gh}{w:World}{ps:List PV}{vs:List Value}(h:AG g w ps vs)(ho:∀v∈vs,v.oneCell'=true):BJ g w (.agg ps) (.agg vs.toArray) := .agg ps vs h.1 ho h.2
theorem Xa{g:Gh}{w:World}{v:Value}{p:PV}(h:cv v=some p):BJ g w p v:=by
 unfold cv at h
 split at h
 ·rename_i cs
  simp only [Option.map_eq_some_iff] at h
  obtain ⟨ps,h1,rfl⟩:=h
  have:=En (g:=g) (w:=w) h1
  simpa using this.1.agg this.2.1
 ·exact (TJ h).1
def KW(P:Program)(t:TypeId):Option Nat:=(P.info? t).map (·.size)
def Fq(P:Program)(t:TypeId):Option Nat:=(P.info? t).map (·.bytes)
def LU(P:Program)(t:TypeId):Option Bool:=(P.underlying t).map fun
 | .struct _ | .array _ _=>true
 | _=>false
def Xb(P:Program)(t:TypeId)(f:Nat):Option (Nat × TypeId):=match P.underlying t with
 | some (.struct fs)=>(fs[f]?).map fun x=>(x.offset,x.type)
 | _=>none
def TK(P:Program)(t:TypeId):Option (List PV):=((P.info? t).bind (·.zero)).bind fun v=>eL v.cells.toList
def Gj(P:Program)(t:TypeId):Option TypeId:=match P.underlying t with
 | some (.slice e)=>some e
 | _=>none
def pN(P:Program)(t:TypeId):Option IntKind:=match P.underlying t with
 | some (.int k)=>some k
 | _=>none
theorem run_sizeOf{P:Program}{w:World}{t:TypeId}{n:Nat}(h:KW P t=some n):(sizeOf t).run P w = .ok n w:=by
 simp only [KW,Option.map_eq_some_iff] at h
 obtain ⟨i,h1,rfl⟩:=h
 simp [sizeOf,typeInfo,h1]
theorem Hf{P:Program}{w:World}{t:TypeId}{b:Bool}(h:LU P t=some b):(isAgg t).run P w = .ok b w:=by
 simp only [LU,Option.map_eq_some_iff] at h
 obtain ⟨d,h1,rfl⟩:=h
 simp only [isAgg,underlying,Sem.run_bind,run_program,Result.andThen_ok,h1,Sem.run_pure]
 cases d <;> rfl
inductive RM (α:Type) where
 | ret (a:α)
 | fail
 | It (t:Nat) (k:LV->RM α)
 | Iu (i:Nat) (k:List LV->RM α)
 | E6 (n:Nat) (k:List LV->RM α)
 | assume (p:Bool) (k:RM α)
def RM.wp{α:Type}:RM α->S->(α->Prop)->Prop
 | .ret a,_,K=>K a
 | .fail,_,_=>False
 | .It t k,s,K=>match lk s.tmps t with
  | some v=>(k v).wp s K
  | none=>False
 | .Iu i k,s,K=>match lk s.boxes i with
  | some v=>(k v).wp s K
  | none=>False
 | .E6 n k,s,K=>match lk s.ext n with
  | some v=>(k v).wp s K
  | none=>False
 | .assume p k,s,K=>p=true/\k.wp s K
inductive Wr where
 | tmp (t:Nat) (v:LV)
 | Dd (i:Nat) (ps:List PV)
 | cells (i off:Nat) (vs:List LV)
 | ext (n off:Nat) (vs:List LV)
def S.wr(s:S):Wr->S
 | .tmp t v=>{ s with tmps:=put s.tmps t v }
 | .Dd i ps=>{ s with tmps:=Lv i s.tmps,boxes:=put s.boxes i (ps.map .v) }
 | .cells i off vs=>match lk s.boxes i with
  | some cs=>{ s with boxes:=put s.boxes i (AI cs off vs) }
  | none=>s
 | .ext n off vs=>match lk s.ext n with
  | some cs=>{ s with ext:=put s.ext n (AI cs off vs) }
  | none=>s
def S.HY(s:S):List Wr->S
 | []=>s
 | x::r=>(s.wr x).HY r
def OH:List LV->Bool
 | [.mm _]=>false
 | [.row _ _]=>false
 | _=>true
theorem Hg{cs:List LV}(h:OH cs=true):Sx cs:=by
 refine ⟨fun es hs=>?_,fun c ps hs=>?_⟩
 ·have:=hs.inv
  subst this
  cases h
 ·subst hs
  cases h
def WN:LV->Option PV
 | .v p=>some p
 | .uniq e z es=>if e<1000000 then some (.sl z es) else none
 | .full z es=>some (.sl z es)
 | _=>none
theorem Xc{e:TypeId}{z:Nat}{es:List (List PV)}(h:e<1000000):WN (.uniq e z es)=some (.sl z es):=iP h
def VK:List LV->Option (List PV)
 | []=>some []
 | v::r=>match WN v,VK r with
  | some p,some ps=>some (p::ps)
  | _,_=>none
theorem Eo{g:Gh}{l:LG}{w:World}{u:UL}{lv:LV}{p:PV}{v:Value}(h:WN lv=some p)(hr:Cq g l w u lv v):BJ g w p v:=by
 cases lv with
 | v q=>simp only [WN,Option.some.injEq] at h; subst h; exact hr
 | lp i off=>cases h
 | uniq e z es=>
  simp only [WN] at h
  split at h
  case isFalse=>cases h
  rename_i Ag
  injection h with h
  subst h
  rcases hr with (⟨rfl,rfl⟩ | ⟨a,-,hr,-⟩) | ⟨b,cap,cur,-,-,-,-,-,hr⟩
  ·exact .slnil z
  ·exact hr
  ·exact hr.1 Ag
 | full z es=>
  simp only [WN,Option.some.injEq] at h
  subst h
  rcases hr with ⟨rfl,rfl⟩ | ⟨a,-,hr⟩
  ·exact .slnil z
  ·exact hr
 | Dx=>cases h
 | mm _=>cases h
 | row _ _=>cases h
def ev{α:Type}(x:Operand)(k:LV->RM α):RM α:=match x with
 | .tmp t => .It t k
 | .const c=>match cv c with
  | some p=>k (.v p)
  | none => .fail
 | .func f=>k (.v (.fn (.func f) [] []))
 | .global n=>match lk GLB n with
  | some cs=>k (.v (.ro cs 0))
  | none => .fail
def Fm{α:Type}(x:Operand)(k:PV->RM α):RM α:=ev x fun lv=>match WN lv with
 | some p=>k p
 | none => .fail
def kA{α:Type}:List Operand->(List PV->RM α)->RM α
 | [],k=>k []
 | x::r,k=>Fm x fun p=>kA r fun ps=>k (p::ps)
section
variable {cx:Cx} {s:S} {g:Gh} {l:LG} {a:Act} {w:World}
theorem C2{α:Type}{x:Operand}{k:LV->RM α}{K:α->Prop}(h:Bb cx s g l a w)(hw:(ev x k).wp s K):∃lv u,(k lv).wp s K/\Cq g l w u lv (a.eval x)/\(∀e z es,lv = .uniq e z es->∃t,x = .tmp t/\u = .t t/\lk s.tmps t=some lv):=by
 unfold ev at hw
 split at hw
 ·rename_i t
  simp only [RM.wp] at hw
  split at hw
  ·rename_i v hv; exact ⟨v,.t t,hw,h.tm t v hv,fun e z es _=>⟨t,rfl,rfl,hv⟩⟩
  ·exact hw.elim
 ·rename_i c
  split at hw
  ·rename_i p hp; exact ⟨.v p,.t 0,hw,Xa hp,fun e z es h=>by cases h⟩
  ·exact hw.elim
 ·rename_i f
  exact ⟨_,.t 0,hw,.fn (.func f) [] [] [] [] rfl rfl (fun j h=>by simp at h) (fun j h=>by simp at h),fun e z es h=>by cases h⟩
 ·rename_i n
  split at hw
  ·rename_i cs CS
   exact ⟨_,.t 0,hw,h.AV.JH n cs CS,fun e z es h=>by cases h⟩
  ·exact hw.elim
theorem AL{α:Type}{x:Operand}{k:PV->RM α}{K:α->Prop}(h:Bb cx s g l a w)(hw:(Fm x k).wp s K):∃p,(k p).wp s K/\BJ g w p (a.eval x):=by
 obtain ⟨lv,u,h1,h2,-⟩:=C2 h hw
 split at h1
 ·rename_i p hp; exact ⟨p,h1,Eo hp h2⟩
 ·exact h1.elim
theorem EW{α:Type}:∀ {xs:List Operand} {k:List PV->RM α} {K:α->Prop},Bb cx s g l a w->(kA xs k).wp s K->∃ps,(k ps).wp s K/\AG g w ps (xs.map a.eval)
 | [],k,K,_,hw=>⟨[],hw,.nil⟩
 | x::r,k,K,h,hw=>by
  obtain ⟨p,h1,h2⟩:=AL h hw
  obtain ⟨ps,h3,h4⟩:=EW h h1
  exact ⟨p::ps,h3,.cons h2 h4⟩
end
end Go.Pv
