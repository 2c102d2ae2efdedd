/- Values of Go as plain data, an evaluator over them, and what the functions of the program return; part Xc. -/
import Derived.Test.YtmllcplaohkjnaaGreatDoorXb
import Derived.Laws.StructEq
import Derived.Orders
import Derived.Recover
set_option linter.unusedVariables false
set_option linter.unusedSimpArgs false
set_option linter.unusedSectionVars false
namespace Go.Pv
open Go.RowKit
section
variable {P:Program} {cx:Cx} {s t:S} {g:Gh} {l:LG} {a:Act} {w:World} {o:Oper}
def EU:Bool->Int->Int->Int
 | true,i,j=>if j>i then j else i
 | false,i,j=>if j<i then j else i
def Y0(n:Nat)(o:Oper)(OJ:Bool)(x y:Operand):RM (List Wr):=Hj x fun p=>Hj y fun q=>match p,q with
 | .int k i,.int _ j=>wv n o (.v (.int k (EU OJ i j)))
 | _,_ => .fail
theorem Lw{OJ:Bool}{x y:Operand}{K:List Wr->Prop}(ho:(OJ=false/\∃ts,o.op = .call ⟨.builtin .min,⟨[x,y]⟩,ts⟩)∨(OJ=true/\∃ts,o.op = .call ⟨.builtin .max,⟨[x,y]⟩,ts⟩))(h:Bc cx s g l a w)(hw:(Y0 cx.n o OJ x y).wp s K):Be P cx s o K a w:=by
 obtain ⟨p,h1,r1⟩:=AZ h hw
 obtain ⟨q,h2,r2⟩:=AZ h h1
 split at h2
 ·rename_i k i k' j
  refine Be.pure h h2 (.int _ _) ?_
  have e1:a.eval x = .int k i:=by generalize a.eval x=v at r1; cases r1; rfl
  have e2:a.eval y = .int k' j:=by generalize a.eval y=v at r2; cases r2; rfl
  rcases ho with ⟨rfl,ts,ho⟩ | ⟨rfl,ts,ho⟩
  ·simp [execOp,ho,resolve,invoke,builtin,e1,e2,Builtin.min_,Builtin.min2,EU]
  ·simp [execOp,ho,resolve,invoke,builtin,e1,e2,Builtin.max_,Builtin.max2,EU]
 ·exact h2.elim
def x3(OJ:Bool):Int->List PV->Option Int
 | i,[]=>some i
 | i,.int _ j::r=>x3 OJ (EU OJ i j) r
 | _,_=>none
theorem Y1{OJ:Bool}{k:IntKind}:∀ {r:List PV} {i m:Int} {vs:List Value},x3 OJ i r=some m->AE g w r vs->(vs.foldlM (fun x y=>if OJ=true then Builtin.max2 x y else Builtin.min2 x y) (.int k i)).run P w = .ok (.int k m) w
 | [],i,m,vs,h,hr=>by
  have:=hr.PD
  subst this
  simp only [x3,Option.some.injEq] at h
  subst h
  simp
 | p::r,i,m,vs,h,hr=>by
  obtain ⟨v,fO,rfl,h1,h2⟩:=hr.Hf
  cases p with
  | int k' j=>
   cases h1
   simp only [x3] at h
   have ih:=Y1 (k:=k) h h2
   have e:(if OJ=true then Builtin.max2 (.int k i) (.int k' j) else Builtin.min2 (.int k i) (.int k' j))=pure (Value.int k (EU OJ i j)):=by
    cases OJ <;> rfl
   rw [List.foldlM_cons,e]
   simp only [Sem.run_bind,Sem.run_pure,Result.andThen_ok]
   exact ih
  | _=>simp [x3] at h
def Y2(n:Nat)(o:Oper)(OJ:Bool)(xs:List Operand):RM (List Wr):=kT xs fun ps=>match ps with
 | .int k i::r=>match x3 OJ i r with
  | some m=>wv n o (.v (.int k m))
  | none => .fail
 | _ => .fail
theorem Lx{OJ:Bool}{xs:List Operand}{K:List Wr->Prop}(ho:(OJ=false/\∃ts,o.op = .call ⟨.builtin .min,⟨xs⟩,ts⟩)∨(OJ=true/\∃ts,o.op = .call ⟨.builtin .max,⟨xs⟩,ts⟩))(h:Bc cx s g l a w)(hw:(Y2 cx.n o OJ xs).wp s K):Be P cx s o K a w:=by
 obtain ⟨ps,h1,r1⟩:=Fj h hw
 split at h1
 ·rename_i k i r
  split at h1
  ·rename_i m hm
   refine Be.pure h h1 (.int _ _) ?_
   obtain ⟨v,vs,hv,rv,rvs⟩:=r1.Hf
   have ev:v = .int k i:=by cases rv; rfl
   subst ev
   have e:=Y1 (P:=P) (k:=k) hm rvs
   rcases ho with ⟨rfl,ts,ho⟩ | ⟨rfl,ts,ho⟩
   ·simp only [Bool.false_eq_true,if_false] at e
    simp [execOp,ho,resolve,invoke,builtin,Builtin.min_,hv,e]
   ·simp only [if_true] at e
    simp [execOp,ho,resolve,invoke,builtin,Builtin.max_,hv,e]
  ·exact h1.elim
 ·exact h1.elim
def A75(P:Program)(t:TypeId):Bool:=match P.underlying t with
 | some (.struct _)=>true
 | _=>false
def eq1(P:Program)(t:TypeId)(p q:PV):Option Bool:=match P.underlying t,p,q with
 | some .bool,.bool a,.bool b=>some (a==b)
 | some (.int _),.int k a,.int k' b=>if k=k' then some (a==b) else none
 | some .string,.str a,.str b=>some (a.toList==b.toList)
 | _,_,_=>none
theorem gB{t:TypeId}{p q:PV}{b:Bool}{u v:Value}(h:eq1 P t p q=some b)(r1:BO g w p u)(r2:BO g w q v)(d:Nat):(Op.equalIn (d+1) t u v).run P w = .ok b w:=by
 unfold eq1 at h
 split at h
 ·rename_i hu; injection h with h; subst h; cases r1; cases r2; exact run_equalIn_bool' w d t _ _ hu
 ·rename_i hu
  split at h
  ·rename_i hk; subst hk; injection h with h; subst h; cases r1; cases r2; exact run_equalIn_int w d t _ _ _ _ hu
  ·cases h
 ·rename_i hu; injection h with h; subst h; cases r1; cases r2; exact run_equalIn_string w d t _ _ hu
 ·cases h
def Wd(P:Program)(xs ys:List PV):List Field->Option Bool
 | []=>some true
 | f::fs=>if f.name ≠ "_" then (match Oc P f.type xs f.offset,Oc P f.type ys f.offset with
   | some p,some q=>match eq1 P f.type p q,Wd P xs ys fs with
    | some b,some r=>some (b&&r)
    | _,_=>none
   | _,_=>none) else Wd P xs ys fs
theorem MR{xs ys:List PV}{vx vy:List Value}(hx:AE g w xs vx)(ox:∀v∈vx,v.oneCell'=true)(hy:AE g w ys vy)(oy:∀v∈vy,v.oneCell'=true)(d:Nat):∀ {fs:List Field} {b:Bool},Wd P xs ys fs=some b->(Op.eqFields (d+1) vx.toArray vy.toArray fs).run P w = .ok b w
 | [],b,h=>by
  simp only [Wd,Option.some.injEq] at h
  subst h
  simp [Op.eqFields]
 | f::fs,b,h=>by
  simp only [Wd] at h
  simp only [Op.eqFields]
  split at h
  ·rename_i hn
   rw [iP hn]
   split at h
   ·rename_i p q hp hq
    obtain ⟨u,k1,k2⟩:=Hl (P:=P) hp hx ox
    obtain ⟨v,k3,k4⟩:=Hl (P:=P) hq hy oy
    split at h
    ·rename_i b1 b2 h1 h2
     injection h with h
     subst h
     have e1:=gB (P:=P) h1 k2 k4 d
     have ih:=MR hx ox hy oy d h2
     simp only [Sem.run_bind,k1,k3,e1,Result.andThen_ok]
     cases b1 with
     | false=>simp
     | true=>simpa using ih
    ·cases h
   ·cases h
  ·rename_i hn
   rw [iN hn]
   exact MR hx ox hy oy d h
def To(P:Program)(n:Nat)(o:Oper)(op:BinOp)(ty:TypeId)(x y:Operand):RM (List Wr):=match P.underlying ty,isEq op with
 | some (.struct fs),some pos=>if (P.stoodInHeld ty||P.eqGuardType P.depth ty)=true then .fail else Hj x fun p=>Hj y fun q=>match p,q with
  | .agg xs,.agg ys=>match Wd P xs ys fs.toList with
   | some b=>wv n o (.v (.bool (if pos then b else !b)))
   | none => .fail
  | _,_ => .fail
 | _,_ => .fail
theorem Q3{op:BinOp}{ty yt:TypeId}{x y:Operand}{K:List Wr->Prop}(ho:o.op = .binOp op ty x y yt)(h:Bc cx s g l a w)(hw:(To P cx.n o op ty x y).wp s K):Be P cx s o K a w:=by
 unfold To at hw
 split at hw
 ·rename_i fs pos hu Ho
  split at hw
  ·exact hw.elim
  ·rename_i hc
   simp only [Bool.or_eq_true,not_or,Bool.not_eq_true] at hc
   obtain ⟨p,h1,r1⟩:=AZ h hw
   obtain ⟨q,h2,r2⟩:=AZ h h1
   have hex:∀v,(eqGuard op ty x y (a.eval x) (a.eval y)).run P w = .ok () w->(binOp op ty (a.eval x) (a.eval y)).run P w = .ok v w->(execOp a.eval o).run P w = .ok (.value v) w:=by
    intro v hg hv
    simp only [execOp,ho,Sem.run_bind,hg,Result.andThen_ok,hv,Sem.run_pure]
   generalize a.eval x=vx at r1 hex
   generalize a.eval y=vy at r2 hex
   split at h2
   ·rename_i xs ys
    split at h2
    ·rename_i b hb
     cases r1 with
     | agg _ vs hl eV hr=>
      cases r2 with
      | agg _ vs2 hl2 gC hr2=>
       refine Be.pure h h2 (.bool _) (hex _ (run_eqGuard_agg w op ty x y _ _ hc.2) ?_)
       have hf:P.fieldsOf ty=fs:=by simp only [Program.fieldsOf,hu]
       have e1:=MR (P:=P) ⟨hl,hr⟩ eV ⟨hl2,hr2⟩ gC 9998 hb
       have e2:(Op.equalIn 10000 ty (.agg vs.toArray) (.agg vs2.toArray)).run P w = .ok b w:=by
        rw [run_equalIn_agg w 9999 ty _ _ (by rw [hf]; exact hu) hc.1,hf]
        exact e1
       cases op <;> simp only [isEq] at Ho <;> first | (cases Ho; done) | skip
       ·injection Ho with Ho; subst Ho
        rw [run_eql_struct,e2]; rfl
       ·injection Ho with Ho; subst Ho
        rw [run_neq_struct,e2]; rfl
    ·exact h2.elim
   ·exact h2.elim
 ·exact hw.elim
def act(P:Program)(ro:TypeId->Option Bool)(n:Nat)(ops:List Oper)(o:Oper):RM (List Wr):=match o.op with
 | .move x=>mv n ops o false x
 | .assign x=>mv n ops o true x
 | .pick c x y=>Mf n o c x y
 | .alloc ty=>if (ro ty).isNone=true then .fail else MH P n o ty
 | .box ty x=>XM ro n o ty x
 | .build ty ps=>MJ P n o ty ps
 | .buildSlice ty len ps=>XO P n o ty len ps
 | .load ty x=>Uk P n ops o ty x
 | .store ty x y=>MO P o ty x y
 | .nilCheck x=>XH P n o x
 | .binOp op ty x y _=>if A75 P ty=true then To P n o op ty x y else XD P n o op ty x y
 | .unOp op _ x=>kU n o op x
 | .convert src dst x=>if (P.underlying src).isSome=true then Uj P n o dst x else .fail
 | .makeInterface ty x=>XF P n o ty x
 | .makeFunc fn f c=>XG n o fn f c
 | .fieldAddr ty x f=>XI P n o ty x f
 | .field ty x f=>ME P n o ty x f
 | .indexAddr ty x i=>XK P n o ty x i
 | .extract x i=>kX n o x i
 | .typeAssert x _ ty ok=>XL P n o x ty ok
 | .mapUpdate ty m k x=>Up P o ty m k x
 | .insert ty m k x=>Up P o ty m k x
 | .lookup ty x k ok=>XW P n o ty x k ok
 | .index ty x i=>Tl P n o ty x i
 | .slice ty x lo hi none=>XZ P n o ty x lo hi
 | .call ⟨.builtin .len,⟨[x]⟩,⟨[ty]⟩⟩=>Td P n o ty x
 | .call ⟨.builtin .min,⟨[x,y]⟩,_⟩=>Y0 n o false x y
 | .call ⟨.builtin .max,⟨[x,y]⟩,_⟩=>Y0 n o true x y
 | .call ⟨.builtin .min,⟨x::y::z::r⟩,_⟩=>Y2 n o false (x::y::z::r)
 | .call ⟨.builtin .max,⟨x::y::z::r⟩,_⟩=>Y2 n o true (x::y::z::r)
 | .call ⟨.builtin .append,⟨[x,y]⟩,⟨[ty,gD]⟩⟩=>if ty=gD then Ti P n o ty x y else .fail
 | _ => .fail
theorem Gd{ro:TypeId->Option Bool}{ops:List Oper}{K:List Wr->Prop}(h:Bc cx s g l a w)(hw:(act P ro cx.n ops o).wp s K):Be P cx s o K a w:=by
 unfold act at hw
 split at hw
 ·rename_i x ho; exact Rh h hw (by simp [execOp,ho])
 ·rename_i x ho; exact Rh h hw (by simp [execOp,ho])
 ·rename_i c x y ho; exact Od ho h hw
 ·rename_i ty ho
  split at hw
  ·exact hw.elim
  ·exact MI ho h hw
 ·rename_i ty x ho; exact PT ho h hw
 ·rename_i ty ps ho; exact MK ho h hw
 ·rename_i ty len ps ho; exact Rt ho h hw
 ·rename_i ty x ho; exact Oe ho h hw
 ·rename_i ty x y ho; exact MP ho h hw
 ·rename_i x ho; exact PR ho h hw
 ·rename_i op ty x y yt ho
  split at hw
  ·exact Q3 ho h hw
  ·exact PJ ho h hw
 ·rename_i op ty x ho; exact Ri ho h hw
 ·rename_i src dst x ho
  split at hw
  ·rename_i hs; exact Oa ho hs h hw
  ·exact hw.elim
 ·rename_i ty x ho; exact PK ho h hw
 ·rename_i fn f c ho; exact PN ho h hw
 ·rename_i ty x f ho; exact Rm ho h hw
 ·rename_i ty x f ho; exact MF ho h hw
 ·rename_i ty x i ho; exact Rn ho h hw
 ·rename_i x i ho; exact Ro ho h hw
 ·rename_i x xt ty ok ho; exact Rp ho h hw
 ·rename_i ty m k x ho; exact Lv (.inl ho) h hw
 ·rename_i ty m k x ho; exact Lv (.inr ho) h hw
 ·rename_i ty x k ok ho; exact RC ho h hw
 ·rename_i ty x i ho; exact Q1 ho h hw
 ·rename_i ty x lo hi ho; exact RD ho h hw
 ·rename_i x ty ho; exact PS ho h hw
 ·rename_i x y ts ho; exact Lw (.inl ⟨rfl,ts,ho⟩) h hw
 ·rename_i x y ts ho; exact Lw (.inr ⟨rfl,ts,ho⟩) h hw
 ·rename_i x y z r ts ho; exact Lx (.inl ⟨rfl,ts,ho⟩) h hw
 ·rename_i x y z r ts ho; exact Lx (.inr ⟨rfl,ts,ho⟩) h hw
 ·rename_i x y ty gD ho
  split at hw
  ·rename_i he; subst he; exact Q0 ho h hw
  ·exact hw.elim
 ·exact hw.elim
theorem CO{next next':Act->World->Prop}{Q:Exit->Act->World->Prop}{r:Result Next}(hn:∀a w,next a w->next' a w)(h:o.upon P a next Q r):o.upon P a next' Q r:=by
 unfold Oper.upon at h ⊢
 split at h
 ·exact hn _ _ h
 ·exact hn _ _ h
 ·exact hn _ _ h
 ·refine h.mono ?_
  intro e w' he
  cases e with
  | returned v=>exact hn _ _ he
  | panicked ch=>exact he
  | outgrown=>exact he
 ·exact h.mono fun v w' hv=>hn _ _ hv
 ·exact h
 ·exact h
def PL(P:Program)(cx:Cx)(all:Array Oper)(ls:List Oper)(s:S)(Q:A7->S->Prop):Prop:=∀g l a w,Bc cx s g l a w->wpList P all (post cx Q) ls a w
def S.skip(s:S)(o:Oper):S:=match o.dst with
 | some d=>{ s with tmps:=put s.tmps d (.v (.B6 [])) }
 | none=>s
theorem MS{all:Array Oper}{Q:A7->S->Prop}(h:Q .normal s):PL P cx all [] s Q:=fun g l _ _ hs=>wpList_nil ⟨.normal,s,g,l,h,trivial,hs⟩
def MT(want:Bool):LV->Option Bool
 | .v (.bool b)=>some (b==want)
 | .v (.B6 _)=>some false
 | _=>none
theorem JK{all:Array Oper}{j dj:Nat}{want b:Bool}{lv:LV}(hd:(all[j]?).bind (·.dst)=some dj)(hn:dj<cx.n)(h:Bc cx s g l a w)(hl:lk s.tmps dj=some lv)(hw:MT want lv=some b):(yielded all a.tmps j==some want)=b:=by
 have hr:=h.tm dj lv hl
 have hs:a.tmps[dj]?=some (a.tmps.getD dj undef):=by
  have:dj<a.tmps.size:=by rw [h.size]; exact hn
  simp [this]
 unfold yielded
 rw [hd,Option.bind_some,hs]
 generalize a.tmps.getD dj undef=v at hr
 unfold MT at hw
 split at hw
 ·rename_i b0
  cases hr
  simp only [Option.some.injEq] at hw
  rw [<-hw]
  cases want <;> cases b0 <;> rfl
 ·cases hr
  simp only [Option.some.injEq] at hw
  rw [<-hw]
  cases want <;> rfl
 ·cases hw
def F0(n:Nat):List Oper->Bool
 | []=>true
 | o::r=>(match o.dst with | some d=>decide (d<n) | none=>true)&&F0 n r
theorem RM.wp_mono{α:Type}{K K':α->Prop}(hk:∀x,K x->K' x):∀ {r:RM α},r.wp s K->r.wp s K'
 | .ret _,h=>hk _ h
 | .fail,h=>h
 | .Il t k,h=>by
  simp only [RM.wp] at h ⊢
  split at h
  ·rename_i v hv; exact RM.wp_mono hk h
  ·exact h.elim
 | .Im t k,h=>by
  simp only [RM.wp] at h ⊢
  split at h
  ·rename_i v hv; exact RM.wp_mono hk h
  ·exact h.elim
 | .G3 t k,h=>by
  simp only [RM.wp] at h ⊢
  split at h
  ·rename_i v hv; exact RM.wp_mono hk h
  ·exact h.elim
 | .assume p k,h=>⟨h.1,RM.wp_mono hk h.2⟩
theorem DF{n:Nat}:∀ {ls:List Oper},F0 n ls=true->∀ {o:Oper},o∈ls->∀d,o.dst=some d->d<n
 | [],_,o,ho,_,_=>by simp at ho
 | x::r,h,o,ho,d,hd=>by
  simp only [F0,Bool.and_eq_true] at h
  rcases List.mem_cons.1 ho with rfl | ho
  ·have h1:=h.1
   rw [hd] at h1
   simpa using h1
  ·exact DF h.2 ho d hd
end
abbrev Ext:=List (Nat × List LV)
inductive Cd where
 | ret (p:PV)
 | own (e:TypeId) (z:Nat) (es:List (List PV))
 | panic (p:PV)
def lx(l:LG):LG where
 L:=fun _=>none
 U:=fun p=>match p with
  | .x n o=>l.U (.x n o)
  | _=>none
 O:=fun b=>match l.O b with
  | some (.x n)=>some (.x n)
  | some (.u (.x n o))=>some (.u (.x n o))
  | _=>none
structure SV (e:Ext) (g:Gh) (l:LG) (w:World):Prop where
 ex:∀x cs,lk e x=some cs->∃b,XR g x cs b/\l.O b=some (.x x)/\VU g l w (.x x) b cs
 OK:∀b o,l.O b=some o->b<w.heap.size
 uo:∀p b,l.U p=some b->l.O b=some (.u p)
 fresh:(∀b,w.heap.size<=b->g.M b=none)/\(∀n,El e<=n->g.X n=none)/\∀n c,El e<=n->g.Y n c=none
 Gg:∀n b,g.X n=some b->b<w.heap.size
 only:∀b o,l.O b=some o->(∃n,o = .x n)∨∃n k,o = .u (.x n k)
 Jj:Xt g w
def OL(g:Gh)(l:LG)(ok:Nat->Prop)(w:World):Cd->Ending->Prop
 | .ret p,.returned v=>BO g w p v
 | .own e z es,.returned v=>e<1000000/\(((v = .slice none 0 0/\es=[])∨∃a,v = .slice (some a) es.length es.length/\BO g w (.sl z es) v) ∨
   ∃b cap cur,v = .slice (some ⟨b,0,none⟩) es.length cap/\ok b/\b<w.heap.size/\l.O b=none/\g.M b=some (es.length * z)/\w.heap[b]?=some (.cells cur e (0,0))/\cur.size=cap * z/\BO g w (.sl z es) v)
 | .panic p,.panicked ch=>∃v,ch=[{ v,recovered:=false }]/\BO g w p v
 | _,_=>False
def BX(P:Program)(f:FuncId)(args:List PV)(e:Ext)(R:Cd->Ext->Prop):Prop:=
 ∀vs g l w,AE g w args vs->SV e g l w->Calls P f vs.toArray w fun en w'=>∃res e' g' l',R res e'/\OL g' l' (fun b=>w.heap.size<=b∨(l.O b).isSome=true) w' res en/\SV e' g' l' w'/\Ch g w g' w'/\w.heap.size<=w'.heap.size /\
  (∀b,b<w.heap.size->l.O b=none->w'.heap[b]?=w.heap[b]?/\g'.M b=g.M b)/\(∀b o,l'.O b=some o->w.heap.size<=b∨(l.O b).isSome=true)/\w'.os=w.os/\w'.tape=w.tape/\w'.output=w.output
theorem BX.mono{P:Program}{f:FuncId}{args:List PV}{e:Ext}{R R':Cd->Ext->Prop}(h:BX P f args e R)(hr:∀res e',R res e'->R' res e'):BX P f args e R':=fun vs g l w ha he=>
 (h vs g l w ha he).mono fun _ _ ⟨res,e',g',l',h1,h2⟩=>⟨res,e',g',l',hr _ _ h1,h2⟩
section
variable {P:Program} {cx:Cx} {s t:S} {g:Gh} {l:LG} {a:Act} {w:World} {o:Oper}
theorem Cm.lx{n k:Nat}{lv:LV}{v:Value}(hn:lv.Mz=true)(h:Cm g l w (.x n k) lv v):Cm g (Pv.lx l) w (.x n k) lv v:=
 h.BK (Ch.refl g w) (fun i off e=>by rw [e] at hn; cases hn) fun b hb=>⟨hb,rfl,rfl⟩
theorem Bc.pU(h:Bc cx s g l a w):SV s.ext g (lx l) w where
 ex x cs hx:=by
  obtain ⟨b,h1,h2,hE⟩:=h.ex x cs hx
  refine ⟨b,h1,by simp [lx,h2],?_⟩
  rcases hE with ⟨h3,cur,e,h4,h5,h6⟩ | hE
  ·exact .inl ⟨h3,cur,e,h4,h5,fun j hj=>⟨(h6 j hj).1,(h6 j hj).2.1,(h6 j hj).2.2.lx (h6 j hj).1⟩⟩
  ·exact .inr hE
 OK b o ho:=by
  simp only [lx] at ho
  split at ho
  ·rename_i n hn; exact (h.own b _ hn).1
  ·rename_i n k hn; exact (h.own b _ hn).1
  ·cases ho
 uo p b hu:=by
  simp only [lx] at hu ⊢
  split at hu
  ·rename_i n k
   have:=h.uo _ _ hu
   rw [this]
  ·cases hu
 fresh:=h.fresh
 Gg:=h.Gg
 Jj:=h.AM.Jj
 only b o ho:=by
  simp only [lx] at ho
  split at ho
  ·injection ho with ho; exact .inl ⟨_,ho.symm⟩
  ·injection ho with ho; exact .inr ⟨_,_,ho.symm⟩
  ·cases ho
def Ff(l l':LG):LG where
 L:=l.L
 U:=fun p=>match p with
  | .x n o=>l'.U (.x n o)
  | p=>l.U p
 O:=fun b=>match l'.O b with
  | some o=>some o
  | none=>match l.O b with
   | some (.x _)=>none
   | some (.u (.x _ _))=>none
   | o=>o
theorem Bc.back{e':Ext}{g':Gh}{l':LG}{w':World}(h:Bc cx s g l a w)(he:SV e' g' l' w')(hm:Ch g w g' w')(Cb:w.heap.size<=w'.heap.size)
  (Tq:∀b,b<w.heap.size->(lx l).O b=none->w'.heap[b]?=w.heap[b]?/\g'.M b=g.M b) (MU:∀b o,l'.O b=some o->w.heap.size<=b∨((lx l).O b).isSome=true)
  (os:w'.os=w.os) (tape:w'.tape=w.tape) (output:w'.output=w.output):Bc cx { s with ext:=e' } g' (Ff l l') a w':=by
 have zG:∀ {b o},l.O b=some o->(∀n,o ≠ .x n)->(∀n k,o ≠ .u (.x n k))->(lx l).O b=none:=fun {b o} ho h1 h2=>by
  simp only [lx,ho]
  split
  ·rename_i n e0; injection e0 with e0; exact absurd e0 (h1 n)
  ·rename_i n k e0; injection e0 with e0; exact absurd e0 (h2 n k)
  ·rfl
 have Hp:∀ {b o},l.O b=some o->(∀n,o ≠ .x n)->(∀n k,o ≠ .u (.x n k))->(Ff l l').O b=some o/\w'.heap[b]?=w.heap[b]?/\g'.M b=g.M b:=fun {b o} ho h1 h2=>by
  have Ad:=(h.own b o ho).1
  have hx:=zG ho h1 h2
  have Tr:l'.O b=none:=by
   cases hb:l'.O b with
   | none=>rfl
   | some o'=>
    rcases MU b o' hb with hc | hc
    ·omega
    ·rw [hx] at hc; cases hc
  refine ⟨?_,Tq b Ad hx⟩
  simp only [Ff,Tr,ho]
  split
  ·rename_i n e0; injection e0 with e0; exact absurd e0 (h1 n)
  ·rename_i n k e0; injection e0 with e0; exact absurd e0 (h2 n k)
  ·rfl
 have IC:∀ {p lv v},(∀n k,p≠UL.x n k)->Cm g l w p lv v->Cm g' (Ff l l') w' p lv v:=fun {p lv v} hp hr=>
  hr.BK hm (fun _ _ _=>rfl) fun b hu=>by
   obtain ⟨k1,k2,k3⟩:=Hp (h.uo p b hu) sM (fun n k e0=>by injection e0 with e0; exact hp n k e0)
   refine ⟨?_,k3,k2⟩
   cases p with
   | x n k=>exact absurd rfl (hp n k)
   | t i=>exact hu
   | b i k=>exact hu
 refine ⟨⟨h.AM.mono.trans hm,Nat.le_trans h.AM.size Cb,fun b Ad ho=>?_,os.trans h.AM.os,tape.trans h.AM.tape,output.trans h.AM.output,h.AM.Jj.mono hm⟩,h.size,h.defers,fun t lv ht=>IC sM (h.tm t lv ht),?_,?_,?_,?_,he.fresh,he.Gg⟩
 ·obtain ⟨h1,h2⟩:=h.AM.frame b Ad ho
  have CL:=Nat.lt_of_lt_of_le Ad h.AM.size
  have hx:(lx l).O b=none:=by
   cases hb:(lx l).O b with
   | none=>rfl
   | some o=>
    have:(l.O b).isSome=true:=by
     simp only [lx] at hb
     split at hb
     ·rename_i hn; rw [hn]; rfl
     ·rename_i hn; rw [hn]; rfl
     ·cases hb
    obtain ⟨o',MD⟩:=Option.isSome_iff_exists.1 this
    rcases (h.own b o' MD).2 with hc | hc
    ·omega
    ·exact absurd hc ho
  obtain ⟨k1,k2⟩:=Tq b CL hx
  exact ⟨k1.trans h1,k2.trans h2⟩
 ·intro i cs hi
  obtain ⟨b,h1,h2,h3,cur,e,h4,h5,h6⟩:=h.bx i cs hi
  obtain ⟨k1,k2,k3⟩:=Hp h2 sM sM
  exact ⟨b,h1,k1,k3.trans h3,cur,e,k2.trans h4,h5,fun j hj=>⟨(h6 j hj).1,(h6 j hj).2.1,IC sM (h6 j hj).2.2⟩⟩
 ·intro x cs hx
  obtain ⟨b,h1,h2,hE⟩:=he.ex x cs hx
  refine ⟨b,h1,by simp [Ff,h2],?_⟩
  rcases hE with ⟨h3,cur,e,h4,h5,h6⟩ | hE
  rotate_left
  ·exact .inr hE
  refine .inl ⟨h3,cur,e,h4,h5,fun j hj=>⟨(h6 j hj).1,(h6 j hj).2.1,?_⟩⟩
  exact (h6 j hj).2.2.BK (Ch.refl _ _) (fun i off e0=>by have:=(h6 j hj).1; rw [e0] at this; cases this) fun b hb=>⟨hb,rfl,rfl⟩
 ·intro b o ho
  simp only [Ff] at ho
  split at ho
  ·rename_i o' MD
   refine ⟨he.OK b o' MD,?_⟩
   rcases MU b o' MD with hc | hc
   ·exact .inl (Nat.le_trans h.AM.size hc)
   ·have:(l.O b).isSome=true:=by
     simp only [lx] at hc
     split at hc
     ·rename_i hn; rw [hn]; rfl
     ·rename_i hn; rw [hn]; rfl
     ·cases hc
    obtain ⟨o2,gC⟩:=Option.isSome_iff_exists.1 this
    exact (h.own b o2 gC).2
  ·split at ho
   ·cases ho
   ·cases ho
   ·exact ⟨Nat.lt_of_lt_of_le (h.own b o ho).1 Cb,(h.own b o ho).2⟩
 ·intro p b hu
  simp only [Ff] at hu
  split at hu
  ·rename_i n k
   have:=he.uo _ _ hu
   simp [Ff,this]
  ·rename_i hp
   exact (Hp (h.uo p b hu) sM (fun n k e0=>by injection e0 with e0; exact hp n k e0)).1
end
section
variable {P:Program} {cx:Cx} {s t:S} {g:Gh} {l:LG} {a:Act} {w:World} {o:Oper}
theorem Bc.zH(h:Bc cx s g l a w){q:UL}{b:Nat}(hq:Rg s q)(hb:l.O b=none)(Ad:b<w.heap.size)(Eu:cx.w0.heap.size<=b∨cx.VS b) :
  Bc cx s g { l with U:=F7 l.U q (some b),O:=ET l.O b (some (.u q)) } a w:=by
 have Ct:∀ {b' o},l.O b'=some o->b'≠b:=fun {b' o} ho e0=>by subst e0; rw [hb] at ho; cases ho
 have BK:∀ {r lv v},(r=q->∀e z es,lv≠LV.uniq e z es)->Cm g l w r lv v->Cm g { l with U:=F7 l.U q (some b),O:=ET l.O b (some (.u q)) } w r lv v:=fun {r lv v} hn hr=>by
  by_cases hc:r=q
  ·exact hr.Rg (Ch.refl g w) rfl (hn hc)
  ·exact hr.BK (Ch.refl g w) (fun _ _ _=>rfl) fun b' hu=>⟨by simp [F7,hc,hu],rfl,rfl⟩
 refine ⟨h.AM,h.size,h.defers,fun t lv ht=>BK ?_ (h.tm t lv ht),?_,?_,?_,?_,h.fresh,h.Gg⟩
 ·rintro e0 e' z es rfl
  subst e0; exact hq e' z es ht
 ·intro i cs hi
  obtain ⟨b',h1,h2,h3,cur,e,h4,h5,h6⟩:=h.bx i cs hi
  refine ⟨b',h1,(Aq _ _ (Ct h2)).trans h2,h3,cur,e,h4,h5,fun j hj=>⟨(h6 j hj).1,(h6 j hj).2.1,BK ?_ (h6 j hj).2.2⟩⟩
  rintro e0 e' z es e1
  subst e0; exact hq cs hi e' z es (by rw [List.getElem?_eq_getElem hj,e1])
 ·intro i cs hi
  obtain ⟨b',h1,h2,hE⟩:=h.ex i cs hi
  refine ⟨b',h1,(Aq _ _ (Ct h2)).trans h2,?_⟩
  rcases hE with ⟨h3,cur,e,h4,h5,h6⟩ | hE
  rotate_left
  ·exact .inr hE
  refine .inl ⟨h3,cur,e,h4,h5,fun j hj=>⟨(h6 j hj).1,(h6 j hj).2.1,BK ?_ (h6 j hj).2.2⟩⟩
  rintro e0 e' z es e1
  subst e0; exact hq cs hi e' z es (by rw [List.getElem?_eq_getElem hj,e1])
 ·intro b' o ho
  simp only [ET] at ho
  split at ho
  ·rename_i e0; subst e0; exact ⟨Ad,Eu⟩
  ·exact h.own b' o ho
 ·intro r b' hu
  simp only [F7] at hu
  split at hu
  ·rename_i e0; subst e0; injection hu with hu; subst hu; exact BJ _ _ _
  ·exact (Aq _ _ (Ct (h.uo r b' hu))).trans (h.uo r b' hu)
def Uq(f:Operand)(args:List Operand):RM (FuncId × List PV):=ev f fun lv=>match lv with
 | .v (.fn (.func F8) first captured)=>kT args fun ps => .ret (F8,first++ps++captured)
 | _ => .fail
def Fl(P:Program)(f:FuncId):Bool:=match P.funcs[f]? with
 | some fn=>fn.body.isSome && !(fn.name == "runtime.NumGoroutine")
 | none=>false
def S.M5(s:S)(dst:Option Nat)(lv:LV)(e:Ext):S:={ s with tmps:=match dst with | some d=>put s.tmps d lv | none=>s.tmps,ext:=e }
def behind(K:S->Prop)(Q:A7->S->Prop)(s:S)(dst:Option Nat):Cd->Ext->Prop
 | .ret p,e=>K (s.M5 dst (.v p) e)
 | .own te z es,e=>K (s.M5 dst (.uniq te z es) e)
 | .panic p,e=>Q (.panic p) { s with ext:=e }
theorem Eb{f:FuncId}{vs:Array Value}(h:Fl P f=true):(callFunc f vs).run P w = .ok (.enter f vs) w:=by
 unfold Fl at h
 split at h
 ·rename_i fn hf
  simp only [Bool.and_eq_true] at h
  obtain ⟨h1,h2⟩:=h
  have h2':(fn.name == "runtime.NumGoroutine")=false:=by simpa using h2
  have Xd:fn.body.isNone=false:=by cases hb:fn.body <;> simp_all
  simp only [callFunc,Sem.run_bind,run_program,Result.andThen_ok,hf,h2',Bool.false_eq_true,if_false,Xd]
  rfl
 ·cases h
theorem ID{F8:FuncId}{vl:List Value}{ps:List PV}{K:S->Prop}{Q:A7->S->Prop}(BW:(execOp a.eval o).run P w = .ok (.enter F8 vl.toArray) w)(BE:AE g w ps vl)(hd:∀d,o.dst=some d->d<cx.n)(h:Bc cx s g l a w)
  (hc:BX P F8 ps s.ext (behind K Q s o.dst)):o.wp P a w (fun a' w'=>∃s' g' l',K s'/\Bc cx s' g' l' a' w') (post cx Q):=by
 unfold Oper.wp
 rw [BW,Oper.upon_enter]
 refine (hc _ g (lx l) w BE h.pU).mono ?_
 rintro en w' ⟨res,e',g',l',hR,AF,E4,hm,Cb,Tq,MU,os,tape,output⟩
 have hb:=h.back E4 hm Cb Tq MU os tape output
 cases res with
 | ret p=>
  cases en with
  | returned v=>
   refine ⟨_,g',Ff l l',hR,?_⟩
   cases Eh:o.dst with
   | none=>exact hb
   | some d=>exact hb.set (hd d Eh) AF
  | panicked ch=>exact AF.elim
  | outgrown=>exact AF.elim
 | own te z es=>
  cases en with
  | returned v=>
   cases Eh:o.dst with
   | none=>exact ⟨_,g',Ff l l',hR,by rw [Eh]; exact hb⟩
   | some d=>
    have hj:Bc cx { s with ext:=e',tmps:=put s.tmps d .D8 } g' (Ff l l') a w':=by
     refine hb.eU (fun k v hk=>?_) (Et ES.refl _) (Et ES.refl _)
     simp only [B8] at hk
     split at hk
     ·injection hk with hk; exact .inl hk.symm
     ·exact .inr ⟨v,hk,WL.refl v⟩
    obtain ⟨K7,AF⟩:=AF
    rcases AF with Y3 | ⟨b,cap,cur,k1,k2,k3,k4,k5,k6,k7,k8⟩
    ·refine ⟨_,g',Ff l l',hR,?_⟩
     rw [Eh]
     refine (hj.set (lv := .uniq te z es) (hd d Eh) (.inl (by rcases Y3 with hf | ⟨a',f1,f2⟩; exact .inl hf; exact .inr ⟨a',f1,f2,K7⟩))).congr (fun k=>?_) (fun _=>rfl) (fun _=>rfl)
     simp only [S.M5,B8]
     split <;> rfl
    ·have hO:(Ff l l').O b=none:=by
      simp only [Ff,k4]
      rcases k2 with Ru | Ru
      ·have:l.O b=none:=by
        cases hx:l.O b with
        | none=>rfl
        | some o'=>exact absurd (h.own b o' hx).1 oM
       rw [this]
      ·simp only [lx] at Ru
       split at Ru
       ·first | rfl | (rename_i hn; rw [hn])
       ·first | rfl | (rename_i hn; rw [hn])
       ·cases Ru
     have Eu:cx.w0.heap.size<=b∨cx.VS b:=by
      rcases k2 with Ru | Ru
      ·exact .inl (Nat.le_trans h.AM.size Ru)
      ·have:(l.O b).isSome=true:=by
        simp only [lx] at Ru
        split at Ru
        ·rename_i hn; rw [hn]; rfl
        ·rename_i hn; rw [hn]; rfl
        ·cases Ru
       obtain ⟨o2,gC⟩:=Option.isSome_iff_exists.1 this
       exact (h.own b o2 gC).2
     have ha:=hj.zH (q := .t d) (fun e2 z2 Th he=>by simp only [B8,if_true] at he; injection he with he; cases he) hO k3 Eu
     refine ⟨_,g',{ Ff l l' with U:=F7 (Ff l l').U (.t d) (some b),O:=ET (Ff l l').O b (some (.u (.t d))) },hR,?_⟩
     rw [Eh]
     refine (ha.set (lv := .uniq te z es) (hd d Eh) (.inr ⟨b,cap,cur,k1,by simp [F7],by rw [L3 K7]; exact k5,by rw [T4 K7]; exact k6,k7,.of K7 k8⟩)).congr (fun k=>?_) (fun _=>rfl) (fun _=>rfl)
     simp only [S.M5,B8]
     split <;> rfl
  | panicked ch=>exact AF.elim
  | outgrown=>exact AF.elim
 | panic p=>
  cases en with
  | returned v=>exact AF.elim
  | panicked ch=>exact ⟨.panic p,_,g',Ff l l',hR,AF,hb⟩
  | outgrown=>exact AF.elim
theorem Ts{f:Operand}{args:Array Operand}{ts:Array TypeId}{K:S->Prop}{Q:A7->S->Prop}(ho:o.op = .call ⟨.value f,args,ts⟩)(hd:∀d,o.dst=some d->d<cx.n)(h:Bc cx s g l a w)
  (hw:(Uq f args.toList).wp s fun x=>Fl P x.1=true/\BX P x.1 x.2 s.ext (behind K Q s o.dst)) :
  o.wp P a w (fun a' w'=>∃s' g' l',K s'/\Bc cx s' g' l' a' w') (post cx Q):=by
 obtain ⟨lv,u,h1,r1,-⟩:=Cc h hw
 split at h1
 ·rename_i F8 first captured
  obtain ⟨ps,h2,r2⟩:=Fj h h1
  obtain ⟨Lz,hc⟩:=h2
  have hex:∀fv cv,a.eval f = .func (.func F8) fv cv->(execOp a.eval o).run P w = .ok (.enter F8 ((fv++(args.map a.eval))++cv)) w:=by
   intro fv cv hf
   simp only [execOp,ho,resolve,hf,Deferred.ofValue,Sem.run_bind,Sem.run_pure,Result.andThen_ok,invoke,Eb Lz]
  generalize a.eval f=vf at r1 hex
  cases r1 with
  | fn _ _ _ fv cv l1 l2 r3 r4=>
   have BW:=hex _ _ rfl
   have Hq:(fv.toArray++args.map a.eval)++cv.toArray=(fv++args.toList.map a.eval++cv).toArray:=by
    apply Array.ext'
    simp
   rw [Hq] at BW
   exact ID BW ((AE.app ⟨l1,r3⟩ r2).app ⟨l2,r4⟩) hd h hc
 ·exact h1.elim
theorem MV{t:TypeId}{name:String}{f:FuncId}{v:Value}(h:Kk P t name=some f):(method (P.types.size+Made.depth) t v name).run P w = .ok (f,v) w:=by
 unfold Kk at h
 split at h
 ·rename_i i hi
  split at h
  ·rename_i m hm
   split at h
   ·rename_i hp
    have kV:m.path.toList=[]:=by simpa using hp
    have hd:P.types.size+Made.depth=(P.types.size+(Made.depth - 1))+1:=by
     have:0<Made.depth:=by decide
     omega
    rw [hd]
    split at h
    ·cases h
    ·rename_i f' u hn hf hu
     injection h with h
     subst h
     simp only [method,Sem.run_bind,typeInfo,run_program,Result.andThen_ok,hi,Sem.run_pure,hm,kV,follow,hf,receiverAt,run_underlying hu]
     cases u <;> first | (exact (hn _ rfl).elim) | (simp [Place.get]; done)
    ·rename_i f' hf hu
     injection h with h
     subst h
     simp [method,typeInfo,hi,hm,kV,follow,hf,receiverAt,run_underlying hu,Place.get]
    ·cases h
   ·cases h
  ·cases h
 ·cases h
def Y4(P:Program)(r:Operand)(name:String)(args:List Operand):RM (FuncId × List PV):=ev r fun lv=>match lv with
 | .v (.iface t p)=>match Kk P t name with
  | some f=>kT args fun ps => .ret (f,p::ps)
  | none => .fail
 | .v (.VQ t f p) => .assume (decide (Kk P t name=some f)) (kT args fun ps => .ret (f,p::ps))
 | _ => .fail
theorem We{r:Operand}{name:String}{args:Array Operand}{ts:Array TypeId}{K:S->Prop}{Q:A7->S->Prop}(ho:o.op = .call ⟨.invoke r name,args,ts⟩)(hd:∀d,o.dst=some d->d<cx.n)(h:Bc cx s g l a w)
  (hw:(Y4 P r name args.toList).wp s fun x=>Fl P x.1=true/\BX P x.1 x.2 s.ext (behind K Q s o.dst)) :
  o.wp P a w (fun a' w'=>∃s' g' l',K s'/\Bc cx s' g' l' a' w') (post cx Q):=by
 obtain ⟨lv,u,h1,r1,-⟩:=Cc h hw
 split at h1
 ·rename_i t p
  split at h1
  ·rename_i f hm
   obtain ⟨ps,h2,r2⟩:=Fj h h1
   obtain ⟨Lz,hc⟩:=h2
   have hex:∀v,a.eval r = .iface t v->(execOp a.eval o).run P w = .ok (.enter f (v::args.toList.map a.eval).toArray) w:=by
    intro v hv
    have e1:(#[Value.iface t v]++args.map a.eval).extract 1 (#[Value.iface t v]++args.map a.eval).size=args.map a.eval:=by
     apply Array.ext'
     simp
     exact List.take_of_length_le sM
    have e2 : #[v]++args.map a.eval=(v::args.toList.map a.eval).toArray:=by apply Array.ext'; simp
    have e0:(#[Value.iface t v]++args.map a.eval)[0]?=some (.iface t v):=by rw [Array.getElem?_append]; simp
    simp only [execOp,ho,resolve,hv,Sem.run_bind,Sem.run_pure,Result.andThen_ok,invoke,e0,e1,callMethod,run_program,MV hm,Eb Lz,e2]
   generalize a.eval r=vr at r1 hex
   cases r1 with
   | iface _ _ v hv=>exact ID (hex v rfl) (AE.cons hv r2) hd h hc
  ·exact h1.elim
 ·rename_i t f p
  obtain ⟨pH,h1⟩:=h1
  have hm:=of_decide_eq_true pH
  obtain ⟨ps,h2,r2⟩:=Fj h h1
  obtain ⟨Lz,hc⟩:=h2
  have hex:∀v,a.eval r = .iface t v->(execOp a.eval o).run P w = .ok (.enter f (v::args.toList.map a.eval).toArray) w:=by
   intro v hv
   have e1:(#[Value.iface t v]++args.map a.eval).extract 1 (#[Value.iface t v]++args.map a.eval).size=args.map a.eval:=by
    apply Array.ext'
    simp
    exact List.take_of_length_le sM
   have e2 : #[v]++args.map a.eval=(v::args.toList.map a.eval).toArray:=by apply Array.ext'; simp
   have e0:(#[Value.iface t v]++args.map a.eval)[0]?=some (.iface t v):=by rw [Array.getElem?_append]; simp
   simp only [execOp,ho,resolve,hv,Sem.run_bind,Sem.run_pure,Result.andThen_ok,invoke,e0,e1,callMethod,run_program,MV hm,Eb Lz,e2]
  generalize a.eval r=vr at r1 hex
  cases r1 with
  | VQ _ _ _ v hv=>exact ID (hex v rfl) (AE.cons hv r2) hd h hc
 ·exact h1.elim
def callee(P:Program)(o:Oper):Option (RM (FuncId × List PV)):=match o.op with
 | .call ⟨.value f,args,_⟩=>some (Uq f args.toList)
 | .call ⟨.invoke r name,args,_⟩=>some (Y4 P r name args.toList)
 | _=>none
theorem G6{r:RM (FuncId × List PV)}{K:S->Prop}{Q:A7->S->Prop}(ho:callee P o=some r)(hd:∀d,o.dst=some d->d<cx.n)(h:Bc cx s g l a w)
  (hw:r.wp s fun x=>Fl P x.1=true/\BX P x.1 x.2 s.ext (behind K Q s o.dst)):o.wp P a w (fun a' w'=>∃s' g' l',K s'/\Bc cx s' g' l' a' w') (post cx Q):=by
 unfold callee at ho
 split at ho
 ·rename_i K8; injection ho with ho; subst ho; exact Ts K8 hd h hw
 ·rename_i K8; injection ho with ho; subst ho; exact We K8 hd h hw
 ·cases ho
def RE:Nat->List PV->List (Nat × LV)
 | _,[]=>[]
 | k,p::r=>(k,.v p)::RE (k+1) r
theorem Q4:∀ {ps:List PV} {k t:Nat} {lv:LV},lk (RE k ps) t=some lv->∃j p,t=k+j/\ps[j]?=some p/\lv = .v p
 | [],k,t,lv,h=>by simp [RE,lk] at h
 | p::r,k,t,lv,h=>by
  simp only [RE,lk] at h
  split at h
  ·rename_i e; subst e; injection h with h; exact ⟨0,p,rfl,rfl,h.symm⟩
  ·obtain ⟨j,q,h1,h2,h3⟩:=Q4 h
   exact ⟨j+1,q,by omega,by simpa using h2,h3⟩
def ldP(P:Program)(ty:TypeId)(cs:List LV)(off:Nat):Option PV:=match M3 P ty with
 | some true=>match KV P ty with
  | some m=>if off+m<=cs.length then (VW ((cs.drop off).take m)).map .agg else none
  | none=>none
 | some false=>(cs[off]?).bind Xc
 | none=>none
def Y5(P:Program)(s:S):ResultVar->Option PV
 | .tmp t=>(lk s.tmps t).bind Xc
 | .cell a ty=>match lk s.tmps a with
  | some (.lp i off)=>(lk s.boxes i).bind fun cs=>ldP P ty cs off
  | some (.v (.xp m off))=>(lk s.ext m).bind fun cs=>if OF cs=true then ldP P ty cs off else none
  | _=>none
def OM(P:Program)(s:S):List ResultVar->Option (List PV)
 | []=>some []
 | r::rs=>match Y5 P s r,OM P s rs with
  | some p,some ps=>some (p::ps)
  | _,_=>none
def Fz(P:Program)(s:S)(rs:List ResultVar):Option PV:=match OM P s rs with
 | some [p]=>some p
 | some ps=>some (.B6 ps)
 | none=>none
theorem ON{ty:TypeId}{cs:List LV}{off b:Nat}{p:PV}{f:Nat->UL}(hp:ldP P ty cs off=some p)(hb:PE g l w f b cs):∃v,(loadVar ty ⟨b,off,none⟩).run P w = .ok v w/\BO g w p v:=by
 obtain ⟨hM,cur,e,h4,h5,h6⟩:=hb
 unfold ldP at hp
 split at hp
 ·rename_i ha
  split at hp
  ·rename_i m hm
   split at hp
   ·rename_i hle
    simp only [Option.map_eq_some_iff] at hp
    obtain ⟨ps,Tg,rfl⟩:=hp
    have hc:∀j,j<m->w.cell? ⟨b,off+j,none⟩=some (cur.getD (off+j) undef):=fun j hj=>by
     have:off+j<cur.size:=by omega
     simp [World.cell?,h4,this]
    refine ⟨_,G5 (P:=P) ha hm hc,AE.agg ?_ ?_⟩
    ·refine MN (l:=l) (f:=fun j=>f (off+j)) Tg (by simp; omega) fun j hj Cj=>?_
     simp only [List.getElem_take,List.getElem_drop,List.getElem_map,List.getElem_range]
     exact (h6 (off+j) _).2.2
    ·intro v hv
     simp only [List.mem_map,List.mem_range] at hv
     obtain ⟨j,hj,rfl⟩:=hv
     exact (h6 (off+j) oM).2.1
   ·cases hp
  ·cases hp
 ·rename_i ha
  simp only [Option.bind_eq_some_iff] at hp
  obtain ⟨lv,Gx,hp⟩:=hp
  have Ad:=(List.getElem?_eq_some_iff.1 Gx).1
  refine ⟨_,G4 (P:=P) h4 ha oM,?_⟩
  have:=(h6 off Ad).2.2
  rw [List.getElem?_eq_getElem Ad] at Gx
  injection Gx with Gx
  rw [Gx] at this
  exact EY hp this
 ·cases hp
def JL(tmps:Array Value):ResultVar->Sem Value
 | .tmp t=>pure (tmps.getD t undef)
 | .cell a t=>do loadVar t (<- asAddr (tmps.getD a undef))
theorem Tt{r:ResultVar}{p:PV}(h:Bc cx s g l a w)(hp:Y5 P s r=some p):∃v,(JL a.tmps r).run P w = .ok v w/\BO g w p v:=by
 cases r with
 | tmp t=>
  simp only [Y5,Option.bind_eq_some_iff] at hp
  obtain ⟨lv,Gx,hp⟩:=hp
  exact ⟨_,rfl,EY hp (h.tm t lv Gx)⟩
 | cell x ty=>
  simp only [Y5] at hp
  split at hp
  ·rename_i i off hl
   simp only [Option.bind_eq_some_iff] at hp
   obtain ⟨cs,DM,hp⟩:=hp
   obtain ⟨b,k1,k2⟩:=h.tm x _ hl
   obtain ⟨b',m1,m2,m3⟩:=h.bx i cs DM
   rw [k1] at m1
   injection m1 with m1
   subst m1
   obtain ⟨v,v1,v2⟩:=ON hp m3
   exact ⟨v,by simp [JL,k2,asAddr,v1],v2⟩
  ·rename_i m off hl
   simp only [Option.bind_eq_some_iff] at hp
   obtain ⟨cs,DM,hp⟩:=hp
   have hr:=h.tm x _ hl
   obtain ⟨b',m1,m2,hE⟩:=h.ex m cs DM
   split at hp
   rotate_left
   ·cases hp
   rename_i fY
   rcases hE with m3 | hE
   rotate_left
   ·exact (hE.plain (Hi fY)).elim
   replace m1:=m1.plain m3.Uf
   obtain ⟨v,v1,v2⟩:=ON hp m3
   refine ⟨v,?_,v2⟩
   simp only [JL]
   generalize a.tmps.getD x undef=vx at hr
   cases hr with
   | xp _ _ b hx=>
    rw [m1] at hx
    injection hx with hx
    subst hx
    simp [asAddr,v1]
  ·cases hp
theorem IE(h:Bc cx s g l a w):∀ {rs:List ResultVar} {ps:List PV},OM P s rs=some ps->∃vs,(rs.mapM (JL a.tmps)).run P w = .ok vs w/\AE g w ps vs
 | [],ps,hp=>by
  simp only [OM,Option.some.injEq] at hp
  subst hp
  exact ⟨[],by simp,.nil⟩
 | r::rs,ps,hp=>by
  simp only [OM] at hp
  split at hp
  ·rename_i p qs h1 h2
   injection hp with hp
   subst hp
   obtain ⟨v,v1,v2⟩:=Tt h h1
   obtain ⟨vs,w1,w2⟩:=IE h h2
   exact ⟨v::vs,by simp [List.mapM_cons,v1,w1],.cons v2 w2⟩
  ·cases hp
theorem HO{fn:Func}{p:PV}(h:Bc cx s g l a w)(hp:Fz P s fn.results.toList=some p):∃v,(results fn a.tmps).run P w = .ok v w/\BO g w p v:=by
 have AF:∀vs,(fn.results.toList.mapM (JL a.tmps)).run P w = .ok vs w->(results fn a.tmps).run P w = .ok (if h:vs.toArray.size=1 then vs.toArray[0] else .tuple vs.toArray) w:=by
  intro vs hv
  have e:results fn a.tmps=(do let vs<-fn.results.mapM (JL a.tmps); pure (if h:vs.size=1 then vs[0] else .tuple vs)):=by
   unfold results
   have:(fun (r:ResultVar)=>(match r with | .tmp t=>(pure (a.tmps.getD t undef):Sem Value) | .cell x t=>(do loadVar t (<- asAddr (a.tmps.getD x undef)))))=JL a.tmps:=by
    funext r
    cases r <;> rfl
   rw [<-this]
   rfl
  rw [e]
  simp only [Array.mapM_eq_mapM_toList,Sem.run_bind,Sem.run_map,hv,Result.andThen_ok,Sem.run_pure]
 unfold Fz at hp
 split at hp
 ·rename_i q hq
  injection hp with hp
  subst hp
  obtain ⟨vs,w1,w2⟩:=IE h hq
  obtain ⟨v,fO,rfl,hv,hn⟩:=w2.Hf
  have:=hn.PD
  subst this
  exact ⟨v,by rw [AF _ w1]; rfl,hv⟩
 ·rename_i ps Tg Ct
  injection hp with hp
  subst hp
  obtain ⟨vs,w1,w2⟩:=IE h Ct
  refine ⟨.tuple vs.toArray,?_,.B6 _ _ w2.1 w2.2⟩
  rw [AF _ w1,dif_neg]
  intro hl
  have:ps.length=1:=by rw [w2.1]; simpa using hl
  match ps,this with
  | [q],_=>exact Tg q rfl
 ·cases hp
def FR(ps:List PV)(e:Ext):S:=⟨RE 0 ps,[],e⟩
def zI(P:Program)(rs:List ResultVar)(R:Cd->Ext->Prop):A7->S->Prop
 | .normal,s=>∃p,Fz P s rs=some p/\R (.ret p) s.ext
 | .ret,s=>(∃p,Fz P s rs=some p/\R (.ret p) s.ext)∨∃t e z es,rs=[.tmp t]/\lk s.tmps t=some (.uniq e z es)/\e<1000000/\R (.own e z es) s.ext
 | .panic p,s=>R (.panic p) s.ext
 | .exit _,_=>False
theorem BX.enter{f:FuncId}{fn:Func}{c:Code}{ps:List PV}{e:Ext}{R:Cd->Ext->Prop}(hf:P.funcs[f]?=some fn)(hb:fn.body=some c)(hn:ps.length<=fn.ntmps)
  (h:∀cx:Cx,cx.n=fn.ntmps->cx.ds=[]->PW P cx c (FR ps e) (zI P fn.results.toList R)):BX P f ps e R:=by
 intro vs g l w ha he
 refine calls_of_wp hf hb ?_
 have hs:Bc ⟨fn.ntmps,[],g,w,fun b=>(l.O b).isSome=true⟩ (FR ps e) g l { tmps:=vs.toArray++Array.replicate (fn.ntmps - vs.toArray.size) undef,defers:=[] } w:=by
  have hl:=ha.1
  refine ⟨⟨Ch.refl g w,Nat.le_refl _,fun _ _ _=>⟨rfl,rfl⟩,rfl,rfl,rfl,he.Jj⟩,?_,rfl,?_,?_,he.ex,?_,he.uo,he.fresh,he.Gg⟩
  ·simp
   omega
  ·intro t lv ht
   obtain ⟨j,p,rfl,hj,rfl⟩:=Q4 ht
   have Ad:=(List.getElem?_eq_some_iff.1 hj).1
   have CL:j<vs.length:=by omega
   have:=ha.2 j Ad CL
   rw [List.getElem?_eq_getElem Ad] at hj
   injection hj with hj
   rw [hj] at this
   have e1:(vs.toArray++Array.replicate (fn.ntmps - vs.toArray.size) undef).getD (0+j) undef=vs[j]:=by
    simp [Array.getD_eq_getD_getElem?,Array.getElem?_append,CL]
   show BO g w p _
   rw [e1]
   exact this
  ·intro i cs hi
   simp [FR,lk] at hi
  ·intro b o' ho
   exact ⟨he.OK b o' ho,.inr (by show (l.O b).isSome=true; rw [ho]; rfl)⟩
 refine wp_mono (h _ rfl rfl g l _ w hs) ?_
 rintro ex a' w' ⟨pe,s',g',l',hq,er,sm⟩
 have common:SV s'.ext g' (lx l') w'/\Ch g w g' w'/\w.heap.size<=w'.heap.size/\(∀b,b<w.heap.size->l.O b=none->w'.heap[b]?=w.heap[b]?/\g'.M b=g.M b) /\
   (∀b o,(lx l').O b=some o->w.heap.size<=b∨(l.O b).isSome=true)/\w'.os=w.os/\w'.tape=w.tape/\w'.output=w.output:=by
  refine ⟨sm.pU,sm.AM.mono,sm.AM.size,fun b Ad ho=>sm.AM.frame b Ad (by show ¬(l.O b).isSome=true; rw [ho]; simp),fun b o' ho=>?_,sm.AM.os,sm.AM.tape,sm.AM.output⟩
  have:∃o2,l'.O b=some o2:=by
   simp only [lx] at ho
   split at ho
   ·rename_i pV; exact ⟨_,pV⟩
   ·rename_i pV; exact ⟨_,pV⟩
   ·cases ho
  obtain ⟨o2,gC⟩:=this
  exact (sm.own b o2 gC).2
 have plain:∀p,Fz P s' fn.results.toList=some p->R (.ret p) s'.ext->a'.defers=[]/\∃v,(results fn a'.tmps).run P w' = .ok v w'/\∃res e' p8 l'',R res e'/\OL p8 l'' (fun b=>w.heap.size<=b∨(l.O b).isSome=true) w' res (.returned v)/\SV e' p8 l'' w'/\Ch g w p8 w' /\
   w.heap.size<=w'.heap.size/\(∀b,b<w.heap.size->l.O b=none->w'.heap[b]?=w.heap[b]?/\p8.M b=g.M b)/\(∀b o,l''.O b=some o->w.heap.size<=b∨(l.O b).isSome=true)/\w'.os=w.os/\w'.tape=w.tape/\w'.output=w.output:=by
  intro p hp hR
  obtain ⟨v,v1,v2⟩:=HO sm hp
  exact ⟨sm.defers,v,v1,.ret p,s'.ext,g',lx l',hR,v2,common⟩
 cases pe with
 | normal=>
  cases ex <;> first | exact er.elim | skip
  obtain ⟨p,hp,hR⟩:=hq
  exact plain p hp hR
 | ret=>
  cases ex <;> first | exact er.elim | skip
  rcases hq with ⟨p,hp,hR⟩ | ⟨t,te,z,es,hrs,ht,K7,hR⟩
  ·exact plain p hp hR
  ·have hr:=sm.tm t _ ht
   refine ⟨sm.defers,a'.tmps.getD t undef,results_tmp (by rw [<-Array.toArray_toList (xs:=fn.results),hrs]) _ _ _,.own te z es,s'.ext,g',lx l',hR,⟨K7,?_⟩,common⟩
   rcases hr with Y3 | ⟨b,cap,cur,k1,k2,k3,k4,k5,k6⟩
   ·exact .inl (by rcases Y3 with hf | ⟨a',f1,f2,-⟩; exact .inl hf; exact .inr ⟨a',f1,f2⟩)
   ·have ho:=sm.uo _ _ k2
    exact .inr ⟨b,cap,cur,k1,(sm.own b _ ho).2,(sm.own b _ ho).1,by simp [lx,ho],by rw [L3 K7] at k3; exact k3,by rw [T4 K7] at k4; exact k4,k5,k6.1 K7⟩
 | exit id=>exact hq.elim
 | panic p=>
  cases ex <;> first | exact er.elim | skip
  exact ⟨sm.defers,.panic p,s'.ext,g',lx l',hq,er,common⟩
end
section
variable {P:Program} {cx:Cx} {s t:S} {Q:A7->S->Prop}
end
inductive Loc where
 | t (i:Nat)
 | b (i:Nat)
 | x (n:Nat)
 deriving DecidableEq
def RM.HP{α:Type}:RM α->S->(α->List Loc->Prop)->Prop
 | .ret a,_,K=>K a []
 | .fail,_,_=>False
 | .Il t k,s,K=>match lk s.tmps t with
  | some v=>(k v).HP s fun a r=>K a (.t t::r)
  | none=>False
 | .Im i k,s,K=>match lk s.boxes i with
  | some v=>(k v).HP s fun a r=>K a (.b i::r)
  | none=>False
 | .G3 n k,s,K=>match lk s.ext n with
  | some v=>(k v).HP s fun a r=>K a (.x n::r)
  | none=>False
 | .assume p k,s,K=>p=true/\k.HP s K
def S.get(s:S):Loc->Option (LV ⊕ List LV)
 | .t t=>(lk s.tmps t).map .inl
 | .b i=>(lk s.boxes i).map .inr
 | .x n=>(lk s.ext n).map .inr
theorem RF{s s':S}{t:Nat}(h:s'.get (.t t)=s.get (.t t)):lk s'.tmps t=lk s.tmps t:=by
 simp only [S.get] at h
 cases h1:lk s'.tmps t <;> cases h2:lk s.tmps t <;> simp_all
theorem Y6{s s':S}{t:Nat}(h:s'.get (.b t)=s.get (.b t)):lk s'.boxes t=lk s.boxes t:=by
 simp only [S.get] at h
 cases h1:lk s'.boxes t <;> cases h2:lk s.boxes t <;> simp_all
theorem zJ{s s':S}{t:Nat}(h:s'.get (.x t)=s.get (.x t)):lk s'.ext t=lk s.ext t:=by
 simp only [S.get] at h
 cases h1:lk s'.ext t <;> cases h2:lk s.ext t <;> simp_all
theorem RM.Fm{α:Type}{s:S}:∀ {r:RM α} {K:α->List Loc->Prop},r.HP s K->∃a rd,K a rd/\∀s':S,(∀l∈rd,s'.get l=s.get l)->r.wp s' fun b=>b=a
 | .ret a,K,h=>⟨a,[],h,fun _ _=>rfl⟩
 | .fail,_,h=>h.elim
 | .Il t k,K,h=>by
  simp only [RM.HP] at h
  split at h
  ·rename_i v hv
   obtain ⟨a,rd,h1,h2⟩:=RM.Fm h
   refine ⟨a,.t t::rd,h1,fun s' hl=>?_⟩
   simp only [RM.wp,RF (hl (.t t) sM),hv]
   exact h2 s' fun l hm=>hl l (List.mem_cons_of_mem _ hm)
  ·exact h.elim
 | .Im t k,K,h=>by
  simp only [RM.HP] at h
  split at h
  ·rename_i v hv
   obtain ⟨a,rd,h1,h2⟩:=RM.Fm h
   refine ⟨a,.b t::rd,h1,fun s' hl=>?_⟩
   simp only [RM.wp,Y6 (hl (.b t) sM),hv]
   exact h2 s' fun l hm=>hl l (List.mem_cons_of_mem _ hm)
  ·exact h.elim
 | .G3 n k,K,h=>by
  simp only [RM.HP] at h
  split at h
  ·rename_i v hv
   obtain ⟨a,rd,h1,h2⟩:=RM.Fm h
   refine ⟨a,.x n::rd,h1,fun s' hl=>?_⟩
   simp only [RM.wp,zJ (hl (.x n) sM),hv]
   exact h2 s' fun l hm=>hl l (List.mem_cons_of_mem _ hm)
  ·exact h.elim
 | .assume p k,K,h=>by
  obtain ⟨a,rd,h1,h2⟩:=RM.Fm h.2
  exact ⟨a,rd,h1,fun s' hl=>⟨h.1,h2 s' hl⟩⟩
def Wr.loc:Wr->Option Loc
 | .tmp t _=>some (.t t)
 | .Dz i _=>some (.b i)
 | .cells i _ _=>some (.b i)
 | .ext _ _ _=>none
def S.wq(s:S):Wr->S
 | .tmp t v=>{ s with tmps:=put s.tmps t v }
 | .Dz i ps=>{ s with boxes:=put s.boxes i (ps.map .v) }
 | .cells i off vs=>match lk s.boxes i with
  | some cs=>{ s with boxes:=put s.boxes i (AO cs off vs) }
  | none=>s
 | .ext _ _ _=>s
def S.DG(s:S):List Wr->S
 | []=>s
 | x::r=>(s.wq x).DG r
def Wr.app:Wr->Option (LV ⊕ List LV)->Option (LV ⊕ List LV)
 | .tmp _ v,_=>some (.inl v)
 | .Dz _ ps,_=>some (.inr (ps.map .v))
 | .cells _ off vs,some (.inr cs)=>some (.inr (AO cs off vs))
 | _,x=>x
theorem pW(s:S)(x:Wr)(l:Loc):(s.wq x).get l=if x.loc=some l then x.app (s.get l) else s.get l:=by
 cases x with
 | tmp t v=>
  cases l with
  | t u=>
   simp only [S.wq,S.get,Wr.loc,Wr.app,B8,Option.some.injEq,Loc.t.injEq]
   split <;> rfl
  | b i=>simp [S.wq,S.get,Wr.loc]
  | x i=>simp [S.wq,S.get,Wr.loc]
 | Dz j ps=>
  cases l with
  | t u=>simp [S.wq,S.get,Wr.loc]
  | b i=>
   simp only [S.wq,S.get,Wr.loc,Wr.app,B8,Option.some.injEq,Loc.b.injEq]
   split <;> rfl
  | x i=>simp [S.wq,S.get,Wr.loc]
 | cells j off vs=>
  simp only [S.wq]
  cases hj:lk s.boxes j with
  | none=>
   simp only
   split
   ·rename_i e
    cases l with
    | t u=>simp [Wr.loc] at e
    | x u=>simp [Wr.loc] at e
    | b i=>
     simp only [Wr.loc,Option.some.injEq,Loc.b.injEq] at e
     subst e
     simp [S.get,hj,Wr.app]
   ·rfl
  | some cs=>
   cases l with
   | t u=>simp [S.get,Wr.loc]
   | x u=>simp [S.get,Wr.loc]
   | b i=>
    simp only [S.get,Wr.loc,B8,Option.some.injEq,Loc.b.injEq]
    split
    ·rename_i e; subst e; simp [hj,Wr.app]
    ·rfl
 | ext _ _ _=>simp [S.wq,Wr.loc]
def G7(l:Loc)(x:Wr):Bool:=decide (x.loc=some l)
theorem GD(l:Loc):∀ (L:List Wr) (s:S),(s.DG L).get l=(L.filter (G7 l)).foldl (fun g x=>x.app g) (s.get l)
 | [],s=>rfl
 | x::r,s=>by
  simp only [S.DG,GD l r,pW,List.filter_cons,G7]
  by_cases h:x.loc=some l
  ·simp [h]
  ·simp [h]
theorem Tu{l:Loc}{L M:List Wr}(s:S)(h:L.filter (G7 l)=M.filter (G7 l)):(s.DG L).get l=(s.DG M).get l:=by rw [GD,GD,h]
theorem pX(s:S)(x:Wr):(s.wq x).ext=s.ext:=by
 cases x <;> simp only [S.wq]
 split <;> rfl
theorem Ko:∀ (L:List Wr) (s:S),(s.DG L).ext=s.ext
 | [],_=>rfl
 | x::r,s=>by simp only [S.DG,Ko r,pX]
structure DS where
 rd:List Loc
 ws:List Wr
 DT:Bool
def D6(D:Nat->Bool):Nat->List DS->List Wr
 | _,[]=>[]
 | k,d::r=>(if D k then d.ws else [])++D6 D (k+1) r
def DR(D:Nat->Bool):Nat->List DS->Nat
 | _,[]=>0
 | k,d::r=>(if D k&&d.DT then 1 else 0)+DR D (k+1) r
theorem DN{D D':Nat->Bool}:∀ {B5:List DS} {k:Nat},(∀j,k<=j->j<k+B5.length->D j=D' j)->D6 D k B5=D6 D' k B5
 | [],_,_=>rfl
 | d::r,k,h=>by
  simp only [D6,h k (Nat.le_refl _) sM]
  rw [DN fun j h1 h2=>h j oM (by simp at h2 ⊢; omega)]
theorem LA{D D':Nat->Bool}{i:Nat}(hD:∀j,j≠i->D' j=D j)(hi:D i=false)(Tj:D' i=true):∀ {B5:List DS} {k:Nat} {d:DS},k<=i->B5[i - k]?=some d ->
  ∃A C,D6 D k B5=A++C/\D6 D' k B5=A++d.ws++C/\A=D6 (fun j=>D j&&decide (j<i)) k B5/\C=D6 (fun j=>D j&&decide (i<j)) k B5
 | [],k,d,_,h=>by simp at h
 | d0::r,k,d,hk,h=>by
  by_cases pO:k=i
  ·subst pO
   simp only [Nat.sub_self,List.getElem?_cons_zero,Option.some.injEq] at h
   subst h
   refine ⟨[],D6 D (k+1) r,by simp [D6,hi],?_,?_,?_⟩
   ·simp only [D6,Tj,if_true,List.nil_append]
    rw [DN fun j h1 _=>hD j oM]
   ·simp only [D6,hi,Bool.false_and]
    have:D6 (fun j=>D j&&decide (j<k)) (k+1) r=D6 (fun _=>false) (k+1) r:=DN fun j h1 _=>by simp; omega
    rw [this]
    have hz:∀ (l:List DS) (m:Nat),D6 (fun _=>false) m l=[]:=by
     intro l
     induction l with
     | nil=>intro m; rfl
     | cons x r ih=>intro m; simp [D6,ih]
    simp [hz]
   ·simp only [D6,hi,Bool.false_and]
    have:D6 (fun j=>D j&&decide (k<j)) (k+1) r=D6 D (k+1) r:=DN fun j h1 _=>by simp; omega
    simp [this]
  ·have Ad:k+1<=i:=by omega
   have h':r[i - (k+1)]?=some d:=by
    rw [show i - k=(i - (k+1))+1 by omega,List.getElem?_cons_succ] at h
    exact h
   obtain ⟨A,C,h1,h2,h3,h4⟩:=LA hD hi Tj Ad h'
   refine ⟨(if D k then d0.ws else [])++A,C,by simp [D6,h1],?_,?_,?_⟩
   ·simp only [D6,hD k pO,h2,List.append_assoc]
   ·simp only [D6,h3]
    have:decide (k<i)=true:=by simp; omega
    simp [this]
   ·simp only [D6,h4]
    have:decide (i<k)=false:=by simp; omega
    simp [this]
theorem MW{D:Nat->Bool}{x:Wr}:∀ {B5:List DS} {k:Nat},x∈D6 D k B5->∃j d,D (k+j)=true/\B5[j]?=some d/\x∈d.ws
 | [],_,h=>by simp [D6] at h
 | d::r,k,h=>by
  simp only [D6,List.mem_append] at h
  rcases h with h | h
  ·split at h
   ·rename_i hd; exact ⟨0,d,hd,rfl,h⟩
   ·simp at h
  ·obtain ⟨j,d',h1,h2,h3⟩:=MW h
   exact ⟨j+1,d',by rw [show k+(j+1)=k+1+j by omega]; exact h1,by simpa using h2,h3⟩
theorem LB{D D':Nat->Bool}{p:Wr->Bool}:∀ {B5:List DS} {k:Nat},(∀j d,B5[j]?=some d->D (k+j)≠D' (k+j)->∀x∈d.ws,p x=false)->(D6 D k B5).filter p=(D6 D' k B5).filter p
 | [],_,_=>rfl
 | d::r,k,h=>by
  have ih:=LB (D:=D) (D':=D') (p:=p) (B5:=r) (k:=k+1) fun j d' hj Ct=>h (j+1) d' (by simpa using hj) (by rw [show k+(j+1)=k+1+j by omega]; exact Ct)
  simp only [D6,List.filter_append,ih]
  congr 1
  by_cases hd:D k=D' k
  ·rw [hd]
  ·have h0:=h 0 d rfl (by simpa using hd)
   have hf:d.ws.filter p=[]:=List.filter_eq_nil_iff.2 fun x hx=>by simp [h0 x hx]
   split <;> split <;> simp [hf]
def Kq(o:Oper):List Nat:=(o.after.toList.filter (Region.binds .any)).map (·.on)
def Wf:List Oper->List (List Nat)->List (List Nat)
 | [],acc=>acc
 | o::r,acc=>Wf r (acc++[Kq o++(Kq o).flatMap fun m=>acc.getD m []])
inductive Reach (ops:List Oper):Nat->Nat->Prop
 | dir {k i:Nat} {o:Oper} (h:ops[i]?=some o) (hk:k∈Kq o):Reach ops k i
 | step {k m i:Nat} {o:Oper} (h:ops[i]?=some o) (hm:m∈Kq o) (hr:Reach ops k m):Reach ops k i
def MX(ops:List Oper)(D:Nat->Bool):Prop:=∀j o,ops[j]?=some o->D j=true->∀m∈Kq o,D m=true
theorem MX.reach{ops:List Oper}{D:Nat->Bool}(hc:MX ops D){k i:Nat}(hr:Reach ops k i):(∀o,ops[i]?=some o->∀m∈Kq o,D m=true)->D k=true:=by
 induction hr with
 | dir h hk=>exact fun hd=>hd _ h _ hk
 | step h hm hr ih=>exact fun hd=>ih fun o ho m FN=>hc _ o ho (hd _ h _ hm) m FN
theorem MY{ops:List Oper}:∀ {r:List Oper} {acc:List (List Nat)},(∀j,(r)[j]?=ops[acc.length+j]?)->(∀i l,acc[i]?=some l->∀k∈l,Reach ops k i)->∀i l,(Wf r acc)[i]?=some l->∀k∈l,Reach ops k i
 | [],acc,_,h=>h
 | o::r,acc,hr,h=>by
  refine MY (r:=r) (acc:=acc++[Kq o++(Kq o).flatMap fun m=>acc.getD m []]) (fun j=>by have:=hr (j+1); simp only [List.getElem?_cons_succ] at this; rw [this]; simp; congr 1; omega) fun i l hi k hk=>?_
  by_cases Ad:i<acc.length
  ·rw [List.getElem?_append_left Ad] at hi
   exact h i l hi k hk
  ·have:i=acc.length:=by
    have:=(List.getElem?_eq_some_iff.1 hi).1
    simp at this
    omega
   subst this
   simp only [List.getElem?_concat_length,Option.some.injEq] at hi
   subst hi
   have ho:ops[acc.length]?=some o:=by have:=hr 0; simpa using this.symm
   simp only [List.mem_append,List.mem_flatMap] at hk
   rcases hk with hk | ⟨m,hm,hk⟩
   ·exact .dir ho hk
   ·cases FN:acc[m]? with
    | none=>simp [List.getD,FN] at hk
    | some l'=>exact .step ho hm (h m l' FN k (by simpa [List.getD,FN] using hk))
def l6(ops:List Oper)(i:Nat):List Nat:=(Wf ops []).getD i []
theorem OO{ops:List Oper}{i k:Nat}(h:k∈l6 ops i):Reach ops k i:=by
 unfold l6 at h
 cases hi:(Wf ops [])[i]? with
 | none=>simp [List.getD,hi] at h
 | some l=>exact MY sM sM i l hi k (by simpa [List.getD,hi] using h)
def wl(ws:List Wr):List Loc:=ws.filterMap Wr.loc
def Wg(A B:List Loc):Bool:=A.all fun x=>!(B.contains x)
def Q5:Loc->Bool
 | .x _=>true
 | _=>false
def DS.xf(d:DS):Bool:=d.DT||d.rd.any Q5
def L7(an:List Nat)(i:Nat)(di dj:DS):Bool:=an.contains i||(Wg (wl di.ws) (dj.rd++wl dj.ws)&&Wg (wl dj.ws) di.rd && !(di.DT&&dj.xf) && !(dj.DT&&di.xf))
def lpW(d:Nat):Wr->Bool
 | .tmp _ (.lp j _)=>j==d
 | _=>false
def JM:Wr->Option Nat
 | .Dz d _=>some d
 | _=>none
def pY(an:Nat->List Nat)(i j:Nat)(di dj:DS):Bool:=(di.ws.filterMap JM).all fun d=>(an j).contains i||dj.ws.all fun x=>!(lpW d x)
def Tv(d:Nat):List (Nat × LV)->Bool
 | []=>true
 | (_,.lp j _)::r=>j != d&&Tv d r
 | _::r=>Tv d r
def Dk:Wr->Bool
 | .ext _ _ _=>false
 | _=>true
def Hr:List Wr->Bool
 | []=>true
 | _::r=>r.all fun x=>(JM x).isNone
def Ur(ops:List Oper)(B5:List DS)(tm:List (Nat × LV)):Bool:=
 let an:=Wf ops []
 (List.range B5.length).all fun j=>(B5.getD j ⟨[],[],false⟩).ws.all Dk&&Hr (B5.getD j ⟨[],[],false⟩).ws&&(((B5.getD j ⟨[],[],false⟩).ws.filterMap JM).all fun d=>Tv d tm) &&
  (((ops[j]?).map Kq).getD []).all (· < j) &&
  (List.range B5.length).all fun i=>i==j||(pY (fun k=>an.getD k []) i j (B5.getD i ⟨[],[],false⟩) (B5.getD j ⟨[],[],false⟩)&&(!(decide (i<j))||L7 (an.getD j []) i (B5.getD i ⟨[],[],false⟩) (B5.getD j ⟨[],[],false⟩)))
section
variable {ops:List Oper} {B5:List DS} {tm:List (Nat × LV)}
theorem JN(h:Ur ops B5 tm=true){j:Nat}{dj:DS}(hj:B5[j]?=some dj):dj.ws.all Dk=true/\Hr dj.ws=true/\(∀d∈dj.ws.filterMap JM,Tv d tm=true)/\(∀o,ops[j]?=some o->∀m∈Kq o,m<j) /\
  ∀i di,B5[i]?=some di->i≠j->pY (l6 ops) i j di dj=true/\(i<j->L7 (l6 ops j) i di dj=true):=by
 have Ad:=(List.getElem?_eq_some_iff.1 hj).1
 simp only [Ur,List.all_eq_true,List.mem_range,Bool.and_eq_true] at h
 have h1:=h j Ad
 have gj:B5.getD j ⟨[],[],false⟩=dj:=by simp [List.getD,hj]
 rw [gj] at h1
 obtain ⟨⟨⟨⟨k1,k2⟩,k3⟩,k4⟩,k5⟩:=h1
 refine ⟨by simpa using k1,k2,k3,fun o ho m hm=>?_,fun i di hi Ct=>?_⟩
 ·simp only [ho,Option.map_some,Option.getD_some] at k4
  exact of_decide_eq_true (k4 m hm)
 ·have CL:=(List.getElem?_eq_some_iff.1 hi).1
  have gi:B5.getD i ⟨[],[],false⟩=di:=by simp [List.getD,hi]
  have:=k5 i CL
  rw [gi] at this
  simp only [Bool.or_eq_true,beq_iff_eq,Ct,false_or,Bool.and_eq_true,Bool.not_eq_true',decide_eq_false_iff_not] at this
  refine ⟨this.1,fun kZ=>?_⟩
  rcases this.2 with hc | hc
  ·exact absurd kZ hc
  ·exact hc
theorem JO{A:List Wr}{B:List Loc}(h:Wg (wl A) B=true){x:Wr}(hx:x∈A){l:Loc}(hl:l∈B):G7 l x=false:=by
 unfold G7
 rw [decide_eq_false_iff_not]
 intro e
 simp only [Wg,List.all_eq_true,Bool.not_eq_true',List.contains_eq_mem,decide_eq_false_iff_not] at h
 exact h l (List.mem_filterMap.2 ⟨x,hx,e⟩) hl
end
theorem LC{D D':Nat->Bool}{i:Nat}(hD:∀j,j≠i->D' j=D j)(hi:D i=false)(Tj:D' i=true):∀ {B5:List DS} {k:Nat} {d:DS},k<=i->B5[i - k]?=some d->DR D' k B5=DR D k B5+(if d.DT=true then 1 else 0)
 | [],k,d,_,h=>by simp at h
 | d0::r,k,d,hk,h=>by
  by_cases pO:k=i
  ·subst pO
   simp only [Nat.sub_self,List.getElem?_cons_zero,Option.some.injEq] at h
   subst h
   have:∀ (l:List DS) (m:Nat),k<m->DR D' m l=DR D m l:=by
    intro l
    induction l with
    | nil=>intro m _; rfl
    | cons x r ih=>intro m hm; simp only [DR,hD m oM,ih (m+1) oM]
   simp only [DR,hi,Tj,this r (k+1) oM]
   cases d0.DT <;> simp <;> omega
  ·have h':r[i - (k+1)]?=some d:=by
    rw [show i - k=(i - (k+1))+1 by omega,List.getElem?_cons_succ] at h
    exact h
   have ih:=LC hD hi Tj (by omega:k+1<=i) h'
   simp only [DR,hD k pO,ih]
   omega
theorem EA{D D':Nat->Bool}:∀ {B5:List DS} {k:Nat},(∀j d,B5[j]?=some d->d.DT=true->D (k+j)=D' (k+j))->DR D k B5=DR D' k B5
 | [],_,_=>rfl
 | d::r,k,h=>by
  have ih:=EA (D:=D) (D':=D') (B5:=r) (k:=k+1) fun j d' hj he=>by
   have:=h (j+1) d' (by simpa using hj) he
   rw [show k+1+j=k+(j+1) by omega]
   exact this
  simp only [DR,ih]
  cases he:d.DT with
  | false=>simp
  | true=>have:=h 0 d rfl he; simp only [Nat.add_zero] at this; rw [this]
section
variable {P:Program} {cx:Cx} {Q:A7->S->Prop} {ops:List Oper} {B5:List DS} {s0:S} {e:Nat->Ext}
def sT(s0:S)(B5:List DS)(e:Nat->Ext)(i:Nat):S:={ s0.DG (D6 (fun j=>decide (j<i)) 0 B5) with ext:=e (DR (fun j=>decide (j<i)) 0 B5) }
def sD(s0:S)(B5:List DS)(e:Nat->Ext)(D:Nat->Bool):S:={ s0.DG (D6 D 0 B5) with ext:=e (DR D 0 B5) }
def L8(P:Program)(cx:Cx)(all:Array Oper)(Q:A7->S->Prop)(o:Oper)(s s':S):Prop:=∀g l a w,Bc cx s g l a w ->
 if Region.wanted o (yielded all a.tmps)=true then o.wp P a w (fun a' w'=>∃g' l',Bc cx s' g' l' a' w') (post cx Q) else ∃g' l',Bc cx s' g' l' (a.put o.dst undef) w
def Y7(P:Program)(cx:Cx)(all:Array Oper)(Q:A7->S->Prop)(e:Nat->Ext)(o:Oper)(d:DS)(si:S)(kt:Nat):Prop:=
 ∀s k,(∀l∈d.rd,s.get l=si.get l)->(d.xf=true->k=kt)->s.ext=e k->(∀b∈d.ws.filterMap JM,∀t off,lk s.tmps t≠some (.lp b off))->L8 P cx all Q o s { s.DG d.ws with ext:=e (k+if d.DT=true then 1 else 0) }
theorem Bc.MZ{s t:S}{g:Gh}{l:LG}{a:Act}{w:World}(h:Bc cx s g l a w)(hg:∀p,Q5 p=false->t.get p=s.get p)(hx:t.ext=s.ext):Bc cx t g l a w:=
 h.congr (fun k=>RF (hg (.t k) rfl)) (fun k=>Y6 (hg (.b k) rfl)) (fun k=>by rw [hx]) (by rw [hx]; exact Nat.le_refl _)
theorem OP{d:Nat}:∀ {tm:List (Nat × LV)},Tv d tm=true->∀t off,lk tm t≠some (.lp d off)
 | [],_,t,off=>by simp [lk]
 | (k,lv)::r,h,t,off=>by
  have hr:Tv d r=true/\∀off,lv ≠ .lp d off:=by
   cases lv with
   | lp j o=>
    simp only [Tv,Bool.and_eq_true,bne_iff_ne] at h
    exact ⟨h.2,fun off e=>by injection e with e1 e2; exact h.1 e1⟩
   | _=>exact ⟨h,fun off e=>by cases e⟩
  simp only [lk]
  split
  ·intro e; injection e with e; exact hr.2 off e
  ·exact OP hr.1 t off
theorem Y8{b t off:Nat}:∀ {L:List Wr} {s:S},lk (s.DG L).tmps t=some (.lp b off)->lk s.tmps t=some (.lp b off)∨∃x∈L,lpW b x=true
 | [],s,h => .inl h
 | x::r,s,h=>by
  rcases Y8 (L:=r) (s:=s.wq x) h with h1 | ⟨y,hy,hl⟩
  ·cases x with
   | tmp u v=>
    simp only [S.wq,B8] at h1
    split at h1
    ·injection h1 with h1
     subst h1
     exact .inr ⟨.tmp u (.lp b off),by simp,by simp [lpW]⟩
    ·exact .inl h1
   | Dz i ps=>exact .inl h1
   | cells i o vs=>
    simp only [S.wq] at h1
    split at h1
    ·exact .inl h1
    ·exact .inl h1
   | ext _ _ _=>exact .inl h1
  ·exact .inr ⟨y,List.mem_cons_of_mem _ hy,hl⟩
theorem gE(Og:Ur ops B5 s0.tmps=true){D D':Nat->Bool}{i:Nat}{o:Oper}{d:DS}(hc:MX ops D)(ho:ops[i]?=some o)(hd:B5[i]?=some d)(hi:D i=false)(Tj:D' i=true)
  (hD:∀j,j≠i->D' j=D j) (gF:∀m∈Kq o,D m=true) (Kr:Y7 P cx ops.toArray Q e o d (sT s0 B5 e i) (DR (fun j=>decide (j<i)) 0 B5)):L8 P cx ops.toArray Q o (sD s0 B5 e D) (sD s0 B5 e D'):=by
 obtain ⟨A,C,h1,h2,h3,h4⟩:=LA hD hi Tj (Nat.zero_le i) (by simpa using hd)
 have A76:∀j∈l6 ops i,D j=true:=fun j hj=>hc.reach (OO hj) fun o' MD m hm=>by rw [ho] at MD; injection MD with MD; subst MD; exact gF m hm
 have zK:∀j,D j=true->i∉l6 ops j:=fun j hj RG=>by
  have:D i=true:=hc.reach (OO RG) fun o' MD m hm=>hc j o' MD hj m hm
  rw [hi] at this; cases this
 obtain ⟨-,-,c3,-,c5⟩:=JN Og hd
 -- pairs that no edge orders
 have zL:∀j dj,B5[j]?=some dj->j<i->D j=false->L7 (l6 ops i) j dj d=true/\j∉l6 ops i:=fun j dj hj Ad Oh=>
  ⟨(c5 j dj hj oM).2 Ad,fun hm=>by have:=A76 j hm; rw [Oh] at this; cases this⟩
 have Y9:∀j dj,B5[j]?=some dj->i<j->D j=true->Wg (wl d.ws) (dj.rd++wl dj.ws)=true/\Wg (wl dj.ws) d.rd=true/\(dj.DT&&d.xf)=false:=fun j dj hj Ad Oh=>by
  have:=((JN Og hj).2.2.2.2 i d hd oM).2 Ad
  simp only [L7,Bool.or_eq_true,Bool.and_eq_true,List.contains_eq_mem,decide_eq_true_eq,Bool.not_eq_true'] at this
  rcases this with hm | hm
  ·exact absurd hm (zK j Oh)
  ·exact ⟨hm.1.1.1,hm.1.1.2,hm.2⟩
 have hkt:d.xf=true->DR D 0 B5=DR (fun j=>decide (j<i)) 0 B5:=fun zM=>EA fun j dj hj Wh=>by
  simp only [Nat.zero_add]
  by_cases Ad:j<i
  ·simp only [Ad,decide_true]
   cases hv:D j with
   | true=>rfl
   | false=>
    obtain ⟨hp,SW⟩:=zL j dj hj Ad hv
    simp only [L7,Bool.or_eq_true,Bool.and_eq_true,List.contains_eq_mem,decide_eq_true_eq,Bool.not_eq_true'] at hp
    rcases hp with hm | hm
    ·exact absurd hm SW
    ·have:=hm.1.2; rw [Wh,zM] at this; cases this
  ·simp only [Ad,decide_false]
   cases hv:D j with
   | false=>rfl
   | true=>
    have pZ:j≠i:=fun e0=>by subst e0; rw [hi] at hv; cases hv
    have:=(Y9 j dj hj oM hv).2.2
    rw [Wh,zM] at this; cases this
 have hrd:∀l∈d.rd,(sD s0 B5 e D).get l=(sT s0 B5 e i).get l:=fun l hl=>by
  by_cases hx:Q5 l=true
  ·have zM:d.xf=true:=by simp only [DS.xf,Bool.or_eq_true,List.any_eq_true]; exact .inr ⟨l,hl,hx⟩
   cases l with
   | t _=>cases hx
   | b _=>cases hx
   | x n=>simp only [S.get,sD,sT,hkt zM]
  have:(sD s0 B5 e D).get l=(s0.DG (D6 D 0 B5)).get l:=by cases l <;> first | rfl | exact absurd rfl hx
  rw [this]
  have:(sT s0 B5 e i).get l=(s0.DG (D6 (fun j=>decide (j<i)) 0 B5)).get l:=by cases l <;> first | rfl | exact absurd rfl hx
  rw [this]
  refine Tu s0 (LB fun j dj hj Ct x hx=>?_)
  simp only [Nat.zero_add] at Ct
  by_cases Ad:j<i
  ·have Oh:D j=false:=by
    cases hv:D j with
    | false=>rfl
    | true=>exact absurd (by rw [hv]; simp [Ad]) Ct
   obtain ⟨hp,SW⟩:=zL j dj hj Ad Oh
   simp only [L7,Bool.or_eq_true,Bool.and_eq_true,List.contains_eq_mem,decide_eq_true_eq] at hp
   rcases hp with hm | hm
   ·exact absurd hm SW
   ·exact JO hm.1.1.1 hx (List.mem_append_left _ hl)
  ·have Oh:D j=true:=by
    cases hv:D j with
    | true=>rfl
    | false=>exact absurd (by rw [hv]; simp; omega) Ct
   have pZ:j≠i:=fun e0=>by subst e0; rw [hi] at Oh; cases Oh
   exact JO (Y9 j dj hj oM Oh).2.1 hx hl
 have Iz:∀b∈d.ws.filterMap JM,∀t off,lk (sD s0 B5 e D).tmps t≠some (.lp b off):=fun b hb t off gG=>by
  rcases Y8 (s:=s0) (L:=D6 D 0 B5) gG with hs | ⟨x,hx,hlp⟩
  ·exact OP (c3 b hb) t off hs
  ·obtain ⟨j,dj,Oh,hj,hxj⟩:=MW hx
   simp only [Nat.zero_add] at Oh
   have pZ:i≠j:=fun e0=>by subst e0; rw [hi] at Oh; cases Oh
   have:=((JN Og hj).2.2.2.2 i d hd pZ).1
   simp only [pY,List.all_eq_true,Bool.or_eq_true,List.contains_eq_mem,decide_eq_true_eq,Bool.not_eq_true'] at this
   rcases this b hb with hm | hm
   ·exact zK j Oh hm
   ·rw [hm x hxj] at hlp; cases hlp
 have Ya:=Kr (sD s0 B5 e D) (DR D 0 B5) hrd hkt rfl Iz
 have zN:∀p,Q5 p=false->(sD s0 B5 e D').get p=({ (sD s0 B5 e D).DG d.ws with ext:=e (DR D 0 B5+if d.DT=true then 1 else 0) }:S).get p:=fun p zO=>by
  have e1:(sD s0 B5 e D').get p=(s0.DG (D6 D' 0 B5)).get p:=by cases p <;> first | rfl | cases zO
  have e2:({ (sD s0 B5 e D).DG d.ws with ext:=e (DR D 0 B5+if d.DT=true then 1 else 0) }:S).get p=((sD s0 B5 e D).DG d.ws).get p:=by cases p <;> first | rfl | cases zO
  have e3:(sD s0 B5 e D).get p=(s0.DG (D6 D 0 B5)).get p:=by cases p <;> first | rfl | cases zO
  rw [e1,e2,GD p d.ws,e3,GD p,GD p,<-List.foldl_append,<-List.filter_append,h1,h2]
  congr 1
  simp only [List.filter_append,List.append_assoc]
  congr 1
  -- the two parts in the midst do not touch one place
  by_cases hB:d.ws.filter (G7 p)=[]
  ·simp [hB]
  ·have hC:C.filter (G7 p)=[]:=by
    refine List.filter_eq_nil_iff.2 fun x hx=>?_
    rw [h4] at hx
    obtain ⟨j,dj,Oh,hj,hxj⟩:=MW hx
    simp only [Nat.zero_add,Bool.and_eq_true,decide_eq_true_eq] at Oh
    obtain ⟨y,hy,gH⟩:∃y∈d.ws,G7 p y=true:=by
     rcases List.exists_mem_of_ne_nil _ hB with ⟨y,hy⟩
     exact ⟨y,(List.mem_filter.1 hy).1,(List.mem_filter.1 hy).2⟩
    intro htx
    have zO:x.loc=some p:=of_decide_eq_true htx
    have RG:p∈dj.rd++wl dj.ws:=List.mem_append_right _ (List.mem_filterMap.2 ⟨x,hxj,zO⟩)
    have:=JO (Y9 j dj hj Oh.2 Oh.1).1 hy RG
    rw [gH] at this; cases this
   simp [hC]
 have Yb:(sD s0 B5 e D').ext=e (DR D 0 B5+if d.DT=true then 1 else 0):=by
  show e (DR D' 0 B5)=_
  rw [LC hD hi Tj (Nat.zero_le i) (by simpa using hd)]
 intro g l a w hs
 have:=Ya g l a w hs
 split at this
 ·rename_i hw
  rw [iP hw]
  refine CO ?_ this
  rintro a' w' ⟨g',l',sm⟩
  exact ⟨g',l',sm.MZ zN Yb⟩
 ·rename_i hw
  rw [iN hw]
  obtain ⟨g',l',sm⟩:=this
  exact ⟨g',l',sm.MZ zN Yb⟩
end
section
variable {P:Program} {cx:Cx} {Q:A7->S->Prop} {ops:List Oper} {B5:List DS} {s0:S} {e:Nat->Ext}
def Dl(listed:Array Bool):Nat->Bool:=fun j=>listed.getD j false
theorem Q6(n:Nat):Dl (Array.replicate n false)=fun _=>false:=by
 funext j
 simp only [Dl]
 by_cases h:j<n
 ·simp [h]
 ·simp [h]
theorem OQ:∀ (l:List DS) (k:Nat),D6 (fun _=>false) k l=[]
 | [],_=>rfl
 | x::r,k=>by simp [D6,OQ r]
theorem OR:∀ (l:List DS) (k:Nat),DR (fun _=>false) k l=0
 | [],_=>rfl
 | x::r,k=>by simp [DR,OR r]
theorem Gj{listed:Array Bool}{i:Nat}:i∈Region.ready .any ops.toArray listed↔listed.getD i true=false/\∃o,ops[i]?=some o/\∀m∈Kq o,Dl listed m=true:=by
 rw [mem_ready]
 constructor
 ·rintro ⟨h0,o,ho,h⟩
  refine ⟨h0,o,by simpa using ho,fun m hm=>?_⟩
  simp only [Kq,List.mem_map,List.mem_filter] at hm
  obtain ⟨ed,⟨h1,h2⟩,rfl⟩:=hm
  exact h ed (by simpa using h1) h2
 ·rintro ⟨h0,o,ho,h⟩
  refine ⟨h0,o,by simpa using ho,fun ed hed hb=>h _ ?_⟩
  simp only [Kq,List.mem_map,List.mem_filter]
  exact ⟨ed,⟨by simpa using hed,hb⟩,rfl⟩
theorem Tw(Og:Ur ops B5 s0.tmps=true)(hlen:B5.length=ops.length){listed:Array Bool}(Cb:listed.size=ops.length)(hr:Region.ready .any ops.toArray listed=[]):∀i,i<ops.length->Dl listed i=true:=by
 intro i
 induction i using Nat.strongRecOn with
 | _ i ih=>
  intro Ad
  cases hv:listed.getD i true with
  | true=>
   have:i<listed.size:=by omega
   simp only [Dl]
   simp [this] at hv ⊢
   exact hv
  | false=>
   have CL:i<B5.length:=by omega
   obtain ⟨-,-,-,c4,-⟩:=JN Og (List.getElem?_eq_getElem CL)
   have:i∈Region.ready .any ops.toArray listed:=Gj.2 ⟨hv,ops[i],List.getElem?_eq_getElem Ad,fun m hm=>by
    have:=c4 _ (List.getElem?_eq_getElem Ad) m hm
    exact ih m this oM⟩
   rw [hr] at this
   simp at this
theorem q7(hlen:B5.length=ops.length){D:Nat->Bool}(h:∀i,i<ops.length->D i=true):sD s0 B5 e D=sD s0 B5 e (fun _=>true):=by
 unfold sD
 rw [DN (D:=D) (D':=fun _=>true) (B5:=B5) (k:=0) fun j _ hj=>h j oM]
 rw [EA (D:=D) (D':=fun _=>true) (B5:=B5) (k:=0) fun j d hj _=>by
  have:=(List.getElem?_eq_some_iff.1 hj).1
  rw [Nat.zero_add]
  exact h j oM]
theorem gI(Og:Ur ops B5 s0.tmps=true)(hlen:B5.length=ops.length)(hQ:Q .normal (sD s0 B5 e fun _=>true))
  (Kr:∀i o d,ops[i]?=some o->B5[i]?=some d->Y7 P cx ops.toArray Q e o d (sT s0 B5 e i) (DR (fun j=>decide (j<i)) 0 B5)) :
  ∀ (fuel:Nat) (listed:Array Bool) (L:List Nat) (g:Gh) (l:LG) (a:Act) (w:World),listed.size=ops.length->MX ops (Dl listed)->(∀i,i<ops.length->listed.getD i true=false->i∈L)->L.length<=fuel ->
   Bc cx (sD s0 B5 e (Dl listed)) g l a w->wpAny P .any ops.toArray (post cx Q) fuel listed a w:=by
 intro fuel
 have l7:∀ {listed:Array Bool} {g:Gh} {l:LG} {a:Act} {w:World},listed.size=ops.length->Region.ready .any ops.toArray listed=[]->Bc cx (sD s0 B5 e (Dl listed)) g l a w->post cx Q .normal a w:=fun {listed g l a w} Cb hr hs=>by
  have:=Tw Og hlen Cb hr
  rw [q7 hlen this] at hs
  exact ⟨.normal,_,g,l,hQ,trivial,hs⟩
 induction fuel with
 | zero=>
  intro listed L g l a w Cb hc hL hf hs
  have XY:L=[]:=List.eq_nil_of_length_eq_zero oM
  subst XY
  have hr:Region.ready .any ops.toArray listed=[]:=by
   apply List.eq_nil_iff_forall_not_mem.2
   intro i hi
   obtain ⟨h0,o,ho,-⟩:=Gj.1 hi
   exact absurd (hL i (List.getElem?_eq_some_iff.1 ho).1 h0) sM
  exact ⟨hr,l7 Cb hr hs⟩
 | succ fuel ih=>
  intro listed L g l a w Cb hc hL hf hs
  refine ⟨fun hr=>l7 Cb hr hs,fun i hi=>?_⟩
  obtain ⟨h0,o,ho,gF⟩:=Gj.1 hi
  have Ad:=(List.getElem?_eq_some_iff.1 ho).1
  have CL:i<B5.length:=by omega
  have fZ:i<listed.size:=by omega
  have hd:=List.getElem?_eq_getElem CL
  have hDi:Dl listed i=false:=by
   simp only [Dl]
   simp [fZ] at h0 ⊢
   exact h0
  have q8:Dl (listed.setIfInBounds i true) i=true:=by simp [Dl,fZ]
  have hDD:∀j,j≠i->Dl (listed.setIfInBounds i true) j=Dl listed j:=fun j hj=>getD_set_ne false (Ne.symm hj)
  have JH:=gE (Q:=Q) (P:=P) (cx:=cx) Og hc ho hd hDi q8 hDD gF (Kr i o _ ho hd) g l a w hs
  have QX:MX ops (Dl (listed.setIfInBounds i true)):=fun j oj hj Oh m hm=>by
   by_cases zP:j=i
   ·subst zP
    rw [ho] at hj
    injection hj with hj
    subst hj
    by_cases zQ:m=j
    ·rw [zQ]; exact q8
    ·rw [hDD m zQ]; exact gF m hm
   ·rw [hDD j zP] at Oh
    by_cases zQ:m=i
    ·rw [zQ]; exact q8
    ·rw [hDD m zQ]; exact hc j oj hj Oh m hm
  have l8:∀g l a w,Bc cx (sD s0 B5 e (Dl (listed.setIfInBounds i true))) g l a w->wpAny P .any ops.toArray (post cx Q) fuel (listed.setIfInBounds i true) a w:=fun g l a w hs=>by
   have RG:=hL i Ad h0
   refine ih _ (L.erase i) g l a w (by simp [Cb]) QX (fun j hj wY=>?_) (by rw [List.length_erase_of_mem RG]; have:=List.length_pos_of_mem RG; omega) hs
   have zP:j≠i:=fun e0=>by subst e0; simp [fZ] at wY
   rw [getD_set_ne true (Ne.symm zP)] at wY
   exact (List.mem_erase_of_ne zP).2 (hL j hj wY)
  have MD:ops.toArray[i]?=some o:=by simpa using ho
  unfold wpOp
  rw [MD]
  simp only
  split
  ·rename_i hw
   rw [iP hw] at JH
   refine .inl (Oper.wp_mono ?_ JH)
   rintro a' w' ⟨g',l',sm⟩
   exact l8 g' l' a' w' sm
  ·rename_i hw
   rw [iN hw] at JH
   obtain ⟨g',l',sm⟩:=JH
   exact l8 g' l' _ _ sm
theorem Q7{id:Nat}(hm:P.follows .mixedOrders=true)(Og:Ur ops B5 s0.tmps=true)(hlen:B5.length=ops.length)(he:e 0=s0.ext)(hQ:Q .normal (sD s0 B5 e fun _=>true))
  (Kr:∀i o d,ops[i]?=some o->B5[i]?=some d->Y7 P cx ops.toArray Q e o d (sT s0 B5 e i) (DR (fun j=>decide (j<i)) 0 B5)):PW P cx (.region id ops.toArray true) s0 Q:=fun g l a w hs=>by
 refine wp_region_any hm ?_
 have Yc:Bc cx s0 g l a { w with drawn:=w.drawn+1 }:=hs.drew.1
 refine gI Og hlen hQ Kr _ _ (List.range ops.length) g l a _ sM ?_ (fun i hi _=>by simpa using hi) sM ?_
 ·intro j o hj hD
  rw [Q6] at hD
  cases hD
 ·have e1:D6 (Dl (Array.replicate ops.toArray.size false)) 0 B5=[]:=by rw [Q6]; exact OQ _ _
  have e2:DR (Dl (Array.replicate ops.toArray.size false)) 0 B5=0:=by rw [Q6]; exact OR _ _
  unfold sD
  rw [e1,e2,he]
  exact Yc
end
def Q8:Wr->Bool
 | .ext _ _ _=>true
 | _=>false
def Ip:Ext->List Wr->Ext
 | e,[]=>e
 | e,.ext n off vs::r=>Ip (match lk e n with | some cs=>put e n (AO cs off vs) | none=>e) r
 | e,_::r=>Ip e r
theorem N0:∀ {r:List Wr} {e:Ext},r.any Q8=false->Ip e r=e
 | [],_,_=>rfl
 | x::r,e,h=>by
  simp only [List.any_cons,Bool.or_eq_false_iff] at h
  cases x with
  | ext _ _ _=>cases h.1
  | _=>simp only [Ip]; exact N0 (r:=r) h.2
theorem OS:∀ {r:List Wr},r.any Q8=false->r.filter Dk=r
 | [],_=>rfl
 | x::r,h=>by
  simp only [List.any_cons,Bool.or_eq_false_iff] at h
  have:=OS h.2
  cases x with
  | ext _ _ _=>cases h.1
  | _=>rw [List.filter_cons_of_pos rfl,this]
theorem Hs:∀ {r:List Wr} {s:S},s.DG (r.filter Dk)=s.DG r
 | [],_=>rfl
 | x::r,s=>by
  cases x with
  | ext n off vs=>simp only [List.filter_cons,Dk,Bool.false_eq_true,if_false,S.DG,S.wq]; exact Hs
  | tmp _ _=>simp only [List.filter_cons,Dk,if_true,S.DG]; exact Hs
  | Dz _ _=>simp only [List.filter_cons,Dk,if_true,S.DG]; exact Hs
  | cells _ _ _=>simp only [List.filter_cons,Dk,if_true,S.DG]; exact Hs
theorem Oi{s t:S}{l:Loc}(h:s.get l=t.get l)(L:List Wr):(s.DG L).get l=(t.DG L).get l:=by rw [GD,GD,h]
theorem q9(s:S)(x:Wr):(s.wr x).ext=Ip s.ext [x]:=by
 cases x with
 | tmp _ _=>rfl
 | Dz _ _=>rfl
 | cells i off vs=>simp only [S.wr,Ip]; split <;> rfl
 | ext n off vs=>simp only [S.wr,Ip]; cases lk s.ext n <;> rfl
theorem Wi(e:Ext)(x:Wr)(r:List Wr):Ip e (x::r)=Ip (Ip e [x]) r:=by cases x <;> rfl
theorem Us:∀ (r:List Wr) (s:S),(s.Io r).ext=Ip s.ext r
 | [],_=>rfl
 | x::r,s=>by rw [Wi,<-q9]; exact Us r _
theorem Yd{s t:S}{x:Wr}(hx:JM x=none)(h:∀l,Q5 l=false->s.get l=t.get l):∀l,Q5 l=false->(s.wr x).get l=(t.wq x).get l:=fun l hl=>by
 have hb:∀i,lk s.boxes i=lk t.boxes i:=fun i=>Y6 (h (.b i) rfl)
 cases x with
 | tmp u v=>
  cases l with
  | t k=>have:=RF (h (.t k) rfl); simp [S.wr,S.wq,S.get,B8,this]
  | b k=>have:=hb k; simp [S.wr,S.wq,S.get,this]
  | x k=>cases hl
 | Dz _ _=>cases hx
 | cells i off vs=>
  simp only [S.wr,S.wq,hb i]
  cases hi:lk t.boxes i with
  | none=>exact h l hl
  | some cs=>
   cases l with
   | t k=>exact h (.t k) rfl
   | b k=>simp [S.get,B8,hb k]
   | x k=>cases hl
 | ext n off vs=>
  have:(s.wr (.ext n off vs)).get l=s.get l:=by
   cases l with
   | t k=>simp only [S.wr]; split <;> rfl
   | b k=>simp only [S.wr]; split <;> rfl
   | x k=>cases hl
  rw [this]
  exact h l hl
theorem L9:∀ {r:List Wr} {s t:S},(∀x∈r,JM x=none)->(∀l,Q5 l=false->s.get l=t.get l)->∀l,Q5 l=false->(s.Io r).get l=(t.DG r).get l
 | [],_,_,_,h=>h
 | x::r,s,t,hn,h=>L9 (r:=r) (fun y hy=>hn y (List.mem_cons_of_mem _ hy)) (Yd (hn x sM) h)
theorem Jr{x:Wr}{r:List Wr}(hx:Dk x=true)(h:Hr ((x::r).filter Dk)=true):∀y∈r,JM y=none:=fun y hy=>by
 simp only [List.filter_cons,hx,if_true,Hr,List.all_eq_true] at h
 cases hp:Dk y with
 | true=>exact Option.isNone_iff_eq_none.1 (h y (List.mem_filter.2 ⟨hy,hp⟩))
 | false=>cases y <;> first | rfl | cases hp
theorem Ut:∀ {ws:List Wr} {s:S},Hr (ws.filter Dk)=true->(∀b∈ws.filterMap JM,∀t off,lk s.tmps t≠some (.lp b off))->∀l,Q5 l=false->(s.Io ws).get l=(s.DG ws).get l
 | [],_,_,_=>fun _ _=>rfl
 | x::r,s,hf,hn=>by
  cases hx:JM x with
  | none=>
   cases hp:Dk x with
   | true=>exact L9 (r:=x::r) (fun y hy=>by rcases List.mem_cons.1 hy with rfl | hy; exact hx; exact Jr hp hf y hy) fun _ _=>rfl
   | false=>
    cases x with
    | ext n off vs=>
     intro l hl
     have e1:∀l,Q5 l=false->(s.wr (.ext n off vs)).get l=s.get l:=fun l hl=>Yd rfl (fun _ _=>rfl) l hl
     have et:(s.wr (.ext n off vs)).tmps=s.tmps:=by simp only [S.wr]; split <;> rfl
     have:=Ut (ws:=r) (s:=s.wr (.ext n off vs)) (by simpa [List.filter_cons,Dk] using hf) (fun b hb t off=>by rw [et]; exact hn b (by simpa [JM,List.filterMap_cons] using hb) t off) l hl
     show ((s.wr (.ext n off vs)).Io r).get l=(s.DG r).get l
     rw [this]
     exact Oi (e1 l hl) r
    | _=>cases hp
  | some d=>
   cases x with
   | Dz i ps=>
    injection hx with hx
    subst hx
    have hr:=Jr (x := .Dz i ps) rfl hf
    refine L9 (r:=r) (s:=s.wr (.Dz i ps)) (t:=s.wq (.Dz i ps)) hr fun l hl=>?_
    cases l with
    | t k=>
     simp only [S.wr,S.wq,S.get,Kg]
     cases hk:lk s.tmps k with
     | none=>rfl
     | some lv=>
      simp only [Option.map_some]
      rcases Xv (i:=i) (lv:=lv) with hj | ⟨he,-⟩
      ·cases lv with
       | lp j o=>
        simp only [kl] at hj ⊢
        split
        ·rename_i e0; subst e0; exact absurd hk (hn j (by simp [JM,List.filterMap_cons]) k o)
        ·rfl
       | _=>rfl
      ·rw [he]
    | b k=>rfl
    | x k=>cases hl
   | _=>cases hx
def Cd.lv:Cd->Option LV
 | .ret p=>some (.v p)
 | .own e z es=>some (.uniq e z es)
 | .panic _=>none
def DH(o:Oper)(lv:LV):List Wr:=match o.dst with
 | some d=>[.tmp d lv]
 | none=>[]
section
variable {P:Program} {cx:Cx} {Q:A7->S->Prop}
def Gk(P:Program)(ro:TypeId->Option Bool)(n:Nat)(all:List Oper)(o:Oper)(gr:List Loc)(s:S)(K:DS->Option Ext->S->Prop):Prop:=match callee P o with
 | some r=>r.HP s fun x rd=>Fl P x.1=true/\((∃r lv,r.lv=some lv/\(∀e,BX P x.1 x.2 e fun r' e'=>r'=r/\e'=e)/\K ⟨gr++rd,DH o lv,false⟩ none (s.DG (DH o lv)))
   ∨ ∃r lv e',r.lv=some lv/\BX P x.1 x.2 s.ext (fun r' e''=>r'=r/\e''=e')/\K ⟨gr++rd,DH o lv,true⟩ (some e') { s.DG (DH o lv) with ext:=e' })
 | none=>(act P ro n all o).HP s fun wr rd=>if wr.any Q8=true then K ⟨gr++rd,wr.filter Dk,true⟩ (some (Ip s.ext wr)) { s.DG (wr.filter Dk) with ext:=Ip s.ext wr }
   else K ⟨gr++rd,wr,false⟩ none (s.DG wr)
def l9(P:Program)(ro:TypeId->Option Bool)(n:Nat)(all:List Oper):List Oper->S->(List DS->List Ext->S->Prop)->Prop
 | [],s,K=>K [] [] s
 | o::rest,s,K=>match o.guard with
  | none=>Gk P ro n all o [] s fun d x s'=>l9 P ro n all rest s' fun ds xs t=>K (d::ds) (x.toList++xs) t
  | some (j,want)=>match (all[j]?).bind (·.dst) with
   | some dj=>match (lk s.tmps dj).bind (MT want) with
    | some b=>if b=true then Gk P ro n all o [.t dj] s fun d x s'=>l9 P ro n all rest s' fun ds xs t=>K (d::ds) (x.toList++xs) t
     else l9 P ro n all rest (s.DG (DH o (.v (.B6 [])))) fun ds xs t=>K (⟨[.t dj],DH o (.v (.B6 [])),false⟩::ds) xs t
    | none=>False
   | none=>False
def Tx(P:Program)(cx:Cx)(all:Array Oper)(Q:A7->S->Prop)(o:Oper)(d:DS)(si:S)(e':Ext):Prop:=
 Hr d.ws=true->∀s,(∀l∈d.rd,s.get l=si.get l)->(d.xf=true->s.ext=si.ext)->(∀b∈d.ws.filterMap JM,∀t off,lk s.tmps t≠some (.lp b off))->L8 P cx all Q o s { s.DG d.ws with ext:=if d.DT=true then e' else s.ext }
def IF(P:Program)(cx:Cx)(all:Array Oper)(Q:A7->S->Prop):List Oper->List DS->List Ext->S->S->Prop
 | [],[],[],s,t=>t=s
 | o::rest,d::ds,xs,s,t=>∃ (x:Option Ext) (gJ:List Ext),xs=x.toList++gJ/\d.DT=x.isSome/\Tx P cx all Q o d s (x.getD s.ext)/\IF P cx all Q rest ds gJ { s.DG d.ws with ext:=x.getD s.ext } t
 | _,_,_,_,_=>False
theorem L8.of{all:Array Oper}{o:Oper}{s s' t:S}(hg:∀p,Q5 p=false->t.get p=s'.get p)(hx:t.ext=s'.ext)(h:L8 P cx all Q o s s'):L8 P cx all Q o s t:=fun g l a w hs=>by
 have:=h g l a w hs
 split
 ·rename_i hw
  rw [iP hw] at this
  exact CO (fun a' w' ⟨g',l',sm⟩=>⟨g',l',sm.MZ hg hx⟩) this
 ·rename_i hw
  rw [iN hw] at this
  obtain ⟨g',l',sm⟩:=this
  exact ⟨g',l',sm.MZ hg hx⟩
theorem FA{ro:TypeId->Option Bool}{all:List Oper}{o:Oper}{gr:List Loc}{si:S}{K:DS->Option Ext->S->Prop}(hd:∀d,o.dst=some d->d<cx.n)
  (E5:∀s,(∀l∈gr,s.get l=si.get l)->∀g l a w,Bc cx s g l a w->Region.wanted o (yielded all.toArray a.tmps)=true) (h:Gk P ro cx.n all o gr si K) :
  ∃d x s',K d x s'/\d.DT=x.isSome/\s'={ si.DG d.ws with ext:=x.getD si.ext }/\Tx P cx all.toArray Q o d si (x.getD si.ext):=by
 have GF:∀ {r:RM (FuncId × List PV)} {x:FuncId × List PV} {rd:List Loc} {res:Cd} {lv:LV} {DT:Bool} {e':Ext},callee P o=some r->(∀s',(∀l∈rd,s'.get l=si.get l)->r.wp s' fun y=>y=x)->Fl P x.1=true->res.lv=some lv ->
   (∀s:S,(DT=true->s.ext=si.ext)->BX P x.1 x.2 s.ext (fun r' e''=>r'=res/\e''=if DT=true then e' else s.ext))->Tx P cx all.toArray Q o ⟨gr++rd,DH o lv,DT⟩ si e':=by
  intro r x rd res lv DT e' hr Kr Lz Gx hC _ s OT Xg _ g l a w hs
  rw [iP (E5 s (fun l hl=>OT l (List.mem_append_left _ hl)) g l a w hs)]
  have hC':=hC s fun he=>Xg (by simp [DS.xf,he])
  have:=G6 (Q:=Q) (K:=fun s'=>s'=s.M5 o.dst lv (if DT=true then e' else s.ext)) hr hd hs (RM.wp_mono (fun y hy=>by
   subst hy
   refine ⟨Lz,hC'.mono ?_⟩
   rintro r' e'' ⟨rfl,rfl⟩
   cases r' with
   | ret p=>simp only [Cd.lv,Option.some.injEq] at Gx; subst Gx; rfl
   | own te z es=>simp only [Cd.lv,Option.some.injEq] at Gx; subst Gx; rfl
   | panic p=>cases Gx) (Kr s fun l hl=>OT l (List.mem_append_right _ hl)))
  refine CO ?_ this
  rintro a' w' ⟨s',g',l',rfl,sm⟩
  refine ⟨g',l',?_⟩
  have e1:({ s.DG (DH o lv) with ext:=if DT=true then e' else s.ext }:S)=s.M5 o.dst lv (if DT=true then e' else s.ext):=by
   unfold DH S.M5
   cases o.dst <;> rfl
  show Bc cx { s.DG (DH o lv) with ext:=if DT=true then e' else s.ext } g' l' a' w'
  rw [e1]
  exact sm
 unfold Gk at h
 split at h
 ·rename_i r hr
  obtain ⟨x,rd,⟨Lz,hk⟩,Kr⟩:=RM.Fm h
  rcases hk with hk | hk
  ·obtain ⟨res,lv,Gx,hC,hK⟩:=hk
   refine ⟨_,_,_,hK,rfl,?_,GF hr Kr Lz Gx fun s _=>?_⟩
   ·have:=Ko (DH o lv) si
    show si.DG (DH o lv)={ si.DG (DH o lv) with ext:=si.ext }
    rw [<-this]
   ·exact hC s.ext
  ·obtain ⟨res,lv,e',Gx,hC,hK⟩:=hk
   refine ⟨_,_,_,hK,rfl,rfl,GF hr Kr Lz Gx fun s hs=>?_⟩
   rw [hs rfl]
   exact hC
 ·obtain ⟨wr,rd,hk,Kr⟩:=RM.Fm h
  have zR:∀ {DT:Bool},DT=wr.any Q8->Tx P cx all.toArray Q o ⟨gr++rd,wr.filter Dk,DT⟩ si (Ip si.ext wr):=by
   intro DT Wh Ye s OT Xg Iz g l a w hs
   rw [iP (E5 s (fun l hl=>OT l (List.mem_append_left _ hl)) g l a w hs)]
   have:=Gd hs (Kr s fun l hl=>OT l (List.mem_append_right _ hl)) (post cx Q)
   refine CO ?_ this
   rintro a' w' ⟨wr',g',l',rfl,sm⟩
   refine ⟨g',l',sm.MZ (fun p hp=>?_) ?_⟩
   ·have PZ:∀b∈wr'.filterMap JM,∀t off,lk s.tmps t≠some (.lp b off):=fun b hb=>Iz b (by
     simp only [List.mem_filterMap] at hb ⊢
     obtain ⟨y,hy,hyb⟩:=hb
     exact ⟨y,List.mem_filter.2 ⟨hy,by cases y <;> first | rfl | cases hyb⟩,hyb⟩)
    have e1:=Ut Ye PZ p hp
    rw [e1]
    simp only [Hs]
    cases p <;> first | rfl | cases hp
   ·rw [Us]
    simp only
    cases DT with
    | true=>simp only [if_true]; rw [Xg (by simp [DS.xf])]
    | false=>simp only [Bool.false_eq_true,if_false]; exact (N0 Wh.symm).symm
  split at hk
  ·rename_i hx
   exact ⟨_,_,_,hk,rfl,rfl,zR hx.symm⟩
  ·rename_i hx
   have x4:wr.any Q8=false:=by simpa using hx
   have:=zR x4.symm
   rw [OS x4] at this
   refine ⟨_,_,_,hk,rfl,?_,?_⟩
   ·have:=Ko wr si
    show si.DG wr={ si.DG wr with ext:=si.ext }
    rw [<-this]
   ·have e2:=N0 (e:=si.ext) x4
    rw [e2] at this
    exact this
theorem J5{ro:TypeId->Option Bool}{all:List Oper}(BE:F0 cx.n all=true):∀ {ls:List Oper} {s:S} {K:List DS->List Ext->S->Prop},(∀o∈ls,o∈all)->l9 P ro cx.n all ls s K ->
  ∃B5 xs t,K B5 xs t/\IF P cx all.toArray Q ls B5 xs s t
 | [],s,K,_,h=>⟨[],[],s,h,rfl⟩
 | o::rest,s,K,hm,h=>by
  have hd:∀d,o.dst=some d->d<cx.n:=DF BE (hm o sM)
  have FN:∀o∈rest,o∈all:=fun o ho=>hm o (List.mem_cons_of_mem _ ho)
  simp only [l9] at h
  split at h
  ·rename_i hg
   obtain ⟨d,x,s',hk,he,rfl,hl⟩:=FA (Q:=Q) (o:=o) (all:=all) (gr:=[]) hd (fun s _ g l a w _=>by simp [Region.wanted,hg]) h
   obtain ⟨B5,xs,t,h1,h2⟩:=J5 BE FN hk
   exact ⟨d::B5,x.toList++xs,t,h1,x,xs,rfl,he,hl,h2⟩
  ·rename_i j want hg
   split at h
   ·rename_i dj Tz
    have Yf:dj<cx.n:=by
     simp only [Option.bind_eq_some_iff] at Tz
     obtain ⟨oj,h1,h2⟩:=Tz
     exact DF BE (List.mem_of_getElem? h1) dj h2
    split at h
    ·rename_i b hb
     simp only [Option.bind_eq_some_iff] at hb
     obtain ⟨lv,Gx,hb⟩:=hb
     have E5:∀s',(∀l∈[Loc.t dj],s'.get l=s.get l)->∀g l a w,Bc cx s' g l a w->Region.wanted o (yielded all.toArray a.tmps)=b:=fun s' Yc g l a w sm=>by
      have h1:lk s'.tmps dj=some lv:=by rw [RF (Yc (.t dj) sM)]; exact Gx
      simp only [Region.wanted,hg]
      exact JK (by simpa using Tz) Yf sm h1 hb
     split at h
     ·rename_i hbt
      subst hbt
      obtain ⟨d,x,s',hk,he,rfl,hl⟩:=FA (Q:=Q) (o:=o) (all:=all) (gr:=[.t dj]) hd E5 h
      obtain ⟨B5,xs,t,h1,h2⟩:=J5 BE FN hk
      exact ⟨d::B5,x.toList++xs,t,h1,x,xs,rfl,he,hl,h2⟩
     ·rename_i hbf
      have A77:b=false:=by simpa using hbf
      subst A77
      obtain ⟨B5,xs,t,h1,h2⟩:=J5 BE FN h
      refine ⟨_::B5,xs,t,h1,none,xs,rfl,rfl,?_,?_⟩
      ·intro _ s' OT Xg _ g l a w sm
       rw [iN (by rw [E5 s' OT g l a w sm]; simp)]
       refine ⟨g,l,?_⟩
       show Bc cx { s'.DG (DH o (.v (.B6 []))) with ext:=s'.ext } g l (a.put o.dst undef) w
       unfold DH
       cases Eh:o.dst with
       | none=>exact sm
       | some d=>exact sm.set (hd d Eh) (.B6 [] [] rfl fun j h=>by simp at h)
      ·have:=Ko (DH o (.v (.B6 []))) s
       have e2:s.DG (DH o (.v (.B6 [])))={ s.DG (DH o (.v (.B6 []))) with ext:=s.ext }:=by rw [<-this]
       rw [e2] at h2
       exact h2
    ·exact h.elim
   ·exact h.elim
theorem JP:∀ (A B:List Wr) (s:S),s.DG (A++B)=(s.DG A).DG B
 | [],_,_=>rfl
 | x::r,B,s=>by simp only [List.cons_append,S.DG]; exact JP r B _
theorem gK(s:S)(e:Ext)(x:Wr):({ s with ext:=e }:S).wq x={ s.wq x with ext:=e }:=by
 cases x with
 | cells i off vs=>simp only [S.wq]; split <;> rfl
 | _=>rfl
theorem RH:∀ (A:List Wr) (s:S) (e:Ext),({ s with ext:=e }:S).DG A={ s.DG A with ext:=e }
 | [],_,_=>rfl
 | x::r,s,e=>by simp only [S.DG,gK]; exact RH r _ e
theorem Ht:∀ (B5:List DS) (k i:Nat),D6 (fun j=>decide (j<k+i)) k B5=(B5.take i).flatMap (·.ws)
 | [],_,_=>by simp [D6]
 | d::r,k,0=>by
  have:=Ht r (k+1) 0
  have h2:D6 (fun j=>decide (j<k+0)) (k+1) r=D6 (fun j=>decide (j<k+1+0)) (k+1) r:=DN fun j h1 _=>by simp; omega
  simp only [D6,h2,this]
  simp
 | d::r,k,i+1=>by
  have:=Ht r (k+1) i
  rw [show k+1+i=k+(i+1) by omega] at this
  simp only [D6,this]
  simp
theorem EJ:∀ (B5:List DS) (k i:Nat),DR (fun j=>decide (j<k+i)) k B5=(B5.take i).countP (·.DT)
 | [],_,_=>by simp [DR]
 | d::r,k,0=>by
  have:=EJ r (k+1) 0
  have h2:DR (fun j=>decide (j<k+0)) (k+1) r=DR (fun j=>decide (j<k+1+0)) (k+1) r:=EA fun j d' _ _=>by
   have h3:¬k+1+j<k+0:=by omega
   have h4:¬k+1+j<k+1+0:=by omega
   simp only [h3,h4]
  simp only [DR,h2,this]
  simp
 | d::r,k,i+1=>by
  have:=EJ r (k+1) i
  rw [show k+1+i=k+(i+1) by omega] at this
  simp only [DR,this]
  simp only [List.take_succ_cons,List.countP_cons]
  cases d.DT <;> simp <;> omega
def Uu(s:S)(B5:List DS)(xs:List Ext)(i:Nat):S:={ s.DG ((B5.take i).flatMap (·.ws)) with ext:=(s.ext::xs).getD ((B5.take i).countP (·.DT)) [] }
theorem IF.at_{all:Array Oper}:∀ {ls:List Oper} {B5:List DS} {xs:List Ext} {s t:S},IF P cx all Q ls B5 xs s t->B5.length=ls.length/\t=Uu s B5 xs B5.length /\
  ∀i o d,ls[i]?=some o->B5[i]?=some d->∃e',Tx P cx all Q o d (Uu s B5 xs i) e'/\(d.DT=true->e'=(s.ext::xs).getD ((B5.take i).countP (·.DT)+1) [])
 | [],[],[],s,t,h=>⟨rfl,by
   have:t=s:=h
   subst this; rfl,fun i o d ho=>by simp at ho⟩
 | o0::rest,d0::ds,xs,s,t,h=>by
  obtain ⟨x,gJ,rfl,he,hl,hc⟩:=h
  obtain ⟨k1,k2,k3⟩:=IF.at_ hc
  have key:∀i,Uu { s.DG d0.ws with ext:=x.getD s.ext } ds gJ i=Uu s (d0::ds) (x.toList++gJ) (i+1):=fun i=>by
   unfold Uu
   rw [RH]
   simp only [List.take_succ_cons,List.flatMap_cons,JP,List.countP_cons,he]
   cases x with
   | none=>simp
   | some e1=>simp
  have kn:∀i,(({ s.DG d0.ws with ext:=x.getD s.ext }:S).ext::gJ).getD ((ds.take i).countP (·.DT)+1) []=(s.ext::(x.toList++gJ)).getD (((d0::ds).take (i+1)).countP (·.DT)+1) []:=fun i=>by
   simp only [List.take_succ_cons,List.countP_cons,he]
   cases x with
   | none=>simp
   | some e1=>simp
  refine ⟨by simp [k1],by rw [k2,key]; rfl,fun i o d ho hd=>?_⟩
  cases i with
  | zero=>
   simp only [List.getElem?_cons_zero,Option.some.injEq] at ho hd
   subst ho hd
   refine ⟨x.getD s.ext,?_,fun Xh=>?_⟩
   ·have:Uu s (d0::ds) (x.toList++gJ) 0=s:=by unfold Uu; simp [S.DG]
    rw [this]
    exact hl
   ·rw [he] at Xh
    cases x with
    | none=>cases Xh
    | some e1=>simp
  | succ i=>
   simp only [List.getElem?_cons_succ] at ho hd
   obtain ⟨e',h1,h2⟩:=k3 i o d ho hd
   rw [key] at h1
   exact ⟨e',h1,fun Xh=>by rw [h2 Xh]; exact kn i⟩
 | [],_::_,_,_,_,h=>h.elim
 | _::_,[],_,_,_,h=>h.elim
 | [],[],_::_,_,_,h=>h.elim
theorem Yg(ro:TypeId->Option Bool)(n:Nat){id:Nat}{ops:List Oper}{s:S}(hm:P.follows .mixedOrders=true)(hn:cx.n=n)(BE:F0 n ops=true)
  (h:l9 P ro n ops ops s fun B5 _ t=>Ur ops B5 s.tmps=true/\Q .normal t):PW P cx (.region id ops.toArray true) s Q:=by
 subst hn
 obtain ⟨B5,xs,t,⟨hc,hq⟩,x5⟩:=J5 (Q:=Q) BE (fun _ h=>h) h
 obtain ⟨k1,k2,k3⟩:=x5.at_
 have hT:∀i,sT s B5 (fun k=>(s.ext::xs).getD k []) i=Uu s B5 xs i:=fun i=>by
  unfold sT Uu
  have h1:=Ht B5 0 i
  have h2:=EJ B5 0 i
  simp only [Nat.zero_add] at h1 h2
  rw [h1,h2]
 refine Q7 (B5:=B5) (e:=fun k=>(s.ext::xs).getD k []) hm hc k1 rfl ?_ fun i o d ho hd=>?_
 ·have h1:=hT B5.length
  have h2:sD s B5 (fun k=>(s.ext::xs).getD k []) (fun _=>true)=sT s B5 (fun k=>(s.ext::xs).getD k []) B5.length:=by
   unfold sD sT
   rw [DN (D:=fun _=>true) (D':=fun j=>decide (j<B5.length)) (B5:=B5) (k:=0) fun j _ hj=>by simp at hj; simp [hj]]
   rw [EA (D:=fun _=>true) (D':=fun j=>decide (j<B5.length)) (B5:=B5) (k:=0) fun j d' hj _=>by
    have:=(List.getElem?_eq_some_iff.1 hj).1
    simp [this]]
  rw [h2,h1,<-k2]
  exact hq
 ·obtain ⟨e',h1,h2⟩:=k3 i o d ho hd
  rw [hT]
  have hk:DR (fun j=>decide (j<i)) 0 B5=(B5.take i).countP (·.DT):=by
   have:=EJ B5 0 i
   simpa using this
  rw [hk]
  intro s' k OT lB SX Iz
  obtain ⟨-,Ye,-⟩:=JN hc hd
  have:=h1 Ye s' OT (fun hx=>by rw [SX,lB hx]; rfl) Iz
  refine this.of (fun p hp=>?_) ?_
  ·cases p <;> first | rfl | cases hp
  ·simp only
   cases Xh:d.DT with
   | true=>
    have zS:=lB (by simp [DS.xf,Xh])
    rw [zS,h2 Xh]
    rfl
   | false=>simp only [Bool.false_eq_true,if_false,Nat.add_zero]; exact SX.symm
end
section
variable {P:Program} {cx:Cx} {s t:S} {g:Gh} {l:LG} {a:Act} {w:World} {o:Oper}
theorem Bc.Yh(h:Bc cx s g l a w)(cur:Array Value)(e:TypeId)(cs:List LV)(hlen:cs.length<=cur.size)(hr:∀j (hj:j<cs.length),cs[j] = .D8∨∃p,cs[j] = .v p/\BO g w p (cur.getD j undef))(Ck:∀u∈cur.toList,u.oneCell'=true) :
  Bc cx { s with ext:=put s.ext (El s.ext) cs } { g with M:=ET g.M w.heap.size (some 0),X:=ET g.X (El s.ext) (some w.heap.size) }
   { l with O:=ET l.O w.heap.size (some (.x (El s.ext))) } a (w.alloc (.cells cur e)) /\
  Ch g w { g with M:=ET g.M w.heap.size (some 0),X:=ET g.X (El s.ext) (some w.heap.size) } (w.alloc (.cells cur e)):=by
 have hb:∀b,b<w.heap.size->(w.alloc (.cells cur e)).heap[b]?=w.heap[b]?:=fun b hb=>Below.heap_alloc w _ b hb
 have hX:∀n b,g.X n=some b->ET g.X (El s.ext) (some w.heap.size) n=some b:=fun n b hx=>by
  rw [Aq]
  ·exact hx
  ·intro e0
   rw [e0,h.fresh.2.1 _ (Nat.le_refl _)] at hx
   cases hx
 have hm:Ch g w { g with M:=ET g.M w.heap.size (some 0),X:=ET g.X (El s.ext) (some w.heap.size) } (w.alloc (.cells cur e)):=by
  refine ⟨hX,fun b o v hc hf=>?_,EG hb,fun _ _ _ h=>h⟩
  have Ad:=World.block_lt_of_cell? w _ hc
  refine ⟨by rw [<-hc]; exact World.cell?_of_block (hb b Ad),fun k hk=>hf k ?_⟩
  simp only at Ad
  rw [<-Aq g.M (some 0) (Nat.ne_of_lt Ad)]; exact hk
 have hU:∀ {p b},l.U p=some b->l.U p=some b/\ET g.M w.heap.size (some 0) b=g.M b/\(w.alloc (.cells cur e)).heap[b]?=w.heap[b]?:=fun {p b} hu=>by
  have Ad:=(h.own b _ (h.uo _ _ hu)).1
  exact ⟨hu,Aq _ _ (Nat.ne_of_lt Ad),hb b Ad⟩
 have Cb:(w.alloc (.cells cur e)).heap.size=w.heap.size+1:=by simp
 refine ⟨⟨⟨h.AM.mono.trans hm,by rw [Cb]; exact Nat.le_succ_of_le h.AM.size,fun b Ad ho=>?_,h.AM.os,h.AM.tape,h.AM.output,h.AM.Jj.mono hm⟩,h.size,h.defers,?_,?_,?_,?_,?_,?_,?_⟩,hm⟩
 ·obtain ⟨h1,h2⟩:=h.AM.frame b Ad ho
  have CL:=Nat.lt_of_lt_of_le Ad h.AM.size
  exact ⟨(hb b CL).trans h1,(Aq g.M (some 0) (Nat.ne_of_lt CL)).trans h2⟩
 ·intro t lv ht
  exact (h.tm t lv ht).BK hm (fun _ _ _=>rfl) fun b hu=>hU hu
 ·intro k cs hk
  obtain ⟨b,h1,h2,h3,cur',e',h4,h5,h6⟩:=h.bx k cs hk
  have Ad:=(h.own b _ h2).1
  refine ⟨b,h1,(Aq _ _ (Nat.ne_of_lt Ad)).trans h2,(Aq _ _ (Nat.ne_of_lt Ad)).trans h3,cur',e',(hb b Ad).trans h4,h5,fun j hj=>⟨(h6 j hj).1,(h6 j hj).2.1,(h6 j hj).2.2.BK hm (fun _ _ _=>rfl) fun b hu=>hU hu⟩⟩
 ·intro k Jk hk
  simp only [B8] at hk
  split at hk
  ·rename_i ek
   subst ek
   injection hk with hk
   subst hk
   refine yI (BJ _ _ _) (BJ _ _ _) ⟨BJ _ _ _,cur,e,heap_alloc_new w _,hlen,fun j hj=>?_⟩
   have Xb:j<cur.size:=by omega
   have eV:(cur.getD j undef).oneCell'=true:=Ck _ (by simp [Xb])
   rcases hr j hj with hx | ⟨p,hx,hrp⟩
   ·rw [hx]; exact ⟨rfl,eV,Ar⟩
   ·rw [hx]; exact ⟨rfl,eV,hrp.mono hm⟩
  ·obtain ⟨b,h1,h2,hE⟩:=h.ex k Jk hk
   have Ad:=(h.own b _ h2).1
   refine ⟨b,h1.mono hm,(Aq _ _ (Nat.ne_of_lt Ad)).trans h2,?_⟩
   rcases hE with ⟨h3,cur',e',h4,h5,h6⟩ | hE
   ·exact .inl ⟨(Aq _ _ (Nat.ne_of_lt Ad)).trans h3,cur',e',(hb b Ad).trans h4,h5,fun j hj=>⟨(h6 j hj).1,(h6 j hj).2.1,(h6 j hj).2.2.BK hm (fun _ _ _=>rfl) fun b hu=>hU hu⟩⟩
   ·exact .inr (hE.BK hm (fun _ _ _ h=>h) (Aq _ _ (Nat.ne_of_lt Ad)) (hb b Ad))
 ·intro b o ho
  simp only [ET] at ho
  split at ho
  ·rename_i eb
   subst eb
   exact ⟨by rw [Cb]; omega,.inl h.AM.size⟩
  ·obtain ⟨k1,k2⟩:=h.own b o ho
   exact ⟨by rw [Cb]; omega,k2⟩
 ·intro p b hu
  have Ad:=(h.own b _ (h.uo _ _ hu)).1
  exact (Aq _ _ (Nat.ne_of_lt Ad)).trans (h.uo p b hu)
 ·refine ⟨fun b Ga=>?_,fun n hn=>?_,fun n c hn=>?_⟩
  ·rw [Cb] at Ga
   exact (Aq _ _ oM).trans (h.fresh.1 b oM)
  ·simp only [G2] at hn
   exact (Aq _ _ oM).trans (h.fresh.2.1 n oM)
  ·simp only [G2] at hn
   exact h.fresh.2.2 n c oM
 ·intro n b hx
  rw [Cb]
  simp only [ET] at hx
  split at hx
  ·injection hx with hx; omega
  ·exact Nat.lt_succ_of_lt (h.Gg n b hx)
theorem Bc.Yi(h:Bc cx s g l a w) :
  Bc cx { s with ext:=put s.ext (El s.ext) [.mm []] } { g with M:=ET g.M w.heap.size (some 0),X:=ET g.X (El s.ext) (some w.heap.size) }
   { l with O:=ET l.O w.heap.size (some (.x (El s.ext))) } a (w.alloc (.map #[] 0)) /\
  Ch g w { g with M:=ET g.M w.heap.size (some 0),X:=ET g.X (El s.ext) (some w.heap.size) } (w.alloc (.map #[] 0)):=by
 have hb:∀b,b<w.heap.size->(w.alloc (.map #[] 0)).heap[b]?=w.heap[b]?:=fun b hb=>Below.heap_alloc w _ b hb
 have hX:∀n b,g.X n=some b->ET g.X (El s.ext) (some w.heap.size) n=some b:=fun n b hx=>by
  rw [Aq]
  ·exact hx
  ·intro e0
   rw [e0,h.fresh.2.1 _ (Nat.le_refl _)] at hx
   cases hx
 have hm:Ch g w { g with M:=ET g.M w.heap.size (some 0),X:=ET g.X (El s.ext) (some w.heap.size) } (w.alloc (.map #[] 0)):=by
  refine ⟨hX,fun b o v hc hf=>?_,EG hb,fun _ _ _ h=>h⟩
  have Ad:=World.block_lt_of_cell? w _ hc
  refine ⟨by rw [<-hc]; exact World.cell?_of_block (hb b Ad),fun k hk=>hf k ?_⟩
  simp only at Ad
  rw [<-Aq g.M (some 0) (Nat.ne_of_lt Ad)]; exact hk
 have hU:∀ {p b},l.U p=some b->l.U p=some b/\ET g.M w.heap.size (some 0) b=g.M b/\(w.alloc (.map #[] 0)).heap[b]?=w.heap[b]?:=fun {p b} hu=>by
  have Ad:=(h.own b _ (h.uo _ _ hu)).1
  exact ⟨hu,Aq _ _ (Nat.ne_of_lt Ad),hb b Ad⟩
 have Cb:(w.alloc (.map #[] 0)).heap.size=w.heap.size+1:=by simp
 refine ⟨⟨⟨h.AM.mono.trans hm,by rw [Cb]; exact Nat.le_succ_of_le h.AM.size,fun b Ad ho=>?_,h.AM.os,h.AM.tape,h.AM.output,h.AM.Jj.mono hm⟩,h.size,h.defers,?_,?_,?_,?_,?_,?_,?_⟩,hm⟩
 ·obtain ⟨h1,h2⟩:=h.AM.frame b Ad ho
  have CL:=Nat.lt_of_lt_of_le Ad h.AM.size
  exact ⟨(hb b CL).trans h1,(Aq g.M (some 0) (Nat.ne_of_lt CL)).trans h2⟩
 ·intro t lv ht
  exact (h.tm t lv ht).BK hm (fun _ _ _=>rfl) fun b hu=>hU hu
 ·intro k cs hk
  obtain ⟨b,h1,h2,h3,cur',e',h4,h5,h6⟩:=h.bx k cs hk
  have Ad:=(h.own b _ h2).1
  refine ⟨b,h1,(Aq _ _ (Nat.ne_of_lt Ad)).trans h2,(Aq _ _ (Nat.ne_of_lt Ad)).trans h3,cur',e',(hb b Ad).trans h4,h5,fun j hj=>⟨(h6 j hj).1,(h6 j hj).2.1,(h6 j hj).2.2.BK hm (fun _ _ _=>rfl) fun b hu=>hU hu⟩⟩
 ·intro k Jk hk
  simp only [B8] at hk
  split at hk
  ·rename_i ek
   subst ek
   injection hk with hk
   subst hk
   exact ⟨w.heap.size,BJ _ _ _,BJ _ _ _,.inr (.inl ⟨[],rfl,BJ _ _ _,#[],0,heap_alloc_new w _,MapKept.stamped_empty 0,rfl,fun j hj=>by simp at hj⟩)⟩
  ·obtain ⟨b,h1,h2,hE⟩:=h.ex k Jk hk
   have Ad:=(h.own b _ h2).1
   refine ⟨b,h1.mono hm,(Aq _ _ (Nat.ne_of_lt Ad)).trans h2,?_⟩
   rcases hE with ⟨h3,cur',e',h4,h5,h6⟩ | hE
   ·exact .inl ⟨(Aq _ _ (Nat.ne_of_lt Ad)).trans h3,cur',e',(hb b Ad).trans h4,h5,fun j hj=>⟨(h6 j hj).1,(h6 j hj).2.1,(h6 j hj).2.2.BK hm (fun _ _ _=>rfl) fun b hu=>hU hu⟩⟩
   ·exact .inr (hE.BK hm (fun _ _ _ h=>h) (Aq _ _ (Nat.ne_of_lt Ad)) (hb b Ad))
 ·intro b o ho
  simp only [ET] at ho
  split at ho
  ·rename_i eb
   subst eb
   exact ⟨by rw [Cb]; omega,.inl h.AM.size⟩
  ·obtain ⟨k1,k2⟩:=h.own b o ho
   exact ⟨by rw [Cb]; omega,k2⟩
 ·intro p b hu
  have Ad:=(h.own b _ (h.uo _ _ hu)).1
  exact (Aq _ _ (Nat.ne_of_lt Ad)).trans (h.uo p b hu)
 ·refine ⟨fun b Ga=>?_,fun n hn=>?_,fun n c hn=>?_⟩
  ·rw [Cb] at Ga
   exact (Aq _ _ oM).trans (h.fresh.1 b oM)
  ·simp only [G2] at hn
   exact (Aq _ _ oM).trans (h.fresh.2.1 n oM)
  ·simp only [G2] at hn
   exact h.fresh.2.2 n c oM
 ·intro n b hx
  rw [Cb]
  simp only [ET] at hx
  split at hx
  ·injection hx with hx; omega
  ·exact Nat.lt_succ_of_lt (h.Gg n b hx)
theorem N1{z:Array Value}{n:Nat}{u:Value}(h:u∈(Builtin.zeroCells z n).toList):u∈z.toList:=by
 simp only [Builtin.zeroCells,Array.toList_map,List.mem_map] at h
 obtain ⟨k,hk,rfl⟩:=h
 have Ra:k<n * z.size:=by simpa using hk
 have Ho:0<z.size:=by
  rcases Nat.eq_zero_or_pos z.size with h0 | h0
  ·rw [h0] at Ra; simp at Ra
  ·exact h0
 have:=Nat.mod_lt k Ho
 simp [this]
end
def Js(g:Gh)(l:LG)(w:World)(e':Ext)(g':Gh)(l':LG)(w':World):Prop:=
 SV e' g' l' w'/\Ch g w g' w'/\w.heap.size<=w'.heap.size/\(∀b,b<w.heap.size->l.O b=none->w'.heap[b]?=w.heap[b]?/\g'.M b=g.M b) /\
  (∀b o,l'.O b=some o->w.heap.size<=b∨(l.O b).isSome=true)/\w'.os=w.os/\w'.tape=w.tape/\w'.output=w.output
inductive PM where
 | ret
 | x6 (p:PV)
 | gL
def Yj(g:Gh)(w:World):PM->FrameMode->Prop
 | .ret,u=>u = .returning
 | .x6 p,u=>∃v,u = .panicking [{ v,recovered:=false }]/\BO g w p v
 | .gL,u=>∃v,u = .panicking [{ v,recovered:=true }]
def EB(P:Program)(f:FuncId)(args:List PV)(e:Ext)(m:PM)(R:PM->Ext->Prop):Prop:=
 ∀vs g l w u,AE g w args vs->SV e g l w->Yj g w m u->CallsD P f vs.toArray u w fun en u' w'=>∃v m' e' g' l',en = .returned v/\R m' e'/\Yj g' w' m' u'/\Js g l w e' g' l' w'
section
variable {P:Program} {cx:Cx} {s t:S} {g:Gh} {l:LG} {a:Act} {w:World}
theorem Bc.after{n:Nat}{ds:List Deferred}{s':S}{g':Gh}{l':LG}{a':Act}{w':World}(sm:Bc ⟨n,ds,g,w,fun b=>(l.O b).isSome=true⟩ s' g' l' a' w'):Js g l w s'.ext g' (lx l') w':=by
 refine ⟨sm.pU,sm.AM.mono,sm.AM.size,fun b Ad ho=>sm.AM.frame b Ad (by show ¬(l.O b).isSome=true; rw [ho]; simp),fun b o' ho=>?_,sm.AM.os,sm.AM.tape,sm.AM.output⟩
 have:∃o2,l'.O b=some o2:=by
  simp only [lx] at ho
  split at ho
  ·rename_i pV; exact ⟨_,pV⟩
  ·rename_i pV; exact ⟨_,pV⟩
  ·cases ho
 obtain ⟨o2,gC⟩:=this
 exact (sm.own b o2 gC).2
theorem Bc.enter{n:Nat}{ps:List PV}{e:Ext}{vs:List Value}(ha:AE g w ps vs)(he:SV e g l w)(hn:ps.length<=n) :
  Bc ⟨n,[],g,w,fun b=>(l.O b).isSome=true⟩ (FR ps e) g l { tmps:=vs.toArray++Array.replicate (n - vs.toArray.size) undef,defers:=[] } w:=by
 have hl:=ha.1
 refine ⟨⟨Ch.refl g w,Nat.le_refl _,fun _ _ _=>⟨rfl,rfl⟩,rfl,rfl,rfl,he.Jj⟩,?_,rfl,?_,?_,he.ex,?_,he.uo,he.fresh,he.Gg⟩
 ·simp
  omega
 ·intro t lv ht
  obtain ⟨j,p,rfl,hj,rfl⟩:=Q4 ht
  have Ad:=(List.getElem?_eq_some_iff.1 hj).1
  have CL:j<vs.length:=by omega
  have:=ha.2 j Ad CL
  rw [List.getElem?_eq_getElem Ad] at hj
  injection hj with hj
  rw [hj] at this
  have e1:(vs.toArray++Array.replicate (n - vs.toArray.size) undef).getD (0+j) undef=vs[j]:=by
   simp [Array.getD_eq_getD_getElem?,Array.getElem?_append,CL]
  show BO g w p _
  rw [e1]
  exact this
 ·intro i cs hi
  simp [FR,lk] at hi
 ·intro b o' ho
  exact ⟨he.OK b o' ho,.inr (by show (l.O b).isSome=true; rw [ho]; rfl)⟩
theorem Bc.defer{ds:List Deferred}(h:Bc cx s g l a w):Bc { cx with ds:=ds } s g l { a with defers:=ds } w where
 AM:=⟨h.AM.mono,h.AM.size,h.AM.frame,h.AM.os,h.AM.tape,h.AM.output,h.AM.Jj⟩
 size:=h.size
 defers:=rfl
 tm:=h.tm
 bx:=h.bx
 ex:=h.ex
 own:=h.own
 uo:=h.uo
 fresh:=h.fresh
 Gg:=h.Gg
theorem Bc.zT{ds:List Deferred}(h:Bc cx s g l a w)(hd:a.defers=ds):Bc ⟨cx.n,ds,g,w,fun b=>(l.O b).isSome=true⟩ s g l a w where
 AM:=⟨Ch.refl g w,Nat.le_refl _,fun _ _ _=>⟨rfl,rfl⟩,rfl,rfl,rfl,h.AM.Jj⟩
 size:=h.size
 defers:=hd
 tm:=h.tm
 bx:=h.bx
 ex:=h.ex
 own:=fun b o ho=>⟨(h.own b o ho).1,.inr (by show (l.O b).isSome=true; rw [ho]; rfl)⟩
 uo:=h.uo
 fresh:=h.fresh
 Gg:=h.Gg
theorem Bc.Yk{n:Nat}{ds:List Deferred}{s':S}{g':Gh}{l':LG}{a':Act}{w':World}(h:Bc cx s g l a w)(h':Bc ⟨n,ds,g,w,fun b=>(l.O b).isSome=true⟩ s' g' l' a' w') :
  Bc ⟨n,ds,cx.g0,cx.w0,cx.VS⟩ s' g' l' a' w' where
 AM:=⟨h.AM.mono.trans h'.AM.mono,Nat.le_trans h.AM.size h'.AM.size,fun b Ad ho=>by
  obtain ⟨k1,k2⟩:=h.AM.frame b Ad ho
  have hn:¬(l.O b).isSome=true:=fun hs=>by
   obtain ⟨o,MD⟩:=Option.isSome_iff_exists.1 hs
   have CL:b<cx.w0.heap.size:=Ad
   rcases (h.own b o MD).2 with hc | hc
   ·omega
   ·exact ho hc
  obtain ⟨k3,k4⟩:=h'.AM.frame b (Nat.lt_of_lt_of_le Ad h.AM.size) hn
  exact ⟨k3.trans k1,k4.trans k2⟩,h'.AM.os.trans h.AM.os,h'.AM.tape.trans h.AM.tape,h'.AM.output.trans h.AM.output,h'.AM.Jj⟩
 size:=h'.size
 defers:=h'.defers
 tm:=h'.tm
 bx:=h'.bx
 ex:=h'.ex
 own:=fun b o ho=>by
  obtain ⟨k1,k2⟩:=h'.own b o ho
  refine ⟨k1,?_⟩
  rcases k2 with hc | hc
  ·exact .inl (Nat.le_trans h.AM.size hc)
  ·obtain ⟨o',MD⟩:=Option.isSome_iff_exists.1 hc
   exact (h.own b o' MD).2
 uo:=h'.uo
 fresh:=h'.fresh
 Gg:=h'.Gg
def qA(P:Program)(rs:List ResultVar)(R:Cd->Ext->Prop)(F8:FuncId)(lC:List PV):A7->S->Prop
 | .exit _,_=>False
 | .panic p,s=>EB P F8 lC s.ext (.x6 p) fun m e'=>m = .gL/\∃q,Fz P { s with ext:=e' } rs=some q/\R (.ret q) e'
 | _,s=>EB P F8 lC s.ext .ret fun m e'=>m = .ret/\∃q,Fz P { s with ext:=e' } rs=some q/\R (.ret q) e'
theorem BX.qB{f:FuncId}{fn:Func}{r0 y:Code}{id:Nat}{mk df:Oper}{t:Nat}{ts:Array TypeId}{ps:List PV}{e:Ext}{R:Cd->Ext->Prop}(ro:TypeId->Option Bool)(hf:P.funcs[f]?=some fn)
  (hb:fn.body=some (.seq r0 (.seq (.region id #[mk,df] false) y))) (hn:ps.length<=fn.ntmps) (qC:df.op = .defer ⟨.value (.tmp t),#[],ts⟩) (hgm:mk.guard=none) (hgd:df.guard=none) (Eh:df.dst=none)
  (h:∀cx:Cx,cx.n=fn.ntmps->cx.ds=[]->PW P cx r0 (FR ps e) fun pe s=>pe = .normal/\(act P ro fn.ntmps [mk,df] mk).wp s fun wr=>∃F8 first cap,lk (s.Io wr).tmps t=some (.v (.fn (.func F8) first cap))/\Fl P F8=true /\
   ∀Yl:Cx,Yl.n=fn.ntmps->PW P Yl y (s.Io wr) (qA P fn.results.toList R F8 (first++cap))):BX P f ps e R:=by
 intro vs g l w ha he
 refine calls_of_wp_defers hf hb ?_
 have hs:=Bc.enter (n:=fn.ntmps) ha he hn
 refine wp_seq (wp_mono (h _ rfl rfl g l _ w hs) ?_)
 rintro ex a1 w1 ⟨pe,s1,g1,l1,⟨rfl,hw⟩,er,zU⟩
 cases ex <;> first | exact er.elim | skip
 refine wp_seq ?_
 refine wp_region_lit (l:=[mk,df]) ?_
 refine wpList_plain hgm fun K hK=>?_
 refine CO ?_ (Gd zU hw _)
 rintro a2 w2 ⟨wr,g2,l2,⟨F8,first,cap,gG,Lz,hY⟩,gM⟩
 refine hK _ _ ?_
 refine wpList_plain hgd fun K hK=>?_
 have hv:=gM.tm t _ gG
 have hex:∀fv cv,a2.eval (.tmp t) = .func (.func F8) fv cv->(execOp a2.eval df).run P w2 = .ok (.defer { target := .fn (.func F8) cv,args:=fv ++ #[] }) w2:=by
  intro fv cv kK
  simp only [execOp,qC,resolve,kK,Deferred.ofValue,Sem.run_bind,Sem.run_pure,Result.andThen_ok,List.map_toArray,List.map_nil]
 have zV:BO g2 w2 (.fn (.func F8) first cap) (a2.eval (.tmp t)):=hv
 generalize a2.eval (.tmp t)=vf at zV hex
 cases zV with
 | fn _ _ _ fv cv l1' l2' r3 r4=>
  unfold Oper.wp
  rw [hex _ _ rfl,Oper.upon_defer,Eh]
  refine hK _ _ ?_
  refine wpList_nil ?_
  have lD:a2.defers=[]:=gM.defers
  rw [lD]
  have sm3:=gM.defer (ds:=[{ target := .fn (.func F8) cv.toArray,args:=fv.toArray ++ #[] }])
  show (Code.wp P y _ _ _)
  refine wp_mono (hY _ rfl g2 l2 _ w2 (sm3.zT rfl)) ?_
  rintro ex a4 w4 ⟨pe,s4,g4,l4,hq,er,Ym⟩
  have zW:a4.defers=[{ target := .fn (.func F8) cv.toArray,args:=fv.toArray ++ #[] }]:=Ym.defers
  have Hq:(fv.toArray ++ #[])++cv.toArray=(fv++cv).toArray:=by apply Array.ext'; simp
  have hinv:(invoke (.fn (.func F8) cv.toArray) (fv.toArray ++ #[])).run P w4 = .ok (.enter F8 (fv++cv).toArray) w4:=by
   simp only [invoke,Hq,Eb Lz]
  have BE:AE g4 w4 (first++cap) (fv++cv):=(AE.app ⟨l1',r3⟩ ⟨l2',r4⟩).mono Ym.AM.mono
  have fin:∀ {e':Ext} {g5:Gh} {l5:LG} {w5:World} {q:PV},Js g4 (lx l4) w4 e' g5 l5 w5->Fz P { s4 with ext:=e' } fn.results.toList=some q->R (.ret q) e' ->
    ∃v,(results fn a4.tmps).run P w5 = .ok v w5/\∃res e' g' l',R res e'/\OL g' l' (fun b=>w.heap.size<=b∨(l.O b).isSome=true) w5 res (.returned v)/\Js g l w e' g' l' w5:=by
   intro e' g5 l5 w5 q Yn hq hR
   obtain ⟨h1,h2,h3,h4,h5,h6,h7,h8⟩:=Yn
   have sm5:=Ym.back h1 h2 h3 h4 h5 h6 h7 h8
   have zX:=gM.Yk sm5
   obtain ⟨v,v1,v2⟩:=HO zX hq
   exact ⟨v,v1,.ret q,e',g5,_,hR,v2,zX.after⟩
  have norm:EB P F8 (first++cap) s4.ext .ret (fun m e'=>m = .ret/\∃q,Fz P { s4 with ext:=e' } fn.results.toList=some q/\R (.ret q) e')->Leaves P fn a4.tmps (fun en w'=>∃res e' g' l',R res e'/\OL g' l' (fun b=>w.heap.size<=b∨(l.O b).isSome=true) w' res en/\Js g l w e' g' l' w') a4.defers .returning w4:=by
   intro hC
   rw [zW]
   refine leaves_cons sM hinv ((hC _ g4 (lx l4) w4 .returning BE Ym.pU rfl).mono ?_)
   rintro en u' w5 ⟨v,m',e',g5,l5,rfl,⟨rfl,q,hq,hR⟩,zY,Yn⟩
   have hu:u' = .returning:=zY
   subst hu
   exact fin Yn hq hR
  cases pe with
  | normal=>
   cases ex <;> first | exact er.elim | skip
   exact norm hq
  | ret=>
   cases ex <;> first | exact er.elim | skip
   exact norm hq
  | exit _=>exact hq.elim
  | panic p=>
   cases ex <;> first | exact er.elim | skip
   obtain ⟨v,rfl,hv⟩:=er
   show Leaves P fn a4.tmps _ a4.defers _ w4
   rw [zW]
   refine leaves_cons sM hinv ((hq _ g4 (lx l4) w4 _ BE Ym.pU ⟨v,rfl,hv⟩).mono ?_)
   rintro en u' w5 ⟨v,m',e',g5,l5,rfl,⟨rfl,q,hq,hR⟩,⟨v',hu⟩,Yn⟩
   subst hu
   exact fin Yn hq hR
def Wj:List Code->Code->Code
 | [],c=>c
 | x::r,c => .seq x (Wj r c)
def PWs(P:Program)(cx:Cx):List Code->S->(S->Prop)->Prop
 | [],s,K=>K s
 | x::r,s,K=>PW P cx x s fun pe s'=>pe = .normal/\PWs P cx r s' K
theorem Yo{rest:Code}{Qc:Exit->Act->World->Prop}{cx:Cx}{K:S->Prop}:∀ {xs:List Code} {s:S},PWs P cx xs s K->(∀s' g l a w,K s'->Bc cx s' g l a w->rest.wp P Qc a w)->∀g l a w,Bc cx s g l a w->(Wj xs rest).wp P Qc a w
 | [],s,h,hr=>fun g l a w hs=>hr s g l a w h hs
 | x::r,s,h,hr=>fun g l a w hs=>by
  refine wp_seq (wp_mono (h g l a w hs) ?_)
  rintro ex a1 w1 ⟨pe,s1,g1,l1,⟨rfl,hw⟩,er,zU⟩
  cases ex <;> first | exact er.elim | skip
  exact Yo hw hr g1 l1 a1 w1 zU
theorem BX.gN{f:FuncId}{fn:Func}{r0:List Code}{y:Code}{id:Nat}{mk df:Oper}{t:Nat}{ts:Array TypeId}{ps:List PV}{e:Ext}{R:Cd->Ext->Prop}(ro:TypeId->Option Bool)(hf:P.funcs[f]?=some fn)
  (hb:fn.body=some (Wj r0 (.seq (.region id #[mk,df] false) y))) (hn:ps.length<=fn.ntmps) (qC:df.op = .defer ⟨.value (.tmp t),#[],ts⟩) (hgm:mk.guard=none) (hgd:df.guard=none) (Eh:df.dst=none)
  (h:∀cx:Cx,cx.n=fn.ntmps->cx.ds=[]->PWs P cx r0 (FR ps e) fun s=>(act P ro fn.ntmps [mk,df] mk).wp s fun wr=>∃F8 first cap,lk (s.Io wr).tmps t=some (.v (.fn (.func F8) first cap))/\Fl P F8=true /\
   ∀Yl:Cx,Yl.n=fn.ntmps->PW P Yl y (s.Io wr) (qA P fn.results.toList R F8 (first++cap))):BX P f ps e R:=by
 intro vs g l w ha he
 refine calls_of_wp_defers hf hb ?_
 have hs:=Bc.enter (n:=fn.ntmps) ha he hn
 refine Yo (h _ rfl rfl) (fun s1 g1 l1 a1 w1 hw zU=>?_) g l _ w hs
 refine wp_seq ?_
 refine wp_region_lit (l:=[mk,df]) ?_
 refine wpList_plain hgm fun K hK=>?_
 refine CO ?_ (Gd zU hw _)
 rintro a2 w2 ⟨wr,g2,l2,⟨F8,first,cap,gG,Lz,hY⟩,gM⟩
 refine hK _ _ ?_
 refine wpList_plain hgd fun K hK=>?_
 have hv:=gM.tm t _ gG
 have hex:∀fv cv,a2.eval (.tmp t) = .func (.func F8) fv cv->(execOp a2.eval df).run P w2 = .ok (.defer { target := .fn (.func F8) cv,args:=fv ++ #[] }) w2:=by
  intro fv cv kK
  simp only [execOp,qC,resolve,kK,Deferred.ofValue,Sem.run_bind,Sem.run_pure,Result.andThen_ok,List.map_toArray,List.map_nil]
 have zV:BO g2 w2 (.fn (.func F8) first cap) (a2.eval (.tmp t)):=hv
 generalize a2.eval (.tmp t)=vf at zV hex
 cases zV with
 | fn _ _ _ fv cv l1' l2' r3 r4=>
  unfold Oper.wp
  rw [hex _ _ rfl,Oper.upon_defer,Eh]
  refine hK _ _ ?_
  refine wpList_nil ?_
  have lD:a2.defers=[]:=gM.defers
  rw [lD]
  have sm3:=gM.defer (ds:=[{ target := .fn (.func F8) cv.toArray,args:=fv.toArray ++ #[] }])
  show (Code.wp P y _ _ _)
  refine wp_mono (hY _ rfl g2 l2 _ w2 (sm3.zT rfl)) ?_
  rintro ex a4 w4 ⟨pe,s4,g4,l4,hq,er,Ym⟩
  have zW:a4.defers=[{ target := .fn (.func F8) cv.toArray,args:=fv.toArray ++ #[] }]:=Ym.defers
  have Hq:(fv.toArray ++ #[])++cv.toArray=(fv++cv).toArray:=by apply Array.ext'; simp
  have hinv:(invoke (.fn (.func F8) cv.toArray) (fv.toArray ++ #[])).run P w4 = .ok (.enter F8 (fv++cv).toArray) w4:=by
   simp only [invoke,Hq,Eb Lz]
  have BE:AE g4 w4 (first++cap) (fv++cv):=(AE.app ⟨l1',r3⟩ ⟨l2',r4⟩).mono Ym.AM.mono
  have fin:∀ {e':Ext} {g5:Gh} {l5:LG} {w5:World} {q:PV},Js g4 (lx l4) w4 e' g5 l5 w5->Fz P { s4 with ext:=e' } fn.results.toList=some q->R (.ret q) e' ->
    ∃v,(results fn a4.tmps).run P w5 = .ok v w5/\∃res e' g' l',R res e'/\OL g' l' (fun b=>w.heap.size<=b∨(l.O b).isSome=true) w5 res (.returned v)/\Js g l w e' g' l' w5:=by
   intro e' g5 l5 w5 q Yn hq hR
   obtain ⟨h1,h2,h3,h4,h5,h6,h7,h8⟩:=Yn
   have sm5:=Ym.back h1 h2 h3 h4 h5 h6 h7 h8
   have zX:=gM.Yk sm5
   obtain ⟨v,v1,v2⟩:=HO zX hq
   exact ⟨v,v1,.ret q,e',g5,_,hR,v2,zX.after⟩
  have norm:EB P F8 (first++cap) s4.ext .ret (fun m e'=>m = .ret/\∃q,Fz P { s4 with ext:=e' } fn.results.toList=some q/\R (.ret q) e')->Leaves P fn a4.tmps (fun en w'=>∃res e' g' l',R res e'/\OL g' l' (fun b=>w.heap.size<=b∨(l.O b).isSome=true) w' res en/\Js g l w e' g' l' w') a4.defers .returning w4:=by
   intro hC
   rw [zW]
   refine leaves_cons sM hinv ((hC _ g4 (lx l4) w4 .returning BE Ym.pU rfl).mono ?_)
   rintro en u' w5 ⟨v,m',e',g5,l5,rfl,⟨rfl,q,hq,hR⟩,zY,Yn⟩
   have hu:u' = .returning:=zY
   subst hu
   exact fin Yn hq hR
  cases pe with
  | normal=>
   cases ex <;> first | exact er.elim | skip
   exact norm hq
  | ret=>
   cases ex <;> first | exact er.elim | skip
   exact norm hq
  | exit _=>exact hq.elim
  | panic p=>
   cases ex <;> first | exact er.elim | skip
   obtain ⟨v,rfl,hv⟩:=er
   show Leaves P fn a4.tmps _ a4.defers _ w4
   rw [zW]
   refine leaves_cons sM hinv ((hq _ g4 (lx l4) w4 _ BE Ym.pU ⟨v,rfl,hv⟩).mono ?_)
   rintro en u' w5 ⟨v,m',e',g5,l5,rfl,⟨rfl,q,hq,hR⟩,⟨v',hu⟩,Yn⟩
   subst hu
   exact fin Yn hq hR
theorem EB.enter{f:FuncId}{fn:Func}{id:Nat}{o0 o1:Oper}{y:Code}{t0 t1:Nat}{ts:Array TypeId}{ps:List PV}{e:Ext}{m:PM}{R:PM->Ext->Prop}(hf:P.funcs[f]?=some fn)
  (hb:fn.body=some (.seq (.region id #[o0,o1] false) y)) (hn:ps.length<=fn.ntmps) (h0:o0.op = .call ⟨.builtin .recover,#[],ts⟩) (hg0:o0.guard=none) (lD:o0.dst=some t0) (h1:o1.op = .assign (.tmp t0)) (hg1:o1.guard=none) (hd1:o1.dst=some t1)
  (hn0:t0<fn.ntmps) (QY:t1<fn.ntmps) (p:PV) (m':PM) (hm:(m = .ret/\p = .FW/\m' = .ret)∨(m = .x6 p/\m' = .gL))
  (h:∀cx:Cx,cx.n=fn.ntmps->cx.ds=[]->PW P cx y ⟨put (put (RE 0 ps) t0 (.v p)) t1 (.v p),[],e⟩ fun pe s=>(pe = .normal∨pe = .ret)/\(∃q,Fz P s fn.results.toList=some q)/\R m' s.ext):EB P f ps e m R:=by
 intro vs g l w u ha he hu
 refine callsD_of_wpS hf hb fun c₀ cs Yp=>?_
 have hs:=Bc.enter (n:=fn.ntmps) ha he hn
 obtain ⟨v,u',hv,zY,qD⟩:∃v u',BO g w p v/\(∀g' w',Yj g' w' m' u')/\((recoverD (c₀::cs)=none/\v = .nilIface/\u'=u)∨recoverD (c₀::cs)=some (v,{ c₀ with mode:=u' }::cs)):=by
  rcases hm with ⟨rfl,rfl,rfl⟩ | ⟨rfl,rfl⟩
  ·have XP:u = .returning:=hu
   subst XP
   exact ⟨.nilIface,.returning,.FW,fun _ _=>rfl,.inl ⟨by simp [recoverD,Yp],rfl,rfl⟩⟩
  ·obtain ⟨v,rfl,hv⟩:=hu
   exact ⟨v,.panicking [{ v,recovered:=true }],hv,fun _ _=>⟨v,rfl⟩,.inr (by simp [recoverD,Yp])⟩
 have DM:({ c₀ with mode:=u }:Frame)=c₀:=by rw [<-Yp]
 refine wpS_seq (wpS_region ?_)
 have yX:∀ (a:Act) (w:World),(execOp a.eval o0).run P w = .ok .recover w:=fun a w=>by simp [execOp,h0,resolve,invoke,builtin]
 have hr1:∀ (a:Act) (w:World),(execOp a.eval o1).run P w = .ok (.value (a.eval (.tmp t0))) w:=fun a w=>by simp [execOp,h1]
 have s1:=hs.set (d:=t0) (lv := .v p) (v:=v) hn0 hv
 have ev0:(Act.put { tmps:=vs.toArray++Array.replicate (fn.ntmps - vs.toArray.size) undef,defers:=[] } (some t0) v).eval (.tmp t0)=v:=by
  have:=s1.size
  show (Act.put _ (some t0) v).tmps.getD t0 undef=v
  rw [eval_put _ t0 t0 v (by rw [hs.size]; exact hn0)]
  simp
 have s2:=s1.set (d:=t1) (lv := .v p) (v:=v) QY hv
 have fin:y.wpS P (bodyPostS P fn c₀ cs fun en u' w'=>∃v m' e' g' l',en = .returned v/\R m' e'/\Yj g' w' m' u'/\Js g l w e' g' l' w')
   ((Act.put { tmps:=vs.toArray++Array.replicate (fn.ntmps - vs.toArray.size) undef,defers:=[] } (some t0) v).put (some t1) v) ({ c₀ with mode:=u' }::cs) w:=by
  refine wpS_of_wp (wp_mono (h _ rfl rfl g l _ w s2) ?_)
  rintro ex a' w' ⟨pe,s',g',l',⟨hpe,⟨q,hq⟩,hR⟩,er,sm⟩
  obtain ⟨v',v1,v2⟩:=HO sm hq
  have key:a'.defers=[]/\∃u'',({ c₀ with mode:=u' }::cs:List Frame)={ c₀ with mode:=u'' }::cs/\∃v,(results fn a'.tmps).run P w' = .ok v w'/\∃v0 m' e' g' l',(Ending.returned v) = .returned v0/\R m' e'/\Yj g' w' m' u''/\Js g l w e' g' l' w':=
   ⟨sm.defers,u',rfl,v',v1,v',m',s'.ext,g',lx l',rfl,hR,zY _ _,sm.after⟩
  rcases hpe with rfl | rfl
  ·cases ex <;> first | exact er.elim | exact key
  ·cases ex <;> first | exact er.elim | exact key
 have hw0:Region.wanted o0=fun _=>true:=by funext y; simp [Region.wanted,hg0]
 have eY:Region.wanted o1=fun _=>true:=by funext y; simp [Region.wanted,hg1]
 have qE:List.range (#[o0,o1]:Array Oper).size=[0,1]:=rfl
 rw [qE]
 have e0:(#[o0,o1]:Array Oper)[0]?=some o0:=rfl
 have e1:(#[o0,o1]:Array Oper)[1]?=some o1:=rfl
 rcases qD with ⟨x7,rfl,rfl⟩ | x7
 ·rw [DM] at fin
  simp only [wpOpsS,e0,e1,hw0,eY,if_true,yX,hr1,x7,Oper.upon_value,lD,hd1,Exit.thenS]
  rw [ev0]
  exact fin
 ·simp only [wpOpsS,e0,e1,hw0,eY,if_true,yX,hr1,x7,Oper.upon_value,lD,hd1,Exit.thenS]
  rw [ev0]
  exact fin
end
end Go.Pv
