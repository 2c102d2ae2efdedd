/- Values of Go as plain data, an evaluator over them, and what the functions of the program return; part Xc. -/
import Derived.Test.YthchpmnkecoafaaGreatDoorXb
import Derived.Laws.StructEq
import Derived.Orders
import Derived.Recover
set_option linter.unusedVariables false
set_option linter.unusedSimpArgs false
set_option linter.unusedSectionVars false
namespace Go.Pv
open Go.RowKit
section
variable {P:Program} {cx:Cx} {s t:S} {g:Gh} {l:LG} {a:Act} {w:World} {o:Oper}
def VW:Bool->Int->Int->Int
 | true,i,j=>if j>i then j else i
 | false,i,j=>if j<i then j else i
def XG(n:Nat)(o:Oper)(ON:Bool)(x y:Operand):RM (List Wr):=Fm x fun p=>Fm y fun q=>match p,q with
 | .int k i,.int _ j=>wv n o (.v (.int k (VW ON i j)))
 | _,_ => .fail
theorem Lx{ON:Bool}{x y:Operand}{K:List Wr->Prop}(ho:(ON=false/\∃ts,o.op = .call ⟨.builtin .min,⟨[x,y]⟩,ts⟩)∨(ON=true/\∃ts,o.op = .call ⟨.builtin .max,⟨[x,y]⟩,ts⟩))(h:Bb cx s g l a w)(hw:(XG cx.n o ON x y).wp s K):Bc P cx s o K a w:=by
 obtain ⟨p,h1,r1⟩:=AL h hw
 obtain ⟨q,h2,r2⟩:=AL h h1
 split at h2
 ·rename_i k i k' j
  refine Bc.pure h h2 (.int _ _) ?_
  have e1:a.eval x = .int k i:=by generalize a.eval x=v at r1; cases r1; rfl
  have e2:a.eval y = .int k' j:=by generalize a.eval y=v at r2; cases r2; rfl
  rcases ho with ⟨rfl,ts,ho⟩ | ⟨rfl,ts,ho⟩
  ·simp [execOp,ho,resolve,invoke,builtin,e1,e2,Builtin.min_,Builtin.min2,VW]
  ·simp [execOp,ho,resolve,invoke,builtin,e1,e2,Builtin.max_,Builtin.max2,VW]
 ·exact h2.elim
def mxL(ON:Bool):Int->List PV->Option Int
 | i,[]=>some i
 | i,.int _ j::r=>mxL ON (VW ON i j) r
 | _,_=>none
theorem XH{ON:Bool}{k:IntKind}:∀ {r:List PV} {i m:Int} {vs:List Value},mxL ON i r=some m->AG g w r vs->(vs.foldlM (fun x y=>if ON=true then Builtin.max2 x y else Builtin.min2 x y) (.int k i)).run P w = .ok (.int k m) w
 | [],i,m,vs,h,hr=>by
  have:=hr.Px
  subst this
  simp only [mxL,Option.some.injEq] at h
  subst h
  simp
 | p::r,i,m,vs,h,hr=>by
  obtain ⟨v,fK,rfl,h1,h2⟩:=hr.H9
  cases p with
  | int k' j=>
   cases h1
   simp only [mxL] at h
   have ih:=XH (k:=k) h h2
   have e:(if ON=true then Builtin.max2 (.int k i) (.int k' j) else Builtin.min2 (.int k i) (.int k' j))=pure (Value.int k (VW ON i j)):=by
    cases ON <;> rfl
   rw [List.foldlM_cons,e]
   simp only [Sem.run_bind,Sem.run_pure,Result.andThen_ok]
   exact ih
  | _=>simp [mxL] at h
def XI(n:Nat)(o:Oper)(ON:Bool)(xs:List Operand):RM (List Wr):=kA xs fun ps=>match ps with
 | .int k i::r=>match mxL ON i r with
  | some m=>wv n o (.v (.int k m))
  | none => .fail
 | _ => .fail
theorem Ly{ON:Bool}{xs:List Operand}{K:List Wr->Prop}(ho:(ON=false/\∃ts,o.op = .call ⟨.builtin .min,⟨xs⟩,ts⟩)∨(ON=true/\∃ts,o.op = .call ⟨.builtin .max,⟨xs⟩,ts⟩))(h:Bb cx s g l a w)(hw:(XI cx.n o ON xs).wp s K):Bc P cx s o K a w:=by
 obtain ⟨ps,h1,r1⟩:=EW h hw
 split at h1
 ·rename_i k i r
  split at h1
  ·rename_i m hm
   refine Bc.pure h h1 (.int _ _) ?_
   obtain ⟨v,vs,hv,rv,rvs⟩:=r1.H9
   have ev:v = .int k i:=by cases rv; rfl
   subst ev
   have e:=XH (P:=P) (k:=k) hm rvs
   rcases ho with ⟨rfl,ts,ho⟩ | ⟨rfl,ts,ho⟩
   ·simp only [Bool.false_eq_true,if_false] at e
    simp [execOp,ho,resolve,invoke,builtin,Builtin.min_,hv,e]
   ·simp only [if_true] at e
    simp [execOp,ho,resolve,invoke,builtin,Builtin.max_,hv,e]
  ·exact h1.elim
 ·exact h1.elim
def A9n(P:Program)(t:TypeId):Bool:=match P.underlying t with
 | some (.struct _)=>true
 | _=>false
def eq1(P:Program)(t:TypeId)(p q:PV):Option Bool:=match P.underlying t,p,q with
 | some .bool,.bool a,.bool b=>some (a==b)
 | some (.int _),.int k a,.int k' b=>if k=k' then some (a==b) else none
 | some .string,.str a,.str b=>some (a.toList==b.toList)
 | _,_,_=>none
theorem fY{t:TypeId}{p q:PV}{b:Bool}{u v:Value}(h:eq1 P t p q=some b)(r1:BJ g w p u)(r2:BJ g w q v)(d:Nat):(Op.equalIn (d+1) t u v).run P w = .ok b w:=by
 unfold eq1 at h
 split at h
 ·rename_i hu; injection h with h; subst h; cases r1; cases r2; exact run_equalIn_bool' w d t _ _ hu
 ·rename_i hu
  split at h
  ·rename_i hk; subst hk; injection h with h; subst h; cases r1; cases r2; exact run_equalIn_int w d t _ _ _ _ hu
  ·cases h
 ·rename_i hu; injection h with h; subst h; cases r1; cases r2; exact run_equalIn_string w d t _ _ hu
 ·cases h
def VX(P:Program)(xs ys:List PV):List Field->Option Bool
 | []=>some true
 | f::fs=>if f.name ≠ "_" then (match Oo P f.type xs f.offset,Oo P f.type ys f.offset with
   | some p,some q=>match eq1 P f.type p q,VX P xs ys fs with
    | some b,some r=>some (b&&r)
    | _,_=>none
   | _,_=>none) else VX P xs ys fs
theorem MC{xs ys:List PV}{vx vy:List Value}(hx:AG g w xs vx)(ox:∀v∈vx,v.oneCell'=true)(hy:AG g w ys vy)(oy:∀v∈vy,v.oneCell'=true)(d:Nat):∀ {fs:List Field} {b:Bool},VX P xs ys fs=some b->(Op.eqFields (d+1) vx.toArray vy.toArray fs).run P w = .ok b w
 | [],b,h=>by
  simp only [VX,Option.some.injEq] at h
  subst h
  simp [Op.eqFields]
 | f::fs,b,h=>by
  simp only [VX] at h
  simp only [Op.eqFields]
  split at h
  ·rename_i hn
   rw [iP hn]
   split at h
   ·rename_i p q hp hq
    obtain ⟨u,k1,k2⟩:=Hh (P:=P) hp hx ox
    obtain ⟨v,k3,k4⟩:=Hh (P:=P) hq hy oy
    split at h
    ·rename_i b1 b2 h1 h2
     injection h with h
     subst h
     have e1:=fY (P:=P) h1 k2 k4 d
     have ih:=MC hx ox hy oy d h2
     simp only [Sem.run_bind,k1,k3,e1,Result.andThen_ok]
     cases b1 with
     | false=>simp
     | true=>simpa using ih
    ·cases h
   ·cases h
  ·rename_i hn
   rw [iN hn]
   exact MC hx ox hy oy d h
def SU(P:Program)(n:Nat)(o:Oper)(op:BinOp)(ty:TypeId)(x y:Operand):RM (List Wr):=match P.underlying ty,isEq op with
 | some (.struct fs),some pos=>if (P.stoodInHeld ty||P.eqGuardType P.depth ty)=true then .fail else Fm x fun p=>Fm y fun q=>match p,q with
  | .agg xs,.agg ys=>match VX P xs ys fs.toList with
   | some b=>wv n o (.v (.bool (if pos then b else !b)))
   | none => .fail
  | _,_ => .fail
 | _,_ => .fail
theorem Q0{op:BinOp}{ty yt:TypeId}{x y:Operand}{K:List Wr->Prop}(ho:o.op = .binOp op ty x y yt)(h:Bb cx s g l a w)(hw:(SU P cx.n o op ty x y).wp s K):Bc P cx s o K a w:=by
 unfold SU at hw
 split at hw
 ·rename_i fs pos hu Hi
  split at hw
  ·exact hw.elim
  ·rename_i hc
   simp only [Bool.or_eq_true,not_or,Bool.not_eq_true] at hc
   obtain ⟨p,h1,r1⟩:=AL h hw
   obtain ⟨q,h2,r2⟩:=AL h h1
   have hex:∀v,(eqGuard op ty x y (a.eval x) (a.eval y)).run P w = .ok () w->(binOp op ty (a.eval x) (a.eval y)).run P w = .ok v w->(execOp a.eval o).run P w = .ok (.value v) w:=by
    intro v hg hv
    simp only [execOp,ho,Sem.run_bind,hg,Result.andThen_ok,hv,Sem.run_pure]
   generalize a.eval x=vx at r1 hex
   generalize a.eval y=vy at r2 hex
   split at h2
   ·rename_i xs ys
    split at h2
    ·rename_i b hb
     cases r1 with
     | agg _ vs hl Xt hr=>
      cases r2 with
      | agg _ vs2 hl2 eR hr2=>
       refine Bc.pure h h2 (.bool _) (hex _ (run_eqGuard_agg w op ty x y _ _ hc.2) ?_)
       have hf:P.fieldsOf ty=fs:=by simp only [Program.fieldsOf,hu]
       have e1:=MC (P:=P) ⟨hl,hr⟩ Xt ⟨hl2,hr2⟩ eR 9998 hb
       have e2:(Op.equalIn 10000 ty (.agg vs.toArray) (.agg vs2.toArray)).run P w = .ok b w:=by
        rw [run_equalIn_agg w 9999 ty _ _ (by rw [hf]; exact hu) hc.1,hf]
        exact e1
       cases op <;> simp only [isEq] at Hi <;> first | (cases Hi; done) | skip
       ·injection Hi with Hi; subst Hi
        rw [run_eql_struct,e2]; rfl
       ·injection Hi with Hi; subst Hi
        rw [run_neq_struct,e2]; rfl
    ·exact h2.elim
   ·exact h2.elim
 ·exact hw.elim
def act(P:Program)(ro:TypeId->Option Bool)(n:Nat)(ops:List Oper)(o:Oper):RM (List Wr):=match o.op with
 | .move x=>mv n ops o false x
 | .assign x=>mv n ops o true x
 | .pick c x y=>M5 n o c x y
 | .alloc ty=>if (ro ty).isNone=true then .fail else Mm P n o ty
 | .box ty x=>Xn ro n o ty x
 | .build ty ps=>Mp P n o ty ps
 | .buildSlice ty len ps=>Xp P n o ty len ps
 | .load ty x=>TP P n ops o ty x
 | .store ty x y=>Mw P o ty x y
 | .nilCheck x=>Xi P n o x
 | .binOp op ty x y _=>if A9n P ty=true then SU P n o op ty x y else Xe P n o op ty x y
 | .unOp op _ x=>kB n o op x
 | .convert src dst x=>if (P.underlying src).isSome=true then TM P n o dst x else .fail
 | .makeInterface ty x=>Xg P n o ty x
 | .makeFunc fn f c=>Xh n o fn f c
 | .fieldAddr ty x f=>Xj P n o ty x f
 | .field ty x f=>Mj P n o ty x f
 | .indexAddr ty x i=>Xl P n o ty x i
 | .extract x i=>kE n o x i
 | .typeAssert x _ ty ok=>Xm P n o x ty ok
 | .mapUpdate ty m k x=>TW P o ty m k x
 | .insert ty m k x=>TW P o ty m k x
 | .lookup ty x k ok=>XA P n o ty x k ok
 | .next it false=>XB n o it
 | .index ty x i=>SP P n o ty x i
 | .slice ty x lo hi none=>XF P n o ty x lo hi
 | .call ⟨.builtin .len,⟨[x]⟩,⟨[ty]⟩⟩=>SG P n o ty x
 | .call ⟨.builtin .delete,⟨[m,k]⟩,⟨[ty,_]⟩⟩=>SO P o ty m k
 | .call ⟨.builtin .min,⟨[x,y]⟩,_⟩=>XG n o false x y
 | .call ⟨.builtin .max,⟨[x,y]⟩,_⟩=>XG n o true x y
 | .call ⟨.builtin .min,⟨x::y::z::r⟩,_⟩=>XI n o false (x::y::z::r)
 | .call ⟨.builtin .max,⟨x::y::z::r⟩,_⟩=>XI n o true (x::y::z::r)
 | .call ⟨.builtin .append,⟨[x,y]⟩,⟨[ty,fZ]⟩⟩=>if ty=fZ then SL P n o ty x y else .fail
 | _ => .fail
theorem FO{ro:TypeId->Option Bool}{ops:List Oper}{K:List Wr->Prop}(h:Bb cx s g l a w)(hw:(act P ro cx.n ops o).wp s K):Bc P cx s o K a w:=by
 unfold act at hw
 split at hw
 ·rename_i x ho; exact QV h hw (by simp [execOp,ho])
 ·rename_i x ho; exact QV h hw (by simp [execOp,ho])
 ·rename_i c x y ho; exact Oq ho h hw
 ·rename_i ty ho
  split at hw
  ·exact hw.elim
  ·exact Mn ho h hw
 ·rename_i ty x ho; exact PJ ho h hw
 ·rename_i ty ps ho; exact Mq ho h hw
 ·rename_i ty len ps ho; exact R8 ho h hw
 ·rename_i ty x ho; exact Ot ho h hw
 ·rename_i ty x y ho; exact Mx ho h hw
 ·rename_i x ho; exact PG ho h hw
 ·rename_i op ty x y yt ho
  split at hw
  ·exact Q0 ho h hw
  ·exact PC ho h hw
 ·rename_i op ty x ho; exact QW ho h hw
 ·rename_i src dst x ho
  split at hw
  ·rename_i hs; exact On ho hs h hw
  ·exact hw.elim
 ·rename_i ty x ho; exact PD ho h hw
 ·rename_i fn f c ho; exact PE ho h hw
 ·rename_i ty x f ho; exact R1 ho h hw
 ·rename_i ty x f ho; exact Mk ho h hw
 ·rename_i ty x i ho; exact R2 ho h hw
 ·rename_i x i ho; exact R3 ho h hw
 ·rename_i x xt ty ok ho; exact R4 ho h hw
 ·rename_i ty m k x ho; exact Lw (.inl ho) h hw
 ·rename_i ty m k x ho; exact Lw (.inr ho) h hw
 ·rename_i ty x k ok ho; exact Rf ho h hw
 ·rename_i it ho; exact Rg ho h hw
 ·rename_i ty x i ho; exact PY ho h hw
 ·rename_i ty x lo hi ho; exact Rh ho h hw
 ·rename_i x ty ho; exact PI ho h hw
 ·rename_i m k ty Xx ho; exact PX ho h hw
 ·rename_i x y ts ho; exact Lx (.inl ⟨rfl,ts,ho⟩) h hw
 ·rename_i x y ts ho; exact Lx (.inr ⟨rfl,ts,ho⟩) h hw
 ·rename_i x y z r ts ho; exact Ly (.inl ⟨rfl,ts,ho⟩) h hw
 ·rename_i x y z r ts ho; exact Ly (.inr ⟨rfl,ts,ho⟩) h hw
 ·rename_i x y ty fZ ho
  split at hw
  ·rename_i he; subst he; exact PS ho h hw
  ·exact hw.elim
 ·exact hw.elim
theorem Cz{next next':Act->World->Prop}{Q:Exit->Act->World->Prop}{r:Result Next}(hn:∀a w,next a w->next' a w)(h:o.upon P a next Q r):o.upon P a next' Q r:=by
 unfold Oper.upon at h ⊢
 split at h
 ·exact hn _ _ h
 ·exact hn _ _ h
 ·exact hn _ _ h
 ·refine h.mono ?_
  intro e w' he
  cases e with
  | returned v=>exact hn _ _ he
  | panicked ch=>exact he
  | outgrown=>exact he
 ·exact h.mono fun v w' hv=>hn _ _ hv
 ·exact h
 ·exact h
def PL(P:Program)(cx:Cx)(all:Array Oper)(ls:List Oper)(s:S)(Q:A5->S->Prop):Prop:=∀g l a w,Bb cx s g l a w->wpList P all (post cx Q) ls a w
def S.skip(s:S)(o:Oper):S:=match o.dst with
 | some d=>{ s with tmps:=put s.tmps d (.v (.AE [])) }
 | none=>s
theorem MD{all:Array Oper}{Q:A5->S->Prop}(h:Q .normal s):PL P cx all [] s Q:=fun g l _ _ hs=>wpList_nil ⟨.normal,s,g,l,h,trivial,hs⟩
def ME(want:Bool):LV->Option Bool
 | .v (.bool b)=>some (b==want)
 | .v (.AE _)=>some false
 | _=>none
theorem JL{all:Array Oper}{j dj:Nat}{want b:Bool}{lv:LV}(hd:(all[j]?).bind (·.dst)=some dj)(hn:dj<cx.n)(h:Bb cx s g l a w)(hl:lk s.tmps dj=some lv)(hw:ME want lv=some b):(yielded all a.tmps j==some want)=b:=by
 have hr:=h.tm dj lv hl
 have hs:a.tmps[dj]?=some (a.tmps.getD dj undef):=by
  have:dj<a.tmps.size:=by rw [h.size]; exact hn
  simp [this]
 unfold yielded
 rw [hd,Option.bind_some,hs]
 generalize a.tmps.getD dj undef=v at hr
 unfold ME at hw
 split at hw
 ·rename_i b0
  cases hr
  simp only [Option.some.injEq] at hw
  rw [<-hw]
  cases want <;> cases b0 <;> rfl
 ·cases hr
  simp only [Option.some.injEq] at hw
  rw [<-hw]
  cases want <;> rfl
 ·cases hw
def Er(n:Nat):List Oper->Bool
 | []=>true
 | o::r=>(match o.dst with | some d=>decide (d<n) | none=>true)&&Er n r
theorem RM.wp_mono{α:Type}{K K':α->Prop}(hk:∀x,K x->K' x):∀ {r:RM α},r.wp s K->r.wp s K'
 | .ret _,h=>hk _ h
 | .fail,h=>h
 | .It t k,h=>by
  simp only [RM.wp] at h ⊢
  split at h
  ·rename_i v hv; exact RM.wp_mono hk h
  ·exact h.elim
 | .Iu t k,h=>by
  simp only [RM.wp] at h ⊢
  split at h
  ·rename_i v hv; exact RM.wp_mono hk h
  ·exact h.elim
 | .E6 t k,h=>by
  simp only [RM.wp] at h ⊢
  split at h
  ·rename_i v hv; exact RM.wp_mono hk h
  ·exact h.elim
 | .assume p k,h=>⟨h.1,RM.wp_mono hk h.2⟩
theorem Dk{n:Nat}:∀ {ls:List Oper},Er n ls=true->∀ {o:Oper},o∈ls->∀d,o.dst=some d->d<n
 | [],_,o,ho,_,_=>by simp at ho
 | x::r,h,o,ho,d,hd=>by
  simp only [Er,Bool.and_eq_true] at h
  rcases List.mem_cons.1 ho with rfl | ho
  ·have h1:=h.1
   rw [hd] at h1
   simpa using h1
  ·exact Dk h.2 ho d hd
end
abbrev Ext:=List (Nat × List LV)
inductive Cr where
 | ret (p:PV)
 | own (e:TypeId) (z:Nat) (es:List (List PV))
 | panic (p:PV)
def lx(l:LG):LG where
 L:=fun _=>none
 U:=fun p=>match p with
  | .x n o=>l.U (.x n o)
  | _=>none
 O:=fun b=>match l.O b with
  | some (.x n)=>some (.x n)
  | some (.u (.x n o))=>some (.u (.x n o))
  | _=>none
structure So (e:Ext) (g:Gh) (l:LG) (w:World):Prop where
 ex:∀x cs,lk e x=some cs->∃b,XR g x cs b/\l.O b=some (.x x)/\VI g l w (.x x) b cs
 Q1:∀b o,l.O b=some o->b<w.heap.size
 uo:∀p b,l.U p=some b->l.O b=some (.u p)
 fresh:(∀b,w.heap.size<=b->g.M b=none)/\(∀n,DN e<=n->g.X n=none)/\∀n c,DN e<=n->g.Y n c=none
 Gg:∀n b,g.X n=some b->b<w.heap.size
 only:∀b o,l.O b=some o->(∃n,o = .x n)∨∃n k,o = .u (.x n k)
 JH:X4 g w
def OO(g:Gh)(l:LG)(ok:Nat->Prop)(w:World):Cr->Ending->Prop
 | .ret p,.returned v=>BJ g w p v
 | .own e z es,.returned v=>e<1000000/\(((v = .slice none 0 0/\es=[])∨∃a,v = .slice (some a) es.length es.length/\BJ g w (.sl z es) v) ∨
   ∃b cap cur,v = .slice (some ⟨b,0,none⟩) es.length cap/\ok b/\b<w.heap.size/\l.O b=none/\g.M b=some (es.length * z)/\w.heap[b]?=some (.cells cur e (0,0))/\cur.size=cap * z/\BJ g w (.sl z es) v)
 | .panic p,.panicked ch=>∃v,ch=[{ v,recovered:=false }]/\BJ g w p v
 | _,_=>False
def C3(P:Program)(f:FuncId)(args:List PV)(e:Ext)(R:Cr->Ext->Prop):Prop:=
 ∀vs g l w,AG g w args vs->So e g l w->Calls P f vs.toArray w fun en w'=>∃res e' g' l',R res e'/\OO g' l' (fun b=>w.heap.size<=b∨(l.O b).isSome=true) w' res en/\So e' g' l' w'/\C0 g w g' w'/\w.heap.size<=w'.heap.size /\
  (∀b,b<w.heap.size->l.O b=none->w'.heap[b]?=w.heap[b]?/\g'.M b=g.M b)/\(∀b o,l'.O b=some o->w.heap.size<=b∨(l.O b).isSome=true)/\w'.os=w.os/\w'.tape=w.tape/\w'.output=w.output
theorem C3.mono{P:Program}{f:FuncId}{args:List PV}{e:Ext}{R R':Cr->Ext->Prop}(h:C3 P f args e R)(hr:∀res e',R res e'->R' res e'):C3 P f args e R':=fun vs g l w ha he=>
 (h vs g l w ha he).mono fun _ _ ⟨res,e',g',l',h1,h2⟩=>⟨res,e',g',l',hr _ _ h1,h2⟩
section
variable {P:Program} {cx:Cx} {s t:S} {g:Gh} {l:LG} {a:Act} {w:World} {o:Oper}
theorem Cq.lx{n k:Nat}{lv:LV}{v:Value}(hn:lv.Me=true)(h:Cq g l w (.x n k) lv v):Cq g (Pv.lx l) w (.x n k) lv v:=
 h.BN (C0.refl g w) (fun i off e=>by rw [e] at hn; cases hn) fun b hb=>⟨hb,rfl,rfl⟩
theorem Bb.pZ(h:Bb cx s g l a w):So s.ext g (lx l) w where
 ex x cs hx:=by
  obtain ⟨b,h1,h2,hE⟩:=h.ex x cs hx
  refine ⟨b,h1,by simp [lx,h2],?_⟩
  rcases hE with ⟨h3,cur,e,h4,h5,h6⟩ | hE
  ·exact .inl ⟨h3,cur,e,h4,h5,fun j hj=>⟨(h6 j hj).1,(h6 j hj).2.1,(h6 j hj).2.2.lx (h6 j hj).1⟩⟩
  ·exact .inr hE
 Q1 b o ho:=by
  simp only [lx] at ho
  split at ho
  ·rename_i n hn; exact (h.own b _ hn).1
  ·rename_i n k hn; exact (h.own b _ hn).1
  ·cases ho
 uo p b hu:=by
  simp only [lx] at hu ⊢
  split at hu
  ·rename_i n k
   have:=h.uo _ _ hu
   rw [this]
  ·cases hu
 fresh:=h.fresh
 Gg:=h.Gg
 JH:=h.AV.JH
 only b o ho:=by
  simp only [lx] at ho
  split at ho
  ·injection ho with ho; exact .inl ⟨_,ho.symm⟩
  ·injection ho with ho; exact .inr ⟨_,_,ho.symm⟩
  ·cases ho
def EL(l l':LG):LG where
 L:=l.L
 U:=fun p=>match p with
  | .x n o=>l'.U (.x n o)
  | p=>l.U p
 O:=fun b=>match l'.O b with
  | some o=>some o
  | none=>match l.O b with
   | some (.x _)=>none
   | some (.u (.x _ _))=>none
   | o=>o
theorem Bb.back{e':Ext}{g':Gh}{l':LG}{w':World}(h:Bb cx s g l a w)(he:So e' g' l' w')(hm:C0 g w g' w')(Bq:w.heap.size<=w'.heap.size)
  (VY:∀b,b<w.heap.size->(lx l).O b=none->w'.heap[b]?=w.heap[b]?/\g'.M b=g.M b) (Q2:∀b o,l'.O b=some o->w.heap.size<=b∨((lx l).O b).isSome=true)
  (os:w'.os=w.os) (tape:w'.tape=w.tape) (output:w'.output=w.output):Bb cx { s with ext:=e' } g' (EL l l') a w':=by
 have hnx:∀ {b o},l.O b=some o->(∀n,o ≠ .x n)->(∀n k,o ≠ .u (.x n k))->(lx l).O b=none:=fun {b o} ho h1 h2=>by
  simp only [lx,ho]
  split
  ·rename_i n e0; injection e0 with e0; exact absurd e0 (h1 n)
  ·rename_i n k e0; injection e0 with e0; exact absurd e0 (h2 n k)
  ·rfl
 have Hj:∀ {b o},l.O b=some o->(∀n,o ≠ .x n)->(∀n k,o ≠ .u (.x n k))->(EL l l').O b=some o/\w'.heap[b]?=w.heap[b]?/\g'.M b=g.M b:=fun {b o} ho h1 h2=>by
  have Ag:=(h.own b o ho).1
  have hx:=hnx ho h1 h2
  have OP:l'.O b=none:=by
   cases hb:l'.O b with
   | none=>rfl
   | some o'=>
    rcases Q2 b o' hb with hc | hc
    ·omega
    ·rw [hx] at hc; cases hc
  refine ⟨?_,VY b Ag hx⟩
  simp only [EL,OP,ho]
  split
  ·rename_i n e0; injection e0 with e0; exact absurd e0 (h1 n)
  ·rename_i n k e0; injection e0 with e0; exact absurd e0 (h2 n k)
  ·rfl
 have IK:∀ {p lv v},(∀n k,p≠UL.x n k)->Cq g l w p lv v->Cq g' (EL l l') w' p lv v:=fun {p lv v} hp hr=>
  hr.BN hm (fun _ _ _=>rfl) fun b hu=>by
   obtain ⟨k1,k2,k3⟩:=Hj (h.uo p b hu) sM (fun n k e0=>by injection e0 with e0; exact hp n k e0)
   refine ⟨?_,k3,k2⟩
   cases p with
   | x n k=>exact absurd rfl (hp n k)
   | t i=>exact hu
   | b i k=>exact hu
 refine ⟨⟨h.AV.mono.trans hm,Nat.le_trans h.AV.size Bq,fun b Ag ho=>?_,os.trans h.AV.os,tape.trans h.AV.tape,output.trans h.AV.output,h.AV.JH.mono hm⟩,h.size,h.defers,fun t lv ht=>IK sM (h.tm t lv ht),?_,?_,?_,?_,he.fresh,he.Gg⟩
 ·obtain ⟨h1,h2⟩:=h.AV.frame b Ag ho
  have CE:=Nat.lt_of_lt_of_le Ag h.AV.size
  have hx:(lx l).O b=none:=by
   cases hb:(lx l).O b with
   | none=>rfl
   | some o=>
    have:(l.O b).isSome=true:=by
     simp only [lx] at hb
     split at hb
     ·rename_i hn; rw [hn]; rfl
     ·rename_i hn; rw [hn]; rfl
     ·cases hb
    obtain ⟨o',Mi⟩:=Option.isSome_iff_exists.1 this
    rcases (h.own b o' Mi).2 with hc | hc
    ·omega
    ·exact absurd hc ho
  obtain ⟨k1,k2⟩:=VY b CE hx
  exact ⟨k1.trans h1,k2.trans h2⟩
 ·intro i cs hi
  obtain ⟨b,h1,h2,h3,cur,e,h4,h5,h6⟩:=h.bx i cs hi
  obtain ⟨k1,k2,k3⟩:=Hj h2 sM sM
  exact ⟨b,h1,k1,k3.trans h3,cur,e,k2.trans h4,h5,fun j hj=>⟨(h6 j hj).1,(h6 j hj).2.1,IK sM (h6 j hj).2.2⟩⟩
 ·intro x cs hx
  obtain ⟨b,h1,h2,hE⟩:=he.ex x cs hx
  refine ⟨b,h1,by simp [EL,h2],?_⟩
  rcases hE with ⟨h3,cur,e,h4,h5,h6⟩ | hE
  rotate_left
  ·exact .inr hE
  refine .inl ⟨h3,cur,e,h4,h5,fun j hj=>⟨(h6 j hj).1,(h6 j hj).2.1,?_⟩⟩
  exact (h6 j hj).2.2.BN (C0.refl _ _) (fun i off e0=>by have:=(h6 j hj).1; rw [e0] at this; cases this) fun b hb=>⟨hb,rfl,rfl⟩
 ·intro b o ho
  simp only [EL] at ho
  split at ho
  ·rename_i o' Mi
   refine ⟨he.Q1 b o' Mi,?_⟩
   rcases Q2 b o' Mi with hc | hc
   ·exact .inl (Nat.le_trans h.AV.size hc)
   ·have:(l.O b).isSome=true:=by
     simp only [lx] at hc
     split at hc
     ·rename_i hn; rw [hn]; rfl
     ·rename_i hn; rw [hn]; rfl
     ·cases hc
    obtain ⟨o2,eR⟩:=Option.isSome_iff_exists.1 this
    exact (h.own b o2 eR).2
  ·split at ho
   ·cases ho
   ·cases ho
   ·exact ⟨Nat.lt_of_lt_of_le (h.own b o ho).1 Bq,(h.own b o ho).2⟩
 ·intro p b hu
  simp only [EL] at hu
  split at hu
  ·rename_i n k
   have:=he.uo _ _ hu
   simp [EL,this]
  ·rename_i hp
   exact (Hj (h.uo p b hu) sM (fun n k e0=>by injection e0 with e0; exact hp n k e0)).1
end
section
variable {P:Program} {cx:Cx} {s t:S} {g:Gh} {l:LG} {a:Act} {w:World} {o:Oper}
theorem Bb.A0k(h:Bb cx s g l a w){q:UL}{b:Nat}(hq:QU s q)(hb:l.O b=none)(Ag:b<w.heap.size)(E5:cx.w0.heap.size<=b∨cx.VG b) :
  Bb cx s g { l with U:=EJ l.U q (some b),O:=Dz l.O b (some (.u q)) } a w:=by
 have D4:∀ {b' o},l.O b'=some o->b'≠b:=fun {b' o} ho e0=>by subst e0; rw [hb] at ho; cases ho
 have BN:∀ {r lv v},(r=q->∀e z es,lv≠LV.uniq e z es)->Cq g l w r lv v->Cq g { l with U:=EJ l.U q (some b),O:=Dz l.O b (some (.u q)) } w r lv v:=fun {r lv v} hn hr=>by
  by_cases hc:r=q
  ·exact hr.QU (C0.refl g w) rfl (hn hc)
  ·exact hr.BN (C0.refl g w) (fun _ _ _=>rfl) fun b' hu=>⟨by simp [EJ,hc,hu],rfl,rfl⟩
 refine ⟨h.AV,h.size,h.defers,fun t lv ht=>BN ?_ (h.tm t lv ht),?_,?_,?_,?_,h.fresh,h.Gg⟩
 ·rintro e0 e' z es rfl
  subst e0; exact hq e' z es ht
 ·intro i cs hi
  obtain ⟨b',h1,h2,h3,cur,e,h4,h5,h6⟩:=h.bx i cs hi
  refine ⟨b',h1,(Ap _ _ (D4 h2)).trans h2,h3,cur,e,h4,h5,fun j hj=>⟨(h6 j hj).1,(h6 j hj).2.1,BN ?_ (h6 j hj).2.2⟩⟩
  rintro e0 e' z es e1
  subst e0; exact hq cs hi e' z es (by rw [List.getElem?_eq_getElem hj,e1])
 ·intro i cs hi
  obtain ⟨b',h1,h2,hE⟩:=h.ex i cs hi
  refine ⟨b',h1,(Ap _ _ (D4 h2)).trans h2,?_⟩
  rcases hE with ⟨h3,cur,e,h4,h5,h6⟩ | hE
  rotate_left
  ·exact .inr hE
  refine .inl ⟨h3,cur,e,h4,h5,fun j hj=>⟨(h6 j hj).1,(h6 j hj).2.1,BN ?_ (h6 j hj).2.2⟩⟩
  rintro e0 e' z es e1
  subst e0; exact hq cs hi e' z es (by rw [List.getElem?_eq_getElem hj,e1])
 ·intro b' o ho
  simp only [Dz] at ho
  split at ho
  ·rename_i e0; subst e0; exact ⟨Ag,E5⟩
  ·exact h.own b' o ho
 ·intro r b' hu
  simp only [EJ] at hu
  split at hu
  ·rename_i e0; subst e0; injection hu with hu; subst hu; exact Bt _ _ _
  ·exact (Ap _ _ (D4 (h.uo r b' hu))).trans (h.uo r b' hu)
def TY(f:Operand)(args:List Operand):RM (FuncId × List PV):=ev f fun lv=>match lv with
 | .v (.fn (.func EK) first captured)=>kA args fun ps => .ret (EK,first++ps++captured)
 | _ => .fail
def Fu(P:Program)(f:FuncId):Bool:=match P.funcs[f]? with
 | some fn=>fn.body.isSome && !(fn.name == "runtime.NumGoroutine")
 | none=>false
def S.LX(s:S)(dst:Option Nat)(lv:LV)(e:Ext):S:={ s with tmps:=match dst with | some d=>put s.tmps d lv | none=>s.tmps,ext:=e }
def behind(K:S->Prop)(Q:A5->S->Prop)(s:S)(dst:Option Nat):Cr->Ext->Prop
 | .ret p,e=>K (s.LX dst (.v p) e)
 | .own te z es,e=>K (s.LX dst (.uniq te z es) e)
 | .panic p,e=>Q (.panic p) { s with ext:=e }
theorem Es{f:FuncId}{vs:Array Value}(h:Fu P f=true):(callFunc f vs).run P w = .ok (.enter f vs) w:=by
 unfold Fu at h
 split at h
 ·rename_i fn hf
  simp only [Bool.and_eq_true] at h
  obtain ⟨h1,h2⟩:=h
  have h2':(fn.name == "runtime.NumGoroutine")=false:=by simpa using h2
  have TN:fn.body.isNone=false:=by cases hb:fn.body <;> simp_all
  simp only [callFunc,Sem.run_bind,run_program,Result.andThen_ok,hf,h2',Bool.false_eq_true,if_false,TN]
  rfl
 ·cases h
theorem IL{EK:FuncId}{vl:List Value}{ps:List PV}{K:S->Prop}{Q:A5->S->Prop}(Bz:(execOp a.eval o).run P w = .ok (.enter EK vl.toArray) w)(Bw:AG g w ps vl)(hd:∀d,o.dst=some d->d<cx.n)(h:Bb cx s g l a w)
  (hc:C3 P EK ps s.ext (behind K Q s o.dst)):o.wp P a w (fun a' w'=>∃s' g' l',K s'/\Bb cx s' g' l' a' w') (post cx Q):=by
 unfold Oper.wp
 rw [Bz,Oper.upon_enter]
 refine (hc _ g (lx l) w Bw h.pZ).mono ?_
 rintro en w' ⟨res,e',g',l',hR,At,E9,hm,Bq,VY,Q2,os,tape,output⟩
 have hb:=h.back E9 hm Bq VY Q2 os tape output
 cases res with
 | ret p=>
  cases en with
  | returned v=>
   refine ⟨_,g',EL l l',hR,?_⟩
   cases FA:o.dst with
   | none=>exact hb
   | some d=>exact hb.set (hd d FA) At
  | panicked ch=>exact At.elim
  | outgrown=>exact At.elim
 | own te z es=>
  cases en with
  | returned v=>
   cases FA:o.dst with
   | none=>exact ⟨_,g',EL l l',hR,by rw [FA]; exact hb⟩
   | some d=>
    have hj:Bb cx { s with ext:=e',tmps:=put s.tmps d .Dx } g' (EL l l') a w':=by
     refine hb.eM (fun k v hk=>?_) (E4 F7.refl _) (E4 F7.refl _)
     simp only [Be] at hk
     split at hk
     ·injection hk with hk; exact .inl hk.symm
     ·exact .inr ⟨v,hk,WL.refl v⟩
    obtain ⟨KX,At⟩:=At
    rcases At with XJ | ⟨b,cap,cur,k1,k2,k3,k4,k5,k6,k7,k8⟩
    ·refine ⟨_,g',EL l l',hR,?_⟩
     rw [FA]
     refine (hj.set (lv := .uniq te z es) (hd d FA) (.inl (by rcases XJ with hf | ⟨a',f1,f2⟩; exact .inl hf; exact .inr ⟨a',f1,f2,KX⟩))).congr (fun k=>?_) (fun _=>rfl) (fun _=>rfl)
     simp only [S.LX,Be]
     split <;> rfl
    ·have hO:(EL l l').O b=none:=by
      simp only [EL,k4]
      rcases k2 with R9 | R9
      ·have:l.O b=none:=by
        cases hx:l.O b with
        | none=>rfl
        | some o'=>exact absurd (h.own b o' hx).1 oM
       rw [this]
      ·simp only [lx] at R9
       split at R9
       ·first | rfl | (rename_i hn; rw [hn])
       ·first | rfl | (rename_i hn; rw [hn])
       ·cases R9
     have E5:cx.w0.heap.size<=b∨cx.VG b:=by
      rcases k2 with R9 | R9
      ·exact .inl (Nat.le_trans h.AV.size R9)
      ·have:(l.O b).isSome=true:=by
        simp only [lx] at R9
        split at R9
        ·rename_i hn; rw [hn]; rfl
        ·rename_i hn; rw [hn]; rfl
        ·cases R9
       obtain ⟨o2,eR⟩:=Option.isSome_iff_exists.1 this
       exact (h.own b o2 eR).2
     have ha:=hj.A0k (q := .t d) (fun e2 z2 SK he=>by simp only [Be,if_true] at he; injection he with he; cases he) hO k3 E5
     refine ⟨_,g',{ EL l l' with U:=EJ (EL l l').U (.t d) (some b),O:=Dz (EL l l').O b (some (.u (.t d))) },hR,?_⟩
     rw [FA]
     refine (ha.set (lv := .uniq te z es) (hd d FA) (.inr ⟨b,cap,cur,k1,by simp [EJ],by rw [L1 KX]; exact k5,by rw [Sv KX]; exact k6,k7,.of KX k8⟩)).congr (fun k=>?_) (fun _=>rfl) (fun _=>rfl)
     simp only [S.LX,Be]
     split <;> rfl
  | panicked ch=>exact At.elim
  | outgrown=>exact At.elim
 | panic p=>
  cases en with
  | returned v=>exact At.elim
  | panicked ch=>exact ⟨.panic p,_,g',EL l l',hR,At,hb⟩
  | outgrown=>exact At.elim
theorem SV{f:Operand}{args:Array Operand}{ts:Array TypeId}{K:S->Prop}{Q:A5->S->Prop}(ho:o.op = .call ⟨.value f,args,ts⟩)(hd:∀d,o.dst=some d->d<cx.n)(h:Bb cx s g l a w)
  (hw:(TY f args.toList).wp s fun x=>Fu P x.1=true/\C3 P x.1 x.2 s.ext (behind K Q s o.dst)) :
  o.wp P a w (fun a' w'=>∃s' g' l',K s'/\Bb cx s' g' l' a' w') (post cx Q):=by
 obtain ⟨lv,u,h1,r1,-⟩:=C2 h hw
 split at h1
 ·rename_i EK first captured
  obtain ⟨ps,h2,r2⟩:=EW h h1
  obtain ⟨Lz,hc⟩:=h2
  have hex:∀fv cv,a.eval f = .func (.func EK) fv cv->(execOp a.eval o).run P w = .ok (.enter EK ((fv++(args.map a.eval))++cv)) w:=by
   intro fv cv hf
   simp only [execOp,ho,resolve,hf,Deferred.ofValue,Sem.run_bind,Sem.run_pure,Result.andThen_ok,invoke,Es Lz]
  generalize a.eval f=vf at r1 hex
  cases r1 with
  | fn _ _ _ fv cv l1 l2 r3 r4=>
   have Bz:=hex _ _ rfl
   have IM:(fv.toArray++args.map a.eval)++cv.toArray=(fv++args.toList.map a.eval++cv).toArray:=by
    apply Array.ext'
    simp
   rw [IM] at Bz
   exact IL Bz ((AG.app ⟨l1,r3⟩ r2).app ⟨l2,r4⟩) hd h hc
 ·exact h1.elim
theorem MF{t:TypeId}{name:String}{f:FuncId}{v:Value}(h:Km P t name=some f):(method (P.types.size+Made.depth) t v name).run P w = .ok (f,v) w:=by
 unfold Km at h
 split at h
 ·rename_i i hi
  split at h
  ·rename_i m hm
   split at h
   ·rename_i hp
    have kC:m.path.toList=[]:=by simpa using hp
    have hd:P.types.size+Made.depth=(P.types.size+(Made.depth - 1))+1:=by
     have:0<Made.depth:=by decide
     omega
    rw [hd]
    split at h
    ·cases h
    ·rename_i f' u hn hf hu
     injection h with h
     subst h
     simp only [method,Sem.run_bind,typeInfo,run_program,Result.andThen_ok,hi,Sem.run_pure,hm,kC,follow,hf,receiverAt,run_underlying hu]
     cases u <;> first | (exact (hn _ rfl).elim) | (simp [Place.get]; done)
    ·rename_i f' hf hu
     injection h with h
     subst h
     simp [method,typeInfo,hi,hm,kC,follow,hf,receiverAt,run_underlying hu,Place.get]
    ·cases h
   ·cases h
  ·cases h
 ·cases h
def XK(P:Program)(r:Operand)(name:String)(args:List Operand):RM (FuncId × List PV):=ev r fun lv=>match lv with
 | .v (.iface t p)=>match Km P t name with
  | some f=>kA args fun ps => .ret (f,p::ps)
  | none => .fail
 | .v (.VF t f p) => .assume (decide (Km P t name=some f)) (kA args fun ps => .ret (f,p::ps))
 | _ => .fail
theorem VZ{r:Operand}{name:String}{args:Array Operand}{ts:Array TypeId}{K:S->Prop}{Q:A5->S->Prop}(ho:o.op = .call ⟨.invoke r name,args,ts⟩)(hd:∀d,o.dst=some d->d<cx.n)(h:Bb cx s g l a w)
  (hw:(XK P r name args.toList).wp s fun x=>Fu P x.1=true/\C3 P x.1 x.2 s.ext (behind K Q s o.dst)) :
  o.wp P a w (fun a' w'=>∃s' g' l',K s'/\Bb cx s' g' l' a' w') (post cx Q):=by
 obtain ⟨lv,u,h1,r1,-⟩:=C2 h hw
 split at h1
 ·rename_i t p
  split at h1
  ·rename_i f hm
   obtain ⟨ps,h2,r2⟩:=EW h h1
   obtain ⟨Lz,hc⟩:=h2
   have hex:∀v,a.eval r = .iface t v->(execOp a.eval o).run P w = .ok (.enter f (v::args.toList.map a.eval).toArray) w:=by
    intro v hv
    have e1:(#[Value.iface t v]++args.map a.eval).extract 1 (#[Value.iface t v]++args.map a.eval).size=args.map a.eval:=by
     apply Array.ext'
     simp
     exact List.take_of_length_le sM
    have e2 : #[v]++args.map a.eval=(v::args.toList.map a.eval).toArray:=by apply Array.ext'; simp
    have e0:(#[Value.iface t v]++args.map a.eval)[0]?=some (.iface t v):=by rw [Array.getElem?_append]; simp
    simp only [execOp,ho,resolve,hv,Sem.run_bind,Sem.run_pure,Result.andThen_ok,invoke,e0,e1,callMethod,run_program,MF hm,Es Lz,e2]
   generalize a.eval r=vr at r1 hex
   cases r1 with
   | iface _ _ v hv=>exact IL (hex v rfl) (AG.cons hv r2) hd h hc
  ·exact h1.elim
 ·rename_i t f p
  obtain ⟨pM,h1⟩:=h1
  have hm:=of_decide_eq_true pM
  obtain ⟨ps,h2,r2⟩:=EW h h1
  obtain ⟨Lz,hc⟩:=h2
  have hex:∀v,a.eval r = .iface t v->(execOp a.eval o).run P w = .ok (.enter f (v::args.toList.map a.eval).toArray) w:=by
   intro v hv
   have e1:(#[Value.iface t v]++args.map a.eval).extract 1 (#[Value.iface t v]++args.map a.eval).size=args.map a.eval:=by
    apply Array.ext'
    simp
    exact List.take_of_length_le sM
   have e2 : #[v]++args.map a.eval=(v::args.toList.map a.eval).toArray:=by apply Array.ext'; simp
   have e0:(#[Value.iface t v]++args.map a.eval)[0]?=some (.iface t v):=by rw [Array.getElem?_append]; simp
   simp only [execOp,ho,resolve,hv,Sem.run_bind,Sem.run_pure,Result.andThen_ok,invoke,e0,e1,callMethod,run_program,MF hm,Es Lz,e2]
  generalize a.eval r=vr at r1 hex
  cases r1 with
  | VF _ _ _ v hv=>exact IL (hex v rfl) (AG.cons hv r2) hd h hc
 ·exact h1.elim
def callee(P:Program)(o:Oper):Option (RM (FuncId × List PV)):=match o.op with
 | .call ⟨.value f,args,_⟩=>some (TY f args.toList)
 | .call ⟨.invoke r name,args,_⟩=>some (XK P r name args.toList)
 | _=>none
theorem FJ{r:RM (FuncId × List PV)}{K:S->Prop}{Q:A5->S->Prop}(ho:callee P o=some r)(hd:∀d,o.dst=some d->d<cx.n)(h:Bb cx s g l a w)
  (hw:r.wp s fun x=>Fu P x.1=true/\C3 P x.1 x.2 s.ext (behind K Q s o.dst)):o.wp P a w (fun a' w'=>∃s' g' l',K s'/\Bb cx s' g' l' a' w') (post cx Q):=by
 unfold callee at ho
 split at ho
 ·rename_i Jc; injection ho with ho; subst ho; exact SV Jc hd h hw
 ·rename_i Jc; injection ho with ho; subst ho; exact VZ Jc hd h hw
 ·cases ho
def Ri:Nat->List PV->List (Nat × LV)
 | _,[]=>[]
 | k,p::r=>(k,.v p)::Ri (k+1) r
theorem Q3:∀ {ps:List PV} {k t:Nat} {lv:LV},lk (Ri k ps) t=some lv->∃j p,t=k+j/\ps[j]?=some p/\lv = .v p
 | [],k,t,lv,h=>by simp [Ri,lk] at h
 | p::r,k,t,lv,h=>by
  simp only [Ri,lk] at h
  split at h
  ·rename_i e; subst e; injection h with h; exact ⟨0,p,rfl,rfl,h.symm⟩
  ·obtain ⟨j,q,h1,h2,h3⟩:=Q3 h
   exact ⟨j+1,q,by omega,by simpa using h2,h3⟩
def ldP(P:Program)(ty:TypeId)(cs:List LV)(off:Nat):Option PV:=match LU P ty with
 | some true=>match KW P ty with
  | some m=>if off+m<=cs.length then (VK ((cs.drop off).take m)).map .agg else none
  | none=>none
 | some false=>(cs[off]?).bind WN
 | none=>none
def XL(P:Program)(s:S):ResultVar->Option PV
 | .tmp t=>(lk s.tmps t).bind WN
 | .cell a ty=>match lk s.tmps a with
  | some (.lp i off)=>(lk s.boxes i).bind fun cs=>ldP P ty cs off
  | some (.v (.xp m off))=>(lk s.ext m).bind fun cs=>if OH cs=true then ldP P ty cs off else none
  | _=>none
def OQ(P:Program)(s:S):List ResultVar->Option (List PV)
 | []=>some []
 | r::rs=>match XL P s r,OQ P s rs with
  | some p,some ps=>some (p::ps)
  | _,_=>none
def F9(P:Program)(s:S)(rs:List ResultVar):Option PV:=match OQ P s rs with
 | some [p]=>some p
 | some ps=>some (.AE ps)
 | none=>none
theorem OR{ty:TypeId}{cs:List LV}{off b:Nat}{p:PV}{f:Nat->UL}(hp:ldP P ty cs off=some p)(hb:Py g l w f b cs):∃v,(loadVar ty ⟨b,off,none⟩).run P w = .ok v w/\BJ g w p v:=by
 obtain ⟨hM,cur,e,h4,h5,h6⟩:=hb
 unfold ldP at hp
 split at hp
 ·rename_i ha
  split at hp
  ·rename_i m hm
   split at hp
   ·rename_i hle
    simp only [Option.map_eq_some_iff] at hp
    obtain ⟨ps,SJ,rfl⟩:=hp
    have hc:∀j,j<m->w.cell? ⟨b,off+j,none⟩=some (cur.getD (off+j) undef):=fun j hj=>by
     have:off+j<cur.size:=by omega
     simp [World.cell?,h4,this]
    refine ⟨_,FI (P:=P) ha hm hc,AG.agg ?_ ?_⟩
    ·refine Mu (l:=l) (f:=fun j=>f (off+j)) SJ (by simp; omega) fun j hj Cu=>?_
     simp only [List.getElem_take,List.getElem_drop,List.getElem_map,List.getElem_range]
     exact (h6 (off+j) _).2.2
    ·intro v hv
     simp only [List.mem_map,List.mem_range] at hv
     obtain ⟨j,hj,rfl⟩:=hv
     exact (h6 (off+j) oM).2.1
   ·cases hp
  ·cases hp
 ·rename_i ha
  simp only [Option.bind_eq_some_iff] at hp
  obtain ⟨lv,Gc,hp⟩:=hp
  have Ag:=(List.getElem?_eq_some_iff.1 Gc).1
  refine ⟨_,FH (P:=P) h4 ha oM,?_⟩
  have:=(h6 off Ag).2.2
  rw [List.getElem?_eq_getElem Ag] at Gc
  injection Gc with Gc
  rw [Gc] at this
  exact Eo hp this
 ·cases hp
def JM(tmps:Array Value):ResultVar->Sem Value
 | .tmp t=>pure (tmps.getD t undef)
 | .cell a t=>do loadVar t (<- asAddr (tmps.getD a undef))
theorem SW{r:ResultVar}{p:PV}(h:Bb cx s g l a w)(hp:XL P s r=some p):∃v,(JM a.tmps r).run P w = .ok v w/\BJ g w p v:=by
 cases r with
 | tmp t=>
  simp only [XL,Option.bind_eq_some_iff] at hp
  obtain ⟨lv,Gc,hp⟩:=hp
  exact ⟨_,rfl,Eo hp (h.tm t lv Gc)⟩
 | cell x ty=>
  simp only [XL] at hp
  split at hp
  ·rename_i i off hl
   simp only [Option.bind_eq_some_iff] at hp
   obtain ⟨cs,CS,hp⟩:=hp
   obtain ⟨b,k1,k2⟩:=h.tm x _ hl
   obtain ⟨b',m1,m2,m3⟩:=h.bx i cs CS
   rw [k1] at m1
   injection m1 with m1
   subst m1
   obtain ⟨v,v1,v2⟩:=OR hp m3
   exact ⟨v,by simp [JM,k2,asAddr,v1],v2⟩
  ·rename_i m off hl
   simp only [Option.bind_eq_some_iff] at hp
   obtain ⟨cs,CS,hp⟩:=hp
   have hr:=h.tm x _ hl
   obtain ⟨b',m1,m2,hE⟩:=h.ex m cs CS
   split at hp
   rotate_left
   ·cases hp
   rename_i WO
   rcases hE with m3 | hE
   rotate_left
   ·exact (hE.plain (Hg WO)).elim
   replace m1:=m1.plain m3.TI
   obtain ⟨v,v1,v2⟩:=OR hp m3
   refine ⟨v,?_,v2⟩
   simp only [JM]
   generalize a.tmps.getD x undef=vx at hr
   cases hr with
   | xp _ _ b hx=>
    rw [m1] at hx
    injection hx with hx
    subst hx
    simp [asAddr,v1]
  ·cases hp
theorem IN(h:Bb cx s g l a w):∀ {rs:List ResultVar} {ps:List PV},OQ P s rs=some ps->∃vs,(rs.mapM (JM a.tmps)).run P w = .ok vs w/\AG g w ps vs
 | [],ps,hp=>by
  simp only [OQ,Option.some.injEq] at hp
  subst hp
  exact ⟨[],by simp,.nil⟩
 | r::rs,ps,hp=>by
  simp only [OQ] at hp
  split at hp
  ·rename_i p qs h1 h2
   injection hp with hp
   subst hp
   obtain ⟨v,v1,v2⟩:=SW h h1
   obtain ⟨vs,w1,w2⟩:=IN h h2
   exact ⟨v::vs,by simp [List.mapM_cons,v1,w1],.cons v2 w2⟩
  ·cases hp
theorem I0{fn:Func}{p:PV}(h:Bb cx s g l a w)(hp:F9 P s fn.results.toList=some p):∃v,(results fn a.tmps).run P w = .ok v w/\BJ g w p v:=by
 have At:∀vs,(fn.results.toList.mapM (JM a.tmps)).run P w = .ok vs w->(results fn a.tmps).run P w = .ok (if h:vs.toArray.size=1 then vs.toArray[0] else .tuple vs.toArray) w:=by
  intro vs hv
  have e:results fn a.tmps=(do let vs<-fn.results.mapM (JM a.tmps); pure (if h:vs.size=1 then vs[0] else .tuple vs)):=by
   unfold results
   have:(fun (r:ResultVar)=>(match r with | .tmp t=>(pure (a.tmps.getD t undef):Sem Value) | .cell x t=>(do loadVar t (<- asAddr (a.tmps.getD x undef)))))=JM a.tmps:=by
    funext r
    cases r <;> rfl
   rw [<-this]
   rfl
  rw [e]
  simp only [Array.mapM_eq_mapM_toList,Sem.run_bind,Sem.run_map,hv,Result.andThen_ok,Sem.run_pure]
 unfold F9 at hp
 split at hp
 ·rename_i q hq
  injection hp with hp
  subst hp
  obtain ⟨vs,w1,w2⟩:=IN h hq
  obtain ⟨v,fK,rfl,hv,hn⟩:=w2.H9
  have:=hn.Px
  subst this
  exact ⟨v,by rw [At _ w1]; rfl,hv⟩
 ·rename_i ps SJ D4
  injection hp with hp
  subst hp
  obtain ⟨vs,w1,w2⟩:=IN h D4
  refine ⟨.tuple vs.toArray,?_,.AE _ _ w2.1 w2.2⟩
  rw [At _ w1,dif_neg]
  intro hl
  have:ps.length=1:=by rw [w2.1]; simpa using hl
  match ps,this with
  | [q],_=>exact SJ q rfl
 ·cases hp
def Fv(ps:List PV)(e:Ext):S:=⟨Ri 0 ps,[],e⟩
def A0l(P:Program)(rs:List ResultVar)(R:Cr->Ext->Prop):A5->S->Prop
 | .normal,s=>∃p,F9 P s rs=some p/\R (.ret p) s.ext
 | .ret,s=>(∃p,F9 P s rs=some p/\R (.ret p) s.ext)∨∃t e z es,rs=[.tmp t]/\lk s.tmps t=some (.uniq e z es)/\e<1000000/\R (.own e z es) s.ext
 | .panic p,s=>R (.panic p) s.ext
 | .exit _,_=>False
theorem C3.enter{f:FuncId}{fn:Func}{c:Code}{ps:List PV}{e:Ext}{R:Cr->Ext->Prop}(hf:P.funcs[f]?=some fn)(hb:fn.body=some c)(hn:ps.length<=fn.ntmps)
  (h:∀cx:Cx,cx.n=fn.ntmps->cx.ds=[]->PW P cx c (Fv ps e) (A0l P fn.results.toList R)):C3 P f ps e R:=by
 intro vs g l w ha he
 refine calls_of_wp hf hb ?_
 have hs:Bb ⟨fn.ntmps,[],g,w,fun b=>(l.O b).isSome=true⟩ (Fv ps e) g l { tmps:=vs.toArray++Array.replicate (fn.ntmps - vs.toArray.size) undef,defers:=[] } w:=by
  have hl:=ha.1
  refine ⟨⟨C0.refl g w,Nat.le_refl _,fun _ _ _=>⟨rfl,rfl⟩,rfl,rfl,rfl,he.JH⟩,?_,rfl,?_,?_,he.ex,?_,he.uo,he.fresh,he.Gg⟩
  ·simp
   omega
  ·intro t lv ht
   obtain ⟨j,p,rfl,hj,rfl⟩:=Q3 ht
   have Ag:=(List.getElem?_eq_some_iff.1 hj).1
   have CE:j<vs.length:=by omega
   have:=ha.2 j Ag CE
   rw [List.getElem?_eq_getElem Ag] at hj
   injection hj with hj
   rw [hj] at this
   have e1:(vs.toArray++Array.replicate (fn.ntmps - vs.toArray.size) undef).getD (0+j) undef=vs[j]:=by
    simp [Array.getD_eq_getD_getElem?,Array.getElem?_append,CE]
   show BJ g w p _
   rw [e1]
   exact this
  ·intro i cs hi
   simp [Fv,lk] at hi
  ·intro b o' ho
   exact ⟨he.Q1 b o' ho,.inr (by show (l.O b).isSome=true; rw [ho]; rfl)⟩
 refine wp_mono (h _ rfl rfl g l _ w hs) ?_
 rintro ex a' w' ⟨pe,s',g',l',hq,er,sm⟩
 have common:So s'.ext g' (lx l') w'/\C0 g w g' w'/\w.heap.size<=w'.heap.size/\(∀b,b<w.heap.size->l.O b=none->w'.heap[b]?=w.heap[b]?/\g'.M b=g.M b) /\
   (∀b o,(lx l').O b=some o->w.heap.size<=b∨(l.O b).isSome=true)/\w'.os=w.os/\w'.tape=w.tape/\w'.output=w.output:=by
  refine ⟨sm.pZ,sm.AV.mono,sm.AV.size,fun b Ag ho=>sm.AV.frame b Ag (by show ¬(l.O b).isSome=true; rw [ho]; simp),fun b o' ho=>?_,sm.AV.os,sm.AV.tape,sm.AV.output⟩
  have:∃o2,l'.O b=some o2:=by
   simp only [lx] at ho
   split at ho
   ·rename_i XM; exact ⟨_,XM⟩
   ·rename_i XM; exact ⟨_,XM⟩
   ·cases ho
  obtain ⟨o2,eR⟩:=this
  exact (sm.own b o2 eR).2
 have plain:∀p,F9 P s' fn.results.toList=some p->R (.ret p) s'.ext->a'.defers=[]/\∃v,(results fn a'.tmps).run P w' = .ok v w'/\∃res e' pG l'',R res e'/\OO pG l'' (fun b=>w.heap.size<=b∨(l.O b).isSome=true) w' res (.returned v)/\So e' pG l'' w'/\C0 g w pG w' /\
   w.heap.size<=w'.heap.size/\(∀b,b<w.heap.size->l.O b=none->w'.heap[b]?=w.heap[b]?/\pG.M b=g.M b)/\(∀b o,l''.O b=some o->w.heap.size<=b∨(l.O b).isSome=true)/\w'.os=w.os/\w'.tape=w.tape/\w'.output=w.output:=by
  intro p hp hR
  obtain ⟨v,v1,v2⟩:=I0 sm hp
  exact ⟨sm.defers,v,v1,.ret p,s'.ext,g',lx l',hR,v2,common⟩
 cases pe with
 | normal=>
  cases ex <;> first | exact er.elim | skip
  obtain ⟨p,hp,hR⟩:=hq
  exact plain p hp hR
 | ret=>
  cases ex <;> first | exact er.elim | skip
  rcases hq with ⟨p,hp,hR⟩ | ⟨t,te,z,es,hrs,ht,KX,hR⟩
  ·exact plain p hp hR
  ·have hr:=sm.tm t _ ht
   refine ⟨sm.defers,a'.tmps.getD t undef,results_tmp (by rw [<-Array.toArray_toList (xs:=fn.results),hrs]) _ _ _,.own te z es,s'.ext,g',lx l',hR,⟨KX,?_⟩,common⟩
   rcases hr with XJ | ⟨b,cap,cur,k1,k2,k3,k4,k5,k6⟩
   ·exact .inl (by rcases XJ with hf | ⟨a',f1,f2,-⟩; exact .inl hf; exact .inr ⟨a',f1,f2⟩)
   ·have ho:=sm.uo _ _ k2
    exact .inr ⟨b,cap,cur,k1,(sm.own b _ ho).2,(sm.own b _ ho).1,by simp [lx,ho],by rw [L1 KX] at k3; exact k3,by rw [Sv KX] at k4; exact k4,k5,k6.1 KX⟩
 | exit id=>exact hq.elim
 | panic p=>
  cases ex <;> first | exact er.elim | skip
  exact ⟨sm.defers,.panic p,s'.ext,g',lx l',hq,er,common⟩
end
section
variable {P:Program} {cx:Cx} {s t:S} {Q:A5->S->Prop}
end
inductive Loc where
 | t (i:Nat)
 | b (i:Nat)
 | x (n:Nat)
 deriving DecidableEq
def RM.I1{α:Type}:RM α->S->(α->List Loc->Prop)->Prop
 | .ret a,_,K=>K a []
 | .fail,_,_=>False
 | .It t k,s,K=>match lk s.tmps t with
  | some v=>(k v).I1 s fun a r=>K a (.t t::r)
  | none=>False
 | .Iu i k,s,K=>match lk s.boxes i with
  | some v=>(k v).I1 s fun a r=>K a (.b i::r)
  | none=>False
 | .E6 n k,s,K=>match lk s.ext n with
  | some v=>(k v).I1 s fun a r=>K a (.x n::r)
  | none=>False
 | .assume p k,s,K=>p=true/\k.I1 s K
def S.get(s:S):Loc->Option (LV ⊕ List LV)
 | .t t=>(lk s.tmps t).map .inl
 | .b i=>(lk s.boxes i).map .inr
 | .x n=>(lk s.ext n).map .inr
theorem Rj{s s':S}{t:Nat}(h:s'.get (.t t)=s.get (.t t)):lk s'.tmps t=lk s.tmps t:=by
 simp only [S.get] at h
 cases h1:lk s'.tmps t <;> cases h2:lk s.tmps t <;> simp_all
theorem XN{s s':S}{t:Nat}(h:s'.get (.b t)=s.get (.b t)):lk s'.boxes t=lk s.boxes t:=by
 simp only [S.get] at h
 cases h1:lk s'.boxes t <;> cases h2:lk s.boxes t <;> simp_all
theorem A0m{s s':S}{t:Nat}(h:s'.get (.x t)=s.get (.x t)):lk s'.ext t=lk s.ext t:=by
 simp only [S.get] at h
 cases h1:lk s'.ext t <;> cases h2:lk s.ext t <;> simp_all
theorem RM.EY{α:Type}{s:S}:∀ {r:RM α} {K:α->List Loc->Prop},r.I1 s K->∃a rd,K a rd/\∀s':S,(∀l∈rd,s'.get l=s.get l)->r.wp s' fun b=>b=a
 | .ret a,K,h=>⟨a,[],h,fun _ _=>rfl⟩
 | .fail,_,h=>h.elim
 | .It t k,K,h=>by
  simp only [RM.I1] at h
  split at h
  ·rename_i v hv
   obtain ⟨a,rd,h1,h2⟩:=RM.EY h
   refine ⟨a,.t t::rd,h1,fun s' hl=>?_⟩
   simp only [RM.wp,Rj (hl (.t t) sM),hv]
   exact h2 s' fun l hm=>hl l (List.mem_cons_of_mem _ hm)
  ·exact h.elim
 | .Iu t k,K,h=>by
  simp only [RM.I1] at h
  split at h
  ·rename_i v hv
   obtain ⟨a,rd,h1,h2⟩:=RM.EY h
   refine ⟨a,.b t::rd,h1,fun s' hl=>?_⟩
   simp only [RM.wp,XN (hl (.b t) sM),hv]
   exact h2 s' fun l hm=>hl l (List.mem_cons_of_mem _ hm)
  ·exact h.elim
 | .E6 n k,K,h=>by
  simp only [RM.I1] at h
  split at h
  ·rename_i v hv
   obtain ⟨a,rd,h1,h2⟩:=RM.EY h
   refine ⟨a,.x n::rd,h1,fun s' hl=>?_⟩
   simp only [RM.wp,A0m (hl (.x n) sM),hv]
   exact h2 s' fun l hm=>hl l (List.mem_cons_of_mem _ hm)
  ·exact h.elim
 | .assume p k,K,h=>by
  obtain ⟨a,rd,h1,h2⟩:=RM.EY h.2
  exact ⟨a,rd,h1,fun s' hl=>⟨h.1,h2 s' hl⟩⟩
def Wr.loc:Wr->Option Loc
 | .tmp t _=>some (.t t)
 | .Dd i _=>some (.b i)
 | .cells i _ _=>some (.b i)
 | .ext _ _ _=>none
def S.wq(s:S):Wr->S
 | .tmp t v=>{ s with tmps:=put s.tmps t v }
 | .Dd i ps=>{ s with boxes:=put s.boxes i (ps.map .v) }
 | .cells i off vs=>match lk s.boxes i with
  | some cs=>{ s with boxes:=put s.boxes i (AI cs off vs) }
  | none=>s
 | .ext _ _ _=>s
def S.Dm(s:S):List Wr->S
 | []=>s
 | x::r=>(s.wq x).Dm r
def Wr.app:Wr->Option (LV ⊕ List LV)->Option (LV ⊕ List LV)
 | .tmp _ v,_=>some (.inl v)
 | .Dd _ ps,_=>some (.inr (ps.map .v))
 | .cells _ off vs,some (.inr cs)=>some (.inr (AI cs off vs))
 | _,x=>x
theorem q7(s:S)(x:Wr)(l:Loc):(s.wq x).get l=if x.loc=some l then x.app (s.get l) else s.get l:=by
 cases x with
 | tmp t v=>
  cases l with
  | t u=>
   simp only [S.wq,S.get,Wr.loc,Wr.app,Be,Option.some.injEq,Loc.t.injEq]
   split <;> rfl
  | b i=>simp [S.wq,S.get,Wr.loc]
  | x i=>simp [S.wq,S.get,Wr.loc]
 | Dd j ps=>
  cases l with
  | t u=>simp [S.wq,S.get,Wr.loc]
  | b i=>
   simp only [S.wq,S.get,Wr.loc,Wr.app,Be,Option.some.injEq,Loc.b.injEq]
   split <;> rfl
  | x i=>simp [S.wq,S.get,Wr.loc]
 | cells j off vs=>
  simp only [S.wq]
  cases hj:lk s.boxes j with
  | none=>
   simp only
   split
   ·rename_i e
    cases l with
    | t u=>simp [Wr.loc] at e
    | x u=>simp [Wr.loc] at e
    | b i=>
     simp only [Wr.loc,Option.some.injEq,Loc.b.injEq] at e
     subst e
     simp [S.get,hj,Wr.app]
   ·rfl
  | some cs=>
   cases l with
   | t u=>simp [S.get,Wr.loc]
   | x u=>simp [S.get,Wr.loc]
   | b i=>
    simp only [S.get,Wr.loc,Be,Option.some.injEq,Loc.b.injEq]
    split
    ·rename_i e; subst e; simp [hj,Wr.app]
    ·rfl
 | ext _ _ _=>simp [S.wq,Wr.loc]
def FK(l:Loc)(x:Wr):Bool:=decide (x.loc=some l)
theorem Gk(l:Loc):∀ (L:List Wr) (s:S),(s.Dm L).get l=(L.filter (FK l)).foldl (fun g x=>x.app g) (s.get l)
 | [],s=>rfl
 | x::r,s=>by
  simp only [S.Dm,Gk l r,q7,List.filter_cons,FK]
  by_cases h:x.loc=some l
  ·simp [h]
  ·simp [h]
theorem SX{l:Loc}{L M:List Wr}(s:S)(h:L.filter (FK l)=M.filter (FK l)):(s.Dm L).get l=(s.Dm M).get l:=by rw [Gk,Gk,h]
theorem q8(s:S)(x:Wr):(s.wq x).ext=s.ext:=by
 cases x <;> simp only [S.wq]
 split <;> rfl
theorem Kq:∀ (L:List Wr) (s:S),(s.Dm L).ext=s.ext
 | [],_=>rfl
 | x::r,s=>by simp only [S.Dm,Kq r,q8]
structure DS where
 rd:List Loc
 ws:List Wr
 DO:Bool
def CQ(D:Nat->Bool):Nat->List DS->List Wr
 | _,[]=>[]
 | k,d::r=>(if D k then d.ws else [])++CQ D (k+1) r
def Dy(D:Nat->Bool):Nat->List DS->Nat
 | _,[]=>0
 | k,d::r=>(if D k&&d.DO then 1 else 0)+Dy D (k+1) r
theorem Dt{D D':Nat->Bool}:∀ {B7:List DS} {k:Nat},(∀j,k<=j->j<k+B7.length->D j=D' j)->CQ D k B7=CQ D' k B7
 | [],_,_=>rfl
 | d::r,k,h=>by
  simp only [CQ,h k (Nat.le_refl _) sM]
  rw [Dt fun j h1 h2=>h j oM (by simp at h2 ⊢; omega)]
theorem LA{D D':Nat->Bool}{i:Nat}(hD:∀j,j≠i->D' j=D j)(hi:D i=false)(OL:D' i=true):∀ {B7:List DS} {k:Nat} {d:DS},k<=i->B7[i - k]?=some d ->
  ∃A C,CQ D k B7=A++C/\CQ D' k B7=A++d.ws++C/\A=CQ (fun j=>D j&&decide (j<i)) k B7/\C=CQ (fun j=>D j&&decide (i<j)) k B7
 | [],k,d,_,h=>by simp at h
 | d0::r,k,d,hk,h=>by
  by_cases pV:k=i
  ·subst pV
   simp only [Nat.sub_self,List.getElem?_cons_zero,Option.some.injEq] at h
   subst h
   refine ⟨[],CQ D (k+1) r,by simp [CQ,hi],?_,?_,?_⟩
   ·simp only [CQ,OL,if_true,List.nil_append]
    rw [Dt fun j h1 _=>hD j oM]
   ·simp only [CQ,hi,Bool.false_and]
    have:CQ (fun j=>D j&&decide (j<k)) (k+1) r=CQ (fun _=>false) (k+1) r:=Dt fun j h1 _=>by simp; omega
    rw [this]
    have hz:∀ (l:List DS) (m:Nat),CQ (fun _=>false) m l=[]:=by
     intro l
     induction l with
     | nil=>intro m; rfl
     | cons x r ih=>intro m; simp [CQ,ih]
    simp [hz]
   ·simp only [CQ,hi,Bool.false_and]
    have:CQ (fun j=>D j&&decide (k<j)) (k+1) r=CQ D (k+1) r:=Dt fun j h1 _=>by simp; omega
    simp [this]
  ·have Ag:k+1<=i:=by omega
   have h':r[i - (k+1)]?=some d:=by
    rw [show i - k=(i - (k+1))+1 by omega,List.getElem?_cons_succ] at h
    exact h
   obtain ⟨A,C,h1,h2,h3,h4⟩:=LA hD hi OL Ag h'
   refine ⟨(if D k then d0.ws else [])++A,C,by simp [CQ,h1],?_,?_,?_⟩
   ·simp only [CQ,hD k pV,h2,List.append_assoc]
   ·simp only [CQ,h3]
    have:decide (k<i)=true:=by simp; omega
    simp [this]
   ·simp only [CQ,h4]
    have:decide (i<k)=false:=by simp; omega
    simp [this]
theorem MG{D:Nat->Bool}{x:Wr}:∀ {B7:List DS} {k:Nat},x∈CQ D k B7->∃j d,D (k+j)=true/\B7[j]?=some d/\x∈d.ws
 | [],_,h=>by simp [CQ] at h
 | d::r,k,h=>by
  simp only [CQ,List.mem_append] at h
  rcases h with h | h
  ·split at h
   ·rename_i hd; exact ⟨0,d,hd,rfl,h⟩
   ·simp at h
  ·obtain ⟨j,d',h1,h2,h3⟩:=MG h
   exact ⟨j+1,d',by rw [show k+(j+1)=k+1+j by omega]; exact h1,by simpa using h2,h3⟩
theorem LB{D D':Nat->Bool}{p:Wr->Bool}:∀ {B7:List DS} {k:Nat},(∀j d,B7[j]?=some d->D (k+j)≠D' (k+j)->∀x∈d.ws,p x=false)->(CQ D k B7).filter p=(CQ D' k B7).filter p
 | [],_,_=>rfl
 | d::r,k,h=>by
  have ih:=LB (D:=D) (D':=D') (p:=p) (B7:=r) (k:=k+1) fun j d' hj D4=>h (j+1) d' (by simpa using hj) (by rw [show k+(j+1)=k+1+j by omega]; exact D4)
  simp only [CQ,List.filter_append,ih]
  congr 1
  by_cases hd:D k=D' k
  ·rw [hd]
  ·have h0:=h 0 d rfl (by simpa using hd)
   have hf:d.ws.filter p=[]:=List.filter_eq_nil_iff.2 fun x hx=>by simp [h0 x hx]
   split <;> split <;> simp [hf]
def Kr(o:Oper):List Nat:=(o.after.toList.filter (Region.binds .any)).map (·.on)
def Rk:List Nat->List Nat
 | []=>[]
 | x::r=>bif (Rk r).contains x then Rk r else x::Rk r
theorem MH{k:Nat}:∀ {l:List Nat},k∈Rk l->k∈l
 | [],h=>h
 | x::r,h=>by
  simp only [Rk] at h
  cases hc:(Rk r).contains x with
  | true=>rw [hc] at h; exact List.mem_cons_of_mem _ (MH h)
  | false=>
   rw [hc] at h
   rcases List.mem_cons.1 h with rfl | h
   ·exact List.mem_cons_self
   ·exact List.mem_cons_of_mem _ (MH h)
def W5:List Oper->List (List Nat)->List (List Nat)
 | [],acc=>acc
 | o::r,acc=>W5 r (acc++[Rk (Kr o++(Kr o).flatMap fun m=>acc.getD m [])])
inductive Reach (ops:List Oper):Nat->Nat->Prop
 | dir {k i:Nat} {o:Oper} (h:ops[i]?=some o) (hk:k∈Kr o):Reach ops k i
 | step {k m i:Nat} {o:Oper} (h:ops[i]?=some o) (hm:m∈Kr o) (hr:Reach ops k m):Reach ops k i
def MI(ops:List Oper)(D:Nat->Bool):Prop:=∀j o,ops[j]?=some o->D j=true->∀m∈Kr o,D m=true
theorem MI.reach{ops:List Oper}{D:Nat->Bool}(hc:MI ops D){k i:Nat}(hr:Reach ops k i):(∀o,ops[i]?=some o->∀m∈Kr o,D m=true)->D k=true:=by
 induction hr with
 | dir h hk=>exact fun hd=>hd _ h _ hk
 | step h hm hr ih=>exact fun hd=>ih fun o ho m EM=>hc _ o ho (hd _ h _ hm) m EM
theorem MJ{ops:List Oper}:∀ {r:List Oper} {acc:List (List Nat)},(∀j,(r)[j]?=ops[acc.length+j]?)->(∀i l,acc[i]?=some l->∀k∈l,Reach ops k i)->∀i l,(W5 r acc)[i]?=some l->∀k∈l,Reach ops k i
 | [],acc,_,h=>h
 | o::r,acc,hr,h=>by
  refine MJ (r:=r) (acc:=acc++[Rk (Kr o++(Kr o).flatMap fun m=>acc.getD m [])]) (fun j=>by have:=hr (j+1); simp only [List.getElem?_cons_succ] at this; rw [this]; simp; congr 1; omega) fun i l hi k hk=>?_
  by_cases Ag:i<acc.length
  ·rw [List.getElem?_append_left Ag] at hi
   exact h i l hi k hk
  ·have:i=acc.length:=by
    have:=(List.getElem?_eq_some_iff.1 hi).1
    simp at this
    omega
   subst this
   simp only [List.getElem?_concat_length,Option.some.injEq] at hi
   subst hi
   have ho:ops[acc.length]?=some o:=by have:=hr 0; simpa using this.symm
   replace hk:=MH hk
   simp only [List.mem_append,List.mem_flatMap] at hk
   rcases hk with hk | ⟨m,hm,hk⟩
   ·exact .dir ho hk
   ·cases EM:acc[m]? with
    | none=>simp [List.getD,EM] at hk
    | some l'=>exact .step ho hm (h m l' EM k (by simpa [List.getD,EM] using hk))
def kI(ops:List Oper)(i:Nat):List Nat:=(W5 ops []).getD i []
theorem OS{ops:List Oper}{i k:Nat}(h:k∈kI ops i):Reach ops k i:=by
 unfold kI at h
 cases hi:(W5 ops [])[i]? with
 | none=>simp [List.getD,hi] at h
 | some l=>exact MJ sM sM i l hi k (by simpa [List.getD,hi] using h)
def wl(ws:List Wr):List Loc:=ws.filterMap Wr.loc
def W6(A B:List Loc):Bool:=A.all fun x=>!(B.contains x)
def Q4:Loc->Bool
 | .x _=>true
 | _=>false
def DS.xf(d:DS):Bool:=d.DO||d.rd.any Q4
def L4(an:List Nat)(i:Nat)(di dj:DS):Bool:=an.contains i||(W6 (wl di.ws) (dj.rd++wl dj.ws)&&W6 (wl dj.ws) di.rd && !(di.DO&&dj.xf) && !(dj.DO&&di.xf))
def lpW(d:Nat):Wr->Bool
 | .tmp _ (.lp j _)=>j==d
 | _=>false
def JN:Wr->Option Nat
 | .Dd d _=>some d
 | _=>none
def q9(an:Nat->List Nat)(i j:Nat)(di dj:DS):Bool:=(di.ws.filterMap JN).all fun d=>(an j).contains i||dj.ws.all fun x=>!(lpW d x)
def SY(d:Nat):List (Nat × LV)->Bool
 | []=>true
 | (_,.lp j _)::r=>j != d&&SY d r
 | _::r=>SY d r
def CY:Wr->Bool
 | .ext _ _ _=>false
 | _=>true
def Hl:List Wr->Bool
 | []=>true
 | _::r=>r.all fun x=>(JN x).isNone
def WS(ops:List Oper)(B7:List DS)(tm:List (Nat × LV)):Bool:=
 let an:=W5 ops []
 (List.range B7.length).all fun j=>(B7.getD j ⟨[],[],false⟩).ws.all CY&&Hl (B7.getD j ⟨[],[],false⟩).ws&&(((B7.getD j ⟨[],[],false⟩).ws.filterMap JN).all fun d=>SY d tm) &&
  (((ops[j]?).map Kr).getD []).all (· < j) &&
  (List.range B7.length).all fun i=>i==j||(q9 (fun k=>an.getD k []) i j (B7.getD i ⟨[],[],false⟩) (B7.getD j ⟨[],[],false⟩)&&(!(decide (i<j))||L4 (an.getD j []) i (B7.getD i ⟨[],[],false⟩) (B7.getD j ⟨[],[],false⟩)))
section
variable {ops:List Oper} {B7:List DS} {tm:List (Nat × LV)}
theorem JO(h:WS ops B7 tm=true){j:Nat}{dj:DS}(hj:B7[j]?=some dj):dj.ws.all CY=true/\Hl dj.ws=true/\(∀d∈dj.ws.filterMap JN,SY d tm=true)/\(∀o,ops[j]?=some o->∀m∈Kr o,m<j) /\
  ∀i di,B7[i]?=some di->i≠j->q9 (kI ops) i j di dj=true/\(i<j->L4 (kI ops j) i di dj=true):=by
 have Ag:=(List.getElem?_eq_some_iff.1 hj).1
 simp only [WS,List.all_eq_true,List.mem_range,Bool.and_eq_true] at h
 have h1:=h j Ag
 have gj:B7.getD j ⟨[],[],false⟩=dj:=by simp [List.getD,hj]
 rw [gj] at h1
 obtain ⟨⟨⟨⟨k1,k2⟩,k3⟩,k4⟩,k5⟩:=h1
 refine ⟨by simpa using k1,k2,k3,fun o ho m hm=>?_,fun i di hi D4=>?_⟩
 ·simp only [ho,Option.map_some,Option.getD_some] at k4
  exact of_decide_eq_true (k4 m hm)
 ·have CE:=(List.getElem?_eq_some_iff.1 hi).1
  have gi:B7.getD i ⟨[],[],false⟩=di:=by simp [List.getD,hi]
  have:=k5 i CE
  rw [gi] at this
  simp only [Bool.or_eq_true,beq_iff_eq,D4,false_or,Bool.and_eq_true,Bool.not_eq_true',decide_eq_false_iff_not] at this
  refine ⟨this.1,fun TU=>?_⟩
  rcases this.2 with hc | hc
  ·exact absurd TU hc
  ·exact hc
theorem JP{A:List Wr}{B:List Loc}(h:W6 (wl A) B=true){x:Wr}(hx:x∈A){l:Loc}(hl:l∈B):FK l x=false:=by
 unfold FK
 rw [decide_eq_false_iff_not]
 intro e
 simp only [W6,List.all_eq_true,Bool.not_eq_true',List.contains_eq_mem,decide_eq_false_iff_not] at h
 exact h l (List.mem_filterMap.2 ⟨x,hx,e⟩) hl
end
theorem LC{D D':Nat->Bool}{i:Nat}(hD:∀j,j≠i->D' j=D j)(hi:D i=false)(OL:D' i=true):∀ {B7:List DS} {k:Nat} {d:DS},k<=i->B7[i - k]?=some d->Dy D' k B7=Dy D k B7+(if d.DO=true then 1 else 0)
 | [],k,d,_,h=>by simp at h
 | d0::r,k,d,hk,h=>by
  by_cases pV:k=i
  ·subst pV
   simp only [Nat.sub_self,List.getElem?_cons_zero,Option.some.injEq] at h
   subst h
   have:∀ (l:List DS) (m:Nat),k<m->Dy D' m l=Dy D m l:=by
    intro l
    induction l with
    | nil=>intro m _; rfl
    | cons x r ih=>intro m hm; simp only [Dy,hD m oM,ih (m+1) oM]
   simp only [Dy,hi,OL,this r (k+1) oM]
   cases d0.DO <;> simp <;> omega
  ·have h':r[i - (k+1)]?=some d:=by
    rw [show i - k=(i - (k+1))+1 by omega,List.getElem?_cons_succ] at h
    exact h
   have ih:=LC hD hi OL (by omega:k+1<=i) h'
   simp only [Dy,hD k pV,ih]
   omega
theorem Ea{D D':Nat->Bool}:∀ {B7:List DS} {k:Nat},(∀j d,B7[j]?=some d->d.DO=true->D (k+j)=D' (k+j))->Dy D k B7=Dy D' k B7
 | [],_,_=>rfl
 | d::r,k,h=>by
  have ih:=Ea (D:=D) (D':=D') (B7:=r) (k:=k+1) fun j d' hj he=>by
   have:=h (j+1) d' (by simpa using hj) he
   rw [show k+1+j=k+(j+1) by omega]
   exact this
  simp only [Dy,ih]
  cases he:d.DO with
  | false=>simp
  | true=>have:=h 0 d rfl he; simp only [Nat.add_zero] at this; rw [this]
section
variable {P:Program} {cx:Cx} {Q:A5->S->Prop} {ops:List Oper} {B7:List DS} {s0:S} {e:Nat->Ext}
def sT(s0:S)(B7:List DS)(e:Nat->Ext)(i:Nat):S:={ s0.Dm (CQ (fun j=>decide (j<i)) 0 B7) with ext:=e (Dy (fun j=>decide (j<i)) 0 B7) }
def sD(s0:S)(B7:List DS)(e:Nat->Ext)(D:Nat->Bool):S:={ s0.Dm (CQ D 0 B7) with ext:=e (Dy D 0 B7) }
def L5(P:Program)(cx:Cx)(all:Array Oper)(Q:A5->S->Prop)(o:Oper)(s s':S):Prop:=∀g l a w,Bb cx s g l a w ->
 if Region.wanted o (yielded all a.tmps)=true then o.wp P a w (fun a' w'=>∃g' l',Bb cx s' g' l' a' w') (post cx Q) else ∃g' l',Bb cx s' g' l' (a.put o.dst undef) w
def XO(P:Program)(cx:Cx)(all:Array Oper)(Q:A5->S->Prop)(e:Nat->Ext)(o:Oper)(d:DS)(si:S)(kt:Nat):Prop:=
 ∀s k,(∀l∈d.rd,s.get l=si.get l)->(d.xf=true->k=kt)->s.ext=e k->(∀b∈d.ws.filterMap JN,∀t off,lk s.tmps t≠some (.lp b off))->L5 P cx all Q o s { s.Dm d.ws with ext:=e (k+if d.DO=true then 1 else 0) }
theorem Bb.MK{s t:S}{g:Gh}{l:LG}{a:Act}{w:World}(h:Bb cx s g l a w)(hg:∀p,Q4 p=false->t.get p=s.get p)(hx:t.ext=s.ext):Bb cx t g l a w:=
 h.congr (fun k=>Rj (hg (.t k) rfl)) (fun k=>XN (hg (.b k) rfl)) (fun k=>by rw [hx]) (by rw [hx]; exact Nat.le_refl _)
theorem OT{d:Nat}:∀ {tm:List (Nat × LV)},SY d tm=true->∀t off,lk tm t≠some (.lp d off)
 | [],_,t,off=>by simp [lk]
 | (k,lv)::r,h,t,off=>by
  have hr:SY d r=true/\∀off,lv ≠ .lp d off:=by
   cases lv with
   | lp j o=>
    simp only [SY,Bool.and_eq_true,bne_iff_ne] at h
    exact ⟨h.2,fun off e=>by injection e with e1 e2; exact h.1 e1⟩
   | _=>exact ⟨h,fun off e=>by cases e⟩
  simp only [lk]
  split
  ·intro e; injection e with e; exact hr.2 off e
  ·exact OT hr.1 t off
theorem XP{b t off:Nat}:∀ {L:List Wr} {s:S},lk (s.Dm L).tmps t=some (.lp b off)->lk s.tmps t=some (.lp b off)∨∃x∈L,lpW b x=true
 | [],s,h => .inl h
 | x::r,s,h=>by
  rcases XP (L:=r) (s:=s.wq x) h with h1 | ⟨y,hy,hl⟩
  ·cases x with
   | tmp u v=>
    simp only [S.wq,Be] at h1
    split at h1
    ·injection h1 with h1
     subst h1
     exact .inr ⟨.tmp u (.lp b off),by simp,by simp [lpW]⟩
    ·exact .inl h1
   | Dd i ps=>exact .inl h1
   | cells i o vs=>
    simp only [S.wq] at h1
    split at h1
    ·exact .inl h1
    ·exact .inl h1
   | ext _ _ _=>exact .inl h1
  ·exact .inr ⟨y,List.mem_cons_of_mem _ hy,hl⟩
theorem g7(Ou:WS ops B7 s0.tmps=true){D D':Nat->Bool}{i:Nat}{o:Oper}{d:DS}(hc:MI ops D)(ho:ops[i]?=some o)(hd:B7[i]?=some d)(hi:D i=false)(OL:D' i=true)
  (hD:∀j,j≠i->D' j=D j) (g8:∀m∈Kr o,D m=true) (Ks:XO P cx ops.toArray Q e o d (sT s0 B7 e i) (Dy (fun j=>decide (j<i)) 0 B7)):L5 P cx ops.toArray Q o (sD s0 B7 e D) (sD s0 B7 e D'):=by
 obtain ⟨A,C,h1,h2,h3,h4⟩:=LA hD hi OL (Nat.zero_le i) (by simpa using hd)
 have A9o:∀j∈kI ops i,D j=true:=fun j hj=>hc.reach (OS hj) fun o' Mi m hm=>by rw [ho] at Mi; injection Mi with Mi; subst Mi; exact g8 m hm
 have A0n:∀j,D j=true->i∉kI ops j:=fun j hj W7=>by
  have:D i=true:=hc.reach (OS W7) fun o' Mi m hm=>hc j o' Mi hj m hm
  rw [hi] at this; cases this
 obtain ⟨-,-,c3,-,c5⟩:=JO Ou hd
 -- pairs that no edge orders
 have A0o:∀j dj,B7[j]?=some dj->j<i->D j=false->L4 (kI ops i) j dj d=true/\j∉kI ops i:=fun j dj hj Ag Ov=>
  ⟨(c5 j dj hj oM).2 Ag,fun hm=>by have:=A9o j hm; rw [Ov] at this; cases this⟩
 have XQ:∀j dj,B7[j]?=some dj->i<j->D j=true->W6 (wl d.ws) (dj.rd++wl dj.ws)=true/\W6 (wl dj.ws) d.rd=true/\(dj.DO&&d.xf)=false:=fun j dj hj Ag Ov=>by
  have:=((JO Ou hj).2.2.2.2 i d hd oM).2 Ag
  simp only [L4,Bool.or_eq_true,Bool.and_eq_true,List.contains_eq_mem,decide_eq_true_eq,Bool.not_eq_true'] at this
  rcases this with hm | hm
  ·exact absurd hm (A0n j Ov)
  ·exact ⟨hm.1.1.1,hm.1.1.2,hm.2⟩
 have hkt:d.xf=true->Dy D 0 B7=Dy (fun j=>decide (j<i)) 0 B7:=fun hxf=>Ea fun j dj hj W8=>by
  simp only [Nat.zero_add]
  by_cases Ag:j<i
  ·simp only [Ag,decide_true]
   cases hv:D j with
   | true=>rfl
   | false=>
    obtain ⟨hp,hna⟩:=A0o j dj hj Ag hv
    simp only [L4,Bool.or_eq_true,Bool.and_eq_true,List.contains_eq_mem,decide_eq_true_eq,Bool.not_eq_true'] at hp
    rcases hp with hm | hm
    ·exact absurd hm hna
    ·have:=hm.1.2; rw [W8,hxf] at this; cases this
  ·simp only [Ag,decide_false]
   cases hv:D j with
   | false=>rfl
   | true=>
    have qA:j≠i:=fun e0=>by subst e0; rw [hi] at hv; cases hv
    have:=(XQ j dj hj oM hv).2.2
    rw [W8,hxf] at this; cases this
 have hrd:∀l∈d.rd,(sD s0 B7 e D).get l=(sT s0 B7 e i).get l:=fun l hl=>by
  by_cases hx:Q4 l=true
  ·have hxf:d.xf=true:=by simp only [DS.xf,Bool.or_eq_true,List.any_eq_true]; exact .inr ⟨l,hl,hx⟩
   cases l with
   | t _=>cases hx
   | b _=>cases hx
   | x n=>simp only [S.get,sD,sT,hkt hxf]
  have:(sD s0 B7 e D).get l=(s0.Dm (CQ D 0 B7)).get l:=by cases l <;> first | rfl | exact absurd rfl hx
  rw [this]
  have:(sT s0 B7 e i).get l=(s0.Dm (CQ (fun j=>decide (j<i)) 0 B7)).get l:=by cases l <;> first | rfl | exact absurd rfl hx
  rw [this]
  refine SX s0 (LB fun j dj hj D4 x hx=>?_)
  simp only [Nat.zero_add] at D4
  by_cases Ag:j<i
  ·have Ov:D j=false:=by
    cases hv:D j with
    | false=>rfl
    | true=>exact absurd (by rw [hv]; simp [Ag]) D4
   obtain ⟨hp,hna⟩:=A0o j dj hj Ag Ov
   simp only [L4,Bool.or_eq_true,Bool.and_eq_true,List.contains_eq_mem,decide_eq_true_eq] at hp
   rcases hp with hm | hm
   ·exact absurd hm hna
   ·exact JP hm.1.1.1 hx (List.mem_append_left _ hl)
  ·have Ov:D j=true:=by
    cases hv:D j with
    | true=>rfl
    | false=>exact absurd (by rw [hv]; simp; omega) D4
   have qA:j≠i:=fun e0=>by subst e0; rw [hi] at Ov; cases Ov
   exact JP (XQ j dj hj oM Ov).2.1 hx hl
 have IE:∀b∈d.ws.filterMap JN,∀t off,lk (sD s0 B7 e D).tmps t≠some (.lp b off):=fun b hb t off g9=>by
  rcases XP (s:=s0) (L:=CQ D 0 B7) g9 with hs | ⟨x,hx,hlp⟩
  ·exact OT (c3 b hb) t off hs
  ·obtain ⟨j,dj,Ov,hj,hxj⟩:=MG hx
   simp only [Nat.zero_add] at Ov
   have qA:i≠j:=fun e0=>by subst e0; rw [hi] at Ov; cases Ov
   have:=((JO Ou hj).2.2.2.2 i d hd qA).1
   simp only [q9,List.all_eq_true,Bool.or_eq_true,List.contains_eq_mem,decide_eq_true_eq,Bool.not_eq_true'] at this
   rcases this b hb with hm | hm
   ·exact A0n j Ov hm
   ·rw [hm x hxj] at hlp; cases hlp
 have OU:=Ks (sD s0 B7 e D) (Dy D 0 B7) hrd hkt rfl IE
 have A0p:∀p,Q4 p=false->(sD s0 B7 e D').get p=({ (sD s0 B7 e D).Dm d.ws with ext:=e (Dy D 0 B7+if d.DO=true then 1 else 0) }:S).get p:=fun p hpx=>by
  have e1:(sD s0 B7 e D').get p=(s0.Dm (CQ D' 0 B7)).get p:=by cases p <;> first | rfl | cases hpx
  have e2:({ (sD s0 B7 e D).Dm d.ws with ext:=e (Dy D 0 B7+if d.DO=true then 1 else 0) }:S).get p=((sD s0 B7 e D).Dm d.ws).get p:=by cases p <;> first | rfl | cases hpx
  have e3:(sD s0 B7 e D).get p=(s0.Dm (CQ D 0 B7)).get p:=by cases p <;> first | rfl | cases hpx
  rw [e1,e2,Gk p d.ws,e3,Gk p,Gk p,<-List.foldl_append,<-List.filter_append,h1,h2]
  congr 1
  simp only [List.filter_append,List.append_assoc]
  congr 1
  -- the two parts in the midst do not touch one place
  by_cases hB:d.ws.filter (FK p)=[]
  ·simp [hB]
  ·have hC:C.filter (FK p)=[]:=by
    refine List.filter_eq_nil_iff.2 fun x hx=>?_
    rw [h4] at hx
    obtain ⟨j,dj,Ov,hj,hxj⟩:=MG hx
    simp only [Nat.zero_add,Bool.and_eq_true,decide_eq_true_eq] at Ov
    obtain ⟨y,hy,gA⟩:∃y∈d.ws,FK p y=true:=by
     rcases List.exists_mem_of_ne_nil _ hB with ⟨y,hy⟩
     exact ⟨y,(List.mem_filter.1 hy).1,(List.mem_filter.1 hy).2⟩
    intro htx
    have hpx:x.loc=some p:=of_decide_eq_true htx
    have W7:p∈dj.rd++wl dj.ws:=List.mem_append_right _ (List.mem_filterMap.2 ⟨x,hxj,hpx⟩)
    have:=JP (XQ j dj hj Ov.2 Ov.1).1 hy W7
    rw [gA] at this; cases this
   simp [hC]
 have XS:(sD s0 B7 e D').ext=e (Dy D 0 B7+if d.DO=true then 1 else 0):=by
  show e (Dy D' 0 B7)=_
  rw [LC hD hi OL (Nat.zero_le i) (by simpa using hd)]
 intro g l a w hs
 have:=OU g l a w hs
 split at this
 ·rename_i hw
  rw [iP hw]
  refine Cz ?_ this
  rintro a' w' ⟨g',l',sm⟩
  exact ⟨g',l',sm.MK A0p XS⟩
 ·rename_i hw
  rw [iN hw]
  obtain ⟨g',l',sm⟩:=this
  exact ⟨g',l',sm.MK A0p XS⟩
end
section
variable {P:Program} {cx:Cx} {Q:A5->S->Prop} {ops:List Oper} {B7:List DS} {s0:S} {e:Nat->Ext}
def Dl(listed:Array Bool):Nat->Bool:=fun j=>listed.getD j false
theorem Q5(n:Nat):Dl (Array.replicate n false)=fun _=>false:=by
 funext j
 simp only [Dl]
 by_cases h:j<n
 ·simp [h]
 ·simp [h]
theorem OV:∀ (l:List DS) (k:Nat),CQ (fun _=>false) k l=[]
 | [],_=>rfl
 | x::r,k=>by simp [CQ,OV r]
theorem OW:∀ (l:List DS) (k:Nat),Dy (fun _=>false) k l=0
 | [],_=>rfl
 | x::r,k=>by simp [Dy,OW r]
theorem FT{listed:Array Bool}{i:Nat}:i∈Region.ready .any ops.toArray listed↔listed.getD i true=false/\∃o,ops[i]?=some o/\∀m∈Kr o,Dl listed m=true:=by
 rw [mem_ready]
 constructor
 ·rintro ⟨h0,o,ho,h⟩
  refine ⟨h0,o,by simpa using ho,fun m hm=>?_⟩
  simp only [Kr,List.mem_map,List.mem_filter] at hm
  obtain ⟨ed,⟨h1,h2⟩,rfl⟩:=hm
  exact h ed (by simpa using h1) h2
 ·rintro ⟨h0,o,ho,h⟩
  refine ⟨h0,o,by simpa using ho,fun ed hed hb=>h _ ?_⟩
  simp only [Kr,List.mem_map,List.mem_filter]
  exact ⟨ed,⟨by simpa using hed,hb⟩,rfl⟩
theorem SZ(Ou:WS ops B7 s0.tmps=true)(hlen:B7.length=ops.length){listed:Array Bool}(Bq:listed.size=ops.length)(hr:Region.ready .any ops.toArray listed=[]):∀i,i<ops.length->Dl listed i=true:=by
 intro i
 induction i using Nat.strongRecOn with
 | _ i ih=>
  intro Ag
  cases hv:listed.getD i true with
  | true=>
   have:i<listed.size:=by omega
   simp only [Dl]
   simp [this] at hv ⊢
   exact hv
  | false=>
   have CE:i<B7.length:=by omega
   obtain ⟨-,-,-,c4,-⟩:=JO Ou (List.getElem?_eq_getElem CE)
   have:i∈Region.ready .any ops.toArray listed:=FT.2 ⟨hv,ops[i],List.getElem?_eq_getElem Ag,fun m hm=>by
    have:=c4 _ (List.getElem?_eq_getElem Ag) m hm
    exact ih m this oM⟩
   rw [hr] at this
   simp at this
theorem qB(hlen:B7.length=ops.length){D:Nat->Bool}(h:∀i,i<ops.length->D i=true):sD s0 B7 e D=sD s0 B7 e (fun _=>true):=by
 unfold sD
 rw [Dt (D:=D) (D':=fun _=>true) (B7:=B7) (k:=0) fun j _ hj=>h j oM]
 rw [Ea (D:=D) (D':=fun _=>true) (B7:=B7) (k:=0) fun j d hj _=>by
  have:=(List.getElem?_eq_some_iff.1 hj).1
  rw [Nat.zero_add]
  exact h j oM]
theorem gB(Ou:WS ops B7 s0.tmps=true)(hlen:B7.length=ops.length)(hQ:Q .normal (sD s0 B7 e fun _=>true))
  (Ks:∀i o d,ops[i]?=some o->B7[i]?=some d->XO P cx ops.toArray Q e o d (sT s0 B7 e i) (Dy (fun j=>decide (j<i)) 0 B7)) :
  ∀ (fuel:Nat) (listed:Array Bool) (L:List Nat) (g:Gh) (l:LG) (a:Act) (w:World),listed.size=ops.length->MI ops (Dl listed)->(∀i,i<ops.length->listed.getD i true=false->i∈L)->L.length<=fuel ->
   Bb cx (sD s0 B7 e (Dl listed)) g l a w->wpAny P .any ops.toArray (post cx Q) fuel listed a w:=by
 intro fuel
 have kJ:∀ {listed:Array Bool} {g:Gh} {l:LG} {a:Act} {w:World},listed.size=ops.length->Region.ready .any ops.toArray listed=[]->Bb cx (sD s0 B7 e (Dl listed)) g l a w->post cx Q .normal a w:=fun {listed g l a w} Bq hr hs=>by
  have:=SZ Ou hlen Bq hr
  rw [qB hlen this] at hs
  exact ⟨.normal,_,g,l,hQ,trivial,hs⟩
 induction fuel with
 | zero=>
  intro listed L g l a w Bq hc hL hf hs
  have SS:L=[]:=List.eq_nil_of_length_eq_zero oM
  subst SS
  have hr:Region.ready .any ops.toArray listed=[]:=by
   apply List.eq_nil_iff_forall_not_mem.2
   intro i hi
   obtain ⟨h0,o,ho,-⟩:=FT.1 hi
   exact absurd (hL i (List.getElem?_eq_some_iff.1 ho).1 h0) sM
  exact ⟨hr,kJ Bq hr hs⟩
 | succ fuel ih=>
  intro listed L g l a w Bq hc hL hf hs
  refine ⟨fun hr=>kJ Bq hr hs,fun i hi=>?_⟩
  obtain ⟨h0,o,ho,g8⟩:=FT.1 hi
  have Ag:=(List.getElem?_eq_some_iff.1 ho).1
  have CE:i<B7.length:=by omega
  have fT:i<listed.size:=by omega
  have hd:=List.getElem?_eq_getElem CE
  have hDi:Dl listed i=false:=by
   simp only [Dl]
   simp [fT] at h0 ⊢
   exact h0
  have qC:Dl (listed.setIfInBounds i true) i=true:=by simp [Dl,fT]
  have hDD:∀j,j≠i->Dl (listed.setIfInBounds i true) j=Dl listed j:=fun j hj=>getD_set_ne false (Ne.symm hj)
  have IF:=g7 (Q:=Q) (P:=P) (cx:=cx) Ou hc ho hd hDi qC hDD g8 (Ks i o _ ho hd) g l a w hs
  have QF:MI ops (Dl (listed.setIfInBounds i true)):=fun j oj hj Ov m hm=>by
   by_cases gC:j=i
   ·subst gC
    rw [ho] at hj
    injection hj with hj
    subst hj
    by_cases hmi:m=j
    ·rw [hmi]; exact qC
    ·rw [hDD m hmi]; exact g8 m hm
   ·rw [hDD j gC] at Ov
    by_cases hmi:m=i
    ·rw [hmi]; exact qC
    ·rw [hDD m hmi]; exact hc j oj hj Ov m hm
  have kK:∀g l a w,Bb cx (sD s0 B7 e (Dl (listed.setIfInBounds i true))) g l a w->wpAny P .any ops.toArray (post cx Q) fuel (listed.setIfInBounds i true) a w:=fun g l a w hs=>by
   have W7:=hL i Ag h0
   refine ih _ (L.erase i) g l a w (by simp [Bq]) QF (fun j hj hjl=>?_) (by rw [List.length_erase_of_mem W7]; have:=List.length_pos_of_mem W7; omega) hs
   have gC:j≠i:=fun e0=>by subst e0; simp [fT] at hjl
   rw [getD_set_ne true (Ne.symm gC)] at hjl
   exact (List.mem_erase_of_ne gC).2 (hL j hj hjl)
  have Mi:ops.toArray[i]?=some o:=by simpa using ho
  unfold wpOp
  rw [Mi]
  simp only
  split
  ·rename_i hw
   rw [iP hw] at IF
   refine .inl (Oper.wp_mono ?_ IF)
   rintro a' w' ⟨g',l',sm⟩
   exact kK g' l' a' w' sm
  ·rename_i hw
   rw [iN hw] at IF
   obtain ⟨g',l',sm⟩:=IF
   exact kK g' l' _ _ sm
theorem Q6{id:Nat}(hm:P.follows .mixedOrders=true)(Ou:WS ops B7 s0.tmps=true)(hlen:B7.length=ops.length)(he:e 0=s0.ext)(hQ:Q .normal (sD s0 B7 e fun _=>true))
  (Ks:∀i o d,ops[i]?=some o->B7[i]?=some d->XO P cx ops.toArray Q e o d (sT s0 B7 e i) (Dy (fun j=>decide (j<i)) 0 B7)):PW P cx (.region id ops.toArray true) s0 Q:=fun g l a w hs=>by
 refine wp_region_any hm ?_
 have Sq:Bb cx s0 g l a { w with drawn:=w.drawn+1 }:=hs.drew.1
 refine gB Ou hlen hQ Ks _ _ (List.range ops.length) g l a _ sM ?_ (fun i hi _=>by simpa using hi) sM ?_
 ·intro j o hj hD
  rw [Q5] at hD
  cases hD
 ·have e1:CQ (Dl (Array.replicate ops.toArray.size false)) 0 B7=[]:=by rw [Q5]; exact OV _ _
  have e2:Dy (Dl (Array.replicate ops.toArray.size false)) 0 B7=0:=by rw [Q5]; exact OW _ _
  unfold sD
  rw [e1,e2,he]
  exact Sq
end
def Q7:Wr->Bool
 | .ext _ _ _=>true
 | _=>false
def Iv:Ext->List Wr->Ext
 | e,[]=>e
 | e,.ext n off vs::r=>Iv (match lk e n with | some cs=>put e n (AI cs off vs) | none=>e) r
 | e,_::r=>Iv e r
theorem ML:∀ {r:List Wr} {e:Ext},r.any Q7=false->Iv e r=e
 | [],_,_=>rfl
 | x::r,e,h=>by
  simp only [List.any_cons,Bool.or_eq_false_iff] at h
  cases x with
  | ext _ _ _=>cases h.1
  | _=>simp only [Iv]; exact ML (r:=r) h.2
theorem OX:∀ {r:List Wr},r.any Q7=false->r.filter CY=r
 | [],_=>rfl
 | x::r,h=>by
  simp only [List.any_cons,Bool.or_eq_false_iff] at h
  have:=OX h.2
  cases x with
  | ext _ _ _=>cases h.1
  | _=>rw [List.filter_cons_of_pos rfl,this]
theorem Hp:∀ {r:List Wr} {s:S},s.Dm (r.filter CY)=s.Dm r
 | [],_=>rfl
 | x::r,s=>by
  cases x with
  | ext n off vs=>simp only [List.filter_cons,CY,Bool.false_eq_true,if_false,S.Dm,S.wq]; exact Hp
  | tmp _ _=>simp only [List.filter_cons,CY,if_true,S.Dm]; exact Hp
  | Dd _ _=>simp only [List.filter_cons,CY,if_true,S.Dm]; exact Hp
  | cells _ _ _=>simp only [List.filter_cons,CY,if_true,S.Dm]; exact Hp
theorem Ow{s t:S}{l:Loc}(h:s.get l=t.get l)(L:List Wr):(s.Dm L).get l=(t.Dm L).get l:=by rw [Gk,Gk,h]
theorem qD(s:S)(x:Wr):(s.wr x).ext=Iv s.ext [x]:=by
 cases x with
 | tmp _ _=>rfl
 | Dd _ _=>rfl
 | cells i off vs=>simp only [S.wr,Iv]; split <;> rfl
 | ext n off vs=>simp only [S.wr,Iv]; cases lk s.ext n <;> rfl
theorem W9(e:Ext)(x:Wr)(r:List Wr):Iv e (x::r)=Iv (Iv e [x]) r:=by cases x <;> rfl
theorem TZ:∀ (r:List Wr) (s:S),(s.HY r).ext=Iv s.ext r
 | [],_=>rfl
 | x::r,s=>by rw [W9,<-qD]; exact TZ r _
theorem XT{s t:S}{x:Wr}(hx:JN x=none)(h:∀l,Q4 l=false->s.get l=t.get l):∀l,Q4 l=false->(s.wr x).get l=(t.wq x).get l:=fun l hl=>by
 have hb:∀i,lk s.boxes i=lk t.boxes i:=fun i=>XN (h (.b i) rfl)
 cases x with
 | tmp u v=>
  cases l with
  | t k=>have:=Rj (h (.t k) rfl); simp [S.wr,S.wq,S.get,Be,this]
  | b k=>have:=hb k; simp [S.wr,S.wq,S.get,this]
  | x k=>cases hl
 | Dd _ _=>cases hx
 | cells i off vs=>
  simp only [S.wr,S.wq,hb i]
  cases hi:lk t.boxes i with
  | none=>exact h l hl
  | some cs=>
   cases l with
   | t k=>exact h (.t k) rfl
   | b k=>simp [S.get,Be,hb k]
   | x k=>cases hl
 | ext n off vs=>
  have:(s.wr (.ext n off vs)).get l=s.get l:=by
   cases l with
   | t k=>simp only [S.wr]; split <;> rfl
   | b k=>simp only [S.wr]; split <;> rfl
   | x k=>cases hl
  rw [this]
  exact h l hl
theorem L6:∀ {r:List Wr} {s t:S},(∀x∈r,JN x=none)->(∀l,Q4 l=false->s.get l=t.get l)->∀l,Q4 l=false->(s.HY r).get l=(t.Dm r).get l
 | [],_,_,_,h=>h
 | x::r,s,t,hn,h=>L6 (r:=r) (fun y hy=>hn y (List.mem_cons_of_mem _ hy)) (XT (hn x sM) h)
theorem Jo{x:Wr}{r:List Wr}(hx:CY x=true)(h:Hl ((x::r).filter CY)=true):∀y∈r,JN y=none:=fun y hy=>by
 simp only [List.filter_cons,hx,if_true,Hl,List.all_eq_true] at h
 cases hp:CY y with
 | true=>exact Option.isNone_iff_eq_none.1 (h y (List.mem_filter.2 ⟨hy,hp⟩))
 | false=>cases y <;> first | rfl | cases hp
theorem U0:∀ {ws:List Wr} {s:S},Hl (ws.filter CY)=true->(∀b∈ws.filterMap JN,∀t off,lk s.tmps t≠some (.lp b off))->∀l,Q4 l=false->(s.HY ws).get l=(s.Dm ws).get l
 | [],_,_,_=>fun _ _=>rfl
 | x::r,s,hf,hn=>by
  cases hx:JN x with
  | none=>
   cases hp:CY x with
   | true=>exact L6 (r:=x::r) (fun y hy=>by rcases List.mem_cons.1 hy with rfl | hy; exact hx; exact Jo hp hf y hy) fun _ _=>rfl
   | false=>
    cases x with
    | ext n off vs=>
     intro l hl
     have e1:∀l,Q4 l=false->(s.wr (.ext n off vs)).get l=s.get l:=fun l hl=>XT rfl (fun _ _=>rfl) l hl
     have et:(s.wr (.ext n off vs)).tmps=s.tmps:=by simp only [S.wr]; split <;> rfl
     have:=U0 (ws:=r) (s:=s.wr (.ext n off vs)) (by simpa [List.filter_cons,CY] using hf) (fun b hb t off=>by rw [et]; exact hn b (by simpa [JN,List.filterMap_cons] using hb) t off) l hl
     show ((s.wr (.ext n off vs)).HY r).get l=(s.Dm r).get l
     rw [this]
     exact Ow (e1 l hl) r
    | _=>cases hp
  | some d=>
   cases x with
   | Dd i ps=>
    injection hx with hx
    subst hx
    have hr:=Jo (x := .Dd i ps) rfl hf
    refine L6 (r:=r) (s:=s.wr (.Dd i ps)) (t:=s.wq (.Dd i ps)) hr fun l hl=>?_
    cases l with
    | t k=>
     simp only [S.wr,S.wq,S.get,Kh]
     cases hk:lk s.tmps k with
     | none=>rfl
     | some lv=>
      simp only [Option.map_some]
      rcases X6 (i:=i) (lv:=lv) with hj | ⟨he,-⟩
      ·cases lv with
       | lp j o=>
        simp only [kl] at hj ⊢
        split
        ·rename_i e0; subst e0; exact absurd hk (hn j (by simp [JN,List.filterMap_cons]) k o)
        ·rfl
       | _=>rfl
      ·rw [he]
    | b k=>rfl
    | x k=>cases hl
   | _=>cases hx
def Cr.lv:Cr->Option LV
 | .ret p=>some (.v p)
 | .own e z es=>some (.uniq e z es)
 | .panic _=>none
def Dn(o:Oper)(lv:LV):List Wr:=match o.dst with
 | some d=>[.tmp d lv]
 | none=>[]
section
variable {P:Program} {cx:Cx} {Q:A5->S->Prop}
def FU(P:Program)(ro:TypeId->Option Bool)(n:Nat)(all:List Oper)(o:Oper)(gr:List Loc)(s:S)(K:DS->Option Ext->S->Prop):Prop:=match callee P o with
 | some r=>r.I1 s fun x rd=>Fu P x.1=true/\((∃r lv,r.lv=some lv/\(∀e,C3 P x.1 x.2 e fun r' e'=>r'=r/\e'=e)/\K ⟨gr++rd,Dn o lv,false⟩ none (s.Dm (Dn o lv)))
   ∨ ∃r lv e',r.lv=some lv/\C3 P x.1 x.2 s.ext (fun r' e''=>r'=r/\e''=e')/\K ⟨gr++rd,Dn o lv,true⟩ (some e') { s.Dm (Dn o lv) with ext:=e' })
 | none=>(act P ro n all o).I1 s fun wr rd=>if wr.any Q7=true then K ⟨gr++rd,wr.filter CY,true⟩ (some (Iv s.ext wr)) { s.Dm (wr.filter CY) with ext:=Iv s.ext wr }
   else K ⟨gr++rd,wr,false⟩ none (s.Dm wr)
def kN(P:Program)(ro:TypeId->Option Bool)(n:Nat)(all:List Oper):List Oper->S->(List DS->List Ext->S->Prop)->Prop
 | [],s,K=>K [] [] s
 | o::rest,s,K=>match o.guard with
  | none=>FU P ro n all o [] s fun d x s'=>kN P ro n all rest s' fun ds xs t=>K (d::ds) (x.toList++xs) t
  | some (j,want)=>match (all[j]?).bind (·.dst) with
   | some dj=>match (lk s.tmps dj).bind (ME want) with
    | some b=>if b=true then FU P ro n all o [.t dj] s fun d x s'=>kN P ro n all rest s' fun ds xs t=>K (d::ds) (x.toList++xs) t
     else kN P ro n all rest (s.Dm (Dn o (.v (.AE [])))) fun ds xs t=>K (⟨[.t dj],Dn o (.v (.AE [])),false⟩::ds) xs t
    | none=>False
   | none=>False
def T0(P:Program)(cx:Cx)(all:Array Oper)(Q:A5->S->Prop)(o:Oper)(d:DS)(si:S)(e':Ext):Prop:=
 Hl d.ws=true->∀s,(∀l∈d.rd,s.get l=si.get l)->(d.xf=true->s.ext=si.ext)->(∀b∈d.ws.filterMap JN,∀t off,lk s.tmps t≠some (.lp b off))->L5 P cx all Q o s { s.Dm d.ws with ext:=if d.DO=true then e' else s.ext }
def IP(P:Program)(cx:Cx)(all:Array Oper)(Q:A5->S->Prop):List Oper->List DS->List Ext->S->S->Prop
 | [],[],[],s,t=>t=s
 | o::rest,d::ds,xs,s,t=>∃ (x:Option Ext) (gD:List Ext),xs=x.toList++gD/\d.DO=x.isSome/\T0 P cx all Q o d s (x.getD s.ext)/\IP P cx all Q rest ds gD { s.Dm d.ws with ext:=x.getD s.ext } t
 | _,_,_,_,_=>False
theorem L5.of{all:Array Oper}{o:Oper}{s s' t:S}(hg:∀p,Q4 p=false->t.get p=s'.get p)(hx:t.ext=s'.ext)(h:L5 P cx all Q o s s'):L5 P cx all Q o s t:=fun g l a w hs=>by
 have:=h g l a w hs
 split
 ·rename_i hw
  rw [iP hw] at this
  exact Cz (fun a' w' ⟨g',l',sm⟩=>⟨g',l',sm.MK hg hx⟩) this
 ·rename_i hw
  rw [iN hw] at this
  obtain ⟨g',l',sm⟩:=this
  exact ⟨g',l',sm.MK hg hx⟩
theorem Fa{ro:TypeId->Option Bool}{all:List Oper}{o:Oper}{gr:List Loc}{si:S}{K:DS->Option Ext->S->Prop}(hd:∀d,o.dst=some d->d<cx.n)
  (DG:∀s,(∀l∈gr,s.get l=si.get l)->∀g l a w,Bb cx s g l a w->Region.wanted o (yielded all.toArray a.tmps)=true) (h:FU P ro cx.n all o gr si K) :
  ∃d x s',K d x s'/\d.DO=x.isSome/\s'={ si.Dm d.ws with ext:=x.getD si.ext }/\T0 P cx all.toArray Q o d si (x.getD si.ext):=by
 have Gl:∀ {r:RM (FuncId × List PV)} {x:FuncId × List PV} {rd:List Loc} {res:Cr} {lv:LV} {DO:Bool} {e':Ext},callee P o=some r->(∀s',(∀l∈rd,s'.get l=si.get l)->r.wp s' fun y=>y=x)->Fu P x.1=true->res.lv=some lv ->
   (∀s:S,(DO=true->s.ext=si.ext)->C3 P x.1 x.2 s.ext (fun r' e''=>r'=res/\e''=if DO=true then e' else s.ext))->T0 P cx all.toArray Q o ⟨gr++rd,Dn o lv,DO⟩ si e':=by
  intro r x rd res lv DO e' hr Ks Lz Gc hC _ s OY WT _ g l a w hs
  rw [iP (DG s (fun l hl=>OY l (List.mem_append_left _ hl)) g l a w hs)]
  have hC':=hC s fun he=>WT (by simp [DS.xf,he])
  have:=FJ (Q:=Q) (K:=fun s'=>s'=s.LX o.dst lv (if DO=true then e' else s.ext)) hr hd hs (RM.wp_mono (fun y hy=>by
   subst hy
   refine ⟨Lz,hC'.mono ?_⟩
   rintro r' e'' ⟨rfl,rfl⟩
   cases r' with
   | ret p=>simp only [Cr.lv,Option.some.injEq] at Gc; subst Gc; rfl
   | own te z es=>simp only [Cr.lv,Option.some.injEq] at Gc; subst Gc; rfl
   | panic p=>cases Gc) (Ks s fun l hl=>OY l (List.mem_append_right _ hl)))
  refine Cz ?_ this
  rintro a' w' ⟨s',g',l',rfl,sm⟩
  refine ⟨g',l',?_⟩
  have e1:({ s.Dm (Dn o lv) with ext:=if DO=true then e' else s.ext }:S)=s.LX o.dst lv (if DO=true then e' else s.ext):=by
   unfold Dn S.LX
   cases o.dst <;> rfl
  show Bb cx { s.Dm (Dn o lv) with ext:=if DO=true then e' else s.ext } g' l' a' w'
  rw [e1]
  exact sm
 unfold FU at h
 split at h
 ·rename_i r hr
  obtain ⟨x,rd,⟨Lz,hk⟩,Ks⟩:=RM.EY h
  rcases hk with hk | hk
  ·obtain ⟨res,lv,Gc,hC,hK⟩:=hk
   refine ⟨_,_,_,hK,rfl,?_,Gl hr Ks Lz Gc fun s _=>?_⟩
   ·have:=Kq (Dn o lv) si
    show si.Dm (Dn o lv)={ si.Dm (Dn o lv) with ext:=si.ext }
    rw [<-this]
   ·exact hC s.ext
  ·obtain ⟨res,lv,e',Gc,hC,hK⟩:=hk
   refine ⟨_,_,_,hK,rfl,rfl,Gl hr Ks Lz Gc fun s hs=>?_⟩
   rw [hs rfl]
   exact hC
 ·obtain ⟨wr,rd,hk,Ks⟩:=RM.EY h
  have A0q:∀ {DO:Bool},DO=wr.any Q7->T0 P cx all.toArray Q o ⟨gr++rd,wr.filter CY,DO⟩ si (Iv si.ext wr):=by
   intro DO W8 XU s OY WT IE g l a w hs
   rw [iP (DG s (fun l hl=>OY l (List.mem_append_left _ hl)) g l a w hs)]
   have:=FO hs (Ks s fun l hl=>OY l (List.mem_append_right _ hl)) (post cx Q)
   refine Cz ?_ this
   rintro a' w' ⟨wr',g',l',rfl,sm⟩
   refine ⟨g',l',sm.MK (fun p hp=>?_) ?_⟩
   ·have PR:∀b∈wr'.filterMap JN,∀t off,lk s.tmps t≠some (.lp b off):=fun b hb=>IE b (by
     simp only [List.mem_filterMap] at hb ⊢
     obtain ⟨y,hy,hyb⟩:=hb
     exact ⟨y,List.mem_filter.2 ⟨hy,by cases y <;> first | rfl | cases hyb⟩,hyb⟩)
    have e1:=U0 XU PR p hp
    rw [e1]
    simp only [Hp]
    cases p <;> first | rfl | cases hp
   ·rw [TZ]
    simp only
    cases DO with
    | true=>simp only [if_true]; rw [WT (by simp [DS.xf])]
    | false=>simp only [Bool.false_eq_true,if_false]; exact (ML W8.symm).symm
  split at hk
  ·rename_i hx
   exact ⟨_,_,_,hk,rfl,rfl,A0q hx.symm⟩
  ·rename_i hx
   have hx':wr.any Q7=false:=by simpa using hx
   have:=A0q hx'.symm
   rw [OX hx'] at this
   refine ⟨_,_,_,hk,rfl,?_,?_⟩
   ·have:=Kq wr si
    show si.Dm wr={ si.Dm wr with ext:=si.ext }
    rw [<-this]
   ·have e2:=ML (e:=si.ext) hx'
    rw [e2] at this
    exact this
theorem Jd{ro:TypeId->Option Bool}{all:List Oper}(Bw:Er cx.n all=true):∀ {ls:List Oper} {s:S} {K:List DS->List Ext->S->Prop},(∀o∈ls,o∈all)->kN P ro cx.n all ls s K ->
  ∃B7 xs t,K B7 xs t/\IP P cx all.toArray Q ls B7 xs s t
 | [],s,K,_,h=>⟨[],[],s,h,rfl⟩
 | o::rest,s,K,hm,h=>by
  have hd:∀d,o.dst=some d->d<cx.n:=Dk Bw (hm o sM)
  have EM:∀o∈rest,o∈all:=fun o ho=>hm o (List.mem_cons_of_mem _ ho)
  simp only [kN] at h
  split at h
  ·rename_i hg
   obtain ⟨d,x,s',hk,he,rfl,hl⟩:=Fa (Q:=Q) (o:=o) (all:=all) (gr:=[]) hd (fun s _ g l a w _=>by simp [Region.wanted,hg]) h
   obtain ⟨B7,xs,t,h1,h2⟩:=Jd Bw EM hk
   exact ⟨d::B7,x.toList++xs,t,h1,x,xs,rfl,he,hl,h2⟩
  ·rename_i j want hg
   split at h
   ·rename_i dj T1
    have XV:dj<cx.n:=by
     simp only [Option.bind_eq_some_iff] at T1
     obtain ⟨oj,h1,h2⟩:=T1
     exact Dk Bw (List.mem_of_getElem? h1) dj h2
    split at h
    ·rename_i b hb
     simp only [Option.bind_eq_some_iff] at hb
     obtain ⟨lv,Gc,hb⟩:=hb
     have DG:∀s',(∀l∈[Loc.t dj],s'.get l=s.get l)->∀g l a w,Bb cx s' g l a w->Region.wanted o (yielded all.toArray a.tmps)=b:=fun s' Sq g l a w sm=>by
      have h1:lk s'.tmps dj=some lv:=by rw [Rj (Sq (.t dj) sM)]; exact Gc
      simp only [Region.wanted,hg]
      exact JL (by simpa using T1) XV sm h1 hb
     split at h
     ·rename_i hbt
      subst hbt
      obtain ⟨d,x,s',hk,he,rfl,hl⟩:=Fa (Q:=Q) (o:=o) (all:=all) (gr:=[.t dj]) hd DG h
      obtain ⟨B7,xs,t,h1,h2⟩:=Jd Bw EM hk
      exact ⟨d::B7,x.toList++xs,t,h1,x,xs,rfl,he,hl,h2⟩
     ·rename_i hbf
      have A9p:b=false:=by simpa using hbf
      subst A9p
      obtain ⟨B7,xs,t,h1,h2⟩:=Jd Bw EM h
      refine ⟨_::B7,xs,t,h1,none,xs,rfl,rfl,?_,?_⟩
      ·intro _ s' OY WT _ g l a w sm
       rw [iN (by rw [DG s' OY g l a w sm]; simp)]
       refine ⟨g,l,?_⟩
       show Bb cx { s'.Dm (Dn o (.v (.AE []))) with ext:=s'.ext } g l (a.put o.dst undef) w
       unfold Dn
       cases FA:o.dst with
       | none=>exact sm
       | some d=>exact sm.set (hd d FA) (.AE [] [] rfl fun j h=>by simp at h)
      ·have:=Kq (Dn o (.v (.AE []))) s
       have e2:s.Dm (Dn o (.v (.AE [])))={ s.Dm (Dn o (.v (.AE []))) with ext:=s.ext }:=by rw [<-this]
       rw [e2] at h2
       exact h2
    ·exact h.elim
   ·exact h.elim
theorem JQ:∀ (A B:List Wr) (s:S),s.Dm (A++B)=(s.Dm A).Dm B
 | [],_,_=>rfl
 | x::r,B,s=>by simp only [List.cons_append,S.Dm]; exact JQ r B _
theorem gE(s:S)(e:Ext)(x:Wr):({ s with ext:=e }:S).wq x={ s.wq x with ext:=e }:=by
 cases x with
 | cells i off vs=>simp only [S.wq]; split <;> rfl
 | _=>rfl
theorem Rl:∀ (A:List Wr) (s:S) (e:Ext),({ s with ext:=e }:S).Dm A={ s.Dm A with ext:=e }
 | [],_,_=>rfl
 | x::r,s,e=>by simp only [S.Dm,gE]; exact Rl r _ e
theorem Hq:∀ (B7:List DS) (k i:Nat),CQ (fun j=>decide (j<k+i)) k B7=(B7.take i).flatMap (·.ws)
 | [],_,_=>by simp [CQ]
 | d::r,k,0=>by
  have:=Hq r (k+1) 0
  have h2:CQ (fun j=>decide (j<k+0)) (k+1) r=CQ (fun j=>decide (j<k+1+0)) (k+1) r:=Dt fun j h1 _=>by simp; omega
  simp only [CQ,h2,this]
  simp
 | d::r,k,i+1=>by
  have:=Hq r (k+1) i
  rw [show k+1+i=k+(i+1) by omega] at this
  simp only [CQ,this]
  simp
theorem Ei:∀ (B7:List DS) (k i:Nat),Dy (fun j=>decide (j<k+i)) k B7=(B7.take i).countP (·.DO)
 | [],_,_=>by simp [Dy]
 | d::r,k,0=>by
  have:=Ei r (k+1) 0
  have h2:Dy (fun j=>decide (j<k+0)) (k+1) r=Dy (fun j=>decide (j<k+1+0)) (k+1) r:=Ea fun j d' _ _=>by
   have h3:¬k+1+j<k+0:=by omega
   have h4:¬k+1+j<k+1+0:=by omega
   simp only [h3,h4]
  simp only [Dy,h2,this]
  simp
 | d::r,k,i+1=>by
  have:=Ei r (k+1) i
  rw [show k+1+i=k+(i+1) by omega] at this
  simp only [Dy,this]
  simp only [List.take_succ_cons,List.countP_cons]
  cases d.DO <;> simp <;> omega
def U1(s:S)(B7:List DS)(xs:List Ext)(i:Nat):S:={ s.Dm ((B7.take i).flatMap (·.ws)) with ext:=(s.ext::xs).getD ((B7.take i).countP (·.DO)) [] }
theorem IP.at_{all:Array Oper}:∀ {ls:List Oper} {B7:List DS} {xs:List Ext} {s t:S},IP P cx all Q ls B7 xs s t->B7.length=ls.length/\t=U1 s B7 xs B7.length /\
  ∀i o d,ls[i]?=some o->B7[i]?=some d->∃e',T0 P cx all Q o d (U1 s B7 xs i) e'/\(d.DO=true->e'=(s.ext::xs).getD ((B7.take i).countP (·.DO)+1) [])
 | [],[],[],s,t,h=>⟨rfl,by
   have:t=s:=h
   subst this; rfl,fun i o d ho=>by simp at ho⟩
 | o0::rest,d0::ds,xs,s,t,h=>by
  obtain ⟨x,gD,rfl,he,hl,hc⟩:=h
  obtain ⟨k1,k2,k3⟩:=IP.at_ hc
  have key:∀i,U1 { s.Dm d0.ws with ext:=x.getD s.ext } ds gD i=U1 s (d0::ds) (x.toList++gD) (i+1):=fun i=>by
   unfold U1
   rw [Rl]
   simp only [List.take_succ_cons,List.flatMap_cons,JQ,List.countP_cons,he]
   cases x with
   | none=>simp
   | some e1=>simp
  have kn:∀i,(({ s.Dm d0.ws with ext:=x.getD s.ext }:S).ext::gD).getD ((ds.take i).countP (·.DO)+1) []=(s.ext::(x.toList++gD)).getD (((d0::ds).take (i+1)).countP (·.DO)+1) []:=fun i=>by
   simp only [List.take_succ_cons,List.countP_cons,he]
   cases x with
   | none=>simp
   | some e1=>simp
  refine ⟨by simp [k1],by rw [k2,key]; rfl,fun i o d ho hd=>?_⟩
  cases i with
  | zero=>
   simp only [List.getElem?_cons_zero,Option.some.injEq] at ho hd
   subst ho hd
   refine ⟨x.getD s.ext,?_,fun WU=>?_⟩
   ·have:U1 s (d0::ds) (x.toList++gD) 0=s:=by unfold U1; simp [S.Dm]
    rw [this]
    exact hl
   ·rw [he] at WU
    cases x with
    | none=>cases WU
    | some e1=>simp
  | succ i=>
   simp only [List.getElem?_cons_succ] at ho hd
   obtain ⟨e',h1,h2⟩:=k3 i o d ho hd
   rw [key] at h1
   exact ⟨e',h1,fun WU=>by rw [h2 WU]; exact kn i⟩
 | [],_::_,_,_,_,h=>h.elim
 | _::_,[],_,_,_,h=>h.elim
 | [],[],_::_,_,_,h=>h.elim
theorem XW(ro:TypeId->Option Bool)(n:Nat){id:Nat}{ops:List Oper}{s:S}(hm:P.follows .mixedOrders=true)(hn:cx.n=n)(Bw:Er n ops=true)
  (h:kN P ro n ops ops s fun B7 _ t=>WS ops B7 s.tmps=true/\Q .normal t):PW P cx (.region id ops.toArray true) s Q:=by
 subst hn
 obtain ⟨B7,xs,t,⟨hc,hq⟩,hch⟩:=Jd (Q:=Q) Bw (fun _ h=>h) h
 obtain ⟨k1,k2,k3⟩:=hch.at_
 have hT:∀i,sT s B7 (fun k=>(s.ext::xs).getD k []) i=U1 s B7 xs i:=fun i=>by
  unfold sT U1
  have h1:=Hq B7 0 i
  have h2:=Ei B7 0 i
  simp only [Nat.zero_add] at h1 h2
  rw [h1,h2]
 refine Q6 (B7:=B7) (e:=fun k=>(s.ext::xs).getD k []) hm hc k1 rfl ?_ fun i o d ho hd=>?_
 ·have h1:=hT B7.length
  have h2:sD s B7 (fun k=>(s.ext::xs).getD k []) (fun _=>true)=sT s B7 (fun k=>(s.ext::xs).getD k []) B7.length:=by
   unfold sD sT
   rw [Dt (D:=fun _=>true) (D':=fun j=>decide (j<B7.length)) (B7:=B7) (k:=0) fun j _ hj=>by simp at hj; simp [hj]]
   rw [Ea (D:=fun _=>true) (D':=fun j=>decide (j<B7.length)) (B7:=B7) (k:=0) fun j d' hj _=>by
    have:=(List.getElem?_eq_some_iff.1 hj).1
    simp [this]]
  rw [h2,h1,<-k2]
  exact hq
 ·obtain ⟨e',h1,h2⟩:=k3 i o d ho hd
  rw [hT]
  have hk:Dy (fun j=>decide (j<i)) 0 B7=(B7.take i).countP (·.DO):=by
   have:=Ei B7 0 i
   simpa using this
  rw [hk]
  intro s' k OY kO Sr IE
  obtain ⟨-,XU,-⟩:=JO hc hd
  have:=h1 XU s' OY (fun hx=>by rw [Sr,kO hx]; rfl) IE
  refine this.of (fun p hp=>?_) ?_
  ·cases p <;> first | rfl | cases hp
  ·simp only
   cases WU:d.DO with
   | true=>
    have L7:=kO (by simp [DS.xf,WU])
    rw [L7,h2 WU]
    rfl
   | false=>simp only [Bool.false_eq_true,if_false,Nat.add_zero]; exact Sr.symm
end
section
variable {P:Program} {cx:Cx} {s t:S} {g:Gh} {l:LG} {a:Act} {w:World} {o:Oper}
theorem Bb.XX(h:Bb cx s g l a w)(cur:Array Value)(e:TypeId)(cs:List LV)(hlen:cs.length<=cur.size)(hr:∀j (hj:j<cs.length),cs[j] = .Dx∨∃p,cs[j] = .v p/\BJ g w p (cur.getD j undef))(Ce:∀u∈cur.toList,u.oneCell'=true) :
  Bb cx { s with ext:=put s.ext (DN s.ext) cs } { g with M:=Dz g.M w.heap.size (some 0),X:=Dz g.X (DN s.ext) (some w.heap.size) }
   { l with O:=Dz l.O w.heap.size (some (.x (DN s.ext))) } a (w.alloc (.cells cur e)) /\
  C0 g w { g with M:=Dz g.M w.heap.size (some 0),X:=Dz g.X (DN s.ext) (some w.heap.size) } (w.alloc (.cells cur e)):=by
 have hb:∀b,b<w.heap.size->(w.alloc (.cells cur e)).heap[b]?=w.heap[b]?:=fun b hb=>Below.heap_alloc w _ b hb
 have hX:∀n b,g.X n=some b->Dz g.X (DN s.ext) (some w.heap.size) n=some b:=fun n b hx=>by
  rw [Ap]
  ·exact hx
  ·intro e0
   rw [e0,h.fresh.2.1 _ (Nat.le_refl _)] at hx
   cases hx
 have hm:C0 g w { g with M:=Dz g.M w.heap.size (some 0),X:=Dz g.X (DN s.ext) (some w.heap.size) } (w.alloc (.cells cur e)):=by
  refine ⟨hX,fun b o v hc hf=>?_,Eg hb,fun _ _ _ h=>h⟩
  have Ag:=World.block_lt_of_cell? w _ hc
  refine ⟨by rw [<-hc]; exact World.cell?_of_block (hb b Ag),fun k hk=>hf k ?_⟩
  simp only at Ag
  rw [<-Ap g.M (some 0) (Nat.ne_of_lt Ag)]; exact hk
 have hU:∀ {p b},l.U p=some b->l.U p=some b/\Dz g.M w.heap.size (some 0) b=g.M b/\(w.alloc (.cells cur e)).heap[b]?=w.heap[b]?:=fun {p b} hu=>by
  have Ag:=(h.own b _ (h.uo _ _ hu)).1
  exact ⟨hu,Ap _ _ (Nat.ne_of_lt Ag),hb b Ag⟩
 have Bq:(w.alloc (.cells cur e)).heap.size=w.heap.size+1:=by simp
 refine ⟨⟨⟨h.AV.mono.trans hm,by rw [Bq]; exact Nat.le_succ_of_le h.AV.size,fun b Ag ho=>?_,h.AV.os,h.AV.tape,h.AV.output,h.AV.JH.mono hm⟩,h.size,h.defers,?_,?_,?_,?_,?_,?_,?_⟩,hm⟩
 ·obtain ⟨h1,h2⟩:=h.AV.frame b Ag ho
  have CE:=Nat.lt_of_lt_of_le Ag h.AV.size
  exact ⟨(hb b CE).trans h1,(Ap g.M (some 0) (Nat.ne_of_lt CE)).trans h2⟩
 ·intro t lv ht
  exact (h.tm t lv ht).BN hm (fun _ _ _=>rfl) fun b hu=>hU hu
 ·intro k cs hk
  obtain ⟨b,h1,h2,h3,cur',e',h4,h5,h6⟩:=h.bx k cs hk
  have Ag:=(h.own b _ h2).1
  refine ⟨b,h1,(Ap _ _ (Nat.ne_of_lt Ag)).trans h2,(Ap _ _ (Nat.ne_of_lt Ag)).trans h3,cur',e',(hb b Ag).trans h4,h5,fun j hj=>⟨(h6 j hj).1,(h6 j hj).2.1,(h6 j hj).2.2.BN hm (fun _ _ _=>rfl) fun b hu=>hU hu⟩⟩
 ·intro k Ki hk
  simp only [Be] at hk
  split at hk
  ·rename_i ek
   subst ek
   injection hk with hk
   subst hk
   refine A04 (Bt _ _ _) (Bt _ _ _) ⟨Bt _ _ _,cur,e,heap_alloc_new w _,hlen,fun j hj=>?_⟩
   have WK:j<cur.size:=by omega
   have Xt:(cur.getD j undef).oneCell'=true:=Ce _ (by simp [WK])
   rcases hr j hj with hx | ⟨p,hx,hrp⟩
   ·rw [hx]; exact ⟨rfl,Xt,An⟩
   ·rw [hx]; exact ⟨rfl,Xt,hrp.mono hm⟩
  ·obtain ⟨b,h1,h2,hE⟩:=h.ex k Ki hk
   have Ag:=(h.own b _ h2).1
   refine ⟨b,h1.mono hm,(Ap _ _ (Nat.ne_of_lt Ag)).trans h2,?_⟩
   rcases hE with ⟨h3,cur',e',h4,h5,h6⟩ | hE
   ·exact .inl ⟨(Ap _ _ (Nat.ne_of_lt Ag)).trans h3,cur',e',(hb b Ag).trans h4,h5,fun j hj=>⟨(h6 j hj).1,(h6 j hj).2.1,(h6 j hj).2.2.BN hm (fun _ _ _=>rfl) fun b hu=>hU hu⟩⟩
   ·exact .inr (hE.BN hm (fun _ _ _ h=>h) (Ap _ _ (Nat.ne_of_lt Ag)) (hb b Ag))
 ·intro b o ho
  simp only [Dz] at ho
  split at ho
  ·rename_i eb
   subst eb
   exact ⟨by rw [Bq]; omega,.inl h.AV.size⟩
  ·obtain ⟨k1,k2⟩:=h.own b o ho
   exact ⟨by rw [Bq]; omega,k2⟩
 ·intro p b hu
  have Ag:=(h.own b _ (h.uo _ _ hu)).1
  exact (Ap _ _ (Nat.ne_of_lt Ag)).trans (h.uo p b hu)
 ·refine ⟨fun b GY=>?_,fun n hn=>?_,fun n c hn=>?_⟩
  ·rw [Bq] at GY
   exact (Ap _ _ oM).trans (h.fresh.1 b oM)
  ·simp only [FG] at hn
   exact (Ap _ _ oM).trans (h.fresh.2.1 n oM)
  ·simp only [FG] at hn
   exact h.fresh.2.2 n c oM
 ·intro n b hx
  rw [Bq]
  simp only [Dz] at hx
  split at hx
  ·injection hx with hx; omega
  ·exact Nat.lt_succ_of_lt (h.Gg n b hx)
def T2(P:Program)(t:TypeId):Bool:=match P.underlying t with
 | some (.map k _)=>match P.underlying k with
  | some (.int .i64)=>false
  | _=>true
 | _=>true
def T3:Bool->MM
 | true => .s []
 | false => .i []
theorem Bb.XY(ob:Obj)(es:MM)(h:Bb cx s g l a w)(A9q:Sw { g with M:=Dz g.M w.heap.size (some 0),X:=Dz g.X (DN s.ext) (some w.heap.size) } (w.alloc ob) w.heap.size es) :
  Bb cx { s with ext:=put s.ext (DN s.ext) [.mm es] } { g with M:=Dz g.M w.heap.size (some 0),X:=Dz g.X (DN s.ext) (some w.heap.size) }
   { l with O:=Dz l.O w.heap.size (some (.x (DN s.ext))) } a (w.alloc ob) /\
  C0 g w { g with M:=Dz g.M w.heap.size (some 0),X:=Dz g.X (DN s.ext) (some w.heap.size) } (w.alloc ob):=by
 have hb:∀b,b<w.heap.size->(w.alloc ob).heap[b]?=w.heap[b]?:=fun b hb=>Below.heap_alloc w _ b hb
 have hX:∀n b,g.X n=some b->Dz g.X (DN s.ext) (some w.heap.size) n=some b:=fun n b hx=>by
  rw [Ap]
  ·exact hx
  ·intro e0
   rw [e0,h.fresh.2.1 _ (Nat.le_refl _)] at hx
   cases hx
 have hm:C0 g w { g with M:=Dz g.M w.heap.size (some 0),X:=Dz g.X (DN s.ext) (some w.heap.size) } (w.alloc ob):=by
  refine ⟨hX,fun b o v hc hf=>?_,Eg hb,fun _ _ _ h=>h⟩
  have Ag:=World.block_lt_of_cell? w _ hc
  refine ⟨by rw [<-hc]; exact World.cell?_of_block (hb b Ag),fun k hk=>hf k ?_⟩
  simp only at Ag
  rw [<-Ap g.M (some 0) (Nat.ne_of_lt Ag)]; exact hk
 have hU:∀ {p b},l.U p=some b->l.U p=some b/\Dz g.M w.heap.size (some 0) b=g.M b/\(w.alloc ob).heap[b]?=w.heap[b]?:=fun {p b} hu=>by
  have Ag:=(h.own b _ (h.uo _ _ hu)).1
  exact ⟨hu,Ap _ _ (Nat.ne_of_lt Ag),hb b Ag⟩
 have Bq:(w.alloc ob).heap.size=w.heap.size+1:=by simp
 refine ⟨⟨⟨h.AV.mono.trans hm,by rw [Bq]; exact Nat.le_succ_of_le h.AV.size,fun b Ag ho=>?_,h.AV.os,h.AV.tape,h.AV.output,h.AV.JH.mono hm⟩,h.size,h.defers,?_,?_,?_,?_,?_,?_,?_⟩,hm⟩
 ·obtain ⟨h1,h2⟩:=h.AV.frame b Ag ho
  have CE:=Nat.lt_of_lt_of_le Ag h.AV.size
  exact ⟨(hb b CE).trans h1,(Ap g.M (some 0) (Nat.ne_of_lt CE)).trans h2⟩
 ·intro t lv ht
  exact (h.tm t lv ht).BN hm (fun _ _ _=>rfl) fun b hu=>hU hu
 ·intro k cs hk
  obtain ⟨b,h1,h2,h3,cur',e',h4,h5,h6⟩:=h.bx k cs hk
  have Ag:=(h.own b _ h2).1
  refine ⟨b,h1,(Ap _ _ (Nat.ne_of_lt Ag)).trans h2,(Ap _ _ (Nat.ne_of_lt Ag)).trans h3,cur',e',(hb b Ag).trans h4,h5,fun j hj=>⟨(h6 j hj).1,(h6 j hj).2.1,(h6 j hj).2.2.BN hm (fun _ _ _=>rfl) fun b hu=>hU hu⟩⟩
 ·intro k Ki hk
  simp only [Be] at hk
  split at hk
  ·rename_i ek
   subst ek
   injection hk with hk
   subst hk
   exact ⟨w.heap.size,Bt _ _ _,Bt _ _ _,.inr (.inl ⟨es,rfl,A9q⟩)⟩
  ·obtain ⟨b,h1,h2,hE⟩:=h.ex k Ki hk
   have Ag:=(h.own b _ h2).1
   refine ⟨b,h1.mono hm,(Ap _ _ (Nat.ne_of_lt Ag)).trans h2,?_⟩
   rcases hE with ⟨h3,cur',e',h4,h5,h6⟩ | hE
   ·exact .inl ⟨(Ap _ _ (Nat.ne_of_lt Ag)).trans h3,cur',e',(hb b Ag).trans h4,h5,fun j hj=>⟨(h6 j hj).1,(h6 j hj).2.1,(h6 j hj).2.2.BN hm (fun _ _ _=>rfl) fun b hu=>hU hu⟩⟩
   ·exact .inr (hE.BN hm (fun _ _ _ h=>h) (Ap _ _ (Nat.ne_of_lt Ag)) (hb b Ag))
 ·intro b o ho
  simp only [Dz] at ho
  split at ho
  ·rename_i eb
   subst eb
   exact ⟨by rw [Bq]; omega,.inl h.AV.size⟩
  ·obtain ⟨k1,k2⟩:=h.own b o ho
   exact ⟨by rw [Bq]; omega,k2⟩
 ·intro p b hu
  have Ag:=(h.own b _ (h.uo _ _ hu)).1
  exact (Ap _ _ (Nat.ne_of_lt Ag)).trans (h.uo p b hu)
 ·refine ⟨fun b GY=>?_,fun n hn=>?_,fun n c hn=>?_⟩
  ·rw [Bq] at GY
   exact (Ap _ _ oM).trans (h.fresh.1 b oM)
  ·simp only [FG] at hn
   exact (Ap _ _ oM).trans (h.fresh.2.1 n oM)
  ·simp only [FG] at hn
   exact h.fresh.2.2 n c oM
 ·intro n b hx
  rw [Bq]
  simp only [Dz] at hx
  split at hx
  ·injection hx with hx; omega
  ·exact Nat.lt_succ_of_lt (h.Gg n b hx)
theorem Bb.XZ(q:Bool)(h:Bb cx s g l a w) :
  Bb cx { s with ext:=put s.ext (DN s.ext) [.mm (T3 q)] } { g with M:=Dz g.M w.heap.size (some 0),X:=Dz g.X (DN s.ext) (some w.heap.size) }
   { l with O:=Dz l.O w.heap.size (some (.x (DN s.ext))) } a (w.alloc (.map #[] 0)) /\
  C0 g w { g with M:=Dz g.M w.heap.size (some 0),X:=Dz g.X (DN s.ext) (some w.heap.size) } (w.alloc (.map #[] 0)):=by
 refine h.XY (.map #[] 0) (T3 q) ?_
 cases q <;> exact ⟨Bt _ _ _,#[],0,heap_alloc_new w _,MapKept.stamped_empty 0,rfl,fun j hj=>by simp at hj⟩
theorem Bb.kP(h:Bb cx s g l a w){i bm since last:Nat}(hX:g.X i=some bm)(hi:i<DN s.ext) :
  Bb cx { s with ext:=put s.ext (DN s.ext) [.mm (.it i)] } { g with M:=Dz g.M w.heap.size (some 0),X:=Dz g.X (DN s.ext) (some w.heap.size) }
   { l with O:=Dz l.O w.heap.size (some (.x (DN s.ext))) } a (w.alloc (.mapIter (some bm) since #[] last)) /\
  C0 g w { g with M:=Dz g.M w.heap.size (some 0),X:=Dz g.X (DN s.ext) (some w.heap.size) } (w.alloc (.mapIter (some bm) since #[] last)):=
 h.XY (.mapIter (some bm) since #[] last) (.it i) ⟨Bt _ _ _,bm,since,last,(Ap _ _ (Nat.ne_of_lt hi)).trans hX,heap_alloc_new w _⟩
theorem MN{z:Array Value}{n:Nat}{u:Value}(h:u∈(Builtin.zeroCells z n).toList):u∈z.toList:=by
 simp only [Builtin.zeroCells,Array.toList_map,List.mem_map] at h
 obtain ⟨k,hk,rfl⟩:=h
 have QN:k<n * z.size:=by simpa using hk
 have Hi:0<z.size:=by
  rcases Nat.eq_zero_or_pos z.size with h0 | h0
  ·rw [h0] at QN; simp at QN
  ·exact h0
 have:=Nat.mod_lt k Hi
 simp [this]
end
def Jp(g:Gh)(l:LG)(w:World)(e':Ext)(g':Gh)(l':LG)(w':World):Prop:=
 So e' g' l' w'/\C0 g w g' w'/\w.heap.size<=w'.heap.size/\(∀b,b<w.heap.size->l.O b=none->w'.heap[b]?=w.heap[b]?/\g'.M b=g.M b) /\
  (∀b o,l'.O b=some o->w.heap.size<=b∨(l.O b).isSome=true)/\w'.os=w.os/\w'.tape=w.tape/\w'.output=w.output
inductive PM where
 | ret
 | pan (p:PV)
 | gF
def Y0(g:Gh)(w:World):PM->FrameMode->Prop
 | .ret,u=>u = .returning
 | .pan p,u=>∃v,u = .panicking [{ v,recovered:=false }]/\BJ g w p v
 | .gF,u=>∃v,u = .panicking [{ v,recovered:=true }]
def Eb(P:Program)(f:FuncId)(args:List PV)(e:Ext)(m:PM)(R:PM->Ext->Prop):Prop:=
 ∀vs g l w u,AG g w args vs->So e g l w->Y0 g w m u->CallsD P f vs.toArray u w fun en u' w'=>∃v m' e' g' l',en = .returned v/\R m' e'/\Y0 g' w' m' u'/\Jp g l w e' g' l' w'
section
variable {P:Program} {cx:Cx} {s t:S} {g:Gh} {l:LG} {a:Act} {w:World}
theorem Bb.after{n:Nat}{ds:List Deferred}{s':S}{g':Gh}{l':LG}{a':Act}{w':World}(sm:Bb ⟨n,ds,g,w,fun b=>(l.O b).isSome=true⟩ s' g' l' a' w'):Jp g l w s'.ext g' (lx l') w':=by
 refine ⟨sm.pZ,sm.AV.mono,sm.AV.size,fun b Ag ho=>sm.AV.frame b Ag (by show ¬(l.O b).isSome=true; rw [ho]; simp),fun b o' ho=>?_,sm.AV.os,sm.AV.tape,sm.AV.output⟩
 have:∃o2,l'.O b=some o2:=by
  simp only [lx] at ho
  split at ho
  ·rename_i XM; exact ⟨_,XM⟩
  ·rename_i XM; exact ⟨_,XM⟩
  ·cases ho
 obtain ⟨o2,eR⟩:=this
 exact (sm.own b o2 eR).2
theorem Bb.enter{n:Nat}{ps:List PV}{e:Ext}{vs:List Value}(ha:AG g w ps vs)(he:So e g l w)(hn:ps.length<=n) :
  Bb ⟨n,[],g,w,fun b=>(l.O b).isSome=true⟩ (Fv ps e) g l { tmps:=vs.toArray++Array.replicate (n - vs.toArray.size) undef,defers:=[] } w:=by
 have hl:=ha.1
 refine ⟨⟨C0.refl g w,Nat.le_refl _,fun _ _ _=>⟨rfl,rfl⟩,rfl,rfl,rfl,he.JH⟩,?_,rfl,?_,?_,he.ex,?_,he.uo,he.fresh,he.Gg⟩
 ·simp
  omega
 ·intro t lv ht
  obtain ⟨j,p,rfl,hj,rfl⟩:=Q3 ht
  have Ag:=(List.getElem?_eq_some_iff.1 hj).1
  have CE:j<vs.length:=by omega
  have:=ha.2 j Ag CE
  rw [List.getElem?_eq_getElem Ag] at hj
  injection hj with hj
  rw [hj] at this
  have e1:(vs.toArray++Array.replicate (n - vs.toArray.size) undef).getD (0+j) undef=vs[j]:=by
   simp [Array.getD_eq_getD_getElem?,Array.getElem?_append,CE]
  show BJ g w p _
  rw [e1]
  exact this
 ·intro i cs hi
  simp [Fv,lk] at hi
 ·intro b o' ho
  exact ⟨he.Q1 b o' ho,.inr (by show (l.O b).isSome=true; rw [ho]; rfl)⟩
theorem Bb.defer{ds:List Deferred}(h:Bb cx s g l a w):Bb { cx with ds:=ds } s g l { a with defers:=ds } w where
 AV:=⟨h.AV.mono,h.AV.size,h.AV.frame,h.AV.os,h.AV.tape,h.AV.output,h.AV.JH⟩
 size:=h.size
 defers:=rfl
 tm:=h.tm
 bx:=h.bx
 ex:=h.ex
 own:=h.own
 uo:=h.uo
 fresh:=h.fresh
 Gg:=h.Gg
theorem Bb.A0r{ds:List Deferred}(h:Bb cx s g l a w)(hd:a.defers=ds):Bb ⟨cx.n,ds,g,w,fun b=>(l.O b).isSome=true⟩ s g l a w where
 AV:=⟨C0.refl g w,Nat.le_refl _,fun _ _ _=>⟨rfl,rfl⟩,rfl,rfl,rfl,h.AV.JH⟩
 size:=h.size
 defers:=hd
 tm:=h.tm
 bx:=h.bx
 ex:=h.ex
 own:=fun b o ho=>⟨(h.own b o ho).1,.inr (by show (l.O b).isSome=true; rw [ho]; rfl)⟩
 uo:=h.uo
 fresh:=h.fresh
 Gg:=h.Gg
theorem Bb.Y1{n:Nat}{ds:List Deferred}{s':S}{g':Gh}{l':LG}{a':Act}{w':World}(h:Bb cx s g l a w)(h':Bb ⟨n,ds,g,w,fun b=>(l.O b).isSome=true⟩ s' g' l' a' w') :
  Bb ⟨n,ds,cx.g0,cx.w0,cx.VG⟩ s' g' l' a' w' where
 AV:=⟨h.AV.mono.trans h'.AV.mono,Nat.le_trans h.AV.size h'.AV.size,fun b Ag ho=>by
  obtain ⟨k1,k2⟩:=h.AV.frame b Ag ho
  have hn:¬(l.O b).isSome=true:=fun hs=>by
   obtain ⟨o,Mi⟩:=Option.isSome_iff_exists.1 hs
   have CE:b<cx.w0.heap.size:=Ag
   rcases (h.own b o Mi).2 with hc | hc
   ·omega
   ·exact ho hc
  obtain ⟨k3,k4⟩:=h'.AV.frame b (Nat.lt_of_lt_of_le Ag h.AV.size) hn
  exact ⟨k3.trans k1,k4.trans k2⟩,h'.AV.os.trans h.AV.os,h'.AV.tape.trans h.AV.tape,h'.AV.output.trans h.AV.output,h'.AV.JH⟩
 size:=h'.size
 defers:=h'.defers
 tm:=h'.tm
 bx:=h'.bx
 ex:=h'.ex
 own:=fun b o ho=>by
  obtain ⟨k1,k2⟩:=h'.own b o ho
  refine ⟨k1,?_⟩
  rcases k2 with hc | hc
  ·exact .inl (Nat.le_trans h.AV.size hc)
  ·obtain ⟨o',Mi⟩:=Option.isSome_iff_exists.1 hc
   exact (h.own b o' Mi).2
 uo:=h'.uo
 fresh:=h'.fresh
 Gg:=h'.Gg
def qE(P:Program)(rs:List ResultVar)(R:Cr->Ext->Prop)(EK:FuncId)(kS:List PV):A5->S->Prop
 | .exit _,_=>False
 | .panic p,s=>Eb P EK kS s.ext (.pan p) fun m e'=>m = .gF/\∃q,F9 P { s with ext:=e' } rs=some q/\R (.ret q) e'
 | _,s=>Eb P EK kS s.ext .ret fun m e'=>m = .ret/\∃q,F9 P { s with ext:=e' } rs=some q/\R (.ret q) e'
theorem C3.qF{f:FuncId}{fn:Func}{r0 y:Code}{id:Nat}{mk df:Oper}{t:Nat}{ts:Array TypeId}{ps:List PV}{e:Ext}{R:Cr->Ext->Prop}(ro:TypeId->Option Bool)(hf:P.funcs[f]?=some fn)
  (hb:fn.body=some (.seq r0 (.seq (.region id #[mk,df] false) y))) (hn:ps.length<=fn.ntmps) (qG:df.op = .defer ⟨.value (.tmp t),#[],ts⟩) (hgm:mk.guard=none) (hgd:df.guard=none) (FA:df.dst=none)
  (h:∀cx:Cx,cx.n=fn.ntmps->cx.ds=[]->PW P cx r0 (Fv ps e) fun pe s=>pe = .normal/\(act P ro fn.ntmps [mk,df] mk).wp s fun wr=>∃EK first cap,lk (s.HY wr).tmps t=some (.v (.fn (.func EK) first cap))/\Fu P EK=true /\
   ∀Y2:Cx,Y2.n=fn.ntmps->PW P Y2 y (s.HY wr) (qE P fn.results.toList R EK (first++cap))):C3 P f ps e R:=by
 intro vs g l w ha he
 refine calls_of_wp_defers hf hb ?_
 have hs:=Bb.enter (n:=fn.ntmps) ha he hn
 refine wp_seq (wp_mono (h _ rfl rfl g l _ w hs) ?_)
 rintro ex a1 w1 ⟨pe,s1,g1,l1,⟨rfl,hw⟩,er,sm1⟩
 cases ex <;> first | exact er.elim | skip
 refine wp_seq ?_
 refine wp_region_lit (l:=[mk,df]) ?_
 refine wpList_plain hgm fun K hK=>?_
 refine Cz ?_ (FO sm1 hw _)
 rintro a2 w2 ⟨wr,g2,l2,⟨EK,first,cap,g9,Lz,hY⟩,gG⟩
 refine hK _ _ ?_
 refine wpList_plain hgd fun K hK=>?_
 have hv:=gG.tm t _ g9
 have hex:∀fv cv,a2.eval (.tmp t) = .func (.func EK) fv cv->(execOp a2.eval df).run P w2 = .ok (.defer { target := .fn (.func EK) cv,args:=fv ++ #[] }) w2:=by
  intro fv cv jV
  simp only [execOp,qG,resolve,jV,Deferred.ofValue,Sem.run_bind,Sem.run_pure,Result.andThen_ok,List.map_toArray,List.map_nil]
 have hv':BJ g2 w2 (.fn (.func EK) first cap) (a2.eval (.tmp t)):=hv
 generalize a2.eval (.tmp t)=vf at hv' hex
 cases hv' with
 | fn _ _ _ fv cv l1' l2' r3 r4=>
  unfold Oper.wp
  rw [hex _ _ rfl,Oper.upon_defer,FA]
  refine hK _ _ ?_
  refine wpList_nil ?_
  have hd0:a2.defers=[]:=gG.defers
  rw [hd0]
  have sm3:=gG.defer (ds:=[{ target := .fn (.func EK) cv.toArray,args:=fv.toArray ++ #[] }])
  show (Code.wp P y _ _ _)
  refine wp_mono (hY _ rfl g2 l2 _ w2 (sm3.A0r rfl)) ?_
  rintro ex a4 w4 ⟨pe,s4,g4,l4,hq,er,Y3⟩
  have hd4:a4.defers=[{ target := .fn (.func EK) cv.toArray,args:=fv.toArray ++ #[] }]:=Y3.defers
  have IM:(fv.toArray ++ #[])++cv.toArray=(fv++cv).toArray:=by apply Array.ext'; simp
  have hinv:(invoke (.fn (.func EK) cv.toArray) (fv.toArray ++ #[])).run P w4 = .ok (.enter EK (fv++cv).toArray) w4:=by
   simp only [invoke,IM,Es Lz]
  have Bw:AG g4 w4 (first++cap) (fv++cv):=(AG.app ⟨l1',r3⟩ ⟨l2',r4⟩).mono Y3.AV.mono
  have fin:∀ {e':Ext} {g5:Gh} {l5:LG} {w5:World} {q:PV},Jp g4 (lx l4) w4 e' g5 l5 w5->F9 P { s4 with ext:=e' } fn.results.toList=some q->R (.ret q) e' ->
    ∃v,(results fn a4.tmps).run P w5 = .ok v w5/\∃res e' g' l',R res e'/\OO g' l' (fun b=>w.heap.size<=b∨(l.O b).isSome=true) w5 res (.returned v)/\Jp g l w e' g' l' w5:=by
   intro e' g5 l5 w5 q Y4 hq hR
   obtain ⟨h1,h2,h3,h4,h5,h6,h7,h8⟩:=Y4
   have sm5:=Y3.back h1 h2 h3 h4 h5 h6 h7 h8
   have sm6:=gG.Y1 sm5
   obtain ⟨v,v1,v2⟩:=I0 sm6 hq
   exact ⟨v,v1,.ret q,e',g5,_,hR,v2,sm6.after⟩
  have norm:Eb P EK (first++cap) s4.ext .ret (fun m e'=>m = .ret/\∃q,F9 P { s4 with ext:=e' } fn.results.toList=some q/\R (.ret q) e')->Leaves P fn a4.tmps (fun en w'=>∃res e' g' l',R res e'/\OO g' l' (fun b=>w.heap.size<=b∨(l.O b).isSome=true) w' res en/\Jp g l w e' g' l' w') a4.defers .returning w4:=by
   intro hC
   rw [hd4]
   refine leaves_cons sM hinv ((hC _ g4 (lx l4) w4 .returning Bw Y3.pZ rfl).mono ?_)
   rintro en u' w5 ⟨v,m',e',g5,l5,rfl,⟨rfl,q,hq,hR⟩,hpm,Y4⟩
   have hu:u' = .returning:=hpm
   subst hu
   exact fin Y4 hq hR
  cases pe with
  | normal=>
   cases ex <;> first | exact er.elim | skip
   exact norm hq
  | ret=>
   cases ex <;> first | exact er.elim | skip
   exact norm hq
  | exit _=>exact hq.elim
  | panic p=>
   cases ex <;> first | exact er.elim | skip
   obtain ⟨v,rfl,hv⟩:=er
   show Leaves P fn a4.tmps _ a4.defers _ w4
   rw [hd4]
   refine leaves_cons sM hinv ((hq _ g4 (lx l4) w4 _ Bw Y3.pZ ⟨v,rfl,hv⟩).mono ?_)
   rintro en u' w5 ⟨v,m',e',g5,l5,rfl,⟨rfl,q,hq,hR⟩,⟨v',hu⟩,Y4⟩
   subst hu
   exact fin Y4 hq hR
def Wa:List Code->Code->Code
 | [],c=>c
 | x::r,c => .seq x (Wa r c)
def PWs(P:Program)(cx:Cx):List Code->S->(S->Prop)->Prop
 | [],s,K=>K s
 | x::r,s,K=>PW P cx x s fun pe s'=>pe = .normal/\PWs P cx r s' K
theorem Y5{rest:Code}{Qc:Exit->Act->World->Prop}{cx:Cx}{K:S->Prop}:∀ {xs:List Code} {s:S},PWs P cx xs s K->(∀s' g l a w,K s'->Bb cx s' g l a w->rest.wp P Qc a w)->∀g l a w,Bb cx s g l a w->(Wa xs rest).wp P Qc a w
 | [],s,h,hr=>fun g l a w hs=>hr s g l a w h hs
 | x::r,s,h,hr=>fun g l a w hs=>by
  refine wp_seq (wp_mono (h g l a w hs) ?_)
  rintro ex a1 w1 ⟨pe,s1,g1,l1,⟨rfl,hw⟩,er,sm1⟩
  cases ex <;> first | exact er.elim | skip
  exact Y5 hw hr g1 l1 a1 w1 sm1
theorem C3.gH{f:FuncId}{fn:Func}{r0:List Code}{y:Code}{id:Nat}{mk df:Oper}{t:Nat}{ts:Array TypeId}{ps:List PV}{e:Ext}{R:Cr->Ext->Prop}(ro:TypeId->Option Bool)(hf:P.funcs[f]?=some fn)
  (hb:fn.body=some (Wa r0 (.seq (.region id #[mk,df] false) y))) (hn:ps.length<=fn.ntmps) (qG:df.op = .defer ⟨.value (.tmp t),#[],ts⟩) (hgm:mk.guard=none) (hgd:df.guard=none) (FA:df.dst=none)
  (h:∀cx:Cx,cx.n=fn.ntmps->cx.ds=[]->PWs P cx r0 (Fv ps e) fun s=>(act P ro fn.ntmps [mk,df] mk).wp s fun wr=>∃EK first cap,lk (s.HY wr).tmps t=some (.v (.fn (.func EK) first cap))/\Fu P EK=true /\
   ∀Y2:Cx,Y2.n=fn.ntmps->PW P Y2 y (s.HY wr) (qE P fn.results.toList R EK (first++cap))):C3 P f ps e R:=by
 intro vs g l w ha he
 refine calls_of_wp_defers hf hb ?_
 have hs:=Bb.enter (n:=fn.ntmps) ha he hn
 refine Y5 (h _ rfl rfl) (fun s1 g1 l1 a1 w1 hw sm1=>?_) g l _ w hs
 refine wp_seq ?_
 refine wp_region_lit (l:=[mk,df]) ?_
 refine wpList_plain hgm fun K hK=>?_
 refine Cz ?_ (FO sm1 hw _)
 rintro a2 w2 ⟨wr,g2,l2,⟨EK,first,cap,g9,Lz,hY⟩,gG⟩
 refine hK _ _ ?_
 refine wpList_plain hgd fun K hK=>?_
 have hv:=gG.tm t _ g9
 have hex:∀fv cv,a2.eval (.tmp t) = .func (.func EK) fv cv->(execOp a2.eval df).run P w2 = .ok (.defer { target := .fn (.func EK) cv,args:=fv ++ #[] }) w2:=by
  intro fv cv jV
  simp only [execOp,qG,resolve,jV,Deferred.ofValue,Sem.run_bind,Sem.run_pure,Result.andThen_ok,List.map_toArray,List.map_nil]
 have hv':BJ g2 w2 (.fn (.func EK) first cap) (a2.eval (.tmp t)):=hv
 generalize a2.eval (.tmp t)=vf at hv' hex
 cases hv' with
 | fn _ _ _ fv cv l1' l2' r3 r4=>
  unfold Oper.wp
  rw [hex _ _ rfl,Oper.upon_defer,FA]
  refine hK _ _ ?_
  refine wpList_nil ?_
  have hd0:a2.defers=[]:=gG.defers
  rw [hd0]
  have sm3:=gG.defer (ds:=[{ target := .fn (.func EK) cv.toArray,args:=fv.toArray ++ #[] }])
  show (Code.wp P y _ _ _)
  refine wp_mono (hY _ rfl g2 l2 _ w2 (sm3.A0r rfl)) ?_
  rintro ex a4 w4 ⟨pe,s4,g4,l4,hq,er,Y3⟩
  have hd4:a4.defers=[{ target := .fn (.func EK) cv.toArray,args:=fv.toArray ++ #[] }]:=Y3.defers
  have IM:(fv.toArray ++ #[])++cv.toArray=(fv++cv).toArray:=by apply Array.ext'; simp
  have hinv:(invoke (.fn (.func EK) cv.toArray) (fv.toArray ++ #[])).run P w4 = .ok (.enter EK (fv++cv).toArray) w4:=by
   simp only [invoke,IM,Es Lz]
  have Bw:AG g4 w4 (first++cap) (fv++cv):=(AG.app ⟨l1',r3⟩ ⟨l2',r4⟩).mono Y3.AV.mono
  have fin:∀ {e':Ext} {g5:Gh} {l5:LG} {w5:World} {q:PV},Jp g4 (lx l4) w4 e' g5 l5 w5->F9 P { s4 with ext:=e' } fn.results.toList=some q->R (.ret q) e' ->
    ∃v,(results fn a4.tmps).run P w5 = .ok v w5/\∃res e' g' l',R res e'/\OO g' l' (fun b=>w.heap.size<=b∨(l.O b).isSome=true) w5 res (.returned v)/\Jp g l w e' g' l' w5:=by
   intro e' g5 l5 w5 q Y4 hq hR
   obtain ⟨h1,h2,h3,h4,h5,h6,h7,h8⟩:=Y4
   have sm5:=Y3.back h1 h2 h3 h4 h5 h6 h7 h8
   have sm6:=gG.Y1 sm5
   obtain ⟨v,v1,v2⟩:=I0 sm6 hq
   exact ⟨v,v1,.ret q,e',g5,_,hR,v2,sm6.after⟩
  have norm:Eb P EK (first++cap) s4.ext .ret (fun m e'=>m = .ret/\∃q,F9 P { s4 with ext:=e' } fn.results.toList=some q/\R (.ret q) e')->Leaves P fn a4.tmps (fun en w'=>∃res e' g' l',R res e'/\OO g' l' (fun b=>w.heap.size<=b∨(l.O b).isSome=true) w' res en/\Jp g l w e' g' l' w') a4.defers .returning w4:=by
   intro hC
   rw [hd4]
   refine leaves_cons sM hinv ((hC _ g4 (lx l4) w4 .returning Bw Y3.pZ rfl).mono ?_)
   rintro en u' w5 ⟨v,m',e',g5,l5,rfl,⟨rfl,q,hq,hR⟩,hpm,Y4⟩
   have hu:u' = .returning:=hpm
   subst hu
   exact fin Y4 hq hR
  cases pe with
  | normal=>
   cases ex <;> first | exact er.elim | skip
   exact norm hq
  | ret=>
   cases ex <;> first | exact er.elim | skip
   exact norm hq
  | exit _=>exact hq.elim
  | panic p=>
   cases ex <;> first | exact er.elim | skip
   obtain ⟨v,rfl,hv⟩:=er
   show Leaves P fn a4.tmps _ a4.defers _ w4
   rw [hd4]
   refine leaves_cons sM hinv ((hq _ g4 (lx l4) w4 _ Bw Y3.pZ ⟨v,rfl,hv⟩).mono ?_)
   rintro en u' w5 ⟨v,m',e',g5,l5,rfl,⟨rfl,q,hq,hR⟩,⟨v',hu⟩,Y4⟩
   subst hu
   exact fin Y4 hq hR
theorem Eb.enter{f:FuncId}{fn:Func}{id:Nat}{o0 o1:Oper}{y:Code}{t0 t1:Nat}{ts:Array TypeId}{ps:List PV}{e:Ext}{m:PM}{R:PM->Ext->Prop}(hf:P.funcs[f]?=some fn)
  (hb:fn.body=some (.seq (.region id #[o0,o1] false) y)) (hn:ps.length<=fn.ntmps) (h0:o0.op = .call ⟨.builtin .recover,#[],ts⟩) (hg0:o0.guard=none) (hd0:o0.dst=some t0) (h1:o1.op = .assign (.tmp t0)) (hg1:o1.guard=none) (hd1:o1.dst=some t1)
  (WM:t0<fn.ntmps) (M4:t1<fn.ntmps) (p:PV) (m':PM) (hm:(m = .ret/\p = .Fz/\m' = .ret)∨(m = .pan p/\m' = .gF))
  (h:∀cx:Cx,cx.n=fn.ntmps->cx.ds=[]->PW P cx y ⟨put (put (Ri 0 ps) t0 (.v p)) t1 (.v p),[],e⟩ fun pe s=>(pe = .normal∨pe = .ret)/\(∃q,F9 P s fn.results.toList=some q)/\R m' s.ext):Eb P f ps e m R:=by
 intro vs g l w u ha he hu
 refine callsD_of_wpS hf hb fun c₀ cs Y6=>?_
 have hs:=Bb.enter (n:=fn.ntmps) ha he hn
 obtain ⟨v,u',hv,hpm,qH⟩:∃v u',BJ g w p v/\(∀g' w',Y0 g' w' m' u')/\((recoverD (c₀::cs)=none/\v = .nilIface/\u'=u)∨recoverD (c₀::cs)=some (v,{ c₀ with mode:=u' }::cs)):=by
  rcases hm with ⟨rfl,rfl,rfl⟩ | ⟨rfl,rfl⟩
  ·have Xq:u = .returning:=hu
   subst Xq
   exact ⟨.nilIface,.returning,.Fz,fun _ _=>rfl,.inl ⟨by simp [recoverD,Y6],rfl,rfl⟩⟩
  ·obtain ⟨v,rfl,hv⟩:=hu
   exact ⟨v,.panicking [{ v,recovered:=true }],hv,fun _ _=>⟨v,rfl⟩,.inr (by simp [recoverD,Y6])⟩
 have CS:({ c₀ with mode:=u }:Frame)=c₀:=by rw [<-Y6]
 refine wpS_seq (wpS_region ?_)
 have Sm:∀ (a:Act) (w:World),(execOp a.eval o0).run P w = .ok .recover w:=fun a w=>by simp [execOp,h0,resolve,invoke,builtin]
 have hr1:∀ (a:Act) (w:World),(execOp a.eval o1).run P w = .ok (.value (a.eval (.tmp t0))) w:=fun a w=>by simp [execOp,h1]
 have s1:=hs.set (d:=t0) (lv := .v p) (v:=v) WM hv
 have ev0:(Act.put { tmps:=vs.toArray++Array.replicate (fn.ntmps - vs.toArray.size) undef,defers:=[] } (some t0) v).eval (.tmp t0)=v:=by
  have:=s1.size
  show (Act.put _ (some t0) v).tmps.getD t0 undef=v
  rw [eval_put _ t0 t0 v (by rw [hs.size]; exact WM)]
  simp
 have s2:=s1.set (d:=t1) (lv := .v p) (v:=v) M4 hv
 have fin:y.wpS P (bodyPostS P fn c₀ cs fun en u' w'=>∃v m' e' g' l',en = .returned v/\R m' e'/\Y0 g' w' m' u'/\Jp g l w e' g' l' w')
   ((Act.put { tmps:=vs.toArray++Array.replicate (fn.ntmps - vs.toArray.size) undef,defers:=[] } (some t0) v).put (some t1) v) ({ c₀ with mode:=u' }::cs) w:=by
  refine wpS_of_wp (wp_mono (h _ rfl rfl g l _ w s2) ?_)
  rintro ex a' w' ⟨pe,s',g',l',⟨hpe,⟨q,hq⟩,hR⟩,er,sm⟩
  obtain ⟨v',v1,v2⟩:=I0 sm hq
  have key:a'.defers=[]/\∃u'',({ c₀ with mode:=u' }::cs:List Frame)={ c₀ with mode:=u'' }::cs/\∃v,(results fn a'.tmps).run P w' = .ok v w'/\∃v0 m' e' g' l',(Ending.returned v) = .returned v0/\R m' e'/\Y0 g' w' m' u''/\Jp g l w e' g' l' w':=
   ⟨sm.defers,u',rfl,v',v1,v',m',s'.ext,g',lx l',rfl,hR,hpm _ _,sm.after⟩
  rcases hpe with rfl | rfl
  ·cases ex <;> first | exact er.elim | exact key
  ·cases ex <;> first | exact er.elim | exact key
 have hw0:Region.wanted o0=fun _=>true:=by funext y; simp [Region.wanted,hg0]
 have kT:Region.wanted o1=fun _=>true:=by funext y; simp [Region.wanted,hg1]
 have qI:List.range (#[o0,o1]:Array Oper).size=[0,1]:=rfl
 rw [qI]
 have e0:(#[o0,o1]:Array Oper)[0]?=some o0:=rfl
 have e1:(#[o0,o1]:Array Oper)[1]?=some o1:=rfl
 rcases qH with ⟨kU,rfl,rfl⟩ | kU
 ·rw [CS] at fin
  simp only [wpOpsS,e0,e1,hw0,kT,if_true,Sm,hr1,kU,Oper.upon_value,hd0,hd1,Exit.thenS]
  rw [ev0]
  exact fin
 ·simp only [wpOpsS,e0,e1,hw0,kT,if_true,Sm,hr1,kU,Oper.upon_value,hd0,hd1,Exit.thenS]
  rw [ev0]
  exact fin
end
end Go.Pv
