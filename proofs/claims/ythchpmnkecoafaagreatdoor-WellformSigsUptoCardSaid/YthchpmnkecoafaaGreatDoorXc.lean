/- Values of Go as plain data, an evaluator over them, and what the functions of the program return; part Xc. -/
import Derived.Test.YthchpmnkecoafaaGreatDoorXb
import Derived.Laws.StructEq
import Derived.Orders
import Derived.Recover
set_option linter.unusedVariables false
set_option linter.unusedSimpArgs false
set_option linter.unusedSectionVars false
namespace Go.Pv
open Go.RowKit
section
variable {P:Program} {cx:Cx} {s t:S} {g:Gh} {l:LG} {a:Act} {w:World} {o:Oper}
def WD:Bool->Int->Int->Int
 | true,i,j=>if j>i then j else i
 | false,i,j=>if j<i then j else i
def Yq(n:Nat)(o:Oper)(PD:Bool)(x y:Operand):RM (List Wr):=FL x fun p=>FL y fun q=>match p,q with
 | .int k i,.int _ j=>wv n o (.v (.int k (WD PD i j)))
 | _,_ => .fail
theorem Mj{PD:Bool}{x y:Operand}{K:List Wr->Prop}(ho:(PD=false/\∃ts,o.op = .call ⟨.builtin .min,⟨[x,y]⟩,ts⟩)∨(PD=true/\∃ts,o.op = .call ⟨.builtin .max,⟨[x,y]⟩,ts⟩))(h:B4 cx s g l a w)(hw:(Yq cx.n o PD x y).wp s K):B5 P cx s o K a w:=by
 obtain ⟨p,h1,r1⟩:=AH h hw
 obtain ⟨q,h2,r2⟩:=AH h h1
 split at h2
 ·rename_i k i k' j
  refine B5.pure h h2 (.int _ _) ?_
  have e1:a.eval x = .int k i:=by generalize a.eval x=v at r1; cases r1; rfl
  have e2:a.eval y = .int k' j:=by generalize a.eval y=v at r2; cases r2; rfl
  rcases ho with ⟨rfl,ts,ho⟩ | ⟨rfl,ts,ho⟩
  ·simp [execOp,ho,resolve,invoke,builtin,e1,e2,Builtin.min_,Builtin.min2,WD]
  ·simp [execOp,ho,resolve,invoke,builtin,e1,e2,Builtin.max_,Builtin.max2,WD]
 ·exact h2.elim
def mxL(PD:Bool):Int->List PV->Option Int
 | i,[]=>some i
 | i,.int _ j::r=>mxL PD (WD PD i j) r
 | _,_=>none
theorem Yr{PD:Bool}{k:IntKind}:∀ {r:List PV} {i m:Int} {vs:List Value},mxL PD i r=some m->AG g w r vs->(vs.foldlM (fun x y=>if PD=true then Builtin.max2 x y else Builtin.min2 x y) (.int k i)).run P w = .ok (.int k m) w
 | [],i,m,vs,h,hr=>by
  have:=hr.QB
  subst this
  simp only [mxL,Option.some.injEq] at h
  subst h
  simp
 | p::r,i,m,vs,h,hr=>by
  obtain ⟨v,kF,rfl,h1,h2⟩:=hr.Hg
  cases p with
  | int k' j=>
   cases h1
   simp only [mxL] at h
   have ih:=Yr (k:=k) h h2
   have e:(if PD=true then Builtin.max2 (.int k i) (.int k' j) else Builtin.min2 (.int k i) (.int k' j))=pure (Value.int k (WD PD i j)):=by
    cases PD <;> rfl
   rw [List.foldlM_cons,e]
   simp only [Sem.run_bind,Sem.run_pure,Result.andThen_ok]
   exact ih
  | _=>simp [mxL] at h
def Ys(n:Nat)(o:Oper)(PD:Bool)(xs:List Operand):RM (List Wr):=oG xs fun ps=>match ps with
 | .int k i::r=>match mxL PD i r with
  | some m=>wv n o (.v (.int k m))
  | none => .fail
 | _ => .fail
theorem Mk{PD:Bool}{xs:List Operand}{K:List Wr->Prop}(ho:(PD=false/\∃ts,o.op = .call ⟨.builtin .min,⟨xs⟩,ts⟩)∨(PD=true/\∃ts,o.op = .call ⟨.builtin .max,⟨xs⟩,ts⟩))(h:B4 cx s g l a w)(hw:(Ys cx.n o PD xs).wp s K):B5 P cx s o K a w:=by
 obtain ⟨ps,h1,r1⟩:=Fp h hw
 split at h1
 ·rename_i k i r
  split at h1
  ·rename_i m hm
   refine B5.pure h h1 (.int _ _) ?_
   obtain ⟨v,vs,hv,rv,rvs⟩:=r1.Hg
   have ev:v = .int k i:=by cases rv; rfl
   subst ev
   have e:=Yr (P:=P) (k:=k) hm rvs
   rcases ho with ⟨rfl,ts,ho⟩ | ⟨rfl,ts,ho⟩
   ·simp only [Bool.false_eq_true,if_false] at e
    simp [execOp,ho,resolve,invoke,builtin,Builtin.min_,hv,e]
   ·simp only [if_true] at e
    simp [execOp,ho,resolve,invoke,builtin,Builtin.max_,hv,e]
  ·exact h1.elim
 ·exact h1.elim
def Afc(P:Program)(t:TypeId):Bool:=match P.underlying t with
 | some (.struct _)=>true
 | _=>false
def eq1(P:Program)(t:TypeId)(p q:PV):Option Bool:=match P.underlying t,p,q with
 | some .bool,.bool a,.bool b=>some (a==b)
 | some (.int _),.int k a,.int k' b=>if k=k' then some (a==b) else none
 | some .string,.str a,.str b=>some (a.toList==b.toList)
 | _,_,_=>none
theorem kX{t:TypeId}{p q:PV}{b:Bool}{u v:Value}(h:eq1 P t p q=some b)(r1:BN g w p u)(r2:BN g w q v)(d:Nat):(Op.equalIn (d+1) t u v).run P w = .ok b w:=by
 unfold eq1 at h
 split at h
 ·rename_i hu; injection h with h; subst h; cases r1; cases r2; exact run_equalIn_bool' w d t _ _ hu
 ·rename_i hu
  split at h
  ·rename_i hk; subst hk; injection h with h; subst h; cases r1; cases r2; exact run_equalIn_int w d t _ _ _ _ hu
  ·cases h
 ·rename_i hu; injection h with h; subst h; cases r1; cases r2; exact run_equalIn_string w d t _ _ hu
 ·cases h
def WE(P:Program)(xs ys:List PV):List Field->Option Bool
 | []=>some true
 | f::fs=>if f.name ≠ "_" then (match P8 P f.type xs f.offset,P8 P f.type ys f.offset with
   | some p,some q=>match eq1 P f.type p q,WE P xs ys fs with
    | some b,some r=>some (b&&r)
    | _,_=>none
   | _,_=>none) else WE P xs ys fs
theorem NT{xs ys:List PV}{vx vy:List Value}(hx:AG g w xs vx)(ox:∀v∈vx,v.oneCell'=true)(hy:AG g w ys vy)(oy:∀v∈vy,v.oneCell'=true)(d:Nat):∀ {fs:List Field} {b:Bool},WE P xs ys fs=some b->(Op.eqFields (d+1) vx.toArray vy.toArray fs).run P w = .ok b w
 | [],b,h=>by
  simp only [WE,Option.some.injEq] at h
  subst h
  simp [Op.eqFields]
 | f::fs,b,h=>by
  simp only [WE] at h
  simp only [Op.eqFields]
  split at h
  ·rename_i hn
   rw [iP hn]
   split at h
   ·rename_i p q hp hq
    obtain ⟨u,k1,k2⟩:=Hl (P:=P) hp hx ox
    obtain ⟨v,k3,k4⟩:=Hl (P:=P) hq hy oy
    split at h
    ·rename_i b1 b2 h1 h2
     injection h with h
     subst h
     have e1:=kX (P:=P) h1 k2 k4 d
     have ih:=NT hx ox hy oy d h2
     simp only [Sem.run_bind,k1,k3,e1,Result.andThen_ok]
     cases b1 with
     | false=>simp
     | true=>simpa using ih
    ·cases h
   ·cases h
  ·rename_i hn
   rw [iN hn]
   exact NT hx ox hy oy d h
def TW(P:Program)(n:Nat)(o:Oper)(op:BinOp)(ty:TypeId)(x y:Operand):RM (List Wr):=match P.underlying ty,isEq op with
 | some (.struct fs),some pos=>if (P.stoodInHeld ty||P.eqGuardType P.depth ty)=true then .fail else FL x fun p=>FL y fun q=>match p,q with
  | .agg xs,.agg ys=>match WE P xs ys fs.toList with
   | some b=>wv n o (.v (.bool (if pos then b else !b)))
   | none => .fail
  | _,_ => .fail
 | _,_ => .fail
theorem R1{op:BinOp}{ty yt:TypeId}{x y:Operand}{K:List Wr->Prop}(ho:o.op = .binOp op ty x y yt)(h:B4 cx s g l a w)(hw:(TW P cx.n o op ty x y).wp s K):B5 P cx s o K a w:=by
 unfold TW at hw
 split at hw
 ·rename_i fs pos hu Hp
  split at hw
  ·exact hw.elim
  ·rename_i hc
   simp only [Bool.or_eq_true,not_or,Bool.not_eq_true] at hc
   obtain ⟨p,h1,r1⟩:=AH h hw
   obtain ⟨q,h2,r2⟩:=AH h h1
   have hex:∀v,(eqGuard op ty x y (a.eval x) (a.eval y)).run P w = .ok () w->(binOp op ty (a.eval x) (a.eval y)).run P w = .ok v w->(execOp a.eval o).run P w = .ok (.value v) w:=by
    intro v hg hv
    simp only [execOp,ho,Sem.run_bind,hg,Result.andThen_ok,hv,Sem.run_pure]
   generalize a.eval x=vx at r1 hex
   generalize a.eval y=vy at r2 hex
   split at h2
   ·rename_i xs ys
    split at h2
    ·rename_i b hb
     cases r1 with
     | agg _ vs hl Yd hr=>
      cases r2 with
      | agg _ vs2 hl2 jR hr2=>
       refine B5.pure h h2 (.bool _) (hex _ (run_eqGuard_agg w op ty x y _ _ hc.2) ?_)
       have hf:P.fieldsOf ty=fs:=by simp only [Program.fieldsOf,hu]
       have e1:=NT (P:=P) ⟨hl,hr⟩ Yd ⟨hl2,hr2⟩ jR 9998 hb
       have e2:(Op.equalIn 10000 ty (.agg vs.toArray) (.agg vs2.toArray)).run P w = .ok b w:=by
        rw [run_equalIn_agg w 9999 ty _ _ (by rw [hf]; exact hu) hc.1,hf]
        exact e1
       cases op <;> simp only [isEq] at Hp <;> first | (cases Hp; done) | skip
       ·injection Hp with Hp; subst Hp
        rw [run_eql_struct,e2]; rfl
       ·injection Hp with Hp; subst Hp
        rw [run_neq_struct,e2]; rfl
    ·exact h2.elim
   ·exact h2.elim
 ·exact hw.elim
def act(P:Program)(ro:TypeId->Option Bool)(n:Nat)(ops:List Oper)(o:Oper):RM (List Wr):=match o.op with
 | .move x=>mv n ops o false x
 | .assign x=>mv n ops o true x
 | .pick c x y=>Nl n o c x y
 | .alloc ty=>if (ro ty).isNone=true then .fail else NF P n o ty
 | .box ty x=>Y7 ro n o ty x
 | .build ty ps=>NH P n o ty ps
 | .buildSlice ty len ps=>Y9 P n o ty len ps
 | .load ty x=>UT P n ops o ty x
 | .store ty x y=>NN P o ty x y
 | .nilCheck x=>Y2 P n o x
 | .binOp op ty x y _=>if Afc P ty=true then TW P n o op ty x y else XY P n o op ty x y
 | .unOp op _ x=>oH n o op x
 | .convert src dst x=>if (P.underlying src).isSome=true then UQ P n o dst x else .fail
 | .makeInterface ty x=>Y0 P n o ty x
 | .makeFunc fn f c=>Y1 n o fn f c
 | .fieldAddr ty x f=>Y3 P n o ty x f
 | .field ty x f=>NB P n o ty x f
 | .indexAddr ty x i=>Y5 P n o ty x i
 | .extract x i=>oK n o x i
 | .typeAssert x _ ty ok=>Y6 P n o x ty ok
 | .mapUpdate ty m k x=>V1 P o ty m k x
 | .insert ty m k x=>V1 P o ty m k x
 | .lookup ty x k ok=>Yk P n o ty x k ok
 | .next it false=>Yl n o it
 | .index ty x i=>TT P n o ty x i
 | .slice ty x lo hi none=>Yp P n o ty x lo hi
 | .call ⟨.builtin .len,⟨[x]⟩,⟨[ty]⟩⟩=>TL P n o ty x
 | .call ⟨.builtin .delete,⟨[m,k]⟩,⟨[ty,_]⟩⟩=>TS P o ty m k
 | .call ⟨.builtin .min,⟨[x,y]⟩,_⟩=>Yq n o false x y
 | .call ⟨.builtin .max,⟨[x,y]⟩,_⟩=>Yq n o true x y
 | .call ⟨.builtin .min,⟨x::y::z::r⟩,_⟩=>Ys n o false (x::y::z::r)
 | .call ⟨.builtin .max,⟨x::y::z::r⟩,_⟩=>Ys n o true (x::y::z::r)
 | .call ⟨.builtin .append,⟨[x,y]⟩,⟨[ty,kY]⟩⟩=>if ty=kY then TQ P n o ty x y else .fail
 | _ => .fail
theorem Gl{ro:TypeId->Option Bool}{ops:List Oper}{K:List Wr->Prop}(h:B4 cx s g l a w)(hw:(act P ro cx.n ops o).wp s K):B5 P cx s o K a w:=by
 unfold act at hw
 split at hw
 ·rename_i x ho; exact RT h hw (by simp [execOp,ho])
 ·rename_i x ho; exact RT h hw (by simp [execOp,ho])
 ·rename_i c x y ho; exact P9 ho h hw
 ·rename_i ty ho
  split at hw
  ·exact hw.elim
  ·exact NG ho h hw
 ·rename_i ty x ho; exact QM ho h hw
 ·rename_i ty ps ho; exact NI ho h hw
 ·rename_i ty len ps ho; exact S5 ho h hw
 ·rename_i ty x ho; exact Pa ho h hw
 ·rename_i ty x y ho; exact NO ho h hw
 ·rename_i x ho; exact QK ho h hw
 ·rename_i op ty x y yt ho
  split at hw
  ·exact R1 ho h hw
  ·exact QG ho h hw
 ·rename_i op ty x ho; exact RU ho h hw
 ·rename_i src dst x ho
  split at hw
  ·rename_i hs; exact P7 ho hs h hw
  ·exact hw.elim
 ·rename_i ty x ho; exact QH ho h hw
 ·rename_i fn f c ho; exact QI ho h hw
 ·rename_i ty x f ho; exact RY ho h hw
 ·rename_i ty x f ho; exact NC ho h hw
 ·rename_i ty x i ho; exact RZ ho h hw
 ·rename_i x i ho; exact S0 ho h hw
 ·rename_i x xt ty ok ho; exact S1 ho h hw
 ·rename_i ty m k x ho; exact Mi (.inl ho) h hw
 ·rename_i ty m k x ho; exact Mi (.inr ho) h hw
 ·rename_i ty x k ok ho; exact Sc ho h hw
 ·rename_i it ho; exact Sd ho h hw
 ·rename_i ty x i ho; exact QY ho h hw
 ·rename_i ty x lo hi ho; exact Se ho h hw
 ·rename_i x ty ho; exact QL ho h hw
 ·rename_i m k ty Yh ho; exact QX ho h hw
 ·rename_i x y ts ho; exact Mj (.inl ⟨rfl,ts,ho⟩) h hw
 ·rename_i x y ts ho; exact Mj (.inr ⟨rfl,ts,ho⟩) h hw
 ·rename_i x y z r ts ho; exact Mk (.inl ⟨rfl,ts,ho⟩) h hw
 ·rename_i x y z r ts ho; exact Mk (.inr ⟨rfl,ts,ho⟩) h hw
 ·rename_i x y ty kY ho
  split at hw
  ·rename_i he; subst he; exact QU ho h hw
  ·exact hw.elim
 ·exact hw.elim
theorem CA{next next':Act->World->Prop}{Q:Exit->Act->World->Prop}{r:Result Next}(hn:∀a w,next a w->next' a w)(h:o.upon P a next Q r):o.upon P a next' Q r:=by
 unfold Oper.upon at h ⊢
 split at h
 ·exact hn _ _ h
 ·exact hn _ _ h
 ·exact hn _ _ h
 ·refine h.mono ?_
  intro e w' he
  cases e with
  | returned v=>exact hn _ _ he
  | panicked ch=>exact he
  | outgrown=>exact he
 ·exact h.mono fun v w' hv=>hn _ _ hv
 ·exact h
 ·exact h
def PL(P:Program)(cx:Cx)(all:Array Oper)(ls:List Oper)(s:S)(Q:A4->S->Prop):Prop:=∀g l a w,B4 cx s g l a w->wpList P all (post cx Q) ls a w
def S.skip(s:S)(o:Oper):S:=match o.dst with
 | some d=>{ s with tmps:=put s.tmps d (.v (.Bf [])) }
 | none=>s
theorem NU{all:Array Oper}{Q:A4->S->Prop}(h:Q .normal s):PL P cx all [] s Q:=fun g l _ _ hs=>wpList_nil ⟨.normal,s,g,l,h,trivial,hs⟩
def NV(want:Bool):LV->Option Bool
 | .v (.bool b)=>some (b==want)
 | .v (.Bf _)=>some false
 | _=>none
theorem Kj{all:Array Oper}{j dj:Nat}{want b:Bool}{lv:LV}(hd:(all[j]?).bind (·.dst)=some dj)(hn:dj<cx.n)(h:B4 cx s g l a w)(hl:lk s.tmps dj=some lv)(hw:NV want lv=some b):(yielded all a.tmps j==some want)=b:=by
 have hr:=h.tm dj lv hl
 have hs:a.tmps[dj]?=some (a.tmps.getD dj undef):=by
  have:dj<a.tmps.size:=by rw [h.size]; exact hn
  simp [this]
 unfold yielded
 rw [hd,Option.bind_some,hs]
 generalize a.tmps.getD dj undef=v at hr
 unfold NV at hw
 split at hw
 ·rename_i b0
  cases hr
  simp only [Option.some.injEq] at hw
  rw [<-hw]
  cases want <;> cases b0 <;> rfl
 ·cases hr
  simp only [Option.some.injEq] at hw
  rw [<-hw]
  cases want <;> rfl
 ·cases hw
def F0(n:Nat):List Oper->Bool
 | []=>true
 | o::r=>(match o.dst with | some d=>decide (d<n) | none=>true)&&F0 n r
theorem RM.wp_mono{α:Type}{K K':α->Prop}(hk:∀x,K x->K' x):∀ {r:RM α},r.wp s K->r.wp s K'
 | .ret _,h=>hk _ h
 | .fail,h=>h
 | .IN t k,h=>by
  simp only [RM.wp] at h ⊢
  split at h
  ·rename_i v hv; exact RM.wp_mono hk h
  ·exact h.elim
 | .IP t k,h=>by
  simp only [RM.wp] at h ⊢
  split at h
  ·rename_i v hv; exact RM.wp_mono hk h
  ·exact h.elim
 | .EB t k,h=>by
  simp only [RM.wp] at h ⊢
  split at h
  ·rename_i v hv; exact RM.wp_mono hk h
  ·exact h.elim
 | .assume p k,h=>⟨h.1,RM.wp_mono hk h.2⟩
theorem DA{n:Nat}:∀ {ls:List Oper},F0 n ls=true->∀ {o:Oper},o∈ls->∀d,o.dst=some d->d<n
 | [],_,o,ho,_,_=>by simp at ho
 | x::r,h,o,ho,d,hd=>by
  simp only [F0,Bool.and_eq_true] at h
  rcases List.mem_cons.1 ho with rfl | ho
  ·have h1:=h.1
   rw [hd] at h1
   simpa using h1
  ·exact DA h.2 ho d hd
end
abbrev Ext:=List (Nat × List LV)
inductive Ct where
 | ret (p:PV)
 | own (e:TypeId) (z:Nat) (es:List (List PV))
 | panic (p:PV)
def lx(l:LG):LG where
 L:=fun _=>none
 U:=fun p=>match p with
  | .x n o=>l.U (.x n o)
  | _=>none
 O:=fun b=>match l.O b with
  | some (.x n)=>some (.x n)
  | some (.u (.x n o))=>some (.u (.x n o))
  | _=>none
structure Tq (e:Ext) (g:Gh) (l:LG) (w:World):Prop where
 ex:∀x cs,lk e x=some cs->∃b,XR g x cs b/\l.O b=some (.x x)/\Wm g l w (.x x) b cs
 R2:∀b o,l.O b=some o->b<w.heap.size
 uo:∀p b,l.U p=some b->l.O b=some (.u p)
 fresh:(∀b,w.heap.size<=b->g.M b=none)/\(∀n,Eg e<=n->g.X n=none)/\∀n c,Eg e<=n->g.Y n c=none
 GH:∀n b,g.X n=some b->b<w.heap.size
 only:∀b o,l.O b=some o->(∃n,o = .x n)∨∃n k,o = .u (.x n k)
 Kf:XN g w
def PE(g:Gh)(l:LG)(ok:Nat->Prop)(w:World):Ct->Ending->Prop
 | .ret p,.returned v=>BN g w p v
 | .own e z es,.returned v=>e<1000000/\(((v = .slice none 0 0/\es=[])∨∃a,v = .slice (some a) es.length es.length/\BN g w (.sl z es) v) ∨
   ∃b cap cur,v = .slice (some ⟨b,0,none⟩) es.length cap/\ok b/\b<w.heap.size/\l.O b=none/\g.M b=some (es.length * z)/\w.heap[b]?=some (.cells cur e (0,0))/\cur.size=cap * z/\BN g w (.sl z es) v)
 | .panic p,.panicked ch=>∃v,ch=[{ v,recovered:=false }]/\BN g w p v
 | _,_=>False
def C7(P:Program)(f:FuncId)(args:List PV)(e:Ext)(R:Ct->Ext->Prop):Prop:=
 ∀vs g l w,AG g w args vs->Tq e g l w->Calls P f vs.toArray w fun en w'=>∃res e' g' l',R res e'/\PE g' l' (fun b=>w.heap.size<=b∨(l.O b).isSome=true) w' res en/\Tq e' g' l' w'/\C3 g w g' w'/\w.heap.size<=w'.heap.size /\
  (∀b,b<w.heap.size->l.O b=none->w'.heap[b]?=w.heap[b]?/\g'.M b=g.M b)/\(∀b o,l'.O b=some o->w.heap.size<=b∨(l.O b).isSome=true)/\w'.os=w.os/\w'.tape=w.tape/\w'.output=w.output
theorem C7.mono{P:Program}{f:FuncId}{args:List PV}{e:Ext}{R R':Ct->Ext->Prop}(h:C7 P f args e R)(hr:∀res e',R res e'->R' res e'):C7 P f args e R':=fun vs g l w ha he=>
 (h vs g l w ha he).mono fun _ _ ⟨res,e',g',l',h1,h2⟩=>⟨res,e',g',l',hr _ _ h1,h2⟩
section
variable {P:Program} {cx:Cx} {s t:S} {g:Gh} {l:LG} {a:Act} {w:World} {o:Oper}
theorem Cr.lx{n k:Nat}{lv:LV}{v:Value}(hn:lv.Nw=true)(h:Cr g l w (.x n k) lv v):Cr g (Pv.lx l) w (.x n k) lv v:=
 h.BR (C3.refl g w) (fun i off e=>by rw [e] at hn; cases hn) fun b hb=>⟨hb,rfl,rfl⟩
theorem B4.y7(h:B4 cx s g l a w):Tq s.ext g (lx l) w where
 ex x cs hx:=by
  obtain ⟨b,h1,h2,hE⟩:=h.ex x cs hx
  refine ⟨b,h1,by simp [lx,h2],?_⟩
  rcases hE with ⟨h3,cur,e,h4,h5,h6⟩ | hE
  ·exact .inl ⟨h3,cur,e,h4,h5,fun j hj=>⟨(h6 j hj).1,(h6 j hj).2.1,(h6 j hj).2.2.lx (h6 j hj).1⟩⟩
  ·exact .inr hE
 R2 b o ho:=by
  simp only [lx] at ho
  split at ho
  ·rename_i n hn; exact (h.own b _ hn).1
  ·rename_i n k hn; exact (h.own b _ hn).1
  ·cases ho
 uo p b hu:=by
  simp only [lx] at hu ⊢
  split at hu
  ·rename_i n k
   have:=h.uo _ _ hu
   rw [this]
  ·cases hu
 fresh:=h.fresh
 GH:=h.GH
 Kf:=h.AR.Kf
 only b o ho:=by
  simp only [lx] at ho
  split at ho
  ·injection ho with ho; exact .inl ⟨_,ho.symm⟩
  ·injection ho with ho; exact .inr ⟨_,_,ho.symm⟩
  ·cases ho
def Fj(l l':LG):LG where
 L:=l.L
 U:=fun p=>match p with
  | .x n o=>l'.U (.x n o)
  | p=>l.U p
 O:=fun b=>match l'.O b with
  | some o=>some o
  | none=>match l.O b with
   | some (.x _)=>none
   | some (.u (.x _ _))=>none
   | o=>o
theorem B4.back{e':Ext}{g':Gh}{l':LG}{w':World}(h:B4 cx s g l a w)(he:Tq e' g' l' w')(hm:C3 g w g' w')(Bk:w.heap.size<=w'.heap.size)
  (WG:∀b,b<w.heap.size->(lx l).O b=none->w'.heap[b]?=w.heap[b]?/\g'.M b=g.M b) (R3:∀b o,l'.O b=some o->w.heap.size<=b∨((lx l).O b).isSome=true)
  (os:w'.os=w.os) (tape:w'.tape=w.tape) (output:w'.output=w.output):B4 cx { s with ext:=e' } g' (Fj l l') a w':=by
 have hnx:∀ {b o},l.O b=some o->(∀n,o ≠ .x n)->(∀n k,o ≠ .u (.x n k))->(lx l).O b=none:=fun {b o} ho h1 h2=>by
  simp only [lx,ho]
  split
  ·rename_i n e0; injection e0 with e0; exact absurd e0 (h1 n)
  ·rename_i n k e0; injection e0 with e0; exact absurd e0 (h2 n k)
  ·rfl
 have Hq:∀ {b o},l.O b=some o->(∀n,o ≠ .x n)->(∀n k,o ≠ .u (.x n k))->(Fj l l').O b=some o/\w'.heap[b]?=w.heap[b]?/\g'.M b=g.M b:=fun {b o} ho h1 h2=>by
  have Ac:=(h.own b o ho).1
  have hx:=hnx ho h1 h2
  have PF:l'.O b=none:=by
   cases hb:l'.O b with
   | none=>rfl
   | some o'=>
    rcases R3 b o' hb with hc | hc
    ·omega
    ·rw [hx] at hc; cases hc
  refine ⟨?_,WG b Ac hx⟩
  simp only [Fj,PF,ho]
  split
  ·rename_i n e0; injection e0 with e0; exact absurd e0 (h1 n)
  ·rename_i n k e0; injection e0 with e0; exact absurd e0 (h2 n k)
  ·rfl
 have IZ:∀ {p lv v},(∀n k,p≠UL.x n k)->Cr g l w p lv v->Cr g' (Fj l l') w' p lv v:=fun {p lv v} hp hr=>
  hr.BR hm (fun _ _ _=>rfl) fun b hu=>by
   obtain ⟨k1,k2,k3⟩:=Hq (h.uo p b hu) sM (fun n k e0=>by injection e0 with e0; exact hp n k e0)
   refine ⟨?_,k3,k2⟩
   cases p with
   | x n k=>exact absurd rfl (hp n k)
   | t i=>exact hu
   | b i k=>exact hu
 refine ⟨⟨h.AR.mono.trans hm,Nat.le_trans h.AR.size Bk,fun b Ac ho=>?_,os.trans h.AR.os,tape.trans h.AR.tape,output.trans h.AR.output,h.AR.Kf.mono hm⟩,h.size,h.defers,fun t lv ht=>IZ sM (h.tm t lv ht),?_,?_,?_,?_,he.fresh,he.GH⟩
 ·obtain ⟨h1,h2⟩:=h.AR.frame b Ac ho
  have CE:=Nat.lt_of_lt_of_le Ac h.AR.size
  have hx:(lx l).O b=none:=by
   cases hb:(lx l).O b with
   | none=>rfl
   | some o=>
    have:(l.O b).isSome=true:=by
     simp only [lx] at hb
     split at hb
     ·rename_i hn; rw [hn]; rfl
     ·rename_i hn; rw [hn]; rfl
     ·cases hb
    obtain ⟨o',NA⟩:=Option.isSome_iff_exists.1 this
    rcases (h.own b o' NA).2 with hc | hc
    ·omega
    ·exact absurd hc ho
  obtain ⟨k1,k2⟩:=WG b CE hx
  exact ⟨k1.trans h1,k2.trans h2⟩
 ·intro i cs hi
  obtain ⟨b,h1,h2,h3,cur,e,h4,h5,h6⟩:=h.bx i cs hi
  obtain ⟨k1,k2,k3⟩:=Hq h2 sM sM
  exact ⟨b,h1,k1,k3.trans h3,cur,e,k2.trans h4,h5,fun j hj=>⟨(h6 j hj).1,(h6 j hj).2.1,IZ sM (h6 j hj).2.2⟩⟩
 ·intro x cs hx
  obtain ⟨b,h1,h2,hE⟩:=he.ex x cs hx
  refine ⟨b,h1,by simp [Fj,h2],?_⟩
  rcases hE with ⟨h3,cur,e,h4,h5,h6⟩ | hE
  rotate_left
  ·exact .inr hE
  refine .inl ⟨h3,cur,e,h4,h5,fun j hj=>⟨(h6 j hj).1,(h6 j hj).2.1,?_⟩⟩
  exact (h6 j hj).2.2.BR (C3.refl _ _) (fun i off e0=>by have:=(h6 j hj).1; rw [e0] at this; cases this) fun b hb=>⟨hb,rfl,rfl⟩
 ·intro b o ho
  simp only [Fj] at ho
  split at ho
  ·rename_i o' NA
   refine ⟨he.R2 b o' NA,?_⟩
   rcases R3 b o' NA with hc | hc
   ·exact .inl (Nat.le_trans h.AR.size hc)
   ·have:(l.O b).isSome=true:=by
     simp only [lx] at hc
     split at hc
     ·rename_i hn; rw [hn]; rfl
     ·rename_i hn; rw [hn]; rfl
     ·cases hc
    obtain ⟨o2,jR⟩:=Option.isSome_iff_exists.1 this
    exact (h.own b o2 jR).2
  ·split at ho
   ·cases ho
   ·cases ho
   ·exact ⟨Nat.lt_of_lt_of_le (h.own b o ho).1 Bk,(h.own b o ho).2⟩
 ·intro p b hu
  simp only [Fj] at hu
  split at hu
  ·rename_i n k
   have:=he.uo _ _ hu
   simp [Fj,this]
  ·rename_i hp
   exact (Hq (h.uo p b hu) sM (fun n k e0=>by injection e0 with e0; exact hp n k e0)).1
end
section
variable {P:Program} {cx:Cx} {s t:S} {g:Gh} {l:LG} {a:Act} {w:World} {o:Oper}
theorem B4.A6k(h:B4 cx s g l a w){q:UL}{b:Nat}(hq:RS s q)(hb:l.O b=none)(Ac:b<w.heap.size)(EA:cx.w0.heap.size<=b∨cx.Wj b) :
  B4 cx s g { l with U:=Fh l.U q (some b),O:=DT l.O b (some (.u q)) } a w:=by
 have De:∀ {b' o},l.O b'=some o->b'≠b:=fun {b' o} ho e0=>by subst e0; rw [hb] at ho; cases ho
 have BR:∀ {r lv v},(r=q->∀e z es,lv≠LV.uniq e z es)->Cr g l w r lv v->Cr g { l with U:=Fh l.U q (some b),O:=DT l.O b (some (.u q)) } w r lv v:=fun {r lv v} hn hr=>by
  by_cases hc:r=q
  ·exact hr.RS (C3.refl g w) rfl (hn hc)
  ·exact hr.BR (C3.refl g w) (fun _ _ _=>rfl) fun b' hu=>⟨by simp [Fh,hc,hu],rfl,rfl⟩
 refine ⟨h.AR,h.size,h.defers,fun t lv ht=>BR ?_ (h.tm t lv ht),?_,?_,?_,?_,h.fresh,h.GH⟩
 ·rintro e0 e' z es rfl
  subst e0; exact hq e' z es ht
 ·intro i cs hi
  obtain ⟨b',h1,h2,h3,cur,e,h4,h5,h6⟩:=h.bx i cs hi
  refine ⟨b',h1,(As _ _ (De h2)).trans h2,h3,cur,e,h4,h5,fun j hj=>⟨(h6 j hj).1,(h6 j hj).2.1,BR ?_ (h6 j hj).2.2⟩⟩
  rintro e0 e' z es e1
  subst e0; exact hq cs hi e' z es (by rw [List.getElem?_eq_getElem hj,e1])
 ·intro i cs hi
  obtain ⟨b',h1,h2,hE⟩:=h.ex i cs hi
  refine ⟨b',h1,(As _ _ (De h2)).trans h2,?_⟩
  rcases hE with ⟨h3,cur,e,h4,h5,h6⟩ | hE
  rotate_left
  ·exact .inr hE
  refine .inl ⟨h3,cur,e,h4,h5,fun j hj=>⟨(h6 j hj).1,(h6 j hj).2.1,BR ?_ (h6 j hj).2.2⟩⟩
  rintro e0 e' z es e1
  subst e0; exact hq cs hi e' z es (by rw [List.getElem?_eq_getElem hj,e1])
 ·intro b' o ho
  simp only [DT] at ho
  split at ho
  ·rename_i e0; subst e0; exact ⟨Ac,EA⟩
  ·exact h.own b' o ho
 ·intro r b' hu
  simp only [Fh] at hu
  split at hu
  ·rename_i e0; subst e0; injection hu with hu; subst hu; exact Bl _ _ _
  ·exact (As _ _ (De (h.uo r b' hu))).trans (h.uo r b' hu)
def V3(f:Operand)(args:List Operand):RM (FuncId × List PV):=ev f fun lv=>match lv with
 | .v (.fn (.func Fi) first captured)=>oG args fun ps => .ret (Fi,first++ps++captured)
 | _ => .fail
def FQ(P:Program)(f:FuncId):Bool:=match P.funcs[f]? with
 | some fn=>fn.body.isSome && !(fn.name == "runtime.NumGoroutine")
 | none=>false
def S.Nb(s:S)(dst:Option Nat)(lv:LV)(e:Ext):S:={ s with tmps:=match dst with | some d=>put s.tmps d lv | none=>s.tmps,ext:=e }
def behind(K:S->Prop)(Q:A4->S->Prop)(s:S)(dst:Option Nat):Ct->Ext->Prop
 | .ret p,e=>K (s.Nb dst (.v p) e)
 | .own te z es,e=>K (s.Nb dst (.uniq te z es) e)
 | .panic p,e=>Q (.panic p) { s with ext:=e }
theorem F1{f:FuncId}{vs:Array Value}(h:FQ P f=true):(callFunc f vs).run P w = .ok (.enter f vs) w:=by
 unfold FQ at h
 split at h
 ·rename_i fn hf
  simp only [Bool.and_eq_true] at h
  obtain ⟨h1,h2⟩:=h
  have h2':(fn.name == "runtime.NumGoroutine")=false:=by simpa using h2
  have UR:fn.body.isNone=false:=by cases hb:fn.body <;> simp_all
  simp only [callFunc,Sem.run_bind,run_program,Result.andThen_ok,hf,h2',Bool.false_eq_true,if_false,UR]
  rfl
 ·cases h
theorem J0{Fi:FuncId}{vl:List Value}{ps:List PV}{K:S->Prop}{Q:A4->S->Prop}(By:(execOp a.eval o).run P w = .ok (.enter Fi vl.toArray) w)(Bv:AG g w ps vl)(hd:∀d,o.dst=some d->d<cx.n)(h:B4 cx s g l a w)
  (hc:C7 P Fi ps s.ext (behind K Q s o.dst)):o.wp P a w (fun a' w'=>∃s' g' l',K s'/\B4 cx s' g' l' a' w') (post cx Q):=by
 unfold Oper.wp
 rw [By,Oper.upon_enter]
 refine (hc _ g (lx l) w Bv h.y7).mono ?_
 rintro en w' ⟨res,e',g',l',hR,Be,EE,hm,Bk,WG,R3,os,tape,output⟩
 have hb:=h.back EE hm Bk WG R3 os tape output
 cases res with
 | ret p=>
  cases en with
  | returned v=>
   refine ⟨_,g',Fj l l',hR,?_⟩
   cases FZ:o.dst with
   | none=>exact hb
   | some d=>exact hb.set (hd d FZ) Be
  | panicked ch=>exact Be.elim
  | outgrown=>exact Be.elim
 | own te z es=>
  cases en with
  | returned v=>
   cases FZ:o.dst with
   | none=>exact ⟨_,g',Fj l l',hR,by rw [FZ]; exact hb⟩
   | some d=>
    have hj:B4 cx { s with ext:=e',tmps:=put s.tmps d .DN } g' (Fj l l') a w':=by
     refine hb.jN (fun k v hk=>?_) (Ez Fg.refl _) (Ez Fg.refl _)
     simp only [B8] at hk
     split at hk
     ·injection hk with hk; exact .inl hk.symm
     ·exact .inr ⟨v,hk,WL.refl v⟩
    obtain ⟨Lv,Be⟩:=Be
    rcases Be with Yt | ⟨b,cap,cur,k1,k2,k3,k4,k5,k6,k7,k8⟩
    ·refine ⟨_,g',Fj l l',hR,?_⟩
     rw [FZ]
     refine (hj.set (lv := .uniq te z es) (hd d FZ) (.inl (by rcases Yt with hf | ⟨a',f1,f2⟩; exact .inl hf; exact .inr ⟨a',f1,f2,Lv⟩))).congr (fun k=>?_) (fun _=>rfl) (fun _=>rfl)
     simp only [S.Nb,B8]
     split <;> rfl
    ·have hO:(Fj l l').O b=none:=by
      simp only [Fj,k4]
      rcases k2 with S6 | S6
      ·have:l.O b=none:=by
        cases hx:l.O b with
        | none=>rfl
        | some o'=>exact absurd (h.own b o' hx).1 oM
       rw [this]
      ·simp only [lx] at S6
       split at S6
       ·first | rfl | (rename_i hn; rw [hn])
       ·first | rfl | (rename_i hn; rw [hn])
       ·cases S6
     have EA:cx.w0.heap.size<=b∨cx.Wj b:=by
      rcases k2 with S6 | S6
      ·exact .inl (Nat.le_trans h.AR.size S6)
      ·have:(l.O b).isSome=true:=by
        simp only [lx] at S6
        split at S6
        ·rename_i hn; rw [hn]; rfl
        ·rename_i hn; rw [hn]; rfl
        ·cases S6
       obtain ⟨o2,jR⟩:=Option.isSome_iff_exists.1 this
       exact (h.own b o2 jR).2
     have ha:=hj.A6k (q := .t d) (fun e2 z2 TP he=>by simp only [B8,if_true] at he; injection he with he; cases he) hO k3 EA
     refine ⟨_,g',{ Fj l l' with U:=Fh (Fj l l').U (.t d) (some b),O:=DT (Fj l l').O b (some (.u (.t d))) },hR,?_⟩
     rw [FZ]
     refine (ha.set (lv := .uniq te z es) (hd d FZ) (.inr ⟨b,cap,cur,k1,by simp [Fh],by rw [LB Lv]; exact k5,by rw [Tz Lv]; exact k6,k7,.of Lv k8⟩)).congr (fun k=>?_) (fun _=>rfl) (fun _=>rfl)
     simp only [S.Nb,B8]
     split <;> rfl
  | panicked ch=>exact Be.elim
  | outgrown=>exact Be.elim
 | panic p=>
  cases en with
  | returned v=>exact Be.elim
  | panicked ch=>exact ⟨.panic p,_,g',Fj l l',hR,Be,hb⟩
  | outgrown=>exact Be.elim
theorem TX{f:Operand}{args:Array Operand}{ts:Array TypeId}{K:S->Prop}{Q:A4->S->Prop}(ho:o.op = .call ⟨.value f,args,ts⟩)(hd:∀d,o.dst=some d->d<cx.n)(h:B4 cx s g l a w)
  (hw:(V3 f args.toList).wp s fun x=>FQ P x.1=true/\C7 P x.1 x.2 s.ext (behind K Q s o.dst)) :
  o.wp P a w (fun a' w'=>∃s' g' l',K s'/\B4 cx s' g' l' a' w') (post cx Q):=by
 obtain ⟨lv,u,h1,r1,-⟩:=C6 h hw
 split at h1
 ·rename_i Fi first captured
  obtain ⟨ps,h2,r2⟩:=Fp h h1
  obtain ⟨Ml,hc⟩:=h2
  have hex:∀fv cv,a.eval f = .func (.func Fi) fv cv->(execOp a.eval o).run P w = .ok (.enter Fi ((fv++(args.map a.eval))++cv)) w:=by
   intro fv cv hf
   simp only [execOp,ho,resolve,hf,Deferred.ofValue,Sem.run_bind,Sem.run_pure,Result.andThen_ok,invoke,F1 Ml]
  generalize a.eval f=vf at r1 hex
  cases r1 with
  | fn _ _ _ fv cv l1 l2 r3 r4=>
   have By:=hex _ _ rfl
   have J1:(fv.toArray++args.map a.eval)++cv.toArray=(fv++args.toList.map a.eval++cv).toArray:=by
    apply Array.ext'
    simp
   rw [J1] at By
   exact J0 By ((AG.app ⟨l1,r3⟩ r2).app ⟨l2,r4⟩) hd h hc
 ·exact h1.elim
theorem NW{t:TypeId}{name:String}{f:FuncId}{v:Value}(h:KQ P t name=some f):(method (P.types.size+Made.depth) t v name).run P w = .ok (f,v) w:=by
 unfold KQ at h
 split at h
 ·rename_i i hi
  split at h
  ·rename_i m hm
   split at h
   ·rename_i hp
    have oI:m.path.toList=[]:=by simpa using hp
    have hd:P.types.size+Made.depth=(P.types.size+(Made.depth - 1))+1:=by
     have:0<Made.depth:=by decide
     omega
    rw [hd]
    split at h
    ·cases h
    ·rename_i f' u hn hf hu
     injection h with h
     subst h
     simp only [method,Sem.run_bind,typeInfo,run_program,Result.andThen_ok,hi,Sem.run_pure,hm,oI,follow,hf,receiverAt,run_underlying hu]
     cases u <;> first | (exact (hn _ rfl).elim) | (simp [Place.get]; done)
    ·rename_i f' hf hu
     injection h with h
     subst h
     simp [method,typeInfo,hi,hm,oI,follow,hf,receiverAt,run_underlying hu,Place.get]
    ·cases h
   ·cases h
  ·cases h
 ·cases h
def Yu(P:Program)(r:Operand)(name:String)(args:List Operand):RM (FuncId × List PV):=ev r fun lv=>match lv with
 | .v (.iface t p)=>match KQ P t name with
  | some f=>oG args fun ps => .ret (f,p::ps)
  | none => .fail
 | .v (.Wi t f p) => .assume (decide (KQ P t name=some f)) (oG args fun ps => .ret (f,p::ps))
 | _ => .fail
theorem WH{r:Operand}{name:String}{args:Array Operand}{ts:Array TypeId}{K:S->Prop}{Q:A4->S->Prop}(ho:o.op = .call ⟨.invoke r name,args,ts⟩)(hd:∀d,o.dst=some d->d<cx.n)(h:B4 cx s g l a w)
  (hw:(Yu P r name args.toList).wp s fun x=>FQ P x.1=true/\C7 P x.1 x.2 s.ext (behind K Q s o.dst)) :
  o.wp P a w (fun a' w'=>∃s' g' l',K s'/\B4 cx s' g' l' a' w') (post cx Q):=by
 obtain ⟨lv,u,h1,r1,-⟩:=C6 h hw
 split at h1
 ·rename_i t p
  split at h1
  ·rename_i f hm
   obtain ⟨ps,h2,r2⟩:=Fp h h1
   obtain ⟨Ml,hc⟩:=h2
   have hex:∀v,a.eval r = .iface t v->(execOp a.eval o).run P w = .ok (.enter f (v::args.toList.map a.eval).toArray) w:=by
    intro v hv
    have e1:(#[Value.iface t v]++args.map a.eval).extract 1 (#[Value.iface t v]++args.map a.eval).size=args.map a.eval:=by
     apply Array.ext'
     simp
     exact List.take_of_length_le sM
    have e2 : #[v]++args.map a.eval=(v::args.toList.map a.eval).toArray:=by apply Array.ext'; simp
    have e0:(#[Value.iface t v]++args.map a.eval)[0]?=some (.iface t v):=by rw [Array.getElem?_append]; simp
    simp only [execOp,ho,resolve,hv,Sem.run_bind,Sem.run_pure,Result.andThen_ok,invoke,e0,e1,callMethod,run_program,NW hm,F1 Ml,e2]
   generalize a.eval r=vr at r1 hex
   cases r1 with
   | iface _ _ v hv=>exact J0 (hex v rfl) (AG.cons hv r2) hd h hc
  ·exact h1.elim
 ·rename_i t f p
  obtain ⟨xJ,h1⟩:=h1
  have hm:=of_decide_eq_true xJ
  obtain ⟨ps,h2,r2⟩:=Fp h h1
  obtain ⟨Ml,hc⟩:=h2
  have hex:∀v,a.eval r = .iface t v->(execOp a.eval o).run P w = .ok (.enter f (v::args.toList.map a.eval).toArray) w:=by
   intro v hv
   have e1:(#[Value.iface t v]++args.map a.eval).extract 1 (#[Value.iface t v]++args.map a.eval).size=args.map a.eval:=by
    apply Array.ext'
    simp
    exact List.take_of_length_le sM
   have e2 : #[v]++args.map a.eval=(v::args.toList.map a.eval).toArray:=by apply Array.ext'; simp
   have e0:(#[Value.iface t v]++args.map a.eval)[0]?=some (.iface t v):=by rw [Array.getElem?_append]; simp
   simp only [execOp,ho,resolve,hv,Sem.run_bind,Sem.run_pure,Result.andThen_ok,invoke,e0,e1,callMethod,run_program,NW hm,F1 Ml,e2]
  generalize a.eval r=vr at r1 hex
  cases r1 with
  | Wi _ _ _ v hv=>exact J0 (hex v rfl) (AG.cons hv r2) hd h hc
 ·exact h1.elim
def callee(P:Program)(o:Oper):Option (RM (FuncId × List PV)):=match o.op with
 | .call ⟨.value f,args,_⟩=>some (V3 f args.toList)
 | .call ⟨.invoke r name,args,_⟩=>some (Yu P r name args.toList)
 | _=>none
theorem Gc{r:RM (FuncId × List PV)}{K:S->Prop}{Q:A4->S->Prop}(ho:callee P o=some r)(hd:∀d,o.dst=some d->d<cx.n)(h:B4 cx s g l a w)
  (hw:r.wp s fun x=>FQ P x.1=true/\C7 P x.1 x.2 s.ext (behind K Q s o.dst)):o.wp P a w (fun a' w'=>∃s' g' l',K s'/\B4 cx s' g' l' a' w') (post cx Q):=by
 unfold callee at ho
 split at ho
 ·rename_i JA; injection ho with ho; subst ho; exact TX JA hd h hw
 ·rename_i JA; injection ho with ho; subst ho; exact WH JA hd h hw
 ·cases ho
def Sf:Nat->List PV->List (Nat × LV)
 | _,[]=>[]
 | k,p::r=>(k,.v p)::Sf (k+1) r
theorem R4:∀ {ps:List PV} {k t:Nat} {lv:LV},lk (Sf k ps) t=some lv->∃j p,t=k+j/\ps[j]?=some p/\lv = .v p
 | [],k,t,lv,h=>by simp [Sf,lk] at h
 | p::r,k,t,lv,h=>by
  simp only [Sf,lk] at h
  split at h
  ·rename_i e; subst e; injection h with h; exact ⟨0,p,rfl,rfl,h.symm⟩
  ·obtain ⟨j,q,h1,h2,h3⟩:=R4 h
   exact ⟨j+1,q,by omega,by simpa using h2,h3⟩
def ldP(P:Program)(ty:TypeId)(cs:List LV)(off:Nat):Option PV:=match N8 P ty with
 | some true=>match Lu P ty with
  | some m=>if off+m<=cs.length then (Wo ((cs.drop off).take m)).map .agg else none
  | none=>none
 | some false=>(cs[off]?).bind Xs
 | none=>none
def Yv(P:Program)(s:S):ResultVar->Option PV
 | .tmp t=>(lk s.tmps t).bind Xs
 | .cell a ty=>match lk s.tmps a with
  | some (.lp i off)=>(lk s.boxes i).bind fun cs=>ldP P ty cs off
  | some (.v (.xp m off))=>(lk s.ext m).bind fun cs=>if Px cs=true then ldP P ty cs off else none
  | _=>none
def PG(P:Program)(s:S):List ResultVar->Option (List PV)
 | []=>some []
 | r::rs=>match Yv P s r,PG P s rs with
  | some p,some ps=>some (p::ps)
  | _,_=>none
def FC(P:Program)(s:S)(rs:List ResultVar):Option PV:=match PG P s rs with
 | some [p]=>some p
 | some ps=>some (.Bf ps)
 | none=>none
theorem PI{ty:TypeId}{cs:List LV}{off b:Nat}{p:PV}{f:Nat->UL}(hp:ldP P ty cs off=some p)(hb:QC g l w f b cs):∃v,(loadVar ty ⟨b,off,none⟩).run P w = .ok v w/\BN g w p v:=by
 obtain ⟨hM,cur,e,h4,h5,h6⟩:=hb
 unfold ldP at hp
 split at hp
 ·rename_i ha
  split at hp
  ·rename_i m hm
   split at hp
   ·rename_i hle
    simp only [Option.map_eq_some_iff] at hp
    obtain ⟨ps,TO,rfl⟩:=hp
    have hc:∀j,j<m->w.cell? ⟨b,off+j,none⟩=some (cur.getD (off+j) undef):=fun j hj=>by
     have:off+j<cur.size:=by omega
     simp [World.cell?,h4,this]
    refine ⟨_,Gb (P:=P) ha hm hc,AG.agg ?_ ?_⟩
    ·refine NL (l:=l) (f:=fun j=>f (off+j)) TO (by simp; omega) fun j hj Cu=>?_
     simp only [List.getElem_take,List.getElem_drop,List.getElem_map,List.getElem_range]
     exact (h6 (off+j) _).2.2
    ·intro v hv
     simp only [List.mem_map,List.mem_range] at hv
     obtain ⟨j,hj,rfl⟩:=hv
     exact (h6 (off+j) oM).2.1
   ·cases hp
  ·cases hp
 ·rename_i ha
  simp only [Option.bind_eq_some_iff] at hp
  obtain ⟨lv,GD,hp⟩:=hp
  have Ac:=(List.getElem?_eq_some_iff.1 GD).1
  refine ⟨_,Ga (P:=P) h4 ha oM,?_⟩
  have:=(h6 off Ac).2.2
  rw [List.getElem?_eq_getElem Ac] at GD
  injection GD with GD
  rw [GD] at this
  exact EY hp this
 ·cases hp
def Kk(tmps:Array Value):ResultVar->Sem Value
 | .tmp t=>pure (tmps.getD t undef)
 | .cell a t=>do loadVar t (<- asAddr (tmps.getD a undef))
theorem TY{r:ResultVar}{p:PV}(h:B4 cx s g l a w)(hp:Yv P s r=some p):∃v,(Kk a.tmps r).run P w = .ok v w/\BN g w p v:=by
 cases r with
 | tmp t=>
  simp only [Yv,Option.bind_eq_some_iff] at hp
  obtain ⟨lv,GD,hp⟩:=hp
  exact ⟨_,rfl,EY hp (h.tm t lv GD)⟩
 | cell x ty=>
  simp only [Yv] at hp
  split at hp
  ·rename_i i off hl
   simp only [Option.bind_eq_some_iff] at hp
   obtain ⟨cs,D3,hp⟩:=hp
   obtain ⟨b,k1,k2⟩:=h.tm x _ hl
   obtain ⟨b',m1,m2,m3⟩:=h.bx i cs D3
   rw [k1] at m1
   injection m1 with m1
   subst m1
   obtain ⟨v,v1,v2⟩:=PI hp m3
   exact ⟨v,by simp [Kk,k2,asAddr,v1],v2⟩
  ·rename_i m off hl
   simp only [Option.bind_eq_some_iff] at hp
   obtain ⟨cs,D3,hp⟩:=hp
   have hr:=h.tm x _ hl
   obtain ⟨b',m1,m2,hE⟩:=h.ex m cs D3
   split at hp
   rotate_left
   ·cases hp
   rename_i Xt
   rcases hE with m3 | hE
   rotate_left
   ·exact (hE.plain (Hj Xt)).elim
   replace m1:=m1.plain m3.UM
   obtain ⟨v,v1,v2⟩:=PI hp m3
   refine ⟨v,?_,v2⟩
   simp only [Kk]
   generalize a.tmps.getD x undef=vx at hr
   cases hr with
   | xp _ _ b hx=>
    rw [m1] at hx
    injection hx with hx
    subst hx
    simp [asAddr,v1]
  ·cases hp
theorem J2(h:B4 cx s g l a w):∀ {rs:List ResultVar} {ps:List PV},PG P s rs=some ps->∃vs,(rs.mapM (Kk a.tmps)).run P w = .ok vs w/\AG g w ps vs
 | [],ps,hp=>by
  simp only [PG,Option.some.injEq] at hp
  subst hp
  exact ⟨[],by simp,.nil⟩
 | r::rs,ps,hp=>by
  simp only [PG] at hp
  split at hp
  ·rename_i p qs h1 h2
   injection hp with hp
   subst hp
   obtain ⟨v,v1,v2⟩:=TY h h1
   obtain ⟨vs,w1,w2⟩:=J2 h h2
   exact ⟨v::vs,by simp [List.mapM_cons,v1,w1],.cons v2 w2⟩
  ·cases hp
theorem Ib{fn:Func}{p:PV}(h:B4 cx s g l a w)(hp:FC P s fn.results.toList=some p):∃v,(results fn a.tmps).run P w = .ok v w/\BN g w p v:=by
 have Be:∀vs,(fn.results.toList.mapM (Kk a.tmps)).run P w = .ok vs w->(results fn a.tmps).run P w = .ok (if h:vs.toArray.size=1 then vs.toArray[0] else .tuple vs.toArray) w:=by
  intro vs hv
  have e:results fn a.tmps=(do let vs<-fn.results.mapM (Kk a.tmps); pure (if h:vs.size=1 then vs[0] else .tuple vs)):=by
   unfold results
   have:(fun (r:ResultVar)=>(match r with | .tmp t=>(pure (a.tmps.getD t undef):Sem Value) | .cell x t=>(do loadVar t (<- asAddr (a.tmps.getD x undef)))))=Kk a.tmps:=by
    funext r
    cases r <;> rfl
   rw [<-this]
   rfl
  rw [e]
  simp only [Array.mapM_eq_mapM_toList,Sem.run_bind,Sem.run_map,hv,Result.andThen_ok,Sem.run_pure]
 unfold FC at hp
 split at hp
 ·rename_i q hq
  injection hp with hp
  subst hp
  obtain ⟨vs,w1,w2⟩:=J2 h hq
  obtain ⟨v,kF,rfl,hv,hn⟩:=w2.Hg
  have:=hn.QB
  subst this
  exact ⟨v,by rw [Be _ w1]; rfl,hv⟩
 ·rename_i ps TO De
  injection hp with hp
  subst hp
  obtain ⟨vs,w1,w2⟩:=J2 h De
  refine ⟨.tuple vs.toArray,?_,.Bf _ _ w2.1 w2.2⟩
  rw [Be _ w1,dif_neg]
  intro hl
  have:ps.length=1:=by rw [w2.1]; simpa using hl
  match ps,this with
  | [q],_=>exact TO q rfl
 ·cases hp
def FR(ps:List PV)(e:Ext):S:=⟨Sf 0 ps,[],e⟩
def A6l(P:Program)(rs:List ResultVar)(R:Ct->Ext->Prop):A4->S->Prop
 | .normal,s=>∃p,FC P s rs=some p/\R (.ret p) s.ext
 | .ret,s=>(∃p,FC P s rs=some p/\R (.ret p) s.ext)∨∃t e z es,rs=[.tmp t]/\lk s.tmps t=some (.uniq e z es)/\e<1000000/\R (.own e z es) s.ext
 | .panic p,s=>R (.panic p) s.ext
 | .exit _,_=>False
theorem C7.enter{f:FuncId}{fn:Func}{c:Code}{ps:List PV}{e:Ext}{R:Ct->Ext->Prop}(hf:P.funcs[f]?=some fn)(hb:fn.body=some c)(hn:ps.length<=fn.ntmps)
  (h:∀cx:Cx,cx.n=fn.ntmps->cx.ds=[]->PW P cx c (FR ps e) (A6l P fn.results.toList R)):C7 P f ps e R:=by
 intro vs g l w ha he
 refine calls_of_wp hf hb ?_
 have hs:B4 ⟨fn.ntmps,[],g,w,fun b=>(l.O b).isSome=true⟩ (FR ps e) g l { tmps:=vs.toArray++Array.replicate (fn.ntmps - vs.toArray.size) undef,defers:=[] } w:=by
  have hl:=ha.1
  refine ⟨⟨C3.refl g w,Nat.le_refl _,fun _ _ _=>⟨rfl,rfl⟩,rfl,rfl,rfl,he.Kf⟩,?_,rfl,?_,?_,he.ex,?_,he.uo,he.fresh,he.GH⟩
  ·simp
   omega
  ·intro t lv ht
   obtain ⟨j,p,rfl,hj,rfl⟩:=R4 ht
   have Ac:=(List.getElem?_eq_some_iff.1 hj).1
   have CE:j<vs.length:=by omega
   have:=ha.2 j Ac CE
   rw [List.getElem?_eq_getElem Ac] at hj
   injection hj with hj
   rw [hj] at this
   have e1:(vs.toArray++Array.replicate (fn.ntmps - vs.toArray.size) undef).getD (0+j) undef=vs[j]:=by
    simp [Array.getD_eq_getD_getElem?,Array.getElem?_append,CE]
   show BN g w p _
   rw [e1]
   exact this
  ·intro i cs hi
   simp [FR,lk] at hi
  ·intro b o' ho
   exact ⟨he.R2 b o' ho,.inr (by show (l.O b).isSome=true; rw [ho]; rfl)⟩
 refine wp_mono (h _ rfl rfl g l _ w hs) ?_
 rintro ex a' w' ⟨pe,s',g',l',hq,er,sm⟩
 have common:Tq s'.ext g' (lx l') w'/\C3 g w g' w'/\w.heap.size<=w'.heap.size/\(∀b,b<w.heap.size->l.O b=none->w'.heap[b]?=w.heap[b]?/\g'.M b=g.M b) /\
   (∀b o,(lx l').O b=some o->w.heap.size<=b∨(l.O b).isSome=true)/\w'.os=w.os/\w'.tape=w.tape/\w'.output=w.output:=by
  refine ⟨sm.y7,sm.AR.mono,sm.AR.size,fun b Ac ho=>sm.AR.frame b Ac (by show ¬(l.O b).isSome=true; rw [ho]; simp),fun b o' ho=>?_,sm.AR.os,sm.AR.tape,sm.AR.output⟩
  have:∃o2,l'.O b=some o2:=by
   simp only [lx] at ho
   split at ho
   ·rename_i Yw; exact ⟨_,Yw⟩
   ·rename_i Yw; exact ⟨_,Yw⟩
   ·cases ho
  obtain ⟨o2,jR⟩:=this
  exact (sm.own b o2 jR).2
 have plain:∀p,FC P s' fn.results.toList=some p->R (.ret p) s'.ext->a'.defers=[]/\∃v,(results fn a'.tmps).run P w' = .ok v w'/\∃res e' x6 l'',R res e'/\PE x6 l'' (fun b=>w.heap.size<=b∨(l.O b).isSome=true) w' res (.returned v)/\Tq e' x6 l'' w'/\C3 g w x6 w' /\
   w.heap.size<=w'.heap.size/\(∀b,b<w.heap.size->l.O b=none->w'.heap[b]?=w.heap[b]?/\x6.M b=g.M b)/\(∀b o,l''.O b=some o->w.heap.size<=b∨(l.O b).isSome=true)/\w'.os=w.os/\w'.tape=w.tape/\w'.output=w.output:=by
  intro p hp hR
  obtain ⟨v,v1,v2⟩:=Ib sm hp
  exact ⟨sm.defers,v,v1,.ret p,s'.ext,g',lx l',hR,v2,common⟩
 cases pe with
 | normal=>
  cases ex <;> first | exact er.elim | skip
  obtain ⟨p,hp,hR⟩:=hq
  exact plain p hp hR
 | ret=>
  cases ex <;> first | exact er.elim | skip
  rcases hq with ⟨p,hp,hR⟩ | ⟨t,te,z,es,hrs,ht,Lv,hR⟩
  ·exact plain p hp hR
  ·have hr:=sm.tm t _ ht
   refine ⟨sm.defers,a'.tmps.getD t undef,results_tmp (by rw [<-Array.toArray_toList (xs:=fn.results),hrs]) _ _ _,.own te z es,s'.ext,g',lx l',hR,⟨Lv,?_⟩,common⟩
   rcases hr with Yt | ⟨b,cap,cur,k1,k2,k3,k4,k5,k6⟩
   ·exact .inl (by rcases Yt with hf | ⟨a',f1,f2,-⟩; exact .inl hf; exact .inr ⟨a',f1,f2⟩)
   ·have ho:=sm.uo _ _ k2
    exact .inr ⟨b,cap,cur,k1,(sm.own b _ ho).2,(sm.own b _ ho).1,by simp [lx,ho],by rw [LB Lv] at k3; exact k3,by rw [Tz Lv] at k4; exact k4,k5,k6.1 Lv⟩
 | exit id=>exact hq.elim
 | panic p=>
  cases ex <;> first | exact er.elim | skip
  exact ⟨sm.defers,.panic p,s'.ext,g',lx l',hq,er,common⟩
end
section
variable {P:Program} {cx:Cx} {s t:S} {Q:A4->S->Prop}
end
inductive Loc where
 | t (i:Nat)
 | b (i:Nat)
 | x (n:Nat)
 deriving DecidableEq
def RM.Ic{α:Type}:RM α->S->(α->List Loc->Prop)->Prop
 | .ret a,_,K=>K a []
 | .fail,_,_=>False
 | .IN t k,s,K=>match lk s.tmps t with
  | some v=>(k v).Ic s fun a r=>K a (.t t::r)
  | none=>False
 | .IP i k,s,K=>match lk s.boxes i with
  | some v=>(k v).Ic s fun a r=>K a (.b i::r)
  | none=>False
 | .EB n k,s,K=>match lk s.ext n with
  | some v=>(k v).Ic s fun a r=>K a (.x n::r)
  | none=>False
 | .assume p k,s,K=>p=true/\k.Ic s K
def S.get(s:S):Loc->Option (LV ⊕ List LV)
 | .t t=>(lk s.tmps t).map .inl
 | .b i=>(lk s.boxes i).map .inr
 | .x n=>(lk s.ext n).map .inr
theorem Sg{s s':S}{t:Nat}(h:s'.get (.t t)=s.get (.t t)):lk s'.tmps t=lk s.tmps t:=by
 simp only [S.get] at h
 cases h1:lk s'.tmps t <;> cases h2:lk s.tmps t <;> simp_all
theorem Yx{s s':S}{t:Nat}(h:s'.get (.b t)=s.get (.b t)):lk s'.boxes t=lk s.boxes t:=by
 simp only [S.get] at h
 cases h1:lk s'.boxes t <;> cases h2:lk s.boxes t <;> simp_all
theorem A6m{s s':S}{t:Nat}(h:s'.get (.x t)=s.get (.x t)):lk s'.ext t=lk s.ext t:=by
 simp only [S.get] at h
 cases h1:lk s'.ext t <;> cases h2:lk s.ext t <;> simp_all
theorem RM.Ft{α:Type}{s:S}:∀ {r:RM α} {K:α->List Loc->Prop},r.Ic s K->∃a rd,K a rd/\∀s':S,(∀l∈rd,s'.get l=s.get l)->r.wp s' fun b=>b=a
 | .ret a,K,h=>⟨a,[],h,fun _ _=>rfl⟩
 | .fail,_,h=>h.elim
 | .IN t k,K,h=>by
  simp only [RM.Ic] at h
  split at h
  ·rename_i v hv
   obtain ⟨a,rd,h1,h2⟩:=RM.Ft h
   refine ⟨a,.t t::rd,h1,fun s' hl=>?_⟩
   simp only [RM.wp,Sg (hl (.t t) sM),hv]
   exact h2 s' fun l hm=>hl l (List.mem_cons_of_mem _ hm)
  ·exact h.elim
 | .IP t k,K,h=>by
  simp only [RM.Ic] at h
  split at h
  ·rename_i v hv
   obtain ⟨a,rd,h1,h2⟩:=RM.Ft h
   refine ⟨a,.b t::rd,h1,fun s' hl=>?_⟩
   simp only [RM.wp,Yx (hl (.b t) sM),hv]
   exact h2 s' fun l hm=>hl l (List.mem_cons_of_mem _ hm)
  ·exact h.elim
 | .EB n k,K,h=>by
  simp only [RM.Ic] at h
  split at h
  ·rename_i v hv
   obtain ⟨a,rd,h1,h2⟩:=RM.Ft h
   refine ⟨a,.x n::rd,h1,fun s' hl=>?_⟩
   simp only [RM.wp,A6m (hl (.x n) sM),hv]
   exact h2 s' fun l hm=>hl l (List.mem_cons_of_mem _ hm)
  ·exact h.elim
 | .assume p k,K,h=>by
  obtain ⟨a,rd,h1,h2⟩:=RM.Ft h.2
  exact ⟨a,rd,h1,fun s' hl=>⟨h.1,h2 s' hl⟩⟩
def Wr.loc:Wr->Option Loc
 | .tmp t _=>some (.t t)
 | .Dq i _=>some (.b i)
 | .cells i _ _=>some (.b i)
 | .ext _ _ _=>none
def S.wq(s:S):Wr->S
 | .tmp t v=>{ s with tmps:=put s.tmps t v }
 | .Dq i ps=>{ s with boxes:=put s.boxes i (ps.map .v) }
 | .cells i off vs=>match lk s.boxes i with
  | some cs=>{ s with boxes:=put s.boxes i (AA cs off vs) }
  | none=>s
 | .ext _ _ _=>s
def S.DB(s:S):List Wr->S
 | []=>s
 | x::r=>(s.wq x).DB r
def Wr.app:Wr->Option (LV ⊕ List LV)->Option (LV ⊕ List LV)
 | .tmp _ v,_=>some (.inl v)
 | .Dq _ ps,_=>some (.inr (ps.map .v))
 | .cells _ off vs,some (.inr cs)=>some (.inr (AA cs off vs))
 | _,x=>x
theorem y8(s:S)(x:Wr)(l:Loc):(s.wq x).get l=if x.loc=some l then x.app (s.get l) else s.get l:=by
 cases x with
 | tmp t v=>
  cases l with
  | t u=>
   simp only [S.wq,S.get,Wr.loc,Wr.app,B8,Option.some.injEq,Loc.t.injEq]
   split <;> rfl
  | b i=>simp [S.wq,S.get,Wr.loc]
  | x i=>simp [S.wq,S.get,Wr.loc]
 | Dq j ps=>
  cases l with
  | t u=>simp [S.wq,S.get,Wr.loc]
  | b i=>
   simp only [S.wq,S.get,Wr.loc,Wr.app,B8,Option.some.injEq,Loc.b.injEq]
   split <;> rfl
  | x i=>simp [S.wq,S.get,Wr.loc]
 | cells j off vs=>
  simp only [S.wq]
  cases hj:lk s.boxes j with
  | none=>
   simp only
   split
   ·rename_i e
    cases l with
    | t u=>simp [Wr.loc] at e
    | x u=>simp [Wr.loc] at e
    | b i=>
     simp only [Wr.loc,Option.some.injEq,Loc.b.injEq] at e
     subst e
     simp [S.get,hj,Wr.app]
   ·rfl
  | some cs=>
   cases l with
   | t u=>simp [S.get,Wr.loc]
   | x u=>simp [S.get,Wr.loc]
   | b i=>
    simp only [S.get,Wr.loc,B8,Option.some.injEq,Loc.b.injEq]
    split
    ·rename_i e; subst e; simp [hj,Wr.app]
    ·rfl
 | ext _ _ _=>simp [S.wq,Wr.loc]
def Gd(l:Loc)(x:Wr):Bool:=decide (x.loc=some l)
theorem GK(l:Loc):∀ (L:List Wr) (s:S),(s.DB L).get l=(L.filter (Gd l)).foldl (fun g x=>x.app g) (s.get l)
 | [],s=>rfl
 | x::r,s=>by
  simp only [S.DB,GK l r,y8,List.filter_cons,Gd]
  by_cases h:x.loc=some l
  ·simp [h]
  ·simp [h]
theorem TZ{l:Loc}{L M:List Wr}(s:S)(h:L.filter (Gd l)=M.filter (Gd l)):(s.DB L).get l=(s.DB M).get l:=by rw [GK,GK,h]
theorem y9(s:S)(x:Wr):(s.wq x).ext=s.ext:=by
 cases x <;> simp only [S.wq]
 split <;> rfl
theorem KT:∀ (L:List Wr) (s:S),(s.DB L).ext=s.ext
 | [],_=>rfl
 | x::r,s=>by simp only [S.DB,KT r,y9]
structure DS where
 rd:List Loc
 ws:List Wr
 Eh:Bool
def D0(D:Nat->Bool):Nat->List DS->List Wr
 | _,[]=>[]
 | k,d::r=>(if D k then d.ws else [])++D0 D (k+1) r
def DO(D:Nat->Bool):Nat->List DS->Nat
 | _,[]=>0
 | k,d::r=>(if D k&&d.Eh then 1 else 0)+DO D (k+1) r
theorem DK{D D':Nat->Bool}:∀ {B2:List DS} {k:Nat},(∀j,k<=j->j<k+B2.length->D j=D' j)->D0 D k B2=D0 D' k B2
 | [],_,_=>rfl
 | d::r,k,h=>by
  simp only [D0,h k (Nat.le_refl _) sM]
  rw [DK fun j h1 h2=>h j oM (by simp at h2 ⊢; omega)]
theorem Mm{D D':Nat->Bool}{i:Nat}(hD:∀j,j≠i->D' j=D j)(hi:D i=false)(PB:D' i=true):∀ {B2:List DS} {k:Nat} {d:DS},k<=i->B2[i - k]?=some d ->
  ∃A C,D0 D k B2=A++C/\D0 D' k B2=A++d.ws++C/\A=D0 (fun j=>D j&&decide (j<i)) k B2/\C=D0 (fun j=>D j&&decide (i<j)) k B2
 | [],k,d,_,h=>by simp at h
 | d0::r,k,d,hk,h=>by
  by_cases y3:k=i
  ·subst y3
   simp only [Nat.sub_self,List.getElem?_cons_zero,Option.some.injEq] at h
   subst h
   refine ⟨[],D0 D (k+1) r,by simp [D0,hi],?_,?_,?_⟩
   ·simp only [D0,PB,if_true,List.nil_append]
    rw [DK fun j h1 _=>hD j oM]
   ·simp only [D0,hi,Bool.false_and]
    have:D0 (fun j=>D j&&decide (j<k)) (k+1) r=D0 (fun _=>false) (k+1) r:=DK fun j h1 _=>by simp; omega
    rw [this]
    have hz:∀ (l:List DS) (m:Nat),D0 (fun _=>false) m l=[]:=by
     intro l
     induction l with
     | nil=>intro m; rfl
     | cons x r ih=>intro m; simp [D0,ih]
    simp [hz]
   ·simp only [D0,hi,Bool.false_and]
    have:D0 (fun j=>D j&&decide (k<j)) (k+1) r=D0 D (k+1) r:=DK fun j h1 _=>by simp; omega
    simp [this]
  ·have Ac:k+1<=i:=by omega
   have h':r[i - (k+1)]?=some d:=by
    rw [show i - k=(i - (k+1))+1 by omega,List.getElem?_cons_succ] at h
    exact h
   obtain ⟨A,C,h1,h2,h3,h4⟩:=Mm hD hi PB Ac h'
   refine ⟨(if D k then d0.ws else [])++A,C,by simp [D0,h1],?_,?_,?_⟩
   ·simp only [D0,hD k y3,h2,List.append_assoc]
   ·simp only [D0,h3]
    have:decide (k<i)=true:=by simp; omega
    simp [this]
   ·simp only [D0,h4]
    have:decide (i<k)=false:=by simp; omega
    simp [this]
theorem NX{D:Nat->Bool}{x:Wr}:∀ {B2:List DS} {k:Nat},x∈D0 D k B2->∃j d,D (k+j)=true/\B2[j]?=some d/\x∈d.ws
 | [],_,h=>by simp [D0] at h
 | d::r,k,h=>by
  simp only [D0,List.mem_append] at h
  rcases h with h | h
  ·split at h
   ·rename_i hd; exact ⟨0,d,hd,rfl,h⟩
   ·simp at h
  ·obtain ⟨j,d',h1,h2,h3⟩:=NX h
   exact ⟨j+1,d',by rw [show k+(j+1)=k+1+j by omega]; exact h1,by simpa using h2,h3⟩
theorem Mn{D D':Nat->Bool}{p:Wr->Bool}:∀ {B2:List DS} {k:Nat},(∀j d,B2[j]?=some d->D (k+j)≠D' (k+j)->∀x∈d.ws,p x=false)->(D0 D k B2).filter p=(D0 D' k B2).filter p
 | [],_,_=>rfl
 | d::r,k,h=>by
  have ih:=Mn (D:=D) (D':=D') (p:=p) (B2:=r) (k:=k+1) fun j d' hj De=>h (j+1) d' (by simpa using hj) (by rw [show k+(j+1)=k+1+j by omega]; exact De)
  simp only [D0,List.filter_append,ih]
  congr 1
  by_cases hd:D k=D' k
  ·rw [hd]
  ·have h0:=h 0 d rfl (by simpa using hd)
   have hf:d.ws.filter p=[]:=List.filter_eq_nil_iff.2 fun x hx=>by simp [h0 x hx]
   split <;> split <;> simp [hf]
def KU(o:Oper):List Nat:=(o.after.toList.filter (Region.binds .any)).map (·.on)
def Sh:List Nat->List Nat
 | []=>[]
 | x::r=>bif (Sh r).contains x then Sh r else x::Sh r
theorem NY{k:Nat}:∀ {l:List Nat},k∈Sh l->k∈l
 | [],h=>h
 | x::r,h=>by
  simp only [Sh] at h
  cases hc:(Sh r).contains x with
  | true=>rw [hc] at h; exact List.mem_cons_of_mem _ (NY h)
  | false=>
   rw [hc] at h
   rcases List.mem_cons.1 h with rfl | h
   ·exact List.mem_cons_self
   ·exact List.mem_cons_of_mem _ (NY h)
def WI:List Oper->List (List Nat)->List (List Nat)
 | [],acc=>acc
 | o::r,acc=>WI r (acc++[Sh (KU o++(KU o).flatMap fun m=>acc.getD m [])])
inductive Reach (ops:List Oper):Nat->Nat->Prop
 | dir {k i:Nat} {o:Oper} (h:ops[i]?=some o) (hk:k∈KU o):Reach ops k i
 | step {k m i:Nat} {o:Oper} (h:ops[i]?=some o) (hm:m∈KU o) (hr:Reach ops k m):Reach ops k i
def NZ(ops:List Oper)(D:Nat->Bool):Prop:=∀j o,ops[j]?=some o->D j=true->∀m∈KU o,D m=true
theorem NZ.reach{ops:List Oper}{D:Nat->Bool}(hc:NZ ops D){k i:Nat}(hr:Reach ops k i):(∀o,ops[i]?=some o->∀m∈KU o,D m=true)->D k=true:=by
 induction hr with
 | dir h hk=>exact fun hd=>hd _ h _ hk
 | step h hm hr ih=>exact fun hd=>ih fun o ho m Fk=>hc _ o ho (hd _ h _ hm) m Fk
theorem O0{ops:List Oper}:∀ {r:List Oper} {acc:List (List Nat)},(∀j,(r)[j]?=ops[acc.length+j]?)->(∀i l,acc[i]?=some l->∀k∈l,Reach ops k i)->∀i l,(WI r acc)[i]?=some l->∀k∈l,Reach ops k i
 | [],acc,_,h=>h
 | o::r,acc,hr,h=>by
  refine O0 (r:=r) (acc:=acc++[Sh (KU o++(KU o).flatMap fun m=>acc.getD m [])]) (fun j=>by have:=hr (j+1); simp only [List.getElem?_cons_succ] at this; rw [this]; simp; congr 1; omega) fun i l hi k hk=>?_
  by_cases Ac:i<acc.length
  ·rw [List.getElem?_append_left Ac] at hi
   exact h i l hi k hk
  ·have:i=acc.length:=by
    have:=(List.getElem?_eq_some_iff.1 hi).1
    simp at this
    omega
   subst this
   simp only [List.getElem?_concat_length,Option.some.injEq] at hi
   subst hi
   have ho:ops[acc.length]?=some o:=by have:=hr 0; simpa using this.symm
   replace hk:=NY hk
   simp only [List.mem_append,List.mem_flatMap] at hk
   rcases hk with hk | ⟨m,hm,hk⟩
   ·exact .dir ho hk
   ·cases Fk:acc[m]? with
    | none=>simp [List.getD,Fk] at hk
    | some l'=>exact .step ho hm (h m l' Fk k (by simpa [List.getD,Fk] using hk))
def oP(ops:List Oper)(i:Nat):List Nat:=(WI ops []).getD i []
theorem PJ{ops:List Oper}{i k:Nat}(h:k∈oP ops i):Reach ops k i:=by
 unfold oP at h
 cases hi:(WI ops [])[i]? with
 | none=>simp [List.getD,hi] at h
 | some l=>exact O0 sM sM i l hi k (by simpa [List.getD,hi] using h)
def wl(ws:List Wr):List Loc:=ws.filterMap Wr.loc
def WJ(A B:List Loc):Bool:=A.all fun x=>!(B.contains x)
def R5:Loc->Bool
 | .x _=>true
 | _=>false
def DS.xf(d:DS):Bool:=d.Eh||d.rd.any R5
def LH(an:List Nat)(i:Nat)(di dj:DS):Bool:=an.contains i||(WJ (wl di.ws) (dj.rd++wl dj.ws)&&WJ (wl dj.ws) di.rd && !(di.Eh&&dj.xf) && !(dj.Eh&&di.xf))
def lpW(d:Nat):Wr->Bool
 | .tmp _ (.lp j _)=>j==d
 | _=>false
def Kl:Wr->Option Nat
 | .Dq d _=>some d
 | _=>none
def yA(an:Nat->List Nat)(i j:Nat)(di dj:DS):Bool:=(di.ws.filterMap Kl).all fun d=>(an j).contains i||dj.ws.all fun x=>!(lpW d x)
def U0(d:Nat):List (Nat × LV)->Bool
 | []=>true
 | (_,.lp j _)::r=>j != d&&U0 d r
 | _::r=>U0 d r
def D9:Wr->Bool
 | .ext _ _ _=>false
 | _=>true
def Hr:List Wr->Bool
 | []=>true
 | _::r=>r.all fun x=>(Kl x).isNone
def Xw(ops:List Oper)(B2:List DS)(tm:List (Nat × LV)):Bool:=
 let an:=WI ops []
 (List.range B2.length).all fun j=>(B2.getD j ⟨[],[],false⟩).ws.all D9&&Hr (B2.getD j ⟨[],[],false⟩).ws&&(((B2.getD j ⟨[],[],false⟩).ws.filterMap Kl).all fun d=>U0 d tm) &&
  (((ops[j]?).map KU).getD []).all (· < j) &&
  (List.range B2.length).all fun i=>i==j||(yA (fun k=>an.getD k []) i j (B2.getD i ⟨[],[],false⟩) (B2.getD j ⟨[],[],false⟩)&&(!(decide (i<j))||LH (an.getD j []) i (B2.getD i ⟨[],[],false⟩) (B2.getD j ⟨[],[],false⟩)))
section
variable {ops:List Oper} {B2:List DS} {tm:List (Nat × LV)}
theorem Km(h:Xw ops B2 tm=true){j:Nat}{dj:DS}(hj:B2[j]?=some dj):dj.ws.all D9=true/\Hr dj.ws=true/\(∀d∈dj.ws.filterMap Kl,U0 d tm=true)/\(∀o,ops[j]?=some o->∀m∈KU o,m<j) /\
  ∀i di,B2[i]?=some di->i≠j->yA (oP ops) i j di dj=true/\(i<j->LH (oP ops j) i di dj=true):=by
 have Ac:=(List.getElem?_eq_some_iff.1 hj).1
 simp only [Xw,List.all_eq_true,List.mem_range,Bool.and_eq_true] at h
 have h1:=h j Ac
 have gj:B2.getD j ⟨[],[],false⟩=dj:=by simp [List.getD,hj]
 rw [gj] at h1
 obtain ⟨⟨⟨⟨k1,k2⟩,k3⟩,k4⟩,k5⟩:=h1
 refine ⟨by simpa using k1,k2,k3,fun o ho m hm=>?_,fun i di hi De=>?_⟩
 ·simp only [ho,Option.map_some,Option.getD_some] at k4
  exact of_decide_eq_true (k4 m hm)
 ·have CE:=(List.getElem?_eq_some_iff.1 hi).1
  have gi:B2.getD i ⟨[],[],false⟩=di:=by simp [List.getD,hi]
  have:=k5 i CE
  rw [gi] at this
  simp only [Bool.or_eq_true,beq_iff_eq,De,false_or,Bool.and_eq_true,Bool.not_eq_true',decide_eq_false_iff_not] at this
  refine ⟨this.1,fun UZ=>?_⟩
  rcases this.2 with hc | hc
  ·exact absurd UZ hc
  ·exact hc
theorem Kn{A:List Wr}{B:List Loc}(h:WJ (wl A) B=true){x:Wr}(hx:x∈A){l:Loc}(hl:l∈B):Gd l x=false:=by
 unfold Gd
 rw [decide_eq_false_iff_not]
 intro e
 simp only [WJ,List.all_eq_true,Bool.not_eq_true',List.contains_eq_mem,decide_eq_false_iff_not] at h
 exact h l (List.mem_filterMap.2 ⟨x,hx,e⟩) hl
end
theorem Mp{D D':Nat->Bool}{i:Nat}(hD:∀j,j≠i->D' j=D j)(hi:D i=false)(PB:D' i=true):∀ {B2:List DS} {k:Nat} {d:DS},k<=i->B2[i - k]?=some d->DO D' k B2=DO D k B2+(if d.Eh=true then 1 else 0)
 | [],k,d,_,h=>by simp at h
 | d0::r,k,d,hk,h=>by
  by_cases y3:k=i
  ·subst y3
   simp only [Nat.sub_self,List.getElem?_cons_zero,Option.some.injEq] at h
   subst h
   have:∀ (l:List DS) (m:Nat),k<m->DO D' m l=DO D m l:=by
    intro l
    induction l with
    | nil=>intro m _; rfl
    | cons x r ih=>intro m hm; simp only [DO,hD m oM,ih (m+1) oM]
   simp only [DO,hi,PB,this r (k+1) oM]
   cases d0.Eh <;> simp <;> omega
  ·have h':r[i - (k+1)]?=some d:=by
    rw [show i - k=(i - (k+1))+1 by omega,List.getElem?_cons_succ] at h
    exact h
   have ih:=Mp hD hi PB (by omega:k+1<=i) h'
   simp only [DO,hD k y3,ih]
   omega
theorem EF{D D':Nat->Bool}:∀ {B2:List DS} {k:Nat},(∀j d,B2[j]?=some d->d.Eh=true->D (k+j)=D' (k+j))->DO D k B2=DO D' k B2
 | [],_,_=>rfl
 | d::r,k,h=>by
  have ih:=EF (D:=D) (D':=D') (B2:=r) (k:=k+1) fun j d' hj he=>by
   have:=h (j+1) d' (by simpa using hj) he
   rw [show k+1+j=k+(j+1) by omega]
   exact this
  simp only [DO,ih]
  cases he:d.Eh with
  | false=>simp
  | true=>have:=h 0 d rfl he; simp only [Nat.add_zero] at this; rw [this]
section
variable {P:Program} {cx:Cx} {Q:A4->S->Prop} {ops:List Oper} {B2:List DS} {s0:S} {e:Nat->Ext}
def sT(s0:S)(B2:List DS)(e:Nat->Ext)(i:Nat):S:={ s0.DB (D0 (fun j=>decide (j<i)) 0 B2) with ext:=e (DO (fun j=>decide (j<i)) 0 B2) }
def sD(s0:S)(B2:List DS)(e:Nat->Ext)(D:Nat->Bool):S:={ s0.DB (D0 D 0 B2) with ext:=e (DO D 0 B2) }
def LI(P:Program)(cx:Cx)(all:Array Oper)(Q:A4->S->Prop)(o:Oper)(s s':S):Prop:=∀g l a w,B4 cx s g l a w ->
 if Region.wanted o (yielded all a.tmps)=true then o.wp P a w (fun a' w'=>∃g' l',B4 cx s' g' l' a' w') (post cx Q) else ∃g' l',B4 cx s' g' l' (a.put o.dst undef) w
def Yy(P:Program)(cx:Cx)(all:Array Oper)(Q:A4->S->Prop)(e:Nat->Ext)(o:Oper)(d:DS)(si:S)(kt:Nat):Prop:=
 ∀s k,(∀l∈d.rd,s.get l=si.get l)->(d.xf=true->k=kt)->s.ext=e k->(∀b∈d.ws.filterMap Kl,∀t off,lk s.tmps t≠some (.lp b off))->LI P cx all Q o s { s.DB d.ws with ext:=e (k+if d.Eh=true then 1 else 0) }
theorem B4.O1{s t:S}{g:Gh}{l:LG}{a:Act}{w:World}(h:B4 cx s g l a w)(hg:∀p,R5 p=false->t.get p=s.get p)(hx:t.ext=s.ext):B4 cx t g l a w:=
 h.congr (fun k=>Sg (hg (.t k) rfl)) (fun k=>Yx (hg (.b k) rfl)) (fun k=>by rw [hx]) (by rw [hx]; exact Nat.le_refl _)
theorem PK{d:Nat}:∀ {tm:List (Nat × LV)},U0 d tm=true->∀t off,lk tm t≠some (.lp d off)
 | [],_,t,off=>by simp [lk]
 | (k,lv)::r,h,t,off=>by
  have hr:U0 d r=true/\∀off,lv ≠ .lp d off:=by
   cases lv with
   | lp j o=>
    simp only [U0,Bool.and_eq_true,bne_iff_ne] at h
    exact ⟨h.2,fun off e=>by injection e with e1 e2; exact h.1 e1⟩
   | _=>exact ⟨h,fun off e=>by cases e⟩
  simp only [lk]
  split
  ·intro e; injection e with e; exact hr.2 off e
  ·exact PK hr.1 t off
theorem Yz{b t off:Nat}:∀ {L:List Wr} {s:S},lk (s.DB L).tmps t=some (.lp b off)->lk s.tmps t=some (.lp b off)∨∃x∈L,lpW b x=true
 | [],s,h => .inl h
 | x::r,s,h=>by
  rcases Yz (L:=r) (s:=s.wq x) h with h1 | ⟨y,hy,hl⟩
  ·cases x with
   | tmp u v=>
    simp only [S.wq,B8] at h1
    split at h1
    ·injection h1 with h1
     subst h1
     exact .inr ⟨.tmp u (.lp b off),by simp,by simp [lpW]⟩
    ·exact .inl h1
   | Dq i ps=>exact .inl h1
   | cells i o vs=>
    simp only [S.wq] at h1
    split at h1
    ·exact .inl h1
    ·exact .inl h1
   | ext _ _ _=>exact .inl h1
  ·exact .inr ⟨y,List.mem_cons_of_mem _ hy,hl⟩
theorem kZ(Pb:Xw ops B2 s0.tmps=true){D D':Nat->Bool}{i:Nat}{o:Oper}{d:DS}(hc:NZ ops D)(ho:ops[i]?=some o)(hd:B2[i]?=some d)(hi:D i=false)(PB:D' i=true)
  (hD:∀j,j≠i->D' j=D j) (l6:∀m∈KU o,D m=true) (KV:Yy P cx ops.toArray Q e o d (sT s0 B2 e i) (DO (fun j=>decide (j<i)) 0 B2)):LI P cx ops.toArray Q o (sD s0 B2 e D) (sD s0 B2 e D'):=by
 obtain ⟨A,C,h1,h2,h3,h4⟩:=Mm hD hi PB (Nat.zero_le i) (by simpa using hd)
 have Afd:∀j∈oP ops i,D j=true:=fun j hj=>hc.reach (PJ hj) fun o' NA m hm=>by rw [ho] at NA; injection NA with NA; subst NA; exact l6 m hm
 have A6n:∀j,D j=true->i∉oP ops j:=fun j hj WK=>by
  have:D i=true:=hc.reach (PJ WK) fun o' NA m hm=>hc j o' NA hj m hm
  rw [hi] at this; cases this
 obtain ⟨-,-,c3,-,c5⟩:=Km Pb hd
 -- pairs that no edge orders
 have A6o:∀j dj,B2[j]?=some dj->j<i->D j=false->LH (oP ops i) j dj d=true/\j∉oP ops i:=fun j dj hj Ac Pc=>
  ⟨(c5 j dj hj oM).2 Ac,fun hm=>by have:=Afd j hm; rw [Pc] at this; cases this⟩
 have YA:∀j dj,B2[j]?=some dj->i<j->D j=true->WJ (wl d.ws) (dj.rd++wl dj.ws)=true/\WJ (wl dj.ws) d.rd=true/\(dj.Eh&&d.xf)=false:=fun j dj hj Ac Pc=>by
  have:=((Km Pb hj).2.2.2.2 i d hd oM).2 Ac
  simp only [LH,Bool.or_eq_true,Bool.and_eq_true,List.contains_eq_mem,decide_eq_true_eq,Bool.not_eq_true'] at this
  rcases this with hm | hm
  ·exact absurd hm (A6n j Pc)
  ·exact ⟨hm.1.1.1,hm.1.1.2,hm.2⟩
 have hkt:d.xf=true->DO D 0 B2=DO (fun j=>decide (j<i)) 0 B2:=fun hxf=>EF fun j dj hj WM=>by
  simp only [Nat.zero_add]
  by_cases Ac:j<i
  ·simp only [Ac,decide_true]
   cases hv:D j with
   | true=>rfl
   | false=>
    obtain ⟨hp,hna⟩:=A6o j dj hj Ac hv
    simp only [LH,Bool.or_eq_true,Bool.and_eq_true,List.contains_eq_mem,decide_eq_true_eq,Bool.not_eq_true'] at hp
    rcases hp with hm | hm
    ·exact absurd hm hna
    ·have:=hm.1.2; rw [WM,hxf] at this; cases this
  ·simp only [Ac,decide_false]
   cases hv:D j with
   | false=>rfl
   | true=>
    have yB:j≠i:=fun e0=>by subst e0; rw [hi] at hv; cases hv
    have:=(YA j dj hj oM hv).2.2
    rw [WM,hxf] at this; cases this
 have hrd:∀l∈d.rd,(sD s0 B2 e D).get l=(sT s0 B2 e i).get l:=fun l hl=>by
  by_cases hx:R5 l=true
  ·have hxf:d.xf=true:=by simp only [DS.xf,Bool.or_eq_true,List.any_eq_true]; exact .inr ⟨l,hl,hx⟩
   cases l with
   | t _=>cases hx
   | b _=>cases hx
   | x n=>simp only [S.get,sD,sT,hkt hxf]
  have:(sD s0 B2 e D).get l=(s0.DB (D0 D 0 B2)).get l:=by cases l <;> first | rfl | exact absurd rfl hx
  rw [this]
  have:(sT s0 B2 e i).get l=(s0.DB (D0 (fun j=>decide (j<i)) 0 B2)).get l:=by cases l <;> first | rfl | exact absurd rfl hx
  rw [this]
  refine TZ s0 (Mn fun j dj hj De x hx=>?_)
  simp only [Nat.zero_add] at De
  by_cases Ac:j<i
  ·have Pc:D j=false:=by
    cases hv:D j with
    | false=>rfl
    | true=>exact absurd (by rw [hv]; simp [Ac]) De
   obtain ⟨hp,hna⟩:=A6o j dj hj Ac Pc
   simp only [LH,Bool.or_eq_true,Bool.and_eq_true,List.contains_eq_mem,decide_eq_true_eq] at hp
   rcases hp with hm | hm
   ·exact absurd hm hna
   ·exact Kn hm.1.1.1 hx (List.mem_append_left _ hl)
  ·have Pc:D j=true:=by
    cases hv:D j with
    | true=>rfl
    | false=>exact absurd (by rw [hv]; simp; omega) De
   have yB:j≠i:=fun e0=>by subst e0; rw [hi] at Pc; cases Pc
   exact Kn (YA j dj hj oM Pc).2.1 hx hl
 have IV:∀b∈d.ws.filterMap Kl,∀t off,lk (sD s0 B2 e D).tmps t≠some (.lp b off):=fun b hb t off l7=>by
  rcases Yz (s:=s0) (L:=D0 D 0 B2) l7 with hs | ⟨x,hx,hlp⟩
  ·exact PK (c3 b hb) t off hs
  ·obtain ⟨j,dj,Pc,hj,hxj⟩:=NX hx
   simp only [Nat.zero_add] at Pc
   have yB:i≠j:=fun e0=>by subst e0; rw [hi] at Pc; cases Pc
   have:=((Km Pb hj).2.2.2.2 i d hd yB).1
   simp only [yA,List.all_eq_true,Bool.or_eq_true,List.contains_eq_mem,decide_eq_true_eq,Bool.not_eq_true'] at this
   rcases this b hb with hm | hm
   ·exact A6n j Pc hm
   ·rw [hm x hxj] at hlp; cases hlp
 have PN:=KV (sD s0 B2 e D) (DO D 0 B2) hrd hkt rfl IV
 have A6p:∀p,R5 p=false->(sD s0 B2 e D').get p=({ (sD s0 B2 e D).DB d.ws with ext:=e (DO D 0 B2+if d.Eh=true then 1 else 0) }:S).get p:=fun p hpx=>by
  have e1:(sD s0 B2 e D').get p=(s0.DB (D0 D' 0 B2)).get p:=by cases p <;> first | rfl | cases hpx
  have e2:({ (sD s0 B2 e D).DB d.ws with ext:=e (DO D 0 B2+if d.Eh=true then 1 else 0) }:S).get p=((sD s0 B2 e D).DB d.ws).get p:=by cases p <;> first | rfl | cases hpx
  have e3:(sD s0 B2 e D).get p=(s0.DB (D0 D 0 B2)).get p:=by cases p <;> first | rfl | cases hpx
  rw [e1,e2,GK p d.ws,e3,GK p,GK p,<-List.foldl_append,<-List.filter_append,h1,h2]
  congr 1
  simp only [List.filter_append,List.append_assoc]
  congr 1
  -- the two parts in the midst do not touch one place
  by_cases hB:d.ws.filter (Gd p)=[]
  ·simp [hB]
  ·have hC:C.filter (Gd p)=[]:=by
    refine List.filter_eq_nil_iff.2 fun x hx=>?_
    rw [h4] at hx
    obtain ⟨j,dj,Pc,hj,hxj⟩:=NX hx
    simp only [Nat.zero_add,Bool.and_eq_true,decide_eq_true_eq] at Pc
    obtain ⟨y,hy,l8⟩:∃y∈d.ws,Gd p y=true:=by
     rcases List.exists_mem_of_ne_nil _ hB with ⟨y,hy⟩
     exact ⟨y,(List.mem_filter.1 hy).1,(List.mem_filter.1 hy).2⟩
    intro htx
    have hpx:x.loc=some p:=of_decide_eq_true htx
    have WK:p∈dj.rd++wl dj.ws:=List.mem_append_right _ (List.mem_filterMap.2 ⟨x,hxj,hpx⟩)
    have:=Kn (YA j dj hj Pc.2 Pc.1).1 hy WK
    rw [l8] at this; cases this
   simp [hC]
 have YB:(sD s0 B2 e D').ext=e (DO D 0 B2+if d.Eh=true then 1 else 0):=by
  show e (DO D' 0 B2)=_
  rw [Mp hD hi PB (Nat.zero_le i) (by simpa using hd)]
 intro g l a w hs
 have:=PN g l a w hs
 split at this
 ·rename_i hw
  rw [iP hw]
  refine CA ?_ this
  rintro a' w' ⟨g',l',sm⟩
  exact ⟨g',l',sm.O1 A6p YB⟩
 ·rename_i hw
  rw [iN hw]
  obtain ⟨g',l',sm⟩:=this
  exact ⟨g',l',sm.O1 A6p YB⟩
end
section
variable {P:Program} {cx:Cx} {Q:A4->S->Prop} {ops:List Oper} {B2:List DS} {s0:S} {e:Nat->Ext}
def Dl(listed:Array Bool):Nat->Bool:=fun j=>listed.getD j false
theorem R6(n:Nat):Dl (Array.replicate n false)=fun _=>false:=by
 funext j
 simp only [Dl]
 by_cases h:j<n
 ·simp [h]
 ·simp [h]
theorem PO:∀ (l:List DS) (k:Nat),D0 (fun _=>false) k l=[]
 | [],_=>rfl
 | x::r,k=>by simp [D0,PO r]
theorem PR:∀ (l:List DS) (k:Nat),DO (fun _=>false) k l=0
 | [],_=>rfl
 | x::r,k=>by simp [DO,PR r]
theorem Gr{listed:Array Bool}{i:Nat}:i∈Region.ready .any ops.toArray listed↔listed.getD i true=false/\∃o,ops[i]?=some o/\∀m∈KU o,Dl listed m=true:=by
 rw [mem_ready]
 constructor
 ·rintro ⟨h0,o,ho,h⟩
  refine ⟨h0,o,by simpa using ho,fun m hm=>?_⟩
  simp only [KU,List.mem_map,List.mem_filter] at hm
  obtain ⟨ed,⟨h1,h2⟩,rfl⟩:=hm
  exact h ed (by simpa using h1) h2
 ·rintro ⟨h0,o,ho,h⟩
  refine ⟨h0,o,by simpa using ho,fun ed hed hb=>h _ ?_⟩
  simp only [KU,List.mem_map,List.mem_filter]
  exact ⟨ed,⟨by simpa using hed,hb⟩,rfl⟩
theorem U1(Pb:Xw ops B2 s0.tmps=true)(hlen:B2.length=ops.length){listed:Array Bool}(Bk:listed.size=ops.length)(hr:Region.ready .any ops.toArray listed=[]):∀i,i<ops.length->Dl listed i=true:=by
 intro i
 induction i using Nat.strongRecOn with
 | _ i ih=>
  intro Ac
  cases hv:listed.getD i true with
  | true=>
   have:i<listed.size:=by omega
   simp only [Dl]
   simp [this] at hv ⊢
   exact hv
  | false=>
   have CE:i<B2.length:=by omega
   obtain ⟨-,-,-,c4,-⟩:=Km Pb (List.getElem?_eq_getElem CE)
   have:i∈Region.ready .any ops.toArray listed:=Gr.2 ⟨hv,ops[i],List.getElem?_eq_getElem Ac,fun m hm=>by
    have:=c4 _ (List.getElem?_eq_getElem Ac) m hm
    exact ih m this oM⟩
   rw [hr] at this
   simp at this
theorem yC(hlen:B2.length=ops.length){D:Nat->Bool}(h:∀i,i<ops.length->D i=true):sD s0 B2 e D=sD s0 B2 e (fun _=>true):=by
 unfold sD
 rw [DK (D:=D) (D':=fun _=>true) (B2:=B2) (k:=0) fun j _ hj=>h j oM]
 rw [EF (D:=D) (D':=fun _=>true) (B2:=B2) (k:=0) fun j d hj _=>by
  have:=(List.getElem?_eq_some_iff.1 hj).1
  rw [Nat.zero_add]
  exact h j oM]
theorem l9(Pb:Xw ops B2 s0.tmps=true)(hlen:B2.length=ops.length)(hQ:Q .normal (sD s0 B2 e fun _=>true))
  (KV:∀i o d,ops[i]?=some o->B2[i]?=some d->Yy P cx ops.toArray Q e o d (sT s0 B2 e i) (DO (fun j=>decide (j<i)) 0 B2)) :
  ∀ (fuel:Nat) (listed:Array Bool) (L:List Nat) (g:Gh) (l:LG) (a:Act) (w:World),listed.size=ops.length->NZ ops (Dl listed)->(∀i,i<ops.length->listed.getD i true=false->i∈L)->L.length<=fuel ->
   B4 cx (sD s0 B2 e (Dl listed)) g l a w->wpAny P .any ops.toArray (post cx Q) fuel listed a w:=by
 intro fuel
 have oQ:∀ {listed:Array Bool} {g:Gh} {l:LG} {a:Act} {w:World},listed.size=ops.length->Region.ready .any ops.toArray listed=[]->B4 cx (sD s0 B2 e (Dl listed)) g l a w->post cx Q .normal a w:=fun {listed g l a w} Bk hr hs=>by
  have:=U1 Pb hlen Bk hr
  rw [yC hlen this] at hs
  exact ⟨.normal,_,g,l,hQ,trivial,hs⟩
 induction fuel with
 | zero=>
  intro listed L g l a w Bk hc hL hf hs
  have TV:L=[]:=List.eq_nil_of_length_eq_zero oM
  subst TV
  have hr:Region.ready .any ops.toArray listed=[]:=by
   apply List.eq_nil_iff_forall_not_mem.2
   intro i hi
   obtain ⟨h0,o,ho,-⟩:=Gr.1 hi
   exact absurd (hL i (List.getElem?_eq_some_iff.1 ho).1 h0) sM
  exact ⟨hr,oQ Bk hr hs⟩
 | succ fuel ih=>
  intro listed L g l a w Bk hc hL hf hs
  refine ⟨fun hr=>oQ Bk hr hs,fun i hi=>?_⟩
  obtain ⟨h0,o,ho,l6⟩:=Gr.1 hi
  have Ac:=(List.getElem?_eq_some_iff.1 ho).1
  have CE:i<B2.length:=by omega
  have kS:i<listed.size:=by omega
  have hd:=List.getElem?_eq_getElem CE
  have hDi:Dl listed i=false:=by
   simp only [Dl]
   simp [kS] at h0 ⊢
   exact h0
  have yD:Dl (listed.setIfInBounds i true) i=true:=by simp [Dl,kS]
  have hDD:∀j,j≠i->Dl (listed.setIfInBounds i true) j=Dl listed j:=fun j hj=>getD_set_ne false (Ne.symm hj)
  have Cw:=kZ (Q:=Q) (P:=P) (cx:=cx) Pb hc ho hd hDi yD hDD l6 (KV i o _ ho hd) g l a w hs
  have RH:NZ ops (Dl (listed.setIfInBounds i true)):=fun j oj hj Pc m hm=>by
   by_cases lA:j=i
   ·subst lA
    rw [ho] at hj
    injection hj with hj
    subst hj
    by_cases hmi:m=j
    ·rw [hmi]; exact yD
    ·rw [hDD m hmi]; exact l6 m hm
   ·rw [hDD j lA] at Pc
    by_cases hmi:m=i
    ·rw [hmi]; exact yD
    ·rw [hDD m hmi]; exact hc j oj hj Pc m hm
  have oS:∀g l a w,B4 cx (sD s0 B2 e (Dl (listed.setIfInBounds i true))) g l a w->wpAny P .any ops.toArray (post cx Q) fuel (listed.setIfInBounds i true) a w:=fun g l a w hs=>by
   have WK:=hL i Ac h0
   refine ih _ (L.erase i) g l a w (by simp [Bk]) RH (fun j hj hjl=>?_) (by rw [List.length_erase_of_mem WK]; have:=List.length_pos_of_mem WK; omega) hs
   have lA:j≠i:=fun e0=>by subst e0; simp [kS] at hjl
   rw [getD_set_ne true (Ne.symm lA)] at hjl
   exact (List.mem_erase_of_ne lA).2 (hL j hj hjl)
  have NA:ops.toArray[i]?=some o:=by simpa using ho
  unfold wpOp
  rw [NA]
  simp only
  split
  ·rename_i hw
   rw [iP hw] at Cw
   refine .inl (Oper.wp_mono ?_ Cw)
   rintro a' w' ⟨g',l',sm⟩
   exact oS g' l' a' w' sm
  ·rename_i hw
   rw [iN hw] at Cw
   obtain ⟨g',l',sm⟩:=Cw
   exact oS g' l' _ _ sm
theorem R7{id:Nat}(hm:P.follows .mixedOrders=true)(Pb:Xw ops B2 s0.tmps=true)(hlen:B2.length=ops.length)(he:e 0=s0.ext)(hQ:Q .normal (sD s0 B2 e fun _=>true))
  (KV:∀i o d,ops[i]?=some o->B2[i]?=some d->Yy P cx ops.toArray Q e o d (sT s0 B2 e i) (DO (fun j=>decide (j<i)) 0 B2)):PW P cx (.region id ops.toArray true) s0 Q:=fun g l a w hs=>by
 refine wp_region_any hm ?_
 have Tr:B4 cx s0 g l a { w with drawn:=w.drawn+1 }:=hs.drew.1
 refine l9 Pb hlen hQ KV _ _ (List.range ops.length) g l a _ sM ?_ (fun i hi _=>by simpa using hi) sM ?_
 ·intro j o hj hD
  rw [R6] at hD
  cases hD
 ·have e1:D0 (Dl (Array.replicate ops.toArray.size false)) 0 B2=[]:=by rw [R6]; exact PO _ _
  have e2:DO (Dl (Array.replicate ops.toArray.size false)) 0 B2=0:=by rw [R6]; exact PR _ _
  unfold sD
  rw [e1,e2,he]
  exact Tr
end
def R8:Wr->Bool
 | .ext _ _ _=>true
 | _=>false
def IQ:Ext->List Wr->Ext
 | e,[]=>e
 | e,.ext n off vs::r=>IQ (match lk e n with | some cs=>put e n (AA cs off vs) | none=>e) r
 | e,_::r=>IQ e r
theorem O2:∀ {r:List Wr} {e:Ext},r.any R8=false->IQ e r=e
 | [],_,_=>rfl
 | x::r,e,h=>by
  simp only [List.any_cons,Bool.or_eq_false_iff] at h
  cases x with
  | ext _ _ _=>cases h.1
  | _=>simp only [IQ]; exact O2 (r:=r) h.2
theorem PS:∀ {r:List Wr},r.any R8=false->r.filter D9=r
 | [],_=>rfl
 | x::r,h=>by
  simp only [List.any_cons,Bool.or_eq_false_iff] at h
  have:=PS h.2
  cases x with
  | ext _ _ _=>cases h.1
  | _=>rw [List.filter_cons_of_pos rfl,this]
theorem Hs:∀ {r:List Wr} {s:S},s.DB (r.filter D9)=s.DB r
 | [],_=>rfl
 | x::r,s=>by
  cases x with
  | ext n off vs=>simp only [List.filter_cons,D9,Bool.false_eq_true,if_false,S.DB,S.wq]; exact Hs
  | tmp _ _=>simp only [List.filter_cons,D9,if_true,S.DB]; exact Hs
  | Dq _ _=>simp only [List.filter_cons,D9,if_true,S.DB]; exact Hs
  | cells _ _ _=>simp only [List.filter_cons,D9,if_true,S.DB]; exact Hs
theorem Pd{s t:S}{l:Loc}(h:s.get l=t.get l)(L:List Wr):(s.DB L).get l=(t.DB L).get l:=by rw [GK,GK,h]
theorem yE(s:S)(x:Wr):(s.wr x).ext=IQ s.ext [x]:=by
 cases x with
 | tmp _ _=>rfl
 | Dq _ _=>rfl
 | cells i off vs=>simp only [S.wr,IQ]; split <;> rfl
 | ext n off vs=>simp only [S.wr,IQ]; cases lk s.ext n <;> rfl
theorem WN(e:Ext)(x:Wr)(r:List Wr):IQ e (x::r)=IQ (IQ e [x]) r:=by cases x <;> rfl
theorem V4:∀ (r:List Wr) (s:S),(s.I9 r).ext=IQ s.ext r
 | [],_=>rfl
 | x::r,s=>by rw [WN,<-yE]; exact V4 r _
theorem YC{s t:S}{x:Wr}(hx:Kl x=none)(h:∀l,R5 l=false->s.get l=t.get l):∀l,R5 l=false->(s.wr x).get l=(t.wq x).get l:=fun l hl=>by
 have hb:∀i,lk s.boxes i=lk t.boxes i:=fun i=>Yx (h (.b i) rfl)
 cases x with
 | tmp u v=>
  cases l with
  | t k=>have:=Sg (h (.t k) rfl); simp [S.wr,S.wq,S.get,B8,this]
  | b k=>have:=hb k; simp [S.wr,S.wq,S.get,this]
  | x k=>cases hl
 | Dq _ _=>cases hx
 | cells i off vs=>
  simp only [S.wr,S.wq,hb i]
  cases hi:lk t.boxes i with
  | none=>exact h l hl
  | some cs=>
   cases l with
   | t k=>exact h (.t k) rfl
   | b k=>simp [S.get,B8,hb k]
   | x k=>cases hl
 | ext n off vs=>
  have:(s.wr (.ext n off vs)).get l=s.get l:=by
   cases l with
   | t k=>simp only [S.wr]; split <;> rfl
   | b k=>simp only [S.wr]; split <;> rfl
   | x k=>cases hl
  rw [this]
  exact h l hl
theorem LJ:∀ {r:List Wr} {s t:S},(∀x∈r,Kl x=none)->(∀l,R5 l=false->s.get l=t.get l)->∀l,R5 l=false->(s.I9 r).get l=(t.DB r).get l
 | [],_,_,_,h=>h
 | x::r,s,t,hn,h=>LJ (r:=r) (fun y hy=>hn y (List.mem_cons_of_mem _ hy)) (YC (hn x sM) h)
theorem JO{x:Wr}{r:List Wr}(hx:D9 x=true)(h:Hr ((x::r).filter D9)=true):∀y∈r,Kl y=none:=fun y hy=>by
 simp only [List.filter_cons,hx,if_true,Hr,List.all_eq_true] at h
 cases hp:D9 y with
 | true=>exact Option.isNone_iff_eq_none.1 (h y (List.mem_filter.2 ⟨hy,hp⟩))
 | false=>cases y <;> first | rfl | cases hp
theorem V5:∀ {ws:List Wr} {s:S},Hr (ws.filter D9)=true->(∀b∈ws.filterMap Kl,∀t off,lk s.tmps t≠some (.lp b off))->∀l,R5 l=false->(s.I9 ws).get l=(s.DB ws).get l
 | [],_,_,_=>fun _ _=>rfl
 | x::r,s,hf,hn=>by
  cases hx:Kl x with
  | none=>
   cases hp:D9 x with
   | true=>exact LJ (r:=x::r) (fun y hy=>by rcases List.mem_cons.1 hy with rfl | hy; exact hx; exact JO hp hf y hy) fun _ _=>rfl
   | false=>
    cases x with
    | ext n off vs=>
     intro l hl
     have e1:∀l,R5 l=false->(s.wr (.ext n off vs)).get l=s.get l:=fun l hl=>YC rfl (fun _ _=>rfl) l hl
     have et:(s.wr (.ext n off vs)).tmps=s.tmps:=by simp only [S.wr]; split <;> rfl
     have:=V5 (ws:=r) (s:=s.wr (.ext n off vs)) (by simpa [List.filter_cons,D9] using hf) (fun b hb t off=>by rw [et]; exact hn b (by simpa [Kl,List.filterMap_cons] using hb) t off) l hl
     show ((s.wr (.ext n off vs)).I9 r).get l=(s.DB r).get l
     rw [this]
     exact Pd (e1 l hl) r
    | _=>cases hp
  | some d=>
   cases x with
   | Dq i ps=>
    injection hx with hx
    subst hx
    have hr:=JO (x := .Dq i ps) rfl hf
    refine LJ (r:=r) (s:=s.wr (.Dq i ps)) (t:=s.wq (.Dq i ps)) hr fun l hl=>?_
    cases l with
    | t k=>
     simp only [S.wr,S.wq,S.get,KL]
     cases hk:lk s.tmps k with
     | none=>rfl
     | some lv=>
      simp only [Option.map_some]
      rcases XP (i:=i) (lv:=lv) with hj | ⟨he,-⟩
      ·cases lv with
       | lp j o=>
        simp only [kl] at hj ⊢
        split
        ·rename_i e0; subst e0; exact absurd hk (hn j (by simp [Kl,List.filterMap_cons]) k o)
        ·rfl
       | _=>rfl
      ·rw [he]
    | b k=>rfl
    | x k=>cases hl
   | _=>cases hx
def Ct.lv:Ct->Option LV
 | .ret p=>some (.v p)
 | .own e z es=>some (.uniq e z es)
 | .panic _=>none
def DC(o:Oper)(lv:LV):List Wr:=match o.dst with
 | some d=>[.tmp d lv]
 | none=>[]
section
variable {P:Program} {cx:Cx} {Q:A4->S->Prop}
def Gs(P:Program)(ro:TypeId->Option Bool)(n:Nat)(all:List Oper)(o:Oper)(gr:List Loc)(s:S)(K:DS->Option Ext->S->Prop):Prop:=match callee P o with
 | some r=>r.Ic s fun x rd=>FQ P x.1=true/\((∃r lv,r.lv=some lv/\(∀e,C7 P x.1 x.2 e fun r' e'=>r'=r/\e'=e)/\K ⟨gr++rd,DC o lv,false⟩ none (s.DB (DC o lv)))
   ∨ ∃r lv e',r.lv=some lv/\C7 P x.1 x.2 s.ext (fun r' e''=>r'=r/\e''=e')/\K ⟨gr++rd,DC o lv,true⟩ (some e') { s.DB (DC o lv) with ext:=e' })
 | none=>(act P ro n all o).Ic s fun wr rd=>if wr.any R8=true then K ⟨gr++rd,wr.filter D9,true⟩ (some (IQ s.ext wr)) { s.DB (wr.filter D9) with ext:=IQ s.ext wr }
   else K ⟨gr++rd,wr,false⟩ none (s.DB wr)
def oU(P:Program)(ro:TypeId->Option Bool)(n:Nat)(all:List Oper):List Oper->S->(List DS->List Ext->S->Prop)->Prop
 | [],s,K=>K [] [] s
 | o::rest,s,K=>match o.guard with
  | none=>Gs P ro n all o [] s fun d x s'=>oU P ro n all rest s' fun ds xs t=>K (d::ds) (x.toList++xs) t
  | some (j,want)=>match (all[j]?).bind (·.dst) with
   | some dj=>match (lk s.tmps dj).bind (NV want) with
    | some b=>if b=true then Gs P ro n all o [.t dj] s fun d x s'=>oU P ro n all rest s' fun ds xs t=>K (d::ds) (x.toList++xs) t
     else oU P ro n all rest (s.DB (DC o (.v (.Bf [])))) fun ds xs t=>K (⟨[.t dj],DC o (.v (.Bf [])),false⟩::ds) xs t
    | none=>False
   | none=>False
def U2(P:Program)(cx:Cx)(all:Array Oper)(Q:A4->S->Prop)(o:Oper)(d:DS)(si:S)(e':Ext):Prop:=
 Hr d.ws=true->∀s,(∀l∈d.rd,s.get l=si.get l)->(d.xf=true->s.ext=si.ext)->(∀b∈d.ws.filterMap Kl,∀t off,lk s.tmps t≠some (.lp b off))->LI P cx all Q o s { s.DB d.ws with ext:=if d.Eh=true then e' else s.ext }
def J3(P:Program)(cx:Cx)(all:Array Oper)(Q:A4->S->Prop):List Oper->List DS->List Ext->S->S->Prop
 | [],[],[],s,t=>t=s
 | o::rest,d::ds,xs,s,t=>∃ (x:Option Ext) (lB:List Ext),xs=x.toList++lB/\d.Eh=x.isSome/\U2 P cx all Q o d s (x.getD s.ext)/\J3 P cx all Q rest ds lB { s.DB d.ws with ext:=x.getD s.ext } t
 | _,_,_,_,_=>False
theorem LI.of{all:Array Oper}{o:Oper}{s s' t:S}(hg:∀p,R5 p=false->t.get p=s'.get p)(hx:t.ext=s'.ext)(h:LI P cx all Q o s s'):LI P cx all Q o s t:=fun g l a w hs=>by
 have:=h g l a w hs
 split
 ·rename_i hw
  rw [iP hw] at this
  exact CA (fun a' w' ⟨g',l',sm⟩=>⟨g',l',sm.O1 hg hx⟩) this
 ·rename_i hw
  rw [iN hw] at this
  obtain ⟨g',l',sm⟩:=this
  exact ⟨g',l',sm.O1 hg hx⟩
theorem FD{ro:TypeId->Option Bool}{all:List Oper}{o:Oper}{gr:List Loc}{si:S}{K:DS->Option Ext->S->Prop}(hd:∀d,o.dst=some d->d<cx.n)
  (E3:∀s,(∀l∈gr,s.get l=si.get l)->∀g l a w,B4 cx s g l a w->Region.wanted o (yielded all.toArray a.tmps)=true) (h:Gs P ro cx.n all o gr si K) :
  ∃d x s',K d x s'/\d.Eh=x.isSome/\s'={ si.DB d.ws with ext:=x.getD si.ext }/\U2 P cx all.toArray Q o d si (x.getD si.ext):=by
 have GL:∀ {r:RM (FuncId × List PV)} {x:FuncId × List PV} {rd:List Loc} {res:Ct} {lv:LV} {Eh:Bool} {e':Ext},callee P o=some r->(∀s',(∀l∈rd,s'.get l=si.get l)->r.wp s' fun y=>y=x)->FQ P x.1=true->res.lv=some lv ->
   (∀s:S,(Eh=true->s.ext=si.ext)->C7 P x.1 x.2 s.ext (fun r' e''=>r'=res/\e''=if Eh=true then e' else s.ext))->U2 P cx all.toArray Q o ⟨gr++rd,DC o lv,Eh⟩ si e':=by
  intro r x rd res lv Eh e' hr KV Ml GD hC _ s PT Xx _ g l a w hs
  rw [iP (E3 s (fun l hl=>PT l (List.mem_append_left _ hl)) g l a w hs)]
  have hC':=hC s fun he=>Xx (by simp [DS.xf,he])
  have:=Gc (Q:=Q) (K:=fun s'=>s'=s.Nb o.dst lv (if Eh=true then e' else s.ext)) hr hd hs (RM.wp_mono (fun y hy=>by
   subst hy
   refine ⟨Ml,hC'.mono ?_⟩
   rintro r' e'' ⟨rfl,rfl⟩
   cases r' with
   | ret p=>simp only [Ct.lv,Option.some.injEq] at GD; subst GD; rfl
   | own te z es=>simp only [Ct.lv,Option.some.injEq] at GD; subst GD; rfl
   | panic p=>cases GD) (KV s fun l hl=>PT l (List.mem_append_right _ hl)))
  refine CA ?_ this
  rintro a' w' ⟨s',g',l',rfl,sm⟩
  refine ⟨g',l',?_⟩
  have e1:({ s.DB (DC o lv) with ext:=if Eh=true then e' else s.ext }:S)=s.Nb o.dst lv (if Eh=true then e' else s.ext):=by
   unfold DC S.Nb
   cases o.dst <;> rfl
  show B4 cx { s.DB (DC o lv) with ext:=if Eh=true then e' else s.ext } g' l' a' w'
  rw [e1]
  exact sm
 unfold Gs at h
 split at h
 ·rename_i r hr
  obtain ⟨x,rd,⟨Ml,hk⟩,KV⟩:=RM.Ft h
  rcases hk with hk | hk
  ·obtain ⟨res,lv,GD,hC,hK⟩:=hk
   refine ⟨_,_,_,hK,rfl,?_,GL hr KV Ml GD fun s _=>?_⟩
   ·have:=KT (DC o lv) si
    show si.DB (DC o lv)={ si.DB (DC o lv) with ext:=si.ext }
    rw [<-this]
   ·exact hC s.ext
  ·obtain ⟨res,lv,e',GD,hC,hK⟩:=hk
   refine ⟨_,_,_,hK,rfl,rfl,GL hr KV Ml GD fun s hs=>?_⟩
   rw [hs rfl]
   exact hC
 ·obtain ⟨wr,rd,hk,KV⟩:=RM.Ft h
  have A6q:∀ {Eh:Bool},Eh=wr.any R8->U2 P cx all.toArray Q o ⟨gr++rd,wr.filter D9,Eh⟩ si (IQ si.ext wr):=by
   intro Eh WM YD s PT Xx IV g l a w hs
   rw [iP (E3 s (fun l hl=>PT l (List.mem_append_left _ hl)) g l a w hs)]
   have:=Gl hs (KV s fun l hl=>PT l (List.mem_append_right _ hl)) (post cx Q)
   refine CA ?_ this
   rintro a' w' ⟨wr',g',l',rfl,sm⟩
   refine ⟨g',l',sm.O1 (fun p hp=>?_) ?_⟩
   ·have QT:∀b∈wr'.filterMap Kl,∀t off,lk s.tmps t≠some (.lp b off):=fun b hb=>IV b (by
     simp only [List.mem_filterMap] at hb ⊢
     obtain ⟨y,hy,hyb⟩:=hb
     exact ⟨y,List.mem_filter.2 ⟨hy,by cases y <;> first | rfl | cases hyb⟩,hyb⟩)
    have e1:=V5 YD QT p hp
    rw [e1]
    simp only [Hs]
    cases p <;> first | rfl | cases hp
   ·rw [V4]
    simp only
    cases Eh with
    | true=>simp only [if_true]; rw [Xx (by simp [DS.xf])]
    | false=>simp only [Bool.false_eq_true,if_false]; exact (O2 WM.symm).symm
  split at hk
  ·rename_i hx
   exact ⟨_,_,_,hk,rfl,rfl,A6q hx.symm⟩
  ·rename_i hx
   have hx':wr.any R8=false:=by simpa using hx
   have:=A6q hx'.symm
   rw [PS hx'] at this
   refine ⟨_,_,_,hk,rfl,?_,?_⟩
   ·have:=KT wr si
    show si.DB wr={ si.DB wr with ext:=si.ext }
    rw [<-this]
   ·have e2:=O2 (e:=si.ext) hx'
    rw [e2] at this
    exact this
theorem JB{ro:TypeId->Option Bool}{all:List Oper}(Bv:F0 cx.n all=true):∀ {ls:List Oper} {s:S} {K:List DS->List Ext->S->Prop},(∀o∈ls,o∈all)->oU P ro cx.n all ls s K ->
  ∃B2 xs t,K B2 xs t/\J3 P cx all.toArray Q ls B2 xs s t
 | [],s,K,_,h=>⟨[],[],s,h,rfl⟩
 | o::rest,s,K,hm,h=>by
  have hd:∀d,o.dst=some d->d<cx.n:=DA Bv (hm o sM)
  have Fk:∀o∈rest,o∈all:=fun o ho=>hm o (List.mem_cons_of_mem _ ho)
  simp only [oU] at h
  split at h
  ·rename_i hg
   obtain ⟨d,x,s',hk,he,rfl,hl⟩:=FD (Q:=Q) (o:=o) (all:=all) (gr:=[]) hd (fun s _ g l a w _=>by simp [Region.wanted,hg]) h
   obtain ⟨B2,xs,t,h1,h2⟩:=JB Bv Fk hk
   exact ⟨d::B2,x.toList++xs,t,h1,x,xs,rfl,he,hl,h2⟩
  ·rename_i j want hg
   split at h
   ·rename_i dj U3
    have YE:dj<cx.n:=by
     simp only [Option.bind_eq_some_iff] at U3
     obtain ⟨oj,h1,h2⟩:=U3
     exact DA Bv (List.mem_of_getElem? h1) dj h2
    split at h
    ·rename_i b hb
     simp only [Option.bind_eq_some_iff] at hb
     obtain ⟨lv,GD,hb⟩:=hb
     have E3:∀s',(∀l∈[Loc.t dj],s'.get l=s.get l)->∀g l a w,B4 cx s' g l a w->Region.wanted o (yielded all.toArray a.tmps)=b:=fun s' Tr g l a w sm=>by
      have h1:lk s'.tmps dj=some lv:=by rw [Sg (Tr (.t dj) sM)]; exact GD
      simp only [Region.wanted,hg]
      exact Kj (by simpa using U3) YE sm h1 hb
     split at h
     ·rename_i hbt
      subst hbt
      obtain ⟨d,x,s',hk,he,rfl,hl⟩:=FD (Q:=Q) (o:=o) (all:=all) (gr:=[.t dj]) hd E3 h
      obtain ⟨B2,xs,t,h1,h2⟩:=JB Bv Fk hk
      exact ⟨d::B2,x.toList++xs,t,h1,x,xs,rfl,he,hl,h2⟩
     ·rename_i hbf
      have Afe:b=false:=by simpa using hbf
      subst Afe
      obtain ⟨B2,xs,t,h1,h2⟩:=JB Bv Fk h
      refine ⟨_::B2,xs,t,h1,none,xs,rfl,rfl,?_,?_⟩
      ·intro _ s' PT Xx _ g l a w sm
       rw [iN (by rw [E3 s' PT g l a w sm]; simp)]
       refine ⟨g,l,?_⟩
       show B4 cx { s'.DB (DC o (.v (.Bf []))) with ext:=s'.ext } g l (a.put o.dst undef) w
       unfold DC
       cases FZ:o.dst with
       | none=>exact sm
       | some d=>exact sm.set (hd d FZ) (.Bf [] [] rfl fun j h=>by simp at h)
      ·have:=KT (DC o (.v (.Bf []))) s
       have e2:s.DB (DC o (.v (.Bf [])))={ s.DB (DC o (.v (.Bf []))) with ext:=s.ext }:=by rw [<-this]
       rw [e2] at h2
       exact h2
    ·exact h.elim
   ·exact h.elim
theorem Ko:∀ (A B:List Wr) (s:S),s.DB (A++B)=(s.DB A).DB B
 | [],_,_=>rfl
 | x::r,B,s=>by simp only [List.cons_append,S.DB]; exact Ko r B _
theorem lC(s:S)(e:Ext)(x:Wr):({ s with ext:=e }:S).wq x={ s.wq x with ext:=e }:=by
 cases x with
 | cells i off vs=>simp only [S.wq]; split <;> rfl
 | _=>rfl
theorem Si:∀ (A:List Wr) (s:S) (e:Ext),({ s with ext:=e }:S).DB A={ s.DB A with ext:=e }
 | [],_,_=>rfl
 | x::r,s,e=>by simp only [S.DB,lC]; exact Si r _ e
theorem Ht:∀ (B2:List DS) (k i:Nat),D0 (fun j=>decide (j<k+i)) k B2=(B2.take i).flatMap (·.ws)
 | [],_,_=>by simp [D0]
 | d::r,k,0=>by
  have:=Ht r (k+1) 0
  have h2:D0 (fun j=>decide (j<k+0)) (k+1) r=D0 (fun j=>decide (j<k+1+0)) (k+1) r:=DK fun j h1 _=>by simp; omega
  simp only [D0,h2,this]
  simp
 | d::r,k,i+1=>by
  have:=Ht r (k+1) i
  rw [show k+1+i=k+(i+1) by omega] at this
  simp only [D0,this]
  simp
theorem EM:∀ (B2:List DS) (k i:Nat),DO (fun j=>decide (j<k+i)) k B2=(B2.take i).countP (·.Eh)
 | [],_,_=>by simp [DO]
 | d::r,k,0=>by
  have:=EM r (k+1) 0
  have h2:DO (fun j=>decide (j<k+0)) (k+1) r=DO (fun j=>decide (j<k+1+0)) (k+1) r:=EF fun j d' _ _=>by
   have h3:¬k+1+j<k+0:=by omega
   have h4:¬k+1+j<k+1+0:=by omega
   simp only [h3,h4]
  simp only [DO,h2,this]
  simp
 | d::r,k,i+1=>by
  have:=EM r (k+1) i
  rw [show k+1+i=k+(i+1) by omega] at this
  simp only [DO,this]
  simp only [List.take_succ_cons,List.countP_cons]
  cases d.Eh <;> simp <;> omega
def V6(s:S)(B2:List DS)(xs:List Ext)(i:Nat):S:={ s.DB ((B2.take i).flatMap (·.ws)) with ext:=(s.ext::xs).getD ((B2.take i).countP (·.Eh)) [] }
theorem J3.at_{all:Array Oper}:∀ {ls:List Oper} {B2:List DS} {xs:List Ext} {s t:S},J3 P cx all Q ls B2 xs s t->B2.length=ls.length/\t=V6 s B2 xs B2.length /\
  ∀i o d,ls[i]?=some o->B2[i]?=some d->∃e',U2 P cx all Q o d (V6 s B2 xs i) e'/\(d.Eh=true->e'=(s.ext::xs).getD ((B2.take i).countP (·.Eh)+1) [])
 | [],[],[],s,t,h=>⟨rfl,by
   have:t=s:=h
   subst this; rfl,fun i o d ho=>by simp at ho⟩
 | o0::rest,d0::ds,xs,s,t,h=>by
  obtain ⟨x,lB,rfl,he,hl,hc⟩:=h
  obtain ⟨k1,k2,k3⟩:=J3.at_ hc
  have key:∀i,V6 { s.DB d0.ws with ext:=x.getD s.ext } ds lB i=V6 s (d0::ds) (x.toList++lB) (i+1):=fun i=>by
   unfold V6
   rw [Si]
   simp only [List.take_succ_cons,List.flatMap_cons,Ko,List.countP_cons,he]
   cases x with
   | none=>simp
   | some e1=>simp
  have kn:∀i,(({ s.DB d0.ws with ext:=x.getD s.ext }:S).ext::lB).getD ((ds.take i).countP (·.Eh)+1) []=(s.ext::(x.toList++lB)).getD (((d0::ds).take (i+1)).countP (·.Eh)+1) []:=fun i=>by
   simp only [List.take_succ_cons,List.countP_cons,he]
   cases x with
   | none=>simp
   | some e1=>simp
  refine ⟨by simp [k1],by rw [k2,key]; rfl,fun i o d ho hd=>?_⟩
  cases i with
  | zero=>
   simp only [List.getElem?_cons_zero,Option.some.injEq] at ho hd
   subst ho hd
   refine ⟨x.getD s.ext,?_,fun Xy=>?_⟩
   ·have:V6 s (d0::ds) (x.toList++lB) 0=s:=by unfold V6; simp [S.DB]
    rw [this]
    exact hl
   ·rw [he] at Xy
    cases x with
    | none=>cases Xy
    | some e1=>simp
  | succ i=>
   simp only [List.getElem?_cons_succ] at ho hd
   obtain ⟨e',h1,h2⟩:=k3 i o d ho hd
   rw [key] at h1
   exact ⟨e',h1,fun Xy=>by rw [h2 Xy]; exact kn i⟩
 | [],_::_,_,_,_,h=>h.elim
 | _::_,[],_,_,_,h=>h.elim
 | [],[],_::_,_,_,h=>h.elim
theorem YF(ro:TypeId->Option Bool)(n:Nat){id:Nat}{ops:List Oper}{s:S}(hm:P.follows .mixedOrders=true)(hn:cx.n=n)(Bv:F0 n ops=true)
  (h:oU P ro n ops ops s fun B2 _ t=>Xw ops B2 s.tmps=true/\Q .normal t):PW P cx (.region id ops.toArray true) s Q:=by
 subst hn
 obtain ⟨B2,xs,t,⟨hc,hq⟩,hch⟩:=JB (Q:=Q) Bv (fun _ h=>h) h
 obtain ⟨k1,k2,k3⟩:=hch.at_
 have hT:∀i,sT s B2 (fun k=>(s.ext::xs).getD k []) i=V6 s B2 xs i:=fun i=>by
  unfold sT V6
  have h1:=Ht B2 0 i
  have h2:=EM B2 0 i
  simp only [Nat.zero_add] at h1 h2
  rw [h1,h2]
 refine R7 (B2:=B2) (e:=fun k=>(s.ext::xs).getD k []) hm hc k1 rfl ?_ fun i o d ho hd=>?_
 ·have h1:=hT B2.length
  have h2:sD s B2 (fun k=>(s.ext::xs).getD k []) (fun _=>true)=sT s B2 (fun k=>(s.ext::xs).getD k []) B2.length:=by
   unfold sD sT
   rw [DK (D:=fun _=>true) (D':=fun j=>decide (j<B2.length)) (B2:=B2) (k:=0) fun j _ hj=>by simp at hj; simp [hj]]
   rw [EF (D:=fun _=>true) (D':=fun j=>decide (j<B2.length)) (B2:=B2) (k:=0) fun j d' hj _=>by
    have:=(List.getElem?_eq_some_iff.1 hj).1
    simp [this]]
  rw [h2,h1,<-k2]
  exact hq
 ·obtain ⟨e',h1,h2⟩:=k3 i o d ho hd
  rw [hT]
  have hk:DO (fun j=>decide (j<i)) 0 B2=(B2.take i).countP (·.Eh):=by
   have:=EM B2 0 i
   simpa using this
  rw [hk]
  intro s' k PT oV Ts IV
  obtain ⟨-,YD,-⟩:=Km hc hd
  have:=h1 YD s' PT (fun hx=>by rw [Ts,oV hx]; rfl) IV
  refine this.of (fun p hp=>?_) ?_
  ·cases p <;> first | rfl | cases hp
  ·simp only
   cases Xy:d.Eh with
   | true=>
    have LK:=oV (by simp [DS.xf,Xy])
    rw [LK,h2 Xy]
    rfl
   | false=>simp only [Bool.false_eq_true,if_false,Nat.add_zero]; exact Ts.symm
end
section
variable {P:Program} {cx:Cx} {s t:S} {g:Gh} {l:LG} {a:Act} {w:World} {o:Oper}
theorem B4.YG(h:B4 cx s g l a w)(cur:Array Value)(e:TypeId)(cs:List LV)(hlen:cs.length<=cur.size)(hr:∀j (hj:j<cs.length),cs[j] = .DN∨∃p,cs[j] = .v p/\BN g w p (cur.getD j undef))(Cg:∀u∈cur.toList,u.oneCell'=true) :
  B4 cx { s with ext:=put s.ext (Eg s.ext) cs } { g with M:=DT g.M w.heap.size (some 0),X:=DT g.X (Eg s.ext) (some w.heap.size) }
   { l with O:=DT l.O w.heap.size (some (.x (Eg s.ext))) } a (w.alloc (.cells cur e)) /\
  C3 g w { g with M:=DT g.M w.heap.size (some 0),X:=DT g.X (Eg s.ext) (some w.heap.size) } (w.alloc (.cells cur e)):=by
 have hb:∀b,b<w.heap.size->(w.alloc (.cells cur e)).heap[b]?=w.heap[b]?:=fun b hb=>Below.heap_alloc w _ b hb
 have hX:∀n b,g.X n=some b->DT g.X (Eg s.ext) (some w.heap.size) n=some b:=fun n b hx=>by
  rw [As]
  ·exact hx
  ·intro e0
   rw [e0,h.fresh.2.1 _ (Nat.le_refl _)] at hx
   cases hx
 have hm:C3 g w { g with M:=DT g.M w.heap.size (some 0),X:=DT g.X (Eg s.ext) (some w.heap.size) } (w.alloc (.cells cur e)):=by
  refine ⟨hX,fun b o v hc hf=>?_,EK hb,fun _ _ _ h=>h⟩
  have Ac:=World.block_lt_of_cell? w _ hc
  refine ⟨by rw [<-hc]; exact World.cell?_of_block (hb b Ac),fun k hk=>hf k ?_⟩
  simp only at Ac
  rw [<-As g.M (some 0) (Nat.ne_of_lt Ac)]; exact hk
 have hU:∀ {p b},l.U p=some b->l.U p=some b/\DT g.M w.heap.size (some 0) b=g.M b/\(w.alloc (.cells cur e)).heap[b]?=w.heap[b]?:=fun {p b} hu=>by
  have Ac:=(h.own b _ (h.uo _ _ hu)).1
  exact ⟨hu,As _ _ (Nat.ne_of_lt Ac),hb b Ac⟩
 have Bk:(w.alloc (.cells cur e)).heap.size=w.heap.size+1:=by simp
 refine ⟨⟨⟨h.AR.mono.trans hm,by rw [Bk]; exact Nat.le_succ_of_le h.AR.size,fun b Ac ho=>?_,h.AR.os,h.AR.tape,h.AR.output,h.AR.Kf.mono hm⟩,h.size,h.defers,?_,?_,?_,?_,?_,?_,?_⟩,hm⟩
 ·obtain ⟨h1,h2⟩:=h.AR.frame b Ac ho
  have CE:=Nat.lt_of_lt_of_le Ac h.AR.size
  exact ⟨(hb b CE).trans h1,(As g.M (some 0) (Nat.ne_of_lt CE)).trans h2⟩
 ·intro t lv ht
  exact (h.tm t lv ht).BR hm (fun _ _ _=>rfl) fun b hu=>hU hu
 ·intro k cs hk
  obtain ⟨b,h1,h2,h3,cur',e',h4,h5,h6⟩:=h.bx k cs hk
  have Ac:=(h.own b _ h2).1
  refine ⟨b,h1,(As _ _ (Nat.ne_of_lt Ac)).trans h2,(As _ _ (Nat.ne_of_lt Ac)).trans h3,cur',e',(hb b Ac).trans h4,h5,fun j hj=>⟨(h6 j hj).1,(h6 j hj).2.1,(h6 j hj).2.2.BR hm (fun _ _ _=>rfl) fun b hu=>hU hu⟩⟩
 ·intro k KM hk
  simp only [B8] at hk
  split at hk
  ·rename_i ek
   subst ek
   injection hk with hk
   subst hk
   refine A64 (Bl _ _ _) (Bl _ _ _) ⟨Bl _ _ _,cur,e,heap_alloc_new w _,hlen,fun j hj=>?_⟩
   have Xq:j<cur.size:=by omega
   have Yd:(cur.getD j undef).oneCell'=true:=Cg _ (by simp [Xq])
   rcases hr j hj with hx | ⟨p,hx,hrp⟩
   ·rw [hx]; exact ⟨rfl,Yd,B7⟩
   ·rw [hx]; exact ⟨rfl,Yd,hrp.mono hm⟩
  ·obtain ⟨b,h1,h2,hE⟩:=h.ex k KM hk
   have Ac:=(h.own b _ h2).1
   refine ⟨b,h1.mono hm,(As _ _ (Nat.ne_of_lt Ac)).trans h2,?_⟩
   rcases hE with ⟨h3,cur',e',h4,h5,h6⟩ | hE
   ·exact .inl ⟨(As _ _ (Nat.ne_of_lt Ac)).trans h3,cur',e',(hb b Ac).trans h4,h5,fun j hj=>⟨(h6 j hj).1,(h6 j hj).2.1,(h6 j hj).2.2.BR hm (fun _ _ _=>rfl) fun b hu=>hU hu⟩⟩
   ·exact .inr (hE.BR hm (fun _ _ _ h=>h) (As _ _ (Nat.ne_of_lt Ac)) (hb b Ac))
 ·intro b o ho
  simp only [DT] at ho
  split at ho
  ·rename_i eb
   subst eb
   exact ⟨by rw [Bk]; omega,.inl h.AR.size⟩
  ·obtain ⟨k1,k2⟩:=h.own b o ho
   exact ⟨by rw [Bk]; omega,k2⟩
 ·intro p b hu
  have Ac:=(h.own b _ (h.uo _ _ hu)).1
  exact (As _ _ (Nat.ne_of_lt Ac)).trans (h.uo p b hu)
 ·refine ⟨fun b GZ=>?_,fun n hn=>?_,fun n c hn=>?_⟩
  ·rw [Bk] at GZ
   exact (As _ _ oM).trans (h.fresh.1 b oM)
  ·simp only [G9] at hn
   exact (As _ _ oM).trans (h.fresh.2.1 n oM)
  ·simp only [G9] at hn
   exact h.fresh.2.2 n c oM
 ·intro n b hx
  rw [Bk]
  simp only [DT] at hx
  split at hx
  ·injection hx with hx; omega
  ·exact Nat.lt_succ_of_lt (h.GH n b hx)
def lD(P:Program)(t:TypeId):Bool:=match P.underlying t with
 | some (.map k _)=>match P.underlying k with
  | some (.int .i64)=>false
  | _=>true
 | _=>true
def lE:Bool->MM
 | true => .s []
 | false => .i []
theorem B4.YH(ob:Obj)(es:MM)(h:B4 cx s g l a w)(Aff:TA { g with M:=DT g.M w.heap.size (some 0),X:=DT g.X (Eg s.ext) (some w.heap.size) } (w.alloc ob) w.heap.size es) :
  B4 cx { s with ext:=put s.ext (Eg s.ext) [.mm es] } { g with M:=DT g.M w.heap.size (some 0),X:=DT g.X (Eg s.ext) (some w.heap.size) }
   { l with O:=DT l.O w.heap.size (some (.x (Eg s.ext))) } a (w.alloc ob) /\
  C3 g w { g with M:=DT g.M w.heap.size (some 0),X:=DT g.X (Eg s.ext) (some w.heap.size) } (w.alloc ob):=by
 have hb:∀b,b<w.heap.size->(w.alloc ob).heap[b]?=w.heap[b]?:=fun b hb=>Below.heap_alloc w _ b hb
 have hX:∀n b,g.X n=some b->DT g.X (Eg s.ext) (some w.heap.size) n=some b:=fun n b hx=>by
  rw [As]
  ·exact hx
  ·intro e0
   rw [e0,h.fresh.2.1 _ (Nat.le_refl _)] at hx
   cases hx
 have hm:C3 g w { g with M:=DT g.M w.heap.size (some 0),X:=DT g.X (Eg s.ext) (some w.heap.size) } (w.alloc ob):=by
  refine ⟨hX,fun b o v hc hf=>?_,EK hb,fun _ _ _ h=>h⟩
  have Ac:=World.block_lt_of_cell? w _ hc
  refine ⟨by rw [<-hc]; exact World.cell?_of_block (hb b Ac),fun k hk=>hf k ?_⟩
  simp only at Ac
  rw [<-As g.M (some 0) (Nat.ne_of_lt Ac)]; exact hk
 have hU:∀ {p b},l.U p=some b->l.U p=some b/\DT g.M w.heap.size (some 0) b=g.M b/\(w.alloc ob).heap[b]?=w.heap[b]?:=fun {p b} hu=>by
  have Ac:=(h.own b _ (h.uo _ _ hu)).1
  exact ⟨hu,As _ _ (Nat.ne_of_lt Ac),hb b Ac⟩
 have Bk:(w.alloc ob).heap.size=w.heap.size+1:=by simp
 refine ⟨⟨⟨h.AR.mono.trans hm,by rw [Bk]; exact Nat.le_succ_of_le h.AR.size,fun b Ac ho=>?_,h.AR.os,h.AR.tape,h.AR.output,h.AR.Kf.mono hm⟩,h.size,h.defers,?_,?_,?_,?_,?_,?_,?_⟩,hm⟩
 ·obtain ⟨h1,h2⟩:=h.AR.frame b Ac ho
  have CE:=Nat.lt_of_lt_of_le Ac h.AR.size
  exact ⟨(hb b CE).trans h1,(As g.M (some 0) (Nat.ne_of_lt CE)).trans h2⟩
 ·intro t lv ht
  exact (h.tm t lv ht).BR hm (fun _ _ _=>rfl) fun b hu=>hU hu
 ·intro k cs hk
  obtain ⟨b,h1,h2,h3,cur',e',h4,h5,h6⟩:=h.bx k cs hk
  have Ac:=(h.own b _ h2).1
  refine ⟨b,h1,(As _ _ (Nat.ne_of_lt Ac)).trans h2,(As _ _ (Nat.ne_of_lt Ac)).trans h3,cur',e',(hb b Ac).trans h4,h5,fun j hj=>⟨(h6 j hj).1,(h6 j hj).2.1,(h6 j hj).2.2.BR hm (fun _ _ _=>rfl) fun b hu=>hU hu⟩⟩
 ·intro k KM hk
  simp only [B8] at hk
  split at hk
  ·rename_i ek
   subst ek
   injection hk with hk
   subst hk
   exact ⟨w.heap.size,Bl _ _ _,Bl _ _ _,.inr (.inl ⟨es,rfl,Aff⟩)⟩
  ·obtain ⟨b,h1,h2,hE⟩:=h.ex k KM hk
   have Ac:=(h.own b _ h2).1
   refine ⟨b,h1.mono hm,(As _ _ (Nat.ne_of_lt Ac)).trans h2,?_⟩
   rcases hE with ⟨h3,cur',e',h4,h5,h6⟩ | hE
   ·exact .inl ⟨(As _ _ (Nat.ne_of_lt Ac)).trans h3,cur',e',(hb b Ac).trans h4,h5,fun j hj=>⟨(h6 j hj).1,(h6 j hj).2.1,(h6 j hj).2.2.BR hm (fun _ _ _=>rfl) fun b hu=>hU hu⟩⟩
   ·exact .inr (hE.BR hm (fun _ _ _ h=>h) (As _ _ (Nat.ne_of_lt Ac)) (hb b Ac))
 ·intro b o ho
  simp only [DT] at ho
  split at ho
  ·rename_i eb
   subst eb
   exact ⟨by rw [Bk]; omega,.inl h.AR.size⟩
  ·obtain ⟨k1,k2⟩:=h.own b o ho
   exact ⟨by rw [Bk]; omega,k2⟩
 ·intro p b hu
  have Ac:=(h.own b _ (h.uo _ _ hu)).1
  exact (As _ _ (Nat.ne_of_lt Ac)).trans (h.uo p b hu)
 ·refine ⟨fun b GZ=>?_,fun n hn=>?_,fun n c hn=>?_⟩
  ·rw [Bk] at GZ
   exact (As _ _ oM).trans (h.fresh.1 b oM)
  ·simp only [G9] at hn
   exact (As _ _ oM).trans (h.fresh.2.1 n oM)
  ·simp only [G9] at hn
   exact h.fresh.2.2 n c oM
 ·intro n b hx
  rw [Bk]
  simp only [DT] at hx
  split at hx
  ·injection hx with hx; omega
  ·exact Nat.lt_succ_of_lt (h.GH n b hx)
theorem B4.YI(q:Bool)(h:B4 cx s g l a w) :
  B4 cx { s with ext:=put s.ext (Eg s.ext) [.mm (lE q)] } { g with M:=DT g.M w.heap.size (some 0),X:=DT g.X (Eg s.ext) (some w.heap.size) }
   { l with O:=DT l.O w.heap.size (some (.x (Eg s.ext))) } a (w.alloc (.map #[] 0)) /\
  C3 g w { g with M:=DT g.M w.heap.size (some 0),X:=DT g.X (Eg s.ext) (some w.heap.size) } (w.alloc (.map #[] 0)):=by
 refine h.YH (.map #[] 0) (lE q) ?_
 cases q <;> exact ⟨Bl _ _ _,#[],0,heap_alloc_new w _,MapKept.stamped_empty 0,rfl,fun j hj=>by simp at hj⟩
theorem B4.oW(h:B4 cx s g l a w){i bm since last:Nat}(hX:g.X i=some bm)(hi:i<Eg s.ext) :
  B4 cx { s with ext:=put s.ext (Eg s.ext) [.mm (.it i)] } { g with M:=DT g.M w.heap.size (some 0),X:=DT g.X (Eg s.ext) (some w.heap.size) }
   { l with O:=DT l.O w.heap.size (some (.x (Eg s.ext))) } a (w.alloc (.mapIter (some bm) since #[] last)) /\
  C3 g w { g with M:=DT g.M w.heap.size (some 0),X:=DT g.X (Eg s.ext) (some w.heap.size) } (w.alloc (.mapIter (some bm) since #[] last)):=
 h.YH (.mapIter (some bm) since #[] last) (.it i) ⟨Bl _ _ _,bm,since,last,(As _ _ (Nat.ne_of_lt hi)).trans hX,heap_alloc_new w _⟩
theorem O3{z:Array Value}{n:Nat}{u:Value}(h:u∈(Builtin.zeroCells z n).toList):u∈z.toList:=by
 simp only [Builtin.zeroCells,Array.toList_map,List.mem_map] at h
 obtain ⟨k,hk,rfl⟩:=h
 have RO:k<n * z.size:=by simpa using hk
 have Hp:0<z.size:=by
  rcases Nat.eq_zero_or_pos z.size with h0 | h0
  ·rw [h0] at RO; simp at RO
  ·exact h0
 have:=Nat.mod_lt k Hp
 simp [this]
end
def JP(g:Gh)(l:LG)(w:World)(e':Ext)(g':Gh)(l':LG)(w':World):Prop:=
 Tq e' g' l' w'/\C3 g w g' w'/\w.heap.size<=w'.heap.size/\(∀b,b<w.heap.size->l.O b=none->w'.heap[b]?=w.heap[b]?/\g'.M b=g.M b) /\
  (∀b o,l'.O b=some o->w.heap.size<=b∨(l.O b).isSome=true)/\w'.os=w.os/\w'.tape=w.tape/\w'.output=w.output
inductive PM where
 | ret
 | pan (p:PV)
 | lF
def YJ(g:Gh)(w:World):PM->FrameMode->Prop
 | .ret,u=>u = .returning
 | .pan p,u=>∃v,u = .panicking [{ v,recovered:=false }]/\BN g w p v
 | .lF,u=>∃v,u = .panicking [{ v,recovered:=true }]
def EG(P:Program)(f:FuncId)(args:List PV)(e:Ext)(m:PM)(R:PM->Ext->Prop):Prop:=
 ∀vs g l w u,AG g w args vs->Tq e g l w->YJ g w m u->CallsD P f vs.toArray u w fun en u' w'=>∃v m' e' g' l',en = .returned v/\R m' e'/\YJ g' w' m' u'/\JP g l w e' g' l' w'
section
variable {P:Program} {cx:Cx} {s t:S} {g:Gh} {l:LG} {a:Act} {w:World}
theorem B4.after{n:Nat}{ds:List Deferred}{s':S}{g':Gh}{l':LG}{a':Act}{w':World}(sm:B4 ⟨n,ds,g,w,fun b=>(l.O b).isSome=true⟩ s' g' l' a' w'):JP g l w s'.ext g' (lx l') w':=by
 refine ⟨sm.y7,sm.AR.mono,sm.AR.size,fun b Ac ho=>sm.AR.frame b Ac (by show ¬(l.O b).isSome=true; rw [ho]; simp),fun b o' ho=>?_,sm.AR.os,sm.AR.tape,sm.AR.output⟩
 have:∃o2,l'.O b=some o2:=by
  simp only [lx] at ho
  split at ho
  ·rename_i Yw; exact ⟨_,Yw⟩
  ·rename_i Yw; exact ⟨_,Yw⟩
  ·cases ho
 obtain ⟨o2,jR⟩:=this
 exact (sm.own b o2 jR).2
theorem B4.enter{n:Nat}{ps:List PV}{e:Ext}{vs:List Value}(ha:AG g w ps vs)(he:Tq e g l w)(hn:ps.length<=n) :
  B4 ⟨n,[],g,w,fun b=>(l.O b).isSome=true⟩ (FR ps e) g l { tmps:=vs.toArray++Array.replicate (n - vs.toArray.size) undef,defers:=[] } w:=by
 have hl:=ha.1
 refine ⟨⟨C3.refl g w,Nat.le_refl _,fun _ _ _=>⟨rfl,rfl⟩,rfl,rfl,rfl,he.Kf⟩,?_,rfl,?_,?_,he.ex,?_,he.uo,he.fresh,he.GH⟩
 ·simp
  omega
 ·intro t lv ht
  obtain ⟨j,p,rfl,hj,rfl⟩:=R4 ht
  have Ac:=(List.getElem?_eq_some_iff.1 hj).1
  have CE:j<vs.length:=by omega
  have:=ha.2 j Ac CE
  rw [List.getElem?_eq_getElem Ac] at hj
  injection hj with hj
  rw [hj] at this
  have e1:(vs.toArray++Array.replicate (n - vs.toArray.size) undef).getD (0+j) undef=vs[j]:=by
   simp [Array.getD_eq_getD_getElem?,Array.getElem?_append,CE]
  show BN g w p _
  rw [e1]
  exact this
 ·intro i cs hi
  simp [FR,lk] at hi
 ·intro b o' ho
  exact ⟨he.R2 b o' ho,.inr (by show (l.O b).isSome=true; rw [ho]; rfl)⟩
theorem B4.defer{ds:List Deferred}(h:B4 cx s g l a w):B4 { cx with ds:=ds } s g l { a with defers:=ds } w where
 AR:=⟨h.AR.mono,h.AR.size,h.AR.frame,h.AR.os,h.AR.tape,h.AR.output,h.AR.Kf⟩
 size:=h.size
 defers:=rfl
 tm:=h.tm
 bx:=h.bx
 ex:=h.ex
 own:=h.own
 uo:=h.uo
 fresh:=h.fresh
 GH:=h.GH
theorem B4.A6r{ds:List Deferred}(h:B4 cx s g l a w)(hd:a.defers=ds):B4 ⟨cx.n,ds,g,w,fun b=>(l.O b).isSome=true⟩ s g l a w where
 AR:=⟨C3.refl g w,Nat.le_refl _,fun _ _ _=>⟨rfl,rfl⟩,rfl,rfl,rfl,h.AR.Kf⟩
 size:=h.size
 defers:=hd
 tm:=h.tm
 bx:=h.bx
 ex:=h.ex
 own:=fun b o ho=>⟨(h.own b o ho).1,.inr (by show (l.O b).isSome=true; rw [ho]; rfl)⟩
 uo:=h.uo
 fresh:=h.fresh
 GH:=h.GH
theorem B4.YK{n:Nat}{ds:List Deferred}{s':S}{g':Gh}{l':LG}{a':Act}{w':World}(h:B4 cx s g l a w)(h':B4 ⟨n,ds,g,w,fun b=>(l.O b).isSome=true⟩ s' g' l' a' w') :
  B4 ⟨n,ds,cx.g0,cx.w0,cx.Wj⟩ s' g' l' a' w' where
 AR:=⟨h.AR.mono.trans h'.AR.mono,Nat.le_trans h.AR.size h'.AR.size,fun b Ac ho=>by
  obtain ⟨k1,k2⟩:=h.AR.frame b Ac ho
  have hn:¬(l.O b).isSome=true:=fun hs=>by
   obtain ⟨o,NA⟩:=Option.isSome_iff_exists.1 hs
   have CE:b<cx.w0.heap.size:=Ac
   rcases (h.own b o NA).2 with hc | hc
   ·omega
   ·exact ho hc
  obtain ⟨k3,k4⟩:=h'.AR.frame b (Nat.lt_of_lt_of_le Ac h.AR.size) hn
  exact ⟨k3.trans k1,k4.trans k2⟩,h'.AR.os.trans h.AR.os,h'.AR.tape.trans h.AR.tape,h'.AR.output.trans h.AR.output,h'.AR.Kf⟩
 size:=h'.size
 defers:=h'.defers
 tm:=h'.tm
 bx:=h'.bx
 ex:=h'.ex
 own:=fun b o ho=>by
  obtain ⟨k1,k2⟩:=h'.own b o ho
  refine ⟨k1,?_⟩
  rcases k2 with hc | hc
  ·exact .inl (Nat.le_trans h.AR.size hc)
  ·obtain ⟨o',NA⟩:=Option.isSome_iff_exists.1 hc
   exact (h.own b o' NA).2
 uo:=h'.uo
 fresh:=h'.fresh
 GH:=h'.GH
def yF(P:Program)(rs:List ResultVar)(R:Ct->Ext->Prop)(Fi:FuncId)(oX:List PV):A4->S->Prop
 | .exit _,_=>False
 | .panic p,s=>EG P Fi oX s.ext (.pan p) fun m e'=>m = .lF/\∃q,FC P { s with ext:=e' } rs=some q/\R (.ret q) e'
 | _,s=>EG P Fi oX s.ext .ret fun m e'=>m = .ret/\∃q,FC P { s with ext:=e' } rs=some q/\R (.ret q) e'
theorem C7.yG{f:FuncId}{fn:Func}{r0 y:Code}{id:Nat}{mk df:Oper}{t:Nat}{ts:Array TypeId}{ps:List PV}{e:Ext}{R:Ct->Ext->Prop}(ro:TypeId->Option Bool)(hf:P.funcs[f]?=some fn)
  (hb:fn.body=some (.seq r0 (.seq (.region id #[mk,df] false) y))) (hn:ps.length<=fn.ntmps) (yH:df.op = .defer ⟨.value (.tmp t),#[],ts⟩) (hgm:mk.guard=none) (hgd:df.guard=none) (FZ:df.dst=none)
  (h:∀cx:Cx,cx.n=fn.ntmps->cx.ds=[]->PW P cx r0 (FR ps e) fun pe s=>pe = .normal/\(act P ro fn.ntmps [mk,df] mk).wp s fun wr=>∃Fi first cap,lk (s.I9 wr).tmps t=some (.v (.fn (.func Fi) first cap))/\FQ P Fi=true /\
   ∀YL:Cx,YL.n=fn.ntmps->PW P YL y (s.I9 wr) (yF P fn.results.toList R Fi (first++cap))):C7 P f ps e R:=by
 intro vs g l w ha he
 refine calls_of_wp_defers hf hb ?_
 have hs:=B4.enter (n:=fn.ntmps) ha he hn
 refine wp_seq (wp_mono (h _ rfl rfl g l _ w hs) ?_)
 rintro ex a1 w1 ⟨pe,s1,g1,l1,⟨rfl,hw⟩,er,sm1⟩
 cases ex <;> first | exact er.elim | skip
 refine wp_seq ?_
 refine wp_region_lit (l:=[mk,df]) ?_
 refine wpList_plain hgm fun K hK=>?_
 refine CA ?_ (Gl sm1 hw _)
 rintro a2 w2 ⟨wr,g2,l2,⟨Fi,first,cap,l7,Ml,hY⟩,lG⟩
 refine hK _ _ ?_
 refine wpList_plain hgd fun K hK=>?_
 have hv:=lG.tm t _ l7
 have hex:∀fv cv,a2.eval (.tmp t) = .func (.func Fi) fv cv->(execOp a2.eval df).run P w2 = .ok (.defer { target := .fn (.func Fi) cv,args:=fv ++ #[] }) w2:=by
  intro fv cv nZ
  simp only [execOp,yH,resolve,nZ,Deferred.ofValue,Sem.run_bind,Sem.run_pure,Result.andThen_ok,List.map_toArray,List.map_nil]
 have hv':BN g2 w2 (.fn (.func Fi) first cap) (a2.eval (.tmp t)):=hv
 generalize a2.eval (.tmp t)=vf at hv' hex
 cases hv' with
 | fn _ _ _ fv cv l1' l2' r3 r4=>
  unfold Oper.wp
  rw [hex _ _ rfl,Oper.upon_defer,FZ]
  refine hK _ _ ?_
  refine wpList_nil ?_
  have hd0:a2.defers=[]:=lG.defers
  rw [hd0]
  have sm3:=lG.defer (ds:=[{ target := .fn (.func Fi) cv.toArray,args:=fv.toArray ++ #[] }])
  show (Code.wp P y _ _ _)
  refine wp_mono (hY _ rfl g2 l2 _ w2 (sm3.A6r rfl)) ?_
  rintro ex a4 w4 ⟨pe,s4,g4,l4,hq,er,YM⟩
  have hd4:a4.defers=[{ target := .fn (.func Fi) cv.toArray,args:=fv.toArray ++ #[] }]:=YM.defers
  have J1:(fv.toArray ++ #[])++cv.toArray=(fv++cv).toArray:=by apply Array.ext'; simp
  have hinv:(invoke (.fn (.func Fi) cv.toArray) (fv.toArray ++ #[])).run P w4 = .ok (.enter Fi (fv++cv).toArray) w4:=by
   simp only [invoke,J1,F1 Ml]
  have Bv:AG g4 w4 (first++cap) (fv++cv):=(AG.app ⟨l1',r3⟩ ⟨l2',r4⟩).mono YM.AR.mono
  have fin:∀ {e':Ext} {g5:Gh} {l5:LG} {w5:World} {q:PV},JP g4 (lx l4) w4 e' g5 l5 w5->FC P { s4 with ext:=e' } fn.results.toList=some q->R (.ret q) e' ->
    ∃v,(results fn a4.tmps).run P w5 = .ok v w5/\∃res e' g' l',R res e'/\PE g' l' (fun b=>w.heap.size<=b∨(l.O b).isSome=true) w5 res (.returned v)/\JP g l w e' g' l' w5:=by
   intro e' g5 l5 w5 q YN hq hR
   obtain ⟨h1,h2,h3,h4,h5,h6,h7,h8⟩:=YN
   have sm5:=YM.back h1 h2 h3 h4 h5 h6 h7 h8
   have sm6:=lG.YK sm5
   obtain ⟨v,v1,v2⟩:=Ib sm6 hq
   exact ⟨v,v1,.ret q,e',g5,_,hR,v2,sm6.after⟩
  have norm:EG P Fi (first++cap) s4.ext .ret (fun m e'=>m = .ret/\∃q,FC P { s4 with ext:=e' } fn.results.toList=some q/\R (.ret q) e')->Leaves P fn a4.tmps (fun en w'=>∃res e' g' l',R res e'/\PE g' l' (fun b=>w.heap.size<=b∨(l.O b).isSome=true) w' res en/\JP g l w e' g' l' w') a4.defers .returning w4:=by
   intro hC
   rw [hd4]
   refine leaves_cons sM hinv ((hC _ g4 (lx l4) w4 .returning Bv YM.y7 rfl).mono ?_)
   rintro en u' w5 ⟨v,m',e',g5,l5,rfl,⟨rfl,q,hq,hR⟩,hpm,YN⟩
   have hu:u' = .returning:=hpm
   subst hu
   exact fin YN hq hR
  cases pe with
  | normal=>
   cases ex <;> first | exact er.elim | skip
   exact norm hq
  | ret=>
   cases ex <;> first | exact er.elim | skip
   exact norm hq
  | exit _=>exact hq.elim
  | panic p=>
   cases ex <;> first | exact er.elim | skip
   obtain ⟨v,rfl,hv⟩:=er
   show Leaves P fn a4.tmps _ a4.defers _ w4
   rw [hd4]
   refine leaves_cons sM hinv ((hq _ g4 (lx l4) w4 _ Bv YM.y7 ⟨v,rfl,hv⟩).mono ?_)
   rintro en u' w5 ⟨v,m',e',g5,l5,rfl,⟨rfl,q,hq,hR⟩,⟨v',hu⟩,YN⟩
   subst hu
   exact fin YN hq hR
def WO:List Code->Code->Code
 | [],c=>c
 | x::r,c => .seq x (WO r c)
def PWs(P:Program)(cx:Cx):List Code->S->(S->Prop)->Prop
 | [],s,K=>K s
 | x::r,s,K=>PW P cx x s fun pe s'=>pe = .normal/\PWs P cx r s' K
theorem YO{rest:Code}{Qc:Exit->Act->World->Prop}{cx:Cx}{K:S->Prop}:∀ {xs:List Code} {s:S},PWs P cx xs s K->(∀s' g l a w,K s'->B4 cx s' g l a w->rest.wp P Qc a w)->∀g l a w,B4 cx s g l a w->(WO xs rest).wp P Qc a w
 | [],s,h,hr=>fun g l a w hs=>hr s g l a w h hs
 | x::r,s,h,hr=>fun g l a w hs=>by
  refine wp_seq (wp_mono (h g l a w hs) ?_)
  rintro ex a1 w1 ⟨pe,s1,g1,l1,⟨rfl,hw⟩,er,sm1⟩
  cases ex <;> first | exact er.elim | skip
  exact YO hw hr g1 l1 a1 w1 sm1
theorem C7.lH{f:FuncId}{fn:Func}{r0:List Code}{y:Code}{id:Nat}{mk df:Oper}{t:Nat}{ts:Array TypeId}{ps:List PV}{e:Ext}{R:Ct->Ext->Prop}(ro:TypeId->Option Bool)(hf:P.funcs[f]?=some fn)
  (hb:fn.body=some (WO r0 (.seq (.region id #[mk,df] false) y))) (hn:ps.length<=fn.ntmps) (yH:df.op = .defer ⟨.value (.tmp t),#[],ts⟩) (hgm:mk.guard=none) (hgd:df.guard=none) (FZ:df.dst=none)
  (h:∀cx:Cx,cx.n=fn.ntmps->cx.ds=[]->PWs P cx r0 (FR ps e) fun s=>(act P ro fn.ntmps [mk,df] mk).wp s fun wr=>∃Fi first cap,lk (s.I9 wr).tmps t=some (.v (.fn (.func Fi) first cap))/\FQ P Fi=true /\
   ∀YL:Cx,YL.n=fn.ntmps->PW P YL y (s.I9 wr) (yF P fn.results.toList R Fi (first++cap))):C7 P f ps e R:=by
 intro vs g l w ha he
 refine calls_of_wp_defers hf hb ?_
 have hs:=B4.enter (n:=fn.ntmps) ha he hn
 refine YO (h _ rfl rfl) (fun s1 g1 l1 a1 w1 hw sm1=>?_) g l _ w hs
 refine wp_seq ?_
 refine wp_region_lit (l:=[mk,df]) ?_
 refine wpList_plain hgm fun K hK=>?_
 refine CA ?_ (Gl sm1 hw _)
 rintro a2 w2 ⟨wr,g2,l2,⟨Fi,first,cap,l7,Ml,hY⟩,lG⟩
 refine hK _ _ ?_
 refine wpList_plain hgd fun K hK=>?_
 have hv:=lG.tm t _ l7
 have hex:∀fv cv,a2.eval (.tmp t) = .func (.func Fi) fv cv->(execOp a2.eval df).run P w2 = .ok (.defer { target := .fn (.func Fi) cv,args:=fv ++ #[] }) w2:=by
  intro fv cv nZ
  simp only [execOp,yH,resolve,nZ,Deferred.ofValue,Sem.run_bind,Sem.run_pure,Result.andThen_ok,List.map_toArray,List.map_nil]
 have hv':BN g2 w2 (.fn (.func Fi) first cap) (a2.eval (.tmp t)):=hv
 generalize a2.eval (.tmp t)=vf at hv' hex
 cases hv' with
 | fn _ _ _ fv cv l1' l2' r3 r4=>
  unfold Oper.wp
  rw [hex _ _ rfl,Oper.upon_defer,FZ]
  refine hK _ _ ?_
  refine wpList_nil ?_
  have hd0:a2.defers=[]:=lG.defers
  rw [hd0]
  have sm3:=lG.defer (ds:=[{ target := .fn (.func Fi) cv.toArray,args:=fv.toArray ++ #[] }])
  show (Code.wp P y _ _ _)
  refine wp_mono (hY _ rfl g2 l2 _ w2 (sm3.A6r rfl)) ?_
  rintro ex a4 w4 ⟨pe,s4,g4,l4,hq,er,YM⟩
  have hd4:a4.defers=[{ target := .fn (.func Fi) cv.toArray,args:=fv.toArray ++ #[] }]:=YM.defers
  have J1:(fv.toArray ++ #[])++cv.toArray=(fv++cv).toArray:=by apply Array.ext'; simp
  have hinv:(invoke (.fn (.func Fi) cv.toArray) (fv.toArray ++ #[])).run P w4 = .ok (.enter Fi (fv++cv).toArray) w4:=by
   simp only [invoke,J1,F1 Ml]
  have Bv:AG g4 w4 (first++cap) (fv++cv):=(AG.app ⟨l1',r3⟩ ⟨l2',r4⟩).mono YM.AR.mono
  have fin:∀ {e':Ext} {g5:Gh} {l5:LG} {w5:World} {q:PV},JP g4 (lx l4) w4 e' g5 l5 w5->FC P { s4 with ext:=e' } fn.results.toList=some q->R (.ret q) e' ->
    ∃v,(results fn a4.tmps).run P w5 = .ok v w5/\∃res e' g' l',R res e'/\PE g' l' (fun b=>w.heap.size<=b∨(l.O b).isSome=true) w5 res (.returned v)/\JP g l w e' g' l' w5:=by
   intro e' g5 l5 w5 q YN hq hR
   obtain ⟨h1,h2,h3,h4,h5,h6,h7,h8⟩:=YN
   have sm5:=YM.back h1 h2 h3 h4 h5 h6 h7 h8
   have sm6:=lG.YK sm5
   obtain ⟨v,v1,v2⟩:=Ib sm6 hq
   exact ⟨v,v1,.ret q,e',g5,_,hR,v2,sm6.after⟩
  have norm:EG P Fi (first++cap) s4.ext .ret (fun m e'=>m = .ret/\∃q,FC P { s4 with ext:=e' } fn.results.toList=some q/\R (.ret q) e')->Leaves P fn a4.tmps (fun en w'=>∃res e' g' l',R res e'/\PE g' l' (fun b=>w.heap.size<=b∨(l.O b).isSome=true) w' res en/\JP g l w e' g' l' w') a4.defers .returning w4:=by
   intro hC
   rw [hd4]
   refine leaves_cons sM hinv ((hC _ g4 (lx l4) w4 .returning Bv YM.y7 rfl).mono ?_)
   rintro en u' w5 ⟨v,m',e',g5,l5,rfl,⟨rfl,q,hq,hR⟩,hpm,YN⟩
   have hu:u' = .returning:=hpm
   subst hu
   exact fin YN hq hR
  cases pe with
  | normal=>
   cases ex <;> first | exact er.elim | skip
   exact norm hq
  | ret=>
   cases ex <;> first | exact er.elim | skip
   exact norm hq
  | exit _=>exact hq.elim
  | panic p=>
   cases ex <;> first | exact er.elim | skip
   obtain ⟨v,rfl,hv⟩:=er
   show Leaves P fn a4.tmps _ a4.defers _ w4
   rw [hd4]
   refine leaves_cons sM hinv ((hq _ g4 (lx l4) w4 _ Bv YM.y7 ⟨v,rfl,hv⟩).mono ?_)
   rintro en u' w5 ⟨v,m',e',g5,l5,rfl,⟨rfl,q,hq,hR⟩,⟨v',hu⟩,YN⟩
   subst hu
   exact fin YN hq hR
theorem EG.enter{f:FuncId}{fn:Func}{id:Nat}{o0 o1:Oper}{y:Code}{t0 t1:Nat}{ts:Array TypeId}{ps:List PV}{e:Ext}{m:PM}{R:PM->Ext->Prop}(hf:P.funcs[f]?=some fn)
  (hb:fn.body=some (.seq (.region id #[o0,o1] false) y)) (hn:ps.length<=fn.ntmps) (h0:o0.op = .call ⟨.builtin .recover,#[],ts⟩) (hg0:o0.guard=none) (hd0:o0.dst=some t0) (h1:o1.op = .assign (.tmp t0)) (hg1:o1.guard=none) (hd1:o1.dst=some t1)
  (Xr:t0<fn.ntmps) (Nk:t1<fn.ntmps) (p:PV) (m':PM) (hm:(m = .ret/\p = .FY/\m' = .ret)∨(m = .pan p/\m' = .lF))
  (h:∀cx:Cx,cx.n=fn.ntmps->cx.ds=[]->PW P cx y ⟨put (put (Sf 0 ps) t0 (.v p)) t1 (.v p),[],e⟩ fun pe s=>(pe = .normal∨pe = .ret)/\(∃q,FC P s fn.results.toList=some q)/\R m' s.ext):EG P f ps e m R:=by
 intro vs g l w u ha he hu
 refine callsD_of_wpS hf hb fun c₀ cs YP=>?_
 have hs:=B4.enter (n:=fn.ntmps) ha he hn
 obtain ⟨v,u',hv,hpm,yI⟩:∃v u',BN g w p v/\(∀g' w',YJ g' w' m' u')/\((recoverD (c₀::cs)=none/\v = .nilIface/\u'=u)∨recoverD (c₀::cs)=some (v,{ c₀ with mode:=u' }::cs)):=by
  rcases hm with ⟨rfl,rfl,rfl⟩ | ⟨rfl,rfl⟩
  ·have Ya:u = .returning:=hu
   subst Ya
   exact ⟨.nilIface,.returning,.FY,fun _ _=>rfl,.inl ⟨by simp [recoverD,YP],rfl,rfl⟩⟩
  ·obtain ⟨v,rfl,hv⟩:=hu
   exact ⟨v,.panicking [{ v,recovered:=true }],hv,fun _ _=>⟨v,rfl⟩,.inr (by simp [recoverD,YP])⟩
 have D3:({ c₀ with mode:=u }:Frame)=c₀:=by rw [<-YP]
 refine wpS_seq (wpS_region ?_)
 have Na:∀ (a:Act) (w:World),(execOp a.eval o0).run P w = .ok .recover w:=fun a w=>by simp [execOp,h0,resolve,invoke,builtin]
 have oY:∀ (a:Act) (w:World),(execOp a.eval o1).run P w = .ok (.value (a.eval (.tmp t0))) w:=fun a w=>by simp [execOp,h1]
 have s1:=hs.set (d:=t0) (lv := .v p) (v:=v) Xr hv
 have ev0:(Act.put { tmps:=vs.toArray++Array.replicate (fn.ntmps - vs.toArray.size) undef,defers:=[] } (some t0) v).eval (.tmp t0)=v:=by
  have:=s1.size
  show (Act.put _ (some t0) v).tmps.getD t0 undef=v
  rw [eval_put _ t0 t0 v (by rw [hs.size]; exact Xr)]
  simp
 have s2:=s1.set (d:=t1) (lv := .v p) (v:=v) Nk hv
 have fin:y.wpS P (bodyPostS P fn c₀ cs fun en u' w'=>∃v m' e' g' l',en = .returned v/\R m' e'/\YJ g' w' m' u'/\JP g l w e' g' l' w')
   ((Act.put { tmps:=vs.toArray++Array.replicate (fn.ntmps - vs.toArray.size) undef,defers:=[] } (some t0) v).put (some t1) v) ({ c₀ with mode:=u' }::cs) w:=by
  refine wpS_of_wp (wp_mono (h _ rfl rfl g l _ w s2) ?_)
  rintro ex a' w' ⟨pe,s',g',l',⟨hpe,⟨q,hq⟩,hR⟩,er,sm⟩
  obtain ⟨v',v1,v2⟩:=Ib sm hq
  have key:a'.defers=[]/\∃u'',({ c₀ with mode:=u' }::cs:List Frame)={ c₀ with mode:=u'' }::cs/\∃v,(results fn a'.tmps).run P w' = .ok v w'/\∃v0 m' e' g' l',(Ending.returned v) = .returned v0/\R m' e'/\YJ g' w' m' u''/\JP g l w e' g' l' w':=
   ⟨sm.defers,u',rfl,v',v1,v',m',s'.ext,g',lx l',rfl,hR,hpm _ _,sm.after⟩
  rcases hpe with rfl | rfl
  ·cases ex <;> first | exact er.elim | exact key
  ·cases ex <;> first | exact er.elim | exact key
 have hw0:Region.wanted o0=fun _=>true:=by funext y; simp [Region.wanted,hg0]
 have oZ:Region.wanted o1=fun _=>true:=by funext y; simp [Region.wanted,hg1]
 have yJ:List.range (#[o0,o1]:Array Oper).size=[0,1]:=rfl
 rw [yJ]
 have e0:(#[o0,o1]:Array Oper)[0]?=some o0:=rfl
 have e1:(#[o0,o1]:Array Oper)[1]?=some o1:=rfl
 rcases yI with ⟨YQ,rfl,rfl⟩ | YQ
 ·rw [D3] at fin
  simp only [wpOpsS,e0,e1,hw0,oZ,if_true,Na,oY,YQ,Oper.upon_value,hd0,hd1,Exit.thenS]
  rw [ev0]
  exact fin
 ·simp only [wpOpsS,e0,e1,hw0,oZ,if_true,Na,oY,YQ,Oper.upon_value,hd0,hd1,Exit.thenS]
  rw [ev0]
  exact fin
end
end Go.Pv
