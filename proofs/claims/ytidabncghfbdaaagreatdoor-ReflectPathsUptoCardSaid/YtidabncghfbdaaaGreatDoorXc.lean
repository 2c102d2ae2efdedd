/- Values of Go as plain data, an evaluator over them, and what the functions of the program return; part Xc. -/
import Derived.Test.YtidabncghfbdaaaGreatDoorXb
import Derived.Laws.StructEq
import Derived.Orders
import Derived.Recover
set_option linter.unusedVariables false
set_option linter.unusedSimpArgs false
set_option linter.unusedSectionVars false
namespace Go.Pv
open Go.RowKit
section
variable {P:Program} {cx:Cx} {s t:S} {g:Gh} {l:LG} {a:Act} {w:World} {o:Oper}
def mxI:Bool->Int->Int->Int
 | true,i,j=>if j>i then j else i
 | false,i,j=>if j<i then j else i
def actMM(n:Nat)(o:Oper)(big:Bool)(x y:Operand):RM (List Wr):=evP x fun p=>evP y fun q=>match p,q with
 | .int k i,.int _ j=>wv n o (.v (.int k (mxI big i j)))
 | _,_ => .fail
theorem actMM_sound{big:Bool}{x y:Operand}{K:List Wr->Prop}(ho:(big=false/\∃ts,o.op = .call ⟨.builtin .min,⟨[x,y]⟩,ts⟩)∨(big=true/\∃ts,o.op = .call ⟨.builtin .max,⟨[x,y]⟩,ts⟩))(h:Sim cx s g l a w)(hw:(actMM cx.n o big x y).wp s K):OpOK P cx s o K a w:=by
 obtain ⟨p,h1,r1⟩:=evP_sound h hw
 obtain ⟨q,h2,r2⟩:=evP_sound h h1
 split at h2
 ·rename_i k i k' j
  refine OpOK.pure h h2 (.int _ _) ?_
  have e1:a.eval x = .int k i:=by generalize a.eval x=v at r1; cases r1; rfl
  have e2:a.eval y = .int k' j:=by generalize a.eval y=v at r2; cases r2; rfl
  rcases ho with ⟨rfl,ts,ho⟩ | ⟨rfl,ts,ho⟩
  ·simp [execOp,ho,resolve,invoke,builtin,e1,e2,Builtin.min_,Builtin.min2,mxI]
  ·simp [execOp,ho,resolve,invoke,builtin,e1,e2,Builtin.max_,Builtin.max2,mxI]
 ·exact h2.elim
def mxL(big:Bool):Int->List PV->Option Int
 | i,[]=>some i
 | i,.int _ j::r=>mxL big (mxI big i j) r
 | _,_=>none
theorem mx_run{big:Bool}{k:IntKind}:∀ {r:List PV} {i m:Int} {vs:List Value},mxL big i r=some m->RepAll g w r vs->(vs.foldlM (fun x y=>if big=true then Builtin.max2 x y else Builtin.min2 x y) (.int k i)).run P w = .ok (.int k m) w
 | [],i,m,vs,h,hr=>by
  have:=hr.inv_nil
  subst this
  simp only [mxL,Option.some.injEq] at h
  subst h
  simp
 | p::r,i,m,vs,h,hr=>by
  obtain ⟨v,vs',rfl,h1,h2⟩:=hr.inv_cons
  cases p with
  | int k' j=>
   cases h1
   simp only [mxL] at h
   have ih:=mx_run (k:=k) h h2
   have e:(if big=true then Builtin.max2 (.int k i) (.int k' j) else Builtin.min2 (.int k i) (.int k' j))=pure (Value.int k (mxI big i j)):=by
    cases big <;> rfl
   rw [List.foldlM_cons,e]
   simp only [Sem.run_bind,Sem.run_pure,Result.andThen_ok]
   exact ih
  | _=>simp [mxL] at h
def actMX(n:Nat)(o:Oper)(big:Bool)(xs:List Operand):RM (List Wr):=evs xs fun ps=>match ps with
 | .int k i::r=>match mxL big i r with
  | some m=>wv n o (.v (.int k m))
  | none => .fail
 | _ => .fail
theorem actMX_sound{big:Bool}{xs:List Operand}{K:List Wr->Prop}(ho:(big=false/\∃ts,o.op = .call ⟨.builtin .min,⟨xs⟩,ts⟩)∨(big=true/\∃ts,o.op = .call ⟨.builtin .max,⟨xs⟩,ts⟩))(h:Sim cx s g l a w)(hw:(actMX cx.n o big xs).wp s K):OpOK P cx s o K a w:=by
 obtain ⟨ps,h1,r1⟩:=evs_sound h hw
 split at h1
 ·rename_i k i r
  split at h1
  ·rename_i m hm
   refine OpOK.pure h h1 (.int _ _) ?_
   obtain ⟨v,vs,hv,rv,rvs⟩:=r1.inv_cons
   have ev:v = .int k i:=by cases rv; rfl
   subst ev
   have e:=mx_run (P:=P) (k:=k) hm rvs
   rcases ho with ⟨rfl,ts,ho⟩ | ⟨rfl,ts,ho⟩
   ·simp only [Bool.false_eq_true,if_false] at e
    simp [execOp,ho,resolve,invoke,builtin,Builtin.min_,hv,e]
   ·simp only [if_true] at e
    simp [execOp,ho,resolve,invoke,builtin,Builtin.max_,hv,e]
  ·exact h1.elim
 ·exact h1.elim
def isSt(P:Program)(t:TypeId):Bool:=match P.underlying t with
 | some (.struct _)=>true
 | _=>false
def eq1(P:Program)(t:TypeId)(p q:PV):Option Bool:=match P.underlying t,p,q with
 | some .bool,.bool a,.bool b=>some (a==b)
 | some (.int _),.int k a,.int k' b=>if k=k' then some (a==b) else none
 | some .string,.str a,.str b=>some (a.toList==b.toList)
 | _,_,_=>none
theorem eq1_run{t:TypeId}{p q:PV}{b:Bool}{u v:Value}(h:eq1 P t p q=some b)(r1:Rep g w p u)(r2:Rep g w q v)(d:Nat):(Op.equalIn (d+1) t u v).run P w = .ok b w:=by
 unfold eq1 at h
 split at h
 ·rename_i hu; injection h with h; subst h; cases r1; cases r2; exact run_equalIn_bool' w d t _ _ hu
 ·rename_i hu
  split at h
  ·rename_i hk; subst hk; injection h with h; subst h; cases r1; cases r2; exact run_equalIn_int w d t _ _ _ _ hu
  ·cases h
 ·rename_i hu; injection h with h; subst h; cases r1; cases r2; exact run_equalIn_string w d t _ _ hu
 ·cases h
def eqFs(P:Program)(xs ys:List PV):List Field->Option Bool
 | []=>some true
 | f::fs=>if f.name ≠ "_" then (match segP P f.type xs f.offset,segP P f.type ys f.offset with
   | some p,some q=>match eq1 P f.type p q,eqFs P xs ys fs with
    | some b,some r=>some (b&&r)
    | _,_=>none
   | _,_=>none) else eqFs P xs ys fs
theorem eqFs_run{xs ys:List PV}{vx vy:List Value}(hx:RepAll g w xs vx)(ox:∀v∈vx,v.oneCell'=true)(hy:RepAll g w ys vy)(oy:∀v∈vy,v.oneCell'=true)(d:Nat):∀ {fs:List Field} {b:Bool},eqFs P xs ys fs=some b->(Op.eqFields (d+1) vx.toArray vy.toArray fs).run P w = .ok b w
 | [],b,h=>by
  simp only [eqFs,Option.some.injEq] at h
  subst h
  simp [Op.eqFields]
 | f::fs,b,h=>by
  simp only [eqFs] at h
  simp only [Op.eqFields]
  split at h
  ·rename_i hn
   rw [iP hn]
   split at h
   ·rename_i p q hp hq
    obtain ⟨u,k1,k2⟩:=segP_part (P:=P) hp hx ox
    obtain ⟨v,k3,k4⟩:=segP_part (P:=P) hq hy oy
    split at h
    ·rename_i b1 b2 h1 h2
     injection h with h
     subst h
     have e1:=eq1_run (P:=P) h1 k2 k4 d
     have ih:=eqFs_run hx ox hy oy d h2
     simp only [Sem.run_bind,k1,k3,e1,Result.andThen_ok]
     cases b1 with
     | false=>simp
     | true=>simpa using ih
    ·cases h
   ·cases h
  ·rename_i hn
   rw [iN hn]
   exact eqFs_run hx ox hy oy d h
def actEqS(P:Program)(n:Nat)(o:Oper)(op:BinOp)(ty:TypeId)(x y:Operand):RM (List Wr):=match P.underlying ty,isEq op with
 | some (.struct fs),some pos=>if (P.stoodInHeld ty||P.eqGuardType P.depth ty)=true then .fail else evP x fun p=>evP y fun q=>match p,q with
  | .agg xs,.agg ys=>match eqFs P xs ys fs.toList with
   | some b=>wv n o (.v (.bool (if pos then b else !b)))
   | none => .fail
  | _,_ => .fail
 | _,_ => .fail
theorem actEqS_sound{op:BinOp}{ty yt:TypeId}{x y:Operand}{K:List Wr->Prop}(ho:o.op = .binOp op ty x y yt)(h:Sim cx s g l a w)(hw:(actEqS P cx.n o op ty x y).wp s K):OpOK P cx s o K a w:=by
 unfold actEqS at hw
 split at hw
 ·rename_i fs pos hu hpos
  split at hw
  ·exact hw.elim
  ·rename_i hc
   simp only [Bool.or_eq_true,not_or,Bool.not_eq_true] at hc
   obtain ⟨p,h1,r1⟩:=evP_sound h hw
   obtain ⟨q,h2,r2⟩:=evP_sound h h1
   have hex:∀v,(eqGuard op ty x y (a.eval x) (a.eval y)).run P w = .ok () w->(binOp op ty (a.eval x) (a.eval y)).run P w = .ok v w->(execOp a.eval o).run P w = .ok (.value v) w:=by
    intro v hg hv
    simp only [execOp,ho,Sem.run_bind,hg,Result.andThen_ok,hv,Sem.run_pure]
   generalize a.eval x=vx at r1 hex
   generalize a.eval y=vy at r2 hex
   split at h2
   ·rename_i xs ys
    split at h2
    ·rename_i b hb
     cases r1 with
     | agg _ vs hl ho1 hr=>
      cases r2 with
      | agg _ vs2 hl2 ho2 hr2=>
       refine OpOK.pure h h2 (.bool _) (hex _ (run_eqGuard_agg w op ty x y _ _ hc.2) ?_)
       have hf:P.fieldsOf ty=fs:=by simp only [Program.fieldsOf,hu]
       have e1:=eqFs_run (P:=P) ⟨hl,hr⟩ ho1 ⟨hl2,hr2⟩ ho2 9998 hb
       have e2:(Op.equalIn 10000 ty (.agg vs.toArray) (.agg vs2.toArray)).run P w = .ok b w:=by
        rw [run_equalIn_agg w 9999 ty _ _ (by rw [hf]; exact hu) hc.1,hf]
        exact e1
       cases op <;> simp only [isEq] at hpos <;> first | (cases hpos; done) | skip
       ·injection hpos with hpos; subst hpos
        rw [run_eql_struct,e2]; rfl
       ·injection hpos with hpos; subst hpos
        rw [run_neq_struct,e2]; rfl
    ·exact h2.elim
   ·exact h2.elim
 ·exact hw.elim
def act(P:Program)(ro:TypeId->Option Bool)(n:Nat)(ops:List Oper)(o:Oper):RM (List Wr):=match o.op with
 | .move x=>mv n ops o false x
 | .assign x=>mv n ops o true x
 | .pick c x y=>actPick n o c x y
 | .alloc ty=>if (ro ty).isNone=true then .fail else actAlloc P n o ty
 | .box ty x=>actBox ro n o ty x
 | .build ty ps=>actBuild P n o ty ps
 | .buildSlice ty len ps=>actBS P n o ty len ps
 | .load ty x=>actLoad P n ops o ty x
 | .store ty x y=>actStore P o ty x y
 | .nilCheck x=>actNil P n o x
 | .binOp op ty x y _=>if isSt P ty=true then actEqS P n o op ty x y else actBin P n o op ty x y
 | .unOp op _ x=>actUn n o op x
 | .convert src dst x=>if (P.underlying src).isSome=true then actConv P n o dst x else .fail
 | .makeInterface ty x=>actMkI P n o ty x
 | .makeFunc fn f c=>actMkF n o fn f c
 | .fieldAddr ty x f=>actFA P n o ty x f
 | .field ty x f=>actField P n o ty x f
 | .indexAddr ty x i=>actIA P n o ty x i
 | .extract x i=>actEx n o x i
 | .typeAssert x _ ty ok=>actTA P n o x ty ok
 | .mapUpdate ty m k x=>actMU P o ty m k x
 | .insert ty m k x=>actMU P o ty m k x
 | .lookup ty x k ok=>actLU P n o ty x k ok
 | .next it false=>actNx n o it
 | .entry it=>actEn n o it
 | .index ty x i=>actIdx P n o ty x i
 | .slice ty x lo hi none=>actSl P n ops o ty x lo hi
 | .call ⟨.builtin .len,⟨[x]⟩,⟨[ty]⟩⟩=>actLen P n o ty x
 | .call ⟨.builtin .delete,⟨[m,k]⟩,⟨[ty,_]⟩⟩=>actDel P o ty m k
 | .call ⟨.builtin .min,⟨[x,y]⟩,_⟩=>actMM n o false x y
 | .call ⟨.builtin .max,⟨[x,y]⟩,_⟩=>actMM n o true x y
 | .call ⟨.builtin .min,⟨x::y::z::r⟩,_⟩=>actMX n o false (x::y::z::r)
 | .call ⟨.builtin .max,⟨x::y::z::r⟩,_⟩=>actMX n o true (x::y::z::r)
 | .call ⟨.builtin .append,⟨[x,y]⟩,⟨[ty,ty']⟩⟩=>if ty=ty' then actApp P n o ty x y else .fail
 | _ => .fail
theorem act_sound{ro:TypeId->Option Bool}{ops:List Oper}{K:List Wr->Prop}(h:Sim cx s g l a w)(hw:(act P ro cx.n ops o).wp s K):OpOK P cx s o K a w:=by
 unfold act at hw
 split at hw
 ·rename_i x ho; exact mv_sound h hw (by simp [execOp,ho])
 ·rename_i x ho; exact mv_sound h hw (by simp [execOp,ho])
 ·rename_i c x y ho; exact actPick_sound ho h hw
 ·rename_i ty ho
  split at hw
  ·exact hw.elim
  ·exact actAlloc_sound ho h hw
 ·rename_i ty x ho; exact actBox_sound ho h hw
 ·rename_i ty ps ho; exact actBuild_sound ho h hw
 ·rename_i ty len ps ho; exact actBS_sound ho h hw
 ·rename_i ty x ho; exact actLoad_sound ho h hw
 ·rename_i ty x y ho; exact actStore_sound ho h hw
 ·rename_i x ho; exact actNil_sound ho h hw
 ·rename_i op ty x y yt ho
  split at hw
  ·exact actEqS_sound ho h hw
  ·exact actBin_sound ho h hw
 ·rename_i op ty x ho; exact actUn_sound ho h hw
 ·rename_i src dst x ho
  split at hw
  ·rename_i hs; exact actConv_sound ho hs h hw
  ·exact hw.elim
 ·rename_i ty x ho; exact actMkI_sound ho h hw
 ·rename_i fn f c ho; exact actMkF_sound ho h hw
 ·rename_i ty x f ho; exact actFA_sound ho h hw
 ·rename_i ty x f ho; exact actField_sound ho h hw
 ·rename_i ty x i ho; exact actIA_sound ho h hw
 ·rename_i x i ho; exact actEx_sound ho h hw
 ·rename_i x xt ty ok ho; exact actTA_sound ho h hw
 ·rename_i ty m k x ho; exact actMU_sound (.inl ho) h hw
 ·rename_i ty m k x ho; exact actMU_sound (.inr ho) h hw
 ·rename_i ty x k ok ho; exact actLU_sound ho h hw
 ·rename_i it ho; exact actNx_sound ho h hw
 ·rename_i it ho; exact actEn_sound ho h hw
 ·rename_i ty x i ho; exact actIdx_sound ho h hw
 ·rename_i ty x lo hi ho; exact actSl_sound ho h hw
 ·rename_i x ty ho; exact actLen_sound ho h hw
 ·rename_i m k ty ty2 ho; exact actDel_sound ho h hw
 ·rename_i x y ts ho; exact actMM_sound (.inl ⟨rfl,ts,ho⟩) h hw
 ·rename_i x y ts ho; exact actMM_sound (.inr ⟨rfl,ts,ho⟩) h hw
 ·rename_i x y z r ts ho; exact actMX_sound (.inl ⟨rfl,ts,ho⟩) h hw
 ·rename_i x y z r ts ho; exact actMX_sound (.inr ⟨rfl,ts,ho⟩) h hw
 ·rename_i x y ty ty' ho
  split at hw
  ·rename_i he; subst he; exact actApp_sound ho h hw
  ·exact hw.elim
 ·exact hw.elim
theorem upon_mono{next next':Act->World->Prop}{Q:Exit->Act->World->Prop}{r:Result Next}(hn:∀a w,next a w->next' a w)(h:o.upon P a next Q r):o.upon P a next' Q r:=by
 unfold Oper.upon at h ⊢
 split at h
 ·exact hn _ _ h
 ·exact hn _ _ h
 ·exact hn _ _ h
 ·refine h.mono ?_
  intro e w' he
  cases e with
  | returned v=>exact hn _ _ he
  | panicked ch=>exact he
  | outgrown=>exact he
 ·exact h.mono fun v w' hv=>hn _ _ hv
 ·exact h
 ·exact h
def PL(P:Program)(cx:Cx)(all:Array Oper)(ls:List Oper)(s:S)(Q:PExit->S->Prop):Prop:=∀g l a w,Sim cx s g l a w->wpList P all (post cx Q) ls a w
def S.skip(s:S)(o:Oper):S:=match o.dst with
 | some d=>{ s with tmps:=put s.tmps d (.v (.tup [])) }
 | none=>s
theorem PL_nil{all:Array Oper}{Q:PExit->S->Prop}(h:Q .normal s):PL P cx all [] s Q:=fun g l _ _ hs=>wpList_nil ⟨.normal,s,g,l,h,trivial,hs⟩
theorem PL_le{all:Array Oper}{ls:List Oper}{Q:PExit->S->Prop}(hl:Le t s)(h:PL P cx all ls t Q):PL P cx all ls s Q:=fun g l a w hs=>h g l a w (hs.le hl)
theorem PL_act{ro:TypeId->Option Bool}{all:Array Oper}{ops rest:List Oper}{Q:PExit->S->Prop}(hg:o.guard=none)(h:(act P ro cx.n ops o).wp s fun wr=>PL P cx all rest (s.wrs wr) Q):PL P cx all (o::rest) s Q:=fun g l a w hs=>by
 refine wpList_plain hg fun K hK=>?_
 refine upon_mono ?_ (act_sound hs h (post cx Q))
 rintro a' w' ⟨wr,g',l',hp,sm⟩
 exact hK _ _ (hp g' l' a' w' sm)
def wantP(want:Bool):LV->Option Bool
 | .v (.bool b)=>some (b==want)
 | .v (.tup _)=>some false
 | _=>none
theorem yielded_of{all:Array Oper}{j dj:Nat}{want b:Bool}{lv:LV}(hd:(all[j]?).bind (·.dst)=some dj)(hn:dj<cx.n)(h:Sim cx s g l a w)(hl:lk s.tmps dj=some lv)(hw:wantP want lv=some b):(yielded all a.tmps j==some want)=b:=by
 have hr:=h.tm dj lv hl
 have hs:a.tmps[dj]?=some (a.tmps.getD dj undef):=by
  have:dj<a.tmps.size:=by rw [h.size]; exact hn
  simp [this]
 unfold yielded
 rw [hd,Option.bind_some,hs]
 generalize a.tmps.getD dj undef=v at hr
 unfold wantP at hw
 split at hw
 ·rename_i b0
  cases hr
  simp only [Option.some.injEq] at hw
  rw [<-hw]
  cases want <;> cases b0 <;> rfl
 ·cases hr
  simp only [Option.some.injEq] at hw
  rw [<-hw]
  cases want <;> rfl
 ·cases hw
def dstOK(n:Nat):List Oper->Bool
 | []=>true
 | o::r=>(match o.dst with | some d=>decide (d<n) | none=>true)&&dstOK n r
theorem RM.wp_mono{α:Type}{K K':α->Prop}(hk:∀x,K x->K' x):∀ {r:RM α},r.wp s K->r.wp s K'
 | .ret _,h=>hk _ h
 | .fail,h=>h
 | .getT t k,h=>by
  simp only [RM.wp] at h ⊢
  split at h
  ·rename_i v hv; exact RM.wp_mono hk h
  ·exact h.elim
 | .getB t k,h=>by
  simp only [RM.wp] at h ⊢
  split at h
  ·rename_i v hv; exact RM.wp_mono hk h
  ·exact h.elim
 | .getX t k,h=>by
  simp only [RM.wp] at h ⊢
  split at h
  ·rename_i v hv; exact RM.wp_mono hk h
  ·exact h.elim
 | .assume p k,h=>⟨h.1,RM.wp_mono hk h.2⟩
theorem dstOK_mem{n:Nat}:∀ {ls:List Oper},dstOK n ls=true->∀ {o:Oper},o∈ls->∀d,o.dst=some d->d<n
 | [],_,o,ho,_,_=>by simp at ho
 | x::r,h,o,ho,d,hd=>by
  simp only [dstOK,Bool.and_eq_true] at h
  rcases List.mem_cons.1 ho with rfl | ho
  ·have h1:=h.1
   rw [hd] at h1
   simpa using h1
  ·exact dstOK_mem h.2 ho d hd
end
abbrev Ext:=List (Nat × List LV)
inductive CRes where
 | ret (p:PV)
 | own (e:TypeId) (z:Nat) (es:List (List PV))
 | panic (p:PV)
def lx(l:LG):LG where
 L:=fun _=>none
 U:=fun p=>match p with
  | .x n o=>l.U (.x n o)
  | _=>none
 O:=fun b=>match l.O b with
  | some (.x n)=>some (.x n)
  | some (.u (.x n o))=>some (.u (.x n o))
  | _=>none
structure Ent (e:Ext) (g:Gh) (l:LG) (w:World):Prop where
 ex:∀x cs,lk e x=some cs->∃b,XR g x cs b/\l.O b=some (.x x)/\BlkE g l w (.x x) b cs
 olt:∀b o,l.O b=some o->b<w.heap.size
 uo:∀p b,l.U p=some b->l.O b=some (.u p)
 fresh:(∀b,w.heap.size<=b->g.M b=none)/\(∀n,cnt e<=n->g.X n=none)/\∀n c,cnt e<=n->g.Y n c=none
 xlt:∀n b,g.X n=some b->b<w.heap.size
 only:∀b o,l.O b=some o->(∃n,o = .x n)∨∃n k,o = .u (.x n k)
 glb:GOK g w
def ResOK(g:Gh)(l:LG)(ok:Nat->Prop)(w:World):CRes->Ending->Prop
 | .ret p,.returned v=>Rep g w p v
 | .own e z es,.returned v=>((v = .slice none 0 0/\es=[])∨∃a,v = .slice (some a) es.length es.length/\Rep g w (.sl z es) v/\e<1000000) ∨
   ∃b off cap cur,v = .slice (some ⟨b,off,none⟩) es.length cap/\ok b/\b<w.heap.size/\l.O b=none/\g.M b=some (mkE e (es.length * z+off))/\w.heap[b]?=some (.cells cur (btE e) (0,0))/\cur.size=cap * z+off/\RowV g w e z es cap off cur v
 | .panic p,.panicked ch=>∃v,ch=[{ v,recovered:=false }]/\Rep g w p v
 | _,_=>False
def CallC(P:Program)(f:FuncId)(args:List PV)(e:Ext)(R:CRes->Ext->Prop):Prop:=
 ∀vs g l w,RepAll g w args vs->Ent e g l w->Calls P f vs.toArray w fun en w'=>∃res e' g' l',R res e'/\ResOK g' l' (fun b=>w.heap.size<=b∨(l.O b).isSome=true) w' res en/\Ent e' g' l' w'/\Mono g w g' w'/\w.heap.size<=w'.heap.size /\
  (∀b,b<w.heap.size->l.O b=none->w'.heap[b]?=w.heap[b]?/\g'.M b=g.M b)/\(∀b o,l'.O b=some o->w.heap.size<=b∨(l.O b).isSome=true)/\w'.os=w.os/\w'.tape=w.tape/\w'.output=w.output
theorem CallC.mono{P:Program}{f:FuncId}{args:List PV}{e:Ext}{R R':CRes->Ext->Prop}(h:CallC P f args e R)(hr:∀res e',R res e'->R' res e'):CallC P f args e R':=fun vs g l w ha he=>
 (h vs g l w ha he).mono fun _ _ ⟨res,e',g',l',h1,h2⟩=>⟨res,e',g',l',hr _ _ h1,h2⟩
section
variable {P:Program} {cx:Cx} {s t:S} {g:Gh} {l:LG} {a:Act} {w:World} {o:Oper}
theorem RepL.lx{n k:Nat}{lv:LV}{v:Value}(hn:lv.nolp=true)(h:RepL g l w (.x n k) lv v):RepL g (Pv.lx l) w (.x n k) lv v:=
 h.keep (Mono.refl g w) (fun i off e=>by rw [e] at hn; cases hn) fun b hb=>⟨hb,rfl,rfl⟩
theorem Sim.ent(h:Sim cx s g l a w):Ent s.ext g (lx l) w where
 ex x cs hx:=by
  obtain ⟨b,h1,h2,hE⟩:=h.ex x cs hx
  refine ⟨b,h1,by simp [lx,h2],?_⟩
  rcases hE with ⟨h3,cur,e,h4,h5,h6⟩ | hE
  ·exact .inl ⟨h3,cur,e,h4,h5,fun j hj=>⟨(h6 j hj).1,(h6 j hj).2.1,(h6 j hj).2.2.lx (h6 j hj).1⟩⟩
  ·exact .inr hE
 olt b o ho:=by
  simp only [lx] at ho
  split at ho
  ·rename_i n hn; exact (h.own b _ hn).1
  ·rename_i n k hn; exact (h.own b _ hn).1
  ·cases ho
 uo p b hu:=by
  simp only [lx] at hu ⊢
  split at hu
  ·rename_i n k
   have:=h.uo _ _ hu
   rw [this]
  ·cases hu
 fresh:=h.fresh
 xlt:=h.xlt
 glb:=h.hist.glb
 only b o ho:=by
  simp only [lx] at ho
  split at ho
  ·injection ho with ho; exact .inl ⟨_,ho.symm⟩
  ·injection ho with ho; exact .inr ⟨_,_,ho.symm⟩
  ·cases ho
def lback(l l':LG):LG where
 L:=l.L
 U:=fun p=>match p with
  | .x n o=>l'.U (.x n o)
  | p=>l.U p
 O:=fun b=>match l'.O b with
  | some o=>some o
  | none=>match l.O b with
   | some (.x _)=>none
   | some (.u (.x _ _))=>none
   | o=>o
theorem Sim.back{e':Ext}{g':Gh}{l':LG}{w':World}(h:Sim cx s g l a w)(he:Ent e' g' l' w')(hm:Mono g w g' w')(hsz:w.heap.size<=w'.heap.size)
  (hfr:∀b,b<w.heap.size->(lx l).O b=none->w'.heap[b]?=w.heap[b]?/\g'.M b=g.M b) (hown:∀b o,l'.O b=some o->w.heap.size<=b∨((lx l).O b).isSome=true)
  (os:w'.os=w.os) (tape:w'.tape=w.tape) (output:w'.output=w.output):Sim cx { s with ext:=e' } g' (lback l l') a w':=by
 have hnx:∀ {b o},l.O b=some o->(∀n,o ≠ .x n)->(∀n k,o ≠ .u (.x n k))->(lx l).O b=none:=fun {b o} ho h1 h2=>by
  simp only [lx,ho]
  split
  ·rename_i n e0; injection e0 with e0; exact absurd e0 (h1 n)
  ·rename_i n k e0; injection e0 with e0; exact absurd e0 (h2 n k)
  ·rfl
 have hkeep:∀ {b o},l.O b=some o->(∀n,o ≠ .x n)->(∀n k,o ≠ .u (.x n k))->(lback l l').O b=some o/\w'.heap[b]?=w.heap[b]?/\g'.M b=g.M b:=fun {b o} ho h1 h2=>by
  have hlt:=(h.own b o ho).1
  have hx:=hnx ho h1 h2
  have hl':l'.O b=none:=by
   cases hb:l'.O b with
   | none=>rfl
   | some o'=>
    rcases hown b o' hb with hc | hc
    ·omega
    ·rw [hx] at hc; cases hc
  refine ⟨?_,hfr b hlt hx⟩
  simp only [lback,hl',ho]
  split
  ·rename_i n e0; injection e0 with e0; exact absurd e0 (h1 n)
  ·rename_i n k e0; injection e0 with e0; exact absurd e0 (h2 n k)
  ·rfl
 have keepL:∀ {p lv v},(∀n k,p≠UL.x n k)->RepL g l w p lv v->RepL g' (lback l l') w' p lv v:=fun {p lv v} hp hr=>
  hr.keep hm (fun _ _ _=>rfl) fun b hu=>by
   obtain ⟨k1,k2,k3⟩:=hkeep (h.uo p b hu) sM (fun n k e0=>by injection e0 with e0; exact hp n k e0)
   refine ⟨?_,k3,k2⟩
   cases p with
   | x n k=>exact absurd rfl (hp n k)
   | t i=>exact hu
   | b i k=>exact hu
 refine ⟨⟨h.hist.mono.trans hm,Nat.le_trans h.hist.size hsz,fun b hlt ho=>?_,os.trans h.hist.os,tape.trans h.hist.tape,output.trans h.hist.output,h.hist.glb.mono hm⟩,h.size,h.defers,fun t lv ht=>keepL sM (h.tm t lv ht),?_,?_,?_,?_,he.fresh,he.xlt⟩
 ·obtain ⟨h1,h2⟩:=h.hist.frame b hlt ho
  have hlt':=Nat.lt_of_lt_of_le hlt h.hist.size
  have hx:(lx l).O b=none:=by
   cases hb:(lx l).O b with
   | none=>rfl
   | some o=>
    have:(l.O b).isSome=true:=by
     simp only [lx] at hb
     split at hb
     ·rename_i hn; rw [hn]; rfl
     ·rename_i hn; rw [hn]; rfl
     ·cases hb
    obtain ⟨o',ho'⟩:=Option.isSome_iff_exists.1 this
    rcases (h.own b o' ho').2 with hc | hc
    ·omega
    ·exact absurd hc ho
  obtain ⟨k1,k2⟩:=hfr b hlt' hx
  exact ⟨k1.trans h1,k2.trans h2⟩
 ·intro i cs hi
  obtain ⟨b,h1,h2,h3,cur,e,h4,h5,h6⟩:=h.bx i cs hi
  obtain ⟨k1,k2,k3⟩:=hkeep h2 sM sM
  exact ⟨b,h1,k1,k3.trans h3,cur,e,k2.trans h4,h5,fun j hj=>⟨(h6 j hj).1,(h6 j hj).2.1,keepL sM (h6 j hj).2.2⟩⟩
 ·intro x cs hx
  obtain ⟨b,h1,h2,hE⟩:=he.ex x cs hx
  refine ⟨b,h1,by simp [lback,h2],?_⟩
  rcases hE with ⟨h3,cur,e,h4,h5,h6⟩ | hE
  rotate_left
  ·exact .inr hE
  refine .inl ⟨h3,cur,e,h4,h5,fun j hj=>⟨(h6 j hj).1,(h6 j hj).2.1,?_⟩⟩
  exact (h6 j hj).2.2.keep (Mono.refl _ _) (fun i off e0=>by have:=(h6 j hj).1; rw [e0] at this; cases this) fun b hb=>⟨hb,rfl,rfl⟩
 ·intro b o ho
  simp only [lback] at ho
  split at ho
  ·rename_i o' ho'
   refine ⟨he.olt b o' ho',?_⟩
   rcases hown b o' ho' with hc | hc
   ·exact .inl (Nat.le_trans h.hist.size hc)
   ·have:(l.O b).isSome=true:=by
     simp only [lx] at hc
     split at hc
     ·rename_i hn; rw [hn]; rfl
     ·rename_i hn; rw [hn]; rfl
     ·cases hc
    obtain ⟨o2,ho2⟩:=Option.isSome_iff_exists.1 this
    exact (h.own b o2 ho2).2
  ·split at ho
   ·cases ho
   ·cases ho
   ·exact ⟨Nat.lt_of_lt_of_le (h.own b o ho).1 hsz,(h.own b o ho).2⟩
 ·intro p b hu
  simp only [lback] at hu
  split at hu
  ·rename_i n k
   have:=he.uo _ _ hu
   simp [lback,this]
  ·rename_i hp
   exact (hkeep (h.uo p b hu) sM (fun n k e0=>by injection e0 with e0; exact hp n k e0)).1
end
section
variable {P:Program} {cx:Cx} {s t:S} {g:Gh} {l:LG} {a:Act} {w:World} {o:Oper}
theorem Sim.adopt(h:Sim cx s g l a w){q:UL}{b:Nat}(hq:noU s q)(hb:l.O b=none)(hlt:b<w.heap.size)(hok:cx.w0.heap.size<=b∨cx.own0 b) :
  Sim cx s g { l with U:=updU l.U q (some b),O:=upd l.O b (some (.u q)) } a w:=by
 have hne:∀ {b' o},l.O b'=some o->b'≠b:=fun {b' o} ho e0=>by subst e0; rw [hb] at ho; cases ho
 have keep:∀ {r lv v},(r=q->∀e z es,lv≠LV.uniq e z es)->RepL g l w r lv v->RepL g { l with U:=updU l.U q (some b),O:=upd l.O b (some (.u q)) } w r lv v:=fun {r lv v} hn hr=>by
  by_cases hc:r=q
  ·exact hr.noU (Mono.refl g w) rfl (hn hc)
  ·exact hr.keep (Mono.refl g w) (fun _ _ _=>rfl) fun b' hu=>⟨by simp [updU,hc,hu],rfl,rfl⟩
 refine ⟨h.hist,h.size,h.defers,fun t lv ht=>keep ?_ (h.tm t lv ht),?_,?_,?_,?_,h.fresh,h.xlt⟩
 ·rintro e0 e' z es rfl
  subst e0; exact hq e' z es ht
 ·intro i cs hi
  obtain ⟨b',h1,h2,h3,cur,e,h4,h5,h6⟩:=h.bx i cs hi
  refine ⟨b',h1,(upd_other _ _ (hne h2)).trans h2,h3,cur,e,h4,h5,fun j hj=>⟨(h6 j hj).1,(h6 j hj).2.1,keep ?_ (h6 j hj).2.2⟩⟩
  rintro e0 e' z es e1
  subst e0; exact hq cs hi e' z es (by rw [List.getElem?_eq_getElem hj,e1])
 ·intro i cs hi
  obtain ⟨b',h1,h2,hE⟩:=h.ex i cs hi
  refine ⟨b',h1,(upd_other _ _ (hne h2)).trans h2,?_⟩
  rcases hE with ⟨h3,cur,e,h4,h5,h6⟩ | hE
  rotate_left
  ·exact .inr hE
  refine .inl ⟨h3,cur,e,h4,h5,fun j hj=>⟨(h6 j hj).1,(h6 j hj).2.1,keep ?_ (h6 j hj).2.2⟩⟩
  rintro e0 e' z es e1
  subst e0; exact hq cs hi e' z es (by rw [List.getElem?_eq_getElem hj,e1])
 ·intro b' o ho
  simp only [upd] at ho
  split at ho
  ·rename_i e0; subst e0; exact ⟨hlt,hok⟩
  ·exact h.own b' o ho
 ·intro r b' hu
  simp only [updU] at hu
  split at hu
  ·rename_i e0; subst e0; injection hu with hu; subst hu; exact upd_same _ _ _
  ·exact (upd_other _ _ (hne (h.uo r b' hu))).trans (h.uo r b' hu)
def actCall(f:Operand)(args:List Operand):RM (FuncId × List PV):=ev f fun lv=>match lv with
 | .v (.fn (.func fid) first captured)=>evs args fun ps => .ret (fid,first++ps++captured)
 | _ => .fail
def isFn(P:Program)(f:FuncId):Bool:=match P.funcs[f]? with
 | some fn=>fn.body.isSome && !(fn.name == "runtime.NumGoroutine")
 | none=>false
def S.setD(s:S)(dst:Option Nat)(lv:LV)(e:Ext):S:={ s with tmps:=match dst with | some d=>put s.tmps d lv | none=>s.tmps,ext:=e }
def behind(K:S->Prop)(Q:PExit->S->Prop)(s:S)(dst:Option Nat):CRes->Ext->Prop
 | .ret p,e=>K (s.setD dst (.v p) e)
 | .own te z es,e=>K (s.setD dst (.uniq te z es) e)
 | .panic p,e=>Q (.panic p) { s with ext:=e }
theorem run_callFunc{f:FuncId}{vs:Array Value}(h:isFn P f=true):(callFunc f vs).run P w = .ok (.enter f vs) w:=by
 unfold isFn at h
 split at h
 ·rename_i fn hf
  simp only [Bool.and_eq_true] at h
  obtain ⟨h1,h2⟩:=h
  have h2':(fn.name == "runtime.NumGoroutine")=false:=by simpa using h2
  have h1':fn.body.isNone=false:=by cases hb:fn.body <;> simp_all
  simp only [callFunc,Sem.run_bind,run_program,Result.andThen_ok,hf,h2',Bool.false_eq_true,if_false,h1']
  rfl
 ·cases h
theorem entered_sound{fid:FuncId}{vl:List Value}{K:S->Prop}{Q:PExit->S->Prop}(hrun:(execOp a.eval o).run P w = .ok (.enter fid vl.toArray) w)(hd:∀d,o.dst=some d->d<cx.n)(h:Sim cx s g l a w)
  (hc:Calls P fid vl.toArray w (fun en w'=>∃res e' g' l',behind K Q s o.dst res e'/\ResOK g' l' (fun b=>w.heap.size<=b∨((lx l).O b).isSome=true) w' res en/\Ent e' g' l' w'/\Mono g w g' w'/\w.heap.size<=w'.heap.size /\
  (∀b,b<w.heap.size->(lx l).O b=none->w'.heap[b]?=w.heap[b]?/\g'.M b=g.M b)/\(∀b o,l'.O b=some o->w.heap.size<=b∨((lx l).O b).isSome=true)/\w'.os=w.os/\w'.tape=w.tape/\w'.output=w.output)):o.wp P a w (fun a' w'=>∃s' g' l',K s'/\Sim cx s' g' l' a' w') (post cx Q):=by
 unfold Oper.wp
 rw [hrun,Oper.upon_enter]
 refine hc.mono ?_
 rintro en w' ⟨res,e',g',l',hR,hres,hent,hm,hsz,hfr,hown,os,tape,output⟩
 have hb:=h.back hent hm hsz hfr hown os tape output
 cases res with
 | ret p=>
  cases en with
  | returned v=>
   refine ⟨_,g',lback l l',hR,?_⟩
   cases hdd:o.dst with
   | none=>exact hb
   | some d=>exact hb.set (hd d hdd) hres
  | panicked ch=>exact hres.elim
  | outgrown=>exact hres.elim
 | own te z es=>
  cases en with
  | returned v=>
   cases hdd:o.dst with
   | none=>exact ⟨_,g',lback l l',hR,by rw [hdd]; exact hb⟩
   | some d=>
    have hj:Sim cx { s with ext:=e',tmps:=put s.tmps d .junk } g' (lback l l') a w':=by
     refine hb.leF (fun k v hk=>?_) (same_le WLs.refl _) (same_le WLs.refl _)
     simp only [lk_put] at hk
     split at hk
     ·injection hk with hk; exact .inl hk.symm
     ·exact .inr ⟨v,hk,WL.refl v⟩
    rcases hres with hfull | ⟨b,off,cap,cur,k1,k2,k3,k4,k5,k6,k7,k8⟩
    ·refine ⟨_,g',lback l l',hR,?_⟩
     rw [hdd]
     refine (hj.set (lv := .uniq te z es) (hd d hdd) (.inl hfull)).congr (fun k=>?_) (fun _=>rfl) (fun _=>rfl)
     simp only [S.setD,lk_put]
     split <;> rfl
    ·have hO:(lback l l').O b=none:=by
      simp only [lback,k4]
      rcases k2 with hc2 | hc2
      ·have:l.O b=none:=by
        cases hx:l.O b with
        | none=>rfl
        | some o'=>exact absurd (h.own b o' hx).1 oM
       rw [this]
      ·simp only [lx] at hc2
       split at hc2
       ·first | rfl | (rename_i hn; rw [hn])
       ·first | rfl | (rename_i hn; rw [hn])
       ·cases hc2
     have hok:cx.w0.heap.size<=b∨cx.own0 b:=by
      rcases k2 with hc2 | hc2
      ·exact .inl (Nat.le_trans h.hist.size hc2)
      ·have:(l.O b).isSome=true:=by
        simp only [lx] at hc2
        split at hc2
        ·rename_i hn; rw [hn]; rfl
        ·rename_i hn; rw [hn]; rfl
        ·cases hc2
       obtain ⟨o2,ho2⟩:=Option.isSome_iff_exists.1 this
       exact (h.own b o2 ho2).2
     have ha:=hj.adopt (q := .t d) (fun e2 z2 es2 he=>by simp only [lk_put,if_true] at he; injection he with he; cases he) hO k3 hok
     refine ⟨_,g',{ lback l l' with U:=updU (lback l l').U (.t d) (some b),O:=upd (lback l l').O b (some (.u (.t d))) },hR,?_⟩
     rw [hdd]
     refine (ha.set (lv := .uniq te z es) (hd d hdd) (.inr ⟨b,off,cap,cur,k1,by simp [updU],k5,k6,k7,k8⟩)).congr (fun k=>?_) (fun _=>rfl) (fun _=>rfl)
     simp only [S.setD,lk_put]
     split <;> rfl
  | panicked ch=>exact hres.elim
  | outgrown=>exact hres.elim
 | panic p=>
  cases en with
  | returned v=>exact hres.elim
  | panicked ch=>exact ⟨.panic p,_,g',lback l l',hR,hres,hb⟩
  | outgrown=>exact hres.elim
theorem enter_sound{fid:FuncId}{vl:List Value}{ps:List PV}{K:S->Prop}{Q:PExit->S->Prop}(hrun:(execOp a.eval o).run P w = .ok (.enter fid vl.toArray) w)(hall:RepAll g w ps vl)(hd:∀d,o.dst=some d->d<cx.n)(h:Sim cx s g l a w)
  (hc:CallC P fid ps s.ext (behind K Q s o.dst)):o.wp P a w (fun a' w'=>∃s' g' l',K s'/\Sim cx s' g' l' a' w') (post cx Q):=entered_sound hrun hd h (hc _ g (lx l) w hall h.ent)
theorem call_sound{f:Operand}{args:Array Operand}{ts:Array TypeId}{K:S->Prop}{Q:PExit->S->Prop}(ho:o.op = .call ⟨.value f,args,ts⟩)(hd:∀d,o.dst=some d->d<cx.n)(h:Sim cx s g l a w)
  (hw:(actCall f args.toList).wp s fun x=>isFn P x.1=true/\CallC P x.1 x.2 s.ext (behind K Q s o.dst)) :
  o.wp P a w (fun a' w'=>∃s' g' l',K s'/\Sim cx s' g' l' a' w') (post cx Q):=by
 obtain ⟨lv,u,h1,r1,-⟩:=ev_sound h hw
 split at h1
 ·rename_i fid first captured
  obtain ⟨ps,h2,r2⟩:=evs_sound h h1
  obtain ⟨hfn,hc⟩:=h2
  have hex:∀fv cv,a.eval f = .func (.func fid) fv cv->(execOp a.eval o).run P w = .ok (.enter fid ((fv++(args.map a.eval))++cv)) w:=by
   intro fv cv hf
   simp only [execOp,ho,resolve,hf,Deferred.ofValue,Sem.run_bind,Sem.run_pure,Result.andThen_ok,invoke,run_callFunc hfn]
  generalize a.eval f=vf at r1 hex
  cases r1 with
  | fn _ _ _ fv cv l1 l2 r3 r4=>
   have hrun:=hex _ _ rfl
   have hargs:(fv.toArray++args.map a.eval)++cv.toArray=(fv++args.toList.map a.eval++cv).toArray:=by
    apply Array.ext'
    simp
   rw [hargs] at hrun
   exact enter_sound hrun ((RepAll.app ⟨l1,r3⟩ r2).app ⟨l2,r4⟩) hd h hc
 ·exact h1.elim
theorem run_method{t:TypeId}{name:String}{f:FuncId}{v:Value}(h:methT P t name=some f):(method (P.types.size+Made.depth) t v name).run P w = .ok (f,v) w:=by
 unfold methT at h
 split at h
 ·rename_i i hi
  split at h
  ·rename_i m hm
   split at h
   ·rename_i hp
    have hp':m.path.toList=[]:=by simpa using hp
    have hd:P.types.size+Made.depth=(P.types.size+(Made.depth - 1))+1:=by
     have:0<Made.depth:=by decide
     omega
    rw [hd]
    split at h
    ·cases h
    ·rename_i f' u hn hf hu
     injection h with h
     subst h
     simp only [method,Sem.run_bind,typeInfo,run_program,Result.andThen_ok,hi,Sem.run_pure,hm,hp',follow,hf,receiverAt,run_underlying hu]
     cases u <;> first | (exact (hn _ rfl).elim) | (simp [Place.get]; done)
    ·rename_i f' hf hu
     injection h with h
     subst h
     simp [method,typeInfo,hi,hm,hp',follow,hf,receiverAt,run_underlying hu,Place.get]
    ·cases h
   ·cases h
  ·cases h
 ·cases h
def actInv(P:Program)(r:Operand)(name:String)(args:List Operand):RM (FuncId × List PV):=ev r fun lv=>match lv with
 | .v (.iface t p)=>match methT P t name with
  | some f=>evs args fun ps => .ret (f,p::ps)
  | none => .fail
 | .v (.ifm t f p) => .assume (decide (methT P t name=some f)) (evs args fun ps => .ret (f,p::ps))
 | _ => .fail
theorem inv_sound{r:Operand}{name:String}{args:Array Operand}{ts:Array TypeId}{K:S->Prop}{Q:PExit->S->Prop}(ho:o.op = .call ⟨.invoke r name,args,ts⟩)(hd:∀d,o.dst=some d->d<cx.n)(h:Sim cx s g l a w)
  (hw:(actInv P r name args.toList).wp s fun x=>isFn P x.1=true/\CallC P x.1 x.2 s.ext (behind K Q s o.dst)) :
  o.wp P a w (fun a' w'=>∃s' g' l',K s'/\Sim cx s' g' l' a' w') (post cx Q):=by
 obtain ⟨lv,u,h1,r1,-⟩:=ev_sound h hw
 split at h1
 ·rename_i t p
  split at h1
  ·rename_i f hm
   obtain ⟨ps,h2,r2⟩:=evs_sound h h1
   obtain ⟨hfn,hc⟩:=h2
   have hex:∀v,a.eval r = .iface t v->(execOp a.eval o).run P w = .ok (.enter f (v::args.toList.map a.eval).toArray) w:=by
    intro v hv
    have e1:(#[Value.iface t v]++args.map a.eval).extract 1 (#[Value.iface t v]++args.map a.eval).size=args.map a.eval:=by
     apply Array.ext'
     simp
     exact List.take_of_length_le sM
    have e2 : #[v]++args.map a.eval=(v::args.toList.map a.eval).toArray:=by apply Array.ext'; simp
    have e0:(#[Value.iface t v]++args.map a.eval)[0]?=some (.iface t v):=by rw [Array.getElem?_append]; simp
    simp only [execOp,ho,resolve,hv,Sem.run_bind,Sem.run_pure,Result.andThen_ok,invoke,e0,e1,callMethod,run_program,run_method hm,run_callFunc hfn,e2]
   generalize a.eval r=vr at r1 hex
   cases r1 with
   | iface _ _ v hv=>exact enter_sound (hex v rfl) (RepAll.cons hv r2) hd h hc
  ·exact h1.elim
 ·rename_i t f p
  obtain ⟨hm0,h1⟩:=h1
  have hm:=of_decide_eq_true hm0
  obtain ⟨ps,h2,r2⟩:=evs_sound h h1
  obtain ⟨hfn,hc⟩:=h2
  have hex:∀v,a.eval r = .iface t v->(execOp a.eval o).run P w = .ok (.enter f (v::args.toList.map a.eval).toArray) w:=by
   intro v hv
   have e1:(#[Value.iface t v]++args.map a.eval).extract 1 (#[Value.iface t v]++args.map a.eval).size=args.map a.eval:=by
    apply Array.ext'
    simp
    exact List.take_of_length_le sM
   have e2 : #[v]++args.map a.eval=(v::args.toList.map a.eval).toArray:=by apply Array.ext'; simp
   have e0:(#[Value.iface t v]++args.map a.eval)[0]?=some (.iface t v):=by rw [Array.getElem?_append]; simp
   simp only [execOp,ho,resolve,hv,Sem.run_bind,Sem.run_pure,Result.andThen_ok,invoke,e0,e1,callMethod,run_program,run_method hm,run_callFunc hfn,e2]
  generalize a.eval r=vr at r1 hex
  cases r1 with
  | ifm _ _ _ v hv=>exact enter_sound (hex v rfl) (RepAll.cons hv r2) hd h hc
 ·exact h1.elim
def callee(P:Program)(o:Oper):Option (RM (FuncId × List PV)):=match o.op with
 | .call ⟨.value f,args,_⟩=>some (actCall f args.toList)
 | .call ⟨.invoke r name,args,_⟩=>some (actInv P r name args.toList)
 | _=>none
theorem callee_sound{r:RM (FuncId × List PV)}{K:S->Prop}{Q:PExit->S->Prop}(ho:callee P o=some r)(hd:∀d,o.dst=some d->d<cx.n)(h:Sim cx s g l a w)
  (hw:r.wp s fun x=>isFn P x.1=true/\CallC P x.1 x.2 s.ext (behind K Q s o.dst)):o.wp P a w (fun a' w'=>∃s' g' l',K s'/\Sim cx s' g' l' a' w') (post cx Q):=by
 unfold callee at ho
 split at ho
 ·rename_i hop; injection ho with ho; subst ho; exact call_sound hop hd h hw
 ·rename_i hop; injection ho with ho; subst ho; exact inv_sound hop hd h hw
 ·cases ho
def argT:Nat->List PV->List (Nat × LV)
 | _,[]=>[]
 | k,p::r=>(k,.v p)::argT (k+1) r
theorem lk_argT:∀ {ps:List PV} {k t:Nat} {lv:LV},lk (argT k ps) t=some lv->∃j p,t=k+j/\ps[j]?=some p/\lv = .v p
 | [],k,t,lv,h=>by simp [argT,lk] at h
 | p::r,k,t,lv,h=>by
  simp only [argT,lk] at h
  split at h
  ·rename_i e; subst e; injection h with h; exact ⟨0,p,rfl,rfl,h.symm⟩
  ·obtain ⟨j,q,h1,h2,h3⟩:=lk_argT h
   exact ⟨j+1,q,by omega,by simpa using h2,h3⟩
def ldP(P:Program)(ty:TypeId)(cs:List LV)(off:Nat):Option PV:=match aggT P ty with
 | some true=>match csz P ty with
  | some m=>if off+m<=cs.length then (toPs ((cs.drop off).take m)).map .agg else none
  | none=>none
 | some false=>(cs[off]?).bind toP
 | none=>none
def resV(P:Program)(s:S):ResultVar->Option PV
 | .tmp t=>(lk s.tmps t).bind toP
 | .cell a ty=>match lk s.tmps a with
  | some (.lp i off)=>(lk s.boxes i).bind fun cs=>ldP P ty cs off
  | some (.v (.xp m off))=>(lk s.ext m).bind fun cs=>if notMM cs=true then ldP P ty cs off else none
  | _=>none
def resVs(P:Program)(s:S):List ResultVar->Option (List PV)
 | []=>some []
 | r::rs=>match resV P s r,resVs P s rs with
  | some p,some ps=>some (p::ps)
  | _,_=>none
def resP(P:Program)(s:S)(rs:List ResultVar):Option PV:=match resVs P s rs with
 | some [p]=>some p
 | some ps=>some (.tup ps)
 | none=>none
theorem ldP_sound{ty:TypeId}{cs:List LV}{off b:Nat}{p:PV}{f:Nat->UL}(hp:ldP P ty cs off=some p)(hb:BlkR g l w f b cs):∃v,(loadVar ty ⟨b,off,none⟩).run P w = .ok v w/\Rep g w p v:=by
 obtain ⟨hM,cur,e,h4,h5,h6⟩:=hb
 unfold ldP at hp
 split at hp
 ·rename_i ha
  split at hp
  ·rename_i m hm
   split at hp
   ·rename_i hle
    simp only [Option.map_eq_some_iff] at hp
    obtain ⟨ps,hps,rfl⟩:=hp
    have hc:∀j,j<m->w.cell? ⟨b,off+j,none⟩=some (cur.getD (off+j) undef):=fun j hj=>by
     have:off+j<cur.size:=by omega
     simp [World.cell?,h4,this]
    refine ⟨_,run_load_agg (P:=P) ha hm hc,RepAll.agg ?_ ?_⟩
    ·refine toPs_rep (l:=l) (f:=fun j=>f (off+j)) hps (by simp; omega) fun j hj hj'=>?_
     simp only [List.getElem_take,List.getElem_drop,List.getElem_map,List.getElem_range]
     exact (h6 (off+j) _).2.2
    ·intro v hv
     simp only [List.mem_map,List.mem_range] at hv
     obtain ⟨j,hj,rfl⟩:=hv
     exact (h6 (off+j) oM).2.1
   ·cases hp
  ·cases hp
 ·rename_i ha
  simp only [Option.bind_eq_some_iff] at hp
  obtain ⟨lv,hlv,hp⟩:=hp
  have hlt:=(List.getElem?_eq_some_iff.1 hlv).1
  refine ⟨_,run_load_one (P:=P) h4 ha oM,?_⟩
  have:=(h6 off hlt).2.2
  rw [List.getElem?_eq_getElem hlt] at hlv
  injection hlv with hlv
  rw [hlv] at this
  exact toP_rep hp this
 ·cases hp
def resOne(tmps:Array Value):ResultVar->Sem Value
 | .tmp t=>pure (tmps.getD t undef)
 | .cell a t=>do loadVar t (<- asAddr (tmps.getD a undef))
theorem resV_sound{r:ResultVar}{p:PV}(h:Sim cx s g l a w)(hp:resV P s r=some p):∃v,(resOne a.tmps r).run P w = .ok v w/\Rep g w p v:=by
 cases r with
 | tmp t=>
  simp only [resV,Option.bind_eq_some_iff] at hp
  obtain ⟨lv,hlv,hp⟩:=hp
  exact ⟨_,rfl,toP_rep hp (h.tm t lv hlv)⟩
 | cell x ty=>
  simp only [resV] at hp
  split at hp
  ·rename_i i off hl
   simp only [Option.bind_eq_some_iff] at hp
   obtain ⟨cs,hcs,hp⟩:=hp
   obtain ⟨b,k1,k2⟩:=h.tm x _ hl
   obtain ⟨b',m1,m2,m3⟩:=h.bx i cs hcs
   rw [k1] at m1
   injection m1 with m1
   subst m1
   obtain ⟨v,v1,v2⟩:=ldP_sound hp m3
   exact ⟨v,by simp [resOne,k2,asAddr,v1],v2⟩
  ·rename_i m off hl
   simp only [Option.bind_eq_some_iff] at hp
   obtain ⟨cs,hcs,hp⟩:=hp
   have hr:=h.tm x _ hl
   obtain ⟨b',m1,m2,hE⟩:=h.ex m cs hcs
   split at hp
   rotate_left
   ·cases hp
   rename_i hnm
   rcases hE with m3 | hE
   rotate_left
   ·exact (hE.plain (notMM_not hnm)).elim
   replace m1:=m1.plain m3.norow
   obtain ⟨v,v1,v2⟩:=ldP_sound hp m3
   refine ⟨v,?_,v2⟩
   simp only [resOne]
   generalize a.tmps.getD x undef=vx at hr
   cases hr with
   | xp _ _ b hx=>
    rw [m1] at hx
    injection hx with hx
    subst hx
    simp [asAddr,v1]
  ·cases hp
theorem resVs_sound(h:Sim cx s g l a w):∀ {rs:List ResultVar} {ps:List PV},resVs P s rs=some ps->∃vs,(rs.mapM (resOne a.tmps)).run P w = .ok vs w/\RepAll g w ps vs
 | [],ps,hp=>by
  simp only [resVs,Option.some.injEq] at hp
  subst hp
  exact ⟨[],by simp,.nil⟩
 | r::rs,ps,hp=>by
  simp only [resVs] at hp
  split at hp
  ·rename_i p qs h1 h2
   injection hp with hp
   subst hp
   obtain ⟨v,v1,v2⟩:=resV_sound h h1
   obtain ⟨vs,w1,w2⟩:=resVs_sound h h2
   exact ⟨v::vs,by simp [List.mapM_cons,v1,w1],.cons v2 w2⟩
  ·cases hp
theorem resP_sound{fn:Func}{p:PV}(h:Sim cx s g l a w)(hp:resP P s fn.results.toList=some p):∃v,(results fn a.tmps).run P w = .ok v w/\Rep g w p v:=by
 have hres:∀vs,(fn.results.toList.mapM (resOne a.tmps)).run P w = .ok vs w->(results fn a.tmps).run P w = .ok (if h:vs.toArray.size=1 then vs.toArray[0] else .tuple vs.toArray) w:=by
  intro vs hv
  have e:results fn a.tmps=(do let vs<-fn.results.mapM (resOne a.tmps); pure (if h:vs.size=1 then vs[0] else .tuple vs)):=by
   unfold results
   have:(fun (r:ResultVar)=>(match r with | .tmp t=>(pure (a.tmps.getD t undef):Sem Value) | .cell x t=>(do loadVar t (<- asAddr (a.tmps.getD x undef)))))=resOne a.tmps:=by
    funext r
    cases r <;> rfl
   rw [<-this]
   rfl
  rw [e]
  simp only [Array.mapM_eq_mapM_toList,Sem.run_bind,Sem.run_map,hv,Result.andThen_ok,Sem.run_pure]
 unfold resP at hp
 split at hp
 ·rename_i q hq
  injection hp with hp
  subst hp
  obtain ⟨vs,w1,w2⟩:=resVs_sound h hq
  obtain ⟨v,vs',rfl,hv,hn⟩:=w2.inv_cons
  have:=hn.inv_nil
  subst this
  exact ⟨v,by rw [hres _ w1]; rfl,hv⟩
 ·rename_i ps hps hne
  injection hp with hp
  subst hp
  obtain ⟨vs,w1,w2⟩:=resVs_sound h hne
  refine ⟨.tuple vs.toArray,?_,.tup _ _ w2.1 w2.2⟩
  rw [hres _ w1,dif_neg]
  intro hl
  have:ps.length=1:=by rw [w2.1]; simpa using hl
  match ps,this with
  | [q],_=>exact hps q rfl
 ·cases hp
def enterS(ps:List PV)(e:Ext):S:=⟨argT 0 ps,[],e⟩
def endQ(P:Program)(rs:List ResultVar)(R:CRes->Ext->Prop):PExit->S->Prop
 | .normal,s=>∃p,resP P s rs=some p/\R (.ret p) s.ext
 | .ret,s=>(∃p,resP P s rs=some p/\R (.ret p) s.ext)∨∃t e z es,rs=[.tmp t]/\lk s.tmps t=some (.uniq e z es)/\R (.own e z es) s.ext
 | .panic p,s=>R (.panic p) s.ext
 | .exit _,_=>False
theorem Calls.entered{f:FuncId}{fn:Func}{c:Code}{vs:List Value}{R:CRes->Ext->Prop}{l2:LG}(hf:P.funcs[f]?=some fn)(hb:fn.body=some c)
  (hs:Sim ⟨fn.ntmps,[],g,w,fun b=>(l.O b).isSome=true⟩ t g l2 { tmps:=vs.toArray++Array.replicate (fn.ntmps - vs.toArray.size) undef,defers:=[] } w) (h:PW P ⟨fn.ntmps,[],g,w,fun b=>(l.O b).isSome=true⟩ c t (endQ P fn.results.toList R)) :
  Calls P f vs.toArray w (fun en w'=>∃res e' g' l',R res e'/\ResOK g' l' (fun b=>w.heap.size<=b∨(l.O b).isSome=true) w' res en/\Ent e' g' l' w'/\Mono g w g' w'/\w.heap.size<=w'.heap.size /\
  (∀b,b<w.heap.size->l.O b=none->w'.heap[b]?=w.heap[b]?/\g'.M b=g.M b)/\(∀b o,l'.O b=some o->w.heap.size<=b∨(l.O b).isSome=true)/\w'.os=w.os/\w'.tape=w.tape/\w'.output=w.output):=by
 refine calls_of_wp hf hb ?_
 refine wp_mono (h g l2 _ w hs) ?_
 rintro ex a' w' ⟨pe,s',g',l',hq,er,sm⟩
 have common:Ent s'.ext g' (lx l') w'/\Mono g w g' w'/\w.heap.size<=w'.heap.size/\(∀b,b<w.heap.size->l.O b=none->w'.heap[b]?=w.heap[b]?/\g'.M b=g.M b) /\
   (∀b o,(lx l').O b=some o->w.heap.size<=b∨(l.O b).isSome=true)/\w'.os=w.os/\w'.tape=w.tape/\w'.output=w.output:=by
  refine ⟨sm.ent,sm.hist.mono,sm.hist.size,fun b hlt ho=>sm.hist.frame b hlt (by show ¬(l.O b).isSome=true; rw [ho]; simp),fun b o' ho=>?_,sm.hist.os,sm.hist.tape,sm.hist.output⟩
  have:∃o2,l'.O b=some o2:=by
   simp only [lx] at ho
   split at ho
   ·rename_i hn2; exact ⟨_,hn2⟩
   ·rename_i hn2; exact ⟨_,hn2⟩
   ·cases ho
  obtain ⟨o2,ho2⟩:=this
  exact (sm.own b o2 ho2).2
 have plain:∀p,resP P s' fn.results.toList=some p->R (.ret p) s'.ext->a'.defers=[]/\∃v,(results fn a'.tmps).run P w' = .ok v w'/\∃res e' g'' l'',R res e'/\ResOK g'' l'' (fun b=>w.heap.size<=b∨(l.O b).isSome=true) w' res (.returned v)/\Ent e' g'' l'' w'/\Mono g w g'' w' /\
   w.heap.size<=w'.heap.size/\(∀b,b<w.heap.size->l.O b=none->w'.heap[b]?=w.heap[b]?/\g''.M b=g.M b)/\(∀b o,l''.O b=some o->w.heap.size<=b∨(l.O b).isSome=true)/\w'.os=w.os/\w'.tape=w.tape/\w'.output=w.output:=by
  intro p hp hR
  obtain ⟨v,v1,v2⟩:=resP_sound sm hp
  exact ⟨sm.defers,v,v1,.ret p,s'.ext,g',lx l',hR,v2,common⟩
 cases pe with
 | normal=>
  cases ex <;> first | exact er.elim | skip
  obtain ⟨p,hp,hR⟩:=hq
  exact plain p hp hR
 | ret=>
  cases ex <;> first | exact er.elim | skip
  rcases hq with ⟨p,hp,hR⟩ | ⟨t,te,z,es,hrs,ht,hR⟩
  ·exact plain p hp hR
  ·have hr:=sm.tm t _ ht
   refine ⟨sm.defers,a'.tmps.getD t undef,results_tmp (by rw [<-Array.toArray_toList (xs:=fn.results),hrs]) _ _ _,.own te z es,s'.ext,g',lx l',hR,?_,common⟩
   rcases hr with hfull | ⟨b,off,cap,cur,k1,k2,k3,k4,k5,k6⟩
   ·exact .inl hfull
   ·have ho:=sm.uo _ _ k2
    exact .inr ⟨b,off,cap,cur,k1,(sm.own b _ ho).2,(sm.own b _ ho).1,by simp [lx,ho],k3,k4,k5,k6⟩
 | exit id=>exact hq.elim
 | panic p=>
  cases ex <;> first | exact er.elim | skip
  exact ⟨sm.defers,.panic p,s'.ext,g',lx l',hq,er,common⟩
theorem Sim.entry{fn:Func}{ps:List PV}{e:Ext}{vs:List Value}(hn:ps.length<=fn.ntmps)(ha:RepAll g w ps vs)(he:Ent e g l w) :
  Sim ⟨fn.ntmps,[],g,w,fun b=>(l.O b).isSome=true⟩ (enterS ps e) g l { tmps:=vs.toArray++Array.replicate (fn.ntmps - vs.toArray.size) undef,defers:=[] } w:=by
 have hl:=ha.1
 refine ⟨⟨Mono.refl g w,Nat.le_refl _,fun _ _ _=>⟨rfl,rfl⟩,rfl,rfl,rfl,he.glb⟩,?_,rfl,?_,?_,he.ex,?_,he.uo,he.fresh,he.xlt⟩
 ·simp
  omega
 ·intro t lv ht
  obtain ⟨j,p,rfl,hj,rfl⟩:=lk_argT ht
  have hlt:=(List.getElem?_eq_some_iff.1 hj).1
  have hlt':j<vs.length:=by omega
  have:=ha.2 j hlt hlt'
  rw [List.getElem?_eq_getElem hlt] at hj
  injection hj with hj
  rw [hj] at this
  have e1:(vs.toArray++Array.replicate (fn.ntmps - vs.toArray.size) undef).getD (0+j) undef=vs[j]:=by
   simp [Array.getD_eq_getD_getElem?,Array.getElem?_append,hlt']
  show Rep g w p _
  rw [e1]
  exact this
 ·intro i cs hi
  simp [enterS,lk] at hi
 ·intro b o' ho
  exact ⟨he.olt b o' ho,.inr (by show (l.O b).isSome=true; rw [ho]; rfl)⟩
theorem CallC.enter{f:FuncId}{fn:Func}{c:Code}{ps:List PV}{e:Ext}{R:CRes->Ext->Prop}(hf:P.funcs[f]?=some fn)(hb:fn.body=some c)(hn:ps.length<=fn.ntmps)
  (h:∀cx:Cx,cx.n=fn.ntmps->cx.ds=[]->PW P cx c (enterS ps e) (endQ P fn.results.toList R)):CallC P f ps e R:=by
 intro vs g l w ha he
 exact Calls.entered hf hb (Sim.entry hn ha he) (h _ rfl rfl)
end
section
variable {P:Program} {cx:Cx} {s t:S} {Q:PExit->S->Prop}
end
inductive Loc where
 | t (i:Nat)
 | b (i:Nat)
 | x (n:Nat)
 deriving DecidableEq
def RM.wpR{α:Type}:RM α->S->(α->List Loc->Prop)->Prop
 | .ret a,_,K=>K a []
 | .fail,_,_=>False
 | .getT t k,s,K=>match lk s.tmps t with
  | some v=>(k v).wpR s fun a r=>K a (.t t::r)
  | none=>False
 | .getB i k,s,K=>match lk s.boxes i with
  | some v=>(k v).wpR s fun a r=>K a (.b i::r)
  | none=>False
 | .getX n k,s,K=>match lk s.ext n with
  | some v=>(k v).wpR s fun a r=>K a (.x n::r)
  | none=>False
 | .assume p k,s,K=>p=true/\k.wpR s K
def S.get(s:S):Loc->Option (LV ⊕ List LV)
 | .t t=>(lk s.tmps t).map .inl
 | .b i=>(lk s.boxes i).map .inr
 | .x n=>(lk s.ext n).map .inr
theorem get_t{s s':S}{t:Nat}(h:s'.get (.t t)=s.get (.t t)):lk s'.tmps t=lk s.tmps t:=by
 simp only [S.get] at h
 cases h1:lk s'.tmps t <;> cases h2:lk s.tmps t <;> simp_all
theorem get_b{s s':S}{t:Nat}(h:s'.get (.b t)=s.get (.b t)):lk s'.boxes t=lk s.boxes t:=by
 simp only [S.get] at h
 cases h1:lk s'.boxes t <;> cases h2:lk s.boxes t <;> simp_all
theorem get_x{s s':S}{t:Nat}(h:s'.get (.x t)=s.get (.x t)):lk s'.ext t=lk s.ext t:=by
 simp only [S.get] at h
 cases h1:lk s'.ext t <;> cases h2:lk s.ext t <;> simp_all
theorem RM.wpR_local{α:Type}{s:S}:∀ {r:RM α} {K:α->List Loc->Prop},r.wpR s K->∃a rd,K a rd/\∀s':S,(∀l∈rd,s'.get l=s.get l)->r.wp s' fun b=>b=a
 | .ret a,K,h=>⟨a,[],h,fun _ _=>rfl⟩
 | .fail,_,h=>h.elim
 | .getT t k,K,h=>by
  simp only [RM.wpR] at h
  split at h
  ·rename_i v hv
   obtain ⟨a,rd,h1,h2⟩:=RM.wpR_local h
   refine ⟨a,.t t::rd,h1,fun s' hl=>?_⟩
   simp only [RM.wp,get_t (hl (.t t) sM),hv]
   exact h2 s' fun l hm=>hl l (List.mem_cons_of_mem _ hm)
  ·exact h.elim
 | .getB t k,K,h=>by
  simp only [RM.wpR] at h
  split at h
  ·rename_i v hv
   obtain ⟨a,rd,h1,h2⟩:=RM.wpR_local h
   refine ⟨a,.b t::rd,h1,fun s' hl=>?_⟩
   simp only [RM.wp,get_b (hl (.b t) sM),hv]
   exact h2 s' fun l hm=>hl l (List.mem_cons_of_mem _ hm)
  ·exact h.elim
 | .getX n k,K,h=>by
  simp only [RM.wpR] at h
  split at h
  ·rename_i v hv
   obtain ⟨a,rd,h1,h2⟩:=RM.wpR_local h
   refine ⟨a,.x n::rd,h1,fun s' hl=>?_⟩
   simp only [RM.wp,get_x (hl (.x n) sM),hv]
   exact h2 s' fun l hm=>hl l (List.mem_cons_of_mem _ hm)
  ·exact h.elim
 | .assume p k,K,h=>by
  obtain ⟨a,rd,h1,h2⟩:=RM.wpR_local h.2
  exact ⟨a,rd,h1,fun s' hl=>⟨h.1,h2 s' hl⟩⟩
def Wr.loc:Wr->Option Loc
 | .tmp t _=>some (.t t)
 | .newbox i _=>some (.b i)
 | .cells i _ _=>some (.b i)
 | .ext _ _ _=>none
def S.wq(s:S):Wr->S
 | .tmp t v=>{ s with tmps:=put s.tmps t v }
 | .newbox i ps=>{ s with boxes:=put s.boxes i (ps.map .v) }
 | .cells i off vs=>match lk s.boxes i with
  | some cs=>{ s with boxes:=put s.boxes i (splice cs off vs) }
  | none=>s
 | .ext _ _ _=>s
def S.wqs(s:S):List Wr->S
 | []=>s
 | x::r=>(s.wq x).wqs r
def Wr.app:Wr->Option (LV ⊕ List LV)->Option (LV ⊕ List LV)
 | .tmp _ v,_=>some (.inl v)
 | .newbox _ ps,_=>some (.inr (ps.map .v))
 | .cells _ off vs,some (.inr cs)=>some (.inr (splice cs off vs))
 | _,x=>x
theorem wq_get(s:S)(x:Wr)(l:Loc):(s.wq x).get l=if x.loc=some l then x.app (s.get l) else s.get l:=by
 cases x with
 | tmp t v=>
  cases l with
  | t u=>
   simp only [S.wq,S.get,Wr.loc,Wr.app,lk_put,Option.some.injEq,Loc.t.injEq]
   split <;> rfl
  | b i=>simp [S.wq,S.get,Wr.loc]
  | x i=>simp [S.wq,S.get,Wr.loc]
 | newbox j ps=>
  cases l with
  | t u=>simp [S.wq,S.get,Wr.loc]
  | b i=>
   simp only [S.wq,S.get,Wr.loc,Wr.app,lk_put,Option.some.injEq,Loc.b.injEq]
   split <;> rfl
  | x i=>simp [S.wq,S.get,Wr.loc]
 | cells j off vs=>
  simp only [S.wq]
  cases hj:lk s.boxes j with
  | none=>
   simp only
   split
   ·rename_i e
    cases l with
    | t u=>simp [Wr.loc] at e
    | x u=>simp [Wr.loc] at e
    | b i=>
     simp only [Wr.loc,Option.some.injEq,Loc.b.injEq] at e
     subst e
     simp [S.get,hj,Wr.app]
   ·rfl
  | some cs=>
   cases l with
   | t u=>simp [S.get,Wr.loc]
   | x u=>simp [S.get,Wr.loc]
   | b i=>
    simp only [S.get,Wr.loc,lk_put,Option.some.injEq,Loc.b.injEq]
    split
    ·rename_i e; subst e; simp [hj,Wr.app]
    ·rfl
 | ext _ _ _=>simp [S.wq,Wr.loc]
def touches(l:Loc)(x:Wr):Bool:=decide (x.loc=some l)
theorem wqs_get(l:Loc):∀ (L:List Wr) (s:S),(s.wqs L).get l=(L.filter (touches l)).foldl (fun g x=>x.app g) (s.get l)
 | [],s=>rfl
 | x::r,s=>by
  simp only [S.wqs,wqs_get l r,wq_get,List.filter_cons,touches]
  by_cases h:x.loc=some l
  ·simp [h]
  ·simp [h]
theorem wqs_get_of{l:Loc}{L M:List Wr}(s:S)(h:L.filter (touches l)=M.filter (touches l)):(s.wqs L).get l=(s.wqs M).get l:=by rw [wqs_get,wqs_get,h]
theorem wq_ext(s:S)(x:Wr):(s.wq x).ext=s.ext:=by
 cases x <;> simp only [S.wq]
 split <;> rfl
theorem wqs_ext:∀ (L:List Wr) (s:S),(s.wqs L).ext=s.ext
 | [],_=>rfl
 | x::r,s=>by simp only [S.wqs,wqs_ext r,wq_ext]
structure DS where
 rd:List Loc
 ws:List Wr
 eff:Bool
def wsel(D:Nat->Bool):Nat->List DS->List Wr
 | _,[]=>[]
 | k,d::r=>(if D k then d.ws else [])++wsel D (k+1) r
def ecnt(D:Nat->Bool):Nat->List DS->Nat
 | _,[]=>0
 | k,d::r=>(if D k&&d.eff then 1 else 0)+ecnt D (k+1) r
theorem wsel_congr{D D':Nat->Bool}:∀ {sts:List DS} {k:Nat},(∀j,k<=j->j<k+sts.length->D j=D' j)->wsel D k sts=wsel D' k sts
 | [],_,_=>rfl
 | d::r,k,h=>by
  simp only [wsel,h k (Nat.le_refl _) sM]
  rw [wsel_congr fun j h1 h2=>h j oM (by simp at h2 ⊢; omega)]
theorem wsel_insert{D D':Nat->Bool}{i:Nat}(hD:∀j,j≠i->D' j=D j)(hi:D i=false)(hi':D' i=true):∀ {sts:List DS} {k:Nat} {d:DS},k<=i->sts[i - k]?=some d ->
  ∃A C,wsel D k sts=A++C/\wsel D' k sts=A++d.ws++C/\A=wsel (fun j=>D j&&decide (j<i)) k sts/\C=wsel (fun j=>D j&&decide (i<j)) k sts
 | [],k,d,_,h=>by simp at h
 | d0::r,k,d,hk,h=>by
  by_cases hki:k=i
  ·subst hki
   simp only [Nat.sub_self,List.getElem?_cons_zero,Option.some.injEq] at h
   subst h
   refine ⟨[],wsel D (k+1) r,by simp [wsel,hi],?_,?_,?_⟩
   ·simp only [wsel,hi',if_true,List.nil_append]
    rw [wsel_congr fun j h1 _=>hD j oM]
   ·simp only [wsel,hi,Bool.false_and]
    have:wsel (fun j=>D j&&decide (j<k)) (k+1) r=wsel (fun _=>false) (k+1) r:=wsel_congr fun j h1 _=>by simp; omega
    rw [this]
    have hz:∀ (l:List DS) (m:Nat),wsel (fun _=>false) m l=[]:=by
     intro l
     induction l with
     | nil=>intro m; rfl
     | cons x r ih=>intro m; simp [wsel,ih]
    simp [hz]
   ·simp only [wsel,hi,Bool.false_and]
    have:wsel (fun j=>D j&&decide (k<j)) (k+1) r=wsel D (k+1) r:=wsel_congr fun j h1 _=>by simp; omega
    simp [this]
  ·have hlt:k+1<=i:=by omega
   have h':r[i - (k+1)]?=some d:=by
    rw [show i - k=(i - (k+1))+1 by omega,List.getElem?_cons_succ] at h
    exact h
   obtain ⟨A,C,h1,h2,h3,h4⟩:=wsel_insert hD hi hi' hlt h'
   refine ⟨(if D k then d0.ws else [])++A,C,by simp [wsel,h1],?_,?_,?_⟩
   ·simp only [wsel,hD k hki,h2,List.append_assoc]
   ·simp only [wsel,h3]
    have:decide (k<i)=true:=by simp; omega
    simp [this]
   ·simp only [wsel,h4]
    have:decide (i<k)=false:=by simp; omega
    simp [this]
theorem mem_wsel{D:Nat->Bool}{x:Wr}:∀ {sts:List DS} {k:Nat},x∈wsel D k sts->∃j d,D (k+j)=true/\sts[j]?=some d/\x∈d.ws
 | [],_,h=>by simp [wsel] at h
 | d::r,k,h=>by
  simp only [wsel,List.mem_append] at h
  rcases h with h | h
  ·split at h
   ·rename_i hd; exact ⟨0,d,hd,rfl,h⟩
   ·simp at h
  ·obtain ⟨j,d',h1,h2,h3⟩:=mem_wsel h
   exact ⟨j+1,d',by rw [show k+(j+1)=k+1+j by omega]; exact h1,by simpa using h2,h3⟩
theorem wsel_filter{D D':Nat->Bool}{p:Wr->Bool}:∀ {sts:List DS} {k:Nat},(∀j d,sts[j]?=some d->D (k+j)≠D' (k+j)->∀x∈d.ws,p x=false)->(wsel D k sts).filter p=(wsel D' k sts).filter p
 | [],_,_=>rfl
 | d::r,k,h=>by
  have ih:=wsel_filter (D:=D) (D':=D') (p:=p) (sts:=r) (k:=k+1) fun j d' hj hne=>h (j+1) d' (by simpa using hj) (by rw [show k+(j+1)=k+1+j by omega]; exact hne)
  simp only [wsel,List.filter_append,ih]
  congr 1
  by_cases hd:D k=D' k
  ·rw [hd]
  ·have h0:=h 0 d rfl (by simpa using hd)
   have hf:d.ws.filter p=[]:=List.filter_eq_nil_iff.2 fun x hx=>by simp [h0 x hx]
   split <;> split <;> simp [hf]
def dirs(o:Oper):List Nat:=(o.after.toList.filter (Region.binds .any)).map (·.on)
def dedN:List Nat->List Nat
 | []=>[]
 | x::r=>bif (dedN r).contains x then dedN r else x::dedN r
theorem mem_dedN{k:Nat}:∀ {l:List Nat},k∈dedN l->k∈l
 | [],h=>h
 | x::r,h=>by
  simp only [dedN] at h
  cases hc:(dedN r).contains x with
  | true=>rw [hc] at h; exact List.mem_cons_of_mem _ (mem_dedN h)
  | false=>
   rw [hc] at h
   rcases List.mem_cons.1 h with rfl | h
   ·exact List.mem_cons_self
   ·exact List.mem_cons_of_mem _ (mem_dedN h)
def ancs:List Oper->List (List Nat)->List (List Nat)
 | [],acc=>acc
 | o::r,acc=>ancs r (acc++[dedN (dirs o++(dirs o).flatMap fun m=>acc.getD m [])])
inductive Reach (ops:List Oper):Nat->Nat->Prop
 | dir {k i:Nat} {o:Oper} (h:ops[i]?=some o) (hk:k∈dirs o):Reach ops k i
 | step {k m i:Nat} {o:Oper} (h:ops[i]?=some o) (hm:m∈dirs o) (hr:Reach ops k m):Reach ops k i
def Closed(ops:List Oper)(D:Nat->Bool):Prop:=∀j o,ops[j]?=some o->D j=true->∀m∈dirs o,D m=true
theorem Closed.reach{ops:List Oper}{D:Nat->Bool}(hc:Closed ops D){k i:Nat}(hr:Reach ops k i):(∀o,ops[i]?=some o->∀m∈dirs o,D m=true)->D k=true:=by
 induction hr with
 | dir h hk=>exact fun hd=>hd _ h _ hk
 | step h hm hr ih=>exact fun hd=>ih fun o ho m hm'=>hc _ o ho (hd _ h _ hm) m hm'
theorem ancs_reach{ops:List Oper}:∀ {r:List Oper} {acc:List (List Nat)},(∀j,(r)[j]?=ops[acc.length+j]?)->(∀i l,acc[i]?=some l->∀k∈l,Reach ops k i)->∀i l,(ancs r acc)[i]?=some l->∀k∈l,Reach ops k i
 | [],acc,_,h=>h
 | o::r,acc,hr,h=>by
  refine ancs_reach (r:=r) (acc:=acc++[dedN (dirs o++(dirs o).flatMap fun m=>acc.getD m [])]) (fun j=>by have:=hr (j+1); simp only [List.getElem?_cons_succ] at this; rw [this]; simp; congr 1; omega) fun i l hi k hk=>?_
  by_cases hlt:i<acc.length
  ·rw [List.getElem?_append_left hlt] at hi
   exact h i l hi k hk
  ·have:i=acc.length:=by
    have:=(List.getElem?_eq_some_iff.1 hi).1
    simp at this
    omega
   subst this
   simp only [List.getElem?_concat_length,Option.some.injEq] at hi
   subst hi
   have ho:ops[acc.length]?=some o:=by have:=hr 0; simpa using this.symm
   replace hk:=mem_dedN hk
   simp only [List.mem_append,List.mem_flatMap] at hk
   rcases hk with hk | ⟨m,hm,hk⟩
   ·exact .dir ho hk
   ·cases hm':acc[m]? with
    | none=>simp [List.getD,hm'] at hk
    | some l'=>exact .step ho hm (h m l' hm' k (by simpa [List.getD,hm'] using hk))
def anc(ops:List Oper)(i:Nat):List Nat:=(ancs ops []).getD i []
theorem anc_reach{ops:List Oper}{i k:Nat}(h:k∈anc ops i):Reach ops k i:=by
 unfold anc at h
 cases hi:(ancs ops [])[i]? with
 | none=>simp [List.getD,hi] at h
 | some l=>exact ancs_reach sM sM i l hi k (by simpa [List.getD,hi] using h)
def wl(ws:List Wr):List Loc:=ws.filterMap Wr.loc
def disj(A B:List Loc):Bool:=A.all fun x=>!(B.contains x)
def isX:Loc->Bool
 | .x _=>true
 | _=>false
def DS.xf(d:DS):Bool:=d.eff||d.rd.any isX
def pairOK(an:List Nat)(i:Nat)(di dj:DS):Bool:=an.contains i||(disj (wl di.ws) (dj.rd++wl dj.ws)&&disj (wl dj.ws) di.rd && !(di.eff&&dj.xf) && !(dj.eff&&di.xf))
def lpW(d:Nat):Wr->Bool
 | .tmp _ (.lp j _)=>j==d
 | _=>false
def newW:Wr->Option Nat
 | .newbox d _=>some d
 | _=>none
def lpOK(an:Nat->List Nat)(i j:Nat)(di dj:DS):Bool:=(di.ws.filterMap newW).all fun d=>(an j).contains i||dj.ws.all fun x=>!(lpW d x)
def noLp(d:Nat):List (Nat × LV)->Bool
 | []=>true
 | (_,.lp j _)::r=>j != d&&noLp d r
 | _::r=>noLp d r
def plainW:Wr->Bool
 | .ext _ _ _=>false
 | _=>true
def newFirst:List Wr->Bool
 | []=>true
 | _::r=>r.all fun x=>(newW x).isNone
def chk(ops:List Oper)(sts:List DS)(tm:List (Nat × LV)):Bool:=
 let an:=ancs ops []
 (List.range sts.length).all fun j=>(sts.getD j ⟨[],[],false⟩).ws.all plainW&&newFirst (sts.getD j ⟨[],[],false⟩).ws&&(((sts.getD j ⟨[],[],false⟩).ws.filterMap newW).all fun d=>noLp d tm) &&
  (((ops[j]?).map dirs).getD []).all (· < j) &&
  (List.range sts.length).all fun i=>i==j||(lpOK (fun k=>an.getD k []) i j (sts.getD i ⟨[],[],false⟩) (sts.getD j ⟨[],[],false⟩)&&(!(decide (i<j))||pairOK (an.getD j []) i (sts.getD i ⟨[],[],false⟩) (sts.getD j ⟨[],[],false⟩)))
section
variable {ops:List Oper} {sts:List DS} {tm:List (Nat × LV)}
theorem chk_at(h:chk ops sts tm=true){j:Nat}{dj:DS}(hj:sts[j]?=some dj):dj.ws.all plainW=true/\newFirst dj.ws=true/\(∀d∈dj.ws.filterMap newW,noLp d tm=true)/\(∀o,ops[j]?=some o->∀m∈dirs o,m<j) /\
  ∀i di,sts[i]?=some di->i≠j->lpOK (anc ops) i j di dj=true/\(i<j->pairOK (anc ops j) i di dj=true):=by
 have hlt:=(List.getElem?_eq_some_iff.1 hj).1
 simp only [chk,List.all_eq_true,List.mem_range,Bool.and_eq_true] at h
 have h1:=h j hlt
 have gj:sts.getD j ⟨[],[],false⟩=dj:=by simp [List.getD,hj]
 rw [gj] at h1
 obtain ⟨⟨⟨⟨k1,k2⟩,k3⟩,k4⟩,k5⟩:=h1
 refine ⟨by simpa using k1,k2,k3,fun o ho m hm=>?_,fun i di hi hne=>?_⟩
 ·simp only [ho,Option.map_some,Option.getD_some] at k4
  exact of_decide_eq_true (k4 m hm)
 ·have hlt':=(List.getElem?_eq_some_iff.1 hi).1
  have gi:sts.getD i ⟨[],[],false⟩=di:=by simp [List.getD,hi]
  have:=k5 i hlt'
  rw [gi] at this
  simp only [Bool.or_eq_true,beq_iff_eq,hne,false_or,Bool.and_eq_true,Bool.not_eq_true',decide_eq_false_iff_not] at this
  refine ⟨this.1,fun hij=>?_⟩
  rcases this.2 with hc | hc
  ·exact absurd hij hc
  ·exact hc
theorem disj_touch{A:List Wr}{B:List Loc}(h:disj (wl A) B=true){x:Wr}(hx:x∈A){l:Loc}(hl:l∈B):touches l x=false:=by
 unfold touches
 rw [decide_eq_false_iff_not]
 intro e
 simp only [disj,List.all_eq_true,Bool.not_eq_true',List.contains_eq_mem,decide_eq_false_iff_not] at h
 exact h l (List.mem_filterMap.2 ⟨x,hx,e⟩) hl
end
theorem ecnt_insert{D D':Nat->Bool}{i:Nat}(hD:∀j,j≠i->D' j=D j)(hi:D i=false)(hi':D' i=true):∀ {sts:List DS} {k:Nat} {d:DS},k<=i->sts[i - k]?=some d->ecnt D' k sts=ecnt D k sts+(if d.eff=true then 1 else 0)
 | [],k,d,_,h=>by simp at h
 | d0::r,k,d,hk,h=>by
  by_cases hki:k=i
  ·subst hki
   simp only [Nat.sub_self,List.getElem?_cons_zero,Option.some.injEq] at h
   subst h
   have:∀ (l:List DS) (m:Nat),k<m->ecnt D' m l=ecnt D m l:=by
    intro l
    induction l with
    | nil=>intro m _; rfl
    | cons x r ih=>intro m hm; simp only [ecnt,hD m oM,ih (m+1) oM]
   simp only [ecnt,hi,hi',this r (k+1) oM]
   cases d0.eff <;> simp <;> omega
  ·have h':r[i - (k+1)]?=some d:=by
    rw [show i - k=(i - (k+1))+1 by omega,List.getElem?_cons_succ] at h
    exact h
   have ih:=ecnt_insert hD hi hi' (by omega:k+1<=i) h'
   simp only [ecnt,hD k hki,ih]
   omega
theorem ecnt_congr{D D':Nat->Bool}:∀ {sts:List DS} {k:Nat},(∀j d,sts[j]?=some d->d.eff=true->D (k+j)=D' (k+j))->ecnt D k sts=ecnt D' k sts
 | [],_,_=>rfl
 | d::r,k,h=>by
  have ih:=ecnt_congr (D:=D) (D':=D') (sts:=r) (k:=k+1) fun j d' hj he=>by
   have:=h (j+1) d' (by simpa using hj) he
   rw [show k+1+j=k+(j+1) by omega]
   exact this
  simp only [ecnt,ih]
  cases he:d.eff with
  | false=>simp
  | true=>have:=h 0 d rfl he; simp only [Nat.add_zero] at this; rw [this]
section
variable {P:Program} {cx:Cx} {Q:PExit->S->Prop} {ops:List Oper} {sts:List DS} {s0:S} {e:Nat->Ext}
def sT(s0:S)(sts:List DS)(e:Nat->Ext)(i:Nat):S:={ s0.wqs (wsel (fun j=>decide (j<i)) 0 sts) with ext:=e (ecnt (fun j=>decide (j<i)) 0 sts) }
def sD(s0:S)(sts:List DS)(e:Nat->Ext)(D:Nat->Bool):S:={ s0.wqs (wsel D 0 sts) with ext:=e (ecnt D 0 sts) }
def StepOK(P:Program)(cx:Cx)(all:Array Oper)(Q:PExit->S->Prop)(o:Oper)(s s':S):Prop:=∀g l a w,Sim cx s g l a w ->
 if Region.wanted o (yielded all a.tmps)=true then o.wp P a w (fun a' w'=>∃g' l',Sim cx s' g' l' a' w') (post cx Q) else ∃g' l',Sim cx s' g' l' (a.put o.dst undef) w
def LocOK(P:Program)(cx:Cx)(all:Array Oper)(Q:PExit->S->Prop)(e:Nat->Ext)(o:Oper)(d:DS)(si:S)(kt:Nat):Prop:=
 ∀s k,(∀l∈d.rd,s.get l=si.get l)->(d.xf=true->k=kt)->s.ext=e k->(∀b∈d.ws.filterMap newW,∀t off,lk s.tmps t≠some (.lp b off))->StepOK P cx all Q o s { s.wqs d.ws with ext:=e (k+if d.eff=true then 1 else 0) }
theorem Sim.of_get{s t:S}{g:Gh}{l:LG}{a:Act}{w:World}(h:Sim cx s g l a w)(hg:∀p,isX p=false->t.get p=s.get p)(hx:t.ext=s.ext):Sim cx t g l a w:=
 h.congr (fun k=>get_t (hg (.t k) rfl)) (fun k=>get_b (hg (.b k) rfl)) (fun k=>by rw [hx]) (by rw [hx]; exact Nat.le_refl _)
theorem noLp_spec{d:Nat}:∀ {tm:List (Nat × LV)},noLp d tm=true->∀t off,lk tm t≠some (.lp d off)
 | [],_,t,off=>by simp [lk]
 | (k,lv)::r,h,t,off=>by
  have hr:noLp d r=true/\∀off,lv ≠ .lp d off:=by
   cases lv with
   | lp j o=>
    simp only [noLp,Bool.and_eq_true,bne_iff_ne] at h
    exact ⟨h.2,fun off e=>by injection e with e1 e2; exact h.1 e1⟩
   | _=>exact ⟨h,fun off e=>by cases e⟩
  simp only [lk]
  split
  ·intro e; injection e with e; exact hr.2 off e
  ·exact noLp_spec hr.1 t off
theorem wqs_lp{b t off:Nat}:∀ {L:List Wr} {s:S},lk (s.wqs L).tmps t=some (.lp b off)->lk s.tmps t=some (.lp b off)∨∃x∈L,lpW b x=true
 | [],s,h => .inl h
 | x::r,s,h=>by
  rcases wqs_lp (L:=r) (s:=s.wq x) h with h1 | ⟨y,hy,hl⟩
  ·cases x with
   | tmp u v=>
    simp only [S.wq,lk_put] at h1
    split at h1
    ·injection h1 with h1
     subst h1
     exact .inr ⟨.tmp u (.lp b off),by simp,by simp [lpW]⟩
    ·exact .inl h1
   | newbox i ps=>exact .inl h1
   | cells i o vs=>
    simp only [S.wq] at h1
    split at h1
    ·exact .inl h1
    ·exact .inl h1
   | ext _ _ _=>exact .inl h1
  ·exact .inr ⟨y,List.mem_cons_of_mem _ hy,hl⟩
theorem step_at(hchk:chk ops sts s0.tmps=true){D D':Nat->Bool}{i:Nat}{o:Oper}{d:DS}(hc:Closed ops D)(ho:ops[i]?=some o)(hd:sts[i]?=some d)(hi:D i=false)(hi':D' i=true)
  (hD:∀j,j≠i->D' j=D j) (hdir:∀m∈dirs o,D m=true) (hloc:LocOK P cx ops.toArray Q e o d (sT s0 sts e i) (ecnt (fun j=>decide (j<i)) 0 sts)):StepOK P cx ops.toArray Q o (sD s0 sts e D) (sD s0 sts e D'):=by
 obtain ⟨A,C,h1,h2,h3,h4⟩:=wsel_insert hD hi hi' (Nat.zero_le i) (by simpa using hd)
 have hanc:∀j∈anc ops i,D j=true:=fun j hj=>hc.reach (anc_reach hj) fun o' ho' m hm=>by rw [ho] at ho'; injection ho' with ho'; subst ho'; exact hdir m hm
 have hnot:∀j,D j=true->i∉anc ops j:=fun j hj hmem=>by
  have:D i=true:=hc.reach (anc_reach hmem) fun o' ho' m hm=>hc j o' ho' hj m hm
  rw [hi] at this; cases this
 obtain ⟨-,-,c3,-,c5⟩:=chk_at hchk hd
 -- pairs that no edge orders
 have hlow:∀j dj,sts[j]?=some dj->j<i->D j=false->pairOK (anc ops i) j dj d=true/\j∉anc ops i:=fun j dj hj hlt hDj=>
  ⟨(c5 j dj hj oM).2 hlt,fun hm=>by have:=hanc j hm; rw [hDj] at this; cases this⟩
 have hhigh:∀j dj,sts[j]?=some dj->i<j->D j=true->disj (wl d.ws) (dj.rd++wl dj.ws)=true/\disj (wl dj.ws) d.rd=true/\(dj.eff&&d.xf)=false:=fun j dj hj hlt hDj=>by
  have:=((chk_at hchk hj).2.2.2.2 i d hd oM).2 hlt
  simp only [pairOK,Bool.or_eq_true,Bool.and_eq_true,List.contains_eq_mem,decide_eq_true_eq,Bool.not_eq_true'] at this
  rcases this with hm | hm
  ·exact absurd hm (hnot j hDj)
  ·exact ⟨hm.1.1.1,hm.1.1.2,hm.2⟩
 have hkt:d.xf=true->ecnt D 0 sts=ecnt (fun j=>decide (j<i)) 0 sts:=fun hxf=>ecnt_congr fun j dj hj heff=>by
  simp only [Nat.zero_add]
  by_cases hlt:j<i
  ·simp only [hlt,decide_true]
   cases hv:D j with
   | true=>rfl
   | false=>
    obtain ⟨hp,hna⟩:=hlow j dj hj hlt hv
    simp only [pairOK,Bool.or_eq_true,Bool.and_eq_true,List.contains_eq_mem,decide_eq_true_eq,Bool.not_eq_true'] at hp
    rcases hp with hm | hm
    ·exact absurd hm hna
    ·have:=hm.1.2; rw [heff,hxf] at this; cases this
  ·simp only [hlt,decide_false]
   cases hv:D j with
   | false=>rfl
   | true=>
    have hne':j≠i:=fun e0=>by subst e0; rw [hi] at hv; cases hv
    have:=(hhigh j dj hj oM hv).2.2
    rw [heff,hxf] at this; cases this
 have hrd:∀l∈d.rd,(sD s0 sts e D).get l=(sT s0 sts e i).get l:=fun l hl=>by
  by_cases hx:isX l=true
  ·have hxf:d.xf=true:=by simp only [DS.xf,Bool.or_eq_true,List.any_eq_true]; exact .inr ⟨l,hl,hx⟩
   cases l with
   | t _=>cases hx
   | b _=>cases hx
   | x n=>simp only [S.get,sD,sT,hkt hxf]
  have:(sD s0 sts e D).get l=(s0.wqs (wsel D 0 sts)).get l:=by cases l <;> first | rfl | exact absurd rfl hx
  rw [this]
  have:(sT s0 sts e i).get l=(s0.wqs (wsel (fun j=>decide (j<i)) 0 sts)).get l:=by cases l <;> first | rfl | exact absurd rfl hx
  rw [this]
  refine wqs_get_of s0 (wsel_filter fun j dj hj hne x hx=>?_)
  simp only [Nat.zero_add] at hne
  by_cases hlt:j<i
  ·have hDj:D j=false:=by
    cases hv:D j with
    | false=>rfl
    | true=>exact absurd (by rw [hv]; simp [hlt]) hne
   obtain ⟨hp,hna⟩:=hlow j dj hj hlt hDj
   simp only [pairOK,Bool.or_eq_true,Bool.and_eq_true,List.contains_eq_mem,decide_eq_true_eq] at hp
   rcases hp with hm | hm
   ·exact absurd hm hna
   ·exact disj_touch hm.1.1.1 hx (List.mem_append_left _ hl)
  ·have hDj:D j=true:=by
    cases hv:D j with
    | true=>rfl
    | false=>exact absurd (by rw [hv]; simp; omega) hne
   have hne':j≠i:=fun e0=>by subst e0; rw [hi] at hDj; cases hDj
   exact disj_touch (hhigh j dj hj oM hDj).2.1 hx hl
 have hnl:∀b∈d.ws.filterMap newW,∀t off,lk (sD s0 sts e D).tmps t≠some (.lp b off):=fun b hb t off hlk=>by
  rcases wqs_lp (s:=s0) (L:=wsel D 0 sts) hlk with hs | ⟨x,hx,hlp⟩
  ·exact noLp_spec (c3 b hb) t off hs
  ·obtain ⟨j,dj,hDj,hj,hxj⟩:=mem_wsel hx
   simp only [Nat.zero_add] at hDj
   have hne':i≠j:=fun e0=>by subst e0; rw [hi] at hDj; cases hDj
   have:=((chk_at hchk hj).2.2.2.2 i d hd hne').1
   simp only [lpOK,List.all_eq_true,Bool.or_eq_true,List.contains_eq_mem,decide_eq_true_eq,Bool.not_eq_true'] at this
   rcases this b hb with hm | hm
   ·exact hnot j hDj hm
   ·rw [hm x hxj] at hlp; cases hlp
 have hstep:=hloc (sD s0 sts e D) (ecnt D 0 sts) hrd hkt rfl hnl
 have hfin:∀p,isX p=false->(sD s0 sts e D').get p=({ (sD s0 sts e D).wqs d.ws with ext:=e (ecnt D 0 sts+if d.eff=true then 1 else 0) }:S).get p:=fun p hpx=>by
  have e1:(sD s0 sts e D').get p=(s0.wqs (wsel D' 0 sts)).get p:=by cases p <;> first | rfl | cases hpx
  have e2:({ (sD s0 sts e D).wqs d.ws with ext:=e (ecnt D 0 sts+if d.eff=true then 1 else 0) }:S).get p=((sD s0 sts e D).wqs d.ws).get p:=by cases p <;> first | rfl | cases hpx
  have e3:(sD s0 sts e D).get p=(s0.wqs (wsel D 0 sts)).get p:=by cases p <;> first | rfl | cases hpx
  rw [e1,e2,wqs_get p d.ws,e3,wqs_get p,wqs_get p,<-List.foldl_append,<-List.filter_append,h1,h2]
  congr 1
  simp only [List.filter_append,List.append_assoc]
  congr 1
  -- the two parts in the midst do not touch one place
  by_cases hB:d.ws.filter (touches p)=[]
  ·simp [hB]
  ·have hC:C.filter (touches p)=[]:=by
    refine List.filter_eq_nil_iff.2 fun x hx=>?_
    rw [h4] at hx
    obtain ⟨j,dj,hDj,hj,hxj⟩:=mem_wsel hx
    simp only [Nat.zero_add,Bool.and_eq_true,decide_eq_true_eq] at hDj
    obtain ⟨y,hy,hty⟩:∃y∈d.ws,touches p y=true:=by
     rcases List.exists_mem_of_ne_nil _ hB with ⟨y,hy⟩
     exact ⟨y,(List.mem_filter.1 hy).1,(List.mem_filter.1 hy).2⟩
    intro htx
    have hpx:x.loc=some p:=of_decide_eq_true htx
    have hmem:p∈dj.rd++wl dj.ws:=List.mem_append_right _ (List.mem_filterMap.2 ⟨x,hxj,hpx⟩)
    have:=disj_touch (hhigh j dj hj hDj.2 hDj.1).1 hy hmem
    rw [hty] at this; cases this
   simp [hC]
 have hext:(sD s0 sts e D').ext=e (ecnt D 0 sts+if d.eff=true then 1 else 0):=by
  show e (ecnt D' 0 sts)=_
  rw [ecnt_insert hD hi hi' (Nat.zero_le i) (by simpa using hd)]
 intro g l a w hs
 have:=hstep g l a w hs
 split at this
 ·rename_i hw
  rw [iP hw]
  refine upon_mono ?_ this
  rintro a' w' ⟨g',l',sm⟩
  exact ⟨g',l',sm.of_get hfin hext⟩
 ·rename_i hw
  rw [iN hw]
  obtain ⟨g',l',sm⟩:=this
  exact ⟨g',l',sm.of_get hfin hext⟩
end
section
variable {P:Program} {cx:Cx} {Q:PExit->S->Prop} {ops:List Oper} {sts:List DS} {s0:S} {e:Nat->Ext}
def Dl(listed:Array Bool):Nat->Bool:=fun j=>listed.getD j false
theorem Dl_none(n:Nat):Dl (Array.replicate n false)=fun _=>false:=by
 funext j
 simp only [Dl]
 by_cases h:j<n
 ·simp [h]
 ·simp [h]
theorem wsel_none:∀ (l:List DS) (k:Nat),wsel (fun _=>false) k l=[]
 | [],_=>rfl
 | x::r,k=>by simp [wsel,wsel_none r]
theorem ecnt_none:∀ (l:List DS) (k:Nat),ecnt (fun _=>false) k l=0
 | [],_=>rfl
 | x::r,k=>by simp [ecnt,ecnt_none r]
theorem mem_ready_dirs{listed:Array Bool}{i:Nat}:i∈Region.ready .any ops.toArray listed↔listed.getD i true=false/\∃o,ops[i]?=some o/\∀m∈dirs o,Dl listed m=true:=by
 rw [mem_ready]
 constructor
 ·rintro ⟨h0,o,ho,h⟩
  refine ⟨h0,o,by simpa using ho,fun m hm=>?_⟩
  simp only [dirs,List.mem_map,List.mem_filter] at hm
  obtain ⟨ed,⟨h1,h2⟩,rfl⟩:=hm
  exact h ed (by simpa using h1) h2
 ·rintro ⟨h0,o,ho,h⟩
  refine ⟨h0,o,by simpa using ho,fun ed hed hb=>h _ ?_⟩
  simp only [dirs,List.mem_map,List.mem_filter]
  exact ⟨ed,⟨by simpa using hed,hb⟩,rfl⟩
theorem all_listed(hchk:chk ops sts s0.tmps=true)(hlen:sts.length=ops.length){listed:Array Bool}(hsz:listed.size=ops.length)(hr:Region.ready .any ops.toArray listed=[]):∀i,i<ops.length->Dl listed i=true:=by
 intro i
 induction i using Nat.strongRecOn with
 | _ i ih=>
  intro hlt
  cases hv:listed.getD i true with
  | true=>
   have:i<listed.size:=by omega
   simp only [Dl]
   simp [this] at hv ⊢
   exact hv
  | false=>
   have hlt':i<sts.length:=by omega
   obtain ⟨-,-,-,c4,-⟩:=chk_at hchk (List.getElem?_eq_getElem hlt')
   have:i∈Region.ready .any ops.toArray listed:=mem_ready_dirs.2 ⟨hv,ops[i],List.getElem?_eq_getElem hlt,fun m hm=>by
    have:=c4 _ (List.getElem?_eq_getElem hlt) m hm
    exact ih m this oM⟩
   rw [hr] at this
   simp at this
theorem sD_all(hlen:sts.length=ops.length){D:Nat->Bool}(h:∀i,i<ops.length->D i=true):sD s0 sts e D=sD s0 sts e (fun _=>true):=by
 unfold sD
 rw [wsel_congr (D:=D) (D':=fun _=>true) (sts:=sts) (k:=0) fun j _ hj=>h j oM]
 rw [ecnt_congr (D:=D) (D':=fun _=>true) (sts:=sts) (k:=0) fun j d hj _=>by
  have:=(List.getElem?_eq_some_iff.1 hj).1
  rw [Nat.zero_add]
  exact h j oM]
theorem draw_go(hchk:chk ops sts s0.tmps=true)(hlen:sts.length=ops.length)(hQ:Q .normal (sD s0 sts e fun _=>true))
  (hloc:∀i o d,ops[i]?=some o->sts[i]?=some d->LocOK P cx ops.toArray Q e o d (sT s0 sts e i) (ecnt (fun j=>decide (j<i)) 0 sts)) :
  ∀ (fuel:Nat) (listed:Array Bool) (L:List Nat) (g:Gh) (l:LG) (a:Act) (w:World),listed.size=ops.length->Closed ops (Dl listed)->(∀i,i<ops.length->listed.getD i true=false->i∈L)->L.length<=fuel ->
   Sim cx (sD s0 sts e (Dl listed)) g l a w->wpAny P .any ops.toArray (post cx Q) fuel listed a w:=by
 intro fuel
 have hdone:∀ {listed:Array Bool} {g:Gh} {l:LG} {a:Act} {w:World},listed.size=ops.length->Region.ready .any ops.toArray listed=[]->Sim cx (sD s0 sts e (Dl listed)) g l a w->post cx Q .normal a w:=fun {listed g l a w} hsz hr hs=>by
  have:=all_listed hchk hlen hsz hr
  rw [sD_all hlen this] at hs
  exact ⟨.normal,_,g,l,hQ,trivial,hs⟩
 induction fuel with
 | zero=>
  intro listed L g l a w hsz hc hL hf hs
  have hnil:L=[]:=List.eq_nil_of_length_eq_zero oM
  subst hnil
  have hr:Region.ready .any ops.toArray listed=[]:=by
   apply List.eq_nil_iff_forall_not_mem.2
   intro i hi
   obtain ⟨h0,o,ho,-⟩:=mem_ready_dirs.1 hi
   exact absurd (hL i (List.getElem?_eq_some_iff.1 ho).1 h0) sM
  exact ⟨hr,hdone hsz hr hs⟩
 | succ fuel ih=>
  intro listed L g l a w hsz hc hL hf hs
  refine ⟨fun hr=>hdone hsz hr hs,fun i hi=>?_⟩
  obtain ⟨h0,o,ho,hdir⟩:=mem_ready_dirs.1 hi
  have hlt:=(List.getElem?_eq_some_iff.1 ho).1
  have hlt':i<sts.length:=by omega
  have hlt2:i<listed.size:=by omega
  have hd:=List.getElem?_eq_getElem hlt'
  have hDi:Dl listed i=false:=by
   simp only [Dl]
   simp [hlt2] at h0 ⊢
   exact h0
  have hDi':Dl (listed.setIfInBounds i true) i=true:=by simp [Dl,hlt2]
  have hDD:∀j,j≠i->Dl (listed.setIfInBounds i true) j=Dl listed j:=fun j hj=>getD_set_ne false (Ne.symm hj)
  have hst:=step_at (Q:=Q) (P:=P) (cx:=cx) hchk hc ho hd hDi hDi' hDD hdir (hloc i o _ ho hd) g l a w hs
  have hc':Closed ops (Dl (listed.setIfInBounds i true)):=fun j oj hj hDj m hm=>by
   by_cases hji:j=i
   ·subst hji
    rw [ho] at hj
    injection hj with hj
    subst hj
    by_cases hmi:m=j
    ·rw [hmi]; exact hDi'
    ·rw [hDD m hmi]; exact hdir m hm
   ·rw [hDD j hji] at hDj
    by_cases hmi:m=i
    ·rw [hmi]; exact hDi'
    ·rw [hDD m hmi]; exact hc j oj hj hDj m hm
  have hnext:∀g l a w,Sim cx (sD s0 sts e (Dl (listed.setIfInBounds i true))) g l a w->wpAny P .any ops.toArray (post cx Q) fuel (listed.setIfInBounds i true) a w:=fun g l a w hs=>by
   have hmem:=hL i hlt h0
   refine ih _ (L.erase i) g l a w (by simp [hsz]) hc' (fun j hj hjl=>?_) (by rw [List.length_erase_of_mem hmem]; have:=List.length_pos_of_mem hmem; omega) hs
   have hji:j≠i:=fun e0=>by subst e0; simp [hlt2] at hjl
   rw [getD_set_ne true (Ne.symm hji)] at hjl
   exact (List.mem_erase_of_ne hji).2 (hL j hj hjl)
  have ho':ops.toArray[i]?=some o:=by simpa using ho
  unfold wpOp
  rw [ho']
  simp only
  split
  ·rename_i hw
   rw [iP hw] at hst
   refine .inl (Oper.wp_mono ?_ hst)
   rintro a' w' ⟨g',l',sm⟩
   exact hnext g' l' a' w' sm
  ·rename_i hw
   rw [iN hw] at hst
   obtain ⟨g',l',sm⟩:=hst
   exact hnext g' l' _ _ sm
theorem PW_draw{id:Nat}(hm:P.follows .mixedOrders=true)(hchk:chk ops sts s0.tmps=true)(hlen:sts.length=ops.length)(he:e 0=s0.ext)(hQ:Q .normal (sD s0 sts e fun _=>true))
  (hloc:∀i o d,ops[i]?=some o->sts[i]?=some d->LocOK P cx ops.toArray Q e o d (sT s0 sts e i) (ecnt (fun j=>decide (j<i)) 0 sts)):PW P cx (.region id ops.toArray true) s0 Q:=fun g l a w hs=>by
 refine wp_region_any hm ?_
 have hs':Sim cx s0 g l a { w with drawn:=w.drawn+1 }:=hs.drew.1
 refine draw_go hchk hlen hQ hloc _ _ (List.range ops.length) g l a _ sM ?_ (fun i hi _=>by simpa using hi) sM ?_
 ·intro j o hj hD
  rw [Dl_none] at hD
  cases hD
 ·have e1:wsel (Dl (Array.replicate ops.toArray.size false)) 0 sts=[]:=by rw [Dl_none]; exact wsel_none _ _
  have e2:ecnt (Dl (Array.replicate ops.toArray.size false)) 0 sts=0:=by rw [Dl_none]; exact ecnt_none _ _
  unfold sD
  rw [e1,e2,he]
  exact hs'
end
def isXW:Wr->Bool
 | .ext _ _ _=>true
 | _=>false
def extW:Ext->List Wr->Ext
 | e,[]=>e
 | e,.ext n off vs::r=>extW (match lk e n with | some cs=>put e n (splice cs off vs) | none=>e) r
 | e,_::r=>extW e r
theorem extW_noX:∀ {r:List Wr} {e:Ext},r.any isXW=false->extW e r=e
 | [],_,_=>rfl
 | x::r,e,h=>by
  simp only [List.any_cons,Bool.or_eq_false_iff] at h
  cases x with
  | ext _ _ _=>cases h.1
  | _=>simp only [extW]; exact extW_noX (r:=r) h.2
theorem plain_noX:∀ {r:List Wr},r.any isXW=false->r.filter plainW=r
 | [],_=>rfl
 | x::r,h=>by
  simp only [List.any_cons,Bool.or_eq_false_iff] at h
  have:=plain_noX h.2
  cases x with
  | ext _ _ _=>cases h.1
  | _=>rw [List.filter_cons_of_pos rfl,this]
theorem wqs_plain:∀ {r:List Wr} {s:S},s.wqs (r.filter plainW)=s.wqs r
 | [],_=>rfl
 | x::r,s=>by
  cases x with
  | ext n off vs=>simp only [List.filter_cons,plainW,Bool.false_eq_true,if_false,S.wqs,S.wq]; exact wqs_plain
  | tmp _ _=>simp only [List.filter_cons,plainW,if_true,S.wqs]; exact wqs_plain
  | newbox _ _=>simp only [List.filter_cons,plainW,if_true,S.wqs]; exact wqs_plain
  | cells _ _ _=>simp only [List.filter_cons,plainW,if_true,S.wqs]; exact wqs_plain
theorem wqs_get_congr{s t:S}{l:Loc}(h:s.get l=t.get l)(L:List Wr):(s.wqs L).get l=(t.wqs L).get l:=by rw [wqs_get,wqs_get,h]
theorem wr_ext(s:S)(x:Wr):(s.wr x).ext=extW s.ext [x]:=by
 cases x with
 | tmp _ _=>rfl
 | newbox _ _=>rfl
 | cells i off vs=>simp only [S.wr,extW]; split <;> rfl
 | ext n off vs=>simp only [S.wr,extW]; cases lk s.ext n <;> rfl
theorem extW_cons(e:Ext)(x:Wr)(r:List Wr):extW e (x::r)=extW (extW e [x]) r:=by cases x <;> rfl
theorem wrs_ext:∀ (r:List Wr) (s:S),(s.wrs r).ext=extW s.ext r
 | [],_=>rfl
 | x::r,s=>by rw [extW_cons,<-wr_ext]; exact wrs_ext r _
theorem wr_get{s t:S}{x:Wr}(hx:newW x=none)(h:∀l,isX l=false->s.get l=t.get l):∀l,isX l=false->(s.wr x).get l=(t.wq x).get l:=fun l hl=>by
 have hb:∀i,lk s.boxes i=lk t.boxes i:=fun i=>get_b (h (.b i) rfl)
 cases x with
 | tmp u v=>
  cases l with
  | t k=>have:=get_t (h (.t k) rfl); simp [S.wr,S.wq,S.get,lk_put,this]
  | b k=>have:=hb k; simp [S.wr,S.wq,S.get,this]
  | x k=>cases hl
 | newbox _ _=>cases hx
 | cells i off vs=>
  simp only [S.wr,S.wq,hb i]
  cases hi:lk t.boxes i with
  | none=>exact h l hl
  | some cs=>
   cases l with
   | t k=>exact h (.t k) rfl
   | b k=>simp [S.get,lk_put,hb k]
   | x k=>cases hl
 | ext n off vs=>
  have:(s.wr (.ext n off vs)).get l=s.get l:=by
   cases l with
   | t k=>simp only [S.wr]; split <;> rfl
   | b k=>simp only [S.wr]; split <;> rfl
   | x k=>cases hl
  rw [this]
  exact h l hl
theorem wrs_noNew:∀ {r:List Wr} {s t:S},(∀x∈r,newW x=none)->(∀l,isX l=false->s.get l=t.get l)->∀l,isX l=false->(s.wrs r).get l=(t.wqs r).get l
 | [],_,_,_,h=>h
 | x::r,s,t,hn,h=>wrs_noNew (r:=r) (fun y hy=>hn y (List.mem_cons_of_mem _ hy)) (wr_get (hn x sM) h)
theorem newFirst_rest{x:Wr}{r:List Wr}(hx:plainW x=true)(h:newFirst ((x::r).filter plainW)=true):∀y∈r,newW y=none:=fun y hy=>by
 simp only [List.filter_cons,hx,if_true,newFirst,List.all_eq_true] at h
 cases hp:plainW y with
 | true=>exact Option.isNone_iff_eq_none.1 (h y (List.mem_filter.2 ⟨hy,hp⟩))
 | false=>cases y <;> first | rfl | cases hp
theorem wrs_wqs:∀ {ws:List Wr} {s:S},newFirst (ws.filter plainW)=true->(∀b∈ws.filterMap newW,∀t off,lk s.tmps t≠some (.lp b off))->∀l,isX l=false->(s.wrs ws).get l=(s.wqs ws).get l
 | [],_,_,_=>fun _ _=>rfl
 | x::r,s,hf,hn=>by
  cases hx:newW x with
  | none=>
   cases hp:plainW x with
   | true=>exact wrs_noNew (r:=x::r) (fun y hy=>by rcases List.mem_cons.1 hy with rfl | hy; exact hx; exact newFirst_rest hp hf y hy) fun _ _=>rfl
   | false=>
    cases x with
    | ext n off vs=>
     intro l hl
     have e1:∀l,isX l=false->(s.wr (.ext n off vs)).get l=s.get l:=fun l hl=>wr_get rfl (fun _ _=>rfl) l hl
     have et:(s.wr (.ext n off vs)).tmps=s.tmps:=by simp only [S.wr]; split <;> rfl
     have:=wrs_wqs (ws:=r) (s:=s.wr (.ext n off vs)) (by simpa [List.filter_cons,plainW] using hf) (fun b hb t off=>by rw [et]; exact hn b (by simpa [newW,List.filterMap_cons] using hb) t off) l hl
     show ((s.wr (.ext n off vs)).wrs r).get l=(s.wqs r).get l
     rw [this]
     exact wqs_get_congr (e1 l hl) r
    | _=>cases hp
  | some d=>
   cases x with
   | newbox i ps=>
    injection hx with hx
    subst hx
    have hr:=newFirst_rest (x := .newbox i ps) rfl hf
    refine wrs_noNew (r:=r) (s:=s.wr (.newbox i ps)) (t:=s.wq (.newbox i ps)) hr fun l hl=>?_
    cases l with
    | t k=>
     simp only [S.wr,S.wq,S.get,lk_kill]
     cases hk:lk s.tmps k with
     | none=>rfl
     | some lv=>
      simp only [Option.map_some]
      rcases kl_rep (i:=i) (lv:=lv) with hj | ⟨he,-⟩
      ·cases lv with
       | lp j o=>
        simp only [kl] at hj ⊢
        split
        ·rename_i e0; subst e0; exact absurd hk (hn j (by simp [newW,List.filterMap_cons]) k o)
        ·rfl
       | _=>rfl
      ·rw [he]
    | b k=>rfl
    | x k=>cases hl
   | _=>cases hx
def CRes.lv:CRes->Option LV
 | .ret p=>some (.v p)
 | .own e z es=>some (.uniq e z es)
 | .panic _=>none
def dstW(o:Oper)(lv:LV):List Wr:=match o.dst with
 | some d=>[.tmp d lv]
 | none=>[]
section
variable {P:Program} {cx:Cx} {Q:PExit->S->Prop}
def stepR(P:Program)(ro:TypeId->Option Bool)(n:Nat)(all:List Oper)(o:Oper)(gr:List Loc)(s:S)(K:DS->Option Ext->S->Prop):Prop:=match callee P o with
 | some r=>r.wpR s fun x rd=>isFn P x.1=true/\((∃r lv,r.lv=some lv/\(∀e,CallC P x.1 x.2 e fun r' e'=>r'=r/\e'=e)/\K ⟨gr++rd,dstW o lv,false⟩ none (s.wqs (dstW o lv)))
   ∨ ∃r lv e',r.lv=some lv/\CallC P x.1 x.2 s.ext (fun r' e''=>r'=r/\e''=e')/\K ⟨gr++rd,dstW o lv,true⟩ (some e') { s.wqs (dstW o lv) with ext:=e' })
 | none=>(act P ro n all o).wpR s fun wr rd=>if wr.any isXW=true then K ⟨gr++rd,wr.filter plainW,true⟩ (some (extW s.ext wr)) { s.wqs (wr.filter plainW) with ext:=extW s.ext wr }
   else K ⟨gr++rd,wr,false⟩ none (s.wqs wr)
def drL(P:Program)(ro:TypeId->Option Bool)(n:Nat)(all:List Oper):List Oper->S->(List DS->List Ext->S->Prop)->Prop
 | [],s,K=>K [] [] s
 | o::rest,s,K=>match o.guard with
  | none=>stepR P ro n all o [] s fun d x s'=>drL P ro n all rest s' fun ds xs t=>K (d::ds) (x.toList++xs) t
  | some (j,want)=>match (all[j]?).bind (·.dst) with
   | some dj=>match (lk s.tmps dj).bind (wantP want) with
    | some b=>if b=true then stepR P ro n all o [.t dj] s fun d x s'=>drL P ro n all rest s' fun ds xs t=>K (d::ds) (x.toList++xs) t
     else drL P ro n all rest (s.wqs (dstW o (.v (.tup [])))) fun ds xs t=>K (⟨[.t dj],dstW o (.v (.tup [])),false⟩::ds) xs t
    | none=>False
   | none=>False
def Loc1(P:Program)(cx:Cx)(all:Array Oper)(Q:PExit->S->Prop)(o:Oper)(d:DS)(si:S)(e':Ext):Prop:=
 newFirst d.ws=true->∀s,(∀l∈d.rd,s.get l=si.get l)->(d.xf=true->s.ext=si.ext)->(∀b∈d.ws.filterMap newW,∀t off,lk s.tmps t≠some (.lp b off))->StepOK P cx all Q o s { s.wqs d.ws with ext:=if d.eff=true then e' else s.ext }
def Chain(P:Program)(cx:Cx)(all:Array Oper)(Q:PExit->S->Prop):List Oper->List DS->List Ext->S->S->Prop
 | [],[],[],s,t=>t=s
 | o::rest,d::ds,xs,s,t=>∃ (x:Option Ext) (xs':List Ext),xs=x.toList++xs'/\d.eff=x.isSome/\Loc1 P cx all Q o d s (x.getD s.ext)/\Chain P cx all Q rest ds xs' { s.wqs d.ws with ext:=x.getD s.ext } t
 | _,_,_,_,_=>False
theorem StepOK.of{all:Array Oper}{o:Oper}{s s' t:S}(hg:∀p,isX p=false->t.get p=s'.get p)(hx:t.ext=s'.ext)(h:StepOK P cx all Q o s s'):StepOK P cx all Q o s t:=fun g l a w hs=>by
 have:=h g l a w hs
 split
 ·rename_i hw
  rw [iP hw] at this
  exact upon_mono (fun a' w' ⟨g',l',sm⟩=>⟨g',l',sm.of_get hg hx⟩) this
 ·rename_i hw
  rw [iN hw] at this
  obtain ⟨g',l',sm⟩:=this
  exact ⟨g',l',sm.of_get hg hx⟩
theorem stepR_sound{ro:TypeId->Option Bool}{all:List Oper}{o:Oper}{gr:List Loc}{si:S}{K:DS->Option Ext->S->Prop}(hd:∀d,o.dst=some d->d<cx.n)
  (hwant:∀s,(∀l∈gr,s.get l=si.get l)->∀g l a w,Sim cx s g l a w->Region.wanted o (yielded all.toArray a.tmps)=true) (h:stepR P ro cx.n all o gr si K) :
  ∃d x s',K d x s'/\d.eff=x.isSome/\s'={ si.wqs d.ws with ext:=x.getD si.ext }/\Loc1 P cx all.toArray Q o d si (x.getD si.ext):=by
 have hcall:∀ {r:RM (FuncId × List PV)} {x:FuncId × List PV} {rd:List Loc} {res:CRes} {lv:LV} {eff:Bool} {e':Ext},callee P o=some r->(∀s',(∀l∈rd,s'.get l=si.get l)->r.wp s' fun y=>y=x)->isFn P x.1=true->res.lv=some lv ->
   (∀s:S,(eff=true->s.ext=si.ext)->CallC P x.1 x.2 s.ext (fun r' e''=>r'=res/\e''=if eff=true then e' else s.ext))->Loc1 P cx all.toArray Q o ⟨gr++rd,dstW o lv,eff⟩ si e':=by
  intro r x rd res lv eff e' hr hloc hfn hlv hC _ s hag hxs _ g l a w hs
  rw [iP (hwant s (fun l hl=>hag l (List.mem_append_left _ hl)) g l a w hs)]
  have hC':=hC s fun he=>hxs (by simp [DS.xf,he])
  have:=callee_sound (Q:=Q) (K:=fun s'=>s'=s.setD o.dst lv (if eff=true then e' else s.ext)) hr hd hs (RM.wp_mono (fun y hy=>by
   subst hy
   refine ⟨hfn,hC'.mono ?_⟩
   rintro r' e'' ⟨rfl,rfl⟩
   cases r' with
   | ret p=>simp only [CRes.lv,Option.some.injEq] at hlv; subst hlv; rfl
   | own te z es=>simp only [CRes.lv,Option.some.injEq] at hlv; subst hlv; rfl
   | panic p=>cases hlv) (hloc s fun l hl=>hag l (List.mem_append_right _ hl)))
  refine upon_mono ?_ this
  rintro a' w' ⟨s',g',l',rfl,sm⟩
  refine ⟨g',l',?_⟩
  have e1:({ s.wqs (dstW o lv) with ext:=if eff=true then e' else s.ext }:S)=s.setD o.dst lv (if eff=true then e' else s.ext):=by
   unfold dstW S.setD
   cases o.dst <;> rfl
  show Sim cx { s.wqs (dstW o lv) with ext:=if eff=true then e' else s.ext } g' l' a' w'
  rw [e1]
  exact sm
 unfold stepR at h
 split at h
 ·rename_i r hr
  obtain ⟨x,rd,⟨hfn,hk⟩,hloc⟩:=RM.wpR_local h
  rcases hk with hk | hk
  ·obtain ⟨res,lv,hlv,hC,hK⟩:=hk
   refine ⟨_,_,_,hK,rfl,?_,hcall hr hloc hfn hlv fun s _=>?_⟩
   ·have:=wqs_ext (dstW o lv) si
    show si.wqs (dstW o lv)={ si.wqs (dstW o lv) with ext:=si.ext }
    rw [<-this]
   ·exact hC s.ext
  ·obtain ⟨res,lv,e',hlv,hC,hK⟩:=hk
   refine ⟨_,_,_,hK,rfl,rfl,hcall hr hloc hfn hlv fun s hs=>?_⟩
   rw [hs rfl]
   exact hC
 ·obtain ⟨wr,rd,hk,hloc⟩:=RM.wpR_local h
  have hact:∀ {eff:Bool},eff=wr.any isXW->Loc1 P cx all.toArray Q o ⟨gr++rd,wr.filter plainW,eff⟩ si (extW si.ext wr):=by
   intro eff heff hnf s hag hxs hnl g l a w hs
   rw [iP (hwant s (fun l hl=>hag l (List.mem_append_left _ hl)) g l a w hs)]
   have:=act_sound hs (hloc s fun l hl=>hag l (List.mem_append_right _ hl)) (post cx Q)
   refine upon_mono ?_ this
   rintro a' w' ⟨wr',g',l',rfl,sm⟩
   refine ⟨g',l',sm.of_get (fun p hp=>?_) ?_⟩
   ·have hnl':∀b∈wr'.filterMap newW,∀t off,lk s.tmps t≠some (.lp b off):=fun b hb=>hnl b (by
     simp only [List.mem_filterMap] at hb ⊢
     obtain ⟨y,hy,hyb⟩:=hb
     exact ⟨y,List.mem_filter.2 ⟨hy,by cases y <;> first | rfl | cases hyb⟩,hyb⟩)
    have e1:=wrs_wqs hnf hnl' p hp
    rw [e1]
    simp only [wqs_plain]
    cases p <;> first | rfl | cases hp
   ·rw [wrs_ext]
    simp only
    cases eff with
    | true=>simp only [if_true]; rw [hxs (by simp [DS.xf])]
    | false=>simp only [Bool.false_eq_true,if_false]; exact (extW_noX heff.symm).symm
  split at hk
  ·rename_i hx
   exact ⟨_,_,_,hk,rfl,rfl,hact hx.symm⟩
  ·rename_i hx
   have hx':wr.any isXW=false:=by simpa using hx
   have:=hact hx'.symm
   rw [plain_noX hx'] at this
   refine ⟨_,_,_,hk,rfl,?_,?_⟩
   ·have:=wqs_ext wr si
    show si.wqs wr={ si.wqs wr with ext:=si.ext }
    rw [<-this]
   ·have e2:=extW_noX (e:=si.ext) hx'
    rw [e2] at this
    exact this
theorem drL_sound{ro:TypeId->Option Bool}{all:List Oper}(hall:dstOK cx.n all=true):∀ {ls:List Oper} {s:S} {K:List DS->List Ext->S->Prop},(∀o∈ls,o∈all)->drL P ro cx.n all ls s K ->
  ∃sts xs t,K sts xs t/\Chain P cx all.toArray Q ls sts xs s t
 | [],s,K,_,h=>⟨[],[],s,h,rfl⟩
 | o::rest,s,K,hm,h=>by
  have hd:∀d,o.dst=some d->d<cx.n:=dstOK_mem hall (hm o sM)
  have hm':∀o∈rest,o∈all:=fun o ho=>hm o (List.mem_cons_of_mem _ ho)
  simp only [drL] at h
  split at h
  ·rename_i hg
   obtain ⟨d,x,s',hk,he,rfl,hl⟩:=stepR_sound (Q:=Q) (o:=o) (all:=all) (gr:=[]) hd (fun s _ g l a w _=>by simp [Region.wanted,hg]) h
   obtain ⟨sts,xs,t,h1,h2⟩:=drL_sound hall hm' hk
   exact ⟨d::sts,x.toList++xs,t,h1,x,xs,rfl,he,hl,h2⟩
  ·rename_i j want hg
   split at h
   ·rename_i dj hdj
    have hdjn:dj<cx.n:=by
     simp only [Option.bind_eq_some_iff] at hdj
     obtain ⟨oj,h1,h2⟩:=hdj
     exact dstOK_mem hall (List.mem_of_getElem? h1) dj h2
    split at h
    ·rename_i b hb
     simp only [Option.bind_eq_some_iff] at hb
     obtain ⟨lv,hlv,hb⟩:=hb
     have hwant:∀s',(∀l∈[Loc.t dj],s'.get l=s.get l)->∀g l a w,Sim cx s' g l a w->Region.wanted o (yielded all.toArray a.tmps)=b:=fun s' hs' g l a w sm=>by
      have h1:lk s'.tmps dj=some lv:=by rw [get_t (hs' (.t dj) sM)]; exact hlv
      simp only [Region.wanted,hg]
      exact yielded_of (by simpa using hdj) hdjn sm h1 hb
     split at h
     ·rename_i hbt
      subst hbt
      obtain ⟨d,x,s',hk,he,rfl,hl⟩:=stepR_sound (Q:=Q) (o:=o) (all:=all) (gr:=[.t dj]) hd hwant h
      obtain ⟨sts,xs,t,h1,h2⟩:=drL_sound hall hm' hk
      exact ⟨d::sts,x.toList++xs,t,h1,x,xs,rfl,he,hl,h2⟩
     ·rename_i hbf
      have hbf':b=false:=by simpa using hbf
      subst hbf'
      obtain ⟨sts,xs,t,h1,h2⟩:=drL_sound hall hm' h
      refine ⟨_::sts,xs,t,h1,none,xs,rfl,rfl,?_,?_⟩
      ·intro _ s' hag hxs _ g l a w sm
       rw [iN (by rw [hwant s' hag g l a w sm]; simp)]
       refine ⟨g,l,?_⟩
       show Sim cx { s'.wqs (dstW o (.v (.tup []))) with ext:=s'.ext } g l (a.put o.dst undef) w
       unfold dstW
       cases hdd:o.dst with
       | none=>exact sm
       | some d=>exact sm.set (hd d hdd) (.tup [] [] rfl fun j h=>by simp at h)
      ·have:=wqs_ext (dstW o (.v (.tup []))) s
       have e2:s.wqs (dstW o (.v (.tup [])))={ s.wqs (dstW o (.v (.tup []))) with ext:=s.ext }:=by rw [<-this]
       rw [e2] at h2
       exact h2
    ·exact h.elim
   ·exact h.elim
theorem wqs_append:∀ (A B:List Wr) (s:S),s.wqs (A++B)=(s.wqs A).wqs B
 | [],_,_=>rfl
 | x::r,B,s=>by simp only [List.cons_append,S.wqs]; exact wqs_append r B _
theorem wq_with(s:S)(e:Ext)(x:Wr):({ s with ext:=e }:S).wq x={ s.wq x with ext:=e }:=by
 cases x with
 | cells i off vs=>simp only [S.wq]; split <;> rfl
 | _=>rfl
theorem wqs_with:∀ (A:List Wr) (s:S) (e:Ext),({ s with ext:=e }:S).wqs A={ s.wqs A with ext:=e }
 | [],_,_=>rfl
 | x::r,s,e=>by simp only [S.wqs,wq_with]; exact wqs_with r _ e
theorem wsel_take:∀ (sts:List DS) (k i:Nat),wsel (fun j=>decide (j<k+i)) k sts=(sts.take i).flatMap (·.ws)
 | [],_,_=>by simp [wsel]
 | d::r,k,0=>by
  have:=wsel_take r (k+1) 0
  have h2:wsel (fun j=>decide (j<k+0)) (k+1) r=wsel (fun j=>decide (j<k+1+0)) (k+1) r:=wsel_congr fun j h1 _=>by simp; omega
  simp only [wsel,h2,this]
  simp
 | d::r,k,i+1=>by
  have:=wsel_take r (k+1) i
  rw [show k+1+i=k+(i+1) by omega] at this
  simp only [wsel,this]
  simp
theorem ecnt_take:∀ (sts:List DS) (k i:Nat),ecnt (fun j=>decide (j<k+i)) k sts=(sts.take i).countP (·.eff)
 | [],_,_=>by simp [ecnt]
 | d::r,k,0=>by
  have:=ecnt_take r (k+1) 0
  have h2:ecnt (fun j=>decide (j<k+0)) (k+1) r=ecnt (fun j=>decide (j<k+1+0)) (k+1) r:=ecnt_congr fun j d' _ _=>by
   have h3:¬k+1+j<k+0:=by omega
   have h4:¬k+1+j<k+1+0:=by omega
   simp only [h3,h4]
  simp only [ecnt,h2,this]
  simp
 | d::r,k,i+1=>by
  have:=ecnt_take r (k+1) i
  rw [show k+1+i=k+(i+1) by omega] at this
  simp only [ecnt,this]
  simp only [List.take_succ_cons,List.countP_cons]
  cases d.eff <;> simp <;> omega
def stA(s:S)(sts:List DS)(xs:List Ext)(i:Nat):S:={ s.wqs ((sts.take i).flatMap (·.ws)) with ext:=(s.ext::xs).getD ((sts.take i).countP (·.eff)) [] }
theorem Chain.at_{all:Array Oper}:∀ {ls:List Oper} {sts:List DS} {xs:List Ext} {s t:S},Chain P cx all Q ls sts xs s t->sts.length=ls.length/\t=stA s sts xs sts.length /\
  ∀i o d,ls[i]?=some o->sts[i]?=some d->∃e',Loc1 P cx all Q o d (stA s sts xs i) e'/\(d.eff=true->e'=(s.ext::xs).getD ((sts.take i).countP (·.eff)+1) [])
 | [],[],[],s,t,h=>⟨rfl,by
   have:t=s:=h
   subst this; rfl,fun i o d ho=>by simp at ho⟩
 | o0::rest,d0::ds,xs,s,t,h=>by
  obtain ⟨x,xs',rfl,he,hl,hc⟩:=h
  obtain ⟨k1,k2,k3⟩:=Chain.at_ hc
  have key:∀i,stA { s.wqs d0.ws with ext:=x.getD s.ext } ds xs' i=stA s (d0::ds) (x.toList++xs') (i+1):=fun i=>by
   unfold stA
   rw [wqs_with]
   simp only [List.take_succ_cons,List.flatMap_cons,wqs_append,List.countP_cons,he]
   cases x with
   | none=>simp
   | some e1=>simp
  have kn:∀i,(({ s.wqs d0.ws with ext:=x.getD s.ext }:S).ext::xs').getD ((ds.take i).countP (·.eff)+1) []=(s.ext::(x.toList++xs')).getD (((d0::ds).take (i+1)).countP (·.eff)+1) []:=fun i=>by
   simp only [List.take_succ_cons,List.countP_cons,he]
   cases x with
   | none=>simp
   | some e1=>simp
  refine ⟨by simp [k1],by rw [k2,key]; rfl,fun i o d ho hd=>?_⟩
  cases i with
  | zero=>
   simp only [List.getElem?_cons_zero,Option.some.injEq] at ho hd
   subst ho hd
   refine ⟨x.getD s.ext,?_,fun hef=>?_⟩
   ·have:stA s (d0::ds) (x.toList++xs') 0=s:=by unfold stA; simp [S.wqs]
    rw [this]
    exact hl
   ·rw [he] at hef
    cases x with
    | none=>cases hef
    | some e1=>simp
  | succ i=>
   simp only [List.getElem?_cons_succ] at ho hd
   obtain ⟨e',h1,h2⟩:=k3 i o d ho hd
   rw [key] at h1
   exact ⟨e',h1,fun hef=>by rw [h2 hef]; exact kn i⟩
 | [],_::_,_,_,_,h=>h.elim
 | _::_,[],_,_,_,h=>h.elim
 | [],[],_::_,_,_,h=>h.elim
theorem PW_drawn(ro:TypeId->Option Bool)(n:Nat){id:Nat}{ops:List Oper}{s:S}(hm:P.follows .mixedOrders=true)(hn:cx.n=n)(hall:dstOK n ops=true)
  (h:drL P ro n ops ops s fun sts _ t=>chk ops sts s.tmps=true/\Q .normal t):PW P cx (.region id ops.toArray true) s Q:=by
 subst hn
 obtain ⟨sts,xs,t,⟨hc,hq⟩,hch⟩:=drL_sound (Q:=Q) hall (fun _ h=>h) h
 obtain ⟨k1,k2,k3⟩:=hch.at_
 have hT:∀i,sT s sts (fun k=>(s.ext::xs).getD k []) i=stA s sts xs i:=fun i=>by
  unfold sT stA
  have h1:=wsel_take sts 0 i
  have h2:=ecnt_take sts 0 i
  simp only [Nat.zero_add] at h1 h2
  rw [h1,h2]
 refine PW_draw (sts:=sts) (e:=fun k=>(s.ext::xs).getD k []) hm hc k1 rfl ?_ fun i o d ho hd=>?_
 ·have h1:=hT sts.length
  have h2:sD s sts (fun k=>(s.ext::xs).getD k []) (fun _=>true)=sT s sts (fun k=>(s.ext::xs).getD k []) sts.length:=by
   unfold sD sT
   rw [wsel_congr (D:=fun _=>true) (D':=fun j=>decide (j<sts.length)) (sts:=sts) (k:=0) fun j _ hj=>by simp at hj; simp [hj]]
   rw [ecnt_congr (D:=fun _=>true) (D':=fun j=>decide (j<sts.length)) (sts:=sts) (k:=0) fun j d' hj _=>by
    have:=(List.getElem?_eq_some_iff.1 hj).1
    simp [this]]
  rw [h2,h1,<-k2]
  exact hq
 ·obtain ⟨e',h1,h2⟩:=k3 i o d ho hd
  rw [hT]
  have hk:ecnt (fun j=>decide (j<i)) 0 sts=(sts.take i).countP (·.eff):=by
   have:=ecnt_take sts 0 i
   simpa using this
  rw [hk]
  intro s' k hag hxk hse hnl
  obtain ⟨-,hnf,-⟩:=chk_at hc hd
  have:=h1 hnf s' hag (fun hx=>by rw [hse,hxk hx]; rfl) hnl
  refine this.of (fun p hp=>?_) ?_
  ·cases p <;> first | rfl | cases hp
  ·simp only
   cases hef:d.eff with
   | true=>
    have hkk:=hxk (by simp [DS.xf,hef])
    rw [hkk,h2 hef]
    rfl
   | false=>simp only [Bool.false_eq_true,if_false,Nat.add_zero]; exact hse.symm
end
section
variable {P:Program} {cx:Cx} {s t:S} {g:Gh} {l:LG} {a:Act} {w:World} {o:Oper}
theorem Sim.newext(h:Sim cx s g l a w)(cur:Array Value)(e:TypeId)(cs:List LV)(hlen:cs.length<=cur.size)(hr:∀j (hj:j<cs.length),cs[j] = .junk∨∃p,cs[j] = .v p/\Rep g w p (cur.getD j undef))(hone:∀u∈cur.toList,u.oneCell'=true) :
  Sim cx { s with ext:=put s.ext (cnt s.ext) cs } { g with M:=upd g.M w.heap.size (some 0),X:=upd g.X (cnt s.ext) (some w.heap.size) }
   { l with O:=upd l.O w.heap.size (some (.x (cnt s.ext))) } a (w.alloc (.cells cur e)) /\
  Mono g w { g with M:=upd g.M w.heap.size (some 0),X:=upd g.X (cnt s.ext) (some w.heap.size) } (w.alloc (.cells cur e)):=by
 have hb:∀b,b<w.heap.size->(w.alloc (.cells cur e)).heap[b]?=w.heap[b]?:=fun b hb=>Below.heap_alloc w _ b hb
 have hX:∀n b,g.X n=some b->upd g.X (cnt s.ext) (some w.heap.size) n=some b:=fun n b hx=>by
  rw [upd_other]
  ·exact hx
  ·intro e0
   rw [e0,h.fresh.2.1 _ (Nat.le_refl _)] at hx
   cases hx
 have hm:Mono g w { g with M:=upd g.M w.heap.size (some 0),X:=upd g.X (cnt s.ext) (some w.heap.size) } (w.alloc (.cells cur e)):=by
  refine ⟨hX,fun b o v hc hf=>?_,len_of_same hb,fun _ _ _ h=>h,map_of_same hb fun b hlt hn=>(upd_other _ _ (Nat.ne_of_lt hlt)).trans hn⟩
  have hlt:=World.block_lt_of_cell? w _ hc
  refine ⟨by rw [<-hc]; exact World.cell?_of_block (hb b hlt),fun k hk=>hf k ?_⟩
  simp only at hlt
  rw [<-upd_other g.M (some 0) (Nat.ne_of_lt hlt)]; exact hk
 have hU:∀ {p b},l.U p=some b->l.U p=some b/\upd g.M w.heap.size (some 0) b=g.M b/\(w.alloc (.cells cur e)).heap[b]?=w.heap[b]?:=fun {p b} hu=>by
  have hlt:=(h.own b _ (h.uo _ _ hu)).1
  exact ⟨hu,upd_other _ _ (Nat.ne_of_lt hlt),hb b hlt⟩
 have hsz:(w.alloc (.cells cur e)).heap.size=w.heap.size+1:=by simp
 refine ⟨⟨⟨h.hist.mono.trans hm,by rw [hsz]; exact Nat.le_succ_of_le h.hist.size,fun b hlt ho=>?_,h.hist.os,h.hist.tape,h.hist.output,h.hist.glb.mono hm⟩,h.size,h.defers,?_,?_,?_,?_,?_,?_,?_⟩,hm⟩
 ·obtain ⟨h1,h2⟩:=h.hist.frame b hlt ho
  have hlt':=Nat.lt_of_lt_of_le hlt h.hist.size
  exact ⟨(hb b hlt').trans h1,(upd_other g.M (some 0) (Nat.ne_of_lt hlt')).trans h2⟩
 ·intro t lv ht
  exact (h.tm t lv ht).keep hm (fun _ _ _=>rfl) fun b hu=>hU hu
 ·intro k cs hk
  obtain ⟨b,h1,h2,h3,cur',e',h4,h5,h6⟩:=h.bx k cs hk
  have hlt:=(h.own b _ h2).1
  refine ⟨b,h1,(upd_other _ _ (Nat.ne_of_lt hlt)).trans h2,(upd_other _ _ (Nat.ne_of_lt hlt)).trans h3,cur',e',(hb b hlt).trans h4,h5,fun j hj=>⟨(h6 j hj).1,(h6 j hj).2.1,(h6 j hj).2.2.keep hm (fun _ _ _=>rfl) fun b hu=>hU hu⟩⟩
 ·intro k cs' hk
  simp only [lk_put] at hk
  split at hk
  ·rename_i ek
   subst ek
   injection hk with hk
   subst hk
   refine ex_R (upd_same _ _ _) (upd_same _ _ _) ⟨upd_same _ _ _,cur,e,heap_alloc_new w _,hlen,fun j hj=>?_⟩
   have hj3:j<cur.size:=by omega
   have ho1:(cur.getD j undef).oneCell'=true:=hone _ (by simp [hj3])
   rcases hr j hj with hx | ⟨p,hx,hrp⟩
   ·rw [hx]; exact ⟨rfl,ho1,tVv⟩
   ·rw [hx]; exact ⟨rfl,ho1,hrp.mono hm⟩
  ·obtain ⟨b,h1,h2,hE⟩:=h.ex k cs' hk
   have hlt:=(h.own b _ h2).1
   refine ⟨b,h1.mono hm,(upd_other _ _ (Nat.ne_of_lt hlt)).trans h2,?_⟩
   rcases hE with ⟨h3,cur',e',h4,h5,h6⟩ | hE
   ·exact .inl ⟨(upd_other _ _ (Nat.ne_of_lt hlt)).trans h3,cur',e',(hb b hlt).trans h4,h5,fun j hj=>⟨(h6 j hj).1,(h6 j hj).2.1,(h6 j hj).2.2.keep hm (fun _ _ _=>rfl) fun b hu=>hU hu⟩⟩
   ·exact .inr (hE.keep hm (fun _ _ _ h=>h) (upd_other _ _ (Nat.ne_of_lt hlt)) (hb b hlt))
 ·intro b o ho
  simp only [upd] at ho
  split at ho
  ·rename_i eb
   subst eb
   exact ⟨by rw [hsz]; omega,.inl h.hist.size⟩
  ·obtain ⟨k1,k2⟩:=h.own b o ho
   exact ⟨by rw [hsz]; omega,k2⟩
 ·intro p b hu
  have hlt:=(h.own b _ (h.uo _ _ hu)).1
  exact (upd_other _ _ (Nat.ne_of_lt hlt)).trans (h.uo p b hu)
 ·refine ⟨fun b hb'=>?_,fun n hn=>?_,fun n c hn=>?_⟩
  ·rw [hsz] at hb'
   exact (upd_other _ _ oM).trans (h.fresh.1 b oM)
  ·simp only [cnt_put] at hn
   exact (upd_other _ _ oM).trans (h.fresh.2.1 n oM)
  ·simp only [cnt_put] at hn
   exact h.fresh.2.2 n c oM
 ·intro n b hx
  rw [hsz]
  simp only [upd] at hx
  split at hx
  ·injection hx with hx; omega
  ·exact Nat.lt_succ_of_lt (h.xlt n b hx)
def strK(P:Program)(t:TypeId):Bool:=match P.underlying t with
 | some (.map k _)=>match P.underlying k with
  | some (.int .i64)=>false
  | _=>true
 | _=>true
def newS:Bool->MM
 | true => .s []
 | false => .i []
theorem Sim.newobj(ob:Obj)(es:MM)(h:Sim cx s g l a w)(hnew:BlkM { g with M:=upd g.M w.heap.size (some 0),X:=upd g.X (cnt s.ext) (some w.heap.size) } (w.alloc ob) w.heap.size es) :
  Sim cx { s with ext:=put s.ext (cnt s.ext) [.mm es] } { g with M:=upd g.M w.heap.size (some 0),X:=upd g.X (cnt s.ext) (some w.heap.size) }
   { l with O:=upd l.O w.heap.size (some (.x (cnt s.ext))) } a (w.alloc ob) /\
  Mono g w { g with M:=upd g.M w.heap.size (some 0),X:=upd g.X (cnt s.ext) (some w.heap.size) } (w.alloc ob):=by
 have hb:∀b,b<w.heap.size->(w.alloc ob).heap[b]?=w.heap[b]?:=fun b hb=>Below.heap_alloc w _ b hb
 have hX:∀n b,g.X n=some b->upd g.X (cnt s.ext) (some w.heap.size) n=some b:=fun n b hx=>by
  rw [upd_other]
  ·exact hx
  ·intro e0
   rw [e0,h.fresh.2.1 _ (Nat.le_refl _)] at hx
   cases hx
 have hm:Mono g w { g with M:=upd g.M w.heap.size (some 0),X:=upd g.X (cnt s.ext) (some w.heap.size) } (w.alloc ob):=by
  refine ⟨hX,fun b o v hc hf=>?_,len_of_same hb,fun _ _ _ h=>h,map_of_same hb fun b hlt hn=>(upd_other _ _ (Nat.ne_of_lt hlt)).trans hn⟩
  have hlt:=World.block_lt_of_cell? w _ hc
  refine ⟨by rw [<-hc]; exact World.cell?_of_block (hb b hlt),fun k hk=>hf k ?_⟩
  simp only at hlt
  rw [<-upd_other g.M (some 0) (Nat.ne_of_lt hlt)]; exact hk
 have hU:∀ {p b},l.U p=some b->l.U p=some b/\upd g.M w.heap.size (some 0) b=g.M b/\(w.alloc ob).heap[b]?=w.heap[b]?:=fun {p b} hu=>by
  have hlt:=(h.own b _ (h.uo _ _ hu)).1
  exact ⟨hu,upd_other _ _ (Nat.ne_of_lt hlt),hb b hlt⟩
 have hsz:(w.alloc ob).heap.size=w.heap.size+1:=by simp
 refine ⟨⟨⟨h.hist.mono.trans hm,by rw [hsz]; exact Nat.le_succ_of_le h.hist.size,fun b hlt ho=>?_,h.hist.os,h.hist.tape,h.hist.output,h.hist.glb.mono hm⟩,h.size,h.defers,?_,?_,?_,?_,?_,?_,?_⟩,hm⟩
 ·obtain ⟨h1,h2⟩:=h.hist.frame b hlt ho
  have hlt':=Nat.lt_of_lt_of_le hlt h.hist.size
  exact ⟨(hb b hlt').trans h1,(upd_other g.M (some 0) (Nat.ne_of_lt hlt')).trans h2⟩
 ·intro t lv ht
  exact (h.tm t lv ht).keep hm (fun _ _ _=>rfl) fun b hu=>hU hu
 ·intro k cs hk
  obtain ⟨b,h1,h2,h3,cur',e',h4,h5,h6⟩:=h.bx k cs hk
  have hlt:=(h.own b _ h2).1
  refine ⟨b,h1,(upd_other _ _ (Nat.ne_of_lt hlt)).trans h2,(upd_other _ _ (Nat.ne_of_lt hlt)).trans h3,cur',e',(hb b hlt).trans h4,h5,fun j hj=>⟨(h6 j hj).1,(h6 j hj).2.1,(h6 j hj).2.2.keep hm (fun _ _ _=>rfl) fun b hu=>hU hu⟩⟩
 ·intro k cs' hk
  simp only [lk_put] at hk
  split at hk
  ·rename_i ek
   subst ek
   injection hk with hk
   subst hk
   exact ⟨w.heap.size,upd_same _ _ _,upd_same _ _ _,.inr (.inl ⟨es,rfl,hnew⟩)⟩
  ·obtain ⟨b,h1,h2,hE⟩:=h.ex k cs' hk
   have hlt:=(h.own b _ h2).1
   refine ⟨b,h1.mono hm,(upd_other _ _ (Nat.ne_of_lt hlt)).trans h2,?_⟩
   rcases hE with ⟨h3,cur',e',h4,h5,h6⟩ | hE
   ·exact .inl ⟨(upd_other _ _ (Nat.ne_of_lt hlt)).trans h3,cur',e',(hb b hlt).trans h4,h5,fun j hj=>⟨(h6 j hj).1,(h6 j hj).2.1,(h6 j hj).2.2.keep hm (fun _ _ _=>rfl) fun b hu=>hU hu⟩⟩
   ·exact .inr (hE.keep hm (fun _ _ _ h=>h) (upd_other _ _ (Nat.ne_of_lt hlt)) (hb b hlt))
 ·intro b o ho
  simp only [upd] at ho
  split at ho
  ·rename_i eb
   subst eb
   exact ⟨by rw [hsz]; omega,.inl h.hist.size⟩
  ·obtain ⟨k1,k2⟩:=h.own b o ho
   exact ⟨by rw [hsz]; omega,k2⟩
 ·intro p b hu
  have hlt:=(h.own b _ (h.uo _ _ hu)).1
  exact (upd_other _ _ (Nat.ne_of_lt hlt)).trans (h.uo p b hu)
 ·refine ⟨fun b hb'=>?_,fun n hn=>?_,fun n c hn=>?_⟩
  ·rw [hsz] at hb'
   exact (upd_other _ _ oM).trans (h.fresh.1 b oM)
  ·simp only [cnt_put] at hn
   exact (upd_other _ _ oM).trans (h.fresh.2.1 n oM)
  ·simp only [cnt_put] at hn
   exact h.fresh.2.2 n c oM
 ·intro n b hx
  rw [hsz]
  simp only [upd] at hx
  split at hx
  ·injection hx with hx; omega
  ·exact Nat.lt_succ_of_lt (h.xlt n b hx)
theorem Sim.newmap(q:Bool)(h:Sim cx s g l a w) :
  Sim cx { s with ext:=put s.ext (cnt s.ext) [.mm (newS q)] } { g with M:=upd g.M w.heap.size (some 0),X:=upd g.X (cnt s.ext) (some w.heap.size) }
   { l with O:=upd l.O w.heap.size (some (.x (cnt s.ext))) } a (w.alloc (.map #[] 0)) /\
  Mono g w { g with M:=upd g.M w.heap.size (some 0),X:=upd g.X (cnt s.ext) (some w.heap.size) } (w.alloc (.map #[] 0)):=by
 refine h.newobj (.map #[] 0) (newS q) ?_
 cases q <;> exact ⟨upd_same _ _ _,#[],0,heap_alloc_new w _,MapKept.stamped_empty 0,rfl,fun j hj=>by simp at hj⟩
theorem Sim.newit(h:Sim cx s g l a w){i bm since last:Nat}(hX:g.X i=some bm)(hi:i<cnt s.ext) :
  Sim cx { s with ext:=put s.ext (cnt s.ext) [.mm (.it i)] } { g with M:=upd g.M w.heap.size (some 0),X:=upd g.X (cnt s.ext) (some w.heap.size) }
   { l with O:=upd l.O w.heap.size (some (.x (cnt s.ext))) } a (w.alloc (.mapIter (some bm) since #[] last)) /\
  Mono g w { g with M:=upd g.M w.heap.size (some 0),X:=upd g.X (cnt s.ext) (some w.heap.size) } (w.alloc (.mapIter (some bm) since #[] last)):=
 h.newobj (.mapIter (some bm) since #[] last) (.it i) ⟨upd_same _ _ _,bm,since,last,(upd_other _ _ (Nat.ne_of_lt hi)).trans hX,heap_alloc_new w _⟩
theorem Sim.newfit(h:Sim cx s g l a w){bm clk:Nat}{arr:Array MapEntry}{ks:List ByteArray}{vs:List PV}{es:List (ByteArray × PV)}(h1:w.heap[bm]?=some (.map arr clk))(h2:g.M bm=none)(h3:MapR Value.string g w es arr clk)(h4:es.Perm (ks.zip vs)) :
  Sim cx { s with ext:=put s.ext (cnt s.ext) [.mm (.fit ks vs [])] } { g with M:=upd g.M w.heap.size (some 0),X:=upd g.X (cnt s.ext) (some w.heap.size) }
   { l with O:=upd l.O w.heap.size (some (.x (cnt s.ext))) } a (w.alloc (.mapIter (some bm) clk #[] clk)) /\
  Mono g w { g with M:=upd g.M w.heap.size (some 0),X:=upd g.X (cnt s.ext) (some w.heap.size) } (w.alloc (.mapIter (some bm) clk #[] clk)):=by
 have hlt:bm<w.heap.size:=(Array.getElem?_eq_some_iff.1 h1).1
 have hb:(w.alloc (.mapIter (some bm) clk #[] clk)).heap[bm]?=w.heap[bm]?:=Below.heap_alloc w _ bm hlt
 have hX:∀n b,g.X n=some b->upd g.X (cnt s.ext) (some w.heap.size) n=some b:=fun n b hx=>by
  rw [upd_other]
  ·exact hx
  ·intro e0
   rw [e0,h.fresh.2.1 _ (Nat.le_refl _)] at hx
   cases hx
 have hm:Mono g w { g with M:=upd g.M w.heap.size (some 0),X:=upd g.X (cnt s.ext) (some w.heap.size) } (w.alloc (.mapIter (some bm) clk #[] clk)):=by
  have hb:∀b,b<w.heap.size->(w.alloc (.mapIter (some bm) clk #[] clk)).heap[b]?=w.heap[b]?:=fun b hb=>Below.heap_alloc w _ b hb
  refine ⟨hX,fun b o v hc hf=>?_,len_of_same hb,fun _ _ _ h=>h,map_of_same hb fun b hlt hn=>(upd_other _ _ (Nat.ne_of_lt hlt)).trans hn⟩
  have hlt:=World.block_lt_of_cell? w _ hc
  refine ⟨by rw [<-hc]; exact World.cell?_of_block (hb b hlt),fun k hk=>hf k ?_⟩
  simp only at hlt
  rw [<-upd_other g.M (some 0) (Nat.ne_of_lt hlt)]; exact hk
 exact h.newobj (.mapIter (some bm) clk #[] clk) (.fit ks vs []) ⟨upd_same _ _ _,bm,#[],clk,arr,es,[],heap_alloc_new w _,hb.trans h1,(upd_other _ _ (Nat.ne_of_lt hlt)).trans h2,h3.mono hm,h4,List.nodup_nil,fun i (hi:i∈[])=>(List.not_mem_nil hi).elim,rfl,rfl⟩
theorem mem_zeroCells'{z:Array Value}{n:Nat}{u:Value}(h:u∈(Builtin.zeroCells z n).toList):u∈z.toList:=by
 simp only [Builtin.zeroCells,Array.toList_map,List.mem_map] at h
 obtain ⟨k,hk,rfl⟩:=h
 have hk':k<n * z.size:=by simpa using hk
 have hpos:0<z.size:=by
  rcases Nat.eq_zero_or_pos z.size with h0 | h0
  ·rw [h0] at hk'; simp at hk'
  ·exact h0
 have:=Nat.mod_lt k hpos
 simp [this]
end
def After(g:Gh)(l:LG)(w:World)(e':Ext)(g':Gh)(l':LG)(w':World):Prop:=
 Ent e' g' l' w'/\Mono g w g' w'/\w.heap.size<=w'.heap.size/\(∀b,b<w.heap.size->l.O b=none->w'.heap[b]?=w.heap[b]?/\g'.M b=g.M b) /\
  (∀b o,l'.O b=some o->w.heap.size<=b∨(l.O b).isSome=true)/\w'.os=w.os/\w'.tape=w.tape/\w'.output=w.output
inductive PM where
 | ret
 | pan (p:PV)
 | rcv
def PMOK(g:Gh)(w:World):PM->FrameMode->Prop
 | .ret,u=>u = .returning
 | .pan p,u=>∃v,u = .panicking [{ v,recovered:=false }]/\Rep g w p v
 | .rcv,u=>∃v,u = .panicking [{ v,recovered:=true }]
def CallCD(P:Program)(f:FuncId)(args:List PV)(e:Ext)(m:PM)(R:PM->Ext->Prop):Prop:=
 ∀vs g l w u,RepAll g w args vs->Ent e g l w->PMOK g w m u->CallsD P f vs.toArray u w fun en u' w'=>∃v m' e' g' l',en = .returned v/\R m' e'/\PMOK g' w' m' u'/\After g l w e' g' l' w'
section
variable {P:Program} {cx:Cx} {s t:S} {g:Gh} {l:LG} {a:Act} {w:World}
theorem Sim.after{n:Nat}{ds:List Deferred}{s':S}{g':Gh}{l':LG}{a':Act}{w':World}(sm:Sim ⟨n,ds,g,w,fun b=>(l.O b).isSome=true⟩ s' g' l' a' w'):After g l w s'.ext g' (lx l') w':=by
 refine ⟨sm.ent,sm.hist.mono,sm.hist.size,fun b hlt ho=>sm.hist.frame b hlt (by show ¬(l.O b).isSome=true; rw [ho]; simp),fun b o' ho=>?_,sm.hist.os,sm.hist.tape,sm.hist.output⟩
 have:∃o2,l'.O b=some o2:=by
  simp only [lx] at ho
  split at ho
  ·rename_i hn2; exact ⟨_,hn2⟩
  ·rename_i hn2; exact ⟨_,hn2⟩
  ·cases ho
 obtain ⟨o2,ho2⟩:=this
 exact (sm.own b o2 ho2).2
theorem Sim.enter{n:Nat}{ps:List PV}{e:Ext}{vs:List Value}(ha:RepAll g w ps vs)(he:Ent e g l w)(hn:ps.length<=n) :
  Sim ⟨n,[],g,w,fun b=>(l.O b).isSome=true⟩ (enterS ps e) g l { tmps:=vs.toArray++Array.replicate (n - vs.toArray.size) undef,defers:=[] } w:=by
 have hl:=ha.1
 refine ⟨⟨Mono.refl g w,Nat.le_refl _,fun _ _ _=>⟨rfl,rfl⟩,rfl,rfl,rfl,he.glb⟩,?_,rfl,?_,?_,he.ex,?_,he.uo,he.fresh,he.xlt⟩
 ·simp
  omega
 ·intro t lv ht
  obtain ⟨j,p,rfl,hj,rfl⟩:=lk_argT ht
  have hlt:=(List.getElem?_eq_some_iff.1 hj).1
  have hlt':j<vs.length:=by omega
  have:=ha.2 j hlt hlt'
  rw [List.getElem?_eq_getElem hlt] at hj
  injection hj with hj
  rw [hj] at this
  have e1:(vs.toArray++Array.replicate (n - vs.toArray.size) undef).getD (0+j) undef=vs[j]:=by
   simp [Array.getD_eq_getD_getElem?,Array.getElem?_append,hlt']
  show Rep g w p _
  rw [e1]
  exact this
 ·intro i cs hi
  simp [enterS,lk] at hi
 ·intro b o' ho
  exact ⟨he.olt b o' ho,.inr (by show (l.O b).isSome=true; rw [ho]; rfl)⟩
theorem Sim.defer{ds:List Deferred}(h:Sim cx s g l a w):Sim { cx with ds:=ds } s g l { a with defers:=ds } w where
 hist:=⟨h.hist.mono,h.hist.size,h.hist.frame,h.hist.os,h.hist.tape,h.hist.output,h.hist.glb⟩
 size:=h.size
 defers:=rfl
 tm:=h.tm
 bx:=h.bx
 ex:=h.ex
 own:=h.own
 uo:=h.uo
 fresh:=h.fresh
 xlt:=h.xlt
theorem Sim.anew{ds:List Deferred}(h:Sim cx s g l a w)(hd:a.defers=ds):Sim ⟨cx.n,ds,g,w,fun b=>(l.O b).isSome=true⟩ s g l a w where
 hist:=⟨Mono.refl g w,Nat.le_refl _,fun _ _ _=>⟨rfl,rfl⟩,rfl,rfl,rfl,h.hist.glb⟩
 size:=h.size
 defers:=hd
 tm:=h.tm
 bx:=h.bx
 ex:=h.ex
 own:=fun b o ho=>⟨(h.own b o ho).1,.inr (by show (l.O b).isSome=true; rw [ho]; rfl)⟩
 uo:=h.uo
 fresh:=h.fresh
 xlt:=h.xlt
theorem Sim.rebase{n:Nat}{ds:List Deferred}{s':S}{g':Gh}{l':LG}{a':Act}{w':World}(h:Sim cx s g l a w)(h':Sim ⟨n,ds,g,w,fun b=>(l.O b).isSome=true⟩ s' g' l' a' w') :
  Sim ⟨n,ds,cx.g0,cx.w0,cx.own0⟩ s' g' l' a' w' where
 hist:=⟨h.hist.mono.trans h'.hist.mono,Nat.le_trans h.hist.size h'.hist.size,fun b hlt ho=>by
  obtain ⟨k1,k2⟩:=h.hist.frame b hlt ho
  have hn:¬(l.O b).isSome=true:=fun hs=>by
   obtain ⟨o,ho'⟩:=Option.isSome_iff_exists.1 hs
   have hlt':b<cx.w0.heap.size:=hlt
   rcases (h.own b o ho').2 with hc | hc
   ·omega
   ·exact ho hc
  obtain ⟨k3,k4⟩:=h'.hist.frame b (Nat.lt_of_lt_of_le hlt h.hist.size) hn
  exact ⟨k3.trans k1,k4.trans k2⟩,h'.hist.os.trans h.hist.os,h'.hist.tape.trans h.hist.tape,h'.hist.output.trans h.hist.output,h'.hist.glb⟩
 size:=h'.size
 defers:=h'.defers
 tm:=h'.tm
 bx:=h'.bx
 ex:=h'.ex
 own:=fun b o ho=>by
  obtain ⟨k1,k2⟩:=h'.own b o ho
  refine ⟨k1,?_⟩
  rcases k2 with hc | hc
  ·exact .inl (Nat.le_trans h.hist.size hc)
  ·obtain ⟨o',ho'⟩:=Option.isSome_iff_exists.1 hc
   exact (h.own b o' ho').2
 uo:=h'.uo
 fresh:=h'.fresh
 xlt:=h'.xlt
def endD(P:Program)(rs:List ResultVar)(R:CRes->Ext->Prop)(fid:FuncId)(dargs:List PV):PExit->S->Prop
 | .exit _,_=>False
 | .panic p,s=>CallCD P fid dargs s.ext (.pan p) fun m e'=>m = .rcv/\∃q,resP P { s with ext:=e' } rs=some q/\R (.ret q) e'
 | _,s=>CallCD P fid dargs s.ext .ret fun m e'=>m = .ret/\∃q,resP P { s with ext:=e' } rs=some q/\R (.ret q) e'
theorem CallC.enterD{f:FuncId}{fn:Func}{r0 y:Code}{id:Nat}{mk df:Oper}{t:Nat}{ts:Array TypeId}{ps:List PV}{e:Ext}{R:CRes->Ext->Prop}(ro:TypeId->Option Bool)(hf:P.funcs[f]?=some fn)
  (hb:fn.body=some (.seq r0 (.seq (.region id #[mk,df] false) y))) (hn:ps.length<=fn.ntmps) (hdf:df.op = .defer ⟨.value (.tmp t),#[],ts⟩) (hgm:mk.guard=none) (hgd:df.guard=none) (hdd:df.dst=none)
  (h:∀cx:Cx,cx.n=fn.ntmps->cx.ds=[]->PW P cx r0 (enterS ps e) fun pe s=>pe = .normal/\(act P ro fn.ntmps [mk,df] mk).wp s fun wr=>∃fid first cap,lk (s.wrs wr).tmps t=some (.v (.fn (.func fid) first cap))/\isFn P fid=true /\
   ∀cx':Cx,cx'.n=fn.ntmps->PW P cx' y (s.wrs wr) (endD P fn.results.toList R fid (first++cap))):CallC P f ps e R:=by
 intro vs g l w ha he
 refine calls_of_wp_defers hf hb ?_
 have hs:=Sim.enter (n:=fn.ntmps) ha he hn
 refine wp_seq (wp_mono (h _ rfl rfl g l _ w hs) ?_)
 rintro ex a1 w1 ⟨pe,s1,g1,l1,⟨rfl,hw⟩,er,sm1⟩
 cases ex <;> first | exact er.elim | skip
 refine wp_seq ?_
 refine wp_region_lit (l:=[mk,df]) ?_
 refine wpList_plain hgm fun K hK=>?_
 refine upon_mono ?_ (act_sound sm1 hw _)
 rintro a2 w2 ⟨wr,g2,l2,⟨fid,first,cap,hlk,hfn,hY⟩,sm2⟩
 refine hK _ _ ?_
 refine wpList_plain hgd fun K hK=>?_
 have hv:=sm2.tm t _ hlk
 have hex:∀fv cv,a2.eval (.tmp t) = .func (.func fid) fv cv->(execOp a2.eval df).run P w2 = .ok (.defer { target := .fn (.func fid) cv,args:=fv ++ #[] }) w2:=by
  intro fv cv hf'
  simp only [execOp,hdf,resolve,hf',Deferred.ofValue,Sem.run_bind,Sem.run_pure,Result.andThen_ok,List.map_toArray,List.map_nil]
 have hv':Rep g2 w2 (.fn (.func fid) first cap) (a2.eval (.tmp t)):=hv
 generalize a2.eval (.tmp t)=vf at hv' hex
 cases hv' with
 | fn _ _ _ fv cv l1' l2' r3 r4=>
  unfold Oper.wp
  rw [hex _ _ rfl,Oper.upon_defer,hdd]
  refine hK _ _ ?_
  refine wpList_nil ?_
  have hd0:a2.defers=[]:=sm2.defers
  rw [hd0]
  have sm3:=sm2.defer (ds:=[{ target := .fn (.func fid) cv.toArray,args:=fv.toArray ++ #[] }])
  show (Code.wp P y _ _ _)
  refine wp_mono (hY _ rfl g2 l2 _ w2 (sm3.anew rfl)) ?_
  rintro ex a4 w4 ⟨pe,s4,g4,l4,hq,er,sm4⟩
  have hd4:a4.defers=[{ target := .fn (.func fid) cv.toArray,args:=fv.toArray ++ #[] }]:=sm4.defers
  have hargs:(fv.toArray ++ #[])++cv.toArray=(fv++cv).toArray:=by apply Array.ext'; simp
  have hinv:(invoke (.fn (.func fid) cv.toArray) (fv.toArray ++ #[])).run P w4 = .ok (.enter fid (fv++cv).toArray) w4:=by
   simp only [invoke,hargs,run_callFunc hfn]
  have hall:RepAll g4 w4 (first++cap) (fv++cv):=(RepAll.app ⟨l1',r3⟩ ⟨l2',r4⟩).mono sm4.hist.mono
  have fin:∀ {e':Ext} {g5:Gh} {l5:LG} {w5:World} {q:PV},After g4 (lx l4) w4 e' g5 l5 w5->resP P { s4 with ext:=e' } fn.results.toList=some q->R (.ret q) e' ->
    ∃v,(results fn a4.tmps).run P w5 = .ok v w5/\∃res e' g' l',R res e'/\ResOK g' l' (fun b=>w.heap.size<=b∨(l.O b).isSome=true) w5 res (.returned v)/\After g l w e' g' l' w5:=by
   intro e' g5 l5 w5 q haf hq hR
   obtain ⟨h1,h2,h3,h4,h5,h6,h7,h8⟩:=haf
   have sm5:=sm4.back h1 h2 h3 h4 h5 h6 h7 h8
   have sm6:=sm2.rebase sm5
   obtain ⟨v,v1,v2⟩:=resP_sound sm6 hq
   exact ⟨v,v1,.ret q,e',g5,_,hR,v2,sm6.after⟩
  have norm:CallCD P fid (first++cap) s4.ext .ret (fun m e'=>m = .ret/\∃q,resP P { s4 with ext:=e' } fn.results.toList=some q/\R (.ret q) e')->Leaves P fn a4.tmps (fun en w'=>∃res e' g' l',R res e'/\ResOK g' l' (fun b=>w.heap.size<=b∨(l.O b).isSome=true) w' res en/\After g l w e' g' l' w') a4.defers .returning w4:=by
   intro hC
   rw [hd4]
   refine leaves_cons sM hinv ((hC _ g4 (lx l4) w4 .returning hall sm4.ent rfl).mono ?_)
   rintro en u' w5 ⟨v,m',e',g5,l5,rfl,⟨rfl,q,hq,hR⟩,hpm,haf⟩
   have hu:u' = .returning:=hpm
   subst hu
   exact fin haf hq hR
  cases pe with
  | normal=>
   cases ex <;> first | exact er.elim | skip
   exact norm hq
  | ret=>
   cases ex <;> first | exact er.elim | skip
   exact norm hq
  | exit _=>exact hq.elim
  | panic p=>
   cases ex <;> first | exact er.elim | skip
   obtain ⟨v,rfl,hv⟩:=er
   show Leaves P fn a4.tmps _ a4.defers _ w4
   rw [hd4]
   refine leaves_cons sM hinv ((hq _ g4 (lx l4) w4 _ hall sm4.ent ⟨v,rfl,hv⟩).mono ?_)
   rintro en u' w5 ⟨v,m',e',g5,l5,rfl,⟨rfl,q,hq,hR⟩,⟨v',hu⟩,haf⟩
   subst hu
   exact fin haf hq hR
def seqs:List Code->Code->Code
 | [],c=>c
 | x::r,c => .seq x (seqs r c)
def PWs(P:Program)(cx:Cx):List Code->S->(S->Prop)->Prop
 | [],s,K=>K s
 | x::r,s,K=>PW P cx x s fun pe s'=>pe = .normal/\PWs P cx r s' K
theorem wp_pre{rest:Code}{Qc:Exit->Act->World->Prop}{cx:Cx}{K:S->Prop}:∀ {xs:List Code} {s:S},PWs P cx xs s K->(∀s' g l a w,K s'->Sim cx s' g l a w->rest.wp P Qc a w)->∀g l a w,Sim cx s g l a w->(seqs xs rest).wp P Qc a w
 | [],s,h,hr=>fun g l a w hs=>hr s g l a w h hs
 | x::r,s,h,hr=>fun g l a w hs=>by
  refine wp_seq (wp_mono (h g l a w hs) ?_)
  rintro ex a1 w1 ⟨pe,s1,g1,l1,⟨rfl,hw⟩,er,sm1⟩
  cases ex <;> first | exact er.elim | skip
  exact wp_pre hw hr g1 l1 a1 w1 sm1
theorem CallC.enterDs{f:FuncId}{fn:Func}{r0:List Code}{y:Code}{id:Nat}{mk df:Oper}{t:Nat}{ts:Array TypeId}{ps:List PV}{e:Ext}{R:CRes->Ext->Prop}(ro:TypeId->Option Bool)(hf:P.funcs[f]?=some fn)
  (hb:fn.body=some (seqs r0 (.seq (.region id #[mk,df] false) y))) (hn:ps.length<=fn.ntmps) (hdf:df.op = .defer ⟨.value (.tmp t),#[],ts⟩) (hgm:mk.guard=none) (hgd:df.guard=none) (hdd:df.dst=none)
  (h:∀cx:Cx,cx.n=fn.ntmps->cx.ds=[]->PWs P cx r0 (enterS ps e) fun s=>(act P ro fn.ntmps [mk,df] mk).wp s fun wr=>∃fid first cap,lk (s.wrs wr).tmps t=some (.v (.fn (.func fid) first cap))/\isFn P fid=true /\
   ∀cx':Cx,cx'.n=fn.ntmps->PW P cx' y (s.wrs wr) (endD P fn.results.toList R fid (first++cap))):CallC P f ps e R:=by
 intro vs g l w ha he
 refine calls_of_wp_defers hf hb ?_
 have hs:=Sim.enter (n:=fn.ntmps) ha he hn
 refine wp_pre (h _ rfl rfl) (fun s1 g1 l1 a1 w1 hw sm1=>?_) g l _ w hs
 refine wp_seq ?_
 refine wp_region_lit (l:=[mk,df]) ?_
 refine wpList_plain hgm fun K hK=>?_
 refine upon_mono ?_ (act_sound sm1 hw _)
 rintro a2 w2 ⟨wr,g2,l2,⟨fid,first,cap,hlk,hfn,hY⟩,sm2⟩
 refine hK _ _ ?_
 refine wpList_plain hgd fun K hK=>?_
 have hv:=sm2.tm t _ hlk
 have hex:∀fv cv,a2.eval (.tmp t) = .func (.func fid) fv cv->(execOp a2.eval df).run P w2 = .ok (.defer { target := .fn (.func fid) cv,args:=fv ++ #[] }) w2:=by
  intro fv cv hf'
  simp only [execOp,hdf,resolve,hf',Deferred.ofValue,Sem.run_bind,Sem.run_pure,Result.andThen_ok,List.map_toArray,List.map_nil]
 have hv':Rep g2 w2 (.fn (.func fid) first cap) (a2.eval (.tmp t)):=hv
 generalize a2.eval (.tmp t)=vf at hv' hex
 cases hv' with
 | fn _ _ _ fv cv l1' l2' r3 r4=>
  unfold Oper.wp
  rw [hex _ _ rfl,Oper.upon_defer,hdd]
  refine hK _ _ ?_
  refine wpList_nil ?_
  have hd0:a2.defers=[]:=sm2.defers
  rw [hd0]
  have sm3:=sm2.defer (ds:=[{ target := .fn (.func fid) cv.toArray,args:=fv.toArray ++ #[] }])
  show (Code.wp P y _ _ _)
  refine wp_mono (hY _ rfl g2 l2 _ w2 (sm3.anew rfl)) ?_
  rintro ex a4 w4 ⟨pe,s4,g4,l4,hq,er,sm4⟩
  have hd4:a4.defers=[{ target := .fn (.func fid) cv.toArray,args:=fv.toArray ++ #[] }]:=sm4.defers
  have hargs:(fv.toArray ++ #[])++cv.toArray=(fv++cv).toArray:=by apply Array.ext'; simp
  have hinv:(invoke (.fn (.func fid) cv.toArray) (fv.toArray ++ #[])).run P w4 = .ok (.enter fid (fv++cv).toArray) w4:=by
   simp only [invoke,hargs,run_callFunc hfn]
  have hall:RepAll g4 w4 (first++cap) (fv++cv):=(RepAll.app ⟨l1',r3⟩ ⟨l2',r4⟩).mono sm4.hist.mono
  have fin:∀ {e':Ext} {g5:Gh} {l5:LG} {w5:World} {q:PV},After g4 (lx l4) w4 e' g5 l5 w5->resP P { s4 with ext:=e' } fn.results.toList=some q->R (.ret q) e' ->
    ∃v,(results fn a4.tmps).run P w5 = .ok v w5/\∃res e' g' l',R res e'/\ResOK g' l' (fun b=>w.heap.size<=b∨(l.O b).isSome=true) w5 res (.returned v)/\After g l w e' g' l' w5:=by
   intro e' g5 l5 w5 q haf hq hR
   obtain ⟨h1,h2,h3,h4,h5,h6,h7,h8⟩:=haf
   have sm5:=sm4.back h1 h2 h3 h4 h5 h6 h7 h8
   have sm6:=sm2.rebase sm5
   obtain ⟨v,v1,v2⟩:=resP_sound sm6 hq
   exact ⟨v,v1,.ret q,e',g5,_,hR,v2,sm6.after⟩
  have norm:CallCD P fid (first++cap) s4.ext .ret (fun m e'=>m = .ret/\∃q,resP P { s4 with ext:=e' } fn.results.toList=some q/\R (.ret q) e')->Leaves P fn a4.tmps (fun en w'=>∃res e' g' l',R res e'/\ResOK g' l' (fun b=>w.heap.size<=b∨(l.O b).isSome=true) w' res en/\After g l w e' g' l' w') a4.defers .returning w4:=by
   intro hC
   rw [hd4]
   refine leaves_cons sM hinv ((hC _ g4 (lx l4) w4 .returning hall sm4.ent rfl).mono ?_)
   rintro en u' w5 ⟨v,m',e',g5,l5,rfl,⟨rfl,q,hq,hR⟩,hpm,haf⟩
   have hu:u' = .returning:=hpm
   subst hu
   exact fin haf hq hR
  cases pe with
  | normal=>
   cases ex <;> first | exact er.elim | skip
   exact norm hq
  | ret=>
   cases ex <;> first | exact er.elim | skip
   exact norm hq
  | exit _=>exact hq.elim
  | panic p=>
   cases ex <;> first | exact er.elim | skip
   obtain ⟨v,rfl,hv⟩:=er
   show Leaves P fn a4.tmps _ a4.defers _ w4
   rw [hd4]
   refine leaves_cons sM hinv ((hq _ g4 (lx l4) w4 _ hall sm4.ent ⟨v,rfl,hv⟩).mono ?_)
   rintro en u' w5 ⟨v,m',e',g5,l5,rfl,⟨rfl,q,hq,hR⟩,⟨v',hu⟩,haf⟩
   subst hu
   exact fin haf hq hR
theorem CallCD.enter{f:FuncId}{fn:Func}{id:Nat}{o0 o1:Oper}{y:Code}{t0 t1:Nat}{ts:Array TypeId}{ps:List PV}{e:Ext}{m:PM}{R:PM->Ext->Prop}(hf:P.funcs[f]?=some fn)
  (hb:fn.body=some (.seq (.region id #[o0,o1] false) y)) (hn:ps.length<=fn.ntmps) (h0:o0.op = .call ⟨.builtin .recover,#[],ts⟩) (hg0:o0.guard=none) (hd0:o0.dst=some t0) (h1:o1.op = .assign (.tmp t0)) (hg1:o1.guard=none) (hd1:o1.dst=some t1)
  (hn0:t0<fn.ntmps) (hn1:t1<fn.ntmps) (p:PV) (m':PM) (hm:(m = .ret/\p = .nilif/\m' = .ret)∨(m = .pan p/\m' = .rcv))
  (h:∀cx:Cx,cx.n=fn.ntmps->cx.ds=[]->PW P cx y ⟨put (put (argT 0 ps) t0 (.v p)) t1 (.v p),[],e⟩ fun pe s=>(pe = .normal∨pe = .ret)/\(∃q,resP P s fn.results.toList=some q)/\R m' s.ext):CallCD P f ps e m R:=by
 intro vs g l w u ha he hu
 refine callsD_of_wpS hf hb fun c₀ cs hc₀=>?_
 have hs:=Sim.enter (n:=fn.ntmps) ha he hn
 obtain ⟨v,u',hv,hpm,hrec⟩:∃v u',Rep g w p v/\(∀g' w',PMOK g' w' m' u')/\((recoverD (c₀::cs)=none/\v = .nilIface/\u'=u)∨recoverD (c₀::cs)=some (v,{ c₀ with mode:=u' }::cs)):=by
  rcases hm with ⟨rfl,rfl,rfl⟩ | ⟨rfl,rfl⟩
  ·have hu':u = .returning:=hu
   subst hu'
   exact ⟨.nilIface,.returning,.nilif,fun _ _=>rfl,.inl ⟨by simp [recoverD,hc₀],rfl,rfl⟩⟩
  ·obtain ⟨v,rfl,hv⟩:=hu
   exact ⟨v,.panicking [{ v,recovered:=true }],hv,fun _ _=>⟨v,rfl⟩,.inr (by simp [recoverD,hc₀])⟩
 have hcs:({ c₀ with mode:=u }:Frame)=c₀:=by rw [<-hc₀]
 refine wpS_seq (wpS_region ?_)
 have hr0:∀ (a:Act) (w:World),(execOp a.eval o0).run P w = .ok .recover w:=fun a w=>by simp [execOp,h0,resolve,invoke,builtin]
 have hr1:∀ (a:Act) (w:World),(execOp a.eval o1).run P w = .ok (.value (a.eval (.tmp t0))) w:=fun a w=>by simp [execOp,h1]
 have s1:=hs.set (d:=t0) (lv := .v p) (v:=v) hn0 hv
 have ev0:(Act.put { tmps:=vs.toArray++Array.replicate (fn.ntmps - vs.toArray.size) undef,defers:=[] } (some t0) v).eval (.tmp t0)=v:=by
  have:=s1.size
  show (Act.put _ (some t0) v).tmps.getD t0 undef=v
  rw [eval_put _ t0 t0 v (by rw [hs.size]; exact hn0)]
  simp
 have s2:=s1.set (d:=t1) (lv := .v p) (v:=v) hn1 hv
 have fin:y.wpS P (bodyPostS P fn c₀ cs fun en u' w'=>∃v m' e' g' l',en = .returned v/\R m' e'/\PMOK g' w' m' u'/\After g l w e' g' l' w')
   ((Act.put { tmps:=vs.toArray++Array.replicate (fn.ntmps - vs.toArray.size) undef,defers:=[] } (some t0) v).put (some t1) v) ({ c₀ with mode:=u' }::cs) w:=by
  refine wpS_of_wp (wp_mono (h _ rfl rfl g l _ w s2) ?_)
  rintro ex a' w' ⟨pe,s',g',l',⟨hpe,⟨q,hq⟩,hR⟩,er,sm⟩
  obtain ⟨v',v1,v2⟩:=resP_sound sm hq
  have key:a'.defers=[]/\∃u'',({ c₀ with mode:=u' }::cs:List Frame)={ c₀ with mode:=u'' }::cs/\∃v,(results fn a'.tmps).run P w' = .ok v w'/\∃v0 m' e' g' l',(Ending.returned v) = .returned v0/\R m' e'/\PMOK g' w' m' u''/\After g l w e' g' l' w':=
   ⟨sm.defers,u',rfl,v',v1,v',m',s'.ext,g',lx l',rfl,hR,hpm _ _,sm.after⟩
  rcases hpe with rfl | rfl
  ·cases ex <;> first | exact er.elim | exact key
  ·cases ex <;> first | exact er.elim | exact key
 have hw0:Region.wanted o0=fun _=>true:=by funext y; simp [Region.wanted,hg0]
 have hw1:Region.wanted o1=fun _=>true:=by funext y; simp [Region.wanted,hg1]
 have hrange:List.range (#[o0,o1]:Array Oper).size=[0,1]:=rfl
 rw [hrange]
 have e0:(#[o0,o1]:Array Oper)[0]?=some o0:=rfl
 have e1:(#[o0,o1]:Array Oper)[1]?=some o1:=rfl
 rcases hrec with ⟨hrc,rfl,rfl⟩ | hrc
 ·rw [hcs] at fin
  simp only [wpOpsS,e0,e1,hw0,hw1,if_true,hr0,hr1,hrc,Oper.upon_value,hd0,hd1,Exit.thenS]
  rw [ev0]
  exact fin
 ·simp only [wpOpsS,e0,e1,hw0,hw1,if_true,hr0,hr1,hrc,Oper.upon_value,hd0,hd1,Exit.thenS]
  rw [ev0]
  exact fin
end
end Go.Pv
