/- Values of Go as plain data, an evaluator over them, and what the functions of the program return; part Xb. -/
import Derived.Test.YtidabncghfbdaaaGreatDoorXa
import Derived.Laws.Tables
import Derived.Laws.Slices
import Derived.Laws.Strings2
import Derived.DataElems
import Derived.Maps.RangeRun
set_option linter.unusedVariables false
set_option linter.unusedSimpArgs false
set_option linter.unusedSectionVars false
namespace Go.Pv
open Go.RowKit
section
variable {cx:Cx} {s t:S} {g:Gh} {l:LG} {a:Act} {w:World}
theorem Sim.leF(h:Sim cx s g l a w)(h1:∀k v,lk t.tmps k=some v->v = .junk∨∃u,lk s.tmps k=some u/\WL v u)(h2:∀k v,lk t.boxes k=some v->∃u,lk s.boxes k=some u/\WLs v u)
  (h3:∀k v,lk t.ext k=some v->∃u,lk s.ext k=some u/\WLs v u) (h4:cnt s.ext<=cnt t.ext:=by exact Nat.le_refl _):Sim cx t g l a w where
 hist:=h.hist
 size:=h.size
 defers:=h.defers
 tm k v hk:=by
  rcases h1 k v hk with rfl | ⟨_,hu,hw⟩
  ·trivial
  ·exact hw.rep (h.tm k _ hu)
 bx k v hk:=by
  obtain ⟨u,hu,hw⟩:=h2 k v hk
  obtain ⟨b,k1,k2,k3⟩:=h.bx k u hu
  exact ⟨b,k1,k2,k3.le hw⟩
 ex k v hk:=by
  obtain ⟨u,hu,hw⟩:=h3 k v hk
  obtain ⟨b,k1,k2,k3⟩:=h.ex k u hu
  exact ⟨b,k1.le hw,k2,k3.le hw⟩
 own:=h.own
 uo:=h.uo
 fresh:=⟨h.fresh.1,fun n hn=>h.fresh.2.1 n (Nat.le_trans h4 hn),fun n c hn=>h.fresh.2.2 n c (Nat.le_trans h4 hn)⟩
 xlt:=h.xlt
theorem same_le{α:Type}{W:α->α->Prop}(hW:∀x,W x x)(x:List (Nat × α)):∀k v,lk x k=some v->∃u,lk x k=some u/\W v u:=fun _ v h=>⟨v,h,hW v⟩
theorem Sim.congr(h:Sim cx s g l a w)(h1:∀k,lk t.tmps k=lk s.tmps k)(h2:∀k,lk t.boxes k=lk s.boxes k)(h3:∀k,lk t.ext k=lk s.ext k)(h4:cnt s.ext<=cnt t.ext:=by exact Nat.le_refl _):Sim cx t g l a w:=
 h.leF (fun k v e => .inr ⟨v,by rw [<-h1]; exact e,WL.refl v⟩) (fun k v e=>⟨v,by rw [<-h2]; exact e,WLs.refl v⟩) (fun k v e=>⟨v,by rw [<-h3]; exact e,WLs.refl v⟩) h4
def OpOK(P:Program)(cx:Cx)(s:S)(o:Oper)(K:List Wr->Prop)(a:Act)(w:World):Prop:=
 ∀Q,o.wp P a w (fun a' w'=>∃wr g' l',K wr/\Sim cx (s.wrs wr) g' l' a' w') Q
def wv(n:Nat)(o:Oper)(lv:LV):RM (List Wr):=match o.dst with
 | some d=>if d<n then .ret [.tmp d lv] else .fail
 | none => .ret []
theorem OpOK.value{P:Program}{o:Oper}{K:List Wr->Prop}{lv:LV}{v:Value}{g':Gh}{l':LG}{w':World}(hw:(wv cx.n o lv).wp s K)(hs:Sim cx s g' l' a w')
  (hr:∀d,RepL g' l' w' (.t d) lv v) (hrun:(execOp a.eval o).run P w = .ok (.value v) w'):OpOK P cx s o K a w:=by
 intro Q
 unfold Oper.wp
 rw [hrun,Oper.upon_value]
 unfold wv at hw
 split at hw
 ·rename_i d hd
  split at hw
  ·rename_i hlt
   refine ⟨_,g',l',hw,?_⟩
   rw [hd]
   exact hs.set hlt (hr d)
  ·exact hw.elim
 ·rename_i hd
  refine ⟨_,g',l',hw,?_⟩
  rw [hd]
  exact hs
def feeds:List Oper->Nat->Bool
 | [],_=>false
 | o::r,d=>(match o.op with
  | .call { callee := .builtin .append,args,.. }=>(match args.toList with | .tmp t::_=>t==d | _=>false)
  | .assign (.tmp t)=>t==d
  | .slice _ (.tmp t) (some _) none none=>(match o.dst with | some d'=>t==d&&feeds r d' | none=>false)
  | _=>false)||feeds r d
def mv(n:Nat)(ops:List Oper)(o:Oper)(take:Bool)(x:Operand):RM (List Wr):=match x with
 | .tmp t => .getT t fun lv=>match lv,o.dst with
  | .uniq e z es,some d=>if d<n/\t≠d then (if e<1000000 then (if take||feeds ops d then .ret [.tmp t (.v (.sl z es)),.tmp d (.uniq e z es)] else .ret [.tmp d (.v (.sl z es))]) else .ret [.tmp t .junk,.tmp d (.uniq e z es)]) else .fail
  | .uniq _ _ _,none => .fail
  | lv,_=>wv n o lv
 | x=>ev x fun lv=>match lv with
  | .uniq _ _ _ => .fail
  | lv=>wv n o lv
theorem noU_put{t:Nat}{lv:LV}(h:∀e z es,lv ≠ .uniq e z es):noU { s with tmps:=put s.tmps t lv } (.t t):=fun e z es he=>by
 rw [lk_put_same] at he
 injection he with he
 exact h e z es he
theorem Sim.take(h:Sim cx s g l a w){t d:Nat}{e:TypeId}{z:Nat}{es:List (List PV)}{lf:LV}(hlf:lf = .junk∨lf = .v (.sl z es)/\e<1000000)(hd:d<cx.n)(hne:t≠d)(ht:lk s.tmps t=some (.uniq e z es)) :
  ∃l',Sim cx { s with tmps:=put (put s.tmps t lf) d (.uniq e z es) } g l' (a.put (some d) (a.tmps.getD t undef)) w:=by
 have hr:=h.tm t _ ht
 have hlu:∀e z es,lf ≠ .uniq e z es:=by rintro e z es rfl; rcases hlf with h | ⟨h,-⟩ <;> cases h
 have h1:Sim cx { s with tmps:=put (put s.tmps t lf) d .junk } g l a w:=by
  refine h.leF (fun k v hk=>?_) (same_le WLs.refl _) (same_le WLs.refl _)
  simp only [lk_put] at hk
  split at hk
  ·injection hk with hk
   exact .inl hk.symm
  ·split at hk
   ·rename_i e0
    subst e0
    injection hk with hk
    subst hk
    rcases hlf with rfl | ⟨rfl,hlt⟩
    ·exact .inl rfl
    ·exact .inr ⟨_,ht,.inr ⟨rfl,wlE hlt⟩⟩
   ·exact .inr ⟨v,hk,WL.refl v⟩
 obtain ⟨l',h2,h3,-⟩:=h1.transfer (p := .t t) (q := .t d) hr (fun e z es he=>by simp only [lk_put,iN (Ne.symm hne),if_true] at he; injection he with he; exact hlu _ _ _ he)
  (fun e z es he=>by simp only [lk_put,if_true] at he; injection he with he; cases he)
 refine ⟨l',(h2.set hd h3).congr (fun k=>?_) (fun _=>rfl) (fun _=>rfl)⟩
 simp only [lk_put]
 split <;> rfl
theorem mv_sound{P:Program}{ops:List Oper}{o:Oper}{K:List Wr->Prop}{tk:Bool}{x:Operand}(h:Sim cx s g l a w)(hw:(mv cx.n ops o tk x).wp s K)
  (hrun:(execOp a.eval o).run P w = .ok (.value (a.eval x)) w):OpOK P cx s o K a w:=by
 unfold mv at hw
 split at hw
 ·rename_i t
  simp only [RM.wp] at hw
  split at hw
  ·rename_i lv hlv
   have hr:=h.tm t lv hlv
   split at hw
   ·rename_i e z es d hd
    split at hw
    ·rename_i hc
     split at hw
     ·rename_i hlt
      split at hw
      ·intro Q
       unfold Oper.wp
       rw [hrun,Oper.upon_value,hd]
       obtain ⟨l',h2⟩:=h.take (.inr ⟨rfl,hlt⟩) hc.1 hc.2 hlv
       exact ⟨_,g,l',hw,h2⟩
      ·refine OpOK.value (lv := .v (.sl z es)) (v:=a.eval (.tmp t)) ?_ h (fun d=>toP_rep (toP_u hlt) hr) hrun
       unfold wv
       rw [hd]
       simp only [hc.1,if_true]
       exact hw
     ·intro Q
      unfold Oper.wp
      rw [hrun,Oper.upon_value,hd]
      obtain ⟨l',h2⟩:=h.take (.inl rfl) hc.1 hc.2 hlv
      exact ⟨_,g,l',hw,h2⟩
    ·exact hw.elim
   ·exact hw.elim
   ·rename_i lv1 lv2 x2 hn1 hnu
    refine OpOK.value hw h (fun d=>?_) hrun
    refine hr.free ?_
    cases lv1 with
    | uniq e z es=>
     cases hdst:o.dst with
     | none=>exact (hnu e z es rfl hdst).elim
     | some d=>exact (hn1 e z es d rfl hdst).elim
    | _=>rfl
  ·exact hw.elim
 ·obtain ⟨lv,u,h1,h2,h3⟩:=ev_sound h hw
  split at h1
  ·exact h1.elim
  ·rename_i hnu
   refine OpOK.value h1 h (fun d=>?_) hrun
   refine h2.free ?_
   cases lv with
   | uniq e z es=>exact (hnu e z es rfl).elim
   | _=>rfl
end
section
variable {P:Program} {cx:Cx} {s t:S} {g:Gh} {l:LG} {a:Act} {w:World} {o:Oper} {K:List Wr->Prop}
theorem OpOK.pure{p:PV}{v:Value}(h:Sim cx s g l a w)(hw:(wv cx.n o (.v p)).wp s K)(hr:Rep g w p v)(hrun:(execOp a.eval o).run P w = .ok (.value v) w):OpOK P cx s o K a w:=
 OpOK.value hw h (fun _=>hr) hrun
def bAnd(k:IntKind)(x y:Int):Int:=k.wrap (BitVec.ofInt k.bits x &&& BitVec.ofInt k.bits y).toNat
def binI(op:BinOp)(k:IntKind)(x y:Int):Option PV:=match op with
 | .add=>some (.int k (k.wrap (x+y)))
 | .sub=>some (.int k (k.wrap (x - y)))
 | .mul=>some (.int k (k.wrap (x * y)))
 | .eql=>some (.bool (x==y))
 | .neq=>some (.bool (x != y))
 | .lss=>some (.bool (decide (x<y)))
 | .leq=>some (.bool (decide (x<=y)))
 | .gtr=>some (.bool (decide (x>y)))
 | .geq=>some (.bool (decide (x>=y)))
 | .and=>some (.int k (bAnd k x y))
 | _=>none
def binS(op:BinOp)(x y:ByteArray):Option PV:=match op with
 | .eql=>some (.bool (x.toList==y.toList))
 | .neq=>some (.bool (!(x.toList==y.toList)))
 | .lss=>some (.bool (Op.bytesLess x.toList y.toList))
 | .leq=>some (.bool (Op.bytesLess x.toList y.toList||x.toList==y.toList))
 | .gtr=>some (.bool (!(Op.bytesLess x.toList y.toList||x.toList==y.toList)))
 | .geq=>some (.bool (!Op.bytesLess x.toList y.toList))
 | _=>none
def isEq:BinOp->Option Bool
 | .eql=>some true
 | .neq=>some false
 | _=>none
def eqP(P:Program)(t:TypeId)(cst:Bool)(p q:PV):Option Bool:=match P.underlying t,p,q with
 | some .bool,.bool x,.bool y=>some (x==y)
 | some (.pointer _),.nilp,.nilp=>some true
 | some (.pointer _),.nilp,.ro _ _=>some false
 | some (.pointer _),.nilp,.xp _ _=>some false
 | some (.pointer _),.ro _ _,.nilp=>some false
 | some (.pointer _),.xp _ _,.nilp=>some false
 | some (.interface _),.nilif,.nilif=>if cst then some true else none
 | some (.interface _),.nilif,.iface _ _=>some false
 | some (.interface _),.iface _ _,.nilif=>some false
 | some (.map _ _),.mpn,.mpn=>some true
 | some (.map _ _),.mp _,.mpn=>some false
 | some (.slice _),.nilsl,.nilsl=>some true
 | some (.slice _),.sl _ (_::_),.nilsl=>some false
 | some (.slice _),.xsl _ _ _,.nilsl=>some false
 | _,_,_=>none
def isConst:Operand->Bool
 | .const _=>true
 | _=>false
def actBin(P:Program)(n:Nat)(o:Oper)(op:BinOp)(ty:TypeId)(x y:Operand):RM (List Wr):=
 evP x fun p=>evP y fun q=>match p,q with
  | .int k i,.int k' j=>if k=k' then (match op with
    | .quo => .assume (decide (j≠0)) (wv n o (.v (.int k (k.wrap (i.tdiv j)))))
    | .rem => .assume (decide (j≠0)) (wv n o (.v (.int k (i.tmod j))))
    | op=>match binI op k i j with
     | some r=>wv n o (.v r)
     | none => .fail) else .fail
  | .str i,.str j=>match op with
   | .add => .assume (decide (i.size+j.size<=9223372036854775807)) (wv n o (.v (.str (i++j))))
   | op=>match binS op i j with
    | some r=>wv n o (.v r)
    | none => .fail
  | p,q=>match isEq op,eqP P ty (isConst x||isConst y) p q with
   | some pos,some b=>wv n o (.v (.bool (if pos then b else !b)))
   | _,_ => .fail
theorem ite_run{α:Type}{c:Prop} [Decidable c] {x y:Sem α} {r:Result α} (hx:x.run P w=r) (hy:y.run P w=r):(if c then x else y).run P w=r:=by
 split
 ·exact hx
 ·exact hy
theorem run_eqGuard_plain{op:BinOp}{ty:TypeId}{x y:Operand}{u v:Value}(h:¬(u = .nilIface/\v = .nilIface))(h':∀c d,¬(u = .agg c/\v = .agg d)):(eqGuard op ty x y u v).run P w = .ok () w:=by
 unfold eqGuard
 refine ite_run rfl ?_
 split
 ·exact absurd ⟨rfl,rfl⟩ h
 ·rename_i c d; exact absurd ⟨rfl,rfl⟩ (h' c d)
 ·rfl
theorem run_eqGuard_nil{op:BinOp}{ty:TypeId}{x y:Operand}(h:(isConst x||isConst y)=true):(eqGuard op ty x y .nilIface .nilIface).run P w = .ok () w:=by
 unfold eqGuard
 refine ite_run rfl ?_
 cases x <;> cases y <;> first | rfl | cases h
theorem equal_of{ty:TypeId}{u v:Value}{b:Bool}(h:∀d,(Op.equalIn (d+1) ty u v).run P w = .ok b w):(Op.equal ty u v).run P w = .ok b w:=h 9999
theorem eqP_sound{ty:TypeId}{x y:Operand}{p q:PV}{b:Bool}{u v:Value}{op:BinOp}{pos:Bool}(hb:eqP P ty (isConst x||isConst y) p q=some b)(hp:isEq op=some pos)(r1:Rep g w p u)(r2:Rep g w q v) :
    (eqGuard op ty x y u v).run P w = .ok () w/\(binOp op ty u v).run P w = .ok (.bool (if pos then b else !b)) w:=by
  have hbin:(∀k i,u ≠ .int k i)->(∀i,u ≠ .string i)->(∀k i,u ≠ .float k i)->(∀k i j,u ≠ .complex k i j)->(Op.equal ty u v).run P w = .ok b w->(binOp op ty u v).run P w = .ok (.bool (if pos then b else !b)) w:=by
    intro n1 n2 n3 n4 he
    cases op <;> simp [isEq] at hp <;> subst hp
    · unfold binOp
      split <;> simp_all
    · unfold binOp
      split <;> simp_all
  unfold eqP at hb
  cases hu:P.underlying ty with
  | none=>simp [hu] at hb
  | some d=>
    rw [hu] at hb
    split at hb
    all_goals first | (cases hb; done) | skip
    all_goals rename_i hd
    all_goals injection hd with hd
    all_goals subst hd
    all_goals cases r1
    all_goals cases r2
    all_goals first
      | (split at hb
         · rename_i hc
           injection hb with hb
           subst hb
           exact ⟨run_eqGuard_nil hc,hbin sM sM sM sM (equal_of fun d=>by simp only [Op.equalIn,Sem.run_bind,run_underlying hu,Result.andThen_ok]; rfl)⟩
         · cases hb)
      | (injection hb with hb
         subst hb
         exact ⟨run_eqGuard_plain sM sM,hbin sM sM sM sM (equal_of fun d=>by simp only [Op.equalIn,Sem.run_bind,run_underlying hu,Result.andThen_ok]; rfl)⟩)
theorem actBin_sound{op:BinOp}{ty yt:TypeId}{x y:Operand}(ho:o.op = .binOp op ty x y yt)(h:Sim cx s g l a w)(hw:(actBin P cx.n o op ty x y).wp s K):OpOK P cx s o K a w:=by
 obtain ⟨p,h1,r1⟩:=evP_sound h hw
 obtain ⟨q,h2,r2⟩:=evP_sound h h1
 clear hw h1
 have hex:∀v,(eqGuard op ty x y (a.eval x) (a.eval y)).run P w = .ok () w->(binOp op ty (a.eval x) (a.eval y)).run P w = .ok v w->(execOp a.eval o).run P w = .ok (.value v) w:=by
  intro v hg hv
  simp only [execOp,ho,Sem.run_bind,hg,Result.andThen_ok,hv,Sem.run_pure]
 generalize a.eval x=vx at r1 hex
 generalize a.eval y=vy at r2 hex
 split at h2
 ·rename_i k i k' j
  cases r1
  cases r2
  split at h2
  ·rename_i hk
   subst hk
   have hg:(eqGuard op ty x y (.int k i) (.int k j)).run P w = .ok () w:=run_eqGuard_plain sM sM
   split at h2
   ·have hj:=of_decide_eq_true h2.1; replace h2:=h2.2
    exact OpOK.pure h h2 (.int _ _) (hex _ hg (by simp [binOp,Op.intDiv,hj]))
   ·have hj:=of_decide_eq_true h2.1; replace h2:=h2.2
    exact OpOK.pure h h2 (.int _ _) (hex _ hg (by simp [binOp,Op.intDiv,hj]))
   ·split at h2
    ·rename_i r hr
     have key:∃v,(binOp op ty (.int k i) (.int k j)).run P w = .ok v w/\Rep g w r v:=by
      cases op <;> simp only [binI] at hr <;> first
       | (cases hr; done)
       | (injection hr with hr; subst hr; exact ⟨_,by simp only [binOp,Op.intArith,Op.intBits,Op.intCmp,bAnd,ne_eq,not_true_eq_false,if_false]; rfl,by constructor⟩)
     obtain ⟨v,hv,hrv⟩:=key
     exact OpOK.pure h h2 hrv (hex _ hg hv)
    ·exact h2.elim
  ·exact h2.elim
 ·rename_i i j
  cases r1
  cases r2
  have hg:(eqGuard op ty x y (.string i) (.string j)).run P w = .ok () w:=run_eqGuard_plain sM sM
  split at h2
  ·have hj:=of_decide_eq_true h2.1; replace h2:=h2.2
   refine OpOK.pure h h2 (.str _) (hex _ hg ?_)
   have hj':¬(((i.size+j.size:Nat):Int)>IntKind.i64.max):=by
    have:IntKind.i64.max=9223372036854775807:=rfl
    rw [this]
    omega
   simp only [binOp,Op.stringOp]
   rw [iN hj']
   rfl
  ·split at h2
   ·rename_i r hr
    have key:∃v,(binOp op ty (.string i) (.string j)).run P w = .ok v w/\Rep g w r v:=by
     cases op <;> simp only [binS] at hr <;> first
      | (cases hr; done)
      | (injection hr with hr; subst hr; exact ⟨_,by simp only [binOp,Op.stringOp]; rfl,by constructor⟩)
    obtain ⟨v,hv,hrv⟩:=key
    exact OpOK.pure h h2 hrv (hex _ hg hv)
   ·exact h2.elim
 ·split at h2
  ·rename_i pos b hp hb
   obtain ⟨k1,k2⟩:=eqP_sound hb hp r1 r2
   exact OpOK.pure h h2 (.bool _) (hex _ k1 k2)
  ·exact h2.elim
end
section
variable {P:Program} {cx:Cx} {s t:S} {g:Gh} {l:LG} {a:Act} {w:World} {o:Oper} {K:List Wr->Prop}
def actUn(n:Nat)(o:Oper)(op:UnOp)(x:Operand):RM (List Wr):=evP x fun p=>match op,p with
 | .not,.bool b=>wv n o (.v (.bool (!b)))
 | .neg,.int k i=>wv n o (.v (.int k (k.wrap (0 - i))))
 | _,_ => .fail
theorem actUn_sound{op:UnOp}{ty:TypeId}{x:Operand}(ho:o.op = .unOp op ty x)(h:Sim cx s g l a w)(hw:(actUn cx.n o op x).wp s K):OpOK P cx s o K a w:=by
 obtain ⟨p,h1,r1⟩:=evP_sound h hw
 have hex:∀v,(Op.unary op (a.eval x)).run P w = .ok v w->(execOp a.eval o).run P w = .ok (.value v) w:=by
  intro v hv
  simp only [execOp,ho,Sem.run_bind,hv,Result.andThen_ok,Sem.run_pure]
 generalize a.eval x=vx at r1 hex
 split at h1
 ·cases r1; exact OpOK.pure h h1 (.bool _) (hex _ rfl)
 ·cases r1; exact OpOK.pure h h1 (.int _ _) (hex _ rfl)
 ·exact h1.elim
def actConv(P:Program)(n:Nat)(o:Oper)(dst:TypeId)(x:Operand):RM (List Wr):=evP x fun p=>match intT P dst,p with
 | some k,.int _ i=>wv n o (.v (.int k (k.wrap i)))
 | _,_ => .fail
theorem intT_inv{ty:TypeId}{k:IntKind}(h:intT P ty=some k):P.underlying ty=some (.int k):=by
 unfold intT at h
 split at h
 ·rename_i hu; injection h with h; subst h; exact hu
 ·cases h
theorem actConv_sound{src dst:TypeId}{x:Operand}(ho:o.op = .convert src dst x)(hsrc:(P.underlying src).isSome=true)(h:Sim cx s g l a w)(hw:(actConv P cx.n o dst x).wp s K):OpOK P cx s o K a w:=by
 obtain ⟨p,h1,r1⟩:=evP_sound h hw
 have hex:∀v,(convert src dst (a.eval x)).run P w = .ok v w->(execOp a.eval o).run P w = .ok (.value v) w:=by
  intro v hv
  simp only [execOp,ho,Sem.run_bind,hv,Result.andThen_ok,Sem.run_pure]
 generalize a.eval x=vx at r1 hex
 split at h1
 ·rename_i k i hk
  cases r1
  obtain ⟨d,hd⟩:=Option.isSome_iff_exists.1 hsrc
  refine OpOK.pure h h1 (.int _ _) (hex _ ?_)
  simp only [convert,Sem.run_bind,run_underlying hd,run_underlying (intT_inv hk),Result.andThen_ok]
  rfl
 ·exact h1.elim
def notIface(P:Program)(t:TypeId):Bool:=match P.underlying t with
 | some (.interface _)=>false
 | some _=>true
 | none=>false
def actMkI(P:Program)(n:Nat)(o:Oper)(ty:TypeId)(x:Operand):RM (List Wr):=evP x fun p=>if notIface P ty=true then wv n o (.v (.iface ty p)) else .fail
theorem actMkI_sound{ty:TypeId}{x:Operand}(ho:o.op = .makeInterface ty x)(h:Sim cx s g l a w)(hw:(actMkI P cx.n o ty x).wp s K):OpOK P cx s o K a w:=by
 obtain ⟨p,h1,r1⟩:=evP_sound h hw
 split at h1
 ·rename_i hn
  refine OpOK.pure h h1 (.iface ty p _ r1) ?_
  unfold notIface at hn
  split at hn
  ·cases hn
  ·rename_i d hd hu
   simp only [execOp,ho,Instr.makeInterface,Sem.run_bind,run_underlying hu,Result.andThen_ok]
   rfl
  ·cases hn
 ·exact h1.elim
def actMkF(n:Nat)(o:Oper)(fn:Fn)(first captured:Array Operand):RM (List Wr):=evs first.toList fun ps=>evs captured.toList fun qs=>wv n o (.v (.fn fn ps qs))
theorem actMkF_sound{fn:Fn}{first captured:Array Operand}(ho:o.op = .makeFunc fn first captured)(h:Sim cx s g l a w)(hw:(actMkF cx.n o fn first captured).wp s K):OpOK P cx s o K a w:=by
 obtain ⟨ps,h1,r1⟩:=evs_sound h hw
 obtain ⟨qs,h2,r2⟩:=evs_sound h h1
 refine OpOK.pure h h2 (.fn fn ps qs _ _ r1.1 r2.1 r1.2 r2.2) ?_
 simp only [execOp,ho,Instr.makeFunc,Sem.run_bind,Sem.run_pure,Result.andThen_ok]
 congr 2
 simp [<-Array.toList_map]
def methT(P:Program)(t:TypeId)(name:String):Option FuncId:=match P.info? t with
 | some i=>match i.methods.find? (·.name==name) with
  | some m=>if m.path.toList.isEmpty=true then match m.func,P.underlying t with
    | some (_,false),some (.pointer _)=>none
    | some (f,false),some _=>some f
    | some (f,true),some (.pointer _)=>some f
    | _,_=>none
   else none
  | none=>none
 | none=>none
theorem run_nilAhead{t:TypeId}{name:String}{f:FuncId}{v:Value}(h:methT P t name=some f):(nilAhead (P.types.size+Made.depth) t v name).run P w = .ok (some false) w:=by
 unfold methT at h
 split at h
 ·rename_i i hi
  split at h
  ·rename_i m hm
   split at h
   ·rename_i hp
    have hp':m.path.toList=[]:=by simpa using hp
    have hd:P.types.size+Made.depth=(P.types.size+(Made.depth - 1))+1:=by
     have:0<Made.depth:=by decide
     omega
    rw [hd]
    split at h
    ·cases h
    ·rename_i f' u hn hf hu
     simp only [nilAhead,Sem.run_bind,typeInfo,run_program,Result.andThen_ok,hi,Sem.run_pure,hm,hp',followBlind,hf,run_underlying hu]
     cases u <;> first | (exact (hn _ rfl).elim) | (simp; done)
    ·rename_i f' hf hu
     simp [nilAhead,typeInfo,hi,hm,hp',followBlind,hf]
    ·cases h
   ·cases h
  ·cases h
 ·cases h
def actNil(P:Program)(n:Nat)(o:Oper)(x:Operand):RM (List Wr):=ev x fun lv=>match lv with
 | .v (.fn (.method name) (.iface t q::ps) qs)=>if (methT P t name).isSome=true then wv n o (.v (.fn (.method name) (.iface t q::ps) qs)) else .fail
 | .v (.fn (.method name) (.ifm t f q::ps) qs) => .assume (decide (methT P t name=some f)) (wv n o (.v (.fn (.method name) (.ifm t f q::ps) qs)))
 | .lp i off=>wv n o (.lp i off)
 | .v (.ro cs off)=>wv n o (.v (.ro cs off))
 | .v (.xp m off)=>wv n o (.v (.xp m off))
 | .v (.fn (.func f) ps qs)=>wv n o (.v (.fn (.func f) ps qs))
 | _ => .fail
theorem actNil_sound{x:Operand}(ho:o.op = .nilCheck x)(h:Sim cx s g l a w)(hw:(actNil P cx.n o x).wp s K):OpOK P cx s o K a w:=by
 obtain ⟨lv,u,h1,r1,-⟩:=ev_sound h hw
 have hex:∀v,v=a.eval x->(∃b,v = .pointer (some b))∨(∃f p q,v = .func (.func f) p q)->(execOp a.eval o).run P w = .ok (.value v) w:=by
  intro v hv hc
  subst hv
  simp only [execOp,ho]
  rcases hc with ⟨b,hb⟩ | ⟨f,p,q,hb⟩ <;> rw [hb] <;> rfl
 have hex2:∀t name f v fv (qv:Array Value),methT P t name=some f->a.eval x = .func (.method name) (Value.iface t v::fv).toArray qv->(execOp a.eval o).run P w = .ok (.value (.func (.method name) (Value.iface t v::fv).toArray qv)) w:=by
  intro t name f v fv qv hm hv
  have e0:(Value.iface t v::fv).toArray[0]?=some (.iface t v):=by simp
  simp only [execOp,ho,hv,e0,Sem.run_bind,run_program,Result.andThen_ok,run_nilAhead hm]
  simp
 generalize a.eval x=vx at r1 hex hex2
 split at h1
 ·rename_i name t q ps qs
  split at h1
  ·rename_i hm
   obtain ⟨f,hf⟩:=Option.isSome_iff_exists.1 hm
   refine OpOK.pure h h1 r1 ?_
   cases r1 with
   | fn _ _ _ fv cv l1 l2 r3 r4=>
    cases fv with
    | nil=>simp at l1
    | cons v0 fv=>
     have:=r3 0 sM sM
     simp only [List.getElem_cons_zero] at this
     cases this with
     | iface _ _ v hv=>exact hex2 t name f v fv _ hf rfl
  ·exact h1.elim
 ·rename_i name t f q ps qs
  obtain ⟨hd,h1⟩:=h1
  have hf:=of_decide_eq_true hd
  refine OpOK.pure h h1 r1 ?_
  cases r1 with
  | fn _ _ _ fv cv l1 l2 r3 r4=>
   cases fv with
   | nil=>simp at l1
   | cons v0 fv=>
    have:=r3 0 sM sM
    simp only [List.getElem_cons_zero] at this
    cases this with
    | ifm _ _ _ v hv=>exact hex2 t name f v fv _ hf rfl
 ·obtain ⟨b,hb,rfl⟩:=r1
  exact OpOK.value h1 h (fun _=>⟨b,hb,rfl⟩) (hex _ rfl (.inl ⟨_,rfl⟩))
 ·refine OpOK.pure h h1 r1 (hex _ rfl ?_)
  cases r1; exact .inl ⟨_,rfl⟩
 ·refine OpOK.pure h h1 r1 (hex _ rfl ?_)
  cases r1; exact .inl ⟨_,rfl⟩
 ·refine OpOK.pure h h1 r1 (hex _ rfl ?_)
  cases r1; exact .inr ⟨_,_,_,rfl⟩
 ·exact h1.elim
def actFA(P:Program)(n:Nat)(o:Oper)(ty:TypeId)(x:Operand)(f:Nat):RM (List Wr):=match foff P ty f with
 | some (fo,ft)=>match csz P ft with
  | some (_+1)=>ev x fun lv=>match lv with
   | .lp i off=>wv n o (.lp i (off+fo))
   | .v (.ro cs off)=>wv n o (.v (.ro cs (off+fo)))
   | .v (.xp m off)=>wv n o (.v (.xp m (off+fo)))
   | _ => .fail
  | _ => .fail
 | none => .fail
theorem foff_inv{ty:TypeId}{f fo:Nat}{ft:TypeId}(h:foff P ty f=some (fo,ft)):∃fs fd,P.underlying ty=some (.struct fs)/\fs[f]?=some fd/\fd.offset=fo/\fd.type=ft:=by
 unfold foff at h
 split at h
 ·rename_i fs hu
  simp only [Option.map_eq_some_iff,Prod.mk.injEq] at h
  obtain ⟨fd,h1,h2,h3⟩:=h
  exact ⟨fs,fd,hu,h1,h2,h3⟩
 ·cases h
theorem run_fieldAt{ty:TypeId}{f fo:Nat}{ft:TypeId}{m:Nat}(h:foff P ty f=some (fo,ft))(hs:csz P ft=some (m+1))(b off:Nat):(Instr.fieldAt ty (.pointer (some ⟨b,off,none⟩)) f).run P w = .ok (.pointer (some ⟨b,off+fo,none⟩)) w:=by
 obtain ⟨fs,fd,hu,hf,rfl,rfl⟩:=foff_inv h
 have hadd:(⟨b,off,none⟩:Addr).add fd.offset=⟨b,off+fd.offset,none⟩:=by unfold Addr.add; split <;> simp_all
 simp only [Instr.fieldAt,Sem.run_bind,run_underlying hu,Result.andThen_ok,hf,Instr.sureAddr,Sem.run_pure,fieldPlace,run_sizeOf hs]
 simp [hadd]
theorem actFA_sound{ty:TypeId}{x:Operand}{f:Nat}(ho:o.op = .fieldAddr ty x f)(h:Sim cx s g l a w)(hw:(actFA P cx.n o ty x f).wp s K):OpOK P cx s o K a w:=by
 unfold actFA at hw
 split at hw
 ·rename_i fo ft hfo
  split at hw
  ·rename_i m hm
   obtain ⟨lv,u,h1,r1,-⟩:=ev_sound h hw
   have hex:∀b off,a.eval x = .pointer (some ⟨b,off,none⟩)->(execOp a.eval o).run P w = .ok (.value (.pointer (some ⟨b,off+fo,none⟩))) w:=by
    intro b off hv
    simp only [execOp,ho,hv,Sem.run_bind,run_fieldAt hfo hm,Result.andThen_ok,Sem.run_pure]
   generalize a.eval x=vx at r1 hex
   split at h1
   ·obtain ⟨b,hb,rfl⟩:=r1
    exact OpOK.value h1 h (fun _=>⟨b,hb,rfl⟩) (hex _ _ rfl)
   ·cases r1 with
    | ro _ off' b oo vs hc hf h1' hr=>
     have:=hex b _ rfl
     rw [Nat.add_assoc] at this
     exact OpOK.pure h h1 (.ro _ _ b oo vs hc hf h1' hr) this
   ·cases r1 with
    | xp _ off b hx=>exact OpOK.pure h h1 (.xp _ _ b hx) (hex _ _ rfl)
   ·exact h1.elim
  ·exact hw.elim
 ·exact hw.elim
def segP(P:Program)(ty:TypeId)(cs:List PV)(off:Nat):Option PV:=match aggT P ty with
 | some true=>match csz P ty with
  | some m=>if off+m<=cs.length then some (.agg ((cs.drop off).take m)) else none
  | none=>none
 | some false=>cs[off]?
 | none=>none
theorem segP_part{ty:TypeId}{cs:List PV}{off:Nat}{p:PV}{vs:List Value}(h:segP P ty cs off=some p)(hr:RepAll g w cs vs)(ho:∀v∈vs,v.oneCell'=true):∃v,(part ty vs.toArray off).run P w = .ok v w/\Rep g w p v:=by
 unfold segP at h
 split at h
 ·rename_i ha
  split at h
  ·rename_i m hm
   split at h
   ·rename_i hle
    injection h with h
    subst h
    refine ⟨.agg ((vs.drop off).take m).toArray,?_,?_⟩
    ·simp only [part,Sem.run_bind,run_isAgg ha,Result.andThen_ok,if_true,run_sizeOf hm,Sem.run_pure]
     congr 2
     apply Array.ext'
     simp [List.extract_eq_take_drop]
    ·refine .agg _ _ (by simp [hr.1]) (fun v hv=>ho v (List.mem_of_mem_drop (List.mem_of_mem_take hv))) fun j hj hj'=>?_
     simp only [List.getElem_take,List.getElem_drop]
     exact hr.2 _ _ _
   ·cases h
  ·cases h
 ·rename_i ha
  have hlt:=(List.getElem?_eq_some_iff.1 h).1
  have hlt':off<vs.length:=by rw [<-hr.1]; exact hlt
  refine ⟨vs[off],?_,?_⟩
  ·simp [part,run_isAgg ha,List.getElem?_eq_getElem hlt']
  ·have:=hr.2 off hlt hlt'
   rw [List.getElem?_eq_getElem hlt] at h
   injection h with h
   rw [<-h]; exact this
 ·cases h
def actField(P:Program)(n:Nat)(o:Oper)(ty:TypeId)(x:Operand)(f:Nat):RM (List Wr):=match foff P ty f with
 | some (fo,ft)=>evP x fun p=>match p with
  | .agg cs=>match segP P ft cs fo with
   | some q=>wv n o (.v q)
   | none => .fail
  | _ => .fail
 | none => .fail
theorem actField_sound{ty:TypeId}{x:Operand}{f:Nat}(ho:o.op = .field ty x f)(h:Sim cx s g l a w)(hw:(actField P cx.n o ty x f).wp s K):OpOK P cx s o K a w:=by
 unfold actField at hw
 split at hw
 ·rename_i fo ft hfo
  obtain ⟨p,h1,r1⟩:=evP_sound h hw
  obtain ⟨fs,fd,hu,hf,rfl,rfl⟩:=foff_inv hfo
  have hex:∀v vs,a.eval x = .agg vs->(part fd.type vs fd.offset).run P w = .ok v w->(execOp a.eval o).run P w = .ok (.value v) w:=by
   intro v vs hv hp
   simp only [execOp,ho,hv,Instr.field,Sem.run_bind,run_underlying hu,Result.andThen_ok,hf,asAgg,Sem.run_pure,hp]
  generalize a.eval x=vx at r1 hex
  split at h1
  ·rename_i cs
   split at h1
   ·rename_i q hq
    cases r1 with
    | agg _ vs hl hone hr=>
     obtain ⟨v,k1,k2⟩:=segP_part (P:=P) hq ⟨hl,hr⟩ hone
     exact OpOK.pure h h1 k2 (hex _ _ rfl k1)
   ·exact h1.elim
  ·exact h1.elim
 ·exact hw.elim
def slOf:LV->Option (Nat × List (List PV))
 | .v (.sl z es)=>some (z,es)
 | .uniq e z es=>if e<1000000 then some (z,es) else none
 | .full z es=>some (z,es)
 | _=>none
theorem slOf_toP{lv:LV}{z:Nat}{es:List (List PV)}(h:slOf lv=some (z,es)):toP lv=some (.sl z es):=by
 unfold slOf at h
 split at h
 ·injection h with h; injection h with h1 h2; subst h1 h2; rfl
 ·split at h
  ·rename_i hlt
   injection h with h; injection h with h1 h2; subst h1 h2; exact iP hlt
  ·cases h
 ·injection h with h; injection h with h1 h2; subst h1 h2; rfl
 ·cases h
def xslOf:LV->Option (Nat × Nat × Nat)
 | .v (.xsl x z len)=>some (x,z,len)
 | _=>none
def yslOf:LV->Option (Nat × Nat × Nat)
 | .v (.ysl x c len)=>some (x,c,len)
 | _=>none
def actIA(P:Program)(n:Nat)(o:Oper)(ty:TypeId)(x i:Operand):RM (List Wr):=match (elemT P ty).bind (csz P) with
 | some (m+1)=>ev x fun lv=>evP i fun q=>match yslOf lv,xslOf lv,slOf lv,q with
  | some (x,c,len),_,_,.int _ j=>if m=0 then .assume (decide (0<=j/\j<len)) (wv n o (.v (.yp x c j.toNat))) else .fail
  | none,some (x,z,len),_,.int _ j=>if z=m+1 then .assume (decide (0<=j/\j<len)) (wv n o (.v (.xp x (j.toNat * (m+1))))) else .fail
  | none,none,some (z,es),.int _ j=>if z=m+1 then .assume (decide (0<=j/\j<es.length)) (wv n o (.v (.ro (es.getD j.toNat []) 0))) else .fail
  | _,_,_,_ => .fail
 | _ => .fail
theorem elemT_inv{ty e:TypeId}(h:elemT P ty=some e):P.underlying ty=some (.slice e):=by
 unfold elemT at h
 split at h
 ·rename_i hu; injection h with h; subst h; exact hu
 ·cases h
theorem Rep.elem{z:Nat}{es:List (List PV)}{a:Addr}{n cap i:Nat}(h:Rep g w (.sl z es) (.slice (some a) n cap))(hz:0<z)(hi:i<es.length):Rep g w (.ro es[i] 0) (.pointer (some (a.add (i * z)))):=by
 cases h with
 | sl _ _ _ _ vs hle hcap hsz hc hf h1 hr=>
  have h0:=hc i 0 hi hz
  have ha:=cell_add h0
  rw [Nat.add_zero] at ha
  rw [ha]
  refine .ro es[i] 0 a.block (a.off+i * z) (vs i) (fun j hj=>?_) (fun j hj=>?_) (fun j hj=>h1 i j hi (by rw [<-hsz i hi]; exact hj)) fun j hj=>hr i j hi hj
  ·have hj':j<z:=by rw [<-hsz i hi]; exact hj
   have:=hc i j hi hj'
   rw [cell_add this] at this
   rw [Nat.add_assoc]
   exact this
  ·have hj':j<z:=by rw [<-hsz i hi]; exact hj
   rw [Nat.add_assoc]
   exact hf i j hi hj'
theorem actIA_sound{ty:TypeId}{x i:Operand}(ho:o.op = .indexAddr ty x i)(h:Sim cx s g l a w)(hw:(actIA P cx.n o ty x i).wp s K):OpOK P cx s o K a w:=by
 unfold actIA at hw
 split at hw
 ·rename_i m hm
  simp only [Option.bind_eq_some_iff] at hm
  obtain ⟨e,he,hme⟩:=hm
  have hu:=elemT_inv he
  obtain ⟨lv,u,h1,r1,-⟩:=ev_sound h hw
  obtain ⟨q,h2,r2⟩:=evP_sound h h1
  have hex:∀b len cap k (j:Int),a.eval x = .slice (some b) len cap->a.eval i = .int k j->0<=j/\j<len->(execOp a.eval o).run P w = .ok (.value (.pointer (some (b.add (j.toNat * (m+1)))))) w:=by
   intro b len cap k j hx hi hj
   simp only [execOp,ho,hx,hi,Instr.indexAt,Sem.run_bind,asIntOf,Sem.run_pure,Result.andThen_ok,run_underlying hu]
   simp [hj,run_sizeOf hme]
  generalize a.eval x=vx at r1 hex
  generalize a.eval i=vi at r2 hex
  split at h2
  ·rename_i x c len k j hx
   split at h2
   case isFalse=>exact h2.elim
   rename_i hm0
   subst hm0
   have hj:=of_decide_eq_true h2.1; replace h2:=h2.2
   unfold yslOf at hx
   split at hx
   ·injection hx with hx
    simp only [Prod.mk.injEq] at hx
    obtain ⟨rfl,rfl,rfl⟩:=hx
    cases r2
    cases r1 with
    | ysl _ _ _ b cap cur e hb _ _ _ _=>
     refine OpOK.pure h h2 ?_ (hex _ _ _ _ _ rfl rfl hj)
     have:∀q,(⟨b,q,none⟩:Addr).add (j.toNat * (0+1))=⟨b,q+j.toNat * (0+1),none⟩:=fun q=>addr_add _ _ (by unfold Addr.add; split <;> rfl)
     rw [this,Nat.zero_add,Nat.zero_add,Nat.mul_one]
     exact .yp _ _ _ b hb
   ·cases hx
  ·rename_i x z len k j _ hx
   split at h2
   case isFalse=>exact h2.elim
   have hj:=of_decide_eq_true h2.1; replace h2:=h2.2
   unfold xslOf at hx
   split at hx
   ·injection hx with hx
    simp only [Prod.mk.injEq] at hx
    obtain ⟨rfl,rfl,rfl⟩:=hx
    cases r2
    cases r1 with
    | xsl _ _ _ b cap cur e hb _ _ _ _=>
     refine OpOK.pure h h2 ?_ (hex _ _ _ _ _ rfl rfl hj)
     have:∀q,(⟨b,q,none⟩:Addr).add (j.toNat * (m+1))=⟨b,q+j.toNat * (m+1),none⟩:=fun q=>addr_add _ _ (by unfold Addr.add; split <;> rfl)
     rw [this,Nat.zero_add]
     exact .xp _ _ b hb
   ·cases hx
  ·rename_i z es k j _ _ hsl
   split at h2
   ·rename_i hz
    have hj:=of_decide_eq_true h2.1; replace h2:=h2.2
    have r1':=toP_rep (slOf_toP hsl) r1
    cases r2
    have hjn:j.toNat<es.length:=by omega
    rw [List.getD_eq_getElem?_getD,List.getElem?_eq_getElem hjn] at h2
    subst hz
    have hne:es≠[]:=by rintro rfl; simp at hjn
    have hsh:∃b cap,vx = .slice (some b) es.length cap:=by
     cases r1' with
     | slnil=>exact absurd rfl hne
     | sl _ _ b cap _ _ _ _ _ _ _=>exact ⟨b,cap,rfl⟩
    obtain ⟨b,cap,rfl⟩:=hsh
    exact OpOK.pure h h2 (r1'.elem (Nat.succ_pos m) hjn) (hex _ _ _ _ _ rfl rfl hj)
   ·exact h2.elim
  ·exact h2.elim
 ·exact hw.elim
def isStrT(P:Program)(t:TypeId):Bool:=match P.underlying t with
 | some .string=>true
 | _=>false
def actEx(n:Nat)(o:Oper)(x:Operand)(i:Nat):RM (List Wr):=evP x fun p=>match p with
 | .tup vs=>match vs[i]? with
  | some q=>wv n o (.v q)
  | none => .fail
 | _ => .fail
theorem actEx_sound{x:Operand}{i:Nat}(ho:o.op = .extract x i)(h:Sim cx s g l a w)(hw:(actEx cx.n o x i).wp s K):OpOK P cx s o K a w:=by
 obtain ⟨p,h1,r1⟩:=evP_sound h hw
 have hex:∀v vs,a.eval x = .tuple vs->vs[i]?=some v->(execOp a.eval o).run P w = .ok (.value v) w:=by
  intro v vs hx hv
  simp [execOp,ho,hx,Instr.extract,hv]
 generalize a.eval x=vx at r1 hex
 split at h1
 ·rename_i ps
  split at h1
  ·rename_i q hq
   cases r1 with
   | tup _ vs hl hr=>
    have hlt:=(List.getElem?_eq_some_iff.1 hq).1
    have hlt':i<vs.length:=by rw [<-hl]; exact hlt
    rw [List.getElem?_eq_getElem hlt] at hq
    injection hq with hq
    have:=hr i hlt hlt'
    rw [hq] at this
    exact OpOK.pure h h1 this (hex _ _ rfl (by simp [List.getElem?_eq_getElem hlt']))
  ·exact h1.elim
 ·exact h1.elim
def lenS:LV->Option Nat
 | .v .nilsl=>some 0
 | .v (.xsl _ _ len)=>some len
 | .v (.ysl _ _ len)=>some len
 | lv=>(slOf lv).map (·.2.length)
def actLen(P:Program)(n:Nat)(o:Oper)(ty:TypeId)(x:Operand):RM (List Wr):=match elemT P ty with
 | some _=>ev x fun lv=>match lenS lv with
  | some k=>wv n o (.v (.int .i64 k))
  | none => .fail
 | none=>if isStrT P ty=true then evP x fun p=>match p with
   | .str b=>wv n o (.v (.int .i64 b.size))
   | _ => .fail
  else .fail
theorem actLen_sound{x:Operand}{ty:TypeId}(ho:o.op = .call { callee := .builtin .len,args:=#[x],argTypes:=#[ty] })(h:Sim cx s g l a w)(hw:(actLen P cx.n o ty x).wp s K):OpOK P cx s o K a w:=by
 have hex:∀k:Nat,(Builtin.len_ #[ty] o.type #[a.eval x]).run P w = .ok (.int .i64 k) w->(execOp a.eval o).run P w = .ok (.value (.int .i64 k)) w:=by
  intro k hv
  simp only [execOp,ho,resolve,invoke,builtin,Sem.run_bind,Sem.run_pure,Result.andThen_ok,List.map_toArray,List.map_cons,List.map_nil,hv]
 unfold actLen at hw
 split at hw
 ·rename_i e he
  have hu:=elemT_inv he
  obtain ⟨lv,u,h1,r1,-⟩:=ev_sound h hw
  generalize a.eval x=vx at r1 hex
  have key:∀b n c,(Builtin.len_ #[ty] o.type #[.slice b n c]).run P w = .ok (.int .i64 n) w:=by
   intro b n c
   simp [Builtin.len_,run_underlying hu,goInt]
  split at h1
  ·rename_i k hk
   refine OpOK.pure h h1 (.int _ _) (hex _ ?_)
   unfold lenS at hk
   split at hk
   ·injection hk with hk; subst hk; cases r1; exact key _ _ _
   ·injection hk with hk; subst hk; cases r1; exact key _ _ _
   ·injection hk with hk; subst hk; cases r1; exact key _ _ _
   ·simp only [Option.map_eq_some_iff] at hk
    obtain ⟨⟨z,es⟩,hs,rfl⟩:=hk
    have r1':=toP_rep (slOf_toP hs) r1
    cases r1' <;> exact key _ _ _
  ·exact h1.elim
 ·split at hw
  ·rename_i hst
   unfold isStrT at hst
   split at hst
   ·rename_i hu
    obtain ⟨p,h1,r1⟩:=evP_sound h hw
    generalize a.eval x=vx at r1 hex
    split at h1
    ·cases r1
     refine OpOK.pure h h1 (.int _ _) (hex _ ?_)
     simp [Builtin.len_,run_underlying hu,goInt]
    ·exact h1.elim
   ·cases hst
  ·exact hw.elim
def actPick(n:Nat)(o:Oper)(c x y:Operand):RM (List Wr):=evP c fun p=>match p with
 | .bool true=>evP x fun q=>wv n o (.v q)
 | .bool false=>evP y fun q=>wv n o (.v q)
 | _ => .fail
theorem actPick_sound{c x y:Operand}(ho:o.op = .pick c x y)(h:Sim cx s g l a w)(hw:(actPick cx.n o c x y).wp s K):OpOK P cx s o K a w:=by
 obtain ⟨p,h1,r1⟩:=evP_sound h hw
 have hex:∀b,a.eval c = .bool b->(execOp a.eval o).run P w = .ok (.value (if b then a.eval x else a.eval y)) w:=by
  intro b hc
  simp [execOp,ho,hc,asBool]
 generalize a.eval c=vc at r1 hex
 split at h1
 ·cases r1
  obtain ⟨q,h2,r2⟩:=evP_sound h h1
  exact OpOK.pure h h2 r2 (hex _ rfl)
 ·cases r1
  obtain ⟨q,h2,r2⟩:=evP_sound h h1
  exact OpOK.pure h h2 r2 (hex _ rfl)
 ·exact h1.elim
def actTA(P:Program)(n:Nat)(o:Oper)(x:Operand)(ty:TypeId)(ok:Bool):RM (List Wr):=if notIface P ty=true then evP x fun p=>match p with
  | .iface t q=>if t=ty then (if ok then wv n o (.v (.tup [q,.bool true])) else wv n o (.v q)) else .fail
  | _ => .fail
 else .fail
theorem actTA_sound{x:Operand}{xt ty:TypeId}{ok:Bool}(ho:o.op = .typeAssert x xt ty ok)(h:Sim cx s g l a w)(hw:(actTA P cx.n o x ty ok).wp s K):OpOK P cx s o K a w:=by
 unfold actTA at hw
 split at hw
 ·rename_i hn
  obtain ⟨p,h1,r1⟩:=evP_sound h hw
  have hex:∀v,a.eval x = .iface ty v->(execOp a.eval o).run P w = .ok (.value (if ok then .tuple #[v,.bool true] else v)) w:=by
   intro v hx
   unfold notIface at hn
   split at hn
   ·cases hn
   ·rename_i d hd hu
    simp only [execOp,ho,hx,Instr.typeAssert,Sem.run_bind,run_underlying hu,Result.andThen_ok]
    cases d <;> simp_all
   ·cases hn
  generalize a.eval x=vx at r1 hex
  split at h1
  ·rename_i t q
   split at h1
   ·rename_i ht
    subst ht
    cases r1 with
    | iface _ _ v hv=>
     cases ok with
     | true=>exact OpOK.pure h h1 (.tup [q,.bool true] [v,.bool true] rfl fun j hj hj'=>by
       match j,hj with
       | 0,_=>exact hv
       | 1,_=>exact .bool true) (hex _ rfl)
     | false=>exact OpOK.pure h h1 hv (hex _ rfl)
   ·exact h1.elim
  ·exact h1.elim
 ·exact hw.elim
end
section
variable {P:Program} {cx:Cx} {s t:S} {g:Gh} {l:LG} {a:Act} {w:World} {o:Oper} {K:List Wr->Prop}
def PV.cel:PV->Option (List PV)
 | .agg cs=>some cs
 | .tup _=>none
 | p=>some [p]
theorem cel_rep{p:PV}{v:Value}{cs:List PV}(h:p.cel=some cs)(hr:Rep g w p v):RepAll g w cs v.cells.toList/\∀u∈v.cells.toList,u.oneCell'=true:=by
 unfold PV.cel at h
 split at h
 ·injection h with h
  subst h
  cases hr with
  | agg _ vs hl ho hr=>exact ⟨⟨hl,hr⟩,ho⟩
 ·cases h
 ·rename_i n1 n2
  injection h with h
  subst h
  have hone:v.oneCell'=true:=hr.one (by cases p <;> first | rfl | exact absurd rfl (n1 _) | exact absurd rfl (n2 _))
  have:v.cells = #[v]:=by cases v <;> first | rfl | cases hone
  rw [this]
  exact ⟨.cons hr .nil,by simpa using hone⟩
theorem zro_inv{ty:TypeId}{zs:List PV}(h:zro P ty=some zs):∃i z,P.info? ty=some i/\i.zero=some z/\cvs z.cells.toList=some zs:=by
 unfold zro at h
 simp only [Option.bind_eq_some_iff] at h
 obtain ⟨z,⟨i,h1,h2⟩,h3⟩:=h
 exact ⟨i,z,h1,h2,h3⟩
theorem Sim.box(h:Sim cx s g l a w){d:Nat}(hd:d<cx.n)(cur:Array Value)(e:TypeId)(ps:List PV)(hr:RepAll g w ps cur.toList)(hone:∀u∈cur.toList,u.oneCell'=true) :
  ∃g' l',Sim cx (s.wrs [.newbox d ps,.tmp d (.lp d 0)]) g' l' (a.put (some d) (.pointer (some ⟨w.heap.size,0,none⟩))) (w.alloc (.cells cur e)):=by
 obtain ⟨h1,-⟩:=h.newbox d cur e ps hr hone
 exact ⟨_,_,h1.set hd ⟨w.heap.size,upd_same _ _ _,rfl⟩⟩
def actAlloc(P:Program)(n:Nat)(o:Oper)(ty:TypeId):RM (List Wr):=match zro P ty,o.dst with
 | some zs,some d=>if d<n then .ret [.newbox d zs,.tmp d (.lp d 0)] else .fail
 | _,_ => .fail
theorem actAlloc_sound{ty:TypeId}(ho:o.op = .alloc ty)(h:Sim cx s g l a w)(hw:(actAlloc P cx.n o ty).wp s K):OpOK P cx s o K a w:=by
 unfold actAlloc at hw
 split at hw
 ·rename_i zs d hz hd
  split at hw
  ·rename_i hlt
   obtain ⟨i,z,h1,h2,h3⟩:=zro_inv hz
   intro Q
   unfold Oper.wp
   have hrun:(execOp a.eval o).run P w = .ok (.value (.pointer (some ⟨w.heap.size,0,none⟩))) (w.alloc (.cells z.cells ty)):=by
    simp [execOp,ho,Instr.alloc,zeroValue,typeInfo,h1,h2,newVar,newRow]
   rw [hrun,Oper.upon_value,hd]
   obtain ⟨g',l',hs⟩:=h.box hlt z.cells ty zs (cvs_rep h3).1 (cvs_rep (g:=g) (w:=w) h3).2.1
   exact ⟨_,g',l',hw,hs⟩
  ·exact hw.elim
 ·exact hw.elim
def actBox(ro:TypeId->Option Bool)(n:Nat)(o:Oper)(ty:TypeId)(x:Operand):RM (List Wr):=evP x fun p=>match p.cel,o.dst with
 | some cs,some d=>if d<n then (match ro ty with | some true => .ret [.tmp d (.v (.ro cs 0))] | some false => .ret [.newbox d cs,.tmp d (.lp d 0)] | none => .fail) else .fail
 | _,_ => .fail
theorem actBox_sound{ro:TypeId->Option Bool}{ty:TypeId}{x:Operand}(ho:o.op = .box ty x)(h:Sim cx s g l a w)(hw:(actBox ro cx.n o ty x).wp s K):OpOK P cx s o K a w:=by
 obtain ⟨p,h1,r1⟩:=evP_sound h hw
 have hrun:(execOp a.eval o).run P w = .ok (.value (.pointer (some ⟨w.heap.size,0,none⟩))) (w.alloc (.cells (a.eval x).cells ty)):=by
  simp [execOp,ho,Instr.box,newVar,newRow]
 generalize a.eval x=vx at r1 hrun
 split at h1
 ·rename_i cs d hc hd
  obtain ⟨hr,hone⟩:=cel_rep hc r1
  split at h1
  ·rename_i hlt
   split at h1
   ·obtain ⟨h2,hm⟩:=h.alloc (.cells vx.cells ty)
    refine OpOK.value (lv := .v (.ro cs 0)) (by unfold wv; rw [hd]; simp only [hlt,if_true]; exact h1) h2 (fun _=>?_) hrun
    have hcell:∀j (hj:j<cs.length),(w.alloc (.cells vx.cells ty)).cell? ⟨w.heap.size,0+j,none⟩=some (vx.cells.getD j undef):=fun j hj=>by
     have:=heap_alloc_new w (.cells vx.cells ty)
     have hj':j<vx.cells.size:=by rw [<-Array.length_toList,<-hr.1]; exact hj
     simp only [World.cell?,this]
     simp [hj']
    refine .ro cs 0 w.heap.size 0 (fun j=>vx.cells.getD j undef) hcell (fun j hj k hk=>?_) (fun j hj=>?_) fun j hj=>?_
    ·rw [h.fresh.1 _ (Nat.le_refl _)] at hk; cases hk
    ·have hj':j<vx.cells.size:=by rw [<-Array.length_toList,<-hr.1]; exact hj
     refine hone _ ?_
     simp [hj']
    ·have hj':j<vx.cells.toList.length:=by rw [<-hr.1]; exact hj
     have:=(hr.2 j hj hj').mono hm
     have hj3:j<vx.cells.size:=by simpa using hj'
     simpa [hj3] using this
   ·intro Q
    unfold Oper.wp
    rw [hrun,Oper.upon_value,hd]
    obtain ⟨g',l',hs⟩:=h.box hlt vx.cells ty cs hr hone
    exact ⟨_,g',l',h1,hs⟩
   ·exact h1.elim
  ·exact h1.elim
 ·exact h1.elim
def plc(P:Program)(ty:TypeId):Option (List (Nat × Nat)):=match P.underlying ty with
 | some (.struct fs)=>fs.toList.mapM (fun f=>(P.info? f.type).map fun i=>(f.offset,i.size))
 | _=>none
def fillP(places:List (Nat × Nat))(cells:List PV):List (Nat × PV)->Option (List PV)
 | []=>some cells
 | (i,p)::r=>match places[i]?,p.cel with
  | some (off,size),some pc=>if pc.length=size/\off+size<=cells.length then fillP places (splice cells off pc) r else none
  | _,_=>none
theorem splice_set{α:Type}(cs:List α)(k:Nat)(v:α)(r:List α)(h:k+(r.length+1)<=cs.length):splice (cs.set k v) (k+1) r=splice cs k (v::r):=by
 apply List.ext_getElem?
 intro j
 rw [splice_get _ _ _ (by simp; omega),splice_get _ _ _ (by simpa using h)]
 by_cases hj:j=k
 ·subst hj
  rw [iN oM,iP sM]
  simp [show j<cs.length by omega]
 ·by_cases hj2:k+1<=j/\j<k+1+r.length
  ·rw [iP hj2,iP (by simp; omega)]
   rw [show j - k=(j - (k+1))+1 by omega]
   simp
  ·rw [iN hj2,iN (by simp; omega),List.getElem?_set_ne oM]
theorem zipIdx_fold(off:Nat):∀ (vs:List Value) (k:Nat) (cells:Array Value),off+k+vs.length<=cells.size ->
  ((vs.zipIdx k).foldl (fun (cs:Array Value) (x:Value × Nat)=>cs.setIfInBounds (off+x.2) x.1) cells).toList=splice cells.toList (off+k) vs
 | [],k,cells,_=>by simp [splice_eq cells.toList (off+k) [] (by simp; omega)]
 | v::r,k,cells,h=>by
  simp only [List.zipIdx_cons,List.foldl_cons]
  rw [zipIdx_fold off r (k+1) _ (by simp at h ⊢; omega)]
  simp only [Array.toList_setIfInBounds]
  exact splice_set cells.toList (off+k) v r (by simp at h ⊢; omega)
theorem RepAll.splice{cs ds:List PV}{vs us:List Value}{off:Nat}(h:RepAll g w cs vs)(k:RepAll g w ds us)(hf:off+ds.length<=cs.length):RepAll g w (Pv.splice cs off ds) (Pv.splice vs off us):=by
 have hf':off+us.length<=vs.length:=by rw [<-h.1,<-k.1]; exact hf
 rw [splice_eq _ _ _ hf,splice_eq _ _ _ hf']
 have hl:=h.1
 have kl:=k.1
 refine ⟨by simp [hl,kl],fun j hj hj'=>?_⟩
 simp only [List.getElem_append]
 by_cases h1:j<off
 ·have e1:j<((List.take off cs)++ds).length:=by simp; omega
  have e2:j<((List.take off vs)++us).length:=by simp; omega
  rw [dif_pos e1,dif_pos e2]
  rw [dif_pos (by simp; omega),dif_pos (by simp; omega)]
  simp only [List.getElem_take]
  exact h.2 _ _ _
 ·by_cases h2:j<off+ds.length
  ·have e1:j<((List.take off cs)++ds).length:=by simp; omega
   have e2:j<((List.take off vs)++us).length:=by simp; omega
   rw [dif_pos e1,dif_pos e2]
   rw [dif_neg (by simp; omega),dif_neg (by simp; omega)]
   have e3:(List.take off cs).length=(List.take off vs).length:=by simp [hl]
   simp only [e3]
   exact k.2 _ _ _
  ·have e1:¬j<((List.take off cs)++ds).length:=by simp; omega
   have e2:¬j<((List.take off vs)++us).length:=by simp; omega
   rw [dif_neg e1,dif_neg e2]
   have e3:((List.take off cs)++ds).length=((List.take off vs)++us).length:=by simp [hl,kl]
   simp only [e3,List.getElem_drop,kl]
   exact h.2 _ _ _
theorem mem_splice{α:Type}{cs vs:List α}{off:Nat}(hf:off+vs.length<=cs.length){x:α}(hx:x∈splice cs off vs):x∈cs∨x∈vs:=by
 rw [splice_eq _ _ _ hf] at hx
 simp only [List.mem_append] at hx
 rcases hx with (hx | hx) | hx
 ·exact .inl (List.mem_of_mem_take hx)
 ·exact .inr hx
 ·exact .inl (List.mem_of_mem_drop hx)
theorem fill_rep{places:List (Nat × Nat)}:∀ {parts:List (Nat × PV)} {vals:List (Nat × Value)} {cells r:List PV} {cv:Array Value},fillP places cells parts=some r ->
  RepAll g w cells cv.toList->(∀u∈cv.toList,u.oneCell'=true)->parts.map (·.1)=vals.map (·.1)->RepAll g w (parts.map (·.2)) (vals.map (·.2)) ->
  ∃c,Instr.fill (places.toArray[·]?) cv vals=some c/\RepAll g w r c.toList/\∀u∈c.toList,u.oneCell'=true
 | [],vals,cells,r,cv,h,hr,hone,hi,_=>by
  simp only [fillP,Option.some.injEq] at h
  subst h
  have:vals=[]:=by simpa using hi.symm
  subst this
  exact ⟨cv,rfl,hr,hone⟩
 | (i,p)::parts,vals,cells,r,cv,h,hr,hone,hi,hp=>by
  cases vals with
  | nil=>simp at hi
  | cons x vals=>
   obtain ⟨i',v⟩:=x
   simp only [List.map_cons,List.cons.injEq] at hi
   obtain ⟨rfl,hi⟩:=hi
   simp only [List.map_cons] at hp
   obtain ⟨v',vs',e,hv,hvs⟩:=hp.inv_cons
   injection e with e1 e2
   subst e1 e2
   simp only [fillP] at h
   split at h
   ·rename_i off size pc hpl hpc
    split at h
    ·rename_i hc
     obtain ⟨k1,k2⟩:=cel_rep hpc hv
     have hsz:v.cells.size=size:=by rw [<-Array.length_toList,<-k1.1]; exact hc.1
     have hcs:cells.length=cv.size:=by rw [hr.1]; simp
     have hfold:=zipIdx_fold off v.cells.toList 0 cv (by simp; omega)
     have e3:(v.cells.zipIdx.foldl (fun cs (x:Value × Nat)=>cs.setIfInBounds (off+x.2) x.1) cv).toList=Pv.splice cv.toList off v.cells.toList:=by
      rw [<-Array.foldl_toList,Array.toList_zipIdx]
      simpa using hfold
     have hr':RepAll g w (Pv.splice cells off pc) (v.cells.zipIdx.foldl (fun cs (x:Value × Nat)=>cs.setIfInBounds (off+x.2) x.1) cv).toList:=by
      rw [e3]
      exact hr.splice k1 (by rw [hc.1]; exact hc.2)
     obtain ⟨c,m1,m2,m3⟩:=fill_rep (places:=places) h hr' (by
      intro u hu
      rw [e3] at hu
      rcases mem_splice (by simp; omega) hu with hu | hu
      ·exact hone u hu
      ·exact k2 u hu) hi hvs
     refine ⟨c,?_,m2,m3⟩
     simp only [Instr.fill]
     rw [show (places.toArray[i]?:Option (Nat × Nat))=some (off,size) by simpa using hpl]
     simp only [hsz,ne_eq,not_true_eq_false,decide_false,Bool.false_or]
     rw [iN (by simp; omega)]
     exact m1
    ·cases h
   ·cases h
def evParts{α:Type}:List (Nat × Operand)->(List (Nat × PV)->RM α)->RM α
 | [],k=>k []
 | (i,x)::r,k=>evP x fun p=>evParts r fun ps=>k ((i,p)::ps)
theorem evParts_sound{α:Type}:∀ {xs:List (Nat × Operand)} {k:List (Nat × PV)->RM α} {K:α->Prop},Sim cx s g l a w->(evParts xs k).wp s K ->
  ∃ps,(k ps).wp s K/\ps.map (·.1)=xs.map (·.1)/\RepAll g w (ps.map (·.2)) (xs.map fun x=>a.eval x.2)
 | [],k,K,_,hw=>⟨[],hw,rfl,.nil⟩
 | (i,x)::r,k,K,h,hw=>by
  obtain ⟨p,h1,h2⟩:=evP_sound h hw
  obtain ⟨ps,h3,h4,h5⟩:=evParts_sound h h1
  exact ⟨(i,p)::ps,h3,by simp [h4],.cons h2 h5⟩
def actBuild(P:Program)(n:Nat)(o:Oper)(ty:TypeId)(parts:Array (Nat × Operand)):RM (List Wr):=match plc P ty,zro P ty with
 | some places,some zs=>evParts parts.toList fun ps=>match fillP places zs ps with
  | some cs=>wv n o (.v (.agg cs))
  | none => .fail
 | _,_ => .fail
theorem actBuild_sound{ty:TypeId}{parts:Array (Nat × Operand)}(ho:o.op = .build ty parts)(h:Sim cx s g l a w)(hw:(actBuild P cx.n o ty parts).wp s K):OpOK P cx s o K a w:=by
 unfold actBuild at hw
 split at hw
 ·rename_i places zs hp hz
  obtain ⟨ps,h1,h2,h3⟩:=evParts_sound h hw
  split at h1
  ·rename_i cs hcs
   obtain ⟨i,z,k1,k2,k3⟩:=zro_inv hz
   have hzr:=cvs_rep (g:=g) (w:=w) k3
   obtain ⟨c,m1,m2,m3⟩:=fill_rep (g:=g) (w:=w) (vals:=parts.toList.map fun x=>(x.1,a.eval x.2)) hcs hzr.1 hzr.2.1 (by rw [List.map_map]; exact h2) (by rw [List.map_map]; exact h3)
   have hb:P.built ty (parts.map fun (i,x)=>(i,a.eval x)).toList=some c:=by
    unfold plc at hp
    split at hp
    ·rename_i fs hu
     unfold Program.built
     simp only [k1,hu,k2,hp]
     simpa using m1
    ·cases hp
   refine OpOK.pure (v := .agg c) h h1 ?_ ?_
   ·have:=m2.agg m3
    simpa using this
   ·simp only [execOp,ho,Sem.run_bind,run_build w ty _ c hb,Result.andThen_ok,Sem.run_pure]
  ·exact h1.elim
 ·exact hw.elim
end
section
variable {P:Program} {cx:Cx} {s t:S} {g:Gh} {l:LG} {a:Act} {w:World} {o:Oper} {K:List Wr->Prop}
def celsOf(size:Nat):Nat->List (Nat × PV)->Option (List (List PV))
 | _,[]=>some []
 | k,(i,p)::r=>match p.cel,celsOf size (k+1) r with
  | some pc,some es=>if i=k/\pc.length=size then some (pc::es) else none
  | _,_=>none
theorem celsOf_rep{size:Nat}:∀ {ps:List (Nat × PV)} {vals:List (Nat × Value)} {k:Nat} {es:List (List PV)},celsOf size k ps=some es->ps.map (·.1)=vals.map (·.1)->RepAll g w (ps.map (·.2)) (vals.map (·.2)) ->
  vals.map (·.1)=List.range' k vals.length/\(∀x∈vals,x.2.cells.size=size)/\es.length=vals.length/\(∀i (h:i<es.length),es[i].length=size)/\RepAll g w es.flatten (vals.map fun x=>x.2.cells.toList).flatten /\
   ∀u∈(vals.map fun x=>x.2.cells.toList).flatten,u.oneCell'=true
 | [],vals,k,es,h,hi,_=>by
  simp only [celsOf,Option.some.injEq] at h
  subst h
  have:vals=[]:=by simpa using hi.symm
  subst this
  exact ⟨rfl,by simp,rfl,fun i h=>by simp at h,.nil,by simp⟩
 | (i,p)::ps,vals,k,es,h,hi,hp=>by
  cases vals with
  | nil=>simp at hi
  | cons x vals=>
   obtain ⟨i',v⟩:=x
   simp only [List.map_cons,List.cons.injEq] at hi
   obtain ⟨rfl,hi⟩:=hi
   simp only [List.map_cons] at hp
   obtain ⟨v',vs',e,hv,hvs⟩:=hp.inv_cons
   injection e with e1 e2
   subst e1 e2
   simp only [celsOf] at h
   split at h
   ·rename_i pc es' hpc hes
    split at h
    ·rename_i hc
     injection h with h
     subst h
     obtain ⟨h1,h2,h3,h4,h5,h6⟩:=celsOf_rep hes hi hvs
     obtain ⟨k1,k2⟩:=cel_rep hpc hv
     have hsz:v.cells.size=size:=by rw [<-Array.length_toList,<-k1.1]; exact hc.2
     refine ⟨by simp [h1,hc.1,List.range'_succ],?_,by simp [h3],?_,?_,?_⟩
     ·simp only [List.mem_cons,forall_eq_or_imp]
      exact ⟨hsz,h2⟩
     ·intro j hj
      cases j with
      | zero=>exact hc.2
      | succ j=>exact h4 j (by simpa using hj)
     ·simp only [List.flatten_cons,List.map_cons]
      refine ⟨by simp [k1.1,h5.1],fun j hj hj'=>?_⟩
      simp only [List.getElem_append]
      have hl:pc.length=v.cells.toList.length:=k1.1
      split
      ·rw [dif_pos oM]; exact k1.2 _ _ _
      ·rw [dif_neg oM]
       simp only [hl]
       exact h5.2 _ _ _
     ·simp only [List.flatten_cons,List.map_cons,List.mem_append]
      rintro u (hu | hu)
      ·exact k2 u hu
      ·exact h6 u hu
    ·cases h
   ·cases h
theorem fill_row(size:Nat):∀ (vals:List (Nat × Value)) (k:Nat) (cells:Array Value),(∀x∈vals,x.2.cells.size=size)->vals.map (·.1)=List.range' k vals.length->(k+vals.length) * size<=cells.size ->
  ∃c,Instr.fill (fun i=>some (i * size,size)) cells vals=some c/\c.toList=cells.toList.take (k * size)++(vals.map fun x=>x.2.cells.toList).flatten++cells.toList.drop ((k+vals.length) * size)
 | [],k,cells,_,_,_=>⟨cells,rfl,by simp⟩
 | (i,v)::vals,k,cells,hs,hi,hl=>by
  simp only [List.map_cons,List.length_cons,List.range'_succ,List.cons.injEq] at hi
  obtain ⟨rfl,hi⟩:=hi
  have hv:v.cells.size=size:=hs (i,v) sM
  have hfold:=zipIdx_fold (i * size) v.cells.toList 0 cells (by
   simp only [List.length_cons] at hl
   rw [Nat.add_mul] at hl
   have:(vals.length+1) * size=vals.length * size+size:=by rw [Nat.add_mul,Nat.one_mul]
   simp
   omega)
  have e3:(v.cells.zipIdx.foldl (fun cs (x:Value × Nat)=>cs.setIfInBounds (i * size+x.2) x.1) cells).toList=Pv.splice cells.toList (i * size) v.cells.toList:=by
   rw [<-Array.foldl_toList,Array.toList_zipIdx]
   simpa using hfold
  have hfit:i * size+v.cells.toList.length<=cells.toList.length:=by
   simp only [List.length_cons] at hl
   rw [Nat.add_mul] at hl
   have:(vals.length+1) * size=vals.length * size+size:=by rw [Nat.add_mul,Nat.one_mul]
   simp
   omega
  have hsz:(v.cells.zipIdx.foldl (fun cs (x:Value × Nat)=>cs.setIfInBounds (i * size+x.2) x.1) cells).size=cells.size:=by
   rw [<-Array.length_toList,e3,splice_length]
   simp
  obtain ⟨c,h1,h2⟩:=fill_row size vals (i+1) (v.cells.zipIdx.foldl (fun cs (x:Value × Nat)=>cs.setIfInBounds (i * size+x.2) x.1) cells) (fun x hx=>hs x (by simp [hx])) hi (by
   rw [hsz]
   simp only [List.length_cons] at hl
   rw [show i+1+vals.length=i+(vals.length+1) by omega]
   exact hl)
  refine ⟨c,?_,?_⟩
  ·simp only [Instr.fill,hv,ne_eq,not_true_eq_false,decide_false,Bool.false_or]
   rw [iN (by simp only [Array.length_toList] at hfit; simp; omega)]
   exact h1
  ·rw [h2,e3,splice_eq _ _ _ hfit]
   have hlen:v.cells.toList.length=size:=by simpa using hv
   have e4:(i+1) * size=i * size+size:=by rw [Nat.add_mul,Nat.one_mul]
   have e5:(cells.toList.take (i * size)).length=i * size:=by rw [List.length_take]; omega
   have e6:(cells.toList.take (i * size)++v.cells.toList).length=(i+1) * size:=by rw [List.length_append,e5,hlen,e4]
   have e7:i+1+vals.length=i+(vals.length+1):=by omega
   simp only [List.map_cons,List.flatten_cons,List.length_cons]
   have e8:(i+(vals.length+1)) * size=(i+1) * size+vals.length * size:=by rw [<-e7,Nat.add_mul]
   rw [<-List.append_assoc (cells.toList.take (i * size)) v.cells.toList]
   generalize cells.toList.take (i * size)++v.cells.toList=A at e6 ⊢
   rw [e7,e8,List.drop_append,List.drop_eq_nil_of_le (as:=A) oM,List.nil_append,e6,List.take_left' e6]
   simp only [List.append_assoc,hlen,List.drop_drop]
   congr 3
   omega
def actBS(P:Program)(n:Nat)(o:Oper)(ty:TypeId)(len:Nat)(parts:Array (Nat × Operand)):RM (List Wr):=match elemT P ty with
 | some e=>match csz P e,zro P e with
  | some (m+1),some _=>evParts parts.toList fun ps=>match celsOf (m+1) 0 ps with
   | some es=>if es.length=len/\len * (m+1)<=16777216 then wv n o (.full (m+1) es) else .fail
   | none => .fail
  | _,_ => .fail
 | none => .fail
theorem actBS_sound{ty:TypeId}{len:Nat}{parts:Array (Nat × Operand)}(ho:o.op = .buildSlice ty len parts)(h:Sim cx s g l a w)(hw:(actBS P cx.n o ty len parts).wp s K):OpOK P cx s o K a w:=by
 unfold actBS at hw
 split at hw
 ·rename_i e he
  have hu:=elemT_inv he
  split at hw
  ·rename_i m zs hm hz
   obtain ⟨ps,h1,h2,h3⟩:=evParts_sound h hw
   split at h1
   ·rename_i es hes
    split at h1
    ·rename_i hc
     obtain ⟨hlen,hbig⟩:=hc
     obtain ⟨k1,k2,k3,k4,k5,k6⟩:=celsOf_rep (g:=g) (w:=w) (vals:=parts.toList.map fun x=>(x.1,a.eval x.2)) hes (by rw [List.map_map]; exact h2) (by rw [List.map_map]; exact h3)
     obtain ⟨i,z,z1,z2,z3⟩:=zro_inv hz
     generalize hvals:(parts.toList.map fun x=>(x.1,a.eval x.2))=vals at k1 k2 k3 k4 k5 k6
     have hlv:vals.length=len:=by rw [<-k3,hlen]
     have hfill:∀zc:Array Value,∃c,Instr.fill (fun i=>some (i * (m+1),m+1)) ((Array.range (len * (m+1))).map (zc[· % zc.size]!)) vals=some c/\c.toList=(vals.map fun x=>x.2.cells.toList).flatten:=by
      intro zc
      obtain ⟨c,c1,c2⟩:=fill_row (m+1) vals 0 ((Array.range (len * (m+1))).map (zc[· % zc.size]!)) k2 k1 (by simp [hlv])
      refine ⟨c,c1,?_⟩
      rw [c2,hlv]
      simp
     have hrun:∃c,(execOp a.eval o).run P w = .ok (.value (.slice (some ⟨w.heap.size,0,none⟩) len len)) (w.alloc (.cells c e))/\c.toList=(vals.map fun x=>x.2.cells.toList).flatten:=by
      have hvt:(parts.map fun (x:Nat × Operand)=>(x.1,a.eval x.2)).toList=vals:=by rw [<-hvals]; simp
      have hbig':¬(len * (m+1)>2 ^ 24):=by omega
      have hsz:=run_sizeOf (w:=w) hm
      by_cases h0:len * (m+1)=0
      ·have hl0:len=0:=by
        rcases Nat.mul_eq_zero.1 h0 with h | h
        ·exact h
        ·omega
       subst hl0
       have hv0:vals=[]:=List.eq_nil_of_length_eq_zero hlv
       refine ⟨#[],?_,by simp [hv0]⟩
       simp only [execOp,ho,Instr.buildSlice,Sem.run_bind,run_underlying hu,Result.andThen_ok,hsz,h0,if_true,Sem.run_pure,hvt,hv0]
       have hr0:Array.range 0 = #[]:=Array.eq_empty_of_size_eq_zero sM
       simp [Instr.fill,newRow,hr0]
      ·obtain ⟨c,c1,c2⟩:=hfill z.cells
       refine ⟨c,?_,c2⟩
       simp only [execOp,ho,Instr.buildSlice,Sem.run_bind,run_underlying hu,Result.andThen_ok,hsz,iN hbig',iN h0,Sem.run_pure,hvt,zeroValue,typeInfo,run_program,z1,z2]
       simp [c1,newRow]
     obtain ⟨c,hrun,hct⟩:=hrun
     obtain ⟨h4,hm4⟩:=h.alloc (.cells c e)
     refine OpOK.value h1 h4 (fun _ => .inr ⟨⟨w.heap.size,0,none⟩,by rw [hlen],?_⟩) hrun
     rw [<-hlen]
     refine Rep.of_flat (Nat.le_refl _) (by simp only [maxLen]; have:=Nat.le_mul_of_pos_right len (Nat.succ_pos m); simp only [Nat.succ_eq_add_one] at this; omega) k4 (k5.mono hm4) fun j u hu'=>?_
     have hadd:(⟨w.heap.size,0,none⟩:Addr).add j=⟨w.heap.size,j,none⟩:=by unfold Addr.add; split <;> simp_all
     refine ⟨?_,fun k hk=>?_,k6 u (List.mem_of_getElem? hu')⟩
     ·rw [hadd]
      have:=heap_alloc_new w (.cells c e)
      simp only [World.cell?,this]
      rw [<-hct] at hu'
      simpa using hu'
     ·rw [h.fresh.1 _ (Nat.le_refl _)] at hk; cases hk
    ·exact h1.elim
   ·exact h1.elim
  ·exact hw.elim
 ·exact hw.elim
def ldC(P:Program)(n:Nat)(ops:List Oper)(o:Oper)(ty:TypeId)(mk:List LV->Wr)(cs:List LV)(off:Nat):RM (List Wr):=match aggT P ty with
 | some true=>match csz P ty with
  | some m=>if off+m<=cs.length then (match toPs ((cs.drop off).take m) with
   | some ps=>wv n o (.v (.agg ps))
   | none => .fail) else .fail
  | none => .fail
 | some false=>match cs[off]? with
  | some (.uniq e z es)=>match o.dst with
   | some d=>if d<n/\e<1000000 then (if feeds ops d=true then .ret [mk [.v (.sl z es)],.tmp d (.uniq e z es)] else .ret [.tmp d (.v (.sl z es))]) else .fail
   | none => .fail
  | some .junk => .fail
  | some (.mm _) => .fail
  | some (.row _ _) => .fail
  | some lv=>wv n o lv
  | none => .fail
 | none => .fail
def actLoad(P:Program)(n:Nat)(ops:List Oper)(o:Oper)(ty:TypeId)(x:Operand):RM (List Wr):=ev x fun lv=>match lv with
 | .lp i off => .getB i fun cs=>ldC P n ops o ty (.cells i off) cs off
 | .v (.xp m off) => .getX m fun cs=>if notMM cs=true then ldC P n ops o ty (.ext m off) cs off else .fail
 | .v (.yp m c off) => .getX m fun cs=>match rowOf cs with
  | some (c',ps)=>if aggT P ty=some false then .assume (decide (c=c'/\off<ps.length)) (wv n o (.v (.int .i64 (ps.getD off 0)))) else .fail
  | none => .fail
 | .v (.ro cs off)=>match segP P ty cs off with
  | some p=>wv n o (.v p)
  | none => .fail
 | _ => .fail
theorem toPs_rep{f:Nat->UL}:∀ {cs:List LV} {ps:List PV} {vs:List Value},toPs cs=some ps->cs.length=vs.length->(∀j (h:j<cs.length) (h':j<vs.length),RepL g l w (f j) cs[j] vs[j])->RepAll g w ps vs:=by
 intro cs
 induction cs generalizing f with
 | nil=>
  intro ps vs h hl _
  simp only [toPs,Option.some.injEq] at h
  subst h
  have:vs=[]:=List.eq_nil_of_length_eq_zero hl.symm
  subst this
  exact .nil
 | cons c cs ih=>
  intro ps vs h hl hr
  cases vs with
  | nil=>simp at hl
  | cons v vs=>
   simp only [toPs] at h
   split at h
   ·rename_i p qs h1 h2
    injection h with h
    subst h
    refine .cons (toP_rep h1 (hr 0 sM sM)) (ih (f:=fun j=>f (j+1)) h2 (by simpa using hl) fun j hj hj'=>?_)
    exact hr (j+1) (by simpa using hj) (by simpa using hj')
   ·cases h
theorem run_load_one{ty:TypeId}{b off:Nat}{cur:Array Value}{e:TypeId}(hh:w.heap[b]?=some (.cells cur e (0,0)))(ha:aggT P ty=some false)(hlt:off<cur.size) :
  (loadVar ty ⟨b,off,none⟩).run P w = .ok (cur.getD off undef) w:=by
 have hc:w.cell? ⟨b,off,none⟩=some (cur.getD off undef):=by simp [World.cell?,hh,hlt]
 simp [loadVar,run_isAgg ha,hc]
theorem run_load_agg{ty:TypeId}{b off m:Nat}{vs:Nat->Value}(ha:aggT P ty=some true)(hm:csz P ty=some m)(hc:∀j,j<m->w.cell? ⟨b,off+j,none⟩=some (vs j)) :
  (loadVar ty ⟨b,off,none⟩).run P w = .ok (.agg ((List.range m).map vs).toArray) w:=by
 have hadd:∀j,(⟨b,off,none⟩:Addr).add j=⟨b,off+j,none⟩:=fun j=>by unfold Addr.add; split <;> simp_all
 have hl:=run_loadCells (P:=P) w ⟨b,off,none⟩ m vs (fun j hj=>by rw [hadd]; exact hc j hj)
 simp [loadVar,run_isAgg ha,run_sizeOf hm,hl]
theorem exec_load{ty:TypeId}{x:Operand}{b off:Nat}{v:Value}(ho:o.op = .load ty x)(hx:a.eval x = .pointer (some ⟨b,off,none⟩))(hl:(loadVar ty ⟨b,off,none⟩).run P w = .ok v w):(execOp a.eval o).run P w = .ok (.value v) w:=by
 simp [execOp,ho,hx,Instr.loadAt,Instr.sureAddr,hl]
theorem WLs.splice1:∀ {cs:List LV} {off:Nat} {x y:LV},cs[off]?=some x->WL y x->WLs (Pv.splice cs off [y]) cs
 | [],off,x,y,h,_=>by simp at h
 | c::cs,0,x,y,h,hw=>by
  simp only [List.getElem?_cons_zero,Option.some.injEq] at h
  subst h
  simp only [Pv.splice]
  exact ⟨hw,WLs.refl cs⟩
 | c::cs,off+1,x,y,h,hw=>by
  simp only [List.getElem?_cons_succ] at h
  exact ⟨WL.refl c,WLs.splice1 h hw⟩
theorem ldB_sound{ty:TypeId}{x:Operand}{ops:List Oper}{i off:Nat}{cs:List LV}(ho:o.op = .load ty x)(h:Sim cx s g l a w)(hi:lk s.boxes i=some cs)(hx:∀b,l.L i=some b->a.eval x = .pointer (some ⟨b,off,none⟩))
  (hw:(ldC P cx.n ops o ty (.cells i off) cs off).wp s K):OpOK P cx s o K a w:=by
 obtain ⟨b,h1,h2,hM,cur,e,h4,h5,h6⟩:=h.bx i cs hi
 have hxv:=hx b h1
 unfold ldC at hw
 split at hw
 ·rename_i ha
  split at hw
  ·rename_i m hm
   split at hw
   ·rename_i hle
    split at hw
    ·rename_i ps hps
     have hc:∀j,j<m->w.cell? ⟨b,off+j,none⟩=some (cur.getD (off+j) undef):=fun j hj=>by
      have:off+j<cur.size:=by omega
      simp [World.cell?,h4,this]
     have hrun:=exec_load ho hxv (run_load_agg (P:=P) ha hm hc)
     refine OpOK.pure h hw (RepAll.agg ?_ ?_) hrun
     ·refine toPs_rep (l:=l) (f:=fun j => .b i (off+j)) hps (by simp; omega) fun j hj hj'=>?_
      simp only [List.getElem_take,List.getElem_drop,List.getElem_map,List.getElem_range]
      exact (h6 (off+j) _).2.2
     ·intro v hv
      simp only [List.mem_map,List.mem_range] at hv
      obtain ⟨j,hj,rfl⟩:=hv
      exact (h6 (off+j) oM).2.1
    ·exact hw.elim
   ·exact hw.elim
  ·exact hw.elim
 ·rename_i ha
  cases hcs:cs[off]? with
  | none=>rw [hcs] at hw; exact hw.elim
  | some lv=>
   rw [hcs] at hw
   have hlt:=(List.getElem?_eq_some_iff.1 hcs).1
   have hrun:=exec_load ho hxv (run_load_one (P:=P) h4 ha oM)
   have hcell:=h6 off hlt
   have hlv:cs[off]=lv:=by rw [List.getElem?_eq_getElem hlt] at hcs; injection hcs
   rw [hlv] at hcell
   obtain ⟨hc1,hc2,hc3⟩:=hcell
   generalize cur.getD off undef=v at hrun hc2 hc3
   cases lv with
   | uniq e' z es=>
    cases hd:o.dst with
    | none=>simp only [hd] at hw; exact hw.elim
    | some d=>
     simp only [hd] at hw
     split at hw
     ·rename_i hlt'
      obtain ⟨hlt',heK⟩:=hlt'
      split at hw
      ·-- handed on
       have hs1:Sim cx { s with boxes:=put s.boxes i (splice cs off [.v (.sl z es)]),tmps:=put s.tmps d .junk } g l a w:=by
        refine h.leF (fun k u hk=>?_) (fun k u hk=>by
         simp only [lk_put] at hk
         split at hk
         ·rename_i e2
          subst e2
          injection hk with hk
          subst hk
          exact ⟨cs,hi,WLs.splice1 hcs (.inr ⟨rfl,wlE heK⟩)⟩
         ·exact ⟨u,hk,WLs.refl u⟩) (same_le WLs.refl _)
        simp only [lk_put] at hk
        split at hk
        ·injection hk with hk; exact .inl hk.symm
        ·exact .inr ⟨u,hk,WL.refl u⟩
       have hwr:s.wrs [.cells i off [.v (.sl z es)],.tmp d (.uniq e' z es)]={ s with boxes:=put s.boxes i (splice cs off [.v (.sl z es)]),tmps:=put s.tmps d (.uniq e' z es) }:=by
        simp only [S.wrs,S.wr,hi]
       obtain ⟨l',k1,k2,-⟩:=hs1.transfer (p := .b i off) (q := .t d) hc3 (fun ds hds e2 z2 es2 he=>by
         simp only [lk_put,if_true,Option.some.injEq] at hds
         subst hds
         rw [splice_get _ _ _ (by simp; omega)] at he
         simp at he)
        (fun e2 z2 es2 he=>by simp only [lk_put,if_true] at he; injection he with he; cases he)
       intro Q
       unfold Oper.wp
       rw [hrun,Oper.upon_value,hd]
       refine ⟨_,g,l',hw,?_⟩
       rw [hwr]
       refine (k1.set hlt' k2).congr (fun k=>?_) (fun _=>rfl) (fun _=>rfl)
       simp only [lk_put]
       split <;> rfl
      ·refine OpOK.value (lv := .v (.sl z es)) (v:=v) (by unfold wv; rw [hd]; simp only [hlt',if_true]; exact hw) h (fun _=>toP_rep (toP_u heK) hc3) hrun
     ·exact hw.elim
   | v p=>exact OpOK.value hw h (fun _=>hc3) hrun
   | full z es=>exact OpOK.value hw h (fun _=>hc3) hrun
   | lp j oo=>cases hc1
   | junk=>exact hw.elim
   | mm _=>exact hw.elim
   | row _ _=>exact hw.elim
 ·exact hw.elim
theorem ldX_sound{ty:TypeId}{x:Operand}{ops:List Oper}{i off:Nat}{cs:List LV}(ho:o.op = .load ty x)(h:Sim cx s g l a w)(hi:lk s.ext i=some cs)(hx:∀b,g.X i=some b->a.eval x = .pointer (some ⟨b,off,none⟩))(hcs:notMM cs=true)
  (hw:(ldC P cx.n ops o ty (.ext i off) cs off).wp s K):OpOK P cx s o K a w:=by
 obtain ⟨b,h1,h2,hE⟩:=h.ex i cs hi
 rcases hE with hB | hE
 rotate_left
 ·exact (hE.plain (notMM_not hcs)).elim
 replace h1:=h1.plain hB.norow
 obtain ⟨hM,cur,e,h4,h5,h6⟩:=hB
 have hxv:=hx b h1
 unfold ldC at hw
 split at hw
 ·rename_i ha
  split at hw
  ·rename_i m hm
   split at hw
   ·rename_i hle
    split at hw
    ·rename_i ps hps
     have hc:∀j,j<m->w.cell? ⟨b,off+j,none⟩=some (cur.getD (off+j) undef):=fun j hj=>by
      have:off+j<cur.size:=by omega
      simp [World.cell?,h4,this]
     have hrun:=exec_load ho hxv (run_load_agg (P:=P) ha hm hc)
     refine OpOK.pure h hw (RepAll.agg ?_ ?_) hrun
     ·refine toPs_rep (l:=l) (f:=fun j => .x i (off+j)) hps (by simp; omega) fun j hj hj'=>?_
      simp only [List.getElem_take,List.getElem_drop,List.getElem_map,List.getElem_range]
      exact (h6 (off+j) _).2.2
     ·intro v hv
      simp only [List.mem_map,List.mem_range] at hv
      obtain ⟨j,hj,rfl⟩:=hv
      exact (h6 (off+j) oM).2.1
    ·exact hw.elim
   ·exact hw.elim
  ·exact hw.elim
 ·rename_i ha
  cases hcs:cs[off]? with
  | none=>rw [hcs] at hw; exact hw.elim
  | some lv=>
   rw [hcs] at hw
   have hlt:=(List.getElem?_eq_some_iff.1 hcs).1
   have hrun:=exec_load ho hxv (run_load_one (P:=P) h4 ha oM)
   have hcell:=h6 off hlt
   have hlv:cs[off]=lv:=by rw [List.getElem?_eq_getElem hlt] at hcs; injection hcs
   rw [hlv] at hcell
   obtain ⟨hc1,hc2,hc3⟩:=hcell
   generalize cur.getD off undef=v at hrun hc2 hc3
   cases lv with
   | uniq e' z es=>
    cases hd:o.dst with
    | none=>simp only [hd] at hw; exact hw.elim
    | some d=>
     simp only [hd] at hw
     split at hw
     ·rename_i hlt'
      obtain ⟨hlt',heK⟩:=hlt'
      split at hw
      ·-- handed on
       have hs1:Sim cx { s with ext:=put s.ext i (splice cs off [.v (.sl z es)]),tmps:=put s.tmps d .junk } g l a w:=by
        refine h.leF (fun k u hk=>?_) (same_le WLs.refl _) (fun k u hk=>by
         simp only [lk_put] at hk
         split at hk
         ·rename_i e2
          subst e2
          injection hk with hk
          subst hk
          exact ⟨cs,hi,WLs.splice1 hcs (.inr ⟨rfl,wlE heK⟩)⟩
         ·exact ⟨u,hk,WLs.refl u⟩) (by simp only [cnt_put_old hi]; exact Nat.le_refl _)
        simp only [lk_put] at hk
        split at hk
        ·injection hk with hk; exact .inl hk.symm
        ·exact .inr ⟨u,hk,WL.refl u⟩
       have hwr:s.wrs [.ext i off [.v (.sl z es)],.tmp d (.uniq e' z es)]={ s with ext:=put s.ext i (splice cs off [.v (.sl z es)]),tmps:=put s.tmps d (.uniq e' z es) }:=by
        simp only [S.wrs,S.wr,hi]
       obtain ⟨l',k1,k2,-⟩:=hs1.transfer (p := .x i off) (q := .t d) hc3 (fun ds hds e2 z2 es2 he=>by
         simp only [lk_put,if_true,Option.some.injEq] at hds
         subst hds
         rw [splice_get _ _ _ (by simp; omega)] at he
         simp at he)
        (fun e2 z2 es2 he=>by simp only [lk_put,if_true] at he; injection he with he; cases he)
       intro Q
       unfold Oper.wp
       rw [hrun,Oper.upon_value,hd]
       refine ⟨_,g,l',hw,?_⟩
       rw [hwr]
       refine (k1.set hlt' k2).congr (fun k=>?_) (fun _=>rfl) (fun _=>rfl)
       simp only [lk_put]
       split <;> rfl
      ·refine OpOK.value (lv := .v (.sl z es)) (v:=v) (by unfold wv; rw [hd]; simp only [hlt',if_true]; exact hw) h (fun _=>toP_rep (toP_u heK) hc3) hrun
     ·exact hw.elim
   | v p=>exact OpOK.value hw h (fun _=>hc3) hrun
   | full z es=>exact OpOK.value hw h (fun _=>hc3) hrun
   | lp j oo=>cases hc1
   | junk=>exact hw.elim
   | mm _=>exact hw.elim
   | row _ _=>exact hw.elim
 ·exact hw.elim
theorem actLoad_sound{ty:TypeId}{x:Operand}{ops:List Oper}(ho:o.op = .load ty x)(h:Sim cx s g l a w)(hw:(actLoad P cx.n ops o ty x).wp s K):OpOK P cx s o K a w:=by
 obtain ⟨lv,u,h1,r1,-⟩:=ev_sound h hw
 split at h1
 ·rename_i i off
  simp only [RM.wp] at h1
  split at h1
  ·rename_i cs hcs
   refine ldB_sound ho h hcs (fun b hb=>?_) h1
   obtain ⟨b',k1,k2⟩:=r1
   rw [k1] at hb
   injection hb with hb
   rw [<-hb]; exact k2
  ·exact h1.elim
 ·rename_i m off
  simp only [RM.wp] at h1
  split at h1
  ·rename_i cs hcs
   split at h1
   rotate_left
   ·exact h1.elim
   rename_i hnm
   refine ldX_sound ho h hcs (fun b hb=>?_) hnm h1
   generalize a.eval x=vx at r1
   cases r1 with
   | xp _ _ b' hx=>
    rw [hx] at hb
    injection hb with hb
    rw [hb]
  ·exact h1.elim
 ·rename_i m c off
  simp only [RM.wp] at h1
  split at h1
  ·rename_i cs hcs
   split at h1
   ·rename_i c' ps hrow
    split at h1
    ·rename_i ha
     simp only [RM.wp] at h1
     obtain ⟨hd,h1⟩:=h1
     obtain ⟨rfl,hlt⟩:=of_decide_eq_true hd
     obtain ⟨b,hY,-,-,hM,cur,e,h4,h5,h6⟩:=row_at h hcs hrow
     have hxv:a.eval x = .pointer (some ⟨b,off,none⟩):=by
      generalize a.eval x=vx at r1
      cases r1 with
      | yp _ _ _ b' hx=>
       rw [hx] at hY
       injection hY with hY
       rw [hY]
     refine OpOK.value h1 h (fun _=>?_) (exec_load ho hxv (run_load_one (P:=P) h4 ha oM))
     have h7:=(h6 off hlt).2
     have e7:ps.getD off 0=ps[off]:=by simp [List.getD,hlt]
     rw [e7]
     exact h7
    ·exact h1.elim
   ·exact h1.elim
  ·exact h1.elim
 ·rename_i cs off
  split at h1
  ·rename_i p hp
   have hex:∀b oo v,a.eval x = .pointer (some ⟨b,oo,none⟩)->(loadVar ty ⟨b,oo,none⟩).run P w = .ok v w->(execOp a.eval o).run P w = .ok (.value v) w:=fun b oo v hv hl=>exec_load ho hv hl
   generalize a.eval x=vx at r1 hex
   cases r1 with
   | ro _ off' b oo vs hc hf hone hr=>
    unfold segP at hp
    split at hp
    ·rename_i ha
     split at hp
     ·rename_i m hm
      split at hp
      ·rename_i hle
       injection hp with hp
       subst hp
       refine OpOK.pure h h1 (RepAll.agg (vs:=(List.range m).map fun j=>vs (off+j)) ⟨by simp; omega,fun j hj hj'=>?_⟩ ?_) (hex _ _ _ rfl (run_load_agg ha hm fun j hj=>?_))
       ·simp only [List.getElem_take,List.getElem_drop,List.getElem_map,List.getElem_range]
        exact hr _ _
       ·intro v hv
        simp only [List.mem_map,List.mem_range] at hv
        obtain ⟨j,hj,rfl⟩:=hv
        exact hone _ oM
       ·have:=hc (off+j) oM
        rw [Nat.add_assoc]
        exact this
      ·cases hp
     ·cases hp
    ·rename_i ha
     have hlt:=(List.getElem?_eq_some_iff.1 hp).1
     have hcc:=hc off hlt
     refine OpOK.pure (v:=vs off) h h1 ?_ (hex _ _ _ rfl (by simp [loadVar,run_isAgg ha,hcc]))
     rw [List.getElem?_eq_getElem hlt] at hp
     injection hp with hp
     rw [<-hp]
     exact hr off hlt
    ·cases hp
  ·exact h1.elim
 ·exact h1.elim
end
section
variable {P:Program} {cx:Cx} {s t:S} {g:Gh} {l:LG} {a:Act} {w:World} {o:Oper} {K:List Wr->Prop}
def stV(P:Program)(ty:TypeId)(lv:LV):Option (List LV):=match aggT P ty with
 | some true=>match lv with
  | .v (.agg cs)=>some (cs.map .v)
  | _=>none
 | some false=>match lv with
  | .v p=>if p.one=true then some [.v p] else none
  | .full z es=>some [.full z es]
  | _=>none
 | none=>none
def stGo(P:Program)(ty:TypeId)(y:Operand)(lv:LV)(cs:List LV)(off:Nat)(mk:List LV->Wr):RM (List Wr):=match csz P ty with
 | some m=>match lv,y with
  | .uniq e z es,.tmp t=>if aggT P ty=some false/\m=1/\off<cs.length/\e<1000000 then .ret [.tmp t (.v (.sl z es)),mk [.uniq e z es]] else .fail
  | lv,_=>match stV P ty lv with
   | some vs=>if vs.length=m/\off+m<=cs.length then .ret [mk vs] else .fail
   | none => .fail
 | none => .fail
def actStore(P:Program)(o:Oper)(ty:TypeId)(x y:Operand):RM (List Wr):=match o.dst with
 | none=>ev x fun lp=>ev y fun lv=>match lp with
  | .lp i off => .getB i fun cs=>stGo P ty y lv cs off (.cells i off)
  | .v (.xp m off) => .getX m fun cs=>if notMM cs=true then stGo P ty y lv cs off (.ext m off) else .fail
  | .v (.yp m c off) => .getX m fun cs=>match rowOf cs,toP lv with
   | some (c',ps),some (.int .i64 p)=>if csz P ty=some 1/\aggT P ty=some false then .assume (decide (c=c'/\off<ps.length)) (.ret [.ext m 0 [.row c (ps.set off p)]]) else .fail
   | _,_ => .fail
  | _ => .fail
 | some _ => .fail
theorem stV_rep{ty:TypeId}{lv:LV}{vs:List LV}{v:Value}{u:UL}{f:Nat->UL}(h:stV P ty lv=some vs)(hr:RepL g l w u lv v) :
  vs.length=v.cells.toList.length/\(∀u∈v.cells.toList,u.oneCell'=true)/\∀j (h:j<vs.length) (h':j<v.cells.toList.length),vs[j].nolp=true/\v.cells.toList[j].oneCell'=true/\RepL g l w (f j) vs[j] v.cells.toList[j]:=by
 unfold stV at h
 split at h
 ·split at h
  ·rename_i cs
   injection h with h
   subst h
   obtain ⟨k1,k2⟩:=cel_rep (p := .agg cs) rfl hr
   refine ⟨by simp [k1.1],k2,fun j hj hj'=>⟨by simp [LV.nolp],k2 _ (List.getElem_mem _),?_⟩⟩
   simp only [List.getElem_map]
   exact k1.2 j (by simpa using hj) hj'
  ·cases h
 ·split at h
  ·rename_i p
   split at h
   ·rename_i hp
    injection h with h
    subst h
    have hone:=Rep.one hr hp
    have hc:v.cells = #[v]:=by cases v <;> first | rfl | cases hone
    rw [hc]
    refine ⟨by simp,by simpa using hone,fun j hj hj'=>?_⟩
    have:j=0:=by simpa using hj
    subst this
    exact ⟨rfl,hone,hr⟩
   ·cases h
  ·rename_i z es
   injection h with h
   subst h
   have hone:v.oneCell'=true:=by
    rcases hr with ⟨rfl,-⟩ | ⟨a,rfl,-⟩ <;> rfl
   have hc:v.cells = #[v]:=by cases v <;> first | rfl | cases hone
   rw [hc]
   refine ⟨by simp,by simpa using hone,fun j hj hj'=>?_⟩
   have:j=0:=by simpa using hj
   subst this
   exact ⟨rfl,hone,hr⟩
  ·cases h
 ·cases h
theorem run_store_blk{ty:TypeId}{x y:Operand}{b off m:Nat}{cur:Array Value}{e:TypeId}{v:Value}(ho:o.op = .store ty x y)(hx:a.eval x = .pointer (some ⟨b,off,none⟩))(hy:a.eval y=v)(hm:csz P ty=some m)
  (hh:w.heap[b]?=some (.cells cur e (0,0))) (hl:v.cells.toList.length=m) (hfit:off+m<=cur.size) (hone:∀u∈v.cells.toList,u.oneCell'=true) :
  (execOp a.eval o).run P w = .ok .skip (w.setRow b (splice cur.toList off v.cells.toList).toArray):=by
 have h1:=run_storeCells_at P b off e v.cells.toList 0 cur w hh oM hone
 have hsz:v.cells.size=m:=by simpa using hl
 rw [Nat.add_zero,<-splice_eq _ _ _ (by simp; omega)] at h1
 simp [execOp,ho,hx,hy,Instr.storeAt,Instr.sureAddr,storeVar,run_sizeOf hm,hsz,h1]
theorem splice_splice1{α:Type}(cs:List α)(off:Nat)(x y:α)(h:off<cs.length):splice (splice cs off [x]) off [y]=splice cs off [y]:=by
 apply List.ext_getElem?
 intro j
 rw [splice_get _ _ _ (by rw [splice_length]; simp; omega),splice_get _ _ _ (by simp; omega),splice_get _ _ _ (by simp; omega)]
 by_cases hj:off<=j/\j<off+[y].length
 ·rw [iP hj,iP hj]
 ·rw [iN hj,iN hj,iN (by simpa using hj)]
theorem stB_sound{ty:TypeId}{x y:Operand}{i off b:Nat}{cs:List LV}{lv:LV}{u:UL}(ho:o.op = .store ty x y)(hd:o.dst=none)(h:Sim cx s g l a w)(hi:lk s.boxes i=some cs)(hb:l.L i=some b)
  (hx:a.eval x = .pointer (some ⟨b,off,none⟩)) (hr:RepL g l w u lv (a.eval y)) (hu:∀e z es,lv = .uniq e z es->∃t,y = .tmp t/\u = .t t/\lk s.tmps t=some lv)
  (hw:(stGo P ty y lv cs off (.cells i off)).wp s K):OpOK P cx s o K a w:=by
 unfold stGo at hw
 split at hw
 ·rename_i m hm
  have plain:(∀e z es,lv ≠ .uniq e z es)->((match stV P ty lv with
   | some vs=>if vs.length=m/\off+m<=cs.length then RM.ret [Wr.cells i off vs] else RM.fail
   | none=>RM.fail):RM (List Wr)).wp s K->OpOK P cx s o K a w:=by
   intro _ hw
   split at hw
   ·rename_i vs hvs
    split at hw
    ·rename_i hc
     obtain ⟨k1,k2,k3⟩:=stV_rep (f:=fun j => .b i (off+j)) hvs hr
     obtain ⟨b',cur,e,h1,h2,h3,h4,-⟩:=h.wbox hi off vs (a.eval y).cells.toList k1 (by rw [hc.1]; exact hc.2) k3
     rw [hb] at h1
     injection h1 with h1
     subst h1
     have hrun:=run_store_blk (P:=P) ho hx rfl hm h2 (by rw [<-k1]; exact hc.1) (by have:=hc.2; omega) k2
     intro Q
     unfold Oper.wp
     rw [hrun,Oper.upon_skip,hd]
     refine ⟨_,g,l,hw,?_⟩
     have hwr:s.wrs [.cells i off vs]={ s with boxes:=put s.boxes i (splice cs off vs) }:=by simp only [S.wrs,S.wr,hi]
     rw [hwr]
     exact h4
    ·exact hw.elim
   ·exact hw.elim
  cases lv with
  | uniq e z es=>
   obtain ⟨t,rfl,rfl,ht⟩:=hu e z es rfl
   simp only at hw
   split at hw
   ·rename_i hc
    obtain ⟨ha,rfl,hlt,heK⟩:=hc
    have hcs:cs[off]?=some cs[off]:=List.getElem?_eq_getElem hlt
    have hs1:Sim cx { s with tmps:=put s.tmps t (.v (.sl z es)),boxes:=put s.boxes i (splice cs off [.junk]) } g l a w:=by
     refine h.leF (fun k v hk=>?_) (fun k v hk=>by
       simp only [lk_put] at hk
       split at hk
       ·rename_i e0
        subst e0
        injection hk with hk
        subst hk
        exact ⟨cs,hi,WLs.splice1 hcs (WL.junk (fun es2 e2=>by
         obtain ⟨b2,-,-,-,cur,t2,-,-,h6⟩:=h.bx i cs hi
         have:=(h6 off hlt).2.2
         rw [e2] at this
         exact this) (fun c2 ps2 e2=>by
         obtain ⟨b2,-,-,-,cur,t2,-,-,h6⟩:=h.bx i cs hi
         have:=(h6 off hlt).2.2
         rw [e2] at this
         exact this))⟩
       ·exact ⟨v,hk,WLs.refl v⟩) (same_le WLs.refl _)
     simp only [lk_put] at hk
     split at hk
     ·rename_i e0; subst e0; injection hk with hk; subst hk; exact .inr ⟨_,ht,.inr ⟨rfl,wlE heK⟩⟩
     ·exact .inr ⟨v,hk,WL.refl v⟩
    obtain ⟨l',k1,k2,kL⟩:=hs1.transfer (p := .t t) (q := .b i off) hr (fun e2 z2 es2 he=>by simp only [lk_put,if_true] at he; injection he with he; cases he)
     (fun ds hds e2 z2 es2 he=>by
      simp only [lk_put,if_true,Option.some.injEq] at hds
      subst hds
      rw [splice_get _ _ _ (by simp; omega)] at he
      simp at he)
    have hone:(a.eval (.tmp t)).oneCell'=true:=by
     rcases hr with (⟨hv,-⟩ | ⟨a',hv,-⟩) | ⟨b',off',cap,cur,hv,-⟩ <;> rw [hv] <;> rfl
    have hc:(a.eval (.tmp t)).cells = #[a.eval (.tmp t)]:=by
     generalize a.eval (.tmp t)=v at hone
     cases v <;> first | rfl | cases hone
    obtain ⟨b',cur,e',h1,h2,h3,h4,-⟩:=k1.wbox (i:=i) (cs:=splice cs off [.junk]) (by simp only [lk_put,if_true]) off [.uniq e z es] [a.eval (.tmp t)] rfl (by rw [splice_length]; simp; omega) (fun j hj hj'=>by
      have:j=0:=by simpa using hj
      subst this
      exact ⟨rfl,hone,k2⟩)
    have hb':l.L i=some b:=hb
    have hLL:l'.L i=some b:=by rw [kL]; exact hb'
    rw [hLL] at h1
    injection h1 with h1
    subst h1
    rw [splice_length] at h3
    have hrun:=run_store_blk (P:=P) ho hx rfl hm h2 (by rw [hc]; rfl) oM (by rw [hc]; simpa using hone)
    rw [hc] at hrun
    intro Q
    unfold Oper.wp
    rw [hrun,Oper.upon_skip,hd]
    refine ⟨_,g,l',hw,?_⟩
    have hwr:s.wrs [.tmp t (.v (.sl z es)),.cells i off [.uniq e z es]]={ s with tmps:=put s.tmps t (.v (.sl z es)),boxes:=put s.boxes i (splice cs off [.uniq e z es]) }:=by simp only [S.wrs,S.wr,hi]
    rw [hwr]
    refine h4.congr (fun _=>rfl) (fun k=>by simp only [lk_put,splice_splice1 cs off _ _ hlt]; split <;> rfl) (fun _=>rfl)
   ·exact hw.elim
  | v p=>exact plain sM hw
  | full z es=>exact plain sM hw
  | lp j oo=>exact plain sM hw
  | junk=>exact plain sM hw
  | mm _=>exact hr.elim
  | row _ _=>exact hr.elim
 ·exact hw.elim
theorem stX_sound{ty:TypeId}{x y:Operand}{i off b:Nat}{cs:List LV}{lv:LV}{u:UL}(ho:o.op = .store ty x y)(hd:o.dst=none)(h:Sim cx s g l a w)(hi:lk s.ext i=some cs)(hb:g.X i=some b)
  (hx:a.eval x = .pointer (some ⟨b,off,none⟩)) (hr:RepL g l w u lv (a.eval y)) (hu:∀e z es,lv = .uniq e z es->∃t,y = .tmp t/\u = .t t/\lk s.tmps t=some lv)
  (hnm:notMM cs=true) (hw:(stGo P ty y lv cs off (.ext i off)).wp s K):OpOK P cx s o K a w:=by
 unfold stGo at hw
 split at hw
 ·rename_i m hm
  have plain:(∀e z es,lv ≠ .uniq e z es)->((match stV P ty lv with
   | some vs=>if vs.length=m/\off+m<=cs.length then RM.ret [Wr.ext i off vs] else RM.fail
   | none=>RM.fail):RM (List Wr)).wp s K->OpOK P cx s o K a w:=by
   intro _ hw
   split at hw
   ·rename_i vs hvs
    split at hw
    ·rename_i hc
     obtain ⟨k1,k2,k3⟩:=stV_rep (f:=fun j => .x i (off+j)) hvs hr
     obtain ⟨b',cur,e,h1,h2,h3,h4,-⟩:=h.wext hi off vs (a.eval y).cells.toList k1 (by rw [hc.1]; exact hc.2) k3 (notMM_not hnm)
     rw [hb] at h1
     injection h1 with h1
     subst h1
     have hrun:=run_store_blk (P:=P) ho hx rfl hm h2 (by rw [<-k1]; exact hc.1) (by have:=hc.2; omega) k2
     intro Q
     unfold Oper.wp
     rw [hrun,Oper.upon_skip,hd]
     refine ⟨_,g,l,hw,?_⟩
     have hwr:s.wrs [.ext i off vs]={ s with ext:=put s.ext i (splice cs off vs) }:=by simp only [S.wrs,S.wr,hi]
     rw [hwr]
     exact h4
    ·exact hw.elim
   ·exact hw.elim
  cases lv with
  | uniq e z es=>
   obtain ⟨t,rfl,rfl,ht⟩:=hu e z es rfl
   simp only at hw
   split at hw
   ·rename_i hc
    obtain ⟨ha,rfl,hlt,heK⟩:=hc
    have hcs:cs[off]?=some cs[off]:=List.getElem?_eq_getElem hlt
    have hmm:∀es,cs[off] ≠ .mm es:=fun es2 e2=>by
     obtain ⟨b2,-,-,hE⟩:=h.ex i cs hi
     rcases hE with ⟨-,cur,t2,-,-,h6⟩ | hE
     ·have:=(h6 off hlt).2.2
      rw [e2] at this
      exact this
     ·exact hE.plain (notMM_not hnm)
    have hrw:∀c ps,cs[off] ≠ .row c ps:=fun c2 ps2 e2=>by
     obtain ⟨b2,-,-,hE⟩:=h.ex i cs hi
     rcases hE with ⟨-,cur,t2,-,-,h6⟩ | hE
     ·have:=(h6 off hlt).2.2
      rw [e2] at this
      exact this
     ·exact hE.plain (notMM_not hnm)
    have hs1:Sim cx { s with tmps:=put s.tmps t (.v (.sl z es)),ext:=put s.ext i (splice cs off [.junk]) } g l a w:=by
     refine h.leF (fun k v hk=>?_) (same_le WLs.refl _) (fun k v hk=>by
       simp only [lk_put] at hk
       split at hk
       ·rename_i e0
        subst e0
        injection hk with hk
        subst hk
        exact ⟨cs,hi,WLs.splice1 hcs (WL.junk hmm hrw)⟩
       ·exact ⟨v,hk,WLs.refl v⟩) (by simp only [cnt_put_old hi]; exact Nat.le_refl _)
     simp only [lk_put] at hk
     split at hk
     ·rename_i e0; subst e0; injection hk with hk; subst hk; exact .inr ⟨_,ht,.inr ⟨rfl,wlE heK⟩⟩
     ·exact .inr ⟨v,hk,WL.refl v⟩
    obtain ⟨l',k1,k2,kL⟩:=hs1.transfer (p := .t t) (q := .x i off) hr (fun e2 z2 es2 he=>by simp only [lk_put,if_true] at he; injection he with he; cases he)
     (fun ds hds e2 z2 es2 he=>by
      simp only [lk_put,if_true,Option.some.injEq] at hds
      subst hds
      rw [splice_get _ _ _ (by simp; omega)] at he
      simp at he)
    have hone:(a.eval (.tmp t)).oneCell'=true:=by
     rcases hr with (⟨hv,-⟩ | ⟨a',hv,-⟩) | ⟨b',off',cap,cur,hv,-⟩ <;> rw [hv] <;> rfl
    have hc:(a.eval (.tmp t)).cells = #[a.eval (.tmp t)]:=by
     generalize a.eval (.tmp t)=v at hone
     cases v <;> first | rfl | cases hone
    obtain ⟨b',cur,e',h1,h2,h3,h4,-⟩:=k1.wext (i:=i) (cs:=splice cs off [.junk]) (by simp only [lk_put,if_true]) off [.uniq e z es] [a.eval (.tmp t)] rfl (by rw [splice_length]; simp; omega) (fun j hj hj'=>by
      have:j=0:=by simpa using hj
      subst this
      exact ⟨rfl,hone,k2⟩) ⟨fun es2 hs=>by
      have h0:=hs.inv
      have h1:=splice_get cs off [LV.junk] (by simp; omega) off
      rw [h0] at h1
      have hl:=congrArg List.length h0
      rw [splice_length] at hl
      have:off=0:=by simp at hl; omega
      subst this
      simp at h1,fun c2 ps2 h0=>by
      have h1:=splice_get cs off [LV.junk] (by simp; omega) off
      rw [h0] at h1
      have hl:=congrArg List.length h0
      rw [splice_length] at hl
      have:off=0:=by simp at hl; omega
      subst this
      simp at h1⟩
    have hb':g.X i=some b:=hb
    rw [hb'] at h1
    injection h1 with h1
    subst h1
    rw [splice_length] at h3
    have hrun:=run_store_blk (P:=P) ho hx rfl hm h2 (by rw [hc]; rfl) oM (by rw [hc]; simpa using hone)
    rw [hc] at hrun
    intro Q
    unfold Oper.wp
    rw [hrun,Oper.upon_skip,hd]
    refine ⟨_,g,l',hw,?_⟩
    have hwr:s.wrs [.tmp t (.v (.sl z es)),.ext i off [.uniq e z es]]={ s with tmps:=put s.tmps t (.v (.sl z es)),ext:=put s.ext i (splice cs off [.uniq e z es]) }:=by simp only [S.wrs,S.wr,hi]
    rw [hwr]
    refine h4.congr (fun _=>rfl) (fun _=>rfl) (fun k=>by simp only [lk_put,splice_splice1 cs off _ _ hlt]; split <;> rfl) (by simp only [cnt_put]; omega)
   ·exact hw.elim
  | v p=>exact plain sM hw
  | full z es=>exact plain sM hw
  | lp j oo=>exact plain sM hw
  | junk=>exact plain sM hw
  | mm _=>exact hr.elim
  | row _ _=>exact hr.elim
 ·exact hw.elim
theorem stY_sound{ty:TypeId}{x y:Operand}{n c off:Nat}{cs:List LV}{ps:List Int}{p:Int}(ho:o.op = .store ty x y)(hd:o.dst=none)(h:Sim cx s g l a w)(hi:lk s.ext n=some cs)(hrow:rowOf cs=some (c,ps))
  (hx:∀b,g.Y n c=some b->a.eval x = .pointer (some ⟨b,off,none⟩)) (hr:Rep g w (.int .i64 p) (a.eval y)) (hm:csz P ty=some 1) (hlt:off<ps.length) (hw:K [.ext n 0 [.row c (ps.set off p)]]):OpOK P cx s o K a w:=by
 obtain ⟨b,hY,hO,hF,hM,cur,e,h4,h5,h6⟩:=row_at h hi hrow
 have hcs:=rowOf_inv hrow
 subst hcs
 have h1:=Rep.one hr rfl
 have hc:(a.eval y).cells = #[a.eval y]:=by
  generalize a.eval y=v at h1
  cases v <;> first | rfl | cases h1
 have hrun:=run_store_blk (P:=P) ho (hx b hY) rfl hm h4 (by rw [hc]; rfl) oM (by rw [hc]; simpa using h1)
 rw [hc] at hrun
 have hlt2:off<cur.size:=by omega
 have hg:∀j,((splice cur.toList off [a.eval y]).toArray.getD j undef)=if j=off then a.eval y else cur.getD j undef:=fun j=>by
  have hfit:off+[a.eval y].length<=cur.toList.length:=by simp; omega
  have g2:=splice_get cur.toList off [a.eval y] hfit j
  have g3:((splice cur.toList off [a.eval y]).toArray.getD j undef)=((splice cur.toList off [a.eval y])[j]?).getD undef:=by simp [Array.getD_eq_getD_getElem?]
  rw [g3,g2]
  by_cases hj:j=off
  ·subst hj; simp
  ·rw [iN hj,iN (by simp only [List.length_singleton]; omega)]
   simp [Array.getD_eq_getD_getElem?]
 have k1:=h.rowset (c2:=c) (ps':=ps.set off p) (cur':=(splice cur.toList off [a.eval y]).toArray) hi hY hO hF hM h4 (by simp [splice_length]) (.inl rfl) (by simp [splice_length]; omega) (fun j hj=>by
  have hj2:j<ps.length:=by simpa using hj
  rw [hg j]
  by_cases hjo:j=off
  ·subst hjo
   rw [iP rfl]
   refine ⟨h1,?_⟩
   rw [List.getElem_set_self]; exact hr
  ·rw [iN hjo,List.getElem_set_ne oM]
   exact h6 j hj2)
 intro Q
 unfold Oper.wp
 rw [hrun,Oper.upon_skip,hd]
 refine ⟨_,{ g with Y:=updY g.Y n c b },l,hw,?_⟩
 have hwr:s.wrs [.ext n 0 [.row c (ps.set off p)]]={ s with ext:=put s.ext n (splice [.row c ps] 0 [.row c (ps.set off p)]) }:=by simp only [S.wrs,S.wr,hi]
 rw [hwr]
 exact k1
theorem actStore_sound{ty:TypeId}{x y:Operand}(ho:o.op = .store ty x y)(h:Sim cx s g l a w)(hw:(actStore P o ty x y).wp s K):OpOK P cx s o K a w:=by
 unfold actStore at hw
 split at hw
 ·rename_i hd
  obtain ⟨lp,u,h1,r1,-⟩:=ev_sound h hw
  obtain ⟨lv,u2,h2,r2,hu2⟩:=ev_sound h h1
  split at h2
  ·rename_i i off
   simp only [RM.wp] at h2
   split at h2
   ·rename_i cs hcs
    obtain ⟨b,k1,k2⟩:=r1
    exact stB_sound ho hd h hcs k1 k2 r2 hu2 h2
   ·exact h2.elim
  ·rename_i m off
   simp only [RM.wp] at h2
   split at h2
   ·rename_i cs hcs
    have hx:∃b,g.X m=some b/\a.eval x = .pointer (some ⟨b,off,none⟩):=by
     generalize a.eval x=vx at r1
     cases r1 with
     | xp _ _ b' hx=>exact ⟨b',hx,rfl⟩
    obtain ⟨b,k1,k2⟩:=hx
    split at h2
    ·rename_i hnm; exact stX_sound ho hd h hcs k1 k2 r2 hu2 hnm h2
    ·exact h2.elim
   ·exact h2.elim
  ·rename_i m c off
   simp only [RM.wp] at h2
   split at h2
   ·rename_i cs hcs
    split at h2
    ·rename_i c' ps p hrow hp
     split at h2
     ·rename_i hc1
      obtain ⟨hm,ha⟩:=hc1
      simp only [RM.wp] at h2
      obtain ⟨hdd,h2⟩:=h2
      obtain ⟨rfl,hlt⟩:=of_decide_eq_true hdd
      exact stY_sound ho hd h hcs hrow (by
       intro b hb
       generalize a.eval x=vx at r1
       cases r1 with
       | yp _ _ _ b' hx=>
        rw [hx] at hb
        injection hb with hb
        rw [hb]) (toP_rep hp r2) hm hlt h2
     ·exact h2.elim
    ·exact h2.elim
   ·exact h2.elim
  ·exact h2.elim
 ·exact hw.elim
end
section
variable {P:Program} {cx:Cx} {s t:S} {g:Gh} {l:LG} {a:Act} {w:World} {o:Oper} {K:List Wr->Prop}
def elsOf:LV->Option (List (List PV))
 | .v .nilsl=>some []
 | lv=>(slOf lv).map (·.2)
def szOf:LV->Option Nat
 | .v .nilsl=>none
 | lv=>(slOf lv).map (·.1)
def okZ(z:Nat)(lv:LV):Bool:=match szOf lv with
 | some z'=>z'==z
 | none=>true
def appS(e z:Nat):LV->Option (List (List PV))
 | .v .nilsl=>some []
 | .full z' es=>if z'=z then some es else none
 | .uniq e' z' es=>if btE e'=e/\z'=z then some es else none
 | _=>none
def actApp(P:Program)(n:Nat)(o:Oper)(ty:TypeId)(x y:Operand):RM (List Wr):=match elemT P ty,o.dst with
 | some e,some d=>match csz P e,cbytes P e,zro P e with
  | some (m+1),some (B+1),some zs=>if d<n/\zs.length=m+1/\e<1000000 then ev x fun lx=>ev y fun ly=>match appS e (m+1) lx,elsOf ly with
   | some es,some ys=>if okZ (m+1) ly=true then .assume (decide ((es++ys).length * (B+1)<=140737488355328)) (match lx,x with
    | .uniq e1 _ _,.tmp t=>if t≠d then (if e1<1000000 then .ret [.tmp t (.v (.sl (m+1) es)),.tmp d (.uniq e1 (m+1) (es++ys))] else .ret [.tmp t .junk,.tmp d (.uniq e1 (m+1) (es++ys))]) else .fail
    | _,_ => .ret [.tmp d (.uniq e (m+1) (es++ys))]) else .fail
   | _,_ => .fail
   else .fail
  | _,_,_ => .fail
 | _,_ => .fail
theorem run_append_zero{ty e:TypeId}{i:TypeInfo}{rt:TypeId}{A B:Option Addr}{n cap c:Nat}(hu:P.underlying ty=some (.slice e))(hi:P.info? e=some i)(hle:n<=cap) :
  (Builtin.append_ #[ty,ty] rt #[.slice A n cap,.slice B 0 c]).run P w = .ok (.slice A n cap) w:=by
 have hf:(Builtin.firstCells i.size 0 (.slice B 0 c)).run P w = .ok #[] w:=by
  cases B with
  | none=>rfl
  | some b=>simp [Builtin.firstCells,loadCells,loadCellsFrom]
 cases A with
 | none=>simp [Builtin.append_,run_underlying hu,sizeOf,typeInfo,hi,Builtin.lenOf,hle,hf]
 | some a=>simp [Builtin.append_,run_underlying hu,sizeOf,typeInfo,hi,Builtin.lenOf,hle,hf,storeCells]
theorem run_append_roomO(t ty e:TypeId)(i:TypeInfo)(ht:P.underlying t=some (.slice e))(hi:P.info? e=some i)
  (b off sLen sCap:Nat) (cur:Array Value) (hg:w.heap[b]?=some (.cells cur e (0,0)))
  (a:Addr) (m c:Nat) (news:List Value) (hl:news.length=m * i.size) (hnews:∀j u,news[j]?=some u->w.cell? (a.add j)=some u) (h1:∀u∈news,u.oneCell'=true)
  (hroom:sLen+m<=sCap) (hfit:off+sLen * i.size+news.length<=cur.size) :
  (Builtin.append_ #[t,t] ty #[.slice (some ⟨b,off,none⟩) sLen sCap,.slice (some a) m c]).run P w =
   .ok (.slice (some ⟨b,off,none⟩) (sLen+m) sCap) (w.setRow b (cur.toList.take (off+sLen * i.size)++news++cur.toList.drop (off+sLen * i.size+news.length)).toArray):=by
 have hf:=run_firstCells_some (P:=P) w i.size m a m c news hl hnews
 have hst:=run_storeCells_at P b (off+sLen * i.size) e news 0 cur w hg (by simpa using hfit) h1
 simp only [Nat.add_zero] at hst
 simp [Builtin.append_,run_underlying ht,sizeOf,typeInfo,hi,Builtin.lenOf,hroom,hf,Addr.add_lit,hst]
def SrcOK(g:Gh)(l:LG)(w:World)(e e1:TypeId)(z:Nat)(p:Option UL)(es:List (List PV))(v:Value):Prop:=
 (v = .slice none 0 0/\es=[])∨(∃a,v = .slice (some a) es.length es.length/\Rep g w (.sl z es) v/\e1<1000000) ∨
  ∃q b off cap cur,p=some q/\v = .slice (some ⟨b,off,none⟩) es.length cap/\l.U q=some b/\g.M b=some (mkE e1 (es.length * z+off))/\w.heap[b]?=some (.cells cur e (0,0))/\cur.size=cap * z+off/\RowV g w e1 z es cap off cur v
theorem RepAll.app{ps qs:List PV}{us vs:List Value}(h:RepAll g w ps us)(k:RepAll g w qs vs):RepAll g w (ps++qs) (us++vs):=by
 refine ⟨by simp [h.1,k.1],fun j hj hj'=>?_⟩
 simp only [List.getElem_append]
 have hl:=h.1
 split
 ·rw [dif_pos oM]; exact h.2 _ _ _
 ·rw [dif_neg oM]
  simp only [hl]
  exact k.2 _ _ _
theorem app_new(h:Sim cx s g l a w){d:Nat}(hq:noU s (.t d)){e e1:TypeId}(he1:btE e1=e){zv:Value}{m:Nat}{es ys:List (List PV)}{olds news:List Value}{cap:Nat}(hz:zv.cells.size=m+1)
  (hes:∀i (h:i<es.length),es[i].length=m+1) (hys:∀i (h:i<ys.length),ys[i].length=m+1) (ho:RepAll g w es.flatten olds) (hn:RepAll g w ys.flatten news) (ho1:∀u∈olds,u.oneCell'=true) (hn1:∀u∈news,u.oneCell'=true)
  (hge:es.length+ys.length<=cap) (hcap:cap<=maxLen) :
  ∃g' l',Sim cx s g' l' a (w.drew.alloc (.cells (olds.toArray++news.toArray++Builtin.zeroCells zv.cells (cap - (es.length+ys.length))) e)) /\
   RepL g' l' (w.drew.alloc (.cells (olds.toArray++news.toArray++Builtin.zeroCells zv.cells (cap - (es.length+ys.length))) e)) (.t d) (.uniq e1 (m+1) (es++ys)) (.slice (some ⟨w.heap.size,0,none⟩) (es.length+ys.length) cap):=by
 obtain ⟨h1,hm1⟩:=h.drew
 have hol:olds.length=es.length * (m+1):=by rw [<-ho.1,flatten_length _ es hes]
 have hnl:news.length=ys.length * (m+1):=by rw [<-hn.1,flatten_length _ ys hys]
 obtain ⟨g',l',k1,k2,k3⟩:=h1.newrow (.t d) hq (olds.toArray++news.toArray++Builtin.zeroCells zv.cells (cap - (es.length+ys.length))) e he1 (m+1) cap (es++ys) (by
   simp only [Array.size_append,List.size_toArray,size_zeroCells,hz,hol,hnl,<-Nat.add_mul]
   congr 1
   omega) (by simpa using hge) hcap (by
   intro i hi
   rw [List.getElem_append]
   split
   ·exact hes _ _
   ·exact hys _ _) (olds++news) (by rw [List.flatten_append]; exact (ho.mono hm1).app (hn.mono hm1)) (by
   intro u hu
   rcases List.mem_append.1 hu with hu | hu
   ·exact ho1 u hu
   ·exact hn1 u hu) (by
   simp only [Array.toList_append]
   rw [show (es++ys).length * (m+1)=(olds++news).length by rw [List.length_append,List.length_append,Nat.add_mul,hol,hnl]]
   exact List.take_left)
 refine ⟨g',l',k1,?_⟩
 rw [List.length_append] at k3
 exact k3
theorem app_core{ty e e1 rt:TypeId}(he1:btE e1=e){i:TypeInfo}{zv:Value}{m B d:Nat}{es ys:List (List PV)}{p:Option UL}{vx vy:Value}(h:Sim cx s g l a w)(hu:P.underlying ty=some (.slice e))(hi:P.info? e=some i)(hz:i.zero=some zv)
  (hsz:i.size=m+1) (hby:i.bytes=B+1) (hzs:zv.cells.size=m+1) (hq:noU s (.t d)) (hp:∀q,p=some q->noU s q) (hsrc:SrcOK g l w e e1 (m+1) p es vx)
  (hy:(ys=[]/\∃A c,vy = .slice A 0 c)∨∃ay c,vy = .slice (some ay) ys.length c/\Rep g w (.sl (m+1) ys) vy) (hb:(es++ys).length * (B+1)<=140737488355328) :
  ∃v' w' g' l',(Builtin.append_ #[ty,ty] rt #[vx,vy]).run P w = .ok v' w'/\Sim cx s g' l' a w'/\RepL g' l' w' (.t d) (.uniq e1 (m+1) (es++ys)) v':=by
 have hlen:es.length+ys.length<=140737488355328:=by
  rw [List.length_append] at hb
  have:=Nat.le_mul_of_pos_right (es.length+ys.length) (Nat.succ_pos B)
  simp only [Nat.succ_eq_add_one] at this
  omega
 have h63:es.length+ys.length<=maxLen:=by simp only [maxLen]; omega
 by_cases hy0:ys=[]
 ·subst hy0
  have hvy:∃A c,vy = .slice A 0 c:=by
   rcases hy with ⟨-,h⟩ | ⟨ay,c,h,-⟩
   ·exact h
   ·exact ⟨some ay,c,h⟩
  obtain ⟨A,c,rfl⟩:=hvy
  rw [List.append_nil]
  rcases hsrc with ⟨rfl,rfl⟩ | ⟨a',rfl,hR,hR2⟩ | ⟨q,b,off,cap,cur,rfl,rfl,h1,h2,h3,h4,h5⟩
  ·exact ⟨_,w,g,l,run_append_zero hu hi (Nat.le_refl _),h,.inl (.inl ⟨rfl,rfl⟩)⟩
  ·exact ⟨_,w,g,l,run_append_zero hu hi (Nat.le_refl _),h,.inl (.inr ⟨a',rfl,hR,hR2⟩)⟩
  ·obtain ⟨l',k1,k2,-⟩:=h.transfer (p:=q) (q := .t d) (e:=e1) (.inr ⟨b,off,cap,cur,rfl,h1,h2,by rw [he1]; exact h3,h4,h5⟩) (hp q rfl) hq
   exact ⟨_,w,g,l',run_append_zero hu hi (h5.flat h3 h4).1,k1,k2⟩
 ·have hpos:0<ys.length:=List.length_pos_iff.2 hy0
  obtain ⟨ay,c,rfl,hYR⟩:∃ay c,vy = .slice (some ay) ys.length c/\Rep g w (.sl (m+1) ys) vy:=by
   rcases hy with ⟨h,-⟩ | h
   ·exact absurd h hy0
   ·exact h
  obtain ⟨-,-,-,hys,news,hn,hnl,hnc⟩:=hYR.flat
  have hnews:∀j v,news[j]?=some v->w.cell? (ay.add j)=some v:=fun j v hj=>(hnc j v hj).1
  have hn1:∀u∈news,u.oneCell'=true:=fun u hu=>by
   obtain ⟨j,hj,e⟩:=List.getElem_of_mem hu
   exact (hnc j u (by rw [List.getElem?_eq_getElem hj,e])).2.2
  have hnl':news.length=ys.length * i.size:=by rw [hsz]; exact hnl
  have hbytes:(es.length+ys.length) * i.bytes<=140737488355328:=by rw [hby,<-List.length_append]; exact hb
  rcases hsrc with ⟨rfl,rfl⟩ | ⟨a',rfl,hR,-⟩ | ⟨q,b,off,cap,cur,rfl,rfl,h1,h2,h3,h4,hR⟩
  ·have hr:=run_append_nil (P:=P) w ty rt e i zv hu hi hz ay ys.length c news hnl' hnews hpos oM (by simp only [List.length_nil,Nat.zero_add] at hbytes; omega)
   have hge:=grownCap_ge w ys.length 0 e
   have hcm:=grownCap_le_maxLen w ys.length 0 e (by simpa using h63)
   obtain ⟨g',l',k1,k2⟩:=app_new h hq (e:=e) he1 (es:=[]) (olds:=[]) hzs (fun i h=>by simp at h) hys .nil hn sM hn1 (by simpa using hge) hcm
   simp only [List.length_nil,Nat.zero_add,Array.empty_append,List.nil_append] at k1 k2
   exact ⟨_,_,g',l',hr,by simpa using k1,by simpa using k2⟩
  ·obtain ⟨-,-,-,hes,olds,ho,hol,hoc⟩:=hR.flat
   have ho1:∀u∈olds,u.oneCell'=true:=fun u hu=>by
    obtain ⟨j,hj,e⟩:=List.getElem_of_mem hu
    exact (hoc j u (by rw [List.getElem?_eq_getElem hj,e])).2.2
   have hr:=run_append_grow (P:=P) w ty rt e i zv hu hi hz a' es.length es.length olds (by rw [hsz]; exact hol) (fun j v hj=>(hoc j v hj).1) ay ys.length c news hnl' hnews oM oM (growslice_fits oM hbytes)
   have hge:=grownCap_ge w (es.length+ys.length) es.length e
   have hcm:=grownCap_le_maxLen w (es.length+ys.length) es.length e h63
   obtain ⟨g',l',k1,k2⟩:=app_new h hq (e:=e) he1 hzs hes hys ho hn ho1 hn1 hge hcm
   exact ⟨_,_,g',l',hr,k1,k2⟩
  ·obtain ⟨hle,-,hes,-,olds,-,ho,hol,-,hoc⟩:=hR.flat h3 h4
   by_cases hroom:es.length+ys.length<=cap
   ·have hr:=run_append_roomO (P:=P) (w:=w) ty rt e i hu hi b off es.length cap cur h3 ay ys.length c news hnl' hnews hn1 hroom (by
     have h9:(es.length+ys.length) * (m+1)<=cap * (m+1):=Nat.mul_le_mul_right _ hroom
     rw [Nat.add_mul] at h9
     rw [hsz,hnl,h4]; omega)
    obtain ⟨g',l',k1,-,k3⟩:=h.inplace (q := .t d) he1 (hp q rfl) hq h1 h2 h3 h4 hR hys news hn hn1 hroom
    rw [hsz] at hr
    exact ⟨_,_,g',l',hr,k1,k3⟩
   ·have ho1:∀u∈olds,u.oneCell'=true:=fun u hu=>by
     obtain ⟨j,hj,e⟩:=List.getElem_of_mem hu
     exact (hoc j u (by rw [List.getElem?_eq_getElem hj,e])).2
    have hr:=run_append_grow (P:=P) w ty rt e i zv hu hi hz ⟨b,off,none⟩ es.length cap olds (by rw [hsz]; exact hol) (fun j v hj=>by rw [addrO]; exact (hoc j v hj).1) ay ys.length c news hnl' hnews oM oM (growslice_fits oM hbytes)
    have hge:=grownCap_ge w (es.length+ys.length) cap e
    have hcm:=grownCap_le_maxLen w (es.length+ys.length) cap e h63
    obtain ⟨g',l',k1,k2⟩:=app_new h hq (e:=e) he1 hzs hes hys ho hn ho1 hn1 hge hcm
    exact ⟨_,_,g',l',hr,k1,k2⟩
theorem els_rep{ly:LV}{ys:List (List PV)}{z:Nat}{u:UL}{v:Value}(h:elsOf ly=some ys)(hz:okZ z ly=true)(hr:RepL g l w u ly v) :
  (ys=[]/\∃A c,v = .slice A 0 c)∨∃ay c,v = .slice (some ay) ys.length c/\Rep g w (.sl z ys) v:=by
 unfold elsOf at h
 split at h
 ·injection h with h; subst h; cases hr; exact .inl ⟨rfl,_,_,rfl⟩
 ·rename_i hn
  simp only [Option.map_eq_some_iff] at h
  obtain ⟨⟨z',es⟩,hs,rfl⟩:=h
  have hz':z'=z:=by
   have hsz:szOf ly=some z':=by
    unfold szOf
    split
    ·exact absurd rfl hn
    ·rw [hs]; rfl
   unfold okZ at hz
   rw [hsz] at hz
   simpa using hz
  subst hz'
  have hr':=toP_rep (slOf_toP hs) hr
  cases hr' with
  | slnil=>exact .inl ⟨rfl,_,_,rfl⟩
  | sl _ _ ay cap vs k1 k2 k3 k4 k5 k6 k7=>exact .inr ⟨ay,cap,rfl,.sl _ _ ay cap vs k1 k2 k3 k4 k5 k6 k7⟩
theorem cvs_length:∀ {vs:List Value} {ps:List PV},cvs vs=some ps->ps.length=vs.length
 | [],ps,h=>by simp only [cvs,Option.some.injEq] at h; subst h; rfl
 | v::r,ps,h=>by
  simp only [cvs] at h
  split at h
  ·rename_i p qs h1 h2
   injection h with h
   subst h
   simp [cvs_length h2]
  ·cases h
theorem actApp_sound{ty:TypeId}{x y:Operand}(ho:o.op = .call { callee := .builtin .append,args:=#[x,y],argTypes:=#[ty,ty] })(h:Sim cx s g l a w)(hw:(actApp P cx.n o ty x y).wp s K):OpOK P cx s o K a w:=by
 unfold actApp at hw
 split at hw
 ·rename_i e d he hd
  have hu:=elemT_inv he
  split at hw
  ·rename_i m B zs hm hB hz
   split at hw
   ·rename_i hc
    obtain ⟨hdn,hzl,heK⟩:=hc
    obtain ⟨lx,ux,h1,r1,hu1⟩:=ev_sound h hw
    obtain ⟨ly,uy,h2,r2,-⟩:=ev_sound h h1
    obtain ⟨i,zv,z1,z2,z3⟩:=zro_inv hz
    have hsz:i.size=m+1:=by simpa [csz,z1] using hm
    have hby:i.bytes=B+1:=by simpa [cbytes,z1] using hB
    have hzs:zv.cells.size=m+1:=by rw [<-Array.length_toList,<-cvs_length z3]; exact hzl
    split at h2
    ·rename_i es ys hes hys
     split at h2
     ·rename_i hok
      have hb:=of_decide_eq_true h2.1; replace h2:=h2.2
      have hy:=els_rep hys hok r2
      have hex:∀v' w',(Builtin.append_ #[ty,ty] o.type #[a.eval x,a.eval y]).run P w = .ok v' w'->(execOp a.eval o).run P w = .ok (.value v') w':=by
       intro v' w' hr
       simp only [execOp,ho,resolve,invoke,builtin,Sem.run_bind,Sem.run_pure,Result.andThen_ok,List.map_toArray,List.map_cons,List.map_nil,hr]
      have plain:SrcOK g l w e e (m+1) none es (a.eval x)->K [.tmp d (.uniq e (m+1) (es++ys))]->OpOK P cx s o K a w:=by
       intro hsrc hK
       have hs1:Sim cx { s with tmps:=put s.tmps d .junk } g l a w:=by
        refine h.leF (fun k v hk=>?_) (same_le WLs.refl _) (same_le WLs.refl _)
        simp only [lk_put] at hk
        split at hk
        ·injection hk with hk; exact .inl hk.symm
        ·exact .inr ⟨v,hk,WL.refl v⟩
       obtain ⟨v',w',g',l',k1,k2,k3⟩:=app_core (rt:=o.type) (btE_lt heK) (p:=none) hs1 hu z1 z2 hsz hby hzs (noU_put sM) (fun q hq=>by cases hq) hsrc hy hb
       intro Q
       unfold Oper.wp
       rw [hex v' w' k1,Oper.upon_value,hd]
       refine ⟨_,g',l',hK,(k2.set hdn k3).congr (fun k=>?_) (fun _=>rfl) (fun _=>rfl)⟩
       simp only [S.wrs,S.wr,lk_put]
       split <;> rfl
      unfold appS at hes
      split at hes
      ·injection hes with hes
       subst hes
       refine plain (.inl ⟨?_,rfl⟩) h2
       generalize a.eval x=vx at r1
       cases r1; rfl
      ·rename_i z' es'
       split at hes
       ·rename_i hz'
        subst hz'
        injection hes with hes
        subst hes
        refine plain ?_ h2
        rcases r1 with ⟨k1,k2⟩ | ⟨a',k1,k2⟩
        ·exact .inl ⟨k1,k2⟩
        ·exact .inr (.inl ⟨a',k1,k2,heK⟩)
       ·cases hes
      ·rename_i e' z' es'
       split at hes
       ·rename_i hz'
        obtain ⟨rfl,rfl⟩:=hz'
        injection hes with hes
        subst hes
        obtain ⟨t,rfl,rfl,ht⟩:=hu1 _ _ _ rfl
        simp only at h2
        split at h2
        ·rename_i hne
         have key:∀lf:LV,(lf = .junk∨lf = .v (.sl (m+1) es')/\e'<1000000)->K [.tmp t lf,.tmp d (.uniq e' (m+1) (es'++ys))]->OpOK P cx s o K a w:=by
          intro lf hlf hK
          have hs1:Sim cx { s with tmps:=put (put s.tmps t lf) d .junk } g l a w:=by
           refine h.leF (fun k v hk=>?_) (same_le WLs.refl _) (same_le WLs.refl _)
           simp only [lk_put] at hk
           split at hk
           ·injection hk with hk; exact .inl hk.symm
           ·split at hk
            ·rename_i e0; subst e0; injection hk with hk; subst hk; rcases hlf with rfl | ⟨rfl,hlt⟩; exact .inl rfl; exact .inr ⟨_,ht,.inr ⟨rfl,wlE hlt⟩⟩
            ·exact .inr ⟨v,hk,WL.refl v⟩
          have hsrc:SrcOK g l w (btE e') e' (m+1) (some (.t t)) es' (a.eval (.tmp t)):=by
           rcases r1 with (⟨k1,k2⟩ | ⟨a',k1,k2,k3⟩) | ⟨b,off,cap,cur,k1,k2,k3,k4,k5,k6⟩
           ·exact .inl ⟨k1,k2⟩
           ·exact .inr (.inl ⟨a',k1,k2,k3⟩)
           ·exact .inr (.inr ⟨.t t,b,off,cap,cur,rfl,k1,k2,k3,k4,k5,k6⟩)
          obtain ⟨v',w',g',l',k1,k2,k3⟩:=app_core (rt:=o.type) rfl (p:=some (.t t)) (d:=d) hs1 hu z1 z2 hsz hby hzs (fun e2 z2 es2 he=>by simp only [lk_put,if_true] at he; injection he with he; cases he)
           (fun q hq=>by
            injection hq with hq
            subst hq
            intro e2 z2 es2 he
            simp only [lk_put,iN (Ne.symm hne),if_true] at he
            injection he with he
            rcases hlf with h0 | ⟨h0,-⟩ <;> (rw [h0] at he; cases he)) hsrc hy hb
          intro Q
          unfold Oper.wp
          rw [hex v' w' k1,Oper.upon_value,hd]
          refine ⟨_,g',l',hK,(k2.set hdn k3).congr (fun k=>?_) (fun _=>rfl) (fun _=>rfl)⟩
          simp only [S.wrs,S.wr,lk_put]
          split <;> rfl
         split at h2
         ·rename_i hlt; exact key _ (.inr ⟨rfl,hlt⟩) h2
         ·exact key _ (.inl rfl) h2
        ·exact h2.elim
       ·cases hes
      ·cases hes
     ·exact h2.elim
    ·exact h2.elim
   ·exact hw.elim
  ·exact hw.elim
 ·exact hw.elim
end
def mget{κ:Type} [DecidableEq κ] (k:κ):List (κ × PV)->Option PV
 | []=>none
 | x::r=>if x.1=k then some x.2 else mget k r
def mupd{κ:Type} [DecidableEq κ] (k:κ) (v:PV):List (κ × PV)->List (κ × PV)
 | []=>[(k,v)]
 | x::r=>if x.1=k then (k,v)::r else x::mupd k v r
theorem mget_none{κ:Type} [DecidableEq κ] {k:κ}:∀ {es:List (κ × PV)},(∀x∈es,x.1≠k)->mget k es=none
 | [],_=>rfl
 | x::r,h=>by
  simp only [mget,h x sM,if_false]
  exact mget_none fun y hy=>h y (List.mem_cons_of_mem _ hy)
theorem mupd_new{κ:Type} [DecidableEq κ] {k:κ} {v:PV}:∀ {es:List (κ × PV)},(∀x∈es,x.1≠k)->mupd k v es=es++[(k,v)]
 | [],_=>rfl
 | x::r,h=>by
  simp only [mupd,h x sM,if_false,List.cons_append]
  rw [mupd_new fun y hy=>h y (List.mem_cons_of_mem _ hy)]
theorem mget_at{κ:Type} [DecidableEq κ] {k:κ}:∀ {es:List (κ × PV)} {j:Nat} (hj:j<es.length),es[j].1=k->(∀i (h:i<es.length),i<j->es[i].1≠k)->mget k es=some es[j].2
 | [],j,hj,_,_=>by simp at hj
 | x::r,0,_,h,_=>by simp only [List.getElem_cons_zero] at h; simp [mget,h]
 | x::r,j+1,hj,h,hn=>by
  have h0:=hn 0 sM oM
  simp only [List.getElem_cons_zero] at h0
  simp only [mget,h0,if_false,List.getElem_cons_succ]
  exact mget_at (by simpa using hj) (by simpa using h) fun i hi hij=>hn (i+1) (by simpa using hi) oM
theorem mupd_at{κ:Type} [DecidableEq κ] {k:κ} {v:PV}:∀ {es:List (κ × PV)} {j:Nat} (hj:j<es.length),es[j].1=k->(∀i (h:i<es.length),i<j->es[i].1≠k)->mupd k v es=es.set j (k,v)
 | [],j,hj,_,_=>by simp at hj
 | x::r,0,_,h,_=>by simp only [List.getElem_cons_zero] at h; simp [mupd,h]
 | x::r,j+1,hj,h,hn=>by
  have h0:=hn 0 sM oM
  simp only [List.getElem_cons_zero] at h0
  simp only [mupd,h0,if_false,List.set_cons_succ]
  rw [mupd_at (by simpa using hj) (by simpa using h) fun i hi hij=>hn (i+1) (by simpa using hi) oM]
def mdel{κ:Type} [DecidableEq κ] (k:κ):List (κ × PV)->List (κ × PV)
 | []=>[]
 | x::r=>if x.1=k then r else x::mdel k r
theorem mdel_none{κ:Type} [DecidableEq κ] {k:κ}:∀ {es:List (κ × PV)},(∀x∈es,x.1≠k)->mdel k es=es
 | [],_=>rfl
 | x::r,h=>by
  simp only [mdel,h x sM,if_false]
  rw [mdel_none fun y hy=>h y (List.mem_cons_of_mem _ hy)]
theorem mdel_at{κ:Type} [DecidableEq κ] {k:κ}:∀ {es:List (κ × PV)} {j:Nat} (hj:j<es.length),es[j].1=k->(∀i (h:i<es.length),i<j->es[i].1≠k)->mdel k es=es.eraseIdx j
 | [],j,hj,_,_=>by simp at hj
 | x::r,0,_,h,_=>by simp only [List.getElem_cons_zero] at h; simp [mdel,h]
 | x::r,j+1,hj,h,hn=>by
  have h0:=hn 0 sM oM
  simp only [List.getElem_cons_zero] at h0
  simp only [mdel,h0,if_false,List.eraseIdx_cons_succ]
  rw [mdel_at (by simpa using hj) (by simpa using h) fun i hi hij=>hn (i+1) (by simpa using hi) oM]
structure KeyOK {κ:Type} (d:TypeDesc) (kv:κ->Value):Prop where
 key:∀k,MapKept.IsKey d (kv k)
 inj:∀ {a b},kv a=kv b->a=b
theorem key_s:KeyOK .string Value.string:=⟨fun _=>trivial,fun h=>by injection h⟩
theorem key_i:KeyOK (.int .i64) (Value.int .i64):=⟨fun _=>rfl,fun h=>by injection h⟩
section
variable {P:Program} {cx:Cx} {s t:S} {g:Gh} {l:LG} {a:Act} {w:World} {o:Oper} {K:List Wr->Prop}
section
variable {κ:Type} {d:TypeDesc} {kv:κ->Value} {es:List (κ × PV)} {arr:Array MapEntry} {clock:Nat}
theorem MapR.keys(ko:KeyOK d kv)(h:MapR kv g w es arr clock):∀x∈arr.toList,MapKept.IsKey d x.key:=fun x hx=>by
 obtain ⟨-,h2,h3⟩:=h
 obtain ⟨j,hj,e⟩:=List.getElem_of_mem hx
 have hj':j<arr.size:=by simpa using hj
 have:=(h3 j oM hj').1
 have e':arr[j]=x:=by simpa using e
 rw [e'] at this
 rw [this]
 exact ko.key _
theorem MapR.find(ko:KeyOK d kv)(h:MapR kv g w es arr clock)(k:κ) :
  (Instr.findNow d (kv k) arr.toList 0=some none/\(∀x∈arr.toList,x.key≠kv k)/\∀x∈es,x.1≠k) ∨
  ∃ (j:Nat) (hj:j<es.length) (hj':j<arr.size),Instr.findNow d (kv k) arr.toList 0=some (some (j,arr[j].val))/\arr[j].key=kv k/\es[j].1=k/\(∀i (h:i<es.length),i<j->es[i].1≠k):=by
 have hk:=h.keys ko
 obtain ⟨hs,h2,h3⟩:=h
 rcases MapKept.findNow_spec (d:=d) (k:=kv k) (ko.key k) arr.toList 0 hk with ⟨h4,h5⟩ | ⟨j,e,h4,h5,h6⟩
 ·refine .inl ⟨h4,h5,fun x hx e=>?_⟩
  obtain ⟨j,hj,e1⟩:=List.getElem_of_mem hx
  have hj':j<arr.size:=by omega
  have:=(h3 j hj hj').1
  exact h5 arr[j] sM (by rw [this,e1,e])
 ·rw [Nat.zero_add] at h4
  have hj':j<arr.size:=by simpa using (List.getElem?_eq_some_iff.1 h5).1
  have e1:arr[j]=e:=by
   have:=(List.getElem?_eq_some_iff.1 h5).2
   simpa using this
  have hj:j<es.length:=by omega
  subst e1
  have hkj:=(h3 j hj hj').1
  refine .inr ⟨j,hj,hj',h4,h6,?_,fun i hi hij ei=>?_⟩
  ·rw [hkj] at h6; exact ko.inj h6
  ·have hi':i<arr.size:=by omega
   have hki:=(h3 i hi hi').1
   have hnd:=hs.2.2
   have h7:(arr.toList.map (·.key))[i]'(by simpa using hi')=(arr.toList.map (·.key))[j]'(by simpa using hj'):=by simp [hki,h6,ei]
   exact List.pairwise_iff_getElem.1 hnd i j (by simpa using hi') (by simpa using hj') hij h7
theorem MapR.upd [DecidableEq κ] (ko:KeyOK d kv) (hR:MapR kv g w es arr clock) {kt et ty:TypeId} (hu:P.underlying ty=some (.map kt et)) (hk:P.underlying kt=some d) {b:Nat} (hh:w.heap[b]?=some (.map arr clock)) (k:κ) {x:Value} {px:PV} (r3:Rep g w px x) :
  ∃arr' clock',(Instr.mapUpdate ty (.map (some b)) (kv k) x).run P w = .ok () { w with heap:=w.heap.setIfInBounds b (.map arr' clock') }/\MapR kv g w (mupd k px es) arr' clock':=by
 rcases hR.find ko k with ⟨f1,f2,f3⟩ | ⟨j,hj,hj',f1,f2,f3,f4⟩
 ·refine ⟨arr.push { key:=kv k,val:=x,born:=clock },clock+1,?_,?_⟩
  ·simp [Instr.mapUpdate,run_underlying hu,MapKept.run_getObj_map hh,MapKept.run_checkKey hk (ko.key k),MapKept.run_findKey hk f1,MapKept.run_setObj_map _ hh,Result.andThen]
  ·rw [mupd_new f3]
   obtain ⟨q1,q2,q3⟩:=hR
   refine ⟨MapKept.stamped_push q1 f2,by simp [q2],fun j hj hj'=>?_⟩
   by_cases hjl:j<es.length
   ·have hja:j<arr.size:=by omega
    rw [List.getElem_append_left hjl,Array.getElem_push_lt hja]
    exact q3 j hjl hja
   ·have hje:j=es.length:=by simp at hj; omega
    subst hje
    simp only [List.getElem_append_right (Nat.le_refl _),Nat.sub_self,List.getElem_cons_zero]
    have:(arr.push { key:=kv k,val:=x,born:=clock })[es.length]={ key:=kv k,val:=x,born:=clock }:=by simp [<-q2]
    rw [this]
    exact ⟨rfl,r3⟩
 ·refine ⟨arr.modify j fun e=>{ e with key:=kv k,val:=x },clock,?_,?_⟩
  ·have hja:arr[j]?=some arr[j]:=Array.getElem?_eq_getElem hj'
   simp [Instr.mapUpdate,run_underlying hu,MapKept.run_getObj_map hh,MapKept.run_checkKey hk (ko.key k),MapKept.run_findKey hk f1,hja,f2,MapKept.run_keyThatStays (d:=d) (k:=kv k) (ko.key k),MapKept.run_setObj_map _ hh,Result.andThen]
  ·rw [mupd_at hj f3 f4]
   obtain ⟨q1,q2,q3⟩:=hR
   refine ⟨MapKept.stamped_modify q1 _ _ (fun _ _=>rfl) (fun e' _ he'=>?_),by simp [q2],fun i hi hi'=>?_⟩
   ·rw [Array.getElem?_eq_getElem hj'] at he'
    injection he' with he'
    rw [<-he',f2]
   ·have hi2:i<es.length:=by simpa using hi
    have hi3:i<arr.size:=by simpa using hi'
    rw [Array.getElem_modify,List.getElem_set]
    by_cases hij:j=i
    ·subst hij; simp only [if_true]; exact ⟨trivial,r3⟩
    ·simp only [hij,if_false]; exact q3 i hi2 hi3
theorem MapR.del [DecidableEq κ] (ko:KeyOK d kv) (hR:MapR kv g w es arr clock) {kt et ty ty2 ty3:TypeId} (hu:P.underlying ty=some (.map kt et)) (hk:P.underlying kt=some d) {b:Nat} (hh:w.heap[b]?=some (.map arr clock)) (k:κ) :
  ∃arr' clock',(Builtin.delete_ #[ty,ty2] ty3 #[.map (some b),kv k]).run P w = .ok (.tuple #[]) { w with heap:=w.heap.setIfInBounds b (.map arr' clock') }/\MapR kv g w (mdel k es) arr' clock':=by
 rcases hR.find ko k with ⟨f1,f2,f3⟩ | ⟨j,hj,hj',f1,f2,f3,f4⟩
 ·refine ⟨arr,clock,?_,?_⟩
  ·simp [Builtin.delete_,run_underlying hu,MapKept.run_getObj_map hh,MapKept.run_checkKey hk (ko.key k),MapKept.run_findKey hk f1,MapKept.run_setObj_map _ hh,Result.andThen]
  ·rw [mdel_none f3]; exact hR
 ·refine ⟨arr.eraseIdxIfInBounds j,clock,?_,?_⟩
  ·simp [Builtin.delete_,run_underlying hu,MapKept.run_getObj_map hh,MapKept.run_checkKey hk (ko.key k),MapKept.run_findKey hk f1,MapKept.run_setObj_map _ hh,Result.andThen]
  ·rw [mdel_at hj f3 f4]
   obtain ⟨q1,q2,q3⟩:=hR
   have e:arr.eraseIdxIfInBounds j=arr.eraseIdx j hj':=by unfold Array.eraseIdxIfInBounds; rw [dif_pos hj']
   refine ⟨MapKept.stamped_erase q1 j,by rw [e,Array.size_eraseIdx,List.length_eraseIdx_of_lt hj,q2],fun i hi hi'=>?_⟩
   have hi2:i<es.length - 1:=by rw [List.length_eraseIdx_of_lt hj] at hi; exact hi
   simp only [e]
   rw [Array.getElem_eraseIdx,List.getElem_eraseIdx]
   by_cases hij:i<j
   ·rw [dif_pos hij,dif_pos hij]; exact q3 i oM oM
   ·rw [dif_neg hij,dif_neg hij]; exact q3 (i+1) oM oM
end
theorem mono_setObj{b:Nat}{ob ob':Obj}(hM:g.M b=some 0)(h4:w.heap[b]?=some ob)(hnc:∀cur e z,ob ≠ .cells cur e z):Mono g w g { w with heap:=w.heap.setIfInBounds b ob' }:=by
 have hs:=MapKept.heap_set (o':=ob') h4
 refine ⟨fun _ _ e=>e,fun b' o v hc hf=>⟨?_,hf⟩,fun b' cur e hh=>?_,fun _ _ _ h=>h,fun b' arr2 c hh hn=>have hne:b'≠b:=(by rintro rfl; rw [hM] at hn; cases hn); ⟨(hs.2 b' hne).trans hh,hn⟩⟩
 ·have hne:b'≠b:=by
   rintro rfl
   unfold World.cell? at hc
   rw [h4] at hc
   cases ob <;> first | (exact hnc _ _ _ rfl) | (simp at hc)
  rw [<-hc]
  exact World.cell?_of_block (hs.2 b' hne)
 ·have hne:b'≠b:=by rintro rfl; rw [h4] at hh; injection hh with hh; exact hnc _ _ _ hh
  exact ⟨cur,(hs.2 b' hne).trans hh,rfl⟩
theorem Sim.turnO(h:Sim cx s g l a w){i b:Nat}{es es':MM}{ob ob':Obj}(hi:lk s.ext i=some [.mm es])(h1:g.X i=some b)(h2:l.O b=some (.x i))(hM0:g.M b=some 0)(h4:w.heap[b]?=some ob)(hnc:∀cur e z,ob ≠ .cells cur e z)
  (hC:Mono g w g { w with heap:=w.heap.setIfInBounds b ob' }->(w.heap.setIfInBounds b ob')[b]?=some ob'->BlkM g { w with heap:=w.heap.setIfInBounds b ob' } b es') :
  Sim cx { s with ext:=put s.ext i [.mm es'] } g l a { w with heap:=w.heap.setIfInBounds b ob' }:=by
 have hs:=MapKept.heap_set (o':=ob') h4
 have hm:Mono g w g { w with heap:=w.heap.setIfInBounds b ob' }:=mono_setObj hM0 h4 hnc
 have hne:∀ {b' o},l.O b'=some o->o ≠ .x i->b'≠b:=fun {b' o} ho hn e=>by
  subst e
  rw [h2] at ho
  injection ho with ho
  exact hn ho.symm
 have hL:∀ {p lv v},RepL g l w p lv v->RepL g l { w with heap:=w.heap.setIfInBounds b ob' } p lv v:=fun hr=>hr.keep hm (fun _ _ _=>rfl) fun b' hu=>⟨hu,rfl,hs.2 b' (hne (h.uo _ _ hu) sM)⟩
 refine ⟨⟨h.hist.mono.trans hm,by simpa using h.hist.size,fun b' hlt ho=>?_,h.hist.os,h.hist.tape,h.hist.output,h.hist.glb.mono hm⟩,h.size,h.defers,fun t lv ht=>hL (h.tm t lv ht),?_,?_,?_,h.uo,?_,?_⟩
 ·have hnb:b'≠b:=by
   rintro rfl
   rcases (h.own b' _ h2).2 with hb | hb
   ·omega
   ·exact ho hb
  obtain ⟨k1,k2⟩:=h.hist.frame b' hlt ho
  exact ⟨(hs.2 b' hnb).trans k1,k2⟩
 ·intro k cs' hk
  obtain ⟨b',k1,k2,k3,cur',e',k4,k5,k6⟩:=h.bx k cs' hk
  have hn:=hne k2 sM
  exact ⟨b',k1,k2,k3,cur',e',(hs.2 b' hn).trans k4,k5,fun j hj=>⟨(k6 j hj).1,(k6 j hj).2.1,hL (k6 j hj).2.2⟩⟩
 ·intro k cs' hk
  rw [lk_put] at hk
  split at hk
  ·rename_i ek
   subst ek
   injection hk with hk
   subst hk
   exact ⟨b,h1,h2,.inr (.inl ⟨es',rfl,hC hm hs.1⟩)⟩
  ·rename_i ek
   obtain ⟨b',k1,k2,hE⟩:=h.ex k cs' hk
   have hn:=hne k2 (by simp; exact fun e=>ek e.symm)
   refine ⟨b',k1,k2,?_⟩
   rcases hE with ⟨k3,cur',e',k4,k5,k6⟩ | hE
   ·exact .inl ⟨k3,cur',e',(hs.2 b' hn).trans k4,k5,fun j hj=>⟨(k6 j hj).1,(k6 j hj).2.1,hL (k6 j hj).2.2⟩⟩
   ·exact .inr (hE.keep hm (fun _ _ _ h=>h) rfl (hs.2 b' hn))
 ·intro b' o ho
  simpa using h.own b' o ho
 ·exact ⟨fun b' hb'=>h.fresh.1 b' (by simpa using hb'),fun n hn=>h.fresh.2.1 n (by rw [cnt_put_old hi] at hn; exact hn),fun n c hn=>h.fresh.2.2 n c (by rw [cnt_put_old hi] at hn; exact hn)⟩
 ·intro n b' hx
  simpa using h.xlt n b' hx
theorem Sim.turnM(h:Sim cx s g l a w){i b:Nat}{es es':MM}{arr arr':Array MapEntry}{clock clock':Nat}(hi:lk s.ext i=some [.mm es])(h1:g.X i=some b)(h2:l.O b=some (.x i))(hM0:g.M b=some 0)(h4:w.heap[b]?=some (.map arr clock))
  (hC:Mono g w g { w with heap:=w.heap.setIfInBounds b (.map arr' clock') }->(w.heap.setIfInBounds b (.map arr' clock'))[b]?=some (.map arr' clock')->BlkM g { w with heap:=w.heap.setIfInBounds b (.map arr' clock') } b es') :
  Sim cx { s with ext:=put s.ext i [.mm es'] } g l a { w with heap:=w.heap.setIfInBounds b (.map arr' clock') }:=h.turnO hi h1 h2 hM0 h4 (fun _ _ _ e=>by cases e) hC
theorem Sim.wmapM(h:Sim cx s g l a w){i:Nat}{es:MM}(hi:lk s.ext i=some [.mm es]):∃b,g.X i=some b/\l.O b=some (.x i)/\BlkM g w b es:=by
 obtain ⟨b,h1,h2,hE⟩:=h.ex i _ hi
 replace h1:g.X i=some b:=h1
 rcases hE with ⟨-,cur,e,-,-,h6⟩ | ⟨es2,he,hM⟩ | ⟨n0,c0,ps0,-,e0,-⟩
 ·exact ((h6 0 sM).2.2).elim
 ·have he':es=es2:=he
  subst he'
  exact ⟨b,h1,h2,hM⟩
 ·injection e0 with e0 _; cases e0
theorem Sim.wmap(h:Sim cx s g l a w){i:Nat}{es es':List (ByteArray × PV)}(hi:lk s.ext i=some [.mm (.s es)]) :
  ∃b arr clock,g.X i=some b/\w.heap[b]?=some (.map arr clock)/\MapR Value.string g w es arr clock/\∀arr' clock',MapR Value.string g w es' arr' clock'->Sim cx { s with ext:=put s.ext i [.mm (.s es')] } g l a { w with heap:=w.heap.setIfInBounds b (.map arr' clock') }:=by
 obtain ⟨b,h1,h2,hM,arr,clock,h4,hR⟩:=h.wmapM hi
 exact ⟨b,arr,clock,h1,h4,hR,fun arr' clock' hR'=>h.turnM hi h1 h2 hM h4 fun hm hs=>⟨hM,arr',clock',hs,hR'.mono hm⟩⟩
theorem Sim.wmapI(h:Sim cx s g l a w){i:Nat}{es es':List (Int × PV)}(hi:lk s.ext i=some [.mm (.i es)]) :
  ∃b arr clock,g.X i=some b/\w.heap[b]?=some (.map arr clock)/\MapR (Value.int .i64) g w es arr clock/\∀arr' clock',MapR (Value.int .i64) g w es' arr' clock'->Sim cx { s with ext:=put s.ext i [.mm (.i es')] } g l a { w with heap:=w.heap.setIfInBounds b (.map arr' clock') }:=by
 obtain ⟨b,h1,h2,hM,arr,clock,h4,hR⟩:=h.wmapM hi
 exact ⟨b,arr,clock,h1,h4,hR,fun arr' clock' hR'=>h.turnM hi h1 h2 hM h4 fun hm hs=>⟨hM,arr',clock',hs,hR'.mono hm⟩⟩
def mapT(P:Program)(t:TypeId):Option (Bool × TypeId):=match P.underlying t with
 | some (.map k e)=>match P.underlying k with
  | some .string=>some (true,e)
  | some (.int .i64)=>some (false,e)
  | _=>none
 | _=>none
theorem mapT_inv{q:Bool}{ty e:TypeId}(h:mapT P ty=some (q,e)):∃k,P.underlying ty=some (.map k e)/\P.underlying k=some (if q then .string else .int .i64):=by
 unfold mapT at h
 split at h
 ·rename_i k e' hu
  split at h
  ·rename_i hk; injection h with h; injection h with h1 h2; subst h1 h2; exact ⟨k,hu,hk⟩
  ·rename_i hk; injection h with h; injection h with h1 h2; subst h1 h2; exact ⟨k,hu,hk⟩
  ·cases h
 ·cases h
def actMU(P:Program)(o:Oper)(ty:TypeId)(m k x:Operand):RM (List Wr):=match o.dst,mapT P ty with
 | none,some (true,_)=>evP m fun pm=>evP k fun pk=>evP x fun px=>match pm,pk with
  | .mp i,.str kb => .getX i fun cs=>match cs with
   | [.mm (.s es)] => .ret [.ext i 0 [.mm (.s (mupd kb px es))]]
   | _ => .fail
  | _,_ => .fail
 | none,some (false,_)=>evP m fun pm=>evP k fun pk=>evP x fun px=>match pm,pk with
  | .mp i,.int .i64 kb => .getX i fun cs=>match cs with
   | [.mm (.i es)] => .ret [.ext i 0 [.mm (.i (mupd kb px es))]]
   | _ => .fail
  | _,_ => .fail
 | _,_ => .fail
theorem mp_inv{i b:Nat}{v:Value}(r:Rep g w (.mp i) v)(hb:g.X i=some b):v = .map (some b):=by
 cases r with
 | mp _ b' hx=>rw [hb] at hx; injection hx with hx; rw [hx]
theorem actMU_fin{ty:TypeId}{m k x:Operand}(ho:o.op = .mapUpdate ty m k x∨o.op = .insert ty m k x)(hd:o.dst=none){i b:Nat}{es es':MM}{w':World}(hcs:lk s.ext i=some [.mm es])(e1:a.eval m = .map (some b))
  (hr:(Instr.mapUpdate ty (.map (some b)) (a.eval k) (a.eval x)).run P w = .ok () w') (hs:Sim cx { s with ext:=put s.ext i [.mm es'] } g l a w') (h3:K [.ext i 0 [.mm es']]):OpOK P cx s o K a w:=fun Q=>by
 have hex:(execOp a.eval o).run P w = .ok .skip w':=by
  rcases ho with ho | ho <;> simp only [execOp,ho,e1,Sem.run_bind,hr,Result.andThen_ok] <;> rfl
 unfold Oper.wp
 rw [hex,Oper.upon_skip,hd]
 refine ⟨_,g,l,h3,?_⟩
 have hwr:s.wrs [.ext i 0 [.mm es']]={ s with ext:=put s.ext i [.mm es'] }:=by simp only [S.wrs,S.wr,hcs]; rfl
 rw [hwr]
 exact hs
theorem actMU_sound{ty:TypeId}{m k x:Operand}(ho:o.op = .mapUpdate ty m k x∨o.op = .insert ty m k x)(h:Sim cx s g l a w)(hw:(actMU P o ty m k x).wp s K):OpOK P cx s o K a w:=by
 unfold actMU at hw
 split at hw
 ·rename_i e hd hT
  obtain ⟨kt,hu,hk⟩:=mapT_inv hT
  obtain ⟨pm,h1,r1⟩:=evP_sound h hw
  obtain ⟨pk,h2,r2⟩:=evP_sound h h1
  obtain ⟨px,h3,r3⟩:=evP_sound h h2
  split at h3
  ·rename_i i kb
   simp only [RM.wp] at h3
   split at h3
   ·rename_i cs hcs
    split at h3
    ·rename_i es
     obtain ⟨b,arr,clock,hb,hh,hR,hsim⟩:=h.wmap (es':=mupd kb px es) hcs
     have e2:a.eval k = .string kb:=by generalize a.eval k=vk at r2; cases r2; rfl
     obtain ⟨arr',clock',q1,q2⟩:=hR.upd key_s hu hk hh kb r3
     exact actMU_fin ho hd hcs (mp_inv r1 hb) (by rw [e2]; exact q1) (hsim _ _ q2) h3
    ·exact h3.elim
   ·exact h3.elim
  ·exact h3.elim
 ·rename_i e hd hT
  obtain ⟨kt,hu,hk⟩:=mapT_inv hT
  obtain ⟨pm,h1,r1⟩:=evP_sound h hw
  obtain ⟨pk,h2,r2⟩:=evP_sound h h1
  obtain ⟨px,h3,r3⟩:=evP_sound h h2
  split at h3
  ·rename_i i kb
   simp only [RM.wp] at h3
   split at h3
   ·rename_i cs hcs
    split at h3
    ·rename_i es
     obtain ⟨b,arr,clock,hb,hh,hR,hsim⟩:=h.wmapI (es':=mupd kb px es) hcs
     have e2:a.eval k = .int .i64 kb:=by generalize a.eval k=vk at r2; cases r2; rfl
     obtain ⟨arr',clock',q1,q2⟩:=hR.upd key_i hu hk hh kb r3
     exact actMU_fin ho hd hcs (mp_inv r1 hb) (by rw [e2]; exact q1) (hsim _ _ q2) h3
    ·exact h3.elim
   ·exact h3.elim
  ·exact h3.elim
 ·exact hw.elim
def actDel(P:Program)(o:Oper)(ty:TypeId)(m k:Operand):RM (List Wr):=match o.dst,mapT P ty with
 | none,some (true,_)=>evP m fun pm=>evP k fun pk=>match pm,pk with
  | .mp i,.str kb => .getX i fun cs=>match cs with
   | [.mm (.s es)] => .ret [.ext i 0 [.mm (.s (mdel kb es))]]
   | _ => .fail
  | _,_ => .fail
 | none,some (false,_)=>evP m fun pm=>evP k fun pk=>match pm,pk with
  | .mp i,.int .i64 kb => .getX i fun cs=>match cs with
   | [.mm (.i es)] => .ret [.ext i 0 [.mm (.i (mdel kb es))]]
   | _ => .fail
  | _,_ => .fail
 | _,_ => .fail
theorem actDel_fin{ty ty2:TypeId}{m k:Operand}(ho:o.op = .call ⟨.builtin .delete,⟨[m,k]⟩,⟨[ty,ty2]⟩⟩)(hd:o.dst=none){i b:Nat}{es es':MM}{w':World}(hcs:lk s.ext i=some [.mm es])(e1:a.eval m = .map (some b))
  (hr:∀t3,(Builtin.delete_ #[ty,ty2] t3 #[.map (some b),a.eval k]).run P w = .ok (.tuple #[]) w') (hs:Sim cx { s with ext:=put s.ext i [.mm es'] } g l a w') (h3:K [.ext i 0 [.mm es']]):OpOK P cx s o K a w:=fun Q=>by
 have hex:(execOp a.eval o).run P w = .ok (.value (.tuple #[])) w':=by
  simp [execOp,ho,resolve,invoke,builtin,e1,hr,Result.andThen]
 unfold Oper.wp
 rw [hex,Oper.upon_value,hd]
 refine ⟨_,g,l,h3,?_⟩
 have hwr:s.wrs [.ext i 0 [.mm es']]={ s with ext:=put s.ext i [.mm es'] }:=by simp only [S.wrs,S.wr,hcs]; rfl
 rw [hwr]
 exact hs
theorem actDel_sound{ty ty2:TypeId}{m k:Operand}(ho:o.op = .call ⟨.builtin .delete,⟨[m,k]⟩,⟨[ty,ty2]⟩⟩)(h:Sim cx s g l a w)(hw:(actDel P o ty m k).wp s K):OpOK P cx s o K a w:=by
 unfold actDel at hw
 split at hw
 ·rename_i e hd hT
  obtain ⟨kt,hu,hk⟩:=mapT_inv hT
  obtain ⟨pm,h1,r1⟩:=evP_sound h hw
  obtain ⟨pk,h3,r2⟩:=evP_sound h h1
  split at h3
  ·rename_i i kb
   simp only [RM.wp] at h3
   split at h3
   ·rename_i cs hcs
    split at h3
    ·rename_i es
     obtain ⟨b,arr,clock,hb,hh,hR,hsim⟩:=h.wmap (es':=mdel kb es) hcs
     have e2:a.eval k = .string kb:=by generalize a.eval k=vk at r2; cases r2; rfl
     obtain ⟨arr',clock',q1,q2⟩:=hR.del (ty2:=ty2) (ty3:=0) key_s hu hk hh kb
     exact actDel_fin ho hd hcs (mp_inv r1 hb) (by rw [e2]; exact fun t3=>q1) (hsim _ _ q2) h3
    ·exact h3.elim
   ·exact h3.elim
  ·exact h3.elim
 ·rename_i e hd hT
  obtain ⟨kt,hu,hk⟩:=mapT_inv hT
  obtain ⟨pm,h1,r1⟩:=evP_sound h hw
  obtain ⟨pk,h3,r2⟩:=evP_sound h h1
  split at h3
  ·rename_i i kb
   simp only [RM.wp] at h3
   split at h3
   ·rename_i cs hcs
    split at h3
    ·rename_i es
     obtain ⟨b,arr,clock,hb,hh,hR,hsim⟩:=h.wmapI (es':=mdel kb es) hcs
     have e2:a.eval k = .int .i64 kb:=by generalize a.eval k=vk at r2; cases r2; rfl
     obtain ⟨arr',clock',q1,q2⟩:=hR.del (ty2:=ty2) (ty3:=0) key_i hu hk hh kb
     exact actDel_fin ho hd hcs (mp_inv r1 hb) (by rw [e2]; exact fun t3=>q1) (hsim _ _ q2) h3
    ·exact h3.elim
   ·exact h3.elim
  ·exact h3.elim
 ·exact hw.elim
def zroP(P:Program)(t:TypeId):Option PV:=((P.info? t).bind (·.zero)).bind cv
theorem zroP_inv{t:TypeId}{z:PV}(h:zroP P t=some z):∃v,(∀w,(zeroValue t).run P w = .ok v w)/\∀g w,Rep g w z v:=by
 unfold zroP at h
 simp only [Option.bind_eq_some_iff] at h
 obtain ⟨v,⟨i,h1,h2⟩,h3⟩:=h
 exact ⟨v,fun w=>by simp [zeroValue,typeInfo,h1,h2],fun g w=>cv_rep h3⟩
def luRes(ok:Bool)(m:Option PV)(z:PV):PV:=match ok with
 | true => .tup [m.getD z,.bool m.isSome]
 | false=>m.getD z
def actLU(P:Program)(n:Nat)(o:Oper)(ty:TypeId)(x k:Operand)(ok:Bool):RM (List Wr):=match mapT P ty with
 | some (true,e)=>match zroP P e with
  | some z=>evP x fun px=>evP k fun pk=>match px,pk with
   | .mp i,.str kb => .getX i fun cs=>match cs with
    | [.mm (.s es)]=>wv n o (.v (luRes ok (mget kb es) z))
    | _ => .fail
   | .mpn,.str _=>wv n o (.v (luRes ok none z))
   | .fm ks vs,.str kb=>wv n o (.v (luRes ok (mget kb (ks.zip vs)) z))
   | _,_ => .fail
  | none => .fail
 | some (false,e)=>match zroP P e with
  | some z=>evP x fun px=>evP k fun pk=>match px,pk with
   | .mp i,.int .i64 kb => .getX i fun cs=>match cs with
    | [.mm (.i es)]=>wv n o (.v (luRes ok (mget kb es) z))
    | _ => .fail
   | _,_ => .fail
  | none => .fail
 | none => .fail
theorem luRes_rep{ok:Bool}{z:PV}{m:Option PV}{v:Value}(hr:Rep g w (m.getD z) v):Rep g w (luRes ok m z) (if ok then .tuple #[v,.bool m.isSome] else v):=by
 cases ok with
 | true=>
  refine .tup [m.getD z,.bool m.isSome] [v,.bool m.isSome] rfl fun j hj hj'=>?_
  match j,hj with
  | 0,_=>exact hr
  | 1,_=>exact .bool _
 | false=>exact hr
theorem MapR.look{κ:Type} [DecidableEq κ] {d:TypeDesc} {kv:κ->Value} {es:List (κ × PV)} {arr:Array MapEntry} {clock:Nat} (ko:KeyOK d kv) (hR:MapR kv g w es arr clock) {kt et ty:TypeId} (hu:P.underlying ty=some (.map kt et)) (hk:P.underlying kt=some d) {b:Nat} (hh:w.heap[b]?=some (.map arr clock)) (k:κ)
  {z:PV} {zv:Value} (hz1:∀w,(zeroValue et).run P w = .ok zv w) (hz2:∀g w,Rep g w z zv) (ok:Bool):∃v,(Instr.lookup ty (.map (some b)) (kv k) ok).run P w = .ok v w/\Rep g w (luRes ok (mget k es) z) v:=by
 rcases hR.find ko k with ⟨f1,f2,f3⟩ | ⟨j,hj,hj',f1,f2,f3,f4⟩
 ·rw [mget_none f3]
  refine ⟨if ok then .tuple #[zv,.bool false] else zv,?_,luRes_rep (m:=none) (hz2 g w)⟩
  simp [Instr.lookup,run_underlying hu,MapKept.run_getObj_map hh,MapKept.run_checkKey hk (ko.key k),MapKept.run_findKey hk f1,hz1,Result.andThen]
 ·rw [mget_at hj f3 f4]
  refine ⟨if ok then .tuple #[arr[j].val,.bool true] else arr[j].val,?_,luRes_rep (m:=some es[j].2) (hR.2.2 j hj hj').2⟩
  simp [Instr.lookup,run_underlying hu,MapKept.run_getObj_map hh,MapKept.run_checkKey hk (ko.key k),MapKept.run_findKey hk f1,Result.andThen]
theorem mget_mem{κ:Type} [DecidableEq κ] {k:κ}:∀ {es:List (κ × PV)},(es.map Prod.fst).Nodup->∀ {v:PV},(k,v)∈es->mget k es=some v
 | x::r,hn,v,h=>by
  simp only [List.map_cons,List.nodup_cons] at hn
  simp only [mget]
  rcases List.mem_cons.1 h with rfl | h
  ·rw [iP rfl]
  ·rw [iN (fun e=>hn.1 (by rw [e]; exact List.mem_map.2 ⟨_,h,rfl⟩)),mget_mem hn.2 h]
theorem mget_perm{κ:Type} [DecidableEq κ] {k:κ} {es l:List (κ × PV)} (hn:(es.map Prod.fst).Nodup) (hp:es.Perm l):mget k es=mget k l:=by
 have hn':(l.map Prod.fst).Nodup:=(hp.map _).nodup_iff.1 hn
 by_cases h:∃v,(k,v)∈es
 ·obtain ⟨v,hv⟩:=h
  rw [mget_mem hn hv,mget_mem hn' (hp.mem_iff.1 hv)]
 ·rw [mget_none (fun x hx e=>h ⟨x.2,by rw [<-e]; exact hx⟩),mget_none (fun x hx e=>h ⟨x.2,by rw [<-e]; exact hp.mem_iff.2 hx⟩)]
theorem MapR.nodup{es:List (ByteArray × PV)}{arr:Array MapEntry}{clock:Nat}(h:MapR Value.string g w es arr clock):(es.map Prod.fst).Nodup:=by
 obtain ⟨⟨-,-,hk⟩,hz,hr⟩:=h
 have e:arr.toList.map (·.key)=(es.map Prod.fst).map Value.string:=by
  apply List.ext_getElem
  ·simp [hz]
  ·intro j h1 h2
   simp only [List.length_map,Array.length_toList] at h1
   simpa using (hr j oM h1).1
 rw [e] at hk
 exact List.Pairwise.of_map Value.string (fun a b h e=>h (by rw [e])) hk
theorem Rep.frozen{ks:List ByteArray}{vs:List PV}{v:Value}(h:Rep g w (.fm ks vs) v) :
  ∃b arr clock es,v = .map (some b)/\w.heap[b]?=some (.map arr clock)/\g.M b=none/\MapR Value.string g w es arr clock/\es.Perm (ks.zip vs)/\ks.length=vs.length:=by
 cases h with
 | fm _ _ es b arr clock hp hl hM hh hst hz hk hr=>exact ⟨b,arr,clock,es,rfl,hh,hM,⟨hst,hz,fun j h1 h2=>⟨hk j h1 h2,hr j h1 h2⟩⟩,hp,hl⟩
theorem actLU_sound{ty:TypeId}{x k:Operand}{ok:Bool}(ho:o.op = .lookup ty x k ok)(h:Sim cx s g l a w)(hw:(actLU P cx.n o ty x k ok).wp s K):OpOK P cx s o K a w:=by
 have hex:∀v,(Instr.lookup ty (a.eval x) (a.eval k) ok).run P w = .ok v w->(execOp a.eval o).run P w = .ok (.value v) w:=fun v hr=>by
  simp only [execOp,ho,Sem.run_bind,hr,Result.andThen_ok]; rfl
 unfold actLU at hw
 split at hw
 ·rename_i e hT
  obtain ⟨kt,hu,hk⟩:=mapT_inv hT
  split at hw
  ·rename_i z hz
   obtain ⟨zv,hz1,hz2⟩:=zroP_inv hz
   obtain ⟨px,h1,r1⟩:=evP_sound h hw
   obtain ⟨pk,h2,r2⟩:=evP_sound h h1
   split at h2
   ·rename_i i kb
    simp only [RM.wp] at h2
    split at h2
    ·rename_i cs hcs
     split at h2
     ·rename_i es
      obtain ⟨b,arr,clock,hb,hh,hR,-⟩:=h.wmap (es':=[]) hcs
      have e2:a.eval k = .string kb:=by generalize a.eval k=vk at r2; cases r2; rfl
      obtain ⟨v,k1,k2⟩:=hR.look key_s hu hk hh kb hz1 hz2 ok
      exact OpOK.value h2 h (fun _=>k2) (hex _ (by rw [mp_inv r1 hb,e2]; exact k1))
     ·exact h2.elim
    ·exact h2.elim
   ·rename_i kb
    have e1:a.eval x = .map none:=by generalize a.eval x=vm at r1; cases r1; rfl
    have e2:a.eval k = .string kb:=by generalize a.eval k=vk at r2; cases r2; rfl
    rw [e1,e2] at hex
    refine OpOK.value (v:=if ok then .tuple #[zv,.bool false] else zv) h2 h (fun _=>luRes_rep (m:=none) (hz2 g w)) (hex _ ?_)
    simp [Instr.lookup,run_underlying hu,MapKept.run_checkKey hk (show MapKept.IsKey .string (.string kb) from trivial),MapKept.run_findKey hk (l:=[]) (a:=none) (k := .string kb) rfl,hz1,Result.andThen]
   ·rename_i ks vs kb
    obtain ⟨b,arr,clock,es,e1,hh,-,hR,hp,-⟩:=r1.frozen
    have e2:a.eval k = .string kb:=by generalize a.eval k=vk at r2; cases r2; rfl
    obtain ⟨v,k1,k2⟩:=hR.look key_s hu hk hh kb hz1 hz2 ok
    rw [mget_perm hR.nodup hp] at k2
    exact OpOK.value h2 h (fun _=>k2) (hex _ (by rw [e1,e2]; exact k1))
   ·exact h2.elim
  ·exact hw.elim
 ·rename_i e hT
  obtain ⟨kt,hu,hk⟩:=mapT_inv hT
  split at hw
  ·rename_i z hz
   obtain ⟨zv,hz1,hz2⟩:=zroP_inv hz
   obtain ⟨px,h1,r1⟩:=evP_sound h hw
   obtain ⟨pk,h2,r2⟩:=evP_sound h h1
   split at h2
   ·rename_i i kb
    simp only [RM.wp] at h2
    split at h2
    ·rename_i cs hcs
     split at h2
     ·rename_i es
      obtain ⟨b,arr,clock,hb,hh,hR,-⟩:=h.wmapI (es':=[]) hcs
      have e2:a.eval k = .int .i64 kb:=by generalize a.eval k=vk at r2; cases r2; rfl
      obtain ⟨v,k1,k2⟩:=hR.look key_i hu hk hh kb hz1 hz2 ok
      exact OpOK.value h2 h (fun _=>k2) (hex _ (by rw [mp_inv r1 hb,e2]; exact k1))
     ·exact h2.elim
    ·exact h2.elim
   ·exact h2.elim
  ·exact hw.elim
 ·exact hw.elim
def actNx(n:Nat)(o:Oper)(it:Operand):RM (List Wr):=evP it fun p=>match p with
 | .xp k 0 => .getX k fun cs=>match cs with
  | [.mm (.it i)] => .getX i fun ds=>match ds with
   | [.mm (.s [])]=>wv n o (.v (.tup [.bool false]))
   | [.mm (.i [])]=>wv n o (.v (.tup [.bool false]))
   | _ => .fail
  | _ => .fail
 | _ => .fail
theorem next_run{b bm since last clock:Nat}{ty:TypeId}(h1:w.heap[b]?=some (.mapIter (some bm) since #[] last))(h2:w.heap[bm]?=some (.map #[] clock)) :
  (Instr.next (.pointer (some ⟨b,0,none⟩)) false ty).run P w = .ok (.tuple #[.bool false]) w:=by
 have e1:(getObj b).run P w = .ok (.mapIter (some bm) since #[] last) w:=by simp [getObj,Sem.run,h1]
 have e2:(getObj bm).run P w = .ok (.map #[] clock) w:=by simp [getObj,Sem.run,h2]
 simp [Instr.next,e1,e2,Result.andThen,Sem.run,choose,Question.forced]
theorem actNx_sound{it:Operand}(ho:o.op = .next it false)(h:Sim cx s g l a w)(hw:(actNx cx.n o it).wp s K):OpOK P cx s o K a w:=by
 unfold actNx at hw
 obtain ⟨p,h1,r1⟩:=evP_sound h hw
 split at h1
 ·rename_i k
  simp only [RM.wp] at h1
  split at h1
  ·rename_i cs hcs
   split at h1
   ·rename_i i
    simp only [RM.wp] at h1
    split at h1
    ·rename_i ds hds
     obtain ⟨b,hb,-,hM⟩:=h.wmapM hcs
     obtain ⟨-,bm,since,last,hX,hh⟩:=hM
     have e1:a.eval it = .pointer (some ⟨b,0,none⟩):=by
      generalize a.eval it=v at r1
      cases r1 with
      | xp _ _ b' hx=>rw [hb] at hx; injection hx with hx; rw [hx]
     have fin:∀clock,w.heap[bm]?=some (.map #[] clock)->(execOp a.eval o).run P w = .ok (.value (.tuple #[.bool false])) w:=fun clock hc=>by
      simp [execOp,ho,e1,next_run hh hc,Result.andThen]
     have hr:Rep g w (.tup [.bool false]) (.tuple #[.bool false]) := .tup [.bool false] [.bool false] rfl fun j hj hj'=>by
      match j,hj with
      | 0,_=>exact .bool _
     split at h1
     ·obtain ⟨b2,arr,clock,hb2,hh2,hR,-⟩:=h.wmap (es':=[]) hds
      rw [hX] at hb2
      injection hb2 with hb2
      subst hb2
      have:arr = #[]:=Array.eq_empty_of_size_eq_zero hR.2.1
      subst this
      exact OpOK.value h1 h (fun _=>hr) (fin clock hh2)
     ·obtain ⟨b2,arr,clock,hb2,hh2,hR,-⟩:=h.wmapI (es':=[]) hds
      rw [hX] at hb2
      injection hb2 with hb2
      subst hb2
      have:arr = #[]:=Array.eq_empty_of_size_eq_zero hR.2.1
      subst this
      exact OpOK.value h1 h (fun _=>hr) (fin clock hh2)
     ·exact h1.elim
    ·exact h1.elim
   ·exact h1.elim
  ·exact h1.elim
 ·exact h1.elim
def actEn(n:Nat)(o:Oper)(it:Operand):RM (List Wr):=evP it fun p=>match p with
 | .xp k 0 => .getX k fun cs=>match cs with
  | [.mm (.fit _ _ (x::_))]=>wv n o (.v (.tup [.str x.1,x.2]))
  | _ => .fail
 | _ => .fail
theorem born_mem{arr:Array MapEntry}{i:Nat}(h:i<arr.size):bornAt arr i=arr[i].born:=by simp [bornAt,h]
theorem actEn_sound{it:Operand}(ho:o.op = .entry it)(h:Sim cx s g l a w)(hw:(actEn cx.n o it).wp s K):OpOK P cx s o K a w:=by
 unfold actEn at hw
 obtain ⟨p,h1,r1⟩:=evP_sound h hw
 split at h1
 ·rename_i k
  simp only [RM.wp] at h1
  split at h1
  ·rename_i cs hcs
   split at h1
   ·rename_i ks vs x r
    obtain ⟨b,hb,-,hM⟩:=h.wmapM hcs
    obtain ⟨-,bm,stamps,clk,arr,es,I,h2,h3,h4,hR,hp,hI,hlt,hst,hseen⟩:=hM
    have e1:a.eval it = .pointer (some ⟨b,0,none⟩):=by
     generalize a.eval it=v at r1
     cases r1 with
     | xp _ _ b' hx=>rw [hb] at hx; injection hx with hx; rw [hx]
    cases I with
    | nil=>cases hseen
    | cons i I=>
     simp only [List.map_cons,List.cons.injEq] at hseen
     have hi:i<es.length:=hlt i sM
     have hi':i<arr.size:=by rw [hR.2.1]; exact hi
     have e2:stamps=(⟨I.reverse.map (bornAt arr)⟩:Array Nat).push arr[i].born:=by
      apply Array.ext'
      rw [hst]
      simp [born_mem hi']
     rw [e2] at h2
     have hrun:=run_entry_at (P:=P) w b bm clk _ arr clk arr[i] h2 h3 sM hR.1.2.1
     refine OpOK.value h1 h (fun _=>?_) (v := .tuple #[arr[i].key,arr[i].val]) (by simp [execOp,ho,e1,hrun,Result.andThen])
     have ex:x=es[i]:=by rw [hseen.1]; simp [hi]
     refine .tup [.str x.1,x.2] [arr[i].key,arr[i].val] rfl fun j hj hj'=>?_
     obtain ⟨k1,k2⟩:=hR.2.2 i hi hi'
     match j,hj with
     | 0,_=>rw [ex]; show Rep g w (.str es[i].1) arr[i].key; rw [k1]; exact .str _
     | 1,_=>rw [ex]; exact k2
   ·exact h1.elim
  ·exact h1.elim
 ·exact h1.elim
theorem next_fit{it:Operand}{d k:Nat}{ks:List ByteArray}{vs:List PV}{seen:List (ByteArray × PV)}{Q:Act->World->Prop}{K0:Exit->Act->World->Prop}(ho:o.op = .next it false)(hd:o.dst=some d)(hn:d<cx.n)(h:Sim cx s g l a w)
  (hit:Rep g w (.xp k 0) (a.eval it)) (hk:lk s.ext k=some [.mm (.fit ks vs seen)])
  (hQ0:seen.Perm (ks.zip vs)->∀w',Sim cx { s with tmps:=put s.tmps d (.v (.tup [.bool false])) } g l (a.put o.dst (.tuple #[.bool false])) w'->Q (a.put o.dst (.tuple #[.bool false])) w')
  (hQ1:∀kb v u w',(kb,v)∈ks.zip vs->(∀x∈seen,x.1≠kb)->Sim cx { s with tmps:=put s.tmps d (.v (.tup [.bool true,.str kb,v])),ext:=put s.ext k [.mm (.fit ks vs ((kb,v)::seen))] } g l (a.put o.dst (.tuple #[.bool true,.string kb,u])) w'->Q (a.put o.dst (.tuple #[.bool true,.string kb,u])) w') :
  o.wp P a w Q K0:=by
 obtain ⟨b,hb,hO,hM⟩:=h.wmapM hk
 obtain ⟨hM0,bm,stamps,clk,arr,es,I,h2,h3,h4,hR,hp,hI,hlt,hst,hseen⟩:=hM
 have e1:a.eval it = .pointer (some ⟨b,0,none⟩):=by
  generalize a.eval it=v at hit
  cases hit with
  | xp _ _ b' hx=>rw [hb] at hx; injection hx with hx; rw [hx]
 have hnd:=hR.nodup
 have hborn:(arr.toList.map (·.born)).Nodup:=hR.1.2.1
 have hbi:∀i j,i<arr.size->j<arr.size->bornAt arr i=bornAt arr j->i=j:=fun i j hi hj e=>by
  rw [born_mem hi,born_mem hj] at e
  exact (List.getElem_inj (h₀:=by simpa using hi) (h₁:=by simpa using hj) hborn).1 (by simpa using e)
 have hz:=hR.2.1
 unfold Oper.wp
 rcases run_next_at (P:=P) w o.type b bm clk clk stamps arr clk h2 h3 hR.1.1 (Nat.le_refl _) with ⟨h0,hrun⟩ | ⟨e,he,w1,hal,hrun⟩
 ·have hex:(execOp a.eval o).run P w = .ok (.value (.tuple #[.bool false])) w:=by simp [execOp,ho,e1,hrun,Result.andThen]
  rw [hex,Oper.upon_value]
  refine hQ0 ?_ w ?_
  ·have hall:=all_seen arr stamps h0
   have hI2:I.Perm (List.range es.length):=by
    refine (List.perm_ext_iff_of_nodup hI List.nodup_range).2 fun i=>⟨fun hi=>List.mem_range.2 (hlt i hi),fun hi=>?_⟩
    have hi:=List.mem_range.1 hi
    have hi':i<arr.size:=by omega
    have h5:=hall arr[i] sM
    rw [<-Array.contains_toList,hst] at h5
    simp only [List.contains_eq_mem,decide_eq_true_eq,List.mem_map,List.mem_reverse] at h5
    obtain ⟨j,hj,ej⟩:=h5
    rw [<-born_mem hi'] at ej
    rw [<-hbi j i (by have:=hlt j hj; omega) hi' ej]
    exact hj
   have h6:((List.range es.length).map fun i=>es.getD i default)=es:=by
    apply List.ext_getElem
    ·simp
    ·intro j h7 h8
     simp [List.getElem?_eq_getElem h8]
   rw [hseen]
   refine ((hI2.map _).trans ?_).trans hp
   rw [h6]
  ·rw [hd]
   exact h.set hn (.tup [.bool false] [.bool false] rfl fun j hj hj'=>by
    match j,hj with
    | 0,_=>exact .bool _)
 ·obtain ⟨hem,hes⟩:=mem_left he
  obtain ⟨i,hi,rfl⟩:=List.getElem_of_mem hem
  have hi':i<arr.size:=by simpa using hi
  have hi2:i<es.length:=by omega
  simp only [Array.getElem_toList] at *
  have hex:(execOp a.eval o).run P w = .ok (.value (.tuple #[.bool true,arr[i].key,arr[i].val])) (ChangeMaps.setBlock w1 b (.mapIter (some bm) clk (stamps.push arr[i].born) clk)):=by simp [execOp,ho,e1,hrun,Result.andThen]
  rw [hex,Oper.upon_value]
  obtain ⟨k1,k2⟩:=hR.2.2 i hi2 hi'
  rw [k1]
  have hnI:i∉I:=fun hm=>by
   rw [<-Array.contains_toList,hst] at hes
   simp only [List.contains_eq_mem,decide_eq_false_iff_not] at hes
   exact hes (List.mem_map.2 ⟨i,by simpa using hm,born_mem hi'⟩)
  have hs1:Sim cx s g l a w1:=by
   rcases hal with rfl | rfl
   ·exact h
   ·exact h.drew.1
  have hb1:w1.heap[b]?=some (.mapIter (some bm) clk stamps clk):=by rcases hal with rfl | rfl <;> exact h2
  have hbm1:w1.heap[bm]?=some (.map arr clk):=by rcases hal with rfl | rfl <;> exact h3
  have hs2:=hs1.turnO (es' := .fit ks vs ((es[i].1,es[i].2)::seen)) (ob' := .mapIter (some bm) clk (stamps.push arr[i].born) clk) hk hb hO hM0 hb1 (fun _ _ _ e=>by cases e) fun hm hh=>by
   have hne:bm≠b:=by rintro rfl; rw [hb1] at hbm1; cases hbm1
   refine ⟨hM0,bm,_,clk,arr,es,i::I,hh,(hm.map _ _ _ hbm1 h4).1,h4,?_⟩
   have hR1:MapR Value.string g w1 es arr clk:=by
    rcases hal with rfl | rfl
    ·exact hR
    ·exact hR.mono h.drew.2
   refine ⟨hR1.mono hm,hp,List.nodup_cons.2 ⟨hnI,hI⟩,fun j hj=>?_,?_,?_⟩
   ·rcases List.mem_cons.1 hj with rfl | hj
    ·exact hi2
    ·exact hlt j hj
   ·simp [hst,born_mem hi']
   ·rw [hseen]; simp [hi2]
  refine hQ1 es[i].1 es[i].2 arr[i].val _ (hp.mem_iff.1 (List.getElem_mem hi2)) (fun x hx e=>?_) ?_
  ·rw [hseen] at hx
   obtain ⟨j,hj,rfl⟩:=List.mem_map.1 hx
   have hj2:=hlt j hj
   simp only [List.getD_eq_getElem?_getD,List.getElem?_eq_getElem hj2,Option.getD_some] at e
   have:j=i:=(List.getElem_inj (h₀:=by simpa using hj2) (h₁:=by simpa using hi2) hnd).1 (by simpa using e)
   subst this
   exact hnI hj
  ·rw [hd]
   refine hs2.set hn (.tup [.bool true,.str es[i].1,es[i].2] [.bool true,.string es[i].1,arr[i].val] rfl fun j hj hj'=>?_)
   match j,hj with
   | 0,_=>exact .bool _
   | 1,_=>exact .str _
   | 2,_=>
    have hm:Mono g w g (ChangeMaps.setBlock w1 b (.mapIter (some bm) clk (stamps.push arr[i].born) clk)):=by
     refine Mono.trans ?_ (mono_setObj (ob := .mapIter (some bm) clk stamps clk) hM0 hb1 (fun _ _ _ e=>by cases e))
     rcases hal with rfl | rfl
     ·exact Mono.refl _ _
     ·exact h.drew.2
    exact k2.mono hm
def rngF(m:Operand):RM (Option (List ByteArray × List PV)):=evP m fun p=>match p with
 | .fm ks vs => .ret (some (ks,vs))
 | _ => .ret none
theorem rngF_wp{m:Operand}{K:Option (List ByteArray × List PV)->Prop}(h:Sim cx s g l a w)(hw:(rngF m).wp s K):∃r,K r/\∀ks vs,r=some (ks,vs)->Rep g w (.fm ks vs) (a.eval m):=by
 unfold rngF at hw
 obtain ⟨p,h1,r1⟩:=evP_sound h hw
 split at h1
 ·exact ⟨_,h1,fun ks vs e=>by injection e with e; injection e with e1 e2; subst e1 e2; exact r1⟩
 ·exact ⟨_,h1,fun _ _ e=>by cases e⟩
def rngR(m:Operand):RM Nat:=evP m fun p=>match p with
 | .mp i => .getX i fun cs=>match cs with
  | [.mm (.s _)] => .ret i
  | [.mm (.i _)] => .ret i
  | _ => .fail
 | _ => .fail
theorem rngR_wp{m:Operand}{K:Nat->Prop}{ty:TypeId}(ho:o.op = .range ty m)(hT:(mapT P ty).isSome=true)(h:Sim cx s g l a w)(hw:(rngR m).wp s K) :
  ∃i bm clock,K i/\g.X i=some bm/\i<cnt s.ext/\(execOp a.eval o).run P w = .ok (.value (.pointer (some ⟨w.heap.size,0,none⟩))) (w.alloc (.mapIter (some bm) clock #[] clock)):=by
 unfold rngR at hw
 obtain ⟨p,h1,r1⟩:=evP_sound h hw
 split at h1
 ·rename_i i
  simp only [RM.wp] at h1
  split at h1
  ·rename_i cs hcs
   have hrun:∀bm arr clock,g.X i=some bm->w.heap[bm]?=some (.map arr clock)->(execOp a.eval o).run P w = .ok (.value (.pointer (some ⟨w.heap.size,0,none⟩))) (w.alloc (.mapIter (some bm) clock #[] clock)):=fun bm arr clock hb hh=>by
    have e1:=mp_inv r1 hb
    cases hq:mapT P ty with
    | none=>rw [hq] at hT; cases hT
    | some qe=>
     obtain ⟨q,e⟩:=qe
     obtain ⟨kt,hu,-⟩:=mapT_inv hq
     simp [execOp,ho,e1,Instr.range,run_underlying hu,MapKept.run_getObj_map hh,Result.andThen,newObj]
     rfl
   split at h1
   ·obtain ⟨b,arr,clock,hb,hh,-,-⟩:=h.wmap (es':=[]) hcs
    exact ⟨i,b,clock,h1,hb,lt_cnt hcs,hrun b arr clock hb hh⟩
   ·obtain ⟨b,arr,clock,hb,hh,-,-⟩:=h.wmapI (es':=[]) hcs
    exact ⟨i,b,clock,h1,hb,lt_cnt hcs,hrun b arr clock hb hh⟩
   ·exact h1.elim
  ·exact h1.elim
 ·exact h1.elim
def arrT(P:Program)(ty:TypeId):Option (Nat × TypeId):=match P.underlying ty with
 | some (.array n e)=>some (n,e)
 | _=>none
def oneT(P:Program)(e:TypeId)(m:Nat)(cs:List PV)(N:Nat):Bool:=match aggT P e with
 | some false=>decide (m=1)&&decide (cs.length=N)
 | _=>false
theorem oneT_seg{e:TypeId}{m N:Nat}{cs:List PV}{k:Int}(h:oneT P e m cs N=true)(h0:0<=k)(h1:k<N):segP P e cs (k.toNat * m)=some (cs.getD k.toNat .nilp):=by
 unfold oneT at h
 split at h
 ·rename_i ha
  simp only [Bool.and_eq_true,decide_eq_true_eq] at h
  obtain ⟨rfl,h2⟩:=h
  have hk:k.toNat<cs.length:=by omega
  simp only [segP,ha,Nat.mul_one,List.getD,List.getElem?_eq_getElem hk,Option.getD_some]
 ·cases h
def actIdx(P:Program)(n:Nat)(o:Oper)(ty:TypeId)(x i:Operand):RM (List Wr):=if isStrT P ty=true then evP x fun p=>evP i fun q=>match p,q with
  | .str b,.int _ k => .assume (decide (0<=k/\k<b.size)) (wv n o (.v (.int .u8 (b.data.toList.getD k.toNat default).toNat)))
  | _,_ => .fail
 else match arrT P ty with
  | some (N,e)=>match csz P e with
   | some m=>evP x fun p=>evP i fun q=>match p,q with
    | .agg cs,.int _ k => .assume (decide (0<=k/\k<N)) (if oneT P e m cs N=true then wv n o (.v (cs.getD k.toNat .nilp)) else match segP P e cs (k.toNat * m) with
     | some q=>wv n o (.v q)
     | none => .fail)
    | _,_ => .fail
   | none => .fail
  | none => .fail
theorem actIdx_sound{ty:TypeId}{x i:Operand}(ho:o.op = .index ty x i)(h:Sim cx s g l a w)(hw:(actIdx P cx.n o ty x i).wp s K):OpOK P cx s o K a w:=by
 unfold actIdx at hw
 split at hw
 ·rename_i hst
  unfold isStrT at hst
  split at hst
  ·rename_i hu
   obtain ⟨p,h1,r1⟩:=evP_sound h hw
   obtain ⟨q,h2,r2⟩:=evP_sound h h1
   have hex:∀v,(Instr.index ty (a.eval x) (a.eval i)).run P w = .ok v w->(execOp a.eval o).run P w = .ok (.value v) w:=fun v hr=>by
    simp only [execOp,ho,Sem.run_bind,hr,Result.andThen_ok]; rfl
   generalize a.eval x=vx at r1 hex
   generalize a.eval i=vi at r2 hex
   split at h2
   ·rename_i b ki k
    cases r1
    cases r2
    obtain ⟨hb,h3⟩:=h2
    obtain ⟨hb0,hb1⟩:=of_decide_eq_true hb
    refine OpOK.pure h h3 (.int _ _) (hex _ ?_)
    have hk:k.toNat<b.size:=by omega
    have e1:b[k.toNat]?=some b[k.toNat]:=by simp [hk]
    have e2:b.data.toList.getD k.toNat default=b[k.toNat]:=by
     have hk':k.toNat<b.data.size:=hk
     have:b.data.toList.getD k.toNat default=b.data[k.toNat]:=by simp [List.getD,Array.getElem?_eq_getElem hk']
     exact this
    simp only [Instr.index,asIntOf,Sem.run_bind,Sem.run_pure,Result.andThen_ok,run_underlying hu,hb0,if_true,e1,e2]
   ·exact h2.elim
  ·cases hst
 ·split at hw
  ·rename_i N e he
   have hu:P.underlying ty=some (.array N e):=by
    unfold arrT at he
    split at he
    ·rename_i n' e' hu; simp only [Option.some.injEq,Prod.mk.injEq] at he; obtain ⟨rfl,rfl⟩:=he; exact hu
    ·cases he
   split at hw
   ·rename_i m hm
    obtain ⟨p,h1,r1⟩:=evP_sound h hw
    obtain ⟨q,h2,r2⟩:=evP_sound h h1
    have hex:∀v,(Instr.index ty (a.eval x) (a.eval i)).run P w = .ok v w->(execOp a.eval o).run P w = .ok (.value v) w:=fun v hr=>by
     simp only [execOp,ho,Sem.run_bind,hr,Result.andThen_ok]; rfl
    generalize a.eval x=vx at r1 hex
    generalize a.eval i=vi at r2 hex
    split at h2
    ·rename_i cs ki k
     cases r2
     obtain ⟨hb,h3⟩:=h2
     have hb:=of_decide_eq_true hb
     split at h3
     ·rename_i hone1
      cases r1 with
      | agg _ vs hl hone hr=>
       obtain ⟨v,k1,k2⟩:=segP_part (P:=P) (oneT_seg hone1 hb.1 hb.2) ⟨hl,hr⟩ hone
       refine OpOK.pure h h3 k2 (hex _ ?_)
       simp only [Instr.index,asIntOf,Sem.run_bind,Sem.run_pure,Result.andThen_ok,run_underlying hu,iP hb,run_sizeOf hm,k1]
     split at h3
     ·rename_i q hq
      cases r1 with
      | agg _ vs hl hone hr=>
       obtain ⟨v,k1,k2⟩:=segP_part (P:=P) hq ⟨hl,hr⟩ hone
       refine OpOK.pure h h3 k2 (hex _ ?_)
       simp only [Instr.index,asIntOf,Sem.run_bind,Sem.run_pure,Result.andThen_ok,run_underlying hu,iP hb,run_sizeOf hm,k1]
     ·exact h3.elim
    ·exact h2.elim
   ·exact hw.elim
  ·exact hw.elim
def intO(x:Option Operand)(d:Nat)(k:Int->RM (List Wr)):RM (List Wr):=match x with
 | none=>k d
 | some y=>evP y fun q=>match q with
  | .int _ i=>k i
  | _ => .fail
def actSlL(P:Program)(n:Nat)(o:Oper)(ty:TypeId)(x:Operand)(lo hi:Option Operand):RM (List Wr):=match elemT P ty with
 | some e=>match csz P e with
  | some z'=>evP x fun p=>match p with
   | .sl z es=>if z=z' then intO hi es.length fun h=>intO lo 0 fun k => .assume (decide (0<=k/\k<=h/\h<=es.length)) (wv n o (.v (.sl z ((es.take h.toNat).drop k.toNat)))) else .fail
   | _ => .fail
  | none => .fail
 | none => .fail
theorem intO_sound{x:Option Operand}{d:Nat}{k:Int->RM (List Wr)}(h:Sim cx s g l a w)(hw:(intO x d k).wp s K) :
  ∃i:Int,(k i).wp s K/\((x=none/\i=d)∨∃y ki,x=some y/\a.eval y = .int ki i):=by
 unfold intO at hw
 split at hw
 ·exact ⟨d,hw,.inl ⟨rfl,rfl⟩⟩
 ·rename_i y
  obtain ⟨q,h1,r1⟩:=evP_sound h hw
  split at h1
  ·rename_i ki i
   refine ⟨i,h1,.inr ⟨y,ki,rfl,?_⟩⟩
   generalize a.eval y=v at r1
   cases r1
   rfl
  ·exact h1.elim
theorem actSlL_sound{ty:TypeId}{x:Operand}{lo hi:Option Operand}(ho:o.op = .slice ty x lo hi none)(h:Sim cx s g l a w)(hw:(actSlL P cx.n o ty x lo hi).wp s K):OpOK P cx s o K a w:=by
 unfold actSlL at hw
 split at hw
 ·rename_i e he
  split at hw
  ·rename_i z' hz
   obtain ⟨p,h1,r1⟩:=evP_sound h hw
   split at h1
   ·rename_i z es
    split at h1
    ·rename_i hzz
     subst hzz
     obtain ⟨hh,h2,hhi⟩:=intO_sound h h1
     obtain ⟨kk,h3,hlo⟩:=intO_sound h h2
     obtain ⟨hb,h4⟩:=h3
     obtain ⟨b0,b1,b2⟩:=of_decide_eq_true hb
     have hu:P.underlying ty=some (.slice e):=by
      unfold elemT at he
      split at he
      ·rename_i e' hu; injection he with he; rw [hu,he]
      ·cases he
     have hel:P.elem ty=e:=by simp [Program.elem,hu]
     have hu':P.underlying ty=some (.slice (P.elem ty)):=by rw [hel]; exact hu
     have hsz:(sizeOf (P.elem ty)).run P w = .ok z w:=by rw [hel]; exact run_sizeOf hz
     have hex:∀v,(Instr.slice ty (a.eval x) (lo.map a.eval) (hi.map a.eval) none).run P w = .ok v w->(execOp a.eval o).run P w = .ok (.value v) w:=fun v hr=>by
      simp only [execOp,ho,Option.map_none,Sem.run_bind,run_sliceAt_slice _ _ _ _ _ _ hu',hr,Result.andThen_ok]; rfl
     have hrun:∀ (ad:Option Addr) (cap:Nat),es.length<=cap->(Instr.slice ty (.slice ad es.length cap) (lo.map a.eval) (hi.map a.eval) none).run P w = .ok (sliced ad kk.toNat hh.toNat cap z) w:=by
      intro ad cap hcap
      rcases hhi with ⟨rfl,rfl⟩ | ⟨y,ki,rfl,hy⟩
      ·rcases hlo with ⟨rfl,rfl⟩ | ⟨y',ki',rfl,hy'⟩
       ·simp only [Option.map_none]
        rw [run_slice_all (ht:=hu'),hsz]
        rfl
       ·simp only [Option.map_none,Option.map_some,hy']
        rw [run_slice_l (ht:=hu') (h0:=b0) (h1:=b1),hsz]
        rfl
      ·rcases hlo with ⟨rfl,rfl⟩ | ⟨y',ki',rfl,hy'⟩
       ·simp only [Option.map_none,Option.map_some,hy]
        rw [run_slice_h (ht:=hu') (h0:=by omega) (h2:=by omega),hsz]
        rfl
       ·simp only [Option.map_some,hy,hy']
        rw [run_slice_lh (ht:=hu') (h0:=b0) (h1:=b1) (h2:=by omega),hsz]
        rfl
     have hlen:((es.take hh.toNat).drop kk.toNat).length=hh.toNat - kk.toNat:=by
      rw [List.length_drop,List.length_take]
      omega
     generalize a.eval x=vx at r1 hex
     cases r1 with
     | slnil _=>
      have:=hrun none 0 sM
      simp only [List.length_nil] at b2 this
      have hk0:kk.toNat=0:=by omega
      have hh0:hh.toNat=0:=by omega
      refine OpOK.pure h h4 (v := .slice none 0 0) ?_ (hex _ ?_)
      ·simp only [List.take_nil,List.drop_nil]; exact .slnil z
      ·rw [this,hk0,hh0]; rfl
     | sl _ _ ad cap vs hle hcap hsz' hc hf h1' hr=>
      refine OpOK.pure h h4 (v:=sliced (some ad) kk.toNat hh.toNat cap z) ?_ (hex _ (hrun _ _ hle))
      unfold sliced
      rw [<-hlen]
      by_cases hck:cap=kk.toNat
      ·have hnil:(es.take hh.toNat).drop kk.toNat=[]:=List.eq_nil_of_length_eq_zero (by rw [hlen]; omega)
       rw [iP hck,hnil]
       exact .sl z [] ad _ vs sM oM (fun i hi=>by simp at hi) (fun i j hi=>by simp at hi) (fun i j hi=>by simp at hi) (fun i j hi=>by simp at hi) (fun i j hi=>by simp at hi)
      ·rw [iN hck]
       simp only [Option.map_some]
       have hidx:∀i (hi:i<((es.take hh.toNat).drop kk.toNat).length),∃h2:kk.toNat+i<es.length,((es.take hh.toNat).drop kk.toNat)[i]=es[kk.toNat+i]:=fun i hi=>by
        have h3:kk.toNat+i<es.length:=by rw [hlen] at hi; omega
        exact ⟨h3,by simp⟩
       refine .sl z _ (ad.add (kk.toNat * z)) _ (fun i j=>vs (kk.toNat+i) j) (by rw [hlen]; omega) oM (fun i hi=>?_) (fun i j hi hj=>?_) (fun i j hi hj=>?_) (fun i j hi hj=>?_) (fun i j hi hj=>?_)
       ·obtain ⟨h3,h4'⟩:=hidx i hi
        rw [h4']; exact hsz' _ h3
       ·obtain ⟨h3,h4'⟩:=hidx i hi
        rw [Addr.add_add,show kk.toNat * z+(i * z+j)=(kk.toNat+i) * z+j by rw [Nat.add_mul]; omega]
        exact hc _ j h3 hj
       ·obtain ⟨h3,h4'⟩:=hidx i hi
        have:=hf _ j h3 hj
        have e1:(ad.add (kk.toNat * z)).block=ad.block:=by unfold Addr.add; split <;> rfl
        have e2:(ad.add (kk.toNat * z)).off=ad.off+kk.toNat * z:=by unfold Addr.add; split <;> simp_all
        rw [e1,e2,show ad.off+kk.toNat * z+(i * z+j)=ad.off+((kk.toNat+i) * z+j) by rw [Nat.add_mul]; omega]
        exact this
       ·obtain ⟨h3,h4'⟩:=hidx i hi
        exact h1' _ j h3 hj
       ·obtain ⟨h3,h4'⟩:=hidx i hi
        have hj':j<es[kk.toNat+i].length:=by rw [<-h4']; exact hj
        have:=hr _ j h3 hj'
        simp only [h4']
        exact this
    ·exact h1.elim
   ·exact h1.elim
  ·exact hw.elim
 ·exact hw.elim
theorem RepL.cut{p:UL}{e:TypeId}{z:Nat}{es:List (List PV)}{v:Value}(he:e<1000000)(hr:RepL g l w p (.uniq e z es) v){k:Nat}(hk:k<=es.length)(hp:∀ad cap,v = .slice ad es.length cap->es.length<=cap->Rep g w (.sl z (es.drop k)) (sliced ad k es.length cap z)) :
  ∃ad cap,v = .slice ad es.length cap/\es.length<=cap/\RepL g l w p (.uniq e z (es.drop k)) (sliced ad k es.length cap z):=by
 have hlen:(es.drop k).length=es.length - k:=List.length_drop
 rcases hr with (⟨rfl,rfl⟩ | ⟨a0,rfl,hr,-⟩) | ⟨b,off,cap,cur,rfl,h1,h2,h3,h4,h5⟩
 ·have hk0:k=0:=by simpa using hk
  subst hk0
  exact ⟨none,0,rfl,Nat.le_refl _,.inl (.inl ⟨rfl,rfl⟩)⟩
 ·have h:=hp _ _ rfl (Nat.le_refl _)
  refine ⟨_,_,rfl,Nat.le_refl _,.inl (.inr ?_)⟩
  unfold sliced at h ⊢
  rw [<-hlen] at h ⊢
  by_cases hc:es.length=k
  ·rw [iP hc] at h ⊢
   exact ⟨a0,by rw [hlen,hc,Nat.sub_self],h,he⟩
  ·rw [iN hc] at h ⊢
   exact ⟨_,by rw [hlen]; rfl,h,he⟩
 ·have hle:es.length<=cap:=by
   have:=h5.1 he
   cases this with
   | sl _ _ ad cap vs k1=>exact k1
  have h:=hp _ _ rfl hle
  refine ⟨_,_,rfl,hle,?_⟩
  unfold sliced at h ⊢
  rw [<-hlen] at h ⊢
  by_cases hc:cap=k
  ·rw [iP hc] at h ⊢
   have h0:es.length - k=0:=by omega
   have hc0:cap - k=0:=by omega
   exact .inl (.inr ⟨⟨b,off,none⟩,by rw [hlen,h0,hc0],h,he⟩)
  ·rw [iN hc] at h ⊢
   have hm:(es.length - k) * z+k * z=es.length * z:=by rw [<-Nat.add_mul,Nat.sub_add_cancel hk]
   have hm2:(cap - k) * z+k * z=cap * z:=by rw [<-Nat.add_mul,Nat.sub_add_cancel oM]
   refine .inr ⟨b,off+k * z,cap - k,cur,by simp only [Option.map_some,addrO],h1,?_,h3,by rw [h4]; omega,⟨fun _=>h,fun hn=>absurd he hn⟩⟩
   rw [h2,hlen,show (es.length - k) * z+(off+k * z)=es.length * z+off by omega]
def actSl0(P:Program)(n:Nat)(o:Oper)(ty:TypeId)(x:Operand)(lo hi:Option Operand):RM (List Wr):=if isStrT P ty=true then evP x fun p=>match p with
  | .str b=>intO hi b.size fun h=>intO lo 0 fun k => .assume (decide (0<=k/\k<=h/\h<=b.size)) (wv n o (.v (.str (b.extract k.toNat h.toNat))))
  | _ => .fail
 else actSlL P n o ty x lo hi
theorem actSl0_sound{ty:TypeId}{x:Operand}{lo hi:Option Operand}(ho:o.op = .slice ty x lo hi none)(h:Sim cx s g l a w)(hw:(actSl0 P cx.n o ty x lo hi).wp s K):OpOK P cx s o K a w:=by
 unfold actSl0 at hw
 split at hw
 ·rename_i hst
  have hu:P.underlying ty=some .string:=by
   unfold isStrT at hst
   split at hst
   ·rename_i hu; exact hu
   ·cases hst
  obtain ⟨p,h1,r1⟩:=evP_sound h hw
  split at h1
  ·rename_i b
   obtain ⟨hh,h2,hhi⟩:=intO_sound h h1
   obtain ⟨kk,h3,hlo⟩:=intO_sound h h2
   obtain ⟨hb,h4⟩:=h3
   obtain ⟨b0,b1,b2⟩:=of_decide_eq_true hb
   have hex:∀v,(Instr.slice ty (a.eval x) (lo.map a.eval) (hi.map a.eval) none).run P w = .ok v w->(execOp a.eval o).run P w = .ok (.value v) w:=fun v hr=>by
    simp only [execOp,ho,Option.map_none,Sem.run_bind,run_sliceAt_string _ _ _ _ _ _ hu,hr,Result.andThen_ok]; rfl
   generalize a.eval x=vx at r1 hex
   cases r1
   refine OpOK.pure h h4 (.str _) (hex _ ?_)
   rcases hhi with ⟨rfl,rfl⟩ | ⟨y,ki,rfl,hy⟩
   ·rcases hlo with ⟨rfl,rfl⟩ | ⟨y',ki',rfl,hy'⟩
    ·simp only [Option.map_none]
     rw [run_slice_string_all (ht:=hu)]
     rfl
    ·simp only [Option.map_none,Option.map_some,hy']
     rw [run_slice_string_l (ht:=hu) (h0:=b0) (h1:=b1)]
     rfl
   ·rcases hlo with ⟨rfl,rfl⟩ | ⟨y',ki',rfl,hy'⟩
    ·simp only [Option.map_none,Option.map_some,hy]
     rw [run_slice_string_h (ht:=hu) (h0:=by omega) (h2:=by omega)]
     rfl
    ·simp only [Option.map_some,hy,hy']
     rw [run_slice_string w ty b _ _ _ _ hu b0 b1 b2]
  ·exact h1.elim
 ·exact actSlL_sound ho h hw
theorem rep_sliced{z:Nat}{es:List (List PV)}{ad:Option Addr}{cap k:Nat}(hr:Rep g w (.sl z es) (.slice ad es.length cap))(hk:k<=es.length):Rep g w (.sl z (es.drop k)) (sliced ad k es.length cap z):=by
 have hlen:(es.drop k).length=es.length - k:=List.length_drop
 generalize hv:Value.slice ad es.length cap=v at hr
 cases hr with
 | slnil _=>
  injection hv with h1 h2 h3
  have hk0:k=0:=by simpa using hk
  subst hk0 h1 h3
  exact .slnil z
 | sl _ _ ad' cap' vs hle hcap hsz' hc hf h1' hr=>
  injection hv with h1 h2 h3
  subst h1 h3
  unfold sliced
  rw [<-hlen]
  by_cases hck:cap=k
  ·have hnil:es.drop k=[]:=List.eq_nil_of_length_eq_zero (by rw [hlen]; omega)
   rw [iP hck,hnil]
   exact .sl z [] ad' _ vs sM oM (fun i hi=>by simp at hi) (fun i j hi=>by simp at hi) (fun i j hi=>by simp at hi) (fun i j hi=>by simp at hi) (fun i j hi=>by simp at hi)
  ·rw [iN hck]
   simp only [Option.map_some]
   have hidx:∀i (hi:i<(es.drop k).length),∃h2:k+i<es.length,(es.drop k)[i]=es[k+i]:=fun i hi=>by
    have h3:k+i<es.length:=by rw [hlen] at hi; omega
    exact ⟨h3,by simp⟩
   refine .sl z _ (ad'.add (k * z)) _ (fun i j=>vs (k+i) j) (by rw [hlen]; omega) oM (fun i hi=>?_) (fun i j hi hj=>?_) (fun i j hi hj=>?_) (fun i j hi hj=>?_) (fun i j hi hj=>?_)
   ·obtain ⟨h3,h4'⟩:=hidx i hi
    rw [h4']; exact hsz' _ h3
   ·obtain ⟨h3,h4'⟩:=hidx i hi
    rw [Addr.add_add,show k * z+(i * z+j)=(k+i) * z+j by rw [Nat.add_mul]; omega]
    exact hc _ j h3 hj
   ·obtain ⟨h3,h4'⟩:=hidx i hi
    have:=hf _ j h3 hj
    have e1:(ad'.add (k * z)).block=ad'.block:=by unfold Addr.add; split <;> rfl
    have e2:(ad'.add (k * z)).off=ad'.off+k * z:=by unfold Addr.add; split <;> simp_all
    rw [e1,e2,show ad'.off+k * z+(i * z+j)=ad'.off+((k+i) * z+j) by rw [Nat.add_mul]; omega]
    exact this
   ·obtain ⟨h3,h4'⟩:=hidx i hi
    exact h1' _ j h3 hj
   ·obtain ⟨h3,h4'⟩:=hidx i hi
    have hj':j<es[k+i].length:=by rw [<-h4']; exact hj
    have:=hr _ j h3 hj'
    simp only [h4']
    exact this
def slK(P:Program)(ty:TypeId)(z:Nat):Bool:=match elemT P ty with
 | some e=>csz P e==some z && !isStrT P ty
 | none=>false
def actSl(P:Program)(n:Nat)(ops:List Oper)(o:Oper)(ty:TypeId)(x:Operand)(lo hi:Option Operand):RM (List Wr):=match x,lo,hi,o.dst with
 | .tmp t,some y,none,some d=>if feeds ops d=true then .getT t fun lv=>match lv with
   | .uniq e z es=>if d<n/\t≠d/\e<1000000/\slK P ty z=true then evP y fun q=>match q with
     | .int _ k => .assume (decide (0<=k/\k<=(es.length:Int))) (.ret [.tmp t (.v (.sl z es)),.tmp d (.uniq e z (es.drop k.toNat))])
     | _ => .fail
    else .fail
   | _=>actSl0 P n o ty (.tmp t) (some y) none
  else actSl0 P n o ty (.tmp t) (some y) none
 | _,_,_,_=>actSl0 P n o ty x lo hi
theorem actSl_sound{ops:List Oper}{ty:TypeId}{x:Operand}{lo hi:Option Operand}(ho:o.op = .slice ty x lo hi none)(h:Sim cx s g l a w)(hw:(actSl P cx.n ops o ty x lo hi).wp s K):OpOK P cx s o K a w:=by
 unfold actSl at hw
 split at hw
 ·rename_i t y d hd
  split at hw
  case isFalse=>exact actSl0_sound ho h hw
  simp only [RM.wp] at hw
  split at hw
  ·rename_i lv hlv
   split at hw
   ·rename_i e z es
    split at hw
    case isFalse=>exact hw.elim
    rename_i hc
    obtain ⟨hdn,hne,he,hz⟩:=hc
    obtain ⟨q,h1,r1⟩:=evP_sound h hw
    split at h1
    case h_2=>exact h1.elim
    rename_i ki k
    obtain ⟨hb,h2⟩:=h1
    obtain ⟨b0,b1⟩:=of_decide_eq_true hb
    have hkn:k.toNat<=es.length:=by omega
    unfold slK at hz
    split at hz
    case h_2=>cases hz
    rename_i e' hel0
    simp only [Bool.and_eq_true,beq_iff_eq,Bool.not_eq_true'] at hz
    have hu:P.underlying ty=some (.slice e'):=by
     unfold elemT at hel0
     split at hel0
     ·rename_i e2 hu; injection hel0 with hel0; rw [hu,hel0]
     ·cases hel0
    have hel:P.elem ty=e':=by simp [Program.elem,hu]
    have hu':P.underlying ty=some (.slice (P.elem ty)):=by rw [hel]; exact hu
    have hsz:(sizeOf (P.elem ty)).run P w = .ok z w:=by rw [hel]; exact run_sizeOf hz.1
    have hr:=h.tm t _ hlv
    have hy:a.eval y = .int ki k:=by
     generalize a.eval y=v at r1
     cases r1
     rfl
    have hR:Rep g w (.sl z es) (a.tmps.getD t undef):=toP_rep (toP_u he) hr
    have hs1:Sim cx { s with tmps:=put (put s.tmps t (.v (.sl z es))) d .junk } g l a w:=by
     refine h.leF (fun k v hk=>?_) (same_le WLs.refl _) (same_le WLs.refl _)
     simp only [lk_put] at hk
     split at hk
     ·injection hk with hk
      exact .inl hk.symm
     ·split at hk
      ·rename_i e0
       subst e0
       injection hk with hk
       subst hk
       exact .inr ⟨_,hlv,.inr ⟨rfl,wlE he⟩⟩
      ·exact .inr ⟨v,hk,WL.refl v⟩
    obtain ⟨l',hs2,hr3,-⟩:=hs1.transfer (p := .t t) (q := .t d) hr (fun e z es he=>by simp only [lk_put,iN (Ne.symm hne),if_true] at he; injection he with he; cases he)
     (fun e z es he=>by simp only [lk_put,if_true] at he; injection he with he; cases he)
    obtain ⟨ad,cap,hv,hle,hcut⟩:=RepL.cut he hr3 hkn (fun ad cap hv hle=>rep_sliced (by rw [<-hv]; exact hR) hkn)
    have hrun:(execOp a.eval o).run P w = .ok (.value (sliced ad k.toNat es.length cap z)) w:=by
     have e1:a.eval (.tmp t) = .slice ad es.length cap:=hv
     have hr9:(Instr.slice ty (a.eval (.tmp t)) (some (a.eval y)) none none).run P w = .ok (sliced ad k.toNat es.length cap z) w:=by
      rw [e1,hy,run_slice_l (ht:=hu') (h0:=b0) (h1:=b1),hsz]
      rfl
     simp only [execOp,ho,Option.map_none,Option.map_some,Sem.run_bind,run_sliceAt_slice _ _ _ _ _ _ hu',hr9,Result.andThen_ok]; rfl
    intro Q
    unfold Oper.wp
    rw [hrun,Oper.upon_value,hd]
    refine ⟨_,g,l',h2,(hs2.set hdn hcut).congr (fun k=>?_) (fun _=>rfl) (fun _=>rfl)⟩
    simp only [S.wrs,S.wr,lk_put]
    split <;> rfl
   ·refine actSl0_sound ho h hw
  ·exact hw.elim
 ·exact actSl0_sound ho h hw
end
end Go.Pv
