/- Values of Go as plain data, an evaluator over them, and what the functions of the program return; part Yf. -/
import Derived.Test.YtaakmholhliodaaGreatDoorYe
import Derived.Test.YtaakmholhliodaaGreatDoorYa
import Derived.Test.YtaakmholhliodaaGreatDoorYc
import Derived.Test.YtaakmholhliodaaGreatDoorYb
set_option linter.unusedSectionVars false
set_option linter.unusedSimpArgs false
set_option linter.unusedVariables false
namespace Go.Proofs.YtaakmholhliodaaGreatDoor
open Go.Proofs.Tryz
open Go.Pv
set_option maxRecDepth 100000
inductive Path (N:ByteArray->List ByteArray):ByteArray->ByteArray->Prop
 | one {x y:ByteArray}:y∈N x->Path N x y
 | cons {x y z:ByteArray}:z∈N x->Path N z y->Path N x y
theorem Path.mono{N M:ByteArray->List ByteArray}{p:ByteArray->Prop}(h:∀x y,p x->y∈N x->y∈M x/\p y){x y:ByteArray}(hp:Path N x y):p x->Path M x y:=by
 induction hp with
 | one h1=>exact fun hx => .one (h _ _ hx h1).1
 | cons h1 _ ih=>exact fun hx => .cons (h _ _ hx h1).1 (ih (h _ _ hx h1).2)
theorem Path.closed{N:ByteArray->List ByteArray}{to:ByteArray}{s:List ByteArray}(hc:∀z∈s,∀y∈N z,y≠to/\y∈s){x:ByteArray}(h0:∀y∈N x,y≠to/\y∈s):¬Path N x to:=by
 intro hp
 generalize hy:to=y at hp
 induction hp with
 | one h1=>exact (h0 _ h1).1 hy.symm
 | cons h1 _ ih=>exact ih (hc _ (h0 _ h1).2) hy
theorem vsA_true{N:ByteArray->List ByteArray}{to nm:ByteArray}{dv:ByteArray->List ByteArray->Bool × List ByteArray}(hd:∀x s,(dv x s).1=true->Path N x to):∀ (ns s:List ByteArray),(∀y∈ns,y∈N nm)->(vsS dv (vsA_f to dv ns s)).1=true->Path N nm to
 | [],s,_,h=>by rw [vsA_f] at h; cases h
 | x::r,s,hn,h=>by
  rw [vsA_f] at h
  split at h
  ·rename_i hx; exact hx ▸ .one (hn x List.mem_cons_self)
  ·split at h
   ·split at h
    ·rename_i hx; exact .cons (hn x List.mem_cons_self) (hd _ _ hx)
    ·exact vsA_true hd r _ (fun y hy=>hn y (List.mem_cons_of_mem _ hy)) h
   ·exact vsA_true hd r _ (fun y hy=>hn y (List.mem_cons_of_mem _ hy)) h
theorem vsK_true(m:Mo)(ty:Bool)(to:ByteArray):∀ (d:Nat) (nm:ByteArray) (s:List ByteArray),(vsK m ty to d nm s).1=true->Path (fun x=>usF m x ty) nm to
 | 0,_,_,h=>by cases h
 | d+1,nm,s,h=>vsA_true (dv:=vsK m ty to d) (fun x s h=>vsK_true m ty to d x s h) _ s (fun y hy=>hy) h
theorem vsA_false{m:Mo}{N:ByteArray->List ByteArray}{to:ByteArray}{d:Nat}{dv:ByteArray->List ByteArray->Bool × List ByteArray}(hk:∀x s,cU m (dv x s).2<=cU m s)(hd:∀x s,cU m s<d->(dv x s).1=false->(∀z∈s,z∈(dv x s).2)/\(∀y∈N x,y≠to/\y∈(dv x s).2)/\∀z∈(dv x s).2,z∉s->∀y∈N z,y≠to/\y∈(dv x s).2) :
  ∀ (ns s:List ByteArray),(∀y∈ns,unR m y=false)->cU m s<d+1->(vsS dv (vsA_f to dv ns s)).1=false->(∀z∈s,z∈(vsS dv (vsA_f to dv ns s)).2)/\(∀y∈ns,y≠to/\y∈(vsS dv (vsA_f to dv ns s)).2)/\∀z∈(vsS dv (vsA_f to dv ns s)).2,z∉s->∀y∈N z,y≠to/\y∈(vsS dv (vsA_f to dv ns s)).2
 | [],s,_,_,_=>⟨fun z h=>h,by simp,fun z h hn=>absurd h hn⟩
 | x::r,s,hu,hc,h=>by
  rw [vsA_f] at h ⊢
  by_cases h0:x=to
  ·rw [if_pos h0] at h; cases h
  ·rw [if_neg h0] at h ⊢
   by_cases h1:inN x s=false
   ·rw [if_pos h1] at h ⊢
    by_cases h2:(dv x (s++[x])).1=true
    ·rw [if_pos h2] at h; cases h
    ·rw [if_neg h2] at h ⊢
     have hst:=cU_step (hu x List.mem_cons_self) h1
     have hks:=hk x (s++[x])
     obtain ⟨a1,a2,a3⟩:=hd x (s++[x]) (by omega) (by simpa using h2)
     generalize (dv x (s++[x])).2=s1 at hks a1 a2 a3 h ⊢
     obtain ⟨b1,b2,b3⟩:=vsA_false hk hd r s1 (fun y hy=>hu y (List.mem_cons_of_mem _ hy)) (by omega) h
     refine ⟨fun z hz=>b1 z (a1 z (List.mem_append_left _ hz)),fun y hy=>?_,fun z hz hn y hy=>?_⟩
     ·rcases List.mem_cons.1 hy with rfl | hy
      ·exact ⟨h0,b1 _ (a1 _ (List.mem_append_right _ (by simp)))⟩
      ·exact b2 y hy
     ·by_cases hz1:z∈s1
      ·by_cases hz2:z∈s++[x]
       ·rcases List.mem_append.1 hz2 with hz2 | hz2
        ·exact absurd hz2 hn
        ·rw [List.mem_singleton] at hz2
         rw [hz2] at hy
         exact ⟨(a2 y hy).1,b1 _ (a2 y hy).2⟩
       ·have:=a3 z hz1 hz2 y hy
        exact ⟨this.1,b1 _ this.2⟩
      ·exact b3 z hz hz1 y hy
   ·rw [if_neg h1] at h ⊢
    obtain ⟨b1,b2,b3⟩:=vsA_false hk hd r s (fun y hy=>hu y (List.mem_cons_of_mem _ hy)) hc h
    refine ⟨b1,fun y hy=>?_,b3⟩
    rcases List.mem_cons.1 hy with rfl | hy
    ·exact ⟨h0,b1 _ ((inN_iff _ _).1 (by simpa using h1))⟩
    ·exact b2 y hy
theorem vsK_cU(m:Mo)(ty:Bool)(to:ByteArray)(d:Nat)(nm:ByteArray)(s:List ByteArray):cU m (vsK m ty to d nm s).2<=cU m s:=(vsK_keep m ty to (s.length+cU m s) (cU m s) d nm s ⟨Nat.le_refl _,Nat.le_refl _⟩).2
theorem vsK_false(m:Mo)(ty:Bool)(to:ByteArray):∀ (d:Nat) (nm:ByteArray) (s:List ByteArray),cU m s<d->(vsK m ty to d nm s).1=false->(∀z∈s,z∈(vsK m ty to d nm s).2)/\(∀y∈usF m nm ty,y≠to/\y∈(vsK m ty to d nm s).2)/\∀z∈(vsK m ty to d nm s).2,z∉s->∀y∈usF m z ty,y≠to/\y∈(vsK m ty to d nm s).2
 | 0,_,_,h,_=>by omega
 | d+1,nm,s,hc,h=>vsA_false (N:=fun x=>usF m x ty) (dv:=vsK m ty to d) (fun x s=>vsK_cU m ty to d x s) (fun x s hc h=>vsK_false m ty to d x s hc h) (usF m nm ty) s (fun y hy=>usF_un hy) hc h
theorem rcF_iff(m:Mo)(fr to:ByteArray)(ty:Bool):rcF m fr to ty=true↔Path (fun x=>usF m x ty) fr to:=by
 constructor
 ·exact vsK_true m ty to _ fr []
 ·intro hp
  cases hb:rcF m fr to ty with
  | true=>rfl
  | false=>
   have h1:=cU_le m []
   obtain ⟨-,h2,h3⟩:=vsK_false m ty to ((moF m).length+1) fr [] (by omega) hb
   exact absurd hp (Path.closed (fun z hz y hy=>h3 z hz (by simp) y hy) h2)
theorem rrA_from{to:ByteArray}{ns:List ByteArray}:∀ (r s o:List ByteArray),(∀y∈r,y∈ns)->∀s1 o1,rrA_f to r s o = .e1 s1 o1->∀z∈o1,z∈o∨z∈ns
 | [],s,o,_,s1,o1,h=>by
  rw [rrA_f] at h
  injection h with h1 h2
  subst h2
  exact fun z hz => .inl hz
 | x::r,s,o,hr,s1,o1,h=>by
  rw [rrA_f] at h
  have hr':∀y∈r,y∈ns:=fun y hy=>hr y (List.mem_cons_of_mem _ hy)
  split at h
  ·cases h
  ·split at h
   ·intro z hz
    rcases rrA_from r _ _ hr' s1 o1 h z hz with h | h
    ·rcases List.mem_append.1 h with h | h
     ·exact .inl h
     ·rw [List.mem_singleton] at h; exact .inr (h ▸ hr x List.mem_cons_self)
    ·exact .inr h
   ·exact rrA_from r _ _ hr' s1 o1 h
theorem rrK_true(m:Mo)(to:ByteArray)(ty:Bool):∀ (d:Nat) (s o:List ByteArray),rrK m to ty d s o=true->∃x∈o,Path (fun x=>ruF m (rlD m x) ty) x to
 | 0,_,_,h=>by cases h
 | d+1,s,[],h=>by cases h
 | d+1,s,x::r,h=>by
  rw [rrK] at h
  have hsp:=rr_spec (m:=m) (to:=to) (ruF m (rlD m x) ty) s r (fun y hy=>ru_un hy)
  split at h
  ·rename_i p q hf
   rw [hf] at hsp
   exact ⟨x,List.mem_cons_self,.one hsp⟩
  ·rename_i s1 o1 hf
   obtain ⟨z,hz,hp⟩:=rrK_true m to ty d s1 o1 h
   rcases rrA_from _ _ _ (fun y hy=>hy) s1 o1 hf z hz with hz | hz
   ·exact ⟨z,List.mem_cons_of_mem _ hz,hp⟩
   ·exact ⟨x,List.mem_cons_self,.cons hz hp⟩
theorem rrK_false(m:Mo)(to:ByteArray)(ty:Bool):∀ (d:Nat) (s o:List ByteArray),2 * cU m s+o.length<d->(∀z∈s,z∈o∨∀y∈ruF m (rlD m z) ty,y≠to/\y∈s)->rrK m to ty d s o=false ->
  ∃s':List ByteArray,(∀z∈s,z∈s')/\(∀x∈o,∀y∈ruF m (rlD m x) ty,y≠to/\y∈s')/\∀z∈s',∀y∈ruF m (rlD m z) ty,y≠to/\y∈s'
 | 0,_,_,h,_,_=>by omega
 | d+1,s,[],_,hc,_=>⟨s,fun z h=>h,by simp,fun z hz=>by
   rcases hc z hz with h | h
   ·simp at h
   ·exact h⟩
 | d+1,s,x::r,hl,hc,h=>by
  rw [rrK] at h
  have hsp:=rr_spec (m:=m) (to:=to) (ruF m (rlD m x) ty) s r (fun y hy=>ru_un hy)
  simp only [List.length_cons] at hl
  split at h
  ·cases h
  ·rename_i s1 o1 hf
   rw [hf] at hsp
   obtain ⟨h1,h2,h3,h4,h5,h6,h7⟩:=hsp
   obtain ⟨s',k1,k2,k3⟩:=rrK_false m to ty d s1 o1 (by omega) (fun z hz=>by
    by_cases hzo:z∈o1
    ·exact .inl hzo
    ·rcases h4 z hz with hz | hz
     ·rcases hc z hz with hz | hz
      ·rcases List.mem_cons.1 hz with rfl | hz
       ·exact .inr h1
       ·exact absurd (h3 z hz) hzo
      ·exact .inr fun y hy=>⟨(hz y hy).1,h2 _ (hz y hy).2⟩
     ·exact absurd hz hzo) h
   refine ⟨s',fun z hz=>k1 z (h2 z hz),fun w hw y hy=>?_,k3⟩
   rcases List.mem_cons.1 hw with rfl | hw
   ·exact ⟨(h1 y hy).1,k1 _ (h1 y hy).2⟩
   ·exact k2 w (h3 w hw) y hy
theorem rrF_iff(m:Mo)(fr to:ByteArray)(ty:Bool):rrF m fr to ty=true↔Path (fun x=>ruF m (rlD m x) ty) fr to:=by
 constructor
 ·intro h
  obtain ⟨x,hx,hp⟩:=rrK_true m to ty _ [] [fr] h
  rw [List.mem_singleton] at hx
  exact hx ▸ hp
 ·intro hp
  cases hb:rrF m fr to ty with
  | true=>rfl
  | false=>
   have h1:=cU_le m []
   obtain ⟨s',-,h2,h3⟩:=rrK_false m to ty (2 * (moF m).length+2) [] [fr] (by simp only [List.length_cons,List.length_nil]; omega) (by simp) hb
   exact absurd hp (Path.closed h3 (h2 fr (by simp)))
theorem rc_rr{m:Mo}{fr to:ByteArray}{ty:Bool}(hf:unR m fr=false):rcF m fr to ty=rrF m fr to ty:=by
 have h:rcF m fr to ty=true↔rrF m fr to ty=true:=by
  rw [rcF_iff,rrF_iff]
  constructor
  ·exact fun hp=>hp.mono (p:=fun x=>unR m x=false) (fun x y hx hy=>⟨(usF_mem hx).1 hy,usF_un hy⟩) hf
  ·exact fun hp=>hp.mono (p:=fun x=>unR m x=false) (fun x y hx hy=>⟨(usF_mem hx).2 hy,ru_un hy⟩) hf
 cases h1:rcF m fr to ty <;> cases h2:rrF m fr to ty <;> simp_all
open Go.Pv Go.Proofs.Tryz
theorem roL2(m:Mo)(nm:BA)(d:Df)(hs:bulkPs (moL m)<=2000000)(hrf:Pu 25 [.agg (moL m),.str nm] (.ret (.tup [.agg (dfL d),.bool true])))(hN:(moF m).length<=1000000000):Pu 9 [.agg (moL m),.str nm] (rA [.sl 4 (Da.cs (moD m)),.sl 3 (Cl.cs (moC m)),.sl 12 (In.cs (moI m)),.sl 8 (Ms.cs (moM m)),.sl 6 (Qu.cs (moQ m)),.sl 25 (Df.cs (roA_f m nm (moF m) []))]):=
 pu mdL (fun e=>[cl hrf,bf false,lp (S.mk [(1,vS nm),(2,.lp 2 0),(4,.lp 4 0),(7,.lp 7 0),(8,vI6 0)] [(2,moV m),(4,[.v .nilsl,.v .nilsl,.v .nilsl,.v .nilsl,.v .nilsl,.v .nilsl]),(7,[vL 4 (Da.cs (moD m)),vL 3 (Cl.cs (moC m)),vL 12 (In.cs (moI m)),vL 8 (Ms.cs (moM m)),vL 6 (Qu.cs (moQ m)),.v .nilsl])] e) (@roA m nm d hs hrf ([]) e hN (by (simp only [List.length_nil]; omega))) ⟨⟨W,W,W,W,W,tVv⟩,⟨⟨W,W,W,W,W,W,tVv⟩,⟨W,W,W,W,W,W,tVv⟩,⟨W,W,W,W,W,Wq,tVv⟩,tVv⟩,rfl⟩]) func9
def roB7(nm:BA)(m:Mo)(d:Df):Bool:=decide (dfM d=2)&&(decide (dfNm d=nm)||rrF m nm (dfNm d) true&&rrF m (dfNm d) nm true)&&rrF m (dfNm d) (dfNm d) false
def roG(nm:BA)(m:Mo)(d:Df):Df:=if roB7 nm m d=true then dfPl d else d
theorem roA_eq(nm:BA)(m:Mo):∀ (l out:List Df),roA_f m nm l out=out++l.map (roG nm m)
 | [],out=>by simp [roA_f]
 | d::r,out=>by
  have e1:=roA_eq nm m r (out++[dfPl d])
  have e2:=roA_eq nm m r (out++[d])
  rw [roA_f,List.map_cons]
  unfold roG roB7 at e1 e2 ⊢
  by_cases h0:dfM d=2
  ·by_cases h1:dfNm d=nm
   ·by_cases h2:rrF m (dfNm d) (dfNm d) false=true
    ·subst h1; simp only [h0,h2,if_true,decide_true,Bool.true_or,Bool.and_self,e1]; simp
    ·subst h1; simp only [h0,h2,if_true,if_false,decide_true,Bool.true_or,Bool.true_and,e2,Bool.and_false]; simp
   ·by_cases h3:rrF m nm (dfNm d) true=true
    ·by_cases h4:rrF m (dfNm d) nm true=true
     ·by_cases h2:rrF m (dfNm d) (dfNm d) false=true
      ·simp only [h0,h1,h2,h3,h4,if_true,if_false,decide_true,decide_false,Bool.false_or,Bool.and_self,e1]; simp
      ·simp only [h0,h1,h2,h3,h4,if_true,if_false,decide_true,decide_false,Bool.false_or,Bool.and_self,Bool.true_and,e2]; simp
     ·simp only [h0,h1,h3,h4,if_true,if_false,decide_true,decide_false,Bool.false_or,Bool.true_and,Bool.and_false,Bool.false_and,e2]; simp
    ·simp only [h0,h1,h3,if_true,if_false,decide_true,decide_false,Bool.false_or,Bool.true_and,Bool.and_false,Bool.false_and,e2]; simp
  ·simp only [h0,if_false,decide_false,Bool.false_and,e2,ite_self]; simp
theorem rf_un{m:Mo}{d:Df}(hd:d∈moF m)(h2:dfM d=2):unR m (dfNm d)=false:=by
 have h:∀l:List Df,d∈l->rfX (dfNm d) l<l.length
  | [],h=>by simp at h
  | c::r,h=>by
   rw [rfX]
   split
   ·simp
   ·rename_i hc
    rcases List.mem_cons.1 h with rfl | h'
    ·exact absurd (by simp [rc1_r0,h2]) hc
    ·have:∀l:List Df,d∈l->rfX (dfNm d) l<l.length:=fun l hl=>by
      induction l with
      | nil=>simp at hl
      | cons c r ih=>
       rw [rfX]
       split
       ·simp
       ·rename_i hc
        rcases List.mem_cons.1 hl with rfl | hl
        ·exact absurd (by simp [rc1_r0,h2]) hc
        ·simpa using ih hl
     simpa using this r h'
 unfold unR rfD
 rw [iP (h _ hd)]
 rfl
theorem ou_ro{m:Mo}{nm:BA}{d:Df}(hn:unR m nm=false)(hd:d∈moF m):ouG nm m d=roG nm m d:=by
 have h:ouB nm m d=roB7 nm m d:=by
  unfold ouB roB7
  by_cases h2:dfM d=2
  ·have h3:=rf_un hd h2
   rw [rc_rr hn,rc_rr h3,rc_rr h3]
  ·simp [h2]
 unfold ouG roG
 rw [h]
theorem roT(m:Mo)(nm:BA)(hs:bulkPs (moL m)<=2000000):Pu 9 [.agg (moL m),.str nm] (.ret (.agg (moL (ouF nm m)))):=by
 have hN:=moF_len m
 have hr:=rlT m nm oM
 unfold ouF
 unfold rlD unR at hr
 cases h:rfD nm (moF m) with
 | none=>
  rw [h] at hr
  exact pm mdL [cl hr,bt true] func9
 | some d=>
  rw [h] at hr
  have hn:unR m nm=false:=by unfold unR; rw [h]; rfl
  have:=roL2 m nm d hs hr oM
  rw [roA_eq,List.nil_append] at this
  have e:(moF m).map (ouG nm m)=(moF m).map (roG nm m):=List.map_congr_left fun d hd=>ou_ro hn hd
  rw [e]
  exact this
theorem rfD_cons(s:ByteArray)(c:Df)(r:List Df):rfD s (c::r)=if rc1_r0 c s=true then some c else rfD s r:=by
 unfold rfD
 rw [rfX]
 by_cases h:rc1_r0 c s=true
 ·simp [h]
 ·simp only [h,Bool.false_eq_true,if_false,List.length_cons,Nat.add_lt_add_iff_right]
  split
  ·simp [List.getD]
  ·rfl
theorem rc1_iff{d:Df}{s:ByteArray}:rc1_r0 d s=true↔dfNm d=s/\dfM d=2:=by
 constructor
 ·exact rc1_nm
 ·rintro ⟨h1,h2⟩; simp [rc1_r0,h1,h2]
theorem ouG_keep{nm:ByteArray}{m:Mo}{d:Df}(h:dfM (ouG nm m d)=2):ouG nm m d=d/\ouB nm m d=false:=by
 unfold ouG at h ⊢
 split at h
 ·cases h
 ·rename_i hb
  exact ⟨if_neg hb,by simpa using hb⟩
theorem ouB_nm{nm:ByteArray}{m:Mo}{d e:Df}(hn:dfNm d=dfNm e)(h1:dfM d=2)(h2:dfM e=2):ouB nm m d=ouB nm m e:=by
 unfold ouB
 rw [hn,h1,h2]
theorem rfD_map{nm x:ByteArray}{m:Mo}:∀ {l:List Df} {e:Df},rfD x (l.map (ouG nm m))=some e->rfD x l=some e/\ouB nm m e=false/\e∈l
 | [],e,h=>by simp [rfD,rfX] at h
 | c::r,e,h=>by
  rw [List.map_cons,rfD_cons] at h
  rw [rfD_cons]
  split at h
  ·rename_i h1
   injection h with h
   obtain ⟨h2,h3⟩:=ouG_keep (rc1_iff.1 h1).2
   rw [h2] at h h1
   subst h
   exact ⟨if_pos h1,h3,List.mem_cons_self⟩
  ·rename_i h1
   obtain ⟨h2,h3,h4⟩:=rfD_map h
   refine ⟨?_,h3,List.mem_cons_of_mem _ h4⟩
   rw [if_neg ?_]
   ·exact h2
   ·intro hc
    obtain ⟨c1,c2⟩:=rc1_iff.1 hc
    obtain ⟨e1,e2⟩:=rfD_nm h2
    have hb:ouB nm m c=false:=by rw [ouB_nm (c1.trans e1.symm) c2 e2]; exact h3
    have:ouG nm m c=c:=if_neg (by rw [hb]; simp)
    rw [this] at h1
    exact h1 hc
def ouM(nm:ByteArray)(m:Mo):Mo:=moO m ((moF m).map (ouG nm m))
theorem ouM_F(nm:ByteArray)(m:Mo):moF (ouM nm m)=(moF m).map (ouG nm m):=rfl
theorem unR_M{nm x:ByteArray}{m:Mo}(h:unR (ouM nm m) x=false):unR m x=false:=by
 unfold unR at h ⊢
 rw [ouM_F] at h
 cases he:rfD x ((moF m).map (ouG nm m)) with
 | none=>rw [he] at h; cases h
 | some e=>rw [(rfD_map he).1]; rfl
theorem usF_M{nm x y:ByteArray}{m:Mo}{ty:Bool}(h:y∈usF (ouM nm m) x ty):y∈usF m x ty:=by
 have hu:=usF_un h
 unfold usF at h ⊢
 rw [ouM_F] at h
 cases he:rfD x ((moF m).map (ouG nm m)) with
 | none=>rw [he] at h; simp at h
 | some e=>
  rw [he] at h
  rw [(rfD_map he).1]
  have h1:=(List.mem_filter.1 h).1
  exact List.mem_filter.2 ⟨h1,by rw [unR_M hu]; rfl⟩
theorem rcF_M{nm x y:ByteArray}{m:Mo}{ty:Bool}(h:rcF (ouM nm m) x y ty=true):rcF m x y ty=true:=by
 rw [rcF_iff] at h ⊢
 exact h.mono (p:=fun _=>True) (fun x y _ hy=>⟨usF_M hy,trivial⟩) trivial
theorem ouB_M{nm:ByteArray}{m:Mo}{d:Df}(h:ouB nm (ouM nm m) d=true):ouB nm m d=true:=by
 unfold ouB at h ⊢
 simp only [Bool.and_eq_true,Bool.or_eq_true] at h ⊢
 obtain ⟨⟨h1,h2⟩,h3⟩:=h
 exact ⟨⟨h1,h2.imp_right fun h=>⟨rcF_M h.1,rcF_M h.2⟩⟩,rcF_M h3⟩
theorem ouF_twice(nm:ByteArray)(m:Mo):ouF nm (ouF nm m)=ouF nm m:=by
 cases h:rfD nm (moF m) with
 | none=>
  have:ouF nm m=m:=by unfold ouF; rw [h]
  rw [this,this]
 | some d0=>
  have e:ouF nm m=ouM nm m:=by unfold ouF; rw [h]; rfl
  rw [e]
  have hm:(moF (ouM nm m)).map (ouG nm (ouM nm m))=moF (ouM nm m):=by
   rw [ouM_F,List.map_map]
   refine List.map_congr_left fun d hd=>?_
   show ouG nm (ouM nm m) (ouG nm m d)=ouG nm m d
   refine if_neg fun hb=>?_
   have h2:dfM (ouG nm m d)=2:=by
    unfold ouB at hb
    simp only [Bool.and_eq_true,decide_eq_true_eq] at hb
    exact hb.1.1
   obtain ⟨k1,k2⟩:=ouG_keep h2
   rw [k1] at hb
   rw [ouB_M hb] at k2
   cases k2
  cases h2:rfD nm (moF (ouM nm m)) with
  | none=>unfold ouF; rw [h2]
  | some d1=>
   unfold ouF
   rw [h2]
   show moO (ouM nm m) ((moF (ouM nm m)).map (ouG nm (ouM nm m)))=ouM nm m
   rw [hm]
   rfl
abbrev bdS_I(v:Ex)(j:Int)(out:List Ex)(e:Ext):S:=S.mk [(1,.lp 1 0),(2,.v .nilsl),(3,.uniq 37 7 (Ex.cs out)),(4,vI6 j)] [(1,exV v)] e
def bdS_f  : List Al->(List Ex)->(List Ex)
 | [],out=>(out)
 | el::r,out=>bdS_f  r (out++[alB el])
def bdS_q(v:Ex)(e:Ext)(p:(List Ex)):PExit × S:=(.exit 0,S.mk [(1,.lp 1 0),(2,.v .nilsl),(3,.uniq 37 7 (Ex.cs p))] [(1,exV v)] e)
theorem bdS(v:Ex)(hk:(exK v).length<=1000000000)(hA:(exA v).length<=1000000000)(out:List Ex)(e:Ext)(hN:(exA v).length<=1000000000)(hv:List.length out<=1000000000+0):(Ob.loop 26 (loopF f34 0) (bdS_I v 0 out e) (bdS_q v e (bdS_f  ((exA v))  out)).1 (bdS_q v e (bdS_f  ((exA v))  out)).2).ok prog:=by
 refine rng ((exA v).length) (fun j out=>bdS_I v j out e) (fun i out=>bdS_f  (List.drop i ((exA v)))  out) (bdS_q v e) (fun i out=>(out.length<=1000000000+i)) kR ?_ out (by first | exact hv | omega)
 rintro i out hi hv
 try simp only at hv
 rcases Nat.lt_or_ge i ((exA v).length) with hlt | hge
 ·have hd:=drop_at hlt
  exact lS mdL [sl (Al.cs_len (exA v)),rgAl hlt,am (List.length (Ex.cs out++[List.take ((fun x=>TypeInfo.size x) (Tables.types (Program.toTables prog))[37]) (List.drop (0+Field.offset #[Field.mk "Con" 9 0 false "" "" 0,Field.mk "Names" 30 1 false "" "" 16,Field.mk "Body" 37 2 false "" "" 40][2]) (alL (List.getD (exA v) i default)))]) * (127+1)<=140737488355328) (by (simp only [List.length_append,List.length_cons,List.length_nil,nmsC_len,Tp.cs_len,Pm.cs_len,Ex.cs_len,Al.cs_len]; omega)),wr ((i:Int)+1)] [1,2,3,4] [1] hlt (out++[alB (List.getD (exA v) i default)]) (S.mk [(1,.lp 1 0),(2,.v .nilsl),(3,.uniq 37 7 (Ex.cs out++[List.take (TypeInfo.size (Tables.types (Program.toTables prog))[37]) (List.drop (0+Field.offset #[Field.mk "Con" 9 0 false "" "" 0,Field.mk "Names" 30 1 false "" "" 16,Field.mk "Body" 37 2 false "" "" 40][2]) (alL (List.getD (exA v) i default)))])),(4,vI6 ((i:Int)+1))] [(1,exV v)] e) ⟨⟨W,W,(.inl (by first | (simp only [List.nil_append,nmsC_app,nmsC_snoc,Pr.cs_snoc,Tp.cs_snoc,Ex.cs_snoc,Vr.cs_snoc,Df.cs_snoc]; done) | (simp only [List.nil_append,nmsC_app,nmsC_snoc,Pr.cs_snoc,Tp.cs_snoc,Ex.cs_snoc,Vr.cs_snoc,Df.cs_snoc]; rfl))),W,tVv⟩,⟨Ws,tVv⟩,rfl⟩ (by first | assumption | omega | (apply gEx <;> first | assumption | omega | decide) | (apply gAl <;> first | assumption | omega | decide) | (simp only [List.length_append,List.length_cons,List.length_nil] at *; omega) | simp_all) (by rw [hd,bdS_f])
 ·have he:i=(exA v).length:=by omega
  exact lX mdL [sl (Al.cs_len (exA v)),df ((i:Int)<((exA v).length:Int))] (out) (by rw [he,List.drop_length,bdS_f])
theorem bdT(v:Ex)(hk:(exK v).length<=1000000000)(hA:(exA v).length<=1000000000):Pu 34 [.agg (exL v)] (.own 37 7 (Ex.cs (bdS_f (exA v) (exK v)))):=
 pu mdL (fun e=>[am (List.length ([]++(fun x=>Prod.snd x) (7,Ex.cs (exK v))) * (127+1)<=140737488355328) (by (simp only [List.length_append,List.length_nil,Ex.cs_len]; omega)),lp (S.mk [(1,.lp 1 0),(2,.v .nilsl),(3,.uniq 37 7 ([]++Ex.cs (exK v))),(4,vI6 0)] [(1,exV v)] e) (@bdS v hk hA (exK v) e hA hk) ⟨⟨W,W,(by first | exact .inl rfl | exact .inr ⟨rfl,rfl⟩ | exact .inr rfl | exact .inr trivial | exact .inl (by first | (simp only [List.nil_append,nmsC_app,nmsC_snoc,Pr.cs_snoc,Tp.cs_snoc,Ex.cs_snoc,Vr.cs_snoc,Df.cs_snoc]; done) | (simp only [List.nil_append,nmsC_app,nmsC_snoc,Pr.cs_snoc,Tp.cs_snoc,Ex.cs_snoc,Vr.cs_snoc,Df.cs_snoc]; rfl))),W,tVv⟩,⟨⟨W,W,W,W,W,W,W,tVv⟩,tVv⟩,rfl⟩]) func34
abbrev ndS_I(v:Ex)(ks:List Ex)(nf:Ex->Int)(j:Int)(m:Int)(e:Ext):S:=S.mk [(2,vI6 0),(3,vI6 m),(4,vL 7 (Ex.cs ks)),(5,vI6 j)] [] e
def ndS_f(nf:Ex->Int):List Ex->(Int)->(Int)
 | [],m=>(m)
 | el::r,m=>ndS_f nf r (IntKind.wrap .i64 (m+nf el))
def ndS_q(v:Ex)(ks:List Ex)(nf:Ex->Int)(e:Ext)(p:(Int)):PExit × S:=(.exit 0,S.mk [(2,vI6 0),(3,vI6 p),(4,vL 7 (Ex.cs ks))] [] e)
theorem ndS(v:Ex)(ks:List Ex)(hB:Pu 34 [.agg (exL v)] (.ret (.sl 7 (Ex.cs ks))))(hks:ks.length<=2000000000)(nf:Ex->Int)(hR:∀y:Ex,y∈ks->Pu 14 [.agg (exL y)] (.ret (.int .i64 (nf y))))(m:Int)(e:Ext)(hN:ks.length<=1000000000)  : (Ob.loop 22 (loopF f14 0) (ndS_I v ks nf 0 m e) (ndS_q v ks nf e (ndS_f nf (ks)  m)).1 (ndS_q v ks nf e (ndS_f nf (ks)  m)).2).ok prog:=by
 refine rng ks.length (fun j m=>ndS_I v ks nf j m e) (fun i m=>ndS_f nf (List.drop i (ks))  m) (ndS_q v ks nf e) (fun i m=>True) kR ?_ m trivial
 rintro i m hi -
 rcases Nat.lt_or_ge i (ks.length) with hlt | hge
 ·have hd:=drop_at hlt
  exact lN mdL [sl (Ex.cs_len ks),rgEx hlt,cl (@hR (List.getD ks i default) (by first | exact getD_mem hlt | simp_all)),kp,wr ((i:Int)+1)] hlt (IntKind.wrap .i64 (m+nf (List.getD ks i default))) trivial (by rw [hd,ndS_f])
 ·have he:i=ks.length:=by omega
  exact lX mdL [sl (Ex.cs_len ks),df ((i:Int)<(ks.length:Int))] (m) (by rw [he,List.drop_length,ndS_f])
theorem ndL(v:Ex)(ks:List Ex)(hB:Pu 34 [.agg (exL v)] (.ret (.sl 7 (Ex.cs ks))))(hks:ks.length<=2000000000)(nf:Ex->Int)(hR:∀y:Ex,y∈ks->Pu 14 [.agg (exL y)] (.ret (.int .i64 (nf y))))(hx0:List.length ks<=1000000000):Pu 14 [.agg (exL v)] (rI (ndS_f nf ks 1)):=
 pu mdL (fun e=>[cl hB,lq (@ndS v ks hB hks nf hR 1 e hx0)]) func14
theorem exs_lt(v:Ex):bulkPss (Ex.cs (exK v))+bulkPss (Al.cs (exA v))<bulkPs (exL v):=by simp only [bulkPs,bulkP]; omega
theorem bdS_eq:∀ (bs:List Al) (out:List Ex),bdS_f bs out=out++bs.map alB
 | [],out=>by simp [bdS_f]
 | a::r,out=>by simp [bdS_f,bdS_eq r]
theorem alB_lt(a:Al):bulkPs (exL (alB a))<bulkPs (alL a):=by simp only [bulkPs,bulkP]; omega
theorem bod_lt{v y:Ex}(h:y∈bdS_f (exA v) (exK v)):bulkPs (exL y)<bulkPs (exL v):=by
 have h1:=exs_lt v
 rw [bdS_eq,List.mem_append,List.mem_map] at h
 rcases h with h | ⟨a,h,rfl⟩
 ·have:=Ex.mem h; omega
 ·have:=Al.mem h; have:=alB_lt a; omega
def ndD:Nat->Ex->Int
 | 0,_=>0
 | d+1,v=>ndS_f (ndD d) (bdS_f (exA v) (exK v)) 1
theorem nd_ok:∀ (d:Nat) (v:Ex),bulkPs (exL v)<d->d<=100000001->Pu 14 [.agg (exL v)] (.ret (.int .i64 (ndD d v)))
 | 0,v,h,_=>by omega
 | d+1,v,h,hs=>by
  have h1:=exs_lt v
  have h2:=Ex.bulk (exK v)
  have h3:=Al.bulk (exA v)
  have hl:(bdS_f (exA v) (exK v)).length<=1000000000:=by rw [bdS_eq,List.length_append,List.length_map]; omega
  exact ndL v _ (Ob.pur_unown (bdT v oM oM)) oM (ndD d) (fun y hy=>nd_ok d y (by have:=bod_lt hy; omega) oM) hl
def ndF(v:Ex):Int:=ndD (bulkPs (exL v)+1) v
theorem ndT(v:Ex)(hs:bulkPs (exL v)<=100000000):Pu 14 [.agg (exL v)] (.ret (.int .i64 (ndF v))):=nd_ok _ v (Nat.lt_succ_self _) oM
abbrev ltA_I(v:Ex)(nf:Ex->Int)(j:Int)(n:Int)(e:Ext):S:=S.mk [(1,.lp 1 0),(2,vI6 0),(3,vI6 n),(4,vI6 j)] [(1,exV v)] e
def ltA_f(nf:Ex->Int):List Ex->(Int)->(Int)
 | [],n=>(n)
 | el::r,n=>ltA_f nf r (IntKind.wrap .i64 (n+nf el))
def ltA_q(v:Ex)(nf:Ex->Int)(e:Ext)(p:(Int)):PExit × S:=(.exit 0,S.mk [(1,.lp 1 0),(2,vI6 0),(3,vI6 p)] [(1,exV v)] e)
theorem ltA(v:Ex)(nf:Ex->Int)(hR:∀y:Ex,y∈exK v->Pu 15 [.agg (exL y)] (.ret (.int .i64 (nf y))))(n:Int)(e:Ext)(hN:(exK v).length<=1000000000)  : (Ob.loop 41 (loopF f15 0) (ltA_I v nf 0 n e) (ltA_q v nf e (ltA_f nf ((exK v))  n)).1 (ltA_q v nf e (ltA_f nf ((exK v))  n)).2).ok prog:=by
 refine rng ((exK v).length) (fun j n=>ltA_I v nf j n e) (fun i n=>ltA_f nf (List.drop i ((exK v)))  n) (ltA_q v nf e) (fun i n=>True) kR ?_ n trivial
 rintro i n hi -
 rcases Nat.lt_or_ge i ((exK v).length) with hlt | hge
 ·have hd:=drop_at hlt
  exact lN mdL [sl (Ex.cs_len (exK v)),rgEx hlt,cl (@hR (List.getD (exK v) i default) (by first | exact getD_mem hlt | simp_all)),kp,wr ((i:Int)+1)] hlt (IntKind.wrap .i64 (n+nf (List.getD (exK v) i default))) trivial (by rw [hd,ltA_f])
 ·have he:i=(exK v).length:=by omega
  exact lX mdL [sl (Ex.cs_len (exK v)),df ((i:Int)<((exK v).length:Int))] (n) (by rw [he,List.drop_length,ltA_f])
abbrev ltB_I(v:Ex)(nf:Ex->Int)(j:Int)(n:Int)(e:Ext):S:=S.mk [(1,.lp 1 0),(2,vI6 0),(3,vI6 n),(5,vI6 j)] [(1,exV v)] e
def ltB_f(nf:Ex->Int):List Al->(Int)->(Int)
 | [],n=>(n)
 | el::r,n=>ltB_f nf r (IntKind.wrap .i64 (n+nf (alB el)))
def ltB_q(v:Ex)(nf:Ex->Int)(e:Ext)(p:(Int)):PExit × S:=(.exit 2,S.mk [(1,.lp 1 0),(2,vI6 0),(3,vI6 p)] [(1,exV v)] e)
theorem ltB(v:Ex)(nf:Ex->Int)(hR:∀y:Ex,y∈exK v->Pu 15 [.agg (exL y)] (.ret (.int .i64 (nf y))))(hS:∀y:Al,y∈exA v->Pu 15 [.agg (exL (alB y))] (.ret (.int .i64 (nf (alB y)))))(hM:(exK v).length<=1000000000)(n:Int)(e:Ext)(hN:(exA v).length<=1000000000)  : (Ob.loop 41 (loopF f15 1) (ltB_I v nf 0 n e) (ltB_q v nf e (ltB_f nf ((exA v))  n)).1 (ltB_q v nf e (ltB_f nf ((exA v))  n)).2).ok prog:=by
 refine rng ((exA v).length) (fun j n=>ltB_I v nf j n e) (fun i n=>ltB_f nf (List.drop i ((exA v)))  n) (ltB_q v nf e) (fun i n=>True) kR ?_ n trivial
 rintro i n hi -
 rcases Nat.lt_or_ge i ((exA v).length) with hlt | hge
 ·have hd:=drop_at hlt
  exact lN mdL [sl (Al.cs_len (exA v)),rgAl hlt,cl (@hS (List.getD (exA v) i default) (by first | exact getD_mem hlt | simp_all)),kp,wr ((i:Int)+1)] hlt (IntKind.wrap .i64 (n+nf (alB (List.getD (exA v) i default)))) trivial (by rw [hd,ltB_f])
 ·have he:i=(exA v).length:=by omega
  exact lX mdL [sl (Al.cs_len (exA v)),df ((i:Int)<((exA v).length:Int))] (n) (by rw [he,List.drop_length,ltB_f])
def ltL_r0(v:Ex)(nf:Ex->Int):Int:=(if exO v=7 then (ltB_f nf (exA v) (ltA_f nf (exK v) 1)) else (ltB_f nf (exA v) (ltA_f nf (exK v) 0)))
theorem ltL(v:Ex)(nf:Ex->Int)(hR:∀y:Ex,y∈exK v->Pu 15 [.agg (exL y)] (.ret (.int .i64 (nf y))))(hS:∀y:Al,y∈exA v->Pu 15 [.agg (exL (alB y))] (.ret (.int .i64 (nf (alB y)))))(hM:(exK v).length<=1000000000)(hN:(exA v).length<=1000000000):Pu 15 [.agg (exL v)] (rI (ltL_r0 v nf)):=by
 by_cases h0:exO v=7
 ·simp only [ltL_r0,iP h0]; exact pu mdL (fun e=>[et1 h0,lq (@ltA v nf hR 1 e hM),lq (@ltB v nf hR hS hM (ltA_f nf (exK v) 1) e hN)]) func15
 ·simp only [ltL_r0,iN h0]; exact pu mdL (fun e=>[en1 h0,lq (@ltA v nf hR 0 e hM),lq (@ltB v nf hR hS hM (ltA_f nf (exK v) 0) e hN)]) func15
def ltD:Nat->Ex->Int
 | 0,_=>0
 | d+1,v=>ltL_r0 v (ltD d)
theorem lt_ok:∀ (d:Nat) (v:Ex),bulkPs (exL v)<d->d<=100000001->Pu 15 [.agg (exL v)] (.ret (.int .i64 (ltD d v)))
 | 0,v,h,_=>by omega
 | d+1,v,h,hs=>ltL v (ltD d) (fun y hy=>lt_ok d y (by have h1:=exs_lt v; have:=Ex.mem hy; omega) oM) (fun y hy=>lt_ok d (alB y) (by have h1:=exs_lt v; have:=Al.mem hy; have:=alB_lt y; omega) oM) (by have h1:=exs_lt v; have:=Ex.bulk (exK v); omega) (by have h1:=exs_lt v; have:=Al.bulk (exA v); omega)
def ltF(v:Ex):Int:=ltD (bulkPs (exL v)+1) v
theorem ltT(v:Ex)(hs:bulkPs (exL v)<=100000000):Pu 15 [.agg (exL v)] (.ret (.int .i64 (ltF v))):=lt_ok _ v (Nat.lt_succ_self _) oM
abbrev liA_I(m:Mo)(j:Int)(e:Ext):S:=S.mk [(1,.lp 1 0),(3,vI6 j)] [(1,moV m)] e
inductive liA_R where
 | e0
 | e1
def liA_f  : List Df->liA_R
 | []=>(liA_R.e1)
 | el::r=>(if ndF (dfB el)>100 then (liA_R.e0) else (if ((dfP el).length:Int)>8 then (liA_R.e0) else (if ltF (dfB el)>6 then (liA_R.e0) else liA_f  r)))
def liA_q(m:Mo)(e:Ext):liA_R->PExit × S
 | .e0=>(.ret,S.mk [(1,.lp 1 0),(2,.v (.bool false))] [(1,moV m)] e)
 | .e1=>(.exit 0,S.mk [(1,.lp 1 0)] [(1,moV m)] e)
theorem liA_lp(m:Mo)(hq1:¬((moF m).length:Int)>9)(hR:∀w:Df,w∈moF m->Pu 14 [.agg (exL (dfB w))] (.ret (.int .i64 (ndF (dfB w)))))(hS:∀w:Df,w∈moF m->Pu 15 [.agg (exL (dfB w))] (.ret (.int .i64 (ltF (dfB w)))))(e:Ext)(hN:(moF m).length<=1000000000):(Ob.loop 43 (loopF f6 0) (liA_I m 0  e) (liA_q m e (liA_f  ((moF m)))).1 (liA_q m e (liA_f  ((moF m)))).2).ok prog:=by
 refine rng ((moF m).length) (fun j _=>liA_I m j  e) (fun i _=>liA_f  (List.drop i ((moF m)))) (liA_q m e) (fun i _=>True) kR ?_ () trivial
 rintro i u hi -
 rcases Nat.lt_or_ge i ((moF m).length) with hlt | hge
 ·have hd:=drop_at hlt
  refine t0 ?_;refine tp [sl (Df.cs_len (moF m)),rgDf hlt,cl (@hR (List.getD (moF m) i default) (by simp_all))] ?_;by_cases h0:ndF (dfB (List.getD (moF m) i default))>100
  ·exact tX mdL [rp 9 (dt1 h0),rp 10 (bt true)] (liA_R.e0) (by rw [hd,liA_f,iP h0])
  ·refine tp [rp 4 (df1 h0),mxDf (moF m) (i:Int),xDf (moF m) i hlt,rp 3 (df1 h0),sl (nmsC_len (dfP (List.getD (moF m) i default))),rp 2 (df1 h0)] ?_;by_cases h1:((dfP (List.getD (moF m) i default)).length:Int)>8
   ·exact tX mdL [rp 9 (dt1 h1),bt true] (liA_R.e0) (by rw [hd,liA_f,iN h0,iP h1])
   ·refine tp [rp 4 (df1 h1),mxDf (moF m) (i:Int),xDf (moF m) i hlt,rp 3 (df1 h1),cl (@hS (List.getD (moF m) i default) (by simp_all)),rp 2 (df1 h1)] ?_;by_cases h2:ltF (dfB (List.getD (moF m) i default))>6
    ·exact tX mdL [dt1 h2] (liA_R.e0) (by rw [hd,liA_f,iN h0,iN h1,iP h2])
    ·exact tN mdL [df1 h2,wr ((i:Int)+1)] hlt () trivial (by rw [hd,liA_f,iN h0,iN h1,iN h2])
 ·have he:i=(moF m).length:=by omega
  exact lX mdL [sl (Df.cs_len (moF m)),df ((i:Int)<((moF m).length:Int))] (liA_R.e1) (by rw [he,List.drop_length,liA_f])
section
variable (m:Mo) (hR:∀w:Df,w∈moF m->Pu 14 [.agg (exL (dfB w))] (.ret (.int .i64 (ndF (dfB w))))) (hS:∀w:Df,w∈moF m->Pu 15 [.agg (exL (dfB w))] (.ret (.int .i64 (ltF (dfB w)))))
include m hR hS
theorem liL_1(hx0:((moF m).length:Int)>9):Pu 6 [.agg (moL m)] (rB false):=
 pm mdL [sl (Df.cs_len (moF m)),dt1 hx0] func6
theorem liL_2(hx0:¬((moF m).length:Int)>9)(hx1:liA_f (moF m)=liA_R.e0):Pu 6 [.agg (moL m)] (rB false):=
 pu mdL (fun e=>[sl (Df.cs_len (moF m)),df1 hx0,lq (rz (liA_lp (m) hx0 hR hS (e) oM) hx1)]) func6
theorem liL_3(hx0:¬((moF m).length:Int)>9)(hx1:liA_f (moF m)=liA_R.e1):Pu 6 [.agg (moL m)] (rB true):=
 pu mdL (fun e=>[sl (Df.cs_len (moF m)),df1 hx0,lq (rz (liA_lp (m) hx0 hR hS (e) oM) hx1)]) func6
end
section
variable (m:Mo) (t:Int) (d:Df)
include m t d
theorem lwA(ok:Bool)(hat:Pu 5 [.agg (moL m),.int .u8 t] (.ret (.tup [.agg (dfL d),.bool ok])))(hlg:Pu 6 [.agg (moL m)] (.ret (.bool false)))(haw:Pu 7 [] (.ret (.bool true))):Pu 3 [.agg (moL m),.int .u8 t] (rB true):=
 pm mdL [cl hat,cl hlg,rp 10 (bt true),cl haw] func3
theorem lwB(hat:Pu 5 [.agg (moL m),.int .u8 t] (.ret (.tup [.agg (dfL d),.bool false])))(hlg:Pu 6 [.agg (moL m)] (.ret (.bool true)))(haw:Pu 7 [] (.ret (.bool true))):Pu 3 [.agg (moL m),.int .u8 t] (rB true):=
 pm mdL [cl hat,cl hlg,rp 3 (bf false),rp 7 (bt true),cl haw] func3
theorem lwC(hat:Pu 5 [.agg (moL m),.int .u8 t] (.ret (.tup [.agg (dfL d),.bool true])))(hlg:Pu 6 [.agg (moL m)] (.ret (.bool true)))(haw:Pu 7 [] (.ret (.bool true)))(hm:((dfMe d).length:Int)>8):Pu 3 [.agg (moL m),.int .u8 t] (rB true):=
 pm mdL [cl hat,cl hlg,rp 7 (bf false),sl (Pr.cs_len (dfMe d)),rp 2 (bf false),dt (((dfMe d).length:Int)>8) hm,cl haw] func3
end
abbrev lwL_I(m:Mo)(a:Mo)(t:Int)(d:Df)(j:Int)(e:Ext):S:=S.mk [(2,.lp 2 0),(7,.lp 7 0),(9,vI6 j)] [(2,moV m),(7,moV a)] e
inductive lwL_R where
 | e0
 | e1
def lwL_f(m:Mo):List Df->Nat->lwL_R
 | [],i=>(lwL_R.e1)
 | el::r,i=>(if dfM el=dfM (List.getD (moF m) i default) then lwL_f m r (i+1)  else (if dfM (List.getD (moF m) i default)=2 then (if dfM el=0 then lwL_f m r (i+1)  else (lwL_R.e0)) else (lwL_R.e0)))
def lwL_q(m:Mo)(a:Mo)(t:Int)(d:Df)(e:Ext):lwL_R->PExit × S
 | .e0=>(.ret,S.mk [(2,.lp 2 0),(7,.lp 7 0),(4,.v (.bool false))] [(2,moV m),(7,moV a)] e)
 | .e1=>(.exit 0,S.mk [(2,.lp 2 0),(7,.lp 7 0)] [(2,moV m),(7,moV a)] e)
theorem lwL_lp(m a:Mo)(t:Int)(d:Df)(hat:Pu 5 [.agg (moL m),.int .u8 t] (.ret (.tup [.agg (dfL d),.bool true])))(hlg:Pu 6 [.agg (moL m)] (.ret (.bool true)))(hm:¬((dfMe d).length:Int)>8)(g1:Pu 8 [.agg (moL m),.str (dfNm d)] (.ret (.agg (moL a))))(g2:Pu 9 [.agg (moL m),.str (dfNm d)] (.ret (.agg (moL a))))(gl:(moF a).length=(moF m).length)(hs:Pu 10 [.sl 25 (Df.cs (moF a)),.sl 25 (Df.cs (moF a))] (.ret (.bool true)))(g3:Pu 8 [.agg (moL a),.str (dfNm d)] (.ret (.agg (moL a))))(hxx:∀i,i<(moF a).length->Pu 11 [.agg [.str (dfNm ((moF a).getD i default)),.sl 1 (nmsC (dfP ((moF a).getD i default))),.int .i64 (exO (dfB ((moF a).getD i default))),.str (exNm (dfB ((moF a).getD i default))),.int .i64 (exN (dfB ((moF a).getD i default))),.sl 7 (Ex.cs (exK (dfB ((moF a).getD i default)))),.sl 10 (Pm.cs (exP (dfB ((moF a).getD i default)))),.sl 9 (Al.cs (exA (dfB ((moF a).getD i default)))),.sl 9 (Tp.cs (exT (dfB ((moF a).getD i default)))),.int .i64 (dfM ((moF m).getD i default)),.bool (dfTy ((moF a).getD i default)),.sl 1 (nmsC (dfVs ((moF a).getD i default))),.sl 2 (Vr.cs (dfNe ((moF a).getD i default))),.sl 2 (Vr.cs (dfAb ((moF a).getD i default))),.sl 10 (Bo.cs (dfBo ((moF a).getD i default))),.int .i64 (tpO (dfT ((moF a).getD i default))),.str (tpNm (dfT ((moF a).getD i default))),.sl 9 (Tp.cs (tpA (dfT ((moF a).getD i default)))),.sl 1 (nmsC (tpNs (dfT ((moF a).getD i default)))),.int .i64 (prO (tpP (dfT ((moF a).getD i default)))),.str (prNm (tpP (dfT ((moF a).getD i default)))),.int .i64 (prN (tpP (dfT ((moF a).getD i default)))),.sl 4 (Pr.cs (prK (tpP (dfT ((moF a).getD i default))))),.sl 4 (Pr.cs (tpPs (dfT ((moF a).getD i default)))),.sl 4 (Pr.cs (dfMe ((moF a).getD i default)))],.agg (dfL ((moF m).getD i default))] (.ret (.bool true)))(e:Ext)(hN:(moF a).length<=1000000000):(Ob.loop 127 (loopF f3 0) (lwL_I m a t d 0  e) (lwL_q m a t d e (lwL_f m ((moF a)) 0)).1 (lwL_q m a t d e (lwL_f m ((moF a)) 0)).2).ok prog:=by
 refine rng ((moF a).length) (fun j _=>lwL_I m a t d j  e) (fun i _=>lwL_f m (List.drop i ((moF a))) i) (lwL_q m a t d e) (fun i _=>True) kR ?_ () trivial
 rintro i u hi -
 rcases Nat.lt_or_ge i ((moF a).length) with hlt | hge
 ·have hd:=drop_at hlt
  refine t0 ?_;refine tp [sl (Df.cs_len (moF a)),rgDf hlt,mxDf (moF m) (i:Int),xDf (moF m) i,mxDf (moF m) (i:Int),xDf (moF m) i,cl (@hxx i hlt),rp 4 (bf false),mxDf (moF a) (i:Int),xDf (moF a) i hlt,rp 6 (bf false),mxDf (moF m) (i:Int),xDf (moF m) i,rp 4 (bf false)] ?_;by_cases h0:dfM (List.getD (moF a) i default)=dfM (List.getD (moF m) i default)
  ·exact tN mdL [rp 9 (nn1 h0),bf false,nn1 h0,rp 2 (bf false),wr ((i:Int)+1)] hlt () trivial (by rw [hd,lwL_f,iP h0])
  ·refine tp [rp 4 (nt1 h0),mxDf (moF m) (i:Int),xDf (moF m) i,rp 4 (nt1 h0)] ?_;by_cases h1:dfM (List.getD (moF m) i default)=2
   ·refine tp [rp 4 (nn1 h1),mxDf (moF a) (i:Int),xDf (moF a) i hlt,rp 3 (nn1 h1),nt1 h0,nn1 h1,bf false,nt1 h0,bf false] ?_;by_cases h2:dfM (List.getD (moF a) i default)=0
    ·exact tN mdL [nn1 h2,wr ((i:Int)+1)] hlt () trivial (by rw [hd,lwL_f,iN h0,iP h1,iP h2])
    ·exact tX mdL [nt1 h2] (lwL_R.e0) (by rw [hd,lwL_f,iN h0,iP h1,iN h2])
   ·exact tX mdL [rp 7 (nt1 h1),nt1 h0,nt1 h1,bf false,nt1 h0,bf false,bt true] (lwL_R.e0) (by rw [hd,lwL_f,iN h0,iN h1])
 ·have he:i=(moF a).length:=by omega
  exact lX mdL [sl (Df.cs_len (moF a)),df ((i:Int)<((moF a).length:Int))] (lwL_R.e1) (by rw [he,List.drop_length,lwL_f])
theorem lwD_2(m a:Mo)(t:Int)(d:Df)(hat:Pu 5 [.agg (moL m),.int .u8 t] (.ret (.tup [.agg (dfL d),.bool true])))(hlg:Pu 6 [.agg (moL m)] (.ret (.bool true)))(hm:¬((dfMe d).length:Int)>8)(g1:Pu 8 [.agg (moL m),.str (dfNm d)] (.ret (.agg (moL a))))(g2:Pu 9 [.agg (moL m),.str (dfNm d)] (.ret (.agg (moL a))))(gl:(moF a).length=(moF m).length)(hs:Pu 10 [.sl 25 (Df.cs (moF a)),.sl 25 (Df.cs (moF a))] (.ret (.bool true)))(g3:Pu 8 [.agg (moL a),.str (dfNm d)] (.ret (.agg (moL a))))(hxx:∀i,i<(moF a).length->Pu 11 [.agg [.str (dfNm ((moF a).getD i default)),.sl 1 (nmsC (dfP ((moF a).getD i default))),.int .i64 (exO (dfB ((moF a).getD i default))),.str (exNm (dfB ((moF a).getD i default))),.int .i64 (exN (dfB ((moF a).getD i default))),.sl 7 (Ex.cs (exK (dfB ((moF a).getD i default)))),.sl 10 (Pm.cs (exP (dfB ((moF a).getD i default)))),.sl 9 (Al.cs (exA (dfB ((moF a).getD i default)))),.sl 9 (Tp.cs (exT (dfB ((moF a).getD i default)))),.int .i64 (dfM ((moF m).getD i default)),.bool (dfTy ((moF a).getD i default)),.sl 1 (nmsC (dfVs ((moF a).getD i default))),.sl 2 (Vr.cs (dfNe ((moF a).getD i default))),.sl 2 (Vr.cs (dfAb ((moF a).getD i default))),.sl 10 (Bo.cs (dfBo ((moF a).getD i default))),.int .i64 (tpO (dfT ((moF a).getD i default))),.str (tpNm (dfT ((moF a).getD i default))),.sl 9 (Tp.cs (tpA (dfT ((moF a).getD i default)))),.sl 1 (nmsC (tpNs (dfT ((moF a).getD i default)))),.int .i64 (prO (tpP (dfT ((moF a).getD i default)))),.str (prNm (tpP (dfT ((moF a).getD i default)))),.int .i64 (prN (tpP (dfT ((moF a).getD i default)))),.sl 4 (Pr.cs (prK (tpP (dfT ((moF a).getD i default))))),.sl 4 (Pr.cs (tpPs (dfT ((moF a).getD i default)))),.sl 4 (Pr.cs (dfMe ((moF a).getD i default)))],.agg (dfL ((moF m).getD i default))] (.ret (.bool true)))(hN:(moF a).length<=1000000000)(haw:Pu 7 [] (.ret (.bool true)))(hx0:lwL_f m (moF a) 0=lwL_R.e1):Pu 3 [.agg (moL m),.int .u8 t] (rB true):=
 pu mdL (fun e=>[cl hat,cl hlg,rp 7 (bf false),sl (Pr.cs_len (dfMe d)),rp 2 (bf false),df (((dfMe d).length:Int)>8) hm,cl g1,cl g2,sl (Df.cs_len (moF a)),sl (Df.cs_len (moF m)),rp 5 (nn ((moF a).length:Int) ((moF m).length:Int)),cl hs,rp 2 (nn ((moF a).length:Int) ((moF m).length:Int)),rp 4 (bf false),cl g3,rp 4 (bf false),cl hs,rp 3 (bf false),lq (rz (lwL_lp (m) (a) (t) (d) hat hlg hm g1 g2 gl hs g3 hxx (e) hN) hx0),cl haw]) func3
theorem pl_bulk(d:Df):bulkPs (dfL (dfPl d))=bulkPs (dfL d):=by
 simp only [bulkPs,bulkP,dfPl,dfNm,dfP,dfB,dfM,dfTy,dfVs,dfNe,dfAb,dfBo,dfT,dfMe]
theorem ouG_bulk(nm:BA)(m:Mo)(d:Df):bulkPs (dfL (ouG nm m d))=bulkPs (dfL d):=by
 unfold ouG
 split
 ·exact pl_bulk d
 ·rfl
theorem ouG_bulks(nm:BA)(m:Mo):∀l:List Df,bulkPss (Df.cs (l.map (ouG nm m)))=bulkPss (Df.cs l)
 | []=>rfl
 | d::r=>by
  have ih:=ouG_bulks nm m r
  have h1:=ouG_bulk nm m d
  simp only [List.map_cons,Df.cs,bulkPss]
  omega
theorem moO_bulk(m:Mo)(l:List Df):bulkPs (moL (moO m l))+bulkPss (Df.cs (moF m))=bulkPs (moL m)+bulkPss (Df.cs l):=by simp only [moO,moD,moC,moI,moM,moQ,moF,bulkPs,bulkP]; omega
theorem ouF_bulk(nm:BA)(m:Mo):bulkPs (moL (ouF nm m))=bulkPs (moL m):=by
 unfold ouF
 split
 ·rfl
 ·have h1:=moO_bulk m ((moF m).map (ouG nm m))
  rw [ouG_bulks] at h1
  omega
theorem ouF_len(nm:BA)(m:Mo):(moF (ouF nm m)).length=(moF m).length:=by
 unfold ouF
 split
 ·rfl
 ·show ((moF m).map (ouG nm m)).length=_
  rw [List.length_map]
theorem ou_at(nm:BA)(m:Mo){i:Nat}(h:i<(moF m).length):(moF (ouF nm m)).getD i default=(moF m).getD i default∨dfM ((moF m).getD i default)=2/\(moF (ouF nm m)).getD i default=dfPl ((moF m).getD i default):=by
 unfold ouF
 split
 ·exact .inl rfl
 ·have e:(moF (moO m ((moF m).map (ouG nm m)))).getD i default=ouG nm m ((moF m).getD i default):=by
   show ((moF m).map (ouG nm m)).getD i default=_
   simp [List.getD,h]
  rw [e]
  generalize (moF m).getD i default=d
  unfold ouG
  split
  ·rename_i hb
   unfold ouB at hb
   simp only [Bool.and_eq_true,decide_eq_true_eq] at hb
   exact .inr ⟨hb.1.1,rfl⟩
  ·exact .inl rfl
theorem lw_end(nm:BA)(m:Mo):∀ (r:List Df) (i:Nat),(∀k,k<r.length->i+k<(moF m).length/\(r.getD k default=(moF m).getD (i+k) default∨dfM ((moF m).getD (i+k) default)=2/\r.getD k default=dfPl ((moF m).getD (i+k) default)))->lwL_f m r i = .e1
 | [],i,_=>rfl
 | c::r,i,h=>by
  have ih:=lw_end nm m r (i+1) (fun k hk=>by
   have:=h (k+1) (by simpa using hk)
   rw [show i+(k+1)=i+1+k by omega] at this
   exact this)
  have h0:=(h 0 sM).2
  simp only [Nat.add_zero,List.getD_cons_zero] at h0
  rw [lwL_f]
  rcases h0 with h0 | ⟨h1,h0⟩
  ·rw [h0,iP rfl]; exact ih
  ·rw [h0,h1,iN (by show ¬(0:Int)=2; decide),iP rfl,iP (show dfM (dfPl _)=0 from rfl)]; exact ih
theorem outside_ok(m:Mo)(t:Int)(d:Df)(hd:d∈moF m)(hs:bulkPs (moL m)<=2000000)(hat:Pu 5 [.agg (moL m),.int .u8 t] (.ret (.tup [.agg (dfL d),.bool true])))(hlg:Pu 6 [.agg (moL m)] (.ret (.bool true)))(haw:Pu 7 [] (.ret (.bool true))):Pu 3 [.agg (moL m),.int .u8 t] (.ret (.bool true)):=by
 by_cases hm:((dfMe d).length:Int)>8
 ·exact lwC m t d hat hlg haw hm
 have hN:=moF_len m
 have hB:=moF_bulk m
 have hl:=ouF_len (dfNm d) m
 have hb:=ouF_bulk (dfNm d) m
 have hB2:=moF_bulk (ouF (dfNm d) m)
 have g3:=ouT (ouF (dfNm d) m) (dfNm d) oM
 rw [ouF_twice] at g3
 refine lwD_2 m (ouF (dfNm d) m) t d hat hlg hm (ouT m (dfNm d) hs) (roT m (dfNm d) hs) hl (sdsT _ oM) g3 (fun i hi=>?_) oM haw ?_
 ·have hi2:i<(moF m).length:=by omega
  have hmem:(moF m).getD i default∈moF m:=Df.getD_mem hi2
  have h1:=sdT _ (Nat.le_trans (Df.mem hmem) oM)
  rcases ou_at (dfNm d) m hi2 with e | ⟨-,e⟩
  ·rw [e]; exact h1
  ·rw [e]
   generalize (moF m).getD i default=y at h1 ⊢
   exact h1
 ·refine lw_end (dfNm d) m _ 0 fun k hk=>?_
  rw [Nat.zero_add]
  exact ⟨by omega,ou_at (dfNm d) m oM⟩
theorem outside_true(m:Mo)(t:Nat)(ht:t<256)(hs:bulkPs (moL m)<=2000000)(haw:Pu 7 [] (.ret (.bool true))):Pu 3 [.agg (moL m),.int .u8 (t:Int)] (.ret (.bool true)):=by
 have hB:=moF_bulk m
 have hb:∀w∈moF m,bulkPs (dfL w)<=2000000:=fun w hw=>by have:=Df.mem hw; omega
 have hR:∀w:Df,w∈moF m->Pu 14 [.agg (exL (dfB w))] (.ret (.int .i64 (ndF (dfB w)))):=fun w hw=>ndT _ (by have:=hb w hw; have:=df_bulk w; unfold szE at this; omega)
 have hS:∀w:Df,w∈moF m->Pu 15 [.agg (exL (dfB w))] (.ret (.int .i64 (ltF (dfB w)))):=fun w hw=>ltT _ (by have:=hb w hw; have:=df_bulk w; unfold szE at this; omega)
 have hF:Pu 6 [.agg (moL m)] (.ret (.bool false))->Pu 3 [.agg (moL m),.int .u8 (t:Int)] (.ret (.bool true)):=fun hlg=>by
  by_cases h0:((moF m).length:Int)=0
  ·exact lwA m t default false (at1_1 m t ht h0) hlg haw
  ·exact lwA m t _ true (at1_2 m t ht h0) hlg haw
 by_cases h9:((moF m).length:Int)>9
 ·exact hF (liL_1 m hR hS h9)
 cases hf:liA_f (moF m) with
 | e0=>exact hF (liL_2 m hR hS h9 hf)
 | e1=>
  have hlg:=liL_3 m hR hS h9 hf
  by_cases h0:((moF m).length:Int)=0
  ·exact lwB m t default (at1_1 m t ht h0) hlg haw
  have hat:=at1_2 m t ht h0
  have hd:(moF m).getD (Int.tmod (t:Int) ((moF m).length:Int)).toNat default∈moF m:=getD_mem (at_lt h0)
  exact outside_ok m t _ hd hs hat hlg haw
def smB(c:Int):Bool:=decide (97<=c)&&decide (c<=122)
def cpB(c:Int):Bool:=decide (65<=c)&&decide (c<=90)
def dgB(c:Int):Bool:=decide (48<=c)&&decide (c<=57)
theorem tn1(i:Nat):((i:Int)+1).toNat=i+1:=by omega
def kwL:List BA:=[⟨#[97,110,100]⟩,⟨#[97,115,115,117,109,101]⟩,⟨#[98,111,111,108]⟩,⟨#[98,111,117,110,100]⟩,⟨#[99,97,115,101]⟩,⟨#[99,101,108,108]⟩,⟨#[99,108,97,115,115]⟩,⟨#[100,97,116,97]⟩,⟨#[100,101,102]⟩,⟨#[100,105,118]⟩,⟨#[101,108,115,101]⟩,⟨#[101,110,100]⟩,⟨#[102,97,108,115,101]⟩,⟨#[102,111,114,97,108,108]⟩,⟨#[102,117,110]⟩,⟨#[103,101,116]⟩,⟨#[105,102]⟩,⟨#[105,110]⟩,⟨#[105,110,115,116]⟩,⟨#[105,110,116]⟩,⟨#[105,110,118,97,114,105,97,110,116]⟩,⟨#[108,101,116]⟩,⟨#[109,97,116,99,104]⟩,⟨#[109,101,97,115,117,114,101]⟩,⟨#[109,101,116,114,105,99]⟩,⟨#[109,111,100]⟩,⟨#[109,117]⟩,⟨#[110,101,119]⟩,⟨#[110,111,116]⟩,⟨#[111,102]⟩,⟨#[111,114]⟩,⟨#[113,117,97,108]⟩,⟨#[114,101,102,108,101,99,116]⟩,⟨#[115,101,116]⟩,⟨#[116,104,101,110]⟩,⟨#[116,114,117,101]⟩,⟨#[117,115,101]⟩,⟨#[118]⟩,⟨#[118,97,108]⟩,⟨#[116,97,103]⟩,⟨#[119,104,101,114,101]⟩,⟨#[119,105,116,104]⟩]
def kwC:List PV:=[.str ⟨#[97,110,100]⟩,.str ⟨#[97,115,115,117,109,101]⟩,.str ⟨#[98,111,111,108]⟩,.str ⟨#[98,111,117,110,100]⟩,.str ⟨#[99,97,115,101]⟩,.str ⟨#[99,101,108,108]⟩,.str ⟨#[99,108,97,115,115]⟩,.str ⟨#[100,97,116,97]⟩,.str ⟨#[100,101,102]⟩,.str ⟨#[100,105,118]⟩,.str ⟨#[101,108,115,101]⟩,.str ⟨#[101,110,100]⟩,.str ⟨#[102,97,108,115,101]⟩,.str ⟨#[102,111,114,97,108,108]⟩,.str ⟨#[102,117,110]⟩,.str ⟨#[103,101,116]⟩,.str ⟨#[105,102]⟩,.str ⟨#[105,110]⟩,.str ⟨#[105,110,115,116]⟩,.str ⟨#[105,110,116]⟩,.str ⟨#[105,110,118,97,114,105,97,110,116]⟩,.str ⟨#[108,101,116]⟩,.str ⟨#[109,97,116,99,104]⟩,.str ⟨#[109,101,97,115,117,114,101]⟩,.str ⟨#[109,101,116,114,105,99]⟩,.str ⟨#[109,111,100]⟩,.str ⟨#[109,117]⟩,.str ⟨#[110,101,119]⟩,.str ⟨#[110,111,116]⟩,.str ⟨#[111,102]⟩,.str ⟨#[111,114]⟩,.str ⟨#[113,117,97,108]⟩,.str ⟨#[114,101,102,108,101,99,116]⟩,.str ⟨#[115,101,116]⟩,.str ⟨#[116,104,101,110]⟩,.str ⟨#[116,114,117,101]⟩,.str ⟨#[117,115,101]⟩,.str ⟨#[118]⟩,.str ⟨#[118,97,108]⟩,.str ⟨#[116,97,103]⟩,.str ⟨#[119,104,101,114,101]⟩,.str ⟨#[119,105,116,104]⟩]
theorem kwC_at{i:Nat}(h:i<kwL.length):[PV.str ⟨#[97,110,100]⟩,.str ⟨#[97,115,115,117,109,101]⟩,.str ⟨#[98,111,111,108]⟩,.str ⟨#[98,111,117,110,100]⟩,.str ⟨#[99,97,115,101]⟩,.str ⟨#[99,101,108,108]⟩,.str ⟨#[99,108,97,115,115]⟩,.str ⟨#[100,97,116,97]⟩,.str ⟨#[100,101,102]⟩,.str ⟨#[100,105,118]⟩,.str ⟨#[101,108,115,101]⟩,.str ⟨#[101,110,100]⟩,.str ⟨#[102,97,108,115,101]⟩,.str ⟨#[102,111,114,97,108,108]⟩,.str ⟨#[102,117,110]⟩,.str ⟨#[103,101,116]⟩,.str ⟨#[105,102]⟩,.str ⟨#[105,110]⟩,.str ⟨#[105,110,115,116]⟩,.str ⟨#[105,110,116]⟩,.str ⟨#[105,110,118,97,114,105,97,110,116]⟩,.str ⟨#[108,101,116]⟩,.str ⟨#[109,97,116,99,104]⟩,.str ⟨#[109,101,97,115,117,114,101]⟩,.str ⟨#[109,101,116,114,105,99]⟩,.str ⟨#[109,111,100]⟩,.str ⟨#[109,117]⟩,.str ⟨#[110,101,119]⟩,.str ⟨#[110,111,116]⟩,.str ⟨#[111,102]⟩,.str ⟨#[111,114]⟩,.str ⟨#[113,117,97,108]⟩,.str ⟨#[114,101,102,108,101,99,116]⟩,.str ⟨#[115,101,116]⟩,.str ⟨#[116,104,101,110]⟩,.str ⟨#[116,114,117,101]⟩,.str ⟨#[117,115,101]⟩,.str ⟨#[118]⟩,.str ⟨#[118,97,108]⟩,.str ⟨#[116,97,103]⟩,.str ⟨#[119,104,101,114,101]⟩,.str ⟨#[119,105,116,104]⟩].getD i .nilp = .str (kwL.getD i nm0):=by
 show kwC.getD i .nilp=_
 have e:kwC=kwL.map .str:=rfl
 rw [e]
 simp [List.getD,h]
theorem dr_at{l:List UInt8}{i:Nat}(h:i<List.length (List.drop 1 l)):l.getD (i+1) default=(List.drop 1 l).getD i default:=by simp [List.getD,Nat.add_comm]
theorem kwT{i:Nat}(h:i<kwL.length):(i:Int)<42:=by
 have:kwL.length=42:=rfl
 omega
theorem kwF{i:Nat}(h:i=kwL.length):¬(i:Int)<42:=by
 have:kwL.length=42:=rfl
 omega
theorem kwA{i:Nat}(h:i<kwL.length):(0:Int)<=(i:Int)/\(i:Int)<((42:Nat):Int):=by
 have:=kwT h; omega
theorem b1T{s:BA}{i:Nat}(h:i<List.length (List.drop 1 s.data.toList)):(i:Int)+1<(s.size:Int):=by
 have:s.size=s.data.size:=rfl
 simp at h; omega
theorem b1F{s:BA}{i:Nat}(h:i=List.length (List.drop 1 s.data.toList)):¬(i:Int)+1<(s.size:Int):=by
 have:s.size=s.data.size:=rfl
 simp at h; omega
theorem bzT{s:BA}{i:Nat}(h:i<List.length (s.data.toList)):(i:Int)<(s.size:Int):=by
 have:s.size=s.data.size:=rfl
 simp at h; omega
theorem bzF{s:BA}{i:Nat}(h:i=List.length (s.data.toList)):¬(i:Int)<(s.size:Int):=by
 have:s.size=s.data.size:=rfl
 simp at h; omega
theorem nSmT(c:Int):Pu 153 [.int .u8 c] (.ret (.bool (smB c))):=by
 by_cases h:97<=c
 ·rw [show smB c=decide (c<=122) by simp [smB,h]]; exact pm mdL [rp 3 (dt (97<=c) h)] func153
 ·rw [show smB c=false by simp [smB,h]]; exact pm mdL [rp 3 (df (97<=c) h)] func153
theorem nCpT(c:Int):Pu 156 [.int .u8 c] (.ret (.bool (cpB c))):=by
 by_cases h:65<=c
 ·rw [show cpB c=decide (c<=90) by simp [cpB,h]]; exact pm mdL [rp 3 (dt (65<=c) h)] func156
 ·rw [show cpB c=false by simp [cpB,h]]; exact pm mdL [rp 3 (df (65<=c) h)] func156
theorem nDgT(c:Int):Pu 155 [.int .u8 c] (.ret (.bool (dgB c))):=by
 by_cases h:48<=c
 ·rw [show dgB c=decide (c<=57) by simp [dgB,h]]; exact pm mdL [rp 3 (dt (48<=c) h)] func155
 ·rw [show dgB c=false by simp [dgB,h]]; exact pm mdL [rp 3 (df (48<=c) h)] func155
abbrev nAl_I(s:BA)(j:Int)(e:Ext):S:=S.mk [(0,vS s),(3,vI6 j)] [] e
inductive nAl_R where
 | e0
 | e1
def nAl_f  : List UInt8->nAl_R
 | []=>(nAl_R.e1)
 | el::r=>(if smB (↑(UInt8.toNat el):Int)=false then (if cpB (↑(UInt8.toNat el):Int)=false then (if dgB (↑(UInt8.toNat el):Int)=false then (nAl_R.e0) else nAl_f  r) else nAl_f  r) else nAl_f  r)
def nAl_q(s:BA)(e:Ext):nAl_R->PExit × S
 | .e0=>(.ret,S.mk [(0,vS s),(2,.v (.bool false))] [] e)
 | .e1=>(.exit 0,S.mk [(0,vS s)] [] e)
theorem nAl_lp(s:BA)(e:Ext)(hN:List.length ((s.data.toList))<=1000000000):(Ob.loop 29 (loopF f131 0) (nAl_I s 0  e) (nAl_q s e (nAl_f  ((s.data.toList)))).1 (nAl_q s e (nAl_f  ((s.data.toList)))).2).ok prog:=by
 refine rng (List.length ((s.data.toList))) (fun j _=>nAl_I s j  e) (fun i _=>nAl_f  (List.drop i ((s.data.toList)))) (nAl_q s e) (fun i _=>True) kR ?_ () trivial
 rintro i u hi -
 rcases Nat.lt_or_ge i (List.length ((s.data.toList))) with hlt | hge
 ·have hd:=drop_at hlt
  refine t0 ?_;refine tp [kp,dt ((i:Int)<(↑(ByteArray.size s):Int)) (by (apply bzT <;> first | assumption | omega | decide)),am ((0:Int)<=(i:Int)/\(i:Int)<(↑(ByteArray.size s):Int)) (by simp_all [tn1]),xBy s i,cl (@nSmT ((↑(UInt8.toNat (List.getD (Array.toList (ByteArray.data s)) i default)):Int)))] ?_;by_cases h0:smB (↑(UInt8.toNat (List.getD (Array.toList (ByteArray.data s)) i default)):Int)=false
  ·refine tp [rp 3 (bt1 (bnT h0)),am ((0:Int)<=(i:Int)/\(i:Int)<(↑(ByteArray.size s):Int)) (by simp_all [tn1]),xBy s i,bt1 (bnT h0),cl (@nCpT ((↑(UInt8.toNat (List.getD (Array.toList (ByteArray.data s)) i default)):Int))),rp 2 (bt1 (bnT h0))] ?_;by_cases h1:cpB (↑(UInt8.toNat (List.getD (Array.toList (ByteArray.data s)) i default)):Int)=false
   ·refine tp [rp 3 (bt1 (bnT h1)),am ((0:Int)<=(i:Int)/\(i:Int)<(↑(ByteArray.size s):Int)) (by simp_all [tn1]),xBy s i,bt1 (bnT h1),cl (@nDgT ((↑(UInt8.toNat (List.getD (Array.toList (ByteArray.data s)) i default)):Int))),rp 2 (bt1 (bnT h1))] ?_;by_cases h2:dgB (↑(UInt8.toNat (List.getD (Array.toList (ByteArray.data s)) i default)):Int)=false
    ·exact tX mdL [bt1 (bnT h2)] (nAl_R.e0) (by rw [hd,nAl_f,iP h0,iP h1,iP h2])
    ·exact tN mdL [bf1 (bnF (bTF h2)),wr ((i:Int)+1)] hlt () trivial (by rw [hd,nAl_f,iP h0,iP h1,iN h2])
   ·exact tN mdL [rp 6 (bf1 (bnF (bTF h1))),bf false,wr ((i:Int)+1)] hlt () trivial (by rw [hd,nAl_f,iP h0,iN h1])
  ·exact tN mdL [rp 6 (bf1 (bnF (bTF h0))),rp 7 (bf false),wr ((i:Int)+1)] hlt () trivial (by rw [hd,nAl_f,iN h0])
 ·have he:i=List.length ((s.data.toList)):=by omega
  exact lX mdL [kp,df ((i:Int)<(↑(ByteArray.size s):Int)) (by (apply bzF <;> first | assumption | omega | decide))] (nAl_R.e1) (by rw [he,List.drop_length,nAl_f])
def anB(c:UInt8):Bool:=smB c.toNat||cpB c.toNat||dgB c.toNat
def wdB(c:UInt8):Bool:=smB c.toNat||dgB c.toNat||decide (((c.toNat:Nat):Int)=95)
theorem nAl_e:∀l:List UInt8,nAl_f l=if l.all anB=true then .e1 else .e0
 | []=>rfl
 | c::r=>by
  by_cases h1:smB c.toNat=true <;> by_cases h2:cpB c.toNat=true <;> by_cases h3:dgB c.toNat=true <;> simp [nAl_f,anB,h1,h2,h3,nAl_e r]
theorem sz_le{s:BA}(h:s.size<=1000000000):List.length (s.data.toList)<=1000000000:=by simpa using h
theorem nAlL_1(s:BA)(hs:s.size<=1000000000)(hx0:nAl_f (Array.toList (ByteArray.data s))=nAl_R.e0):Pu 131 [.str s] (rB false):=
 pu mdL (fun e=>[lq (rz (nAl_lp (s) (e) (by (apply sz_le <;> first | assumption | omega | decide))) hx0)]) func131
theorem nAlL_2(s:BA)(hs:s.size<=1000000000)(hx0:nAl_f (Array.toList (ByteArray.data s))=nAl_R.e1):Pu 131 [.str s] (rB true):=
 pu mdL (fun e=>[lq (rz (nAl_lp (s) (e) (by (apply sz_le <;> first | assumption | omega | decide))) hx0)]) func131
theorem nAlT(s:BA)(hs:s.size<=1000000000):Pu 131 [.str s] (.ret (.bool (s.data.toList.all anB))):=by
 cases h:s.data.toList.all anB with
 | true=>exact nAlL_2 s hs (by rw [nAl_e,iP h])
 | false=>exact nAlL_1 s hs (by rw [nAl_e,iN (by rw [h]; simp)])
def szB(s:BA):Bool:=decide (1<=s.size)&&decide (s.size<=24)
theorem nSiT(s:BA):Pu 130 [.str s] (.ret (.bool (szB s))):=by
 by_cases h:(s.size:Int)>=1
 ·rw [show szB s=decide ((s.size:Int)<=24) by unfold szB; rw [decide_eq_true (by omega:1<=s.size),Bool.true_and]; exact decide_eq_decide.2 oM]; exact pm mdL [kp,rp 2 (dt ((↑(ByteArray.size s):Int)>=1) h),kp,rp 2 (dt ((↑(ByteArray.size s):Int)>=1) h)] func130
 ·rw [show szB s=false by unfold szB; rw [decide_eq_false (by omega:¬1<=s.size),Bool.false_and]]; exact pm mdL [kp,rp 4 (df ((↑(ByteArray.size s):Int)>=1) h)] func130
abbrev nWd_I(s:BA)(j:Int)(e:Ext):S:=S.mk [(0,vS s),(3,vI6 j)] [] e
inductive nWd_R where
 | e0
 | e1
def nWd_f  : List UInt8->Nat->nWd_R
 | [],i=>(nWd_R.e1)
 | el::r,i=>(if smB (↑(UInt8.toNat el):Int)=false then (if (i:Int)=0 then (nWd_R.e0) else (if dgB (↑(UInt8.toNat el):Int)=false then (if (↑(UInt8.toNat el):Int)=95 then nWd_f  r (i+1)  else (nWd_R.e0)) else nWd_f  r (i+1))) else nWd_f  r (i+1))
def nWd_q(s:BA)(e:Ext):nWd_R->PExit × S
 | .e0=>(.ret,S.mk [(0,vS s),(2,.v (.bool false))] [] e)
 | .e1=>(.exit 0,S.mk [(0,vS s)] [] e)
theorem nWd_lp(s:BA)(e:Ext)(hN:List.length ((s.data.toList))<=1000000000):(Ob.loop 32 (loopF f132 0) (nWd_I s 0  e) (nWd_q s e (nWd_f  ((s.data.toList)) 0)).1 (nWd_q s e (nWd_f  ((s.data.toList)) 0)).2).ok prog:=by
 refine rng (List.length ((s.data.toList))) (fun j _=>nWd_I s j  e) (fun i _=>nWd_f  (List.drop i ((s.data.toList))) i) (nWd_q s e) (fun i _=>True) kR ?_ () trivial
 rintro i u hi -
 rcases Nat.lt_or_ge i (List.length ((s.data.toList))) with hlt | hge
 ·have hd:=drop_at hlt
  refine t0 ?_;refine tp [kp,dt ((i:Int)<(↑(ByteArray.size s):Int)) (by (apply bzT <;> first | assumption | omega | decide)),am ((0:Int)<=(i:Int)/\(i:Int)<(↑(ByteArray.size s):Int)) (by simp_all [tn1]),xBy s i,cl (@nSmT ((↑(UInt8.toNat (List.getD (Array.toList (ByteArray.data s)) i default)):Int)))] ?_;by_cases h0:smB (↑(UInt8.toNat (List.getD (Array.toList (ByteArray.data s)) i default)):Int)=false
  ·refine tp [rp 3 (bt1 (bnT h0))] ?_;by_cases h1:(i:Int)=0
   ·exact tX mdL [rp 7 (et1 h1),bt1 (bnT h0),et1 h1,bt1 (bnT h0),bt true] (nWd_R.e0) (by rw [hd,nWd_f,iP h0,iP h1])
   ·refine tp [rp 3 (en1 h1),am ((0:Int)<=(i:Int)/\(i:Int)<(↑(ByteArray.size s):Int)) (by simp_all [tn1]),xBy s i,en1 h1,cl (@nDgT ((↑(UInt8.toNat (List.getD (Array.toList (ByteArray.data s)) i default)):Int))),rp 2 (en1 h1)] ?_;by_cases h2:dgB (↑(UInt8.toNat (List.getD (Array.toList (ByteArray.data s)) i default)):Int)=false
    ·refine tp [rp 3 (bt1 (bnT h2)),am ((0:Int)<=(i:Int)/\(i:Int)<(↑(ByteArray.size s):Int)) (by simp_all [tn1]),xBy s i,bt1 (bnT h2),en1 h1,bt1 (bnT h2),bt1 (bnT h0),en1 h1,bt1 (bnT h0)] ?_;by_cases h3:(↑(UInt8.toNat (List.getD (Array.toList (ByteArray.data s)) i default)):Int)=95
     ·exact tN mdL [nn1 h3,wr ((i:Int)+1)] hlt () trivial (by rw [hd,nWd_f,iP h0,iN h1,iP h2,iP h3])
     ·exact tX mdL [nt1 h3] (nWd_R.e0) (by rw [hd,nWd_f,iP h0,iN h1,iP h2,iN h3])
    ·exact tN mdL [rp 4 (bf1 (bnF (bTF h2))),en1 h1,bf1 (bnF (bTF h2)),bt1 (bnT h0),en1 h1,bt1 (bnT h0),bf false,wr ((i:Int)+1)] hlt () trivial (by rw [hd,nWd_f,iP h0,iN h1,iN h2])
  ·exact tN mdL [rp 5 (bf1 (bnF (bTF h0))),bf false,wr ((i:Int)+1)] hlt () trivial (by rw [hd,nWd_f,iN h0])
 ·have he:i=List.length ((s.data.toList)):=by omega
  exact lX mdL [kp,df ((i:Int)<(↑(ByteArray.size s):Int)) (by (apply bzF <;> first | assumption | omega | decide))] (nWd_R.e1) (by rw [he,List.drop_length,nWd_f])
abbrev nKw_I(s:BA)(j:Int)(e:Ext):S:=S.mk [(0,vS s),(5,.v (.agg kwC)),(6,vI6 j)] [] e
inductive nKw_R where
 | e0
 | e1
def nKw_f(s:BA):List BA->nKw_R
 | []=>(nKw_R.e1)
 | el::r=>(if el=s then (nKw_R.e0) else nKw_f s r)
def nKw_q(s:BA)(e:Ext):nKw_R->PExit × S
 | .e0=>(.ret,S.mk [(0,vS s),(5,.v (.agg [.str (ByteArray.mk #[97,110,100]),.str (ByteArray.mk #[97,115,115,117,109,101]),.str (ByteArray.mk #[98,111,111,108]),.str (ByteArray.mk #[98,111,117,110,100]),.str (ByteArray.mk #[99,97,115,101]),.str (ByteArray.mk #[99,101,108,108]),.str (ByteArray.mk #[99,108,97,115,115]),.str (ByteArray.mk #[100,97,116,97]),.str (ByteArray.mk #[100,101,102]),.str (ByteArray.mk #[100,105,118]),.str (ByteArray.mk #[101,108,115,101]),.str (ByteArray.mk #[101,110,100]),.str (ByteArray.mk #[102,97,108,115,101]),.str (ByteArray.mk #[102,111,114,97,108,108]),.str (ByteArray.mk #[102,117,110]),.str (ByteArray.mk #[103,101,116]),.str (ByteArray.mk #[105,102]),.str (ByteArray.mk #[105,110]),.str (ByteArray.mk #[105,110,115,116]),.str (ByteArray.mk #[105,110,116]),.str (ByteArray.mk #[105,110,118,97,114,105,97,110,116]),.str (ByteArray.mk #[108,101,116]),.str (ByteArray.mk #[109,97,116,99,104]),.str (ByteArray.mk #[109,101,97,115,117,114,101]),.str (ByteArray.mk #[109,101,116,114,105,99]),.str (ByteArray.mk #[109,111,100]),.str (ByteArray.mk #[109,117]),.str (ByteArray.mk #[110,101,119]),.str (ByteArray.mk #[110,111,116]),.str (ByteArray.mk #[111,102]),.str (ByteArray.mk #[111,114]),.str (ByteArray.mk #[113,117,97,108]),.str (ByteArray.mk #[114,101,102,108,101,99,116]),.str (ByteArray.mk #[115,101,116]),.str (ByteArray.mk #[116,104,101,110]),.str (ByteArray.mk #[116,114,117,101]),.str (ByteArray.mk #[117,115,101]),.str (bM 118),.str (ByteArray.mk #[118,97,108]),.str (ByteArray.mk #[116,97,103]),.str (ByteArray.mk #[119,104,101,114,101]),.str (ByteArray.mk #[119,105,116,104])])),(2,.v (.bool true))] [] e)
 | .e1=>(.exit 0,S.mk [(0,vS s),(5,.v (.agg [.str (ByteArray.mk #[97,110,100]),.str (ByteArray.mk #[97,115,115,117,109,101]),.str (ByteArray.mk #[98,111,111,108]),.str (ByteArray.mk #[98,111,117,110,100]),.str (ByteArray.mk #[99,97,115,101]),.str (ByteArray.mk #[99,101,108,108]),.str (ByteArray.mk #[99,108,97,115,115]),.str (ByteArray.mk #[100,97,116,97]),.str (ByteArray.mk #[100,101,102]),.str (ByteArray.mk #[100,105,118]),.str (ByteArray.mk #[101,108,115,101]),.str (ByteArray.mk #[101,110,100]),.str (ByteArray.mk #[102,97,108,115,101]),.str (ByteArray.mk #[102,111,114,97,108,108]),.str (ByteArray.mk #[102,117,110]),.str (ByteArray.mk #[103,101,116]),.str (ByteArray.mk #[105,102]),.str (ByteArray.mk #[105,110]),.str (ByteArray.mk #[105,110,115,116]),.str (ByteArray.mk #[105,110,116]),.str (ByteArray.mk #[105,110,118,97,114,105,97,110,116]),.str (ByteArray.mk #[108,101,116]),.str (ByteArray.mk #[109,97,116,99,104]),.str (ByteArray.mk #[109,101,97,115,117,114,101]),.str (ByteArray.mk #[109,101,116,114,105,99]),.str (ByteArray.mk #[109,111,100]),.str (ByteArray.mk #[109,117]),.str (ByteArray.mk #[110,101,119]),.str (ByteArray.mk #[110,111,116]),.str (ByteArray.mk #[111,102]),.str (ByteArray.mk #[111,114]),.str (ByteArray.mk #[113,117,97,108]),.str (ByteArray.mk #[114,101,102,108,101,99,116]),.str (ByteArray.mk #[115,101,116]),.str (ByteArray.mk #[116,104,101,110]),.str (ByteArray.mk #[116,114,117,101]),.str (ByteArray.mk #[117,115,101]),.str (bM 118),.str (ByteArray.mk #[118,97,108]),.str (ByteArray.mk #[116,97,103]),.str (ByteArray.mk #[119,104,101,114,101]),.str (ByteArray.mk #[119,105,116,104])]))] [] e)
theorem nKw_lp(s:BA)(e:Ext)(hN:List.length ((kwL))<=1000000000):(Ob.loop 13 (loopF f154 0) (nKw_I s 0  e) (nKw_q s e (nKw_f s ((kwL)))).1 (nKw_q s e (nKw_f s ((kwL)))).2).ok prog:=by
 refine rng (List.length ((kwL))) (fun j _=>nKw_I s j  e) (fun i _=>nKw_f s (List.drop i ((kwL)))) (nKw_q s e) (fun i _=>True) kR ?_ () trivial
 rintro i u hi -
 rcases Nat.lt_or_ge i (List.length ((kwL))) with hlt | hge
 ·have hd:=drop_at0 hlt
  refine t0 ?_;refine tp [dt ((i:Int)<42) (by (apply kwT <;> first | assumption | omega | decide)),am ((0:Int)<=(i:Int)/\(i:Int)<(42:Int)) (by (apply kwA <;> first | assumption | omega | decide)),av (.v (List.getD [.str (ByteArray.mk #[97,110,100]),.str (ByteArray.mk #[97,115,115,117,109,101]),.str (ByteArray.mk #[98,111,111,108]),.str (ByteArray.mk #[98,111,117,110,100]),.str (ByteArray.mk #[99,97,115,101]),.str (ByteArray.mk #[99,101,108,108]),.str (ByteArray.mk #[99,108,97,115,115]),.str (ByteArray.mk #[100,97,116,97]),.str (ByteArray.mk #[100,101,102]),.str (ByteArray.mk #[100,105,118]),.str (ByteArray.mk #[101,108,115,101]),.str (ByteArray.mk #[101,110,100]),.str (ByteArray.mk #[102,97,108,115,101]),.str (ByteArray.mk #[102,111,114,97,108,108]),.str (ByteArray.mk #[102,117,110]),.str (ByteArray.mk #[103,101,116]),.str (ByteArray.mk #[105,102]),.str (ByteArray.mk #[105,110]),.str (ByteArray.mk #[105,110,115,116]),.str (ByteArray.mk #[105,110,116]),.str (ByteArray.mk #[105,110,118,97,114,105,97,110,116]),.str (ByteArray.mk #[108,101,116]),.str (ByteArray.mk #[109,97,116,99,104]),.str (ByteArray.mk #[109,101,97,115,117,114,101]),.str (ByteArray.mk #[109,101,116,114,105,99]),.str (ByteArray.mk #[109,111,100]),.str (ByteArray.mk #[109,117]),.str (ByteArray.mk #[110,101,119]),.str (ByteArray.mk #[110,111,116]),.str (ByteArray.mk #[111,102]),.str (ByteArray.mk #[111,114]),.str (ByteArray.mk #[113,117,97,108]),.str (ByteArray.mk #[114,101,102,108,101,99,116]),.str (ByteArray.mk #[115,101,116]),.str (ByteArray.mk #[116,104,101,110]),.str (ByteArray.mk #[116,114,117,101]),.str (ByteArray.mk #[117,115,101]),.str (bM 118),.str (ByteArray.mk #[118,97,108]),.str (ByteArray.mk #[116,97,103]),.str (ByteArray.mk #[119,104,101,114,101]),.str (ByteArray.mk #[119,105,116,104])] (Int.toNat (i:Int)) .nilp)) (vS (List.getD kwL i nm0)) (by simp only [Int.toNat_natCast,Int.toNat_zero]; rw [@kwC_at (i) hlt]; try rfl)] ?_;by_cases h0:List.getD kwL i nm0=s
  ·exact tX mdL [bt (ByteArray.toList (List.getD kwL i nm0)==ByteArray.toList s) (bsT h0)] (nKw_R.e0) (by rw [hd,nKw_f,iP h0])
  ·exact tN mdL [bf (ByteArray.toList (List.getD kwL i nm0)==ByteArray.toList s) (bsF h0),wr ((i:Int)+1)] hlt () trivial (by rw [hd,nKw_f,iN h0])
 ·have he:i=List.length ((kwL)):=by omega
  exact lX mdL [df ((i:Int)<42) (by (apply kwF <;> first | assumption | omega | decide))] (nKw_R.e1) (by rw [he,List.drop_length,nKw_f])
def wordB:List UInt8->Bool
 | []=>true
 | c::r=>smB c.toNat&&r.all wdB
theorem nWd_e1:∀ (l:List UInt8) (i:Nat),nWd_f l (i+1)=if l.all wdB=true then .e1 else .e0
 | [],_=>rfl
 | c::r,i=>by
  have hi:¬(((i+1:Nat):Int)=0):=by omega
  have hj:¬((i:Int)+1=0):=by omega
  by_cases h1:smB c.toNat=true <;> by_cases h2:dgB c.toNat=true <;> by_cases h3:((c.toNat:Nat):Int)=95 <;> simp [nWd_f,wdB,h1,h2,h3,hi,hj,nWd_e1 r (i+1)]
theorem nWd_e(l:List UInt8):nWd_f l 0=if wordB l=true then .e1 else .e0:=by
 cases l with
 | nil=>rfl
 | cons c r=>
  by_cases h1:smB c.toNat=true
  ·have:=nWd_e1 r 0
   simp [nWd_f,wordB,h1,this]
  ·simp [nWd_f,wordB,h1]
def kwB(s:BA):Bool:=decide (ix id s kwL<kwL.length)
theorem nKw_e(s:BA):∀l:List BA,nKw_f s l=if ix id s l<l.length then .e0 else .e1
 | []=>by simp [nKw_f,ix]
 | c::r=>by
  by_cases h:c=s
  ·simp [nKw_f,ix,h]
  ·simp only [nKw_f,ix,id,h,if_false,nKw_e s r,List.length_cons,Nat.add_lt_add_iff_right]
theorem nWdL_1(s:BA)(hs:s.size<=1000000000)(hx0:nWd_f (Array.toList (ByteArray.data s)) 0=nWd_R.e0):Pu 132 [.str s] (rB false):=
 pu mdL (fun e=>[lq (rz (nWd_lp (s) (e) (by (apply sz_le <;> first | assumption | omega | decide))) hx0)]) func132
theorem nWdL_2(s:BA)(hs:s.size<=1000000000)(hx0:nWd_f (Array.toList (ByteArray.data s)) 0=nWd_R.e1):Pu 132 [.str s] (rB true):=
 pu mdL (fun e=>[lq (rz (nWd_lp (s) (e) (by (apply sz_le <;> first | assumption | omega | decide))) hx0)]) func132
theorem nWdT(s:BA)(hs:s.size<=1000000000):Pu 132 [.str s] (.ret (.bool (wordB s.data.toList))):=by
 cases h:wordB s.data.toList with
 | true=>exact nWdL_2 s hs (by rw [nWd_e,iP h])
 | false=>exact nWdL_1 s hs (by rw [nWd_e,iN (by rw [h]; simp)])
theorem nKwT(s:BA):Pu 154 [.str s] (.ret (.bool (kwB s))):=by
 unfold kwB
 by_cases h:ix id s kwL<kwL.length
 ·rw [decide_eq_true h]; exact pu mdL (fun e=>[lq (rz (nKw_lp (s) (e) dD) (by rw [nKw_e,iP h]))]) func154
 ·rw [decide_eq_false h]; exact pu mdL (fun e=>[lq (rz (nKw_lp (s) (e) dD) (by rw [nKw_e,iN h]))]) func154
theorem szB_lt{s:BA}(h:szB s=true):(0:Int)<=0/\(0:Int)<(s.size:Int):=by
 simp only [szB,Bool.and_eq_true,decide_eq_true_eq] at h; omega
theorem szB_d1{s:BA}(h:szB s=true):List.length (List.drop 1 s.data.toList)<=1000000000:=by
 have:s.size=s.data.size:=rfl
 simp only [szB,Bool.and_eq_true,decide_eq_true_eq] at h; simp; omega
theorem b1A{s:BA}{i:Nat}(h:i<List.length (List.drop 1 s.data.toList)):(0:Int)<=(i:Int)+1/\(i:Int)+1<(s.size:Int):=by
 have:=b1T h; omega
abbrev nNl_I(s:BA)(j:Int)(e:Ext):S:=S.mk [(0,vS s),(3,vI6 (j+1))] [] e
inductive nNl_R where
 | e0
 | e1
def nNl_f  : List UInt8->nNl_R
 | []=>(nNl_R.e1)
 | el::r=>(if smB (↑(UInt8.toNat el):Int)=false then (if dgB (↑(UInt8.toNat el):Int)=false then (if (↑(UInt8.toNat el):Int)=95 then nNl_f  r  else (nNl_R.e0)) else nNl_f  r) else nNl_f  r)
def nNl_q(s:BA)(e:Ext):nNl_R->PExit × S
 | .e0=>(.ret,S.mk [(0,vS s),(2,.v (.bool false))] [] e)
 | .e1=>(.exit 0,S.mk [(0,vS s)] [] e)
theorem nNl_lp(s:BA)(hsa:szB s=true)(hsb:smB (s.data.toList.getD 0 default).toNat=true)(hsc:kwB s=false)(e:Ext)(hN:List.length ((List.drop 1 s.data.toList))<=1000000000):(Ob.loop 41 (loopF f128 0) (nNl_I s 0  e) (nNl_q s e (nNl_f  ((List.drop 1 s.data.toList)))).1 (nNl_q s e (nNl_f  ((List.drop 1 s.data.toList)))).2).ok prog:=by
 refine rng (List.length ((List.drop 1 s.data.toList))) (fun j _=>nNl_I s j  e) (fun i _=>nNl_f  (List.drop i ((List.drop 1 s.data.toList)))) (nNl_q s e) (fun i _=>True) kR ?_ () trivial
 rintro i u hi -
 rcases Nat.lt_or_ge i (List.length ((List.drop 1 s.data.toList))) with hlt | hge
 ·have hd:=drop_at hlt
  refine t0 ?_;refine tp [kp,dt ((i:Int)+1<(↑(ByteArray.size s):Int)) (by (apply b1T <;> first | assumption | omega | decide)),am ((0:Int)<=(i:Int)+1/\(i:Int)+1<(↑(ByteArray.size s):Int)) (by (apply b1A <;> first | assumption | omega | decide)),av (.v (.int .u8 (↑(UInt8.toNat (List.getD (Array.toList (ByteArray.data s)) (Int.toNat ((i:Int)+1)) default)):Int))) (.v (.int .u8 (↑(UInt8.toNat (List.getD (List.drop 1 (Array.toList (ByteArray.data s))) i default)):Int))) (by simp only [Int.toNat_natCast,Int.toNat_zero,tn1]; rw [@dr_at (Array.toList (ByteArray.data s)) (i) hlt]; try rfl),cl (@nSmT ((↑(UInt8.toNat (List.getD (List.drop 1 (Array.toList (ByteArray.data s))) i default)):Int)))] ?_;by_cases h0:smB (↑(UInt8.toNat (List.getD (List.drop 1 (Array.toList (ByteArray.data s))) i default)):Int)=false
  ·refine tp [rp 3 (bt1 (bnT h0)),am ((0:Int)<=(i:Int)+1/\(i:Int)+1<(↑(ByteArray.size s):Int)) (by (apply b1A <;> first | assumption | omega | decide)),av (.v (.int .u8 (↑(UInt8.toNat (List.getD (Array.toList (ByteArray.data s)) (Int.toNat ((i:Int)+1)) default)):Int))) (.v (.int .u8 (↑(UInt8.toNat (List.getD (List.drop 1 (Array.toList (ByteArray.data s))) i default)):Int))) (by simp only [Int.toNat_natCast,Int.toNat_zero,tn1]; rw [@dr_at (Array.toList (ByteArray.data s)) (i) hlt]; try rfl),bt1 (bnT h0),cl (@nDgT ((↑(UInt8.toNat (List.getD (List.drop 1 (Array.toList (ByteArray.data s))) i default)):Int))),rp 2 (bt1 (bnT h0))] ?_;by_cases h1:dgB (↑(UInt8.toNat (List.getD (List.drop 1 (Array.toList (ByteArray.data s))) i default)):Int)=false
   ·refine tp [rp 3 (bt1 (bnT h1)),am ((0:Int)<=(i:Int)+1/\(i:Int)+1<(↑(ByteArray.size s):Int)) (by (apply b1A <;> first | assumption | omega | decide)),av (.v (.int .u8 (↑(UInt8.toNat (List.getD (Array.toList (ByteArray.data s)) (Int.toNat ((i:Int)+1)) default)):Int))) (.v (.int .u8 (↑(UInt8.toNat (List.getD (List.drop 1 (Array.toList (ByteArray.data s))) i default)):Int))) (by simp only [Int.toNat_natCast,Int.toNat_zero,tn1]; rw [@dr_at (Array.toList (ByteArray.data s)) (i) hlt]; try rfl),rp 2 (bt1 (bnT h1))] ?_;by_cases h2:(↑(UInt8.toNat (List.getD (List.drop 1 (Array.toList (ByteArray.data s))) i default)):Int)=95
    ·exact tN mdL [nn1 h2,wr ((i:Int)+1+1)] hlt () trivial (by rw [hd,nNl_f,iP h0,iP h1,iP h2])
    ·exact tX mdL [nt1 h2] (nNl_R.e0) (by rw [hd,nNl_f,iP h0,iP h1,iN h2])
   ·exact tN mdL [rp 5 (bf1 (bnF (bTF h1))),bf false,wr ((i:Int)+1+1)] hlt () trivial (by rw [hd,nNl_f,iP h0,iN h1])
  ·exact tN mdL [rp 6 (bf1 (bnF (bTF h0))),rp 6 (bf false),wr ((i:Int)+1+1)] hlt () trivial (by rw [hd,nNl_f,iN h0])
 ·have he:i=List.length ((List.drop 1 s.data.toList)):=by omega
  exact lX mdL [kp,df ((i:Int)+1<(↑(ByteArray.size s):Int)) (by (apply b1F <;> first | assumption | omega | decide))] (nNl_R.e1) (by rw [he,List.drop_length,nNl_f])
theorem nNl_e:∀l:List UInt8,nNl_f l=if l.all wdB=true then .e1 else .e0
 | []=>rfl
 | c::r=>by
  by_cases h1:smB c.toNat=true <;> by_cases h2:dgB c.toNat=true <;> by_cases h3:((c.toNat:Nat):Int)=95 <;> simp [nNl_f,wdB,h1,h2,h3,nNl_e r]
def nameB(s:BA):Bool:=szB s&&smB (s.data.toList.getD 0 default).toNat && !kwB s&&(s.data.toList.drop 1).all wdB
section
variable (s:BA) (hsa:szB s=true)
include s hsa
theorem nNmB(hsb:smB (s.data.toList.getD 0 default).toNat=false):Pu 128 [.str s] (rB false):=
 pm mdL [cl (@nSiT s),rp 2 (bf (!szB s) (bnF hsa)),am ((0:Int)<=0/\0<(↑(ByteArray.size s):Int)) (by (apply szB_lt <;> first | assumption | omega | decide)),xBy s 0,bf (!szB s) (bnF hsa),cl (@nSmT ((↑(UInt8.toNat (List.getD (Array.toList (ByteArray.data s)) 0 default)):Int))),rp 2 (bf (!szB s) (bnF hsa)),rp 3 (bt (!smB (↑(UInt8.toNat (List.getD (Array.toList (ByteArray.data s)) 0 default)):Int)) (bnT hsb)),bt true] func128
theorem nNmC(hsb:smB (s.data.toList.getD 0 default).toNat=true)(hsc:kwB s=true):Pu 128 [.str s] (rB false):=
 pm mdL [cl (@nSiT s),rp 2 (bf (!szB s) (bnF hsa)),am ((0:Int)<=0/\0<(↑(ByteArray.size s):Int)) (by (apply szB_lt <;> first | assumption | omega | decide)),xBy s 0,bf (!szB s) (bnF hsa),cl (@nSmT ((↑(UInt8.toNat (List.getD (Array.toList (ByteArray.data s)) 0 default)):Int))),rp 2 (bf (!szB s) (bnF hsa)),rp 2 (bf (!smB (↑(UInt8.toNat (List.getD (Array.toList (ByteArray.data s)) 0 default)):Int)) (bnF hsb)),cl (@nKwT s),bf (!smB (↑(UInt8.toNat (List.getD (Array.toList (ByteArray.data s)) 0 default)):Int)) (bnF hsb),bt (kwB s) hsc] func128
theorem nNmD_1(hsb:smB (s.data.toList.getD 0 default).toNat=true)(hsc:kwB s=false)(hx0:nNl_f (List.drop 1 (Array.toList (ByteArray.data s)))=nNl_R.e0):Pu 128 [.str s] (rB false):=
 pu mdL (fun e=>[cl (@nSiT s),rp 2 (bf (!szB s) (bnF hsa)),am ((0:Int)<=0/\0<(↑(ByteArray.size s):Int)) (by (apply szB_lt <;> first | assumption | omega | decide)),xBy s 0,bf (!szB s) (bnF hsa),cl (@nSmT ((↑(UInt8.toNat (List.getD (Array.toList (ByteArray.data s)) 0 default)):Int))),rp 2 (bf (!szB s) (bnF hsa)),rp 2 (bf (!smB (↑(UInt8.toNat (List.getD (Array.toList (ByteArray.data s)) 0 default)):Int)) (bnF hsb)),cl (@nKwT s),bf (!smB (↑(UInt8.toNat (List.getD (Array.toList (ByteArray.data s)) 0 default)):Int)) (bnF hsb),bf (kwB s) hsc,lq (rz (nNl_lp (s) hsa hsb hsc (e) (by (apply szB_d1 <;> first | assumption | omega | decide))) hx0)]) func128
theorem nNmD_2(hsb:smB (s.data.toList.getD 0 default).toNat=true)(hsc:kwB s=false)(hx0:nNl_f (List.drop 1 (Array.toList (ByteArray.data s)))=nNl_R.e1):Pu 128 [.str s] (rB true):=
 pu mdL (fun e=>[cl (@nSiT s),rp 2 (bf (!szB s) (bnF hsa)),am ((0:Int)<=0/\0<(↑(ByteArray.size s):Int)) (by (apply szB_lt <;> first | assumption | omega | decide)),xBy s 0,bf (!szB s) (bnF hsa),cl (@nSmT ((↑(UInt8.toNat (List.getD (Array.toList (ByteArray.data s)) 0 default)):Int))),rp 2 (bf (!szB s) (bnF hsa)),rp 2 (bf (!smB (↑(UInt8.toNat (List.getD (Array.toList (ByteArray.data s)) 0 default)):Int)) (bnF hsb)),cl (@nKwT s),bf (!smB (↑(UInt8.toNat (List.getD (Array.toList (ByteArray.data s)) 0 default)):Int)) (bnF hsb),bf (kwB s) hsc,lq (rz (nNl_lp (s) hsa hsb hsc (e) (by (apply szB_d1 <;> first | assumption | omega | decide))) hx0)]) func128
end
theorem nNmT(s:BA):Pu 128 [.str s] (.ret (.bool (nameB s))):=by
 unfold nameB
 cases hsa:szB s with
 | false=>exact pm mdL [cl (@nSiT s),rp 5 (bt (!szB s) (bnT hsa)),rp 4 (bt true)] func128
 | true=>
  cases hsb:smB (s.data.toList.getD 0 default).toNat with
  | false=>exact nNmB s hsa hsb
  | true=>
   cases hsc:kwB s with
   | true=>exact nNmC s hsa hsb hsc
   | false=>
    cases h:(s.data.toList.drop 1).all wdB with
    | true=>exact nNmD_2 s hsa hsb hsc (by rw [nNl_e,iP h])
    | false=>exact nNmD_1 s hsa hsb hsc (by rw [nNl_e,iN (by rw [h]; simp)])
end Go.Proofs.YtaakmholhliodaaGreatDoor
