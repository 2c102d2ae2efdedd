/- Values of Go as plain data, an evaluator over them, and what the functions of the program return; part Yo. -/
import Derived.Test.YtmllcplaohkjnaaGreatDoorYn
import Derived.Test.YtmllcplaohkjnaaGreatDoorYj
import Derived.Test.YtmllcplaohkjnaaGreatDoorYi
import Derived.Test.YtmllcplaohkjnaaGreatDoorYa
set_option linter.unusedSectionVars false
set_option linter.unusedSimpArgs false
set_option linter.unusedVariables false
namespace Go.Proofs.YtmllcplaohkjnaaGreatDoor
open Go.Proofs.Tryz
open Go.Pv Go.Proofs.Tryz
set_option maxRecDepth 100000
theorem A9w{o:Int}(h:Cf o=true):o=6:=by
 unfold Cf at h
 by_cases h6:o=6
 ·exact h6
 ·simp only [h6,if_false] at h
  (repeat' split at h) <;> simp_all
theorem wD{y:Ex}(h:cG y=0):Ao y=[]∨B2 y=6:=by
 unfold cG jP at h
 by_cases hp:Ao y=[]
 ·exact .inl hp
 ·refine .inr (A9w ?_)
  cases hm:Cf (B2 y) with
  | true=>rfl
  | false=>
   have hl:0<(Ao y).length:=List.length_pos_iff.2 hp
   rw [iP (by
    rw [hm]; unfold By
    have:decide (((Ao y).length:Int)>0)=true:=decide_eq_true oM
    rw [this]; simp)] at h
   exact absurd h dD
def wE:Nat->Ex->Prop
 | 0,_=>True
 | d+1,u=>(Ao u=[]∨B2 u=6)/\(∀w∈AQ u,wE d w)/\∀a∈Ae u,wE d (D4 a)
theorem U6{α:Type}(f:α->Int->Bool × Int)(Q:α->Prop)(hf:∀w,(f w 0=(true,0)/\Q w)∨((f w 0).1=false/\(f w 0).2≠0)):∀l:List α,(QG f l 0=(true,0)/\∀w∈l,Q w)∨((QG f l 0).1=false/\(QG f l 0).2≠0)
 | [] => .inl ⟨rfl,by simp⟩
 | x::r=>by
  unfold QG
  rcases hf x with ⟨h1,h2⟩ | ⟨h1,h2⟩
  ·rw [h1,iP rfl]
   rcases U6 f Q hf r with ⟨h3,h4⟩ | h3
   ·refine .inl ⟨h3,fun w hw=>?_⟩
    rcases List.mem_cons.1 hw with e | e
    ·rw [e]; exact h2
    ·exact h4 w e
   ·exact .inr h3
  ·rw [iN (by rw [h1]; decide)]
   exact .inr ⟨rfl,h2⟩
theorem U7:∀ (d:Nat) (u:Ex),(bY QH d u 0=(true,0)/\wE d u)∨((bY QH d u 0).1=false/\(bY QH d u 0).2≠0)
 | 0,_ => .inl ⟨rfl,Ar⟩
 | d+1,u=>by
  have hK:=U6 (bY QH d) (wE d) (U7 d) (AQ u)
  have hA:=U6 (fun a=>bY QH d (D4 a)) (fun a=>wE d (D4 a)) (fun a=>U7 d (D4 a)) (Ae u)
  unfold bY wkB
  by_cases h0:cG u=0
  ·rw [show QH u 0=(true,0) by unfold QH; rw [h0]; rfl,iP rfl]
   rcases hK with ⟨h1,h2⟩ | h1
   ·simp only [h1,if_true]
    rcases hA with ⟨h3,h4⟩ | h3
    ·exact .inl ⟨h3,wD h0,h2,h4⟩
    ·exact .inr h3
   ·simp only [h1.1]
    exact .inr h1
  ·rw [iN (by unfold QH; simpa using h0)]
   exact .inr ⟨by unfold QH; simpa using h0,h0⟩
theorem wF{y:Ex}(h:WW y=0):wE (A5 (AT y)+1) y:=by
 unfold WW at h
 split at h
 ·exact absurd h dD
 ·split at h
  ·exact absurd h dD
  ·rcases U7 (A5 (AT y)+1) y with h1 | h1
   ·exact h1.2
   ·exact absurd h h1.2
theorem wG{u:Ex}(h:Ao u=[]∨B2 u=6)(k:Int)(bd:List BA):Mb u k bd=bd++Vv u k:=by
 unfold Mb Vv
 rcases h with h | h
 ·rw [h]; simp only [List.map_nil,List.append_nil]
  by_cases h7:B2 u=7
  ·by_cases hk:0<k
   ·rw [iP ⟨h7,hk⟩,iP h7,iP hk]
   ·rw [iN (fun c=>hk c.2),iP h7,iN hk]
  ·rw [iN (fun c=>h7 c.1),iN h7]; split <;> rfl
 ·rw [iN (fun c=>by omega),iN oM,iP h,List.append_nil]
theorem SJ{ε:En}{vs:List BA}{nf:Ex->List BA->Int}{u:Ex}{bd:List BA}(h:y6 ε vs nf u bd=0) :
  fH ε vs bd u=0/\R5 (fun k w=>nf w (Mb u k bd)) (AQ u) 0=0/\∀a∈Ae u,nf (D4 a) (bd++Bl a)=0:=by
 unfold y6 at h
 by_cases h0:fH ε vs bd u=0
 ·rw [iP h0,KG,NT] at h
  exact ⟨h0,h.1,h.2⟩
 ·rw [iN h0] at h; exact absurd h h0
theorem SK{ε:En}{vs bd:List BA}{u:Ex}(h:fH ε vs bd u=0) :
  IX ε.ps bd u=0/\(B2 u=4->(ε.ar (Ap u)).2=true)/\∀a∈Ae u,(ε.ar (FT a)).2=true:=by
 have hc:∀s n,Iv ε.ar s n=0->(ε.ar s).2=true:=fun s n h=>by
  unfold Iv at h
  rw [KG,NI _ _ dD] at h
  simpa using h.1
 unfold fH at h
 rw [KG,NT] at h
 obtain ⟨h1,h2⟩:=h
 have h3:nq1 ε vs bd u=0:=by
  unfold nq2 at h1
  by_cases hh:nq1 ε vs bd u=0
  ·exact hh
  ·rw [iN (fun c=>hh c.1)] at h1; exact h1
 refine ⟨?_,fun h4=>?_,fun a ha=>hc _ _ (h2 a ha)⟩
 ·unfold nq1 at h3; rw [SA] at h3; exact h3.2.2
 ·unfold nq2 at h1; rw [iP ⟨h3,h4⟩] at h1; exact hc _ _ h1
theorem dY(f:Ex->List BA->List BA)(g:Ex->List BA->Int)(ok:BA->Prop)(u:Ex)(hu:Ao u=[]∨B2 u=6)(bd h:List BA):∀ (l:List Ex) (i:Nat),(∀w∈l,∀k:Int,g w (bd++Vv u k)=0->∀t∈f w (h++Vv u k),ok t)->R5 (fun k w=>g w (Mb u k bd)) l i=0->∀t∈R7 f u h l i,ok t
 | [],_,_,_,t,ht=>absurd ht (by simp [R7])
 | w::r,i,hw,hz,t,ht=>by
  unfold R5 at hz
  by_cases h0:g w (Mb u (i:Int) bd)=0
  ·rw [iP h0] at hz
   unfold R7 at ht
   rcases List.mem_append.1 ht with ht | ht
   ·rw [wG hu] at h0
    exact hw w (List.mem_cons_self ..) _ h0 t ht
   ·exact dY f g ok u hu bd h r (i+1) (fun w h=>hw w (List.mem_cons_of_mem _ h)) hz t ht
  ·rw [iN h0] at hz; exact absurd hz h0
theorem dZ(f:Ex->List BA->List BA)(ok:BA->Prop)(bd:List BA):∀l:List Al,(∀a∈l,∀t∈f (D4 a) (bd++Bl a),ok t)->∀t∈R8 f bd l,ok t
 | [],_,t,ht=>absurd ht (by simp [R8])
 | a::r,hw,t,ht=>by
  unfold R8 at ht
  rcases List.mem_append.1 ht with ht | ht
  ·exact hw a (List.mem_cons_self ..) t ht
  ·exact dZ f ok bd r (fun a h=>hw a (List.mem_cons_of_mem _ h)) t ht
theorem eA{s:BA}{l:List BA}:FX s l<0↔¬s∈l:=by
 have h:=Mu id s l
 unfold FX
 by_cases h1:ix id s l<l.length
 ·rw [iP h1]
  obtain ⟨x,hx,e⟩:=h.1 h1
  exact ⟨fun k=>by omega,fun k=>absurd (by rw [<-e]; exact hx) k⟩
 ·rw [iN h1]
  exact ⟨fun _ k=>h1 (h.2 ⟨s,k,rfl⟩),fun _=>by decide⟩
theorem NY(ε:En)(vs P:List BA):∀ (d:Nat) (u:Ex) (h:List BA),wE d u->fI ε vs d u (P++h)=0->∀t∈Iw d u h,t∈P∨(ε.ps t).2=true
 | 0,_,_,_,_,t,ht=>absurd ht (by simp [Iw])
 | d+1,u,h,hp,hz,t,ht=>by
  obtain ⟨hu,hk,ha⟩:=hp
  obtain ⟨h3,hi,hal⟩:=SJ (nf:=fI ε vs d) hz
  unfold Iw foB at ht
  rcases List.mem_append.1 ht with ht | ht
  ·by_cases hv:(B2 u=3∨B2 u=5)/\FX (Ap u) h<0
   ·rw [iP hv] at ht
    rw [List.mem_singleton.1 ht]
    by_cases hP:Ap u∈P
    ·exact .inl hP
    ·have Kb:(B2 u=3∨B2 u=5)/\FX (Ap u) (P++h)<0:=⟨hv.1,eA.2 fun k=>(List.mem_append.1 k).elim hP (eA.1 hv.2)⟩
     have h1:=(SK h3).1
     unfold IX at h1
     rw [iP Kb,KG,NI _ _ dD] at h1
     exact .inr (by simpa using h1.1)
   ·rw [iN hv] at ht; exact absurd ht sM
  ·rcases List.mem_append.1 ht with ht | ht
   ·exact dY (Iw d) (fI ε vs d) (fun t=>t∈P∨(ε.ps t).2=true) u hu (P++h) h (AQ u) 0 (fun w hw k hz=>NY ε vs P d w (h++Vv u k) (hk w hw) (by rw [<-List.append_assoc]; exact hz)) hi t ht
   ·exact dZ (Iw d) (fun t=>t∈P∨(ε.ps t).2=true) h (Ae u) (fun a hq=>NY ε vs P d (D4 a) (h++Bl a) (ha a hq) (by rw [<-List.append_assoc]; exact hal a hq)) t ht
theorem VK{α:Type}(f:Int->α->Int):∀ (l:List α) (k:Int),R5 f l k=0->∀x∈l,∃j,f j x=0
 | [],_,_,x,hx=>absurd hx sM
 | w::r,k,h,x,hx=>by
  unfold R5 at h
  by_cases h0:f k w=0
  ·rw [iP h0] at h
   rcases List.mem_cons.1 hx with e | e
   ·rw [e]; exact ⟨k,h0⟩
   ·exact VK f r (k+1) h x e
  ·rw [iN h0] at h; exact absurd h h0
theorem NZ(ε:En)(vs:List BA):∀ (d:Nat) (u:Ex) (bd:List BA),fI ε vs d u bd=0->∀t∈Ox d u,(ε.ar t).2=true
 | 0,_,_,_,t,ht=>absurd ht (by simp [Ox])
 | d+1,u,bd,h,t,ht=>by
  obtain ⟨h3,hi,hal⟩:=SJ (nf:=fI ε vs d) h
  obtain ⟨-,h4,h5⟩:=SK h3
  unfold Ox at ht
  rcases List.mem_append.1 ht with ht | ht
  ·rcases List.mem_append.1 ht with ht | ht
   ·by_cases hv:B2 u=4
    ·rw [iP hv] at ht
     rw [List.mem_singleton.1 ht]; exact h4 hv
    ·rw [iN hv] at ht; exact absurd ht sM
   ·obtain ⟨a,ha,rfl⟩:=List.mem_map.1 ht
    exact h5 a ha
  ·obtain ⟨w,hw,ht⟩:=List.mem_flatMap.1 ht
   rcases List.mem_append.1 hw with hw | hw
   ·obtain ⟨j,hj⟩:=VK _ _ _ hi w hw
    exact NZ ε vs d w _ hj t ht
   ·obtain ⟨a,ha,rfl⟩:=List.mem_map.1 hw
    exact NZ ε vs d (D4 a) _ (hal a ha) t ht
theorem SL{α:Type}{l:List α}(h:FL l=true):l=[]:=by
 have h2:(l.length:Int)=0:=by simpa [FL] using h
 exact List.length_eq_zero_iff.1 oM
theorem wH{u:Ex}(h:EF u=true):∀ (d:Nat) (bd:List BA),Iw d u bd=[]/\Ox d u=[]:=by
 have h1:B2 u=0/\AQ u=[]/\Ae u=[]:=by
  unfold EF at h
  split at h
  ·rename_i h0
   split at h
   ·rename_i hk
    split at h
    ·split at h
     ·refine ⟨?_,SL hk,SL h⟩
      simp only [Bool.and_eq_true,beq_iff_eq] at h0
      exact h0.1.1
     ·exact absurd h dD
    ·exact absurd h dD
   ·exact absurd h dD
  ·exact absurd h dD
 obtain ⟨h0,hk,ha⟩:=h1
 intro d bd
 cases d with
 | zero=>exact ⟨rfl,rfl⟩
 | succ d=>
  unfold Iw foB Ox
  rw [hk,ha,iN (fun c=>by omega),iN oM]
  exact ⟨rfl,rfl⟩
theorem eB{m:Mo}{x:Df}(h:Xq m x []=0):EF (DQ x)=true∨WZ (O6 m) ([]++Az x) (BD x) (DQ x)=0:=by
 have h8:Bh m x [] default=0:=by
  unfold Xq at h
  by_cases h8:Bh m x [] default=0
  ·exact h8
  ·rw [iN h8] at h; exact absurd h h8
 by_cases hM:E0 x=1
 ·left
  unfold Bh at h8
  rw [iN oM,iP hM] at h8
  split at h8
  ·rw [SB,NI _ 6 dD] at h8
   simpa using h8.2.2.2.1
  ·rw [SB] at h8
   exact absurd h8.2.2.2.1 dD
 ·right
  unfold Xq at h
  rw [iP h8] at h
  split at h
  ·split at h
   ·exact h
   ·exact absurd h (by assumption)
  ·exact h
theorem VL{m:Mo}{x:Df}(h:Xq m x []=0):(∀t∈JF (DQ x),t∈BD x∨(Fb m t).2=true)/\∀t∈KK (DQ x),(Fq m t).2=true:=by
 unfold JF KK
 rcases eB h with hz | hz
 ·obtain ⟨h1,h2⟩:=wH hz (A5 (AT (DQ x))+1) []
  rw [h1,h2]
  exact ⟨fun t ht=>absurd ht (by simp [F6]),fun t ht=>absurd ht (by simp [F6])⟩
 ·unfold WZ at hz
  have hs:WW (DQ x)=0:=by
   by_cases h0:j0 (WW (DQ x))=0
   ·unfold j0 at h0; split at h0 <;> assumption
   ·rw [iN h0] at hz; exact absurd hz h0
  rw [iP (by rw [hs]; rfl)] at hz
  refine ⟨fun t ht=>?_,fun t ht=>?_⟩
  ·rcases QL t _ _ ht with k | k
   ·exact absurd k sM
   ·exact NY (O6 m) _ (BD x) _ (DQ x) [] (wF hs) (by rw [List.append_nil]; exact hz) t k
  ·rcases QL t _ _ ht with k | k
   ·exact absurd k sM
   ·exact NZ (O6 m) _ _ (DQ x) _ hz t k
theorem O0{α:Type}(ge:α->List BA->Int)(nm:α->BA)(hg:∀x k,ge x k=0->¬nm x∈k):∀ (l:List α) (k:List BA),(EL ge nm l k).1=0 ->
  (l.map nm).Nodup/\(∀x∈l,¬nm x∈k)/\∀t,t∈(EL ge nm l k).2↔t∈l.map nm∨t∈k
 | [],k,_=>⟨by simp,by simp,fun t=>by simp [EL]⟩
 | x::r,k,h=>by
  unfold EL at h ⊢
  by_cases h0:ge x k=0
  ·rw [iP h0] at h ⊢
   obtain ⟨h1,h2,h3⟩:=O0 ge nm hg r _ h
   refine ⟨?_,fun y hy=>?_,fun t=>?_⟩
   ·rw [List.map_cons,List.nodup_cons]
    refine ⟨fun c=>?_,h1⟩
    obtain ⟨y,hy,e⟩:=List.mem_map.1 c
    exact h2 y hy ((KM _ _ _).2 (.inl e))
   ·rcases List.mem_cons.1 hy with e | e
    ·rw [e]; exact hg x k h0
    ·exact fun c=>h2 y e ((KM _ _ _).2 (.inr c))
   ·rw [h3,KM,List.map_cons,List.mem_cons]
    constructor
    ·rintro (a | a | a)
     ·exact .inl (.inr a)
     ·exact .inl (.inl a)
     ·exact .inr a
    ·rintro ((a | a) | a)
     ·exact .inr (.inl a)
     ·exact .inl a
     ·exact .inr (.inr a)
  ·rw [iN h0] at h; exact absurd h h0
theorem O1{α β:Type}(sub:α->List β)(nm:β->BA)(pr:St->List BA)(ge:α->St->Int)(gs:α->St->St)
  (hg:∀x st,ge x st=0->((sub x).map nm).Nodup/\(∀y∈sub x,¬nm y∈pr st)/\∀t,t∈pr (gs x st)↔t∈(sub x).map nm∨t∈pr st) :
  ∀ (l:List α) (st:St),(E7 ge gs l st).1=0->(l.flatMap fun x=>(sub x).map nm).Nodup/\(∀t∈l.flatMap fun x=>(sub x).map nm,¬t∈pr st)/\∀t,t∈pr (E7 ge gs l st).2↔t∈(l.flatMap fun x=>(sub x).map nm)∨t∈pr st
 | [],st,_=>⟨by simp,by simp,fun t=>by simp [E7]⟩
 | x::r,st,h=>by
  unfold E7 at h ⊢
  by_cases h0:ge x st=0
  ·rw [iP h0] at h ⊢
   obtain ⟨g1,g2,g3⟩:=hg x st h0
   obtain ⟨h1,h2,h3⟩:=O1 sub nm pr ge gs hg r _ h
   rw [List.flatMap_cons]
   refine ⟨?_,fun t ht=>?_,fun t=>?_⟩
   ·rw [List.nodup_append]
    refine ⟨g1,h1,fun a ha b hb e=>?_⟩
    exact h2 b hb ((g3 b).2 (.inl (by rw [<-e]; exact ha)))
   ·rcases List.mem_append.1 ht with k | k
    ·obtain ⟨y,hy,e⟩:=List.mem_map.1 k
     rw [<-e]; exact g2 y hy
    ·exact fun c=>h2 t k ((g3 t).2 (.inr c))
   ·rw [h3,g3,List.mem_append]
    constructor
    ·rintro (a | a | a)
     ·exact .inl (.inr a)
     ·exact .inl (.inl a)
     ·exact .inr a
    ·rintro ((a | a) | a)
     ·exact .inr (.inl a)
     ·exact .inl a
     ·exact .inr (.inr a)
  ·rw [iN h0] at h; exact absurd h h0
theorem QS{α:Type}(ge:α->St->Int)(gs:α->St->St)(t:BA)(hg:∀x st,t∈st.d->t∈(gs x st).d):∀ (l:List α) (st:St),t∈st.d->t∈(E7 ge gs l st).2.d
 | [],_,h=>h
 | x::r,st,h=>by
  unfold E7
  split
  ·exact QS ge gs t hg r _ (hg x st h)
  ·exact hg x st h
theorem eC{m:Mo}(h:(xC m).1=0):(Qv m).Nodup/\∀t∈Qv m,t∈(xC m).2.d:=by
 unfold xC at h ⊢
 have:=O1 B9 BR (·.d) (fN m) (kA m) (fun y st hz=>by
  unfold fN clE at hz
  by_cases h0:p4 m y st.c=0
  ·rw [iP h0] at hz
   have:=O0 (oZ m (LM y)) BR (fun x k hk=>by
    unfold oZ at hk
    rw [SA] at hk
    exact (J1 _ _).1 hk.2.1) (B9 y) st.d hz
   refine ⟨this.1,this.2.1,fun t=>?_⟩
   show t∈yB m y st.c st.d↔_
   unfold yB
   rw [iP h0]
   exact this.2.2 t
  ·rw [iN h0] at hz; exact absurd hz h0) (AA m) _ h
 exact ⟨this.1,fun t ht=>(this.2.2 t).2 (.inl ht)⟩
theorem SN{m:Mo}(h:w8 EM m=0):(FU m).Nodup:=by
 obtain ⟨-,-,hC,-,-,-,hF⟩:=(SH EM m).1 h
 obtain ⟨h1,h2⟩:=eC hC
 obtain ⟨-,h3,h4⟩:=(VJ EM m).1 hF
 unfold FU
 rw [List.nodup_append]
 refine ⟨h1,h3,fun a ha b hb e=>?_⟩
 obtain ⟨x,hx,e2⟩:=List.mem_map.1 hb
 refine h4 x hx ?_
 rw [e2,<-e]
 have k:=h2 a ha
 unfold xQ
 refine QS (kB m) (kC m) a (fun x st h=>h) _ _ ?_
 show a∈(xM EM m).2.d
 unfold xM
 exact QS (EM m) (kD m) a (fun x st h=>(KM _ _ _).2 (.inr h)) _ _ k
def PC(m:Mo):List BA:=(Aj m).flatMap fun y=>(AS y).map Bj
theorem A6h{m:Mo}{y:Da}{x:Cn}{b:List BA}(h:G1 m y x b=0):¬Bj x∈b:=by
 have h4:∀p q r s:Int,fF p q r s=0->q=0:=fun p q r s hh=>by unfold fF at hh; (repeat' split at hh) <;> simp_all
 unfold G1 at h
 split at h
 ·split at h
  ·rename_i hh; exact (J1 _ _).1 (h4 _ _ _ _ hh)
  ·exact absurd h (by assumption)
 ·split at h
  ·rename_i hh; exact (J1 _ _).1 (h4 _ _ _ _ hh)
  ·exact absurd h (by assumption)
theorem U8{m:Mo}(h:(xD m).1=0):(PC m).Nodup:=by
 unfold xD at h
 exact (O1 AS Bj (·.b) (fM m) (k9 m) (fun y st hz=>by
  unfold fM daE at hz
  by_cases h0:da1 y st.a=0
  ·rw [iP h0] at hz
   by_cases h1:da2 m y=0
   ·rw [iP h1] at hz
    have:=O0 (G1 m y) Bj (fun x k hk=>A6h hk) (AS y) st.b hz
    refine ⟨this.1,this.2.1,fun t=>?_⟩
    show t∈yA m y st.a st.b↔_
    unfold yA
    rw [iP h0,iP h1]
    exact this.2.2 t
   ·rw [iN h1] at hz; exact absurd hz h1
  ·rw [iN h0] at hz; exact absurd hz h0) (Aj m) _ h).1
theorem wI{m:Mo}{t:BA}(h:(Fq m t).2=true):t∈PC m:=by
 unfold Fq at h
 by_cases h1:JZ t (Aj m)<(Aj m).length
 ·have h2:=Qw h1
  obtain ⟨x,hx,e⟩:=(Mu Bj t _).1 h2
  exact List.mem_flatMap.2 ⟨_,Bk h1,List.mem_map.2 ⟨x,hx,e⟩⟩
 ·rw [iN h1] at h; exact absurd h sM
abbrev A6i(m:Mo)(C:List BA)(d:Nat)(k:Nat)(o:Nat)(xe:Ext)(j:Int)(n:Int)  : S:=S.mk [(1,.lp 1 0),(6,A2 (d:Int)),(13,vL 1 (A1 C)),(14,A2 (k:Int)),(15,A2 n),(16,A2 (o:Int)),(17,A2 j)] [(1,E1 m)] xe
def Ls(C:List BA)(k:Nat):List Cn->(Int)->(Int)
 | [],n=>(n)
 | el::r,n=>(if Bj el=List.getD C k AI then Ls C k r (IntKind.wrap .i64 (n+1)) else Ls C k r (n))
def wJ(m:Mo)(C:List BA)(d:Nat)(k:Nat)(o:Nat)(xe:Ext)(p:(Int)):A7 × S:=(.exit 14,S.mk [(1,.lp 1 0),(6,A2 (d:Int)),(13,vL 1 (A1 C)),(14,A2 (k:Int)),(15,A2 p),(16,A2 (o:Int))] [(1,E1 m)] xe)
theorem d7(m:Mo)(C:List BA)(d k o:Nat)(hk:k<C.length)(hC:C.length<=100000000)(ho:o<(Aj m).length)(hD:(Aj m).length<=100000000)(xe:Ext)(n:Int)(hN:List.length ((AS ((Aj m).getD o default)))<=1000000000)  : (Ob.loop 178 (Am f7 7) (A6i m C d k o xe 0 n) (wJ m C d k o xe  (Ls C k ((AS ((Aj m).getD o default)))  n)).1 (wJ m C d k o xe  (Ls C k ((AS ((Aj m).getD o default)))  n)).2).ok prog:=by
 refine Ek (List.length ((AS ((Aj m).getD o default)))) (fun j n=>A6i m C d k o xe j n) (fun i n=>Ls C k (List.drop i ((AS ((Aj m).getD o default))))  n) (wJ m C d k o xe) (fun i n=>True) kR ?_ n trivial
 rintro i n hi -
 rcases Nat.lt_or_ge i (List.length ((AS ((Aj m).getD o default)))) with Ad | Dm
 ·have hd:=AN Ad
  by_cases h0:Bj (List.getD (AS (List.getD (Aj m) o default)) i default)=List.getD C k AI
  ·exact lN An [am ((0:Int)<=(o:Int)/\(o:Int)<((Da.cs (Aj m)).length:Int)) (by (simp only [Da.A0]; omega)),ar (List.getD (Da.cs (Aj m)) (Int.toNat (o:Int)) []) (EO (List.getD (Aj m) o default)) (by simp only [Int.toNat_natCast,Int.toNat_zero]; rw [@Da.B0 (Aj m) (o) ho]; try rfl),sl (Cn.A0 (AS (List.getD (Aj m) o default))),dt ((i:Int)<((AS (List.getD (Aj m) o default)).length:Int)),am ((0:Int)<=(o:Int)/\(o:Int)<((Da.cs (Aj m)).length:Int)) (by (simp only [Da.A0]; omega)),ar (List.getD (Da.cs (Aj m)) (Int.toNat (o:Int)) []) (EO (List.getD (Aj m) o default)) (by simp only [Int.toNat_natCast,Int.toNat_zero]; rw [@Da.B0 (Aj m) (o) ho]; try rfl),am ((0:Int)<=(i:Int)/\(i:Int)<((Cn.cs (AS (List.getD (Aj m) o default))).length:Int)) (by (simp only [Cn.A0]; omega)),ar (List.getD (Cn.cs (AS (List.getD (Aj m) o default))) (Int.toNat (i:Int)) []) (KX (List.getD (AS (List.getD (Aj m) o default)) i default)) (by simp only [Int.toNat_natCast,Int.toNat_zero]; rw [@Cn.B0 (AS (List.getD (Aj m) o default)) (i) Ad]; try rfl),am ((0:Int)<=(k:Int)/\(k:Int)<((A1 C).length:Int)) (by (simp only [A3]; omega)),ar (List.getD (A1 C) (Int.toNat (k:Int)) []) [.str (List.getD C k AI)] (by simp only [Int.toNat_natCast,Int.toNat_zero]; rw [@BN (C) (k) hk]; try rfl),bt (ByteArray.toList (Bj (List.getD (AS (List.getD (Aj m) o default)) i default))==ByteArray.toList (List.getD C k AI)) (DZ h0),kp,wr ((i:Int)+1)] Ad (IntKind.wrap .i64 (n+1)) trivial (by rw [hd,Ls,iP h0])
  ·exact lN An [am ((0:Int)<=(o:Int)/\(o:Int)<((Da.cs (Aj m)).length:Int)) (by (simp only [Da.A0]; omega)),ar (List.getD (Da.cs (Aj m)) (Int.toNat (o:Int)) []) (EO (List.getD (Aj m) o default)) (by simp only [Int.toNat_natCast,Int.toNat_zero]; rw [@Da.B0 (Aj m) (o) ho]; try rfl),sl (Cn.A0 (AS (List.getD (Aj m) o default))),dt ((i:Int)<((AS (List.getD (Aj m) o default)).length:Int)),am ((0:Int)<=(o:Int)/\(o:Int)<((Da.cs (Aj m)).length:Int)) (by (simp only [Da.A0]; omega)),ar (List.getD (Da.cs (Aj m)) (Int.toNat (o:Int)) []) (EO (List.getD (Aj m) o default)) (by simp only [Int.toNat_natCast,Int.toNat_zero]; rw [@Da.B0 (Aj m) (o) ho]; try rfl),am ((0:Int)<=(i:Int)/\(i:Int)<((Cn.cs (AS (List.getD (Aj m) o default))).length:Int)) (by (simp only [Cn.A0]; omega)),ar (List.getD (Cn.cs (AS (List.getD (Aj m) o default))) (Int.toNat (i:Int)) []) (KX (List.getD (AS (List.getD (Aj m) o default)) i default)) (by simp only [Int.toNat_natCast,Int.toNat_zero]; rw [@Cn.B0 (AS (List.getD (Aj m) o default)) (i) Ad]; try rfl),am ((0:Int)<=(k:Int)/\(k:Int)<((A1 C).length:Int)) (by (simp only [A3]; omega)),ar (List.getD (A1 C) (Int.toNat (k:Int)) []) [.str (List.getD C k AI)] (by simp only [Int.toNat_natCast,Int.toNat_zero]; rw [@BN (C) (k) hk]; try rfl),bf (ByteArray.toList (Bj (List.getD (AS (List.getD (Aj m) o default)) i default))==ByteArray.toList (List.getD C k AI)) (HT h0),wr ((i:Int)+1)] Ad (n) trivial (by rw [hd,Ls,iN h0])
 ·have he:i=List.length ((AS ((Aj m).getD o default))):=by omega
  exact lX An [am ((0:Int)<=(o:Int)/\(o:Int)<((Da.cs (Aj m)).length:Int)) (by (simp only [Da.A0]; omega)),ar (List.getD (Da.cs (Aj m)) (Int.toNat (o:Int)) []) (EO (List.getD (Aj m) o default)) (by simp only [Int.toNat_natCast,Int.toNat_zero]; rw [@Da.B0 (Aj m) (o) ho]; try rfl),sl (Cn.A0 (AS (List.getD (Aj m) o default))),df ((i:Int)<((AS (List.getD (Aj m) o default)).length:Int))] (n) (by rw [he,List.drop_length,Ls])
abbrev A6j(m:Mo)(G:List BA)(d:Nat)(k:Nat)(xe:Ext)(j:Int)(z:Bool)  : S:=S.mk [(1,.lp 1 0),(6,A2 (d:Int)),(7,vL 1 (A1 G)),(8,A2 (k:Int)),(9,.v (.bool z)),(10,A2 j)] [(1,E1 m)] xe
def Jp(G:List BA)(k:Nat):List BA->(Bool)->(Bool)
 | [],z=>(z)
 | el::r,z=>(if z=true then Jp G k r (true) else Jp G k r (ByteArray.toList el==ByteArray.toList (List.getD G k AI)))
def wK(m:Mo)(G:List BA)(d:Nat)(k:Nat)(xe:Ext)(p:(Bool)):A7 × S:=(.exit 8,S.mk [(1,.lp 1 0),(6,A2 (d:Int)),(7,vL 1 (A1 G)),(8,A2 (k:Int)),(9,.v (.bool p))] [(1,E1 m)] xe)
theorem d4(m:Mo)(G:List BA)(d k:Nat)(hk:k<G.length)(hG:G.length<=100000000)(Eh:d<(AD m).length)(hF:(AD m).length<=100000000)(xe:Ext)(z:Bool)(hN:List.length ((BD ((AD m).getD d default)))<=1000000000)  : (Ob.loop 178 (Am f7 4) (A6j m G d k xe 0 z) (wK m G d k xe  (Jp G k ((BD ((AD m).getD d default)))  z)).1 (wK m G d k xe  (Jp G k ((BD ((AD m).getD d default)))  z)).2).ok prog:=by
 refine Ek (List.length ((BD ((AD m).getD d default)))) (fun j z=>A6j m G d k xe j z) (fun i z=>Jp G k (List.drop i ((BD ((AD m).getD d default))))  z) (wK m G d k xe) (fun i z=>True) kR ?_ z trivial
 rintro i z hi -
 rcases Nat.lt_or_ge i (List.length ((BD ((AD m).getD d default)))) with Ad | Dm
 ·have hd:=D9 Ad
  by_cases h0:z=true
  ·exact lN An [am ((0:Int)<=(d:Int)/\(d:Int)<((Df.cs (AD m)).length:Int)) (by (simp only [Df.A0]; omega)),ar (List.getD (Df.cs (AD m)) (Int.toNat (d:Int)) []) (CZ (List.getD (AD m) d default)) (by simp only [Int.toNat_natCast,Int.toNat_zero]; rw [@Df.B0 (AD m) (d) Eh]; try rfl),sl (A3 (BD (List.getD (AD m) d default))),dt ((i:Int)<((BD (List.getD (AD m) d default)).length:Int)),rp 15 (B7 h0),wr ((i:Int)+1)] Ad (true) trivial (by rw [hd,Jp,iP h0])
  ·exact lN An [am ((0:Int)<=(d:Int)/\(d:Int)<((Df.cs (AD m)).length:Int)) (by (simp only [Df.A0]; omega)),ar (List.getD (Df.cs (AD m)) (Int.toNat (d:Int)) []) (CZ (List.getD (AD m) d default)) (by simp only [Int.toNat_natCast,Int.toNat_zero]; rw [@Df.B0 (AD m) (d) Eh]; try rfl),sl (A3 (BD (List.getD (AD m) d default))),dt ((i:Int)<((BD (List.getD (AD m) d default)).length:Int)),rp 4 (B1 (DC h0)),am ((0:Int)<=(d:Int)/\(d:Int)<((Df.cs (AD m)).length:Int)) (by (simp only [Df.A0]; omega)),ar (List.getD (Df.cs (AD m)) (Int.toNat (d:Int)) []) (CZ (List.getD (AD m) d default)) (by simp only [Int.toNat_natCast,Int.toNat_zero]; rw [@Df.B0 (AD m) (d) Eh]; try rfl),rp 4 (B1 (DC h0)),am ((0:Int)<=(i:Int)/\(i:Int)<((A1 (BD (List.getD (AD m) d default))).length:Int)) (by (simp only [A3]; omega)),ar (List.getD (A1 (BD (List.getD (AD m) d default))) (Int.toNat (i:Int)) []) [.str (List.getD (BD (List.getD (AD m) d default)) i AI)] (by simp only [Int.toNat_natCast,Int.toNat_zero]; rw [@BN (BD (List.getD (AD m) d default)) (i) Ad]; try rfl),rp 4 (B1 (DC h0)),am ((0:Int)<=(k:Int)/\(k:Int)<((A1 G).length:Int)) (by (simp only [A3]; omega)),ar (List.getD (A1 G) (Int.toNat (k:Int)) []) [.str (List.getD G k AI)] (by simp only [Int.toNat_natCast,Int.toNat_zero]; rw [@BN (G) (k) hk]; try rfl),rp 3 (B1 (DC h0)),wr ((i:Int)+1)] Ad (ByteArray.toList (List.getD (BD (List.getD (AD m) d default)) i AI)==ByteArray.toList (List.getD G k AI)) trivial (by rw [hd,Jp,iN h0])
 ·have he:i=List.length ((BD ((AD m).getD d default))):=by omega
  exact lX An [am ((0:Int)<=(d:Int)/\(d:Int)<((Df.cs (AD m)).length:Int)) (by (simp only [Df.A0]; omega)),ar (List.getD (Df.cs (AD m)) (Int.toNat (d:Int)) []) (CZ (List.getD (AD m) d default)) (by simp only [Int.toNat_natCast,Int.toNat_zero]; rw [@Df.B0 (AD m) (d) Eh]; try rfl),sl (A3 (BD (List.getD (AD m) d default))),df ((i:Int)<((BD (List.getD (AD m) d default)).length:Int))] (z) (by rw [he,List.drop_length,Jp])
abbrev kG(m:Mo)(l:List BA)(o:Nat)(xe:Ext)(j:Int)   : S:=S.mk [(1,.lp 1 0),(3,vL 1 (A1 l)),(4,A2 (o:Int)),(5,A2 j)] [(1,E1 m)] xe
inductive QT where
 | e0
 | e1
def Oz(l:List BA)(o:Nat):List BA->Nat->QT
 | [],i=>(QT.e1)
 | el::r,i=>(if List.getD l o AI=List.getD l i AI then (QT.e0) else Oz l o r (i+1))
def eD(m:Mo)(l:List BA)(o:Nat)(xe:Ext)  : QT->A7 × S
 | .e0=>(.ret,S.mk [(1,.lp 1 0),(3,vL 1 (A1 l)),(4,A2 (o:Int))] [(1,E1 m)] xe)
 | .e1=>(.exit 2,S.mk [(1,.lp 1 0),(3,vL 1 (A1 l)),(4,A2 (o:Int))] [(1,E1 m)] xe)
theorem A6k(m:Mo)(l:List BA)(o:Nat)(ho:o<l.length)(hl:l.length<=100000000)(hT:(List.take o l).length=o)(xe:Ext)(hN:List.length ((List.take o l))<=1000000000):(Ob.loop 178 (Am f7 1) (kG m l o xe 0) (eD m l o xe  (Oz l o (List.drop 0 ((List.take o l))) 0)).1 (eD m l o xe  (Oz l o (List.drop 0 ((List.take o l))) 0)).2).ok prog:=by
 refine Ek (List.length ((List.take o l))) (fun j _=>kG m l o xe j) (fun i _=>Oz l o (List.drop i ((List.take o l))) i) (eD m l o xe) (fun i _=>True) kR ?_ () trivial
 rintro i u hi -
 rcases Nat.lt_or_ge i (List.length ((List.take o l))) with Ad | Dm
 ·have hd:=D9 Ad
  by_cases h0:List.getD l o AI=List.getD l i AI
  ·exact lX An [dt ((i:Int)<(o:Int)),am ((0:Int)<=(o:Int)/\(o:Int)<((A1 l).length:Int)) (by (simp only [A3]; omega)),ar (List.getD (A1 l) (Int.toNat (o:Int)) []) [.str (List.getD l o AI)] (by simp only [Int.toNat_natCast,Int.toNat_zero]; rw [@BN (l) (o) ho]; try rfl),am ((0:Int)<=(i:Int)/\(i:Int)<((A1 l).length:Int)) (by (simp only [A3]; omega)),ar (List.getD (A1 l) (Int.toNat (i:Int)) []) [.str (List.getD l i AI)] (by simp only [Int.toNat_natCast,Int.toNat_zero]; rw [@BN (l) (i) oM]; try rfl),bt (ByteArray.toList (List.getD l o AI)==ByteArray.toList (List.getD l i AI)) (DZ h0)] (QT.e0) (by rw [hd,Oz,iP h0])
  ·exact lN An [dt ((i:Int)<(o:Int)),am ((0:Int)<=(o:Int)/\(o:Int)<((A1 l).length:Int)) (by (simp only [A3]; omega)),ar (List.getD (A1 l) (Int.toNat (o:Int)) []) [.str (List.getD l o AI)] (by simp only [Int.toNat_natCast,Int.toNat_zero]; rw [@BN (l) (o) ho]; try rfl),am ((0:Int)<=(i:Int)/\(i:Int)<((A1 l).length:Int)) (by (simp only [A3]; omega)),ar (List.getD (A1 l) (Int.toNat (i:Int)) []) [.str (List.getD l i AI)] (by simp only [Int.toNat_natCast,Int.toNat_zero]; rw [@BN (l) (i) oM]; try rfl),bf (ByteArray.toList (List.getD l o AI)==ByteArray.toList (List.getD l i AI)) (HT h0),wr ((i:Int)+1)] Ad () trivial (by rw [hd,Oz,iN h0])
 ·have he:i=List.length ((List.take o l)):=by omega
  exact lX An [df ((i:Int)<(o:Int))] (QT.e1) (by rw [he,List.drop_length,Oz])
theorem A9x(m:Mo)(l:List BA)(o:Nat)(ho:o<l.length)(hl:l.length<=100000000)(hT:(List.take o l).length=o)(xe:Ext)(hN:List.length ((List.take o l))<=1000000000)(AF:(Oz l o ((List.take o l)) 0)=(QT.e1)):(Ob.loop 178 (Am f7 1) (kG m l o xe 0) (eD m l o xe  (QT.e1)).1 (eD m l o xe  (QT.e1)).2).ok prog:=
 rz (A6k m l o ho hl hT xe hN) AF
theorem VM(l:List BA)(hn:l.Nodup)(o:Nat)(ho:o<l.length):∀ (r:List BA) (i:Nat),i+r.length<=o->Oz l o r i = .e1
 | [],_,_=>rfl
 | x::r,i,h=>by
  simp only [List.length_cons] at h
  rw [Oz,iN (fun e=>?_)]
  ·exact VM l hn o ho r (i+1) oM
  ·have h1:i<l.length:=by omega
   rw [show l.getD o AI=l[o] by simp [List.getD,ho],show l.getD i AI=l[i] by simp [List.getD,h1]] at e
   exact absurd ((List.getElem_inj hn).1 e) oM
theorem U9{l:List BA}{i:Nat}(h:i<l.length):(List.take i l).length=i:=by rw [List.length_take]; omega
theorem d1G(m:Mo)(l:List BA)(o:Nat)(ho:o<l.length)(hl:l.length<=100000000)(Of:l.Nodup)(xe:Ext):(Ob.loop 178 (Am f7 1) (kG m l o xe 0) (.exit 2) ⟨[(1,.lp 1 0),(3,.v (.sl 1 (A1 l))),(4,.v (.int .i64 o))],[(1,E1 m)],xe⟩).ok prog:=
 A9x m l o ho hl (U9 ho) xe (by rw [U9 ho]; omega) (VM l Of o ho _ 0 (by rw [U9 ho]; omega))
theorem Ua(C:List BA)(k:Nat):∀ (l:List Cn) (n:Nat),n+l.length<=1000000000000000->Ls C k l n=((n+(l.map Bj).countP (fun s=>decide (s=C.getD k AI)):Nat):Int)
 | [],n,_=>by simp [Ls]
 | x::r,n,h=>by
  simp only [List.length_cons] at h
  have hw:IntKind.wrap .i64 ((n:Int)+1)=((n+1:Nat):Int):=by rw [P3 oM oM]; rfl
  rw [Ls,List.map_cons,List.countP_cons]
  by_cases e:Bj x=C.getD k AI
  ·rw [iP e,hw,Ua C k r (n+1) oM,iP (by simpa using e)]
   congr 1; omega
  ·rw [iN e,Ua C k r n oM,iN (by simpa using e)]
   congr 1
theorem A9y{m:Mo}(h:Sz m){i:Nat}(hi:i<(Aj m).length):(AS ((Aj m).getD i default)).length<=1000000000:=Nat.le_trans (h.hk _ (Bk hi)) dD
theorem A9z{m:Mo}(h:Sz m):(Aj m).length<=100000000:=Nat.le_trans h.K1 dD
theorem A6l{m:Mo}(h:Sz m):(AD m).length<=100000000:=Nat.le_trans h.hf dD
abbrev A6m(m:Mo)(C:List BA)(d:Nat)(k:Nat)(xe:Ext)(j:Int)(n:Int)  : S:=S.mk [(1,.lp 1 0),(6,A2 (d:Int)),(13,vL 1 (A1 C)),(14,A2 (k:Int)),(15,A2 n),(16,A2 j)] [(1,E1 m)] xe
def Jq(C:List BA)(k:Nat):List Da->(Int)->(Int)
 | [],n=>(n)
 | el::r,n=>Jq C k r (Ls C k (AS el) n)
def wM(m:Mo)(C:List BA)(d:Nat)(k:Nat)(xe:Ext)(p:(Int)):A7 × S:=(.exit 12,S.mk [(1,.lp 1 0),(6,A2 (d:Int)),(13,vL 1 (A1 C)),(14,A2 (k:Int)),(15,A2 p)] [(1,E1 m)] xe)
theorem d6(m:Mo)(C:List BA)(d k:Nat)(hk:k<C.length)(hC:C.length<=100000000)(hz:Sz m)(xe:Ext)(n:Int)(hN:(Aj m).length<=1000000000)  : (Ob.loop 178 (Am f7 6) (A6m m C d k xe 0 n) (wM m C d k xe  (Jq C k ((Aj m))  n)).1 (wM m C d k xe  (Jq C k ((Aj m))  n)).2).ok prog:=by
 refine Ek ((Aj m).length) (fun j n=>A6m m C d k xe j n) (fun i n=>Jq C k (List.drop i ((Aj m)))  n) (wM m C d k xe) (fun i n=>True) kR ?_ n trivial
 rintro i n hi -
 rcases Nat.lt_or_ge i ((Aj m).length) with Ad | Dm
 ·have hd:=AN Ad
  exact lN An [sl (Da.A0 (Aj m)),dt ((i:Int)<((Aj m).length:Int)),lp (S.mk [(1,.lp 1 0),(6,A2 (d:Int)),(13,vL 1 (A1 C)),(14,A2 (k:Int)),(15,A2 n),(16,A2 (i:Int)),(127,A2 (i:Int)),(128,.lp 1 0),(129,vL 4 (Da.cs (Aj m))),(130,A2 ((Aj m).length:Int)),(131,.v (.bool (decide ((i:Int)<((Aj m).length:Int))))),(17,A2 0)] [(1,E1 m)] xe) (@d7 (m) (C) (d) (k) (i) hk hC Ad (by (apply A9z <;> first | assumption | omega | decide)) (xe) (n) (by (apply A9y <;> first | assumption | omega | decide))) xr,wr ((i:Int)+1)] Ad (Ls C k (AS (List.getD (Aj m) i default)) n) trivial (by rw [hd,Jq])
 ·have he:i=(Aj m).length:=by omega
  exact lX An [sl (Da.A0 (Aj m)),df ((i:Int)<((Aj m).length:Int))] (n) (by rw [he,List.drop_length,Jq])
abbrev eE(m:Mo)(l:List BA)(xe:Ext)(j:Int)   : S:=S.mk [(1,.lp 1 0),(3,vL 1 (A1 l)),(4,A2 j)] [(1,E1 m)] xe
section
variable (m:Mo) (l:List BA) (hl:l.length<=100000000) (Of:l.Nodup) (xe:Ext) (i:Nat)
include m l hl Of xe i
theorem A6n(hi:i<l.length)(hN:l.length<=1000000000)(cx:Cx)(AH:cx.n=178){Q:A7->S->Prop}(hq:Q (.normal) (S.mk [(1,.lp 1 0),(3,vL 1 (A1 l)),(4,A2 ((i:Int)+1))] [(1,E1 m)] xe)):PW prog cx (Am f7 0) (eE m l xe (i:Int)) Q:=
 pw An 178 [sl (A3 l),dt ((i:Int)<(l.length:Int)),lp (S.mk [(1,.lp 1 0),(3,vL 1 (A1 l)),(4,A2 (i:Int)),(31,A2 (i:Int)),(32,vL 1 (A1 l)),(33,A2 (l.length:Int)),(34,.v (.bool (decide ((i:Int)<(l.length:Int))))),(5,A2 0)] [(1,E1 m)] xe) (@d1G (m) (l) (i) hi hl Of (xe)) xr,wr ((i:Int)+1)] [1,3,4] [1] AH hq
theorem A6o(hi:i=l.length)(hN:l.length<=1000000000)(cx:Cx)(AH:cx.n=178){Q:A7->S->Prop}(hq:Q (.exit 0) (S.mk [(1,.lp 1 0),(3,vL 1 (A1 l)),(4,A2 (i:Int))] [(1,E1 m)] xe)):PW prog cx (Am f7 0) (eE m l xe (i:Int)) Q:=
 pw An 178 [sl (A3 l),df ((i:Int)<(l.length:Int))] [1,3,4] [1] AH hq
end
def eF(m:Mo)(l:List BA)(xe:Ext)  : A7 × S:=(.exit 0,S.mk [(1,.lp 1 0),(3,vL 1 (A1 l))] [(1,E1 m)] xe)
theorem A6p(m:Mo)(l:List BA)(hl:l.length<=100000000)(Of:l.Nodup)(xe:Ext)(hN:l.length<=1000000000)(i:Nat)(m5:i<=l.length)  : (Ob.loop 178 (Am f7 0) (eE m l xe (i:Int)) (eF m l xe).1 (eF m l xe).2).ok prog:=by
 refine Ob.G9 (P:=prog) (α:={ zz:Nat × Unit // zz.1<=l.length }) (fun zz=>eE m l xe (zz.1.1:Int)) (fun zz=>l.length - zz.1.1) (fun zz=>(eF m l xe)) ?_ ⟨(i,()),m5⟩
 clear m5
 clear  i
 rintro ⟨⟨i,u⟩,hi⟩ cx AH
 simp only at hi  ⊢
 rcases Nat.lt_or_ge i (l.length) with Ad | Dm
 ·have hd:=D9 Ad
  exact A6n m l hl Of xe i   Ad hN   cx AH (.inl ⟨rfl,⟨((i+1),()),by simp only; omega⟩,by simp only; omega,xr,by trivial⟩)
 ·have he:i=l.length:=by omega
  subst he
  refine A6o m l hl Of xe (l.length)   rfl hN   cx AH (.inr ?_)
  exact ⟨by simp,rfl,xr⟩
theorem d0(m:Mo)(l:List BA)(hl:l.length<=100000000)(Of:l.Nodup)(xe:Ext)(hN:l.length<=1000000000)  : (Ob.loop 178 (Am f7 0) (eE m l xe 0) (eF m l xe).1 (eF m l xe).2).ok prog:=by
 have:=A6p m l hl Of xe  hN 0  (Nat.zero_le _)
 exact this
abbrev kH(m:Mo)(C:List BA)(d:Nat)(xe:Ext)(j:Int)   : S:=S.mk [(1,.lp 1 0),(6,A2 (d:Int)),(13,vL 1 (A1 C)),(14,A2 j)] [(1,E1 m)] xe
inductive QU where
 | e0
 | e1
def OA(m:Mo)(C:List BA):List BA->Nat->QU
 | [],i=>(QU.e1)
 | el::r,i=>(if (Jq C i (Aj m) 0 != 1 || !Prod.snd (Fq m el))=true then (QU.e0) else OA m C r (i+1))
def eG(m:Mo)(C:List BA)(d:Nat)(xe:Ext)  : QU->A7 × S
 | .e0=>(.ret,S.mk [(1,.lp 1 0),(6,A2 (d:Int)),(13,vL 1 (A1 C))] [(1,E1 m)] xe)
 | .e1=>(.exit 10,S.mk [(1,.lp 1 0),(6,A2 (d:Int)),(13,vL 1 (A1 C))] [(1,E1 m)] xe)
theorem A6q(m:Mo)(C:List BA)(d:Nat)(hC:C.length<=100000000)(hz:Sz m)(hDN:(Aj m).length<=1000000000)(xe:Ext)(hN:C.length<=1000000000):(Ob.loop 178 (Am f7 5) (kH m C d xe 0) (eG m C d xe  (OA m C (List.drop 0 (C)) 0)).1 (eG m C d xe  (OA m C (List.drop 0 (C)) 0)).2).ok prog:=by
 refine Ek C.length (fun j _=>kH m C d xe j) (fun i _=>OA m C (List.drop i (C)) i) (eG m C d xe) (fun i _=>True) kR ?_ () trivial
 rintro i u hi -
 rcases Nat.lt_or_ge i (C.length) with Ad | Dm
 ·have hd:=D9 Ad
  by_cases h0:(Jq C i (Aj m) 0 != 1 || !Prod.snd (Fq m (List.getD C i AI)))=true
  ·exact lX An [sl (A3 C),dt ((i:Int)<(C.length:Int)),lp (S.mk [(1,.lp 1 0),(6,A2 (d:Int)),(13,vL 1 (A1 C)),(14,A2 (i:Int)),(121,A2 (i:Int)),(122,vL 1 (A1 C)),(123,A2 (C.length:Int)),(124,.v (.bool (decide ((i:Int)<(C.length:Int))))),(15,A2 0),(16,A2 0)] [(1,E1 m)] xe) (@d6 (m) (C) (d) (i) Ad hC hz (xe) (0) hDN) xr,am ((0:Int)<=(i:Int)/\(i:Int)<((A1 C).length:Int)) (by (simp only [A3]; omega)),ar (List.getD (A1 C) (Int.toNat (i:Int)) []) [.str (List.getD C i AI)] (by simp only [Int.toNat_natCast,Int.toNat_zero]; rw [@BN (C) (i) Ad]; try rfl),cl (@arZ (m) (List.getD C i AI) hz),mg,av (.v (.bool (bif Jq C i (Aj m) 0 != 1 then true else !Prod.snd (Fq m (List.getD C i AI))))) (.v (.bool (Jq C i (Aj m) 0 != 1 || !Prod.snd (Fq m (List.getD C i AI))))) rF,B7 h0] (QU.e0) (by rw [hd,OA,iP h0])
  ·exact lN An [sl (A3 C),dt ((i:Int)<(C.length:Int)),lp (S.mk [(1,.lp 1 0),(6,A2 (d:Int)),(13,vL 1 (A1 C)),(14,A2 (i:Int)),(121,A2 (i:Int)),(122,vL 1 (A1 C)),(123,A2 (C.length:Int)),(124,.v (.bool (decide ((i:Int)<(C.length:Int))))),(15,A2 0),(16,A2 0)] [(1,E1 m)] xe) (@d6 (m) (C) (d) (i) Ad hC hz (xe) (0) hDN) xr,am ((0:Int)<=(i:Int)/\(i:Int)<((A1 C).length:Int)) (by (simp only [A3]; omega)),ar (List.getD (A1 C) (Int.toNat (i:Int)) []) [.str (List.getD C i AI)] (by simp only [Int.toNat_natCast,Int.toNat_zero]; rw [@BN (C) (i) Ad]; try rfl),cl (@arZ (m) (List.getD C i AI) hz),mg,av (.v (.bool (bif Jq C i (Aj m) 0 != 1 then true else !Prod.snd (Fq m (List.getD C i AI))))) (.v (.bool (Jq C i (Aj m) 0 != 1 || !Prod.snd (Fq m (List.getD C i AI))))) rF,B1 (DC h0),wr ((i:Int)+1)] Ad () trivial (by rw [hd,OA,iN h0])
 ·have he:i=C.length:=by omega
  exact lX An [sl (A3 C),df ((i:Int)<(C.length:Int))] (QU.e1) (by rw [he,List.drop_length,OA])
theorem Aa0(m:Mo)(C:List BA)(d:Nat)(hC:C.length<=100000000)(hz:Sz m)(hDN:(Aj m).length<=1000000000)(xe:Ext)(hN:C.length<=1000000000)(AF:(OA m C (C) 0)=(QU.e1)):(Ob.loop 178 (Am f7 5) (kH m C d xe 0) (eG m C d xe  (QU.e1)).1 (eG m C d xe  (QU.e1)).2).ok prog:=
 rz (A6q m C d hC hz hDN xe hN) AF
abbrev kI(m:Mo)(G:List BA)(d:Nat)(xe:Ext)(j:Int)   : S:=S.mk [(1,.lp 1 0),(6,A2 (d:Int)),(7,vL 1 (A1 G)),(8,A2 j)] [(1,E1 m)] xe
inductive QV where
 | e0
 | e1
def OB(m:Mo)(G:List BA)(d:Nat):List BA->Nat->QV
 | [],i=>(QV.e1)
 | el::r,i=>(if (!Jp G i (BD (List.getD (AD m) d default)) false && !Prod.snd (Fb m el))=true then (QV.e0) else OB m G d r (i+1))
def eH(m:Mo)(G:List BA)(d:Nat)(xe:Ext)  : QV->A7 × S
 | .e0=>(.ret,S.mk [(1,.lp 1 0),(6,A2 (d:Int)),(7,vL 1 (A1 G))] [(1,E1 m)] xe)
 | .e1=>(.exit 6,S.mk [(1,.lp 1 0),(6,A2 (d:Int)),(7,vL 1 (A1 G))] [(1,E1 m)] xe)
theorem A6r(m:Mo)(G:List BA)(d:Nat)(hG:G.length<=100000000)(Eh:d<(AD m).length)(hz:Sz m)(hPl:List.length (BD ((AD m).getD d default))<=1000000000)(xe:Ext)(hN:G.length<=1000000000):(Ob.loop 178 (Am f7 3) (kI m G d xe 0) (eH m G d xe  (OB m G d (List.drop 0 (G)) 0)).1 (eH m G d xe  (OB m G d (List.drop 0 (G)) 0)).2).ok prog:=by
 refine Ek G.length (fun j _=>kI m G d xe j) (fun i _=>OB m G d (List.drop i (G)) i) (eH m G d xe) (fun i _=>True) kR ?_ () trivial
 rintro i u hi -
 rcases Nat.lt_or_ge i (G.length) with Ad | Dm
 ·have hd:=D9 Ad
  by_cases h0:(!Jp G i (BD (List.getD (AD m) d default)) false && !Prod.snd (Fb m (List.getD G i AI)))=true
  ·exact lX An [sl (A3 G),dt ((i:Int)<(G.length:Int)),lp (S.mk [(1,.lp 1 0),(6,A2 (d:Int)),(7,vL 1 (A1 G)),(8,A2 (i:Int)),(65,A2 (i:Int)),(66,vL 1 (A1 G)),(67,A2 (G.length:Int)),(68,.v (.bool (decide ((i:Int)<(G.length:Int))))),(9,.v (.bool false)),(10,A2 0)] [(1,E1 m)] xe) (@d4 (m) (G) (d) (i) Ad hG Eh (by (apply A6l <;> first | assumption | omega | decide)) (xe) (false) hPl) xr,am ((0:Int)<=(i:Int)/\(i:Int)<((A1 G).length:Int)) (by (simp only [A3]; omega)),ar (List.getD (A1 G) (Int.toNat (i:Int)) []) [.str (List.getD G i AI)] (by simp only [Int.toNat_natCast,Int.toNat_zero]; rw [@BN (G) (i) Ad]; try rfl),cl (@spZ (m) (List.getD G i AI) hz),mg,av (.v (.bool (bif !Jp G i (BD (List.getD (AD m) d default)) false then !Prod.snd (Fb m (List.getD G i AI)) else false))) (.v (.bool (!Jp G i (BD (List.getD (AD m) d default)) false && !Prod.snd (Fb m (List.getD G i AI))))) (by (simp only [Bool.cond_false_right]; done)),B7 h0] (QV.e0) (by rw [hd,OB,iP h0])
  ·exact lN An [sl (A3 G),dt ((i:Int)<(G.length:Int)),lp (S.mk [(1,.lp 1 0),(6,A2 (d:Int)),(7,vL 1 (A1 G)),(8,A2 (i:Int)),(65,A2 (i:Int)),(66,vL 1 (A1 G)),(67,A2 (G.length:Int)),(68,.v (.bool (decide ((i:Int)<(G.length:Int))))),(9,.v (.bool false)),(10,A2 0)] [(1,E1 m)] xe) (@d4 (m) (G) (d) (i) Ad hG Eh (by (apply A6l <;> first | assumption | omega | decide)) (xe) (false) hPl) xr,am ((0:Int)<=(i:Int)/\(i:Int)<((A1 G).length:Int)) (by (simp only [A3]; omega)),ar (List.getD (A1 G) (Int.toNat (i:Int)) []) [.str (List.getD G i AI)] (by simp only [Int.toNat_natCast,Int.toNat_zero]; rw [@BN (G) (i) Ad]; try rfl),cl (@spZ (m) (List.getD G i AI) hz),mg,av (.v (.bool (bif !Jp G i (BD (List.getD (AD m) d default)) false then !Prod.snd (Fb m (List.getD G i AI)) else false))) (.v (.bool (!Jp G i (BD (List.getD (AD m) d default)) false && !Prod.snd (Fb m (List.getD G i AI))))) (by (simp only [Bool.cond_false_right]; done)),B1 (DC h0),wr ((i:Int)+1)] Ad () trivial (by rw [hd,OB,iN h0])
 ·have he:i=G.length:=by omega
  exact lX An [sl (A3 G),df ((i:Int)<(G.length:Int))] (QV.e1) (by rw [he,List.drop_length,OB])
theorem Aa1(m:Mo)(G:List BA)(d:Nat)(hG:G.length<=100000000)(Eh:d<(AD m).length)(hz:Sz m)(hPl:List.length (BD ((AD m).getD d default))<=1000000000)(xe:Ext)(hN:G.length<=1000000000)(AF:(OB m G d (G) 0)=(QV.e1)):(Ob.loop 178 (Am f7 3) (kI m G d xe 0) (eH m G d xe  (QV.e1)).1 (eH m G d xe  (QV.e1)).2).ok prog:=
 rz (A6r m G d hG Eh hz hPl xe hN) AF
theorem VN{t:BA}:∀ {l:List BA},l.Nodup->t∈l->l.countP (fun s=>decide (s=t))=1
 | [],_,h=>absurd h sM
 | x::r,hn,h=>by
  rw [List.nodup_cons] at hn
  rw [List.countP_cons]
  by_cases e:x=t
  ·rw [iP (by simpa using e),List.countP_eq_zero.2 (fun a ha=>by
    intro c
    have c2:a=t:=by simpa using c
    exact hn.1 (by rw [e,<-c2]; exact ha))]
  ·rw [iN (by simpa using e)]
   exact VN hn.2 ((List.mem_cons.1 h).resolve_left fun c=>e c.symm)
theorem eN(C:List BA)(k:Nat):∀ (l:List Da) (n:Nat),n+(l.flatMap fun y=>(AS y).map Bj).length<=1000000000000000->Jq C k l n=((n+(l.flatMap fun y=>(AS y).map Bj).countP (fun s=>decide (s=C.getD k AI)):Nat):Int)
 | [],n,_=>by simp [Jq]
 | y::r,n,h=>by
  rw [List.flatMap_cons,List.length_append,List.length_map] at h
  have h3:((AS y).map Bj).countP (fun s=>decide (s=C.getD k AI))<=(AS y).length:=by
   have:=List.countP_le_length (p:=fun s=>decide (s=C.getD k AI)) (l:=(AS y).map Bj)
   rwa [List.length_map] at this
  rw [Jq,Ua C k (AS y) n oM,eN C k r _ oM,List.flatMap_cons,List.countP_append]
  congr 1; omega
theorem X4(m:Mo):(PC m).length<=A5 (DJ m):=by
 have h:=I2 m
 have:∀l:List Da,(l.flatMap fun y=>(AS y).map Bj).length<=Af (Da.cs l):=by
  intro l
  induction l with
  | nil=>exact Nat.zero_le _
  | cons y r ih=>
   have h1:=KR y
   have h2:=Cn.BF (AS y)
   have h3:Af (Da.cs (y::r))=A5 (EO y)+Af (Da.cs r):=by rw [Da.Ay,Da.Ay]; rfl
   rw [List.flatMap_cons,List.length_append,List.length_map]; omega
 have:=this (Aj m)
 unfold PC; omega
theorem X7{m:Mo}(hD:(xD m).1=0)(hs:A5 (DJ m)<=1048576){C:List BA}{k:Nat}(h:(Fq m (C.getD k AI)).2=true):Jq C k (Aj m) 0=1:=by
 have h1:=X4 m
 have h2:=eN C k (Aj m) 0 (by unfold PC at h1; omega)
 have h3:=VN (U8 hD) (wI h)
 unfold PC at h3
 rw [h3] at h2
 exact h2
theorem VO{m:Mo}(hD:(xD m).1=0)(hs:A5 (DJ m)<=1048576)(C:List BA)(ha:∀t∈C,(Fq m t).2=true):∀ (r:List BA) (i:Nat),C.drop i=r->OA m C r i = .e1
 | [],_,_=>rfl
 | x::r,i,h=>by
  have hi:i<C.length:=by
   have:=congrArg List.length h
   rw [List.length_drop,List.length_cons] at this; omega
  have e:=D9 hi
  rw [h] at e
  obtain ⟨e1,e2⟩:=List.cons.inj e
  have hm:x∈C:=List.mem_of_mem_drop (by rw [h]; exact List.mem_cons_self ..)
  have h1:=ha x hm
  have h2:=X7 hD hs (C:=C) (k:=i) (by rw [<-e1]; exact h1)
  rw [OA,iN (by rw [h1,h2]; decide)]
  exact VO hD hs C ha r (i+1) e2.symm
theorem QW(G:List BA)(k:Nat):∀ (l:List BA) (z:Bool),z=true∨G.getD k AI∈l->Jp G k l z=true
 | [],z,h=>h.resolve_right sM
 | x::r,z,h=>by
  rw [Jp]
  by_cases hz:z=true
  ·rw [iP hz]; exact QW G k r true (.inl rfl)
  ·rw [iN hz]
   refine QW G k r _ ?_
   rcases List.mem_cons.1 (h.resolve_left hz) with e | e
   ·exact .inl (by rw [e]; simp)
   ·exact .inr e
theorem VP{m:Mo}(G:List BA)(d:Nat)(ha:∀t∈G,t∈BD ((AD m).getD d default)∨(Fb m t).2=true):∀ (r:List BA) (i:Nat),G.drop i=r->OB m G d r i = .e1
 | [],_,_=>rfl
 | x::r,i,h=>by
  have hi:i<G.length:=by
   have:=congrArg List.length h
   rw [List.length_drop,List.length_cons] at this; omega
  have e:=D9 hi
  rw [h] at e
  obtain ⟨e1,e2⟩:=List.cons.inj e
  have hm:x∈G:=List.mem_of_mem_drop (by rw [h]; exact List.mem_cons_self ..)
  rw [OB,iN (by
   rcases ha x hm with h1 | h1
   ·rw [QW G i _ false (.inr (by rw [<-e1]; exact h1))]; simp
   ·rw [h1]; simp)]
  exact VP G d ha r (i+1) e2.symm
theorem O2{m:Mo}(hs:A5 (DJ m)<=1048576){d:Nat}(h:d<(AD m).length):A5 (AT (DQ ((AD m).getD d default)))<=1048576/\List.length (BD ((AD m).getD d default))<=1048576:=by
 have h1:=Df.mem (Bk h)
 have h2:=I2 m
 have h3:=HI ((AD m).getD d default)
 have h4:=Dc (BD ((AD m).getD d default))
 omega
theorem p7{m:Mo}(hs:A5 (DJ m)<=1048576){d:Nat}(h:d<(AD m).length):A5 (AT (DQ ((AD m).getD d default)))<=100000000:=Nat.le_trans (O2 hs h).1 dD
theorem X8(x:Ex):(JF x).length<=A5 (AT x):=by
 have h1:=QK (Iw (A5 (AT x)+1) x []) []
 have h2:=KI (A5 (AT x)+1) x []
 unfold JF
 simp only [List.length_nil] at h1
 omega
theorem X9(x:Ex):(KK x).length<=A5 (AT x):=by
 have h1:=QK (Ox (A5 (AT x)+1) x) []
 have h2:=KJ (A5 (AT x)+1) x
 unfold KK
 simp only [List.length_nil] at h1
 omega
abbrev okF(m:Mo):Prop:=∀y∈AD m,Xq m y []=0
theorem d3G(m:Mo)(d:Nat)(Eh:d<(AD m).length)(hz:Sz m)(hs:A5 (DJ m)<=1048576)(hF:okF m)(xe:Ext):(Ob.loop 178 (Am f7 3) (kI m (JF (DQ ((AD m).getD d default))) d xe 0) (.exit 6) ⟨[(1,.lp 1 0),(6,.v (.int .i64 d)),(7,.v (.sl 1 (A1 (JF (DQ ((AD m).getD d default))))))],[(1,E1 m)],xe⟩).ok prog:=by
 have h1:=O2 hs Eh
 have h2:=X8 (DQ ((AD m).getD d default))
 exact Aa1 m _ d oM Eh hz oM xe oM (VP _ d (VL (hF _ (Bk Eh))).1 _ 0 rfl)
theorem d5G(m:Mo)(d:Nat)(Eh:d<(AD m).length)(hz:Sz m)(hs:A5 (DJ m)<=1048576)(hF:okF m)(hD:(xD m).1=0)(xe:Ext):(Ob.loop 178 (Am f7 5) (kH m (KK (DQ ((AD m).getD d default))) d xe 0) (.exit 10) ⟨[(1,.lp 1 0),(6,.v (.int .i64 d)),(13,.v (.sl 1 (A1 (KK (DQ ((AD m).getD d default))))))],[(1,E1 m)],xe⟩).ok prog:=by
 have h1:=O2 hs Eh
 have h2:=X9 (DQ ((AD m).getD d default))
 exact Aa0 m _ d oM hz (Nat.le_trans hz.K1 dD) xe oM (VO hD hs _ (VL (hF _ (Bk Eh))).2 _ 0 rfl)
abbrev SO(m:Mo)(xe:Ext)(j:Int)   : S:=S.mk [(1,.lp 1 0),(6,A2 j)] [(1,E1 m)] xe
section
variable (m:Mo) (hz:Sz m) (hs:A5 (DJ m)<=1048576) (hF:okF m) (hD:(xD m).1=0) (xe:Ext) (i:Nat)
include m hz hs hF hD xe i
theorem wN(hi:i<(AD m).length)(hN:(AD m).length<=1000000000)(cx:Cx)(AH:cx.n=178){Q:A7->S->Prop}(hq:Q (.normal) (S.mk [(1,.lp 1 0),(6,A2 ((i:Int)+1))] [(1,E1 m)] xe)):PW prog cx (Am f7 2) (SO m xe (i:Int)) Q:=
 pw An 178 [sl (Df.A0 (AD m)),dt ((i:Int)<((AD m).length:Int)),am ((0:Int)<=(i:Int)/\(i:Int)<((Df.cs (AD m)).length:Int)) (by (simp only [Df.A0]; omega)),ar (List.getD (Df.cs (AD m)) (Int.toNat (i:Int)) []) (CZ (List.getD (AD m) i default)) (by simp only [Int.toNat_natCast,Int.toNat_zero]; rw [@Df.B0 (AD m) (i) hi]; try rfl),cl (@A48 (DQ (List.getD (AD m) i default)) (by (apply p7 <;> first | assumption | omega | decide))),lp (S.mk [(1,.lp 1 0),(6,A2 (i:Int)),(51,A2 (i:Int)),(52,.lp 1 5),(53,vL 25 (Df.cs (AD m))),(54,A2 ((AD m).length:Int)),(55,.v (.bool (decide ((i:Int)<((AD m).length:Int))))),(58,.lp 1 5),(59,vL 25 (Df.cs (AD m))),(60,A2 (i:Int)),(61,.v (.ro (CZ (List.getD (AD m) i default)) 0)),(62,.v (.ro (CZ (List.getD (AD m) i default)) 2)),(63,.v (.agg (AT (DQ (List.getD (AD m) i default))))),(64,vL 1 (A1 (JF (DQ (List.getD (AD m) i default))))),(7,vL 1 (A1 (JF (DQ (List.getD (AD m) i default))))),(8,A2 0)] [(1,E1 m)] xe) (@d3G (m) (i) hi hz hs hF (xe)) xr,am ((0:Int)<=(i:Int)/\(i:Int)<((Df.cs (AD m)).length:Int)) (by (simp only [Df.A0]; omega)),ar (List.getD (Df.cs (AD m)) (Int.toNat (i:Int)) []) (CZ (List.getD (AD m) i default)) (by simp only [Int.toNat_natCast,Int.toNat_zero]; rw [@Df.B0 (AD m) (i) hi]; try rfl),cl (@A49 (DQ (List.getD (AD m) i default)) (by (apply p7 <;> first | assumption | omega | decide))),lp (S.mk [(1,.lp 1 0),(6,A2 (i:Int)),(7,vL 1 (A1 (JF (DQ (List.getD (AD m) i default))))),(114,.lp 1 5),(115,vL 25 (Df.cs (AD m))),(116,A2 (i:Int)),(117,.v (.ro (CZ (List.getD (AD m) i default)) 0)),(118,.v (.ro (CZ (List.getD (AD m) i default)) 2)),(119,.v (.agg (AT (DQ (List.getD (AD m) i default))))),(120,vL 1 (A1 (KK (DQ (List.getD (AD m) i default))))),(13,vL 1 (A1 (KK (DQ (List.getD (AD m) i default))))),(14,A2 0)] [(1,E1 m)] xe) (@d5G (m) (i) hi hz hs hF hD (xe)) xr,wr ((i:Int)+1)] [1,6] [1] AH hq
theorem wO(hi:i=(AD m).length)(hN:(AD m).length<=1000000000)(cx:Cx)(AH:cx.n=178){Q:A7->S->Prop}(hq:Q (.exit 4) (S.mk [(1,.lp 1 0),(6,A2 (i:Int))] [(1,E1 m)] xe)):PW prog cx (Am f7 2) (SO m xe (i:Int)) Q:=
 pw An 178 [sl (Df.A0 (AD m)),df ((i:Int)<((AD m).length:Int))] [1,6] [1] AH hq
end
def SP(m:Mo)(xe:Ext)  : A7 × S:=(.exit 4,S.mk [(1,.lp 1 0)] [(1,E1 m)] xe)
theorem wP(m:Mo)(hz:Sz m)(hs:A5 (DJ m)<=1048576)(hF:okF m)(hD:(xD m).1=0)(xe:Ext)(hN:(AD m).length<=1000000000)(i:Nat)(m5:i<=(AD m).length)  : (Ob.loop 178 (Am f7 2) (SO m xe (i:Int)) (SP m xe).1 (SP m xe).2).ok prog:=by
 refine Ob.G9 (P:=prog) (α:={ zz:Nat × Unit // zz.1<=(AD m).length }) (fun zz=>SO m xe (zz.1.1:Int)) (fun zz=>(AD m).length - zz.1.1) (fun zz=>(SP m xe)) ?_ ⟨(i,()),m5⟩
 clear m5
 clear  i
 rintro ⟨⟨i,u⟩,hi⟩ cx AH
 simp only at hi  ⊢
 rcases Nat.lt_or_ge i ((AD m).length) with Ad | Dm
 ·have hd:=AN Ad
  exact wN m hz hs hF hD xe i   Ad hN   cx AH (.inl ⟨rfl,⟨((i+1),()),by simp only; omega⟩,by simp only; omega,xr,by trivial⟩)
 ·have he:i=(AD m).length:=by omega
  subst he
  refine wO m hz hs hF hD xe ((AD m).length)   rfl hN   cx AH (.inr ?_)
  exact ⟨by simp,rfl,xr⟩
theorem dl2(m:Mo)(hz:Sz m)(hs:A5 (DJ m)<=1048576)(hF:okF m)(hD:(xD m).1=0)(xe:Ext)(hN:(AD m).length<=1000000000)  : (Ob.loop 178 (Am f7 2) (SO m xe 0) (SP m xe).1 (SP m xe).2).ok prog:=by
 have:=wP m hz hs hF hD xe  hN 0  (Nat.zero_le _)
 exact this
theorem wQ(m:Mo)(hz:Sz m):Pu 18 [.agg (DJ m)] (.ret (.sl 1 (A1 (FU m)))):=Ob.Ge (iS m hz.hc hz.hm hz.hf)
section
variable (m:Mo) (haw:Pu 9 [] (.ret (.bool true)))
include m haw
theorem dcA(hb:Pu 8 [.agg (DJ m)] (.ret (.bool false))):Pu 7 [.agg (DJ m)] (rB true):=
 pm An [cl hb,rp 5 (bt true),cl haw] func7
theorem dcB(hb:Pu 8 [.agg (DJ m)] (.ret (.bool true)))(r:Int)(hc:Pu 10 [.agg (DJ m)] (.ret (.int .i64 r)))(hr:¬r=0):Pu 7 [.agg (DJ m)] (rB true):=
 pm An [cl hb,rp 2 (bf false),cl hc,rp 2 (bf false),nt r 0 hr,cl haw] func7
theorem dcC(hb:Pu 8 [.agg (DJ m)] (.ret (.bool true)))(hc:Pu 10 [.agg (DJ m)] (.ret (.int .i64 0)))(hz:Sz m)(hs:A5 (DJ m)<=1048576)(hF:okF m)(hD:(xD m).1=0)(hl:(FU m).length<=100000000)(Of:(FU m).Nodup)(hN:(AD m).length<=1000000000):Pu 7 [.agg (DJ m)] (rB true):=
 pu An (fun e=>[cl hb,rp 2 (bf false),cl hc,rp 3 (bf false),cl (@wQ (m) hz),lp (S.mk [(0,.v (.agg (DJ m))),(1,.lp 1 0),(2,.v (.bool false)),(20,.v (.agg (DJ m))),(21,.v (.bool true)),(22,.v (.bool false)),(23,.v (.bool false)),(24,.v (.agg (DJ m))),(25,A2 0),(26,.v (.bool false)),(27,.v (.bool false)),(29,.v (.agg (DJ m))),(30,vL 1 (A1 (FU m))),(3,vL 1 (A1 (FU m))),(4,A2 0)] [(1,E1 m)] e) (@d0 (m) (FU m) hl Of (e) oM) xr,lp (S.mk [(1,.lp 1 0),(3,vL 1 (A1 (FU m))),(6,A2 0)] [(1,E1 m)] e) (@dl2 (m) hz hs hF hD (e) hN) xr,cl haw]) func7
end
theorem Ub(m:Mo):(Qv m).length<=Af (Cl.cs (AA m)):=by
 have:∀l:List Cl,(l.flatMap fun c=>(B9 c).map BR).length<=Af (Cl.cs l):=by
  intro l
  induction l with
  | nil=>exact Nat.zero_le _
  | cons y r ih=>
   have h1:=Jh y
   have h2:=Pm.BF (B9 y)
   have h3:Af (Cl.cs (y::r))=A5 (Lm y)+Af (Cl.cs r):=by rw [Cl.Ay,Cl.Ay]; rfl
   rw [List.flatMap_cons,List.length_append,List.length_map]; omega
 exact this (AA m)
theorem OC(m:Mo)(hs:A5 (DJ m)<=1048576):Pu 7 [.agg (DJ m)] (.ret (.bool true)):=by
 obtain ⟨b,hb⟩:=dS m hs
 cases b with
 | false=>exact dcA m NV hb
 | true=>
  have hz:=A6g m hs
  have hc:=A9v m hz oM
  by_cases h:w8 EM m=0
  ·rw [h] at hc
   have h0:=(SH EM m).1 h
   have hF:okF m:=fun y hy=>(((VJ EM m).1 h0.2.2.2.2.2.2).1 y hy).2
   have hl:(FU m).length<=100000000:=by
    have h1:=Ub m
    have h2:=I2 m
    have h3:=Df.BF (AD m)
    unfold FU
    rw [List.length_append,List.length_map]; omega
   exact dcC m NV hb hc hz hs hF h0.2.1 hl (SN h) (Nat.le_trans hz.hf dD)
  ·exact dcB m NV hb _ hc h
end Go.Proofs.YtmllcplaohkjnaaGreatDoor
