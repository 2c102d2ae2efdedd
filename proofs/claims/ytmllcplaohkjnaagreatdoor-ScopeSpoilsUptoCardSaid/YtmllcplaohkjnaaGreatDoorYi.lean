/- Values of Go as plain data, an evaluator over them, and what the functions of the program return; part Yi. -/
import Derived.Test.YtmllcplaohkjnaaGreatDoorYd
import Derived.Test.YtmllcplaohkjnaaGreatDoorXe
import Derived.Test.YtmllcplaohkjnaaGreatDoorYh
import Derived.Test.YtmllcplaohkjnaaGreatDoorYc
import Derived.Test.YtmllcplaohkjnaaGreatDoorProg
import Derived.KernelRfl
import Derived.Test.YtmllcplaohkjnaaGreatDoorYa
set_option linter.unusedSectionVars false
set_option linter.unusedSimpArgs false
set_option linter.unusedVariables false
namespace Go.Proofs.YtmllcplaohkjnaaGreatDoor
open Go.Proofs.Tryz
open Go.Pv Go.Proofs.Tryz
theorem memB_iff(s:BA):∀ks,memB s ks=true↔s∈ks
 | []=>by simp [memB]
 | k::r=>by
  simp only [memB,Bool.or_eq_true,decide_eq_true_eq,List.mem_cons,memB_iff s r]
  exact ⟨Or.imp Eq.symm id,Or.imp Eq.symm id⟩
theorem adN_mem(s t:BA):∀ks,t∈adN s ks↔t=s∨t∈ks
 | []=>by simp [adN]
 | k::r=>by
  unfold adN
  by_cases h:k=s
  ·rw [iP h]; subst h; simp
  ·rw [iN h,List.mem_cons,adN_mem s t r,List.mem_cons]
   constructor
   ·rintro (h1 | h1 | h1)
    ·exact .inr (.inl h1)
    ·exact .inl h1
    ·exact .inr (.inr h1)
   ·rintro (h1 | h1 | h1)
    ·exact .inr (.inl h1)
    ·exact .inl h1
    ·exact .inr (.inr h1)
theorem adK_mem(s t:BA)(ks:List BA):t∈adK s ks↔t=s∨t∈ks:=by
 unfold adK
 by_cases h:memB s ks=true
 ·rw [iP h]
  constructor
  ·exact .inr
  ·rintro (rfl | h1)
   ·exact (memB_iff _ _).1 h
   ·exact h1
 ·rw [iN h]; exact adN_mem s t ks
theorem twE_zero(s:BA)(ks:List BA):twE s ks=0↔¬s∈ks:=by
 unfold twE
 by_cases h:memB s ks=true
 ·rw [iP h]; exact ⟨fun h'=>absurd h' dD,fun h'=>absurd ((memB_iff _ _).1 h) h'⟩
 ·rw [iN h]; exact ⟨fun _ h'=>h ((memB_iff _ _).2 h'),fun _=>rfl⟩
theorem frE_zero{α:Type}(f:α->Int):∀l:List α,frE f l=0↔∀x∈l,f x=0
 | []=>by simp [frE]
 | x::r=>by
  unfold frE
  by_cases h:f x=0
  ·rw [iP h,frE_zero f r]; simp [h]
  ·rw [iN h]; simp [h]
theorem frS_zero{α:Type}(nm:α->BA)(pr:St->List BA)(ge:α->St->Int)(gs:α->St->St)(ok:α->Prop)
  (h0:∀x st,ge x st=0↔ok x/\¬nm x∈pr st) (h1:∀x st t,ge x st=0->(t∈pr (gs x st)↔t=nm x∨t∈pr st)) :
  ∀ (l:List α) (st:St),(frS ge gs l st).1=0↔(∀x∈l,ok x)/\(l.map nm).Nodup/\∀x∈l,¬nm x∈pr st
 | [],st=>by simp [frS]
 | x::r,st=>by
  unfold frS
  by_cases h:ge x st=0
  ·rw [iP h,frS_zero nm pr ge gs ok h0 h1 r (gs x st)]
   have hx:=(h0 x st).1 h
   constructor
   ·rintro ⟨a,b,c⟩
    refine ⟨fun y hy=>?_,?_,fun y hy=>?_⟩
    ·rcases List.mem_cons.1 hy with rfl | hy
     ·exact hx.1
     ·exact a y hy
    ·rw [List.map_cons,List.nodup_cons]
     refine ⟨fun hm=>?_,b⟩
     obtain ⟨y,hy,e⟩:=List.mem_map.1 hm
     exact c y hy ((h1 x st _ h).2 (.inl e))
    ·rcases List.mem_cons.1 hy with rfl | hy
     ·exact hx.2
     ·exact fun hm=>c y hy ((h1 x st _ h).2 (.inr hm))
   ·rintro ⟨a,b,c⟩
    rw [List.map_cons,List.nodup_cons] at b
    refine ⟨fun y hy=>a y (List.mem_cons_of_mem _ hy),b.2,fun y hy hm=>?_⟩
    rcases (h1 x st _ h).1 hm with e | hm
    ·exact b.1 (e ▸ List.mem_map.2 ⟨y,hy,rfl⟩)
    ·exact c y (List.mem_cons_of_mem _ hy) hm
  ·rw [iN h]
   refine ⟨fun h'=>absurd h' h,fun h'=>absurd ((h0 x st).2 ⟨h'.1 x (List.mem_cons_self ..),h'.2.2 x (List.mem_cons_self ..)⟩) h⟩
theorem frS_mem{α:Type}(nm:α->BA)(pr:St->List BA)(ge:α->St->Int)(gs:α->St->St)
  (h1:∀x st t,ge x st=0->(t∈pr (gs x st)↔t=nm x∨t∈pr st)) :
  ∀ (l:List α) (st:St) (t:BA),(frS ge gs l st).1=0->(t∈pr (frS ge gs l st).2↔t∈l.map nm∨t∈pr st)
 | [],st,t,_=>by simp [frS]
 | x::r,st,t,hz=>by
  unfold frS at hz ⊢
  by_cases h:ge x st=0
  ·rw [iP h] at hz ⊢
   rw [frS_mem nm pr ge gs h1 r (gs x st) t hz,h1 x st t h,List.map_cons,List.mem_cons]
   constructor
   ·rintro (a | a | a)
    ·exact .inl (.inr a)
    ·exact .inl (.inl a)
    ·exact .inr a
   ·rintro ((a | a) | a)
    ·exact .inr (.inl a)
    ·exact .inl a
    ·exact .inr (.inr a)
  ·rw [iN h] at hz; exact absurd hz h
theorem ix_some{α:Type}(f:α->BA)(s:BA):∀l:List α,ix f s l<l.length↔∃x∈l,f x=s
 | []=>by simp [ix]
 | c::r=>by
  unfold ix
  by_cases h:f c=s
  ·rw [iP h]; exact ⟨fun _=>⟨c,List.mem_cons_self ..,h⟩,fun _=>by simp⟩
  ·rw [iN h,List.length_cons,Nat.add_lt_add_iff_right,ix_some f s r]
   constructor
   ·rintro ⟨x,hx,e⟩; exact ⟨x,List.mem_cons_of_mem _ hx,e⟩
   ·rintro ⟨x,hx,e⟩
    rcases List.mem_cons.1 hx with rfl | hx
    ·exact absurd e h
    ·exact ⟨x,hx,e⟩
end Go.Proofs.YtmllcplaohkjnaaGreatDoor
namespace Go.Pv
def isM:List LV->Bool
 | [.mm es]=>es.all fun x=>x.2.noX
 | _=>false
theorem BlkM.names{g g':Gh}{w:World}{b:Nat}{es:List (BA × PV)}(hM:g'.M=g.M)(hn:(es.all fun x=>x.2.noX)=true)(h:BlkM g w b es):BlkM g' w b es:=by
 obtain ⟨h1,arr,clock,h2,h3,h5,h6⟩:=h
 exact ⟨(by rw [hM]; exact h1),arr,clock,h2,h3,h5,fun j hj hj'=>⟨(h6 j hj hj').1,Rep.names hM (List.all_eq_true.1 hn _ (List.getElem_mem hj)) (h6 j hj hj').2⟩⟩
theorem CallC.drop{P:Program}{f:FuncId}{args:List PV}{res:CRes}{e e1 e2:Ext}(hr:res.noX=true)(hc:cnt e2=cnt e)(hs:∀x cs,lk e2 x=some cs->lk e1 x=some cs/\isM cs=true)
  (h:CallC P f args e fun r e'=>r=res/\e'=e1):CallC P f args e fun r e'=>r=res/\e'=e2:=by
 intro vs g l w hargs hent
 refine (h vs g l w hargs hent).mono ?_
 rintro enz w' ⟨r,e0,g',l',⟨rfl,rfl⟩,hres,hent',hmono,hsz,hfr,hown,os,tape,output⟩
 let g3:Gh:=⟨g'.M,fun n=>if n<cnt e2 then g'.X n else none,fun n c=>if n<cnt e2 then g'.Y n c else none⟩
 let l3:LG:=⟨l'.L,fun _=>none,fun b=>match l'.O b with
  | some (.x n)=>if n<cnt e2 then some (.x n) else none
  | _=>none⟩
 have hO:∀b o,l3.O b=some o->l'.O b=some o/\∃n,o = .x n:=fun b o ho=>by
  simp only [l3] at ho
  split at ho
  ·rename_i n hn
   split at ho
   ·injection ho with ho; subst ho; exact ⟨hn,n,rfl⟩
   ·cases ho
  ·cases ho
 have hm3:Mono g w g3 w':=⟨fun n b hb=>by
   have hlt:n<cnt e2:=by
    rcases Nat.lt_or_ge n (cnt e2) with h1 | h1
    ·exact h1
    ·rw [hent.fresh.2.1 n oM] at hb; cases hb
   simp only [g3,iP hlt]; exact hmono.ext n b hb,fun b o v hc hf=>hmono.cell b o v hc hf,hmono.len,fun n c b hb=>by
   have hlt:n<cnt e2:=by
    rcases Nat.lt_or_ge n (cnt e2) with h1 | h1
    ·exact h1
    ·rw [hent.fresh.2.2 n c oM] at hb; cases hb
   simp only [g3,iP hlt]; exact hmono.row n c b hb⟩
 refine ⟨r,e2,g3,l3,⟨rfl,rfl⟩,?_,?_,hm3,hsz,hfr,fun b o ho=>hown b o (hO b o ho).1,os,tape,output⟩
 ·cases r with
  | ret p=>
   cases enz <;> first | exact hres.elim | skip
   exact Rep.names (g:=g') rfl hr hres
  | own te z es=>
   cases enz <;> first | exact hres.elim | skip
   obtain ⟨heK,hres⟩:=hres
   refine ⟨heK,?_⟩
   rcases hres with (h | ⟨a,h,h'⟩) | ⟨b,cap,cur,k1,k2,k3,k4,k5,k6,k7,k8⟩
   ·exact .inl (.inl h)
   ·exact .inl (.inr ⟨a,h,Rep.names (g:=g') rfl (by simpa [PV.noX,CRes.noX] using hr) h'⟩)
   ·refine .inr ⟨b,cap,cur,k1,k2,k3,?_,k5,k6,k7,Rep.names (g:=g') rfl (by simpa [PV.noX,CRes.noX] using hr) k8⟩
    simp only [l3,k4]
  | panic p=>
   cases enz <;> first | exact hres.elim | skip
   obtain ⟨v,hv,hrv⟩:=hres
   exact ⟨v,hv,Rep.names (g:=g') rfl hr hrv⟩
 ·refine ⟨fun x cs hx=>?_,fun b o ho=>hent'.olt b o (hO b o ho).1,fun p b hb=>(by cases hb),⟨hent'.fresh.1,fun n hn=>?_,fun n c hn=>?_⟩,fun n b hb=>?_,fun b o ho => .inl (hO b o ho).2,hent'.glb.names rfl⟩
  ·obtain ⟨h1,h2⟩:=hs x cs hx
   obtain ⟨b,k1,k2,hE⟩:=hent'.ex x cs h1
   have hlt:x<cnt e2:=lt_cnt hx
   unfold isM at h2
   split at h2
   ·rename_i es
    have kx:g'.X x=some b:=k1
    refine ⟨b,?_,?_,?_⟩
    ·show g3.X x=some b
     simp only [g3,iP hlt]; exact kx
    ·simp only [l3,k2,iP hlt]
    ·rcases hE with hE | hE
     ·obtain ⟨-,cur,te,-,-,h6⟩:=hE
      exact ((h6 0 sM).2.2).elim
     ·rcases hE with ⟨es',h7,h8⟩ | ⟨n,c,ps,-,h7,-⟩
      ·exact .inr (.inl ⟨es',h7,BlkM.names (g:=g') (g':=g3) rfl (by cases h7; exact h2) h8⟩)
      ·cases h7
   ·cases h2
  ·simp only [g3,iN (Nat.not_lt.2 hn)]
  ·simp only [g3,iN (Nat.not_lt.2 hn)]
  ·simp only [g3] at hb
   split at hb
   ·exact hent'.xlt n b hb
   ·cases hb
theorem Ob.eff_drop{P:Program}{f:FuncId}{args:List PV}{r:CRes}{e e1 e2:Ext}(hr:r.noX=true)(hc:cnt e2=cnt e)(hs:∀x cs,lk e2 x=some cs->lk e1 x=some cs/\isM cs=true)(h:(Ob.eff f args e r e1).ok P):(Ob.eff f args e r e2).ok P:=⟨h.1,CallC.drop hr hc hs h.2⟩
end Go.Pv
namespace Go.Proofs.YtmllcplaohkjnaaGreatDoor
open Go.Pv Go.Proofs.Tryz
set_option maxRecDepth 100000
def soS_r0(m:Mo)(s:BA)(vs:List BA):Int:=(if ix daNm s (moD m)<List.length (moD m) then 0 else (if (!ByteArray.toList s==ByteArray.toList (ByteArray.mk #[73,110,116]) && !ByteArray.toList s==ByteArray.toList (ByteArray.mk #[66,111,111,108]) && !false)=true then (whE (decide (plc s vs<0)) 11) else 0))
theorem soS(m:Mo)(s:BA)(vs:List BA)(hz:Sz m)(hv0:vs.length<=1000000000):Pu 75 [.agg (wL m),.str s,.sl 1 (nmsC vs)] (rI (soS_r0 m s vs)):=by
 by_cases h0:ix daNm s (moD m)<List.length (moD m)
 ·simp only [soS_r0,iP h0]; exact pm mdW [cl (@dTZ (m) (s) hz h0),mg,av (.v (.bool (bif !ByteArray.toList s==ByteArray.toList (ByteArray.mk #[73,110,116]) then !ByteArray.toList s==ByteArray.toList (ByteArray.mk #[66,111,111,108]) else false))) (.v (.bool (!ByteArray.toList s==ByteArray.toList (ByteArray.mk #[73,110,116]) && !ByteArray.toList s==ByteArray.toList (ByteArray.mk #[66,111,111,108])))) (by (simp only [Bool.cond_false_right]; done)),mg,av (.v (.bool (bif !ByteArray.toList s==ByteArray.toList (ByteArray.mk #[73,110,116]) && !ByteArray.toList s==ByteArray.toList (ByteArray.mk #[66,111,111,108]) then !true else false))) (.v (.bool (!ByteArray.toList s==ByteArray.toList (ByteArray.mk #[73,110,116]) && !ByteArray.toList s==ByteArray.toList (ByteArray.mk #[66,111,111,108]) && !true))) (by (simp only [Bool.cond_true_left,Bool.cond_false_right]; done)),rp 5 (bf (!ByteArray.toList s==ByteArray.toList (ByteArray.mk #[73,110,116]) && !ByteArray.toList s==ByteArray.toList (ByteArray.mk #[66,111,111,108]) && !true) (by simp_all [List.length_map,List.length_append,List.length_cons,List.length_nil,nmsC_len,Pr.cs_len,Tp.cs_len,Pm.cs_len,Ex.cs_len,Al.cs_len,Vr.cs_len,Cn.cs_len,Da.cs_len,Cl.cs_len,Bo.cs_len,Df.cs_len,In.cs_len,Cs.cs_len,Ms.cs_len,Qu.cs_len,Int.toNat_natCast,Bool.cond_true_left,Bool.cond_false_right,Int.toNat_zero,tn1])),cl (@whT (false) (11))] func75
 ·by_cases h1:(!ByteArray.toList s==ByteArray.toList (ByteArray.mk #[73,110,116]) && !ByteArray.toList s==ByteArray.toList (ByteArray.mk #[66,111,111,108]) && !false)=true
  ·simp only [soS_r0,iN h0,iP h1]; exact pm mdW [cl (@dFZ (m) (s) hz h0),mg,av (.v (.bool (bif !ByteArray.toList s==ByteArray.toList (ByteArray.mk #[73,110,116]) then !ByteArray.toList s==ByteArray.toList (ByteArray.mk #[66,111,111,108]) else false))) (.v (.bool (!ByteArray.toList s==ByteArray.toList (ByteArray.mk #[73,110,116]) && !ByteArray.toList s==ByteArray.toList (ByteArray.mk #[66,111,111,108])))) (by (simp only [Bool.cond_false_right]; done)),mg,av (.v (.bool (bif !ByteArray.toList s==ByteArray.toList (ByteArray.mk #[73,110,116]) && !ByteArray.toList s==ByteArray.toList (ByteArray.mk #[66,111,111,108]) then !false else false))) (.v (.bool (!ByteArray.toList s==ByteArray.toList (ByteArray.mk #[73,110,116]) && !ByteArray.toList s==ByteArray.toList (ByteArray.mk #[66,111,111,108]) && !false))) (by (simp only [Bool.cond_false_right]; done)),rp 3 (bt1 h1),cl (@nFiT (vs) (s) hv0),rp 2 (bt1 h1),cl (@whT (decide (plc s vs<0)) (11))] func75
  ·simp only [soS_r0,iN h0,iN h1]; exact pm mdW [cl (@dFZ (m) (s) hz h0),mg,av (.v (.bool (bif !ByteArray.toList s==ByteArray.toList (ByteArray.mk #[73,110,116]) then !ByteArray.toList s==ByteArray.toList (ByteArray.mk #[66,111,111,108]) else false))) (.v (.bool (!ByteArray.toList s==ByteArray.toList (ByteArray.mk #[73,110,116]) && !ByteArray.toList s==ByteArray.toList (ByteArray.mk #[66,111,111,108])))) (by (simp only [Bool.cond_false_right]; done)),mg,av (.v (.bool (bif !ByteArray.toList s==ByteArray.toList (ByteArray.mk #[73,110,116]) && !ByteArray.toList s==ByteArray.toList (ByteArray.mk #[66,111,111,108]) then !false else false))) (.v (.bool (!ByteArray.toList s==ByteArray.toList (ByteArray.mk #[73,110,116]) && !ByteArray.toList s==ByteArray.toList (ByteArray.mk #[66,111,111,108]) && !false))) (by (simp only [Bool.cond_false_right]; done)),rp 5 (bf1 (bFT h1)),cl (@whT (false) (11))] func75
def ceS_r0(t:Tp)(pe:Tp->Bool):Bool:=(if (tpO t==6||tpO t==3)=true then true else (decide (fxE pe (tpA t)>=0)))
theorem ceS(t:Tp)(pe:Tp->Bool)(hcc:Pu 129 [.sl 9 (Tp.cs (tpA t)),.fn (.func 81) [] []] (.ret (.bool (decide (fxE pe (tpA t)>=0))))):Pu 81 [.agg (tpL t)] (rB (ceS_r0 t pe)):=by
 by_cases h0:(tpO t==6||tpO t==3)=true
 ·simp only [ceS_r0,iP h0]; exact pm mdL [mg,av (.v (.bool (bif tpO t==6 then true else tpO t==3))) (.v (.bool (tpO t==6||tpO t==3))) rF,rp 4 (bt1 h0)] func81
 ·simp only [ceS_r0,iN h0]; exact pm mdL [mg,av (.v (.bool (bif tpO t==6 then true else tpO t==3))) (.v (.bool (tpO t==6||tpO t==3))) rF,rp 3 (bf1 (bFT h0)),cl hcc,bf1 (bFT h0)] func81
def ceD:Nat->Tp->Bool
 | 0,_=>false
 | d+1,t=>ceS_r0 t (ceD d)
theorem ce_ok:∀ (d:Nat) (t:Tp),bulkPs (tpL t)<d->d<=100000001->Pu 81 [.agg (tpL t)] (.ret (.bool (ceD d t)))
 | 0,_,h,_=>by omega
 | d+1,t,h,hs=>ceS t (ceD d) (cfT (tpA t) _ [] (ceD d) (fun w hw=>ce_ok d w (by have:=tp_bulk t; have:=Tp.mem hw; omega) oM) (by have:=tp_bulk t; have:=Tp.bulk (tpA t); omega))
def ceF(t:Tp):Bool:=ceD (bulkPs (tpL t)+1) t
theorem ceT(t:Tp)(hs:bulkPs (tpL t)<=100000000):Pu 81 [.agg (tpL t)] (.ret (.bool (ceF t))):=ce_ok _ t oM oM
theorem d1(m:Mo)(y:Da)(k:Int)(x:Vr)(a b c d f g:List BA)(hz:Sz m)(hv0:(daVs y).length<=1000000000):Ef 74 [pI k,.agg (vrL x),.ro (wL m) 0,.ro [PV.mp 5] 0,.ro (daL y) 0] ([(0,[LV.mm (mks a)]),(1,[LV.mm (mks b)]),(2,[LV.mm (mks c)]),(3,[LV.mm (mks d)]),(4,[LV.mm (mks f)]),(5,[LV.mm (mks g)])]) (rI (fi3 (erN (nameB (vrNm x))) (twE (vrNm x) g) (soS_r0 m (vrS x) (daVs y)))) ([(0,[LV.mm (mks a)]),(1,[LV.mm (mks b)]),(2,[LV.mm (mks c)]),(3,[LV.mm (mks d)]),(4,[LV.mm (mks f)]),(5,[LV.mm (mks (adK (vrNm x) g))])]):=
 ef mdW [cl (@wNm (m) (vrNm x)),ce (@on56T (vrNm x) (a) (b) (c) (d) (f) (g)),cl (@soS (m) (vrS x) (daVs y) hz hv0),cl (@fs3T (erN (nameB (vrNm x))) (twE (vrNm x) g) (soS_r0 m (vrS x) (daVs y)))] func74
theorem d21(m:Mo)(y:Da)(k:Int)(t:Tp)(hz:Sz m)(hv0:(daVs y).length<=1000000000)(hs:bulkPs (tpL t)<=100000000):Pu 79 [pI k,.agg (tpL t),.ro (wL m) 0,.ro (daL y) 0] (rI (fi2 (tyE (dvM m) (daVs y) t) (whE (ceF t) 6))):=
 pm mdW [cl (@tyT (m) (daVs y) (t) hz hv0 hs),cl (@ceT (t) hs),cl (@whT (ceF t) (6)),cl (@fs2T (tyE (dvM m) (daVs y) t) (whE (ceF t) 6))] func79
def fiE(m:Mo)(vs:List BA)(t:Tp):Int:=fi2 (tyE (dvM m) vs t) (whE (ceF t) 6)
theorem d21T(m:Mo)(y:Da)(l:List Tp)(hz:Sz m)(hv0:(daVs y).length<=1000000000)(hs:∀w∈l,bulkPs (tpL w)<=100000000)(hN:l.length<=1000000000):Pu 78 [.sl 9 (Tp.cs l),.fn (.func 79) [] [.ro (wL m) 0,.ro (daL y) 0]] (.ret (.int .i64 (frE (fiE m (daVs y)) l))):=eaTT l _ _ _ (fun k w hw=>d21 m y k w hz hv0 (hs w hw)) hN
def d2_r0(m:Mo)(y:Da)(x:Cn)(b:List BA):Int:=(if ((cnF x).length:Int)>6 then (if fi4 (erN (titleB (cnNm x))) (twE (cnNm x) b) 13 (alE (cnNs x))=0 then (frE (fiE m (daVs y)) (cnF x)) else (fi4 (erN (titleB (cnNm x))) (twE (cnNm x) b) 13 (alE (cnNs x)))) else (if fi4 (erN (titleB (cnNm x))) (twE (cnNm x) b) (whE (((cnNs x).length:Int) != ((cnF x).length:Int)) 13) (alE (cnNs x))=0 then (frE (fiE m (daVs y)) (cnF x)) else (fi4 (erN (titleB (cnNm x))) (twE (cnNm x) b) (whE (((cnNs x).length:Int) != ((cnF x).length:Int)) 13) (alE (cnNs x)))))
theorem d2(m:Mo)(y:Da)(k:Int)(x:Cn)(a b c d f g:List BA)(hz:Sz m)(hv0:(daVs y).length<=1000000000)(hs:∀w∈cnF x,bulkPs (tpL w)<=100000000)(hNF:(cnF x).length<=1000000000)(hNN:(cnNs x).length<=1000000000):Ef 77 [pI k,.agg (cnL x),.ro (wL m) 0,.ro [PV.mp 1] 0,.ro (daL y) 0] ([(0,[LV.mm (mks a)]),(1,[LV.mm (mks b)]),(2,[LV.mm (mks c)]),(3,[LV.mm (mks d)]),(4,[LV.mm (mks f)]),(5,[LV.mm (mks g)])]) (rI (d2_r0 m y x b)) ([(0,[LV.mm (mks a)]),(1,[LV.mm (mks (adK (cnNm x) b))]),(2,[LV.mm (mks c)]),(3,[LV.mm (mks d)]),(4,[LV.mm (mks f)]),(5,[LV.mm (mks g)])]):=by
 by_cases h0:((cnF x).length:Int)>6
 ·by_cases h1:fi4 (erN (titleB (cnNm x))) (twE (cnNm x) b) 13 (alE (cnNs x))=0
  ·simp only [d2_r0,iP h0,iP h1]; exact ef mdW [cl (@wTi (m) (cnNm x)),ce (@on16T (cnNm x) (a) (b) (c) (d) (f) (g)),sl (Tp.cs_len (cnF x)),rp 8 (dt1 h0),cl (@whT (true) (13)),cl (@alT (m) (cnNs x) hNN),cl (@fs4T (erN (titleB (cnNm x))) (twE (cnNm x) b) (13) (alE (cnNs x))),nn1 h1,cl (@d21T (m) (y) (cnF x) hz hv0 hs hNF)] func77
  ·simp only [d2_r0,iP h0,iN h1]; exact ef mdW [cl (@wTi (m) (cnNm x)),ce (@on16T (cnNm x) (a) (b) (c) (d) (f) (g)),sl (Tp.cs_len (cnF x)),rp 8 (dt1 h0),cl (@whT (true) (13)),cl (@alT (m) (cnNs x) hNN),cl (@fs4T (erN (titleB (cnNm x))) (twE (cnNm x) b) (13) (alE (cnNs x))),nt1 h1] func77
 ·by_cases h1:fi4 (erN (titleB (cnNm x))) (twE (cnNm x) b) (whE (((cnNs x).length:Int) != ((cnF x).length:Int)) 13) (alE (cnNs x))=0
  ·simp only [d2_r0,iN h0,iP h1]; exact ef mdW [cl (@wTi (m) (cnNm x)),ce (@on16T (cnNm x) (a) (b) (c) (d) (f) (g)),sl (Tp.cs_len (cnF x)),rp 3 (df1 h0),sl (nmsC_len (cnNs x)),rp 3 (df1 h0),sl (Tp.cs_len (cnF x)),rp 2 (df1 h0),cl (@whT (((cnNs x).length:Int) != ((cnF x).length:Int)) (13)),cl (@alT (m) (cnNs x) hNN),cl (@fs4T (erN (titleB (cnNm x))) (twE (cnNm x) b) (whE (((cnNs x).length:Int) != ((cnF x).length:Int)) 13) (alE (cnNs x))),nn1 h1,cl (@d21T (m) (y) (cnF x) hz hv0 hs hNF)] func77
  ·simp only [d2_r0,iN h0,iN h1]; exact ef mdW [cl (@wTi (m) (cnNm x)),ce (@on16T (cnNm x) (a) (b) (c) (d) (f) (g)),sl (Tp.cs_len (cnF x)),rp 3 (df1 h0),sl (nmsC_len (cnNs x)),rp 3 (df1 h0),sl (Tp.cs_len (cnF x)),rp 2 (df1 h0),cl (@whT (((cnNs x).length:Int) != ((cnF x).length:Int)) (13)),cl (@alT (m) (cnNs x) hNN),cl (@fs4T (erN (titleB (cnNm x))) (twE (cnNm x) b) (whE (((cnNs x).length:Int) != ((cnF x).length:Int)) 13) (alE (cnNs x))),nt1 h1] func77
theorem hA_o{m:Mo}{o:Nat}(hA:∀ (d:Da) (c:Cn) (k:Int),d∈moD m->c∈daC d->Pu 23 [.sl 9 (Tp.cs (cnF c)),.int .i64 k] (.ret (.int .i64 (ctF (cnF c) k))))(h:o<(moD m).length):∀ (c:Cn) (k:Int),c∈daC ((moD m).getD o default)->Pu 23 [.sl 9 (Tp.cs (cnF c)),.int .i64 k] (.ret (.int .i64 (ctF (cnF c) k))):=fun c k hc=>hA _ c k (getD_mem h) hc
theorem hB_o{m:Mo}{o:Nat}(hB:∀ (c:Cl) (p:Pm) (k:Int),c∈moC m->p∈clM c->Pu 23 [.sl 9 [tpL (pmT p)],.int .i64 k] (.ret (.int .i64 (ctF [pmT p] k))))(h:o<(moC m).length):∀ (p:Pm) (k:Int),p∈clM ((moC m).getD o default)->Pu 23 [.sl 9 [tpL (pmT p)],.int .i64 k] (.ret (.int .i64 (ctF [pmT p] k))):=fun c k hc=>hB _ c k (getD_mem h) hc
theorem hG_o{m:Mo}{o:Nat}(hG:∀ (x:Ms) (c:Cs) (k:Int),x∈moM m->c∈msC x->Pu 24 [.sl 4 [prL (csB c)],.int .i64 k] (.ret (.int .i64 (cpF [csB c] k))))(h:o<(moM m).length):∀ (c:Cs) (k:Int),c∈msC ((moM m).getD o default)->Pu 24 [.sl 4 [prL (csB c)],.int .i64 k] (.ret (.int .i64 (cpF [csB c] k))):=fun c k hc=>hG _ c k (getD_mem h) hc
def cdF(l:List Df)(mx:Int):Int:=cd0_f mx l 0
theorem l1_le{m:Mo}{i:Nat}(l1:∀c∈moD m,(daC c).length<=1048576)(h:i<(moD m).length):(daC ((moD m).getD i default)).length<=1000000000:=by
 have:=l1 _ (getD_mem h); omega
theorem l2_le{m:Mo}{i:Nat}(l2:∀c∈moC m,(clM c).length<=1048576)(h:i<(moC m).length):(clM ((moC m).getD i default)).length<=1000000000:=by
 have:=l2 _ (getD_mem h); omega
theorem l3_le{m:Mo}{i:Nat}(l3:∀c∈moM m,(msC c).length<=1048576)(h:i<(moM m).length):(msC ((moM m).getD i default)).length<=1000000000:=by
 have:=l3 _ (getD_mem h); omega
theorem g1{l:List Da}{i:Nat}(h:i<l.length):l.getD i default∈l:=getD_mem h
theorem g2{l:List Cn}{i:Nat}(h:i<l.length):l.getD i default∈l:=getD_mem h
theorem g3{l:List Cl}{i:Nat}(h:i<l.length):l.getD i default∈l:=getD_mem h
theorem g4{l:List In}{i:Nat}(h:i<l.length):l.getD i default∈l:=getD_mem h
theorem g5{l:List Ms}{i:Nat}(h:i<l.length):l.getD i default∈l:=getD_mem h
theorem g6{l:List Cs}{i:Nat}(h:i<l.length):l.getD i default∈l:=getD_mem h
abbrev sl1_I(m:Mo)(o:Nat)(n0:Int)(xe:Ext)(j:Int)(n:Int)  : S:=S.mk [(1,.lp 1 0),(2,.v (.bool false)),(3,vI6 n),(4,vI6 (o:Int)),(5,vI6 j)] [(1,moV m)] xe
def sl1_f  : List Cn->(Int)->(Int)
 | [],n=>(n)
 | el::r,n=>(if n<=4000 then sl1_f  r (IntKind.wrap .i64 (IntKind.wrap .i64 (IntKind.wrap .i64 (n+1)+((cnNs el).length:Int))+ctF (cnF el) 4000)) else (n))
def sl1_q(m:Mo)(o:Nat)(n0:Int)(xe:Ext)(p:(Int)):PExit × S:=(.exit 2,S.mk [(1,.lp 1 0),(2,.v (.bool false)),(3,vI6 p),(4,vI6 (o:Int))] [(1,moV m)] xe)
theorem sl1(m:Mo)(o:Nat)(ho:o<(moD m).length)(n0:Int)(xe:Ext)(hAo:∀ (c:Cn) (k:Int),c∈daC ((moD m).getD o default)->Pu 23 [.sl 9 (Tp.cs (cnF c)),.int .i64 k] (.ret (.int .i64 (ctF (cnF c) k))))(l1:∀c∈moD m,(daC c).length<=1048576)(n:Int)(hN:List.length ((daC ((moD m).getD o default)))<=1000000000)  : (Ob.loop 303 (loopF f8 1) (sl1_I m o n0 xe 0 n) (sl1_q m o n0 xe  (sl1_f  ((daC ((moD m).getD o default)))  n)).1 (sl1_q m o n0 xe  (sl1_f  ((daC ((moD m).getD o default)))  n)).2).ok prog:=by
 refine rng (List.length ((daC ((moD m).getD o default)))) (fun j n=>sl1_I m o n0 xe j n) (fun i n=>sl1_f  (List.drop i ((daC ((moD m).getD o default))))  n) (sl1_q m o n0 xe) (fun i n=>True) kR ?_ n trivial
 rintro i n hi -
 rcases Nat.lt_or_ge i (List.length ((daC ((moD m).getD o default)))) with hlt | hge
 ·have hd:=drop_at hlt
  by_cases h0:n<=4000
  ·exact lN mdL [am ((0:Int)<=(o:Int)/\(o:Int)<((Da.cs (moD m)).length:Int)) (by (simp only [Da.cs_len]; omega)),xDa (moD m) o ho,sl (Cn.cs_len (daC (List.getD (moD m) o default))),rp 3 (dt ((i:Int)<((daC (List.getD (moD m) o default)).length:Int))),dt1 h0,kp,am ((0:Int)<=(o:Int)/\(o:Int)<((Da.cs (moD m)).length:Int)) (by (simp only [Da.cs_len]; omega)),xDa (moD m) o ho,am ((0:Int)<=(i:Int)/\(i:Int)<((Cn.cs (daC (List.getD (moD m) o default))).length:Int)) (by (simp only [Cn.cs_len]; omega)),xCn (daC (List.getD (moD m) o default)) i hlt,sl (nmsC_len (cnNs (List.getD (daC (List.getD (moD m) o default)) i default))),kp,am ((0:Int)<=(o:Int)/\(o:Int)<((Da.cs (moD m)).length:Int)) (by (simp only [Da.cs_len]; omega)),xDa (moD m) o ho,am ((0:Int)<=(i:Int)/\(i:Int)<((Cn.cs (daC (List.getD (moD m) o default))).length:Int)) (by (simp only [Cn.cs_len]; omega)),xCn (daC (List.getD (moD m) o default)) i hlt,cl (@hAo (List.getD (daC (List.getD (moD m) o default)) i default) (4000) (by simp_all [List.length_map,List.length_append,List.length_cons,List.length_nil,nmsC_len,Pr.cs_len,Tp.cs_len,Pm.cs_len,Ex.cs_len,Al.cs_len,Vr.cs_len,Cn.cs_len,Da.cs_len,Cl.cs_len,Bo.cs_len,Df.cs_len,In.cs_len,Cs.cs_len,Ms.cs_len,Qu.cs_len,Int.toNat_natCast])),kp,wr ((i:Int)+1)] hlt (IntKind.wrap .i64 (IntKind.wrap .i64 (IntKind.wrap .i64 (n+1)+((cnNs (List.getD (daC (List.getD (moD m) o default)) i default)).length:Int))+ctF (cnF (List.getD (daC (List.getD (moD m) o default)) i default)) 4000)) trivial (by rw [hd,sl1_f,iP h0])
  ·exact lX mdL [am ((0:Int)<=(o:Int)/\(o:Int)<((Da.cs (moD m)).length:Int)) (by (simp only [Da.cs_len]; omega)),xDa (moD m) o ho,sl (Cn.cs_len (daC (List.getD (moD m) o default))),rp 3 (dt ((i:Int)<((daC (List.getD (moD m) o default)).length:Int))),df1 h0] (n) (by rw [hd,sl1_f,iN h0])
 ·have he:i=List.length ((daC ((moD m).getD o default))):=by omega
  exact lX mdL [am ((0:Int)<=(o:Int)/\(o:Int)<((Da.cs (moD m)).length:Int)) (by (simp only [Da.cs_len]; omega)),xDa (moD m) o ho,sl (Cn.cs_len (daC (List.getD (moD m) o default))),rp 3 (df ((i:Int)<((daC (List.getD (moD m) o default)).length:Int))),bf false] (n) (by rw [he,List.drop_length,sl1_f])
abbrev sl0_I(m:Mo)(j:Int)(n:Int)(e:Ext):S:=S.mk [(1,.lp 1 0),(2,.v (.bool false)),(3,vI6 n),(4,vI6 j)] [(1,moV m)] e
def sl0_f  : List Da->(Int)->(Int)
 | [],n=>(n)
 | el::r,n=>(if n<=4000 then sl0_f  r (sl1_f (daC el) (IntKind.wrap .i64 (IntKind.wrap .i64 (IntKind.wrap .i64 (IntKind.wrap .i64 (n+1)+IntKind.wrap .i64 (Int.tdiv (↑(ByteArray.size (daNm el)):Int) 100))+((daVs el).length:Int))+((daP el).length:Int)))) else (n))
def sl0_q(m:Mo)(e:Ext)(p:(Int)):PExit × S:=(.exit 0,S.mk [(1,.lp 1 0),(2,.v (.bool false)),(3,vI6 p)] [(1,moV m)] e)
theorem sl0(m:Mo)(s1:¬((moD m).length:Int)>80)(s2:¬((moC m).length:Int)>80)(s3:¬((moI m).length:Int)>80)(s4:¬((moM m).length:Int)>80)(s5:¬((moQ m).length:Int)>80)(s6:¬((moF m).length:Int)>80)(hA:∀ (d:Da) (c:Cn) (k:Int),d∈moD m->c∈daC d->Pu 23 [.sl 9 (Tp.cs (cnF c)),.int .i64 k] (.ret (.int .i64 (ctF (cnF c) k))))(l1:∀c∈moD m,(daC c).length<=1048576)(hI:∀ (k:Int),Pu 22 [.sl 25 (Df.cs (moF m)),.int .i64 k] (.ret (.int .i64 (cdF (moF m) k))))(n:Int)(e:Ext)(hN:(moD m).length<=1000000000)  : (Ob.loop 303 (loopF f8 0) (sl0_I m 0 n e) (sl0_q m e (sl0_f  ((moD m))  n)).1 (sl0_q m e (sl0_f  ((moD m))  n)).2).ok prog:=by
 refine rng ((moD m).length) (fun j n=>sl0_I m j n e) (fun i n=>sl0_f  (List.drop i ((moD m)))  n) (sl0_q m e) (fun i n=>True) kR ?_ n trivial
 rintro i n hi -
 rcases Nat.lt_or_ge i ((moD m).length) with hlt | hge
 ·have hd:=drop_at hlt
  by_cases h0:n<=4000
  ·exact lN mdL [sl (Da.cs_len (moD m)),rp 3 (dt ((i:Int)<((moD m).length:Int))),dt1 h0,kp,am ((0:Int)<=(i:Int)/\(i:Int)<((Da.cs (moD m)).length:Int)) (by (simp only [Da.cs_len]; omega)),xDa (moD m) i hlt,rp 3 (kp),ab true,am ((0:Int)<=(i:Int)/\(i:Int)<((Da.cs (moD m)).length:Int)) (by (simp only [Da.cs_len]; omega)),xDa (moD m) i hlt,sl (nmsC_len (daVs (List.getD (moD m) i default))),kp,am ((0:Int)<=(i:Int)/\(i:Int)<((Da.cs (moD m)).length:Int)) (by (simp only [Da.cs_len]; omega)),xDa (moD m) i hlt,sl (Vr.cs_len (daP (List.getD (moD m) i default))),kp,lp (S.mk [(1,.lp 1 0),(2,.v (.bool false)),(3,vI6 (IntKind.wrap .i64 (IntKind.wrap .i64 (IntKind.wrap .i64 (IntKind.wrap .i64 (n+1)+IntKind.wrap .i64 (Int.tdiv (↑(ByteArray.size (daNm (List.getD (moD m) i default))):Int) 100))+((daVs (List.getD (moD m) i default)).length:Int))+((daP (List.getD (moD m) i default)).length:Int)))),(4,vI6 (i:Int)),(49,vI6 (i:Int)),(50,.lp 1 0),(51,vL 4 (Da.cs (moD m))),(52,vI6 ((moD m).length:Int)),(53,.v (.bool (decide ((i:Int)<((moD m).length:Int))))),(54,.v (.bool (decide ((i:Int)<((moD m).length:Int))))),(55,vI6 n),(56,.v (.bool (decide (n<=4000)))),(57,.v (.bool (decide (n<=4000)))),(60,vI6 n),(61,vI6 (IntKind.wrap .i64 (n+1))),(62,.lp 1 0),(63,vL 4 (Da.cs (moD m))),(64,vI6 (i:Int)),(65,.v (.ro (daL (List.getD (moD m) i default)) 0)),(66,.v (.ro (daL (List.getD (moD m) i default)) 0)),(67,vS (daNm (List.getD (moD m) i default))),(68,vI6 (↑(ByteArray.size (daNm (List.getD (moD m) i default))):Int)),(69,vI6 (IntKind.wrap .i64 (Int.tdiv (↑(ByteArray.size (daNm (List.getD (moD m) i default))):Int) 100))),(70,vI6 (IntKind.wrap .i64 (IntKind.wrap .i64 (n+1)+IntKind.wrap .i64 (Int.tdiv (↑(ByteArray.size (daNm (List.getD (moD m) i default))):Int) 100)))),(71,.lp 1 0),(72,vL 4 (Da.cs (moD m))),(73,vI6 (i:Int)),(74,.v (.ro (daL (List.getD (moD m) i default)) 0)),(75,.v (.ro (daL (List.getD (moD m) i default)) 1)),(76,vL 1 (nmsC (daVs (List.getD (moD m) i default)))),(77,vI6 ((daVs (List.getD (moD m) i default)).length:Int)),(78,vI6 (IntKind.wrap .i64 (IntKind.wrap .i64 (IntKind.wrap .i64 (n+1)+IntKind.wrap .i64 (Int.tdiv (↑(ByteArray.size (daNm (List.getD (moD m) i default))):Int) 100))+((daVs (List.getD (moD m) i default)).length:Int)))),(79,.lp 1 0),(80,vL 4 (Da.cs (moD m))),(81,vI6 (i:Int)),(82,.v (.ro (daL (List.getD (moD m) i default)) 0)),(83,.v (.ro (daL (List.getD (moD m) i default)) 2)),(84,vL 2 (Vr.cs (daP (List.getD (moD m) i default)))),(85,vI6 ((daP (List.getD (moD m) i default)).length:Int)),(86,vI6 (IntKind.wrap .i64 (IntKind.wrap .i64 (IntKind.wrap .i64 (IntKind.wrap .i64 (n+1)+IntKind.wrap .i64 (Int.tdiv (↑(ByteArray.size (daNm (List.getD (moD m) i default))):Int) 100))+((daVs (List.getD (moD m) i default)).length:Int))+((daP (List.getD (moD m) i default)).length:Int)))),(5,vI6 0)] [(1,moV m)] e) (@sl1 (m) (i) hlt default (e) (by (apply hA_o <;> first | assumption | omega | decide)) l1 (IntKind.wrap .i64 (IntKind.wrap .i64 (IntKind.wrap .i64 (IntKind.wrap .i64 (n+1)+IntKind.wrap .i64 (Int.tdiv (↑(ByteArray.size (daNm (List.getD (moD m) i default))):Int) 100))+((daVs (List.getD (moD m) i default)).length:Int))+((daP (List.getD (moD m) i default)).length:Int))) (by (apply l1_le <;> first | assumption | omega | decide))) xr,wr ((i:Int)+1)] hlt (sl1_f (daC (List.getD (moD m) i default)) (IntKind.wrap .i64 (IntKind.wrap .i64 (IntKind.wrap .i64 (IntKind.wrap .i64 (n+1)+IntKind.wrap .i64 (Int.tdiv (↑(ByteArray.size (daNm (List.getD (moD m) i default))):Int) 100))+((daVs (List.getD (moD m) i default)).length:Int))+((daP (List.getD (moD m) i default)).length:Int)))) trivial (by rw [hd,sl0_f,iP h0])
  ·exact lX mdL [sl (Da.cs_len (moD m)),rp 3 (dt ((i:Int)<((moD m).length:Int))),df1 h0] (n) (by rw [hd,sl0_f,iN h0])
 ·have he:i=(moD m).length:=by omega
  exact lX mdL [sl (Da.cs_len (moD m)),rp 3 (df ((i:Int)<((moD m).length:Int))),bf false] (n) (by rw [he,List.drop_length,sl0_f])
abbrev sl3_I(m:Mo)(o:Nat)(n0:Int)(xe:Ext)(j:Int)(n:Int)  : S:=S.mk [(1,.lp 1 0),(2,.v (.bool false)),(3,vI6 n),(6,vI6 (o:Int)),(7,vI6 j)] [(1,moV m)] xe
def sl3_f  : List Pm->(Int)->(Int)
 | [],n=>(n)
 | el::r,n=>(if n<=4000 then sl3_f  r (IntKind.wrap .i64 (IntKind.wrap .i64 (n+1)+ctF [pmT el] 4000)) else (n))
def sl3_q(m:Mo)(o:Nat)(n0:Int)(xe:Ext)(p:(Int)):PExit × S:=(.exit 6,S.mk [(1,.lp 1 0),(2,.v (.bool false)),(3,vI6 p),(6,vI6 (o:Int))] [(1,moV m)] xe)
theorem sl3(m:Mo)(o:Nat)(ho:o<(moC m).length)(n0:Int)(xe:Ext)(hBo:∀ (p:Pm) (k:Int),p∈clM ((moC m).getD o default)->Pu 23 [.sl 9 [tpL (pmT p)],.int .i64 k] (.ret (.int .i64 (ctF [pmT p] k))))(l2:∀c∈moC m,(clM c).length<=1048576)(n:Int)(hN:List.length ((clM ((moC m).getD o default)))<=1000000000)  : (Ob.loop 303 (loopF f8 3) (sl3_I m o n0 xe 0 n) (sl3_q m o n0 xe  (sl3_f  ((clM ((moC m).getD o default)))  n)).1 (sl3_q m o n0 xe  (sl3_f  ((clM ((moC m).getD o default)))  n)).2).ok prog:=by
 refine rng (List.length ((clM ((moC m).getD o default)))) (fun j n=>sl3_I m o n0 xe j n) (fun i n=>sl3_f  (List.drop i ((clM ((moC m).getD o default))))  n) (sl3_q m o n0 xe) (fun i n=>True) kR ?_ n trivial
 rintro i n hi -
 rcases Nat.lt_or_ge i (List.length ((clM ((moC m).getD o default)))) with hlt | hge
 ·have hd:=drop_at hlt
  by_cases h0:n<=4000
  ·exact lN mdL [am ((0:Int)<=(o:Int)/\(o:Int)<((Cl.cs (moC m)).length:Int)) (by (simp only [Cl.cs_len]; omega)),xCl (moC m) o ho,sl (Pm.cs_len (clM (List.getD (moC m) o default))),rp 3 (dt ((i:Int)<((clM (List.getD (moC m) o default)).length:Int))),dt1 h0,kp,am ((0:Int)<=(o:Int)/\(o:Int)<((Cl.cs (moC m)).length:Int)) (by (simp only [Cl.cs_len]; omega)),xCl (moC m) o ho,am ((0:Int)<=(i:Int)/\(i:Int)<((Pm.cs (clM (List.getD (moC m) o default))).length:Int)) (by (simp only [Pm.cs_len]; omega)),xPm (clM (List.getD (moC m) o default)) i hlt,cl (@hBo (List.getD (clM (List.getD (moC m) o default)) i default) (4000) (by simp_all [List.length_map,List.length_append,List.length_cons,List.length_nil,nmsC_len,Pr.cs_len,Tp.cs_len,Pm.cs_len,Ex.cs_len,Al.cs_len,Vr.cs_len,Cn.cs_len,Da.cs_len,Cl.cs_len,Bo.cs_len,Df.cs_len,In.cs_len,Cs.cs_len,Ms.cs_len,Qu.cs_len,Int.toNat_natCast])),kp,wr ((i:Int)+1)] hlt (IntKind.wrap .i64 (IntKind.wrap .i64 (n+1)+ctF [pmT (List.getD (clM (List.getD (moC m) o default)) i default)] 4000)) trivial (by rw [hd,sl3_f,iP h0])
  ·exact lX mdL [am ((0:Int)<=(o:Int)/\(o:Int)<((Cl.cs (moC m)).length:Int)) (by (simp only [Cl.cs_len]; omega)),xCl (moC m) o ho,sl (Pm.cs_len (clM (List.getD (moC m) o default))),rp 3 (dt ((i:Int)<((clM (List.getD (moC m) o default)).length:Int))),df1 h0] (n) (by rw [hd,sl3_f,iN h0])
 ·have he:i=List.length ((clM ((moC m).getD o default))):=by omega
  exact lX mdL [am ((0:Int)<=(o:Int)/\(o:Int)<((Cl.cs (moC m)).length:Int)) (by (simp only [Cl.cs_len]; omega)),xCl (moC m) o ho,sl (Pm.cs_len (clM (List.getD (moC m) o default))),rp 3 (df ((i:Int)<((clM (List.getD (moC m) o default)).length:Int))),bf false] (n) (by rw [he,List.drop_length,sl3_f])
abbrev sl2_I(m:Mo)(j:Int)(n:Int)(e:Ext):S:=S.mk [(1,.lp 1 0),(2,.v (.bool false)),(3,vI6 n),(6,vI6 j)] [(1,moV m)] e
def sl2_f  : List Cl->(Int)->(Int)
 | [],n=>(n)
 | el::r,n=>(if n<=4000 then sl2_f  r (sl3_f (clM el) n) else (n))
def sl2_q(m:Mo)(e:Ext)(p:(Int)):PExit × S:=(.exit 4,S.mk [(1,.lp 1 0),(2,.v (.bool false)),(3,vI6 p)] [(1,moV m)] e)
theorem sl2(m:Mo)(s1:¬((moD m).length:Int)>80)(s2:¬((moC m).length:Int)>80)(s3:¬((moI m).length:Int)>80)(s4:¬((moM m).length:Int)>80)(s5:¬((moQ m).length:Int)>80)(s6:¬((moF m).length:Int)>80)(hA:∀ (d:Da) (c:Cn) (k:Int),d∈moD m->c∈daC d->Pu 23 [.sl 9 (Tp.cs (cnF c)),.int .i64 k] (.ret (.int .i64 (ctF (cnF c) k))))(l1:∀c∈moD m,(daC c).length<=1048576)(hI:∀ (k:Int),Pu 22 [.sl 25 (Df.cs (moF m)),.int .i64 k] (.ret (.int .i64 (cdF (moF m) k))))(hB:∀ (c:Cl) (p:Pm) (k:Int),c∈moC m->p∈clM c->Pu 23 [.sl 9 [tpL (pmT p)],.int .i64 k] (.ret (.int .i64 (ctF [pmT p] k))))(l2:∀c∈moC m,(clM c).length<=1048576)(n:Int)(e:Ext)(hN:(moC m).length<=1000000000)  : (Ob.loop 303 (loopF f8 2) (sl2_I m 0 n e) (sl2_q m e (sl2_f  ((moC m))  n)).1 (sl2_q m e (sl2_f  ((moC m))  n)).2).ok prog:=by
 refine rng ((moC m).length) (fun j n=>sl2_I m j n e) (fun i n=>sl2_f  (List.drop i ((moC m)))  n) (sl2_q m e) (fun i n=>True) kR ?_ n trivial
 rintro i n hi -
 rcases Nat.lt_or_ge i ((moC m).length) with hlt | hge
 ·have hd:=drop_at hlt
  by_cases h0:n<=4000
  ·exact lN mdL [sl (Cl.cs_len (moC m)),rp 3 (dt ((i:Int)<((moC m).length:Int))),dt1 h0,lp (S.mk [(1,.lp 1 0),(2,.v (.bool false)),(3,vI6 n),(6,vI6 (i:Int)),(128,vI6 (i:Int)),(129,.lp 1 1),(130,vL 3 (Cl.cs (moC m))),(131,vI6 ((moC m).length:Int)),(132,.v (.bool (decide ((i:Int)<((moC m).length:Int))))),(133,.v (.bool (decide ((i:Int)<((moC m).length:Int))))),(134,vI6 n),(135,.v (.bool (decide (n<=4000)))),(136,.v (.bool (decide (n<=4000)))),(7,vI6 0)] [(1,moV m)] e) (@sl3 (m) (i) hlt default (e) (by (apply hB_o <;> first | assumption | omega | decide)) l2 (n) (by (apply l2_le <;> first | assumption | omega | decide))) xr,wr ((i:Int)+1)] hlt (sl3_f (clM (List.getD (moC m) i default)) n) trivial (by rw [hd,sl2_f,iP h0])
  ·exact lX mdL [sl (Cl.cs_len (moC m)),rp 3 (dt ((i:Int)<((moC m).length:Int))),df1 h0] (n) (by rw [hd,sl2_f,iN h0])
 ·have he:i=(moC m).length:=by omega
  exact lX mdL [sl (Cl.cs_len (moC m)),rp 3 (df ((i:Int)<((moC m).length:Int))),bf false] (n) (by rw [he,List.drop_length,sl2_f])
abbrev sl4_I(m:Mo)(j:Int)(n:Int)(e:Ext):S:=S.mk [(1,.lp 1 0),(2,.v (.bool false)),(3,vI6 n),(8,vI6 j)] [(1,moV m)] e
def sl4_f  : List In->(Int)->(Int)
 | [],n=>(n)
 | el::r,n=>(if n<=4000 then sl4_f  r (IntKind.wrap .i64 (IntKind.wrap .i64 (IntKind.wrap .i64 (IntKind.wrap .i64 (n+1)+((inNe el).length:Int))+ctF [inT el] 4000)+cdF (inD el) 4000)) else (n))
def sl4_q(m:Mo)(e:Ext)(p:(Int)):PExit × S:=(.exit 8,S.mk [(1,.lp 1 0),(2,.v (.bool false)),(3,vI6 p)] [(1,moV m)] e)
theorem sl4(m:Mo)(s1:¬((moD m).length:Int)>80)(s2:¬((moC m).length:Int)>80)(s3:¬((moI m).length:Int)>80)(s4:¬((moM m).length:Int)>80)(s5:¬((moQ m).length:Int)>80)(s6:¬((moF m).length:Int)>80)(hA:∀ (d:Da) (c:Cn) (k:Int),d∈moD m->c∈daC d->Pu 23 [.sl 9 (Tp.cs (cnF c)),.int .i64 k] (.ret (.int .i64 (ctF (cnF c) k))))(l1:∀c∈moD m,(daC c).length<=1048576)(hI:∀ (k:Int),Pu 22 [.sl 25 (Df.cs (moF m)),.int .i64 k] (.ret (.int .i64 (cdF (moF m) k))))(hB:∀ (c:Cl) (p:Pm) (k:Int),c∈moC m->p∈clM c->Pu 23 [.sl 9 [tpL (pmT p)],.int .i64 k] (.ret (.int .i64 (ctF [pmT p] k))))(l2:∀c∈moC m,(clM c).length<=1048576)(hC:∀ (x:In) (k:Int),x∈moI m->Pu 23 [.sl 9 [tpL (inT x)],.int .i64 k] (.ret (.int .i64 (ctF [inT x] k))))(hD:∀ (x:In) (k:Int),x∈moI m->Pu 22 [.sl 25 (Df.cs (inD x)),.int .i64 k] (.ret (.int .i64 (cdF (inD x) k))))(n:Int)(e:Ext)(hN:(moI m).length<=1000000000)  : (Ob.loop 303 (loopF f8 4) (sl4_I m 0 n e) (sl4_q m e (sl4_f  ((moI m))  n)).1 (sl4_q m e (sl4_f  ((moI m))  n)).2).ok prog:=by
 refine rng ((moI m).length) (fun j n=>sl4_I m j n e) (fun i n=>sl4_f  (List.drop i ((moI m)))  n) (sl4_q m e) (fun i n=>True) kR ?_ n trivial
 rintro i n hi -
 rcases Nat.lt_or_ge i ((moI m).length) with hlt | hge
 ·have hd:=drop_at hlt
  by_cases h0:n<=4000
  ·exact lN mdL [sl (In.cs_len (moI m)),rp 3 (dt ((i:Int)<((moI m).length:Int))),dt1 h0,kp,am ((0:Int)<=(i:Int)/\(i:Int)<((In.cs (moI m)).length:Int)) (by (simp only [In.cs_len]; omega)),xIn (moI m) i hlt,sl (Vr.cs_len (inNe (List.getD (moI m) i default))),kp,am ((0:Int)<=(i:Int)/\(i:Int)<((In.cs (moI m)).length:Int)) (by (simp only [In.cs_len]; omega)),xIn (moI m) i hlt,cl (@hC (List.getD (moI m) i default) (4000) (by simp_all [List.length_map,List.length_append,List.length_cons,List.length_nil,nmsC_len,Pr.cs_len,Tp.cs_len,Pm.cs_len,Ex.cs_len,Al.cs_len,Vr.cs_len,Cn.cs_len,Da.cs_len,Cl.cs_len,Bo.cs_len,Df.cs_len,In.cs_len,Cs.cs_len,Ms.cs_len,Qu.cs_len,Int.toNat_natCast])),kp,am ((0:Int)<=(i:Int)/\(i:Int)<((In.cs (moI m)).length:Int)) (by (simp only [In.cs_len]; omega)),xIn (moI m) i hlt,cl (@hD (List.getD (moI m) i default) (4000) (by simp_all [List.length_map,List.length_append,List.length_cons,List.length_nil,nmsC_len,Pr.cs_len,Tp.cs_len,Pm.cs_len,Ex.cs_len,Al.cs_len,Vr.cs_len,Cn.cs_len,Da.cs_len,Cl.cs_len,Bo.cs_len,Df.cs_len,In.cs_len,Cs.cs_len,Ms.cs_len,Qu.cs_len,Int.toNat_natCast])),kp,wr ((i:Int)+1)] hlt (IntKind.wrap .i64 (IntKind.wrap .i64 (IntKind.wrap .i64 (IntKind.wrap .i64 (n+1)+((inNe (List.getD (moI m) i default)).length:Int))+ctF [inT (List.getD (moI m) i default)] 4000)+cdF (inD (List.getD (moI m) i default)) 4000)) trivial (by rw [hd,sl4_f,iP h0])
  ·exact lX mdL [sl (In.cs_len (moI m)),rp 3 (dt ((i:Int)<((moI m).length:Int))),df1 h0] (n) (by rw [hd,sl4_f,iN h0])
 ·have he:i=(moI m).length:=by omega
  exact lX mdL [sl (In.cs_len (moI m)),rp 3 (df ((i:Int)<((moI m).length:Int))),bf false] (n) (by rw [he,List.drop_length,sl4_f])
abbrev sl6_I(m:Mo)(o:Nat)(n0:Int)(xe:Ext)(j:Int)(n:Int)  : S:=S.mk [(1,.lp 1 0),(2,.v (.bool false)),(3,vI6 n),(9,vI6 (o:Int)),(10,vI6 j)] [(1,moV m)] xe
def sl6_f  : List Cs->(Int)->(Int)
 | [],n=>(n)
 | el::r,n=>(if n<=4000 then sl6_f  r (IntKind.wrap .i64 (IntKind.wrap .i64 (IntKind.wrap .i64 (n+1)+((csNs el).length:Int))+cpF [csB el] 4000)) else (n))
def sl6_q(m:Mo)(o:Nat)(n0:Int)(xe:Ext)(p:(Int)):PExit × S:=(.exit 12,S.mk [(1,.lp 1 0),(2,.v (.bool false)),(3,vI6 p),(9,vI6 (o:Int))] [(1,moV m)] xe)
theorem sl6(m:Mo)(o:Nat)(ho:o<(moM m).length)(n0:Int)(xe:Ext)(hGo:∀ (c:Cs) (k:Int),c∈msC ((moM m).getD o default)->Pu 24 [.sl 4 [prL (csB c)],.int .i64 k] (.ret (.int .i64 (cpF [csB c] k))))(l3:∀c∈moM m,(msC c).length<=1048576)(n:Int)(hN:List.length ((msC ((moM m).getD o default)))<=1000000000)  : (Ob.loop 303 (loopF f8 6) (sl6_I m o n0 xe 0 n) (sl6_q m o n0 xe  (sl6_f  ((msC ((moM m).getD o default)))  n)).1 (sl6_q m o n0 xe  (sl6_f  ((msC ((moM m).getD o default)))  n)).2).ok prog:=by
 refine rng (List.length ((msC ((moM m).getD o default)))) (fun j n=>sl6_I m o n0 xe j n) (fun i n=>sl6_f  (List.drop i ((msC ((moM m).getD o default))))  n) (sl6_q m o n0 xe) (fun i n=>True) kR ?_ n trivial
 rintro i n hi -
 rcases Nat.lt_or_ge i (List.length ((msC ((moM m).getD o default)))) with hlt | hge
 ·have hd:=drop_at hlt
  by_cases h0:n<=4000
  ·exact lN mdL [am ((0:Int)<=(o:Int)/\(o:Int)<((Ms.cs (moM m)).length:Int)) (by (simp only [Ms.cs_len]; omega)),xMs (moM m) o ho,sl (Cs.cs_len (msC (List.getD (moM m) o default))),rp 3 (dt ((i:Int)<((msC (List.getD (moM m) o default)).length:Int))),dt1 h0,kp,am ((0:Int)<=(o:Int)/\(o:Int)<((Ms.cs (moM m)).length:Int)) (by (simp only [Ms.cs_len]; omega)),xMs (moM m) o ho,am ((0:Int)<=(i:Int)/\(i:Int)<((Cs.cs (msC (List.getD (moM m) o default))).length:Int)) (by (simp only [Cs.cs_len]; omega)),xCs (msC (List.getD (moM m) o default)) i hlt,sl (nmsC_len (csNs (List.getD (msC (List.getD (moM m) o default)) i default))),kp,am ((0:Int)<=(o:Int)/\(o:Int)<((Ms.cs (moM m)).length:Int)) (by (simp only [Ms.cs_len]; omega)),xMs (moM m) o ho,am ((0:Int)<=(i:Int)/\(i:Int)<((Cs.cs (msC (List.getD (moM m) o default))).length:Int)) (by (simp only [Cs.cs_len]; omega)),xCs (msC (List.getD (moM m) o default)) i hlt,cl (@hGo (List.getD (msC (List.getD (moM m) o default)) i default) (4000) (by simp_all [List.length_map,List.length_append,List.length_cons,List.length_nil,nmsC_len,Pr.cs_len,Tp.cs_len,Pm.cs_len,Ex.cs_len,Al.cs_len,Vr.cs_len,Cn.cs_len,Da.cs_len,Cl.cs_len,Bo.cs_len,Df.cs_len,In.cs_len,Cs.cs_len,Ms.cs_len,Qu.cs_len,Int.toNat_natCast])),kp,wr ((i:Int)+1)] hlt (IntKind.wrap .i64 (IntKind.wrap .i64 (IntKind.wrap .i64 (n+1)+((csNs (List.getD (msC (List.getD (moM m) o default)) i default)).length:Int))+cpF [csB (List.getD (msC (List.getD (moM m) o default)) i default)] 4000)) trivial (by rw [hd,sl6_f,iP h0])
  ·exact lX mdL [am ((0:Int)<=(o:Int)/\(o:Int)<((Ms.cs (moM m)).length:Int)) (by (simp only [Ms.cs_len]; omega)),xMs (moM m) o ho,sl (Cs.cs_len (msC (List.getD (moM m) o default))),rp 3 (dt ((i:Int)<((msC (List.getD (moM m) o default)).length:Int))),df1 h0] (n) (by rw [hd,sl6_f,iN h0])
 ·have he:i=List.length ((msC ((moM m).getD o default))):=by omega
  exact lX mdL [am ((0:Int)<=(o:Int)/\(o:Int)<((Ms.cs (moM m)).length:Int)) (by (simp only [Ms.cs_len]; omega)),xMs (moM m) o ho,sl (Cs.cs_len (msC (List.getD (moM m) o default))),rp 3 (df ((i:Int)<((msC (List.getD (moM m) o default)).length:Int))),bf false] (n) (by rw [he,List.drop_length,sl6_f])
abbrev sl5_I(m:Mo)(j:Int)(n:Int)(e:Ext):S:=S.mk [(1,.lp 1 0),(2,.v (.bool false)),(3,vI6 n),(9,vI6 j)] [(1,moV m)] e
def sl5_f  : List Ms->(Int)->(Int)
 | [],n=>(n)
 | el::r,n=>(if n<=4000 then sl5_f  r (sl6_f (msC el) (IntKind.wrap .i64 (IntKind.wrap .i64 (n+1)+cpF [msI el] 4000))) else (n))
def sl5_q(m:Mo)(e:Ext)(p:(Int)):PExit × S:=(.exit 10,S.mk [(1,.lp 1 0),(2,.v (.bool false)),(3,vI6 p)] [(1,moV m)] e)
theorem sl5(m:Mo)(s1:¬((moD m).length:Int)>80)(s2:¬((moC m).length:Int)>80)(s3:¬((moI m).length:Int)>80)(s4:¬((moM m).length:Int)>80)(s5:¬((moQ m).length:Int)>80)(s6:¬((moF m).length:Int)>80)(hA:∀ (d:Da) (c:Cn) (k:Int),d∈moD m->c∈daC d->Pu 23 [.sl 9 (Tp.cs (cnF c)),.int .i64 k] (.ret (.int .i64 (ctF (cnF c) k))))(l1:∀c∈moD m,(daC c).length<=1048576)(hI:∀ (k:Int),Pu 22 [.sl 25 (Df.cs (moF m)),.int .i64 k] (.ret (.int .i64 (cdF (moF m) k))))(hB:∀ (c:Cl) (p:Pm) (k:Int),c∈moC m->p∈clM c->Pu 23 [.sl 9 [tpL (pmT p)],.int .i64 k] (.ret (.int .i64 (ctF [pmT p] k))))(l2:∀c∈moC m,(clM c).length<=1048576)(hC:∀ (x:In) (k:Int),x∈moI m->Pu 23 [.sl 9 [tpL (inT x)],.int .i64 k] (.ret (.int .i64 (ctF [inT x] k))))(hD:∀ (x:In) (k:Int),x∈moI m->Pu 22 [.sl 25 (Df.cs (inD x)),.int .i64 k] (.ret (.int .i64 (cdF (inD x) k))))(hE:∀ (x:Ms) (k:Int),x∈moM m->Pu 24 [.sl 4 [prL (msI x)],.int .i64 k] (.ret (.int .i64 (cpF [msI x] k))))(hG:∀ (x:Ms) (c:Cs) (k:Int),x∈moM m->c∈msC x->Pu 24 [.sl 4 [prL (csB c)],.int .i64 k] (.ret (.int .i64 (cpF [csB c] k))))(l3:∀c∈moM m,(msC c).length<=1048576)(n:Int)(e:Ext)(hN:(moM m).length<=1000000000)  : (Ob.loop 303 (loopF f8 5) (sl5_I m 0 n e) (sl5_q m e (sl5_f  ((moM m))  n)).1 (sl5_q m e (sl5_f  ((moM m))  n)).2).ok prog:=by
 refine rng ((moM m).length) (fun j n=>sl5_I m j n e) (fun i n=>sl5_f  (List.drop i ((moM m)))  n) (sl5_q m e) (fun i n=>True) kR ?_ n trivial
 rintro i n hi -
 rcases Nat.lt_or_ge i ((moM m).length) with hlt | hge
 ·have hd:=drop_at hlt
  by_cases h0:n<=4000
  ·exact lN mdL [sl (Ms.cs_len (moM m)),rp 3 (dt ((i:Int)<((moM m).length:Int))),dt1 h0,kp,am ((0:Int)<=(i:Int)/\(i:Int)<((Ms.cs (moM m)).length:Int)) (by (simp only [Ms.cs_len]; omega)),xMs (moM m) i hlt,cl (@hE (List.getD (moM m) i default) (4000) (by simp_all [List.length_map,List.length_append,List.length_cons,List.length_nil,nmsC_len,Pr.cs_len,Tp.cs_len,Pm.cs_len,Ex.cs_len,Al.cs_len,Vr.cs_len,Cn.cs_len,Da.cs_len,Cl.cs_len,Bo.cs_len,Df.cs_len,In.cs_len,Cs.cs_len,Ms.cs_len,Qu.cs_len,Int.toNat_natCast])),kp,lp (S.mk [(1,.lp 1 0),(2,.v (.bool false)),(3,vI6 (IntKind.wrap .i64 (IntKind.wrap .i64 (n+1)+cpF [msI (List.getD (moM m) i default)] 4000))),(9,vI6 (i:Int)),(207,vI6 (i:Int)),(208,.lp 1 3),(209,vL 8 (Ms.cs (moM m))),(210,vI6 ((moM m).length:Int)),(211,.v (.bool (decide ((i:Int)<((moM m).length:Int))))),(212,.v (.bool (decide ((i:Int)<((moM m).length:Int))))),(213,vI6 n),(214,.v (.bool (decide (n<=4000)))),(215,.v (.bool (decide (n<=4000)))),(218,vI6 n),(219,vI6 (IntKind.wrap .i64 (n+1))),(220,.lp 1 3),(221,vL 8 (Ms.cs (moM m))),(222,vI6 (i:Int)),(223,.v (.ro (msL (List.getD (moM m) i default)) 0)),(224,.v (.ro (msL (List.getD (moM m) i default)) 4)),(225,.v (.agg (prL (msI (List.getD (moM m) i default))))),(226,LV.full 4 [prL (msI (List.getD (moM m) i default))]),(227,vI6 (cpF [msI (List.getD (moM m) i default)] 4000)),(228,vI6 (IntKind.wrap .i64 (IntKind.wrap .i64 (n+1)+cpF [msI (List.getD (moM m) i default)] 4000))),(10,vI6 0)] [(1,moV m)] e) (@sl6 (m) (i) hlt default (e) (by (apply hG_o <;> first | assumption | omega | decide)) l3 (IntKind.wrap .i64 (IntKind.wrap .i64 (n+1)+cpF [msI (List.getD (moM m) i default)] 4000)) (by (apply l3_le <;> first | assumption | omega | decide))) xr,wr ((i:Int)+1)] hlt (sl6_f (msC (List.getD (moM m) i default)) (IntKind.wrap .i64 (IntKind.wrap .i64 (n+1)+cpF [msI (List.getD (moM m) i default)] 4000))) trivial (by rw [hd,sl5_f,iP h0])
  ·exact lX mdL [sl (Ms.cs_len (moM m)),rp 3 (dt ((i:Int)<((moM m).length:Int))),df1 h0] (n) (by rw [hd,sl5_f,iN h0])
 ·have he:i=(moM m).length:=by omega
  exact lX mdL [sl (Ms.cs_len (moM m)),rp 3 (df ((i:Int)<((moM m).length:Int))),bf false] (n) (by rw [he,List.drop_length,sl5_f])
abbrev sl7_I(m:Mo)(j:Int)(n:Int)(e:Ext):S:=S.mk [(1,.lp 1 0),(2,.v (.bool false)),(3,vI6 n),(11,vI6 j)] [(1,moV m)] e
def sl7_f  : List Qu->(Int)->(Int)
 | [],n=>(n)
 | el::r,n=>(if n<=4000 then sl7_f  r (IntKind.wrap .i64 (IntKind.wrap .i64 (IntKind.wrap .i64 (n+1)+((quW el).length:Int))+cpF [quB el] 4000)) else (n))
def sl7_q(m:Mo)(e:Ext)(p:(Int)):PExit × S:=(.exit 14,S.mk [(1,.lp 1 0),(2,.v (.bool false)),(3,vI6 p)] [(1,moV m)] e)
theorem sl7(m:Mo)(s1:¬((moD m).length:Int)>80)(s2:¬((moC m).length:Int)>80)(s3:¬((moI m).length:Int)>80)(s4:¬((moM m).length:Int)>80)(s5:¬((moQ m).length:Int)>80)(s6:¬((moF m).length:Int)>80)(hA:∀ (d:Da) (c:Cn) (k:Int),d∈moD m->c∈daC d->Pu 23 [.sl 9 (Tp.cs (cnF c)),.int .i64 k] (.ret (.int .i64 (ctF (cnF c) k))))(l1:∀c∈moD m,(daC c).length<=1048576)(hI:∀ (k:Int),Pu 22 [.sl 25 (Df.cs (moF m)),.int .i64 k] (.ret (.int .i64 (cdF (moF m) k))))(hB:∀ (c:Cl) (p:Pm) (k:Int),c∈moC m->p∈clM c->Pu 23 [.sl 9 [tpL (pmT p)],.int .i64 k] (.ret (.int .i64 (ctF [pmT p] k))))(l2:∀c∈moC m,(clM c).length<=1048576)(hC:∀ (x:In) (k:Int),x∈moI m->Pu 23 [.sl 9 [tpL (inT x)],.int .i64 k] (.ret (.int .i64 (ctF [inT x] k))))(hD:∀ (x:In) (k:Int),x∈moI m->Pu 22 [.sl 25 (Df.cs (inD x)),.int .i64 k] (.ret (.int .i64 (cdF (inD x) k))))(hE:∀ (x:Ms) (k:Int),x∈moM m->Pu 24 [.sl 4 [prL (msI x)],.int .i64 k] (.ret (.int .i64 (cpF [msI x] k))))(hG:∀ (x:Ms) (c:Cs) (k:Int),x∈moM m->c∈msC x->Pu 24 [.sl 4 [prL (csB c)],.int .i64 k] (.ret (.int .i64 (cpF [csB c] k))))(l3:∀c∈moM m,(msC c).length<=1048576)(hH:∀ (x:Qu) (k:Int),x∈moQ m->Pu 24 [.sl 4 [prL (quB x)],.int .i64 k] (.ret (.int .i64 (cpF [quB x] k))))(n:Int)(e:Ext)(hN:(moQ m).length<=1000000000)  : (Ob.loop 303 (loopF f8 7) (sl7_I m 0 n e) (sl7_q m e (sl7_f  ((moQ m))  n)).1 (sl7_q m e (sl7_f  ((moQ m))  n)).2).ok prog:=by
 refine rng ((moQ m).length) (fun j n=>sl7_I m j n e) (fun i n=>sl7_f  (List.drop i ((moQ m)))  n) (sl7_q m e) (fun i n=>True) kR ?_ n trivial
 rintro i n hi -
 rcases Nat.lt_or_ge i ((moQ m).length) with hlt | hge
 ·have hd:=drop_at hlt
  by_cases h0:n<=4000
  ·exact lN mdL [sl (Qu.cs_len (moQ m)),rp 3 (dt ((i:Int)<((moQ m).length:Int))),dt1 h0,kp,am ((0:Int)<=(i:Int)/\(i:Int)<((Qu.cs (moQ m)).length:Int)) (by (simp only [Qu.cs_len]; omega)),xQu (moQ m) i hlt,sl (Vr.cs_len (quW (List.getD (moQ m) i default))),kp,am ((0:Int)<=(i:Int)/\(i:Int)<((Qu.cs (moQ m)).length:Int)) (by (simp only [Qu.cs_len]; omega)),xQu (moQ m) i hlt,cl (@hH (List.getD (moQ m) i default) (4000) (by simp_all [List.length_map,List.length_append,List.length_cons,List.length_nil,nmsC_len,Pr.cs_len,Tp.cs_len,Pm.cs_len,Ex.cs_len,Al.cs_len,Vr.cs_len,Cn.cs_len,Da.cs_len,Cl.cs_len,Bo.cs_len,Df.cs_len,In.cs_len,Cs.cs_len,Ms.cs_len,Qu.cs_len,Int.toNat_natCast])),kp,wr ((i:Int)+1)] hlt (IntKind.wrap .i64 (IntKind.wrap .i64 (IntKind.wrap .i64 (n+1)+((quW (List.getD (moQ m) i default)).length:Int))+cpF [quB (List.getD (moQ m) i default)] 4000)) trivial (by rw [hd,sl7_f,iP h0])
  ·exact lX mdL [sl (Qu.cs_len (moQ m)),rp 3 (dt ((i:Int)<((moQ m).length:Int))),df1 h0] (n) (by rw [hd,sl7_f,iN h0])
 ·have he:i=(moQ m).length:=by omega
  exact lX mdL [sl (Qu.cs_len (moQ m)),rp 3 (df ((i:Int)<((moQ m).length:Int))),bf false] (n) (by rw [he,List.drop_length,sl7_f])
section
variable (m:Mo) (hA:∀ (d:Da) (c:Cn) (k:Int),d∈moD m->c∈daC d->Pu 23 [.sl 9 (Tp.cs (cnF c)),.int .i64 k] (.ret (.int .i64 (ctF (cnF c) k)))) (l1:∀c∈moD m,(daC c).length<=1048576) (hI:∀ (k:Int),Pu 22 [.sl 25 (Df.cs (moF m)),.int .i64 k] (.ret (.int .i64 (cdF (moF m) k)))) (hB:∀ (c:Cl) (p:Pm) (k:Int),c∈moC m->p∈clM c->Pu 23 [.sl 9 [tpL (pmT p)],.int .i64 k] (.ret (.int .i64 (ctF [pmT p] k)))) (l2:∀c∈moC m,(clM c).length<=1048576) (hC:∀ (x:In) (k:Int),x∈moI m->Pu 23 [.sl 9 [tpL (inT x)],.int .i64 k] (.ret (.int .i64 (ctF [inT x] k)))) (hD:∀ (x:In) (k:Int),x∈moI m->Pu 22 [.sl 25 (Df.cs (inD x)),.int .i64 k] (.ret (.int .i64 (cdF (inD x) k)))) (hE:∀ (x:Ms) (k:Int),x∈moM m->Pu 24 [.sl 4 [prL (msI x)],.int .i64 k] (.ret (.int .i64 (cpF [msI x] k)))) (hG:∀ (x:Ms) (c:Cs) (k:Int),x∈moM m->c∈msC x->Pu 24 [.sl 4 [prL (csB c)],.int .i64 k] (.ret (.int .i64 (cpF [csB c] k)))) (l3:∀c∈moM m,(msC c).length<=1048576) (hH:∀ (x:Qu) (k:Int),x∈moQ m->Pu 24 [.sl 4 [prL (quB x)],.int .i64 k] (.ret (.int .i64 (cpF [quB x] k))))
include m hA l1 hI hB l2 hC hD hE hG l3 hH
theorem smA_1(hx0:((moD m).length:Int)>80):Pu 8 [.agg (moL m)] (rB false):=
 pm mdL [sl (Da.cs_len (moD m)),rp 5 (dt1 hx0),rp 21 (bt true)] func8
theorem smA_2(hx0:¬((moD m).length:Int)>80)(hx1:((moC m).length:Int)>80):Pu 8 [.agg (moL m)] (rB false):=
 pm mdL [sl (Da.cs_len (moD m)),rp 3 (df1 hx0),sl (Cl.cs_len (moC m)),rp 2 (df1 hx0),rp 5 (dt1 hx1),rp 16 (bt true)] func8
theorem smA_3(hx0:¬((moD m).length:Int)>80)(hx1:¬((moC m).length:Int)>80)(hx2:((moI m).length:Int)>80):Pu 8 [.agg (moL m)] (rB false):=
 pm mdL [sl (Da.cs_len (moD m)),rp 3 (df1 hx0),sl (Cl.cs_len (moC m)),rp 2 (df1 hx0),rp 3 (df1 hx1),sl (In.cs_len (moI m)),rp 2 (df1 hx1),rp 5 (dt1 hx2),rp 11 (bt true)] func8
theorem smA_4(hx0:¬((moD m).length:Int)>80)(hx1:¬((moC m).length:Int)>80)(hx2:¬((moI m).length:Int)>80)(hx3:((moM m).length:Int)>80):Pu 8 [.agg (moL m)] (rB false):=
 pm mdL [sl (Da.cs_len (moD m)),rp 3 (df1 hx0),sl (Cl.cs_len (moC m)),rp 2 (df1 hx0),rp 3 (df1 hx1),sl (In.cs_len (moI m)),rp 2 (df1 hx1),rp 3 (df1 hx2),sl (Ms.cs_len (moM m)),rp 2 (df1 hx2),rp 5 (dt1 hx3),rp 6 (bt true)] func8
theorem smA_5(hx0:¬((moD m).length:Int)>80)(hx1:¬((moC m).length:Int)>80)(hx2:¬((moI m).length:Int)>80)(hx3:¬((moM m).length:Int)>80)(hx4:((moQ m).length:Int)>80):Pu 8 [.agg (moL m)] (rB false):=
 pm mdL [sl (Da.cs_len (moD m)),rp 3 (df1 hx0),sl (Cl.cs_len (moC m)),rp 2 (df1 hx0),rp 3 (df1 hx1),sl (In.cs_len (moI m)),rp 2 (df1 hx1),rp 3 (df1 hx2),sl (Ms.cs_len (moM m)),rp 2 (df1 hx2),rp 3 (df1 hx3),sl (Qu.cs_len (moQ m)),rp 2 (df1 hx3),rp 5 (dt1 hx4),bt true] func8
theorem smA_6(hx0:¬((moD m).length:Int)>80)(hx1:¬((moC m).length:Int)>80)(hx2:¬((moI m).length:Int)>80)(hx3:¬((moM m).length:Int)>80)(hx4:¬((moQ m).length:Int)>80)(hx5:((moF m).length:Int)>80):Pu 8 [.agg (moL m)] (rB false):=
 pm mdL [sl (Da.cs_len (moD m)),rp 3 (df1 hx0),sl (Cl.cs_len (moC m)),rp 2 (df1 hx0),rp 3 (df1 hx1),sl (In.cs_len (moI m)),rp 2 (df1 hx1),rp 3 (df1 hx2),sl (Ms.cs_len (moM m)),rp 2 (df1 hx2),rp 3 (df1 hx3),sl (Qu.cs_len (moQ m)),rp 2 (df1 hx3),rp 3 (df1 hx4),sl (Df.cs_len (moF m)),rp 2 (df1 hx4),dt1 hx5] func8
theorem smA_7(hx0:¬((moD m).length:Int)>80)(hx1:¬((moC m).length:Int)>80)(hx2:¬((moI m).length:Int)>80)(hx3:¬((moM m).length:Int)>80)(hx4:¬((moQ m).length:Int)>80)(hx5:¬((moF m).length:Int)>80):Pu 8 [.agg (moL m)] (rB (decide (sl7_f (moQ m) (sl5_f (moM m) (sl4_f (moI m) (sl2_f (moC m) (sl0_f (moD m) (cdF (moF m) 4000)))))<=4000))):=
 pu mdL (fun e=>[sl (Da.cs_len (moD m)),rp 3 (df1 hx0),sl (Cl.cs_len (moC m)),rp 2 (df1 hx0),rp 3 (df1 hx1),sl (In.cs_len (moI m)),rp 2 (df1 hx1),rp 3 (df1 hx2),sl (Ms.cs_len (moM m)),rp 2 (df1 hx2),rp 3 (df1 hx3),sl (Qu.cs_len (moQ m)),rp 2 (df1 hx3),rp 3 (df1 hx4),sl (Df.cs_len (moF m)),rp 2 (df1 hx4),df1 hx5,cl (@hI (4000)),lp (S.mk [(0,.v (.agg (moL m))),(1,.lp 1 0),(2,.v (.bool false)),(12,.lp 1 0),(13,vL 4 (Da.cs (moD m))),(14,vI6 ((moD m).length:Int)),(15,.v (.bool (decide (((moD m).length:Int)>80)))),(16,.v (.bool (decide (((moD m).length:Int)>80)))),(17,.lp 1 1),(18,vL 3 (Cl.cs (moC m))),(19,vI6 ((moC m).length:Int)),(20,.v (.bool (decide (((moC m).length:Int)>80)))),(21,.v (.bool (decide (((moC m).length:Int)>80)))),(22,.v (.bool (decide (((moC m).length:Int)>80)))),(23,.lp 1 2),(24,vL 12 (In.cs (moI m))),(25,vI6 ((moI m).length:Int)),(26,.v (.bool (decide (((moI m).length:Int)>80)))),(27,.v (.bool (decide (((moI m).length:Int)>80)))),(28,.v (.bool (decide (((moI m).length:Int)>80)))),(29,.lp 1 3),(30,vL 8 (Ms.cs (moM m))),(31,vI6 ((moM m).length:Int)),(32,.v (.bool (decide (((moM m).length:Int)>80)))),(33,.v (.bool (decide (((moM m).length:Int)>80)))),(34,.v (.bool (decide (((moM m).length:Int)>80)))),(35,.lp 1 4),(36,vL 6 (Qu.cs (moQ m))),(37,vI6 ((moQ m).length:Int)),(38,.v (.bool (decide (((moQ m).length:Int)>80)))),(39,.v (.bool (decide (((moQ m).length:Int)>80)))),(40,.v (.bool (decide (((moQ m).length:Int)>80)))),(41,.lp 1 5),(42,vL 25 (Df.cs (moF m))),(43,vI6 ((moF m).length:Int)),(44,.v (.bool (decide (((moF m).length:Int)>80)))),(45,.v (.bool (decide (((moF m).length:Int)>80)))),(46,.lp 1 5),(47,vL 25 (Df.cs (moF m))),(48,vI6 (cdF (moF m) 4000)),(3,vI6 (cdF (moF m) 4000)),(4,vI6 0)] [(1,moV m)] e) (@sl0 (m) hx0 hx1 hx2 hx3 hx4 hx5 hA l1 hI (cdF (moF m) 4000) (e) oM) xr,lq (@sl2 (m) hx0 hx1 hx2 hx3 hx4 hx5 hA l1 hI hB l2 (sl0_f (moD m) (cdF (moF m) 4000)) (e) oM),lq (@sl4 (m) hx0 hx1 hx2 hx3 hx4 hx5 hA l1 hI hB l2 hC hD (sl2_f (moC m) (sl0_f (moD m) (cdF (moF m) 4000))) (e) oM),lq (@sl5 (m) hx0 hx1 hx2 hx3 hx4 hx5 hA l1 hI hB l2 hC hD hE hG l3 (sl4_f (moI m) (sl2_f (moC m) (sl0_f (moD m) (cdF (moF m) 4000)))) (e) oM),lq (@sl7 (m) hx0 hx1 hx2 hx3 hx4 hx5 hA l1 hI hB l2 hC hD hE hG l3 hH (sl5_f (moM m) (sl4_f (moI m) (sl2_f (moC m) (sl0_f (moD m) (cdF (moF m) 4000))))) (e) oM)]) func8
end
theorem mixedW:prog.follows .mixedOrders=true:=by kernel_rfl
def modA:List (Nat × Nat × Bool):=[(26,91,true),(26,103,false),(40,91,true),(40,103,false),(40,72,true),(43,91,true),(43,103,true),(43,79,true),(46,91,true),(46,34,false),(49,72,false),(49,91,true),(72,91,true),(92,86,true),(100,50,true),(105,54,false),(105,34,false),(105,91,true),(105,103,false),(128,91,true),(128,34,true),(154,32,false),(155,41,true),(155,91,true),(155,34,true),(199,3,false),(206,91,true),(206,34,true)]
def mdA(f:FuncId):Md:=⟨fun t=>match modA.find? fun x=>x.1==f&&x.2.1==t with
 | some (_,_,true)=>some true
 | some (_,_,false)=>none
 | none=>some false,fun _=>false⟩
theorem awake_ok:Pu 9 [] (.ret (.bool true)):=Ob.pur_of_fast mdA 60 60 mixedW kR rfl rfl
theorem mo_bulk(m:Mo):bulkPss (Da.cs (moD m))+bulkPss (Cl.cs (moC m))+bulkPss (In.cs (moI m))+bulkPss (Ms.cs (moM m))+bulkPss (Qu.cs (moQ m))+bulkPss (Df.cs (moF m))<=bulkPs (moL m):=by simp only [bulkPs,bulkP]; omega
theorem da_bulk(x:Da):bulkPss (Cn.cs (daC x))+bulkPss (Vr.cs (daP x))+bulkPss (nmsC (daVs x))<bulkPs (daL x):=by simp only [bulkPs,bulkP]; omega
theorem cn_bulk(x:Cn):bulkPss (Tp.cs (cnF x))+bulkPss (nmsC (cnNs x))<bulkPs (cnL x):=by simp only [bulkPs,bulkP]; omega
theorem cl_bulk(x:Cl):bulkPss (Pm.cs (clM x))<bulkPs (clL x):=by simp only [bulkPs,bulkP]; omega
theorem in_bulk(x:In):bulkPs (tpL (inT x))+bulkPss (Df.cs (inD x))<bulkPs (inL x):=by simp only [bulkPs,bulkP]; omega
theorem ms_bulk(x:Ms):bulkPs (prL (msI x))+bulkPss (Cs.cs (msC x))<bulkPs (msL x):=by simp only [bulkPs,bulkP]; omega
theorem cs_bulk(x:Cs):bulkPs (prL (csB x))<bulkPs (csL x):=by simp only [bulkPs,bulkP]; omega
theorem qu_bulk(x:Qu):bulkPs (prL (quB x))<bulkPs (quL x):=by simp only [bulkPs,bulkP]; omega
theorem cdT2(l:List Df)(mx:Int)(hs:bulkPss (Df.cs l)<=100000000):Pu 22 [.sl 25 (Df.cs l),.int .i64 mx] (.ret (.int .i64 (cdF l mx))):=
 cdL l mx (fun d k hd=>ctT1 _ k (by have:=df_bulk d; have:=Df.mem hd; omega)) (fun d k hd=>cpT _ k (by have:=df_bulk d; have:=Df.mem hd; omega)) (fun d b k hd hb=>cpT2 _ _ k (by have:=df_bulk d; have:=Df.mem hd; have:=bo_bulk b; have:=Bo.mem hb; omega)) (fun d k hd=>paT _ k (by have:=df_bulk d; have:=Df.mem hd; omega)) (fun d hd=>by have:=df_bulk d; have:=Df.mem hd; have:=Bo.bulk (dfBo d); omega) (by have:=Df.bulk l; omega)
theorem smX(m:Mo)(hA:∀ (d:Da) (c:Cn) (k:Int),d∈moD m->c∈daC d->Pu 23 [.sl 9 (Tp.cs (cnF c)),.int .i64 k] (.ret (.int .i64 (ctF (cnF c) k))))(l1:∀c∈moD m,(daC c).length<=1048576)(hI:∀ (k:Int),Pu 22 [.sl 25 (Df.cs (moF m)),.int .i64 k] (.ret (.int .i64 (cdF (moF m) k))))(hB:∀ (c:Cl) (p:Pm) (k:Int),c∈moC m->p∈clM c->Pu 23 [.sl 9 [tpL (pmT p)],.int .i64 k] (.ret (.int .i64 (ctF [pmT p] k))))(l2:∀c∈moC m,(clM c).length<=1048576)(hC:∀ (x:In) (k:Int),x∈moI m->Pu 23 [.sl 9 [tpL (inT x)],.int .i64 k] (.ret (.int .i64 (ctF [inT x] k))))(hD:∀ (x:In) (k:Int),x∈moI m->Pu 22 [.sl 25 (Df.cs (inD x)),.int .i64 k] (.ret (.int .i64 (cdF (inD x) k))))(hE:∀ (x:Ms) (k:Int),x∈moM m->Pu 24 [.sl 4 [prL (msI x)],.int .i64 k] (.ret (.int .i64 (cpF [msI x] k))))(hG:∀ (x:Ms) (c:Cs) (k:Int),x∈moM m->c∈msC x->Pu 24 [.sl 4 [prL (csB c)],.int .i64 k] (.ret (.int .i64 (cpF [csB c] k))))(l3:∀c∈moM m,(msC c).length<=1048576)(hH:∀ (x:Qu) (k:Int),x∈moQ m->Pu 24 [.sl 4 [prL (quB x)],.int .i64 k] (.ret (.int .i64 (cpF [quB x] k)))):∃b,Pu 8 [.agg (moL m)] (.ret (.bool b)):=by
 by_cases h0:(((moD m).length:Nat):Int)>80
 ·exact ⟨_,smA_1 m hA l1 hI hB l2 hC hD hE hG l3 hH h0⟩
 by_cases h1:(((moC m).length:Nat):Int)>80
 ·exact ⟨_,smA_2 m hA l1 hI hB l2 hC hD hE hG l3 hH h0 h1⟩
 by_cases h2:(((moI m).length:Nat):Int)>80
 ·exact ⟨_,smA_3 m hA l1 hI hB l2 hC hD hE hG l3 hH h0 h1 h2⟩
 by_cases h3:(((moM m).length:Nat):Int)>80
 ·exact ⟨_,smA_4 m hA l1 hI hB l2 hC hD hE hG l3 hH h0 h1 h2 h3⟩
 by_cases h4:(((moQ m).length:Nat):Int)>80
 ·exact ⟨_,smA_5 m hA l1 hI hB l2 hC hD hE hG l3 hH h0 h1 h2 h3 h4⟩
 by_cases h5:(((moF m).length:Nat):Int)>80
 ·exact ⟨_,smA_6 m hA l1 hI hB l2 hC hD hE hG l3 hH h0 h1 h2 h3 h4 h5⟩
 exact ⟨_,smA_7 m hA l1 hI hB l2 hC hD hE hG l3 hH h0 h1 h2 h3 h4 h5⟩
theorem small_ok(m:Mo)(hs:bulkPs (moL m)<=1048576):∃b,Pu 8 [.agg (moL m)] (.ret (.bool b)):=by
 have h0:=mo_bulk m
 have w1:=fun {d} (h:d∈moD m)=>Nat.le_trans (Da.mem h) (by omega:bulkPss (Da.cs (moD m))<=1048576)
 have w2:=fun {d} (h:d∈moC m)=>Nat.le_trans (Cl.mem h) (by omega:bulkPss (Cl.cs (moC m))<=1048576)
 have w3:=fun {d} (h:d∈moI m)=>Nat.le_trans (In.mem h) (by omega:bulkPss (In.cs (moI m))<=1048576)
 have w4:=fun {d} (h:d∈moM m)=>Nat.le_trans (Ms.mem h) (by omega:bulkPss (Ms.cs (moM m))<=1048576)
 have w5:=fun {d} (h:d∈moQ m)=>Nat.le_trans (Qu.mem h) (by omega:bulkPss (Qu.cs (moQ m))<=1048576)
 refine smX m (fun d c k hd hc=>ctT _ k (by have:=w1 hd; have:=da_bulk d; have:=Cn.mem hc; have:=cn_bulk c; omega))
  (fun d hd=>by have:=w1 hd; have:=da_bulk d; have:=Cn.bulk (daC d); omega)
  (fun k=>cdT2 _ k oM)
  (fun c p k hc hp=>ctT1 _ k (by have:=w2 hc; have:=cl_bulk c; have:=Pm.mem hp; have:=pm_bulk p; omega))
  (fun c hc=>by have:=w2 hc; have:=cl_bulk c; have:=Pm.bulk (clM c); omega)
  (fun x k hx=>ctT1 _ k (by have:=w3 hx; have:=in_bulk x; omega))
  (fun x k hx=>cdT2 _ k (by have:=w3 hx; have:=in_bulk x; omega))
  (fun x k hx=>cpT1 _ k (by have:=w4 hx; have:=ms_bulk x; omega))
  (fun x c k hx hc=>cpT1 _ k (by have:=w4 hx; have:=ms_bulk x; have:=Cs.mem hc; have:=cs_bulk c; omega))
  (fun x hx=>by have:=w4 hx; have:=ms_bulk x; have:=Cs.bulk (msC x); omega)
  (fun x k hx=>cpT1 _ k (by have:=w5 hx; have:=qu_bulk x; omega))
abbrev X5(st:St):Ext:=[(0,[.mm (mks st.a)]),(1,[.mm (mks st.b)]),(2,[.mm (mks st.c)]),(3,[.mm (mks st.d)]),(4,[.mm (mks st.f)])]
abbrev X6(st:St):Ext:=[(0,[.mm (mks st.a)]),(1,[.mm (mks st.b)]),(2,[.mm (mks st.c)]),(3,[.mm (mks st.d)]),(4,[.mm (mks st.f)]),(5,[.mm (mks st.g)])]
def frL{α:Type}(ge:α->List BA->Int)(nm:α->BA):List α->List BA->Int × List BA
 | [],k=>(0,k)
 | x::r,k=>if ge x k=0 then frL ge nm r (adK (nm x) k) else (ge x k,adK (nm x) k)
theorem frS_L{α:Type}(get:St->List BA)(set:List BA->St->St)(h1:∀v st,get (set v st)=v)(h2:∀v w st,set v (set w st)=set v st)(h3:∀st,set (get st) st=st)(ge:α->List BA->Int)(nm:α->BA) :
  ∀ (l:List α) (st:St),frS (fun x st=>ge x (get st)) (fun x st=>set (adK (nm x) (get st)) st) l st=((frL ge nm l (get st)).1,set (frL ge nm l (get st)).2 st)
 | [],st=>by simp only [frS,frL,h3]
 | x::r,st=>by
  simp only [frS,frL]
  by_cases h:ge x (get st)=0
  ·rw [iP h,iP h,frS_L get set h1 h2 h3 ge nm r,h1,h2]
  ·rw [iN h,iN h]
def prE(m:Mo)(vs:List BA)(x:Vr)(g:List BA):Int:=fi3 (erN (nameB (vrNm x))) (twE (vrNm x) g) (soS_r0 m (vrS x) vs)
theorem d5T(m:Mo)(y:Da)(a b c d f:List BA)(g:List BA)(hz:Sz m)(hv0:(daVs y).length<=1000000000)(l:List Vr)(hN:l.length<=1000000000):Ef 73 [.sl 2 (Vr.cs l),.fn (.func 74) [] [.ro (wL m) 0,.ro [.mp 5] 0,.ro (daL y) 0]] [(0,[.mm (mks a)]),(1,[.mm (mks b)]),(2,[.mm (mks c)]),(3,[.mm (mks d)]),(4,[.mm (mks f)]),(5,[.mm (mks g)])] (.ret (.int .i64 (frL (prE m (daVs y)) vrNm l g).1)) [(0,[.mm (mks a)]),(1,[.mm (mks b)]),(2,[.mm (mks c)]),(3,[.mm (mks d)]),(4,[.mm (mks f)]),(5,[.mm (mks (frL (prE m (daVs y)) vrNm l g).2)])]:=by
 have h:=esVT l 74 [.ro (wL m) 0,.ro [.mp 5] 0,.ro (daL y) 0] X6 (fun x st=>prE m (daVs y) x st.g) (fun x st=>⟨st.a,st.b,st.c,st.d,st.f,adK (vrNm x) st.g⟩) (fun k w st _=>by obtain ⟨a,b,c,d,f,g⟩:=st; exact d1 m y k w a b c d f g hz hv0) ⟨a,b,c,d,f,g⟩ hN
 rw [frS_L (·.g) (fun v st=>⟨st.a,st.b,st.c,st.d,st.f,v⟩) (fun _ _=>rfl) (fun _ _ _=>rfl) (fun _=>rfl) (prE m (daVs y)) vrNm l] at h
 exact h
theorem d5N(m:Mo)(y:Da)(a b c d f:List BA)(hz:Sz m)(hv0:(daVs y).length<=1000000000)(l:List Vr)(hN:l.length<=1000000000):Ef 73 [.sl 2 (Vr.cs l),.fn (.func 74) [] [.ro (wL m) 0,.ro [.mp 5] 0,.ro (daL y) 0]] [(0,[.mm (mks a)]),(1,[.mm (mks b)]),(2,[.mm (mks c)]),(3,[.mm (mks d)]),(4,[.mm (mks f)]),(5,[.mm []])] (.ret (.int .i64 (frL (prE m (daVs y)) vrNm l []).1)) [(0,[.mm (mks a)]),(1,[.mm (mks b)]),(2,[.mm (mks c)]),(3,[.mm (mks d)]),(4,[.mm (mks f)]),(5,[.mm (mks (frL (prE m (daVs y)) vrNm l []).2)])]:=d5T m y a b c d f [] hz hv0 l hN
theorem d6T(m:Mo)(y:Da)(a b c d f:List BA)(g:List BA)(hz:Sz m)(hv0:(daVs y).length<=1000000000)(l:List Cn)(hN:l.length<=1000000000)(hs:∀x∈l,bulkPs (cnL x)<=100000000):Ef 76 [.sl 3 (Cn.cs l),.fn (.func 77) [] [.ro (wL m) 0,.ro [.mp 1] 0,.ro (daL y) 0]] [(0,[.mm (mks a)]),(1,[.mm (mks b)]),(2,[.mm (mks c)]),(3,[.mm (mks d)]),(4,[.mm (mks f)]),(5,[.mm (mks g)])] (.ret (.int .i64 (frL (d2_r0 m y) cnNm l b).1)) [(0,[.mm (mks a)]),(1,[.mm (mks (frL (d2_r0 m y) cnNm l b).2)]),(2,[.mm (mks c)]),(3,[.mm (mks d)]),(4,[.mm (mks f)]),(5,[.mm (mks g)])]:=by
 have h:=esCT l 77 [.ro (wL m) 0,.ro [.mp 1] 0,.ro (daL y) 0] X6 (fun x st=>d2_r0 m y x st.b) (fun x st=>⟨st.a,adK (cnNm x) st.b,st.c,st.d,st.f,st.g⟩) (fun k w st hw=>by
  obtain ⟨a,b,c,d,f,g⟩:=st
  have h1:=hs w hw
  have h2:=cn_bulk w
  exact d2 m y k w a b c d f g hz hv0 (fun t ht=>by have:=Tp.mem ht; omega) (by have:=Tp.bulk (cnF w); omega) (by have:=nms_bulk (cnNs w); omega)) ⟨a,b,c,d,f,g⟩ hN
 rw [frS_L (·.b) (fun v st=>⟨st.a,v,st.c,st.d,st.f,st.g⟩) (fun _ _=>rfl) (fun _ _ _=>rfl) (fun _=>rfl) (d2_r0 m y) cnNm l] at h
 exact h
section
variable (m:Mo) (y:Da) (a b c d f:List BA) (hz:Sz m) (hv0:(daVs y).length<=1000000000) (hNP:(daP y).length<=1000000000) (hNC:(daC y).length<=1000000000) (hs:∀x∈daC y,bulkPs (cnL x)<=100000000) (hx0:fi5 (erN (titleB (daNm y))) (twE (daNm y) a) (whE (decide (((daVs y).length:Int)>6)) 13) (alE (daVs y)) (whE (decide (((daP y).length:Int)>6)) 13)=0)
include m y a b c d f hz hv0 hNP hNC hs hx0
theorem da_2(hx1:¬fi2 (Prod.fst (frL (prE m (daVs y)) vrNm (daP y) [])) (whE (decide (((daC y).length:Int)<1)||decide (((daC y).length:Int)>8)) 13)=0):Ef 40 [.agg (wL m),.agg (daL y),PV.mp 0,PV.mp 1] ([(0,[LV.mm (mks a)]),(1,[LV.mm (mks b)]),(2,[LV.mm (mks c)]),(3,[LV.mm (mks d)]),(4,[LV.mm (mks f)])]) (rI (fi2 (Prod.fst (frL (prE m (daVs y)) vrNm (daP y) [])) (whE (decide (((daC y).length:Int)<1)||decide (((daC y).length:Int)>8)) 13))) ([(0,[LV.mm (mks (adK (daNm y) a))]),(1,[LV.mm (mks b)]),(2,[LV.mm (mks c)]),(3,[LV.mm (mks d)]),(4,[LV.mm (mks f)]),(5,[LV.mm (mks (Prod.snd (frL (prE m (daVs y)) vrNm (daP y) [])))])]):=
 ef mdW [cl (@wTi (m) (daNm y)),ce (@on05T (daNm y) (a) (b) (c) (d) (f)),sl (nmsC_len (daVs y)),cl (@whT (decide (((daVs y).length:Int)>6)) (13)),cl (@alT (m) (daVs y) hv0),sl (Vr.cs_len (daP y)),cl (@whT (decide (((daP y).length:Int)>6)) (13)),cl (@fs5T (erN (titleB (daNm y))) (twE (daNm y) a) (whE (decide (((daVs y).length:Int)>6)) 13) (alE (daVs y)) (whE (decide (((daP y).length:Int)>6)) 13)),nn1 hx0,ce (@d5N (m) (y) (adK (daNm y) a) (b) (c) (d) (f) hz hv0 (daP y) hNP),sl (Cn.cs_len (daC y)),mg,av (.v (.bool (bif decide (((daC y).length:Int)<1) then true else decide ((↑((fun x=>List.length (Prod.snd x)) (3,Cn.cs (daC y))):Int)>8)))) (.v (.bool (decide (((daC y).length:Int)<1)||decide (((daC y).length:Int)>8)))) (by (simp only [Cn.cs_len,Bool.cond_true_left]; done)),cl (@whT (decide (((daC y).length:Int)<1)||decide (((daC y).length:Int)>8)) (13)),cl (@fs2T (Prod.fst (frL (prE m (daVs y)) vrNm (daP y) [])) (whE (decide (((daC y).length:Int)<1)||decide (((daC y).length:Int)>8)) 13)),nt1 hx1] func40
theorem da_3(hx1:fi2 (Prod.fst (frL (prE m (daVs y)) vrNm (daP y) [])) (whE (decide (((daC y).length:Int)<1)||decide (((daC y).length:Int)>8)) 13)=0):Ef 40 [.agg (wL m),.agg (daL y),PV.mp 0,PV.mp 1] ([(0,[LV.mm (mks a)]),(1,[LV.mm (mks b)]),(2,[LV.mm (mks c)]),(3,[LV.mm (mks d)]),(4,[LV.mm (mks f)])]) (rI (Prod.fst (frL (d2_r0 m y) cnNm (daC y) b))) ([(0,[LV.mm (mks (adK (daNm y) a))]),(1,[LV.mm (mks (Prod.snd (frL (d2_r0 m y) cnNm (daC y) b)))]),(2,[LV.mm (mks c)]),(3,[LV.mm (mks d)]),(4,[LV.mm (mks f)]),(5,[LV.mm (mks (Prod.snd (frL (prE m (daVs y)) vrNm (daP y) [])))])]):=
 ef mdW [cl (@wTi (m) (daNm y)),ce (@on05T (daNm y) (a) (b) (c) (d) (f)),sl (nmsC_len (daVs y)),cl (@whT (decide (((daVs y).length:Int)>6)) (13)),cl (@alT (m) (daVs y) hv0),sl (Vr.cs_len (daP y)),cl (@whT (decide (((daP y).length:Int)>6)) (13)),cl (@fs5T (erN (titleB (daNm y))) (twE (daNm y) a) (whE (decide (((daVs y).length:Int)>6)) 13) (alE (daVs y)) (whE (decide (((daP y).length:Int)>6)) 13)),nn1 hx0,ce (@d5N (m) (y) (adK (daNm y) a) (b) (c) (d) (f) hz hv0 (daP y) hNP),sl (Cn.cs_len (daC y)),mg,av (.v (.bool (bif decide (((daC y).length:Int)<1) then true else decide ((↑((fun x=>List.length (Prod.snd x)) (3,Cn.cs (daC y))):Int)>8)))) (.v (.bool (decide (((daC y).length:Int)<1)||decide (((daC y).length:Int)>8)))) (by (simp only [Cn.cs_len,Bool.cond_true_left]; done)),cl (@whT (decide (((daC y).length:Int)<1)||decide (((daC y).length:Int)>8)) (13)),cl (@fs2T (Prod.fst (frL (prE m (daVs y)) vrNm (daP y) [])) (whE (decide (((daC y).length:Int)<1)||decide (((daC y).length:Int)>8)) 13)),nn1 hx1,ce (@d6T (m) (y) (adK (daNm y) a) (b) (c) (d) (f) (Prod.snd (frL (prE m (daVs y)) vrNm (daP y) [])) hz hv0 (daC y) hNC hs)] func40
end
theorem isM_mks(k:List BA):isM [.mm (mks k)]=true:=by
 show (mks k).all (fun x=>x.2.noX)=true
 induction k with
 | nil=>rfl
 | cons x r ih=>simp only [mks,List.all_cons,ih]; rfl
theorem drop6{F:FuncId}{args:List PV}{r:CRes}{e:Ext}{a b c d f g:List BA}(hr:r.noX=true)(hc:cnt e=5)(h:Ef F args e r [(0,[.mm (mks a)]),(1,[.mm (mks b)]),(2,[.mm (mks c)]),(3,[.mm (mks d)]),(4,[.mm (mks f)]),(5,[.mm (mks g)])]):Ef F args e r [(0,[.mm (mks a)]),(1,[.mm (mks b)]),(2,[.mm (mks c)]),(3,[.mm (mks d)]),(4,[.mm (mks f)])]:=by
 refine Ob.eff_drop hr (by rw [hc]; rfl) (fun x cs hx=>?_) h
 simp only [lk] at hx ⊢
 split at hx
 ·rename_i e0; subst e0; injection hx with hx; subst hx; exact ⟨rfl,isM_mks _⟩
 ·split at hx
  ·rename_i e0; subst e0; injection hx with hx; subst hx; exact ⟨rfl,isM_mks _⟩
  ·split at hx
   ·rename_i e0; subst e0; injection hx with hx; subst hx; exact ⟨rfl,isM_mks _⟩
   ·split at hx
    ·rename_i e0; subst e0; injection hx with hx; subst hx; exact ⟨rfl,isM_mks _⟩
    ·split at hx
     ·rename_i e0; subst e0; injection hx with hx; subst hx; exact ⟨rfl,isM_mks _⟩
     ·cases hx
def da1(y:Da)(a:List BA):Int:=fi5 (erN (titleB (daNm y))) (twE (daNm y) a) (whE (decide (((daVs y).length:Int)>6)) 13) (alE (daVs y)) (whE (decide (((daP y).length:Int)>6)) 13)
def da2(m:Mo)(y:Da):Int:=fi2 (frL (prE m (daVs y)) vrNm (daP y) []).1 (whE (decide (((daC y).length:Int)<1)||decide (((daC y).length:Int)>8)) 13)
def daE(m:Mo)(y:Da)(a b:List BA):Int:=if da1 y a=0 then (if da2 m y=0 then (frL (d2_r0 m y) cnNm (daC y) b).1 else da2 m y) else da1 y a
def daK(m:Mo)(y:Da)(a b:List BA):List BA:=if da1 y a=0 then (if da2 m y=0 then (frL (d2_r0 m y) cnNm (daC y) b).2 else b) else b
theorem daT(m:Mo)(y:Da)(a b c d f:List BA)(hz:Sz m)(hs:bulkPs (daL y)<=100000000):Ef 40 [.agg (wL m),.agg (daL y),.mp 0,.mp 1] [(0,[.mm (mks a)]),(1,[.mm (mks b)]),(2,[.mm (mks c)]),(3,[.mm (mks d)]),(4,[.mm (mks f)])] (.ret (.int .i64 (daE m y a b))) [(0,[.mm (mks (adK (daNm y) a))]),(1,[.mm (mks (daK m y a b))]),(2,[.mm (mks c)]),(3,[.mm (mks d)]),(4,[.mm (mks f)])]:=by
 have hb:=da_bulk y
 have v1:(daVs y).length<=1000000000:=by have:=nms_bulk (daVs y); omega
 have v2:(daP y).length<=1000000000:=by have:=Vr.bulk (daP y); omega
 have v3:(daC y).length<=1000000000:=by have:=Cn.bulk (daC y); omega
 have v4:∀x∈daC y,bulkPs (cnL x)<=100000000:=fun x hx=>by have:=Cn.mem hx; omega
 unfold daE daK
 by_cases h1:da1 y a=0
 ·rw [iP h1,iP h1]
  by_cases h2:da2 m y=0
  ·rw [iP h2,iP h2]; exact drop6 rfl rfl (da_3 m y a b c d f hz v1 v2 v3 v4 h1 h2)
  ·rw [iN h2,iN h2]; exact drop6 rfl rfl (da_2 m y a b c d f hz v1 v2 v3 v4 h1 h2)
 ·rw [iN h1,iN h1]; exact ef mdW [cl (@wTi (m) (daNm y)),ce (@on05T (daNm y) (a) (b) (c) (d) (f)),sl (nmsC_len (daVs y)),cl (@whT (decide (((daVs y).length:Int)>6)) (13)),cl (@alT (m) (daVs y) v1),sl (Vr.cs_len (daP y)),cl (@whT (decide (((daP y).length:Int)>6)) (13)),cl (@fs5T (erN (titleB (daNm y))) (twE (daNm y) a) (whE (decide (((daVs y).length:Int)>6)) 13) (alE (daVs y)) (whE (decide (((daP y).length:Int)>6)) 13)),nt1 h1] func40
theorem mo1(m:Mo)(k:Int)(y:Da)(a b c d f:List BA)(hz:Sz m)(hs:bulkPs (daL y)<=100000000):Ef 39 [pI k,.agg (daL y),.ro (wL m) 0,.ro [PV.mp 0] 0,.ro [PV.mp 1] 0] ([(0,[LV.mm (mks a)]),(1,[LV.mm (mks b)]),(2,[LV.mm (mks c)]),(3,[LV.mm (mks d)]),(4,[LV.mm (mks f)])]) (rI (daE m y a b)) ([(0,[LV.mm (mks (adK (daNm y) a))]),(1,[LV.mm (mks (daK m y a b))]),(2,[LV.mm (mks c)]),(3,[LV.mm (mks d)]),(4,[LV.mm (mks f)])]):=
 ef mdW [ce (@daT (m) (y) (a) (b) (c) (d) (f) hz hs)] func39
end Go.Proofs.YtmllcplaohkjnaaGreatDoor
