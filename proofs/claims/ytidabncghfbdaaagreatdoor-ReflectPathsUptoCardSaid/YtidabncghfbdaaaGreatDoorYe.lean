/- Values of Go as plain data, an evaluator over them, and what the functions of the program return; part Ye. -/
import Derived.Test.YtidabncghfbdaaaGreatDoorYd
import Derived.Test.YtidabncghfbdaaaGreatDoorYa
set_option linter.unusedSectionVars false
set_option linter.unusedSimpArgs false
set_option linter.unusedVariables false
namespace Go.Proofs.YtidabncghfbdaaaGreatDoor
open Go.Proofs.Tryz
open Go.Pv Go.Proofs.Tryz
set_option maxRecDepth 100000
theorem coTL:Pu 74 [.bool true] (.ret (.agg [.int .i64 2,.str nm0,.int .i64 1,.sl 4 []])):=coTT
abbrev anI(l:List Pr)(e:Ext):S:=⟨[(2,.lp 2 0),(3,.lp 3 0),(4,.v (.bool false)),(8,.v (.sl 4 (Pr.cs l))),(9,.v (.int .i64 (l.length:Int))),(10,.v (.int .i64 0))],[(2,[.v (.int .i64 0),.v (.str nm0),.v (.int .i64 0),.v .nilsl]),(3,[.v (.int .i64 2),.v (.str nm0),.v (.int .i64 1),.v (.sl 4 [])])],e⟩
theorem an0(l:List Pr)(hcp:∀w:Pr,w∈l->Pu 73 [.agg (prL w)] (.ret (.agg (prL w))))(hN:l.length<=1000000000)(o:Int)(s:BA)(n:Int)(k:List Pr)(b:Bool)(e:Ext)(hres:anA_f l 2 nm0 1 [] false = .e0 o s n k b):(Ob.loop 33 (loopF f40 0) (anI l e) (anA_q l e (.e0 o s n k b)).1 (anA_q l e (.e0 o s n k b)).2).ok prog:=anA_0 l hcp 2 nm0 1 [] false e hN o s n k b hres
theorem an1(l:List Pr)(hcp:∀w:Pr,w∈l->Pu 73 [.agg (prL w)] (.ret (.agg (prL w))))(hN:l.length<=1000000000)(o:Int)(s:BA)(n:Int)(k:List Pr)(b:Bool)(e:Ext)(hres:anA_f l 2 nm0 1 [] false = .e1 o s n k b):(Ob.loop 33 (loopF f40 0) (anI l e) (anA_q l e (.e1 o s n k b)).1 (anA_q l e (.e1 o s n k b)).2).ok prog:=anA_1 l hcp 2 nm0 1 [] false e hN o s n k b hres
theorem anL_1(l:List Pr)(hcp:∀w:Pr,w∈l->Pu 73 [.agg (prL w)] (.ret (.agg (prL w))))(hN:l.length<=1000000000)(hy0:Int)(hy1:BA)(hy2:Int)(hy3:List Pr)(hy4:Bool)(hx5:anA_f l 2 nm0 1 [] false=anA_R.e0 hy0 hy1 hy2 hy3 hy4):Pu 40 [.sl 4 (Pr.cs l)] (rA [pI 2,.str nm0,pI 0,.sl 4 []]):=
 Ob.pur_wk (Wk.a (kr (kr (kr (kn 4 (WkL.r _)))))) (pu mdL (fun e=>[cl coTL,sl (Pr.cs_len l),lq (@an0 l hcp hN hy0 hy1 hy2 hy3 hy4 e hx5)]) func40)
theorem anL_2(l:List Pr)(hcp:∀w:Pr,w∈l->Pu 73 [.agg (prL w)] (.ret (.agg (prL w))))(hN:l.length<=1000000000)(hy0:Int)(hy1:BA)(hy2:Int)(hy3:List Pr)(hy4:Bool)(hx5:anA_f l 2 nm0 1 [] false=anA_R.e1 hy0 hy1 hy2 hy3 hy4):Pu 40 [.sl 4 (Pr.cs l)] (rA [pI hy0,.str hy1,pI hy2,.sl 4 (Pr.cs hy3)]):=
 pu mdL (fun e=>[cl coTL,sl (Pr.cs_len l),lq (@an1 l hcp hN hy0 hy1 hy2 hy3 hy4 e hx5)]) func40
def andF(l:List Pr):Pr:=match anA_f l 2 nm0 1 [] false with
 | .e0 _ _ _ _ _=>prFa
 | .e1 o s n k _ => .mk o s n k
theorem noL_1(u:Pr)(hcp:Pu 73 [.agg (prL u)] (.ret (.agg (prL u))))(hck:∀w:Pr,w∈prK u->Pu 73 [.agg (prL w)] (.ret (.agg (prL w))))(hN:(prK u).length<=1000000000)(hx0:prO u=14)(hx1:((prK u).length:Int)=1):Pu 61 [.agg (prL u)] (rA (prL (List.getD (prK u) 0 default))):=
 pm mdL [rp 3 (et1 hx0),sl (Pr.cs_len (prK u)),rp 2 (et1 hx0),et1 hx1,mxPr (prK u) 0,xPr (prK u) 0,cl (@hck (List.getD (prK u) 0 default) (by (apply gPr <;> first | assumption | omega | decide)))] func61
theorem noL_2(u:Pr)(hcp:Pu 73 [.agg (prL u)] (.ret (.agg (prL u))))(hck:∀w:Pr,w∈prK u->Pu 73 [.agg (prL w)] (.ret (.agg (prL w))))(hN:(prK u).length<=1000000000)(hx0:prO u=14)(hx1:¬((prK u).length:Int)=1)(hx2:pvo_r0 u=true):Pu 61 [.agg (prL u)] (rA [pI 2,.str nm0,pI 0,.sl 4 []]):=
 Ob.pur_wk (Wk.a (kr (kr (kr (kn 4 (WkL.r _)))))) (pm mdL [rp 3 (et1 hx0),sl (Pr.cs_len (prK u)),rp 2 (et1 hx0),en1 hx1,cl (@pvo u),bt1 hx2,cl coF] func61)
theorem noL_3(u:Pr)(hcp:Pu 73 [.agg (prL u)] (.ret (.agg (prL u))))(hck:∀w:Pr,w∈prK u->Pu 73 [.agg (prL w)] (.ret (.agg (prL w))))(hN:(prK u).length<=1000000000)(hx0:prO u=14)(hx1:¬((prK u).length:Int)=1)(hx2:pvo_r0 u=false)(hx3:psf_r0 u=true):Pu 61 [.agg (prL u)] (rA [pI 2,.str nm0,pI 1,.sl 4 []]):=
 Ob.pur_wk (Wk.a (kr (kr (kr (kn 4 (WkL.r _)))))) (pm mdL [rp 3 (et1 hx0),sl (Pr.cs_len (prK u)),rp 2 (et1 hx0),en1 hx1,cl (@pvo u),bf1 hx2,cl coF,cl (@psf u),bt1 hx3,cl coT] func61)
theorem noL_4(u:Pr)(hcp:Pu 73 [.agg (prL u)] (.ret (.agg (prL u))))(hck:∀w:Pr,w∈prK u->Pu 73 [.agg (prL w)] (.ret (.agg (prL w))))(hN:(prK u).length<=1000000000)(hx0:prO u=14)(hx1:¬((prK u).length:Int)=1)(hx2:pvo_r0 u=false)(hx3:psf_r0 u=false):Pu 61 [.agg (prL u)] (rA [pI 14,.str nm0,pI 0,.sl 4 [prL u]]):=
 pm mdL [rp 3 (et1 hx0),sl (Pr.cs_len (prK u)),rp 2 (et1 hx0),en1 hx1,cl (@pvo u),bf1 hx2,cl coF,cl (@psf u),bf1 hx3,cl hcp] func61
theorem noL_6(u:Pr)(hcp:Pu 73 [.agg (prL u)] (.ret (.agg (prL u))))(hck:∀w:Pr,w∈prK u->Pu 73 [.agg (prL w)] (.ret (.agg (prL w))))(hN:(prK u).length<=1000000000)(hx0:¬prO u=14)(hx1:pvo_r0 u=true):Pu 61 [.agg (prL u)] (rA [pI 2,.str nm0,pI 0,.sl 4 []]):=
 Ob.pur_wk (Wk.a (kr (kr (kr (kn 4 (WkL.r _)))))) (pm mdL [rp 5 (en1 hx0),bf false,cl (@pvo u),bt1 hx1,cl coF] func61)
theorem noL_7(u:Pr)(hcp:Pu 73 [.agg (prL u)] (.ret (.agg (prL u))))(hck:∀w:Pr,w∈prK u->Pu 73 [.agg (prL w)] (.ret (.agg (prL w))))(hN:(prK u).length<=1000000000)(hx0:¬prO u=14)(hx1:pvo_r0 u=false)(hx2:psf_r0 u=true):Pu 61 [.agg (prL u)] (rA [pI 2,.str nm0,pI 1,.sl 4 []]):=
 Ob.pur_wk (Wk.a (kr (kr (kr (kn 4 (WkL.r _)))))) (pm mdL [rp 5 (en1 hx0),bf false,cl (@pvo u),bf1 hx1,cl coF,cl (@psf u),bt1 hx2,cl coT] func61)
theorem noL_8(u:Pr)(hcp:Pu 73 [.agg (prL u)] (.ret (.agg (prL u))))(hck:∀w:Pr,w∈prK u->Pu 73 [.agg (prL w)] (.ret (.agg (prL w))))(hN:(prK u).length<=1000000000)(hx0:¬prO u=14)(hx1:pvo_r0 u=false)(hx2:psf_r0 u=false):Pu 61 [.agg (prL u)] (rA [pI 14,.str nm0,pI 0,.sl 4 [prL u]]):=
 pm mdL [rp 5 (en1 hx0),bf false,cl (@pvo u),bf1 hx1,cl coF,cl (@psf u),bf1 hx2,cl hcp] func61
inductive Pa where
 | mk (c t:Pr)
instance:Inhabited Pa:=⟨.mk default default⟩
def paC:Pa->Pr | .mk x _=>x
def paT:Pa->Pr | .mk _ x=>x
abbrev paL(x:Pa):List PV:=[.int .i64 (prO (paC x)),.str (prNm (paC x)),.int .i64 (prN (paC x)),.sl 4 (Pr.cs (prK (paC x))),.int .i64 (prO (paT x)),.str (prNm (paT x)),.int .i64 (prN (paT x)),.sl 4 (Pr.cs (prK (paT x)))]
abbrev paV(x:Pa):List LV:=[.v (.int .i64 (prO (paC x))),.v (.str (prNm (paC x))),.v (.int .i64 (prN (paC x))),.v (.sl 4 (Pr.cs (prK (paC x)))),.v (.int .i64 (prO (paT x))),.v (.str (prNm (paT x))),.v (.int .i64 (prN (paT x))),.v (.sl 4 (Pr.cs (prK (paT x))))]
def Pa.cs:List Pa->List (List PV)
 | []=>[]
 | x::r=>paL x::Pa.cs r
theorem Pa.cs_eq(l:List Pa):Pa.cs l=l.map (paL):=by induction l with | nil=>rfl | cons x r ih=>simp [Pa.cs,ih]
theorem Pa.cs_len(l:List Pa):(Pa.cs l).length=l.length:=by simp [Pa.cs_eq]
theorem Pa.cs_at{l:List Pa}{i:Nat}(h:i<l.length):(Pa.cs l).getD i []=paL (l.getD i default):=by rw [Pa.cs_eq]; simp [List.getD,h]
section
variable {P:Program}
def xPa(l:List Pa)(i:Nat)(h:i<l.length:=by omega):Stp P:=ar ((Pa.cs l).getD i []) (paL (l.getD i default)) (by rw [Pa.cs_at h])
def mxPa(l:List Pa)(e:Int)(h:0≤e∧e<(l.length:Int):=by omega):Stp P:=am ((0:Int)≤e∧e<((Pa.cs l).length:Int)) (by rw [Pa.cs_len]; exact h)
def rgPa{l:List Pa}{i:Nat}(h:i<l.length):Stp P:=s2 (dtl h) (s2 (mxPa l (i:Int)) (xPa l i h))
end
theorem Pa.cs_snoc(l:List Pa)(x:Pa):Pa.cs (l++[x])=Pa.cs l++[paL x]:=by simp [Pa.cs_eq]
def qaC:List (List Pa)->List (List PV)
 | []=>[]
 | x::r=>[.sl 8 (Pa.cs x)]::qaC r
theorem qaC_eq(l:List (List Pa)):qaC l=l.map fun x=>[.sl 8 (Pa.cs x)]:=by induction l with | nil=>rfl | cons x r ih=>simp [qaC,ih]
theorem qaC_len(l:List (List Pa)):(qaC l).length=l.length:=by simp [qaC_eq]
theorem qaC_at{l:List (List Pa)}{i:Nat}(h:i<l.length):(qaC l).getD i []=[.sl 8 (Pa.cs (l.getD i []))]:=by rw [qaC_eq]; simp [List.getD,h]
theorem qaC_snoc(l:List (List Pa))(x:List Pa):qaC (l++[x])=qaC l++[[.sl 8 (Pa.cs x)]]:=by simp [qaC_eq]
theorem gPa{l:List Pa}{i:Nat}(h:i<l.length):l.getD i default∈l:=getD_mem h
def paS(l:List Pa):Prop:=∀p∈l,prS (paC p)/\prS (paT p)
def adL(p:Pa)(l:List Pa)(f:Bool):List Pa:=if f=true then l++[p] else l
def adB(l:List Pa)(f:Bool):Bool:=f&&decide (l.length+1<=16)
def paI(l:List Pa)(f:Bool):Prop:=l.length<=17/\(f=true->l.length<=16)
theorem paI_add{p:Pa}{l:List Pa}{f:Bool}(h:paI l f):paI (adL p l f) (adB l f):=by
 unfold adL adB
 cases f with
 | false=>simpa using h
 | true=>
  have:=h.2 rfl
  refine ⟨by simp; omega,fun h=>?_⟩
  simp at h ⊢
  omega
def inK(f:Bool)(k:List Pa):List Pa:=if f=true then k else []
theorem anT(l:List Pr)(h:∀w∈l,prS w)(hN:l.length<=1000000000):Pu 40 [.sl 4 (Pr.cs l)] (.ret (.agg (prL (andF l)))):=by
 unfold andF
 cases hf:anA_f l 2 nm0 1 [] false with
 | e0 o s n k b=>exact anL_1 l (fun w hw=>cpS w (h w hw)) hN o s n k b hf
 | e1 o s n k b=>exact anL_2 l (fun w hw=>cpS w (h w hw)) hN o s n k b hf
def anR:anA_R->Prop
 | .e0 _ _ _ _ _=>True
 | .e1 o s n k _=>prS (.mk o s n k)
theorem anA_S:∀ (l:List Pr) (o:Int) (s:BA) (n:Int) (k:List Pr) (b:Bool),(∀w∈l,prS w)->prS (.mk o s n k)->anR (anA_f l o s n k b)
 | [],o,s,n,k,b,_,h=>h
 | w::r,o,s,n,k,b,h,h0=>by
  have hw:=h w sM
  have hr:∀w∈r,prS w:=fun v hv=>h v (by simp [hv])
  rw [anA_f]
  split
  ·exact anA_S r o s n k b hr h0
  ·split
   ·trivial
   ·split
    ·exact anA_S r _ _ _ _ _ hr (prS_mk sM fun v hv=>by
      rcases List.mem_cons.1 hv with rfl | hv
      ·exact h0
      ·rw [List.mem_singleton] at hv; subst hv; exact hw)
    ·refine anA_S r _ _ _ _ _ hr ?_
     cases w
     exact hw
theorem prF_S:prS prFa:=prS_mk sM sM
theorem prT_S:prS prTr:=prS_mk sM sM
theorem andF_S{l:List Pr}(h:∀w∈l,prS w):prS (andF l):=by
 have:=anA_S l 2 nm0 1 [] false h prT_S
 unfold andF
 cases hf:anA_f l 2 nm0 1 [] false with
 | e0 o s n k b=>exact prF_S
 | e1 o s n k b=>rw [hf] at this; exact this
theorem an0T:Pu 40 [.nilsl] (.ret (.agg (prL prTr))):=Ob.pur_arg (.c (.n 4) (.r _)) (anT [] sM sM)
theorem csP1(a:Pr):Pr.cs [a]=[prL a]:=by rw [Pr.cs_eq]; rfl
theorem csP2(a b:Pr):Pr.cs [a,b]=[prL a,prL b]:=by rw [Pr.cs_eq]; rfl
theorem csP3(a b c:Pr):Pr.cs [a,b,c]=[prL a,prL b,prL c]:=by rw [Pr.cs_eq]; rfl
def and2(a b:Pr):Pr:=andF [a,b]
def and3(a b c:Pr):Pr:=andF [a,b,c]
theorem an2T(a b:Pr)(ha:prS a)(hb:prS b):Pu 40 [.sl 4 [prL a,prL b]] (.ret (.agg (prL (and2 a b)))):=by
 have:=anT [a,b] (by simp [ha,hb]) sM
 rwa [csP2] at this
theorem an3T(a b c:Pr)(ha:prS a)(hb:prS b)(hc:prS c):Pu 40 [.sl 4 [prL a,prL b,prL c]] (.ret (.agg (prL (and3 a b c)))):=by
 have:=anT [a,b,c] (by simp [ha,hb,hc]) sM
 rwa [csP3] at this
theorem and2_S{a b:Pr}(ha:prS a)(hb:prS b):prS (and2 a b):=andF_S (by simp [ha,hb])
theorem and3_S{a b c:Pr}(ha:prS a)(hb:prS b)(hc:prS c):prS (and3 a b c):=andF_S (by simp [ha,hb,hc])
def notF(u:Pr):Pr:=if prO u=14/\(prK u).length=1 then (prK u).getD 0 default else if pvo_r0 u=true then prFa else if psf_r0 u=true then prTr else .mk 14 nm0 0 [u]
theorem notT(u:Pr)(h:prS u):Pu 61 [.agg (prL u)] (.ret (.agg (prL (notF u)))):=by
 have h1:=cpS u h
 have h2:∀w:Pr,w∈prK u->Pu 73 [.agg (prL w)] (.ret (.agg (prL w))):=fun w hw=>cpS w (prS_kid h hw)
 have h3:=prS_len h
 unfold notF
 by_cases e0:prO u=14
 ·by_cases e1:(prK u).length=1
  ·rw [iP ⟨e0,e1⟩]; exact noL_1 u h1 h2 h3 e0 oM
  ·rw [iN (fun h=>e1 h.2)]
   cases e2:pvo_r0 u with
   | true=>exact noL_2 u h1 h2 h3 e0 oM e2
   | false=>
    cases e3:psf_r0 u with
    | true=>exact noL_3 u h1 h2 h3 e0 oM e2 e3
    | false=>have:=noL_4 u h1 h2 h3 e0 oM e2 e3; rw [<-csP1] at this; exact this
 ·rw [iN (fun h=>e0 h.1)]
  cases e2:pvo_r0 u with
  | true=>exact noL_6 u h1 h2 h3 e0 e2
  | false=>
   cases e3:psf_r0 u with
   | true=>exact noL_7 u h1 h2 h3 e0 e2 e3
   | false=>have:=noL_8 u h1 h2 h3 e0 e2 e3; rw [<-csP1] at this; exact this
theorem notF_S{u:Pr}(h:prS u):prS (notF u):=by
 unfold notF
 split
 ·rename_i e; exact prS_kid h (gPr oM)
 ·split
  ·exact prF_S
  ·split
   ·exact prT_S
   ·exact prS_mk sM (by simp [h])
def okL(x:Ex):Bool:=if exO x=7 then decide ((exK x).length=2)&&decide ((exT x).length=1) else if exO x=8 then decide ((exK x).length=3) else if exO x=12∨exO x=16 then decide ((exK x).length=2) else true
def okD:Nat->Ex->Bool
 | 0,_=>false
 | d+1,x=>okL x&&(exK x).all (okD d)
theorem okD_of(m:Mo):∀ (d:Nat) (x:Ex) (s:Sc),riD m d x s=true->okD d x=true
 | 0,_,_,h=>by cases h
 | d+1,x,s,h=>by
  have ih:=okD_of m d
  have hk:((exK x).all fun w=>riD m d w s)=true->(exK x).all (okD d)=true:=fun hk=>List.all_eq_true.2 fun w hw=>ih w s (List.all_eq_true.1 hk w hw)
  have h0:(exK x).length=0->(exK x).all (okD d)=true:=fun h=>by rw [List.eq_nil_of_length_eq_zero h]; rfl
  have h':riL_r0 m x s (riD m d) ((exK x).all fun w=>riD m d w s)=true:=h
  revert h'
  generalize ((exK x).all fun w=>riD m d w s)=kb at hk
  intro h'
  unfold riL_r0 at h'
  rw [okD]
  unfold okL
  by_cases e1:exO x=1
  ·rw [iP e1] at h'; simp [e1,h0 (by simpa using h')]
  rw [iN e1] at h'
  by_cases e2:exO x=2
  ·rw [iP e2] at h'; simp [e2,h0 (by simpa using h')]
  rw [iN e2] at h'
  by_cases e3:exO x=3
  ·rw [iP e3] at h'
   simp only [Bool.and_eq_true] at h'
   simp [e3,h0 (by simpa using h'.2)]
  rw [iN e3] at h'
  by_cases e4:exO x=12
  ·rw [iP e4] at h'
   split at h'
   ·rename_i hl
    have hb:kb=true:=by
     split at h'
     ·exact h'
     ·split at h'
      ·exact h'
      ·cases h'
    simp [e4,hk hb,show (exK x).length=2 by omega]
   ·cases h'
  rw [iN e4] at h'
  by_cases e5:exO x=15
  ·rw [iP e5] at h'
   split at h'
   ·simp [e5,hk h']
   ·cases h'
  rw [iN e5] at h'
  by_cases e6:exO x=21
  ·rw [iP e6] at h'
   split at h'
   ·simp [e6,hk h']
   ·cases h'
  rw [iN e6] at h'
  by_cases e7:exO x=8
  ·rw [iP e7] at h'
   split at h'
   ·rename_i hl; simp [e7,hk h',show (exK x).length=3 by omega]
   ·cases h'
  rw [iN e7] at h'
  by_cases e8:exO x=7
  ·rw [iP e8] at h'
   split at h'
   ·rename_i hl
    split at h'
    ·rename_i ht
     split at h'
     ·split at h'
      ·rename_i ha
       have hl2:(exK x).length=2:=by omega
       have ha2:(exK x).all (okD d)=true:=by
        refine List.all_eq_true.2 fun w hw=>?_
        obtain ⟨i,hi,rfl⟩:=List.getElem_of_mem hw
        have e:(exK x)[i]=(exK x).getD i default:=by simp [List.getD,hi]
        rw [e]
        rcases (show i=0∨i=1 by omega) with rfl | rfl
        ·exact ih _ _ ha
        ·exact ih _ _ h'
       simp [e8,ha2,hl2,show (exT x).length=1 by omega]
      ·cases h'
     ·cases h'
    ·cases h'
   ·cases h'
  rw [iN e8] at h'
  by_cases e9:exO x=5
  ·rw [iP e9] at h'
   split at h'
   ·simp [e9,hk h']
   ·cases h'
  rw [iN e9] at h'
  split at h'
  ·rename_i hl
   simp only [Bool.and_eq_true,beq_iff_eq] at hl
   rw [iN e8,iN e7]
   split
   ·simp [hk h',show (exK x).length=2 by omega]
   ·simp [hk h']
  ·cases h'
theorem okD_kid{d:Nat}{x w:Ex}(h:okD (d+1) x=true)(hw:w∈exK x):okD d w=true:=by
 rw [okD,Bool.and_eq_true] at h
 exact List.all_eq_true.1 h.2 w hw
theorem okD_7{d:Nat}{x:Ex}(h:okD (d+1) x=true)(e:exO x=7):(exK x).length=2/\(exT x).length=1:=by
 rw [okD,Bool.and_eq_true] at h
 have:=h.1
 unfold okL at this
 rw [iP e] at this
 simpa using this
theorem okD_8{d:Nat}{x:Ex}(h:okD (d+1) x=true)(e:exO x=8):(exK x).length=3:=by
 rw [okD,Bool.and_eq_true] at h
 have:=h.1
 unfold okL at this
 rw [iN oM,iP e] at this
 simpa using this
theorem okD_2{d:Nat}{x:Ex}(h:okD (d+1) x=true)(e:exO x=12∨exO x=16):(exK x).length=2:=by
 rw [okD,Bool.and_eq_true] at h
 have:=h.1
 unfold okL at this
 rw [iN oM,iN oM,iP e] at this
 simpa using this
def rgN(m:Mo)(nm:BA):Int:=reS_r0 (plF (dfT ((sdO nm (moF m)).getD default)))
theorem sdO_mem{nm:BA}{l:List Df}{d:Df}(h:sdO nm l=some d):d∈l:=List.mem_of_find?_eq_some h
theorem moF_blk(m:Mo):bulkPss (Df.cs (moF m))<bulkPs (moL m):=by simp only [bulkPs,bulkP]; omega
theorem rgN_T(m:Mo)(hm:bulkPs (moL m)<=1000000000)(nm:BA):Pu 38 [.agg (dfL ((sdO nm (moF m)).getD default))] (.ret (.int .i64 (rgN m nm))):=by
 have hb:bulkPs (tpL (dfT ((sdO nm (moF m)).getD default)))<=1000000000:=by
  cases h:sdO nm (moF m) with
  | none=>decide
  | some d=>
   have h1:=Df.mem (sdO_mem h)
   have h2:=moF_blk m
   have h3:=df_le d
   show bulkPs (tpL (dfT d))<=_
   omega
 have h1:=plF_bulk (dfT ((sdO nm (moF m)).getD default))
 have h2:=tpw_bulk (plF (dfT ((sdO nm (moF m)).getD default)))
 have h3:=Tp.bulk (tpA (plF (dfT ((sdO nm (moF m)).getD default))))
 exact reS _ _ (plT _ hb) oM
def toD(m:Mo):Nat->Ex->Sc->Int
 | 0,_,_=>0
 | d+1,x,s=>toL_r0 x s (toD m d) (rgN m)
theorem to_ok(m:Mo)(hm:bulkPs (moL m)<=1000000000):∀ (d:Nat) (x:Ex) (s:Sc),bulkPs (exL x)<=1000000000->okD d x=true->(scK s).Nodup->Pu 103 [.agg (moL m),.agg (exL x),.agg (scL s)] (.ret (.int .i64 (toD m d x s)))
 | 0,x,s,_,h,_=>by cases h
 | d+1,x,s,hb,h,hn=>by
  have h1:=exk_bulk x
  have h2:=Ex.bulk (exK x)
  have h3:=Tp.bulk (exT x)
  have h4:=moF_blk m
  have h5:=Df.bulk (moF m)
  refine toL m x s hn (fun e=>?_) (fun e=>?_) (toD m d) (fun w u hw hu=>to_ok m hm d w u (by have:=Ex.mem hw; omega) (okD_kid h hw) hu) (rgN m) (rgN_T m hm) (fun t ht=>plT t (by have:=Tp.mem ht; omega)) oM oM oM
  ·rcases e with e | e
   ·have:=(okD_7 h e).1; omega
   ·have:=okD_8 h e; omega
  ·have:=(okD_7 h e).2; omega
def ndPF(x:Ex)(ty:Int)(l:List Pr):Pr:=
 if exO x=15 then .mk 9 nm0 0 l
 else if exO x=21 then .mk 14 nm0 0 l
 else if exO x=5 then .mk 4 (exNm x) 0 l
 else if exO x=12 then (if exO ((exK x).getD 0 default)=1 then .mk (opS_r0 (exO x)) nm0 0 l else .mk (opS_r0 (exO x)) nm0 0 [l.getD 1 default,l.getD 0 default])
 else if exO x=16/\ty=2 then .mk 18 nm0 0 l else .mk (opS_r0 (exO x)) nm0 0 l
theorem ndPT(m:Mo)(x:Ex)(s:Sc)(l:List Pr)(tg:Ex->Int)(hto:∀w:Ex,w∈exK x->Pu 103 [.agg (moL m),.agg (exL w),.agg (scL s)] (.ret (.int .i64 (tg w))))(hx2:exO x=12∨exO x=16->2<=(exK x).length)(hl2:l.length=(exK x).length)(hK:(exK x).length<=1000000000):Pu 63 [.agg (moL m),.agg (exL x),.agg (scL s),.sl 4 (Pr.cs l)] (.ret (.agg (prL (ndPF x (tg ((exK x).getD 0 default)) l)))):=by
 unfold ndPF
 by_cases e0:exO x=15
 ·rw [iP e0]; exact ndL_1 m x s l tg hto hx2 hl2 hK e0
 rw [iN e0]
 by_cases e1:exO x=21
 ·rw [iP e1]; exact ndL_2 m x s l tg hto hx2 hl2 hK e0 e1
 rw [iN e1]
 by_cases e2:exO x=5
 ·rw [iP e2]; exact ndL_3 m x s l tg hto hx2 hl2 hK e0 e1 e2
 rw [iN e2]
 by_cases e3:exO x=12
 ·rw [iP e3]
  by_cases e4:exO ((exK x).getD 0 default)=1
  ·rw [iP e4]; exact ndL_5 m x s l tg hto hx2 hl2 hK e0 e1 e2 e3 e4
  ·rw [iN e4]; have:=ndL_4 m x s l tg hto hx2 hl2 hK e0 e1 e2 e3 e4; rw [<-csP2] at this; exact this
 rw [iN e3]
 by_cases e4:exO x=16
 ·by_cases e5:tg ((exK x).getD 0 default)=2
  ·rw [iP ⟨e4,e5⟩]; exact ndL_6 m x s l tg hto hx2 hl2 hK e0 e1 e2 e3 e4 e5
  ·rw [iN (fun h=>e5 h.2)]; exact ndL_7 m x s l tg hto hx2 hl2 hK e0 e1 e2 e3 e4 e5
 ·rw [iN (fun h=>e4 h.1)]; exact ndL_8 m x s l tg hto hx2 hl2 hK e0 e1 e2 e3 e4
theorem prS_default:prS default:=prS_mk dD sM
theorem prS_getD{l:List Pr}(h:∀w∈l,prS w)(i:Nat):prS (l.getD i default):=by
 rcases Nat.lt_or_ge i l.length with hi | hi
 ·exact h _ (gPr hi)
 ·have:l.getD i default=default:=by simp [List.getD,List.getElem?_eq_none hi]
  rw [this]; exact prS_default
theorem pr2_S{o n:Int}{x:BA}{a b:Pr}(ha:prS a)(hb:prS b):prS (.mk o x n [a,b]):=prS_mk sM fun v hv=>by
 rcases List.mem_cons.1 hv with rfl | hv
 ·exact ha
 ·rw [List.mem_singleton] at hv; subst hv; exact hb
theorem ndF_S{x:Ex}{ty:Int}{l:List Pr}(hl:l.length<=1000000000)(h:∀w∈l,prS w):prS (ndPF x ty l):=by
 have h0:∀ (o:Int) (n:BA),prS (.mk o n 0 l):=fun o n=>prS_mk hl h
 unfold ndPF
 repeat' split
 all_goals first
  | exact h0 _ _
  | exact pr2_S (prS_getD h 1) (prS_getD h 0)
theorem cloR(l:List Pr)(hn:l.length<=1000000000):Pu 41 [.sl 4 (Pr.cs l)] (.own 46 4 (Pr.cs l)):=by
 refine ⟨by kernel_rfl,fun e=>?_⟩
 refine CallC.enter func41 rfl (show 1<=8 by decide) fun cx hcx hds=>?_
 refine PW_seq ?_
 refine PW_runK mdL 8 50 [] [0] [] (s':=⟨[(0,.v (.sl 4 (Pr.cs l)))],[],e⟩) (pe := .normal) (sc':=[]) (l:=[]) mixed hcx kR kR trivial ?_
 show PW _ _ _ _ _
 refine PW_seq (PW_seq ?_)
 intro g l0 a w hs
 refine wp_region_lit ?_
 have hn':∀k,k<8->k<cx.n:=fun k hk=>by rw [hcx]; exact hk
 refine (PL_moveV (p := .sl 4 (Pr.cs l)) rfl rfl rfl (hn' _ dD) rfl ?_:PL _ _ _ _ _ _) g l0 a w hs
 refine PL_nilcmp (z:=4) (es:=Pr.cs l) (el:=46) rfl rfl rfl (hn' _ dD) kR rfl fun b hb=>?_
 refine PL_nil ?_
 show PW _ _ _ _ _
 cases b with
 | true=>
  have h0:=hb rfl
  refine PW.leX (t:=⟨[(4,.v (.bool true))],[],e⟩) ⟨⟨W,tVv⟩,trivial,rfl⟩ ?_
  refine PW.postLe ?_
  refine PW_runK mdL 8 50 [Ans.bit true] [2] [] (s':=⟨[(2,.v .nilsl)],[],e⟩) (pe := .ret) (sc':=[]) (l:=[.bit true true]) mixed hcx kR kR ⟨rfl,tVv⟩ ?_
  refine ⟨⟨[(2,.uniq 46 4 [])],[],e⟩,⟨⟨.inr rfl,tVv⟩,trivial,rfl⟩,?_⟩
  refine .inr ⟨2,46,4,[],rfl,rfl,?_⟩
  rw [h0]
  exact ⟨rfl,rfl⟩
 | false=>
  refine PW.leX (t:=⟨[(0,.v (.sl 4 (Pr.cs l))),(4,.v (.bool false))],[],e⟩) ⟨⟨W,W,tVv⟩,trivial,rfl⟩ ?_
  refine PW_runK mdL 8 50 [Ans.bit false] [0] [] (s':=⟨[(0,.v (.sl 4 (Pr.cs l)))],[],e⟩) (pe := .normal) (sc':=[]) (l:=[.bit false false]) mixed hcx kR kR ⟨rfl,tVv⟩ ?_
  show PW _ _ _ _ _
  refine PW_runK mdL 8 50 [] [2] [] (s':=⟨[(2,.uniq 46 4 (Pr.cs l))],[],e⟩) (pe := .ret) (sc':=[]) (l:=[.bit (decide ((Pr.cs l).length * 56<=140737488355328)) true]) mixed hcx kR kR ⟨ob_bit (dT (by rw [Pr.cs_len]; omega)),tVv⟩ ?_
  exact .inr ⟨2,46,4,Pr.cs l,rfl,rfl,rfl,rfl⟩
def mdPa:Md:=⟨fun t=>if t=94∨t=4∨t=138 then none else some false,fun _=>false⟩
section
variable (p:Pa) (l:List Pa) (f:Bool) (pf:PV) (hl:l.length<=1000000)
include p l f pf hl
theorem adW_1(hx0:f=true):Ef 59 [.agg (paL p),.xp 1 0,.xp 0 0] ([(0,[.uniq 98 8 (Pa.cs l)]),(1,[.v (.bool f)]),(2,[.v pf])]) (.ret (.tup [])) ([(0,[.uniq 98 8 (Pa.cs l++[paL p])]),(1,[.v (.bool (decide ((↑(List.length l+(0+1)):Int)<=16)))]),(2,[.v pf])]):=
 ef mdPa [bt1 hx0,am (List.length (Pa.cs l++[paL p]) * (111+1)<=140737488355328) (by (simp only [List.length_append,List.length_cons,List.length_nil,Pr.cs_len,Pa.cs_len]; omega)),ai (↑((fun x=>List.length (Prod.snd x)) (7+1,Pa.cs l++[paL p])):Int) (↑(List.length l+(0+1)):Int) (by (simp only [List.length_append,List.length_cons,List.length_nil,Pr.cs_len,Pa.cs_len]; done))] func59
theorem adW_2(hx0:f=false):Ef 59 [.agg (paL p),.xp 1 0,.xp 0 0] ([(0,[.uniq 98 8 (Pa.cs l)]),(1,[.v (.bool f)]),(2,[.v pf])]) (.ret (.tup [])) ([(0,[.uniq 98 8 (Pa.cs l)]),(1,[.v (.bool f)]),(2,[.v pf])]):=
 ef mdPa [bf1 hx0] func59
end
theorem inW_1(m:Mo)(w:Ex)(u:Sc)(l:List Pa)(f:Bool)(pf:PV)(k:List Pa)(ok:Bool)(hp:Pu 28 [.agg (moL m),.agg (exL w),.agg (scL u)] (.ret (.tup [.sl 8 (Pa.cs k),.bool ok])))(hx0:f=false):Ef 60 [.agg (exL w),.agg (scL u),.xp 1 0,.ro (moL m) 0] ([(0,[.uniq 98 8 (Pa.cs l)]),(1,[.v (.bool f)]),(2,[.v pf])]) (.ret (.sl 8 [])) ([(0,[.uniq 98 8 (Pa.cs l)]),(1,[.v (.bool f)]),(2,[.v pf])]):=
 Ob.eff_wk (Wk.n 8) (ef mdPa [bt1 (bnT hx0)] func60)
theorem inW_2(m:Mo)(w:Ex)(u:Sc)(l:List Pa)(f:Bool)(pf:PV)(k:List Pa)(ok:Bool)(hp:Pu 28 [.agg (moL m),.agg (exL w),.agg (scL u)] (.ret (.tup [.sl 8 (Pa.cs k),.bool ok])))(hx0:f=true):Ef 60 [.agg (exL w),.agg (scL u),.xp 1 0,.ro (moL m) 0] ([(0,[.uniq 98 8 (Pa.cs l)]),(1,[.v (.bool f)]),(2,[.v pf])]) (.ret (.sl 8 (Pa.cs k))) ([(0,[.uniq 98 8 (Pa.cs l)]),(1,[.v (.bool ok)]),(2,[.v pf])]):=
 ef mdPa [bf1 (bnF hx0),cl hp,rp 2 (bt1 hx0)] func60
theorem Ent.less{e1 e2:Ext}{g:Gh}{l:LG}{w:World}(h:Ent e1 g l w)(hl:LeB e2 e1)(hc:cnt e1<=cnt e2):Ent e2 g l w where
 ex k v hk:=by
  obtain ⟨u,hu,hw⟩:=hl.at_ hk
  obtain ⟨b,h1,h2,h3⟩:=h.ex k u hu
  exact ⟨b,h1.le hw,h2,h3.le hw⟩
 olt:=h.olt
 uo:=h.uo
 fresh:=⟨h.fresh.1,fun n hn=>h.fresh.2.1 n (Nat.le_trans hc hn),fun n c hn=>h.fresh.2.2 n c (Nat.le_trans hc hn)⟩
 xlt:=h.xlt
 only:=h.only
 glb:=h.glb
theorem eff_less{P:Program}{f:FuncId}{args:List PV}{r:CRes}{e1 e2 e':Ext}(h:(Ob.eff f args e2 r e').ok P)(hl:LeB e2 e1)(hc:cnt e1<=cnt e2):(Ob.eff f args e1 r e').ok P:=⟨h.1,fun vs g l w ha he=>h.2 vs g l w ha (Ent.less he hl hc)⟩
abbrev paE(l:List Pa)(f:Bool)(pf:PV):Ext:=[(0,[.uniq 98 8 (Pa.cs l)]),(1,[.v (.bool f)]),(2,[.v pf])]
abbrev paN(f:Bool)(pf:PV):Ext:=[(0,[.v .nilsl]),(1,[.v (.bool f)]),(2,[.v pf])]
theorem paN_le(f:Bool)(pf:PV):LeB (paE [] f pf) (paN f pf):=⟨⟨.inr rfl,tVv⟩,WLs.refl _,WLs.refl _,tVv⟩
theorem adQ(p:Pa)(l:List Pa)(f:Bool)(pf:PV)(hl:paI l f):Ef 59 [.agg (paL p),.xp 1 0,.xp 0 0] (paE l f pf) (.ret (.tup [])) (paE (adL p l f) (adB l f) pf):=by
 have h:=hl.1
 cases f with
 | false=>exact adW_2 p l false pf oM rfl
 | true=>
  have:=adW_1 p l true pf oM rfl
  rw [<-Pa.cs_snoc] at this
  unfold adL adB
  rw [show (true&&decide (l.length+1<=16))=decide ((↑(List.length l+(0+1)):Int)<=16) by
   rw [Bool.true_and,decide_eq_decide]; omega]
  exact this
theorem adM(p:Pa)(pf:PV):Ef 59 [.agg (paL p),.xp 1 0,.xp 0 0] (paN true pf) (.ret (.tup [])) (paE [p] true pf):=eff_less (adQ p [] true pf ⟨by simp,by simp⟩) (paN_le _ _) (Nat.le_refl _)
theorem inQ(m:Mo)(w:Ex)(u:Sc)(l:List Pa)(f:Bool)(pf:PV)(k:List Pa)(ok:Bool)(hp:Pu 28 [.agg (moL m),.agg (exL w),.agg (scL u)] (.ret (.tup [.sl 8 (Pa.cs k),.bool ok]))):Ef 60 [.agg (exL w),.agg (scL u),.xp 1 0,.ro (moL m) 0] (paE l f pf) (.ret (.sl 8 (Pa.cs (inK f k)))) (paE l (f&&ok) pf):=by
 cases f with
 | false=>exact inW_1 m w u l false pf k ok hp rfl
 | true=>exact inW_2 m w u l true pf k ok hp rfl
theorem inM(m:Mo)(w:Ex)(u:Sc)(pf:PV)(k:List Pa)(ok:Bool)(hp:Pu 28 [.agg (moL m),.agg (exL w),.agg (scL u)] (.ret (.tup [.sl 8 (Pa.cs k),.bool ok]))):Ef 60 [.agg (exL w),.agg (scL u),.xp 1 0,.ro (moL m) 0] (paN true pf) (.ret (.sl 8 (Pa.cs k))) (paE [] ok pf):=eff_less (inQ m w u [] true pf k ok hp) (paN_le _ _) (Nat.le_refl _)
def scQ(k:BA)(s:Sc):PV:=match scO k s with
 | some x => .sl 4 (Pr.cs (prK x.2.2))
 | none => .nilsl
theorem lu_s2(k:BA)(s:Sc):luRes false (mget k ((scK s).zip (scP s))) (.agg [.int .i64 0,.str nm0,.int .i64 0,.nilsl]) = .agg [.int .i64 (prO (scPr k s)),.str (prNm (scPr k s)),.int .i64 (prN (scPr k s)),scQ k s]:=by
 rw [scZ2,sc_m2]
 simp only [luRes,scPr,scQ]
 cases scO k s <;> rfl
theorem wk_pa(c:Pr)(o:Int)(x:BA)(n:Int):Wk (.agg [.int .i64 (prO c),.str (prNm c),.int .i64 (prN c),.sl 4 (Pr.cs (prK c)),.int .i64 o,.str x,.int .i64 n,.nilsl]) (.agg (paL (.mk c (.mk o x n [])))) := .agg rfl fun j h h'=>by
 have:j<8:=h
 match j,this with
 | 0,_=>exact .r _
 | 1,_=>exact .r _
 | 2,_=>exact .r _
 | 3,_=>exact .r _
 | 4,_=>exact .r _
 | 5,_=>exact .r _
 | 6,_=>exact .r _
 | 7,_=>exact .n 4
theorem adC(c:Pr)(o:Int)(x:BA)(n:Int)(pf:PV):Ef 59 [.agg [.int .i64 (prO c),.str (prNm c),.int .i64 (prN c),.sl 4 (Pr.cs (prK c)),.int .i64 o,.str x,.int .i64 n,.nilsl],.xp 1 0,.xp 0 0] (paN true pf) (.ret (.tup [])) (paE [.mk c (.mk o x n [])] true pf):=
 Ob.eff_arg (.c (wk_pa c o x n) (.r _)) (adM (.mk c (.mk o x n [])) pf)
theorem adS(c:Pr)(k:BA)(s:Sc)(pf:PV):Ef 59 [.agg [.int .i64 (prO c),.str (prNm c),.int .i64 (prN c),.sl 4 (Pr.cs (prK c)),.int .i64 (prO (scPr k s)),.str (prNm (scPr k s)),.int .i64 (prN (scPr k s)),scQ k s],.xp 1 0,.xp 0 0] (paN true pf) (.ret (.tup [])) (paE [.mk c (scPr k s)] true pf):=by
 unfold scQ scPr
 cases scO k s with
 | none=>exact adC c 0 nm0 0 pf
 | some x=>exact adM (.mk c x.2.2) pf
theorem an0L:Pu 40 [.nilsl] (.ret (.agg [.int .i64 2,.str nm0,.int .i64 1,.sl 4 []])):=an0T
theorem adC0(o:Int)(x:BA)(n:Int)(pf:PV):Ef 59 [.agg [.int .i64 2,.str nm0,.int .i64 1,.sl 4 [],.int .i64 o,.str x,.int .i64 n,.nilsl],.xp 1 0,.xp 0 0] (paN true pf) (.ret (.tup [])) (paE [.mk prTr (.mk o x n [])] true pf):=adC prTr o x n pf
theorem adS0(k:BA)(s:Sc)(pf:PV):Ef 59 [.agg [.int .i64 2,.str nm0,.int .i64 1,.sl 4 [],.int .i64 (prO (scPr k s)),.str (prNm (scPr k s)),.int .i64 (prN (scPr k s)),scQ k s],.xp 1 0,.xp 0 0] (paN true pf) (.ret (.tup [])) (paE [.mk prTr (scPr k s)] true pf):=adS prTr k s pf
theorem pt1(m:Mo)(x:Ex)(s:Sc)(hop:exO x=1):Ef 28 [.agg (moL m),.agg (exL x),.agg (scL s)] ([]) (.ret (.tup [.sl 8 [[pI 2,.str (prNm (paC (Pa.mk prTr (Pr.mk 1 nm0 (exN x) [])))),pI 1,.sl 4 [],pI 1,.str (prNm (paT (Pa.mk prTr (Pr.mk 1 nm0 (exN x) [])))),pI (prN (paT (Pa.mk prTr (Pr.mk 1 nm0 (exN x) [])))),.sl 4 []]],.bool true])) ([(0,[vL 8 [[pI 2,.str (prNm (paC (Pa.mk prTr (Pr.mk 1 nm0 (exN x) [])))),pI 1,.sl 4 [],pI 1,.str (prNm (paT (Pa.mk prTr (Pr.mk 1 nm0 (exN x) [])))),pI (prN (paT (Pa.mk prTr (Pr.mk 1 nm0 (exN x) [])))),.sl 4 []]]]),(1,[.v (.bool true)]),(2,[.v PV.nilfn])]):=
 Ob.eff_of (mdPa) 50 [Ans.bit true,Ans.pur (rA [pI 2,.str nm0,pI 1,.sl 4 []]),Ans.eff (.ret (.tup [])) [(0,[.uniq 98 8 [[pI 2,.str (prNm (paC (Pa.mk prTr (Pr.mk 1 nm0 (exN x) [])))),pI 1,.sl 4 [],pI 1,.str (prNm (paT (Pa.mk prTr (Pr.mk 1 nm0 (exN x) [])))),pI (prN (paT (Pa.mk prTr (Pr.mk 1 nm0 (exN x) [])))),.sl 4 []]]]),(1,[.v (.bool true)]),(2,[.v PV.nilfn])]] (sc':=[]) (l:=[Ob.bit (exO x==1) true,Ob.pur 40 [.nilsl] (rA [pI 2,.str nm0,pI 1,.sl 4 []]),Ob.eff 59 [.agg [pI 2,.str nm0,pI 1,.sl 4 [],pI 1,.str nm0,pI (exN x),.nilsl],.xp 1 0,.xp 0 0] [(0,[.v .nilsl]),(1,[.v (.bool true)]),(2,[.v PV.nilfn])] (.ret (.tup [])) [(0,[.uniq 98 8 [[pI 2,.str (prNm (paC (Pa.mk prTr (Pr.mk 1 nm0 (exN x) [])))),pI 1,.sl 4 [],pI 1,.str (prNm (paT (Pa.mk prTr (Pr.mk 1 nm0 (exN x) [])))),pI (prN (paT (Pa.mk prTr (Pr.mk 1 nm0 (exN x) [])))),.sl 4 []]]]),(1,[.v (.bool true)]),(2,[.v PV.nilfn])],Ob.eqv (.v (.bool true)) (.v (.bool true)),Ob.eqv (.v (.bool true)) (.v (.bool true))]) mixed func28 kR kR ⟨(ob_bit (beT hop)),(@an0L),(@adC0 (1) nm0 (exN x) (PV.nilfn)),(ob_eqv rF),(ob_eqv rF),tVv⟩
theorem pt2(m:Mo)(x:Ex)(s:Sc)(hop:exO x=2):Ef 28 [.agg (moL m),.agg (exL x),.agg (scL s)] ([]) (.ret (.tup [.sl 8 [[pI 2,.str (prNm (paC (Pa.mk prTr (Pr.mk 2 nm0 (exN x) [])))),pI 1,.sl 4 [],pI 2,.str (prNm (paT (Pa.mk prTr (Pr.mk 2 nm0 (exN x) [])))),pI (prN (paT (Pa.mk prTr (Pr.mk 2 nm0 (exN x) [])))),.sl 4 []]],.bool true])) ([(0,[vL 8 [[pI 2,.str (prNm (paC (Pa.mk prTr (Pr.mk 2 nm0 (exN x) [])))),pI 1,.sl 4 [],pI 2,.str (prNm (paT (Pa.mk prTr (Pr.mk 2 nm0 (exN x) [])))),pI (prN (paT (Pa.mk prTr (Pr.mk 2 nm0 (exN x) [])))),.sl 4 []]]]),(1,[.v (.bool true)]),(2,[.v PV.nilfn])]):=
 Ob.eff_of (mdPa) 50 [Ans.bit false,Ans.bit true,Ans.pur (rA [pI 2,.str nm0,pI 1,.sl 4 []]),Ans.eff (.ret (.tup [])) [(0,[.uniq 98 8 [[pI 2,.str (prNm (paC (Pa.mk prTr (Pr.mk 2 nm0 (exN x) [])))),pI 1,.sl 4 [],pI 2,.str (prNm (paT (Pa.mk prTr (Pr.mk 2 nm0 (exN x) [])))),pI (prN (paT (Pa.mk prTr (Pr.mk 2 nm0 (exN x) [])))),.sl 4 []]]]),(1,[.v (.bool true)]),(2,[.v PV.nilfn])]] (sc':=[]) (l:=[Ob.bit (exO x==1) false,Ob.bit (exO x==2) true,Ob.pur 40 [.nilsl] (rA [pI 2,.str nm0,pI 1,.sl 4 []]),Ob.eff 59 [.agg [pI 2,.str nm0,pI 1,.sl 4 [],pI 2,.str nm0,pI (exN x),.nilsl],.xp 1 0,.xp 0 0] [(0,[.v .nilsl]),(1,[.v (.bool true)]),(2,[.v PV.nilfn])] (.ret (.tup [])) [(0,[.uniq 98 8 [[pI 2,.str (prNm (paC (Pa.mk prTr (Pr.mk 2 nm0 (exN x) [])))),pI 1,.sl 4 [],pI 2,.str (prNm (paT (Pa.mk prTr (Pr.mk 2 nm0 (exN x) [])))),pI (prN (paT (Pa.mk prTr (Pr.mk 2 nm0 (exN x) [])))),.sl 4 []]]]),(1,[.v (.bool true)]),(2,[.v PV.nilfn])],Ob.eqv (.v (.bool true)) (.v (.bool true)),Ob.eqv (.v (.bool true)) (.v (.bool true))]) mixed func28 kR kR ⟨(ob_bit (beF oM)),(ob_bit (beT hop)),(@an0L),(@adC0 (2) nm0 (exN x) (PV.nilfn)),(ob_eqv rF),(ob_eqv rF),tVv⟩
theorem pt3(m:Mo)(x:Ex)(s:Sc)(hop:exO x=3):Ef 28 [.agg (moL m),.agg (exL x),.agg (scL s)] ([]) (.ret (.tup [.sl 8 [pI 2 :: .str (prNm (paC (Pa.mk prTr (scPr (exNm x) s))))::pI 1 :: .sl 4 []::prL (paT (Pa.mk prTr (scPr (exNm x) s)))],.bool true])) ([(0,[vL 8 [pI 2 :: .str (prNm (paC (Pa.mk prTr (scPr (exNm x) s))))::pI 1 :: .sl 4 []::prL (paT (Pa.mk prTr (scPr (exNm x) s)))]]),(1,[.v (.bool true)]),(2,[.v PV.nilfn])]):=
 Ob.eff_of (mdPa) 50 [Ans.bit false,Ans.bit false,Ans.bit true,Ans.pur (rA [pI 2,.str nm0,pI 1,.sl 4 []]),Ans.as_ (.v (.agg [pI (prO (scPr (exNm x) s)),.str (prNm (scPr (exNm x) s)),pI (prN (scPr (exNm x) s)),scQ (exNm x) s])),Ans.eff (.ret (.tup [])) [(0,[.uniq 98 8 [pI 2 :: .str (prNm (paC (Pa.mk prTr (scPr (exNm x) s))))::pI 1 :: .sl 4 []::prL (paT (Pa.mk prTr (scPr (exNm x) s)))]]),(1,[.v (.bool true)]),(2,[.v PV.nilfn])]] (sc':=[]) (l:=[Ob.bit (exO x==1) false,Ob.bit (exO x==2) false,Ob.bit (exO x==3) true,Ob.pur 40 [.nilsl] (rA [pI 2,.str nm0,pI 1,.sl 4 []]),Ob.eqv (.v (luRes false (mget (exNm x) (List.zip (scK s) (scP s))) (.agg [pI 0,.str nm0,pI 0,.nilsl]))) (.v (.agg [pI (prO (scPr (exNm x) s)),.str (prNm (scPr (exNm x) s)),pI (prN (scPr (exNm x) s)),scQ (exNm x) s])),Ob.eff 59 [.agg [pI 2,.str nm0,pI 1,.sl 4 [],pI (prO (scPr (exNm x) s)),.str (prNm (scPr (exNm x) s)),pI (prN (scPr (exNm x) s)),scQ (exNm x) s],.xp 1 0,.xp 0 0] [(0,[.v .nilsl]),(1,[.v (.bool true)]),(2,[.v PV.nilfn])] (.ret (.tup [])) [(0,[.uniq 98 8 [pI 2 :: .str (prNm (paC (Pa.mk prTr (scPr (exNm x) s))))::pI 1 :: .sl 4 []::prL (paT (Pa.mk prTr (scPr (exNm x) s)))]]),(1,[.v (.bool true)]),(2,[.v PV.nilfn])],Ob.eqv (.v (.bool true)) (.v (.bool true)),Ob.eqv (.v (.bool true)) (.v (.bool true))]) mixed func28 kR kR ⟨(ob_bit (beF oM)),(ob_bit (beF oM)),(ob_bit (beT hop)),(@an0L),(ob_eqv (by (simp only [lu_s2]; done))),(@adS0 (exNm x) (s) (PV.nilfn)),(ob_eqv rF),(ob_eqv rF),tVv⟩
theorem gC1{l:List Pa}{i:Nat}(hl:paS l)(h:i<l.length):prS (paC (l.getD i default)):=(hl _ (gPa h)).1
theorem gC2{l:List Pa}{i:Nat}(hl:paS l)(h:i<l.length):prS (paT (l.getD i default)):=(hl _ (gPa h)).2
theorem gC3{l:List Pa}{i:Nat}(hl:paS l)(h:i<l.length):prS (notF (paT (l.getD i default))):=notF_S (gC2 hl h)
theorem adQ2(c t:Pr)(l:List Pa)(f:Bool)(pf:PV)(hl:paI l f):Ef 59 [.agg [.int .i64 (prO c),.str (prNm c),.int .i64 (prN c),.sl 4 (Pr.cs (prK c)),.int .i64 (prO t),.str (prNm t),.int .i64 (prN t),.sl 4 (Pr.cs (prK t))],.xp 1 0,.xp 0 0] (paE l f pf) (.ret (.tup [])) (paE (adL (.mk c t) l f) (adB l f) pf):=adQ (.mk c t) l f pf hl
abbrev adX:LV := .v (.fn (.func 59) [] [.xp 1 0,.xp 0 0])
abbrev pyI(c:Pa)(ls ys zs:List Pa)(k j:Int)(l:List Pa)(f:Bool)(e:Ext):S:=⟨[(8,.v (.xp 0 0)),(9,.v (.xp 1 0)),(11,.lp 11 0),(13,.v (.sl 8 (Pa.cs ys))),(14,.v (.sl 8 (Pa.cs zs))),(16,.lp 16 0),(101,.v (.sl 8 (Pa.cs ls))),(102,.v (.int .i64 (ls.length:Int))),(103,.v (.int .i64 k)),(107,.v (.sl 8 (Pa.cs ys))),(108,.v (.int .i64 (ys.length:Int))),(109,.v (.int .i64 j))],[(11,[adX]),(16,paV c)],e⟩
abbrev pyA_I(c:Pa)(ls:List Pa)(ys:List Pa)(zs:List Pa)(k:Int)(l0:List Pa)(f0:Bool)(j:Int)(l:List Pa)(f:Bool)  : S:=S.mk [(8,.v (.xp 0 0)),(9,.v (.xp 1 0)),(11,.lp 11 0),(13,vL 8 (Pa.cs ys)),(14,vL 8 (Pa.cs zs)),(16,.lp 16 0),(101,vL 8 (Pa.cs ls)),(102,vI6 (ls.length:Int)),(103,vI6 k),(107,vL 8 (Pa.cs ys)),(108,vI6 (ys.length:Int)),(109,vI6 j)] [(11,[.v (.fn (.func 59) [] [.xp 1 0,.xp 0 0])]),(16,paV c)] (paE l f PV.nilfn)
def pyA_f(c:Pa):List Pa->(List Pa)->(Bool)->(List Pa) × (Bool)
 | [],l,f=>(l,f)
 | el::r,l,f=>pyA_f c r (adL (Pa.mk (and3 (paC c) (paT c) (paC el)) (paT el)) l f) (adB l f)
noncomputable def pyA_q (c:Pa) (ls:List Pa) (ys:List Pa) (zs:List Pa) (k:Int) (l0:List Pa) (f0:Bool)  (p:(List Pa) × (Bool)):PExit × S:=(.exit 5,S.mk [(8,.v (.xp 0 0)),(9,.v (.xp 1 0)),(11,.lp 11 0),(13,vL 8 (Pa.cs ys)),(14,vL 8 (Pa.cs zs)),(16,.lp 16 0),(101,vL 8 (Pa.cs ls)),(102,vI6 (ls.length:Int)),(103,vI6 k),(107,vL 8 (Pa.cs ys)),(108,vI6 (ys.length:Int))] [(11,[.v (.fn (.func 59) [] [.xp 1 0,.xp 0 0])]),(16,paV c)] [(0,[.uniq 98 8 (Pa.cs (Prod.fst p))]),(1,[.v (.bool (Prod.snd p))]),(2,[.v PV.nilfn])])
theorem pyA(c:Pa)(hc1:prS (paC c))(hc2:prS (paT c))(ls ys zs:List Pa)(hys:paS ys)(k:Int)(l0:List Pa)(f0:Bool)(l:List Pa)(f:Bool)(hN:ys.length<=1000000000)(hv:paI l f):(Ob.loop 201 (loopF f28 1) (pyA_I c ls ys zs k l0 f0 0 l f) (pyA_q c ls ys zs k l0 f0  (pyA_f c (ys)  l f)).1 (pyA_q c ls ys zs k l0 f0  (pyA_f c (ys)  l f)).2).ok prog:=by
 refine rng ys.length (fun j zz=>pyA_I c ls ys zs k l0 f0 j zz.1 zz.2) (fun i zz=>pyA_f c (List.drop i (ys))  zz.1 zz.2) (pyA_q c ls ys zs k l0 f0) (fun i zz=>(fun (i:Nat) (l:List Pa) (f:Bool)=>(paI l f)) i zz.1 zz.2) kR ?_ (l,f) (by first | exact hv | omega)
 rintro i ⟨l,f⟩ hi hv
 try simp only at hv
 rcases Nat.lt_or_ge i (ys.length) with hlt | hge
 ·have hd:=drop_at hlt
  exact lS mdPa [rgPa hlt,cl (@an3T (paC c) (paT c) (paC (List.getD ys i default)) hc1 hc2 (by (apply gC1 <;> first | assumption | omega | decide))),ce (@adQ2 (and3 (paC c) (paT c) (paC (List.getD ys i default))) (paT (List.getD ys i default)) l f (PV.nilfn) hv),wr ((i:Int)+1)] [8,9,11,13,14,16,101,102,103,107,108,109] [11,16] hlt ((adL (Pa.mk (and3 (paC c) (paT c) (paC (List.getD ys i default))) (paT (List.getD ys i default))) l f),(adB l f)) (S.mk [(8,.v (.xp 0 0)),(9,.v (.xp 1 0)),(11,.lp 11 0),(13,vL 8 (Pa.cs ys)),(14,vL 8 (Pa.cs zs)),(16,.lp 16 0),(101,vL 8 (Pa.cs ls)),(102,vI6 (ls.length:Int)),(103,vI6 k),(107,vL 8 (Pa.cs ys)),(108,vI6 (ys.length:Int)),(109,vI6 ((i:Int)+1))] [(11,[.v (.fn (.func 59) [] [.xp 1 0,.xp 0 0])]),(16,paV c)] [(0,[.uniq 98 8 (Pa.cs (adL (Pa.mk (and3 (paC c) (paT c) (paC (List.getD ys i default))) (paT (List.getD ys i default))) l f))]),(1,[.v (.bool (adB l f))]),(2,[.v PV.nilfn])]) ⟨⟨W,W,W,W,W,W,W,W,W,W,W,W,tVv⟩,⟨Ws,Ws,tVv⟩,(by first | rfl | (simp only [List.nil_append,nmsC_app,nmsC_snoc,Pr.cs_snoc,Tp.cs_snoc,Ex.cs_snoc,Vr.cs_snoc,Df.cs_snoc,Pa.cs_snoc,qaC_snoc]; done) | (simp only [List.nil_append,nmsC_app,nmsC_snoc,Pr.cs_snoc,Tp.cs_snoc,Ex.cs_snoc,Vr.cs_snoc,Df.cs_snoc,Pa.cs_snoc,qaC_snoc]; rfl))⟩ (by first | assumption | omega | (apply gC1 <;> first | assumption | omega | decide) | (apply gC2 <;> first | assumption | omega | decide) | (apply gC3 <;> first | assumption | omega | decide) | (apply paI_add <;> first | assumption | omega | decide) | (apply notF_S <;> first | assumption | omega | decide) | (simp only [List.length_append,List.length_cons,List.length_nil] at *; omega) | simp_all) (by rw [hd,pyA_f])
 ·have he:i=ys.length:=by omega
  exact lX mdPa [df ((i:Int)<(ys.length:Int))] (l,f) (by rw [he,List.drop_length,pyA_f])
abbrev pzI(c:Pa)(ls ys zs:List Pa)(k j:Int)(l:List Pa)(f:Bool)(e:Ext):S:=⟨[(8,.v (.xp 0 0)),(9,.v (.xp 1 0)),(11,.lp 11 0),(13,.v (.sl 8 (Pa.cs ys))),(14,.v (.sl 8 (Pa.cs zs))),(16,.lp 16 0),(101,.v (.sl 8 (Pa.cs ls))),(102,.v (.int .i64 (ls.length:Int))),(103,.v (.int .i64 k)),(127,.v (.sl 8 (Pa.cs zs))),(128,.v (.int .i64 (zs.length:Int))),(129,.v (.int .i64 j))],[(11,[adX]),(16,paV c)],e⟩
abbrev pzA_I(c:Pa)(ls:List Pa)(ys:List Pa)(zs:List Pa)(k:Int)(l0:List Pa)(f0:Bool)(j:Int)(l:List Pa)(f:Bool)  : S:=S.mk [(8,.v (.xp 0 0)),(9,.v (.xp 1 0)),(11,.lp 11 0),(13,vL 8 (Pa.cs ys)),(14,vL 8 (Pa.cs zs)),(16,.lp 16 0),(101,vL 8 (Pa.cs ls)),(102,vI6 (ls.length:Int)),(103,vI6 k),(127,vL 8 (Pa.cs zs)),(128,vI6 (zs.length:Int)),(129,vI6 j)] [(11,[.v (.fn (.func 59) [] [.xp 1 0,.xp 0 0])]),(16,paV c)] (paE l f PV.nilfn)
def pzA_f(c:Pa):List Pa->(List Pa)->(Bool)->(List Pa) × (Bool)
 | [],l,f=>(l,f)
 | el::r,l,f=>pzA_f c r (adL (Pa.mk (and3 (paC c) (notF (paT c)) (paC el)) (paT el)) l f) (adB l f)
noncomputable def pzA_q (c:Pa) (ls:List Pa) (ys:List Pa) (zs:List Pa) (k:Int) (l0:List Pa) (f0:Bool)  (p:(List Pa) × (Bool)):PExit × S:=(.exit 7,S.mk [(8,.v (.xp 0 0)),(9,.v (.xp 1 0)),(11,.lp 11 0),(13,vL 8 (Pa.cs ys)),(14,vL 8 (Pa.cs zs)),(16,.lp 16 0),(101,vL 8 (Pa.cs ls)),(102,vI6 (ls.length:Int)),(103,vI6 k),(127,vL 8 (Pa.cs zs)),(128,vI6 (zs.length:Int))] [(11,[.v (.fn (.func 59) [] [.xp 1 0,.xp 0 0])]),(16,paV c)] [(0,[.uniq 98 8 (Pa.cs (Prod.fst p))]),(1,[.v (.bool (Prod.snd p))]),(2,[.v PV.nilfn])])
theorem pzA(c:Pa)(hc1:prS (paC c))(hc2:prS (paT c))(hc3:prS (notF (paT c)))(ls ys zs:List Pa)(hzs:paS zs)(k:Int)(l0:List Pa)(f0:Bool)(l:List Pa)(f:Bool)(hN:zs.length<=1000000000)(hv:paI l f):(Ob.loop 201 (loopF f28 2) (pzA_I c ls ys zs k l0 f0 0 l f) (pzA_q c ls ys zs k l0 f0  (pzA_f c (zs)  l f)).1 (pzA_q c ls ys zs k l0 f0  (pzA_f c (zs)  l f)).2).ok prog:=by
 refine rng zs.length (fun j zz=>pzA_I c ls ys zs k l0 f0 j zz.1 zz.2) (fun i zz=>pzA_f c (List.drop i (zs))  zz.1 zz.2) (pzA_q c ls ys zs k l0 f0) (fun i zz=>(fun (i:Nat) (l:List Pa) (f:Bool)=>(paI l f)) i zz.1 zz.2) kR ?_ (l,f) (by first | exact hv | omega)
 rintro i ⟨l,f⟩ hi hv
 try simp only at hv
 rcases Nat.lt_or_ge i (zs.length) with hlt | hge
 ·have hd:=drop_at hlt
  exact lS mdPa [rgPa hlt,cl (@notT (paT c) hc2),cl (@an3T (paC c) (notF (paT c)) (paC (List.getD zs i default)) hc1 hc3 (by (apply gC1 <;> first | assumption | omega | decide))),ce (@adQ2 (and3 (paC c) (notF (paT c)) (paC (List.getD zs i default))) (paT (List.getD zs i default)) l f (PV.nilfn) hv),wr ((i:Int)+1)] [8,9,11,13,14,16,101,102,103,127,128,129] [11,16] hlt ((adL (Pa.mk (and3 (paC c) (notF (paT c)) (paC (List.getD zs i default))) (paT (List.getD zs i default))) l f),(adB l f)) (S.mk [(8,.v (.xp 0 0)),(9,.v (.xp 1 0)),(11,.lp 11 0),(13,vL 8 (Pa.cs ys)),(14,vL 8 (Pa.cs zs)),(16,.lp 16 0),(101,vL 8 (Pa.cs ls)),(102,vI6 (ls.length:Int)),(103,vI6 k),(127,vL 8 (Pa.cs zs)),(128,vI6 (zs.length:Int)),(129,vI6 ((i:Int)+1))] [(11,[.v (.fn (.func 59) [] [.xp 1 0,.xp 0 0])]),(16,paV c)] [(0,[.uniq 98 8 (Pa.cs (adL (Pa.mk (and3 (paC c) (notF (paT c)) (paC (List.getD zs i default))) (paT (List.getD zs i default))) l f))]),(1,[.v (.bool (adB l f))]),(2,[.v PV.nilfn])]) ⟨⟨W,W,W,W,W,W,W,W,W,W,W,W,tVv⟩,⟨Ws,Ws,tVv⟩,(by first | rfl | (simp only [List.nil_append,nmsC_app,nmsC_snoc,Pr.cs_snoc,Tp.cs_snoc,Ex.cs_snoc,Vr.cs_snoc,Df.cs_snoc,Pa.cs_snoc,qaC_snoc]; done) | (simp only [List.nil_append,nmsC_app,nmsC_snoc,Pr.cs_snoc,Tp.cs_snoc,Ex.cs_snoc,Vr.cs_snoc,Df.cs_snoc,Pa.cs_snoc,qaC_snoc]; rfl))⟩ (by first | assumption | omega | (apply gC1 <;> first | assumption | omega | decide) | (apply gC2 <;> first | assumption | omega | decide) | (apply gC3 <;> first | assumption | omega | decide) | (apply paI_add <;> first | assumption | omega | decide) | (apply notF_S <;> first | assumption | omega | decide) | (simp only [List.length_append,List.length_cons,List.length_nil] at *; omega) | simp_all) (by rw [hd,pzA_f])
 ·have he:i=zs.length:=by omega
  exact lX mdPa [df ((i:Int)<(zs.length:Int))] (l,f) (by rw [he,List.drop_length,pzA_f])
theorem py_I(c:Pa):∀ (r l:List Pa) (f:Bool),paI l f->paI (pyA_f c r l f).1 (pyA_f c r l f).2
 | [],l,f,h=>h
 | p::r,l,f,h=>py_I c r _ _ (paI_add h)
theorem pz_I(c:Pa):∀ (r l:List Pa) (f:Bool),paI l f->paI (pzA_f c r l f).1 (pzA_f c r l f).2
 | [],l,f,h=>h
 | p::r,l,f,h=>pz_I c r _ _ (paI_add h)
theorem pyz_I(c:Pa)(ys zs l:List Pa)(f:Bool)(h:paI l f):paI (pzA_f c zs (pyA_f c ys l f).1 (pyA_f c ys l f).2).1 (pzA_f c zs (pyA_f c ys l f).1 (pyA_f c ys l f).2).2:=pz_I _ _ _ _ (py_I _ _ _ _ h)
theorem pyT(c:Pa)(hc1:prS (paC c))(hc2:prS (paT c))(ls ys zs:List Pa)(hys:paS ys)(k:Int)(l:List Pa)(f:Bool)(hN:ys.length<=1000000000)(hv:paI l f):(Ob.loop 201 (loopF f28 1) (pyI c ls ys zs k 0 l f (paE l f .nilfn)) (pyA_q c ls ys zs k l f (pyA_f c ys l f)).1 (pyA_q c ls ys zs k l f (pyA_f c ys l f)).2).ok prog:=pyA c hc1 hc2 ls ys zs hys k l f l f hN hv
theorem pzT(c:Pa)(hc1:prS (paC c))(hc2:prS (paT c))(ls ys zs:List Pa)(hzs:paS zs)(k:Int)(l:List Pa)(f:Bool)(hN:zs.length<=1000000000)(hv:paI l f):(Ob.loop 201 (loopF f28 2) (pzI c ls ys zs k 0 l f (paE l f .nilfn)) (pzA_q c ls ys zs k l f (pzA_f c zs l f)).1 (pzA_q c ls ys zs k l f (pzA_f c zs l f)).2).ok prog:=pzA c hc1 hc2 (notF_S hc2) ls ys zs hzs k l f l f hN hv
abbrev pwI(ls ys zs:List Pa)(j:Int)(e:Ext):S:=⟨[(8,.v (.xp 0 0)),(9,.v (.xp 1 0)),(11,.lp 11 0),(13,.v (.sl 8 (Pa.cs ys))),(14,.v (.sl 8 (Pa.cs zs))),(101,.v (.sl 8 (Pa.cs ls))),(102,.v (.int .i64 (ls.length:Int))),(103,.v (.int .i64 j))],[(11,[adX])],e⟩
abbrev pwA_I(ls:List Pa)(ys:List Pa)(zs:List Pa)(l0:List Pa)(f0:Bool)(j:Int)(l:List Pa)(f:Bool)  : S:=S.mk [(8,.v (.xp 0 0)),(9,.v (.xp 1 0)),(11,.lp 11 0),(13,vL 8 (Pa.cs ys)),(14,vL 8 (Pa.cs zs)),(101,vL 8 (Pa.cs ls)),(102,vI6 (ls.length:Int)),(103,vI6 j)] [(11,[.v (.fn (.func 59) [] [.xp 1 0,.xp 0 0])])] (paE l f PV.nilfn)
def pwA_f(ys:List Pa)(zs:List Pa):List Pa->(List Pa)->(Bool)->(List Pa) × (Bool)
 | [],l,f=>(l,f)
 | el::r,l,f=>pwA_f ys zs r (Prod.fst (pzA_f el zs (Prod.fst (pyA_f el ys l f)) (Prod.snd (pyA_f el ys l f)))) (Prod.snd (pzA_f el zs (Prod.fst (pyA_f el ys l f)) (Prod.snd (pyA_f el ys l f))))
noncomputable def pwA_q (ls:List Pa) (ys:List Pa) (zs:List Pa) (l0:List Pa) (f0:Bool)  (p:(List Pa) × (Bool)):PExit × S:=(.exit 3,S.mk [(8,.v (.xp 0 0)),(9,.v (.xp 1 0)),(11,.lp 11 0),(13,vL 8 (Pa.cs ys)),(14,vL 8 (Pa.cs zs)),(101,vL 8 (Pa.cs ls)),(102,vI6 (ls.length:Int))] [(11,[.v (.fn (.func 59) [] [.xp 1 0,.xp 0 0])])] [(0,[.uniq 98 8 (Pa.cs (Prod.fst p))]),(1,[.v (.bool (Prod.snd p))]),(2,[.v PV.nilfn])])
theorem pwA(ls ys zs:List Pa)(hls:paS ls)(hys:paS ys)(hzs:paS zs)(hyN:ys.length<=1000000000)(hzN:zs.length<=1000000000)(l0:List Pa)(f0:Bool)(l:List Pa)(f:Bool)(hN:ls.length<=1000000000)(hv:paI l f):(Ob.loop 201 (loopF f28 0) (pwA_I ls ys zs l0 f0 0 l f) (pwA_q ls ys zs l0 f0  (pwA_f ys zs (ls)  l f)).1 (pwA_q ls ys zs l0 f0  (pwA_f ys zs (ls)  l f)).2).ok prog:=by
 refine rng ls.length (fun j zz=>pwA_I ls ys zs l0 f0 j zz.1 zz.2) (fun i zz=>pwA_f ys zs (List.drop i (ls))  zz.1 zz.2) (pwA_q ls ys zs l0 f0) (fun i zz=>(fun (i:Nat) (l:List Pa) (f:Bool)=>(paI l f)) i zz.1 zz.2) kR ?_ (l,f) (by first | exact hv | omega)
 rintro i ⟨l,f⟩ hi hv
 try simp only at hv
 rcases Nat.lt_or_ge i (ls.length) with hlt | hge
 ·have hd:=drop_at hlt
  exact lS mdPa [rgPa hlt,sl (Pa.cs_len ys),lq (@pyT (List.getD ls i default) (by (apply gC1 <;> first | assumption | omega | decide)) (by (apply gC2 <;> first | assumption | omega | decide)) ls ys zs hys ((i:Int)) l f hyN hv),sl (Pa.cs_len zs),lq (@pzT (List.getD ls i default) (by (apply gC1 <;> first | assumption | omega | decide)) (by (apply gC2 <;> first | assumption | omega | decide)) ls ys zs hzs ((i:Int)) (Prod.fst (pyA_f (List.getD ls i default) ys l f)) (Prod.snd (pyA_f (List.getD ls i default) ys l f)) hzN (by (apply py_I <;> first | assumption | omega | decide))),wr ((i:Int)+1)] [8,9,11,13,14,101,102,103] [11] hlt ((Prod.fst (pzA_f (List.getD ls i default) zs (Prod.fst (pyA_f (List.getD ls i default) ys l f)) (Prod.snd (pyA_f (List.getD ls i default) ys l f)))),(Prod.snd (pzA_f (List.getD ls i default) zs (Prod.fst (pyA_f (List.getD ls i default) ys l f)) (Prod.snd (pyA_f (List.getD ls i default) ys l f))))) (S.mk [(8,.v (.xp 0 0)),(9,.v (.xp 1 0)),(11,.lp 11 0),(13,vL 8 (Pa.cs ys)),(14,vL 8 (Pa.cs zs)),(101,vL 8 (Pa.cs ls)),(102,vI6 (ls.length:Int)),(103,vI6 ((i:Int)+1))] [(11,[.v (.fn (.func 59) [] [.xp 1 0,.xp 0 0])])] [(0,[.uniq 98 8 (Pa.cs (Prod.fst (pzA_f (List.getD ls i default) zs (Prod.fst (pyA_f (List.getD ls i default) ys l f)) (Prod.snd (pyA_f (List.getD ls i default) ys l f)))))]),(1,[.v (.bool (Prod.snd (pzA_f (List.getD ls i default) zs (Prod.fst (pyA_f (List.getD ls i default) ys l f)) (Prod.snd (pyA_f (List.getD ls i default) ys l f)))))]),(2,[.v PV.nilfn])]) ⟨⟨W,W,W,W,W,W,W,W,tVv⟩,⟨Ws,tVv⟩,(by first | rfl | (simp only [List.nil_append,nmsC_app,nmsC_snoc,Pr.cs_snoc,Tp.cs_snoc,Ex.cs_snoc,Vr.cs_snoc,Df.cs_snoc,Pa.cs_snoc,qaC_snoc]; done) | (simp only [List.nil_append,nmsC_app,nmsC_snoc,Pr.cs_snoc,Tp.cs_snoc,Ex.cs_snoc,Vr.cs_snoc,Df.cs_snoc,Pa.cs_snoc,qaC_snoc]; rfl))⟩ (by first | assumption | omega | (apply gC1 <;> first | assumption | omega | decide) | (apply gC2 <;> first | assumption | omega | decide) | (apply py_I <;> first | assumption | omega | decide) | (apply pyz_I <;> first | assumption | omega | decide) | (simp only [List.length_append,List.length_cons,List.length_nil] at *; omega) | simp_all) (by rw [hd,pwA_f])
 ·have he:i=ls.length:=by omega
  exact lX mdPa [df ((i:Int)<(ls.length:Int))] (l,f) (by rw [he,List.drop_length,pwA_f])
theorem pwT(ls ys zs:List Pa)(hls:paS ls)(hys:paS ys)(hzs:paS zs)(hyN:ys.length<=1000000000)(hzN:zs.length<=1000000000)(l:List Pa)(f:Bool)(hN:ls.length<=1000000000)(hv:paI l f):(Ob.loop 201 (loopF f28 0) (pwI ls ys zs 0 (paE l f .nilfn)) (pwA_q ls ys zs l f (pwA_f ys zs ls l f)).1 (pwA_q ls ys zs l f (pwA_f ys zs ls l f)).2).ok prog:=pwA ls ys zs hls hys hzs hyN hzN l f l f hN hv
theorem paI_nil(f:Bool):paI [] f:=⟨by simp,by simp⟩
theorem pt8(m:Mo)(x:Ex)(s:Sc)(hop:exO x=8)(gk3:(exK x).length=3)(ys zs ls lo:List Pa)(f1 f2 f3:Bool)(h1:Ef 60 [.agg (exL ((exK x).getD 1 default)),.agg (scL s),.xp 1 0,.ro (moL m) 0] (paN true .nilfn) (.ret (.sl 8 (Pa.cs ys))) (paE lo f1 .nilfn))(h2:Ef 60 [.agg (exL ((exK x).getD 2 default)),.agg (scL s),.xp 1 0,.ro (moL m) 0] (paE lo f1 .nilfn) (.ret (.sl 8 (Pa.cs zs))) (paE lo f2 .nilfn))(h3:Ef 60 [.agg (exL ((exK x).getD 0 default)),.agg (scL s),.xp 1 0,.ro (moL m) 0] (paE lo f2 .nilfn) (.ret (.sl 8 (Pa.cs ls))) (paE lo f3 .nilfn))(hlo:paI lo f3)(hls:paS ls)(hys:paS ys)(hzs:paS zs)(hyN:ys.length<=1000000000)(hzN:zs.length<=1000000000)(hlN:ls.length<=1000000000):Ef 28 [.agg (moL m),.agg (exL x),.agg (scL s)] ([]) (.ret (.tup [.sl 8 (Pa.cs (Prod.fst (pwA_f ys zs ls lo f3))),.bool (Prod.snd (pwA_f ys zs ls lo f3))])) ([(0,[vL 8 (Pa.cs (Prod.fst (pwA_f ys zs ls lo f3)))]),(1,[.v (.bool (Prod.snd (pwA_f ys zs ls lo f3)))]),(2,[.v PV.nilfn])]):=
 Ob.eff_of (mdPa) 50 [Ans.bit false,Ans.bit false,Ans.bit false,Ans.bit true,Ans.as_ (.v (.ro (exL (List.getD (exK x) 1 default)) 0)),Ans.eff (.ret (.sl 8 (Pa.cs ys))) [(0,[.uniq 98 8 (Pa.cs lo)]),(1,[.v (.bool f1)]),(2,[.v PV.nilfn])],Ans.as_ (.v (.ro (exL (List.getD (exK x) 2 default)) 0)),Ans.eff (.ret (.sl 8 (Pa.cs zs))) [(0,[.uniq 98 8 (Pa.cs lo)]),(1,[.v (.bool f2)]),(2,[.v PV.nilfn])],Ans.as_ (.v (.ro (exL (List.getD (exK x) 0 default)) 0)),Ans.eff (.ret (.sl 8 (Pa.cs ls))) [(0,[.uniq 98 8 (Pa.cs lo)]),(1,[.v (.bool f3)]),(2,[.v PV.nilfn])],Ans.as_ (vI6 (ls.length:Int)),Ans.loop (S.mk [(8,.v (.xp 0 0)),(9,.v (.xp 1 0)),(11,.lp 11 0),(13,vL 8 (Pa.cs ys)),(14,vL 8 (Pa.cs zs)),(101,vL 8 (Pa.cs ls)),(102,vI6 (ls.length:Int)),(103,vI6 0)] [(11,[.v (.fn (.func 59) [] [.xp 1 0,.xp 0 0])])] [(0,[.uniq 98 8 (Pa.cs lo)]),(1,[.v (.bool f3)]),(2,[.v PV.nilfn])]) (.exit 3) (S.mk [(8,.v (.xp 0 0)),(9,.v (.xp 1 0)),(11,.lp 11 0),(13,vL 8 (Pa.cs ys)),(14,vL 8 (Pa.cs zs)),(101,vL 8 (Pa.cs ls)),(102,vI6 (ls.length:Int))] [(11,[.v (.fn (.func 59) [] [.xp 1 0,.xp 0 0])])] [(0,[.uniq 98 8 (Pa.cs (Prod.fst (pwA_f ys zs ls lo f3)))]),(1,[.v (.bool (Prod.snd (pwA_f ys zs ls lo f3)))]),(2,[.v PV.nilfn])])] (sc':=[]) (l:=[Ob.bit (exO x==1) false,Ob.bit (exO x==2) false,Ob.bit (exO x==3) false,Ob.bit (exO x==8) true,Ob.bit (decide ((0:Int)<=1/\1<((Ex.cs (exK x)).length:Int))) true,Ob.eqv (.v (.ro (List.getD (Ex.cs (exK x)) 1 []) 0)) (.v (.ro (exL (List.getD (exK x) 1 default)) 0)),Ob.eff 60 [.agg (exL (List.getD (exK x) 1 default)),.agg [PV.fm (scK s) (scT s),PV.fm (scK s) (scP s)],.xp 1 0,.ro (moL m) 0] [(0,[.v .nilsl]),(1,[.v (.bool true)]),(2,[.v PV.nilfn])] (.ret (.sl 8 (Pa.cs ys))) [(0,[.uniq 98 8 (Pa.cs lo)]),(1,[.v (.bool f1)]),(2,[.v PV.nilfn])],Ob.bit (decide ((0:Int)<=2/\2<((Ex.cs (exK x)).length:Int))) true,Ob.eqv (.v (.ro (List.getD (Ex.cs (exK x)) 2 []) 0)) (.v (.ro (exL (List.getD (exK x) 2 default)) 0)),Ob.eff 60 [.agg (exL (List.getD (exK x) 2 default)),.agg [PV.fm (scK s) (scT s),PV.fm (scK s) (scP s)],.xp 1 0,.ro (moL m) 0] [(0,[.uniq 98 8 (Pa.cs lo)]),(1,[.v (.bool f1)]),(2,[.v PV.nilfn])] (.ret (.sl 8 (Pa.cs zs))) [(0,[.uniq 98 8 (Pa.cs lo)]),(1,[.v (.bool f2)]),(2,[.v PV.nilfn])],Ob.bit (decide ((0:Int)<=0/\0<((Ex.cs (exK x)).length:Int))) true,Ob.eqv (.v (.ro (List.getD (Ex.cs (exK x)) 0 []) 0)) (.v (.ro (exL (List.getD (exK x) 0 default)) 0)),Ob.eff 60 [.agg (exL (List.getD (exK x) 0 default)),.agg [PV.fm (scK s) (scT s),PV.fm (scK s) (scP s)],.xp 1 0,.ro (moL m) 0] [(0,[.uniq 98 8 (Pa.cs lo)]),(1,[.v (.bool f2)]),(2,[.v PV.nilfn])] (.ret (.sl 8 (Pa.cs ls))) [(0,[.uniq 98 8 (Pa.cs lo)]),(1,[.v (.bool f3)]),(2,[.v PV.nilfn])],Ob.eqv (vI6 (↑((fun x=>List.length (Prod.snd x)) (8,Pa.cs ls)):Int)) (vI6 (ls.length:Int)),Ob.le (S.mk [(8,.v (.xp 0 0)),(9,.v (.xp 1 0)),(11,.lp 11 0),(13,vL 8 (Pa.cs ys)),(14,vL 8 (Pa.cs zs)),(101,vL 8 (Pa.cs ls)),(102,vI6 (ls.length:Int)),(103,vI6 0)] [(11,[.v (.fn (.func 59) [] [.xp 1 0,.xp 0 0])])] [(0,[.uniq 98 8 (Pa.cs lo)]),(1,[.v (.bool f3)]),(2,[.v PV.nilfn])]) (S.mk [(8,.v (.xp 0 0)),(9,.v (.xp 1 0)),(11,.lp 11 0),(13,vL 8 (Pa.cs ys)),(14,vL 8 (Pa.cs zs)),(101,vL 8 (Pa.cs ls)),(102,vI6 (ls.length:Int)),(103,vI6 0)] [(11,[.v (.fn (.func 59) [] [.xp 1 0,.xp 0 0])])] [(0,[.uniq 98 8 (Pa.cs lo)]),(1,[.v (.bool f3)]),(2,[.v PV.nilfn])]),Ob.loop (Func.ntmps f28) (loopF f28 0) (S.mk [(8,.v (.xp 0 0)),(9,.v (.xp 1 0)),(11,.lp 11 0),(13,vL 8 (Pa.cs ys)),(14,vL 8 (Pa.cs zs)),(101,vL 8 (Pa.cs ls)),(102,vI6 (ls.length:Int)),(103,vI6 0)] [(11,[.v (.fn (.func 59) [] [.xp 1 0,.xp 0 0])])] [(0,[.uniq 98 8 (Pa.cs lo)]),(1,[.v (.bool f3)]),(2,[.v PV.nilfn])]) (.exit 3) (S.mk [(8,.v (.xp 0 0)),(9,.v (.xp 1 0)),(11,.lp 11 0),(13,vL 8 (Pa.cs ys)),(14,vL 8 (Pa.cs zs)),(101,vL 8 (Pa.cs ls)),(102,vI6 (ls.length:Int))] [(11,[.v (.fn (.func 59) [] [.xp 1 0,.xp 0 0])])] [(0,[.uniq 98 8 (Pa.cs (Prod.fst (pwA_f ys zs ls lo f3)))]),(1,[.v (.bool (Prod.snd (pwA_f ys zs ls lo f3)))]),(2,[.v PV.nilfn])]),Ob.eqv (.v (.bool (Prod.snd (pwA_f ys zs ls lo f3)))) (.v (.bool (Prod.snd (pwA_f ys zs ls lo f3)))),Ob.eqv (.v (.bool (Prod.snd (pwA_f ys zs ls lo f3)))) (.v (.bool (Prod.snd (pwA_f ys zs ls lo f3))))]) mixed func28 kR kR ⟨(ob_bit (beF oM)),(ob_bit (beF oM)),(ob_bit (beF oM)),(ob_bit (beT hop)),(ob_bit (dT (by (simp only [Ex.cs_len]; omega)))),(ob_eqv (by rw [@Ex.cs_at (exK x) (1) oM]; try rfl)),(@h1),(ob_bit (dT (by (simp only [Ex.cs_len]; omega)))),(ob_eqv (by rw [@Ex.cs_at (exK x) (2) oM]; try rfl)),(@h2),(ob_bit (dT (by (simp only [Ex.cs_len]; omega)))),(ob_eqv (by rw [@Ex.cs_at (exK x) (0) oM]; try rfl)),(@h3),(ob_eqv (by (simp only [Pa.cs_len]; done))),⟨⟨W,W,W,W,W,W,W,W,tVv⟩,⟨⟨Wq,tVv⟩,tVv⟩,rfl⟩,(@pwT (ls) (ys) (zs) hls hys hzs hyN hzN (lo) (f3) hlN hlo),(ob_eqv rF),(ob_eqv rF),tVv⟩
theorem paI_and{l:List Pa}{f:Bool}(b:Bool)(h:paI l f):paI l (f&&b):=⟨h.1,fun hf=>h.2 (by simp at hf; exact hf.1)⟩
theorem paS_in{f:Bool}{k:List Pa}(h:paS k):paS (inK f k):=by
 unfold inK
 split
 ·exact h
 ·intro p hp; cases hp
theorem inK_N{f:Bool}{k:List Pa}{n:Nat}(h:k.length<=n):(inK f k).length<=n:=by
 unfold inK
 split
 ·exact h
 ·simp
abbrev scV(s:Sc):List LV:=[.v (.fm (scK s) (scT s)),.v (.fm (scK s) (scP s))]
abbrev inX(m:Mo):LV := .v (.fn (.func 60) [] [.xp 1 0,.ro (moL m) 0])
abbrev lvI(m:Mo)(x:Ex)(s:Sc)(b:Pa)(ls qs:List Pa)(k j:Int)(e:Ext):S:=⟨[(4,.lp 4 0),(5,.lp 5 0),(8,.v (.xp 0 0)),(9,.v (.xp 1 0)),(11,.lp 11 0),(12,inX m),(22,.lp 22 0),(157,.v (.sl 8 (Pa.cs ls))),(158,.v (.int .i64 (ls.length:Int))),(159,.v (.int .i64 k)),(180,.v (.sl 8 (Pa.cs qs))),(181,.v (.int .i64 (qs.length:Int))),(182,.v (.int .i64 j))],[(4,exV x),(5,scV s),(11,[adX]),(22,paV b)],e⟩
abbrev lvA_I(m:Mo)(x:Ex)(s:Sc)(b:Pa)(ls:List Pa)(qs:List Pa)(k:Int)(l0:List Pa)(f0:Bool)(j:Int)(l:List Pa)(f:Bool)  : S:=S.mk [(4,.lp 4 0),(5,.lp 5 0),(8,.v (.xp 0 0)),(9,.v (.xp 1 0)),(11,.lp 11 0),(12,.v (.fn (.func 60) [] [.xp 1 0,.ro (moL m) 0])),(22,.lp 22 0),(157,vL 8 (Pa.cs ls)),(158,vI6 (ls.length:Int)),(159,vI6 k),(180,vL 8 (Pa.cs qs)),(181,vI6 (qs.length:Int)),(182,vI6 j)] [(4,exV x),(5,[.v (PV.fm (scK s) (scT s)),.v (PV.fm (scK s) (scP s))]),(11,[.v (.fn (.func 59) [] [.xp 1 0,.xp 0 0])]),(22,paV b)] (paE l f PV.nilfn)
def lvA_f(b:Pa):List Pa->(List Pa)->(Bool)->(List Pa) × (Bool)
 | [],l,f=>(l,f)
 | el::r,l,f=>lvA_f b r (adL (Pa.mk (and2 (paC b) (paC el)) (paT el)) l f) (adB l f)
noncomputable def lvA_q (m:Mo) (x:Ex) (s:Sc) (b:Pa) (ls:List Pa) (qs:List Pa) (k:Int) (l0:List Pa) (f0:Bool)  (p:(List Pa) × (Bool)):PExit × S:=(.exit 11,S.mk [(4,.lp 4 0),(5,.lp 5 0),(8,.v (.xp 0 0)),(9,.v (.xp 1 0)),(11,.lp 11 0),(12,.v (.fn (.func 60) [] [.xp 1 0,.ro (moL m) 0])),(22,.lp 22 0),(157,vL 8 (Pa.cs ls)),(158,vI6 (ls.length:Int)),(159,vI6 k),(180,vL 8 (Pa.cs qs)),(181,vI6 (qs.length:Int))] [(4,exV x),(5,[.v (PV.fm (scK s) (scT s)),.v (PV.fm (scK s) (scP s))]),(11,[.v (.fn (.func 59) [] [.xp 1 0,.xp 0 0])]),(22,paV b)] [(0,[.uniq 98 8 (Pa.cs (Prod.fst p))]),(1,[.v (.bool (Prod.snd p))]),(2,[.v PV.nilfn])])
theorem lvA(m:Mo)(x:Ex)(s:Sc)(b:Pa)(hb1:prS (paC b))(ls qs:List Pa)(hqs:paS qs)(k:Int)(l0:List Pa)(f0:Bool)(l:List Pa)(f:Bool)(hN:qs.length<=1000000000)(hv:paI l f):(Ob.loop 201 (loopF f28 4) (lvA_I m x s b ls qs k l0 f0 0 l f) (lvA_q m x s b ls qs k l0 f0  (lvA_f b (qs)  l f)).1 (lvA_q m x s b ls qs k l0 f0  (lvA_f b (qs)  l f)).2).ok prog:=by
 refine rng qs.length (fun j zz=>lvA_I m x s b ls qs k l0 f0 j zz.1 zz.2) (fun i zz=>lvA_f b (List.drop i (qs))  zz.1 zz.2) (lvA_q m x s b ls qs k l0 f0) (fun i zz=>(fun (i:Nat) (l:List Pa) (f:Bool)=>(paI l f)) i zz.1 zz.2) kR ?_ (l,f) (by first | exact hv | omega)
 rintro i ⟨l,f⟩ hi hv
 try simp only at hv
 rcases Nat.lt_or_ge i (qs.length) with hlt | hge
 ·have hd:=drop_at hlt
  exact lS mdPa [rgPa hlt,cl (@an2T (paC b) (paC (List.getD qs i default)) hb1 (by (apply gC1 <;> first | assumption | omega | decide))),ce (@adQ2 (and2 (paC b) (paC (List.getD qs i default))) (paT (List.getD qs i default)) l f (PV.nilfn) hv),wr ((i:Int)+1)] [4,5,8,9,11,12,22,157,158,159,180,181,182] [4,5,11,22] hlt ((adL (Pa.mk (and2 (paC b) (paC (List.getD qs i default))) (paT (List.getD qs i default))) l f),(adB l f)) (S.mk [(4,.lp 4 0),(5,.lp 5 0),(8,.v (.xp 0 0)),(9,.v (.xp 1 0)),(11,.lp 11 0),(12,.v (.fn (.func 60) [] [.xp 1 0,.ro (moL m) 0])),(22,.lp 22 0),(157,vL 8 (Pa.cs ls)),(158,vI6 (ls.length:Int)),(159,vI6 k),(180,vL 8 (Pa.cs qs)),(181,vI6 (qs.length:Int)),(182,vI6 ((i:Int)+1))] [(4,exV x),(5,[.v (PV.fm (scK s) (scT s)),.v (PV.fm (scK s) (scP s))]),(11,[.v (.fn (.func 59) [] [.xp 1 0,.xp 0 0])]),(22,paV b)] [(0,[.uniq 98 8 (Pa.cs (adL (Pa.mk (and2 (paC b) (paC (List.getD qs i default))) (paT (List.getD qs i default))) l f))]),(1,[.v (.bool (adB l f))]),(2,[.v PV.nilfn])]) ⟨⟨W,W,W,W,W,W,W,W,W,W,W,W,W,tVv⟩,⟨Ws,Ws,Ws,Ws,tVv⟩,(by first | rfl | (simp only [List.nil_append,nmsC_app,nmsC_snoc,Pr.cs_snoc,Tp.cs_snoc,Ex.cs_snoc,Vr.cs_snoc,Df.cs_snoc,Pa.cs_snoc,qaC_snoc]; done) | (simp only [List.nil_append,nmsC_app,nmsC_snoc,Pr.cs_snoc,Tp.cs_snoc,Ex.cs_snoc,Vr.cs_snoc,Df.cs_snoc,Pa.cs_snoc,qaC_snoc]; rfl))⟩ (by first | assumption | omega | (apply gC1 <;> first | assumption | omega | decide) | (apply gC2 <;> first | assumption | omega | decide) | (apply paI_add <;> first | assumption | omega | decide) | (simp only [List.length_append,List.length_cons,List.length_nil] at *; omega) | simp_all) (by rw [hd,lvA_f])
 ·have he:i=qs.length:=by omega
  exact lX mdPa [df ((i:Int)<(qs.length:Int))] (l,f) (by rw [he,List.drop_length,lvA_f])
theorem lvT(m:Mo)(x:Ex)(s:Sc)(b:Pa)(hb1:prS (paC b))(ls qs:List Pa)(hqs:paS qs)(k:Int)(l:List Pa)(f:Bool)(hN:qs.length<=1000000000)(hv:paI l f):(Ob.loop 201 (loopF f28 4) (lvI m x s b ls qs k 0 (paE l f .nilfn)) (lvA_q m x s b ls qs k l f (lvA_f b qs l f)).1 (lvA_q m x s b ls qs k l f (lvA_f b qs l f)).2).ok prog:=lvA m x s b hb1 ls qs hqs k l f l f hN hv
theorem lv_I(b:Pa):∀ (r l:List Pa) (f:Bool),paI l f->paI (lvA_f b r l f).1 (lvA_f b r l f).2
 | [],l,f,h=>h
 | p::r,l,f,h=>lv_I b r _ _ (paI_add h)
theorem lv_Ia(b:Pa)(r l:List Pa)(f g:Bool)(h:paI l f):paI (lvA_f b r l (f&&g)).1 (lvA_f b r l (f&&g)).2:=lv_I b r _ _ (paI_and g h)
theorem gK1{pk:Pa->List Pa × Bool}{ls:List Pa}{i:Nat}{f:Bool}(hS:∀p:Pa,p∈ls->paS (pk p).1)(h:i<ls.length):paS (inK f (pk (ls.getD i default)).1):=paS_in (hS _ (gPa h))
theorem gK2{pk:Pa->List Pa × Bool}{ls:List Pa}{i:Nat}{f:Bool}(hS:∀p:Pa,p∈ls->(pk p).1.length<=17)(h:i<ls.length):(inK f (pk (ls.getD i default)).1).length<=1000000000:=inK_N (Nat.le_trans (hS _ (gPa h)) dD)
abbrev lwI(m:Mo)(x:Ex)(s:Sc)(ls:List Pa)(j:Int)(e:Ext):S:=⟨[(4,.lp 4 0),(5,.lp 5 0),(8,.v (.xp 0 0)),(9,.v (.xp 1 0)),(11,.lp 11 0),(12,inX m),(157,.v (.sl 8 (Pa.cs ls))),(158,.v (.int .i64 (ls.length:Int))),(159,.v (.int .i64 j))],[(4,exV x),(5,scV s),(11,[adX])],e⟩
abbrev lwA_I(m:Mo)(x:Ex)(s:Sc)(ls:List Pa)(pk:Pa->List Pa × Bool)(l0:List Pa)(f0:Bool)(j:Int)(l:List Pa)(f:Bool)  : S:=S.mk [(4,.lp 4 0),(5,.lp 5 0),(8,.v (.xp 0 0)),(9,.v (.xp 1 0)),(11,.lp 11 0),(12,.v (.fn (.func 60) [] [.xp 1 0,.ro (moL m) 0])),(157,vL 8 (Pa.cs ls)),(158,vI6 (ls.length:Int)),(159,vI6 j)] [(4,exV x),(5,[.v (PV.fm (scK s) (scT s)),.v (PV.fm (scK s) (scP s))]),(11,[.v (.fn (.func 59) [] [.xp 1 0,.xp 0 0])])] (paE l f PV.nilfn)
def lwA_f(pk:Pa->List Pa × Bool):List Pa->(List Pa)->(Bool)->(List Pa) × (Bool)
 | [],l,f=>(l,f)
 | el::r,l,f=>lwA_f pk r (Prod.fst (lvA_f el (inK f (Prod.fst (pk el))) l (f&&Prod.snd (pk el)))) (Prod.snd (lvA_f el (inK f (Prod.fst (pk el))) l (f&&Prod.snd (pk el))))
noncomputable def lwA_q (m:Mo) (x:Ex) (s:Sc) (ls:List Pa) (pk:Pa->List Pa × Bool) (l0:List Pa) (f0:Bool)  (p:(List Pa) × (Bool)):PExit × S:=(.exit 9,S.mk [(4,.lp 4 0),(5,.lp 5 0),(8,.v (.xp 0 0)),(9,.v (.xp 1 0)),(11,.lp 11 0),(12,.v (.fn (.func 60) [] [.xp 1 0,.ro (moL m) 0])),(157,vL 8 (Pa.cs ls)),(158,vI6 (ls.length:Int))] [(4,exV x),(5,[.v (PV.fm (scK s) (scT s)),.v (PV.fm (scK s) (scP s))]),(11,[.v (.fn (.func 59) [] [.xp 1 0,.xp 0 0])])] [(0,[.uniq 98 8 (Pa.cs (Prod.fst p))]),(1,[.v (.bool (Prod.snd p))]),(2,[.v PV.nilfn])])
theorem lwA(m:Mo)(x:Ex)(s:Sc)(hn:(scK s).Nodup)(gk2:(exK x).length=2)(gk1:(exT x).length=1)(hpl:∀t:Tp,t∈exT x->Pu 54 [.agg (tpL t)] (.ret (.agg (tpL (plF t)))))(ls:List Pa)(hls:paS ls)(pk:Pa->List Pa × Bool)(hk:∀ (p:Pa) (l:List Pa) (f:Bool),p∈ls->Ef 60 [.agg (exL ((exK x).getD 1 default)),.agg (scL (scW (exNm x) (tpO (plF ((exT x).getD 0 default))) (paT p) s)),.xp 1 0,.ro (moL m) 0] (paE l f .nilfn) (.ret (.sl 8 (Pa.cs (inK f (pk p).1)))) (paE l (f&&(pk p).2) .nilfn))(hS:∀p:Pa,p∈ls->paS (pk p).1)(hL:∀p:Pa,p∈ls->(pk p).1.length<=17)(l0:List Pa)(f0:Bool)(l:List Pa)(f:Bool)(hN:ls.length<=1000000000)(hv:paI l f):(Ob.loop 201 (loopF f28 3) (lwA_I m x s ls pk l0 f0 0 l f) (lwA_q m x s ls pk l0 f0  (lwA_f pk (ls)  l f)).1 (lwA_q m x s ls pk l0 f0  (lwA_f pk (ls)  l f)).2).ok prog:=by
 refine rng ls.length (fun j zz=>lwA_I m x s ls pk l0 f0 j zz.1 zz.2) (fun i zz=>lwA_f pk (List.drop i (ls))  zz.1 zz.2) (lwA_q m x s ls pk l0 f0) (fun i zz=>(fun (i:Nat) (l:List Pa) (f:Bool)=>(paI l f)) i zz.1 zz.2) kR ?_ (l,f) (by first | exact hv | omega)
 rintro i ⟨l,f⟩ hi hv
 try simp only at hv
 rcases Nat.lt_or_ge i (ls.length) with hlt | hge
 ·have hd:=drop_at hlt
  exact lS mdPa [rgPa hlt,mxEx (exK x) 1,xEx (exK x) 1,mxTp (exT x) 0,xTp (exT x) 0,cl (@hpl (List.getD (exT x) 0 default) (by simp_all [Bool.not_eq_true,Bool.not_eq_false,qaC_len,lu_s2])),cl (@withT s hn (exNm x) (tpO (plF (List.getD (exT x) 0 default))) (paT (List.getD ls i default))),ce (@hk (List.getD ls i default) l f (by simp_all [Bool.not_eq_true,Bool.not_eq_false,qaC_len,lu_s2])),sl (Pa.cs_len (inK f (Prod.fst (pk (List.getD ls i default))))),lq (@lvT m x s (List.getD ls i default) (by (apply gC1 <;> first | assumption | omega | decide)) ls (inK f (Prod.fst (pk (List.getD ls i default)))) (by (apply gK1 <;> first | assumption | omega | decide)) ((i:Int)) l (f&&Prod.snd (pk (List.getD ls i default))) (by (apply gK2 <;> first | assumption | omega | decide)) (by (apply paI_and <;> first | assumption | omega | decide))),wr ((i:Int)+1)] [4,5,8,9,11,12,157,158,159] [4,5,11] hlt ((Prod.fst (lvA_f (List.getD ls i default) (inK f (Prod.fst (pk (List.getD ls i default)))) l (f&&Prod.snd (pk (List.getD ls i default))))),(Prod.snd (lvA_f (List.getD ls i default) (inK f (Prod.fst (pk (List.getD ls i default)))) l (f&&Prod.snd (pk (List.getD ls i default)))))) (S.mk [(4,.lp 4 0),(5,.lp 5 0),(8,.v (.xp 0 0)),(9,.v (.xp 1 0)),(11,.lp 11 0),(12,.v (.fn (.func 60) [] [.xp 1 0,.ro (moL m) 0])),(157,vL 8 (Pa.cs ls)),(158,vI6 (ls.length:Int)),(159,vI6 ((i:Int)+1))] [(4,exV x),(5,[.v (PV.fm (scK s) (scT s)),.v (PV.fm (scK s) (scP s))]),(11,[.v (.fn (.func 59) [] [.xp 1 0,.xp 0 0])])] [(0,[.uniq 98 8 (Pa.cs (Prod.fst (lvA_f (List.getD ls i default) (inK f (Prod.fst (pk (List.getD ls i default)))) l (f&&Prod.snd (pk (List.getD ls i default))))))]),(1,[.v (.bool (Prod.snd (lvA_f (List.getD ls i default) (inK f (Prod.fst (pk (List.getD ls i default)))) l (f&&Prod.snd (pk (List.getD ls i default))))))]),(2,[.v PV.nilfn])]) ⟨⟨W,W,W,W,W,W,W,W,W,tVv⟩,⟨Ws,Ws,Ws,tVv⟩,(by first | rfl | (simp only [List.nil_append,nmsC_app,nmsC_snoc,Pr.cs_snoc,Tp.cs_snoc,Ex.cs_snoc,Vr.cs_snoc,Df.cs_snoc,Pa.cs_snoc,qaC_snoc]; done) | (simp only [List.nil_append,nmsC_app,nmsC_snoc,Pr.cs_snoc,Tp.cs_snoc,Ex.cs_snoc,Vr.cs_snoc,Df.cs_snoc,Pa.cs_snoc,qaC_snoc]; rfl))⟩ (by first | assumption | omega | (apply gC1 <;> first | assumption | omega | decide) | (apply gC2 <;> first | assumption | omega | decide) | (apply gPa <;> first | assumption | omega | decide) | (apply gTp <;> first | assumption | omega | decide) | (apply gK1 <;> first | assumption | omega | decide) | (apply gK2 <;> first | assumption | omega | decide) | (apply lv_Ia <;> first | assumption | omega | decide) | (apply paI_and <;> first | assumption | omega | decide) | (simp only [List.length_append,List.length_cons,List.length_nil] at *; omega) | simp_all) (by rw [hd,lwA_f])
 ·have he:i=ls.length:=by omega
  exact lX mdPa [df ((i:Int)<(ls.length:Int))] (l,f) (by rw [he,List.drop_length,lwA_f])
theorem lwT(m:Mo)(x:Ex)(s:Sc)(hn:(scK s).Nodup)(gk2:(exK x).length=2)(gk1:(exT x).length=1)(hpl:∀t:Tp,t∈exT x->Pu 54 [.agg (tpL t)] (.ret (.agg (tpL (plF t)))))(ls:List Pa)(hls:paS ls)(pk:Pa->List Pa × Bool)(hk:∀ (p:Pa) (l:List Pa) (f:Bool),p∈ls->Ef 60 [.agg (exL ((exK x).getD 1 default)),.agg (scL (scW (exNm x) (tpO (plF ((exT x).getD 0 default))) (paT p) s)),.xp 1 0,.ro (moL m) 0] (paE l f .nilfn) (.ret (.sl 8 (Pa.cs (inK f (pk p).1)))) (paE l (f&&(pk p).2) .nilfn))(hS:∀p:Pa,p∈ls->paS (pk p).1)(hL:∀p:Pa,p∈ls->(pk p).1.length<=17)(l:List Pa)(f:Bool)(hN:ls.length<=1000000000)(hv:paI l f):(Ob.loop 201 (loopF f28 3) (lwI m x s ls 0 (paE l f .nilfn)) (lwA_q m x s ls pk l f (lwA_f pk ls l f)).1 (lwA_q m x s ls pk l f (lwA_f pk ls l f)).2).ok prog:=lwA m x s hn gk2 gk1 hpl ls hls pk hk hS hL l f l f hN hv
theorem pt7(m:Mo)(x:Ex)(s:Sc)(hn:(scK s).Nodup)(hop:exO x=7)(gk2:(exK x).length=2)(gk1:(exT x).length=1)(hpl:∀t:Tp,t∈exT x->Pu 54 [.agg (tpL t)] (.ret (.agg (tpL (plF t)))))(ls lo:List Pa)(f1:Bool)(h1:Ef 60 [.agg (exL ((exK x).getD 0 default)),.agg (scL s),.xp 1 0,.ro (moL m) 0] (paN true .nilfn) (.ret (.sl 8 (Pa.cs ls))) (paE lo f1 .nilfn))(hls:paS ls)(hlN:ls.length<=1000000000)(pk:Pa->List Pa × Bool)(hk:∀ (p:Pa) (l:List Pa) (f:Bool),p∈ls->Ef 60 [.agg (exL ((exK x).getD 1 default)),.agg (scL (scW (exNm x) (tpO (plF ((exT x).getD 0 default))) (paT p) s)),.xp 1 0,.ro (moL m) 0] (paE l f .nilfn) (.ret (.sl 8 (Pa.cs (inK f (pk p).1)))) (paE l (f&&(pk p).2) .nilfn))(hS:∀p:Pa,p∈ls->paS (pk p).1)(hL:∀p:Pa,p∈ls->(pk p).1.length<=17)(hlo:paI lo f1):Ef 28 [.agg (moL m),.agg (exL x),.agg (scL s)] ([]) (.ret (.tup [.sl 8 (Pa.cs (Prod.fst (lwA_f pk ls lo f1))),.bool (Prod.snd (lwA_f pk ls lo f1))])) ([(0,[vL 8 (Pa.cs (Prod.fst (lwA_f pk ls lo f1)))]),(1,[.v (.bool (Prod.snd (lwA_f pk ls lo f1)))]),(2,[.v PV.nilfn])]):=
 Ob.eff_of (mdPa) 50 [Ans.bit false,Ans.bit false,Ans.bit false,Ans.bit false,Ans.bit true,Ans.as_ (.v (.ro (exL (List.getD (exK x) 0 default)) 0)),Ans.eff (.ret (.sl 8 (Pa.cs ls))) [(0,[.uniq 98 8 (Pa.cs lo)]),(1,[.v (.bool f1)]),(2,[.v PV.nilfn])],Ans.as_ (vI6 (ls.length:Int)),Ans.loop (S.mk [(4,.lp 4 0),(5,.lp 5 0),(8,.v (.xp 0 0)),(9,.v (.xp 1 0)),(11,.lp 11 0),(12,.v (.fn (.func 60) [] [.xp 1 0,.ro (moL m) 0])),(157,vL 8 (Pa.cs ls)),(158,vI6 (ls.length:Int)),(159,vI6 0)] [(4,exV x),(5,[.v (PV.fm (scK s) (scT s)),.v (PV.fm (scK s) (scP s))]),(11,[.v (.fn (.func 59) [] [.xp 1 0,.xp 0 0])])] [(0,[.uniq 98 8 (Pa.cs lo)]),(1,[.v (.bool f1)]),(2,[.v PV.nilfn])]) (.exit 9) (S.mk [(4,.lp 4 0),(5,.lp 5 0),(8,.v (.xp 0 0)),(9,.v (.xp 1 0)),(11,.lp 11 0),(12,.v (.fn (.func 60) [] [.xp 1 0,.ro (moL m) 0])),(157,vL 8 (Pa.cs ls)),(158,vI6 (ls.length:Int))] [(4,exV x),(5,[.v (PV.fm (scK s) (scT s)),.v (PV.fm (scK s) (scP s))]),(11,[.v (.fn (.func 59) [] [.xp 1 0,.xp 0 0])])] [(0,[.uniq 98 8 (Pa.cs (Prod.fst (lwA_f pk ls lo f1)))]),(1,[.v (.bool (Prod.snd (lwA_f pk ls lo f1)))]),(2,[.v PV.nilfn])])] (sc':=[]) (l:=[Ob.bit (exO x==1) false,Ob.bit (exO x==2) false,Ob.bit (exO x==3) false,Ob.bit (exO x==8) false,Ob.bit (exO x==7) true,Ob.bit (decide ((0:Int)<=0/\0<((Ex.cs (exK x)).length:Int))) true,Ob.eqv (.v (.ro (List.getD (Ex.cs (exK x)) 0 []) 0)) (.v (.ro (exL (List.getD (exK x) 0 default)) 0)),Ob.eff 60 [.agg (exL (List.getD (exK x) 0 default)),.agg [PV.fm (scK s) (scT s),PV.fm (scK s) (scP s)],.xp 1 0,.ro (moL m) 0] [(0,[.v .nilsl]),(1,[.v (.bool true)]),(2,[.v PV.nilfn])] (.ret (.sl 8 (Pa.cs ls))) [(0,[.uniq 98 8 (Pa.cs lo)]),(1,[.v (.bool f1)]),(2,[.v PV.nilfn])],Ob.eqv (vI6 (↑((fun x=>List.length (Prod.snd x)) (8,Pa.cs ls)):Int)) (vI6 (ls.length:Int)),Ob.le (S.mk [(4,.lp 4 0),(5,.lp 5 0),(8,.v (.xp 0 0)),(9,.v (.xp 1 0)),(11,.lp 11 0),(12,.v (.fn (.func 60) [] [.xp 1 0,.ro (moL m) 0])),(157,vL 8 (Pa.cs ls)),(158,vI6 (ls.length:Int)),(159,vI6 0)] [(4,exV x),(5,[.v (PV.fm (scK s) (scT s)),.v (PV.fm (scK s) (scP s))]),(11,[.v (.fn (.func 59) [] [.xp 1 0,.xp 0 0])])] [(0,[.uniq 98 8 (Pa.cs lo)]),(1,[.v (.bool f1)]),(2,[.v PV.nilfn])]) (S.mk [(4,.lp 4 0),(5,.lp 5 0),(8,.v (.xp 0 0)),(9,.v (.xp 1 0)),(11,.lp 11 0),(12,.v (.fn (.func 60) [] [.xp 1 0,.ro (moL m) 0])),(157,vL 8 (Pa.cs ls)),(158,vI6 (ls.length:Int)),(159,vI6 0)] [(4,exV x),(5,[.v (PV.fm (scK s) (scT s)),.v (PV.fm (scK s) (scP s))]),(11,[.v (.fn (.func 59) [] [.xp 1 0,.xp 0 0])])] [(0,[.uniq 98 8 (Pa.cs lo)]),(1,[.v (.bool f1)]),(2,[.v PV.nilfn])]),Ob.loop (Func.ntmps f28) (loopF f28 3) (S.mk [(4,.lp 4 0),(5,.lp 5 0),(8,.v (.xp 0 0)),(9,.v (.xp 1 0)),(11,.lp 11 0),(12,.v (.fn (.func 60) [] [.xp 1 0,.ro (moL m) 0])),(157,vL 8 (Pa.cs ls)),(158,vI6 (ls.length:Int)),(159,vI6 0)] [(4,exV x),(5,[.v (PV.fm (scK s) (scT s)),.v (PV.fm (scK s) (scP s))]),(11,[.v (.fn (.func 59) [] [.xp 1 0,.xp 0 0])])] [(0,[.uniq 98 8 (Pa.cs lo)]),(1,[.v (.bool f1)]),(2,[.v PV.nilfn])]) (.exit 9) (S.mk [(4,.lp 4 0),(5,.lp 5 0),(8,.v (.xp 0 0)),(9,.v (.xp 1 0)),(11,.lp 11 0),(12,.v (.fn (.func 60) [] [.xp 1 0,.ro (moL m) 0])),(157,vL 8 (Pa.cs ls)),(158,vI6 (ls.length:Int))] [(4,exV x),(5,[.v (PV.fm (scK s) (scT s)),.v (PV.fm (scK s) (scP s))]),(11,[.v (.fn (.func 59) [] [.xp 1 0,.xp 0 0])])] [(0,[.uniq 98 8 (Pa.cs (Prod.fst (lwA_f pk ls lo f1)))]),(1,[.v (.bool (Prod.snd (lwA_f pk ls lo f1)))]),(2,[.v PV.nilfn])]),Ob.eqv (.v (.bool (Prod.snd (lwA_f pk ls lo f1)))) (.v (.bool (Prod.snd (lwA_f pk ls lo f1)))),Ob.eqv (.v (.bool (Prod.snd (lwA_f pk ls lo f1)))) (.v (.bool (Prod.snd (lwA_f pk ls lo f1))))]) mixed func28 kR kR ⟨(ob_bit (beF oM)),(ob_bit (beF oM)),(ob_bit (beF oM)),(ob_bit (beF oM)),(ob_bit (beT hop)),(ob_bit (dT (by (simp only [Ex.cs_len]; omega)))),(ob_eqv (by rw [@Ex.cs_at (exK x) (0) oM]; try rfl)),(@h1),(ob_eqv (by (simp only [Pa.cs_len]; done))),⟨⟨W,W,W,W,W,Wq,W,W,W,tVv⟩,⟨⟨W,W,W,W,W,W,W,tVv⟩,⟨W,W,tVv⟩,⟨Wq,tVv⟩,tVv⟩,rfl⟩,(@lwT (m) (x) (s) hn gk2 gk1 hpl (ls) hls (pk) hk hS hL (lo) (f1) hlN hlo),(ob_eqv rF),(ob_eqv rF),tVv⟩
abbrev kaA_I(m:Mo)(x:Ex)(s:Sc)(pk:Ex->List Pa × Bool)(lo:List Pa)(l0:List (List Pa))(f0:Bool)(j:Int)(ll:List (List Pa))(f:Bool)  : S:=S.mk [(3,.v (.ro (moL m) 0)),(4,.lp 4 0),(5,.lp 5 0),(8,.v (.xp 0 0)),(9,.v (.xp 1 0)),(10,.v (.xp 2 0)),(11,.lp 11 0),(12,.v (.fn (.func 60) [] [.xp 1 0,.ro (moL m) 0])),(25,.lp 25 0),(33,vL 7 (Ex.cs (exK x))),(34,vI6 ((exK x).length:Int)),(35,vI6 j)] [(4,exV x),(5,[.v (PV.fm (scK s) (scT s)),.v (PV.fm (scK s) (scP s))]),(11,[.v (.fn (.func 59) [] [.xp 1 0,.xp 0 0])]),(25,[.uniq 94 1 (qaC ll)])] (paE lo f PV.nilfn)
def kaA_f(pk:Ex->List Pa × Bool):List Ex->(List (List Pa))->(Bool)->(List (List Pa)) × (Bool)
 | [],ll,f=>(ll,f)
 | el::r,ll,f=>kaA_f pk r (ll++[inK f (Prod.fst (pk el))]) (f&&Prod.snd (pk el))
noncomputable def kaA_q (m:Mo) (x:Ex) (s:Sc) (pk:Ex->List Pa × Bool) (lo:List Pa) (l0:List (List Pa)) (f0:Bool)  (p:(List (List Pa)) × (Bool)):PExit × S:=(.exit 1,S.mk [(3,.v (.ro (moL m) 0)),(4,.lp 4 0),(5,.lp 5 0),(8,.v (.xp 0 0)),(9,.v (.xp 1 0)),(10,.v (.xp 2 0)),(11,.lp 11 0),(12,.v (.fn (.func 60) [] [.xp 1 0,.ro (moL m) 0])),(25,.lp 25 0),(33,vL 7 (Ex.cs (exK x))),(34,vI6 ((exK x).length:Int))] [(4,exV x),(5,[.v (PV.fm (scK s) (scT s)),.v (PV.fm (scK s) (scP s))]),(11,[.v (.fn (.func 59) [] [.xp 1 0,.xp 0 0])]),(25,[.uniq 94 1 (qaC (Prod.fst p))])] [(0,[.uniq 98 8 (Pa.cs lo)]),(1,[.v (.bool (Prod.snd p))]),(2,[.v PV.nilfn])])
theorem kaA(m:Mo)(x:Ex)(s:Sc)(pk:Ex->List Pa × Bool)(hk:∀ (w:Ex) (l:List Pa) (f:Bool),w∈exK x->Ef 60 [.agg (exL w),.agg (scL s),.xp 1 0,.ro (moL m) 0] (paE l f .nilfn) (.ret (.sl 8 (Pa.cs (inK f (pk w).1)))) (paE l (f&&(pk w).2) .nilfn))(lo:List Pa)(l0:List (List Pa))(f0:Bool)(ll:List (List Pa))(f:Bool)(hN:(exK x).length<=1000000000)(hv:List.length ll<=0):(Ob.loop 201 (loopF f28 5) (kaA_I m x s pk lo l0 f0 0 ll f) (kaA_q m x s pk lo l0 f0  (kaA_f pk ((exK x))  ll f)).1 (kaA_q m x s pk lo l0 f0  (kaA_f pk ((exK x))  ll f)).2).ok prog:=by
 refine rng ((exK x).length) (fun j zz=>kaA_I m x s pk lo l0 f0 j zz.1 zz.2) (fun i zz=>kaA_f pk (List.drop i ((exK x)))  zz.1 zz.2) (kaA_q m x s pk lo l0 f0) (fun i zz=>(fun (i:Nat) (ll:List (List Pa)) (f:Bool)=>(ll.length<=i)) i zz.1 zz.2) kR ?_ (ll,f) (by first | exact hv | omega)
 rintro i ⟨ll,f⟩ hi hv
 try simp only at hv
 rcases Nat.lt_or_ge i ((exK x).length) with hlt | hge
 ·have hd:=drop_at hlt
  exact lS mdPa [rgEx hlt,ce (@hk (List.getD (exK x) i default) lo f (by simp_all [Bool.not_eq_true,Bool.not_eq_false,qaC_len,lu_s2])),am (List.length (qaC ll++[[.sl 8 (Pa.cs (inK f (Prod.fst (pk (List.getD (exK x) i default)))))]]) * (23+1)<=140737488355328) (by (simp only [List.length_append,List.length_cons,List.length_nil,Pa.cs_len,qaC_len]; omega)),wr ((i:Int)+1)] [3,4,5,8,9,10,11,12,25,33,34,35] [4,5,11,25] hlt ((ll++[inK f (Prod.fst (pk (List.getD (exK x) i default)))]),(f&&Prod.snd (pk (List.getD (exK x) i default)))) (S.mk [(3,.v (.ro (moL m) 0)),(4,.lp 4 0),(5,.lp 5 0),(8,.v (.xp 0 0)),(9,.v (.xp 1 0)),(10,.v (.xp 2 0)),(11,.lp 11 0),(12,.v (.fn (.func 60) [] [.xp 1 0,.ro (moL m) 0])),(25,.lp 25 0),(33,vL 7 (Ex.cs (exK x))),(34,vI6 ((exK x).length:Int)),(35,vI6 ((i:Int)+1))] [(4,exV x),(5,[.v (PV.fm (scK s) (scT s)),.v (PV.fm (scK s) (scP s))]),(11,[.v (.fn (.func 59) [] [.xp 1 0,.xp 0 0])]),(25,[.uniq 94 1 (qaC ll++[[PV.sl 8 (Pa.cs (inK f (Prod.fst (pk (List.getD (exK x) i default)))))]])])] [(0,[.uniq 98 8 (Pa.cs lo)]),(1,[.v (.bool (f&&Prod.snd (pk (List.getD (exK x) i default))))]),(2,[.v PV.nilfn])]) ⟨⟨W,W,W,W,W,W,W,W,W,W,W,W,tVv⟩,⟨Ws,Ws,Ws,⟨(.inl (by first | (simp only [List.nil_append,nmsC_app,nmsC_snoc,Pr.cs_snoc,Tp.cs_snoc,Ex.cs_snoc,Vr.cs_snoc,Df.cs_snoc,Pa.cs_snoc,qaC_snoc]; done) | (simp only [List.nil_append,nmsC_app,nmsC_snoc,Pr.cs_snoc,Tp.cs_snoc,Ex.cs_snoc,Vr.cs_snoc,Df.cs_snoc,Pa.cs_snoc,qaC_snoc]; rfl))),tVv⟩,tVv⟩,(by first | rfl | (simp only [List.nil_append,nmsC_app,nmsC_snoc,Pr.cs_snoc,Tp.cs_snoc,Ex.cs_snoc,Vr.cs_snoc,Df.cs_snoc,Pa.cs_snoc,qaC_snoc]; done) | (simp only [List.nil_append,nmsC_app,nmsC_snoc,Pr.cs_snoc,Tp.cs_snoc,Ex.cs_snoc,Vr.cs_snoc,Df.cs_snoc,Pa.cs_snoc,qaC_snoc]; rfl))⟩ (by first | assumption | omega | (apply gEx <;> first | assumption | omega | decide) | (simp only [List.length_append,List.length_cons,List.length_nil] at *; omega) | simp_all) (by rw [hd,kaA_f])
 ·have he:i=(exK x).length:=by omega
  exact lX mdPa [df ((i:Int)<((exK x).length:Int))] (ll,f) (by rw [he,List.drop_length,kaA_f])
end Go.Proofs.YtidabncghfbdaaaGreatDoor
