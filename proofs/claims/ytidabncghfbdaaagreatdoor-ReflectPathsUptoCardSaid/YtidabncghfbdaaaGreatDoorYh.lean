/- Values of Go as plain data, an evaluator over them, and what the functions of the program return; part Yh. -/
import Derived.Test.YtidabncghfbdaaaGreatDoorYg
import Derived.Test.YtidabncghfbdaaaGreatDoorYd
import Derived.Test.YtidabncghfbdaaaGreatDoorYa
import Derived.Test.YtidabncghfbdaaaGreatDoorYc
set_option linter.unusedSectionVars false
set_option linter.unusedSimpArgs false
set_option linter.unusedVariables false
namespace Go.Proofs.YtidabncghfbdaaaGreatDoor
open Go.Proofs.Tryz
open Go.Pv Go.Proofs.Tryz
set_option maxRecDepth 100000
theorem caM(m:Mo)(d:Df)(hmd:¬dfM d=2):Pu 10 [.agg (moL m),.agg (dfL d)] (.ret (.tup [.sl 4 [],.sl 4 [],pI 6])):=
 Ob.pur_wk (Wk.t (kn 4 (kn 4 (WkL.r _)))) (pm mdL [rp 5 (nt (dfM d) 2 hmd),bt true] func10)
theorem caN(m:Mo)(d:Df)(hmd:dfM d=2)(hfr:Pu 25 [.agg (moL m),.agg (dfL d)] (.ret (.bool false))):Pu 10 [.agg (moL m),.agg (dfL d)] (.ret (.tup [.sl 4 [],.sl 4 [],pI 6])):=
 Ob.pur_wk (Wk.t (kn 4 (kn 4 (WkL.r _)))) (pm mdL [rp 3 (nn (dfM d) 2 hmd),cl hfr,rp 2 (nn (dfM d) 2 hmd),bt true] func10)
theorem caO(m:Mo)(d:Df)(hmd:dfM d=2)(hfr:Pu 25 [.agg (moL m),.agg (dfL d)] (.ret (.bool true)))(s:Sc)(bg:Bool)(hbg:Pu 27 [.agg (dfL d)] (.ret (.tup [.agg (scL s),.bool bg])))(ls:List Pa)(hpk:Pu 28 [.agg (moL m),.agg (exL (dfB d)),.agg (scL s)] (.ret (.tup [.sl 8 (Pa.cs ls),.bool false]))):Pu 10 [.agg (moL m),.agg (dfL d)] (.ret (.tup [.sl 4 [],.sl 4 [],pI 7])):=
 Ob.pur_wk (Wk.t (kn 4 (kn 4 (WkL.r _)))) (pm mdL [rp 3 (nn (dfM d) 2 hmd),cl hfr,rp 2 (nn (dfM d) 2 hmd),bf false,cl hbg,cl hpk,bt true] func10)
theorem caL_1(m:Mo)(d:Df)(hmd:dfM d=2)(hfr:Pu 25 [.agg (moL m),.agg (dfL d)] (.ret (.bool true)))(s:Sc)(bg:Bool)(hbg:Pu 27 [.agg (dfL d)] (.ret (.tup [.agg (scL s),.bool bg])))(ls:List Pa)(hpk:Pu 28 [.agg (moL m),.agg (exL (dfB d)),.agg (scL s)] (.ret (.tup [.sl 8 (Pa.cs ls),.bool true])))(hls:paS ls)(hlN:ls.length<=1000000000)(hy0:List Pr)(hy1:List Pr)(hx2:caA_f ls [] []=caA_R.e0 hy0 hy1):Pu 10 [.agg (moL m),.agg (dfL d)] (.ret (.tup [.sl 4 [],.sl 4 [],pI 7])):=
 Ob.pur_wk (Wk.t (kn 4 (kn 4 (WkL.r _)))) (pu mdL (fun e=>[rp 3 (nn (dfM d) 2 hmd),cl hfr,rp 2 (nn (dfM d) 2 hmd),bf false,cl hbg,cl hpk,bf false,sl (Pa.cs_len ls),lp (S.mk [(11,.v .nilsl),(12,.v .nilsl),(39,vL 8 (Pa.cs ls)),(40,vI6 (ls.length:Int)),(41,vI6 0)] [] e) (@caA_0 m d hfr s bg hbg ls hpk hls ([]) ([]) e hlN dD hy0 hy1 hx2) ⟨⟨Wq,Wq,W,W,W,tVv⟩,trivial,rfl⟩]) func10)
theorem caL_2(m:Mo)(d:Df)(hmd:dfM d=2)(hfr:Pu 25 [.agg (moL m),.agg (dfL d)] (.ret (.bool true)))(s:Sc)(bg:Bool)(hbg:Pu 27 [.agg (dfL d)] (.ret (.tup [.agg (scL s),.bool bg])))(ls:List Pa)(hpk:Pu 28 [.agg (moL m),.agg (exL (dfB d)),.agg (scL s)] (.ret (.tup [.sl 8 (Pa.cs ls),.bool true])))(hls:paS ls)(hlN:ls.length<=1000000000)(hy0:List Pr)(hy1:List Pr)(hx2:caA_f ls [] []=caA_R.e1 hy0 hy1):Pu 10 [.agg (moL m),.agg (dfL d)] (.ret (.tup [.sl 4 (Pr.cs hy0),.sl 4 (Pr.cs hy1),pI 0])):=
 pu mdL (fun e=>[rp 3 (nn (dfM d) 2 hmd),cl hfr,rp 2 (nn (dfM d) 2 hmd),bf false,cl hbg,cl hpk,bf false,sl (Pa.cs_len ls),lp (S.mk [(11,.v .nilsl),(12,.v .nilsl),(39,vL 8 (Pa.cs ls)),(40,vI6 (ls.length:Int)),(41,vI6 0)] [] e) (@caA_1 m d hfr s bg hbg ls hpk hls ([]) ([]) e hlN dD hy0 hy1 hx2) ⟨⟨Wq,Wq,W,W,W,tVv⟩,trivial,rfl⟩]) func10
def frF(m:Mo)(d:Df):Bool:=frS_r0 (bgB d) (syE (dfB d)) (riD m 1000000001 (dfB d) (bgF d))
theorem frT(m:Mo)(d:Df)(hN:(moF m).length<=1000000000)(hd:bulkPs (dfL d)<=100000000):Pu 25 [.agg (moL m),.agg (dfL d)] (.ret (.bool (frF m d))):=by
 have h1:=df_le d
 exact frS m d (bgF d) (bgB d) (bgT d hd) (syE (dfB d)) (syT _ oM) _ (ri_ok m hN 1000000001 (dfB d) (bgF d) oM oM (bgF_keys d))
theorem frF_ok{m:Mo}{d:Df}(h:frF m d=true):okD 1000000001 (dfB d)=true:=by
 unfold frF frS_r0 at h
 split at h
 ·split at h
  ·exact okD_of m _ _ _ h
  ·cases h
 ·cases h
theorem be0_S(u:Tp):∀ (l:List BA) (i:Nat) (s:Sc),scS s->scS (be0_f u l i s)
 | [],i,s,h=>h
 | x::r,i,s,h=>be0_S u r (i+1) _ (scW_S (prS_mk sM sM) h)
theorem bgF_S(d:Df):scS (bgF d):=by
 unfold bgF
 split
 ·exact be0_S _ _ _ _ (fun x hx=>by cases hx)
 ·exact fun x hx=>by cases hx
def caF(m:Mo)(d:Df):List Pr × List Pr × Int:=
 if dfM d=2 then
  if frF m d=true then
   if (pkD m 1000000001 (dfB d) (bgF d)).2=true then match caA_f (pkD m 1000000001 (dfB d) (bgF d)).1 [] [] with
    | .e0 _ _=>([],[],7)
    | .e1 cs ts=>(cs,ts,0)
   else ([],[],7)
  else ([],[],6)
 else ([],[],6)
theorem caT(m:Mo)(d:Df)(hm:bulkPs (moL m)<=100000000)(hd:bulkPs (dfL d)<=100000000):Pu 10 [.agg (moL m),.agg (dfL d)] (.ret (.tup [.sl 4 (Pr.cs (caF m d).1),.sl 4 (Pr.cs (caF m d).2.1),.int .i64 (caF m d).2.2])):=by
 have h1:=moF_blk m
 have h2:=Df.bulk (moF m)
 have h3:=df_le d
 have hfr:=frT m d oM hd
 unfold caF
 by_cases hmd:dfM d=2
 case neg=>rw [iN hmd]; exact caM m d hmd
 rw [iP hmd]
 cases hf:frF m d with
 | false=>
  rw [hf] at hfr
  exact caN m d hmd hfr
 | true=>
  rw [hf] at hfr
  have hok:=frF_ok hf
  have hpk:=pk_ok m oM 1000000001 (dfB d) (bgF d) oM hok (bgF_keys d) (bgF_S d)
  have hg:=pkD_G m 1000000001 (dfB d) (bgF d) oM hok (bgF_S d)
  rw [iP rfl]
  cases hb:(pkD m 1000000001 (dfB d) (bgF d)).2 with
  | false=>
   rw [hb] at hpk
   exact caO m d hmd hfr _ _ (bgT d hd) _ hpk
  | true=>
   rw [hb] at hpk
   rw [iP rfl]
   have hl:(pkD m 1000000001 (dfB d) (bgF d)).1.length<=1000000000:=Nat.le_trans hg.1.1 dD
   cases hc:caA_f (pkD m 1000000001 (dfB d) (bgF d)).1 [] [] with
   | e0 cs ts=>exact caL_1 m d hmd hfr _ _ (bgT d hd) _ hpk hg.2 hl cs ts hc
   | e1 cs ts=>exact caL_2 m d hmd hfr _ _ (bgT d hd) _ hpk hg.2 hl cs ts hc
structure Val (V:Pr->Option Int):Prop where
 cst:∀ (s:BA) (n:Int),V (.mk 2 s n [])=some n
 neg:∀ (s:BA) (n:Int) (k:Pr),V (.mk 14 s n [k])=(V k).map fun a=>if a=0 then 1 else 0
 con:∀ (s:BA) (n:Int) (a b:Pr),V (.mk 15 s n [a,b])=(V a).bind fun x=>(V b).map fun y=>if x≠0/\y≠0 then 1 else 0
def bB(V:Pr->Option Int)(p:Pr):Option Bool:=(V p).map fun n=>decide (n≠0)
def sA:Option Bool->Option Bool->Option Bool
 | some x,some y=>some (x&&y)
 | _,_=>none
def sAll(V:Pr->Option Int):List Pr->Option Bool
 | []=>some true
 | p::r=>sA (bB V p) (sAll V r)
theorem sA_assoc(a b c:Option Bool):sA (sA a b) c=sA a (sA b c):=by
 cases a <;> cases b <;> cases c <;> simp [sA,Bool.and_assoc]
theorem sA_tr(a:Option Bool):sA a (some true)=a:=by cases a <;> simp [sA]
theorem sA_tl(a:Option Bool):sA (some true) a=a:=by cases a <;> simp [sA]
theorem sA_some{a b:Option Bool}{v:Bool}(h:sA a b=some v):∃x y,a=some x/\b=some y/\v=(x&&y):=by
 cases a <;> cases b <;> simp [sA] at h ⊢
 exact h.symm
section
variable {V:Pr->Option Int} (hV:Val V)
include hV
theorem bB_tr:bB V prTr=some true:=by rw [bB,prTr,hV.cst]; rfl
theorem bB_fa:bB V prFa=some false:=by rw [bB,prFa,hV.cst]; rfl
theorem bB_neg(s:BA)(n:Int)(k:Pr):bB V (.mk 14 s n [k])=(bB V k).map not:=by
 rw [bB,hV.neg,bB]
 cases V k with
 | none=>rfl
 | some a=>
  by_cases h:a=0 <;> simp [h]
theorem bB_con(s:BA)(n:Int)(a b:Pr):bB V (.mk 15 s n [a,b])=sA (bB V a) (bB V b):=by
 rw [bB,hV.con,bB,bB]
 cases V a with
 | none=>rfl
 | some x=>
  cases V b with
  | none=>rfl
  | some y=>
   by_cases h:x=0 <;> by_cases h':y=0 <;> simp [h,h',sA]
omit hV in
theorem isNl_nil{l:List Pr}(h:isNl l=true):l=[]:=by
 unfold isNl at h
 have:=of_decide_eq_true h
 exact List.eq_nil_of_length_eq_zero oM
omit hV in
theorem psf_fa{u:Pr}(h:psf_r0 u=true):u=prFa:=by
 have eu:u = .mk (prO u) (prNm u) (prN u) (prK u):=by cases u; rfl
 unfold psf_r0 at h
 split at h
 ·rename_i e1
  split at h
  ·rename_i e2
   split at h
   ·rename_i e3
    rw [eu,e1,e2,e3,isNl_nil h]; rfl
   ·cases h
  ·cases h
 ·cases h
omit hV in
theorem pvo_tr{u:Pr}(h:pvo_r0 u=true)(h0:prO u≠0):u=prTr:=by
 have eu:u = .mk (prO u) (prNm u) (prN u) (prK u):=by cases u; rfl
 unfold pvo_r0 at h
 have hz:pzz_r0 u=false:=by unfold pzz_r0; rw [iN h0]
 rw [hz] at h
 simp only [Bool.false_eq_true,if_false] at h
 unfold pst_r0 at h
 split at h
 ·rename_i e1
  split at h
  ·rename_i e2
   split at h
   ·rename_i e3
    rw [eu,e1,e2,e3,isNl_nil h]; rfl
   ·cases h
  ·cases h
 ·cases h
def anBo(V:Pr->Option Int)(l:List Pr)(b0:Option Bool):anA_R->Prop
 | .e0 _ _ _ _ _=>l.any psf_r0=true
 | .e1 o s n k _=>l.any psf_r0=false/\bB V (.mk o s n k)=sA b0 (sAll V l)/\o≠0
theorem an_B:∀ (l:List Pr) (o:Int) (s:BA) (n:Int) (k:List Pr) (b:Bool),(b=false->Pr.mk o s n k=prTr)->o≠0->(∀w∈l,prO w≠0)->anBo V l (bB V (.mk o s n k)) (anA_f l o s n k b)
 | [],o,s,n,k,b,_,h0,_=>⟨rfl,(sA_tr _).symm,h0⟩
 | w::r,o,s,n,k,b,hb,h0,hl=>by
  have hw:=hl w sM
  have hr:∀w∈r,prO w≠0:=fun v hv=>hl v (by simp [hv])
  have step:∀ (o':Int) (s':BA) (n':Int) (k':List Pr) (b':Bool),psf_r0 w=false->bB V (.mk o' s' n' k')=sA (bB V (.mk o s n k)) (bB V w)->anBo V r (bB V (.mk o' s' n' k')) (anA_f r o' s' n' k' b')->anBo V (w::r) (bB V (.mk o s n k)) (anA_f r o' s' n' k' b'):=fun o' s' n' k' b' h1 h2 h3=>by
   revert h3
   cases anA_f r o' s' n' k' b' with
   | e0 _ _ _ _ _=>intro h3; simp only [anBo,List.any_cons,h1,Bool.false_or] at h3 ⊢; exact h3
   | e1 _ _ _ _ _=>
    intro h3
    simp only [anBo,List.any_cons,h1,Bool.false_or] at h3 ⊢
    refine ⟨h3.1,?_,h3.2.2⟩
    rw [h3.2.1,h2,sA_assoc,sAll]
  rw [anA_f]
  split
  ·rename_i hv
   have:=pvo_tr hv hw
   subst this
   exact step _ _ _ _ _ rfl (by rw [bB_tr hV,sA_tr]) (an_B r o s n k b hb h0 hr)
  ·split
   ·rename_i hf
    show (w::r).any psf_r0=true
    rw [List.any_cons,hf]; rfl
   ·rename_i hf
    have hf:psf_r0 w=false:=by simpa using hf
    split
    ·exact step _ _ _ _ _ hf (bB_con hV _ _ _ _) (an_B r _ _ _ _ _ (fun h=>by subst_vars; simp_all) dD hr)
    ·rename_i hbf
     have hbf:b=false:=by simpa using hbf
     have e:=hb hbf
     cases w with
     | mk ow sw nw kw=>
      refine step _ _ _ _ _ hf ?_ (an_B r ow sw nw kw true (fun h=>by cases h) hw hr)
      rw [e,bB_tr hV,sA_tl]
      rfl
theorem and_ok{l:List Pr}(hl:∀w∈l,prO w≠0):prO (andF l)≠0/\bB V (andF l)=if l.any psf_r0=true then some false else sAll V l:=by
 have:=an_B hV l 2 nm0 1 [] false (fun _=>rfl) dD hl
 unfold andF
 revert this
 cases anA_f l 2 nm0 1 [] false with
 | e0 _ _ _ _ _=>intro h; rw [iP (show l.any psf_r0=true from h)]; exact ⟨show prO prFa≠0 by decide,bB_fa hV⟩
 | e1 o s n k b=>
  intro h
  rw [iN (by rw [h.1]; decide)]
  refine ⟨h.2.2,?_⟩
  rw [h.2.1]
  show sA (bB V prTr) _=_
  rw [bB_tr hV,sA_tl]
def tz(u:Pr):Prop:=prO u≠0/\∀w∈prK u,prO w≠0
theorem not_ok{u:Pr}(h:tz u):prO (notF u)≠0/\bB V (notF u)=(bB V u).map not:=by
 unfold notF
 split
 ·rename_i e
  cases u with
  | mk o s n k=>
   obtain ⟨e1,e2⟩:=e
   simp only [prO,prK] at e1 e2
   subst e1
   match k,e2 with
   | [w],_=>
    refine ⟨h.2 w (by simp [prK]),?_⟩
    rw [bB_neg hV]
    show bB V w=_
    cases bB V w <;> simp
 ·split
  ·rename_i hv
   have:=pvo_tr hv h.1
   subst this
   exact ⟨by decide,by rw [bB_fa hV,bB_tr hV]; rfl⟩
  ·split
   ·rename_i hf
    have:=psf_fa hf
    subst this
    exact ⟨by decide,by rw [bB_fa hV,bB_tr hV]; rfl⟩
   ·exact ⟨by simp [prO],bB_neg hV _ _ _⟩
def cT(V:Pr->Option Int)(l:List Pa):Nat:=(l.filter fun p=>bB V (paC p)==some true).length
def oneH(V:Pr->Option Int)(l:List Pa):Prop:=(∀p∈l,bB V (paC p)≠none)->cT V l=1
omit hV in
theorem cT_app(a b:List Pa):cT V (a++b)=cT V a+cT V b:=by simp [cT]
omit hV in
theorem cT_cons(p:Pa)(r:List Pa):cT V (p::r)=(if bB V (paC p)=some true then 1 else 0)+cT V r:=by
 unfold cT
 rw [List.filter_cons]
 by_cases h:bB V (paC p)=some true
 ·simp [h]; omega
 ·simp [h]
omit hV in
theorem cT_blk{r:List Pa}{G:Pa->List Pa}(h:∀c∈r,cT V (G c)=if bB V (paC c)=some true then 1 else 0):cT V (r.flatMap G)=cT V r:=by
 induction r with
 | nil=>rfl
 | cons c r ih=>
  rw [List.flatMap_cons,cT_app,cT_cons,h c sM,ih fun c hc=>h c (by simp [hc])]
omit hV in
theorem cT_ex{l:List Pa}(h:cT V l=1):∃p∈l,bB V (paC p)=some true:=by
 unfold cT at h
 obtain ⟨p,hp⟩:=List.exists_mem_of_length_pos (show 0<(l.filter fun p=>bB V (paC p)==some true).length by omega)
 have:=List.mem_filter.1 hp
 exact ⟨p,this.1,by simpa using this.2⟩
theorem half(ys:List Pa)(hx:oneH V ys)(f0:Bool)(b0:Option Bool)(g:Pa->Pa)(hg:∀y∈ys,bB V (paC (g y))=if (f0||psf_r0 (paC y))=true then some false else sA b0 (bB V (paC y)))(hk:∀y∈ys,bB V (paC (g y))≠none) :
  (f0=true->cT V (ys.map g)=0)/\(f0=false->∃v,b0=some v/\cT V (ys.map g)=if v=true then 1 else 0):=by
 refine ⟨fun h=>?_,fun h=>?_⟩
 ·unfold cT
  rw [List.length_eq_zero_iff,List.filter_eq_nil_iff]
  intro p hp
  obtain ⟨y,hy,rfl⟩:=List.mem_map.1 hp
  rw [hg y hy,h]
  simp
 ·subst h
  have hy:∀y∈ys,bB V (paC y)≠none/\(psf_r0 (paC y)=false->∃v,b0=some v):=fun y hy=>by
   have h1:=hg y hy
   have h2:=hk y hy
   cases hf:psf_r0 (paC y) with
   | true=>
    rw [psf_fa hf,bB_fa hV]
    exact ⟨by simp,fun h=>by cases h⟩
   | false=>
    rw [hf] at h1
    simp only [Bool.or_self,Bool.false_eq_true,if_false] at h1
    rw [h1] at h2
    cases hs:sA b0 (bB V (paC y)) with
    | none=>exact absurd hs h2
    | some v=>
     obtain ⟨x,z,e1,e2,-⟩:=sA_some hs
     exact ⟨by rw [e2]; simp,fun _=>⟨x,e1⟩⟩
  have h1:=hx fun y h=>(hy y h).1
  obtain ⟨y,hym,hyt⟩:=cT_ex h1
  have hnf:psf_r0 (paC y)=false:=by
   cases hf:psf_r0 (paC y) with
   | false=>rfl
   | true=>rw [psf_fa hf,bB_fa hV] at hyt; cases hyt
  obtain ⟨v,hv⟩:=(hy y hym).2 hnf
  refine ⟨v,hv,?_⟩
  have e:∀y∈ys,(bB V (paC (g y))==some true)=(v&&(bB V (paC y)==some true)):=fun y h=>by
   have h2:=hg y h
   have h3:=(hy y h).1
   cases hf:psf_r0 (paC y) with
   | true=>
    rw [hf] at h2
    simp only [Bool.or_true,if_true] at h2
    rw [h2,psf_fa hf,bB_fa hV]
    cases v <;> rfl
   | false=>
    rw [hf,hv] at h2
    simp only [Bool.or_self,Bool.false_eq_true,if_false] at h2
    rw [h2]
    cases hb:bB V (paC y) with
    | none=>exact absurd hb h3
    | some z=>cases v <;> cases z <;> rfl
  have e2:cT V (ys.map g)=(ys.filter fun y=>v&&(bB V (paC y)==some true)).length:=by
   unfold cT
   rw [List.filter_map,List.length_map]
   congr 1
   exact List.filter_congr fun y h=>e y h
  rw [e2]
  cases v with
  | true=>simpa [cT] using h1
  | false=>simp
end
theorem ad_L{p:Pa}{l:List Pa}{f:Bool}(h:adB l f=true):f=true/\adL p l f=l++[p]:=by
 unfold adB at h
 simp only [Bool.and_eq_true] at h
 exact ⟨h.1,by unfold adL; rw [iP h.1]⟩
theorem py_L(c:Pa):∀ (r l:List Pa) (f:Bool),(pyA_f c r l f).2=true->f=true/\(pyA_f c r l f).1=l++r.map fun y => .mk (and3 (paC c) (paT c) (paC y)) (paT y)
 | [],l,f,h=>⟨h,by simp [pyA_f]⟩
 | p::r,l,f,h=>by
  rw [pyA_f] at h ⊢
  have h1:=py_L c r _ _ h
  have h2:=ad_L (p := .mk (and3 (paC c) (paT c) (paC p)) (paT p)) h1.1
  exact ⟨h2.1,by rw [h1.2,h2.2]; simp⟩
theorem pz_L(c:Pa):∀ (r l:List Pa) (f:Bool),(pzA_f c r l f).2=true->f=true/\(pzA_f c r l f).1=l++r.map fun y => .mk (and3 (paC c) (notF (paT c)) (paC y)) (paT y)
 | [],l,f,h=>⟨h,by simp [pzA_f]⟩
 | p::r,l,f,h=>by
  rw [pzA_f] at h ⊢
  have h1:=pz_L c r _ _ h
  have h2:=ad_L (p := .mk (and3 (paC c) (notF (paT c)) (paC p)) (paT p)) h1.1
  exact ⟨h2.1,by rw [h1.2,h2.2]; simp⟩
def ifP(ys zs:List Pa)(c:Pa):List Pa:=(ys.map fun y => .mk (and3 (paC c) (paT c) (paC y)) (paT y))++zs.map fun y => .mk (and3 (paC c) (notF (paT c)) (paC y)) (paT y)
theorem pw_L(ys zs:List Pa):∀ (r l:List Pa) (f:Bool),(pwA_f ys zs r l f).2=true->f=true/\(pwA_f ys zs r l f).1=l++r.flatMap (ifP ys zs)
 | [],l,f,h=>⟨h,by simp [pwA_f]⟩
 | p::r,l,f,h=>by
  rw [pwA_f] at h ⊢
  have h1:=pw_L ys zs r _ _ h
  have h2:=pz_L p zs _ _ h1.1
  have h3:=py_L p ys _ _ h2.1
  exact ⟨h3.1,by rw [h1.2,h2.2,h3.2,List.flatMap_cons,ifP]; simp⟩
theorem lv_L(b:Pa):∀ (r l:List Pa) (f:Bool),(lvA_f b r l f).2=true->f=true/\(lvA_f b r l f).1=l++r.map fun y => .mk (and2 (paC b) (paC y)) (paT y)
 | [],l,f,h=>⟨h,by simp [lvA_f]⟩
 | p::r,l,f,h=>by
  rw [lvA_f] at h ⊢
  have h1:=lv_L b r _ _ h
  have h2:=ad_L (p := .mk (and2 (paC b) (paC p)) (paT p)) h1.1
  exact ⟨h2.1,by rw [h1.2,h2.2]; simp⟩
def leP(pk:Pa->List Pa × Bool)(b:Pa):List Pa:=(pk b).1.map fun y => .mk (and2 (paC b) (paC y)) (paT y)
theorem lw_L(pk:Pa->List Pa × Bool):∀ (r l:List Pa) (f:Bool),(lwA_f pk r l f).2=true->f=true/\(∀b∈r,(pk b).2=true)/\(lwA_f pk r l f).1=l++r.flatMap (leP pk)
 | [],l,f,h=>⟨h,fun b hb=>(by cases hb),by simp [lwA_f]⟩
 | p::r,l,f,h=>by
  rw [lwA_f] at h ⊢
  have h1:=lw_L pk r _ _ h
  have h2:=lv_L p _ _ _ h1.1
  have h3:=h2.1
  simp only [Bool.and_eq_true] at h3
  refine ⟨h3.1,fun b hb=>?_,?_⟩
  ·rcases List.mem_cons.1 hb with rfl | hb
   ·exact h3.2
   ·exact h1.2.1 b hb
  ·rw [h1.2.2,h2.2,h3.1,List.flatMap_cons,leP]
   simp [inK]
theorem ka_L(pk:Ex->List Pa × Bool):∀ (r:List Ex) (ll:List (List Pa)) (f:Bool),(kaA_f pk r ll f).2=true->f=true/\(∀w∈r,(pk w).2=true)/\(kaA_f pk r ll f).1=ll++r.map fun w=>(pk w).1
 | [],ll,f,h=>⟨h,fun b hb=>(by cases hb),by simp [kaA_f]⟩
 | p::r,ll,f,h=>by
  rw [kaA_f] at h ⊢
  have h1:=ka_L pk r _ _ h
  have h3:=h1.1
  simp only [Bool.and_eq_true] at h3
  refine ⟨h3.1,fun b hb=>?_,?_⟩
  ·rcases List.mem_cons.1 hb with rfl | hb
   ·exact h3.2
   ·exact h1.2.1 b hb
  ·rw [h1.2.2,h3.1]
   simp [inK]
theorem pdA_L(pg:Pa->List Pa->Bool->List Pa × Bool)(G:Pa->List Pa):∀ (r l:List Pa) (f:Bool),(∀p∈r,∀l f,(pg p l f).2=true->f=true/\(pg p l f).1=l++G p)->(pdA_f pg r l f).2=true->f=true/\(pdA_f pg r l f).1=l++r.flatMap G
 | [],l,f,_,h=>⟨h,by simp [pdA_f]⟩
 | p::r,l,f,hg,h=>by
  rw [pdA_f] at h ⊢
  split at h
  ·rename_i hf
   rw [iP hf]
   have h1:=pdA_L pg G r _ _ (fun p hp=>hg p (by simp [hp])) h
   have h2:=hg p sM _ _ h1.1
   exact ⟨hf,by rw [h1.2,h2.2,List.flatMap_cons]; simp⟩
  ·rename_i hf
   exact absurd (pdA_L pg G r _ _ (fun p hp=>hg p (by simp [hp])) h).1 hf
def tup(x:Ex)(ty:Int):List (List Pa)->List Pr->List Pr->List Pa
 | [],cs,ts=>[.mk (andF cs) (ndPF x ty ts)]
 | q::r,cs,ts=>q.flatMap fun p=>tup x ty r (cs++[paC p]) (ts++[paT p])
theorem pd_L(x:Ex)(ty:Int):∀ (r:List (List Pa)) (cs ts:List Pr) (l:List Pa) (f:Bool),(pdF x ty r cs ts l f).2=true->f=true/\(pdF x ty r cs ts l f).1=l++tup x ty r cs ts
 | [],cs,ts,l,f,h=>ad_L h
 | q::r,cs,ts,l,f,h=>pdA_L _ _ q l f (fun p _ l f h=>pd_L x ty r _ _ l f h) h
def pz(l:List Pa):Prop:=∀p∈l,prO (paC p)≠0/\tz (paT p)
theorem cT_sum{V:Pr->Option Int}{q:List Pa}{G:Pa->List Pa}{g:Pa->Pa}(h:∀p∈q,cT V (G p)=if bB V (paC (g p))=some true then 1 else 0):cT V (q.flatMap G)=cT V (q.map g):=by
 induction q with
 | nil=>rfl
 | cons c r ih=>
  rw [List.flatMap_cons,cT_app,List.map_cons,cT_cons,h c sM,ih fun c hc=>h c (by simp [hc])]
section
variable {V:Pr->Option Int} (hV:Val V)
include hV
theorem and2_B{a y:Pr}(ha:prO a≠0)(hy:prO y≠0):prO (and2 a y)≠0/\bB V (and2 a y)=if (psf_r0 a||psf_r0 y)=true then some false else sA (bB V a) (bB V y):=by
 have:=and_ok hV (l:=[a,y]) (by simp [ha,hy])
 simpa [and2,sAll,sA_tr] using this
theorem and3_B{a t y:Pr}(ha:prO a≠0)(ht:prO t≠0)(hy:prO y≠0):prO (and3 a t y)≠0/\bB V (and3 a t y)=if ((psf_r0 a||psf_r0 t)||psf_r0 y)=true then some false else sA (sA (bB V a) (bB V t)) (bB V y):=by
 have:=and_ok hV (l:=[a,t,y]) (by simp [ha,ht,hy])
 rw [sA_assoc]
 simpa [and3,sAll,sA_tr,Bool.or_assoc] using this
theorem sAll_snoc(y:Pr):∀l:List Pr,sAll V (l++[y])=sA (sAll V l) (bB V y)
 | []=>by simp [sAll,sA_tr,sA_tl]
 | p::r=>by simp [sAll,sAll_snoc y r,sA_assoc]
theorem if_one{ys zs:List Pa}(hy:oneH V ys)(hz:oneH V zs)(py:pz ys)(pzz:pz zs){c:Pa}(hc:prO (paC c)≠0/\tz (paT c))(hk:∀p∈ifP ys zs c,bB V (paC p)≠none):bB V (paC c)≠none/\cT V (ifP ys zs c)=if bB V (paC c)=some true then 1 else 0:=by
 have hn:=not_ok hV hc.2
 have h1:=half hV ys hy (psf_r0 (paC c)||psf_r0 (paT c)) (sA (bB V (paC c)) (bB V (paT c))) (fun y => .mk (and3 (paC c) (paT c) (paC y)) (paT y)) (fun y h=>(and3_B hV hc.1 hc.2.1 (py y h).1).2) (fun y h=>hk _ (List.mem_append_left _ (List.mem_map.2 ⟨y,h,rfl⟩)))
 have h2:=half hV zs hz (psf_r0 (paC c)||psf_r0 (notF (paT c))) (sA (bB V (paC c)) (bB V (notF (paT c)))) (fun y => .mk (and3 (paC c) (notF (paT c)) (paC y)) (paT y)) (fun y h=>(and3_B hV hc.1 hn.1 (pzz y h).1).2) (fun y h=>hk _ (List.mem_append_right _ (List.mem_map.2 ⟨y,h,rfl⟩)))
 have e:cT V (ifP ys zs c)=_:=cT_app _ _
 rw [e]
 have hneg:=hn.2
 cases ha:psf_r0 (paC c) with
 | true=>
  rw [ha] at h1 h2
  rw [h1.1 rfl,h2.1 rfl,psf_fa ha,bB_fa hV]
  simp
 | false=>
  rw [ha,Bool.false_or] at h1 h2
  cases ht:psf_r0 (paT c) with
  | true=>
   have e1:bB V (paT c)=some false:=by rw [psf_fa ht,bB_fa hV]
   rw [e1] at hneg
   have hnf:psf_r0 (notF (paT c))=false:=by
    cases hf:psf_r0 (notF (paT c)) with
    | false=>rfl
    | true=>rw [psf_fa hf,bB_fa hV] at hneg; cases hneg
   obtain ⟨v,e2,e3⟩:=h2.2 hnf
   rw [h1.1 ht,e3]
   rw [hneg,show (Option.map not (some false))=some true from rfl,sA_tr] at e2
   rw [e2]
   cases v <;> simp
  | false=>
   obtain ⟨v,e2,e3⟩:=h1.2 ht
   obtain ⟨a,t,ea,et,rfl⟩:=sA_some e2
   rw [et] at hneg
   rw [e3,ea]
   cases hnf:psf_r0 (notF (paT c)) with
   | true=>
    rw [psf_fa hnf,bB_fa hV] at hneg
    rw [h2.1 hnf]
    cases a <;> cases t <;> simp at hneg ⊢
   | false=>
    obtain ⟨v,e4,e5⟩:=h2.2 hnf
    rw [e5]
    rw [ea,hneg] at e4
    simp only [Option.map_some,sA,Option.some.injEq] at e4
    subst e4
    cases a <;> cases t <;> simp
theorem le_one{pk:Pa->List Pa × Bool}{b:Pa}(hb:prO (paC b)≠0)(hy:oneH V (pk b).1)(py:pz (pk b).1)(hk:∀p∈leP pk b,bB V (paC p)≠none):bB V (paC b)≠none/\cT V (leP pk b)=if bB V (paC b)=some true then 1 else 0:=by
 have h1:=half hV (pk b).1 hy (psf_r0 (paC b)) (bB V (paC b)) (fun y => .mk (and2 (paC b) (paC y)) (paT y)) (fun y h=>(and2_B hV hb (py y h).1).2) (fun y h=>hk _ (List.mem_map.2 ⟨y,h,rfl⟩))
 show _/\cT V ((pk b).1.map _)=_
 cases ha:psf_r0 (paC b) with
 | true=>
  rw [h1.1 ha,psf_fa ha,bB_fa hV]
  simp
 | false=>
  obtain ⟨v,e2,e3⟩:=h1.2 ha
  rw [e3,e2]
  cases v <;> simp
theorem tup_one(x:Ex)(ty:Int):∀ (r:List (List Pa)) (cs ts:List Pr),(∀q∈r,oneH V q/\pz q)->(∀w∈cs,prO w≠0)->(∀p∈tup x ty r cs ts,bB V (paC p)≠none)->bB V (andF cs)≠none/\cT V (tup x ty r cs ts)=if bB V (andF cs)=some true then 1 else 0
 | [],cs,ts,_,hcs,hk=>by
  refine ⟨hk (.mk (andF cs) (ndPF x ty ts)) (by simp [tup]),?_⟩
  rw [tup,cT_cons]
  rfl
 | q::r,cs,ts,hq,hcs,hk=>by
  have hq0:=hq q sM
  have ih:∀p∈q,bB V (andF (cs++[paC p]))≠none/\cT V (tup x ty r (cs++[paC p]) (ts++[paT p]))=if bB V (andF (cs++[paC p]))=some true then 1 else 0:=fun p hp=>tup_one x ty r (cs++[paC p]) (ts++[paT p]) (fun q hq'=>hq q (by simp [hq'])) (fun w hw=>by
   rcases List.mem_append.1 hw with hw | hw
   ·exact hcs w hw
   ·rw [List.mem_singleton] at hw; subst hw; exact (hq0.2 p hp).1) (fun p' hp'=>hk p' (List.mem_flatMap.2 ⟨p,hp,hp'⟩))
  have hac:=and_ok hV hcs
  have hsn:∀p∈q,bB V (andF (cs++[paC p]))=if (cs.any psf_r0||psf_r0 (paC p))=true then some false else sA (sAll V cs) (bB V (paC p)):=fun p hp=>by
   have:=(and_ok hV (l:=cs++[paC p]) (fun w hw=>by
    rcases List.mem_append.1 hw with hw | hw
    ·exact hcs w hw
    ·rw [List.mem_singleton] at hw; subst hw; exact (hq0.2 p hp).1)).2
   rw [this,sAll_snoc hV]
   simp
  have h1:=half hV q hq0.1 (cs.any psf_r0) (sAll V cs) (fun p => .mk (andF (cs++[paC p])) (paT p)) hsn (fun p hp=>(ih p hp).1)
  have h2:cT V (tup x ty (q::r) cs ts)=cT V (q.map fun p=>Pa.mk (andF (cs++[paC p])) (paT p)):=cT_sum fun p hp=>(ih p hp).2
  rw [h2,hac.2]
  cases ha:cs.any psf_r0 with
  | true=>
   rw [h1.1 ha]
   simp
  | false=>
   obtain ⟨v,e2,e3⟩:=h1.2 ha
   rw [e3,e2]
   cases v <;> simp
end
theorem scE1_N(nm:BA):∀s:Sc,scE1 (scN nm s)=(scE1 s).filter fun e=>decide (e.1≠nm)
 | []=>rfl
 | x::r=>by
  have ih:=scE1_N nm r
  by_cases h:x.1=nm
  ·simp only [scE1,scN,List.filter_cons,List.map_cons,h,ne_eq,not_true,decide_false,Bool.false_eq_true,if_false] at ih ⊢
   exact ih
  ·simp only [scE1,scN,List.filter_cons,List.map_cons,h,ne_eq,not_false_eq_true,decide_true,if_true] at ih ⊢
   rw [ih]
theorem scE1_W{nm:BA}{t:Int}{p q:Pr}{s s':Sc}(h:scE1 s=scE1 s'):scE1 (scW nm t p s)=scE1 (scW nm t q s'):=by
 show (nm,.int .i64 t)::scE1 (scN nm s)=(nm,.int .i64 t)::scE1 (scN nm s')
 rw [scE1_N,scE1_N,h]
theorem riD_E(m:Mo):∀ (d:Nat) (x:Ex) (s s':Sc),scE1 s=scE1 s'->riD m d x s=riD m d x s'
 | 0,_,_,_,_=>rfl
 | d+1,x,s,s',h=>by
  have e1:(fun w=>riD m d w s)=fun w=>riD m d w s':=funext fun w=>riD_E m d w s s' h
  have e2:∀w,riD m d w s=riD m d w s':=fun w=>riD_E m d w s s' h
  have e3:∀w nm t p,riD m d w (scW nm t p s)=riD m d w (scW nm t p s'):=fun w nm t p=>riD_E m d w _ _ (scE1_W h)
  show riL_r0 m x s (riD m d) ((exK x).all fun w=>riD m d w s)=riL_r0 m x s' (riD m d) ((exK x).all fun w=>riD m d w s')
  simp only [riL_r0,scZ1,h,e1,e2,e3]
theorem ri_parts{m:Mo}{d:Nat}{x:Ex}{s:Sc}(h:riD m (d+1) x s=true):(exO x=3->(mget (exNm x) (scE1 s)).isSome=true)/\(exO x=7->riD m d ((exK x).getD 0 default) s=true/\riD m d ((exK x).getD 1 default) (scW (exNm x) (tpO (plF ((exT x).getD 0 default))) prZ s)=true)/\(exO x≠7->∀w∈exK x,riD m d w s=true)/\(exO x≠1->exO x≠2->exO x≠3->exO x≠7->exO x≠8->exO x=15∨exO x=21∨exO x=5∨opS_r0 (exO x)≠0):=by
 have h':riL_r0 m x s (riD m d) ((exK x).all fun w=>riD m d w s)=true:=h
 have hk:∀ {b:Bool},b=true->((exK x).all fun w=>riD m d w s)=b->∀w∈exK x,riD m d w s=true:=fun hb he w hw=>by
  rw [hb] at he
  exact List.all_eq_true.1 he w hw
 have h0:(exK x).length=0->∀w∈exK x,riD m d w s=true:=fun hl w hw=>by rw [List.eq_nil_of_length_eq_zero hl] at hw; cases hw
 revert h'
 generalize hkb:((exK x).all fun w=>riD m d w s)=kb
 intro h'
 unfold riL_r0 at h'
 by_cases e1:exO x=1
 ·rw [iP e1] at h'
  exact ⟨fun e=>by omega,fun e=>by omega,fun _=>h0 (by simpa using h'),fun e=>absurd e1 e⟩
 rw [iN e1] at h'
 by_cases e2:exO x=2
 ·rw [iP e2] at h'
  exact ⟨fun e=>by omega,fun e=>by omega,fun _=>h0 (by simpa using h'),fun _ e=>absurd e2 e⟩
 rw [iN e2] at h'
 by_cases e3:exO x=3
 ·rw [iP e3] at h'
  simp only [Bool.and_eq_true] at h'
  refine ⟨fun _=>by rw [<-scZ1]; exact h'.1,fun e=>by omega,fun _=>h0 (by simpa using h'.2),fun _ _ e=>absurd e3 e⟩
 rw [iN e3] at h'
 by_cases e4:exO x=12
 ·rw [iP e4] at h'
  split at h'
  ·have hb:kb=true:=by
    split at h'
    ·exact h'
    ·split at h'
     ·exact h'
     ·cases h'
   exact ⟨fun e=>by omega,fun e=>by omega,fun _=>hk hb hkb,fun _ _ _ _ _ => .inr (.inr (.inr (by rw [e4]; decide)))⟩
  ·cases h'
 rw [iN e4] at h'
 by_cases e5:exO x=15
 ·rw [iP e5] at h'
  split at h'
  ·exact ⟨fun e=>by omega,fun e=>by omega,fun _=>hk h' hkb,fun _ _ _ _ _ => .inl e5⟩
  ·cases h'
 rw [iN e5] at h'
 by_cases e6:exO x=21
 ·rw [iP e6] at h'
  split at h'
  ·exact ⟨fun e=>by omega,fun e=>by omega,fun _=>hk h' hkb,fun _ _ _ _ _ => .inr (.inl e6)⟩
  ·cases h'
 rw [iN e6] at h'
 by_cases e7:exO x=8
 ·rw [iP e7] at h'
  split at h'
  ·exact ⟨fun e=>by omega,fun e=>by omega,fun _=>hk h' hkb,fun _ _ _ _ e=>absurd e7 e⟩
  ·cases h'
 rw [iN e7] at h'
 by_cases e8:exO x=7
 ·rw [iP e8] at h'
  split at h'
  ·split at h'
   ·split at h'
    ·split at h'
     ·rename_i ha
      exact ⟨fun e=>by omega,fun _=>⟨ha,h'⟩,fun e=>absurd e8 e,fun _ _ _ e=>absurd e8 e⟩
     ·cases h'
    ·cases h'
   ·cases h'
  ·cases h'
 rw [iN e8] at h'
 by_cases e9:exO x=5
 ·rw [iP e9] at h'
  split at h'
  ·exact ⟨fun e=>by omega,fun e=>by omega,fun _=>hk h' hkb,fun _ _ _ _ _ => .inr (.inr (.inl e9))⟩
  ·cases h'
 rw [iN e9] at h'
 split at h'
 ·rename_i hl
  simp only [Bool.and_eq_true,beq_iff_eq] at hl
  refine ⟨fun e=>by omega,fun e=>by omega,fun _=>hk h' hkb,fun _ _ _ _ _ => .inr (.inr (.inr ?_))⟩
  have:=hl.1
  unfold opS_r1 at this
  unfold opS_r0
  repeat' split at this
  all_goals first
   | (rename_i e; rw [e]; decide)
   | (cases this; done)
   | (simp_all; done)
 ·cases h'
def scz(s:Sc):Prop:=∀x∈s,tz x.2.2
theorem scz_W{nm:BA}{t:Int}{p:Pr}{s:Sc}(hp:tz p)(h:scz s):scz (scW nm t p s):=fun x hx=>by
 rcases List.mem_cons.1 hx with rfl | hx
 ·exact hp
 ·exact h x (List.mem_filter.1 hx).1
theorem scz_at{k:BA}{s:Sc}(h:scz s)(hb:(mget k (scE1 s)).isSome=true):tz (scPr k s):=by
 rw [sc_m1,Option.isSome_map] at hb
 unfold scPr
 cases he:scO k s with
 | none=>rw [he] at hb; cases hb
 | some x=>exact h x (List.mem_of_find?_eq_some he)
theorem nd_tz{x:Ex}{ty:Int}{ts:List Pr}(ho:exO x=15∨exO x=21∨exO x=5∨opS_r0 (exO x)≠0)(ht:∀w∈ts,prO w≠0)(h2:exO x=12->2<=ts.length):tz (ndPF x ty ts):=by
 unfold ndPF
 split
 ·exact ⟨by simp [prO],ht⟩
 split
 ·exact ⟨by simp [prO],ht⟩
 split
 ·exact ⟨by simp [prO],ht⟩
 rename_i h15 h21 h5
 have ho:opS_r0 (exO x)≠0:=by
  rcases ho with h | h | h | h
  ·exact absurd h h15
  ·exact absurd h h21
  ·exact absurd h h5
  ·exact h
 split
 ·rename_i h12
  split
  ·exact ⟨ho,ht⟩
  ·refine ⟨ho,fun w hw=>?_⟩
   have hl:=h2 h12
   rcases List.mem_cons.1 hw with rfl | hw
   ·exact ht _ (gPr oM)
   ·rw [List.mem_singleton] at hw; subst hw; exact ht _ (gPr oM)
 split
 ·exact ⟨by simp [prO],ht⟩
 ·exact ⟨ho,ht⟩
section
variable {V:Pr->Option Int} (hV:Val V)
include hV
theorem tup_pz(x:Ex)(ty:Int)(ho:exO x=15∨exO x=21∨exO x=5∨opS_r0 (exO x)≠0)(n:Nat)(hn:exO x=12->2<=n):∀ (r:List (List Pa)) (cs ts:List Pr),(∀q∈r,pz q)->(∀w∈cs,prO w≠0)->(∀w∈ts,prO w≠0)->ts.length+r.length=n->pz (tup x ty r cs ts)
 | [],cs,ts,_,hcs,hts,hl=>fun p hp=>by
  rw [tup,List.mem_singleton] at hp
  subst hp
  exact ⟨(and_ok hV hcs).1,nd_tz ho hts fun e=>by have:=hn e; simp at hl; omega⟩
 | q::r,cs,ts,hq,hcs,hts,hl=>fun p hp=>by
  rw [tup] at hp
  obtain ⟨a,ha,hp⟩:=List.mem_flatMap.1 hp
  have hqa:=hq q sM a ha
  refine tup_pz x ty ho n hn r _ _ (fun q hq'=>hq q (by simp [hq'])) (fun w hw=>?_) (fun w hw=>?_) ?_ p hp
  ·rcases List.mem_append.1 hw with hw | hw
   ·exact hcs w hw
   ·rw [List.mem_singleton] at hw; subst hw; exact hqa.1
  ·rcases List.mem_append.1 hw with hw | hw
   ·exact hts w hw
   ·rw [List.mem_singleton] at hw; subst hw; exact hqa.2.1
  ·simp only [List.length_append,List.length_cons,List.length_nil] at hl ⊢
   omega
theorem one_tr{t:Pr}(h:tz t):oneH V [Pa.mk prTr t]/\pz [Pa.mk prTr t]:=by
 refine ⟨fun _=>?_,fun p hp=>?_⟩
 ·rw [cT_cons,show bB V (paC (Pa.mk prTr t))=some true from bB_tr hV]; rfl
 ·rw [List.mem_singleton] at hp; subst hp; exact ⟨show prO prTr≠0 by decide,h⟩
theorem pk_one(m:Mo):∀ (d:Nat) (x:Ex) (s:Sc),okD d x=true->riD m d x s=true->scz s->(pkD m d x s).2=true->oneH V (pkD m d x s).1/\pz (pkD m d x s).1
 | 0,_,_,h,_,_,_=>by cases h
 | d+1,x,s,hok,hri,hs,hf=>by
  have hp:=ri_parts hri
  have ih:∀ (w:Ex) (u:Sc),w∈exK x->riD m d w u=true->scz u->(pkD m d w u).2=true->oneH V (pkD m d w u).1/\pz (pkD m d w u).1:=fun w u hw hr hu hf=>pk_one m d w u (okD_kid hok hw) hr hu hf
  rw [pkD] at hf ⊢
  split
  ·exact one_tr hV ⟨by simp [prO],by simp [prK]⟩
  rename_i e1
  rw [iN e1] at hf
  split
  ·exact one_tr hV ⟨by simp [prO],by simp [prK]⟩
  rename_i e2
  rw [iN e2] at hf
  split
  ·rename_i e3
   exact one_tr hV (scz_at hs (hp.1 e3))
  rename_i e3
  rw [iN e3] at hf
  split
  ·rename_i e8
   rw [iP e8] at hf
   have hl:=okD_8 hok e8
   have hk:=hp.2.2.1 oM
   have k0:=gEx (show 0<(exK x).length by omega)
   have k1:=gEx (show 1<(exK x).length by omega)
   have k2:=gEx (show 2<(exK x).length by omega)
   have h1:=pw_L _ _ _ _ _ hf
   have hfl:=h1.1
   simp only [Bool.and_eq_true] at hfl
   have iy:=ih _ s k1 (hk _ k1) hs hfl.1.1
   have iz:=ih _ s k2 (hk _ k2) hs hfl.1.2
   have ic:=ih _ s k0 (hk _ k0) hs hfl.2
   show oneH V (pwA_f _ _ _ _ _).1/\pz (pwA_f _ _ _ _ _).1
   rw [h1.2,List.nil_append,hfl.1.1,hfl.1.2]
   simp only [inK,Bool.and_self,if_true]
   refine ⟨fun hkn=>?_,fun p hp=>?_⟩
   ·have hone:∀c∈(pkD m d ((exK x).getD 0 default) s).1,_:=fun c hc=>if_one hV iy.1 iz.1 iy.2 iz.2 (ic.2 c hc) fun p hp=>hkn p (List.mem_flatMap.2 ⟨c,hc,hp⟩)
    rw [cT_blk fun c hc=>(hone c hc).2]
    exact ic.1 fun c hc=>(hone c hc).1
   ·obtain ⟨c,hc,hp⟩:=List.mem_flatMap.1 hp
    have hcc:=ic.2 c hc
    rcases List.mem_append.1 hp with hp | hp
    ·obtain ⟨y,hy,rfl⟩:=List.mem_map.1 hp
     exact ⟨(and3_B hV hcc.1 hcc.2.1 (iy.2 y hy).1).1,(iy.2 y hy).2⟩
    ·obtain ⟨y,hy,rfl⟩:=List.mem_map.1 hp
     exact ⟨(and3_B hV hcc.1 (not_ok hV hcc.2).1 (iz.2 y hy).1).1,(iz.2 y hy).2⟩
  rename_i e8
  rw [iN e8] at hf
  split
  ·rename_i e7
   rw [iP e7] at hf
   have hl:=(okD_7 hok e7).1
   have hk:=hp.2.1 e7
   have k0:=gEx (show 0<(exK x).length by omega)
   have k1:=gEx (show 1<(exK x).length by omega)
   have h1:=lw_L _ _ _ _ hf
   have ia:=ih _ s k0 hk.1 hs h1.1
   show oneH V (lwA_f _ _ _ _).1/\pz (lwA_f _ _ _ _).1
   rw [h1.2.2,List.nil_append]
   have ib:∀b∈(pkD m d ((exK x).getD 0 default) s).1,_:=fun b hb=>ih _ (scW (exNm x) (tpO (plF ((exT x).getD 0 default))) (paT b) s) k1 (by rw [riD_E m d _ _ _ (scE1_W (q:=prZ) rfl)]; exact hk.2) (scz_W (ia.2 b hb).2 hs) (h1.2.1 b hb)
   refine ⟨fun hkn=>?_,fun p hp=>?_⟩
   ·have hone:∀c∈(pkD m d ((exK x).getD 0 default) s).1,_:=fun c hc=>le_one hV (pk:=fun p=>pkD m d ((exK x).getD 1 default) (scW (exNm x) (tpO (plF ((exT x).getD 0 default))) (paT p) s)) (ia.2 c hc).1 (ib c hc).1 (ib c hc).2 fun p hp=>hkn p (List.mem_flatMap.2 ⟨c,hc,hp⟩)
    rw [cT_blk fun c hc=>(hone c hc).2]
    exact ia.1 fun c hc=>(hone c hc).1
   ·obtain ⟨c,hc,hp⟩:=List.mem_flatMap.1 hp
    obtain ⟨y,hy,rfl⟩:=List.mem_map.1 hp
    exact ⟨(and2_B hV (ia.2 c hc).1 ((ib c hc).2 y hy).1).1,((ib c hc).2 y hy).2⟩
  ·rename_i e7
   rw [iN e7] at hf
   have h1:=pd_L _ _ _ _ _ _ _ hf
   have h2:=ka_L _ _ _ _ h1.1
   have hk:=hp.2.2.1 e7
   have ik:∀w∈exK x,_:=fun w hw=>ih w s hw (hk w hw) hs (h2.2.1 w hw)
   have hq:∀q∈(kaA_f (fun w=>pkD m d w s) (exK x) [] true).1,oneH V q/\pz q:=fun q hq=>by
    rw [h2.2.2,List.nil_append] at hq
    obtain ⟨w,hw,rfl⟩:=List.mem_map.1 hq
    exact ik w hw
   show oneH V (pdF _ _ _ _ _ _ _).1/\pz (pdF _ _ _ _ _ _ _).1
   rw [h1.2,List.nil_append]
   refine ⟨fun hkn=>?_,?_⟩
   ·have:=(tup_one hV x _ _ [] [] hq sM hkn).2
    rw [this,(and_ok hV (l:=[]) sM).2]
    rfl
   ·refine tup_pz hV x _ (hp.2.2.2 e1 e2 e3 e7 e8) (exK x).length (fun e=>by have:=okD_2 hok (.inl e); omega) _ [] [] (fun q h=>(hq q h).2) sM sM ?_
    rw [h2.2.2]
    simp
end
theorem vl_Val(pt:List Ce)(ap:List Fc):Val (vlV pt ap) where
 cst s n:=by
  unfold vlV
  rw [vlF,vlFs]
  rfl
 neg s n k:=by
  unfold vlV
  rw [vlF,vlFs,vlFs]
  cases hk:(vlF pt ap k).2 with
  | false=>simp
  | true=>
   simp only [Bool.true_eq_false,if_false,Option.map_some,if_true]
   show (if (vlN pt ap 14 s n [(vlF pt ap k).1]).2=true then some (vlN pt ap 14 s n [(vlF pt ap k).1]).1 else none)=_
   rw [show vlN pt ap 14 s n [(vlF pt ap k).1]=(trS_r0 ((vlF pt ap k).1==0),true) from rfl]
   unfold trS_r0
   by_cases h0:(vlF pt ap k).1=0 <;> simp [h0]
 con s n a b:=by
  unfold vlV
  rw [vlF,vlFs,vlFs,vlFs]
  cases ha:(vlF pt ap a).2 with
  | false=>simp
  | true=>
   cases hb:(vlF pt ap b).2 with
   | false=>simp
   | true=>
    simp only [Bool.true_eq_false,if_false,Option.map_some,if_true,Option.bind_some]
    show (if (vlN pt ap 15 s n [(vlF pt ap a).1,(vlF pt ap b).1]).2=true then some (vlN pt ap 15 s n [(vlF pt ap a).1,(vlF pt ap b).1]).1 else none)=_
    rw [show vlN pt ap 15 s n [(vlF pt ap a).1,(vlF pt ap b).1]=(opV_r0 15 (vlF pt ap a).1 (vlF pt ap b).1,opV_r1 15 (vlF pt ap a).1 (vlF pt ap b).1) from rfl]
    have e1:opV_r1 15 (vlF pt ap a).1 (vlF pt ap b).1=true:=by unfold opV_r1; simp
    have e0:opV_r0 15 (vlF pt ap a).1 (vlF pt ap b).1=if (vlF pt ap a).1=0 then 0 else trS_r0 ((vlF pt ap b).1 != 0):=by unfold opV_r0; simp
    rw [e1,iP rfl,e0]
    unfold trS_r0
    by_cases h0:(vlF pt ap a).1=0 <;> by_cases h1:(vlF pt ap b).1=0 <;> simp [h0,h1]
abbrev vsV_I(d:Df)(l:List Int)(j:Int)(out:List Ce)(e:Ext):S:=S.mk [(1,vL 1 (ntC l)),(2,.lp 2 0),(4,.v .nilsl),(5,.uniq 105 2 (Ce.cs out)),(6,vI6 j)] [(2,dfV d)] e
def vsV_f(d:Df)(l:List Int):List BA->Nat->(List Ce)->(List Ce)
 | [],i,out=>(out)
 | el::r,i,out=>(if (i:Int)<(l.length:Int) then (if (i:Int)<((tpA (dfT d)).length:Int) then (if tpO (List.getD (tpA (dfT d)) i default)=2 then vsV_f d l r (i+1) (out++[Ce.mk el (bAnd .i64 (List.getD l i default) 1)]) else vsV_f d l r (i+1) (out++[Ce.mk el (List.getD l i default)])) else vsV_f d l r (i+1) (out++[Ce.mk el (List.getD l i default)])) else (out))
def vsV_q(d:Df)(l:List Int)(e:Ext)(p:(List Ce)):PExit × S:=(.exit 0,S.mk [(1,vL 1 (ntC l)),(2,.lp 2 0),(4,.v .nilsl),(5,.uniq 105 2 (Ce.cs p))] [(2,dfV d)] e)
theorem vsV(d:Df)(l:List Int)(hlN:l.length<=1000000000)(hAN:(tpA (dfT d)).length<=1000000000)(out:List Ce)(e:Ext)(hN:(dfP d).length<=1000000000)(hv:List.length out<=0):(Ob.loop 56 (loopF f15 0) (vsV_I d l 0 out e) (vsV_q d l e (vsV_f d l ((dfP d)) 0 out)).1 (vsV_q d l e (vsV_f d l ((dfP d)) 0 out)).2).ok prog:=by
 refine rng ((dfP d).length) (fun j out=>vsV_I d l j out e) (fun i out=>vsV_f d l (List.drop i ((dfP d))) i out) (vsV_q d l e) (fun i out=>(out.length<=i)) kR ?_ out (by first | exact hv | omega)
 rintro i out hi hv
 try simp only at hv
 rcases Nat.lt_or_ge i ((dfP d).length) with hlt | hge
 ·have hd:=drop_at0 hlt
  refine t0 ?_;refine tp [sl (nmsC_len (dfP d)),rp 3 (dt ((i:Int)<((dfP d).length:Int))),sl (ntC_len l),rp 2 (dt ((i:Int)<((dfP d).length:Int)))] ?_;by_cases h0:(i:Int)<(l.length:Int)
  ·refine tp [dt1 h0,am ((0:Int)<=(i:Int)/\(i:Int)<((ntC l).length:Int)) (by (simp only [ntC_len]; omega)),ar (List.getD (ntC l) (Int.toNat (i:Int)) []) [pI (List.getD l i default)] (by simp only [Int.toNat_natCast,Int.toNat_zero]; rw [@ntC_at (l) (i) oM]; try rfl),sl (Tp.cs_len (tpA (dfT d)))] ?_;by_cases h1:(i:Int)<((tpA (dfT d)).length:Int)
   ·refine tp [rp 6 (dt1 h1),mxTp (tpA (dfT d)) (i:Int),xTp (tpA (dfT d)) i oM,rp 4 (dt1 h1)] ?_;by_cases h2:tpO (List.getD (tpA (dfT d)) i default)=2
    ·exact tS mdL [et1 h2,mxNm (dfP d) (i:Int),xNm (dfP d) i hlt,am (List.length (Ce.cs out++[[.str (List.getD (dfP d) i nm0),pI (bAnd .i64 (List.getD l i default) 1)]]) * (23+1)<=140737488355328) (by (simp only [List.length_append,List.length_cons,List.length_nil,Ce.cs_len]; omega)),wr ((i:Int)+1)] [1,2,4,5,6] [2] hlt (out++[Ce.mk (List.getD (dfP d) i nm0) (bAnd .i64 (List.getD l i default) 1)]) (S.mk [(1,vL 1 (ntC l)),(2,.lp 2 0),(4,.v .nilsl),(5,.uniq 105 2 (Ce.cs out++[[.str (List.getD (dfP d) i nm0),pI (bAnd .i64 (List.getD l i default) 1)]])),(6,vI6 ((i:Int)+1))] [(2,dfV d)] e) ⟨⟨W,W,W,(.inl (by first | (simp only [List.nil_append,nmsC_app,nmsC_snoc,Pr.cs_snoc,Tp.cs_snoc,Ex.cs_snoc,Vr.cs_snoc,Df.cs_snoc,ntC_snoc,Ce.cs_mk,Fc.cs_snoc]; done) | (simp only [List.nil_append,nmsC_app,nmsC_snoc,Pr.cs_snoc,Tp.cs_snoc,Ex.cs_snoc,Vr.cs_snoc,Df.cs_snoc,ntC_snoc,Ce.cs_mk,Fc.cs_snoc]; rfl))),W,tVv⟩,⟨Ws,tVv⟩,rfl⟩ (by first | assumption | omega | (apply gNt <;> first | assumption | omega | decide) | (apply gTp <;> first | assumption | omega | decide) | (simp only [List.length_append,List.length_cons,List.length_nil] at *; omega) | simp_all) (by rw [hd,vsV_f,iP h0,iP h1,iP h2])
    ·exact tS mdL [en1 h2,mxNm (dfP d) (i:Int),xNm (dfP d) i hlt,am (List.length (Ce.cs out++[[.str (List.getD (dfP d) i nm0),pI (List.getD l i default)]]) * (23+1)<=140737488355328) (by (simp only [List.length_append,List.length_cons,List.length_nil,Ce.cs_len]; omega)),wr ((i:Int)+1)] [1,2,4,5,6] [2] hlt (out++[Ce.mk (List.getD (dfP d) i nm0) (List.getD l i default)]) (S.mk [(1,vL 1 (ntC l)),(2,.lp 2 0),(4,.v .nilsl),(5,.uniq 105 2 (Ce.cs out++[[.str (List.getD (dfP d) i nm0),pI (List.getD l i default)]])),(6,vI6 ((i:Int)+1))] [(2,dfV d)] e) ⟨⟨W,W,W,(.inl (by first | (simp only [List.nil_append,nmsC_app,nmsC_snoc,Pr.cs_snoc,Tp.cs_snoc,Ex.cs_snoc,Vr.cs_snoc,Df.cs_snoc,ntC_snoc,Ce.cs_mk,Fc.cs_snoc]; done) | (simp only [List.nil_append,nmsC_app,nmsC_snoc,Pr.cs_snoc,Tp.cs_snoc,Ex.cs_snoc,Vr.cs_snoc,Df.cs_snoc,ntC_snoc,Ce.cs_mk,Fc.cs_snoc]; rfl))),W,tVv⟩,⟨Ws,tVv⟩,rfl⟩ (by first | assumption | omega | (apply gNt <;> first | assumption | omega | decide) | (apply gTp <;> first | assumption | omega | decide) | (simp only [List.length_append,List.length_cons,List.length_nil] at *; omega) | simp_all) (by rw [hd,vsV_f,iP h0,iP h1,iN h2])
   ·exact tS mdL [rp 10 (df1 h1),bf false,mxNm (dfP d) (i:Int),xNm (dfP d) i hlt,am (List.length (Ce.cs out++[[.str (List.getD (dfP d) i nm0),pI (List.getD l i default)]]) * (23+1)<=140737488355328) (by (simp only [List.length_append,List.length_cons,List.length_nil,Ce.cs_len]; omega)),wr ((i:Int)+1)] [1,2,4,5,6] [2] hlt (out++[Ce.mk (List.getD (dfP d) i nm0) (List.getD l i default)]) (S.mk [(1,vL 1 (ntC l)),(2,.lp 2 0),(4,.v .nilsl),(5,.uniq 105 2 (Ce.cs out++[[.str (List.getD (dfP d) i nm0),pI (List.getD l i default)]])),(6,vI6 ((i:Int)+1))] [(2,dfV d)] e) ⟨⟨W,W,W,(.inl (by first | (simp only [List.nil_append,nmsC_app,nmsC_snoc,Pr.cs_snoc,Tp.cs_snoc,Ex.cs_snoc,Vr.cs_snoc,Df.cs_snoc,ntC_snoc,Ce.cs_mk,Fc.cs_snoc]; done) | (simp only [List.nil_append,nmsC_app,nmsC_snoc,Pr.cs_snoc,Tp.cs_snoc,Ex.cs_snoc,Vr.cs_snoc,Df.cs_snoc,ntC_snoc,Ce.cs_mk,Fc.cs_snoc]; rfl))),W,tVv⟩,⟨Ws,tVv⟩,rfl⟩ (by first | assumption | omega | (apply gNt <;> first | assumption | omega | decide) | (apply gTp <;> first | assumption | omega | decide) | (simp only [List.length_append,List.length_cons,List.length_nil] at *; omega) | simp_all) (by rw [hd,vsV_f,iP h0,iN h1])
  ·exact tX mdL [df1 h0] (out) (by rw [hd,vsV_f,iN h0])
 ·have he:i=(dfP d).length:=by omega
  exact lX mdL [sl (nmsC_len (dfP d)),rp 5 (df ((i:Int)<((dfP d).length:Int))),bf false] (out) (by rw [he,List.drop_length,vsV_f])
theorem vsL(d:Df)(l:List Int)(hlN:l.length<=1000000000)(hAN:(tpA (dfT d)).length<=1000000000)(hN:(dfP d).length<=1000000000):Pu 15 [.agg (dfL d),.sl 1 (ntC l)] (.own 105 2 (Ce.cs (vsV_f d l (dfP d) 0 []))):=
 pu mdL (fun e=>[lp (S.mk [(1,vL 1 (ntC l)),(2,.lp 2 0),(4,.v .nilsl),(5,.v .nilsl),(6,vI6 0)] [(2,dfV d)] e) (@vsV d l hlN hAN ([]) e hN (by (simp only [List.length_nil]; omega))) ⟨⟨W,W,W,Wq,W,tVv⟩,⟨⟨W,W,W,W,W,W,W,W,W,W,W,W,W,W,W,W,W,W,W,W,W,W,W,W,W,tVv⟩,tVv⟩,rfl⟩]) func15
open Go.Pv
abbrev dqB_I(l:List ByteArray)(k:Nat)(xe:Ext)(j:Int)   : S:=S.mk [(0,LV.v (PV.sl 1 (nmsC l))),(3,LV.v (PV.int IntKind.i64 (↑k:Int))),(4,LV.v (PV.int IntKind.i64 j))] [] xe
theorem dqB_b1(l:List ByteArray)(k:Nat)(hi1:k<l.length)(hi0:(l.take k).length=k)(xe:Ext)(i:Nat)(hi:i<List.length ((l.take k)))(hN:List.length ((l.take k))<=1000000000)(hx0:List.getD l k nm0=List.getD l i nm0)(cx:Cx)(hcx:cx.n=25){Q:PExit->S->Prop}(hq:Q (PExit.ret) (S.mk [(0,LV.v (PV.sl 1 (nmsC l))),(3,LV.v (PV.int IntKind.i64 (↑k:Int))),(4,LV.v (PV.int IntKind.i64 (↑i:Int))),(2,LV.v (PV.bool false))] [] xe)):PW Tryz.prog cx (loopF Tryz.f13 1) (dqB_I l k xe (↑i:Int)) Q:=
 PW_runK (mdL) 25 50 [Ans.bit true,Ans.as_ (LV.v (PV.ro [PV.str (List.getD l k nm0)] 0)),Ans.as_ (LV.v (PV.ro [PV.str (List.getD l i nm0)] 0)),Ans.bit true] [0,3,4,2] [] (sc':=[]) (l:=[Ob.bit (decide ((↑i:Int)<(↑k:Int))) true,Ob.bit (decide ((0:Int)<=(↑k:Int)/\(↑k:Int)<(↑(List.length (nmsC l)):Int))) true,Ob.eqv (LV.v (PV.ro (List.getD (nmsC l) (Int.toNat (↑k:Int)) []) 0)) (LV.v (PV.ro [PV.str (List.getD l k nm0)] 0)),Ob.bit (decide ((0:Int)<=(↑i:Int)/\(↑i:Int)<(↑(List.length (nmsC l)):Int))) true,Ob.eqv (LV.v (PV.ro (List.getD (nmsC l) (Int.toNat (↑i:Int)) []) 0)) (LV.v (PV.ro [PV.str (List.getD l i nm0)] 0)),Ob.bit (ByteArray.toList (List.getD l k nm0)==ByteArray.toList (List.getD l i nm0)) true]) mixed hcx (by kernel_rfl) (by kernel_rfl) ⟨(ob_bit (dT (by omega))),(ob_bit (dT (by (simp only [nmsC_len]; omega)))),(ob_eqv (by simp only [Int.toNat_natCast,Int.toNat_zero]; first | (rw [@nmsC_at (l) (k) hi1]; done) | (rw [@nmsC_at (l) (k) hi1]; rfl))),(ob_bit (dT (by (simp only [nmsC_len]; omega)))),(ob_eqv (by simp only [Int.toNat_natCast,Int.toNat_zero]; first | (rw [@nmsC_at (l) (i) (by omega)]; done) | (rw [@nmsC_at (l) (i) (by omega)]; rfl))),(ob_bit (bsT hx0)),trivial⟩ hq
theorem dqB_b2(l:List ByteArray)(k:Nat)(hi1:k<l.length)(hi0:(l.take k).length=k)(xe:Ext)(i:Nat)(hi:i<List.length ((l.take k)))(hN:List.length ((l.take k))<=1000000000)(hx0:¬List.getD l k nm0=List.getD l i nm0)(cx:Cx)(hcx:cx.n=25){Q:PExit->S->Prop}(hq:Q (PExit.normal) (S.mk [(0,LV.v (PV.sl 1 (nmsC l))),(3,LV.v (PV.int IntKind.i64 (↑k:Int))),(4,LV.v (PV.int IntKind.i64 ((↑i:Int)+1)))] [] xe)):PW Tryz.prog cx (loopF Tryz.f13 1) (dqB_I l k xe (↑i:Int)) Q:=
 PW_runK (mdL) 25 50 [Ans.bit true,Ans.as_ (LV.v (PV.ro [PV.str (List.getD l k nm0)] 0)),Ans.as_ (LV.v (PV.ro [PV.str (List.getD l i nm0)] 0)),Ans.bit false,Ans.as_ (LV.v (PV.int IntKind.i64 ((↑i:Int)+1)))] [0,3,4,2] [] (sc':=[]) (l:=[Ob.bit (decide ((↑i:Int)<(↑k:Int))) true,Ob.bit (decide ((0:Int)<=(↑k:Int)/\(↑k:Int)<(↑(List.length (nmsC l)):Int))) true,Ob.eqv (LV.v (PV.ro (List.getD (nmsC l) (Int.toNat (↑k:Int)) []) 0)) (LV.v (PV.ro [PV.str (List.getD l k nm0)] 0)),Ob.bit (decide ((0:Int)<=(↑i:Int)/\(↑i:Int)<(↑(List.length (nmsC l)):Int))) true,Ob.eqv (LV.v (PV.ro (List.getD (nmsC l) (Int.toNat (↑i:Int)) []) 0)) (LV.v (PV.ro [PV.str (List.getD l i nm0)] 0)),Ob.bit (ByteArray.toList (List.getD l k nm0)==ByteArray.toList (List.getD l i nm0)) false,Ob.eqv (LV.v (PV.int IntKind.i64 (IntKind.wrap IntKind.i64 ((↑i:Int)+1)))) (LV.v (PV.int IntKind.i64 ((↑i:Int)+1)))]) mixed hcx (by kernel_rfl) (by kernel_rfl) ⟨(ob_bit (dT (by omega))),(ob_bit (dT (by (simp only [nmsC_len]; omega)))),(ob_eqv (by simp only [Int.toNat_natCast,Int.toNat_zero]; first | (rw [@nmsC_at (l) (k) hi1]; done) | (rw [@nmsC_at (l) (k) hi1]; rfl))),(ob_bit (dT (by (simp only [nmsC_len]; omega)))),(ob_eqv (by simp only [Int.toNat_natCast,Int.toNat_zero]; first | (rw [@nmsC_at (l) (i) (by omega)]; done) | (rw [@nmsC_at (l) (i) (by omega)]; rfl))),(ob_bit (bsF hx0)),(ob_eqv (wrap64 (by omega) (by omega))),trivial⟩ hq
theorem dqB_z1(l:List ByteArray)(k:Nat)(hi1:k<l.length)(hi0:(l.take k).length=k)(xe:Ext)(i:Nat)(hi:i=List.length ((l.take k)))(hN:List.length ((l.take k))<=1000000000)(cx:Cx)(hcx:cx.n=25){Q:PExit->S->Prop}(hq:Q (PExit.exit 2) (S.mk [(0,LV.v (PV.sl 1 (nmsC l))),(3,LV.v (PV.int IntKind.i64 (↑k:Int))),(4,LV.v (PV.int IntKind.i64 (↑i:Int)))] [] xe)):PW Tryz.prog cx (loopF Tryz.f13 1) (dqB_I l k xe (↑i:Int)) Q:=
 PW_runK (mdL) 25 50 [Ans.bit false] [0,3,4,2] [] (sc':=[]) (l:=[Ob.bit (decide ((↑i:Int)<(↑k:Int))) false]) mixed hcx (by kernel_rfl) (by kernel_rfl) ⟨(ob_bit (dF (by omega))),trivial⟩ hq
inductive dqB_R where
 | e0
 | e1
def dqB_f(l:List ByteArray)(k:Nat):List ByteArray->Nat->dqB_R
 | [],i=>(dqB_R.e1)
 | el::r,i=>(if List.getD l k nm0=List.getD l i nm0 then (dqB_R.e0) else dqB_f l k r (i+1))
def dqB_q(l:List ByteArray)(k:Nat)(xe:Ext)  : dqB_R->PExit × S
 | .e0=>(PExit.ret,S.mk [(0,LV.v (PV.sl 1 (nmsC l))),(3,LV.v (PV.int IntKind.i64 (↑k:Int))),(2,LV.v (PV.bool false))] [] xe)
 | .e1=>(PExit.exit 2,S.mk [(0,LV.v (PV.sl 1 (nmsC l))),(3,LV.v (PV.int IntKind.i64 (↑k:Int)))] [] xe)
theorem dqB_lp(l:List ByteArray)(k:Nat)(hi1:k<l.length)(hi0:(l.take k).length=k)(xe:Ext)(hN:List.length ((l.take k))<=1000000000)(i:Nat)(hi0:i<=List.length ((l.take k)))  : (Ob.loop 25 (loopF Tryz.f13 1) (dqB_I l k xe (i:Int)) (dqB_q l k xe  (dqB_f l k (List.drop i ((l.take k))) i)).1 (dqB_q l k xe  (dqB_f l k (List.drop i ((l.take k))) i)).2).ok Tryz.prog:=by
 refine Ob.loop_of (P:=Tryz.prog) (α:={ zz:Nat × Unit // zz.1<=List.length ((l.take k)) }) (fun zz=>dqB_I l k xe (zz.1.1:Int)) (fun zz=>List.length ((l.take k)) - zz.1.1) (fun zz=>(dqB_q l k xe  (dqB_f l k (List.drop zz.1.1 ((l.take k))) zz.1.1))) ?_ ⟨(i,()),hi0⟩
 clear hi0
 clear  i
 rintro ⟨⟨i,u⟩,hi⟩ cx hcx
 simp only at hi  ⊢
 rcases Nat.lt_or_ge i (List.length ((l.take k))) with hlt | hge
 ·have hd:=drop_at0 hlt
  by_cases h0:List.getD l k nm0=List.getD l i nm0
  ·have hr:(dqB_f l k (List.drop i ((l.take k))) i)=(dqB_R.e0):=by rw [hd,dqB_f,if_pos h0]
   refine dqB_b1 l k hi1 hi0 xe i   hlt hN  h0 cx hcx (.inr ?_)
   rw [hr]
   exact ⟨by simp,rfl,⟨⟨WL.r,WL.r,WL.r,trivial⟩,trivial,rfl⟩⟩
  ·have hr:(dqB_f l k (List.drop i ((l.take k))) i)=(dqB_f l k (List.drop (i+1) ((l.take k))) (i+1)):=by rw [hd,dqB_f,if_neg h0]
   exact dqB_b2 l k hi1 hi0 xe i   hlt hN  h0 cx hcx (.inl ⟨rfl,⟨((i+1),()),by simp only; omega⟩,by simp only; omega,⟨⟨WL.r,WL.r,WL.r,trivial⟩,trivial,rfl⟩,by simp only; rw [hr]⟩)
 ·have he:i=List.length ((l.take k)):=by omega
  subst he
  have hr:(dqB_f l k (List.drop (List.length ((l.take k))) ((l.take k))) (List.length ((l.take k))))=(dqB_R.e1):=by rw [List.drop_length,dqB_f]
  refine dqB_z1 l k hi1 hi0 xe (List.length ((l.take k)))   rfl hN   cx hcx (.inr ?_)
  rw [hr]
  exact ⟨by simp,rfl,⟨⟨WL.r,WL.r,trivial⟩,trivial,rfl⟩⟩
theorem dqB_0(l:List ByteArray)(k:Nat)(hi1:k<l.length)(hi0:(l.take k).length=k)(xe:Ext)(hN:List.length ((l.take k))<=1000000000)(hres:(dqB_f l k ((l.take k)) 0)=(dqB_R.e0)):(Ob.loop 25 (loopF Tryz.f13 1) (dqB_I l k xe 0) (dqB_q l k xe  (dqB_R.e0)).1 (dqB_q l k xe  (dqB_R.e0)).2).ok Tryz.prog:=by
 have:=dqB_lp l k hi1 hi0 xe  hN 0  (Nat.zero_le _)
 rw [List.drop_zero] at this
 rw [hres] at this
 exact this
theorem dqB_1(l:List ByteArray)(k:Nat)(hi1:k<l.length)(hi0:(l.take k).length=k)(xe:Ext)(hN:List.length ((l.take k))<=1000000000)(hres:(dqB_f l k ((l.take k)) 0)=(dqB_R.e1)):(Ob.loop 25 (loopF Tryz.f13 1) (dqB_I l k xe 0) (dqB_q l k xe  (dqB_R.e1)).1 (dqB_q l k xe  (dqB_R.e1)).2).ok Tryz.prog:=by
 have:=dqB_lp l k hi1 hi0 xe  hN 0  (Nat.zero_le _)
 rw [List.drop_zero] at this
 rw [hres] at this
 exact this
def dqP(l:List BA)(k:Nat):Bool:=match dqB_f l k (l.take k) 0 with
 | .e0=>true
 | .e1=>false
theorem dqT(l:List BA)(k:Nat)(hk:k<l.length)(hN:l.length<=1000000000)(xe:Ext)(h:dqP l k=true):(Ob.loop 25 (loopF f13 1) (dqB_I l k xe 0) (dqB_q l k xe .e0).1 (dqB_q l k xe .e0).2).ok prog:=dqB_0 l k hk (by simp; omega) xe (by simp; omega) (by
 unfold dqP at h
 cases hd:dqB_f l k (l.take k) 0 with
 | e0=>rfl
 | e1=>rw [hd] at h; cases h)
theorem dqU(l:List BA)(k:Nat)(hk:k<l.length)(hN:l.length<=1000000000)(xe:Ext)(h:dqP l k=false):(Ob.loop 25 (loopF f13 1) (dqB_I l k xe 0) (dqB_q l k xe .e1).1 (dqB_q l k xe .e1).2).ok prog:=dqB_1 l k hk (by simp; omega) xe (by simp; omega) (by
 unfold dqP at h
 cases hd:dqB_f l k (l.take k) 0 with
 | e1=>rfl
 | e0=>rw [hd] at h; cases h)
abbrev dqO_I(l:List BA)(j:Int)(e:Ext):S:=S.mk [(0,vL 1 (nmsC l)),(3,vI6 j)] [] e
inductive dqO_R where
 | e0
 | e1
def dqO_f(l:List BA):List BA->Nat->dqO_R
 | [],i=>(dqO_R.e1)
 | el::r,i=>(if dqP l i=true then (dqO_R.e0) else dqO_f l r (i+1))
def dqO_q(l:List BA)(e:Ext):dqO_R->PExit × S
 | .e0=>(.ret,S.mk [(0,vL 1 (nmsC l)),(2,.v (.bool false))] [] e)
 | .e1=>(.exit 0,S.mk [(0,vL 1 (nmsC l))] [] e)
theorem dqO_lp(l:List BA)(hlN:l.length<=1000000000)(e:Ext)(hN:l.length<=1000000000):(Ob.loop 25 (loopF f13 0) (dqO_I l 0  e) (dqO_q l e (dqO_f l (l) 0)).1 (dqO_q l e (dqO_f l (l) 0)).2).ok prog:=by
 refine rng l.length (fun j _=>dqO_I l j  e) (fun i _=>dqO_f l (List.drop i (l)) i) (dqO_q l e) (fun i _=>True) kR ?_ () trivial
 rintro i u hi -
 rcases Nat.lt_or_ge i (l.length) with hlt | hge
 ·have hd:=drop_at0 hlt
  refine t0 ?_;refine tp [sl (nmsC_len l),dt ((i:Int)<(l.length:Int))] ?_;by_cases h0:dqP l i=true
  ·exact tX mdL [lq (@dqT l i hlt hlN e h0)] (dqO_R.e0) (by rw [hd,dqO_f,iP h0])
  ·exact tN mdL [lq (@dqU l i hlt hlN e (bFT h0)),wr ((i:Int)+1)] hlt () trivial (by rw [hd,dqO_f,iN h0])
 ·have he:i=l.length:=by omega
  exact lX mdL [sl (nmsC_len l),df ((i:Int)<(l.length:Int))] (dqO_R.e1) (by rw [he,List.drop_length,dqO_f])
section
variable (l:List BA) (hlN:l.length<=1000000000)
include l hlN
theorem dqL_1(hx0:dqO_f l l 0=dqO_R.e0):Pu 13 [.sl 1 (nmsC l)] (rB false):=
 pu mdL (fun e=>[lq (rz (dqO_lp (l) hlN (e) hlN) hx0)]) func13
theorem dqL_2(hx0:dqO_f l l 0=dqO_R.e1):Pu 13 [.sl 1 (nmsC l)] (rB true):=
 pu mdL (fun e=>[lq (rz (dqO_lp (l) hlN (e) hlN) hx0)]) func13
end
section
variable (pt:List Ce) (ap:List Fc) (u:Pr) (hpc:Pu 29 [.agg (prL u)] (.ret (.int .i64 0))) (vn:Int) (vb:Bool) (hv:Pu 69 [.agg [.sl 2 (Ce.cs pt),.sl 3 (Fc.cs ap)],.agg (prL u)] (.ret (.tup [.int .i64 vn,.bool vb])))
include pt ap u hpc vn vb hv
theorem evL_1(hx0:vb=false):Pu 31 [.agg (prL u),.sl 2 (Ce.cs pt),.sl 3 (Fc.cs ap)] (.ret (.tup [pI 0,.bool false])):=
 pm mdL [cl hpc,bf false,cl hv,bt1 (bnT hx0)] func31
theorem evL_2(hx0:vb=true):Pu 31 [.agg (prL u),.sl 2 (Ce.cs pt),.sl 3 (Fc.cs ap)] (.ret (.tup [pI vn,.bool true])):=
 pm mdL [cl hpc,bf false,cl hv,bf1 (bnF hx0)] func31
end
theorem hoL(pt:List Ce)(ap:List Fc)(u:Pr)(hz:pzz_r0 u=false)(vn:Int)(vb:Bool)(hv:Pu 31 [.agg (prL u),.sl 2 (Ce.cs pt),.sl 3 (Fc.cs ap)] (.ret (.tup [.int .i64 vn,.bool vb]))):Pu 14 [.agg (prL u),.sl 2 (Ce.cs pt),.sl 3 (Fc.cs ap)] (.ret (.tup [.bool (vn != 0),.bool vb])):=
 pm mdL [cl (@pzz u),bf (pzz_r0 u) hz,cl hv] func14
abbrev bdS_I(v:Ex)(j:Int)(out:List Ex)(e:Ext):S:=S.mk [(1,.lp 1 0),(2,.v .nilsl),(3,.uniq 37 7 (Ex.cs out)),(4,vI6 j)] [(1,exV v)] e
def bdS_f  : List Al->(List Ex)->(List Ex)
 | [],out=>(out)
 | el::r,out=>bdS_f  r (out++[alB el])
def bdS_q(v:Ex)(e:Ext)(p:(List Ex)):PExit × S:=(.exit 0,S.mk [(1,.lp 1 0),(2,.v .nilsl),(3,.uniq 37 7 (Ex.cs p))] [(1,exV v)] e)
theorem bdS(v:Ex)(hk:(exK v).length<=1000000000)(hA:(exA v).length<=1000000000)(out:List Ex)(e:Ext)(hN:(exA v).length<=1000000000)(hv:List.length out<=1000000000+0):(Ob.loop 26 (loopF f32 0) (bdS_I v 0 out e) (bdS_q v e (bdS_f  ((exA v))  out)).1 (bdS_q v e (bdS_f  ((exA v))  out)).2).ok prog:=by
 refine rng ((exA v).length) (fun j out=>bdS_I v j out e) (fun i out=>bdS_f  (List.drop i ((exA v)))  out) (bdS_q v e) (fun i out=>(out.length<=1000000000+i)) kR ?_ out (by first | exact hv | omega)
 rintro i out hi hv
 try simp only at hv
 rcases Nat.lt_or_ge i ((exA v).length) with hlt | hge
 ·have hd:=drop_at hlt
  exact lS mdL [sl (Al.cs_len (exA v)),rgAl hlt,am (List.length (Ex.cs out++[List.take ((fun x=>TypeInfo.size x) (Tables.types (Program.toTables prog))[37]) (List.drop (0+Field.offset #[Field.mk "Con" 9 0 false "" "" 0,Field.mk "Names" 30 1 false "" "" 16,Field.mk "Body" 37 2 false "" "" 40][2]) (alL (List.getD (exA v) i default)))]) * (127+1)<=140737488355328) (by (simp only [List.length_append,List.length_cons,List.length_nil,nmsC_len,Tp.cs_len,Pm.cs_len,Ex.cs_len,Al.cs_len]; omega)),wr ((i:Int)+1)] [1,2,3,4] [1] hlt (out++[alB (List.getD (exA v) i default)]) (S.mk [(1,.lp 1 0),(2,.v .nilsl),(3,.uniq 37 7 (Ex.cs out++[List.take (TypeInfo.size (Tables.types (Program.toTables prog))[37]) (List.drop (0+Field.offset #[Field.mk "Con" 9 0 false "" "" 0,Field.mk "Names" 30 1 false "" "" 16,Field.mk "Body" 37 2 false "" "" 40][2]) (alL (List.getD (exA v) i default)))])),(4,vI6 ((i:Int)+1))] [(1,exV v)] e) ⟨⟨W,W,(.inl (by first | (simp only [List.nil_append,nmsC_app,nmsC_snoc,Pr.cs_snoc,Tp.cs_snoc,Ex.cs_snoc,Vr.cs_snoc,Df.cs_snoc]; done) | (simp only [List.nil_append,nmsC_app,nmsC_snoc,Pr.cs_snoc,Tp.cs_snoc,Ex.cs_snoc,Vr.cs_snoc,Df.cs_snoc]; rfl))),W,tVv⟩,⟨Ws,tVv⟩,rfl⟩ (by first | assumption | omega | (apply gEx <;> first | assumption | omega | decide) | (apply gAl <;> first | assumption | omega | decide) | (simp only [List.length_append,List.length_cons,List.length_nil] at *; omega) | simp_all) (by rw [hd,bdS_f])
 ·have he:i=(exA v).length:=by omega
  exact lX mdL [sl (Al.cs_len (exA v)),df ((i:Int)<((exA v).length:Int))] (out) (by rw [he,List.drop_length,bdS_f])
theorem bdT(v:Ex)(hk:(exK v).length<=1000000000)(hA:(exA v).length<=1000000000):Pu 32 [.agg (exL v)] (.own 37 7 (Ex.cs (bdS_f (exA v) (exK v)))):=
 pu mdL (fun e=>[am (List.length ([]++(fun x=>Prod.snd x) (7,Ex.cs (exK v))) * (127+1)<=140737488355328) (by (simp only [List.length_append,List.length_nil,Ex.cs_len]; omega)),lp (S.mk [(1,.lp 1 0),(2,.v .nilsl),(3,.uniq 37 7 ([]++Ex.cs (exK v))),(4,vI6 0)] [(1,exV v)] e) (@bdS v hk hA (exK v) e hA hk) ⟨⟨W,W,(by first | exact .inl rfl | exact .inr ⟨rfl,rfl⟩ | exact .inr rfl | exact .inr trivial | exact .inl (by first | (simp only [List.nil_append,nmsC_app,nmsC_snoc,Pr.cs_snoc,Tp.cs_snoc,Ex.cs_snoc,Vr.cs_snoc,Df.cs_snoc]; done) | (simp only [List.nil_append,nmsC_app,nmsC_snoc,Pr.cs_snoc,Tp.cs_snoc,Ex.cs_snoc,Vr.cs_snoc,Df.cs_snoc]; rfl))),W,tVv⟩,⟨⟨W,W,W,W,W,W,W,tVv⟩,tVv⟩,rfl⟩]) func32
abbrev ndS_I(v:Ex)(ks:List Ex)(nf:Ex->Int)(j:Int)(m:Int)(e:Ext):S:=S.mk [(2,vI6 0),(3,vI6 m),(4,vL 7 (Ex.cs ks)),(5,vI6 j)] [] e
def ndS_f(nf:Ex->Int):List Ex->(Int)->(Int)
 | [],m=>(m)
 | el::r,m=>ndS_f nf r (IntKind.wrap .i64 (m+nf el))
def ndS_q(v:Ex)(ks:List Ex)(nf:Ex->Int)(e:Ext)(p:(Int)):PExit × S:=(.exit 0,S.mk [(2,vI6 0),(3,vI6 p),(4,vL 7 (Ex.cs ks))] [] e)
theorem ndS(v:Ex)(ks:List Ex)(hB:Pu 32 [.agg (exL v)] (.ret (.sl 7 (Ex.cs ks))))(hks:ks.length<=2000000000)(nf:Ex->Int)(hR:∀y:Ex,y∈ks->Pu 16 [.agg (exL y)] (.ret (.int .i64 (nf y))))(m:Int)(e:Ext)(hN:ks.length<=1000000000)  : (Ob.loop 22 (loopF f16 0) (ndS_I v ks nf 0 m e) (ndS_q v ks nf e (ndS_f nf (ks)  m)).1 (ndS_q v ks nf e (ndS_f nf (ks)  m)).2).ok prog:=by
 refine rng ks.length (fun j m=>ndS_I v ks nf j m e) (fun i m=>ndS_f nf (List.drop i (ks))  m) (ndS_q v ks nf e) (fun i m=>True) kR ?_ m trivial
 rintro i m hi -
 rcases Nat.lt_or_ge i (ks.length) with hlt | hge
 ·have hd:=drop_at hlt
  exact lN mdL [sl (Ex.cs_len ks),rgEx hlt,cl (@hR (List.getD ks i default) (by first | exact getD_mem hlt | simp_all)),kp,wr ((i:Int)+1)] hlt (IntKind.wrap .i64 (m+nf (List.getD ks i default))) trivial (by rw [hd,ndS_f])
 ·have he:i=ks.length:=by omega
  exact lX mdL [sl (Ex.cs_len ks),df ((i:Int)<(ks.length:Int))] (m) (by rw [he,List.drop_length,ndS_f])
theorem ndL(v:Ex)(ks:List Ex)(hB:Pu 32 [.agg (exL v)] (.ret (.sl 7 (Ex.cs ks))))(hks:ks.length<=2000000000)(nf:Ex->Int)(hR:∀y:Ex,y∈ks->Pu 16 [.agg (exL y)] (.ret (.int .i64 (nf y))))(hx0:List.length ks<=1000000000):Pu 16 [.agg (exL v)] (rI (ndS_f nf ks 1)):=
 pu mdL (fun e=>[cl hB,lq (@ndS v ks hB hks nf hR 1 e hx0)]) func16
theorem exs_lt(v:Ex):bulkPss (Ex.cs (exK v))+bulkPss (Al.cs (exA v))<bulkPs (exL v):=by simp only [bulkPs,bulkP]; omega
theorem bdS_eq:∀ (bs:List Al) (out:List Ex),bdS_f bs out=out++bs.map alB
 | [],out=>by simp [bdS_f]
 | a::r,out=>by simp [bdS_f,bdS_eq r]
theorem alB_lt(a:Al):bulkPs (exL (alB a))<bulkPs (alL a):=by simp only [bulkPs,bulkP]; omega
theorem bod_lt{v y:Ex}(h:y∈bdS_f (exA v) (exK v)):bulkPs (exL y)<bulkPs (exL v):=by
 have h1:=exs_lt v
 rw [bdS_eq,List.mem_append,List.mem_map] at h
 rcases h with h | ⟨a,h,rfl⟩
 ·have:=Ex.mem h; omega
 ·have:=Al.mem h; have:=alB_lt a; omega
def ndD:Nat->Ex->Int
 | 0,_=>0
 | d+1,v=>ndS_f (ndD d) (bdS_f (exA v) (exK v)) 1
theorem nd_ok:∀ (d:Nat) (v:Ex),bulkPs (exL v)<d->d<=100000001->Pu 16 [.agg (exL v)] (.ret (.int .i64 (ndD d v)))
 | 0,v,h,_=>by omega
 | d+1,v,h,hs=>by
  have h1:=exs_lt v
  have h2:=Ex.bulk (exK v)
  have h3:=Al.bulk (exA v)
  have hl:(bdS_f (exA v) (exK v)).length<=1000000000:=by rw [bdS_eq,List.length_append,List.length_map]; omega
  exact ndL v _ (Ob.pur_unown (bdT v oM oM)) oM (ndD d) (fun y hy=>nd_ok d y (by have:=bod_lt hy; omega) oM) hl
def ndF(v:Ex):Int:=ndD (bulkPs (exL v)+1) v
theorem ndT(v:Ex)(hs:bulkPs (exL v)<=100000000):Pu 16 [.agg (exL v)] (.ret (.int .i64 (ndF v))):=nd_ok _ v (Nat.lt_succ_self _) oM
abbrev ltA_I(v:Ex)(nf:Ex->Int)(j:Int)(n:Int)(e:Ext):S:=S.mk [(1,.lp 1 0),(2,vI6 0),(3,vI6 n),(4,vI6 j)] [(1,exV v)] e
def ltA_f(nf:Ex->Int):List Ex->(Int)->(Int)
 | [],n=>(n)
 | el::r,n=>ltA_f nf r (IntKind.wrap .i64 (n+nf el))
def ltA_q(v:Ex)(nf:Ex->Int)(e:Ext)(p:(Int)):PExit × S:=(.exit 0,S.mk [(1,.lp 1 0),(2,vI6 0),(3,vI6 p)] [(1,exV v)] e)
theorem ltA(v:Ex)(nf:Ex->Int)(hR:∀y:Ex,y∈exK v->Pu 17 [.agg (exL y)] (.ret (.int .i64 (nf y))))(n:Int)(e:Ext)(hN:(exK v).length<=1000000000)  : (Ob.loop 41 (loopF f17 0) (ltA_I v nf 0 n e) (ltA_q v nf e (ltA_f nf ((exK v))  n)).1 (ltA_q v nf e (ltA_f nf ((exK v))  n)).2).ok prog:=by
 refine rng ((exK v).length) (fun j n=>ltA_I v nf j n e) (fun i n=>ltA_f nf (List.drop i ((exK v)))  n) (ltA_q v nf e) (fun i n=>True) kR ?_ n trivial
 rintro i n hi -
 rcases Nat.lt_or_ge i ((exK v).length) with hlt | hge
 ·have hd:=drop_at hlt
  exact lN mdL [sl (Ex.cs_len (exK v)),rgEx hlt,cl (@hR (List.getD (exK v) i default) (by first | exact getD_mem hlt | simp_all)),kp,wr ((i:Int)+1)] hlt (IntKind.wrap .i64 (n+nf (List.getD (exK v) i default))) trivial (by rw [hd,ltA_f])
 ·have he:i=(exK v).length:=by omega
  exact lX mdL [sl (Ex.cs_len (exK v)),df ((i:Int)<((exK v).length:Int))] (n) (by rw [he,List.drop_length,ltA_f])
abbrev ltB_I(v:Ex)(nf:Ex->Int)(j:Int)(n:Int)(e:Ext):S:=S.mk [(1,.lp 1 0),(2,vI6 0),(3,vI6 n),(5,vI6 j)] [(1,exV v)] e
def ltB_f(nf:Ex->Int):List Al->(Int)->(Int)
 | [],n=>(n)
 | el::r,n=>ltB_f nf r (IntKind.wrap .i64 (n+nf (alB el)))
def ltB_q(v:Ex)(nf:Ex->Int)(e:Ext)(p:(Int)):PExit × S:=(.exit 2,S.mk [(1,.lp 1 0),(2,vI6 0),(3,vI6 p)] [(1,exV v)] e)
theorem ltB(v:Ex)(nf:Ex->Int)(hR:∀y:Ex,y∈exK v->Pu 17 [.agg (exL y)] (.ret (.int .i64 (nf y))))(hS:∀y:Al,y∈exA v->Pu 17 [.agg (exL (alB y))] (.ret (.int .i64 (nf (alB y)))))(hM:(exK v).length<=1000000000)(n:Int)(e:Ext)(hN:(exA v).length<=1000000000)  : (Ob.loop 41 (loopF f17 1) (ltB_I v nf 0 n e) (ltB_q v nf e (ltB_f nf ((exA v))  n)).1 (ltB_q v nf e (ltB_f nf ((exA v))  n)).2).ok prog:=by
 refine rng ((exA v).length) (fun j n=>ltB_I v nf j n e) (fun i n=>ltB_f nf (List.drop i ((exA v)))  n) (ltB_q v nf e) (fun i n=>True) kR ?_ n trivial
 rintro i n hi -
 rcases Nat.lt_or_ge i ((exA v).length) with hlt | hge
 ·have hd:=drop_at hlt
  exact lN mdL [sl (Al.cs_len (exA v)),rgAl hlt,cl (@hS (List.getD (exA v) i default) (by first | exact getD_mem hlt | simp_all)),kp,wr ((i:Int)+1)] hlt (IntKind.wrap .i64 (n+nf (alB (List.getD (exA v) i default)))) trivial (by rw [hd,ltB_f])
 ·have he:i=(exA v).length:=by omega
  exact lX mdL [sl (Al.cs_len (exA v)),df ((i:Int)<((exA v).length:Int))] (n) (by rw [he,List.drop_length,ltB_f])
def ltL_r0(v:Ex)(nf:Ex->Int):Int:=(if exO v=7 then (ltB_f nf (exA v) (ltA_f nf (exK v) 1)) else (ltB_f nf (exA v) (ltA_f nf (exK v) 0)))
theorem ltL(v:Ex)(nf:Ex->Int)(hR:∀y:Ex,y∈exK v->Pu 17 [.agg (exL y)] (.ret (.int .i64 (nf y))))(hS:∀y:Al,y∈exA v->Pu 17 [.agg (exL (alB y))] (.ret (.int .i64 (nf (alB y)))))(hM:(exK v).length<=1000000000)(hN:(exA v).length<=1000000000):Pu 17 [.agg (exL v)] (rI (ltL_r0 v nf)):=by
 by_cases h0:exO v=7
 ·simp only [ltL_r0,iP h0]; exact pu mdL (fun e=>[et1 h0,lq (@ltA v nf hR 1 e hM),lq (@ltB v nf hR hS hM (ltA_f nf (exK v) 1) e hN)]) func17
 ·simp only [ltL_r0,iN h0]; exact pu mdL (fun e=>[en1 h0,lq (@ltA v nf hR 0 e hM),lq (@ltB v nf hR hS hM (ltA_f nf (exK v) 0) e hN)]) func17
def ltD:Nat->Ex->Int
 | 0,_=>0
 | d+1,v=>ltL_r0 v (ltD d)
theorem lt_ok:∀ (d:Nat) (v:Ex),bulkPs (exL v)<d->d<=100000001->Pu 17 [.agg (exL v)] (.ret (.int .i64 (ltD d v)))
 | 0,v,h,_=>by omega
 | d+1,v,h,hs=>ltL v (ltD d) (fun y hy=>lt_ok d y (by have h1:=exs_lt v; have:=Ex.mem hy; omega) oM) (fun y hy=>lt_ok d (alB y) (by have h1:=exs_lt v; have:=Al.mem hy; have:=alB_lt y; omega) oM) (by have h1:=exs_lt v; have:=Ex.bulk (exK v); omega) (by have h1:=exs_lt v; have:=Al.bulk (exA v); omega)
def ltF(v:Ex):Int:=ltD (bulkPs (exL v)+1) v
theorem ltT(v:Ex)(hs:bulkPs (exL v)<=100000000):Pu 17 [.agg (exL v)] (.ret (.int .i64 (ltF v))):=lt_ok _ v (Nat.lt_succ_self _) oM
abbrev liA_I(m:Mo)(j:Int)(e:Ext):S:=S.mk [(1,.lp 1 0),(3,vI6 j)] [(1,moV m)] e
inductive liA_R where
 | e0
 | e1
def liA_f  : List Df->liA_R
 | []=>(liA_R.e1)
 | el::r=>(if ndF (dfB el)>100 then (liA_R.e0) else (if ((dfP el).length:Int)>8 then (liA_R.e0) else (if ltF (dfB el)>6 then (liA_R.e0) else liA_f  r)))
def liA_q(m:Mo)(e:Ext):liA_R->PExit × S
 | .e0=>(.ret,S.mk [(1,.lp 1 0),(2,.v (.bool false))] [(1,moV m)] e)
 | .e1=>(.exit 0,S.mk [(1,.lp 1 0)] [(1,moV m)] e)
theorem liA_lp(m:Mo)(hq1:¬((moF m).length:Int)>9)(hR:∀w:Df,w∈moF m->Pu 16 [.agg (exL (dfB w))] (.ret (.int .i64 (ndF (dfB w)))))(hS:∀w:Df,w∈moF m->Pu 17 [.agg (exL (dfB w))] (.ret (.int .i64 (ltF (dfB w)))))(e:Ext)(hN:(moF m).length<=1000000000):(Ob.loop 43 (loopF f6 0) (liA_I m 0  e) (liA_q m e (liA_f  ((moF m)))).1 (liA_q m e (liA_f  ((moF m)))).2).ok prog:=by
 refine rng ((moF m).length) (fun j _=>liA_I m j  e) (fun i _=>liA_f  (List.drop i ((moF m)))) (liA_q m e) (fun i _=>True) kR ?_ () trivial
 rintro i u hi -
 rcases Nat.lt_or_ge i ((moF m).length) with hlt | hge
 ·have hd:=drop_at hlt
  refine t0 ?_;refine tp [sl (Df.cs_len (moF m)),rgDf hlt,cl (@hR (List.getD (moF m) i default) (by simp_all))] ?_;by_cases h0:ndF (dfB (List.getD (moF m) i default))>100
  ·exact tX mdL [rp 9 (dt1 h0),rp 10 (bt true)] (liA_R.e0) (by rw [hd,liA_f,iP h0])
  ·refine tp [rp 4 (df1 h0),mxDf (moF m) (i:Int),xDf (moF m) i hlt,rp 3 (df1 h0),sl (nmsC_len (dfP (List.getD (moF m) i default))),rp 2 (df1 h0)] ?_;by_cases h1:((dfP (List.getD (moF m) i default)).length:Int)>8
   ·exact tX mdL [rp 9 (dt1 h1),bt true] (liA_R.e0) (by rw [hd,liA_f,iN h0,iP h1])
   ·refine tp [rp 4 (df1 h1),mxDf (moF m) (i:Int),xDf (moF m) i hlt,rp 3 (df1 h1),cl (@hS (List.getD (moF m) i default) (by simp_all)),rp 2 (df1 h1)] ?_;by_cases h2:ltF (dfB (List.getD (moF m) i default))>6
    ·exact tX mdL [dt1 h2] (liA_R.e0) (by rw [hd,liA_f,iN h0,iN h1,iP h2])
    ·exact tN mdL [df1 h2,wr ((i:Int)+1)] hlt () trivial (by rw [hd,liA_f,iN h0,iN h1,iN h2])
 ·have he:i=(moF m).length:=by omega
  exact lX mdL [sl (Df.cs_len (moF m)),df ((i:Int)<((moF m).length:Int))] (liA_R.e1) (by rw [he,List.drop_length,liA_f])
section
variable (m:Mo) (hR:∀w:Df,w∈moF m->Pu 16 [.agg (exL (dfB w))] (.ret (.int .i64 (ndF (dfB w))))) (hS:∀w:Df,w∈moF m->Pu 17 [.agg (exL (dfB w))] (.ret (.int .i64 (ltF (dfB w)))))
include m hR hS
theorem liL_1(hx0:((moF m).length:Int)>9):Pu 6 [.agg (moL m)] (rB false):=
 pm mdL [sl (Df.cs_len (moF m)),dt1 hx0] func6
theorem liL_2(hx0:¬((moF m).length:Int)>9)(hx1:liA_f (moF m)=liA_R.e0):Pu 6 [.agg (moL m)] (rB false):=
 pu mdL (fun e=>[sl (Df.cs_len (moF m)),df1 hx0,lq (rz (liA_lp (m) hx0 hR hS (e) oM) hx1)]) func6
theorem liL_3(hx0:¬((moF m).length:Int)>9)(hx1:liA_f (moF m)=liA_R.e1):Pu 6 [.agg (moL m)] (rB true):=
 pu mdL (fun e=>[sl (Df.cs_len (moF m)),df1 hx0,lq (rz (liA_lp (m) hx0 hR hS (e) oM) hx1)]) func6
end
abbrev plA_I(m:Mo)(t:Int)(d:Df)(ia:List Int)(ip:List Fc)(cs:List Pr)(ts:List Pr)(pt:List Ce)(hof:Pr->Bool × Bool)(j:Int)(c:Int)(e:Ext):S:=S.mk [(5,.lp 5 0),(7,.lp 7 0),(9,vL 4 (Pr.cs cs)),(10,vL 4 (Pr.cs ts)),(12,vI6 c),(13,vI6 j)] [(5,[vL 1 (ntC ia),vL 3 (Fc.cs ip)]),(7,dfV d)] e
inductive plA_R where
 | e0 (c:Int)
 | e1 (c:Int)
def plA_f(hof:Pr->Bool × Bool):List Pr->(Int)->plA_R
 | [],c=>(plA_R.e1 c)
 | el::r,c=>(if Prod.snd (hof el)=false then (plA_R.e0 c) else (if Prod.fst (hof el)=true then plA_f hof r (c+1) else plA_f hof r (c)))
def plA_q(m:Mo)(t:Int)(d:Df)(ia:List Int)(ip:List Fc)(cs:List Pr)(ts:List Pr)(pt:List Ce)(hof:Pr->Bool × Bool)(e:Ext):plA_R->PExit × S
 | .e0 c=>(.ret,S.mk [(5,.lp 5 0),(7,.lp 7 0),(9,vL 4 (Pr.cs cs)),(10,vL 4 (Pr.cs ts)),(12,vI6 c),(6,.v (.bool true))] [(5,[vL 1 (ntC ia),vL 3 (Fc.cs ip)]),(7,dfV d)] e)
 | .e1 c=>(.exit 0,S.mk [(5,.lp 5 0),(7,.lp 7 0),(9,vL 4 (Pr.cs cs)),(10,vL 4 (Pr.cs ts)),(12,vI6 c)] [(5,[vL 1 (ntC ia),vL 3 (Fc.cs ip)]),(7,dfV d)] e)
theorem plA_lp(m:Mo)(t:Int)(d:Df)(ia:List Int)(ip:List Fc)(hat:Pu 5 [.agg (moL m),.int .u8 t] (.ret (.tup [.agg (dfL d),.bool true])))(hlg:Pu 6 [.agg (moL m)] (.ret (.bool true)))(hip:¬(ip.length:Int)>20)(hia:¬(ia.length:Int)>8)(hds:Pu 13 [.sl 1 (nmsC (dfP d))] (.ret (.bool true)))(cs ts:List Pr)(hca:Pu 10 [.agg (moL m),.agg (dfL d)] (.ret (.tup [.sl 4 (Pr.cs cs),.sl 4 (Pr.cs ts),.int .i64 0])))(pt:List Ce)(hvs:Pu 15 [.agg (dfL d),.sl 1 (ntC ia)] (.ret (.sl 2 (Ce.cs pt))))(hof:Pr->Bool × Bool)(hho:∀w:Pr,w∈cs->Pu 14 [.agg (prL w),.sl 2 (Ce.cs pt),.sl 3 (Fc.cs ip)] (.ret (.tup [.bool (hof w).1,.bool (hof w).2])))(haw:Pu 7 [] (.ret (.bool true)))(e:Ext)(hN:cs.length<=1000000000)(c:Int)(hv:(0<=c/\c<=(0:Int))):(Ob.loop 106 (loopF f4 0) (plA_I m t d ia ip cs ts pt hof 0 c e) (plA_q m t d ia ip cs ts pt hof e (plA_f hof (cs)  c)).1 (plA_q m t d ia ip cs ts pt hof e (plA_f hof (cs)  c)).2).ok prog:=by
 refine rng cs.length (fun j c=>plA_I m t d ia ip cs ts pt hof j c e) (fun i c=>plA_f hof (List.drop i (cs))  c) (plA_q m t d ia ip cs ts pt hof e) (fun i c=>(0<=c/\c<=(i:Int))) kR ?_ c (by first | exact hv | omega)
 rintro i c hi hv
 try simp only at hv
 rcases Nat.lt_or_ge i (cs.length) with hlt | hge
 ·have hd:=drop_at hlt
  refine t0 ?_;refine tp [sl (Pr.cs_len cs),rgPr hlt,cl hvs,cl (@hho (List.getD cs i default) (by simp_all [Bool.not_eq_true,Bool.not_eq_false,ntC_len]))] ?_;by_cases h0:Prod.snd (hof (List.getD cs i default))=false
  ·exact tX mdL [bt1 (bnT h0),cl haw] (plA_R.e0 c) (by rw [hd,plA_f,iP h0])
  ·refine tp [bf1 (bnF (bTF h0))] ?_;by_cases h1:Prod.fst (hof (List.getD cs i default))=true
   ·exact tN mdL [bt1 h1,wr (c+1),wr ((i:Int)+1)] hlt (c+1) (by first | assumption | omega | (apply gPr <;> first | assumption | omega | decide) | (simp only [List.length_append,List.length_cons,List.length_nil] at *; omega) | simp_all) (by rw [hd,plA_f,iN h0,iP h1])
   ·exact tN mdL [bf1 (bFT h1),wr ((i:Int)+1)] hlt (c) (by first | assumption | omega | (apply gPr <;> first | assumption | omega | decide) | (simp only [List.length_append,List.length_cons,List.length_nil] at *; omega) | simp_all) (by rw [hd,plA_f,iN h0,iN h1])
 ·have he:i=cs.length:=by omega
  exact lX mdL [sl (Pr.cs_len cs),df ((i:Int)<(cs.length:Int))] (plA_R.e1 c) (by rw [he,List.drop_length,plA_f])
section
variable (m:Mo) (t:Int) (d:Df) (ok lgz db:Bool) (ia:List Int) (ip:List Fc) (hat:Pu 5 [.agg (moL m),.int .u8 t] (.ret (.tup [.agg (dfL d),.bool ok]))) (hlg:Pu 6 [.agg (moL m)] (.ret (.bool lgz))) (hds:Pu 13 [.sl 1 (nmsC (dfP d))] (.ret (.bool db)))
include m t d ok lgz db ia ip hat hlg hds
theorem plG_1(haw:Pu 7 [] (.ret (.bool true)))(hx0:lgz=false):Pu 4 [.agg (moL m),.int .u8 t,.agg [.sl 1 (ntC ia),.sl 3 (Fc.cs ip)]] (rB true):=
 pm mdL [cl hat,cl hlg,rp 3 (bt1 (bnT hx0)),rp 16 (bt true),cl haw] func4
theorem plG_2(haw:Pu 7 [] (.ret (.bool true)))(hx0:lgz=true)(hx1:ok=false):Pu 4 [.agg (moL m),.int .u8 t,.agg [.sl 1 (ntC ia),.sl 3 (Fc.cs ip)]] (rB true):=
 pm mdL [cl hat,cl hlg,rp 3 (bf1 (bnF hx0)),rp 5 (bt1 (bnT hx1)),rp 11 (bt true),cl haw] func4
theorem plG_3(haw:Pu 7 [] (.ret (.bool true)))(hx0:lgz=true)(hx1:ok=true)(hx2:(ip.length:Int)>20):Pu 4 [.agg (moL m),.int .u8 t,.agg [.sl 1 (ntC ia),.sl 3 (Fc.cs ip)]] (rB true):=
 pm mdL [cl hat,cl hlg,rp 3 (bf1 (bnF hx0)),rp 3 (bf1 (bnF hx1)),sl (Fc.cs_len ip),rp 2 (bf1 (bnF hx1)),rp 5 (dt1 hx2),rp 6 (bt true),cl haw] func4
theorem plG_4(haw:Pu 7 [] (.ret (.bool true)))(hx0:lgz=true)(hx1:ok=true)(hx2:¬(ip.length:Int)>20)(hx3:(ia.length:Int)>8):Pu 4 [.agg (moL m),.int .u8 t,.agg [.sl 1 (ntC ia),.sl 3 (Fc.cs ip)]] (rB true):=
 pm mdL [cl hat,cl hlg,rp 3 (bf1 (bnF hx0)),rp 3 (bf1 (bnF hx1)),sl (Fc.cs_len ip),rp 2 (bf1 (bnF hx1)),rp 3 (df1 hx2),sl (ntC_len ia),rp 2 (df1 hx2),rp 5 (dt1 hx3),bt true,cl haw] func4
theorem plG_5(haw:Pu 7 [] (.ret (.bool true)))(hx0:lgz=true)(hx1:ok=true)(hx2:¬(ip.length:Int)>20)(hx3:¬(ia.length:Int)>8)(hx4:db=false):Pu 4 [.agg (moL m),.int .u8 t,.agg [.sl 1 (ntC ia),.sl 3 (Fc.cs ip)]] (rB true):=
 pm mdL [cl hat,cl hlg,rp 3 (bf1 (bnF hx0)),rp 3 (bf1 (bnF hx1)),sl (Fc.cs_len ip),rp 2 (bf1 (bnF hx1)),rp 3 (df1 hx2),sl (ntC_len ia),rp 2 (df1 hx2),rp 3 (df1 hx3),cl hds,rp 2 (df1 hx3),bt1 (bnT hx4),cl haw] func4
theorem plX_6(cs ts:List Pr)(cez:Int)(hca:Pu 10 [.agg (moL m),.agg (dfL d)] (.ret (.tup [.sl 4 (Pr.cs cs),.sl 4 (Pr.cs ts),.int .i64 cez])))(hce:¬cez=0)(haw:Pu 7 [] (.ret (.bool true)))(hcN:cs.length=0)(htN:ts.length=0)(hx0:lgz=true)(hx1:ok=true)(hx2:¬(ip.length:Int)>20)(hx3:¬(ia.length:Int)>8)(hx4:db=true):Pu 4 [.agg (moL m),.int .u8 t,.agg [.sl 1 (ntC ia),.sl 3 (Fc.cs ip)]] (rB true):=
 pm mdL [cl hat,cl hlg,rp 3 (bf1 (bnF hx0)),rp 3 (bf1 (bnF hx1)),sl (Fc.cs_len ip),rp 2 (bf1 (bnF hx1)),rp 3 (df1 hx2),sl (ntC_len ia),rp 2 (df1 hx2),rp 3 (df1 hx3),cl hds,rp 2 (df1 hx3),bf1 (bnF hx4),cl hca,nt cez 0 hce,sl (Pr.cs_len cs),rp 2 (et (cs.length:Int) 0),sl (Pr.cs_len ts),rp 2 (et (cs.length:Int) 0),et (ts.length:Int) 0,cl haw,et (ts.length:Int) 0] func4
end
section
variable (m:Mo) (t:Int) (d:Df) (ia:List Int) (ip:List Fc) (hat:Pu 5 [.agg (moL m),.int .u8 t] (.ret (.tup [.agg (dfL d),.bool true]))) (hlg:Pu 6 [.agg (moL m)] (.ret (.bool true))) (hip:¬(ip.length:Int)>20) (hia:¬(ia.length:Int)>8) (hds:Pu 13 [.sl 1 (nmsC (dfP d))] (.ret (.bool true))) (cs ts:List Pr) (hca:Pu 10 [.agg (moL m),.agg (dfL d)] (.ret (.tup [.sl 4 (Pr.cs cs),.sl 4 (Pr.cs ts),.int .i64 0]))) (pt:List Ce) (hvs:Pu 15 [.agg (dfL d),.sl 1 (ntC ia)] (.ret (.sl 2 (Ce.cs pt)))) (hof:Pr->Bool × Bool) (hho:∀w:Pr,w∈cs->Pu 14 [.agg (prL w),.sl 2 (Ce.cs pt),.sl 3 (Fc.cs ip)] (.ret (.tup [.bool (hof w).1,.bool (hof w).2]))) (haw:Pu 7 [] (.ret (.bool true))) (hN:cs.length<=1000000000) (hy0:Int)
include m t d ia ip hat hlg hip hia hds cs ts hca pt hvs hof hho haw hN hy0
theorem plL_1(hx1:plA_f hof cs 0=plA_R.e0 hy0):Pu 4 [.agg (moL m),.int .u8 t,.agg [.sl 1 (ntC ia),.sl 3 (Fc.cs ip)]] (rB true):=
 pu mdL (fun e=>[cl hat,cl hlg,rp 6 (bf false),sl (Fc.cs_len ip),rp 2 (bf false),rp 3 (df ((ip.length:Int)>20) hip),sl (ntC_len ia),rp 2 (df ((ip.length:Int)>20) hip),rp 3 (df ((ia.length:Int)>8) hia),cl hds,rp 2 (df ((ia.length:Int)>8) hia),bf false,cl hca,bf false,lq (rz (plA_lp (m) (t) (d) (ia) (ip) hat hlg hip hia hds (cs) (ts) hca (pt) hvs (hof) hho haw (e) hN (0) dD) hx1)]) func4
theorem plL_2(hx1:plA_f hof cs 0=plA_R.e1 hy0)(hx2:hy0=1)(hx3:(cs.length:Int)=(ts.length:Int)):Pu 4 [.agg (moL m),.int .u8 t,.agg [.sl 1 (ntC ia),.sl 3 (Fc.cs ip)]] (rB true):=
 pu mdL (fun e=>[cl hat,cl hlg,rp 6 (bf false),sl (Fc.cs_len ip),rp 2 (bf false),rp 3 (df ((ip.length:Int)>20) hip),sl (ntC_len ia),rp 2 (df ((ip.length:Int)>20) hip),rp 3 (df ((ia.length:Int)>8) hia),cl hds,rp 2 (df ((ia.length:Int)>8) hia),bf false,cl hca,bf false,lq (rz (plA_lp (m) (t) (d) (ia) (ip) hat hlg hip hia hds (cs) (ts) hca (pt) hvs (hof) hho haw (e) hN (0) dD) hx1),rp 2 (et1 hx2),sl (Pr.cs_len cs),rp 2 (et1 hx2),sl (Pr.cs_len ts),rp 2 (et1 hx2),et1 hx3,cl haw,et1 hx3]) func4
end
theorem ca_L:∀ (l:List Pa) (cs ts cs' ts':List Pr),caA_f l cs ts = .e1 cs' ts'->cs'=cs++l.map paC/\ts'=ts++l.map paT/\∀p∈l,pcE (paC p)=0
 | [],cs,ts,cs',ts',h=>by
  injection h with h1 h2
  subst h1; subst h2
  exact ⟨by simp,by simp,fun p hp=>by cases hp⟩
 | p::r,cs,ts,cs',ts',h=>by
  rw [caA_f] at h
  split at h
  ·rename_i h1
   split at h
   ·have ih:=ca_L r _ _ _ _ h
    refine ⟨by rw [ih.1]; simp,by rw [ih.2.1]; simp,fun q hq=>?_⟩
    rcases List.mem_cons.1 hq with rfl | hq
    ·exact h1
    ·exact ih.2.2 q hq
   ·cases h
  ·cases h
theorem pl_cnt{V:Pr->Option Int}{hof:Pr->Bool × Bool}(h1:∀w,(hof w).2=(bB V w).isSome)(h2:∀w,bB V w=some (hof w).1∨bB V w=none):∀ (l:List Pa) (c0 c:Int),plA_f hof (l.map paC) c0 = .e1 c->(∀p∈l,bB V (paC p)≠none)/\c=c0+cT V l
 | [],c0,c,h=>by
  injection h with h
  subst h
  exact ⟨fun p hp=>(by cases hp),by simp [cT]⟩
 | p::r,c0,c,h=>by
  rw [List.map_cons,plA_f] at h
  have e1:=h1 (paC p)
  have e2:=h2 (paC p)
  split at h
  ·cases h
  ·rename_i hb
   have hs:bB V (paC p)≠none:=fun e=>by rw [e] at e1; exact hb (by rw [e1]; rfl)
   have e3:bB V (paC p)=some (hof (paC p)).1:=by
    rcases e2 with e2 | e2
    ·exact e2
    ·exact absurd e2 hs
   rw [cT_cons,e3]
   split at h
   ·rename_i ht
    have ih:=pl_cnt h1 h2 r _ _ h
    refine ⟨fun q hq=>?_,?_⟩
    ·rcases List.mem_cons.1 hq with rfl | hq
     ·exact hs
     ·exact ih.1 q hq
    ·rw [ht,iP rfl,ih.2]; omega
   ·rename_i ht
    have ih:=pl_cnt h1 h2 r _ _ h
    refine ⟨fun q hq=>?_,?_⟩
    ·rcases List.mem_cons.1 hq with rfl | hq
     ·exact hs
     ·exact ih.1 q hq
    ·rw [iN (by simpa using ht),ih.2]; omega
theorem be0_z(u:Tp):∀ (l:List BA) (i:Nat) (s:Sc),scz s->scz (be0_f u l i s)
 | [],i,s,h=>h
 | x::r,i,s,h=>be0_z u r (i+1) _ (scz_W ⟨by simp [prVr,prO],by simp [prVr,prK]⟩ h)
theorem bgF_z(d:Df):scz (bgF d):=by
 unfold bgF
 split
 ·exact be0_z _ _ _ _ (fun x hx=>by cases hx)
 ·exact fun x hx=>by cases hx
theorem vs_len(d:Df)(l:List Int):∀ (r:List BA) (i:Nat) (o:List Ce),(vsV_f d l r i o).length<=o.length+r.length
 | [],i,o=>by simp [vsV_f]
 | x::r,i,o=>by
  have ih:=fun o'=>vs_len d l r (i+1) o'
  rw [vsV_f]
  split
  ·split
   ·split
    ·exact Nat.le_trans (ih _) (by simp; omega)
    ·exact Nat.le_trans (ih _) (by simp; omega)
   ·exact Nat.le_trans (ih _) (by simp; omega)
  ·simp
def hoF(pt:List Ce)(ap:List Fc)(w:Pr):Bool × Bool:=((if (vlF pt ap w).2=true then (vlF pt ap w).1 else 0) != 0,(vlF pt ap w).2)
theorem hoF_1(pt:List Ce)(ap:List Fc)(w:Pr):(hoF pt ap w).2=(bB (vlV pt ap) w).isSome:=by
 unfold hoF bB vlV
 cases (vlF pt ap w).2 <;> simp
theorem hoF_2(pt:List Ce)(ap:List Fc)(w:Pr):bB (vlV pt ap) w=some (hoF pt ap w).1∨bB (vlV pt ap) w=none:=by
 unfold hoF bB vlV
 cases (vlF pt ap w).2
 ·exact .inr sM
 ·refine .inl ?_
  simp only [if_true,Option.map_some,Option.some.injEq]
  by_cases h:(vlF pt ap w).1=0 <;> simp [h]
theorem hoT(pt:List Ce)(ap:List Fc)(hpt:pt.length<=1000000000)(hap:ap.length<=1000000000)(haf:∀w:Fc,w∈ap->(fcA w).length<=1000000000)(u:Pr)(hs:prS u)(hp:pcE u=0)(h0:prO u≠0):Pu 14 [.agg (prL u),.sl 2 (Ce.cs pt),.sl 3 (Fc.cs ap)] (.ret (.tup [.bool (hoF pt ap u).1,.bool (hoF pt ap u).2])):=by
 have h1:=pcS u hs
 rw [hp] at h1
 have h2:=vlT pt ap hpt hap haf u hs (pcE_k hp)
 have hz:pzz_r0 u=false:=by unfold pzz_r0; rw [iN h0]
 unfold hoF
 cases hb:(vlF pt ap u).2 with
 | false=>
  rw [hb] at h2
  exact hoL pt ap u hz 0 false (evL_1 pt ap u h1 _ _ h2 rfl)
 | true=>
  rw [hb] at h2
  exact hoL pt ap u hz _ true (evL_2 pt ap u h1 _ _ h2 rfl)
theorem nt_bulk(l:List Int):l.length<=bulkPss (ntC l):=by
 have:=len_bulk (l:=ntC l) fun c hc=>by
  rw [ntC_eq] at hc
  obtain ⟨x,-,rfl⟩:=List.mem_map.1 hc
  exact cons_bulk _ _
 rwa [ntC_len] at this
theorem fc_bulk{l:List Fc}{w:Fc}(h:w∈l):(fcA w).length<=bulkPss (Fc.cs l):=by
 have h1:bulkPs (fcL w)<=bulkPss (Fc.cs l):=mem_bulk (by rw [Fc.cs_eq]; exact List.mem_map_of_mem h)
 have h2:=nt_bulk (fcA w)
 simp only [bulkPs,bulkP] at h1
 omega
theorem df_tl(d:Df):(tpA (dfT d)).length<=bulkPs (dfL d):=by
 have h1:=tpw_bulk (dfT d)
 have h2:=df_le d
 have h3:=Tp.bulk (tpA (dfT d))
 omega
theorem ca_nil{m:Mo}{d:Df}(h:(caF m d).2.2≠0):(caF m d).1=[]/\(caF m d).2.1=[]:=by
 revert h
 unfold caF
 split
 ·split
  ·split
   ·split
    ·exact fun _=>⟨rfl,rfl⟩
    ·exact fun h=>absurd rfl h
   ·exact fun _=>⟨rfl,rfl⟩
  ·exact fun _=>⟨rfl,rfl⟩
 ·exact fun _=>⟨rfl,rfl⟩
theorem ca_zero{m:Mo}{d:Df}(h:(caF m d).2.2=0):frF m d=true/\(pkD m 1000000001 (dfB d) (bgF d)).2=true/\(caF m d).1=(pkD m 1000000001 (dfB d) (bgF d)).1.map paC/\(caF m d).2.1=(pkD m 1000000001 (dfB d) (bgF d)).1.map paT/\∀p∈(pkD m 1000000001 (dfB d) (bgF d)).1,pcE (paC p)=0:=by
 revert h
 unfold caF
 split
 ·split
  ·rename_i hf
   split
   ·rename_i hp
    split
    ·intro h; cases h
    ·rename_i cs ts hc
     intro _
     have:=ca_L _ _ _ _ _ hc
     simp only [List.nil_append] at this
     exact ⟨hf,hp,this⟩
   ·intro h; cases h
  ·intro h; cases h
 ·intro h; cases h
theorem frF_ri{m:Mo}{d:Df}(h:frF m d=true):riD m 1000000001 (dfB d) (bgF d)=true:=by
 unfold frF frS_r0 at h
 split at h
 ·split at h
  ·exact h
  ·cases h
 ·cases h
theorem paths_true(m:Mo)(t:Nat)(ht:t<256)(ia:List Int)(ip:List Fc)(hs:bulkPs (moL m)<=2000000)(hi:bulkPss (Fc.cs ip)<=2000000)(haw:Pu 7 [] (.ret (.bool true))):Pu 4 [.agg (moL m),.int .u8 (t:Int),.agg [.sl 1 (ntC ia),.sl 3 (Fc.cs ip)]] (.ret (.bool true)):=by
 have hB:=moF_blk m
 have hb:∀w∈moF m,bulkPs (dfL w)<=2000000:=fun w hw=>by have:=Df.mem hw; omega
 have hR:∀w:Df,w∈moF m->Pu 16 [.agg (exL (dfB w))] (.ret (.int .i64 (ndF (dfB w)))):=fun w hw=>ndT _ (by have:=hb w hw; have:=df_le w; omega)
 have hS:∀w:Df,w∈moF m->Pu 17 [.agg (exL (dfB w))] (.ret (.int .i64 (ltF (dfB w)))):=fun w hw=>ltT _ (by have:=hb w hw; have:=df_le w; omega)
 have hD:∀d:Df,bulkPs (dfL d)<=2000000->∃b,Pu 13 [.sl 1 (nmsC (dfP d))] (.ret (.bool b)):=fun d hd=>by
  have hp:(dfP d).length<=1000000000:=by have:=nms_bulk (dfP d); have:=df_le d; omega
  cases h:dqO_f (dfP d) (dfP d) 0 with
  | e0=>exact ⟨_,dqL_1 _ hp h⟩
  | e1=>exact ⟨_,dqL_2 _ hp h⟩
 have hAt:∃ (d:Df) (ok:Bool),(ok=true->d∈moF m)/\bulkPs (dfL d)<=2000000/\Pu 5 [.agg (moL m),.int .u8 (t:Int)] (.ret (.tup [.agg (dfL d),.bool ok])):=by
  by_cases h0:((moF m).length:Int)=0
  ·exact ⟨default,false,(fun h=>by cases h),by decide,at1_1 m t ht h0⟩
  ·have hd:(moF m).getD (Int.tmod (t:Int) ((moF m).length:Int)).toNat default∈moF m:=getD_mem (at_lt h0)
   exact ⟨_,true,fun _=>hd,hb _ hd,at1_2 m t ht h0⟩
 obtain ⟨d,ok,hok,hbd,hat⟩:=hAt
 obtain ⟨db,hds⟩:=hD d hbd
 have hLg:∃lgz,Pu 6 [.agg (moL m)] (.ret (.bool lgz)):=by
  by_cases h9:((moF m).length:Int)>9
  ·exact ⟨_,liL_1 m hR hS h9⟩
  cases hf:liA_f (moF m) with
  | e0=>exact ⟨_,liL_2 m hR hS h9 hf⟩
  | e1=>exact ⟨_,liL_3 m hR hS h9 hf⟩
 obtain ⟨lgz,hlg⟩:=hLg
 cases lgz with
 | false=>exact plG_1 m t d ok false db ia ip hat hlg hds haw rfl
 | true=>
 cases ok with
 | false=>exact plG_2 m t d false true db ia ip hat hlg hds haw rfl rfl
 | true=>
 by_cases hip:(ip.length:Int)>20
 ·exact plG_3 m t d true true db ia ip hat hlg hds haw rfl rfl hip
 by_cases hia:(ia.length:Int)>8
 ·exact plG_4 m t d true true db ia ip hat hlg hds haw rfl rfl hip hia
 cases db with
 | false=>exact plG_5 m t d true true false ia ip hat hlg hds haw rfl rfl hip hia rfl
 | true=>
 have hca:=caT m d oM oM
 by_cases h6:(caF m d).2.2=0
 case neg=>
  have hn:=ca_nil h6
  exact plX_6 m t d true true true ia ip hat hlg hds _ _ _ hca h6 haw (by rw [hn.1]; rfl) (by rw [hn.2]; rfl) rfl rfl hip hia rfl
 obtain ⟨hf,hp,e1,e2,hpc⟩:=ca_zero h6
 rw [h6,e1,e2] at hca
 have hdl:=df_le d
 have hg:=pkD_G m 1000000001 (dfB d) (bgF d) oM (frF_ok hf) (bgF_S d)
 have hpl:(dfP d).length<=1000000000:=by have:=nms_bulk (dfP d); omega
 have htl:=df_tl d
 have hvs:=Ob.pur_unown (vsL d ia oM oM hpl)
 have hpt:(vsV_f d ia (dfP d) 0 []).length<=1000000000:=Nat.le_trans (vs_len d ia (dfP d) 0 []) (by simpa using hpl)
 generalize vsV_f d ia (dfP d) 0 []=pt at hvs hpt
 have hV:=vl_Val pt ip
 have hone:=pk_one hV m 1000000001 (dfB d) (bgF d) (frF_ok hf) (frF_ri hf) (bgF_z d) hp
 have hho:∀w:Pr,w∈(pkD m 1000000001 (dfB d) (bgF d)).1.map paC->Pu 14 [.agg (prL w),.sl 2 (Ce.cs pt),.sl 3 (Fc.cs ip)] (.ret (.tup [.bool (hoF pt ip w).1,.bool (hoF pt ip w).2])):=fun w hw=>by
  obtain ⟨p,hp,rfl⟩:=List.mem_map.1 hw
  exact hoT pt ip hpt oM (fun x hx=>by have:=fc_bulk hx; omega) _ (hg.2 p hp).1 (hpc p hp) (hone.2 p hp).1
 have hN:((pkD m 1000000001 (dfB d) (bgF d)).1.map paC).length<=1000000000:=by rw [List.length_map]; exact Nat.le_trans hg.1.1 dD
 cases hpa:plA_f (hoF pt ip) ((pkD m 1000000001 (dfB d) (bgF d)).1.map paC) 0 with
 | e0 c=>exact plL_1 m t d ia ip hat hlg hip hia hds _ _ hca pt hvs (hoF pt ip) hho haw hN c hpa
 | e1 c=>
  have h1:=pl_cnt (hoF_1 pt ip) (hoF_2 pt ip) _ _ _ hpa
  have h2:=hone.1 h1.1
  exact plL_2 m t d ia ip hat hlg hip hia hds _ _ hca pt hvs (hoF pt ip) hho haw hN c hpa (by rw [h1.2,h2]; rfl) sM
end Go.Proofs.YtidabncghfbdaaaGreatDoor
