/- Values of Go as plain data, an evaluator over them, and what the functions of the program return; part g. -/
import Derived.Test.YtgonmmckkikmaaaGreatXf
set_option linter.unusedSectionVars false
set_option linter.unusedSimpArgs false
set_option linter.unusedVariables false
namespace Go.Proofs.YtgonmmckkikmaaaGreat
open Go.Pv Tryz
set_option maxRecDepth 100000
def bnds:List BA->List Vl->List Bd->List Bd
 | p::ps,v::vs,acc=>bnds ps vs (.mk p v::acc)
 | _,_,acc=>acc
abbrev callI(p0:PV)(db:List LV)(ps:List BA)(args:List Vl)(p:PV)(i:Int)(ext:Ext):S:=⟨[(0,.v p0),(4,.lp 4 0),(6,.lp 6 0),(2,.v (.sl 7 (Vl.cs args))),(7,.v p),(28,.v (.sl 1 (nmsC ps))),(29,.v (.int .i64 ps.length)),(30,.v (.int .i64 i))],[(4,db),(6,List.replicate 7 jk)],ext⟩
section
variable (p0:PV) (db:List LV) (ps:List BA) (args:List Vl)
include p0 db ps args
theorem callB0(i:Nat)(ext:Ext)(hi:i<ps.length)(ha:i<args.length)(hn:ps.length<=1000000000)(cx:Cx)(hcx:cx.n=48){Q:PExit->S->Prop}(hq:Q (.normal) (S.mk [(0,.v p0),(4,.lp 4 0),(6,.lp 6 0),(2,vL 7 (Vl.cs args)),(7,.v (.ro [.str (List.getD ps i nm0),pI (vlO (List.getD args i default)),pI (vlN (List.getD args i default)),.str (vlNm (List.getD args i default)),.sl 7 (Vl.cs (vlK (List.getD args i default))),.sl 1 (nmsC (vlP (List.getD args i default))),.sl 7 (Ex.cs (vlB (List.getD args i default))),.sl 8 (Bd.cs (vlBd (List.getD args i default))),.nilp] 0)),(28,vL 1 (nmsC ps)),(29,vI6 (ps.length:Int)),(30,vI6 ((i:Int)+1))] [(4,db),(6,[jk,jk,jk,jk,jk,jk,jk])] ext)):PW prog cx (loopF f53 0) (callI p0 db ps args (scP []) (i:Int) ext) Q:=
 pw mdE 48 [dt ((i:Int)<(ps.length:Int)),am ((0:Int)<=(i:Int)/\(i:Int)<((nmsC ps).length:Int)) qZ,xNm ps i hi,am ((0:Int)<=(i:Int)/\(i:Int)<((Vl.cs args).length:Int)) qZ,xVl args i ha,wr ((i:Int)+1)] [0,4,6,2,7,28,29,30] [4,6] hcx hq
theorem callB1(x:Bd)(r:List Bd)(i:Nat)(ext:Ext)(hi:i<ps.length)(ha:i<args.length)(hn:ps.length<=1000000000)(cx:Cx)(hcx:cx.n=48){Q:PExit->S->Prop}(hq:Q (.normal) (S.mk [(0,.v p0),(4,.lp 4 0),(6,.lp 6 0),(2,vL 7 (Vl.cs args)),(7,.v (.ro [.str (List.getD ps i nm0),pI (vlO (List.getD args i default)),pI (vlN (List.getD args i default)),.str (vlNm (List.getD args i default)),.sl 7 (Vl.cs (vlK (List.getD args i default))),.sl 1 (nmsC (vlP (List.getD args i default))),.sl 7 (Ex.cs (vlB (List.getD args i default))),.sl 8 (Bd.cs (vlBd (List.getD args i default))),.ro [.str (bdNm x),pI (vlO (bdV x)),pI (vlN (bdV x)),.str (vlNm (bdV x)),.sl 7 (Vl.cs (vlK (bdV x))),.sl 1 (nmsC (vlP (bdV x))),.sl 7 (Ex.cs (vlB (bdV x))),.sl 8 (Bd.cs (vlBd (bdV x))),scP r] 0] 0)),(28,vL 1 (nmsC ps)),(29,vI6 (ps.length:Int)),(30,vI6 ((i:Int)+1))] [(4,db),(6,[jk,jk,jk,jk,jk,jk,jk])] ext)):PW prog cx (loopF f53 0) (callI p0 db ps args (scP (x::r)) (i:Int) ext) Q:=
 pw mdE 48 [dt ((i:Int)<(ps.length:Int)),am ((0:Int)<=(i:Int)/\(i:Int)<((nmsC ps).length:Int)) qZ,xNm ps i hi,am ((0:Int)<=(i:Int)/\(i:Int)<((Vl.cs args).length:Int)) qZ,xVl args i ha,wr ((i:Int)+1)] [0,4,6,2,7,28,29,30] [4,6] hcx hq
theorem callE(p:PV)(ext:Ext)(cx:Cx)(hcx:cx.n=48){Q:PExit->S->Prop}(hq:Q (.exit 0) (S.mk [(0,.v p0),(4,.lp 4 0),(6,.lp 6 0),(2,vL 7 (Vl.cs args)),(7,.v p),(28,vL 1 (nmsC ps)),(29,vI6 (ps.length:Int)),(30,vI6 (ps.length:Int))] [(4,db),(6,[jk,jk,jk,jk,jk,jk,jk])] ext)):PW prog cx (loopF f53 0) (callI p0 db ps args p (ps.length:Int) ext) Q:=
 pw mdE 48 [df ((ps.length:Int)<(ps.length:Int))] [0,4,6,2,7,28,29,30] [4,6] hcx hq
end
theorem bnds_snoc:∀ (ps:List BA) (vs:List Vl) (p:BA) (v:Vl) (acc:List Bd),ps.length=vs.length->bnds (ps++[p]) (vs++[v]) acc = .mk p v::bnds ps vs acc
 | [],[],_,_,_,_=>rfl
 | a::ps,b::vs,p,v,acc,h=>by simpa [bnds] using bnds_snoc ps vs p v (.mk a b::acc) (by simpa using h)
 | [],_::_,_,_,_,h=>by simp at h
 | _::_,[],_,_,_,h=>by simp at h
theorem take_at{α:Type}{d:α}{l:List α}{i:Nat}(h:i<l.length):l.take (i+1)=l.take i++[l.getD i d]:=by
 rw [List.take_add_one]
 simp [List.getD,h]
theorem bnds_take{ps:List BA}{vs:List Vl}(h:ps.length=vs.length){i:Nat}(hi:i<ps.length)(acc:List Bd):bnds (ps.take (i+1)) (vs.take (i+1)) acc = .mk (ps.getD i nm0) (vs.getD i default)::bnds (ps.take i) (vs.take i) acc:=by
 rw [take_at (d:=nm0) hi,take_at (d:=default) (h ▸ hi),bnds_snoc _ _ _ _ _ (by simp [h])]
theorem call_loop(p0:PV)(db:List LV)(ps:List BA)(args:List Vl)(ext:Ext)(h:ps.length=args.length)(hn:ps.length<=1000000000):(Ob.loop 48 (loopF f53 0) (callI p0 db ps args .nilp 0 ext) (.exit 0) ⟨[(0,.v p0),(4,.lp 4 0),(6,.lp 6 0),(7,.v (scP (bnds ps args [])))],[(4,db),(6,List.replicate 7 jk)],ext⟩).ok prog:=by
 have:=Ob.loop_idx (P:=prog) (n:=48) (c:=loopF f53 0) ps.length (fun i=>callI p0 db ps args (scP (bnds (ps.take i) (args.take i) [])) i ext) (fun _=>(.exit 0,⟨[(0,.v p0),(4,.lp 4 0),(6,.lp 6 0),(7,.v (scP (bnds ps args [])))],[(4,db),(6,List.replicate 7 jk)],ext⟩)) ?_ ?_ 0 sM
 ·exact this
 ·intro i hlt cx hcx
  have hb:=bnds_take h hlt []
  have ha:i<args.length:=h ▸ hlt
  simp only [hb]
  cases hacc:bnds (ps.take i) (args.take i) [] with
  | nil=>exact callB0 p0 db ps args i ext hlt ha hn cx hcx (.inl ⟨rfl,⟨⟨W,W,W,W,W,W,W,W,tV⟩,⟨WLs.refl _,WLs.refl _,tV⟩,rfl⟩,tV⟩)
  | cons x r=>exact callB1 p0 db ps args x r i ext hlt ha hn cx hcx (.inl ⟨rfl,⟨⟨W,W,W,W,W,W,W,W,tV⟩,⟨WLs.refl _,WLs.refl _,tV⟩,rfl⟩,tV⟩)
 ·intro cx hcx
  have e1:bnds (ps.take ps.length) (args.take ps.length) []=bnds ps args []:=by rw [List.take_length,h,List.take_length]
  simp only [e1]
  exact callE p0 db ps args _ ext cx hcx ⟨by simp,rfl,⟨W,W,W,W,tV⟩,⟨WLs.refl _,WLs.refl _,tV⟩,rfl⟩
abbrev fOk(cK:C5)(l:List Df)(fu:Int)(f:Nat)(args:List PV)(st:Int)(wh:BA)(v:Vl)(st':Int):Prop:=Ef f args (EE cK l fu st wh) (.ret (.agg (vlL v))) (EE cK l fu st' wh)
abbrev fEr(cK:C5)(l:List Df)(fu:Int)(f:Nat)(args:List PV)(st:Int)(wh:BA)(k st':Int)(wh':BA):Prop:=Ef f args (EE cK l fu st wh) (.panic (stopP k)) (EE cK l fu st' wh')
section
variable (cK:C5) (l:List Df) (fu st:Int) (wh:BA) (d:Df)
include cK l fu st wh d
theorem eConstA(hm:dfM d=1):Ef 47 [.xp 1 0,.agg (dfL d)] (EE cK l fu st wh) (.panic (stopP 26)) (EE cK l fu st wh):=
 ef mdE [et (dfM d) 1 hm,cl (@eFail (26))] func47
theorem eConstT(hm:¬dfM d=1)(v:Vl)(st':Int)(hv:fOk cK l fu 79 [.xp 1 0,.agg (dfL d),.nilp] st wh v st'):Ef 47 [.xp 1 0,.agg (dfL d)] (EE cK l fu st wh) (rA (vlL v)) (EE cK l fu st' wh):=
 ef mdE [en (dfM d) 1 hm,ce hv] func47
theorem eConstE(hm:¬dfM d=1)(k st':Int)(wh':BA)(hv:fEr cK l fu 79 [.xp 1 0,.agg (dfL d),.nilp] st wh k st' wh'):Ef 47 [.xp 1 0,.agg (dfL d)] (EE cK l fu st wh) (.panic (stopP k)) (EE cK l fu st' wh'):=
 ef mdE [en (dfM d) 1 hm,ce hv] func47
theorem eCallA(args:List Vl)(hm:dfM d=1):Ef 53 [.xp 1 0,.agg (dfL d),.sl 7 (Vl.cs args)] (EE cK l fu st wh) (.panic (stopP 26)) (EE cK l fu st wh):=
 ef mdE [et (dfM d) 1 hm,cl (@eFail (26))] func53
theorem eCallN(args:List Vl)(hm:¬dfM d=1)(hp:¬((dfP d).length:Int)>0):Ef 53 [.xp 1 0,.agg (dfL d),.sl 7 (Vl.cs args)] (EE cK l fu st wh) (.panic (stopP 19)) (EE cK l fu st wh):=
 ef mdE [en (dfM d) 1 hm,sl (nmsC_len (dfP d)),rp 7 (df (((dfP d).length:Int)>0) hp),cl (@eNeed_1 (false) rF)] func53
theorem eCallM(args:List Vl)(hm:¬dfM d=1)(hp:((dfP d).length:Int)>0)(hq:¬((dfP d).length:Int)=args.length):Ef 53 [.xp 1 0,.agg (dfL d),.sl 7 (Vl.cs args)] (EE cK l fu st wh) (.panic (stopP 19)) (EE cK l fu st wh):=
 ef mdE [en (dfM d) 1 hm,sl (nmsC_len (dfP d)),rp 3 (dt (((dfP d).length:Int)>0) hp),sl (nmsC_len (dfP d)),rp 2 (dt (((dfP d).length:Int)>0) hp),sl (Vl.cs_len args),rp 2 (dt (((dfP d).length:Int)>0) hp),cl (@eNeed_1 (((dfP d).length:Int)==(args.length:Int)) (by simp_all [List.length_map,Ex.cs_len,Vl.cs_len,Al.cs_len,Bd.cs_len,nmsC_len,pmsC_len,Tp.cs_len,dfsC_len,Int.toNat_natCast]))] func53
theorem eCallT(args:List Vl)(hm:¬dfM d=1)(hp:((dfP d).length:Int)>0)(hq:((dfP d).length:Int)=args.length)(hn:(dfP d).length<=1000000000)(v:Vl)(st':Int)(hv:fOk cK l fu 79 [.xp 1 0,.agg (dfL d),scP (bnds (dfP d) args [])] st wh v st'):Ef 53 [.xp 1 0,.agg (dfL d),.sl 7 (Vl.cs args)] (EE cK l fu st wh) (rA (vlL v)) (EE cK l fu st' wh):=
 ef mdE [en (dfM d) 1 hm,sl (nmsC_len (dfP d)),rp 3 (dt (((dfP d).length:Int)>0) hp),sl (nmsC_len (dfP d)),rp 2 (dt (((dfP d).length:Int)>0) hp),sl (Vl.cs_len args),rp 2 (dt (((dfP d).length:Int)>0) hp),cl (@eNeed_2 (((dfP d).length:Int)==(args.length:Int)) (by simp_all [List.length_map,Ex.cs_len,Vl.cs_len,Al.cs_len,Bd.cs_len,nmsC_len,pmsC_len,Tp.cs_len,dfsC_len,Int.toNat_natCast])),sl (nmsC_len (dfP d)),lp (S.mk [(0,.v (.xp 1 0)),(1,.v (.agg (dfL d))),(2,vL 7 (Vl.cs args)),(4,.lp 4 0),(6,.lp 6 0),(10,.lp 4 9),(11,vI6 (dfM d)),(12,.v (.bool (dfM d==1))),(14,.lp 4 1),(15,vL 1 (nmsC (dfP d))),(16,vI6 ((dfP d).length:Int)),(17,.v (.bool (decide (((dfP d).length:Int)>0)))),(18,.v (.bool (decide (((dfP d).length:Int)>0)))),(19,.lp 4 1),(20,vL 1 (nmsC (dfP d))),(21,vI6 ((dfP d).length:Int)),(22,vL 7 (Vl.cs args)),(23,vI6 (args.length:Int)),(24,.v (.bool (((dfP d).length:Int)==(args.length:Int)))),(25,.v (.bool (((dfP d).length:Int)==(args.length:Int)))),(26,.v (.tup [])),(7,.v .nilp),(27,.lp 4 1),(28,vL 1 (nmsC (dfP d))),(29,vI6 ((dfP d).length:Int)),(30,vI6 0)] [(4,dfV d),(6,vZ)] (EE cK l fu st wh)) (@call_loop (.xp 1 0) (dfV d) (dfP d) (args) (EE cK l fu st wh) oM hn) ⟨⟨W,W,W,W,W,W,W,W,tV⟩,⟨⟨W,W,W,W,W,W,W,W,W,W,W,W,W,W,W,W,W,W,W,W,W,W,W,W,W,tV⟩,⟨Wq,Wq,Wq,Wq,Wq,Wq,Wq,tV⟩,tV⟩,rfl⟩,ce hv] func53
theorem eCallE(args:List Vl)(hm:¬dfM d=1)(hp:((dfP d).length:Int)>0)(hq:((dfP d).length:Int)=args.length)(hn:(dfP d).length<=1000000000)(k st':Int)(wh':BA)(hv:fEr cK l fu 79 [.xp 1 0,.agg (dfL d),scP (bnds (dfP d) args [])] st wh k st' wh'):Ef 53 [.xp 1 0,.agg (dfL d),.sl 7 (Vl.cs args)] (EE cK l fu st wh) (.panic (stopP k)) (EE cK l fu st' wh'):=
 ef mdE [en (dfM d) 1 hm,sl (nmsC_len (dfP d)),rp 3 (dt (((dfP d).length:Int)>0) hp),sl (nmsC_len (dfP d)),rp 2 (dt (((dfP d).length:Int)>0) hp),sl (Vl.cs_len args),rp 2 (dt (((dfP d).length:Int)>0) hp),cl (@eNeed_2 (((dfP d).length:Int)==(args.length:Int)) (by simp_all [List.length_map,Ex.cs_len,Vl.cs_len,Al.cs_len,Bd.cs_len,nmsC_len,pmsC_len,Tp.cs_len,dfsC_len,Int.toNat_natCast])),sl (nmsC_len (dfP d)),lp (S.mk [(0,.v (.xp 1 0)),(1,.v (.agg (dfL d))),(2,vL 7 (Vl.cs args)),(4,.lp 4 0),(6,.lp 6 0),(10,.lp 4 9),(11,vI6 (dfM d)),(12,.v (.bool (dfM d==1))),(14,.lp 4 1),(15,vL 1 (nmsC (dfP d))),(16,vI6 ((dfP d).length:Int)),(17,.v (.bool (decide (((dfP d).length:Int)>0)))),(18,.v (.bool (decide (((dfP d).length:Int)>0)))),(19,.lp 4 1),(20,vL 1 (nmsC (dfP d))),(21,vI6 ((dfP d).length:Int)),(22,vL 7 (Vl.cs args)),(23,vI6 (args.length:Int)),(24,.v (.bool (((dfP d).length:Int)==(args.length:Int)))),(25,.v (.bool (((dfP d).length:Int)==(args.length:Int)))),(26,.v (.tup [])),(7,.v .nilp),(27,.lp 4 1),(28,vL 1 (nmsC (dfP d))),(29,vI6 ((dfP d).length:Int)),(30,vI6 0)] [(4,dfV d),(6,vZ)] (EE cK l fu st wh)) (@call_loop (.xp 1 0) (dfV d) (dfP d) (args) (EE cK l fu st wh) oM hn) ⟨⟨W,W,W,W,W,W,W,W,tV⟩,⟨⟨W,W,W,W,W,W,W,W,W,W,W,W,W,W,W,W,W,W,W,W,W,W,W,W,W,tV⟩,⟨Wq,Wq,Wq,Wq,Wq,Wq,Wq,tV⟩,tV⟩,rfl⟩,ce hv] func53
end
inductive Oc where
 | ok (vs:List Vl) (st:Int)
 | er (k st:Int) (wh:BA)
def Oc.st:Oc->Int
 | .ok _ s=>s
 | .er _ s _=>s
inductive Tk where
 | ex (env:List Bd) (x:Ex)
 | li (env:List Bd) (xs:List Ex)
 | app (f:Vl) (args:List Vl)
 | call (d:Df) (args:List Vl)
 | con (d:Df)
 | run (d:Df) (env:List Bd)
abbrev vI(n:Int):Vl := .mk 1 n nm0 [] [] [] []
abbrev vB(b:Bool):Vl := .mk 2 (eTruth_r0 b) nm0 [] [] [] []
abbrev vD(name:BA)(l:List Vl):Vl := .mk 3 0 name l [] [] []
abbrev vF(name:BA):Vl := .mk 5 0 name [] [] [] []
abbrev vX(op n:Int):Vl := .mk op n nm0 [] [] [] []
def lamB(env:List Bd):List BA->List Bd
 | []=>[]
 | n::r=>match findB n env with
  | some v => .mk n v::lamB env r
  | none=>lamB env r
abbrev lamV(fr:Ex->List BA)(env:List Bd)(x:Ex):Vl := .mk 5 0 nm0 [] ((exP x).map pmNm) [(exK x).getD 0 default] (lamB env (fr x))
def findA(name:BA):List Al->Option Al
 | []=>none
 | a::r=>if alC a=name then some a else findA name r
abbrev rt(x:Ex):Prop:=eRight_r0 (exO x) (exK x)=true
def isOne(op:Int):Prop:=op=15∨op=21∨op=22∨op=23
def isTwo(op:Int):Prop:=op=10∨op=11∨op=12∨op=13∨op=14∨op=16∨op=17∨op=18∨op=24
instance (op:Int):Decidable (isOne op):=by unfold isOne; infer_instance
instance (op:Int):Decidable (isTwo op):=by unfold isTwo; infer_instance
structure Sem where
 fr:Ex->List BA
 o1:Int->Vl->Except Int Vl
 o2:Int->Vl->Vl->Except Int Vl
 u1:∀op a,o1 op a ≠ .error 24
 u2:∀op a b,o2 op a b ≠ .error 24
def exc(r:Except Int Vl)(st:Int)(wh:BA):Oc:=match r with
 | .ok v => .ok [v] st
 | .error k => .er k st wh
def Sem.one(m:Sem)(op:Int)(a:Vl)(st:Int)(wh:BA):Oc:=exc (m.o1 op a) st wh
def Sem.two(m:Sem)(op:Int)(a b:Vl)(st:Int)(wh:BA):Oc:=exc (m.o2 op a b) st wh
inductive Ev (m:Sem) (l:List Df) (fu:Int):Tk->Int->BA->Oc->Prop
 | runF {d env st wh}(h:fu<=st):Ev m l fu (.run d env) st wh (.er 24 st wh)
 | runG {d env st wh o}(h:st<fu) (g:Ev m l fu (.ex env (dfB d)) (st+1) (dfNm d) o):Ev m l fu (.run d env) st wh o
 | callA {d args st wh}(h:dfM d=1):Ev m l fu (.call d args) st wh (.er 26 st wh)
 | callN {d}{args:List Vl}{st wh}(h:¬dfM d=1) (h1:¬(0<(dfP d).length/\(dfP d).length=args.length)):Ev m l fu (.call d args) st wh (.er 19 st wh)
 | callG {d}{args:List Vl}{st wh o}(h:¬dfM d=1) (h1:0<(dfP d).length) (h2:(dfP d).length=args.length) (g:Ev m l fu (.run d (bnds (dfP d) args [])) st wh o):Ev m l fu (.call d args) st wh o
 | conA {d st wh}(h:dfM d=1):Ev m l fu (.con d) st wh (.er 26 st wh)
 | conG {d st wh o}(h:¬dfM d=1) (g:Ev m l fu (.run d []) st wh o):Ev m l fu (.con d) st wh o
 | appO {f args st wh}(h:¬vlO f=5):Ev m l fu (.app f args) st wh (.er 19 st wh)
 | appU {f args st wh}(h:vlO f=5) (h1:¬vlNm f=nm0) (h2:findD (vlNm f) l=none):Ev m l fu (.app f args) st wh (.er 19 st wh)
 | appN {f args st wh d o}(h:vlO f=5) (h1:¬vlNm f=nm0) (h2:findD (vlNm f) l=some d) (g:Ev m l fu (.call d args) st wh o):Ev m l fu (.app f args) st wh o
 | appL {f}{args:List Vl}{st wh}(h:vlO f=5) (h1:vlNm f=nm0) (h2:¬((vlB f).length=1/\(vlP f).length=args.length)):Ev m l fu (.app f args) st wh (.er 19 st wh)
 | appF {f}{args:List Vl}{st wh}(h:vlO f=5) (h1:vlNm f=nm0) (h2:(vlB f).length=1) (h3:(vlP f).length=args.length) (h4:fu<=st):Ev m l fu (.app f args) st wh (.er 24 st wh)
 | appG {f}{args:List Vl}{st wh o}(h:vlO f=5) (h1:vlNm f=nm0) (h2:(vlB f).length=1) (h3:(vlP f).length=args.length) (h4:st<fu) (g:Ev m l fu (.ex (bnds (vlP f) args (vlBd f).reverse) ((vlB f).getD 0 default)) (st+1) wh o):Ev m l fu (.app f args) st wh o
 | liN {env st wh}:Ev m l fu (.li env []) st wh (.ok [] st)
 | liE {env x xs st wh k st1 wh1}(g:Ev m l fu (.ex env x) st wh (.er k st1 wh1)):Ev m l fu (.li env (x::xs)) st wh (.er k st1 wh1)
 | liR {env x xs st wh v st1 k st2 wh2}(g:Ev m l fu (.ex env x) st wh (.ok [v] st1)) (g2:Ev m l fu (.li env xs) st1 wh (.er k st2 wh2)):Ev m l fu (.li env (x::xs)) st wh (.er k st2 wh2)
 | liC {env x xs st wh v st1 st2 vs}(g:Ev m l fu (.ex env x) st wh (.ok [v] st1)) (g2:Ev m l fu (.li env xs) st1 wh (.ok vs st2)):Ev m l fu (.li env (x::xs)) st wh (.ok (v::vs) st2)
 | exR {env x st wh}(h:eRight_r0 (exO x) (exK x)=false):Ev m l fu (.ex env x) st wh (.er 19 st wh)
 | exIo {env x st wh}(h:rt x) (h1:exO x=1) (h2:nIn_r0 (exN x)=true):Ev m l fu (.ex env x) st wh (.ok [vI (exN x)] st)
 | exIe {env x st wh}(h:rt x) (h1:exO x=1) (h2:nIn_r0 (exN x)=false):Ev m l fu (.ex env x) st wh (.er 25 st wh)
 | exB {env x st wh}(h:rt x) (h1:exO x=2):Ev m l fu (.ex env x) st wh (.ok [vB (exN x != 0)] st)
 | exVb {env x st wh v}(h:rt x) (h1:exO x=3) (h2:findB (exNm x) env=some v):Ev m l fu (.ex env x) st wh (.ok [v] st)
 | exVu {env x st wh}(h:rt x) (h1:exO x=3) (h2:findB (exNm x) env=none) (h3:findD (exNm x) l=none):Ev m l fu (.ex env x) st wh (.er 19 st wh)
 | exVf {env x st wh d}(h:rt x) (h1:exO x=3) (h2:findB (exNm x) env=none) (h3:findD (exNm x) l=some d) (h4:0<(dfP d).length):Ev m l fu (.ex env x) st wh (.ok [vF (dfNm d)] st)
 | exVc {env x st wh d o}(h:rt x) (h1:exO x=3) (h2:findB (exNm x) env=none) (h3:findD (exNm x) l=some d) (h4:¬0<(dfP d).length) (g:Ev m l fu (.con d) st wh o):Ev m l fu (.ex env x) st wh o
 | exCe {env x st wh k st1 wh1}(h:rt x) (h1:exO x=4) (g:Ev m l fu (.li env (exK x)) st wh (.er k st1 wh1)):Ev m l fu (.ex env x) st wh (.er k st1 wh1)
 | exCo {env x st wh vs st1}(h:rt x) (h1:exO x=4) (g:Ev m l fu (.li env (exK x)) st wh (.ok vs st1)):Ev m l fu (.ex env x) st wh (.ok [vD (exNm x) vs] st1)
 | exKe {env x st wh k st1 wh1}(h:rt x) (h1:exO x=5) (g:Ev m l fu (.li env (exK x)) st wh (.er k st1 wh1)):Ev m l fu (.ex env x) st wh (.er k st1 wh1)
 | exKa {env x st wh vs st1 f o}(h:rt x) (h1:exO x=5) (g:Ev m l fu (.li env (exK x)) st wh (.ok vs st1)) (h2:findB (exNm x) env=some f) (g2:Ev m l fu (.app f vs) st1 wh o):Ev m l fu (.ex env x) st wh o
 | exKu {env x st wh vs st1}(h:rt x) (h1:exO x=5) (g:Ev m l fu (.li env (exK x)) st wh (.ok vs st1)) (h2:findB (exNm x) env=none) (h3:findD (exNm x) l=none):Ev m l fu (.ex env x) st wh (.er 19 st1 wh)
 | exKc {env x st wh vs st1 d o}(h:rt x) (h1:exO x=5) (g:Ev m l fu (.li env (exK x)) st wh (.ok vs st1)) (h2:findB (exNm x) env=none) (h3:findD (exNm x) l=some d) (g2:Ev m l fu (.call d vs) st1 wh o):Ev m l fu (.ex env x) st wh o
 | exL {env x st wh}(h:rt x) (h1:exO x=6):Ev m l fu (.ex env x) st wh (.ok [lamV m.fr env x] st)
 | exTe {env x st wh k st1 wh1}(h:rt x) (h1:exO x=7) (g:Ev m l fu (.ex env (kid x 0)) st wh (.er k st1 wh1)):Ev m l fu (.ex env x) st wh (.er k st1 wh1)
 | exTo {env x st wh v st1 o}(h:rt x) (h1:exO x=7) (g:Ev m l fu (.ex env (kid x 0)) st wh (.ok [v] st1)) (g2:Ev m l fu (.ex (.mk (exNm x) v::env) (kid x 1)) st1 wh o):Ev m l fu (.ex env x) st wh o
 | exFe {env x st wh k st1 wh1}(h:rt x) (h1:exO x=8) (g:Ev m l fu (.ex env (kid x 0)) st wh (.er k st1 wh1)):Ev m l fu (.ex env x) st wh (.er k st1 wh1)
 | exFs {env x st wh v st1}(h:rt x) (h1:exO x=8) (g:Ev m l fu (.ex env (kid x 0)) st wh (.ok [v] st1)) (h2:¬vlO v=2):Ev m l fu (.ex env x) st wh (.er 19 st1 wh)
 | exFt {env x st wh v st1 o}(h:rt x) (h1:exO x=8) (g:Ev m l fu (.ex env (kid x 0)) st wh (.ok [v] st1)) (h2:vlO v=2) (h3:¬vlN v=0) (g2:Ev m l fu (.ex env (kid x 1)) st1 wh o):Ev m l fu (.ex env x) st wh o
 | exFf {env x st wh v st1 o}(h:rt x) (h1:exO x=8) (g:Ev m l fu (.ex env (kid x 0)) st wh (.ok [v] st1)) (h2:vlO v=2) (h3:vlN v=0) (g2:Ev m l fu (.ex env (kid x 2)) st1 wh o):Ev m l fu (.ex env x) st wh o
 | exMe {env x st wh k st1 wh1}(h:rt x) (h1:exO x=9) (g:Ev m l fu (.ex env (kid x 0)) st wh (.er k st1 wh1)):Ev m l fu (.ex env x) st wh (.er k st1 wh1)
 | exMs {env x st wh v st1}(h:rt x) (h1:exO x=9) (g:Ev m l fu (.ex env (kid x 0)) st wh (.ok [v] st1)) (h2:¬vlO v=3):Ev m l fu (.ex env x) st wh (.er 19 st1 wh)
 | exMn {env x st wh v st1}(h:rt x) (h1:exO x=9) (g:Ev m l fu (.ex env (kid x 0)) st wh (.ok [v] st1)) (h2:vlO v=3) (h3:findA (vlNm v) (exA x)=none):Ev m l fu (.ex env x) st wh (.er 23 st1 wh)
 | exMl {env x st wh v st1 a}(h:rt x) (h1:exO x=9) (g:Ev m l fu (.ex env (kid x 0)) st wh (.ok [v] st1)) (h2:vlO v=3) (h3:findA (vlNm v) (exA x)=some a) (h4:¬(alNs a).length=(vlK v).length):Ev m l fu (.ex env x) st wh (.er 19 st1 wh)
 | exMo {env x st wh v st1 a o}(h:rt x) (h1:exO x=9) (g:Ev m l fu (.ex env (kid x 0)) st wh (.ok [v] st1)) (h2:vlO v=3) (h3:findA (vlNm v) (exA x)=some a) (h4:(alNs a).length=(vlK v).length) (g2:Ev m l fu (.ex (bnds (alNs a) (vlK v) env) (alB a)) st1 wh o):Ev m l fu (.ex env x) st wh o
 | exAe {env x st wh k st1 wh1}(h:rt x) (h1:exO x=19∨exO x=20) (g:Ev m l fu (.ex env (kid x 0)) st wh (.er k st1 wh1)):Ev m l fu (.ex env x) st wh (.er k st1 wh1)
 | exAs {env x st wh v st1}(h:rt x) (h1:exO x=19∨exO x=20) (g:Ev m l fu (.ex env (kid x 0)) st wh (.ok [v] st1)) (h2:¬vlO v=2):Ev m l fu (.ex env x) st wh (.er 19 st1 wh)
 | exAq {env x st wh v st1}(h:rt x) (h1:exO x=19∨exO x=20) (g:Ev m l fu (.ex env (kid x 0)) st wh (.ok [v] st1)) (h2:vlO v=2) (h3:(vlN v != 0)=(exO x==20)):Ev m l fu (.ex env x) st wh (.ok [vB (vlN v != 0)] st1)
 | exAr {env x st wh v st1 k st2 wh2}(h:rt x) (h1:exO x=19∨exO x=20) (g:Ev m l fu (.ex env (kid x 0)) st wh (.ok [v] st1)) (h2:vlO v=2) (h3:¬(vlN v != 0)=(exO x==20)) (g2:Ev m l fu (.ex env (kid x 1)) st1 wh (.er k st2 wh2)):Ev m l fu (.ex env x) st wh (.er k st2 wh2)
 | exAt {env x st wh v st1 u st2}(h:rt x) (h1:exO x=19∨exO x=20) (g:Ev m l fu (.ex env (kid x 0)) st wh (.ok [v] st1)) (h2:vlO v=2) (h3:¬(vlN v != 0)=(exO x==20)) (g2:Ev m l fu (.ex env (kid x 1)) st1 wh (.ok [u] st2)) (h4:¬vlO u=2):Ev m l fu (.ex env x) st wh (.er 19 st2 wh)
 | exAo {env x st wh v st1 u st2}(h:rt x) (h1:exO x=19∨exO x=20) (g:Ev m l fu (.ex env (kid x 0)) st wh (.ok [v] st1)) (h2:vlO v=2) (h3:¬(vlN v != 0)=(exO x==20)) (g2:Ev m l fu (.ex env (kid x 1)) st1 wh (.ok [u] st2)) (h4:vlO u=2):Ev m l fu (.ex env x) st wh (.ok [vB (vlN u != 0)] st2)
 | exU {env x st wh o}(h:rt x) (h1:exO x=25∨exO x=26) (g:Ev m l fu (.ex env (kid x ((exK x).length - 1))) st wh o):Ev m l fu (.ex env x) st wh o
 | exOe {env x st wh k st1 wh1}(h:rt x) (h1:isOne (exO x)) (g:Ev m l fu (.li env (exK x)) st wh (.er k st1 wh1)):Ev m l fu (.ex env x) st wh (.er k st1 wh1)
 | exOo {env x st wh v st1}(h:rt x) (h1:isOne (exO x)) (g:Ev m l fu (.li env (exK x)) st wh (.ok [v] st1)):Ev m l fu (.ex env x) st wh (m.one (exO x) v st1 wh)
 | exWe {env x st wh k st1 wh1}(h:rt x) (h1:isTwo (exO x)) (g:Ev m l fu (.li env (exK x)) st wh (.er k st1 wh1)):Ev m l fu (.ex env x) st wh (.er k st1 wh1)
 | exWo {env x st wh v u st1}(h:rt x) (h1:isTwo (exO x)) (g:Ev m l fu (.li env (exK x)) st wh (.ok [v,u] st1)):Ev m l fu (.ex env x) st wh (m.two (exO x) v u st1 wh)
theorem ok_st(vs:List Vl)(st:Int):(Oc.ok vs st).st=st:=rfl
theorem er_st(k st:Int)(wh:BA):(Oc.er k st wh).st=st:=rfl
theorem exc_st(r:Except Int Vl)(st:Int)(wh:BA):(exc r st wh).st=st:=by cases r <;> rfl
theorem one_st(m:Sem)(op:Int)(a:Vl)(st:Int)(wh:BA):(m.one op a st wh).st=st:=exc_st ..
theorem two_st(m:Sem)(op:Int)(a b:Vl)(st:Int)(wh:BA):(m.two op a b st wh).st=st:=exc_st ..
section
variable {m:Sem} {l:List Df} {fu:Int} {t:Tk} {st:Int} {wh:BA} {o:Oc}
theorem Ev.mono(h:Ev m l fu t st wh o):st<=o.st:=by
 induction h <;> (try simp only [ok_st,er_st,one_st,two_st] at *) <;> omega
end
section
variable {m:Sem} {l:List Df} {fu:Int} {t:Tk} {st:Int} {wh:BA} {o:Oc}
def Sh:Tk->Oc->Prop
 | _,.er _ _ _=>True
 | .li _ xs,.ok vs _=>vs.length=xs.length
 | _,.ok vs _=>vs.length=1
theorem exc_sh(r:Except Int Vl)(st:Int)(wh:BA)(env:List Bd)(x:Ex):Sh (.ex env x) (exc r st wh):=by cases r <;> simp [Sh,exc]
def Tk.nl:Tk->Prop
 | .li _ _=>False
 | _=>True
theorem Sh.tr{t t':Tk}{o:Oc}(h:Sh t o)(h1:t.nl)(h2:t'.nl):Sh t' o:=by
 cases o with
 | er k s w=>cases t' <;> trivial
 | ok vs s=>cases t <;> first | exact h1.elim | (cases t' <;> first | exact h2.elim | exact h)
theorem Ev.shape(h:Ev m l fu t st wh o):Sh t o:=by
 induction h with
 | liC g g2 ih ih2=>simp only [Sh,List.length_cons] at *; omega
 | exOo=>exact exc_sh ..
 | exWo=>exact exc_sh ..
 | runG _ _ ih=>exact ih.tr trivial trivial
 | callG _ _ _ _ ih=>exact ih.tr trivial trivial
 | conG _ _ ih=>exact ih.tr trivial trivial
 | appN _ _ _ _ ih=>exact ih.tr trivial trivial
 | appG _ _ _ _ _ _ ih=>exact ih.tr trivial trivial
 | exVc _ _ _ _ _ _ ih=>exact ih.tr trivial trivial
 | exKa _ _ _ _ _ _ ih=>exact ih.tr trivial trivial
 | exKc _ _ _ _ _ _ _ ih=>exact ih.tr trivial trivial
 | exTo _ _ _ _ _ ih=>exact ih.tr trivial trivial
 | exFt _ _ _ _ _ _ _ ih=>exact ih.tr trivial trivial
 | exFf _ _ _ _ _ _ _ ih=>exact ih.tr trivial trivial
 | exMo _ _ _ _ _ _ _ _ ih=>exact ih.tr trivial trivial
 | exU _ _ _ ih=>exact ih.tr trivial trivial
 | _=>simp [Sh]
theorem rt_len2{x:Ex}(h:rt x)(ho:exO x=7∨exO x=19∨exO x=20∨isTwo (exO x)):(exK x).length=2:=by
 unfold isTwo at ho
 have h':eRight_r0 (exO x) (exK x)=true:=h
 unfold eRight_r0 at h'
 rcases ho with ho | ho | ho | ho | ho | ho | ho | ho | ho | ho | ho | ho <;> rw [ho] at h' <;> simp at h' <;> omega
theorem rt_len1{x:Ex}(h:rt x)(ho:exO x=6∨exO x=9∨exO x=26∨isOne (exO x)):(exK x).length=1:=by
 unfold isOne at ho
 have h':eRight_r0 (exO x) (exK x)=true:=h
 unfold eRight_r0 at h'
 rcases ho with ho | ho | ho | ho | ho | ho | ho <;> rw [ho] at h' <;> simp at h' <;> omega
theorem rt_len3{x:Ex}(h:rt x)(ho:exO x=8):(exK x).length=3:=by
 have h':eRight_r0 (exO x) (exK x)=true:=h
 unfold eRight_r0 at h'
 rw [ho] at h'
 simp at h'
 omega
theorem rt_pos{x:Ex}(h:rt x)(ho:exO x=25∨exO x=26):0<(exK x).length:=by
 have h':eRight_r0 (exO x) (exK x)=true:=h
 unfold eRight_r0 at h'
 rcases ho with ho | ho <;> rw [ho] at h' <;> simp at h' <;> omega
theorem rt_kinds{x:Ex}(h:rt x):exO x=1∨exO x=2∨exO x=3∨exO x=4∨exO x=5∨exO x=6∨exO x=7∨exO x=8∨exO x=9∨(exO x=19∨exO x=20)∨(exO x=25∨exO x=26)∨isOne (exO x)∨isTwo (exO x):=by
 have h':eRight_r0 (exO x) (exK x)=true:=h
 unfold eRight_r0 at h'
 unfold isOne isTwo
 by_cases h1:exO x>=1
 ·by_cases h2:exO x<=26
  ·omega
  ·exfalso
   simp only [show ¬exO x=1 by omega,show ¬exO x=2 by omega,show ¬exO x=3 by omega,show ¬exO x=4 by omega,show ¬exO x=5 by omega,show ¬exO x=6 by omega,show ¬exO x=8 by omega,show ¬exO x=9 by omega,show ¬exO x=15 by omega,show ¬exO x=21 by omega,show ¬exO x=22 by omega,show ¬exO x=23 by omega,show ¬exO x=25 by omega,show ¬exO x=26 by omega,h1,h2,if_true,if_false] at h'
   cases h'
 ·exfalso
  simp only [show ¬exO x=1 by omega,show ¬exO x=2 by omega,show ¬exO x=3 by omega,show ¬exO x=4 by omega,show ¬exO x=5 by omega,show ¬exO x=6 by omega,show ¬exO x=8 by omega,show ¬exO x=9 by omega,show ¬exO x=15 by omega,show ¬exO x=21 by omega,show ¬exO x=22 by omega,show ¬exO x=23 by omega,show ¬exO x=25 by omega,show ¬exO x=26 by omega,h1,if_true,if_false] at h'
  cases h'
theorem kid_lt{x:Ex}{i:Nat}(h:i<(exK x).length):SizeOf.sizeOf (kid x i)<SizeOf.sizeOf x:=by
 have h1:kid x i∈exK x:=by simp [kid,List.getD,h]
 have h2:=List.sizeOf_lt_of_mem h1
 cases x with
 | mk op name n kids params alts types=>
  simp only [exK] at h2
  simp only [Ex.mk.sizeOf_spec]
  omega
theorem mem_lt{x y:Ex}(h:y∈exK x):SizeOf.sizeOf y<SizeOf.sizeOf x:=by
 have h2:=List.sizeOf_lt_of_mem h
 cases x with
 | mk op name n kids params alts types=>
  simp only [exK] at h2
  simp only [Ex.mk.sizeOf_spec]
  omega
theorem findA_mem{name:BA}:∀ {l:List Al} {a:Al},findA name l=some a->a∈l
 | [],_,h=>by cases h
 | b::r,a,h=>by
  simp only [findA] at h
  split at h
  ·injection h with h; subst h; exact List.mem_cons_self
  ·exact List.mem_cons_of_mem _ (findA_mem h)
theorem alt_lt{x:Ex}{a:Al}(h:a∈exA x):SizeOf.sizeOf (alB a)<SizeOf.sizeOf x:=by
 have h2:=List.sizeOf_lt_of_mem h
 cases x with
 | mk op name n kids params alts types=>
  cases a with
  | mk con names body=>
   simp only [exA] at h2
   simp only [alB,Ex.mk.sizeOf_spec]
   simp only [Al.mk.sizeOf_spec] at h2
   omega
theorem sh1{t:Tk}{vs:List Vl}{s:Int}(h:Sh t (.ok vs s))(hn:t.nl):∃v,vs=[v]:=by
 have:vs.length=1:=by cases t <;> first | exact hn.elim | exact h
 exact List.length_eq_one_iff.1 this
end
section
variable {m:Sem} {l:List Df} {fu:Int} {t:Tk} {st:Int} {wh:BA} {o:Oc}
end
abbrev liI(es:List Ex)(p:PV)(out:List Vl)(i:Int)(ext:Ext):S:=⟨[(1,.v p),(2,.v (.ro [.xp 1 0] 0)),(6,.uniq 52 7 (Vl.cs out)),(9,.v (.sl 7 (Ex.cs es))),(10,.v (.int .i64 es.length)),(11,.v (.int .i64 i))],[],ext⟩
section
variable (cK:C5) (l:List Df) (fu st:Int) (wh:BA) (es:List Ex) (s:List Bd) (out:List Vl) (i:Nat) (hi:i<es.length) (hn:es.length<=1000000000)
include cK l fu st wh es s out i hi hn
theorem liT(ho:out.length<=1000000000)(v:Vl)(st':Int)(hv:evOk cK l fu s (es.getD i default) st wh v st')(cx:Cx)(hcx:cx.n=27){Q:PExit->S->Prop}(hq:Q (.normal) (S.mk [(1,.v (scP s)),(2,.v (.ro [.xp 1 0] 0)),(6,.uniq 52 7 (Vl.cs out++[vlL v])),(9,vL 7 (Ex.cs es)),(10,vI6 (es.length:Int)),(11,vI6 ((i:Int)+1))] [] (EE cK l fu st' wh))):PW prog cx (loopF f107 0) (liI es (scP s) out (i:Int) (EE cK l fu st wh)) Q:=
 pw mdE 27 [dt ((i:Int)<(es.length:Int)),am ((0:Int)<=(i:Int)/\(i:Int)<((Ex.cs es).length:Int)) qZ,xEx es i hi,ce hv,am (List.length (Vl.cs out++(fun x=>Prod.snd x) (6+1,[vlL v])) * (127+1)<=140737488355328) qZ,wr ((i:Int)+1)] [1,2,6,9,10,11] [] hcx hq
theorem liF(k st':Int)(wh':BA)(hv:evEr cK l fu s (es.getD i default) st wh k st' wh')(cx:Cx)(hcx:cx.n=27){Q:PExit->S->Prop}(hq:Q (PExit.panic (stopP k)) (S.mk [] [] (EE cK l fu st' wh'))):PW prog cx (loopF f107 0) (liI es (scP s) out (i:Int) (EE cK l fu st wh)) Q:=
 pw mdE 27 [dt ((i:Int)<(es.length:Int)),am ((0:Int)<=(i:Int)/\(i:Int)<((Ex.cs es).length:Int)) qZ,xEx es i hi,ce hv] [1,2,6,9,10,11] [] hcx hq
end
theorem liE(es:List Ex)(p:PV)(out:List Vl)(ext:Ext)(cx:Cx)(hcx:cx.n=27){Q:PExit->S->Prop}(hq:Q (.exit 0) (S.mk [(1,.v p),(2,.v (.ro [.xp 1 0] 0)),(6,.uniq 52 7 (Vl.cs out)),(9,vL 7 (Ex.cs es)),(10,vI6 (es.length:Int)),(11,vI6 (es.length:Int))] [] ext)):PW prog cx (loopF f107 0) (liI es p out (es.length:Int) ext) Q:=
 pw mdE 27 [df ((es.length:Int)<(es.length:Int))] [1,2,6,9,10,11] [] hcx hq
def LiOk(cK:C5)(l:List Df)(fu:Int)(s:List Bd)(wh:BA):List Ex->Int->List Vl->Int->Prop
 | [],st,vs,st'=>vs=[]/\st=st'
 | x::es,st,vs,st''=>∃v st' vs',evOk cK l fu s x st wh v st'/\LiOk cK l fu s wh es st' vs' st''/\vs=v::vs'
def LiEr(cK:C5)(l:List Df)(fu:Int)(s:List Bd)(wh:BA):List Ex->Int->Int->Int->BA->Prop
 | [],_,_,_,_=>False
 | x::es,st,k,st'',wh'=>evEr cK l fu s x st wh k st'' wh'∨∃v st',evOk cK l fu s x st wh v st'/\LiEr cK l fu s wh es st' k st'' wh'
theorem li_loop(cK:C5)(l:List Df)(fu:Int)(s:List Bd)(wh:BA)(es:List Ex)(hn:es.length<=1000000000)(st:Int)(vs:List Vl)(st':Int)(h:LiOk cK l fu s wh es st vs st') :
  (Ob.loop 27 (loopF f107 0) (liI es (scP s) [] 0 (EE cK l fu st wh)) (.exit 0) ⟨[(6,.uniq 52 7 (Vl.cs vs))],[],EE cK l fu st' wh⟩).ok prog:=by
 have:=Ob.loop_of (P:=prog) (n:=27) (c:=loopF f107 0) (α:={ x:Nat × Int × List Vl × List Vl // x.1<=es.length/\x.2.2.1.length=x.1/\LiOk cK l fu s wh (es.drop x.1) x.2.1 x.2.2.2 st'/\x.2.2.1++x.2.2.2=vs })
  (fun x=>liI es (scP s) x.1.2.2.1 x.1.1 (EE cK l fu x.1.2.1 wh)) (fun x=>es.length - x.1.1) (fun _=>(.exit 0,⟨[(6,.uniq 52 7 (Vl.cs vs))],[],EE cK l fu st' wh⟩)) ?_ ⟨(0,st,[],vs),by simp,rfl,by simpa using h,rfl⟩
 ·exact this
 ·rintro ⟨⟨i,st1,out,rest⟩,hi,ho,hli,hvs⟩ cx hcx
  simp only at hi ho hli hvs ⊢
  rcases Nat.lt_or_ge i es.length with hlt | hge
  ·rw [drop_at hlt] at hli
   obtain ⟨v,st2,vs',h1,h2,rfl⟩:=hli
   refine liT cK l fu st1 wh es s out i hlt hn oM v st2 h1 cx hcx (.inl ⟨rfl,⟨(i+1,st2,out++[v],vs'),hlt,by simp [ho],h2,by simp [<-hvs]⟩,by simp only; omega,⟨⟨W,W,.inl ?_,W,W,W,tV⟩,trivial,rfl⟩,tV⟩)
   rw [Vl.cs_app]
   simp only [Vl.cs,Vl.c_eq]
  ·have he:i=es.length:=by omega
   subst he
   rw [List.drop_length] at hli
   obtain ⟨rfl,rfl⟩:=hli
   rw [List.append_nil] at hvs
   subst hvs
   exact liE es _ out _ cx hcx (.inr ⟨by simp,rfl,⟨W,tV⟩,trivial,rfl⟩)
theorem li_loopE(cK:C5)(l:List Df)(fu:Int)(s:List Bd)(wh:BA)(es:List Ex)(hn:es.length<=1000000000)(st k st':Int)(wh':BA)(h:LiEr cK l fu s wh es st k st' wh') :
  (Ob.loop 27 (loopF f107 0) (liI es (scP s) [] 0 (EE cK l fu st wh)) (.panic (stopP k)) ⟨[],[],EE cK l fu st' wh'⟩).ok prog:=by
 have:=Ob.loop_of (P:=prog) (n:=27) (c:=loopF f107 0) (α:={ x:Nat × Int × List Vl // x.1<=es.length/\x.2.2.length=x.1/\LiEr cK l fu s wh (es.drop x.1) x.2.1 k st' wh' })
  (fun x=>liI es (scP s) x.1.2.2 x.1.1 (EE cK l fu x.1.2.1 wh)) (fun x=>es.length - x.1.1) (fun _=>(.panic (stopP k),⟨[],[],EE cK l fu st' wh'⟩)) ?_ ⟨(0,st,[]),by simp,rfl,by simpa using h⟩
 ·exact this
 ·rintro ⟨⟨i,st1,out⟩,hi,ho,hli⟩ cx hcx
  simp only at hi ho hli ⊢
  rcases Nat.lt_or_ge i es.length with hlt | hge
  ·rw [drop_at hlt] at hli
   rcases hli with h1 | ⟨v,st2,h1,h2⟩
   ·exact liF cK l fu st1 wh es s out i hlt hn k st' wh' h1 cx hcx (.inr ⟨by simp,rfl,trivial,trivial,rfl⟩)
   ·refine liT cK l fu st1 wh es s out i hlt hn oM v st2 h1 cx hcx (.inl ⟨rfl,⟨(i+1,st2,out++[v]),hlt,by simp [ho],h2⟩,by simp only; omega,⟨⟨W,W,.inl ?_,W,W,W,tV⟩,trivial,rfl⟩,tV⟩)
    rw [Vl.cs_app]
    simp only [Vl.cs,Vl.c_eq]
  ·have he:i=es.length:=by omega
   subst he
   rw [List.drop_length] at hli
   exact hli.elim
section
variable (cK:C5) (l:List Df) (fu st:Int) (wh:BA) (es:List Ex) (s:List Bd) (hn:es.length<=1000000000)
include cK l fu st wh es s hn
theorem eListT(vs:List Vl)(st':Int)(hl:LiOk cK l fu s wh es st vs st'):Ef 107 [.sl 7 (Ex.cs es),scP s,.ro [.xp 1 0] 0] (EE cK l fu st wh) (.ret (.sl 7 (Vl.cs vs))) (EE cK l fu st' wh):=
 ef mdE [sl (Ex.cs_len es),lp (S.mk [(0,vL 7 (Ex.cs es)),(1,.v (scP s)),(2,.v (.ro [.xp 1 0] 0)),(5,.v .nilsl),(6,.v .nilsl),(9,vL 7 (Ex.cs es)),(10,vI6 (es.length:Int)),(11,vI6 0)] [] (EE cK l fu st wh)) (@li_loop cK (l) (fu) (s) (wh) (es) hn (st) (vs) (st') hl) ⟨⟨W,W,Wq,W,W,W,tV⟩,trivial,rfl⟩] func107
theorem eListE(k st':Int)(wh':BA)(hl:LiEr cK l fu s wh es st k st' wh'):Ef 107 [.sl 7 (Ex.cs es),scP s,.ro [.xp 1 0] 0] (EE cK l fu st wh) (.panic (stopP k)) (EE cK l fu st' wh'):=
 ef mdE [sl (Ex.cs_len es),lp (S.mk [(0,vL 7 (Ex.cs es)),(1,.v (scP s)),(2,.v (.ro [.xp 1 0] 0)),(5,.v .nilsl),(6,.v .nilsl),(9,vL 7 (Ex.cs es)),(10,vI6 (es.length:Int)),(11,vI6 0)] [] (EE cK l fu st wh)) (@li_loopE cK (l) (fu) (s) (wh) (es) hn (st) (k) (st') (wh') hl) ⟨⟨W,W,Wq,W,W,W,tV⟩,trivial,rfl⟩] func107
end
section
variable (cK:C5) (l:List Df) (fu st:Int) (wh:BA) (x:Ex) (s:List Bd) (hk:(exK x).length=2)
include cK l fu st wh x s hk
theorem eLazyE(k st':Int)(wh':BA)(hv:evEr cK l fu s ((exK x).getD 0 default) st wh k st' wh'):Ef 117 [.xp 1 0,.agg (exL x),scP s] (EE cK l fu st wh) (.panic (stopP k)) (EE cK l fu st' wh'):=
 ef mdE [am ((0:Int)<=0/\0<((Ex.cs (exK x)).length:Int)) qZ,xEx (exK x) 0,ce hv] func117
theorem eLazyT_3(v:Vl)(st':Int)(hv:evOk cK l fu s ((exK x).getD 0 default) st wh v st')(k2 st2:Int)(wh2:BA)(he:evEr cK l fu s ((exK x).getD 1 default) st' wh k2 st2 wh2)(hx0:vlO v=2)(hx1:(if true=true then (vlN v != 0)==(exO x==20) else !(vlN v != 0)==(exO x==20))=false):Ef 117 [.xp 1 0,.agg (exL x),scP s] (EE cK l fu st wh) (.panic (stopP k2)) (EE cK l fu st2 wh2):=
 ef mdE [am ((0:Int)<=0/\0<((Ex.cs (exK x)).length:Int)) qZ,xEx (exK x) 0,ce hv,cl (@eNeed_2 (vlO v==2) (beT hx0)),bf1 hx1,am ((0:Int)<=1/\1<((Ex.cs (exK x)).length:Int)) qZ,xEx (exK x) 1,ce he] func117
theorem eLazyV_2(v:Vl)(st':Int)(hv:evOk cK l fu s ((exK x).getD 0 default) st wh v st')(hb:vlO v=2)(v2:Vl)(st2:Int)(he:evOk cK l fu s ((exK x).getD 1 default) st' wh v2 st2)(hx0:(if true=true then (vlN v != 0)==(exO x==20) else !(vlN v != 0)==(exO x==20))=false)(hx1:¬vlO v2=2):Ef 117 [.xp 1 0,.agg (exL x),scP s] (EE cK l fu st wh) (.panic (stopP 19)) (EE cK l fu st2 wh):=
 ef mdE [am ((0:Int)<=0/\0<((Ex.cs (exK x)).length:Int)) qZ,xEx (exK x) 0,ce hv,cl (@eNeed_2 (vlO v==2) (by simp_all [List.length_map,List.length_append,List.length_cons,List.length_nil,Ex.cs_len,Vl.cs_len,Al.cs_len,Bd.cs_len,nmsC_len,pmsC_len,Tp.cs_len,dfsC_len,Int.toNat_natCast])),bf1 hx0,am ((0:Int)<=1/\1<((Ex.cs (exK x)).length:Int)) qZ,xEx (exK x) 1,ce he,cl (@eNeed_1 (vlO v2==2) (beF hx1))] func117
theorem eLazyV_3(v:Vl)(st':Int)(hv:evOk cK l fu s ((exK x).getD 0 default) st wh v st')(hb:vlO v=2)(v2:Vl)(st2:Int)(he:evOk cK l fu s ((exK x).getD 1 default) st' wh v2 st2)(hx0:(if true=true then (vlN v != 0)==(exO x==20) else !(vlN v != 0)==(exO x==20))=false)(hx1:vlO v2=2):Ef 117 [.xp 1 0,.agg (exL x),scP s] (EE cK l fu st wh) (rA (v4 2 (eTruth_r0 (vlN v2 != 0)) nm0 [])) (EE cK l fu st2 wh):=
 ef mdE [am ((0:Int)<=0/\0<((Ex.cs (exK x)).length:Int)) qZ,xEx (exK x) 0,ce hv,cl (@eNeed_2 (vlO v==2) (by simp_all [List.length_map,List.length_append,List.length_cons,List.length_nil,Ex.cs_len,Vl.cs_len,Al.cs_len,Bd.cs_len,nmsC_len,pmsC_len,Tp.cs_len,dfsC_len,Int.toNat_natCast])),bf1 hx0,am ((0:Int)<=1/\1<((Ex.cs (exK x)).length:Int)) qZ,xEx (exK x) 1,ce he,cl (@eNeed_2 (vlO v2==2) (beT hx1)),cl (@eTruth (vlN v2 != 0))] func117
end
abbrev maI(p0:PV)(ab:List LV)(v:Vl)(ps:List BA)(p:PV)(i:Int)(ext:Ext):S:=⟨[(0,.v p0),(3,.v p),(6,.lp 6 0),(8,.lp 8 0),(10,.lp 10 0),(37,.v (.sl 1 (nmsC ps))),(38,.v (.int .i64 ps.length)),(39,.v (.int .i64 i))],[(6,(vlL v).map .v),(8,List.replicate 7 jk),(10,ab)],ext⟩
section
variable (p0:PV) (ab:List LV) (v:Vl) (ps:List BA)
include p0 ab v ps
theorem maB0(i:Nat)(ext:Ext)(hi:i<ps.length)(ha:i<(vlK v).length)(hn:ps.length<=1000000000)(cx:Cx)(hcx:cx.n=65){Q:PExit->S->Prop}(hq:Q (.normal) (S.mk [(0,.v p0),(3,.v (.ro [.str (List.getD ps i nm0),pI (vlO (List.getD (vlK v) i default)),pI (vlN (List.getD (vlK v) i default)),.str (vlNm (List.getD (vlK v) i default)),.sl 7 (Vl.cs (vlK (List.getD (vlK v) i default))),.sl 1 (nmsC (vlP (List.getD (vlK v) i default))),.sl 7 (Ex.cs (vlB (List.getD (vlK v) i default))),.sl 8 (Bd.cs (vlBd (List.getD (vlK v) i default))),.nilp] 0)),(6,.lp 6 0),(8,.lp 8 0),(10,.lp 10 0),(37,vL 1 (nmsC ps)),(38,vI6 (ps.length:Int)),(39,vI6 ((i:Int)+1))] [(6,vlV v),(8,[jk,jk,jk,jk,jk,jk,jk]),(10,ab)] ext)):PW prog cx (loopF f116 1) (maI p0 ab v ps (scP []) (i:Int) ext) Q:=
 pw mdE 65 [dt ((i:Int)<(ps.length:Int)),am ((0:Int)<=(i:Int)/\(i:Int)<((nmsC ps).length:Int)) qZ,xNm ps i hi,am ((0:Int)<=(i:Int)/\(i:Int)<((Vl.cs (vlK v)).length:Int)) qZ,xVl (vlK v) i ha,wr ((i:Int)+1)] [0,3,6,8,10,37,38,39] [6,8,10] hcx hq
theorem maB1(x:Bd)(r:List Bd)(i:Nat)(ext:Ext)(hi:i<ps.length)(ha:i<(vlK v).length)(hn:ps.length<=1000000000)(cx:Cx)(hcx:cx.n=65){Q:PExit->S->Prop}(hq:Q (.normal) (S.mk [(0,.v p0),(3,.v (.ro [.str (List.getD ps i nm0),pI (vlO (List.getD (vlK v) i default)),pI (vlN (List.getD (vlK v) i default)),.str (vlNm (List.getD (vlK v) i default)),.sl 7 (Vl.cs (vlK (List.getD (vlK v) i default))),.sl 1 (nmsC (vlP (List.getD (vlK v) i default))),.sl 7 (Ex.cs (vlB (List.getD (vlK v) i default))),.sl 8 (Bd.cs (vlBd (List.getD (vlK v) i default))),.ro [.str (bdNm x),pI (vlO (bdV x)),pI (vlN (bdV x)),.str (vlNm (bdV x)),.sl 7 (Vl.cs (vlK (bdV x))),.sl 1 (nmsC (vlP (bdV x))),.sl 7 (Ex.cs (vlB (bdV x))),.sl 8 (Bd.cs (vlBd (bdV x))),scP r] 0] 0)),(6,.lp 6 0),(8,.lp 8 0),(10,.lp 10 0),(37,vL 1 (nmsC ps)),(38,vI6 (ps.length:Int)),(39,vI6 ((i:Int)+1))] [(6,vlV v),(8,[jk,jk,jk,jk,jk,jk,jk]),(10,ab)] ext)):PW prog cx (loopF f116 1) (maI p0 ab v ps (scP (x::r)) (i:Int) ext) Q:=
 pw mdE 65 [dt ((i:Int)<(ps.length:Int)),am ((0:Int)<=(i:Int)/\(i:Int)<((nmsC ps).length:Int)) qZ,xNm ps i hi,am ((0:Int)<=(i:Int)/\(i:Int)<((Vl.cs (vlK v)).length:Int)) qZ,xVl (vlK v) i ha,wr ((i:Int)+1)] [0,3,6,8,10,37,38,39] [6,8,10] hcx hq
theorem maE(p:PV)(ext:Ext)(cx:Cx)(hcx:cx.n=65){Q:PExit->S->Prop}(hq:Q (.exit 2) (S.mk [(0,.v p0),(3,.v p),(6,.lp 6 0),(8,.lp 8 0),(10,.lp 10 0),(37,vL 1 (nmsC ps)),(38,vI6 (ps.length:Int)),(39,vI6 (ps.length:Int))] [(6,vlV v),(8,[jk,jk,jk,jk,jk,jk,jk]),(10,ab)] ext)):PW prog cx (loopF f116 1) (maI p0 ab v ps p (ps.length:Int) ext) Q:=
 pw mdE 65 [df ((ps.length:Int)<(ps.length:Int))] [0,3,6,8,10,37,38,39] [6,8,10] hcx hq
end
theorem ma_loop(p0:PV)(ab:List LV)(v:Vl)(ps:List BA)(s:List Bd)(ext:Ext)(h:ps.length=(vlK v).length)(hn:ps.length<=1000000000):(Ob.loop 65 (loopF f116 1) (maI p0 ab v ps (scP s) 0 ext) (.exit 2) ⟨[(0,.v p0),(3,.v (scP (bnds ps (vlK v) s))),(8,.lp 8 0),(10,.lp 10 0)],[(8,List.replicate 7 jk),(10,ab)],ext⟩).ok prog:=by
 have:=Ob.loop_idx (P:=prog) (n:=65) (c:=loopF f116 1) ps.length (fun i=>maI p0 ab v ps (scP (bnds (ps.take i) ((vlK v).take i) s)) i ext) (fun _=>(.exit 2,⟨[(0,.v p0),(3,.v (scP (bnds ps (vlK v) s))),(8,.lp 8 0),(10,.lp 10 0)],[(8,List.replicate 7 jk),(10,ab)],ext⟩)) ?_ ?_ 0 sM
 ·exact this
 ·intro i hlt cx hcx
  have hb:=bnds_take h hlt s
  have ha:i<(vlK v).length:=h ▸ hlt
  simp only [hb]
  cases hacc:bnds (ps.take i) ((vlK v).take i) s with
  | nil=>exact maB0 p0 ab v ps i ext hlt ha hn cx hcx (.inl ⟨rfl,⟨⟨W,W,W,W,W,W,W,W,tV⟩,⟨WLs.refl _,WLs.refl _,WLs.refl _,tV⟩,rfl⟩,tV⟩)
  | cons x r=>exact maB1 p0 ab v ps x r i ext hlt ha hn cx hcx (.inl ⟨rfl,⟨⟨W,W,W,W,W,W,W,W,tV⟩,⟨WLs.refl _,WLs.refl _,WLs.refl _,tV⟩,rfl⟩,tV⟩)
 ·intro cx hcx
  have e1:bnds (ps.take ps.length) ((vlK v).take ps.length) s=bnds ps (vlK v) s:=by rw [List.take_length,h,List.take_length]
  simp only [e1]
  exact maE p0 ab v ps _ ext cx hcx ⟨by simp,rfl,⟨W,W,W,W,tV⟩,⟨WLs.refl _,WLs.refl _,tV⟩,rfl⟩
abbrev mbI(v:Vl)(al:List Al)(p:PV)(i:Int)(ext:Ext):S:=⟨[(0,.v (.xp 1 0)),(3,.v p),(6,.lp 6 0),(8,.lp 8 0),(17,.v (.sl 9 (Al.cs al))),(18,.v (.int .i64 al.length)),(19,.v (.int .i64 i))],[(6,(vlL v).map .v),(8,List.replicate 7 jk)],ext⟩
section
variable (v:Vl) (al:List Al) (p:PV)
include v al p
theorem mbN(i:Nat)(ext:Ext)(hi:i<al.length)(hn:al.length<=1000000000)(hc:¬alC (al.getD i default)=vlNm v)(cx:Cx)(hcx:cx.n=65){Q:PExit->S->Prop}(hq:Q (.normal) (S.mk [(0,.v (.xp 1 0)),(3,.v p),(6,.lp 6 0),(8,.lp 8 0),(17,vL 9 (Al.cs al)),(18,vI6 (al.length:Int)),(19,vI6 ((i:Int)+1))] [(6,vlV v),(8,[jk,jk,jk,jk,jk,jk,jk])] ext)):PW prog cx (loopF f116 0) (mbI v al p (i:Int) ext) Q:=
 pw mdE 65 [dt ((i:Int)<(al.length:Int)),am ((0:Int)<=(i:Int)/\(i:Int)<((Al.cs al).length:Int)) qZ,xAl al i hi,bt (!ByteArray.toList (alC (List.getD al i default))==ByteArray.toList (vlNm v)) (bnT (bsF hc)),wr ((i:Int)+1)] [0,3,6,8,17,18,19] [6,8] hcx hq
theorem mbE(ext:Ext)(cx:Cx)(hcx:cx.n=65){Q:PExit->S->Prop}(hq:Q (.exit 0) (S.mk [(0,.v (.xp 1 0)),(3,.v p),(6,.lp 6 0),(8,.lp 8 0),(17,vL 9 (Al.cs al)),(18,vI6 (al.length:Int)),(19,vI6 (al.length:Int))] [(6,vlV v),(8,[jk,jk,jk,jk,jk,jk,jk])] ext)):PW prog cx (loopF f116 0) (mbI v al p (al.length:Int) ext) Q:=
 pw mdE 65 [df ((al.length:Int)<(al.length:Int))] [0,3,6,8,17,18,19] [6,8] hcx hq
theorem mbM(i:Nat)(ext:Ext)(hi:i<al.length)(hn:al.length<=1000000000)(hc:alC (al.getD i default)=vlNm v)(hl:¬((alNs (al.getD i default)).length:Int)=(vlK v).length)(cx:Cx)(hcx:cx.n=65){Q:PExit->S->Prop}(hq:Q (PExit.panic (stopP 19)) (S.mk [(0,.v (.xp 1 0)),(3,.v p),(6,.lp 6 0),(8,.lp 8 0),(17,vL 9 (Al.cs al)),(18,vI6 (al.length:Int)),(19,vI6 (i:Int))] [(6,vlV v),(8,[jk,jk,jk,jk,jk,jk,jk])] ext)):PW prog cx (loopF f116 0) (mbI v al p (i:Int) ext) Q:=
 pw mdE 65 [dt ((i:Int)<(al.length:Int)),am ((0:Int)<=(i:Int)/\(i:Int)<((Al.cs al).length:Int)) qZ,xAl al i hi,bf (!ByteArray.toList (alC (List.getD al i default))==ByteArray.toList (vlNm v)) (bnF (bsT hc)),sl (nmsC_len (alNs (List.getD al i default))),sl (Vl.cs_len (vlK v)),cl (@eNeed_1 (((alNs (List.getD al i default)).length:Int)==((vlK v).length:Int)) (by simp_all [List.length_map,List.length_append,List.length_cons,List.length_nil,Ex.cs_len,Vl.cs_len,Al.cs_len,Bd.cs_len,nmsC_len,pmsC_len,Tp.cs_len,dfsC_len,Int.toNat_natCast]))] [0,3,6,8,17,18,19] [6,8] hcx hq
end
section
variable (cK:C5) (l:List Df) (fu st:Int) (wh:BA) (v:Vl) (al:List Al) (s:List Bd) (i:Nat) (hi:i<al.length) (hn:al.length<=1000000000) (hc:alC (al.getD i default)=vlNm v) (hl:((alNs (al.getD i default)).length:Int)=(vlK v).length) (hp:(alNs (al.getD i default)).length<=1000000000)
include cK l fu st wh v al s i hi hn hc hl hp
theorem mbT(u:Vl)(st':Int)(hv:evOk cK l fu (bnds (alNs (al.getD i default)) (vlK v) s) (alB (al.getD i default)) st wh u st')(cx:Cx)(hcx:cx.n=65){Q:PExit->S->Prop}(hq:Q (.ret) (S.mk [(0,.v (.xp 1 0)),(3,.v (scP (bnds (alNs (List.getD al i default)) (vlK v) s))),(8,.lp 8 0)] [(8,vlV u)] (EE cK l fu st' wh))):PW prog cx (loopF f116 0) (mbI v al (scP s) (i:Int) (EE cK l fu st wh)) Q:=
 pw mdE 65 [dt ((i:Int)<(al.length:Int)),am ((0:Int)<=(i:Int)/\(i:Int)<((Al.cs al).length:Int)) qZ,xAl al i hi,bf (!ByteArray.toList (alC (List.getD al i default))==ByteArray.toList (vlNm v)) (bnF (bsT hc)),sl (nmsC_len (alNs (List.getD al i default))),sl (Vl.cs_len (vlK v)),cl (@eNeed_2 (((alNs (List.getD al i default)).length:Int)==((vlK v).length:Int)) (by simp_all [List.length_map,List.length_append,List.length_cons,List.length_nil,Ex.cs_len,Vl.cs_len,Al.cs_len,Bd.cs_len,nmsC_len,pmsC_len,Tp.cs_len,dfsC_len,Int.toNat_natCast])),sl (nmsC_len (alNs (List.getD al i default))),lp (S.mk [(0,.v (.xp 1 0)),(3,.v (scP s)),(6,.lp 6 0),(8,.lp 8 0),(17,vL 9 (Al.cs al)),(18,vI6 (al.length:Int)),(19,vI6 (i:Int)),(20,.v (.bool (decide ((i:Int)<(al.length:Int))))),(21,.v (.ro (alL (List.getD al i default)) 0)),(22,.v (.agg (alL (List.getD al i default)))),(10,.lp 10 0),(23,.lp 10 0),(24,vS (alC (List.getD al i default))),(25,.lp 6 2),(26,vS (vlNm v)),(27,.v (.bool !ByteArray.toList (alC (List.getD al i default))==ByteArray.toList (vlNm v))),(28,.lp 10 1),(29,vL 1 (nmsC (alNs (List.getD al i default)))),(30,vI6 ((alNs (List.getD al i default)).length:Int)),(31,.lp 6 3),(32,vL 7 (Vl.cs (vlK v))),(33,vI6 ((vlK v).length:Int)),(34,.v (.bool (((alNs (List.getD al i default)).length:Int)==((vlK v).length:Int)))),(35,.v (.tup [])),(36,.lp 10 1),(37,vL 1 (nmsC (alNs (List.getD al i default)))),(38,vI6 ((alNs (List.getD al i default)).length:Int)),(39,vI6 0)] [(6,vlV v),(8,[jk,jk,jk,jk,jk,jk,jk]),(10,alV (List.getD al i default))] (EE cK l fu st wh)) (@ma_loop (.xp 1 0) (alV (List.getD al i default)) (v) (alNs (List.getD al i default)) (s) (EE cK l fu st wh) oM hp) xr,ce hv] [0,3,6,8,17,18,19] [6,8] hcx hq
theorem mbF(k st':Int)(wh':BA)(hv:evEr cK l fu (bnds (alNs (al.getD i default)) (vlK v) s) (alB (al.getD i default)) st wh k st' wh')(cx:Cx)(hcx:cx.n=65){Q:PExit->S->Prop}(hq:Q (PExit.panic (stopP k)) (S.mk [] [] (EE cK l fu st' wh'))):PW prog cx (loopF f116 0) (mbI v al (scP s) (i:Int) (EE cK l fu st wh)) Q:=
 pw mdE 65 [dt ((i:Int)<(al.length:Int)),am ((0:Int)<=(i:Int)/\(i:Int)<((Al.cs al).length:Int)) qZ,xAl al i hi,bf (!ByteArray.toList (alC (List.getD al i default))==ByteArray.toList (vlNm v)) (bnF (bsT hc)),sl (nmsC_len (alNs (List.getD al i default))),sl (Vl.cs_len (vlK v)),cl (@eNeed_2 (((alNs (List.getD al i default)).length:Int)==((vlK v).length:Int)) (by simp_all [List.length_map,List.length_append,List.length_cons,List.length_nil,Ex.cs_len,Vl.cs_len,Al.cs_len,Bd.cs_len,nmsC_len,pmsC_len,Tp.cs_len,dfsC_len,Int.toNat_natCast])),sl (nmsC_len (alNs (List.getD al i default))),lp (S.mk [(0,.v (.xp 1 0)),(3,.v (scP s)),(6,.lp 6 0),(8,.lp 8 0),(17,vL 9 (Al.cs al)),(18,vI6 (al.length:Int)),(19,vI6 (i:Int)),(20,.v (.bool (decide ((i:Int)<(al.length:Int))))),(21,.v (.ro (alL (List.getD al i default)) 0)),(22,.v (.agg (alL (List.getD al i default)))),(10,.lp 10 0),(23,.lp 10 0),(24,vS (alC (List.getD al i default))),(25,.lp 6 2),(26,vS (vlNm v)),(27,.v (.bool !ByteArray.toList (alC (List.getD al i default))==ByteArray.toList (vlNm v))),(28,.lp 10 1),(29,vL 1 (nmsC (alNs (List.getD al i default)))),(30,vI6 ((alNs (List.getD al i default)).length:Int)),(31,.lp 6 3),(32,vL 7 (Vl.cs (vlK v))),(33,vI6 ((vlK v).length:Int)),(34,.v (.bool (((alNs (List.getD al i default)).length:Int)==((vlK v).length:Int)))),(35,.v (.tup [])),(36,.lp 10 1),(37,vL 1 (nmsC (alNs (List.getD al i default)))),(38,vI6 ((alNs (List.getD al i default)).length:Int)),(39,vI6 0)] [(6,vlV v),(8,[jk,jk,jk,jk,jk,jk,jk]),(10,alV (List.getD al i default))] (EE cK l fu st wh)) (@ma_loop (.xp 1 0) (alV (List.getD al i default)) (v) (alNs (List.getD al i default)) (s) (EE cK l fu st wh) oM hp) xr,ce hv] [0,3,6,8,17,18,19] [6,8] hcx hq
end
theorem findA_at{name:BA}:∀ {l:List Al} {a:Al},findA name l=some a->∃i,i<l.length/\l.getD i default=a/\alC a=name/\∀j,j<i->¬alC (l.getD j default)=name
 | [],_,h=>by cases h
 | b::r,a,h=>by
  simp only [findA] at h
  split at h
  ·injection h with h; subst h
   exact ⟨0,by simp,rfl,by assumption,fun j hj=>by omega⟩
  ·obtain ⟨i,h1,h2,h3,h4⟩:=findA_at h
   refine ⟨i+1,by simp; omega,by simpa using h2,h3,fun j hj=>?_⟩
   cases j with
   | zero=>simpa using ‹¬alC b=name›
   | succ j=>simpa using h4 j oM
theorem findA_no{name:BA}:∀ {l:List Al},findA name l=none->∀j,j<l.length->¬alC (l.getD j default)=name
 | [],_,j,hj=>by simp at hj
 | b::r,h,j,hj=>by
  simp only [findA] at h
  split at h
  ·cases h
  ·cases j with
   | zero=>simpa using ‹¬alC b=name›
   | succ j=>simpa using findA_no h j (by simpa using hj)
theorem mb_loop(v:Vl)(al:List Al)(p:PV)(ext:Ext)(hn:al.length<=1000000000)(i0:Nat)(hi:i0<=al.length)(pre:∀j,j<i0->¬alC (al.getD j default)=vlNm v)(pe:PExit)(s1:S)
  (fin:∀cx:Cx,cx.n=65->PW prog cx (loopF f116 0) (mbI v al p i0 ext) fun pe' s'=>pe' ≠ .normal/\pe'=pe/\LeX s1 s') :
  (Ob.loop 65 (loopF f116 0) (mbI v al p 0 ext) pe s1).ok prog:=by
 have:=Ob.loop_idx (P:=prog) (n:=65) (c:=loopF f116 0) i0 (fun i=>mbI v al p i ext) (fun _=>(pe,s1)) ?_ fin 0 sM
 ·exact this
 ·intro i hlt cx hcx
  exact mbN v al p i ext oM hn (pre i hlt) cx hcx (.inl ⟨rfl,⟨⟨W,W,W,W,W,W,W,tV⟩,⟨WLs.refl _,WLs.refl _,tV⟩,rfl⟩,rfl⟩)
theorem mb0(v:Vl)(al:List Al)(p:PV)(ext:Ext)(hn:al.length<=1000000000)(h:findA (vlNm v) al=none):(Ob.loop 65 (loopF f116 0) (mbI v al p 0 ext) (.exit 0) ⟨[(8,.lp 8 0)],[(8,jk7)],ext⟩).ok prog:=
 mb_loop v al p ext hn al.length (Nat.le_refl _) (findA_no h) _ _ fun cx hcx=>mbE v al p ext cx hcx ⟨by simp,rfl,⟨W,tV⟩,⟨WLs.refl _,tV⟩,rfl⟩
theorem mb1(v:Vl)(al:List Al)(p:PV)(ext:Ext)(hn:al.length<=1000000000)(a:Al)(h:findA (vlNm v) al=some a)(hl:¬(alNs a).length=(vlK v).length):(Ob.loop 65 (loopF f116 0) (mbI v al p 0 ext) (.panic (stopP 19)) ⟨[],[],ext⟩).ok prog:=by
 obtain ⟨i,h1,rfl,h3,h4⟩:=findA_at h
 exact mb_loop v al p ext hn i oM h4 _ _ fun cx hcx=>mbM v al p i ext h1 hn h3 oM cx hcx ⟨by simp,rfl,trivial,trivial,rfl⟩
theorem mb2(cK:C5)(l:List Df)(fu st:Int)(wh:BA)(v:Vl)(al:List Al)(s:List Bd)(hn:al.length<=1000000000)(a:Al)(h:findA (vlNm v) al=some a)(hl:(alNs a).length=(vlK v).length)(hp:(alNs a).length<=1000000000)(u:Vl)(st':Int)(hv:evOk cK l fu (bnds (alNs a) (vlK v) s) (alB a) st wh u st'):(Ob.loop 65 (loopF f116 0) (mbI v al (scP s) 0 (EE cK l fu st wh)) .ret ⟨[(8,.lp 8 0)],[(8,vlV u)],EE cK l fu st' wh⟩).ok prog:=by
 obtain ⟨i,h1,rfl,h3,h4⟩:=findA_at h
 exact mb_loop v al (scP s) _ hn i oM h4 _ _ fun cx hcx=>mbT cK l fu st wh v al s i h1 hn h3 oM hp u st' hv cx hcx ⟨by simp,rfl,⟨W,tV⟩,⟨WLs.refl _,tV⟩,rfl⟩
theorem mb3(cK:C5)(l:List Df)(fu st:Int)(wh:BA)(v:Vl)(al:List Al)(s:List Bd)(hn:al.length<=1000000000)(a:Al)(h:findA (vlNm v) al=some a)(hl:(alNs a).length=(vlK v).length)(hp:(alNs a).length<=1000000000)(k st':Int)(wh':BA)(hv:evEr cK l fu (bnds (alNs a) (vlK v) s) (alB a) st wh k st' wh'):(Ob.loop 65 (loopF f116 0) (mbI v al (scP s) 0 (EE cK l fu st wh)) (.panic (stopP k)) ⟨[],[],EE cK l fu st' wh'⟩).ok prog:=by
 obtain ⟨i,h1,rfl,h3,h4⟩:=findA_at h
 exact mb_loop v al (scP s) _ hn i oM h4 _ _ fun cx hcx=>mbF cK l fu st wh v al s i h1 hn h3 oM hp k st' wh' hv cx hcx ⟨by simp,rfl,trivial,trivial,rfl⟩
section
variable (cK:C5) (l:List Df) (fu st:Int) (wh:BA) (v:Vl) (al:List Al) (s:List Bd)
include cK l fu st wh v al s
theorem eMatS(ho:¬vlO v=3):Ef 116 [.xp 1 0,.sl 9 (Al.cs al),.agg (vlL v),scP s] (EE cK l fu st wh) (.panic (stopP 19)) (EE cK l fu st wh):=
 ef mdE [cl (@eNeed_1 (vlO v==3) sA)] func116
theorem eMatN(hn:al.length<=1000000000)(ho:vlO v=3)(h:findA (vlNm v) al=none):Ef 116 [.xp 1 0,.sl 9 (Al.cs al),.agg (vlL v),scP s] (EE cK l fu st wh) (.panic (stopP 23)) (EE cK l fu st wh):=
 ef mdE [cl (@eNeed_2 (vlO v==3) sA),sl (Al.cs_len al),lp (S.mk [(0,.v (.xp 1 0)),(1,vL 9 (Al.cs al)),(2,.v (.agg (vlL v))),(3,.v (scP s)),(6,.lp 6 0),(8,.lp 8 0),(13,.lp 6 0),(14,vI6 (vlO v)),(15,.v (.bool (vlO v==3))),(16,.v (.tup [])),(17,vL 9 (Al.cs al)),(18,vI6 (al.length:Int)),(19,vI6 0)] [(6,vlV v),(8,vZ)] (EE cK l fu st wh)) (@mb0 (v) (al) (scP s) (EE cK l fu st wh) hn h) ⟨⟨W,W,W,W,W,W,W,tV⟩,⟨⟨W,W,W,W,W,W,W,tV⟩,⟨Wq,Wq,Wq,Wq,Wq,Wq,Wq,tV⟩,tV⟩,rfl⟩,cl (@eFail (23))] func116
theorem eMatL(hn:al.length<=1000000000)(ho:vlO v=3)(a:Al)(h:findA (vlNm v) al=some a)(hl:¬(alNs a).length=(vlK v).length):Ef 116 [.xp 1 0,.sl 9 (Al.cs al),.agg (vlL v),scP s] (EE cK l fu st wh) (.panic (stopP 19)) (EE cK l fu st wh):=
 ef mdE [cl (@eNeed_2 (vlO v==3) sA),sl (Al.cs_len al),lp (S.mk [(0,.v (.xp 1 0)),(1,vL 9 (Al.cs al)),(2,.v (.agg (vlL v))),(3,.v (scP s)),(6,.lp 6 0),(8,.lp 8 0),(13,.lp 6 0),(14,vI6 (vlO v)),(15,.v (.bool (vlO v==3))),(16,.v (.tup [])),(17,vL 9 (Al.cs al)),(18,vI6 (al.length:Int)),(19,vI6 0)] [(6,vlV v),(8,vZ)] (EE cK l fu st wh)) (@mb1 (v) (al) (scP s) (EE cK l fu st wh) hn (a) h hl) ⟨⟨W,W,W,W,W,W,W,tV⟩,⟨⟨W,W,W,W,W,W,W,tV⟩,⟨Wq,Wq,Wq,Wq,Wq,Wq,Wq,tV⟩,tV⟩,rfl⟩] func116
theorem eMatT(hn:al.length<=1000000000)(ho:vlO v=3)(a:Al)(h:findA (vlNm v) al=some a)(hl:(alNs a).length=(vlK v).length)(hp:(alNs a).length<=1000000000)(u:Vl)(st':Int)(hv:evOk cK l fu (bnds (alNs a) (vlK v) s) (alB a) st wh u st'):Ef 116 [.xp 1 0,.sl 9 (Al.cs al),.agg (vlL v),scP s] (EE cK l fu st wh) (rA (vlL u)) (EE cK l fu st' wh):=
 ef mdE [cl (@eNeed_2 (vlO v==3) sA),sl (Al.cs_len al),lp (S.mk [(0,.v (.xp 1 0)),(1,vL 9 (Al.cs al)),(2,.v (.agg (vlL v))),(3,.v (scP s)),(6,.lp 6 0),(8,.lp 8 0),(13,.lp 6 0),(14,vI6 (vlO v)),(15,.v (.bool (vlO v==3))),(16,.v (.tup [])),(17,vL 9 (Al.cs al)),(18,vI6 (al.length:Int)),(19,vI6 0)] [(6,vlV v),(8,vZ)] (EE cK l fu st wh)) (@mb2 cK (l) (fu) (st) (wh) (v) (al) (s) hn (a) h hl hp (u) (st') hv) ⟨⟨W,W,W,W,W,W,W,tV⟩,⟨⟨W,W,W,W,W,W,W,tV⟩,⟨Wq,Wq,Wq,Wq,Wq,Wq,Wq,tV⟩,tV⟩,rfl⟩] func116
theorem eMatE(hn:al.length<=1000000000)(ho:vlO v=3)(a:Al)(h:findA (vlNm v) al=some a)(hl:(alNs a).length=(vlK v).length)(hp:(alNs a).length<=1000000000)(k st':Int)(wh':BA)(hv:evEr cK l fu (bnds (alNs a) (vlK v) s) (alB a) st wh k st' wh'):Ef 116 [.xp 1 0,.sl 9 (Al.cs al),.agg (vlL v),scP s] (EE cK l fu st wh) (.panic (stopP k)) (EE cK l fu st' wh'):=
 ef mdE [cl (@eNeed_2 (vlO v==3) sA),sl (Al.cs_len al),lp (S.mk [(0,.v (.xp 1 0)),(1,vL 9 (Al.cs al)),(2,.v (.agg (vlL v))),(3,.v (scP s)),(6,.lp 6 0),(8,.lp 8 0),(13,.lp 6 0),(14,vI6 (vlO v)),(15,.v (.bool (vlO v==3))),(16,.v (.tup [])),(17,vL 9 (Al.cs al)),(18,vI6 (al.length:Int)),(19,vI6 0)] [(6,vlV v),(8,vZ)] (EE cK l fu st wh)) (@mb3 cK (l) (fu) (st) (wh) (v) (al) (s) hn (a) h hl hp (k) (st') (wh') hv) ⟨⟨W,W,W,W,W,W,W,tV⟩,⟨⟨W,W,W,W,W,W,W,tV⟩,⟨Wq,Wq,Wq,Wq,Wq,Wq,Wq,tV⟩,tV⟩,rfl⟩] func116
end
abbrev apAI(f:Vl)(args:List Vl)(bs:List Bd)(p:PV)(i:Int)(ext:Ext):S:=⟨[(0,.v (.xp 1 0)),(2,.v (.sl 7 (Vl.cs args))),(4,.lp 4 0),(6,.lp 6 0),(7,.v p),(42,.v (.sl 8 (Bd.cs bs))),(43,.v (.int .i64 bs.length)),(44,.v (.int .i64 i))],[(4,vlV f),(6,jk7)],ext⟩
section
variable (f:Vl) (args:List Vl) (bs:List Bd)
include f args bs
theorem apAB0(i:Nat)(ext:Ext)(hi:i<bs.length)(hn:bs.length<=1000000000)(cx:Cx)(hcx:cx.n=83){Q:PExit->S->Prop}(hq:Q (.normal) (S.mk [(0,.v (.xp 1 0)),(2,vL 7 (Vl.cs args)),(4,.lp 4 0),(6,.lp 6 0),(7,.v (.ro [.str (bdNm (List.getD bs i default)),pI (vlO (bdV (List.getD bs i default))),pI (vlN (bdV (List.getD bs i default))),.str (vlNm (bdV (List.getD bs i default))),.sl 7 (Vl.cs (vlK (bdV (List.getD bs i default)))),.sl 1 (nmsC (vlP (bdV (List.getD bs i default)))),.sl 7 (Ex.cs (vlB (bdV (List.getD bs i default)))),.sl 8 (Bd.cs (vlBd (bdV (List.getD bs i default)))),.nilp] 0)),(42,vL 8 (Bd.cs bs)),(43,vI6 (bs.length:Int)),(44,vI6 ((i:Int)+1))] [(4,vlV f),(6,jk7)] ext)):PW prog cx (loopF f114 0) (apAI f args bs (scP []) (i:Int) ext) Q:=
 pw mdE 83 [dt ((i:Int)<(bs.length:Int)),am ((0:Int)<=(i:Int)/\(i:Int)<((Bd.cs bs).length:Int)) qZ,xBd bs i hi,wr ((i:Int)+1)] [0,2,4,6,7,42,43,44] [4,6] hcx hq
theorem apAB1(x:Bd)(r:List Bd)(i:Nat)(ext:Ext)(hi:i<bs.length)(hn:bs.length<=1000000000)(cx:Cx)(hcx:cx.n=83){Q:PExit->S->Prop}(hq:Q (.normal) (S.mk [(0,.v (.xp 1 0)),(2,vL 7 (Vl.cs args)),(4,.lp 4 0),(6,.lp 6 0),(7,.v (.ro [.str (bdNm (List.getD bs i default)),pI (vlO (bdV (List.getD bs i default))),pI (vlN (bdV (List.getD bs i default))),.str (vlNm (bdV (List.getD bs i default))),.sl 7 (Vl.cs (vlK (bdV (List.getD bs i default)))),.sl 1 (nmsC (vlP (bdV (List.getD bs i default)))),.sl 7 (Ex.cs (vlB (bdV (List.getD bs i default)))),.sl 8 (Bd.cs (vlBd (bdV (List.getD bs i default)))),.ro [.str (bdNm x),pI (vlO (bdV x)),pI (vlN (bdV x)),.str (vlNm (bdV x)),.sl 7 (Vl.cs (vlK (bdV x))),.sl 1 (nmsC (vlP (bdV x))),.sl 7 (Ex.cs (vlB (bdV x))),.sl 8 (Bd.cs (vlBd (bdV x))),scP r] 0] 0)),(42,vL 8 (Bd.cs bs)),(43,vI6 (bs.length:Int)),(44,vI6 ((i:Int)+1))] [(4,vlV f),(6,jk7)] ext)):PW prog cx (loopF f114 0) (apAI f args bs (scP (x::r)) (i:Int) ext) Q:=
 pw mdE 83 [dt ((i:Int)<(bs.length:Int)),am ((0:Int)<=(i:Int)/\(i:Int)<((Bd.cs bs).length:Int)) qZ,xBd bs i hi,wr ((i:Int)+1)] [0,2,4,6,7,42,43,44] [4,6] hcx hq
theorem apAE(p:PV)(ext:Ext)(cx:Cx)(hcx:cx.n=83){Q:PExit->S->Prop}(hq:Q (.exit 0) (S.mk [(0,.v (.xp 1 0)),(2,vL 7 (Vl.cs args)),(4,.lp 4 0),(6,.lp 6 0),(7,.v p),(42,vL 8 (Bd.cs bs)),(43,vI6 (bs.length:Int)),(44,vI6 (bs.length:Int))] [(4,vlV f),(6,jk7)] ext)):PW prog cx (loopF f114 0) (apAI f args bs p (bs.length:Int) ext) Q:=
 pw mdE 83 [df ((bs.length:Int)<(bs.length:Int))] [0,2,4,6,7,42,43,44] [4,6] hcx hq
end
theorem apA_loop(f:Vl)(args:List Vl)(bs:List Bd)(ext:Ext)(hn:bs.length<=1000000000):(Ob.loop 83 (loopF f114 0) (apAI f args bs .nilp 0 ext) (.exit 0) ⟨[(0,.v (.xp 1 0)),(2,.v (.sl 7 (Vl.cs args))),(4,.lp 4 0),(6,.lp 6 0),(7,.v (scP bs.reverse))],[(4,vlV f),(6,jk7)],ext⟩).ok prog:=by
 have:=Ob.loop_idx (P:=prog) (n:=83) (c:=(loopF f114 0)) bs.length (fun i=>apAI f args bs (scP (bs.take i).reverse) i ext) (fun _=>(.exit 0,⟨[(0,.v (.xp 1 0)),(2,.v (.sl 7 (Vl.cs args))),(4,.lp 4 0),(6,.lp 6 0),(7,.v (scP bs.reverse))],[(4,vlV f),(6,jk7)],ext⟩)) ?_ ?_ 0 sM
 ·exact this
 ·intro i hlt cx hcx
  have hb:=take_rev_at hlt
  simp only [hb]
  cases hacc:(bs.take i).reverse with
  | nil=>exact apAB0 f args bs i ext hlt hn cx hcx (.inl ⟨rfl,⟨⟨W,W,W,W,W,W,W,W,tV⟩,⟨WLs.refl _,WLs.refl _,tV⟩,rfl⟩,tV⟩)
  | cons x r=>exact apAB1 f args bs x r i ext hlt hn cx hcx (.inl ⟨rfl,⟨⟨W,W,W,W,W,W,W,W,tV⟩,⟨WLs.refl _,WLs.refl _,tV⟩,rfl⟩,tV⟩)
 ·intro cx hcx
  simp only [List.take_length]
  exact apAE f args bs _ ext cx hcx ⟨by simp,rfl,⟨W,W,W,W,W,tV⟩,⟨WLs.refl _,WLs.refl _,tV⟩,rfl⟩
abbrev apBI(f:Vl)(args:List Vl)(ps:List BA)(p:PV)(i:Int)(ext:Ext):S:=⟨[(0,.v (.xp 1 0)),(2,.v (.sl 7 (Vl.cs args))),(4,.lp 4 0),(6,.lp 6 0),(7,.v p),(57,.v (.sl 1 (nmsC ps))),(58,.v (.int .i64 ps.length)),(59,.v (.int .i64 i))],[(4,vlV f),(6,jk7)],ext⟩
section
variable (f:Vl) (args:List Vl) (ps:List BA)
include f args ps
theorem apBB0(i:Nat)(ext:Ext)(hi:i<ps.length)(ha:i<args.length)(hn:ps.length<=1000000000)(cx:Cx)(hcx:cx.n=83){Q:PExit->S->Prop}(hq:Q (.normal) (S.mk [(0,.v (.xp 1 0)),(2,vL 7 (Vl.cs args)),(4,.lp 4 0),(6,.lp 6 0),(7,.v (.ro [.str (List.getD ps i nm0),pI (vlO (List.getD args i default)),pI (vlN (List.getD args i default)),.str (vlNm (List.getD args i default)),.sl 7 (Vl.cs (vlK (List.getD args i default))),.sl 1 (nmsC (vlP (List.getD args i default))),.sl 7 (Ex.cs (vlB (List.getD args i default))),.sl 8 (Bd.cs (vlBd (List.getD args i default))),.nilp] 0)),(57,vL 1 (nmsC ps)),(58,vI6 (ps.length:Int)),(59,vI6 ((i:Int)+1))] [(4,vlV f),(6,jk7)] ext)):PW prog cx (loopF f114 1) (apBI f args ps (scP []) (i:Int) ext) Q:=
 pw mdE 83 [dt ((i:Int)<(ps.length:Int)),am ((0:Int)<=(i:Int)/\(i:Int)<((nmsC ps).length:Int)) qZ,xNm ps i hi,am ((0:Int)<=(i:Int)/\(i:Int)<((Vl.cs args).length:Int)) qZ,xVl args i ha,wr ((i:Int)+1)] [0,2,4,6,7,57,58,59] [4,6] hcx hq
theorem apBB1(x:Bd)(r:List Bd)(i:Nat)(ext:Ext)(hi:i<ps.length)(ha:i<args.length)(hn:ps.length<=1000000000)(cx:Cx)(hcx:cx.n=83){Q:PExit->S->Prop}(hq:Q (.normal) (S.mk [(0,.v (.xp 1 0)),(2,vL 7 (Vl.cs args)),(4,.lp 4 0),(6,.lp 6 0),(7,.v (.ro [.str (List.getD ps i nm0),pI (vlO (List.getD args i default)),pI (vlN (List.getD args i default)),.str (vlNm (List.getD args i default)),.sl 7 (Vl.cs (vlK (List.getD args i default))),.sl 1 (nmsC (vlP (List.getD args i default))),.sl 7 (Ex.cs (vlB (List.getD args i default))),.sl 8 (Bd.cs (vlBd (List.getD args i default))),.ro [.str (bdNm x),pI (vlO (bdV x)),pI (vlN (bdV x)),.str (vlNm (bdV x)),.sl 7 (Vl.cs (vlK (bdV x))),.sl 1 (nmsC (vlP (bdV x))),.sl 7 (Ex.cs (vlB (bdV x))),.sl 8 (Bd.cs (vlBd (bdV x))),scP r] 0] 0)),(57,vL 1 (nmsC ps)),(58,vI6 (ps.length:Int)),(59,vI6 ((i:Int)+1))] [(4,vlV f),(6,jk7)] ext)):PW prog cx (loopF f114 1) (apBI f args ps (scP (x::r)) (i:Int) ext) Q:=
 pw mdE 83 [dt ((i:Int)<(ps.length:Int)),am ((0:Int)<=(i:Int)/\(i:Int)<((nmsC ps).length:Int)) qZ,xNm ps i hi,am ((0:Int)<=(i:Int)/\(i:Int)<((Vl.cs args).length:Int)) qZ,xVl args i ha,wr ((i:Int)+1)] [0,2,4,6,7,57,58,59] [4,6] hcx hq
theorem apBE(p:PV)(ext:Ext)(cx:Cx)(hcx:cx.n=83){Q:PExit->S->Prop}(hq:Q (.exit 2) (S.mk [(0,.v (.xp 1 0)),(2,vL 7 (Vl.cs args)),(4,.lp 4 0),(6,.lp 6 0),(7,.v p),(57,vL 1 (nmsC ps)),(58,vI6 (ps.length:Int)),(59,vI6 (ps.length:Int))] [(4,vlV f),(6,jk7)] ext)):PW prog cx (loopF f114 1) (apBI f args ps p (ps.length:Int) ext) Q:=
 pw mdE 83 [df ((ps.length:Int)<(ps.length:Int))] [0,2,4,6,7,57,58,59] [4,6] hcx hq
end
theorem apB_loop(f:Vl)(args:List Vl)(ps:List BA)(s:List Bd)(ext:Ext)(h:ps.length=args.length)(hn:ps.length<=1000000000):(Ob.loop 83 (loopF f114 1) (apBI f args ps (scP s) 0 ext) (.exit 2) ⟨[(0,.v (.xp 1 0)),(2,.v (.sl 7 (Vl.cs args))),(4,.lp 4 0),(6,.lp 6 0),(7,.v (scP (bnds ps args s)))],[(4,vlV f),(6,jk7)],ext⟩).ok prog:=by
 have:=Ob.loop_idx (P:=prog) (n:=83) (c:=(loopF f114 1)) ps.length (fun i=>apBI f args ps (scP (bnds (ps.take i) (args.take i) s)) i ext) (fun _=>(.exit 2,⟨[(0,.v (.xp 1 0)),(2,.v (.sl 7 (Vl.cs args))),(4,.lp 4 0),(6,.lp 6 0),(7,.v (scP (bnds ps args s)))],[(4,vlV f),(6,jk7)],ext⟩)) ?_ ?_ 0 sM
 ·exact this
 ·intro i hlt cx hcx
  have hb:=bnds_take h hlt s
  have ha:i<args.length:=h ▸ hlt
  simp only [hb]
  cases hacc:bnds (ps.take i) (args.take i) s with
  | nil=>exact apBB0 f args ps i ext hlt ha hn cx hcx (.inl ⟨rfl,⟨⟨W,W,W,W,W,W,W,W,tV⟩,⟨WLs.refl _,WLs.refl _,tV⟩,rfl⟩,tV⟩)
  | cons x r=>exact apBB1 f args ps x r i ext hlt ha hn cx hcx (.inl ⟨rfl,⟨⟨W,W,W,W,W,W,W,W,tV⟩,⟨WLs.refl _,WLs.refl _,tV⟩,rfl⟩,tV⟩)
 ·intro cx hcx
  have e1:bnds (ps.take ps.length) (args.take ps.length) s=bnds ps args s:=by rw [List.take_length,h,List.take_length]
  simp only [e1]
  exact apBE f args ps _ ext cx hcx ⟨by simp,rfl,⟨W,W,W,W,W,tV⟩,⟨WLs.refl _,WLs.refl _,tV⟩,rfl⟩
section
variable (cK:C5) (l:List Df) (fu st:Int) (wh:BA) (f:Vl) (args:List Vl)
include cK l fu st wh f args
theorem eAppO(h:¬vlO f=5):Ef 114 [.xp 1 0,.agg (vlL f),.sl 7 (Vl.cs args)] (EE cK l fu st wh) (.panic (stopP 19)) (EE cK l fu st wh):=
 ef mdE [cl (@eNeed_1 (vlO f==5) sA)] func114
theorem eAppL_1(h:vlO f=5)(h1:vlNm f=nm0)(h2:¬((vlB f).length=1/\(vlP f).length=args.length))(hx0:((vlB f).length:Int)=1):Ef 114 [.xp 1 0,.agg (vlL f),.sl 7 (Vl.cs args)] (EE cK l fu st wh) (.panic (stopP 19)) (EE cK l fu st wh):=
 ef mdE [cl (@eNeed_2 (vlO f==5) sA),bf (!ByteArray.toList (vlNm f)==ByteArray.toList nm0) (bnF (bsT h1)),sl (Ex.cs_len (vlB f)),rp 3 (et1 hx0),sl (nmsC_len (vlP f)),rp 2 (et1 hx0),sl (Vl.cs_len args),rp 2 (et1 hx0),cl (@eNeed_1 (((vlP f).length:Int)==(args.length:Int)) (beF oM))] func114
theorem eAppL_2(h:vlO f=5)(h1:vlNm f=nm0)(h2:¬((vlB f).length=1/\(vlP f).length=args.length))(hx0:¬((vlB f).length:Int)=1):Ef 114 [.xp 1 0,.agg (vlL f),.sl 7 (Vl.cs args)] (EE cK l fu st wh) (.panic (stopP 19)) (EE cK l fu st wh):=
 ef mdE [cl (@eNeed_2 (vlO f==5) sA),bf (!ByteArray.toList (vlNm f)==ByteArray.toList nm0) (bnF (bsT h1)),sl (Ex.cs_len (vlB f)),rp 7 (en1 hx0),cl (@eNeed_1 (false) rF)] func114
theorem eAppU(h0:l.length<=1000000000)(h:vlO f=5)(h1:¬vlNm f=nm0)(h2:findD (vlNm f) l=none):Ef 114 [.xp 1 0,.agg (vlL f),.sl 7 (Vl.cs args)] (EE cK l fu st wh) (.panic (stopP 19)) (EE cK l fu st wh):=
 ef mdE [cl (@eNeed_2 (vlO f==5) sA),bt (!ByteArray.toList (vlNm f)==ByteArray.toList nm0) (bnT (bsF h1)),ce (@eDefn_2 cK (l) (fu) (st) (wh) (vlNm f) h0 h2)] func114
theorem eAppF(hs:0<=st)(hf:fu<=1000000)(h:vlO f=5)(h1:vlNm f=nm0)(h2:(vlB f).length=1)(h3:(vlP f).length=args.length)(h4:st>=fu):Ef 114 [.xp 1 0,.agg (vlL f),.sl 7 (Vl.cs args)] (EE cK l fu st wh) (.panic (stopP 24)) (EE cK l fu st wh):=
 ef mdE [cl (@eNeed_2 (vlO f==5) sA),bf (!ByteArray.toList (vlNm f)==ByteArray.toList nm0) (bnF (bsT h1)),sl (Ex.cs_len (vlB f)),rp 3 (et ((vlB f).length:Int) 1),sl (nmsC_len (vlP f)),rp 2 (et ((vlB f).length:Int) 1),sl (Vl.cs_len args),rp 2 (et ((vlB f).length:Int) 1),cl (@eNeed_2 (((vlP f).length:Int)==(args.length:Int)) sA),ce (@eStep_1 cK (l) (fu) (st) (wh) hs hf h4)] func114
theorem eAppT(hs:0<=st)(hf:fu<=1000000)(hb:(vlBd f).length<=1000000000)(hp:(vlP f).length<=1000000000)(h:vlO f=5)(h1:vlNm f=nm0)(h2:(vlB f).length=1)(h3:(vlP f).length=args.length)(h4:¬st>=fu)(u:Vl)(st':Int)(hv:evOk cK l fu (bnds (vlP f) args (vlBd f).reverse) ((vlB f).getD 0 default) (st+1) wh u st'):Ef 114 [.xp 1 0,.agg (vlL f),.sl 7 (Vl.cs args)] (EE cK l fu st wh) (rA (vlL u)) (EE cK l fu st' wh):=
 ef mdE [cl (@eNeed_2 (vlO f==5) sA),bf (!ByteArray.toList (vlNm f)==ByteArray.toList nm0) (bnF (bsT h1)),sl (Ex.cs_len (vlB f)),rp 3 (et ((vlB f).length:Int) 1),sl (nmsC_len (vlP f)),rp 2 (et ((vlB f).length:Int) 1),sl (Vl.cs_len args),rp 2 (et ((vlB f).length:Int) 1),cl (@eNeed_2 (((vlP f).length:Int)==(args.length:Int)) sA),ce (@eStep_2 cK (l) (fu) (st) (wh) hs hf h4),sl (Bd.cs_len (vlBd f)),lp (S.mk [(0,.v (.xp 1 0)),(1,.v (.agg (vlL f))),(2,vL 7 (Vl.cs args)),(4,.lp 4 0),(6,.lp 6 0),(12,.lp 4 0),(13,vI6 (vlO f)),(14,.v (.bool (vlO f==5))),(15,.v (.tup [])),(16,.lp 4 2),(17,vS (vlNm f)),(18,.v (.bool !ByteArray.toList (vlNm f)==ByteArray.toList nm0)),(26,.lp 4 5),(27,vL 7 (Ex.cs (vlB f))),(28,vI6 ((vlB f).length:Int)),(29,.v (.bool (((vlB f).length:Int)==1))),(30,.v (.bool (((vlB f).length:Int)==1))),(31,.lp 4 4),(32,vL 1 (nmsC (vlP f))),(33,vI6 ((vlP f).length:Int)),(34,vL 7 (Vl.cs args)),(35,vI6 (args.length:Int)),(36,.v (.bool (((vlP f).length:Int)==(args.length:Int)))),(37,.v (.bool (((vlP f).length:Int)==(args.length:Int)))),(38,.v (.tup [])),(39,.v (.xp 1 0)),(40,.v (.tup [])),(7,.v .nilp),(41,.lp 4 6),(42,vL 8 (Bd.cs (vlBd f))),(43,vI6 ((vlBd f).length:Int)),(44,vI6 0)] [(4,vlV f),(6,vZ)] (EE cK l fu (st+1) wh)) (@apA_loop (f) (args) (vlBd f) (EE cK l fu (st+1) wh) hb) ⟨⟨W,W,W,W,W,W,W,W,tV⟩,⟨⟨W,W,W,W,W,W,W,tV⟩,⟨Wq,Wq,Wq,Wq,Wq,Wq,Wq,tV⟩,tV⟩,rfl⟩,sl (nmsC_len (vlP f)),lp (S.mk [(0,.v (.xp 1 0)),(2,vL 7 (Vl.cs args)),(4,.lp 4 0),(6,.lp 6 0),(7,.v (scP (List.reverse (vlBd f)))),(56,.lp 4 4),(57,vL 1 (nmsC (vlP f))),(58,vI6 ((vlP f).length:Int)),(59,vI6 0)] [(4,vlV f),(6,jk7)] (EE cK l fu (st+1) wh)) (@apB_loop (f) (args) (vlP f) (List.reverse (vlBd f)) (EE cK l fu (st+1) wh) h3 hp) xr,am ((0:Int)<=0/\0<((Ex.cs (vlB f)).length:Int)) qZ,xEx (vlB f) 0,ce hv] func114
theorem eAppE(hs:0<=st)(hf:fu<=1000000)(hb:(vlBd f).length<=1000000000)(hp:(vlP f).length<=1000000000)(h:vlO f=5)(h1:vlNm f=nm0)(h2:(vlB f).length=1)(h3:(vlP f).length=args.length)(h4:¬st>=fu)(k st':Int)(wh':BA)(hv:evEr cK l fu (bnds (vlP f) args (vlBd f).reverse) ((vlB f).getD 0 default) (st+1) wh k st' wh'):Ef 114 [.xp 1 0,.agg (vlL f),.sl 7 (Vl.cs args)] (EE cK l fu st wh) (.panic (stopP k)) (EE cK l fu st' wh'):=
 ef mdE [cl (@eNeed_2 (vlO f==5) sA),bf (!ByteArray.toList (vlNm f)==ByteArray.toList nm0) (bnF (bsT h1)),sl (Ex.cs_len (vlB f)),rp 3 (et ((vlB f).length:Int) 1),sl (nmsC_len (vlP f)),rp 2 (et ((vlB f).length:Int) 1),sl (Vl.cs_len args),rp 2 (et ((vlB f).length:Int) 1),cl (@eNeed_2 (((vlP f).length:Int)==(args.length:Int)) sA),ce (@eStep_2 cK (l) (fu) (st) (wh) hs hf h4),sl (Bd.cs_len (vlBd f)),lp (S.mk [(0,.v (.xp 1 0)),(1,.v (.agg (vlL f))),(2,vL 7 (Vl.cs args)),(4,.lp 4 0),(6,.lp 6 0),(12,.lp 4 0),(13,vI6 (vlO f)),(14,.v (.bool (vlO f==5))),(15,.v (.tup [])),(16,.lp 4 2),(17,vS (vlNm f)),(18,.v (.bool !ByteArray.toList (vlNm f)==ByteArray.toList nm0)),(26,.lp 4 5),(27,vL 7 (Ex.cs (vlB f))),(28,vI6 ((vlB f).length:Int)),(29,.v (.bool (((vlB f).length:Int)==1))),(30,.v (.bool (((vlB f).length:Int)==1))),(31,.lp 4 4),(32,vL 1 (nmsC (vlP f))),(33,vI6 ((vlP f).length:Int)),(34,vL 7 (Vl.cs args)),(35,vI6 (args.length:Int)),(36,.v (.bool (((vlP f).length:Int)==(args.length:Int)))),(37,.v (.bool (((vlP f).length:Int)==(args.length:Int)))),(38,.v (.tup [])),(39,.v (.xp 1 0)),(40,.v (.tup [])),(7,.v .nilp),(41,.lp 4 6),(42,vL 8 (Bd.cs (vlBd f))),(43,vI6 ((vlBd f).length:Int)),(44,vI6 0)] [(4,vlV f),(6,vZ)] (EE cK l fu (st+1) wh)) (@apA_loop (f) (args) (vlBd f) (EE cK l fu (st+1) wh) hb) ⟨⟨W,W,W,W,W,W,W,W,tV⟩,⟨⟨W,W,W,W,W,W,W,tV⟩,⟨Wq,Wq,Wq,Wq,Wq,Wq,Wq,tV⟩,tV⟩,rfl⟩,sl (nmsC_len (vlP f)),lp (S.mk [(0,.v (.xp 1 0)),(2,vL 7 (Vl.cs args)),(4,.lp 4 0),(6,.lp 6 0),(7,.v (scP (List.reverse (vlBd f)))),(56,.lp 4 4),(57,vL 1 (nmsC (vlP f))),(58,vI6 ((vlP f).length:Int)),(59,vI6 0)] [(4,vlV f),(6,jk7)] (EE cK l fu (st+1) wh)) (@apB_loop (f) (args) (vlP f) (List.reverse (vlBd f)) (EE cK l fu (st+1) wh) h3 hp) xr,am ((0:Int)<=0/\0<((Ex.cs (vlB f)).length:Int)) qZ,xEx (vlB f) 0,ce hv] func114
end
end Go.Proofs.YtgonmmckkikmaaaGreat
