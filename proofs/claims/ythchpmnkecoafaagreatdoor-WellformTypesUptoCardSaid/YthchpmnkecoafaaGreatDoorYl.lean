/- Values of Go as plain data, an evaluator over them, and what the functions of the program return; part Yl. -/
import Derived.Test.YthchpmnkecoafaaGreatDoorYk
import Derived.Test.YthchpmnkecoafaaGreatDoorYc
import Derived.Test.YthchpmnkecoafaaGreatDoorYa
set_option linter.unusedSectionVars false
set_option linter.unusedSimpArgs false
set_option linter.unusedVariables false
namespace Go.Proofs.YthchpmnkecoafaaGreatDoor
open Go.Proofs.Tryz
open Go.Pv Go.Proofs.Tryz
set_option maxRecDepth 100000
theorem gLe{a b:Nat}(h:(decide ((a:Int)>0) && !((b:Int)==(a:Int)))=false):a<=b:=by
 by_cases h0:(a:Int)>0
 ·rw [decide_eq_true h0,Bool.true_and,Bool.not_eq_false'] at h
  have:=beq_iff_eq.1 h; omega
 ·omega
section
variable (m:Mo) (v:Nv) (t:Tp) (tf:Nv->Tp->Int) (Bg:∀ (u:Nv) (i:Nat),i<(A8 t).length->JC v u i->Pu 37 [.agg (Bd u),.agg (Ci m),.agg (Ay ((A8 t).getD i default))] (.ret (.int .i64 (tf u ((A8 t).getD i default))))) (hwl:∀w:Tp,w∈A8 t->Pu 37 [.agg (Bd v),.agg (Ci m),.agg (Ay w)] (.ret (.int .i64 (tf v w)))) (hE:BQ v) (E3:(AS v).length<=50000000) (Bq:A6 (Ay t)<=10000000) (Ct:(Av m).length<=1048576) (WE:(A8 t).length<=1000000000) (QB:(Ak t).length<=1000000000)
include m v t tf Bg hwl hE E3 Bq Ct WE QB
theorem zF(Ac:AA t=6)(Ii:Tp)(Qw:Nv)(AK:HS t tf (A8 t) 0 v=GS.e0 Ii Qw):Pu 37 [.agg (Bd v),.agg (Ci m),.agg (Ay t)] (rI (tf Qw Ii)):=
 pu Ad (fun e=>[Bh Ac,lp (S.mk [(0,.v (.agg (Bd v))),(1,.v (.agg (Ci m))),(2,.v (.agg (Ay t))),(3,.lp 3 0),(4,.lp 4 0),(5,.lp 5 0),(6,A1 0),(14,.lp 5 0),(15,A1 (AA t)),(16,.v (.bool (AA t==6))),(7,A1 0)] [(3,CT v),(4,El m),(5,Bj t)] e) (@A8j (m) (v) (t) (tf) Bg Ac E3 Bq (v) (e) WE (by (apply gO0 <;> first | assumption | omega | decide)) Ii Qw AK) xr]) func37
theorem zG(Ac:AA t=6)(Ii:Nv)(Ao:HS t tf (A8 t) 0 v=GS.e1 Ii):Pu 37 [.agg (Bd v),.agg (Ci m),.agg (Ay t)] (rI 0):=
 pu Ad (fun e=>[Bh Ac,lp (S.mk [(0,.v (.agg (Bd v))),(1,.v (.agg (Ci m))),(2,.v (.agg (Ay t))),(3,.lp 3 0),(4,.lp 4 0),(5,.lp 5 0),(6,A1 0),(14,.lp 5 0),(15,A1 (AA t)),(16,.v (.bool (AA t==6))),(7,A1 0)] [(3,CT v),(4,El m),(5,Bj t)] e) (@A8k (m) (v) (t) (tf) Bg Ac E3 Bq (v) (e) WE (by (apply gO0 <;> first | assumption | omega | decide)) Ii Ao) xr]) func37
theorem zH(Ac:¬AA t=6)(Ae:¬Bp (FQ v (bM 118) t) (Br t)=0):Pu 37 [.agg (Bd v),.agg (Ci m),.agg (Ay t)] (rI (Bp (FQ v (bM 118) t) (Br t))):=
 pm Ad [Aw Ac,cl (@WH (v) (bM 118) (t) hE oM),cl (@TD (FQ v (bM 118) t) (Br t) (by (apply dG <;> first | assumption | omega | decide)) (by (apply fG <;> first | assumption | omega | decide))),Bv Ae] func37
theorem zI(Ac:¬AA t=6)(Ae:Bp (FQ v (bM 118) t) (Br t)=0)(Ao:(decide (((Ak t).length:Int)>0)&&((Dq (Au AB (Af t) (Av m))).length:Int) != ((Ak t).length:Int))=true):Pu 37 [.agg (Bd v),.agg (Ci m),.agg (Ay t)] (rI 13):=
 pm Ad [Aw Ac,cl (@WH (v) (bM 118) (t) hE oM),cl (@TD (FQ v (bM 118) t) (Br t) (by (apply dG <;> first | assumption | omega | decide)) (by (apply fG <;> first | assumption | omega | decide))),Bi Ae,cl (@nW (m) (Af t) Ct),sl (Pr.A0 (Ak t)),mg,av (.v (.bool (bif decide (((Ak t).length:Int)>0) then (↑((fun x=>List.length (Prod.snd x)) (2,Vr.cs (Dq (Au AB (Af t) (Av m))))):Int) != (↑((fun x=>List.length (Prod.snd x)) (4,Pr.cs (Ak t))):Int) else false))) (.v (.bool (decide (((Ak t).length:Int)>0)&&((Dq (Au AB (Af t) (Av m))).length:Int) != ((Ak t).length:Int)))) (by (simp only [Pr.A0,Vr.A0,Bool.cond_false_right]; done)),B2 Ao] func37
theorem zJ(Ac:¬AA t=6)(Ae:Bp (FQ v (bM 118) t) (Br t)=0)(Ao:(decide (((Ak t).length:Int)>0)&&((Dq (Au AB (Af t) (Av m))).length:Int) != ((Ak t).length:Int))=false)(Tx:Pr)(QL:Nat)(BU:Ga m v t (Ak t) 0=G9.e0 Tx QL):Pu 37 [.agg (Bd v),.agg (Ci m),.agg (Ay t)] (rI (Bp (Lr v (Vr.mk (bM 118) (Fe (List.getD (Dq (Au AB (Af t) (Av m))) QL default)))) Tx)):=
 pu Ad (fun e=>[Aw Ac,cl (@WH (v) (bM 118) (t) hE oM),cl (@TD (FQ v (bM 118) t) (Br t) (by (apply dG <;> first | assumption | omega | decide)) (by (apply fG <;> first | assumption | omega | decide))),Bi Ae,cl (@nW (m) (Af t) Ct),sl (Pr.A0 (Ak t)),mg,av (.v (.bool (bif decide (((Ak t).length:Int)>0) then (↑((fun x=>List.length (Prod.snd x)) (2,Vr.cs (Dq (Au AB (Af t) (Av m))))):Int) != (↑((fun x=>List.length (Prod.snd x)) (4,Pr.cs (Ak t))):Int) else false))) (.v (.bool (decide (((Ak t).length:Int)>0)&&((Dq (Au AB (Af t) (Av m))).length:Int) != ((Ak t).length:Int)))) (by (simp only [Pr.A0,Vr.A0,Bool.cond_false_right]; done)),AQ Ao,lp (S.mk [(0,.v (.agg (Bd v))),(1,.v (.agg (Ci m))),(2,.v (.agg (Ay t))),(3,.lp 3 0),(4,.lp 4 0),(5,.lp 5 0),(6,A1 0),(14,.lp 5 0),(15,A1 (AA t)),(16,.v (.bool (AA t==6))),(45,.v (.agg (Bd v))),(46,.v (.agg (Ay t))),(47,.v (.agg (Bd (FQ v (bM 118) t)))),(48,.lp 5 4),(49,.v (.agg (AO (Br t)))),(50,A1 (Bp (FQ v (bM 118) t) (Br t))),(9,A1 (Bp (FQ v (bM 118) t) (Br t))),(51,A1 (Bp (FQ v (bM 118) t) (Br t))),(52,.v (.bool (Bp (FQ v (bM 118) t) (Br t) != 0))),(55,.v (.agg (Ci m))),(56,.lp 5 1),(57,vS (Af t)),(58,.v (.AE [.agg (Gn (Au AB (Af t) (Av m))),.bool (Bl AB (Af t) (Av m))])),(54,.v (.AE [.agg (Gn (Au AB (Af t) (Av m))),.bool (Bl AB (Af t) (Av m))])),(59,.v (.agg (Gn (Au AB (Af t) (Av m))))),(60,.v (.bool (Bl AB (Af t) (Av m)))),(10,.lp 10 0),(11,.v (.bool (Bl AB (Af t) (Av m)))),(61,.lp 5 8),(62,vL 4 (Pr.cs (Ak t))),(63,A1 ((Ak t).length:Int)),(64,.v (.bool (decide (((Ak t).length:Int)>0)))),(65,.v (.bool (decide (((Ak t).length:Int)>0)))),(73,.v (.bool (decide (((Ak t).length:Int)>0)&&((Dq (Au AB (Af t) (Av m))).length:Int) != ((Ak t).length:Int)))),(12,A1 0)] [(3,CT v),(4,El m),(5,Bj t),(10,RP (Au AB (Af t) (Av m)))] e) (@A8l (m) (v) (t) (by (apply gLe <;> first | assumption | omega | decide)) Ac hE E3 Bq Ct Ae (e) QB Tx QL BU) xr]) func37
theorem zK(Ac:¬AA t=6)(Ae:Bp (FQ v (bM 118) t) (Br t)=0)(Ao:(decide (((Ak t).length:Int)>0)&&((Dq (Au AB (Af t) (Av m))).length:Int) != ((Ak t).length:Int))=false)(AK:Ga m v t (Ak t) 0=G9.e1)(QL:Tp)(BU:Gb v tf (A8 t)=GU.e0 QL):Pu 37 [.agg (Bd v),.agg (Ci m),.agg (Ay t)] (rI (tf v QL)):=
 pu Ad (fun e=>[Aw Ac,cl (@WH (v) (bM 118) (t) hE oM),cl (@TD (FQ v (bM 118) t) (Br t) (by (apply dG <;> first | assumption | omega | decide)) (by (apply fG <;> first | assumption | omega | decide))),Bi Ae,cl (@nW (m) (Af t) Ct),sl (Pr.A0 (Ak t)),mg,av (.v (.bool (bif decide (((Ak t).length:Int)>0) then (↑((fun x=>List.length (Prod.snd x)) (2,Vr.cs (Dq (Au AB (Af t) (Av m))))):Int) != (↑((fun x=>List.length (Prod.snd x)) (4,Pr.cs (Ak t))):Int) else false))) (.v (.bool (decide (((Ak t).length:Int)>0)&&((Dq (Au AB (Af t) (Av m))).length:Int) != ((Ak t).length:Int)))) (by (simp only [Pr.A0,Vr.A0,Bool.cond_false_right]; done)),AQ Ao,lp (S.mk [(0,.v (.agg (Bd v))),(1,.v (.agg (Ci m))),(2,.v (.agg (Ay t))),(3,.lp 3 0),(4,.lp 4 0),(5,.lp 5 0),(6,A1 0),(14,.lp 5 0),(15,A1 (AA t)),(16,.v (.bool (AA t==6))),(45,.v (.agg (Bd v))),(46,.v (.agg (Ay t))),(47,.v (.agg (Bd (FQ v (bM 118) t)))),(48,.lp 5 4),(49,.v (.agg (AO (Br t)))),(50,A1 (Bp (FQ v (bM 118) t) (Br t))),(9,A1 (Bp (FQ v (bM 118) t) (Br t))),(51,A1 (Bp (FQ v (bM 118) t) (Br t))),(52,.v (.bool (Bp (FQ v (bM 118) t) (Br t) != 0))),(55,.v (.agg (Ci m))),(56,.lp 5 1),(57,vS (Af t)),(58,.v (.AE [.agg (Gn (Au AB (Af t) (Av m))),.bool (Bl AB (Af t) (Av m))])),(54,.v (.AE [.agg (Gn (Au AB (Af t) (Av m))),.bool (Bl AB (Af t) (Av m))])),(59,.v (.agg (Gn (Au AB (Af t) (Av m))))),(60,.v (.bool (Bl AB (Af t) (Av m)))),(10,.lp 10 0),(11,.v (.bool (Bl AB (Af t) (Av m)))),(61,.lp 5 8),(62,vL 4 (Pr.cs (Ak t))),(63,A1 ((Ak t).length:Int)),(64,.v (.bool (decide (((Ak t).length:Int)>0)))),(65,.v (.bool (decide (((Ak t).length:Int)>0)))),(73,.v (.bool (decide (((Ak t).length:Int)>0)&&((Dq (Au AB (Af t) (Av m))).length:Int) != ((Ak t).length:Int)))),(12,A1 0)] [(3,CT v),(4,El m),(5,Bj t),(10,RP (Au AB (Af t) (Av m)))] e) (@oI (m) (v) (t) (by (apply gLe <;> first | assumption | omega | decide)) Ac hE E3 Bq Ct Ae (e) QB AK) xr,lp (S.mk [(3,.lp 3 0),(4,.lp 4 0),(5,.lp 5 0),(10,.lp 10 0),(13,A1 0)] [(3,CT v),(4,El m),(5,Bj t),(10,RP (Au AB (Af t) (Av m)))] e) (@A8m (m) (v) (t) (by (apply gLe <;> first | assumption | omega | decide)) (tf) hwl Ac hE E3 Bq Ct Ae (e) WE QL BU) xr]) func37
theorem zL(Ac:¬AA t=6)(Ae:Bp (FQ v (bM 118) t) (Br t)=0)(Ao:(decide (((Ak t).length:Int)>0)&&((Dq (Au AB (Af t) (Av m))).length:Int) != ((Ak t).length:Int))=false)(AK:Ga m v t (Ak t) 0=G9.e1)(B9:Gb v tf (A8 t)=GU.e1):Pu 37 [.agg (Bd v),.agg (Ci m),.agg (Ay t)] (rI 0):=
 pu Ad (fun e=>[Aw Ac,cl (@WH (v) (bM 118) (t) hE oM),cl (@TD (FQ v (bM 118) t) (Br t) (by (apply dG <;> first | assumption | omega | decide)) (by (apply fG <;> first | assumption | omega | decide))),Bi Ae,cl (@nW (m) (Af t) Ct),sl (Pr.A0 (Ak t)),mg,av (.v (.bool (bif decide (((Ak t).length:Int)>0) then (↑((fun x=>List.length (Prod.snd x)) (2,Vr.cs (Dq (Au AB (Af t) (Av m))))):Int) != (↑((fun x=>List.length (Prod.snd x)) (4,Pr.cs (Ak t))):Int) else false))) (.v (.bool (decide (((Ak t).length:Int)>0)&&((Dq (Au AB (Af t) (Av m))).length:Int) != ((Ak t).length:Int)))) (by (simp only [Pr.A0,Vr.A0,Bool.cond_false_right]; done)),AQ Ao,lp (S.mk [(0,.v (.agg (Bd v))),(1,.v (.agg (Ci m))),(2,.v (.agg (Ay t))),(3,.lp 3 0),(4,.lp 4 0),(5,.lp 5 0),(6,A1 0),(14,.lp 5 0),(15,A1 (AA t)),(16,.v (.bool (AA t==6))),(45,.v (.agg (Bd v))),(46,.v (.agg (Ay t))),(47,.v (.agg (Bd (FQ v (bM 118) t)))),(48,.lp 5 4),(49,.v (.agg (AO (Br t)))),(50,A1 (Bp (FQ v (bM 118) t) (Br t))),(9,A1 (Bp (FQ v (bM 118) t) (Br t))),(51,A1 (Bp (FQ v (bM 118) t) (Br t))),(52,.v (.bool (Bp (FQ v (bM 118) t) (Br t) != 0))),(55,.v (.agg (Ci m))),(56,.lp 5 1),(57,vS (Af t)),(58,.v (.AE [.agg (Gn (Au AB (Af t) (Av m))),.bool (Bl AB (Af t) (Av m))])),(54,.v (.AE [.agg (Gn (Au AB (Af t) (Av m))),.bool (Bl AB (Af t) (Av m))])),(59,.v (.agg (Gn (Au AB (Af t) (Av m))))),(60,.v (.bool (Bl AB (Af t) (Av m)))),(10,.lp 10 0),(11,.v (.bool (Bl AB (Af t) (Av m)))),(61,.lp 5 8),(62,vL 4 (Pr.cs (Ak t))),(63,A1 ((Ak t).length:Int)),(64,.v (.bool (decide (((Ak t).length:Int)>0)))),(65,.v (.bool (decide (((Ak t).length:Int)>0)))),(73,.v (.bool (decide (((Ak t).length:Int)>0)&&((Dq (Au AB (Af t) (Av m))).length:Int) != ((Ak t).length:Int)))),(12,A1 0)] [(3,CT v),(4,El m),(5,Bj t),(10,RP (Au AB (Af t) (Av m)))] e) (@oI (m) (v) (t) (by (apply gLe <;> first | assumption | omega | decide)) Ac hE E3 Bq Ct Ae (e) QB AK) xr,lp (S.mk [(3,.lp 3 0),(4,.lp 4 0),(5,.lp 5 0),(10,.lp 10 0),(13,A1 0)] [(3,CT v),(4,El m),(5,Bj t),(10,RP (Au AB (Af t) (Av m)))] e) (@A8n (m) (v) (t) (by (apply gLe <;> first | assumption | omega | decide)) (tf) hwl Ac hE E3 Bq Ct Ae (e) WE B9) xr]) func37
end
theorem O6:∀ {l:List Tp} {i:Nat},i<l.length->i+A6 (Ay (l.getD i default))<=Am (Tp.cs l)
 | [],i,h=>by simp at h
 | c::r,0,_=>by
  have e:Tp.cs (c::r)=Ay c::Tp.cs r:=by simp [Tp.AD]
  rw [e]; simp only [Am,List.getD_cons_zero]; omega
 | c::r,i+1,h=>by
  have e:Tp.cs (c::r)=Ay c::Tp.cs r:=by simp [Tp.AD]
  have ih:=O6 (l:=r) (i:=i) (by simpa using h)
  have hc:1<=A6 (Ay c):=Cp _ _
  rw [e]; simp only [Am,List.getD_cons_succ]; omega
def tyS(m:Mo)(tf:Nv->Tp->Int)(v:Nv)(t:Tp)(k:Int):Int:=
 if AA t=6 then (match EU t tf (A8 t) 0 v with
  | .e0 el u=>tf u el
  | .e1 _=>0)
 else if Bp (GF v vSS t) (Br t)=0 then
  (if ((Ak t).length:Int)>0 then (if ((Ak t).length:Int)=((Dq (Au AB (Af t) (Av m))).length:Int) then (match FD m v t (Ak t) 0 with
   | .e0 el i=>Bp (Lr v (.mk vSS (Fe ((Dq (Au AB (Af t) (Av m))).getD i default)))) el
   | .e1=>k) else 13) else k)
 else Bp (GF v vSS t) (Br t)
def Sd(m:Mo):Nat->Nv->Tp->Int
 | 0,_,_=>0
 | d+1,v,t=>tyS m (Sd m d) v t (BX (Sd m d v) (A8 t))
theorem dK(m:Mo)(Ct:(Av m).length<=1048576):∀ (d:Nat) (t:Tp) (v:Nv),A6 (Ay t)<d->d<=10000001->BQ v->(AS v).length+A6 (Ay t)<=50000000->Pu 35 [.agg (IC m v),.agg (Ay t)] (.ret (.int .i64 (Sd m d v t)))
 | 0,_,_,h,_,_,_=>by omega
 | d+1,t,v,h,hd,hE,E3=>by
  have h1:=BM t
  have h2:=Pr.BT (Ak t)
  have h3:=Tp.BT (A8 t)
  have hk:∀ (u:Nv) (i:Nat),i<(A8 t).length->JC v u i->Pu 35 [.agg (IC m u),.agg (Ay ((A8 t).getD i default))] (.ret (.int .i64 (Sd m d u ((A8 t).getD i default)))):=fun u i hi hu=>dK m Ct d _ u (by have:=Tp.mem (BF hi); omega) oM hu.1 (by have:=hu.2; have:=O6 hi; omega)
  have Vd:=etT (A8 t) m v (Sd m d v) (fun w hw=>dK m Ct d w v (by have:=Tp.mem hw; omega) oM hE (by have:=Tp.mem hw; omega)) oM
  have Ae:(AS v).length<=50000000:=by omega
  have Ao:A6 (Ay t)<=10000000:=by omega
  have AK:(A8 t).length<=1000000000:=by omega
  have B9:(Ak t).length<=1000000000:=by omega
  rw [Sd]
  unfold tyS
  by_cases h6:AA t=6
  ·rw [iP h6]
   cases hr:EU t (Sd m d) (A8 t) 0 v with
   | e0 el u=>exact A8c m v t _ hk hE Ae Ao Ct _ Vd AK B9 h6 el u hr
   | e1 u=>exact A8d m v t _ hk hE Ae Ao Ct _ Vd AK B9 h6 u hr
  ·rw [iN h6]
   by_cases hs:Bp (GF v vSS t) (Br t)=0
   ·rw [iP hs]
    by_cases hp:((Ak t).length:Int)>0
    ·rw [iP hp]
     by_cases hl:((Ak t).length:Int)=((Dq (Au AB (Af t) (Av m))).length:Int)
     ·rw [iP hl]
      cases hr:FD m v t (Ak t) 0 with
      | e0 el i=>exact A8g m v t _ hk hE Ae Ao Ct _ Vd AK B9 h6 hs hp hl el i hr
      | e1=>exact A8h m v t _ hk hE Ae Ao Ct _ Vd AK B9 h6 hs hp hl hr
     ·rw [iN hl]; exact A8f m v t _ hk hE Ae Ao Ct _ Vd AK B9 h6 hs hp hl
    ·rw [iN hp]; exact A8i m v t _ hk hE Ae Ao Ct _ Vd AK B9 h6 hs hp
   ·rw [iN hs]; exact A8e m v t _ hk hE Ae Ao Ct _ Vd AK B9 h6 hs
def tyF(m:Mo)(v:Nv)(t:Tp):Int:=Sd m (A6 (Ay t)+1) v t
theorem tyT(m:Mo)(v:Nv)(t:Tp)(Ct:(Av m).length<=1048576)(hE:BQ v)(hs:A6 (Ay t)<=10000000)(E3:(AS v).length<=10000000):Pu 35 [.agg (IC m v),.agg (Ay t)] (.ret (.int .i64 (tyF m v t))):=dK m Ct _ t v oM oM hE oM
theorem zM(t:Tp)(hs:A6 (Ay t)<=10000000):Pu 33 [.agg (Ay t)] (.ret (.int .i64 (DW t))):=rcS t oM
theorem A8o(m:Mo)(v:Nv)(t:Tp)(Ct:(Av m).length<=1048576)(hs:A6 (Ay t)<=10000000):Pu 34 [.agg (IC m v),.agg (Ay t)] (.ret (.int .i64 (y5 m t))):=knT m v t Ct oM
def J6(m:Mo)(v:Nv)(t:Tp):Int:=(if DW t=0 then (if y5 m t=0 then (tyF m v t) else (y5 m t)) else (DW t))
theorem wt(m:Mo)(v:Nv)(t:Tp)(Ct:(Av m).length<=1048576)(hE:BQ v)(hs:A6 (Ay t)<=10000000)(E3:(AS v).length<=10000000):Pu 14 [.agg (Bd v),.agg (Ci m),.agg (Ay t)] (rI (J6 m v t)):=by
 by_cases h0:DW t=0
 ·by_cases h1:y5 m t=0
  ·simp only [J6,iP h0,iP h1]; exact pm Ad [cl (@zM (t) hs),Bi h0,cl (@A8o (m) (v) (t) Ct hs),Bi h1,cl (@tyT (m) (v) (t) Ct hE hs E3)] func14
  ·simp only [J6,iP h0,iN h1]; exact pm Ad [cl (@zM (t) hs),Bi h0,cl (@A8o (m) (v) (t) Ct hs),Bv h1] func14
 ·simp only [J6,iN h0]; exact pm Ad [cl (@zM (t) hs),Bv h0] func14
inductive WI:Tp->Prop
 | mk (t:Tp) (h:∀s∈Aj t,¬s=Ah) (hk:∀w∈A8 t,WI w):WI t
theorem jI{s:BA}(h:Ck (AR s)=0):¬s=Ah:=by
 intro e
 subst e
 revert h
 decide
theorem Vu:∀ (d:Nat) (t:Tp),A6 (Ay t)<d->X1 d t=0->WI t
 | 0,_,h,_=>by omega
 | d+1,t,h,he=>by
  rw [X1] at he
  by_cases hp:IB t=0
  ·rw [iP hp] at he
   refine .mk t ?_ fun w hw=>Vu d w (by have:=Tp.mem hw; have:=BM t; omega) (KO he w hw)
   unfold IB at hp
   split at hp
   ·cases hp
   ·split at hp
    ·rename_i hz
     exact fun s hs=>jI (KO hz s hs)
    ·cases hp
  ·rw [iN hp] at he
   exact absurd he hp
theorem jJ{t:Tp}(h:DW t=0):WI t:=by
 unfold DW at h
 split at h
 ·exact Vu _ t (Nat.lt_succ_self _) h
 ·rename_i hn; exact absurd h hn
theorem Vv{v:Nv}{name:BA}{t:Tp}(h:¬name=Ah):FQ v name t=GF v name t:=by
 unfold FQ GF
 rw [BZ h,Bool.or_false]
 cases CP (L0 t) <;> rfl
theorem jK{v:Nv}{t:Tp}:FQ v Ah t=v:=by
 unfold FQ
 rw [BL rfl,Bool.or_true,iP rfl]
theorem oJ{t:Tp}{tf:Nv->Tp->Int}(hn:∀s∈Aj t,¬s=Ah):∀ (l:List Tp) (i:Nat) (u:Nv),HS t tf l i u=match EU t tf l i u with
  | .e0 el u' => .e0 el u'
  | .e1 u' => .e1 u'
 | [],i,u=>rfl
 | c::r,i,u=>by
  have ih:=fun i u=>oJ (t:=t) (tf:=tf) hn r i u
  rw [HS,EU]
  by_cases h0:tf u c=0
  ·rw [iP h0,iP h0]
   by_cases h1:(i:Int)<((Aj t).length:Int)
   ·have hm:(Aj t).getD i Ah∈Aj t:=by
     have:i<(Aj t).length:=by omega
     rw [show (Aj t).getD i Ah=(Aj t)[i] by simp [List.getD,List.getElem?_eq_getElem this]]; exact List.getElem_mem _
    rw [iP h1,oH,iP h1,Vv (hn _ hm)]; exact ih _ _
   ·rw [iN h1,oH,iN h1,jK]; exact ih _ _
  ·rw [iN h0,iN h0]
theorem oK{m:Mo}{v:Nv}{t:Tp}:∀ (l:List Pr) (i:Nat),Ga m v t l i=match FD m v t l i with
  | .e0 el j => .e0 el j
  | .e1 => .e1
 | [],i=>rfl
 | c::r,i=>by
  rw [Ga,FD]
  split
  ·exact oK r _
  ·rfl
theorem dL{v:Nv}(tf:Nv->Tp->Int):∀l:List Tp,(BX (tf v) l=0->Gb v tf l = .e1)/\(¬BX (tf v) l=0->∃w,Gb v tf l = .e0 w/\tf v w=BX (tf v) l)
 | []=>⟨fun _=>rfl,fun h=>absurd rfl h⟩
 | c::r=>by
  have ih:=dL (v:=v) tf r
  by_cases hp:tf v c=0
  ·simp only [BX,Gb,hp,if_true]; exact ih
  ·simp only [BX,Gb,hp,if_false]
   exact ⟨fun h=>h.elim,fun _=>⟨c,rfl,rfl⟩⟩
theorem dM(m:Mo)(Ct:(Av m).length<=1048576):∀ (d:Nat) (t:Tp) (v:Nv),A6 (Ay t)<d->d<=10000001->BQ v->(AS v).length+A6 (Ay t)<=50000000->WI t->Pu 37 [.agg (Bd v),.agg (Ci m),.agg (Ay t)] (.ret (.int .i64 (Sd m d v t)))
 | 0,_,_,h,_,_,_,_=>by omega
 | d+1,t,v,h,hd,hE,E3,WO=>by
  have h1:=BM t
  have h2:=Pr.BT (Ak t)
  have h3:=Tp.BT (A8 t)
  have hn:∀s∈Aj t,¬s=Ah:=by cases WO with | mk _ hn _=>exact hn
  have hkn:∀w∈A8 t,WI w:=by cases WO with | mk _ _ hk=>exact hk
  have hk:∀ (u:Nv) (i:Nat),i<(A8 t).length->JC v u i->Pu 37 [.agg (Bd u),.agg (Ci m),.agg (Ay ((A8 t).getD i default))] (.ret (.int .i64 (Sd m d u ((A8 t).getD i default)))):=fun u i hi hu=>dM m Ct d _ u (by have:=Tp.mem (BF hi); omega) oM hu.1 (by have:=hu.2; have:=O6 hi; omega) (hkn _ (BF hi))
  have hl:∀w:Tp,w∈A8 t->Pu 37 [.agg (Bd v),.agg (Ci m),.agg (Ay w)] (.ret (.int .i64 (Sd m d v w))):=fun w hw=>dM m Ct d w v (by have:=Tp.mem hw; omega) oM hE (by have:=Tp.mem hw; omega) (hkn w hw)
  have Ae:(AS v).length<=50000000:=by omega
  have Ao:A6 (Ay t)<=10000000:=by omega
  have AK:(A8 t).length<=1000000000:=by omega
  have B9:(Ak t).length<=1000000000:=by omega
  have hv:FQ v (bM 118) t=GF v vSS t:=Vv dD
  rw [Sd]
  unfold tyS
  by_cases h6:AA t=6
  ·rw [iP h6]
   have he:=oJ (t:=t) (tf:=Sd m d) hn (A8 t) 0 v
   cases hr:EU t (Sd m d) (A8 t) 0 v with
   | e0 el u=>rw [hr] at he; exact zF m v t _ hk hl hE Ae Ao Ct AK B9 h6 el u he
   | e1 u=>rw [hr] at he; exact zG m v t _ hk hl hE Ae Ao Ct AK B9 h6 u he
  ·rw [iN h6]
   by_cases hs:Bp (GF v vSS t) (Br t)=0
   ·rw [iP hs]
    have Sq:Bp (FQ v (bM 118) t) (Br t)=0:=by rw [hv]; exact hs
    have hz:(decide (((Ak t).length:Int)>0)&&((Dq (Au AB (Af t) (Av m))).length:Int) != ((Ak t).length:Int))=false->Ga m v t (Ak t) 0 = .e1->Pu 37 [.agg (Bd v),.agg (Ci m),.agg (Ay t)] (.ret (.int .i64 (BX (Sd m d v) (A8 t)))):=fun hb hy=>by
     by_cases hf:BX (Sd m d v) (A8 t)=0
     ·rw [hf]; exact zL m v t _ hk hl hE Ae Ao Ct AK B9 h6 Sq hb hy ((dL _ _).1 hf)
     ·obtain ⟨w,e1,e2⟩:=(dL (v:=v) (Sd m d) _).2 hf
      rw [<-e2]; exact zK m v t _ hk hl hE Ae Ao Ct AK B9 h6 Sq hb hy w e1
    have he:=oK (m:=m) (v:=v) (t:=t) (Ak t) 0
    by_cases hp:((Ak t).length:Int)>0
    ·rw [iP hp]
     by_cases OP:((Ak t).length:Int)=((Dq (Au AB (Af t) (Av m))).length:Int)
     ·rw [iP OP]
      have hb:(decide (((Ak t).length:Int)>0)&&((Dq (Au AB (Af t) (Av m))).length:Int) != ((Ak t).length:Int))=false:=by rw [<-OP]; simp
      cases hr:FD m v t (Ak t) 0 with
      | e0 el i=>rw [hr] at he; exact zJ m v t _ hk hl hE Ae Ao Ct AK B9 h6 Sq hb el i he
      | e1=>rw [hr] at he; exact hz hb he
     ·rw [iN OP]
      exact zI m v t _ hk hl hE Ae Ao Ct AK B9 h6 Sq (by rw [decide_eq_true hp,Bool.true_and]; exact bne_iff_ne.2 (fun e=>OP e.symm))
    ·rw [iN hp]
     have SS:Ak t=[]:=List.eq_nil_of_length_eq_zero oM
     exact hz (by rw [decide_eq_false hp,Bool.false_and]) (by rw [SS]; rfl)
   ·rw [iN hs]
    have:=zH m v t _ hk hl hE Ae Ao Ct AK B9 h6 (by rw [hv]; exact hs)
    rw [hv] at this
    exact this
theorem Abu(m:Mo)(v:Nv)(t:Tp)(Ct:(Av m).length<=1048576)(hE:BQ v)(hs:A6 (Ay t)<=10000000)(E3:(AS v).length<=10000000)(kU:DW t=0):Pu 37 [.agg (Bd v),.agg (Ci m),.agg (Ay t)] (.ret (.int .i64 (tyF m v t))):=dM m Ct _ t v oM oM hE oM (jJ kU)
def Lt(m:Mo)(v:Nv)(t:Tp):Int:=(if DW t=0 then (if K3 m t=0 then (tyF m v t) else (K3 m t)) else (DW t))
theorem rtq(m:Mo)(v:Nv)(t:Tp)(Ct:(Av m).length<=1048576)(hE:BQ v)(hs:A6 (Ay t)<=10000000)(E3:(AS v).length<=10000000):Pu 15 [.agg (Bd v),.agg (Ci m),.agg (Ay t)] (rI (Lt m v t)):=by
 by_cases h0:DW t=0
 ·by_cases h1:K3 m t=0
  ·simp only [Lt,iP h0,iP h1]; exact pm Ad [cl (@y6 (t) hs),Bh h0,cl (@r3t (m) (t) Ct hs),Bi h1,cl (@Abu (m) (v) (t) Ct hE hs E3 h0)] func15
  ·simp only [Lt,iP h0,iN h1]; exact pm Ad [cl (@y6 (t) hs),Bh h0,cl (@r3t (m) (t) Ct hs),Bv h1] func15
 ·simp only [Lt,iN h0]; exact pm Ad [cl (@y6 (t) hs),Aw h0,Bv h0] func15
theorem A8p(m:Mo)(v:Nv)(t:Tp):Lt m v t=J6 m v t:=by
 unfold Lt J6
 by_cases h:DW t=0
 ·have hc:Ee t=0:=by
   unfold DW at h
   split at h
   ·assumption
   ·exact h
  rw [iP h,iP h,K3,iP hc]
 ·rw [iN h,iN h]
theorem Abv(m:Mo)(v:Nv)(t:Tp)(Ct:(Av m).length<=1048576)(hE:BQ v)(hs:A6 (Ay t)<=10000000)(E3:(AS v).length<=10000000):Pu 15 [.agg (Bd v),.agg (Ci m),.agg (Ay t)] (.ret (.int .i64 (J6 m v t))):=by
 rw [<-A8p]; exact rtq m v t Ct hE hs E3
def Se(x:Ms):Sy := .mk (N9 x) [YM x] (YN x)
theorem DC(l:List Sy)(a b c:BA):Sy.cs (l++[.mk a [b] c])=Sy.cs l++[[.str a,.sl 1 [[.str b]],.str c]]:=Sy.A2 l (.mk a [b] c)
abbrev oL(m:Mo)(j:Int)(out:List Sy)(e:Ext):S:=S.mk [(2,.v .A4),(3,.uniq 77 3 (Sy.cs out)),(7,vL 8 (Ms.cs (Ba m))),(8,A1 ((Ba m).length:Int)),(9,A1 j)] [] e
def JD  : List Ms->(List Sy)->(List Sy)
 | [],out=>(out)
 | el::r,out=>JD  r (out++[Sy.mk (N9 el) [YM el] (YN el)])
def dN(m:Mo)(e:Ext)(p:(List Sy)):A5 × S:=(.exit 0,S.mk [(2,.v .A4),(3,.uniq 77 3 (Sy.cs p)),(7,vL 8 (Ms.cs (Ba m))),(8,A1 ((Ba m).length:Int))] [] e)
theorem me0(m:Mo)(out:List Sy)(e:Ext)(hN:(Ba m).length<=1000000000)(hv:List.length out<=0):(Ob.loop 26 (Ai f28 0) (oL m 0 out e) (dN m e (JD  ((Ba m))  out)).1 (dN m e (JD  ((Ba m))  out)).2).ok prog:=by
 refine Ds ((Ba m).length) (fun j out=>oL m j out e) (fun i out=>JD  (List.drop i ((Ba m)))  out) (dN m e) (fun i out=>(out.length<=i)) kR ?_ out (by first | exact hv | omega)
 rintro i out hi hv
 try simp only at hv
 rcases Nat.lt_or_ge i ((Ba m).length) with Ag | CO
 ·have hd:=AH Ag
  exact lS Ad [dt ((i:Int)<((Ba m).length:Int)),am ((0:Int)<=(i:Int)/\(i:Int)<((Ms.cs (Ba m)).length:Int)) (by (simp only [Ms.A0]; omega)),lM (Ba m) i Ag,am (List.length (Sy.cs out++(fun x=>Prod.snd x) (2+1,[AI (AI (AI [.str Ah,.A4,.str Ah] (Field.offset (Field.mk "Name" 9 0 false "" "" 0)) [.str (N9 (List.getD (Ba m) i default))]) (Field.offset (Field.mk "Args" 75 1 false "" "" 16)) [.sl (0+1) [[.str (YM (List.getD (Ba m) i default))]]]) (Field.offset (Field.mk "Result" 74 2 false "" "" 40)) [.str (YN (List.getD (Ba m) i default))]])) * (55+1)<=140737488355328) (by (simp only [List.length_append,List.length_cons,List.length_nil,Sy.A0]; omega)),wr ((i:Int)+1)] [2,3,7,8,9] [] Ag (out++[Sy.mk (N9 (List.getD (Ba m) i default)) [YM (List.getD (Ba m) i default)] (YN (List.getD (Ba m) i default))]) (S.mk [(2,.v .A4),(3,.uniq 77 3 (Sy.cs out++[AI (AI (AI [.str Ah,.A4,.str Ah] (Field.offset (Field.mk "Name" 9 0 false "" "" 0)) [.str (N9 (List.getD (Ba m) i default))]) (Field.offset (Field.mk "Args" 75 1 false "" "" 16)) [.sl (0+1) [[.str (YM (List.getD (Ba m) i default))]]]) (Field.offset (Field.mk "Result" 74 2 false "" "" 40)) [.str (YN (List.getD (Ba m) i default))]])),(7,vL 8 (Ms.cs (Ba m))),(8,A1 ((Ba m).length:Int)),(9,A1 ((i:Int)+1))] [] e) ⟨⟨W,(.inl (by first | (simp only [List.nil_append,AX,AM,Pr.A2,Tp.A2,Ex.A2,Vr.A2,Df.A2,Sy.A2,Ho.A2,DC]; done) | (simp only [List.nil_append,AX,AM,Pr.A2,Tp.A2,Ex.A2,Vr.A2,Df.A2,Sy.A2,Ho.A2,DC]; rfl))),W,W,W,An⟩,trivial,rfl⟩ (by first | assumption | omega | (simp only [List.length_append,List.length_cons,List.length_nil] at *; omega) | simp_all) (by rw [hd,JD])
 ·have he:i=(Ba m).length:=by omega
  exact lX Ad [df ((i:Int)<((Ba m).length:Int))] (out) (by rw [he,List.drop_length,JD])
theorem meL(m:Mo)(hN:(Ba m).length<=1000000000):Pu 28 [.agg (Ci m)] (.own 77 3 (Sy.cs (JD (Ba m) []))):=
 pu Ad (fun e=>[sl (Ms.A0 (Ba m)),lp (S.mk [(0,.v (.agg (Ci m))),(1,.lp 1 0),(2,.v .A4),(3,.v .A4),(6,.lp 1 3),(7,vL 8 (Ms.cs (Ba m))),(8,A1 ((Ba m).length:Int)),(9,A1 0)] [(1,El m)] e) (@me0 (m) ([]) (e) hN (by (simp only [List.length_nil]; omega))) ⟨⟨W,Wq,W,W,W,An⟩,trivial,rfl⟩]) func28
abbrev oN(m:Mo)(j:Int)(out:List Sy)(e:Ext):S:=S.mk [(1,.lp 1 0),(2,.v .A4),(3,.uniq 77 3 (Sy.cs out)),(4,A1 j)] [(1,El m)] e
def JE  : List Ms->(List Sy)->(List Sy)
 | [],out=>(out)
 | el::r,out=>JE  r (out++[Sy.mk (N9 el) [YM el] (YN el)])
def dO(m:Mo)(e:Ext)(p:(List Sy)):A5 × S:=(.exit 0,S.mk [(1,.lp 1 0),(2,.v .A4),(3,.uniq 77 3 (Sy.cs p))] [(1,El m)] e)
theorem rme(m:Mo)(out:List Sy)(e:Ext)(hN:(Ba m).length<=1000000000)(hv:List.length out<=0):(Ob.loop 30 (Ai f31 0) (oN m 0 out e) (dO m e (JE  ((Ba m))  out)).1 (dO m e (JE  ((Ba m))  out)).2).ok prog:=by
 refine Ds ((Ba m).length) (fun j out=>oN m j out e) (fun i out=>JE  (List.drop i ((Ba m)))  out) (dO m e) (fun i out=>(out.length<=i)) kR ?_ out (by first | exact hv | omega)
 rintro i out hi hv
 try simp only at hv
 rcases Nat.lt_or_ge i ((Ba m).length) with Ag | CO
 ·have hd:=AH Ag
  exact lS Ad [sl (Ms.A0 (Ba m)),dt ((i:Int)<((Ba m).length:Int)),am ((0:Int)<=(i:Int)/\(i:Int)<((Ms.cs (Ba m)).length:Int)) (by (simp only [Ms.A0]; omega)),lM (Ba m) i Ag,am (List.length (Sy.cs out++(fun x=>Prod.snd x) (2+1,[AI (AI (AI [.str Ah,.A4,.str Ah] (Field.offset (Field.mk "Name" 9 0 false "" "" 0)) [.str (N9 (List.getD (Ba m) i default))]) (Field.offset (Field.mk "Args" 75 1 false "" "" 16)) [.sl (0+1) [[.str (YM (List.getD (Ba m) i default))]]]) (Field.offset (Field.mk "Result" 74 2 false "" "" 40)) [.str (YN (List.getD (Ba m) i default))]])) * (55+1)<=140737488355328) (by (simp only [List.length_append,List.length_cons,List.length_nil,Sy.A0]; omega)),wr ((i:Int)+1)] [1,2,3,4] [1] Ag (out++[Sy.mk (N9 (List.getD (Ba m) i default)) [YM (List.getD (Ba m) i default)] (YN (List.getD (Ba m) i default))]) (S.mk [(1,.lp 1 0),(2,.v .A4),(3,.uniq 77 3 (Sy.cs out++[AI (AI (AI [.str Ah,.A4,.str Ah] (Field.offset (Field.mk "Name" 9 0 false "" "" 0)) [.str (N9 (List.getD (Ba m) i default))]) (Field.offset (Field.mk "Args" 75 1 false "" "" 16)) [.sl (0+1) [[.str (YM (List.getD (Ba m) i default))]]]) (Field.offset (Field.mk "Result" 74 2 false "" "" 40)) [.str (YN (List.getD (Ba m) i default))]])),(4,A1 ((i:Int)+1))] [(1,El m)] e) ⟨⟨W,W,(.inl (by first | (simp only [List.nil_append,AX,AM,Pr.A2,Tp.A2,Ex.A2,Vr.A2,Df.A2,Sy.A2,Ho.A2,DC]; done) | (simp only [List.nil_append,AX,AM,Pr.A2,Tp.A2,Ex.A2,Vr.A2,Df.A2,Sy.A2,Ho.A2,DC]; rfl))),W,An⟩,⟨Ws,An⟩,rfl⟩ (by first | assumption | omega | (simp only [List.length_append,List.length_cons,List.length_nil] at *; omega) | simp_all) (by rw [hd,JE])
 ·have he:i=(Ba m).length:=by omega
  exact lX Ad [sl (Ms.A0 (Ba m)),df ((i:Int)<((Ba m).length:Int))] (out) (by rw [he,List.drop_length,JE])
theorem Abw(m:Mo)(hN:(Ba m).length<=1000000000):Pu 31 [.agg (Ci m)] (.own 77 3 (Sy.cs (JE (Ba m) []))):=
 pu Ad (fun e=>[lp (S.mk [(0,.v (.agg (Ci m))),(1,.lp 1 0),(2,.v .A4),(3,.v .A4),(4,A1 0)] [(1,El m)] e) (@rme (m) ([]) (e) hN (by (simp only [List.length_nil]; omega))) ⟨⟨W,W,Wq,W,An⟩,⟨⟨W,W,W,W,W,W,An⟩,An⟩,rfl⟩]) func31
def O7(t:Tp):BA:=(if (AA t != 1&&AA t != 2)=true then Ah else (DU (L0 t)))
def O8(t:Tp):Bool:=(if (AA t != 1&&AA t != 2)=true then false else (CP (L0 t)))
theorem bas(t:Tp)(hs:A6 (Ay t)<=1000000000):Pu 29 [.agg (Ay t)] (.ret (.AE [.str (O7 t),.bool (O8 t)])):=by
 by_cases h0:(AA t != 1&&AA t != 2)=true
 ·simp only [O7,O8,iP h0]; exact pm Ad [mg,av (.v (.bool (bif AA t != 1 then AA t != 2 else false))) (.v (.bool (AA t != 1&&AA t != 2))) (by (simp only [Bool.cond_false_right]; done)),B2 h0] func29
 ·simp only [O7,O8,iN h0]; exact pm Ad [mg,av (.v (.bool (bif AA t != 1 then AA t != 2 else false))) (.v (.bool (AA t != 1&&AA t != 2))) (by (simp only [Bool.cond_false_right]; done)),AQ (DQ h0),cl (@plT (t) hs),cl (@sOf (L0 t))] func29
theorem oO:∀ (l:List Ms) (out:List Sy),JD l out=out++l.map Se
 | [],out=>by simp [JD]
 | x::r,out=>by rw [JD,oO r,List.map_cons,List.append_assoc]; rfl
theorem oP:∀ (l:List Ms) (out:List Sy),JE l out=out++l.map Se
 | [],out=>by simp [JE]
 | x::r,out=>by rw [JE,oP r,List.map_cons,List.append_assoc]; rfl
theorem meT(m:Mo)(hN:(Ba m).length<=1000000000):Pu 28 [.agg (Ci m)] (.own 77 3 (Sy.cs ((Ba m).map Se))):=by
 have:=meL m hN
 rw [oO,List.nil_append] at this
 exact this
theorem Abx(m:Mo)(hN:(Ba m).length<=1000000000):Pu 31 [.agg (Ci m)] (.own 77 3 (Sy.cs ((Ba m).map Se))):=by
 have:=Abw m hN
 rw [oP,List.nil_append] at this
 exact this
def baS(t:Tp):BA:=if AA t=1 then H7 else E2
def K7(t:Tp):Bool:=decide (AA t=1)||decide (AA t=2)
def Pw(t:Tp):BA:=if K7 t=true then baS t else Ah
theorem plO(t:Tp):AA (L0 t)=AA t:=rfl
theorem A8q(t:Tp)(hs:A6 (Ay t)<=1000000000):Pu 29 [.agg (Ay t)] (.ret (.AE [.str (Pw t),.bool (K7 t)])):=by
 have h:=bas t hs
 have e0:O7 t=Pw t:=by
  unfold O7 Pw K7 baS
  by_cases h1:AA t=1
  ·simp [h1,DU,plO,H7]
  ·by_cases h2:AA t=2
   ·simp [h2,DU,plO,E2]
   ·simp [h1,h2]
 have e1:O8 t=K7 t:=by
  unfold O8 K7
  by_cases h1:AA t=1
  ·simp [h1,CP,plO]
  ·by_cases h2:AA t=2
   ·simp [h2,CP,plO]
   ·simp [h1,h2]
 rw [e0,e1] at h
 exact h
theorem gTk{t:Tp}{i:Nat}(Bq:A6 (Ay t)<=10000000)(h:i<(A8 t).length):A6 (Ay ((A8 t).getD i default))<=1000000000:=gBk Bq h
abbrev oQ(m:Mo)(out:List Sy)(d:Df)(o:Int)(xe:Ext)(j:Int)(acc:List BA)  : S:=S.mk [(2,.v .A4),(3,.uniq 77 3 (Sy.cs out)),(16,vL 25 (Df.cs (AY m))),(17,A1 ((AY m).length:Int)),(18,A1 o),(6,.lp 6 0),(7,.lp 7 0),(49,vL 9 (Tp.cs (A8 (AN d)))),(50,A1 ((A8 (AN d)).length:Int)),(51,A1 j)] [(6,Bj (AN d)),(7,[vS (CZ d),.uniq 74 1 (A7 acc),vS Ah])] xe
def CX  : List Tp->(List BA)->(List BA)
 | [],acc=>(acc)
 | el::r,acc=>(if K7 el=true then CX  r (acc++[Pw el]) else CX  r (acc))
def dP(m:Mo)(out:List Sy)(d:Df)(o:Int)(xe:Ext)(p:(List BA)):A5 × S:=(.exit 2,S.mk [(2,.v .A4),(3,.uniq 77 3 (Sy.cs out)),(16,vL 25 (Df.cs (AY m))),(17,A1 ((AY m).length:Int)),(18,A1 o),(6,.lp 6 0),(7,.lp 7 0),(49,vL 9 (Tp.cs (A8 (AN d)))),(50,A1 ((A8 (AN d)).length:Int))] [(6,Bj (AN d)),(7,[vS (CZ d),.uniq 74 1 (A7 p),vS Ah])] xe)
theorem eva(m:Mo)(out:List Sy)(d:Df)(o:Int)(xe:Ext)(Bq:A6 (Ay (AN d))<=10000000)(acc:List BA)(hN:List.length ((A8 (AN d)))<=1000000000)(hv:List.length acc<=0):(Ob.loop 96 (Ai f12 1) (oQ m out d o xe 0 acc) (dP m out d o xe  (CX  ((A8 (AN d)))  acc)).1 (dP m out d o xe  (CX  ((A8 (AN d)))  acc)).2).ok prog:=by
 refine Ds (List.length ((A8 (AN d)))) (fun j acc=>oQ m out d o xe j acc) (fun i acc=>CX  (List.drop i ((A8 (AN d))))  acc) (dP m out d o xe) (fun i acc=>(acc.length<=i)) kR ?_ acc (by first | exact hv | omega)
 rintro i acc hi hv
 try simp only at hv
 rcases Nat.lt_or_ge i (List.length ((A8 (AN d)))) with Ag | CO
 ·have hd:=AH Ag
  by_cases h0:K7 (List.getD (A8 (AN d)) i default)=true
  ·exact lS Ad [dt ((i:Int)<((A8 (AN d)).length:Int)),am ((0:Int)<=(i:Int)/\(i:Int)<((Tp.cs (A8 (AN d))).length:Int)) (by (simp only [Tp.A0]; omega)),OA (A8 (AN d)) i Ag,cl (@A8q (List.getD (A8 (AN d)) i default) (by (apply gTk <;> first | assumption | omega | decide))),B2 h0,am (List.length (A7 acc++(fun x=>Prod.snd x) (0+1,[[.str (Pw (List.getD (A8 (AN d)) i default))]])) * (15+1)<=140737488355328) (by (simp only [List.length_append,List.length_cons,List.length_nil,A3]; omega)),wr ((i:Int)+1)] [2,3,16,17,18,6,7,49,50,51] [6,7] Ag (acc++[Pw (List.getD (A8 (AN d)) i default)]) (S.mk [(2,.v .A4),(3,.uniq 77 3 (Sy.cs out)),(16,vL 25 (Df.cs (AY m))),(17,A1 ((AY m).length:Int)),(18,A1 o),(6,.lp 6 0),(7,.lp 7 0),(49,vL 9 (Tp.cs (A8 (AN d)))),(50,A1 ((A8 (AN d)).length:Int)),(51,A1 ((i:Int)+1))] [(6,Bj (AN d)),(7,[vS (CZ d),.uniq 74 1 (A7 acc++[[PV.str (Pw (List.getD (A8 (AN d)) i default))]]),vS Ah])] xe) ⟨⟨W,W,W,W,W,W,W,W,W,W,An⟩,⟨Ws,⟨W,(.inl (by first | (simp only [List.nil_append,AX,AM,Pr.A2,Tp.A2,Ex.A2,Vr.A2,Df.A2,Sy.A2,Ho.A2,DC]; done) | (simp only [List.nil_append,AX,AM,Pr.A2,Tp.A2,Ex.A2,Vr.A2,Df.A2,Sy.A2,Ho.A2,DC]; rfl))),W,An⟩,An⟩,rfl⟩ (by first | assumption | omega | (apply gTk <;> first | assumption | omega | decide) | (simp only [List.length_append,List.length_cons,List.length_nil] at *; omega) | simp_all) (by rw [hd,CX,iP h0])
  ·exact lN Ad [dt ((i:Int)<((A8 (AN d)).length:Int)),am ((0:Int)<=(i:Int)/\(i:Int)<((Tp.cs (A8 (AN d))).length:Int)) (by (simp only [Tp.A0]; omega)),OA (A8 (AN d)) i Ag,cl (@A8q (List.getD (A8 (AN d)) i default) (by (apply gTk <;> first | assumption | omega | decide))),AQ (DQ h0),wr ((i:Int)+1)] Ag (acc) (by first | assumption | omega | (apply gTk <;> first | assumption | omega | decide) | (simp only [List.length_append,List.length_cons,List.length_nil] at *; omega) | simp_all) (by rw [hd,CX,iN h0])
 ·have he:i=List.length ((A8 (AN d))):=by omega
  exact lX Ad [df ((i:Int)<((A8 (AN d)).length:Int))] (acc) (by rw [he,List.drop_length,CX])
theorem Aby{m:Mo}{o:Nat}(hA:∀ (d:Da) (c:Cn) (k:Int),d∈Av m->c∈FP d->Pu 23 [.sl 9 (Tp.cs (M0 c)),.int .i64 k] (.ret (.int .i64 (EB (M0 c) k))))(h:o<(Av m).length):∀ (c:Cn) (k:Int),c∈FP ((Av m).getD o default)->Pu 23 [.sl 9 (Tp.cs (M0 c)),.int .i64 k] (.ret (.int .i64 (EB (M0 c) k))):=fun c k hc=>hA _ c k (BF h) hc
theorem Abz{m:Mo}{o:Nat}(hB:∀ (c:Cl) (p:Pm) (k:Int),c∈BW m->p∈Hv c->Pu 23 [.sl 9 [Ay (H8 p)],.int .i64 k] (.ret (.int .i64 (EB [H8 p] k))))(h:o<(BW m).length):∀ (p:Pm) (k:Int),p∈Hv ((BW m).getD o default)->Pu 23 [.sl 9 [Ay (H8 p)],.int .i64 k] (.ret (.int .i64 (EB [H8 p] k))):=fun c k hc=>hB _ c k (BF h) hc
theorem Ac0{m:Mo}{o:Nat}(hG:∀ (x:Ms) (c:Cs) (k:Int),x∈Ba m->c∈Hw x->Pu 24 [.sl 4 [AO (Og c)],.int .i64 k] (.ret (.int .i64 (Gs [Og c] k))))(h:o<(Ba m).length):∀ (c:Cs) (k:Int),c∈Hw ((Ba m).getD o default)->Pu 24 [.sl 4 [AO (Og c)],.int .i64 k] (.ret (.int .i64 (Gs [Og c] k))):=fun c k hc=>hG _ c k (BF h) hc
def O9(l:List Df)(mx:Int):Int:=KF mx l 0
theorem A8r{m:Mo}{i:Nat}(l1:∀c∈Av m,(FP c).length<=1048576)(h:i<(Av m).length):(FP ((Av m).getD i default)).length<=1000000000:=by
 have:=l1 _ (BF h); omega
theorem A8s{m:Mo}{i:Nat}(l2:∀c∈BW m,(Hv c).length<=1048576)(h:i<(BW m).length):(Hv ((BW m).getD i default)).length<=1000000000:=by
 have:=l2 _ (BF h); omega
theorem A8t{m:Mo}{i:Nat}(l3:∀c∈Ba m,(Hw c).length<=1048576)(h:i<(Ba m).length):(Hw ((Ba m).getD i default)).length<=1000000000:=by
 have:=l3 _ (BF h); omega
theorem g1{l:List Da}{i:Nat}(h:i<l.length):l.getD i default∈l:=BF h
theorem g2{l:List Cn}{i:Nat}(h:i<l.length):l.getD i default∈l:=BF h
theorem g3{l:List Cl}{i:Nat}(h:i<l.length):l.getD i default∈l:=BF h
theorem g4{l:List In}{i:Nat}(h:i<l.length):l.getD i default∈l:=BF h
theorem g5{l:List Ms}{i:Nat}(h:i<l.length):l.getD i default∈l:=BF h
theorem g6{l:List Cs}{i:Nat}(h:i<l.length):l.getD i default∈l:=BF h
abbrev oS(m:Mo)(o:Nat)(n0:Int)(xe:Ext)(j:Int)(n:Int)  : S:=S.mk [(1,.lp 1 0),(2,.v (.bool false)),(3,A1 n),(4,A1 (o:Int)),(5,A1 j)] [(1,El m)] xe
def KS  : List Cn->(Int)->(Int)
 | [],n=>(n)
 | el::r,n=>(if n<=4000 then KS  r (IntKind.wrap .i64 (IntKind.wrap .i64 (IntKind.wrap .i64 (n+1)+((Wt el).length:Int))+EB (M0 el) 4000)) else (n))
def dQ(m:Mo)(o:Nat)(n0:Int)(xe:Ext)(p:(Int)):A5 × S:=(.exit 2,S.mk [(1,.lp 1 0),(2,.v (.bool false)),(3,A1 p),(4,A1 (o:Int))] [(1,El m)] xe)
theorem sl1(m:Mo)(o:Nat)(ho:o<(Av m).length)(n0:Int)(xe:Ext)(hAo:∀ (c:Cn) (k:Int),c∈FP ((Av m).getD o default)->Pu 23 [.sl 9 (Tp.cs (M0 c)),.int .i64 k] (.ret (.int .i64 (EB (M0 c) k))))(l1:∀c∈Av m,(FP c).length<=1048576)(n:Int)(hN:List.length ((FP ((Av m).getD o default)))<=1000000000)  : (Ob.loop 303 (Ai f8 1) (oS m o n0 xe 0 n) (dQ m o n0 xe  (KS  ((FP ((Av m).getD o default)))  n)).1 (dQ m o n0 xe  (KS  ((FP ((Av m).getD o default)))  n)).2).ok prog:=by
 refine Ds (List.length ((FP ((Av m).getD o default)))) (fun j n=>oS m o n0 xe j n) (fun i n=>KS  (List.drop i ((FP ((Av m).getD o default))))  n) (dQ m o n0 xe) (fun i n=>True) kR ?_ n trivial
 rintro i n hi -
 rcases Nat.lt_or_ge i (List.length ((FP ((Av m).getD o default)))) with Ag | CO
 ·have hd:=AH Ag
  by_cases h0:n<=4000
  ·exact lN Ad [am ((0:Int)<=(o:Int)/\(o:Int)<((Da.cs (Av m)).length:Int)) (by (simp only [Da.A0]; omega)),eZ (Av m) o ho,sl (Cn.A0 (FP (List.getD (Av m) o default))),rp 3 (dt ((i:Int)<((FP (List.getD (Av m) o default)).length:Int))),C6 h0,kp,am ((0:Int)<=(o:Int)/\(o:Int)<((Da.cs (Av m)).length:Int)) (by (simp only [Da.A0]; omega)),eZ (Av m) o ho,am ((0:Int)<=(i:Int)/\(i:Int)<((Cn.cs (FP (List.getD (Av m) o default))).length:Int)) (by (simp only [Cn.A0]; omega)),xCn (FP (List.getD (Av m) o default)) i Ag,sl (A3 (Wt (List.getD (FP (List.getD (Av m) o default)) i default))),kp,am ((0:Int)<=(o:Int)/\(o:Int)<((Da.cs (Av m)).length:Int)) (by (simp only [Da.A0]; omega)),eZ (Av m) o ho,am ((0:Int)<=(i:Int)/\(i:Int)<((Cn.cs (FP (List.getD (Av m) o default))).length:Int)) (by (simp only [Cn.A0]; omega)),xCn (FP (List.getD (Av m) o default)) i Ag,cl (@hAo (List.getD (FP (List.getD (Av m) o default)) i default) (4000) (by simp_all)),kp,wr ((i:Int)+1)] Ag (IntKind.wrap .i64 (IntKind.wrap .i64 (IntKind.wrap .i64 (n+1)+((Wt (List.getD (FP (List.getD (Av m) o default)) i default)).length:Int))+EB (M0 (List.getD (FP (List.getD (Av m) o default)) i default)) 4000)) trivial (by rw [hd,KS,iP h0])
  ·exact lX Ad [am ((0:Int)<=(o:Int)/\(o:Int)<((Da.cs (Av m)).length:Int)) (by (simp only [Da.A0]; omega)),eZ (Av m) o ho,sl (Cn.A0 (FP (List.getD (Av m) o default))),rp 3 (dt ((i:Int)<((FP (List.getD (Av m) o default)).length:Int))),Az h0] (n) (by rw [hd,KS,iN h0])
 ·have he:i=List.length ((FP ((Av m).getD o default))):=by omega
  exact lX Ad [am ((0:Int)<=(o:Int)/\(o:Int)<((Da.cs (Av m)).length:Int)) (by (simp only [Da.A0]; omega)),eZ (Av m) o ho,sl (Cn.A0 (FP (List.getD (Av m) o default))),rp 3 (df ((i:Int)<((FP (List.getD (Av m) o default)).length:Int))),bf false] (n) (by rw [he,List.drop_length,KS])
abbrev oU(m:Mo)(j:Int)(n:Int)(e:Ext):S:=S.mk [(1,.lp 1 0),(2,.v (.bool false)),(3,A1 n),(4,A1 j)] [(1,El m)] e
def Iq  : List Da->(Int)->(Int)
 | [],n=>(n)
 | el::r,n=>(if n<=4000 then Iq  r (KS (FP el) (IntKind.wrap .i64 (IntKind.wrap .i64 (IntKind.wrap .i64 (IntKind.wrap .i64 (n+1)+IntKind.wrap .i64 (Int.tdiv (↑(ByteArray.size (AB el)):Int) 100))+((Ek el).length:Int))+((Dq el).length:Int)))) else (n))
def dR(m:Mo)(e:Ext)(p:(Int)):A5 × S:=(.exit 0,S.mk [(1,.lp 1 0),(2,.v (.bool false)),(3,A1 p)] [(1,El m)] e)
theorem sl0(m:Mo)(s1:¬((Av m).length:Int)>80)(s2:¬((BW m).length:Int)>80)(s3:¬((CJ m).length:Int)>80)(s4:¬((Ba m).length:Int)>80)(s5:¬((Dh m).length:Int)>80)(s6:¬((AY m).length:Int)>80)(hA:∀ (d:Da) (c:Cn) (k:Int),d∈Av m->c∈FP d->Pu 23 [.sl 9 (Tp.cs (M0 c)),.int .i64 k] (.ret (.int .i64 (EB (M0 c) k))))(l1:∀c∈Av m,(FP c).length<=1048576)(hI:∀ (k:Int),Pu 22 [.sl 25 (Df.cs (AY m)),.int .i64 k] (.ret (.int .i64 (O9 (AY m) k))))(n:Int)(e:Ext)(hN:(Av m).length<=1000000000)  : (Ob.loop 303 (Ai f8 0) (oU m 0 n e) (dR m e (Iq  ((Av m))  n)).1 (dR m e (Iq  ((Av m))  n)).2).ok prog:=by
 refine Ds ((Av m).length) (fun j n=>oU m j n e) (fun i n=>Iq  (List.drop i ((Av m)))  n) (dR m e) (fun i n=>True) kR ?_ n trivial
 rintro i n hi -
 rcases Nat.lt_or_ge i ((Av m).length) with Ag | CO
 ·have hd:=AH Ag
  by_cases h0:n<=4000
  ·exact lN Ad [sl (Da.A0 (Av m)),rp 3 (dt ((i:Int)<((Av m).length:Int))),C6 h0,kp,am ((0:Int)<=(i:Int)/\(i:Int)<((Da.cs (Av m)).length:Int)) (by (simp only [Da.A0]; omega)),eZ (Av m) i Ag,rp 3 (kp),ab true,am ((0:Int)<=(i:Int)/\(i:Int)<((Da.cs (Av m)).length:Int)) (by (simp only [Da.A0]; omega)),eZ (Av m) i Ag,sl (A3 (Ek (List.getD (Av m) i default))),kp,am ((0:Int)<=(i:Int)/\(i:Int)<((Da.cs (Av m)).length:Int)) (by (simp only [Da.A0]; omega)),eZ (Av m) i Ag,sl (Vr.A0 (Dq (List.getD (Av m) i default))),kp,lp (S.mk [(1,.lp 1 0),(2,.v (.bool false)),(3,A1 (IntKind.wrap .i64 (IntKind.wrap .i64 (IntKind.wrap .i64 (IntKind.wrap .i64 (n+1)+IntKind.wrap .i64 (Int.tdiv (↑(ByteArray.size (AB (List.getD (Av m) i default))):Int) 100))+((Ek (List.getD (Av m) i default)).length:Int))+((Dq (List.getD (Av m) i default)).length:Int)))),(4,A1 (i:Int)),(49,A1 (i:Int)),(50,.lp 1 0),(51,vL 4 (Da.cs (Av m))),(52,A1 ((Av m).length:Int)),(53,.v (.bool (decide ((i:Int)<((Av m).length:Int))))),(54,.v (.bool (decide ((i:Int)<((Av m).length:Int))))),(55,A1 n),(56,.v (.bool (decide (n<=4000)))),(57,.v (.bool (decide (n<=4000)))),(60,A1 n),(61,A1 (IntKind.wrap .i64 (n+1))),(62,.lp 1 0),(63,vL 4 (Da.cs (Av m))),(64,A1 (i:Int)),(65,.v (.ro (Gn (List.getD (Av m) i default)) 0)),(66,.v (.ro (Gn (List.getD (Av m) i default)) 0)),(67,vS (AB (List.getD (Av m) i default))),(68,A1 (↑(ByteArray.size (AB (List.getD (Av m) i default))):Int)),(69,A1 (IntKind.wrap .i64 (Int.tdiv (↑(ByteArray.size (AB (List.getD (Av m) i default))):Int) 100))),(70,A1 (IntKind.wrap .i64 (IntKind.wrap .i64 (n+1)+IntKind.wrap .i64 (Int.tdiv (↑(ByteArray.size (AB (List.getD (Av m) i default))):Int) 100)))),(71,.lp 1 0),(72,vL 4 (Da.cs (Av m))),(73,A1 (i:Int)),(74,.v (.ro (Gn (List.getD (Av m) i default)) 0)),(75,.v (.ro (Gn (List.getD (Av m) i default)) 1)),(76,vL 1 (A7 (Ek (List.getD (Av m) i default)))),(77,A1 ((Ek (List.getD (Av m) i default)).length:Int)),(78,A1 (IntKind.wrap .i64 (IntKind.wrap .i64 (IntKind.wrap .i64 (n+1)+IntKind.wrap .i64 (Int.tdiv (↑(ByteArray.size (AB (List.getD (Av m) i default))):Int) 100))+((Ek (List.getD (Av m) i default)).length:Int)))),(79,.lp 1 0),(80,vL 4 (Da.cs (Av m))),(81,A1 (i:Int)),(82,.v (.ro (Gn (List.getD (Av m) i default)) 0)),(83,.v (.ro (Gn (List.getD (Av m) i default)) 2)),(84,vL 2 (Vr.cs (Dq (List.getD (Av m) i default)))),(85,A1 ((Dq (List.getD (Av m) i default)).length:Int)),(86,A1 (IntKind.wrap .i64 (IntKind.wrap .i64 (IntKind.wrap .i64 (IntKind.wrap .i64 (n+1)+IntKind.wrap .i64 (Int.tdiv (↑(ByteArray.size (AB (List.getD (Av m) i default))):Int) 100))+((Ek (List.getD (Av m) i default)).length:Int))+((Dq (List.getD (Av m) i default)).length:Int)))),(5,A1 0)] [(1,El m)] e) (@sl1 (m) (i) Ag default (e) (by (apply Aby <;> first | assumption | omega | decide)) l1 (IntKind.wrap .i64 (IntKind.wrap .i64 (IntKind.wrap .i64 (IntKind.wrap .i64 (n+1)+IntKind.wrap .i64 (Int.tdiv (↑(ByteArray.size (AB (List.getD (Av m) i default))):Int) 100))+((Ek (List.getD (Av m) i default)).length:Int))+((Dq (List.getD (Av m) i default)).length:Int))) (by (apply A8r <;> first | assumption | omega | decide))) xr,wr ((i:Int)+1)] Ag (KS (FP (List.getD (Av m) i default)) (IntKind.wrap .i64 (IntKind.wrap .i64 (IntKind.wrap .i64 (IntKind.wrap .i64 (n+1)+IntKind.wrap .i64 (Int.tdiv (↑(ByteArray.size (AB (List.getD (Av m) i default))):Int) 100))+((Ek (List.getD (Av m) i default)).length:Int))+((Dq (List.getD (Av m) i default)).length:Int)))) trivial (by rw [hd,Iq,iP h0])
  ·exact lX Ad [sl (Da.A0 (Av m)),rp 3 (dt ((i:Int)<((Av m).length:Int))),Az h0] (n) (by rw [hd,Iq,iN h0])
 ·have he:i=(Av m).length:=by omega
  exact lX Ad [sl (Da.A0 (Av m)),rp 3 (df ((i:Int)<((Av m).length:Int))),bf false] (n) (by rw [he,List.drop_length,Iq])
abbrev oV(m:Mo)(o:Nat)(n0:Int)(xe:Ext)(j:Int)(n:Int)  : S:=S.mk [(1,.lp 1 0),(2,.v (.bool false)),(3,A1 n),(6,A1 (o:Int)),(7,A1 j)] [(1,El m)] xe
def KT  : List Pm->(Int)->(Int)
 | [],n=>(n)
 | el::r,n=>(if n<=4000 then KT  r (IntKind.wrap .i64 (IntKind.wrap .i64 (n+1)+EB [H8 el] 4000)) else (n))
def dS(m:Mo)(o:Nat)(n0:Int)(xe:Ext)(p:(Int)):A5 × S:=(.exit 6,S.mk [(1,.lp 1 0),(2,.v (.bool false)),(3,A1 p),(6,A1 (o:Int))] [(1,El m)] xe)
theorem sl3(m:Mo)(o:Nat)(ho:o<(BW m).length)(n0:Int)(xe:Ext)(hBo:∀ (p:Pm) (k:Int),p∈Hv ((BW m).getD o default)->Pu 23 [.sl 9 [Ay (H8 p)],.int .i64 k] (.ret (.int .i64 (EB [H8 p] k))))(l2:∀c∈BW m,(Hv c).length<=1048576)(n:Int)(hN:List.length ((Hv ((BW m).getD o default)))<=1000000000)  : (Ob.loop 303 (Ai f8 3) (oV m o n0 xe 0 n) (dS m o n0 xe  (KT  ((Hv ((BW m).getD o default)))  n)).1 (dS m o n0 xe  (KT  ((Hv ((BW m).getD o default)))  n)).2).ok prog:=by
 refine Ds (List.length ((Hv ((BW m).getD o default)))) (fun j n=>oV m o n0 xe j n) (fun i n=>KT  (List.drop i ((Hv ((BW m).getD o default))))  n) (dS m o n0 xe) (fun i n=>True) kR ?_ n trivial
 rintro i n hi -
 rcases Nat.lt_or_ge i (List.length ((Hv ((BW m).getD o default)))) with Ag | CO
 ·have hd:=AH Ag
  by_cases h0:n<=4000
  ·exact lN Ad [am ((0:Int)<=(o:Int)/\(o:Int)<((Cl.cs (BW m)).length:Int)) (by (simp only [Cl.A0]; omega)),xCl (BW m) o ho,sl (Pm.A0 (Hv (List.getD (BW m) o default))),rp 3 (dt ((i:Int)<((Hv (List.getD (BW m) o default)).length:Int))),C6 h0,kp,am ((0:Int)<=(o:Int)/\(o:Int)<((Cl.cs (BW m)).length:Int)) (by (simp only [Cl.A0]; omega)),xCl (BW m) o ho,am ((0:Int)<=(i:Int)/\(i:Int)<((Pm.cs (Hv (List.getD (BW m) o default))).length:Int)) (by (simp only [Pm.A0]; omega)),xPm (Hv (List.getD (BW m) o default)) i Ag,cl (@hBo (List.getD (Hv (List.getD (BW m) o default)) i default) (4000) (by simp_all)),kp,wr ((i:Int)+1)] Ag (IntKind.wrap .i64 (IntKind.wrap .i64 (n+1)+EB [H8 (List.getD (Hv (List.getD (BW m) o default)) i default)] 4000)) trivial (by rw [hd,KT,iP h0])
  ·exact lX Ad [am ((0:Int)<=(o:Int)/\(o:Int)<((Cl.cs (BW m)).length:Int)) (by (simp only [Cl.A0]; omega)),xCl (BW m) o ho,sl (Pm.A0 (Hv (List.getD (BW m) o default))),rp 3 (dt ((i:Int)<((Hv (List.getD (BW m) o default)).length:Int))),Az h0] (n) (by rw [hd,KT,iN h0])
 ·have he:i=List.length ((Hv ((BW m).getD o default))):=by omega
  exact lX Ad [am ((0:Int)<=(o:Int)/\(o:Int)<((Cl.cs (BW m)).length:Int)) (by (simp only [Cl.A0]; omega)),xCl (BW m) o ho,sl (Pm.A0 (Hv (List.getD (BW m) o default))),rp 3 (df ((i:Int)<((Hv (List.getD (BW m) o default)).length:Int))),bf false] (n) (by rw [he,List.drop_length,KT])
abbrev oW(m:Mo)(j:Int)(n:Int)(e:Ext):S:=S.mk [(1,.lp 1 0),(2,.v (.bool false)),(3,A1 n),(6,A1 j)] [(1,El m)] e
def J7  : List Cl->(Int)->(Int)
 | [],n=>(n)
 | el::r,n=>(if n<=4000 then J7  r (KT (Hv el) n) else (n))
def dU(m:Mo)(e:Ext)(p:(Int)):A5 × S:=(.exit 4,S.mk [(1,.lp 1 0),(2,.v (.bool false)),(3,A1 p)] [(1,El m)] e)
theorem sl2(m:Mo)(s1:¬((Av m).length:Int)>80)(s2:¬((BW m).length:Int)>80)(s3:¬((CJ m).length:Int)>80)(s4:¬((Ba m).length:Int)>80)(s5:¬((Dh m).length:Int)>80)(s6:¬((AY m).length:Int)>80)(hA:∀ (d:Da) (c:Cn) (k:Int),d∈Av m->c∈FP d->Pu 23 [.sl 9 (Tp.cs (M0 c)),.int .i64 k] (.ret (.int .i64 (EB (M0 c) k))))(l1:∀c∈Av m,(FP c).length<=1048576)(hI:∀ (k:Int),Pu 22 [.sl 25 (Df.cs (AY m)),.int .i64 k] (.ret (.int .i64 (O9 (AY m) k))))(hB:∀ (c:Cl) (p:Pm) (k:Int),c∈BW m->p∈Hv c->Pu 23 [.sl 9 [Ay (H8 p)],.int .i64 k] (.ret (.int .i64 (EB [H8 p] k))))(l2:∀c∈BW m,(Hv c).length<=1048576)(n:Int)(e:Ext)(hN:(BW m).length<=1000000000)  : (Ob.loop 303 (Ai f8 2) (oW m 0 n e) (dU m e (J7  ((BW m))  n)).1 (dU m e (J7  ((BW m))  n)).2).ok prog:=by
 refine Ds ((BW m).length) (fun j n=>oW m j n e) (fun i n=>J7  (List.drop i ((BW m)))  n) (dU m e) (fun i n=>True) kR ?_ n trivial
 rintro i n hi -
 rcases Nat.lt_or_ge i ((BW m).length) with Ag | CO
 ·have hd:=AH Ag
  by_cases h0:n<=4000
  ·exact lN Ad [sl (Cl.A0 (BW m)),rp 3 (dt ((i:Int)<((BW m).length:Int))),C6 h0,lp (S.mk [(1,.lp 1 0),(2,.v (.bool false)),(3,A1 n),(6,A1 (i:Int)),(128,A1 (i:Int)),(129,.lp 1 1),(130,vL 3 (Cl.cs (BW m))),(131,A1 ((BW m).length:Int)),(132,.v (.bool (decide ((i:Int)<((BW m).length:Int))))),(133,.v (.bool (decide ((i:Int)<((BW m).length:Int))))),(134,A1 n),(135,.v (.bool (decide (n<=4000)))),(136,.v (.bool (decide (n<=4000)))),(7,A1 0)] [(1,El m)] e) (@sl3 (m) (i) Ag default (e) (by (apply Abz <;> first | assumption | omega | decide)) l2 (n) (by (apply A8s <;> first | assumption | omega | decide))) xr,wr ((i:Int)+1)] Ag (KT (Hv (List.getD (BW m) i default)) n) trivial (by rw [hd,J7,iP h0])
  ·exact lX Ad [sl (Cl.A0 (BW m)),rp 3 (dt ((i:Int)<((BW m).length:Int))),Az h0] (n) (by rw [hd,J7,iN h0])
 ·have he:i=(BW m).length:=by omega
  exact lX Ad [sl (Cl.A0 (BW m)),rp 3 (df ((i:Int)<((BW m).length:Int))),bf false] (n) (by rw [he,List.drop_length,J7])
abbrev oX(m:Mo)(j:Int)(n:Int)(e:Ext):S:=S.mk [(1,.lp 1 0),(2,.v (.bool false)),(3,A1 n),(8,A1 j)] [(1,El m)] e
def JF  : List In->(Int)->(Int)
 | [],n=>(n)
 | el::r,n=>(if n<=4000 then JF  r (IntKind.wrap .i64 (IntKind.wrap .i64 (IntKind.wrap .i64 (IntKind.wrap .i64 (n+1)+((YK el).length:Int))+EB [N8 el] 4000)+O9 (Tk el) 4000)) else (n))
def dV(m:Mo)(e:Ext)(p:(Int)):A5 × S:=(.exit 8,S.mk [(1,.lp 1 0),(2,.v (.bool false)),(3,A1 p)] [(1,El m)] e)
theorem sl4(m:Mo)(s1:¬((Av m).length:Int)>80)(s2:¬((BW m).length:Int)>80)(s3:¬((CJ m).length:Int)>80)(s4:¬((Ba m).length:Int)>80)(s5:¬((Dh m).length:Int)>80)(s6:¬((AY m).length:Int)>80)(hA:∀ (d:Da) (c:Cn) (k:Int),d∈Av m->c∈FP d->Pu 23 [.sl 9 (Tp.cs (M0 c)),.int .i64 k] (.ret (.int .i64 (EB (M0 c) k))))(l1:∀c∈Av m,(FP c).length<=1048576)(hI:∀ (k:Int),Pu 22 [.sl 25 (Df.cs (AY m)),.int .i64 k] (.ret (.int .i64 (O9 (AY m) k))))(hB:∀ (c:Cl) (p:Pm) (k:Int),c∈BW m->p∈Hv c->Pu 23 [.sl 9 [Ay (H8 p)],.int .i64 k] (.ret (.int .i64 (EB [H8 p] k))))(l2:∀c∈BW m,(Hv c).length<=1048576)(hC:∀ (x:In) (k:Int),x∈CJ m->Pu 23 [.sl 9 [Ay (N8 x)],.int .i64 k] (.ret (.int .i64 (EB [N8 x] k))))(hD:∀ (x:In) (k:Int),x∈CJ m->Pu 22 [.sl 25 (Df.cs (Tk x)),.int .i64 k] (.ret (.int .i64 (O9 (Tk x) k))))(n:Int)(e:Ext)(hN:(CJ m).length<=1000000000)  : (Ob.loop 303 (Ai f8 4) (oX m 0 n e) (dV m e (JF  ((CJ m))  n)).1 (dV m e (JF  ((CJ m))  n)).2).ok prog:=by
 refine Ds ((CJ m).length) (fun j n=>oX m j n e) (fun i n=>JF  (List.drop i ((CJ m)))  n) (dV m e) (fun i n=>True) kR ?_ n trivial
 rintro i n hi -
 rcases Nat.lt_or_ge i ((CJ m).length) with Ag | CO
 ·have hd:=AH Ag
  by_cases h0:n<=4000
  ·exact lN Ad [sl (In.A0 (CJ m)),rp 3 (dt ((i:Int)<((CJ m).length:Int))),C6 h0,kp,am ((0:Int)<=(i:Int)/\(i:Int)<((In.cs (CJ m)).length:Int)) (by (simp only [In.A0]; omega)),xIn (CJ m) i Ag,sl (Vr.A0 (YK (List.getD (CJ m) i default))),kp,am ((0:Int)<=(i:Int)/\(i:Int)<((In.cs (CJ m)).length:Int)) (by (simp only [In.A0]; omega)),xIn (CJ m) i Ag,cl (@hC (List.getD (CJ m) i default) (4000) (by simp_all)),kp,am ((0:Int)<=(i:Int)/\(i:Int)<((In.cs (CJ m)).length:Int)) (by (simp only [In.A0]; omega)),xIn (CJ m) i Ag,cl (@hD (List.getD (CJ m) i default) (4000) (by simp_all)),kp,wr ((i:Int)+1)] Ag (IntKind.wrap .i64 (IntKind.wrap .i64 (IntKind.wrap .i64 (IntKind.wrap .i64 (n+1)+((YK (List.getD (CJ m) i default)).length:Int))+EB [N8 (List.getD (CJ m) i default)] 4000)+O9 (Tk (List.getD (CJ m) i default)) 4000)) trivial (by rw [hd,JF,iP h0])
  ·exact lX Ad [sl (In.A0 (CJ m)),rp 3 (dt ((i:Int)<((CJ m).length:Int))),Az h0] (n) (by rw [hd,JF,iN h0])
 ·have he:i=(CJ m).length:=by omega
  exact lX Ad [sl (In.A0 (CJ m)),rp 3 (df ((i:Int)<((CJ m).length:Int))),bf false] (n) (by rw [he,List.drop_length,JF])
abbrev oY(m:Mo)(o:Nat)(n0:Int)(xe:Ext)(j:Int)(n:Int)  : S:=S.mk [(1,.lp 1 0),(2,.v (.bool false)),(3,A1 n),(9,A1 (o:Int)),(10,A1 j)] [(1,El m)] xe
def KU  : List Cs->(Int)->(Int)
 | [],n=>(n)
 | el::r,n=>(if n<=4000 then KU  r (IntKind.wrap .i64 (IntKind.wrap .i64 (IntKind.wrap .i64 (n+1)+((YL el).length:Int))+Gs [Og el] 4000)) else (n))
def dW(m:Mo)(o:Nat)(n0:Int)(xe:Ext)(p:(Int)):A5 × S:=(.exit 12,S.mk [(1,.lp 1 0),(2,.v (.bool false)),(3,A1 p),(9,A1 (o:Int))] [(1,El m)] xe)
theorem sl6(m:Mo)(o:Nat)(ho:o<(Ba m).length)(n0:Int)(xe:Ext)(hGo:∀ (c:Cs) (k:Int),c∈Hw ((Ba m).getD o default)->Pu 24 [.sl 4 [AO (Og c)],.int .i64 k] (.ret (.int .i64 (Gs [Og c] k))))(l3:∀c∈Ba m,(Hw c).length<=1048576)(n:Int)(hN:List.length ((Hw ((Ba m).getD o default)))<=1000000000)  : (Ob.loop 303 (Ai f8 6) (oY m o n0 xe 0 n) (dW m o n0 xe  (KU  ((Hw ((Ba m).getD o default)))  n)).1 (dW m o n0 xe  (KU  ((Hw ((Ba m).getD o default)))  n)).2).ok prog:=by
 refine Ds (List.length ((Hw ((Ba m).getD o default)))) (fun j n=>oY m o n0 xe j n) (fun i n=>KU  (List.drop i ((Hw ((Ba m).getD o default))))  n) (dW m o n0 xe) (fun i n=>True) kR ?_ n trivial
 rintro i n hi -
 rcases Nat.lt_or_ge i (List.length ((Hw ((Ba m).getD o default)))) with Ag | CO
 ·have hd:=AH Ag
  by_cases h0:n<=4000
  ·exact lN Ad [am ((0:Int)<=(o:Int)/\(o:Int)<((Ms.cs (Ba m)).length:Int)) (by (simp only [Ms.A0]; omega)),lM (Ba m) o ho,sl (Cs.A0 (Hw (List.getD (Ba m) o default))),rp 3 (dt ((i:Int)<((Hw (List.getD (Ba m) o default)).length:Int))),C6 h0,kp,am ((0:Int)<=(o:Int)/\(o:Int)<((Ms.cs (Ba m)).length:Int)) (by (simp only [Ms.A0]; omega)),lM (Ba m) o ho,am ((0:Int)<=(i:Int)/\(i:Int)<((Cs.cs (Hw (List.getD (Ba m) o default))).length:Int)) (by (simp only [Cs.A0]; omega)),xCs (Hw (List.getD (Ba m) o default)) i Ag,sl (A3 (YL (List.getD (Hw (List.getD (Ba m) o default)) i default))),kp,am ((0:Int)<=(o:Int)/\(o:Int)<((Ms.cs (Ba m)).length:Int)) (by (simp only [Ms.A0]; omega)),lM (Ba m) o ho,am ((0:Int)<=(i:Int)/\(i:Int)<((Cs.cs (Hw (List.getD (Ba m) o default))).length:Int)) (by (simp only [Cs.A0]; omega)),xCs (Hw (List.getD (Ba m) o default)) i Ag,cl (@hGo (List.getD (Hw (List.getD (Ba m) o default)) i default) (4000) (by simp_all)),kp,wr ((i:Int)+1)] Ag (IntKind.wrap .i64 (IntKind.wrap .i64 (IntKind.wrap .i64 (n+1)+((YL (List.getD (Hw (List.getD (Ba m) o default)) i default)).length:Int))+Gs [Og (List.getD (Hw (List.getD (Ba m) o default)) i default)] 4000)) trivial (by rw [hd,KU,iP h0])
  ·exact lX Ad [am ((0:Int)<=(o:Int)/\(o:Int)<((Ms.cs (Ba m)).length:Int)) (by (simp only [Ms.A0]; omega)),lM (Ba m) o ho,sl (Cs.A0 (Hw (List.getD (Ba m) o default))),rp 3 (dt ((i:Int)<((Hw (List.getD (Ba m) o default)).length:Int))),Az h0] (n) (by rw [hd,KU,iN h0])
 ·have he:i=List.length ((Hw ((Ba m).getD o default))):=by omega
  exact lX Ad [am ((0:Int)<=(o:Int)/\(o:Int)<((Ms.cs (Ba m)).length:Int)) (by (simp only [Ms.A0]; omega)),lM (Ba m) o ho,sl (Cs.A0 (Hw (List.getD (Ba m) o default))),rp 3 (df ((i:Int)<((Hw (List.getD (Ba m) o default)).length:Int))),bf false] (n) (by rw [he,List.drop_length,KU])
abbrev oZ(m:Mo)(j:Int)(n:Int)(e:Ext):S:=S.mk [(1,.lp 1 0),(2,.v (.bool false)),(3,A1 n),(9,A1 j)] [(1,El m)] e
def KV  : List Ms->(Int)->(Int)
 | [],n=>(n)
 | el::r,n=>(if n<=4000 then KV  r (KU (Hw el) (IntKind.wrap .i64 (IntKind.wrap .i64 (n+1)+Gs [Oh el] 4000))) else (n))
def dX(m:Mo)(e:Ext)(p:(Int)):A5 × S:=(.exit 10,S.mk [(1,.lp 1 0),(2,.v (.bool false)),(3,A1 p)] [(1,El m)] e)
theorem sl5(m:Mo)(s1:¬((Av m).length:Int)>80)(s2:¬((BW m).length:Int)>80)(s3:¬((CJ m).length:Int)>80)(s4:¬((Ba m).length:Int)>80)(s5:¬((Dh m).length:Int)>80)(s6:¬((AY m).length:Int)>80)(hA:∀ (d:Da) (c:Cn) (k:Int),d∈Av m->c∈FP d->Pu 23 [.sl 9 (Tp.cs (M0 c)),.int .i64 k] (.ret (.int .i64 (EB (M0 c) k))))(l1:∀c∈Av m,(FP c).length<=1048576)(hI:∀ (k:Int),Pu 22 [.sl 25 (Df.cs (AY m)),.int .i64 k] (.ret (.int .i64 (O9 (AY m) k))))(hB:∀ (c:Cl) (p:Pm) (k:Int),c∈BW m->p∈Hv c->Pu 23 [.sl 9 [Ay (H8 p)],.int .i64 k] (.ret (.int .i64 (EB [H8 p] k))))(l2:∀c∈BW m,(Hv c).length<=1048576)(hC:∀ (x:In) (k:Int),x∈CJ m->Pu 23 [.sl 9 [Ay (N8 x)],.int .i64 k] (.ret (.int .i64 (EB [N8 x] k))))(hD:∀ (x:In) (k:Int),x∈CJ m->Pu 22 [.sl 25 (Df.cs (Tk x)),.int .i64 k] (.ret (.int .i64 (O9 (Tk x) k))))(hE:∀ (x:Ms) (k:Int),x∈Ba m->Pu 24 [.sl 4 [AO (Oh x)],.int .i64 k] (.ret (.int .i64 (Gs [Oh x] k))))(hG:∀ (x:Ms) (c:Cs) (k:Int),x∈Ba m->c∈Hw x->Pu 24 [.sl 4 [AO (Og c)],.int .i64 k] (.ret (.int .i64 (Gs [Og c] k))))(l3:∀c∈Ba m,(Hw c).length<=1048576)(n:Int)(e:Ext)(hN:(Ba m).length<=1000000000)  : (Ob.loop 303 (Ai f8 5) (oZ m 0 n e) (dX m e (KV  ((Ba m))  n)).1 (dX m e (KV  ((Ba m))  n)).2).ok prog:=by
 refine Ds ((Ba m).length) (fun j n=>oZ m j n e) (fun i n=>KV  (List.drop i ((Ba m)))  n) (dX m e) (fun i n=>True) kR ?_ n trivial
 rintro i n hi -
 rcases Nat.lt_or_ge i ((Ba m).length) with Ag | CO
 ·have hd:=AH Ag
  by_cases h0:n<=4000
  ·exact lN Ad [sl (Ms.A0 (Ba m)),rp 3 (dt ((i:Int)<((Ba m).length:Int))),C6 h0,kp,am ((0:Int)<=(i:Int)/\(i:Int)<((Ms.cs (Ba m)).length:Int)) (by (simp only [Ms.A0]; omega)),lM (Ba m) i Ag,cl (@hE (List.getD (Ba m) i default) (4000) (by simp_all)),kp,lp (S.mk [(1,.lp 1 0),(2,.v (.bool false)),(3,A1 (IntKind.wrap .i64 (IntKind.wrap .i64 (n+1)+Gs [Oh (List.getD (Ba m) i default)] 4000))),(9,A1 (i:Int)),(207,A1 (i:Int)),(208,.lp 1 3),(209,vL 8 (Ms.cs (Ba m))),(210,A1 ((Ba m).length:Int)),(211,.v (.bool (decide ((i:Int)<((Ba m).length:Int))))),(212,.v (.bool (decide ((i:Int)<((Ba m).length:Int))))),(213,A1 n),(214,.v (.bool (decide (n<=4000)))),(215,.v (.bool (decide (n<=4000)))),(218,A1 n),(219,A1 (IntKind.wrap .i64 (n+1))),(220,.lp 1 3),(221,vL 8 (Ms.cs (Ba m))),(222,A1 (i:Int)),(223,.v (.ro (eX (List.getD (Ba m) i default)) 0)),(224,.v (.ro (eX (List.getD (Ba m) i default)) 4)),(225,.v (.agg (AO (Oh (List.getD (Ba m) i default))))),(226,LV.full 4 [AO (Oh (List.getD (Ba m) i default))]),(227,A1 (Gs [Oh (List.getD (Ba m) i default)] 4000)),(228,A1 (IntKind.wrap .i64 (IntKind.wrap .i64 (n+1)+Gs [Oh (List.getD (Ba m) i default)] 4000))),(10,A1 0)] [(1,El m)] e) (@sl6 (m) (i) Ag default (e) (by (apply Ac0 <;> first | assumption | omega | decide)) l3 (IntKind.wrap .i64 (IntKind.wrap .i64 (n+1)+Gs [Oh (List.getD (Ba m) i default)] 4000)) (by (apply A8t <;> first | assumption | omega | decide))) xr,wr ((i:Int)+1)] Ag (KU (Hw (List.getD (Ba m) i default)) (IntKind.wrap .i64 (IntKind.wrap .i64 (n+1)+Gs [Oh (List.getD (Ba m) i default)] 4000))) trivial (by rw [hd,KV,iP h0])
  ·exact lX Ad [sl (Ms.A0 (Ba m)),rp 3 (dt ((i:Int)<((Ba m).length:Int))),Az h0] (n) (by rw [hd,KV,iN h0])
 ·have he:i=(Ba m).length:=by omega
  exact lX Ad [sl (Ms.A0 (Ba m)),rp 3 (df ((i:Int)<((Ba m).length:Int))),bf false] (n) (by rw [he,List.drop_length,KV])
abbrev p4(m:Mo)(j:Int)(n:Int)(e:Ext):S:=S.mk [(1,.lp 1 0),(2,.v (.bool false)),(3,A1 n),(11,A1 j)] [(1,El m)] e
def LP  : List Qu->(Int)->(Int)
 | [],n=>(n)
 | el::r,n=>(if n<=4000 then LP  r (IntKind.wrap .i64 (IntKind.wrap .i64 (IntKind.wrap .i64 (n+1)+((quW el).length:Int))+Gs [Up el] 4000)) else (n))
def dY(m:Mo)(e:Ext)(p:(Int)):A5 × S:=(.exit 14,S.mk [(1,.lp 1 0),(2,.v (.bool false)),(3,A1 p)] [(1,El m)] e)
theorem sl7(m:Mo)(s1:¬((Av m).length:Int)>80)(s2:¬((BW m).length:Int)>80)(s3:¬((CJ m).length:Int)>80)(s4:¬((Ba m).length:Int)>80)(s5:¬((Dh m).length:Int)>80)(s6:¬((AY m).length:Int)>80)(hA:∀ (d:Da) (c:Cn) (k:Int),d∈Av m->c∈FP d->Pu 23 [.sl 9 (Tp.cs (M0 c)),.int .i64 k] (.ret (.int .i64 (EB (M0 c) k))))(l1:∀c∈Av m,(FP c).length<=1048576)(hI:∀ (k:Int),Pu 22 [.sl 25 (Df.cs (AY m)),.int .i64 k] (.ret (.int .i64 (O9 (AY m) k))))(hB:∀ (c:Cl) (p:Pm) (k:Int),c∈BW m->p∈Hv c->Pu 23 [.sl 9 [Ay (H8 p)],.int .i64 k] (.ret (.int .i64 (EB [H8 p] k))))(l2:∀c∈BW m,(Hv c).length<=1048576)(hC:∀ (x:In) (k:Int),x∈CJ m->Pu 23 [.sl 9 [Ay (N8 x)],.int .i64 k] (.ret (.int .i64 (EB [N8 x] k))))(hD:∀ (x:In) (k:Int),x∈CJ m->Pu 22 [.sl 25 (Df.cs (Tk x)),.int .i64 k] (.ret (.int .i64 (O9 (Tk x) k))))(hE:∀ (x:Ms) (k:Int),x∈Ba m->Pu 24 [.sl 4 [AO (Oh x)],.int .i64 k] (.ret (.int .i64 (Gs [Oh x] k))))(hG:∀ (x:Ms) (c:Cs) (k:Int),x∈Ba m->c∈Hw x->Pu 24 [.sl 4 [AO (Og c)],.int .i64 k] (.ret (.int .i64 (Gs [Og c] k))))(l3:∀c∈Ba m,(Hw c).length<=1048576)(hH:∀ (x:Qu) (k:Int),x∈Dh m->Pu 24 [.sl 4 [AO (Up x)],.int .i64 k] (.ret (.int .i64 (Gs [Up x] k))))(n:Int)(e:Ext)(hN:(Dh m).length<=1000000000)  : (Ob.loop 303 (Ai f8 7) (p4 m 0 n e) (dY m e (LP  ((Dh m))  n)).1 (dY m e (LP  ((Dh m))  n)).2).ok prog:=by
 refine Ds ((Dh m).length) (fun j n=>p4 m j n e) (fun i n=>LP  (List.drop i ((Dh m)))  n) (dY m e) (fun i n=>True) kR ?_ n trivial
 rintro i n hi -
 rcases Nat.lt_or_ge i ((Dh m).length) with Ag | CO
 ·have hd:=AH Ag
  by_cases h0:n<=4000
  ·exact lN Ad [sl (Qu.A0 (Dh m)),rp 3 (dt ((i:Int)<((Dh m).length:Int))),C6 h0,kp,am ((0:Int)<=(i:Int)/\(i:Int)<((Qu.cs (Dh m)).length:Int)) (by (simp only [Qu.A0]; omega)),xQu (Dh m) i Ag,sl (Vr.A0 (quW (List.getD (Dh m) i default))),kp,am ((0:Int)<=(i:Int)/\(i:Int)<((Qu.cs (Dh m)).length:Int)) (by (simp only [Qu.A0]; omega)),xQu (Dh m) i Ag,cl (@hH (List.getD (Dh m) i default) (4000) (by simp_all)),kp,wr ((i:Int)+1)] Ag (IntKind.wrap .i64 (IntKind.wrap .i64 (IntKind.wrap .i64 (n+1)+((quW (List.getD (Dh m) i default)).length:Int))+Gs [Up (List.getD (Dh m) i default)] 4000)) trivial (by rw [hd,LP,iP h0])
  ·exact lX Ad [sl (Qu.A0 (Dh m)),rp 3 (dt ((i:Int)<((Dh m).length:Int))),Az h0] (n) (by rw [hd,LP,iN h0])
 ·have he:i=(Dh m).length:=by omega
  exact lX Ad [sl (Qu.A0 (Dh m)),rp 3 (df ((i:Int)<((Dh m).length:Int))),bf false] (n) (by rw [he,List.drop_length,LP])
section
variable (m:Mo) (hA:∀ (d:Da) (c:Cn) (k:Int),d∈Av m->c∈FP d->Pu 23 [.sl 9 (Tp.cs (M0 c)),.int .i64 k] (.ret (.int .i64 (EB (M0 c) k)))) (l1:∀c∈Av m,(FP c).length<=1048576) (hI:∀ (k:Int),Pu 22 [.sl 25 (Df.cs (AY m)),.int .i64 k] (.ret (.int .i64 (O9 (AY m) k)))) (hB:∀ (c:Cl) (p:Pm) (k:Int),c∈BW m->p∈Hv c->Pu 23 [.sl 9 [Ay (H8 p)],.int .i64 k] (.ret (.int .i64 (EB [H8 p] k)))) (l2:∀c∈BW m,(Hv c).length<=1048576) (hC:∀ (x:In) (k:Int),x∈CJ m->Pu 23 [.sl 9 [Ay (N8 x)],.int .i64 k] (.ret (.int .i64 (EB [N8 x] k)))) (hD:∀ (x:In) (k:Int),x∈CJ m->Pu 22 [.sl 25 (Df.cs (Tk x)),.int .i64 k] (.ret (.int .i64 (O9 (Tk x) k)))) (hE:∀ (x:Ms) (k:Int),x∈Ba m->Pu 24 [.sl 4 [AO (Oh x)],.int .i64 k] (.ret (.int .i64 (Gs [Oh x] k)))) (hG:∀ (x:Ms) (c:Cs) (k:Int),x∈Ba m->c∈Hw x->Pu 24 [.sl 4 [AO (Og c)],.int .i64 k] (.ret (.int .i64 (Gs [Og c] k)))) (l3:∀c∈Ba m,(Hw c).length<=1048576) (hH:∀ (x:Qu) (k:Int),x∈Dh m->Pu 24 [.sl 4 [AO (Up x)],.int .i64 k] (.ret (.int .i64 (Gs [Up x] k))))
include m hA l1 hI hB l2 hC hD hE hG l3 hH
theorem A8u(Ac:((Av m).length:Int)>80):Pu 8 [.agg (Ci m)] (rB false):=
 pm Ad [sl (Da.A0 (Av m)),rp 5 (C6 Ac),rp 21 (bt true)] func8
theorem A8v(Ac:¬((Av m).length:Int)>80)(Ae:((BW m).length:Int)>80):Pu 8 [.agg (Ci m)] (rB false):=
 pm Ad [sl (Da.A0 (Av m)),rp 3 (Az Ac),sl (Cl.A0 (BW m)),rp 2 (Az Ac),rp 5 (C6 Ae),rp 16 (bt true)] func8
theorem A8w(Ac:¬((Av m).length:Int)>80)(Ae:¬((BW m).length:Int)>80)(Ao:((CJ m).length:Int)>80):Pu 8 [.agg (Ci m)] (rB false):=
 pm Ad [sl (Da.A0 (Av m)),rp 3 (Az Ac),sl (Cl.A0 (BW m)),rp 2 (Az Ac),rp 3 (Az Ae),sl (In.A0 (CJ m)),rp 2 (Az Ae),rp 5 (C6 Ao),rp 11 (bt true)] func8
theorem A8x(Ac:¬((Av m).length:Int)>80)(Ae:¬((BW m).length:Int)>80)(Ao:¬((CJ m).length:Int)>80)(AK:((Ba m).length:Int)>80):Pu 8 [.agg (Ci m)] (rB false):=
 pm Ad [sl (Da.A0 (Av m)),rp 3 (Az Ac),sl (Cl.A0 (BW m)),rp 2 (Az Ac),rp 3 (Az Ae),sl (In.A0 (CJ m)),rp 2 (Az Ae),rp 3 (Az Ao),sl (Ms.A0 (Ba m)),rp 2 (Az Ao),rp 5 (C6 AK),rp 6 (bt true)] func8
theorem A8y(Ac:¬((Av m).length:Int)>80)(Ae:¬((BW m).length:Int)>80)(Ao:¬((CJ m).length:Int)>80)(AK:¬((Ba m).length:Int)>80)(B9:((Dh m).length:Int)>80):Pu 8 [.agg (Ci m)] (rB false):=
 pm Ad [sl (Da.A0 (Av m)),rp 3 (Az Ac),sl (Cl.A0 (BW m)),rp 2 (Az Ac),rp 3 (Az Ae),sl (In.A0 (CJ m)),rp 2 (Az Ae),rp 3 (Az Ao),sl (Ms.A0 (Ba m)),rp 2 (Az Ao),rp 3 (Az AK),sl (Qu.A0 (Dh m)),rp 2 (Az AK),rp 5 (C6 B9),bt true] func8
theorem A8z(Ac:¬((Av m).length:Int)>80)(Ae:¬((BW m).length:Int)>80)(Ao:¬((CJ m).length:Int)>80)(AK:¬((Ba m).length:Int)>80)(B9:¬((Dh m).length:Int)>80)(BU:((AY m).length:Int)>80):Pu 8 [.agg (Ci m)] (rB false):=
 pm Ad [sl (Da.A0 (Av m)),rp 3 (Az Ac),sl (Cl.A0 (BW m)),rp 2 (Az Ac),rp 3 (Az Ae),sl (In.A0 (CJ m)),rp 2 (Az Ae),rp 3 (Az Ao),sl (Ms.A0 (Ba m)),rp 2 (Az Ao),rp 3 (Az AK),sl (Qu.A0 (Dh m)),rp 2 (Az AK),rp 3 (Az B9),sl (Df.A0 (AY m)),rp 2 (Az B9),C6 BU] func8
theorem A90(Ac:¬((Av m).length:Int)>80)(Ae:¬((BW m).length:Int)>80)(Ao:¬((CJ m).length:Int)>80)(AK:¬((Ba m).length:Int)>80)(B9:¬((Dh m).length:Int)>80)(BU:¬((AY m).length:Int)>80):Pu 8 [.agg (Ci m)] (rB (decide (LP (Dh m) (KV (Ba m) (JF (CJ m) (J7 (BW m) (Iq (Av m) (O9 (AY m) 4000)))))<=4000))):=
 pu Ad (fun e=>[sl (Da.A0 (Av m)),rp 3 (Az Ac),sl (Cl.A0 (BW m)),rp 2 (Az Ac),rp 3 (Az Ae),sl (In.A0 (CJ m)),rp 2 (Az Ae),rp 3 (Az Ao),sl (Ms.A0 (Ba m)),rp 2 (Az Ao),rp 3 (Az AK),sl (Qu.A0 (Dh m)),rp 2 (Az AK),rp 3 (Az B9),sl (Df.A0 (AY m)),rp 2 (Az B9),Az BU,cl (@hI (4000)),lp (S.mk [(0,.v (.agg (Ci m))),(1,.lp 1 0),(2,.v (.bool false)),(12,.lp 1 0),(13,vL 4 (Da.cs (Av m))),(14,A1 ((Av m).length:Int)),(15,.v (.bool (decide (((Av m).length:Int)>80)))),(16,.v (.bool (decide (((Av m).length:Int)>80)))),(17,.lp 1 1),(18,vL 3 (Cl.cs (BW m))),(19,A1 ((BW m).length:Int)),(20,.v (.bool (decide (((BW m).length:Int)>80)))),(21,.v (.bool (decide (((BW m).length:Int)>80)))),(22,.v (.bool (decide (((BW m).length:Int)>80)))),(23,.lp 1 2),(24,vL 12 (In.cs (CJ m))),(25,A1 ((CJ m).length:Int)),(26,.v (.bool (decide (((CJ m).length:Int)>80)))),(27,.v (.bool (decide (((CJ m).length:Int)>80)))),(28,.v (.bool (decide (((CJ m).length:Int)>80)))),(29,.lp 1 3),(30,vL 8 (Ms.cs (Ba m))),(31,A1 ((Ba m).length:Int)),(32,.v (.bool (decide (((Ba m).length:Int)>80)))),(33,.v (.bool (decide (((Ba m).length:Int)>80)))),(34,.v (.bool (decide (((Ba m).length:Int)>80)))),(35,.lp 1 4),(36,vL 6 (Qu.cs (Dh m))),(37,A1 ((Dh m).length:Int)),(38,.v (.bool (decide (((Dh m).length:Int)>80)))),(39,.v (.bool (decide (((Dh m).length:Int)>80)))),(40,.v (.bool (decide (((Dh m).length:Int)>80)))),(41,.lp 1 5),(42,vL 25 (Df.cs (AY m))),(43,A1 ((AY m).length:Int)),(44,.v (.bool (decide (((AY m).length:Int)>80)))),(45,.v (.bool (decide (((AY m).length:Int)>80)))),(46,.lp 1 5),(47,vL 25 (Df.cs (AY m))),(48,A1 (O9 (AY m) 4000)),(3,A1 (O9 (AY m) 4000)),(4,A1 0)] [(1,El m)] e) (@sl0 (m) Ac Ae Ao AK B9 BU hA l1 hI (O9 (AY m) 4000) (e) oM) xr,lq (@sl2 (m) Ac Ae Ao AK B9 BU hA l1 hI hB l2 (Iq (Av m) (O9 (AY m) 4000)) (e) oM),lq (@sl4 (m) Ac Ae Ao AK B9 BU hA l1 hI hB l2 hC hD (J7 (BW m) (Iq (Av m) (O9 (AY m) 4000))) (e) oM),lq (@sl5 (m) Ac Ae Ao AK B9 BU hA l1 hI hB l2 hC hD hE hG l3 (JF (CJ m) (J7 (BW m) (Iq (Av m) (O9 (AY m) 4000)))) (e) oM),lq (@sl7 (m) Ac Ae Ao AK B9 BU hA l1 hI hB l2 hC hD hE hG l3 hH (KV (Ba m) (JF (CJ m) (J7 (BW m) (Iq (Av m) (O9 (AY m) 4000))))) (e) oM)]) func8
end
theorem Jj(m:Mo):Am (Da.cs (Av m))+Am (Cl.cs (BW m))+Am (In.cs (CJ m))+Am (Ms.cs (Ba m))+Am (Qu.cs (Dh m))+Am (Df.cs (AY m))<=A6 (Ci m):=by simp only [A6,CK]; omega
theorem Vw(x:Da):Am (Cn.cs (FP x))+Am (Vr.cs (Dq x))+Am (A7 (Ek x))<A6 (Gn x):=by simp only [A6,CK]; omega
theorem jL(x:Cn):Am (Tp.cs (M0 x))+Am (A7 (Wt x))<A6 (lF x):=by simp only [A6,CK]; omega
theorem Vx(x:Cl):Am (Pm.cs (Hv x))<A6 (lG x):=by simp only [A6,CK]; omega
theorem Vy(x:In):A6 (Ay (N8 x))+Am (Df.cs (Tk x))<A6 (lI x):=by simp only [A6,CK]; omega
theorem QE(x:Ms):A6 (AO (Oh x))+Am (Cs.cs (Hw x))<A6 (eX x):=by simp only [A6,CK]; omega
theorem jM(x:Cs):A6 (AO (Og x))<A6 (lJ x):=by simp only [A6,CK]; omega
theorem jN(x:Qu):A6 (AO (Up x))<A6 (lK x):=by simp only [A6,CK]; omega
theorem A91(l:List Df)(mx:Int)(hs:Am (Df.cs l)<=100000000):Pu 22 [.sl 25 (Df.cs l),.int .i64 mx] (.ret (.int .i64 (O9 l mx))):=
 cdL l mx (fun d k hd=>iJ _ k (by have:=I8 d; have:=Df.mem hd; omega)) (fun d k hd=>cpT _ k (by have:=I8 d; have:=Df.mem hd; omega)) (fun d b k hd hb=>Aaj _ _ k (by have:=I8 d; have:=Df.mem hd; have:=iL b; have:=Bo.mem hb; omega)) (fun d k hd=>paT _ k (by have:=I8 d; have:=Df.mem hd; omega)) (fun d hd=>by have:=I8 d; have:=Df.mem hd; have:=Bo.BT (D6 d); omega) (by have:=Df.BT l; omega)
theorem smX(m:Mo)(hA:∀ (d:Da) (c:Cn) (k:Int),d∈Av m->c∈FP d->Pu 23 [.sl 9 (Tp.cs (M0 c)),.int .i64 k] (.ret (.int .i64 (EB (M0 c) k))))(l1:∀c∈Av m,(FP c).length<=1048576)(hI:∀ (k:Int),Pu 22 [.sl 25 (Df.cs (AY m)),.int .i64 k] (.ret (.int .i64 (O9 (AY m) k))))(hB:∀ (c:Cl) (p:Pm) (k:Int),c∈BW m->p∈Hv c->Pu 23 [.sl 9 [Ay (H8 p)],.int .i64 k] (.ret (.int .i64 (EB [H8 p] k))))(l2:∀c∈BW m,(Hv c).length<=1048576)(hC:∀ (x:In) (k:Int),x∈CJ m->Pu 23 [.sl 9 [Ay (N8 x)],.int .i64 k] (.ret (.int .i64 (EB [N8 x] k))))(hD:∀ (x:In) (k:Int),x∈CJ m->Pu 22 [.sl 25 (Df.cs (Tk x)),.int .i64 k] (.ret (.int .i64 (O9 (Tk x) k))))(hE:∀ (x:Ms) (k:Int),x∈Ba m->Pu 24 [.sl 4 [AO (Oh x)],.int .i64 k] (.ret (.int .i64 (Gs [Oh x] k))))(hG:∀ (x:Ms) (c:Cs) (k:Int),x∈Ba m->c∈Hw x->Pu 24 [.sl 4 [AO (Og c)],.int .i64 k] (.ret (.int .i64 (Gs [Og c] k))))(l3:∀c∈Ba m,(Hw c).length<=1048576)(hH:∀ (x:Qu) (k:Int),x∈Dh m->Pu 24 [.sl 4 [AO (Up x)],.int .i64 k] (.ret (.int .i64 (Gs [Up x] k)))):∃b,Pu 8 [.agg (Ci m)] (.ret (.bool b)):=by
 by_cases h0:(((Av m).length:Nat):Int)>80
 ·exact ⟨_,A8u m hA l1 hI hB l2 hC hD hE hG l3 hH h0⟩
 by_cases h1:(((BW m).length:Nat):Int)>80
 ·exact ⟨_,A8v m hA l1 hI hB l2 hC hD hE hG l3 hH h0 h1⟩
 by_cases h2:(((CJ m).length:Nat):Int)>80
 ·exact ⟨_,A8w m hA l1 hI hB l2 hC hD hE hG l3 hH h0 h1 h2⟩
 by_cases h3:(((Ba m).length:Nat):Int)>80
 ·exact ⟨_,A8x m hA l1 hI hB l2 hC hD hE hG l3 hH h0 h1 h2 h3⟩
 by_cases h4:(((Dh m).length:Nat):Int)>80
 ·exact ⟨_,A8y m hA l1 hI hB l2 hC hD hE hG l3 hH h0 h1 h2 h3 h4⟩
 by_cases h5:(((AY m).length:Nat):Int)>80
 ·exact ⟨_,A8z m hA l1 hI hB l2 hC hD hE hG l3 hH h0 h1 h2 h3 h4 h5⟩
 exact ⟨_,A90 m hA l1 hI hB l2 hC hD hE hG l3 hH h0 h1 h2 h3 h4 h5⟩
theorem dZ(m:Mo)(hs:A6 (Ci m)<=1048576):∃b,Pu 8 [.agg (Ci m)] (.ret (.bool b)):=by
 have h0:=Jj m
 have w1:=fun {d} (h:d∈Av m)=>Nat.le_trans (Da.mem h) (by omega:Am (Da.cs (Av m))<=1048576)
 have w2:=fun {d} (h:d∈BW m)=>Nat.le_trans (Cl.mem h) (by omega:Am (Cl.cs (BW m))<=1048576)
 have w3:=fun {d} (h:d∈CJ m)=>Nat.le_trans (In.mem h) (by omega:Am (In.cs (CJ m))<=1048576)
 have w4:=fun {d} (h:d∈Ba m)=>Nat.le_trans (Ms.mem h) (by omega:Am (Ms.cs (Ba m))<=1048576)
 have w5:=fun {d} (h:d∈Dh m)=>Nat.le_trans (Qu.mem h) (by omega:Am (Qu.cs (Dh m))<=1048576)
 refine smX m (fun d c k hd hc=>ctT _ k (by have:=w1 hd; have:=Vw d; have:=Cn.mem hc; have:=jL c; omega))
  (fun d hd=>by have:=w1 hd; have:=Vw d; have:=Cn.BT (FP d); omega)
  (fun k=>A91 _ k oM)
  (fun c p k hc hp=>iJ _ k (by have:=w2 hc; have:=Vx c; have:=Pm.mem hp; have:=UA p; omega))
  (fun c hc=>by have:=w2 hc; have:=Vx c; have:=Pm.BT (Hv c); omega)
  (fun x k hx=>iJ _ k (by have:=w3 hx; have:=Vy x; omega))
  (fun x k hx=>A91 _ k (by have:=w3 hx; have:=Vy x; omega))
  (fun x k hx=>iI _ k (by have:=w4 hx; have:=QE x; omega))
  (fun x c k hx hc=>iI _ k (by have:=w4 hx; have:=QE x; have:=Cs.mem hc; have:=jM c; omega))
  (fun x hx=>by have:=w4 hx; have:=QE x; have:=Cs.BT (Hw x); omega)
  (fun x k hx=>iI _ k (by have:=w5 hx; have:=jN x; omega))
end Go.Proofs.YthchpmnkecoafaaGreatDoor
