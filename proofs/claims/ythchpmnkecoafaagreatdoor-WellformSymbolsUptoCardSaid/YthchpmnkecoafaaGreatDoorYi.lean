/- Values of Go as plain data, an evaluator over them, and what the functions of the program return; part Yi. -/
import Derived.Test.YthchpmnkecoafaaGreatDoorYf
import Derived.Test.YthchpmnkecoafaaGreatDoorXh
import Derived.Test.YthchpmnkecoafaaGreatDoorYh
import Derived.Test.YthchpmnkecoafaaGreatDoorYa
set_option linter.unusedSectionVars false
set_option linter.unusedSimpArgs false
set_option linter.unusedVariables false
namespace Go.Proofs.YthchpmnkecoafaaGreatDoor
open Go.Proofs.Tryz
open Go.Pv Go.Proofs.Tryz
set_option maxRecDepth 100000
def mapO(f:List PV->Option Pr):List (List PV)->Option (List Pr)
 | []=>some []
 | c::r=>match f c with
  | some p=>(match mapO f r with
   | some l=>some (p::l)
   | none=>none)
  | none=>none
def toPr:Nat->List PV->Option Pr
 | 0,_=>none
 | k+1,cs=>match cs with
  | [.int .i64 o,.str nm,.int .i64 n,.nilsl]=>some (.mk o nm n [])
  | [.int .i64 o,.str nm,.int .i64 n,.sl 4 es]=>(match mapO (toPr k) es with
   | some l=>some (.mk o nm n l)
   | none=>none)
  | _=>none
theorem mapO_ok{f:List PV->Option Pr}(hf:∀cs p,f cs=some p->WkL cs (prL p)):∀ (es:List (List PV)) (l:List Pr),mapO f es=some l->WkLL es (Pr.cs l)
 | [],l,h=>by simp only [mapO,Option.some.injEq] at h; subst h; exact WkLL.r _
 | c::r,l,h=>by
  simp only [mapO] at h
  split at h
  ·rename_i p hp
   split at h
   ·rename_i l' hl
    simp only [Option.some.injEq] at h
    subst h
    rw [show Pr.cs (p::l')=prL p::Pr.cs l' by simp [Pr.cs_eq]]
    exact WkLL.c (hf _ _ hp) (mapO_ok hf r l' hl)
   ·cases h
  ·cases h
theorem toPr_ok:∀ (k:Nat) (cs:List PV) (p:Pr),toPr k cs=some p->WkL cs (prL p)
 | 0,_,_,h=>by cases h
 | k+1,cs,p,h=>by
  simp only [toPr] at h
  split at h
  ·simp only [Option.some.injEq] at h
   subst h
   exact WkL.c (.r _) (WkL.c (.r _) (WkL.c (.r _) (WkL.c (.n 4) (WkL.r _))))
  ·split at h
   ·rename_i l hl
    simp only [Option.some.injEq] at h
    subst h
    exact WkL.c (.r _) (WkL.c (.r _) (WkL.c (.r _) (WkL.c (Wk.s (mapO_ok (toPr_ok k) _ _ hl)) (WkL.r _))))
   ·cases h
  ·cases h
def knA:Orc:=fun f args e=>if f=173 then (match args with
 | [.agg cs]=>(match toPr 50 cs with
  | some p=>if bulkPs (prL p)<=100000000 then some (.ret (.int .i64 (pcE p)),e) else none
  | none=>none)
 | _=>none) else none
theorem knA_ok:OrcOK prog knA:=by
 intro f args e r e' h
 unfold knA at h
 split at h
 ·rename_i hf
  subst hf
  split at h
  ·rename_i cs
   split at h
   ·rename_i p hp
    split at h
    ·rename_i hs
     simp only [Option.some.injEq,Prod.mk.injEq] at h
     obtain ⟨rfl,rfl⟩:=h
     have:=Ob.pur_arg (WkL.c (Wk.a (toPr_ok _ _ _ hp)) (WkL.r [])) (pcT p hs)
     exact ⟨this.1,this.2 e⟩
    ·cases h
   ·cases h
  ·cases h
 ·cases h
def modA:List (Nat × Nat × Bool):=[(16,113,false),(16,120,false),(38,9,true),(45,26,false),(60,34,true),(60,54,false),(60,104,false),(60,112,false),(61,34,true),(61,95,true),(114,54,true),(114,187,false),(125,26,true),(125,215,false),(151,194,false),(151,202,true),(160,41,true),(196,81,true),(196,194,false),(196,202,true),(199,87,true),(199,194,true),(199,202,true),(202,37,false),(202,202,true),(205,81,false),(205,202,true),(225,41,true),(238,202,true),(256,97,true),(263,37,false),(263,57,false),(263,194,false),(263,202,true),(275,74,true),(281,37,true),(281,202,true),(291,50,false),(292,37,true),(292,63,true),(292,202,true),(314,3,false),(321,37,true),(321,202,true)]
def mdA(f:FuncId):Md:=⟨fun t=>match modA.find? fun x=>x.1==f&&x.2.1==t with
 | some (_,_,true)=>some true
 | some (_,_,false)=>none
 | none=>some false,fun _=>false⟩
theorem vb(a:BA):Pu 26 [.str a] (.ret (.agg [.int .i64 3,.str a,.int .i64 0,.nilsl])):=Ob.pur_of_fast mdA 60 60 mixed kR rfl rfl
theorem ig1:Pu 27 [.agg [.int .i64 0,.str nm0,.int .i64 0,.nilsl]] (.ret (.agg [.int .i64 1,.str nm0,.nilsl,.nilsl,.int .i64 0,.str nm0,.int .i64 0,.nilsl,.nilsl])):=Ob.pur_of_fast mdA 60 60 mixed kR rfl rfl
theorem ig2:Pu 27 [.agg [.int .i64 13,.str nm0,.int .i64 0,.sl 4 [[.int .i64 3,.str ⟨#[120]⟩,.int .i64 0,.nilsl],[.int .i64 3,.str ⟨#[118]⟩,.int .i64 0,.nilsl]]]] (.ret (.agg [.int .i64 1,.str nm0,.nilsl,.nilsl,.int .i64 13,.str nm0,.int .i64 0,.sl 4 [[.int .i64 3,.str ⟨#[120]⟩,.int .i64 0,.nilsl],[.int .i64 3,.str ⟨#[118]⟩,.int .i64 0,.nilsl]],.nilsl])):=Ob.pur_of_fast mdA 60 60 mixed kR rfl rfl
theorem ig3:Pu 27 [.agg [.int .i64 3,.str ⟨#[118]⟩,.int .i64 0,.nilsl]] (.ret (.agg [.int .i64 1,.str nm0,.nilsl,.nilsl,.int .i64 3,.str ⟨#[118]⟩,.int .i64 0,.nilsl,.nilsl])):=Ob.pur_of_fast mdA 60 60 mixed kR rfl rfl
theorem aw1:Pu 14 [.agg [.nilsl,.nilsl,.nilsl],.agg [.nilsl,.nilsl,.nilsl,.nilsl,.nilsl,.nilsl],.agg [.int .i64 6,.str nm0,.sl 9 [[.int .i64 1,.str nm0,.nilsl,.nilsl,.int .i64 0,.str nm0,.int .i64 0,.nilsl,.nilsl],[.int .i64 1,.str nm0,.nilsl,.nilsl,.int .i64 13,.str nm0,.int .i64 0,.sl 4 [[.int .i64 3,.str ⟨#[120]⟩,.int .i64 0,.nilsl],[.int .i64 3,.str ⟨#[118]⟩,.int .i64 0,.nilsl]],.nilsl],[.int .i64 2,.str nm0,.nilsl,.nilsl,.int .i64 0,.str nm0,.int .i64 0,.nilsl,.nilsl]],.sl 1 [[.str ⟨#[120]⟩],[.str ⟨#[121]⟩]],.int .i64 0,.str nm0,.int .i64 0,.nilsl,.nilsl]] (.ret (.int .i64 0)):=Ob.pur_of_known knA knA_ok mdA 60 60 mixed kR rfl rfl
theorem aw2:Pu 20 [.agg [.nilsl,.nilsl,.nilsl,.nilsl,.sl 6 [[.str ⟨#[117,112,116,111]⟩,.sl 2 [[.str ⟨#[120]⟩,.str ⟨#[73,110,116]⟩]],.int .i64 13,.str nm0,.int .i64 0,.sl 4 [[.int .i64 1,.str nm0,.int .i64 0,.nilsl],[.int .i64 3,.str ⟨#[120]⟩,.int .i64 0,.nilsl]]]],.nilsl]] (.ret (.tup [.str ⟨#[117,112,116,111]⟩,.int .i64 6])):=Ob.pur_of_known knA knA_ok mdA 60 60 mixed kR rfl rfl
theorem aw3:Pu 16 [.agg [.nilsl,.nilsl,.nilsl,.nilsl,.nilsl,.nilsl],.agg [.nilsl,.nilsl,.nilsl,.nilsl,.int .i64 6,.str nm0,.sl 9 [[.int .i64 1,.str nm0,.nilsl,.nilsl,.int .i64 0,.str nm0,.int .i64 0,.nilsl,.nilsl],[.int .i64 1,.str nm0,.nilsl,.nilsl,.int .i64 13,.str nm0,.int .i64 0,.sl 4 [[.int .i64 3,.str ⟨#[120]⟩,.int .i64 0,.nilsl],[.int .i64 3,.str ⟨#[118]⟩,.int .i64 0,.nilsl]],.nilsl],[.int .i64 2,.str nm0,.nilsl,.nilsl,.int .i64 0,.str nm0,.int .i64 0,.nilsl,.nilsl]],.sl 1 [[.str ⟨#[120]⟩],[.str ⟨#[121]⟩]],.int .i64 0,.str nm0,.int .i64 0,.nilsl,.nilsl,.sl 4 [[.int .i64 3,.str ⟨#[120]⟩,.int .i64 0,.nilsl]]]] (.ret (.int .i64 0)):=Ob.pur_of_known knA knA_ok mdA 60 60 mixed kR rfl rfl
theorem aw4:Pu 14 [.agg [.nilsl,.nilsl,.nilsl],.agg [.nilsl,.nilsl,.nilsl,.nilsl,.nilsl,.nilsl],.agg [.int .i64 1,.str nm0,.nilsl,.nilsl,.int .i64 3,.str ⟨#[118]⟩,.int .i64 0,.nilsl,.nilsl]] (.ret (.int .i64 11)):=Ob.pur_of_known knA knA_ok mdA 60 60 mixed kR rfl rfl
theorem aw5:Pu 12 [.agg [.nilsl,.nilsl,.nilsl,.sl 8 [[.str ⟨#[108,101,110]⟩,.str ⟨#[73,110,116,76,105,115,116]⟩,.str ⟨#[73,110,116]⟩,.nilsl,.int .i64 0,.str nm0,.int .i64 0,.nilsl]],.nilsl,.nilsl]] (.own 77 3 [[.str ⟨#[108,101,110]⟩,.sl 1 [[.str ⟨#[73,110,116,76,105,115,116]⟩]],.str ⟨#[73,110,116]⟩]]):=Ob.pur_of_known knA knA_ok mdA 60 60 mixed kR rfl rfl
theorem awL  : Pu 10 [] (rB true):=
 pm mdL [cl (@vb (bM 120)),cl (@vb (bM 118)),cl ig1,cl ig2,cl (@vb (bM 120)),cl aw2,cl aw5,cl aw1,rp 3 (bt true),cl (@vb (bM 118)),bt true,cl ig3,bt true,cl aw4,rp 10 (bt true),kp,rp 4 (bt true),kp,rp 7 (bt true),ab true,cl (@vb (bM 120)),rp 3 (bt true),cl aw3,rp 2 (bt true)] func10
theorem nv_bulk(v:Nv):bulkPss (Vr.cs (nvW v))+bulkPss (Sy.cs (nvS v))+bulkPss (Ho.cs (nvH v))<=bulkPs (nvL v):=by simp only [bulkPs,bulkP]; omega
theorem sy_bulk(x:Sy):bulkPss (nmsC (syA x))<bulkPs (syL x):=by simp only [bulkPs,bulkP]; omega
theorem ho_bulk(x:Ho):bulkPss (Vr.cs (hoP x))<bulkPs (hoL x):=by simp only [bulkPs,bulkP]; omega
theorem env_s(v:Nv)(hs:bulkPs (nvL v)<=1048576):EnvS v/\(nvW v).length<=1048576/\(nvS v).length<=1048576:=by
 have h0:=nv_bulk v
 have h1:=Vr.bulk (nvW v)
 have h2:=Sy.bulk (nvS v)
 have h3:=Ho.bulk (nvH v)
 exact ⟨⟨by omega,by omega,by omega,fun w hw=>by have:=Sy.mem hw; have:=sy_bulk w; have:=nms_bulk (syA w); omega,fun w hw=>by have:=Ho.mem hw; have:=ho_bulk w; have:=Vr.bulk (hoP w); omega⟩,by omega,by omega⟩
theorem symbols_true(m:Mo)(v:Nv)(t:Tp)(hs:bulkPs (nvL v)+bulkPs (moL m)+bulkPs (tpL t)<=1048576):Pu 6 [.agg (nvL v),.agg (moL m),.agg (tpL t)] (.ret (.bool true)):=by
 obtain ⟨hE,hw,hsy⟩:=env_s v oM
 have hda:(moD m).length<=1048576:=by have:=mo_bulk m; have:=Da.bulk (moD m); omega
 obtain ⟨b,hb⟩:=small_ok m oM
 obtain ⟨c,hc⟩:=smL2 t oM
 have ht:bulkPs (tpL t)<=10000000:=by omega
 have hgr:(nvW v).length<=10000000:=by omega
 have hsl:(nvS v).length<=100000000:=by omega
 cases h0:fwS_r0 v with
 | false=>exact wsy_1 m v t hda hE ht hgr hsl b c hb hc awL h0
 | true=>
  cases h1:b with
  | false=>exact wsy_2 m v t hda hE ht hgr hsl b c hb hc awL h0 h1
  | true=>
   cases h2:c with
   | false=>exact wsy_3 m v t hda hE ht hgr hsl b c hb hc awL h0 h1 h2
   | true=>
    by_cases h3:tpO t=6
    ·exact wsy_4 m v t hda hE ht hgr hsl b c hb hc awL h0 h1 h2 h3
    ·by_cases h4:wt_r0 m v t=0
     ·cases h5:ocF (ByteArray.mk #[122,122,57]) t with
      | true=>exact wsy_6 m v t hda hE ht hgr hsl b c hb hc awL h0 h1 h2 h3 h4 h5
      | false=>exact wsy_7 m v t hda hE ht hgr hsl b c hb hc awL h0 h1 h2 h3 h4 h5 (by rw [wt_x m v t h5]; exact h4)
     ·exact wsy_5 m v t hda hE ht hgr hsl b c hb hc awL h0 h1 h2 h3 h4
end Go.Proofs.YthchpmnkecoafaaGreatDoor
