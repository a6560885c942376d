/- Part 15: MADE BY A PROGRAM (lift.py): plain functions that the functions of the program compute, with the proofs that they do. No condition. And what follows it. -/
import Derived.Test.YteeibihhdldjfaaGreatDoorVeN
set_option linter.unusedVariables false
set_option linter.unusedSimpArgs false
namespace Go.Ve.T
open Go.Ve Go.Proofs
noncomputable section
set_option maxRecDepth 10000
def Hd (x0:aK) (x1:Int):Option Bool :=
 bif (decide (x0.eD≤x1))then(
 some (decide (x1<x0.fg)))else(
 some false)
abbrev apI (c:Cx) (R:Value→W) (r:Bool):Prop:=∀(g' h':AH),Sep c g' h' []→R (.bool r) h'
theorem apJ {w0:World}{g h:AH}{Q:CR→AH→Prop}{r:Bool}{x0:aK}{x1:Int}{oH:Nat}(M:Hd x0 x1=some r) (sg:Sub g h) (ok:h.Ok) (pI:g.bE oH 0 [(vi x1)]) (H:apI ⟨g,h,[]⟩ (fun v=>Q (.ret v)) r):WF PP w0 Ja [(.agg ⟨[(vi x0.eD),(vi x0.fg),(vi x0.eg)]⟩),(au oH 0)] h Q:=by
 refine ah2 _ _ ?_
 have S:=Sep.start sg ok
 unfold YR
 unfold Hd at M
 refine S.box [(vi x0.eD),(vi x0.fg),(vi x0.eg)] rfl (aa rfl (aa rfl (aa rfl rfl))) (fun jl h S=> ?_)
 refine bC.2 ?_
 refine S.bz 0 rfl rfl ?_
 refine S.eH (pI 0 _ rfl) ?_
 refine pz.2 ?_
 cases hc:(decide (x0.eD≤x1))
 · have M:=aS hc M
   refine aA (by decide) ?_
   refine aA (by decide) ?_
   refine aA (by decide) ?_
   refine aA (by decide) ?_
   refine bf.2 ?_
   cases M
   exact H _ _  S.bH
 · have M:=aQ hc M
   refine ax rfl ?_
   refine S.eH (pI 0 _ rfl) ?_
   refine ax rfl ?_
   refine bC.2 ?_
   refine ax rfl ?_
   refine S.bz 0 rfl rfl ?_
   refine ax rfl ?_
   refine eF.2 ?_
   refine bf.2 ?_
   cases M
   exact H _ _  S.bH
def He (N:Nat) (x0:ak) (x1:Int):Option Int :=
(C1 N x0.aM (fun a0=>Hd a0 x1)).bind fun iP =>
 some iP
abbrev apK (c:Cx) (R:Value→W) (r:Int):Prop:=∀(g' h':AH),Sep c g' h' []→R (vi r) h'
theorem apL {w0:World}{g h:AH}{Q:CR→AH→Prop}{r:Int}{N:Nat}{x0:ak}{x1:Int}{cU cV:Value}(M:He N x0 x1=some r) (sg:Sub g h) (ok:h.Ok) (cv:ab aq.rep 4 g cU x0.ae) (cZ:ab aK.rep 3 g cV x0.aM) (H:apK ⟨g,h,[]⟩ (fun v=>Q (.ret v)) r):WF PP w0 OU [(.agg ⟨[(.string x0.aB),(.string x0.aC),(vi x0.fArgs),(vi x0.ay),(vi x0.az),cU,cV]⟩),(vi x1)] h Q:=by
 refine ah6 _ _ ?_
 have S:=Sep.start sg ok
 unfold YT
 unfold He at M
 refine S.box [(.string x0.aB),(.string x0.aC),(vi x0.fArgs),(vi x0.ay),(vi x0.az),cU,cV] rfl (aa rfl (aa rfl (aa rfl (aa rfl (aa rfl (aa cv.one (aa cZ.one rfl))))))) (fun jl h S=> ?_)
 refine S.box [(vi x1)] rfl (aa rfl rfl) (fun CV h S=> ?_)
 refine bC.2 ?_
 refine S.bz 1 rfl rfl ?_
 refine(L3 (by simp)).2 ?_
 obtain⟨g,sg,S,r_3⟩:=S.th
 have cv:=ab.mono cv aq.mono sg
 have cZ:=ab.mono cZ aK.mono sg
 have apM:rC w0 g (.func (.func Ja) ⟨[]⟩ ⟨[(au CV 0)]⟩) (fun a0=>Hd a0 x1):=⟨rfl,fun a0 r E K g2 h2 s1 s2 s3  m1 k1=>apJ m1 s2 s3 (Sub.bE s1 r_3) k1⟩
 obtain⟨iP,oG,M⟩:=bind_some M
 refine aeG oG S.sub S.ok cZ apM (fun _ h  S1  => ?_)
 have S:=S.dB S1
 cases M
 exact H _ _  S.bH
def Nl   :Option Int :=
 some 0
def Df (y8:Bool)  :Option Int :=
 bif y8 then(
 some (-1))else(
 Nl)
def Hf (v1:aq) (x1:Int) (cN:Bool)  :Option Int :=
 bif cN then(
 Df cN)else(
 bif (decide (v1.aI=32))then(
 Df (decide (x1=1)))else(
 Df false))
def Hg (v1:aq) (x1:Int) (v7:Bool)  :Option Int :=
 bif v7 then(
 some 1)else(
 bif (decide (v1.aI=31))then(
 Hf v1 x1 (decide (x1=0)))else(
 Hf v1 x1 false))
def Hh (x0:aq) (x1:Int):Option Int :=
 bif (decide (x0.aI=30))then(
 Hg x0 x1 (decide (x1=0)))else(
 Hg x0 x1 false)
abbrev Hi (c:Cx) (R:Value→W) (r:Int):Prop:=∀(g' h':AH),Sep c g' h' []→R (vi r) h'
theorem apN {w0:World}{c:Cx}{g h:AH}{E R:Value→W}{r:Int}   (M:Nl  =some r) (S:Sep c g h [])   (H:Hi c R r):O2 w0 E R  h:=by
 unfold O2
 unfold Nl at M
 cases M
 exact H _ _  S.bH
theorem Wr {w0:World}{c:Cx}{g h:AH}{E R:Value→W}{r:Int}{y8:Bool}  (M:Df y8=some r) (S:Sep c g h [])   (H:Hi c R r):Jf w0 E R (.bool y8) h:=by
 unfold Jf
 unfold Df at M
 refine bw (fun hc=> ?_) (fun hc=> ?_)
 · have M:=aQ hc M
   cases M
   exact H _ _  S.bH
 · have M:=aS hc M
   exact apN M S  H
theorem ae5 {w0:World}{c:Cx}{g h:AH}{E R:Value→W}{r:Int}{v1:aq}{x1:Int}{cN:Bool}{al:Nat}  (M:Hf v1 x1 cN=some r) (S:Sep c g h [.bx al [(vi v1.aI),(vi v1.fA),(vi v1.fB),(vi v1.fC)]])   (H:Hi c R r):O3 w0 E R (au al 0) (vi x1) (.bool cN) h:=by
 unfold O3
 unfold Hf at M
 refine bw (fun hc=> ?_) (fun hc=> ?_)
 · have M:=aQ hc M
   have S:=S.t0
   exact Wr M S  H
 · have M:=aS hc M
   refine bC.2 ?_
   refine S.bz 0 rfl rfl ?_
   refine cK.2 ?_
   cases hc:(decide (v1.aI=32))
   · have M:=aS hc M
     refine aA (by decide) ?_
     refine aA (by decide) ?_
     refine bf.2 ?_
     have S:=S.t0
     exact Wr M S  H
   · have M:=aQ hc M
     refine ax rfl ?_
     refine ax rfl ?_
     refine cK.2 ?_
     refine bf.2 ?_
     have S:=S.t0
     exact Wr M S  H
theorem ae6 {w0:World}{c:Cx}{g h:AH}{E R:Value→W}{r:Int}{v1:aq}{x1:Int}{v7:Bool}{al:Nat}  (M:Hg v1 x1 v7=some r) (S:Sep c g h [.bx al [(vi v1.aI),(vi v1.fA),(vi v1.fB),(vi v1.fC)]])   (H:Hi c R r):O4 w0 E R (au al 0) (vi x1) (.bool v7) h:=by
 unfold O4
 unfold Hg at M
 refine bw (fun hc=> ?_) (fun hc=> ?_)
 · have M:=aQ hc M
   cases M
   exact H _ _  S.bH
 · have M:=aS hc M
   refine bC.2 ?_
   refine S.bz 0 rfl rfl ?_
   refine cK.2 ?_
   cases hc:(decide (v1.aI=31))
   · have M:=aS hc M
     refine aA (by decide) ?_
     refine aA (by decide) ?_
     refine bf.2 ?_
     exact ae5 M S  H
   · have M:=aQ hc M
     refine ax rfl ?_
     refine ax rfl ?_
     refine cK.2 ?_
     refine bf.2 ?_
     exact ae5 M S  H
theorem apO {w0:World}{g h:AH}{Q:CR→AH→Prop}{r:Int}{x0:aq}{x1:Int}(M:Hh x0 x1=some r) (sg:Sub g h) (ok:h.Ok)  (H:Hi ⟨g,h,[]⟩ (fun v=>Q (.ret v)) r):WF PP w0 O5 [(.agg ⟨[(vi x0.aI),(vi x0.fA),(vi x0.fB),(vi x0.fC)]⟩),(vi x1)] h Q:=by
 refine aii _ _ ?_
 have S:=Sep.start sg ok
 unfold Za
 unfold Hh at M
 refine S.box [(vi x0.aI),(vi x0.fA),(vi x0.fB),(vi x0.fC)] rfl (aa rfl (aa rfl (aa rfl (aa rfl rfl)))) (fun jl h S=> ?_)
 refine bC.2 ?_
 refine S.bz 0 rfl rfl ?_
 refine cK.2 ?_
 cases hc:(decide (x0.aI=30))
 · have M:=aS hc M
   refine aA (by decide) ?_
   refine aA (by decide) ?_
   refine bf.2 ?_
   exact ae6 M S  H
 · have M:=aQ hc M
   refine ax rfl ?_
   refine ax rfl ?_
   refine cK.2 ?_
   refine bf.2 ?_
   exact ae6 M S  H
def Hj (N:Nat) (bB:Int) (aL:List Int) (kM:aq) (cO:(List Int)→Int→Option ((List Int))):Option ((List Int)) :=
 cO aL (bD .i64 (bB+1))
def Hk (N:Nat) (v1:aq) (c9:Int) (bK:List Int) (bB:Int) (v28:Bool) (cO:(List Int)→Int→Option ((List Int))):Option ((List Int)) :=
 bif v28 then(
(z8 v1).bind fun tp =>
(ix [tp.e0,tp.e1,tp.e2] (bD .i64 (c9-1))).bind fun ik =>
 gu (decide (bK.length+[ik].length≤1048576)) (
 Hj N bB (bK++[ik]) v1 cO))else(
 Hj N bB bK v1 cO)
def Hl (N:Nat) (v1:aq) (c9:Int) (bK:List Int) (bB:Int) (v21:Bool) (cO:(List Int)→Int→Option ((List Int))):Option ((List Int)) :=
 bif v21 then(
(z8 v1).bind fun eM =>
(ix [eM.e0,eM.e1,eM.e2] (bD .i64 (c9-1))).bind fun eb =>
 Hk N v1 c9 bK bB (!decide (eb=(-1))) cO)else(
 Hk N v1 c9 bK bB false cO)
def Ap (N:Nat) (v11:fH) (bB:Int) (v6:Bool) (v1:aq) (bK:List Int) (cO:(List Int)→Int→Option ((List Int))):Option ((List Int)) :=
(ix [v11.e0,v11.e1] bB).bind fun iP =>
 bif v6 then(
 Hl N v1 iP bK bB (decide (0<iP)) cO)else(
 Hl N v1 iP bK bB false cO)
def Ws (N:Nat) (y9:List Int)  :Option ((List Int)) :=
 some y9
def Wt (N:Nat) (v11:fH) (v6:Bool) (v1:aq) (bK:List Int) (bB:Int) (cO:(List Int)→Int→Option ((List Int))):Option ((List Int)) :=
 bif (decide (bB<2))then(
 Ap N v11 bB v6 v1 bK cO)else(
 Ws N bK)
def Hm (N:Nat) (v11:fH) (v6:Bool) (v1:aq)  :Nat→(List Int)→Int→Option ((List Int))
 | 0,_,_=>none
 | n+1,bK,bB=>Wt N v11 v6 v1 bK bB  (fun ag aD=>Hm N v11 v6 v1 n ag aD)
def Hn (N:Nat) (x0:aq):Option ((List Int)) :=
(CW x0.aI).bind fun aR =>
 Hm N aR.1.dY aR.2 x0 N ([]:List Int) 0
abbrev xp (c:Cx) (R:Value→W) (r:(List Int)):Prop:=∀(g' h':AH) (w1:Value),Sep c g' h' []→ab (rI .i64) 1 g' w1 r→R w1 h'
theorem ae7 {w0:World}{c:Cx}{g h:AH}{E R:Value→W}{r:(List Int)}{N:Nat}{bB:Int}{aL:List Int}{kM:aq}{GC:Value}{GD:List (List Value)}{GF:Nat}{dh:Value→Value→W}{cO:(List Int)→Int→Option ((List Int))}{fT:AH}(M:Hj N bB aL kM cO=some r) (S:Sep c g h [.sl 3 1 GC GD,.bx GF [(vi kM.aI),(vi kM.fA),(vi kM.fB),(vi kM.fC)]]) (VW:ah ((rI .i64) g) GD aL) (iC:Sub fT g) (je:∀{ag:List Int}{bP:Value}{bQ:List (List Value)}{aD:Int}{g2 h2:AH},cO ag aD=some r→Sub fT g2→Sep c g2 h2 [.bx GF [(vi kM.aI),(vi kM.fA),(vi kM.fB),(vi kM.fC)],.sl 3 1 bP bQ]→ah ((rI .i64) g2) bQ ag→dh bP (vi aD) h2) (H:xp c R r):Jt w0 E R (vi bB) dh GC h:=by
 unfold Jt
 unfold Hj at M
 refine fF.2 ?_
 have S:=S.f1
 exact je M iC S VW
theorem ae8 {w0:World}{c:Cx}{g h:AH}{E R:Value→W}{r:(List Int)}{N:Nat}{v1:aq}{c9:Int}{bK:List Int}{bB:Int}{v28:Bool}{al:Nat}{gE:Value}{fU:List (List Value)}{dh:Value→Value→W}{cO:(List Int)→Int→Option ((List Int))}{fT:AH}(M:Hk N v1 c9 bK bB v28 cO=some r) (S:Sep c g h [.bx al [(vi v1.aI),(vi v1.fA),(vi v1.fB),(vi v1.fC)],.sl 3 1 gE fU]) (gZ:ah ((rI .i64) g) fU bK) (iC:Sub fT g) (je:∀{ag:List Int}{bP:Value}{bQ:List (List Value)}{aD:Int}{g2 h2:AH},cO ag aD=some r→Sub fT g2→Sep c g2 h2 [.bx al [(vi v1.aI),(vi v1.fA),(vi v1.fB),(vi v1.fC)],.sl 3 1 bP bQ]→ah ((rI .i64) g2) bQ ag→dh bP (vi aD) h2) (H:xp c R r):Pv w0 E R (au al 0) (vi c9) gE (vi bB) dh (.bool v28) h:=by
 unfold Pv
 unfold Hk at M
 refine bw (fun hc=> ?_) (fun hc=> ?_)
 · have M:=aQ hc M
   refine S.dc [(vi v1.aI),(vi v1.fA),(vi v1.fB),(vi v1.fC)] 0 rfl rfl rfl (by decide) ?_
   obtain⟨tp,Nn,M⟩:=bind_some M
   refine M4 Nn S.sub S.ok (fun _ h  S1  => ?_)
   have S:=S.dB S1
   refine lZ.2 ?_
   obtain⟨ik,Aq,M⟩:=bind_some M
   refine CS [tp.e0,tp.e1,tp.e2] (fun q=>(vi q)) rfl Aq ?_
   refine S.qy [[(vi ik)]] (de (m:=[(vi ik)]) (l2:=[(vi ik)]) rfl rfl (Nat.le_of_ble_eq_true rfl) rfl rfl) rfl (by decide) (tj rfl qA) (aa rfl rfl) (fun ae9 h S=> ?_)
   have vv:ah ((rI .i64) g) [[(vi ik)]] [ik]:=(ah.push ah.nil (show(rI .i64) g [(vi ik)] ik from rfl))
   have S:=S.f2
   obtain⟨Ho,M⟩:=mo M
   refine S.app (S.rd 1 rfl) (by rw [gZ.1,vv.1];exact Ho) (by decide) rfl (la (l3 .i64) vv) (la (l3 .i64) gZ) (fun afa h S=> ?_)
   have Ar:ah ((rI .i64) g) (fU++[[(vi ik)]]) (bK++[ik]):=ah.append gZ vv
   have S:=S.f2
   have S:=S.f1
   have S:=S.t2
   exact ae7 M S Ar iC je H
 · have M:=aS hc M
   have S:=S.f1
   exact ae7 M S gZ iC je H
theorem afb {w0:World}{c:Cx}{g h:AH}{E R:Value→W}{r:(List Int)}{N:Nat}{v1:aq}{c9:Int}{bK:List Int}{bB:Int}{v21:Bool}{al:Nat}{gE:Value}{fU:List (List Value)}{dh:Value→Value→W}{cO:(List Int)→Int→Option ((List Int))}{fT:AH}(M:Hl N v1 c9 bK bB v21 cO=some r) (S:Sep c g h [.bx al [(vi v1.aI),(vi v1.fA),(vi v1.fB),(vi v1.fC)],.sl 3 1 gE fU]) (gZ:ah ((rI .i64) g) fU bK) (iC:Sub fT g) (je:∀{ag:List Int}{bP:Value}{bQ:List (List Value)}{aD:Int}{g2 h2:AH},cO ag aD=some r→Sub fT g2→Sep c g2 h2 [.bx al [(vi v1.aI),(vi v1.fA),(vi v1.fB),(vi v1.fC)],.sl 3 1 bP bQ]→ah ((rI .i64) g2) bQ ag→dh bP (vi aD) h2) (H:xp c R r):Pw w0 E R (au al 0) (vi c9) gE (vi bB) dh (.bool v21) h:=by
 unfold Pw
 unfold Hl at M
 cases hc:v21
 · have M:=aS hc M
   refine aA (by decide) ?_
   refine aA (by decide) ?_
   refine aA (by decide) ?_
   refine aA (by decide) ?_
   refine aA (by decide) ?_
   refine aA (by decide) ?_
   refine bf.2 ?_
   exact ae8 M S gZ iC je H
 · have M:=aQ hc M
   refine ax rfl ?_
   refine S.dc [(vi v1.aI),(vi v1.fA),(vi v1.fB),(vi v1.fC)] 0 rfl rfl rfl (by decide) ?_
   refine ax rfl ?_
   obtain⟨eM,l4,M⟩:=bind_some M
   refine M4 l4 S.sub S.ok (fun _ h  S1  => ?_)
   have S:=S.dB S1
   refine ax rfl ?_
   refine ax rfl ?_
   refine lZ.2 ?_
   refine ax rfl ?_
   obtain⟨eb,mr,M⟩:=bind_some M
   refine CS [eM.e0,eM.e1,eM.e2] (fun q=>(vi q)) rfl mr ?_
   refine ax rfl ?_
   refine oy.2 ?_
   refine bf.2 ?_
   exact ae8 M S gZ iC je H
theorem apP {w0:World}{c:Cx}{g h:AH}{E R:Value→W}{r:(List Int)}{N:Nat}{v11:fH}{bB:Int}{v6:Bool}{v1:aq}{bK:List Int}{al:Nat}{gE:Value}{fU:List (List Value)}{dh:Value→Value→W}{cO:(List Int)→Int→Option ((List Int))}{fT:AH}(M:Ap N v11 bB v6 v1 bK cO=some r) (S:Sep c g h [.bx al [(vi v1.aI),(vi v1.fA),(vi v1.fB),(vi v1.fC)],.sl 3 1 gE fU]) (gZ:ah ((rI .i64) g) fU bK) (iC:Sub fT g) (je:∀{ag:List Int}{bP:Value}{bQ:List (List Value)}{aD:Int}{g2 h2:AH},cO ag aD=some r→Sub fT g2→Sep c g2 h2 [.bx al [(vi v1.aI),(vi v1.fA),(vi v1.fB),(vi v1.fC)],.sl 3 1 bP bQ]→ah ((rI .i64) g2) bQ ag→dh bP (vi aD) h2) (H:xp c R r):Px w0 E R (.agg ⟨[(vi v11.e0),(vi v11.e1)]⟩) (vi bB) (.bool v6) (au al 0) gE dh h:=by
 unfold Px
 unfold Ap at M
 obtain⟨iP,oG,M⟩:=bind_some M
 refine CS [v11.e0,v11.e1] (fun q=>(vi q)) rfl oG ?_
 cases hc:v6
 · have M:=aS hc M
   refine aA (by decide) ?_
   refine aA (by decide) ?_
   refine bf.2 ?_
   exact afb M S gZ iC je H
 · have M:=aQ hc M
   refine ax rfl ?_
   refine ax rfl ?_
   refine nh.2 ?_
   refine bf.2 ?_
   exact afb M S gZ iC je H
theorem apQ {w0:World}{c:Cx}{g h:AH}{E R:Value→W}{r:(List Int)}{N:Nat}{y9:List Int}{rD:Value}{xh:List (List Value)}  (M:Ws N y9=some r) (S:Sep c g h [.sl 3 1 rD xh]) (GG:ah ((rI .i64) g) xh y9)  (H:xp c R r):Pu w0 E R rD h:=by
 unfold Pu
 unfold Ws at M
 obtain⟨g,sg,S,zT⟩:=S.fz GG (du .i64)
 cases M
 exact H _ _ rD S.bH zT
theorem apR {w0:World}{c:Cx}{g h:AH}{E R:Value→W}{r:(List Int)}{N:Nat}{v11:fH}{v6:Bool}{v1:aq}{bK:List Int}{bB:Int}{al:Nat}{gE:Value}{fU:List (List Value)}{dh:Value→Value→W}{cO:(List Int)→Int→Option ((List Int))}{fT:AH}(M:Wt N v11 v6 v1 bK bB cO=some r) (S:Sep c g h [.bx al [(vi v1.aI),(vi v1.fA),(vi v1.fB),(vi v1.fC)],.sl 3 1 gE fU]) (gZ:ah ((rI .i64) g) fU bK) (iC:Sub fT g) (je:∀{ag:List Int}{bP:Value}{bQ:List (List Value)}{aD:Int}{g2 h2:AH},cO ag aD=some r→Sub fT g2→Sep c g2 h2 [.bx al [(vi v1.aI),(vi v1.fA),(vi v1.fB),(vi v1.fC)],.sl 3 1 bP bQ]→ah ((rI .i64) g2) bQ ag→dh bP (vi aD) h2) (H:xp c R r):Ju w0 E R (.agg ⟨[(vi v11.e0),(vi v11.e1)]⟩) (.bool v6) (au al 0) dh gE (vi bB) h:=by
 unfold Ju
 unfold Wt at M
 refine eF.2 ?_
 refine bw (fun hc=> ?_) (fun hc=> ?_)
 · have M:=aQ hc M
   exact apP M S gZ iC je H
 · have M:=aS hc M
   have S:=S.f1
   have S:=S.t1
   exact apQ M S gZ H
theorem apS {w0:World}{c:Cx}{E R:Value→W}{r:(List Int)}{N:Nat}{v11:fH}{v6:Bool}{v1:aq}{al:Nat}   (H:xp c R r):∀(n:Nat){bK:List Int}{bB:Int}{gE:Value}{fU:List (List Value)}{g h:AH},Hm N v11 v6 v1 n bK bB=some r→Sep c g h [.bx al [(vi v1.aI),(vi v1.fA),(vi v1.fB),(vi v1.fC)],.sl 3 1 gE fU]→ah ((rI .i64) g) fU bK→eS (α:=Value×Value) (fun k a=>Ju w0 E R (.agg ⟨[(vi v11.e0),(vi v11.e1)]⟩) (.bool v6) (au al 0) (fun b0 b1=>k (b0,b1)) a.1 a.2) n (gE,(vi bB)) h:=by
 intro n
 induction n with
 | zero =>
  intro bK bB gE fU g h M S gZ
  unfold Hm at M;cases M
 | succ n ih =>
  intro bK bB gE fU g h M S gZ
  exact apR M S gZ  (Sub.refl g) (fun M2 sub S2 mu=>ih M2 S2 mu) H
theorem apT {w0:World}{g h:AH}{Q:CR→AH→Prop}{r:(List Int)}{N:Nat}{x0:aq}(M:Hn N x0=some r) (sg:Sub g h) (ok:h.Ok)  (H:xp ⟨g,h,[]⟩ (fun v=>Q (.ret v)) r):WF PP w0 Py [(.agg ⟨[(vi x0.aI),(vi x0.fA),(vi x0.fB),(vi x0.fC)]⟩)] h Q:=by
 refine aix _ ?_
 have S:=Sep.start sg ok
 unfold Zq
 unfold Hn at M
 refine S.box [(vi x0.aI),(vi x0.fA),(vi x0.fB),(vi x0.fC)] rfl (aa rfl (aa rfl (aa rfl (aa rfl rfl)))) (fun jl h S=> ?_)
 refine bC.2 ?_
 refine S.bz 0 rfl rfl ?_
 obtain⟨aR,jc,M⟩:=bind_some M
 refine GH x0.aI S.sub S.ok jc (fun _ h  S1  => ?_)
 have S:=S.dB S1
 refine(eY rfl).2 ?_
 refine(eY rfl).2 ?_
 refine S.alloc (l:=[(.string (⟨⟨[]⟩⟩:ByteArray)),(vi 0),(vi 0),(vi 0),(vi 0),(vi 0),(vi 0),(.bool false),(.bool false)]) (aa rfl (aa rfl (aa rfl (aa rfl (aa rfl (aa rfl (aa rfl (aa rfl (aa rfl rfl))))))))) (fun Ac h S=> ?_)
 refine S.dv [(.string aR.1.rE),(vi aR.1.eT.e0),(vi aR.1.eT.e1),(vi aR.1.eT.e2),(vi aR.1.lb),(vi aR.1.dY.e0),(vi aR.1.dY.e1),(.bool aR.1.lK),(.bool aR.1.l5)] [(.string aR.1.rE),(vi aR.1.eT.e0),(vi aR.1.eT.e1),(vi aR.1.eT.e2),(vi aR.1.lb),(vi aR.1.dY.e0),(vi aR.1.dY.e1),(.bool aR.1.lK),(.bool aR.1.l5)] rfl rfl (aa rfl (aa rfl (aa rfl (aa rfl (aa rfl (aa rfl (aa rfl (aa rfl (aa rfl rfl))))))))) (Nat.le_of_ble_eq_true rfl) rfl (fun h S=> ?_)
 refine bC.2 ?_
 refine S.dc [(vi aR.1.dY.e0),(vi aR.1.dY.e1)] 0 rfl rfl rfl (by decide) ?_
 have S:=S.zW 3 1
 have S:=S.f2
 have S:=S.t2
 exact⟨N,apS  H _ M S (ah.nil (R:=(rI .i64) g))⟩
def Hp (v1:aq) (v7:vw)  :Option Int :=
(z8 v1).bind fun iP =>
(ix [iP.e0,iP.e1,iP.e2] (bD .i64 (v7.lb-1))).bind fun eM =>
 some eM
def Dg (x0:aq):Option Int :=
(CW x0.aI).bind fun aR =>
 bif (decide (aR.1.lb=0))then(
 some (-1))else(
 Hp x0 aR.1)
abbrev afc (c:Cx) (R:Value→W) (r:Int):Prop:=∀(g' h':AH),Sep c g' h' []→R (vi r) h'
theorem apU {w0:World}{c:Cx}{g h:AH}{E R:Value→W}{r:Int}{v1:aq}{v7:vw}{al lj:Nat}  (M:Hp v1 v7=some r) (S:Sep c g h [.bx al [(vi v1.aI),(vi v1.fA),(vi v1.fB),(vi v1.fC)],.bx lj [(.string v7.rE),(vi v7.eT.e0),(vi v7.eT.e1),(vi v7.eT.e2),(vi v7.lb),(vi v7.dY.e0),(vi v7.dY.e1),(.bool v7.lK),(.bool v7.l5)]])   (H:afc c R r):Pz w0 E R (au al 0) (au lj 0) h:=by
 unfold Pz
 unfold Hp at M
 refine S.dc [(vi v1.aI),(vi v1.fA),(vi v1.fB),(vi v1.fC)] 0 rfl rfl rfl (by decide) ?_
 refine bC.2 ?_
 refine S.bz 1 rfl rfl ?_
 refine lZ.2 ?_
 obtain⟨iP,oG,M⟩:=bind_some M
 refine M4 oG S.sub S.ok (fun _ h  S1  => ?_)
 have S:=S.dB S1
 refine⟨?_, ?_⟩
 · refine lZ.2 ?_
   exact z6
 · refine⟨?_, ?_⟩
   · refine S.bz 1 rfl rfl ?_
     exact z6
   · refine⟨?_, ?_⟩
     · refine bC.2 ?_
       exact aoA
     · obtain⟨eM,l4,M⟩:=bind_some M
       refine CS [iP.e0,iP.e1,iP.e2] (fun q=>(vi q)) rfl l4 ?_
       cases M
       exact H _ _  S.bH
theorem apV {w0:World}{g h:AH}{Q:CR→AH→Prop}{r:Int}{x0:aq}(M:Dg x0=some r) (sg:Sub g h) (ok:h.Ok)  (H:afc ⟨g,h,[]⟩ (fun v=>Q (.ret v)) r):WF PP w0 PA [(.agg ⟨[(vi x0.aI),(vi x0.fA),(vi x0.fB),(vi x0.fC)]⟩)] h Q:=by
 refine aiC _ ?_
 have S:=Sep.start sg ok
 unfold Zt
 unfold Dg at M
 refine S.box [(vi x0.aI),(vi x0.fA),(vi x0.fB),(vi x0.fC)] rfl (aa rfl (aa rfl (aa rfl (aa rfl rfl)))) (fun jl h S=> ?_)
 refine bC.2 ?_
 refine S.bz 0 rfl rfl ?_
 obtain⟨aR,jc,M⟩:=bind_some M
 refine GH x0.aI S.sub S.ok jc (fun _ h  S1  => ?_)
 have S:=S.dB S1
 refine(eY rfl).2 ?_
 refine(eY rfl).2 ?_
 refine S.alloc (l:=[(.string (⟨⟨[]⟩⟩:ByteArray)),(vi 0),(vi 0),(vi 0),(vi 0),(vi 0),(vi 0),(.bool false),(.bool false)]) (aa rfl (aa rfl (aa rfl (aa rfl (aa rfl (aa rfl (aa rfl (aa rfl (aa rfl rfl))))))))) (fun Ac h S=> ?_)
 refine S.dv [(.string aR.1.rE),(vi aR.1.eT.e0),(vi aR.1.eT.e1),(vi aR.1.eT.e2),(vi aR.1.lb),(vi aR.1.dY.e0),(vi aR.1.dY.e1),(.bool aR.1.lK),(.bool aR.1.l5)] [(.string aR.1.rE),(vi aR.1.eT.e0),(vi aR.1.eT.e1),(vi aR.1.eT.e2),(vi aR.1.lb),(vi aR.1.dY.e0),(vi aR.1.dY.e1),(.bool aR.1.lK),(.bool aR.1.l5)] rfl rfl (aa rfl (aa rfl (aa rfl (aa rfl (aa rfl (aa rfl (aa rfl (aa rfl (aa rfl rfl))))))))) (Nat.le_of_ble_eq_true rfl) rfl (fun h S=> ?_)
 refine bC.2 ?_
 refine S.bz 0 rfl rfl ?_
 refine cK.2 ?_
 refine bw (fun hc=> ?_) (fun hc=> ?_)
 · have M:=aQ hc M
   cases M
   exact H _ _  S.bH
 · have M:=aS hc M
   have S:=S.f1
   exact apU M S  H
def Hq (v1:aq) (v12:Bool)  :Option Bool :=
 bif v12 then(
 some true)else(
 some (decide (v1.aI=28)))
def Hr (v1:aq) (v8:Bool)  :Option Bool :=
 bif v8 then(
 Hq v1 true)else(
 Hq v1 (decide (v1.aI=27)))
def Hs (x0:aq):Option Bool :=
 bif (decide (x0.aI=24))then(
 Hr x0 true)else(
 Hr x0 (decide (x0.aI=26)))
abbrev Wu (c:Cx) (R:Value→W) (r:Bool):Prop:=∀(g' h':AH),Sep c g' h' []→R (.bool r) h'
theorem afd {w0:World}{c:Cx}{g h:AH}{E R:Value→W}{r:Bool}{v1:aq}{v12:Bool}{al:Nat}  (M:Hq v1 v12=some r) (S:Sep c g h [.bx al [(vi v1.aI),(vi v1.fA),(vi v1.fB),(vi v1.fC)]])   (H:Wu c R r):Qv w0 E R (au al 0) (.bool v12) h:=by
 unfold Qv
 unfold Hq at M
 cases hc:v12
 · have M:=aS hc M
   refine ax rfl ?_
   refine bC.2 ?_
   refine ax rfl ?_
   refine S.bz 0 rfl rfl ?_
   refine ax rfl ?_
   refine cK.2 ?_
   refine bf.2 ?_
   cases M
   exact H _ _  S.bH
 · have M:=aQ hc M
   refine aA (by decide) ?_
   refine aA (by decide) ?_
   refine aA (by decide) ?_
   refine bf.2 ?_
   cases M
   exact H _ _  S.bH
theorem afe {w0:World}{c:Cx}{g h:AH}{E R:Value→W}{r:Bool}{v1:aq}{v8:Bool}{al:Nat}  (M:Hr v1 v8=some r) (S:Sep c g h [.bx al [(vi v1.aI),(vi v1.fA),(vi v1.fB),(vi v1.fC)]])   (H:Wu c R r):Qw w0 E R (au al 0) (.bool v8) h:=by
 unfold Qw
 unfold Hr at M
 cases hc:v8
 · have M:=aS hc M
   refine ax rfl ?_
   refine bC.2 ?_
   refine ax rfl ?_
   refine S.bz 0 rfl rfl ?_
   refine ax rfl ?_
   refine cK.2 ?_
   refine bf.2 ?_
   exact afd M S  H
 · have M:=aQ hc M
   refine aA (by decide) ?_
   refine aA (by decide) ?_
   refine aA (by decide) ?_
   refine bf.2 ?_
   exact afd M S  H
theorem apW {w0:World}{g h:AH}{Q:CR→AH→Prop}{r:Bool}{x0:aq}(M:Hs x0=some r) (sg:Sub g h) (ok:h.Ok)  (H:Wu ⟨g,h,[]⟩ (fun v=>Q (.ret v)) r):WF PP w0 Qx [(.agg ⟨[(vi x0.aI),(vi x0.fA),(vi x0.fB),(vi x0.fC)]⟩)] h Q:=by
 refine aiO _ ?_
 have S:=Sep.start sg ok
 unfold ZJ
 unfold Hs at M
 refine S.box [(vi x0.aI),(vi x0.fA),(vi x0.fB),(vi x0.fC)] rfl (aa rfl (aa rfl (aa rfl (aa rfl rfl)))) (fun jl h S=> ?_)
 refine bC.2 ?_
 refine S.bz 0 rfl rfl ?_
 refine cK.2 ?_
 cases hc:(decide (x0.aI=24))
 · have M:=aS hc M
   refine ax rfl ?_
   refine bC.2 ?_
   refine ax rfl ?_
   refine S.bz 0 rfl rfl ?_
   refine ax rfl ?_
   refine cK.2 ?_
   refine bf.2 ?_
   exact afe M S  H
 · have M:=aQ hc M
   refine aA (by decide) ?_
   refine aA (by decide) ?_
   refine aA (by decide) ?_
   refine bf.2 ?_
   exact afe M S  H
def Wv (v1:aq)  :Option Int :=
 some v1.fC
def Ww (x1:Int) (v1:aq)  :Option Int :=
 bif (decide (x1=2))then(
 some v1.fB)else(
 Wv v1)
def Dh (x0:aq) (x1:Int):Option Int :=
 bif (decide (x1=1))then(
 some x0.fA)else(
 Ww x1 x0)
abbrev Wx (c:Cx) (R:Value→W) (r:Int):Prop:=∀(g' h':AH),Sep c g' h' []→R (vi r) h'
theorem apX {w0:World}{c:Cx}{g h:AH}{E R:Value→W}{r:Int}{v1:aq}{al:Nat}  (M:Wv v1=some r) (S:Sep c g h [.bx al [(vi v1.aI),(vi v1.fA),(vi v1.fB),(vi v1.fC)]])   (H:Wx c R r):Q0 w0 E R (au al 0) h:=by
 unfold Q0
 unfold Wv at M
 refine bC.2 ?_
 refine S.bz 0 rfl rfl ?_
 cases M
 exact H _ _  S.bH
theorem apY {w0:World}{c:Cx}{g h:AH}{E R:Value→W}{r:Int}{x1:Int}{v1:aq}{al:Nat}  (M:Ww x1 v1=some r) (S:Sep c g h [.bx al [(vi v1.aI),(vi v1.fA),(vi v1.fB),(vi v1.fC)]])   (H:Wx c R r):Q1 w0 E R (vi x1) (au al 0) h:=by
 unfold Q1
 unfold Ww at M
 refine cK.2 ?_
 refine bw (fun hc=> ?_) (fun hc=> ?_)
 · have M:=aQ hc M
   refine bC.2 ?_
   refine S.bz 0 rfl rfl ?_
   cases M
   exact H _ _  S.bH
 · have M:=aS hc M
   exact apX M S  H
theorem Wy {w0:World}{g h:AH}{Q:CR→AH→Prop}{r:Int}{x0:aq}{x1:Int}(M:Dh x0 x1=some r) (sg:Sub g h) (ok:h.Ok)  (H:Wx ⟨g,h,[]⟩ (fun v=>Q (.ret v)) r):WF PP w0 Ep [(.agg ⟨[(vi x0.aI),(vi x0.fA),(vi x0.fB),(vi x0.fC)]⟩),(vi x1)] h Q:=by
 refine aiW _ _ ?_
 have S:=Sep.start sg ok
 unfold ZP
 unfold Dh at M
 refine S.box [(vi x0.aI),(vi x0.fA),(vi x0.fB),(vi x0.fC)] rfl (aa rfl (aa rfl (aa rfl (aa rfl rfl)))) (fun jl h S=> ?_)
 refine cK.2 ?_
 refine bw (fun hc=> ?_) (fun hc=> ?_)
 · have M:=aQ hc M
   refine bC.2 ?_
   refine S.bz 0 rfl rfl ?_
   cases M
   exact H _ _  S.bH
 · have M:=aS hc M
   exact apY M S  H
def Ht (N:Nat) (ew:Int) (bK:List Int) (np:cP) (tq:aq) (kO:(List Int)→Int→Option ((List Int))):Option ((List Int)) :=
 kO bK (bD .i64 (ew+1))
def Hu (N:Nat) (v1:aq) (v7:cP) (ew:Int) (ep:List Int) (fi:Bool) (kO:(List Int)→Int→Option ((List Int))):Option ((List Int)) :=
 bif fi then(
(ix [v7.cW.e0,v7.cW.e1] ew).bind fun tp =>
(Dh v1 tp).bind fun ik =>
 gu (decide (ep.length+[ik].length≤1048576)) (
 Ht N ew (ep++[ik]) v7 v1 kO))else(
 Ht N ew ep v7 v1 kO)
def As (N:Nat) (v7:cP) (ew:Int) (v1:aq) (ep:List Int) (kO:(List Int)→Int→Option ((List Int))):Option ((List Int)) :=
(ix [v7.cW.e0,v7.cW.e1] ew).bind fun iP =>
 bif (decide (0<iP))then(
(ix [v7.cW.e0,v7.cW.e1] ew).bind fun eM =>
(Dh v1 eM).bind fun eb =>
 Hu N v1 v7 ew ep (!decide (eb=(-1))) kO)else(
 Hu N v1 v7 ew ep false kO)
def Wz (N:Nat) (y9:List Int)  :Option ((List Int)) :=
 some y9
def WA (N:Nat) (v7:cP) (v1:aq) (ep:List Int) (ew:Int) (kO:(List Int)→Int→Option ((List Int))):Option ((List Int)) :=
 bif (decide (ew<2))then(
 As N v7 ew v1 ep kO)else(
 Wz N ep)
def Np (N:Nat) (v7:cP) (v1:aq)  :Nat→(List Int)→Int→Option ((List Int))
 | 0,_,_=>none
 | n+1,ep,ew=>WA N v7 v1 ep ew  (fun ag aD=>Np N v7 v1 n ag aD)
def Hv (N:Nat) (x0:aq):Option ((List Int)) :=
(xm x0.aI).bind fun aR =>
 Np N aR.1 x0 N ([]:List Int) 0
abbrev Au (c:Cx) (R:Value→W) (r:(List Int)):Prop:=∀(g' h':AH) (w1:Value),Sep c g' h' []→ab (rI .i64) 1 g' w1 r→R w1 h'
theorem aff {w0:World}{c:Cx}{g h:AH}{E R:Value→W}{r:(List Int)}{N:Nat}{ew:Int}{bK:List Int}{np:cP}{tq:aq}{gE:Value}{fU:List (List Value)}{afg afh:Nat}{jz:Value→Value→W}{kO:(List Int)→Int→Option ((List Int))}{rO:AH}(M:Ht N ew bK np tq kO=some r) (S:Sep c g h [.sl 3 1 gE fU,.bx afg [(vi np.cq.e0),(vi np.cq.e1),(vi np.cq.e2),(vi np.ig),(vi np.cW.e0),(vi np.cW.e1),(.bool np.iE)],.bx afh [(vi tq.aI),(vi tq.fA),(vi tq.fB),(vi tq.fC)]]) (gZ:ah ((rI .i64) g) fU bK) (vx:Sub rO g) (vy:∀{ag:List Int}{bP:Value}{bQ:List (List Value)}{aD:Int}{g2 h2:AH},kO ag aD=some r→Sub rO g2→Sep c g2 h2 [.bx afg [(vi np.cq.e0),(vi np.cq.e1),(vi np.cq.e2),(vi np.ig),(vi np.cW.e0),(vi np.cW.e1),(.bool np.iE)],.bx afh [(vi tq.aI),(vi tq.fA),(vi tq.fB),(vi tq.fC)],.sl 3 1 bP bQ]→ah ((rI .i64) g2) bQ ag→jz bP (vi aD) h2) (H:Au c R r):J6 w0 E R (vi ew) jz gE h:=by
 unfold J6
 unfold Ht at M
 refine fF.2 ?_
 have S:=S.f2
 have S:=S.f2
 exact vy M vx S gZ
theorem afi {w0:World}{c:Cx}{g h:AH}{E R:Value→W}{r:(List Int)}{N:Nat}{v1:aq}{v7:cP}{ew:Int}{ep:List Int}{fi:Bool}{al lj:Nat}{pJ:Value}{oK:List (List Value)}{jz:Value→Value→W}{kO:(List Int)→Int→Option ((List Int))}{rO:AH}(M:Hu N v1 v7 ew ep fi kO=some r) (S:Sep c g h [.bx al [(vi v1.aI),(vi v1.fA),(vi v1.fB),(vi v1.fC)],.bx lj [(vi v7.cq.e0),(vi v7.cq.e1),(vi v7.cq.e2),(vi v7.ig),(vi v7.cW.e0),(vi v7.cW.e1),(.bool v7.iE)],.sl 3 1 pJ oK]) (pK:ah ((rI .i64) g) oK ep) (vx:Sub rO g) (vy:∀{ag:List Int}{bP:Value}{bQ:List (List Value)}{aD:Int}{g2 h2:AH},kO ag aD=some r→Sub rO g2→Sep c g2 h2 [.bx lj [(vi v7.cq.e0),(vi v7.cq.e1),(vi v7.cq.e2),(vi v7.ig),(vi v7.cW.e0),(vi v7.cW.e1),(.bool v7.iE)],.bx al [(vi v1.aI),(vi v1.fA),(vi v1.fB),(vi v1.fC)],.sl 3 1 bP bQ]→ah ((rI .i64) g2) bQ ag→jz bP (vi aD) h2) (H:Au c R r):Q3 w0 E R (au al 0) (au lj 0) (vi ew) pJ jz (.bool fi) h:=by
 unfold Q3
 unfold Hu at M
 refine bw (fun hc=> ?_) (fun hc=> ?_)
 · have M:=aQ hc M
   refine S.dc [(vi v1.aI),(vi v1.fA),(vi v1.fB),(vi v1.fC)] 0 rfl rfl rfl (by decide) ?_
   refine bC.2 ?_
   obtain⟨tp,Nn,M⟩:=bind_some M
   refine VQ Nn rfl ?_
   refine S.bz 1 rfl (VS [(vi v7.cq.e0),(vi v7.cq.e1),(vi v7.cq.e2),(vi v7.ig)] [v7.cW.e0,v7.cW.e1] (fun q=>(vi q)) [(.bool v7.iE)] Nn) ?_
   obtain⟨ik,Aq,M⟩:=bind_some M
   refine Wy Aq S.sub S.ok (fun _ h  S1  => ?_)
   have S:=S.dB S1
   refine⟨?_, ?_⟩
   · refine zG.2 ?_
     exact(S.rd 2 rfl).M1
   · refine S.qy [[(vi ik)]] (de (m:=[(vi ik)]) (l2:=[(vi ik)]) rfl rfl (Nat.le_of_ble_eq_true rfl) rfl rfl) rfl (by decide) (tj rfl qA) (aa rfl rfl) (fun ae9 h S=> ?_)
     have vv:ah ((rI .i64) g) [[(vi ik)]] [ik]:=(ah.push ah.nil (show(rI .i64) g [(vi ik)] ik from rfl))
     have S:=S.f3
     obtain⟨Ho,M⟩:=mo M
     refine S.app (S.rd 1 rfl) (by rw [pK.1,vv.1];exact Ho) (by decide) rfl (la (l3 .i64) vv) (la (l3 .i64) pK) (fun afa h S=> ?_)
     have Ar:ah ((rI .i64) g) (oK++[[(vi ik)]]) (ep++[ik]):=ah.append pK vv
     have S:=S.f2
     have S:=S.f3
     have S:=S.f2
     have S:=S.t3
     exact aff M S Ar vx vy H
 · have M:=aS hc M
   have S:=S.f1
   have S:=S.f2
   exact aff M S pK vx vy H
theorem apZ {w0:World}{c:Cx}{g h:AH}{E R:Value→W}{r:(List Int)}{N:Nat}{v7:cP}{ew:Int}{v1:aq}{ep:List Int}{lj al:Nat}{pJ:Value}{oK:List (List Value)}{jz:Value→Value→W}{kO:(List Int)→Int→Option ((List Int))}{rO:AH}(M:As N v7 ew v1 ep kO=some r) (S:Sep c g h [.bx lj [(vi v7.cq.e0),(vi v7.cq.e1),(vi v7.cq.e2),(vi v7.ig),(vi v7.cW.e0),(vi v7.cW.e1),(.bool v7.iE)],.bx al [(vi v1.aI),(vi v1.fA),(vi v1.fB),(vi v1.fC)],.sl 3 1 pJ oK]) (pK:ah ((rI .i64) g) oK ep) (vx:Sub rO g) (vy:∀{ag:List Int}{bP:Value}{bQ:List (List Value)}{aD:Int}{g2 h2:AH},kO ag aD=some r→Sub rO g2→Sep c g2 h2 [.bx lj [(vi v7.cq.e0),(vi v7.cq.e1),(vi v7.cq.e2),(vi v7.ig),(vi v7.cW.e0),(vi v7.cW.e1),(.bool v7.iE)],.bx al [(vi v1.aI),(vi v1.fA),(vi v1.fB),(vi v1.fC)],.sl 3 1 bP bQ]→ah ((rI .i64) g2) bQ ag→jz bP (vi aD) h2) (H:Au c R r):Q4 w0 E R (au lj 0) (vi ew) (au al 0) pJ jz h:=by
 unfold Q4
 unfold As at M
 refine bC.2 ?_
 obtain⟨iP,oG,M⟩:=bind_some M
 refine VQ oG rfl ?_
 refine S.bz 0 rfl (VS [(vi v7.cq.e0),(vi v7.cq.e1),(vi v7.cq.e2),(vi v7.ig)] [v7.cW.e0,v7.cW.e1] (fun q=>(vi q)) [(.bool v7.iE)] oG) ?_
 refine nh.2 ?_
 cases hc:(decide (0<iP))
 · have M:=aS hc M
   refine aA (by decide) ?_
   refine aA (by decide) ?_
   refine aA (by decide) ?_
   refine aA (by decide) ?_
   refine aA (by decide) ?_
   refine aA (by decide) ?_
   refine aA (by decide) ?_
   refine bf.2 ?_
   have S:=S.f2
   have S:=S.f1
   have S:=S.f2
   exact afi M S pK vx vy H
 · have M:=aQ hc M
   refine ax rfl ?_
   refine S.dc [(vi v1.aI),(vi v1.fA),(vi v1.fB),(vi v1.fC)] 1 rfl rfl rfl (by decide) ?_
   refine ax rfl ?_
   refine ax rfl ?_
   refine bC.2 ?_
   refine ax rfl ?_
   obtain⟨eM,l4,M⟩:=bind_some M
   refine VQ l4 rfl ?_
   refine ax rfl ?_
   refine S.bz 0 rfl (VS [(vi v7.cq.e0),(vi v7.cq.e1),(vi v7.cq.e2),(vi v7.ig)] [v7.cW.e0,v7.cW.e1] (fun q=>(vi q)) [(.bool v7.iE)] l4) ?_
   refine ax rfl ?_
   obtain⟨eb,mr,M⟩:=bind_some M
   refine Wy mr S.sub S.ok (fun _ h  S1  => ?_)
   have S:=S.dB S1
   refine ax rfl ?_
   refine oy.2 ?_
   refine bf.2 ?_
   have S:=S.f2
   have S:=S.f1
   have S:=S.f2
   exact afi M S pK vx vy H
theorem ap0 {w0:World}{c:Cx}{g h:AH}{E R:Value→W}{r:(List Int)}{N:Nat}{y9:List Int}{rD:Value}{xh:List (List Value)}  (M:Wz N y9=some r) (S:Sep c g h [.sl 3 1 rD xh]) (GG:ah ((rI .i64) g) xh y9)  (H:Au c R r):Q2 w0 E R rD h:=by
 unfold Q2
 unfold Wz at M
 obtain⟨g,sg,S,zT⟩:=S.fz GG (du .i64)
 cases M
 exact H _ _ rD S.bH zT
theorem ap1 {w0:World}{c:Cx}{g h:AH}{E R:Value→W}{r:(List Int)}{N:Nat}{v7:cP}{v1:aq}{ep:List Int}{ew:Int}{lj al:Nat}{pJ:Value}{oK:List (List Value)}{jz:Value→Value→W}{kO:(List Int)→Int→Option ((List Int))}{rO:AH}(M:WA N v7 v1 ep ew kO=some r) (S:Sep c g h [.bx lj [(vi v7.cq.e0),(vi v7.cq.e1),(vi v7.cq.e2),(vi v7.ig),(vi v7.cW.e0),(vi v7.cW.e1),(.bool v7.iE)],.bx al [(vi v1.aI),(vi v1.fA),(vi v1.fB),(vi v1.fC)],.sl 3 1 pJ oK]) (pK:ah ((rI .i64) g) oK ep) (vx:Sub rO g) (vy:∀{ag:List Int}{bP:Value}{bQ:List (List Value)}{aD:Int}{g2 h2:AH},kO ag aD=some r→Sub rO g2→Sep c g2 h2 [.bx lj [(vi v7.cq.e0),(vi v7.cq.e1),(vi v7.cq.e2),(vi v7.ig),(vi v7.cW.e0),(vi v7.cW.e1),(.bool v7.iE)],.bx al [(vi v1.aI),(vi v1.fA),(vi v1.fB),(vi v1.fC)],.sl 3 1 bP bQ]→ah ((rI .i64) g2) bQ ag→jz bP (vi aD) h2) (H:Au c R r):J7 w0 E R (au lj 0) (au al 0) jz pJ (vi ew) h:=by
 unfold J7
 unfold WA at M
 refine eF.2 ?_
 refine bw (fun hc=> ?_) (fun hc=> ?_)
 · have M:=aQ hc M
   exact apZ M S pK vx vy H
 · have M:=aS hc M
   have S:=S.f2
   have S:=S.t1
   exact ap0 M S pK H
theorem ap2 {w0:World}{c:Cx}{E R:Value→W}{r:(List Int)}{N:Nat}{v7:cP}{v1:aq}{lj al:Nat}   (H:Au c R r):∀(n:Nat){ep:List Int}{ew:Int}{pJ:Value}{oK:List (List Value)}{g h:AH},Np N v7 v1 n ep ew=some r→Sep c g h [.bx lj [(vi v7.cq.e0),(vi v7.cq.e1),(vi v7.cq.e2),(vi v7.ig),(vi v7.cW.e0),(vi v7.cW.e1),(.bool v7.iE)],.bx al [(vi v1.aI),(vi v1.fA),(vi v1.fB),(vi v1.fC)],.sl 3 1 pJ oK]→ah ((rI .i64) g) oK ep→eS (α:=Value×Value) (fun k a=>J7 w0 E R (au lj 0) (au al 0) (fun b0 b1=>k (b0,b1)) a.1 a.2) n (pJ,(vi ew)) h:=by
 intro n
 induction n with
 | zero =>
  intro ep ew pJ oK g h M S pK
  unfold Np at M;cases M
 | succ n ih =>
  intro ep ew pJ oK g h M S pK
  exact ap1 M S pK  (Sub.refl g) (fun M2 sub S2 mu=>ih M2 S2 mu) H
theorem ap3 {w0:World}{g h:AH}{Q:CR→AH→Prop}{r:(List Int)}{N:Nat}{x0:aq}(M:Hv N x0=some r) (sg:Sub g h) (ok:h.Ok)  (H:Au ⟨g,h,[]⟩ (fun v=>Q (.ret v)) r):WF PP w0 Q5 [(.agg ⟨[(vi x0.aI),(vi x0.fA),(vi x0.fB),(vi x0.fC)]⟩)] h Q:=by
 refine aiX _ ?_
 have S:=Sep.start sg ok
 unfold ZQ
 unfold Hv at M
 refine S.box [(vi x0.aI),(vi x0.fA),(vi x0.fB),(vi x0.fC)] rfl (aa rfl (aa rfl (aa rfl (aa rfl rfl)))) (fun jl h S=> ?_)
 refine bC.2 ?_
 refine S.bz 0 rfl rfl ?_
 obtain⟨aR,jc,M⟩:=bind_some M
 refine Nb jc S.sub S.ok (fun _ h  S1  => ?_)
 have S:=S.dB S1
 refine(eY rfl).2 ?_
 refine(eY rfl).2 ?_
 refine S.alloc (l:=[(vi 0),(vi 0),(vi 0),(vi 0),(vi 0),(vi 0),(.bool false)]) (aa rfl (aa rfl (aa rfl (aa rfl (aa rfl (aa rfl (aa rfl rfl))))))) (fun Ac h S=> ?_)
 refine S.dv [(vi aR.1.cq.e0),(vi aR.1.cq.e1),(vi aR.1.cq.e2),(vi aR.1.ig),(vi aR.1.cW.e0),(vi aR.1.cW.e1),(.bool aR.1.iE)] [(vi aR.1.cq.e0),(vi aR.1.cq.e1),(vi aR.1.cq.e2),(vi aR.1.ig),(vi aR.1.cW.e0),(vi aR.1.cW.e1),(.bool aR.1.iE)] rfl rfl (aa rfl (aa rfl (aa rfl (aa rfl (aa rfl (aa rfl (aa rfl rfl))))))) (Nat.le_of_ble_eq_true rfl) rfl (fun h S=> ?_)
 have S:=S.zW 3 1
 have S:=S.f2
 have S:=S.f2
 exact⟨N,ap2  H _ M S (ah.nil (R:=(rI .i64) g))⟩
def Nq (v1:aq) (v7:cP)  :Option Int :=
(Dh v1 v7.ig).bind fun iP =>
 some iP
def Hw (x0:aq):Option Int :=
(xm x0.aI).bind fun aR =>
 bif (decide (aR.1.ig=0))then(
 some (-1))else(
 Nq x0 aR.1)
abbrev afj (c:Cx) (R:Value→W) (r:Int):Prop:=∀(g' h':AH),Sep c g' h' []→R (vi r) h'
theorem ap4 {w0:World}{c:Cx}{g h:AH}{E R:Value→W}{r:Int}{v1:aq}{v7:cP}{al lj:Nat}  (M:Nq v1 v7=some r) (S:Sep c g h [.bx al [(vi v1.aI),(vi v1.fA),(vi v1.fB),(vi v1.fC)],.bx lj [(vi v7.cq.e0),(vi v7.cq.e1),(vi v7.cq.e2),(vi v7.ig),(vi v7.cW.e0),(vi v7.cW.e1),(.bool v7.iE)]])   (H:afj c R r):Q6 w0 E R (au al 0) (au lj 0) h:=by
 unfold Q6
 unfold Nq at M
 refine S.dc [(vi v1.aI),(vi v1.fA),(vi v1.fB),(vi v1.fC)] 0 rfl rfl rfl (by decide) ?_
 refine bC.2 ?_
 refine S.bz 1 rfl rfl ?_
 obtain⟨iP,oG,M⟩:=bind_some M
 refine Wy oG S.sub S.ok (fun _ h  S1  => ?_)
 have S:=S.dB S1
 cases M
 exact H _ _  S.bH
theorem ap5 {w0:World}{g h:AH}{Q:CR→AH→Prop}{r:Int}{x0:aq}(M:Hw x0=some r) (sg:Sub g h) (ok:h.Ok)  (H:afj ⟨g,h,[]⟩ (fun v=>Q (.ret v)) r):WF PP w0 Q7 [(.agg ⟨[(vi x0.aI),(vi x0.fA),(vi x0.fB),(vi x0.fC)]⟩)] h Q:=by
 refine aiY _ ?_
 have S:=Sep.start sg ok
 unfold ZR
 unfold Hw at M
 refine S.box [(vi x0.aI),(vi x0.fA),(vi x0.fB),(vi x0.fC)] rfl (aa rfl (aa rfl (aa rfl (aa rfl rfl)))) (fun jl h S=> ?_)
 refine bC.2 ?_
 refine S.bz 0 rfl rfl ?_
 obtain⟨aR,jc,M⟩:=bind_some M
 refine Nb jc S.sub S.ok (fun _ h  S1  => ?_)
 have S:=S.dB S1
 refine(eY rfl).2 ?_
 refine(eY rfl).2 ?_
 refine S.alloc (l:=[(vi 0),(vi 0),(vi 0),(vi 0),(vi 0),(vi 0),(.bool false)]) (aa rfl (aa rfl (aa rfl (aa rfl (aa rfl (aa rfl (aa rfl rfl))))))) (fun Ac h S=> ?_)
 refine S.dv [(vi aR.1.cq.e0),(vi aR.1.cq.e1),(vi aR.1.cq.e2),(vi aR.1.ig),(vi aR.1.cW.e0),(vi aR.1.cW.e1),(.bool aR.1.iE)] [(vi aR.1.cq.e0),(vi aR.1.cq.e1),(vi aR.1.cq.e2),(vi aR.1.ig),(vi aR.1.cW.e0),(vi aR.1.cW.e1),(.bool aR.1.iE)] rfl rfl (aa rfl (aa rfl (aa rfl (aa rfl (aa rfl (aa rfl (aa rfl rfl))))))) (Nat.le_of_ble_eq_true rfl) rfl (fun h S=> ?_)
 refine bC.2 ?_
 refine S.bz 0 rfl rfl ?_
 refine cK.2 ?_
 refine bw (fun hc=> ?_) (fun hc=> ?_)
 · have M:=aQ hc M
   cases M
   exact H _ _  S.bH
 · have M:=aS hc M
   have S:=S.f1
   exact ap4 M S  H
def Di (x0:aq):Option Bool :=
(xm x0.aI).bind fun aR =>
 some aR.1.iE
abbrev ap6 (c:Cx) (R:Value→W) (r:Bool):Prop:=∀(g' h':AH),Sep c g' h' []→R (.bool r) h'
theorem afk {w0:World}{g h:AH}{Q:CR→AH→Prop}{r:Bool}{x0:aq}(M:Di x0=some r) (sg:Sub g h) (ok:h.Ok)  (H:ap6 ⟨g,h,[]⟩ (fun v=>Q (.ret v)) r):WF PP w0 JX [(.agg ⟨[(vi x0.aI),(vi x0.fA),(vi x0.fB),(vi x0.fC)]⟩)] h Q:=by
 refine aiS _ ?_
 have S:=Sep.start sg ok
 unfold ZN
 unfold Di at M
 refine S.box [(vi x0.aI),(vi x0.fA),(vi x0.fB),(vi x0.fC)] rfl (aa rfl (aa rfl (aa rfl (aa rfl rfl)))) (fun jl h S=> ?_)
 refine bC.2 ?_
 refine S.bz 0 rfl rfl ?_
 obtain⟨aR,jc,M⟩:=bind_some M
 refine Nb jc S.sub S.ok (fun _ h  S1  => ?_)
 have S:=S.dB S1
 refine(eY rfl).2 ?_
 refine(eY rfl).2 ?_
 refine S.alloc (l:=[(vi 0),(vi 0),(vi 0),(vi 0),(vi 0),(vi 0),(.bool false)]) (aa rfl (aa rfl (aa rfl (aa rfl (aa rfl (aa rfl (aa rfl rfl))))))) (fun Ac h S=> ?_)
 refine S.dv [(vi aR.1.cq.e0),(vi aR.1.cq.e1),(vi aR.1.cq.e2),(vi aR.1.ig),(vi aR.1.cW.e0),(vi aR.1.cW.e1),(.bool aR.1.iE)] [(vi aR.1.cq.e0),(vi aR.1.cq.e1),(vi aR.1.cq.e2),(vi aR.1.ig),(vi aR.1.cW.e0),(vi aR.1.cW.e1),(.bool aR.1.iE)] rfl rfl (aa rfl (aa rfl (aa rfl (aa rfl (aa rfl (aa rfl (aa rfl rfl))))))) (Nat.le_of_ble_eq_true rfl) rfl (fun h S=> ?_)
 refine bC.2 ?_
 refine S.bz 0 rfl rfl ?_
 cases M
 exact H _ _  S.bH
def Nr (N:Nat) (y4:Int) (xq:List Int) (c8:Int→Option ((List Int))):Option ((List Int)) :=
 c8 (bD .i64 (y4+1))
def Av (N:Nat) (x0:List Int) (y4:Int) (x1:Int) (c8:Int→Option ((List Int))):Option ((List Int)) :=
(ix x0 y4).bind fun gG =>
 bif (decide (gG=x1))then(
 some x0)else(
 Nr N y4 x0 c8)
def Ns (N:Nat) (x1:Int) (x0:List Int)  :Option ((List Int)) :=
 gu (decide (x0.length+[x1].length≤1048576)) (
 some (x0++[x1]))
def WB (N:Nat) (x0:List Int) (x1:Int) (y4:Int) (c8:Int→Option ((List Int))):Option ((List Int)) :=
 bif (decide (y4<(x0.length:Int)))then(
 Av N x0 y4 x1 c8)else(
 Ns N x1 x0)
def Hx (N:Nat) (x0:List Int) (x1:Int)  :Nat→Int→Option ((List Int))
 | 0,_=>none
 | n+1,y4=>WB N x0 x1 y4  (fun ag=>Hx N x0 x1 n ag)
def tr (N:Nat) (x0:List Int) (x1:Int):Option ((List Int)) :=
 Hx N x0 x1 N 0
abbrev Dj (c:Cx) (R:Value→W) (r:(List Int)):Prop:=∀(g' h':AH) (w1:Value) (xr:List (List Value)),Sep c g' h' [.sl 3 1 w1 xr]→ah ((rI .i64) g') xr r→R w1 h'
theorem ap7 {w0:World}{c:Cx}{g h:AH}{E R:Value→W}{r:(List Int)}{N:Nat}{y4:Int}{xq:List Int}{Hy:Value}{Dk:List (List Value)}{k3:Value→W}{c8:Int→Option ((List Int))}{fV:AH}(M:Nr N y4 xq c8=some r) (S:Sep c g h [.sl 3 1 Hy Dk]) (afl:ah ((rI .i64) g) Dk xq) (iR:Sub fV g) (jM:∀{ag:Int}{g2 h2:AH},c8 ag=some r→Sub fV g2→Sep c g2 h2 [.sl 3 1 Hy Dk]→k3 (vi ag) h2) (H:Dj c R r):Qz w0 E R (vi y4) k3 h:=by
 unfold Qz
 unfold Nr at M
 refine fF.2 ?_
 exact jM M iR S
theorem ap8 {w0:World}{c:Cx}{g h:AH}{E R:Value→W}{r:(List Int)}{N:Nat}{x0:List Int}{y4 x1:Int}{bI:Value}{mA:List (List Value)}{k3:Value→W}{c8:Int→Option ((List Int))}{fV:AH}(M:Av N x0 y4 x1 c8=some r) (S:Sep c g h [.sl 3 1 bI mA]) (mB:ah ((rI .i64) g) mA x0) (iR:Sub fV g) (jM:∀{ag:Int}{g2 h2:AH},c8 ag=some r→Sub fV g2→Sep c g2 h2 [.sl 3 1 bI mA]→k3 (vi ag) h2) (H:Dj c R r):QA w0 E R bI (vi y4) (vi x1) k3 h:=by
 unfold QA
 unfold Av at M
 obtain⟨gG,mv,M⟩:=bind_some M
 refine S.dZ 0 rfl mB mv (fun Ad GJ vs E_5 ap9 rp=> ?_)
 cases rp
 refine S.fG (j:=0) 0 rfl E_5 ap9 rfl ?_
 refine cK.2 ?_
 refine bw (fun hc=> ?_) (fun hc=> ?_)
 · have M:=aQ hc M
   cases M
   exact H _ _ _ _ S mB
 · have M:=aS hc M
   exact ap7 M S mB iR jM H
theorem aqa {w0:World}{c:Cx}{g h:AH}{E R:Value→W}{r:(List Int)}{N:Nat}{x1:Int}{x0:List Int}{bI:Value}{mA:List (List Value)}  (M:Ns N x1 x0=some r) (S:Sep c g h [.sl 3 1 bI mA]) (mB:ah ((rI .i64) g) mA x0)  (H:Dj c R r):Qy w0 E R (vi x1) bI h:=by
 unfold Qy
 unfold Ns at M
 refine S.qy [[(vi x1)]] (de (m:=[(vi x1)]) (l2:=[(vi x1)]) rfl rfl (Nat.le_of_ble_eq_true rfl) rfl rfl) rfl (by decide) (tj rfl qA) (aa rfl rfl) (fun v_7 h S=> ?_)
 have rP:ah ((rI .i64) g) [[(vi x1)]] [x1]:=(ah.push ah.nil (show(rI .i64) g [(vi x1)] x1 from rfl))
 have S:=S.f1
 obtain⟨aqb,M⟩:=mo M
 refine S.app (S.rd 1 rfl) (by rw [mB.1,rP.1];exact aqb) (by decide) rfl (la (l3 .i64) rP) (la (l3 .i64) mB) (fun Hz h S=> ?_)
 have aqc:ah ((rI .i64) g) (mA++[[(vi x1)]]) (x0++[x1]):=ah.append mB rP
 have S:=S.t1
 cases M
 exact H _ _ _ _ S aqc
theorem aqd {w0:World}{c:Cx}{g h:AH}{E R:Value→W}{r:(List Int)}{N:Nat}{x0:List Int}{x1 y4:Int}{bI:Value}{mA:List (List Value)}{k3:Value→W}{c8:Int→Option ((List Int))}{fV:AH}(M:WB N x0 x1 y4 c8=some r) (S:Sep c g h [.sl 3 1 bI mA]) (mB:ah ((rI .i64) g) mA x0) (iR:Sub fV g) (jM:∀{ag:Int}{g2 h2:AH},c8 ag=some r→Sub fV g2→Sep c g2 h2 [.sl 3 1 bI mA]→k3 (vi ag) h2) (H:Dj c R r):JR w0 E R bI (vi x1) k3 (vi y4) h:=by
 unfold JR
 unfold WB at M
 refine S.xe 0 rfl mB ?_
 refine eF.2 ?_
 refine bw (fun hc=> ?_) (fun hc=> ?_)
 · have M:=aQ hc M
   exact ap8 M S mB iR jM H
 · have M:=aS hc M
   exact aqa M S mB H
theorem aqe {w0:World}{c:Cx}{E R:Value→W}{r:(List Int)}{N:Nat}{x0:List Int}{x1:Int}{bI:Value}{mA:List (List Value)}   (H:Dj c R r):∀(n:Nat){y4:Int}{g h:AH},Hx N x0 x1 n y4=some r→Sep c g h [.sl 3 1 bI mA]→ah ((rI .i64) g) mA x0→eS (α:=Value) (fun k a=>JR w0 E R bI (vi x1) k a) n (vi y4) h:=by
 intro n
 induction n with
 | zero =>
  intro y4  g h M S mB
  unfold Hx at M;cases M
 | succ n ih =>
  intro y4  g h M S mB
  exact aqd M S mB  (Sub.refl g) (fun M2 sub S2  =>ih M2 S2 (ah.mono mB (fun _ _ hh=>(du .i64) _ _ _ _ sub hh))) H
theorem Nt {w0:World}{g h:AH}{Q:CR→AH→Prop}{r:(List Int)}{N:Nat}{x0:List Int}{x1:Int}{bI:Value}{mA:List (List Value)}(M:tr N x0 x1=some r) (S:Sep ⟨g,h,fa bI⟩ g h [.sl 3 1 bI mA]) (mB:ah ((rI .i64) g) mA x0) (H:Dj ⟨g,h,fa bI⟩ (fun v=>Q (.ret v)) r):WF PP w0 Bv [bI,(vi x1)] h Q:=by
 refine aiP _ _ ?_
 unfold ZK
 unfold tr at M
 exact⟨N,aqe  H _ M S mB⟩
def HA (N:Nat) (bK:List Int)  :Option ((List Int)) :=
 some bK
def Dl (N:Nat) (v6:aq) (y8:List Int)  :Option ((List Int)) :=
(Ah v6).bind fun WD =>
 bif WD.2 then(
(tr N y8 WD.1).bind fun afm =>
 HA N afm)else(
 HA N y8)
def HB (N:Nat) (x1:Int) (v6:aq) (v24:Bool)  :Option ((List Int)) :=
 bif v24 then(
 gu (decide (([]:List Int).length+[(bD .i64 (x1+1))].length≤1048576)) (
 Dl N v6 (([]:List Int)++[(bD .i64 (x1+1))])))else(
 Dl N v6 ([]:List Int))
def Dm (N:Nat) (x0:ak) (x1:Int):Option ((List Int)) :=
(ix x0.ae x1).bind fun aR =>
(Hs aR).bind fun eb =>
 bif (!eb)then(
 HB N x1 aR (decide ((bD .i64 (x1+1))<(x0.ae.length:Int))))else(
 HB N x1 aR false)
abbrev Nu (c:Cx) (R:Value→W) (r:(List Int)):Prop:=∀(g' h':AH) (w1:Value) (xr:List (List Value)),Sep c g' h' [.sl 3 1 w1 xr]→ah ((rI .i64) g') xr r→R w1 h'
theorem afn {w0:World}{c:Cx}{g h:AH}{E R:Value→W}{r:(List Int)}{N:Nat}{bK:List Int}{gE:Value}{fU:List (List Value)}  (M:HA N bK=some r) (S:Sep c g h [.sl 3 1 gE fU]) (gZ:ah ((rI .i64) g) fU bK)  (H:Nu c R r):JS w0 E R gE h:=by
 unfold JS
 unfold HA at M
 cases M
 exact H _ _ _ _ S gZ
theorem afo {w0:World}{c:Cx}{g h:AH}{E R:Value→W}{r:(List Int)}{N:Nat}{v6:aq}{y8:List Int}{HC:Nat}{afp:Value}{afq:List (List Value)}  (M:Dl N v6 y8=some r) (S:Sep c g h [.bx HC [(vi v6.aI),(vi v6.fA),(vi v6.fB),(vi v6.fC)],.sl 3 1 afp afq]) (afr:ah ((rI .i64) g) afq y8)  (H:Nu c R r):JT w0 E R (au HC 0) afp h:=by
 unfold JT
 unfold Dl at M
 refine S.dc [(vi v6.aI),(vi v6.fA),(vi v6.fB),(vi v6.fC)] 0 rfl rfl rfl (by decide) ?_
 obtain⟨WD,aqf,M⟩:=bind_some M
 refine We aqf S.sub S.ok (fun _ h  S1  => ?_)
 have S:=S.dB S1
 refine(eY rfl).2 ?_
 refine(eY rfl).2 ?_
 refine bw (fun hc=> ?_) (fun hc=> ?_)
 · have M:=aQ hc M
   have S:=S.f1
   obtain⟨afm,aqg,M⟩:=bind_some M
   refine Nt aqg S.MV afr (fun g h WE awC S1 HD=> ?_)
   have S:=S.MX S1
   have S:=S.t1
   exact afn M S HD H
 · have M:=aS hc M
   have S:=S.f1
   have S:=S.t1
   exact afn M S afr H
theorem afs {w0:World}{c:Cx}{g h:AH}{E R:Value→W}{r:(List Int)}{N:Nat}{x1:Int}{v6:aq}{v24:Bool}{HC:Nat}  (M:HB N x1 v6 v24=some r) (S:Sep c g h [.bx HC [(vi v6.aI),(vi v6.fA),(vi v6.fB),(vi v6.fC)]])   (H:Nu c R r):QB w0 E R (vi x1) (au HC 0) (.bool v24) h:=by
 unfold QB
 unfold HB at M
 refine bw (fun hc=> ?_) (fun hc=> ?_)
 · have M:=aQ hc M
   refine fF.2 ?_
   refine S.qy [[(vi (bD .i64 (x1+1)))]] (de (m:=[(vi (bD .i64 (x1+1)))]) (l2:=[(vi (bD .i64 (x1+1)))]) rfl rfl (Nat.le_of_ble_eq_true rfl) rfl rfl) rfl (by decide) (tj rfl qA) (aa rfl rfl) (fun aoI h S=> ?_)
   have Ab:ah ((rI .i64) g) [[(vi (bD .i64 (x1+1)))]] [(bD .i64 (x1+1))]:=(ah.push ah.nil (show(rI .i64) g [(vi (bD .i64 (x1+1)))] (bD .i64 (x1+1))from rfl))
   have S:=S.zW 3 1
   obtain⟨VX,M⟩:=mo M
   refine S.app (S.rd 1 rfl) (by rw [(ah.nil (R:=(rI .i64) g)).1,Ab.1];exact VX) (by decide) rfl (la (l3 .i64) Ab) (la (l3 .i64) (ah.nil (R:=(rI .i64) g))) (fun aeE h S=> ?_)
   have vo:ah ((rI .i64) g) ([]++[[(vi (bD .i64 (x1+1)))]]) (([]:List Int)++[(bD .i64 (x1+1))]):=ah.append (ah.nil (R:=(rI .i64) g)) Ab
   have S:=S.f2
   have S:=S.t2
   exact afo M S vo H
 · have M:=aS hc M
   have S:=S.zW 3 1
   have S:=S.f1
   exact afo M S (ah.nil (R:=(rI .i64) g)) H
theorem aft {w0:World}{g h:AH}{Q:CR→AH→Prop}{r:(List Int)}{N:Nat}{x0:ak}{x1:Int}{cU cV:Value}(M:Dm N x0 x1=some r) (sg:Sub g h) (ok:h.Ok) (cv:ab aq.rep 4 g cU x0.ae) (cZ:ab aK.rep 3 g cV x0.aM) (H:Nu ⟨g,h,[]⟩ (fun v=>Q (.ret v)) r):WF PP w0 JU [(.agg ⟨[(.string x0.aB),(.string x0.aC),(vi x0.fArgs),(vi x0.ay),(vi x0.az),cU,cV]⟩),(vi x1)] h Q:=by
 refine aiQ _ _ ?_
 have S:=Sep.start sg ok
 unfold ZL
 unfold Dm at M
 refine S.box [(.string x0.aB),(.string x0.aC),(vi x0.fArgs),(vi x0.ay),(vi x0.az),cU,cV] rfl (aa rfl (aa rfl (aa rfl (aa rfl (aa rfl (aa cv.one (aa cZ.one rfl))))))) (fun jl h S=> ?_)
 refine bC.2 ?_
 refine S.bz 0 rfl rfl ?_
 obtain⟨aR,jc,M⟩:=bind_some M
 refine ab.idx cv jc (fun Ac o_5 vs E_7 WG rp=> ?_)
 cases rp
 refine S.mq WG rfl (by decide) ?_
 refine S.alloc (l:=[(vi 0),(vi 0),(vi 0),(vi 0)]) (aa rfl (aa rfl (aa rfl (aa rfl rfl)))) (fun b_8 h S=> ?_)
 refine S.dv [(vi aR.aI),(vi aR.fA),(vi aR.fB),(vi aR.fC)] [(vi aR.aI),(vi aR.fA),(vi aR.fB),(vi aR.fC)] rfl rfl (aa rfl (aa rfl (aa rfl (aa rfl rfl)))) (Nat.le_of_ble_eq_true rfl) rfl (fun h S=> ?_)
 refine S.dc [(vi aR.aI),(vi aR.fA),(vi aR.fB),(vi aR.fC)] 0 rfl rfl rfl (by decide) ?_
 obtain⟨eb,mr,M⟩:=bind_some M
 refine apW mr S.sub S.ok (fun _ h  S1  => ?_)
 have S:=S.dB S1
 refine gN.2 ?_
 cases hc:(!eb)
 · have M:=aS hc M
   refine aA (by decide) ?_
   refine aA (by decide) ?_
   refine aA (by decide) ?_
   refine aA (by decide) ?_
   refine aA (by decide) ?_
   refine aA (by decide) ?_
   refine bf.2 ?_
   have S:=S.t1
   exact afs M S  H
 · have M:=aQ hc M
   refine ax rfl ?_
   refine ax rfl ?_
   refine fF.2 ?_
   refine ax rfl ?_
   refine bC.2 ?_
   refine ax rfl ?_
   refine S.bz 1 rfl rfl ?_
   refine ax rfl ?_
   refine cv.len ?_
   refine ax rfl ?_
   refine eF.2 ?_
   refine bf.2 ?_
   have S:=S.t1
   exact afs M S  H
def WH (N:Nat) (y3:Int) (im:ak) (dU:Int→Option Int):Option Int :=
 dU (bD .i64 (y3+1))
def Nv (N:Nat) (y3:Int) (cX:Bool) (im:ak) (dU:Int→Option Int):Option Int :=
 bif cX then(
 some y3)else(
 WH N y3 im dU)
def WI (N:Nat) (v1:ak) (y3:Int) (x1:Int) (dU:Int→Option Int):Option Int :=
(ix v1.aM y3).bind fun aR =>
 bif (decide (aR.eD≤x1))then(
(ix v1.aM y3).bind fun vr =>
 Nv N y3 (decide (x1<vr.fg)) v1 dU)else(
 Nv N y3 false v1 dU)
def WJ (N:Nat)   :Option Int :=
 some (-1)
def WK (N:Nat) (v1:ak) (x1:Int) (y3:Int) (dU:Int→Option Int):Option Int :=
 bif (decide (y3<(v1.aM.length:Int)))then(
 WI N v1 y3 x1 dU)else(
 WJ N)
def Aw (N:Nat) (v1:ak) (x1:Int)  :Nat→Int→Option Int
 | 0,_=>none
 | n+1,y3=>WK N v1 x1 y3  (fun ag=>Aw N v1 x1 n ag)
def Dn (N:Nat) (x0:ak) (x1:Int):Option Int :=
 Aw N x0 x1 N 0
abbrev Ax (c:Cx) (R:Value→W) (r:Int):Prop:=∀(g' h':AH),Sep c g' h' []→R (vi r) h'
theorem aqh {w0:World}{c:Cx}{g h:AH}{E R:Value→W}{r:Int}{N:Nat}{y3:Int}{im:ak}{HE:Nat}{Ay Az:Value}{k2:Value→W}{dU:Int→Option Int}{iD:AH}(M:WH N y3 im dU=some r) (S:Sep c g h [.bx HE [(.string im.aB),(.string im.aC),(vi im.fArgs),(vi im.ay),(vi im.az),Ay,Az]]) (afu:ab aq.rep 4 g Ay im.ae) (afv:ab aK.rep 3 g Az im.aM) (lf:Sub iD g) (lg:∀{ag:Int}{g2 h2:AH},dU ag=some r→Sub iD g2→Sep c g2 h2 [.bx HE [(.string im.aB),(.string im.aC),(vi im.fArgs),(vi im.ay),(vi im.az),Ay,Az]]→k2 (vi ag) h2) (H:Ax c R r):QD w0 E R (vi y3) k2 h:=by
 unfold QD
 unfold WH at M
 refine fF.2 ?_
 exact lg M lf S
theorem afw {w0:World}{c:Cx}{g h:AH}{E R:Value→W}{r:Int}{N:Nat}{y3:Int}{cX:Bool}{im:ak}{HE:Nat}{Ay Az:Value}{k2:Value→W}{dU:Int→Option Int}{iD:AH}(M:Nv N y3 cX im dU=some r) (S:Sep c g h [.bx HE [(.string im.aB),(.string im.aC),(vi im.fArgs),(vi im.ay),(vi im.az),Ay,Az]]) (afu:ab aq.rep 4 g Ay im.ae) (afv:ab aK.rep 3 g Az im.aM) (lf:Sub iD g) (lg:∀{ag:Int}{g2 h2:AH},dU ag=some r→Sub iD g2→Sep c g2 h2 [.bx HE [(.string im.aB),(.string im.aC),(vi im.fArgs),(vi im.ay),(vi im.az),Ay,Az]]→k2 (vi ag) h2) (H:Ax c R r):QE w0 E R (vi y3) k2 (.bool cX) h:=by
 unfold QE
 unfold Nv at M
 refine bw (fun hc=> ?_) (fun hc=> ?_)
 · have M:=aQ hc M
   cases M
   exact H _ _  S.bH
 · have M:=aS hc M
   exact aqh M S afu afv lf lg H
theorem aqi {w0:World}{c:Cx}{g h:AH}{E R:Value→W}{r:Int}{N:Nat}{v1:ak}{y3 x1:Int}{al:Nat}{av aw:Value}{k2:Value→W}{dU:Int→Option Int}{iD:AH}(M:WI N v1 y3 x1 dU=some r) (S:Sep c g h [.bx al [(.string v1.aB),(.string v1.aC),(vi v1.fArgs),(vi v1.ay),(vi v1.az),av,aw]]) (aG:ab aq.rep 4 g av v1.ae) (aJ:ab aK.rep 3 g aw v1.aM) (lf:Sub iD g) (lg:∀{ag:Int}{g2 h2:AH},dU ag=some r→Sub iD g2→Sep c g2 h2 [.bx al [(.string v1.aB),(.string v1.aC),(vi v1.fArgs),(vi v1.ay),(vi v1.az),av,aw]]→k2 (vi ag) h2) (H:Ax c R r):QF w0 E R (au al 0) (vi y3) (vi x1) k2 h:=by
 unfold QF
 unfold WI at M
 refine bC.2 ?_
 refine S.bz 0 rfl rfl ?_
 obtain⟨aR,jc,M⟩:=bind_some M
 refine ab.idx aJ jc (fun Ac o_5 vs E_7 WG rp=> ?_)
 cases rp
 refine bC.2 ?_
 refine S.eH (WG 0 _ rfl) ?_
 refine pz.2 ?_
 cases hc:(decide (aR.eD≤x1))
 · have M:=aS hc M
   refine aA (by decide) ?_
   refine aA (by decide) ?_
   refine aA (by decide) ?_
   refine aA (by decide) ?_
   refine aA (by decide) ?_
   refine aA (by decide) ?_
   refine aA (by decide) ?_
   refine aA (by decide) ?_
   refine bf.2 ?_
   exact afw M S aG aJ lf lg H
 · have M:=aQ hc M
   refine ax rfl ?_
   refine ax rfl ?_
   refine bC.2 ?_
   refine ax rfl ?_
   refine S.bz 0 rfl rfl ?_
   refine ax rfl ?_
   refine ax rfl ?_
   obtain⟨vr,G9,M⟩:=bind_some M
   refine ab.idx aJ G9 (fun aeU aeV vs Wm Wn rp=> ?_)
   cases rp
   refine ax rfl ?_
   refine bC.2 ?_
   refine ax rfl ?_
   refine S.eH (Wn 1 _ rfl) ?_
   refine ax rfl ?_
   refine eF.2 ?_
   refine bf.2 ?_
   exact afw M S aG aJ lf lg H
theorem aqj {w0:World}{c:Cx}{g h:AH}{E R:Value→W}{r:Int}{N:Nat}   (M:WJ N  =some r) (S:Sep c g h [])   (H:Ax c R r):QC w0 E R  h:=by
 unfold QC
 unfold WJ at M
 cases M
 exact H _ _  S.bH
theorem aqk {w0:World}{c:Cx}{g h:AH}{E R:Value→W}{r:Int}{N:Nat}{v1:ak}{x1 y3:Int}{al:Nat}{av aw:Value}{k2:Value→W}{dU:Int→Option Int}{iD:AH}(M:WK N v1 x1 y3 dU=some r) (S:Sep c g h [.bx al [(.string v1.aB),(.string v1.aC),(vi v1.fArgs),(vi v1.ay),(vi v1.az),av,aw]]) (aG:ab aq.rep 4 g av v1.ae) (aJ:ab aK.rep 3 g aw v1.aM) (lf:Sub iD g) (lg:∀{ag:Int}{g2 h2:AH},dU ag=some r→Sub iD g2→Sep c g2 h2 [.bx al [(.string v1.aB),(.string v1.aC),(vi v1.fArgs),(vi v1.ay),(vi v1.az),av,aw]]→k2 (vi ag) h2) (H:Ax c R r):JV w0 E R (au al 0) (vi x1) k2 (vi y3) h:=by
 unfold JV
 unfold WK at M
 refine bC.2 ?_
 refine S.bz 0 rfl rfl ?_
 refine aJ.len ?_
 refine eF.2 ?_
 refine bw (fun hc=> ?_) (fun hc=> ?_)
 · have M:=aQ hc M
   exact aqi M S aG aJ lf lg H
 · have M:=aS hc M
   have S:=S.t0
   exact aqj M S  H
theorem aql {w0:World}{c:Cx}{E R:Value→W}{r:Int}{N:Nat}{v1:ak}{x1:Int}{al:Nat}{av aw:Value}   (H:Ax c R r):∀(n:Nat){y3:Int}{g h:AH},Aw N v1 x1 n y3=some r→Sep c g h [.bx al [(.string v1.aB),(.string v1.aC),(vi v1.fArgs),(vi v1.ay),(vi v1.az),av,aw]]→ab aq.rep 4 g av v1.ae→ab aK.rep 3 g aw v1.aM→eS (α:=Value) (fun k a=>JV w0 E R (au al 0) (vi x1) k a) n (vi y3) h:=by
 intro n
 induction n with
 | zero =>
  intro y3  g h M S aG aJ
  unfold Aw at M;cases M
 | succ n ih =>
  intro y3  g h M S aG aJ
  exact aqk M S aG aJ  (Sub.refl g) (fun M2 sub S2  =>ih M2 S2 (ab.mono aG aq.mono sub) (ab.mono aJ aK.mono sub)) H
theorem afx {w0:World}{g h:AH}{Q:CR→AH→Prop}{r:Int}{N:Nat}{x0:ak}{x1:Int}{cU cV:Value}(M:Dn N x0 x1=some r) (sg:Sub g h) (ok:h.Ok) (cv:ab aq.rep 4 g cU x0.ae) (cZ:ab aK.rep 3 g cV x0.aM) (H:Ax ⟨g,h,[]⟩ (fun v=>Q (.ret v)) r):WF PP w0 JW [(.agg ⟨[(.string x0.aB),(.string x0.aC),(vi x0.fArgs),(vi x0.ay),(vi x0.az),cU,cV]⟩),(vi x1)] h Q:=by
 refine aiR _ _ ?_
 have S:=Sep.start sg ok
 unfold ZM
 unfold Dn at M
 refine S.box [(.string x0.aB),(.string x0.aC),(vi x0.fArgs),(vi x0.ay),(vi x0.az),cU,cV] rfl (aa rfl (aa rfl (aa rfl (aa rfl (aa rfl (aa cv.one (aa cZ.one rfl))))))) (fun jl h S=> ?_)
 exact⟨N,aql  H _ M S cv cZ⟩
def WM (N:Nat) (fx:Int) (Nw:List Int) (fW:ak) (pL:aN) (oL:Int→(List Int)→Option aN):Option aN :=
 oL (bD .i64 (fx+1)) Nw
def WN (N:Nat) (v6:List Int) (fx:Int) (fW:ak) (pL:aN) (oL:Int→(List Int)→Option aN):Option aN :=
(ix v6 fx).bind fun vr =>
 WM N fx (v6.set fx.toNat (-1)) fW pL oL
def xu (N:Nat) (aL:Int) (Bx:Bool) (Nx:List Int) (fJ:ak) (oM:aN) (dI:Bool→Int→(List Int)→Option aN):Option aN :=
 dI Bx (bD .i64 (aL+1)) Nx
def HF (N:Nat) (bA:Int) (By:Bool) (WO:List Int) (Ny:List Int) (aW:ak) (oN:aN) (cR:Bool→Int→(List Int)→Option aN):Option aN :=
 cR By (bD .i64 (bA+1)) Ny
def Nz (N:Nat) (v20:List Int) (bA:Int) (v6:List Int) (dC:Int) (bX:Bool) (aW:ak) (oN:aN) (cR:Bool→Int→(List Int)→Option aN):Option aN :=
(ix v20 bA).bind fun xv =>
(ix v6 xv).bind fun HG =>
 bif (decide (HG<0))then(
(ix v20 bA).bind fun AA =>
(ix v6 AA).bind fun aqm =>
 HF N bA true v20 (v6.set AA.toNat dC) aW oN cR)else(
 HF N bA bX v20 v6 aW oN cR)
def Dp (N:Nat) (v2:aN) (v20:List Int) (bA:Int) (v6:List Int) (dC:Int) (bX:Bool) (pQ:Bool) (aW:ak) (cR:Bool→Int→(List Int)→Option aN):Option aN :=
 bif pQ then(
 some (aN.mk ([]:List Int) 12))else(
 Nz N v20 bA v6 dC bX aW v2 cR)
def HI (N:Nat) (dC:Int) (v6:List Int) (v20:List Int) (bA:Int) (v2:aN) (bX:Bool) (aW:ak) (cR:Bool→Int→(List Int)→Option aN):Option aN :=
(tn dC 0 40).bind fun WQ =>
 bif (!WQ)then(
 Dp N v2 v20 bA v6 dC bX true aW cR)else(
(ix v20 bA).bind fun afy =>
(ix v6 afy).bind fun WS =>
 bif (decide (0≤WS))then(
(ix v20 bA).bind fun afz =>
(ix v6 afz).bind fun HJ =>
 Dp N v2 v20 bA v6 dC bX (!decide (HJ=dC)) aW cR)else(
 Dp N v2 v20 bA v6 dC bX false aW cR))
def HK (N:Nat) (v2:aN) (dC:Int) (v6:List Int) (v20:List Int) (bA:Int) (bX:Bool) (pR:Bool) (aW:ak) (cR:Bool→Int→(List Int)→Option aN):Option aN :=
 bif pR then(
 some (aN.mk ([]:List Int) 12))else(
 HI N dC v6 v20 bA v2 bX aW cR)
def HL (N:Nat) (ft:Int) (aL:Int) (v2:aN) (dC:Int) (v6:List Int) (v20:List Int) (bA:Int) (bX:Bool) (nH:Bool) (aW:ak) (cR:Bool→Int→(List Int)→Option aN):Option aN :=
 bif nH then(
 HK N v2 dC v6 v20 bA bX (decide (ft=(bD .i64 (aL+1)))) aW cR)else(
 HK N v2 dC v6 v20 bA bX false aW cR)
def HM (N:Nat) (er:Int) (v20:List Int) (bA:Int) (ft:Int) (aL:Int) (v2:aN) (v6:List Int) (bX:Bool) (dC:Int) (aW:ak) (cR:Bool→Int→(List Int)→Option aN):Option aN :=
 bif (decide (er=32))then(
(ix v20 bA).bind fun afA =>
 HL N ft aL v2 dC v6 v20 bA bX (decide (afA=ft)) aW cR)else(
 HL N ft aL v2 dC v6 v20 bA bX false aW cR)
def AB (N:Nat) (lQ:Int) (er:Int) (v20:List Int) (bA:Int) (ft:Int) (aL:Int) (v2:aN) (v6:List Int) (bX:Bool) (sr:Bool) (aW:ak) (cR:Bool→Int→(List Int)→Option aN):Option aN :=
 bif sr then(
 HM N er v20 bA ft aL v2 v6 bX (bD .i64 (lQ-1)) aW cR)else(
 HM N er v20 bA ft aL v2 v6 bX lQ aW cR)
def HN (N:Nat) (v1:ak) (aL:Int) (er:Int) (v20:List Int) (bA:Int) (v2:aN) (v6:List Int) (bX:Bool) (lQ:Int) (cR:Bool→Int→(List Int)→Option aN):Option aN :=
(ix v1.ae aL).bind fun afB =>
(Ah afB).bind fun xw =>
 bif (decide (er=31))then(
 AB N lQ er v20 bA xw.1 aL v2 v6 bX true v1 cR)else(
 bif (decide (er=32))then(
 bif xw.2 then(
(ix v20 bA).bind fun afC =>
 AB N lQ er v20 bA xw.1 aL v2 v6 bX (decide (afC=xw.1)) v1 cR)else(
 AB N lQ er v20 bA xw.1 aL v2 v6 bX false v1 cR))else(
 AB N lQ er v20 bA xw.1 aL v2 v6 bX false v1 cR))
def xx (N:Nat) (v6:List Int) (aL:Int) (v1:ak) (v20:List Int) (bA:Int) (v2:aN) (bX:Bool) (cR:Bool→Int→(List Int)→Option aN):Option aN :=
(ix v6 aL).bind fun xy =>
(ix v1.ae aL).bind fun AE =>
 bif (decide (AE.aI=30))then(
 HN N v1 aL AE.aI v20 bA v2 v6 bX (bD .i64 (xy+1)) cR)else(
 HN N v1 aL AE.aI v20 bA v2 v6 bX xy cR)
def NA (N:Nat) (v6:List Int) (v28:Int) (aL:Int) (fk:Bool) (fJ:ak) (oM:aN) (dI:Bool→Int→(List Int)→Option aN):Option aN :=
(ix v6 v28).bind fun afD =>
 bif (decide (afD<0))then(
(ix v6 v28).bind fun aqn =>
 xu N aL true (v6.set v28.toNat 0) fJ oM dI)else(
 xu N aL fk v6 fJ oM dI)
def NB (N:Nat) (v1:ak) (dR:Int) (v6:List Int) (v2:aN) (aL:Int) (fk:Bool) (dI:Bool→Int→(List Int)→Option aN):Option aN :=
(ix v1.aM dR).bind fun Dq =>
(ix v6 Dq.eg).bind fun HO =>
 bif (decide (0<HO))then(
 some (aN.mk ([]:List Int) 12))else(
 NA N v6 Dq.eg aL fk v1 v2 dI)
def HP (N:Nat) (aL:Int) (fk:Bool) (v1:ak) (dR:Int) (v6:List Int) (v2:aN) (gq:Bool) (dI:Bool→Int→(List Int)→Option aN):Option aN :=
 bif gq then(
 xu N aL fk v6 v1 v2 dI)else(
 NB N v1 dR v6 v2 aL fk dI)
def AF (N:Nat) (v1:ak) (aL:Int) (v6:List Int) (v2:aN) (fk:Bool) (dI:Bool→Int→(List Int)→Option aN):Option aN :=
(Dn N v1 aL).bind fun vz =>
(ix v1.ae aL).bind fun HQ =>
(Di HQ).bind fun AG =>
 bif (!AG)then(
 HP N aL fk v1 vz v6 v2 true dI)else(
 HP N aL fk v1 vz v6 v2 (decide (vz<0)) dI)
def WT (N:Nat) (v20:List Int) (v6:List Int) (aL:Int) (v1:ak) (v2:aN) (bX:Bool) (bA:Int) (dI:Bool→Int→(List Int)→Option aN) (cR:Bool→Int→(List Int)→Option aN):Option aN :=
 bif (decide (bA<(v20.length:Int)))then(
 xx N v6 aL v1 v20 bA v2 bX cR)else(
 AF N v1 aL v6 v2 bX dI)
def vA (N:Nat) (v20:List Int) (aL:Int) (v1:ak) (v2:aN) (dI:Bool→Int→(List Int)→Option aN):Nat→(List Int)→Bool→Int→Option aN
 | 0,_,_,_=>none
 | n+1,v6,bX,bA=>WT N v20 v6 aL v1 v2 bX bA dI (fun ag aD bo=>vA N v20 aL v1 v2 dI n bo ag aD)
def AI (N:Nat) (v1:ak) (aL:Int) (v6:List Int) (v2:aN) (cn:Bool) (dI:Bool→Int→(List Int)→Option aN):Option aN :=
(Dm N v1 aL).bind fun GO =>
 vA N GO aL v1 v2 dI N v6 cn 0
def Dr (N:Nat) (v6:List Int) (aL:Int) (cn:Bool) (v1:ak) (v2:aN) (dI:Bool→Int→(List Int)→Option aN):Option aN :=
(ix v6 aL).bind fun afE =>
 bif (decide (afE<0))then(
 xu N aL cn v6 v1 v2 dI)else(
 AI N v1 aL v6 v2 cn dI)
def WU (N:Nat) (v6:List Int) (v1:ak) (v2:aN) (cn:Bool) (aL:Int) (cO:Bool→(List Int)→Option aN) (dI:Bool→Int→(List Int)→Option aN):Option aN :=
 bif (decide (aL<(v6.length:Int)))then(
 Dr N v6 aL cn v1 v2 dI)else(
 cO cn v6)
def oO (N:Nat) (v1:ak) (v2:aN) (cO:Bool→(List Int)→Option aN):Nat→(List Int)→Bool→Int→Option aN
 | 0,_,_,_=>none
 | n+1,v6,cn,aL=>WU N v6 v1 v2 cn aL cO (fun ag aD aP=>oO N v1 v2 cO n aP ag aD)
def AJ (N:Nat) (v6:List Int) (v1:ak) (v2:aN) (cO:Bool→(List Int)→Option aN):Option aN :=
 oO N v1 v2 cO N v6 false 0
def WV (N:Nat) (v6:List Int) (v2:aN)  :Option aN :=
 some (aN.mk v6 0)
def WW (N:Nat) (v6:List Int) (v1:ak) (v2:aN) (bK:Bool) (cO:Bool→(List Int)→Option aN):Option aN :=
 bif bK then(
 AJ N v6 v1 v2 cO)else(
 WV N v6 v2)
def tt (N:Nat) (v1:ak) (v2:aN)  :Nat→(List Int)→Bool→Option aN
 | 0,_,_=>none
 | n+1,v6,bK=>WW N v6 v1 v2 bK  (fun ag aP=>tt N v1 v2 n aP ag)
def HS (N:Nat) (v6:List Int) (v1:ak) (v2:aN)  :Option aN :=
(ix v6 0).bind fun xc =>
 tt N v1 v2 N (v6.set (0:Int).toNat 0) true
def WX (N:Nat) (v6:List Int) (v1:ak) (v2:aN) (fx:Int) (oL:Int→(List Int)→Option aN):Option aN :=
 bif (decide (fx<(v6.length:Int)))then(
 WN N v6 fx v1 v2 oL)else(
 HS N v6 v1 v2)
def AK (N:Nat) (v1:ak) (v2:aN)  :Nat→(List Int)→Int→Option aN
 | 0,_,_=>none
 | n+1,v6,fx=>WX N v6 v1 v2 fx  (fun ag aP=>AK N v1 v2 n aP ag)
def AL (N:Nat) (v1:ak) (v2:aN)  :Option aN :=
 gu (decide (0≤(v1.ae.length:Int))&&decide ((v1.ae.length:Int)≤65536)) (
 AK N v1 v2 N (List.replicate (v1.ae.length:Int).toNat 0) 0)
def xb (N:Nat) (x0:ak):Option aN :=
(De N x0).bind fun C8 =>
 bif (!C8)then(
 some (aN.mk ([]:List Int) 1))else(
 AL N x0 (aN.mk ([]:List Int) 0))
abbrev gQ (c:Cx) (R:Value→W) (r:aN):Prop:=∀(g' h':AH) (w1:Value),Sep c g' h' []→ab (rI .i64) 1 g' w1 r.fL→R (.agg ⟨[w1,(vi r.fE)]⟩) h'
theorem aqo {w0:World}{c:Cx}{g h:AH}{E R:Value→W}{r:aN}{N:Nat}{fx:Int}{Nw:List Int}{fW:ak}{pL:aN}{afF:Value}{afG:List (List Value)}{Ds:Nat}{xz xA:Value}{Dt:Nat}{xB:Value}{n9:Value→W}{oL:Int→(List Int)→Option aN}{xC:AH}(M:WM N fx Nw fW pL oL=some r) (S:Sep c g h [.sl 3 1 afF afG,.bx Ds [(.string fW.aB),(.string fW.aC),(vi fW.fArgs),(vi fW.ay),(vi fW.az),xz,xA],.bx Dt [xB,(vi pL.fE)]]) (aqp:ah ((rI .i64) g) afG Nw) (afH:ab aq.rep 4 g xz fW.ae) (afI:ab aK.rep 3 g xA fW.aM) (afJ:ab (rI .i64) 1 g xB pL.fL) (HT:Sub xC g) (HU:∀{ag:Int}{aP:List Int}{aV:List (List Value)}{g2 h2:AH},oL ag aP=some r→Sub xC g2→Sep c g2 h2 [.sl 3 1 afF aV,.bx Ds [(.string fW.aB),(.string fW.aC),(vi fW.fArgs),(vi fW.ay),(vi fW.az),xz,xA],.bx Dt [xB,(vi pL.fE)]]→ah ((rI .i64) g2) aV aP→n9 (vi ag) h2) (H:gQ c R r):QW w0 E R (vi fx) n9 h:=by
 unfold QW
 unfold WM at M
 refine fF.2 ?_
 exact HU M HT S aqp
theorem aqq {w0:World}{c:Cx}{g h:AH}{E R:Value→W}{r:aN}{N:Nat}{v6:List Int}{fx:Int}{fW:ak}{pL:aN}{bp:Value}{bO:List (List Value)}{Ds:Nat}{xz xA:Value}{Dt:Nat}{xB:Value}{n9:Value→W}{oL:Int→(List Int)→Option aN}{xC:AH}(M:WN N v6 fx fW pL oL=some r) (S:Sep c g h [.sl 3 1 bp bO,.bx Ds [(.string fW.aB),(.string fW.aC),(vi fW.fArgs),(vi fW.ay),(vi fW.az),xz,xA],.bx Dt [xB,(vi pL.fE)]]) (bW:ah ((rI .i64) g) bO v6) (afH:ab aq.rep 4 g xz fW.ae) (afI:ab aK.rep 3 g xA fW.aM) (afJ:ab (rI .i64) 1 g xB pL.fL) (HT:Sub xC g) (HU:∀{ag:Int}{aP:List Int}{aV:List (List Value)}{g2 h2:AH},oL ag aP=some r→Sub xC g2→Sep c g2 h2 [.sl 3 1 bp aV,.bx Ds [(.string fW.aB),(.string fW.aC),(vi fW.fArgs),(vi fW.ay),(vi fW.az),xz,xA],.bx Dt [xB,(vi pL.fE)]]→ah ((rI .i64) g2) aV aP→n9 (vi ag) h2) (H:gQ c R r):QX w0 E R bp (vi fx) n9 h:=by
 unfold QX
 unfold WN at M
 obtain⟨vr,G9,M⟩:=bind_some M
 refine S.dZ 0 rfl bW G9 (fun aeU aeV vs ae3 aqr rp=> ?_)
 cases rp
 refine S.rB (j:=0) [(vi (-1))] ae3 aqr rfl rfl (aa rfl rfl) (by decide) (fun h S=> ?_)
 have vo:ah ((rI .i64) g) (bO.set fx.toNat [(vi (-1))]) (v6.set fx.toNat (-1)):=ah.set bW (show(rI .i64) g [(vi (-1))] (-1)from rfl) fx.toNat
 have S:Sep _ g h [.sl 3 1 bp (bO.set fx.toNat [(vi (-1))]),.bx Ds [(.string fW.aB),(.string fW.aC),(vi fW.fArgs),(vi fW.ay),(vi fW.az),xz,xA],.bx Dt [xB,(vi pL.fE)]]:=S
 exact aqo M S vo afH afI afJ HT HU H
theorem NC {w0:World}{c:Cx}{g h:AH}{E R:Value→W}{r:aN}{N:Nat}{aL:Int}{Bx:Bool}{Nx:List Int}{fJ:ak}{oM:aN}{afK:Value}{afL:List (List Value)}{Du:Nat}{xD xE:Value}{Dv:Nat}{xF:Value}{dS:Value→Value→W}{dI:Bool→Int→(List Int)→Option aN}{iG:AH}(M:xu N aL Bx Nx fJ oM dI=some r) (S:Sep c g h [.sl 3 1 afK afL,.bx Du [(.string fJ.aB),(.string fJ.aC),(vi fJ.fArgs),(vi fJ.ay),(vi fJ.az),xD,xE],.bx Dv [xF,(vi oM.fE)]]) (aqs:ah ((rI .i64) g) afL Nx) (WY:ab aq.rep 4 g xD fJ.ae) (WZ:ab aK.rep 3 g xE fJ.aM) (W0:ab (rI .i64) 1 g xF oM.fL) (jf:Sub iG g) (j2:∀{ag:Bool}{aD:Int}{aP:List Int}{aV:List (List Value)}{g2 h2:AH},dI ag aD aP=some r→Sub iG g2→Sep c g2 h2 [.sl 3 1 afK aV,.bx Du [(.string fJ.aB),(.string fJ.aC),(vi fJ.fArgs),(vi fJ.ay),(vi fJ.az),xD,xE],.bx Dv [xF,(vi oM.fE)]]→ah ((rI .i64) g2) aV aP→dS (.bool ag) (vi aD) h2) (H:gQ c R r):Bw w0 E R (vi aL) dS (.bool Bx) h:=by
 unfold Bw
 unfold xu at M
 refine fF.2 ?_
 exact j2 M jf S aqs
theorem afM {w0:World}{c:Cx}{g h:AH}{E R:Value→W}{r:aN}{N:Nat}{bA:Int}{By:Bool}{WO Ny:List Int}{aW:ak}{oN:aN}{afN:Value}{W1:List (List Value)}{afO:Value}{afP:List (List Value)}{jN:Nat}{gR gS:Value}{Dw:Nat}{xG:Value}{dA:Value→Value→W}{cR:Bool→Int→(List Int)→Option aN}{gT:AH}(M:HF N bA By WO Ny aW oN cR=some r) (S:Sep c g h [.sl 3 1 afN W1,.sl 3 1 afO afP,.bx jN [(.string aW.aB),(.string aW.aC),(vi aW.fArgs),(vi aW.ay),(vi aW.az),gR,gS],.bx Dw [xG,(vi oN.fE)]]) (awD:ah ((rI .i64) g) W1 WO) (aqt:ah ((rI .i64) g) afP Ny) (lk:ab aq.rep 4 g gR aW.ae) (ll:ab aK.rep 3 g gS aW.aM) (W2:ab (rI .i64) 1 g xG oN.fL) (hO:Sub gT g) (hY:∀{ag:Bool}{aD:Int}{bo:List Int}{bR:List (List Value)}{g2 h2:AH},cR ag aD bo=some r→Sub gT g2→Sep c g2 h2 [.sl 3 1 afN W1,.sl 3 1 afO bR,.bx jN [(.string aW.aB),(.string aW.aC),(vi aW.fArgs),(vi aW.ay),(vi aW.az),gR,gS],.bx Dw [xG,(vi oN.fE)]]→ah ((rI .i64) g2) bR bo→dA (.bool ag) (vi aD) h2) (H:gQ c R r):JY w0 E R (vi bA) dA (.bool By) h:=by
 unfold JY
 unfold HF at M
 refine fF.2 ?_
 exact hY M hO S aqt
theorem aqu {w0:World}{c:Cx}{g h:AH}{E R:Value→W}{r:aN}{N:Nat}{v20:List Int}{bA:Int}{v6:List Int}{dC:Int}{bX:Bool}{aW:ak}{oN:aN}{eI:Value}{eJ:List (List Value)}{bp:Value}{bO:List (List Value)}{jN:Nat}{gR gS:Value}{Dw:Nat}{xG:Value}{dA:Value→Value→W}{cR:Bool→Int→(List Int)→Option aN}{gT:AH}(M:Nz N v20 bA v6 dC bX aW oN cR=some r) (S:Sep c g h [.sl 3 1 eI eJ,.sl 3 1 bp bO,.bx jN [(.string aW.aB),(.string aW.aC),(vi aW.fArgs),(vi aW.ay),(vi aW.az),gR,gS],.bx Dw [xG,(vi oN.fE)]]) (eU:ah ((rI .i64) g) eJ v20) (bW:ah ((rI .i64) g) bO v6) (lk:ab aq.rep 4 g gR aW.ae) (ll:ab aK.rep 3 g gS aW.aM) (W2:ab (rI .i64) 1 g xG oN.fL) (hO:Sub gT g) (hY:∀{ag:Bool}{aD:Int}{bo:List Int}{bR:List (List Value)}{g2 h2:AH},cR ag aD bo=some r→Sub gT g2→Sep c g2 h2 [.sl 3 1 eI eJ,.sl 3 1 bp bR,.bx jN [(.string aW.aB),(.string aW.aC),(vi aW.fArgs),(vi aW.ay),(vi aW.az),gR,gS],.bx Dw [xG,(vi oN.fE)]]→ah ((rI .i64) g2) bR bo→dA (.bool ag) (vi aD) h2) (H:gQ c R r):QL w0 E R eI (vi bA) bp (vi dC) dA (.bool bX) h:=by
 unfold QL
 unfold Nz at M
 obtain⟨xv,HV,M⟩:=bind_some M
 refine S.dZ 0 rfl eU HV (fun aqv aqw vs W3 W4 rp=> ?_)
 cases rp
 refine S.fG (j:=0) 0 rfl W3 W4 rfl ?_
 obtain⟨HG,W5,M⟩:=bind_some M
 refine S.dZ 1 rfl bW W5 (fun aqx aqy vs aqz aqA rp=> ?_)
 cases rp
 refine S.fG (j:=0) 1 rfl aqz aqA rfl ?_
 refine eF.2 ?_
 refine bw (fun hc=> ?_) (fun hc=> ?_)
 · have M:=aQ hc M
   obtain⟨AA,aqB,M⟩:=bind_some M
   refine S.dZ 0 rfl eU aqB (fun awE awF vs aqC aqD rp=> ?_)
   cases rp
   refine S.fG (j:=0) 0 rfl aqC aqD rfl ?_
   obtain⟨aqm,aqE,M⟩:=bind_some M
   refine S.dZ 1 rfl bW aqE (fun awG awH vs aqF aqG rp=> ?_)
   cases rp
   have S:=S.f1
   refine S.rB (j:=0) [(vi dC)] aqF aqG rfl rfl (aa rfl rfl) (by decide) (fun h S=> ?_)
   have W6:ah ((rI .i64) g) (bO.set AA.toNat [(vi dC)]) (v6.set AA.toNat dC):=ah.set bW (show(rI .i64) g [(vi dC)] dC from rfl) AA.toNat
   have S:Sep _ g h [.sl 3 1 bp (bO.set AA.toNat [(vi dC)]),.sl 3 1 eI eJ,.bx jN [(.string aW.aB),(.string aW.aC),(vi aW.fArgs),(vi aW.ay),(vi aW.az),gR,gS],.bx Dw [xG,(vi oN.fE)]]:=S
   have S:=S.f3
   have S:=S.f3
   have S:=S.f2
   have S:=S.f3
   exact afM M S eU W6 lk ll W2 hO hY H
 · have M:=aS hc M
   exact afM M S eU bW lk ll W2 hO hY H
theorem W7 {w0:World}{c:Cx}{g h:AH}{E R:Value→W}{r:aN}{N:Nat}{v2:aN}{v20:List Int}{bA:Int}{v6:List Int}{dC:Int}{bX pQ:Bool}{aW:ak}{bn:Nat}{bL eI:Value}{eJ:List (List Value)}{bp:Value}{bO:List (List Value)}{jN:Nat}{gR gS:Value}{dA:Value→Value→W}{cR:Bool→Int→(List Int)→Option aN}{gT:AH}(M:Dp N v2 v20 bA v6 dC bX pQ aW cR=some r) (S:Sep c g h [.bx bn [bL,(vi v2.fE)],.sl 3 1 eI eJ,.sl 3 1 bp bO,.bx jN [(.string aW.aB),(.string aW.aC),(vi aW.fArgs),(vi aW.ay),(vi aW.az),gR,gS]]) (cy:ab (rI .i64) 1 g bL v2.fL) (eU:ah ((rI .i64) g) eJ v20) (bW:ah ((rI .i64) g) bO v6) (lk:ab aq.rep 4 g gR aW.ae) (ll:ab aK.rep 3 g gS aW.aM) (hO:Sub gT g) (hY:∀{ag:Bool}{aD:Int}{bo:List Int}{bR:List (List Value)}{g2 h2:AH},cR ag aD bo=some r→Sub gT g2→Sep c g2 h2 [.sl 3 1 eI eJ,.sl 3 1 bp bR,.bx jN [(.string aW.aB),(.string aW.aC),(vi aW.fArgs),(vi aW.ay),(vi aW.az),gR,gS],.bx bn [bL,(vi v2.fE)]]→ah ((rI .i64) g2) bR bo→dA (.bool ag) (vi aD) h2) (H:gQ c R r):QM w0 E R (au bn 0) eI (vi bA) bp (vi dC) dA (.bool bX) (.bool pQ) h:=by
 unfold QM
 unfold Dp at M
 refine bw (fun hc=> ?_) (fun hc=> ?_)
 · have M:=aQ hc M
   refine(ie (l:=[cg,(vi 12)]) (de (m:=[(vi 12)]) (l2:=[cg,(vi 12)]) rfl rfl (Nat.le_of_ble_eq_true rfl) rfl rfl)).2 ?_
   refine S.dv [cg,(vi 12)] [cg,(vi 12)] rfl rfl (aa rfl (aa rfl rfl)) (Nat.le_of_ble_eq_true rfl) rfl (fun h S=> ?_)
   refine S.dc [cg,(vi 12)] 0 rfl rfl rfl (by decide) ?_
   cases M
   exact H _ _ cg S.bH ab.nil
 · have M:=aS hc M
   have S:=S.f3
   have S:=S.f3
   have S:=S.f3
   exact aqu M S eU bW lk ll cy hO hY H
theorem aqH {w0:World}{c:Cx}{g h:AH}{E R:Value→W}{r:aN}{N:Nat}{dC:Int}{v6 v20:List Int}{bA:Int}{v2:aN}{bX:Bool}{aW:ak}{bp:Value}{bO:List (List Value)}{eI:Value}{eJ:List (List Value)}{bn:Nat}{bL:Value}{jN:Nat}{gR gS:Value}{dA:Value→Value→W}{cR:Bool→Int→(List Int)→Option aN}{gT:AH}(M:HI N dC v6 v20 bA v2 bX aW cR=some r) (S:Sep c g h [.sl 3 1 bp bO,.sl 3 1 eI eJ,.bx bn [bL,(vi v2.fE)],.bx jN [(.string aW.aB),(.string aW.aC),(vi aW.fArgs),(vi aW.ay),(vi aW.az),gR,gS]]) (bW:ah ((rI .i64) g) bO v6) (eU:ah ((rI .i64) g) eJ v20) (cy:ab (rI .i64) 1 g bL v2.fL) (lk:ab aq.rep 4 g gR aW.ae) (ll:ab aK.rep 3 g gS aW.aM) (hO:Sub gT g) (hY:∀{ag:Bool}{aD:Int}{bo:List Int}{bR:List (List Value)}{g2 h2:AH},cR ag aD bo=some r→Sub gT g2→Sep c g2 h2 [.sl 3 1 eI eJ,.sl 3 1 bp bR,.bx jN [(.string aW.aB),(.string aW.aC),(vi aW.fArgs),(vi aW.ay),(vi aW.az),gR,gS],.bx bn [bL,(vi v2.fE)]]→ah ((rI .i64) g2) bR bo→dA (.bool ag) (vi aD) h2) (H:gQ c R r):QN w0 E R (vi dC) bp eI (vi bA) (au bn 0) dA (.bool bX) h:=by
 unfold QN
 unfold HI at M
 obtain⟨WQ,aqI,M⟩:=bind_some M
 refine C9 aqI S.sub S.ok (fun _ h  S1  => ?_)
 have S:=S.dB S1
 refine gN.2 ?_
 cases hc:(!WQ)
 · have M:=aS hc M
   refine ax rfl ?_
   refine ax rfl ?_
   refine ax rfl ?_
   refine ax rfl ?_
   obtain⟨afy,aqJ,M⟩:=bind_some M
   refine S.dZ 1 rfl eU aqJ (fun awI awJ vs aqK aqL rp=> ?_)
   cases rp
   refine ax rfl ?_
   refine S.fG (j:=0) 1 rfl aqK aqL rfl ?_
   refine ax rfl ?_
   obtain⟨WS,aqM,M⟩:=bind_some M
   refine S.dZ 0 rfl bW aqM (fun awK awL vs aqN aqO rp=> ?_)
   cases rp
   refine ax rfl ?_
   refine S.fG (j:=0) 0 rfl aqN aqO rfl ?_
   refine ax rfl ?_
   refine pA.2 ?_
   refine ax rfl ?_
   cases hc:(decide (0≤WS))
   · have M:=aS hc M
     refine aA (by decide) ?_
     refine aA (by decide) ?_
     refine aA (by decide) ?_
     refine aA (by decide) ?_
     refine aA (by decide) ?_
     refine aA (by decide) ?_
     refine aA (by decide) ?_
     refine aA (by decide) ?_
     refine aA (by decide) ?_
     refine ax rfl ?_
     refine bf.2 ?_
     refine bf.2 ?_
     have S:=S.f3
     have S:=S.f1
     have S:=S.f2
     have S:=S.f3
     exact W7 M S cy eU bW lk ll hO hY H
   · have M:=aQ hc M
     refine ax rfl ?_
     refine ax rfl ?_
     refine ax rfl ?_
     refine ax rfl ?_
     obtain⟨afz,aqP,M⟩:=bind_some M
     refine S.dZ 1 rfl eU aqP (fun awM awN vs W8 W9 rp=> ?_)
     cases rp
     refine ax rfl ?_
     refine S.fG (j:=0) 1 rfl W8 W9 rfl ?_
     refine ax rfl ?_
     obtain⟨HJ,Xa,M⟩:=bind_some M
     refine S.dZ 0 rfl bW Xa (fun aqQ aqR vs aqS aqT rp=> ?_)
     cases rp
     refine ax rfl ?_
     refine S.fG (j:=0) 0 rfl aqS aqT rfl ?_
     refine ax rfl ?_
     refine ax rfl ?_
     refine oy.2 ?_
     refine ax rfl ?_
     refine bf.2 ?_
     refine bf.2 ?_
     have S:=S.f3
     have S:=S.f1
     have S:=S.f2
     have S:=S.f3
     exact W7 M S cy eU bW lk ll hO hY H
 · have M:=aQ hc M
   refine aA (by decide) ?_
   refine aA (by decide) ?_
   refine aA (by decide) ?_
   refine aA (by decide) ?_
   refine aA (by decide) ?_
   refine aA (by decide) ?_
   refine aA (by decide) ?_
   refine aA (by decide) ?_
   refine aA (by decide) ?_
   refine eB ?_
   refine eB ?_
   refine eB ?_
   refine eB ?_
   refine eB ?_
   refine eB ?_
   refine eB ?_
   refine eB ?_
   refine eB ?_
   refine aA (by decide) ?_
   refine bf.2 ?_
   have S:=S.f3
   have S:=S.f1
   have S:=S.f2
   have S:=S.f3
   exact W7 M S cy eU bW lk ll hO hY H
theorem afQ {w0:World}{c:Cx}{g h:AH}{E R:Value→W}{r:aN}{N:Nat}{v2:aN}{dC:Int}{v6 v20:List Int}{bA:Int}{bX pR:Bool}{aW:ak}{bn:Nat}{bL bp:Value}{bO:List (List Value)}{eI:Value}{eJ:List (List Value)}{jN:Nat}{gR gS:Value}{dA:Value→Value→W}{cR:Bool→Int→(List Int)→Option aN}{gT:AH}(M:HK N v2 dC v6 v20 bA bX pR aW cR=some r) (S:Sep c g h [.bx bn [bL,(vi v2.fE)],.sl 3 1 bp bO,.sl 3 1 eI eJ,.bx jN [(.string aW.aB),(.string aW.aC),(vi aW.fArgs),(vi aW.ay),(vi aW.az),gR,gS]]) (cy:ab (rI .i64) 1 g bL v2.fL) (bW:ah ((rI .i64) g) bO v6) (eU:ah ((rI .i64) g) eJ v20) (lk:ab aq.rep 4 g gR aW.ae) (ll:ab aK.rep 3 g gS aW.aM) (hO:Sub gT g) (hY:∀{ag:Bool}{aD:Int}{bo:List Int}{bR:List (List Value)}{g2 h2:AH},cR ag aD bo=some r→Sub gT g2→Sep c g2 h2 [.sl 3 1 eI eJ,.sl 3 1 bp bR,.bx jN [(.string aW.aB),(.string aW.aC),(vi aW.fArgs),(vi aW.ay),(vi aW.az),gR,gS],.bx bn [bL,(vi v2.fE)]]→ah ((rI .i64) g2) bR bo→dA (.bool ag) (vi aD) h2) (H:gQ c R r):QO w0 E R (au bn 0) (vi dC) bp eI (vi bA) dA (.bool bX) (.bool pR) h:=by
 unfold QO
 unfold HK at M
 refine bw (fun hc=> ?_) (fun hc=> ?_)
 · have M:=aQ hc M
   refine(ie (l:=[cg,(vi 12)]) (de (m:=[(vi 12)]) (l2:=[cg,(vi 12)]) rfl rfl (Nat.le_of_ble_eq_true rfl) rfl rfl)).2 ?_
   refine S.dv [cg,(vi 12)] [cg,(vi 12)] rfl rfl (aa rfl (aa rfl rfl)) (Nat.le_of_ble_eq_true rfl) rfl (fun h S=> ?_)
   refine S.dc [cg,(vi 12)] 0 rfl rfl rfl (by decide) ?_
   cases M
   exact H _ _ cg S.bH ab.nil
 · have M:=aS hc M
   have S:=S.f3
   have S:=S.f1
   have S:=S.f3
   have S:=S.f3
   exact aqH M S bW eU cy lk ll hO hY H
theorem afR {w0:World}{c:Cx}{g h:AH}{E R:Value→W}{r:aN}{N:Nat}{ft aL:Int}{v2:aN}{dC:Int}{v6 v20:List Int}{bA:Int}{bX nH:Bool}{aW:ak}{bn:Nat}{bL bp:Value}{bO:List (List Value)}{eI:Value}{eJ:List (List Value)}{jN:Nat}{gR gS:Value}{dA:Value→Value→W}{cR:Bool→Int→(List Int)→Option aN}{gT:AH}(M:HL N ft aL v2 dC v6 v20 bA bX nH aW cR=some r) (S:Sep c g h [.bx bn [bL,(vi v2.fE)],.sl 3 1 bp bO,.sl 3 1 eI eJ,.bx jN [(.string aW.aB),(.string aW.aC),(vi aW.fArgs),(vi aW.ay),(vi aW.az),gR,gS]]) (cy:ab (rI .i64) 1 g bL v2.fL) (bW:ah ((rI .i64) g) bO v6) (eU:ah ((rI .i64) g) eJ v20) (lk:ab aq.rep 4 g gR aW.ae) (ll:ab aK.rep 3 g gS aW.aM) (hO:Sub gT g) (hY:∀{ag:Bool}{aD:Int}{bo:List Int}{bR:List (List Value)}{g2 h2:AH},cR ag aD bo=some r→Sub gT g2→Sep c g2 h2 [.sl 3 1 eI eJ,.sl 3 1 bp bR,.bx jN [(.string aW.aB),(.string aW.aC),(vi aW.fArgs),(vi aW.ay),(vi aW.az),gR,gS],.bx bn [bL,(vi v2.fE)]]→ah ((rI .i64) g2) bR bo→dA (.bool ag) (vi aD) h2) (H:gQ c R r):QP w0 E R (vi ft) (vi aL) (au bn 0) (vi dC) bp eI (vi bA) dA (.bool bX) (.bool nH) h:=by
 unfold QP
 unfold HL at M
 cases hc:nH
 · have M:=aS hc M
   refine aA (by decide) ?_
   refine aA (by decide) ?_
   refine aA (by decide) ?_
   refine aA (by decide) ?_
   refine bf.2 ?_
   exact afQ M S cy bW eU lk ll hO hY H
 · have M:=aQ hc M
   refine ax rfl ?_
   refine ax rfl ?_
   refine ax rfl ?_
   refine fF.2 ?_
   refine ax rfl ?_
   refine cK.2 ?_
   refine bf.2 ?_
   exact afQ M S cy bW eU lk ll hO hY H
theorem afS {w0:World}{c:Cx}{g h:AH}{E R:Value→W}{r:aN}{N:Nat}{er:Int}{v20:List Int}{bA ft aL:Int}{v2:aN}{v6:List Int}{bX:Bool}{dC:Int}{aW:ak}{eI:Value}{eJ:List (List Value)}{bn:Nat}{bL bp:Value}{bO:List (List Value)}{jN:Nat}{gR gS:Value}{dA:Value→Value→W}{cR:Bool→Int→(List Int)→Option aN}{gT:AH}(M:HM N er v20 bA ft aL v2 v6 bX dC aW cR=some r) (S:Sep c g h [.sl 3 1 eI eJ,.bx bn [bL,(vi v2.fE)],.sl 3 1 bp bO,.bx jN [(.string aW.aB),(.string aW.aC),(vi aW.fArgs),(vi aW.ay),(vi aW.az),gR,gS]]) (eU:ah ((rI .i64) g) eJ v20) (cy:ab (rI .i64) 1 g bL v2.fL) (bW:ah ((rI .i64) g) bO v6) (lk:ab aq.rep 4 g gR aW.ae) (ll:ab aK.rep 3 g gS aW.aM) (hO:Sub gT g) (hY:∀{ag:Bool}{aD:Int}{bo:List Int}{bR:List (List Value)}{g2 h2:AH},cR ag aD bo=some r→Sub gT g2→Sep c g2 h2 [.sl 3 1 eI eJ,.sl 3 1 bp bR,.bx jN [(.string aW.aB),(.string aW.aC),(vi aW.fArgs),(vi aW.ay),(vi aW.az),gR,gS],.bx bn [bL,(vi v2.fE)]]→ah ((rI .i64) g2) bR bo→dA (.bool ag) (vi aD) h2) (H:gQ c R r):JZ w0 E R (vi er) eI (vi bA) (vi ft) (vi aL) (au bn 0) bp dA (.bool bX) (vi dC) h:=by
 unfold JZ
 unfold HM at M
 refine cK.2 ?_
 cases hc:(decide (er=32))
 · have M:=aS hc M
   refine aA (by decide) ?_
   refine aA (by decide) ?_
   refine aA (by decide) ?_
   refine aA (by decide) ?_
   refine aA (by decide) ?_
   refine aA (by decide) ?_
   refine bf.2 ?_
   have S:=S.f3
   have S:=S.f1
   have S:=S.f3
   have S:=S.f3
   exact afR M S cy bW eU lk ll hO hY H
 · have M:=aQ hc M
   refine ax rfl ?_
   refine ax rfl ?_
   refine ax rfl ?_
   obtain⟨afA,aqU,M⟩:=bind_some M
   refine S.dZ 0 rfl eU aqU (fun awO awP vs aqV aqW rp=> ?_)
   cases rp
   refine ax rfl ?_
   refine S.fG (j:=0) 0 rfl aqV aqW rfl ?_
   refine ax rfl ?_
   refine ax rfl ?_
   refine cK.2 ?_
   refine bf.2 ?_
   have S:=S.f3
   have S:=S.f1
   have S:=S.f3
   have S:=S.f3
   exact afR M S cy bW eU lk ll hO hY H
theorem ND {w0:World}{c:Cx}{g h:AH}{E R:Value→W}{r:aN}{N:Nat}{lQ er:Int}{v20:List Int}{bA ft aL:Int}{v2:aN}{v6:List Int}{bX sr:Bool}{aW:ak}{eI:Value}{eJ:List (List Value)}{bn:Nat}{bL bp:Value}{bO:List (List Value)}{jN:Nat}{gR gS:Value}{dA:Value→Value→W}{cR:Bool→Int→(List Int)→Option aN}{gT:AH}(M:AB N lQ er v20 bA ft aL v2 v6 bX sr aW cR=some r) (S:Sep c g h [.sl 3 1 eI eJ,.bx bn [bL,(vi v2.fE)],.sl 3 1 bp bO,.bx jN [(.string aW.aB),(.string aW.aC),(vi aW.fArgs),(vi aW.ay),(vi aW.az),gR,gS]]) (eU:ah ((rI .i64) g) eJ v20) (cy:ab (rI .i64) 1 g bL v2.fL) (bW:ah ((rI .i64) g) bO v6) (lk:ab aq.rep 4 g gR aW.ae) (ll:ab aK.rep 3 g gS aW.aM) (hO:Sub gT g) (hY:∀{ag:Bool}{aD:Int}{bo:List Int}{bR:List (List Value)}{g2 h2:AH},cR ag aD bo=some r→Sub gT g2→Sep c g2 h2 [.sl 3 1 eI eJ,.sl 3 1 bp bR,.bx jN [(.string aW.aB),(.string aW.aC),(vi aW.fArgs),(vi aW.ay),(vi aW.az),gR,gS],.bx bn [bL,(vi v2.fE)]]→ah ((rI .i64) g2) bR bo→dA (.bool ag) (vi aD) h2) (H:gQ c R r):QQ w0 E R (vi lQ) (vi er) eI (vi bA) (vi ft) (vi aL) (au bn 0) bp dA (.bool bX) (.bool sr) h:=by
 unfold QQ
 unfold AB at M
 refine bw (fun hc=> ?_) (fun hc=> ?_)
 · have M:=aQ hc M
   refine lZ.2 ?_
   exact afS M S eU cy bW lk ll hO hY H
 · have M:=aS hc M
   exact afS M S eU cy bW lk ll hO hY H
theorem afT {w0:World}{c:Cx}{g h:AH}{E R:Value→W}{r:aN}{N:Nat}{v1:ak}{aL er:Int}{v20:List Int}{bA:Int}{v2:aN}{v6:List Int}{bX:Bool}{lQ:Int}{al:Nat}{av aw eI:Value}{eJ:List (List Value)}{bn:Nat}{bL bp:Value}{bO:List (List Value)}{dA:Value→Value→W}{cR:Bool→Int→(List Int)→Option aN}{gT:AH}(M:HN N v1 aL er v20 bA v2 v6 bX lQ cR=some r) (S:Sep c g h [.bx al [(.string v1.aB),(.string v1.aC),(vi v1.fArgs),(vi v1.ay),(vi v1.az),av,aw],.sl 3 1 eI eJ,.bx bn [bL,(vi v2.fE)],.sl 3 1 bp bO]) (aG:ab aq.rep 4 g av v1.ae) (aJ:ab aK.rep 3 g aw v1.aM) (eU:ah ((rI .i64) g) eJ v20) (cy:ab (rI .i64) 1 g bL v2.fL) (bW:ah ((rI .i64) g) bO v6) (hO:Sub gT g) (hY:∀{ag:Bool}{aD:Int}{bo:List Int}{bR:List (List Value)}{g2 h2:AH},cR ag aD bo=some r→Sub gT g2→Sep c g2 h2 [.sl 3 1 eI eJ,.sl 3 1 bp bR,.bx al [(.string v1.aB),(.string v1.aC),(vi v1.fArgs),(vi v1.ay),(vi v1.az),av,aw],.bx bn [bL,(vi v2.fE)]]→ah ((rI .i64) g2) bR bo→dA (.bool ag) (vi aD) h2) (H:gQ c R r):J0 w0 E R (au al 0) (vi aL) (vi er) eI (vi bA) (au bn 0) bp dA (.bool bX) (vi lQ) h:=by
 unfold J0
 unfold HN at M
 refine bC.2 ?_
 refine S.bz 0 rfl rfl ?_
 obtain⟨afB,aqX,M⟩:=bind_some M
 refine ab.idx aG aqX (fun awQ awR vs awS aqY rp=> ?_)
 cases rp
 refine S.mq aqY rfl (by decide) ?_
 obtain⟨xw,aqZ,M⟩:=bind_some M
 refine We aqZ S.sub S.ok (fun _ h  S1  => ?_)
 have S:=S.dB S1
 refine(eY rfl).2 ?_
 refine(eY rfl).2 ?_
 refine cK.2 ?_
 cases hc:(decide (er=31))
 · have M:=aS hc M
   refine ax rfl ?_
   refine ax rfl ?_
   refine cK.2 ?_
   refine ax rfl ?_
   cases hc:(decide (er=32))
   · have M:=aS hc M
     refine aA (by decide) ?_
     refine ax rfl ?_
     refine bf.2 ?_
     refine ax rfl ?_
     refine aA (by decide) ?_
     refine aA (by decide) ?_
     refine aA (by decide) ?_
     refine aA (by decide) ?_
     refine aA (by decide) ?_
     refine aA (by decide) ?_
     refine ax rfl ?_
     refine bf.2 ?_
     refine bf.2 ?_
     have S:=S.f3
     have S:=S.f3
     have S:=S.f3
     exact ND M S eU cy bW aG aJ hO hY H
   · have M:=aQ hc M
     refine ax rfl ?_
     refine ax rfl ?_
     refine bf.2 ?_
     refine ax rfl ?_
     cases hc:xw.2
     · have M:=aS hc M
       refine aA (by decide) ?_
       refine aA (by decide) ?_
       refine aA (by decide) ?_
       refine aA (by decide) ?_
       refine aA (by decide) ?_
       refine aA (by decide) ?_
       refine ax rfl ?_
       refine bf.2 ?_
       refine bf.2 ?_
       have S:=S.f3
       have S:=S.f3
       have S:=S.f3
       exact ND M S eU cy bW aG aJ hO hY H
     · have M:=aQ hc M
       refine ax rfl ?_
       refine ax rfl ?_
       refine ax rfl ?_
       obtain⟨afC,aq0,M⟩:=bind_some M
       refine S.dZ 1 rfl eU aq0 (fun awT awU vs aq1 aq2 rp=> ?_)
       cases rp
       refine ax rfl ?_
       refine S.fG (j:=0) 1 rfl aq1 aq2 rfl ?_
       refine ax rfl ?_
       refine ax rfl ?_
       refine cK.2 ?_
       refine ax rfl ?_
       refine bf.2 ?_
       refine bf.2 ?_
       have S:=S.f3
       have S:=S.f3
       have S:=S.f3
       exact ND M S eU cy bW aG aJ hO hY H
 · have M:=aQ hc M
   refine aA (by decide) ?_
   refine aA (by decide) ?_
   refine aA (by decide) ?_
   refine eB ?_
   refine aA (by decide) ?_
   refine aA (by decide) ?_
   refine eB ?_
   refine eB ?_
   refine eB ?_
   refine eB ?_
   refine eB ?_
   refine eB ?_
   refine aA (by decide) ?_
   refine bf.2 ?_
   have S:=S.f3
   have S:=S.f3
   have S:=S.f3
   exact ND M S eU cy bW aG aJ hO hY H
theorem aq3 {w0:World}{c:Cx}{g h:AH}{E R:Value→W}{r:aN}{N:Nat}{v6:List Int}{aL:Int}{v1:ak}{v20:List Int}{bA:Int}{v2:aN}{bX:Bool}{bp:Value}{bO:List (List Value)}{al:Nat}{av aw eI:Value}{eJ:List (List Value)}{bn:Nat}{bL:Value}{dA:Value→Value→W}{cR:Bool→Int→(List Int)→Option aN}{gT:AH}(M:xx N v6 aL v1 v20 bA v2 bX cR=some r) (S:Sep c g h [.sl 3 1 bp bO,.bx al [(.string v1.aB),(.string v1.aC),(vi v1.fArgs),(vi v1.ay),(vi v1.az),av,aw],.sl 3 1 eI eJ,.bx bn [bL,(vi v2.fE)]]) (bW:ah ((rI .i64) g) bO v6) (aG:ab aq.rep 4 g av v1.ae) (aJ:ab aK.rep 3 g aw v1.aM) (eU:ah ((rI .i64) g) eJ v20) (cy:ab (rI .i64) 1 g bL v2.fL) (hO:Sub gT g) (hY:∀{ag:Bool}{aD:Int}{bo:List Int}{bR:List (List Value)}{g2 h2:AH},cR ag aD bo=some r→Sub gT g2→Sep c g2 h2 [.sl 3 1 eI eJ,.sl 3 1 bp bR,.bx al [(.string v1.aB),(.string v1.aC),(vi v1.fArgs),(vi v1.ay),(vi v1.az),av,aw],.bx bn [bL,(vi v2.fE)]]→ah ((rI .i64) g2) bR bo→dA (.bool ag) (vi aD) h2) (H:gQ c R r):QR w0 E R bp (vi aL) (au al 0) eI (vi bA) (au bn 0) dA (.bool bX) h:=by
 unfold QR
 unfold xx at M
 obtain⟨xy,HW,M⟩:=bind_some M
 refine S.dZ 0 rfl bW HW (fun afU afV vs Xb Xc rp=> ?_)
 cases rp
 refine S.fG (j:=0) 0 rfl Xb Xc rfl ?_
 refine bC.2 ?_
 refine S.bz 1 rfl rfl ?_
 obtain⟨AE,Xd,M⟩:=bind_some M
 refine ab.idx aG Xd (fun awV awW vs afW aq4 rp=> ?_)
 cases rp
 refine bC.2 ?_
 refine S.eH (aq4 0 _ rfl) ?_
 refine cK.2 ?_
 refine bw (fun hc=> ?_) (fun hc=> ?_)
 · have M:=aQ hc M
   refine fF.2 ?_
   have S:=S.f3
   have S:=S.f3
   have S:=S.f3
   exact afT M S aG aJ eU cy bW hO hY H
 · have M:=aS hc M
   have S:=S.f3
   have S:=S.f3
   have S:=S.f3
   exact afT M S aG aJ eU cy bW hO hY H
theorem aq5 {w0:World}{c:Cx}{g h:AH}{E R:Value→W}{r:aN}{N:Nat}{v6:List Int}{v28 aL:Int}{fk:Bool}{fJ:ak}{oM:aN}{bp:Value}{bO:List (List Value)}{Du:Nat}{xD xE:Value}{Dv:Nat}{xF:Value}{dS:Value→Value→W}{dI:Bool→Int→(List Int)→Option aN}{iG:AH}(M:NA N v6 v28 aL fk fJ oM dI=some r) (S:Sep c g h [.sl 3 1 bp bO,.bx Du [(.string fJ.aB),(.string fJ.aC),(vi fJ.fArgs),(vi fJ.ay),(vi fJ.az),xD,xE],.bx Dv [xF,(vi oM.fE)]]) (bW:ah ((rI .i64) g) bO v6) (WY:ab aq.rep 4 g xD fJ.ae) (WZ:ab aK.rep 3 g xE fJ.aM) (W0:ab (rI .i64) 1 g xF oM.fL) (jf:Sub iG g) (j2:∀{ag:Bool}{aD:Int}{aP:List Int}{aV:List (List Value)}{g2 h2:AH},dI ag aD aP=some r→Sub iG g2→Sep c g2 h2 [.sl 3 1 bp aV,.bx Du [(.string fJ.aB),(.string fJ.aC),(vi fJ.fArgs),(vi fJ.ay),(vi fJ.az),xD,xE],.bx Dv [xF,(vi oM.fE)]]→ah ((rI .i64) g2) aV aP→dS (.bool ag) (vi aD) h2) (H:gQ c R r):QH w0 E R bp (vi v28) (vi aL) dS (.bool fk) h:=by
 unfold QH
 unfold NA at M
 obtain⟨afD,aq6,M⟩:=bind_some M
 refine S.dZ 0 rfl bW aq6 (fun awX awY vs aq7 aq8 rp=> ?_)
 cases rp
 refine S.fG (j:=0) 0 rfl aq7 aq8 rfl ?_
 refine eF.2 ?_
 refine bw (fun hc=> ?_) (fun hc=> ?_)
 · have M:=aQ hc M
   obtain⟨aqn,aq9,M⟩:=bind_some M
   refine S.dZ 0 rfl bW aq9 (fun awZ aw1 vs ara arb rp=> ?_)
   cases rp
   refine S.rB (j:=0) [(vi 0)] ara arb rfl rfl (aa rfl rfl) (by decide) (fun h S=> ?_)
   have arc:ah ((rI .i64) g) (bO.set v28.toNat [(vi 0)]) (v6.set v28.toNat 0):=ah.set bW (show(rI .i64) g [(vi 0)] 0 from rfl) v28.toNat
   have S:Sep _ g h [.sl 3 1 bp (bO.set v28.toNat [(vi 0)]),.bx Du [(.string fJ.aB),(.string fJ.aC),(vi fJ.fArgs),(vi fJ.ay),(vi fJ.az),xD,xE],.bx Dv [xF,(vi oM.fE)]]:=S
   exact NC M S arc WY WZ W0 jf j2 H
 · have M:=aS hc M
   exact NC M S bW WY WZ W0 jf j2 H
theorem ard {w0:World}{c:Cx}{g h:AH}{E R:Value→W}{r:aN}{N:Nat}{v1:ak}{dR:Int}{v6:List Int}{v2:aN}{aL:Int}{fk:Bool}{al:Nat}{av aw bp:Value}{bO:List (List Value)}{bn:Nat}{bL:Value}{dS:Value→Value→W}{dI:Bool→Int→(List Int)→Option aN}{iG:AH}(M:NB N v1 dR v6 v2 aL fk dI=some r) (S:Sep c g h [.bx al [(.string v1.aB),(.string v1.aC),(vi v1.fArgs),(vi v1.ay),(vi v1.az),av,aw],.sl 3 1 bp bO,.bx bn [bL,(vi v2.fE)]]) (aG:ab aq.rep 4 g av v1.ae) (aJ:ab aK.rep 3 g aw v1.aM) (bW:ah ((rI .i64) g) bO v6) (cy:ab (rI .i64) 1 g bL v2.fL) (jf:Sub iG g) (j2:∀{ag:Bool}{aD:Int}{aP:List Int}{aV:List (List Value)}{g2 h2:AH},dI ag aD aP=some r→Sub iG g2→Sep c g2 h2 [.sl 3 1 bp aV,.bx al [(.string v1.aB),(.string v1.aC),(vi v1.fArgs),(vi v1.ay),(vi v1.az),av,aw],.bx bn [bL,(vi v2.fE)]]→ah ((rI .i64) g2) aV aP→dS (.bool ag) (vi aD) h2) (H:gQ c R r):QI w0 E R (au al 0) (vi dR) bp (au bn 0) (vi aL) dS (.bool fk) h:=by
 unfold QI
 unfold NB at M
 refine bC.2 ?_
 refine S.bz 0 rfl rfl ?_
 obtain⟨Dq,Xe,M⟩:=bind_some M
 refine ab.idx aJ Xe (fun arf arh vs ari Xf rp=> ?_)
 cases rp
 refine bC.2 ?_
 refine S.eH (Xf 2 _ rfl) ?_
 obtain⟨HO,Xg,M⟩:=bind_some M
 refine S.dZ 1 rfl bW Xg (fun arj ark vs arl arn rp=> ?_)
 cases rp
 refine S.fG (j:=0) 1 rfl arl arn rfl ?_
 refine nh.2 ?_
 refine bw (fun hc=> ?_) (fun hc=> ?_)
 · have M:=aQ hc M
   refine(ie (l:=[cg,(vi 12)]) (de (m:=[(vi 12)]) (l2:=[cg,(vi 12)]) rfl rfl (Nat.le_of_ble_eq_true rfl) rfl rfl)).2 ?_
   have S:=S.f2
   refine S.dv [cg,(vi 12)] [cg,(vi 12)] rfl rfl (aa rfl (aa rfl rfl)) (Nat.le_of_ble_eq_true rfl) rfl (fun h S=> ?_)
   refine S.dc [cg,(vi 12)] 0 rfl rfl rfl (by decide) ?_
   cases M
   exact H _ _ cg S.bH ab.nil
 · have M:=aS hc M
   have S:=S.f2
   have S:=S.f1
   have S:=S.f2
   exact aq5 M S bW aG aJ cy jf j2 H
theorem afX {w0:World}{c:Cx}{g h:AH}{E R:Value→W}{r:aN}{N:Nat}{aL:Int}{fk:Bool}{v1:ak}{dR:Int}{v6:List Int}{v2:aN}{gq:Bool}{al:Nat}{av aw bp:Value}{bO:List (List Value)}{bn:Nat}{bL:Value}{dS:Value→Value→W}{dI:Bool→Int→(List Int)→Option aN}{iG:AH}(M:HP N aL fk v1 dR v6 v2 gq dI=some r) (S:Sep c g h [.bx al [(.string v1.aB),(.string v1.aC),(vi v1.fArgs),(vi v1.ay),(vi v1.az),av,aw],.sl 3 1 bp bO,.bx bn [bL,(vi v2.fE)]]) (aG:ab aq.rep 4 g av v1.ae) (aJ:ab aK.rep 3 g aw v1.aM) (bW:ah ((rI .i64) g) bO v6) (cy:ab (rI .i64) 1 g bL v2.fL) (jf:Sub iG g) (j2:∀{ag:Bool}{aD:Int}{aP:List Int}{aV:List (List Value)}{g2 h2:AH},dI ag aD aP=some r→Sub iG g2→Sep c g2 h2 [.sl 3 1 bp aV,.bx al [(.string v1.aB),(.string v1.aC),(vi v1.fArgs),(vi v1.ay),(vi v1.az),av,aw],.bx bn [bL,(vi v2.fE)]]→ah ((rI .i64) g2) aV aP→dS (.bool ag) (vi aD) h2) (H:gQ c R r):QJ w0 E R (vi aL) dS (.bool fk) (au al 0) (vi dR) bp (au bn 0) (.bool gq) h:=by
 unfold QJ
 unfold HP at M
 refine bw (fun hc=> ?_) (fun hc=> ?_)
 · have M:=aQ hc M
   have S:=S.f2
   have S:=S.f1
   have S:=S.f2
   exact NC M S bW aG aJ cy jf j2 H
 · have M:=aS hc M
   exact ard M S aG aJ bW cy jf j2 H
theorem aro {w0:World}{c:Cx}{g h:AH}{E R:Value→W}{r:aN}{N:Nat}{v1:ak}{aL:Int}{v6:List Int}{v2:aN}{fk:Bool}{al:Nat}{av aw bp:Value}{bO:List (List Value)}{bn:Nat}{bL:Value}{dS:Value→Value→W}{dI:Bool→Int→(List Int)→Option aN}{iG:AH}(M:AF N v1 aL v6 v2 fk dI=some r) (S:Sep c g h [.bx al [(.string v1.aB),(.string v1.aC),(vi v1.fArgs),(vi v1.ay),(vi v1.az),av,aw],.sl 3 1 bp bO,.bx bn [bL,(vi v2.fE)]]) (aG:ab aq.rep 4 g av v1.ae) (aJ:ab aK.rep 3 g aw v1.aM) (bW:ah ((rI .i64) g) bO v6) (cy:ab (rI .i64) 1 g bL v2.fL) (jf:Sub iG g) (j2:∀{ag:Bool}{aD:Int}{aP:List Int}{aV:List (List Value)}{g2 h2:AH},dI ag aD aP=some r→Sub iG g2→Sep c g2 h2 [.sl 3 1 bp aV,.bx al [(.string v1.aB),(.string v1.aC),(vi v1.fArgs),(vi v1.ay),(vi v1.az),av,aw],.bx bn [bL,(vi v2.fE)]]→ah ((rI .i64) g2) aV aP→dS (.bool ag) (vi aD) h2) (H:gQ c R r):QK w0 E R (au al 0) (vi aL) dS bp (au bn 0) (.bool fk) h:=by
 unfold QK
 unfold AF at M
 refine S.dc [(.string v1.aB),(.string v1.aC),(vi v1.fArgs),(vi v1.ay),(vi v1.az),av,aw] 0 rfl rfl rfl (by decide) ?_
 obtain⟨vz,Xh,M⟩:=bind_some M
 refine afx Xh S.sub S.ok aG aJ (fun _ h  S1  => ?_)
 have S:=S.dB S1
 refine bC.2 ?_
 refine S.bz 0 rfl rfl ?_
 obtain⟨HQ,Xi,M⟩:=bind_some M
 refine ab.idx aG Xi (fun arp arq vs ars Xj rp=> ?_)
 cases rp
 refine S.mq Xj rfl (by decide) ?_
 obtain⟨AG,Xk,M⟩:=bind_some M
 refine afk Xk S.sub S.ok (fun _ h  S1  => ?_)
 have S:=S.dB S1
 refine gN.2 ?_
 cases hc:(!AG)
 · have M:=aS hc M
   refine ax rfl ?_
   refine ax rfl ?_
   refine eF.2 ?_
   refine bf.2 ?_
   exact afX M S aG aJ bW cy jf j2 H
 · have M:=aQ hc M
   refine aA (by decide) ?_
   refine aA (by decide) ?_
   refine bf.2 ?_
   exact afX M S aG aJ bW cy jf j2 H
theorem art {w0:World}{c:Cx}{g h:AH}{E R:Value→W}{r:aN}{N:Nat}{v20 v6:List Int}{aL:Int}{v1:ak}{v2:aN}{bX:Bool}{bA:Int}{eI:Value}{eJ:List (List Value)}{bp:Value}{bO:List (List Value)}{al:Nat}{av aw:Value}{bn:Nat}{bL:Value}{dS:Value→Value→W}{dI:Bool→Int→(List Int)→Option aN}{iG:AH}{dA:Value→Value→W}{cR:Bool→Int→(List Int)→Option aN}{gT:AH}(M:WT N v20 v6 aL v1 v2 bX bA dI cR=some r) (S:Sep c g h [.sl 3 1 eI eJ,.sl 3 1 bp bO,.bx al [(.string v1.aB),(.string v1.aC),(vi v1.fArgs),(vi v1.ay),(vi v1.az),av,aw],.bx bn [bL,(vi v2.fE)]]) (eU:ah ((rI .i64) g) eJ v20) (bW:ah ((rI .i64) g) bO v6) (aG:ab aq.rep 4 g av v1.ae) (aJ:ab aK.rep 3 g aw v1.aM) (cy:ab (rI .i64) 1 g bL v2.fL) (jf:Sub iG g) (j2:∀{ag:Bool}{aD:Int}{aP:List Int}{aV:List (List Value)}{g2 h2:AH},dI ag aD aP=some r→Sub iG g2→Sep c g2 h2 [.sl 3 1 bp aV,.bx al [(.string v1.aB),(.string v1.aC),(vi v1.fArgs),(vi v1.ay),(vi v1.az),av,aw],.bx bn [bL,(vi v2.fE)]]→ah ((rI .i64) g2) aV aP→dS (.bool ag) (vi aD) h2) (hO:Sub gT g) (hY:∀{ag:Bool}{aD:Int}{bo:List Int}{bR:List (List Value)}{g2 h2:AH},cR ag aD bo=some r→Sub gT g2→Sep c g2 h2 [.sl 3 1 eI eJ,.sl 3 1 bp bR,.bx al [(.string v1.aB),(.string v1.aC),(vi v1.fArgs),(vi v1.ay),(vi v1.az),av,aw],.bx bn [bL,(vi v2.fE)]]→ah ((rI .i64) g2) bR bo→dA (.bool ag) (vi aD) h2) (H:gQ c R r):J2 w0 E R eI bp (vi aL) (au al 0) (au bn 0) dS dA (.bool bX) (vi bA) h:=by
 unfold J2
 unfold WT at M
 refine S.xe 0 rfl eU ?_
 refine eF.2 ?_
 refine bw (fun hc=> ?_) (fun hc=> ?_)
 · have M:=aQ hc M
   have S:=S.f3
   have S:=S.f1
   have S:=S.f3
   have S:=S.f3
   exact aq3 M S bW aG aJ eU cy hO hY H
 · have M:=aS hc M
   have S:=S.f3
   have S:=S.f2
   have S:=S.f3
   have S:=S.t3
   exact aro M S aG aJ bW cy jf j2 H
theorem aru {w0:World}{c:Cx}{E R:Value→W}{r:aN}{N:Nat}{v20:List Int}{aL:Int}{v1:ak}{v2:aN}{eI:Value}{eJ:List (List Value)}{bp:Value}{al:Nat}{av aw:Value}{bn:Nat}{bL:Value}{dS:Value→Value→W}{dI:Bool→Int→(List Int)→Option aN}{iG:AH}(j2:∀{ag:Bool}{aD:Int}{aP:List Int}{aV:List (List Value)}{g2 h2:AH},dI ag aD aP=some r→Sub iG g2→Sep c g2 h2 [.sl 3 1 bp aV,.bx al [(.string v1.aB),(.string v1.aC),(vi v1.fArgs),(vi v1.ay),(vi v1.az),av,aw],.bx bn [bL,(vi v2.fE)]]→ah ((rI .i64) g2) aV aP→dS (.bool ag) (vi aD) h2) (H:gQ c R r):∀(n:Nat){v6:List Int}{bX:Bool}{bA:Int}{bO:List (List Value)}{g h:AH},vA N v20 aL v1 v2 dI n v6 bX bA=some r→Sep c g h [.sl 3 1 eI eJ,.sl 3 1 bp bO,.bx al [(.string v1.aB),(.string v1.aC),(vi v1.fArgs),(vi v1.ay),(vi v1.az),av,aw],.bx bn [bL,(vi v2.fE)]]→ah ((rI .i64) g) eJ v20→ah ((rI .i64) g) bO v6→ab aq.rep 4 g av v1.ae→ab aK.rep 3 g aw v1.aM→ab (rI .i64) 1 g bL v2.fL→Sub iG g→eS (α:=Value×Value) (fun k a=>J2 w0 E R eI bp (vi aL) (au al 0) (au bn 0) dS (fun b0 b1=>k (b0,b1)) a.1 a.2) n ((.bool bX),(vi bA)) h:=by
 intro n
 induction n with
 | zero =>
  intro v6 bX bA bO g h M S eU bW aG aJ cy jf
  unfold vA at M;cases M
 | succ n ih =>
  intro v6 bX bA bO g h M S eU bW aG aJ cy jf
  exact art M S eU bW aG aJ cy jf j2 (Sub.refl g) (fun M2 sub S2 pM=>ih M2 S2 (ah.mono eU (fun _ _ hh=>(du .i64) _ _ _ _ sub hh)) pM (ab.mono aG aq.mono sub) (ab.mono aJ aK.mono sub) (ab.mono cy (du .i64) sub) (Sub.trans jf sub)) H
theorem arv {w0:World}{c:Cx}{g h:AH}{E R:Value→W}{r:aN}{N:Nat}{v1:ak}{aL:Int}{v6:List Int}{v2:aN}{cn:Bool}{al:Nat}{av aw bp:Value}{bO:List (List Value)}{bn:Nat}{bL:Value}{dS:Value→Value→W}{dI:Bool→Int→(List Int)→Option aN}{iG:AH}(M:AI N v1 aL v6 v2 cn dI=some r) (S:Sep c g h [.bx al [(.string v1.aB),(.string v1.aC),(vi v1.fArgs),(vi v1.ay),(vi v1.az),av,aw],.sl 3 1 bp bO,.bx bn [bL,(vi v2.fE)]]) (aG:ab aq.rep 4 g av v1.ae) (aJ:ab aK.rep 3 g aw v1.aM) (bW:ah ((rI .i64) g) bO v6) (cy:ab (rI .i64) 1 g bL v2.fL) (jf:Sub iG g) (j2:∀{ag:Bool}{aD:Int}{aP:List Int}{aV:List (List Value)}{g2 h2:AH},dI ag aD aP=some r→Sub iG g2→Sep c g2 h2 [.sl 3 1 bp aV,.bx al [(.string v1.aB),(.string v1.aC),(vi v1.fArgs),(vi v1.ay),(vi v1.az),av,aw],.bx bn [bL,(vi v2.fE)]]→ah ((rI .i64) g2) aV aP→dS (.bool ag) (vi aD) h2) (H:gQ c R r):QS w0 E R (au al 0) (vi aL) bp (au bn 0) dS (.bool cn) h:=by
 unfold QS
 unfold AI at M
 refine S.dc [(.string v1.aB),(.string v1.aC),(vi v1.fArgs),(vi v1.ay),(vi v1.az),av,aw] 0 rfl rfl rfl (by decide) ?_
 obtain⟨GO,Wb,M⟩:=bind_some M
 refine aft Wb S.sub S.ok aG aJ (fun g h aw2 aw3 S1 arw=> ?_)
 have aG:=ab.mono aG aq.mono S1.bF
 have aJ:=ab.mono aJ aK.mono S1.bF
 have bW:=ah.mono bW (fun _ _ hh=>(du .i64) _ _ _ _ S1.bF hh)
 have cy:=ab.mono cy (du .i64) S1.bF
 have jf:=Sub.trans jf S1.bF
 have S:=S.VF S1
 have S:=S.f3
 have S:=S.f2
 have S:=S.f3
 have S:=S.f3
 exact⟨N,aru j2 H _ M S arw bW aG aJ cy jf⟩
theorem arx {w0:World}{c:Cx}{g h:AH}{E R:Value→W}{r:aN}{N:Nat}{v6:List Int}{aL:Int}{cn:Bool}{v1:ak}{v2:aN}{bp:Value}{bO:List (List Value)}{al:Nat}{av aw:Value}{bn:Nat}{bL:Value}{dS:Value→Value→W}{dI:Bool→Int→(List Int)→Option aN}{iG:AH}(M:Dr N v6 aL cn v1 v2 dI=some r) (S:Sep c g h [.sl 3 1 bp bO,.bx al [(.string v1.aB),(.string v1.aC),(vi v1.fArgs),(vi v1.ay),(vi v1.az),av,aw],.bx bn [bL,(vi v2.fE)]]) (bW:ah ((rI .i64) g) bO v6) (aG:ab aq.rep 4 g av v1.ae) (aJ:ab aK.rep 3 g aw v1.aM) (cy:ab (rI .i64) 1 g bL v2.fL) (jf:Sub iG g) (j2:∀{ag:Bool}{aD:Int}{aP:List Int}{aV:List (List Value)}{g2 h2:AH},dI ag aD aP=some r→Sub iG g2→Sep c g2 h2 [.sl 3 1 bp aV,.bx al [(.string v1.aB),(.string v1.aC),(vi v1.fArgs),(vi v1.ay),(vi v1.az),av,aw],.bx bn [bL,(vi v2.fE)]]→ah ((rI .i64) g2) aV aP→dS (.bool ag) (vi aD) h2) (H:gQ c R r):QT w0 E R bp (vi aL) dS (.bool cn) (au al 0) (au bn 0) h:=by
 unfold QT
 unfold Dr at M
 obtain⟨afE,ary,M⟩:=bind_some M
 refine S.dZ 0 rfl bW ary (fun aw4 aw5 vs arz arA rp=> ?_)
 cases rp
 refine S.fG (j:=0) 0 rfl arz arA rfl ?_
 refine eF.2 ?_
 refine bw (fun hc=> ?_) (fun hc=> ?_)
 · have M:=aQ hc M
   exact NC M S bW aG aJ cy jf j2 H
 · have M:=aS hc M
   have S:=S.f2
   have S:=S.f1
   have S:=S.f2
   exact arv M S aG aJ bW cy jf j2 H
theorem arB {w0:World}{c:Cx}{g h:AH}{E R:Value→W}{r:aN}{N:Nat}{v6:List Int}{v1:ak}{v2:aN}{cn:Bool}{aL:Int}{bp:Value}{bO:List (List Value)}{al:Nat}{av aw:Value}{bn:Nat}{bL:Value}{dh:Value→W}{cO:Bool→(List Int)→Option aN}{fT:AH}{dS:Value→Value→W}{dI:Bool→Int→(List Int)→Option aN}{iG:AH}(M:WU N v6 v1 v2 cn aL cO dI=some r) (S:Sep c g h [.sl 3 1 bp bO,.bx al [(.string v1.aB),(.string v1.aC),(vi v1.fArgs),(vi v1.ay),(vi v1.az),av,aw],.bx bn [bL,(vi v2.fE)]]) (bW:ah ((rI .i64) g) bO v6) (aG:ab aq.rep 4 g av v1.ae) (aJ:ab aK.rep 3 g aw v1.aM) (cy:ab (rI .i64) 1 g bL v2.fL) (iC:Sub fT g) (je:∀{ag:Bool}{aP:List Int}{aV:List (List Value)}{g2 h2:AH},cO ag aP=some r→Sub fT g2→Sep c g2 h2 [.sl 3 1 bp aV,.bx al [(.string v1.aB),(.string v1.aC),(vi v1.fArgs),(vi v1.ay),(vi v1.az),av,aw],.bx bn [bL,(vi v2.fE)]]→ah ((rI .i64) g2) aV aP→dh (.bool ag) h2) (jf:Sub iG g) (j2:∀{ag:Bool}{aD:Int}{aP:List Int}{aV:List (List Value)}{g2 h2:AH},dI ag aD aP=some r→Sub iG g2→Sep c g2 h2 [.sl 3 1 bp aV,.bx al [(.string v1.aB),(.string v1.aC),(vi v1.fArgs),(vi v1.ay),(vi v1.az),av,aw],.bx bn [bL,(vi v2.fE)]]→ah ((rI .i64) g2) aV aP→dS (.bool ag) (vi aD) h2) (H:gQ c R r):J3 w0 E R bp (au al 0) (au bn 0) dh dS (.bool cn) (vi aL) h:=by
 unfold J3
 unfold WU at M
 refine S.xe 0 rfl bW ?_
 refine eF.2 ?_
 refine bw (fun hc=> ?_) (fun hc=> ?_)
 · have M:=aQ hc M
   exact arx M S bW aG aJ cy jf j2 H
 · have M:=aS hc M
   exact je M iC S bW
theorem arC {w0:World}{c:Cx}{E R:Value→W}{r:aN}{N:Nat}{v1:ak}{v2:aN}{bp:Value}{al:Nat}{av aw:Value}{bn:Nat}{bL:Value}{dh:Value→W}{cO:Bool→(List Int)→Option aN}{fT:AH}(je:∀{ag:Bool}{aP:List Int}{aV:List (List Value)}{g2 h2:AH},cO ag aP=some r→Sub fT g2→Sep c g2 h2 [.sl 3 1 bp aV,.bx al [(.string v1.aB),(.string v1.aC),(vi v1.fArgs),(vi v1.ay),(vi v1.az),av,aw],.bx bn [bL,(vi v2.fE)]]→ah ((rI .i64) g2) aV aP→dh (.bool ag) h2) (H:gQ c R r):∀(n:Nat){v6:List Int}{cn:Bool}{aL:Int}{bO:List (List Value)}{g h:AH},oO N v1 v2 cO n v6 cn aL=some r→Sep c g h [.sl 3 1 bp bO,.bx al [(.string v1.aB),(.string v1.aC),(vi v1.fArgs),(vi v1.ay),(vi v1.az),av,aw],.bx bn [bL,(vi v2.fE)]]→ah ((rI .i64) g) bO v6→ab aq.rep 4 g av v1.ae→ab aK.rep 3 g aw v1.aM→ab (rI .i64) 1 g bL v2.fL→Sub fT g→eS (α:=Value×Value) (fun k a=>J3 w0 E R bp (au al 0) (au bn 0) dh (fun b0 b1=>k (b0,b1)) a.1 a.2) n ((.bool cn),(vi aL)) h:=by
 intro n
 induction n with
 | zero =>
  intro v6 cn aL bO g h M S bW aG aJ cy iC
  unfold oO at M;cases M
 | succ n ih =>
  intro v6 cn aL bO g h M S bW aG aJ cy iC
  exact arB M S bW aG aJ cy iC je (Sub.refl g) (fun M2 sub S2 mC=>ih M2 S2 mC (ab.mono aG aq.mono sub) (ab.mono aJ aK.mono sub) (ab.mono cy (du .i64) sub) (Sub.trans iC sub)) H
theorem arD {w0:World}{c:Cx}{g h:AH}{E R:Value→W}{r:aN}{N:Nat}{v6:List Int}{v1:ak}{v2:aN}{bp:Value}{bO:List (List Value)}{al:Nat}{av aw:Value}{bn:Nat}{bL:Value}{dh:Value→W}{cO:Bool→(List Int)→Option aN}{fT:AH}(M:AJ N v6 v1 v2 cO=some r) (S:Sep c g h [.sl 3 1 bp bO,.bx al [(.string v1.aB),(.string v1.aC),(vi v1.fArgs),(vi v1.ay),(vi v1.az),av,aw],.bx bn [bL,(vi v2.fE)]]) (bW:ah ((rI .i64) g) bO v6) (aG:ab aq.rep 4 g av v1.ae) (aJ:ab aK.rep 3 g aw v1.aM) (cy:ab (rI .i64) 1 g bL v2.fL) (iC:Sub fT g) (je:∀{ag:Bool}{aP:List Int}{aV:List (List Value)}{g2 h2:AH},cO ag aP=some r→Sub fT g2→Sep c g2 h2 [.sl 3 1 bp aV,.bx al [(.string v1.aB),(.string v1.aC),(vi v1.fArgs),(vi v1.ay),(vi v1.az),av,aw],.bx bn [bL,(vi v2.fE)]]→ah ((rI .i64) g2) aV aP→dh (.bool ag) h2) (H:gQ c R r):QU w0 E R bp (au al 0) (au bn 0) dh h:=by
 unfold QU
 unfold AJ at M
 exact⟨N,arC je H _ M S bW aG aJ cy iC⟩
theorem arE {w0:World}{c:Cx}{g h:AH}{E R:Value→W}{r:aN}{N:Nat}{v6:List Int}{v2:aN}{bp:Value}{bO:List (List Value)}{bn:Nat}{bL:Value}  (M:WV N v6 v2=some r) (S:Sep c g h [.sl 3 1 bp bO,.bx bn [bL,(vi v2.fE)]]) (bW:ah ((rI .i64) g) bO v6) (cy:ab (rI .i64) 1 g bL v2.fL)  (H:gQ c R r):QG w0 E R bp (au bn 0) h:=by
 unfold QG
 unfold WV at M
 refine(ie (l:=[bp,(vi 0)]) (de (m:=[bp]) (l2:=[bp,(vi 0)]) (oA (S.oF 0 rfl)) rfl (Nat.le_of_ble_eq_true rfl) rfl rfl)).2 ?_
 have S:=S.f1
 refine S.dv [bp,(vi 0)] [bp,(vi 0)] rfl rfl (aa (S.oF 1 rfl) (aa rfl rfl)) (Nat.le_of_ble_eq_true rfl) rfl (fun h S=> ?_)
 refine S.dc [bp,(vi 0)] 0 rfl rfl rfl (by decide) ?_
 have S:=S.f1
 obtain⟨g,sg,S,arF⟩:=S.fz bW (du .i64)
 cases M
 exact H _ _ bp S.bH arF
theorem arG {w0:World}{c:Cx}{g h:AH}{E R:Value→W}{r:aN}{N:Nat}{v6:List Int}{v1:ak}{v2:aN}{bK:Bool}{bp:Value}{bO:List (List Value)}{al:Nat}{av aw:Value}{bn:Nat}{bL:Value}{dh:Value→W}{cO:Bool→(List Int)→Option aN}{fT:AH}(M:WW N v6 v1 v2 bK cO=some r) (S:Sep c g h [.sl 3 1 bp bO,.bx al [(.string v1.aB),(.string v1.aC),(vi v1.fArgs),(vi v1.ay),(vi v1.az),av,aw],.bx bn [bL,(vi v2.fE)]]) (bW:ah ((rI .i64) g) bO v6) (aG:ab aq.rep 4 g av v1.ae) (aJ:ab aK.rep 3 g aw v1.aM) (cy:ab (rI .i64) 1 g bL v2.fL) (iC:Sub fT g) (je:∀{ag:Bool}{aP:List Int}{aV:List (List Value)}{g2 h2:AH},cO ag aP=some r→Sub fT g2→Sep c g2 h2 [.sl 3 1 bp aV,.bx al [(.string v1.aB),(.string v1.aC),(vi v1.fArgs),(vi v1.ay),(vi v1.az),av,aw],.bx bn [bL,(vi v2.fE)]]→ah ((rI .i64) g2) aV aP→dh (.bool ag) h2) (H:gQ c R r):J4 w0 E R bp (au al 0) (au bn 0) dh (.bool bK) h:=by
 unfold J4
 unfold WW at M
 refine bw (fun hc=> ?_) (fun hc=> ?_)
 · have M:=aQ hc M
   exact arD M S bW aG aJ cy iC je H
 · have M:=aS hc M
   have S:=S.f2
   have S:=S.f1
   have S:=S.t2
   exact arE M S bW cy H
theorem arH {w0:World}{c:Cx}{E R:Value→W}{r:aN}{N:Nat}{v1:ak}{v2:aN}{bp:Value}{al:Nat}{av aw:Value}{bn:Nat}{bL:Value}   (H:gQ c R r):∀(n:Nat){v6:List Int}{bK:Bool}{bO:List (List Value)}{g h:AH},tt N v1 v2 n v6 bK=some r→Sep c g h [.sl 3 1 bp bO,.bx al [(.string v1.aB),(.string v1.aC),(vi v1.fArgs),(vi v1.ay),(vi v1.az),av,aw],.bx bn [bL,(vi v2.fE)]]→ah ((rI .i64) g) bO v6→ab aq.rep 4 g av v1.ae→ab aK.rep 3 g aw v1.aM→ab (rI .i64) 1 g bL v2.fL→eS (α:=Value) (fun k a=>J4 w0 E R bp (au al 0) (au bn 0) k a) n (.bool bK) h:=by
 intro n
 induction n with
 | zero =>
  intro v6 bK bO g h M S bW aG aJ cy
  unfold tt at M;cases M
 | succ n ih =>
  intro v6 bK bO g h M S bW aG aJ cy
  exact arG M S bW aG aJ cy  (Sub.refl g) (fun M2 sub S2 mC=>ih M2 S2 mC (ab.mono aG aq.mono sub) (ab.mono aJ aK.mono sub) (ab.mono cy (du .i64) sub)) H
theorem arI {w0:World}{c:Cx}{g h:AH}{E R:Value→W}{r:aN}{N:Nat}{v6:List Int}{v1:ak}{v2:aN}{bp:Value}{bO:List (List Value)}{al:Nat}{av aw:Value}{bn:Nat}{bL:Value}  (M:HS N v6 v1 v2=some r) (S:Sep c g h [.sl 3 1 bp bO,.bx al [(.string v1.aB),(.string v1.aC),(vi v1.fArgs),(vi v1.ay),(vi v1.az),av,aw],.bx bn [bL,(vi v2.fE)]]) (bW:ah ((rI .i64) g) bO v6) (aG:ab aq.rep 4 g av v1.ae) (aJ:ab aK.rep 3 g aw v1.aM) (cy:ab (rI .i64) 1 g bL v2.fL)  (H:gQ c R r):QV w0 E R bp (au al 0) (au bn 0) h:=by
 unfold QV
 unfold HS at M
 obtain⟨xc,Gr,M⟩:=bind_some M
 refine S.dZ 0 rfl bW Gr (fun arJ arK vs HX HY rp=> ?_)
 cases rp
 refine S.rB (j:=0) [(vi 0)] HX HY rfl rfl (aa rfl rfl) (by decide) (fun h S=> ?_)
 have Xl:ah ((rI .i64) g) (bO.set (0:Int).toNat [(vi 0)]) (v6.set (0:Int).toNat 0):=ah.set bW (show(rI .i64) g [(vi 0)] 0 from rfl) (0:Int).toNat
 have S:Sep _ g h [.sl 3 1 bp (bO.set (0:Int).toNat [(vi 0)]),.bx al [(.string v1.aB),(.string v1.aC),(vi v1.fArgs),(vi v1.ay),(vi v1.az),av,aw],.bx bn [bL,(vi v2.fE)]]:=S
 exact⟨N,arH  H _ M S Xl aG aJ cy⟩
theorem arL {w0:World}{c:Cx}{g h:AH}{E R:Value→W}{r:aN}{N:Nat}{v6:List Int}{v1:ak}{v2:aN}{fx:Int}{bp:Value}{bO:List (List Value)}{al:Nat}{av aw:Value}{bn:Nat}{bL:Value}{n9:Value→W}{oL:Int→(List Int)→Option aN}{xC:AH}(M:WX N v6 v1 v2 fx oL=some r) (S:Sep c g h [.sl 3 1 bp bO,.bx al [(.string v1.aB),(.string v1.aC),(vi v1.fArgs),(vi v1.ay),(vi v1.az),av,aw],.bx bn [bL,(vi v2.fE)]]) (bW:ah ((rI .i64) g) bO v6) (aG:ab aq.rep 4 g av v1.ae) (aJ:ab aK.rep 3 g aw v1.aM) (cy:ab (rI .i64) 1 g bL v2.fL) (HT:Sub xC g) (HU:∀{ag:Int}{aP:List Int}{aV:List (List Value)}{g2 h2:AH},oL ag aP=some r→Sub xC g2→Sep c g2 h2 [.sl 3 1 bp aV,.bx al [(.string v1.aB),(.string v1.aC),(vi v1.fArgs),(vi v1.ay),(vi v1.az),av,aw],.bx bn [bL,(vi v2.fE)]]→ah ((rI .i64) g2) aV aP→n9 (vi ag) h2) (H:gQ c R r):J5 w0 E R bp (au al 0) (au bn 0) n9 (vi fx) h:=by
 unfold J5
 unfold WX at M
 refine S.xe 0 rfl bW ?_
 refine eF.2 ?_
 refine bw (fun hc=> ?_) (fun hc=> ?_)
 · have M:=aQ hc M
   exact aqq M S bW aG aJ cy HT HU H
 · have M:=aS hc M
   exact arI M S bW aG aJ cy H
theorem arM {w0:World}{c:Cx}{E R:Value→W}{r:aN}{N:Nat}{v1:ak}{v2:aN}{bp:Value}{al:Nat}{av aw:Value}{bn:Nat}{bL:Value}   (H:gQ c R r):∀(n:Nat){v6:List Int}{fx:Int}{bO:List (List Value)}{g h:AH},AK N v1 v2 n v6 fx=some r→Sep c g h [.sl 3 1 bp bO,.bx al [(.string v1.aB),(.string v1.aC),(vi v1.fArgs),(vi v1.ay),(vi v1.az),av,aw],.bx bn [bL,(vi v2.fE)]]→ah ((rI .i64) g) bO v6→ab aq.rep 4 g av v1.ae→ab aK.rep 3 g aw v1.aM→ab (rI .i64) 1 g bL v2.fL→eS (α:=Value) (fun k a=>J5 w0 E R bp (au al 0) (au bn 0) k a) n (vi fx) h:=by
 intro n
 induction n with
 | zero =>
  intro v6 fx bO g h M S bW aG aJ cy
  unfold AK at M;cases M
 | succ n ih =>
  intro v6 fx bO g h M S bW aG aJ cy
  exact arL M S bW aG aJ cy  (Sub.refl g) (fun M2 sub S2 mC=>ih M2 S2 mC (ab.mono aG aq.mono sub) (ab.mono aJ aK.mono sub) (ab.mono cy (du .i64) sub)) H
theorem arN {w0:World}{c:Cx}{g h:AH}{E R:Value→W}{r:aN}{N:Nat}{v1:ak}{v2:aN}{al:Nat}{av aw:Value}{bn:Nat}{bL:Value}  (M:AL N v1 v2=some r) (S:Sep c g h [.bx al [(.string v1.aB),(.string v1.aC),(vi v1.fArgs),(vi v1.ay),(vi v1.az),av,aw],.bx bn [bL,(vi v2.fE)]]) (aG:ab aq.rep 4 g av v1.ae) (aJ:ab aK.rep 3 g aw v1.aM) (cy:ab (rI .i64) 1 g bL v2.fL)  (H:gQ c R r):QY w0 E R (au al 0) (au bn 0) h:=by
 unfold QY
 unfold AL at M
 refine bC.2 ?_
 refine S.bz 0 rfl rfl ?_
 refine aG.len ?_
 obtain⟨arO,M⟩:=mo M
 refine S.VM arO rfl (aa rfl rfl) (fun v_5 h S=> ?_)
 have A_6:ah ((rI .i64) g) (List.replicate (v1.ae.length:Int).toNat [(vi 0)]) (List.replicate (v1.ae.length:Int).toNat 0):=ah.MU (show(rI .i64) g [(vi 0)] 0 from rfl) _
 exact⟨N,arM  H _ M S A_6 aG aJ cy⟩
theorem an6 {w0:World}{g h:AH}{Q:CR→AH→Prop}{r:aN}{N:Nat}{x0:ak}{cU cV:Value}(M:xb N x0=some r) (sg:Sub g h) (ok:h.Ok) (cv:ab aq.rep 4 g cU x0.ae) (cZ:ab aK.rep 3 g cV x0.aM) (H:gQ ⟨g,h,[]⟩ (fun v=>Q (.ret v)) r):WF PP w0 QZ [(.agg ⟨[(.string x0.aB),(.string x0.aC),(vi x0.fArgs),(vi x0.ay),(vi x0.az),cU,cV]⟩)] h Q:=by
 refine aiV _ ?_
 have S:=Sep.start sg ok
 unfold ZO
 unfold xb at M
 refine S.box [(.string x0.aB),(.string x0.aC),(vi x0.fArgs),(vi x0.ay),(vi x0.az),cU,cV] rfl (aa rfl (aa rfl (aa rfl (aa rfl (aa rfl (aa cv.one (aa cZ.one rfl))))))) (fun jl h S=> ?_)
 refine S.alloc (l:=[cg,(vi 0)]) (aa rfl (aa rfl rfl)) (fun CV h S=> ?_)
 refine S.dc [(.string x0.aB),(.string x0.aC),(vi x0.fArgs),(vi x0.ay),(vi x0.az),cU,cV] 1 rfl rfl rfl (by decide) ?_
 obtain⟨C8,Wc,M⟩:=bind_some M
 refine ae2 Wc S.sub S.ok cv cZ (fun _ h  S1  => ?_)
 have S:=S.dB S1
 refine gN.2 ?_
 refine bw (fun hc=> ?_) (fun hc=> ?_)
 · have M:=aQ hc M
   refine(ie (l:=[cg,(vi 1)]) (de (m:=[(vi 1)]) (l2:=[cg,(vi 1)]) rfl rfl (Nat.le_of_ble_eq_true rfl) rfl rfl)).2 ?_
   refine S.dv [cg,(vi 1)] [cg,(vi 1)] rfl rfl (aa rfl (aa rfl rfl)) (Nat.le_of_ble_eq_true rfl) rfl (fun h S=> ?_)
   refine S.dc [cg,(vi 1)] 0 rfl rfl rfl (by decide) ?_
   cases M
   exact H _ _ cg S.bH ab.nil
 · have M:=aS hc M
   have S:=S.f1
   exact arN M S cv cZ ab.nil H
def NF (N:Nat) (y7:Int) (vB:List Int) (fX:Int→(List Int)→Option ((List Int))):Option ((List Int)) :=
 fX (bD .i64 (y7-1)) vB
def NG (N:Nat) (y7:Int) (v2:List Int) (fX:Int→(List Int)→Option ((List Int))):Option ((List Int)) :=
(ix v2 (bD .i64 (y7-1))).bind fun mn =>
(ix v2 y7).bind fun iQ =>
(ix v2 y7).bind fun xy =>
(ix (v2.set y7.toNat mn) (bD .i64 (y7-1))).bind fun NH =>
 NF N y7 ((v2.set y7.toNat mn).set (bD .i64 (y7-1)).toNat iQ) fX
def Dx (N:Nat) (y4:Int) (xq:List Int) (c8:Int→(List Int)→Option ((List Int))):Option ((List Int)) :=
 c8 (bD .i64 (y4+1)) xq
def HZ (N:Nat) (y7:Int) (v2:List Int) (y4:Int) (v30:Bool) (fX:Int→(List Int)→Option ((List Int))) (c8:Int→(List Int)→Option ((List Int))):Option ((List Int)) :=
 bif v30 then(
 NG N y7 v2 fX)else(
 Dx N y4 v2 c8)
def H0 (N:Nat) (v2:List Int) (y4:Int) (y7:Int) (c8:Int→(List Int)→Option ((List Int))) (fX:Int→(List Int)→Option ((List Int))):Option ((List Int)) :=
 bif (decide (0<y7))then(
(ix v2 y7).bind fun eb =>
(ix v2 (bD .i64 (y7-1))).bind fun xc =>
 HZ N y7 v2 y4 (decide (eb<xc)) fX c8)else(
 HZ N y7 v2 y4 false fX c8)
def H5 (N:Nat) (y4:Int) (c8:Int→(List Int)→Option ((List Int))):Nat→(List Int)→Int→Option ((List Int))
 | 0,_,_=>none
 | n+1,v2,y7=>H0 N v2 y4 y7 c8 (fun ag aP=>H5 N y4 c8 n aP ag)
def NI (N:Nat) (v2:List Int) (y4:Int) (c8:Int→(List Int)→Option ((List Int))):Option ((List Int)) :=
 H5 N y4 c8 N v2 y4
def Xm (N:Nat) (v2:List Int)  :Option ((List Int)) :=
 some v2
def AM (N:Nat) (v2:List Int) (y4:Int) (c8:Int→(List Int)→Option ((List Int))):Option ((List Int)) :=
 bif (decide (y4<(v2.length:Int)))then(
 NI N v2 y4 c8)else(
 Xm N v2)
def AN (N:Nat)   :Nat→(List Int)→Int→Option ((List Int))
 | 0,_,_=>none
 | n+1,v2,y4=>AM N v2 y4  (fun ag aP=>AN N  n aP ag)
def H6 (N:Nat) (x0:List Int):Option ((List Int)) :=
 gu (decide (([]:List Int).length+x0.length≤1048576)) (
 AN N  N (([]:List Int)++x0) 1)
abbrev rQ (c:Cx) (R:Value→W) (r:(List Int)):Prop:=∀(g' h':AH) (w1:Value),Sep c g' h' []→ab (rI .i64) 1 g' w1 r→R w1 h'
theorem arP {w0:World}{c:Cx}{g h:AH}{E R:Value→W}{r:(List Int)}{N:Nat}{y7:Int}{vB:List Int}{H7:Value}{H8:List (List Value)}{k6:Value→W}{fX:Int→(List Int)→Option ((List Int))}{ln:AH}(M:NF N y7 vB fX=some r) (S:Sep c g h [.sl 3 1 H7 H8]) (Xn:ah ((rI .i64) g) H8 vB) (nq:Sub ln g) (oP:∀{ag:Int}{aP:List Int}{aV:List (List Value)}{g2 h2:AH},fX ag aP=some r→Sub ln g2→Sep c g2 h2 [.sl 3 1 H7 aV]→ah ((rI .i64) g2) aV aP→k6 (vi ag) h2) (H:rQ c R r):Ra w0 E R (vi y7) k6 h:=by
 unfold Ra
 unfold NF at M
 refine lZ.2 ?_
 exact oP M nq S Xn
theorem arQ {w0:World}{c:Cx}{g h:AH}{E R:Value→W}{r:(List Int)}{N:Nat}{y7:Int}{v2:List Int}{dw:Value}{hZ:List (List Value)}{k6:Value→W}{fX:Int→(List Int)→Option ((List Int))}{ln:AH}(M:NG N y7 v2 fX=some r) (S:Sep c g h [.sl 3 1 dw hZ]) (jm:ah ((rI .i64) g) hZ v2) (nq:Sub ln g) (oP:∀{ag:Int}{aP:List Int}{aV:List (List Value)}{g2 h2:AH},fX ag aP=some r→Sub ln g2→Sep c g2 h2 [.sl 3 1 dw aV]→ah ((rI .i64) g2) aV aP→k6 (vi ag) h2) (H:rQ c R r):Rb w0 E R (vi y7) dw k6 h:=by
 unfold Rb
 unfold NG at M
 refine lZ.2 ?_
 refine lZ.2 ?_
 obtain⟨mn,Gs,M⟩:=bind_some M
 refine S.dZ 0 rfl jm Gs (fun arR arS vs arT arU rp=> ?_)
 cases rp
 refine S.fG (j:=0) 0 rfl arT arU rfl ?_
 obtain⟨iQ,Wo,M⟩:=bind_some M
 refine S.dZ 0 rfl jm Wo (fun Nh aps vs arV arW rp=> ?_)
 cases rp
 refine S.fG (j:=0) 0 rfl arV arW rfl ?_
 obtain⟨xy,HW,M⟩:=bind_some M
 refine S.dZ 0 rfl jm HW (fun afU afV vs Xb Xc rp=> ?_)
 cases rp
 refine S.rB (j:=0) [(vi mn)] Xb Xc rfl rfl (aa rfl rfl) (by decide) (fun h S=> ?_)
 have afY:ah ((rI .i64) g) (hZ.set y7.toNat [(vi mn)]) (v2.set y7.toNat mn):=ah.set jm (show(rI .i64) g [(vi mn)] mn from rfl) y7.toNat
 have S:Sep _ g h [.sl 3 1 dw (hZ.set y7.toNat [(vi mn)])]:=S
 refine⟨?_, ?_⟩
 · refine lZ.2 ?_
   exact z6
 · refine⟨?_, ?_⟩
   · refine zG.2 ?_
     exact z6
   · refine⟨?_, ?_⟩
     · refine zG.2 ?_
       exact(S.rd 0 rfl).M1
     · obtain⟨NH,Xo,M⟩:=bind_some M
       refine S.dZ 0 rfl afY Xo (fun arX arY vs afW arZ rp=> ?_)
       cases rp
       refine S.rB (j:=0) [(vi iQ)] afW arZ rfl rfl (aa rfl rfl) (by decide) (fun h S=> ?_)
       have ar0:ah ((rI .i64) g) ((hZ.set y7.toNat [(vi mn)]).set (bD .i64 (y7-1)).toNat [(vi iQ)]) ((v2.set y7.toNat mn).set (bD .i64 (y7-1)).toNat iQ):=ah.set afY (show(rI .i64) g [(vi iQ)] iQ from rfl) (bD .i64 (y7-1)).toNat
       have S:Sep _ g h [.sl 3 1 dw ((hZ.set y7.toNat [(vi mn)]).set (bD .i64 (y7-1)).toNat [(vi iQ)])]:=S
       exact arP M S ar0 nq oP H
theorem ar1 {w0:World}{c:Cx}{g h:AH}{E R:Value→W}{r:(List Int)}{N:Nat}{y4:Int}{xq:List Int}{Hy:Value}{Dk:List (List Value)}{k3:Value→W}{c8:Int→(List Int)→Option ((List Int))}{fV:AH}(M:Dx N y4 xq c8=some r) (S:Sep c g h [.sl 3 1 Hy Dk]) (afl:ah ((rI .i64) g) Dk xq) (iR:Sub fV g) (jM:∀{ag:Int}{aP:List Int}{aV:List (List Value)}{g2 h2:AH},c8 ag aP=some r→Sub fV g2→Sep c g2 h2 [.sl 3 1 Hy aV]→ah ((rI .i64) g2) aV aP→k3 (vi ag) h2) (H:rQ c R r):Q9 w0 E R (vi y4) k3 h:=by
 unfold Q9
 unfold Dx at M
 refine fF.2 ?_
 exact jM M iR S afl
theorem afZ {w0:World}{c:Cx}{g h:AH}{E R:Value→W}{r:(List Int)}{N:Nat}{y7:Int}{v2:List Int}{y4:Int}{v30:Bool}{dw:Value}{hZ:List (List Value)}{k6:Value→W}{fX:Int→(List Int)→Option ((List Int))}{ln:AH}{k3:Value→W}{c8:Int→(List Int)→Option ((List Int))}{fV:AH}(M:HZ N y7 v2 y4 v30 fX c8=some r) (S:Sep c g h [.sl 3 1 dw hZ]) (jm:ah ((rI .i64) g) hZ v2) (nq:Sub ln g) (oP:∀{ag:Int}{aP:List Int}{aV:List (List Value)}{g2 h2:AH},fX ag aP=some r→Sub ln g2→Sep c g2 h2 [.sl 3 1 dw aV]→ah ((rI .i64) g2) aV aP→k6 (vi ag) h2) (iR:Sub fV g) (jM:∀{ag:Int}{aP:List Int}{aV:List (List Value)}{g2 h2:AH},c8 ag aP=some r→Sub fV g2→Sep c g2 h2 [.sl 3 1 dw aV]→ah ((rI .i64) g2) aV aP→k3 (vi ag) h2) (H:rQ c R r):Re w0 E R (vi y7) dw k6 (vi y4) k3 (.bool v30) h:=by
 unfold Re
 unfold HZ at M
 refine bw (fun hc=> ?_) (fun hc=> ?_)
 · have M:=aQ hc M
   exact arQ M S jm nq oP H
 · have M:=aS hc M
   exact ar1 M S jm iR jM H
theorem ar2 {w0:World}{c:Cx}{g h:AH}{E R:Value→W}{r:(List Int)}{N:Nat}{v2:List Int}{y4 y7:Int}{dw:Value}{hZ:List (List Value)}{k3:Value→W}{c8:Int→(List Int)→Option ((List Int))}{fV:AH}{k6:Value→W}{fX:Int→(List Int)→Option ((List Int))}{ln:AH}(M:H0 N v2 y4 y7 c8 fX=some r) (S:Sep c g h [.sl 3 1 dw hZ]) (jm:ah ((rI .i64) g) hZ v2) (iR:Sub fV g) (jM:∀{ag:Int}{aP:List Int}{aV:List (List Value)}{g2 h2:AH},c8 ag aP=some r→Sub fV g2→Sep c g2 h2 [.sl 3 1 dw aV]→ah ((rI .i64) g2) aV aP→k3 (vi ag) h2) (nq:Sub ln g) (oP:∀{ag:Int}{aP:List Int}{aV:List (List Value)}{g2 h2:AH},fX ag aP=some r→Sub ln g2→Sep c g2 h2 [.sl 3 1 dw aV]→ah ((rI .i64) g2) aV aP→k6 (vi ag) h2) (H:rQ c R r):J8 w0 E R dw (vi y4) k3 k6 (vi y7) h:=by
 unfold J8
 unfold H0 at M
 refine nh.2 ?_
 cases hc:(decide (0<y7))
 · have M:=aS hc M
   refine aA (by decide) ?_
   refine aA (by decide) ?_
   refine aA (by decide) ?_
   refine aA (by decide) ?_
   refine aA (by decide) ?_
   refine aA (by decide) ?_
   refine aA (by decide) ?_
   refine aA (by decide) ?_
   refine aA (by decide) ?_
   refine aA (by decide) ?_
   refine bf.2 ?_
   exact afZ M S jm nq oP iR jM H
 · have M:=aQ hc M
   refine ax rfl ?_
   refine ax rfl ?_
   refine ax rfl ?_
   obtain⟨eb,mr,M⟩:=bind_some M
   refine S.dZ 0 rfl jm mr (fun af0 af1 vs Wm ar3 rp=> ?_)
   cases rp
   refine ax rfl ?_
   refine S.fG (j:=0) 0 rfl Wm ar3 rfl ?_
   refine ax rfl ?_
   refine ax rfl ?_
   refine ax rfl ?_
   refine lZ.2 ?_
   refine ax rfl ?_
   obtain⟨xc,Gr,M⟩:=bind_some M
   refine S.dZ 0 rfl jm Gr (fun arJ arK vs HX HY rp=> ?_)
   cases rp
   refine ax rfl ?_
   refine S.fG (j:=0) 0 rfl HX HY rfl ?_
   refine ax rfl ?_
   refine eF.2 ?_
   refine bf.2 ?_
   exact afZ M S jm nq oP iR jM H
theorem ar4 {w0:World}{c:Cx}{E R:Value→W}{r:(List Int)}{N:Nat}{y4:Int}{dw:Value}{k3:Value→W}{c8:Int→(List Int)→Option ((List Int))}{fV:AH}(jM:∀{ag:Int}{aP:List Int}{aV:List (List Value)}{g2 h2:AH},c8 ag aP=some r→Sub fV g2→Sep c g2 h2 [.sl 3 1 dw aV]→ah ((rI .i64) g2) aV aP→k3 (vi ag) h2) (H:rQ c R r):∀(n:Nat){v2:List Int}{y7:Int}{hZ:List (List Value)}{g h:AH},H5 N y4 c8 n v2 y7=some r→Sep c g h [.sl 3 1 dw hZ]→ah ((rI .i64) g) hZ v2→Sub fV g→eS (α:=Value) (fun k a=>J8 w0 E R dw (vi y4) k3 k a) n (vi y7) h:=by
 intro n
 induction n with
 | zero =>
  intro v2 y7 hZ g h M S jm iR
  unfold H5 at M;cases M
 | succ n ih =>
  intro v2 y7 hZ g h M S jm iR
  exact ar2 M S jm iR jM (Sub.refl g) (fun M2 sub S2 mC=>ih M2 S2 mC (Sub.trans iR sub)) H
theorem ar5 {w0:World}{c:Cx}{g h:AH}{E R:Value→W}{r:(List Int)}{N:Nat}{v2:List Int}{y4:Int}{dw:Value}{hZ:List (List Value)}{k3:Value→W}{c8:Int→(List Int)→Option ((List Int))}{fV:AH}(M:NI N v2 y4 c8=some r) (S:Sep c g h [.sl 3 1 dw hZ]) (jm:ah ((rI .i64) g) hZ v2) (iR:Sub fV g) (jM:∀{ag:Int}{aP:List Int}{aV:List (List Value)}{g2 h2:AH},c8 ag aP=some r→Sub fV g2→Sep c g2 h2 [.sl 3 1 dw aV]→ah ((rI .i64) g2) aV aP→k3 (vi ag) h2) (H:rQ c R r):Rf w0 E R dw (vi y4) k3 h:=by
 unfold Rf
 unfold NI at M
 exact⟨N,ar4 jM H _ M S jm iR⟩
theorem ar6 {w0:World}{c:Cx}{g h:AH}{E R:Value→W}{r:(List Int)}{N:Nat}{v2:List Int}{dw:Value}{hZ:List (List Value)}  (M:Xm N v2=some r) (S:Sep c g h [.sl 3 1 dw hZ]) (jm:ah ((rI .i64) g) hZ v2)  (H:rQ c R r):Q8 w0 E R dw h:=by
 unfold Q8
 unfold Xm at M
 obtain⟨g,sg,S,ar7⟩:=S.fz jm (du .i64)
 cases M
 exact H _ _ dw S.bH ar7
theorem ar8 {w0:World}{c:Cx}{g h:AH}{E R:Value→W}{r:(List Int)}{N:Nat}{v2:List Int}{y4:Int}{dw:Value}{hZ:List (List Value)}{k3:Value→W}{c8:Int→(List Int)→Option ((List Int))}{fV:AH}(M:AM N v2 y4 c8=some r) (S:Sep c g h [.sl 3 1 dw hZ]) (jm:ah ((rI .i64) g) hZ v2) (iR:Sub fV g) (jM:∀{ag:Int}{aP:List Int}{aV:List (List Value)}{g2 h2:AH},c8 ag aP=some r→Sub fV g2→Sep c g2 h2 [.sl 3 1 dw aV]→ah ((rI .i64) g2) aV aP→k3 (vi ag) h2) (H:rQ c R r):J9 w0 E R dw k3 (vi y4) h:=by
 unfold J9
 unfold AM at M
 refine S.xe 0 rfl jm ?_
 refine eF.2 ?_
 refine bw (fun hc=> ?_) (fun hc=> ?_)
 · have M:=aQ hc M
   exact ar5 M S jm iR jM H
 · have M:=aS hc M
   exact ar6 M S jm H
theorem ar9 {w0:World}{c:Cx}{E R:Value→W}{r:(List Int)}{N:Nat}{dw:Value}   (H:rQ c R r):∀(n:Nat){v2:List Int}{y4:Int}{hZ:List (List Value)}{g h:AH},AN N  n v2 y4=some r→Sep c g h [.sl 3 1 dw hZ]→ah ((rI .i64) g) hZ v2→eS (α:=Value) (fun k a=>J9 w0 E R dw k a) n (vi y4) h:=by
 intro n
 induction n with
 | zero =>
  intro v2 y4 hZ g h M S jm
  unfold AN at M;cases M
 | succ n ih =>
  intro v2 y4 hZ g h M S jm
  exact ar8 M S jm  (Sub.refl g) (fun M2 sub S2 mC=>ih M2 S2 mC) H
theorem asa {w0:World}{g h:AH}{Q:CR→AH→Prop}{r:(List Int)}{N:Nat}{x0:List Int}{bI:Value}(M:H6 N x0=some r) (sg:Sub g h) (ok:h.Ok) (cw:ab (rI .i64) 1 g bI x0) (H:rQ ⟨g,h,[]⟩ (fun v=>Q (.ret v)) r):WF PP w0 Rg [bI] h Q:=by
 refine aiZ _ ?_
 have S:=Sep.start sg ok
 unfold ZS
 unfold H6 at M
 refine S.qy (sz:=1) ([]:List (List Value)) rfl rfl (by decide) qA rfl (fun v_1 h S=> ?_)
 have Xp:ah ((rI .i64) g) ([]:List (List Value)) ([]:List Int):=ah.nil
 obtain⟨asb,X_7,rP⟩:=id cw
 obtain⟨asc,M⟩:=mo M
 refine S.app (X_7.mono S.sub) (by rw [Xp.1,rP.1];exact asc) (by decide) rfl (la (l3 .i64) rP) (la (l3 .i64) Xp) (fun v_3 h S=> ?_)
 have A_4:ah ((rI .i64) g) (([]:List (List Value))++asb) (([]:List Int)++x0):=ah.append Xp rP
 exact⟨N,ar9  H _ M S A_4⟩
def NJ (N:Nat) (gX:Int) (BD:List Int) (iq:ak) (vC:List (List Int)) (oQ:(List Int)→Int→(List (List Int))→Option ((List (List Int)))):Option ((List (List Int))) :=
 oQ BD (bD .i64 (gX+1)) vC
def NK (N:Nat) (v31:List Int) (gX:Int) (kj:List Int) (iq:ak) (vC:List (List Int)) (oQ:(List Int)→Int→(List (List Int))→Option ((List (List Int)))):Option ((List (List Int))) :=
(ix v31 gX).bind fun xy =>
(tr N kj xy).bind fun AE =>
 NJ N gX AE iq vC oQ
def H9 (N:Nat) (fP:Int) (BC:List Int) (Xq:List Int) (NL:List (List Int)) (ia:ak) (nY:(List Int)→Int→(List (List Int))→Option ((List (List Int)))):Option ((List (List Int))) :=
 nY BC (bD .i64 (fP+1)) NL
def NM (N:Nat) (cH:List Int) (dD:Int) (v5:List (List Int)) (fP:Int) (v37:Int) (jC:List Int) (ia:ak) (nY:(List Int)→Int→(List (List Int))→Option ((List (List Int)))):Option ((List (List Int))) :=
(ix cH dD).bind fun af2 =>
(ix v5 af2).bind fun af3 =>
(ix af3 fP).bind fun HJ =>
 bif (!decide (HJ=v37))then(
(ix cH dD).bind fun xv =>
(ix v5 xv).bind fun HG =>
(ix HG fP).bind fun af4 =>
(tr N jC af4).bind fun af5 =>
 H9 N fP af5 cH v5 ia nY)else(
 H9 N fP jC cH v5 ia nY)
def NN (N:Nat) (dD:Int) (BB:List Int) (Xr:List Int) (NO:List (List Int)) (cC:ak) (jv:(List Int)→Int→(List (List Int))→Option ((List (List Int)))):Option ((List (List Int))) :=
 jv BB (bD .i64 (dD+1)) NO
def AP (N:Nat) (cH:List Int) (dD:Int) (v5:List (List Int)) (v37:Int) (jC:List Int) (fP:Int) (cC:ak) (jv:(List Int)→Int→(List (List Int))→Option ((List (List Int)))) (nY:(List Int)→Int→(List (List Int))→Option ((List (List Int)))):Option ((List (List Int))) :=
(ix cH dD).bind fun af6 =>
(ix v5 af6).bind fun af7 =>
 bif (decide (fP<(af7.length:Int)))then(
 NM N cH dD v5 fP v37 jC cC nY)else(
 NN N dD jC cH v5 cC jv)
def Ia (N:Nat) (cH:List Int) (dD:Int) (v37:Int) (cC:ak) (jv:(List Int)→Int→(List (List Int))→Option ((List (List Int)))):Nat→(List (List Int))→(List Int)→Int→Option ((List (List Int)))
 | 0,_,_,_=>none
 | n+1,v5,jC,fP=>AP N cH dD v5 v37 jC fP cC jv (fun ag aD bo=>Ia N cH dD v37 cC jv n bo ag aD)
def NP (N:Nat) (cH:List Int) (dD:Int) (v5:List (List Int)) (v37:Int) (ki:List Int) (cC:ak) (jv:(List Int)→Int→(List (List Int))→Option ((List (List Int)))):Option ((List (List Int))) :=
 Ia N cH dD v37 cC jv N v5 ki 0
def NQ (N:Nat) (gW:Int) (BA:List Int) (NR:List (List Int)) (iu:ak) (oR:(List Int)→Int→(List (List Int))→Option ((List (List Int)))):Option ((List (List Int))) :=
 oR BA (bD .i64 (gW+1)) NR
def NS (N:Nat) (v5:List (List Int)) (gr:Int) (gW:Int) (kb:List Int) (iu:ak) (oR:(List Int)→Int→(List (List Int))→Option ((List (List Int)))):Option ((List (List Int))) :=
(ix v5 gr).bind fun af8 =>
(ix af8 gW).bind fun af9 =>
(tr N kb af9).bind fun aga =>
 NQ N gW aga v5 iu oR
def Ib (N:Nat) (aZ:Int) (fk:Bool) (NU:List (List Int)) (cu:ak) (cB:Bool→Int→(List (List Int))→Option ((List (List Int)))):Option ((List (List Int))) :=
 cB fk (bD .i64 (aZ-1)) NU
def Dy (N:Nat) (v5:List (List Int)) (aZ:Int) (bU:Bool) (su:List Int) (cu:ak) (cB:Bool→Int→(List (List Int))→Option ((List (List Int)))):Option ((List (List Int))) :=
(ix v5 aZ).bind fun agb =>
 bif (!decide ((su.length:Int)=(agb.length:Int)))then(
(ix v5 aZ).bind fun asd =>
 Ib N aZ true (v5.set aZ.toNat su) cu cB)else(
 Ib N aZ bU v5 cu cB)
def AQ (N:Nat) (v5:List (List Int)) (gr:Int) (aZ:Int) (bU:Bool) (kb:List Int) (gW:Int) (cu:ak) (cB:Bool→Int→(List (List Int))→Option ((List (List Int)))) (oR:(List Int)→Int→(List (List Int))→Option ((List (List Int)))):Option ((List (List Int))) :=
(ix v5 gr).bind fun HO =>
 bif (decide (gW<(HO.length:Int)))then(
 NS N v5 gr gW kb cu oR)else(
 Dy N v5 aZ bU kb cu cB)
def Ic (N:Nat) (gr:Int) (aZ:Int) (bU:Bool) (cu:ak) (cB:Bool→Int→(List (List Int))→Option ((List (List Int)))):Nat→(List (List Int))→(List Int)→Int→Option ((List (List Int)))
 | 0,_,_,_=>none
 | n+1,v5,kb,gW=>AQ N v5 gr aZ bU kb gW cu cB (fun ag aD aP=>Ic N gr aZ bU cu cB n aP ag aD)
def Ie (N:Nat) (v1:ak) (jy:Int) (v5:List (List Int)) (aZ:Int) (bU:Bool) (dk:List Int) (kA:Bool) (cB:Bool→Int→(List (List Int))→Option ((List (List Int)))):Option ((List (List Int))) :=
 bif kA then(
(ix v1.aM jy).bind fun Dq =>
 Ic N Dq.eg aZ bU v1 cB N v5 dk 0)else(
 Dy N v5 aZ bU dk v1 cB)
def Dz (N:Nat) (v1:ak) (aZ:Int) (v5:List (List Int)) (bU:Bool) (dk:List Int) (cB:Bool→Int→(List (List Int))→Option ((List (List Int)))):Option ((List (List Int))) :=
(Dn N v1 aZ).bind fun vz =>
(ix v1.ae aZ).bind fun HQ =>
(Di HQ).bind fun AG =>
 bif AG then(
 Ie N v1 vz v5 aZ bU dk (decide (0≤vz)) cB)else(
 Ie N v1 vz v5 aZ bU dk false cB)
def AR (N:Nat) (cH:List Int) (v5:List (List Int)) (v37:Int) (v1:ak) (aZ:Int) (bU:Bool) (ki:List Int) (dD:Int) (cB:Bool→Int→(List (List Int))→Option ((List (List Int)))) (jv:(List Int)→Int→(List (List Int))→Option ((List (List Int)))):Option ((List (List Int))) :=
 bif (decide (dD<(cH.length:Int)))then(
 NP N cH dD v5 v37 ki v1 jv)else(
 Dz N v1 aZ v5 bU ki cB)
def AS (N:Nat) (cH:List Int) (v37:Int) (v1:ak) (aZ:Int) (bU:Bool) (cB:Bool→Int→(List (List Int))→Option ((List (List Int)))):Nat→(List (List Int))→(List Int)→Int→Option ((List (List Int)))
 | 0,_,_,_=>none
 | n+1,v5,ki,dD=>AR N cH v5 v37 v1 aZ bU ki dD cB (fun ag aD bo=>AS N cH v37 v1 aZ bU cB n bo ag aD)
def DA (N:Nat) (v1:ak) (aZ:Int) (v5:List (List Int)) (bU:Bool) (o4:List Int) (cB:Bool→Int→(List (List Int))→Option ((List (List Int)))):Option ((List (List Int))) :=
(ix v1.ae aZ).bind fun agc =>
(Hw agc).bind fun tu =>
(Dm N v1 aZ).bind fun agd =>
 AS N agd tu v1 aZ bU cB N v5 o4 0
def AT (N:Nat) (v31:List Int) (v1:ak) (aZ:Int) (v5:List (List Int)) (bU:Bool) (kj:List Int) (gX:Int) (cB:Bool→Int→(List (List Int))→Option ((List (List Int)))) (oQ:(List Int)→Int→(List (List Int))→Option ((List (List Int)))):Option ((List (List Int))) :=
 bif (decide (gX<(v31.length:Int)))then(
 NK N v31 gX kj v1 v5 oQ)else(
 DA N v1 aZ v5 bU kj cB)
def Ig (N:Nat) (v31:List Int) (v1:ak) (aZ:Int) (bU:Bool) (cB:Bool→Int→(List (List Int))→Option ((List (List Int)))):Nat→(List (List Int))→(List Int)→Int→Option ((List (List Int)))
 | 0,_,_,_=>none
 | n+1,v5,kj,gX=>AT N v31 v1 aZ v5 bU kj gX cB (fun ag aD bo=>Ig N v31 v1 aZ bU cB n bo ag aD)
def Ih (N:Nat) (v5:List (List Int)) (aZ:Int) (v1:ak) (bU:Bool) (cB:Bool→Int→(List (List Int))→Option ((List (List Int)))):Option ((List (List Int))) :=
(ix v5 aZ).bind fun eb =>
 gu (decide (([]:List Int).length+eb.length≤1048576)) (
(ix v1.ae aZ).bind fun nn =>
(Hv N nn).bind fun age =>
 Ig N age v1 aZ bU cB N v5 (([]:List Int)++eb) 0)
def AU (N:Nat) (v5:List (List Int)) (v1:ak) (bU:Bool) (aZ:Int) (eQ:Bool→(List (List Int))→Option ((List (List Int)))) (cB:Bool→Int→(List (List Int))→Option ((List (List Int)))):Option ((List (List Int))) :=
 bif (decide (0≤aZ))then(
 Ih N v5 aZ v1 bU cB)else(
 eQ bU v5)
def xJ (N:Nat) (v1:ak) (eQ:Bool→(List (List Int))→Option ((List (List Int)))):Nat→(List (List Int))→Bool→Int→Option ((List (List Int)))
 | 0,_,_,_=>none
 | n+1,v5,bU,aZ=>AU N v5 v1 bU aZ eQ (fun ag aD aP=>xJ N v1 eQ n aP ag aD)
def Ii (N:Nat) (v4:Int) (v5:List (List Int)) (v1:ak) (eQ:Bool→(List (List Int))→Option ((List (List Int)))):Option ((List (List Int))) :=
 xJ N v1 eQ N v5 false (bD .i64 (v4-1))
def NV (N:Nat) (y7:Int) (vB:List (List Int)) (fX:Int→(List (List Int))→Option ((List (List Int)))):Option ((List (List Int))) :=
 fX (bD .i64 (y7+1)) vB
def NW (N:Nat) (v5:List (List Int)) (y7:Int) (fX:Int→(List (List Int))→Option ((List (List Int)))):Option ((List (List Int))) :=
(ix v5 y7).bind fun agf =>
(H6 N agf).bind fun NX =>
(ix v5 y7).bind fun ase =>
 NV N y7 (v5.set y7.toNat NX) fX
def NY (N:Nat) (v5:List (List Int))  :Option ((List (List Int))) :=
 some v5
def Ij (N:Nat) (v4:Int) (v5:List (List Int)) (y7:Int) (fX:Int→(List (List Int))→Option ((List (List Int)))):Option ((List (List Int))) :=
 bif (decide (y7<v4))then(
 NW N v5 y7 fX)else(
 NY N v5)
def Il (N:Nat) (v4:Int)  :Nat→(List (List Int))→Int→Option ((List (List Int)))
 | 0,_,_=>none
 | n+1,v5,y7=>Ij N v4 v5 y7  (fun ag aP=>Il N v4 n aP ag)
def Im (N:Nat) (v4:Int) (v5:List (List Int))  :Option ((List (List Int))) :=
 Il N v4 N v5 0
def Xs (N:Nat) (v4:Int) (v5:List (List Int)) (v1:ak) (aL:Bool) (eQ:Bool→(List (List Int))→Option ((List (List Int)))):Option ((List (List Int))) :=
 bif aL then(
 Ii N v4 v5 v1 eQ)else(
 Im N v4 v5)
def xK (N:Nat) (v4:Int) (v1:ak)  :Nat→(List (List Int))→Bool→Option ((List (List Int)))
 | 0,_,_=>none
 | n+1,v5,aL=>Xs N v4 v5 v1 aL  (fun ag aP=>xK N v4 v1 n aP ag)
def NZ (N:Nat) (v1:ak)  :Option ((List (List Int))) :=
 gu (decide (0≤(v1.ae.length:Int))&&decide ((v1.ae.length:Int)≤65536)) (
 xK N (v1.ae.length:Int) v1 N (List.replicate (v1.ae.length:Int).toNat ([]:List Int)) true)
def zP (N:Nat) (x0:ak):Option ((List (List Int))) :=
(De N x0).bind fun aR =>
 bif (!aR)then(
 some ([]:List (List Int)))else(
 NZ N x0)
abbrev fY (c:Cx) (R:Value→W) (r:(List (List Int))):Prop:=∀(g' h':AH) (w1:Value),Sep c g' h' []→ab (rL (rI .i64) 1) 1 g' w1 r→R w1 h'
theorem asf {w0:World}{c:Cx}{g h:AH}{E R:Value→W}{r:(List (List Int))}{N:Nat}{gX:Int}{BD:List Int}{iq:ak}{vC:List (List Int)}{agh:Value}{agi:List (List Value)}{Io:Nat}{AV AW Ip:Value}{Iq:List (List Value)}{oc:Value→Value→W}{oQ:(List Int)→Int→(List (List Int))→Option ((List (List Int)))}{xL:AH}(M:NJ N gX BD iq vC oQ=some r) (S:Sep c g h [.sl 3 1 agh agi,.bx Io [(.string iq.aB),(.string iq.aC),(vi iq.fArgs),(vi iq.ay),(vi iq.az),AV,AW],.sl 28 1 Ip Iq]) (ash:ah ((rI .i64) g) agi BD) (N0:ab aq.rep 4 g AV iq.ae) (N2:ab aK.rep 3 g AW iq.aM) (Ir:ah ((rL (rI .i64) 1) g) Iq vC) (AY:Sub xL g) (Is:∀{ag:List Int}{bP:Value}{bQ:List (List Value)}{aD:Int}{bo:List (List Int)}{bR:List (List Value)}{g2 h2:AH},oQ ag aD bo=some r→Sub xL g2→Sep c g2 h2 [.bx Io [(.string iq.aB),(.string iq.aC),(vi iq.fArgs),(vi iq.ay),(vi iq.az),AV,AW],.sl 28 1 Ip bR,.sl 3 1 bP bQ]→ah ((rI .i64) g2) bQ ag→ah ((rL (rI .i64) 1) g2) bR bo→oc bP (vi aD) h2) (H:fY c R r):Ru w0 E R (vi gX) oc agh h:=by
 unfold Ru
 unfold NJ at M
 refine fF.2 ?_
 have S:=S.f2
 have S:=S.f2
 exact Is M AY S ash Ir
theorem asi {w0:World}{c:Cx}{g h:AH}{E R:Value→W}{r:(List (List Int))}{N:Nat}{v31:List Int}{gX:Int}{kj:List Int}{iq:ak}{vC:List (List Int)}{xM tw:Value}{tx:List (List Value)}{Io:Nat}{AV AW Ip:Value}{Iq:List (List Value)}{oc:Value→Value→W}{oQ:(List Int)→Int→(List (List Int))→Option ((List (List Int)))}{xL:AH}(M:NK N v31 gX kj iq vC oQ=some r) (S:Sep c g h [.sl 3 1 tw tx,.bx Io [(.string iq.aB),(.string iq.aC),(vi iq.fArgs),(vi iq.ay),(vi iq.az),AV,AW],.sl 28 1 Ip Iq]) (tz:ab (rI .i64) 1 g xM v31) (AZ:ah ((rI .i64) g) tx kj) (N0:ab aq.rep 4 g AV iq.ae) (N2:ab aK.rep 3 g AW iq.aM) (Ir:ah ((rL (rI .i64) 1) g) Iq vC) (AY:Sub xL g) (Is:∀{ag:List Int}{bP:Value}{bQ:List (List Value)}{aD:Int}{bo:List (List Int)}{bR:List (List Value)}{g2 h2:AH},oQ ag aD bo=some r→Sub xL g2→Sep c g2 h2 [.bx Io [(.string iq.aB),(.string iq.aC),(vi iq.fArgs),(vi iq.ay),(vi iq.az),AV,AW],.sl 28 1 Ip bR,.sl 3 1 bP bQ]→ah ((rI .i64) g2) bQ ag→ah ((rL (rI .i64) 1) g2) bR bo→oc bP (vi aD) h2) (H:fY c R r):Rv w0 E R xM (vi gX) tw oc h:=by
 unfold Rv
 unfold NK at M
 obtain⟨xy,HW,M⟩:=bind_some M
 refine ab.idx tz HW (fun afU afV vs N3 Xt rp=> ?_)
 cases rp
 refine S.eH (Xt 0 _ rfl) ?_
 obtain⟨AE,Xd,M⟩:=bind_some M
 refine Nt Xd S.MV AZ (fun g h aw6 aw7 S1 asj=> ?_)
 have tz:=ab.mono tz (du .i64) S1.bF
 have Xt:=S1.bF.bE Xt
 have N0:=ab.mono N0 aq.mono S1.bF
 have N2:=ab.mono N2 aK.mono S1.bF
 have Ir:=ah.mono Ir (fun _ _ hh=>(pE (du .i64)) _ _ _ _ S1.bF hh)
 have AY:=Sub.trans AY S1.bF
 have S:=S.MX S1
 exact asf M S asj N0 N2 Ir AY Is H
theorem agj {w0:World}{c:Cx}{g h:AH}{E R:Value→W}{r:(List (List Int))}{N:Nat}{fP:Int}{BC Xq:List Int}{NL:List (List Int)}{ia:ak}{agk:Value}{agl:List (List Value)}{agm:Value}{Xu:List (List Value)}{agn:Value}{ago:List (List Value)}{Iu:Nat}{A7 A8:Value}{nI:Value→Value→W}{nY:(List Int)→Int→(List (List Int))→Option ((List (List Int)))}{xN:AH}(M:H9 N fP BC Xq NL ia nY=some r) (S:Sep c g h [.sl 3 1 agk agl,.sl 3 1 agm Xu,.sl 28 1 agn ago,.bx Iu [(.string ia.aB),(.string ia.aC),(vi ia.fArgs),(vi ia.ay),(vi ia.az),A7,A8]]) (asl:ah ((rI .i64) g) agl BC) (aw8:ah ((rI .i64) g) Xu Xq) (asm:ah ((rL (rI .i64) 1) g) ago NL) (Iv:ab aq.rep 4 g A7 ia.ae) (Iw:ab aK.rep 3 g A8 ia.aM) (xP:Sub xN g) (DB:∀{ag:List Int}{bP:Value}{bQ:List (List Value)}{aD:Int}{bo:List (List Int)}{bR:List (List Value)}{g2 h2:AH},nY ag aD bo=some r→Sub xN g2→Sep c g2 h2 [.sl 3 1 agm Xu,.sl 28 1 agn bR,.sl 3 1 bP bQ,.bx Iu [(.string ia.aB),(.string ia.aC),(vi ia.fArgs),(vi ia.ay),(vi ia.az),A7,A8]]→ah ((rI .i64) g2) bQ ag→ah ((rL (rI .i64) 1) g2) bR bo→nI bP (vi aD) h2) (H:fY c R r):Ke w0 E R (vi fP) nI agk h:=by
 unfold Ke
 unfold H9 at M
 refine fF.2 ?_
 have S:=S.f3
 have S:=S.f1
 have S:=S.f3
 have S:=S.f3
 exact DB M xP S asl asm
theorem asn {w0:World}{c:Cx}{g h:AH}{E R:Value→W}{r:(List (List Int))}{N:Nat}{cH:List Int}{dD:Int}{v5:List (List Int)}{fP v37:Int}{jC:List Int}{ia:ak}{j3:Value}{j4:List (List Value)}{aX:Value}{bh:List (List Value)}{tA:Value}{tB:List (List Value)}{Iu:Nat}{A7 A8:Value}{nI:Value→Value→W}{nY:(List Int)→Int→(List (List Int))→Option ((List (List Int)))}{xN:AH}(M:NM N cH dD v5 fP v37 jC ia nY=some r) (S:Sep c g h [.sl 3 1 j3 j4,.sl 28 1 aX bh,.sl 3 1 tA tB,.bx Iu [(.string ia.aB),(.string ia.aC),(vi ia.fArgs),(vi ia.ay),(vi ia.az),A7,A8]]) (j5:ah ((rI .i64) g) j4 cH) (bt:ah ((rL (rI .i64) 1) g) bh v5) (xQ:ah ((rI .i64) g) tB jC) (Iv:ab aq.rep 4 g A7 ia.ae) (Iw:ab aK.rep 3 g A8 ia.aM) (xP:Sub xN g) (DB:∀{ag:List Int}{bP:Value}{bQ:List (List Value)}{aD:Int}{bo:List (List Int)}{bR:List (List Value)}{g2 h2:AH},nY ag aD bo=some r→Sub xN g2→Sep c g2 h2 [.sl 3 1 j3 j4,.sl 28 1 aX bR,.sl 3 1 bP bQ,.bx Iu [(.string ia.aB),(.string ia.aC),(vi ia.fArgs),(vi ia.ay),(vi ia.az),A7,A8]]→ah ((rI .i64) g2) bQ ag→ah ((rL (rI .i64) 1) g2) bR bo→nI bP (vi aD) h2) (H:fY c R r):Rq w0 E R j3 (vi dD) aX (vi fP) (vi v37) tA nI h:=by
 unfold Rq
 unfold NM at M
 obtain⟨af2,aso,M⟩:=bind_some M
 refine S.dZ 0 rfl j5 aso (fun aw9 axa vs asp asq rp=> ?_)
 cases rp
 refine S.fG (j:=0) 0 rfl asp asq rfl ?_
 obtain⟨af3,asr,M⟩:=bind_some M
 refine S.dZ 1 rfl bt asr (fun axb axc vs W8 W9 rp=> ?_)
 obtain⟨axd,rfl,Xv⟩:=rp
 refine S.fG (j:=0) 1 rfl W8 W9 rfl ?_
 obtain⟨HJ,Xa,M⟩:=bind_some M
 refine ab.idx Xv Xa (fun aqQ aqR vs axe Xw rp=> ?_)
 cases rp
 refine S.eH (Xw 0 _ rfl) ?_
 refine oy.2 ?_
 refine bw (fun hc=> ?_) (fun hc=> ?_)
 · have M:=aQ hc M
   obtain⟨xv,HV,M⟩:=bind_some M
   refine S.dZ 0 rfl j5 HV (fun aqv aqw vs W3 W4 rp=> ?_)
   cases rp
   refine S.fG (j:=0) 0 rfl W3 W4 rfl ?_
   obtain⟨HG,W5,M⟩:=bind_some M
   refine S.dZ 1 rfl bt W5 (fun aqx aqy vs ass ast rp=> ?_)
   obtain⟨axf,rfl,Xx⟩:=rp
   refine S.fG (j:=0) 1 rfl ass ast rfl ?_
   obtain⟨af4,asu,M⟩:=bind_some M
   refine ab.idx Xx asu (fun axg axh vs axi Xy rp=> ?_)
   cases rp
   refine S.eH (Xy 0 _ rfl) ?_
   have S:=S.f2
   obtain⟨af5,asv,M⟩:=bind_some M
   refine Nt asv S.MV xQ (fun g h axj axk S1 W6=> ?_)
   have Xv:=ab.mono Xv (du .i64) S1.bF
   have Xw:=S1.bF.bE Xw
   have Xx:=ab.mono Xx (du .i64) S1.bF
   have Xy:=S1.bF.bE Xy
   have j5:=ah.mono j5 (fun _ _ hh=>(du .i64) _ _ _ _ S1.bF hh)
   have bt:=ah.mono bt (fun _ _ hh=>(pE (du .i64)) _ _ _ _ S1.bF hh)
   have Iv:=ab.mono Iv aq.mono S1.bF
   have Iw:=ab.mono Iw aK.mono S1.bF
   have xP:=Sub.trans xP S1.bF
   have S:=S.MX S1
   exact agj M S W6 j5 bt Iv Iw xP DB H
 · have M:=aS hc M
   have S:=S.f3
   have S:=S.f2
   have S:=S.f2
   have S:=S.f3
   exact agj M S xQ j5 bt Iv Iw xP DB H
theorem asw {w0:World}{c:Cx}{g h:AH}{E R:Value→W}{r:(List (List Int))}{N:Nat}{dD:Int}{BB Xr:List Int}{NO:List (List Int)}{cC:ak}{agp:Value}{agq:List (List Value)}{ags:Value}{Xz:List (List Value)}{agt:Value}{agu:List (List Value)}{qD:Nat}{nr nu:Value}{ke:Value→Value→W}{jv:(List Int)→Int→(List (List Int))→Option ((List (List Int)))}{oS:AH}(M:NN N dD BB Xr NO cC jv=some r) (S:Sep c g h [.sl 3 1 agp agq,.sl 3 1 ags Xz,.sl 28 1 agt agu,.bx qD [(.string cC.aB),(.string cC.aC),(vi cC.fArgs),(vi cC.ay),(vi cC.az),nr,nu]]) (asx:ah ((rI .i64) g) agq BB) (axl:ah ((rI .i64) g) Xz Xr) (asy:ah ((rL (rI .i64) 1) g) agu NO) (vD:ab aq.rep 4 g nr cC.ae) (vE:ab aK.rep 3 g nu cC.aM) (rR:Sub oS g) (vF:∀{ag:List Int}{bP:Value}{bQ:List (List Value)}{aD:Int}{bo:List (List Int)}{bR:List (List Value)}{g2 h2:AH},jv ag aD bo=some r→Sub oS g2→Sep c g2 h2 [.sl 3 1 ags Xz,.sl 28 1 agt bR,.bx qD [(.string cC.aB),(.string cC.aC),(vi cC.fArgs),(vi cC.ay),(vi cC.az),nr,nu],.sl 3 1 bP bQ]→ah ((rI .i64) g2) bQ ag→ah ((rL (rI .i64) 1) g2) bR bo→ke bP (vi aD) h2) (H:fY c R r):Rp w0 E R (vi dD) ke agp h:=by
 unfold Rp
 unfold NN at M
 refine fF.2 ?_
 have S:=S.f3
 have S:=S.f3
 have S:=S.f3
 exact vF M rR S asx asy
theorem asz {w0:World}{c:Cx}{g h:AH}{E R:Value→W}{r:(List (List Int))}{N:Nat}{cH:List Int}{dD:Int}{v5:List (List Int)}{v37:Int}{jC:List Int}{fP:Int}{cC:ak}{j3:Value}{j4:List (List Value)}{aX:Value}{bh:List (List Value)}{tA:Value}{tB:List (List Value)}{qD:Nat}{nr nu:Value}{ke:Value→Value→W}{jv:(List Int)→Int→(List (List Int))→Option ((List (List Int)))}{oS:AH}{nI:Value→Value→W}{nY:(List Int)→Int→(List (List Int))→Option ((List (List Int)))}{xN:AH}(M:AP N cH dD v5 v37 jC fP cC jv nY=some r) (S:Sep c g h [.sl 3 1 j3 j4,.sl 28 1 aX bh,.sl 3 1 tA tB,.bx qD [(.string cC.aB),(.string cC.aC),(vi cC.fArgs),(vi cC.ay),(vi cC.az),nr,nu]]) (j5:ah ((rI .i64) g) j4 cH) (bt:ah ((rL (rI .i64) 1) g) bh v5) (xQ:ah ((rI .i64) g) tB jC) (vD:ab aq.rep 4 g nr cC.ae) (vE:ab aK.rep 3 g nu cC.aM) (rR:Sub oS g) (vF:∀{ag:List Int}{bP:Value}{bQ:List (List Value)}{aD:Int}{bo:List (List Int)}{bR:List (List Value)}{g2 h2:AH},jv ag aD bo=some r→Sub oS g2→Sep c g2 h2 [.sl 3 1 j3 j4,.sl 28 1 aX bR,.bx qD [(.string cC.aB),(.string cC.aC),(vi cC.fArgs),(vi cC.ay),(vi cC.az),nr,nu],.sl 3 1 bP bQ]→ah ((rI .i64) g2) bQ ag→ah ((rL (rI .i64) 1) g2) bR bo→ke bP (vi aD) h2) (xP:Sub xN g) (DB:∀{ag:List Int}{bP:Value}{bQ:List (List Value)}{aD:Int}{bo:List (List Int)}{bR:List (List Value)}{g2 h2:AH},nY ag aD bo=some r→Sub xN g2→Sep c g2 h2 [.sl 3 1 j3 j4,.sl 28 1 aX bR,.sl 3 1 bP bQ,.bx qD [(.string cC.aB),(.string cC.aC),(vi cC.fArgs),(vi cC.ay),(vi cC.az),nr,nu]]→ah ((rI .i64) g2) bQ ag→ah ((rL (rI .i64) 1) g2) bR bo→nI bP (vi aD) h2) (H:fY c R r):Kf w0 E R j3 (vi dD) aX (vi v37) ke nI tA (vi fP) h:=by
 unfold Kf
 unfold AP at M
 obtain⟨af6,asA,M⟩:=bind_some M
 refine S.dZ 0 rfl j5 asA (fun axm axn vs asB asC rp=> ?_)
 cases rp
 refine S.fG (j:=0) 0 rfl asB asC rfl ?_
 obtain⟨af7,asD,M⟩:=bind_some M
 refine S.dZ 1 rfl bt asD (fun axo axp vs asE asF rp=> ?_)
 obtain⟨axq,rfl,asG⟩:=rp
 refine S.fG (j:=0) 1 rfl asE asF rfl ?_
 refine asG.len ?_
 refine eF.2 ?_
 refine bw (fun hc=> ?_) (fun hc=> ?_)
 · have M:=aQ hc M
   exact asn M S j5 bt xQ vD vE xP DB H
 · have M:=aS hc M
   have S:=S.f3
   have S:=S.f2
   have S:=S.f2
   have S:=S.f3
   exact asw M S xQ j5 bt vD vE rR vF H
theorem asH {w0:World}{c:Cx}{E R:Value→W}{r:(List (List Int))}{N:Nat}{cH:List Int}{dD v37:Int}{cC:ak}{j3:Value}{j4:List (List Value)}{aX:Value}{qD:Nat}{nr nu:Value}{ke:Value→Value→W}{jv:(List Int)→Int→(List (List Int))→Option ((List (List Int)))}{oS:AH}(vF:∀{ag:List Int}{bP:Value}{bQ:List (List Value)}{aD:Int}{bo:List (List Int)}{bR:List (List Value)}{g2 h2:AH},jv ag aD bo=some r→Sub oS g2→Sep c g2 h2 [.sl 3 1 j3 j4,.sl 28 1 aX bR,.bx qD [(.string cC.aB),(.string cC.aC),(vi cC.fArgs),(vi cC.ay),(vi cC.az),nr,nu],.sl 3 1 bP bQ]→ah ((rI .i64) g2) bQ ag→ah ((rL (rI .i64) 1) g2) bR bo→ke bP (vi aD) h2) (H:fY c R r):∀(n:Nat){v5:List (List Int)}{jC:List Int}{fP:Int}{bh:List (List Value)}{tA:Value}{tB:List (List Value)}{g h:AH},Ia N cH dD v37 cC jv n v5 jC fP=some r→Sep c g h [.sl 3 1 j3 j4,.sl 28 1 aX bh,.sl 3 1 tA tB,.bx qD [(.string cC.aB),(.string cC.aC),(vi cC.fArgs),(vi cC.ay),(vi cC.az),nr,nu]]→ah ((rI .i64) g) j4 cH→ah ((rL (rI .i64) 1) g) bh v5→ah ((rI .i64) g) tB jC→ab aq.rep 4 g nr cC.ae→ab aK.rep 3 g nu cC.aM→Sub oS g→eS (α:=Value×Value) (fun k a=>Kf w0 E R j3 (vi dD) aX (vi v37) ke (fun b0 b1=>k (b0,b1)) a.1 a.2) n (tA,(vi fP)) h:=by
 intro n
 induction n with
 | zero =>
  intro v5 jC fP bh tA tB g h M S j5 bt xQ vD vE rR
  unfold Ia at M;cases M
 | succ n ih =>
  intro v5 jC fP bh tA tB g h M S j5 bt xQ vD vE rR
  exact asz M S j5 bt xQ vD vE rR vF (Sub.refl g) (fun M2 sub S2 mu pM=>ih M2 S2 (ah.mono j5 (fun _ _ hh=>(du .i64) _ _ _ _ sub hh)) pM mu (ab.mono vD aq.mono sub) (ab.mono vE aK.mono sub) (Sub.trans rR sub)) H
theorem asI {w0:World}{c:Cx}{g h:AH}{E R:Value→W}{r:(List (List Int))}{N:Nat}{cH:List Int}{dD:Int}{v5:List (List Int)}{v37:Int}{ki:List Int}{cC:ak}{j3:Value}{j4:List (List Value)}{aX:Value}{bh:List (List Value)}{tC:Value}{tD:List (List Value)}{qD:Nat}{nr nu:Value}{ke:Value→Value→W}{jv:(List Int)→Int→(List (List Int))→Option ((List (List Int)))}{oS:AH}(M:NP N cH dD v5 v37 ki cC jv=some r) (S:Sep c g h [.sl 3 1 j3 j4,.sl 28 1 aX bh,.sl 3 1 tC tD,.bx qD [(.string cC.aB),(.string cC.aC),(vi cC.fArgs),(vi cC.ay),(vi cC.az),nr,nu]]) (j5:ah ((rI .i64) g) j4 cH) (bt:ah ((rL (rI .i64) 1) g) bh v5) (A9:ah ((rI .i64) g) tD ki) (vD:ab aq.rep 4 g nr cC.ae) (vE:ab aK.rep 3 g nu cC.aM) (rR:Sub oS g) (vF:∀{ag:List Int}{bP:Value}{bQ:List (List Value)}{aD:Int}{bo:List (List Int)}{bR:List (List Value)}{g2 h2:AH},jv ag aD bo=some r→Sub oS g2→Sep c g2 h2 [.sl 3 1 j3 j4,.sl 28 1 aX bR,.bx qD [(.string cC.aB),(.string cC.aC),(vi cC.fArgs),(vi cC.ay),(vi cC.az),nr,nu],.sl 3 1 bP bQ]→ah ((rI .i64) g2) bQ ag→ah ((rL (rI .i64) 1) g2) bR bo→ke bP (vi aD) h2) (H:fY c R r):Rr w0 E R j3 (vi dD) aX (vi v37) ke tC h:=by
 unfold Rr
 unfold NP at M
 exact⟨N,asH vF H _ M S j5 bt A9 vD vE rR⟩
theorem asJ {w0:World}{c:Cx}{g h:AH}{E R:Value→W}{r:(List (List Int))}{N:Nat}{gW:Int}{BA:List Int}{NR:List (List Int)}{iu:ak}{agv:Value}{agw:List (List Value)}{agx:Value}{agy:List (List Value)}{Ix:Nat}{Ba Bb:Value}{oa:Value→Value→W}{oR:(List Int)→Int→(List (List Int))→Option ((List (List Int)))}{xR:AH}(M:NQ N gW BA NR iu oR=some r) (S:Sep c g h [.sl 3 1 agv agw,.sl 28 1 agx agy,.bx Ix [(.string iu.aB),(.string iu.aC),(vi iu.fArgs),(vi iu.ay),(vi iu.az),Ba,Bb]]) (asK:ah ((rI .i64) g) agw BA) (asL:ah ((rL (rI .i64) 1) g) agy NR) (N4:ab aq.rep 4 g Ba iu.ae) (N5:ab aK.rep 3 g Bb iu.aM) (Bc:Sub xR g) (Iy:∀{ag:List Int}{bP:Value}{bQ:List (List Value)}{aD:Int}{aP:List (List Int)}{aV:List (List Value)}{g2 h2:AH},oR ag aD aP=some r→Sub xR g2→Sep c g2 h2 [.sl 28 1 agx aV,.sl 3 1 bP bQ,.bx Ix [(.string iu.aB),(.string iu.aC),(vi iu.fArgs),(vi iu.ay),(vi iu.az),Ba,Bb]]→ah ((rI .i64) g2) bQ ag→ah ((rL (rI .i64) 1) g2) aV aP→oa bP (vi aD) h2) (H:fY c R r):Rl w0 E R (vi gW) oa agv h:=by
 unfold Rl
 unfold NQ at M
 refine fF.2 ?_
 have S:=S.f2
 have S:=S.f1
 have S:=S.f2
 exact Iy M Bc S asK asL
theorem asM {w0:World}{c:Cx}{g h:AH}{E R:Value→W}{r:(List (List Int))}{N:Nat}{v5:List (List Int)}{gr gW:Int}{kb:List Int}{iu:ak}{aX:Value}{bh:List (List Value)}{tE:Value}{tG:List (List Value)}{Ix:Nat}{Ba Bb:Value}{oa:Value→Value→W}{oR:(List Int)→Int→(List (List Int))→Option ((List (List Int)))}{xR:AH}(M:NS N v5 gr gW kb iu oR=some r) (S:Sep c g h [.sl 28 1 aX bh,.sl 3 1 tE tG,.bx Ix [(.string iu.aB),(.string iu.aC),(vi iu.fArgs),(vi iu.ay),(vi iu.az),Ba,Bb]]) (bt:ah ((rL (rI .i64) 1) g) bh v5) (Bd:ah ((rI .i64) g) tG kb) (N4:ab aq.rep 4 g Ba iu.ae) (N5:ab aK.rep 3 g Bb iu.aM) (Bc:Sub xR g) (Iy:∀{ag:List Int}{bP:Value}{bQ:List (List Value)}{aD:Int}{aP:List (List Int)}{aV:List (List Value)}{g2 h2:AH},oR ag aD aP=some r→Sub xR g2→Sep c g2 h2 [.sl 28 1 aX aV,.sl 3 1 bP bQ,.bx Ix [(.string iu.aB),(.string iu.aC),(vi iu.fArgs),(vi iu.ay),(vi iu.az),Ba,Bb]]→ah ((rI .i64) g2) bQ ag→ah ((rL (rI .i64) 1) g2) aV aP→oa bP (vi aD) h2) (H:fY c R r):Rm w0 E R aX (vi gr) (vi gW) tE oa h:=by
 unfold Rm
 unfold NS at M
 obtain⟨af8,asN,M⟩:=bind_some M
 refine S.dZ 0 rfl bt asN (fun axr axs vs asO asP rp=> ?_)
 obtain⟨axt,rfl,XA⟩:=rp
 refine S.fG (j:=0) 0 rfl asO asP rfl ?_
 obtain⟨af9,asQ,M⟩:=bind_some M
 refine ab.idx XA asQ (fun axu axv vs axw XB rp=> ?_)
 cases rp
 refine S.eH (XB 0 _ rfl) ?_
 have S:=S.f1
 obtain⟨aga,asR,M⟩:=bind_some M
 refine Nt asR S.MV Bd (fun g h axx axy S1 asS=> ?_)
 have XA:=ab.mono XA (du .i64) S1.bF
 have XB:=S1.bF.bE XB
 have bt:=ah.mono bt (fun _ _ hh=>(pE (du .i64)) _ _ _ _ S1.bF hh)
 have N4:=ab.mono N4 aq.mono S1.bF
 have N5:=ab.mono N5 aK.mono S1.bF
 have Bc:=Sub.trans Bc S1.bF
 have S:=S.MX S1
 exact asJ M S asS bt N4 N5 Bc Iy H
theorem agz {w0:World}{c:Cx}{g h:AH}{E R:Value→W}{r:(List (List Int))}{N:Nat}{aZ:Int}{fk:Bool}{NU:List (List Int)}{cu:ak}{agA:Value}{agB:List (List Value)}{pN:Nat}{mD mE:Value}{da:Value→Value→W}{cB:Bool→Int→(List (List Int))→Option ((List (List Int)))}{fh:AH}(M:Ib N aZ fk NU cu cB=some r) (S:Sep c g h [.sl 28 1 agA agB,.bx pN [(.string cu.aB),(.string cu.aC),(vi cu.fArgs),(vi cu.ay),(vi cu.az),mD,mE]]) (asT:ah ((rL (rI .i64) 1) g) agB NU) (qE:ab aq.rep 4 g mD cu.ae) (qF:ab aK.rep 3 g mE cu.aM) (eV:Sub fh g) (iS:∀{ag:Bool}{aD:Int}{aP:List (List Int)}{aV:List (List Value)}{g2 h2:AH},cB ag aD aP=some r→Sub fh g2→Sep c g2 h2 [.sl 28 1 agA aV,.bx pN [(.string cu.aB),(.string cu.aC),(vi cu.fArgs),(vi cu.ay),(vi cu.az),mD,mE]]→ah ((rL (rI .i64) 1) g2) aV aP→da (.bool ag) (vi aD) h2) (H:fY c R r):Kb w0 E R (vi aZ) da (.bool fk) h:=by
 unfold Kb
 unfold Ib at M
 refine lZ.2 ?_
 exact iS M eV S asT
theorem agC {w0:World}{c:Cx}{g h:AH}{E R:Value→W}{r:(List (List Int))}{N:Nat}{v5:List (List Int)}{aZ:Int}{bU:Bool}{su:List Int}{cu:ak}{aX:Value}{bh:List (List Value)}{DC:Value}{agD:List (List Value)}{pN:Nat}{mD mE:Value}{da:Value→Value→W}{cB:Bool→Int→(List (List Int))→Option ((List (List Int)))}{fh:AH}(M:Dy N v5 aZ bU su cu cB=some r) (S:Sep c g h [.sl 28 1 aX bh,.sl 3 1 DC agD,.bx pN [(.string cu.aB),(.string cu.aC),(vi cu.fArgs),(vi cu.ay),(vi cu.az),mD,mE]]) (bt:ah ((rL (rI .i64) 1) g) bh v5) (agE:ah ((rI .i64) g) agD su) (qE:ab aq.rep 4 g mD cu.ae) (qF:ab aK.rep 3 g mE cu.aM) (eV:Sub fh g) (iS:∀{ag:Bool}{aD:Int}{aP:List (List Int)}{aV:List (List Value)}{g2 h2:AH},cB ag aD aP=some r→Sub fh g2→Sep c g2 h2 [.sl 28 1 aX aV,.bx pN [(.string cu.aB),(.string cu.aC),(vi cu.fArgs),(vi cu.ay),(vi cu.az),mD,mE]]→ah ((rL (rI .i64) 1) g2) aV aP→da (.bool ag) (vi aD) h2) (H:fY c R r):Kc w0 E R aX (vi aZ) da (.bool bU) DC h:=by
 unfold Kc
 unfold Dy at M
 refine S.xe 1 rfl agE ?_
 obtain⟨agb,asU,M⟩:=bind_some M
 refine S.dZ 0 rfl bt asU (fun axz axA vs asV asW rp=> ?_)
 obtain⟨axB,rfl,XC⟩:=rp
 refine S.fG (j:=0) 0 rfl asV asW rfl ?_
 refine XC.len ?_
 refine oy.2 ?_
 refine bw (fun hc=> ?_) (fun hc=> ?_)
 · have M:=aQ hc M
   obtain⟨asd,asX,M⟩:=bind_some M
   refine S.dZ 0 rfl bt asX (fun axC axD vs asY asZ rp=> ?_)
   obtain⟨axE,rfl,axF⟩:=rp
   have S:=S.f1
   obtain⟨g,sg,S,XD⟩:=S.fz agE (du .i64)
   have XC:=ab.mono XC (du .i64) sg
   have bt:=ah.mono bt (fun _ _ hh=>(pE (du .i64)) _ _ _ _ sg hh)
   have qE:=ab.mono qE aq.mono sg
   have qF:=ab.mono qF aK.mono sg
   have eV:=Sub.trans eV sg
   refine S.rB (j:=0) [DC] asY asZ (oA XD.one) rfl (aa XD.one rfl) (by decide) (fun h S=> ?_)
   have as0:ah ((rL (rI .i64) 1) g) (bh.set aZ.toNat [DC]) (v5.set aZ.toNat su):=ah.set bt (show(rL (rI .i64) 1) g [DC] su from⟨_,rfl,XD⟩) aZ.toNat
   have S:Sep _ g h [.sl 28 1 aX (bh.set aZ.toNat [DC]),.bx pN [(.string cu.aB),(.string cu.aC),(vi cu.fArgs),(vi cu.ay),(vi cu.az),mD,mE]]:=S
   exact agz M S as0 qE qF eV iS H
 · have M:=aS hc M
   have S:=S.f2
   have S:=S.f1
   have S:=S.t2
   exact agz M S bt qE qF eV iS H
theorem as1 {w0:World}{c:Cx}{g h:AH}{E R:Value→W}{r:(List (List Int))}{N:Nat}{v5:List (List Int)}{gr aZ:Int}{bU:Bool}{kb:List Int}{gW:Int}{cu:ak}{aX:Value}{bh:List (List Value)}{tE:Value}{tG:List (List Value)}{pN:Nat}{mD mE:Value}{da:Value→Value→W}{cB:Bool→Int→(List (List Int))→Option ((List (List Int)))}{fh:AH}{oa:Value→Value→W}{oR:(List Int)→Int→(List (List Int))→Option ((List (List Int)))}{xR:AH}(M:AQ N v5 gr aZ bU kb gW cu cB oR=some r) (S:Sep c g h [.sl 28 1 aX bh,.sl 3 1 tE tG,.bx pN [(.string cu.aB),(.string cu.aC),(vi cu.fArgs),(vi cu.ay),(vi cu.az),mD,mE]]) (bt:ah ((rL (rI .i64) 1) g) bh v5) (Bd:ah ((rI .i64) g) tG kb) (qE:ab aq.rep 4 g mD cu.ae) (qF:ab aK.rep 3 g mE cu.aM) (eV:Sub fh g) (iS:∀{ag:Bool}{aD:Int}{aP:List (List Int)}{aV:List (List Value)}{g2 h2:AH},cB ag aD aP=some r→Sub fh g2→Sep c g2 h2 [.sl 28 1 aX aV,.bx pN [(.string cu.aB),(.string cu.aC),(vi cu.fArgs),(vi cu.ay),(vi cu.az),mD,mE]]→ah ((rL (rI .i64) 1) g2) aV aP→da (.bool ag) (vi aD) h2) (Bc:Sub xR g) (Iy:∀{ag:List Int}{bP:Value}{bQ:List (List Value)}{aD:Int}{aP:List (List Int)}{aV:List (List Value)}{g2 h2:AH},oR ag aD aP=some r→Sub xR g2→Sep c g2 h2 [.sl 28 1 aX aV,.sl 3 1 bP bQ,.bx pN [(.string cu.aB),(.string cu.aC),(vi cu.fArgs),(vi cu.ay),(vi cu.az),mD,mE]]→ah ((rI .i64) g2) bQ ag→ah ((rL (rI .i64) 1) g2) aV aP→oa bP (vi aD) h2) (H:fY c R r):Kd w0 E R aX (vi gr) (vi aZ) da (.bool bU) oa tE (vi gW) h:=by
 unfold Kd
 unfold AQ at M
 obtain⟨HO,Xg,M⟩:=bind_some M
 refine S.dZ 0 rfl bt Xg (fun arj ark vs as2 as3 rp=> ?_)
 obtain⟨axG,rfl,as4⟩:=rp
 refine S.fG (j:=0) 0 rfl as2 as3 rfl ?_
 refine as4.len ?_
 refine eF.2 ?_
 refine bw (fun hc=> ?_) (fun hc=> ?_)
 · have M:=aQ hc M
   exact asM M S bt Bd qE qF Bc Iy H
 · have M:=aS hc M
   exact agC M S bt Bd qE qF eV iS H
theorem as5 {w0:World}{c:Cx}{E R:Value→W}{r:(List (List Int))}{N:Nat}{gr aZ:Int}{bU:Bool}{cu:ak}{aX:Value}{pN:Nat}{mD mE:Value}{da:Value→Value→W}{cB:Bool→Int→(List (List Int))→Option ((List (List Int)))}{fh:AH}(iS:∀{ag:Bool}{aD:Int}{aP:List (List Int)}{aV:List (List Value)}{g2 h2:AH},cB ag aD aP=some r→Sub fh g2→Sep c g2 h2 [.sl 28 1 aX aV,.bx pN [(.string cu.aB),(.string cu.aC),(vi cu.fArgs),(vi cu.ay),(vi cu.az),mD,mE]]→ah ((rL (rI .i64) 1) g2) aV aP→da (.bool ag) (vi aD) h2) (H:fY c R r):∀(n:Nat){v5:List (List Int)}{kb:List Int}{gW:Int}{bh:List (List Value)}{tE:Value}{tG:List (List Value)}{g h:AH},Ic N gr aZ bU cu cB n v5 kb gW=some r→Sep c g h [.sl 28 1 aX bh,.sl 3 1 tE tG,.bx pN [(.string cu.aB),(.string cu.aC),(vi cu.fArgs),(vi cu.ay),(vi cu.az),mD,mE]]→ah ((rL (rI .i64) 1) g) bh v5→ah ((rI .i64) g) tG kb→ab aq.rep 4 g mD cu.ae→ab aK.rep 3 g mE cu.aM→Sub fh g→eS (α:=Value×Value) (fun k a=>Kd w0 E R aX (vi gr) (vi aZ) da (.bool bU) (fun b0 b1=>k (b0,b1)) a.1 a.2) n (tE,(vi gW)) h:=by
 intro n
 induction n with
 | zero =>
  intro v5 kb gW bh tE tG g h M S bt Bd qE qF eV
  unfold Ic at M;cases M
 | succ n ih =>
  intro v5 kb gW bh tE tG g h M S bt Bd qE qF eV
  exact as1 M S bt Bd qE qF eV iS (Sub.refl g) (fun M2 sub S2 mu mC=>ih M2 S2 mC mu (ab.mono qE aq.mono sub) (ab.mono qF aK.mono sub) (Sub.trans eV sub)) H
theorem agF {w0:World}{c:Cx}{g h:AH}{E R:Value→W}{r:(List (List Int))}{N:Nat}{v1:ak}{jy:Int}{v5:List (List Int)}{aZ:Int}{bU:Bool}{dk:List Int}{kA:Bool}{al:Nat}{av aw aX:Value}{bh:List (List Value)}{Iz:Value}{IA:List (List Value)}{da:Value→Value→W}{cB:Bool→Int→(List (List Int))→Option ((List (List Int)))}{fh:AH}(M:Ie N v1 jy v5 aZ bU dk kA cB=some r) (S:Sep c g h [.bx al [(.string v1.aB),(.string v1.aC),(vi v1.fArgs),(vi v1.ay),(vi v1.az),av,aw],.sl 28 1 aX bh,.sl 3 1 Iz IA]) (aG:ab aq.rep 4 g av v1.ae) (aJ:ab aK.rep 3 g aw v1.aM) (bt:ah ((rL (rI .i64) 1) g) bh v5) (IB:ah ((rI .i64) g) IA dk) (eV:Sub fh g) (iS:∀{ag:Bool}{aD:Int}{aP:List (List Int)}{aV:List (List Value)}{g2 h2:AH},cB ag aD aP=some r→Sub fh g2→Sep c g2 h2 [.sl 28 1 aX aV,.bx al [(.string v1.aB),(.string v1.aC),(vi v1.fArgs),(vi v1.ay),(vi v1.az),av,aw]]→ah ((rL (rI .i64) 1) g2) aV aP→da (.bool ag) (vi aD) h2) (H:fY c R r):Rn w0 E R (au al 0) (vi jy) aX (vi aZ) da (.bool bU) Iz (.bool kA) h:=by
 unfold Rn
 unfold Ie at M
 refine bw (fun hc=> ?_) (fun hc=> ?_)
 · have M:=aQ hc M
   refine bC.2 ?_
   refine S.bz 0 rfl rfl ?_
   obtain⟨Dq,Xe,M⟩:=bind_some M
   refine ab.idx aJ Xe (fun arf arh vs ari Xf rp=> ?_)
   cases rp
   refine bC.2 ?_
   refine S.eH (Xf 2 _ rfl) ?_
   have S:=S.f2
   have S:=S.f2
   exact⟨N,as5 iS H _ M S bt IB aG aJ eV⟩
 · have M:=aS hc M
   have S:=S.f2
   have S:=S.f2
   exact agC M S bt IB aG aJ eV iS H
theorem as6 {w0:World}{c:Cx}{g h:AH}{E R:Value→W}{r:(List (List Int))}{N:Nat}{v1:ak}{aZ:Int}{v5:List (List Int)}{bU:Bool}{dk:List Int}{al:Nat}{av aw aX:Value}{bh:List (List Value)}{Iz:Value}{IA:List (List Value)}{da:Value→Value→W}{cB:Bool→Int→(List (List Int))→Option ((List (List Int)))}{fh:AH}(M:Dz N v1 aZ v5 bU dk cB=some r) (S:Sep c g h [.bx al [(.string v1.aB),(.string v1.aC),(vi v1.fArgs),(vi v1.ay),(vi v1.az),av,aw],.sl 28 1 aX bh,.sl 3 1 Iz IA]) (aG:ab aq.rep 4 g av v1.ae) (aJ:ab aK.rep 3 g aw v1.aM) (bt:ah ((rL (rI .i64) 1) g) bh v5) (IB:ah ((rI .i64) g) IA dk) (eV:Sub fh g) (iS:∀{ag:Bool}{aD:Int}{aP:List (List Int)}{aV:List (List Value)}{g2 h2:AH},cB ag aD aP=some r→Sub fh g2→Sep c g2 h2 [.sl 28 1 aX aV,.bx al [(.string v1.aB),(.string v1.aC),(vi v1.fArgs),(vi v1.ay),(vi v1.az),av,aw]]→ah ((rL (rI .i64) 1) g2) aV aP→da (.bool ag) (vi aD) h2) (H:fY c R r):Ro w0 E R (au al 0) (vi aZ) aX da (.bool bU) Iz h:=by
 unfold Ro
 unfold Dz at M
 refine S.dc [(.string v1.aB),(.string v1.aC),(vi v1.fArgs),(vi v1.ay),(vi v1.az),av,aw] 0 rfl rfl rfl (by decide) ?_
 obtain⟨vz,Xh,M⟩:=bind_some M
 refine afx Xh S.sub S.ok aG aJ (fun _ h  S1  => ?_)
 have S:=S.dB S1
 refine bC.2 ?_
 refine S.bz 0 rfl rfl ?_
 obtain⟨HQ,Xi,M⟩:=bind_some M
 refine ab.idx aG Xi (fun arp arq vs ars Xj rp=> ?_)
 cases rp
 refine S.mq Xj rfl (by decide) ?_
 obtain⟨AG,Xk,M⟩:=bind_some M
 refine afk Xk S.sub S.ok (fun _ h  S1  => ?_)
 have S:=S.dB S1
 cases hc:AG
 · have M:=aS hc M
   refine aA (by decide) ?_
   refine aA (by decide) ?_
   refine bf.2 ?_
   exact agF M S aG aJ bt IB eV iS H
 · have M:=aQ hc M
   refine ax rfl ?_
   refine ax rfl ?_
   refine pA.2 ?_
   refine bf.2 ?_
   exact agF M S aG aJ bt IB eV iS H
theorem as7 {w0:World}{c:Cx}{g h:AH}{E R:Value→W}{r:(List (List Int))}{N:Nat}{cH:List Int}{v5:List (List Int)}{v37:Int}{v1:ak}{aZ:Int}{bU:Bool}{ki:List Int}{dD:Int}{j3:Value}{j4:List (List Value)}{aX:Value}{bh:List (List Value)}{al:Nat}{av aw tC:Value}{tD:List (List Value)}{da:Value→Value→W}{cB:Bool→Int→(List (List Int))→Option ((List (List Int)))}{fh:AH}{ke:Value→Value→W}{jv:(List Int)→Int→(List (List Int))→Option ((List (List Int)))}{oS:AH}(M:AR N cH v5 v37 v1 aZ bU ki dD cB jv=some r) (S:Sep c g h [.sl 3 1 j3 j4,.sl 28 1 aX bh,.bx al [(.string v1.aB),(.string v1.aC),(vi v1.fArgs),(vi v1.ay),(vi v1.az),av,aw],.sl 3 1 tC tD]) (j5:ah ((rI .i64) g) j4 cH) (bt:ah ((rL (rI .i64) 1) g) bh v5) (aG:ab aq.rep 4 g av v1.ae) (aJ:ab aK.rep 3 g aw v1.aM) (A9:ah ((rI .i64) g) tD ki) (eV:Sub fh g) (iS:∀{ag:Bool}{aD:Int}{aP:List (List Int)}{aV:List (List Value)}{g2 h2:AH},cB ag aD aP=some r→Sub fh g2→Sep c g2 h2 [.sl 28 1 aX aV,.bx al [(.string v1.aB),(.string v1.aC),(vi v1.fArgs),(vi v1.ay),(vi v1.az),av,aw]]→ah ((rL (rI .i64) 1) g2) aV aP→da (.bool ag) (vi aD) h2) (rR:Sub oS g) (vF:∀{ag:List Int}{bP:Value}{bQ:List (List Value)}{aD:Int}{bo:List (List Int)}{bR:List (List Value)}{g2 h2:AH},jv ag aD bo=some r→Sub oS g2→Sep c g2 h2 [.sl 3 1 j3 j4,.sl 28 1 aX bR,.bx al [(.string v1.aB),(.string v1.aC),(vi v1.fArgs),(vi v1.ay),(vi v1.az),av,aw],.sl 3 1 bP bQ]→ah ((rI .i64) g2) bQ ag→ah ((rL (rI .i64) 1) g2) bR bo→ke bP (vi aD) h2) (H:fY c R r):Kg w0 E R j3 aX (vi v37) (au al 0) (vi aZ) da (.bool bU) ke tC (vi dD) h:=by
 unfold Kg
 unfold AR at M
 refine S.xe 0 rfl j5 ?_
 refine eF.2 ?_
 refine bw (fun hc=> ?_) (fun hc=> ?_)
 · have M:=aQ hc M
   have S:=S.f2
   have S:=S.f3
   have S:=S.f3
   have S:=S.f3
   exact asI M S j5 bt A9 aG aJ rR vF H
 · have M:=aS hc M
   have S:=S.f3
   have S:=S.f2
   have S:=S.f3
   have S:=S.t3
   exact as6 M S aG aJ bt A9 eV iS H
theorem as8 {w0:World}{c:Cx}{E R:Value→W}{r:(List (List Int))}{N:Nat}{cH:List Int}{v37:Int}{v1:ak}{aZ:Int}{bU:Bool}{j3:Value}{j4:List (List Value)}{aX:Value}{al:Nat}{av aw:Value}{da:Value→Value→W}{cB:Bool→Int→(List (List Int))→Option ((List (List Int)))}{fh:AH}(iS:∀{ag:Bool}{aD:Int}{aP:List (List Int)}{aV:List (List Value)}{g2 h2:AH},cB ag aD aP=some r→Sub fh g2→Sep c g2 h2 [.sl 28 1 aX aV,.bx al [(.string v1.aB),(.string v1.aC),(vi v1.fArgs),(vi v1.ay),(vi v1.az),av,aw]]→ah ((rL (rI .i64) 1) g2) aV aP→da (.bool ag) (vi aD) h2) (H:fY c R r):∀(n:Nat){v5:List (List Int)}{ki:List Int}{dD:Int}{bh:List (List Value)}{tC:Value}{tD:List (List Value)}{g h:AH},AS N cH v37 v1 aZ bU cB n v5 ki dD=some r→Sep c g h [.sl 3 1 j3 j4,.sl 28 1 aX bh,.bx al [(.string v1.aB),(.string v1.aC),(vi v1.fArgs),(vi v1.ay),(vi v1.az),av,aw],.sl 3 1 tC tD]→ah ((rI .i64) g) j4 cH→ah ((rL (rI .i64) 1) g) bh v5→ab aq.rep 4 g av v1.ae→ab aK.rep 3 g aw v1.aM→ah ((rI .i64) g) tD ki→Sub fh g→eS (α:=Value×Value) (fun k a=>Kg w0 E R j3 aX (vi v37) (au al 0) (vi aZ) da (.bool bU) (fun b0 b1=>k (b0,b1)) a.1 a.2) n (tC,(vi dD)) h:=by
 intro n
 induction n with
 | zero =>
  intro v5 ki dD bh tC tD g h M S j5 bt aG aJ A9 eV
  unfold AS at M;cases M
 | succ n ih =>
  intro v5 ki dD bh tC tD g h M S j5 bt aG aJ A9 eV
  exact as7 M S j5 bt aG aJ A9 eV iS (Sub.refl g) (fun M2 sub S2 mu pM=>ih M2 S2 (ah.mono j5 (fun _ _ hh=>(du .i64) _ _ _ _ sub hh)) pM (ab.mono aG aq.mono sub) (ab.mono aJ aK.mono sub) mu (Sub.trans eV sub)) H
theorem as9 {w0:World}{c:Cx}{g h:AH}{E R:Value→W}{r:(List (List Int))}{N:Nat}{v1:ak}{aZ:Int}{v5:List (List Int)}{bU:Bool}{o4:List Int}{al:Nat}{av aw aX:Value}{bh:List (List Value)}{agG:Value}{agH:List (List Value)}{da:Value→Value→W}{cB:Bool→Int→(List (List Int))→Option ((List (List Int)))}{fh:AH}(M:DA N v1 aZ v5 bU o4 cB=some r) (S:Sep c g h [.bx al [(.string v1.aB),(.string v1.aC),(vi v1.fArgs),(vi v1.ay),(vi v1.az),av,aw],.sl 28 1 aX bh,.sl 3 1 agG agH]) (aG:ab aq.rep 4 g av v1.ae) (aJ:ab aK.rep 3 g aw v1.aM) (bt:ah ((rL (rI .i64) 1) g) bh v5) (XE:ah ((rI .i64) g) agH o4) (eV:Sub fh g) (iS:∀{ag:Bool}{aD:Int}{aP:List (List Int)}{aV:List (List Value)}{g2 h2:AH},cB ag aD aP=some r→Sub fh g2→Sep c g2 h2 [.sl 28 1 aX aV,.bx al [(.string v1.aB),(.string v1.aC),(vi v1.fArgs),(vi v1.ay),(vi v1.az),av,aw]]→ah ((rL (rI .i64) 1) g2) aV aP→da (.bool ag) (vi aD) h2) (H:fY c R r):Rs w0 E R (au al 0) (vi aZ) aX da (.bool bU) agG h:=by
 unfold Rs
 unfold DA at M
 refine bC.2 ?_
 refine S.bz 0 rfl rfl ?_
 obtain⟨agc,ata,M⟩:=bind_some M
 refine ab.idx aG ata (fun axH axI vs axJ XF rp=> ?_)
 cases rp
 refine S.mq XF rfl (by decide) ?_
 obtain⟨tu,XG,M⟩:=bind_some M
 refine ap5 XG S.sub S.ok (fun _ h  S1  => ?_)
 have S:=S.dB S1
 refine S.dc [(.string v1.aB),(.string v1.aC),(vi v1.fArgs),(vi v1.ay),(vi v1.az),av,aw] 0 rfl rfl rfl (by decide) ?_
 obtain⟨agd,atb,M⟩:=bind_some M
 refine aft atb S.sub S.ok aG aJ (fun g h axK axL S1 atc=> ?_)
 have aG:=ab.mono aG aq.mono S1.bF
 have XF:=S1.bF.bE XF
 have aJ:=ab.mono aJ aK.mono S1.bF
 have bt:=ah.mono bt (fun _ _ hh=>(pE (du .i64)) _ _ _ _ S1.bF hh)
 have XE:=ah.mono XE (fun _ _ hh=>(du .i64) _ _ _ _ S1.bF hh)
 have eV:=Sub.trans eV S1.bF
 have S:=S.VF S1
 have S:=S.f3
 have S:=S.f2
 have S:=S.f3
 have S:=S.f3
 exact⟨N,as8 iS H _ M S atc bt aG aJ XE eV⟩
theorem atd {w0:World}{c:Cx}{g h:AH}{E R:Value→W}{r:(List (List Int))}{N:Nat}{v31:List Int}{v1:ak}{aZ:Int}{v5:List (List Int)}{bU:Bool}{kj:List Int}{gX:Int}{xM:Value}{al:Nat}{av aw aX:Value}{bh:List (List Value)}{tw:Value}{tx:List (List Value)}{da:Value→Value→W}{cB:Bool→Int→(List (List Int))→Option ((List (List Int)))}{fh:AH}{oc:Value→Value→W}{oQ:(List Int)→Int→(List (List Int))→Option ((List (List Int)))}{xL:AH}(M:AT N v31 v1 aZ v5 bU kj gX cB oQ=some r) (S:Sep c g h [.bx al [(.string v1.aB),(.string v1.aC),(vi v1.fArgs),(vi v1.ay),(vi v1.az),av,aw],.sl 28 1 aX bh,.sl 3 1 tw tx]) (tz:ab (rI .i64) 1 g xM v31) (aG:ab aq.rep 4 g av v1.ae) (aJ:ab aK.rep 3 g aw v1.aM) (bt:ah ((rL (rI .i64) 1) g) bh v5) (AZ:ah ((rI .i64) g) tx kj) (eV:Sub fh g) (iS:∀{ag:Bool}{aD:Int}{aP:List (List Int)}{aV:List (List Value)}{g2 h2:AH},cB ag aD aP=some r→Sub fh g2→Sep c g2 h2 [.sl 28 1 aX aV,.bx al [(.string v1.aB),(.string v1.aC),(vi v1.fArgs),(vi v1.ay),(vi v1.az),av,aw]]→ah ((rL (rI .i64) 1) g2) aV aP→da (.bool ag) (vi aD) h2) (AY:Sub xL g) (Is:∀{ag:List Int}{bP:Value}{bQ:List (List Value)}{aD:Int}{bo:List (List Int)}{bR:List (List Value)}{g2 h2:AH},oQ ag aD bo=some r→Sub xL g2→Sep c g2 h2 [.bx al [(.string v1.aB),(.string v1.aC),(vi v1.fArgs),(vi v1.ay),(vi v1.az),av,aw],.sl 28 1 aX bR,.sl 3 1 bP bQ]→ah ((rI .i64) g2) bQ ag→ah ((rL (rI .i64) 1) g2) bR bo→oc bP (vi aD) h2) (H:fY c R r):Kh w0 E R xM (au al 0) (vi aZ) aX da (.bool bU) oc tw (vi gX) h:=by
 unfold Kh
 unfold AT at M
 refine tz.len ?_
 refine eF.2 ?_
 refine bw (fun hc=> ?_) (fun hc=> ?_)
 · have M:=aQ hc M
   have S:=S.f1
   have S:=S.f1
   have S:=S.f2
   exact asi M S tz AZ aG aJ bt AY Is H
 · have M:=aS hc M
   exact as9 M S aG aJ bt AZ eV iS H
theorem ate {w0:World}{c:Cx}{E R:Value→W}{r:(List (List Int))}{N:Nat}{v31:List Int}{v1:ak}{aZ:Int}{bU:Bool}{xM:Value}{al:Nat}{av aw aX:Value}{da:Value→Value→W}{cB:Bool→Int→(List (List Int))→Option ((List (List Int)))}{fh:AH}(iS:∀{ag:Bool}{aD:Int}{aP:List (List Int)}{aV:List (List Value)}{g2 h2:AH},cB ag aD aP=some r→Sub fh g2→Sep c g2 h2 [.sl 28 1 aX aV,.bx al [(.string v1.aB),(.string v1.aC),(vi v1.fArgs),(vi v1.ay),(vi v1.az),av,aw]]→ah ((rL (rI .i64) 1) g2) aV aP→da (.bool ag) (vi aD) h2) (H:fY c R r):∀(n:Nat){v5:List (List Int)}{kj:List Int}{gX:Int}{bh:List (List Value)}{tw:Value}{tx:List (List Value)}{g h:AH},Ig N v31 v1 aZ bU cB n v5 kj gX=some r→Sep c g h [.bx al [(.string v1.aB),(.string v1.aC),(vi v1.fArgs),(vi v1.ay),(vi v1.az),av,aw],.sl 28 1 aX bh,.sl 3 1 tw tx]→ab (rI .i64) 1 g xM v31→ab aq.rep 4 g av v1.ae→ab aK.rep 3 g aw v1.aM→ah ((rL (rI .i64) 1) g) bh v5→ah ((rI .i64) g) tx kj→Sub fh g→eS (α:=Value×Value) (fun k a=>Kh w0 E R xM (au al 0) (vi aZ) aX da (.bool bU) (fun b0 b1=>k (b0,b1)) a.1 a.2) n (tw,(vi gX)) h:=by
 intro n
 induction n with
 | zero =>
  intro v5 kj gX bh tw tx g h M S tz aG aJ bt AZ eV
  unfold Ig at M;cases M
 | succ n ih =>
  intro v5 kj gX bh tw tx g h M S tz aG aJ bt AZ eV
  exact atd M S tz aG aJ bt AZ eV iS (Sub.refl g) (fun M2 sub S2 mu pM=>ih M2 S2 (ab.mono tz (du .i64) sub) (ab.mono aG aq.mono sub) (ab.mono aJ aK.mono sub) pM mu (Sub.trans eV sub)) H
theorem atf {w0:World}{c:Cx}{g h:AH}{E R:Value→W}{r:(List (List Int))}{N:Nat}{v5:List (List Int)}{aZ:Int}{v1:ak}{bU:Bool}{aX:Value}{bh:List (List Value)}{al:Nat}{av aw:Value}{da:Value→Value→W}{cB:Bool→Int→(List (List Int))→Option ((List (List Int)))}{fh:AH}(M:Ih N v5 aZ v1 bU cB=some r) (S:Sep c g h [.sl 28 1 aX bh,.bx al [(.string v1.aB),(.string v1.aC),(vi v1.fArgs),(vi v1.ay),(vi v1.az),av,aw]]) (bt:ah ((rL (rI .i64) 1) g) bh v5) (aG:ab aq.rep 4 g av v1.ae) (aJ:ab aK.rep 3 g aw v1.aM) (eV:Sub fh g) (iS:∀{ag:Bool}{aD:Int}{aP:List (List Int)}{aV:List (List Value)}{g2 h2:AH},cB ag aD aP=some r→Sub fh g2→Sep c g2 h2 [.sl 28 1 aX aV,.bx al [(.string v1.aB),(.string v1.aC),(vi v1.fArgs),(vi v1.ay),(vi v1.az),av,aw]]→ah ((rL (rI .i64) 1) g2) aV aP→da (.bool ag) (vi aD) h2) (H:fY c R r):Rw w0 E R aX (vi aZ) (au al 0) da (.bool bU) h:=by
 unfold Rw
 unfold Ih at M
 refine S.qy (sz:=1) ([]:List (List Value)) rfl rfl (by decide) qA rfl (fun v_7 h S=> ?_)
 have rP:ah ((rI .i64) g) ([]:List (List Value)) ([]:List Int):=ah.nil
 obtain⟨eb,mr,M⟩:=bind_some M
 refine S.dZ 1 rfl bt mr (fun af0 af1 vs aeL atg rp=> ?_)
 obtain⟨ath,rfl,IC⟩:=rp
 refine S.fG (j:=0) 1 rfl aeL atg rfl ?_
 obtain⟨ati,atj,HD⟩:=id IC
 obtain⟨Ho,M⟩:=mo M
 refine S.app (atj.mono S.sub) (by rw [rP.1,HD.1];exact Ho) (by decide) rfl (la (l3 .i64) HD) (la (l3 .i64) rP) (fun afa h S=> ?_)
 have Ar:ah ((rI .i64) g) (([]:List (List Value))++ati) (([]:List Int)++eb):=ah.append rP HD
 refine bC.2 ?_
 refine S.bz 2 rfl rfl ?_
 obtain⟨nn,Ha,M⟩:=bind_some M
 refine ab.idx aG Ha (fun atk atl vs axM XH rp=> ?_)
 cases rp
 refine S.mq XH rfl (by decide) ?_
 obtain⟨age,atm,M⟩:=bind_some M
 refine ap3 atm S.sub S.ok (fun g h axN S1 atn=> ?_)
 have IC:=ab.mono IC (du .i64) S1.bF
 have aG:=ab.mono aG aq.mono S1.bF
 have XH:=S1.bF.bE XH
 have Ar:=ah.mono Ar (fun _ _ hh=>(du .i64) _ _ _ _ S1.bF hh)
 have bt:=ah.mono bt (fun _ _ hh=>(pE (du .i64)) _ _ _ _ S1.bF hh)
 have aJ:=ab.mono aJ aK.mono S1.bF
 have eV:=Sub.trans eV S1.bF
 have S:=S.pD S1
 have S:=S.f1
 have S:=S.f2
 exact⟨N,ate iS H _ M S atn aG aJ bt Ar eV⟩
theorem ato {w0:World}{c:Cx}{g h:AH}{E R:Value→W}{r:(List (List Int))}{N:Nat}{v5:List (List Int)}{v1:ak}{bU:Bool}{aZ:Int}{aX:Value}{bh:List (List Value)}{al:Nat}{av aw:Value}{fj:Value→W}{eQ:Bool→(List (List Int))→Option ((List (List Int)))}{j0:AH}{da:Value→Value→W}{cB:Bool→Int→(List (List Int))→Option ((List (List Int)))}{fh:AH}(M:AU N v5 v1 bU aZ eQ cB=some r) (S:Sep c g h [.sl 28 1 aX bh,.bx al [(.string v1.aB),(.string v1.aC),(vi v1.fArgs),(vi v1.ay),(vi v1.az),av,aw]]) (bt:ah ((rL (rI .i64) 1) g) bh v5) (aG:ab aq.rep 4 g av v1.ae) (aJ:ab aK.rep 3 g aw v1.aM) (lh:Sub j0 g) (nj:∀{ag:Bool}{aP:List (List Int)}{aV:List (List Value)}{g2 h2:AH},eQ ag aP=some r→Sub j0 g2→Sep c g2 h2 [.sl 28 1 aX aV,.bx al [(.string v1.aB),(.string v1.aC),(vi v1.fArgs),(vi v1.ay),(vi v1.az),av,aw]]→ah ((rL (rI .i64) 1) g2) aV aP→fj (.bool ag) h2) (eV:Sub fh g) (iS:∀{ag:Bool}{aD:Int}{aP:List (List Int)}{aV:List (List Value)}{g2 h2:AH},cB ag aD aP=some r→Sub fh g2→Sep c g2 h2 [.sl 28 1 aX aV,.bx al [(.string v1.aB),(.string v1.aC),(vi v1.fArgs),(vi v1.ay),(vi v1.az),av,aw]]→ah ((rL (rI .i64) 1) g2) aV aP→da (.bool ag) (vi aD) h2) (H:fY c R r):Ki w0 E R aX (au al 0) fj da (.bool bU) (vi aZ) h:=by
 unfold Ki
 unfold AU at M
 refine pA.2 ?_
 refine bw (fun hc=> ?_) (fun hc=> ?_)
 · have M:=aQ hc M
   exact atf M S bt aG aJ eV iS H
 · have M:=aS hc M
   exact nj M lh S bt
theorem atp {w0:World}{c:Cx}{E R:Value→W}{r:(List (List Int))}{N:Nat}{v1:ak}{aX:Value}{al:Nat}{av aw:Value}{fj:Value→W}{eQ:Bool→(List (List Int))→Option ((List (List Int)))}{j0:AH}(nj:∀{ag:Bool}{aP:List (List Int)}{aV:List (List Value)}{g2 h2:AH},eQ ag aP=some r→Sub j0 g2→Sep c g2 h2 [.sl 28 1 aX aV,.bx al [(.string v1.aB),(.string v1.aC),(vi v1.fArgs),(vi v1.ay),(vi v1.az),av,aw]]→ah ((rL (rI .i64) 1) g2) aV aP→fj (.bool ag) h2) (H:fY c R r):∀(n:Nat){v5:List (List Int)}{bU:Bool}{aZ:Int}{bh:List (List Value)}{g h:AH},xJ N v1 eQ n v5 bU aZ=some r→Sep c g h [.sl 28 1 aX bh,.bx al [(.string v1.aB),(.string v1.aC),(vi v1.fArgs),(vi v1.ay),(vi v1.az),av,aw]]→ah ((rL (rI .i64) 1) g) bh v5→ab aq.rep 4 g av v1.ae→ab aK.rep 3 g aw v1.aM→Sub j0 g→eS (α:=Value×Value) (fun k a=>Ki w0 E R aX (au al 0) fj (fun b0 b1=>k (b0,b1)) a.1 a.2) n ((.bool bU),(vi aZ)) h:=by
 intro n
 induction n with
 | zero =>
  intro v5 bU aZ bh g h M S bt aG aJ lh
  unfold xJ at M;cases M
 | succ n ih =>
  intro v5 bU aZ bh g h M S bt aG aJ lh
  exact ato M S bt aG aJ lh nj (Sub.refl g) (fun M2 sub S2 mC=>ih M2 S2 mC (ab.mono aG aq.mono sub) (ab.mono aJ aK.mono sub) (Sub.trans lh sub)) H
theorem atq {w0:World}{c:Cx}{g h:AH}{E R:Value→W}{r:(List (List Int))}{N:Nat}{v4:Int}{v5:List (List Int)}{v1:ak}{aX:Value}{bh:List (List Value)}{al:Nat}{av aw:Value}{fj:Value→W}{eQ:Bool→(List (List Int))→Option ((List (List Int)))}{j0:AH}(M:Ii N v4 v5 v1 eQ=some r) (S:Sep c g h [.sl 28 1 aX bh,.bx al [(.string v1.aB),(.string v1.aC),(vi v1.fArgs),(vi v1.ay),(vi v1.az),av,aw]]) (bt:ah ((rL (rI .i64) 1) g) bh v5) (aG:ab aq.rep 4 g av v1.ae) (aJ:ab aK.rep 3 g aw v1.aM) (lh:Sub j0 g) (nj:∀{ag:Bool}{aP:List (List Int)}{aV:List (List Value)}{g2 h2:AH},eQ ag aP=some r→Sub j0 g2→Sep c g2 h2 [.sl 28 1 aX aV,.bx al [(.string v1.aB),(.string v1.aC),(vi v1.fArgs),(vi v1.ay),(vi v1.az),av,aw]]→ah ((rL (rI .i64) 1) g2) aV aP→fj (.bool ag) h2) (H:fY c R r):Rx w0 E R (vi v4) aX (au al 0) fj h:=by
 unfold Rx
 unfold Ii at M
 refine lZ.2 ?_
 exact⟨N,atp nj H _ M S bt aG aJ lh⟩
theorem atr {w0:World}{c:Cx}{g h:AH}{E R:Value→W}{r:(List (List Int))}{N:Nat}{y7:Int}{vB:List (List Int)}{H7:Value}{H8:List (List Value)}{k6:Value→W}{fX:Int→(List (List Int))→Option ((List (List Int)))}{ln:AH}(M:NV N y7 vB fX=some r) (S:Sep c g h [.sl 28 1 H7 H8]) (Xn:ah ((rL (rI .i64) 1) g) H8 vB) (nq:Sub ln g) (oP:∀{ag:Int}{aP:List (List Int)}{aV:List (List Value)}{g2 h2:AH},fX ag aP=some r→Sub ln g2→Sep c g2 h2 [.sl 28 1 H7 aV]→ah ((rL (rI .i64) 1) g2) aV aP→k6 (vi ag) h2) (H:fY c R r):Ri w0 E R (vi y7) k6 h:=by
 unfold Ri
 unfold NV at M
 refine fF.2 ?_
 exact oP M nq S Xn
theorem att {w0:World}{c:Cx}{g h:AH}{E R:Value→W}{r:(List (List Int))}{N:Nat}{v5:List (List Int)}{y7:Int}{aX:Value}{bh:List (List Value)}{k6:Value→W}{fX:Int→(List (List Int))→Option ((List (List Int)))}{ln:AH}(M:NW N v5 y7 fX=some r) (S:Sep c g h [.sl 28 1 aX bh]) (bt:ah ((rL (rI .i64) 1) g) bh v5) (nq:Sub ln g) (oP:∀{ag:Int}{aP:List (List Int)}{aV:List (List Value)}{g2 h2:AH},fX ag aP=some r→Sub ln g2→Sep c g2 h2 [.sl 28 1 aX aV]→ah ((rL (rI .i64) 1) g2) aV aP→k6 (vi ag) h2) (H:fY c R r):Rj w0 E R aX (vi y7) k6 h:=by
 unfold Rj
 unfold NW at M
 obtain⟨agf,atu,M⟩:=bind_some M
 refine S.dZ 0 rfl bt atu (fun axO axP vs atv atw rp=> ?_)
 obtain⟨axQ,rfl,XI⟩:=rp
 refine S.fG (j:=0) 0 rfl atv atw rfl ?_
 obtain⟨NX,atx,M⟩:=bind_some M
 refine asa atx S.sub S.ok XI (fun g h N6 S1 XJ=> ?_)
 have XI:=ab.mono XI (du .i64) S1.bF
 have bt:=ah.mono bt (fun _ _ hh=>(pE (du .i64)) _ _ _ _ S1.bF hh)
 have nq:=Sub.trans nq S1.bF
 have S:=S.pD S1
 obtain⟨ase,aty,M⟩:=bind_some M
 refine S.dZ 0 rfl bt aty (fun axR axS vs atz atA rp=> ?_)
 obtain⟨axT,rfl,axU⟩:=rp
 refine S.rB (j:=0) [N6] atz atA (oA XJ.one) rfl (aa XJ.one rfl) (by decide) (fun h S=> ?_)
 have atB:ah ((rL (rI .i64) 1) g) (bh.set y7.toNat [N6]) (v5.set y7.toNat NX):=ah.set bt (show(rL (rI .i64) 1) g [N6] NX from⟨_,rfl,XJ⟩) y7.toNat
 have S:Sep _ g h [.sl 28 1 aX (bh.set y7.toNat [N6])]:=S
 exact atr M S atB nq oP H
theorem atC {w0:World}{c:Cx}{g h:AH}{E R:Value→W}{r:(List (List Int))}{N:Nat}{v5:List (List Int)}{aX:Value}{bh:List (List Value)}  (M:NY N v5=some r) (S:Sep c g h [.sl 28 1 aX bh]) (bt:ah ((rL (rI .i64) 1) g) bh v5)  (H:fY c R r):Rh w0 E R aX h:=by
 unfold Rh
 unfold NY at M
 obtain⟨g,sg,S,atD⟩:=S.fz bt (pE (du .i64))
 cases M
 exact H _ _ aX S.bH atD
theorem atE {w0:World}{c:Cx}{g h:AH}{E R:Value→W}{r:(List (List Int))}{N:Nat}{v4:Int}{v5:List (List Int)}{y7:Int}{aX:Value}{bh:List (List Value)}{k6:Value→W}{fX:Int→(List (List Int))→Option ((List (List Int)))}{ln:AH}(M:Ij N v4 v5 y7 fX=some r) (S:Sep c g h [.sl 28 1 aX bh]) (bt:ah ((rL (rI .i64) 1) g) bh v5) (nq:Sub ln g) (oP:∀{ag:Int}{aP:List (List Int)}{aV:List (List Value)}{g2 h2:AH},fX ag aP=some r→Sub ln g2→Sep c g2 h2 [.sl 28 1 aX aV]→ah ((rL (rI .i64) 1) g2) aV aP→k6 (vi ag) h2) (H:fY c R r):Ka w0 E R (vi v4) aX k6 (vi y7) h:=by
 unfold Ka
 unfold Ij at M
 refine eF.2 ?_
 refine bw (fun hc=> ?_) (fun hc=> ?_)
 · have M:=aQ hc M
   exact att M S bt nq oP H
 · have M:=aS hc M
   exact atC M S bt H
theorem atF {w0:World}{c:Cx}{E R:Value→W}{r:(List (List Int))}{N:Nat}{v4:Int}{aX:Value}   (H:fY c R r):∀(n:Nat){v5:List (List Int)}{y7:Int}{bh:List (List Value)}{g h:AH},Il N v4 n v5 y7=some r→Sep c g h [.sl 28 1 aX bh]→ah ((rL (rI .i64) 1) g) bh v5→eS (α:=Value) (fun k a=>Ka w0 E R (vi v4) aX k a) n (vi y7) h:=by
 intro n
 induction n with
 | zero =>
  intro v5 y7 bh g h M S bt
  unfold Il at M;cases M
 | succ n ih =>
  intro v5 y7 bh g h M S bt
  exact atE M S bt  (Sub.refl g) (fun M2 sub S2 mC=>ih M2 S2 mC) H
theorem atG {w0:World}{c:Cx}{g h:AH}{E R:Value→W}{r:(List (List Int))}{N:Nat}{v4:Int}{v5:List (List Int)}{aX:Value}{bh:List (List Value)}  (M:Im N v4 v5=some r) (S:Sep c g h [.sl 28 1 aX bh]) (bt:ah ((rL (rI .i64) 1) g) bh v5)  (H:fY c R r):Rk w0 E R (vi v4) aX h:=by
 unfold Rk
 unfold Im at M
 exact⟨N,atF  H _ M S bt⟩
theorem atH {w0:World}{c:Cx}{g h:AH}{E R:Value→W}{r:(List (List Int))}{N:Nat}{v4:Int}{v5:List (List Int)}{v1:ak}{aL:Bool}{aX:Value}{bh:List (List Value)}{al:Nat}{av aw:Value}{fj:Value→W}{eQ:Bool→(List (List Int))→Option ((List (List Int)))}{j0:AH}(M:Xs N v4 v5 v1 aL eQ=some r) (S:Sep c g h [.sl 28 1 aX bh,.bx al [(.string v1.aB),(.string v1.aC),(vi v1.fArgs),(vi v1.ay),(vi v1.az),av,aw]]) (bt:ah ((rL (rI .i64) 1) g) bh v5) (aG:ab aq.rep 4 g av v1.ae) (aJ:ab aK.rep 3 g aw v1.aM) (lh:Sub j0 g) (nj:∀{ag:Bool}{aP:List (List Int)}{aV:List (List Value)}{g2 h2:AH},eQ ag aP=some r→Sub j0 g2→Sep c g2 h2 [.sl 28 1 aX aV,.bx al [(.string v1.aB),(.string v1.aC),(vi v1.fArgs),(vi v1.ay),(vi v1.az),av,aw]]→ah ((rL (rI .i64) 1) g2) aV aP→fj (.bool ag) h2) (H:fY c R r):Kj w0 E R (vi v4) aX (au al 0) fj (.bool aL) h:=by
 unfold Kj
 unfold Xs at M
 refine bw (fun hc=> ?_) (fun hc=> ?_)
 · have M:=aQ hc M
   exact atq M S bt aG aJ lh nj H
 · have M:=aS hc M
   have S:=S.t1
   exact atG M S bt H
theorem atI {w0:World}{c:Cx}{E R:Value→W}{r:(List (List Int))}{N:Nat}{v4:Int}{v1:ak}{aX:Value}{al:Nat}{av aw:Value}   (H:fY c R r):∀(n:Nat){v5:List (List Int)}{aL:Bool}{bh:List (List Value)}{g h:AH},xK N v4 v1 n v5 aL=some r→Sep c g h [.sl 28 1 aX bh,.bx al [(.string v1.aB),(.string v1.aC),(vi v1.fArgs),(vi v1.ay),(vi v1.az),av,aw]]→ah ((rL (rI .i64) 1) g) bh v5→ab aq.rep 4 g av v1.ae→ab aK.rep 3 g aw v1.aM→eS (α:=Value) (fun k a=>Kj w0 E R (vi v4) aX (au al 0) k a) n (.bool aL) h:=by
 intro n
 induction n with
 | zero =>
  intro v5 aL bh g h M S bt aG aJ
  unfold xK at M;cases M
 | succ n ih =>
  intro v5 aL bh g h M S bt aG aJ
  exact atH M S bt aG aJ  (Sub.refl g) (fun M2 sub S2 mC=>ih M2 S2 mC (ab.mono aG aq.mono sub) (ab.mono aJ aK.mono sub)) H
theorem atJ {w0:World}{c:Cx}{g h:AH}{E R:Value→W}{r:(List (List Int))}{N:Nat}{v1:ak}{al:Nat}{av aw:Value}  (M:NZ N v1=some r) (S:Sep c g h [.bx al [(.string v1.aB),(.string v1.aC),(vi v1.fArgs),(vi v1.ay),(vi v1.az),av,aw]]) (aG:ab aq.rep 4 g av v1.ae) (aJ:ab aK.rep 3 g aw v1.aM)  (H:fY c R r):Ry w0 E R (au al 0) h:=by
 unfold Ry
 unfold NZ at M
 refine bC.2 ?_
 refine S.bz 0 rfl rfl ?_
 refine aG.len ?_
 obtain⟨XK,M⟩:=mo M
 refine S.VM XK rfl (aa rfl rfl) (fun XL h S=> ?_)
 have ID:ah ((rL (rI .i64) 1) g) (List.replicate (v1.ae.length:Int).toNat [cg]) (List.replicate (v1.ae.length:Int).toNat ([]:List Int)):=ah.MU (show(rL (rI .i64) 1) g [cg] ([]:List Int)from⟨_,rfl,ab.nil⟩) _
 exact⟨N,atI  H _ M S ID aG aJ⟩
theorem aoc {w0:World}{g h:AH}{Q:CR→AH→Prop}{r:(List (List Int))}{N:Nat}{x0:ak}{cU cV:Value}(M:zP N x0=some r) (sg:Sub g h) (ok:h.Ok) (cv:ab aq.rep 4 g cU x0.ae) (cZ:ab aK.rep 3 g cV x0.aM) (H:fY ⟨g,h,[]⟩ (fun v=>Q (.ret v)) r):WF PP w0 Rz [(.agg ⟨[(.string x0.aB),(.string x0.aC),(vi x0.fArgs),(vi x0.ay),(vi x0.az),cU,cV]⟩)] h Q:=by
 refine ai0 _ ?_
 have S:=Sep.start sg ok
 unfold ZT
 unfold zP at M
 refine S.box [(.string x0.aB),(.string x0.aC),(vi x0.fArgs),(vi x0.ay),(vi x0.az),cU,cV] rfl (aa rfl (aa rfl (aa rfl (aa rfl (aa rfl (aa cv.one (aa cZ.one rfl))))))) (fun jl h S=> ?_)
 refine S.dc [(.string x0.aB),(.string x0.aC),(vi x0.fArgs),(vi x0.ay),(vi x0.az),cU,cV] 0 rfl rfl rfl (by decide) ?_
 obtain⟨aR,jc,M⟩:=bind_some M
 refine ae2 jc S.sub S.ok cv cZ (fun _ h  S1  => ?_)
 have S:=S.dB S1
 refine gN.2 ?_
 refine bw (fun hc=> ?_) (fun hc=> ?_)
 · have M:=aQ hc M
   cases M
   exact H _ _ cg S.bH ab.nil
 · have M:=aS hc M
   exact atJ M S cv cZ H
def N7 (N:Nat) (y2:Int) (iF:Int→Option Bool):Option Bool :=
 iF (bD .i64 (y2+1))
def N8 (N:Nat) (x0:List (List Int)) (y2:Int) (x1:List (List Int)) (iF:Int→Option Bool):Option Bool :=
(ix x0 y2).bind fun gG =>
(ix x1 y2).bind fun eb =>
(CM N gG eb).bind fun gO =>
 bif (!gO)then(
 some false)else(
 N7 N y2 iF)
def XM (N:Nat)   :Option Bool :=
 some true
def Be (N:Nat) (x0:List (List Int)) (x1:List (List Int)) (y2:Int) (iF:Int→Option Bool):Option Bool :=
 bif (decide (y2<(x0.length:Int)))then(
 N8 N x0 y2 x1 iF)else(
 XM N)
def IE (N:Nat) (x0:List (List Int)) (x1:List (List Int))  :Nat→Int→Option Bool
 | 0,_=>none
 | n+1,y2=>Be N x0 x1 y2  (fun ag=>IE N x0 x1 n ag)
def N9 (N:Nat) (x0:List (List Int)) (x1:List (List Int))  :Option Bool :=
 IE N x0 x1 N 0
def CN (N:Nat) (x0:List (List Int)) (x1:List (List Int)):Option Bool :=
 bif (!decide ((x0.length:Int)=(x1.length:Int)))then(
 some false)else(
 N9 N x0 x1)
abbrev Bf (c:Cx) (R:Value→W) (r:Bool):Prop:=∀(g' h':AH),Sep c g' h' []→R (.bool r) h'
theorem atK {w0:World}{c:Cx}{g h:AH}{E R:Value→W}{r:Bool}{N:Nat}{y2:Int}{k1:Value→W}{iF:Int→Option Bool}{mz:AH}(M:N7 N y2 iF=some r) (S:Sep c g h [])  (rM:Sub mz g) (rN:∀{ag:Int}{g2 h2:AH},iF ag=some r→Sub mz g2→Sep c g2 h2 []→k1 (vi ag) h2) (H:Bf c R r):PV w0 E R (vi y2) k1 h:=by
 unfold PV
 unfold N7 at M
 refine fF.2 ?_
 exact rN M rM S
theorem atL {w0:World}{c:Cx}{g h:AH}{E R:Value→W}{r:Bool}{N:Nat}{x0:List (List Int)}{y2:Int}{x1:List (List Int)}{bI cA:Value}{k1:Value→W}{iF:Int→Option Bool}{mz:AH}(M:N8 N x0 y2 x1 iF=some r) (S:Sep c g h []) (cw:ab (rL (rI .i64) 1) 1 g bI x0) (c7:ab (rL (rI .i64) 1) 1 g cA x1) (rM:Sub mz g) (rN:∀{ag:Int}{g2 h2:AH},iF ag=some r→Sub mz g2→Sep c g2 h2 []→k1 (vi ag) h2) (H:Bf c R r):PW w0 E R bI (vi y2) cA k1 h:=by
 unfold PW
 unfold N8 at M
 obtain⟨gG,mv,M⟩:=bind_some M
 refine ab.idx cw mv (fun Ad GJ vs E_8 IF rp=> ?_)
 obtain⟨w_5,rfl,vG⟩:=rp
 refine S.eH (IF 0 _ rfl) ?_
 obtain⟨eb,mr,M⟩:=bind_some M
 refine ab.idx c7 mr (fun af0 af1 vs axV atM rp=> ?_)
 obtain⟨ath,rfl,IC⟩:=rp
 refine S.eH (atM 0 _ rfl) ?_
 obtain⟨gO,zS,M⟩:=bind_some M
 refine ad9 zS S.sub S.ok vG IC (fun _ h  S1  => ?_)
 have S:=S.dB S1
 refine gN.2 ?_
 refine bw (fun hc=> ?_) (fun hc=> ?_)
 · have M:=aQ hc M
   cases M
   exact H _ _  S.bH
 · have M:=aS hc M
   exact atK M S rM rN H
theorem atN {w0:World}{c:Cx}{g h:AH}{E R:Value→W}{r:Bool}{N:Nat}   (M:XM N  =some r) (S:Sep c g h [])   (H:Bf c R r):PU w0 E R  h:=by
 unfold PU
 unfold XM at M
 cases M
 exact H _ _  S.bH
theorem atO {w0:World}{c:Cx}{g h:AH}{E R:Value→W}{r:Bool}{N:Nat}{x0 x1:List (List Int)}{y2:Int}{bI cA:Value}{k1:Value→W}{iF:Int→Option Bool}{mz:AH}(M:Be N x0 x1 y2 iF=some r) (S:Sep c g h []) (cw:ab (rL (rI .i64) 1) 1 g bI x0) (c7:ab (rL (rI .i64) 1) 1 g cA x1) (rM:Sub mz g) (rN:∀{ag:Int}{g2 h2:AH},iF ag=some r→Sub mz g2→Sep c g2 h2 []→k1 (vi ag) h2) (H:Bf c R r):JC w0 E R bI cA k1 (vi y2) h:=by
 unfold JC
 unfold Be at M
 refine cw.len ?_
 refine eF.2 ?_
 refine bw (fun hc=> ?_) (fun hc=> ?_)
 · have M:=aQ hc M
   exact atL M S cw c7 rM rN H
 · have M:=aS hc M
   exact atN M S  H
theorem atP {w0:World}{c:Cx}{E R:Value→W}{r:Bool}{N:Nat}{x0 x1:List (List Int)}{bI cA:Value}   (H:Bf c R r):∀(n:Nat){y2:Int}{g h:AH},IE N x0 x1 n y2=some r→Sep c g h []→ab (rL (rI .i64) 1) 1 g bI x0→ab (rL (rI .i64) 1) 1 g cA x1→eS (α:=Value) (fun k a=>JC w0 E R bI cA k a) n (vi y2) h:=by
 intro n
 induction n with
 | zero =>
  intro y2  g h M S cw c7
  unfold IE at M;cases M
 | succ n ih =>
  intro y2  g h M S cw c7
  exact atO M S cw c7  (Sub.refl g) (fun M2 sub S2  =>ih M2 S2 (ab.mono cw (pE (du .i64)) sub) (ab.mono c7 (pE (du .i64)) sub)) H
theorem atQ {w0:World}{c:Cx}{g h:AH}{E R:Value→W}{r:Bool}{N:Nat}{x0 x1:List (List Int)}{bI cA:Value}  (M:N9 N x0 x1=some r) (S:Sep c g h []) (cw:ab (rL (rI .i64) 1) 1 g bI x0) (c7:ab (rL (rI .i64) 1) 1 g cA x1)  (H:Bf c R r):PY w0 E R bI cA h:=by
 unfold PY
 unfold N9 at M
 exact⟨N,atP  H _ M S cw c7⟩
theorem aoe {w0:World}{g h:AH}{Q:CR→AH→Prop}{r:Bool}{N:Nat}{x0 x1:List (List Int)}{bI cA:Value}(M:CN N x0 x1=some r) (sg:Sub g h) (ok:h.Ok) (cw:ab (rL (rI .i64) 1) 1 g bI x0) (c7:ab (rL (rI .i64) 1) 1 g cA x1) (H:Bf ⟨g,h,[]⟩ (fun v=>Q (.ret v)) r):WF PP w0 PZ [bI,cA] h Q:=by
 refine aiI _ _ ?_
 have S:=Sep.start sg ok
 unfold ZA
 unfold CN at M
 refine cw.len ?_
 refine c7.len ?_
 refine oy.2 ?_
 refine bw (fun hc=> ?_) (fun hc=> ?_)
 · have M:=aQ hc M
   cases M
   exact H _ _  S.bH
 · have M:=aS hc M
   exact atQ M S cw c7 H
end
end Go.Ve.T
namespace Go.Ve
open Go.RowKit
noncomputable section
section
variable {h:AH}{R:Value→AH→Prop}
theorem Ya {a b:Nat}(ha:a≤18446744073709551615) (hb:b≤18446744073709551615):WP (.aE .and) [.int .u64 (a:Int),.int .u64 (b:Int)] h R↔R (.int .u64 ((a &&& b:Nat):Int)) h:=dF fun kk=>by
 show iff (gK .u64 .u64) (bif Nat.ble a 18446744073709551615&&Nat.ble b 18446744073709551615 then fN (Nat.land a b) (fun n=>kk (.int .u64 (.ofNat n)) h)else false)=_
 have e:(Nat.ble a 18446744073709551615&&Nat.ble b 18446744073709551615)=true:=by simp only [Bool.and_eq_true,Nat.ble_eq];exact⟨ha,hb⟩
 rw [qv,gj,e,cond_true,cz];rfl
theorem IU {a b:Nat}(hb:b≤64):WP (.aE .shr) [.int .u64 (a:Int),.int .u64 (b:Int)] h R↔R (.int .u64 ((a >>> b:Nat):Int)) h:=dF fun kk=>by
 show(bif Nat.ble b 64 then fN (Nat.shiftRight a b) (fun n=>kk (.int .u64 (.ofNat n)) h)else false)=_
 have e:Nat.ble b 64=true:=by rw [Nat.ble_eq];exact hb
 rw [e,cond_true,cz];rfl
theorem rY {n:Int}(h1:0≤n) (h2:n≤18446744073709551615):bD .u64 n=n:=by
 show IntKind.u64.wrap n=n
 simp only [IntKind.wrap,IntKind.bits,IntKind.signed]
 first | omega | (simp;omega)
theorem ahb {sz b o n cap b' o' n' dJ:Nat}{l:List Value}{m:Nat}(hm:m=min n' n) (hr:h.bE b' o' l) (hl:l.length=m*sz) (h0:0<m*sz) (hc:h.can b o l.length) (ha:dP l=true):WP (.copy sz) [eR b o n cap,eR b' o' n' dJ] h R↔R (vi (m:Int)) (h.wr b o l):=dF fun k=>by
 show fN (bif Nat.ble n' n then n' else n) (fun q=>bif Nat.beq q 0 then k (.int .i64 (.ofNat 0)) h else lU h b' o' (Nat.mul q sz) fun l=>re h b o l fun h=>k (.int .i64 (.ofNat q)) h)=_
 have e:(bif Nat.ble n' n then n' else n)=m:=by
  rw [hm]
  cases hb:Nat.ble n' n with
  | true=>rw [Nat.ble_eq]at hb;rw [Nat.min_eq_left hb];rfl
  | false =>
   have:¬n'≤n:=fun hh=>by rw [←Nat.ble_eq,hb]at hh;cases hh
   rw [Nat.min_eq_right (by omega)];rfl
 rw [cz,e]
 have hm0:m≠0:=fun e=>by rw [e]at h0;simp at h0
 rw [gg hm0]
 show lU h b' o' (m*sz) _=_
 rw [LQ hr hl h0,LU hc ha];rfl
end
end
end Go.Ve
namespace Go.Ve.T
open Go.Ve Go.Proofs
noncomputable section
set_option maxRecDepth 10000
section
variable {w0:World}{g h:AH}{Q:CR→AH→Prop}
theorem au9 (n:Nat) (hn:n≤65536) (H:Q (.ret (.tuple ⟨[.int .u64 0,.int .u64 (n:Int)]⟩)) h):WF PP w0 OZ [.int .u64 1,.int .u64 (n:Int)] h Q:=by
 refine aid _ _ ?_
 unfold Y2
 refine oE ?_
 unfold Y1
 refine aia _ _ ?_
 unfold YZ
 have e1:(1:Nat) &&& 4294967295=1:=by decide
 have e2:(1:Nat) >>> 32=0:=by decide
 have e3:n &&& 4294967295=n:=by
  have:=Nat.and_two_pow_sub_one_eq_mod n 32
  rw [show(4294967295:Nat)=2 ^ 32-1 by decide,this];exact Nat.mod_eq_of_lt (by omega)
 have e4:n >>> 32=0:=by rw [Nat.shiftRight_eq_div_pow];exact Nat.div_eq_of_lt (by omega)
 refine(Ya (a:=1) (b:=4294967295) (by decide) (by decide)).2 ?_
 refine(IU (a:=1) (b:=32) (by decide)).2 ?_
 refine(Ya (a:=n) (b:=4294967295) (by omega) (by decide)).2 ?_
 refine(IU (a:=n) (b:=32) (by decide)).2 ?_
 rw [e1,e2,e3,e4]
 refine FU.2 ?_
 rw [show bD .u64 (((1:Nat):Int)*(n:Int))=(n:Int) by rw [Int.natCast_one,Int.one_mul];exact rY (by omega) (by omega)]
 refine FU.2 ?_
 rw [show bD .u64 (((0:Nat):Int)*(n:Int))=((0:Nat):Int) by simp;exact rY (by omega) (by omega)]
 refine(IU (a:=n) (b:=32) (by decide)).2 ?_
 rw [e4]
 refine fF.2 ?_
 rw [show bD .u64 (((0:Nat):Int)+((0:Nat):Int))=((0:Nat):Int)from rY (by omega) (by omega)]
 refine(Ya (a:=0) (b:=4294967295) (by decide) (by decide)).2 ?_
 refine(IU (a:=0) (b:=32) (by decide)).2 ?_
 rw [show(0:Nat) &&& 4294967295=0 by decide,show(0:Nat) >>> 32=0 by decide]
 refine FU.2 ?_
 rw [show bD .u64 (((1:Nat):Int)*((0:Nat):Int))=((0:Nat):Int)from rY (by omega) (by omega)]
 refine fF.2 ?_
 rw [show bD .u64 (((0:Nat):Int)+((0:Nat):Int))=((0:Nat):Int)from rY (by omega) (by omega)]
 refine FU.2 ?_
 rw [show bD .u64 (((0:Nat):Int)*((0:Nat):Int))=((0:Nat):Int)from rY (by omega) (by omega)]
 refine fF.2 ?_
 rw [show bD .u64 (((0:Nat):Int)+((0:Nat):Int))=((0:Nat):Int)from rY (by omega) (by omega)]
 refine(IU (a:=0) (b:=32) (by decide)).2 ?_
 rw [show(0:Nat) >>> 32=0 by decide]
 refine fF.2 ?_
 rw [show bD .u64 (((0:Nat):Int)+((0:Nat):Int))=((0:Nat):Int)from rY (by omega) (by omega)]
 refine FU.2 ?_
 rw [show bD .u64 ((1:Int)*(n:Int))=(n:Int) by rw [Int.one_mul];exact rY (by omega) (by omega)]
 refine(eY rfl).2 ?_
 refine(eY rfl).2 ?_
 exact H
def Oe (x0:List Int) (x1:Int):Option (List Int):=match x0 with
 | [a]=>gu (decide (1≤x1)&&decide (x1≤65536)) (some (List.replicate x1.toNat a))
 | _=>none
theorem auz {r:List Int}(x0:List Int) (x1:Int) (bI:Value) (sg:Sub g h) (ok:h.Ok) (cw:ab (rI .i64) 1 g bI x0) (M:Oe x0 x1=some r)
 (H:∀(g' h':AH) (w1:Value) (xr:List (List Value)),Sep ⟨g,h,[]⟩ g' h' [.sl 3 1 w1 xr]→ah (rI .i64 g') xr r→Q (.ret w1) h'):WF PP w0 O1 [bI,vi x1] h Q:=by
 unfold Oe at M
 split at M
 case h_2=>cases M
 rename_i a
 obtain⟨hb,M⟩:=mo M
 cases M
 rw [Bool.and_eq_true,decide_eq_true_eq,decide_eq_true_eq]at hb
 obtain⟨n,rfl⟩:∃n:Nat,x1=n:=⟨x1.toNat,by omega⟩
 rw [Int.toNat_natCast]at H
 have S:=Sep.start sg ok
 obtain⟨ls0,X,A⟩:=cw
 have hx0:∃b o cap,bI=eR b o 1 cap∧h.bE b o [vi a]:=by
  cases X with
  | nil=>have:=A.1;simp at this
  | mk b o m cap _ hn hc hs hr =>
   have hl:ls0.length=1:=A.1
   match ls0,hl with
   | [cs],_ =>
    have e:cs=[vi a]:=A.2 0 cs a rfl rfl
    subst e
    subst hn
    exact⟨b,o,cap,rfl,sg.bE hr⟩
 obtain⟨b0,o0,VL,rfl,qZ⟩:=hx0
 refine aif _ _ ?_
 unfold Y9
 refine eF.2 ?_
 rw [decide_eq_false (by omega)]
 refine oE ?_
 unfold Y8
 refine Ul.2 ?_
 refine Ui.2 ?_
 refine Ui.2 ?_
 rw [show bD .u64 ((1:Nat):Int)=1 from rY (by omega) (by omega),show bD .u64 (n:Int)=(n:Int)from rY (by omega) (by omega)]
 refine au9 n (by omega) ?_
 refine(eY rfl).2 ?_
 refine(eY rfl).2 ?_
 refine nh.2 ?_
 rw [decide_eq_false (by omega)]
 refine ax rfl ?_
 refine ax rfl ?_
 refine nh.2 ?_
 rw [decide_eq_false (by omega)]
 refine bf.2 ?_
 unfold Y7
 refine oE ?_
 unfold Y6
 refine Ui.2 ?_
 rw [jY (by omega) (by omega)]
 have Ct:∀k:Nat,(List.replicate k [vi 0]).flatten=List.replicate k (vi 0):=fun k=>by
  induction k with
  | zero=>rfl
  | succ k ih=>rw [List.replicate_succ,List.flatten_cons,ih];rfl
 have gz:∀(k:Nat) (x:Int),dP (List.replicate k (vi x))=true:=fun k x=>by
  induction k with
  | zero=>rfl
  | succ k ih=>rw [List.replicate_succ,uZ,ih];rfl
 refine(adm (Nat.le_refl n) (by omega) rfl (by rw [Ct];exact gz n 0)).2 ?_
 rw [Ct]
 have K1:=dT.new h 3 (List.replicate n (vi 0))
 have iz:(h.new 3 (List.replicate n (vi 0))).can h.nx 0 n:=by
  have:=AH.Ua h 3 (List.replicate n (vi 0)) (o:=0) (n:=n) (by simp)
  exact this
 have ahc:(h.new 3 (List.replicate n (vi 0))).can h.nx 0 1:=by obtain⟨lo,hi,ty,c,q1,q2,q3⟩:=iz;exact⟨lo,hi,ty,c,q1,q2,by omega⟩
 refine(ahb (m:=1) (l:=[vi a]) (by omega) (K1.bE ok qZ) rfl (by decide) ahc rfl).2 ?_
 have fin:∀h':AH,(∃lo hi ty c,h'.ob.get h.nx=some (.cells lo hi ty true c)∧lo≤0∧n≤hi)→dT h h'→h'.Ok→h'.bE h.nx 0 (List.replicate n (vi a))→h.nx<h'.nx→Q (.ret (eR h.nx 0 n n)) h':=by
  rintro h' ⟨lo,hi,ty,c,q1,q2,q3⟩ K qx hr bJ
  have Yb:∀k:Nat,(List.replicate k [vi a]).flatten=List.replicate k (vi a):=fun k=>by
   induction k with
   | zero=>rfl
   | succ k ih=>rw [List.replicate_succ,List.flatten_cons,ih];rfl
  have Yb:=Yb n
  refine H g h' _ (List.replicate n [vi a]) (S.add _ qx K.nx K.get ?_ xf (fun b hb=>by simp [Ob.bN,fa]at hb;subst hb;exact⟨bJ,Nat.le_refl _⟩)) (ah.MU (show rI .i64 g [vi a] a from rfl) n)
  exact .kn h.nx 0 n n lo hi ty c _ (by simp) (Nat.le_refl _) (by unfold bg;omega) q1 q2 (by simpa using q3) (by rw [Yb];exact hr) (fun x hx=>by rw [(List.mem_replicate.1 hx).2];rfl)
 have ok1:(h.new 3 (List.replicate n (vi 0))).Ok:=AH.uU ok _ _
 refine adh (fun v h'=>∃y:Nat,v=vi y∧1≤y∧y≤n∧dT h h'∧h'.Ok∧h'.can h.nx 0 n∧h'.bE h.nx 0 (List.replicate y (vi a))∧h.nx<h'.nx) (fun v _=>match v with | .int _ q=>(n-q).toNat | _=>0) ?_ ?_
 · rintro v h' k ⟨y,rfl,Mt,hyn,K,qx,hc,hr,bJ⟩ hk
   unfold Y5
   refine Ul.2 ?_
   refine eF.2 ?_
   by_cases adM:y<n
   · rw [decide_eq_true (show(y:Int)<(n:Int) by omega)]
     refine vm ?_
     unfold Y4
     have cap:Vy 1 n n:=⟨by unfold bg;omega,.inl ⟨Nat.le_refl _,by unfold bg;omega⟩⟩
     refine M0 (k1:=.i64) (k2:=.i64) (i:=y) (j:=n) cap hyn (Nat.le_refl _) true false (by simp) (by simp) rfl ?_
     refine M0 (k1:=.i64) (k2:=.i64) (i:=0) (j:=y) cap (by omega) (by omega) false true (by simp) (by simp) rfl ?_
     have e1:ti 1 (eR h.nx 0 n n) y n=eR h.nx y (n-y) (n-y):=by
      show(if n<bg then(if n=y then Value.slice (some ⟨h.nx,0,none⟩) (n-y) 0 else Value.slice (some ⟨h.nx,0+y*1,none⟩) (n-y) (n-y))else Value.slice (some ⟨h.nx,0+y*1,none⟩) (n-y) n)=_
      rw [if_pos (by unfold bg;omega),if_neg (by omega),Nat.zero_add,Nat.mul_one]
     have e2:ti 1 (eR h.nx 0 n n) 0 y=eR h.nx 0 y n:=by
      show(if n<bg then(if n=0 then Value.slice (some ⟨h.nx,0,none⟩) (y-0) 0 else Value.slice (some ⟨h.nx,0+0*1,none⟩) (y-0) (n-0))else Value.slice (some ⟨h.nx,0+0*1,none⟩) (y-0) n)=_
      rw [if_pos (by unfold bg;omega),if_neg (by omega)]
      simp
     rw [e1,e2]
     have hm:min y (n-y)≤y:=Nat.min_le_left _ _
     have zi:min y (n-y)≤n-y:=Nat.min_le_right _ _
     have hm3:1≤min y (n-y):=by omega
     generalize FD:min y (n-y)=m at hm zi hm3
     have o7:h'.bE h.nx 0 (List.replicate m (vi a)):=fun i v hv=>hr i v (by
      have hi:=(List.getElem?_eq_some_iff.1 hv).1
      rw [List.length_replicate]at hi
      rw [List.getElem?_replicate]at hv ⊢
      rw [if_pos (by omega)]at hv ⊢;exact hv)
     have gY:h'.can h.nx y (List.replicate m (vi a)).length:=by
      obtain⟨lo,hi,ty,c,q1,q2,q3⟩:=hc
      exact⟨lo,hi,ty,c,q1,by omega,by rw [List.length_replicate];omega⟩
     refine(ahb (m:=m) (l:=List.replicate m (vi a)) FD.symm o7 (by simp) (by omega) gY (gz m a)).2 ?_
     refine⟨zG.2 z6, ?_⟩
     refine fF.2 ?_
     rw [jY (by omega) (by omega)]
     refine hk _ _ ⟨y+m,by simp,by omega,by omega,K.wr (Nat.le_refl _) _ _,AH.uV qx _ _ _,AH.LK hc,fun i v hv=> ?_,by rw [AH.nb];exact bJ⟩ ?_
     · have hi:=(List.getElem?_eq_some_iff.1 hv).1
       rw [List.length_replicate]at hi
       rw [List.getElem?_replicate,if_pos hi]at hv
       cases hv
       rw [AH.wT gY (Nat.le_refl _),Nat.zero_add]
       by_cases hiy:i<y
       · rw [if_neg (by omega)]
         have:=hr i (vi a) (by rw [List.getElem?_replicate,if_pos hiy])
         rwa [Nat.zero_add]at this
       · rw [if_pos ⟨rfl,by omega,by rw [List.length_replicate];omega⟩,List.getElem?_replicate,if_pos (by omega)]
     · show((n:Int)-((y:Int)+(m:Int))).toNat<((n:Int)-(y:Int)).toNat
       omega
   · rw [decide_eq_false (show¬(y:Int)<(n:Int) by omega)]
     refine oE ?_
     unfold Y3
     have e:y=n:=by omega
     subst e
     obtain⟨lo,hi,ty,c,q1,q2,q3⟩:=hc
     exact fin h' ⟨lo,hi,ty,c,q1,q2,by omega⟩ K qx hr bJ
 · refine⟨1,rfl,Nat.le_refl _,by omega,K1.wr (Nat.le_refl _) _ _,AH.uV ok1 _ _ _,AH.LK iz,fun i v hv=> ?_,by rw [AH.nb];exact Nat.lt_succ_self _⟩
   have hi:=(List.getElem?_eq_some_iff.1 hv).1
   rw [List.length_replicate]at hi
   have qz:i=0:=by omega
   subst qz
   cases hv
   rw [AH.wT (n:=1) ahc (by simp),if_pos ⟨rfl,by omega,by simp⟩];rfl
abbrev ahd:Int×Int→List Value:=fun p=>[vi p.1,vi p.2]
def Bg (N:Nat) (x0:ak) (x1:Int):Option (List (Int×Int)) :=
 (ix x0.ae x1).bind fun i =>
 (Aa N i).bind fun ps =>
 gu (decide (ps.length≤1000)) (
 (He N x0 x1).bind fun q =>
 let l:=(bif !(dM i.aI).l5&&decide (bD .i64 (x1+1)<(x0.ae.length:Int))then [(bD .i64 (x1+1),0)]else [])++ps.map (fun p=>(p,1))
 bif (dM i.aI).lK&&decide (0≤q)then(ix x0.aM q).bind fun d=>some (l++[(d.eg,2)])else some l)
abbrev DT (u:ak) (w1 w2:Value):List Value:=[.string u.aB,.string u.aC,vi u.fArgs,vi u.ay,vi u.az,w1,w2]
theorem ava (N:Nat) (u:ak) (at_:Int) (w1 w2:Value) (bu ba:Nat){l:List (Int×Int)}(r1:g.bE bu 0 (DT u w1 w2)) (r2:g.bE ba 0 [vi at_]) (F1:ab aq.rep 4 g w1 u.ae) (F2:ab aK.rep 3 g w2 u.aM) (M:Bg N u at_=some l) :
 z7 PP w0 g (.func (.func Jd) ⟨[]⟩ ⟨[au bu 0,au ba 0]⟩) ahd l:=by
 refine⟨rfl,_,[],[au bu 0,au ba 0],rfl,fun yv Inv Stop Q g1 h qJ hK hI step I0 fin stop=> ?_⟩
 unfold Bg at M
 obtain⟨i,hi,M⟩:=bind_some M
 obtain⟨ps,gL,M⟩:=bind_some M
 obtain⟨avb,M⟩:=mo M
 rw [decide_eq_true_eq]at avb
 obtain⟨q,hq,M⟩:=bind_some M
 have r1:=qJ.bE r1
 have r2:=qJ.bE r2
 have F1:=F1.mono aq.mono qJ
 have F2:=F2.mono aK.mono qJ
 clear qJ
 generalize g1=g at *
 show WF PP w0 Jd [yv,au bu 0,au ba 0] h Q
 have go:∀{g h:AH}{k:Nat},Inv k g h→Sep ⟨g,h,[]⟩ g h []:=fun hh=>Sep.start (hI _ _ _ hh).1 (hI _ _ _ hh).2
 refine ah7 _ _ _ ?_
 unfold YX
 have S:=go I0
 refine bC.2 ?_
 refine S.eH (r1 5 _ rfl) ?_
 refine S.eH (r2 0 _ rfl) ?_
 refine ab.idx F1 hi (fun b o vs E rr rp=> ?_)
 cases rp
 refine S.mq rr rfl (by decide) ?_
 refine S.alloc (l:=[vi 0,vi 0,vi 0,vi 0]) rfl (fun b6 h S=> ?_)
 refine S.dv [vi i.aI,vi i.fA,vi i.fB,vi i.fC] [vi i.aI,vi i.fA,vi i.fB,vi i.fC] rfl rfl rfl (Nat.le_of_ble_eq_true rfl) rfl (fun h S=> ?_)
 refine bC.2 ?_
 refine S.bz 0 rfl rfl ?_
 refine GH (M:=rfl) (sg:=S.sub) (ok:=S.ok) (H:=fun _ h S1=> ?_)
 have S:=S.dB S1
 refine(eY rfl).2 ?_
 refine(eY rfl).2 ?_
 generalize hf:dM i.aI=f at *
 refine S.alloc (l:=[.string ⟨⟨[]⟩⟩,vi 0,vi 0,vi 0,vi 0,vi 0,vi 0,.bool false,.bool false]) rfl (fun b13 h S=> ?_)
 refine S.dv f.cells f.cells rfl rfl rfl (Nat.le_of_ble_eq_true rfl) rfl (fun h S=> ?_)
 obtain⟨g2,sg,S,DU⟩:=S.th
 obtain⟨g3,DV,S,r6⟩:=S.th
 have I1:=hK _ _ _ _ _ I0 S
 have DU:=DV.bE DU
 have sg:=sg.trans DV
 have r1:=sg.bE r1
 have r2:=sg.bE r2
 have F1:=F1.mono aq.mono sg
 have F2:=F2.mono aK.mono sg
 have fin:∀v g' h',Sub g3 g'→Inv l.length g' h'→Q (.ret v) h':=fun v g' h' s=>fin v g' h' (sg.trans s)
 clear I0 S S1 sg DV
 have last:∀(g h:AH) (l0:List (Int×Int)),Sub g3 g→Inv l0.length g h→(bif f.lK&&decide (0≤q)then(ix u.aM q).bind fun d=>some (l0++[(d.eg,2)])else some l0)=some l→
  OW w0 (fun v h=>Q (.aT v) h) (fun v h=>Q (.ret v) h) (au bu 0) (au ba 0) (au b13 0) yv h:=by
  intro g h l0 s3 Ik M
  have S0:=go Ik
  have r1:=s3.bE r1
  have DU:=s3.bE DU
  have F2:=F2.mono aK.mono s3
  unfold OW
  refine S0.mq (l:=DT u w1 w2) r1 rfl (by decide) ?_
  refine S0.eH (s3.bE r2 0 _ rfl) ?_
  refine apL hq S0.sub S0.ok (F1.mono aq.mono s3) F2 (fun _ h1 S1=> ?_)
  have S2:=S0.dB S1
  have Ik:=hK _ _ _ _ _ Ik S2
  refine bC.2 ?_
  refine S2.eH (DU 7 _ rfl) ?_
  cases hr:f.lK with
  | false =>
   rw [hr]at M
   cases M
   refine aA (by decide) ?_
   refine aA (by decide) ?_
   refine bf.2 ?_
   unfold OV
   refine oE ?_
   exact fin _ _ _ s3 Ik
  | true =>
   rw [hr,Bool.true_and]at M
   refine ax rfl ?_
   refine ax rfl ?_
   refine pA.2 ?_
   refine bf.2 ?_
   unfold OV
   cases h0:decide (0≤q)with
   | false =>
    rw [h0]at M
    cases M
    refine oE ?_
    exact fin _ _ _ s3 Ik
   | true =>
    rw [h0]at M
    obtain⟨d,hd,M⟩:=bind_some (aQ rfl M)
    cases M
    refine vm ?_
    refine bC.2 ?_
    refine S2.eH (r1 6 _ rfl) ?_
    refine ab.idx F2 hd (fun b o vs E rr rp=> ?_)
    cases rp
    refine bC.2 ?_
    refine S2.eH (rr 2 _ rfl) ?_
    refine step l0.length (d.eg,2) g h1 _ _ (by simp) Ik (fun g2 h2 sb I2=> ?_) (fun h2 s2=>stop _ _ s2)
    refine fin _ _ _ (s3.trans sb) ?_
    simpa using I2
 have mid:∀(g h:AH) (l0:List (Int×Int)),Sub g3 g→Inv l0.length g h→(bif f.lK&&decide (0≤q)then(ix u.aM q).bind fun d=>some (l0++ps.map (fun p=>(p,1))++[(d.eg,2)])else some (l0++ps.map (fun p=>(p,1))))=some l→
  OX w0 (fun v h=>Q (.aT v) h) (fun v h=>Q (.ret v) h) (au b6 0) yv (au bu 0) (au ba 0) (au b13 0) h:=by
  intro g h l0 s3 Ik M
  have S0:=go Ik
  have pre:∃m,l=l0++ps.map (fun p=>(p,1))++m:=by
   cases hc:f.lK&&decide (0≤q)with
   | true=>rw [hc]at M;obtain⟨d,_,M⟩:=bind_some (aQ rfl M);cases M;exact⟨_,rfl⟩
   | false=>rw [hc]at M;cases M;exact⟨[],by simp⟩
  obtain⟨m,hl⟩:=pre
  have avc:∀k p,ps[k]? =some p→l[l0.length+k]? =some (p,1):=fun k p hp=>by
   have hk:k<ps.length:=(List.getElem?_eq_some_iff.1 hp).1
   rw [hl,List.getElem?_append_left (by simp;omega),List.getElem?_append_right (by omega),Nat.add_sub_cancel_left,List.getElem?_map,hp];rfl
  unfold OX
  refine S0.mq (l:=[vi i.aI,vi i.fA,vi i.fB,vi i.fC]) (s3.bE r6) rfl (by decide) ?_
  refine aeF gL S0.sub S0.ok (fun g1 h1 v30 S1 F3=> ?_)
  have S2:=S0.call S1
  have Ik:=hK _ _ _ _ _ Ik S2
  refine F3.len ?_
  refine adh (fun v h'=>∃(k:Nat) (g':AH),v=vi k∧k≤ps.length∧Sub g1 g'∧Inv (l0.length+k) g' h') (fun v _=>match v with | .int _ n=>(ps.length-n).toNat | _=>0) ?_ ⟨0,g1,rfl,Nat.zero_le _,.refl _,Ik⟩
  rintro v h' kk ⟨k,g',rfl,hk,sb,Ik⟩ hkk
  unfold YW
  refine eF.2 ?_
  by_cases bJ:k<ps.length
  · rw [decide_eq_true (show(k:Int)<(ps.length:Int) by omega)]
    refine vm ?_
    unfold YV
    have F3':=F3.mono (du .i64) sb
    refine ab.idx F3' (x:=ps[k]) (by rw [iB];exact List.getElem?_eq_getElem bJ) (fun b o vs E rr rp=> ?_)
    cases rp
    have S3:=go Ik
    refine S3.eH (rr 0 _ rfl) ?_
    refine step (l0.length+k) (ps[k],1) g' h' _ _ (avc k _ (List.getElem?_eq_getElem bJ)) Ik (fun g2 h2 Yc I2=> ?_) (fun h2 s2=> ?_)
    · refine gN.2 ?_
      refine oE ?_
      unfold YU
      refine fF.2 ?_
      rw [jY (by omega) (by omega)]
      refine hkk _ _ ⟨k+1,g2,by simp,bJ,sb.trans Yc,by rw [←Nat.add_assoc];exact I2⟩ ?_
      show((ps.length:Int)-((k:Int)+1)).toNat<((ps.length:Int)-(k:Int)).toNat
      omega
    · refine gN.2 ?_
      refine vm ?_
      exact stop _ _ s2
  · rw [decide_eq_false (show¬(k:Int)<(ps.length:Int) by omega)]
    refine oE ?_
    have e:k=ps.length:=by omega
    subst e
    refine last g' h' (l0++ps.map (fun p=>(p,1))) ((s3.trans S1.bF).trans sb) ?_ M
    simpa using Ik
 refine bC.2 ?_
 have S:=go I1
 refine S.eH (DU 8 _ rfl) ?_
 refine gN.2 ?_
 cases he:f.l5 with
 | true =>
  rw [he]at M
  refine aA (by decide) ?_
  refine aA (by decide) ?_
  refine aA (by decide) ?_
  refine aA (by decide) ?_
  refine aA (by decide) ?_
  refine aA (by decide) ?_
  refine bf.2 ?_
  unfold OY
  refine aA (by decide) ?_
  refine aA (by decide) ?_
  refine aA (by decide) ?_
  refine aA (by decide) ?_
  refine aA (by decide) ?_
  refine bf.2 ?_
  unfold D4
  refine oE ?_
  exact mid g3 h [] (.refl _) I1 M
 | false =>
  rw [he]at M
  refine ax rfl ?_
  refine S.eH (r2 0 _ rfl) ?_
  refine ax rfl ?_
  refine fF.2 ?_
  refine ax rfl ?_
  refine bC.2 ?_
  refine ax rfl ?_
  refine S.eH (r1 5 _ rfl) ?_
  refine ax rfl ?_
  refine F1.len ?_
  refine ax rfl ?_
  refine eF.2 ?_
  refine bf.2 ?_
  unfold OY
  cases hn:decide (bD .i64 (at_+1)<(u.ae.length:Int))with
  | false =>
   rw [hn]at M
   refine aA (by decide) ?_
   refine aA (by decide) ?_
   refine aA (by decide) ?_
   refine aA (by decide) ?_
   refine aA (by decide) ?_
   refine bf.2 ?_
   unfold D4
   refine oE ?_
   exact mid g3 h [] (.refl _) I1 M
  | true =>
   rw [hn]at M
   refine ax rfl ?_
   refine ax rfl ?_
   refine S.eH (r2 0 _ rfl) ?_
   refine ax rfl ?_
   refine fF.2 ?_
   refine ax rfl ?_
   have h0:l[0]? =some (bD .i64 (at_+1),0):=by
    cases hc:f.lK&&decide (0≤q)with
    | true=>rw [hc]at M;obtain⟨d,_,M⟩:=bind_some (aQ rfl M);cases M;rfl
    | false=>rw [hc]at M;cases M;rfl
   refine step 0 (bD .i64 (at_+1),0) g3 h _ _ h0 I1 (fun g2 h2 Yc I2=> ?_) (fun h2 s2=> ?_)
   · refine ax rfl ?_
     refine gN.2 ?_
     refine bf.2 ?_
     unfold D4
     refine oE ?_
     exact mid g2 h2 [(bD .i64 (at_+1),0)] Yc I2 M
   · refine ax rfl ?_
     refine gN.2 ?_
     refine bf.2 ?_
     unfold D4
     refine vm ?_
     exact stop _ _ s2
theorem agX {r:List (Int×Int)}(N:Nat) (x0:ak) (x1:Int) (cU cV:Value) (sg:Sub g h) (ok:h.Ok) (cv:ab aq.rep 4 g cU x0.ae) (cZ:ab aK.rep 3 g cV x0.aM) (M:Bg N x0 x1=some r)
 (H:∀(g' h':AH) (w1:Value),Sep ⟨g,h,[]⟩ g' h' []→z7 PP w0 g' w1 ahd r→Q (.ret w1) h'):WF PP w0 Je [.agg ⟨DT x0 cU cV⟩,vi x1] h Q:=by
 have S:=Sep.start sg ok
 refine ah9 _ _ ?_
 unfold YY
 refine S.box (DT x0 cU cV) rfl (aa rfl (aa rfl (aa rfl (aa rfl (aa rfl (aa cv.one (aa cZ.one rfl))))))) (fun b1 h S=> ?_)
 refine S.box [vi x1] rfl rfl (fun b2 h S=> ?_)
 refine(L3 (by simp)).2 ?_
 obtain⟨g2,rz,S,r2⟩:=S.th
 obtain⟨g3,IV,S,r1⟩:=S.th
 have DV:=rz.trans IV
 exact H g3 h _ S (ava N x0 x1 cU cV b1 b2 r1 (IV.bE r2) (cv.mono aq.mono DV) (cZ.mono aK.mono DV) M)
end
end
end Go.Ve.T
namespace Go.Ve.T
open Go.Ve Go.Proofs
noncomputable section
set_option maxRecDepth 10000
def IG {ρ:Type}(N:Nat) (v9:List Int) (cL:Int) (jA:Int) (cT:List Int) (qG:Int) (fK:ak) (IH:List Int) (DD:Bool) (j6:Fl→(List Int)→(List Int)→Bool→(List Int)→Option (ρ)):Option (ρ) :=
(ix v9 cL).bind fun tH =>
 bif (decide (tH<0))then(
(ix v9 cL).bind fun II =>
 gu (decide (cT.length+[cL].length≤1048576)) (
 j6 .go (v9.set cL.toNat jA) IH DD (cT++[cL])))else(
 j6 .go v9 IH DD cT)
def DE {ρ:Type}(N:Nat) (v9:List Int) (cL:Int) (v2:List Int) (v3:Bool) (cT:List Int) (jA:Int) (qG:Int) (fK:ak) (j6:Fl→(List Int)→(List Int)→Bool→(List Int)→Option (ρ)):Option (ρ) :=
(tl jA 0 40).bind fun XN =>
 bif (!XN)then(
 j6 .ret v9 ([]:List Int) false cT)else(
(ix v9 cL).bind fun tu =>
 bif (decide (0≤tu))then(
(ix v9 cL).bind fun DF =>
 bif (!decide (DF=jA))then(
 j6 .ret v9 ([]:List Int) false cT)else(
 IG N v9 cL jA cT qG fK v2 v3 j6))else(
 IG N v9 cL jA cT qG fK v2 v3 j6))
def rT {ρ:Type}(N:Nat) (v9:List Int) (v37:Int) (v1:ak) (v2:List Int) (v3:Bool) (cT:List Int) (cL:Int) (mK:Int) (j6:Fl→(List Int)→(List Int)→Bool→(List Int)→Option ρ):Option ρ :=
(ix v9 v37).bind fun G1 =>
(ix v1.ae v37).bind fun NH =>
(Hh NH mK).bind fun agI =>
 bif (decide (mK=2))then(
 DE N v9 cL v2 v3 cT 0 v37 v1 j6)else(
 DE N v9 cL v2 v3 cT (bD .i64 (G1+agI)) v37 v1 j6)
def IJ (N:Nat) (cT:List Int) (oT:ak) (Oa:List Int) (Oc:List Int) (Od:Bool) (oU:(List Int)→(List Int)→(List Int)→Bool→Option ((List Int)×Bool)):Option ((List Int)×Bool) :=
(GA cT 1 (cT.length:Int)).bind fun xv =>
 oU xv Oa Oc Od
def IK (N:Nat) (cT:List Int) (v1:ak) (v9:List Int) (v2:List Int) (v3:Bool) (oU:(List Int)→(List Int)→(List Int)→Bool→Option ((List Int)×Bool)):Option ((List Int)×Bool) :=
(ix cT 0).bind fun nn =>
(Bg N v1 nn).bind fun agJ =>
(qB (fun(s:(List Int)×(List Int)×Bool×(List Int)) (x:Int×Int)=>rT N s.1 nn v1 s.2.1 s.2.2.1 s.2.2.2 x.1 x.2 (fun f m0 m1 m2 m3=>some ((m0,m1,m2,m3),f))) agJ (v9,v2,v3,cT)).bind fun mF =>
 GB mF.2 (
 IJ N mF.1.2.2.2 v1 mF.1.1 mF.1.2.1 mF.1.2.2.1 oU) (
 some (mF.1.2.1,mF.1.2.2.1)) (fun _=>none)
def XO (N:Nat) (v9:List Int) (v2:List Int) (v3:Bool)  :Option ((List Int)×Bool) :=
 some (v9,true)
def XP (N:Nat) (v1:ak) (v9:List Int) (v2:List Int) (v3:Bool) (cT:List Int) (oU:(List Int)→(List Int)→(List Int)→Bool→Option ((List Int)×Bool)):Option ((List Int)×Bool) :=
 bif (decide (0<(cT.length:Int)))then(
 IK N cT v1 v9 v2 v3 oU)else(
 XO N v9 v2 v3)
def vH (N:Nat) (v1:ak)  :Nat→(List Int)→(List Int)→Bool→(List Int)→Option ((List Int)×Bool)
 | 0,_,_,_,_=>none
 | n+1,v9,v2,v3,cT=>XP N v1 v9 v2 v3 cT  (fun ag bo qH qI=>vH N v1 n bo qH qI ag)
def Bh (N:Nat) (x0:ak):Option ((List Int)×Bool) :=
(Oe [(-1)] (x0.ae.length:Int)).bind fun eM =>
(ix eM 0).bind fun ik =>
 vH N x0 N (eM.set (0:Int).toNat 0) ([]:List Int) false [0]
abbrev DG (c:Cx) (R:Value→W) (r:(List Int)×Bool):Prop:=∀(g' h':AH) (w1:Value),Sep c g' h' []→ab (rI .i64) 1 g' w1 r.1→R (.tuple ⟨[w1,(.bool r.2)]⟩) h'
theorem agK {ρ:Type}{w0:World}{c:Cx}{g h:AH}{E R:Value→W}{r:ρ}{N:Nat}{v9:List Int}{cL jA:Int}{cT:List Int}{qG:Int}{fK:ak}{IH:List Int}{DD:Bool}{gm:Nat}{gU:Value}{iH:List (List Value)}{iT:Nat}{ib:Value}{iI:List (List Value)}{xS:Nat}{xT:LO}{DH:List Nat}{DJ DM:Nat}{xU xV:Value}{XQ:Nat}{XR:Value}{XS:Nat}{j6:Fl→(List Int)→(List Int)→Bool→(List Int)→Option (ρ)}{xW:AH}(M:IG N v9 cL jA cT qG fK IH DD j6=some r) (S:Sep c g h [.bx gm [gU],.sl 3 1 gU iH,.bx iT [ib],.sl 3 1 ib iI,.lp xS xT .busy none,.ds DH,.bx DJ [(vi qG)],.bx DM [(.string fK.aB),(.string fK.aC),(vi fK.fArgs),(vi fK.ay),(vi fK.az),xU,xV],.bx XQ [XR],.bx XS [(.bool DD)]]) (iU:ah ((rI .i64) g) iH v9) (jw:ah ((rI .i64) g) iI cT) (XT:ab aq.rep 4 g xU fK.ae) (XU:ab aK.rep 3 g xV fK.aM) (agL:ab (rI .i64) 1 g XR IH) (tI:Sub xW g) (tJ:∀{f:Fl}{xX:List Int}{xY:Value}{xZ:List (List Value)}{x7:List Int}{x8:Value}{x9:Bool}{ya:List Int}{yb:Value}{yc:List (List Value)}{g2 h2:AH},j6 f xX x7 x9 ya=some r→Sub xW g2→Sep c g2 h2 [.lp xS xT f.st f.pd,.ds DH,.bx gm [xY],.sl 3 1 xY xZ,.bx DJ [(vi qG)],.bx DM [(.string fK.aB),(.string fK.aC),(vi fK.fArgs),(vi fK.ay),(vi fK.az),xU,xV],.bx XQ [x8],.bx XS [(.bool x9)],.bx iT [yb],.sl 3 1 yb yc]→ah ((rI .i64) g2) xZ xX→ab (rI .i64) 1 g2 x8 x7→ah ((rI .i64) g2) yc ya→R (.bool f.on) h2) (H:True):Ji w0 E R (au gm 0) (vi cL) (vi jA) (au iT 0) xT xS h:=by
 unfold Ji
 unfold IG at M
 refine S.bz 0 rfl rfl ?_
 obtain⟨tH,atS,M⟩:=bind_some M
 refine S.dZ 1 rfl iU atS (fun axW axX vs atT atU rp=> ?_)
 cases rp
 refine S.fG (j:=0) 1 rfl atT atU rfl ?_
 refine eF.2 ?_
 refine bw (fun hc=> ?_) (fun hc=> ?_)
 · have M:=aQ hc M
   refine S.bz 0 rfl rfl ?_
   obtain⟨II,atV,M⟩:=bind_some M
   refine S.dZ 1 rfl iU atV (fun axY axZ vs atW atX rp=> ?_)
   cases rp
   have S:=S.f1
   refine S.rB (j:=0) [(vi jA)] atW atX rfl rfl (aa rfl rfl) (by decide) (fun h S=> ?_)
   have atY:ah ((rI .i64) g) (iH.set cL.toNat [(vi jA)]) (v9.set cL.toNat jA):=ah.set iU (show(rI .i64) g [(vi jA)] jA from rfl) cL.toNat
   have S:Sep _ g h [.sl 3 1 gU (iH.set cL.toNat [(vi jA)]),.bx gm [gU],.bx iT [ib],.sl 3 1 ib iI,.lp xS xT .busy none,.ds DH,.bx DJ [(vi qG)],.bx DM [(.string fK.aB),(.string fK.aC),(vi fK.fArgs),(vi fK.ay),(vi fK.az),xU,xV],.bx XQ [XR],.bx XS [(.bool DD)]]:=S
   refine S.bz 2 rfl rfl ?_
   refine S.qy [[(vi cL)]] (de (m:=[(vi cL)]) (l2:=[(vi cL)]) rfl rfl (Nat.le_of_ble_eq_true rfl) rfl rfl) rfl (by decide) (tj rfl qA) (aa rfl rfl) (fun ax0 h S=> ?_)
   have XV:ah ((rI .i64) g) [[(vi cL)]] [cL]:=(ah.push ah.nil (show(rI .i64) g [(vi cL)] cL from rfl))
   have S:=S.f4
   obtain⟨atZ,M⟩:=mo M
   refine S.app (S.rd 1 rfl) (by rw [jw.1,XV.1];exact atZ) (by decide) rfl (la (l3 .i64) XV) (la (l3 .i64) jw) (fun agM h S=> ?_)
   have at0:ah ((rI .i64) g) (iI++[[(vi cL)]]) (cT++[cL]):=ah.append jw XV
   have S:=S.f4
   refine S.dv [agM] [agM] (oA (S.oF 1 rfl)) rfl (aa (S.oF 1 rfl) rfl) (Nat.le_of_ble_eq_true rfl) rfl (fun h S=> ?_)
   have S:=S.f5
   refine S.mI (fun h S=> ?_)
   have S:=S.f2
   have S:=S.f2
   have S:=S.f10
   have S:=S.f10
   have S:=S.f10
   have S:=S.f10
   have S:=S.f8
   have S:=S.f9
   have S:=S.f10
   have S:=S.f9
   have S:=S.t10
   exact tJ M tI S atY agL at0
 · have M:=aS hc M
   have S:=S.f4
   refine S.mI (fun h S=> ?_)
   have S:=S.f4
   have S:=S.f4
   have S:=S.f9
   have S:=S.f9
   have S:=S.f9
   have S:=S.f9
   have S:=S.f8
   have S:=S.f8
   have S:=S.f9
   have S:=S.f9
   exact tJ M tI S iU agL jw
theorem agN {ρ:Type}{w0:World}{c:Cx}{g h:AH}{E R:Value→W}{r:ρ}{N:Nat}{v9:List Int}{cL:Int}{v2:List Int}{v3:Bool}{cT:List Int}{jA qG:Int}{fK:ak}{gm:Nat}{gU:Value}{iH:List (List Value)}{bn:Nat}{dw:Value}{j7 iT:Nat}{ib:Value}{iI:List (List Value)}{xS:Nat}{xT:LO}{DH:List Nat}{DJ DM:Nat}{xU xV:Value}{j6:Fl→(List Int)→(List Int)→Bool→(List Int)→Option (ρ)}{xW:AH}(M:DE N v9 cL v2 v3 cT jA qG fK j6=some r) (S:Sep c g h [.bx gm [gU],.sl 3 1 gU iH,.bx bn [dw],.bx j7 [(.bool v3)],.bx iT [ib],.sl 3 1 ib iI,.lp xS xT .busy none,.ds DH,.bx DJ [(vi qG)],.bx DM [(.string fK.aB),(.string fK.aC),(vi fK.fArgs),(vi fK.ay),(vi fK.az),xU,xV]]) (iU:ah ((rI .i64) g) iH v9) (nv:ab (rI .i64) 1 g dw v2) (jw:ah ((rI .i64) g) iI cT) (XT:ab aq.rep 4 g xU fK.ae) (XU:ab aK.rep 3 g xV fK.aM) (tI:Sub xW g) (tJ:∀{f:Fl}{xX:List Int}{xY:Value}{xZ:List (List Value)}{x7:List Int}{x8:Value}{x9:Bool}{ya:List Int}{yb:Value}{yc:List (List Value)}{g2 h2:AH},j6 f xX x7 x9 ya=some r→Sub xW g2→Sep c g2 h2 [.lp xS xT f.st f.pd,.ds DH,.bx gm [xY],.sl 3 1 xY xZ,.bx DJ [(vi qG)],.bx DM [(.string fK.aB),(.string fK.aC),(vi fK.fArgs),(vi fK.ay),(vi fK.az),xU,xV],.bx bn [x8],.bx j7 [(.bool x9)],.bx iT [yb],.sl 3 1 yb yc]→ah ((rI .i64) g2) xZ xX→ab (rI .i64) 1 g2 x8 x7→ah ((rI .i64) g2) yc ya→R (.bool f.on) h2) (H:True):D6 w0 E R (au gm 0) (vi cL) (au bn 0) (au j7 0) xT xS (au iT 0) (vi jA) h:=by
 unfold D6
 unfold DE at M
 obtain⟨XN,at1,M⟩:=bind_some M
 refine CU at1 S.sub S.ok (fun _ h  S1  => ?_)
 have S:=S.dB S1
 refine gN.2 ?_
 cases hc:(!XN)
 · have M:=aS hc M
   refine ax rfl ?_
   refine S.bz 0 rfl rfl ?_
   refine ax rfl ?_
   refine ax rfl ?_
   obtain⟨tu,XG,M⟩:=bind_some M
   refine S.dZ 1 rfl iU XG (fun ax1 ax2 vs at2 at3 rp=> ?_)
   cases rp
   refine ax rfl ?_
   refine S.fG (j:=0) 1 rfl at2 at3 rfl ?_
   refine ax rfl ?_
   refine pA.2 ?_
   refine ax rfl ?_
   cases hc:(decide (0≤tu))
   · have M:=aS hc M
     refine aA (by decide) ?_
     refine aA (by decide) ?_
     refine aA (by decide) ?_
     refine aA (by decide) ?_
     refine aA (by decide) ?_
     refine aA (by decide) ?_
     refine ax rfl ?_
     refine bf.2 ?_
     refine bf.2 ?_
     refine oE ?_
     have S:=S.f3
     have S:=S.f3
     have S:=S.f9
     have S:=S.f9
     have S:=S.f9
     have S:=S.f9
     have S:=S.f9
     have S:=S.f9
     have S:=S.f9
     have S:=S.f9
     exact agK M S iU jw XT XU nv tI tJ trivial
   · have M:=aQ hc M
     refine ax rfl ?_
     refine S.bz 0 rfl rfl ?_
     refine ax rfl ?_
     refine ax rfl ?_
     obtain⟨DF,at4,M⟩:=bind_some M
     refine S.dZ 1 rfl iU at4 (fun ax3 ax4 vs at5 at6 rp=> ?_)
     cases rp
     refine ax rfl ?_
     refine S.fG (j:=0) 1 rfl at5 at6 rfl ?_
     refine ax rfl ?_
     refine ax rfl ?_
     refine oy.2 ?_
     refine ax rfl ?_
     refine bf.2 ?_
     refine bf.2 ?_
     refine bw (fun hc=> ?_) (fun hc=> ?_)
     · have M:=aQ hc M
       have S:=S.f2
       refine S.dv [cg] [cg] (oA rfl) rfl (aa rfl rfl) (Nat.le_of_ble_eq_true rfl) rfl (fun h S=> ?_)
       have S:=S.f3
       refine S.dv [(.bool false)] [(.bool false)] rfl rfl (aa rfl rfl) (Nat.le_of_ble_eq_true rfl) rfl (fun h S=> ?_)
       have S:=S.f6
       refine S.mI (fun h S=> ?_)
       have S:=S.f6
       have S:=S.f6
       have S:=S.f3
       have S:=S.f4
       have S:=S.f9
       have S:=S.f9
       have S:=S.f8
       have S:=S.f8
       have S:=S.f9
       have S:=S.f9
       exact tJ M tI S iU ab.nil jw
     · have M:=aS hc M
       have S:=S.f3
       have S:=S.f3
       have S:=S.f9
       have S:=S.f9
       have S:=S.f9
       have S:=S.f9
       have S:=S.f9
       have S:=S.f9
       have S:=S.f9
       have S:=S.f9
       exact agK M S iU jw XT XU nv tI tJ trivial
 · have M:=aQ hc M
   refine aA (by decide) ?_
   refine aA (by decide) ?_
   refine aA (by decide) ?_
   refine aA (by decide) ?_
   refine aA (by decide) ?_
   refine aA (by decide) ?_
   refine eB ?_
   refine eB ?_
   refine eB ?_
   refine eB ?_
   refine eB ?_
   refine eB ?_
   refine aA (by decide) ?_
   refine bf.2 ?_
   refine vm ?_
   have S:=S.f2
   refine S.dv [cg] [cg] (oA rfl) rfl (aa rfl rfl) (Nat.le_of_ble_eq_true rfl) rfl (fun h S=> ?_)
   have S:=S.f3
   refine S.dv [(.bool false)] [(.bool false)] rfl rfl (aa rfl rfl) (Nat.le_of_ble_eq_true rfl) rfl (fun h S=> ?_)
   have S:=S.f6
   refine S.mI (fun h S=> ?_)
   have S:=S.f6
   have S:=S.f6
   have S:=S.f3
   have S:=S.f4
   have S:=S.f9
   have S:=S.f9
   have S:=S.f8
   have S:=S.f8
   have S:=S.f9
   have S:=S.f9
   exact tJ M tI S iU ab.nil jw
theorem at7 {ρ:Type}{w0:World}{c:Cx}{g h:AH}{E R:Value→W}{r:ρ}{N:Nat}{v9:List Int}{v37:Int}{v1:ak}{v2:List Int}{v3:Bool}{cT:List Int}{cL mK:Int}{gm:Nat}{gU:Value}{iH:List (List Value)}{XW al:Nat}{av aw:Value}{bn:Nat}{dw:Value}{j7 iT:Nat}{ib:Value}{iI:List (List Value)}{n_:Nat}{o_:LO}{d_:List Nat}{j6:Fl→(List Int)→(List Int)→Bool→(List Int)→Option ρ}{xW:AH}(M:rT N v9 v37 v1 v2 v3 cT cL mK j6=some r) (S:Sep c g h [.lp n_ o_ .ready none,.ds d_,.bx gm [gU],.sl 3 1 gU iH,.bx XW [(vi v37)],.bx al [(.string v1.aB),(.string v1.aC),(vi v1.fArgs),(vi v1.ay),(vi v1.az),av,aw],.bx bn [dw],.bx j7 [(.bool v3)],.bx iT [ib],.sl 3 1 ib iI]) (iU:ah ((rI .i64) g) iH v9) (aG:ab aq.rep 4 g av v1.ae) (aJ:ab aK.rep 3 g aw v1.aM) (nv:ab (rI .i64) 1 g dw v2) (jw:ah ((rI .i64) g) iI cT) (tI:Sub xW g) (tJ:∀{f:Fl}{xX:List Int}{xY:Value}{xZ:List (List Value)}{x7:List Int}{x8:Value}{x9:Bool}{ya:List Int}{yb:Value}{yc:List (List Value)}{g2 h2:AH},j6 f xX x7 x9 ya=some r→Sub xW g2→Sep c g2 h2 [.lp n_ o_ f.st f.pd,.ds d_,.bx gm [xY],.sl 3 1 xY xZ,.bx XW [(vi v37)],.bx al [(.string v1.aB),(.string v1.aC),(vi v1.fArgs),(vi v1.ay),(vi v1.az),av,aw],.bx bn [x8],.bx j7 [(.bool x9)],.bx iT [yb],.sl 3 1 yb yc]→ah ((rI .i64) g2) xZ xX→ab (rI .i64) 1 g2 x8 x7→ah ((rI .i64) g2) yc ya→R (.bool f.on) h2):Jj w0 E R (au gm 0) (au XW 0) (au al 0) (au bn 0) (au j7 0) (au iT 0) o_ n_ (vi cL) (vi mK) h:=by
 unfold Jj
 unfold rT at M
 refine S.yE ?_
 refine S.qM (fun h S=> ?_)
 refine S.bz 2 rfl rfl ?_
 refine S.bz 4 rfl rfl ?_
 obtain⟨G1,Ng,M⟩:=bind_some M
 refine S.dZ 3 rfl iU Ng (fun ax5 ax6 vs N3 agO rp=> ?_)
 cases rp
 refine S.fG (j:=0) 3 rfl N3 agO rfl ?_
 refine bC.2 ?_
 refine S.bz 5 rfl rfl ?_
 refine S.bz 4 rfl rfl ?_
 obtain⟨NH,Xo,M⟩:=bind_some M
 refine ab.idx aG Xo (fun arX arY vs ax7 aua rp=> ?_)
 cases rp
 refine S.mq aua rfl (by decide) ?_
 obtain⟨agI,aub,M⟩:=bind_some M
 refine apO aub S.sub S.ok (fun _ h  S1  => ?_)
 have S:=S.dB S1
 refine⟨?_, ?_⟩
 · refine S.fG (j:=0) 3 rfl N3 agO rfl ?_
   exact z6
 · refine⟨?_, ?_⟩
   · exact S.aov 3 rfl iU Ng N3
   · refine⟨?_, ?_⟩
     · refine S.bz 4 rfl rfl ?_
       exact z6
     · refine⟨?_, ?_⟩
       · refine S.bz 2 rfl rfl ?_
         exact(S.rd 3 rfl).M1
       · refine fF.2 ?_
         refine cK.2 ?_
         refine bw (fun hc=> ?_) (fun hc=> ?_)
         · have M:=aQ hc M
           have S:=S.f5
           have S:=S.f5
           have S:=S.f3
           have S:=S.f3
           have S:=S.f9
           have S:=S.f9
           have S:=S.f9
           have S:=S.f9
           have S:=S.f9
           have S:=S.f9
           exact agN M S iU nv jw aG aJ tI tJ trivial
         · have M:=aS hc M
           have S:=S.f5
           have S:=S.f5
           have S:=S.f3
           have S:=S.f3
           have S:=S.f9
           have S:=S.f9
           have S:=S.f9
           have S:=S.f9
           have S:=S.f9
           have S:=S.f9
           exact agN M S iU nv jw aG aJ tI tJ trivial
theorem auc {w0:World}{c:Cx}{g h:AH}{E R:Value→W}{r:(List Int)×Bool}{N:Nat}{cT:List Int}{oT:ak}{Oa Oc:List Int}{Od:Bool}{iT:Nat}{ib:Value}{iI:List (List Value)}{d27:List Nat}{agP:Nat}{XX XY:Value}{agQ:Nat}{agR:Value}{agS:List (List Value)}{agT:Nat}{agU:Value}{agV:Nat}{n5:Value→List Nat→W}{oU:(List Int)→(List Int)→(List Int)→Bool→Option ((List Int)×Bool)}{yd:AH}(M:IJ N cT oT Oa Oc Od oU=some r) (S:Sep c g h [.bx iT [ib],.sl 3 1 ib iI,.ds d27,.bx agP [(.string oT.aB),(.string oT.aC),(vi oT.fArgs),(vi oT.ay),(vi oT.az),XX,XY],.bx agQ [agR],.sl 3 1 agR agS,.bx agT [agU],.bx agV [(.bool Od)]]) (jw:ah ((rI .i64) g) iI cT) (ax8:ab aq.rep 4 g XX oT.ae) (ax9:ab aK.rep 3 g XY oT.aM) (aud:ah ((rI .i64) g) agS Oa) (aue:ab (rI .i64) 1 g agU Oc) (vI:Sub yd g) (IL:∀{ye:Nat}{ag:List Int}{bP:Value}{bQ:List (List Value)}{aD:List Nat}{bo:List Int}{yf:Value}{bR:List (List Value)}{qH:List Int}{yg:Value}{qI:Bool}{g2 h2:AH},oU ag bo qH qI=some r→Sub yd g2→Sep c g2 h2 [.bx agP [(.string oT.aB),(.string oT.aC),(vi oT.fArgs),(vi oT.ay),(vi oT.az),XX,XY],.bx agQ [yf],.sl 3 1 yf bR,.bx agT [yg],.bx agV [(.bool qI)],.bx ye [bP],.sl 3 1 bP bQ,.ds aD]→ah ((rI .i64) g2) bQ ag→ah ((rI .i64) g2) bR bo→ab (rI .i64) 1 g2 yg qH→n5 (au ye 0) aD h2) (H:DG c R r):Jh w0 E R (au iT 0) n5 d27 h:=by
 unfold Jh
 unfold IJ at M
 refine S.bz 0 rfl rfl ?_
 refine S.alloc (l:=[cg]) (aa rfl rfl) (fun aya h S=> ?_)
 refine S.dv [ib] [ib] (oA (S.oF 2 rfl)) rfl (aa (S.oF 2 rfl) rfl) (Nat.le_of_ble_eq_true rfl) rfl (fun h S=> ?_)
 refine S.bz 0 rfl rfl ?_
 have S:=S.f2
 obtain⟨xv,HV,M⟩:=bind_some M
 refine S.aoB jw HV (fun agW ayb S auf=> ?_)
 have S:=S.f1
 refine S.dv [agW] [agW] (oA (S.oF 1 rfl)) rfl (aa (S.oF 1 rfl) rfl) (Nat.le_of_ble_eq_true rfl) rfl (fun h S=> ?_)
 have S:=S.f3
 have S:=S.f2
 have S:=S.f2
 have S:=S.f8
 have S:=S.f8
 have S:=S.f8
 have S:=S.f8
 have S:=S.f8
 have S:=S.t8
 exact IL M vI S auf aud aue
theorem aug {w0:World}{c:Cx}{g h:AH}{E R:Value→W}{r:(List Int)×Bool}{N:Nat}{cT:List Int}{v1:ak}{v9 v2:List Int}{v3:Bool}{iT:Nat}{ib:Value}{iI:List (List Value)}{al:Nat}{av aw:Value}{gm:Nat}{gU:Value}{iH:List (List Value)}{bn:Nat}{dw:Value}{j7:Nat}{d26:List Nat}{n5:Value→List Nat→W}{oU:(List Int)→(List Int)→(List Int)→Bool→Option ((List Int)×Bool)}{yd:AH}(M:IK N cT v1 v9 v2 v3 oU=some r) (S:Sep c g h [.bx iT [ib],.sl 3 1 ib iI,.bx al [(.string v1.aB),(.string v1.aC),(vi v1.fArgs),(vi v1.ay),(vi v1.az),av,aw],.bx gm [gU],.sl 3 1 gU iH,.bx bn [dw],.bx j7 [(.bool v3)],.ds d26]) (jw:ah ((rI .i64) g) iI cT) (aG:ab aq.rep 4 g av v1.ae) (aJ:ab aK.rep 3 g aw v1.aM) (iU:ah ((rI .i64) g) iH v9) (nv:ab (rI .i64) 1 g dw v2) (vI:Sub yd g) (IL:∀{ye:Nat}{ag:List Int}{bP:Value}{bQ:List (List Value)}{aD:List Nat}{bo:List Int}{yf:Value}{bR:List (List Value)}{qH:List Int}{yg:Value}{qI:Bool}{g2 h2:AH},oU ag bo qH qI=some r→Sub yd g2→Sep c g2 h2 [.bx al [(.string v1.aB),(.string v1.aC),(vi v1.fArgs),(vi v1.ay),(vi v1.az),av,aw],.bx gm [yf],.sl 3 1 yf bR,.bx bn [yg],.bx j7 [(.bool qI)],.bx ye [bP],.sl 3 1 bP bQ,.ds aD]→ah ((rI .i64) g2) bQ ag→ah ((rI .i64) g2) bR bo→ab (rI .i64) 1 g2 yg qH→n5 (au ye 0) aD h2) (H:DG c R r):Jk w0 E R (au iT 0) (au al 0) (au gm 0) (au bn 0) (au j7 0) n5 d26 h:=by
 unfold Jk
 unfold IK at M
 refine S.bz 0 rfl rfl ?_
 obtain⟨nn,Ha,M⟩:=bind_some M
 refine S.dZ 1 rfl jw Ha (fun atk atl vs XZ X0 rp=> ?_)
 cases rp
 refine S.fG (j:=0) 1 rfl XZ X0 rfl ?_
 refine S.alloc (l:=[(vi 0)]) (aa rfl rfl) (fun Nh h S=> ?_)
 refine S.dv [(vi nn)] [(vi nn)] rfl rfl (aa rfl rfl) (Nat.le_of_ble_eq_true rfl) rfl (fun h S=> ?_)
 refine S.dc [(.string v1.aB),(.string v1.aC),(vi v1.fArgs),(vi v1.ay),(vi v1.az),av,aw] 3 rfl rfl rfl (by decide) ?_
 refine S.bz 0 rfl rfl ?_
 obtain⟨agJ,auh,M⟩:=bind_some M
 refine agX N v1 nn av aw S.sub S.ok aG aJ auh (fun g h ayc S1 X1=> ?_)
 have aG:=ab.mono aG aq.mono S1.bF
 have aJ:=ab.mono aJ aK.mono S1.bF
 have jw:=ah.mono jw (fun _ _ hh=>(du .i64) _ _ _ _ S1.bF hh)
 have iU:=ah.mono iU (fun _ _ hh=>(du .i64) _ _ _ _ S1.bF hh)
 have nv:=ab.mono nv (du .i64) S1.bF
 have vI:=Sub.trans vI S1.bF
 have S:=S.pD S1
 have S:=S.f2
 have S:=S.f2
 have S:=S.f7
 have S:=S.f7
 have S:=S.f5
 have S:=S.f5
 have S:=S.f7
 have S:=S.f7
 have S:=S.f8
 obtain⟨mF,aui,M⟩:=bind_some M
 refine aeC (fun(s:(List Int)×(List Int)×Bool×(List Int)) (x:Int×Int)=>rT N s.1 nn v1 s.2.1 s.2.2.1 s.2.2.2 x.1 x.2 (fun f m0 m1 m2 m3=>some ((m0,m1,m2,m3),f))) (fun(s:(List Int)×(List Int)×Bool×(List Int)) (g h:AH) (Γ:List Ob)=>∃(gU:Value) (iH:List (List Value)) (dw:Value) (ib:Value) (iI:List (List Value)),Γ=[.bx gm [gU],.sl 3 1 gU iH,.bx Nh [(vi nn)],.bx al [(.string v1.aB),(.string v1.aC),(vi v1.fArgs),(vi v1.ay),(vi v1.az),av,aw],.bx bn [dw],.bx j7 [(.bool s.2.2.1)],.bx iT [ib],.sl 3 1 ib iI]∧ah ((rI .i64) g) iH s.1∧ab (rI .i64) 1 g dw s.2.1∧ah ((rI .i64) g) iI s.2.2.2∧ab aq.rep 4 g av v1.ae∧ab aK.rep 3 g aw v1.aM) X1 (fun s g h Γ g' h' hd sb=>by obtain⟨u0,u1,u2,u3,u4,e,z0,z1,z2,z3,z4⟩:=hd;exact⟨u0,u1,u2,u3,u4,e,ah.mono z0 (fun _ _ hh=>(du .i64) _ _ _ _ sb hh),ab.mono z1 (du .i64) sb,ah.mono z2 (fun _ _ hh=>(du .i64) _ _ _ _ sb hh),ab.mono z3 aq.mono sb,ab.mono z4 aK.mono sb⟩) S ⟨gU,iH,dw,ib,iI,rfl,iU,nv,jw,aG,aJ⟩ aui (fun lo n q s x s2 f R g2 h2 Γ2 sub S D1 bm kk=> ?_) (fun oZ g h Γ2 sg S D1=> ?_)
 · obtain⟨gU,iH,dw,ib,iI,rfl,auj,auk,aul,agY,agZ⟩:=D1
   show Jj w0 se R (au gm 0) (au Nh 0) (au al 0) (au bn 0) (au j7 0) (au iT 0) lo n (vi x.1) (vi x.2) h2
   exact at7 bm S auj agY agZ auk aul (Sub.refl g2) (fun e sb S3 aum aun auo=>by cases e;exact kk _ _ _ sb S3 ⟨_,_,_,_,_,rfl,aum,aun,auo,(ab.mono agY aq.mono sb),(ab.mono agZ aK.mono sb)⟩)
 · obtain⟨ayd,aye,aup,ayf,ayg,rfl,auq,ag0,aur,_,_⟩:=D1
   have aG:=ab.mono aG aq.mono sg
   have aJ:=ab.mono aJ aK.mono sg
   have X1:=z7.mono X1 sg
   have vI:=Sub.trans vI sg
   cases hf:mF.2 with
   | go =>
    rw [hf]at M
    have M:=aoC M
    refine aeA ?_
    have S:=S.f6
    have S:=S.f6
    have S:=S.f4
    have S:=S.f4
    have S:=S.f6
    have S:=S.f5
    have S:=S.f8
    have S:=S.f8
    have S:=S.t8
    exact auc M S aur aG aJ auq ag0 vI IL H
   | ret =>
    rw [hf]at M
    have M:=aoD M
    refine aoE ?_
    refine S.nB (fun h S=> ?_)
    refine S.bz 4 rfl rfl ?_
    refine S.bz 5 rfl rfl ?_
    cases M
    exact H _ _ aup S.bH ag0
   | ex j =>
    rw [hf]at M
    cases M
theorem aus {w0:World}{c:Cx}{g h:AH}{E R:Value→W}{r:(List Int)×Bool}{N:Nat}{v9 v2:List Int}{v3:Bool}{gm:Nat}{gU:Value}{iH:List (List Value)}{bn:Nat}{dw:Value}{j7:Nat}{d14:List Nat}  (M:XO N v9 v2 v3=some r) (S:Sep c g h [.bx gm [gU],.sl 3 1 gU iH,.bx bn [dw],.bx j7 [(.bool v3)],.ds d14]) (iU:ah ((rI .i64) g) iH v9) (nv:ab (rI .i64) 1 g dw v2)  (H:DG c R r):Jg w0 E R (au gm 0) (au bn 0) (au j7 0) d14 h:=by
 unfold Jg
 unfold XO at M
 refine S.bz 0 rfl rfl ?_
 have S:=S.f2
 refine S.dv [gU] [gU] (oA (S.oF 2 rfl)) rfl (aa (S.oF 2 rfl) rfl) (Nat.le_of_ble_eq_true rfl) rfl (fun h S=> ?_)
 have S:=S.f3
 refine S.dv [(.bool true)] [(.bool true)] rfl rfl (aa rfl rfl) (Nat.le_of_ble_eq_true rfl) rfl (fun h S=> ?_)
 have S:=S.f4
 refine S.nB (fun h S=> ?_)
 refine S.bz 1 rfl rfl ?_
 refine S.bz 0 rfl rfl ?_
 have S:=S.f3
 obtain⟨g,sg,S,aut⟩:=S.fz iU (du .i64)
 cases M
 exact H _ _ gU S.bH aut
theorem auu {w0:World}{c:Cx}{g h:AH}{E R:Value→W}{r:(List Int)×Bool}{N:Nat}{v1:ak}{v9 v2:List Int}{v3:Bool}{cT:List Int}{al:Nat}{av aw:Value}{gm:Nat}{gU:Value}{iH:List (List Value)}{bn:Nat}{dw:Value}{j7 iT:Nat}{ib:Value}{iI:List (List Value)}{d25:List Nat}{n5:Value→List Nat→W}{oU:(List Int)→(List Int)→(List Int)→Bool→Option ((List Int)×Bool)}{yd:AH}(M:XP N v1 v9 v2 v3 cT oU=some r) (S:Sep c g h [.bx al [(.string v1.aB),(.string v1.aC),(vi v1.fArgs),(vi v1.ay),(vi v1.az),av,aw],.bx gm [gU],.sl 3 1 gU iH,.bx bn [dw],.bx j7 [(.bool v3)],.bx iT [ib],.sl 3 1 ib iI,.ds d25]) (aG:ab aq.rep 4 g av v1.ae) (aJ:ab aK.rep 3 g aw v1.aM) (iU:ah ((rI .i64) g) iH v9) (nv:ab (rI .i64) 1 g dw v2) (jw:ah ((rI .i64) g) iI cT) (vI:Sub yd g) (IL:∀{ye:Nat}{ag:List Int}{bP:Value}{bQ:List (List Value)}{aD:List Nat}{bo:List Int}{yf:Value}{bR:List (List Value)}{qH:List Int}{yg:Value}{qI:Bool}{g2 h2:AH},oU ag bo qH qI=some r→Sub yd g2→Sep c g2 h2 [.bx al [(.string v1.aB),(.string v1.aC),(vi v1.fArgs),(vi v1.ay),(vi v1.az),av,aw],.bx gm [yf],.sl 3 1 yf bR,.bx bn [yg],.bx j7 [(.bool qI)],.bx ye [bP],.sl 3 1 bP bQ,.ds aD]→ah ((rI .i64) g2) bQ ag→ah ((rI .i64) g2) bR bo→ab (rI .i64) 1 g2 yg qH→n5 (au ye 0) aD h2) (H:DG c R r):D8 w0 E R (au al 0) (au gm 0) (au bn 0) (au j7 0) n5 (au iT 0) d25 h:=by
 unfold D8
 unfold XP at M
 refine S.bz 5 rfl rfl ?_
 refine S.xe 6 rfl jw ?_
 refine nh.2 ?_
 refine bw (fun hc=> ?_) (fun hc=> ?_)
 · have M:=aQ hc M
   have S:=S.f7
   have S:=S.f5
   have S:=S.f5
   have S:=S.f5
   have S:=S.f5
   have S:=S.f5
   have S:=S.f7
   have S:=S.f7
   exact aug M S jw aG aJ iU nv vI IL H
 · have M:=aS hc M
   have S:=S.f7
   have S:=S.f5
   have S:=S.f5
   have S:=S.f5
   have S:=S.f5
   have S:=S.t5
   exact aus M S iU nv H
theorem auv {w0:World}{c:Cx}{E R:Value→W}{r:(List Int)×Bool}{N:Nat}{v1:ak}{al:Nat}{av aw:Value}{gm bn j7:Nat}   (H:DG c R r):∀(n:Nat){v9 v2:List Int}{v3:Bool}{cT:List Int}{gU:Value}{iH:List (List Value)}{dw:Value}{iT:Nat}{ib:Value}{iI:List (List Value)}{d25:List Nat}{g h:AH},vH N v1 n v9 v2 v3 cT=some r→Sep c g h [.bx al [(.string v1.aB),(.string v1.aC),(vi v1.fArgs),(vi v1.ay),(vi v1.az),av,aw],.bx gm [gU],.sl 3 1 gU iH,.bx bn [dw],.bx j7 [(.bool v3)],.bx iT [ib],.sl 3 1 ib iI,.ds d25]→ab aq.rep 4 g av v1.ae→ab aK.rep 3 g aw v1.aM→ah ((rI .i64) g) iH v9→ab (rI .i64) 1 g dw v2→ah ((rI .i64) g) iI cT→eS (α:=(Value)×List Nat) (fun k a=>D8 w0 E R (au al 0) (au gm 0) (au bn 0) (au j7 0) (fun b0 q=>k ((b0),q)) a.1 a.2) n ((au iT 0),d25) h:=by
 intro n
 induction n with
 | zero =>
  intro v9 v2 v3 cT gU iH dw iT ib iI d25 g h M S aG aJ iU nv jw
  unfold vH at M;cases M
 | succ n ih =>
  intro v9 v2 v3 cT gU iH dw iT ib iI d25 g h M S aG aJ iU nv jw
  exact auu M S aG aJ iU nv jw  (Sub.refl g) (fun M2 sub S2 mu pM auw=>ih M2 S2 (ab.mono aG aq.mono sub) (ab.mono aJ aK.mono sub) pM auw mu) H
theorem auy {w0:World}{g h:AH}{Q:CR→AH→Prop}{r:(List Int)×Bool}{N:Nat}{x0:ak}{cU cV:Value}(M:Bh N x0=some r) (sg:Sub g h) (ok:h.Ok) (cv:ab aq.rep 4 g cU x0.ae) (cZ:ab aK.rep 3 g cV x0.aM) (H:DG ⟨g,h,[]⟩ (fun v=>Q (.ret v)) r):WF PP w0 O6 [(.agg ⟨[(.string x0.aB),(.string x0.aC),(vi x0.fArgs),(vi x0.ay),(vi x0.az),cU,cV]⟩)] h Q:=by
 refine aik _ ?_
 have S:=Sep.start sg ok
 unfold Zc
 unfold Bh at M
 have S:Sep _ g h [.ds ([]:List Nat)]:=S.aeB
 refine S.box [(.string x0.aB),(.string x0.aC),(vi x0.fArgs),(vi x0.ay),(vi x0.az),cU,cV] rfl (aa rfl (aa rfl (aa rfl (aa rfl (aa rfl (aa cv.one (aa cZ.one rfl))))))) (fun jl h S=> ?_)
 refine S.alloc (l:=[cg]) (aa rfl rfl) (fun CV h S=> ?_)
 refine S.alloc (l:=[(.bool false)]) (aa rfl rfl) (fun Ad h S=> ?_)
 refine S.qy [[(vi (-1))]] (de (m:=[(vi (-1))]) (l2:=[(vi (-1))]) rfl rfl (Nat.le_of_ble_eq_true rfl) rfl rfl) rfl (by decide) (tj rfl qA) (aa rfl rfl) (fun XL h S=> ?_)
 have ID:ah ((rI .i64) g) [[(vi (-1))]] [(-1)]:=(ah.push ah.nil (show(rI .i64) g [(vi (-1))] (-1)from rfl))
 refine bC.2 ?_
 refine S.bz 3 rfl rfl ?_
 refine cv.len ?_
 obtain⟨g,sg,S,vG⟩:=S.fz ID (du .i64)
 have cv:=ab.mono cv aq.mono sg
 have cZ:=ab.mono cZ aK.mono sg
 obtain⟨eM,l4,M⟩:=bind_some M
 refine auz [(-1)] (x0.ae.length:Int) XL S.sub S.ok vG l4 (fun g h Hz ag1 S1 ag2=> ?_)
 have cv:=ab.mono cv aq.mono S1.bF
 have cZ:=ab.mono cZ aK.mono S1.bF
 have vG:=ab.mono vG (du .i64) S1.bF
 have S:=S.VF S1
 refine S.alloc (l:=[cg]) (aa rfl rfl) (fun aeK h S=> ?_)
 refine S.dv [Hz] [Hz] (oA (S.oF 1 rfl)) rfl (aa (S.oF 1 rfl) rfl) (Nat.le_of_ble_eq_true rfl) rfl (fun h S=> ?_)
 refine S.bz 0 rfl rfl ?_
 obtain⟨ik,Aq,M⟩:=bind_some M
 refine S.dZ 1 rfl ag2 Aq (fun auA auB vs auC auD rp=> ?_)
 cases rp
 have S:=S.f1
 refine S.rB (j:=0) [(vi 0)] auC auD rfl rfl (aa rfl rfl) (by decide) (fun h S=> ?_)
 have auE:ah ((rI .i64) g) (ag1.set (0:Int).toNat [(vi 0)]) (eM.set (0:Int).toNat 0):=ah.set ag2 (show(rI .i64) g [(vi 0)] 0 from rfl) (0:Int).toNat
 have S:Sep _ g h [.sl 3 1 Hz (ag1.set (0:Int).toNat [(vi 0)]),.bx aeK [Hz],.bx Ad [(.bool false)],.bx CV [cg],.bx jl [(.string x0.aB),(.string x0.aC),(vi x0.fArgs),(vi x0.ay),(vi x0.az),cU,cV],.ds ([]:List Nat)]:=S
 refine S.qy [[(vi 0)]] (de (m:=[(vi 0)]) (l2:=[(vi 0)]) rfl rfl (Nat.le_of_ble_eq_true rfl) rfl rfl) rfl (by decide) (tj rfl qA) (aa rfl rfl) (fun WE h S=> ?_)
 have Xl:ah ((rI .i64) g) [[(vi 0)]] [0]:=(ah.push ah.nil (show(rI .i64) g [(vi 0)] 0 from rfl))
 refine S.alloc (l:=[cg]) (aa rfl rfl) (fun ayh h S=> ?_)
 refine S.dv [WE] [WE] (oA (S.oF 1 rfl)) rfl (aa (S.oF 1 rfl) rfl) (Nat.le_of_ble_eq_true rfl) rfl (fun h S=> ?_)
 have S:=S.f7
 have S:=S.f2
 have S:=S.f2
 have S:=S.f5
 have S:=S.f6
 have S:=S.f5
 have S:=S.f6
 have S:=S.f7
 exact⟨N,auv  H _ M S cv cZ auE ab.nil Xl⟩
def Of (N:Nat) (v4:List Int)  :Option ((List Int)×Int) :=
 some (v4,0)
def Og (N:Nat) (v1:ak)  :Option ((List Int)×Int) :=
(Bh N v1).bind fun vh =>
 bif (!vh.2)then(
 some (([]:List Int),12))else(
 Of N vh.1)
def xa (N:Nat) (x0:ak):Option ((List Int)×Int) :=
(C7 N x0).bind fun aR =>
 bif (!aR)then(
 some (([]:List Int),1))else(
 Og N x0)
abbrev X2 (c:Cx) (R:Value→W) (r:(List Int)×Int):Prop:=∀(g' h':AH) (w1:Value),Sep c g' h' []→ab (rI .i64) 1 g' w1 r.1→R (.tuple ⟨[w1,(vi r.2)]⟩) h'
theorem auF {w0:World}{c:Cx}{g h:AH}{E R:Value→W}{r:(List Int)×Int}{N:Nat}{v4:List Int}{X3:Value}  (M:Of N v4=some r) (S:Sep c g h []) (auG:ab (rI .i64) 1 g X3 v4)  (H:X2 c R r):Pm w0 E R X3 h:=by
 unfold Pm
 unfold Of at M
 cases M
 exact H _ _ X3 S.bH auG
theorem auH {w0:World}{c:Cx}{g h:AH}{E R:Value→W}{r:(List Int)×Int}{N:Nat}{v1:ak}{al:Nat}{av aw:Value}  (M:Og N v1=some r) (S:Sep c g h [.bx al [(.string v1.aB),(.string v1.aC),(vi v1.fArgs),(vi v1.ay),(vi v1.az),av,aw]]) (aG:ab aq.rep 4 g av v1.ae) (aJ:ab aK.rep 3 g aw v1.aM)  (H:X2 c R r):Pn w0 E R (au al 0) h:=by
 unfold Pn
 unfold Og at M
 refine S.dc [(.string v1.aB),(.string v1.aC),(vi v1.fArgs),(vi v1.ay),(vi v1.az),av,aw] 0 rfl rfl rfl (by decide) ?_
 obtain⟨vh,Gu,M⟩:=bind_some M
 refine auy Gu S.sub S.ok aG aJ (fun g h w_6 S1 F_7=> ?_)
 have aG:=ab.mono aG aq.mono S1.bF
 have aJ:=ab.mono aJ aK.mono S1.bF
 have S:=S.pD S1
 refine(eY rfl).2 ?_
 refine(eY rfl).2 ?_
 refine gN.2 ?_
 refine bw (fun hc=> ?_) (fun hc=> ?_)
 · have M:=aQ hc M
   cases M
   exact H _ _ cg S.bH ab.nil
 · have M:=aS hc M
   have S:=S.t0
   exact auF M S F_7 H
theorem an5 {w0:World}{g h:AH}{Q:CR→AH→Prop}{r:(List Int)×Int}{N:Nat}{x0:ak}{cU cV:Value}(M:xa N x0=some r) (sg:Sub g h) (ok:h.Ok) (cv:ab aq.rep 4 g cU x0.ae) (cZ:ab aK.rep 3 g cV x0.aM) (H:X2 ⟨g,h,[]⟩ (fun v=>Q (.ret v)) r):WF PP w0 Po [(.agg ⟨[(.string x0.aB),(.string x0.aC),(vi x0.fArgs),(vi x0.ay),(vi x0.az),cU,cV]⟩)] h Q:=by
 refine aiv _ ?_
 have S:=Sep.start sg ok
 unfold Zo
 unfold xa at M
 refine S.box [(.string x0.aB),(.string x0.aC),(vi x0.fArgs),(vi x0.ay),(vi x0.az),cU,cV] rfl (aa rfl (aa rfl (aa rfl (aa rfl (aa rfl (aa cv.one (aa cZ.one rfl))))))) (fun jl h S=> ?_)
 refine S.dc [(.string x0.aB),(.string x0.aC),(vi x0.fArgs),(vi x0.ay),(vi x0.az),cU,cV] 0 rfl rfl rfl (by decide) ?_
 obtain⟨aR,jc,M⟩:=bind_some M
 refine aeP jc S.sub S.ok cv cZ (fun _ h  S1  => ?_)
 have S:=S.dB S1
 refine gN.2 ?_
 refine bw (fun hc=> ?_) (fun hc=> ?_)
 · have M:=aQ hc M
   cases M
   exact H _ _ cg S.bH ab.nil
 · have M:=aS hc M
   exact auH M S cv cZ H
end
end Go.Ve.T
