/- Part 15: MADE BY A PROGRAM (lift.py): plain functions that the functions of the program compute, with the proofs that they do. No condition. -/
import Derived.Test.YteeibihhdldjfaaGreatDoorVeN
set_option linter.unusedVariables false
set_option linter.unusedSimpArgs false
namespace Go.Ve.T
open Go.Ve Go.Proofs
noncomputable section
set_option maxRecDepth 10000
def lE (w0 : World) (g : AH) (fv : Value) (f : Int → Int → Int → Option Bool) : Prop := fb fv = true ∧ ∀ (a0 : Int) (a1 : Int) (a2 : Int) (r : Bool) (E K : Value → W) (g2 h2 : AH), Sub g g2 → Sub g2 h2 → h2.Ok → f a0 a1 a2 = some r → (∀ (g' h' : AH), Sep ⟨g2, h2, []⟩ g' h' [] → K (.bool r) h') → dy PP w0 [fv, (vi a0), (vi a1), (vi a2)] E K h2
theorem lE.mono {w0 : World} {g g' : AH} {fv : Value} {f : Int → Int → Int → Option Bool} (H : lE w0 g fv f) (S : Sub g g') : lE w0 g' fv f := ⟨H.1, fun a0 a1 a2 r E K g2 h2 s1 => H.2 a0 a1 a2 r E K g2 h2 (Sub.trans S s1)⟩
def DW {ρ : Type} (N : Nat) (v3 : List Int) (gq : al) (aV : Int) (aO : Int) (iR : Fl → (List Int) → Option ρ) : Option ρ :=
(DV N v3 aV).bind fun gI =>
 bif (!gI) then (
 gu (decide (v3.length + [aV].length ≤ 1048576)) (
 iR .go (v3 ++ [aV]))) else (
 iR .go v3)
def RX (N : Nat) (v3 : List Int)  : Option ((List Int)) :=
 some v3
def DX (N : Nat) (v1 : al) (x1 : Int)  : Option ((List Int)) :=
(uB N v1 x1).bind fun cK =>
(oj (fun (s : (List Int)) (x : Int × Int) => DW N s v1 x.1 x.2 (fun f m0 => some (m0, f))) cK ([] : List Int)).bind fun I7 =>
 Cv I7.2 (
 RX N I7.1) (
 none) (fun _ => none)
def DY (N : Nat) (v1 : al) (x1 : Int) (eC : Bool)  : Option ((List Int)) :=
 bif eC then (
 some ([] : List Int)) else (
 DX N v1 x1)
def Cl (N : Nat) (x0 : al) (x1 : Int) : Option ((List Int)) :=
(ud N x0).bind fun aM =>
 bif (!aM) then (
 DY N x0 x1 true) else (
(o6 x1 0 (bt .i64 ((x0.ab.length : Int) - 1))).bind fun mG =>
 DY N x0 x1 (!mG))
abbrev I8 (c : Cx) (R : Value → W) (r : (List Int)) : Prop := ∀ (g' h' : AH) (w1 : Value), Sep c g' h' [] → ae (rI .i64) 1 g' w1 r → R w1 h'
theorem al1 {ρ : Type} {w0 : World} {c : Cx} {g h : AH} {E R : Value → W} {r : ρ} {N : Nat} {v3 : List Int} {gq : al} {aV aO : Int} {gY : Nat} {eX : Value} {nD : List (List Value)} {DZ : Nat} {xe xf : Value} {n_ : Nat} {o_ : LO} {d_ : List Nat} {iR : Fl → (List Int) → Option ρ} {px : AH} (M : DW N v3 gq aV aO iR = some r) (S : Sep c g h [.lp n_ o_ .ready none, .ds d_, .bx gY [eX], .sl 3 1 eX nD, .bx DZ [(.string gq.aE), (.string gq.aG), (vi gq.fArgs), (vi gq.aC), (vi gq.aD), xe, xf]]) (qG : au ((rI .i64) g) nD v3) (al2 : ae ak.rep 4 g xe gq.ab) (al3 : ae aH.rep 3 g xf gq.aI) (pz : Sub px g) (pA : ∀ {f : Fl} {qo2 : List Int} {aaH : Value} {aaI : List (List Value)} {g2 h2 : AH}, iR f qo2 = some r → Sub px g2 → Sep c g2 h2 [.lp n_ o_ f.st f.pd, .ds d_, .bx gY [aaH], .sl 3 1 aaH aaI, .bx DZ [(.string gq.aE), (.string gq.aG), (vi gq.fArgs), (vi gq.aC), (vi gq.aD), xe, xf]] → au ((rI .i64) g2) aaI qo2 → R (.bool f.on) h2) : EO w0 E R (az gY 0) o_ n_ (vi aV) (vi aO) h := by
 unfold EO
 unfold DW at M
 refine S.qN ?_
 refine S.mO (fun h S => ?_)
 refine S.aX 2 rfl rfl ?_
 have S := S.f3
 obtain ⟨aoT, sq, uq, al4, bq⟩ := S.aiP qG (ig .i64)
 obtain ⟨gI, C8, M⟩ := bind_some M
 refine al0 C8 uq S.ok al4 (fun _ h  S1  => ?_)
 have S := bq _ _ S1
 refine ec.2 ?_
 refine bp (fun hc => ?_) (fun hc => ?_)
 · have M := aR hc M
   refine S.aX 3 rfl rfl ?_
   refine S.qA [[(vi aV)]] (cL (m := [(vi aV)]) (l2 := [(vi aV)]) rfl rfl (Nat.le_of_ble_eq_true rfl) rfl rfl) rfl (by decide) (qC rfl qB) (aa rfl rfl) (fun ZW h S => ?_)
   have pt : au ((rI .i64) g) [[(vi aV)]] [aV] := (au.push au.nil (show (rI .i64) g [(vi aV)] aV from rfl))
   have S := S.f1
   obtain ⟨C9, M⟩ := mD M
   refine S.app (S.rd 1 rfl) (by rw [qG.1, pt.1]; exact C9) (by decide) rfl (kA (kz .i64) pt) (kA (kz .i64) qG) (fun IG h S => ?_)
   have Da : au ((rI .i64) g) (nD ++ [[(vi aV)]]) (v3 ++ [aV]) := au.append qG pt
   have S := S.f4
   refine S.cZ [IG] [IG] (tA (S.oi 1 rfl)) rfl (aa (S.oi 1 rfl) rfl) (Nat.le_of_ble_eq_true rfl) rfl (fun h S => ?_)
   have S := S.f3
   refine S.jx (fun h S => ?_)
   have S := S.f5
   have S := S.f3
   have S := S.f3
   have S := S.f5
   have S := S.f4
   have S := S.t5
   exact pA M pz S Da
 · have M := aS hc M
   have S := S.f1
   refine S.jx (fun h S => ?_)
   have S := S.f4
   have S := S.f2
   have S := S.f4
   have S := S.f4
   have S := S.f4
   exact pA M pz S qG
theorem al5 {w0 : World} {c : Cx} {g h : AH} {E R : Value → W} {r : (List Int)} {N : Nat} {v3 : List Int} {gY : Nat} {eX : Value} {nD : List (List Value)} {d4 : List Nat}  (M : RX N v3 = some r) (S : Sep c g h [.bx gY [eX], .sl 3 1 eX nD, .ds d4]) (qG : au ((rI .i64) g) nD v3)  (H : I8 c R r) : EN w0 E R (az gY 0) d4 h := by
 unfold EN
 unfold RX at M
 refine S.aX 0 rfl rfl ?_
 have S := S.f2
 refine S.jb (fun h S => ?_)
 have S := S.f1
 obtain ⟨g, sg, S, al6⟩ := S.fz qG (ig .i64)
 cases M
 exact H _ _ eX S.bj al6
theorem al7 {w0 : World} {c : Cx} {g h : AH} {E R : Value → W} {r : (List Int)} {N : Nat} {v1 : al} {x1 : Int} {ah : Nat} {av aw : Value} {d2 : List Nat}  (M : DX N v1 x1 = some r) (S : Sep c g h [.bx ah [(.string v1.aE), (.string v1.aG), (vi v1.fArgs), (vi v1.aC), (vi v1.aD), av, aw], .ds d2]) (aA : ae ak.rep 4 g av v1.ab) (aB : ae aH.rep 3 g aw v1.aI)  (H : I8 c R r) : EP w0 E R (az ah 0) (vi x1) d2 h := by
 unfold EP
 unfold DX at M
 refine S.alloc (l := [cH]) (aa rfl rfl) (fun b_6 h S => ?_)
 refine S.bV [(.string v1.aE), (.string v1.aG), (vi v1.fArgs), (vi v1.aC), (vi v1.aD), av, aw] 1 rfl rfl rfl (by decide) ?_
 obtain ⟨cK, gH, M⟩ := bind_some M
 refine RY N v1 x1 av aw S.sub S.ok aA aB gH (fun g h w_9 S1 o3 => ?_)
 have aA := ae.mono aA ak.mono S1.bX
 have aB := ae.mono aB aH.mono S1.bX
 have S := S.lC S1
 have S := S.tZ 3 1
 have S := S.f2
 have S := S.f1
 have S := S.f2
 have S := S.f3
 obtain ⟨I7, wC, M⟩ := bind_some M
 refine Qs (fun (s : (List Int)) (x : Int × Int) => DW N s v1 x.1 x.2 (fun f m0 => some (m0, f))) (fun (s : (List Int)) (g h : AH) (Γ : List Ob) => ∃ (eX : Value) (nD : List (List Value)), Γ = [.bx b_6 [eX], .sl 3 1 eX nD, .bx ah [(.string v1.aE), (.string v1.aG), (vi v1.fArgs), (vi v1.aC), (vi v1.aD), av, aw]] ∧ au ((rI .i64) g) nD s ∧ ae ak.rep 4 g av v1.ab ∧ ae aH.rep 3 g aw v1.aI) o3 (fun s g h Γ g' h' hd sb => by obtain ⟨u0, u1, e, z0, z1, z2⟩ := hd; exact ⟨u0, u1, e, au.mono z0 (fun _ _ hh => (ig .i64) _ _ _ _ sb hh), ae.mono z1 ak.mono sb, ae.mono z2 aH.mono sb⟩) S ⟨cH, [], rfl, (au.nil (R := (rI .i64) g)), aA, aB⟩ wC (fun lo n q s x s2 f R g2 h2 Γ2 sub S D1 bm kk => ?_) (fun oy g h Γ2 sg S D1 => ?_)
 · obtain ⟨eX, nD, rfl, al8, D3, D4⟩ := D1
   show EO w0 ox R (az b_6 0) lo n (vi x.1) (vi x.2) h2
   exact al1 bm S al8 D3 D4 (Sub.refl g2) (fun e sb S3 al9 => by cases e; exact kk _ _ _ sb S3 ⟨_, _, rfl, al9, (ae.mono D3 ak.mono sb), (ae.mono D4 aH.mono sb)⟩)
 · obtain ⟨aoU, aoV, rfl, RZ, _, _⟩ := D1
   have aA := ae.mono aA ak.mono sg
   have aB := ae.mono aB aH.mono sg
   have o3 := sd.mono o3 sg
   cases hf : I7.2 with
   | go =>
    rw [hf] at M
    have M := Qn M
    refine Qp ?_
    have S := S.f2
    have S := S.f2
    have S := S.t3
    exact al5 M S RZ H
   | ret =>
    rw [hf] at M
    have M := Qo M
    refine Qq ?_
    cases M
   | ex j =>
    rw [hf] at M
    cases M
theorem aaJ {w0 : World} {c : Cx} {g h : AH} {E R : Value → W} {r : (List Int)} {N : Nat} {v1 : al} {x1 : Int} {eC : Bool} {ah : Nat} {av aw : Value}  (M : DY N v1 x1 eC = some r) (S : Sep c g h [.bx ah [(.string v1.aE), (.string v1.aG), (vi v1.fArgs), (vi v1.aC), (vi v1.aD), av, aw], .ds ([] : List Nat)]) (aA : ae ak.rep 4 g av v1.ab) (aB : ae aH.rep 3 g aw v1.aI)  (H : I8 c R r) : ES w0 E R (az ah 0) (vi x1) (.bool eC) h := by
 unfold ES
 unfold DY at M
 refine bp (fun hc => ?_) (fun hc => ?_)
 · have M := aR hc M
   have S := S.f1
   refine S.jb (fun h S => ?_)
   cases M
   exact H _ _ cH S.bj ae.nil
 · have M := aS hc M
   exact al7 M S aA aB H
theorem aiz {w0 : World} {g h : AH} {Q : CR → AH → Prop} {r : (List Int)} {N : Nat} {x0 : al} {x1 : Int} {bN bO : Value} (M : Cl N x0 x1 = some r) (sg : Sub g h) (ok : h.Ok) (bL : ae ak.rep 4 g bN x0.ab) (bS : ae aH.rep 3 g bO x0.aI) (H : I8 ⟨g, h, []⟩ (fun v => Q (.ret v)) r) : WF PP w0 J4 [(.agg ⟨[(.string x0.aE), (.string x0.aG), (vi x0.fArgs), (vi x0.aC), (vi x0.aD), bN, bO]⟩), (vi x1)] h Q := by
 refine ab1 _ _ ?_
 have S := Sep.start sg ok
 unfold Tj
 unfold Cl at M
 have S : Sep _ g h [.ds ([] : List Nat)] := S.Qr
 refine S.box [(.string x0.aE), (.string x0.aG), (vi x0.fArgs), (vi x0.aC), (vi x0.aD), bN, bO] rfl (aa rfl (aa rfl (aa rfl (aa rfl (aa rfl (aa bL.one (aa bS.one rfl))))))) (fun fX h S => ?_)
 refine S.bV [(.string x0.aE), (.string x0.aG), (vi x0.fArgs), (vi x0.aC), (vi x0.aD), bN, bO] 0 rfl rfl rfl (by decide) ?_
 obtain ⟨aM, eG, M⟩ := bind_some M
 refine Iu eG S.sub S.ok bL bS (fun _ h  S1  => ?_)
 have S := S.bY S1
 refine ec.2 ?_
 cases hc : (!aM)
 · have M := aS hc M
   refine ax rfl ?_
   refine ax rfl ?_
   refine bg.2 ?_
   refine ax rfl ?_
   refine S.aX 0 rfl rfl ?_
   refine ax rfl ?_
   refine bL.len ?_
   refine ax rfl ?_
   refine mA.2 ?_
   refine ax rfl ?_
   obtain ⟨mG, sn, M⟩ := bind_some M
   refine wm sn S.sub S.ok (fun _ h  S1  => ?_)
   have S := S.bY S1
   refine ax rfl ?_
   refine ec.2 ?_
   refine bf.2 ?_
   exact aaJ M S bL bS H
 · have M := aR hc M
   refine ay (by decide) ?_
   refine ay (by decide) ?_
   refine ay (by decide) ?_
   refine ay (by decide) ?_
   refine ay (by decide) ?_
   refine ay (by decide) ?_
   refine ay (by decide) ?_
   refine bf.2 ?_
   exact aaJ M S bL bS H
def I9 {ρ : Type} (N : Nat) (v8 : List Bool) (db : Int) (v11 : List Int) (R0 : Int → Int → Int → Option Bool) (D5 : Int) (D6 : List Bool) (j7 : al) (iR : Fl → (List Bool) → (List Bool) → (List Int) → Option (ρ)) : Option (ρ) :=
(ix v8 db).bind fun qH =>
 bif (!qH) then (
(ix v8 db).bind fun Ry =>
 gu (decide (v11.length + [db].length ≤ 1048576)) (
 iR .go D6 (v8.set db.toNat true) (v11 ++ [db]))) else (
 iR .go D6 v8 v11)
def D7 {ρ : Type} (N : Nat) (v2 : Int → Int → Int → Option Bool) (du : Int) (v3 : List Bool) (v8 : List Bool) (v11 : List Int) (l7 : al) (db : Int) (mT : Int) (iR : Fl → (List Bool) → (List Bool) → (List Int) → Option ρ) : Option ρ :=
(v2 du db mT).bind fun CQ =>
 bif (!CQ) then (
 iR .ret ([] : List Bool) v8 v11) else (
 I9 N v8 db v11 v2 du v3 l7 iR)
def zK (N : Nat) (v11 : List Int) (v1 : al) (v2 : Int → Int → Int → Option Bool) (v3 : List Bool) (v8 : List Bool) (cM : (List Int) → (List Bool) → (List Bool) → Option ((List Bool))) : Option ((List Bool)) :=
(ix v11 (bt .i64 ((v11.length : Int) - 1))).bind fun mK =>
(Cu v11 0 (bt .i64 ((v11.length : Int) - 1))).bind fun nw =>
(uB N v1 mK).bind fun Dx =>
(oj (fun (s : (List Bool) × (List Bool) × (List Int)) (x : Int × Int) => D7 N v2 mK s.1 s.2.1 s.2.2 v1 x.1 x.2 (fun f m0 m1 m2 => some ((m0, m1, m2), f))) Dx (v3, v8, nw)).bind fun xg =>
 Cv xg.2 (
 cM xg.1.2.2 xg.1.1 xg.1.2.1) (
 some xg.1.1) (fun _ => none)
def Ja (N : Nat) (v8 : List Bool) (v3 : List Bool)  : Option ((List Bool)) :=
 some v8
def D8 (N : Nat) (v11 : List Int) (v1 : al) (v2 : Int → Int → Int → Option Bool) (v3 : List Bool) (v8 : List Bool) (cM : (List Int) → (List Bool) → (List Bool) → Option ((List Bool))) : Option ((List Bool)) :=
 bif (decide (0 < (v11.length : Int))) then (
 zK N v11 v1 v2 v3 v8 cM) else (
 Ja N v8 v3)
def zL (N : Nat) (v1 : al) (v2 : Int → Int → Int → Option Bool)  : Nat → (List Int) → (List Bool) → (List Bool) → Option ((List Bool))
 | 0, _, _, _ => none
 | n + 1, v11, v3, v8 => D8 N v11 v1 v2 v3 v8  (fun cf l8 l9 => zL N v1 v2 n cf l8 l9)
def D9 (N : Nat) (x0 : al) (x1 : Int → Int → Int → Option Bool) : Option ((List Bool)) :=
 gu (decide (0 ≤ (x0.ab.length : Int)) && decide ((x0.ab.length : Int) ≤ 65536)) (
(ix (List.replicate (x0.ab.length : Int).toNat false) 0).bind fun lY =>
 zL N x0 x1 N [0] ([] : List Bool) ((List.replicate (x0.ab.length : Int).toNat false).set (0 : Int).toNat true))
abbrev Ea (c : Cx) (R : Value → W) (r : (List Bool)) : Prop := ∀ (g' h' : AH) (w1 : Value), Sep c g' h' [] → ae rB 1 g' w1 r → R w1 h'
theorem ama {ρ : Type} {w0 : World} {c : Cx} {g h : AH} {E R : Value → W} {r : ρ} {N : Nat} {v8 : List Bool} {db : Int} {v11 : List Int} {R0 : Int → Int → Int → Option Bool} {D5 : Int} {D6 : List Bool} {j7 : al} {iG : Nat} {gr : Value} {gZ : List (List Value)} {jt : Nat} {fR : Value} {ja : List (List Value)} {Jb : Nat} {Jc : LO} {R3 : List Nat} {R4 : Nat} {Jd : Value} {R5 R6 : Nat} {R7 : Value} {R8 : Nat} {Je Jf : Value} {iR : Fl → (List Bool) → (List Bool) → (List Int) → Option (ρ)} {px : AH} (M : I9 N v8 db v11 R0 D5 D6 j7 iR = some r) (S : Sep c g h [.bx iG [gr], .sl 4 1 gr gZ, .bx jt [fR], .sl 3 1 fR ja, .lp Jb Jc .busy none, .ds R3, .bx R4 [Jd], .bx R5 [(vi D5)], .bx R6 [R7], .bx R8 [(.string j7.aE), (.string j7.aG), (vi j7.fArgs), (vi j7.aC), (vi j7.aD), Je, Jf]]) (j8 : au (rB g) gZ v8) (kB : au ((rI .i64) g) ja v11) (aoW : lE w0 g Jd R0) (aaK : ae rB 1 g R7 D6) (aoX : ae ak.rep 4 g Je j7.ab) (aoY : ae aH.rep 3 g Jf j7.aI) (pz : Sub px g) (pA : ∀ {f : Fl} {l8 : List Bool} {pB : Value} {l9 : List Bool} {pC : Value} {pD : List (List Value)} {Eb : List Int} {Ec : Value} {Ed : List (List Value)} {g2 h2 : AH}, iR f l8 l9 Eb = some r → Sub px g2 → Sep c g2 h2 [.lp Jb Jc f.st f.pd, .ds R3, .bx R4 [Jd], .bx R5 [(vi D5)], .bx R6 [pB], .bx iG [pC], .sl 4 1 pC pD, .bx jt [Ec], .sl 3 1 Ec Ed, .bx R8 [(.string j7.aE), (.string j7.aG), (vi j7.fArgs), (vi j7.aC), (vi j7.aD), Je, Jf]] → ae rB 1 g2 pB l8 → au (rB g2) pD l9 → au ((rI .i64) g2) Ed Eb → R (.bool f.on) h2) (H : True) : Fm w0 E R (az iG 0) (vi db) (az jt 0) Jc Jb h := by
 unfold Fm
 unfold I9 at M
 refine S.aX 0 rfl rfl ?_
 obtain ⟨qH, RF, M⟩ := bind_some M
 refine S.mE 1 rfl j8 RF (fun akM akN vs amb amc rp => ?_)
 cases rp
 refine S.yY (j := 0) 1 rfl amb amc rfl ?_
 refine ec.2 ?_
 refine bp (fun hc => ?_) (fun hc => ?_)
 · have M := aR hc M
   refine S.aX 0 rfl rfl ?_
   obtain ⟨Ry, RG, M⟩ := bind_some M
   refine S.mE 1 rfl j8 RG (fun akP akQ vs RH RI rp => ?_)
   cases rp
   have S := S.f1
   refine S.ua (j := 0) [(.bool true)] RH RI rfl rfl (aa rfl rfl) (by decide) (fun h S => ?_)
   have RJ : au (rB g) (gZ.set db.toNat [(.bool true)]) (v8.set db.toNat true) := au.set j8 (show rB g [(.bool true)] true from rfl) db.toNat
   have S : Sep _ g h [.sl 4 1 gr (gZ.set db.toNat [(.bool true)]), .bx iG [gr], .bx jt [fR], .sl 3 1 fR ja, .lp Jb Jc .busy none, .ds R3, .bx R4 [Jd], .bx R5 [(vi D5)], .bx R6 [R7], .bx R8 [(.string j7.aE), (.string j7.aG), (vi j7.fArgs), (vi j7.aC), (vi j7.aD), Je, Jf]] := S
   refine S.aX 2 rfl rfl ?_
   refine S.qA [[(vi db)]] (cL (m := [(vi db)]) (l2 := [(vi db)]) rfl rfl (Nat.le_of_ble_eq_true rfl) rfl rfl) rfl (by decide) (qC rfl qB) (aa rfl rfl) (fun aoZ h S => ?_)
   have R9 : au ((rI .i64) g) [[(vi db)]] [db] := (au.push au.nil (show (rI .i64) g [(vi db)] db from rfl))
   have S := S.f4
   obtain ⟨amd, M⟩ := mD M
   refine S.app (S.rd 1 rfl) (by rw [kB.1, R9.1]; exact amd) (by decide) rfl (kA (kz .i64) R9) (kA (kz .i64) kB) (fun aaL h S => ?_)
   have ame : au ((rI .i64) g) (ja ++ [[(vi db)]]) (v11 ++ [db]) := au.append kB R9
   have S := S.f4
   refine S.cZ [aaL] [aaL] (tA (S.oi 1 rfl)) rfl (aa (S.oi 1 rfl) rfl) (Nat.le_of_ble_eq_true rfl) rfl (fun h S => ?_)
   have S := S.f5
   refine S.jx (fun h S => ?_)
   have S := S.f10
   have S := S.f3
   have S := S.f3
   have S := S.f5
   have S := S.f6
   have S := S.f10
   have S := S.f10
   have S := S.f10
   have S := S.f10
   have S := S.f9
   have S := S.t10
   exact pA M pz S aaK RJ ame
 · have M := aS hc M
   have S := S.f4
   refine S.jx (fun h S => ?_)
   have S := S.f9
   have S := S.f5
   have S := S.f5
   have S := S.f5
   have S := S.f5
   have S := S.f9
   have S := S.f9
   have S := S.f9
   have S := S.f9
   have S := S.f9
   exact pA M pz S aaK j8 kB
theorem amf {ρ : Type} {w0 : World} {c : Cx} {g h : AH} {E R : Value → W} {r : ρ} {N : Nat} {v2 : Int → Int → Int → Option Bool} {du : Int} {v3 v8 : List Bool} {v11 : List Int} {l7 : al} {db mT : Int} {fP : Nat} {lF : Value} {Sa gY : Nat} {eX : Value} {iG : Nat} {gr : Value} {gZ : List (List Value)} {jt : Nat} {fR : Value} {ja : List (List Value)} {aaM : Nat} {Sb Sc : Value} {n_ : Nat} {o_ : LO} {d_ : List Nat} {iR : Fl → (List Bool) → (List Bool) → (List Int) → Option ρ} {px : AH} (M : D7 N v2 du v3 v8 v11 l7 db mT iR = some r) (S : Sep c g h [.lp n_ o_ .ready none, .ds d_, .bx fP [lF], .bx Sa [(vi du)], .bx gY [eX], .bx iG [gr], .sl 4 1 gr gZ, .bx jt [fR], .sl 3 1 fR ja, .bx aaM [(.string l7.aE), (.string l7.aG), (vi l7.fArgs), (vi l7.aC), (vi l7.aD), Sb, Sc]]) (mL : lE w0 g lF v2) (ou : ae rB 1 g eX v3) (j8 : au (rB g) gZ v8) (kB : au ((rI .i64) g) ja v11) (amg : ae ak.rep 4 g Sb l7.ab) (amh : ae aH.rep 3 g Sc l7.aI) (pz : Sub px g) (pA : ∀ {f : Fl} {l8 : List Bool} {pB : Value} {l9 : List Bool} {pC : Value} {pD : List (List Value)} {Eb : List Int} {Ec : Value} {Ed : List (List Value)} {g2 h2 : AH}, iR f l8 l9 Eb = some r → Sub px g2 → Sep c g2 h2 [.lp n_ o_ f.st f.pd, .ds d_, .bx fP [lF], .bx Sa [(vi du)], .bx gY [pB], .bx iG [pC], .sl 4 1 pC pD, .bx jt [Ec], .sl 3 1 Ec Ed, .bx aaM [(.string l7.aE), (.string l7.aG), (vi l7.fArgs), (vi l7.aC), (vi l7.aD), Sb, Sc]] → ae rB 1 g2 pB l8 → au (rB g2) pD l9 → au ((rI .i64) g2) Ed Eb → R (.bool f.on) h2) : Fo w0 E R (az fP 0) (az Sa 0) (az gY 0) (az iG 0) (az jt 0) o_ n_ (vi db) (vi mT) h := by
 unfold Fo
 unfold D7 at M
 refine S.qN ?_
 refine S.mO (fun h S => ?_)
 refine S.aX 2 rfl rfl ?_
 refine S.aX 3 rfl rfl ?_
 obtain ⟨CQ, Q2, M⟩ := bind_some M
 refine mL.2 du db mT _ _ _ _ _ (Sub.refl _) S.sub S.ok  Q2 (fun _ h  S1  => ?_)
 have S := S.bY S1
 refine ec.2 ?_
 refine bp (fun hc => ?_) (fun hc => ?_)
 · have M := aR hc M
   have S := S.f4
   refine S.cZ [cH] [cH] (tA rfl) rfl (aa rfl rfl) (Nat.le_of_ble_eq_true rfl) rfl (fun h S => ?_)
   have S := S.f1
   refine S.jx (fun h S => ?_)
   have S := S.f9
   have S := S.f9
   have S := S.f9
   have S := S.f9
   have S := S.f9
   have S := S.f6
   have S := S.f9
   have S := S.f9
   have S := S.f9
   have S := S.f9
   exact pA M pz S ae.nil j8 kB
 · have M := aS hc M
   have S := S.f9
   have S := S.f5
   have S := S.f5
   have S := S.f5
   have S := S.f5
   have S := S.f5
   have S := S.f9
   have S := S.f9
   have S := S.f9
   have S := S.f9
   exact ama M S j8 kB mL ou amg amh pz pA trivial
theorem ami {w0 : World} {c : Cx} {g h : AH} {E R : Value → W} {r : (List Bool)} {N : Nat} {v11 : List Int} {v1 : al} {v2 : Int → Int → Int → Option Bool} {v3 v8 : List Bool} {jt : Nat} {fR : Value} {ja : List (List Value)} {ah : Nat} {av aw : Value} {fP : Nat} {lF : Value} {gY : Nat} {eX : Value} {iG : Nat} {gr : Value} {gZ : List (List Value)} {d22 : List Nat} {cW : List Nat → W} {cM : (List Int) → (List Bool) → (List Bool) → Option ((List Bool))} {gn : AH} (M : zK N v11 v1 v2 v3 v8 cM = some r) (S : Sep c g h [.bx jt [fR], .sl 3 1 fR ja, .bx ah [(.string v1.aE), (.string v1.aG), (vi v1.fArgs), (vi v1.aC), (vi v1.aD), av, aw], .bx fP [lF], .bx gY [eX], .bx iG [gr], .sl 4 1 gr gZ, .ds d22]) (kB : au ((rI .i64) g) ja v11) (aA : ae ak.rep 4 g av v1.ab) (aB : ae aH.rep 3 g aw v1.aI) (mL : lE w0 g lF v2) (ou : ae rB 1 g eX v3) (j8 : au (rB g) gZ v8) (gp : Sub gn g) (ik : ∀ {aq : List Nat} {cf : List Int} {Ee : Value} {cT : List (List Value)} {l8 : List Bool} {pB : Value} {l9 : List Bool} {pC : Value} {pD : List (List Value)} {g2 h2 : AH}, cM cf l8 l9 = some r → Sub gn g2 → Sep c g2 h2 [.bx jt [Ee], .sl 3 1 Ee cT, .bx ah [(.string v1.aE), (.string v1.aG), (vi v1.fArgs), (vi v1.aC), (vi v1.aD), av, aw], .bx fP [lF], .bx gY [pB], .bx iG [pC], .sl 4 1 pC pD, .ds aq] → au ((rI .i64) g2) cT cf → ae rB 1 g2 pB l8 → au (rB g2) pD l9 → cW aq h2) (H : Ea c R r) : Fp w0 E R (az jt 0) (az ah 0) (az fP 0) (az gY 0) (az iG 0) cW d22 h := by
 unfold Fp
 unfold zK at M
 refine S.aX 0 rfl rfl ?_
 refine S.aX 0 rfl rfl ?_
 refine S.Cs 1 rfl kB ?_
 refine mA.2 ?_
 obtain ⟨mK, Dq, M⟩ := bind_some M
 refine S.mE 1 rfl kB Dq (fun ao0 ao1 vs Q0 amj rp => ?_)
 cases rp
 refine S.yY (j := 0) 1 rfl Q0 amj rfl ?_
 refine S.alloc (l := [(vi 0)]) (aa rfl rfl) (fun RR h S => ?_)
 refine S.cZ [(vi mK)] [(vi mK)] rfl rfl (aa rfl rfl) (Nat.le_of_ble_eq_true rfl) rfl (fun h S => ?_)
 refine S.aX 1 rfl rfl ?_
 refine S.aX 1 rfl rfl ?_
 refine S.Cs 2 rfl kB ?_
 refine mA.2 ?_
 have S := S.f2
 obtain ⟨nw, r8, M⟩ := bind_some M
 refine S.ai0 kB r8 (fun Jg amk S DN => ?_)
 have S := S.f2
 refine S.cZ [Jg] [Jg] (tA (S.oi 1 rfl)) rfl (aa (S.oi 1 rfl) rfl) (Nat.le_of_ble_eq_true rfl) rfl (fun h S => ?_)
 refine S.bV [(.string v1.aE), (.string v1.aG), (vi v1.fArgs), (vi v1.aC), (vi v1.aD), av, aw] 3 rfl rfl rfl (by decide) ?_
 refine S.aX 2 rfl rfl ?_
 obtain ⟨Dx, RE, M⟩ := bind_some M
 refine RY N v1 mK av aw S.sub S.ok aA aB RE (fun g h ao2 S1 Sd => ?_)
 have aA := ae.mono aA ak.mono S1.bX
 have aB := ae.mono aB aH.mono S1.bX
 have DN := au.mono DN (fun _ _ hh => (ig .i64) _ _ _ _ S1.bX hh)
 have mL := lE.mono mL S1.bX
 have ou := ae.mono ou qz S1.bX
 have j8 := au.mono j8 (fun _ _ hh => qz _ _ _ _ S1.bX hh)
 have gp := Sub.trans gp S1.bX
 have S := S.lC S1
 have S := S.f3
 have S := S.f2
 have S := S.f2
 have S := S.f7
 have S := S.f7
 have S := S.f7
 have S := S.f6
 have S := S.f7
 have S := S.f8
 obtain ⟨xg, aml, M⟩ := bind_some M
 refine Qs (fun (s : (List Bool) × (List Bool) × (List Int)) (x : Int × Int) => D7 N v2 mK s.1 s.2.1 s.2.2 v1 x.1 x.2 (fun f m0 m1 m2 => some ((m0, m1, m2), f))) (fun (s : (List Bool) × (List Bool) × (List Int)) (g h : AH) (Γ : List Ob) => ∃ (eX : Value) (gr : Value) (gZ : List (List Value)) (fR : Value) (ja : List (List Value)), Γ = [.bx fP [lF], .bx RR [(vi mK)], .bx gY [eX], .bx iG [gr], .sl 4 1 gr gZ, .bx jt [fR], .sl 3 1 fR ja, .bx ah [(.string v1.aE), (.string v1.aG), (vi v1.fArgs), (vi v1.aC), (vi v1.aD), av, aw]] ∧ ae rB 1 g eX s.1 ∧ au (rB g) gZ s.2.1 ∧ au ((rI .i64) g) ja s.2.2 ∧ lE w0 g lF v2 ∧ ae ak.rep 4 g av v1.ab ∧ ae aH.rep 3 g aw v1.aI) Sd (fun s g h Γ g' h' hd sb => by obtain ⟨u0, u1, u2, u3, u4, e, z0, z1, z2, z3, z4, z5⟩ := hd; exact ⟨u0, u1, u2, u3, u4, e, ae.mono z0 qz sb, au.mono z1 (fun _ _ hh => qz _ _ _ _ sb hh), au.mono z2 (fun _ _ hh => (ig .i64) _ _ _ _ sb hh), lE.mono z3 sb, ae.mono z4 ak.mono sb, ae.mono z5 aH.mono sb⟩) S ⟨eX, gr, gZ, Jg, amk, rfl, ou, j8, DN, mL, aA, aB⟩ aml (fun lo n q s x s2 f R g2 h2 Γ2 sub S D1 bm kk => ?_) (fun mU g h Γ2 sg S D1 => ?_)
 · obtain ⟨eX, gr, gZ, fR, ja, rfl, amm, amn, amo, aaN, aaO, aaP⟩ := D1
   show Fo w0 ox R (az fP 0) (az RR 0) (az gY 0) (az iG 0) (az jt 0) lo n (vi x.1) (vi x.2) h2
   exact amf bm S aaN amm amn amo aaO aaP (Sub.refl g2) (fun e sb S3 amp amq amr => by cases e; exact kk _ _ _ sb S3 ⟨_, _, _, _, _, rfl, amp, amq, amr, (lE.mono aaN sb), (ae.mono aaO ak.mono sb), (ae.mono aaP aH.mono sb)⟩)
 · obtain ⟨ams, ao3, ao4, ao5, ao6, rfl, aaQ, amt, amu, _, _, _⟩ := D1
   have aA := ae.mono aA ak.mono sg
   have aB := ae.mono aB aH.mono sg
   have Sd := sd.mono Sd sg
   have mL := lE.mono mL sg
   have gp := Sub.trans gp sg
   cases hf : xg.2 with
   | go =>
    rw [hf] at M
    have M := Qn M
    refine Qp ?_
    have S := S.f5
    have S := S.f5
    have S := S.f5
    have S := S.f4
    have S := S.f8
    have S := S.f8
    have S := S.f8
    have S := S.t8
    exact ik M gp S amu aaQ amt
   | ret =>
    rw [hf] at M
    have M := Qo M
    refine Qq ?_
    refine S.jb (fun h S => ?_)
    refine S.aX 2 rfl rfl ?_
    cases M
    exact H _ _ ams S.bj aaQ
   | ex j =>
    rw [hf] at M
    cases M
theorem amv {w0 : World} {c : Cx} {g h : AH} {E R : Value → W} {r : (List Bool)} {N : Nat} {v8 v3 : List Bool} {iG : Nat} {gr : Value} {gZ : List (List Value)} {gY : Nat} {eX : Value} {d16 : List Nat}  (M : Ja N v8 v3 = some r) (S : Sep c g h [.bx iG [gr], .sl 4 1 gr gZ, .bx gY [eX], .ds d16]) (j8 : au (rB g) gZ v8) (ou : ae rB 1 g eX v3)  (H : Ea c R r) : Fk w0 E R (az iG 0) (az gY 0) d16 h := by
 unfold Fk
 unfold Ja at M
 refine S.aX 0 rfl rfl ?_
 have S := S.f2
 refine S.cZ [gr] [gr] (tA (S.oi 2 rfl)) rfl (aa (S.oi 2 rfl) rfl) (Nat.le_of_ble_eq_true rfl) rfl (fun h S => ?_)
 have S := S.f3
 refine S.jb (fun h S => ?_)
 refine S.aX 0 rfl rfl ?_
 have S := S.f2
 obtain ⟨g, sg, S, amw⟩ := S.fz j8 qz
 cases M
 exact H _ _ gr S.bj amw
theorem amx {w0 : World} {c : Cx} {g h : AH} {E R : Value → W} {r : (List Bool)} {N : Nat} {v11 : List Int} {v1 : al} {v2 : Int → Int → Int → Option Bool} {v3 v8 : List Bool} {jt : Nat} {fR : Value} {ja : List (List Value)} {ah : Nat} {av aw : Value} {fP : Nat} {lF : Value} {gY : Nat} {eX : Value} {iG : Nat} {gr : Value} {gZ : List (List Value)} {d21 : List Nat} {cW : List Nat → W} {cM : (List Int) → (List Bool) → (List Bool) → Option ((List Bool))} {gn : AH} (M : D8 N v11 v1 v2 v3 v8 cM = some r) (S : Sep c g h [.bx jt [fR], .sl 3 1 fR ja, .bx ah [(.string v1.aE), (.string v1.aG), (vi v1.fArgs), (vi v1.aC), (vi v1.aD), av, aw], .bx fP [lF], .bx gY [eX], .bx iG [gr], .sl 4 1 gr gZ, .ds d21]) (kB : au ((rI .i64) g) ja v11) (aA : ae ak.rep 4 g av v1.ab) (aB : ae aH.rep 3 g aw v1.aI) (mL : lE w0 g lF v2) (ou : ae rB 1 g eX v3) (j8 : au (rB g) gZ v8) (gp : Sub gn g) (ik : ∀ {aq : List Nat} {cf : List Int} {Ee : Value} {cT : List (List Value)} {l8 : List Bool} {pB : Value} {l9 : List Bool} {pC : Value} {pD : List (List Value)} {g2 h2 : AH}, cM cf l8 l9 = some r → Sub gn g2 → Sep c g2 h2 [.bx jt [Ee], .sl 3 1 Ee cT, .bx ah [(.string v1.aE), (.string v1.aG), (vi v1.fArgs), (vi v1.aC), (vi v1.aD), av, aw], .bx fP [lF], .bx gY [pB], .bx iG [pC], .sl 4 1 pC pD, .ds aq] → au ((rI .i64) g2) cT cf → ae rB 1 g2 pB l8 → au (rB g2) pD l9 → cW aq h2) (H : Ea c R r) : Ae w0 E R (az jt 0) (az ah 0) (az fP 0) (az gY 0) (az iG 0) cW d21 h := by
 unfold Ae
 unfold D8 at M
 refine S.aX 0 rfl rfl ?_
 refine S.Cs 1 rfl kB ?_
 refine oe.2 ?_
 refine bp (fun hc => ?_) (fun hc => ?_)
 · have M := aR hc M
   exact ami M S kB aA aB mL ou j8 gp ik H
 · have M := aS hc M
   have S := S.f7
   have S := S.f5
   have S := S.f7
   have S := S.f7
   have S := S.t4
   exact amv M S j8 ou H
theorem amy {w0 : World} {c : Cx} {E R : Value → W} {r : (List Bool)} {N : Nat} {v1 : al} {v2 : Int → Int → Int → Option Bool} {jt ah : Nat} {av aw : Value} {fP : Nat} {lF : Value} {gY iG : Nat}   (H : Ea c R r) : ∀ (n : Nat) {v11 : List Int} {v3 v8 : List Bool} {fR : Value} {ja : List (List Value)} {eX gr : Value} {gZ : List (List Value)} {d21 : List Nat} {g h : AH}, zL N v1 v2 n v11 v3 v8 = some r → Sep c g h [.bx jt [fR], .sl 3 1 fR ja, .bx ah [(.string v1.aE), (.string v1.aG), (vi v1.fArgs), (vi v1.aC), (vi v1.aD), av, aw], .bx fP [lF], .bx gY [eX], .bx iG [gr], .sl 4 1 gr gZ, .ds d21] → au ((rI .i64) g) ja v11 → ae ak.rep 4 g av v1.ab → ae aH.rep 3 g aw v1.aI → lE w0 g lF v2 → ae rB 1 g eX v3 → au (rB g) gZ v8 → gG (α := (Unit) × List Nat) (fun k a => Ae w0 E R (az jt 0) (az ah 0) (az fP 0) (az gY 0) (az iG 0) (fun  q => k ((), q)) a.2) n ((), d21) h := by
 intro n
 induction n with
 | zero =>
  intro v11 v3 v8 fR ja eX gr gZ d21 g h M S kB aA aB mL ou j8
  unfold zL at M; cases M
 | succ n ih =>
  intro v11 v3 v8 fR ja eX gr gZ d21 g h M S kB aA aB mL ou j8
  exact amx M S kB aA aB mL ou j8  (Sub.refl g) (fun M2 sub S2 sw amz amA => ih M2 S2 sw (ae.mono aA ak.mono sub) (ae.mono aB aH.mono sub) (lE.mono mL sub) amz amA ) H
theorem amB {w0 : World} {g h : AH} {Q : CR → AH → Prop} {r : (List Bool)} {N : Nat} {x0 : al} {x1 : Int → Int → Int → Option Bool} {bN bO cr : Value} (M : D9 N x0 x1 = some r) (sg : Sub g h) (ok : h.Ok) (bL : ae ak.rep 4 g bN x0.ab) (bS : ae aH.rep 3 g bO x0.aI) (cS : lE w0 g cr x1) (H : Ea ⟨g, h, []⟩ (fun v => Q (.ret v)) r) : WF PP w0 La [(.agg ⟨[(.string x0.aE), (.string x0.aG), (vi x0.fArgs), (vi x0.aC), (vi x0.aD), bN, bO]⟩), cr] h Q := by
 refine acU _ _ ?_
 have S := Sep.start sg ok
 unfold TN
 unfold D9 at M
 have S : Sep _ g h [.ds ([] : List Nat)] := S.Qr
 refine S.box [(.string x0.aE), (.string x0.aG), (vi x0.fArgs), (vi x0.aC), (vi x0.aD), bN, bO] rfl (aa rfl (aa rfl (aa rfl (aa rfl (aa rfl (aa bL.one (aa bS.one rfl))))))) (fun fX h S => ?_)
 refine S.box [cr] (tA cS.1) (aa cS.1 rfl) (fun yU h S => ?_)
 refine S.alloc (l := [cH]) (aa rfl rfl) (fun wz h S => ?_)
 refine bg.2 ?_
 refine S.aX 2 rfl rfl ?_
 refine bL.len ?_
 obtain ⟨DF, M⟩ := mD M
 refine S.Qh DF rfl (aa rfl rfl) (fun su h S => ?_)
 have qI : au (rB g) (List.replicate (x0.ab.length : Int).toNat [(.bool false)]) (List.replicate (x0.ab.length : Int).toNat false) := au.P3 (show rB g [(.bool false)] false from rfl) _
 refine S.alloc (l := [cH]) (aa rfl rfl) (fun b_7 h S => ?_)
 refine S.cZ [su] [su] (tA (S.oi 1 rfl)) rfl (aa (S.oi 1 rfl) rfl) (Nat.le_of_ble_eq_true rfl) rfl (fun h S => ?_)
 refine S.qA [[(vi 0)]] (cL (m := [(vi 0)]) (l2 := [(vi 0)]) rfl rfl (Nat.le_of_ble_eq_true rfl) rfl rfl) rfl (by decide) (qC rfl qB) (aa rfl rfl) (fun Jh h S => ?_)
 have A_9 : au ((rI .i64) g) [[(vi 0)]] [0] := (au.push au.nil (show (rI .i64) g [(vi 0)] 0 from rfl))
 refine S.alloc (l := [cH]) (aa rfl rfl) (fun QY h S => ?_)
 refine S.cZ [Jh] [Jh] (tA (S.oi 1 rfl)) rfl (aa (S.oi 1 rfl) rfl) (Nat.le_of_ble_eq_true rfl) rfl (fun h S => ?_)
 refine S.aX 2 rfl rfl ?_
 obtain ⟨lY, tY, M⟩ := bind_some M
 refine S.mE 3 rfl qI tY (fun ao7 ao8 vs QM amC rp => ?_)
 cases rp
 have S := S.f3
 refine S.ua (j := 0) [(.bool true)] QM amC rfl rfl (aa rfl rfl) (by decide) (fun h S => ?_)
 have amD : au (rB g) ((List.replicate (x0.ab.length : Int).toNat [(.bool false)]).set (0 : Int).toNat [(.bool true)]) ((List.replicate (x0.ab.length : Int).toNat false).set (0 : Int).toNat true) := au.set qI (show rB g [(.bool true)] true from rfl) (0 : Int).toNat
 have S : Sep _ g h [.sl 4 1 su ((List.replicate (x0.ab.length : Int).toNat [(.bool false)]).set (0 : Int).toNat [(.bool true)]), .bx QY [Jh], .sl 3 1 Jh [[(vi 0)]], .bx b_7 [su], .bx wz [cH], .bx yU [cr], .bx fX [(.string x0.aE), (.string x0.aG), (vi x0.fArgs), (vi x0.aC), (vi x0.aD), bN, bO], .ds ([] : List Nat)] := S
 have S := S.f7
 have S := S.f1
 have S := S.f4
 have S := S.f5
 have S := S.f6
 have S := S.f7
 have S := S.f7
 have S := S.f7
 exact ⟨N, amy  H _ M S A_9 bL bS cS ae.nil amD ⟩
def uC (x0 : Int) (x1 : Int) (x2 : Int) : Option Bool :=
 some true
abbrev amE (c : Cx) (R : Value → W) (r : Bool) : Prop := ∀ (g' h' : AH), Sep c g' h' [] → R (.bool r) h'
theorem amF {w0 : World} {g h : AH} {Q : CR → AH → Prop} {r : Bool} {x0 x1 x2 : Int} (M : uC x0 x1 x2 = some r) (sg : Sub g h) (ok : h.Ok)  (H : amE ⟨g, h, []⟩ (fun v => Q (.ret v)) r) : WF PP w0 Fq [(vi x0), (vi x1), (vi x2)] h Q := by
 refine acX _ _ _ ?_
 have S := Sep.start sg ok
 unfold TO
 unfold uC at M
 cases M
 exact H _ _  S.bj
def Se (N : Nat) (v1 : al)  : Option ((List Bool)) :=
(D9 N v1 (fun a0 a1 a2 => uC a0 a1 a2)).bind fun ff =>
 some ff
def Cg (N : Nat) (x0 : al) : Option ((List Bool)) :=
(ud N x0).bind fun aM =>
 bif (!aM) then (
 some ([] : List Bool)) else (
 Se N x0)
abbrev aaR (c : Cx) (R : Value → W) (r : (List Bool)) : Prop := ∀ (g' h' : AH) (w1 : Value), Sep c g' h' [] → ae rB 1 g' w1 r → R w1 h'
theorem amG {w0 : World} {c : Cx} {g h : AH} {E R : Value → W} {r : (List Bool)} {N : Nat} {v1 : al} {ah : Nat} {av aw : Value}  (M : Se N v1 = some r) (S : Sep c g h [.bx ah [(.string v1.aE), (.string v1.aG), (vi v1.fArgs), (vi v1.aC), (vi v1.aD), av, aw]]) (aA : ae ak.rep 4 g av v1.ab) (aB : ae aH.rep 3 g aw v1.aI)  (H : aaR c R r) : Lb w0 E R (az ah 0) h := by
 unfold Lb
 unfold Se at M
 refine S.bV [(.string v1.aE), (.string v1.aG), (vi v1.fArgs), (vi v1.aC), (vi v1.aD), av, aw] 0 rfl rfl rfl (by decide) ?_
 have Q7 : lE w0 g (fc Fq) (fun a0 a1 a2 => uC a0 a1 a2) := ⟨rfl, fun a0 a1 a2 r E K g2 h2 s1 s2 s3  m1 k1 => amF m1 s2 s3 k1⟩
 obtain ⟨ff, ku, M⟩ := bind_some M
 refine amB ku S.sub S.ok aA aB Q7 (fun g h w_7 S1 F_8 => ?_)
 have aA := ae.mono aA ak.mono S1.bX
 have aB := ae.mono aB aH.mono S1.bX
 have S := S.lC S1
 cases M
 exact H _ _ w_7 S.bj F_8
theorem air {w0 : World} {g h : AH} {Q : CR → AH → Prop} {r : (List Bool)} {N : Nat} {x0 : al} {bN bO : Value} (M : Cg N x0 = some r) (sg : Sub g h) (ok : h.Ok) (bL : ae ak.rep 4 g bN x0.ab) (bS : ae aH.rep 3 g bO x0.aI) (H : aaR ⟨g, h, []⟩ (fun v => Q (.ret v)) r) : WF PP w0 Lc [(.agg ⟨[(.string x0.aE), (.string x0.aG), (vi x0.fArgs), (vi x0.aC), (vi x0.aD), bN, bO]⟩)] h Q := by
 refine acY _ ?_
 have S := Sep.start sg ok
 unfold TP
 unfold Cg at M
 refine S.box [(.string x0.aE), (.string x0.aG), (vi x0.fArgs), (vi x0.aC), (vi x0.aD), bN, bO] rfl (aa rfl (aa rfl (aa rfl (aa rfl (aa rfl (aa bL.one (aa bS.one rfl))))))) (fun fX h S => ?_)
 refine S.bV [(.string x0.aE), (.string x0.aG), (vi x0.fArgs), (vi x0.aC), (vi x0.aD), bN, bO] 0 rfl rfl rfl (by decide) ?_
 obtain ⟨aM, eG, M⟩ := bind_some M
 refine Iu eG S.sub S.ok bL bS (fun _ h  S1  => ?_)
 have S := S.bY S1
 refine ec.2 ?_
 refine bp (fun hc => ?_) (fun hc => ?_)
 · have M := aR hc M
   cases M
   exact H _ _ cH S.bj ae.nil
 · have M := aS hc M
   exact amG M S bL bS H
end
end Go.Ve.T
