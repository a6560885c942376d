/- Part 16: The list of a set: its numbers in order, however the map is gone through. Condition: of the model (at most 1048576 numbers). And what follows it. -/
import Derived.Test.YteeibihhdldjfaaGreatDoorVeO
import Derived.Shelf.Slices.In.SortNone
set_option linter.unusedVariables false
set_option linter.unusedSimpArgs false
namespace Go.Ve
open Go.RowKit Go.Sort
open Classical
noncomputable section
section
variable {c : Cx} {g h : AH} {Γ : List Ob}
theorem ZR : ∀ {ls : List (List Value)} {xs : List Int} {g : AH}, aM (rI .i64 g) ls xs → ls = xs.map fun x => [vi x]
 | [], [], _, _ => rfl
 | [], _ :: _, _, A => by have := A.1; simp at this
 | _ :: _, [], _, A => by have := A.1; simp at this
 | a :: ls, x :: xs, g, A => by
  have h1 : a = [vi x] := A.2 0 a x rfl rfl
  rw [h1, List.map_cons, ZR (⟨by simpa using A.1, fun i p q hp hq => A.2 (i + 1) p q (by simpa using hp) (by simpa using hq)⟩ : aM (rI .i64 g) ls xs)]
theorem Q4 (xs : List Int) : (xs.map fun x => [vi x]).flatten = xs.map vi := by
 induction xs with
 | nil => rfl
 | cons x xs ih => simp [ih]
theorem alE (g : AH) (xs : List Int) : aM (rI .i64 g) (xs.map fun x => [vi x]) xs := ⟨by simp, fun i a b ha hb => by
 rw [List.getElem?_map, hb] at ha
 cases ha; rfl⟩
theorem Sep.sort {P : Program} {w0 : World} {f : FuncId} {Q : CR → AH → Prop} (fE : Can P f) (hS0 : ∀ p cap w, Calls P f #[.slice p 0 cap] w fun e w' => e = .returned (.tuple #[]) ∧ w' = w)
 (hS : ∀ (bz off cap : Nat) (zs : List Int) (w : World), Holds (Value.int .i64) w bz off zs.toArray → bz < w.heap.size → zs.length < 4611686018427387904 →
  Calls P f #[.slice (some ⟨bz, off, none⟩) zs.length cap] w fun e w' => e = .returned (.tuple #[]) ∧ ∃ n os, w' = grow (putRow (Value.int .i64) (Sort.ahead w n) bz off (eX zs).toArray) os)
 {ty : TypeId} {v : Value} {ls : List (List Value)} {xs : List Int} (S : Sep c g h (.sl ty 1 v ls :: Γ)) (A : aM (rI .i64 g) ls xs) (AP : xs = [] → v = bN) (hlen : xs.length ≤ 1048576)
 (K : ∀ h' oj, Sep c g h' (.sl ty 1 v oj :: Γ) → aM (rI .i64 g) oj (eX xs) → Q (.ret (.tuple ⟨[]⟩)) h') : WF P w0 f [v] h Q := by
 by_cases hx : xs = []
 · subst hx
   obtain rfl := AP rfl
   exact alF fE hS0 (K h ls S (by rw [show eX [] = [] from List.mergeSort_nil]; exact A))
 · have hls := ZR A
   have Q5 : (eX xs).Perm xs := List.mergeSort_perm xs _
   have vR : (eX xs).length = xs.length := Q5.length_eq
   have O : dV h ty 1 v ls := S.dN _ List.mem_cons_self
   have get : ∀ {b lo hi : Nat} {cf : TypeId} {cc : NT Value} {o : Nat}, h.ob.get b = some (.cells lo hi cf true cc) → (h.wr b o ((eX xs).map vi)).ob.get b = some (.cells lo hi cf true (iS cc o ((eX xs).map vi))) := fun hg => by
    unfold AH.wr; rw [hg]; simp only [NT.cZ, if_true]
   have bE : ∀ {b lo hi : Nat} {cf : TypeId} {cc : NT Value} {o : Nat}, h.ob.get b = some (.cells lo hi cf true cc) → lo ≤ o → o + xs.length ≤ hi → (h.wr b o ((eX xs).map vi)).bE b o ((eX xs).map vi) := fun hg h1 h2 i u hu => by
    have du : i < (eX xs).length := by simpa using (List.getElem?_eq_some_iff.1 hu).1
    rw [AH.tL (n := xs.length) ⟨_, _, _, _, hg, h1, h2⟩ (by simp [vR]), if_pos ⟨rfl, by omega, by rw [List.length_map]; omega⟩, Nat.add_sub_cancel_left]
    exact hu
   have fin : ∀ (b lo hi : Nat) (cf : TypeId) (cc : NT Value) (o n : Nat), v = dL b o xs.length n → h.ob.get b = some (.cells lo hi cf true cc) → lo ≤ o → o + xs.length ≤ hi → h.bE b o ls.flatten →
    dV (h.wr b o ((eX xs).map vi)) ty 1 v ((eX xs).map fun x => [vi x]) → WF P w0 f [v] h Q := fun b lo hi cf cc o n hv hg h1 h2 hr O' => by
    subst hv
    refine alG fE hS hx hlen hg h1 h2 (by rw [hls, Q4] at hr; exact hr) (K _ _ (S.change (.sl ty 1 _ _) (AH.se S.ok _ _ _) (by rw [AH.lh]; exact Nat.le_refl _) (fun f _ hf => AH.tK h (fun e => hf (by subst e; simp [Ob.bz, ec]))) O' ud (fun b' cm => ?_)) (alE g _))
    have cm : b' = b := by simpa [Ob.bz, ec] using cm
    subst cm
    exact ⟨by rw [AH.lh]; exact AH.lt_of_get S.ok hg, .inr (by simp [Ob.bz, ec])⟩
   have kb : ls.length = xs.length := A.1
   cases O with
   | nil => exact absurd (List.length_eq_zero_iff.1 kb.symm) hx
   | un b o n lo hi cc _ hn hb hg h1 h2 hr hs =>
    rw [kb] at hn
    subst hn
    refine fin _ _ _ _ _ _ _ rfl hg h1 (by omega) hr (.un b o _ lo hi _ _ (by simp [vR]) hb (get hg) h1 h2 (by rw [Q4]; exact bE hg h1 (by omega)) (fun x hx => ?_))
    obtain ⟨y, _, rfl⟩ := List.mem_map.1 hx; rfl
   | kn b o n cap lo hi cf cc _ hn hb hc hg h1 h2 hr hs =>
    rw [kb] at hn
    subst hn
    refine fin _ _ _ _ _ _ _ rfl hg h1 (by omega) hr (.kn b o _ cap lo hi cf _ _ (by simp [vR]) hb hc (get hg) h1 h2 (by rw [Q4]; exact bE hg h1 (by omega)) (fun x hx => ?_))
    obtain ⟨y, _, rfl⟩ := List.mem_map.1 hx; rfl
end
namespace T
open Go.Proofs
theorem alH : Can PP RN := ⟨_, Tryz.func107, by kernel_rfl, by kernel_rfl⟩
def IA (x0 : List Int) : Option (List Int) := gu (decide (x0.length ≤ 1048576)) (some x0)
theorem akF {w0 : World} {g h : AH} {Q : CR → AH → Prop} {r x0 : List Int} {bZ : Value} (M : IA x0 = some r) (sg : Sub g h) (ok : h.Ok) (cA : sC g bZ x0)
 (H : ∀ (g' h' : AH) (w1 : Value), Sep ⟨g, h, []⟩ g' h' [] → ae (rI .i64) 1 g' w1 r → Q (.ret w1) h') : WF PP w0 JC [bZ] h Q := by
 obtain ⟨hlen, M⟩ := qQ M
 have e := Option.some.inj M
 subst e
 have hlen := of_decide_eq_true hlen
 refine aaH _ ?_
 unfold RO
 have S := Sep.start sg ok
 refine Sep.range (S.OK 3 1) cA (fun it k a => rfl) (fun xs a g1 Γ1 => ∃ ls, Γ1 = [.sl 3 1 a ls] ∧ aM (rI .i64 g1) ls xs ∧ (xs = [] → a = bN) ∧ xs.Nodup ∧ ∀ y ∈ xs, y ∈ x0) ⟨[], rfl, .nil, fun _ => rfl, .nil, fun y hy => by simp at hy⟩ ?_ ?_
 · intro it o k a g1 h1 Γ1 xs x hI wX hx iN S1 hE kk
   obtain ⟨ls, rfl, A, hn, nd, ah⟩ := hI
   have bC : xs.length + 1 ≤ x0.length := OQ (l := x :: xs) (List.nodup_cons.2 ⟨iN, nd⟩) cA.oe.nd (fun y hy => by
    rcases List.mem_cons.1 hy with rfl | hy
    · exact hx
    · exact ah y hy)
   show WP (.x .entry) [it] h1 _
   refine hE _ ?_
   refine (gT rfl).2 ?_
   refine S1.ue [[vi x]] (cJ (m := [vi x]) (l2 := [vi x]) rfl rfl (Nat.le_of_ble_eq_true rfl) rfl rfl) rfl (by decide) (uh rfl ug) (ab rfl rfl) (fun v h S => ?_)
   have A1 : aM ((rI .i64) g1) [[vi x]] [x] := aM.push aM.nil (show (rI .i64) g1 [vi x] x from rfl)
   have S := S.f2
   refine S.app (S.rd 1 rfl) (by rw [A.1, A1.1]; exact decide_eq_true (by simp; omega)) (by decide) rfl (qU (qT .i64) A1) (qU (qT .i64) A) (fun v' h S => ?_)
   have S := S.f2
   have S := S.t2
   exact kk v' g1 h _ (.refl _) S ⟨_, rfl, A.append A1, fun h => by simp at h, List.nodup_append.2 ⟨nd, by simp, fun p hp q hq e => by simp at hq; subst hq; subst e; exact iN hp⟩, fun y hy => by
    rcases List.mem_append.1 hy with hy | hy
    · exact ah y hy
    · simp at hy; subst hy; exact hx⟩
 · intro it a g1 h1 Γ1 xs wX hp hI S1
   obtain ⟨ls, rfl, A, hn, nd, ah⟩ := hI
   refine S1.sort alH (fun p cap w => Any.slices_Sort_int_none Xx p cap w) (fun bz off cap zs w => Any.slices_Sort_int Xx bz off cap zs w) A hn (by rw [hp.length_eq]; exact hlen) fun h' oj S2 A2 => ?_
   rw [alI cA.oe hp] at A2
   obtain ⟨g2, Hy, S3, F⟩ := S2.fz A2 (fG .i64)
   exact H g2 h' a S3 F
end T
end
end Go.Ve
namespace Go.Ve.T
open Go.Ve Go.Proofs
noncomputable section
set_option maxRecDepth 10000
def zy {ρ : Type} (N : Nat) (bG : Int) (v5 : List Int) (ri : aq) (fL : ag) (j5 : Int) (mG : Int) (dh : Fl → (List Int) → Option ρ) : Option ρ :=
 bif ((decide (j5 = (bf .i64 (bG + 1))) && (decide (mG = 0) && true)) != true) then (
 dh .go (jZ j5 v5)) else (
 dh .go v5)
def Dl (N : Nat) (ak : Int) (fx : ag) (Iy : List Int) (ed : Int → (List Int) → Option ((List Int))) : Option ((List Int)) :=
 ed (bf .i64 (ak + 1)) Iy
def Dm (N : Nat) (v5 : List Int) (bG : Int) (ak : Int) (bH : Bool) (fx : ag) (ed : Int → (List Int) → Option ((List Int))) : Option ((List Int)) :=
 bif bH then (
 Dl N ak fx (jZ (bf .i64 (bG + 1)) v5) ed) else (
 Dl N ak fx v5 ed)
def Dn (N : Nat) (bG : Int) (v1 : ag) (v5 : List Int) (ak : Int) (dA : Bool) (ed : Int → (List Int) → Option ((List Int))) : Option ((List Int)) :=
 bif dA then (
 Dm N v5 bG ak (decide ((bf .i64 (bG + 1)) < (v1.aa.length : Int))) v1 ed) else (
 Dm N v5 bG ak false v1 ed)
def Dp (N : Nat) (cn : aq) (bG : Int) (v1 : ag) (v5 : List Int) (ak : Int) (eF : Bool) (ed : Int → (List Int) → Option ((List Int))) : Option ((List Int)) :=
 bif eF then (
 Dn N bG v1 v5 ak true ed) else (
 Dn N bG v1 v5 ak (decide (cn.aJ = 32)) ed)
def Dq (N : Nat) (cn : aq) (bG : Int) (v1 : ag) (v5 : List Int) (ak : Int) (ed : Int → (List Int) → Option ((List Int))) : Option ((List Int)) :=
(Co cn.aJ).bind fun ij =>
 bif ij.1.kC then (
 Dp N cn bG v1 v5 ak true ed) else (
 Dp N cn bG v1 v5 ak (decide (cn.aJ = 25)) ed)
def Dr (N : Nat) (v11 : List aq) (ak : Int) (v1 : ag) (v5 : List Int) (ed : Int → (List Int) → Option ((List Int))) : Option ((List Int)) :=
(ix v11 ak).bind fun dH =>
(sM N v1 ak).bind fun ku =>
(kv (fun (s : (List Int)) (x : Int × Int) => zy N ak s dH v1 x.1 x.2 (fun f m0 => some (m0, f))) ku v5).bind fun Iz =>
 ui Iz.2 (
 Dq N dH ak v1 Iz.1 ak ed) (
 none) (fun _ => none)
def QD (N : Nat) (v5 : List Int)  : Option ((List Int)) :=
(IA v5).bind fun Y5 =>
 some Y5
def wT (N : Nat) (v12 : Int) (v11 : List aq) (v1 : ag) (v5 : List Int) (ak : Int) (ed : Int → (List Int) → Option ((List Int))) : Option ((List Int)) :=
 bif (decide (ak < v12)) then (
 Dr N v11 ak v1 v5 ed) else (
 QD N v5)
def zz (N : Nat) (v12 : Int) (v11 : List aq) (v1 : ag)  : Nat → (List Int) → Int → Option ((List Int))
 | 0, _, _ => none
 | n + 1, v5, ak => wT N v12 v11 v1 v5 ak  (fun av dJ => zz N v12 v11 v1 n dJ av)
def Ds (N : Nat) (v1 : ag)  : Option ((List Int)) :=
 zz N (v1.aa.length : Int) v1.aa v1 N (jZ 0 ([] : List Int)) 0
def wz (N : Nat) (x0 : ag) : Option ((List Int)) :=
(sH N x0).bind fun bD =>
 bif (!bD) then (
 some ([] : List Int)) else (
 Ds N x0)
abbrev pH (c : Cx) (R : Value → W) (r : (List Int)) : Prop := ∀ (g' h' : AH) (w1 : Value), Sep c g' h' [] → ae (rI .i64) 1 g' w1 r → R w1 h'
theorem akt {ρ : Type} {w0 : World} {c : Cx} {g h : AH} {E R : Value → W} {r : ρ} {N : Nat} {bG : Int} {v5 : List Int} {ri : aq} {fL : ag} {j5 mG : Int} {lS ch eU : Nat} {eV : List (Value × Value × Nat)} {eW Y6 C8 : Nat} {wO wP : Value} {n_ : Nat} {o_ : LO} {d_ : List Nat} {dh : Fl → (List Int) → Option ρ} {ji : AH} (M : zy N bG v5 ri fL j5 mG dh = some r) (S : Sep c g h [.lp n_ o_ .ready none, .ds d_, .bx lS [(vi bG)], .bx ch [(.map (some eU))], .mp eU eV eW, .bx Y6 [(vi ri.aJ), (vi ri.fA), (vi ri.fB), (vi ri.fC)], .bx C8 [(.string fL.aO), (.string fL.aP), (vi fL.fArgs), (vi fL.aK), (vi fL.aL), wO, wP]]) (hO : fb eV eW v5) (ajC : ae aq.rep 4 g wO fL.aa) (ajD : ae aE.rep 3 g wP fL.aB) (iz : Sub ji g) (iA : ∀ {f : Fl} {lP : List Int} {Y7 : Nat} {Y8 : List (Value × Value × Nat)} {Y9 : Nat} {g2 h2 : AH}, dh f lP = some r → Sub ji g2 → Sep c g2 h2 [.lp n_ o_ f.st f.pd, .ds d_, .bx lS [(vi bG)], .bx ch [(.map (some Y7))], .mp Y7 Y8 Y9, .bx Y6 [(vi ri.aJ), (vi ri.fA), (vi ri.fB), (vi ri.fC)], .bx C8 [(.string fL.aO), (.string fL.aP), (vi fL.fArgs), (vi fL.aK), (vi fL.aL), wO, wP]] → fb Y8 Y9 lP → R (.bool f.on) h2) : Eu w0 E R (al lS 0) (al ch 0) o_ n_ (vi j5) (vi mG) h := by
 unfold Eu
 unfold zy at M
 refine S.ox ?_
 refine S.lz (fun h S => ?_)
 refine dD [(vi j5), (vi mG)] (by simp only [cQ, bo, bp, bt, bw,  List.length_cons, List.length_nil, Nat.reduceAdd, Nat.zero_add, decide_true, Bool.and_self]) (by simp only [List.flatMap_cons, List.flatMap_nil, bo, bp, bt, bw,  List.cons_append, List.nil_append, List.append_nil]) ?_
 refine S.bj 2 rfl rfl ?_
 refine iw.2 ?_
 refine dD [(vi (bf .i64 (bG + 1))), (vi 0)] (by simp only [cQ, bo, bp, bt, bw,  List.length_cons, List.length_nil, Nat.reduceAdd, Nat.zero_add, decide_true, Bool.and_self]) (by simp only [List.flatMap_cons, List.flatMap_nil, bo, bp, bt, bw,  List.cons_append, List.nil_append, List.append_nil]) ?_
 refine (ahq (XY (XY ahp))).2 ?_
 refine bK (fun hc => ?_) (fun hc => ?_)
 · have M := aV hc M
   refine S.bj 3 rfl rfl ?_
   have S := S.f4
   refine S.ON hO (fun ana anb h S Qq => ?_)
   have S := S.f1
   refine S.ga (fun h S => ?_)
   have S := S.f6
   have S := S.f6
   have S := S.f3
   have S := S.f6
   have S := S.f6
   have S := S.f6
   have S := S.f6
   exact iA M iz S Qq
 · have M := aX hc M
   refine S.ga (fun h S => ?_)
   exact iA M iz S hO
theorem Za {w0 : World} {c : Cx} {g h : AH} {E R : Value → W} {r : (List Int)} {N : Nat} {ak : Int} {fx : ag} {Iy : List Int} {d18 : List Nat} {Dt : Nat} {wU wV : Value} {Zb Zc : Nat} {Zd : List (Value × Value × Nat)} {Ze : Nat} {ez : Value → List Nat → W} {ed : Int → (List Int) → Option ((List Int))} {jj : AH} (M : Dl N ak fx Iy ed = some r) (S : Sep c g h [.ds d18, .bx Dt [(.string fx.aO), (.string fx.aP), (vi fx.fArgs), (vi fx.aK), (vi fx.aL), wU, wV], .bx Zb [(.map (some Zc))], .mp Zc Zd Ze]) (QE : ae aq.rep 4 g wU fx.aa) (QF : ae aE.rep 3 g wV fx.aB) (aku : fb Zd Ze Iy) (iU : Sub jj g) (kG : ∀ {av : Int} {aY : List Nat} {dJ : List Int} {jk : Nat} {jl : List (Value × Value × Nat)} {jm : Nat} {g2 h2 : AH}, ed av dJ = some r → Sub jj g2 → Sep c g2 h2 [.bx Dt [(.string fx.aO), (.string fx.aP), (vi fx.fArgs), (vi fx.aK), (vi fx.aL), wU, wV], .bx Zb [(.map (some jk))], .mp jk jl jm, .ds aY] → fb jl jm dJ → ez (vi av) aY h2) (H : pH c R r) : zQ w0 E R (vi ak) ez d18 h := by
 unfold zQ
 unfold Dl at M
 refine iw.2 ?_
 have S := S.f3
 have S := S.f3
 have S := S.f3
 exact kG M iU S aku
theorem Zf {w0 : World} {c : Cx} {g h : AH} {E R : Value → W} {r : (List Int)} {N : Nat} {v5 : List Int} {bG ak : Int} {bH : Bool} {fx : ag} {ch eU : Nat} {eV : List (Value × Value × Nat)} {eW lS : Nat} {d26 : List Nat} {Dt : Nat} {wU wV : Value} {ez : Value → List Nat → W} {ed : Int → (List Int) → Option ((List Int))} {jj : AH} (M : Dm N v5 bG ak bH fx ed = some r) (S : Sep c g h [.bx ch [(.map (some eU))], .mp eU eV eW, .bx lS [(vi bG)], .ds d26, .bx Dt [(.string fx.aO), (.string fx.aP), (vi fx.fArgs), (vi fx.aK), (vi fx.aL), wU, wV]]) (hO : fb eV eW v5) (QE : ae aq.rep 4 g wU fx.aa) (QF : ae aE.rep 3 g wV fx.aB) (iU : Sub jj g) (kG : ∀ {av : Int} {aY : List Nat} {dJ : List Int} {jk : Nat} {jl : List (Value × Value × Nat)} {jm : Nat} {g2 h2 : AH}, ed av dJ = some r → Sub jj g2 → Sep c g2 h2 [.bx Dt [(.string fx.aO), (.string fx.aP), (vi fx.fArgs), (vi fx.aK), (vi fx.aL), wU, wV], .bx ch [(.map (some jk))], .mp jk jl jm, .ds aY] → fb jl jm dJ → ez (vi av) aY h2) (H : pH c R r) : Ep w0 E R (al ch 0) (al lS 0) (vi ak) ez d26 (.bool bH) h := by
 unfold Ep
 unfold Dm at M
 refine bK (fun hc => ?_) (fun hc => ?_)
 · have M := aV hc M
   refine S.bj 0 rfl rfl ?_
   refine S.bj 2 rfl rfl ?_
   refine iw.2 ?_
   have S := S.f1
   refine S.ON hO (fun anc ane h S akv => ?_)
   have S := S.f1
   have S := S.f4
   have S := S.f4
   have S := S.t4
   exact Za M S QE QF akv iU kG H
 · have M := aX hc M
   have S := S.f1
   have S := S.f1
   have S := S.f4
   have S := S.f4
   have S := S.t4
   exact Za M S QE QF hO iU kG H
theorem Zg {w0 : World} {c : Cx} {g h : AH} {E R : Value → W} {r : (List Int)} {N : Nat} {bG : Int} {v1 : ag} {v5 : List Int} {ak : Int} {dA : Bool} {lS ar : Nat} {aw ax : Value} {ch eU : Nat} {eV : List (Value × Value × Nat)} {eW : Nat} {d26 : List Nat} {ez : Value → List Nat → W} {ed : Int → (List Int) → Option ((List Int))} {jj : AH} (M : Dn N bG v1 v5 ak dA ed = some r) (S : Sep c g h [.bx lS [(vi bG)], .bx ar [(.string v1.aO), (.string v1.aP), (vi v1.fArgs), (vi v1.aK), (vi v1.aL), aw, ax], .bx ch [(.map (some eU))], .mp eU eV eW, .ds d26]) (aA : ae aq.rep 4 g aw v1.aa) (aG : ae aE.rep 3 g ax v1.aB) (hO : fb eV eW v5) (iU : Sub jj g) (kG : ∀ {av : Int} {aY : List Nat} {dJ : List Int} {jk : Nat} {jl : List (Value × Value × Nat)} {jm : Nat} {g2 h2 : AH}, ed av dJ = some r → Sub jj g2 → Sep c g2 h2 [.bx ar [(.string v1.aO), (.string v1.aP), (vi v1.fArgs), (vi v1.aK), (vi v1.aL), aw, ax], .bx ch [(.map (some jk))], .mp jk jl jm, .ds aY] → fb jl jm dJ → ez (vi av) aY h2) (H : pH c R r) : Er w0 E R (al lS 0) (al ar 0) (al ch 0) (vi ak) ez d26 (.bool dA) h := by
 unfold Er
 unfold Dn at M
 cases hc : dA
 · have M := aX hc M
   refine aI (by decide) ?_
   refine aI (by decide) ?_
   refine aI (by decide) ?_
   refine aI (by decide) ?_
   refine aI (by decide) ?_
   refine aI (by decide) ?_
   refine bB.2 ?_
   have S := S.f1
   have S := S.f4
   have S := S.f2
   have S := S.f4
   have S := S.f4
   exact Zf M S hO aA aG iU kG H
 · have M := aV hc M
   refine aH rfl ?_
   refine S.bj 0 rfl rfl ?_
   refine aH rfl ?_
   refine iw.2 ?_
   refine aH rfl ?_
   refine cr.2 ?_
   refine aH rfl ?_
   refine S.bj 1 rfl rfl ?_
   refine aH rfl ?_
   refine aA.len ?_
   refine aH rfl ?_
   refine jf.2 ?_
   refine bB.2 ?_
   have S := S.f1
   have S := S.f4
   have S := S.f2
   have S := S.f4
   have S := S.f4
   exact Zf M S hO aA aG iU kG H
theorem Zh {w0 : World} {c : Cx} {g h : AH} {E R : Value → W} {r : (List Int)} {N : Nat} {cn : aq} {bG : Int} {v1 : ag} {v5 : List Int} {ak : Int} {eF : Bool} {Du lS ar : Nat} {aw ax : Value} {ch eU : Nat} {eV : List (Value × Value × Nat)} {eW : Nat} {d26 : List Nat} {ez : Value → List Nat → W} {ed : Int → (List Int) → Option ((List Int))} {jj : AH} (M : Dp N cn bG v1 v5 ak eF ed = some r) (S : Sep c g h [.bx Du [(vi cn.aJ), (vi cn.fA), (vi cn.fB), (vi cn.fC)], .bx lS [(vi bG)], .bx ar [(.string v1.aO), (.string v1.aP), (vi v1.fArgs), (vi v1.aK), (vi v1.aL), aw, ax], .bx ch [(.map (some eU))], .mp eU eV eW, .ds d26]) (aA : ae aq.rep 4 g aw v1.aa) (aG : ae aE.rep 3 g ax v1.aB) (hO : fb eV eW v5) (iU : Sub jj g) (kG : ∀ {av : Int} {aY : List Nat} {dJ : List Int} {jk : Nat} {jl : List (Value × Value × Nat)} {jm : Nat} {g2 h2 : AH}, ed av dJ = some r → Sub jj g2 → Sep c g2 h2 [.bx ar [(.string v1.aO), (.string v1.aP), (vi v1.fArgs), (vi v1.aK), (vi v1.aL), aw, ax], .bx ch [(.map (some jk))], .mp jk jl jm, .ds aY] → fb jl jm dJ → ez (vi av) aY h2) (H : pH c R r) : Es w0 E R (al Du 0) (al lS 0) (al ar 0) (al ch 0) (vi ak) ez d26 (.bool eF) h := by
 unfold Es
 unfold Dp at M
 cases hc : eF
 · have M := aX hc M
   refine aH rfl ?_
   refine cr.2 ?_
   refine aH rfl ?_
   refine S.bj 0 rfl rfl ?_
   refine aH rfl ?_
   refine cg.2 ?_
   refine bB.2 ?_
   have S := S.f5
   have S := S.f5
   have S := S.f5
   have S := S.f5
   have S := S.f5
   have S := S.t5
   exact Zg M S aA aG hO iU kG H
 · have M := aV hc M
   refine aI (by decide) ?_
   refine aI (by decide) ?_
   refine aI (by decide) ?_
   refine bB.2 ?_
   have S := S.f5
   have S := S.f5
   have S := S.f5
   have S := S.f5
   have S := S.f5
   have S := S.t5
   exact Zg M S aA aG hO iU kG H
theorem akw {w0 : World} {c : Cx} {g h : AH} {E R : Value → W} {r : (List Int)} {N : Nat} {cn : aq} {bG : Int} {v1 : ag} {v5 : List Int} {ak : Int} {Du lS ar : Nat} {aw ax : Value} {ch eU : Nat} {eV : List (Value × Value × Nat)} {eW : Nat} {d26 : List Nat} {ez : Value → List Nat → W} {ed : Int → (List Int) → Option ((List Int))} {jj : AH} (M : Dq N cn bG v1 v5 ak ed = some r) (S : Sep c g h [.bx Du [(vi cn.aJ), (vi cn.fA), (vi cn.fB), (vi cn.fC)], .bx lS [(vi bG)], .bx ar [(.string v1.aO), (.string v1.aP), (vi v1.fArgs), (vi v1.aK), (vi v1.aL), aw, ax], .bx ch [(.map (some eU))], .mp eU eV eW, .ds d26]) (aA : ae aq.rep 4 g aw v1.aa) (aG : ae aE.rep 3 g ax v1.aB) (hO : fb eV eW v5) (iU : Sub jj g) (kG : ∀ {av : Int} {aY : List Nat} {dJ : List Int} {jk : Nat} {jl : List (Value × Value × Nat)} {jm : Nat} {g2 h2 : AH}, ed av dJ = some r → Sub jj g2 → Sep c g2 h2 [.bx ar [(.string v1.aO), (.string v1.aP), (vi v1.fArgs), (vi v1.aK), (vi v1.aL), aw, ax], .bx ch [(.map (some jk))], .mp jk jl jm, .ds aY] → fb jl jm dJ → ez (vi av) aY h2) (H : pH c R r) : Et w0 E R (al Du 0) (al lS 0) (al ar 0) (al ch 0) (vi ak) ez d26 h := by
 unfold Et
 unfold Dq at M
 refine cr.2 ?_
 refine S.bj 0 rfl rfl ?_
 obtain ⟨ij, akx, M⟩ := bind_some M
 refine HM cn.aJ S.sub S.ok akx (fun _ h  S1  => ?_)
 have S := S.eo S1
 refine (gT rfl).2 ?_
 refine (gT rfl).2 ?_
 refine S.alloc (l := [(.string (⟨⟨[]⟩⟩ : ByteArray)), (vi 0), (vi 0), (vi 0), (vi 0), (vi 0), (vi 0), (.bool false), (.bool false)]) (ab rfl (ab rfl (ab rfl (ab rfl (ab rfl (ab rfl (ab rfl (ab rfl (ab rfl rfl))))))))) (fun anf h S => ?_)
 refine S.cv [(.string ij.1.um), (vi ij.1.fp.e0), (vi ij.1.fp.e1), (vi ij.1.fp.e2), (vi ij.1.sF), (vi ij.1.kB.e0), (vi ij.1.kB.e1), (.bool ij.1.ll), (.bool ij.1.kC)] [(.string ij.1.um), (vi ij.1.fp.e0), (vi ij.1.fp.e1), (vi ij.1.fp.e2), (vi ij.1.sF), (vi ij.1.kB.e0), (vi ij.1.kB.e1), (.bool ij.1.ll), (.bool ij.1.kC)] rfl rfl (ab rfl (ab rfl (ab rfl (ab rfl (ab rfl (ab rfl (ab rfl (ab rfl (ab rfl rfl))))))))) (Nat.le_of_ble_eq_true rfl) rfl (fun h S => ?_)
 refine cr.2 ?_
 refine S.bj 0 rfl rfl ?_
 cases hc : ij.1.kC
 · have M := aX hc M
   refine aH rfl ?_
   refine cr.2 ?_
   refine aH rfl ?_
   refine S.bj 1 rfl rfl ?_
   refine aH rfl ?_
   refine cg.2 ?_
   refine bB.2 ?_
   have S := S.f6
   have S := S.f6
   have S := S.f6
   have S := S.f6
   have S := S.f6
   have S := S.f6
   have S := S.t6
   exact Zh M S aA aG hO iU kG H
 · have M := aV hc M
   refine aI (by decide) ?_
   refine aI (by decide) ?_
   refine aI (by decide) ?_
   refine bB.2 ?_
   have S := S.f6
   have S := S.f6
   have S := S.f6
   have S := S.f6
   have S := S.f6
   have S := S.f6
   have S := S.t6
   exact Zh M S aA aG hO iU kG H
theorem aky {w0 : World} {c : Cx} {g h : AH} {E R : Value → W} {r : (List Int)} {N : Nat} {v11 : List aq} {ak : Int} {v1 : ag} {v5 : List Int} {fw : Value} {ar : Nat} {aw ax : Value} {ch eU : Nat} {eV : List (Value × Value × Nat)} {eW : Nat} {d17 : List Nat} {ez : Value → List Nat → W} {ed : Int → (List Int) → Option ((List Int))} {jj : AH} (M : Dr N v11 ak v1 v5 ed = some r) (S : Sep c g h [.bx ar [(.string v1.aO), (.string v1.aP), (vi v1.fArgs), (vi v1.aK), (vi v1.aL), aw, ax], .bx ch [(.map (some eU))], .mp eU eV eW, .ds d17]) (pI : ae aq.rep 4 g fw v11) (aA : ae aq.rep 4 g aw v1.aa) (aG : ae aE.rep 3 g ax v1.aB) (hO : fb eV eW v5) (iU : Sub jj g) (kG : ∀ {av : Int} {aY : List Nat} {dJ : List Int} {jk : Nat} {jl : List (Value × Value × Nat)} {jm : Nat} {g2 h2 : AH}, ed av dJ = some r → Sub jj g2 → Sep c g2 h2 [.bx ar [(.string v1.aO), (.string v1.aP), (vi v1.fArgs), (vi v1.aK), (vi v1.aL), aw, ax], .bx ch [(.map (some jk))], .mp jk jl jm, .ds aY] → fb jl jm dJ → ez (vi av) aY h2) (H : pH c R r) : Ev w0 E R fw (vi ak) (al ar 0) (al ch 0) ez d17 h := by
 unfold Ev
 unfold Dr at M
 obtain ⟨dH, Cj, M⟩ := bind_some M
 refine ae.idx pI Cj (fun Pj ah0 vs Pk sJ rp => ?_)
 cases rp
 refine S.ua sJ rfl (by decide) ?_
 refine S.alloc (l := [(vi 0)]) (ab rfl rfl) (fun Pl h S => ?_)
 refine S.alloc (l := [(vi 0), (vi 0), (vi 0), (vi 0)]) (ab rfl (ab rfl (ab rfl (ab rfl rfl)))) (fun akz h S => ?_)
 have S := S.f1
 refine S.cv [(vi ak)] [(vi ak)] rfl rfl (ab rfl rfl) (Nat.le_of_ble_eq_true rfl) rfl (fun h S => ?_)
 have S := S.f1
 refine S.cv [(vi dH.aJ), (vi dH.fA), (vi dH.fB), (vi dH.fC)] [(vi dH.aJ), (vi dH.fA), (vi dH.fB), (vi dH.fC)] rfl rfl (ab rfl (ab rfl (ab rfl (ab rfl rfl)))) (Nat.le_of_ble_eq_true rfl) rfl (fun h S => ?_)
 refine S.c8 [(.string v1.aO), (.string v1.aP), (vi v1.fArgs), (vi v1.aK), (vi v1.aL), aw, ax] 2 rfl rfl rfl (by decide) ?_
 refine S.bj 1 rfl rfl ?_
 obtain ⟨ku, Ci, M⟩ := bind_some M
 refine Ih N v1 ak aw ax S.sub S.ok aA aG Ci (fun g h ang S1 QG => ?_)
 have pI := ae.mono pI aq.mono S1.bQ
 have sJ := S1.bQ.bE sJ
 have aA := ae.mono aA aq.mono S1.bQ
 have aG := ae.mono aG aE.mono S1.bQ
 have iU := Sub.trans iU S1.bQ
 have S := S.ni S1
 have S := S.f2
 have S := S.f1
 have S := S.f4
 have S := S.f4
 have S := S.f4
 have S := S.f5
 obtain ⟨Iz, Cz, M⟩ := bind_some M
 refine HJ (fun (s : (List Int)) (x : Int × Int) => zy N ak s dH v1 x.1 x.2 (fun f m0 => some (m0, f))) (fun (s : (List Int)) (g h : AH) (Γ : List Ob) => ∃ (eU : Nat) (eV : List (Value × Value × Nat)) (eW : Nat), Γ = [.bx Pl [(vi ak)], .bx ch [(.map (some eU))], .mp eU eV eW, .bx akz [(vi dH.aJ), (vi dH.fA), (vi dH.fB), (vi dH.fC)], .bx ar [(.string v1.aO), (.string v1.aP), (vi v1.fArgs), (vi v1.aK), (vi v1.aL), aw, ax]] ∧ fb eV eW s ∧ ae aq.rep 4 g aw v1.aa ∧ ae aE.rep 3 g ax v1.aB) QG (fun s g h Γ g' h' hd sb => by obtain ⟨u0, u1, u2, e, z0, z1, z2⟩ := hd; exact ⟨u0, u1, u2, e, z0, ae.mono z1 aq.mono sb, ae.mono z2 aE.mono sb⟩) S ⟨eU, eV, eW, rfl, hO, aA, aG⟩ Cz (fun lo n q s x s2 f R g2 h2 Γ2 sub S D1 bm kk => ?_) (fun oC g h Γ2 sg S D1 => ?_)
 · obtain ⟨eU, eV, eW, rfl, akA, C9, Da⟩ := D1
   show Eu w0 kM R (al Pl 0) (al ch 0) lo n (vi x.1) (vi x.2) h2
   exact akt bm S akA C9 Da (Sub.refl g2) (fun e sb S3 akB => by cases e; exact kk _ _ _ sb S3 ⟨_, _, _, rfl, akB, (ae.mono C9 aq.mono sb), (ae.mono Da aE.mono sb)⟩)
 · obtain ⟨Iw, anh, ani, rfl, akC, _, _⟩ := D1
   have pI := ae.mono pI aq.mono sg
   have sJ := sg.bE sJ
   have aA := ae.mono aA aq.mono sg
   have aG := ae.mono aG aE.mono sg
   have QG := qV.mono QG sg
   have iU := Sub.trans iU sg
   cases hf : Iz.2 with
   | go =>
    rw [hf] at M
    have M := HC M
    refine HE ?_
    have S := S.f3
    have S := S.f3
    have S := S.f5
    have S := S.f4
    have S := S.f5
    exact akw M S aA aG akC iU kG H
   | ret =>
    rw [hf] at M
    have M := HD M
    refine HF ?_
    cases M
   | ex j =>
    rw [hf] at M
    cases M
theorem akD {w0 : World} {c : Cx} {g h : AH} {E R : Value → W} {r : (List Int)} {N : Nat} {v5 : List Int} {ch eU : Nat} {eV : List (Value × Value × Nat)} {eW : Nat} {d7 : List Nat}  (M : QD N v5 = some r) (S : Sep c g h [.bx ch [(.map (some eU))], .mp eU eV eW, .ds d7]) (hO : fb eV eW v5)  (H : pH c R r) : Eo w0 E R (al ch 0) d7 h := by
 unfold Eo
 unfold QD at M
 refine S.bj 0 rfl rfl ?_
 have S := S.f1
 obtain ⟨g, sg, S, QH⟩ := S.ahe hO
 obtain ⟨Y5, akE, M⟩ := bind_some M
 refine akF akE S.sub S.ok QH (fun g h akG S1 akH => ?_)
 have QH := sC.mono QH S1.bQ
 have S := S.ni S1
 have S := S.f1
 refine S.gC (fun h S => ?_)
 cases M
 exact H _ _ akG S.bJ akH
theorem akI {w0 : World} {c : Cx} {g h : AH} {E R : Value → W} {r : (List Int)} {N : Nat} {v12 : Int} {v11 : List aq} {v1 : ag} {v5 : List Int} {ak : Int} {fw : Value} {ar : Nat} {aw ax : Value} {ch eU : Nat} {eV : List (Value × Value × Nat)} {eW : Nat} {d15 : List Nat} {ez : Value → List Nat → W} {ed : Int → (List Int) → Option ((List Int))} {jj : AH} (M : wT N v12 v11 v1 v5 ak ed = some r) (S : Sep c g h [.bx ar [(.string v1.aO), (.string v1.aP), (vi v1.fArgs), (vi v1.aK), (vi v1.aL), aw, ax], .bx ch [(.map (some eU))], .mp eU eV eW, .ds d15]) (pI : ae aq.rep 4 g fw v11) (aA : ae aq.rep 4 g aw v1.aa) (aG : ae aE.rep 3 g ax v1.aB) (hO : fb eV eW v5) (iU : Sub jj g) (kG : ∀ {av : Int} {aY : List Nat} {dJ : List Int} {jk : Nat} {jl : List (Value × Value × Nat)} {jm : Nat} {g2 h2 : AH}, ed av dJ = some r → Sub jj g2 → Sep c g2 h2 [.bx ar [(.string v1.aO), (.string v1.aP), (vi v1.fArgs), (vi v1.aK), (vi v1.aL), aw, ax], .bx ch [(.map (some jk))], .mp jk jl jm, .ds aY] → fb jl jm dJ → ez (vi av) aY h2) (H : pH c R r) : zS w0 E R (vi v12) fw (al ar 0) (al ch 0) ez (vi ak) d15 h := by
 unfold zS
 unfold wT at M
 refine jf.2 ?_
 refine bK (fun hc => ?_) (fun hc => ?_)
 · have M := aV hc M
   exact aky M S pI aA aG hO iU kG H
 · have M := aX hc M
   have S := S.f3
   have S := S.f3
   have S := S.f3
   have S := S.t3
   exact akD M S hO H
theorem akJ {w0 : World} {c : Cx} {E R : Value → W} {r : (List Int)} {N : Nat} {v12 : Int} {v11 : List aq} {v1 : ag} {fw : Value} {ar : Nat} {aw ax : Value} {ch : Nat}   (H : pH c R r) : ∀ (n : Nat) {v5 : List Int} {ak : Int} {eU : Nat} {eV : List (Value × Value × Nat)} {eW : Nat} {d15 : List Nat} {g h : AH}, zz N v12 v11 v1 n v5 ak = some r → Sep c g h [.bx ar [(.string v1.aO), (.string v1.aP), (vi v1.fArgs), (vi v1.aK), (vi v1.aL), aw, ax], .bx ch [(.map (some eU))], .mp eU eV eW, .ds d15] → ae aq.rep 4 g fw v11 → ae aq.rep 4 g aw v1.aa → ae aE.rep 3 g ax v1.aB → fb eV eW v5 → jX (α := (Value) × List Nat) (fun k a => zS w0 E R (vi v12) fw (al ar 0) (al ch 0) (fun b0 q => k ((b0), q)) a.1 a.2) n ((vi ak), d15) h := by
 intro n
 induction n with
 | zero =>
  intro v5 ak eU eV eW d15 g h M S pI aA aG hO
  unfold zz at M; cases M
 | succ n ih =>
  intro v5 ak eU eV eW d15 g h M S pI aA aG hO
  exact akI M S pI aA aG hO  (Sub.refl g) (fun M2 sub S2 Qj => ih M2 S2 (ae.mono pI aq.mono sub) (ae.mono aA aq.mono sub) (ae.mono aG aE.mono sub) Qj ) H
theorem akK {w0 : World} {c : Cx} {g h : AH} {E R : Value → W} {r : (List Int)} {N : Nat} {v1 : ag} {ar : Nat} {aw ax : Value} {d2 : List Nat}  (M : Ds N v1 = some r) (S : Sep c g h [.bx ar [(.string v1.aO), (.string v1.aP), (vi v1.fArgs), (vi v1.aK), (vi v1.aL), aw, ax], .ds d2]) (aA : ae aq.rep 4 g aw v1.aa) (aG : ae aE.rep 3 g ax v1.aB)  (H : pH c R r) : Ew w0 E R (al ar 0) d2 h := by
 unfold Ew
 unfold Ds at M
 refine S.smk (fun HN h S zv => ?_)
 refine S.ON zv (fun anj ank h S A_8 => ?_)
 refine S.alloc (l := [(.map none)]) (ab rfl rfl) (fun b_9 h S => ?_)
 refine S.cv [(.map (some HN))] [(.map (some HN))] rfl rfl (ab rfl rfl) (Nat.le_of_ble_eq_true rfl) rfl (fun h S => ?_)
 refine cr.2 ?_
 refine S.bj 2 rfl rfl ?_
 refine aA.len ?_
 have S := S.f3
 have S := S.f2
 have S := S.f2
 have S := S.f3
 exact ⟨N, akJ  H _ M S aA aA aG A_8 ⟩
theorem ag2 {w0 : World} {g h : AH} {Q : CR → AH → Prop} {r : (List Int)} {N : Nat} {x0 : ag} {cx cy : Value} (M : wz N x0 = some r) (sg : Sub g h) (ok : h.Ok) (cu : ae aq.rep 4 g cx x0.aa) (cD : ae aE.rep 3 g cy x0.aB) (H : pH ⟨g, h, []⟩ (fun v => Q (.ret v)) r) : WF PP w0 JD [(.agg ⟨[(.string x0.aO), (.string x0.aP), (vi x0.fArgs), (vi x0.aK), (vi x0.aL), cx, cy]⟩)] h Q := by
 refine aaI _ ?_
 have S := Sep.start sg ok
 unfold RQ
 unfold wz at M
 have S : Sep _ g h [.ds ([] : List Nat)] := S.HI
 refine S.box [(.string x0.aO), (.string x0.aP), (vi x0.fArgs), (vi x0.aK), (vi x0.aL), cx, cy] rfl (ab rfl (ab rfl (ab rfl (ab rfl (ab rfl (ab cu.one (ab cD.one rfl))))))) (fun jF h S => ?_)
 refine S.c8 [(.string x0.aO), (.string x0.aP), (vi x0.fArgs), (vi x0.aK), (vi x0.aL), cx, cy] 0 rfl rfl rfl (by decide) ?_
 obtain ⟨bD, jE, M⟩ := bind_some M
 refine CA jE S.sub S.ok cu cD (fun _ h  S1  => ?_)
 have S := S.eo S1
 refine fy.2 ?_
 refine bK (fun hc => ?_) (fun hc => ?_)
 · have M := aV hc M
   have S := S.f1
   refine S.gC (fun h S => ?_)
   cases M
   exact H _ _ bN S.bJ ae.nil
 · have M := aX hc M
   exact akK M S cu cD H
end
end Go.Ve.T
