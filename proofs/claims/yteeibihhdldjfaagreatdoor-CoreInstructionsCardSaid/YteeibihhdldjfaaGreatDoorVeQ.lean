/- Part 17: The list of a set: its numbers in order, however the map is gone through. Condition: of the model (at most 1048576 numbers). And what follows it. -/
import Derived.Test.YteeibihhdldjfaaGreatDoorVeP
import Derived.Shelf.Slices.In.SortNone
set_option linter.unusedVariables false
set_option linter.unusedSimpArgs false
namespace Go.Ve
open Go.RowKit Go.Sort
open Classical
noncomputable section
section
variable {c : Cx} {g h : AH} {Γ : List Ob}
theorem aby : ∀ {ls : List (List Value)} {xs : List Int} {g : AH}, au (rI .i64 g) ls xs → ls = xs.map fun x => [vi x]
 | [], [], _, _ => rfl
 | [], _ :: _, _, A => by have := A.1; simp at this
 | _ :: _, [], _, A => by have := A.1; simp at this
 | a :: ls, x :: xs, g, A => by
  have h1 : a = [vi x] := A.2 0 a x rfl rfl
  rw [h1, List.map_cons, aby (⟨by simpa using A.1, fun i p q hp hq => A.2 (i + 1) p q (by simpa using hp) (by simpa using hq)⟩ : au (rI .i64 g) ls xs)]
theorem SM (xs : List Int) : (xs.map fun x => [vi x]).flatten = xs.map vi := by
 induction xs with
 | nil => rfl
 | cons x xs ih => simp [ih]
theorem anG (g : AH) (xs : List Int) : au (rI .i64 g) (xs.map fun x => [vi x]) xs := ⟨by simp, fun i a b ha hb => by
 rw [List.getElem?_map, hb] at ha
 cases ha; rfl⟩
theorem Sep.sort {P : Program} {w0 : World} {f : FuncId} {Q : CR → AH → Prop} (gS : Can P f) (hS0 : ∀ p cap w, Calls P f #[.slice p 0 cap] w fun e w' => e = .returned (.tuple #[]) ∧ w' = w)
 (hS : ∀ (bA off cap : Nat) (zs : List Int) (w : World), Holds (Value.int .i64) w bA off zs.toArray → bA < w.heap.size → zs.length < 4611686018427387904 →
  Calls P f #[.slice (some ⟨bA, off, none⟩) zs.length cap] w fun e w' => e = .returned (.tuple #[]) ∧ ∃ n os, w' = grow (putRow (Value.int .i64) (Sort.ahead w n) bA off (fq zs).toArray) os)
 {ty : TypeId} {v : Value} {ls : List (List Value)} {xs : List Int} (S : Sep c g h (.sl ty 1 v ls :: Γ)) (A : au (rI .i64 g) ls xs) (A8 : xs = [] → v = cH) (hlen : xs.length ≤ 1048576)
 (K : ∀ h' sc, Sep c g h' (.sl ty 1 v sc :: Γ) → au (rI .i64 g) sc (fq xs) → Q (.ret (.tuple ⟨[]⟩)) h') : WF P w0 f [v] h Q := by
 by_cases hx : xs = []
 · subst hx
   obtain rfl := A8 rfl
   exact anH gS hS0 (K h ls S (by rw [show fq [] = [] from List.mergeSort_nil]; exact A))
 · have hls := aby A
   have SN : (fq xs).Perm xs := List.mergeSort_perm xs _
   have vr : (fq xs).length = xs.length := SN.length_eq
   have O : ei h ty 1 v ls := S.dT _ List.mem_cons_self
   have get : ∀ {b lo hi : Nat} {cz : TypeId} {cc : NT Value} {o : Nat}, h.ob.get b = some (.cells lo hi cz true cc) → (h.wr b o ((fq xs).map vi)).ob.get b = some (.cells lo hi cz true (jo cc o ((fq xs).map vi))) := fun hg => by
    unfold AH.wr; rw [hg]; simp only [NT.dc, if_true]
   have bU : ∀ {b lo hi : Nat} {cz : TypeId} {cc : NT Value} {o : Nat}, h.ob.get b = some (.cells lo hi cz true cc) → lo ≤ o → o + xs.length ≤ hi → (h.wr b o ((fq xs).map vi)).bU b o ((fq xs).map vi) := fun hg h1 h2 i u hu => by
    have dS : i < (fq xs).length := by simpa using (List.getElem?_eq_some_iff.1 hu).1
    rw [AH.yD (n := xs.length) ⟨_, _, _, _, hg, h1, h2⟩ (by simp [vr]), if_pos ⟨rfl, by omega, by rw [List.length_map]; omega⟩, Nat.add_sub_cancel_left]
    exact hu
   have fin : ∀ (b lo hi : Nat) (cz : TypeId) (cc : NT Value) (o n : Nat), v = fG b o xs.length n → h.ob.get b = some (.cells lo hi cz true cc) → lo ≤ o → o + xs.length ≤ hi → h.bU b o ls.flatten →
    ei (h.wr b o ((fq xs).map vi)) ty 1 v ((fq xs).map fun x => [vi x]) → WF P w0 f [v] h Q := fun b lo hi cz cc o n hv hg h1 h2 hr O' => by
    subst hv
    refine anI gS hS hx hlen hg h1 h2 (by rw [hls, SM] at hr; exact hr) (K _ _ (S.change (.sl ty 1 _ _) (AH.vG S.ok _ _ _) (by rw [AH.mz]; exact Nat.le_refl _) (fun f _ hf => AH.tt h (fun e => hf (by subst e; simp [Ob.bA, ej]))) O' wi (fun b' cw => ?_)) (anG g _))
    have cw : b' = b := by simpa [Ob.bA, ej] using cw
    subst cw
    exact ⟨by rw [AH.mz]; exact AH.lt_of_get S.ok hg, .inr (by simp [Ob.bA, ej])⟩
   have kK : ls.length = xs.length := A.1
   cases O with
   | nil => exact absurd (List.length_eq_zero_iff.1 kK.symm) hx
   | un b o n lo hi cc _ hn hb hg h1 h2 hr hs =>
    rw [kK] at hn
    subst hn
    refine fin _ _ _ _ _ _ _ rfl hg h1 (by omega) hr (.un b o _ lo hi _ _ (by simp [vr]) hb (get hg) h1 h2 (by rw [SM]; exact bU hg h1 (by omega)) (fun x hx => ?_))
    obtain ⟨y, _, rfl⟩ := List.mem_map.1 hx; rfl
   | kn b o n cap lo hi cz cc _ hn hb hc hg h1 h2 hr hs =>
    rw [kK] at hn
    subst hn
    refine fin _ _ _ _ _ _ _ rfl hg h1 (by omega) hr (.kn b o _ cap lo hi cz _ _ (by simp [vr]) hb hc (get hg) h1 h2 (by rw [SM]; exact bU hg h1 (by omega)) (fun x hx => ?_))
    obtain ⟨y, _, rfl⟩ := List.mem_map.1 hx; rfl
end
namespace T
open Go.Proofs
theorem anJ : Can PP Tn := ⟨_, Tryz.func107, by kernel_rfl, by kernel_rfl⟩
def Jk (x0 : List Int) : Option (List Int) := gu (decide (x0.length ≤ 1048576)) (some x0)
theorem amS {w0 : World} {g h : AH} {Q : CR → AH → Prop} {r x0 : List Int} {bw : Value} (M : Jk x0 = some r) (sg : Sub g h) (ok : h.Ok) (cb : r9 g bw x0)
 (H : ∀ (g' h' : AH) (w1 : Value), Sep ⟨g, h, []⟩ g' h' [] → ae (rI .i64) 1 g' w1 r → Q (.ret w1) h') : WF PP w0 Kj [bw] h Q := by
 obtain ⟨hlen, M⟩ := mD M
 have e := Option.some.inj M
 subst e
 have hlen := of_decide_eq_true hlen
 refine ab9 _ ?_
 unfold To
 have S := Sep.start sg ok
 refine Sep.range (S.tZ 3 1) cb (fun it k a => rfl) (fun xs a g1 Γ1 => ∃ ls, Γ1 = [.sl 3 1 a ls] ∧ au (rI .i64 g1) ls xs ∧ (xs = [] → a = cH) ∧ xs.Nodup ∧ ∀ y ∈ xs, y ∈ x0) ⟨[], rfl, .nil, fun _ => rfl, .nil, fun y hy => by simp at hy⟩ ?_ ?_
 · intro it o k a g1 h1 Γ1 xs x hI xk hx jh S1 hE kk
   obtain ⟨ls, rfl, A, hn, nd, ar⟩ := hI
   have bW : xs.length + 1 ≤ x0.length := Qe (l := x :: xs) (List.nodup_cons.2 ⟨jh, nd⟩) cb.oh.nd (fun y hy => by
    rcases List.mem_cons.1 hy with rfl | hy
    · exact hx
    · exact ar y hy)
   show WP (.x .entry) [it] h1 _
   refine hE _ ?_
   refine (fH rfl).2 ?_
   refine S1.qA [[vi x]] (cL (m := [vi x]) (l2 := [vi x]) rfl rfl (Nat.le_of_ble_eq_true rfl) rfl rfl) rfl (by decide) (qC rfl qB) (aa rfl rfl) (fun v h S => ?_)
   have A1 : au ((rI .i64) g1) [[vi x]] [x] := au.push au.nil (show (rI .i64) g1 [vi x] x from rfl)
   have S := S.f2
   refine S.app (S.rd 1 rfl) (by rw [A.1, A1.1]; exact decide_eq_true (by simp; omega)) (by decide) rfl (kA (kz .i64) A1) (kA (kz .i64) A) (fun v' h S => ?_)
   have S := S.f2
   have S := S.t2
   exact kk v' g1 h _ (.refl _) S ⟨_, rfl, A.append A1, fun h => by simp at h, List.nodup_append.2 ⟨nd, by simp, fun p hp q hq e => by simp at hq; subst hq; subst e; exact jh hp⟩, fun y hy => by
    rcases List.mem_append.1 hy with hy | hy
    · exact ar y hy
    · simp at hy; subst hy; exact hx⟩
 · intro it a g1 h1 Γ1 xs xk hp hI S1
   obtain ⟨ls, rfl, A, hn, nd, ar⟩ := hI
   refine S1.sort anJ (fun p cap w => Any.slices_Sort_int_none Y1 p cap w) (fun bA off cap zs w => Any.slices_Sort_int Y1 bA off cap zs w) A hn (by rw [hp.length_eq]; exact hlen) fun h' sc S2 A2 => ?_
   rw [anK cb.oh hp] at A2
   obtain ⟨g2, Ij, S3, F⟩ := S2.fz A2 (ig .i64)
   exact H g2 h' a S3 F
end T
end
end Go.Ve
namespace Go.Ve.T
open Go.Ve Go.Proofs
noncomputable section
set_option maxRecDepth 10000
def zM {ρ : Type} (N : Nat) (aZ : Int) (v5 : List Int) (qJ : ak) (gq : al) (kE : Int) (mP : Int) (iR : Fl → (List Int) → Option ρ) : Option ρ :=
 bif ((decide (kE = (bt .i64 (aZ + 1))) && (decide (mP = 0) && true)) != true) then (
 iR .go (kv kE v5)) else (
 iR .go v5)
def Ef (N : Nat) (aO : Int) (fS : al) (Ji : List Int) (eB : Int → (List Int) → Option ((List Int))) : Option ((List Int)) :=
 eB (bt .i64 (aO + 1)) Ji
def Eg (N : Nat) (v5 : List Int) (aZ : Int) (aO : Int) (im : Bool) (fS : al) (eB : Int → (List Int) → Option ((List Int))) : Option ((List Int)) :=
 bif im then (
 Ef N aO fS (kv (bt .i64 (aZ + 1)) v5) eB) else (
 Ef N aO fS v5 eB)
def Eh (N : Nat) (aZ : Int) (v1 : al) (v5 : List Int) (aO : Int) (dq : Bool) (eB : Int → (List Int) → Option ((List Int))) : Option ((List Int)) :=
 bif dq then (
 Eg N v5 aZ aO (decide ((bt .i64 (aZ + 1)) < (v1.ab.length : Int))) v1 eB) else (
 Eg N v5 aZ aO false v1 eB)
def Ei (N : Nat) (bZ : ak) (aZ : Int) (v1 : al) (v5 : List Int) (aO : Int) (eR : Bool) (eB : Int → (List Int) → Option ((List Int))) : Option ((List Int)) :=
 bif eR then (
 Eh N aZ v1 v5 aO true eB) else (
 Eh N aZ v1 v5 aO (decide (bZ.aJ = 32)) eB)
def Ej (N : Nat) (bZ : ak) (aZ : Int) (v1 : al) (v5 : List Int) (aO : Int) (eB : Int → (List Int) → Option ((List Int))) : Option ((List Int)) :=
(wu bZ.aJ).bind fun gO =>
 bif gO.1.iZ then (
 Ei N bZ aZ v1 v5 aO true eB) else (
 Ei N bZ aZ v1 v5 aO (decide (bZ.aJ = 25)) eB)
def Ek (N : Nat) (v11 : List ak) (aO : Int) (v1 : al) (v5 : List Int) (eB : Int → (List Int) → Option ((List Int))) : Option ((List Int)) :=
(ix v11 aO).bind fun eH =>
(uB N v1 aO).bind fun mK =>
(oj (fun (s : (List Int)) (x : Int × Int) => zM N aO s eH v1 x.1 x.2 (fun f m0 => some (m0, f))) mK v5).bind fun Jj =>
 Cv Jj.2 (
 Ej N eH aO v1 Jj.1 aO eB) (
 none) (fun _ => none)
def Sf (N : Nat) (v5 : List Int)  : Option ((List Int)) :=
(Jk v5).bind fun aaS =>
 some aaS
def xh (N : Nat) (v12 : Int) (v11 : List ak) (v1 : al) (v5 : List Int) (aO : Int) (eB : Int → (List Int) → Option ((List Int))) : Option ((List Int)) :=
 bif (decide (aO < v12)) then (
 Ek N v11 aO v1 v5 eB) else (
 Sf N v5)
def zN (N : Nat) (v12 : Int) (v11 : List ak) (v1 : al)  : Nat → (List Int) → Int → Option ((List Int))
 | 0, _, _ => none
 | n + 1, v5, aO => xh N v12 v11 v1 v5 aO  (fun aq c8 => zN N v12 v11 v1 n c8 aq)
def El (N : Nat) (v1 : al)  : Option ((List Int)) :=
 zN N (v1.ab.length : Int) v1.ab v1 N (kv 0 ([] : List Int)) 0
def vQ (N : Nat) (x0 : al) : Option ((List Int)) :=
(ud N x0).bind fun aM =>
 bif (!aM) then (
 some ([] : List Int)) else (
 El N x0)
abbrev pE (c : Cx) (R : Value → W) (r : (List Int)) : Prop := ∀ (g' h' : AH) (w1 : Value), Sep c g' h' [] → ae (rI .i64) 1 g' w1 r → R w1 h'
theorem amH {ρ : Type} {w0 : World} {c : Cx} {g h : AH} {E R : Value → W} {r : ρ} {N : Nat} {aZ : Int} {v5 : List Int} {qJ : ak} {gq : al} {kE mP : Int} {ma cA fm : Nat} {fo : List (Value × Value × Nat)} {fp aaT DZ : Nat} {xe xf : Value} {n_ : Nat} {o_ : LO} {d_ : List Nat} {iR : Fl → (List Int) → Option ρ} {px : AH} (M : zM N aZ v5 qJ gq kE mP iR = some r) (S : Sep c g h [.lp n_ o_ .ready none, .ds d_, .bx ma [(vi aZ)], .bx cA [(.map (some fm))], .mp fm fo fp, .bx aaT [(vi qJ.aJ), (vi qJ.fA), (vi qJ.fB), (vi qJ.fC)], .bx DZ [(.string gq.aE), (.string gq.aG), (vi gq.fArgs), (vi gq.aC), (vi gq.aD), xe, xf]]) (cC : fK fo fp v5) (al2 : ae ak.rep 4 g xe gq.ab) (al3 : ae aH.rep 3 g xf gq.aI) (pz : Sub px g) (pA : ∀ {f : Fl} {qo3 : List Int} {aaU : Nat} {aaV : List (Value × Value × Nat)} {aaW : Nat} {g2 h2 : AH}, iR f qo3 = some r → Sub px g2 → Sep c g2 h2 [.lp n_ o_ f.st f.pd, .ds d_, .bx ma [(vi aZ)], .bx cA [(.map (some aaU))], .mp aaU aaV aaW, .bx aaT [(vi qJ.aJ), (vi qJ.fA), (vi qJ.fB), (vi qJ.fC)], .bx DZ [(.string gq.aE), (.string gq.aG), (vi gq.fArgs), (vi gq.aC), (vi gq.aD), xe, xf]] → fK aaV aaW qo3 → R (.bool f.on) h2) : E4 w0 E R (az ma 0) (az cA 0) o_ n_ (vi kE) (vi mP) h := by
 unfold E4
 unfold zM at M
 refine S.qN ?_
 refine S.mO (fun h S => ?_)
 refine dU [(vi kE), (vi mP)] (by simp only [da, bH, bI, bJ, bK,  List.length_cons, List.length_nil, Nat.reduceAdd, Nat.zero_add, decide_true, Bool.and_self]) (by simp only [List.flatMap_cons, List.flatMap_nil, bH, bI, bJ, bK,  List.cons_append, List.nil_append, List.append_nil]) ?_
 refine S.aX 2 rfl rfl ?_
 refine gE.2 ?_
 refine dU [(vi (bt .i64 (aZ + 1))), (vi 0)] (by simp only [da, bH, bI, bJ, bK,  List.length_cons, List.length_nil, Nat.reduceAdd, Nat.zero_add, decide_true, Bool.and_self]) (by simp only [List.flatMap_cons, List.flatMap_nil, bH, bI, bJ, bK,  List.cons_append, List.nil_append, List.append_nil]) ?_
 refine (aiZ (Zv (Zv aiY))).2 ?_
 refine bp (fun hc => ?_) (fun hc => ?_)
 · have M := aR hc M
   refine S.aX 3 rfl rfl ?_
   have S := S.f4
   refine S.Qb cC (fun ao9 apa h S RZ => ?_)
   have S := S.f1
   refine S.jx (fun h S => ?_)
   have S := S.f6
   have S := S.f6
   have S := S.f3
   have S := S.f6
   have S := S.f6
   have S := S.f6
   have S := S.f6
   exact pA M pz S RZ
 · have M := aS hc M
   refine S.jx (fun h S => ?_)
   exact pA M pz S cC
theorem aaX {w0 : World} {c : Cx} {g h : AH} {E R : Value → W} {r : (List Int)} {N : Nat} {aO : Int} {fS : al} {Ji : List Int} {d18 : List Nat} {Em : Nat} {xi xj : Value} {aaY aaZ : Nat} {aa0 : List (Value × Value × Nat)} {aa1 : Nat} {eS : Value → List Nat → W} {eB : Int → (List Int) → Option ((List Int))} {jJ : AH} (M : Ef N aO fS Ji eB = some r) (S : Sep c g h [.ds d18, .bx Em [(.string fS.aE), (.string fS.aG), (vi fS.fArgs), (vi fS.aC), (vi fS.aD), xi, xj], .bx aaY [(.map (some aaZ))], .mp aaZ aa0 aa1]) (Sg : ae ak.rep 4 g xi fS.ab) (Sh : ae aH.rep 3 g xj fS.aI) (amI : fK aa0 aa1 Ji) (ju : Sub jJ g) (kY : ∀ {aq : Int} {bn : List Nat} {c8 : List Int} {jK : Nat} {jL : List (Value × Value × Nat)} {jM : Nat} {g2 h2 : AH}, eB aq c8 = some r → Sub jJ g2 → Sep c g2 h2 [.bx Em [(.string fS.aE), (.string fS.aG), (vi fS.fArgs), (vi fS.aC), (vi fS.aD), xi, xj], .bx aaY [(.map (some jK))], .mp jK jL jM, .ds bn] → fK jL jM c8 → eS (vi aq) bn h2) (H : pE c R r) : z6 w0 E R (vi aO) eS d18 h := by
 unfold z6
 unfold Ef at M
 refine gE.2 ?_
 have S := S.f3
 have S := S.f3
 have S := S.f3
 exact kY M ju S amI
theorem aa2 {w0 : World} {c : Cx} {g h : AH} {E R : Value → W} {r : (List Int)} {N : Nat} {v5 : List Int} {aZ aO : Int} {im : Bool} {fS : al} {cA fm : Nat} {fo : List (Value × Value × Nat)} {fp ma : Nat} {d26 : List Nat} {Em : Nat} {xi xj : Value} {eS : Value → List Nat → W} {eB : Int → (List Int) → Option ((List Int))} {jJ : AH} (M : Eg N v5 aZ aO im fS eB = some r) (S : Sep c g h [.bx cA [(.map (some fm))], .mp fm fo fp, .bx ma [(vi aZ)], .ds d26, .bx Em [(.string fS.aE), (.string fS.aG), (vi fS.fArgs), (vi fS.aC), (vi fS.aD), xi, xj]]) (cC : fK fo fp v5) (Sg : ae ak.rep 4 g xi fS.ab) (Sh : ae aH.rep 3 g xj fS.aI) (ju : Sub jJ g) (kY : ∀ {aq : Int} {bn : List Nat} {c8 : List Int} {jK : Nat} {jL : List (Value × Value × Nat)} {jM : Nat} {g2 h2 : AH}, eB aq c8 = some r → Sub jJ g2 → Sep c g2 h2 [.bx Em [(.string fS.aE), (.string fS.aG), (vi fS.fArgs), (vi fS.aC), (vi fS.aD), xi, xj], .bx cA [(.map (some jK))], .mp jK jL jM, .ds bn] → fK jL jM c8 → eS (vi aq) bn h2) (H : pE c R r) : EY w0 E R (az cA 0) (az ma 0) (vi aO) eS d26 (.bool im) h := by
 unfold EY
 unfold Eg at M
 refine bp (fun hc => ?_) (fun hc => ?_)
 · have M := aR hc M
   refine S.aX 0 rfl rfl ?_
   refine S.aX 2 rfl rfl ?_
   refine gE.2 ?_
   have S := S.f1
   refine S.Qb cC (fun apb apc h S amJ => ?_)
   have S := S.f1
   have S := S.f4
   have S := S.f4
   have S := S.t4
   exact aaX M S Sg Sh amJ ju kY H
 · have M := aS hc M
   have S := S.f1
   have S := S.f1
   have S := S.f4
   have S := S.f4
   have S := S.t4
   exact aaX M S Sg Sh cC ju kY H
theorem aa3 {w0 : World} {c : Cx} {g h : AH} {E R : Value → W} {r : (List Int)} {N : Nat} {aZ : Int} {v1 : al} {v5 : List Int} {aO : Int} {dq : Bool} {ma ah : Nat} {av aw : Value} {cA fm : Nat} {fo : List (Value × Value × Nat)} {fp : Nat} {d26 : List Nat} {eS : Value → List Nat → W} {eB : Int → (List Int) → Option ((List Int))} {jJ : AH} (M : Eh N aZ v1 v5 aO dq eB = some r) (S : Sep c g h [.bx ma [(vi aZ)], .bx ah [(.string v1.aE), (.string v1.aG), (vi v1.fArgs), (vi v1.aC), (vi v1.aD), av, aw], .bx cA [(.map (some fm))], .mp fm fo fp, .ds d26]) (aA : ae ak.rep 4 g av v1.ab) (aB : ae aH.rep 3 g aw v1.aI) (cC : fK fo fp v5) (ju : Sub jJ g) (kY : ∀ {aq : Int} {bn : List Nat} {c8 : List Int} {jK : Nat} {jL : List (Value × Value × Nat)} {jM : Nat} {g2 h2 : AH}, eB aq c8 = some r → Sub jJ g2 → Sep c g2 h2 [.bx ah [(.string v1.aE), (.string v1.aG), (vi v1.fArgs), (vi v1.aC), (vi v1.aD), av, aw], .bx cA [(.map (some jK))], .mp jK jL jM, .ds bn] → fK jL jM c8 → eS (vi aq) bn h2) (H : pE c R r) : EZ w0 E R (az ma 0) (az ah 0) (az cA 0) (vi aO) eS d26 (.bool dq) h := by
 unfold EZ
 unfold Eh at M
 cases hc : dq
 · have M := aS hc M
   refine ay (by decide) ?_
   refine ay (by decide) ?_
   refine ay (by decide) ?_
   refine ay (by decide) ?_
   refine ay (by decide) ?_
   refine ay (by decide) ?_
   refine bf.2 ?_
   have S := S.f1
   have S := S.f4
   have S := S.f2
   have S := S.f4
   have S := S.f4
   exact aa2 M S cC aA aB ju kY H
 · have M := aR hc M
   refine ax rfl ?_
   refine S.aX 0 rfl rfl ?_
   refine ax rfl ?_
   refine gE.2 ?_
   refine ax rfl ?_
   refine bg.2 ?_
   refine ax rfl ?_
   refine S.aX 1 rfl rfl ?_
   refine ax rfl ?_
   refine aA.len ?_
   refine ax rfl ?_
   refine fW.2 ?_
   refine bf.2 ?_
   have S := S.f1
   have S := S.f4
   have S := S.f2
   have S := S.f4
   have S := S.f4
   exact aa2 M S cC aA aB ju kY H
theorem aa4 {w0 : World} {c : Cx} {g h : AH} {E R : Value → W} {r : (List Int)} {N : Nat} {bZ : ak} {aZ : Int} {v1 : al} {v5 : List Int} {aO : Int} {eR : Bool} {En ma ah : Nat} {av aw : Value} {cA fm : Nat} {fo : List (Value × Value × Nat)} {fp : Nat} {d26 : List Nat} {eS : Value → List Nat → W} {eB : Int → (List Int) → Option ((List Int))} {jJ : AH} (M : Ei N bZ aZ v1 v5 aO eR eB = some r) (S : Sep c g h [.bx En [(vi bZ.aJ), (vi bZ.fA), (vi bZ.fB), (vi bZ.fC)], .bx ma [(vi aZ)], .bx ah [(.string v1.aE), (.string v1.aG), (vi v1.fArgs), (vi v1.aC), (vi v1.aD), av, aw], .bx cA [(.map (some fm))], .mp fm fo fp, .ds d26]) (aA : ae ak.rep 4 g av v1.ab) (aB : ae aH.rep 3 g aw v1.aI) (cC : fK fo fp v5) (ju : Sub jJ g) (kY : ∀ {aq : Int} {bn : List Nat} {c8 : List Int} {jK : Nat} {jL : List (Value × Value × Nat)} {jM : Nat} {g2 h2 : AH}, eB aq c8 = some r → Sub jJ g2 → Sep c g2 h2 [.bx ah [(.string v1.aE), (.string v1.aG), (vi v1.fArgs), (vi v1.aC), (vi v1.aD), av, aw], .bx cA [(.map (some jK))], .mp jK jL jM, .ds bn] → fK jL jM c8 → eS (vi aq) bn h2) (H : pE c R r) : E0 w0 E R (az En 0) (az ma 0) (az ah 0) (az cA 0) (vi aO) eS d26 (.bool eR) h := by
 unfold E0
 unfold Ei at M
 cases hc : eR
 · have M := aS hc M
   refine ax rfl ?_
   refine bg.2 ?_
   refine ax rfl ?_
   refine S.aX 0 rfl rfl ?_
   refine ax rfl ?_
   refine cI.2 ?_
   refine bf.2 ?_
   have S := S.f5
   have S := S.f5
   have S := S.f5
   have S := S.f5
   have S := S.f5
   have S := S.t5
   exact aa3 M S aA aB cC ju kY H
 · have M := aR hc M
   refine ay (by decide) ?_
   refine ay (by decide) ?_
   refine ay (by decide) ?_
   refine bf.2 ?_
   have S := S.f5
   have S := S.f5
   have S := S.f5
   have S := S.f5
   have S := S.f5
   have S := S.t5
   exact aa3 M S aA aB cC ju kY H
theorem amK {w0 : World} {c : Cx} {g h : AH} {E R : Value → W} {r : (List Int)} {N : Nat} {bZ : ak} {aZ : Int} {v1 : al} {v5 : List Int} {aO : Int} {En ma ah : Nat} {av aw : Value} {cA fm : Nat} {fo : List (Value × Value × Nat)} {fp : Nat} {d26 : List Nat} {eS : Value → List Nat → W} {eB : Int → (List Int) → Option ((List Int))} {jJ : AH} (M : Ej N bZ aZ v1 v5 aO eB = some r) (S : Sep c g h [.bx En [(vi bZ.aJ), (vi bZ.fA), (vi bZ.fB), (vi bZ.fC)], .bx ma [(vi aZ)], .bx ah [(.string v1.aE), (.string v1.aG), (vi v1.fArgs), (vi v1.aC), (vi v1.aD), av, aw], .bx cA [(.map (some fm))], .mp fm fo fp, .ds d26]) (aA : ae ak.rep 4 g av v1.ab) (aB : ae aH.rep 3 g aw v1.aI) (cC : fK fo fp v5) (ju : Sub jJ g) (kY : ∀ {aq : Int} {bn : List Nat} {c8 : List Int} {jK : Nat} {jL : List (Value × Value × Nat)} {jM : Nat} {g2 h2 : AH}, eB aq c8 = some r → Sub jJ g2 → Sep c g2 h2 [.bx ah [(.string v1.aE), (.string v1.aG), (vi v1.fArgs), (vi v1.aC), (vi v1.aD), av, aw], .bx cA [(.map (some jK))], .mp jK jL jM, .ds bn] → fK jL jM c8 → eS (vi aq) bn h2) (H : pE c R r) : E3 w0 E R (az En 0) (az ma 0) (az ah 0) (az cA 0) (vi aO) eS d26 h := by
 unfold E3
 unfold Ej at M
 refine bg.2 ?_
 refine S.aX 0 rfl rfl ?_
 obtain ⟨gO, Co, M⟩ := bind_some M
 refine zb bZ.aJ S.sub S.ok Co (fun _ h  S1  => ?_)
 have S := S.bY S1
 refine (fH rfl).2 ?_
 refine (fH rfl).2 ?_
 refine S.alloc (l := [(.string (⟨⟨[]⟩⟩ : ByteArray)), (vi 0), (vi 0), (vi 0), (vi 0), (vi 0), (vi 0), (.bool false), (.bool false)]) (aa rfl (aa rfl (aa rfl (aa rfl (aa rfl (aa rfl (aa rfl (aa rfl (aa rfl rfl))))))))) (fun ZO h S => ?_)
 refine S.cZ [(.string gO.1.nB), (vi gO.1.dG.e0), (vi gO.1.dG.e1), (vi gO.1.dG.e2), (vi gO.1.iY), (vi gO.1.c7.e0), (vi gO.1.c7.e1), (.bool gO.1.jr), (.bool gO.1.iZ)] [(.string gO.1.nB), (vi gO.1.dG.e0), (vi gO.1.dG.e1), (vi gO.1.dG.e2), (vi gO.1.iY), (vi gO.1.c7.e0), (vi gO.1.c7.e1), (.bool gO.1.jr), (.bool gO.1.iZ)] rfl rfl (aa rfl (aa rfl (aa rfl (aa rfl (aa rfl (aa rfl (aa rfl (aa rfl (aa rfl rfl))))))))) (Nat.le_of_ble_eq_true rfl) rfl (fun h S => ?_)
 refine bg.2 ?_
 refine S.aX 0 rfl rfl ?_
 cases hc : gO.1.iZ
 · have M := aS hc M
   refine ax rfl ?_
   refine bg.2 ?_
   refine ax rfl ?_
   refine S.aX 1 rfl rfl ?_
   refine ax rfl ?_
   refine cI.2 ?_
   refine bf.2 ?_
   have S := S.f6
   have S := S.f6
   have S := S.f6
   have S := S.f6
   have S := S.f6
   have S := S.f6
   have S := S.t6
   exact aa4 M S aA aB cC ju kY H
 · have M := aR hc M
   refine ay (by decide) ?_
   refine ay (by decide) ?_
   refine ay (by decide) ?_
   refine bf.2 ?_
   have S := S.f6
   have S := S.f6
   have S := S.f6
   have S := S.f6
   have S := S.f6
   have S := S.f6
   have S := S.t6
   exact aa4 M S aA aB cC ju kY H
theorem amL {w0 : World} {c : Cx} {g h : AH} {E R : Value → W} {r : (List Int)} {N : Nat} {v11 : List ak} {aO : Int} {v1 : al} {v5 : List Int} {fR : Value} {ah : Nat} {av aw : Value} {cA fm : Nat} {fo : List (Value × Value × Nat)} {fp : Nat} {d17 : List Nat} {eS : Value → List Nat → W} {eB : Int → (List Int) → Option ((List Int))} {jJ : AH} (M : Ek N v11 aO v1 v5 eB = some r) (S : Sep c g h [.bx ah [(.string v1.aE), (.string v1.aG), (vi v1.fArgs), (vi v1.aC), (vi v1.aD), av, aw], .bx cA [(.map (some fm))], .mp fm fo fp, .ds d17]) (pF : ae ak.rep 4 g fR v11) (aA : ae ak.rep 4 g av v1.ab) (aB : ae aH.rep 3 g aw v1.aI) (cC : fK fo fp v5) (ju : Sub jJ g) (kY : ∀ {aq : Int} {bn : List Nat} {c8 : List Int} {jK : Nat} {jL : List (Value × Value × Nat)} {jM : Nat} {g2 h2 : AH}, eB aq c8 = some r → Sub jJ g2 → Sep c g2 h2 [.bx ah [(.string v1.aE), (.string v1.aG), (vi v1.fArgs), (vi v1.aC), (vi v1.aD), av, aw], .bx cA [(.map (some jK))], .mp jK jL jM, .ds bn] → fK jL jM c8 → eS (vi aq) bn h2) (H : pE c R r) : E5 w0 E R fR (vi aO) (az ah 0) (az cA 0) eS d17 h := by
 unfold E5
 unfold Ek at M
 obtain ⟨eH, QL, M⟩ := bind_some M
 refine ae.idx pF QL (fun aju ajv vs QM si rp => ?_)
 cases rp
 refine S.nA si rfl (by decide) ?_
 refine S.alloc (l := [(vi 0)]) (aa rfl rfl) (fun zl h S => ?_)
 refine S.alloc (l := [(vi 0), (vi 0), (vi 0), (vi 0)]) (aa rfl (aa rfl (aa rfl (aa rfl rfl)))) (fun amM h S => ?_)
 have S := S.f1
 refine S.cZ [(vi aO)] [(vi aO)] rfl rfl (aa rfl rfl) (Nat.le_of_ble_eq_true rfl) rfl (fun h S => ?_)
 have S := S.f1
 refine S.cZ [(vi eH.aJ), (vi eH.fA), (vi eH.fB), (vi eH.fC)] [(vi eH.aJ), (vi eH.fA), (vi eH.fB), (vi eH.fC)] rfl rfl (aa rfl (aa rfl (aa rfl (aa rfl rfl)))) (Nat.le_of_ble_eq_true rfl) rfl (fun h S => ?_)
 refine S.bV [(.string v1.aE), (.string v1.aG), (vi v1.fArgs), (vi v1.aC), (vi v1.aD), av, aw] 2 rfl rfl rfl (by decide) ?_
 refine S.aX 1 rfl rfl ?_
 obtain ⟨mK, Dq, M⟩ := bind_some M
 refine RY N v1 aO av aw S.sub S.ok aA aB Dq (fun g h apd S1 Si => ?_)
 have pF := ae.mono pF ak.mono S1.bX
 have si := S1.bX.bU si
 have aA := ae.mono aA ak.mono S1.bX
 have aB := ae.mono aB aH.mono S1.bX
 have ju := Sub.trans ju S1.bX
 have S := S.lC S1
 have S := S.f2
 have S := S.f1
 have S := S.f4
 have S := S.f4
 have S := S.f4
 have S := S.f5
 obtain ⟨Jj, r8, M⟩ := bind_some M
 refine Qs (fun (s : (List Int)) (x : Int × Int) => zM N aO s eH v1 x.1 x.2 (fun f m0 => some (m0, f))) (fun (s : (List Int)) (g h : AH) (Γ : List Ob) => ∃ (fm : Nat) (fo : List (Value × Value × Nat)) (fp : Nat), Γ = [.bx zl [(vi aO)], .bx cA [(.map (some fm))], .mp fm fo fp, .bx amM [(vi eH.aJ), (vi eH.fA), (vi eH.fB), (vi eH.fC)], .bx ah [(.string v1.aE), (.string v1.aG), (vi v1.fArgs), (vi v1.aC), (vi v1.aD), av, aw]] ∧ fK fo fp s ∧ ae ak.rep 4 g av v1.ab ∧ ae aH.rep 3 g aw v1.aI) Si (fun s g h Γ g' h' hd sb => by obtain ⟨u0, u1, u2, e, z0, z1, z2⟩ := hd; exact ⟨u0, u1, u2, e, z0, ae.mono z1 ak.mono sb, ae.mono z2 aH.mono sb⟩) S ⟨fm, fo, fp, rfl, cC, aA, aB⟩ r8 (fun lo n q s x s2 f R g2 h2 Γ2 sub S D1 bm kk => ?_) (fun oB g h Γ2 sg S D1 => ?_)
 · obtain ⟨fm, fo, fp, rfl, amN, D3, D4⟩ := D1
   show E4 w0 ox R (az zl 0) (az cA 0) lo n (vi x.1) (vi x.2) h2
   exact amH bm S amN D3 D4 (Sub.refl g2) (fun e sb S3 amO => by cases e; exact kk _ _ _ sb S3 ⟨_, _, _, rfl, amO, (ae.mono D3 ak.mono sb), (ae.mono D4 aH.mono sb)⟩)
 · obtain ⟨Jg, ape, apf, rfl, amP, _, _⟩ := D1
   have pF := ae.mono pF ak.mono sg
   have si := sg.bU si
   have aA := ae.mono aA ak.mono sg
   have aB := ae.mono aB aH.mono sg
   have Si := sd.mono Si sg
   have ju := Sub.trans ju sg
   cases hf : Jj.2 with
   | go =>
    rw [hf] at M
    have M := Qn M
    refine Qp ?_
    have S := S.f3
    have S := S.f3
    have S := S.f5
    have S := S.f4
    have S := S.f5
    exact amK M S aA aB amP ju kY H
   | ret =>
    rw [hf] at M
    have M := Qo M
    refine Qq ?_
    cases M
   | ex j =>
    rw [hf] at M
    cases M
theorem amQ {w0 : World} {c : Cx} {g h : AH} {E R : Value → W} {r : (List Int)} {N : Nat} {v5 : List Int} {cA fm : Nat} {fo : List (Value × Value × Nat)} {fp : Nat} {d7 : List Nat}  (M : Sf N v5 = some r) (S : Sep c g h [.bx cA [(.map (some fm))], .mp fm fo fp, .ds d7]) (cC : fK fo fp v5)  (H : pE c R r) : EX w0 E R (az cA 0) d7 h := by
 unfold EX
 unfold Sf at M
 refine S.aX 0 rfl rfl ?_
 have S := S.f1
 obtain ⟨g, sg, S, Sj⟩ := S.aiO cC
 obtain ⟨aaS, amR, M⟩ := bind_some M
 refine amS amR S.sub S.ok Sj (fun g h amT S1 amU => ?_)
 have Sj := r9.mono Sj S1.bX
 have S := S.lC S1
 have S := S.f1
 refine S.jb (fun h S => ?_)
 cases M
 exact H _ _ amT S.bj amU
theorem amV {w0 : World} {c : Cx} {g h : AH} {E R : Value → W} {r : (List Int)} {N : Nat} {v12 : Int} {v11 : List ak} {v1 : al} {v5 : List Int} {aO : Int} {fR : Value} {ah : Nat} {av aw : Value} {cA fm : Nat} {fo : List (Value × Value × Nat)} {fp : Nat} {d15 : List Nat} {eS : Value → List Nat → W} {eB : Int → (List Int) → Option ((List Int))} {jJ : AH} (M : xh N v12 v11 v1 v5 aO eB = some r) (S : Sep c g h [.bx ah [(.string v1.aE), (.string v1.aG), (vi v1.fArgs), (vi v1.aC), (vi v1.aD), av, aw], .bx cA [(.map (some fm))], .mp fm fo fp, .ds d15]) (pF : ae ak.rep 4 g fR v11) (aA : ae ak.rep 4 g av v1.ab) (aB : ae aH.rep 3 g aw v1.aI) (cC : fK fo fp v5) (ju : Sub jJ g) (kY : ∀ {aq : Int} {bn : List Nat} {c8 : List Int} {jK : Nat} {jL : List (Value × Value × Nat)} {jM : Nat} {g2 h2 : AH}, eB aq c8 = some r → Sub jJ g2 → Sep c g2 h2 [.bx ah [(.string v1.aE), (.string v1.aG), (vi v1.fArgs), (vi v1.aC), (vi v1.aD), av, aw], .bx cA [(.map (some jK))], .mp jK jL jM, .ds bn] → fK jL jM c8 → eS (vi aq) bn h2) (H : pE c R r) : z8 w0 E R (vi v12) fR (az ah 0) (az cA 0) eS (vi aO) d15 h := by
 unfold z8
 unfold xh at M
 refine fW.2 ?_
 refine bp (fun hc => ?_) (fun hc => ?_)
 · have M := aR hc M
   exact amL M S pF aA aB cC ju kY H
 · have M := aS hc M
   have S := S.f3
   have S := S.f3
   have S := S.f3
   have S := S.t3
   exact amQ M S cC H
theorem amW {w0 : World} {c : Cx} {E R : Value → W} {r : (List Int)} {N : Nat} {v12 : Int} {v11 : List ak} {v1 : al} {fR : Value} {ah : Nat} {av aw : Value} {cA : Nat}   (H : pE c R r) : ∀ (n : Nat) {v5 : List Int} {aO : Int} {fm : Nat} {fo : List (Value × Value × Nat)} {fp : Nat} {d15 : List Nat} {g h : AH}, zN N v12 v11 v1 n v5 aO = some r → Sep c g h [.bx ah [(.string v1.aE), (.string v1.aG), (vi v1.fArgs), (vi v1.aC), (vi v1.aD), av, aw], .bx cA [(.map (some fm))], .mp fm fo fp, .ds d15] → ae ak.rep 4 g fR v11 → ae ak.rep 4 g av v1.ab → ae aH.rep 3 g aw v1.aI → fK fo fp v5 → gG (α := (Value) × List Nat) (fun k a => z8 w0 E R (vi v12) fR (az ah 0) (az cA 0) (fun b0 q => k ((b0), q)) a.1 a.2) n ((vi aO), d15) h := by
 intro n
 induction n with
 | zero =>
  intro v5 aO fm fo fp d15 g h M S pF aA aB cC
  unfold zN at M; cases M
 | succ n ih =>
  intro v5 aO fm fo fp d15 g h M S pF aA aB cC
  exact amV M S pF aA aB cC  (Sub.refl g) (fun M2 sub S2 RT => ih M2 S2 (ae.mono pF ak.mono sub) (ae.mono aA ak.mono sub) (ae.mono aB aH.mono sub) RT ) H
theorem amX {w0 : World} {c : Cx} {g h : AH} {E R : Value → W} {r : (List Int)} {N : Nat} {v1 : al} {ah : Nat} {av aw : Value} {d2 : List Nat}  (M : El N v1 = some r) (S : Sep c g h [.bx ah [(.string v1.aE), (.string v1.aG), (vi v1.fArgs), (vi v1.aC), (vi v1.aD), av, aw], .ds d2]) (aA : ae ak.rep 4 g av v1.ab) (aB : ae aH.rep 3 g aw v1.aI)  (H : pE c R r) : E6 w0 E R (az ah 0) d2 h := by
 unfold E6
 unfold El at M
 refine S.smk (fun qE h S qI => ?_)
 refine S.Qb qI (fun apg aph h S Dk => ?_)
 refine S.alloc (l := [(.map none)]) (aa rfl rfl) (fun IF h S => ?_)
 refine S.cZ [(.map (some qE))] [(.map (some qE))] rfl rfl (aa rfl rfl) (Nat.le_of_ble_eq_true rfl) rfl (fun h S => ?_)
 refine bg.2 ?_
 refine S.aX 2 rfl rfl ?_
 refine aA.len ?_
 have S := S.f3
 have S := S.f2
 have S := S.f2
 have S := S.f3
 exact ⟨N, amW  H _ M S aA aA aB Dk ⟩
theorem ain {w0 : World} {g h : AH} {Q : CR → AH → Prop} {r : (List Int)} {N : Nat} {x0 : al} {bN bO : Value} (M : vQ N x0 = some r) (sg : Sub g h) (ok : h.Ok) (bL : ae ak.rep 4 g bN x0.ab) (bS : ae aH.rep 3 g bO x0.aI) (H : pE ⟨g, h, []⟩ (fun v => Q (.ret v)) r) : WF PP w0 Kk [(.agg ⟨[(.string x0.aE), (.string x0.aG), (vi x0.fArgs), (vi x0.aC), (vi x0.aD), bN, bO]⟩)] h Q := by
 refine aca _ ?_
 have S := Sep.start sg ok
 unfold Tq
 unfold vQ at M
 have S : Sep _ g h [.ds ([] : List Nat)] := S.Qr
 refine S.box [(.string x0.aE), (.string x0.aG), (vi x0.fArgs), (vi x0.aC), (vi x0.aD), bN, bO] rfl (aa rfl (aa rfl (aa rfl (aa rfl (aa rfl (aa bL.one (aa bS.one rfl))))))) (fun fX h S => ?_)
 refine S.bV [(.string x0.aE), (.string x0.aG), (vi x0.fArgs), (vi x0.aC), (vi x0.aD), bN, bO] 0 rfl rfl rfl (by decide) ?_
 obtain ⟨aM, eG, M⟩ := bind_some M
 refine Iu eG S.sub S.ok bL bS (fun _ h  S1  => ?_)
 have S := S.bY S1
 refine ec.2 ?_
 refine bp (fun hc => ?_) (fun hc => ?_)
 · have M := aR hc M
   have S := S.f1
   refine S.jb (fun h S => ?_)
   cases M
   exact H _ _ cH S.bj ae.nil
 · have M := aS hc M
   exact amX M S bL bS H
end
end Go.Ve.T
