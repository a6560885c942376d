/- Part 16: The list of a set: its numbers in order, however the map is gone through. Condition: of the model (at most 1048576 numbers). And what follows it. -/
import Derived.Test.YteeibihhdldjfaaGreatDoorVeO
import Derived.Shelf.Slices.In.SortNone
set_option linter.unusedVariables false
set_option linter.unusedSimpArgs false
namespace Go.Ve
open Go.RowKit Go.Sort
open Classical
noncomputable section
section
variable {c : Cx} {g h : AH} {Γ : List Ob}
theorem abl : ∀ {ls : List (List Value)} {xs : List Int} {g : AH}, aJ (rI .i64 g) ls xs → ls = xs.map fun x => [vi x]
 | [], [], _, _ => rfl
 | [], _ :: _, _, A => by have := A.1; simp at this
 | _ :: _, [], _, A => by have := A.1; simp at this
 | a :: ls, x :: xs, g, A => by
  have h1 : a = [vi x] := A.2 0 a x rfl rfl
  rw [h1, List.map_cons, abl (⟨by simpa using A.1, fun i p q hp hq => A.2 (i + 1) p q (by simpa using hp) (by simpa using hq)⟩ : aJ (rI .i64 g) ls xs)]
theorem SG (xs : List Int) : (xs.map fun x => [vi x]).flatten = xs.map vi := by
 induction xs with
 | nil => rfl
 | cons x xs ih => simp [ih]
theorem ani (g : AH) (xs : List Int) : aJ (rI .i64 g) (xs.map fun x => [vi x]) xs := ⟨by simp, fun i a b ha hb => by
 rw [List.getElem?_map, hb] at ha
 cases ha; rfl⟩
theorem Sep.sort {P : Program} {w0 : World} {f : FuncId} {Q : CR → AH → Prop} (gp : Can P f) (hS0 : ∀ p cap w, Calls P f #[.slice p 0 cap] w fun e w' => e = .returned (.tuple #[]) ∧ w' = w)
 (hS : ∀ (bj off cap : Nat) (zs : List Int) (w : World), Holds (Value.int .i64) w bj off zs.toArray → bj < w.heap.size → zs.length < 4611686018427387904 →
  Calls P f #[.slice (some ⟨bj, off, none⟩) zs.length cap] w fun e w' => e = .returned (.tuple #[]) ∧ ∃ n os, w' = grow (putRow (Value.int .i64) (Sort.ahead w n) bj off (eI zs).toArray) os)
 {ty : TypeId} {v : Value} {ls : List (List Value)} {xs : List Int} (S : Sep c g h (.sl ty 1 v ls :: Γ)) (A : aJ (rI .i64 g) ls xs) (AM : xs = [] → v = cZ) (hlen : xs.length ≤ 1048576)
 (K : ∀ h' rU, Sep c g h' (.sl ty 1 v rU :: Γ) → aJ (rI .i64 g) rU (eI xs) → Q (.ret (.tuple ⟨[]⟩)) h') : WF P w0 f [v] h Q := by
 by_cases hx : xs = []
 · subst hx
   obtain rfl := AM rfl
   exact anj gp hS0 (K h ls S (by rw [show eI [] = [] from List.mergeSort_nil]; exact A))
 · have hls := abl A
   have SH : (eI xs).Perm xs := List.mergeSort_perm xs _
   have vD : (eI xs).length = xs.length := SH.length_eq
   have O : dD h ty 1 v ls := S.dr _ List.mem_cons_self
   have get : ∀ {b lo hi : Nat} {bU : TypeId} {cc : NT Value} {o : Nat}, h.ob.get b = some (.cells lo hi bU true cc) → (h.wr b o ((eI xs).map vi)).ob.get b = some (.cells lo hi bU true (iR cc o ((eI xs).map vi))) := fun hg => by
    unfold AH.wr; rw [hg]; simp only [NT.c7, if_true]
   have aZ : ∀ {b lo hi : Nat} {bU : TypeId} {cc : NT Value} {o : Nat}, h.ob.get b = some (.cells lo hi bU true cc) → lo ≤ o → o + xs.length ≤ hi → (h.wr b o ((eI xs).map vi)).aZ b o ((eI xs).map vi) := fun hg h1 h2 i u hu => by
    have cz : i < (eI xs).length := by simpa using (List.getElem?_eq_some_iff.1 hu).1
    rw [AH.yt (n := xs.length) ⟨_, _, _, _, hg, h1, h2⟩ (by simp [vD]), if_pos ⟨rfl, by omega, by rw [List.length_map]; omega⟩, Nat.add_sub_cancel_left]
    exact hu
   have fin : ∀ (b lo hi : Nat) (bU : TypeId) (cc : NT Value) (o n : Nat), v = eT b o xs.length n → h.ob.get b = some (.cells lo hi bU true cc) → lo ≤ o → o + xs.length ≤ hi → h.aZ b o ls.flatten →
    dD (h.wr b o ((eI xs).map vi)) ty 1 v ((eI xs).map fun x => [vi x]) → WF P w0 f [v] h Q := fun b lo hi bU cc o n hv hg h1 h2 hr O' => by
    subst hv
    refine ank gp hS hx hlen hg h1 h2 (by rw [hls, SG] at hr; exact hr) (K _ _ (S.change (.sl ty 1 _ _) (AH.vP S.ok _ _ _) (by rw [AH.l5]; exact Nat.le_refl _) (fun f _ hf => AH.tk h (fun e => hf (by subst e; simp [Ob.bj, dJ]))) O' wK (fun b' bP => ?_)) (ani g _))
    have bP : b' = b := by simpa [Ob.bj, dJ] using bP
    subst bP
    exact ⟨by rw [AH.l5]; exact AH.lt_of_get S.ok hg, .inr (by simp [Ob.bj, dJ])⟩
   have ke : ls.length = xs.length := A.1
   cases O with
   | nil => exact absurd (List.length_eq_zero_iff.1 ke.symm) hx
   | un b o n lo hi cc _ hn hb hg h1 h2 hr hs =>
    rw [ke] at hn
    subst hn
    refine fin _ _ _ _ _ _ _ rfl hg h1 (by omega) hr (.un b o _ lo hi _ _ (by simp [vD]) hb (get hg) h1 h2 (by rw [SG]; exact aZ hg h1 (by omega)) (fun x hx => ?_))
    obtain ⟨y, _, rfl⟩ := List.mem_map.1 hx; rfl
   | kn b o n cap lo hi bU cc _ hn hb hc hg h1 h2 hr hs =>
    rw [ke] at hn
    subst hn
    refine fin _ _ _ _ _ _ _ rfl hg h1 (by omega) hr (.kn b o _ cap lo hi bU _ _ (by simp [vD]) hb hc (get hg) h1 h2 (by rw [SG]; exact aZ hg h1 (by omega)) (fun x hx => ?_))
    obtain ⟨y, _, rfl⟩ := List.mem_map.1 hx; rfl
end
namespace T
open Go.Proofs
theorem anl : Can PP Ti := ⟨_, Tryz.func107, by kernel_rfl, by kernel_rfl⟩
def zy (x0 : List Int) : Option (List Int) := gu (decide (x0.length ≤ 1048576)) (some x0)
theorem amr {w0 : World} {g h : AH} {Q : CR → AH → Prop} {r x0 : List Int} {bJ : Value} (M : zy x0 = some r) (sg : Sub g h) (ok : h.Ok) (bW : im g bJ x0)
 (H : ∀ (g' h' : AH) (w1 : Value), Sep ⟨g, h, []⟩ g' h' [] → aa (rI .i64) 1 g' w1 r → Q (.ret w1) h') : WF PP w0 Em [bJ] h Q := by
 obtain ⟨hlen, M⟩ := oO M
 have e := Option.some.inj M
 subst e
 have hlen := of_decide_eq_true hlen
 refine abU _ ?_
 unfold Tj
 have S := Sep.start sg ok
 refine Sep.range (S.CD 3 1) bW (fun it k a => rfl) (fun xs a g1 Γ1 => ∃ ls, Γ1 = [.sl 3 1 a ls] ∧ aJ (rI .i64 g1) ls xs ∧ (xs = [] → a = cZ) ∧ xs.Nodup ∧ ∀ y ∈ xs, y ∈ x0) ⟨[], rfl, .nil, fun _ => rfl, .nil, fun y hy => by simp at hy⟩ ?_ ?_
 · intro it o k a g1 h1 Γ1 xs x hI nV hx iM S1 hE kk
   obtain ⟨ls, rfl, A, hn, nd, al⟩ := hI
   have bG : xs.length + 1 ≤ x0.length := ZD (l := x :: xs) (List.nodup_cons.2 ⟨iM, nd⟩) bW.lE.nd (fun y hy => by
    rcases List.mem_cons.1 hy with rfl | hy
    · exact hx
    · exact al y hy)
   show WP (.x .entry) [it] h1 _
   refine hE _ ?_
   refine (jC rfl).2 ?_
   refine S1.wL [[vi x]] (cG (m := [vi x]) (l2 := [vi x]) rfl rfl (Nat.le_of_ble_eq_true rfl) rfl rfl) rfl (by decide) (wO rfl wN) (ae rfl rfl) (fun v h S => ?_)
   have A1 : aJ ((rI .i64) g1) [[vi x]] [x] := aJ.push aJ.nil (show (rI .i64) g1 [vi x] x from rfl)
   have S := S.f2
   refine S.app (S.rd 1 rfl) (by rw [A.1, A1.1]; exact decide_eq_true (by simp; omega)) (by decide) rfl (nR (qi .i64) A1) (nR (qi .i64) A) (fun v' h S => ?_)
   have S := S.f2
   have S := S.t2
   exact kk v' g1 h _ (.refl _) S ⟨_, rfl, A.append A1, fun h => by simp at h, List.nodup_append.2 ⟨nd, by simp, fun p hp q hq e => by simp at hq; subst hq; subst e; exact iM hp⟩, fun y hy => by
    rcases List.mem_append.1 hy with hy | hy
    · exact al y hy
    · simp at hy; subst hy; exact hx⟩
 · intro it a g1 h1 Γ1 xs nV hp hI S1
   obtain ⟨ls, rfl, A, hn, nd, al⟩ := hI
   refine S1.sort anl (fun p cap w => Any.slices_Sort_int_none Zl p cap w) (fun bj off cap zs w => Any.slices_Sort_int Zl bj off cap zs w) A hn (by rw [hp.length_eq]; exact hlen) fun h' rU S2 A2 => ?_
   rw [anm bW.lE hp] at A2
   obtain ⟨g2, oR, S3, F⟩ := S2.fz A2 (ej .i64)
   exact H g2 h' a S3 F
end T
end
end Go.Ve
namespace Go.Ve.T
open Go.Ve Go.Proofs
noncomputable section
def kV (w how : Int) (t : List Int) : List Int := t.filter fun n => decide (how = 2) || !decide (n = w)
def DI (x2 : List (List Int)) (i : aq) (s : List Int) (x : Int × Int) : Option (List Int × Fl) :=
 (ix x2 x.1).bind fun t => (vY i).bind fun w => some (fh (kV w x.2 t) s, .go)
def DE (N : Nat) (x0 : ah) (x1 : Int) (x2 : List (List Int)) : Option (List Int) :=
 (uo N x0 x1).bind fun l => (ix x0.ab x1).bind fun i => (oS (DI x2 i) l []).bind fun q => (tO N i).bind fun rs =>
 gu (decide (rs.length ≤ 1000)) (match q.2 with
  | .go => some (fh rs q.1)
  | _ => none)
section
variable {w0 : World} {c : Cx} {g h : AH}
theorem amC {E R : Value → W} {b5 mb : Nat} {d : List Nat} {w : Value} {rs r : List Int} (r5 : g.aZ b5 0 [.map (some mb)]) (F : aa (rI .i64) 1 g w rs) (hl : rs.length ≤ 1000)
 (H : ∀ (g' h' : AH) (w1 : Value), Sep c g' h' [] → im g' w1 r → R w1 h') :
 ∀ (m i : Nat) {h : AH} {es : List (Value × Value × Nat)} {cl : Nat} {s : List Int}, m + i = rs.length → fh (rs.drop i) s = r → Sep c g h [.ds d, .mp mb es cl] → jG es cl s →
  eE (α := (Value) × List Nat) (fun k a => uK w0 E R (vi (rs.length : Int)) w (aC b5 0) (fun b0 q => k ((b0), q)) a.1 a.2) (m + 1) (vi (i : Int), d) h := by
 intro m
 induction m with
 | zero =>
  intro i h es cl s hm hr S A
  have hi : i = rs.length := by omega
  subst hi
  rw [List.drop_length] at hr
  have hr : s = r := hr
  subst hr
  show uK w0 E R (vi (rs.length : Int)) w (aC b5 0) _ (vi (rs.length : Int)) d h
  unfold uK
  refine ff.2 ?_
  rw [decide_eq_false (by omega)]
  refine rT ?_
  unfold JF
  refine S.ct (r5 0 _ rfl) ?_
  refine S.jo (fun h S => ?_)
  obtain ⟨g', sg, S, M⟩ := S.ajS A
  exact H _ _ _ S M
 | succ m ih =>
  intro i h es cl s hm hr S A
  have hi : i < rs.length := by omega
  show uK w0 E R (vi (rs.length : Int)) w (aC b5 0) _ (vi (i : Int)) d h
  unfold uK
  refine ff.2 ?_
  rw [decide_eq_true (by omega)]
  refine wP ?_
  unfold JH
  have hx : ix rs (i : Int) = some rs[i] := List.getElem?_eq_getElem hi
  refine aa.idx F hx (fun b o vs E2 rr rp => ?_)
  cases rp
  refine S.ct (rr 0 _ rfl) ?_
  refine S.ct (r5 0 _ rfl) ?_
  have S := S.f1
  refine S.Zu A (fun es cl h S A => ?_)
  have S := S.f1
  unfold JG
  refine ie.2 ?_
  rw [l4 (by omega) (by omega)]
  have := ih (i + 1) (by omega) (by rw [← hr, List.drop_eq_getElem_cons hi]; rfl) S A
  exact this
end
theorem amD {x2 : List (List Int)} {i : aq} {s s' : List Int} {x : Int × Int} {f : Fl} (h : DI x2 i s x = some (s', f)) : ∃ t w, ix x2 x.1 = some t ∧ vY i = some w ∧ s' = fh (kV w x.2 t) s ∧ f = .go := by
 unfold DI at h
 obtain ⟨t, h1, h⟩ := bind_some h
 obtain ⟨w, h2, h⟩ := bind_some h
 cases h
 exact ⟨t, w, h1, h2, rfl, rfl⟩
theorem amE (xs : List Int) (x : Int) (s : List Int) : fh (xs ++ [x]) s = jh x (fh xs s) := by simp [fh]
theorem amf {w0 : World} {g h : AH} {Q : CR → AH → Prop} {r : List Int} {N : Nat} {x0 : ah} {x1 : Int} {x2 : List (List Int)} {cj cm Sg : Value} (M : DE N x0 x1 x2 = some r) (sg : Sub g h) (ok : h.Ok) (bL : aa aq.rep 4 g cj x0.ab) (cq : aa aB.rep 3 g cm x0.aD) (sd : aa gI 1 g Sg x2)
 (H : ∀ (g' h' : AH) (w1 : Value), Sep ⟨g, h, []⟩ g' h' [] → im g' w1 r → Q (.ret w1) h') : WF PP w0 JK [.agg ⟨zA x0 cj cm⟩, vi x1, Sg] h Q := by
 unfold DE at M
 obtain ⟨l, hl, M⟩ := bind_some M
 obtain ⟨i, hi, M⟩ := bind_some M
 obtain ⟨q, hq, M⟩ := bind_some M
 obtain ⟨rs, sP, M⟩ := bind_some M
 obtain ⟨hlen, M⟩ := oO M
 have hlen := of_decide_eq_true hlen
 refine abW _ _ _ ?_
 have S := Sep.start sg ok
 have S : Sep _ g h [.ds []] := S.QL
 unfold Tm
 refine S.box (zA x0 cj cm) rfl (ae rfl (ae rfl (ae rfl (ae rfl (ae rfl (ae bL.one (ae cq.one rfl))))))) (fun b1 h S => ?_)
 refine S.box [vi x1] rfl rfl (fun b2 h S => ?_)
 refine S.box [Sg] (oB sd.one) (ae sd.one rfl) (fun b3 h S => ?_)
 refine S.smk (fun mb h S A => ?_)
 refine S.alloc (l := [.map none]) rfl (fun b5 h S => ?_)
 refine S.dk [.map (some mb)] [.map (some mb)] rfl rfl rfl (Nat.le_of_ble_eq_true rfl) rfl (fun h S => ?_)
 obtain ⟨g5, sg5, S, r5⟩ := S.qh
 have S := S.f1
 obtain ⟨g3, DH, S, r3⟩ := S.qh
 have S := S.f1
 obtain ⟨g2, oR, S, r2⟩ := S.qh
 have S := S.f1
 obtain ⟨g1, nV, S, r1⟩ := S.qh
 have S := S.f1
 have r5 := ((DH.trans oR).trans nV).aZ r5
 have r3 := (oR.trans nV).aZ r3
 have r2 := nV.aZ r2
 have Sh := ((sg5.trans DH).trans oR).trans nV
 have bL := bL.mono aq.mono Sh
 have cq := cq.mono aB.mono Sh
 have sd := sd.mono rQ Sh
 refine S.mS r1 rfl (by decide) ?_
 refine S.ct (r2 0 _ rfl) ?_
 refine RK N x0 x1 cj cm S.sub S.ok bL cq hl (fun ga h v30 S1 It => ?_)
 have xb := S1.bX
 have S := S.mc S1
 have r1 := xb.aZ r1
 have r2 := xb.aZ r2
 have r3 := xb.aZ r3
 have r5 := xb.aZ r5
 have bL := bL.mono aq.mono xb
 have cq := cq.mono aB.mono xb
 have sd := sd.mono rQ xb
 refine QM (DI x2 i) (fun s g' h' Γ => Sub ga g' ∧ ∃ es cl, Γ = [.mp mb es cl] ∧ jG es cl s) It (fun s g h Γ g' h' hd sb => ⟨hd.1.trans sb, hd.2⟩) S ⟨.refl _, _, _, rfl, A⟩ hq ?_ ?_
 · intro lo n qq s x s' f R g2 h2 Γ2 sub S D1 bm kk
   obtain ⟨nW, es, cl, rfl, A⟩ := D1
   obtain ⟨t, w, ht, hw, rfl, rfl⟩ := amD bm
   have r1 := nW.aZ r1
   have r2 := nW.aZ r2
   have r3 := nW.aZ r3
   have r5 := nW.aZ r5
   have bL := bL.mono aq.mono nW
   have sd := sd.mono rQ nW
   show JJ w0 mz R (aC b3 0) (aC b1 0) (aC b2 0) (aC b5 0) lo n (vi x.1) (vi x.2) h2
   unfold JJ
   refine S.qw ?_
   refine S.my (fun h S => ?_)
   refine S.ct (r3 0 _ rfl) ?_
   refine aa.idx sd ht (fun b o vs E2 rr rp => ?_)
   obtain ⟨tv, rfl, tF⟩ := rp
   refine S.ct (rr 0 _ rfl) ?_
   have hs := A.lE
   refine Sep.range S tF (fun it k a => rfl) (fun xs _ gx Γ => ∃ es cl, Γ = [.lp n lo .busy none, .ds (qq :: []), .mp mb es cl] ∧ jG es cl (fh (kV w x.2 xs) s)) ⟨es, cl, rfl, A⟩ ?_ ?_
   · intro it o k a gx h1 Γ1 xs z hI uC hz hnz S1 hE kk2
     obtain ⟨es, cl, rfl, A⟩ := hI
     show Eo w0 mz R it (vi x.2) (aC b1 0) (aC b2 0) (aC b5 0) (k ()) h1
     unfold Eo
     refine hE _ ?_
     refine (jC rfl).2 ?_
     refine di.2 ?_
     have r1 := uC.aZ r1
     have r2 := uC.aZ r2
     have r5 := uC.aZ r5
     have bL := bL.mono aq.mono uC
     have take : ∀ bb : Bool, (decide (x.2 = 2) || !decide (z = w)) = bb → kV w x.2 (xs ++ [z]) = kV w x.2 xs ++ (bif bb then [z] else []) := fun bb e => by
      unfold kV
      rw [List.filter_append]
      congr 1
      rw [List.filter_cons, e]
      cases bb <;> rfl
     have put : ∀ {h2 : AH}, Sep ⟨g, _, []⟩ gx h2 (o :: [.lp n lo .busy none, .ds (qq :: []), .mp mb es cl]) → (decide (x.2 = 2) || !decide (z = w)) = true →
      (pr (.aI) [aC b5 0] fun ed => pr (.pv 0) [ed, vi z, (.bool true)] fun xp => k ()) h2 := fun S e => by
      refine S.ct (r5 0 _ rfl) ?_
      have S := S.f3
      refine S.Zu A (fun es cl h S A => ?_)
      have S := S.f3
      have S := S.f3
      have S := S.f3
      refine kk2 () gx h _ (.refl _) S ⟨es, cl, rfl, ?_⟩
      rw [take true e, cond_true, amE]; exact A
     cases h2 : decide (x.2 = 2) with
     | true =>
      refine aG (by decide) ?_
      refine aG (by decide) ?_
      refine aG (by decide) ?_
      refine aG (by decide) ?_
      refine aG (by decide) ?_
      refine aG (by decide) ?_
      refine aG (by decide) ?_
      refine aG (by decide) ?_
      refine bK.2 ?_
      refine wP ?_
      exact put S1 (by rw [h2]; rfl)
     | false =>
      refine aH rfl ?_
      refine aH rfl ?_
      refine cb.2 ?_
      refine aH rfl ?_
      refine S1.ct (r1 5 _ rfl) ?_
      refine aH rfl ?_
      refine S1.ct (r2 0 _ rfl) ?_
      refine aH rfl ?_
      refine aa.idx bL hi (fun b o2 vs E3 Si rp => ?_)
      cases rp
      refine aH rfl ?_
      refine S1.mS Si rfl (by decide) ?_
      refine aH rfl ?_
      refine YB hw S1.sub S1.ok (fun _ h S2 => ?_)
      have S1 := S1.cW S2
      refine aH rfl ?_
      refine ru.2 ?_
      refine bK.2 ?_
      cases hzw : decide (z = w) with
      | true =>
       refine rT ?_
       refine kk2 () gx h _ (.refl _) S1 ⟨es, cl, rfl, ?_⟩
       rw [take false (by rw [h2, hzw]; rfl), cond_false, List.append_nil]; exact A
      | false =>
       refine wP ?_
       exact put S1 (by rw [h2, hzw]; rfl)
   · intro it a gx h1 Γ1 xs uC hp hI S1
     obtain ⟨es, cl, rfl, A⟩ := hI
     show jq lo n .ready none true R h1
     refine S1.jq (fun h S => ?_)
     refine kk gx h _ uC S ⟨nW.trans uC, es, cl, rfl, ?_⟩
     have e : fh (kV w x.2 xs) s = fh (kV w x.2 t) s := ajP hs fun y => by
      unfold kV; rw [List.mem_filter, List.mem_filter, hp.mem_iff]
     rw [← e]; exact A
 · intro qq gx h Γ2 uC S D1
   obtain ⟨nW, es, cl, rfl, A⟩ := D1
   cases hf : q.2 with
   | go =>
    rw [hf] at M
    have M := Option.some.inj M
    refine QK ?_
    have r1 := nW.aZ r1
    have r2 := nW.aZ r2
    have r5 := nW.aZ r5
    have bL := bL.mono aq.mono nW
    unfold JI
    refine cb.2 ?_
    refine S.ct (r1 5 _ rfl) ?_
    refine S.ct (r2 0 _ rfl) ?_
    refine aa.idx bL hi (fun b o2 vs E3 Si rp => ?_)
    cases rp
    refine S.mS Si rfl (by decide) ?_
    refine Hz sP S.sub S.ok (fun gy h w S1 F => ?_)
    have r5 := S1.bX.aZ r5
    have S := S.mc S1
    refine F.len ?_
    exact ⟨_, amC r5 F hlen H rs.length 0 (by omega) (by rw [List.drop_zero]; exact M) S A⟩
   | ret => rw [hf] at M; cases M
   | ex j => rw [hf] at M; cases M
end
end Go.Ve.T
namespace Go.Ve.T
open Go.Ve Go.Proofs
noncomputable section
set_option maxRecDepth 10000
def qn (w0 : World) (g : AH) (fv : Value) (f : (List Int) → Option ((List Int))) : Prop := dZ fv = true ∧ ∀ (a0 : List Int) (DA : Value) (r : (List Int)) (E K : Value → W) (g2 h2 : AH), Sub g g2 → Sub g2 h2 → h2.Ok → im g2 DA a0 → f a0 = some r → (∀ (g' h' : AH) (w1 : Value), Sep ⟨g2, h2, []⟩ g' h' [] → aa (rI .i64) 1 g' w1 r → K w1 h') → dy PP w0 [fv, DA] E K h2
theorem qn.mono {w0 : World} {g g' : AH} {fv : Value} {f : (List Int) → Option ((List Int))} (H : qn w0 g fv f) (S : Sub g g') : qn w0 g' fv f := ⟨H.1, fun a0 DA r E K g2 h2 s1 => H.2 a0 DA r E K g2 h2 (Sub.trans S s1)⟩
def IG (N : Nat) (y5 : Int) (y7 : List (List Int)) (jj : (List (List Int)) → Int → Option ((List (List Int)))) : Option ((List (List Int))) :=
 jj y7 (bH .i64 (y5 + 1))
def IH (N : Nat) (x0 : List (List Int)) (y5 : Int) (x1 : (List Int) → Option ((List Int))) (y4 : List (List Int)) (jj : (List (List Int)) → Int → Option ((List (List Int)))) : Option ((List (List Int))) :=
(ix x0 y5).bind fun ei =>
(x1 ei).bind fun eV =>
 gu (decide (y4.length + [eV].length ≤ 1048576)) (
 IG N y5 (y4 ++ [eV]) jj)
def II (N : Nat) (y1 : List (List Int))  : Option ((List (List Int))) :=
 some y1
def DB (N : Nat) (v2 : Int) (x0 : List (List Int)) (x1 : (List Int) → Option ((List Int))) (y4 : List (List Int)) (y5 : Int) (jj : (List (List Int)) → Int → Option ((List (List Int)))) : Option ((List (List Int))) :=
 bif (decide (y5 < v2)) then (
 IH N x0 y5 x1 y4 jj) else (
 II N y4)
def zw (N : Nat) (v2 : Int) (x0 : List (List Int)) (x1 : (List Int) → Option ((List Int)))  : Nat → (List (List Int)) → Int → Option ((List (List Int)))
 | 0, _, _ => none
 | n + 1, y4, y5 => DB N v2 x0 x1 y4 y5  (fun ag cR => zw N v2 x0 x1 n ag cR)
def IJ (N : Nat) (x0 : List (List Int)) (x1 : (List Int) → Option ((List Int))) : Option ((List (List Int))) :=
 zw N (x0.length : Int) x0 x1 N ([] : List (List Int)) 0
abbrev zx (c : Cx) (R : Value → W) (r : (List (List Int))) : Prop := ∀ (g' h' : AH) (w1 : Value), Sep c g' h' [] → aa (rL (rI .i64) 1) 1 g' w1 r → R w1 h'
theorem al3 {w0 : World} {c : Cx} {g h : AH} {E R : Value → W} {r : (List (List Int))} {N : Nat} {y5 : Int} {y7 : List (List Int)} {aaI : Value} {aaJ : List (List Value)} {k3 : Value → Value → W} {jj : (List (List Int)) → Int → Option ((List (List Int)))} {ux : AH} (M : IG N y5 y7 jj = some r) (S : Sep c g h [.sl 28 1 aaI aaJ]) (al4 : aJ ((rL (rI .i64) 1) g) aaJ y7) (w8 : Sub ux g) (DC : ∀ {ag : List (List Int)} {eW : Value} {eX : List (List Value)} {cR : Int} {g2 h2 : AH}, jj ag cR = some r → Sub ux g2 → Sep c g2 h2 [.sl 28 1 eW eX] → aJ ((rL (rI .i64) 1) g2) eX ag → k3 eW (vi cR) h2) (H : zx c R r) : JM w0 E R (vi y5) k3 aaI h := by
 unfold JM
 unfold IG at M
 refine ie.2 ?_
 exact DC M w8 S al4
theorem al5 {w0 : World} {c : Cx} {g h : AH} {E R : Value → W} {r : (List (List Int))} {N : Nat} {x0 : List (List Int)} {y5 : Int} {x1 : (List Int) → Option ((List Int))} {y4 : List (List Int)} {bJ aK qo : Value} {o9 : List (List Value)} {k3 : Value → Value → W} {jj : (List (List Int)) → Int → Option ((List (List Int)))} {ux : AH} (M : IH N x0 y5 x1 y4 jj = some r) (S : Sep c g h [.sl 28 1 qo o9]) (bW : aa gI 1 g bJ x0) (aM : qn w0 g aK x1) (pa : aJ ((rL (rI .i64) 1) g) o9 y4) (w8 : Sub ux g) (DC : ∀ {ag : List (List Int)} {eW : Value} {eX : List (List Value)} {cR : Int} {g2 h2 : AH}, jj ag cR = some r → Sub ux g2 → Sep c g2 h2 [.sl 28 1 eW eX] → aJ ((rL (rI .i64) 1) g2) eX ag → k3 eW (vi cR) h2) (H : zx c R r) : JN w0 E R bJ (vi y5) aK qo k3 h := by
 unfold JN
 unfold IH at M
 obtain ⟨ei, ku, M⟩ := bind_some M
 refine aa.idx bW ku (fun yL Hv vs E_8 R6 rp => ?_)
 obtain ⟨w_5, rfl, R7⟩ := rp
 refine S.ct (R6 0 _ rfl) ?_
 obtain ⟨eV, wT, M⟩ := bind_some M
 refine aM.2 ei w_5 _ _ _ _ _ (Sub.refl _) S.sub S.ok R7 wT (fun g h pb S1 nU => ?_)
 have bW := aa.mono bW rQ S1.bX
 have aM := qn.mono aM S1.bX
 have R6 := S1.bX.aZ R6
 have R7 := im.mono R7 S1.bX
 have pa := aJ.mono pa (fun _ _ hh => (je (ej .i64)) _ _ _ _ S1.bX hh)
 have w8 := Sub.trans w8 S1.bX
 have S := S.mc S1
 refine S.wL [[pb]] (cG (m := [pb]) (l2 := [pb]) (oB nU.one) rfl (Nat.le_of_ble_eq_true rfl) rfl rfl) rfl (by decide) (wO rfl wN) (ae nU.one rfl) (fun aj8 h S => ?_)
 have CO : aJ ((rL (rI .i64) 1) g) [[pb]] [eV] := (aJ.push aJ.nil (show (rL (rI .i64) 1) g [pb] eV from ⟨_, rfl, nU⟩))
 have S := S.f1
 obtain ⟨al6, M⟩ := oO M
 refine S.app (S.rd 1 rfl) (by rw [pa.1, CO.1]; exact al6) (by decide) rfl (nR ZS CO) (nR ZS pa) (fun aae h S => ?_)
 have r7 : aJ ((rL (rI .i64) 1) g) (o9 ++ [[pb]]) (y4 ++ [eV]) := aJ.append pa CO
 have S := S.t1
 exact al3 M S r7 w8 DC H
theorem al7 {w0 : World} {c : Cx} {g h : AH} {E R : Value → W} {r : (List (List Int))} {N : Nat} {y1 : List (List Int)} {R8 : Value} {aaK : List (List Value)}  (M : II N y1 = some r) (S : Sep c g h [.sl 28 1 R8 aaK]) (al8 : aJ ((rL (rI .i64) 1) g) aaK y1)  (H : zx c R r) : JL w0 E R R8 h := by
 unfold JL
 unfold II at M
 obtain ⟨g, sg, S, R9⟩ := S.fz al8 (je (ej .i64))
 cases M
 exact H _ _ R8 S.bB R9
theorem al9 {w0 : World} {c : Cx} {g h : AH} {E R : Value → W} {r : (List (List Int))} {N : Nat} {v2 : Int} {x0 : List (List Int)} {x1 : (List Int) → Option ((List Int))} {y4 : List (List Int)} {y5 : Int} {bJ aK qo : Value} {o9 : List (List Value)} {k3 : Value → Value → W} {jj : (List (List Int)) → Int → Option ((List (List Int)))} {ux : AH} (M : DB N v2 x0 x1 y4 y5 jj = some r) (S : Sep c g h [.sl 28 1 qo o9]) (bW : aa gI 1 g bJ x0) (aM : qn w0 g aK x1) (pa : aJ ((rL (rI .i64) 1) g) o9 y4) (w8 : Sub ux g) (DC : ∀ {ag : List (List Int)} {eW : Value} {eX : List (List Value)} {cR : Int} {g2 h2 : AH}, jj ag cR = some r → Sub ux g2 → Sep c g2 h2 [.sl 28 1 eW eX] → aJ ((rL (rI .i64) 1) g2) eX ag → k3 eW (vi cR) h2) (H : zx c R r) : Er w0 E R (vi v2) bJ aK k3 qo (vi y5) h := by
 unfold Er
 unfold DB at M
 refine ff.2 ?_
 refine bz (fun hc => ?_) (fun hc => ?_)
 · have M := aV hc M
   exact al5 M S bW aM pa w8 DC H
 · have M := aW hc M
   exact al7 M S pa H
theorem ama {w0 : World} {c : Cx} {E R : Value → W} {r : (List (List Int))} {N : Nat} {v2 : Int} {x0 : List (List Int)} {x1 : (List Int) → Option ((List Int))} {bJ aK : Value}   (H : zx c R r) : ∀ (n : Nat) {y4 : List (List Int)} {y5 : Int} {qo : Value} {o9 : List (List Value)} {g h : AH}, zw N v2 x0 x1 n y4 y5 = some r → Sep c g h [.sl 28 1 qo o9] → aa gI 1 g bJ x0 → qn w0 g aK x1 → aJ ((rL (rI .i64) 1) g) o9 y4 → eE (α := Value × Value) (fun k a => Er w0 E R (vi v2) bJ aK (fun b0 b1 => k (b0, b1)) a.1 a.2) n (qo, (vi y5)) h := by
 intro n
 induction n with
 | zero =>
  intro y4 y5 qo o9 g h M S bW aM pa
  unfold zw at M; cases M
 | succ n ih =>
  intro y4 y5 qo o9 g h M S bW aM pa
  exact al9 M S bW aM pa  (Sub.refl g) (fun M2 sub S2 CQ => ih M2 S2 (aa.mono bW rQ sub) (qn.mono aM sub) CQ ) H
theorem amb {w0 : World} {g h : AH} {Q : CR → AH → Prop} {r : (List (List Int))} {N : Nat} {x0 : List (List Int)} {x1 : (List Int) → Option ((List Int))} {bJ aK : Value} (M : IJ N x0 x1 = some r) (sg : Sub g h) (ok : h.Ok) (bW : aa gI 1 g bJ x0) (aM : qn w0 g aK x1) (H : zx ⟨g, h, []⟩ (fun v => Q (.ret v)) r) : WF PP w0 JO [bJ, aK] h Q := by
 refine abY _ _ ?_
 have S := Sep.start sg ok
 unfold Tr
 unfold IJ at M
 refine bW.len ?_
 have S := S.CD 28 1
 exact ⟨N, ama  H _ M S bW aM (aJ.nil (R := (rL (rI .i64) 1) g)) ⟩
def DD (N : Nat) (cM : Int) (cg : Bool) (mu : ah) (IK : List (List Int)) (lI : Bool → Int → (List (List Int)) → Option ((List (List Int)))) : Option ((List (List Int))) :=
 lI cg (bH .i64 (cM - 1)) IK
def IL (N : Nat) (v1 : ah) (cM : Int) (v5 : List (List Int)) (aT : Bool) (lI : Bool → Int → (List (List Int)) → Option ((List (List Int)))) : Option ((List (List Int))) :=
(DE N v1 cM v5).bind fun eV =>
(ix v5 cM).bind fun jZ =>
 bif (!decide ((eV.length : Int) = (jZ.length : Int))) then (
(ix v5 cM).bind fun amc =>
 DD N cM true v1 (v5.set cM.toNat eV) lI) else (
 DD N cM aT v1 v5 lI)
def w9 (N : Nat) (v1 : ah) (v5 : List (List Int)) (aT : Bool) (cM : Int) (jk : Bool → (List (List Int)) → Option ((List (List Int)))) (lI : Bool → Int → (List (List Int)) → Option ((List (List Int)))) : Option ((List (List Int))) :=
 bif (decide (0 ≤ cM)) then (
 IL N v1 cM v5 aT lI) else (
 jk aT v5)
def uy (N : Nat) (v1 : ah) (jk : Bool → (List (List Int)) → Option ((List (List Int)))) : Nat → (List (List Int)) → Bool → Int → Option ((List (List Int)))
 | 0, _, _, _ => none
 | n + 1, v5, aT, cM => w9 N v1 v5 aT cM jk (fun ag cR fT => uy N v1 jk n fT ag cR)
def DF (N : Nat) (v1 : ah) (v5 : List (List Int)) (jk : Bool → (List (List Int)) → Option ((List (List Int)))) : Option ((List (List Int))) :=
 uy N v1 jk N v5 false (bH .i64 ((v1.ab.length : Int) - 1))
def DG (N : Nat) (v5 : List (List Int))  : Option ((List (List Int))) :=
(IJ N v5 (fun a0 => zy a0)).bind fun tM =>
 some tM
def Sa (N : Nat) (v1 : ah) (v5 : List (List Int)) (y8 : Bool) (jk : Bool → (List (List Int)) → Option ((List (List Int)))) : Option ((List (List Int))) :=
 bif y8 then (
 DF N v1 v5 jk) else (
 DG N v5)
def uz (N : Nat) (v1 : ah)  : Nat → (List (List Int)) → Bool → Option ((List (List Int)))
 | 0, _, _ => none
 | n + 1, v5, y8 => Sa N v1 v5 y8  (fun ag fT => uz N v1 n fT ag)
def IM (N : Nat) (v1 : ah)  : Option ((List (List Int))) :=
 gu (decide (0 ≤ (v1.ab.length : Int)) && decide ((v1.ab.length : Int) ≤ 65536)) (
 uz N v1 N (List.replicate (v1.ab.length : Int).toNat ([] : List Int)) true)
def Cp (N : Nat) (x0 : ah) : Option ((List (List Int))) :=
(uf N x0).bind fun aP =>
 bif (!aP) then (
 some ([] : List (List Int))) else (
 IM N x0)
abbrev qp (c : Cx) (R : Value → W) (r : (List (List Int))) : Prop := ∀ (g' h' : AH) (w1 : Value), Sep c g' h' [] → aa (rL (rI .i64) 1) 1 g' w1 r → R w1 h'
theorem aaL {w0 : World} {c : Cx} {g h : AH} {E R : Value → W} {r : (List (List Int))} {N : Nat} {cM : Int} {cg : Bool} {mu : ah} {IK : List (List Int)} {aaM : Nat} {Sb Sc aaN : Value} {aaO : List (List Value)} {la : Value → Value → W} {lI : Bool → Int → (List (List Int)) → Option ((List (List Int)))} {uA : AH} (M : DD N cM cg mu IK lI = some r) (S : Sep c g h [.bx aaM [(.string mu.az), (.string mu.aA), (vi mu.fArgs), (vi mu.aw), (vi mu.ax), Sb, Sc], .sl 102 1 aaN aaO]) (apa : aa aq.rep 4 g Sb mu.ab) (apb : aa aB.rep 3 g Sc mu.aD) (amd : aJ (gI g) aaO IK) (uB : Sub uA g) (zz : ∀ {ag : Bool} {cR : Int} {fT : List (List Int)} {jl : List (List Value)} {g2 h2 : AH}, lI ag cR fT = some r → Sub uA g2 → Sep c g2 h2 [.bx aaM [(.string mu.az), (.string mu.aA), (vi mu.fArgs), (vi mu.aw), (vi mu.ax), Sb, Sc], .sl 102 1 aaN jl] → aJ (gI g2) jl fT → la (.bool ag) (vi cR) h2) (H : qp c R r) : Es w0 E R (vi cM) la (.bool cg) h := by
 unfold Es
 unfold DD at M
 refine mP.2 ?_
 exact zz M uB S amd
theorem ame {w0 : World} {c : Cx} {g h : AH} {E R : Value → W} {r : (List (List Int))} {N : Nat} {v1 : ah} {cM : Int} {v5 : List (List Int)} {aT : Bool} {ak : Nat} {ar au gj : Value} {gz : List (List Value)} {la : Value → Value → W} {lI : Bool → Int → (List (List Int)) → Option ((List (List Int)))} {uA : AH} (M : IL N v1 cM v5 aT lI = some r) (S : Sep c g h [.bx ak [(.string v1.az), (.string v1.aA), (vi v1.fArgs), (vi v1.aw), (vi v1.ax), ar, au], .sl 102 1 gj gz]) (av : aa aq.rep 4 g ar v1.ab) (ay : aa aB.rep 3 g au v1.aD) (iu : aJ (gI g) gz v5) (uB : Sub uA g) (zz : ∀ {ag : Bool} {cR : Int} {fT : List (List Int)} {jl : List (List Value)} {g2 h2 : AH}, lI ag cR fT = some r → Sub uA g2 → Sep c g2 h2 [.bx ak [(.string v1.az), (.string v1.aA), (vi v1.fArgs), (vi v1.aw), (vi v1.ax), ar, au], .sl 102 1 gj jl] → aJ (gI g2) jl fT → la (.bool ag) (vi cR) h2) (H : qp c R r) : JQ w0 E R (aC ak 0) (vi cM) gj la (.bool aT) h := by
 unfold JQ
 unfold IL at M
 refine S.cL [(.string v1.az), (.string v1.aA), (vi v1.fArgs), (vi v1.aw), (vi v1.ax), ar, au] 0 rfl rfl rfl (by decide) ?_
 have S := S.f1
 obtain ⟨g_7, sq, uq, R5, bq⟩ := S.ajV iu rQ
 obtain ⟨eV, wT, M⟩ := bind_some M
 refine amf wT uq S.ok (aa.mono av aq.mono sq) (aa.mono ay aB.mono sq) R5 (fun _ h pb S1 nU => ?_)
 obtain ⟨g, sg, S, bm⟩ := bq _ _ S1
 have nU := bm _ _ nU
 have av := aa.mono av aq.mono sg
 have ay := aa.mono ay aB.mono sg
 have iu := aJ.mono iu (fun _ _ hh => rQ _ _ _ _ sg hh)
 have uB := Sub.trans uB sg
 refine S.Zv nU ?_
 obtain ⟨jZ, Da, M⟩ := bind_some M
 refine S.yZ 0 rfl iu Da (fun apc apd vs amg amh rp => ?_)
 obtain ⟨ape, rfl, R9⟩ := rp
 refine S.QF (j := 0) 0 rfl amg amh rfl ?_
 refine S.Zv R9 ?_
 refine ru.2 ?_
 refine bz (fun hc => ?_) (fun hc => ?_)
 · have M := aV hc M
   obtain ⟨amc, ami, M⟩ := bind_some M
   refine S.yZ 0 rfl iu ami (fun apf apg vs amj amk rp => ?_)
   obtain ⟨aph, rfl, api⟩ := rp
   refine S.QG (j := 0) [pb] amj amk (oB nU.one) rfl (ae nU.one rfl) (by decide) (fun h S => ?_)
   have aml : aJ (gI g) (gz.set cM.toNat [pb]) (v5.set cM.toNat eV) := aJ.set iu (show gI g [pb] eV from ⟨_, rfl, nU⟩) cM.toNat
   have S : Sep _ g h [.sl 102 1 gj (gz.set cM.toNat [pb]), .bx ak [(.string v1.az), (.string v1.aA), (vi v1.fArgs), (vi v1.aw), (vi v1.ax), ar, au]] := S
   have S := S.f1
   exact aaL M S av ay aml uB zz H
 · have M := aW hc M
   have S := S.f1
   exact aaL M S av ay iu uB zz H
theorem amm {w0 : World} {c : Cx} {g h : AH} {E R : Value → W} {r : (List (List Int))} {N : Nat} {v1 : ah} {v5 : List (List Int)} {aT : Bool} {cM : Int} {ak : Nat} {ar au gj : Value} {gz : List (List Value)} {k7 : Value → W} {jk : Bool → (List (List Int)) → Option ((List (List Int)))} {pc : AH} {la : Value → Value → W} {lI : Bool → Int → (List (List Int)) → Option ((List (List Int)))} {uA : AH} (M : w9 N v1 v5 aT cM jk lI = some r) (S : Sep c g h [.bx ak [(.string v1.az), (.string v1.aA), (vi v1.fArgs), (vi v1.aw), (vi v1.ax), ar, au], .sl 102 1 gj gz]) (av : aa aq.rep 4 g ar v1.ab) (ay : aa aB.rep 3 g au v1.aD) (iu : aJ (gI g) gz v5) (sc : Sub pc g) (xa : ∀ {ag : Bool} {fT : List (List Int)} {jl : List (List Value)} {g2 h2 : AH}, jk ag fT = some r → Sub pc g2 → Sep c g2 h2 [.bx ak [(.string v1.az), (.string v1.aA), (vi v1.fArgs), (vi v1.aw), (vi v1.ax), ar, au], .sl 102 1 gj jl] → aJ (gI g2) jl fT → k7 (.bool ag) h2) (uB : Sub uA g) (zz : ∀ {ag : Bool} {cR : Int} {fT : List (List Int)} {jl : List (List Value)} {g2 h2 : AH}, lI ag cR fT = some r → Sub uA g2 → Sep c g2 h2 [.bx ak [(.string v1.az), (.string v1.aA), (vi v1.fArgs), (vi v1.aw), (vi v1.ax), ar, au], .sl 102 1 gj jl] → aJ (gI g2) jl fT → la (.bool ag) (vi cR) h2) (H : qp c R r) : Et w0 E R (aC ak 0) gj k7 la (.bool aT) (vi cM) h := by
 unfold Et
 unfold w9 at M
 refine nM.2 ?_
 refine bz (fun hc => ?_) (fun hc => ?_)
 · have M := aV hc M
   exact ame M S av ay iu uB zz H
 · have M := aW hc M
   exact xa M sc S iu
theorem amn {w0 : World} {c : Cx} {E R : Value → W} {r : (List (List Int))} {N : Nat} {v1 : ah} {ak : Nat} {ar au gj : Value} {k7 : Value → W} {jk : Bool → (List (List Int)) → Option ((List (List Int)))} {pc : AH} (xa : ∀ {ag : Bool} {fT : List (List Int)} {jl : List (List Value)} {g2 h2 : AH}, jk ag fT = some r → Sub pc g2 → Sep c g2 h2 [.bx ak [(.string v1.az), (.string v1.aA), (vi v1.fArgs), (vi v1.aw), (vi v1.ax), ar, au], .sl 102 1 gj jl] → aJ (gI g2) jl fT → k7 (.bool ag) h2) (H : qp c R r) : ∀ (n : Nat) {v5 : List (List Int)} {aT : Bool} {cM : Int} {gz : List (List Value)} {g h : AH}, uy N v1 jk n v5 aT cM = some r → Sep c g h [.bx ak [(.string v1.az), (.string v1.aA), (vi v1.fArgs), (vi v1.aw), (vi v1.ax), ar, au], .sl 102 1 gj gz] → aa aq.rep 4 g ar v1.ab → aa aB.rep 3 g au v1.aD → aJ (gI g) gz v5 → Sub pc g → eE (α := Value × Value) (fun k a => Et w0 E R (aC ak 0) gj k7 (fun b0 b1 => k (b0, b1)) a.1 a.2) n ((.bool aT), (vi cM)) h := by
 intro n
 induction n with
 | zero =>
  intro v5 aT cM gz g h M S av ay iu sc
  unfold uy at M; cases M
 | succ n ih =>
  intro v5 aT cM gz g h M S av ay iu sc
  exact amm M S av ay iu sc xa (Sub.refl g) (fun M2 sub S2 Sd => ih M2 S2 (aa.mono av aq.mono sub) (aa.mono ay aB.mono sub) Sd (Sub.trans sc sub)) H
theorem amo {w0 : World} {c : Cx} {g h : AH} {E R : Value → W} {r : (List (List Int))} {N : Nat} {v1 : ah} {v5 : List (List Int)} {ak : Nat} {ar au gj : Value} {gz : List (List Value)} {k7 : Value → W} {jk : Bool → (List (List Int)) → Option ((List (List Int)))} {pc : AH} (M : DF N v1 v5 jk = some r) (S : Sep c g h [.bx ak [(.string v1.az), (.string v1.aA), (vi v1.fArgs), (vi v1.aw), (vi v1.ax), ar, au], .sl 102 1 gj gz]) (av : aa aq.rep 4 g ar v1.ab) (ay : aa aB.rep 3 g au v1.aD) (iu : aJ (gI g) gz v5) (sc : Sub pc g) (xa : ∀ {ag : Bool} {fT : List (List Int)} {jl : List (List Value)} {g2 h2 : AH}, jk ag fT = some r → Sub pc g2 → Sep c g2 h2 [.bx ak [(.string v1.az), (.string v1.aA), (vi v1.fArgs), (vi v1.aw), (vi v1.ax), ar, au], .sl 102 1 gj jl] → aJ (gI g2) jl fT → k7 (.bool ag) h2) (H : qp c R r) : JR w0 E R (aC ak 0) gj k7 h := by
 unfold JR
 unfold DF at M
 refine cb.2 ?_
 refine S.bQ 0 rfl rfl ?_
 refine av.len ?_
 refine mP.2 ?_
 exact ⟨N, amn xa H _ M S av ay iu sc⟩
theorem amp {w0 : World} {c : Cx} {g h : AH} {E R : Value → W} {r : (List (List Int))} {N : Nat} {v5 : List (List Int)} {gj : Value} {gz : List (List Value)}  (M : DG N v5 = some r) (S : Sep c g h [.sl 102 1 gj gz]) (iu : aJ (gI g) gz v5)  (H : qp c R r) : JP w0 E R gj h := by
 unfold JP
 unfold DG at M
 obtain ⟨g, sg, S, Se⟩ := S.fz iu rQ
 have amq : qn w0 g (fc Em) (fun a0 => zy a0) := ⟨rfl, fun a0 DA r E K g2 h2 s1 s2 s3 q0 m1 k1 => amr m1 s2 s3 q0 k1⟩
 obtain ⟨tM, Ca, M⟩ := bind_some M
 refine amb Ca S.sub S.ok Se amq (fun g h ams S1 amt => ?_)
 have Se := aa.mono Se rQ S1.bX
 have S := S.mc S1
 cases M
 exact H _ _ ams S.bB amt
theorem amu {w0 : World} {c : Cx} {g h : AH} {E R : Value → W} {r : (List (List Int))} {N : Nat} {v1 : ah} {v5 : List (List Int)} {y8 : Bool} {ak : Nat} {ar au gj : Value} {gz : List (List Value)} {k7 : Value → W} {jk : Bool → (List (List Int)) → Option ((List (List Int)))} {pc : AH} (M : Sa N v1 v5 y8 jk = some r) (S : Sep c g h [.bx ak [(.string v1.az), (.string v1.aA), (vi v1.fArgs), (vi v1.aw), (vi v1.ax), ar, au], .sl 102 1 gj gz]) (av : aa aq.rep 4 g ar v1.ab) (ay : aa aB.rep 3 g au v1.aD) (iu : aJ (gI g) gz v5) (sc : Sub pc g) (xa : ∀ {ag : Bool} {fT : List (List Int)} {jl : List (List Value)} {g2 h2 : AH}, jk ag fT = some r → Sub pc g2 → Sep c g2 h2 [.bx ak [(.string v1.az), (.string v1.aA), (vi v1.fArgs), (vi v1.aw), (vi v1.ax), ar, au], .sl 102 1 gj jl] → aJ (gI g2) jl fT → k7 (.bool ag) h2) (H : qp c R r) : Eu w0 E R (aC ak 0) gj k7 (.bool y8) h := by
 unfold Eu
 unfold Sa at M
 refine bz (fun hc => ?_) (fun hc => ?_)
 · have M := aV hc M
   exact amo M S av ay iu sc xa H
 · have M := aW hc M
   have S := S.f1
   have S := S.t1
   exact amp M S iu H
theorem amv {w0 : World} {c : Cx} {E R : Value → W} {r : (List (List Int))} {N : Nat} {v1 : ah} {ak : Nat} {ar au gj : Value}   (H : qp c R r) : ∀ (n : Nat) {v5 : List (List Int)} {y8 : Bool} {gz : List (List Value)} {g h : AH}, uz N v1 n v5 y8 = some r → Sep c g h [.bx ak [(.string v1.az), (.string v1.aA), (vi v1.fArgs), (vi v1.aw), (vi v1.ax), ar, au], .sl 102 1 gj gz] → aa aq.rep 4 g ar v1.ab → aa aB.rep 3 g au v1.aD → aJ (gI g) gz v5 → eE (α := Value) (fun k a => Eu w0 E R (aC ak 0) gj k a) n (.bool y8) h := by
 intro n
 induction n with
 | zero =>
  intro v5 y8 gz g h M S av ay iu
  unfold uz at M; cases M
 | succ n ih =>
  intro v5 y8 gz g h M S av ay iu
  exact amu M S av ay iu  (Sub.refl g) (fun M2 sub S2 Sd => ih M2 S2 (aa.mono av aq.mono sub) (aa.mono ay aB.mono sub) Sd ) H
theorem amw {w0 : World} {c : Cx} {g h : AH} {E R : Value → W} {r : (List (List Int))} {N : Nat} {v1 : ah} {ak : Nat} {ar au : Value}  (M : IM N v1 = some r) (S : Sep c g h [.bx ak [(.string v1.az), (.string v1.aA), (vi v1.fArgs), (vi v1.aw), (vi v1.ax), ar, au]]) (av : aa aq.rep 4 g ar v1.ab) (ay : aa aB.rep 3 g au v1.aD)  (H : qp c R r) : JS w0 E R (aC ak 0) h := by
 unfold JS
 unfold IM at M
 refine cb.2 ?_
 refine S.bQ 0 rfl rfl ?_
 refine av.len ?_
 obtain ⟨R3, M⟩ := oO M
 refine S.ZN R3 rfl (ae rfl rfl) (fun Dz h S => ?_)
 have IE : aJ (gI g) (List.replicate (v1.ab.length : Int).toNat [(.map none)]) (List.replicate (v1.ab.length : Int).toNat ([] : List Int)) := aJ.Zm (show gI g [(.map none)] ([] : List Int) from ⟨_, rfl, im.nil⟩) _
 have S := S.f1
 exact ⟨N, amv  H _ M S av ay IE ⟩
theorem ajH {w0 : World} {g h : AH} {Q : CR → AH → Prop} {r : (List (List Int))} {N : Nat} {x0 : ah} {cj cm : Value} (M : Cp N x0 = some r) (sg : Sub g h) (ok : h.Ok) (bL : aa aq.rep 4 g cj x0.ab) (cq : aa aB.rep 3 g cm x0.aD) (H : qp ⟨g, h, []⟩ (fun v => Q (.ret v)) r) : WF PP w0 JT [(.agg ⟨[(.string x0.az), (.string x0.aA), (vi x0.fArgs), (vi x0.aw), (vi x0.ax), cj, cm]⟩)] h Q := by
 refine abZ _ ?_
 have S := Sep.start sg ok
 unfold Ts
 unfold Cp at M
 refine S.box [(.string x0.az), (.string x0.aA), (vi x0.fArgs), (vi x0.aw), (vi x0.ax), cj, cm] rfl (ae rfl (ae rfl (ae rfl (ae rfl (ae rfl (ae bL.one (ae cq.one rfl))))))) (fun jE h S => ?_)
 refine S.cL [(.string x0.az), (.string x0.aA), (vi x0.fArgs), (vi x0.aw), (vi x0.ax), cj, cm] 0 rfl rfl rfl (by decide) ?_
 obtain ⟨aP, gE, M⟩ := bind_some M
 refine Ic gE S.sub S.ok bL cq (fun _ h  S1  => ?_)
 have S := S.cW S1
 refine fE.2 ?_
 refine bz (fun hc => ?_) (fun hc => ?_)
 · have M := aV hc M
   cases M
   exact H _ _ cZ S.bB aa.nil
 · have M := aW hc M
   exact amw M S bL cq H
end
end Go.Ve.T
