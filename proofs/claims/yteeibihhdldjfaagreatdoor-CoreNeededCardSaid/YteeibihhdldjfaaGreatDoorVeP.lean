/- Part 16: The list of a set: its numbers in order, however the map is gone through. Condition: of the model (at most 1048576 numbers). And what follows it. -/
import Derived.Test.YteeibihhdldjfaaGreatDoorVeO
import Derived.Shelf.Slices.In.SortNone
set_option linter.unusedVariables false
set_option linter.unusedSimpArgs false
namespace Go.Ve
open Go.RowKit Go.Sort
open Classical
noncomputable section
section
variable {c : Cx} {g h : AH} {Γ : List Ob}
theorem Xw : ∀ {ls : List (List Value)} {xs : List Int} {g : AH}, aw (rI .i64 g) ls xs → ls = xs.map fun x => [vi x]
 | [], [], _, _ => rfl
 | [], _ :: _, _, A => by have := A.1; simp at this
 | _ :: _, [], _, A => by have := A.1; simp at this
 | a :: ls, x :: xs, g, A => by
  have h1 : a = [vi x] := A.2 0 a x rfl rfl
  rw [h1, List.map_cons, Xw (⟨by simpa using A.1, fun i p q hp hq => A.2 (i + 1) p q (by simpa using hp) (by simpa using hq)⟩ : aw (rI .i64 g) ls xs)]
theorem OS (xs : List Int) : (xs.map fun x => [vi x]).flatten = xs.map vi := by
 induction xs with
 | nil => rfl
 | cons x xs ih => simp [ih]
theorem ai9 (g : AH) (xs : List Int) : aw (rI .i64 g) (xs.map fun x => [vi x]) xs := ⟨by simp, fun i a b ha hb => by
 rw [List.getElem?_map, hb] at ha
 cases ha; rfl⟩
theorem Sep.sort {P : Program} {w0 : World} {f : FuncId} {Q : CR → AH → Prop} (fH : Can P f) (hS0 : ∀ p cap w, Calls P f #[.slice p 0 cap] w fun e w' => e = .returned (.tuple #[]) ∧ w' = w)
 (hS : ∀ (bg off cap : Nat) (zs : List Int) (w : World), Holds (Value.int .i64) w bg off zs.toArray → bg < w.heap.size → zs.length < 4611686018427387904 →
  Calls P f #[.slice (some ⟨bg, off, none⟩) zs.length cap] w fun e w' => e = .returned (.tuple #[]) ∧ ∃ n os, w' = grow (putRow (Value.int .i64) (Sort.ahead w n) bg off (eo zs).toArray) os)
 {ty : TypeId} {v : Value} {ls : List (List Value)} {xs : List Int} (S : Sep c g h (.sl ty 1 v ls :: Γ)) (A : aw (rI .i64 g) ls xs) (ze : xs = [] → v = cP) (hlen : xs.length ≤ 1048576)
 (K : ∀ h' qR, Sep c g h' (.sl ty 1 v qR :: Γ) → aw (rI .i64 g) qR (eo xs) → Q (.ret (.tuple ⟨[]⟩)) h') : WF P w0 f [v] h Q := by
 by_cases hx : xs = []
 · subst hx
   obtain rfl := ze rfl
   exact aja fH hS0 (K h ls S (by rw [show eo [] = [] from List.mergeSort_nil]; exact A))
 · have hls := Xw A
   have OT : (eo xs).Perm xs := List.mergeSort_perm xs _
   have uu : (eo xs).length = xs.length := OT.length_eq
   have O : du h ty 1 v ls := S.de _ List.mem_cons_self
   have get : ∀ {b lo hi : Nat} {bI : TypeId} {cc : NT Value} {o : Nat}, h.ob.get b = some (.cells lo hi bI true cc) → (h.wr b o ((eo xs).map vi)).ob.get b = some (.cells lo hi bI true (ik cc o ((eo xs).map vi))) := fun hg => by
    unfold AH.wr; rw [hg]; simp only [NT.cQ, if_true]
   have aW : ∀ {b lo hi : Nat} {bI : TypeId} {cc : NT Value} {o : Nat}, h.ob.get b = some (.cells lo hi bI true cc) → lo ≤ o → o + xs.length ≤ hi → (h.wr b o ((eo xs).map vi)).aW b o ((eo xs).map vi) := fun hg h1 h2 i u hu => by
    have cI : i < (eo xs).length := by simpa using (List.getElem?_eq_some_iff.1 hu).1
    rw [AH.wM (n := xs.length) ⟨_, _, _, _, hg, h1, h2⟩ (by simp [uu]), if_pos ⟨rfl, by omega, by rw [List.length_map]; omega⟩, Nat.add_sub_cancel_left]
    exact hu
   have fin : ∀ (b lo hi : Nat) (bI : TypeId) (cc : NT Value) (o n : Nat), v = eB b o xs.length n → h.ob.get b = some (.cells lo hi bI true cc) → lo ≤ o → o + xs.length ≤ hi → h.aW b o ls.flatten →
    du (h.wr b o ((eo xs).map vi)) ty 1 v ((eo xs).map fun x => [vi x]) → WF P w0 f [v] h Q := fun b lo hi bI cc o n hv hg h1 h2 hr O' => by
    subst hv
    refine ajb fH hS hx hlen hg h1 h2 (by rw [hls, OS] at hr; exact hr) (K _ _ (S.change (.sl ty 1 _ _) (AH.uG S.ok _ _ _) (by rw [AH.lD]; exact Nat.le_refl _) (fun f _ hf => AH.sf h (fun e => hf (by subst e; simp [Ob.bg, dA]))) O' uW (fun b' bG => ?_)) (ai9 g _))
    have bG : b' = b := by simpa [Ob.bg, dA] using bG
    subst bG
    exact ⟨by rw [AH.lD]; exact AH.lt_of_get S.ok hg, .inr (by simp [Ob.bg, dA])⟩
   have jK : ls.length = xs.length := A.1
   cases O with
   | nil => exact absurd (List.length_eq_zero_iff.1 jK.symm) hx
   | un b o n lo hi cc _ hn hb hg h1 h2 hr hs =>
    rw [jK] at hn
    subst hn
    refine fin _ _ _ _ _ _ _ rfl hg h1 (by omega) hr (.un b o _ lo hi _ _ (by simp [uu]) hb (get hg) h1 h2 (by rw [OS]; exact aW hg h1 (by omega)) (fun x hx => ?_))
    obtain ⟨y, _, rfl⟩ := List.mem_map.1 hx; rfl
   | kn b o n cap lo hi bI cc _ hn hb hc hg h1 h2 hr hs =>
    rw [jK] at hn
    subst hn
    refine fin _ _ _ _ _ _ _ rfl hg h1 (by omega) hr (.kn b o _ cap lo hi bI _ _ (by simp [uu]) hb hc (get hg) h1 h2 (by rw [OS]; exact aW hg h1 (by omega)) (fun x hx => ?_))
    obtain ⟨y, _, rfl⟩ := List.mem_map.1 hx; rfl
end
namespace T
open Go.Proofs
theorem ajc : Can PP Pn := ⟨_, Tryz.func107, by kernel_rfl, by kernel_rfl⟩
def xN (x0 : List Int) : Option (List Int) := gu (decide (x0.length ≤ 1048576)) (some x0)
theorem aij {w0 : World} {g h : AH} {Q : CR → AH → Prop} {r x0 : List Int} {bC : Value} (M : xN x0 = some r) (sg : Sub g h) (ok : h.Ok) (bK : gM g bC x0)
 (H : ∀ (g' h' : AH) (w1 : Value), Sep ⟨g, h, []⟩ g' h' [] → ae (rI .i64) 1 g' w1 r → Q (.ret w1) h') : WF PP w0 Cv [bC] h Q := by
 obtain ⟨hlen, M⟩ := ml M
 have e := Option.some.inj M
 subst e
 have hlen := of_decide_eq_true hlen
 refine Yf _ ?_
 unfold Po
 have S := Sep.start sg ok
 refine Sep.range (S.AS 3 1) bK (fun it k a => rfl) (fun xs a g1 Γ1 => ∃ ls, Γ1 = [.sl 3 1 a ls] ∧ aw (rI .i64 g1) ls xs ∧ (xs = [] → a = cP) ∧ xs.Nodup ∧ ∀ y ∈ xs, y ∈ x0) ⟨[], rfl, .nil, fun _ => rfl, .nil, fun y hy => by simp at hy⟩ ?_ ?_
 · intro it o k a g1 h1 Γ1 xs x hI nq hx ib S1 hE kk
   obtain ⟨ls, rfl, A, hn, nd, ag⟩ := hI
   have bz : xs.length + 1 ≤ x0.length := Vt (l := x :: xs) (List.nodup_cons.2 ⟨ib, nd⟩) bK.kZ.nd (fun y hy => by
    rcases List.mem_cons.1 hy with rfl | hy
    · exact hx
    · exact ag y hy)
   show WP (.x .entry) [it] h1 _
   refine hE _ ?_
   refine (jd rfl).2 ?_
   refine S1.uX [[vi x]] (cq (m := [vi x]) (l2 := [vi x]) rfl rfl (Nat.le_of_ble_eq_true rfl) rfl rfl) rfl (by decide) (u9 rfl uZ) (aa rfl rfl) (fun v h S => ?_)
   have A1 : aw ((rI .i64) g1) [[vi x]] [x] := aw.push aw.nil (show (rI .i64) g1 [vi x] x from rfl)
   have S := S.f2
   refine S.app (S.rd 1 rfl) (by rw [A.1, A1.1]; exact decide_eq_true (by simp; omega)) (by decide) rfl (nh (pB .i64) A1) (nh (pB .i64) A) (fun v' h S => ?_)
   have S := S.f2
   have S := S.t2
   exact kk v' g1 h _ (.refl _) S ⟨_, rfl, A.append A1, fun h => by simp at h, List.nodup_append.2 ⟨nd, by simp, fun p hp q hq e => by simp at hq; subst hq; subst e; exact ib hp⟩, fun y hy => by
    rcases List.mem_append.1 hy with hy | hy
    · exact ag y hy
    · simp at hy; subst hy; exact hx⟩
 · intro it a g1 h1 Γ1 xs nq hp hI S1
   obtain ⟨ls, rfl, A, hn, nd, ag⟩ := hI
   refine S1.sort ajc (fun p cap w => Any.slices_Sort_int_none U9 p cap w) (fun bg off cap zs w => Any.slices_Sort_int U9 bg off cap zs w) A hn (by rw [hp.length_eq]; exact hlen) fun h' qR S2 A2 => ?_
   rw [ajd bK.kZ hp] at A2
   obtain ⟨g2, og, S3, F⟩ := S2.fz A2 (gK .i64)
   exact H g2 h' a S3 F
end T
end
end Go.Ve
namespace Go.Ve.T
open Go.Ve Go.Proofs
noncomputable section
def kC (w how : Int) (t : List Int) : List Int := t.filter fun n => decide (how = 2) || !decide (n = w)
def B2 (x2 : List (List Int)) (i : al) (s : List Int) (x : Int × Int) : Option (List Int × Fl) :=
 (ix x2 x.1).bind fun t => (uO i).bind fun w => some (eI (kC w x.2 t) s, .go)
def BX (N : Nat) (x0 : ah) (x1 : Int) (x2 : List (List Int)) : Option (List Int) :=
 (ti N x0 x1).bind fun l => (ix x0.ab x1).bind fun i => (oh (B2 x2 i) l []).bind fun q => (xe N i).bind fun rs =>
 gu (decide (rs.length ≤ 1000)) (match q.2 with
  | .go => some (eI rs q.1)
  | _ => none)
section
variable {w0 : World} {c : Cx} {g h : AH}
theorem aiv {E R : Value → W} {b5 mb : Nat} {d : List Nat} {w : Value} {rs r : List Int} (r5 : g.aW b5 0 [.map (some mb)]) (F : ae (rI .i64) 1 g w rs) (hl : rs.length ≤ 1000)
 (H : ∀ (g' h' : AH) (w1 : Value), Sep c g' h' [] → gM g' w1 r → R w1 h') :
 ∀ (m i : Nat) {h : AH} {es : List (Value × Value × Nat)} {cl : Nat} {s : List Int}, m + i = rs.length → eI (rs.drop i) s = r → Sep c g h [.ds d, .mp mb es cl] → cU es cl s →
  gr (α := (Value) × List Nat) (fun k a => tD w0 E R (vi (rs.length : Int)) w (av b5 0) (fun b0 q => k ((b0), q)) a.1 a.2) (m + 1) (vi (i : Int), d) h := by
 intro m
 induction m with
 | zero =>
  intro i h es cl s hm hr S A
  have hi : i = rs.length := by omega
  subst hi
  rw [List.drop_length] at hr
  have hr : s = r := hr
  subst hr
  show tD w0 E R (vi (rs.length : Int)) w (av b5 0) _ (vi (rs.length : Int)) d h
  unfold tD
  refine iI.2 ?_
  rw [decide_eq_false (by omega)]
  refine qQ ?_
  unfold Hh
  refine S.dN (r5 0 _ rfl) ?_
  refine S.iS (fun h S => ?_)
  obtain ⟨g', sg, S, M⟩ := S.afF A
  exact H _ _ _ S M
 | succ m ih =>
  intro i h es cl s hm hr S A
  have hi : i < rs.length := by omega
  show tD w0 E R (vi (rs.length : Int)) w (av b5 0) _ (vi (i : Int)) d h
  unfold tD
  refine iI.2 ?_
  rw [decide_eq_true (by omega)]
  refine vd ?_
  unfold Hj
  have hx : ix rs (i : Int) = some rs[i] := List.getElem?_eq_getElem hi
  refine ae.idx F hx (fun b o vs E2 rr rp => ?_)
  cases rp
  refine S.dN (rr 0 _ rfl) ?_
  refine S.dN (r5 0 _ rfl) ?_
  have S := S.f1
  refine S.My A (fun es cl h S A => ?_)
  have S := S.f1
  unfold Hi
  refine lE.2 ?_
  rw [lC (by omega) (by omega)]
  have := ih (i + 1) (by omega) (by rw [← hr, List.drop_eq_getElem_cons hi]; rfl) S A
  exact this
end
theorem aiw {x2 : List (List Int)} {i : al} {s s' : List Int} {x : Int × Int} {f : Fl} (h : B2 x2 i s x = some (s', f)) : ∃ t w, ix x2 x.1 = some t ∧ uO i = some w ∧ s' = eI (kC w x.2 t) s ∧ f = .go := by
 unfold B2 at h
 obtain ⟨t, h1, h⟩ := bind_some h
 obtain ⟨w, h2, h⟩ := bind_some h
 cases h
 exact ⟨t, w, h1, h2, rfl, rfl⟩
theorem aix (xs : List Int) (x : Int) (s : List Int) : eI (xs ++ [x]) s = gU x (eI xs s) := by simp [eI]
theorem ah6 {w0 : World} {g h : AH} {Q : CR → AH → Prop} {r : List Int} {N : Nat} {x0 : ah} {x1 : Int} {x2 : List (List Int)} {ct cu dS : Value} (M : BX N x0 x1 x2 = some r) (sg : Sub g h) (ok : h.Ok) (bU : ae al.rep 4 g ct x0.ab) (cy : ae ax.rep 3 g cu x0.ay) (c8 : ae fY 1 g dS x2)
 (H : ∀ (g' h' : AH) (w1 : Value), Sep ⟨g, h, []⟩ g' h' [] → gM g' w1 r → Q (.ret w1) h') : WF PP w0 Hm [.agg ⟨xQ x0 ct cu⟩, vi x1, dS] h Q := by
 unfold BX at M
 obtain ⟨l, hl, M⟩ := bind_some M
 obtain ⟨i, hi, M⟩ := bind_some M
 obtain ⟨q, hq, M⟩ := bind_some M
 obtain ⟨rs, rN, M⟩ := bind_some M
 obtain ⟨hlen, M⟩ := ml M
 have hlen := of_decide_eq_true hlen
 refine Yk _ _ _ ?_
 have S := Sep.start sg ok
 have S : Sep _ g h [.ds []] := S.MV
 unfold Ps
 refine S.box (xQ x0 ct cu) rfl (aa rfl (aa rfl (aa rfl (aa rfl (aa rfl (aa bU.one (aa cy.one rfl))))))) (fun b1 h S => ?_)
 refine S.box [vi x1] rfl rfl (fun b2 h S => ?_)
 refine S.box [dS] (nX c8.one) (aa c8.one rfl) (fun b3 h S => ?_)
 refine S.U6 (fun mb h S A => ?_)
 refine S.alloc (l := [.map none]) rfl (fun b5 h S => ?_)
 refine S.c9 [.map (some mb)] [.map (some mb)] rfl rfl rfl (Nat.le_of_ble_eq_true rfl) rfl (fun h S => ?_)
 obtain ⟨g5, sg5, S, r5⟩ := S.pA
 have S := S.f1
 obtain ⟨g3, B1, S, r3⟩ := S.pA
 have S := S.f1
 obtain ⟨g2, og, S, r2⟩ := S.pA
 have S := S.f1
 obtain ⟨g1, nq, S, r1⟩ := S.pA
 have S := S.f1
 have r5 := ((B1.trans og).trans nq).aW r5
 have r3 := (og.trans nq).aW r3
 have r2 := nq.aW r2
 have Ox := ((sg5.trans B1).trans og).trans nq
 have bU := bU.mono al.mono Ox
 have cy := cy.mono ax.mono Ox
 have c8 := c8.mono qO Ox
 refine S.oc r1 rfl (by decide) ?_
 refine S.dN (r2 0 _ rfl) ?_
 refine NY N x0 x1 ct cu S.sub S.ok bU cy hl (fun ga h v30 S1 It => ?_)
 have vw := S1.bT
 have S := S.na S1
 have r1 := vw.aW r1
 have r2 := vw.aW r2
 have r3 := vw.aW r3
 have r5 := vw.aW r5
 have bU := bU.mono al.mono vw
 have cy := cy.mono ax.mono vw
 have c8 := c8.mono qO vw
 refine MW (B2 x2 i) (fun s g' h' Γ => Sub ga g' ∧ ∃ es cl, Γ = [.mp mb es cl] ∧ cU es cl s) It (fun s g h Γ g' h' hd sb => ⟨hd.1.trans sb, hd.2⟩) S ⟨.refl _, _, _, rfl, A⟩ hq ?_ ?_
 · intro lo n qq s x s' f R g2 h2 Γ2 sub S D1 bm kk
   obtain ⟨nr, es, cl, rfl, A⟩ := D1
   obtain ⟨t, w, ht, hw, rfl, rfl⟩ := aiw bm
   have r1 := nr.aW r1
   have r2 := nr.aW r2
   have r3 := nr.aW r3
   have r5 := nr.aW r5
   have bU := bU.mono al.mono nr
   have c8 := c8.mono qO nr
   show Hl w0 lT R (av b3 0) (av b1 0) (av b2 0) (av b5 0) lo n (vi x.1) (vi x.2) h2
   unfold Hl
   refine S.pM ?_
   refine S.lS (fun h S => ?_)
   refine S.dN (r3 0 _ rfl) ?_
   refine ae.idx c8 ht (fun b o vs E2 rr rp => ?_)
   obtain ⟨tv, rfl, tF⟩ := rp
   refine S.dN (rr 0 _ rfl) ?_
   have hs := A.kZ
   refine Sep.range S tF (fun it k a => rfl) (fun xs _ gx Γ => ∃ es cl, Γ = [.lp n lo .busy none, .ds (qq :: []), .mp mb es cl] ∧ cU es cl (eI (kC w x.2 xs) s)) ⟨es, cl, rfl, A⟩ ?_ ?_
   · intro it o k a gx h1 Γ1 xs z hI tw hz hnz S1 hE WT
     obtain ⟨es, cl, rfl, A⟩ := hI
     show Cy w0 lT R it (vi x.2) (av b1 0) (av b2 0) (av b5 0) (k ()) h1
     unfold Cy
     refine hE _ ?_
     refine (jd rfl).2 ?_
     refine c7.2 ?_
     have r1 := tw.aW r1
     have r2 := tw.aW r2
     have r5 := tw.aW r5
     have bU := bU.mono al.mono tw
     have take : ∀ bb : Bool, (decide (x.2 = 2) || !decide (z = w)) = bb → kC w x.2 (xs ++ [z]) = kC w x.2 xs ++ (bif bb then [z] else []) := fun bb e => by
      unfold kC
      rw [List.filter_append]
      congr 1
      rw [List.filter_cons, e]
      cases bb <;> rfl
     have put : ∀ {h2 : AH}, Sep ⟨g, _, []⟩ gx h2 (o :: [.lp n lo .busy none, .ds (qq :: []), .mp mb es cl]) → (decide (x.2 = 2) || !decide (z = w)) = true →
      (pr (.aB) [av b5 0] fun lU => pr (.nB 0) [lU, vi z, (.bool true)] fun rk => k ()) h2 := fun S e => by
      refine S.dN (r5 0 _ rfl) ?_
      have S := S.f3
      refine S.My A (fun es cl h S A => ?_)
      have S := S.f3
      have S := S.f3
      have S := S.f3
      refine WT () gx h _ (.refl _) S ⟨es, cl, rfl, ?_⟩
      rw [take true e, cond_true, aix]; exact A
     cases h2 : decide (x.2 = 2) with
     | true =>
      refine aC (by decide) ?_
      refine aC (by decide) ?_
      refine aC (by decide) ?_
      refine aC (by decide) ?_
      refine aC (by decide) ?_
      refine aC (by decide) ?_
      refine aC (by decide) ?_
      refine aC (by decide) ?_
      refine bW.2 ?_
      refine vd ?_
      exact put S1 (by rw [h2]; rfl)
     | false =>
      refine aD rfl ?_
      refine aD rfl ?_
      refine bY.2 ?_
      refine aD rfl ?_
      refine S1.dN (r1 5 _ rfl) ?_
      refine aD rfl ?_
      refine S1.dN (r2 0 _ rfl) ?_
      refine aD rfl ?_
      refine ae.idx bU hi (fun b o2 vs E3 Oy rp => ?_)
      cases rp
      refine aD rfl ?_
      refine S1.oc Oy rfl (by decide) ?_
      refine aD rfl ?_
      refine U3 hw S1.sub S1.ok (fun _ h S2 => ?_)
      have S1 := S1.dz S2
      refine aD rfl ?_
      refine sk.2 ?_
      refine bW.2 ?_
      cases WU : decide (z = w) with
      | true =>
       refine qQ ?_
       refine WT () gx h _ (.refl _) S1 ⟨es, cl, rfl, ?_⟩
       rw [take false (by rw [h2, WU]; rfl), cond_false, List.append_nil]; exact A
      | false =>
       refine vd ?_
       exact put S1 (by rw [h2, WU]; rfl)
   · intro it a gx h1 Γ1 xs tw hp hI S1
     obtain ⟨es, cl, rfl, A⟩ := hI
     show iT lo n .ready none true R h1
     refine S1.iT (fun h S => ?_)
     refine kk gx h _ tw S ⟨nr.trans tw, es, cl, rfl, ?_⟩
     have e : eI (kC w x.2 xs) s = eI (kC w x.2 t) s := afD hs fun y => by
      unfold kC; rw [List.mem_filter, List.mem_filter, hp.mem_iff]
     rw [← e]; exact A
 · intro qq gx h Γ2 tw S D1
   obtain ⟨nr, es, cl, rfl, A⟩ := D1
   cases hf : q.2 with
   | go =>
    rw [hf] at M
    have M := Option.some.inj M
    refine MU ?_
    have r1 := nr.aW r1
    have r2 := nr.aW r2
    have r5 := nr.aW r5
    have bU := bU.mono al.mono nr
    unfold Hk
    refine bY.2 ?_
    refine S.dN (r1 5 _ rfl) ?_
    refine S.dN (r2 0 _ rfl) ?_
    refine ae.idx bU hi (fun b o2 vs E3 Oy rp => ?_)
    cases rp
    refine S.oc Oy rfl (by decide) ?_
    refine U5 rN S.sub S.ok (fun gy h w S1 F => ?_)
    have r5 := S1.bT.aW r5
    have S := S.na S1
    refine F.len ?_
    exact ⟨_, aiv r5 F hlen H rs.length 0 (by omega) (by rw [List.drop_zero]; exact M) S A⟩
   | ret => rw [hf] at M; cases M
   | ex j => rw [hf] at M; cases M
end
end Go.Ve.T
namespace Go.Ve.T
open Go.Ve Go.Proofs
noncomputable section
set_option maxRecDepth 10000
def pH (w0 : World) (g : AH) (fv : Value) (f : (List Int) → Option ((List Int))) : Prop := dR fv = true ∧ ∀ (a0 : List Int) (BT : Value) (r : (List Int)) (E K : Value → W) (g2 h2 : AH), Sub g g2 → Sub g2 h2 → h2.Ok → gM g2 BT a0 → f a0 = some r → (∀ (g' h' : AH) (w1 : Value), Sep ⟨g2, h2, []⟩ g' h' [] → ae (rI .i64) 1 g' w1 r → K w1 h') → dy PP w0 [fv, BT] E K h2
theorem pH.mono {w0 : World} {g g' : AH} {fv : Value} {f : (List Int) → Option ((List Int))} (H : pH w0 g fv f) (S : Sub g g') : pH w0 g' fv f := ⟨H.1, fun a0 BT r E K g2 h2 s1 => H.2 a0 BT r E K g2 h2 (Sub.trans S s1)⟩
def Gh (N : Nat) (y5 : Int) (y7 : List (List Int)) (iN : (List (List Int)) → Int → Option ((List (List Int)))) : Option ((List (List Int))) :=
 iN y7 (bD .i64 (y5 + 1))
def Gi (N : Nat) (x0 : List (List Int)) (y5 : Int) (x1 : (List Int) → Option ((List Int))) (y4 : List (List Int)) (iN : (List (List Int)) → Int → Option ((List (List Int)))) : Option ((List (List Int))) :=
(ix x0 y5).bind fun dZ =>
(x1 dZ).bind fun eC =>
 gu (decide (y4.length + [eC].length ≤ 1048576)) (
 Gh N y5 (y4 ++ [eC]) iN)
def Gj (N : Nat) (y1 : List (List Int))  : Option ((List (List Int))) :=
 some y1
def BU (N : Nat) (v2 : Int) (x0 : List (List Int)) (x1 : (List Int) → Option ((List Int))) (y4 : List (List Int)) (y5 : Int) (iN : (List (List Int)) → Int → Option ((List (List Int)))) : Option ((List (List Int))) :=
 bif (decide (y5 < v2)) then (
 Gi N x0 y5 x1 y4 iN) else (
 Gj N y4)
def xL (N : Nat) (v2 : Int) (x0 : List (List Int)) (x1 : (List Int) → Option ((List Int)))  : Nat → (List (List Int)) → Int → Option ((List (List Int)))
 | 0, _, _ => none
 | n + 1, y4, y5 => BU N v2 x0 x1 y4 y5  (fun aq bp => xL N v2 x0 x1 n aq bp)
def Gk (N : Nat) (x0 : List (List Int)) (x1 : (List Int) → Option ((List Int))) : Option ((List (List Int))) :=
 xL N (x0.length : Int) x0 x1 N ([] : List (List Int)) 0
abbrev xM (c : Cx) (R : Value → W) (r : (List (List Int))) : Prop := ∀ (g' h' : AH) (w1 : Value), Sep c g' h' [] → ae (rL (rI .i64) 1) 1 g' w1 r → R w1 h'
theorem ahU {w0 : World} {c : Cx} {g h : AH} {E R : Value → W} {r : (List (List Int))} {N : Nat} {y5 : Int} {y7 : List (List Int)} {WG : Value} {WH : List (List Value)} {k3 : Value → Value → W} {iN : (List (List Int)) → Int → Option ((List (List Int)))} {tp : AH} (M : Gh N y5 y7 iN = some r) (S : Sep c g h [.sl 28 1 WG WH]) (ahV : aw ((rL (rI .i64) 1) g) WH y7) (vt : Sub tp g) (BV : ∀ {aq : List (List Int)} {eD : Value} {eE : List (List Value)} {bp : Int} {g2 h2 : AH}, iN aq bp = some r → Sub tp g2 → Sep c g2 h2 [.sl 28 1 eD eE] → aw ((rL (rI .i64) 1) g2) eE aq → k3 eD (vi bp) h2) (H : xM c R r) : Ho w0 E R (vi y5) k3 WG h := by
 unfold Ho
 unfold Gh at M
 refine lE.2 ?_
 exact BV M vt S ahV
theorem ahW {w0 : World} {c : Cx} {g h : AH} {E R : Value → W} {r : (List (List Int))} {N : Nat} {x0 : List (List Int)} {y5 : Int} {x1 : (List Int) → Option ((List Int))} {y4 : List (List Int)} {bC cV pI : Value} {oB : List (List Value)} {k3 : Value → Value → W} {iN : (List (List Int)) → Int → Option ((List (List Int)))} {tp : AH} (M : Gi N x0 y5 x1 y4 iN = some r) (S : Sep c g h [.sl 28 1 pI oB]) (bK : ae fY 1 g bC x0) (dG : pH w0 g cV x1) (oC : aw ((rL (rI .i64) 1) g) oB y4) (vt : Sub tp g) (BV : ∀ {aq : List (List Int)} {eD : Value} {eE : List (List Value)} {bp : Int} {g2 h2 : AH}, iN aq bp = some r → Sub tp g2 → Sep c g2 h2 [.sl 28 1 eD eE] → aw ((rL (rI .i64) 1) g2) eE aq → k3 eD (vi bp) h2) (H : xM c R r) : Hp w0 E R bC (vi y5) cV pI k3 h := by
 unfold Hp
 unfold Gi at M
 obtain ⟨dZ, jS, M⟩ := bind_some M
 refine ae.idx bK jS (fun xa Fs vs E_8 Ol rp => ?_)
 obtain ⟨w_5, rfl, Om⟩ := rp
 refine S.dN (Ol 0 _ rfl) ?_
 obtain ⟨eC, vh, M⟩ := bind_some M
 refine dG.2 dZ w_5 _ _ _ _ _ (Sub.refl _) S.sub S.ok Om vh (fun g h oD S1 nn => ?_)
 have bK := ae.mono bK qO S1.bT
 have dG := pH.mono dG S1.bT
 have Ol := S1.bT.aW Ol
 have Om := gM.mono Om S1.bT
 have oC := aw.mono oC (fun _ _ hh => (AM (gK .i64)) _ _ _ _ S1.bT hh)
 have vt := Sub.trans vt S1.bT
 have S := S.na S1
 refine S.uX [[oD]] (cq (m := [oD]) (l2 := [oD]) (nX nn.one) rfl (Nat.le_of_ble_eq_true rfl) rfl rfl) rfl (by decide) (u9 rfl uZ) (aa nn.one rfl) (fun afV h S => ?_)
 have A9 : aw ((rL (rI .i64) 1) g) [[oD]] [eC] := (aw.push aw.nil (show (rL (rI .i64) 1) g [oD] eC from ⟨_, rfl, nn⟩))
 have S := S.f1
 obtain ⟨ahX, M⟩ := ml M
 refine S.app (S.rd 1 rfl) (by rw [oC.1, A9.1]; exact ahX) (by decide) rfl (nh VI A9) (nh VI oC) (fun V6 h S => ?_)
 have qX : aw ((rL (rI .i64) 1) g) (oB ++ [[oD]]) (y4 ++ [eC]) := aw.append oC A9
 have S := S.t1
 exact ahU M S qX vt BV H
theorem ahY {w0 : World} {c : Cx} {g h : AH} {E R : Value → W} {r : (List (List Int))} {N : Nat} {y1 : List (List Int)} {On : Value} {WI : List (List Value)}  (M : Gj N y1 = some r) (S : Sep c g h [.sl 28 1 On WI]) (ahZ : aw ((rL (rI .i64) 1) g) WI y1)  (H : xM c R r) : Hn w0 E R On h := by
 unfold Hn
 unfold Gj at M
 obtain ⟨g, sg, S, Oo⟩ := S.fz ahZ (AM (gK .i64))
 cases M
 exact H _ _ On S.bA Oo
theorem ah0 {w0 : World} {c : Cx} {g h : AH} {E R : Value → W} {r : (List (List Int))} {N : Nat} {v2 : Int} {x0 : List (List Int)} {x1 : (List Int) → Option ((List Int))} {y4 : List (List Int)} {y5 : Int} {bC cV pI : Value} {oB : List (List Value)} {k3 : Value → Value → W} {iN : (List (List Int)) → Int → Option ((List (List Int)))} {tp : AH} (M : BU N v2 x0 x1 y4 y5 iN = some r) (S : Sep c g h [.sl 28 1 pI oB]) (bK : ae fY 1 g bC x0) (dG : pH w0 g cV x1) (oC : aw ((rL (rI .i64) 1) g) oB y4) (vt : Sub tp g) (BV : ∀ {aq : List (List Int)} {eD : Value} {eE : List (List Value)} {bp : Int} {g2 h2 : AH}, iN aq bp = some r → Sub tp g2 → Sep c g2 h2 [.sl 28 1 eD eE] → aw ((rL (rI .i64) 1) g2) eE aq → k3 eD (vi bp) h2) (H : xM c R r) : CA w0 E R (vi v2) bC cV k3 pI (vi y5) h := by
 unfold CA
 unfold BU at M
 refine iI.2 ?_
 refine bE (fun hc => ?_) (fun hc => ?_)
 · have M := aY hc M
   exact ahW M S bK dG oC vt BV H
 · have M := aZ hc M
   exact ahY M S oC H
theorem ah1 {w0 : World} {c : Cx} {E R : Value → W} {r : (List (List Int))} {N : Nat} {v2 : Int} {x0 : List (List Int)} {x1 : (List Int) → Option ((List Int))} {bC cV : Value}   (H : xM c R r) : ∀ (n : Nat) {y4 : List (List Int)} {y5 : Int} {pI : Value} {oB : List (List Value)} {g h : AH}, xL N v2 x0 x1 n y4 y5 = some r → Sep c g h [.sl 28 1 pI oB] → ae fY 1 g bC x0 → pH w0 g cV x1 → aw ((rL (rI .i64) 1) g) oB y4 → gr (α := Value × Value) (fun k a => CA w0 E R (vi v2) bC cV (fun b0 b1 => k (b0, b1)) a.1 a.2) n (pI, (vi y5)) h := by
 intro n
 induction n with
 | zero =>
  intro y4 y5 pI oB g h M S bK dG oC
  unfold xL at M; cases M
 | succ n ih =>
  intro y4 y5 pI oB g h M S bK dG oC
  exact ah0 M S bK dG oC  (Sub.refl g) (fun M2 sub S2 Bb => ih M2 S2 (ae.mono bK qO sub) (pH.mono dG sub) Bb ) H
theorem ah2 {w0 : World} {g h : AH} {Q : CR → AH → Prop} {r : (List (List Int))} {N : Nat} {x0 : List (List Int)} {x1 : (List Int) → Option ((List Int))} {bC cV : Value} (M : Gk N x0 x1 = some r) (sg : Sub g h) (ok : h.Ok) (bK : ae fY 1 g bC x0) (dG : pH w0 g cV x1) (H : xM ⟨g, h, []⟩ (fun v => Q (.ret v)) r) : WF PP w0 Hq [bC, cV] h Q := by
 refine Yo _ _ ?_
 have S := Sep.start sg ok
 unfold Px
 unfold Gk at M
 refine bK.len ?_
 have S := S.AS 28 1
 exact ⟨N, ah1  H _ M S bK dG (aw.nil (R := (rL (rI .i64) 1) g)) ⟩
def BW (N : Nat) (cz : Int) (bR : Bool) (lQ : ah) (Gl : List (List Int)) (lf : Bool → Int → (List (List Int)) → Option ((List (List Int)))) : Option ((List (List Int))) :=
 lf bR (bD .i64 (cz - 1)) Gl
def Gm (N : Nat) (v1 : ah) (cz : Int) (v5 : List (List Int)) (aN : Bool) (lf : Bool → Int → (List (List Int)) → Option ((List (List Int)))) : Option ((List (List Int))) :=
(BX N v1 cz v5).bind fun eC =>
(ix v5 cz).bind fun iq =>
 bif (!decide ((eC.length : Int) = (iq.length : Int))) then (
(ix v5 cz).bind fun ah3 =>
 BW N cz true v1 (v5.set cz.toNat eC) lf) else (
 BW N cz aN v1 v5 lf)
def vu (N : Nat) (v1 : ah) (v5 : List (List Int)) (aN : Bool) (cz : Int) (iO : Bool → (List (List Int)) → Option ((List (List Int)))) (lf : Bool → Int → (List (List Int)) → Option ((List (List Int)))) : Option ((List (List Int))) :=
 bif (decide (0 ≤ cz)) then (
 Gm N v1 cz v5 aN lf) else (
 iO aN v5)
def tq (N : Nat) (v1 : ah) (iO : Bool → (List (List Int)) → Option ((List (List Int)))) : Nat → (List (List Int)) → Bool → Int → Option ((List (List Int)))
 | 0, _, _, _ => none
 | n + 1, v5, aN, cz => vu N v1 v5 aN cz iO (fun aq bp bQ => tq N v1 iO n bQ aq bp)
def BZ (N : Nat) (v1 : ah) (v5 : List (List Int)) (iO : Bool → (List (List Int)) → Option ((List (List Int)))) : Option ((List (List Int))) :=
 tq N v1 iO N v5 false (bD .i64 ((v1.ab.length : Int) - 1))
def B0 (N : Nat) (v5 : List (List Int))  : Option ((List (List Int))) :=
(Gk N v5 (fun a0 => xN a0)).bind fun WJ =>
 some WJ
def Oq (N : Nat) (v1 : ah) (v5 : List (List Int)) (y8 : Bool) (iO : Bool → (List (List Int)) → Option ((List (List Int)))) : Option ((List (List Int))) :=
 bif y8 then (
 BZ N v1 v5 iO) else (
 B0 N v5)
def tr (N : Nat) (v1 : ah)  : Nat → (List (List Int)) → Bool → Option ((List (List Int)))
 | 0, _, _ => none
 | n + 1, v5, y8 => Oq N v1 v5 y8  (fun aq bQ => tr N v1 n bQ aq)
def Gn (N : Nat) (v1 : ah)  : Option ((List (List Int))) :=
 gu (decide (0 ≤ (v1.ab.length : Int)) && decide ((v1.ab.length : Int) ≤ 65536)) (
 tr N v1 N (List.replicate (v1.ab.length : Int).toNat ([] : List Int)) true)
def Ax (N : Nat) (x0 : ah) : Option ((List (List Int))) :=
(sY N x0).bind fun aJ =>
 bif (!aJ) then (
 some ([] : List (List Int))) else (
 Gn N x0)
abbrev pJ (c : Cx) (R : Value → W) (r : (List (List Int))) : Prop := ∀ (g' h' : AH) (w1 : Value), Sep c g' h' [] → ae (rL (rI .i64) 1) 1 g' w1 r → R w1 h'
theorem WK {w0 : World} {c : Cx} {g h : AH} {E R : Value → W} {r : (List (List Int))} {N : Nat} {cz : Int} {bR : Bool} {lQ : ah} {Gl : List (List Int)} {WM : Nat} {Ot Ou WN : Value} {WO : List (List Value)} {kJ : Value → Value → W} {lf : Bool → Int → (List (List Int)) → Option ((List (List Int)))} {tt : AH} (M : BW N cz bR lQ Gl lf = some r) (S : Sep c g h [.bx WM [(.string lQ.aQ), (.string lQ.aR), (vi lQ.fArgs), (vi lQ.aK), (vi lQ.aL), Ot, Ou], .sl 102 1 WN WO]) (akx : ae al.rep 4 g Ot lQ.ab) (aky : ae ax.rep 3 g Ou lQ.ay) (ah4 : aw (fY g) WO Gl) (tu : Sub tt g) (xP : ∀ {aq : Bool} {bp : Int} {bQ : List (List Int)} {iP : List (List Value)} {g2 h2 : AH}, lf aq bp bQ = some r → Sub tt g2 → Sep c g2 h2 [.bx WM [(.string lQ.aQ), (.string lQ.aR), (vi lQ.fArgs), (vi lQ.aK), (vi lQ.aL), Ot, Ou], .sl 102 1 WN iP] → aw (fY g2) iP bQ → kJ (.bool aq) (vi bp) h2) (H : pJ c R r) : CB w0 E R (vi cz) kJ (.bool bR) h := by
 unfold CB
 unfold BW at M
 refine mY.2 ?_
 exact xP M tu S ah4
theorem ah5 {w0 : World} {c : Cx} {g h : AH} {E R : Value → W} {r : (List (List Int))} {N : Nat} {v1 : ah} {cz : Int} {v5 : List (List Int)} {aN : Bool} {au : Nat} {aE aG fx : Value} {fR : List (List Value)} {kJ : Value → Value → W} {lf : Bool → Int → (List (List Int)) → Option ((List (List Int)))} {tt : AH} (M : Gm N v1 cz v5 aN lf = some r) (S : Sep c g h [.bx au [(.string v1.aQ), (.string v1.aR), (vi v1.fArgs), (vi v1.aK), (vi v1.aL), aE, aG], .sl 102 1 fx fR]) (aI : ae al.rep 4 g aE v1.ab) (aS : ae ax.rep 3 g aG v1.ay) (gO : aw (fY g) fR v5) (tu : Sub tt g) (xP : ∀ {aq : Bool} {bp : Int} {bQ : List (List Int)} {iP : List (List Value)} {g2 h2 : AH}, lf aq bp bQ = some r → Sub tt g2 → Sep c g2 h2 [.bx au [(.string v1.aQ), (.string v1.aR), (vi v1.fArgs), (vi v1.aK), (vi v1.aL), aE, aG], .sl 102 1 fx iP] → aw (fY g2) iP bQ → kJ (.bool aq) (vi bp) h2) (H : pJ c R r) : Hs w0 E R (av au 0) (vi cz) fx kJ (.bool aN) h := by
 unfold Hs
 unfold Gm at M
 refine S.cK [(.string v1.aQ), (.string v1.aR), (vi v1.fArgs), (vi v1.aK), (vi v1.aL), aE, aG] 0 rfl rfl rfl (by decide) ?_
 have S := S.f1
 obtain ⟨g_7, sq, uq, Oj, bq⟩ := S.afI gO qO
 obtain ⟨eC, vh, M⟩ := bind_some M
 refine ah6 vh uq S.ok (ae.mono aI al.mono sq) (ae.mono aS ax.mono sq) Oj (fun _ h oD S1 nn => ?_)
 obtain ⟨g, sg, S, bm⟩ := bq _ _ S1
 have nn := bm _ _ nn
 have aI := ae.mono aI al.mono sg
 have aS := ae.mono aS ax.mono sg
 have gO := aw.mono gO (fun _ _ hh => qO _ _ _ _ sg hh)
 have tu := Sub.trans tu sg
 refine S.Vl nn ?_
 obtain ⟨iq, uR, M⟩ := bind_some M
 refine S.xj 0 rfl gO uR (fun afl afm vs ah7 ah8 rp => ?_)
 obtain ⟨akz, rfl, Oo⟩ := rp
 refine S.MP (j := 0) 0 rfl ah7 ah8 rfl ?_
 refine S.Vl Oo ?_
 refine sk.2 ?_
 refine bE (fun hc => ?_) (fun hc => ?_)
 · have M := aY hc M
   obtain ⟨ah3, ah9, M⟩ := bind_some M
   refine S.xj 0 rfl gO ah9 (fun akA akB vs aia aib rp => ?_)
   obtain ⟨akC, rfl, akD⟩ := rp
   refine S.MQ (j := 0) [oD] aia aib (nX nn.one) rfl (aa nn.one rfl) (by decide) (fun h S => ?_)
   have aic : aw (fY g) (fR.set cz.toNat [oD]) (v5.set cz.toNat eC) := aw.set gO (show fY g [oD] eC from ⟨_, rfl, nn⟩) cz.toNat
   have S : Sep _ g h [.sl 102 1 fx (fR.set cz.toNat [oD]), .bx au [(.string v1.aQ), (.string v1.aR), (vi v1.fArgs), (vi v1.aK), (vi v1.aL), aE, aG]] := S
   have S := S.f1
   exact WK M S aI aS aic tu xP H
 · have M := aZ hc M
   have S := S.f1
   exact WK M S aI aS gO tu xP H
theorem aid {w0 : World} {c : Cx} {g h : AH} {E R : Value → W} {r : (List (List Int))} {N : Nat} {v1 : ah} {v5 : List (List Int)} {aN : Bool} {cz : Int} {au : Nat} {aE aG fx : Value} {fR : List (List Value)} {k7 : Value → W} {iO : Bool → (List (List Int)) → Option ((List (List Int)))} {oE : AH} {kJ : Value → Value → W} {lf : Bool → Int → (List (List Int)) → Option ((List (List Int)))} {tt : AH} (M : vu N v1 v5 aN cz iO lf = some r) (S : Sep c g h [.bx au [(.string v1.aQ), (.string v1.aR), (vi v1.fArgs), (vi v1.aK), (vi v1.aL), aE, aG], .sl 102 1 fx fR]) (aI : ae al.rep 4 g aE v1.ab) (aS : ae ax.rep 3 g aG v1.ay) (gO : aw (fY g) fR v5) (q7 : Sub oE g) (vv : ∀ {aq : Bool} {bQ : List (List Int)} {iP : List (List Value)} {g2 h2 : AH}, iO aq bQ = some r → Sub oE g2 → Sep c g2 h2 [.bx au [(.string v1.aQ), (.string v1.aR), (vi v1.fArgs), (vi v1.aK), (vi v1.aL), aE, aG], .sl 102 1 fx iP] → aw (fY g2) iP bQ → k7 (.bool aq) h2) (tu : Sub tt g) (xP : ∀ {aq : Bool} {bp : Int} {bQ : List (List Int)} {iP : List (List Value)} {g2 h2 : AH}, lf aq bp bQ = some r → Sub tt g2 → Sep c g2 h2 [.bx au [(.string v1.aQ), (.string v1.aR), (vi v1.fArgs), (vi v1.aK), (vi v1.aL), aE, aG], .sl 102 1 fx iP] → aw (fY g2) iP bQ → kJ (.bool aq) (vi bp) h2) (H : pJ c R r) : CC w0 E R (av au 0) fx k7 kJ (.bool aN) (vi cz) h := by
 unfold CC
 unfold vu at M
 refine pe.2 ?_
 refine bE (fun hc => ?_) (fun hc => ?_)
 · have M := aY hc M
   exact ah5 M S aI aS gO tu xP H
 · have M := aZ hc M
   exact vv M q7 S gO
theorem aie {w0 : World} {c : Cx} {E R : Value → W} {r : (List (List Int))} {N : Nat} {v1 : ah} {au : Nat} {aE aG fx : Value} {k7 : Value → W} {iO : Bool → (List (List Int)) → Option ((List (List Int)))} {oE : AH} (vv : ∀ {aq : Bool} {bQ : List (List Int)} {iP : List (List Value)} {g2 h2 : AH}, iO aq bQ = some r → Sub oE g2 → Sep c g2 h2 [.bx au [(.string v1.aQ), (.string v1.aR), (vi v1.fArgs), (vi v1.aK), (vi v1.aL), aE, aG], .sl 102 1 fx iP] → aw (fY g2) iP bQ → k7 (.bool aq) h2) (H : pJ c R r) : ∀ (n : Nat) {v5 : List (List Int)} {aN : Bool} {cz : Int} {fR : List (List Value)} {g h : AH}, tq N v1 iO n v5 aN cz = some r → Sep c g h [.bx au [(.string v1.aQ), (.string v1.aR), (vi v1.fArgs), (vi v1.aK), (vi v1.aL), aE, aG], .sl 102 1 fx fR] → ae al.rep 4 g aE v1.ab → ae ax.rep 3 g aG v1.ay → aw (fY g) fR v5 → Sub oE g → gr (α := Value × Value) (fun k a => CC w0 E R (av au 0) fx k7 (fun b0 b1 => k (b0, b1)) a.1 a.2) n ((.bool aN), (vi cz)) h := by
 intro n
 induction n with
 | zero =>
  intro v5 aN cz fR g h M S aI aS gO q7
  unfold tq at M; cases M
 | succ n ih =>
  intro v5 aN cz fR g h M S aI aS gO q7
  exact aid M S aI aS gO q7 vv (Sub.refl g) (fun M2 sub S2 AN => ih M2 S2 (ae.mono aI al.mono sub) (ae.mono aS ax.mono sub) AN (Sub.trans q7 sub)) H
theorem aif {w0 : World} {c : Cx} {g h : AH} {E R : Value → W} {r : (List (List Int))} {N : Nat} {v1 : ah} {v5 : List (List Int)} {au : Nat} {aE aG fx : Value} {fR : List (List Value)} {k7 : Value → W} {iO : Bool → (List (List Int)) → Option ((List (List Int)))} {oE : AH} (M : BZ N v1 v5 iO = some r) (S : Sep c g h [.bx au [(.string v1.aQ), (.string v1.aR), (vi v1.fArgs), (vi v1.aK), (vi v1.aL), aE, aG], .sl 102 1 fx fR]) (aI : ae al.rep 4 g aE v1.ab) (aS : ae ax.rep 3 g aG v1.ay) (gO : aw (fY g) fR v5) (q7 : Sub oE g) (vv : ∀ {aq : Bool} {bQ : List (List Int)} {iP : List (List Value)} {g2 h2 : AH}, iO aq bQ = some r → Sub oE g2 → Sep c g2 h2 [.bx au [(.string v1.aQ), (.string v1.aR), (vi v1.fArgs), (vi v1.aK), (vi v1.aL), aE, aG], .sl 102 1 fx iP] → aw (fY g2) iP bQ → k7 (.bool aq) h2) (H : pJ c R r) : Ht w0 E R (av au 0) fx k7 h := by
 unfold Ht
 unfold BZ at M
 refine bY.2 ?_
 refine S.bP 0 rfl rfl ?_
 refine aI.len ?_
 refine mY.2 ?_
 exact ⟨N, aie vv H _ M S aI aS gO q7⟩
theorem aih {w0 : World} {c : Cx} {g h : AH} {E R : Value → W} {r : (List (List Int))} {N : Nat} {v5 : List (List Int)} {fx : Value} {fR : List (List Value)}  (M : B0 N v5 = some r) (S : Sep c g h [.sl 102 1 fx fR]) (gO : aw (fY g) fR v5)  (H : pJ c R r) : Hr w0 E R fx h := by
 unfold Hr
 unfold B0 at M
 obtain ⟨g, sg, S, Ov⟩ := S.fz gO qO
 have aii : pH w0 g (fc Cv) (fun a0 => xN a0) := ⟨rfl, fun a0 BT r E K g2 h2 s1 s2 s3 q0 m1 k1 => aij m1 s2 s3 q0 k1⟩
 obtain ⟨WJ, aik, M⟩ := bind_some M
 refine ah2 aik S.sub S.ok Ov aii (fun g h ail S1 aim => ?_)
 have Ov := ae.mono Ov qO S1.bT
 have S := S.na S1
 cases M
 exact H _ _ ail S.bA aim
theorem ain {w0 : World} {c : Cx} {g h : AH} {E R : Value → W} {r : (List (List Int))} {N : Nat} {v1 : ah} {v5 : List (List Int)} {y8 : Bool} {au : Nat} {aE aG fx : Value} {fR : List (List Value)} {k7 : Value → W} {iO : Bool → (List (List Int)) → Option ((List (List Int)))} {oE : AH} (M : Oq N v1 v5 y8 iO = some r) (S : Sep c g h [.bx au [(.string v1.aQ), (.string v1.aR), (vi v1.fArgs), (vi v1.aK), (vi v1.aL), aE, aG], .sl 102 1 fx fR]) (aI : ae al.rep 4 g aE v1.ab) (aS : ae ax.rep 3 g aG v1.ay) (gO : aw (fY g) fR v5) (q7 : Sub oE g) (vv : ∀ {aq : Bool} {bQ : List (List Int)} {iP : List (List Value)} {g2 h2 : AH}, iO aq bQ = some r → Sub oE g2 → Sep c g2 h2 [.bx au [(.string v1.aQ), (.string v1.aR), (vi v1.fArgs), (vi v1.aK), (vi v1.aL), aE, aG], .sl 102 1 fx iP] → aw (fY g2) iP bQ → k7 (.bool aq) h2) (H : pJ c R r) : CD w0 E R (av au 0) fx k7 (.bool y8) h := by
 unfold CD
 unfold Oq at M
 refine bE (fun hc => ?_) (fun hc => ?_)
 · have M := aY hc M
   exact aif M S aI aS gO q7 vv H
 · have M := aZ hc M
   have S := S.f1
   have S := S.t1
   exact aih M S gO H
theorem aio {w0 : World} {c : Cx} {E R : Value → W} {r : (List (List Int))} {N : Nat} {v1 : ah} {au : Nat} {aE aG fx : Value}   (H : pJ c R r) : ∀ (n : Nat) {v5 : List (List Int)} {y8 : Bool} {fR : List (List Value)} {g h : AH}, tr N v1 n v5 y8 = some r → Sep c g h [.bx au [(.string v1.aQ), (.string v1.aR), (vi v1.fArgs), (vi v1.aK), (vi v1.aL), aE, aG], .sl 102 1 fx fR] → ae al.rep 4 g aE v1.ab → ae ax.rep 3 g aG v1.ay → aw (fY g) fR v5 → gr (α := Value) (fun k a => CD w0 E R (av au 0) fx k a) n (.bool y8) h := by
 intro n
 induction n with
 | zero =>
  intro v5 y8 fR g h M S aI aS gO
  unfold tr at M; cases M
 | succ n ih =>
  intro v5 y8 fR g h M S aI aS gO
  exact ain M S aI aS gO  (Sub.refl g) (fun M2 sub S2 AN => ih M2 S2 (ae.mono aI al.mono sub) (ae.mono aS ax.mono sub) AN ) H
theorem aip {w0 : World} {c : Cx} {g h : AH} {E R : Value → W} {r : (List (List Int))} {N : Nat} {v1 : ah} {au : Nat} {aE aG : Value}  (M : Gn N v1 = some r) (S : Sep c g h [.bx au [(.string v1.aQ), (.string v1.aR), (vi v1.fArgs), (vi v1.aK), (vi v1.aL), aE, aG]]) (aI : ae al.rep 4 g aE v1.ab) (aS : ae ax.rep 3 g aG v1.ay)  (H : pJ c R r) : Hu w0 E R (av au 0) h := by
 unfold Hu
 unfold Gn at M
 refine bY.2 ?_
 refine S.bP 0 rfl rfl ?_
 refine aI.len ?_
 obtain ⟨Oh, M⟩ := ml M
 refine S.VD Oh rfl (aa rfl rfl) (fun BS h S => ?_)
 have Gf : aw (fY g) (List.replicate (v1.ab.length : Int).toNat [(.map none)]) (List.replicate (v1.ab.length : Int).toNat ([] : List Int)) := aw.Va (show fY g [(.map none)] ([] : List Int) from ⟨_, rfl, gM.nil⟩) _
 have S := S.f1
 exact ⟨N, aio  H _ M S aI aS Gf ⟩
theorem afv {w0 : World} {g h : AH} {Q : CR → AH → Prop} {r : (List (List Int))} {N : Nat} {x0 : ah} {ct cu : Value} (M : Ax N x0 = some r) (sg : Sub g h) (ok : h.Ok) (bU : ae al.rep 4 g ct x0.ab) (cy : ae ax.rep 3 g cu x0.ay) (H : pJ ⟨g, h, []⟩ (fun v => Q (.ret v)) r) : WF PP w0 Hv [(.agg ⟨[(.string x0.aQ), (.string x0.aR), (vi x0.fArgs), (vi x0.aK), (vi x0.aL), ct, cu]⟩)] h Q := by
 refine Yq _ ?_
 have S := Sep.start sg ok
 unfold Py
 unfold Ax at M
 refine S.box [(.string x0.aQ), (.string x0.aR), (vi x0.fArgs), (vi x0.aK), (vi x0.aL), ct, cu] rfl (aa rfl (aa rfl (aa rfl (aa rfl (aa rfl (aa bU.one (aa cy.one rfl))))))) (fun jT h S => ?_)
 refine S.cK [(.string x0.aQ), (.string x0.aR), (vi x0.fArgs), (vi x0.aK), (vi x0.aL), ct, cu] 0 rfl rfl rfl (by decide) ?_
 obtain ⟨aJ, im, M⟩ := bind_some M
 refine FO im S.sub S.ok bU cy (fun _ h  S1  => ?_)
 have S := S.dz S1
 refine eQ.2 ?_
 refine bE (fun hc => ?_) (fun hc => ?_)
 · have M := aY hc M
   cases M
   exact H _ _ cP S.bA ae.nil
 · have M := aZ hc M
   exact aip M S bU cy H
end
end Go.Ve.T
