/- Part 11: VEval, part 50: from a call that returns true, and changes nothing of what was there, to the law's row. Conditions: as the rows' builders ask. And what follows it. -/
import Derived.Test.YteeibihhdldjfaaGreatDoorVeJ
import Derived.ProofKit
import Derived.OpenShut
import Derived.WalkKit
set_option linter.unusedVariables false
set_option linter.unusedSimpArgs false
namespace Go.Ve
open Go.ChangeShapes Go.WideShapes Go.ChangeAt Go.RowKit
section
variable {H : Type} {enc : TypeId × Value → H} {P : Program}
theorem X4 (hl : laidOutB P = true) {W W' : World} (hb : Below W.heap.size W W') : ∀ {ts : List TypeId} {vs : List Value} {ds : List (DataW H)} {ps : List MemPlace}, (∀ t ∈ ts, P.readableRec t = true ∧ t < P.types.size) →
 DataW.TrodAll enc P W 0 (fun _ => true) true ts vs ds ps → (∀ x ∈ ps, x.block < W.heap.size) → DataW.TrodAll enc P W' 0 (fun b => decide (b < W.heap.size)) true ts vs ds ps
 | [], [], [], ps, _, h, _ => h
 | [], _ :: _, _, ps, _, h, _ => h.elim
 | [], [], _ :: _, ps, _, h, _ => h.elim
 | _ :: _, [], _, ps, _, h, _ => h.elim
 | _ :: _, _ :: _, [], ps, _, h, _ => h.elim
 | t :: ts, v :: vs, d :: ds, ps, hr, h, bG => by
  obtain ⟨p, q, h1, h2, rfl⟩ := h
  have xY := hr t List.mem_cons_self
  exact ⟨p, q, Below.trod hl xY.1 xY.2 h1 hb fun x hx => bG x (List.mem_append_left _ hx), X4 hl hb (fun t ht => hr t (List.mem_cons_of_mem _ ht)) h2 fun x hx => bG x (List.mem_append_right _ hx), rfl⟩
theorem X5 {W : World} {base : Nat} {sp : Nat → Bool} {held : Bool} : ∀ {ts : List TypeId} {vs : List Value} {ds : List (DataW H)} {ps : List MemPlace}, DataW.TrodAll enc P W base sp held ts vs ds ps → ds.length = ts.length ∧ vs.length = ts.length
 | [], [], [], _, _ => ⟨rfl, rfl⟩
 | [], _ :: _, _, ps, h => h.elim
 | [], [], _ :: _, ps, h => h.elim
 | _ :: _, [], _, ps, h => h.elim
 | _ :: _, _ :: _, [], ps, h => h.elim
 | t :: ts, v :: vs, d :: ds, ps, h => by
  obtain ⟨p, q, h1, h2, _⟩ := h
  have := X5 h2
  exact ⟨by simp [this.1], by simp [this.2]⟩
theorem agA {fn : Func} {s : ChangeSpec} {W W' : World} {args : Array Value} {ds gs : List (DataW H)} {before : List MemPlace} {tb : TypeId} (hl : laidOutB P = true) (eQ : ∀ t ∈ fn.params.toList, P.readableRec t = true ∧ t < P.types.size)
 (Ph : fn.resultTypes = #[tb]) (Pj : P.underlying tb = some .bool) (GV : s.vars = []) (Pk : ∀ ds : List (DataW H), ds.length = fn.params.toList.length → s.fn H ds = { results := [.lit (.bool true)], args := ds })
 (hW : DataW.Whole enc P fn.params.toList s.vars false W args.toList ds gs before) (hb : Below W.heap.size W W') : s.post enc P fn false true false false W args (.bool true) W' := by
 have Pl := hW
 have bG : ∀ p ∈ before, p.block < W.heap.size := fun p hp => hW.lt p hp
 obtain ⟨p, q, hA, hV, Pm, hz, hn⟩ := hW
 rw [GV] at hV
 obtain ⟨hg, hq⟩ := trodVars_none hV
 have hlen := X5 hA
 have hs := Pk ds hlen.1
 subst hg; subst hq
 rw [List.append_nil] at Pm
 subst Pm
 have nC : s.fn H (ds ++ []) = { results := [.lit (.bool true)], args := ds } := by rw [List.append_nil]; exact hs
 refine ⟨ds, [], before, [], before, [], Pl, ?_, ?_, ?_, World.keptBut_mono (fun p hp => ⟨hp, .inr (.inl hp)⟩) (hb.frame (· ∈ before)), fun h => by cases h⟩
 · rw [nC, Ph]
   exact trodAll_cons_mk (shut_bool Pj true) trodAll_mk0
 · rw [nC]
   exact X4 hl hb eQ hA bG
 · rw [nC, GV]
   exact rfl
end
end Go.Ve
namespace Go.Ve
open Go.ChangeShapes Go.WideShapes Go.ChangeAt Go.RowKit
section
variable {H : Type} {enc : TypeId × Value → H} {P : Program}
inductive AD (P : Program) {H : Type} (h : AH) : TypeId → List Value → DataW H → Prop
 | bool (t : TypeId) (b : Bool) (hu : P.underlying t = some .bool) : AD P h t [.bool b] (.lit (.bool b))
 | int (t : TypeId) (k : IntKind) (n : Int) (hu : P.underlying t = some (.int k)) (hw : (Lit.int k n).wf = true) : AD P h t [.int k n] (.lit (.int k n))
 | str (t : TypeId) (s : ByteArray) (hu : P.underlying t = some .string) (hs : s.size ≤ maxLen) : AD P h t [.string s] (.lit (.string s.data.toList))
 | lO (t e : TypeId) (hu : P.underlying t = some (.slice e)) : AD P h t [.slice none 0 0] .nil
 | sl (t e : TypeId) (b o n cap : Nat) (fY rest : List (DataW H)) (cD : List (List Value)) (hu : P.underlying t = some (.slice e)) (hn : fY.length = n) (hc : n ≤ cap) (gN : cap ≤ maxLen) (hl : cD.length = n)
  (hz : ∀ cs ∈ cD, cs.length = P.cellsOf e) (hr : h.aZ b o cD.flatten) (he : ∀ (i : Nat) (cs : List Value) (d : DataW H), cD[i]? = some cs → fY[i]? = some d → AD P h e cs d) : AD P h t [.slice (some ⟨b, o, none⟩) n cap] (.slice fY rest)
 | struct (t : TypeId) (fs : Array Field) (cs : List Value) (ds : List (DataW H)) (hu : P.underlying t = some (.struct fs)) (hl : cs.length = P.cellsOf t) (hd : ds.length = fs.size)
  (he : ∀ (i : Nat) (f : Field) (d : DataW H), fs[i]? = some f → ds[i]? = some d → AD P h f.type ((cs.drop f.offset).take (P.cellsOf f.type)) d) : AD P h t cs (.agg ds)
 | arr (t e : TypeId) (n : Nat) (cs : List Value) (ds : List (DataW H)) (hu : P.underlying t = some (.array n e)) (hl : cs.length = P.cellsOf t) (hd : ds.length = n)
  (he : ∀ (i : Nat) (d : DataW H), ds[i]? = some d → AD P h e ((cs.drop (i * P.cellsOf e)).take (P.cellsOf e)) d) : AD P h t cs (.agg ds)
theorem AD.ch {h h' : AH} (K : cU h h') (eD : h.Ok) {t : TypeId} {cs : List Value} {d : DataW H} (A : AD P h t cs d) : AD P h' t cs d := by
 induction A with
 | bool t b hu => exact .bool t b hu
 | int t k n hu hw => exact .int t k n hu hw
 | str t s hu hs => exact .str t s hu hs
 | lO t e hu => exact .lO t e hu
 | sl t e b o n cap fY rest cD hu hn hc gN hl hz hr he ih => exact .sl t e b o n cap fY rest cD hu hn hc gN hl hz (K.aZ eD hr) ih
 | struct t fs cs ds hu hl hd he ih => exact .struct t fs cs ds hu hl hd ih
 | arr t e n cs ds hu hl hd he ih => exact .arr t e n cs ds hu hl hd ih
theorem HR.look {w0 w : World} {φ : aE} {h : AH} (R : HR P w0 φ h w) {b o : Nat} {arr : Array Value} {ty : TypeId} {fr : Nat × Nat} (hw : w.heap[b]? = some (.cells arr ty fr)) {l : List Value} (hb : b < w0.heap.size)
 (hl : ∀ (i : Nat) (v : Value), l[i]? = some v → ∃ v', arr[o + i]? = some v' ∧ VR φ v v') :
 ∃ h', HR P w0 (φ.put h.nx (.live b 0 arr.size)) h' w ∧ Ext h.nx φ (φ.put h.nx (.live b 0 arr.size)) ∧ cU h h' ∧ h'.aZ h.nx o l ∧ h.nx < h'.nx := by
 have hf : φ h.nx = none := R.fresh _ (Nat.le_refl _)
 have hE : Ext h.nx φ (φ.put h.nx (.live b 0 arr.size)) := aE.Gf φ _ hf (Nat.le_refl _)
 let h' : AH := ⟨h.nx + 1, h.ob.set h.nx (some (.cells o (o + l.length) ty false (iR .e o l)))⟩
 have hg : ∀ g, h'.ob.get g = if g = h.nx then some (.cells o (o + l.length) ty false (iR .e o l)) else h.ob.get g := fun g => NT.c7 _ _ _ _
 refine ⟨h', ⟨?_, ?_, ?_, ?_, ?_, R.below⟩, hE, ⟨Nat.le_succ _, fun g ou => by rw [hg, if_neg (by omega)]⟩, ?_, Nat.lt_succ_self _⟩
 · intro f f' b' d d' n n' nL h1 h2
   have key : ∀ g b' d n, (φ.put h.nx (.live b 0 arr.size)) g = some (.live b' d n) → w0.heap.size ≤ b' → φ g = some (.live b' d n) := by
    intro g b' d n Pn nL
    by_cases e : g = h.nx
    · subst e; rw [aE.gP] at Pn; cases Pn; omega
    · rwa [aE.gT _ _ e] at Pn
   exact R.inj f f' b' d d' n n' nL (key _ _ _ _ h1 nL) (key _ _ _ _ h2 nL)
 · intro g ou
   have : h.nx + 1 ≤ g := ou
   rw [aE.gT _ _ (by omega)]; exact R.fresh g (by omega)
 · intro g ou
   have : h.nx + 1 ≤ g := ou
   rw [hg, if_neg (by omega)]; exact R.top g (by omega)
 · intro g GW
   have e : g ≠ h.nx := fun e => by subst e; rw [aE.gP] at GW; cases GW
   rw [aE.gT _ _ e] at GW
   rw [hg, if_neg e]; exact R.dead g GW
 · intro g b' d n GX
   by_cases e : g = h.nx
   · subst e
     rw [aE.gP] at GX
     cases GX
     refine ⟨_, _, by rw [hg, if_pos rfl], hw, .cells 0 arr.size o (o + l.length) ty false (iR .e o l) arr fr (fun h => Bool.noConfusion h) (Nat.zero_le _) rfl fun p LN LQ => ?_, fun h => Bool.noConfusion h⟩
     have mH : p - o < l.length := by omega
     obtain ⟨v', g1, g2⟩ := hl (p - o) _ (List.getElem?_eq_getElem mH)
     refine ⟨l[p - o], v', ?_, ?_, VR.ext hE g2⟩
     · rw [vO, if_pos (by omega)]; exact List.getElem?_eq_getElem mH
     · rw [show p - 0 = o + (p - o) by omega]; exact g1
   · rw [aE.gT _ _ e] at GX
     obtain ⟨o1, o2, a1, a2, a3, a4⟩ := R.obj g b' d n GX
     exact ⟨o1, o2, by rw [hg, if_neg e]; exact a1, a2, a3.ext hE, a4⟩
 · intro i v hv
   have hi : i < l.length := (List.getElem?_eq_some_iff.1 hv).1
   show AH.rd h' h.nx (o + i) = some v
   unfold AH.rd
   rw [hg, if_pos rfl]
   simp only []
   rw [if_pos (by omega), vO, if_pos (by omega), show o + i - o = i by omega]
   exact hv
theorem HR.agB {w0 w : World} {φ : aE} {h : AH} (R : HR P w0 φ h w) : HR P w0 (φ.put h.nx .dead) ⟨h.nx + 1, h.ob⟩ w ∧ Ext h.nx φ (φ.put h.nx .dead) ∧ cU h ⟨h.nx + 1, h.ob⟩ := by
 have hf : φ h.nx = none := R.fresh _ (Nat.le_refl _)
 have hE : Ext h.nx φ (φ.put h.nx .dead) := aE.Gf φ _ hf (Nat.le_refl _)
 have key : ∀ g b d n, (φ.put h.nx .dead) g = some (.live b d n) → φ g = some (.live b d n) := by
  intro g b d n hg
  by_cases e : g = h.nx
  · subst e; rw [aE.gP] at hg; cases hg
  · rwa [aE.gT _ _ e] at hg
 refine ⟨⟨fun f f' b d d' n n' nL h1 h2 => R.inj f f' b d d' n n' nL (key _ _ _ _ h1) (key _ _ _ _ h2), fun g hg => ?_, fun g hg => R.top g (by have : h.nx + 1 ≤ g := hg; omega), fun g hg => ?_, fun g b d n hg => ?_, R.below⟩, hE, ⟨Nat.le_succ _, fun _ _ => rfl⟩⟩
 · have : h.nx + 1 ≤ g := hg
   rw [aE.gT _ _ (by omega)]; exact R.fresh g (by omega)
 · by_cases e : g = h.nx
   · subst e; exact R.top _ (Nat.le_refl _)
   · rw [aE.gT _ _ e] at hg; exact R.dead g hg
 · obtain ⟨o1, o2, a1, a2, a3, a4⟩ := R.obj g b d n (key _ _ _ _ hg)
   exact ⟨o1, o2, a1, a2, a3.ext hE, a4⟩
end
end Go.Ve
