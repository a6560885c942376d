/- Part 3: VEval, part 4: what it is for an abstract heap to stand for the real one, and what becomes of that at a new block, a write, a block's death. No condition. -/
import Derived.Test.YteeibihhdldjfaaGreatDoorVeB
import Derived.Laws.CopyRow
import Derived.Laws.Append
import Derived.ChangeKeysEq
set_option linter.unusedVariables false
set_option linter.unusedSimpArgs false
namespace Go.Ve
open Go.RowKit
structure oS (P : Program) (φ : ak) (l : jH) (l' : Loop) : Prop where
 state : l'.state = l.state
 db : l'.pending = l.db
 fn : l'.fn = l.fn
 tm : TR φ l.tm l.nt l'.tmps
 params : l.params = l'.params.toList.map Pos.of
 small : ∀ t ∈ l'.params.toList, t < l.nt
 assign : fg P l.nt l'.assign = some l.assign
 body : fg P l.nt l'.body = some l.body
 defs : φ l.defs ≠ none
 IW : ∀ b d n, φ l.defs = some (.live b d n) → l'.defers = b
inductive ER (φ : ak) : List (Value × Value × Nat) → List MapEntry → Prop where
 | nil : ER φ [] []
 | cons (a v : Value) (b : Nat) (e : MapEntry) (l : List (Value × Value × Nat)) (l' : List MapEntry) (ha : VR φ a e.key) (hv : VR φ v e.val) (hb : e.born = b) (hl : ER φ l l') : ER φ ((a, v, b) :: l) (e :: l')
inductive OR (P : Program) (φ : ak) : Nat → Nat → AO → Obj → Prop where
 | cells (d n lo hi : Nat) (ty : TypeId) (rw : Bool) (c : NT Value) (arr : Array Value) (fr : Nat × Nat) (mP : rw = true → fr = (0, 0)) (hd : d ≤ lo) (hn : n = arr.size)
  (hc : ∀ p, lo ≤ p → p < hi → ∃ v v', c.get p = some v ∧ arr[p - d]? = some v' ∧ VR φ v v') : OR P φ d n (.cells lo hi ty rw c) (.cells arr ty fr)
 | map (d n : Nat) (es : List (Value × Value × Nat)) (bV : Array MapEntry) (cl : Nat) (he : ER φ es bV.toList) : OR P φ d n (.map es cl) (.map bV cl)
 | loop (d n : Nat) (l : jH) (l' : Loop) (h : oS P φ l l') : OR P φ d n (.loop l) (.loop l')
 | defs (d n : Nat) (t : Bool) : OR P φ d n (.defs t) (.deferred (if t then none else some []))
 | lj (n : Nat) (s : ByteArray) (pos : Nat) : OR P φ 0 n (.lj s pos) (.stringIter s pos)
 | ei (n : Nat) (m m' : Option Nat) (since : Nat) (seen : List Nat) (last : Nat) (h0 : m = none → m' = none) (h1 : ∀ r, m = some r → ∃ r', m' = some r' ∧ φ r ≠ none ∧ ∀ b d n, φ r = some (.live b d n) → r' = b) : OR P φ 0 n (.ei m since seen last) (.mapIter m' since seen.toArray last)
theorem ER.ext {N : Nat} {φ φ' : ak} (h : Ext N φ φ') : ∀ {l : List (Value × Value × Nat)} {l' : List MapEntry}, ER φ l l' → ER φ' l l'
 | _, _, .nil => .nil
 | _, _, .cons a v b e l l' h1 h2 h3 h4 => .cons a v b e l l' (VR.ext h h1) (VR.ext h h2) h3 (ER.ext h h4)
theorem oS.ext {P : Program} {N : Nat} {φ φ' : ak} (h : Ext N φ φ') {l : jH} {l' : Loop} (r : oS P φ l l') : oS P φ' l l' :=
 ⟨r.state, r.db, r.fn, r.tm.ext h, r.params, r.small, r.assign, r.body, h.bS r.defs, fun b d n hl => r.IW b d n (h.live r.defs hl)⟩
theorem OR.ext {P : Program} {N : Nat} {φ φ' : ak} (h : Ext N φ φ') {d n : Nat} {o : AO} {o' : Obj} (r : OR P φ d n o o') : OR P φ' d n o o' := by
 cases r with
 | cells _ _ lo hi ty rw c arr fr mP hd hn hc =>
  refine .cells _ _ _ _ _ _ _ _ _ mP hd hn fun p h1 h2 => ?_
  obtain ⟨v, v', a, b, c⟩ := hc p h1 h2
  exact ⟨v, v', a, b, VR.ext h c⟩
 | map _ _ es bV cl he => exact .map _ _ _ _ _ (he.ext h)
 | loop _ _ l l' hl => exact .loop _ _ _ _ (hl.ext h)
 | defs _ _ t => exact .defs _ _ _
 | lj _ s pos => exact .lj _ _ _
 | ei _ m m' since seen last h0 h1 =>
  refine .ei _ _ _ _ _ _ h0 fun r hr => ?_
  obtain ⟨r', a, b, c⟩ := h1 r hr
  exact ⟨r', a, h.bS b, fun x d n hl => c x d n (h.live b hl)⟩
def AO.open : AO → Bool
 | .cells _ _ _ rw _ => rw
 | _ => true
structure HR (P : Program) (w0 : World) (φ : ak) (h : AH) (w : World) : Prop where
 inj : ∀ f f' b d d' n n', w0.heap.size ≤ b → φ f = some (.live b d n) → φ f' = some (.live b d' n') → f = f'
 fresh : ∀ f, h.nx ≤ f → φ f = none
 top : ∀ f, h.nx ≤ f → h.ob.get f = none
 dead : ∀ f, φ f = some .dead → h.ob.get f = none
 obj : ∀ f b d n, φ f = some (.live b d n) → ∃ o o', h.ob.get f = some o ∧ w.heap[b]? = some o' ∧ OR P φ d n o o' ∧ (o.open = true → w0.heap.size ≤ b)
 below : Below w0.heap.size w0 w
section
variable {P : Program} {w0 w : World} {φ : ak} {h : AH}
theorem HR.live (H : HR P w0 φ h w) {f : Nat} {o : AO} (hf : φ f ≠ none) (ho : h.ob.get f = some o) : ∃ b d n o', φ f = some (.live b d n) ∧ w.heap[b]? = some o' ∧ OR P φ d n o o' ∧ (o.open = true → w0.heap.size ≤ b) := by
 cases hm : φ f with
 | none => exact absurd hm hf
 | some m =>
  cases m with
  | dead => rw [H.dead f hm] at ho; cases ho
  | live b d n =>
   obtain ⟨o1, o', h1, h2, h3, h4⟩ := H.obj f b d n hm
   rw [h1] at ho
   cases ho
   exact ⟨b, d, n, o', rfl, h2, h3, h4⟩
theorem HR.world {w' : World} (H : HR P w0 φ h w) (hh : w'.heap = w.heap) (h1 : w'.os = w.os) (h2 : w'.tape = w.tape) (h3 : w'.output = w.output) : HR P w0 φ h w' :=
 ⟨H.inj, H.fresh, H.top, H.dead, by rw [hh]; exact H.obj, ⟨h1.trans H.below.os, h2.trans H.below.tape, h3.trans H.below.output, by rw [hh]; exact H.below.size, by rw [hh]; exact H.below.block⟩⟩
def ak.put (φ : ak) (f : Nat) (m : Mp) : ak := fun g => if g = f then some m else φ g
theorem ak.gj (φ : ak) (f : Nat) (m : Mp) : φ.put f m f = some m := by simp [ak.put]
theorem ak.gq (φ : ak) {f g : Nat} (m : Mp) (h : g ≠ f) : φ.put f m g = φ g := by simp [ak.put, h]
theorem ak.D5 (φ : ak) {N f : Nat} (m : Mp) (hf : φ f = none) (hN : N ≤ f) : Ext N φ (φ.put f m) := by
 refine ⟨fun g m' hg => ?_, fun g hg hn => ?_⟩
 · by_cases e : g = f
   · subst e; rw [hf] at hg; cases hg
   · exact .inl (by rw [ak.gq _ _ e]; exact hg)
 · rw [ak.gq _ _ (by omega)]; exact hn
theorem ak.Dk (φ : ak) (N f : Nat) (hf : φ f ≠ none) : Ext N φ (φ.put f .dead) := by
 refine ⟨fun g m' hg => ?_, fun g hg hn => ?_⟩
 · by_cases e : g = f
   · subst e; exact .inr (ak.gj _ _ _)
   · exact .inl (by rw [ak.gq _ _ e]; exact hg)
 · by_cases e : g = f
   · subst e; exact absurd hn hf
   · rw [ak.gq _ _ e]; exact hn
theorem HR.newAt (H : HR P w0 φ h w) {f : Nat} {o : AO} {o' : Obj} {d n : Nat} {h' : AH} (hf : φ f = none) (bL : h'.ob.get f = some o) (TA : ∀ g, g ≠ f → φ g ≠ none → h'.ob.get g = h.ob.get g)
 (ib : ∀ g, h'.nx ≤ g → φ g = none) (acM : ∀ g, h'.nx ≤ g → h'.ob.get g = none) (hnf : f < h'.nx) (N : Nat) (hN : N ≤ f) (ho : OR P φ d n o o') :
 HR P w0 (φ.put f (.live w.heap.size d n)) h' (w.alloc o') ∧ Ext N φ (φ.put f (.live w.heap.size d n)) := by
 have hE : Ext N φ (φ.put f (.live w.heap.size d n)) := ak.D5 φ _ hf hN
 refine ⟨⟨?_, ?_, acM, ?_, ?_, ?_⟩, hE⟩
 · intro g g' b e e' m m' mX hg nS
   have key : ∀ g b e m, (φ.put f (.live w.heap.size d n)) g = some (.live b e m) → (g = f ∧ b = w.heap.size) ∨ (g ≠ f ∧ φ g = some (.live b e m) ∧ b < w.heap.size) := by
    intro g b e m hg
    by_cases cS : g = f
    · subst cS; rw [ak.gj] at hg; cases hg; exact .inl ⟨rfl, rfl⟩
    · rw [ak.gq _ _ cS] at hg
      obtain ⟨_, o1, _, h2, _⟩ := H.obj g b e m hg
      exact .inr ⟨cS, hg, (Array.getElem?_eq_some_iff.1 h2).1⟩
   rcases key g b e m hg with ⟨a1, a2⟩ | ⟨a1, a2, a3⟩ <;> rcases key g' b e' m' nS with ⟨b1, b2⟩ | ⟨b1, b2, b3⟩
   · rw [a1, b1]
   · omega
   · omega
   · exact H.inj g g' b e e' m m' mX a2 b2
 · intro g hg
   rw [ak.gq _ _ (by omega)]
   exact ib g hg
 · intro g hg
   by_cases cS : g = f
   · subst cS; rw [ak.gj] at hg; cases hg
   · rw [ak.gq _ _ cS] at hg
     rw [TA g cS (by rw [hg]; simp)]
     exact H.dead g hg
 · intro g b e m hg
   by_cases cS : g = f
   · subst cS
     rw [ak.gj] at hg
     cases hg
     exact ⟨o, o', bL, heap_alloc_new w o', ho.ext hE, fun _ => H.below.size⟩
   · rw [ak.gq _ _ cS] at hg
     obtain ⟨o1, o2, h1, h2, h3, h4⟩ := H.obj g b e m hg
     exact ⟨o1, o2, by rw [TA g cS (by rw [hg]; simp)]; exact h1, by rw [heap_alloc_old _ _ _ (Array.getElem?_eq_some_iff.1 h2).1]; exact h2, h3.ext hE, h4⟩
 · exact H.below.alloc H.below.size _
theorem HR.hZ (H : HR P w0 φ h w) {f b d n : Nat} (hl : φ f = some (.live b d n)) {o : AO} {o' : Obj} {h' : AH} {w' : World} (bL : h.ob.gP f (some o) h'.ob) (ib : h'.nx = h.nx)
 (ho : OR P φ d n o o') (hb : w0.heap.size ≤ b) (h1 : w'.heap[b]? = some o') (h2 : ∀ k, k ≠ b → w'.heap[k]? = w.heap[k]?) (h3 : w'.heap.size = w.heap.size)
 (h4 : w'.os = w.os) (h5 : w'.tape = w.tape) (h6 : w'.output = w.output) : HR P w0 φ h' w' := by
 have iX : f < h.nx := by
  rcases Nat.lt_or_ge f h.nx with h' | h'
  · exact h'
  · rw [H.fresh f h'] at hl; cases hl
 refine ⟨H.inj, by rw [ib]; exact H.fresh, fun g hg => by rw [bL.2 g (by omega)]; exact H.top g (by omega), ?_, ?_, ?_⟩
 · intro g hg
   have cS : g ≠ f := fun e => by subst e; rw [hl] at hg; cases hg
   rw [bL.2 g cS]
   exact H.dead g hg
 · intro g b' e m hg
   by_cases cS : g = f
   · subst cS
     rw [hl] at hg; cases hg
     exact ⟨o, o', bL.1, h1, ho, fun _ => hb⟩
   · obtain ⟨o1, o2, a1, a2, a3, a4⟩ := H.obj g b' e m hg
     have cG : b' ≠ b := fun e' => cS (by subst e'; exact H.inj g f b' e d m n hb hg hl)
     exact ⟨o1, o2, by rw [bL.2 g cS]; exact a1, by rw [h2 b' cG]; exact a2, a3, a4⟩
 · exact ⟨h4.trans H.below.os, h5.trans H.below.tape, h6.trans H.below.output, by rw [h3]; exact H.below.size, fun k hk => by rw [h2 k (by omega)]; exact H.below.block k hk⟩
theorem HR.kill (H : HR P w0 φ h w) {f : Nat} (hf : φ f ≠ none) {h' : AH} (bL : h.ob.gP f none h'.ob) (ib : h'.nx = h.nx) : HR P w0 (φ.put f .dead) h' w := by
 have hE : Ext 0 φ (φ.put f .dead) := ak.Dk φ 0 f hf
 have key : ∀ g b e m, (φ.put f .dead) g = some (.live b e m) → g ≠ f ∧ φ g = some (.live b e m) := by
  intro g b e m hg
  by_cases cS : g = f
  · subst cS; rw [ak.gj] at hg; cases hg
  · rw [ak.gq _ _ cS] at hg; exact ⟨cS, hg⟩
 refine ⟨fun g g' b e e' m m' mX hg nS => H.inj g g' b e e' m m' mX (key _ _ _ _ hg).2 (key _ _ _ _ nS).2, ?_, ?_, ?_, ?_, H.below⟩
 · intro g hg
   rw [ib] at hg
   have := H.fresh g hg
   have cS : g ≠ f := fun e => hf (by subst e; exact this)
   rw [ak.gq _ _ cS]; exact this
 · intro g hg
   rw [ib] at hg
   have cS : g ≠ f := fun e => hf (by subst e; exact H.fresh g hg)
   rw [bL.2 g cS]; exact H.top g hg
 · intro g hg
   by_cases cS : g = f
   · subst cS; exact bL.1
   · rw [ak.gq _ _ cS] at hg
     rw [bL.2 g cS]; exact H.dead g hg
 · intro g b e m hg
   obtain ⟨cS, hg⟩ := key g b e m hg
   obtain ⟨o1, o2, a1, a2, a3, a4⟩ := H.obj g b e m hg
   exact ⟨o1, o2, by rw [bL.2 g cS]; exact a1, a2, a3.ext hE, a4⟩
end
theorem bJ {c k : Bool} (h : iff c k = true) : c = true ∧ k = true := (iff_eq c k).1 h
theorem rA {vs : List Value} {k : Bool} (h : a0 vs k = true) : vs = [] ∧ k = true := by cases vs <;> first | exact ⟨rfl, h⟩ | cases h
theorem dO {vs : List Value} {k : Value → Bool} (h : a1 vs k = true) : ∃ x, vs = [x] ∧ k x = true := by
 cases vs with
 | nil => cases h
 | cons x vs => obtain ⟨rfl, h⟩ := rA (show a0 vs (k x) = true from h); exact ⟨x, rfl, h⟩
theorem fF {vs : List Value} {k : Value → Value → Bool} (h : a2 vs k = true) : ∃ x y, vs = [x, y] ∧ k x y = true := by
 cases vs with
 | nil => cases h
 | cons x vs => obtain ⟨y, rfl, h⟩ := dO (show a1 vs (k x) = true from h); exact ⟨x, y, rfl, h⟩
theorem Qq {vs : List Value} {k : Value → Value → Value → Bool} (h : a3 vs k = true) : ∃ x y z, vs = [x, y, z] ∧ k x y z = true := by
 cases vs with
 | nil => cases h
 | cons x vs => obtain ⟨y, z, rfl, h⟩ := fF (show a2 vs (k x) = true from h); exact ⟨x, y, z, rfl, h⟩
theorem LR.one {φ : ak} {x : Value} {l' : List Value} (h : LR φ [x] l') : ∃ x', l' = [x'] ∧ VR φ x x' := by
 cases h with | cons _ x' _ l' h hl => cases hl; exact ⟨x', rfl, h⟩
theorem LR.two {φ : ak} {x y : Value} {l' : List Value} (h : LR φ [x, y] l') : ∃ x' y', l' = [x', y'] ∧ VR φ x x' ∧ VR φ y y' := by
 cases h with | cons _ x' _ l' h hl => obtain ⟨y', rfl, hy⟩ := hl.one; exact ⟨x', y', rfl, h, hy⟩
theorem LR.three {φ : ak} {x y z : Value} {l' : List Value} (h : LR φ [x, y, z] l') : ∃ x' y' z', l' = [x', y', z'] ∧ VR φ x x' ∧ VR φ y y' ∧ VR φ z z' := by
 cases h with | cons _ x' _ l' h hl => obtain ⟨y', z', rfl, hy, hz⟩ := hl.two; exact ⟨x', y', z', rfl, h, hy, hz⟩
theorem j6 {v : Value} {k : Nat → Nat → Bool} (h : gG v k = true) : ∃ a, v = .pointer (some a) ∧ k a.block a.off = true := by
 unfold gG at h
 split at h
 · rename_i a; exact ⟨a, rfl, h⟩
 · cases h
theorem wJ {v : Value} {k : List Value → Bool} (h : qm v k = true) : ∃ a, v = .agg a ∧ k a.toList = true := by
 unfold qm at h
 split at h
 · rename_i a; exact ⟨a, rfl, h⟩
 · cases h
theorem acN {v : Value} {k : List Value → Bool} (h : Dq v k = true) : ∃ a, v = .tuple a ∧ k a.toList = true := by
 unfold Dq at h
 split at h
 · rename_i a; exact ⟨a, rfl, h⟩
 · cases h
theorem yZ {v : Value} {k : Bool → Bool} (h : qn v k = true) : ∃ b, v = .bool b ∧ k b = true := by
 unfold qn at h
 split at h
 · exact ⟨_, rfl, h⟩
 · cases h
theorem lk {v : Value} {k : IntKind → Int → Bool} (h : jw v k = true) : ∃ kd n, v = .int kd n ∧ k kd n = true := by
 unfold jw at h
 split at h
 · exact ⟨_, _, rfl, h⟩
 · cases h
theorem jJ {v : Value} {k : ByteArray → Bool} (h : gT v k = true) : ∃ s, v = .string s ∧ k s = true := by
 unfold gT at h
 split at h
 · exact ⟨_, rfl, h⟩
 · cases h
theorem nK {v : Value} {kn : Bool} {k : Nat → Nat → Nat → Nat → Bool} (h : jx v kn k = true) : (∃ l c, v = .slice none l c ∧ kn = true) ∨ ∃ a l c, v = .slice (some a) l c ∧ k a.block a.off l c = true := by
 unfold jx at h
 split at h
 · exact .inl ⟨_, _, rfl, h⟩
 · rename_i a l c; exact .inr ⟨a, l, c, rfl, h⟩
 · cases h
theorem CW {v : Value} {kn : Bool} {k : Nat → Bool} (h : ub v kn k = true) : (v = .map none ∧ kn = true) ∨ ∃ r, v = .map (some r) ∧ k r = true := by
 unfold ub at h
 split at h
 · exact .inl ⟨rfl, h⟩
 · exact .inr ⟨_, rfl, h⟩
 · cases h
theorem pX {v : Value} {k : Nat → Bool} (h : mT v k = true) : ∃ kd n, v = .int kd (Int.ofNat n) ∧ k n = true := by
 obtain ⟨kd, n, rfl, h⟩ := lk h
 cases n with
 | ofNat n => exact ⟨kd, n, rfl, h⟩
 | negSucc n => cases h
theorem uw {h : AH} {b : Nat} {k : AO → Bool} (e : me h b k = true) : ∃ o, h.ob.get b = some o ∧ k o = true := NT.tM _ _ _ (show NT.cY h.ob b k = true from by cases h; exact e)
theorem qz {h : AH} {b : Nat} {k : Nat → Nat → TypeId → Bool → NT Value → Bool} (e : ko h b k = true) : ∃ lo hi ty rw c, h.ob.get b = some (.cells lo hi ty rw c) ∧ k lo hi ty rw c = true := by
 obtain ⟨o, h1, h2⟩ := uw e
 cases o <;> first | exact ⟨_, _, _, _, _, h1, h2⟩ | cases h2
theorem tP {h : AH} {b : Nat} {k : List (Value × Value × Nat) → Nat → Bool} (e : iF h b k = true) : ∃ es cl, h.ob.get b = some (.map es cl) ∧ k es cl = true := by
 obtain ⟨o, h1, h2⟩ := uw e
 cases o <;> first | exact ⟨_, _, h1, h2⟩ | cases h2
theorem yY {h : AH} {b : Nat} {k : jH → Bool} (e : l9 h b k = true) : ∃ l, h.ob.get b = some (.loop l) ∧ k l = true := by
 obtain ⟨o, h1, h2⟩ := uw e
 cases o <;> first | exact ⟨_, h1, h2⟩ | cases h2
theorem abE {h : AH} {b : Nat} {k : Bool → Bool} (e : wv h b k = true) : ∃ l, h.ob.get b = some (.defs l) ∧ k l = true := by
 obtain ⟨o, h1, h2⟩ := uw e
 cases o <;> first | exact ⟨_, h1, h2⟩ | cases h2
theorem Z5 {h : AH} {b : Nat} {k : ByteArray → Nat → Bool} (e : RD h b k = true) : ∃ s p, h.ob.get b = some (.lj s p) ∧ k s p = true := by
 obtain ⟨o, h1, h2⟩ := uw e
 cases o <;> first | exact ⟨_, _, h1, h2⟩ | cases h2
theorem l5 {h : AH} {b : Nat} {o : Option AO} {k : AH → Bool} (e : ff h b o k = true) : ∃ aP, h.ob.gP b o aP ∧ k ⟨h.nx, aP⟩ = true := by
 cases h with
 | mk nx ob => exact NT.CS _ _ _ _ _ (show NT.fm (nG b) ob b o (fun aP => k ⟨nx, aP⟩) = true from e)
theorem rz {h : AH} {o : AO} {k : Nat → AH → Bool} (e : kj h o k = true) : ∃ aP, h.ob.gP h.nx (some o) aP ∧ k h.nx ⟨h.nx + 1, aP⟩ = true := by
 cases h with
 | mk nx ob =>
  obtain ⟨aP, h1, h2⟩ := NT.CS _ _ _ _ _ (show NT.fm (nG nx) ob nx (some o) (fun aP => fN (Nat.succ nx) fun o3 => k nx ⟨o3, aP⟩) = true from e)
  rw [bH] at h2
  exact ⟨aP, h1, h2⟩
theorem D6 : ∀ (l : List Value) {c : NT Value} {i : Nat} {k : NT Value → Bool}, ua c i l k = true →
 ∃ c', k c' = true ∧ (∀ j v, l[j]? = some v → c'.get (i + j) = some v) ∧ ∀ p, (p < i ∨ i + l.length ≤ p) → c'.get p = c.get p
 | [], c, i, k, h => ⟨c, h, fun j v e => by simp at e, fun _ _ => rfl⟩
 | v :: l, c, i, k, h => by
  obtain ⟨c1, ⟨h1, h2⟩, h3⟩ := NT.CS _ _ _ _ _ (show NT.fm (nG i) c i (some v) (fun c' => fN (Nat.succ i) fun i' => ua c' i' l k) = true from h)
  rw [bH] at h3
  obtain ⟨c', a, b, d⟩ := D6 l h3
  refine ⟨c', a, fun j u e => ?_, fun p hp => ?_⟩
  · cases j with
    | zero =>
     simp at e; subst e
     rw [d (i + 0) (.inl (by omega))]; exact h1
    | succ j =>
     have := b j u (by simpa using e)
     rw [show i + (j + 1) = Nat.succ i + j by omega]; exact this
  · simp only [List.length_cons] at hp
    rw [d p (by omega), h2 p (by omega)]
theorem DT : ∀ (n : Nat) {c : NT Value} {i : Nat} {k : List Value → Bool}, mS c i n k = true → ∃ l, k l = true ∧ l.length = n ∧ ∀ j v, l[j]? = some v → c.get (i + j) = some v
 | 0, c, i, k, h => ⟨[], h, rfl, fun j v e => by simp at e⟩
 | n + 1, c, i, k, h => by
  obtain ⟨v, h1, h2⟩ := NT.tM _ _ _ (show NT.cY c i (fun v => fN (Nat.succ i) fun i' => mS c i' n fun l => k (v :: l)) = true from h)
  rw [bH] at h2
  obtain ⟨l, a, b, d⟩ := DT n h2
  refine ⟨v :: l, a, by simp [b], fun j u e => ?_⟩
  cases j with
  | zero => simp at e; subst e; exact h1
  | succ j => rw [show i + (j + 1) = Nat.succ i + j by omega]; exact d j u (by simpa using e)
theorem zM : ∀ (l : List Value) {n : Nat} {k : Value → Bool}, mR l n k = true → ∃ v, l[n]? = some v ∧ k v = true
 | [], n, k, h => by cases h
 | x :: l, 0, k, h => ⟨x, rfl, h⟩
 | x :: l, n + 1, k, h => by
  obtain ⟨v, h1, h2⟩ := zM l (show mR l n k = true from h)
  exact ⟨v, by simpa using h1, h2⟩
theorem D7 : ∀ (l : List Value) {n : Nat} {k : List Value → Bool}, oY l n k = true → k (l.take n) = true ∧ n ≤ l.length
 | [], 0, k, h => ⟨h, by simp⟩
 | [], n + 1, k, h => by cases h
 | x :: l, 0, k, h => ⟨h, by simp⟩
 | x :: l, n + 1, k, h => by
  obtain ⟨h1, h2⟩ := D7 l (show oY l n (fun l' => k (x :: l')) = true from h)
  exact ⟨by simpa using h1, by simpa using h2⟩
theorem D8 : ∀ (l : List Value) {n : Nat} {k : List Value → Bool}, oZ l n k = true → k (l.drop n) = true ∧ n ≤ l.length
 | [], 0, k, h => ⟨h, by simp⟩
 | [], n + 1, k, h => by cases h
 | x :: l, 0, k, h => ⟨h, by simp⟩
 | x :: l, n + 1, k, h => by
  obtain ⟨h1, h2⟩ := D8 l (show oZ l n k = true from h)
  exact ⟨by simpa using h1, by simpa using h2⟩
theorem KB : ∀ (l vs : List Value) {k : List Value → Bool}, ki l vs k = true → k (vs ++ l.drop vs.length) = true ∧ vs.length ≤ l.length
 | [], [], k, h => ⟨h, by simp⟩
 | [], _ :: _, k, h => by cases h
 | x :: l, [], k, h => ⟨h, by simp⟩
 | x :: l, v :: vs, k, h => by
  obtain ⟨h1, h2⟩ := KB l vs (show ki l vs (fun l' => k (v :: l')) = true from h)
  exact ⟨by simpa using h1, by simpa using h2⟩
theorem Qw : ∀ (l : List Value) {n : Nat} {vs : List Value} {k : List Value → Bool}, mE l n vs k = true → k (l.take n ++ vs ++ l.drop (n + vs.length)) = true ∧ n + vs.length ≤ l.length
 | [], 0, vs, k, h => by
  obtain ⟨h1, h2⟩ := KB [] vs (show ki [] vs k = true from h)
  exact ⟨by simpa using h1, by simpa using h2⟩
 | [], n + 1, vs, k, h => by cases h
 | x :: l, 0, vs, k, h => by
  obtain ⟨h1, h2⟩ := KB (x :: l) vs (show ki (x :: l) vs k = true from h)
  exact ⟨by simpa using h1, by simpa using h2⟩
 | x :: l, n + 1, vs, k, h => by
  obtain ⟨h1, h2⟩ := Qw l (show mE l n vs (fun l' => k (x :: l')) = true from h)
  refine ⟨?_, by simp; omega⟩
  rw [show n + 1 + vs.length = (n + vs.length) + 1 by omega]
  simpa using h1
theorem C2 : ∀ (l : List Value) {n : Nat}, gE l n = true → l.length = n
 | [], 0, h => rfl
 | [], n + 1, h => by cases h
 | x :: l, 0, h => by cases h
 | x :: l, n + 1, h => by have := C2 l (show gE l n = true from h); simp [this]
theorem D9 : ∀ (l : List Value), cB l = true → ∀ v ∈ l, dR v = true
 | [], h, v, hv => by simp at hv
 | x :: l, h, v, hv => by
  have h' : (bif dR x then cB l else false) = true := h
  cases hx : dR x with
  | false => rw [hx] at h'; cases h'
  | true =>
   rw [hx] at h'
   rcases List.mem_cons.1 hv with rfl | hv
   · exact hx
   · exact D9 l (by simpa using h') v hv
theorem pW : ∀ (l m : List Value) {k : List Value → Bool}, gi l m k = true → k (l ++ m) = true
 | [], m, k, h => h
 | x :: l, m, k, h => pW l m (show gi l m (fun l' => k (x :: l')) = true from h)
theorem vY (v : Value) : cellsOf v = v.cells.toList := by
 cases v <;> rfl
theorem VR.dR {φ : ak} {v v' : Value} (h : VR φ v v') (ho : dR v = true) : v'.oneCell' = true := by
 cases h <;> first | rfl | (simp [Ve.dR] at ho)
theorem pY {h : AH} {ty : TypeId} {l : List Value} {k : Nat → AH → Bool} (e : jv h ty l k = true) :
 (∀ v ∈ l, dR v = true) ∧ ∃ c aP, (∀ j v, l[j]? = some v → c.get j = some v) ∧ h.ob.gP h.nx (some (.cells 0 l.length ty true c)) aP ∧ k h.nx ⟨h.nx + 1, aP⟩ = true := by
 obtain ⟨h1, h2⟩ := bJ e
 obtain ⟨c, h3, h4, _⟩ := D6 l h2
 rw [bH] at h3
 obtain ⟨aP, h5, h6⟩ := rz h3
 exact ⟨D9 l h1, c, aP, fun j v e => by simpa using h4 j v e, h5, h6⟩
theorem ry {h : AH} {b off n : Nat} {k : List Value → Bool} (e : j9 h b off n k = true) : ∃ lo hi ty rw c l, h.ob.get b = some (.cells lo hi ty rw c) ∧ lo ≤ off ∧ off + n ≤ hi ∧ l.length = n ∧
 (∀ j v, l[j]? = some v → c.get (off + j) = some v) ∧ k l = true := by
 obtain ⟨lo, hi, ty, rw, c, h1, h2⟩ := qz e
 obtain ⟨h3, h4⟩ := bJ h2
 simp only [Bool.and_eq_true] at h3
 obtain ⟨l, h5, h6, h7⟩ := DT n h4
 exact ⟨lo, hi, ty, rw, c, l, h1, Nat.le_of_ble_eq_true h3.1, Nat.le_of_ble_eq_true h3.2, h6, h7, h5⟩
theorem Dh {h : AH} {b off : Nat} {k : Value → Bool} (e : oV h b off k = true) : ∃ lo hi ty rw c v, h.ob.get b = some (.cells lo hi ty rw c) ∧ lo ≤ off ∧ off < hi ∧ c.get off = some v ∧ k v = true := by
 obtain ⟨lo, hi, ty, rw, c, h1, h2⟩ := qz e
 obtain ⟨h3, h4⟩ := bJ h2
 simp only [Bool.and_eq_true] at h3
 obtain ⟨v, h5, h6⟩ := NT.tM _ _ _ h4
 exact ⟨lo, hi, ty, rw, c, v, h1, Nat.le_of_ble_eq_true h3.1, Nat.le_of_ble_eq_true h3.2, h5, h6⟩
theorem Iy {h : AH} {b off : Nat} {l : List Value} {k : AH → Bool} (e : o4 h b off l k = true) : ∃ lo hi ty c c' aP, h.ob.get b = some (.cells lo hi ty true c) ∧ lo ≤ off ∧ off + l.length ≤ hi ∧
 (∀ v ∈ l, dR v = true) ∧ (∀ j v, l[j]? = some v → c'.get (off + j) = some v) ∧ (∀ p, (p < off ∨ off + l.length ≤ p) → c'.get p = c.get p) ∧
 h.ob.gP b (some (.cells lo hi ty true c')) aP ∧ k ⟨h.nx, aP⟩ = true := by
 obtain ⟨lo, hi, ty, rw, c, h1, h2⟩ := qz e
 obtain ⟨h3, h4⟩ := bJ h2
 simp only [Bool.and_eq_true] at h3
 obtain ⟨⟨⟨r1, r2⟩, r3⟩, r4⟩ := h3
 subst r1
 obtain ⟨c', h5, h6, h7⟩ := D6 l h4
 obtain ⟨aP, h8, h9⟩ := l5 h5
 exact ⟨lo, hi, ty, c, c', aP, h1, Nat.le_of_ble_eq_true r2, Nat.le_of_ble_eq_true r3, D9 l r4, h6, h7, h8, h9⟩
section
variable {P : Program} {w0 w : World} {φ : ak} {h : AH}
theorem HR.at (H : HR P w0 φ h w) {a a' : Addr} {lo hi : Nat} {ty : TypeId} {rw : Bool} {c : NT Value} (hs : φ a.block ≠ none) (ha : AtR φ a a') (ho : h.ob.get a.block = some (.cells lo hi ty rw c)) :
 ∃ b d arr fr, φ a.block = some (.live b d arr.size) ∧ a'.block = b ∧ a'.off + d = a.off ∧ a'.spot = none ∧ w.heap[b]? = some (.cells arr ty fr) ∧ d ≤ lo ∧
  (∀ p, lo ≤ p → p < hi → ∃ v v', c.get p = some v ∧ arr[p - d]? = some v' ∧ VR φ v v') ∧ (rw = true → w0.heap.size ≤ b) ∧ (rw = true → fr = (0, 0)) := by
 obtain ⟨b, d, n, o', h1, h2, h3, h4⟩ := H.live hs ho
 obtain ⟨e1, e2, e3⟩ := ha b d n h1
 cases h3 with
 | cells _ _ _ _ _ _ _ arr fr mP hd hn hc => subst hn; exact ⟨b, d, arr, fr, h1, e1, e2, e3, h2, hd, hc, h4, mP⟩
theorem kU (a : Addr) (hs : a.spot = none) (n : Nat) : a.add n = ⟨a.block, a.off + n, none⟩ := by
 unfold Addr.add
 split
 · subst_vars; cases a; simp_all
 · cases a; simp_all
theorem HR.cell (H : HR P w0 φ h w) {a a' : Addr} {lo hi : Nat} {ty : TypeId} {rw : Bool} {c : NT Value} (hs : φ a.block ≠ none) (ha : AtR φ a a') (ho : h.ob.get a.block = some (.cells lo hi ty rw c))
 {j : Nat} {v : Value} (h1 : lo ≤ a.off + j) (h2 : a.off + j < hi) (hv : c.get (a.off + j) = some v) : ∃ v', w.cell? (a'.add j) = some v' ∧ VR φ v v' := by
 obtain ⟨b, d, arr, fr, _, e1, e2, e3, h3, hd, hc, _⟩ := H.at hs ha ho
 obtain ⟨u, v', g1, g2, g3⟩ := hc _ h1 h2
 rw [hv] at g1; cases g1
 refine ⟨v', ?_, g3⟩
 rw [kU a' e3, World.cell?, e1, h3]
 simp only [Option.isSome_none, Bool.false_eq_true, if_false]
 rw [show a'.off + j = a.off + j - d by omega]; exact g2
theorem HR.cells (H : HR P w0 φ h w) {a a' : Addr} {lo hi : Nat} {ty : TypeId} {rw : Bool} {c : NT Value} (hs : φ a.block ≠ none) (ha : AtR φ a a') (ho : h.ob.get a.block = some (.cells lo hi ty rw c))
 {l : List Value} (h1 : lo ≤ a.off) (h2 : a.off + l.length ≤ hi) (hv : ∀ j v, l[j]? = some v → c.get (a.off + j) = some v) :
 ∃ l', LR φ l l' ∧ ∀ w', w'.heap = w.heap → (loadCells a' l.length).run P w' = .ok l'.toArray w' := by
 have key : ∀ j, j < l.length → ∃ v', w.cell? (a'.add j) = some v' ∧ VR φ (l.getD j undef) v' := by
  intro j hj
  have e : l[j]? = some (l.getD j undef) := by simp [List.getD, List.getElem?_eq_getElem hj]
  exact H.cell hs ha ho (by omega) (by omega) (hv j _ e)
 refine ⟨(List.range l.length).map fun j => (w.cell? (a'.add j)).getD undef, LR.Is (by simp) ?_, fun w' hw => ?_⟩
 · intro j v v' e e'
   have hj : j < l.length := (List.getElem?_eq_some_iff.1 e).1
   obtain ⟨u, h3, h4⟩ := key j hj
   simp [hj, h3] at e'
   subst e'
   simpa [List.getD, e] using h4
 · refine run_loadCells w' a' l.length _ fun j hj => ?_
   obtain ⟨u, h3, _⟩ := key j hj
   have : w'.cell? (a'.add j) = w.cell? (a'.add j) := by simp [World.cell?, hw]
   rw [this, h3]; rfl
theorem HR.write (H : HR P w0 φ h w) {a a' : Addr} {lo hi : Nat} {ty : TypeId} {c c' : NT Value} {aP : NT AO} (hs : φ a.block ≠ none) (ha : AtR φ a a') (ho : h.ob.get a.block = some (.cells lo hi ty true c))
 {l l' : List Value} (h1 : lo ≤ a.off) (h2 : a.off + l.length ≤ hi) (hl : LR φ l l') (nL : ∀ v ∈ l, dR v = true)
 (hv : ∀ j v, l[j]? = some v → c'.get (a.off + j) = some v) (js : ∀ p, (p < a.off ∨ a.off + l.length ≤ p) → c'.get p = c.get p)
 (bL : h.ob.gP a.block (some (.cells lo hi ty true c')) aP) :
 ∃ w', (storeCells a' l').run P w = .ok () w' ∧ HR P w0 φ ⟨h.nx, aP⟩ w' ∧ w'.drawn = w.drawn := by
 obtain ⟨b, d, arr, fr, Db, e1, e2, e3, h3, hd, hc, hb, mP⟩ := H.at hs ha ho
 obtain rfl := mP rfl
 have hlen := LR.length hl
 have dW : ∀ j, j < l.length → a.off + j - d < arr.size := fun j hj => by
  obtain ⟨_, _, _, g, _⟩ := hc (a.off + j) (by omega) (by omega)
  exact (Array.getElem?_eq_some_iff.1 g).1
 rcases Nat.eq_zero_or_pos l.length with hz | hz
 · have gS : l' = [] := List.eq_nil_of_length_eq_zero (by omega)
   subst gS
   refine ⟨w, rfl, H.hZ Db bL rfl ?_ (hb rfl) h3 (fun _ _ => rfl) rfl rfl rfl rfl, rfl⟩
   refine .cells _ _ _ _ _ _ _ _ _ (fun _ => rfl) hd rfl fun p q1 q2 => ?_
   obtain ⟨v, v', m1, m2, m3⟩ := hc p q1 q2
   exact ⟨v, v', by rw [js p (by omega)]; exact m1, m2, m3⟩
 have wK : a'.off + 0 + l'.length ≤ arr.size := by
  have := dW (l.length - 1) (by omega); omega
 have acO : ∀ v ∈ l', v.oneCell' = true := by
  intro v' js
  obtain ⟨j, hj⟩ := List.getElem?_of_mem js
  have zN : j < l.length := by rw [hlen]; exact (List.getElem?_eq_some_iff.1 hj).1
  obtain ⟨u, hu, hr⟩ := LR.get hl j _ (List.getElem?_eq_getElem zN)
  rw [hj] at hu; cases hu
  exact hr.dR (nL _ (List.getElem_mem zN))
 have ea : a' = ⟨b, a'.off, none⟩ := by cases a'; simp_all
 have bF := run_storeCells_at (P := P) b a'.off ty l' 0 arr w h3 wK acO
 rw [← ea] at bF
 refine ⟨_, bF, ?_, rfl⟩
 generalize hX : (List.take (a'.off + 0) arr.toList ++ l' ++ List.drop (a'.off + 0 + l'.length) arr.toList).toArray = X
 have hXs : X.size = arr.size := by subst hX; simp; omega
 have hXg : ∀ p, X[p]? = if p < a'.off then arr[p]? else if p < a'.off + l'.length then l'[p - a'.off]? else arr[p]? := by
  intro p
  subst hX
  simp only [List.getElem?_toArray, List.getElem?_append, List.length_take, List.length_append, List.getElem?_take, List.getElem?_drop, Array.getElem?_toList, Array.length_toList, Nat.add_zero]
  have hm : min a'.off arr.size = a'.off := by omega
  rw [hm]
  by_cases q1 : p < a'.off
  · simp [q1, show p < a'.off + l'.length by omega]
  · by_cases q2 : p < a'.off + l'.length
    · simp [q1, q2]
    · simp only [q1, q2, if_false]
      congr 1; omega
 refine H.hZ Db bL rfl ?_ (hb rfl) (setRow_heap w b arr X ty (0, 0) h3) (fun k hk => ?_) (by simp) rfl rfl rfl
 · refine .cells _ _ _ _ _ _ _ _ _ (fun _ => rfl) hd hXs.symm fun p q1 q2 => ?_
   rw [hXg]
   by_cases g1 : a.off ≤ p ∧ p < a.off + l.length
   · obtain ⟨g1, g2⟩ := g1
     obtain ⟨j, rfl⟩ : ∃ j, p = a.off + j := ⟨p - a.off, by omega⟩
     have hj : j < l.length := by omega
     obtain ⟨u, hu, hr⟩ := LR.get hl j _ (List.getElem?_eq_getElem hj)
     refine ⟨l[j], u, hv j _ (List.getElem?_eq_getElem hj), ?_, hr⟩
     rw [if_neg (by omega), if_pos (by omega), show a.off + j - d - a'.off = j by omega]
     exact hu
   · obtain ⟨v, v', m1, m2, m3⟩ := hc p q1 q2
     refine ⟨v, v', by rw [js p (by omega)]; exact m1, ?_, m3⟩
     split
     · exact m2
     · rw [if_neg (by omega)]; exact m2
 · unfold World.setRow
   simp only [Array.getElem?_modify]
   rw [if_neg (by omega)]
end
end Go.Ve
