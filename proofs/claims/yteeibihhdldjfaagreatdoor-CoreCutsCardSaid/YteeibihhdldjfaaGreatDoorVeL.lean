/- Part 12: VEval, part 50: from a call that returns true, and changes nothing of what was there, to the law's row. Conditions: as the rows' builders ask. And what follows it. -/
import Derived.Test.YteeibihhdldjfaaGreatDoorVeK
import Derived.ProofKit
import Derived.OpenShut
import Derived.WalkKit
set_option linter.unusedVariables false
set_option linter.unusedSimpArgs false
namespace Go.Ve
open Go.ChangeShapes Go.WideShapes Go.ChangeAt Go.RowKit
section
variable {H : Type} {enc : TypeId × Value → H} {P : Program}
theorem trodAll_below (hl : laidOutB P = true) {W W' : World} (hb : Below W.heap.size W W') : ∀ {ts : List TypeId} {vs : List Value} {ds : List (DataW H)} {ps : List MemPlace}, (∀ t ∈ ts, P.readableRec t = true ∧ t < P.types.size) →
    DataW.TrodAll enc P W 0 (fun _ => true) true ts vs ds ps → (∀ x ∈ ps, x.block < W.heap.size) → DataW.TrodAll enc P W' 0 (fun b => decide (b < W.heap.size)) true ts vs ds ps
  | [], [], [], ps, _, h, _ => h
  | [], _ :: _, _, ps, _, h, _ => h.elim
  | [], [], _ :: _, ps, _, h, _ => h.elim
  | _ :: _, [], _, ps, _, h, _ => h.elim
  | _ :: _, _ :: _, [], ps, _, h, _ => h.elim
  | t :: ts, v :: vs, d :: ds, ps, hr, h, hlt => by
    obtain ⟨p, q, h1, h2, rfl⟩ := h
    have hr1 := hr t List.mem_cons_self
    exact ⟨p, q, Below.trod hl hr1.1 hr1.2 h1 hb fun x hx => hlt x (List.mem_append_left _ hx), trodAll_below hl hb (fun t ht => hr t (List.mem_cons_of_mem _ ht)) h2 fun x hx => hlt x (List.mem_append_right _ hx), rfl⟩
theorem trodAll_len {W : World} {base : Nat} {sp : Nat → Bool} {held : Bool} : ∀ {ts : List TypeId} {vs : List Value} {ds : List (DataW H)} {ps : List MemPlace}, DataW.TrodAll enc P W base sp held ts vs ds ps → ds.length = ts.length ∧ vs.length = ts.length
  | [], [], [], _, _ => ⟨rfl, rfl⟩
  | [], _ :: _, _, ps, h => h.elim
  | [], [], _ :: _, ps, h => h.elim
  | _ :: _, [], _, ps, h => h.elim
  | _ :: _, _ :: _, [], ps, h => h.elim
  | t :: ts, v :: vs, d :: ds, ps, h => by
    obtain ⟨p, q, h1, h2, _⟩ := h
    have := trodAll_len h2
    exact ⟨by simp [this.1], by simp [this.2]⟩
theorem law_post {fn : Func} {s : ChangeSpec} {W W' : World} {args : Array Value} {ds gs : List (DataW H)} {before : List MemPlace} {tb : TypeId} (hl : laidOutB P = true) (hps : ∀ t ∈ fn.params.toList, P.readableRec t = true ∧ t < P.types.size)
    (hrt : fn.resultTypes = #[tb]) (htb : P.underlying tb = some .bool) (hsv : s.vars = []) (hspec : ∀ ds : List (DataW H), ds.length = fn.params.toList.length → s.fn H ds = { results := [.lit (.bool true)], args := ds })
    (hW : DataW.Whole enc P fn.params.toList s.vars false W args.toList ds gs before) (hb : Below W.heap.size W W') : s.post enc P fn false true false false W args (.bool true) W' := by
  have hW0 := hW
  have hlt : ∀ p ∈ before, p.block < W.heap.size := fun p hp => hW.lt p hp
  obtain ⟨p, q, hA, hV, hpq, hz, hn⟩ := hW
  rw [hsv] at hV
  obtain ⟨hg, hq⟩ := trodVars_none hV
  have hlen := trodAll_len hA
  have hs := hspec ds hlen.1
  subst hg; subst hq
  rw [List.append_nil] at hpq
  subst hpq
  have hres : s.fn H (ds ++ []) = { results := [.lit (.bool true)], args := ds } := by rw [List.append_nil]; exact hs
  refine ⟨ds, [], before, [], before, [], hW0, ?_, ?_, ?_, World.keptBut_mono (fun p hp => ⟨hp, .inr (.inl hp)⟩) (hb.frame (· ∈ before)), fun h => by cases h⟩
  · rw [hres, hrt]
    exact trodAll_cons_mk (shut_bool htb true) trodAll_mk0
  · rw [hres]
    exact trodAll_below hl hb hps hA hlt
  · rw [hres, hsv]
    exact rfl
end
end Go.Ve
namespace Go.Ve
open Go.ChangeShapes Go.WideShapes Go.ChangeAt Go.RowKit
section
variable {H : Type} {enc : TypeId × Value → H} {P : Program}
inductive AD (P : Program) {H : Type} (h : AH) : TypeId → List Value → DataW H → Prop
  | bool (t : TypeId) (b : Bool) (hu : P.underlying t = some .bool) : AD P h t [.bool b] (.lit (.bool b))
  | int (t : TypeId) (k : IntKind) (n : Int) (hu : P.underlying t = some (.int k)) (hw : (Lit.int k n).wf = true) : AD P h t [.int k n] (.lit (.int k n))
  | str (t : TypeId) (s : ByteArray) (hu : P.underlying t = some .string) (hs : s.size ≤ maxLen) : AD P h t [.string s] (.lit (.string s.data.toList))
  | nils (t e : TypeId) (hu : P.underlying t = some (.slice e)) : AD P h t [.slice none 0 0] .nil
  | sl (t e : TypeId) (b o n cap : Nat) (els rest : List (DataW H)) (css : List (List Value)) (hu : P.underlying t = some (.slice e)) (hn : els.length = n) (hc : n ≤ cap) (hcap : cap ≤ maxLen) (hl : css.length = n)
      (hz : ∀ cs ∈ css, cs.length = P.cellsOf e) (hr : h.rds b o css.flatten) (he : ∀ (i : Nat) (cs : List Value) (d : DataW H), css[i]? = some cs → els[i]? = some d → AD P h e cs d) : AD P h t [.slice (some ⟨b, o, none⟩) n cap] (.slice els rest)
  | struct (t : TypeId) (fs : Array Field) (cs : List Value) (ds : List (DataW H)) (hu : P.underlying t = some (.struct fs)) (hl : cs.length = P.cellsOf t) (hd : ds.length = fs.size)
      (he : ∀ (i : Nat) (f : Field) (d : DataW H), fs[i]? = some f → ds[i]? = some d → AD P h f.type ((cs.drop f.offset).take (P.cellsOf f.type)) d) : AD P h t cs (.agg ds)
  | arr (t e : TypeId) (n : Nat) (cs : List Value) (ds : List (DataW H)) (hu : P.underlying t = some (.array n e)) (hl : cs.length = P.cellsOf t) (hd : ds.length = n)
      (he : ∀ (i : Nat) (d : DataW H), ds[i]? = some d → AD P h e ((cs.drop (i * P.cellsOf e)).take (P.cellsOf e)) d) : AD P h t cs (.agg ds)
theorem AD.keep {h h' : AH} (K : Keep h h') (hok : h.Ok) {t : TypeId} {cs : List Value} {d : DataW H} (A : AD P h t cs d) : AD P h' t cs d := by
  induction A with
  | bool t b hu => exact .bool t b hu
  | int t k n hu hw => exact .int t k n hu hw
  | str t s hu hs => exact .str t s hu hs
  | nils t e hu => exact .nils t e hu
  | sl t e b o n cap els rest css hu hn hc hcap hl hz hr he ih => exact .sl t e b o n cap els rest css hu hn hc hcap hl hz (K.rds hok hr) ih
  | struct t fs cs ds hu hl hd he ih => exact .struct t fs cs ds hu hl hd ih
  | arr t e n cs ds hu hl hd he ih => exact .arr t e n cs ds hu hl hd ih
theorem HR.look {w0 w : World} {φ : Phi} {h : AH} (R : HR P w0 φ h w) {b o : Nat} {arr : Array Value} {ty : TypeId} {fr : Nat × Nat} (hw : w.heap[b]? = some (.cells arr ty fr)) {l : List Value} (hb : b < w0.heap.size)
    (hl : ∀ (i : Nat) (v : Value), l[i]? = some v → ∃ v', arr[o + i]? = some v' ∧ VR φ v v') :
    ∃ h', HR P w0 (φ.put h.nx (.live b 0 arr.size)) h' w ∧ Ext h.nx φ (φ.put h.nx (.live b 0 arr.size)) ∧ Keep h h' ∧ h'.rds h.nx o l ∧ h.nx < h'.nx := by
  have hf : φ h.nx = none := R.fresh _ (Nat.le_refl _)
  have hE : Ext h.nx φ (φ.put h.nx (.live b 0 arr.size)) := Phi.put_new φ _ hf (Nat.le_refl _)
  let h' : AH := ⟨h.nx + 1, h.ob.set h.nx (some (.cells o (o + l.length) ty false (layV .e o l)))⟩
  have hg : ∀ g, h'.ob.get g = if g = h.nx then some (.cells o (o + l.length) ty false (layV .e o l)) else h.ob.get g := fun g => NT.get_set _ _ _ _
  refine ⟨h', ⟨?_, ?_, ?_, ?_, ?_, R.below⟩, hE, ⟨Nat.le_succ _, fun g hg' => by rw [hg, if_neg (by omega)]⟩, ?_, Nat.lt_succ_self _⟩
  · intro f f' b' d d' n n' hwb h1 h2
    have key : ∀ g b' d n, (φ.put h.nx (.live b 0 arr.size)) g = some (.live b' d n) → w0.heap.size ≤ b' → φ g = some (.live b' d n) := by
      intro g b' d n hgg hwb
      by_cases e : g = h.nx
      · subst e; rw [Phi.put_same] at hgg; cases hgg; omega
      · rwa [Phi.put_other _ _ e] at hgg
    exact R.inj f f' b' d d' n n' hwb (key _ _ _ _ h1 hwb) (key _ _ _ _ h2 hwb)
  · intro g hg'
    have : h.nx + 1 ≤ g := hg'
    rw [Phi.put_other _ _ (by omega)]; exact R.fresh g (by omega)
  · intro g hg'
    have : h.nx + 1 ≤ g := hg'
    rw [hg, if_neg (by omega)]; exact R.top g (by omega)
  · intro g hgd
    have e : g ≠ h.nx := fun e => by subst e; rw [Phi.put_same] at hgd; cases hgd
    rw [Phi.put_other _ _ e] at hgd
    rw [hg, if_neg e]; exact R.dead g hgd
  · intro g b' d n hgl
    by_cases e : g = h.nx
    · subst e
      rw [Phi.put_same] at hgl
      cases hgl
      refine ⟨_, _, by rw [hg, if_pos rfl], hw, .cells 0 arr.size o (o + l.length) ty false (layV .e o l) arr fr (fun h => Bool.noConfusion h) (Nat.zero_le _) rfl fun p hp1 hp2 => ?_, fun h => Bool.noConfusion h⟩
      have hpl : p - o < l.length := by omega
      obtain ⟨v', g1, g2⟩ := hl (p - o) _ (List.getElem?_eq_getElem hpl)
      refine ⟨l[p - o], v', ?_, ?_, VR.ext hE g2⟩
      · rw [layV_get, if_pos (by omega)]; exact List.getElem?_eq_getElem hpl
      · rw [show p - 0 = o + (p - o) by omega]; exact g1
    · rw [Phi.put_other _ _ e] at hgl
      obtain ⟨o1, o2, a1, a2, a3, a4⟩ := R.obj g b' d n hgl
      exact ⟨o1, o2, by rw [hg, if_neg e]; exact a1, a2, a3.ext hE, a4⟩
  · intro i v hv
    have hi : i < l.length := (List.getElem?_eq_some_iff.1 hv).1
    show AH.rd h' h.nx (o + i) = some v
    unfold AH.rd
    rw [hg, if_pos rfl]
    simp only []
    rw [if_pos (by omega), layV_get, if_pos (by omega), show o + i - o = i by omega]
    exact hv
theorem HR.noblock {w0 w : World} {φ : Phi} {h : AH} (R : HR P w0 φ h w) : HR P w0 (φ.put h.nx .dead) ⟨h.nx + 1, h.ob⟩ w ∧ Ext h.nx φ (φ.put h.nx .dead) ∧ Keep h ⟨h.nx + 1, h.ob⟩ := by
  have hf : φ h.nx = none := R.fresh _ (Nat.le_refl _)
  have hE : Ext h.nx φ (φ.put h.nx .dead) := Phi.put_new φ _ hf (Nat.le_refl _)
  have key : ∀ g b d n, (φ.put h.nx .dead) g = some (.live b d n) → φ g = some (.live b d n) := by
    intro g b d n hg
    by_cases e : g = h.nx
    · subst e; rw [Phi.put_same] at hg; cases hg
    · rwa [Phi.put_other _ _ e] at hg
  refine ⟨⟨fun f f' b d d' n n' hwb h1 h2 => R.inj f f' b d d' n n' hwb (key _ _ _ _ h1) (key _ _ _ _ h2), fun g hg => ?_, fun g hg => R.top g (by have : h.nx + 1 ≤ g := hg; omega), fun g hg => ?_, fun g b d n hg => ?_, R.below⟩, hE, ⟨Nat.le_succ _, fun _ _ => rfl⟩⟩
  · have : h.nx + 1 ≤ g := hg
    rw [Phi.put_other _ _ (by omega)]; exact R.fresh g (by omega)
  · by_cases e : g = h.nx
    · subst e; exact R.top _ (Nat.le_refl _)
    · rw [Phi.put_other _ _ e] at hg; exact R.dead g hg
  · obtain ⟨o1, o2, a1, a2, a3, a4⟩ := R.obj g b d n (key _ _ _ _ hg)
    exact ⟨o1, o2, a1, a2, a3.ext hE, a4⟩
end
end Go.Ve
