/- Part 1: VEval, part 1: the data: tries, abstract heap, what it is for an abstract value, object, heap to stand for a real one. Over any program; no condition. And what follows it. -/
import Derived.AtR
import Derived.Orders
import Derived.Below
import Derived.Defers
import Derived.RangeFuncRecord
import Derived.RangeFuncIn
set_option linter.unusedVariables false
set_option linter.unusedSimpArgs false
namespace Go.Ve
open Go.RowKit
inductive Pos where
  | xH
  | xO (p : Pos)
  | xI (p : Pos)
  deriving DecidableEq, Inhabited, Repr
def Pos.un : Pos → Nat
  | .xH => 0
  | .xO p => 2 * p.un + 1
  | .xI p => 2 * p.un + 2
theorem Pos.un_inj : ∀ {p q : Pos}, p.un = q.un → p = q
  | .xH, .xH, _ => rfl
  | .xH, .xO q, h => by simp [Pos.un] at h
  | .xH, .xI q, h => by simp [Pos.un] at h
  | .xO p, .xH, h => by simp [Pos.un] at h
  | .xI p, .xH, h => by simp [Pos.un] at h
  | .xO p, .xO q, h => by
    have h' : 2 * p.un + 1 = 2 * q.un + 1 := h
    rw [Pos.un_inj (show p.un = q.un by omega)]
  | .xI p, .xI q, h => by
    have h' : 2 * p.un + 2 = 2 * q.un + 2 := h
    rw [Pos.un_inj (show p.un = q.un by omega)]
  | .xO p, .xI q, h => by
    have h' : 2 * p.un + 1 = 2 * q.un + 2 := h
    omega
  | .xI p, .xO q, h => by
    have h' : 2 * p.un + 2 = 2 * q.un + 1 := h
    omega
def Pos.beq : Pos → Pos → Bool
  | .xH, .xH => true
  | .xO p, .xO q => p.beq q
  | .xI p, .xI q => p.beq q
  | _, _ => false
theorem Pos.beq_iff : ∀ {p q : Pos}, p.beq q = true ↔ p = q
  | .xH, .xH => by simp [Pos.beq]
  | .xO p, .xO q => by simp [Pos.beq, Pos.beq_iff (p := p) (q := q)]
  | .xI p, .xI q => by simp [Pos.beq, Pos.beq_iff (p := p) (q := q)]
  | .xH, .xO _ => by simp [Pos.beq]
  | .xH, .xI _ => by simp [Pos.beq]
  | .xO _, .xH => by simp [Pos.beq]
  | .xI _, .xH => by simp [Pos.beq]
  | .xO _, .xI _ => by simp [Pos.beq]
  | .xI _, .xO _ => by simp [Pos.beq]
def Pos.ofF : Nat → Nat → Pos
  | 0, _ => .xH
  | f + 1, n => if n = 0 then .xH else if n % 2 = 1 then .xO (Pos.ofF f (n / 2)) else .xI (Pos.ofF f (n / 2 - 1))
def Pos.of (n : Nat) : Pos := Pos.ofF n n
theorem Pos.un_ofF : ∀ (f n : Nat), n ≤ f → (Pos.ofF f n).un = n := by
  intro f
  induction f with
  | zero => intro n h; have : n = 0 := by omega
            subst this; rfl
  | succ f ih =>
    intro n h
    unfold Pos.ofF
    split
    · subst_vars; rfl
    · split
      · simp only [Pos.un]; rw [ih _ (by omega)]; omega
      · simp only [Pos.un]; rw [ih _ (by omega)]; omega
theorem Pos.un_of (n : Nat) : (Pos.of n).un = n := Pos.un_ofF n n (Nat.le_refl _)
inductive PT where
  | e
  | n (l : PT) (v : Value) (r : PT)
def PT.get : PT → Pos → Value
  | .e, _ => undef
  | .n _ v _, .xH => v
  | .n l _ _, .xO p => l.get p
  | .n _ _ r, .xI p => r.get p
noncomputable def PT.getK (p : Pos) : PT → (Value → Bool) → Bool :=
  Pos.rec (motive := fun _ => PT → (Value → Bool) → Bool)
    (fun t k => PT.casesOn (motive := fun _ => Bool) t (k undef) (fun _ v _ => k v))
    (fun _ ih t k => PT.casesOn (motive := fun _ => Bool) t (k undef) (fun l _ _ => ih l k))
    (fun _ ih t k => PT.casesOn (motive := fun _ => Bool) t (k undef) (fun _ _ r => ih r k)) p
theorem PT.getK_eq : ∀ (p : Pos) (t : PT) (k : Value → Bool), PT.getK p t k = k (t.get p)
  | .xH, .e, k => rfl
  | .xH, .n _ _ _, k => rfl
  | .xO p, .e, k => rfl
  | .xO p, .n l _ _, k => PT.getK_eq p l k
  | .xI p, .e, k => rfl
  | .xI p, .n _ _ r, k => PT.getK_eq p r k
def PT.set : PT → Pos → Value → PT
  | .e, .xH, v => .n .e v .e
  | .n l _ r, .xH, v => .n l v r
  | .e, .xO p, v => .n (PT.set .e p v) undef .e
  | .n l u r, .xO p, v => .n (PT.set l p v) u r
  | .e, .xI p, v => .n .e undef (PT.set .e p v)
  | .n l u r, .xI p, v => .n l u (PT.set r p v)
noncomputable def PT.setK (p : Pos) : PT → Value → (PT → Bool) → Bool :=
  Pos.rec (motive := fun _ => PT → Value → (PT → Bool) → Bool)
    (fun t v k => PT.casesOn (motive := fun _ => Bool) t (k (.n .e v .e)) (fun l _ r => k (.n l v r)))
    (fun _ ih t v k => PT.casesOn (motive := fun _ => Bool) t (ih .e v fun l => k (.n l undef .e)) (fun l u r => ih l v fun l' => k (.n l' u r)))
    (fun _ ih t v k => PT.casesOn (motive := fun _ => Bool) t (ih .e v fun r => k (.n .e undef r)) (fun l u r => ih r v fun r' => k (.n l u r'))) p
theorem PT.setK_eq : ∀ (p : Pos) (t : PT) (v : Value) (k : PT → Bool), PT.setK p t v k = k (t.set p v)
  | .xH, .e, v, k => rfl
  | .xH, .n l _ r, v, k => rfl
  | .xO p, .e, v, k => PT.setK_eq p _ _ _
  | .xO p, .n l u r, v, k => PT.setK_eq p _ _ _
  | .xI p, .e, v, k => PT.setK_eq p _ _ _
  | .xI p, .n l u r, v, k => PT.setK_eq p _ _ _
theorem PT.get_e (p : Pos) : PT.get .e p = undef := by cases p <;> rfl
theorem PT.get_set : ∀ (p : Pos) (t : PT) (v : Value) (q : Pos), (t.set p v).get q = if q = p then v else t.get q
  | .xH, .e, v, q => by cases q <;> simp [PT.set, PT.get]
  | .xH, .n l u r, v, q => by cases q <;> simp [PT.set, PT.get]
  | .xO p, .e, v, q => by cases q <;> simp [PT.set, PT.get, PT.get_set p]
  | .xO p, .n l u r, v, q => by cases q <;> simp [PT.set, PT.get, PT.get_set p]
  | .xI p, .e, v, q => by cases q <;> simp [PT.set, PT.get, PT.get_set p]
  | .xI p, .n l u r, v, q => by cases q <;> simp [PT.set, PT.get, PT.get_set p]
inductive NT (α : Type) where
  | e
  | n (l : NT α) (v : Option α) (r : NT α)
def NT.get {α : Type} : NT α → Nat → Option α
  | .e, _ => none
  | .n l v r, i => bif Nat.beq i 0 then v else bif Nat.beq (Nat.mod i 2) 1 then l.get (Nat.div i 2) else r.get (Nat.pred (Nat.div i 2))
noncomputable def NT.getK {α : Type} (t : NT α) : Nat → (α → Bool) → Bool :=
  NT.rec (motive := fun _ => Nat → (α → Bool) → Bool) (fun _ _ => false)
    (fun _ v _ il ir i k => Nat.rec (motive := fun _ => Bool) (Option.rec (motive := fun _ => Bool) false (fun x => k x) v)
      (fun _ _ => Bool.rec (motive := fun _ => Bool) (ir (Nat.pred (Nat.div i 2)) k) (il (Nat.div i 2) k) (Nat.beq (Nat.mod i 2) 1)) i) t
theorem NT.getK_n {α : Type} (l : NT α) (v : Option α) (r : NT α) (i : Nat) (k : α → Bool) : (NT.n l v r).getK i k =
    bif Nat.beq i 0 then (match v with | some x => k x | none => false) else bif Nat.beq (Nat.mod i 2) 1 then l.getK (Nat.div i 2) k else r.getK (Nat.pred (Nat.div i 2)) k := by
  cases i with
  | zero => cases v <;> rfl
  | succ i =>
    show Bool.rec (motive := fun _ => Bool) (r.getK (Nat.pred (Nat.div (i + 1) 2)) k) (l.getK (Nat.div (i + 1) 2) k) (Nat.beq (Nat.mod (i + 1) 2) 1) = bif false then _ else _
    cases Nat.beq (Nat.mod (i + 1) 2) 1 <;> rfl
theorem NT.getK_sound {α : Type} : ∀ (t : NT α) (i : Nat) (k : α → Bool), t.getK i k = true → ∃ x, t.get i = some x ∧ k x = true
  | .e, i, k, h => by cases h
  | .n l v r, i, k, h => by
    rw [NT.getK_n] at h
    rw [NT.get]
    cases h0 : Nat.beq i 0 with
    | true =>
      rw [h0] at h
      cases v with
      | none => simp at h
      | some x => exact ⟨x, rfl, by simpa using h⟩
    | false =>
      cases h1 : Nat.beq (Nat.mod i 2) 1 with
      | true => rw [h0, h1] at h; exact NT.getK_sound l _ k (by simpa using h)
      | false => rw [h0, h1] at h; exact NT.getK_sound r _ k (by simpa using h)
noncomputable def NT.setK {α : Type} (f : Nat) : NT α → Nat → Option α → (NT α → Bool) → Bool :=
  Nat.rec (motive := fun _ => NT α → Nat → Option α → (NT α → Bool) → Bool) (fun _ _ _ _ => false)
    (fun _ ih t i v k => Nat.rec (motive := fun _ => Bool)
      (NT.casesOn (motive := fun _ => Bool) t (k (.n .e v .e)) (fun l _ r => k (.n l v r)))
      (fun _ _ => Bool.rec (motive := fun _ => Bool)
        (NT.casesOn (motive := fun _ => Bool) t (ih .e (Nat.pred (Nat.div i 2)) v (fun r => k (.n .e none r))) (fun l u r => ih r (Nat.pred (Nat.div i 2)) v (fun r' => k (.n l u r'))))
        (NT.casesOn (motive := fun _ => Bool) t (ih .e (Nat.div i 2) v (fun l => k (.n l none .e))) (fun l u r => ih l (Nat.div i 2) v (fun l' => k (.n l' u r))))
        (Nat.beq (Nat.mod i 2) 1)) i) f
theorem NT.setK_succ {α : Type} (f : Nat) (t : NT α) (i : Nat) (v : Option α) (k : NT α → Bool) : NT.setK (f + 1) t i v k =
    bif Nat.beq i 0 then
      (match t with | .e => k (.n .e v .e) | .n l _ r => k (.n l v r))
    else bif Nat.beq (Nat.mod i 2) 1 then
      (match t with | .e => NT.setK f .e (Nat.div i 2) v (fun l => k (.n l none .e)) | .n l u r => NT.setK f l (Nat.div i 2) v (fun l' => k (.n l' u r)))
    else
      (match t with | .e => NT.setK f .e (Nat.pred (Nat.div i 2)) v (fun r => k (.n .e none r)) | .n l u r => NT.setK f r (Nat.pred (Nat.div i 2)) v (fun r' => k (.n l u r'))) := by
  cases i with
  | zero => cases t <;> rfl
  | succ i =>
    cases h : Nat.beq (Nat.mod (i + 1) 2) 1 <;> cases t <;> simp only [NT.setK, h] <;> rfl
def NT.IsSet {α : Type} (t : NT α) (i : Nat) (v : Option α) (t' : NT α) : Prop := t'.get i = v ∧ ∀ j, j ≠ i → t'.get j = t.get j
theorem cond_t {α : Type} {c : Bool} {a b : α} (h : c = true) : (bif c then a else b) = a := by subst h; rfl
theorem cond_f {α : Type} {c : Bool} {a b : α} (h : c = false) : (bif c then a else b) = b := by subst h; rfl
theorem beqT {a b : Nat} (h : a = b) : Nat.beq a b = true := by subst h; exact Nat.beq_refl a
theorem beqF {a b : Nat} (h : a ≠ b) : Nat.beq a b = false := by
  cases h' : Nat.beq a b with
  | false => rfl
  | true => exact absurd (Nat.eq_of_beq_eq_true h') h
theorem mod_odd (j : Nat) : Nat.mod (2 * j + 1) 2 = 1 := by show (2 * j + 1) % 2 = 1; omega
theorem mod_even (j : Nat) : Nat.mod (2 * j + 2) 2 ≠ 1 := by show (2 * j + 2) % 2 ≠ 1; omega
theorem div_odd (j : Nat) : Nat.div (2 * j + 1) 2 = j := by show (2 * j + 1) / 2 = j; omega
theorem div_even (j : Nat) : Nat.pred (Nat.div (2 * j + 2) 2) = j := by show Nat.pred ((2 * j + 2) / 2) = j; simp only [Nat.pred_eq_sub_one]; omega
theorem NT.get_odd {α : Type} (l : NT α) (v : Option α) (r : NT α) (j : Nat) : (NT.n l v r).get (2 * j + 1) = l.get j := by
  rw [NT.get, cond_f (beqF (by omega)), cond_t (beqT (mod_odd j)), div_odd]
theorem NT.get_even {α : Type} (l : NT α) (v : Option α) (r : NT α) (j : Nat) : (NT.n l v r).get (2 * j + 2) = r.get j := by
  rw [NT.get, cond_f (beqF (by omega)), cond_f (beqF (mod_even j)), div_even]
theorem NT.nat_cases (i : Nat) : i = 0 ∨ (∃ j, i = 2 * j + 1) ∨ (∃ j, i = 2 * j + 2) := by
  by_cases h : i = 0
  · exact .inl h
  · by_cases h2 : i % 2 = 1
    · exact .inr (.inl ⟨i / 2, by omega⟩)
    · exact .inr (.inr ⟨i / 2 - 1, by omega⟩)
def fuelOf (i : Nat) : Nat := Nat.succ (Nat.log2 (Nat.succ i))
def NT.setF {α : Type} : Nat → NT α → Nat → Option α → NT α
  | 0, t, _, _ => t
  | f + 1, t, i, v => bif Nat.beq i 0 then (match t with | .e => .n .e v .e | .n l _ r => .n l v r)
    else bif Nat.beq (Nat.mod i 2) 1 then (match t with | .e => .n (NT.setF f .e (Nat.div i 2) v) none .e | .n l u r => .n (NT.setF f l (Nat.div i 2) v) u r)
    else (match t with | .e => .n .e none (NT.setF f .e (Nat.pred (Nat.div i 2)) v) | .n l u r => .n l u (NT.setF f r (Nat.pred (Nat.div i 2)) v))
def NT.set {α : Type} (t : NT α) (i : Nat) (v : Option α) : NT α := NT.setF (fuelOf i) t i v
theorem log2_half {i : Nat} (h : i ≠ 0) : Nat.log2 (Nat.succ (Nat.div i 2)) < Nat.log2 (Nat.succ i) ∨ Nat.mod i 2 ≠ 1 := by
  by_cases h1 : Nat.mod i 2 = 1
  · left
    have h2 : i + 1 ≥ 2 := by omega
    rw [Nat.log2_def (i + 1), if_pos h2]
    have : (i + 1) / 2 = Nat.succ (Nat.div i 2) := by
      show (i + 1) / 2 = i / 2 + 1
      have h1' : i % 2 = 1 := h1
      omega
    rw [this]; exact Nat.lt_succ_self _
  · exact .inr h1
theorem log2_half' {i : Nat} (h : i ≠ 0) (h1 : Nat.mod i 2 ≠ 1) : Nat.log2 (Nat.succ (Nat.pred (Nat.div i 2))) < Nat.log2 (Nat.succ i) := by
  have h2 : i + 1 ≥ 2 := by omega
  rw [show Nat.succ i = i + 1 from rfl, Nat.log2_def (i + 1), if_pos h2]
  have : (i + 1) / 2 = Nat.succ (Nat.pred (Nat.div i 2)) := by
    show (i + 1) / 2 = Nat.pred (i / 2) + 1
    have h1' : ¬ i % 2 = 1 := h1
    rw [Nat.pred_eq_sub_one]
    omega
  rw [this]; exact Nat.lt_succ_self _
theorem NT.setK_eqF {α : Type} : ∀ (f : Nat) (t : NT α) (i : Nat) (v : Option α) (k : NT α → Bool), Nat.log2 (Nat.succ i) < f → NT.setK f t i v k = k (NT.setF f t i v) := by
  intro f
  induction f with
  | zero => intro t i v k h; exact absurd h (Nat.not_lt_zero _)
  | succ f ih =>
    intro t i v k h
    cases h0 : Nat.beq i 0 with
    | true => cases t <;> (rw [NT.setK_succ, NT.setF]; simp only [h0, cond_true])
    | false =>
      have hi : i ≠ 0 := fun e => by subst e; cases h0
      cases h1 : Nat.beq (Nat.mod i 2) 1 with
      | true =>
        have hm : Nat.mod i 2 = 1 := Nat.eq_of_beq_eq_true h1
        have hl : Nat.log2 (Nat.succ (Nat.div i 2)) < f := by
          rcases log2_half hi with h2 | h2
          · omega
          · exact absurd hm h2
        cases t with
        | e => rw [NT.setK_succ, NT.setF]; simp only [h0, h1, cond_true, cond_false]; exact ih .e _ v _ hl
        | n l u r => rw [NT.setK_succ, NT.setF]; simp only [h0, h1, cond_true, cond_false]; exact ih l _ v _ hl
      | false =>
        have hm : Nat.mod i 2 ≠ 1 := fun e => by rw [e] at h1; cases h1
        have hl : Nat.log2 (Nat.succ (Nat.pred (Nat.div i 2))) < f := by have := log2_half' hi hm; omega
        cases t with
        | e => rw [NT.setK_succ, NT.setF]; simp only [h0, h1, cond_false]; exact ih .e _ v _ hl
        | n l u r => rw [NT.setK_succ, NT.setF]; simp only [h0, h1, cond_false]; exact ih r _ v _ hl
theorem NT.setK_eq {α : Type} (t : NT α) (i : Nat) (v : Option α) (k : NT α → Bool) : NT.setK (fuelOf i) t i v k = k (t.set i v) := NT.setK_eqF _ _ _ _ _ (Nat.lt_succ_self _)
theorem NT.setK_sound {α : Type} : ∀ (f : Nat) (t : NT α) (i : Nat) (v : Option α) (k : NT α → Bool), NT.setK f t i v k = true → ∃ t', t.IsSet i v t' ∧ k t' = true := by
  intro f
  induction f with
  | zero => intro t i v k h; cases h
  | succ f ih =>
    intro t i v k h
    rcases NT.nat_cases i with rfl | ⟨j, rfl⟩ | ⟨j, rfl⟩
    · rw [NT.setK_succ] at h
      rw [cond_t (beqT rfl)] at h
      cases t with
      | e =>
        refine ⟨_, ⟨rfl, fun q hq => ?_⟩, h⟩
        rcases NT.nat_cases q with rfl | ⟨q, rfl⟩ | ⟨q, rfl⟩
        · exact absurd rfl hq
        · rw [NT.get_odd]; rfl
        · rw [NT.get_even]; rfl
      | n l u r =>
        refine ⟨_, ⟨rfl, fun q hq => ?_⟩, h⟩
        rcases NT.nat_cases q with rfl | ⟨q, rfl⟩ | ⟨q, rfl⟩
        · exact absurd rfl hq
        · rw [NT.get_odd, NT.get_odd]
        · rw [NT.get_even, NT.get_even]
    · rw [NT.setK_succ] at h
      rw [cond_f (beqF (by omega)), cond_t (beqT (mod_odd j)), div_odd] at h
      cases t with
      | e =>
        obtain ⟨t', ⟨h1, h2⟩, h3⟩ := ih _ _ _ _ h
        refine ⟨_, ⟨by rw [NT.get_odd]; exact h1, fun q hq => ?_⟩, h3⟩
        rcases NT.nat_cases q with rfl | ⟨q, rfl⟩ | ⟨q, rfl⟩
        · rfl
        · rw [NT.get_odd, h2 q (by omega)]; rfl
        · rw [NT.get_even]; rfl
      | n l u r =>
        obtain ⟨t', ⟨h1, h2⟩, h3⟩ := ih _ _ _ _ h
        refine ⟨_, ⟨by rw [NT.get_odd]; exact h1, fun q hq => ?_⟩, h3⟩
        rcases NT.nat_cases q with rfl | ⟨q, rfl⟩ | ⟨q, rfl⟩
        · rfl
        · rw [NT.get_odd, h2 q (by omega), NT.get_odd]
        · rw [NT.get_even, NT.get_even]
    · rw [NT.setK_succ] at h
      rw [cond_f (beqF (by omega)), cond_f (beqF (mod_even j)), div_even] at h
      cases t with
      | e =>
        obtain ⟨t', ⟨h1, h2⟩, h3⟩ := ih _ _ _ _ h
        refine ⟨_, ⟨by rw [NT.get_even]; exact h1, fun q hq => ?_⟩, h3⟩
        rcases NT.nat_cases q with rfl | ⟨q, rfl⟩ | ⟨q, rfl⟩
        · rfl
        · rw [NT.get_odd]; rfl
        · rw [NT.get_even, h2 q (by omega)]; rfl
      | n l u r =>
        obtain ⟨t', ⟨h1, h2⟩, h3⟩ := ih _ _ _ _ h
        refine ⟨_, ⟨by rw [NT.get_even]; exact h1, fun q hq => ?_⟩, h3⟩
        rcases NT.nat_cases q with rfl | ⟨q, rfl⟩ | ⟨q, rfl⟩
        · rfl
        · rw [NT.get_odd, NT.get_odd]
        · rw [NT.get_even, h2 q (by omega), NT.get_even]
theorem NT.isSet_set {α : Type} (t : NT α) (i : Nat) (v : Option α) : t.IsSet i v (t.set i v) := by
  classical
  obtain ⟨t', h1, h2⟩ := NT.setK_sound (fuelOf i) t i v (fun t' => decide (t' = t.set i v)) (by rw [NT.setK_eq]; simp)
  have : t' = t.set i v := by simpa using h2
  rw [← this]; exact h1
theorem NT.get_set {α : Type} (t : NT α) (i : Nat) (v : Option α) (j : Nat) : (t.set i v).get j = if j = i then v else t.get j := by
  have h := NT.isSet_set t i v
  by_cases e : j = i
  · rw [if_pos e, e]; exact h.1
  · rw [if_neg e]; exact h.2 j e
inductive Opd where
  | t (p : Pos)
  | c (v : Value)
inductive PX where
  | bad
  | cat
  | scmp (op : BinOp)
  | sub (lo hi : Bool)
  | capS
  | appStr (ty : TypeId) (zero : List Value)
  | toUns
  | ofUns (l : List (TypeId × Nat))
  | same
  | eqPtr (neg : Bool)
  | slData
  | unsStr (ty : TypeId)
  | countS
  | idxS
  | rangeM
  | nextM
  | entry
inductive Prim where
  | move
  | pick
  | alloc (ty : TypeId) (zero : List Value)
  | box (ty : TypeId)
  | build (zero : List Value) (places : List (Nat × Nat))
  | buildAll (sizes : List Nat)
  | buildSlice (ty : TypeId) (n : Nat) (cells : List Value) (places : List (Nat × Nat))
  | load1
  | loadN (n : Nat)
  | store (n : Nat)
  | nilCheck
  | fieldAddr (off : Nat)
  | field1 (off : Nat)
  | fieldN (off n : Nat)
  | idxSlice (sz : Nat)
  | idxArr (len sz : Nat)
  | index1 (len : Nat)
  | indexN (len sz : Nat)
  | indexS
  | slice (sz : Nat) (lo hi mx : Bool)
  | sliceS (lo hi : Bool)
  | sliceA (n sz : Nat) (lo hi mx : Bool)
  | iop (op : BinOp)
  | sop (op : BinOp)
  | eqNil (nk : Nat) (neg : Bool)
  | eqB (neg : Bool)
  | eqAgg (neg : Bool) (ks : List Nat)
  | neg
  | notB
  | conv (k : IntKind)
  | mkFunc (fn : Fn) (nfirst : Nat)
  | mkIface (ty : TypeId)
  | mkMap
  | mkSlice (ty : TypeId) (sz : Nat) (zero : List Value)
  | lookup (kc : Nat) (zero : Value) (ok : Bool)
  | mapUpd (kc : Nat)
  | extract (i : Nat)
  | lenSl
  | lenStr
  | lenMap
  | lenArr (n : Nat)
  | append (ty : TypeId) (sz : Nat) (zero : List Value)
  | copy (sz : Nat)
  | maxI
  | minI
  | assertTo (ty : TypeId) (zero : Value)
  | rangeS
  | nextS
  | x (e : PX)
inductive Act1 where
  | prim (p : Prim)
  | call (f : FuncId)
  | dyn
  | recover
  | panic
  | defer
structure AOp where
  dst : Option Pos
  act : Act1
  args : List Opd
  guard : Option (Pos × Bool)
inductive DOp where
  | op (i : Nat) (o : AOp)
  | chk (i : Nat) (o : AOp)
inductive ACode where
  | skip
  | ops (l : List AOp)
  | draw (l : List DOp)
  | seq (a b : ACode)
  | cond (c : Opd) (a b : ACode)
  | block (id : Nat) (c : ACode)
  | loop (c : ACode)
  | rangeF (f : Opd) (params : List Pos) (assign body : ACode)
  | exit (id : Nat)
  | ret
inductive ARes where
  | tmp (p : Pos)
  | cell (p : Pos) (n : Option Nat)
structure AFn where
  ntmps : Nat
  results : List ARes
  code : ACode
  det : Bool
inductive ADef where
  | coll (r : Nat)
  | fn (f : FuncId) (args : List Value)
structure ALoop where
  state : LoopState
  pend : Option Code
  fn : FuncId
  tm : PT
  params : List Pos
  assign : ACode
  body : ACode
  defs : Nat
  nt : Nat
inductive AO where
  | cells (lo hi : Nat) (ty : TypeId) (rw : Bool) (c : NT Value)
  | map (es : List (Value × Value × Nat)) (clock : Nat)
  | loop (l : ALoop)
  | defs (taken : Bool)
  | siter (s : ByteArray) (pos : Nat)
  | miter (m : Option Nat) (since : Nat) (seen : List Nat) (last : Nat)
structure AH where
  nx : Nat
  ob : NT AO
def unk : Nat := 1180591620717411303424
inductive Mp where
  | live (b d n : Nat)
  | dead
abbrev Phi := Nat → Option Mp
inductive FnR (φ : Phi) : Fn → Fn → Prop where
  | func (f : FuncId) : FnR φ (.func f) (.func f)
  | method (s : String) : FnR φ (.method s) (.method s)
  | yield (l l' : Nat) (h : φ l ≠ none) (hl : ∀ b d n, φ l = some (.live b d n) → l' = b) : FnR φ (.yield l) (.yield l')
def AtR (φ : Phi) (a a' : Addr) : Prop := ∀ b d n, φ a.block = some (.live b d n) → a'.block = b ∧ a'.off + d = a.off ∧ a'.spot = none
def CapR (φ : Phi) (a a' : Addr) (len cap cap' : Nat) : Prop :=
  (cap < unk ∧ cap' = cap ∧ len ≤ cap ∧ (0 < cap → AtR φ a a')) ∨
  (∃ sz, cap = unk + sz ∧ 0 < sz ∧ len ≤ cap' ∧ (0 < cap' → AtR φ a a' ∧ ∀ b d n, φ a.block = some (.live b d n) → a'.off + cap' * sz ≤ n))
mutual
inductive VR (φ : Phi) : Value → Value → Prop where
  | bool (b : Bool) : VR φ (.bool b) (.bool b)
  | int (k : IntKind) (n : Int) : VR φ (.int k n) (.int k n)
  | str (s : ByteArray) : VR φ (.string s) (.string s)
  | nilp : VR φ (.pointer none) (.pointer none)
  | ptr (a a' : Addr) (h : φ a.block ≠ none) (ha : AtR φ a a') : VR φ (.pointer (some a)) (.pointer (some a'))
  | nils : VR φ (.slice none 0 0) (.slice none 0 0)
  | sl (a a' : Addr) (len cap cap' : Nat) (h : φ a.block ≠ none) (hc : CapR φ a a' len cap cap') : VR φ (.slice (some a) len cap) (.slice (some a') len cap')
  | nilm : VR φ (.map none) (.map none)
  | map (r r' : Nat) (h : φ r ≠ none) (hr : ∀ b d n, φ r = some (.live b d n) → r' = b) : VR φ (.map (some r)) (.map (some r'))
  | nilf : VR φ .nilFunc .nilFunc
  | func (fn fn' : Fn) (first first' capt capt' : Array Value) (hf : FnR φ fn fn') (h1 : LR φ first.toList first'.toList) (h2 : LR φ capt.toList capt'.toList) : VR φ (.func fn first capt) (.func fn' first' capt')
  | nili : VR φ .nilIface .nilIface
  | iface (t : TypeId) (v v' : Value) (h : VR φ v v') : VR φ (.iface t v) (.iface t v')
  | agg (cs cs' : Array Value) (h : LR φ cs.toList cs'.toList) : VR φ (.agg cs) (.agg cs')
  | tup (cs cs' : Array Value) (h : LR φ cs.toList cs'.toList) : VR φ (.tuple cs) (.tuple cs')
inductive LR (φ : Phi) : List Value → List Value → Prop where
  | nil : LR φ [] []
  | cons (v v' : Value) (l l' : List Value) (h : VR φ v v') (hl : LR φ l l') : LR φ (v :: l) (v' :: l')
end
structure Ext (N : Nat) (φ φ' : Phi) : Prop where
  old : ∀ f m, φ f = some m → φ' f = some m ∨ φ' f = some .dead
  out : ∀ f, f < N → φ f = none → φ' f = none
theorem Ext.refl (N : Nat) (φ : Phi) : Ext N φ φ := ⟨fun _ _ h => .inl h, fun _ _ h => h⟩
theorem Ext.trans {N N' : Nat} {φ φ' φ'' : Phi} (h : Ext N φ φ') (h' : Ext N' φ' φ'') (hN : N ≤ N') : Ext N φ φ'' := by
  refine ⟨fun f m hm => ?_, fun f hf hn => h'.out f (Nat.lt_of_lt_of_le hf hN) (h.out f hf hn)⟩
  rcases h.old f m hm with h1 | h1
  · exact h'.old f m h1
  · rcases h'.old f _ h1 with h2 | h2
    · exact .inr h2
    · exact .inr h2
theorem Ext.keep {N : Nat} {φ φ' : Phi} (h : Ext N φ φ') {f : Nat} (hf : φ f ≠ none) : φ' f ≠ none := by
  cases hm : φ f with
  | none => exact absurd hm hf
  | some m => rcases h.old f m hm with h1 | h1 <;> simp [h1]
theorem Ext.live {N : Nat} {φ φ' : Phi} (h : Ext N φ φ') {f b d n : Nat} (hf : φ f ≠ none) (hl : φ' f = some (.live b d n)) : φ f = some (.live b d n) := by
  cases hm : φ f with
  | none => exact absurd hm hf
  | some m =>
    rcases h.old f m hm with h1 | h1
    · rw [h1] at hl; exact hl
    · rw [h1] at hl; cases hl
theorem FnR.ext {N : Nat} {φ φ' : Phi} (h : Ext N φ φ') {f f' : Fn} (hf : FnR φ f f') : FnR φ' f f' := by
  cases hf with
  | func f => exact .func f
  | method s => exact .method s
  | yield l l' h1 h2 => exact .yield l l' (h.keep h1) (fun b d n hl => h2 b d n (h.live h1 hl))
theorem AtR.ext {N : Nat} {φ φ' : Phi} (h : Ext N φ φ') {a a' : Addr} (hs : φ a.block ≠ none) (ha : AtR φ a a') : AtR φ' a a' :=
  fun b d n hl => ha b d n (h.live hs hl)
theorem CapR.ext {N : Nat} {φ φ' : Phi} (h : Ext N φ φ') {a a' : Addr} {len cap cap' : Nat} (hs : φ a.block ≠ none) (ha : CapR φ a a' len cap cap') : CapR φ' a a' len cap cap' := by
  rcases ha with ⟨h1, h2, hl, h3⟩ | ⟨sz, h1, h2, h3, h4⟩
  · exact .inl ⟨h1, h2, hl, fun hp => (h3 hp).ext h hs⟩
  · exact .inr ⟨sz, h1, h2, h3, fun hp => ⟨(h4 hp).1.ext h hs, fun b d n hl => (h4 hp).2 b d n (h.live hs hl)⟩⟩
mutual
theorem VR.ext {N : Nat} {φ φ' : Phi} (h : Ext N φ φ') {v v' : Value} : VR φ v v' → VR φ' v v'
  | .bool b => .bool b
  | .int k n => .int k n
  | .str s => .str s
  | .nilp => .nilp
  | .ptr a a' h1 h2 => .ptr a a' (h.keep h1) (h2.ext h h1)
  | .nils => .nils
  | .sl a a' len cap cap' h1 h2 => .sl a a' len cap cap' (h.keep h1) (h2.ext h h1)
  | .nilm => .nilm
  | .map r r' h1 h2 => .map r r' (h.keep h1) (fun b d n hl => h2 b d n (h.live h1 hl))
  | .nilf => .nilf
  | .func fn fn' first first' capt capt' hf h1 h2 => .func fn fn' first first' capt capt' (hf.ext h) (LR.ext h h1) (LR.ext h h2)
  | .nili => .nili
  | .iface t v v' h1 => .iface t v v' (VR.ext h h1)
  | .agg cs cs' h1 => .agg cs cs' (LR.ext h h1)
  | .tup cs cs' h1 => .tup cs cs' (LR.ext h h1)
theorem LR.ext {N : Nat} {φ φ' : Phi} (h : Ext N φ φ') {l l' : List Value} : LR φ l l' → LR φ' l l'
  | .nil => .nil
  | .cons v v' l l' h1 h2 => .cons v v' l l' (VR.ext h h1) (LR.ext h h2)
end
theorem VR.undef (φ : Phi) : VR φ undef undef := .tup #[] #[] .nil
theorem LR.length {φ : Phi} : ∀ {l l' : List Value}, LR φ l l' → l.length = l'.length
  | _, _, .nil => rfl
  | _, _, .cons _ _ _ _ _ h => by simp [LR.length h]
theorem LR.append {φ : Phi} {m m' : List Value} (hm : LR φ m m') : ∀ {l l' : List Value}, LR φ l l' → LR φ (l ++ m) (l' ++ m')
  | _, _, .nil => hm
  | _, _, .cons v v' l l' h hl => .cons v v' _ _ h (LR.append hm hl)
theorem LR.get {φ : Phi} : ∀ {l l' : List Value}, LR φ l l' → ∀ (i : Nat) (v : Value), l[i]? = some v → ∃ v', l'[i]? = some v' ∧ VR φ v v'
  | _, _, .nil, i, v, h => by simp at h
  | _, _, .cons a a' l l' h hl, 0, v, e => by simp at e; subst e; exact ⟨a', by simp, h⟩
  | _, _, .cons a a' l l' h hl, i + 1, v, e => by
    simp at e
    obtain ⟨v', h1, h2⟩ := LR.get hl i v e
    exact ⟨v', by simpa using h1, h2⟩
theorem LR.of_get {φ : Phi} : ∀ {l l' : List Value}, l.length = l'.length → (∀ (i : Nat) (v v' : Value), l[i]? = some v → l'[i]? = some v' → VR φ v v') → LR φ l l'
  | [], [], _, _ => .nil
  | a :: l, a' :: l', hl, h => .cons a a' l l' (h 0 a a' (by simp) (by simp)) (LR.of_get (by simpa using hl) (fun i v v' e e' => h (i + 1) v v' (by simpa using e) (by simpa using e')))
  | [], _ :: _, hl, _ => by simp at hl
  | _ :: _, [], hl, _ => by simp at hl
theorem LR.drop {φ : Phi} : ∀ (n : Nat) {l l' : List Value}, LR φ l l' → LR φ (l.drop n) (l'.drop n)
  | 0, _, _, h => by simpa using h
  | n + 1, _, _, .nil => by simpa using LR.nil
  | n + 1, _, _, .cons _ _ _ _ _ h => by simpa using LR.drop n h
theorem LR.take {φ : Phi} : ∀ (n : Nat) {l l' : List Value}, LR φ l l' → LR φ (l.take n) (l'.take n)
  | 0, _, _, _ => by simpa using LR.nil
  | n + 1, _, _, .nil => by simpa using LR.nil
  | n + 1, _, _, .cons _ _ _ _ h hl => by simpa using LR.cons _ _ _ _ h (LR.take n hl)
theorem VR.cells {φ : Phi} {v v' : Value} (h : VR φ v v') : LR φ v.cells.toList v'.cells.toList := by
  cases h <;> simp only [Value.cells] <;> first
    | assumption
    | exact .cons _ _ _ _ (by constructor <;> assumption) .nil
def TR (φ : Phi) (t : PT) (n : Nat) (tm : Array Value) : Prop := n ≤ tm.size ∧ ∀ p : Pos, VR φ (t.get p) (tm.getD p.un undef)
def DR (φ : Phi) : ADef → Deferred → Prop
  | .coll r, d => φ r ≠ none ∧ ∃ r', d = { target := .collected r', args := #[] } ∧ ∀ b d n, φ r = some (.live b d n) → r' = b
  | .fn f args, d => ∃ capt args', d = { target := .fn (.func f) capt, args := args' } ∧ LR φ args (args' ++ capt).toList
inductive DL (φ : Phi) : List ADef → List Deferred → Prop where
  | nil : DL φ [] []
  | cons (d : ADef) (d' : Deferred) (l : List ADef) (l' : List Deferred) (h : DR φ d d') (hl : DL φ l l') : DL φ (d :: l) (d' :: l')
theorem DR.ext {N : Nat} {φ φ' : Phi} (h : Ext N φ φ') {d : ADef} {d' : Deferred} (hd : DR φ d d') : DR φ' d d' := by
  cases d with
  | coll r =>
    obtain ⟨h1, r', e, h2⟩ := hd
    exact ⟨h.keep h1, r', e, fun b d n hl => h2 b d n (h.live h1 hl)⟩
  | fn f args =>
    obtain ⟨capt, args', e, h1⟩ := hd
    exact ⟨capt, args', e, LR.ext h h1⟩
theorem DL.ext {N : Nat} {φ φ' : Phi} (h : Ext N φ φ') : ∀ {l : List ADef} {l' : List Deferred}, DL φ l l' → DL φ' l l'
  | _, _, .nil => .nil
  | _, _, .cons d d' l l' h1 h2 => .cons d d' l l' (h1.ext h) (DL.ext h h2)
theorem TR.ext {N : Nat} {φ φ' : Phi} (h : Ext N φ φ') {t : PT} {n : Nat} {tm : Array Value} (ht : TR φ t n tm) : TR φ' t n tm :=
  ⟨ht.1, fun p => VR.ext h (ht.2 p)⟩
theorem TR.set {φ : Phi} {t : PT} {n : Nat} {tm : Array Value} (ht : TR φ t n tm) (p : Pos) (hp : p.un < n) {v v' : Value} (hv : VR φ v v') :
    TR φ (t.set p v) n (tm.setIfInBounds p.un v') := by
  refine ⟨by simp [ht.1], fun q => ?_⟩
  rw [PT.get_set]
  by_cases h : q = p
  · subst h
    rw [if_pos rfl]
    have : q.un < tm.size := Nat.lt_of_lt_of_le hp ht.1
    simpa [Array.getD, this] using hv
  · rw [if_neg h]
    have hne : p.un ≠ q.un := fun e => h (Pos.un_inj e).symm
    have := ht.2 q
    simpa [Array.getD_eq_getD_getElem?, Array.getElem?_setIfInBounds_ne hne] using this
end Go.Ve
namespace Go.Ve
noncomputable section
abbrev KV := Value → AH → Bool
def fN (n : Nat) (k : Nat → Bool) : Bool := Nat.casesOn (motive := fun _ => Bool) n (k 0) (fun m => k (.succ m))
def fI (n : Int) (k : Int → Bool) : Bool := Int.casesOn (motive := fun _ => Bool) n (fun a => fN a fun a => k (.ofNat a)) (fun a => fN a fun a => k (.negSucc a))
def fB (b : Bool) (k : Bool → Bool) : Bool := Bool.casesOn (motive := fun _ => Bool) b (k false) (k true)
theorem fN_eq (n : Nat) (k : Nat → Bool) : fN n k = k n := by cases n <;> rfl
theorem fI_eq (n : Int) (k : Int → Bool) : fI n k = k n := by cases n <;> simp [fI, fN_eq]
theorem fB_eq (b : Bool) (k : Bool → Bool) : fB b k = k b := by cases b <;> rfl
def iff (c : Bool) (k : Bool) : Bool := Bool.casesOn (motive := fun _ => Bool) c false k
theorem iff_eq (c k : Bool) : iff c k = true ↔ c = true ∧ k = true := by cases c <;> simp [iff]
def eqI : Int → Int → Bool
  | .ofNat a, .ofNat b => Nat.beq a b
  | .negSucc a, .negSucc b => Nat.beq a b
  | _, _ => false
def ltI : Int → Int → Bool
  | .ofNat a, .ofNat b => Nat.ble (.succ a) b
  | .negSucc a, .negSucc b => Nat.ble (.succ b) a
  | .negSucc _, .ofNat _ => true
  | .ofNat _, .negSucc _ => false
def eqK : IntKind → IntKind → Bool
  | .i8, .i8 => true | .i16, .i16 => true | .i32, .i32 => true | .i64, .i64 => true
  | .u8, .u8 => true | .u16, .u16 => true | .u32, .u32 => true | .u64, .u64 => true
  | _, _ => false
def m63 : Nat := 9223372036854775807
def wrapQ (k : IntKind) (n : Int) : Int := match k with
  | .i64 => (match n with
    | .ofNat a => bif Nat.ble a m63 then n else IntKind.i64.wrap n
    | .negSucc a => bif Nat.ble a m63 then n else IntKind.i64.wrap n)
  | k => k.wrap n
def opAdd (k : IntKind) (x y : Int) (c : Value → Bool) : Bool := fI (wrapQ k (Int.add x y)) fun n => c (.int k n)
def opSub (k : IntKind) (x y : Int) (c : Value → Bool) : Bool := fI (wrapQ k (Int.sub x y)) fun n => c (.int k n)
def opMul (k : IntKind) (x y : Int) (c : Value → Bool) : Bool := fI (wrapQ k (Int.mul x y)) fun n => c (.int k n)
def opQuo (k : IntKind) (x y : Int) (c : Value → Bool) : Bool := bif eqI y (.ofNat 0) then false else fI (wrapQ k (Int.tdiv x y)) fun n => c (.int k n)
def opRem (k : IntKind) (x y : Int) (c : Value → Bool) : Bool := bif eqI y (.ofNat 0) then false else fI (Int.tmod x y) fun n => c (.int k n)
def opEql (_ : IntKind) (x y : Int) (c : Value → Bool) : Bool := fB (eqI x y) fun b => c (.bool b)
def opNeq (_ : IntKind) (x y : Int) (c : Value → Bool) : Bool := fB (!eqI x y) fun b => c (.bool b)
def opLss (_ : IntKind) (x y : Int) (c : Value → Bool) : Bool := fB (ltI x y) fun b => c (.bool b)
def opLeq (_ : IntKind) (x y : Int) (c : Value → Bool) : Bool := fB (!ltI y x) fun b => c (.bool b)
def opGtr (_ : IntKind) (x y : Int) (c : Value → Bool) : Bool := fB (ltI y x) fun b => c (.bool b)
def opGeq (_ : IntKind) (x y : Int) (c : Value → Bool) : Bool := fB (!ltI x y) fun b => c (.bool b)
def opAnd (k : IntKind) (x y : Int) (c : Value → Bool) : Bool := match k, x, y with
    | .u64, .ofNat a, .ofNat b => bif Nat.ble a 18446744073709551615 && Nat.ble b 18446744073709551615 then fN (Nat.land a b) fun n => c (.int .u64 (.ofNat n)) else false
    | _, _, _ => false
def opNo (_ : IntKind) (_ _ : Int) (_ : Value → Bool) : Bool := false
def iopE (op : BinOp) : IntKind → Int → Int → (Value → Bool) → Bool := match op with
  | .add => opAdd
  | .sub => opSub
  | .mul => opMul
  | .quo => opQuo
  | .rem => opRem
  | .eql => opEql
  | .neq => opNeq
  | .lss => opLss
  | .leq => opLeq
  | .gtr => opGtr
  | .geq => opGeq
  | .and => opAnd
  | _ => opNo
def shrE (k : IntKind) (x y : Int) (c : Value → Bool) : Bool := match k, x, y with
    | .u64, .ofNat a, .ofNat b => bif Nat.ble b 64 then fN (Nat.shiftRight a b) fun n => c (.int .u64 (.ofNat n)) else false
    | _, _, _ => false
def eqBs : List UInt8 → List UInt8 → Bool
  | [], [] => true
  | a :: l, b :: m => bif Nat.beq a.toNat b.toNat then eqBs l m else false
  | _, _ => false
def a0 (vs : List Value) (k : Bool) : Bool := List.casesOn (motive := fun _ => Bool) vs k (fun _ _ => false)
def a1 (vs : List Value) (k : Value → Bool) : Bool := List.casesOn (motive := fun _ => Bool) vs false (fun x vs => a0 vs (k x))
def a2 (vs : List Value) (k : Value → Value → Bool) : Bool := List.casesOn (motive := fun _ => Bool) vs false (fun x vs => a1 vs (k x))
def a3 (vs : List Value) (k : Value → Value → Value → Bool) : Bool := List.casesOn (motive := fun _ => Bool) vs false (fun x vs => a2 vs (k x))
def nthK (l : List Value) : Nat → (Value → Bool) → Bool :=
  List.rec (motive := fun _ => Nat → (Value → Bool) → Bool) (fun _ _ => false) (fun x _ ih n k => Nat.casesOn (motive := fun _ => Bool) n (k x) (fun n => ih n k)) l
def takeK (l : List Value) : Nat → (List Value → Bool) → Bool :=
  List.rec (motive := fun _ => Nat → (List Value → Bool) → Bool) (fun n k => Nat.casesOn (motive := fun _ => Bool) n (k []) (fun _ => false))
    (fun x _ ih n k => Nat.casesOn (motive := fun _ => Bool) n (k []) (fun n => ih n fun l' => k (x :: l'))) l
def dropK (l : List Value) : Nat → (List Value → Bool) → Bool :=
  List.rec (motive := fun _ => Nat → (List Value → Bool) → Bool) (fun n k => Nat.casesOn (motive := fun _ => Bool) n (k []) (fun _ => false))
    (fun x l ih n k => Nat.casesOn (motive := fun _ => Bool) n (k (x :: l)) (fun n => ih n k)) l
def overK (l : List Value) : List Value → (List Value → Bool) → Bool :=
  List.rec (motive := fun _ => List Value → (List Value → Bool) → Bool) (fun vs k => List.casesOn (motive := fun _ => Bool) vs (k []) (fun _ _ => false))
    (fun x l ih vs k => List.casesOn (motive := fun _ => Bool) vs (k (x :: l)) (fun v vs => ih vs fun l' => k (v :: l'))) l
def spliceK (l : List Value) : Nat → List Value → (List Value → Bool) → Bool :=
  List.rec (motive := fun _ => Nat → List Value → (List Value → Bool) → Bool) (fun n vs k => Nat.casesOn (motive := fun _ => Bool) n (overK [] vs k) (fun _ => false))
    (fun x l ih n vs k => Nat.casesOn (motive := fun _ => Bool) n (overK (x :: l) vs k) (fun n => ih n vs fun l' => k (x :: l'))) l
def lenEq (l : List Value) : Nat → Bool :=
  List.rec (motive := fun _ => Nat → Bool) (fun n => Nat.casesOn (motive := fun _ => Bool) n true (fun _ => false))
    (fun _ _ ih n => Nat.casesOn (motive := fun _ => Bool) n false (fun n => ih n)) l
def cellsOf (v : Value) : List Value := match v with
  | .agg ⟨l⟩ => l
  | v => [v]
def fillK (l : List Value) (ps : List (Nat × Nat)) : List Value → (List Value → Bool) → Bool :=
  List.rec (motive := fun _ => List Value → List Value → (List Value → Bool) → Bool)
    (fun l vs k => List.casesOn (motive := fun _ => Bool) vs (k l) (fun _ _ => false))
    (fun p _ ih l vs k => List.casesOn (motive := fun _ => Bool) vs false (fun v vs => Prod.casesOn (motive := fun _ => Bool) p fun off sz =>
      bif lenEq (cellsOf v) sz then spliceK l off (cellsOf v) fun l' => ih l' vs k else false)) ps l
def oneCell : Value → Bool
  | .agg _ => false
  | .tuple _ => false
  | _ => true
def allOne (l : List Value) : Bool :=
  List.rec (motive := fun _ => Bool) true (fun v _ ih => bif oneCell v then ih else false) l
def appL (l : List Value) (m : List Value) : (List Value → Bool) → Bool :=
  List.rec (motive := fun _ => (List Value → Bool) → Bool) (fun k => k m) (fun x _ ih k => ih fun l' => k (x :: l')) l
def layK (c : NT Value) (i : Nat) (l : List Value) : (NT Value → Bool) → Bool :=
  List.rec (motive := fun _ => NT Value → Nat → (NT Value → Bool) → Bool) (fun c _ k => k c)
    (fun v _ ih c i k => NT.setK (fuelOf i) c i (some v) fun c' => fN (Nat.succ i) fun i' => ih c' i' k) l c i
def readK (c : NT Value) (i : Nat) (n : Nat) : (List Value → Bool) → Bool :=
  Nat.rec (motive := fun _ => Nat → (List Value → Bool) → Bool) (fun _ k => k [])
    (fun _ ih i k => NT.getK c i fun v => fN (Nat.succ i) fun i' => ih i' fun l => k (v :: l)) n i
def obK (h : AH) (b : Nat) (k : AO → Bool) : Bool := AH.casesOn (motive := fun _ => Bool) h fun _ ob => NT.getK ob b k
def putK (h : AH) (b : Nat) (o : Option AO) (k : AH → Bool) : Bool := AH.casesOn (motive := fun _ => Bool) h fun nx ob => NT.setK (fuelOf b) ob b o fun ob' => k ⟨nx, ob'⟩
def newK (h : AH) (o : AO) (k : Nat → AH → Bool) : Bool := AH.casesOn (motive := fun _ => Bool) h fun nx ob => NT.setK (fuelOf nx) ob nx (some o) fun ob' => fN (Nat.succ nx) fun nx' => k nx ⟨nx', ob'⟩
def newCells (h : AH) (ty : TypeId) (l : List Value) (k : Nat → AH → Bool) : Bool :=
  iff (allOne l) (layK .e 0 l fun c => fN l.length fun n => newK h (.cells 0 n ty true c) k)
def cellsK (h : AH) (b : Nat) (k : Nat → Nat → TypeId → Bool → NT Value → Bool) : Bool :=
  obK h b fun o => AO.casesOn (motive := fun _ => Bool) o k (fun _ _ => false) (fun _ => false) (fun _ => false) (fun _ _ => false) (fun _ _ _ _ => false)
def mapK (h : AH) (b : Nat) (k : List (Value × Value × Nat) → Nat → Bool) : Bool :=
  obK h b fun o => AO.casesOn (motive := fun _ => Bool) o (fun _ _ _ _ _ => false) k (fun _ => false) (fun _ => false) (fun _ _ => false) (fun _ _ _ _ => false)
def loopK (h : AH) (b : Nat) (k : ALoop → Bool) : Bool :=
  obK h b fun o => AO.casesOn (motive := fun _ => Bool) o (fun _ _ _ _ _ => false) (fun _ _ => false) k (fun _ => false) (fun _ _ => false) (fun _ _ _ _ => false)
def defsK (h : AH) (b : Nat) (k : Bool → Bool) : Bool :=
  obK h b fun o => AO.casesOn (motive := fun _ => Bool) o (fun _ _ _ _ _ => false) (fun _ _ => false) (fun _ => false) k (fun _ _ => false) (fun _ _ _ _ => false)
def siterK (h : AH) (b : Nat) (k : ByteArray → Nat → Bool) : Bool :=
  obK h b fun o => AO.casesOn (motive := fun _ => Bool) o (fun _ _ _ _ _ => false) (fun _ _ => false) (fun _ => false) (fun _ => false) k (fun _ _ _ _ => false)
def miterK (h : AH) (b : Nat) (k : Option Nat → Nat → List Nat → Nat → Bool) : Bool :=
  obK h b fun o => AO.casesOn (motive := fun _ => Bool) o (fun _ _ _ _ _ => false) (fun _ _ => false) (fun _ => false) (fun _ => false) (fun _ _ => false) k
def readAt (h : AH) (b off n : Nat) (k : List Value → Bool) : Bool :=
  cellsK h b fun lo hi _ _ c => iff (Nat.ble lo off && Nat.ble (Nat.add off n) hi) (readK c off n k)
def read1 (h : AH) (b off : Nat) (k : Value → Bool) : Bool :=
  cellsK h b fun lo hi _ _ c => iff (Nat.ble lo off && Nat.ble (Nat.succ off) hi) (NT.getK c off k)
def writeAt (h : AH) (b off : Nat) (l : List Value) (k : AH → Bool) : Bool :=
  cellsK h b fun lo hi ty rw c => iff (rw && Nat.ble lo off && Nat.ble (Nat.add off l.length) hi && allOne l)
    (layK c off l fun c' => putK h b (some (.cells lo hi ty rw c')) k)
def no1 {α : Type} : α → Bool := fun _ => false
def ptrK (v : Value) (k : Nat → Nat → Bool) : Bool := match v with
  | .pointer (some a) => Addr.casesOn (motive := fun _ => Bool) a fun b o _ => k b o
  | _ => false
def aggK (v : Value) (k : List Value → Bool) : Bool := match v with
  | .agg a => Array.casesOn (motive := fun _ => Bool) a k
  | _ => false
def tupK1 (v : Value) (k : List Value → Bool) : Bool := match v with
  | .tuple a => Array.casesOn (motive := fun _ => Bool) a k
  | _ => false
def boolK (v : Value) (k : Bool → Bool) : Bool := match v with
  | .bool b => k b
  | _ => false
def intK (v : Value) (k : IntKind → Int → Bool) : Bool := match v with
  | .int kd n => k kd n
  | _ => false
def strK (v : Value) (k : ByteArray → Bool) : Bool := match v with
  | .string s => k s
  | _ => false
def slK (v : Value) (kn : Bool) (k : Nat → Nat → Nat → Nat → Bool) : Bool := match v with
  | .slice none _ _ => kn
  | .slice (some a) l c => Addr.casesOn (motive := fun _ => Bool) a fun b o _ => k b o l c
  | _ => false
def mpK (v : Value) (kn : Bool) (k : Nat → Bool) : Bool := match v with
  | .map none => kn
  | .map (some r) => k r
  | _ => false
def mkP (b o : Nat) : Value := .pointer (some ⟨b, o, none⟩)
def natK (v : Value) (k : Nat → Bool) : Bool := intK v fun _ n => Int.casesOn (motive := fun _ => Bool) n k no1
def optK (b : Bool) (vs : List Value) (d : Nat) (k : Nat → List Value → Bool) : Bool := Bool.casesOn (motive := fun _ => Bool) b (k d vs)
  (List.casesOn (motive := fun _ => Bool) vs false fun v vs => natK v fun n => k n vs)
def isNilV : Nat → Value → Option Bool
  | 0, .pointer none => some true
  | 0, .pointer (some _) => some false
  | 1, .slice none _ _ => some true
  | 1, .slice (some _) _ _ => some false
  | 2, .map none => some true
  | 2, .map (some _) => some false
  | 3, .nilFunc => some true
  | 3, .func _ _ _ => some false
  | 4, .nilIface => some true
  | 4, .iface _ _ => some false
  | _, _ => none
def eqScal : Nat → Value → Value → Option Bool
  | 0, .int k a, .int l b => bif eqK k l then some (eqI a b) else none
  | 1, .bool a, .bool b => some (bif a then b else !b)
  | 2, .string a, .string b => some (eqBs a.data.toList b.data.toList)
  | _, _, _ => none
def eqScals : List Nat → List Value → List Value → Option Bool
  | [], [], [] => some true
  | kc :: ks, a :: l, b :: m => match eqScal kc a b with
    | some true => eqScals ks l m
    | some false => some false
    | none => none
  | _, _, _ => none
def optBK (o : Option Bool) (ng : Bool) (k : Value → Bool) : Bool := match o with
  | some b => fB (bif ng then !b else b) fun b => k (.bool b)
  | none => false
def sliceCapK (sz l h m cap : Nat) (hasM : Bool) (b o : Nat) (k : Value → Bool) : Bool :=
  fN (Nat.sub h l) fun n =>
  bif Nat.ble unk cap && !hasM then
    fN (Nat.add o (Nat.mul l sz)) fun o' => k (.slice (some ⟨b, o', none⟩) n cap)
  else
    iff (Nat.ble (Nat.succ m) unk) (bif Nat.beq m l then k (.slice (some ⟨b, o, none⟩) n 0)
    else fN (Nat.add o (Nat.mul l sz)) fun o' => fN (Nat.sub m l) fun c => k (.slice (some ⟨b, o', none⟩) n c))
def findK (kc : Nat) : List (Value × Value × Nat) → Value → (Option Value → Bool) → Bool
  | [], _, k => k none
  | (a, v, _) :: es, x, k => match eqScal kc x a with
    | some true => k (some v)
    | some false => findK kc es x k
    | none => false
def updK (kc : Nat) : List (Value × Value × Nat) → Value → Value → Nat → (List (Value × Value × Nat) → Nat → Bool) → Bool
  | [], x, y, cl, k => fN (Nat.succ cl) fun cl' => k [(x, y, cl)] cl'
  | (a, v, b) :: es, x, y, cl, k => match eqScal kc x a with
    | some true => k ((x, y, b) :: es) cl
    | some false => updK kc es x y cl fun es' cl' => k ((a, v, b) :: es') cl'
    | none => false
def keyOk : Nat → Value → Bool
  | 0, .int _ _ => true
  | 1, .bool _ => true
  | 2, .string _ => true
  | _, _ => false
def repK (n : Nat) (zero : List Value) (k : List Value → Bool) : Bool :=
  Nat.rec (motive := fun _ => (List Value → Bool) → Bool) (fun k => k []) (fun _ ih k => ih fun l => appL zero l k) n k
def nilL (vs : List Value) : Bool := List.casesOn (motive := fun _ => Bool) vs true (fun _ _ => false)
def srcK (h : AH) (sz : Nat) (x : Value) (k : Nat → List Value → Bool) : Bool :=
  slK x (k 0 []) fun b o n _ => bif Nat.beq n 0 then k 0 [] else readAt h b o (Nat.mul n sz) fun l => k n l
def joinK (ss : List Nat) (vs : List Value) : (List Value → Bool) → Bool :=
  List.rec (motive := fun _ => List Value → (List Value → Bool) → Bool) (fun vs k => a0 vs (k []))
    (fun n _ ih vs k => List.casesOn (motive := fun _ => Bool) vs false fun v vs => iff (lenEq (cellsOf v) n) (ih vs fun l => appL (cellsOf v) l k)) ss vs
def nilOk : Value → Bool
  | .pointer none => false
  | .nilIface => false
  | .nilFunc => false
  | .func (.method _) _ _ => false
  | _ => true
def iopD (op : BinOp) (kx : IntKind) (a : Int) (ky : IntKind) (b : Int) (k : Value → Bool) : Bool := match op with
  | .shl => false
  | .shr => shrE kx a b k
  | op => iff (eqK kx ky) (iopE op kx a b k)
def sopD (op : BinOp) (a b : ByteArray) (k : Value → Bool) : Bool := match op with
  | .eql => fB (eqBs a.data.toList b.data.toList) fun b => k (.bool b)
  | .neq => fB (!eqBs a.data.toList b.data.toList) fun b => k (.bool b)
  | _ => false
def eqNilD (x y : Option Bool) (ng : Bool) (k : Value → Bool) : Bool := match x, y with
  | some true, some b => optBK (some b) ng k
  | some b, some true => optBK (some b) ng k
  | _, _ => false
def lookE (zero : Value) (ok : Bool) (h : AH) (k : KV) (o : Option Value) : Bool := match o, ok with
  | none, true => k (.tuple ⟨[zero, .bool false]⟩) h
  | none, false => k zero h
  | some v, true => k (.tuple ⟨[v, .bool true]⟩) h
  | some v, false => k v h
def appNil (h : AH) (ty : TypeId) (sz n : Nat) (xs : List Value) (k : KV) : Bool :=
  bif Nat.beq n 0 then k (.slice none 0 0) h else iff (Nat.ble n 1048576) (newCells h ty xs fun b h => fN (Nat.add unk sz) fun cp => k (.slice (some ⟨b, 0, none⟩) n cp) h)
def appUnk (h : AH) (ty : TypeId) (sz : Nat) (xs : List Value) (b o len cap need : Nat) (k : KV) : Bool :=
  iff (Nat.beq cap (Nat.add unk sz)) (cellsK h b fun lo hi ty' rw c =>
    iff (rw && Nat.beq ty' ty && Nat.ble lo o && Nat.ble (Nat.add o (Nat.mul len sz)) hi && allOne xs)
      (putK h b none fun h => fN (Nat.add o (Nat.mul len sz)) fun at_ => layK c at_ xs fun c' => fN (Nat.add o (Nat.mul need sz)) fun hi' =>
        newK h (.cells o hi' ty true c') fun b' h => k (.slice (some ⟨b', o, none⟩) need cap) h))
def appSome (h : AH) (ty : TypeId) (sz n : Nat) (xs : List Value) (k : KV) (b o len cap : Nat) : Bool :=
  bif Nat.beq n 0 then k (.slice (some ⟨b, o, none⟩) len cap) h else
  fN (Nat.add len n) fun need => iff (Nat.ble need 1048576) (
  bif Nat.ble unk cap then appUnk h ty sz xs b o len cap need k
  else bif Nat.ble need cap then
    fN (Nat.add o (Nat.mul len sz)) fun at_ => writeAt h b at_ xs fun h => k (.slice (some ⟨b, o, none⟩) need cap) h
  else bif Nat.beq len 0 then newCells h ty xs fun b' h => fN (Nat.add unk sz) fun cp => k (.slice (some ⟨b', 0, none⟩) need cp) h
  else readAt h b o (Nat.mul len sz) fun old => appL old xs fun l => newCells h ty l fun b' h => fN (Nat.add unk sz) fun cp => k (.slice (some ⟨b', 0, none⟩) need cp) h)
def assD (ty : TypeId) (zero : Value) (x : Value) (k : Value → Bool) : Bool := match x with
  | .nilIface => k (.tuple ⟨[zero, .bool false]⟩)
  | .iface t v => bif Nat.beq t ty then k (.tuple ⟨[v, .bool true]⟩) else k (.tuple ⟨[zero, .bool false]⟩)
  | _ => false
def nextD (h : AH) (b : Nat) (k : KV) (s : ByteArray) (pos : Nat) : Bool := match s.data.toList[pos]? with
  | some c => bif Nat.ble (Nat.succ c.toNat) 128 then (fN (Nat.succ pos) fun pos' => putK h b (some (.siter s pos')) fun h =>
      fN c.toNat fun n => k (.tuple ⟨[.bool true, .int .i64 (.ofNat pos), .int .i32 (.ofNat n)]⟩) h)
    else putK h b (some (.siter s (pos + (Utf8.decode s pos).2))) fun h => k (.tuple ⟨[.bool true, .int .i64 (.ofNat pos), .int .i32 (.ofNat (Utf8.decode s pos).1)]⟩) h
  | none => k (.tuple ⟨[.bool false]⟩) h
def ev_move (vs : List Value) (h : AH) (k : KV) : Bool := a1 vs fun x => k x h
def ev_pick (vs : List Value) (h : AH) (k : KV) : Bool := a3 vs fun c a b => boolK c fun t => Bool.casesOn (motive := fun _ => Bool) t (k b h) (k a h)
def ev_alloc (ty : TypeId) (zero : List Value) (vs : List Value) (h : AH) (k : KV) : Bool := a0 vs (newCells h ty zero fun b h => k (mkP b 0) h)
def ev_box (ty : TypeId) (vs : List Value) (h : AH) (k : KV) : Bool := a1 vs fun v => newCells h ty (cellsOf v) fun b h => k (mkP b 0) h
def ev_build (zero : List Value) (places : List (Nat × Nat)) (vs : List Value) (h : AH) (k : KV) : Bool := fillK zero places vs fun l => k (.agg ⟨l⟩) h
def ev_buildAll (sizes : List Nat) (vs : List Value) (h : AH) (k : KV) : Bool := joinK sizes vs fun l => k (.agg ⟨l⟩) h
def ev_buildSlice (ty : TypeId) (n : Nat) (cells : List Value) (places : List (Nat × Nat)) (vs : List Value) (h : AH) (k : KV) : Bool := fillK cells places vs fun l => newCells h ty l fun b h => k (.slice (some ⟨b, 0, none⟩) n n) h
def ev_load1 (vs : List Value) (h : AH) (k : KV) : Bool := a1 vs fun p => ptrK p fun b o => read1 h b o fun v => k v h
def ev_loadN (n : Nat) (vs : List Value) (h : AH) (k : KV) : Bool := a1 vs fun p => ptrK p fun b o => readAt h b o n fun l => k (.agg ⟨l⟩) h
def ev_store (n : Nat) (vs : List Value) (h : AH) (k : KV) : Bool := a2 vs fun p v => ptrK p fun b o => iff (lenEq (cellsOf v) n) (writeAt h b o (cellsOf v) fun h => k undef h)
def ev_nilCheck (vs : List Value) (h : AH) (k : KV) : Bool := a1 vs fun x => iff (nilOk x) (k x h)
def ev_fieldAddr (off : Nat) (vs : List Value) (h : AH) (k : KV) : Bool := a1 vs fun p => ptrK p fun b o => fN (Nat.add o off) fun o' => k (mkP b o') h
def ev_field1 (off : Nat) (vs : List Value) (h : AH) (k : KV) : Bool := a1 vs fun x => aggK x fun l => nthK l off fun v => k v h
def ev_fieldN (off n : Nat) (vs : List Value) (h : AH) (k : KV) : Bool := a1 vs fun x => aggK x fun l => dropK l off fun l => takeK l n fun l => k (.agg ⟨l⟩) h
def ev_idxSlice (sz : Nat) (vs : List Value) (h : AH) (k : KV) : Bool := a2 vs fun x i => natK i fun i => slK x false fun b o len _ => iff (Nat.ble (Nat.succ i) len) (fN (Nat.add o (Nat.mul i sz)) fun o' => k (mkP b o') h)
def ev_idxArr (len sz : Nat) (vs : List Value) (h : AH) (k : KV) : Bool := a2 vs fun x i => natK i fun i => ptrK x fun b o => iff (Nat.ble (Nat.succ i) len) (fN (Nat.add o (Nat.mul i sz)) fun o' => k (mkP b o') h)
def ev_index1 (len : Nat) (vs : List Value) (h : AH) (k : KV) : Bool := a2 vs fun x i => natK i fun i => aggK x fun l => iff (Nat.ble (Nat.succ i) len) (nthK l i fun v => k v h)
def ev_indexN (len sz : Nat) (vs : List Value) (h : AH) (k : KV) : Bool := a2 vs fun x i => natK i fun i => aggK x fun l => iff (Nat.ble (Nat.succ i) len) (dropK l (Nat.mul i sz) fun l => takeK l sz fun l => k (.agg ⟨l⟩) h)
def ev_indexS (vs : List Value) (h : AH) (k : KV) : Bool := a2 vs fun x i => natK i fun i => strK x fun s => (match s.data.toList[i]? with | some c => fN c.toNat fun n => k (.int .u8 (.ofNat n)) h | none => false)
def ev_slice (sz : Nat) (lo hi mx : Bool) (vs : List Value) (h : AH) (k : KV) : Bool := List.casesOn (motive := fun _ => Bool) vs false fun x vs => slK x
    (optK lo vs 0 fun l vs => optK hi vs 0 fun hh vs => iff (Nat.beq l 0 && Nat.beq hh 0 && !mx && nilL vs) (k (.slice none 0 0) h))
    fun b o len cap => optK lo vs 0 fun l vs => optK hi vs len fun hh vs => optK mx vs cap fun m vs =>
      iff (nilL vs && Nat.ble l hh && Nat.ble hh m && (Nat.ble hh len || !(Nat.ble unk cap)) && (bif mx then Nat.ble m (bif Nat.ble unk cap then len else cap) else true) && (bif Nat.ble unk cap then Nat.beq cap (Nat.add unk sz) else true))
        (sliceCapK sz l hh m cap mx b o fun v => k v h)
def ev_sliceS (lo hi : Bool) (vs : List Value) (h : AH) (k : KV) : Bool := iff (lo && hi && nilL vs && false) (k undef h)
def ev_sliceA (n sz : Nat) (lo hi mx : Bool) (vs : List Value) (h : AH) (k : KV) : Bool := List.casesOn (motive := fun _ => Bool) vs false fun x vs => ptrK x fun b o => optK lo vs 0 fun l vs => optK hi vs n fun hh vs => optK mx vs n fun m vs =>
      iff (nilL vs && Nat.ble l hh && Nat.ble hh m && Nat.ble m n) (sliceCapK sz l hh m n true b o fun v => k v h)
def ev_iop (op : BinOp) (vs : List Value) (h : AH) (k : KV) : Bool := a2 vs fun x y => intK x fun kx a => intK y fun ky b => iopD op kx a ky b fun v => k v h
def ev_sop (op : BinOp) (vs : List Value) (h : AH) (k : KV) : Bool := a2 vs fun x y => strK x fun a => strK y fun b => sopD op a b fun v => k v h
def ev_eqNil (nk : Nat) (ng : Bool) (vs : List Value) (h : AH) (k : KV) : Bool := a2 vs fun x y => eqNilD (isNilV nk x) (isNilV nk y) ng fun v => k v h
def ev_eqB (ng : Bool) (vs : List Value) (h : AH) (k : KV) : Bool := a2 vs fun x y => boolK x fun a => boolK y fun b => fB (bif ng then (bif a then !b else b) else (bif a then b else !b)) fun c => k (.bool c) h
def ev_eqAgg (ng : Bool) (ks : List Nat) (vs : List Value) (h : AH) (k : KV) : Bool := a2 vs fun x y => aggK x fun l => aggK y fun m => optBK (eqScals ks l m) ng fun v => k v h
def ev_neg (vs : List Value) (h : AH) (k : KV) : Bool := a1 vs fun x => intK x fun kd n => fI (wrapQ kd (Int.sub (.ofNat 0) n)) fun n => k (.int kd n) h
def ev_notB (vs : List Value) (h : AH) (k : KV) : Bool := a1 vs fun x => boolK x fun b => fB (!b) fun b => k (.bool b) h
def ev_conv (kd : IntKind) (vs : List Value) (h : AH) (k : KV) : Bool := a1 vs fun x => intK x fun _ n => fI (wrapQ kd n) fun n => k (.int kd n) h
def ev_mkFunc (fn : Fn) (nf : Nat) (vs : List Value) (h : AH) (k : KV) : Bool := takeK vs nf fun a => dropK vs nf fun b => k (.func fn ⟨a⟩ ⟨b⟩) h
def ev_mkIface (ty : TypeId) (vs : List Value) (h : AH) (k : KV) : Bool := a1 vs fun x => k (.iface ty x) h
def ev_mkMap (vs : List Value) (h : AH) (k : KV) : Bool := a0 vs (newK h (.map [] 0) fun b h => k (.map (some b)) h)
def ev_mkSlice (ty : TypeId) (sz : Nat) (zero : List Value) (vs : List Value) (h : AH) (k : KV) : Bool := a2 vs fun l c => natK l fun l => natK c fun c => iff (Nat.ble l c && Nat.ble c 65536 && lenEq zero sz) (repK c zero fun cs => newCells h ty cs fun b h => k (.slice (some ⟨b, 0, none⟩) l c) h)
def ev_lookup (kc : Nat) (zero : Value) (ok : Bool) (vs : List Value) (h : AH) (k : KV) : Bool := a2 vs fun m x => iff (keyOk kc x) (mpK m (lookE zero ok h k none) fun r => mapK h r fun es _ => findK kc es x (lookE zero ok h k))
def ev_mapUpd (kc : Nat) (vs : List Value) (h : AH) (k : KV) : Bool := a3 vs fun m x v => iff (keyOk kc x) (mpK m false fun r => mapK h r fun es cl => updK kc es x v cl fun es cl => putK h r (some (.map es cl)) fun h => k undef h)
def ev_extract (i : Nat) (vs : List Value) (h : AH) (k : KV) : Bool := a1 vs fun x => tupK1 x fun l => nthK l i fun v => k v h
def ev_lenSl (vs : List Value) (h : AH) (k : KV) : Bool := a1 vs fun x => slK x (k (.int .i64 (.ofNat 0)) h) fun _ _ n _ => k (.int .i64 (.ofNat n)) h
def ev_lenStr (vs : List Value) (h : AH) (k : KV) : Bool := a1 vs fun x => strK x fun s => fN s.data.toList.length fun n => k (.int .i64 (.ofNat n)) h
def ev_lenMap (vs : List Value) (h : AH) (k : KV) : Bool := a1 vs fun x => mpK x (k (.int .i64 (.ofNat 0)) h) fun r => mapK h r fun es _ => fN es.length fun n => k (.int .i64 (.ofNat n)) h
def ev_lenArr (n : Nat) (vs : List Value) (h : AH) (k : KV) : Bool := a1 vs fun _ => k (.int .i64 (.ofNat n)) h
def ev_append (ty : TypeId) (sz : Nat) (zero : List Value) (vs : List Value) (h : AH) (k : KV) : Bool := a2 vs fun s x => srcK h sz x fun n xs => iff (Nat.ble 1 sz && lenEq zero sz) (slK s (appNil h ty sz n xs k) (appSome h ty sz n xs k))
def ev_copy (sz : Nat) (vs : List Value) (h : AH) (k : KV) : Bool := a2 vs fun d s => slK d (slK s (k (.int .i64 (.ofNat 0)) h) fun _ _ _ _ => k (.int .i64 (.ofNat 0)) h) fun b o len _ => slK s (k (.int .i64 (.ofNat 0)) h) fun b' o' len' _ =>
      fN (bif Nat.ble len' len then len' else len) fun n => bif Nat.beq n 0 then k (.int .i64 (.ofNat 0)) h else
        readAt h b' o' (Nat.mul n sz) fun l => writeAt h b o l fun h => k (.int .i64 (.ofNat n)) h
def ev_maxI (vs : List Value) (h : AH) (k : KV) : Bool := a2 vs fun x y => intK x fun kx a => intK y fun ky b => iff (eqK kx ky) (bif ltI a b then k (.int kx b) h else k (.int kx a) h)
def ev_minI (vs : List Value) (h : AH) (k : KV) : Bool := a2 vs fun x y => intK x fun kx a => intK y fun ky b => iff (eqK kx ky) (bif ltI b a then k (.int kx b) h else k (.int kx a) h)
def ev_assertTo (ty : TypeId) (zero : Value) (vs : List Value) (h : AH) (k : KV) : Bool := a1 vs fun x => assD ty zero x fun v => k v h
def ev_rangeS (vs : List Value) (h : AH) (k : KV) : Bool := a1 vs fun x => strK x fun s => newK h (.siter s 0) fun b h => k (mkP b 0) h
def ev_nextS (vs : List Value) (h : AH) (k : KV) : Bool := a1 vs fun x => ptrK x fun b o => iff (Nat.beq o 0) (siterK h b (nextD h b k))
def appB (l m : List UInt8) : (List UInt8 → Bool) → Bool :=
  List.rec (motive := fun _ => (List UInt8 → Bool) → Bool) (fun k => k m) (fun x _ ih k => ih fun l' => k (x :: l')) l
def takeB (l : List UInt8) : Nat → (List UInt8 → Bool) → Bool :=
  List.rec (motive := fun _ => Nat → (List UInt8 → Bool) → Bool) (fun _ k => k [])
    (fun x _ ih n k => Nat.casesOn (motive := fun _ => Bool) n (k []) (fun n => ih n fun l' => k (x :: l'))) l
def dropB (l : List UInt8) : Nat → (List UInt8 → Bool) → Bool :=
  List.rec (motive := fun _ => Nat → (List UInt8 → Bool) → Bool) (fun _ k => k [])
    (fun x l ih n k => Nat.casesOn (motive := fun _ => Bool) n (k (x :: l)) (fun n => ih n k)) l
def ltBs : List UInt8 → List UInt8 → Bool
  | _, [] => false
  | [], _ :: _ => true
  | a :: l, b :: m => bif Nat.ble (Nat.succ a.toNat) b.toNat then true else bif Nat.beq a.toNat b.toNat then ltBs l m else false
def scmpD (op : BinOp) (a b : List UInt8) : Option Bool := match op with
  | .lss => some (ltBs a b)
  | .leq => some (ltBs a b || eqBs a b)
  | .gtr => some (!(ltBs a b || eqBs a b))
  | .geq => some (!ltBs a b)
  | _ => none
def ev_bad (_ : List Value) (_ : AH) (_ : KV) : Bool := false
def ev_cat (vs : List Value) (h : AH) (k : KV) : Bool := a2 vs fun x y => strK x fun a => strK y fun b =>
  iff (Nat.ble (Nat.add a.data.toList.length b.data.toList.length) 9223372036854775807) (appB a.data.toList b.data.toList fun l => k (.string ⟨⟨l⟩⟩) h)
def ev_scmp (op : BinOp) (vs : List Value) (h : AH) (k : KV) : Bool := a2 vs fun x y => strK x fun a => strK y fun b => optBK (scmpD op a.data.toList b.data.toList) false fun v => k v h
def ev_sub (lo hi : Bool) (vs : List Value) (h : AH) (k : KV) : Bool := List.casesOn (motive := fun _ => Bool) vs false fun x vs => strK x fun s =>
  optK lo vs 0 fun l vs => optK hi vs s.data.toList.length fun hh vs => iff (nilL vs && Nat.ble l hh && Nat.ble hh s.data.toList.length) (dropB s.data.toList l fun m => takeB m (Nat.sub hh l) fun m => k (.string ⟨⟨m⟩⟩) h)
def ev_capS (vs : List Value) (h : AH) (k : KV) : Bool := a1 vs fun x => slK x (k (.int .i64 (.ofNat 0)) h) fun _ _ _ c => iff (Nat.ble (Nat.succ c) unk) (k (.int .i64 (.ofNat c)) h)
def byK (l : List UInt8) : (List Value → Bool) → Bool :=
  List.rec (motive := fun _ => (List Value → Bool) → Bool) (fun k => k []) (fun c _ ih k => fN c.toNat fun n => ih fun l => k (.int .u8 (.ofNat n) :: l)) l
def ofByK (l : List Value) : (List UInt8 → Bool) → Bool :=
  List.rec (motive := fun _ => (List UInt8 → Bool) → Bool) (fun k => k []) (fun v _ ih k => intK v fun kd n => Int.casesOn (motive := fun _ => Bool) n (fun n => iff (eqK kd .u8 && Nat.ble (Nat.succ n) 256) (ih fun l => k (UInt8.ofNat n :: l))) no1) l
def ev_appStr (ty : TypeId) (zero : List Value) (vs : List Value) (h : AH) (k : KV) : Bool := a2 vs fun s x => strK x fun t => byK t.data.toList fun xs => fN xs.length fun n =>
  iff (lenEq zero 1) (slK s (appNil h ty 1 n xs k) (appSome h ty 1 n xs k))
def ev_toUns (vs : List Value) (h : AH) (k : KV) : Bool := a1 vs fun p => ptrK p fun b o => cellsK h b fun lo hi _ _ _ => iff (Nat.ble lo o && Nat.ble (Nat.succ o) hi) (k (mkP b o) h)
def memT (ty hi : Nat) : List (TypeId × Nat) → Bool
  | [] => false
  | (t, n) :: l => bif Nat.beq t ty && Nat.ble n hi then true else memT ty hi l
def ev_ofUns (l : List (TypeId × Nat)) (vs : List Value) (h : AH) (k : KV) : Bool := a1 vs fun p => ptrK p fun b o => cellsK h b fun lo hi ty _ _ => iff (Nat.beq lo 0 && Nat.beq o 0 && memT ty hi l) (k (mkP b o) h)
def ev_same (vs : List Value) (h : AH) (k : KV) : Bool := a1 vs fun p => k p h
def samePtr (x y : Value) : Bool := match x, y with
  | .pointer (some a), .pointer (some b) => Nat.beq a.block b.block && Nat.beq a.off b.off
  | _, _ => false
def ev_eqPtr (ng : Bool) (vs : List Value) (h : AH) (k : KV) : Bool := a2 vs fun x y => bif samePtr x y then ptrK x fun b _ => obK h b fun _ => fB (!ng) fun b => k (.bool b) h else eqNilD (isNilV 0 x) (isNilV 0 y) ng fun v => k v h
def ev_slData (vs : List Value) (h : AH) (k : KV) : Bool := a1 vs fun s => slK s (k (.pointer none) h) fun b o n _ => iff (Nat.ble 1 n) (k (mkP b o) h)
def unsStrD (ty : TypeId) (n : Nat) (h : AH) (k : KV) (a : Addr) : Bool := Addr.casesOn (motive := fun _ => Bool) a fun b o _ =>
  cellsK h b fun lo hi ty' rw c => iff (rw && Nat.beq ty' ty && Nat.ble lo o && Nat.ble (Nat.add o n) hi && Nat.ble n 1048576) (readK c o n fun l => ofByK l fun m => putK h b (some (.cells lo hi ty' false c)) fun h => k (.string ⟨⟨m⟩⟩) h)
def ev_unsStr (ty : TypeId) (vs : List Value) (h : AH) (k : KV) : Bool := a2 vs fun p n => natK n fun n => match p with
  | .pointer q => bif Nat.beq n 0 then k (.string ⟨⟨[]⟩⟩) h else Option.casesOn (motive := fun _ => Bool) q false (unsStrD ty n h k)
  | _ => false
def countB (l : List UInt8) (c : Nat) : Nat := List.rec (motive := fun _ => Nat) 0 (fun b _ ih => bif Nat.beq b.toNat c then Nat.succ ih else ih) l
def idxB (c : Nat) : List UInt8 → Nat → (Int → Bool) → Bool
  | [], _, k => k (.negSucc 0)
  | b :: l, i, k => bif Nat.beq b.toNat c then k (.ofNat i) else fN (Nat.succ i) fun i => idxB c l i k
def ev_countS (vs : List Value) (h : AH) (k : KV) : Bool := a2 vs fun s c => strK s fun s => intK c fun kd n => Int.casesOn (motive := fun _ => Bool) n (fun n => iff (eqK kd .u8 && Nat.ble (Nat.succ n) 256) (fN (countB s.data.toList n) fun n => k (.int .i64 (.ofNat n)) h)) no1
def ev_idxS (vs : List Value) (h : AH) (k : KV) : Bool := a2 vs fun s c => strK s fun s => intK c fun kd n => Int.casesOn (motive := fun _ => Bool) n (fun n => iff (eqK kd .u8 && Nat.ble (Nat.succ n) 256) (idxB n s.data.toList 0 fun i => k (.int .i64 i) h)) no1
def ev_rangeM (vs : List Value) (h : AH) (k : KV) : Bool := a1 vs fun m => mpK m (newK h (.miter none 0 [] 0) fun b h => k (mkP b 0) h) fun r => mapK h r fun _ cl => newK h (.miter (some r) cl [] cl) fun b h => k (mkP b 0) h
def memN (l : List Nat) (n : Nat) : Bool := List.rec (motive := fun _ => Bool) false (fun m _ ih => bif Nat.beq m n then true else ih) l
def snocK (l : List Nat) (n : Nat) : (List Nat → Bool) → Bool :=
  List.rec (motive := fun _ => (List Nat → Bool) → Bool) (fun k => k [n]) (fun x _ ih k => ih fun l' => k (x :: l')) l
def unseenK (es : List (Value × Value × Nat)) (since : Nat) (seen : List Nat) : (List (Value × Value × Nat) → Bool) → Bool :=
  List.rec (motive := fun _ => (List (Value × Value × Nat) → Bool) → Bool) (fun k => k []) (fun e _ ih k => iff (Nat.ble (Nat.succ e.2.2) since) (bif memN seen e.2.2 then ih k else ih fun l => k (e :: l))) es
def allC (go : Value → Value → Nat → Bool) : List (Value × Value × Nat) → Bool
  | [] => true
  | [(a, v, n)] => go a v n
  | (a, v, n) :: l => iff (go a v n) (allC go l)
def nextM1 (h : AH) (b r since : Nat) (seen : List Nat) (k : KV) (a v : Value) (n : Nat) : Bool :=
  snocK seen n fun seen' => putK h b (some (.miter (some r) since seen' since)) fun h => k (.tuple ⟨[.bool true, a, v]⟩) h
def nextM2 (h : AH) (b r since : Nat) (seen : List Nat) (k : KV) (l : List (Value × Value × Nat)) : Bool := match l with
  | [] => putK h b none fun h => k (.tuple ⟨[.bool false]⟩) h
  | l => allC (nextM1 h b r since seen k) l
def ev_nextM (vs : List Value) (h : AH) (k : KV) : Bool := a1 vs fun p => ptrK p fun b o => iff (Nat.beq o 0) (miterK h b fun m since seen last => Option.casesOn (motive := fun _ => Bool) m (k (.tuple ⟨[.bool false]⟩) h) fun r =>
  mapK h r fun es cl => iff (Nat.beq cl since && Nat.beq last since) (unseenK es since seen (nextM2 h b r since seen k)))
def lastK (l : List Nat) (k : Nat → Bool) : Bool := match l with
  | [] => false
  | [n] => k n
  | _ :: l => lastK l k
def bornK (es : List (Value × Value × Nat)) (n : Nat) (k : Value → Value → Bool) : Bool := match es with
  | [] => false
  | (a, v, b) :: es => bif Nat.beq b n then k a v else bornK es n k
def ev_entry (vs : List Value) (h : AH) (k : KV) : Bool := a1 vs fun p => ptrK p fun b o => iff (Nat.beq o 0) (miterK h b fun m _ seen last => Option.casesOn (motive := fun _ => Bool) m false fun r =>
  mapK h r fun es cl => iff (Nat.beq cl last) (lastK seen fun n => bornK es n fun a v => k (.tuple ⟨[a, v]⟩) h))
def PX.ev (p : PX) : List Value → AH → KV → Bool := PX.casesOn (motive := fun _ => List Value → AH → KV → Bool) p ev_bad ev_cat ev_scmp ev_sub ev_capS
  ev_appStr ev_toUns ev_ofUns ev_same ev_eqPtr ev_slData ev_unsStr ev_countS ev_idxS ev_rangeM ev_nextM ev_entry
def Prim.ev (p : Prim) : List Value → AH → KV → Bool := Prim.casesOn (motive := fun _ => List Value → AH → KV → Bool) p
  ev_move ev_pick ev_alloc ev_box ev_build ev_buildAll ev_buildSlice ev_load1 ev_loadN ev_store ev_nilCheck ev_fieldAddr ev_field1 ev_fieldN ev_idxSlice ev_idxArr ev_index1 ev_indexN ev_indexS ev_slice ev_sliceS ev_sliceA ev_iop ev_sop ev_eqNil ev_eqB ev_eqAgg ev_neg ev_notB ev_conv ev_mkFunc ev_mkIface ev_mkMap ev_mkSlice ev_lookup ev_mapUpd ev_extract ev_lenSl ev_lenStr ev_lenMap ev_lenArr ev_append ev_copy ev_maxI ev_minI ev_assertTo ev_rangeS ev_nextS PX.ev
inductive AX where
  | normal
  | exit (id : Nat)
  | ret
  | pan (v : Value)
inductive Rc where
  | off
  | can (v : Value)
  | did
structure St where
  tm : PT
  df : List ADef
  rc : Rc
  h : AH
structure Env where
  fn : FuncId
  nt : Nat
  rnd : Option Nat
inductive CR where
  | ret (v : Value)
  | pan (v : Value)
abbrev KS := AX → St → Bool
inductive Task where
  | code (c : ACode) (e : Env) (s : St) (k : KS)
  | call (f : FuncId) (args : List Value) (h : AH) (k : CR → AH → Bool)
  | dcall (f : FuncId) (args : List Value) (rc : Rc) (h : AH) (k : Rc → AH → Bool)
  | round (l : Nat) (args : List Value) (h : AH) (k : CR → AH → Bool)
  | leave (ds : List ADef) (m : Option Value) (h : AH) (k : Option Value → AH → Bool)
def opdK (o : Opd) (t : PT) (k : Value → Bool) : Bool := Opd.casesOn (motive := fun _ => Bool) o (fun p => PT.getK p t k) k
def argsK (l : List Opd) (t : PT) : (List Value → Bool) → Bool :=
  List.rec (motive := fun _ => (List Value → Bool) → Bool) (fun k => k []) (fun o _ ih k => opdK o t fun v => ih fun vs => k (v :: vs)) l
def putD (d : Option Pos) (s : St) (v : Value) (h : AH) (k : St → Bool) : Bool := St.casesOn (motive := fun _ => Bool) s fun tm df rc _ =>
  Option.casesOn (motive := fun _ => Bool) d (k ⟨tm, df, rc, h⟩) (fun p => PT.setK p tm v fun tm' => k ⟨tm', df, rc, h⟩)
def eqBB (a b : Bool) : Bool := Bool.casesOn (motive := fun _ => Bool) a (Bool.casesOn (motive := fun _ => Bool) b true false) b
def guard1 (want : Bool) (yes no : Bool) (v : Value) : Bool := match v with
  | .bool b => bif eqBB b want then yes else no
  | _ => no
def guardK (g : Option (Pos × Bool)) (t : PT) (yes no : Bool) : Bool :=
  Option.casesOn (motive := fun _ => Bool) g yes fun pw => Prod.casesOn (motive := fun _ => Bool) pw fun p want => PT.getK p t (guard1 want yes no)
def retK (dst : Option Pos) (s : St) (fail : KS) (k : St → Bool) (r : CR) (h : AH) : Bool :=
  CR.casesOn (motive := fun _ => Bool) r (fun v => putD dst s v h k) (fun v => St.casesOn (motive := fun _ => Bool) s fun tm df rc _ => fail (.pan v) ⟨tm, df, rc, h⟩)
def actPrim (_rec : Task → Bool) (dst : Option Pos) (_ : Env) (s : St) (_ : KS) (k : St → Bool) (vs : List Value) (p : Prim) : Bool :=
  p.ev vs s.h fun v h => putD dst s v h k
def actCall (rec : Task → Bool) (dst : Option Pos) (_ : Env) (s : St) (fail : KS) (k : St → Bool) (vs : List Value) (f : FuncId) : Bool :=
  rec (.call f vs s.h (retK dst s fail k))
def funcK (v : Value) (kf : Nat → List Value → List Value → Bool) (ky : Nat → Bool) : Bool := match v with
  | .func (.func g) ⟨first⟩ ⟨capt⟩ => kf g first capt
  | .func (.yield l) ⟨[]⟩ ⟨[]⟩ => ky l
  | _ => false
def actDyn (rec : Task → Bool) (dst : Option Pos) (_ : Env) (s : St) (fail : KS) (k : St → Bool) (vs : List Value) : Bool :=
  List.casesOn (motive := fun _ => Bool) vs false fun f as => funcK f
    (fun g first capt => appL as capt fun l => appL first l fun l => rec (.call g l s.h (retK dst s fail k)))
    (fun l => rec (.round l as s.h (retK dst s fail k)))
def actRecover (dst : Option Pos) (e : Env) (s : St) (k : St → Bool) (vs : List Value) : Bool := match e.rnd, vs with
  | none, [] => (match s.rc with
    | .can v => putD dst ⟨s.tm, s.df, .did, s.h⟩ v s.h k
    | _ => putD dst s .nilIface s.h k)
  | _, _ => false
def actPanic (s : St) (fail : KS) (vs : List Value) : Bool := a1 vs fun v => match v with
  | .iface t x => fail (.pan (.iface t x)) s
  | _ => false
def actDefer (dst : Option Pos) (e : Env) (s : St) (k : St → Bool) (vs : List Value) : Bool := match e.rnd, vs with
  | none, f :: as => funcK f (fun g first capt => appL as capt fun l => appL first l fun l => putD dst ⟨s.tm, .fn g l :: s.df, s.rc, s.h⟩ undef s.h k) no1
  | _, _ => false
def actK (rec : Task → Bool) (act : Act1) (dst : Option Pos) (e : Env) (s : St) (fail : KS) (k : St → Bool) (vs : List Value) : Bool :=
  Act1.casesOn (motive := fun _ => Bool) act (actPrim rec dst e s fail k vs) (actCall rec dst e s fail k vs) (actDyn rec dst e s fail k vs)
    (actRecover dst e s k vs) (actPanic s fail vs) (actDefer dst e s k vs)
def opK (rec : Task → Bool) (o : AOp) (e : Env) (s : St) (fail : KS) (k : St → Bool) : Bool :=
  AOp.casesOn (motive := fun _ => Bool) o fun dst act args g => guardK g s.tm (argsK args s.tm (actK rec act dst e s fail k)) (putD dst s undef s.h k)
def opsK (rec : Task → Bool) (l : List AOp) (e : Env) (s : St) (k : KS) : Bool :=
  List.rec (motive := fun _ => St → Bool) (fun s => k .normal s) (fun o _ ih s => opK rec o e s k ih) l s
def valEq0 : Value → Value → Bool
  | .bool a, .bool b => bif a then b else !b
  | .int k a, .int l b => bif eqK k l then eqI a b else false
  | .string a, .string b => eqBs a.data.toList b.data.toList
  | .pointer none, .pointer none => true
  | .pointer (some a), .pointer (some b) => Nat.beq a.block b.block && Nat.beq a.off b.off
  | .slice none l c, .slice none m d => Nat.beq l m && Nat.beq c d
  | .slice (some a) l c, .slice (some b) m d => Nat.beq a.block b.block && Nat.beq a.off b.off && Nat.beq l m && Nat.beq c d
  | .map none, .map none => true
  | .map (some a), .map (some b) => Nat.beq a b
  | .nilFunc, .nilFunc => true
  | .nilIface, .nilIface => true
  | _, _ => false
def valEqL0 : List Value → List Value → Bool
  | [], [] => true
  | a :: l, b :: m => valEq0 a b && valEqL0 l m
  | _, _ => false
def valEq1 : Value → Value → Bool
  | .func (.func f) ⟨a⟩ ⟨b⟩, .func (.func g) ⟨c⟩ ⟨d⟩ => Nat.beq f g && valEqL0 a c && valEqL0 b d
  | a, b => valEq0 a b
def valEqL : List Value → List Value → Bool
  | [], [] => true
  | a :: l, b :: m => valEq1 a b && valEqL l m
  | _, _ => false
def valEq (a b : Value) : Bool := match a, b with
  | .agg ⟨l⟩, .agg ⟨m⟩ => valEqL l m
  | .tuple ⟨l⟩, .tuple ⟨m⟩ => valEqL l m
  | a, b => valEq1 a b
def Prim.fresh (p : Prim) (vs : List Value) (k : TypeId → List Value → Bool) : Bool := match p with
  | .alloc ty zero => a0 vs (k ty zero)
  | .box ty => a1 vs fun v => k ty (cellsOf v)
  | .buildSlice ty _ cells places => fillK cells places vs fun l => k ty l
  | _ => false
def Prim.makes : Prim → Bool
  | .alloc _ _ => true
  | .box _ => true
  | .buildSlice _ _ _ _ => true
  | _ => false
def blockOf (v : Value) (k : Nat → Bool) : Bool := match v with
  | .pointer (some ⟨b, o, _⟩) => iff (Nat.beq o 0) (k b)
  | .slice (some ⟨b, o, _⟩) _ _ => iff (Nat.beq o 0) (k b)
  | _ => false
def chkMade (s : St) (v : Value) (ty : TypeId) (l : List Value) : Bool :=
  blockOf v fun b => cellsK s.h b fun lo hi ty' rw c => iff (rw && Nat.beq lo 0 && Nat.beq hi l.length && Nat.beq ty ty') (readK c 0 l.length fun m => valEqL m l)
def chkVal (v : Value) (v' : Value) (_ : AH) : Bool := valEq v' v
def chkPrim (dst : Option Pos) (s : St) (vs : List Value) (p : Prim) : Bool :=
  Option.casesOn (motive := fun _ => Bool) dst false fun d => PT.getK d s.tm fun v => bif p.makes then p.fresh vs (chkMade s v) else p.ev vs s.h (chkVal v)
def chkK (o : AOp) (s : St) : Bool :=
  AOp.casesOn (motive := fun _ => Bool) o fun dst act args g => guardK g s.tm (argsK args s.tm fun vs =>
    Act1.casesOn (motive := fun _ => Bool) act (chkPrim dst s vs) no1 false false false false) true
def drawK (rec : Task → Bool) (l : List DOp) (e : Env) (s : St) (k : KS) : Bool :=
  List.rec (motive := fun _ => St → Bool) (fun s => k .normal s)
    (fun d _ ih s => DOp.casesOn (motive := fun _ => Bool) d (fun _ o => opK rec o e s k ih) (fun _ o => iff (chkK o s) (ih s))) l s
def setAll (ps : List Pos) (vs : List Value) (t : PT) (k : PT → Bool) : Bool :=
  List.rec (motive := fun _ => List Value → PT → Bool) (fun vs t => a0 vs (k t)) (fun p _ ih vs t => List.casesOn (motive := fun _ => Bool) vs false fun v vs => PT.setK p t v fun t => ih vs t) ps vs t
def layArgs (i : Nat) (vs : List Value) (t : PT) (k : PT → Bool) : Bool :=
  List.rec (motive := fun _ => Nat → PT → Bool) (fun _ t => k t) (fun v _ ih i t => PT.setK (Pos.of i) t v fun t => ih (.succ i) t) vs i t
def resK (rs : List ARes) (t : PT) (h : AH) (k : List Value → Bool) : Bool := match rs with
  | [] => k []
  | .tmp p :: rs => PT.getK p t fun v => resK rs t h fun vs => k (v :: vs)
  | .cell p none :: rs => PT.getK p t fun v => ptrK v fun b o => read1 h b o fun x => resK rs t h fun vs => k (x :: vs)
  | .cell p (some n) :: rs => PT.getK p t fun v => ptrK v fun b o => readAt h b o n fun l => resK rs t h fun vs => k (.agg ⟨l⟩ :: vs)
def tupK (vs : List Value) (k : Value → Bool) : Bool := match vs with
  | [v] => k v
  | vs => k (.tuple ⟨vs⟩)
def thenK (rec : Task → Bool) (b : ACode) (e : Env) (k : KS) (x : AX) (s : St) : Bool := AX.casesOn (motive := fun _ => Bool) x (rec (.code b e s k)) (fun id => k (.exit id) s) (k .ret s) (fun v => k (.pan v) s)
def stSeq (rec : Task → Bool) (e : Env) (s : St) (k : KS) (a b : ACode) : Bool := rec (.code a e s (thenK rec b e k))
def stCond (rec : Task → Bool) (e : Env) (s : St) (k : KS) (c : Opd) (a b : ACode) : Bool :=
  opdK c s.tm fun v => boolK v fun t => Bool.casesOn (motive := fun _ => Bool) t (rec (.code b e s k)) (rec (.code a e s k))
def blockK (id : Nat) (k : KS) (x : AX) (s : St) : Bool := AX.casesOn (motive := fun _ => Bool) x (k .normal s) (fun j => bif Nat.beq j id then k .normal s else k (.exit j) s) (k .ret s) (fun v => k (.pan v) s)
def stBlock (rec : Task → Bool) (e : Env) (s : St) (k : KS) (id : Nat) (c : ACode) : Bool := rec (.code c e s (blockK id k))
def stLoop (rec : Task → Bool) (e : Env) (s : St) (k : KS) (c : ACode) : Bool := rec (.code c e s (thenK rec (.loop c) e k))
def ALoop.upd (r : ALoop) (st : LoopState) (j : Option Code) : ALoop := ALoop.casesOn (motive := fun _ => ALoop) r fun _ _ fn tm ps a b d nt => ⟨st, j, fn, tm, ps, a, b, d, nt⟩
def jumpK (s : St) (df : List ADef) (k : KS) (j : Option Code) (h : AH) : Bool := match j with
  | none => k .normal ⟨s.tm, df, s.rc, h⟩
  | some .ret => k .ret ⟨s.tm, df, s.rc, h⟩
  | some (.exit id) => k (.exit id) ⟨s.tm, df, s.rc, h⟩
  | _ => false
def notBusy : LoopState → Bool
  | .busy => false
  | _ => true
def isReady : LoopState → Bool
  | .ready => true
  | _ => false
def rangeBack (s : St) (df : List ADef) (k : KS) (l : Nat) (r : CR) (h : AH) : Bool := CR.casesOn (motive := fun _ => Bool) r
  (fun _ => loopK h l fun r => iff (notBusy r.state) (putK h l (some (.loop (r.upd .exhausted r.pend))) (jumpK s df k r.pend)))
  (fun v => k (.pan v) ⟨s.tm, df, s.rc, h⟩)
def rangeGo (rec : Task → Bool) (e : Env) (s : St) (k : KS) (params : List Pos) (assign body : ACode) (g : Nat) (first capt : List Value) (h : AH) (dl : Nat) (df : List ADef) : Bool :=
  newK h (.loop ⟨.ready, none, e.fn, s.tm, params, assign, body, dl, e.nt⟩) fun l h =>
    appL first (.func (.yield l) ⟨[]⟩ ⟨[]⟩ :: capt) fun args => rec (.call g args h (rangeBack s df k l))
def stRange (rec : Task → Bool) (e : Env) (s : St) (k : KS) (f : Opd) (params : List Pos) (assign body : ACode) : Bool :=
  opdK f s.tm fun fv => funcK fv (fun g first capt => match e.rnd with
    | none => newK s.h (.defs false) fun r h => rangeGo rec e s k params assign body g first capt h r (.coll r :: s.df)
    | some l => loopK s.h l fun r => rangeGo rec e s k params assign body g first capt s.h r.defs s.df) no1
def stCode (rec : Task → Bool) (c : ACode) (e : Env) (s : St) (k : KS) : Bool := ACode.casesOn (motive := fun _ => Bool) c
  (k .normal s) (fun l => opsK rec l e s k) (fun l => drawK rec l e s k) (stSeq rec e s k) (stCond rec e s k) (stBlock rec e s k) (stLoop rec e s k) (stRange rec e s k)
  (fun id => k (.exit id) s) (k .ret s)
def leftK (results : List ARes) (tm : PT) (k : CR → AH → Bool) (m : Option Value) (h : AH) : Bool := match m with
  | none => resK results tm h fun vs => tupK vs fun v => k (.ret v) h
  | some v => k (.pan v) h
def leftP (results : List ARes) (k : CR → AH → Bool) (m : Option Value) (h : AH) : Bool := match m with
  | none => (match results with | [] => k (.ret (.tuple ⟨[]⟩)) h | _ => false)
  | some v => k (.pan v) h
def endK (rec : Task → Bool) (results : List ARes) (k : CR → AH → Bool) (x : AX) (s : St) : Bool := AX.casesOn (motive := fun _ => Bool) x
  (rec (.leave s.df none s.h (leftK results s.tm k))) no1 (rec (.leave s.df none s.h (leftK results s.tm k))) (fun v => rec (.leave s.df (some v) s.h (leftP results k)))
def keep1 (v : Value) : List Nat := match v with
  | .slice (some a) _ _ => [a.block]
  | .map (some r) => [r]
  | .pointer (some a) => [a.block]
  | _ => []
def keepL : List Value → List Nat
  | [] => []
  | v :: l => keep1 v ++ keepL l
def keepOf (v : Value) : List Nat := match v with
  | .tuple ⟨l⟩ => keepL l
  | v => keep1 v
def killK (keep : List Nat) (n : Nat) : Nat → AH → (AH → Bool) → Bool :=
  Nat.rec (motive := fun _ => Nat → AH → (AH → Bool) → Bool) (fun _ h k => k h)
    (fun _ ih b h k => fN (Nat.succ b) fun b' => bif memN keep b then ih b' h k else putK h b none fun h => ih b' h k) n
def jnK (h0 : AH) (k : CR → AH → Bool) (v : Value) (h : AH) : Bool := match keepOf v with
  | [] => iff (k (.ret v) h) true
  | keep => fN (Nat.sub h.nx h0.nx) fun n => fN h0.nx fun b => killK keep n b h fun h => iff (k (.ret v) h) true
def jn (det : Bool) (h0 : AH) (k : CR → AH → Bool) : CR → AH → Bool := bif det then fun r h => CR.casesOn (motive := fun _ => Bool) r (fun v => jnK h0 k v h) (fun v => k (.pan v) h) else k
abbrev Sums := List (FuncId × (List Value → AH → (CR → AH → Bool) → Bool))
def stCall0 (prog : NT AFn) (rec : Task → Bool) (f : FuncId) (args : List Value) (h : AH) (k : CR → AH → Bool) : Bool :=
  NT.getK prog f fun fn => AFn.casesOn (motive := fun _ => Bool) fn fun nt results code det => layArgs 0 args .e fun tm =>
    rec (.code code ⟨f, nt, none⟩ ⟨tm, [], .off, h⟩ (endK rec results (jn det h k)))
def stCall (prog : NT AFn) (sums : Sums) (rec : Task → Bool) (f : FuncId) (args : List Value) (h : AH) (k : CR → AH → Bool) : Bool := match sums with
  | [] => stCall0 prog rec f args h k
  | (g, S) :: l => bif Nat.beq g f then S args h k else stCall prog l rec f args h k
def dnil (df : List ADef) (k : Bool) : Bool := match df with
  | [] => k
  | _ => false
def dendK (k : Rc → AH → Bool) (x : AX) (s : St) : Bool := match x with
  | .normal => dnil s.df (k s.rc s.h)
  | .ret => dnil s.df (k s.rc s.h)
  | _ => false
def stDcall (prog : NT AFn) (rec : Task → Bool) (f : FuncId) (args : List Value) (rc : Rc) (h : AH) (k : Rc → AH → Bool) : Bool :=
  NT.getK prog f fun fn => AFn.casesOn (motive := fun _ => Bool) fn fun nt results code _ => List.casesOn (motive := fun _ => Bool) results (layArgs 0 args .e fun tm =>
    rec (.code code ⟨f, nt, none⟩ ⟨tm, [], rc, h⟩ (dendK k))) fun _ _ => false
def settleK (rec : Task → Bool) (ds : List ADef) (k : Option Value → AH → Bool) (rc : Rc) (h : AH) : Bool := match rc with
  | .did => rec (.leave ds none h k)
  | .can v => rec (.leave ds (some v) h k)
  | .off => false
def stLeave (rec : Task → Bool) (ds : List ADef) (m : Option Value) (h : AH) (k : Option Value → AH → Bool) : Bool := match ds with
  | [] => k m h
  | .coll r :: ds => defsK h r fun t => iff (!t) (putK h r (some (.defs true)) fun h => rec (.leave ds m h k))
  | .fn f args :: ds => (match m with
      | none => rec (.dcall f args .off h fun _ h => rec (.leave ds none h k))
      | some v => rec (.dcall f args (.can v) h (settleK rec ds k)))
def roundFin (l : Nat) (h : AH) (k : CR → AH → Bool) (j : Option Code) (st : LoopState) (b : Bool) : Bool :=
  loopK h l fun r => putK h l (some (.loop (r.upd st j))) fun h => k (.ret (.bool b)) h
def roundEnd (l : Nat) (k : CR → AH → Bool) (x : AX) (s : St) : Bool := dnil s.df (match x with
  | .normal => roundFin l s.h k none .ready true
  | .ret => roundFin l s.h k (some .ret) .done false
  | .exit id => roundFin l s.h k (some (.exit id)) .done false
  | .pan _ => false)
def roundMid (rec : Task → Bool) (l : Nat) (r0 : ALoop) (k : CR → AH → Bool) (x : AX) (s : St) : Bool := match x with
  | .normal => loopK s.h l fun r => iff (isReady r.state) (putK s.h l (some (.loop (r.upd .busy r.pend))) fun h =>
      rec (.code r0.body ⟨r0.fn, r0.nt, some l⟩ ⟨s.tm, s.df, s.rc, h⟩ (roundEnd l k)))
  | _ => false
def stRound (rec : Task → Bool) (l : Nat) (args : List Value) (h : AH) (k : CR → AH → Bool) : Bool :=
  loopK h l fun r => setAll r.params args r.tm fun tm => rec (.code r.assign ⟨r.fn, r.nt, some l⟩ ⟨tm, [], .off, h⟩ (roundMid rec l r k))
def stepT (prog : NT AFn) (sums : Sums) (rec : Task → Bool) (t : Task) : Bool := Task.casesOn (motive := fun _ => Bool) t
  (stCode rec) (stCall prog sums rec) (stDcall prog rec) (stRound rec) (stLeave rec)
def ev (prog : NT AFn) (sums : Sums) (n : Nat) : Task → Bool :=
  Nat.rec (motive := fun _ => Task → Bool) (fun _ => false) (fun _ ih t => stepT prog sums ih t) n
theorem ev_succ (prog : NT AFn) (sums : Sums) (n : Nat) (t : Task) : ev prog sums (n + 1) t = stepT prog sums (ev prog sums n) t := rfl
end
end Go.Ve
