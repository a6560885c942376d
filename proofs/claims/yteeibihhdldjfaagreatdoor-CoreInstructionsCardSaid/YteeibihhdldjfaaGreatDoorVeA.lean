/- Part 1: VEval, part 1: the data: tries, abstract heap, what it is for an abstract value, object, heap to stand for a real one. Over any program; no condition. And what follows it. -/
import Derived.AtR
import Derived.Orders
import Derived.Below
import Derived.Defers
import Derived.RangeFuncRecord
import Derived.RangeFuncIn
set_option linter.unusedVariables false
set_option linter.unusedSimpArgs false
namespace Go.Ve
open Go.RowKit
inductive Pos where
 | xH
 | xO (p : Pos)
 | xI (p : Pos)
 deriving DecidableEq, Inhabited, Repr
def Pos.un : Pos → Nat
 | .xH => 0
 | .xO p => 2 * p.un + 1
 | .xI p => 2 * p.un + 2
theorem Pos.sH : ∀ {p q : Pos}, p.un = q.un → p = q
 | .xH, .xH, _ => rfl
 | .xH, .xO q, h => by simp [Pos.un] at h
 | .xH, .xI q, h => by simp [Pos.un] at h
 | .xO p, .xH, h => by simp [Pos.un] at h
 | .xI p, .xH, h => by simp [Pos.un] at h
 | .xO p, .xO q, h => by
  have h' : 2 * p.un + 1 = 2 * q.un + 1 := h
  rw [Pos.sH (show p.un = q.un by omega)]
 | .xI p, .xI q, h => by
  have h' : 2 * p.un + 2 = 2 * q.un + 2 := h
  rw [Pos.sH (show p.un = q.un by omega)]
 | .xO p, .xI q, h => by
  have h' : 2 * p.un + 1 = 2 * q.un + 2 := h
  omega
 | .xI p, .xO q, h => by
  have h' : 2 * p.un + 2 = 2 * q.un + 1 := h
  omega
def Pos.beq : Pos → Pos → Bool
 | .xH, .xH => true
 | .xO p, .xO q => p.beq q
 | .xI p, .xI q => p.beq q
 | _, _ => false
theorem Pos.beq_iff : ∀ {p q : Pos}, p.beq q = true ↔ p = q
 | .xH, .xH => by simp [Pos.beq]
 | .xO p, .xO q => by simp [Pos.beq, Pos.beq_iff (p := p) (q := q)]
 | .xI p, .xI q => by simp [Pos.beq, Pos.beq_iff (p := p) (q := q)]
 | .xH, .xO _ => by simp [Pos.beq]
 | .xH, .xI _ => by simp [Pos.beq]
 | .xO _, .xH => by simp [Pos.beq]
 | .xI _, .xH => by simp [Pos.beq]
 | .xO _, .xI _ => by simp [Pos.beq]
 | .xI _, .xO _ => by simp [Pos.beq]
def Pos.Ah : Nat → Nat → Pos
 | 0, _ => .xH
 | f + 1, n => if n = 0 then .xH else if n % 2 = 1 then .xO (Pos.Ah f (n / 2)) else .xI (Pos.Ah f (n / 2 - 1))
def Pos.of (n : Nat) : Pos := Pos.Ah n n
theorem Pos.adf : ∀ (f n : Nat), n ≤ f → (Pos.Ah f n).un = n := by
  intro f
  induction f with
  | zero => intro n h; have : n = 0 := by omega
            subst this; rfl
  | succ f ih =>
    intro n h
    unfold Pos.Ah
    split
    · subst_vars; rfl
    · split
      · simp only [Pos.un]; rw [ih _ (by omega)]; omega
      · simp only [Pos.un]; rw [ih _ (by omega)]; omega
theorem Pos.lf (n : Nat) : (Pos.of n).un = n := Pos.adf n n (Nat.le_refl _)
inductive PT where
 | e
 | n (l : PT) (v : Value) (r : PT)
def PT.get : PT → Pos → Value
 | .e, _ => undef
 | .n _ v _, .xH => v
 | .n l _ _, .xO p => l.get p
 | .n _ _ r, .xI p => r.get p
noncomputable def PT.dH (p : Pos) : PT → (Value → Bool) → Bool :=
 Pos.rec (motive := fun _ => PT → (Value → Bool) → Bool)
  (fun t k => PT.casesOn (motive := fun _ => Bool) t (k undef) (fun _ v _ => k v))
  (fun _ ih t k => PT.casesOn (motive := fun _ => Bool) t (k undef) (fun l _ _ => ih l k))
  (fun _ ih t k => PT.casesOn (motive := fun _ => Bool) t (k undef) (fun _ _ r => ih r k)) p
theorem PT.jU : ∀ (p : Pos) (t : PT) (k : Value → Bool), PT.dH p t k = k (t.get p)
 | .xH, .e, k => rfl
 | .xH, .n _ _ _, k => rfl
 | .xO p, .e, k => rfl
 | .xO p, .n l _ _, k => PT.jU p l k
 | .xI p, .e, k => rfl
 | .xI p, .n _ _ r, k => PT.jU p r k
def PT.set : PT → Pos → Value → PT
 | .e, .xH, v => .n .e v .e
 | .n l _ r, .xH, v => .n l v r
 | .e, .xO p, v => .n (PT.set .e p v) undef .e
 | .n l u r, .xO p, v => .n (PT.set l p v) u r
 | .e, .xI p, v => .n .e undef (PT.set .e p v)
 | .n l u r, .xI p, v => .n l u (PT.set r p v)
noncomputable def PT.gL (p : Pos) : PT → Value → (PT → Bool) → Bool :=
 Pos.rec (motive := fun _ => PT → Value → (PT → Bool) → Bool)
  (fun t v k => PT.casesOn (motive := fun _ => Bool) t (k (.n .e v .e)) (fun l _ r => k (.n l v r)))
  (fun _ ih t v k => PT.casesOn (motive := fun _ => Bool) t (ih .e v fun l => k (.n l undef .e)) (fun l u r => ih l v fun l' => k (.n l' u r)))
  (fun _ ih t v k => PT.casesOn (motive := fun _ => Bool) t (ih .e v fun r => k (.n .e undef r)) (fun l u r => ih r v fun r' => k (.n l u r'))) p
theorem PT.lL : ∀ (p : Pos) (t : PT) (v : Value) (k : PT → Bool), PT.gL p t v k = k (t.set p v)
 | .xH, .e, v, k => rfl
 | .xH, .n l _ r, v, k => rfl
 | .xO p, .e, v, k => PT.lL p _ _ _
 | .xO p, .n l u r, v, k => PT.lL p _ _ _
 | .xI p, .e, v, k => PT.lL p _ _ _
 | .xI p, .n l u r, v, k => PT.lL p _ _ _
theorem PT.T4 (p : Pos) : PT.get .e p = undef := by cases p <;> rfl
theorem PT.dc : ∀ (p : Pos) (t : PT) (v : Value) (q : Pos), (t.set p v).get q = if q = p then v else t.get q
 | .xH, .e, v, q => by cases q <;> simp [PT.set, PT.get]
 | .xH, .n l u r, v, q => by cases q <;> simp [PT.set, PT.get]
 | .xO p, .e, v, q => by cases q <;> simp [PT.set, PT.get, PT.dc p]
 | .xO p, .n l u r, v, q => by cases q <;> simp [PT.set, PT.get, PT.dc p]
 | .xI p, .e, v, q => by cases q <;> simp [PT.set, PT.get, PT.dc p]
 | .xI p, .n l u r, v, q => by cases q <;> simp [PT.set, PT.get, PT.dc p]
inductive NT (α : Type) where
 | e
 | n (l : NT α) (v : Option α) (r : NT α)
def NT.get {α : Type} : NT α → Nat → Option α
 | .e, _ => none
 | .n l v r, i => bif Nat.beq i 0 then v else bif Nat.beq (Nat.mod i 2) 1 then l.get (Nat.div i 2) else r.get (Nat.pred (Nat.div i 2))
noncomputable def NT.dH {α : Type} (t : NT α) : Nat → (α → Bool) → Bool :=
 NT.rec (motive := fun _ => Nat → (α → Bool) → Bool) (fun _ _ => false)
  (fun _ v _ il ir i k => Nat.rec (motive := fun _ => Bool) (Option.rec (motive := fun _ => Bool) false (fun x => k x) v)
   (fun _ _ => Bool.rec (motive := fun _ => Bool) (ir (Nat.pred (Nat.div i 2)) k) (il (Nat.div i 2) k) (Nat.beq (Nat.mod i 2) 1)) i) t
theorem NT.LV {α : Type} (l : NT α) (v : Option α) (r : NT α) (i : Nat) (k : α → Bool) : (NT.n l v r).dH i k =
 bif Nat.beq i 0 then (match v with | some x => k x | none => false) else bif Nat.beq (Nat.mod i 2) 1 then l.dH (Nat.div i 2) k else r.dH (Nat.pred (Nat.div i 2)) k := by
 cases i with
 | zero => cases v <;> rfl
 | succ i =>
  show Bool.rec (motive := fun _ => Bool) (r.dH (Nat.pred (Nat.div (i + 1) 2)) k) (l.dH (Nat.div (i + 1) 2) k) (Nat.beq (Nat.mod (i + 1) 2) 1) = bif false then _ else _
  cases Nat.beq (Nat.mod (i + 1) 2) 1 <;> rfl
theorem NT.uN {α : Type} : ∀ (t : NT α) (i : Nat) (k : α → Bool), t.dH i k = true → ∃ x, t.get i = some x ∧ k x = true
 | .e, i, k, h => by cases h
 | .n l v r, i, k, h => by
  rw [NT.LV] at h
  rw [NT.get]
  cases h0 : Nat.beq i 0 with
  | true =>
   rw [h0] at h
   cases v with
   | none => simp at h
   | some x => exact ⟨x, rfl, by simpa using h⟩
  | false =>
   cases h1 : Nat.beq (Nat.mod i 2) 1 with
   | true => rw [h0, h1] at h; exact NT.uN l _ k (by simpa using h)
   | false => rw [h0, h1] at h; exact NT.uN r _ k (by simpa using h)
noncomputable def NT.gL {α : Type} (f : Nat) : NT α → Nat → Option α → (NT α → Bool) → Bool :=
 Nat.rec (motive := fun _ => NT α → Nat → Option α → (NT α → Bool) → Bool) (fun _ _ _ _ => false)
  (fun _ ih t i v k => Nat.rec (motive := fun _ => Bool)
   (NT.casesOn (motive := fun _ => Bool) t (k (.n .e v .e)) (fun l _ r => k (.n l v r)))
   (fun _ _ => Bool.rec (motive := fun _ => Bool)
    (NT.casesOn (motive := fun _ => Bool) t (ih .e (Nat.pred (Nat.div i 2)) v (fun r => k (.n .e none r))) (fun l u r => ih r (Nat.pred (Nat.div i 2)) v (fun r' => k (.n l u r'))))
    (NT.casesOn (motive := fun _ => Bool) t (ih .e (Nat.div i 2) v (fun l => k (.n l none .e))) (fun l u r => ih l (Nat.div i 2) v (fun l' => k (.n l' u r))))
    (Nat.beq (Nat.mod i 2) 1)) i) f
theorem NT.sI {α : Type} (f : Nat) (t : NT α) (i : Nat) (v : Option α) (k : NT α → Bool) : NT.gL (f + 1) t i v k =
 bif Nat.beq i 0 then
  (match t with | .e => k (.n .e v .e) | .n l _ r => k (.n l v r))
 else bif Nat.beq (Nat.mod i 2) 1 then
  (match t with | .e => NT.gL f .e (Nat.div i 2) v (fun l => k (.n l none .e)) | .n l u r => NT.gL f l (Nat.div i 2) v (fun l' => k (.n l' u r)))
 else
  (match t with | .e => NT.gL f .e (Nat.pred (Nat.div i 2)) v (fun r => k (.n .e none r)) | .n l u r => NT.gL f r (Nat.pred (Nat.div i 2)) v (fun r' => k (.n l u r'))) := by
 cases i with
 | zero => cases t <;> rfl
 | succ i =>
  cases h : Nat.beq (Nat.mod (i + 1) 2) 1 <;> cases t <;> simp only [NT.gL, h] <;> rfl
def NT.iT {α : Type} (t : NT α) (i : Nat) (v : Option α) (t' : NT α) : Prop := t'.get i = v ∧ ∀ j, j ≠ i → t'.get j = t.get j
theorem LW {α : Type} {c : Bool} {a b : α} (h : c = true) : (bif c then a else b) = a := by subst h; rfl
theorem xG {α : Type} {c : Bool} {a b : α} (h : c = false) : (bif c then a else b) = b := by subst h; rfl
theorem kG {a b : Nat} (h : a = b) : Nat.beq a b = true := by subst h; exact Nat.beq_refl a
theorem fg {a b : Nat} (h : a ≠ b) : Nat.beq a b = false := by
 cases h' : Nat.beq a b with
 | false => rfl
 | true => exact absurd (Nat.eq_of_beq_eq_true h') h
theorem T5 (j : Nat) : Nat.mod (2 * j + 1) 2 = 1 := by show (2 * j + 1) % 2 = 1; omega
theorem T6 (j : Nat) : Nat.mod (2 * j + 2) 2 ≠ 1 := by show (2 * j + 2) % 2 ≠ 1; omega
theorem T7 (j : Nat) : Nat.div (2 * j + 1) 2 = j := by show (2 * j + 1) / 2 = j; omega
theorem T9 (j : Nat) : Nat.pred (Nat.div (2 * j + 2) 2) = j := by show Nat.pred ((2 * j + 2) / 2) = j; simp only [Nat.pred_eq_sub_one]; omega
theorem NT.nI {α : Type} (l : NT α) (v : Option α) (r : NT α) (j : Nat) : (NT.n l v r).get (2 * j + 1) = l.get j := by
 rw [NT.get, xG (fg (by omega)), LW (kG (T5 j)), T7]
theorem NT.nJ {α : Type} (l : NT α) (v : Option α) (r : NT α) (j : Nat) : (NT.n l v r).get (2 * j + 2) = r.get j := by
 rw [NT.get, xG (fg (by omega)), xG (fg (T6 j)), T9]
theorem NT.sJ (i : Nat) : i = 0 ∨ (∃ j, i = 2 * j + 1) ∨ (∃ j, i = 2 * j + 2) := by
 by_cases h : i = 0
 · exact .inl h
 · by_cases h2 : i % 2 = 1
   · exact .inr (.inl ⟨i / 2, by omega⟩)
   · exact .inr (.inr ⟨i / 2 - 1, by omega⟩)
def oE (i : Nat) : Nat := Nat.succ (Nat.log2 (Nat.succ i))
def NT.oF {α : Type} : Nat → NT α → Nat → Option α → NT α
 | 0, t, _, _ => t
 | f + 1, t, i, v => bif Nat.beq i 0 then (match t with | .e => .n .e v .e | .n l _ r => .n l v r)
  else bif Nat.beq (Nat.mod i 2) 1 then (match t with | .e => .n (NT.oF f .e (Nat.div i 2) v) none .e | .n l u r => .n (NT.oF f l (Nat.div i 2) v) u r)
  else (match t with | .e => .n .e none (NT.oF f .e (Nat.pred (Nat.div i 2)) v) | .n l u r => .n l u (NT.oF f r (Nat.pred (Nat.div i 2)) v))
def NT.set {α : Type} (t : NT α) (i : Nat) (v : Option α) : NT α := NT.oF (oE i) t i v
theorem adg {i : Nat} (h : i ≠ 0) : Nat.log2 (Nat.succ (Nat.div i 2)) < Nat.log2 (Nat.succ i) ∨ Nat.mod i 2 ≠ 1 := by
 by_cases h1 : Nat.mod i 2 = 1
 · left
   have h2 : i + 1 ≥ 2 := by omega
   rw [Nat.log2_def (i + 1), if_pos h2]
   have : (i + 1) / 2 = Nat.succ (Nat.div i 2) := by
    show (i + 1) / 2 = i / 2 + 1
    have hZ : i % 2 = 1 := h1
    omega
   rw [this]; exact Nat.lt_succ_self _
 · exact .inr h1
theorem adh {i : Nat} (h : i ≠ 0) (h1 : Nat.mod i 2 ≠ 1) : Nat.log2 (Nat.succ (Nat.pred (Nat.div i 2))) < Nat.log2 (Nat.succ i) := by
 have h2 : i + 1 ≥ 2 := by omega
 rw [show Nat.succ i = i + 1 from rfl, Nat.log2_def (i + 1), if_pos h2]
 have : (i + 1) / 2 = Nat.succ (Nat.pred (Nat.div i 2)) := by
  show (i + 1) / 2 = Nat.pred (i / 2) + 1
  have hZ : ¬ i % 2 = 1 := h1
  rw [Nat.pred_eq_sub_one]
  omega
 rw [this]; exact Nat.lt_succ_self _
theorem NT.adi {α : Type} : ∀ (f : Nat) (t : NT α) (i : Nat) (v : Option α) (k : NT α → Bool), Nat.log2 (Nat.succ i) < f → NT.gL f t i v k = k (NT.oF f t i v) := by
 intro f
 induction f with
 | zero => intro t i v k h; exact absurd h (Nat.not_lt_zero _)
 | succ f ih =>
  intro t i v k h
  cases h0 : Nat.beq i 0 with
  | true => cases t <;> (rw [NT.sI, NT.oF]; simp only [h0, cond_true])
  | false =>
   have hi : i ≠ 0 := fun e => by subst e; cases h0
   cases h1 : Nat.beq (Nat.mod i 2) 1 with
   | true =>
    have hm : Nat.mod i 2 = 1 := Nat.eq_of_beq_eq_true h1
    have hl : Nat.log2 (Nat.succ (Nat.div i 2)) < f := by
     rcases adg hi with h2 | h2
     · omega
     · exact absurd hm h2
    cases t with
    | e => rw [NT.sI, NT.oF]; simp only [h0, h1, cond_true, cond_false]; exact ih .e _ v _ hl
    | n l u r => rw [NT.sI, NT.oF]; simp only [h0, h1, cond_true, cond_false]; exact ih l _ v _ hl
   | false =>
    have hm : Nat.mod i 2 ≠ 1 := fun e => by rw [e] at h1; cases h1
    have hl : Nat.log2 (Nat.succ (Nat.pred (Nat.div i 2))) < f := by have := adh hi hm; omega
    cases t with
    | e => rw [NT.sI, NT.oF]; simp only [h0, h1, cond_false]; exact ih .e _ v _ hl
    | n l u r => rw [NT.sI, NT.oF]; simp only [h0, h1, cond_false]; exact ih r _ v _ hl
theorem NT.lL {α : Type} (t : NT α) (i : Nat) (v : Option α) (k : NT α → Bool) : NT.gL (oE i) t i v k = k (t.set i v) := NT.adi _ _ _ _ _ (Nat.lt_succ_self _)
theorem NT.FI {α : Type} : ∀ (f : Nat) (t : NT α) (i : Nat) (v : Option α) (k : NT α → Bool), NT.gL f t i v k = true → ∃ t', t.iT i v t' ∧ k t' = true := by
 intro f
 induction f with
 | zero => intro t i v k h; cases h
 | succ f ih =>
  intro t i v k h
  rcases NT.sJ i with rfl | ⟨j, rfl⟩ | ⟨j, rfl⟩
  · rw [NT.sI] at h
    rw [LW (kG rfl)] at h
    cases t with
    | e =>
     refine ⟨_, ⟨rfl, fun q hq => ?_⟩, h⟩
     rcases NT.sJ q with rfl | ⟨q, rfl⟩ | ⟨q, rfl⟩
     · exact absurd rfl hq
     · rw [NT.nI]; rfl
     · rw [NT.nJ]; rfl
    | n l u r =>
     refine ⟨_, ⟨rfl, fun q hq => ?_⟩, h⟩
     rcases NT.sJ q with rfl | ⟨q, rfl⟩ | ⟨q, rfl⟩
     · exact absurd rfl hq
     · rw [NT.nI, NT.nI]
     · rw [NT.nJ, NT.nJ]
  · rw [NT.sI] at h
    rw [xG (fg (by omega)), LW (kG (T5 j)), T7] at h
    cases t with
    | e =>
     obtain ⟨t', ⟨h1, h2⟩, h3⟩ := ih _ _ _ _ h
     refine ⟨_, ⟨by rw [NT.nI]; exact h1, fun q hq => ?_⟩, h3⟩
     rcases NT.sJ q with rfl | ⟨q, rfl⟩ | ⟨q, rfl⟩
     · rfl
     · rw [NT.nI, h2 q (by omega)]; rfl
     · rw [NT.nJ]; rfl
    | n l u r =>
     obtain ⟨t', ⟨h1, h2⟩, h3⟩ := ih _ _ _ _ h
     refine ⟨_, ⟨by rw [NT.nI]; exact h1, fun q hq => ?_⟩, h3⟩
     rcases NT.sJ q with rfl | ⟨q, rfl⟩ | ⟨q, rfl⟩
     · rfl
     · rw [NT.nI, h2 q (by omega), NT.nI]
     · rw [NT.nJ, NT.nJ]
  · rw [NT.sI] at h
    rw [xG (fg (by omega)), xG (fg (T6 j)), T9] at h
    cases t with
    | e =>
     obtain ⟨t', ⟨h1, h2⟩, h3⟩ := ih _ _ _ _ h
     refine ⟨_, ⟨by rw [NT.nJ]; exact h1, fun q hq => ?_⟩, h3⟩
     rcases NT.sJ q with rfl | ⟨q, rfl⟩ | ⟨q, rfl⟩
     · rfl
     · rw [NT.nI]; rfl
     · rw [NT.nJ, h2 q (by omega)]; rfl
    | n l u r =>
     obtain ⟨t', ⟨h1, h2⟩, h3⟩ := ih _ _ _ _ h
     refine ⟨_, ⟨by rw [NT.nJ]; exact h1, fun q hq => ?_⟩, h3⟩
     rcases NT.sJ q with rfl | ⟨q, rfl⟩ | ⟨q, rfl⟩
     · rfl
     · rw [NT.nI, NT.nI]
     · rw [NT.nJ, h2 q (by omega), NT.nJ]
theorem NT.Ua {α : Type} (t : NT α) (i : Nat) (v : Option α) : t.iT i v (t.set i v) := by
 classical
 obtain ⟨t', h1, h2⟩ := NT.FI (oE i) t i v (fun t' => decide (t' = t.set i v)) (by rw [NT.lL]; simp)
 have : t' = t.set i v := by simpa using h2
 rw [← this]; exact h1
theorem NT.dc {α : Type} (t : NT α) (i : Nat) (v : Option α) (j : Nat) : (t.set i v).get j = if j = i then v else t.get j := by
 have h := NT.Ua t i v
 by_cases e : j = i
 · rw [if_pos e, e]; exact h.1
 · rw [if_neg e]; exact h.2 j e
inductive ee where
 | t (p : Pos)
 | c (v : Value)
inductive PX where
 | bad
 | cat
 | adj (op : BinOp)
 | sub (lo hi : Bool)
 | adk
 | adl (ty : TypeId) (zero : List Value)
 | adm
 | adn (l : List (TypeId × Nat))
 | same
 | Ub (neg : Bool)
 | ado
 | adp (ty : TypeId)
 | adq
 | adr
 | Ki
 | zZ
 | entry
inductive Prim where
 | move
 | pick
 | alloc (ty : TypeId) (zero : List Value)
 | box (ty : TypeId)
 | build (zero : List Value) (places : List (Nat × Nat))
 | de (uO : List Nat)
 | buildSlice (ty : TypeId) (n : Nat) (cells : List Value) (places : List (Nat × Nat))
 | aL
 | bo (n : Nat)
 | store (n : Nat)
 | nilCheck
 | fieldAddr (off : Nat)
 | LX (off : Nat)
 | ads (off n : Nat)
 | cV (sz : Nat)
 | xE (len sz : Nat)
 | qM (len : Nat)
 | JD (len sz : Nat)
 | Uc
 | slice (sz : Nat) (lo hi mx : Bool)
 | anQ (lo hi : Bool)
 | Ud (n sz : Nat) (lo hi mx : Bool)
 | aN (op : BinOp)
 | Ue (op : BinOp)
 | oG (nk : Nat) (neg : Bool)
 | Ag (neg : Bool)
 | z7 (neg : Bool) (ks : List Nat)
 | neg
 | dQ
 | conv (k : IntKind)
 | uF (fn : Fn) (anR : Nat)
 | adt (ty : TypeId)
 | mkMap
 | mkSlice (ty : TypeId) (sz : Nat) (zero : List Value)
 | lookup (kc : Nat) (zero : Value) (ok : Bool)
 | oA (kc : Nat)
 | extract (i : Nat)
 | cO
 | adu
 | adv
 | adw (n : Nat)
 | append (ty : TypeId) (sz : Nat) (zero : List Value)
 | copy (sz : Nat)
 | adx
 | ady
 | Uf (ty : TypeId) (zero : Value)
 | LY
 | LZ
 | x (e : PX)
inductive jc where
 | aQ (p : Prim)
 | call (f : FuncId)
 | dyn
 | recover
 | panic
 | defer
structure bB where
 dst : Option Pos
 act : jc
 args : List ee
 guard : Option (Pos × Bool)
inductive jd where
 | op (i : Nat) (o : bB)
 | lM (i : Nat) (o : bB)
inductive dh where
 | skip
 | ops (l : List bB)
 | draw (l : List jd)
 | seq (a b : dh)
 | cond (c : ee) (a b : dh)
 | block (id : Nat) (c : dh)
 | loop (c : dh)
 | mV (f : ee) (params : List Pos) (assign body : dh)
 | exit (id : Nat)
 | ret
inductive lg where
 | tmp (p : Pos)
 | cell (p : Pos) (n : Option Nat)
structure ia where
 ntmps : Nat
 results : List lg
 code : dh
 det : Bool
inductive fa where
 | oH (r : Nat)
 | fn (f : FuncId) (args : List Value)
structure kH where
 state : LoopState
 dR : Option Code
 fn : FuncId
 tm : PT
 params : List Pos
 assign : dh
 body : dh
 defs : Nat
 nt : Nat
inductive AO where
 | cells (lo hi : Nat) (ty : TypeId) (rw : Bool) (c : NT Value)
 | map (es : List (Value × Value × Nat)) (clock : Nat)
 | loop (l : kH)
 | defs (taken : Bool)
 | mh (s : ByteArray) (pos : Nat)
 | fh (m : Option Nat) (since : Nat) (seen : List Nat) (last : Nat)
structure AH where
 nx : Nat
 ob : NT AO
def aY : Nat := 1180591620717411303424
inductive Mp where
 | live (b d n : Nat)
 | dead
abbrev aK := Nat → Option Mp
inductive sK (φ : aK) : Fn → Fn → Prop where
 | func (f : FuncId) : sK φ (.func f) (.func f)
 | method (s : String) : sK φ (.method s) (.method s)
 | yield (l l' : Nat) (h : φ l ≠ none) (hl : ∀ b d n, φ l = some (.live b d n) → l' = b) : sK φ (.yield l) (.yield l')
def AtR (φ : aK) (a a' : Addr) : Prop := ∀ b d n, φ a.block = some (.live b d n) → a'.block = b ∧ a'.off + d = a.off ∧ a'.spot = none
def qY (φ : aK) (a a' : Addr) (len cap c9 : Nat) : Prop :=
 (cap < aY ∧ c9 = cap ∧ len ≤ cap ∧ (0 < cap → AtR φ a a')) ∨
 (∃ sz, cap = aY + sz ∧ 0 < sz ∧ len ≤ c9 ∧ (0 < c9 → AtR φ a a' ∧ ∀ b d n, φ a.block = some (.live b d n) → a'.off + c9 * sz ≤ n))
mutual
inductive VR (φ : aK) : Value → Value → Prop where
 | bool (b : Bool) : VR φ (.bool b) (.bool b)
 | int (k : IntKind) (n : Int) : VR φ (.int k n) (.int k n)
 | str (s : ByteArray) : VR φ (.string s) (.string s)
 | FJ : VR φ (.pointer none) (.pointer none)
 | ptr (a a' : Addr) (h : φ a.block ≠ none) (ha : AtR φ a a') : VR φ (.pointer (some a)) (.pointer (some a'))
 | mi : VR φ (.slice none 0 0) (.slice none 0 0)
 | sl (a a' : Addr) (len cap c9 : Nat) (h : φ a.block ≠ none) (hc : qY φ a a' len cap c9) : VR φ (.slice (some a) len cap) (.slice (some a') len c9)
 | Ug : VR φ (.map none) (.map none)
 | map (r r' : Nat) (h : φ r ≠ none) (hr : ∀ b d n, φ r = some (.live b d n) → r' = b) : VR φ (.map (some r)) (.map (some r'))
 | L3 : VR φ .nilFunc .nilFunc
 | func (fn qZ : Fn) (first jV bR jy : Array Value) (hf : sK φ fn qZ) (h1 : LR φ first.toList jV.toList) (h2 : LR φ bR.toList jy.toList) : VR φ (.func fn first bR) (.func qZ jV jy)
 | xJ : VR φ .nilIface .nilIface
 | iface (t : TypeId) (v v' : Value) (h : VR φ v v') : VR φ (.iface t v) (.iface t v')
 | agg (cs cy : Array Value) (h : LR φ cs.toList cy.toList) : VR φ (.agg cs) (.agg cy)
 | gg (cs cy : Array Value) (h : LR φ cs.toList cy.toList) : VR φ (.tuple cs) (.tuple cy)
inductive LR (φ : aK) : List Value → List Value → Prop where
 | nil : LR φ [] []
 | cons (v v' : Value) (l l' : List Value) (h : VR φ v v') (hl : LR φ l l') : LR φ (v :: l) (v' :: l')
end
structure Ext (N : Nat) (φ φ' : aK) : Prop where
 old : ∀ f m, φ f = some m → φ' f = some m ∨ φ' f = some .dead
 out : ∀ f, f < N → φ f = none → φ' f = none
theorem Ext.refl (N : Nat) (φ : aK) : Ext N φ φ := ⟨fun _ _ h => .inl h, fun _ _ h => h⟩
theorem Ext.trans {N N' : Nat} {φ φ' φ'' : aK} (h : Ext N φ φ') (h' : Ext N' φ' φ'') (hN : N ≤ N') : Ext N φ φ'' := by
 refine ⟨fun f m hm => ?_, fun f hf hn => h'.out f (Nat.lt_of_lt_of_le hf hN) (h.out f hf hn)⟩
 rcases h.old f m hm with h1 | h1
 · exact h'.old f m h1
 · rcases h'.old f _ h1 with h2 | h2
   · exact .inr h2
   · exact .inr h2
theorem Ext.cB {N : Nat} {φ φ' : aK} (h : Ext N φ φ') {f : Nat} (hf : φ f ≠ none) : φ' f ≠ none := by
 cases hm : φ f with
 | none => exact absurd hm hf
 | some m => rcases h.old f m hm with h1 | h1 <;> simp [h1]
theorem Ext.live {N : Nat} {φ φ' : aK} (h : Ext N φ φ') {f b d n : Nat} (hf : φ f ≠ none) (hl : φ' f = some (.live b d n)) : φ f = some (.live b d n) := by
 cases hm : φ f with
 | none => exact absurd hm hf
 | some m =>
  rcases h.old f m hm with h1 | h1
  · rw [h1] at hl; exact hl
  · rw [h1] at hl; cases hl
theorem sK.ext {N : Nat} {φ φ' : aK} (h : Ext N φ φ') {f f' : Fn} (hf : sK φ f f') : sK φ' f f' := by
 cases hf with
 | func f => exact .func f
 | method s => exact .method s
 | yield l l' h1 h2 => exact .yield l l' (h.cB h1) (fun b d n hl => h2 b d n (h.live h1 hl))
theorem AtR.ext {N : Nat} {φ φ' : aK} (h : Ext N φ φ') {a a' : Addr} (hs : φ a.block ≠ none) (ha : AtR φ a a') : AtR φ' a a' :=
 fun b d n hl => ha b d n (h.live hs hl)
theorem qY.ext {N : Nat} {φ φ' : aK} (h : Ext N φ φ') {a a' : Addr} {len cap c9 : Nat} (hs : φ a.block ≠ none) (ha : qY φ a a' len cap c9) : qY φ' a a' len cap c9 := by
 rcases ha with ⟨h1, h2, hl, h3⟩ | ⟨sz, h1, h2, h3, h4⟩
 · exact .inl ⟨h1, h2, hl, fun hp => (h3 hp).ext h hs⟩
 · exact .inr ⟨sz, h1, h2, h3, fun hp => ⟨(h4 hp).1.ext h hs, fun b d n hl => (h4 hp).2 b d n (h.live hs hl)⟩⟩
mutual
theorem VR.ext {N : Nat} {φ φ' : aK} (h : Ext N φ φ') {v v' : Value} : VR φ v v' → VR φ' v v'
 | .bool b => .bool b
 | .int k n => .int k n
 | .str s => .str s
 | .FJ => .FJ
 | .ptr a a' h1 h2 => .ptr a a' (h.cB h1) (h2.ext h h1)
 | .mi => .mi
 | .sl a a' len cap c9 h1 h2 => .sl a a' len cap c9 (h.cB h1) (h2.ext h h1)
 | .Ug => .Ug
 | .map r r' h1 h2 => .map r r' (h.cB h1) (fun b d n hl => h2 b d n (h.live h1 hl))
 | .L3 => .L3
 | .func fn qZ first jV bR jy hf h1 h2 => .func fn qZ first jV bR jy (hf.ext h) (LR.ext h h1) (LR.ext h h2)
 | .xJ => .xJ
 | .iface t v v' h1 => .iface t v v' (VR.ext h h1)
 | .agg cs cy h1 => .agg cs cy (LR.ext h h1)
 | .gg cs cy h1 => .gg cs cy (LR.ext h h1)
theorem LR.ext {N : Nat} {φ φ' : aK} (h : Ext N φ φ') {l l' : List Value} : LR φ l l' → LR φ' l l'
 | .nil => .nil
 | .cons v v' l l' h1 h2 => .cons v v' l l' (VR.ext h h1) (LR.ext h h2)
end
theorem VR.undef (φ : aK) : VR φ undef undef := .gg #[] #[] .nil
theorem LR.length {φ : aK} : ∀ {l l' : List Value}, LR φ l l' → l.length = l'.length
 | _, _, .nil => rfl
 | _, _, .cons _ _ _ _ _ h => by simp [LR.length h]
theorem LR.append {φ : aK} {m m' : List Value} (hm : LR φ m m') : ∀ {l l' : List Value}, LR φ l l' → LR φ (l ++ m) (l' ++ m')
 | _, _, .nil => hm
 | _, _, .cons v v' l l' h hl => .cons v v' _ _ h (LR.append hm hl)
theorem LR.get {φ : aK} : ∀ {l l' : List Value}, LR φ l l' → ∀ (i : Nat) (v : Value), l[i]? = some v → ∃ v', l'[i]? = some v' ∧ VR φ v v'
 | _, _, .nil, i, v, h => by simp at h
 | _, _, .cons a a' l l' h hl, 0, v, e => by simp at e; subst e; exact ⟨a', by simp, h⟩
 | _, _, .cons a a' l l' h hl, i + 1, v, e => by
  simp at e
  obtain ⟨v', h1, h2⟩ := LR.get hl i v e
  exact ⟨v', by simpa using h1, h2⟩
theorem LR.L4 {φ : aK} : ∀ {l l' : List Value}, l.length = l'.length → (∀ (i : Nat) (v v' : Value), l[i]? = some v → l'[i]? = some v' → VR φ v v') → LR φ l l'
 | [], [], _, _ => .nil
 | a :: l, a' :: l', hl, h => .cons a a' l l' (h 0 a a' (by simp) (by simp)) (LR.L4 (by simpa using hl) (fun i v v' e e' => h (i + 1) v v' (by simpa using e) (by simpa using e')))
 | [], _ :: _, hl, _ => by simp at hl
 | _ :: _, [], hl, _ => by simp at hl
theorem LR.drop {φ : aK} : ∀ (n : Nat) {l l' : List Value}, LR φ l l' → LR φ (l.drop n) (l'.drop n)
 | 0, _, _, h => by simpa using h
 | n + 1, _, _, .nil => by simpa using LR.nil
 | n + 1, _, _, .cons _ _ _ _ _ h => by simpa using LR.drop n h
theorem LR.take {φ : aK} : ∀ (n : Nat) {l l' : List Value}, LR φ l l' → LR φ (l.take n) (l'.take n)
 | 0, _, _, _ => by simpa using LR.nil
 | n + 1, _, _, .nil => by simpa using LR.nil
 | n + 1, _, _, .cons _ _ _ _ h hl => by simpa using LR.cons _ _ _ _ h (LR.take n hl)
theorem VR.cells {φ : aK} {v v' : Value} (h : VR φ v v') : LR φ v.cells.toList v'.cells.toList := by
 cases h <;> simp only [Value.cells] <;> first
  | assumption
  | exact .cons _ _ _ _ (by constructor <;> assumption) .nil
def TR (φ : aK) (t : PT) (n : Nat) (tm : Array Value) : Prop := n ≤ tm.size ∧ ∀ p : Pos, VR φ (t.get p) (tm.getD p.un undef)
def DR (φ : aK) : fa → Deferred → Prop
 | .oH r, d => φ r ≠ none ∧ ∃ r', d = { target := .collected r', args := #[] } ∧ ∀ b d n, φ r = some (.live b d n) → r' = b
 | .fn f args, d => ∃ bR args', d = { target := .fn (.func f) bR, args := args' } ∧ LR φ args (args' ++ bR).toList
inductive DL (φ : aK) : List fa → List Deferred → Prop where
 | nil : DL φ [] []
 | cons (d : fa) (d' : Deferred) (l : List fa) (l' : List Deferred) (h : DR φ d d') (hl : DL φ l l') : DL φ (d :: l) (d' :: l')
theorem DR.ext {N : Nat} {φ φ' : aK} (h : Ext N φ φ') {d : fa} {d' : Deferred} (hd : DR φ d d') : DR φ' d d' := by
 cases d with
 | oH r =>
  obtain ⟨h1, r', e, h2⟩ := hd
  exact ⟨h.cB h1, r', e, fun b d n hl => h2 b d n (h.live h1 hl)⟩
 | fn f args =>
  obtain ⟨bR, args', e, h1⟩ := hd
  exact ⟨bR, args', e, LR.ext h h1⟩
theorem DL.ext {N : Nat} {φ φ' : aK} (h : Ext N φ φ') : ∀ {l : List fa} {l' : List Deferred}, DL φ l l' → DL φ' l l'
 | _, _, .nil => .nil
 | _, _, .cons d d' l l' h1 h2 => .cons d d' l l' (h1.ext h) (DL.ext h h2)
theorem TR.ext {N : Nat} {φ φ' : aK} (h : Ext N φ φ') {t : PT} {n : Nat} {tm : Array Value} (ht : TR φ t n tm) : TR φ' t n tm :=
 ⟨ht.1, fun p => VR.ext h (ht.2 p)⟩
theorem TR.set {φ : aK} {t : PT} {n : Nat} {tm : Array Value} (ht : TR φ t n tm) (p : Pos) (hp : p.un < n) {v v' : Value} (hv : VR φ v v') :
 TR φ (t.set p v) n (tm.setIfInBounds p.un v') := by
 refine ⟨by simp [ht.1], fun q => ?_⟩
 rw [PT.dc]
 by_cases h : q = p
 · subst h
   rw [if_pos rfl]
   have : q.un < tm.size := Nat.lt_of_lt_of_le hp ht.1
   simpa [Array.getD, this] using hv
 · rw [if_neg h]
   have dC : p.un ≠ q.un := fun e => h (Pos.sH e).symm
   have := ht.2 q
   simpa [Array.getD_eq_getD_getElem?, Array.getElem?_setIfInBounds_ne dC] using this
end Go.Ve
namespace Go.Ve
noncomputable section
abbrev KV := Value → AH → Bool
def fN (n : Nat) (k : Nat → Bool) : Bool := Nat.casesOn (motive := fun _ => Bool) n (k 0) (fun m => k (.succ m))
def fI (n : Int) (k : Int → Bool) : Bool := Int.casesOn (motive := fun _ => Bool) n (fun a => fN a fun a => k (.ofNat a)) (fun a => fN a fun a => k (.negSucc a))
def fB (b : Bool) (k : Bool → Bool) : Bool := Bool.casesOn (motive := fun _ => Bool) b (k false) (k true)
theorem ch (n : Nat) (k : Nat → Bool) : fN n k = k n := by cases n <;> rfl
theorem oQ (n : Int) (k : Int → Bool) : fI n k = k n := by cases n <;> simp [fI, ch]
theorem iA (b : Bool) (k : Bool → Bool) : fB b k = k b := by cases b <;> rfl
def iff (c : Bool) (k : Bool) : Bool := Bool.casesOn (motive := fun _ => Bool) c false k
theorem iff_eq (c k : Bool) : iff c k = true ↔ c = true ∧ k = true := by cases c <;> simp [iff]
def kN : Int → Int → Bool
 | .ofNat a, .ofNat b => Nat.beq a b
 | .negSucc a, .negSucc b => Nat.beq a b
 | _, _ => false
def mr : Int → Int → Bool
 | .ofNat a, .ofNat b => Nat.ble (.succ a) b
 | .negSucc a, .negSucc b => Nat.ble (.succ b) a
 | .negSucc _, .ofNat _ => true
 | .ofNat _, .negSucc _ => false
def fM : IntKind → IntKind → Bool
 | .i8, .i8 => true | .i16, .i16 => true | .i32, .i32 => true | .i64, .i64 => true
 | .u8, .u8 => true | .u16, .u16 => true | .u32, .u32 => true | .u64, .u64 => true
 | _, _ => false
def rz : Nat := 9223372036854775807
def bt (k : IntKind) (n : Int) : Int := match k with
 | .i64 => (match n with
  | .ofNat a => bif Nat.ble a rz then n else IntKind.i64.wrap n
  | .negSucc a => bif Nat.ble a rz then n else IntKind.i64.wrap n)
 | k => k.wrap n
def Vq (k : IntKind) (x y : Int) (c : Value → Bool) : Bool := fI (bt k (Int.add x y)) fun n => c (.int k n)
def Vr (k : IntKind) (x y : Int) (c : Value → Bool) : Bool := fI (bt k (Int.sub x y)) fun n => c (.int k n)
def Vs (k : IntKind) (x y : Int) (c : Value → Bool) : Bool := fI (bt k (Int.mul x y)) fun n => c (.int k n)
def Vt (k : IntKind) (x y : Int) (c : Value → Bool) : Bool := bif kN y (.ofNat 0) then false else fI (bt k (Int.tdiv x y)) fun n => c (.int k n)
def Vu (k : IntKind) (x y : Int) (c : Value → Bool) : Bool := bif kN y (.ofNat 0) then false else fI (Int.tmod x y) fun n => c (.int k n)
def Vv (_ : IntKind) (x y : Int) (c : Value → Bool) : Bool := fB (kN x y) fun b => c (.bool b)
def Vw (_ : IntKind) (x y : Int) (c : Value → Bool) : Bool := fB (!kN x y) fun b => c (.bool b)
def Vx (_ : IntKind) (x y : Int) (c : Value → Bool) : Bool := fB (mr x y) fun b => c (.bool b)
def Vy (_ : IntKind) (x y : Int) (c : Value → Bool) : Bool := fB (!mr y x) fun b => c (.bool b)
def Vz (_ : IntKind) (x y : Int) (c : Value → Bool) : Bool := fB (mr y x) fun b => c (.bool b)
def VA (_ : IntKind) (x y : Int) (c : Value → Bool) : Bool := fB (!mr x y) fun b => c (.bool b)
def VB (k : IntKind) (x y : Int) (c : Value → Bool) : Bool := match k, x, y with
 | .u64, .ofNat a, .ofNat b => bif Nat.ble a 18446744073709551615 && Nat.ble b 18446744073709551615 then fN (Nat.land a b) fun n => c (.int .u64 (.ofNat n)) else false
 | _, _, _ => false
def VC (_ : IntKind) (_ _ : Int) (_ : Value → Bool) : Bool := false
def M4 (op : BinOp) : IntKind → Int → Int → (Value → Bool) → Bool := match op with
 | .add => Vq
 | .sub => Vr
 | .mul => Vs
 | .quo => Vt
 | .rem => Vu
 | .eql => Vv
 | .neq => Vw
 | .lss => Vx
 | .leq => Vy
 | .gtr => Vz
 | .geq => VA
 | .and => VB
 | _ => VC
def M5 (k : IntKind) (x y : Int) (c : Value → Bool) : Bool := match k, x, y with
 | .u64, .ofNat a, .ofNat b => bif Nat.ble b 64 then fN (Nat.shiftRight a b) fun n => c (.int .u64 (.ofNat n)) else false
 | _, _, _ => false
def jZ : List UInt8 → List UInt8 → Bool
 | [], [] => true
 | a :: l, b :: m => bif Nat.beq a.toNat b.toNat then jZ l m else false
 | _, _ => false
def a0 (vs : List Value) (k : Bool) : Bool := List.casesOn (motive := fun _ => Bool) vs k (fun _ _ => false)
def a1 (vs : List Value) (k : Value → Bool) : Bool := List.casesOn (motive := fun _ => Bool) vs false (fun x vs => a0 vs (k x))
def a2 (vs : List Value) (k : Value → Value → Bool) : Bool := List.casesOn (motive := fun _ => Bool) vs false (fun x vs => a1 vs (k x))
def a3 (vs : List Value) (k : Value → Value → Value → Bool) : Bool := List.casesOn (motive := fun _ => Bool) vs false (fun x vs => a2 vs (k x))
def n4 (l : List Value) : Nat → (Value → Bool) → Bool :=
 List.rec (motive := fun _ => Nat → (Value → Bool) → Bool) (fun _ _ => false) (fun x _ ih n k => Nat.casesOn (motive := fun _ => Bool) n (k x) (fun n => ih n k)) l
def qa (l : List Value) : Nat → (List Value → Bool) → Bool :=
 List.rec (motive := fun _ => Nat → (List Value → Bool) → Bool) (fun n k => Nat.casesOn (motive := fun _ => Bool) n (k []) (fun _ => false))
  (fun x _ ih n k => Nat.casesOn (motive := fun _ => Bool) n (k []) (fun n => ih n fun l' => k (x :: l'))) l
def qb (l : List Value) : Nat → (List Value → Bool) → Bool :=
 List.rec (motive := fun _ => Nat → (List Value → Bool) → Bool) (fun n k => Nat.casesOn (motive := fun _ => Bool) n (k []) (fun _ => false))
  (fun x l ih n k => Nat.casesOn (motive := fun _ => Bool) n (k (x :: l)) (fun n => ih n k)) l
def lr (l : List Value) : List Value → (List Value → Bool) → Bool :=
 List.rec (motive := fun _ => List Value → (List Value → Bool) → Bool) (fun vs k => List.casesOn (motive := fun _ => Bool) vs (k []) (fun _ _ => false))
  (fun x l ih vs k => List.casesOn (motive := fun _ => Bool) vs (k (x :: l)) (fun v vs => ih vs fun l' => k (v :: l'))) l
def nO (l : List Value) : Nat → List Value → (List Value → Bool) → Bool :=
 List.rec (motive := fun _ => Nat → List Value → (List Value → Bool) → Bool) (fun n vs k => Nat.casesOn (motive := fun _ => Bool) n (lr [] vs k) (fun _ => false))
  (fun x l ih n vs k => Nat.casesOn (motive := fun _ => Bool) n (lr (x :: l) vs k) (fun n => ih n vs fun l' => k (x :: l'))) l
def iJ (l : List Value) : Nat → Bool :=
 List.rec (motive := fun _ => Nat → Bool) (fun n => Nat.casesOn (motive := fun _ => Bool) n true (fun _ => false))
  (fun _ _ ih n => Nat.casesOn (motive := fun _ => Bool) n false (fun n => ih n)) l
def cellsOf (v : Value) : List Value := match v with
 | .agg ⟨l⟩ => l
 | v => [v]
def jg (l : List Value) (ps : List (Nat × Nat)) : List Value → (List Value → Bool) → Bool :=
 List.rec (motive := fun _ => List Value → List Value → (List Value → Bool) → Bool)
  (fun l vs k => List.casesOn (motive := fun _ => Bool) vs (k l) (fun _ _ => false))
  (fun p _ ih l vs k => List.casesOn (motive := fun _ => Bool) vs false (fun v vs => Prod.casesOn (motive := fun _ => Bool) p fun off sz =>
   bif iJ (cellsOf v) sz then nO l off (cellsOf v) fun l' => ih l' vs k else false)) ps l
def fb : Value → Bool
 | .agg _ => false
 | .tuple _ => false
 | _ => true
def di (l : List Value) : Bool :=
 List.rec (motive := fun _ => Bool) true (fun v _ ih => bif fb v then ih else false) l
def iv (l : List Value) (m : List Value) : (List Value → Bool) → Bool :=
 List.rec (motive := fun _ => (List Value → Bool) → Bool) (fun k => k m) (fun x _ ih k => ih fun l' => k (x :: l')) l
def vf (c : NT Value) (i : Nat) (l : List Value) : (NT Value → Bool) → Bool :=
 List.rec (motive := fun _ => NT Value → Nat → (NT Value → Bool) → Bool) (fun c _ k => k c)
  (fun v _ ih c i k => NT.gL (oE i) c i (some v) fun c' => fN (Nat.succ i) fun i' => ih c' i' k) l c i
def n5 (c : NT Value) (i : Nat) (n : Nat) : (List Value → Bool) → Bool :=
 Nat.rec (motive := fun _ => Nat → (List Value → Bool) → Bool) (fun _ k => k [])
  (fun _ ih i k => NT.dH c i fun v => fN (Nat.succ i) fun i' => ih i' fun l => k (v :: l)) n i
def ni (h : AH) (b : Nat) (k : AO → Bool) : Bool := AH.casesOn (motive := fun _ => Bool) h fun _ ob => NT.dH ob b k
def gz (h : AH) (b : Nat) (o : Option AO) (k : AH → Bool) : Bool := AH.casesOn (motive := fun _ => Bool) h fun nx ob => NT.gL (oE b) ob b o fun aW => k ⟨nx, aW⟩
def lu (h : AH) (o : AO) (k : Nat → AH → Bool) : Bool := AH.casesOn (motive := fun _ => Bool) h fun nx ob => NT.gL (oE nx) ob nx (some o) fun aW => fN (Nat.succ nx) fun qc => k nx ⟨qc, aW⟩
def kj (h : AH) (ty : TypeId) (l : List Value) (k : Nat → AH → Bool) : Bool :=
 iff (di l) (vf .e 0 l fun c => fN l.length fun n => lu h (.cells 0 n ty true c) k)
def lv (h : AH) (b : Nat) (k : Nat → Nat → TypeId → Bool → NT Value → Bool) : Bool :=
 ni h b fun o => AO.casesOn (motive := fun _ => Bool) o k (fun _ _ => false) (fun _ => false) (fun _ => false) (fun _ _ => false) (fun _ _ _ _ => false)
def ko (h : AH) (b : Nat) (k : List (Value × Value × Nat) → Nat → Bool) : Bool :=
 ni h b fun o => AO.casesOn (motive := fun _ => Bool) o (fun _ _ _ _ _ => false) k (fun _ => false) (fun _ => false) (fun _ _ => false) (fun _ _ _ _ => false)
def nh (h : AH) (b : Nat) (k : kH → Bool) : Bool :=
 ni h b fun o => AO.casesOn (motive := fun _ => Bool) o (fun _ _ _ _ _ => false) (fun _ _ => false) k (fun _ => false) (fun _ _ => false) (fun _ _ _ _ => false)
def yf (h : AH) (b : Nat) (k : Bool → Bool) : Bool :=
 ni h b fun o => AO.casesOn (motive := fun _ => Bool) o (fun _ _ _ _ _ => false) (fun _ _ => false) (fun _ => false) k (fun _ _ => false) (fun _ _ _ _ => false)
def VD (h : AH) (b : Nat) (k : ByteArray → Nat → Bool) : Bool :=
 ni h b fun o => AO.casesOn (motive := fun _ => Bool) o (fun _ _ _ _ _ => false) (fun _ _ => false) (fun _ => false) (fun _ => false) k (fun _ _ _ _ => false)
def tc (h : AH) (b : Nat) (k : Option Nat → Nat → List Nat → Nat → Bool) : Bool :=
 ni h b fun o => AO.casesOn (motive := fun _ => Bool) o (fun _ _ _ _ _ => false) (fun _ _ => false) (fun _ => false) (fun _ => false) (fun _ _ => false) k
def ln (h : AH) (b off n : Nat) (k : List Value → Bool) : Bool :=
 lv h b fun lo hi _ _ c => iff (Nat.ble lo off && Nat.ble (Nat.add off n) hi) (n5 c off n k)
def pX (h : AH) (b off : Nat) (k : Value → Bool) : Bool :=
 lv h b fun lo hi _ _ c => iff (Nat.ble lo off && Nat.ble (Nat.succ off) hi) (NT.dH c off k)
def qd (h : AH) (b off : Nat) (l : List Value) (k : AH → Bool) : Bool :=
 lv h b fun lo hi ty rw c => iff (rw && Nat.ble lo off && Nat.ble (Nat.add off l.length) hi && di l)
  (vf c off l fun c' => gz h b (some (.cells lo hi ty rw c')) k)
def mu {α : Type} : α → Bool := fun _ => false
def iK (v : Value) (k : Nat → Nat → Bool) : Bool := match v with
 | .pointer (some a) => Addr.casesOn (motive := fun _ => Bool) a fun b o _ => k b o
 | _ => false
def rA (v : Value) (k : List Value → Bool) : Bool := match v with
 | .agg a => Array.casesOn (motive := fun _ => Bool) a k
 | _ => false
def Gk (v : Value) (k : List Value → Bool) : Bool := match v with
 | .tuple a => Array.casesOn (motive := fun _ => Bool) a k
 | _ => false
def rC (v : Value) (k : Bool → Bool) : Bool := match v with
 | .bool b => k b
 | _ => false
def kp (v : Value) (k : IntKind → Int → Bool) : Bool := match v with
 | .int kd n => k kd n
 | _ => false
def iW (v : Value) (k : ByteArray → Bool) : Bool := match v with
 | .string s => k s
 | _ => false
def kq (v : Value) (kn : Bool) (k : Nat → Nat → Nat → Nat → Bool) : Bool := match v with
 | .slice none _ _ => kn
 | .slice (some a) l c => Addr.casesOn (motive := fun _ => Bool) a fun b o _ => k b o l c
 | _ => false
def vg (v : Value) (kn : Bool) (k : Nat → Bool) : Bool := match v with
 | .map none => kn
 | .map (some r) => k r
 | _ => false
def az (b o : Nat) : Value := .pointer (some ⟨b, o, none⟩)
def n6 (v : Value) (k : Nat → Bool) : Bool := kp v fun _ n => Int.casesOn (motive := fun _ => Bool) n k mu
def n7 (b : Bool) (vs : List Value) (d : Nat) (k : Nat → List Value → Bool) : Bool := Bool.casesOn (motive := fun _ => Bool) b (k d vs)
 (List.casesOn (motive := fun _ => Bool) vs false fun v vs => n6 v fun n => k n vs)
def ji : Nat → Value → Option Bool
 | 0, .pointer none => some true
 | 0, .pointer (some _) => some false
 | 1, .slice none _ _ => some true
 | 1, .slice (some _) _ _ => some false
 | 2, .map none => some true
 | 2, .map (some _) => some false
 | 3, .nilFunc => some true
 | 3, .func _ _ _ => some false
 | 4, .nilIface => some true
 | 4, .iface _ _ => some false
 | _, _ => none
def lh : Nat → Value → Value → Option Bool
 | 0, .int k a, .int l b => bif fM k l then some (kN a b) else none
 | 1, .bool a, .bool b => some (bif a then b else !b)
 | 2, .string a, .string b => some (jZ a.data.toList b.data.toList)
 | _, _, _ => none
def nj : List Nat → List Value → List Value → Option Bool
 | [], [], [] => some true
 | kc :: ks, a :: l, b :: m => match lh kc a b with
  | some true => nj ks l m
  | some false => some false
  | none => none
 | _, _, _ => none
def qe (o : Option Bool) (ng : Bool) (k : Value → Bool) : Bool := match o with
 | some b => fB (bif ng then !b else b) fun b => k (.bool b)
 | none => false
def rD (sz l h m cap : Nat) (M6 : Bool) (b o : Nat) (k : Value → Bool) : Bool :=
 fN (Nat.sub h l) fun n =>
 bif Nat.ble aY cap && !M6 then
  fN (Nat.add o (Nat.mul l sz)) fun o' => k (.slice (some ⟨b, o', none⟩) n cap)
 else
  iff (Nat.ble (Nat.succ m) aY) (bif Nat.beq m l then k (.slice (some ⟨b, o, none⟩) n 0)
  else fN (Nat.add o (Nat.mul l sz)) fun o' => fN (Nat.sub m l) fun c => k (.slice (some ⟨b, o', none⟩) n c))
def uR (kc : Nat) : List (Value × Value × Nat) → Value → (Option Value → Bool) → Bool
 | [], _, k => k none
 | (a, v, _) :: es, x, k => match lh kc x a with
  | some true => k (some v)
  | some false => uR kc es x k
  | none => false
def nN (kc : Nat) : List (Value × Value × Nat) → Value → Value → Nat → (List (Value × Value × Nat) → Nat → Bool) → Bool
 | [], x, y, cl, k => fN (Nat.succ cl) fun jj => k [(x, y, cl)] jj
 | (a, v, b) :: es, x, y, cl, k => match lh kc x a with
  | some true => k ((x, y, b) :: es) cl
  | some false => nN kc es x y cl fun cG jj => k ((a, v, b) :: cG) jj
  | none => false
def Ak : Nat → Value → Bool
 | 0, .int _ _ => true
 | 1, .bool _ => true
 | 2, .string _ => true
 | _, _ => false
def xL (n : Nat) (zero : List Value) (k : List Value → Bool) : Bool :=
 Nat.rec (motive := fun _ => (List Value → Bool) → Bool) (fun k => k []) (fun _ ih k => ih fun l => iv zero l k) n k
def Bd (vs : List Value) : Bool := List.casesOn (motive := fun _ => Bool) vs true (fun _ _ => false)
def lx (h : AH) (sz : Nat) (x : Value) (k : Nat → List Value → Bool) : Bool :=
 kq x (k 0 []) fun b o n _ => bif Nat.beq n 0 then k 0 [] else ln h b o (Nat.mul n sz) fun l => k n l
def uU (ss : List Nat) (vs : List Value) : (List Value → Bool) → Bool :=
 List.rec (motive := fun _ => List Value → (List Value → Bool) → Bool) (fun vs k => a0 vs (k []))
  (fun n _ ih vs k => List.casesOn (motive := fun _ => Bool) vs false fun v vs => iff (iJ (cellsOf v) n) (ih vs fun l => iv (cellsOf v) l k)) ss vs
def Be : Value → Bool
 | .pointer none => false
 | .nilIface => false
 | .nilFunc => false
 | .func (.method _) _ _ => false
 | _ => true
def M7 (op : BinOp) (kx : IntKind) (a : Int) (ky : IntKind) (b : Int) (k : Value → Bool) : Bool := match op with
 | .shl => false
 | .shr => M5 kx a b k
 | op => iff (fM kx ky) (M4 op kx a b k)
def M8 (op : BinOp) (a b : ByteArray) (k : Value → Bool) : Bool := match op with
 | .eql => fB (jZ a.data.toList b.data.toList) fun b => k (.bool b)
 | .neq => fB (!jZ a.data.toList b.data.toList) fun b => k (.bool b)
 | _ => false
def Bf (x y : Option Bool) (ng : Bool) (k : Value → Bool) : Bool := match x, y with
 | some true, some b => qe (some b) ng k
 | some b, some true => qe (some b) ng k
 | _, _ => false
def FL (zero : Value) (ok : Bool) (h : AH) (k : KV) (o : Option Value) : Bool := match o, ok with
 | none, true => k (.tuple ⟨[zero, .bool false]⟩) h
 | none, false => k zero h
 | some v, true => k (.tuple ⟨[v, .bool true]⟩) h
 | some v, false => k v h
def yj (h : AH) (ty : TypeId) (sz n : Nat) (xs : List Value) (k : KV) : Bool :=
 bif Nat.beq n 0 then k (.slice none 0 0) h else iff (Nat.ble n 1048576) (kj h ty xs fun b h => fN (Nat.add aY sz) fun cp => k (.slice (some ⟨b, 0, none⟩) n cp) h)
def Gl (h : AH) (ty : TypeId) (sz : Nat) (xs : List Value) (b o len cap iB : Nat) (k : KV) : Bool :=
 iff (Nat.beq cap (Nat.add aY sz)) (lv h b fun lo hi cz rw c =>
  iff (rw && Nat.beq cz ty && Nat.ble lo o && Nat.ble (Nat.add o (Nat.mul len sz)) hi && di xs)
   (gz h b none fun h => fN (Nat.add o (Nat.mul len sz)) fun at_ => vf c at_ xs fun c' => fN (Nat.add o (Nat.mul iB sz)) fun dS =>
    lu h (.cells o dS ty true c') fun b' h => k (.slice (some ⟨b', o, none⟩) iB cap) h))
def yk (h : AH) (ty : TypeId) (sz n : Nat) (xs : List Value) (k : KV) (b o len cap : Nat) : Bool :=
 bif Nat.beq n 0 then k (.slice (some ⟨b, o, none⟩) len cap) h else
 fN (Nat.add len n) fun iB => iff (Nat.ble iB 1048576) (
 bif Nat.ble aY cap then Gl h ty sz xs b o len cap iB k
 else bif Nat.ble iB cap then
  fN (Nat.add o (Nat.mul len sz)) fun at_ => qd h b at_ xs fun h => k (.slice (some ⟨b, o, none⟩) iB cap) h
 else bif Nat.beq len 0 then kj h ty xs fun b' h => fN (Nat.add aY sz) fun cp => k (.slice (some ⟨b', 0, none⟩) iB cp) h
 else ln h b o (Nat.mul len sz) fun old => iv old xs fun l => kj h ty l fun b' h => fN (Nat.add aY sz) fun cp => k (.slice (some ⟨b', 0, none⟩) iB cp) h)
def Me (ty : TypeId) (zero : Value) (x : Value) (k : Value → Bool) : Bool := match x with
 | .nilIface => k (.tuple ⟨[zero, .bool false]⟩)
 | .iface t v => bif Nat.beq t ty then k (.tuple ⟨[v, .bool true]⟩) else k (.tuple ⟨[zero, .bool false]⟩)
 | _ => false
def Uv (h : AH) (b : Nat) (k : KV) (s : ByteArray) (pos : Nat) : Bool := match s.data.toList[pos]? with
 | some c => bif Nat.ble (Nat.succ c.toNat) 128 then (fN (Nat.succ pos) fun pos' => gz h b (some (.mh s pos')) fun h =>
  fN c.toNat fun n => k (.tuple ⟨[.bool true, .int .i64 (.ofNat pos), .int .i32 (.ofNat n)]⟩) h)
  else gz h b (some (.mh s (pos + (Utf8.decode s pos).2))) fun h => k (.tuple ⟨[.bool true, .int .i64 (.ofNat pos), .int .i32 (.ofNat (Utf8.decode s pos).1)]⟩) h
 | none => k (.tuple ⟨[.bool false]⟩) h
def M9 (vs : List Value) (h : AH) (k : KV) : Bool := a1 vs fun x => k x h
def Na (vs : List Value) (h : AH) (k : KV) : Bool := a3 vs fun c a b => rC c fun t => Bool.casesOn (motive := fun _ => Bool) t (k b h) (k a h)
def VE (ty : TypeId) (zero : List Value) (vs : List Value) (h : AH) (k : KV) : Bool := a0 vs (kj h ty zero fun b h => k (az b 0) h)
def VF (ty : TypeId) (vs : List Value) (h : AH) (k : KV) : Bool := a1 vs fun v => kj h ty (cellsOf v) fun b h => k (az b 0) h
def VG (zero : List Value) (places : List (Nat × Nat)) (vs : List Value) (h : AH) (k : KV) : Bool := jg zero places vs fun l => k (.agg ⟨l⟩) h
def VH (uO : List Nat) (vs : List Value) (h : AH) (k : KV) : Bool := uU uO vs fun l => k (.agg ⟨l⟩) h
def UD (ty : TypeId) (n : Nat) (cells : List Value) (places : List (Nat × Nat)) (vs : List Value) (h : AH) (k : KV) : Bool := jg cells places vs fun l => kj h ty l fun b h => k (.slice (some ⟨b, 0, none⟩) n n) h
def Nb (vs : List Value) (h : AH) (k : KV) : Bool := a1 vs fun p => iK p fun b o => pX h b o fun v => k v h
def Nc (n : Nat) (vs : List Value) (h : AH) (k : KV) : Bool := a1 vs fun p => iK p fun b o => ln h b o n fun l => k (.agg ⟨l⟩) h
def VI (n : Nat) (vs : List Value) (h : AH) (k : KV) : Bool := a2 vs fun p v => iK p fun b o => iff (iJ (cellsOf v) n) (qd h b o (cellsOf v) fun h => k undef h)
def Nd (vs : List Value) (h : AH) (k : KV) : Bool := a1 vs fun x => iff (Be x) (k x h)
def Nf (off : Nat) (vs : List Value) (h : AH) (k : KV) : Bool := a1 vs fun p => iK p fun b o => fN (Nat.add o off) fun o' => k (az b o') h
def Ng (off : Nat) (vs : List Value) (h : AH) (k : KV) : Bool := a1 vs fun x => rA x fun l => n4 l off fun v => k v h
def Nh (off n : Nat) (vs : List Value) (h : AH) (k : KV) : Bool := a1 vs fun x => rA x fun l => qb l off fun l => qa l n fun l => k (.agg ⟨l⟩) h
def Ni (sz : Nat) (vs : List Value) (h : AH) (k : KV) : Bool := a2 vs fun x i => n6 i fun i => kq x false fun b o len _ => iff (Nat.ble (Nat.succ i) len) (fN (Nat.add o (Nat.mul i sz)) fun o' => k (az b o') h)
def Nj (len sz : Nat) (vs : List Value) (h : AH) (k : KV) : Bool := a2 vs fun x i => n6 i fun i => iK x fun b o => iff (Nat.ble (Nat.succ i) len) (fN (Nat.add o (Nat.mul i sz)) fun o' => k (az b o') h)
def Nk (len : Nat) (vs : List Value) (h : AH) (k : KV) : Bool := a2 vs fun x i => n6 i fun i => rA x fun l => iff (Nat.ble (Nat.succ i) len) (n4 l i fun v => k v h)
def Nl (len sz : Nat) (vs : List Value) (h : AH) (k : KV) : Bool := a2 vs fun x i => n6 i fun i => rA x fun l => iff (Nat.ble (Nat.succ i) len) (qb l (Nat.mul i sz) fun l => qa l sz fun l => k (.agg ⟨l⟩) h)
def Gm (vs : List Value) (h : AH) (k : KV) : Bool := a2 vs fun x i => n6 i fun i => iW x fun s => (match s.data.toList[i]? with | some c => fN c.toNat fun n => k (.int .u8 (.ofNat n)) h | none => false)
def Bg (sz : Nat) (lo hi mx : Bool) (vs : List Value) (h : AH) (k : KV) : Bool := List.casesOn (motive := fun _ => Bool) vs false fun x vs => kq x
 (n7 lo vs 0 fun l vs => n7 hi vs 0 fun hh vs => iff (Nat.beq l 0 && Nat.beq hh 0 && !mx && Bd vs) (k (.slice none 0 0) h))
 fun b o len cap => n7 lo vs 0 fun l vs => n7 hi vs len fun hh vs => n7 mx vs cap fun m vs =>
  iff (Bd vs && Nat.ble l hh && Nat.ble hh m && (Nat.ble hh len || !(Nat.ble aY cap)) && (bif mx then Nat.ble m (bif Nat.ble aY cap then len else cap) else true) && (bif Nat.ble aY cap then Nat.beq cap (Nat.add aY sz) else true))
   (rD sz l hh m cap mx b o fun v => k v h)
def VJ (lo hi : Bool) (vs : List Value) (h : AH) (k : KV) : Bool := iff (lo && hi && Bd vs && false) (k undef h)
def Bh (n sz : Nat) (lo hi mx : Bool) (vs : List Value) (h : AH) (k : KV) : Bool := List.casesOn (motive := fun _ => Bool) vs false fun x vs => iK x fun b o => n7 lo vs 0 fun l vs => n7 hi vs n fun hh vs => n7 mx vs n fun m vs =>
      iff (Bd vs && Nat.ble l hh && Nat.ble hh m && Nat.ble m n) (rD sz l hh m n true b o fun v => k v h)
def Gn (op : BinOp) (vs : List Value) (h : AH) (k : KV) : Bool := a2 vs fun x y => kp x fun kx a => kp y fun ky b => M7 op kx a ky b fun v => k v h
def Gp (op : BinOp) (vs : List Value) (h : AH) (k : KV) : Bool := a2 vs fun x y => iW x fun a => iW y fun b => M8 op a b fun v => k v h
def Gq (nk : Nat) (ng : Bool) (vs : List Value) (h : AH) (k : KV) : Bool := a2 vs fun x y => Bf (ji nk x) (ji nk y) ng fun v => k v h
def Nn (ng : Bool) (vs : List Value) (h : AH) (k : KV) : Bool := a2 vs fun x y => rC x fun a => rC y fun b => fB (bif ng then (bif a then !b else b) else (bif a then b else !b)) fun c => k (.bool c) h
def Np (ng : Bool) (ks : List Nat) (vs : List Value) (h : AH) (k : KV) : Bool := a2 vs fun x y => rA x fun l => rA y fun m => qe (nj ks l m) ng fun v => k v h
def Nq (vs : List Value) (h : AH) (k : KV) : Bool := a1 vs fun x => kp x fun kd n => fI (bt kd (Int.sub (.ofNat 0) n)) fun n => k (.int kd n) h
def Nr (vs : List Value) (h : AH) (k : KV) : Bool := a1 vs fun x => rC x fun b => fB (!b) fun b => k (.bool b) h
def Ns (kd : IntKind) (vs : List Value) (h : AH) (k : KV) : Bool := a1 vs fun x => kp x fun _ n => fI (bt kd n) fun n => k (.int kd n) h
def Nt (fn : Fn) (nf : Nat) (vs : List Value) (h : AH) (k : KV) : Bool := qa vs nf fun a => qb vs nf fun b => k (.func fn ⟨a⟩ ⟨b⟩) h
def Nu (ty : TypeId) (vs : List Value) (h : AH) (k : KV) : Bool := a1 vs fun x => k (.iface ty x) h
def VK (vs : List Value) (h : AH) (k : KV) : Bool := a0 vs (lu h (.map [] 0) fun b h => k (.map (some b)) h)
def Um (ty : TypeId) (sz : Nat) (zero : List Value) (vs : List Value) (h : AH) (k : KV) : Bool := a2 vs fun l c => n6 l fun l => n6 c fun c => iff (Nat.ble l c && Nat.ble c 65536 && iJ zero sz) (xL c zero fun cs => kj h ty cs fun b h => k (.slice (some ⟨b, 0, none⟩) l c) h)
def Mb (kc : Nat) (zero : Value) (ok : Bool) (vs : List Value) (h : AH) (k : KV) : Bool := a2 vs fun m x => iff (Ak kc x) (vg m (FL zero ok h k none) fun r => ko h r fun es _ => uR kc es x (FL zero ok h k))
def Ur (kc : Nat) (vs : List Value) (h : AH) (k : KV) : Bool := a3 vs fun m x v => iff (Ak kc x) (vg m false fun r => ko h r fun es cl => nN kc es x v cl fun es cl => gz h r (some (.map es cl)) fun h => k undef h)
def Nv (i : Nat) (vs : List Value) (h : AH) (k : KV) : Bool := a1 vs fun x => Gk x fun l => n4 l i fun v => k v h
def Nw (vs : List Value) (h : AH) (k : KV) : Bool := a1 vs fun x => kq x (k (.int .i64 (.ofNat 0)) h) fun _ _ n _ => k (.int .i64 (.ofNat n)) h
def Nx (vs : List Value) (h : AH) (k : KV) : Bool := a1 vs fun x => iW x fun s => fN s.data.toList.length fun n => k (.int .i64 (.ofNat n)) h
def Ny (vs : List Value) (h : AH) (k : KV) : Bool := a1 vs fun x => vg x (k (.int .i64 (.ofNat 0)) h) fun r => ko h r fun es _ => fN es.length fun n => k (.int .i64 (.ofNat n)) h
def Nz (n : Nat) (vs : List Value) (h : AH) (k : KV) : Bool := a1 vs fun _ => k (.int .i64 (.ofNat n)) h
def VL (ty : TypeId) (sz : Nat) (zero : List Value) (vs : List Value) (h : AH) (k : KV) : Bool := a2 vs fun s x => lx h sz x fun n xs => iff (Nat.ble 1 sz && iJ zero sz) (kq s (yj h ty sz n xs k) (yk h ty sz n xs k))
def Uh (sz : Nat) (vs : List Value) (h : AH) (k : KV) : Bool := a2 vs fun d s => kq d (kq s (k (.int .i64 (.ofNat 0)) h) fun _ _ _ _ => k (.int .i64 (.ofNat 0)) h) fun b o len _ => kq s (k (.int .i64 (.ofNat 0)) h) fun b' o' nK _ =>
      fN (bif Nat.ble nK len then nK else len) fun n => bif Nat.beq n 0 then k (.int .i64 (.ofNat 0)) h else
        ln h b' o' (Nat.mul n sz) fun l => qd h b o l fun h => k (.int .i64 (.ofNat n)) h
def L5 (vs : List Value) (h : AH) (k : KV) : Bool := a2 vs fun x y => kp x fun kx a => kp y fun ky b => iff (fM kx ky) (bif mr a b then k (.int kx b) h else k (.int kx a) h)
def L6 (vs : List Value) (h : AH) (k : KV) : Bool := a2 vs fun x y => kp x fun kx a => kp y fun ky b => iff (fM kx ky) (bif mr b a then k (.int kx b) h else k (.int kx a) h)
def FP (ty : TypeId) (zero : Value) (vs : List Value) (h : AH) (k : KV) : Bool := a1 vs fun x => Me ty zero x fun v => k v h
def Ut (vs : List Value) (h : AH) (k : KV) : Bool := a1 vs fun x => iW x fun s => lu h (.mh s 0) fun b h => k (az b 0) h
def Uu (vs : List Value) (h : AH) (k : KV) : Bool := a1 vs fun x => iK x fun b o => iff (Nat.beq o 0) (VD h b (Uv h b k))
def rE (l m : List UInt8) : (List UInt8 → Bool) → Bool :=
 List.rec (motive := fun _ => (List UInt8 → Bool) → Bool) (fun k => k m) (fun x _ ih k => ih fun l' => k (x :: l')) l
def Gr (l : List UInt8) : Nat → (List UInt8 → Bool) → Bool :=
 List.rec (motive := fun _ => Nat → (List UInt8 → Bool) → Bool) (fun _ k => k [])
  (fun x _ ih n k => Nat.casesOn (motive := fun _ => Bool) n (k []) (fun n => ih n fun l' => k (x :: l'))) l
def Gs (l : List UInt8) : Nat → (List UInt8 → Bool) → Bool :=
 List.rec (motive := fun _ => Nat → (List UInt8 → Bool) → Bool) (fun _ k => k [])
  (fun x l ih n k => Nat.casesOn (motive := fun _ => Bool) n (k (x :: l)) (fun n => ih n k)) l
def vh : List UInt8 → List UInt8 → Bool
 | _, [] => false
 | [], _ :: _ => true
 | a :: l, b :: m => bif Nat.ble (Nat.succ a.toNat) b.toNat then true else bif Nat.beq a.toNat b.toNat then vh l m else false
def VM (op : BinOp) (a b : List UInt8) : Option Bool := match op with
 | .lss => some (vh a b)
 | .leq => some (vh a b || jZ a b)
 | .gtr => some (!(vh a b || jZ a b))
 | .geq => some (!vh a b)
 | _ => none
def afs (_ : List Value) (_ : AH) (_ : KV) : Bool := false
def VN (vs : List Value) (h : AH) (k : KV) : Bool := a2 vs fun x y => iW x fun a => iW y fun b =>
 iff (Nat.ble (Nat.add a.data.toList.length b.data.toList.length) 9223372036854775807) (rE a.data.toList b.data.toList fun l => k (.string ⟨⟨l⟩⟩) h)
def VO (op : BinOp) (vs : List Value) (h : AH) (k : KV) : Bool := a2 vs fun x y => iW x fun a => iW y fun b => qe (VM op a.data.toList b.data.toList) false fun v => k v h
def NA (lo hi : Bool) (vs : List Value) (h : AH) (k : KV) : Bool := List.casesOn (motive := fun _ => Bool) vs false fun x vs => iW x fun s =>
 n7 lo vs 0 fun l vs => n7 hi vs s.data.toList.length fun hh vs => iff (Bd vs && Nat.ble l hh && Nat.ble hh s.data.toList.length) (Gs s.data.toList l fun m => Gr m (Nat.sub hh l) fun m => k (.string ⟨⟨m⟩⟩) h)
def VP (vs : List Value) (h : AH) (k : KV) : Bool := a1 vs fun x => kq x (k (.int .i64 (.ofNat 0)) h) fun _ _ _ c => iff (Nat.ble (Nat.succ c) aY) (k (.int .i64 (.ofNat c)) h)
def NB (l : List UInt8) : (List Value → Bool) → Bool :=
 List.rec (motive := fun _ => (List Value → Bool) → Bool) (fun k => k []) (fun c _ ih k => fN c.toNat fun n => ih fun l => k (.int .u8 (.ofNat n) :: l)) l
def VQ (l : List Value) : (List UInt8 → Bool) → Bool :=
 List.rec (motive := fun _ => (List UInt8 → Bool) → Bool) (fun k => k []) (fun v _ ih k => kp v fun kd n => Int.casesOn (motive := fun _ => Bool) n (fun n => iff (fM kd .u8 && Nat.ble (Nat.succ n) 256) (ih fun l => k (UInt8.ofNat n :: l))) mu) l
def VS (ty : TypeId) (zero : List Value) (vs : List Value) (h : AH) (k : KV) : Bool := a2 vs fun s x => iW x fun t => NB t.data.toList fun xs => fN xs.length fun n =>
 iff (iJ zero 1) (kq s (yj h ty 1 n xs k) (yk h ty 1 n xs k))
def VT (vs : List Value) (h : AH) (k : KV) : Bool := a1 vs fun p => iK p fun b o => lv h b fun lo hi _ _ _ => iff (Nat.ble lo o && Nat.ble (Nat.succ o) hi) (k (az b o) h)
def Gt (ty hi : Nat) : List (TypeId × Nat) → Bool
 | [] => false
 | (t, n) :: l => bif Nat.beq t ty && Nat.ble n hi then true else Gt ty hi l
def VU (l : List (TypeId × Nat)) (vs : List Value) (h : AH) (k : KV) : Bool := a1 vs fun p => iK p fun b o => lv h b fun lo hi ty _ _ => iff (Nat.beq lo 0 && Nat.beq o 0 && Gt ty hi l) (k (az b o) h)
def VV (vs : List Value) (h : AH) (k : KV) : Bool := a1 vs fun p => k p h
def Gu (x y : Value) : Bool := match x, y with
 | .pointer (some a), .pointer (some b) => Nat.beq a.block b.block && Nat.beq a.off b.off
 | _, _ => false
def VW (ng : Bool) (vs : List Value) (h : AH) (k : KV) : Bool := a2 vs fun x y => bif Gu x y then iK x fun b _ => ni h b fun _ => fB (!ng) fun b => k (.bool b) h else Bf (ji 0 x) (ji 0 y) ng fun v => k v h
def VX (vs : List Value) (h : AH) (k : KV) : Bool := a1 vs fun s => kq s (k (.pointer none) h) fun b o n _ => iff (Nat.ble 1 n) (k (az b o) h)
def VY (ty : TypeId) (n : Nat) (h : AH) (k : KV) (a : Addr) : Bool := Addr.casesOn (motive := fun _ => Bool) a fun b o _ =>
 lv h b fun lo hi cz rw c => iff (rw && Nat.beq cz ty && Nat.ble lo o && Nat.ble (Nat.add o n) hi && Nat.ble n 1048576) (n5 c o n fun l => VQ l fun m => gz h b (some (.cells lo hi cz false c)) fun h => k (.string ⟨⟨m⟩⟩) h)
def VZ (ty : TypeId) (vs : List Value) (h : AH) (k : KV) : Bool := a2 vs fun p n => n6 n fun n => match p with
 | .pointer q => bif Nat.beq n 0 then k (.string ⟨⟨[]⟩⟩) h else Option.casesOn (motive := fun _ => Bool) q false (VY ty n h k)
 | _ => false
def Bi (l : List UInt8) (c : Nat) : Nat := List.rec (motive := fun _ => Nat) 0 (fun b _ ih => bif Nat.beq b.toNat c then Nat.succ ih else ih) l
def Gv (c : Nat) : List UInt8 → Nat → (Int → Bool) → Bool
 | [], _, k => k (.negSucc 0)
 | b :: l, i, k => bif Nat.beq b.toNat c then k (.ofNat i) else fN (Nat.succ i) fun i => Gv c l i k
def V0 (vs : List Value) (h : AH) (k : KV) : Bool := a2 vs fun s c => iW s fun s => kp c fun kd n => Int.casesOn (motive := fun _ => Bool) n (fun n => iff (fM kd .u8 && Nat.ble (Nat.succ n) 256) (fN (Bi s.data.toList n) fun n => k (.int .i64 (.ofNat n)) h)) mu
def V1 (vs : List Value) (h : AH) (k : KV) : Bool := a2 vs fun s c => iW s fun s => kp c fun kd n => Int.casesOn (motive := fun _ => Bool) n (fun n => iff (fM kd .u8 && Nat.ble (Nat.succ n) 256) (Gv n s.data.toList 0 fun i => k (.int .i64 i) h)) mu
def V2 (vs : List Value) (h : AH) (k : KV) : Bool := a1 vs fun m => vg m (lu h (.fh none 0 [] 0) fun b h => k (az b 0) h) fun r => ko h r fun _ cl => lu h (.fh (some r) cl [] cl) fun b h => k (az b 0) h
def pY (l : List Nat) (n : Nat) : Bool := List.rec (motive := fun _ => Bool) false (fun m _ ih => bif Nat.beq m n then true else ih) l
def Bj (l : List Nat) (n : Nat) : (List Nat → Bool) → Bool :=
 List.rec (motive := fun _ => (List Nat → Bool) → Bool) (fun k => k [n]) (fun x _ ih k => ih fun l' => k (x :: l')) l
def rF (es : List (Value × Value × Nat)) (since : Nat) (seen : List Nat) : (List (Value × Value × Nat) → Bool) → Bool :=
 List.rec (motive := fun _ => (List (Value × Value × Nat) → Bool) → Bool) (fun k => k []) (fun e _ ih k => iff (Nat.ble (Nat.succ e.2.2) since) (bif pY seen e.2.2 then ih k else ih fun l => k (e :: l))) es
def td (go : Value → Value → Nat → Bool) : List (Value × Value × Nat) → Bool
 | [] => true
 | [(a, v, n)] => go a v n
 | (a, v, n) :: l => iff (go a v n) (td go l)
def Gw (h : AH) (b r since : Nat) (seen : List Nat) (k : KV) (a v : Value) (n : Nat) : Bool :=
 Bj seen n fun aft => gz h b (some (.fh (some r) since aft since)) fun h => k (.tuple ⟨[.bool true, a, v]⟩) h
def Gx (h : AH) (b r since : Nat) (seen : List Nat) (k : KV) (l : List (Value × Value × Nat)) : Bool := match l with
 | [] => gz h b none fun h => k (.tuple ⟨[.bool false]⟩) h
 | l => td (Gw h b r since seen k) l
def V3 (vs : List Value) (h : AH) (k : KV) : Bool := a1 vs fun p => iK p fun b o => iff (Nat.beq o 0) (tc h b fun m since seen last => Option.casesOn (motive := fun _ => Bool) m (k (.tuple ⟨[.bool false]⟩) h) fun r =>
 ko h r fun es cl => iff (Nat.beq cl since && Nat.beq last since) (rF es since seen (Gx h b r since seen k)))
def vj (l : List Nat) (k : Nat → Bool) : Bool := match l with
 | [] => false
 | [n] => k n
 | _ :: l => vj l k
def tf (es : List (Value × Value × Nat)) (n : Nat) (k : Value → Value → Bool) : Bool := match es with
 | [] => false
 | (a, v, b) :: es => bif Nat.beq b n then k a v else tf es n k
def V4 (vs : List Value) (h : AH) (k : KV) : Bool := a1 vs fun p => iK p fun b o => iff (Nat.beq o 0) (tc h b fun m _ seen last => Option.casesOn (motive := fun _ => Bool) m false fun r =>
 ko h r fun es cl => iff (Nat.beq cl last) (vj seen fun n => tf es n fun a v => k (.tuple ⟨[a, v]⟩) h))
def PX.ev (p : PX) : List Value → AH → KV → Bool := PX.casesOn (motive := fun _ => List Value → AH → KV → Bool) p afs VN VO NA VP
 VS VT VU VV VW VX VZ V0 V1 V2 V3 V4
def Prim.ev (p : Prim) : List Value → AH → KV → Bool := Prim.casesOn (motive := fun _ => List Value → AH → KV → Bool) p
 M9 Na VE VF VG VH UD Nb Nc VI Nd Nf Ng Nh Ni Nj Nk Nl Gm Bg VJ Bh Gn Gp Gq Nn Np Nq Nr Ns Nt Nu VK Um Mb Ur Nv Nw Nx Ny Nz VL Uh L5 L6 FP Ut Uu PX.ev
inductive AX where
 | normal
 | exit (id : Nat)
 | ret
 | aP (v : Value)
inductive Rc where
 | off
 | can (v : Value)
 | ll
structure St where
 tm : PT
 df : List fa
 rc : Rc
 h : AH
structure Env where
 fn : FuncId
 nt : Nat
 sR : Option Nat
inductive CR where
 | ret (v : Value)
 | aP (v : Value)
abbrev KS := AX → St → Bool
inductive Task where
 | code (c : dh) (e : Env) (s : St) (k : KS)
 | call (f : FuncId) (args : List Value) (h : AH) (k : CR → AH → Bool)
 | xZ (f : FuncId) (args : List Value) (rc : Rc) (h : AH) (k : Rc → AH → Bool)
 | round (l : Nat) (args : List Value) (h : AH) (k : CR → AH → Bool)
 | leave (ds : List fa) (m : Option Value) (h : AH) (k : Option Value → AH → Bool)
def rq (o : ee) (t : PT) (k : Value → Bool) : Bool := ee.casesOn (motive := fun _ => Bool) o (fun p => PT.dH p t k) k
def nT (l : List ee) (t : PT) : (List Value → Bool) → Bool :=
 List.rec (motive := fun _ => (List Value → Bool) → Bool) (fun k => k []) (fun o _ ih k => rq o t fun v => ih fun vs => k (v :: vs)) l
def iz (d : Option Pos) (s : St) (v : Value) (h : AH) (k : St → Bool) : Bool := St.casesOn (motive := fun _ => Bool) s fun tm df rc _ =>
 Option.casesOn (motive := fun _ => Bool) d (k ⟨tm, df, rc, h⟩) (fun p => PT.gL p tm v fun Mt => k ⟨Mt, df, rc, h⟩)
def mq (a b : Bool) : Bool := Bool.casesOn (motive := fun _ => Bool) a (Bool.casesOn (motive := fun _ => Bool) b true false) b
def uY (want : Bool) (yes no : Bool) (v : Value) : Bool := match v with
 | .bool b => bif mq b want then yes else no
 | _ => no
def nU (g : Option (Pos × Bool)) (t : PT) (yes no : Bool) : Bool :=
 Option.casesOn (motive := fun _ => Bool) g yes fun pw => Prod.casesOn (motive := fun _ => Bool) pw fun p want => PT.dH p t (uY want yes no)
def nQ (dst : Option Pos) (s : St) (fail : KS) (k : St → Bool) (r : CR) (h : AH) : Bool :=
 CR.casesOn (motive := fun _ => Bool) r (fun v => iz dst s v h k) (fun v => St.casesOn (motive := fun _ => Bool) s fun tm df rc _ => fail (.aP v) ⟨tm, df, rc, h⟩)
def UP (anT : Task → Bool) (dst : Option Pos) (_ : Env) (s : St) (_ : KS) (k : St → Bool) (vs : List Value) (p : Prim) : Bool :=
 p.ev vs s.h fun v h => iz dst s v h k
def UR (rec : Task → Bool) (dst : Option Pos) (_ : Env) (s : St) (fail : KS) (k : St → Bool) (vs : List Value) (f : FuncId) : Bool :=
 rec (.call f vs s.h (nQ dst s fail k))
def sU (v : Value) (kf : Nat → List Value → List Value → Bool) (ky : Nat → Bool) : Bool := match v with
 | .func (.func g) ⟨first⟩ ⟨bR⟩ => kf g first bR
 | .func (.yield l) ⟨[]⟩ ⟨[]⟩ => ky l
 | _ => false
def Mo (rec : Task → Bool) (dst : Option Pos) (_ : Env) (s : St) (fail : KS) (k : St → Bool) (vs : List Value) : Bool :=
 List.casesOn (motive := fun _ => Bool) vs false fun f as => sU f
  (fun g first bR => iv as bR fun l => iv first l fun l => rec (.call g l s.h (nQ dst s fail k)))
  (fun l => rec (.round l as s.h (nQ dst s fail k)))
def AF (dst : Option Pos) (e : Env) (s : St) (k : St → Bool) (vs : List Value) : Bool := match e.sR, vs with
 | none, [] => (match s.rc with
  | .can v => iz dst ⟨s.tm, s.df, .ll, s.h⟩ v s.h k
  | _ => iz dst s .nilIface s.h k)
 | _, _ => false
def FY (s : St) (fail : KS) (vs : List Value) : Bool := a1 vs fun v => match v with
 | .iface t x => fail (.aP (.iface t x)) s
 | _ => false
def AJ (dst : Option Pos) (e : Env) (s : St) (k : St → Bool) (vs : List Value) : Bool := match e.sR, vs with
 | none, f :: as => sU f (fun g first bR => iv as bR fun l => iv first l fun l => iz dst ⟨s.tm, .fn g l :: s.df, s.rc, s.h⟩ undef s.h k) mu
 | _, _ => false
def x9 (rec : Task → Bool) (act : jc) (dst : Option Pos) (e : Env) (s : St) (fail : KS) (k : St → Bool) (vs : List Value) : Bool :=
 jc.casesOn (motive := fun _ => Bool) act (UP rec dst e s fail k vs) (UR rec dst e s fail k vs) (Mo rec dst e s fail k vs)
  (AF dst e s k vs) (FY s fail vs) (AJ dst e s k vs)
def sV (rec : Task → Bool) (o : bB) (e : Env) (s : St) (fail : KS) (k : St → Bool) : Bool :=
 bB.casesOn (motive := fun _ => Bool) o fun dst act args g => nU g s.tm (nT args s.tm (x9 rec act dst e s fail k)) (iz dst s undef s.h k)
def AN (rec : Task → Bool) (l : List bB) (e : Env) (s : St) (k : KS) : Bool :=
 List.rec (motive := fun _ => St → Bool) (fun s => k .normal s) (fun o _ ih s => sV rec o e s k ih) l s
def Gy : Value → Value → Bool
 | .bool a, .bool b => bif a then b else !b
 | .int k a, .int l b => bif fM k l then kN a b else false
 | .string a, .string b => jZ a.data.toList b.data.toList
 | .pointer none, .pointer none => true
 | .pointer (some a), .pointer (some b) => Nat.beq a.block b.block && Nat.beq a.off b.off
 | .slice none l c, .slice none m d => Nat.beq l m && Nat.beq c d
 | .slice (some a) l c, .slice (some b) m d => Nat.beq a.block b.block && Nat.beq a.off b.off && Nat.beq l m && Nat.beq c d
 | .map none, .map none => true
 | .map (some a), .map (some b) => Nat.beq a b
 | .nilFunc, .nilFunc => true
 | .nilIface, .nilIface => true
 | _, _ => false
def Bk : List Value → List Value → Bool
 | [], [] => true
 | a :: l, b :: m => Gy a b && Bk l m
 | _, _ => false
def qf : Value → Value → Bool
 | .func (.func f) ⟨a⟩ ⟨b⟩, .func (.func g) ⟨c⟩ ⟨d⟩ => Nat.beq f g && Bk a c && Bk b d
 | a, b => Gy a b
def n8 : List Value → List Value → Bool
 | [], [] => true
 | a :: l, b :: m => qf a b && n8 l m
 | _, _ => false
def rG (a b : Value) : Bool := match a, b with
 | .agg ⟨l⟩, .agg ⟨m⟩ => n8 l m
 | .tuple ⟨l⟩, .tuple ⟨m⟩ => n8 l m
 | a, b => qf a b
def Prim.fresh (p : Prim) (vs : List Value) (k : TypeId → List Value → Bool) : Bool := match p with
 | .alloc ty zero => a0 vs (k ty zero)
 | .box ty => a1 vs fun v => k ty (cellsOf v)
 | .buildSlice ty _ cells places => jg cells places vs fun l => k ty l
 | _ => false
def Prim.makes : Prim → Bool
 | .alloc _ _ => true
 | .box _ => true
 | .buildSlice _ _ _ _ => true
 | _ => false
def NC (v : Value) (k : Nat → Bool) : Bool := match v with
 | .pointer (some ⟨b, o, _⟩) => iff (Nat.beq o 0) (k b)
 | .slice (some ⟨b, o, _⟩) _ _ => iff (Nat.beq o 0) (k b)
 | _ => false
def vk (s : St) (v : Value) (ty : TypeId) (l : List Value) : Bool :=
 NC v fun b => lv s.h b fun lo hi cz rw c => iff (rw && Nat.beq lo 0 && Nat.beq hi l.length && Nat.beq ty cz) (n5 c 0 l.length fun m => n8 m l)
def Bl (v : Value) (v' : Value) (_ : AH) : Bool := rG v' v
def Bm (dst : Option Pos) (s : St) (vs : List Value) (p : Prim) : Bool :=
 Option.casesOn (motive := fun _ => Bool) dst false fun d => PT.dH d s.tm fun v => bif p.makes then p.fresh vs (vk s v) else p.ev vs s.h (Bl v)
def yn (o : bB) (s : St) : Bool :=
 bB.casesOn (motive := fun _ => Bool) o fun dst act args g => nU g s.tm (nT args s.tm fun vs =>
  jc.casesOn (motive := fun _ => Bool) act (Bm dst s vs) mu false false false false) true
def nW (rec : Task → Bool) (l : List jd) (e : Env) (s : St) (k : KS) : Bool :=
 List.rec (motive := fun _ => St → Bool) (fun s => k .normal s)
  (fun d _ ih s => jd.casesOn (motive := fun _ => Bool) d (fun _ o => sV rec o e s k ih) (fun _ o => iff (yn o s) (ih s))) l s
def yi (ps : List Pos) (vs : List Value) (t : PT) (k : PT → Bool) : Bool :=
 List.rec (motive := fun _ => List Value → PT → Bool) (fun vs t => a0 vs (k t)) (fun p _ ih vs t => List.casesOn (motive := fun _ => Bool) vs false fun v vs => PT.gL p t v fun t => ih vs t) ps vs t
def ru (i : Nat) (vs : List Value) (t : PT) (k : PT → Bool) : Bool :=
 List.rec (motive := fun _ => Nat → PT → Bool) (fun _ t => k t) (fun v _ ih i t => PT.gL (Pos.of i) t v fun t => ih (.succ i) t) vs i t
def kM (rs : List lg) (t : PT) (h : AH) (k : List Value → Bool) : Bool := match rs with
 | [] => k []
 | .tmp p :: rs => PT.dH p t fun v => kM rs t h fun vs => k (v :: vs)
 | .cell p none :: rs => PT.dH p t fun v => iK v fun b o => pX h b o fun x => kM rs t h fun vs => k (x :: vs)
 | .cell p (some n) :: rs => PT.dH p t fun v => iK v fun b o => ln h b o n fun l => kM rs t h fun vs => k (.agg ⟨l⟩ :: vs)
def AW (vs : List Value) (k : Value → Bool) : Bool := match vs with
 | [v] => k v
 | vs => k (.tuple ⟨vs⟩)
def AP (rec : Task → Bool) (b : dh) (e : Env) (k : KS) (x : AX) (s : St) : Bool := AX.casesOn (motive := fun _ => Bool) x (rec (.code b e s k)) (fun id => k (.exit id) s) (k .ret s) (fun v => k (.aP v) s)
def afu (rec : Task → Bool) (e : Env) (s : St) (k : KS) (a b : dh) : Bool := rec (.code a e s (AP rec b e k))
def afv (rec : Task → Bool) (e : Env) (s : St) (k : KS) (c : ee) (a b : dh) : Bool :=
 rq c s.tm fun v => rC v fun t => Bool.casesOn (motive := fun _ => Bool) t (rec (.code b e s k)) (rec (.code a e s k))
def Mv (id : Nat) (k : KS) (x : AX) (s : St) : Bool := AX.casesOn (motive := fun _ => Bool) x (k .normal s) (fun j => bif Nat.beq j id then k .normal s else k (.exit j) s) (k .ret s) (fun v => k (.aP v) s)
def afw (rec : Task → Bool) (e : Env) (s : St) (k : KS) (id : Nat) (c : dh) : Bool := rec (.code c e s (Mv id k))
def afx (rec : Task → Bool) (e : Env) (s : St) (k : KS) (c : dh) : Bool := rec (.code c e s (AP rec (.loop c) e k))
def kH.jf (r : kH) (st : LoopState) (j : Option Code) : kH := kH.casesOn (motive := fun _ => kH) r fun _ _ fn tm ps a b d nt => ⟨st, j, fn, tm, ps, a, b, d, nt⟩
def F4 (s : St) (df : List fa) (k : KS) (j : Option Code) (h : AH) : Bool := match j with
 | none => k .normal ⟨s.tm, df, s.rc, h⟩
 | some .ret => k .ret ⟨s.tm, df, s.rc, h⟩
 | some (.exit id) => k (.exit id) ⟨s.tm, df, s.rc, h⟩
 | _ => false
def ND : LoopState → Bool
 | .busy => false
 | _ => true
def isReady : LoopState → Bool
 | .ready => true
 | _ => false
def MA (s : St) (df : List fa) (k : KS) (l : Nat) (r : CR) (h : AH) : Bool := CR.casesOn (motive := fun _ => Bool) r
 (fun _ => nh h l fun r => iff (ND r.state) (gz h l (some (.loop (r.jf .exhausted r.dR))) (F4 s df k r.dR)))
 (fun v => k (.aP v) ⟨s.tm, df, s.rc, h⟩)
def AR (rec : Task → Bool) (e : Env) (s : St) (k : KS) (params : List Pos) (assign body : dh) (g : Nat) (first bR : List Value) (h : AH) (dl : Nat) (df : List fa) : Bool :=
 lu h (.loop ⟨.ready, none, e.fn, s.tm, params, assign, body, dl, e.nt⟩) fun l h =>
  iv first (.func (.yield l) ⟨[]⟩ ⟨[]⟩ :: bR) fun args => rec (.call g args h (MA s df k l))
def U7 (rec : Task → Bool) (e : Env) (s : St) (k : KS) (f : ee) (params : List Pos) (assign body : dh) : Bool :=
 rq f s.tm fun fv => sU fv (fun g first bR => match e.sR with
  | none => lu s.h (.defs false) fun r h => AR rec e s k params assign body g first bR h r (.oH r :: s.df)
  | some l => nh s.h l fun r => AR rec e s k params assign body g first bR s.h r.defs s.df) mu
def MG (rec : Task → Bool) (c : dh) (e : Env) (s : St) (k : KS) : Bool := dh.casesOn (motive := fun _ => Bool) c
 (k .normal s) (fun l => AN rec l e s k) (fun l => nW rec l e s k) (afu rec e s k) (afv rec e s k) (afw rec e s k) (afx rec e s k) (U7 rec e s k)
 (fun id => k (.exit id) s) (k .ret s)
def A7 (results : List lg) (tm : PT) (k : CR → AH → Bool) (m : Option Value) (h : AH) : Bool := match m with
 | none => kM results tm h fun vs => AW vs fun v => k (.ret v) h
 | some v => k (.aP v) h
def Vj (results : List lg) (k : CR → AH → Bool) (m : Option Value) (h : AH) : Bool := match m with
 | none => (match results with | [] => k (.ret (.tuple ⟨[]⟩)) h | _ => false)
 | some v => k (.aP v) h
def AZ (rec : Task → Bool) (results : List lg) (k : CR → AH → Bool) (x : AX) (s : St) : Bool := AX.casesOn (motive := fun _ => Bool) x
 (rec (.leave s.df none s.h (A7 results s.tm k))) mu (rec (.leave s.df none s.h (A7 results s.tm k))) (fun v => rec (.leave s.df (some v) s.h (Vj results k)))
def V5 (v : Value) : List Nat := match v with
 | .slice (some a) _ _ => [a.block]
 | .map (some r) => [r]
 | .pointer (some a) => [a.block]
 | _ => []
def V6 : List Value → List Nat
 | [] => []
 | v :: l => V5 v ++ V6 l
def afy (v : Value) : List Nat := match v with
 | .tuple ⟨l⟩ => V6 l
 | v => V5 v
def Ge (cB : List Nat) (n : Nat) : Nat → AH → (AH → Bool) → Bool :=
 Nat.rec (motive := fun _ => Nat → AH → (AH → Bool) → Bool) (fun _ h k => k h)
  (fun _ ih b h k => fN (Nat.succ b) fun b' => bif pY cB b then ih b' h k else gz h b none fun h => ih b' h k) n
def MQ (h0 : AH) (k : CR → AH → Bool) (v : Value) (h : AH) : Bool := match afy v with
 | [] => iff (k (.ret v) h) true
 | cB => fN (Nat.sub h.nx h0.nx) fun n => fN h0.nx fun b => Ge cB n b h fun h => iff (k (.ret v) h) true
def jn (det : Bool) (h0 : AH) (k : CR → AH → Bool) : CR → AH → Bool := bif det then fun r h => CR.casesOn (motive := fun _ => Bool) r (fun v => MQ h0 k v h) (fun v => k (.aP v) h) else k
abbrev ry := List (FuncId × (List Value → AH → (CR → AH → Bool) → Bool))
def Vk (prog : NT ia) (rec : Task → Bool) (f : FuncId) (args : List Value) (h : AH) (k : CR → AH → Bool) : Bool :=
 NT.dH prog f fun fn => ia.casesOn (motive := fun _ => Bool) fn fun nt results code det => ru 0 args .e fun tm =>
  rec (.code code ⟨f, nt, none⟩ ⟨tm, [], .off, h⟩ (AZ rec results (jn det h k)))
def Gh (prog : NT ia) (sums : ry) (rec : Task → Bool) (f : FuncId) (args : List Value) (h : AH) (k : CR → AH → Bool) : Bool := match sums with
 | [] => Vk prog rec f args h k
 | (g, S) :: l => bif Nat.beq g f then S args h k else Gh prog l rec f args h k
def sY (df : List fa) (k : Bool) : Bool := match df with
 | [] => k
 | _ => false
def MW (k : Rc → AH → Bool) (x : AX) (s : St) : Bool := match x with
 | .normal => sY s.df (k s.rc s.h)
 | .ret => sY s.df (k s.rc s.h)
 | _ => false
def Vm (prog : NT ia) (rec : Task → Bool) (f : FuncId) (args : List Value) (rc : Rc) (h : AH) (k : Rc → AH → Bool) : Bool :=
 NT.dH prog f fun fn => ia.casesOn (motive := fun _ => Bool) fn fun nt results code _ => List.casesOn (motive := fun _ => Bool) results (ru 0 args .e fun tm =>
  rec (.code code ⟨f, nt, none⟩ ⟨tm, [], rc, h⟩ (MW k))) fun _ _ => false
def MN (rec : Task → Bool) (ds : List fa) (k : Option Value → AH → Bool) (rc : Rc) (h : AH) : Bool := match rc with
 | .ll => rec (.leave ds none h k)
 | .can v => rec (.leave ds (some v) h k)
 | .off => false
def MK (rec : Task → Bool) (ds : List fa) (m : Option Value) (h : AH) (k : Option Value → AH → Bool) : Bool := match ds with
 | [] => k m h
 | .oH r :: ds => yf h r fun t => iff (!t) (gz h r (some (.defs true)) fun h => rec (.leave ds m h k))
 | .fn f args :: ds => (match m with
  | none => rec (.xZ f args .off h fun _ h => rec (.leave ds none h k))
  | some v => rec (.xZ f args (.can v) h (MN rec ds k)))
def Ba (l : Nat) (h : AH) (k : CR → AH → Bool) (j : Option Code) (st : LoopState) (b : Bool) : Bool :=
 nh h l fun r => gz h l (some (.loop (r.jf st j))) fun h => k (.ret (.bool b)) h
def Gj (l : Nat) (k : CR → AH → Bool) (x : AX) (s : St) : Bool := sY s.df (match x with
 | .normal => Ba l s.h k none .ready true
 | .ret => Ba l s.h k (some .ret) .done false
 | .exit id => Ba l s.h k (some (.exit id)) .done false
 | .aP _ => false)
def MY (rec : Task → Bool) (l : Nat) (r0 : kH) (k : CR → AH → Bool) (x : AX) (s : St) : Bool := match x with
 | .normal => nh s.h l fun r => iff (isReady r.state) (gz s.h l (some (.loop (r.jf .busy r.dR))) fun h =>
  rec (.code r0.body ⟨r0.fn, r0.nt, some l⟩ ⟨s.tm, s.df, s.rc, h⟩ (Gj l k)))
 | _ => false
def Vo (rec : Task → Bool) (l : Nat) (args : List Value) (h : AH) (k : CR → AH → Bool) : Bool :=
 nh h l fun r => yi r.params args r.tm fun tm => rec (.code r.assign ⟨r.fn, r.nt, some l⟩ ⟨tm, [], .off, h⟩ (MY rec l r k))
def stepT (prog : NT ia) (sums : ry) (rec : Task → Bool) (t : Task) : Bool := Task.casesOn (motive := fun _ => Bool) t
 (MG rec) (Gh prog sums rec) (Vm prog rec) (Vo rec) (MK rec)
def ev (prog : NT ia) (sums : ry) (n : Nat) : Task → Bool :=
 Nat.rec (motive := fun _ => Task → Bool) (fun _ => false) (fun _ ih t => stepT prog sums ih t) n
theorem afz (prog : NT ia) (sums : ry) (n : Nat) (t : Task) : ev prog sums (n + 1) t = stepT prog sums (ev prog sums n) t := rfl
end
end Go.Ve
