/- Part 1: VEval, part 1: the data: tries, abstract heap, what it is for an abstract value, object, heap to stand for a real one. Over any program; no condition. And what follows it. -/
import Derived.AtR
import Derived.Orders
import Derived.Below
import Derived.Defers
import Derived.RangeFuncRecord
import Derived.RangeFuncIn
set_option linter.unusedVariables false
set_option linter.unusedSimpArgs false
namespace Go.Ve
open Go.RowKit
inductive Pos where
 | xH
 | xO (p : Pos)
 | xI (p : Pos)
 deriving DecidableEq, Inhabited, Repr
def Pos.un : Pos → Nat
 | .xH => 0
 | .xO p => 2 * p.un + 1
 | .xI p => 2 * p.un + 2
theorem Pos.sx : ∀ {p q : Pos}, p.un = q.un → p = q
 | .xH, .xH, _ => rfl
 | .xH, .xO q, h => by simp [Pos.un] at h
 | .xH, .xI q, h => by simp [Pos.un] at h
 | .xO p, .xH, h => by simp [Pos.un] at h
 | .xI p, .xH, h => by simp [Pos.un] at h
 | .xO p, .xO q, h => by
  have h' : 2 * p.un + 1 = 2 * q.un + 1 := h
  rw [Pos.sx (show p.un = q.un by omega)]
 | .xI p, .xI q, h => by
  have h' : 2 * p.un + 2 = 2 * q.un + 2 := h
  rw [Pos.sx (show p.un = q.un by omega)]
 | .xO p, .xI q, h => by
  have h' : 2 * p.un + 1 = 2 * q.un + 2 := h
  omega
 | .xI p, .xO q, h => by
  have h' : 2 * p.un + 2 = 2 * q.un + 1 := h
  omega
def Pos.beq : Pos → Pos → Bool
 | .xH, .xH => true
 | .xO p, .xO q => p.beq q
 | .xI p, .xI q => p.beq q
 | _, _ => false
theorem Pos.beq_iff : ∀ {p q : Pos}, p.beq q = true ↔ p = q
 | .xH, .xH => by simp [Pos.beq]
 | .xO p, .xO q => by simp [Pos.beq, Pos.beq_iff (p := p) (q := q)]
 | .xI p, .xI q => by simp [Pos.beq, Pos.beq_iff (p := p) (q := q)]
 | .xH, .xO _ => by simp [Pos.beq]
 | .xH, .xI _ => by simp [Pos.beq]
 | .xO _, .xH => by simp [Pos.beq]
 | .xI _, .xH => by simp [Pos.beq]
 | .xO _, .xI _ => by simp [Pos.beq]
 | .xI _, .xO _ => by simp [Pos.beq]
def Pos.zY : Nat → Nat → Pos
 | 0, _ => .xH
 | f + 1, n => if n = 0 then .xH else if n % 2 = 1 then .xO (Pos.zY f (n / 2)) else .xI (Pos.zY f (n / 2 - 1))
def Pos.of (n : Nat) : Pos := Pos.zY n n
theorem Pos.acp : ∀ (f n : Nat), n ≤ f → (Pos.zY f n).un = n := by
  intro f
  induction f with
  | zero => intro n h; have : n = 0 := by omega
            subst this; rfl
  | succ f ih =>
    intro n h
    unfold Pos.zY
    split
    · subst_vars; rfl
    · split
      · simp only [Pos.un]; rw [ih _ (by omega)]; omega
      · simp only [Pos.un]; rw [ih _ (by omega)]; omega
theorem Pos.kD (n : Nat) : (Pos.of n).un = n := Pos.acp n n (Nat.le_refl _)
inductive PT where
 | e
 | n (l : PT) (v : Value) (r : PT)
def PT.get : PT → Pos → Value
 | .e, _ => undef
 | .n _ v _, .xH => v
 | .n l _ _, .xO p => l.get p
 | .n _ _ r, .xI p => r.get p
noncomputable def PT.de (p : Pos) : PT → (Value → Bool) → Bool :=
 Pos.rec (motive := fun _ => PT → (Value → Bool) → Bool)
  (fun t k => PT.casesOn (motive := fun _ => Bool) t (k undef) (fun _ v _ => k v))
  (fun _ ih t k => PT.casesOn (motive := fun _ => Bool) t (k undef) (fun l _ _ => ih l k))
  (fun _ ih t k => PT.casesOn (motive := fun _ => Bool) t (k undef) (fun _ _ r => ih r k)) p
theorem PT.jv : ∀ (p : Pos) (t : PT) (k : Value → Bool), PT.de p t k = k (t.get p)
 | .xH, .e, k => rfl
 | .xH, .n _ _ _, k => rfl
 | .xO p, .e, k => rfl
 | .xO p, .n l _ _, k => PT.jv p l k
 | .xI p, .e, k => rfl
 | .xI p, .n _ _ r, k => PT.jv p r k
def PT.set : PT → Pos → Value → PT
 | .e, .xH, v => .n .e v .e
 | .n l _ r, .xH, v => .n l v r
 | .e, .xO p, v => .n (PT.set .e p v) undef .e
 | .n l u r, .xO p, v => .n (PT.set l p v) u r
 | .e, .xI p, v => .n .e undef (PT.set .e p v)
 | .n l u r, .xI p, v => .n l u (PT.set r p v)
noncomputable def PT.fW (p : Pos) : PT → Value → (PT → Bool) → Bool :=
 Pos.rec (motive := fun _ => PT → Value → (PT → Bool) → Bool)
  (fun t v k => PT.casesOn (motive := fun _ => Bool) t (k (.n .e v .e)) (fun l _ r => k (.n l v r)))
  (fun _ ih t v k => PT.casesOn (motive := fun _ => Bool) t (ih .e v fun l => k (.n l undef .e)) (fun l u r => ih l v fun l' => k (.n l' u r)))
  (fun _ ih t v k => PT.casesOn (motive := fun _ => Bool) t (ih .e v fun r => k (.n .e undef r)) (fun l u r => ih r v fun r' => k (.n l u r'))) p
theorem PT.lb : ∀ (p : Pos) (t : PT) (v : Value) (k : PT → Bool), PT.fW p t v k = k (t.set p v)
 | .xH, .e, v, k => rfl
 | .xH, .n l _ r, v, k => rfl
 | .xO p, .e, v, k => PT.lb p _ _ _
 | .xO p, .n l u r, v, k => PT.lb p _ _ _
 | .xI p, .e, v, k => PT.lb p _ _ _
 | .xI p, .n l u r, v, k => PT.lb p _ _ _
theorem PT.TT (p : Pos) : PT.get .e p = undef := by cases p <;> rfl
theorem PT.c7 : ∀ (p : Pos) (t : PT) (v : Value) (q : Pos), (t.set p v).get q = if q = p then v else t.get q
 | .xH, .e, v, q => by cases q <;> simp [PT.set, PT.get]
 | .xH, .n l u r, v, q => by cases q <;> simp [PT.set, PT.get]
 | .xO p, .e, v, q => by cases q <;> simp [PT.set, PT.get, PT.c7 p]
 | .xO p, .n l u r, v, q => by cases q <;> simp [PT.set, PT.get, PT.c7 p]
 | .xI p, .e, v, q => by cases q <;> simp [PT.set, PT.get, PT.c7 p]
 | .xI p, .n l u r, v, q => by cases q <;> simp [PT.set, PT.get, PT.c7 p]
inductive NT (α : Type) where
 | e
 | n (l : NT α) (v : Option α) (r : NT α)
def NT.get {α : Type} : NT α → Nat → Option α
 | .e, _ => none
 | .n l v r, i => bif Nat.beq i 0 then v else bif Nat.beq (Nat.mod i 2) 1 then l.get (Nat.div i 2) else r.get (Nat.pred (Nat.div i 2))
noncomputable def NT.de {α : Type} (t : NT α) : Nat → (α → Bool) → Bool :=
 NT.rec (motive := fun _ => Nat → (α → Bool) → Bool) (fun _ _ => false)
  (fun _ v _ il ir i k => Nat.rec (motive := fun _ => Bool) (Option.rec (motive := fun _ => Bool) false (fun x => k x) v)
   (fun _ _ => Bool.rec (motive := fun _ => Bool) (ir (Nat.pred (Nat.div i 2)) k) (il (Nat.div i 2) k) (Nat.beq (Nat.mod i 2) 1)) i) t
theorem NT.LB {α : Type} (l : NT α) (v : Option α) (r : NT α) (i : Nat) (k : α → Bool) : (NT.n l v r).de i k =
 bif Nat.beq i 0 then (match v with | some x => k x | none => false) else bif Nat.beq (Nat.mod i 2) 1 then l.de (Nat.div i 2) k else r.de (Nat.pred (Nat.div i 2)) k := by
 cases i with
 | zero => cases v <;> rfl
 | succ i =>
  show Bool.rec (motive := fun _ => Bool) (r.de (Nat.pred (Nat.div (i + 1) 2)) k) (l.de (Nat.div (i + 1) 2) k) (Nat.beq (Nat.mod (i + 1) 2) 1) = bif false then _ else _
  cases Nat.beq (Nat.mod (i + 1) 2) 1 <;> rfl
theorem NT.uU {α : Type} : ∀ (t : NT α) (i : Nat) (k : α → Bool), t.de i k = true → ∃ x, t.get i = some x ∧ k x = true
 | .e, i, k, h => by cases h
 | .n l v r, i, k, h => by
  rw [NT.LB] at h
  rw [NT.get]
  cases h0 : Nat.beq i 0 with
  | true =>
   rw [h0] at h
   cases v with
   | none => simp at h
   | some x => exact ⟨x, rfl, by simpa using h⟩
  | false =>
   cases h1 : Nat.beq (Nat.mod i 2) 1 with
   | true => rw [h0, h1] at h; exact NT.uU l _ k (by simpa using h)
   | false => rw [h0, h1] at h; exact NT.uU r _ k (by simpa using h)
noncomputable def NT.fW {α : Type} (f : Nat) : NT α → Nat → Option α → (NT α → Bool) → Bool :=
 Nat.rec (motive := fun _ => NT α → Nat → Option α → (NT α → Bool) → Bool) (fun _ _ _ _ => false)
  (fun _ ih t i v k => Nat.rec (motive := fun _ => Bool)
   (NT.casesOn (motive := fun _ => Bool) t (k (.n .e v .e)) (fun l _ r => k (.n l v r)))
   (fun _ _ => Bool.rec (motive := fun _ => Bool)
    (NT.casesOn (motive := fun _ => Bool) t (ih .e (Nat.pred (Nat.div i 2)) v (fun r => k (.n .e none r))) (fun l u r => ih r (Nat.pred (Nat.div i 2)) v (fun r' => k (.n l u r'))))
    (NT.casesOn (motive := fun _ => Bool) t (ih .e (Nat.div i 2) v (fun l => k (.n l none .e))) (fun l u r => ih l (Nat.div i 2) v (fun l' => k (.n l' u r))))
    (Nat.beq (Nat.mod i 2) 1)) i) f
theorem NT.sy {α : Type} (f : Nat) (t : NT α) (i : Nat) (v : Option α) (k : NT α → Bool) : NT.fW (f + 1) t i v k =
 bif Nat.beq i 0 then
  (match t with | .e => k (.n .e v .e) | .n l _ r => k (.n l v r))
 else bif Nat.beq (Nat.mod i 2) 1 then
  (match t with | .e => NT.fW f .e (Nat.div i 2) v (fun l => k (.n l none .e)) | .n l u r => NT.fW f l (Nat.div i 2) v (fun l' => k (.n l' u r)))
 else
  (match t with | .e => NT.fW f .e (Nat.pred (Nat.div i 2)) v (fun r => k (.n .e none r)) | .n l u r => NT.fW f r (Nat.pred (Nat.div i 2)) v (fun r' => k (.n l u r'))) := by
 cases i with
 | zero => cases t <;> rfl
 | succ i =>
  cases h : Nat.beq (Nat.mod (i + 1) 2) 1 <;> cases t <;> simp only [NT.fW, h] <;> rfl
def NT.iy {α : Type} (t : NT α) (i : Nat) (v : Option α) (t' : NT α) : Prop := t'.get i = v ∧ ∀ j, j ≠ i → t'.get j = t.get j
theorem LC {α : Type} {c : Bool} {a b : α} (h : c = true) : (bif c then a else b) = a := by subst h; rfl
theorem xA {α : Type} {c : Bool} {a b : α} (h : c = false) : (bif c then a else b) = b := by subst h; rfl
theorem j7 {a b : Nat} (h : a = b) : Nat.beq a b = true := by subst h; exact Nat.beq_refl a
theorem eO {a b : Nat} (h : a ≠ b) : Nat.beq a b = false := by
 cases h' : Nat.beq a b with
 | false => rfl
 | true => exact absurd (Nat.eq_of_beq_eq_true h') h
theorem TU (j : Nat) : Nat.mod (2 * j + 1) 2 = 1 := by show (2 * j + 1) % 2 = 1; omega
theorem TV (j : Nat) : Nat.mod (2 * j + 2) 2 ≠ 1 := by show (2 * j + 2) % 2 ≠ 1; omega
theorem TW (j : Nat) : Nat.div (2 * j + 1) 2 = j := by show (2 * j + 1) / 2 = j; omega
theorem TX (j : Nat) : Nat.pred (Nat.div (2 * j + 2) 2) = j := by show Nat.pred ((2 * j + 2) / 2) = j; simp only [Nat.pred_eq_sub_one]; omega
theorem NT.na {α : Type} (l : NT α) (v : Option α) (r : NT α) (j : Nat) : (NT.n l v r).get (2 * j + 1) = l.get j := by
 rw [NT.get, xA (eO (by omega)), LC (j7 (TU j)), TW]
theorem NT.nb {α : Type} (l : NT α) (v : Option α) (r : NT α) (j : Nat) : (NT.n l v r).get (2 * j + 2) = r.get j := by
 rw [NT.get, xA (eO (by omega)), xA (eO (TV j)), TX]
theorem NT.sA (i : Nat) : i = 0 ∨ (∃ j, i = 2 * j + 1) ∨ (∃ j, i = 2 * j + 2) := by
 by_cases h : i = 0
 · exact .inl h
 · by_cases h2 : i % 2 = 1
   · exact .inr (.inl ⟨i / 2, by omega⟩)
   · exact .inr (.inr ⟨i / 2 - 1, by omega⟩)
def n8 (i : Nat) : Nat := Nat.succ (Nat.log2 (Nat.succ i))
def NT.oa {α : Type} : Nat → NT α → Nat → Option α → NT α
 | 0, t, _, _ => t
 | f + 1, t, i, v => bif Nat.beq i 0 then (match t with | .e => .n .e v .e | .n l _ r => .n l v r)
  else bif Nat.beq (Nat.mod i 2) 1 then (match t with | .e => .n (NT.oa f .e (Nat.div i 2) v) none .e | .n l u r => .n (NT.oa f l (Nat.div i 2) v) u r)
  else (match t with | .e => .n .e none (NT.oa f .e (Nat.pred (Nat.div i 2)) v) | .n l u r => .n l u (NT.oa f r (Nat.pred (Nat.div i 2)) v))
def NT.set {α : Type} (t : NT α) (i : Nat) (v : Option α) : NT α := NT.oa (n8 i) t i v
theorem acq {i : Nat} (h : i ≠ 0) : Nat.log2 (Nat.succ (Nat.div i 2)) < Nat.log2 (Nat.succ i) ∨ Nat.mod i 2 ≠ 1 := by
 by_cases h1 : Nat.mod i 2 = 1
 · left
   have h2 : i + 1 ≥ 2 := by omega
   rw [Nat.log2_def (i + 1), if_pos h2]
   have : (i + 1) / 2 = Nat.succ (Nat.div i 2) := by
    show (i + 1) / 2 = i / 2 + 1
    have gM : i % 2 = 1 := h1
    omega
   rw [this]; exact Nat.lt_succ_self _
 · exact .inr h1
theorem acr {i : Nat} (h : i ≠ 0) (h1 : Nat.mod i 2 ≠ 1) : Nat.log2 (Nat.succ (Nat.pred (Nat.div i 2))) < Nat.log2 (Nat.succ i) := by
 have h2 : i + 1 ≥ 2 := by omega
 rw [show Nat.succ i = i + 1 from rfl, Nat.log2_def (i + 1), if_pos h2]
 have : (i + 1) / 2 = Nat.succ (Nat.pred (Nat.div i 2)) := by
  show (i + 1) / 2 = Nat.pred (i / 2) + 1
  have gM : ¬ i % 2 = 1 := h1
  rw [Nat.pred_eq_sub_one]
  omega
 rw [this]; exact Nat.lt_succ_self _
theorem NT.acs {α : Type} : ∀ (f : Nat) (t : NT α) (i : Nat) (v : Option α) (k : NT α → Bool), Nat.log2 (Nat.succ i) < f → NT.fW f t i v k = k (NT.oa f t i v) := by
 intro f
 induction f with
 | zero => intro t i v k h; exact absurd h (Nat.not_lt_zero _)
 | succ f ih =>
  intro t i v k h
  cases h0 : Nat.beq i 0 with
  | true => cases t <;> (rw [NT.sy, NT.oa]; simp only [h0, cond_true])
  | false =>
   have hi : i ≠ 0 := fun e => by subst e; cases h0
   cases h1 : Nat.beq (Nat.mod i 2) 1 with
   | true =>
    have hm : Nat.mod i 2 = 1 := Nat.eq_of_beq_eq_true h1
    have hl : Nat.log2 (Nat.succ (Nat.div i 2)) < f := by
     rcases acq hi with h2 | h2
     · omega
     · exact absurd hm h2
    cases t with
    | e => rw [NT.sy, NT.oa]; simp only [h0, h1, cond_true, cond_false]; exact ih .e _ v _ hl
    | n l u r => rw [NT.sy, NT.oa]; simp only [h0, h1, cond_true, cond_false]; exact ih l _ v _ hl
   | false =>
    have hm : Nat.mod i 2 ≠ 1 := fun e => by rw [e] at h1; cases h1
    have hl : Nat.log2 (Nat.succ (Nat.pred (Nat.div i 2))) < f := by have := acr hi hm; omega
    cases t with
    | e => rw [NT.sy, NT.oa]; simp only [h0, h1, cond_false]; exact ih .e _ v _ hl
    | n l u r => rw [NT.sy, NT.oa]; simp only [h0, h1, cond_false]; exact ih r _ v _ hl
theorem NT.lb {α : Type} (t : NT α) (i : Nat) (v : Option α) (k : NT α → Bool) : NT.fW (n8 i) t i v k = k (t.set i v) := NT.acs _ _ _ _ _ (Nat.lt_succ_self _)
theorem NT.EV {α : Type} : ∀ (f : Nat) (t : NT α) (i : Nat) (v : Option α) (k : NT α → Bool), NT.fW f t i v k = true → ∃ t', t.iy i v t' ∧ k t' = true := by
 intro f
 induction f with
 | zero => intro t i v k h; cases h
 | succ f ih =>
  intro t i v k h
  rcases NT.sA i with rfl | ⟨j, rfl⟩ | ⟨j, rfl⟩
  · rw [NT.sy] at h
    rw [LC (j7 rfl)] at h
    cases t with
    | e =>
     refine ⟨_, ⟨rfl, fun q hq => ?_⟩, h⟩
     rcases NT.sA q with rfl | ⟨q, rfl⟩ | ⟨q, rfl⟩
     · exact absurd rfl hq
     · rw [NT.na]; rfl
     · rw [NT.nb]; rfl
    | n l u r =>
     refine ⟨_, ⟨rfl, fun q hq => ?_⟩, h⟩
     rcases NT.sA q with rfl | ⟨q, rfl⟩ | ⟨q, rfl⟩
     · exact absurd rfl hq
     · rw [NT.na, NT.na]
     · rw [NT.nb, NT.nb]
  · rw [NT.sy] at h
    rw [xA (eO (by omega)), LC (j7 (TU j)), TW] at h
    cases t with
    | e =>
     obtain ⟨t', ⟨h1, h2⟩, h3⟩ := ih _ _ _ _ h
     refine ⟨_, ⟨by rw [NT.na]; exact h1, fun q hq => ?_⟩, h3⟩
     rcases NT.sA q with rfl | ⟨q, rfl⟩ | ⟨q, rfl⟩
     · rfl
     · rw [NT.na, h2 q (by omega)]; rfl
     · rw [NT.nb]; rfl
    | n l u r =>
     obtain ⟨t', ⟨h1, h2⟩, h3⟩ := ih _ _ _ _ h
     refine ⟨_, ⟨by rw [NT.na]; exact h1, fun q hq => ?_⟩, h3⟩
     rcases NT.sA q with rfl | ⟨q, rfl⟩ | ⟨q, rfl⟩
     · rfl
     · rw [NT.na, h2 q (by omega), NT.na]
     · rw [NT.nb, NT.nb]
  · rw [NT.sy] at h
    rw [xA (eO (by omega)), xA (eO (TV j)), TX] at h
    cases t with
    | e =>
     obtain ⟨t', ⟨h1, h2⟩, h3⟩ := ih _ _ _ _ h
     refine ⟨_, ⟨by rw [NT.nb]; exact h1, fun q hq => ?_⟩, h3⟩
     rcases NT.sA q with rfl | ⟨q, rfl⟩ | ⟨q, rfl⟩
     · rfl
     · rw [NT.na]; rfl
     · rw [NT.nb, h2 q (by omega)]; rfl
    | n l u r =>
     obtain ⟨t', ⟨h1, h2⟩, h3⟩ := ih _ _ _ _ h
     refine ⟨_, ⟨by rw [NT.nb]; exact h1, fun q hq => ?_⟩, h3⟩
     rcases NT.sA q with rfl | ⟨q, rfl⟩ | ⟨q, rfl⟩
     · rfl
     · rw [NT.na, NT.na]
     · rw [NT.nb, h2 q (by omega), NT.nb]
theorem NT.TY {α : Type} (t : NT α) (i : Nat) (v : Option α) : t.iy i v (t.set i v) := by
 classical
 obtain ⟨t', h1, h2⟩ := NT.EV (n8 i) t i v (fun t' => decide (t' = t.set i v)) (by rw [NT.lb]; simp)
 have : t' = t.set i v := by simpa using h2
 rw [← this]; exact h1
theorem NT.c7 {α : Type} (t : NT α) (i : Nat) (v : Option α) (j : Nat) : (t.set i v).get j = if j = i then v else t.get j := by
 have h := NT.TY t i v
 by_cases e : j = i
 · rw [if_pos e, e]; exact h.1
 · rw [if_neg e]; exact h.2 j e
inductive dL where
 | t (p : Pos)
 | c (v : Value)
inductive PX where
 | bad
 | cat
 | acu (op : BinOp)
 | sub (lo hi : Bool)
 | acv
 | acw (ty : TypeId) (zero : List Value)
 | acx
 | acy (l : List (TypeId × Nat))
 | same
 | TZ (neg : Bool)
 | acz
 | acA (ty : TypeId)
 | acB
 | acC
 | zN
 | uI
 | entry
inductive Prim where
 | move
 | pick
 | alloc (ty : TypeId) (zero : List Value)
 | box (ty : TypeId)
 | build (zero : List Value) (places : List (Nat × Nat))
 | db (uV : List Nat)
 | buildSlice (ty : TypeId) (n : Nat) (cells : List Value) (places : List (Nat × Nat))
 | aI
 | bF (n : Nat)
 | store (n : Nat)
 | nilCheck
 | fieldAddr (off : Nat)
 | LD (off : Nat)
 | acD (off n : Nat)
 | cd (sz : Nat)
 | acE (len sz : Nat)
 | qv (len : Nat)
 | I5 (len sz : Nat)
 | T0
 | slice (sz : Nat) (lo hi mx : Bool)
 | ann (lo hi : Bool)
 | T1 (n sz : Nat) (lo hi mx : Bool)
 | aL (op : BinOp)
 | T2 (op : BinOp)
 | oc (nk : Nat) (neg : Bool)
 | EW (neg : Bool)
 | T3 (neg : Bool) (ks : List Nat)
 | neg
 | eY
 | conv (k : IntKind)
 | uF (fn : Fn) (ano : Nat)
 | acF (ty : TypeId)
 | mkMap
 | mkSlice (ty : TypeId) (sz : Nat) (zero : List Value)
 | lookup (kc : Nat) (zero : Value) (ok : Bool)
 | pv (kc : Nat)
 | extract (i : Nat)
 | cx
 | acG
 | xq
 | acH (n : Nat)
 | append (ty : TypeId) (sz : Nat) (zero : List Value)
 | copy (sz : Nat)
 | acI
 | acJ
 | T4 (ty : TypeId) (zero : Value)
 | LF
 | LG
 | x (e : PX)
inductive iH where
 | aO (p : Prim)
 | call (f : FuncId)
 | dyn
 | recover
 | panic
 | defer
structure bf where
 dst : Option Pos
 act : iH
 args : List dL
 guard : Option (Pos × Bool)
inductive iI where
 | op (i : Nat) (o : bf)
 | lf (i : Nat) (o : bf)
inductive cN where
 | skip
 | ops (l : List bf)
 | draw (l : List iI)
 | seq (a b : cN)
 | cond (c : dL) (a b : cN)
 | block (id : Nat) (c : cN)
 | loop (c : cN)
 | mC (f : dL) (params : List Pos) (assign body : cN)
 | exit (id : Nat)
 | ret
inductive kE where
 | tmp (p : Pos)
 | cell (p : Pos) (n : Option Nat)
structure gB where
 ntmps : Nat
 results : List kE
 code : cN
 det : Bool
inductive eB where
 | od (r : Nat)
 | fn (f : FuncId) (args : List Value)
structure j8 where
 state : LoopState
 dm : Option Code
 fn : FuncId
 tm : PT
 params : List Pos
 assign : cN
 body : cN
 defs : Nat
 nt : Nat
inductive AO where
 | cells (lo hi : Nat) (ty : TypeId) (rw : Bool) (c : NT Value)
 | map (es : List (Value × Value × Nat)) (clock : Nat)
 | loop (l : j8)
 | defs (taken : Bool)
 | lN (s : ByteArray) (pos : Nat)
 | eC (m : Option Nat) (since : Nat) (seen : List Nat) (last : Nat)
structure AH where
 nx : Nat
 ob : NT AO
def aU : Nat := 1180591620717411303424
inductive Mp where
 | live (b d n : Nat)
 | dead
abbrev aE := Nat → Option Mp
inductive sB (φ : aE) : Fn → Fn → Prop where
 | func (f : FuncId) : sB φ (.func f) (.func f)
 | method (s : String) : sB φ (.method s) (.method s)
 | yield (l l' : Nat) (h : φ l ≠ none) (hl : ∀ b d n, φ l = some (.live b d n) → l' = b) : sB φ (.yield l) (.yield l')
def AtR (φ : aE) (a a' : Addr) : Prop := ∀ b d n, φ a.block = some (.live b d n) → a'.block = b ∧ a'.off + d = a.off ∧ a'.spot = none
def qF (φ : aE) (a a' : Addr) (len cap cH : Nat) : Prop :=
 (cap < aU ∧ cH = cap ∧ len ≤ cap ∧ (0 < cap → AtR φ a a')) ∨
 (∃ sz, cap = aU + sz ∧ 0 < sz ∧ len ≤ cH ∧ (0 < cH → AtR φ a a' ∧ ∀ b d n, φ a.block = some (.live b d n) → a'.off + cH * sz ≤ n))
mutual
inductive VR (φ : aE) : Value → Value → Prop where
 | bool (b : Bool) : VR φ (.bool b) (.bool b)
 | int (k : IntKind) (n : Int) : VR φ (.int k n) (.int k n)
 | str (s : ByteArray) : VR φ (.string s) (.string s)
 | EX : VR φ (.pointer none) (.pointer none)
 | ptr (a a' : Addr) (h : φ a.block ≠ none) (ha : AtR φ a a') : VR φ (.pointer (some a)) (.pointer (some a'))
 | lO : VR φ (.slice none 0 0) (.slice none 0 0)
 | sl (a a' : Addr) (len cap cH : Nat) (h : φ a.block ≠ none) (hc : qF φ a a' len cap cH) : VR φ (.slice (some a) len cap) (.slice (some a') len cH)
 | T5 : VR φ (.map none) (.map none)
 | map (r r' : Nat) (h : φ r ≠ none) (hr : ∀ b d n, φ r = some (.live b d n) → r' = b) : VR φ (.map (some r)) (.map (some r'))
 | LH : VR φ .nilFunc .nilFunc
 | func (fn qG : Fn) (first jw bD iX : Array Value) (hf : sB φ fn qG) (h1 : LR φ first.toList jw.toList) (h2 : LR φ bD.toList iX.toList) : VR φ (.func fn first bD) (.func qG jw iX)
 | xB : VR φ .nilIface .nilIface
 | iface (t : TypeId) (v v' : Value) (h : VR φ v v') : VR φ (.iface t v) (.iface t v')
 | agg (cs cf : Array Value) (h : LR φ cs.toList cf.toList) : VR φ (.agg cs) (.agg cf)
 | fx (cs cf : Array Value) (h : LR φ cs.toList cf.toList) : VR φ (.tuple cs) (.tuple cf)
inductive LR (φ : aE) : List Value → List Value → Prop where
 | nil : LR φ [] []
 | cons (v v' : Value) (l l' : List Value) (h : VR φ v v') (hl : LR φ l l') : LR φ (v :: l) (v' :: l')
end
structure Ext (N : Nat) (φ φ' : aE) : Prop where
 old : ∀ f m, φ f = some m → φ' f = some m ∨ φ' f = some .dead
 out : ∀ f, f < N → φ f = none → φ' f = none
theorem Ext.refl (N : Nat) (φ : aE) : Ext N φ φ := ⟨fun _ _ h => .inl h, fun _ _ h => h⟩
theorem Ext.trans {N N' : Nat} {φ φ' φ'' : aE} (h : Ext N φ φ') (h' : Ext N' φ' φ'') (hN : N ≤ N') : Ext N φ φ'' := by
 refine ⟨fun f m hm => ?_, fun f hf hn => h'.out f (Nat.lt_of_lt_of_le hf hN) (h.out f hf hn)⟩
 rcases h.old f m hm with h1 | h1
 · exact h'.old f m h1
 · rcases h'.old f _ h1 with h2 | h2
   · exact .inr h2
   · exact .inr h2
theorem Ext.ch {N : Nat} {φ φ' : aE} (h : Ext N φ φ') {f : Nat} (hf : φ f ≠ none) : φ' f ≠ none := by
 cases hm : φ f with
 | none => exact absurd hm hf
 | some m => rcases h.old f m hm with h1 | h1 <;> simp [h1]
theorem Ext.live {N : Nat} {φ φ' : aE} (h : Ext N φ φ') {f b d n : Nat} (hf : φ f ≠ none) (hl : φ' f = some (.live b d n)) : φ f = some (.live b d n) := by
 cases hm : φ f with
 | none => exact absurd hm hf
 | some m =>
  rcases h.old f m hm with h1 | h1
  · rw [h1] at hl; exact hl
  · rw [h1] at hl; cases hl
theorem sB.ext {N : Nat} {φ φ' : aE} (h : Ext N φ φ') {f f' : Fn} (hf : sB φ f f') : sB φ' f f' := by
 cases hf with
 | func f => exact .func f
 | method s => exact .method s
 | yield l l' h1 h2 => exact .yield l l' (h.ch h1) (fun b d n hl => h2 b d n (h.live h1 hl))
theorem AtR.ext {N : Nat} {φ φ' : aE} (h : Ext N φ φ') {a a' : Addr} (hs : φ a.block ≠ none) (ha : AtR φ a a') : AtR φ' a a' :=
 fun b d n hl => ha b d n (h.live hs hl)
theorem qF.ext {N : Nat} {φ φ' : aE} (h : Ext N φ φ') {a a' : Addr} {len cap cH : Nat} (hs : φ a.block ≠ none) (ha : qF φ a a' len cap cH) : qF φ' a a' len cap cH := by
 rcases ha with ⟨h1, h2, hl, h3⟩ | ⟨sz, h1, h2, h3, h4⟩
 · exact .inl ⟨h1, h2, hl, fun hp => (h3 hp).ext h hs⟩
 · exact .inr ⟨sz, h1, h2, h3, fun hp => ⟨(h4 hp).1.ext h hs, fun b d n hl => (h4 hp).2 b d n (h.live hs hl)⟩⟩
mutual
theorem VR.ext {N : Nat} {φ φ' : aE} (h : Ext N φ φ') {v v' : Value} : VR φ v v' → VR φ' v v'
 | .bool b => .bool b
 | .int k n => .int k n
 | .str s => .str s
 | .EX => .EX
 | .ptr a a' h1 h2 => .ptr a a' (h.ch h1) (h2.ext h h1)
 | .lO => .lO
 | .sl a a' len cap cH h1 h2 => .sl a a' len cap cH (h.ch h1) (h2.ext h h1)
 | .T5 => .T5
 | .map r r' h1 h2 => .map r r' (h.ch h1) (fun b d n hl => h2 b d n (h.live h1 hl))
 | .LH => .LH
 | .func fn qG first jw bD iX hf h1 h2 => .func fn qG first jw bD iX (hf.ext h) (LR.ext h h1) (LR.ext h h2)
 | .xB => .xB
 | .iface t v v' h1 => .iface t v v' (VR.ext h h1)
 | .agg cs cf h1 => .agg cs cf (LR.ext h h1)
 | .fx cs cf h1 => .fx cs cf (LR.ext h h1)
theorem LR.ext {N : Nat} {φ φ' : aE} (h : Ext N φ φ') {l l' : List Value} : LR φ l l' → LR φ' l l'
 | .nil => .nil
 | .cons v v' l l' h1 h2 => .cons v v' l l' (VR.ext h h1) (LR.ext h h2)
end
theorem VR.undef (φ : aE) : VR φ undef undef := .fx #[] #[] .nil
theorem LR.length {φ : aE} : ∀ {l l' : List Value}, LR φ l l' → l.length = l'.length
 | _, _, .nil => rfl
 | _, _, .cons _ _ _ _ _ h => by simp [LR.length h]
theorem LR.append {φ : aE} {m m' : List Value} (hm : LR φ m m') : ∀ {l l' : List Value}, LR φ l l' → LR φ (l ++ m) (l' ++ m')
 | _, _, .nil => hm
 | _, _, .cons v v' l l' h hl => .cons v v' _ _ h (LR.append hm hl)
theorem LR.get {φ : aE} : ∀ {l l' : List Value}, LR φ l l' → ∀ (i : Nat) (v : Value), l[i]? = some v → ∃ v', l'[i]? = some v' ∧ VR φ v v'
 | _, _, .nil, i, v, h => by simp at h
 | _, _, .cons a a' l l' h hl, 0, v, e => by simp at e; subst e; exact ⟨a', by simp, h⟩
 | _, _, .cons a a' l l' h hl, i + 1, v, e => by
  simp at e
  obtain ⟨v', h1, h2⟩ := LR.get hl i v e
  exact ⟨v', by simpa using h1, h2⟩
theorem LR.LJ {φ : aE} : ∀ {l l' : List Value}, l.length = l'.length → (∀ (i : Nat) (v v' : Value), l[i]? = some v → l'[i]? = some v' → VR φ v v') → LR φ l l'
 | [], [], _, _ => .nil
 | a :: l, a' :: l', hl, h => .cons a a' l l' (h 0 a a' (by simp) (by simp)) (LR.LJ (by simpa using hl) (fun i v v' e e' => h (i + 1) v v' (by simpa using e) (by simpa using e')))
 | [], _ :: _, hl, _ => by simp at hl
 | _ :: _, [], hl, _ => by simp at hl
theorem LR.drop {φ : aE} : ∀ (n : Nat) {l l' : List Value}, LR φ l l' → LR φ (l.drop n) (l'.drop n)
 | 0, _, _, h => by simpa using h
 | n + 1, _, _, .nil => by simpa using LR.nil
 | n + 1, _, _, .cons _ _ _ _ _ h => by simpa using LR.drop n h
theorem LR.take {φ : aE} : ∀ (n : Nat) {l l' : List Value}, LR φ l l' → LR φ (l.take n) (l'.take n)
 | 0, _, _, _ => by simpa using LR.nil
 | n + 1, _, _, .nil => by simpa using LR.nil
 | n + 1, _, _, .cons _ _ _ _ h hl => by simpa using LR.cons _ _ _ _ h (LR.take n hl)
theorem VR.cells {φ : aE} {v v' : Value} (h : VR φ v v') : LR φ v.cells.toList v'.cells.toList := by
 cases h <;> simp only [Value.cells] <;> first
  | assumption
  | exact .cons _ _ _ _ (by constructor <;> assumption) .nil
def TR (φ : aE) (t : PT) (n : Nat) (tm : Array Value) : Prop := n ≤ tm.size ∧ ∀ p : Pos, VR φ (t.get p) (tm.getD p.un undef)
def DR (φ : aE) : eB → Deferred → Prop
 | .od r, d => φ r ≠ none ∧ ∃ r', d = { target := .collected r', args := #[] } ∧ ∀ b d n, φ r = some (.live b d n) → r' = b
 | .fn f args, d => ∃ bD args', d = { target := .fn (.func f) bD, args := args' } ∧ LR φ args (args' ++ bD).toList
inductive DL (φ : aE) : List eB → List Deferred → Prop where
 | nil : DL φ [] []
 | cons (d : eB) (d' : Deferred) (l : List eB) (l' : List Deferred) (h : DR φ d d') (hl : DL φ l l') : DL φ (d :: l) (d' :: l')
theorem DR.ext {N : Nat} {φ φ' : aE} (h : Ext N φ φ') {d : eB} {d' : Deferred} (hd : DR φ d d') : DR φ' d d' := by
 cases d with
 | od r =>
  obtain ⟨h1, r', e, h2⟩ := hd
  exact ⟨h.ch h1, r', e, fun b d n hl => h2 b d n (h.live h1 hl)⟩
 | fn f args =>
  obtain ⟨bD, args', e, h1⟩ := hd
  exact ⟨bD, args', e, LR.ext h h1⟩
theorem DL.ext {N : Nat} {φ φ' : aE} (h : Ext N φ φ') : ∀ {l : List eB} {l' : List Deferred}, DL φ l l' → DL φ' l l'
 | _, _, .nil => .nil
 | _, _, .cons d d' l l' h1 h2 => .cons d d' l l' (h1.ext h) (DL.ext h h2)
theorem TR.ext {N : Nat} {φ φ' : aE} (h : Ext N φ φ') {t : PT} {n : Nat} {tm : Array Value} (ht : TR φ t n tm) : TR φ' t n tm :=
 ⟨ht.1, fun p => VR.ext h (ht.2 p)⟩
theorem TR.set {φ : aE} {t : PT} {n : Nat} {tm : Array Value} (ht : TR φ t n tm) (p : Pos) (hp : p.un < n) {v v' : Value} (hv : VR φ v v') :
 TR φ (t.set p v) n (tm.setIfInBounds p.un v') := by
 refine ⟨by simp [ht.1], fun q => ?_⟩
 rw [PT.c7]
 by_cases h : q = p
 · subst h
   rw [if_pos rfl]
   have : q.un < tm.size := Nat.lt_of_lt_of_le hp ht.1
   simpa [Array.getD, this] using hv
 · rw [if_neg h]
   have cS : p.un ≠ q.un := fun e => h (Pos.sx e).symm
   have := ht.2 q
   simpa [Array.getD_eq_getD_getElem?, Array.getElem?_setIfInBounds_ne cS] using this
end Go.Ve
namespace Go.Ve
noncomputable section
abbrev KV := Value → AH → Bool
def fN (n : Nat) (k : Nat → Bool) : Bool := Nat.casesOn (motive := fun _ => Bool) n (k 0) (fun m => k (.succ m))
def fI (n : Int) (k : Int → Bool) : Bool := Int.casesOn (motive := fun _ => Bool) n (fun a => fN a fun a => k (.ofNat a)) (fun a => fN a fun a => k (.negSucc a))
def fB (b : Bool) (k : Bool → Bool) : Bool := Bool.casesOn (motive := fun _ => Bool) b (k false) (k true)
theorem bT (n : Nat) (k : Nat → Bool) : fN n k = k n := by cases n <;> rfl
theorem ot (n : Int) (k : Int → Bool) : fI n k = k n := by cases n <;> simp [fI, bT]
theorem ia (b : Bool) (k : Bool → Bool) : fB b k = k b := by cases b <;> rfl
def iff (c : Bool) (k : Bool) : Bool := Bool.casesOn (motive := fun _ => Bool) c false k
theorem iff_eq (c k : Bool) : iff c k = true ↔ c = true ∧ k = true := by cases c <;> simp [iff]
def lq : Int → Int → Bool
 | .ofNat a, .ofNat b => Nat.beq a b
 | .negSucc a, .negSucc b => Nat.beq a b
 | _, _ => false
def lW : Int → Int → Bool
 | .ofNat a, .ofNat b => Nat.ble (.succ a) b
 | .negSucc a, .negSucc b => Nat.ble (.succ b) a
 | .negSucc _, .ofNat _ => true
 | .ofNat _, .negSucc _ => false
def fy : IntKind → IntKind → Bool
 | .i8, .i8 => true | .i16, .i16 => true | .i32, .i32 => true | .i64, .i64 => true
 | .u8, .u8 => true | .u16, .u16 => true | .u32, .u32 => true | .u64, .u64 => true
 | _, _ => false
def qX : Nat := 9223372036854775807
def bH (k : IntKind) (n : Int) : Int := match k with
 | .i64 => (match n with
  | .ofNat a => bif Nat.ble a qX then n else IntKind.i64.wrap n
  | .negSucc a => bif Nat.ble a qX then n else IntKind.i64.wrap n)
 | k => k.wrap n
def Vg (k : IntKind) (x y : Int) (c : Value → Bool) : Bool := fI (bH k (Int.add x y)) fun n => c (.int k n)
def Vh (k : IntKind) (x y : Int) (c : Value → Bool) : Bool := fI (bH k (Int.sub x y)) fun n => c (.int k n)
def Vi (k : IntKind) (x y : Int) (c : Value → Bool) : Bool := fI (bH k (Int.mul x y)) fun n => c (.int k n)
def Vj (k : IntKind) (x y : Int) (c : Value → Bool) : Bool := bif lq y (.ofNat 0) then false else fI (bH k (Int.tdiv x y)) fun n => c (.int k n)
def Vk (k : IntKind) (x y : Int) (c : Value → Bool) : Bool := bif lq y (.ofNat 0) then false else fI (Int.tmod x y) fun n => c (.int k n)
def Vl (_ : IntKind) (x y : Int) (c : Value → Bool) : Bool := fB (lq x y) fun b => c (.bool b)
def Vm (_ : IntKind) (x y : Int) (c : Value → Bool) : Bool := fB (!lq x y) fun b => c (.bool b)
def Vn (_ : IntKind) (x y : Int) (c : Value → Bool) : Bool := fB (lW x y) fun b => c (.bool b)
def Vo (_ : IntKind) (x y : Int) (c : Value → Bool) : Bool := fB (!lW y x) fun b => c (.bool b)
def Vp (_ : IntKind) (x y : Int) (c : Value → Bool) : Bool := fB (lW y x) fun b => c (.bool b)
def Vq (_ : IntKind) (x y : Int) (c : Value → Bool) : Bool := fB (!lW x y) fun b => c (.bool b)
def Vr (k : IntKind) (x y : Int) (c : Value → Bool) : Bool := match k, x, y with
 | .u64, .ofNat a, .ofNat b => bif Nat.ble a 18446744073709551615 && Nat.ble b 18446744073709551615 then fN (Nat.land a b) fun n => c (.int .u64 (.ofNat n)) else false
 | _, _, _ => false
def Vs (_ : IntKind) (_ _ : Int) (_ : Value → Bool) : Bool := false
def MQ (op : BinOp) : IntKind → Int → Int → (Value → Bool) → Bool := match op with
 | .add => Vg
 | .sub => Vh
 | .mul => Vi
 | .quo => Vj
 | .rem => Vk
 | .eql => Vl
 | .neq => Vm
 | .lss => Vn
 | .leq => Vo
 | .gtr => Vp
 | .geq => Vq
 | .and => Vr
 | _ => Vs
def MR (k : IntKind) (x y : Int) (c : Value → Bool) : Bool := match k, x, y with
 | .u64, .ofNat a, .ofNat b => bif Nat.ble b 64 then fN (Nat.shiftRight a b) fun n => c (.int .u64 (.ofNat n)) else false
 | _, _, _ => false
def mK : List UInt8 → List UInt8 → Bool
 | [], [] => true
 | a :: l, b :: m => bif Nat.beq a.toNat b.toNat then mK l m else false
 | _, _ => false
def a0 (vs : List Value) (k : Bool) : Bool := List.casesOn (motive := fun _ => Bool) vs k (fun _ _ => false)
def a1 (vs : List Value) (k : Value → Bool) : Bool := List.casesOn (motive := fun _ => Bool) vs false (fun x vs => a0 vs (k x))
def a2 (vs : List Value) (k : Value → Value → Bool) : Bool := List.casesOn (motive := fun _ => Bool) vs false (fun x vs => a1 vs (k x))
def a3 (vs : List Value) (k : Value → Value → Value → Bool) : Bool := List.casesOn (motive := fun _ => Bool) vs false (fun x vs => a2 vs (k x))
def nF (l : List Value) : Nat → (Value → Bool) → Bool :=
 List.rec (motive := fun _ => Nat → (Value → Bool) → Bool) (fun _ _ => false) (fun x _ ih n k => Nat.casesOn (motive := fun _ => Bool) n (k x) (fun n => ih n k)) l
def pP (l : List Value) : Nat → (List Value → Bool) → Bool :=
 List.rec (motive := fun _ => Nat → (List Value → Bool) → Bool) (fun n k => Nat.casesOn (motive := fun _ => Bool) n (k []) (fun _ => false))
  (fun x _ ih n k => Nat.casesOn (motive := fun _ => Bool) n (k []) (fun n => ih n fun l' => k (x :: l'))) l
def pQ (l : List Value) : Nat → (List Value → Bool) → Bool :=
 List.rec (motive := fun _ => Nat → (List Value → Bool) → Bool) (fun n k => Nat.casesOn (motive := fun _ => Bool) n (k []) (fun _ => false))
  (fun x l ih n k => Nat.casesOn (motive := fun _ => Bool) n (k (x :: l)) (fun n => ih n k)) l
def kK (l : List Value) : List Value → (List Value → Bool) → Bool :=
 List.rec (motive := fun _ => List Value → (List Value → Bool) → Bool) (fun vs k => List.casesOn (motive := fun _ => Bool) vs (k []) (fun _ _ => false))
  (fun x l ih vs k => List.casesOn (motive := fun _ => Bool) vs (k (x :: l)) (fun v vs => ih vs fun l' => k (v :: l'))) l
def np (l : List Value) : Nat → List Value → (List Value → Bool) → Bool :=
 List.rec (motive := fun _ => Nat → List Value → (List Value → Bool) → Bool) (fun n vs k => Nat.casesOn (motive := fun _ => Bool) n (kK [] vs k) (fun _ => false))
  (fun x l ih n vs k => Nat.casesOn (motive := fun _ => Bool) n (kK (x :: l) vs k) (fun n => ih n vs fun l' => k (x :: l'))) l
def hY (l : List Value) : Nat → Bool :=
 List.rec (motive := fun _ => Nat → Bool) (fun n => Nat.casesOn (motive := fun _ => Bool) n true (fun _ => false))
  (fun _ _ ih n => Nat.casesOn (motive := fun _ => Bool) n false (fun n => ih n)) l
def cellsOf (v : Value) : List Value := match v with
 | .agg ⟨l⟩ => l
 | v => [v]
def iL (l : List Value) (ps : List (Nat × Nat)) : List Value → (List Value → Bool) → Bool :=
 List.rec (motive := fun _ => List Value → List Value → (List Value → Bool) → Bool)
  (fun l vs k => List.casesOn (motive := fun _ => Bool) vs (k l) (fun _ _ => false))
  (fun p _ ih l vs k => List.casesOn (motive := fun _ => Bool) vs false (fun v vs => Prod.casesOn (motive := fun _ => Bool) p fun off sz =>
   bif hY (cellsOf v) sz then np l off (cellsOf v) fun l' => ih l' vs k else false)) ps l
def dZ : Value → Bool
 | .agg _ => false
 | .tuple _ => false
 | _ => true
def cO (l : List Value) : Bool :=
 List.rec (motive := fun _ => Bool) true (fun v _ ih => bif dZ v then ih else false) l
def gO (l : List Value) (m : List Value) : (List Value → Bool) → Bool :=
 List.rec (motive := fun _ => (List Value → Bool) → Bool) (fun k => k m) (fun x _ ih k => ih fun l' => k (x :: l')) l
def vm (c : NT Value) (i : Nat) (l : List Value) : (NT Value → Bool) → Bool :=
 List.rec (motive := fun _ => NT Value → Nat → (NT Value → Bool) → Bool) (fun c _ k => k c)
  (fun v _ ih c i k => NT.fW (n8 i) c i (some v) fun c' => fN (Nat.succ i) fun i' => ih c' i' k) l c i
def nG (c : NT Value) (i : Nat) (n : Nat) : (List Value → Bool) → Bool :=
 Nat.rec (motive := fun _ => Nat → (List Value → Bool) → Bool) (fun _ k => k [])
  (fun _ ih i k => NT.de c i fun v => fN (Nat.succ i) fun i' => ih i' fun l => k (v :: l)) n i
def mL (h : AH) (b : Nat) (k : AO → Bool) : Bool := AH.casesOn (motive := fun _ => Bool) h fun _ ob => NT.de ob b k
def fM (h : AH) (b : Nat) (o : Option AO) (k : AH → Bool) : Bool := AH.casesOn (motive := fun _ => Bool) h fun nx ob => NT.fW (n8 b) ob b o fun aS => k ⟨nx, aS⟩
def kL (h : AH) (o : AO) (k : Nat → AH → Bool) : Bool := AH.casesOn (motive := fun _ => Bool) h fun nx ob => NT.fW (n8 nx) ob nx (some o) fun aS => fN (Nat.succ nx) fun pR => k nx ⟨pR, aS⟩
def jT (h : AH) (ty : TypeId) (l : List Value) (k : Nat → AH → Bool) : Bool :=
 iff (cO l) (vm .e 0 l fun c => fN l.length fun n => kL h (.cells 0 n ty true c) k)
def kM (h : AH) (b : Nat) (k : Nat → Nat → TypeId → Bool → NT Value → Bool) : Bool :=
 mL h b fun o => AO.casesOn (motive := fun _ => Bool) o k (fun _ _ => false) (fun _ => false) (fun _ => false) (fun _ _ => false) (fun _ _ _ _ => false)
def jA (h : AH) (b : Nat) (k : List (Value × Value × Nat) → Nat → Bool) : Bool :=
 mL h b fun o => AO.casesOn (motive := fun _ => Bool) o (fun _ _ _ _ _ => false) k (fun _ => false) (fun _ => false) (fun _ _ => false) (fun _ _ _ _ => false)
def mJ (h : AH) (b : Nat) (k : j8 → Bool) : Bool :=
 mL h b fun o => AO.casesOn (motive := fun _ => Bool) o (fun _ _ _ _ _ => false) (fun _ _ => false) k (fun _ => false) (fun _ _ => false) (fun _ _ _ _ => false)
def x8 (h : AH) (b : Nat) (k : Bool → Bool) : Bool :=
 mL h b fun o => AO.casesOn (motive := fun _ => Bool) o (fun _ _ _ _ _ => false) (fun _ _ => false) (fun _ => false) k (fun _ _ => false) (fun _ _ _ _ => false)
def Vt (h : AH) (b : Nat) (k : ByteArray → Nat → Bool) : Bool :=
 mL h b fun o => AO.casesOn (motive := fun _ => Bool) o (fun _ _ _ _ _ => false) (fun _ _ => false) (fun _ => false) (fun _ => false) k (fun _ _ _ _ => false)
def sT (h : AH) (b : Nat) (k : Option Nat → Nat → List Nat → Nat → Bool) : Bool :=
 mL h b fun o => AO.casesOn (motive := fun _ => Bool) o (fun _ _ _ _ _ => false) (fun _ _ => false) (fun _ => false) (fun _ => false) (fun _ _ => false) k
def kI (h : AH) (b off n : Nat) (k : List Value → Bool) : Bool :=
 kM h b fun lo hi _ _ c => iff (Nat.ble lo off && Nat.ble (Nat.add off n) hi) (nG c off n k)
def pM (h : AH) (b off : Nat) (k : Value → Bool) : Bool :=
 kM h b fun lo hi _ _ c => iff (Nat.ble lo off && Nat.ble (Nat.succ off) hi) (NT.de c off k)
def pS (h : AH) (b off : Nat) (l : List Value) (k : AH → Bool) : Bool :=
 kM h b fun lo hi ty rw c => iff (rw && Nat.ble lo off && Nat.ble (Nat.add off l.length) hi && cO l)
  (vm c off l fun c' => fM h b (some (.cells lo hi ty rw c')) k)
def lX {α : Type} : α → Bool := fun _ => false
def hZ (v : Value) (k : Nat → Nat → Bool) : Bool := match v with
 | .pointer (some a) => Addr.casesOn (motive := fun _ => Bool) a fun b o _ => k b o
 | _ => false
def qY (v : Value) (k : List Value → Bool) : Bool := match v with
 | .agg a => Array.casesOn (motive := fun _ => Bool) a k
 | _ => false
def FB (v : Value) (k : List Value → Bool) : Bool := match v with
 | .tuple a => Array.casesOn (motive := fun _ => Bool) a k
 | _ => false
def qZ (v : Value) (k : Bool → Bool) : Bool := match v with
 | .bool b => k b
 | _ => false
def jU (v : Value) (k : IntKind → Int → Bool) : Bool := match v with
 | .int kd n => k kd n
 | _ => false
def iB (v : Value) (k : ByteArray → Bool) : Bool := match v with
 | .string s => k s
 | _ => false
def jV (v : Value) (kn : Bool) (k : Nat → Nat → Nat → Nat → Bool) : Bool := match v with
 | .slice none _ _ => kn
 | .slice (some a) l c => Addr.casesOn (motive := fun _ => Bool) a fun b o _ => k b o l c
 | _ => false
def vn (v : Value) (kn : Bool) (k : Nat → Bool) : Bool := match v with
 | .map none => kn
 | .map (some r) => k r
 | _ => false
def aC (b o : Nat) : Value := .pointer (some ⟨b, o, none⟩)
def nH (v : Value) (k : Nat → Bool) : Bool := jU v fun _ n => Int.casesOn (motive := fun _ => Bool) n k lX
def nI (b : Bool) (vs : List Value) (d : Nat) (k : Nat → List Value → Bool) : Bool := Bool.casesOn (motive := fun _ => Bool) b (k d vs)
 (List.casesOn (motive := fun _ => Bool) vs false fun v vs => nH v fun n => k n vs)
def iN : Nat → Value → Option Bool
 | 0, .pointer none => some true
 | 0, .pointer (some _) => some false
 | 1, .slice none _ _ => some true
 | 1, .slice (some _) _ _ => some false
 | 2, .map none => some true
 | 2, .map (some _) => some false
 | 3, .nilFunc => some true
 | 3, .func _ _ _ => some false
 | 4, .nilIface => some true
 | 4, .iface _ _ => some false
 | _, _ => none
def lh : Nat → Value → Value → Option Bool
 | 0, .int k a, .int l b => bif fy k l then some (lq a b) else none
 | 1, .bool a, .bool b => some (bif a then b else !b)
 | 2, .string a, .string b => some (mK a.data.toList b.data.toList)
 | _, _, _ => none
def vo : List Nat → List Value → List Value → Option Bool
 | [], [], [] => some true
 | kc :: ks, a :: l, b :: m => match lh kc a b with
  | some true => vo ks l m
  | some false => some false
  | none => none
 | _, _, _ => none
def q7 (o : Option Bool) (ng : Bool) (k : Value → Bool) : Bool := match o with
 | some b => fB (bif ng then !b else b) fun b => k (.bool b)
 | none => false
def q8 (sz l h m cap : Nat) (MS : Bool) (b o : Nat) (k : Value → Bool) : Bool :=
 fN (Nat.sub h l) fun n =>
 bif Nat.ble aU cap && !MS then
  fN (Nat.add o (Nat.mul l sz)) fun o' => k (.slice (some ⟨b, o', none⟩) n cap)
 else
  iff (Nat.ble (Nat.succ m) aU) (bif Nat.beq m l then k (.slice (some ⟨b, o, none⟩) n 0)
  else fN (Nat.add o (Nat.mul l sz)) fun o' => fN (Nat.sub m l) fun c => k (.slice (some ⟨b, o', none⟩) n c))
def uX (kc : Nat) : List (Value × Value × Nat) → Value → (Option Value → Bool) → Bool
 | [], _, k => k none
 | (a, v, _) :: es, x, k => match lh kc x a with
  | some true => k (some v)
  | some false => uX kc es x k
  | none => false
def nn (kc : Nat) : List (Value × Value × Nat) → Value → Value → Nat → (List (Value × Value × Nat) → Nat → Bool) → Bool
 | [], x, y, cl, k => fN (Nat.succ cl) fun iO => k [(x, y, cl)] iO
 | (a, v, b) :: es, x, y, cl, k => match lh kc x a with
  | some true => k ((x, y, b) :: es) cl
  | some false => nn kc es x y cl fun cn iO => k ((a, v, b) :: cn) iO
  | none => false
def z8 : Nat → Value → Bool
 | 0, .int _ _ => true
 | 1, .bool _ => true
 | 2, .string _ => true
 | _, _ => false
def xD (n : Nat) (zero : List Value) (k : List Value → Bool) : Bool :=
 Nat.rec (motive := fun _ => (List Value → Bool) → Bool) (fun k => k []) (fun _ ih k => ih fun l => gO zero l k) n k
def AS (vs : List Value) : Bool := List.casesOn (motive := fun _ => Bool) vs true (fun _ _ => false)
def kN (h : AH) (sz : Nat) (x : Value) (k : Nat → List Value → Bool) : Bool :=
 jV x (k 0 []) fun b o n _ => bif Nat.beq n 0 then k 0 [] else kI h b o (Nat.mul n sz) fun l => k n l
def u9 (ss : List Nat) (vs : List Value) : (List Value → Bool) → Bool :=
 List.rec (motive := fun _ => List Value → (List Value → Bool) → Bool) (fun vs k => a0 vs (k []))
  (fun n _ ih vs k => List.casesOn (motive := fun _ => Bool) vs false fun v vs => iff (hY (cellsOf v) n) (ih vs fun l => gO (cellsOf v) l k)) ss vs
def AT : Value → Bool
 | .pointer none => false
 | .nilIface => false
 | .nilFunc => false
 | .func (.method _) _ _ => false
 | _ => true
def MT (op : BinOp) (kx : IntKind) (a : Int) (ky : IntKind) (b : Int) (k : Value → Bool) : Bool := match op with
 | .shl => false
 | .shr => MR kx a b k
 | op => iff (fy kx ky) (MQ op kx a b k)
def MU (op : BinOp) (a b : ByteArray) (k : Value → Bool) : Bool := match op with
 | .eql => fB (mK a.data.toList b.data.toList) fun b => k (.bool b)
 | .neq => fB (!mK a.data.toList b.data.toList) fun b => k (.bool b)
 | _ => false
def AU (x y : Option Bool) (ng : Bool) (k : Value → Bool) : Bool := match x, y with
 | some true, some b => q7 (some b) ng k
 | some b, some true => q7 (some b) ng k
 | _, _ => false
def EZ (zero : Value) (ok : Bool) (h : AH) (k : KV) (o : Option Value) : Bool := match o, ok with
 | none, true => k (.tuple ⟨[zero, .bool false]⟩) h
 | none, false => k zero h
 | some v, true => k (.tuple ⟨[v, .bool true]⟩) h
 | some v, false => k v h
def ya (h : AH) (ty : TypeId) (sz n : Nat) (xs : List Value) (k : KV) : Bool :=
 bif Nat.beq n 0 then k (.slice none 0 0) h else iff (Nat.ble n 1048576) (jT h ty xs fun b h => fN (Nat.add aU sz) fun cp => k (.slice (some ⟨b, 0, none⟩) n cp) h)
def FC (h : AH) (ty : TypeId) (sz : Nat) (xs : List Value) (b o len cap gS : Nat) (k : KV) : Bool :=
 iff (Nat.beq cap (Nat.add aU sz)) (kM h b fun lo hi bU rw c =>
  iff (rw && Nat.beq bU ty && Nat.ble lo o && Nat.ble (Nat.add o (Nat.mul len sz)) hi && cO xs)
   (fM h b none fun h => fN (Nat.add o (Nat.mul len sz)) fun at_ => vm c at_ xs fun c' => fN (Nat.add o (Nat.mul gS sz)) fun cz =>
    kL h (.cells o cz ty true c') fun b' h => k (.slice (some ⟨b', o, none⟩) gS cap) h))
def yb (h : AH) (ty : TypeId) (sz n : Nat) (xs : List Value) (k : KV) (b o len cap : Nat) : Bool :=
 bif Nat.beq n 0 then k (.slice (some ⟨b, o, none⟩) len cap) h else
 fN (Nat.add len n) fun gS => iff (Nat.ble gS 1048576) (
 bif Nat.ble aU cap then FC h ty sz xs b o len cap gS k
 else bif Nat.ble gS cap then
  fN (Nat.add o (Nat.mul len sz)) fun at_ => pS h b at_ xs fun h => k (.slice (some ⟨b, o, none⟩) gS cap) h
 else bif Nat.beq len 0 then jT h ty xs fun b' h => fN (Nat.add aU sz) fun cp => k (.slice (some ⟨b', 0, none⟩) gS cp) h
 else kI h b o (Nat.mul len sz) fun old => gO old xs fun l => jT h ty l fun b' h => fN (Nat.add aU sz) fun cp => k (.slice (some ⟨b', 0, none⟩) gS cp) h)
def LZ (ty : TypeId) (zero : Value) (x : Value) (k : Value → Bool) : Bool := match x with
 | .nilIface => k (.tuple ⟨[zero, .bool false]⟩)
 | .iface t v => bif Nat.beq t ty then k (.tuple ⟨[v, .bool true]⟩) else k (.tuple ⟨[zero, .bool false]⟩)
 | _ => false
def Ul (h : AH) (b : Nat) (k : KV) (s : ByteArray) (pos : Nat) : Bool := match s.data.toList[pos]? with
 | some c => bif Nat.ble (Nat.succ c.toNat) 128 then (fN (Nat.succ pos) fun pos' => fM h b (some (.lN s pos')) fun h =>
  fN c.toNat fun n => k (.tuple ⟨[.bool true, .int .i64 (.ofNat pos), .int .i32 (.ofNat n)]⟩) h)
  else fM h b (some (.lN s (pos + (Utf8.decode s pos).2))) fun h => k (.tuple ⟨[.bool true, .int .i64 (.ofNat pos), .int .i32 (.ofNat (Utf8.decode s pos).1)]⟩) h
 | none => k (.tuple ⟨[.bool false]⟩) h
def MV (vs : List Value) (h : AH) (k : KV) : Bool := a1 vs fun x => k x h
def MW (vs : List Value) (h : AH) (k : KV) : Bool := a3 vs fun c a b => qZ c fun t => Bool.casesOn (motive := fun _ => Bool) t (k b h) (k a h)
def Vu (ty : TypeId) (zero : List Value) (vs : List Value) (h : AH) (k : KV) : Bool := a0 vs (jT h ty zero fun b h => k (aC b 0) h)
def Vv (ty : TypeId) (vs : List Value) (h : AH) (k : KV) : Bool := a1 vs fun v => jT h ty (cellsOf v) fun b h => k (aC b 0) h
def Vw (zero : List Value) (places : List (Nat × Nat)) (vs : List Value) (h : AH) (k : KV) : Bool := iL zero places vs fun l => k (.agg ⟨l⟩) h
def Vx (uV : List Nat) (vs : List Value) (h : AH) (k : KV) : Bool := u9 uV vs fun l => k (.agg ⟨l⟩) h
def Ut (ty : TypeId) (n : Nat) (cells : List Value) (places : List (Nat × Nat)) (vs : List Value) (h : AH) (k : KV) : Bool := iL cells places vs fun l => jT h ty l fun b h => k (.slice (some ⟨b, 0, none⟩) n n) h
def MX (vs : List Value) (h : AH) (k : KV) : Bool := a1 vs fun p => hZ p fun b o => pM h b o fun v => k v h
def MY (n : Nat) (vs : List Value) (h : AH) (k : KV) : Bool := a1 vs fun p => hZ p fun b o => kI h b o n fun l => k (.agg ⟨l⟩) h
def Vy (n : Nat) (vs : List Value) (h : AH) (k : KV) : Bool := a2 vs fun p v => hZ p fun b o => iff (hY (cellsOf v) n) (pS h b o (cellsOf v) fun h => k undef h)
def MZ (vs : List Value) (h : AH) (k : KV) : Bool := a1 vs fun x => iff (AT x) (k x h)
def M0 (off : Nat) (vs : List Value) (h : AH) (k : KV) : Bool := a1 vs fun p => hZ p fun b o => fN (Nat.add o off) fun o' => k (aC b o') h
def M1 (off : Nat) (vs : List Value) (h : AH) (k : KV) : Bool := a1 vs fun x => qY x fun l => nF l off fun v => k v h
def M3 (off n : Nat) (vs : List Value) (h : AH) (k : KV) : Bool := a1 vs fun x => qY x fun l => pQ l off fun l => pP l n fun l => k (.agg ⟨l⟩) h
def M4 (sz : Nat) (vs : List Value) (h : AH) (k : KV) : Bool := a2 vs fun x i => nH i fun i => jV x false fun b o len _ => iff (Nat.ble (Nat.succ i) len) (fN (Nat.add o (Nat.mul i sz)) fun o' => k (aC b o') h)
def M5 (len sz : Nat) (vs : List Value) (h : AH) (k : KV) : Bool := a2 vs fun x i => nH i fun i => hZ x fun b o => iff (Nat.ble (Nat.succ i) len) (fN (Nat.add o (Nat.mul i sz)) fun o' => k (aC b o') h)
def M6 (len : Nat) (vs : List Value) (h : AH) (k : KV) : Bool := a2 vs fun x i => nH i fun i => qY x fun l => iff (Nat.ble (Nat.succ i) len) (nF l i fun v => k v h)
def M7 (len sz : Nat) (vs : List Value) (h : AH) (k : KV) : Bool := a2 vs fun x i => nH i fun i => qY x fun l => iff (Nat.ble (Nat.succ i) len) (pQ l (Nat.mul i sz) fun l => pP l sz fun l => k (.agg ⟨l⟩) h)
def FD (vs : List Value) (h : AH) (k : KV) : Bool := a2 vs fun x i => nH i fun i => iB x fun s => (match s.data.toList[i]? with | some c => fN c.toNat fun n => k (.int .u8 (.ofNat n)) h | none => false)
def AV (sz : Nat) (lo hi mx : Bool) (vs : List Value) (h : AH) (k : KV) : Bool := List.casesOn (motive := fun _ => Bool) vs false fun x vs => jV x
 (nI lo vs 0 fun l vs => nI hi vs 0 fun hh vs => iff (Nat.beq l 0 && Nat.beq hh 0 && !mx && AS vs) (k (.slice none 0 0) h))
 fun b o len cap => nI lo vs 0 fun l vs => nI hi vs len fun hh vs => nI mx vs cap fun m vs =>
  iff (AS vs && Nat.ble l hh && Nat.ble hh m && (Nat.ble hh len || !(Nat.ble aU cap)) && (bif mx then Nat.ble m (bif Nat.ble aU cap then len else cap) else true) && (bif Nat.ble aU cap then Nat.beq cap (Nat.add aU sz) else true))
   (q8 sz l hh m cap mx b o fun v => k v h)
def Vz (lo hi : Bool) (vs : List Value) (h : AH) (k : KV) : Bool := iff (lo && hi && AS vs && false) (k undef h)
def AW (n sz : Nat) (lo hi mx : Bool) (vs : List Value) (h : AH) (k : KV) : Bool := List.casesOn (motive := fun _ => Bool) vs false fun x vs => hZ x fun b o => nI lo vs 0 fun l vs => nI hi vs n fun hh vs => nI mx vs n fun m vs =>
      iff (AS vs && Nat.ble l hh && Nat.ble hh m && Nat.ble m n) (q8 sz l hh m n true b o fun v => k v h)
def FE (op : BinOp) (vs : List Value) (h : AH) (k : KV) : Bool := a2 vs fun x y => jU x fun kx a => jU y fun ky b => MT op kx a ky b fun v => k v h
def FF (op : BinOp) (vs : List Value) (h : AH) (k : KV) : Bool := a2 vs fun x y => iB x fun a => iB y fun b => MU op a b fun v => k v h
def FG (nk : Nat) (ng : Bool) (vs : List Value) (h : AH) (k : KV) : Bool := a2 vs fun x y => AU (iN nk x) (iN nk y) ng fun v => k v h
def M8 (ng : Bool) (vs : List Value) (h : AH) (k : KV) : Bool := a2 vs fun x y => qZ x fun a => qZ y fun b => fB (bif ng then (bif a then !b else b) else (bif a then b else !b)) fun c => k (.bool c) h
def M9 (ng : Bool) (ks : List Nat) (vs : List Value) (h : AH) (k : KV) : Bool := a2 vs fun x y => qY x fun l => qY y fun m => q7 (vo ks l m) ng fun v => k v h
def Na (vs : List Value) (h : AH) (k : KV) : Bool := a1 vs fun x => jU x fun kd n => fI (bH kd (Int.sub (.ofNat 0) n)) fun n => k (.int kd n) h
def Nb (vs : List Value) (h : AH) (k : KV) : Bool := a1 vs fun x => qZ x fun b => fB (!b) fun b => k (.bool b) h
def Nc (kd : IntKind) (vs : List Value) (h : AH) (k : KV) : Bool := a1 vs fun x => jU x fun _ n => fI (bH kd n) fun n => k (.int kd n) h
def Nd (fn : Fn) (nf : Nat) (vs : List Value) (h : AH) (k : KV) : Bool := pP vs nf fun a => pQ vs nf fun b => k (.func fn ⟨a⟩ ⟨b⟩) h
def Nf (ty : TypeId) (vs : List Value) (h : AH) (k : KV) : Bool := a1 vs fun x => k (.iface ty x) h
def VA (vs : List Value) (h : AH) (k : KV) : Bool := a0 vs (kL h (.map [] 0) fun b h => k (.map (some b)) h)
def Uc (ty : TypeId) (sz : Nat) (zero : List Value) (vs : List Value) (h : AH) (k : KV) : Bool := a2 vs fun l c => nH l fun l => nH c fun c => iff (Nat.ble l c && Nat.ble c 65536 && hY zero sz) (xD c zero fun cs => jT h ty cs fun b h => k (.slice (some ⟨b, 0, none⟩) l c) h)
def LW (kc : Nat) (zero : Value) (ok : Bool) (vs : List Value) (h : AH) (k : KV) : Bool := a2 vs fun m x => iff (z8 kc x) (vn m (EZ zero ok h k none) fun r => jA h r fun es _ => uX kc es x (EZ zero ok h k))
def Uh (kc : Nat) (vs : List Value) (h : AH) (k : KV) : Bool := a3 vs fun m x v => iff (z8 kc x) (vn m false fun r => jA h r fun es cl => nn kc es x v cl fun es cl => fM h r (some (.map es cl)) fun h => k undef h)
def Ng (i : Nat) (vs : List Value) (h : AH) (k : KV) : Bool := a1 vs fun x => FB x fun l => nF l i fun v => k v h
def Nh (vs : List Value) (h : AH) (k : KV) : Bool := a1 vs fun x => jV x (k (.int .i64 (.ofNat 0)) h) fun _ _ n _ => k (.int .i64 (.ofNat n)) h
def Ni (vs : List Value) (h : AH) (k : KV) : Bool := a1 vs fun x => iB x fun s => fN s.data.toList.length fun n => k (.int .i64 (.ofNat n)) h
def Nj (vs : List Value) (h : AH) (k : KV) : Bool := a1 vs fun x => vn x (k (.int .i64 (.ofNat 0)) h) fun r => jA h r fun es _ => fN es.length fun n => k (.int .i64 (.ofNat n)) h
def Nk (n : Nat) (vs : List Value) (h : AH) (k : KV) : Bool := a1 vs fun _ => k (.int .i64 (.ofNat n)) h
def VB (ty : TypeId) (sz : Nat) (zero : List Value) (vs : List Value) (h : AH) (k : KV) : Bool := a2 vs fun s x => kN h sz x fun n xs => iff (Nat.ble 1 sz && hY zero sz) (jV s (ya h ty sz n xs k) (yb h ty sz n xs k))
def T6 (sz : Nat) (vs : List Value) (h : AH) (k : KV) : Bool := a2 vs fun d s => jV d (jV s (k (.int .i64 (.ofNat 0)) h) fun _ _ _ _ => k (.int .i64 (.ofNat 0)) h) fun b o len _ => jV s (k (.int .i64 (.ofNat 0)) h) fun b' o' nh _ =>
      fN (bif Nat.ble nh len then nh else len) fun n => bif Nat.beq n 0 then k (.int .i64 (.ofNat 0)) h else
        kI h b' o' (Nat.mul n sz) fun l => pS h b o l fun h => k (.int .i64 (.ofNat n)) h
def LK (vs : List Value) (h : AH) (k : KV) : Bool := a2 vs fun x y => jU x fun kx a => jU y fun ky b => iff (fy kx ky) (bif lW a b then k (.int kx b) h else k (.int kx a) h)
def LM (vs : List Value) (h : AH) (k : KV) : Bool := a2 vs fun x y => jU x fun kx a => jU y fun ky b => iff (fy kx ky) (bif lW b a then k (.int kx b) h else k (.int kx a) h)
def E6 (ty : TypeId) (zero : Value) (vs : List Value) (h : AH) (k : KV) : Bool := a1 vs fun x => LZ ty zero x fun v => k v h
def Uj (vs : List Value) (h : AH) (k : KV) : Bool := a1 vs fun x => iB x fun s => kL h (.lN s 0) fun b h => k (aC b 0) h
def Uk (vs : List Value) (h : AH) (k : KV) : Bool := a1 vs fun x => hZ x fun b o => iff (Nat.beq o 0) (Vt h b (Ul h b k))
def q9 (l m : List UInt8) : (List UInt8 → Bool) → Bool :=
 List.rec (motive := fun _ => (List UInt8 → Bool) → Bool) (fun k => k m) (fun x _ ih k => ih fun l' => k (x :: l')) l
def FH (l : List UInt8) : Nat → (List UInt8 → Bool) → Bool :=
 List.rec (motive := fun _ => Nat → (List UInt8 → Bool) → Bool) (fun _ k => k [])
  (fun x _ ih n k => Nat.casesOn (motive := fun _ => Bool) n (k []) (fun n => ih n fun l' => k (x :: l'))) l
def FI (l : List UInt8) : Nat → (List UInt8 → Bool) → Bool :=
 List.rec (motive := fun _ => Nat → (List UInt8 → Bool) → Bool) (fun _ k => k [])
  (fun x l ih n k => Nat.casesOn (motive := fun _ => Bool) n (k (x :: l)) (fun n => ih n k)) l
def vq : List UInt8 → List UInt8 → Bool
 | _, [] => false
 | [], _ :: _ => true
 | a :: l, b :: m => bif Nat.ble (Nat.succ a.toNat) b.toNat then true else bif Nat.beq a.toNat b.toNat then vq l m else false
def VC (op : BinOp) (a b : List UInt8) : Option Bool := match op with
 | .lss => some (vq a b)
 | .leq => some (vq a b || mK a b)
 | .gtr => some (!(vq a b || mK a b))
 | .geq => some (!vq a b)
 | _ => none
def aeG (_ : List Value) (_ : AH) (_ : KV) : Bool := false
def VD (vs : List Value) (h : AH) (k : KV) : Bool := a2 vs fun x y => iB x fun a => iB y fun b =>
 iff (Nat.ble (Nat.add a.data.toList.length b.data.toList.length) 9223372036854775807) (q9 a.data.toList b.data.toList fun l => k (.string ⟨⟨l⟩⟩) h)
def VE (op : BinOp) (vs : List Value) (h : AH) (k : KV) : Bool := a2 vs fun x y => iB x fun a => iB y fun b => q7 (VC op a.data.toList b.data.toList) false fun v => k v h
def Nl (lo hi : Bool) (vs : List Value) (h : AH) (k : KV) : Bool := List.casesOn (motive := fun _ => Bool) vs false fun x vs => iB x fun s =>
 nI lo vs 0 fun l vs => nI hi vs s.data.toList.length fun hh vs => iff (AS vs && Nat.ble l hh && Nat.ble hh s.data.toList.length) (FI s.data.toList l fun m => FH m (Nat.sub hh l) fun m => k (.string ⟨⟨m⟩⟩) h)
def VF (vs : List Value) (h : AH) (k : KV) : Bool := a1 vs fun x => jV x (k (.int .i64 (.ofNat 0)) h) fun _ _ _ c => iff (Nat.ble (Nat.succ c) aU) (k (.int .i64 (.ofNat c)) h)
def Nn (l : List UInt8) : (List Value → Bool) → Bool :=
 List.rec (motive := fun _ => (List Value → Bool) → Bool) (fun k => k []) (fun c _ ih k => fN c.toNat fun n => ih fun l => k (.int .u8 (.ofNat n) :: l)) l
def VG (l : List Value) : (List UInt8 → Bool) → Bool :=
 List.rec (motive := fun _ => (List UInt8 → Bool) → Bool) (fun k => k []) (fun v _ ih k => jU v fun kd n => Int.casesOn (motive := fun _ => Bool) n (fun n => iff (fy kd .u8 && Nat.ble (Nat.succ n) 256) (ih fun l => k (UInt8.ofNat n :: l))) lX) l
def VH (ty : TypeId) (zero : List Value) (vs : List Value) (h : AH) (k : KV) : Bool := a2 vs fun s x => iB x fun t => Nn t.data.toList fun xs => fN xs.length fun n =>
 iff (hY zero 1) (jV s (ya h ty 1 n xs k) (yb h ty 1 n xs k))
def VI (vs : List Value) (h : AH) (k : KV) : Bool := a1 vs fun p => hZ p fun b o => kM h b fun lo hi _ _ _ => iff (Nat.ble lo o && Nat.ble (Nat.succ o) hi) (k (aC b o) h)
def FJ (ty hi : Nat) : List (TypeId × Nat) → Bool
 | [] => false
 | (t, n) :: l => bif Nat.beq t ty && Nat.ble n hi then true else FJ ty hi l
def VJ (l : List (TypeId × Nat)) (vs : List Value) (h : AH) (k : KV) : Bool := a1 vs fun p => hZ p fun b o => kM h b fun lo hi ty _ _ => iff (Nat.beq lo 0 && Nat.beq o 0 && FJ ty hi l) (k (aC b o) h)
def VK (vs : List Value) (h : AH) (k : KV) : Bool := a1 vs fun p => k p h
def FK (x y : Value) : Bool := match x, y with
 | .pointer (some a), .pointer (some b) => Nat.beq a.block b.block && Nat.beq a.off b.off
 | _, _ => false
def VL (ng : Bool) (vs : List Value) (h : AH) (k : KV) : Bool := a2 vs fun x y => bif FK x y then hZ x fun b _ => mL h b fun _ => fB (!ng) fun b => k (.bool b) h else AU (iN 0 x) (iN 0 y) ng fun v => k v h
def VM (vs : List Value) (h : AH) (k : KV) : Bool := a1 vs fun s => jV s (k (.pointer none) h) fun b o n _ => iff (Nat.ble 1 n) (k (aC b o) h)
def VN (ty : TypeId) (n : Nat) (h : AH) (k : KV) (a : Addr) : Bool := Addr.casesOn (motive := fun _ => Bool) a fun b o _ =>
 kM h b fun lo hi bU rw c => iff (rw && Nat.beq bU ty && Nat.ble lo o && Nat.ble (Nat.add o n) hi && Nat.ble n 1048576) (nG c o n fun l => VG l fun m => fM h b (some (.cells lo hi bU false c)) fun h => k (.string ⟨⟨m⟩⟩) h)
def VO (ty : TypeId) (vs : List Value) (h : AH) (k : KV) : Bool := a2 vs fun p n => nH n fun n => match p with
 | .pointer q => bif Nat.beq n 0 then k (.string ⟨⟨[]⟩⟩) h else Option.casesOn (motive := fun _ => Bool) q false (VN ty n h k)
 | _ => false
def AY (l : List UInt8) (c : Nat) : Nat := List.rec (motive := fun _ => Nat) 0 (fun b _ ih => bif Nat.beq b.toNat c then Nat.succ ih else ih) l
def FL (c : Nat) : List UInt8 → Nat → (Int → Bool) → Bool
 | [], _, k => k (.negSucc 0)
 | b :: l, i, k => bif Nat.beq b.toNat c then k (.ofNat i) else fN (Nat.succ i) fun i => FL c l i k
def VP (vs : List Value) (h : AH) (k : KV) : Bool := a2 vs fun s c => iB s fun s => jU c fun kd n => Int.casesOn (motive := fun _ => Bool) n (fun n => iff (fy kd .u8 && Nat.ble (Nat.succ n) 256) (fN (AY s.data.toList n) fun n => k (.int .i64 (.ofNat n)) h)) lX
def VQ (vs : List Value) (h : AH) (k : KV) : Bool := a2 vs fun s c => iB s fun s => jU c fun kd n => Int.casesOn (motive := fun _ => Bool) n (fun n => iff (fy kd .u8 && Nat.ble (Nat.succ n) 256) (FL n s.data.toList 0 fun i => k (.int .i64 i) h)) lX
def VS (vs : List Value) (h : AH) (k : KV) : Bool := a1 vs fun m => vn m (kL h (.eC none 0 [] 0) fun b h => k (aC b 0) h) fun r => jA h r fun _ cl => kL h (.eC (some r) cl [] cl) fun b h => k (aC b 0) h
def pN (l : List Nat) (n : Nat) : Bool := List.rec (motive := fun _ => Bool) false (fun m _ ih => bif Nat.beq m n then true else ih) l
def AZ (l : List Nat) (n : Nat) : (List Nat → Bool) → Bool :=
 List.rec (motive := fun _ => (List Nat → Bool) → Bool) (fun k => k [n]) (fun x _ ih k => ih fun l' => k (x :: l')) l
def re (es : List (Value × Value × Nat)) (since : Nat) (seen : List Nat) : (List (Value × Value × Nat) → Bool) → Bool :=
 List.rec (motive := fun _ => (List (Value × Value × Nat) → Bool) → Bool) (fun k => k []) (fun e _ ih k => iff (Nat.ble (Nat.succ e.2.2) since) (bif pN seen e.2.2 then ih k else ih fun l => k (e :: l))) es
def sU (go : Value → Value → Nat → Bool) : List (Value × Value × Nat) → Bool
 | [] => true
 | [(a, v, n)] => go a v n
 | (a, v, n) :: l => iff (go a v n) (sU go l)
def FM (h : AH) (b r since : Nat) (seen : List Nat) (k : KV) (a v : Value) (n : Nat) : Bool :=
 AZ seen n fun aeH => fM h b (some (.eC (some r) since aeH since)) fun h => k (.tuple ⟨[.bool true, a, v]⟩) h
def FN (h : AH) (b r since : Nat) (seen : List Nat) (k : KV) (l : List (Value × Value × Nat)) : Bool := match l with
 | [] => fM h b none fun h => k (.tuple ⟨[.bool false]⟩) h
 | l => sU (FM h b r since seen k) l
def VT (vs : List Value) (h : AH) (k : KV) : Bool := a1 vs fun p => hZ p fun b o => iff (Nat.beq o 0) (sT h b fun m since seen last => Option.casesOn (motive := fun _ => Bool) m (k (.tuple ⟨[.bool false]⟩) h) fun r =>
 jA h r fun es cl => iff (Nat.beq cl since && Nat.beq last since) (re es since seen (FN h b r since seen k)))
def vr (l : List Nat) (k : Nat → Bool) : Bool := match l with
 | [] => false
 | [n] => k n
 | _ :: l => vr l k
def sV (es : List (Value × Value × Nat)) (n : Nat) (k : Value → Value → Bool) : Bool := match es with
 | [] => false
 | (a, v, b) :: es => bif Nat.beq b n then k a v else sV es n k
def VU (vs : List Value) (h : AH) (k : KV) : Bool := a1 vs fun p => hZ p fun b o => iff (Nat.beq o 0) (sT h b fun m _ seen last => Option.casesOn (motive := fun _ => Bool) m false fun r =>
 jA h r fun es cl => iff (Nat.beq cl last) (vr seen fun n => sV es n fun a v => k (.tuple ⟨[a, v]⟩) h))
def PX.ev (p : PX) : List Value → AH → KV → Bool := PX.casesOn (motive := fun _ => List Value → AH → KV → Bool) p aeG VD VE Nl VF
 VH VI VJ VK VL VM VO VP VQ VS VT VU
def Prim.ev (p : Prim) : List Value → AH → KV → Bool := Prim.casesOn (motive := fun _ => List Value → AH → KV → Bool) p
 MV MW Vu Vv Vw Vx Ut MX MY Vy MZ M0 M1 M3 M4 M5 M6 M7 FD AV Vz AW FE FF FG M8 M9 Na Nb Nc Nd Nf VA Uc LW Uh Ng Nh Ni Nj Nk VB T6 LK LM E6 Uj Uk PX.ev
inductive AX where
 | normal
 | exit (id : Nat)
 | ret
 | aN (v : Value)
inductive Rc where
 | off
 | can (v : Value)
 | kH
structure St where
 tm : PT
 df : List eB
 rc : Rc
 h : AH
structure Env where
 fn : FuncId
 nt : Nat
 sI : Option Nat
inductive CR where
 | ret (v : Value)
 | aN (v : Value)
abbrev KS := AX → St → Bool
inductive Task where
 | code (c : cN) (e : Env) (s : St) (k : KS)
 | call (f : FuncId) (args : List Value) (h : AH) (k : CR → AH → Bool)
 | xT (f : FuncId) (args : List Value) (rc : Rc) (h : AH) (k : Rc → AH → Bool)
 | round (l : Nat) (args : List Value) (h : AH) (k : CR → AH → Bool)
 | leave (ds : List eB) (m : Option Value) (h : AH) (k : Option Value → AH → Bool)
def qT (o : dL) (t : PT) (k : Value → Bool) : Bool := dL.casesOn (motive := fun _ => Bool) o (fun p => PT.de p t k) k
def nw (l : List dL) (t : PT) : (List Value → Bool) → Bool :=
 List.rec (motive := fun _ => (List Value → Bool) → Bool) (fun k => k []) (fun o _ ih k => qT o t fun v => ih fun vs => k (v :: vs)) l
def gR (d : Option Pos) (s : St) (v : Value) (h : AH) (k : St → Bool) : Bool := St.casesOn (motive := fun _ => Bool) s fun tm df rc _ =>
 Option.casesOn (motive := fun _ => Bool) d (k ⟨tm, df, rc, h⟩) (fun p => PT.fW p tm v fun Mg => k ⟨Mg, df, rc, h⟩)
def lU (a b : Bool) : Bool := Bool.casesOn (motive := fun _ => Bool) a (Bool.casesOn (motive := fun _ => Bool) b true false) b
def vg (want : Bool) (yes no : Bool) (v : Value) : Bool := match v with
 | .bool b => bif lU b want then yes else no
 | _ => no
def ny (g : Option (Pos × Bool)) (t : PT) (yes no : Bool) : Bool :=
 Option.casesOn (motive := fun _ => Bool) g yes fun pw => Prod.casesOn (motive := fun _ => Bool) pw fun p want => PT.de p t (vg want yes no)
def nr (dst : Option Pos) (s : St) (fail : KS) (k : St → Bool) (r : CR) (h : AH) : Bool :=
 CR.casesOn (motive := fun _ => Bool) r (fun v => gR dst s v h k) (fun v => St.casesOn (motive := fun _ => Bool) s fun tm df rc _ => fail (.aN v) ⟨tm, df, rc, h⟩)
def UF (anq : Task → Bool) (dst : Option Pos) (_ : Env) (s : St) (_ : KS) (k : St → Bool) (vs : List Value) (p : Prim) : Bool :=
 p.ev vs s.h fun v h => gR dst s v h k
def UH (rec : Task → Bool) (dst : Option Pos) (_ : Env) (s : St) (fail : KS) (k : St → Bool) (vs : List Value) (f : FuncId) : Bool :=
 rec (.call f vs s.h (nr dst s fail k))
def sL (v : Value) (kf : Nat → List Value → List Value → Bool) (ky : Nat → Bool) : Bool := match v with
 | .func (.func g) ⟨first⟩ ⟨bD⟩ => kf g first bD
 | .func (.yield l) ⟨[]⟩ ⟨[]⟩ => ky l
 | _ => false
def Mc (rec : Task → Bool) (dst : Option Pos) (_ : Env) (s : St) (fail : KS) (k : St → Bool) (vs : List Value) : Bool :=
 List.casesOn (motive := fun _ => Bool) vs false fun f as => sL f
  (fun g first bD => gO as bD fun l => gO first l fun l => rec (.call g l s.h (nr dst s fail k)))
  (fun l => rec (.round l as s.h (nr dst s fail k)))
def Ap (dst : Option Pos) (e : Env) (s : St) (k : St → Bool) (vs : List Value) : Bool := match e.sI, vs with
 | none, [] => (match s.rc with
  | .can v => gR dst ⟨s.tm, s.df, .kH, s.h⟩ v s.h k
  | _ => gR dst s .nilIface s.h k)
 | _, _ => false
def Fe (s : St) (fail : KS) (vs : List Value) : Bool := a1 vs fun v => match v with
 | .iface t x => fail (.aN (.iface t x)) s
 | _ => false
def As (dst : Option Pos) (e : Env) (s : St) (k : St → Bool) (vs : List Value) : Bool := match e.sI, vs with
 | none, f :: as => sL f (fun g first bD => gO as bD fun l => gO first l fun l => gR dst ⟨s.tm, .fn g l :: s.df, s.rc, s.h⟩ undef s.h k) lX
 | _, _ => false
def xW (rec : Task → Bool) (act : iH) (dst : Option Pos) (e : Env) (s : St) (fail : KS) (k : St → Bool) (vs : List Value) : Bool :=
 iH.casesOn (motive := fun _ => Bool) act (UF rec dst e s fail k vs) (UH rec dst e s fail k vs) (Mc rec dst e s fail k vs)
  (Ap dst e s k vs) (Fe s fail vs) (As dst e s k vs)
def sM (rec : Task → Bool) (o : bf) (e : Env) (s : St) (fail : KS) (k : St → Bool) : Bool :=
 bf.casesOn (motive := fun _ => Bool) o fun dst act args g => ny g s.tm (nw args s.tm (xW rec act dst e s fail k)) (gR dst s undef s.h k)
def Ax (rec : Task → Bool) (l : List bf) (e : Env) (s : St) (k : KS) : Bool :=
 List.rec (motive := fun _ => St → Bool) (fun s => k .normal s) (fun o _ ih s => sM rec o e s k ih) l s
def FO : Value → Value → Bool
 | .bool a, .bool b => bif a then b else !b
 | .int k a, .int l b => bif fy k l then lq a b else false
 | .string a, .string b => mK a.data.toList b.data.toList
 | .pointer none, .pointer none => true
 | .pointer (some a), .pointer (some b) => Nat.beq a.block b.block && Nat.beq a.off b.off
 | .slice none l c, .slice none m d => Nat.beq l m && Nat.beq c d
 | .slice (some a) l c, .slice (some b) m d => Nat.beq a.block b.block && Nat.beq a.off b.off && Nat.beq l m && Nat.beq c d
 | .map none, .map none => true
 | .map (some a), .map (some b) => Nat.beq a b
 | .nilFunc, .nilFunc => true
 | .nilIface, .nilIface => true
 | _, _ => false
def A7 : List Value → List Value → Bool
 | [], [] => true
 | a :: l, b :: m => FO a b && A7 l m
 | _, _ => false
def FP : Value → Value → Bool
 | .func (.func f) ⟨a⟩ ⟨b⟩, .func (.func g) ⟨c⟩ ⟨d⟩ => Nat.beq f g && A7 a c && A7 b d
 | a, b => FO a b
def vt : List Value → List Value → Bool
 | [], [] => true
 | a :: l, b :: m => FP a b && vt l m
 | _, _ => false
def rf (a b : Value) : Bool := match a, b with
 | .agg ⟨l⟩, .agg ⟨m⟩ => vt l m
 | .tuple ⟨l⟩, .tuple ⟨m⟩ => vt l m
 | a, b => FP a b
def Prim.fresh (p : Prim) (vs : List Value) (k : TypeId → List Value → Bool) : Bool := match p with
 | .alloc ty zero => a0 vs (k ty zero)
 | .box ty => a1 vs fun v => k ty (cellsOf v)
 | .buildSlice ty _ cells places => iL cells places vs fun l => k ty l
 | _ => false
def Prim.makes : Prim → Bool
 | .alloc _ _ => true
 | .box _ => true
 | .buildSlice _ _ _ _ => true
 | _ => false
def Np (v : Value) (k : Nat → Bool) : Bool := match v with
 | .pointer (some ⟨b, o, _⟩) => iff (Nat.beq o 0) (k b)
 | .slice (some ⟨b, o, _⟩) _ _ => iff (Nat.beq o 0) (k b)
 | _ => false
def vu (s : St) (v : Value) (ty : TypeId) (l : List Value) : Bool :=
 Np v fun b => kM s.h b fun lo hi bU rw c => iff (rw && Nat.beq lo 0 && Nat.beq hi l.length && Nat.beq ty bU) (nG c 0 l.length fun m => vt m l)
def A8 (v : Value) (v' : Value) (_ : AH) : Bool := rf v' v
def A9 (dst : Option Pos) (s : St) (vs : List Value) (p : Prim) : Bool :=
 Option.casesOn (motive := fun _ => Bool) dst false fun d => PT.de d s.tm fun v => bif p.makes then p.fresh vs (vu s v) else p.ev vs s.h (A8 v)
def yc (o : bf) (s : St) : Bool :=
 bf.casesOn (motive := fun _ => Bool) o fun dst act args g => ny g s.tm (nw args s.tm fun vs =>
  iH.casesOn (motive := fun _ => Bool) act (A9 dst s vs) lX false false false false) true
def nA (rec : Task → Bool) (l : List iI) (e : Env) (s : St) (k : KS) : Bool :=
 List.rec (motive := fun _ => St → Bool) (fun s => k .normal s)
  (fun d _ ih s => iI.casesOn (motive := fun _ => Bool) d (fun _ o => sM rec o e s k ih) (fun _ o => iff (yc o s) (ih s))) l s
def x9 (ps : List Pos) (vs : List Value) (t : PT) (k : PT → Bool) : Bool :=
 List.rec (motive := fun _ => List Value → PT → Bool) (fun vs t => a0 vs (k t)) (fun p _ ih vs t => List.casesOn (motive := fun _ => Bool) vs false fun v vs => PT.fW p t v fun t => ih vs t) ps vs t
def qU (i : Nat) (vs : List Value) (t : PT) (k : PT → Bool) : Bool :=
 List.rec (motive := fun _ => Nat → PT → Bool) (fun _ t => k t) (fun v _ ih i t => PT.fW (Pos.of i) t v fun t => ih (.succ i) t) vs i t
def kj (rs : List kE) (t : PT) (h : AH) (k : List Value → Bool) : Bool := match rs with
 | [] => k []
 | .tmp p :: rs => PT.de p t fun v => kj rs t h fun vs => k (v :: vs)
 | .cell p none :: rs => PT.de p t fun v => hZ v fun b o => pM h b o fun x => kj rs t h fun vs => k (x :: vs)
 | .cell p (some n) :: rs => PT.de p t fun v => hZ v fun b o => kI h b o n fun l => kj rs t h fun vs => k (.agg ⟨l⟩ :: vs)
def AI (vs : List Value) (k : Value → Bool) : Bool := match vs with
 | [v] => k v
 | vs => k (.tuple ⟨vs⟩)
def Ay (rec : Task → Bool) (b : cN) (e : Env) (k : KS) (x : AX) (s : St) : Bool := AX.casesOn (motive := fun _ => Bool) x (rec (.code b e s k)) (fun id => k (.exit id) s) (k .ret s) (fun v => k (.aN v) s)
def aeI (rec : Task → Bool) (e : Env) (s : St) (k : KS) (a b : cN) : Bool := rec (.code a e s (Ay rec b e k))
def aeJ (rec : Task → Bool) (e : Env) (s : St) (k : KS) (c : dL) (a b : cN) : Bool :=
 qT c s.tm fun v => qZ v fun t => Bool.casesOn (motive := fun _ => Bool) t (rec (.code b e s k)) (rec (.code a e s k))
def Mi (id : Nat) (k : KS) (x : AX) (s : St) : Bool := AX.casesOn (motive := fun _ => Bool) x (k .normal s) (fun j => bif Nat.beq j id then k .normal s else k (.exit j) s) (k .ret s) (fun v => k (.aN v) s)
def aeK (rec : Task → Bool) (e : Env) (s : St) (k : KS) (id : Nat) (c : cN) : Bool := rec (.code c e s (Mi id k))
def aeL (rec : Task → Bool) (e : Env) (s : St) (k : KS) (c : cN) : Bool := rec (.code c e s (Ay rec (.loop c) e k))
def j8.iK (r : j8) (st : LoopState) (j : Option Code) : j8 := j8.casesOn (motive := fun _ => j8) r fun _ _ fn tm ps a b d nt => ⟨st, j, fn, tm, ps, a, b, d, nt⟩
def Fh (s : St) (df : List eB) (k : KS) (j : Option Code) (h : AH) : Bool := match j with
 | none => k .normal ⟨s.tm, df, s.rc, h⟩
 | some .ret => k .ret ⟨s.tm, df, s.rc, h⟩
 | some (.exit id) => k (.exit id) ⟨s.tm, df, s.rc, h⟩
 | _ => false
def Nq : LoopState → Bool
 | .busy => false
 | _ => true
def isReady : LoopState → Bool
 | .ready => true
 | _ => false
def Mn (s : St) (df : List eB) (k : KS) (l : Nat) (r : CR) (h : AH) : Bool := CR.casesOn (motive := fun _ => Bool) r
 (fun _ => mJ h l fun r => iff (Nq r.state) (fM h l (some (.loop (r.iK .exhausted r.dm))) (Fh s df k r.dm)))
 (fun v => k (.aN v) ⟨s.tm, df, s.rc, h⟩)
def AA (rec : Task → Bool) (e : Env) (s : St) (k : KS) (params : List Pos) (assign body : cN) (g : Nat) (first bD : List Value) (h : AH) (dl : Nat) (df : List eB) : Bool :=
 kL h (.loop ⟨.ready, none, e.fn, s.tm, params, assign, body, dl, e.nt⟩) fun l h =>
  gO first (.func (.yield l) ⟨[]⟩ ⟨[]⟩ :: bD) fun args => rec (.call g args h (Mn s df k l))
def UX (rec : Task → Bool) (e : Env) (s : St) (k : KS) (f : dL) (params : List Pos) (assign body : cN) : Bool :=
 qT f s.tm fun fv => sL fv (fun g first bD => match e.sI with
  | none => kL s.h (.defs false) fun r h => AA rec e s k params assign body g first bD h r (.od r :: s.df)
  | some l => mJ s.h l fun r => AA rec e s k params assign body g first bD s.h r.defs s.df) lX
def Mt (rec : Task → Bool) (c : cN) (e : Env) (s : St) (k : KS) : Bool := cN.casesOn (motive := fun _ => Bool) c
 (k .normal s) (fun l => Ax rec l e s k) (fun l => nA rec l e s k) (aeI rec e s k) (aeJ rec e s k) (aeK rec e s k) (aeL rec e s k) (UX rec e s k)
 (fun id => k (.exit id) s) (k .ret s)
def AL (results : List kE) (tm : PT) (k : CR → AH → Bool) (m : Option Value) (h : AH) : Bool := match m with
 | none => kj results tm h fun vs => AI vs fun v => k (.ret v) h
 | some v => k (.aN v) h
def U8 (results : List kE) (k : CR → AH → Bool) (m : Option Value) (h : AH) : Bool := match m with
 | none => (match results with | [] => k (.ret (.tuple ⟨[]⟩)) h | _ => false)
 | some v => k (.aN v) h
def AK (rec : Task → Bool) (results : List kE) (k : CR → AH → Bool) (x : AX) (s : St) : Bool := AX.casesOn (motive := fun _ => Bool) x
 (rec (.leave s.df none s.h (AL results s.tm k))) lX (rec (.leave s.df none s.h (AL results s.tm k))) (fun v => rec (.leave s.df (some v) s.h (U8 results k)))
def VV (v : Value) : List Nat := match v with
 | .slice (some a) _ _ => [a.block]
 | .map (some r) => [r]
 | .pointer (some a) => [a.block]
 | _ => []
def VW : List Value → List Nat
 | [] => []
 | v :: l => VV v ++ VW l
def aeM (v : Value) : List Nat := match v with
 | .tuple ⟨l⟩ => VW l
 | v => VV v
def Fv (ch : List Nat) (n : Nat) : Nat → AH → (AH → Bool) → Bool :=
 Nat.rec (motive := fun _ => Nat → AH → (AH → Bool) → Bool) (fun _ h k => k h)
  (fun _ ih b h k => fN (Nat.succ b) fun b' => bif pN ch b then ih b' h k else fM h b none fun h => ih b' h k) n
def MD (h0 : AH) (k : CR → AH → Bool) (v : Value) (h : AH) : Bool := match aeM v with
 | [] => iff (k (.ret v) h) true
 | ch => fN (Nat.sub h.nx h0.nx) fun n => fN h0.nx fun b => Fv ch n b h fun h => iff (k (.ret v) h) true
def jn (det : Bool) (h0 : AH) (k : CR → AH → Bool) : CR → AH → Bool := bif det then fun r h => CR.casesOn (motive := fun _ => Bool) r (fun v => MD h0 k v h) (fun v => k (.aN v) h) else k
abbrev qW := List (FuncId × (List Value → AH → (CR → AH → Bool) → Bool))
def U9 (prog : NT gB) (rec : Task → Bool) (f : FuncId) (args : List Value) (h : AH) (k : CR → AH → Bool) : Bool :=
 NT.de prog f fun fn => gB.casesOn (motive := fun _ => Bool) fn fun nt results code det => qU 0 args .e fun tm =>
  rec (.code code ⟨f, nt, none⟩ ⟨tm, [], .off, h⟩ (AK rec results (jn det h k)))
def Fy (prog : NT gB) (sums : qW) (rec : Task → Bool) (f : FuncId) (args : List Value) (h : AH) (k : CR → AH → Bool) : Bool := match sums with
 | [] => U9 prog rec f args h k
 | (g, S) :: l => bif Nat.beq g f then S args h k else Fy prog l rec f args h k
def sQ (df : List eB) (k : Bool) : Bool := match df with
 | [] => k
 | _ => false
def MJ (k : Rc → AH → Bool) (x : AX) (s : St) : Bool := match x with
 | .normal => sQ s.df (k s.rc s.h)
 | .ret => sQ s.df (k s.rc s.h)
 | _ => false
def Vb (prog : NT gB) (rec : Task → Bool) (f : FuncId) (args : List Value) (rc : Rc) (h : AH) (k : Rc → AH → Bool) : Bool :=
 NT.de prog f fun fn => gB.casesOn (motive := fun _ => Bool) fn fun nt results code _ => List.casesOn (motive := fun _ => Bool) results (qU 0 args .e fun tm =>
  rec (.code code ⟨f, nt, none⟩ ⟨tm, [], rc, h⟩ (MJ k))) fun _ _ => false
def MA (rec : Task → Bool) (ds : List eB) (k : Option Value → AH → Bool) (rc : Rc) (h : AH) : Bool := match rc with
 | .kH => rec (.leave ds none h k)
 | .can v => rec (.leave ds (some v) h k)
 | .off => false
def Mx (rec : Task → Bool) (ds : List eB) (m : Option Value) (h : AH) (k : Option Value → AH → Bool) : Bool := match ds with
 | [] => k m h
 | .od r :: ds => x8 h r fun t => iff (!t) (fM h r (some (.defs true)) fun h => rec (.leave ds m h k))
 | .fn f args :: ds => (match m with
  | none => rec (.xT f args .off h fun _ h => rec (.leave ds none h k))
  | some v => rec (.xT f args (.can v) h (MA rec ds k)))
def AP (l : Nat) (h : AH) (k : CR → AH → Bool) (j : Option Code) (st : LoopState) (b : Bool) : Bool :=
 mJ h l fun r => fM h l (some (.loop (r.iK st j))) fun h => k (.ret (.bool b)) h
def FA (l : Nat) (k : CR → AH → Bool) (x : AX) (s : St) : Bool := sQ s.df (match x with
 | .normal => AP l s.h k none .ready true
 | .ret => AP l s.h k (some .ret) .done false
 | .exit id => AP l s.h k (some (.exit id)) .done false
 | .aN _ => false)
def ML (rec : Task → Bool) (l : Nat) (r0 : j8) (k : CR → AH → Bool) (x : AX) (s : St) : Bool := match x with
 | .normal => mJ s.h l fun r => iff (isReady r.state) (fM s.h l (some (.loop (r.iK .busy r.dm))) fun h =>
  rec (.code r0.body ⟨r0.fn, r0.nt, some l⟩ ⟨s.tm, s.df, s.rc, h⟩ (FA l k)))
 | _ => false
def Vd (rec : Task → Bool) (l : Nat) (args : List Value) (h : AH) (k : CR → AH → Bool) : Bool :=
 mJ h l fun r => x9 r.params args r.tm fun tm => rec (.code r.assign ⟨r.fn, r.nt, some l⟩ ⟨tm, [], .off, h⟩ (ML rec l r k))
def stepT (prog : NT gB) (sums : qW) (rec : Task → Bool) (t : Task) : Bool := Task.casesOn (motive := fun _ => Bool) t
 (Mt rec) (Fy prog sums rec) (Vb prog rec) (Vd rec) (Mx rec)
def ev (prog : NT gB) (sums : qW) (n : Nat) : Task → Bool :=
 Nat.rec (motive := fun _ => Task → Bool) (fun _ => false) (fun _ ih t => stepT prog sums ih t) n
theorem aeN (prog : NT gB) (sums : qW) (n : Nat) (t : Task) : ev prog sums (n + 1) t = stepT prog sums (ev prog sums n) t := rfl
end
end Go.Ve
