/- Part 1: VEval, part 1: the data: tries, abstract heap, what it is for an abstract value, object, heap to stand for a real one. Over any program; no condition. And what follows it. -/
import Derived.AtR
import Derived.Orders
import Derived.Below
import Derived.Defers
import Derived.RangeFuncRecord
import Derived.RangeFuncIn
set_option linter.unusedVariables false
set_option linter.unusedSimpArgs false
namespace Go.Ve
open Go.RowKit
inductive Pos where
 | xH
 | xO (p : Pos)
 | xI (p : Pos)
 deriving DecidableEq, Inhabited, Repr
def Pos.un : Pos → Nat
 | .xH => 0
 | .xO p => 2 * p.un + 1
 | .xI p => 2 * p.un + 2
theorem Pos.rm : ∀ {p q : Pos}, p.un = q.un → p = q
 | .xH, .xH, _ => rfl
 | .xH, .xO q, h => by simp [Pos.un] at h
 | .xH, .xI q, h => by simp [Pos.un] at h
 | .xO p, .xH, h => by simp [Pos.un] at h
 | .xI p, .xH, h => by simp [Pos.un] at h
 | .xO p, .xO q, h => by
  have h' : 2 * p.un + 1 = 2 * q.un + 1 := h
  rw [Pos.rm (show p.un = q.un by omega)]
 | .xI p, .xI q, h => by
  have h' : 2 * p.un + 2 = 2 * q.un + 2 := h
  rw [Pos.rm (show p.un = q.un by omega)]
 | .xO p, .xI q, h => by
  have h' : 2 * p.un + 1 = 2 * q.un + 2 := h
  omega
 | .xI p, .xO q, h => by
  have h' : 2 * p.un + 2 = 2 * q.un + 1 := h
  omega
def Pos.beq : Pos → Pos → Bool
 | .xH, .xH => true
 | .xO p, .xO q => p.beq q
 | .xI p, .xI q => p.beq q
 | _, _ => false
theorem Pos.beq_iff : ∀ {p q : Pos}, p.beq q = true ↔ p = q
 | .xH, .xH => by simp [Pos.beq]
 | .xO p, .xO q => by simp [Pos.beq, Pos.beq_iff (p := p) (q := q)]
 | .xI p, .xI q => by simp [Pos.beq, Pos.beq_iff (p := p) (q := q)]
 | .xH, .xO _ => by simp [Pos.beq]
 | .xH, .xI _ => by simp [Pos.beq]
 | .xO _, .xH => by simp [Pos.beq]
 | .xI _, .xH => by simp [Pos.beq]
 | .xO _, .xI _ => by simp [Pos.beq]
 | .xI _, .xO _ => by simp [Pos.beq]
def Pos.yp : Nat → Nat → Pos
 | 0, _ => .xH
 | f + 1, n => if n = 0 then .xH else if n % 2 = 1 then .xO (Pos.yp f (n / 2)) else .xI (Pos.yp f (n / 2 - 1))
def Pos.of (n : Nat) : Pos := Pos.yp n n
theorem Pos.Zs : ∀ (f n : Nat), n ≤ f → (Pos.yp f n).un = n := by
  intro f
  induction f with
  | zero => intro n h; have : n = 0 := by omega
            subst this; rfl
  | succ f ih =>
    intro n h
    unfold Pos.yp
    split
    · subst_vars; rfl
    · split
      · simp only [Pos.un]; rw [ih _ (by omega)]; omega
      · simp only [Pos.un]; rw [ih _ (by omega)]; omega
theorem Pos.j3 (n : Nat) : (Pos.of n).un = n := Pos.Zs n n (Nat.le_refl _)
inductive PT where
 | e
 | n (l : PT) (v : Value) (r : PT)
def PT.get : PT → Pos → Value
 | .e, _ => undef
 | .n _ v _, .xH => v
 | .n l _ _, .xO p => l.get p
 | .n _ _ r, .xI p => r.get p
noncomputable def PT.cY (p : Pos) : PT → (Value → Bool) → Bool :=
 Pos.rec (motive := fun _ => PT → (Value → Bool) → Bool)
  (fun t k => PT.casesOn (motive := fun _ => Bool) t (k undef) (fun _ v _ => k v))
  (fun _ ih t k => PT.casesOn (motive := fun _ => Bool) t (k undef) (fun l _ _ => ih l k))
  (fun _ ih t k => PT.casesOn (motive := fun _ => Bool) t (k undef) (fun _ _ r => ih r k)) p
theorem PT.iY : ∀ (p : Pos) (t : PT) (k : Value → Bool), PT.cY p t k = k (t.get p)
 | .xH, .e, k => rfl
 | .xH, .n _ _ _, k => rfl
 | .xO p, .e, k => rfl
 | .xO p, .n l _ _, k => PT.iY p l k
 | .xI p, .e, k => rfl
 | .xI p, .n _ _ r, k => PT.iY p r k
def PT.set : PT → Pos → Value → PT
 | .e, .xH, v => .n .e v .e
 | .n l _ r, .xH, v => .n l v r
 | .e, .xO p, v => .n (PT.set .e p v) undef .e
 | .n l u r, .xO p, v => .n (PT.set l p v) u r
 | .e, .xI p, v => .n .e undef (PT.set .e p v)
 | .n l u r, .xI p, v => .n l u (PT.set r p v)
noncomputable def PT.fm (p : Pos) : PT → Value → (PT → Bool) → Bool :=
 Pos.rec (motive := fun _ => PT → Value → (PT → Bool) → Bool)
  (fun t v k => PT.casesOn (motive := fun _ => Bool) t (k (.n .e v .e)) (fun l _ r => k (.n l v r)))
  (fun _ ih t v k => PT.casesOn (motive := fun _ => Bool) t (ih .e v fun l => k (.n l undef .e)) (fun l u r => ih l v fun l' => k (.n l' u r)))
  (fun _ ih t v k => PT.casesOn (motive := fun _ => Bool) t (ih .e v fun r => k (.n .e undef r)) (fun l u r => ih r v fun r' => k (.n l u r'))) p
theorem PT.kK : ∀ (p : Pos) (t : PT) (v : Value) (k : PT → Bool), PT.fm p t v k = k (t.set p v)
 | .xH, .e, v, k => rfl
 | .xH, .n l _ r, v, k => rfl
 | .xO p, .e, v, k => PT.kK p _ _ _
 | .xO p, .n l u r, v, k => PT.kK p _ _ _
 | .xI p, .e, v, k => PT.kK p _ _ _
 | .xI p, .n l u r, v, k => PT.kK p _ _ _
theorem PT.P2 (p : Pos) : PT.get .e p = undef := by cases p <;> rfl
theorem PT.cQ : ∀ (p : Pos) (t : PT) (v : Value) (q : Pos), (t.set p v).get q = if q = p then v else t.get q
 | .xH, .e, v, q => by cases q <;> simp [PT.set, PT.get]
 | .xH, .n l u r, v, q => by cases q <;> simp [PT.set, PT.get]
 | .xO p, .e, v, q => by cases q <;> simp [PT.set, PT.get, PT.cQ p]
 | .xO p, .n l u r, v, q => by cases q <;> simp [PT.set, PT.get, PT.cQ p]
 | .xI p, .e, v, q => by cases q <;> simp [PT.set, PT.get, PT.cQ p]
 | .xI p, .n l u r, v, q => by cases q <;> simp [PT.set, PT.get, PT.cQ p]
inductive NT (α : Type) where
 | e
 | n (l : NT α) (v : Option α) (r : NT α)
def NT.get {α : Type} : NT α → Nat → Option α
 | .e, _ => none
 | .n l v r, i => bif Nat.beq i 0 then v else bif Nat.beq (Nat.mod i 2) 1 then l.get (Nat.div i 2) else r.get (Nat.pred (Nat.div i 2))
noncomputable def NT.cY {α : Type} (t : NT α) : Nat → (α → Bool) → Bool :=
 NT.rec (motive := fun _ => Nat → (α → Bool) → Bool) (fun _ _ => false)
  (fun _ v _ il ir i k => Nat.rec (motive := fun _ => Bool) (Option.rec (motive := fun _ => Bool) false (fun x => k x) v)
   (fun _ _ => Bool.rec (motive := fun _ => Bool) (ir (Nat.pred (Nat.div i 2)) k) (il (Nat.div i 2) k) (Nat.beq (Nat.mod i 2) 1)) i) t
theorem NT.Il {α : Type} (l : NT α) (v : Option α) (r : NT α) (i : Nat) (k : α → Bool) : (NT.n l v r).cY i k =
 bif Nat.beq i 0 then (match v with | some x => k x | none => false) else bif Nat.beq (Nat.mod i 2) 1 then l.cY (Nat.div i 2) k else r.cY (Nat.pred (Nat.div i 2)) k := by
 cases i with
 | zero => cases v <;> rfl
 | succ i =>
  show Bool.rec (motive := fun _ => Bool) (r.cY (Nat.pred (Nat.div (i + 1) 2)) k) (l.cY (Nat.div (i + 1) 2) k) (Nat.beq (Nat.mod (i + 1) 2) 1) = bif false then _ else _
  cases Nat.beq (Nat.mod (i + 1) 2) 1 <;> rfl
theorem NT.tM {α : Type} : ∀ (t : NT α) (i : Nat) (k : α → Bool), t.cY i k = true → ∃ x, t.get i = some x ∧ k x = true
 | .e, i, k, h => by cases h
 | .n l v r, i, k, h => by
  rw [NT.Il] at h
  rw [NT.get]
  cases h0 : Nat.beq i 0 with
  | true =>
   rw [h0] at h
   cases v with
   | none => simp at h
   | some x => exact ⟨x, rfl, by simpa using h⟩
  | false =>
   cases h1 : Nat.beq (Nat.mod i 2) 1 with
   | true => rw [h0, h1] at h; exact NT.tM l _ k (by simpa using h)
   | false => rw [h0, h1] at h; exact NT.tM r _ k (by simpa using h)
noncomputable def NT.fm {α : Type} (f : Nat) : NT α → Nat → Option α → (NT α → Bool) → Bool :=
 Nat.rec (motive := fun _ => NT α → Nat → Option α → (NT α → Bool) → Bool) (fun _ _ _ _ => false)
  (fun _ ih t i v k => Nat.rec (motive := fun _ => Bool)
   (NT.casesOn (motive := fun _ => Bool) t (k (.n .e v .e)) (fun l _ r => k (.n l v r)))
   (fun _ _ => Bool.rec (motive := fun _ => Bool)
    (NT.casesOn (motive := fun _ => Bool) t (ih .e (Nat.pred (Nat.div i 2)) v (fun r => k (.n .e none r))) (fun l u r => ih r (Nat.pred (Nat.div i 2)) v (fun r' => k (.n l u r'))))
    (NT.casesOn (motive := fun _ => Bool) t (ih .e (Nat.div i 2) v (fun l => k (.n l none .e))) (fun l u r => ih l (Nat.div i 2) v (fun l' => k (.n l' u r))))
    (Nat.beq (Nat.mod i 2) 1)) i) f
theorem NT.rn {α : Type} (f : Nat) (t : NT α) (i : Nat) (v : Option α) (k : NT α → Bool) : NT.fm (f + 1) t i v k =
 bif Nat.beq i 0 then
  (match t with | .e => k (.n .e v .e) | .n l _ r => k (.n l v r))
 else bif Nat.beq (Nat.mod i 2) 1 then
  (match t with | .e => NT.fm f .e (Nat.div i 2) v (fun l => k (.n l none .e)) | .n l u r => NT.fm f l (Nat.div i 2) v (fun l' => k (.n l' u r)))
 else
  (match t with | .e => NT.fm f .e (Nat.pred (Nat.div i 2)) v (fun r => k (.n .e none r)) | .n l u r => NT.fm f r (Nat.pred (Nat.div i 2)) v (fun r' => k (.n l u r'))) := by
 cases i with
 | zero => cases t <;> rfl
 | succ i =>
  cases h : Nat.beq (Nat.mod (i + 1) 2) 1 <;> cases t <;> simp only [NT.fm, h] <;> rfl
def NT.gP {α : Type} (t : NT α) (i : Nat) (v : Option α) (t' : NT α) : Prop := t'.get i = v ∧ ∀ j, j ≠ i → t'.get j = t.get j
theorem Im {α : Type} {c : Bool} {a b : α} (h : c = true) : (bif c then a else b) = a := by subst h; rfl
theorem vO {α : Type} {c : Bool} {a b : α} (h : c = false) : (bif c then a else b) = b := by subst h; rfl
theorem jG {a b : Nat} (h : a = b) : Nat.beq a b = true := by subst h; exact Nat.beq_refl a
theorem ep {a b : Nat} (h : a ≠ b) : Nat.beq a b = false := by
 cases h' : Nat.beq a b with
 | false => rfl
 | true => exact absurd (Nat.eq_of_beq_eq_true h') h
theorem P3 (j : Nat) : Nat.mod (2 * j + 1) 2 = 1 := by show (2 * j + 1) % 2 = 1; omega
theorem P4 (j : Nat) : Nat.mod (2 * j + 2) 2 ≠ 1 := by show (2 * j + 2) % 2 ≠ 1; omega
theorem P5 (j : Nat) : Nat.div (2 * j + 1) 2 = j := by show (2 * j + 1) / 2 = j; omega
theorem P6 (j : Nat) : Nat.pred (Nat.div (2 * j + 2) 2) = j := by show Nat.pred ((2 * j + 2) / 2) = j; simp only [Nat.pred_eq_sub_one]; omega
theorem NT.my {α : Type} (l : NT α) (v : Option α) (r : NT α) (j : Nat) : (NT.n l v r).get (2 * j + 1) = l.get j := by
 rw [NT.get, vO (ep (by omega)), Im (jG (P3 j)), P5]
theorem NT.mz {α : Type} (l : NT α) (v : Option α) (r : NT α) (j : Nat) : (NT.n l v r).get (2 * j + 2) = r.get j := by
 rw [NT.get, vO (ep (by omega)), vO (ep (P4 j)), P6]
theorem NT.rq (i : Nat) : i = 0 ∨ (∃ j, i = 2 * j + 1) ∨ (∃ j, i = 2 * j + 2) := by
 by_cases h : i = 0
 · exact .inl h
 · by_cases h2 : i % 2 = 1
   · exact .inr (.inl ⟨i / 2, by omega⟩)
   · exact .inr (.inr ⟨i / 2 - 1, by omega⟩)
def nG (i : Nat) : Nat := Nat.succ (Nat.log2 (Nat.succ i))
def NT.nH {α : Type} : Nat → NT α → Nat → Option α → NT α
 | 0, t, _, _ => t
 | f + 1, t, i, v => bif Nat.beq i 0 then (match t with | .e => .n .e v .e | .n l _ r => .n l v r)
  else bif Nat.beq (Nat.mod i 2) 1 then (match t with | .e => .n (NT.nH f .e (Nat.div i 2) v) none .e | .n l u r => .n (NT.nH f l (Nat.div i 2) v) u r)
  else (match t with | .e => .n .e none (NT.nH f .e (Nat.pred (Nat.div i 2)) v) | .n l u r => .n l u (NT.nH f r (Nat.pred (Nat.div i 2)) v))
def NT.set {α : Type} (t : NT α) (i : Nat) (v : Option α) : NT α := NT.nH (nG i) t i v
theorem Zt {i : Nat} (h : i ≠ 0) : Nat.log2 (Nat.succ (Nat.div i 2)) < Nat.log2 (Nat.succ i) ∨ Nat.mod i 2 ≠ 1 := by
 by_cases h1 : Nat.mod i 2 = 1
 · left
   have h2 : i + 1 ≥ 2 := by omega
   rw [Nat.log2_def (i + 1), if_pos h2]
   have : (i + 1) / 2 = Nat.succ (Nat.div i 2) := by
    show (i + 1) / 2 = i / 2 + 1
    have gg : i % 2 = 1 := h1
    omega
   rw [this]; exact Nat.lt_succ_self _
 · exact .inr h1
theorem Zu {i : Nat} (h : i ≠ 0) (h1 : Nat.mod i 2 ≠ 1) : Nat.log2 (Nat.succ (Nat.pred (Nat.div i 2))) < Nat.log2 (Nat.succ i) := by
 have h2 : i + 1 ≥ 2 := by omega
 rw [show Nat.succ i = i + 1 from rfl, Nat.log2_def (i + 1), if_pos h2]
 have : (i + 1) / 2 = Nat.succ (Nat.pred (Nat.div i 2)) := by
  show (i + 1) / 2 = Nat.pred (i / 2) + 1
  have gg : ¬ i % 2 = 1 := h1
  rw [Nat.pred_eq_sub_one]
  omega
 rw [this]; exact Nat.lt_succ_self _
theorem NT.Zv {α : Type} : ∀ (f : Nat) (t : NT α) (i : Nat) (v : Option α) (k : NT α → Bool), Nat.log2 (Nat.succ i) < f → NT.fm f t i v k = k (NT.nH f t i v) := by
 intro f
 induction f with
 | zero => intro t i v k h; exact absurd h (Nat.not_lt_zero _)
 | succ f ih =>
  intro t i v k h
  cases h0 : Nat.beq i 0 with
  | true => cases t <;> (rw [NT.rn, NT.nH]; simp only [h0, cond_true])
  | false =>
   have hi : i ≠ 0 := fun e => by subst e; cases h0
   cases h1 : Nat.beq (Nat.mod i 2) 1 with
   | true =>
    have hm : Nat.mod i 2 = 1 := Nat.eq_of_beq_eq_true h1
    have hl : Nat.log2 (Nat.succ (Nat.div i 2)) < f := by
     rcases Zt hi with h2 | h2
     · omega
     · exact absurd hm h2
    cases t with
    | e => rw [NT.rn, NT.nH]; simp only [h0, h1, cond_true, cond_false]; exact ih .e _ v _ hl
    | n l u r => rw [NT.rn, NT.nH]; simp only [h0, h1, cond_true, cond_false]; exact ih l _ v _ hl
   | false =>
    have hm : Nat.mod i 2 ≠ 1 := fun e => by rw [e] at h1; cases h1
    have hl : Nat.log2 (Nat.succ (Nat.pred (Nat.div i 2))) < f := by have := Zu hi hm; omega
    cases t with
    | e => rw [NT.rn, NT.nH]; simp only [h0, h1, cond_false]; exact ih .e _ v _ hl
    | n l u r => rw [NT.rn, NT.nH]; simp only [h0, h1, cond_false]; exact ih r _ v _ hl
theorem NT.kK {α : Type} (t : NT α) (i : Nat) (v : Option α) (k : NT α → Bool) : NT.fm (nG i) t i v k = k (t.set i v) := NT.Zv _ _ _ _ _ (Nat.lt_succ_self _)
theorem NT.CS {α : Type} : ∀ (f : Nat) (t : NT α) (i : Nat) (v : Option α) (k : NT α → Bool), NT.fm f t i v k = true → ∃ t', t.gP i v t' ∧ k t' = true := by
 intro f
 induction f with
 | zero => intro t i v k h; cases h
 | succ f ih =>
  intro t i v k h
  rcases NT.rq i with rfl | ⟨j, rfl⟩ | ⟨j, rfl⟩
  · rw [NT.rn] at h
    rw [Im (jG rfl)] at h
    cases t with
    | e =>
     refine ⟨_, ⟨rfl, fun q hq => ?_⟩, h⟩
     rcases NT.rq q with rfl | ⟨q, rfl⟩ | ⟨q, rfl⟩
     · exact absurd rfl hq
     · rw [NT.my]; rfl
     · rw [NT.mz]; rfl
    | n l u r =>
     refine ⟨_, ⟨rfl, fun q hq => ?_⟩, h⟩
     rcases NT.rq q with rfl | ⟨q, rfl⟩ | ⟨q, rfl⟩
     · exact absurd rfl hq
     · rw [NT.my, NT.my]
     · rw [NT.mz, NT.mz]
  · rw [NT.rn] at h
    rw [vO (ep (by omega)), Im (jG (P3 j)), P5] at h
    cases t with
    | e =>
     obtain ⟨t', ⟨h1, h2⟩, h3⟩ := ih _ _ _ _ h
     refine ⟨_, ⟨by rw [NT.my]; exact h1, fun q hq => ?_⟩, h3⟩
     rcases NT.rq q with rfl | ⟨q, rfl⟩ | ⟨q, rfl⟩
     · rfl
     · rw [NT.my, h2 q (by omega)]; rfl
     · rw [NT.mz]; rfl
    | n l u r =>
     obtain ⟨t', ⟨h1, h2⟩, h3⟩ := ih _ _ _ _ h
     refine ⟨_, ⟨by rw [NT.my]; exact h1, fun q hq => ?_⟩, h3⟩
     rcases NT.rq q with rfl | ⟨q, rfl⟩ | ⟨q, rfl⟩
     · rfl
     · rw [NT.my, h2 q (by omega), NT.my]
     · rw [NT.mz, NT.mz]
  · rw [NT.rn] at h
    rw [vO (ep (by omega)), vO (ep (P4 j)), P6] at h
    cases t with
    | e =>
     obtain ⟨t', ⟨h1, h2⟩, h3⟩ := ih _ _ _ _ h
     refine ⟨_, ⟨by rw [NT.mz]; exact h1, fun q hq => ?_⟩, h3⟩
     rcases NT.rq q with rfl | ⟨q, rfl⟩ | ⟨q, rfl⟩
     · rfl
     · rw [NT.my]; rfl
     · rw [NT.mz, h2 q (by omega)]; rfl
    | n l u r =>
     obtain ⟨t', ⟨h1, h2⟩, h3⟩ := ih _ _ _ _ h
     refine ⟨_, ⟨by rw [NT.mz]; exact h1, fun q hq => ?_⟩, h3⟩
     rcases NT.rq q with rfl | ⟨q, rfl⟩ | ⟨q, rfl⟩
     · rfl
     · rw [NT.my, NT.my]
     · rw [NT.mz, h2 q (by omega), NT.mz]
theorem NT.P7 {α : Type} (t : NT α) (i : Nat) (v : Option α) : t.gP i v (t.set i v) := by
 classical
 obtain ⟨t', h1, h2⟩ := NT.CS (nG i) t i v (fun t' => decide (t' = t.set i v)) (by rw [NT.kK]; simp)
 have : t' = t.set i v := by simpa using h2
 rw [← this]; exact h1
theorem NT.cQ {α : Type} (t : NT α) (i : Nat) (v : Option α) (j : Nat) : (t.set i v).get j = if j = i then v else t.get j := by
 have h := NT.P7 t i v
 by_cases e : j = i
 · rw [if_pos e, e]; exact h.1
 · rw [if_neg e]; exact h.2 j e
inductive dC where
 | t (p : Pos)
 | c (v : Value)
inductive PX where
 | bad
 | cat
 | Zw (op : BinOp)
 | sub (lo hi : Bool)
 | Zx
 | Zy (ty : TypeId) (zero : List Value)
 | Zz
 | ZA (l : List (TypeId × Nat))
 | same
 | P8 (neg : Bool)
 | ZB
 | ZC (ty : TypeId)
 | ZD
 | ZE
 | yb
 | tB
 | entry
inductive Prim where
 | move
 | pick
 | alloc (ty : TypeId) (zero : List Value)
 | box (ty : TypeId)
 | build (zero : List Value) (places : List (Nat × Nat))
 | cX (tN : List Nat)
 | buildSlice (ty : TypeId) (n : Nat) (cells : List Value) (places : List (Nat × Nat))
 | aB
 | bB (n : Nat)
 | store (n : Nat)
 | nilCheck
 | fieldAddr (off : Nat)
 | Io (off : Nat)
 | ZF (off n : Nat)
 | di (sz : Nat)
 | ZG (len sz : Nat)
 | pL (len : Nat)
 | GG (len sz : Nat)
 | P9
 | slice (sz : Nat) (lo hi mx : Bool)
 | ajj (lo hi : Bool)
 | Qa (n sz : Nat) (lo hi mx : Bool)
 | aH (op : BinOp)
 | Qb (op : BinOp)
 | nI (nk : Nat) (neg : Bool)
 | CT (neg : Bool)
 | Qc (neg : Bool) (ks : List Nat)
 | neg
 | eL
 | conv (k : IntKind)
 | tx (fn : Fn) (ajk : Nat)
 | ZH (ty : TypeId)
 | mkMap
 | mkSlice (ty : TypeId) (sz : Nat) (zero : List Value)
 | lookup (kc : Nat) (zero : Value) (ok : Bool)
 | nB (kc : Nat)
 | extract (i : Nat)
 | cW
 | ZI
 | vG
 | ZJ (n : Nat)
 | append (ty : TypeId) (sz : Nat) (zero : List Value)
 | copy (sz : Nat)
 | ZK
 | ZL
 | Qd (ty : TypeId) (zero : Value)
 | Ip
 | Iq
 | x (e : PX)
inductive gZ where
 | aA (p : Prim)
 | call (f : FuncId)
 | dyn
 | recover
 | panic
 | defer
structure aX where
 dst : Option Pos
 act : gZ
 args : List dC
 guard : Option (Pos × Bool)
inductive hO where
 | op (i : Nat) (o : aX)
 | kL (i : Nat) (o : aX)
inductive cA where
 | skip
 | ops (l : List aX)
 | draw (l : List hO)
 | seq (a b : cA)
 | cond (c : dC) (a b : cA)
 | block (id : Nat) (c : cA)
 | loop (c : cA)
 | lY (f : dC) (params : List Pos) (assign body : cA)
 | exit (id : Nat)
 | ret
inductive j4 where
 | tmp (p : Pos)
 | cell (p : Pos) (n : Option Nat)
structure fU where
 ntmps : Nat
 results : List j4
 code : cA
 det : Bool
inductive eg where
 | nJ (r : Nat)
 | fn (f : FuncId) (args : List Value)
structure jH where
 state : LoopState
 db : Option Code
 fn : FuncId
 tm : PT
 params : List Pos
 assign : cA
 body : cA
 defs : Nat
 nt : Nat
inductive AO where
 | cells (lo hi : Nat) (ty : TypeId) (rw : Bool) (c : NT Value)
 | map (es : List (Value × Value × Nat)) (clock : Nat)
 | loop (l : jH)
 | defs (taken : Bool)
 | lj (s : ByteArray) (pos : Nat)
 | ei (m : Option Nat) (since : Nat) (seen : List Nat) (last : Nat)
structure AH where
 nx : Nat
 ob : NT AO
def aT : Nat := 1180591620717411303424
inductive Mp where
 | live (b d n : Nat)
 | dead
abbrev ak := Nat → Option Mp
inductive ru (φ : ak) : Fn → Fn → Prop where
 | func (f : FuncId) : ru φ (.func f) (.func f)
 | method (s : String) : ru φ (.method s) (.method s)
 | yield (l l' : Nat) (h : φ l ≠ none) (hl : ∀ b d n, φ l = some (.live b d n) → l' = b) : ru φ (.yield l) (.yield l')
def AtR (φ : ak) (a a' : Addr) : Prop := ∀ b d n, φ a.block = some (.live b d n) → a'.block = b ∧ a'.off + d = a.off ∧ a'.spot = none
def pT (φ : ak) (a a' : Addr) (len cap cr : Nat) : Prop :=
 (cap < aT ∧ cr = cap ∧ len ≤ cap ∧ (0 < cap → AtR φ a a')) ∨
 (∃ sz, cap = aT + sz ∧ 0 < sz ∧ len ≤ cr ∧ (0 < cr → AtR φ a a' ∧ ∀ b d n, φ a.block = some (.live b d n) → a'.off + cr * sz ≤ n))
mutual
inductive VR (φ : ak) : Value → Value → Prop where
 | bool (b : Bool) : VR φ (.bool b) (.bool b)
 | int (k : IntKind) (n : Int) : VR φ (.int k n) (.int k n)
 | str (s : ByteArray) : VR φ (.string s) (.string s)
 | CU : VR φ (.pointer none) (.pointer none)
 | ptr (a a' : Addr) (h : φ a.block ≠ none) (ha : AtR φ a a') : VR φ (.pointer (some a)) (.pointer (some a'))
 | kM : VR φ (.slice none 0 0) (.slice none 0 0)
 | sl (a a' : Addr) (len cap cr : Nat) (h : φ a.block ≠ none) (hc : pT φ a a' len cap cr) : VR φ (.slice (some a) len cap) (.slice (some a') len cr)
 | Qe : VR φ (.map none) (.map none)
 | map (r r' : Nat) (h : φ r ≠ none) (hr : ∀ b d n, φ r = some (.live b d n) → r' = b) : VR φ (.map (some r)) (.map (some r'))
 | Ir : VR φ .nilFunc .nilFunc
 | func (fn pU : Fn) (first iZ bw iA : Array Value) (hf : ru φ fn pU) (h1 : LR φ first.toList iZ.toList) (h2 : LR φ bw.toList iA.toList) : VR φ (.func fn first bw) (.func pU iZ iA)
 | vP : VR φ .nilIface .nilIface
 | iface (t : TypeId) (v v' : Value) (h : VR φ v v') : VR φ (.iface t v) (.iface t v')
 | agg (cs bO : Array Value) (h : LR φ cs.toList bO.toList) : VR φ (.agg cs) (.agg bO)
 | eW (cs bO : Array Value) (h : LR φ cs.toList bO.toList) : VR φ (.tuple cs) (.tuple bO)
inductive LR (φ : ak) : List Value → List Value → Prop where
 | nil : LR φ [] []
 | cons (v v' : Value) (l l' : List Value) (h : VR φ v v') (hl : LR φ l l') : LR φ (v :: l) (v' :: l')
end
structure Ext (N : Nat) (φ φ' : ak) : Prop where
 old : ∀ f m, φ f = some m → φ' f = some m ∨ φ' f = some .dead
 out : ∀ f, f < N → φ f = none → φ' f = none
theorem Ext.refl (N : Nat) (φ : ak) : Ext N φ φ := ⟨fun _ _ h => .inl h, fun _ _ h => h⟩
theorem Ext.trans {N N' : Nat} {φ φ' φ'' : ak} (h : Ext N φ φ') (h' : Ext N' φ' φ'') (hN : N ≤ N') : Ext N φ φ'' := by
 refine ⟨fun f m hm => ?_, fun f hf hn => h'.out f (Nat.lt_of_lt_of_le hf hN) (h.out f hf hn)⟩
 rcases h.old f m hm with h1 | h1
 · exact h'.old f m h1
 · rcases h'.old f _ h1 with h2 | h2
   · exact .inr h2
   · exact .inr h2
theorem Ext.bS {N : Nat} {φ φ' : ak} (h : Ext N φ φ') {f : Nat} (hf : φ f ≠ none) : φ' f ≠ none := by
 cases hm : φ f with
 | none => exact absurd hm hf
 | some m => rcases h.old f m hm with h1 | h1 <;> simp [h1]
theorem Ext.live {N : Nat} {φ φ' : ak} (h : Ext N φ φ') {f b d n : Nat} (hf : φ f ≠ none) (hl : φ' f = some (.live b d n)) : φ f = some (.live b d n) := by
 cases hm : φ f with
 | none => exact absurd hm hf
 | some m =>
  rcases h.old f m hm with h1 | h1
  · rw [h1] at hl; exact hl
  · rw [h1] at hl; cases hl
theorem ru.ext {N : Nat} {φ φ' : ak} (h : Ext N φ φ') {f f' : Fn} (hf : ru φ f f') : ru φ' f f' := by
 cases hf with
 | func f => exact .func f
 | method s => exact .method s
 | yield l l' h1 h2 => exact .yield l l' (h.bS h1) (fun b d n hl => h2 b d n (h.live h1 hl))
theorem AtR.ext {N : Nat} {φ φ' : ak} (h : Ext N φ φ') {a a' : Addr} (hs : φ a.block ≠ none) (ha : AtR φ a a') : AtR φ' a a' :=
 fun b d n hl => ha b d n (h.live hs hl)
theorem pT.ext {N : Nat} {φ φ' : ak} (h : Ext N φ φ') {a a' : Addr} {len cap cr : Nat} (hs : φ a.block ≠ none) (ha : pT φ a a' len cap cr) : pT φ' a a' len cap cr := by
 rcases ha with ⟨h1, h2, hl, h3⟩ | ⟨sz, h1, h2, h3, h4⟩
 · exact .inl ⟨h1, h2, hl, fun hp => (h3 hp).ext h hs⟩
 · exact .inr ⟨sz, h1, h2, h3, fun hp => ⟨(h4 hp).1.ext h hs, fun b d n hl => (h4 hp).2 b d n (h.live hs hl)⟩⟩
mutual
theorem VR.ext {N : Nat} {φ φ' : ak} (h : Ext N φ φ') {v v' : Value} : VR φ v v' → VR φ' v v'
 | .bool b => .bool b
 | .int k n => .int k n
 | .str s => .str s
 | .CU => .CU
 | .ptr a a' h1 h2 => .ptr a a' (h.bS h1) (h2.ext h h1)
 | .kM => .kM
 | .sl a a' len cap cr h1 h2 => .sl a a' len cap cr (h.bS h1) (h2.ext h h1)
 | .Qe => .Qe
 | .map r r' h1 h2 => .map r r' (h.bS h1) (fun b d n hl => h2 b d n (h.live h1 hl))
 | .Ir => .Ir
 | .func fn pU first iZ bw iA hf h1 h2 => .func fn pU first iZ bw iA (hf.ext h) (LR.ext h h1) (LR.ext h h2)
 | .vP => .vP
 | .iface t v v' h1 => .iface t v v' (VR.ext h h1)
 | .agg cs bO h1 => .agg cs bO (LR.ext h h1)
 | .eW cs bO h1 => .eW cs bO (LR.ext h h1)
theorem LR.ext {N : Nat} {φ φ' : ak} (h : Ext N φ φ') {l l' : List Value} : LR φ l l' → LR φ' l l'
 | .nil => .nil
 | .cons v v' l l' h1 h2 => .cons v v' l l' (VR.ext h h1) (LR.ext h h2)
end
theorem VR.undef (φ : ak) : VR φ undef undef := .eW #[] #[] .nil
theorem LR.length {φ : ak} : ∀ {l l' : List Value}, LR φ l l' → l.length = l'.length
 | _, _, .nil => rfl
 | _, _, .cons _ _ _ _ _ h => by simp [LR.length h]
theorem LR.append {φ : ak} {m m' : List Value} (hm : LR φ m m') : ∀ {l l' : List Value}, LR φ l l' → LR φ (l ++ m) (l' ++ m')
 | _, _, .nil => hm
 | _, _, .cons v v' l l' h hl => .cons v v' _ _ h (LR.append hm hl)
theorem LR.get {φ : ak} : ∀ {l l' : List Value}, LR φ l l' → ∀ (i : Nat) (v : Value), l[i]? = some v → ∃ v', l'[i]? = some v' ∧ VR φ v v'
 | _, _, .nil, i, v, h => by simp at h
 | _, _, .cons a a' l l' h hl, 0, v, e => by simp at e; subst e; exact ⟨a', by simp, h⟩
 | _, _, .cons a a' l l' h hl, i + 1, v, e => by
  simp at e
  obtain ⟨v', h1, h2⟩ := LR.get hl i v e
  exact ⟨v', by simpa using h1, h2⟩
theorem LR.Is {φ : ak} : ∀ {l l' : List Value}, l.length = l'.length → (∀ (i : Nat) (v v' : Value), l[i]? = some v → l'[i]? = some v' → VR φ v v') → LR φ l l'
 | [], [], _, _ => .nil
 | a :: l, a' :: l', hl, h => .cons a a' l l' (h 0 a a' (by simp) (by simp)) (LR.Is (by simpa using hl) (fun i v v' e e' => h (i + 1) v v' (by simpa using e) (by simpa using e')))
 | [], _ :: _, hl, _ => by simp at hl
 | _ :: _, [], hl, _ => by simp at hl
theorem LR.drop {φ : ak} : ∀ (n : Nat) {l l' : List Value}, LR φ l l' → LR φ (l.drop n) (l'.drop n)
 | 0, _, _, h => by simpa using h
 | n + 1, _, _, .nil => by simpa using LR.nil
 | n + 1, _, _, .cons _ _ _ _ _ h => by simpa using LR.drop n h
theorem LR.take {φ : ak} : ∀ (n : Nat) {l l' : List Value}, LR φ l l' → LR φ (l.take n) (l'.take n)
 | 0, _, _, _ => by simpa using LR.nil
 | n + 1, _, _, .nil => by simpa using LR.nil
 | n + 1, _, _, .cons _ _ _ _ h hl => by simpa using LR.cons _ _ _ _ h (LR.take n hl)
theorem VR.cells {φ : ak} {v v' : Value} (h : VR φ v v') : LR φ v.cells.toList v'.cells.toList := by
 cases h <;> simp only [Value.cells] <;> first
  | assumption
  | exact .cons _ _ _ _ (by constructor <;> assumption) .nil
def TR (φ : ak) (t : PT) (n : Nat) (tm : Array Value) : Prop := n ≤ tm.size ∧ ∀ p : Pos, VR φ (t.get p) (tm.getD p.un undef)
def DR (φ : ak) : eg → Deferred → Prop
 | .nJ r, d => φ r ≠ none ∧ ∃ r', d = { target := .collected r', args := #[] } ∧ ∀ b d n, φ r = some (.live b d n) → r' = b
 | .fn f args, d => ∃ bw args', d = { target := .fn (.func f) bw, args := args' } ∧ LR φ args (args' ++ bw).toList
inductive DL (φ : ak) : List eg → List Deferred → Prop where
 | nil : DL φ [] []
 | cons (d : eg) (d' : Deferred) (l : List eg) (l' : List Deferred) (h : DR φ d d') (hl : DL φ l l') : DL φ (d :: l) (d' :: l')
theorem DR.ext {N : Nat} {φ φ' : ak} (h : Ext N φ φ') {d : eg} {d' : Deferred} (hd : DR φ d d') : DR φ' d d' := by
 cases d with
 | nJ r =>
  obtain ⟨h1, r', e, h2⟩ := hd
  exact ⟨h.bS h1, r', e, fun b d n hl => h2 b d n (h.live h1 hl)⟩
 | fn f args =>
  obtain ⟨bw, args', e, h1⟩ := hd
  exact ⟨bw, args', e, LR.ext h h1⟩
theorem DL.ext {N : Nat} {φ φ' : ak} (h : Ext N φ φ') : ∀ {l : List eg} {l' : List Deferred}, DL φ l l' → DL φ' l l'
 | _, _, .nil => .nil
 | _, _, .cons d d' l l' h1 h2 => .cons d d' l l' (h1.ext h) (DL.ext h h2)
theorem TR.ext {N : Nat} {φ φ' : ak} (h : Ext N φ φ') {t : PT} {n : Nat} {tm : Array Value} (ht : TR φ t n tm) : TR φ' t n tm :=
 ⟨ht.1, fun p => VR.ext h (ht.2 p)⟩
theorem TR.set {φ : ak} {t : PT} {n : Nat} {tm : Array Value} (ht : TR φ t n tm) (p : Pos) (hp : p.un < n) {v v' : Value} (hv : VR φ v v') :
 TR φ (t.set p v) n (tm.setIfInBounds p.un v') := by
 refine ⟨by simp [ht.1], fun q => ?_⟩
 rw [PT.cQ]
 by_cases h : q = p
 · subst h
   rw [if_pos rfl]
   have : q.un < tm.size := Nat.lt_of_lt_of_le hp ht.1
   simpa [Array.getD, this] using hv
 · rw [if_neg h]
   have cG : p.un ≠ q.un := fun e => h (Pos.rm e).symm
   have := ht.2 q
   simpa [Array.getD_eq_getD_getElem?, Array.getElem?_setIfInBounds_ne cG] using this
end Go.Ve
namespace Go.Ve
noncomputable section
abbrev KV := Value → AH → Bool
def fN (n : Nat) (k : Nat → Bool) : Bool := Nat.casesOn (motive := fun _ => Bool) n (k 0) (fun m => k (.succ m))
def fI (n : Int) (k : Int → Bool) : Bool := Int.casesOn (motive := fun _ => Bool) n (fun a => fN a fun a => k (.ofNat a)) (fun a => fN a fun a => k (.negSucc a))
def fB (b : Bool) (k : Bool → Bool) : Bool := Bool.casesOn (motive := fun _ => Bool) b (k false) (k true)
theorem bH (n : Nat) (k : Nat → Bool) : fN n k = k n := by cases n <;> rfl
theorem ma (n : Int) (k : Int → Bool) : fI n k = k n := by cases n <;> simp [fI, bH]
theorem gH (b : Bool) (k : Bool → Bool) : fB b k = k b := by cases b <;> rfl
def iff (c : Bool) (k : Bool) : Bool := Bool.casesOn (motive := fun _ => Bool) c false k
theorem iff_eq (c k : Bool) : iff c k = true ↔ c = true ∧ k = true := by cases c <;> simp [iff]
def ke : Int → Int → Bool
 | .ofNat a, .ofNat b => Nat.beq a b
 | .negSucc a, .negSucc b => Nat.beq a b
 | _, _ => false
def lx : Int → Int → Bool
 | .ofNat a, .ofNat b => Nat.ble (.succ a) b
 | .negSucc a, .negSucc b => Nat.ble (.succ b) a
 | .negSucc _, .ofNat _ => true
 | .ofNat _, .negSucc _ => false
def eP : IntKind → IntKind → Bool
 | .i8, .i8 => true | .i16, .i16 => true | .i32, .i32 => true | .i64, .i64 => true
 | .u8, .u8 => true | .u16, .u16 => true | .u32, .u32 => true | .u64, .u64 => true
 | _, _ => false
def ql : Nat := 9223372036854775807
def bD (k : IntKind) (n : Int) : Int := match k with
 | .i64 => (match n with
  | .ofNat a => bif Nat.ble a ql then n else IntKind.i64.wrap n
  | .negSucc a => bif Nat.ble a ql then n else IntKind.i64.wrap n)
 | k => k.wrap n
def Rp (k : IntKind) (x y : Int) (c : Value → Bool) : Bool := fI (bD k (Int.add x y)) fun n => c (.int k n)
def Rq (k : IntKind) (x y : Int) (c : Value → Bool) : Bool := fI (bD k (Int.sub x y)) fun n => c (.int k n)
def Rr (k : IntKind) (x y : Int) (c : Value → Bool) : Bool := fI (bD k (Int.mul x y)) fun n => c (.int k n)
def Rs (k : IntKind) (x y : Int) (c : Value → Bool) : Bool := bif ke y (.ofNat 0) then false else fI (bD k (Int.tdiv x y)) fun n => c (.int k n)
def Ru (k : IntKind) (x y : Int) (c : Value → Bool) : Bool := bif ke y (.ofNat 0) then false else fI (Int.tmod x y) fun n => c (.int k n)
def Rv (_ : IntKind) (x y : Int) (c : Value → Bool) : Bool := fB (ke x y) fun b => c (.bool b)
def Rw (_ : IntKind) (x y : Int) (c : Value → Bool) : Bool := fB (!ke x y) fun b => c (.bool b)
def Rx (_ : IntKind) (x y : Int) (c : Value → Bool) : Bool := fB (lx x y) fun b => c (.bool b)
def Ry (_ : IntKind) (x y : Int) (c : Value → Bool) : Bool := fB (!lx y x) fun b => c (.bool b)
def Rz (_ : IntKind) (x y : Int) (c : Value → Bool) : Bool := fB (lx y x) fun b => c (.bool b)
def RA (_ : IntKind) (x y : Int) (c : Value → Bool) : Bool := fB (!lx x y) fun b => c (.bool b)
def RB (k : IntKind) (x y : Int) (c : Value → Bool) : Bool := match k, x, y with
 | .u64, .ofNat a, .ofNat b => bif Nat.ble a 18446744073709551615 && Nat.ble b 18446744073709551615 then fN (Nat.land a b) fun n => c (.int .u64 (.ofNat n)) else false
 | _, _, _ => false
def RC (_ : IntKind) (_ _ : Int) (_ : Value → Bool) : Bool := false
def Jt (op : BinOp) : IntKind → Int → Int → (Value → Bool) → Bool := match op with
 | .add => Rp
 | .sub => Rq
 | .mul => Rr
 | .quo => Rs
 | .rem => Ru
 | .eql => Rv
 | .neq => Rw
 | .lss => Rx
 | .leq => Ry
 | .gtr => Rz
 | .geq => RA
 | .and => RB
 | _ => RC
def Ju (k : IntKind) (x y : Int) (c : Value → Bool) : Bool := match k, x, y with
 | .u64, .ofNat a, .ofNat b => bif Nat.ble b 64 then fN (Nat.shiftRight a b) fun n => c (.int .u64 (.ofNat n)) else false
 | _, _, _ => false
def mc : List UInt8 → List UInt8 → Bool
 | [], [] => true
 | a :: l, b :: m => bif Nat.beq a.toNat b.toNat then mc l m else false
 | _, _ => false
def a0 (vs : List Value) (k : Bool) : Bool := List.casesOn (motive := fun _ => Bool) vs k (fun _ _ => false)
def a1 (vs : List Value) (k : Value → Bool) : Bool := List.casesOn (motive := fun _ => Bool) vs false (fun x vs => a0 vs (k x))
def a2 (vs : List Value) (k : Value → Value → Bool) : Bool := List.casesOn (motive := fun _ => Bool) vs false (fun x vs => a1 vs (k x))
def a3 (vs : List Value) (k : Value → Value → Value → Bool) : Bool := List.casesOn (motive := fun _ => Bool) vs false (fun x vs => a2 vs (k x))
def mR (l : List Value) : Nat → (Value → Bool) → Bool :=
 List.rec (motive := fun _ => Nat → (Value → Bool) → Bool) (fun _ _ => false) (fun x _ ih n k => Nat.casesOn (motive := fun _ => Bool) n (k x) (fun n => ih n k)) l
def oY (l : List Value) : Nat → (List Value → Bool) → Bool :=
 List.rec (motive := fun _ => Nat → (List Value → Bool) → Bool) (fun n k => Nat.casesOn (motive := fun _ => Bool) n (k []) (fun _ => false))
  (fun x _ ih n k => Nat.casesOn (motive := fun _ => Bool) n (k []) (fun n => ih n fun l' => k (x :: l'))) l
def oZ (l : List Value) : Nat → (List Value → Bool) → Bool :=
 List.rec (motive := fun _ => Nat → (List Value → Bool) → Bool) (fun n k => Nat.casesOn (motive := fun _ => Bool) n (k []) (fun _ => false))
  (fun x l ih n k => Nat.casesOn (motive := fun _ => Bool) n (k (x :: l)) (fun n => ih n k)) l
def ki (l : List Value) : List Value → (List Value → Bool) → Bool :=
 List.rec (motive := fun _ => List Value → (List Value → Bool) → Bool) (fun vs k => List.casesOn (motive := fun _ => Bool) vs (k []) (fun _ _ => false))
  (fun x l ih vs k => List.casesOn (motive := fun _ => Bool) vs (k (x :: l)) (fun v vs => ih vs fun l' => k (v :: l'))) l
def mE (l : List Value) : Nat → List Value → (List Value → Bool) → Bool :=
 List.rec (motive := fun _ => Nat → List Value → (List Value → Bool) → Bool) (fun n vs k => Nat.casesOn (motive := fun _ => Bool) n (ki [] vs k) (fun _ => false))
  (fun x l ih n vs k => Nat.casesOn (motive := fun _ => Bool) n (ki (x :: l) vs k) (fun n => ih n vs fun l' => k (x :: l'))) l
def gE (l : List Value) : Nat → Bool :=
 List.rec (motive := fun _ => Nat → Bool) (fun n => Nat.casesOn (motive := fun _ => Bool) n true (fun _ => false))
  (fun _ _ ih n => Nat.casesOn (motive := fun _ => Bool) n false (fun n => ih n)) l
def cellsOf (v : Value) : List Value := match v with
 | .agg ⟨l⟩ => l
 | v => [v]
def ia (l : List Value) (ps : List (Nat × Nat)) : List Value → (List Value → Bool) → Bool :=
 List.rec (motive := fun _ => List Value → List Value → (List Value → Bool) → Bool)
  (fun l vs k => List.casesOn (motive := fun _ => Bool) vs (k l) (fun _ _ => false))
  (fun p _ ih l vs k => List.casesOn (motive := fun _ => Bool) vs false (fun v vs => Prod.casesOn (motive := fun _ => Bool) p fun off sz =>
   bif gE (cellsOf v) sz then mE l off (cellsOf v) fun l' => ih l' vs k else false)) ps l
def dR : Value → Bool
 | .agg _ => false
 | .tuple _ => false
 | _ => true
def cB (l : List Value) : Bool :=
 List.rec (motive := fun _ => Bool) true (fun v _ ih => bif dR v then ih else false) l
def gi (l : List Value) (m : List Value) : (List Value → Bool) → Bool :=
 List.rec (motive := fun _ => (List Value → Bool) → Bool) (fun k => k m) (fun x _ ih k => ih fun l' => k (x :: l')) l
def ua (c : NT Value) (i : Nat) (l : List Value) : (NT Value → Bool) → Bool :=
 List.rec (motive := fun _ => NT Value → Nat → (NT Value → Bool) → Bool) (fun c _ k => k c)
  (fun v _ ih c i k => NT.fm (nG i) c i (some v) fun c' => fN (Nat.succ i) fun i' => ih c' i' k) l c i
def mS (c : NT Value) (i : Nat) (n : Nat) : (List Value → Bool) → Bool :=
 Nat.rec (motive := fun _ => Nat → (List Value → Bool) → Bool) (fun _ k => k [])
  (fun _ ih i k => NT.cY c i fun v => fN (Nat.succ i) fun i' => ih i' fun l => k (v :: l)) n i
def me (h : AH) (b : Nat) (k : AO → Bool) : Bool := AH.casesOn (motive := fun _ => Bool) h fun _ ob => NT.cY ob b k
def ff (h : AH) (b : Nat) (o : Option AO) (k : AH → Bool) : Bool := AH.casesOn (motive := fun _ => Bool) h fun nx ob => NT.fm (nG b) ob b o fun aP => k ⟨nx, aP⟩
def kj (h : AH) (o : AO) (k : Nat → AH → Bool) : Bool := AH.casesOn (motive := fun _ => Bool) h fun nx ob => NT.fm (nG nx) ob nx (some o) fun aP => fN (Nat.succ nx) fun o3 => k nx ⟨o3, aP⟩
def jv (h : AH) (ty : TypeId) (l : List Value) (k : Nat → AH → Bool) : Bool :=
 iff (cB l) (ua .e 0 l fun c => fN l.length fun n => kj h (.cells 0 n ty true c) k)
def ko (h : AH) (b : Nat) (k : Nat → Nat → TypeId → Bool → NT Value → Bool) : Bool :=
 me h b fun o => AO.casesOn (motive := fun _ => Bool) o k (fun _ _ => false) (fun _ => false) (fun _ => false) (fun _ _ => false) (fun _ _ _ _ => false)
def iF (h : AH) (b : Nat) (k : List (Value × Value × Nat) → Nat → Bool) : Bool :=
 me h b fun o => AO.casesOn (motive := fun _ => Bool) o (fun _ _ _ _ _ => false) k (fun _ => false) (fun _ => false) (fun _ _ => false) (fun _ _ _ _ => false)
def l9 (h : AH) (b : Nat) (k : jH → Bool) : Bool :=
 me h b fun o => AO.casesOn (motive := fun _ => Bool) o (fun _ _ _ _ _ => false) (fun _ _ => false) k (fun _ => false) (fun _ _ => false) (fun _ _ _ _ => false)
def wv (h : AH) (b : Nat) (k : Bool → Bool) : Bool :=
 me h b fun o => AO.casesOn (motive := fun _ => Bool) o (fun _ _ _ _ _ => false) (fun _ _ => false) (fun _ => false) k (fun _ _ => false) (fun _ _ _ _ => false)
def RD (h : AH) (b : Nat) (k : ByteArray → Nat → Bool) : Bool :=
 me h b fun o => AO.casesOn (motive := fun _ => Bool) o (fun _ _ _ _ _ => false) (fun _ _ => false) (fun _ => false) (fun _ => false) k (fun _ _ _ _ => false)
def rR (h : AH) (b : Nat) (k : Option Nat → Nat → List Nat → Nat → Bool) : Bool :=
 me h b fun o => AO.casesOn (motive := fun _ => Bool) o (fun _ _ _ _ _ => false) (fun _ _ => false) (fun _ => false) (fun _ => false) (fun _ _ => false) k
def j9 (h : AH) (b off n : Nat) (k : List Value → Bool) : Bool :=
 ko h b fun lo hi _ _ c => iff (Nat.ble lo off && Nat.ble (Nat.add off n) hi) (mS c off n k)
def oV (h : AH) (b off : Nat) (k : Value → Bool) : Bool :=
 ko h b fun lo hi _ _ c => iff (Nat.ble lo off && Nat.ble (Nat.succ off) hi) (NT.cY c off k)
def o4 (h : AH) (b off : Nat) (l : List Value) (k : AH → Bool) : Bool :=
 ko h b fun lo hi ty rw c => iff (rw && Nat.ble lo off && Nat.ble (Nat.add off l.length) hi && cB l)
  (ua c off l fun c' => ff h b (some (.cells lo hi ty rw c')) k)
def ly {α : Type} : α → Bool := fun _ => false
def gG (v : Value) (k : Nat → Nat → Bool) : Bool := match v with
 | .pointer (some a) => Addr.casesOn (motive := fun _ => Bool) a fun b o _ => k b o
 | _ => false
def qm (v : Value) (k : List Value → Bool) : Bool := match v with
 | .agg a => Array.casesOn (motive := fun _ => Bool) a k
 | _ => false
def Dq (v : Value) (k : List Value → Bool) : Bool := match v with
 | .tuple a => Array.casesOn (motive := fun _ => Bool) a k
 | _ => false
def qn (v : Value) (k : Bool → Bool) : Bool := match v with
 | .bool b => k b
 | _ => false
def jw (v : Value) (k : IntKind → Int → Bool) : Bool := match v with
 | .int kd n => k kd n
 | _ => false
def gT (v : Value) (k : ByteArray → Bool) : Bool := match v with
 | .string s => k s
 | _ => false
def jx (v : Value) (kn : Bool) (k : Nat → Nat → Nat → Nat → Bool) : Bool := match v with
 | .slice none _ _ => kn
 | .slice (some a) l c => Addr.casesOn (motive := fun _ => Bool) a fun b o _ => k b o l c
 | _ => false
def ub (v : Value) (kn : Bool) (k : Nat → Bool) : Bool := match v with
 | .map none => kn
 | .map (some r) => k r
 | _ => false
def av (b o : Nat) : Value := .pointer (some ⟨b, o, none⟩)
def mT (v : Value) (k : Nat → Bool) : Bool := jw v fun _ n => Int.casesOn (motive := fun _ => Bool) n k ly
def mU (b : Bool) (vs : List Value) (d : Nat) (k : Nat → List Value → Bool) : Bool := Bool.casesOn (motive := fun _ => Bool) b (k d vs)
 (List.casesOn (motive := fun _ => Bool) vs false fun v vs => mT v fun n => k n vs)
def ic : Nat → Value → Option Bool
 | 0, .pointer none => some true
 | 0, .pointer (some _) => some false
 | 1, .slice none _ _ => some true
 | 1, .slice (some _) _ _ => some false
 | 2, .map none => some true
 | 2, .map (some _) => some false
 | 3, .nilFunc => some true
 | 3, .func _ _ _ => some false
 | 4, .nilIface => some true
 | 4, .iface _ _ => some false
 | _, _ => none
def j5 : Nat → Value → Value → Option Bool
 | 0, .int k a, .int l b => bif eP k l then some (ke a b) else none
 | 1, .bool a, .bool b => some (bif a then b else !b)
 | 2, .string a, .string b => some (mc a.data.toList b.data.toList)
 | _, _, _ => none
def uc : List Nat → List Value → List Value → Option Bool
 | [], [], [] => some true
 | kc :: ks, a :: l, b :: m => match j5 kc a b with
  | some true => uc ks l m
  | some false => some false
  | none => none
 | _, _, _ => none
def qo (o : Option Bool) (ng : Bool) (k : Value → Bool) : Bool := match o with
 | some b => fB (bif ng then !b else b) fun b => k (.bool b)
 | none => false
def qp (sz l h m cap : Nat) (Jv : Bool) (b o : Nat) (k : Value → Bool) : Bool :=
 fN (Nat.sub h l) fun n =>
 bif Nat.ble aT cap && !Jv then
  fN (Nat.add o (Nat.mul l sz)) fun o' => k (.slice (some ⟨b, o', none⟩) n cap)
 else
  iff (Nat.ble (Nat.succ m) aT) (bif Nat.beq m l then k (.slice (some ⟨b, o, none⟩) n 0)
  else fN (Nat.add o (Nat.mul l sz)) fun o' => fN (Nat.sub m l) fun c => k (.slice (some ⟨b, o', none⟩) n c))
def l4 (kc : Nat) : List (Value × Value × Nat) → Value → (Option Value → Bool) → Bool
 | [], _, k => k none
 | (a, v, _) :: es, x, k => match j5 kc x a with
  | some true => k (some v)
  | some false => l4 kc es x k
  | none => false
def mD (kc : Nat) : List (Value × Value × Nat) → Value → Value → Nat → (List (Value × Value × Nat) → Nat → Bool) → Bool
 | [], x, y, cl, k => fN (Nat.succ cl) fun ie => k [(x, y, cl)] ie
 | (a, v, b) :: es, x, y, cl, k => match j5 kc x a with
  | some true => k ((x, y, b) :: es) cl
  | some false => mD kc es x y cl fun bV ie => k ((a, v, b) :: bV) ie
  | none => false
def vU : Nat → Value → Bool
 | 0, .int _ _ => true
 | 1, .bool _ => true
 | 2, .string _ => true
 | _, _ => false
def vR (n : Nat) (zero : List Value) (k : List Value → Bool) : Bool :=
 Nat.rec (motive := fun _ => (List Value → Bool) → Bool) (fun k => k []) (fun _ ih k => ih fun l => gi zero l k) n k
def zj (vs : List Value) : Bool := List.casesOn (motive := fun _ => Bool) vs true (fun _ _ => false)
def kp (h : AH) (sz : Nat) (x : Value) (k : Nat → List Value → Bool) : Bool :=
 jx x (k 0 []) fun b o n _ => bif Nat.beq n 0 then k 0 [] else j9 h b o (Nat.mul n sz) fun l => k n l
def tR (ss : List Nat) (vs : List Value) : (List Value → Bool) → Bool :=
 List.rec (motive := fun _ => List Value → (List Value → Bool) → Bool) (fun vs k => a0 vs (k []))
  (fun n _ ih vs k => List.casesOn (motive := fun _ => Bool) vs false fun v vs => iff (gE (cellsOf v) n) (ih vs fun l => gi (cellsOf v) l k)) ss vs
def zk : Value → Bool
 | .pointer none => false
 | .nilIface => false
 | .nilFunc => false
 | .func (.method _) _ _ => false
 | _ => true
def Jw (op : BinOp) (kx : IntKind) (a : Int) (ky : IntKind) (b : Int) (k : Value → Bool) : Bool := match op with
 | .shl => false
 | .shr => Ju kx a b k
 | op => iff (eP kx ky) (Jt op kx a b k)
def Jx (op : BinOp) (a b : ByteArray) (k : Value → Bool) : Bool := match op with
 | .eql => fB (mc a.data.toList b.data.toList) fun b => k (.bool b)
 | .neq => fB (!mc a.data.toList b.data.toList) fun b => k (.bool b)
 | _ => false
def zl (x y : Option Bool) (ng : Bool) (k : Value → Bool) : Bool := match x, y with
 | some true, some b => qo (some b) ng k
 | some b, some true => qo (some b) ng k
 | _, _ => false
def yw (zero : Value) (ok : Bool) (h : AH) (k : KV) (o : Option Value) : Bool := match o, ok with
 | none, true => k (.tuple ⟨[zero, .bool false]⟩) h
 | none, false => k zero h
 | some v, true => k (.tuple ⟨[v, .bool true]⟩) h
 | some v, false => k v h
def wy (h : AH) (ty : TypeId) (sz n : Nat) (xs : List Value) (k : KV) : Bool :=
 bif Nat.beq n 0 then k (.slice none 0 0) h else iff (Nat.ble n 1048576) (jv h ty xs fun b h => fN (Nat.add aT sz) fun cp => k (.slice (some ⟨b, 0, none⟩) n cp) h)
def Dr (h : AH) (ty : TypeId) (sz : Nat) (xs : List Value) (b o len cap gp : Nat) (k : KV) : Bool :=
 iff (Nat.beq cap (Nat.add aT sz)) (ko h b fun lo hi bI rw c =>
  iff (rw && Nat.beq bI ty && Nat.ble lo o && Nat.ble (Nat.add o (Nat.mul len sz)) hi && cB xs)
   (ff h b none fun h => fN (Nat.add o (Nat.mul len sz)) fun at_ => ua c at_ xs fun c' => fN (Nat.add o (Nat.mul gp sz)) fun cI =>
    kj h (.cells o cI ty true c') fun b' h => k (.slice (some ⟨b', o, none⟩) gp cap) h))
def wz (h : AH) (ty : TypeId) (sz n : Nat) (xs : List Value) (k : KV) (b o len cap : Nat) : Bool :=
 bif Nat.beq n 0 then k (.slice (some ⟨b, o, none⟩) len cap) h else
 fN (Nat.add len n) fun gp => iff (Nat.ble gp 1048576) (
 bif Nat.ble aT cap then Dr h ty sz xs b o len cap gp k
 else bif Nat.ble gp cap then
  fN (Nat.add o (Nat.mul len sz)) fun at_ => o4 h b at_ xs fun h => k (.slice (some ⟨b, o, none⟩) gp cap) h
 else bif Nat.beq len 0 then jv h ty xs fun b' h => fN (Nat.add aT sz) fun cp => k (.slice (some ⟨b', 0, none⟩) gp cp) h
 else j9 h b o (Nat.mul len sz) fun old => gi old xs fun l => jv h ty l fun b' h => fN (Nat.add aT sz) fun cp => k (.slice (some ⟨b', 0, none⟩) gp cp) h)
def ID (ty : TypeId) (zero : Value) (x : Value) (k : Value → Bool) : Bool := match x with
 | .nilIface => k (.tuple ⟨[zero, .bool false]⟩)
 | .iface t v => bif Nat.beq t ty then k (.tuple ⟨[v, .bool true]⟩) else k (.tuple ⟨[zero, .bool false]⟩)
 | _ => false
def Qt (h : AH) (b : Nat) (k : KV) (s : ByteArray) (pos : Nat) : Bool := match s.data.toList[pos]? with
 | some c => bif Nat.ble (Nat.succ c.toNat) 128 then (fN (Nat.succ pos) fun pos' => ff h b (some (.lj s pos')) fun h =>
  fN c.toNat fun n => k (.tuple ⟨[.bool true, .int .i64 (.ofNat pos), .int .i32 (.ofNat n)]⟩) h)
  else ff h b (some (.lj s (pos + (Utf8.decode s pos).2))) fun h => k (.tuple ⟨[.bool true, .int .i64 (.ofNat pos), .int .i32 (.ofNat (Utf8.decode s pos).1)]⟩) h
 | none => k (.tuple ⟨[.bool false]⟩) h
def Jy (vs : List Value) (h : AH) (k : KV) : Bool := a1 vs fun x => k x h
def Jz (vs : List Value) (h : AH) (k : KV) : Bool := a3 vs fun c a b => qn c fun t => Bool.casesOn (motive := fun _ => Bool) t (k b h) (k a h)
def RE (ty : TypeId) (zero : List Value) (vs : List Value) (h : AH) (k : KV) : Bool := a0 vs (jv h ty zero fun b h => k (av b 0) h)
def RF (ty : TypeId) (vs : List Value) (h : AH) (k : KV) : Bool := a1 vs fun v => jv h ty (cellsOf v) fun b h => k (av b 0) h
def RG (zero : List Value) (places : List (Nat × Nat)) (vs : List Value) (h : AH) (k : KV) : Bool := ia zero places vs fun l => k (.agg ⟨l⟩) h
def RH (tN : List Nat) (vs : List Value) (h : AH) (k : KV) : Bool := tR tN vs fun l => k (.agg ⟨l⟩) h
def QB (ty : TypeId) (n : Nat) (cells : List Value) (places : List (Nat × Nat)) (vs : List Value) (h : AH) (k : KV) : Bool := ia cells places vs fun l => jv h ty l fun b h => k (.slice (some ⟨b, 0, none⟩) n n) h
def JA (vs : List Value) (h : AH) (k : KV) : Bool := a1 vs fun p => gG p fun b o => oV h b o fun v => k v h
def JB (n : Nat) (vs : List Value) (h : AH) (k : KV) : Bool := a1 vs fun p => gG p fun b o => j9 h b o n fun l => k (.agg ⟨l⟩) h
def RI (n : Nat) (vs : List Value) (h : AH) (k : KV) : Bool := a2 vs fun p v => gG p fun b o => iff (gE (cellsOf v) n) (o4 h b o (cellsOf v) fun h => k undef h)
def JC (vs : List Value) (h : AH) (k : KV) : Bool := a1 vs fun x => iff (zk x) (k x h)
def JD (off : Nat) (vs : List Value) (h : AH) (k : KV) : Bool := a1 vs fun p => gG p fun b o => fN (Nat.add o off) fun o' => k (av b o') h
def JE (off : Nat) (vs : List Value) (h : AH) (k : KV) : Bool := a1 vs fun x => qm x fun l => mR l off fun v => k v h
def JF (off n : Nat) (vs : List Value) (h : AH) (k : KV) : Bool := a1 vs fun x => qm x fun l => oZ l off fun l => oY l n fun l => k (.agg ⟨l⟩) h
def JG (sz : Nat) (vs : List Value) (h : AH) (k : KV) : Bool := a2 vs fun x i => mT i fun i => jx x false fun b o len _ => iff (Nat.ble (Nat.succ i) len) (fN (Nat.add o (Nat.mul i sz)) fun o' => k (av b o') h)
def JH (len sz : Nat) (vs : List Value) (h : AH) (k : KV) : Bool := a2 vs fun x i => mT i fun i => gG x fun b o => iff (Nat.ble (Nat.succ i) len) (fN (Nat.add o (Nat.mul i sz)) fun o' => k (av b o') h)
def JI (len : Nat) (vs : List Value) (h : AH) (k : KV) : Bool := a2 vs fun x i => mT i fun i => qm x fun l => iff (Nat.ble (Nat.succ i) len) (mR l i fun v => k v h)
def JJ (len sz : Nat) (vs : List Value) (h : AH) (k : KV) : Bool := a2 vs fun x i => mT i fun i => qm x fun l => iff (Nat.ble (Nat.succ i) len) (oZ l (Nat.mul i sz) fun l => oY l sz fun l => k (.agg ⟨l⟩) h)
def Ds (vs : List Value) (h : AH) (k : KV) : Bool := a2 vs fun x i => mT i fun i => gT x fun s => (match s.data.toList[i]? with | some c => fN c.toNat fun n => k (.int .u8 (.ofNat n)) h | none => false)
def zm (sz : Nat) (lo hi mx : Bool) (vs : List Value) (h : AH) (k : KV) : Bool := List.casesOn (motive := fun _ => Bool) vs false fun x vs => jx x
 (mU lo vs 0 fun l vs => mU hi vs 0 fun hh vs => iff (Nat.beq l 0 && Nat.beq hh 0 && !mx && zj vs) (k (.slice none 0 0) h))
 fun b o len cap => mU lo vs 0 fun l vs => mU hi vs len fun hh vs => mU mx vs cap fun m vs =>
  iff (zj vs && Nat.ble l hh && Nat.ble hh m && (Nat.ble hh len || !(Nat.ble aT cap)) && (bif mx then Nat.ble m (bif Nat.ble aT cap then len else cap) else true) && (bif Nat.ble aT cap then Nat.beq cap (Nat.add aT sz) else true))
   (qp sz l hh m cap mx b o fun v => k v h)
def RJ (lo hi : Bool) (vs : List Value) (h : AH) (k : KV) : Bool := iff (lo && hi && zj vs && false) (k undef h)
def zn (n sz : Nat) (lo hi mx : Bool) (vs : List Value) (h : AH) (k : KV) : Bool := List.casesOn (motive := fun _ => Bool) vs false fun x vs => gG x fun b o => mU lo vs 0 fun l vs => mU hi vs n fun hh vs => mU mx vs n fun m vs =>
      iff (zj vs && Nat.ble l hh && Nat.ble hh m && Nat.ble m n) (qp sz l hh m n true b o fun v => k v h)
def Dt (op : BinOp) (vs : List Value) (h : AH) (k : KV) : Bool := a2 vs fun x y => jw x fun kx a => jw y fun ky b => Jw op kx a ky b fun v => k v h
def Du (op : BinOp) (vs : List Value) (h : AH) (k : KV) : Bool := a2 vs fun x y => gT x fun a => gT y fun b => Jx op a b fun v => k v h
def Dv (nk : Nat) (ng : Bool) (vs : List Value) (h : AH) (k : KV) : Bool := a2 vs fun x y => zl (ic nk x) (ic nk y) ng fun v => k v h
def JK (ng : Bool) (vs : List Value) (h : AH) (k : KV) : Bool := a2 vs fun x y => qn x fun a => qn y fun b => fB (bif ng then (bif a then !b else b) else (bif a then b else !b)) fun c => k (.bool c) h
def JL (ng : Bool) (ks : List Nat) (vs : List Value) (h : AH) (k : KV) : Bool := a2 vs fun x y => qm x fun l => qm y fun m => qo (uc ks l m) ng fun v => k v h
def JM (vs : List Value) (h : AH) (k : KV) : Bool := a1 vs fun x => jw x fun kd n => fI (bD kd (Int.sub (.ofNat 0) n)) fun n => k (.int kd n) h
def JN (vs : List Value) (h : AH) (k : KV) : Bool := a1 vs fun x => qn x fun b => fB (!b) fun b => k (.bool b) h
def JO (kd : IntKind) (vs : List Value) (h : AH) (k : KV) : Bool := a1 vs fun x => jw x fun _ n => fI (bD kd n) fun n => k (.int kd n) h
def JP (fn : Fn) (nf : Nat) (vs : List Value) (h : AH) (k : KV) : Bool := oY vs nf fun a => oZ vs nf fun b => k (.func fn ⟨a⟩ ⟨b⟩) h
def JQ (ty : TypeId) (vs : List Value) (h : AH) (k : KV) : Bool := a1 vs fun x => k (.iface ty x) h
def RK (vs : List Value) (h : AH) (k : KV) : Bool := a0 vs (kj h (.map [] 0) fun b h => k (.map (some b)) h)
def Qk (ty : TypeId) (sz : Nat) (zero : List Value) (vs : List Value) (h : AH) (k : KV) : Bool := a2 vs fun l c => mT l fun l => mT c fun c => iff (Nat.ble l c && Nat.ble c 65536 && gE zero sz) (vR c zero fun cs => jv h ty cs fun b h => k (.slice (some ⟨b, 0, none⟩) l c) h)
def IA (kc : Nat) (zero : Value) (ok : Bool) (vs : List Value) (h : AH) (k : KV) : Bool := a2 vs fun m x => iff (vU kc x) (ub m (yw zero ok h k none) fun r => iF h r fun es _ => l4 kc es x (yw zero ok h k))
def Qp (kc : Nat) (vs : List Value) (h : AH) (k : KV) : Bool := a3 vs fun m x v => iff (vU kc x) (ub m false fun r => iF h r fun es cl => mD kc es x v cl fun es cl => ff h r (some (.map es cl)) fun h => k undef h)
def JR (i : Nat) (vs : List Value) (h : AH) (k : KV) : Bool := a1 vs fun x => Dq x fun l => mR l i fun v => k v h
def JS (vs : List Value) (h : AH) (k : KV) : Bool := a1 vs fun x => jx x (k (.int .i64 (.ofNat 0)) h) fun _ _ n _ => k (.int .i64 (.ofNat n)) h
def JT (vs : List Value) (h : AH) (k : KV) : Bool := a1 vs fun x => gT x fun s => fN s.data.toList.length fun n => k (.int .i64 (.ofNat n)) h
def JU (vs : List Value) (h : AH) (k : KV) : Bool := a1 vs fun x => ub x (k (.int .i64 (.ofNat 0)) h) fun r => iF h r fun es _ => fN es.length fun n => k (.int .i64 (.ofNat n)) h
def JV (n : Nat) (vs : List Value) (h : AH) (k : KV) : Bool := a1 vs fun _ => k (.int .i64 (.ofNat n)) h
def RL (ty : TypeId) (sz : Nat) (zero : List Value) (vs : List Value) (h : AH) (k : KV) : Bool := a2 vs fun s x => kp h sz x fun n xs => iff (Nat.ble 1 sz && gE zero sz) (jx s (wy h ty sz n xs k) (wz h ty sz n xs k))
def Qf (sz : Nat) (vs : List Value) (h : AH) (k : KV) : Bool := a2 vs fun d s => jx d (jx s (k (.int .i64 (.ofNat 0)) h) fun _ _ _ _ => k (.int .i64 (.ofNat 0)) h) fun b o len _ => jx s (k (.int .i64 (.ofNat 0)) h) fun b' o' mA _ =>
      fN (bif Nat.ble mA len then mA else len) fun n => bif Nat.beq n 0 then k (.int .i64 (.ofNat 0)) h else
        j9 h b' o' (Nat.mul n sz) fun l => o4 h b o l fun h => k (.int .i64 (.ofNat n)) h
def Iu (vs : List Value) (h : AH) (k : KV) : Bool := a2 vs fun x y => jw x fun kx a => jw y fun ky b => iff (eP kx ky) (bif lx a b then k (.int kx b) h else k (.int kx a) h)
def Iv (vs : List Value) (h : AH) (k : KV) : Bool := a2 vs fun x y => jw x fun kx a => jw y fun ky b => iff (eP kx ky) (bif lx b a then k (.int kx b) h else k (.int kx a) h)
def CZ (ty : TypeId) (zero : Value) (vs : List Value) (h : AH) (k : KV) : Bool := a1 vs fun x => ID ty zero x fun v => k v h
def Qr (vs : List Value) (h : AH) (k : KV) : Bool := a1 vs fun x => gT x fun s => kj h (.lj s 0) fun b h => k (av b 0) h
def Qs (vs : List Value) (h : AH) (k : KV) : Bool := a1 vs fun x => gG x fun b o => iff (Nat.beq o 0) (RD h b (Qt h b k))
def qs (l m : List UInt8) : (List UInt8 → Bool) → Bool :=
 List.rec (motive := fun _ => (List UInt8 → Bool) → Bool) (fun k => k m) (fun x _ ih k => ih fun l' => k (x :: l')) l
def Dw (l : List UInt8) : Nat → (List UInt8 → Bool) → Bool :=
 List.rec (motive := fun _ => Nat → (List UInt8 → Bool) → Bool) (fun _ k => k [])
  (fun x _ ih n k => Nat.casesOn (motive := fun _ => Bool) n (k []) (fun n => ih n fun l' => k (x :: l'))) l
def Dx (l : List UInt8) : Nat → (List UInt8 → Bool) → Bool :=
 List.rec (motive := fun _ => Nat → (List UInt8 → Bool) → Bool) (fun _ k => k [])
  (fun x l ih n k => Nat.casesOn (motive := fun _ => Bool) n (k (x :: l)) (fun n => ih n k)) l
def ud : List UInt8 → List UInt8 → Bool
 | _, [] => false
 | [], _ :: _ => true
 | a :: l, b :: m => bif Nat.ble (Nat.succ a.toNat) b.toNat then true else bif Nat.beq a.toNat b.toNat then ud l m else false
def RM (op : BinOp) (a b : List UInt8) : Option Bool := match op with
 | .lss => some (ud a b)
 | .leq => some (ud a b || mc a b)
 | .gtr => some (!(ud a b || mc a b))
 | .geq => some (!ud a b)
 | _ => none
def abM (_ : List Value) (_ : AH) (_ : KV) : Bool := false
def RN (vs : List Value) (h : AH) (k : KV) : Bool := a2 vs fun x y => gT x fun a => gT y fun b =>
 iff (Nat.ble (Nat.add a.data.toList.length b.data.toList.length) 9223372036854775807) (qs a.data.toList b.data.toList fun l => k (.string ⟨⟨l⟩⟩) h)
def RO (op : BinOp) (vs : List Value) (h : AH) (k : KV) : Bool := a2 vs fun x y => gT x fun a => gT y fun b => qo (RM op a.data.toList b.data.toList) false fun v => k v h
def JW (lo hi : Bool) (vs : List Value) (h : AH) (k : KV) : Bool := List.casesOn (motive := fun _ => Bool) vs false fun x vs => gT x fun s =>
 mU lo vs 0 fun l vs => mU hi vs s.data.toList.length fun hh vs => iff (zj vs && Nat.ble l hh && Nat.ble hh s.data.toList.length) (Dx s.data.toList l fun m => Dw m (Nat.sub hh l) fun m => k (.string ⟨⟨m⟩⟩) h)
def RP (vs : List Value) (h : AH) (k : KV) : Bool := a1 vs fun x => jx x (k (.int .i64 (.ofNat 0)) h) fun _ _ _ c => iff (Nat.ble (Nat.succ c) aT) (k (.int .i64 (.ofNat c)) h)
def JX (l : List UInt8) : (List Value → Bool) → Bool :=
 List.rec (motive := fun _ => (List Value → Bool) → Bool) (fun k => k []) (fun c _ ih k => fN c.toNat fun n => ih fun l => k (.int .u8 (.ofNat n) :: l)) l
def RQ (l : List Value) : (List UInt8 → Bool) → Bool :=
 List.rec (motive := fun _ => (List UInt8 → Bool) → Bool) (fun k => k []) (fun v _ ih k => jw v fun kd n => Int.casesOn (motive := fun _ => Bool) n (fun n => iff (eP kd .u8 && Nat.ble (Nat.succ n) 256) (ih fun l => k (UInt8.ofNat n :: l))) ly) l
def RR (ty : TypeId) (zero : List Value) (vs : List Value) (h : AH) (k : KV) : Bool := a2 vs fun s x => gT x fun t => JX t.data.toList fun xs => fN xs.length fun n =>
 iff (gE zero 1) (jx s (wy h ty 1 n xs k) (wz h ty 1 n xs k))
def RS (vs : List Value) (h : AH) (k : KV) : Bool := a1 vs fun p => gG p fun b o => ko h b fun lo hi _ _ _ => iff (Nat.ble lo o && Nat.ble (Nat.succ o) hi) (k (av b o) h)
def Dy (ty hi : Nat) : List (TypeId × Nat) → Bool
 | [] => false
 | (t, n) :: l => bif Nat.beq t ty && Nat.ble n hi then true else Dy ty hi l
def RT (l : List (TypeId × Nat)) (vs : List Value) (h : AH) (k : KV) : Bool := a1 vs fun p => gG p fun b o => ko h b fun lo hi ty _ _ => iff (Nat.beq lo 0 && Nat.beq o 0 && Dy ty hi l) (k (av b o) h)
def RU (vs : List Value) (h : AH) (k : KV) : Bool := a1 vs fun p => k p h
def Dz (x y : Value) : Bool := match x, y with
 | .pointer (some a), .pointer (some b) => Nat.beq a.block b.block && Nat.beq a.off b.off
 | _, _ => false
def RV (ng : Bool) (vs : List Value) (h : AH) (k : KV) : Bool := a2 vs fun x y => bif Dz x y then gG x fun b _ => me h b fun _ => fB (!ng) fun b => k (.bool b) h else zl (ic 0 x) (ic 0 y) ng fun v => k v h
def RW (vs : List Value) (h : AH) (k : KV) : Bool := a1 vs fun s => jx s (k (.pointer none) h) fun b o n _ => iff (Nat.ble 1 n) (k (av b o) h)
def RX (ty : TypeId) (n : Nat) (h : AH) (k : KV) (a : Addr) : Bool := Addr.casesOn (motive := fun _ => Bool) a fun b o _ =>
 ko h b fun lo hi bI rw c => iff (rw && Nat.beq bI ty && Nat.ble lo o && Nat.ble (Nat.add o n) hi && Nat.ble n 1048576) (mS c o n fun l => RQ l fun m => ff h b (some (.cells lo hi bI false c)) fun h => k (.string ⟨⟨m⟩⟩) h)
def RY (ty : TypeId) (vs : List Value) (h : AH) (k : KV) : Bool := a2 vs fun p n => mT n fun n => match p with
 | .pointer q => bif Nat.beq n 0 then k (.string ⟨⟨[]⟩⟩) h else Option.casesOn (motive := fun _ => Bool) q false (RX ty n h k)
 | _ => false
def zo (l : List UInt8) (c : Nat) : Nat := List.rec (motive := fun _ => Nat) 0 (fun b _ ih => bif Nat.beq b.toNat c then Nat.succ ih else ih) l
def DA (c : Nat) : List UInt8 → Nat → (Int → Bool) → Bool
 | [], _, k => k (.negSucc 0)
 | b :: l, i, k => bif Nat.beq b.toNat c then k (.ofNat i) else fN (Nat.succ i) fun i => DA c l i k
def RZ (vs : List Value) (h : AH) (k : KV) : Bool := a2 vs fun s c => gT s fun s => jw c fun kd n => Int.casesOn (motive := fun _ => Bool) n (fun n => iff (eP kd .u8 && Nat.ble (Nat.succ n) 256) (fN (zo s.data.toList n) fun n => k (.int .i64 (.ofNat n)) h)) ly
def R0 (vs : List Value) (h : AH) (k : KV) : Bool := a2 vs fun s c => gT s fun s => jw c fun kd n => Int.casesOn (motive := fun _ => Bool) n (fun n => iff (eP kd .u8 && Nat.ble (Nat.succ n) 256) (DA n s.data.toList 0 fun i => k (.int .i64 i) h)) ly
def R3 (vs : List Value) (h : AH) (k : KV) : Bool := a1 vs fun m => ub m (kj h (.ei none 0 [] 0) fun b h => k (av b 0) h) fun r => iF h r fun _ cl => kj h (.ei (some r) cl [] cl) fun b h => k (av b 0) h
def oW (l : List Nat) (n : Nat) : Bool := List.rec (motive := fun _ => Bool) false (fun m _ ih => bif Nat.beq m n then true else ih) l
def zp (l : List Nat) (n : Nat) : (List Nat → Bool) → Bool :=
 List.rec (motive := fun _ => (List Nat → Bool) → Bool) (fun k => k [n]) (fun x _ ih k => ih fun l' => k (x :: l')) l
def qt (es : List (Value × Value × Nat)) (since : Nat) (seen : List Nat) : (List (Value × Value × Nat) → Bool) → Bool :=
 List.rec (motive := fun _ => (List (Value × Value × Nat) → Bool) → Bool) (fun k => k []) (fun e _ ih k => iff (Nat.ble (Nat.succ e.2.2) since) (bif oW seen e.2.2 then ih k else ih fun l => k (e :: l))) es
def rT (go : Value → Value → Nat → Bool) : List (Value × Value × Nat) → Bool
 | [] => true
 | [(a, v, n)] => go a v n
 | (a, v, n) :: l => iff (go a v n) (rT go l)
def DB (h : AH) (b r since : Nat) (seen : List Nat) (k : KV) (a v : Value) (n : Nat) : Bool :=
 zp seen n fun abN => ff h b (some (.ei (some r) since abN since)) fun h => k (.tuple ⟨[.bool true, a, v]⟩) h
def DC (h : AH) (b r since : Nat) (seen : List Nat) (k : KV) (l : List (Value × Value × Nat)) : Bool := match l with
 | [] => ff h b none fun h => k (.tuple ⟨[.bool false]⟩) h
 | l => rT (DB h b r since seen k) l
def R4 (vs : List Value) (h : AH) (k : KV) : Bool := a1 vs fun p => gG p fun b o => iff (Nat.beq o 0) (rR h b fun m since seen last => Option.casesOn (motive := fun _ => Bool) m (k (.tuple ⟨[.bool false]⟩) h) fun r =>
 iF h r fun es cl => iff (Nat.beq cl since && Nat.beq last since) (qt es since seen (DC h b r since seen k)))
def ue (l : List Nat) (k : Nat → Bool) : Bool := match l with
 | [] => false
 | [n] => k n
 | _ :: l => ue l k
def rU (es : List (Value × Value × Nat)) (n : Nat) (k : Value → Value → Bool) : Bool := match es with
 | [] => false
 | (a, v, b) :: es => bif Nat.beq b n then k a v else rU es n k
def R5 (vs : List Value) (h : AH) (k : KV) : Bool := a1 vs fun p => gG p fun b o => iff (Nat.beq o 0) (rR h b fun m _ seen last => Option.casesOn (motive := fun _ => Bool) m false fun r =>
 iF h r fun es cl => iff (Nat.beq cl last) (ue seen fun n => rU es n fun a v => k (.tuple ⟨[a, v]⟩) h))
def PX.ev (p : PX) : List Value → AH → KV → Bool := PX.casesOn (motive := fun _ => List Value → AH → KV → Bool) p abM RN RO JW RP
 RR RS RT RU RV RW RY RZ R0 R3 R4 R5
def Prim.ev (p : Prim) : List Value → AH → KV → Bool := Prim.casesOn (motive := fun _ => List Value → AH → KV → Bool) p
 Jy Jz RE RF RG RH QB JA JB RI JC JD JE JF JG JH JI JJ Ds zm RJ zn Dt Du Dv JK JL JM JN JO JP JQ RK Qk IA Qp JR JS JT JU JV RL Qf Iu Iv CZ Qr Qs PX.ev
inductive AX where
 | normal
 | exit (id : Nat)
 | ret
 | az (v : Value)
inductive Rc where
 | off
 | can (v : Value)
 | j8
structure St where
 tm : PT
 df : List eg
 rc : Rc
 h : AH
structure Env where
 fn : FuncId
 nt : Nat
 rE : Option Nat
inductive CR where
 | ret (v : Value)
 | az (v : Value)
abbrev KS := AX → St → Bool
inductive Task where
 | code (c : cA) (e : Env) (s : St) (k : KS)
 | call (f : FuncId) (args : List Value) (h : AH) (k : CR → AH → Bool)
 | wh (f : FuncId) (args : List Value) (rc : Rc) (h : AH) (k : Rc → AH → Bool)
 | round (l : Nat) (args : List Value) (h : AH) (k : CR → AH → Bool)
 | leave (ds : List eg) (m : Option Value) (h : AH) (k : Option Value → AH → Bool)
def qh (o : dC) (t : PT) (k : Value → Bool) : Bool := dC.casesOn (motive := fun _ => Bool) o (fun p => PT.cY p t k) k
def mJ (l : List dC) (t : PT) : (List Value → Bool) → Bool :=
 List.rec (motive := fun _ => (List Value → Bool) → Bool) (fun k => k []) (fun o _ ih k => qh o t fun v => ih fun vs => k (v :: vs)) l
def gn (d : Option Pos) (s : St) (v : Value) (h : AH) (k : St → Bool) : Bool := St.casesOn (motive := fun _ => Bool) s fun tm df rc _ =>
 Option.casesOn (motive := fun _ => Bool) d (k ⟨tm, df, rc, h⟩) (fun p => PT.fm p tm v fun IT => k ⟨IT, df, rc, h⟩)
def lu (a b : Bool) : Bool := Bool.casesOn (motive := fun _ => Bool) a (Bool.casesOn (motive := fun _ => Bool) b true false) b
def tV (want : Bool) (yes no : Bool) (v : Value) : Bool := match v with
 | .bool b => bif lu b want then yes else no
 | _ => no
def mK (g : Option (Pos × Bool)) (t : PT) (yes no : Bool) : Bool :=
 Option.casesOn (motive := fun _ => Bool) g yes fun pw => Prod.casesOn (motive := fun _ => Bool) pw fun p want => PT.cY p t (tV want yes no)
def mG (dst : Option Pos) (s : St) (fail : KS) (k : St → Bool) (r : CR) (h : AH) : Bool :=
 CR.casesOn (motive := fun _ => Bool) r (fun v => gn dst s v h k) (fun v => St.casesOn (motive := fun _ => Bool) s fun tm df rc _ => fail (.az v) ⟨tm, df, rc, h⟩)
def QN (ajm : Task → Bool) (dst : Option Pos) (_ : Env) (s : St) (_ : KS) (k : St → Bool) (vs : List Value) (p : Prim) : Bool :=
 p.ev vs s.h fun v h => gn dst s v h k
def QP (rec : Task → Bool) (dst : Option Pos) (_ : Env) (s : St) (fail : KS) (k : St → Bool) (vs : List Value) (f : FuncId) : Bool :=
 rec (.call f vs s.h (mG dst s fail k))
def rH (v : Value) (kf : Nat → List Value → List Value → Bool) (ky : Nat → Bool) : Bool := match v with
 | .func (.func g) ⟨first⟩ ⟨bw⟩ => kf g first bw
 | .func (.yield l) ⟨[]⟩ ⟨[]⟩ => ky l
 | _ => false
def IN (rec : Task → Bool) (dst : Option Pos) (_ : Env) (s : St) (fail : KS) (k : St → Bool) (vs : List Value) : Bool :=
 List.casesOn (motive := fun _ => Bool) vs false fun f as => rH f
  (fun g first bw => gi as bw fun l => gi first l fun l => rec (.call g l s.h (mG dst s fail k)))
  (fun l => rec (.round l as s.h (mG dst s fail k)))
def yM (dst : Option Pos) (e : Env) (s : St) (k : St → Bool) (vs : List Value) : Bool := match e.rE, vs with
 | none, [] => (match s.rc with
  | .can v => gn dst ⟨s.tm, s.df, .j8, s.h⟩ v s.h k
  | _ => gn dst s .nilIface s.h k)
 | _, _ => false
def C6 (s : St) (fail : KS) (vs : List Value) : Bool := a1 vs fun v => match v with
 | .iface t x => fail (.az (.iface t x)) s
 | _ => false
def yP (dst : Option Pos) (e : Env) (s : St) (k : St → Bool) (vs : List Value) : Bool := match e.rE, vs with
 | none, f :: as => rH f (fun g first bw => gi as bw fun l => gi first l fun l => gn dst ⟨s.tm, .fn g l :: s.df, s.rc, s.h⟩ undef s.h k) ly
 | _, _ => false
def wk (rec : Task → Bool) (act : gZ) (dst : Option Pos) (e : Env) (s : St) (fail : KS) (k : St → Bool) (vs : List Value) : Bool :=
 gZ.casesOn (motive := fun _ => Bool) act (QN rec dst e s fail k vs) (QP rec dst e s fail k vs) (IN rec dst e s fail k vs)
  (yM dst e s k vs) (C6 s fail vs) (yP dst e s k vs)
def rJ (rec : Task → Bool) (o : aX) (e : Env) (s : St) (fail : KS) (k : St → Bool) : Bool :=
 aX.casesOn (motive := fun _ => Bool) o fun dst act args g => mK g s.tm (mJ args s.tm (wk rec act dst e s fail k)) (gn dst s undef s.h k)
def yT (rec : Task → Bool) (l : List aX) (e : Env) (s : St) (k : KS) : Bool :=
 List.rec (motive := fun _ => St → Bool) (fun s => k .normal s) (fun o _ ih s => rJ rec o e s k ih) l s
def DD : Value → Value → Bool
 | .bool a, .bool b => bif a then b else !b
 | .int k a, .int l b => bif eP k l then ke a b else false
 | .string a, .string b => mc a.data.toList b.data.toList
 | .pointer none, .pointer none => true
 | .pointer (some a), .pointer (some b) => Nat.beq a.block b.block && Nat.beq a.off b.off
 | .slice none l c, .slice none m d => Nat.beq l m && Nat.beq c d
 | .slice (some a) l c, .slice (some b) m d => Nat.beq a.block b.block && Nat.beq a.off b.off && Nat.beq l m && Nat.beq c d
 | .map none, .map none => true
 | .map (some a), .map (some b) => Nat.beq a b
 | .nilFunc, .nilFunc => true
 | .nilIface, .nilIface => true
 | _, _ => false
def zq : List Value → List Value → Bool
 | [], [] => true
 | a :: l, b :: m => DD a b && zq l m
 | _, _ => false
def DE : Value → Value → Bool
 | .func (.func f) ⟨a⟩ ⟨b⟩, .func (.func g) ⟨c⟩ ⟨d⟩ => Nat.beq f g && zq a c && zq b d
 | a, b => DD a b
def uf : List Value → List Value → Bool
 | [], [] => true
 | a :: l, b :: m => DE a b && uf l m
 | _, _ => false
def qu (a b : Value) : Bool := match a, b with
 | .agg ⟨l⟩, .agg ⟨m⟩ => uf l m
 | .tuple ⟨l⟩, .tuple ⟨m⟩ => uf l m
 | a, b => DE a b
def Prim.fresh (p : Prim) (vs : List Value) (k : TypeId → List Value → Bool) : Bool := match p with
 | .alloc ty zero => a0 vs (k ty zero)
 | .box ty => a1 vs fun v => k ty (cellsOf v)
 | .buildSlice ty _ cells places => ia cells places vs fun l => k ty l
 | _ => false
def Prim.makes : Prim → Bool
 | .alloc _ _ => true
 | .box _ => true
 | .buildSlice _ _ _ _ => true
 | _ => false
def JY (v : Value) (k : Nat → Bool) : Bool := match v with
 | .pointer (some ⟨b, o, _⟩) => iff (Nat.beq o 0) (k b)
 | .slice (some ⟨b, o, _⟩) _ _ => iff (Nat.beq o 0) (k b)
 | _ => false
def ug (s : St) (v : Value) (ty : TypeId) (l : List Value) : Bool :=
 JY v fun b => ko s.h b fun lo hi bI rw c => iff (rw && Nat.beq lo 0 && Nat.beq hi l.length && Nat.beq ty bI) (mS c 0 l.length fun m => uf m l)
def zr (v : Value) (v' : Value) (_ : AH) : Bool := qu v' v
def zt (dst : Option Pos) (s : St) (vs : List Value) (p : Prim) : Bool :=
 Option.casesOn (motive := fun _ => Bool) dst false fun d => PT.cY d s.tm fun v => bif p.makes then p.fresh vs (ug s v) else p.ev vs s.h (zr v)
def wA (o : aX) (s : St) : Bool :=
 aX.casesOn (motive := fun _ => Bool) o fun dst act args g => mK g s.tm (mJ args s.tm fun vs =>
  gZ.casesOn (motive := fun _ => Bool) act (zt dst s vs) ly false false false false) true
def mM (rec : Task → Bool) (l : List hO) (e : Env) (s : St) (k : KS) : Bool :=
 List.rec (motive := fun _ => St → Bool) (fun s => k .normal s)
  (fun d _ ih s => hO.casesOn (motive := fun _ => Bool) d (fun _ o => rJ rec o e s k ih) (fun _ o => iff (wA o s) (ih s))) l s
def wx (ps : List Pos) (vs : List Value) (t : PT) (k : PT → Bool) : Bool :=
 List.rec (motive := fun _ => List Value → PT → Bool) (fun vs t => a0 vs (k t)) (fun p _ ih vs t => List.casesOn (motive := fun _ => Bool) vs false fun v vs => PT.fm p t v fun t => ih vs t) ps vs t
def qi (i : Nat) (vs : List Value) (t : PT) (k : PT → Bool) : Bool :=
 List.rec (motive := fun _ => Nat → PT → Bool) (fun _ t => k t) (fun v _ ih i t => PT.fm (Pos.of i) t v fun t => ih (.succ i) t) vs i t
def jM (rs : List j4) (t : PT) (h : AH) (k : List Value → Bool) : Bool := match rs with
 | [] => k []
 | .tmp p :: rs => PT.cY p t fun v => jM rs t h fun vs => k (v :: vs)
 | .cell p none :: rs => PT.cY p t fun v => gG v fun b o => oV h b o fun x => jM rs t h fun vs => k (x :: vs)
 | .cell p (some n) :: rs => PT.cY p t fun v => gG v fun b o => j9 h b o n fun l => jM rs t h fun vs => k (.agg ⟨l⟩ :: vs)
def za (vs : List Value) (k : Value → Bool) : Bool := match vs with
 | [v] => k v
 | vs => k (.tuple ⟨vs⟩)
def yU (rec : Task → Bool) (b : cA) (e : Env) (k : KS) (x : AX) (s : St) : Bool := AX.casesOn (motive := fun _ => Bool) x (rec (.code b e s k)) (fun id => k (.exit id) s) (k .ret s) (fun v => k (.az v) s)
def abO (rec : Task → Bool) (e : Env) (s : St) (k : KS) (a b : cA) : Bool := rec (.code a e s (yU rec b e k))
def abP (rec : Task → Bool) (e : Env) (s : St) (k : KS) (c : dC) (a b : cA) : Bool :=
 qh c s.tm fun v => qn v fun t => Bool.casesOn (motive := fun _ => Bool) t (rec (.code b e s k)) (rec (.code a e s k))
def IV (id : Nat) (k : KS) (x : AX) (s : St) : Bool := AX.casesOn (motive := fun _ => Bool) x (k .normal s) (fun j => bif Nat.beq j id then k .normal s else k (.exit j) s) (k .ret s) (fun v => k (.az v) s)
def abQ (rec : Task → Bool) (e : Env) (s : St) (k : KS) (id : Nat) (c : cA) : Bool := rec (.code c e s (IV id k))
def abR (rec : Task → Bool) (e : Env) (s : St) (k : KS) (c : cA) : Bool := rec (.code c e s (yU rec (.loop c) e k))
def jH.hZ (r : jH) (st : LoopState) (j : Option Code) : jH := jH.casesOn (motive := fun _ => jH) r fun _ _ fn tm ps a b d nt => ⟨st, j, fn, tm, ps, a, b, d, nt⟩
def C9 (s : St) (df : List eg) (k : KS) (j : Option Code) (h : AH) : Bool := match j with
 | none => k .normal ⟨s.tm, df, s.rc, h⟩
 | some .ret => k .ret ⟨s.tm, df, s.rc, h⟩
 | some (.exit id) => k (.exit id) ⟨s.tm, df, s.rc, h⟩
 | _ => false
def JZ : LoopState → Bool
 | .busy => false
 | _ => true
def isReady : LoopState → Bool
 | .ready => true
 | _ => false
def I3 (s : St) (df : List eg) (k : KS) (l : Nat) (r : CR) (h : AH) : Bool := CR.casesOn (motive := fun _ => Bool) r
 (fun _ => l9 h l fun r => iff (JZ r.state) (ff h l (some (.loop (r.hZ .exhausted r.db))) (C9 s df k r.db)))
 (fun v => k (.az v) ⟨s.tm, df, s.rc, h⟩)
def yW (rec : Task → Bool) (e : Env) (s : St) (k : KS) (params : List Pos) (assign body : cA) (g : Nat) (first bw : List Value) (h : AH) (dl : Nat) (df : List eg) : Bool :=
 kj h (.loop ⟨.ready, none, e.fn, s.tm, params, assign, body, dl, e.nt⟩) fun l h =>
  gi first (.func (.yield l) ⟨[]⟩ ⟨[]⟩ :: bw) fun args => rec (.call g args h (I3 s df k l))
def Q5 (rec : Task → Bool) (e : Env) (s : St) (k : KS) (f : dC) (params : List Pos) (assign body : cA) : Bool :=
 qh f s.tm fun fv => rH fv (fun g first bw => match e.rE with
  | none => kj s.h (.defs false) fun r h => yW rec e s k params assign body g first bw h r (.nJ r :: s.df)
  | some l => l9 s.h l fun r => yW rec e s k params assign body g first bw s.h r.defs s.df) ly
def I8 (rec : Task → Bool) (c : cA) (e : Env) (s : St) (k : KS) : Bool := cA.casesOn (motive := fun _ => Bool) c
 (k .normal s) (fun l => yT rec l e s k) (fun l => mM rec l e s k) (abO rec e s k) (abP rec e s k) (abQ rec e s k) (abR rec e s k) (Q5 rec e s k)
 (fun id => k (.exit id) s) (k .ret s)
def zd (results : List j4) (tm : PT) (k : CR → AH → Bool) (m : Option Value) (h : AH) : Bool := match m with
 | none => jM results tm h fun vs => za vs fun v => k (.ret v) h
 | some v => k (.az v) h
def Ri (results : List j4) (k : CR → AH → Bool) (m : Option Value) (h : AH) : Bool := match m with
 | none => (match results with | [] => k (.ret (.tuple ⟨[]⟩)) h | _ => false)
 | some v => k (.az v) h
def zc (rec : Task → Bool) (results : List j4) (k : CR → AH → Bool) (x : AX) (s : St) : Bool := AX.casesOn (motive := fun _ => Bool) x
 (rec (.leave s.df none s.h (zd results s.tm k))) ly (rec (.leave s.df none s.h (zd results s.tm k))) (fun v => rec (.leave s.df (some v) s.h (Ri results k)))
def R6 (v : Value) : List Nat := match v with
 | .slice (some a) _ _ => [a.block]
 | .map (some r) => [r]
 | .pointer (some a) => [a.block]
 | _ => []
def R7 : List Value → List Nat
 | [] => []
 | v :: l => R6 v ++ R7 l
def abS (v : Value) : List Nat := match v with
 | .tuple ⟨l⟩ => R7 l
 | v => R6 v
def Dj (bS : List Nat) (n : Nat) : Nat → AH → (AH → Bool) → Bool :=
 Nat.rec (motive := fun _ => Nat → AH → (AH → Bool) → Bool) (fun _ h k => k h)
  (fun _ ih b h k => fN (Nat.succ b) fun b' => bif oW bS b then ih b' h k else ff h b none fun h => ih b' h k) n
def Ji (h0 : AH) (k : CR → AH → Bool) (v : Value) (h : AH) : Bool := match abS v with
 | [] => iff (k (.ret v) h) true
 | bS => fN (Nat.sub h.nx h0.nx) fun n => fN h0.nx fun b => Dj bS n b h fun h => iff (k (.ret v) h) true
def jn (det : Bool) (h0 : AH) (k : CR → AH → Bool) : CR → AH → Bool := bif det then fun r h => CR.casesOn (motive := fun _ => Bool) r (fun v => Ji h0 k v h) (fun v => k (.az v) h) else k
abbrev qk := List (FuncId × (List Value → AH → (CR → AH → Bool) → Bool))
def Rj (prog : NT fU) (rec : Task → Bool) (f : FuncId) (args : List Value) (h : AH) (k : CR → AH → Bool) : Bool :=
 NT.cY prog f fun fn => fU.casesOn (motive := fun _ => Bool) fn fun nt results code det => qi 0 args .e fun tm =>
  rec (.code code ⟨f, nt, none⟩ ⟨tm, [], .off, h⟩ (zc rec results (jn det h k)))
def Dm (prog : NT fU) (sums : qk) (rec : Task → Bool) (f : FuncId) (args : List Value) (h : AH) (k : CR → AH → Bool) : Bool := match sums with
 | [] => Rj prog rec f args h k
 | (g, S) :: l => bif Nat.beq g f then S args h k else Dm prog l rec f args h k
def rO (df : List eg) (k : Bool) : Bool := match df with
 | [] => k
 | _ => false
def Jn (k : Rc → AH → Bool) (x : AX) (s : St) : Bool := match x with
 | .normal => rO s.df (k s.rc s.h)
 | .ret => rO s.df (k s.rc s.h)
 | _ => false
def Rl (prog : NT fU) (rec : Task → Bool) (f : FuncId) (args : List Value) (rc : Rc) (h : AH) (k : Rc → AH → Bool) : Bool :=
 NT.cY prog f fun fn => fU.casesOn (motive := fun _ => Bool) fn fun nt results code _ => List.casesOn (motive := fun _ => Bool) results (qi 0 args .e fun tm =>
  rec (.code code ⟨f, nt, none⟩ ⟨tm, [], rc, h⟩ (Jn k))) fun _ _ => false
def Jf (rec : Task → Bool) (ds : List eg) (k : Option Value → AH → Bool) (rc : Rc) (h : AH) : Bool := match rc with
 | .j8 => rec (.leave ds none h k)
 | .can v => rec (.leave ds (some v) h k)
 | .off => false
def Jc (rec : Task → Bool) (ds : List eg) (m : Option Value) (h : AH) (k : Option Value → AH → Bool) : Bool := match ds with
 | [] => k m h
 | .nJ r :: ds => wv h r fun t => iff (!t) (ff h r (some (.defs true)) fun h => rec (.leave ds m h k))
 | .fn f args :: ds => (match m with
  | none => rec (.wh f args .off h fun _ h => rec (.leave ds none h k))
  | some v => rec (.wh f args (.can v) h (Jf rec ds k)))
def zg (l : Nat) (h : AH) (k : CR → AH → Bool) (j : Option Code) (st : LoopState) (b : Bool) : Bool :=
 l9 h l fun r => ff h l (some (.loop (r.hZ st j))) fun h => k (.ret (.bool b)) h
def Dp (l : Nat) (k : CR → AH → Bool) (x : AX) (s : St) : Bool := rO s.df (match x with
 | .normal => zg l s.h k none .ready true
 | .ret => zg l s.h k (some .ret) .done false
 | .exit id => zg l s.h k (some (.exit id)) .done false
 | .az _ => false)
def Jp (rec : Task → Bool) (l : Nat) (r0 : jH) (k : CR → AH → Bool) (x : AX) (s : St) : Bool := match x with
 | .normal => l9 s.h l fun r => iff (isReady r.state) (ff s.h l (some (.loop (r.hZ .busy r.db))) fun h =>
  rec (.code r0.body ⟨r0.fn, r0.nt, some l⟩ ⟨s.tm, s.df, s.rc, h⟩ (Dp l k)))
 | _ => false
def Rn (rec : Task → Bool) (l : Nat) (args : List Value) (h : AH) (k : CR → AH → Bool) : Bool :=
 l9 h l fun r => wx r.params args r.tm fun tm => rec (.code r.assign ⟨r.fn, r.nt, some l⟩ ⟨tm, [], .off, h⟩ (Jp rec l r k))
def stepT (prog : NT fU) (sums : qk) (rec : Task → Bool) (t : Task) : Bool := Task.casesOn (motive := fun _ => Bool) t
 (I8 rec) (Dm prog sums rec) (Rl prog rec) (Rn rec) (Jc rec)
def ev (prog : NT fU) (sums : qk) (n : Nat) : Task → Bool :=
 Nat.rec (motive := fun _ => Task → Bool) (fun _ => false) (fun _ ih t => stepT prog sums ih t) n
theorem abT (prog : NT fU) (sums : qk) (n : Nat) (t : Task) : ev prog sums (n + 1) t = stepT prog sums (ev prog sums n) t := rfl
end
end Go.Ve
