/- Part 1: VEval, part 1: the data: tries, abstract heap, what it is for an abstract value, object, heap to stand for a real one. Over any program; no condition. And what follows it. -/
import Derived.AtR
import Derived.Orders
import Derived.Below
import Derived.Defers
import Derived.RangeFuncRecord
import Derived.RangeFuncIn
set_option linter.unusedVariables false
set_option linter.unusedSimpArgs false
namespace Go.Ve
open Go.RowKit
inductive Pos where
 | xH
 | xO (p : Pos)
 | xI (p : Pos)
 deriving DecidableEq, Inhabited, Repr
def Pos.un : Pos → Nat
 | .xH => 0
 | .xO p => 2 * p.un + 1
 | .xI p => 2 * p.un + 2
theorem Pos.sX : ∀ {p q : Pos}, p.un = q.un → p = q
 | .xH, .xH, _ => rfl
 | .xH, .xO q, h => by simp [Pos.un] at h
 | .xH, .xI q, h => by simp [Pos.un] at h
 | .xO p, .xH, h => by simp [Pos.un] at h
 | .xI p, .xH, h => by simp [Pos.un] at h
 | .xO p, .xO q, h => by
  have h' : 2 * p.un + 1 = 2 * q.un + 1 := h
  rw [Pos.sX (show p.un = q.un by omega)]
 | .xI p, .xI q, h => by
  have h' : 2 * p.un + 2 = 2 * q.un + 2 := h
  rw [Pos.sX (show p.un = q.un by omega)]
 | .xO p, .xI q, h => by
  have h' : 2 * p.un + 1 = 2 * q.un + 2 := h
  omega
 | .xI p, .xO q, h => by
  have h' : 2 * p.un + 2 = 2 * q.un + 1 := h
  omega
def Pos.beq : Pos → Pos → Bool
 | .xH, .xH => true
 | .xO p, .xO q => p.beq q
 | .xI p, .xI q => p.beq q
 | _, _ => false
theorem Pos.beq_iff : ∀ {p q : Pos}, p.beq q = true ↔ p = q
 | .xH, .xH => by simp [Pos.beq]
 | .xO p, .xO q => by simp [Pos.beq, Pos.beq_iff (p := p) (q := q)]
 | .xI p, .xI q => by simp [Pos.beq, Pos.beq_iff (p := p) (q := q)]
 | .xH, .xO _ => by simp [Pos.beq]
 | .xH, .xI _ => by simp [Pos.beq]
 | .xO _, .xH => by simp [Pos.beq]
 | .xI _, .xH => by simp [Pos.beq]
 | .xO _, .xI _ => by simp [Pos.beq]
 | .xI _, .xO _ => by simp [Pos.beq]
def Pos.zY : Nat → Nat → Pos
 | 0, _ => .xH
 | f + 1, n => if n = 0 then .xH else if n % 2 = 1 then .xO (Pos.zY f (n / 2)) else .xI (Pos.zY f (n / 2 - 1))
def Pos.of (n : Nat) : Pos := Pos.zY n n
theorem Pos.abg : ∀ (f n : Nat), n ≤ f → (Pos.zY f n).un = n := by
  intro f
  induction f with
  | zero => intro n h; have : n = 0 := by omega
            subst this; rfl
  | succ f ih =>
    intro n h
    unfold Pos.zY
    split
    · subst_vars; rfl
    · split
      · simp only [Pos.un]; rw [ih _ (by omega)]; omega
      · simp only [Pos.un]; rw [ih _ (by omega)]; omega
theorem Pos.kP (n : Nat) : (Pos.of n).un = n := Pos.abg n n (Nat.le_refl _)
inductive PT where
 | e
 | n (l : PT) (v : Value) (r : PT)
def PT.get : PT → Pos → Value
 | .e, _ => undef
 | .n _ v _, .xH => v
 | .n l _ _, .xO p => l.get p
 | .n _ _ r, .xI p => r.get p
noncomputable def PT.dr (p : Pos) : PT → (Value → Bool) → Bool :=
 Pos.rec (motive := fun _ => PT → (Value → Bool) → Bool)
  (fun t k => PT.casesOn (motive := fun _ => Bool) t (k undef) (fun _ v _ => k v))
  (fun _ ih t k => PT.casesOn (motive := fun _ => Bool) t (k undef) (fun l _ _ => ih l k))
  (fun _ ih t k => PT.casesOn (motive := fun _ => Bool) t (k undef) (fun _ _ r => ih r k)) p
theorem PT.jw : ∀ (p : Pos) (t : PT) (k : Value → Bool), PT.dr p t k = k (t.get p)
 | .xH, .e, k => rfl
 | .xH, .n _ _ _, k => rfl
 | .xO p, .e, k => rfl
 | .xO p, .n l _ _, k => PT.jw p l k
 | .xI p, .e, k => rfl
 | .xI p, .n _ _ r, k => PT.jw p r k
def PT.set : PT → Pos → Value → PT
 | .e, .xH, v => .n .e v .e
 | .n l _ r, .xH, v => .n l v r
 | .e, .xO p, v => .n (PT.set .e p v) undef .e
 | .n l u r, .xO p, v => .n (PT.set l p v) u r
 | .e, .xI p, v => .n .e undef (PT.set .e p v)
 | .n l u r, .xI p, v => .n l u (PT.set r p v)
noncomputable def PT.gb (p : Pos) : PT → Value → (PT → Bool) → Bool :=
 Pos.rec (motive := fun _ => PT → Value → (PT → Bool) → Bool)
  (fun t v k => PT.casesOn (motive := fun _ => Bool) t (k (.n .e v .e)) (fun l _ r => k (.n l v r)))
  (fun _ ih t v k => PT.casesOn (motive := fun _ => Bool) t (ih .e v fun l => k (.n l undef .e)) (fun l u r => ih l v fun l' => k (.n l' u r)))
  (fun _ ih t v k => PT.casesOn (motive := fun _ => Bool) t (ih .e v fun r => k (.n .e undef r)) (fun l u r => ih r v fun r' => k (.n l u r'))) p
theorem PT.lB : ∀ (p : Pos) (t : PT) (v : Value) (k : PT → Bool), PT.gb p t v k = k (t.set p v)
 | .xH, .e, v, k => rfl
 | .xH, .n l _ r, v, k => rfl
 | .xO p, .e, v, k => PT.lB p _ _ _
 | .xO p, .n l u r, v, k => PT.lB p _ _ _
 | .xI p, .e, v, k => PT.lB p _ _ _
 | .xI p, .n l u r, v, k => PT.lB p _ _ _
theorem PT.Sd (p : Pos) : PT.get .e p = undef := by cases p <;> rfl
theorem PT.cZ : ∀ (p : Pos) (t : PT) (v : Value) (q : Pos), (t.set p v).get q = if q = p then v else t.get q
 | .xH, .e, v, q => by cases q <;> simp [PT.set, PT.get]
 | .xH, .n l u r, v, q => by cases q <;> simp [PT.set, PT.get]
 | .xO p, .e, v, q => by cases q <;> simp [PT.set, PT.get, PT.cZ p]
 | .xO p, .n l u r, v, q => by cases q <;> simp [PT.set, PT.get, PT.cZ p]
 | .xI p, .e, v, q => by cases q <;> simp [PT.set, PT.get, PT.cZ p]
 | .xI p, .n l u r, v, q => by cases q <;> simp [PT.set, PT.get, PT.cZ p]
inductive NT (α : Type) where
 | e
 | n (l : NT α) (v : Option α) (r : NT α)
def NT.get {α : Type} : NT α → Nat → Option α
 | .e, _ => none
 | .n l v r, i => bif Nat.beq i 0 then v else bif Nat.beq (Nat.mod i 2) 1 then l.get (Nat.div i 2) else r.get (Nat.pred (Nat.div i 2))
noncomputable def NT.dr {α : Type} (t : NT α) : Nat → (α → Bool) → Bool :=
 NT.rec (motive := fun _ => Nat → (α → Bool) → Bool) (fun _ _ => false)
  (fun _ v _ il ir i k => Nat.rec (motive := fun _ => Bool) (Option.rec (motive := fun _ => Bool) false (fun x => k x) v)
   (fun _ _ => Bool.rec (motive := fun _ => Bool) (ir (Nat.pred (Nat.div i 2)) k) (il (Nat.div i 2) k) (Nat.beq (Nat.mod i 2) 1)) i) t
theorem NT.Ku {α : Type} (l : NT α) (v : Option α) (r : NT α) (i : Nat) (k : α → Bool) : (NT.n l v r).dr i k =
 bif Nat.beq i 0 then (match v with | some x => k x | none => false) else bif Nat.beq (Nat.mod i 2) 1 then l.dr (Nat.div i 2) k else r.dr (Nat.pred (Nat.div i 2)) k := by
 cases i with
 | zero => cases v <;> rfl
 | succ i =>
  show Bool.rec (motive := fun _ => Bool) (r.dr (Nat.pred (Nat.div (i + 1) 2)) k) (l.dr (Nat.div (i + 1) 2) k) (Nat.beq (Nat.mod (i + 1) 2) 1) = bif false then _ else _
  cases Nat.beq (Nat.mod (i + 1) 2) 1 <;> rfl
theorem NT.vn {α : Type} : ∀ (t : NT α) (i : Nat) (k : α → Bool), t.dr i k = true → ∃ x, t.get i = some x ∧ k x = true
 | .e, i, k, h => by cases h
 | .n l v r, i, k, h => by
  rw [NT.Ku] at h
  rw [NT.get]
  cases h0 : Nat.beq i 0 with
  | true =>
   rw [h0] at h
   cases v with
   | none => simp at h
   | some x => exact ⟨x, rfl, by simpa using h⟩
  | false =>
   cases h1 : Nat.beq (Nat.mod i 2) 1 with
   | true => rw [h0, h1] at h; exact NT.vn l _ k (by simpa using h)
   | false => rw [h0, h1] at h; exact NT.vn r _ k (by simpa using h)
noncomputable def NT.gb {α : Type} (f : Nat) : NT α → Nat → Option α → (NT α → Bool) → Bool :=
 Nat.rec (motive := fun _ => NT α → Nat → Option α → (NT α → Bool) → Bool) (fun _ _ _ _ => false)
  (fun _ ih t i v k => Nat.rec (motive := fun _ => Bool)
   (NT.casesOn (motive := fun _ => Bool) t (k (.n .e v .e)) (fun l _ r => k (.n l v r)))
   (fun _ _ => Bool.rec (motive := fun _ => Bool)
    (NT.casesOn (motive := fun _ => Bool) t (ih .e (Nat.pred (Nat.div i 2)) v (fun r => k (.n .e none r))) (fun l u r => ih r (Nat.pred (Nat.div i 2)) v (fun r' => k (.n l u r'))))
    (NT.casesOn (motive := fun _ => Bool) t (ih .e (Nat.div i 2) v (fun l => k (.n l none .e))) (fun l u r => ih l (Nat.div i 2) v (fun l' => k (.n l' u r))))
    (Nat.beq (Nat.mod i 2) 1)) i) f
theorem NT.sY {α : Type} (f : Nat) (t : NT α) (i : Nat) (v : Option α) (k : NT α → Bool) : NT.gb (f + 1) t i v k =
 bif Nat.beq i 0 then
  (match t with | .e => k (.n .e v .e) | .n l _ r => k (.n l v r))
 else bif Nat.beq (Nat.mod i 2) 1 then
  (match t with | .e => NT.gb f .e (Nat.div i 2) v (fun l => k (.n l none .e)) | .n l u r => NT.gb f l (Nat.div i 2) v (fun l' => k (.n l' u r)))
 else
  (match t with | .e => NT.gb f .e (Nat.pred (Nat.div i 2)) v (fun r => k (.n .e none r)) | .n l u r => NT.gb f r (Nat.pred (Nat.div i 2)) v (fun r' => k (.n l u r'))) := by
 cases i with
 | zero => cases t <;> rfl
 | succ i =>
  cases h : Nat.beq (Nat.mod (i + 1) 2) 1 <;> cases t <;> simp only [NT.gb, h] <;> rfl
def NT.im {α : Type} (t : NT α) (i : Nat) (v : Option α) (t' : NT α) : Prop := t'.get i = v ∧ ∀ j, j ≠ i → t'.get j = t.get j
theorem Kv {α : Type} {c : Bool} {a b : α} (h : c = true) : (bif c then a else b) = a := by subst h; rfl
theorem xi {α : Type} {c : Bool} {a b : α} (h : c = false) : (bif c then a else b) = b := by subst h; rfl
theorem j6 {a b : Nat} (h : a = b) : Nat.beq a b = true := by subst h; exact Nat.beq_refl a
theorem eP {a b : Nat} (h : a ≠ b) : Nat.beq a b = false := by
 cases h' : Nat.beq a b with
 | false => rfl
 | true => exact absurd (Nat.eq_of_beq_eq_true h') h
theorem Se (j : Nat) : Nat.mod (2 * j + 1) 2 = 1 := by show (2 * j + 1) % 2 = 1; omega
theorem Sf (j : Nat) : Nat.mod (2 * j + 2) 2 ≠ 1 := by show (2 * j + 2) % 2 ≠ 1; omega
theorem Sg (j : Nat) : Nat.div (2 * j + 1) 2 = j := by show (2 * j + 1) / 2 = j; omega
theorem Sh (j : Nat) : Nat.pred (Nat.div (2 * j + 2) 2) = j := by show Nat.pred ((2 * j + 2) / 2) = j; simp only [Nat.pred_eq_sub_one]; omega
theorem NT.nC {α : Type} (l : NT α) (v : Option α) (r : NT α) (j : Nat) : (NT.n l v r).get (2 * j + 1) = l.get j := by
 rw [NT.get, xi (eP (by omega)), Kv (j6 (Se j)), Sg]
theorem NT.nD {α : Type} (l : NT α) (v : Option α) (r : NT α) (j : Nat) : (NT.n l v r).get (2 * j + 2) = r.get j := by
 rw [NT.get, xi (eP (by omega)), xi (eP (Sf j)), Sh]
theorem NT.sZ (i : Nat) : i = 0 ∨ (∃ j, i = 2 * j + 1) ∨ (∃ j, i = 2 * j + 2) := by
 by_cases h : i = 0
 · exact .inl h
 · by_cases h2 : i % 2 = 1
   · exact .inr (.inl ⟨i / 2, by omega⟩)
   · exact .inr (.inr ⟨i / 2 - 1, by omega⟩)
def oG (i : Nat) : Nat := Nat.succ (Nat.log2 (Nat.succ i))
def NT.oH {α : Type} : Nat → NT α → Nat → Option α → NT α
 | 0, t, _, _ => t
 | f + 1, t, i, v => bif Nat.beq i 0 then (match t with | .e => .n .e v .e | .n l _ r => .n l v r)
  else bif Nat.beq (Nat.mod i 2) 1 then (match t with | .e => .n (NT.oH f .e (Nat.div i 2) v) none .e | .n l u r => .n (NT.oH f l (Nat.div i 2) v) u r)
  else (match t with | .e => .n .e none (NT.oH f .e (Nat.pred (Nat.div i 2)) v) | .n l u r => .n l u (NT.oH f r (Nat.pred (Nat.div i 2)) v))
def NT.set {α : Type} (t : NT α) (i : Nat) (v : Option α) : NT α := NT.oH (oG i) t i v
theorem abh {i : Nat} (h : i ≠ 0) : Nat.log2 (Nat.succ (Nat.div i 2)) < Nat.log2 (Nat.succ i) ∨ Nat.mod i 2 ≠ 1 := by
 by_cases h1 : Nat.mod i 2 = 1
 · left
   have h2 : i + 1 ≥ 2 := by omega
   rw [Nat.log2_def (i + 1), if_pos h2]
   have : (i + 1) / 2 = Nat.succ (Nat.div i 2) := by
    show (i + 1) / 2 = i / 2 + 1
    have gK : i % 2 = 1 := h1
    omega
   rw [this]; exact Nat.lt_succ_self _
 · exact .inr h1
theorem abj {i : Nat} (h : i ≠ 0) (h1 : Nat.mod i 2 ≠ 1) : Nat.log2 (Nat.succ (Nat.pred (Nat.div i 2))) < Nat.log2 (Nat.succ i) := by
 have h2 : i + 1 ≥ 2 := by omega
 rw [show Nat.succ i = i + 1 from rfl, Nat.log2_def (i + 1), if_pos h2]
 have : (i + 1) / 2 = Nat.succ (Nat.pred (Nat.div i 2)) := by
  show (i + 1) / 2 = Nat.pred (i / 2) + 1
  have gK : ¬ i % 2 = 1 := h1
  rw [Nat.pred_eq_sub_one]
  omega
 rw [this]; exact Nat.lt_succ_self _
theorem NT.abk {α : Type} : ∀ (f : Nat) (t : NT α) (i : Nat) (v : Option α) (k : NT α → Bool), Nat.log2 (Nat.succ i) < f → NT.gb f t i v k = k (NT.oH f t i v) := by
 intro f
 induction f with
 | zero => intro t i v k h; exact absurd h (Nat.not_lt_zero _)
 | succ f ih =>
  intro t i v k h
  cases h0 : Nat.beq i 0 with
  | true => cases t <;> (rw [NT.sY, NT.oH]; simp only [h0, cond_true])
  | false =>
   have hi : i ≠ 0 := fun e => by subst e; cases h0
   cases h1 : Nat.beq (Nat.mod i 2) 1 with
   | true =>
    have hm : Nat.mod i 2 = 1 := Nat.eq_of_beq_eq_true h1
    have hl : Nat.log2 (Nat.succ (Nat.div i 2)) < f := by
     rcases abh hi with h2 | h2
     · omega
     · exact absurd hm h2
    cases t with
    | e => rw [NT.sY, NT.oH]; simp only [h0, h1, cond_true, cond_false]; exact ih .e _ v _ hl
    | n l u r => rw [NT.sY, NT.oH]; simp only [h0, h1, cond_true, cond_false]; exact ih l _ v _ hl
   | false =>
    have hm : Nat.mod i 2 ≠ 1 := fun e => by rw [e] at h1; cases h1
    have hl : Nat.log2 (Nat.succ (Nat.pred (Nat.div i 2))) < f := by have := abj hi hm; omega
    cases t with
    | e => rw [NT.sY, NT.oH]; simp only [h0, h1, cond_false]; exact ih .e _ v _ hl
    | n l u r => rw [NT.sY, NT.oH]; simp only [h0, h1, cond_false]; exact ih r _ v _ hl
theorem NT.lB {α : Type} (t : NT α) (i : Nat) (v : Option α) (k : NT α → Bool) : NT.gb (oG i) t i v k = k (t.set i v) := NT.abk _ _ _ _ _ (Nat.lt_succ_self _)
theorem NT.EH {α : Type} : ∀ (f : Nat) (t : NT α) (i : Nat) (v : Option α) (k : NT α → Bool), NT.gb f t i v k = true → ∃ t', t.im i v t' ∧ k t' = true := by
 intro f
 induction f with
 | zero => intro t i v k h; cases h
 | succ f ih =>
  intro t i v k h
  rcases NT.sZ i with rfl | ⟨j, rfl⟩ | ⟨j, rfl⟩
  · rw [NT.sY] at h
    rw [Kv (j6 rfl)] at h
    cases t with
    | e =>
     refine ⟨_, ⟨rfl, fun q hq => ?_⟩, h⟩
     rcases NT.sZ q with rfl | ⟨q, rfl⟩ | ⟨q, rfl⟩
     · exact absurd rfl hq
     · rw [NT.nC]; rfl
     · rw [NT.nD]; rfl
    | n l u r =>
     refine ⟨_, ⟨rfl, fun q hq => ?_⟩, h⟩
     rcases NT.sZ q with rfl | ⟨q, rfl⟩ | ⟨q, rfl⟩
     · exact absurd rfl hq
     · rw [NT.nC, NT.nC]
     · rw [NT.nD, NT.nD]
  · rw [NT.sY] at h
    rw [xi (eP (by omega)), Kv (j6 (Se j)), Sg] at h
    cases t with
    | e =>
     obtain ⟨t', ⟨h1, h2⟩, h3⟩ := ih _ _ _ _ h
     refine ⟨_, ⟨by rw [NT.nC]; exact h1, fun q hq => ?_⟩, h3⟩
     rcases NT.sZ q with rfl | ⟨q, rfl⟩ | ⟨q, rfl⟩
     · rfl
     · rw [NT.nC, h2 q (by omega)]; rfl
     · rw [NT.nD]; rfl
    | n l u r =>
     obtain ⟨t', ⟨h1, h2⟩, h3⟩ := ih _ _ _ _ h
     refine ⟨_, ⟨by rw [NT.nC]; exact h1, fun q hq => ?_⟩, h3⟩
     rcases NT.sZ q with rfl | ⟨q, rfl⟩ | ⟨q, rfl⟩
     · rfl
     · rw [NT.nC, h2 q (by omega), NT.nC]
     · rw [NT.nD, NT.nD]
  · rw [NT.sY] at h
    rw [xi (eP (by omega)), xi (eP (Sf j)), Sh] at h
    cases t with
    | e =>
     obtain ⟨t', ⟨h1, h2⟩, h3⟩ := ih _ _ _ _ h
     refine ⟨_, ⟨by rw [NT.nD]; exact h1, fun q hq => ?_⟩, h3⟩
     rcases NT.sZ q with rfl | ⟨q, rfl⟩ | ⟨q, rfl⟩
     · rfl
     · rw [NT.nC]; rfl
     · rw [NT.nD, h2 q (by omega)]; rfl
    | n l u r =>
     obtain ⟨t', ⟨h1, h2⟩, h3⟩ := ih _ _ _ _ h
     refine ⟨_, ⟨by rw [NT.nD]; exact h1, fun q hq => ?_⟩, h3⟩
     rcases NT.sZ q with rfl | ⟨q, rfl⟩ | ⟨q, rfl⟩
     · rfl
     · rw [NT.nC, NT.nC]
     · rw [NT.nD, h2 q (by omega), NT.nD]
theorem NT.Si {α : Type} (t : NT α) (i : Nat) (v : Option α) : t.im i v (t.set i v) := by
 classical
 obtain ⟨t', h1, h2⟩ := NT.EH (oG i) t i v (fun t' => decide (t' = t.set i v)) (by rw [NT.lB]; simp)
 have : t' = t.set i v := by simpa using h2
 rw [← this]; exact h1
theorem NT.cZ {α : Type} (t : NT α) (i : Nat) (v : Option α) (j : Nat) : (t.set i v).get j = if j = i then v else t.get j := by
 have h := NT.Si t i v
 by_cases e : j = i
 · rw [if_pos e, e]; exact h.1
 · rw [if_neg e]; exact h.2 j e
inductive dB where
 | t (p : Pos)
 | c (v : Value)
inductive PX where
 | bad
 | cat
 | abl (op : BinOp)
 | sub (lo hi : Bool)
 | abm
 | abn (ty : TypeId) (zero : List Value)
 | abo
 | abp (l : List (TypeId × Nat))
 | same
 | Sj (neg : Bool)
 | abq
 | abr (ty : TypeId)
 | abt
 | abu
 | JB
 | zP
 | entry
inductive Prim where
 | move
 | pick
 | alloc (ty : TypeId) (zero : List Value)
 | box (ty : TypeId)
 | build (zero : List Value) (places : List (Nat × Nat))
 | cY (vo : List Nat)
 | buildSlice (ty : TypeId) (n : Nat) (cells : List Value) (places : List (Nat × Nat))
 | ay
 | bL (n : Nat)
 | store (n : Nat)
 | nilCheck
 | fieldAddr (off : Nat)
 | Kw (off : Nat)
 | abv (off n : Nat)
 | cS (sz : Nat)
 | abw (len sz : Nat)
 | zI (len : Nat)
 | IQ (len sz : Nat)
 | Sk
 | slice (sz : Nat) (lo hi mx : Bool)
 | alL (lo hi : Bool)
 | Sm (n sz : Nat) (lo hi mx : Bool)
 | aD (op : BinOp)
 | Sn (op : BinOp)
 | oI (nk : Nat) (neg : Bool)
 | EI (neg : Bool)
 | zR (neg : Bool) (ks : List Nat)
 | neg
 | eE
 | conv (k : IntKind)
 | uR (fn : Fn) (alM : Nat)
 | I7 (ty : TypeId)
 | mkMap
 | mkSlice (ty : TypeId) (sz : Nat) (zero : List Value)
 | lookup (kc : Nat) (zero : Value) (ok : Bool)
 | oB (kc : Nat)
 | extract (i : Nat)
 | di
 | abx
 | aby
 | abz (n : Nat)
 | append (ty : TypeId) (sz : Nat) (zero : List Value)
 | copy (sz : Nat)
 | abA
 | abB
 | Sp (ty : TypeId) (zero : Value)
 | Kx
 | Ky
 | x (e : PX)
inductive iI where
 | aC (p : Prim)
 | call (f : FuncId)
 | dyn
 | recover
 | panic
 | defer
structure bh where
 dst : Option Pos
 act : iI
 args : List dB
 guard : Option (Pos × Bool)
inductive iJ where
 | op (i : Nat) (o : bh)
 | iX (i : Nat) (o : bh)
inductive c7 where
 | skip
 | ops (l : List bh)
 | draw (l : List iJ)
 | seq (a b : c7)
 | cond (c : dB) (a b : c7)
 | block (id : Nat) (c : c7)
 | loop (c : c7)
 | l4 (f : dB) (params : List Pos) (assign body : c7)
 | exit (id : Nat)
 | ret
inductive kQ where
 | tmp (p : Pos)
 | cell (p : Pos) (n : Option Nat)
structure gn where
 ntmps : Nat
 results : List kQ
 code : c7
 det : Bool
inductive ef where
 | oJ (r : Nat)
 | fn (f : FuncId) (args : List Value)
structure j7 where
 state : LoopState
 dC : Option Code
 fn : FuncId
 tm : PT
 params : List Pos
 assign : c7
 body : c7
 defs : Nat
 nt : Nat
inductive AO where
 | cells (lo hi : Nat) (ty : TypeId) (rw : Bool) (c : NT Value)
 | map (es : List (Value × Value × Nat)) (clock : Nat)
 | loop (l : j7)
 | defs (taken : Bool)
 | l5 (s : ByteArray) (pos : Nat)
 | eQ (m : Option Nat) (since : Nat) (seen : List Nat) (last : Nat)
structure AH where
 nx : Nat
 ob : NT AO
def aT : Nat := 1180591620717411303424
inductive Mp where
 | live (b d n : Nat)
 | dead
abbrev au := Nat → Option Mp
inductive ta (φ : au) : Fn → Fn → Prop where
 | func (f : FuncId) : ta φ (.func f) (.func f)
 | method (s : String) : ta φ (.method s) (.method s)
 | yield (l l' : Nat) (h : φ l ≠ none) (hl : ∀ b d n, φ l = some (.live b d n) → l' = b) : ta φ (.yield l) (.yield l')
def AtR (φ : au) (a a' : Addr) : Prop := ∀ b d n, φ a.block = some (.live b d n) → a'.block = b ∧ a'.off + d = a.off ∧ a'.spot = none
def ry (φ : au) (a a' : Addr) (len cap cH : Nat) : Prop :=
 (cap < aT ∧ cH = cap ∧ len ≤ cap ∧ (0 < cap → AtR φ a a')) ∨
 (∃ sz, cap = aT + sz ∧ 0 < sz ∧ len ≤ cH ∧ (0 < cH → AtR φ a a' ∧ ∀ b d n, φ a.block = some (.live b d n) → a'.off + cH * sz ≤ n))
mutual
inductive VR (φ : au) : Value → Value → Prop where
 | bool (b : Bool) : VR φ (.bool b) (.bool b)
 | int (k : IntKind) (n : Int) : VR φ (.int k n) (.int k n)
 | str (s : ByteArray) : VR φ (.string s) (.string s)
 | EJ : VR φ (.pointer none) (.pointer none)
 | ptr (a a' : Addr) (h : φ a.block ≠ none) (ha : AtR φ a a') : VR φ (.pointer (some a)) (.pointer (some a'))
 | lC : VR φ (.slice none 0 0) (.slice none 0 0)
 | sl (a a' : Addr) (len cap cH : Nat) (h : φ a.block ≠ none) (hc : ry φ a a' len cap cH) : VR φ (.slice (some a) len cap) (.slice (some a') len cH)
 | Sq : VR φ (.map none) (.map none)
 | map (r r' : Nat) (h : φ r ≠ none) (hr : ∀ b d n, φ r = some (.live b d n) → r' = b) : VR φ (.map (some r)) (.map (some r'))
 | Kz : VR φ .nilFunc .nilFunc
 | func (fn rz : Fn) (first jx bI iY : Array Value) (hf : ta φ fn rz) (h1 : LR φ first.toList jx.toList) (h2 : LR φ bI.toList iY.toList) : VR φ (.func fn first bI) (.func rz jx iY)
 | xj : VR φ .nilIface .nilIface
 | iface (t : TypeId) (v v' : Value) (h : VR φ v v') : VR φ (.iface t v) (.iface t v')
 | agg (cs cd : Array Value) (h : LR φ cs.toList cd.toList) : VR φ (.agg cs) (.agg cd)
 | fD (cs cd : Array Value) (h : LR φ cs.toList cd.toList) : VR φ (.tuple cs) (.tuple cd)
inductive LR (φ : au) : List Value → List Value → Prop where
 | nil : LR φ [] []
 | cons (v v' : Value) (l l' : List Value) (h : VR φ v v') (hl : LR φ l l') : LR φ (v :: l) (v' :: l')
end
structure Ext (N : Nat) (φ φ' : au) : Prop where
 old : ∀ f m, φ f = some m → φ' f = some m ∨ φ' f = some .dead
 out : ∀ f, f < N → φ f = none → φ' f = none
theorem Ext.refl (N : Nat) (φ : au) : Ext N φ φ := ⟨fun _ _ h => .inl h, fun _ _ h => h⟩
theorem Ext.trans {N N' : Nat} {φ φ' φ'' : au} (h : Ext N φ φ') (h' : Ext N' φ' φ'') (hN : N ≤ N') : Ext N φ φ'' := by
 refine ⟨fun f m hm => ?_, fun f hf hn => h'.out f (Nat.lt_of_lt_of_le hf hN) (h.out f hf hn)⟩
 rcases h.old f m hm with h1 | h1
 · exact h'.old f m h1
 · rcases h'.old f _ h1 with h2 | h2
   · exact .inr h2
   · exact .inr h2
theorem Ext.cj {N : Nat} {φ φ' : au} (h : Ext N φ φ') {f : Nat} (hf : φ f ≠ none) : φ' f ≠ none := by
 cases hm : φ f with
 | none => exact absurd hm hf
 | some m => rcases h.old f m hm with h1 | h1 <;> simp [h1]
theorem Ext.live {N : Nat} {φ φ' : au} (h : Ext N φ φ') {f b d n : Nat} (hf : φ f ≠ none) (hl : φ' f = some (.live b d n)) : φ f = some (.live b d n) := by
 cases hm : φ f with
 | none => exact absurd hm hf
 | some m =>
  rcases h.old f m hm with h1 | h1
  · rw [h1] at hl; exact hl
  · rw [h1] at hl; cases hl
theorem ta.ext {N : Nat} {φ φ' : au} (h : Ext N φ φ') {f f' : Fn} (hf : ta φ f f') : ta φ' f f' := by
 cases hf with
 | func f => exact .func f
 | method s => exact .method s
 | yield l l' h1 h2 => exact .yield l l' (h.cj h1) (fun b d n hl => h2 b d n (h.live h1 hl))
theorem AtR.ext {N : Nat} {φ φ' : au} (h : Ext N φ φ') {a a' : Addr} (hs : φ a.block ≠ none) (ha : AtR φ a a') : AtR φ' a a' :=
 fun b d n hl => ha b d n (h.live hs hl)
theorem ry.ext {N : Nat} {φ φ' : au} (h : Ext N φ φ') {a a' : Addr} {len cap cH : Nat} (hs : φ a.block ≠ none) (ha : ry φ a a' len cap cH) : ry φ' a a' len cap cH := by
 rcases ha with ⟨h1, h2, hl, h3⟩ | ⟨sz, h1, h2, h3, h4⟩
 · exact .inl ⟨h1, h2, hl, fun hp => (h3 hp).ext h hs⟩
 · exact .inr ⟨sz, h1, h2, h3, fun hp => ⟨(h4 hp).1.ext h hs, fun b d n hl => (h4 hp).2 b d n (h.live hs hl)⟩⟩
mutual
theorem VR.ext {N : Nat} {φ φ' : au} (h : Ext N φ φ') {v v' : Value} : VR φ v v' → VR φ' v v'
 | .bool b => .bool b
 | .int k n => .int k n
 | .str s => .str s
 | .EJ => .EJ
 | .ptr a a' h1 h2 => .ptr a a' (h.cj h1) (h2.ext h h1)
 | .lC => .lC
 | .sl a a' len cap cH h1 h2 => .sl a a' len cap cH (h.cj h1) (h2.ext h h1)
 | .Sq => .Sq
 | .map r r' h1 h2 => .map r r' (h.cj h1) (fun b d n hl => h2 b d n (h.live h1 hl))
 | .Kz => .Kz
 | .func fn rz first jx bI iY hf h1 h2 => .func fn rz first jx bI iY (hf.ext h) (LR.ext h h1) (LR.ext h h2)
 | .xj => .xj
 | .iface t v v' h1 => .iface t v v' (VR.ext h h1)
 | .agg cs cd h1 => .agg cs cd (LR.ext h h1)
 | .fD cs cd h1 => .fD cs cd (LR.ext h h1)
theorem LR.ext {N : Nat} {φ φ' : au} (h : Ext N φ φ') {l l' : List Value} : LR φ l l' → LR φ' l l'
 | .nil => .nil
 | .cons v v' l l' h1 h2 => .cons v v' l l' (VR.ext h h1) (LR.ext h h2)
end
theorem VR.undef (φ : au) : VR φ undef undef := .fD #[] #[] .nil
theorem LR.length {φ : au} : ∀ {l l' : List Value}, LR φ l l' → l.length = l'.length
 | _, _, .nil => rfl
 | _, _, .cons _ _ _ _ _ h => by simp [LR.length h]
theorem LR.append {φ : au} {m m' : List Value} (hm : LR φ m m') : ∀ {l l' : List Value}, LR φ l l' → LR φ (l ++ m) (l' ++ m')
 | _, _, .nil => hm
 | _, _, .cons v v' l l' h hl => .cons v v' _ _ h (LR.append hm hl)
theorem LR.get {φ : au} : ∀ {l l' : List Value}, LR φ l l' → ∀ (i : Nat) (v : Value), l[i]? = some v → ∃ v', l'[i]? = some v' ∧ VR φ v v'
 | _, _, .nil, i, v, h => by simp at h
 | _, _, .cons a a' l l' h hl, 0, v, e => by simp at e; subst e; exact ⟨a', by simp, h⟩
 | _, _, .cons a a' l l' h hl, i + 1, v, e => by
  simp at e
  obtain ⟨v', h1, h2⟩ := LR.get hl i v e
  exact ⟨v', by simpa using h1, h2⟩
theorem LR.KA {φ : au} : ∀ {l l' : List Value}, l.length = l'.length → (∀ (i : Nat) (v v' : Value), l[i]? = some v → l'[i]? = some v' → VR φ v v') → LR φ l l'
 | [], [], _, _ => .nil
 | a :: l, a' :: l', hl, h => .cons a a' l l' (h 0 a a' (by simp) (by simp)) (LR.KA (by simpa using hl) (fun i v v' e e' => h (i + 1) v v' (by simpa using e) (by simpa using e')))
 | [], _ :: _, hl, _ => by simp at hl
 | _ :: _, [], hl, _ => by simp at hl
theorem LR.drop {φ : au} : ∀ (n : Nat) {l l' : List Value}, LR φ l l' → LR φ (l.drop n) (l'.drop n)
 | 0, _, _, h => by simpa using h
 | n + 1, _, _, .nil => by simpa using LR.nil
 | n + 1, _, _, .cons _ _ _ _ _ h => by simpa using LR.drop n h
theorem LR.take {φ : au} : ∀ (n : Nat) {l l' : List Value}, LR φ l l' → LR φ (l.take n) (l'.take n)
 | 0, _, _, _ => by simpa using LR.nil
 | n + 1, _, _, .nil => by simpa using LR.nil
 | n + 1, _, _, .cons _ _ _ _ h hl => by simpa using LR.cons _ _ _ _ h (LR.take n hl)
theorem VR.cells {φ : au} {v v' : Value} (h : VR φ v v') : LR φ v.cells.toList v'.cells.toList := by
 cases h <;> simp only [Value.cells] <;> first
  | assumption
  | exact .cons _ _ _ _ (by constructor <;> assumption) .nil
def TR (φ : au) (t : PT) (n : Nat) (tm : Array Value) : Prop := n ≤ tm.size ∧ ∀ p : Pos, VR φ (t.get p) (tm.getD p.un undef)
def DR (φ : au) : ef → Deferred → Prop
 | .oJ r, d => φ r ≠ none ∧ ∃ r', d = { target := .collected r', args := #[] } ∧ ∀ b d n, φ r = some (.live b d n) → r' = b
 | .fn f args, d => ∃ bI args', d = { target := .fn (.func f) bI, args := args' } ∧ LR φ args (args' ++ bI).toList
inductive DL (φ : au) : List ef → List Deferred → Prop where
 | nil : DL φ [] []
 | cons (d : ef) (d' : Deferred) (l : List ef) (l' : List Deferred) (h : DR φ d d') (hl : DL φ l l') : DL φ (d :: l) (d' :: l')
theorem DR.ext {N : Nat} {φ φ' : au} (h : Ext N φ φ') {d : ef} {d' : Deferred} (hd : DR φ d d') : DR φ' d d' := by
 cases d with
 | oJ r =>
  obtain ⟨h1, r', e, h2⟩ := hd
  exact ⟨h.cj h1, r', e, fun b d n hl => h2 b d n (h.live h1 hl)⟩
 | fn f args =>
  obtain ⟨bI, args', e, h1⟩ := hd
  exact ⟨bI, args', e, LR.ext h h1⟩
theorem DL.ext {N : Nat} {φ φ' : au} (h : Ext N φ φ') : ∀ {l : List ef} {l' : List Deferred}, DL φ l l' → DL φ' l l'
 | _, _, .nil => .nil
 | _, _, .cons d d' l l' h1 h2 => .cons d d' l l' (h1.ext h) (DL.ext h h2)
theorem TR.ext {N : Nat} {φ φ' : au} (h : Ext N φ φ') {t : PT} {n : Nat} {tm : Array Value} (ht : TR φ t n tm) : TR φ' t n tm :=
 ⟨ht.1, fun p => VR.ext h (ht.2 p)⟩
theorem TR.set {φ : au} {t : PT} {n : Nat} {tm : Array Value} (ht : TR φ t n tm) (p : Pos) (hp : p.un < n) {v v' : Value} (hv : VR φ v v') :
 TR φ (t.set p v) n (tm.setIfInBounds p.un v') := by
 refine ⟨by simp [ht.1], fun q => ?_⟩
 rw [PT.cZ]
 by_cases h : q = p
 · subst h
   rw [if_pos rfl]
   have : q.un < tm.size := Nat.lt_of_lt_of_le hp ht.1
   simpa [Array.getD, this] using hv
 · rw [if_neg h]
   have cL : p.un ≠ q.un := fun e => h (Pos.sX e).symm
   have := ht.2 q
   simpa [Array.getD_eq_getD_getElem?, Array.getElem?_setIfInBounds_ne cL] using this
end Go.Ve
namespace Go.Ve
noncomputable section
abbrev KV := Value → AH → Bool
def fN (n : Nat) (k : Nat → Bool) : Bool := Nat.casesOn (motive := fun _ => Bool) n (k 0) (fun m => k (.succ m))
def fI (n : Int) (k : Int → Bool) : Bool := Int.casesOn (motive := fun _ => Bool) n (fun a => fN a fun a => k (.ofNat a)) (fun a => fN a fun a => k (.negSucc a))
def fB (b : Bool) (k : Bool → Bool) : Bool := Bool.casesOn (motive := fun _ => Bool) b (k false) (k true)
theorem bO (n : Nat) (k : Nat → Bool) : fN n k = k n := by cases n <;> rfl
theorem mc (n : Int) (k : Int → Bool) : fI n k = k n := by cases n <;> simp [fI, bO]
theorem gQ (b : Bool) (k : Bool → Bool) : fB b k = k b := by cases b <;> rfl
def iff (c : Bool) (k : Bool) : Bool := Bool.casesOn (motive := fun _ => Bool) c false k
theorem iff_eq (c k : Bool) : iff c k = true ↔ c = true ∧ k = true := by cases c <;> simp [iff]
def kj : Int → Int → Bool
 | .ofNat a, .ofNat b => Nat.beq a b
 | .negSucc a, .negSucc b => Nat.beq a b
 | _, _ => false
def me : Int → Int → Bool
 | .ofNat a, .ofNat b => Nat.ble (.succ a) b
 | .negSucc a, .negSucc b => Nat.ble (.succ b) a
 | .negSucc _, .ofNat _ => true
 | .ofNat _, .negSucc _ => false
def eS : IntKind → IntKind → Bool
 | .i8, .i8 => true | .i16, .i16 => true | .i32, .i32 => true | .i64, .i64 => true
 | .u8, .u8 => true | .u16, .u16 => true | .u32, .u32 => true | .u64, .u64 => true
 | _, _ => false
def rR : Nat := 9223372036854775807
def bf (k : IntKind) (n : Int) : Int := match k with
 | .i64 => (match n with
  | .ofNat a => bif Nat.ble a rR then n else IntKind.i64.wrap n
  | .negSucc a => bif Nat.ble a rR then n else IntKind.i64.wrap n)
 | k => k.wrap n
def TG (k : IntKind) (x y : Int) (c : Value → Bool) : Bool := fI (bf k (Int.add x y)) fun n => c (.int k n)
def TH (k : IntKind) (x y : Int) (c : Value → Bool) : Bool := fI (bf k (Int.sub x y)) fun n => c (.int k n)
def TI (k : IntKind) (x y : Int) (c : Value → Bool) : Bool := fI (bf k (Int.mul x y)) fun n => c (.int k n)
def TJ (k : IntKind) (x y : Int) (c : Value → Bool) : Bool := bif kj y (.ofNat 0) then false else fI (bf k (Int.tdiv x y)) fun n => c (.int k n)
def TK (k : IntKind) (x y : Int) (c : Value → Bool) : Bool := bif kj y (.ofNat 0) then false else fI (Int.tmod x y) fun n => c (.int k n)
def TL (_ : IntKind) (x y : Int) (c : Value → Bool) : Bool := fB (kj x y) fun b => c (.bool b)
def TM (_ : IntKind) (x y : Int) (c : Value → Bool) : Bool := fB (!kj x y) fun b => c (.bool b)
def TN (_ : IntKind) (x y : Int) (c : Value → Bool) : Bool := fB (me x y) fun b => c (.bool b)
def TO (_ : IntKind) (x y : Int) (c : Value → Bool) : Bool := fB (!me y x) fun b => c (.bool b)
def TP (_ : IntKind) (x y : Int) (c : Value → Bool) : Bool := fB (me y x) fun b => c (.bool b)
def TQ (_ : IntKind) (x y : Int) (c : Value → Bool) : Bool := fB (!me x y) fun b => c (.bool b)
def TS (k : IntKind) (x y : Int) (c : Value → Bool) : Bool := match k, x, y with
 | .u64, .ofNat a, .ofNat b => bif Nat.ble a 18446744073709551615 && Nat.ble b 18446744073709551615 then fN (Nat.land a b) fun n => c (.int .u64 (.ofNat n)) else false
 | _, _, _ => false
def TT (_ : IntKind) (_ _ : Int) (_ : Value → Bool) : Bool := false
def LA (op : BinOp) : IntKind → Int → Int → (Value → Bool) → Bool := match op with
 | .add => TG
 | .sub => TH
 | .mul => TI
 | .quo => TJ
 | .rem => TK
 | .eql => TL
 | .neq => TM
 | .lss => TN
 | .leq => TO
 | .gtr => TP
 | .geq => TQ
 | .and => TS
 | _ => TT
def LB (k : IntKind) (x y : Int) (c : Value → Bool) : Bool := match k, x, y with
 | .u64, .ofNat a, .ofNat b => bif Nat.ble b 64 then fN (Nat.shiftRight a b) fun n => c (.int .u64 (.ofNat n)) else false
 | _, _, _ => false
def mS : List UInt8 → List UInt8 → Bool
 | [], [] => true
 | a :: l, b :: m => bif Nat.beq a.toNat b.toNat then mS l m else false
 | _, _ => false
def a0 (vs : List Value) (k : Bool) : Bool := List.casesOn (motive := fun _ => Bool) vs k (fun _ _ => false)
def a1 (vs : List Value) (k : Value → Bool) : Bool := List.casesOn (motive := fun _ => Bool) vs false (fun x vs => a0 vs (k x))
def a2 (vs : List Value) (k : Value → Value → Bool) : Bool := List.casesOn (motive := fun _ => Bool) vs false (fun x vs => a1 vs (k x))
def a3 (vs : List Value) (k : Value → Value → Value → Bool) : Bool := List.casesOn (motive := fun _ => Bool) vs false (fun x vs => a2 vs (k x))
def nW (l : List Value) : Nat → (Value → Bool) → Bool :=
 List.rec (motive := fun _ => Nat → (Value → Bool) → Bool) (fun _ _ => false) (fun x _ ih n k => Nat.casesOn (motive := fun _ => Bool) n (k x) (fun n => ih n k)) l
def qe (l : List Value) : Nat → (List Value → Bool) → Bool :=
 List.rec (motive := fun _ => Nat → (List Value → Bool) → Bool) (fun n k => Nat.casesOn (motive := fun _ => Bool) n (k []) (fun _ => false))
  (fun x _ ih n k => Nat.casesOn (motive := fun _ => Bool) n (k []) (fun n => ih n fun l' => k (x :: l'))) l
def qf (l : List Value) : Nat → (List Value → Bool) → Bool :=
 List.rec (motive := fun _ => Nat → (List Value → Bool) → Bool) (fun n k => Nat.casesOn (motive := fun _ => Bool) n (k []) (fun _ => false))
  (fun x l ih n k => Nat.casesOn (motive := fun _ => Bool) n (k (x :: l)) (fun n => ih n k)) l
def kX (l : List Value) : List Value → (List Value → Bool) → Bool :=
 List.rec (motive := fun _ => List Value → (List Value → Bool) → Bool) (fun vs k => List.casesOn (motive := fun _ => Bool) vs (k []) (fun _ _ => false))
  (fun x l ih vs k => List.casesOn (motive := fun _ => Bool) vs (k (x :: l)) (fun v vs => ih vs fun l' => k (v :: l'))) l
def nJ (l : List Value) : Nat → List Value → (List Value → Bool) → Bool :=
 List.rec (motive := fun _ => Nat → List Value → (List Value → Bool) → Bool) (fun n vs k => Nat.casesOn (motive := fun _ => Bool) n (kX [] vs k) (fun _ => false))
  (fun x l ih n vs k => Nat.casesOn (motive := fun _ => Bool) n (kX (x :: l) vs k) (fun n => ih n vs fun l' => k (x :: l'))) l
def ia (l : List Value) : Nat → Bool :=
 List.rec (motive := fun _ => Nat → Bool) (fun n => Nat.casesOn (motive := fun _ => Bool) n true (fun _ => false))
  (fun _ _ ih n => Nat.casesOn (motive := fun _ => Bool) n false (fun n => ih n)) l
def cellsOf (v : Value) : List Value := match v with
 | .agg ⟨l⟩ => l
 | v => [v]
def iM (l : List Value) (ps : List (Nat × Nat)) : List Value → (List Value → Bool) → Bool :=
 List.rec (motive := fun _ => List Value → List Value → (List Value → Bool) → Bool)
  (fun l vs k => List.casesOn (motive := fun _ => Bool) vs (k l) (fun _ _ => false))
  (fun p _ ih l vs k => List.casesOn (motive := fun _ => Bool) vs false (fun v vs => Prod.casesOn (motive := fun _ => Bool) p fun off sz =>
   bif ia (cellsOf v) sz then nJ l off (cellsOf v) fun l' => ih l' vs k else false)) ps l
def eH : Value → Bool
 | .agg _ => false
 | .tuple _ => false
 | _ => true
def cP (l : List Value) : Bool :=
 List.rec (motive := fun _ => Bool) true (fun v _ ih => bif eH v then ih else false) l
def gM (l : List Value) (m : List Value) : (List Value → Bool) → Bool :=
 List.rec (motive := fun _ => (List Value → Bool) → Bool) (fun k => k m) (fun x _ ih k => ih fun l' => k (x :: l')) l
def vF (c : NT Value) (i : Nat) (l : List Value) : (NT Value → Bool) → Bool :=
 List.rec (motive := fun _ => NT Value → Nat → (NT Value → Bool) → Bool) (fun c _ k => k c)
  (fun v _ ih c i k => NT.gb (oG i) c i (some v) fun c' => fN (Nat.succ i) fun i' => ih c' i' k) l c i
def nX (c : NT Value) (i : Nat) (n : Nat) : (List Value → Bool) → Bool :=
 Nat.rec (motive := fun _ => Nat → (List Value → Bool) → Bool) (fun _ k => k [])
  (fun _ ih i k => NT.dr c i fun v => fN (Nat.succ i) fun i' => ih i' fun l => k (v :: l)) n i
def mT (h : AH) (b : Nat) (k : AO → Bool) : Bool := AH.casesOn (motive := fun _ => Bool) h fun _ ob => NT.dr ob b k
def fP (h : AH) (b : Nat) (o : Option AO) (k : AH → Bool) : Bool := AH.casesOn (motive := fun _ => Bool) h fun nx ob => NT.gb (oG b) ob b o fun aU => k ⟨nx, aU⟩
def kY (h : AH) (o : AO) (k : Nat → AH → Bool) : Bool := AH.casesOn (motive := fun _ => Bool) h fun nx ob => NT.gb (oG nx) ob nx (some o) fun aU => fN (Nat.succ nx) fun qg => k nx ⟨qg, aU⟩
def jR (h : AH) (ty : TypeId) (l : List Value) (k : Nat → AH → Bool) : Bool :=
 iff (cP l) (vF .e 0 l fun c => fN l.length fun n => kY h (.cells 0 n ty true c) k)
def kZ (h : AH) (b : Nat) (k : Nat → Nat → TypeId → Bool → NT Value → Bool) : Bool :=
 mT h b fun o => AO.casesOn (motive := fun _ => Bool) o k (fun _ _ => false) (fun _ => false) (fun _ => false) (fun _ _ => false) (fun _ _ _ _ => false)
def jS (h : AH) (b : Nat) (k : List (Value × Value × Nat) → Nat → Bool) : Bool :=
 mT h b fun o => AO.casesOn (motive := fun _ => Bool) o (fun _ _ _ _ _ => false) k (fun _ => false) (fun _ => false) (fun _ _ => false) (fun _ _ _ _ => false)
def mR (h : AH) (b : Nat) (k : j7 → Bool) : Bool :=
 mT h b fun o => AO.casesOn (motive := fun _ => Bool) o (fun _ _ _ _ _ => false) (fun _ _ => false) k (fun _ => false) (fun _ _ => false) (fun _ _ _ _ => false)
def xM (h : AH) (b : Nat) (k : Bool → Bool) : Bool :=
 mT h b fun o => AO.casesOn (motive := fun _ => Bool) o (fun _ _ _ _ _ => false) (fun _ _ => false) (fun _ => false) k (fun _ _ => false) (fun _ _ _ _ => false)
def TU (h : AH) (b : Nat) (k : ByteArray → Nat → Bool) : Bool :=
 mT h b fun o => AO.casesOn (motive := fun _ => Bool) o (fun _ _ _ _ _ => false) (fun _ _ => false) (fun _ => false) (fun _ => false) k (fun _ _ _ _ => false)
def tw (h : AH) (b : Nat) (k : Option Nat → Nat → List Nat → Nat → Bool) : Bool :=
 mT h b fun o => AO.casesOn (motive := fun _ => Bool) o (fun _ _ _ _ _ => false) (fun _ _ => false) (fun _ => false) (fun _ => false) (fun _ _ => false) k
def jQ (h : AH) (b off n : Nat) (k : List Value → Bool) : Bool :=
 kZ h b fun lo hi _ _ c => iff (Nat.ble lo off && Nat.ble (Nat.add off n) hi) (nX c off n k)
def qc (h : AH) (b off : Nat) (k : Value → Bool) : Bool :=
 kZ h b fun lo hi _ _ c => iff (Nat.ble lo off && Nat.ble (Nat.succ off) hi) (NT.dr c off k)
def oT (h : AH) (b off : Nat) (l : List Value) (k : AH → Bool) : Bool :=
 kZ h b fun lo hi ty rw c => iff (rw && Nat.ble lo off && Nat.ble (Nat.add off l.length) hi && cP l)
  (vF c off l fun c' => fP h b (some (.cells lo hi ty rw c')) k)
def mf {α : Type} : α → Bool := fun _ => false
def ic (v : Value) (k : Nat → Nat → Bool) : Bool := match v with
 | .pointer (some a) => Addr.casesOn (motive := fun _ => Bool) a fun b o _ => k b o
 | _ => false
def rT (v : Value) (k : List Value → Bool) : Bool := match v with
 | .agg a => Array.casesOn (motive := fun _ => Bool) a k
 | _ => false
def Fm (v : Value) (k : List Value → Bool) : Bool := match v with
 | .tuple a => Array.casesOn (motive := fun _ => Bool) a k
 | _ => false
def rU (v : Value) (k : Bool → Bool) : Bool := match v with
 | .bool b => k b
 | _ => false
def jT (v : Value) (k : IntKind → Int → Bool) : Bool := match v with
 | .int kd n => k kd n
 | _ => false
def iv (v : Value) (k : ByteArray → Bool) : Bool := match v with
 | .string s => k s
 | _ => false
def jU (v : Value) (kn : Bool) (k : Nat → Nat → Nat → Nat → Bool) : Bool := match v with
 | .slice none _ _ => kn
 | .slice (some a) l c => Addr.casesOn (motive := fun _ => Bool) a fun b o _ => k b o l c
 | _ => false
def vG (v : Value) (kn : Bool) (k : Nat → Bool) : Bool := match v with
 | .map none => kn
 | .map (some r) => k r
 | _ => false
def al (b o : Nat) : Value := .pointer (some ⟨b, o, none⟩)
def nY (v : Value) (k : Nat → Bool) : Bool := jT v fun _ n => Int.casesOn (motive := fun _ => Bool) n k mf
def nZ (b : Bool) (vs : List Value) (d : Nat) (k : Nat → List Value → Bool) : Bool := Bool.casesOn (motive := fun _ => Bool) b (k d vs)
 (List.casesOn (motive := fun _ => Bool) vs false fun v vs => nY v fun n => k n vs)
def iO : Nat → Value → Option Bool
 | 0, .pointer none => some true
 | 0, .pointer (some _) => some false
 | 1, .slice none _ _ => some true
 | 1, .slice (some _) _ _ => some false
 | 2, .map none => some true
 | 2, .map (some _) => some false
 | 3, .nilFunc => some true
 | 3, .func _ _ _ => some false
 | 4, .nilIface => some true
 | 4, .iface _ _ => some false
 | _, _ => none
def kR : Nat → Value → Value → Option Bool
 | 0, .int k a, .int l b => bif eS k l then some (kj a b) else none
 | 1, .bool a, .bool b => some (bif a then b else !b)
 | 2, .string a, .string b => some (mS a.data.toList b.data.toList)
 | _, _, _ => none
def mU : List Nat → List Value → List Value → Option Bool
 | [], [], [] => some true
 | kc :: ks, a :: l, b :: m => match kR kc a b with
  | some true => mU ks l m
  | some false => some false
  | none => none
 | _, _, _ => none
def qh (o : Option Bool) (ng : Bool) (k : Value → Bool) : Bool := match o with
 | some b => fB (bif ng then !b else b) fun b => k (.bool b)
 | none => false
def rV (sz l h m cap : Nat) (LC : Bool) (b o : Nat) (k : Value → Bool) : Bool :=
 fN (Nat.sub h l) fun n =>
 bif Nat.ble aT cap && !LC then
  fN (Nat.add o (Nat.mul l sz)) fun o' => k (.slice (some ⟨b, o', none⟩) n cap)
 else
  iff (Nat.ble (Nat.succ m) aT) (bif Nat.beq m l then k (.slice (some ⟨b, o, none⟩) n 0)
  else fN (Nat.add o (Nat.mul l sz)) fun o' => fN (Nat.sub m l) fun c => k (.slice (some ⟨b, o', none⟩) n c))
def vr (kc : Nat) : List (Value × Value × Nat) → Value → (Option Value → Bool) → Bool
 | [], _, k => k none
 | (a, v, _) :: es, x, k => match kR kc x a with
  | some true => k (some v)
  | some false => vr kc es x k
  | none => false
def nI (kc : Nat) : List (Value × Value × Nat) → Value → Value → Nat → (List (Value × Value × Nat) → Nat → Bool) → Bool
 | [], x, y, cl, k => fN (Nat.succ cl) fun iP => k [(x, y, cl)] iP
 | (a, v, b) :: es, x, y, cl, k => match kR kc x a with
  | some true => k ((x, y, b) :: es) cl
  | some false => nI kc es x y cl fun cq iP => k ((a, v, b) :: cq) iP
  | none => false
def Aa : Nat → Value → Bool
 | 0, .int _ _ => true
 | 1, .bool _ => true
 | 2, .string _ => true
 | _, _ => false
def xm (n : Nat) (zero : List Value) (k : List Value → Bool) : Bool :=
 Nat.rec (motive := fun _ => (List Value → Bool) → Bool) (fun k => k []) (fun _ ih k => ih fun l => gM zero l k) n k
def AT (vs : List Value) : Bool := List.casesOn (motive := fun _ => Bool) vs true (fun _ _ => false)
def k9 (h : AH) (sz : Nat) (x : Value) (k : Nat → List Value → Bool) : Bool :=
 jU x (k 0 []) fun b o n _ => bif Nat.beq n 0 then k 0 [] else jQ h b o (Nat.mul n sz) fun l => k n l
def vv (ss : List Nat) (vs : List Value) : (List Value → Bool) → Bool :=
 List.rec (motive := fun _ => List Value → (List Value → Bool) → Bool) (fun vs k => a0 vs (k []))
  (fun n _ ih vs k => List.casesOn (motive := fun _ => Bool) vs false fun v vs => iff (ia (cellsOf v) n) (ih vs fun l => gM (cellsOf v) l k)) ss vs
def AU : Value → Bool
 | .pointer none => false
 | .nilIface => false
 | .nilFunc => false
 | .func (.method _) _ _ => false
 | _ => true
def LD (op : BinOp) (kx : IntKind) (a : Int) (ky : IntKind) (b : Int) (k : Value → Bool) : Bool := match op with
 | .shl => false
 | .shr => LB kx a b k
 | op => iff (eS kx ky) (LA op kx a b k)
def LF (op : BinOp) (a b : ByteArray) (k : Value → Bool) : Bool := match op with
 | .eql => fB (mS a.data.toList b.data.toList) fun b => k (.bool b)
 | .neq => fB (!mS a.data.toList b.data.toList) fun b => k (.bool b)
 | _ => false
def AV (x y : Option Bool) (ng : Bool) (k : Value → Bool) : Bool := match x, y with
 | some true, some b => qh (some b) ng k
 | some b, some true => qh (some b) ng k
 | _, _ => false
def EL (zero : Value) (ok : Bool) (h : AH) (k : KV) (o : Option Value) : Bool := match o, ok with
 | none, true => k (.tuple ⟨[zero, .bool false]⟩) h
 | none, false => k zero h
 | some v, true => k (.tuple ⟨[v, .bool true]⟩) h
 | some v, false => k v h
def xR (h : AH) (ty : TypeId) (sz n : Nat) (xs : List Value) (k : KV) : Bool :=
 bif Nat.beq n 0 then k (.slice none 0 0) h else iff (Nat.ble n 1048576) (jR h ty xs fun b h => fN (Nat.add aT sz) fun cp => k (.slice (some ⟨b, 0, none⟩) n cp) h)
def Fo (h : AH) (ty : TypeId) (sz : Nat) (xs : List Value) (b o len cap gR : Nat) (k : KV) : Bool :=
 iff (Nat.beq cap (Nat.add aT sz)) (kZ h b fun lo hi cf rw c =>
  iff (rw && Nat.beq cf ty && Nat.ble lo o && Nat.ble (Nat.add o (Nat.mul len sz)) hi && cP xs)
   (fP h b none fun h => fN (Nat.add o (Nat.mul len sz)) fun at_ => vF c at_ xs fun c' => fN (Nat.add o (Nat.mul gR sz)) fun du =>
    kY h (.cells o du ty true c') fun b' h => k (.slice (some ⟨b', o, none⟩) gR cap) h))
def xS (h : AH) (ty : TypeId) (sz n : Nat) (xs : List Value) (k : KV) (b o len cap : Nat) : Bool :=
 bif Nat.beq n 0 then k (.slice (some ⟨b, o, none⟩) len cap) h else
 fN (Nat.add len n) fun gR => iff (Nat.ble gR 1048576) (
 bif Nat.ble aT cap then Fo h ty sz xs b o len cap gR k
 else bif Nat.ble gR cap then
  fN (Nat.add o (Nat.mul len sz)) fun at_ => oT h b at_ xs fun h => k (.slice (some ⟨b, o, none⟩) gR cap) h
 else bif Nat.beq len 0 then jR h ty xs fun b' h => fN (Nat.add aT sz) fun cp => k (.slice (some ⟨b', 0, none⟩) gR cp) h
 else jQ h b o (Nat.mul len sz) fun old => gM old xs fun l => jR h ty l fun b' h => fN (Nat.add aT sz) fun cp => k (.slice (some ⟨b', 0, none⟩) gR cp) h)
def KJ (ty : TypeId) (zero : Value) (x : Value) (k : Value → Bool) : Bool := match x with
 | .nilIface => k (.tuple ⟨[zero, .bool false]⟩)
 | .iface t v => bif Nat.beq t ty then k (.tuple ⟨[v, .bool true]⟩) else k (.tuple ⟨[zero, .bool false]⟩)
 | _ => false
def SG (h : AH) (b : Nat) (k : KV) (s : ByteArray) (pos : Nat) : Bool := match s.data.toList[pos]? with
 | some c => bif Nat.ble (Nat.succ c.toNat) 128 then (fN (Nat.succ pos) fun pos' => fP h b (some (.l5 s pos')) fun h =>
  fN c.toNat fun n => k (.tuple ⟨[.bool true, .int .i64 (.ofNat pos), .int .i32 (.ofNat n)]⟩) h)
  else fP h b (some (.l5 s (pos + (Utf8.decode s pos).2))) fun h => k (.tuple ⟨[.bool true, .int .i64 (.ofNat pos), .int .i32 (.ofNat (Utf8.decode s pos).1)]⟩) h
 | none => k (.tuple ⟨[.bool false]⟩) h
def LG (vs : List Value) (h : AH) (k : KV) : Bool := a1 vs fun x => k x h
def LH (vs : List Value) (h : AH) (k : KV) : Bool := a3 vs fun c a b => rU c fun t => Bool.casesOn (motive := fun _ => Bool) t (k b h) (k a h)
def TV (ty : TypeId) (zero : List Value) (vs : List Value) (h : AH) (k : KV) : Bool := a0 vs (jR h ty zero fun b h => k (al b 0) h)
def TW (ty : TypeId) (vs : List Value) (h : AH) (k : KV) : Bool := a1 vs fun v => jR h ty (cellsOf v) fun b h => k (al b 0) h
def TX (zero : List Value) (places : List (Nat × Nat)) (vs : List Value) (h : AH) (k : KV) : Bool := iM zero places vs fun l => k (.agg ⟨l⟩) h
def TY (vo : List Nat) (vs : List Value) (h : AH) (k : KV) : Bool := vv vo vs fun l => k (.agg ⟨l⟩) h
def SO (ty : TypeId) (n : Nat) (cells : List Value) (places : List (Nat × Nat)) (vs : List Value) (h : AH) (k : KV) : Bool := iM cells places vs fun l => jR h ty l fun b h => k (.slice (some ⟨b, 0, none⟩) n n) h
def LI (vs : List Value) (h : AH) (k : KV) : Bool := a1 vs fun p => ic p fun b o => qc h b o fun v => k v h
def LJ (n : Nat) (vs : List Value) (h : AH) (k : KV) : Bool := a1 vs fun p => ic p fun b o => jQ h b o n fun l => k (.agg ⟨l⟩) h
def TZ (n : Nat) (vs : List Value) (h : AH) (k : KV) : Bool := a2 vs fun p v => ic p fun b o => iff (ia (cellsOf v) n) (oT h b o (cellsOf v) fun h => k undef h)
def LK (vs : List Value) (h : AH) (k : KV) : Bool := a1 vs fun x => iff (AU x) (k x h)
def LM (off : Nat) (vs : List Value) (h : AH) (k : KV) : Bool := a1 vs fun p => ic p fun b o => fN (Nat.add o off) fun o' => k (al b o') h
def LN (off : Nat) (vs : List Value) (h : AH) (k : KV) : Bool := a1 vs fun x => rT x fun l => nW l off fun v => k v h
def LQ (off n : Nat) (vs : List Value) (h : AH) (k : KV) : Bool := a1 vs fun x => rT x fun l => qf l off fun l => qe l n fun l => k (.agg ⟨l⟩) h
def LS (sz : Nat) (vs : List Value) (h : AH) (k : KV) : Bool := a2 vs fun x i => nY i fun i => jU x false fun b o len _ => iff (Nat.ble (Nat.succ i) len) (fN (Nat.add o (Nat.mul i sz)) fun o' => k (al b o') h)
def LU (len sz : Nat) (vs : List Value) (h : AH) (k : KV) : Bool := a2 vs fun x i => nY i fun i => ic x fun b o => iff (Nat.ble (Nat.succ i) len) (fN (Nat.add o (Nat.mul i sz)) fun o' => k (al b o') h)
def LV (len : Nat) (vs : List Value) (h : AH) (k : KV) : Bool := a2 vs fun x i => nY i fun i => rT x fun l => iff (Nat.ble (Nat.succ i) len) (nW l i fun v => k v h)
def LW (len sz : Nat) (vs : List Value) (h : AH) (k : KV) : Bool := a2 vs fun x i => nY i fun i => rT x fun l => iff (Nat.ble (Nat.succ i) len) (qf l (Nat.mul i sz) fun l => qe l sz fun l => k (.agg ⟨l⟩) h)
def Fp (vs : List Value) (h : AH) (k : KV) : Bool := a2 vs fun x i => nY i fun i => iv x fun s => (match s.data.toList[i]? with | some c => fN c.toNat fun n => k (.int .u8 (.ofNat n)) h | none => false)
def AW (sz : Nat) (lo hi mx : Bool) (vs : List Value) (h : AH) (k : KV) : Bool := List.casesOn (motive := fun _ => Bool) vs false fun x vs => jU x
 (nZ lo vs 0 fun l vs => nZ hi vs 0 fun hh vs => iff (Nat.beq l 0 && Nat.beq hh 0 && !mx && AT vs) (k (.slice none 0 0) h))
 fun b o len cap => nZ lo vs 0 fun l vs => nZ hi vs len fun hh vs => nZ mx vs cap fun m vs =>
  iff (AT vs && Nat.ble l hh && Nat.ble hh m && (Nat.ble hh len || !(Nat.ble aT cap)) && (bif mx then Nat.ble m (bif Nat.ble aT cap then len else cap) else true) && (bif Nat.ble aT cap then Nat.beq cap (Nat.add aT sz) else true))
   (rV sz l hh m cap mx b o fun v => k v h)
def T0 (lo hi : Bool) (vs : List Value) (h : AH) (k : KV) : Bool := iff (lo && hi && AT vs && false) (k undef h)
def AY (n sz : Nat) (lo hi mx : Bool) (vs : List Value) (h : AH) (k : KV) : Bool := List.casesOn (motive := fun _ => Bool) vs false fun x vs => ic x fun b o => nZ lo vs 0 fun l vs => nZ hi vs n fun hh vs => nZ mx vs n fun m vs =>
      iff (AT vs && Nat.ble l hh && Nat.ble hh m && Nat.ble m n) (rV sz l hh m n true b o fun v => k v h)
def Fq (op : BinOp) (vs : List Value) (h : AH) (k : KV) : Bool := a2 vs fun x y => jT x fun kx a => jT y fun ky b => LD op kx a ky b fun v => k v h
def Fs (op : BinOp) (vs : List Value) (h : AH) (k : KV) : Bool := a2 vs fun x y => iv x fun a => iv y fun b => LF op a b fun v => k v h
def Ft (nk : Nat) (ng : Bool) (vs : List Value) (h : AH) (k : KV) : Bool := a2 vs fun x y => AV (iO nk x) (iO nk y) ng fun v => k v h
def LX (ng : Bool) (vs : List Value) (h : AH) (k : KV) : Bool := a2 vs fun x y => rU x fun a => rU y fun b => fB (bif ng then (bif a then !b else b) else (bif a then b else !b)) fun c => k (.bool c) h
def LY (ng : Bool) (ks : List Nat) (vs : List Value) (h : AH) (k : KV) : Bool := a2 vs fun x y => rT x fun l => rT y fun m => qh (mU ks l m) ng fun v => k v h
def LZ (vs : List Value) (h : AH) (k : KV) : Bool := a1 vs fun x => jT x fun kd n => fI (bf kd (Int.sub (.ofNat 0) n)) fun n => k (.int kd n) h
def L3 (vs : List Value) (h : AH) (k : KV) : Bool := a1 vs fun x => rU x fun b => fB (!b) fun b => k (.bool b) h
def L4 (kd : IntKind) (vs : List Value) (h : AH) (k : KV) : Bool := a1 vs fun x => jT x fun _ n => fI (bf kd n) fun n => k (.int kd n) h
def L5 (fn : Fn) (nf : Nat) (vs : List Value) (h : AH) (k : KV) : Bool := qe vs nf fun a => qf vs nf fun b => k (.func fn ⟨a⟩ ⟨b⟩) h
def L6 (ty : TypeId) (vs : List Value) (h : AH) (k : KV) : Bool := a1 vs fun x => k (.iface ty x) h
def T1 (vs : List Value) (h : AH) (k : KV) : Bool := a0 vs (kY h (.map [] 0) fun b h => k (.map (some b)) h)
def Sx (ty : TypeId) (sz : Nat) (zero : List Value) (vs : List Value) (h : AH) (k : KV) : Bool := a2 vs fun l c => nY l fun l => nY c fun c => iff (Nat.ble l c && Nat.ble c 65536 && ia zero sz) (xm c zero fun cs => jR h ty cs fun b h => k (.slice (some ⟨b, 0, none⟩) l c) h)
def KG (kc : Nat) (zero : Value) (ok : Bool) (vs : List Value) (h : AH) (k : KV) : Bool := a2 vs fun m x => iff (Aa kc x) (vG m (EL zero ok h k none) fun r => jS h r fun es _ => vr kc es x (EL zero ok h k))
def SC (kc : Nat) (vs : List Value) (h : AH) (k : KV) : Bool := a3 vs fun m x v => iff (Aa kc x) (vG m false fun r => jS h r fun es cl => nI kc es x v cl fun es cl => fP h r (some (.map es cl)) fun h => k undef h)
def L7 (i : Nat) (vs : List Value) (h : AH) (k : KV) : Bool := a1 vs fun x => Fm x fun l => nW l i fun v => k v h
def L8 (vs : List Value) (h : AH) (k : KV) : Bool := a1 vs fun x => jU x (k (.int .i64 (.ofNat 0)) h) fun _ _ n _ => k (.int .i64 (.ofNat n)) h
def L9 (vs : List Value) (h : AH) (k : KV) : Bool := a1 vs fun x => iv x fun s => fN s.data.toList.length fun n => k (.int .i64 (.ofNat n)) h
def Ma (vs : List Value) (h : AH) (k : KV) : Bool := a1 vs fun x => vG x (k (.int .i64 (.ofNat 0)) h) fun r => jS h r fun es _ => fN es.length fun n => k (.int .i64 (.ofNat n)) h
def Mb (n : Nat) (vs : List Value) (h : AH) (k : KV) : Bool := a1 vs fun _ => k (.int .i64 (.ofNat n)) h
def T2 (ty : TypeId) (sz : Nat) (zero : List Value) (vs : List Value) (h : AH) (k : KV) : Bool := a2 vs fun s x => k9 h sz x fun n xs => iff (Nat.ble 1 sz && ia zero sz) (jU s (xR h ty sz n xs k) (xS h ty sz n xs k))
def Sr (sz : Nat) (vs : List Value) (h : AH) (k : KV) : Bool := a2 vs fun d s => jU d (jU s (k (.int .i64 (.ofNat 0)) h) fun _ _ _ _ => k (.int .i64 (.ofNat 0)) h) fun b o len _ => jU s (k (.int .i64 (.ofNat 0)) h) fun b' o' nE _ =>
      fN (bif Nat.ble nE len then nE else len) fun n => bif Nat.beq n 0 then k (.int .i64 (.ofNat 0)) h else
        jQ h b' o' (Nat.mul n sz) fun l => oT h b o l fun h => k (.int .i64 (.ofNat n)) h
def KB (vs : List Value) (h : AH) (k : KV) : Bool := a2 vs fun x y => jT x fun kx a => jT y fun ky b => iff (eS kx ky) (bif me a b then k (.int kx b) h else k (.int kx a) h)
def KC (vs : List Value) (h : AH) (k : KV) : Bool := a2 vs fun x y => jT x fun kx a => jT y fun ky b => iff (eS kx ky) (bif me b a then k (.int kx b) h else k (.int kx a) h)
def EP (ty : TypeId) (zero : Value) (vs : List Value) (h : AH) (k : KV) : Bool := a1 vs fun x => KJ ty zero x fun v => k v h
def SE (vs : List Value) (h : AH) (k : KV) : Bool := a1 vs fun x => iv x fun s => kY h (.l5 s 0) fun b h => k (al b 0) h
def SF (vs : List Value) (h : AH) (k : KV) : Bool := a1 vs fun x => ic x fun b o => iff (Nat.beq o 0) (TU h b (SG h b k))
def rW (l m : List UInt8) : (List UInt8 → Bool) → Bool :=
 List.rec (motive := fun _ => (List UInt8 → Bool) → Bool) (fun k => k m) (fun x _ ih k => ih fun l' => k (x :: l')) l
def Fu (l : List UInt8) : Nat → (List UInt8 → Bool) → Bool :=
 List.rec (motive := fun _ => Nat → (List UInt8 → Bool) → Bool) (fun _ k => k [])
  (fun x _ ih n k => Nat.casesOn (motive := fun _ => Bool) n (k []) (fun n => ih n fun l' => k (x :: l'))) l
def Fv (l : List UInt8) : Nat → (List UInt8 → Bool) → Bool :=
 List.rec (motive := fun _ => Nat → (List UInt8 → Bool) → Bool) (fun _ k => k [])
  (fun x l ih n k => Nat.casesOn (motive := fun _ => Bool) n (k (x :: l)) (fun n => ih n k)) l
def vH : List UInt8 → List UInt8 → Bool
 | _, [] => false
 | [], _ :: _ => true
 | a :: l, b :: m => bif Nat.ble (Nat.succ a.toNat) b.toNat then true else bif Nat.beq a.toNat b.toNat then vH l m else false
def T3 (op : BinOp) (a b : List UInt8) : Option Bool := match op with
 | .lss => some (vH a b)
 | .leq => some (vH a b || mS a b)
 | .gtr => some (!(vH a b || mS a b))
 | .geq => some (!vH a b)
 | _ => none
def adB (_ : List Value) (_ : AH) (_ : KV) : Bool := false
def T4 (vs : List Value) (h : AH) (k : KV) : Bool := a2 vs fun x y => iv x fun a => iv y fun b =>
 iff (Nat.ble (Nat.add a.data.toList.length b.data.toList.length) 9223372036854775807) (rW a.data.toList b.data.toList fun l => k (.string ⟨⟨l⟩⟩) h)
def T5 (op : BinOp) (vs : List Value) (h : AH) (k : KV) : Bool := a2 vs fun x y => iv x fun a => iv y fun b => qh (T3 op a.data.toList b.data.toList) false fun v => k v h
def Mc (lo hi : Bool) (vs : List Value) (h : AH) (k : KV) : Bool := List.casesOn (motive := fun _ => Bool) vs false fun x vs => iv x fun s =>
 nZ lo vs 0 fun l vs => nZ hi vs s.data.toList.length fun hh vs => iff (AT vs && Nat.ble l hh && Nat.ble hh s.data.toList.length) (Fv s.data.toList l fun m => Fu m (Nat.sub hh l) fun m => k (.string ⟨⟨m⟩⟩) h)
def T6 (vs : List Value) (h : AH) (k : KV) : Bool := a1 vs fun x => jU x (k (.int .i64 (.ofNat 0)) h) fun _ _ _ c => iff (Nat.ble (Nat.succ c) aT) (k (.int .i64 (.ofNat c)) h)
def Md (l : List UInt8) : (List Value → Bool) → Bool :=
 List.rec (motive := fun _ => (List Value → Bool) → Bool) (fun k => k []) (fun c _ ih k => fN c.toNat fun n => ih fun l => k (.int .u8 (.ofNat n) :: l)) l
def T7 (l : List Value) : (List UInt8 → Bool) → Bool :=
 List.rec (motive := fun _ => (List UInt8 → Bool) → Bool) (fun k => k []) (fun v _ ih k => jT v fun kd n => Int.casesOn (motive := fun _ => Bool) n (fun n => iff (eS kd .u8 && Nat.ble (Nat.succ n) 256) (ih fun l => k (UInt8.ofNat n :: l))) mf) l
def T9 (ty : TypeId) (zero : List Value) (vs : List Value) (h : AH) (k : KV) : Bool := a2 vs fun s x => iv x fun t => Md t.data.toList fun xs => fN xs.length fun n =>
 iff (ia zero 1) (jU s (xR h ty 1 n xs k) (xS h ty 1 n xs k))
def Ua (vs : List Value) (h : AH) (k : KV) : Bool := a1 vs fun p => ic p fun b o => kZ h b fun lo hi _ _ _ => iff (Nat.ble lo o && Nat.ble (Nat.succ o) hi) (k (al b o) h)
def Fw (ty hi : Nat) : List (TypeId × Nat) → Bool
 | [] => false
 | (t, n) :: l => bif Nat.beq t ty && Nat.ble n hi then true else Fw ty hi l
def Ub (l : List (TypeId × Nat)) (vs : List Value) (h : AH) (k : KV) : Bool := a1 vs fun p => ic p fun b o => kZ h b fun lo hi ty _ _ => iff (Nat.beq lo 0 && Nat.beq o 0 && Fw ty hi l) (k (al b o) h)
def Uc (vs : List Value) (h : AH) (k : KV) : Bool := a1 vs fun p => k p h
def Fx (x y : Value) : Bool := match x, y with
 | .pointer (some a), .pointer (some b) => Nat.beq a.block b.block && Nat.beq a.off b.off
 | _, _ => false
def Ud (ng : Bool) (vs : List Value) (h : AH) (k : KV) : Bool := a2 vs fun x y => bif Fx x y then ic x fun b _ => mT h b fun _ => fB (!ng) fun b => k (.bool b) h else AV (iO 0 x) (iO 0 y) ng fun v => k v h
def Ue (vs : List Value) (h : AH) (k : KV) : Bool := a1 vs fun s => jU s (k (.pointer none) h) fun b o n _ => iff (Nat.ble 1 n) (k (al b o) h)
def Uf (ty : TypeId) (n : Nat) (h : AH) (k : KV) (a : Addr) : Bool := Addr.casesOn (motive := fun _ => Bool) a fun b o _ =>
 kZ h b fun lo hi cf rw c => iff (rw && Nat.beq cf ty && Nat.ble lo o && Nat.ble (Nat.add o n) hi && Nat.ble n 1048576) (nX c o n fun l => T7 l fun m => fP h b (some (.cells lo hi cf false c)) fun h => k (.string ⟨⟨m⟩⟩) h)
def Ug (ty : TypeId) (vs : List Value) (h : AH) (k : KV) : Bool := a2 vs fun p n => nY n fun n => match p with
 | .pointer q => bif Nat.beq n 0 then k (.string ⟨⟨[]⟩⟩) h else Option.casesOn (motive := fun _ => Bool) q false (Uf ty n h k)
 | _ => false
def AZ (l : List UInt8) (c : Nat) : Nat := List.rec (motive := fun _ => Nat) 0 (fun b _ ih => bif Nat.beq b.toNat c then Nat.succ ih else ih) l
def Fy (c : Nat) : List UInt8 → Nat → (Int → Bool) → Bool
 | [], _, k => k (.negSucc 0)
 | b :: l, i, k => bif Nat.beq b.toNat c then k (.ofNat i) else fN (Nat.succ i) fun i => Fy c l i k
def Uh (vs : List Value) (h : AH) (k : KV) : Bool := a2 vs fun s c => iv s fun s => jT c fun kd n => Int.casesOn (motive := fun _ => Bool) n (fun n => iff (eS kd .u8 && Nat.ble (Nat.succ n) 256) (fN (AZ s.data.toList n) fun n => k (.int .i64 (.ofNat n)) h)) mf
def Ui (vs : List Value) (h : AH) (k : KV) : Bool := a2 vs fun s c => iv s fun s => jT c fun kd n => Int.casesOn (motive := fun _ => Bool) n (fun n => iff (eS kd .u8 && Nat.ble (Nat.succ n) 256) (Fy n s.data.toList 0 fun i => k (.int .i64 i) h)) mf
def Uj (vs : List Value) (h : AH) (k : KV) : Bool := a1 vs fun m => vG m (kY h (.eQ none 0 [] 0) fun b h => k (al b 0) h) fun r => jS h r fun _ cl => kY h (.eQ (some r) cl [] cl) fun b h => k (al b 0) h
def qd (l : List Nat) (n : Nat) : Bool := List.rec (motive := fun _ => Bool) false (fun m _ ih => bif Nat.beq m n then true else ih) l
def A7 (l : List Nat) (n : Nat) : (List Nat → Bool) → Bool :=
 List.rec (motive := fun _ => (List Nat → Bool) → Bool) (fun k => k [n]) (fun x _ ih k => ih fun l' => k (x :: l')) l
def rX (es : List (Value × Value × Nat)) (since : Nat) (seen : List Nat) : (List (Value × Value × Nat) → Bool) → Bool :=
 List.rec (motive := fun _ => (List (Value × Value × Nat) → Bool) → Bool) (fun k => k []) (fun e _ ih k => iff (Nat.ble (Nat.succ e.2.2) since) (bif qd seen e.2.2 then ih k else ih fun l => k (e :: l))) es
def tx (go : Value → Value → Nat → Bool) : List (Value × Value × Nat) → Bool
 | [] => true
 | [(a, v, n)] => go a v n
 | (a, v, n) :: l => iff (go a v n) (tx go l)
def Fz (h : AH) (b r since : Nat) (seen : List Nat) (k : KV) (a v : Value) (n : Nat) : Bool :=
 A7 seen n fun adC => fP h b (some (.eQ (some r) since adC since)) fun h => k (.tuple ⟨[.bool true, a, v]⟩) h
def FA (h : AH) (b r since : Nat) (seen : List Nat) (k : KV) (l : List (Value × Value × Nat)) : Bool := match l with
 | [] => fP h b none fun h => k (.tuple ⟨[.bool false]⟩) h
 | l => tx (Fz h b r since seen k) l
def Uk (vs : List Value) (h : AH) (k : KV) : Bool := a1 vs fun p => ic p fun b o => iff (Nat.beq o 0) (tw h b fun m since seen last => Option.casesOn (motive := fun _ => Bool) m (k (.tuple ⟨[.bool false]⟩) h) fun r =>
 jS h r fun es cl => iff (Nat.beq cl since && Nat.beq last since) (rX es since seen (FA h b r since seen k)))
def vI (l : List Nat) (k : Nat → Bool) : Bool := match l with
 | [] => false
 | [n] => k n
 | _ :: l => vI l k
def tz (es : List (Value × Value × Nat)) (n : Nat) (k : Value → Value → Bool) : Bool := match es with
 | [] => false
 | (a, v, b) :: es => bif Nat.beq b n then k a v else tz es n k
def Ul (vs : List Value) (h : AH) (k : KV) : Bool := a1 vs fun p => ic p fun b o => iff (Nat.beq o 0) (tw h b fun m _ seen last => Option.casesOn (motive := fun _ => Bool) m false fun r =>
 jS h r fun es cl => iff (Nat.beq cl last) (vI seen fun n => tz es n fun a v => k (.tuple ⟨[a, v]⟩) h))
def PX.ev (p : PX) : List Value → AH → KV → Bool := PX.casesOn (motive := fun _ => List Value → AH → KV → Bool) p adB T4 T5 Mc T6
 T9 Ua Ub Uc Ud Ue Ug Uh Ui Uj Uk Ul
def Prim.ev (p : Prim) : List Value → AH → KV → Bool := Prim.casesOn (motive := fun _ => List Value → AH → KV → Bool) p
 LG LH TV TW TX TY SO LI LJ TZ LK LM LN LQ LS LU LV LW Fp AW T0 AY Fq Fs Ft LX LY LZ L3 L4 L5 L6 T1 Sx KG SC L7 L8 L9 Ma Mb T2 Sr KB KC EP SE SF PX.ev
inductive AX where
 | normal
 | exit (id : Nat)
 | ret
 | aQ (v : Value)
inductive Rc where
 | off
 | can (v : Value)
 | kU
structure St where
 tm : PT
 df : List ef
 rc : Rc
 h : AH
structure Env where
 fn : FuncId
 nt : Nat
 tj : Option Nat
inductive CR where
 | ret (v : Value)
 | aQ (v : Value)
abbrev KS := AX → St → Bool
inductive Task where
 | code (c : c7) (e : Env) (s : St) (k : KS)
 | call (f : FuncId) (args : List Value) (h : AH) (k : CR → AH → Bool)
 | xB (f : FuncId) (args : List Value) (rc : Rc) (h : AH) (k : Rc → AH → Bool)
 | round (l : Nat) (args : List Value) (h : AH) (k : CR → AH → Bool)
 | leave (ds : List ef) (m : Option Value) (h : AH) (k : Option Value → AH → Bool)
def rN (o : dB) (t : PT) (k : Value → Bool) : Bool := dB.casesOn (motive := fun _ => Bool) o (fun p => PT.dr p t k) k
def nO (l : List dB) (t : PT) : (List Value → Bool) → Bool :=
 List.rec (motive := fun _ => (List Value → Bool) → Bool) (fun k => k []) (fun o _ ih k => rN o t fun v => ih fun vs => k (v :: vs)) l
def gP (d : Option Pos) (s : St) (v : Value) (h : AH) (k : St → Bool) : Bool := St.casesOn (motive := fun _ => Bool) s fun tm df rc _ =>
 Option.casesOn (motive := fun _ => Bool) d (k ⟨tm, df, rc, h⟩) (fun p => PT.gb p tm v fun KZ => k ⟨KZ, df, rc, h⟩)
def mb (a b : Bool) : Bool := Bool.casesOn (motive := fun _ => Bool) a (Bool.casesOn (motive := fun _ => Bool) b true false) b
def vz (want : Bool) (yes no : Bool) (v : Value) : Bool := match v with
 | .bool b => bif mb b want then yes else no
 | _ => no
def nP (g : Option (Pos × Bool)) (t : PT) (yes no : Bool) : Bool :=
 Option.casesOn (motive := fun _ => Bool) g yes fun pw => Prod.casesOn (motive := fun _ => Bool) pw fun p want => PT.dr p t (vz want yes no)
def nL (dst : Option Pos) (s : St) (fail : KS) (k : St → Bool) (r : CR) (h : AH) : Bool :=
 CR.casesOn (motive := fun _ => Bool) r (fun v => gP dst s v h k) (fun v => St.casesOn (motive := fun _ => Bool) s fun tm df rc _ => fail (.aQ v) ⟨tm, df, rc, h⟩)
def S8 (alO : Task → Bool) (dst : Option Pos) (_ : Env) (s : St) (_ : KS) (k : St → Bool) (vs : List Value) (p : Prim) : Bool :=
 p.ev vs s.h fun v h => gP dst s v h k
def Ta (rec : Task → Bool) (dst : Option Pos) (_ : Env) (s : St) (fail : KS) (k : St → Bool) (vs : List Value) (f : FuncId) : Bool :=
 rec (.call f vs s.h (nL dst s fail k))
def tn (v : Value) (kf : Nat → List Value → List Value → Bool) (ky : Nat → Bool) : Bool := match v with
 | .func (.func g) ⟨first⟩ ⟨bI⟩ => kf g first bI
 | .func (.yield l) ⟨[]⟩ ⟨[]⟩ => ky l
 | _ => false
def KU (rec : Task → Bool) (dst : Option Pos) (_ : Env) (s : St) (fail : KS) (k : St → Bool) (vs : List Value) : Bool :=
 List.casesOn (motive := fun _ => Bool) vs false fun f as => tn f
  (fun g first bI => gM as bI fun l => gM first l fun l => rec (.call g l s.h (nL dst s fail k)))
  (fun l => rec (.round l as s.h (nL dst s fail k)))
def Ar (dst : Option Pos) (e : Env) (s : St) (k : St → Bool) (vs : List Value) : Bool := match e.tj, vs with
 | none, [] => (match s.rc with
  | .can v => gP dst ⟨s.tm, s.df, .kU, s.h⟩ v s.h k
  | _ => gP dst s .nilIface s.h k)
 | _, _ => false
def EY (s : St) (fail : KS) (vs : List Value) : Bool := a1 vs fun v => match v with
 | .iface t x => fail (.aQ (.iface t x)) s
 | _ => false
def Av (dst : Option Pos) (e : Env) (s : St) (k : St → Bool) (vs : List Value) : Bool := match e.tj, vs with
 | none, f :: as => tn f (fun g first bI => gM as bI fun l => gM first l fun l => gP dst ⟨s.tm, .fn g l :: s.df, s.rc, s.h⟩ undef s.h k) mf
 | _, _ => false
def xE (rec : Task → Bool) (act : iI) (dst : Option Pos) (e : Env) (s : St) (fail : KS) (k : St → Bool) (vs : List Value) : Bool :=
 iI.casesOn (motive := fun _ => Bool) act (S8 rec dst e s fail k vs) (Ta rec dst e s fail k vs) (KU rec dst e s fail k vs)
  (Ar dst e s k vs) (EY s fail vs) (Av dst e s k vs)
def tp (rec : Task → Bool) (o : bh) (e : Env) (s : St) (fail : KS) (k : St → Bool) : Bool :=
 bh.casesOn (motive := fun _ => Bool) o fun dst act args g => nP g s.tm (nO args s.tm (xE rec act dst e s fail k)) (gP dst s undef s.h k)
def Az (rec : Task → Bool) (l : List bh) (e : Env) (s : St) (k : KS) : Bool :=
 List.rec (motive := fun _ => St → Bool) (fun s => k .normal s) (fun o _ ih s => tp rec o e s k ih) l s
def FB : Value → Value → Bool
 | .bool a, .bool b => bif a then b else !b
 | .int k a, .int l b => bif eS k l then kj a b else false
 | .string a, .string b => mS a.data.toList b.data.toList
 | .pointer none, .pointer none => true
 | .pointer (some a), .pointer (some b) => Nat.beq a.block b.block && Nat.beq a.off b.off
 | .slice none l c, .slice none m d => Nat.beq l m && Nat.beq c d
 | .slice (some a) l c, .slice (some b) m d => Nat.beq a.block b.block && Nat.beq a.off b.off && Nat.beq l m && Nat.beq c d
 | .map none, .map none => true
 | .map (some a), .map (some b) => Nat.beq a b
 | .nilFunc, .nilFunc => true
 | .nilIface, .nilIface => true
 | _, _ => false
def A8 : List Value → List Value → Bool
 | [], [] => true
 | a :: l, b :: m => FB a b && A8 l m
 | _, _ => false
def FC : Value → Value → Bool
 | .func (.func f) ⟨a⟩ ⟨b⟩, .func (.func g) ⟨c⟩ ⟨d⟩ => Nat.beq f g && A8 a c && A8 b d
 | a, b => FB a b
def vJ : List Value → List Value → Bool
 | [], [] => true
 | a :: l, b :: m => FC a b && vJ l m
 | _, _ => false
def oU (a b : Value) : Bool := match a, b with
 | .agg ⟨l⟩, .agg ⟨m⟩ => vJ l m
 | .tuple ⟨l⟩, .tuple ⟨m⟩ => vJ l m
 | a, b => FC a b
def Prim.fresh (p : Prim) (vs : List Value) (k : TypeId → List Value → Bool) : Bool := match p with
 | .alloc ty zero => a0 vs (k ty zero)
 | .box ty => a1 vs fun v => k ty (cellsOf v)
 | .buildSlice ty _ cells places => iM cells places vs fun l => k ty l
 | _ => false
def Prim.makes : Prim → Bool
 | .alloc _ _ => true
 | .box _ => true
 | .buildSlice _ _ _ _ => true
 | _ => false
def Me (v : Value) (k : Nat → Bool) : Bool := match v with
 | .pointer (some ⟨b, o, _⟩) => iff (Nat.beq o 0) (k b)
 | .slice (some ⟨b, o, _⟩) _ _ => iff (Nat.beq o 0) (k b)
 | _ => false
def vK (s : St) (v : Value) (ty : TypeId) (l : List Value) : Bool :=
 Me v fun b => kZ s.h b fun lo hi cf rw c => iff (rw && Nat.beq lo 0 && Nat.beq hi l.length && Nat.beq ty cf) (nX c 0 l.length fun m => vJ m l)
def A9 (v : Value) (v' : Value) (_ : AH) : Bool := oU v' v
def Ba (dst : Option Pos) (s : St) (vs : List Value) (p : Prim) : Bool :=
 Option.casesOn (motive := fun _ => Bool) dst false fun d => PT.dr d s.tm fun v => bif p.makes then p.fresh vs (vK s v) else p.ev vs s.h (A9 v)
def xT (o : bh) (s : St) : Bool :=
 bh.casesOn (motive := fun _ => Bool) o fun dst act args g => nP g s.tm (nO args s.tm fun vs =>
  iI.casesOn (motive := fun _ => Bool) act (Ba dst s vs) mf false false false false) true
def nR (rec : Task → Bool) (l : List iJ) (e : Env) (s : St) (k : KS) : Bool :=
 List.rec (motive := fun _ => St → Bool) (fun s => k .normal s)
  (fun d _ ih s => iJ.casesOn (motive := fun _ => Bool) d (fun _ o => tp rec o e s k ih) (fun _ o => iff (xT o s) (ih s))) l s
def xQ (ps : List Pos) (vs : List Value) (t : PT) (k : PT → Bool) : Bool :=
 List.rec (motive := fun _ => List Value → PT → Bool) (fun vs t => a0 vs (k t)) (fun p _ ih vs t => List.casesOn (motive := fun _ => Bool) vs false fun v vs => PT.gb p t v fun t => ih vs t) ps vs t
def rO (i : Nat) (vs : List Value) (t : PT) (k : PT → Bool) : Bool :=
 List.rec (motive := fun _ => Nat → PT → Bool) (fun _ t => k t) (fun v _ ih i t => PT.gb (Pos.of i) t v fun t => ih (.succ i) t) vs i t
def ki (rs : List kQ) (t : PT) (h : AH) (k : List Value → Bool) : Bool := match rs with
 | [] => k []
 | .tmp p :: rs => PT.dr p t fun v => ki rs t h fun vs => k (v :: vs)
 | .cell p none :: rs => PT.dr p t fun v => ic v fun b o => qc h b o fun x => ki rs t h fun vs => k (x :: vs)
 | .cell p (some n) :: rs => PT.dr p t fun v => ic v fun b o => jQ h b o n fun l => ki rs t h fun vs => k (.agg ⟨l⟩ :: vs)
def AK (vs : List Value) (k : Value → Bool) : Bool := match vs with
 | [v] => k v
 | vs => k (.tuple ⟨vs⟩)
def AA (rec : Task → Bool) (b : c7) (e : Env) (k : KS) (x : AX) (s : St) : Bool := AX.casesOn (motive := fun _ => Bool) x (rec (.code b e s k)) (fun id => k (.exit id) s) (k .ret s) (fun v => k (.aQ v) s)
def adD (rec : Task → Bool) (e : Env) (s : St) (k : KS) (a b : c7) : Bool := rec (.code a e s (AA rec b e k))
def adE (rec : Task → Bool) (e : Env) (s : St) (k : KS) (c : dB) (a b : c7) : Bool :=
 rN c s.tm fun v => rU v fun t => Bool.casesOn (motive := fun _ => Bool) t (rec (.code b e s k)) (rec (.code a e s k))
def K4 (id : Nat) (k : KS) (x : AX) (s : St) : Bool := AX.casesOn (motive := fun _ => Bool) x (k .normal s) (fun j => bif Nat.beq j id then k .normal s else k (.exit j) s) (k .ret s) (fun v => k (.aQ v) s)
def adF (rec : Task → Bool) (e : Env) (s : St) (k : KS) (id : Nat) (c : c7) : Bool := rec (.code c e s (K4 id k))
def adG (rec : Task → Bool) (e : Env) (s : St) (k : KS) (c : c7) : Bool := rec (.code c e s (AA rec (.loop c) e k))
def j7.iL (r : j7) (st : LoopState) (j : Option Code) : j7 := j7.casesOn (motive := fun _ => j7) r fun _ _ fn tm ps a b d nt => ⟨st, j, fn, tm, ps, a, b, d, nt⟩
def E3 (s : St) (df : List ef) (k : KS) (j : Option Code) (h : AH) : Bool := match j with
 | none => k .normal ⟨s.tm, df, s.rc, h⟩
 | some .ret => k .ret ⟨s.tm, df, s.rc, h⟩
 | some (.exit id) => k (.exit id) ⟨s.tm, df, s.rc, h⟩
 | _ => false
def Mf : LoopState → Bool
 | .busy => false
 | _ => true
def isReady : LoopState → Bool
 | .ready => true
 | _ => false
def K9 (s : St) (df : List ef) (k : KS) (l : Nat) (r : CR) (h : AH) : Bool := CR.casesOn (motive := fun _ => Bool) r
 (fun _ => mR h l fun r => iff (Mf r.state) (fP h l (some (.loop (r.iL .exhausted r.dC))) (E3 s df k r.dC)))
 (fun v => k (.aQ v) ⟨s.tm, df, s.rc, h⟩)
def AE (rec : Task → Bool) (e : Env) (s : St) (k : KS) (params : List Pos) (assign body : c7) (g : Nat) (first bI : List Value) (h : AH) (dl : Nat) (df : List ef) : Bool :=
 kY h (.loop ⟨.ready, none, e.fn, s.tm, params, assign, body, dl, e.nt⟩) fun l h =>
  gM first (.func (.yield l) ⟨[]⟩ ⟨[]⟩ :: bI) fun args => rec (.call g args h (K9 s df k l))
def Tp (rec : Task → Bool) (e : Env) (s : St) (k : KS) (f : dB) (params : List Pos) (assign body : c7) : Bool :=
 rN f s.tm fun fv => tn fv (fun g first bI => match e.tj with
  | none => kY s.h (.defs false) fun r h => AE rec e s k params assign body g first bI h r (.oJ r :: s.df)
  | some l => mR s.h l fun r => AE rec e s k params assign body g first bI s.h r.defs s.df) mf
def Lf (rec : Task → Bool) (c : c7) (e : Env) (s : St) (k : KS) : Bool := c7.casesOn (motive := fun _ => Bool) c
 (k .normal s) (fun l => Az rec l e s k) (fun l => nR rec l e s k) (adD rec e s k) (adE rec e s k) (adF rec e s k) (adG rec e s k) (Tp rec e s k)
 (fun id => k (.exit id) s) (k .ret s)
def AN (results : List kQ) (tm : PT) (k : CR → AH → Bool) (m : Option Value) (h : AH) : Bool := match m with
 | none => ki results tm h fun vs => AK vs fun v => k (.ret v) h
 | some v => k (.aQ v) h
def TA (results : List kQ) (k : CR → AH → Bool) (m : Option Value) (h : AH) : Bool := match m with
 | none => (match results with | [] => k (.ret (.tuple ⟨[]⟩)) h | _ => false)
 | some v => k (.aQ v) h
def AM (rec : Task → Bool) (results : List kQ) (k : CR → AH → Bool) (x : AX) (s : St) : Bool := AX.casesOn (motive := fun _ => Bool) x
 (rec (.leave s.df none s.h (AN results s.tm k))) mf (rec (.leave s.df none s.h (AN results s.tm k))) (fun v => rec (.leave s.df (some v) s.h (TA results k)))
def Um (v : Value) : List Nat := match v with
 | .slice (some a) _ _ => [a.block]
 | .map (some r) => [r]
 | .pointer (some a) => [a.block]
 | _ => []
def Un : List Value → List Nat
 | [] => []
 | v :: l => Um v ++ Un l
def adH (v : Value) : List Nat := match v with
 | .tuple ⟨l⟩ => Un l
 | v => Um v
def Fe (cj : List Nat) (n : Nat) : Nat → AH → (AH → Bool) → Bool :=
 Nat.rec (motive := fun _ => Nat → AH → (AH → Bool) → Bool) (fun _ h k => k h)
  (fun _ ih b h k => fN (Nat.succ b) fun b' => bif qd cj b then ih b' h k else fP h b none fun h => ih b' h k) n
def Lo (h0 : AH) (k : CR → AH → Bool) (v : Value) (h : AH) : Bool := match adH v with
 | [] => iff (k (.ret v) h) true
 | cj => fN (Nat.sub h.nx h0.nx) fun n => fN h0.nx fun b => Fe cj n b h fun h => iff (k (.ret v) h) true
def jn (det : Bool) (h0 : AH) (k : CR → AH → Bool) : CR → AH → Bool := bif det then fun r h => CR.casesOn (motive := fun _ => Bool) r (fun v => Lo h0 k v h) (fun v => k (.aQ v) h) else k
abbrev rQ := List (FuncId × (List Value → AH → (CR → AH → Bool) → Bool))
def TB (prog : NT gn) (rec : Task → Bool) (f : FuncId) (args : List Value) (h : AH) (k : CR → AH → Bool) : Bool :=
 NT.dr prog f fun fn => gn.casesOn (motive := fun _ => Bool) fn fun nt results code det => rO 0 args .e fun tm =>
  rec (.code code ⟨f, nt, none⟩ ⟨tm, [], .off, h⟩ (AM rec results (jn det h k)))
def Fh (prog : NT gn) (sums : rQ) (rec : Task → Bool) (f : FuncId) (args : List Value) (h : AH) (k : CR → AH → Bool) : Bool := match sums with
 | [] => TB prog rec f args h k
 | (g, S) :: l => bif Nat.beq g f then S args h k else Fh prog l rec f args h k
def tt (df : List ef) (k : Bool) : Bool := match df with
 | [] => k
 | _ => false
def Lt (k : Rc → AH → Bool) (x : AX) (s : St) : Bool := match x with
 | .normal => tt s.df (k s.rc s.h)
 | .ret => tt s.df (k s.rc s.h)
 | _ => false
def TD (prog : NT gn) (rec : Task → Bool) (f : FuncId) (args : List Value) (rc : Rc) (h : AH) (k : Rc → AH → Bool) : Bool :=
 NT.dr prog f fun fn => gn.casesOn (motive := fun _ => Bool) fn fun nt results code _ => List.casesOn (motive := fun _ => Bool) results (rO 0 args .e fun tm =>
  rec (.code code ⟨f, nt, none⟩ ⟨tm, [], rc, h⟩ (Lt k))) fun _ _ => false
def Lm (rec : Task → Bool) (ds : List ef) (k : Option Value → AH → Bool) (rc : Rc) (h : AH) : Bool := match rc with
 | .kU => rec (.leave ds none h k)
 | .can v => rec (.leave ds (some v) h k)
 | .off => false
def Lj (rec : Task → Bool) (ds : List ef) (m : Option Value) (h : AH) (k : Option Value → AH → Bool) : Bool := match ds with
 | [] => k m h
 | .oJ r :: ds => xM h r fun t => iff (!t) (fP h r (some (.defs true)) fun h => rec (.leave ds m h k))
 | .fn f args :: ds => (match m with
  | none => rec (.xB f args .off h fun _ h => rec (.leave ds none h k))
  | some v => rec (.xB f args (.can v) h (Lm rec ds k)))
def AR (l : Nat) (h : AH) (k : CR → AH → Bool) (j : Option Code) (st : LoopState) (b : Bool) : Bool :=
 mR h l fun r => fP h l (some (.loop (r.iL st j))) fun h => k (.ret (.bool b)) h
def Fk (l : Nat) (k : CR → AH → Bool) (x : AX) (s : St) : Bool := tt s.df (match x with
 | .normal => AR l s.h k none .ready true
 | .ret => AR l s.h k (some .ret) .done false
 | .exit id => AR l s.h k (some (.exit id)) .done false
 | .aQ _ => false)
def Lv (rec : Task → Bool) (l : Nat) (r0 : j7) (k : CR → AH → Bool) (x : AX) (s : St) : Bool := match x with
 | .normal => mR s.h l fun r => iff (isReady r.state) (fP s.h l (some (.loop (r.iL .busy r.dC))) fun h =>
  rec (.code r0.body ⟨r0.fn, r0.nt, some l⟩ ⟨s.tm, s.df, s.rc, h⟩ (Fk l k)))
 | _ => false
def TF (rec : Task → Bool) (l : Nat) (args : List Value) (h : AH) (k : CR → AH → Bool) : Bool :=
 mR h l fun r => xQ r.params args r.tm fun tm => rec (.code r.assign ⟨r.fn, r.nt, some l⟩ ⟨tm, [], .off, h⟩ (Lv rec l r k))
def stepT (prog : NT gn) (sums : rQ) (rec : Task → Bool) (t : Task) : Bool := Task.casesOn (motive := fun _ => Bool) t
 (Lf rec) (Fh prog sums rec) (TD prog rec) (TF rec) (Lj rec)
def ev (prog : NT gn) (sums : rQ) (n : Nat) : Task → Bool :=
 Nat.rec (motive := fun _ => Task → Bool) (fun _ => false) (fun _ ih t => stepT prog sums ih t) n
theorem adI (prog : NT gn) (sums : rQ) (n : Nat) (t : Task) : ev prog sums (n + 1) t = stepT prog sums (ev prog sums n) t := rfl
end
end Go.Ve
