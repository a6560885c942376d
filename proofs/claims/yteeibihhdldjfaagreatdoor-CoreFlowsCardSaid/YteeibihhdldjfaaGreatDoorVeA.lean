/- Part 1: VEval, part 1: the data: tries, abstract heap, what it is for an abstract value, object, heap to stand for a real one. Over any program; no condition. And what follows it. -/
import Derived.AtR
import Derived.Orders
import Derived.Below
import Derived.Defers
import Derived.RangeFuncRecord
import Derived.RangeFuncIn
set_option linter.unusedVariables false
set_option linter.unusedSimpArgs false
namespace Go.Ve
open Go.RowKit
inductive Pos where
 | xH
 | xO (p:Pos)
 | xI (p:Pos)
 deriving DecidableEq,Inhabited,Repr
def Pos.un:Pos→Nat
 | .xH=>0
 | .xO p=>2*p.un+1
 | .xI p=>2*p.un+2
theorem Pos.wa:∀{p q:Pos},p.un=q.un→p=q
 | .xH,.xH,_=>rfl
 | .xH,.xO q,h=>by simp [Pos.un]at h
 | .xH,.xI q,h=>by simp [Pos.un]at h
 | .xO p,.xH,h=>by simp [Pos.un]at h
 | .xI p,.xH,h=>by simp [Pos.un]at h
 | .xO p,.xO q,h=>by
  have h':2*p.un+1=2*q.un+1:=h
  rw [Pos.wa (show p.un=q.un by omega)]
 | .xI p,.xI q,h=>by
  have h':2*p.un+2=2*q.un+2:=h
  rw [Pos.wa (show p.un=q.un by omega)]
 | .xO p,.xI q,h=>by
  have h':2*p.un+1=2*q.un+2:=h
  omega
 | .xI p,.xO q,h=>by
  have h':2*p.un+2=2*q.un+1:=h
  omega
def Pos.beq:Pos→Pos→Bool
 | .xH,.xH=>true
 | .xO p,.xO q=>p.beq q
 | .xI p,.xI q=>p.beq q
 | _,_=>false
theorem Pos.beq_iff:∀{p q:Pos},p.beq q=true↔p=q
 | .xH,.xH=>by simp [Pos.beq]
 | .xO p,.xO q=>by simp [Pos.beq,Pos.beq_iff (p:=p) (q:=q)]
 | .xI p,.xI q=>by simp [Pos.beq,Pos.beq_iff (p:=p) (q:=q)]
 | .xH,.xO _=>by simp [Pos.beq]
 | .xH,.xI _=>by simp [Pos.beq]
 | .xO _,.xH=>by simp [Pos.beq]
 | .xI _,.xH=>by simp [Pos.beq]
 | .xO _,.xI _=>by simp [Pos.beq]
 | .xI _,.xO _=>by simp [Pos.beq]
def Pos.Er:Nat→Nat→Pos
 | 0,_=>.xH
 | f+1,n=>if n=0 then .xH else if n % 2=1 then .xO (Pos.Er f (n / 2))else .xI (Pos.Er f (n / 2-1))
def Pos.of (n:Nat):Pos:=Pos.Er n n
theorem Pos.ai8 : ∀ (f n : Nat), n ≤ f → (Pos.Er f n).un = n := by
  intro f
  induction f with
  | zero => intro n h; have : n = 0 := by omega
            subst this; rfl
  | succ f ih =>
    intro n h
    unfold Pos.Er
    split
    · subst_vars; rfl
    · split
      · simp only [Pos.un]; rw [ih _ (by omega)]; omega
      · simp only [Pos.un]; rw [ih _ (by omega)]; omega
theorem Pos.mM (n:Nat):(Pos.of n).un=n:=Pos.ai8 n n (Nat.le_refl _)
inductive PT where
 | e
 | n (l:PT) (v:Value) (r:PT)
def PT.get:PT→Pos→Value
 | .e,_=>undef
 | .n _ v _,.xH=>v
 | .n l _ _,.xO p=>l.get p
 | .n _ _ r,.xI p=>r.get p
noncomputable def PT.ey (p:Pos):PT→(Value→Bool)→Bool :=
 Pos.rec (motive:=fun _=>PT→(Value→Bool)→Bool)
  (fun t k=>PT.casesOn (motive:=fun _=>Bool) t (k undef) (fun _ v _=>k v))
  (fun _ ih t k=>PT.casesOn (motive:=fun _=>Bool) t (k undef) (fun l _ _=>ih l k))
  (fun _ ih t k=>PT.casesOn (motive:=fun _=>Bool) t (k undef) (fun _ _ r=>ih r k)) p
theorem PT.lz:∀(p:Pos) (t:PT) (k:Value→Bool),PT.ey p t k=k (t.get p)
 | .xH,.e,k=>rfl
 | .xH,.n _ _ _,k=>rfl
 | .xO p,.e,k=>rfl
 | .xO p,.n l _ _,k=>PT.lz p l k
 | .xI p,.e,k=>rfl
 | .xI p,.n _ _ r,k=>PT.lz p r k
def PT.set:PT→Pos→Value→PT
 | .e,.xH,v=>.n .e v .e
 | .n l _ r,.xH,v=>.n l v r
 | .e,.xO p,v=>.n (PT.set .e p v) undef .e
 | .n l u r,.xO p,v=>.n (PT.set l p v) u r
 | .e,.xI p,v=>.n .e undef (PT.set .e p v)
 | .n l u r,.xI p,v=>.n l u (PT.set r p v)
noncomputable def PT.iY (p:Pos):PT→Value→(PT→Bool)→Bool :=
 Pos.rec (motive:=fun _=>PT→Value→(PT→Bool)→Bool)
  (fun t v k=>PT.casesOn (motive:=fun _=>Bool) t (k (.n .e v .e)) (fun l _ r=>k (.n l v r)))
  (fun _ ih t v k=>PT.casesOn (motive:=fun _=>Bool) t (ih .e v fun l=>k (.n l undef .e)) (fun l u r=>ih l v fun l'=>k (.n l' u r)))
  (fun _ ih t v k=>PT.casesOn (motive:=fun _=>Bool) t (ih .e v fun r=>k (.n .e undef r)) (fun l u r=>ih r v fun r'=>k (.n l u r'))) p
theorem PT.nJ:∀(p:Pos) (t:PT) (v:Value) (k:PT→Bool),PT.iY p t v k=k (t.set p v)
 | .xH,.e,v,k=>rfl
 | .xH,.n l _ r,v,k=>rfl
 | .xO p,.e,v,k=>PT.nJ p _ _ _
 | .xO p,.n l u r,v,k=>PT.nJ p _ _ _
 | .xI p,.e,v,k=>PT.nJ p _ _ _
 | .xI p,.n l u r,v,k=>PT.nJ p _ _ _
theorem PT.ZY (p:Pos):PT.get .e p=undef:=by cases p<;>rfl
theorem PT.eK:∀(p:Pos) (t:PT) (v:Value) (q:Pos),(t.set p v).get q=if q=p then v else t.get q
 | .xH,.e,v,q=>by cases q<;>simp [PT.set,PT.get]
 | .xH,.n l u r,v,q=>by cases q<;>simp [PT.set,PT.get]
 | .xO p,.e,v,q=>by cases q<;>simp [PT.set,PT.get,PT.eK p]
 | .xO p,.n l u r,v,q=>by cases q<;>simp [PT.set,PT.get,PT.eK p]
 | .xI p,.e,v,q=>by cases q<;>simp [PT.set,PT.get,PT.eK p]
 | .xI p,.n l u r,v,q=>by cases q<;>simp [PT.set,PT.get,PT.eK p]
inductive NT (α:Type) where
 | e
 | n (l:NT α) (v:Option α) (r:NT α)
def NT.get {α:Type}:NT α→Nat→Option α
 | .e,_=>none
 | .n l v r,i=>bif Nat.beq i 0 then v else bif Nat.beq (Nat.mod i 2) 1 then l.get (Nat.div i 2)else r.get (Nat.pred (Nat.div i 2))
noncomputable def NT.ey {α:Type}(t:NT α):Nat→(α→Bool)→Bool :=
 NT.rec (motive:=fun _=>Nat→(α→Bool)→Bool) (fun _ _=>false)
  (fun _ v _ il ir i k=>Nat.rec (motive:=fun _=>Bool) (Option.rec (motive:=fun _=>Bool) false (fun x=>k x) v)
   (fun _ _=>Bool.rec (motive:=fun _=>Bool) (ir (Nat.pred (Nat.div i 2)) k) (il (Nat.div i 2) k) (Nat.beq (Nat.mod i 2) 1)) i) t
theorem NT.RE {α:Type}(l:NT α) (v:Option α) (r:NT α) (i:Nat) (k:α→Bool):(NT.n l v r).ey i k =
 bif Nat.beq i 0 then(match v with | some x=>k x | none=>false)else bif Nat.beq (Nat.mod i 2) 1 then l.ey (Nat.div i 2) k else r.ey (Nat.pred (Nat.div i 2)) k:=by
 cases i with
 | zero=>cases v<;>rfl
 | succ i =>
  show Bool.rec (motive:=fun _=>Bool) (r.ey (Nat.pred (Nat.div (i+1) 2)) k) (l.ey (Nat.div (i+1) 2) k) (Nat.beq (Nat.mod (i+1) 2) 1)=bif false then _ else _
  cases Nat.beq (Nat.mod (i+1) 2) 1<;>rfl
theorem NT.yT {α:Type}:∀(t:NT α) (i:Nat) (k:α→Bool),t.ey i k=true→∃x,t.get i=some x∧k x=true
 | .e,i,k,h=>by cases h
 | .n l v r,i,k,h=>by
  rw [NT.RE]at h
  rw [NT.get]
  cases h0:Nat.beq i 0 with
  | true =>
   rw [h0]at h
   cases v with
   | none=>simp at h
   | some x=>exact⟨x,rfl,by simpa using h⟩
  | false =>
   cases h1:Nat.beq (Nat.mod i 2) 1 with
   | true=>rw [h0,h1]at h;exact NT.yT l _ k (by simpa using h)
   | false=>rw [h0,h1]at h;exact NT.yT r _ k (by simpa using h)
noncomputable def NT.iY {α:Type}(f:Nat):NT α→Nat→Option α→(NT α→Bool)→Bool :=
 Nat.rec (motive:=fun _=>NT α→Nat→Option α→(NT α→Bool)→Bool) (fun _ _ _ _=>false)
  (fun _ ih t i v k=>Nat.rec (motive:=fun _=>Bool)
   (NT.casesOn (motive:=fun _=>Bool) t (k (.n .e v .e)) (fun l _ r=>k (.n l v r)))
   (fun _ _=>Bool.rec (motive:=fun _=>Bool)
    (NT.casesOn (motive:=fun _=>Bool) t (ih .e (Nat.pred (Nat.div i 2)) v (fun r=>k (.n .e none r))) (fun l u r=>ih r (Nat.pred (Nat.div i 2)) v (fun r'=>k (.n l u r'))))
    (NT.casesOn (motive:=fun _=>Bool) t (ih .e (Nat.div i 2) v (fun l=>k (.n l none .e))) (fun l u r=>ih l (Nat.div i 2) v (fun l'=>k (.n l' u r))))
    (Nat.beq (Nat.mod i 2) 1)) i) f
theorem NT.wb {α:Type}(f:Nat) (t:NT α) (i:Nat) (v:Option α) (k:NT α→Bool):NT.iY (f+1) t i v k =
 bif Nat.beq i 0 then
  (match t with | .e=>k (.n .e v .e) | .n l _ r=>k (.n l v r))
 else bif Nat.beq (Nat.mod i 2) 1 then
  (match t with | .e=>NT.iY f .e (Nat.div i 2) v (fun l=>k (.n l none .e)) | .n l u r=>NT.iY f l (Nat.div i 2) v (fun l'=>k (.n l' u r)))
 else
  (match t with | .e=>NT.iY f .e (Nat.pred (Nat.div i 2)) v (fun r=>k (.n .e none r)) | .n l u r=>NT.iY f r (Nat.pred (Nat.div i 2)) v (fun r'=>k (.n l u r'))):=by
 cases i with
 | zero=>cases t<;>rfl
 | succ i =>
  cases h:Nat.beq (Nat.mod (i+1) 2) 1<;>cases t<;>simp only [NT.iY,h]<;>rfl
def NT.ko {α:Type}(t:NT α) (i:Nat) (v:Option α) (t':NT α):Prop:=t'.get i=v∧∀j,j≠i→t'.get j=t.get j
theorem RF {α:Type}{c:Bool}{a b:α}(h:c=true):(bif c then a else b)=a:=by subst h;rfl
theorem BF {α:Type}{c:Bool}{a b:α}(h:c=false):(bif c then a else b)=b:=by subst h;rfl
theorem ma {a b:Nat}(h:a=b):Nat.beq a b=true:=by subst h;exact Nat.beq_refl a
theorem gg {a b:Nat}(h:a≠b):Nat.beq a b=false:=by
 cases h':Nat.beq a b with
 | false=>rfl
 | true=>exact absurd (Nat.eq_of_beq_eq_true h') h
theorem ZZ (j:Nat):Nat.mod (2*j+1) 2=1:=by show(2*j+1) % 2=1;omega
theorem Z0 (j:Nat):Nat.mod (2*j+2) 2≠1:=by show(2*j+2) % 2≠1;omega
theorem Z1 (j:Nat):Nat.div (2*j+1) 2=j:=by show(2*j+1) / 2=j;omega
theorem Z2 (j:Nat):Nat.pred (Nat.div (2*j+2) 2)=j:=by show Nat.pred ((2*j+2) / 2)=j;simp only [Nat.pred_eq_sub_one];omega
theorem NT.pS {α:Type}(l:NT α) (v:Option α) (r:NT α) (j:Nat):(NT.n l v r).get (2*j+1)=l.get j:=by
 rw [NT.get,BF (gg (by omega)),RF (ma (ZZ j)),Z1]
theorem NT.pT {α:Type}(l:NT α) (v:Option α) (r:NT α) (j:Nat):(NT.n l v r).get (2*j+2)=r.get j:=by
 rw [NT.get,BF (gg (by omega)),BF (gg (Z0 j)),Z2]
theorem NT.wc (i:Nat):i=0∨(∃j,i=2*j+1)∨(∃j,i=2*j+2):=by
 by_cases h:i=0
 · exact .inl h
 · by_cases h2:i % 2=1
   · exact .inr (.inl ⟨i / 2,by omega⟩)
   · exact .inr (.inr ⟨i / 2-1,by omega⟩)
def qQ (i:Nat):Nat:=Nat.succ (Nat.log2 (Nat.succ i))
def NT.qR {α:Type}:Nat→NT α→Nat→Option α→NT α
 | 0,t,_,_=>t
 | f+1,t,i,v=>bif Nat.beq i 0 then(match t with | .e=>.n .e v .e | .n l _ r=>.n l v r)
  else bif Nat.beq (Nat.mod i 2) 1 then(match t with | .e=>.n (NT.qR f .e (Nat.div i 2) v) none .e | .n l u r=>.n (NT.qR f l (Nat.div i 2) v) u r)
  else(match t with | .e=>.n .e none (NT.qR f .e (Nat.pred (Nat.div i 2)) v) | .n l u r=>.n l u (NT.qR f r (Nat.pred (Nat.div i 2)) v))
def NT.set {α:Type}(t:NT α) (i:Nat) (v:Option α):NT α:=NT.qR (qQ i) t i v
theorem ai9 {i:Nat}(h:i≠0):Nat.log2 (Nat.succ (Nat.div i 2))<Nat.log2 (Nat.succ i)∨Nat.mod i 2≠1:=by
 by_cases h1:Nat.mod i 2=1
 · left
   have h2:i+1≥2:=by omega
   rw [Nat.log2_def (i+1),if_pos h2]
   have:(i+1) / 2=Nat.succ (Nat.div i 2):=by
    show(i+1) / 2=i / 2+1
    have jr:i % 2=1:=h1
    omega
   rw [this];exact Nat.lt_succ_self _
 · exact .inr h1
theorem aja {i:Nat}(h:i≠0) (h1:Nat.mod i 2≠1):Nat.log2 (Nat.succ (Nat.pred (Nat.div i 2)))<Nat.log2 (Nat.succ i):=by
 have h2:i+1≥2:=by omega
 rw [show Nat.succ i=i+1 from rfl,Nat.log2_def (i+1),if_pos h2]
 have:(i+1) / 2=Nat.succ (Nat.pred (Nat.div i 2)):=by
  show(i+1) / 2=Nat.pred (i / 2)+1
  have jr:¬i % 2=1:=h1
  rw [Nat.pred_eq_sub_one]
  omega
 rw [this];exact Nat.lt_succ_self _
theorem NT.ajb {α:Type}:∀(f:Nat) (t:NT α) (i:Nat) (v:Option α) (k:NT α→Bool),Nat.log2 (Nat.succ i)<f→NT.iY f t i v k=k (NT.qR f t i v):=by
 intro f
 induction f with
 | zero=>intro t i v k h;exact absurd h (Nat.not_lt_zero _)
 | succ f ih =>
  intro t i v k h
  cases h0:Nat.beq i 0 with
  | true=>cases t<;>(rw [NT.wb,NT.qR];simp only [h0,cond_true])
  | false =>
   have hi:i≠0:=fun e=>by subst e;cases h0
   cases h1:Nat.beq (Nat.mod i 2) 1 with
   | true =>
    have hm:Nat.mod i 2=1:=Nat.eq_of_beq_eq_true h1
    have hl:Nat.log2 (Nat.succ (Nat.div i 2))<f:=by
     rcases ai9 hi with h2 | h2
     · omega
     · exact absurd hm h2
    cases t with
    | e=>rw [NT.wb,NT.qR];simp only [h0,h1,cond_true,cond_false];exact ih .e _ v _ hl
    | n l u r=>rw [NT.wb,NT.qR];simp only [h0,h1,cond_true,cond_false];exact ih l _ v _ hl
   | false =>
    have hm:Nat.mod i 2≠1:=fun e=>by rw [e]at h1;cases h1
    have hl:Nat.log2 (Nat.succ (Nat.pred (Nat.div i 2)))<f:=by have:=aja hi hm;omega
    cases t with
    | e=>rw [NT.wb,NT.qR];simp only [h0,h1,cond_false];exact ih .e _ v _ hl
    | n l u r=>rw [NT.wb,NT.qR];simp only [h0,h1,cond_false];exact ih r _ v _ hl
theorem NT.nJ {α:Type}(t:NT α) (i:Nat) (v:Option α) (k:NT α→Bool):NT.iY (qQ i) t i v k=k (t.set i v):=NT.ajb _ _ _ _ _ (Nat.lt_succ_self _)
theorem NT.Kl {α:Type}:∀(f:Nat) (t:NT α) (i:Nat) (v:Option α) (k:NT α→Bool),NT.iY f t i v k=true→∃t',t.ko i v t'∧k t'=true:=by
 intro f
 induction f with
 | zero=>intro t i v k h;cases h
 | succ f ih =>
  intro t i v k h
  rcases NT.wc i with rfl | ⟨j,rfl⟩ | ⟨j,rfl⟩
  · rw [NT.wb]at h
    rw [RF (ma rfl)]at h
    cases t with
    | e =>
     refine⟨_,⟨rfl,fun q hq=> ?_⟩,h⟩
     rcases NT.wc q with rfl | ⟨q,rfl⟩ | ⟨q,rfl⟩
     · exact absurd rfl hq
     · rw [NT.pS];rfl
     · rw [NT.pT];rfl
    | n l u r =>
     refine⟨_,⟨rfl,fun q hq=> ?_⟩,h⟩
     rcases NT.wc q with rfl | ⟨q,rfl⟩ | ⟨q,rfl⟩
     · exact absurd rfl hq
     · rw [NT.pS,NT.pS]
     · rw [NT.pT,NT.pT]
  · rw [NT.wb]at h
    rw [BF (gg (by omega)),RF (ma (ZZ j)),Z1]at h
    cases t with
    | e =>
     obtain⟨t',⟨h1,h2⟩,h3⟩:=ih _ _ _ _ h
     refine⟨_,⟨by rw [NT.pS];exact h1,fun q hq=> ?_⟩,h3⟩
     rcases NT.wc q with rfl | ⟨q,rfl⟩ | ⟨q,rfl⟩
     · rfl
     · rw [NT.pS,h2 q (by omega)];rfl
     · rw [NT.pT];rfl
    | n l u r =>
     obtain⟨t',⟨h1,h2⟩,h3⟩:=ih _ _ _ _ h
     refine⟨_,⟨by rw [NT.pS];exact h1,fun q hq=> ?_⟩,h3⟩
     rcases NT.wc q with rfl | ⟨q,rfl⟩ | ⟨q,rfl⟩
     · rfl
     · rw [NT.pS,h2 q (by omega),NT.pS]
     · rw [NT.pT,NT.pT]
  · rw [NT.wb]at h
    rw [BF (gg (by omega)),BF (gg (Z0 j)),Z2]at h
    cases t with
    | e =>
     obtain⟨t',⟨h1,h2⟩,h3⟩:=ih _ _ _ _ h
     refine⟨_,⟨by rw [NT.pT];exact h1,fun q hq=> ?_⟩,h3⟩
     rcases NT.wc q with rfl | ⟨q,rfl⟩ | ⟨q,rfl⟩
     · rfl
     · rw [NT.pS];rfl
     · rw [NT.pT,h2 q (by omega)];rfl
    | n l u r =>
     obtain⟨t',⟨h1,h2⟩,h3⟩:=ih _ _ _ _ h
     refine⟨_,⟨by rw [NT.pT];exact h1,fun q hq=> ?_⟩,h3⟩
     rcases NT.wc q with rfl | ⟨q,rfl⟩ | ⟨q,rfl⟩
     · rfl
     · rw [NT.pS,NT.pS]
     · rw [NT.pT,h2 q (by omega),NT.pT]
theorem NT.Z3 {α:Type}(t:NT α) (i:Nat) (v:Option α):t.ko i v (t.set i v):=by
 classical
 obtain⟨t',h1,h2⟩:=NT.Kl (qQ i) t i v (fun t'=>decide (t'=t.set i v)) (by rw [NT.nJ];simp)
 have:t'=t.set i v:=by simpa using h2
 rw [←this];exact h1
theorem NT.eK {α:Type}(t:NT α) (i:Nat) (v:Option α) (j:Nat):(t.set i v).get j=if j=i then v else t.get j:=by
 have h:=NT.Z3 t i v
 by_cases e:j=i
 · rw [if_pos e,e];exact h.1
 · rw [if_neg e];exact h.2 j e
inductive eL where
 | t (p:Pos)
 | c (v:Value)
inductive PX where
 | bad
 | cat
 | ajc (op:BinOp)
 | sub (lo hi:Bool)
 | ajd
 | aje (ty:TypeId) (zero:List Value)
 | ajf
 | ajg (l:List (TypeId×Nat))
 | same
 | Z4 (neg:Bool)
 | ajh
 | aji (ty:TypeId)
 | ajj
 | ajk
 | Eb
 | yJ
 | entry
inductive Prim where
 | move
 | pick
 | alloc (ty:TypeId) (zero:List Value)
 | box (ty:TypeId)
 | build (zero:List Value) (places:List (Nat×Nat))
 | eo (yU:List Nat)
 | buildSlice (ty:TypeId) (n:Nat) (cells:List Value) (places:List (Nat×Nat))
 | aH
 | bV (n:Nat)
 | store (n:Nat)
 | nilCheck
 | fieldAddr (off:Nat)
 | RG (off:Nat)
 | ajl (off n:Nat)
 | bG (sz:Nat)
 | Bz (len sz:Nat)
 | tU (len:Nat)
 | ON (len sz:Nat)
 | Z5
 | slice (sz:Nat) (lo hi mx:Bool)
 | awc (lo hi:Bool)
 | Z6 (n sz:Nat) (lo hi mx:Bool)
 | aE (op:BinOp)
 | Z7 (op:BinOp)
 | qS (nk:Nat) (neg:Bool)
 | Km (neg:Bool)
 | Z8 (neg:Bool) (ks:List Nat)
 | neg
 | ic
 | conv (k:IntKind)
 | yA (fn:Fn) (awd:Nat)
 | O0 (ty:TypeId)
 | mkMap
 | mkSlice (ty:TypeId) (sz:Nat) (zero:List Value)
 | lookup (kc:Nat) (zero:Value) (ok:Bool)
 | sk (kc:Nat)
 | extract (i:Nat)
 | dG
 | ajm
 | Bq
 | ajn (n:Nat)
 | append (ty:TypeId) (sz:Nat) (zero:List Value)
 | copy (sz:Nat)
 | ajo
 | ajp
 | Z9 (ty:TypeId) (zero:Value)
 | RH
 | RI
 | x (e:PX)
inductive kB where
 | aU (p:Prim)
 | call (f:FuncId)
 | dyn
 | recover
 | panic
 | defer
structure bS where
 dst:Option Pos
 act:kB
 args:List eL
 guard:Option (Pos×Bool)
inductive kC where
 | op (i:Nat) (o:bS)
 | kR (i:Nat) (o:bS)
inductive dV where
 | skip
 | ops (l:List bS)
 | draw (l:List kC)
 | seq (a b:dV)
 | cond (c:eL) (a b:dV)
 | block (id:Nat) (c:dV)
 | loop (c:dV)
 | pU (f:eL) (params:List Pos) (assign body:dV)
 | exit (id:Nat)
 | ret
inductive mN where
 | tmp (p:Pos)
 | cell (p:Pos) (n:Option Nat)
structure jD where
 ntmps:Nat
 results:List mN
 code:dV
 det:Bool
inductive gV where
 | qT (r:Nat)
 | fn (f:FuncId) (args:List Value)
structure mc where
 state:LoopState
 eE:Option Code
 fn:FuncId
 tm:PT
 params:List Pos
 assign:dV
 body:dV
 defs:Nat
 nt:Nat
inductive AO where
 | cells (lo hi:Nat) (ty:TypeId) (rw:Bool) (c:NT Value)
 | map (es:List (Value×Value×Nat)) (clock:Nat)
 | loop (l:mc)
 | defs (taken:Bool)
 | od (s:ByteArray) (pos:Nat)
 | gA (m:Option Nat) (since:Nat) (seen:List Nat) (last:Nat)
structure AH where
 nx:Nat
 ob:NT AO
def bg:Nat:=1180591620717411303424
inductive Mp where
 | live (b d n:Nat)
 | dead
abbrev aO:=Nat→Option Mp
inductive we (φ:aO):Fn→Fn→Prop where
 | func (f:FuncId):we φ (.func f) (.func f)
 | method (s:String):we φ (.method s) (.method s)
 | yield (l l':Nat) (h:φ l≠none) (hl:∀b d n,φ l=some (.live b d n)→l'=b):we φ (.yield l) (.yield l')
def AtR (φ:aO) (a a':Addr):Prop:=∀b d n,φ a.block=some (.live b d n)→a'.block=b∧a'.off+d=a.off∧a'.spot=none
def ui (φ:aO) (a a':Addr) (len cap dJ:Nat):Prop :=
 (cap<bg∧dJ=cap∧len≤cap∧(0<cap→AtR φ a a'))∨
 (∃sz,cap=bg+sz∧0<sz∧len≤dJ∧(0<dJ→AtR φ a a'∧∀b d n,φ a.block=some (.live b d n)→a'.off+dJ*sz≤n))
mutual
inductive VR (φ:aO):Value→Value→Prop where
 | bool (b:Bool):VR φ (.bool b) (.bool b)
 | int (k:IntKind) (n:Int):VR φ (.int k n) (.int k n)
 | str (s:ByteArray):VR φ (.string s) (.string s)
 | Kn:VR φ (.pointer none) (.pointer none)
 | ptr (a a':Addr) (h:φ a.block≠none) (ha:AtR φ a a'):VR φ (.pointer (some a)) (.pointer (some a'))
 | oe:VR φ (.slice none 0 0) (.slice none 0 0)
 | sl (a a':Addr) (len cap dJ:Nat) (h:φ a.block≠none) (hc:ui φ a a' len cap dJ):VR φ (.slice (some a) len cap) (.slice (some a') len dJ)
 | aaa:VR φ (.map none) (.map none)
 | map (r r':Nat) (h:φ r≠none) (hr:∀b d n,φ r=some (.live b d n)→r'=b):VR φ (.map (some r)) (.map (some r'))
 | RJ:VR φ .nilFunc .nilFunc
 | func (fn uj:Fn) (first lA cr kS:Array Value) (hf:we φ fn uj) (h1:LR φ first.toList lA.toList) (h2:LR φ cr.toList kS.toList):VR φ (.func fn first cr) (.func uj lA kS)
 | BG:VR φ .nilIface .nilIface
 | iface (t:TypeId) (v v':Value) (h:VR φ v v'):VR φ (.iface t v) (.iface t v')
 | agg (cs cY:Array Value) (h:LR φ cs.toList cY.toList):VR φ (.agg cs) (.agg cY)
 | iy (cs cY:Array Value) (h:LR φ cs.toList cY.toList):VR φ (.tuple cs) (.tuple cY)
inductive LR (φ:aO):List Value→List Value→Prop where
 | nil:LR φ [] []
 | cons (v v':Value) (l l':List Value) (h:VR φ v v') (hl:LR φ l l'):LR φ (v::l) (v'::l')
end
structure Ext (N:Nat) (φ φ':aO):Prop where
 old:∀f m,φ f=some m→φ' f=some m∨φ' f=some .dead
 out:∀f,f<N→φ f=none→φ' f=none
theorem Ext.refl (N:Nat) (φ:aO):Ext N φ φ:=⟨fun _ _ h=>.inl h,fun _ _ h=>h⟩
theorem Ext.trans {N N':Nat}{φ φ' φ'':aO}(h:Ext N φ φ') (h':Ext N' φ' φ'') (hN:N≤N'):Ext N φ φ'':=by
 refine⟨fun f m hm=> ?_,fun f hf hn=>h'.out f (Nat.lt_of_lt_of_le hf hN) (h.out f hf hn)⟩
 rcases h.old f m hm with h1 | h1
 · exact h'.old f m h1
 · rcases h'.old f _ h1 with h2 | h2
   · exact .inr h2
   · exact .inr h2
theorem Ext.dq {N:Nat}{φ φ':aO}(h:Ext N φ φ'){f:Nat}(hf:φ f≠none):φ' f≠none:=by
 cases hm:φ f with
 | none=>exact absurd hm hf
 | some m=>rcases h.old f m hm with h1 | h1<;>simp [h1]
theorem Ext.live {N:Nat}{φ φ':aO}(h:Ext N φ φ'){f b d n:Nat}(hf:φ f≠none) (hl:φ' f=some (.live b d n)):φ f=some (.live b d n):=by
 cases hm:φ f with
 | none=>exact absurd hm hf
 | some m =>
  rcases h.old f m hm with h1 | h1
  · rw [h1]at hl;exact hl
  · rw [h1]at hl;cases hl
theorem we.ext {N:Nat}{φ φ':aO}(h:Ext N φ φ'){f f':Fn}(hf:we φ f f'):we φ' f f':=by
 cases hf with
 | func f=>exact .func f
 | method s=>exact .method s
 | yield l l' h1 h2=>exact .yield l l' (h.dq h1) (fun b d n hl=>h2 b d n (h.live h1 hl))
theorem AtR.ext {N:Nat}{φ φ':aO}(h:Ext N φ φ'){a a':Addr}(hs:φ a.block≠none) (ha:AtR φ a a'):AtR φ' a a' :=
 fun b d n hl=>ha b d n (h.live hs hl)
theorem ui.ext {N:Nat}{φ φ':aO}(h:Ext N φ φ'){a a':Addr}{len cap dJ:Nat}(hs:φ a.block≠none) (ha:ui φ a a' len cap dJ):ui φ' a a' len cap dJ:=by
 rcases ha with⟨h1,h2,hl,h3⟩ | ⟨sz,h1,h2,h3,h4⟩
 · exact .inl ⟨h1,h2,hl,fun hp=>(h3 hp).ext h hs⟩
 · exact .inr ⟨sz,h1,h2,h3,fun hp=>⟨(h4 hp).1.ext h hs,fun b d n hl=>(h4 hp).2 b d n (h.live hs hl)⟩⟩
mutual
theorem VR.ext {N:Nat}{φ φ':aO}(h:Ext N φ φ'){v v':Value}:VR φ v v'→VR φ' v v'
 | .bool b=>.bool b
 | .int k n=>.int k n
 | .str s=>.str s
 | .Kn=>.Kn
 | .ptr a a' h1 h2=>.ptr a a' (h.dq h1) (h2.ext h h1)
 | .oe=>.oe
 | .sl a a' len cap dJ h1 h2=>.sl a a' len cap dJ (h.dq h1) (h2.ext h h1)
 | .aaa=>.aaa
 | .map r r' h1 h2=>.map r r' (h.dq h1) (fun b d n hl=>h2 b d n (h.live h1 hl))
 | .RJ=>.RJ
 | .func fn uj first lA cr kS hf h1 h2=>.func fn uj first lA cr kS (hf.ext h) (LR.ext h h1) (LR.ext h h2)
 | .BG=>.BG
 | .iface t v v' h1=>.iface t v v' (VR.ext h h1)
 | .agg cs cY h1=>.agg cs cY (LR.ext h h1)
 | .iy cs cY h1=>.iy cs cY (LR.ext h h1)
theorem LR.ext {N:Nat}{φ φ':aO}(h:Ext N φ φ'){l l':List Value}:LR φ l l'→LR φ' l l'
 | .nil=>.nil
 | .cons v v' l l' h1 h2=>.cons v v' l l' (VR.ext h h1) (LR.ext h h2)
end
theorem VR.undef (φ:aO):VR φ undef undef:=.iy #[] #[] .nil
theorem LR.length {φ:aO}:∀{l l':List Value},LR φ l l'→l.length=l'.length
 | _,_,.nil=>rfl
 | _,_,.cons _ _ _ _ _ h=>by simp [LR.length h]
theorem LR.append {φ:aO}{m m':List Value}(hm:LR φ m m'):∀{l l':List Value},LR φ l l'→LR φ (l++m) (l'++m')
 | _,_,.nil=>hm
 | _,_,.cons v v' l l' h hl=>.cons v v' _ _ h (LR.append hm hl)
theorem LR.get {φ:aO}:∀{l l':List Value},LR φ l l'→∀(i:Nat) (v:Value),l[i]? =some v→∃v',l'[i]? =some v'∧VR φ v v'
 | _,_,.nil,i,v,h=>by simp at h
 | _,_,.cons a a' l l' h hl,0,v,e=>by simp at e;subst e;exact⟨a',by simp,h⟩
 | _,_,.cons a a' l l' h hl,i+1,v,e=>by
  simp at e
  obtain⟨v',h1,h2⟩:=LR.get hl i v e
  exact⟨v',by simpa using h1,h2⟩
theorem LR.RK {φ:aO}:∀{l l':List Value},l.length=l'.length→(∀(i:Nat) (v v':Value),l[i]? =some v→l'[i]? =some v'→VR φ v v')→LR φ l l'
 | [],[],_,_=>.nil
 | a::l,a'::l',hl,h=>.cons a a' l l' (h 0 a a' (by simp) (by simp)) (LR.RK (by simpa using hl) (fun i v v' e e'=>h (i+1) v v' (by simpa using e) (by simpa using e')))
 | [],_::_,hl,_=>by simp at hl
 | _::_,[],hl,_=>by simp at hl
theorem LR.drop {φ:aO}:∀(n:Nat){l l':List Value},LR φ l l'→LR φ (l.drop n) (l'.drop n)
 | 0,_,_,h=>by simpa using h
 | n+1,_,_,.nil=>by simpa using LR.nil
 | n+1,_,_,.cons _ _ _ _ _ h=>by simpa using LR.drop n h
theorem LR.take {φ:aO}:∀(n:Nat){l l':List Value},LR φ l l'→LR φ (l.take n) (l'.take n)
 | 0,_,_,_=>by simpa using LR.nil
 | n+1,_,_,.nil=>by simpa using LR.nil
 | n+1,_,_,.cons _ _ _ _ h hl=>by simpa using LR.cons _ _ _ _ h (LR.take n hl)
theorem VR.cells {φ:aO}{v v':Value}(h:VR φ v v'):LR φ v.cells.toList v'.cells.toList:=by
 cases h<;>simp only [Value.cells]<;>first
  | assumption
  | exact .cons _ _ _ _ (by constructor<;>assumption) .nil
def TR (φ:aO) (t:PT) (n:Nat) (tm:Array Value):Prop:=n≤tm.size∧∀p:Pos,VR φ (t.get p) (tm.getD p.un undef)
def DR (φ:aO):gV→Deferred→Prop
 | .qT r,d=>φ r≠none∧∃r',d={target:=.collected r',args:= #[]}∧∀b d n,φ r=some (.live b d n)→r'=b
 | .fn f args,d=>∃cr args',d={target:=.fn (.func f) cr,args:=args'}∧LR φ args (args'++cr).toList
inductive DL (φ:aO):List gV→List Deferred→Prop where
 | nil:DL φ [] []
 | cons (d:gV) (d':Deferred) (l:List gV) (l':List Deferred) (h:DR φ d d') (hl:DL φ l l'):DL φ (d::l) (d'::l')
theorem DR.ext {N:Nat}{φ φ':aO}(h:Ext N φ φ'){d:gV}{d':Deferred}(hd:DR φ d d'):DR φ' d d':=by
 cases d with
 | qT r =>
  obtain⟨h1,r',e,h2⟩:=hd
  exact⟨h.dq h1,r',e,fun b d n hl=>h2 b d n (h.live h1 hl)⟩
 | fn f args =>
  obtain⟨cr,args',e,h1⟩:=hd
  exact⟨cr,args',e,LR.ext h h1⟩
theorem DL.ext {N:Nat}{φ φ':aO}(h:Ext N φ φ'):∀{l:List gV}{l':List Deferred},DL φ l l'→DL φ' l l'
 | _,_,.nil=>.nil
 | _,_,.cons d d' l l' h1 h2=>.cons d d' l l' (h1.ext h) (DL.ext h h2)
theorem TR.ext {N:Nat}{φ φ':aO}(h:Ext N φ φ'){t:PT}{n:Nat}{tm:Array Value}(ht:TR φ t n tm):TR φ' t n tm :=
 ⟨ht.1,fun p=>VR.ext h (ht.2 p)⟩
theorem TR.set {φ:aO}{t:PT}{n:Nat}{tm:Array Value}(ht:TR φ t n tm) (p:Pos) (hp:p.un<n){v v':Value}(hv:VR φ v v') :
 TR φ (t.set p v) n (tm.setIfInBounds p.un v'):=by
 refine⟨by simp [ht.1],fun q=> ?_⟩
 rw [PT.eK]
 by_cases h:q=p
 · subst h
   rw [if_pos rfl]
   have:q.un<tm.size:=Nat.lt_of_lt_of_le hp ht.1
   simpa [Array.getD,this]using hv
 · rw [if_neg h]
   have dr:p.un≠q.un:=fun e=>h (Pos.wa e).symm
   have:=ht.2 q
   simpa [Array.getD_eq_getD_getElem?,Array.getElem?_setIfInBounds_ne dr]using this
end Go.Ve
namespace Go.Ve
noncomputable section
abbrev KV:=Value→AH→Bool
def fN (n:Nat) (k:Nat→Bool):Bool:=Nat.casesOn (motive:=fun _=>Bool) n (k 0) (fun m=>k (.succ m))
def fI (n:Int) (k:Int→Bool):Bool:=Int.casesOn (motive:=fun _=>Bool) n (fun a=>fN a fun a=>k (.ofNat a)) (fun a=>fN a fun a=>k (.negSucc a))
def fB (b:Bool) (k:Bool→Bool):Bool:=Bool.casesOn (motive:=fun _=>Bool) b (k false) (k true)
theorem cz (n:Nat) (k:Nat→Bool):fN n k=k n:=by cases n<;>rfl
theorem ph (n:Int) (k:Int→Bool):fI n k=k n:=by cases n<;>simp [fI,cz]
theorem jV (b:Bool) (k:Bool→Bool):fB b k=k b:=by cases b<;>rfl
def iff (c:Bool) (k:Bool):Bool:=Bool.casesOn (motive:=fun _=>Bool) c false k
theorem iff_eq (c k:Bool):iff c k=true↔c=true∧k=true:=by cases c<;>simp [iff]
def mT:Int→Int→Bool
 | .ofNat a,.ofNat b=>Nat.beq a b
 | .negSucc a,.negSucc b=>Nat.beq a b
 | _,_=>false
def oq:Int→Int→Bool
 | .ofNat a,.ofNat b=>Nat.ble (.succ a) b
 | .negSucc a,.negSucc b=>Nat.ble (.succ b) a
 | .negSucc _,.ofNat _=>true
 | .ofNat _,.negSucc _=>false
def gK:IntKind→IntKind→Bool
 | .i8,.i8=>true | .i16,.i16=>true | .i32,.i32=>true | .i64,.i64=>true
 | .u8,.u8=>true | .u16,.u16=>true | .u32,.u32=>true | .u64,.u64=>true
 | _,_=>false
def uF:Nat:=9223372036854775807
def bD (k:IntKind) (n:Int):Int:=match k with
 | .i64=>(match n with
  | .ofNat a=>bif Nat.ble a uF then n else IntKind.i64.wrap n
  | .negSucc a=>bif Nat.ble a uF then n else IntKind.i64.wrap n)
 | k=>k.wrap n
def aa6 (k:IntKind) (x y:Int) (c:Value→Bool):Bool:=fI (bD k (Int.add x y)) fun n=>c (.int k n)
def aa7 (k:IntKind) (x y:Int) (c:Value→Bool):Bool:=fI (bD k (Int.sub x y)) fun n=>c (.int k n)
def aa8 (k:IntKind) (x y:Int) (c:Value→Bool):Bool:=fI (bD k (Int.mul x y)) fun n=>c (.int k n)
def aa9 (k:IntKind) (x y:Int) (c:Value→Bool):Bool:=bif mT y (.ofNat 0)then false else fI (bD k (Int.tdiv x y)) fun n=>c (.int k n)
def aba (k:IntKind) (x y:Int) (c:Value→Bool):Bool:=bif mT y (.ofNat 0)then false else fI (Int.tmod x y) fun n=>c (.int k n)
def abb (_:IntKind) (x y:Int) (c:Value→Bool):Bool:=fB (mT x y) fun b=>c (.bool b)
def abc (_:IntKind) (x y:Int) (c:Value→Bool):Bool:=fB (!mT x y) fun b=>c (.bool b)
def abd (_:IntKind) (x y:Int) (c:Value→Bool):Bool:=fB (oq x y) fun b=>c (.bool b)
def abe (_:IntKind) (x y:Int) (c:Value→Bool):Bool:=fB (!oq y x) fun b=>c (.bool b)
def abf (_:IntKind) (x y:Int) (c:Value→Bool):Bool:=fB (oq y x) fun b=>c (.bool b)
def abg (_:IntKind) (x y:Int) (c:Value→Bool):Bool:=fB (!oq x y) fun b=>c (.bool b)
def abh (k:IntKind) (x y:Int) (c:Value→Bool):Bool:=match k,x,y with
 | .u64,.ofNat a,.ofNat b=>bif Nat.ble a 18446744073709551615&&Nat.ble b 18446744073709551615 then fN (Nat.land a b) fun n=>c (.int .u64 (.ofNat n))else false
 | _,_,_=>false
def abj (_:IntKind) (_ _:Int) (_:Value→Bool):Bool:=false
def SM (op:BinOp):IntKind→Int→Int→(Value→Bool)→Bool:=match op with
 | .add=>aa6
 | .sub=>aa7
 | .mul=>aa8
 | .quo=>aa9
 | .rem=>aba
 | .eql=>abb
 | .neq=>abc
 | .lss=>abd
 | .leq=>abe
 | .gtr=>abf
 | .geq=>abg
 | .and=>abh
 | _=>abj
def SN (k:IntKind) (x y:Int) (c:Value→Bool):Bool:=match k,x,y with
 | .u64,.ofNat a,.ofNat b=>bif Nat.ble b 64 then fN (Nat.shiftRight a b) fun n=>c (.int .u64 (.ofNat n))else false
 | _,_,_=>false
def lE:List UInt8→List UInt8→Bool
 | [],[]=>true
 | a::l,b::m=>bif Nat.beq a.toNat b.toNat then lE l m else false
 | _,_=>false
def a0 (vs:List Value) (k:Bool):Bool:=List.casesOn (motive:=fun _=>Bool) vs k (fun _ _=>false)
def a1 (vs:List Value) (k:Value→Bool):Bool:=List.casesOn (motive:=fun _=>Bool) vs false (fun x vs=>a0 vs (k x))
def a2 (vs:List Value) (k:Value→Value→Bool):Bool:=List.casesOn (motive:=fun _=>Bool) vs false (fun x vs=>a1 vs (k x))
def a3 (vs:List Value) (k:Value→Value→Value→Bool):Bool:=List.casesOn (motive:=fun _=>Bool) vs false (fun x vs=>a2 vs (k x))
def ql (l:List Value):Nat→(Value→Bool)→Bool :=
 List.rec (motive:=fun _=>Nat→(Value→Bool)→Bool) (fun _ _=>false) (fun x _ ih n k=>Nat.casesOn (motive:=fun _=>Bool) n (k x) (fun n=>ih n k)) l
def sI (l:List Value):Nat→(List Value→Bool)→Bool :=
 List.rec (motive:=fun _=>Nat→(List Value→Bool)→Bool) (fun n k=>Nat.casesOn (motive:=fun _=>Bool) n (k []) (fun _=>false))
  (fun x _ ih n k=>Nat.casesOn (motive:=fun _=>Bool) n (k []) (fun n=>ih n fun l'=>k (x::l'))) l
def sJ (l:List Value):Nat→(List Value→Bool)→Bool :=
 List.rec (motive:=fun _=>Nat→(List Value→Bool)→Bool) (fun n k=>Nat.casesOn (motive:=fun _=>Bool) n (k []) (fun _=>false))
  (fun x l ih n k=>Nat.casesOn (motive:=fun _=>Bool) n (k (x::l)) (fun n=>ih n k)) l
def mU (l:List Value):List Value→(List Value→Bool)→Bool :=
 List.rec (motive:=fun _=>List Value→(List Value→Bool)→Bool) (fun vs k=>List.casesOn (motive:=fun _=>Bool) vs (k []) (fun _ _=>false))
  (fun x l ih vs k=>List.casesOn (motive:=fun _=>Bool) vs (k (x::l)) (fun v vs=>ih vs fun l'=>k (v::l'))) l
def pZ (l:List Value):Nat→List Value→(List Value→Bool)→Bool :=
 List.rec (motive:=fun _=>Nat→List Value→(List Value→Bool)→Bool) (fun n vs k=>Nat.casesOn (motive:=fun _=>Bool) n (mU [] vs k) (fun _=>false))
  (fun x l ih n vs k=>Nat.casesOn (motive:=fun _=>Bool) n (mU (x::l) vs k) (fun n=>ih n vs fun l'=>k (x::l'))) l
def jT (l:List Value):Nat→Bool :=
 List.rec (motive:=fun _=>Nat→Bool) (fun n=>Nat.casesOn (motive:=fun _=>Bool) n true (fun _=>false))
  (fun _ _ ih n=>Nat.casesOn (motive:=fun _=>Bool) n false (fun n=>ih n)) l
def cellsOf (v:Value):List Value:=match v with
 | .agg ⟨l⟩=>l
 | v=>[v]
def kF (l:List Value) (ps:List (Nat×Nat)):List Value→(List Value→Bool)→Bool :=
 List.rec (motive:=fun _=>List Value→List Value→(List Value→Bool)→Bool)
  (fun l vs k=>List.casesOn (motive:=fun _=>Bool) vs (k l) (fun _ _=>false))
  (fun p _ ih l vs k=>List.casesOn (motive:=fun _=>Bool) vs false (fun v vs=>Prod.casesOn (motive:=fun _=>Bool) p fun off sz =>
   bif jT (cellsOf v) sz then pZ l off (cellsOf v) fun l'=>ih l' vs k else false)) ps l
def fR:Value→Bool
 | .agg _=>false
 | .tuple _=>false
 | _=>true
def dP (l:List Value):Bool :=
 List.rec (motive:=fun _=>Bool) true (fun v _ ih=>bif fR v then ih else false) l
def jF (l:List Value) (m:List Value):(List Value→Bool)→Bool :=
 List.rec (motive:=fun _=>(List Value→Bool)→Bool) (fun k=>k m) (fun x _ ih k=>ih fun l'=>k (x::l')) l
def zj (c:NT Value) (i:Nat) (l:List Value):(NT Value→Bool)→Bool :=
 List.rec (motive:=fun _=>NT Value→Nat→(NT Value→Bool)→Bool) (fun c _ k=>k c)
  (fun v _ ih c i k=>NT.iY (qQ i) c i (some v) fun c'=>fN (Nat.succ i) fun i'=>ih c' i' k) l c i
def qm (c:NT Value) (i:Nat) (n:Nat):(List Value→Bool)→Bool :=
 Nat.rec (motive:=fun _=>Nat→(List Value→Bool)→Bool) (fun _ k=>k [])
  (fun _ ih i k=>NT.ey c i fun v=>fN (Nat.succ i) fun i'=>ih i' fun l=>k (v::l)) n i
def pk (h:AH) (b:Nat) (k:AO→Bool):Bool:=AH.casesOn (motive:=fun _=>Bool) h fun _ ob=>NT.ey ob b k
def iK (h:AH) (b:Nat) (o:Option AO) (k:AH→Bool):Bool:=AH.casesOn (motive:=fun _=>Bool) h fun nx ob=>NT.iY (qQ b) ob b o fun bj=>k ⟨nx,bj⟩
def mV (h:AH) (o:AO) (k:Nat→AH→Bool):Bool:=AH.casesOn (motive:=fun _=>Bool) h fun nx ob=>NT.iY (qQ nx) ob nx (some o) fun bj=>fN (Nat.succ nx) fun sK=>k nx ⟨sK,bj⟩
def lV (h:AH) (ty:TypeId) (l:List Value) (k:Nat→AH→Bool):Bool :=
 iff (dP l) (zj .e 0 l fun c=>fN l.length fun n=>mV h (.cells 0 n ty true c) k)
def mW (h:AH) (b:Nat) (k:Nat→Nat→TypeId→Bool→NT Value→Bool):Bool :=
 pk h b fun o=>AO.casesOn (motive:=fun _=>Bool) o k (fun _ _=>false) (fun _=>false) (fun _=>false) (fun _ _=>false) (fun _ _ _ _=>false)
def lF (h:AH) (b:Nat) (k:List (Value×Value×Nat)→Nat→Bool):Bool :=
 pk h b fun o=>AO.casesOn (motive:=fun _=>Bool) o (fun _ _ _ _ _=>false) k (fun _=>false) (fun _=>false) (fun _ _=>false) (fun _ _ _ _=>false)
def pg (h:AH) (b:Nat) (k:mc→Bool):Bool :=
 pk h b fun o=>AO.casesOn (motive:=fun _=>Bool) o (fun _ _ _ _ _=>false) (fun _ _=>false) k (fun _=>false) (fun _ _=>false) (fun _ _ _ _=>false)
def B4 (h:AH) (b:Nat) (k:Bool→Bool):Bool :=
 pk h b fun o=>AO.casesOn (motive:=fun _=>Bool) o (fun _ _ _ _ _=>false) (fun _ _=>false) (fun _=>false) k (fun _ _=>false) (fun _ _ _ _=>false)
def abk (h:AH) (b:Nat) (k:ByteArray→Nat→Bool):Bool :=
 pk h b fun o=>AO.casesOn (motive:=fun _=>Bool) o (fun _ _ _ _ _=>false) (fun _ _=>false) (fun _=>false) (fun _=>false) k (fun _ _ _ _=>false)
def wE (h:AH) (b:Nat) (k:Option Nat→Nat→List Nat→Nat→Bool):Bool :=
 pk h b fun o=>AO.casesOn (motive:=fun _=>Bool) o (fun _ _ _ _ _=>false) (fun _ _=>false) (fun _=>false) (fun _=>false) (fun _ _=>false) k
def lU (h:AH) (b off n:Nat) (k:List Value→Bool):Bool :=
 mW h b fun lo hi _ _ c=>iff (Nat.ble lo off&&Nat.ble (Nat.add off n) hi) (qm c off n k)
def sG (h:AH) (b off:Nat) (k:Value→Bool):Bool :=
 mW h b fun lo hi _ _ c=>iff (Nat.ble lo off&&Nat.ble (Nat.succ off) hi) (NT.ey c off k)
def re (h:AH) (b off:Nat) (l:List Value) (k:AH→Bool):Bool :=
 mW h b fun lo hi ty rw c=>iff (rw&&Nat.ble lo off&&Nat.ble (Nat.add off l.length) hi&&dP l)
  (zj c off l fun c'=>iK h b (some (.cells lo hi ty rw c')) k)
def ot {α:Type}:α→Bool:=fun _=>false
def jU (v:Value) (k:Nat→Nat→Bool):Bool:=match v with
 | .pointer (some a)=>Addr.casesOn (motive:=fun _=>Bool) a fun b o _=>k b o
 | _=>false
def uG (v:Value) (k:List Value→Bool):Bool:=match v with
 | .agg a=>Array.casesOn (motive:=fun _=>Bool) a k
 | _=>false
def KW (v:Value) (k:List Value→Bool):Bool:=match v with
 | .tuple a=>Array.casesOn (motive:=fun _=>Bool) a k
 | _=>false
def uH (v:Value) (k:Bool→Bool):Bool:=match v with
 | .bool b=>k b
 | _=>false
def lW (v:Value) (k:IntKind→Int→Bool):Bool:=match v with
 | .int kd n=>k kd n
 | _=>false
def ku (v:Value) (k:ByteArray→Bool):Bool:=match v with
 | .string s=>k s
 | _=>false
def lX (v:Value) (kn:Bool) (k:Nat→Nat→Nat→Nat→Bool):Bool:=match v with
 | .slice none _ _=>kn
 | .slice (some a) l c=>Addr.casesOn (motive:=fun _=>Bool) a fun b o _=>k b o l c
 | _=>false
def zk (v:Value) (kn:Bool) (k:Nat→Bool):Bool:=match v with
 | .map none=>kn
 | .map (some r)=>k r
 | _=>false
def au (b o:Nat):Value:=.pointer (some ⟨b,o,none⟩)
def qn (v:Value) (k:Nat→Bool):Bool:=lW v fun _ n=>Int.casesOn (motive:=fun _=>Bool) n k ot
def qo (b:Bool) (vs:List Value) (d:Nat) (k:Nat→List Value→Bool):Bool:=Bool.casesOn (motive:=fun _=>Bool) b (k d vs)
 (List.casesOn (motive:=fun _=>Bool) vs false fun v vs=>qn v fun n=>k n vs)
def kH:Nat→Value→Option Bool
 | 0,.pointer none=>some true
 | 0,.pointer (some _)=>some false
 | 1,.slice none _ _=>some true
 | 1,.slice (some _) _ _=>some false
 | 2,.map none=>some true
 | 2,.map (some _)=>some false
 | 3,.nilFunc=>some true
 | 3,.func _ _ _=>some false
 | 4,.nilIface=>some true
 | 4,.iface _ _=>some false
 | _,_=>none
def nL:Nat→Value→Value→Option Bool
 | 0,.int k a,.int l b=>bif gK k l then some (mT a b)else none
 | 1,.bool a,.bool b=>some (bif a then b else !b)
 | 2,.string a,.string b=>some (lE a.data.toList b.data.toList)
 | _,_,_=>none
def zl:List Nat→List Value→List Value→Option Bool
 | [],[],[]=>some true
 | kc::ks,a::l,b::m=>match nL kc a b with
  | some true=>zl ks l m
  | some false=>some false
  | none=>none
 | _,_,_=>none
def uI (o:Option Bool) (ng:Bool) (k:Value→Bool):Bool:=match o with
 | some b=>fB (bif ng then !b else b) fun b=>k (.bool b)
 | none=>false
def uJ (sz l h m cap:Nat) (SO:Bool) (b o:Nat) (k:Value→Bool):Bool :=
 fN (Nat.sub h l) fun n =>
 bif Nat.ble bg cap&& !SO then
  fN (Nat.add o (Nat.mul l sz)) fun o'=>k (.slice (some ⟨b,o',none⟩) n cap)
 else
  iff (Nat.ble (Nat.succ m) bg) (bif Nat.beq m l then k (.slice (some ⟨b,o,none⟩) n 0)
  else fN (Nat.add o (Nat.mul l sz)) fun o'=>fN (Nat.sub m l) fun c=>k (.slice (some ⟨b,o',none⟩) n c))
def yW (kc:Nat):List (Value×Value×Nat)→Value→(Option Value→Bool)→Bool
 | [],_,k=>k none
 | (a,v,_)::es,x,k=>match nL kc x a with
  | some true=>k (some v)
  | some false=>yW kc es x k
  | none=>false
def pY (kc:Nat):List (Value×Value×Nat)→Value→Value→Nat→(List (Value×Value×Nat)→Nat→Bool)→Bool
 | [],x,y,cl,k=>fN (Nat.succ cl) fun kI=>k [(x,y,cl)] kI
 | (a,v,b)::es,x,y,cl,k=>match nL kc x a with
  | some true=>k ((x,y,b)::es) cl
  | some false=>pY kc es x y cl fun dz kI=>k ((a,v,b)::dz) kI
  | none=>false
def Ev:Nat→Value→Bool
 | 0,.int _ _=>true
 | 1,.bool _=>true
 | 2,.string _=>true
 | _,_=>false
def BI (n:Nat) (zero:List Value) (k:List Value→Bool):Bool :=
 Nat.rec (motive:=fun _=>(List Value→Bool)→Bool) (fun k=>k []) (fun _ ih k=>ih fun l=>jF zero l k) n k
def Ff (vs:List Value):Bool:=List.casesOn (motive:=fun _=>Bool) vs true (fun _ _=>false)
def mX (h:AH) (sz:Nat) (x:Value) (k:Nat→List Value→Bool):Bool :=
 lX x (k 0 []) fun b o n _=>bif Nat.beq n 0 then k 0 []else lU h b o (Nat.mul n sz) fun l=>k n l
def yZ (ss:List Nat) (vs:List Value):(List Value→Bool)→Bool :=
 List.rec (motive:=fun _=>List Value→(List Value→Bool)→Bool) (fun vs k=>a0 vs (k []))
  (fun n _ ih vs k=>List.casesOn (motive:=fun _=>Bool) vs false fun v vs=>iff (jT (cellsOf v) n) (ih vs fun l=>jF (cellsOf v) l k)) ss vs
def Fg:Value→Bool
 | .pointer none=>false
 | .nilIface=>false
 | .nilFunc=>false
 | .func (.method _) _ _=>false
 | _=>true
def SP (op:BinOp) (kx:IntKind) (a:Int) (ky:IntKind) (b:Int) (k:Value→Bool):Bool:=match op with
 | .shl=>false
 | .shr=>SN kx a b k
 | op=>iff (gK kx ky) (SM op kx a b k)
def SS (op:BinOp) (a b:ByteArray) (k:Value→Bool):Bool:=match op with
 | .eql=>fB (lE a.data.toList b.data.toList) fun b=>k (.bool b)
 | .neq=>fB (!lE a.data.toList b.data.toList) fun b=>k (.bool b)
 | _=>false
def Fh (x y:Option Bool) (ng:Bool) (k:Value→Bool):Bool:=match x,y with
 | some true,some b=>uI (some b) ng k
 | some b,some true=>uI (some b) ng k
 | _,_=>false
def Kp (zero:Value) (ok:Bool) (h:AH) (k:KV) (o:Option Value):Bool:=match o,ok with
 | none,true=>k (.tuple ⟨[zero,.bool false]⟩) h
 | none,false=>k zero h
 | some v,true=>k (.tuple ⟨[v,.bool true]⟩) h
 | some v,false=>k v h
def B6 (h:AH) (ty:TypeId) (sz n:Nat) (xs:List Value) (k:KV):Bool :=
 bif Nat.beq n 0 then k (.slice none 0 0) h else iff (Nat.ble n 1048576) (lV h ty xs fun b h=>fN (Nat.add bg sz) fun cp=>k (.slice (some ⟨b,0,none⟩) n cp) h)
def KX (h:AH) (ty:TypeId) (sz:Nat) (xs:List Value) (b o len cap jJ:Nat) (k:KV):Bool :=
 iff (Nat.beq cap (Nat.add bg sz)) (mW h b fun lo hi cJ rw c =>
  iff (rw&&Nat.beq cJ ty&&Nat.ble lo o&&Nat.ble (Nat.add o (Nat.mul len sz)) hi&&dP xs)
   (iK h b none fun h=>fN (Nat.add o (Nat.mul len sz)) fun at_=>zj c at_ xs fun c'=>fN (Nat.add o (Nat.mul jJ sz)) fun dK =>
    mV h (.cells o dK ty true c') fun b' h=>k (.slice (some ⟨b',o,none⟩) jJ cap) h))
def B7 (h:AH) (ty:TypeId) (sz n:Nat) (xs:List Value) (k:KV) (b o len cap:Nat):Bool :=
 bif Nat.beq n 0 then k (.slice (some ⟨b,o,none⟩) len cap) h else
 fN (Nat.add len n) fun jJ=>iff (Nat.ble jJ 1048576) (
 bif Nat.ble bg cap then KX h ty sz xs b o len cap jJ k
 else bif Nat.ble jJ cap then
  fN (Nat.add o (Nat.mul len sz)) fun at_=>re h b at_ xs fun h=>k (.slice (some ⟨b,o,none⟩) jJ cap) h
 else bif Nat.beq len 0 then lV h ty xs fun b' h=>fN (Nat.add bg sz) fun cp=>k (.slice (some ⟨b',0,none⟩) jJ cp) h
 else lU h b o (Nat.mul len sz) fun old=>jF old xs fun l=>lV h ty l fun b' h=>fN (Nat.add bg sz) fun cp=>k (.slice (some ⟨b',0,none⟩) jJ cp) h)
def RV (ty:TypeId) (zero:Value) (x:Value) (k:Value→Bool):Bool:=match x with
 | .nilIface=>k (.tuple ⟨[zero,.bool false]⟩)
 | .iface t v=>bif Nat.beq t ty then k (.tuple ⟨[v,.bool true]⟩)else k (.tuple ⟨[zero,.bool false]⟩)
 | _=>false
def aao (h:AH) (b:Nat) (k:KV) (s:ByteArray) (pos:Nat):Bool:=match s.data.toList[pos]? with
 | some c=>bif Nat.ble (Nat.succ c.toNat) 128 then(fN (Nat.succ pos) fun pos'=>iK h b (some (.od s pos')) fun h =>
  fN c.toNat fun n=>k (.tuple ⟨[.bool true,.int .i64 (.ofNat pos),.int .i32 (.ofNat n)]⟩) h)
  else iK h b (some (.od s (pos+(Utf8.decode s pos).2))) fun h=>k (.tuple ⟨[.bool true,.int .i64 (.ofNat pos),.int .i32 (.ofNat (Utf8.decode s pos).1)]⟩) h
 | none=>k (.tuple ⟨[.bool false]⟩) h
def SU (vs:List Value) (h:AH) (k:KV):Bool:=a1 vs fun x=>k x h
def SV (vs:List Value) (h:AH) (k:KV):Bool:=a3 vs fun c a b=>uH c fun t=>Bool.casesOn (motive:=fun _=>Bool) t (k b h) (k a h)
def abl (ty:TypeId) (zero:List Value) (vs:List Value) (h:AH) (k:KV):Bool:=a0 vs (lV h ty zero fun b h=>k (au b 0) h)
def abm (ty:TypeId) (vs:List Value) (h:AH) (k:KV):Bool:=a1 vs fun v=>lV h ty (cellsOf v) fun b h=>k (au b 0) h
def abn (zero:List Value) (places:List (Nat×Nat)) (vs:List Value) (h:AH) (k:KV):Bool:=kF zero places vs fun l=>k (.agg ⟨l⟩) h
def abo (yU:List Nat) (vs:List Value) (h:AH) (k:KV):Bool:=yZ yU vs fun l=>k (.agg ⟨l⟩) h
def aaw (ty:TypeId) (n:Nat) (cells:List Value) (places:List (Nat×Nat)) (vs:List Value) (h:AH) (k:KV):Bool:=kF cells places vs fun l=>lV h ty l fun b h=>k (.slice (some ⟨b,0,none⟩) n n) h
def SW (vs:List Value) (h:AH) (k:KV):Bool:=a1 vs fun p=>jU p fun b o=>sG h b o fun v=>k v h
def SY (n:Nat) (vs:List Value) (h:AH) (k:KV):Bool:=a1 vs fun p=>jU p fun b o=>lU h b o n fun l=>k (.agg ⟨l⟩) h
def abp (n:Nat) (vs:List Value) (h:AH) (k:KV):Bool:=a2 vs fun p v=>jU p fun b o=>iff (jT (cellsOf v) n) (re h b o (cellsOf v) fun h=>k undef h)
def SZ (vs:List Value) (h:AH) (k:KV):Bool:=a1 vs fun x=>iff (Fg x) (k x h)
def S6 (off:Nat) (vs:List Value) (h:AH) (k:KV):Bool:=a1 vs fun p=>jU p fun b o=>fN (Nat.add o off) fun o'=>k (au b o') h
def S7 (off:Nat) (vs:List Value) (h:AH) (k:KV):Bool:=a1 vs fun x=>uG x fun l=>ql l off fun v=>k v h
def S8 (off n:Nat) (vs:List Value) (h:AH) (k:KV):Bool:=a1 vs fun x=>uG x fun l=>sJ l off fun l=>sI l n fun l=>k (.agg ⟨l⟩) h
def S9 (sz:Nat) (vs:List Value) (h:AH) (k:KV):Bool:=a2 vs fun x i=>qn i fun i=>lX x false fun b o len _=>iff (Nat.ble (Nat.succ i) len) (fN (Nat.add o (Nat.mul i sz)) fun o'=>k (au b o') h)
def Ta (len sz:Nat) (vs:List Value) (h:AH) (k:KV):Bool:=a2 vs fun x i=>qn i fun i=>jU x fun b o=>iff (Nat.ble (Nat.succ i) len) (fN (Nat.add o (Nat.mul i sz)) fun o'=>k (au b o') h)
def Tb (len:Nat) (vs:List Value) (h:AH) (k:KV):Bool:=a2 vs fun x i=>qn i fun i=>uG x fun l=>iff (Nat.ble (Nat.succ i) len) (ql l i fun v=>k v h)
def Tc (len sz:Nat) (vs:List Value) (h:AH) (k:KV):Bool:=a2 vs fun x i=>qn i fun i=>uG x fun l=>iff (Nat.ble (Nat.succ i) len) (sJ l (Nat.mul i sz) fun l=>sI l sz fun l=>k (.agg ⟨l⟩) h)
def KY (vs:List Value) (h:AH) (k:KV):Bool:=a2 vs fun x i=>qn i fun i=>ku x fun s=>(match s.data.toList[i]? with | some c=>fN c.toNat fun n=>k (.int .u8 (.ofNat n)) h | none=>false)
def Fi (sz:Nat) (lo hi mx:Bool) (vs:List Value) (h:AH) (k:KV):Bool:=List.casesOn (motive:=fun _=>Bool) vs false fun x vs=>lX x
 (qo lo vs 0 fun l vs=>qo hi vs 0 fun hh vs=>iff (Nat.beq l 0&&Nat.beq hh 0&& !mx&&Ff vs) (k (.slice none 0 0) h))
 fun b o len cap=>qo lo vs 0 fun l vs=>qo hi vs len fun hh vs=>qo mx vs cap fun m vs =>
  iff (Ff vs&&Nat.ble l hh&&Nat.ble hh m&&(Nat.ble hh len|| !(Nat.ble bg cap))&&(bif mx then Nat.ble m (bif Nat.ble bg cap then len else cap)else true)&&(bif Nat.ble bg cap then Nat.beq cap (Nat.add bg sz)else true))
   (uJ sz l hh m cap mx b o fun v=>k v h)
def abq (lo hi:Bool) (vs:List Value) (h:AH) (k:KV):Bool:=iff (lo&&hi&&Ff vs&&false) (k undef h)
def Fj (n sz : Nat) (lo hi mx : Bool) (vs : List Value) (h : AH) (k : KV) : Bool := List.casesOn (motive := fun _ => Bool) vs false fun x vs => jU x fun b o => qo lo vs 0 fun l vs => qo hi vs n fun hh vs => qo mx vs n fun m vs =>
      iff (Ff vs && Nat.ble l hh && Nat.ble hh m && Nat.ble m n) (uJ sz l hh m n true b o fun v => k v h)
def KZ (op:BinOp) (vs:List Value) (h:AH) (k:KV):Bool:=a2 vs fun x y=>lW x fun kx a=>lW y fun ky b=>SP op kx a ky b fun v=>k v h
def K3 (op:BinOp) (vs:List Value) (h:AH) (k:KV):Bool:=a2 vs fun x y=>ku x fun a=>ku y fun b=>SS op a b fun v=>k v h
def K4 (nk:Nat) (ng:Bool) (vs:List Value) (h:AH) (k:KV):Bool:=a2 vs fun x y=>Fh (kH nk x) (kH nk y) ng fun v=>k v h
def Td (ng:Bool) (vs:List Value) (h:AH) (k:KV):Bool:=a2 vs fun x y=>uH x fun a=>uH y fun b=>fB (bif ng then(bif a then !b else b)else(bif a then b else !b)) fun c=>k (.bool c) h
def Te (ng:Bool) (ks:List Nat) (vs:List Value) (h:AH) (k:KV):Bool:=a2 vs fun x y=>uG x fun l=>uG y fun m=>uI (zl ks l m) ng fun v=>k v h
def Tf (vs:List Value) (h:AH) (k:KV):Bool:=a1 vs fun x=>lW x fun kd n=>fI (bD kd (Int.sub (.ofNat 0) n)) fun n=>k (.int kd n) h
def Tg (vs:List Value) (h:AH) (k:KV):Bool:=a1 vs fun x=>uH x fun b=>fB (!b) fun b=>k (.bool b) h
def Th (kd:IntKind) (vs:List Value) (h:AH) (k:KV):Bool:=a1 vs fun x=>lW x fun _ n=>fI (bD kd n) fun n=>k (.int kd n) h
def Ti (fn:Fn) (nf:Nat) (vs:List Value) (h:AH) (k:KV):Bool:=sI vs nf fun a=>sJ vs nf fun b=>k (.func fn ⟨a⟩ ⟨b⟩) h
def Tj (ty:TypeId) (vs:List Value) (h:AH) (k:KV):Bool:=a1 vs fun x=>k (.iface ty x) h
def abr (vs:List Value) (h:AH) (k:KV):Bool:=a0 vs (mV h (.map [] 0) fun b h=>k (.map (some b)) h)
def aaf (ty:TypeId) (sz:Nat) (zero:List Value) (vs:List Value) (h:AH) (k:KV):Bool:=a2 vs fun l c=>qn l fun l=>qn c fun c=>iff (Nat.ble l c&&Nat.ble c 65536&&jT zero sz) (BI c zero fun cs=>lV h ty cs fun b h=>k (.slice (some ⟨b,0,none⟩) l c) h)
def RR (kc:Nat) (zero:Value) (ok:Bool) (vs:List Value) (h:AH) (k:KV):Bool:=a2 vs fun m x=>iff (Ev kc x) (zk m (Kp zero ok h k none) fun r=>lF h r fun es _=>yW kc es x (Kp zero ok h k))
def aak (kc:Nat) (vs:List Value) (h:AH) (k:KV):Bool:=a3 vs fun m x v=>iff (Ev kc x) (zk m false fun r=>lF h r fun es cl=>pY kc es x v cl fun es cl=>iK h r (some (.map es cl)) fun h=>k undef h)
def Tk (i:Nat) (vs:List Value) (h:AH) (k:KV):Bool:=a1 vs fun x=>KW x fun l=>ql l i fun v=>k v h
def Tl (vs:List Value) (h:AH) (k:KV):Bool:=a1 vs fun x=>lX x (k (.int .i64 (.ofNat 0)) h) fun _ _ n _=>k (.int .i64 (.ofNat n)) h
def Tm (vs:List Value) (h:AH) (k:KV):Bool:=a1 vs fun x=>ku x fun s=>fN s.data.toList.length fun n=>k (.int .i64 (.ofNat n)) h
def Tn (vs:List Value) (h:AH) (k:KV):Bool:=a1 vs fun x=>zk x (k (.int .i64 (.ofNat 0)) h) fun r=>lF h r fun es _=>fN es.length fun n=>k (.int .i64 (.ofNat n)) h
def To (n:Nat) (vs:List Value) (h:AH) (k:KV):Bool:=a1 vs fun _=>k (.int .i64 (.ofNat n)) h
def abt (ty:TypeId) (sz:Nat) (zero:List Value) (vs:List Value) (h:AH) (k:KV):Bool:=a2 vs fun s x=>mX h sz x fun n xs=>iff (Nat.ble 1 sz&&jT zero sz) (lX s (B6 h ty sz n xs k) (B7 h ty sz n xs k))
def aab (sz : Nat) (vs : List Value) (h : AH) (k : KV) : Bool := a2 vs fun d s => lX d (lX s (k (.int .i64 (.ofNat 0)) h) fun _ _ _ _ => k (.int .i64 (.ofNat 0)) h) fun b o len _ => lX s (k (.int .i64 (.ofNat 0)) h) fun b' o' pV _ =>
      fN (bif Nat.ble pV len then pV else len) fun n => bif Nat.beq n 0 then k (.int .i64 (.ofNat 0)) h else
        lU h b' o' (Nat.mul n sz) fun l => re h b o l fun h => k (.int .i64 (.ofNat n)) h
def RL (vs:List Value) (h:AH) (k:KV):Bool:=a2 vs fun x y=>lW x fun kx a=>lW y fun ky b=>iff (gK kx ky) (bif oq a b then k (.int kx b) h else k (.int kx a) h)
def RM (vs:List Value) (h:AH) (k:KV):Bool:=a2 vs fun x y=>lW x fun kx a=>lW y fun ky b=>iff (gK kx ky) (bif oq b a then k (.int kx b) h else k (.int kx a) h)
def Kt (ty:TypeId) (zero:Value) (vs:List Value) (h:AH) (k:KV):Bool:=a1 vs fun x=>RV ty zero x fun v=>k v h
def aam (vs:List Value) (h:AH) (k:KV):Bool:=a1 vs fun x=>ku x fun s=>mV h (.od s 0) fun b h=>k (au b 0) h
def aan (vs:List Value) (h:AH) (k:KV):Bool:=a1 vs fun x=>jU x fun b o=>iff (Nat.beq o 0) (abk h b (aao h b k))
def uK (l m:List UInt8):(List UInt8→Bool)→Bool :=
 List.rec (motive:=fun _=>(List UInt8→Bool)→Bool) (fun k=>k m) (fun x _ ih k=>ih fun l'=>k (x::l')) l
def K5 (l:List UInt8):Nat→(List UInt8→Bool)→Bool :=
 List.rec (motive:=fun _=>Nat→(List UInt8→Bool)→Bool) (fun _ k=>k [])
  (fun x _ ih n k=>Nat.casesOn (motive:=fun _=>Bool) n (k []) (fun n=>ih n fun l'=>k (x::l'))) l
def K6 (l:List UInt8):Nat→(List UInt8→Bool)→Bool :=
 List.rec (motive:=fun _=>Nat→(List UInt8→Bool)→Bool) (fun _ k=>k [])
  (fun x l ih n k=>Nat.casesOn (motive:=fun _=>Bool) n (k (x::l)) (fun n=>ih n k)) l
def zm:List UInt8→List UInt8→Bool
 | _,[]=>false
 | [],_::_=>true
 | a::l,b::m=>bif Nat.ble (Nat.succ a.toNat) b.toNat then true else bif Nat.beq a.toNat b.toNat then zm l m else false
def abu (op:BinOp) (a b:List UInt8):Option Bool:=match op with
 | .lss=>some (zm a b)
 | .leq=>some (zm a b||lE a b)
 | .gtr=>some (!(zm a b||lE a b))
 | .geq=>some (!zm a b)
 | _=>none
def alj (_:List Value) (_:AH) (_:KV):Bool:=false
def abv (vs:List Value) (h:AH) (k:KV):Bool:=a2 vs fun x y=>ku x fun a=>ku y fun b =>
 iff (Nat.ble (Nat.add a.data.toList.length b.data.toList.length) 9223372036854775807) (uK a.data.toList b.data.toList fun l=>k (.string ⟨⟨l⟩⟩) h)
def abw (op:BinOp) (vs:List Value) (h:AH) (k:KV):Bool:=a2 vs fun x y=>ku x fun a=>ku y fun b=>uI (abu op a.data.toList b.data.toList) false fun v=>k v h
def Tp (lo hi:Bool) (vs:List Value) (h:AH) (k:KV):Bool:=List.casesOn (motive:=fun _=>Bool) vs false fun x vs=>ku x fun s =>
 qo lo vs 0 fun l vs=>qo hi vs s.data.toList.length fun hh vs=>iff (Ff vs&&Nat.ble l hh&&Nat.ble hh s.data.toList.length) (K6 s.data.toList l fun m=>K5 m (Nat.sub hh l) fun m=>k (.string ⟨⟨m⟩⟩) h)
def abx (vs:List Value) (h:AH) (k:KV):Bool:=a1 vs fun x=>lX x (k (.int .i64 (.ofNat 0)) h) fun _ _ _ c=>iff (Nat.ble (Nat.succ c) bg) (k (.int .i64 (.ofNat c)) h)
def Tq (l:List UInt8):(List Value→Bool)→Bool :=
 List.rec (motive:=fun _=>(List Value→Bool)→Bool) (fun k=>k []) (fun c _ ih k=>fN c.toNat fun n=>ih fun l=>k (.int .u8 (.ofNat n)::l)) l
def aby (l:List Value):(List UInt8→Bool)→Bool :=
 List.rec (motive:=fun _=>(List UInt8→Bool)→Bool) (fun k=>k []) (fun v _ ih k=>lW v fun kd n=>Int.casesOn (motive:=fun _=>Bool) n (fun n=>iff (gK kd .u8&&Nat.ble (Nat.succ n) 256) (ih fun l=>k (UInt8.ofNat n::l))) ot) l
def abz (ty:TypeId) (zero:List Value) (vs:List Value) (h:AH) (k:KV):Bool:=a2 vs fun s x=>ku x fun t=>Tq t.data.toList fun xs=>fN xs.length fun n =>
 iff (jT zero 1) (lX s (B6 h ty 1 n xs k) (B7 h ty 1 n xs k))
def abA (vs:List Value) (h:AH) (k:KV):Bool:=a1 vs fun p=>jU p fun b o=>mW h b fun lo hi _ _ _=>iff (Nat.ble lo o&&Nat.ble (Nat.succ o) hi) (k (au b o) h)
def K7 (ty hi:Nat):List (TypeId×Nat)→Bool
 | []=>false
 | (t,n)::l=>bif Nat.beq t ty&&Nat.ble n hi then true else K7 ty hi l
def abB (l:List (TypeId×Nat)) (vs:List Value) (h:AH) (k:KV):Bool:=a1 vs fun p=>jU p fun b o=>mW h b fun lo hi ty _ _=>iff (Nat.beq lo 0&&Nat.beq o 0&&K7 ty hi l) (k (au b o) h)
def abC (vs:List Value) (h:AH) (k:KV):Bool:=a1 vs fun p=>k p h
def K8 (x y:Value):Bool:=match x,y with
 | .pointer (some a),.pointer (some b)=>Nat.beq a.block b.block&&Nat.beq a.off b.off
 | _,_=>false
def abD (ng:Bool) (vs:List Value) (h:AH) (k:KV):Bool:=a2 vs fun x y=>bif K8 x y then jU x fun b _=>pk h b fun _=>fB (!ng) fun b=>k (.bool b) h else Fh (kH 0 x) (kH 0 y) ng fun v=>k v h
def abE (vs:List Value) (h:AH) (k:KV):Bool:=a1 vs fun s=>lX s (k (.pointer none) h) fun b o n _=>iff (Nat.ble 1 n) (k (au b o) h)
def abF (ty:TypeId) (n:Nat) (h:AH) (k:KV) (a:Addr):Bool:=Addr.casesOn (motive:=fun _=>Bool) a fun b o _ =>
 mW h b fun lo hi cJ rw c=>iff (rw&&Nat.beq cJ ty&&Nat.ble lo o&&Nat.ble (Nat.add o n) hi&&Nat.ble n 1048576) (qm c o n fun l=>aby l fun m=>iK h b (some (.cells lo hi cJ false c)) fun h=>k (.string ⟨⟨m⟩⟩) h)
def abG (ty:TypeId) (vs:List Value) (h:AH) (k:KV):Bool:=a2 vs fun p n=>qn n fun n=>match p with
 | .pointer q=>bif Nat.beq n 0 then k (.string ⟨⟨[]⟩⟩) h else Option.casesOn (motive:=fun _=>Bool) q false (abF ty n h k)
 | _=>false
def Fk (l:List UInt8) (c:Nat):Nat:=List.rec (motive:=fun _=>Nat) 0 (fun b _ ih=>bif Nat.beq b.toNat c then Nat.succ ih else ih) l
def K9 (c:Nat):List UInt8→Nat→(Int→Bool)→Bool
 | [],_,k=>k (.negSucc 0)
 | b::l,i,k=>bif Nat.beq b.toNat c then k (.ofNat i)else fN (Nat.succ i) fun i=>K9 c l i k
def abH (vs:List Value) (h:AH) (k:KV):Bool:=a2 vs fun s c=>ku s fun s=>lW c fun kd n=>Int.casesOn (motive:=fun _=>Bool) n (fun n=>iff (gK kd .u8&&Nat.ble (Nat.succ n) 256) (fN (Fk s.data.toList n) fun n=>k (.int .i64 (.ofNat n)) h)) ot
def abI (vs:List Value) (h:AH) (k:KV):Bool:=a2 vs fun s c=>ku s fun s=>lW c fun kd n=>Int.casesOn (motive:=fun _=>Bool) n (fun n=>iff (gK kd .u8&&Nat.ble (Nat.succ n) 256) (K9 n s.data.toList 0 fun i=>k (.int .i64 i) h)) ot
def abJ (vs:List Value) (h:AH) (k:KV):Bool:=a1 vs fun m=>zk m (mV h (.gA none 0 [] 0) fun b h=>k (au b 0) h) fun r=>lF h r fun _ cl=>mV h (.gA (some r) cl [] cl) fun b h=>k (au b 0) h
def sH (l:List Nat) (n:Nat):Bool:=List.rec (motive:=fun _=>Bool) false (fun m _ ih=>bif Nat.beq m n then true else ih) l
def Fm (l:List Nat) (n:Nat):(List Nat→Bool)→Bool :=
 List.rec (motive:=fun _=>(List Nat→Bool)→Bool) (fun k=>k [n]) (fun x _ ih k=>ih fun l'=>k (x::l')) l
def uL (es:List (Value×Value×Nat)) (since:Nat) (seen:List Nat):(List (Value×Value×Nat)→Bool)→Bool :=
 List.rec (motive:=fun _=>(List (Value×Value×Nat)→Bool)→Bool) (fun k=>k []) (fun e _ ih k=>iff (Nat.ble (Nat.succ e.2.2) since) (bif sH seen e.2.2 then ih k else ih fun l=>k (e::l))) es
def wF (go:Value→Value→Nat→Bool):List (Value×Value×Nat)→Bool
 | []=>true
 | [(a,v,n)]=>go a v n
 | (a,v,n)::l=>iff (go a v n) (wF go l)
def La (h:AH) (b r since:Nat) (seen:List Nat) (k:KV) (a v:Value) (n:Nat):Bool :=
 Fm seen n fun alk=>iK h b (some (.gA (some r) since alk since)) fun h=>k (.tuple ⟨[.bool true,a,v]⟩) h
def Lb (h:AH) (b r since:Nat) (seen:List Nat) (k:KV) (l:List (Value×Value×Nat)):Bool:=match l with
 | []=>iK h b none fun h=>k (.tuple ⟨[.bool false]⟩) h
 | l=>wF (La h b r since seen k) l
def abK (vs:List Value) (h:AH) (k:KV):Bool:=a1 vs fun p=>jU p fun b o=>iff (Nat.beq o 0) (wE h b fun m since seen last=>Option.casesOn (motive:=fun _=>Bool) m (k (.tuple ⟨[.bool false]⟩) h) fun r =>
 lF h r fun es cl=>iff (Nat.beq cl since&&Nat.beq last since) (uL es since seen (Lb h b r since seen k)))
def zn (l:List Nat) (k:Nat→Bool):Bool:=match l with
 | []=>false
 | [n]=>k n
 | _::l=>zn l k
def wG (es:List (Value×Value×Nat)) (n:Nat) (k:Value→Value→Bool):Bool:=match es with
 | []=>false
 | (a,v,b)::es=>bif Nat.beq b n then k a v else wG es n k
def abL (vs:List Value) (h:AH) (k:KV):Bool:=a1 vs fun p=>jU p fun b o=>iff (Nat.beq o 0) (wE h b fun m _ seen last=>Option.casesOn (motive:=fun _=>Bool) m false fun r =>
 lF h r fun es cl=>iff (Nat.beq cl last) (zn seen fun n=>wG es n fun a v=>k (.tuple ⟨[a,v]⟩) h))
def PX.ev (p:PX):List Value→AH→KV→Bool:=PX.casesOn (motive:=fun _=>List Value→AH→KV→Bool) p alj abv abw Tp abx
 abz abA abB abC abD abE abG abH abI abJ abK abL
def Prim.ev (p:Prim):List Value→AH→KV→Bool:=Prim.casesOn (motive:=fun _=>List Value→AH→KV→Bool) p
 SU SV abl abm abn abo aaw SW SY abp SZ S6 S7 S8 S9 Ta Tb Tc KY Fi abq Fj KZ K3 K4 Td Te Tf Tg Th Ti Tj abr aaf RR aak Tk Tl Tm Tn To abt aab RL RM Kt aam aan PX.ev
inductive AX where
 | normal
 | exit (id:Nat)
 | ret
 | aT (v:Value)
inductive Rc where
 | off
 | can (v:Value)
 | mQ
structure St where
 tm:PT
 df:List gV
 rc:Rc
 h:AH
structure Env where
 fn:FuncId
 nt:Nat
 wo:Option Nat
inductive CR where
 | ret (v:Value)
 | aT (v:Value)
abbrev KS:=AX→St→Bool
inductive Task where
 | code (c:dV) (e:Env) (s:St) (k:KS)
 | call (f:FuncId) (args:List Value) (h:AH) (k:CR→AH→Bool)
 | BU (f:FuncId) (args:List Value) (rc:Rc) (h:AH) (k:Rc→AH→Bool)
 | round (l:Nat) (args:List Value) (h:AH) (k:CR→AH→Bool)
 | leave (ds:List gV) (m:Option Value) (h:AH) (k:Option Value→AH→Bool)
def uB (o:eL) (t:PT) (k:Value→Bool):Bool:=eL.casesOn (motive:=fun _=>Bool) o (fun p=>PT.ey p t k) k
def qd (l:List eL) (t:PT):(List Value→Bool)→Bool :=
 List.rec (motive:=fun _=>(List Value→Bool)→Bool) (fun k=>k []) (fun o _ ih k=>uB o t fun v=>ih fun vs=>k (v::vs)) l
def jI (d:Option Pos) (s:St) (v:Value) (h:AH) (k:St→Bool):Bool:=St.casesOn (motive:=fun _=>Bool) s fun tm df rc _ =>
 Option.casesOn (motive:=fun _=>Bool) d (k ⟨tm,df,rc,h⟩) (fun p=>PT.iY p tm v fun Sa=>k ⟨Sa,df,rc,h⟩)
def oo (a b:Bool):Bool:=Bool.casesOn (motive:=fun _=>Bool) a (Bool.casesOn (motive:=fun _=>Bool) b true false) b
def zd (want:Bool) (yes no:Bool) (v:Value):Bool:=match v with
 | .bool b=>bif oo b want then yes else no
 | _=>no
def qe (g:Option (Pos×Bool)) (t:PT) (yes no:Bool):Bool :=
 Option.casesOn (motive:=fun _=>Bool) g yes fun pw=>Prod.casesOn (motive:=fun _=>Bool) pw fun p want=>PT.ey p t (zd want yes no)
def qa (dst:Option Pos) (s:St) (fail:KS) (k:St→Bool) (r:CR) (h:AH):Bool :=
 CR.casesOn (motive:=fun _=>Bool) r (fun v=>jI dst s v h k) (fun v=>St.casesOn (motive:=fun _=>Bool) s fun tm df rc _=>fail (.aT v) ⟨tm,df,rc,h⟩)
def aaG (awf:Task→Bool) (dst:Option Pos) (_:Env) (s:St) (_:KS) (k:St→Bool) (vs:List Value) (p:Prim):Bool :=
 p.ev vs s.h fun v h=>jI dst s v h k
def aaI (rec:Task→Bool) (dst:Option Pos) (_:Env) (s:St) (fail:KS) (k:St→Bool) (vs:List Value) (f:FuncId):Bool :=
 rec (.call f vs s.h (qa dst s fail k))
def wv (v:Value) (kf:Nat→List Value→List Value→Bool) (ky:Nat→Bool):Bool:=match v with
 | .func (.func g) ⟨first⟩ ⟨cr⟩=>kf g first cr
 | .func (.yield l) ⟨[]⟩ ⟨[]⟩=>ky l
 | _=>false
def R6 (rec:Task→Bool) (dst:Option Pos) (_:Env) (s:St) (fail:KS) (k:St→Bool) (vs:List Value):Bool :=
 List.casesOn (motive:=fun _=>Bool) vs false fun f as=>wv f
  (fun g first cr=>jF as cr fun l=>jF first l fun l=>rec (.call g l s.h (qa dst s fail k)))
  (fun l=>rec (.round l as s.h (qa dst s fail k)))
def EM (dst:Option Pos) (e:Env) (s:St) (k:St→Bool) (vs:List Value):Bool:=match e.wo,vs with
 | none,[]=>(match s.rc with
  | .can v=>jI dst ⟨s.tm,s.df,.mQ,s.h⟩ v s.h k
  | _=>jI dst s .nilIface s.h k)
 | _,_=>false
def KB (s:St) (fail:KS) (vs:List Value):Bool:=a1 vs fun v=>match v with
 | .iface t x=>fail (.aT (.iface t x)) s
 | _=>false
def EP (dst:Option Pos) (e:Env) (s:St) (k:St→Bool) (vs:List Value):Bool:=match e.wo,vs with
 | none,f::as=>wv f (fun g first cr=>jF as cr fun l=>jF first l fun l=>jI dst ⟨s.tm,.fn g l::s.df,s.rc,s.h⟩ undef s.h k) ot
 | _,_=>false
def BX (rec:Task→Bool) (act:kB) (dst:Option Pos) (e:Env) (s:St) (fail:KS) (k:St→Bool) (vs:List Value):Bool :=
 kB.casesOn (motive:=fun _=>Bool) act (aaG rec dst e s fail k vs) (aaI rec dst e s fail k vs) (R6 rec dst e s fail k vs)
  (EM dst e s k vs) (KB s fail vs) (EP dst e s k vs)
def wx (rec:Task→Bool) (o:bS) (e:Env) (s:St) (fail:KS) (k:St→Bool):Bool :=
 bS.casesOn (motive:=fun _=>Bool) o fun dst act args g=>qe g s.tm (qd args s.tm (BX rec act dst e s fail k)) (jI dst s undef s.h k)
def EV (rec:Task→Bool) (l:List bS) (e:Env) (s:St) (k:KS):Bool :=
 List.rec (motive:=fun _=>St→Bool) (fun s=>k .normal s) (fun o _ ih s=>wx rec o e s k ih) l s
def Lc:Value→Value→Bool
 | .bool a,.bool b=>bif a then b else !b
 | .int k a,.int l b=>bif gK k l then mT a b else false
 | .string a,.string b=>lE a.data.toList b.data.toList
 | .pointer none,.pointer none=>true
 | .pointer (some a),.pointer (some b)=>Nat.beq a.block b.block&&Nat.beq a.off b.off
 | .slice none l c,.slice none m d=>Nat.beq l m&&Nat.beq c d
 | .slice (some a) l c,.slice (some b) m d=>Nat.beq a.block b.block&&Nat.beq a.off b.off&&Nat.beq l m&&Nat.beq c d
 | .map none,.map none=>true
 | .map (some a),.map (some b)=>Nat.beq a b
 | .nilFunc,.nilFunc=>true
 | .nilIface,.nilIface=>true
 | _,_=>false
def Fo:List Value→List Value→Bool
 | [],[]=>true
 | a::l,b::m=>Lc a b&&Fo l m
 | _,_=>false
def sL:Value→Value→Bool
 | .func (.func f) ⟨a⟩ ⟨b⟩,.func (.func g) ⟨c⟩ ⟨d⟩=>Nat.beq f g&&Fo a c&&Fo b d
 | a,b=>Lc a b
def qp:List Value→List Value→Bool
 | [],[]=>true
 | a::l,b::m=>sL a b&&qp l m
 | _,_=>false
def rf (a b:Value):Bool:=match a,b with
 | .agg ⟨l⟩,.agg ⟨m⟩=>qp l m
 | .tuple ⟨l⟩,.tuple ⟨m⟩=>qp l m
 | a,b=>sL a b
def Prim.fresh (p:Prim) (vs:List Value) (k:TypeId→List Value→Bool):Bool:=match p with
 | .alloc ty zero=>a0 vs (k ty zero)
 | .box ty=>a1 vs fun v=>k ty (cellsOf v)
 | .buildSlice ty _ cells places=>kF cells places vs fun l=>k ty l
 | _=>false
def Prim.makes:Prim→Bool
 | .alloc _ _=>true
 | .box _=>true
 | .buildSlice _ _ _ _=>true
 | _=>false
def Tr (v:Value) (k:Nat→Bool):Bool:=match v with
 | .pointer (some ⟨b,o,_⟩)=>iff (Nat.beq o 0) (k b)
 | .slice (some ⟨b,o,_⟩) _ _=>iff (Nat.beq o 0) (k b)
 | _=>false
def zo (s:St) (v:Value) (ty:TypeId) (l:List Value):Bool :=
 Tr v fun b=>mW s.h b fun lo hi cJ rw c=>iff (rw&&Nat.beq lo 0&&Nat.beq hi l.length&&Nat.beq ty cJ) (qm c 0 l.length fun m=>qp m l)
def Fp (v:Value) (v':Value) (_:AH):Bool:=rf v' v
def Fq (dst:Option Pos) (s:St) (vs:List Value) (p:Prim):Bool :=
 Option.casesOn (motive:=fun _=>Bool) dst false fun d=>PT.ey d s.tm fun v=>bif p.makes then p.fresh vs (zo s v)else p.ev vs s.h (Fp v)
def B8 (o:bS) (s:St):Bool :=
 bS.casesOn (motive:=fun _=>Bool) o fun dst act args g=>qe g s.tm (qd args s.tm fun vs =>
  kB.casesOn (motive:=fun _=>Bool) act (Fq dst s vs) ot false false false false) true
def qg (rec:Task→Bool) (l:List kC) (e:Env) (s:St) (k:KS):Bool :=
 List.rec (motive:=fun _=>St→Bool) (fun s=>k .normal s)
  (fun d _ ih s=>kC.casesOn (motive:=fun _=>Bool) d (fun _ o=>wx rec o e s k ih) (fun _ o=>iff (B8 o s) (ih s))) l s
def B5 (ps:List Pos) (vs:List Value) (t:PT) (k:PT→Bool):Bool :=
 List.rec (motive:=fun _=>List Value→PT→Bool) (fun vs t=>a0 vs (k t)) (fun p _ ih vs t=>List.casesOn (motive:=fun _=>Bool) vs false fun v vs=>PT.iY p t v fun t=>ih vs t) ps vs t
def uC (i:Nat) (vs:List Value) (t:PT) (k:PT→Bool):Bool :=
 List.rec (motive:=fun _=>Nat→PT→Bool) (fun _ t=>k t) (fun v _ ih i t=>PT.iY (Pos.of i) t v fun t=>ih (.succ i) t) vs i t
def mh (rs:List mN) (t:PT) (h:AH) (k:List Value→Bool):Bool:=match rs with
 | []=>k []
 | .tmp p::rs=>PT.ey p t fun v=>mh rs t h fun vs=>k (v::vs)
 | .cell p none::rs=>PT.ey p t fun v=>jU v fun b o=>sG h b o fun x=>mh rs t h fun vs=>k (x::vs)
 | .cell p (some n)::rs=>PT.ey p t fun v=>jU v fun b o=>lU h b o n fun l=>mh rs t h fun vs=>k (.agg ⟨l⟩::vs)
def E6 (vs:List Value) (k:Value→Bool):Bool:=match vs with
 | [v]=>k v
 | vs=>k (.tuple ⟨vs⟩)
def EW (rec:Task→Bool) (b:dV) (e:Env) (k:KS) (x:AX) (s:St):Bool:=AX.casesOn (motive:=fun _=>Bool) x (rec (.code b e s k)) (fun id=>k (.exit id) s) (k .ret s) (fun v=>k (.aT v) s)
def alm (rec:Task→Bool) (e:Env) (s:St) (k:KS) (a b:dV):Bool:=rec (.code a e s (EW rec b e k))
def aln (rec:Task→Bool) (e:Env) (s:St) (k:KS) (c:eL) (a b:dV):Bool :=
 uB c s.tm fun v=>uH v fun t=>Bool.casesOn (motive:=fun _=>Bool) t (rec (.code b e s k)) (rec (.code a e s k))
def Sc (id:Nat) (k:KS) (x:AX) (s:St):Bool:=AX.casesOn (motive:=fun _=>Bool) x (k .normal s) (fun j=>bif Nat.beq j id then k .normal s else k (.exit j) s) (k .ret s) (fun v=>k (.aT v) s)
def alo (rec:Task→Bool) (e:Env) (s:St) (k:KS) (id:Nat) (c:dV):Bool:=rec (.code c e s (Sc id k))
def alp (rec:Task→Bool) (e:Env) (s:St) (k:KS) (c:dV):Bool:=rec (.code c e s (EW rec (.loop c) e k))
def mc.kE (r:mc) (st:LoopState) (j:Option Code):mc:=mc.casesOn (motive:=fun _=>mc) r fun _ _ fn tm ps a b d nt=>⟨st,j,fn,tm,ps,a,b,d,nt⟩
def KE (s:St) (df:List gV) (k:KS) (j:Option Code) (h:AH):Bool:=match j with
 | none=>k .normal ⟨s.tm,df,s.rc,h⟩
 | some .ret=>k .ret ⟨s.tm,df,s.rc,h⟩
 | some (.exit id)=>k (.exit id) ⟨s.tm,df,s.rc,h⟩
 | _=>false
def Ts:LoopState→Bool
 | .busy=>false
 | _=>true
def isReady:LoopState→Bool
 | .ready=>true
 | _=>false
def Sh (s:St) (df:List gV) (k:KS) (l:Nat) (r:CR) (h:AH):Bool:=CR.casesOn (motive:=fun _=>Bool) r
 (fun _=>pg h l fun r=>iff (Ts r.state) (iK h l (some (.loop (r.kE .exhausted r.eE))) (KE s df k r.eE)))
 (fun v=>k (.aT v) ⟨s.tm,df,s.rc,h⟩)
def EY (rec:Task→Bool) (e:Env) (s:St) (k:KS) (params:List Pos) (assign body:dV) (g:Nat) (first cr:List Value) (h:AH) (dl:Nat) (df:List gV):Bool :=
 mV h (.loop ⟨.ready,none,e.fn,s.tm,params,assign,body,dl,e.nt⟩) fun l h =>
  jF first (.func (.yield l) ⟨[]⟩ ⟨[]⟩::cr) fun args=>rec (.call g args h (Sh s df k l))
def aaT (rec:Task→Bool) (e:Env) (s:St) (k:KS) (f:eL) (params:List Pos) (assign body:dV):Bool :=
 uB f s.tm fun fv=>wv fv (fun g first cr=>match e.wo with
  | none=>mV s.h (.defs false) fun r h=>EY rec e s k params assign body g first cr h r (.qT r::s.df)
  | some l=>pg s.h l fun r=>EY rec e s k params assign body g first cr s.h r.defs s.df) ot
def Sp (rec:Task→Bool) (c:dV) (e:Env) (s:St) (k:KS):Bool:=dV.casesOn (motive:=fun _=>Bool) c
 (k .normal s) (fun l=>EV rec l e s k) (fun l=>qg rec l e s k) (alm rec e s k) (aln rec e s k) (alo rec e s k) (alp rec e s k) (aaT rec e s k)
 (fun id=>k (.exit id) s) (k .ret s)
def E9 (results:List mN) (tm:PT) (k:CR→AH→Bool) (m:Option Value) (h:AH):Bool:=match m with
 | none=>mh results tm h fun vs=>E6 vs fun v=>k (.ret v) h
 | some v=>k (.aT v) h
def aa0 (results:List mN) (k:CR→AH→Bool) (m:Option Value) (h:AH):Bool:=match m with
 | none=>(match results with | []=>k (.ret (.tuple ⟨[]⟩)) h | _=>false)
 | some v=>k (.aT v) h
def E8 (rec:Task→Bool) (results:List mN) (k:CR→AH→Bool) (x:AX) (s:St):Bool:=AX.casesOn (motive:=fun _=>Bool) x
 (rec (.leave s.df none s.h (E9 results s.tm k))) ot (rec (.leave s.df none s.h (E9 results s.tm k))) (fun v=>rec (.leave s.df (some v) s.h (aa0 results k)))
def abM (v:Value):List Nat:=match v with
 | .slice (some a) _ _=>[a.block]
 | .map (some r)=>[r]
 | .pointer (some a)=>[a.block]
 | _=>[]
def abN:List Value→List Nat
 | []=>[]
 | v::l=>abM v++abN l
def alq (v:Value):List Nat:=match v with
 | .tuple ⟨l⟩=>abN l
 | v=>abM v
def KN (dq:List Nat) (n:Nat):Nat→AH→(AH→Bool)→Bool :=
 Nat.rec (motive:=fun _=>Nat→AH→(AH→Bool)→Bool) (fun _ h k=>k h)
  (fun _ ih b h k=>fN (Nat.succ b) fun b'=>bif sH dq b then ih b' h k else iK h b none fun h=>ih b' h k) n
def Sz (h0:AH) (k:CR→AH→Bool) (v:Value) (h:AH):Bool:=match alq v with
 | []=>iff (k (.ret v) h) true
 | dq=>fN (Nat.sub h.nx h0.nx) fun n=>fN h0.nx fun b=>KN dq n b h fun h=>iff (k (.ret v) h) true
def jn (det:Bool) (h0:AH) (k:CR→AH→Bool):CR→AH→Bool:=bif det then fun r h=>CR.casesOn (motive:=fun _=>Bool) r (fun v=>Sz h0 k v h) (fun v=>k (.aT v) h)else k
abbrev uE:=List (FuncId×(List Value→AH→(CR→AH→Bool)→Bool))
def aa1 (prog:NT jD) (rec:Task→Bool) (f:FuncId) (args:List Value) (h:AH) (k:CR→AH→Bool):Bool :=
 NT.ey prog f fun fn=>jD.casesOn (motive:=fun _=>Bool) fn fun nt results code det=>uC 0 args .e fun tm =>
  rec (.code code ⟨f,nt,none⟩ ⟨tm,[],.off,h⟩ (E8 rec results (jn det h k)))
def KQ (prog:NT jD) (sums:uE) (rec:Task→Bool) (f:FuncId) (args:List Value) (h:AH) (k:CR→AH→Bool):Bool:=match sums with
 | []=>aa1 prog rec f args h k
 | (g,S)::l=>bif Nat.beq g f then S args h k else KQ prog l rec f args h k
def wB (df:List gV) (k:Bool):Bool:=match df with
 | []=>k
 | _=>false
def SE (k:Rc→AH→Bool) (x:AX) (s:St):Bool:=match x with
 | .normal=>wB s.df (k s.rc s.h)
 | .ret=>wB s.df (k s.rc s.h)
 | _=>false
def aa3 (prog:NT jD) (rec:Task→Bool) (f:FuncId) (args:List Value) (rc:Rc) (h:AH) (k:Rc→AH→Bool):Bool :=
 NT.ey prog f fun fn=>jD.casesOn (motive:=fun _=>Bool) fn fun nt results code _=>List.casesOn (motive:=fun _=>Bool) results (uC 0 args .e fun tm =>
  rec (.code code ⟨f,nt,none⟩ ⟨tm,[],rc,h⟩ (SE k))) fun _ _=>false
def Sx (rec:Task→Bool) (ds:List gV) (k:Option Value→AH→Bool) (rc:Rc) (h:AH):Bool:=match rc with
 | .mQ=>rec (.leave ds none h k)
 | .can v=>rec (.leave ds (some v) h k)
 | .off=>false
def Su (rec:Task→Bool) (ds:List gV) (m:Option Value) (h:AH) (k:Option Value→AH→Bool):Bool:=match ds with
 | []=>k m h
 | .qT r::ds=>B4 h r fun t=>iff (!t) (iK h r (some (.defs true)) fun h=>rec (.leave ds m h k))
 | .fn f args::ds=>(match m with
  | none=>rec (.BU f args .off h fun _ h=>rec (.leave ds none h k))
  | some v=>rec (.BU f args (.can v) h (Sx rec ds k)))
def Fc (l:Nat) (h:AH) (k:CR→AH→Bool) (j:Option Code) (st:LoopState) (b:Bool):Bool :=
 pg h l fun r=>iK h l (some (.loop (r.kE st j))) fun h=>k (.ret (.bool b)) h
def KU (l:Nat) (k:CR→AH→Bool) (x:AX) (s:St):Bool:=wB s.df (match x with
 | .normal=>Fc l s.h k none .ready true
 | .ret=>Fc l s.h k (some .ret) .done false
 | .exit id=>Fc l s.h k (some (.exit id)) .done false
 | .aT _=>false)
def SG (rec:Task→Bool) (l:Nat) (r0:mc) (k:CR→AH→Bool) (x:AX) (s:St):Bool:=match x with
 | .normal=>pg s.h l fun r=>iff (isReady r.state) (iK s.h l (some (.loop (r.kE .busy r.eE))) fun h =>
  rec (.code r0.body ⟨r0.fn,r0.nt,some l⟩ ⟨s.tm,s.df,s.rc,h⟩ (KU l k)))
 | _=>false
def aa5 (rec:Task→Bool) (l:Nat) (args:List Value) (h:AH) (k:CR→AH→Bool):Bool :=
 pg h l fun r=>B5 r.params args r.tm fun tm=>rec (.code r.assign ⟨r.fn,r.nt,some l⟩ ⟨tm,[],.off,h⟩ (SG rec l r k))
def stepT (prog:NT jD) (sums:uE) (rec:Task→Bool) (t:Task):Bool:=Task.casesOn (motive:=fun _=>Bool) t
 (Sp rec) (KQ prog sums rec) (aa3 prog rec) (aa5 rec) (Su rec)
def ev (prog:NT jD) (sums:uE) (n:Nat):Task→Bool :=
 Nat.rec (motive:=fun _=>Task→Bool) (fun _=>false) (fun _ ih t=>stepT prog sums ih t) n
theorem alr (prog:NT jD) (sums:uE) (n:Nat) (t:Task):ev prog sums (n+1) t=stepT prog sums (ev prog sums n) t:=rfl
end
end Go.Ve
