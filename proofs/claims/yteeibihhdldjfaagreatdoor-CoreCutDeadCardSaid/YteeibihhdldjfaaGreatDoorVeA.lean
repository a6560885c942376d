/- Part 1: the data: tries, abstract heap, what it is for an abstract value, object, heap to stand for a real one. Over any program; no condition. And more. -/
import Derived.AtR
import Derived.Orders
import Derived.Below
import Derived.Defers
import Derived.RangeFuncRecord
import Derived.RangeFuncIn
set_option linter.unusedVariables false
set_option linter.unusedSimpArgs false
namespace Go.Ve
open Go.RowKit
abbrev zaa:=@Nat.le_of_ble_eq_true
abbrev zab:=@List.getElem?_eq_getElem
abbrev zac:=@decide_eq_true
abbrev zad:=@Nat.le_refl
abbrev zae:=@Bool.and_eq_true
abbrev zaf:=@Option.bind_some
abbrev zag:=@decide_eq_false
abbrev zah:=@List.getElem?_eq_some_iff
abbrev zai:=@List.mem_cons_self
abbrev zaj:=@List.mem_cons_of_mem
abbrev zak:=@cond_false
abbrev zal:=@List.mem_cons
abbrev zam:=@cond_true
abbrev zan:=@congrArg
abbrev zao:=@of_decide_eq_true
abbrev zap:=@decide_eq_true_eq
abbrev zaq:=@Array.getElem?_eq_some_iff
abbrev zar:=@Nat.eq_of_beq_eq_true
abbrev zas:=@Bool.not_true
abbrev zat:=@List.mem_of_getElem?
abbrev zau:=@Int.toNat_natCast
abbrev zav:=@Nat.zero_add
abbrev zaw:=@Option.some.injEq
abbrev zax:=@Nat.lt_succ_self
abbrev zay:=@Nat.le_trans
abbrev zaz:=@Nat.zero_le
abbrev zaA:=@List.flatMap_cons
abbrev zaB:=@List.getElem?_append_right
abbrev zaC:=@List.getElem?_append_left
abbrev zaD:=@Nat.ble_eq
abbrev zaE:=@List.length_cons
abbrev zaF:=@List.getElem?_replicate
abbrev zaG:=@List.length_append
abbrev zaH:=@List.getD_eq_getElem?_getD
abbrev zaI:=@List.all_eq_true
abbrev zaJ:=@List.getElem?_map
abbrev zaK:=@decide_true
abbrev zaL:=@Option.some.inj
abbrev zaM:=@List.mem_map
abbrev zaN:=@List.flatten_cons
abbrev zaO:=@List.mem_append_left
abbrev zaP:=@List.getElem?_cons_zero
abbrev zaQ:=@List.getElem?_cons_succ
abbrev zaR:=@Nat.add_mul
abbrev zaS:=@List.append_nil
abbrev zaT:=@List.mem_append
abbrev zaU:=@List.nil_append
abbrev zaV:=@List.getElem?_of_mem
abbrev zaW:=@List.map_cons
abbrev zaX:=@List.getElem?_set
abbrev zaY:=@Int.eq_ofNat_of_zero_le
abbrev zaZ:=@Bool.not_false
abbrev za0:=@Int.ofNat_eq_natCast
abbrev za1:=@Nat.lt_of_lt_of_le
abbrev za2:=@List.cons_append
abbrev za3:=@List.length_take
abbrev za4:=@Bool.or_eq_false_iff
abbrev za5:=@Nat.le_succ
abbrev za6:=@exists_eq_left'
abbrev za7:=@decide_false
abbrev za8:=@Array.ext'
abbrev za9:=@List.length_replicate
abbrev zba:=@List.getElem?_eq_none
abbrev zbb:=@Array.getD_eq_getD_getElem?
abbrev zbc:=@Bool.not_eq_true'
abbrev zbd:=@Nat.not_lt_zero
abbrev zbe:=@List.eq_nil_of_length_eq_zero
abbrev zbf:=@List.getElem?_range
abbrev zbg:=@beq_iff_eq
abbrev zbh:=@List.nodup_append
abbrev zbi:=@Bool.or_eq_true
abbrev zbj:=@List.mem_singleton
abbrev zbk:=@decide_eq_false_iff_not
abbrev zbl:=@List.getElem_mem
abbrev zbm:=@Nat.mul_le_mul_right
abbrev zbn:=@Nat.beq_refl
abbrev zbo:=@Bool.and_self
abbrev zbp:=@List.mem_filter
abbrev zbq:=@List.mem_append_right
abbrev zbr:=@List.flatMap_nil
abbrev zbs:=@Int.le_refl
abbrev zbt:=@List.mem_range
abbrev zbu:=@List.length_nil
abbrev zbv:=@List.nodup_cons
abbrev zbw:=@Int.toNat_of_nonneg
abbrev zbx:=@Option.map_eq_some_iff
abbrev zby:=@Int.lt_irrefl
abbrev zbz:=@decide_eq_decide
abbrev zbA:=@Array.getElem?_modify
abbrev zbB:=@List.drop_zero
abbrev zbC:=@List.mem_of_mem_take
abbrev zbD:=@Function.comp_def
abbrev zbE:=@Bool.true_and
abbrev zbF:=@Nat.add_sub_cancel_left
abbrev Z:=Value
abbrev ZZD:=List Int
abbrev ZZE:=List Value
inductive Pos where
 | xH
 | xO (p:Pos)
 | xI (p:Pos)
 deriving DecidableEq,Inhabited,Repr
def Pos.un:Pos→Nat | .xH=>0 | .xO p=>2*p.un+1 | .xI p=>2*p.un+2
theorem Pos.B2:∀{p q:Pos},p.un=q.un→p=q
 | .xH,.xH,_=>rfl
 | .xH,.xO q,h=>by simp [Pos.un]at h
 | .xH,.xI q,h=>by simp [Pos.un]at h
 | .xO p,.xH,h=>by simp [Pos.un]at h
 | .xI p,.xH,h=>by simp [Pos.un]at h
 | .xO p,.xO q,h=>by
  have h':2*p.un+1=2*q.un+1:=h;rw [Pos.B2 (show p.un=q.un by omega)]
 | .xI p,.xI q,h=>by
  have h':2*p.un+2=2*q.un+2:=h;rw [Pos.B2 (show p.un=q.un by omega)]
 | .xO p,.xI q,h=>by
  have h':2*p.un+1=2*q.un+2:=h;omega
 | .xI p,.xO q,h=>by
  have h':2*p.un+2=2*q.un+1:=h;omega
def Pos.beq:Pos→Pos→Bool | .xH,.xH=>true | .xO p,.xO q=>p.beq q | .xI p,.xI q=>p.beq q | _,_=>false
theorem Pos.beq_iff:∀{p q:Pos},p.beq q=true↔p=q
 | .xH,.xH=>by simp [Pos.beq]
 | .xO p,.xO q=>by simp [Pos.beq,Pos.beq_iff (p:=p) (q:=q)]
 | .xI p,.xI q=>by simp [Pos.beq,Pos.beq_iff (p:=p) (q:=q)]
 | .xH,.xO _=>by simp [Pos.beq]
 | .xH,.xI _=>by simp [Pos.beq]
 | .xO _,.xH=>by simp [Pos.beq]
 | .xI _,.xH=>by simp [Pos.beq]
 | .xO _,.xI _=>by simp [Pos.beq]
 | .xI _,.xO _=>by simp [Pos.beq]
def Pos.KW:Nat→Nat→Pos | 0,_=>.xH | f+1,n=>if n=0 then .xH else if n % 2=1 then .xO (Pos.KW f (n / 2))else .xI (Pos.KW f (n / 2-1))
def Pos.of (n:Nat):Pos:=Pos.KW n n
theorem Pos.aur : ∀ (f n : Nat), n ≤ f → (Pos.KW f n).un = n := by
  intro f
  induction f with
  | zero => intro n h; have : n = 0 := by omega
            subst this; rfl
  | succ f ih =>
    intro n h
    unfold Pos.KW
    split
    · subst_vars; rfl
    · split
      · simp only [Pos.un]; rw [ih _ (by omega)]; omega
      · simp only [Pos.un]; rw [ih _ (by omega)]; omega
theorem Pos.qU (n:Nat):(Pos.of n).un=n:=Pos.aur n n (zad _)
inductive PT where
 | e
 | n (l:PT) (v:Z) (r:PT)
def PT.get:PT→Pos→Z | .e,_=>undef | .n _ v _,.xH=>v | .n l _ _,.xO p=>l.get p | .n _ _ r,.xI p=>r.get p
noncomputable def PT.fY (p:Pos):PT→(Z→Bool)→Bool:=Pos.rec (motive:=fun _=>PT→(Z→Bool)→Bool) (fun t k=>PT.casesOn (motive:=fun _=>Bool) t (k undef) (fun _ v _=>k v)) (fun _ ih t k=>PT.casesOn (motive:=fun _=>Bool) t (k undef) (fun l _ _=>ih l k)) (fun _ ih t k=>PT.casesOn (motive:=fun _=>Bool) t (k undef) (fun _ _ r=>ih r k)) p
theorem PT.oX:∀(p:Pos) (t:PT) (k:Z→Bool),PT.fY p t k=k (t.get p)
 | .xH,.e,k=>rfl
 | .xH,.n _ _ _,k=>rfl
 | .xO p,.e,k=>rfl
 | .xO p,.n l _ _,k=>PT.oX p l k
 | .xI p,.e,k=>rfl
 | .xI p,.n _ _ r,k=>PT.oX p r k
def PT.set:PT→Pos→Z→PT | .e,.xH,v=>.n .e v .e | .n l _ r,.xH,v=>.n l v r | .e,.xO p,v=>.n (PT.set .e p v) undef .e | .n l u r,.xO p,v=>.n (PT.set l p v) u r | .e,.xI p,v=>.n .e undef (PT.set .e p v) | .n l u r,.xI p,v=>.n l u (PT.set r p v)
noncomputable def PT.lh (p:Pos):PT→Z→(PT→Bool)→Bool:=Pos.rec (motive:=fun _=>PT→Z→(PT→Bool)→Bool) (fun t v k=>PT.casesOn (motive:=fun _=>Bool) t (k (.n .e v .e)) (fun l _ r=>k (.n l v r))) (fun _ ih t v k=>PT.casesOn (motive:=fun _=>Bool) t (ih .e v fun l=>k (.n l undef .e)) (fun l u r=>ih l v fun l'=>k (.n l' u r))) (fun _ ih t v k=>PT.casesOn (motive:=fun _=>Bool) t (ih .e v fun r=>k (.n .e undef r)) (fun l u r=>ih r v fun r'=>k (.n l u r'))) p
theorem PT.rZ:∀(p:Pos) (t:PT) (v:Z) (k:PT→Bool),PT.lh p t v k=k (t.set p v)
 | .xH,.e,v,k=>rfl
 | .xH,.n l _ r,v,k=>rfl
 | .xO p,.e,v,k=>PT.rZ p _ _ _
 | .xO p,.n l u r,v,k=>PT.rZ p _ _ _
 | .xI p,.e,v,k=>PT.rZ p _ _ _
 | .xI p,.n l u r,v,k=>PT.rZ p _ _ _
theorem PT.aiZ (p:Pos):PT.get .e p=undef:=by cases p<;>rfl
theorem PT.fR:∀(p:Pos) (t:PT) (v:Z) (q:Pos),(t.set p v).get q=if q=p then v else t.get q
 | .xH,.e,v,q=>by cases q<;>simp [PT.set,PT.get]
 | .xH,.n l u r,v,q=>by cases q<;>simp [PT.set,PT.get]
 | .xO p,.e,v,q=>by cases q<;>simp [PT.set,PT.get,PT.fR p]
 | .xO p,.n l u r,v,q=>by cases q<;>simp [PT.set,PT.get,PT.fR p]
 | .xI p,.e,v,q=>by cases q<;>simp [PT.set,PT.get,PT.fR p]
 | .xI p,.n l u r,v,q=>by cases q<;>simp [PT.set,PT.get,PT.fR p]
inductive NT (α:Type) where
 | e
 | n (l:NT α) (v:Option α) (r:NT α)
def NT.get {α:Type}:NT α→Nat→Option α | .e,_=>none | .n l v r,i=>bif Nat.beq i 0 then v else bif Nat.beq (Nat.mod i 2) 1 then l.get (Nat.div i 2)else r.get (Nat.pred (Nat.div i 2))
noncomputable def NT.fY {α:Type}(t:NT α):Nat→(α→Bool)→Bool:=NT.rec (motive:=fun _=>Nat→(α→Bool)→Bool) (fun _ _=>false) (fun _ v _ il ir i k=>Nat.rec (motive:=fun _=>Bool) (Option.rec (motive:=fun _=>Bool) false (fun x=>k x) v) (fun _ _=>Bool.rec (motive:=fun _=>Bool) (ir (Nat.pred (Nat.div i 2)) k) (il (Nat.div i 2) k) (Nat.beq (Nat.mod i 2) 1)) i) t
theorem NT.abd {α}(l:NT α)(v:Option α)(r:NT α)(i:Nat)(k:α→Bool):(NT.n l v r).fY i k=
 bif Nat.beq i 0 then(match v with | some x=>k x | none=>false)else bif Nat.beq (Nat.mod i 2) 1 then l.fY (Nat.div i 2) k else r.fY (Nat.pred (Nat.div i 2)) k:=by
 cases i with
 | zero=>cases v<;>rfl
 | succ i=>
  show Bool.rec (motive:=fun _=>Bool) (r.fY (Nat.pred (Nat.div (i+1) 2)) k) (l.fY (Nat.div (i+1) 2) k) (Nat.beq (Nat.mod (i+1) 2) 1)=bif false then _ else _
  cases Nat.beq (Nat.mod (i+1) 2) 1<;>rfl
theorem NT.EO {α}:∀(t:NT α) (i:Nat) (k:α→Bool),t.fY i k=true→∃x,t.get i=some x∧k x=true
 | .e,i,k,h=>by cases h
 | .n l v r,i,k,h=>by
  rw [NT.abd]at h;rw [NT.get];cases h0:Nat.beq i 0 with
  | true=>
   rw [h0]at h;cases v with
   | none=>simp at h
   | some x=>exact⟨x,rfl,by simpa using h⟩
  | false=>
   cases h1:Nat.beq (Nat.mod i 2) 1 with
   | true=>rw [h0,h1]at h;exact NT.EO l _ k (by simpa using h)
   | false=>rw [h0,h1]at h;exact NT.EO r _ k (by simpa using h)
noncomputable def NT.lh {α:Type}(f:Nat):NT α→Nat→Option α→(NT α→Bool)→Bool:=Nat.rec (motive:=fun _=>NT α→Nat→Option α→(NT α→Bool)→Bool) (fun _ _ _ _=>false) (fun _ ih t i v k=>Nat.rec (motive:=fun _=>Bool) (NT.casesOn (motive:=fun _=>Bool) t (k (.n .e v .e)) (fun l _ r=>k (.n l v r))) (fun _ _=>Bool.rec (motive:=fun _=>Bool) (NT.casesOn (motive:=fun _=>Bool) t (ih .e (Nat.pred (Nat.div i 2)) v (fun r=>k (.n .e none r))) (fun l u r=>ih r (Nat.pred (Nat.div i 2)) v (fun r'=>k (.n l u r')))) (NT.casesOn (motive:=fun _=>Bool) t (ih .e (Nat.div i 2) v (fun l=>k (.n l none .e))) (fun l u r=>ih l (Nat.div i 2) v (fun l'=>k (.n l' u r)))) (Nat.beq (Nat.mod i 2) 1)) i) f
theorem NT.B3 {α}(f:Nat)(t:NT α)(i:Nat)(v:Option α)(k:NT α→Bool):NT.lh (f+1) t i v k=
 bif Nat.beq i 0 then
  (match t with | .e=>k (.n .e v .e) | .n l _ r=>k (.n l v r))
 else bif Nat.beq (Nat.mod i 2) 1 then
  (match t with | .e=>NT.lh f .e (Nat.div i 2) v (fun l=>k (.n l none .e)) | .n l u r=>NT.lh f l (Nat.div i 2) v (fun l'=>k (.n l' u r)))
 else
  (match t with | .e=>NT.lh f .e (Nat.pred (Nat.div i 2)) v (fun r=>k (.n .e none r)) | .n l u r=>NT.lh f r (Nat.pred (Nat.div i 2)) v (fun r'=>k (.n l u r'))):=by
 cases i with
 | zero=>cases t<;>rfl
 | succ i=>
  cases h:Nat.beq (Nat.mod (i+1) 2) 1<;>cases t<;>simp only [NT.lh,h]<;>rfl
def NT.mU {α:Type}(t:NT α) (i:Nat) (v:Option α) (t':NT α):Prop:=t'.get i=v∧∀j,j≠i→t'.get j=t.get j
theorem abe {α:Type}{c:Bool}{a b:α}(h:c=true):(bif c then a else b)=a:=by subst h;rfl
theorem Hu {α:Type}{c:Bool}{a b:α}(h:c=false):(bif c then a else b)=b:=by subst h;rfl
theorem qh {a b}(h:a=b):Nat.beq a b=true:=by subst h;exact zbn a
theorem jt {a b}(h:a≠b):Nat.beq a b=false:=by
 cases h':Nat.beq a b with
 | false=>rfl
 | true=>exact absurd (zar h') h
theorem ai0 (j:Nat):Nat.mod (2*j+1) 2=1:=by show(2*j+1) % 2=1;omega
theorem ai1 (j:Nat):Nat.mod (2*j+2) 2≠1:=by show(2*j+2) % 2≠1;omega
theorem ai2 (j:Nat):Nat.div (2*j+1) 2=j:=by show(2*j+1) / 2=j;omega
theorem ai3 (j:Nat):Nat.pred (Nat.div (2*j+2) 2)=j:=by show Nat.pred ((2*j+2) / 2)=j;simp only [Nat.pred_eq_sub_one];omega
theorem NT.vA {α:Type}(l:NT α)(v:Option α)(r:NT α)(j:Nat):(NT.n l v r).get (2*j+1)=l.get j:=by
 rw [NT.get,Hu (jt (by omega)),abe (qh (ai0 j)),ai2]
theorem NT.vB {α:Type}(l:NT α)(v:Option α)(r:NT α)(j:Nat):(NT.n l v r).get (2*j+2)=r.get j:=by
 rw [NT.get,Hu (jt (by omega)),Hu (jt (ai1 j)),ai3]
theorem NT.B4 (i:Nat):i=0∨(∃j,i=2*j+1)∨(∃j,i=2*j+2):=by
 by_cases h:i=0
 · exact .inl h
 · by_cases h2:i % 2=1
   · exact .inr (.inl ⟨i / 2,by omega⟩)
   · exact .inr (.inr ⟨i / 2-1,by omega⟩)
def wW (i:Nat):Nat:=Nat.succ (Nat.log2 (Nat.succ i))
def NT.wX {α:Type}:Nat→NT α→Nat→Option α→NT α | 0,t,_,_=>t | f+1,t,i,v=>bif Nat.beq i 0 then(match t with | .e=>.n .e v .e | .n l _ r=>.n l v r)else bif Nat.beq (Nat.mod i 2) 1 then(match t with | .e=>.n (NT.wX f .e (Nat.div i 2) v) none .e | .n l u r=>.n (NT.wX f l (Nat.div i 2) v) u r)else(match t with | .e=>.n .e none (NT.wX f .e (Nat.pred (Nat.div i 2)) v) | .n l u r=>.n l u (NT.wX f r (Nat.pred (Nat.div i 2)) v))
def NT.set {α:Type}(t:NT α) (i:Nat) (v:Option α):NT α:=NT.wX (wW i) t i v
theorem aus {i}(h:i≠0):Nat.log2 (Nat.succ (Nat.div i 2))<Nat.log2 (Nat.succ i)∨Nat.mod i 2≠1:=by
 by_cases h1:Nat.mod i 2=1
 · left;have h2:i+1≥2:=by omega
   rw [Nat.log2_def (i+1),if_pos h2]
   have:(i+1) / 2=Nat.succ (Nat.div i 2):=by
    show(i+1) / 2=i / 2+1;have ma:i % 2=1:=h1;omega
   rw [this];exact zax _
 · exact .inr h1
theorem aut {i}(h:i≠0)(h1:Nat.mod i 2≠1):Nat.log2 (Nat.succ (Nat.pred (Nat.div i 2)))<Nat.log2 (Nat.succ i):=by
 have h2:i+1≥2:=by omega
 rw [show Nat.succ i=i+1 from rfl,Nat.log2_def (i+1),if_pos h2]
 have:(i+1) / 2=Nat.succ (Nat.pred (Nat.div i 2)):=by
  show(i+1) / 2=Nat.pred (i / 2)+1;have ma:¬i % 2=1:=h1;rw [Nat.pred_eq_sub_one];omega
 rw [this];exact zax _
theorem NT.auu {α}:∀(f:Nat) (t:NT α) (i:Nat) (v:Option α) (k:NT α→Bool),Nat.log2 (Nat.succ i)<f→NT.lh f t i v k=k (NT.wX f t i v):=by
 intro f
 induction f with
 | zero=>intro t i v k h;exact absurd h (zbd _)
 | succ f ih=>
  intro t i v k h;cases h0:Nat.beq i 0 with
  | true=>cases t<;>(rw [NT.B3,NT.wX];simp only [h0,zam])
  | false=>
   have hi:i≠0:=fun e=>by subst e;cases h0
   cases h1:Nat.beq (Nat.mod i 2) 1 with
   | true=>
    have hm:Nat.mod i 2=1:=zar h1
    have hl:Nat.log2 (Nat.succ (Nat.div i 2))<f:=by
     rcases aus hi with h2 | h2
     · omega
     · exact absurd hm h2
    cases t with
    | e=>rw [NT.B3,NT.wX];simp only [h0,h1,zam,zak];exact ih .e _ v _ hl
    | n l u r=>rw [NT.B3,NT.wX];simp only [h0,h1,zam,zak];exact ih l _ v _ hl
   | false=>
    have hm:Nat.mod i 2≠1:=fun e=>by rw [e]at h1;cases h1
    have hl:Nat.log2 (Nat.succ (Nat.pred (Nat.div i 2)))<f:=by have:=aut hi hm;omega
    cases t with
    | e=>rw [NT.B3,NT.wX];simp only [h0,h1,zak];exact ih .e _ v _ hl
    | n l u r=>rw [NT.B3,NT.wX];simp only [h0,h1,zak];exact ih r _ v _ hl
theorem NT.rZ {α}(t:NT α)(i:Nat)(v:Option α)(k:NT α→Bool):NT.lh (wW i) t i v k=k (t.set i v):=NT.auu _ _ _ _ _ (zax _)
theorem NT.SB {α:Type}:∀(f:Nat) (t:NT α) (i:Nat) (v:Option α) (k:NT α→Bool),NT.lh f t i v k=true→∃t',t.mU i v t'∧k t'=true:=by
 intro f
 induction f with
 | zero=>intro t i v k h;cases h
 | succ f ih=>
  intro t i v k h;rcases NT.B4 i with rfl | ⟨j,rfl⟩ | ⟨j,rfl⟩
  · rw [NT.B3]at h;rw [abe (qh rfl)]at h;cases t with
    | e=>
     refine⟨_,⟨rfl,fun q hq=>?_⟩,h⟩;rcases NT.B4 q with rfl | ⟨q,rfl⟩ | ⟨q,rfl⟩
     · exact absurd rfl hq
     · rw [NT.vA];rfl
     · rw [NT.vB];rfl
    | n l u r=>
     refine⟨_,⟨rfl,fun q hq=>?_⟩,h⟩;rcases NT.B4 q with rfl | ⟨q,rfl⟩ | ⟨q,rfl⟩
     · exact absurd rfl hq
     · rw [NT.vA,NT.vA]
     · rw [NT.vB,NT.vB]
  · rw [NT.B3]at h;rw [Hu (jt (by omega)),abe (qh (ai0 j)),ai2]at h;cases t with
    | e=>
     obtain⟨t',⟨h1,h2⟩,h3⟩:=ih _ _ _ _ h;refine⟨_,⟨by rw [NT.vA];exact h1,fun q hq=>?_⟩,h3⟩;rcases NT.B4 q with rfl | ⟨q,rfl⟩ | ⟨q,rfl⟩
     · rfl
     · rw [NT.vA,h2 q (by omega)];rfl
     · rw [NT.vB];rfl
    | n l u r=>
     obtain⟨t',⟨h1,h2⟩,h3⟩:=ih _ _ _ _ h;refine⟨_,⟨by rw [NT.vA];exact h1,fun q hq=>?_⟩,h3⟩;rcases NT.B4 q with rfl | ⟨q,rfl⟩ | ⟨q,rfl⟩
     · rfl
     · rw [NT.vA,h2 q (by omega),NT.vA]
     · rw [NT.vB,NT.vB]
  · rw [NT.B3]at h;rw [Hu (jt (by omega)),Hu (jt (ai1 j)),ai3]at h;cases t with
    | e=>
     obtain⟨t',⟨h1,h2⟩,h3⟩:=ih _ _ _ _ h;refine⟨_,⟨by rw [NT.vB];exact h1,fun q hq=>?_⟩,h3⟩;rcases NT.B4 q with rfl | ⟨q,rfl⟩ | ⟨q,rfl⟩
     · rfl
     · rw [NT.vA];rfl
     · rw [NT.vB,h2 q (by omega)];rfl
    | n l u r=>
     obtain⟨t',⟨h1,h2⟩,h3⟩:=ih _ _ _ _ h;refine⟨_,⟨by rw [NT.vB];exact h1,fun q hq=>?_⟩,h3⟩;rcases NT.B4 q with rfl | ⟨q,rfl⟩ | ⟨q,rfl⟩
     · rfl
     · rw [NT.vA,NT.vA]
     · rw [NT.vB,h2 q (by omega),NT.vB]
theorem NT.ai4 {α}(t:NT α)(i:Nat)(v:Option α):t.mU i v (t.set i v):=by
 classical
 obtain⟨t',h1,h2⟩:=NT.SB (wW i) t i v (fun t'=>decide (t'=t.set i v)) (by rw [NT.rZ];simp);have:t'=t.set i v:=by simpa using h2
 rw [←this];exact h1
theorem NT.fR {α}(t:NT α)(i:Nat)(v:Option α)(j:Nat):(t.set i v).get j=if j=i then v else t.get j:=by
 have h:=NT.ai4 t i v
 by_cases e:j=i
 · rw [if_pos e,e];exact h.1
 · rw [if_neg e];exact h.2 j e
inductive gp where
 | t (p:Pos)
 | c (v:Z)
inductive PX where
 | bad
 | cat
 | auv (op:BinOp)
 | sub (lo hi:Bool)
 | auw
 | auy (ty:TypeId) (zero:ZZE)
 | auz
 | auA (l:List (TypeId×Nat))
 | same
 | ai5 (neg:Bool)
 | auB
 | auC (ty:TypeId)
 | auD
 | auE
 | KN
 | EJ
 | entry
inductive Prim where
 | move
 | pick
 | alloc (ty:TypeId) (zero:ZZE)
 | box (ty:TypeId)
 | build (zero:ZZE) (places:List (Nat×Nat))
 | x8 (EP:List Nat)
 | buildSlice (ty:TypeId) (n:Nat) (cells:ZZE) (places:List (Nat×Nat))
 | aB
 | bZ (n:Nat)
 | store (n:Nat)
 | nilCheck
 | fieldAddr (off:Nat)
 | abf (off:Nat)
 | auF (off n:Nat)
 | cf (sz:Nat)
 | Q1 (len sz:Nat)
 | x9 (len:Nat)
 | X6 (len sz:Nat)
 | ai6
 | slice (sz:Nat) (lo hi mx:Bool)
 | aIW (lo hi:Bool)
 | ai7 (n sz:Nat) (lo hi mx:Bool)
 | aL (op:BinOp)
 | zT (op:BinOp)
 | rT (nk:Nat) (neg:Bool)
 | SC (neg:Bool)
 | Ho (neg:Bool) (ks:List Nat)
 | neg
 | ed
 | conv (k:IntKind)
 | xZ (fn:Fn) (aIX:Nat)
 | YS (ty:TypeId)
 | mkMap
 | mkSlice (ty:TypeId) (sz:Nat) (zero:ZZE)
 | lookup (kc:Nat) (zero:Z) (ok:Bool)
 | ye (kc:Nat)
 | extract (i:Nat)
 | cb
 | Xz
 | Ht
 | auG (n:Nat)
 | append (ty:TypeId) (sz:Nat) (zero:ZZE)
 | copy (sz:Nat)
 | auH
 | auI
 | ai8 (ty:TypeId) (zero:Z)
 | Ks
 | BV
 | x (e:PX)
inductive nH where
 | aU (p:Prim)
 | call (f:FuncId)
 | dyn
 | recover
 | panic
 | defer
structure cB where
 dst:Option Pos
 act:nH
 args:List gp
 guard:Option (Pos×Bool)
inductive nI where
 | op (i:Nat) (o:cB)
 | mz (i:Nat) (o:cB)
inductive fw where
 | skip
 | ops (l:List cB)
 | draw (l:List nI)
 | seq (a b:fw)
 | cond (c:gp) (a b:fw)
 | block (id:Nat) (c:fw)
 | loop (c:fw)
 | tr (f:gp) (params:List Pos) (assign body:fw)
 | exit (id:Nat)
 | ret
inductive qV where
 | tmp (p:Pos)
 | cell (p:Pos) (n:Option Nat)
structure lv where
 ntmps:Nat
 results:List qV
 code:fw
 det:Bool
inductive iS where
 | wY (r:Nat)
 | fn (f:FuncId) (args:ZZE)
structure qi where
 state:LoopState
 gq:Option Code
 fn:FuncId
 tm:PT
 params:List Pos
 assign:fw
 body:fw
 defs:Nat
 nt:Nat
inductive AO where
 | cells (lo hi:Nat) (ty:TypeId) (rw:Bool) (c:NT Z)
 | map (es:List (Z×Z×Nat)) (clock:Nat)
 | loop (l:qi)
 | defs (taken:Bool)
 | kP (s:ByteArray) (pos:Nat)
 | jD (m:Option Nat) (since:Nat) (seen:List Nat) (last:Nat)
structure AH where
 nx:Nat
 ob:NT AO
def bQ:Nat:=1180591620717411303424
inductive Mp where
 | live (b d n:Nat)
 | dead
abbrev aY:=Nat→Option Mp
inductive B5 (φ:aY):Fn→Fn→Prop where
 | func (f:FuncId):B5 φ (.func f) (.func f)
 | method (s:String):B5 φ (.method s) (.method s)
 | yield (l l':Nat) (h:φ l≠none) (hl:∀b d n,φ l=some (.live b d n)→l'=b):B5 φ (.yield l) (.yield l')
def AtR (φ:aY) (a a':Addr):Prop:=∀b d n,φ a.block=some (.live b d n)→a'.block=b∧a'.off+d=a.off∧a'.spot=none
def Ae (φ:aY) (a a':Addr) (len cap eX:Nat):Prop:=(cap<bQ∧eX=cap∧len≤cap∧(0<cap→AtR φ a a'))∨(∃sz,cap=bQ+sz∧0<sz∧len≤eX∧(0<eX→AtR φ a a'∧∀b d n,φ a.block=some (.live b d n)→a'.off+eX*sz≤n))
mutual
inductive VR (φ:aY):Z→Z→Prop where
 | bool (b:Bool):VR φ (.bool b) (.bool b)
 | int (k:IntKind) (n:Int):VR φ (.int k n) (.int k n)
 | str (s:ByteArray):VR φ (.string s) (.string s)
 | SD:VR φ (.pointer none) (.pointer none)
 | ptr (a a':Addr) (h:φ a.block≠none) (ha:AtR φ a a'):VR φ (.pointer (some a)) (.pointer (some a'))
 | qW:VR φ (.slice none 0 0) (.slice none 0 0)
 | sl (a a':Addr) (len cap eX:Nat) (h:φ a.block≠none) (hc:Ae φ a a' len cap eX):VR φ (.slice (some a) len cap) (.slice (some a') len eX)
 | ai9:VR φ (.map none) (.map none)
 | map (r r':Nat) (h:φ r≠none) (hr:∀b d n,φ r=some (.live b d n)→r'=b):VR φ (.map (some r)) (.map (some r'))
 | abg:VR φ .nilFunc .nilFunc
 | func (fn Af:Fn) (first oY dm n9:Array Z) (hf:B5 φ fn Af) (h1:LR φ first.toList oY.toList) (h2:LR φ dm.toList n9.toList):VR φ (.func fn first dm) (.func Af oY n9)
 | Hv:VR φ .nilIface .nilIface
 | iface (t:TypeId) (v v':Z) (h:VR φ v v'):VR φ (.iface t v) (.iface t v')
 | agg (cs ew:Array Z) (h:LR φ cs.toList ew.toList):VR φ (.agg cs) (.agg ew)
 | ko (cs ew:Array Z) (h:LR φ cs.toList ew.toList):VR φ (.tuple cs) (.tuple ew)
inductive LR (φ:aY):ZZE→ZZE→Prop where
 | nil:LR φ [] []
 | cons (v v':Z) (l l':ZZE) (h:VR φ v v') (hl:LR φ l l'):LR φ (v::l) (v'::l')
end
structure Ext (N:Nat) (φ φ':aY):Prop where
 old:∀f m,φ f=some m→φ' f=some m∨φ' f=some .dead
 out:∀f,f<N→φ f=none→φ' f=none
theorem Ext.refl (N:Nat)(φ:aY):Ext N φ φ:=⟨fun _ _ h=>.inl h,fun _ _ h=>h⟩
theorem Ext.trans {N N' φ φ' φ''}(h:Ext N φ φ')(h':Ext N' φ' φ'')(hN:N≤N'):Ext N φ φ'':=by
 refine⟨fun f m hm=>?_,fun f hf hn=>h'.out f (za1 hf hN) (h.out f hf hn)⟩;rcases h.old f m hm with h1 | h1
 · exact h'.old f m h1
 · rcases h'.old f _ h1 with h2 | h2
   · exact .inr h2
   · exact .inr h2
theorem Ext.bt {N φ φ'}(h:Ext N φ φ'){f:Nat}(hf:φ f≠none):φ' f≠none:=by
 cases hm:φ f with
 | none=>exact absurd hm hf
 | some m=>rcases h.old f m hm with h1 | h1<;>simp [h1]
theorem Ext.live {N φ φ'}(h:Ext N φ φ'){f b d n:Nat}(hf:φ f≠none)(hl:φ' f=some (.live b d n)):φ f=some (.live b d n):=by
 cases hm:φ f with
 | none=>exact absurd hm hf
 | some m=>
  rcases h.old f m hm with h1 | h1
  · rw [h1]at hl;exact hl
  · rw [h1]at hl;cases hl
theorem B5.ext {N φ φ'}(h:Ext N φ φ'){f f':Fn}(hf:B5 φ f f'):B5 φ' f f':=by
 cases hf with
 | func f=>exact .func f
 | method s=>exact .method s
 | yield l l' h1 h2=>exact .yield l l' (h.bt h1) (fun b d n hl=>h2 b d n (h.live h1 hl))
theorem AtR.ext {N φ φ'}(h:Ext N φ φ'){a a':Addr}(hs:φ a.block≠none)(ha:AtR φ a a'):AtR φ' a a':=
 fun b d n hl=>ha b d n (h.live hs hl)
theorem Ae.ext {N φ φ'}(h:Ext N φ φ'){a a':Addr}{len cap eX:Nat}(hs:φ a.block≠none)(ha:Ae φ a a' len cap eX):Ae φ' a a' len cap eX:=by
 rcases ha with⟨h1,h2,hl,h3⟩ | ⟨sz,h1,h2,h3,h4⟩
 · exact .inl ⟨h1,h2,hl,fun hp=>(h3 hp).ext h hs⟩
 · exact .inr ⟨sz,h1,h2,h3,fun hp=>⟨(h4 hp).1.ext h hs,fun b d n hl=>(h4 hp).2 b d n (h.live hs hl)⟩⟩
mutual
theorem VR.ext {N φ φ'}(h:Ext N φ φ'){v v':Z}:VR φ v v'→VR φ' v v'
 | .bool b=>.bool b
 | .int k n=>.int k n
 | .str s=>.str s
 | .SD=>.SD
 | .ptr a a' h1 h2=>.ptr a a' (h.bt h1) (h2.ext h h1)
 | .qW=>.qW
 | .sl a a' len cap eX h1 h2=>.sl a a' len cap eX (h.bt h1) (h2.ext h h1)
 | .ai9=>.ai9
 | .map r r' h1 h2=>.map r r' (h.bt h1) (fun b d n hl=>h2 b d n (h.live h1 hl))
 | .abg=>.abg
 | .func fn Af first oY dm n9 hf h1 h2=>.func fn Af first oY dm n9 (hf.ext h) (LR.ext h h1) (LR.ext h h2)
 | .Hv=>.Hv
 | .iface t v v' h1=>.iface t v v' (VR.ext h h1)
 | .agg cs ew h1=>.agg cs ew (LR.ext h h1)
 | .ko cs ew h1=>.ko cs ew (LR.ext h h1)
theorem LR.ext {N φ φ'}(h:Ext N φ φ'){l l':ZZE}:LR φ l l'→LR φ' l l'
 | .nil=>.nil
 | .cons v v' l l' h1 h2=>.cons v v' l l' (VR.ext h h1) (LR.ext h h2)
end
theorem VR.undef (φ:aY):VR φ undef undef:=.ko #[] #[] .nil
theorem LR.length {φ}:∀{l l':ZZE},LR φ l l'→l.length=l'.length
 | _,_,.nil=>rfl
 | _,_,.cons _ _ _ _ _ h=>by simp [LR.length h]
theorem LR.append {φ m m'}(hm:LR φ m m'):∀{l l':ZZE},LR φ l l'→LR φ (l++m) (l'++m')
 | _,_,.nil=>hm
 | _,_,.cons v v' l l' h hl=>.cons v v' _ _ h (LR.append hm hl)
theorem LR.get {φ}:∀{l l':ZZE},LR φ l l'→∀(i:Nat) (v:Z),l[i]? =some v→∃v',l'[i]? =some v'∧VR φ v v'
 | _,_,.nil,i,v,h=>by simp at h
 | _,_,.cons a a' l l' h hl,0,v,e=>by simp at e;subst e;exact⟨a',by simp,h⟩
 | _,_,.cons a a' l l' h hl,i+1,v,e=>by
  simp at e;obtain⟨v',h1,h2⟩:=LR.get hl i v e;exact⟨v',by simpa using h1,h2⟩
theorem LR.abh {φ}:∀{l l':ZZE},l.length=l'.length→(∀(i:Nat) (v v':Z),l[i]? =some v→l'[i]? =some v'→VR φ v v')→LR φ l l'
 | [],[],_,_=>.nil
 | a::l,a'::l',hl,h=>.cons a a' l l' (h 0 a a' (by simp) (by simp)) (LR.abh (by simpa using hl) (fun i v v' e e'=>h (i+1) v v' (by simpa using e) (by simpa using e')))
 | [],_::_,hl,_=>by simp at hl
 | _::_,[],hl,_=>by simp at hl
theorem LR.drop {φ}:∀(n:Nat){l l':ZZE},LR φ l l'→LR φ (l.drop n) (l'.drop n)
 | 0,_,_,h=>by simpa using h
 | n+1,_,_,.nil=>by simpa using LR.nil
 | n+1,_,_,.cons _ _ _ _ _ h=>by simpa using LR.drop n h
theorem LR.take {φ}:∀(n:Nat){l l':ZZE},LR φ l l'→LR φ (l.take n) (l'.take n)
 | 0,_,_,_=>by simpa using LR.nil
 | n+1,_,_,.nil=>by simpa using LR.nil
 | n+1,_,_,.cons _ _ _ _ h hl=>by simpa using LR.cons _ _ _ _ h (LR.take n hl)
theorem VR.cells {φ v v'}(h:VR φ v v'):LR φ v.cells.toList v'.cells.toList:=by
 cases h<;>simp only [Value.cells]<;>first
  | assumption
  | exact .cons _ _ _ _ (by constructor<;>assumption) .nil
def TR (φ:aY) (t:PT) (n:Nat) (tm:Array Z):Prop:=n≤tm.size∧∀p:Pos,VR φ (t.get p) (tm.getD p.un undef)
def DR (φ:aY):iS→Deferred→Prop | .wY r,d=>φ r≠none∧∃r',d={target:=.collected r',args:= #[]}∧∀b d n,φ r=some (.live b d n)→r'=b | .fn f args,d=>∃dm args',d={target:=.fn (.func f) dm,args:=args'}∧LR φ args (args'++dm).toList
inductive DL (φ:aY):List iS→List Deferred→Prop where
 | nil:DL φ [] []
 | cons (d:iS) (d':Deferred) (l:List iS) (l':List Deferred) (h:DR φ d d') (hl:DL φ l l'):DL φ (d::l) (d'::l')
theorem DR.ext {N φ φ'}(h:Ext N φ φ'){d:iS}{d':Deferred}(hd:DR φ d d'):DR φ' d d':=by
 cases d with
 | wY r=>
  obtain⟨h1,r',e,h2⟩:=hd;exact⟨h.bt h1,r',e,fun b d n hl=>h2 b d n (h.live h1 hl)⟩
 | fn f args=>
  obtain⟨dm,args',e,h1⟩:=hd;exact⟨dm,args',e,LR.ext h h1⟩
theorem DL.ext {N φ φ'}(h:Ext N φ φ'):∀{l:List iS}{l':List Deferred},DL φ l l'→DL φ' l l'
 | _,_,.nil=>.nil
 | _,_,.cons d d' l l' h1 h2=>.cons d d' l l' (h1.ext h) (DL.ext h h2)
theorem TR.ext {N φ φ'}(h:Ext N φ φ'){t:PT}{n:Nat}{tm:Array Z}(ht:TR φ t n tm):TR φ' t n tm:=
 ⟨ht.1,fun p=>VR.ext h (ht.2 p)⟩
theorem TR.set {φ:aY}{t:PT}{n:Nat}{tm:Array Z}(ht:TR φ t n tm)(p:Pos)(hp:p.un<n){v v':Z}(hv:VR φ v v'):
 TR φ (t.set p v) n (tm.setIfInBounds p.un v'):=by
 refine⟨by simp [ht.1],fun q=>?_⟩;rw [PT.fR]
 by_cases h:q=p
 · subst h;rw [if_pos rfl];have:q.un<tm.size:=za1 hp ht.1;simpa [Array.getD,this]using hv
 · rw [if_neg h];have eM:p.un≠q.un:=fun e=>h (Pos.B2 e).symm
   have:=ht.2 q;simpa [zbb,Array.getElem?_setIfInBounds_ne eM]using this
end Go.Ve
namespace Go.Ve
noncomputable section
abbrev KV:=Z→AH→Bool
def fN (n:Nat) (k:Nat→Bool):Bool:=Nat.casesOn (motive:=fun _=>Bool) n (k 0) (fun m=>k (.succ m))
def fI (n:Int) (k:Int→Bool):Bool:=Int.casesOn (motive:=fun _=>Bool) n (fun a=>fN a fun a=>k (.ofNat a)) (fun a=>fN a fun a=>k (.negSucc a))
def fB (b:Bool) (k:Bool→Bool):Bool:=Bool.casesOn (motive:=fun _=>Bool) b (k false) (k true)
theorem dG (n:Nat)(k:Nat→Bool):fN n k=k n:=by cases n<;>rfl
theorem tA (n:Int)(k:Int→Bool):fI n k=k n:=by cases n<;>simp [fI,dG]
theorem lA (b:Bool)(k:Bool→Bool):fB b k=k b:=by cases b<;>rfl
def iff (c:Bool) (k:Bool):Bool:=Bool.casesOn (motive:=fun _=>Bool) c false k
theorem iff_eq (c k:Bool):iff c k=true↔c=true∧k=true:=by cases c<;>simp [iff]
def qp:Int→Int→Bool | .ofNat a,.ofNat b=>Nat.beq a b | .negSucc a,.negSucc b=>Nat.beq a b | _,_=>false
def tB:Int→Int→Bool | .ofNat a,.ofNat b=>Nat.ble (.succ a) b | .negSucc a,.negSucc b=>Nat.ble (.succ b) a | .negSucc _,.ofNat _=>true | .ofNat _,.negSucc _=>false
def jE:IntKind→IntKind→Bool | .i8,.i8=>true | .i16,.i16=>true | .i32,.i32=>true | .i64,.i64=>true | .u8,.u8=>true | .u16,.u16=>true | .u32,.u32=>true | .u64,.u64=>true | _,_=>false
def Ax:Nat:=9223372036854775807
def bN (k:IntKind) (n:Int):Int:=match k with | .i64=>(match n with | .ofNat a=>bif Nat.ble a Ax then n else IntKind.i64.wrap n | .negSucc a=>bif Nat.ble a Ax then n else IntKind.i64.wrap n) | k=>k.wrap n
def aj4 (k:IntKind) (x y:Int) (c:Z→Bool):Bool:=fI (bN k (Int.add x y)) fun n=>c (.int k n)
def aj5 (k:IntKind) (x y:Int) (c:Z→Bool):Bool:=fI (bN k (Int.sub x y)) fun n=>c (.int k n)
def aj6 (k:IntKind) (x y:Int) (c:Z→Bool):Bool:=fI (bN k (Int.mul x y)) fun n=>c (.int k n)
def aj7 (k:IntKind) (x y:Int) (c:Z→Bool):Bool:=bif qp y (.ofNat 0)then false else fI (bN k (Int.tdiv x y)) fun n=>c (.int k n)
def aj8 (k:IntKind) (x y:Int) (c:Z→Bool):Bool:=bif qp y (.ofNat 0)then false else fI (Int.tmod x y) fun n=>c (.int k n)
def aj9 (_:IntKind) (x y:Int) (c:Z→Bool):Bool:=fB (qp x y) fun b=>c (.bool b)
def aka (_:IntKind) (x y:Int) (c:Z→Bool):Bool:=fB (!qp x y) fun b=>c (.bool b)
def akb (_:IntKind) (x y:Int) (c:Z→Bool):Bool:=fB (tB x y) fun b=>c (.bool b)
def akc (_:IntKind) (x y:Int) (c:Z→Bool):Bool:=fB (!tB y x) fun b=>c (.bool b)
def akd (_:IntKind) (x y:Int) (c:Z→Bool):Bool:=fB (tB y x) fun b=>c (.bool b)
def ake (_:IntKind) (x y:Int) (c:Z→Bool):Bool:=fB (!tB x y) fun b=>c (.bool b)
def akf (k:IntKind) (x y:Int) (c:Z→Bool):Bool:=match k,x,y with | .u64,.ofNat a,.ofNat b=>bif Nat.ble a 18446744073709551615&&Nat.ble b 18446744073709551615 then fN (Nat.land a b) fun n=>c (.int .u64 (.ofNat n))else false | _,_,_=>false
def akg (_:IntKind) (_ _:Int) (_:Z→Bool):Bool:=false
def abW (op:BinOp):IntKind→Int→Int→(Z→Bool)→Bool:=match op with | .add=>aj4 | .sub=>aj5 | .mul=>aj6 | .quo=>aj7 | .rem=>aj8 | .eql=>aj9 | .neq=>aka | .lss=>akb | .leq=>akc | .gtr=>akd | .geq=>ake | .and=>akf | _=>akg
def abX (k:IntKind) (x y:Int) (c:Z→Bool):Bool:=match k,x,y with | .u64,.ofNat a,.ofNat b=>bif Nat.ble b 64 then fN (Nat.shiftRight a b) fun n=>c (.int .u64 (.ofNat n))else false | _,_,_=>false
def nN:List UInt8→List UInt8→Bool | [],[]=>true | a::l,b::m=>bif Nat.beq a.toNat b.toNat then nN l m else false | _,_=>false
def a0 (vs:ZZE) (k:Bool):Bool:=List.casesOn (motive:=fun _=>Bool) vs k (fun _ _=>false)
def a1 (vs:ZZE) (k:Z→Bool):Bool:=List.casesOn (motive:=fun _=>Bool) vs false (fun x vs=>a0 vs (k x))
def a2 (vs:ZZE) (k:Z→Z→Bool):Bool:=List.casesOn (motive:=fun _=>Bool) vs false (fun x vs=>a1 vs (k x))
def a3 (vs:ZZE) (k:Z→Z→Z→Bool):Bool:=List.casesOn (motive:=fun _=>Bool) vs false (fun x vs=>a2 vs (k x))
def vT (l:ZZE):Nat→(Z→Bool)→Bool:=List.rec (motive:=fun _=>Nat→(Z→Bool)→Bool) (fun _ _=>false) (fun x _ ih n k=>Nat.casesOn (motive:=fun _=>Bool) n (k x) (fun n=>ih n k)) l
def yy (l:ZZE):Nat→(ZZE→Bool)→Bool:=List.rec (motive:=fun _=>Nat→(ZZE→Bool)→Bool) (fun n k=>Nat.casesOn (motive:=fun _=>Bool) n (k []) (fun _=>false)) (fun x _ ih n k=>Nat.casesOn (motive:=fun _=>Bool) n (k []) (fun n=>ih n fun l'=>k (x::l'))) l
def yz (l:ZZE):Nat→(ZZE→Bool)→Bool:=List.rec (motive:=fun _=>Nat→(ZZE→Bool)→Bool) (fun n k=>Nat.casesOn (motive:=fun _=>Bool) n (k []) (fun _=>false)) (fun x l ih n k=>Nat.casesOn (motive:=fun _=>Bool) n (k (x::l)) (fun n=>ih n k)) l
def re (l:ZZE):ZZE→(ZZE→Bool)→Bool:=List.rec (motive:=fun _=>ZZE→(ZZE→Bool)→Bool) (fun vs k=>List.casesOn (motive:=fun _=>Bool) vs (k []) (fun _ _=>false)) (fun x l ih vs k=>List.casesOn (motive:=fun _=>Bool) vs (k (x::l)) (fun v vs=>ih vs fun l'=>k (v::l'))) l
def vG (l:ZZE):Nat→ZZE→(ZZE→Bool)→Bool:=List.rec (motive:=fun _=>Nat→ZZE→(ZZE→Bool)→Bool) (fun n vs k=>Nat.casesOn (motive:=fun _=>Bool) n (re [] vs k) (fun _=>false)) (fun x l ih n vs k=>Nat.casesOn (motive:=fun _=>Bool) n (re (x::l) vs k) (fun n=>ih n vs fun l'=>k (x::l'))) l
def mA (l:ZZE):Nat→Bool:=List.rec (motive:=fun _=>Nat→Bool) (fun n=>Nat.casesOn (motive:=fun _=>Bool) n true (fun _=>false)) (fun _ _ ih n=>Nat.casesOn (motive:=fun _=>Bool) n false (fun n=>ih n)) l
def cellsOf (v:Z):ZZE:=match v with | .agg ⟨l⟩=>l | v=>[v]
def nL (l:ZZE) (ps:List (Nat×Nat)):ZZE→(ZZE→Bool)→Bool:=List.rec (motive:=fun _=>ZZE→ZZE→(ZZE→Bool)→Bool) (fun l vs k=>List.casesOn (motive:=fun _=>Bool) vs (k l) (fun _ _=>false)) (fun p _ ih l vs k=>List.casesOn (motive:=fun _=>Bool) vs false (fun v vs=>Prod.casesOn (motive:=fun _=>Bool) p fun off sz=>bif mA (cellsOf v) sz then vG l off (cellsOf v) fun l'=>ih l' vs k else false)) ps l
def iA:Z→Bool | .agg _=>false | .tuple _=>false | _=>true
def fi (l:ZZE):Bool:=List.rec (motive:=fun _=>Bool) true (fun v _ ih=>bif iA v then ih else false) l
def mc (l:ZZE) (m:ZZE):(ZZE→Bool)→Bool:=List.rec (motive:=fun _=>(ZZE→Bool)→Bool) (fun k=>k m) (fun x _ ih k=>ih fun l'=>k (x::l')) l
def Fc (c:NT Z) (i:Nat) (l:ZZE):(NT Z→Bool)→Bool:=List.rec (motive:=fun _=>NT Z→Nat→(NT Z→Bool)→Bool) (fun c _ k=>k c) (fun v _ ih c i k=>NT.lh (wW i) c i (some v) fun c'=>fN (Nat.succ i) fun i'=>ih c' i' k) l c i
def vU (c:NT Z) (i:Nat) (n:Nat):(ZZE→Bool)→Bool:=Nat.rec (motive:=fun _=>Nat→(ZZE→Bool)→Bool) (fun _ k=>k []) (fun _ ih i k=>NT.fY c i fun v=>fN (Nat.succ i) fun i'=>ih i' fun l=>k (v::l)) n i
def uU (h:AH) (b:Nat) (k:AO→Bool):Bool:=AH.casesOn (motive:=fun _=>Bool) h fun _ ob=>NT.fY ob b k
def kQ (h:AH) (b:Nat) (o:Option AO) (k:AH→Bool):Bool:=AH.casesOn (motive:=fun _=>Bool) h fun nx ob=>NT.lh (wW b) ob b o fun bU=>k ⟨nx,bU⟩
def qs (h:AH) (o:AO) (k:Nat→AH→Bool):Bool:=AH.casesOn (motive:=fun _=>Bool) h fun nx ob=>NT.lh (wW nx) ob nx (some o) fun bU=>fN (Nat.succ nx) fun yA=>k nx ⟨yA,bU⟩
def pM (h:AH) (ty:TypeId) (l:ZZE) (k:Nat→AH→Bool):Bool:=iff (fi l) (Fc .e 0 l fun c=>fN l.length fun n=>qs h (.cells 0 n ty true c) k)
def rf (h:AH) (b:Nat) (k:Nat→Nat→TypeId→Bool→NT Z→Bool):Bool:=uU h b fun o=>AO.casesOn (motive:=fun _=>Bool) o k (fun _ _=>false) (fun _=>false) (fun _=>false) (fun _ _=>false) (fun _ _ _ _=>false)
def o4 (h:AH) (b:Nat) (k:List (Z×Z×Nat)→Nat→Bool):Bool:=uU h b fun o=>AO.casesOn (motive:=fun _=>Bool) o (fun _ _ _ _ _=>false) k (fun _=>false) (fun _=>false) (fun _ _=>false) (fun _ _ _ _=>false)
def uT (h:AH) (b:Nat) (k:qi→Bool):Bool:=uU h b fun o=>AO.casesOn (motive:=fun _=>Bool) o (fun _ _ _ _ _=>false) (fun _ _=>false) k (fun _=>false) (fun _ _=>false) (fun _ _ _ _=>false)
def HV (h:AH) (b:Nat) (k:Bool→Bool):Bool:=uU h b fun o=>AO.casesOn (motive:=fun _=>Bool) o (fun _ _ _ _ _=>false) (fun _ _=>false) (fun _=>false) k (fun _ _=>false) (fun _ _ _ _=>false)
def Ti (h:AH) (b:Nat) (k:ByteArray→Nat→Bool):Bool:=uU h b fun o=>AO.casesOn (motive:=fun _=>Bool) o (fun _ _ _ _ _=>false) (fun _ _=>false) (fun _=>false) (fun _=>false) k (fun _ _ _ _=>false)
def Co (h:AH) (b:Nat) (k:Option Nat→Nat→List Nat→Nat→Bool):Bool:=uU h b fun o=>AO.casesOn (motive:=fun _=>Bool) o (fun _ _ _ _ _=>false) (fun _ _=>false) (fun _=>false) (fun _=>false) (fun _ _=>false) k
def pL (h:AH) (b off n:Nat) (k:ZZE→Bool):Bool:=rf h b fun lo hi _ _ c=>iff (Nat.ble lo off&&Nat.ble (Nat.add off n) hi) (vU c off n k)
def yw (h:AH) (b off:Nat) (k:Z→Bool):Bool:=rf h b fun lo hi _ _ c=>iff (Nat.ble lo off&&Nat.ble (Nat.succ off) hi) (NT.fY c off k)
def xd (h:AH) (b off:Nat) (l:ZZE) (k:AH→Bool):Bool:=rf h b fun lo hi ty rw c=>iff (rw&&Nat.ble lo off&&Nat.ble (Nat.add off l.length) hi&&fi l) (Fc c off l fun c'=>kQ h b (some (.cells lo hi ty rw c')) k)
def tC {α:Type}:α→Bool:=fun _=>false
def mB (v:Z) (k:Nat→Nat→Bool):Bool:=match v with | .pointer (some a)=>Addr.casesOn (motive:=fun _=>Bool) a fun b o _=>k b o | _=>false
def Ay (v:Z) (k:ZZE→Bool):Bool:=match v with | .agg a=>Array.casesOn (motive:=fun _=>Bool) a k | _=>false
def Tj (v:Z) (k:ZZE→Bool):Bool:=match v with | .tuple a=>Array.casesOn (motive:=fun _=>Bool) a k | _=>false
def Az (v:Z) (k:Bool→Bool):Bool:=match v with | .bool b=>k b | _=>false
def pN (v:Z) (k:IntKind→Int→Bool):Bool:=match v with | .int kd n=>k kd n | _=>false
def mX (v:Z) (k:ByteArray→Bool):Bool:=match v with | .string s=>k s | _=>false
def pO (v:Z) (kn:Bool) (k:Nat→Nat→Nat→Nat→Bool):Bool:=match v with | .slice none _ _=>kn | .slice (some a) l c=>Addr.casesOn (motive:=fun _=>Bool) a fun b o _=>k b o l c | _=>false
def Fe (v:Z) (kn:Bool) (k:Nat→Bool):Bool:=match v with | .map none=>kn | .map (some r)=>k r | _=>false
def ak (b o:Nat):Z:=.pointer (some ⟨b,o,none⟩)
def vV (v:Z) (k:Nat→Bool):Bool:=pN v fun _ n=>Int.casesOn (motive:=fun _=>Bool) n k tC
def vW (b:Bool) (vs:ZZE) (d:Nat) (k:Nat→ZZE→Bool):Bool:=Bool.casesOn (motive:=fun _=>Bool) b (k d vs) (List.casesOn (motive:=fun _=>Bool) vs false fun v vs=>vV v fun n=>k n vs)
def lP:Nat→Z→Option Bool | 0,.pointer none=>some true | 0,.pointer (some _)=>some false | 1,.slice none _ _=>some true | 1,.slice (some _) _ _=>some false | 2,.map none=>some true | 2,.map (some _)=>some false | 3,.nilFunc=>some true | 3,.func _ _ _=>some false | 4,.nilIface=>some true | 4,.iface _ _=>some false | _,_=>none
def qk:Nat→Z→Z→Option Bool | 0,.int k a,.int l b=>bif jE k l then some (qp a b)else none | 1,.bool a,.bool b=>some (bif a then b else !b) | 2,.string a,.string b=>some (nN a.data.toList b.data.toList) | _,_,_=>none
def o5:List Nat→List Value→List Value→Option Bool
 | [],[],[]=>some true
 | kc::ks,a::l,b::m=>match qk kc a b with
  | some true=>o5 ks l m
  | some false=>some false
  | none=>none
 | _,_,_=>none
def yB (o:Option Bool) (ng:Bool) (k:Z→Bool):Bool:=match o with | some b=>fB (bif ng then !b else b) fun b=>k (.bool b) | none=>false
def AA (sz l h m cap:Nat) (abY:Bool) (b o:Nat) (k:Z→Bool):Bool:=fN (Nat.sub h l) fun n=>bif Nat.ble bQ cap&& !abY then fN (Nat.add o (Nat.mul l sz)) fun o'=>k (.slice (some ⟨b,o',none⟩) n cap)else iff (Nat.ble (Nat.succ m) bQ) (bif Nat.beq m l then k (.slice (some ⟨b,o,none⟩) n 0)else fN (Nat.add o (Nat.mul l sz)) fun o'=>fN (Nat.sub m l) fun c=>k (.slice (some ⟨b,o',none⟩) n c))
def ET (kc:Nat):List (Z×Z×Nat)→Z→(Option Z→Bool)→Bool | [],_,k=>k none | (a,v,_)::es,x,k=>match qk kc x a with | some true=>k (some v) | some false=>ET kc es x k | none=>false
def vF (kc:Nat):List (Z×Z×Nat)→Z→Z→Nat→(List (Z×Z×Nat)→Nat→Bool)→Bool | [],x,y,cl,k=>fN (Nat.succ cl) fun nO=>k [(x,y,cl)] nO | (a,v,b)::es,x,y,cl,k=>match qk kc x a with | some true=>k ((x,y,b)::es) cl | some false=>vF kc es x y cl fun eJ nO=>k ((a,v,b)::eJ) nO | none=>false
def K3:Nat→Z→Bool | 0,.int _ _=>true | 1,.bool _=>true | 2,.string _=>true | _,_=>false
def Hx (n:Nat) (zero:ZZE) (k:ZZE→Bool):Bool:=Nat.rec (motive:=fun _=>(ZZE→Bool)→Bool) (fun k=>k []) (fun _ ih k=>ih fun l=>mc zero l k) n k
def LG (vs:ZZE):Bool:=List.casesOn (motive:=fun _=>Bool) vs true (fun _ _=>false)
def rh (h:AH) (sz:Nat) (x:Z) (k:Nat→ZZE→Bool):Bool:=pO x (k 0 []) fun b o n _=>bif Nat.beq n 0 then k 0 []else pL h b o (Nat.mul n sz) fun l=>k n l
def EX (ss:List Nat) (vs:ZZE):(ZZE→Bool)→Bool:=List.rec (motive:=fun _=>ZZE→(ZZE→Bool)→Bool) (fun vs k=>a0 vs (k [])) (fun n _ ih vs k=>List.casesOn (motive:=fun _=>Bool) vs false fun v vs=>iff (mA (cellsOf v) n) (ih vs fun l=>mc (cellsOf v) l k)) ss vs
def LH:Z→Bool | .pointer none=>false | .nilIface=>false | .nilFunc=>false | .func (.method _) _ _=>false | _=>true
def abZ (op:BinOp) (kx:IntKind) (a:Int) (ky:IntKind) (b:Int) (k:Z→Bool):Bool:=match op with | .shl=>false | .shr=>abX kx a b k | op=>iff (jE kx ky) (abW op kx a b k)
def ab0 (op:BinOp) (a b:ByteArray) (k:Z→Bool):Bool:=match op with | .eql=>fB (nN a.data.toList b.data.toList) fun b=>k (.bool b) | .neq=>fB (!nN a.data.toList b.data.toList) fun b=>k (.bool b) | _=>false
def HX (x y:Option Bool) (ng:Bool) (k:Z→Bool):Bool:=match x,y with | some true,some b=>yB (some b) ng k | some b,some true=>yB (some b) ng k | _,_=>false
def SF (zero:Z) (ok:Bool) (h:AH) (k:KV) (o:Option Z):Bool:=match o,ok with | none,true=>k (.tuple ⟨[zero,.bool false]⟩) h | none,false=>k zero h | some v,true=>k (.tuple ⟨[v,.bool true]⟩) h | some v,false=>k v h
def HY (h:AH) (ty:TypeId) (sz n:Nat) (xs:ZZE) (k:KV):Bool:=bif Nat.beq n 0 then k (.slice none 0 0) h else iff (Nat.ble n 1048576) (pM h ty xs fun b h=>fN (Nat.add bQ sz) fun cp=>k (.slice (some ⟨b,0,none⟩) n cp) h)
def Tk (h:AH) (ty:TypeId) (sz:Nat) (xs:ZZE) (b o len cap mh:Nat) (k:KV):Bool:=iff (Nat.beq cap (Nat.add bQ sz)) (rf h b fun lo hi dY rw c=>iff (rw&&Nat.beq dY ty&&Nat.ble lo o&&Nat.ble (Nat.add o (Nat.mul len sz)) hi&&fi xs) (kQ h b none fun h=>fN (Nat.add o (Nat.mul len sz)) fun at_=>Fc c at_ xs fun c'=>fN (Nat.add o (Nat.mul mh sz)) fun fx=>qs h (.cells o fx ty true c') fun b' h=>k (.slice (some ⟨b',o,none⟩) mh cap) h))
def HZ (h:AH) (ty:TypeId) (sz n:Nat) (xs:ZZE) (k:KV) (b o len cap:Nat):Bool:=bif Nat.beq n 0 then k (.slice (some ⟨b,o,none⟩) len cap) h else fN (Nat.add len n) fun mh=>iff (Nat.ble mh 1048576) (bif Nat.ble bQ cap then Tk h ty sz xs b o len cap mh k else bif Nat.ble mh cap then fN (Nat.add o (Nat.mul len sz)) fun at_=>xd h b at_ xs fun h=>k (.slice (some ⟨b,o,none⟩) mh cap) h else bif Nat.beq len 0 then pM h ty xs fun b' h=>fN (Nat.add bQ sz) fun cp=>k (.slice (some ⟨b',0,none⟩) mh cp) h else pL h b o (Nat.mul len sz) fun old=>mc old xs fun l=>pM h ty l fun b' h=>fN (Nat.add bQ sz) fun cp=>k (.slice (some ⟨b',0,none⟩) mh cp) h)
def abq (ty:TypeId) (zero:Z) (x:Z) (k:Z→Bool):Bool:=match x with | .nilIface=>k (.tuple ⟨[zero,.bool false]⟩) | .iface t v=>bif Nat.beq t ty then k (.tuple ⟨[v,.bool true]⟩)else k (.tuple ⟨[zero,.bool false]⟩) | _=>false
def EW (h:AH) (b:Nat) (k:KV) (s:ByteArray) (pos:Nat):Bool:=match s.data.toList[pos]? with | some c=>bif Nat.ble (Nat.succ c.toNat) 128 then(fN (Nat.succ pos) fun pos'=>kQ h b (some (.kP s pos')) fun h=>fN c.toNat fun n=>k (.tuple ⟨[.bool true,.int .i64 (.ofNat pos),.int .i32 (.ofNat n)]⟩) h)else kQ h b (some (.kP s (pos+(Utf8.decode s pos).2))) fun h=>k (.tuple ⟨[.bool true,.int .i64 (.ofNat pos),.int .i32 (.ofNat (Utf8.decode s pos).1)]⟩) h | none=>k (.tuple ⟨[.bool false]⟩) h
def ab1 (vs:ZZE) (h:AH) (k:KV):Bool:=a1 vs fun x=>k x h
def ab2 (vs:ZZE) (h:AH) (k:KV):Bool:=a3 vs fun c a b=>Az c fun t=>Bool.casesOn (motive:=fun _=>Bool) t (k b h) (k a h)
def akh (ty:TypeId) (zero:ZZE) (vs:ZZE) (h:AH) (k:KV):Bool:=a0 vs (pM h ty zero fun b h=>k (ak b 0) h)
def aki (ty:TypeId) (vs:ZZE) (h:AH) (k:KV):Bool:=a1 vs fun v=>pM h ty (cellsOf v) fun b h=>k (ak b 0) h
def akj (zero:ZZE) (places:List (Nat×Nat)) (vs:ZZE) (h:AH) (k:KV):Bool:=nL zero places vs fun l=>k (.agg ⟨l⟩) h
def akk (EP:List Nat) (vs:ZZE) (h:AH) (k:KV):Bool:=EX EP vs fun l=>k (.agg ⟨l⟩) h
def aju (ty:TypeId) (n:Nat) (cells:ZZE) (places:List (Nat×Nat)) (vs:ZZE) (h:AH) (k:KV):Bool:=nL cells places vs fun l=>pM h ty l fun b h=>k (.slice (some ⟨b,0,none⟩) n n) h
def ab3 (vs:ZZE) (h:AH) (k:KV):Bool:=a1 vs fun p=>mB p fun b o=>yw h b o fun v=>k v h
def ab4 (n:Nat) (vs:ZZE) (h:AH) (k:KV):Bool:=a1 vs fun p=>mB p fun b o=>pL h b o n fun l=>k (.agg ⟨l⟩) h
def akl (n:Nat) (vs:ZZE) (h:AH) (k:KV):Bool:=a2 vs fun p v=>mB p fun b o=>iff (mA (cellsOf v) n) (xd h b o (cellsOf v) fun h=>k undef h)
def ab5 (vs:ZZE) (h:AH) (k:KV):Bool:=a1 vs fun x=>iff (LH x) (k x h)
def ab6 (off:Nat) (vs:ZZE) (h:AH) (k:KV):Bool:=a1 vs fun p=>mB p fun b o=>fN (Nat.add o off) fun o'=>k (ak b o') h
def ab7 (off:Nat) (vs:ZZE) (h:AH) (k:KV):Bool:=a1 vs fun x=>Ay x fun l=>vT l off fun v=>k v h
def ab8 (off n:Nat) (vs:ZZE) (h:AH) (k:KV):Bool:=a1 vs fun x=>Ay x fun l=>yz l off fun l=>yy l n fun l=>k (.agg ⟨l⟩) h
def ab9 (sz:Nat) (vs:ZZE) (h:AH) (k:KV):Bool:=a2 vs fun x i=>vV i fun i=>pO x false fun b o len _=>iff (Nat.ble (Nat.succ i) len) (fN (Nat.add o (Nat.mul i sz)) fun o'=>k (ak b o') h)
def aca (len sz:Nat) (vs:ZZE) (h:AH) (k:KV):Bool:=a2 vs fun x i=>vV i fun i=>mB x fun b o=>iff (Nat.ble (Nat.succ i) len) (fN (Nat.add o (Nat.mul i sz)) fun o'=>k (ak b o') h)
def acb (len:Nat) (vs:ZZE) (h:AH) (k:KV):Bool:=a2 vs fun x i=>vV i fun i=>Ay x fun l=>iff (Nat.ble (Nat.succ i) len) (vT l i fun v=>k v h)
def acd (len sz:Nat) (vs:ZZE) (h:AH) (k:KV):Bool:=a2 vs fun x i=>vV i fun i=>Ay x fun l=>iff (Nat.ble (Nat.succ i) len) (yz l (Nat.mul i sz) fun l=>yy l sz fun l=>k (.agg ⟨l⟩) h)
def Tl (vs:ZZE) (h:AH) (k:KV):Bool:=a2 vs fun x i=>vV i fun i=>mX x fun s=>(match s.data.toList[i]? with | some c=>fN c.toNat fun n=>k (.int .u8 (.ofNat n)) h | none=>false)
def LJ (sz:Nat) (lo hi mx:Bool) (vs:ZZE) (h:AH) (k:KV):Bool:=List.casesOn (motive:=fun _=>Bool) vs false fun x vs=>pO x (vW lo vs 0 fun l vs=>vW hi vs 0 fun hh vs=>iff (Nat.beq l 0&&Nat.beq hh 0&& !mx&&LG vs) (k (.slice none 0 0) h)) fun b o len cap=>vW lo vs 0 fun l vs=>vW hi vs len fun hh vs=>vW mx vs cap fun m vs=>iff (LG vs&&Nat.ble l hh&&Nat.ble hh m&&(Nat.ble hh len|| !(Nat.ble bQ cap))&&(bif mx then Nat.ble m (bif Nat.ble bQ cap then len else cap)else true)&&(bif Nat.ble bQ cap then Nat.beq cap (Nat.add bQ sz)else true)) (AA sz l hh m cap mx b o fun v=>k v h)
def akm (lo hi:Bool) (vs:ZZE) (h:AH) (k:KV):Bool:=iff (lo&&hi&&LG vs&&false) (k undef h)
def LK (n sz:Nat) (lo hi mx:Bool) (vs:ZZE) (h:AH) (k:KV):Bool:=List.casesOn (motive:=fun _=>Bool) vs false fun x vs=>mB x fun b o=>vW lo vs 0 fun l vs=>vW hi vs n fun hh vs=>vW mx vs n fun m vs=>iff (LG vs&&Nat.ble l hh&&Nat.ble hh m&&Nat.ble m n) (AA sz l hh m n true b o fun v=>k v h)
def Tm (op:BinOp) (vs:ZZE) (h:AH) (k:KV):Bool:=a2 vs fun x y=>pN x fun kx a=>pN y fun ky b=>abZ op kx a ky b fun v=>k v h
def Tn (op:BinOp) (vs:ZZE) (h:AH) (k:KV):Bool:=a2 vs fun x y=>mX x fun a=>mX y fun b=>ab0 op a b fun v=>k v h
def To (nk:Nat) (ng:Bool) (vs:ZZE) (h:AH) (k:KV):Bool:=a2 vs fun x y=>HX (lP nk x) (lP nk y) ng fun v=>k v h
def ace (ng:Bool) (vs:ZZE) (h:AH) (k:KV):Bool:=a2 vs fun x y=>Az x fun a=>Az y fun b=>fB (bif ng then(bif a then !b else b)else(bif a then b else !b)) fun c=>k (.bool c) h
def acf (ng:Bool) (ks:List Nat) (vs:ZZE) (h:AH) (k:KV):Bool:=a2 vs fun x y=>Ay x fun l=>Ay y fun m=>yB (o5 ks l m) ng fun v=>k v h
def acg (vs:ZZE) (h:AH) (k:KV):Bool:=a1 vs fun x=>pN x fun kd n=>fI (bN kd (Int.sub (.ofNat 0) n)) fun n=>k (.int kd n) h
def ach (vs:ZZE) (h:AH) (k:KV):Bool:=a1 vs fun x=>Az x fun b=>fB (!b) fun b=>k (.bool b) h
def aci (kd:IntKind) (vs:ZZE) (h:AH) (k:KV):Bool:=a1 vs fun x=>pN x fun _ n=>fI (bN kd n) fun n=>k (.int kd n) h
def acj (fn:Fn) (nf:Nat) (vs:ZZE) (h:AH) (k:KV):Bool:=yy vs nf fun a=>yz vs nf fun b=>k (.func fn ⟨a⟩ ⟨b⟩) h
def ack (ty:TypeId) (vs:ZZE) (h:AH) (k:KV):Bool:=a1 vs fun x=>k (.iface ty x) h
def akn (vs:ZZE) (h:AH) (k:KV):Bool:=a0 vs (qs h (.map [] 0) fun b h=>k (.map (some b)) h)
def aje (ty:TypeId) (sz:Nat) (zero:ZZE) (vs:ZZE) (h:AH) (k:KV):Bool:=a2 vs fun l c=>vV l fun l=>vV c fun c=>iff (Nat.ble l c&&Nat.ble c 65536&&mA zero sz) (Hx c zero fun cs=>pM h ty cs fun b h=>k (.slice (some ⟨b,0,none⟩) l c) h)
def abn (kc:Nat) (zero:Z) (ok:Bool) (vs:ZZE) (h:AH) (k:KV):Bool:=a2 vs fun m x=>iff (K3 kc x) (Fe m (SF zero ok h k none) fun r=>o4 h r fun es _=>ET kc es x (SF zero ok h k))
def ajj (kc:Nat) (vs:ZZE) (h:AH) (k:KV):Bool:=a3 vs fun m x v=>iff (K3 kc x) (Fe m false fun r=>o4 h r fun es cl=>vF kc es x v cl fun es cl=>kQ h r (some (.map es cl)) fun h=>k undef h)
def acm (i:Nat) (vs:ZZE) (h:AH) (k:KV):Bool:=a1 vs fun x=>Tj x fun l=>vT l i fun v=>k v h
def acn (vs:ZZE) (h:AH) (k:KV):Bool:=a1 vs fun x=>pO x (k (.int .i64 (.ofNat 0)) h) fun _ _ n _=>k (.int .i64 (.ofNat n)) h
def aco (vs:ZZE) (h:AH) (k:KV):Bool:=a1 vs fun x=>mX x fun s=>fN s.data.toList.length fun n=>k (.int .i64 (.ofNat n)) h
def acp (vs:ZZE) (h:AH) (k:KV):Bool:=a1 vs fun x=>Fe x (k (.int .i64 (.ofNat 0)) h) fun r=>o4 h r fun es _=>fN es.length fun n=>k (.int .i64 (.ofNat n)) h
def acq (n:Nat) (vs:ZZE) (h:AH) (k:KV):Bool:=a1 vs fun _=>k (.int .i64 (.ofNat n)) h
def ako (ty:TypeId) (sz:Nat) (zero:ZZE) (vs:ZZE) (h:AH) (k:KV):Bool:=a2 vs fun s x=>rh h sz x fun n xs=>iff (Nat.ble 1 sz&&mA zero sz) (pO s (HY h ty sz n xs k) (HZ h ty sz n xs k))
def aja (sz:Nat) (vs:ZZE) (h:AH) (k:KV):Bool:=a2 vs fun d s=>pO d (pO s (k (.int .i64 (.ofNat 0)) h) fun _ _ _ _=>k (.int .i64 (.ofNat 0)) h) fun b o len _=>pO s (k (.int .i64 (.ofNat 0)) h) fun b' o' vC _=>fN (bif Nat.ble vC len then vC else len) fun n=>bif Nat.beq n 0 then k (.int .i64 (.ofNat 0)) h else pL h b' o' (Nat.mul n sz) fun l=>xd h b o l fun h=>k (.int .i64 (.ofNat n)) h
def abj (vs:ZZE) (h:AH) (k:KV):Bool:=a2 vs fun x y=>pN x fun kx a=>pN y fun ky b=>iff (jE kx ky) (bif tB a b then k (.int kx b) h else k (.int kx a) h)
def abk (vs:ZZE) (h:AH) (k:KV):Bool:=a2 vs fun x y=>pN x fun kx a=>pN y fun ky b=>iff (jE kx ky) (bif tB b a then k (.int kx b) h else k (.int kx a) h)
def SJ (ty:TypeId) (zero:Z) (vs:ZZE) (h:AH) (k:KV):Bool:=a1 vs fun x=>abq ty zero x fun v=>k v h
def ajl (vs:ZZE) (h:AH) (k:KV):Bool:=a1 vs fun x=>mX x fun s=>qs h (.kP s 0) fun b h=>k (ak b 0) h
def ajm (vs:ZZE) (h:AH) (k:KV):Bool:=a1 vs fun x=>mB x fun b o=>iff (Nat.beq o 0) (Ti h b (EW h b k))
def AB (l m:List UInt8):(List UInt8→Bool)→Bool:=List.rec (motive:=fun _=>(List UInt8→Bool)→Bool) (fun k=>k m) (fun x _ ih k=>ih fun l'=>k (x::l')) l
def Tp (l:List UInt8):Nat→(List UInt8→Bool)→Bool:=List.rec (motive:=fun _=>Nat→(List UInt8→Bool)→Bool) (fun _ k=>k []) (fun x _ ih n k=>Nat.casesOn (motive:=fun _=>Bool) n (k []) (fun n=>ih n fun l'=>k (x::l'))) l
def Tq (l:List UInt8):Nat→(List UInt8→Bool)→Bool:=List.rec (motive:=fun _=>Nat→(List UInt8→Bool)→Bool) (fun _ k=>k []) (fun x l ih n k=>Nat.casesOn (motive:=fun _=>Bool) n (k (x::l)) (fun n=>ih n k)) l
def Ff:List UInt8→List UInt8→Bool | _,[]=>false | [],_::_=>true | a::l,b::m=>bif Nat.ble (Nat.succ a.toNat) b.toNat then true else bif Nat.beq a.toNat b.toNat then Ff l m else false
def akp (op:BinOp) (a b:List UInt8):Option Bool:=match op with | .lss=>some (Ff a b) | .leq=>some (Ff a b||nN a b) | .gtr=>some (!(Ff a b||nN a b)) | .geq=>some (!Ff a b) | _=>none
def awD (_:ZZE) (_:AH) (_:KV):Bool:=false
def akq (vs:ZZE) (h:AH) (k:KV):Bool:=a2 vs fun x y=>mX x fun a=>mX y fun b=>iff (Nat.ble (Nat.add a.data.toList.length b.data.toList.length) 9223372036854775807) (AB a.data.toList b.data.toList fun l=>k (.string ⟨⟨l⟩⟩) h)
def akr (op:BinOp) (vs:ZZE) (h:AH) (k:KV):Bool:=a2 vs fun x y=>mX x fun a=>mX y fun b=>yB (akp op a.data.toList b.data.toList) false fun v=>k v h
def acr (lo hi:Bool) (vs:ZZE) (h:AH) (k:KV):Bool:=List.casesOn (motive:=fun _=>Bool) vs false fun x vs=>mX x fun s=>vW lo vs 0 fun l vs=>vW hi vs s.data.toList.length fun hh vs=>iff (LG vs&&Nat.ble l hh&&Nat.ble hh s.data.toList.length) (Tq s.data.toList l fun m=>Tp m (Nat.sub hh l) fun m=>k (.string ⟨⟨m⟩⟩) h)
def aks (vs:ZZE) (h:AH) (k:KV):Bool:=a1 vs fun x=>pO x (k (.int .i64 (.ofNat 0)) h) fun _ _ _ c=>iff (Nat.ble (Nat.succ c) bQ) (k (.int .i64 (.ofNat c)) h)
def byK (l:List UInt8):(ZZE→Bool)→Bool:=List.rec (motive:=fun _=>(ZZE→Bool)→Bool) (fun k=>k []) (fun c _ ih k=>fN c.toNat fun n=>ih fun l=>k (.int .u8 (.ofNat n)::l)) l
def akt (l:ZZE):(List UInt8→Bool)→Bool:=List.rec (motive:=fun _=>(List UInt8→Bool)→Bool) (fun k=>k []) (fun v _ ih k=>pN v fun kd n=>Int.casesOn (motive:=fun _=>Bool) n (fun n=>iff (jE kd .u8&&Nat.ble (Nat.succ n) 256) (ih fun l=>k (UInt8.ofNat n::l))) tC) l
def aku (ty:TypeId) (zero:ZZE) (vs:ZZE) (h:AH) (k:KV):Bool:=a2 vs fun s x=>mX x fun t=>byK t.data.toList fun xs=>fN xs.length fun n=>iff (mA zero 1) (pO s (HY h ty 1 n xs k) (HZ h ty 1 n xs k))
def akv (vs:ZZE) (h:AH) (k:KV):Bool:=a1 vs fun p=>mB p fun b o=>rf h b fun lo hi _ _ _=>iff (Nat.ble lo o&&Nat.ble (Nat.succ o) hi) (k (ak b o) h)
def Tr (ty hi:Nat):List (TypeId×Nat)→Bool | []=>false | (t,n)::l=>bif Nat.beq t ty&&Nat.ble n hi then true else Tr ty hi l
def akw (l:List (TypeId×Nat)) (vs:ZZE) (h:AH) (k:KV):Bool:=a1 vs fun p=>mB p fun b o=>rf h b fun lo hi ty _ _=>iff (Nat.beq lo 0&&Nat.beq o 0&&Tr ty hi l) (k (ak b o) h)
def akx (vs:ZZE) (h:AH) (k:KV):Bool:=a1 vs fun p=>k p h
def Ts (x y:Z):Bool:=match x,y with | .pointer (some a),.pointer (some b)=>Nat.beq a.block b.block&&Nat.beq a.off b.off | _,_=>false
def aky (ng:Bool) (vs:ZZE) (h:AH) (k:KV):Bool:=a2 vs fun x y=>bif Ts x y then mB x fun b _=>uU h b fun _=>fB (!ng) fun b=>k (.bool b) h else HX (lP 0 x) (lP 0 y) ng fun v=>k v h
def akz (vs:ZZE) (h:AH) (k:KV):Bool:=a1 vs fun s=>pO s (k (.pointer none) h) fun b o n _=>iff (Nat.ble 1 n) (k (ak b o) h)
def akA (ty:TypeId) (n:Nat) (h:AH) (k:KV) (a:Addr):Bool:=Addr.casesOn (motive:=fun _=>Bool) a fun b o _=>rf h b fun lo hi dY rw c=>iff (rw&&Nat.beq dY ty&&Nat.ble lo o&&Nat.ble (Nat.add o n) hi&&Nat.ble n 1048576) (vU c o n fun l=>akt l fun m=>kQ h b (some (.cells lo hi dY false c)) fun h=>k (.string ⟨⟨m⟩⟩) h)
def akB (ty:TypeId) (vs:ZZE) (h:AH) (k:KV):Bool:=a2 vs fun p n=>vV n fun n=>match p with | .pointer q=>bif Nat.beq n 0 then k (.string ⟨⟨[]⟩⟩) h else Option.casesOn (motive:=fun _=>Bool) q false (akA ty n h k) | _=>false
def LM (l:List UInt8) (c:Nat):Nat:=List.rec (motive:=fun _=>Nat) 0 (fun b _ ih=>bif Nat.beq b.toNat c then Nat.succ ih else ih) l
def Tt (c:Nat):List UInt8→Nat→(Int→Bool)→Bool | [],_,k=>k (.negSucc 0) | b::l,i,k=>bif Nat.beq b.toNat c then k (.ofNat i)else fN (Nat.succ i) fun i=>Tt c l i k
def akC (vs:ZZE) (h:AH) (k:KV):Bool:=a2 vs fun s c=>mX s fun s=>pN c fun kd n=>Int.casesOn (motive:=fun _=>Bool) n (fun n=>iff (jE kd .u8&&Nat.ble (Nat.succ n) 256) (fN (LM s.data.toList n) fun n=>k (.int .i64 (.ofNat n)) h)) tC
def akD (vs:ZZE) (h:AH) (k:KV):Bool:=a2 vs fun s c=>mX s fun s=>pN c fun kd n=>Int.casesOn (motive:=fun _=>Bool) n (fun n=>iff (jE kd .u8&&Nat.ble (Nat.succ n) 256) (Tt n s.data.toList 0 fun i=>k (.int .i64 i) h)) tC
def akE (vs:ZZE) (h:AH) (k:KV):Bool:=a1 vs fun m=>Fe m (qs h (.jD none 0 [] 0) fun b h=>k (ak b 0) h) fun r=>o4 h r fun _ cl=>qs h (.jD (some r) cl [] cl) fun b h=>k (ak b 0) h
def yx (l:List Nat) (n:Nat):Bool:=List.rec (motive:=fun _=>Bool) false (fun m _ ih=>bif Nat.beq m n then true else ih) l
def LN (l:List Nat) (n:Nat):(List Nat→Bool)→Bool:=List.rec (motive:=fun _=>(List Nat→Bool)→Bool) (fun k=>k [n]) (fun x _ ih k=>ih fun l'=>k (x::l')) l
def AE (es:List (Z×Z×Nat)) (since:Nat) (seen:List Nat):(List (Z×Z×Nat)→Bool)→Bool:=List.rec (motive:=fun _=>(List (Z×Z×Nat)→Bool)→Bool) (fun k=>k []) (fun e _ ih k=>iff (Nat.ble (Nat.succ e.2.2) since) (bif yx seen e.2.2 then ih k else ih fun l=>k (e::l))) es
def Cp (go:Z→Z→Nat→Bool):List (Z×Z×Nat)→Bool | []=>true | [(a,v,n)]=>go a v n | (a,v,n)::l=>iff (go a v n) (Cp go l)
def Tu (h:AH) (b r since:Nat) (seen:List Nat) (k:KV) (a v:Z) (n:Nat):Bool:=LN seen n fun awE=>kQ h b (some (.jD (some r) since awE since)) fun h=>k (.tuple ⟨[.bool true,a,v]⟩) h
def Tv (h:AH) (b r since:Nat) (seen:List Nat) (k:KV) (l:List (Z×Z×Nat)):Bool:=match l with | []=>kQ h b none fun h=>k (.tuple ⟨[.bool false]⟩) h | l=>Cp (Tu h b r since seen k) l
def akF (vs:ZZE) (h:AH) (k:KV):Bool:=a1 vs fun p=>mB p fun b o=>iff (Nat.beq o 0) (Co h b fun m since seen last=>Option.casesOn (motive:=fun _=>Bool) m (k (.tuple ⟨[.bool false]⟩) h) fun r=>o4 h r fun es cl=>iff (Nat.beq cl since&&Nat.beq last since) (AE es since seen (Tv h b r since seen k)))
def Fg (l:List Nat) (k:Nat→Bool):Bool:=match l with | []=>false | [n]=>k n | _::l=>Fg l k
def Cq (es:List (Z×Z×Nat)) (n:Nat) (k:Z→Z→Bool):Bool:=match es with | []=>false | (a,v,b)::es=>bif Nat.beq b n then k a v else Cq es n k
def akG (vs:ZZE) (h:AH) (k:KV):Bool:=a1 vs fun p=>mB p fun b o=>iff (Nat.beq o 0) (Co h b fun m _ seen last=>Option.casesOn (motive:=fun _=>Bool) m false fun r=>o4 h r fun es cl=>iff (Nat.beq cl last) (Fg seen fun n=>Cq es n fun a v=>k (.tuple ⟨[a,v]⟩) h))
def PX.ev (p:PX):ZZE→AH→KV→Bool:=PX.casesOn (motive:=fun _=>ZZE→AH→KV→Bool) p awD akq akr acr aks aku akv akw akx aky akz akB akC akD akE akF akG
def Prim.ev (p:Prim):ZZE→AH→KV→Bool:=Prim.casesOn (motive:=fun _=>ZZE→AH→KV→Bool) p ab1 ab2 akh aki akj akk aju ab3 ab4 akl ab5 ab6 ab7 ab8 ab9 aca acb acd Tl LJ akm LK Tm Tn To ace acf acg ach aci acj ack akn aje abn ajj acm acn aco acp acq ako aja abj abk SJ ajl ajm PX.ev
inductive AX where
 | normal
 | exit (id:Nat)
 | ret
 | bC (v:Z)
inductive Rc where
 | off
 | can (v:Z)
 | q7
structure St where
 tm:PT
 df:List iS
 rc:Rc
 h:AH
structure Env where
 fn:FuncId
 nt:Nat
 Cc:Option Nat
inductive CR where
 | ret (v:Z)
 | bC (v:Z)
abbrev KS:=AX→St→Bool
inductive Task where
 | code (c:fw) (e:Env) (s:St) (k:KS)
 | call (f:FuncId) (args:ZZE) (h:AH) (k:CR→AH→Bool)
 | HN (f:FuncId) (args:ZZE) (rc:Rc) (h:AH) (k:Rc→AH→Bool)
 | round (l:Nat) (args:ZZE) (h:AH) (k:CR→AH→Bool)
 | leave (ds:List iS) (m:Option Z) (h:AH) (k:Option Z→AH→Bool)
def As (o:gp) (t:PT) (k:Z→Bool):Bool:=gp.casesOn (motive:=fun _=>Bool) o (fun p=>PT.fY p t k) k
def vL (l:List gp) (t:PT):(ZZE→Bool)→Bool:=List.rec (motive:=fun _=>(ZZE→Bool)→Bool) (fun k=>k []) (fun o _ ih k=>As o t fun v=>ih fun vs=>k (v::vs)) l
def mg (d:Option Pos) (s:St) (v:Z) (h:AH) (k:St→Bool):Bool:=St.casesOn (motive:=fun _=>Bool) s fun tm df rc _=>Option.casesOn (motive:=fun _=>Bool) d (k ⟨tm,df,rc,h⟩) (fun p=>PT.lh p tm v fun tm'=>k ⟨tm',df,rc,h⟩)
def tz (a b:Bool):Bool:=Bool.casesOn (motive:=fun _=>Bool) a (Bool.casesOn (motive:=fun _=>Bool) b true false) b
def E5 (want:Bool) (yes no:Bool) (v:Z):Bool:=match v with | .bool b=>bif tz b want then yes else no | _=>no
def vM (g:Option (Pos×Bool)) (t:PT) (yes no:Bool):Bool:=Option.casesOn (motive:=fun _=>Bool) g yes fun pw=>Prod.casesOn (motive:=fun _=>Bool) pw fun p want=>PT.fY p t (E5 want yes no)
def vI (dst:Option Pos) (s:St) (fail:KS) (k:St→Bool) (r:CR) (h:AH):Bool:=CR.casesOn (motive:=fun _=>Bool) r (fun v=>mg dst s v h k) (fun v=>St.casesOn (motive:=fun _=>Bool) s fun tm df rc _=>fail (.bC v) ⟨tm,df,rc,h⟩)
def ajE (aIZ:Task→Bool) (dst:Option Pos) (_:Env) (s:St) (_:KS) (k:St→Bool) (vs:ZZE) (p:Prim):Bool:=p.ev vs s.h fun v h=>mg dst s v h k
def ajG (rec:Task→Bool) (dst:Option Pos) (_:Env) (s:St) (fail:KS) (k:St→Bool) (vs:ZZE) (f:FuncId):Bool:=rec (.call f vs s.h (vI dst s fail k))
def Cf (v:Z) (kf:Nat→ZZE→ZZE→Bool) (ky:Nat→Bool):Bool:=match v with | .func (.func g) ⟨first⟩ ⟨dm⟩=>kf g first dm | .func (.yield l) ⟨[]⟩ ⟨[]⟩=>ky l | _=>false
def aby (rec:Task→Bool) (dst:Option Pos) (_:Env) (s:St) (fail:KS) (k:St→Bool) (vs:ZZE):Bool:=List.casesOn (motive:=fun _=>Bool) vs false fun f as=>Cf f (fun g first dm=>mc as dm fun l=>mc first l fun l=>rec (.call g l s.h (vI dst s fail k))) (fun l=>rec (.round l as s.h (vI dst s fail k)))
def Lj (dst:Option Pos) (e:Env) (s:St) (k:St→Bool) (vs:ZZE):Bool:=match e.Cc,vs with | none,[]=>(match s.rc with | .can v=>mg dst ⟨s.tm,s.df,.q7,s.h⟩ v s.h k | _=>mg dst s .nilIface s.h k) | _,_=>false
def SS (s:St) (fail:KS) (vs:ZZE):Bool:=a1 vs fun v=>match v with | .iface t x=>fail (.bC (.iface t x)) s | _=>false
def Ll (dst:Option Pos) (e:Env) (s:St) (k:St→Bool) (vs:ZZE):Bool:=match e.Cc,vs with | none,f::as=>Cf f (fun g first dm=>mc as dm fun l=>mc first l fun l=>mg dst ⟨s.tm,.fn g l::s.df,s.rc,s.h⟩ undef s.h k) tC | _,_=>false
def HQ (rec:Task→Bool) (act:nH) (dst:Option Pos) (e:Env) (s:St) (fail:KS) (k:St→Bool) (vs:ZZE):Bool:=nH.casesOn (motive:=fun _=>Bool) act (ajE rec dst e s fail k vs) (ajG rec dst e s fail k vs) (aby rec dst e s fail k vs) (Lj dst e s k vs) (SS s fail vs) (Ll dst e s k vs)
def Cg (rec:Task→Bool) (o:cB) (e:Env) (s:St) (fail:KS) (k:St→Bool):Bool:=cB.casesOn (motive:=fun _=>Bool) o fun dst act args g=>vM g s.tm (vL args s.tm (HQ rec act dst e s fail k)) (mg dst s undef s.h k)
def Lp (rec:Task→Bool) (l:List cB) (e:Env) (s:St) (k:KS):Bool:=List.rec (motive:=fun _=>St→Bool) (fun s=>k .normal s) (fun o _ ih s=>Cg rec o e s k ih) l s
def Tw:Z→Z→Bool | .bool a,.bool b=>bif a then b else !b | .int k a,.int l b=>bif jE k l then qp a b else false | .string a,.string b=>nN a.data.toList b.data.toList | .pointer none,.pointer none=>true | .pointer (some a),.pointer (some b)=>Nat.beq a.block b.block&&Nat.beq a.off b.off | .slice none l c,.slice none m d=>Nat.beq l m&&Nat.beq c d | .slice (some a) l c,.slice (some b) m d=>Nat.beq a.block b.block&&Nat.beq a.off b.off&&Nat.beq l m&&Nat.beq c d | .map none,.map none=>true | .map (some a),.map (some b)=>Nat.beq a b | .nilFunc,.nilFunc=>true | .nilIface,.nilIface=>true | _,_=>false
def LQ:ZZE→ZZE→Bool | [],[]=>true | a::l,b::m=>Tw a b&&LQ l m | _,_=>false
def Tx:Z→Z→Bool | .func (.func f) ⟨a⟩ ⟨b⟩,.func (.func g) ⟨c⟩ ⟨d⟩=>Nat.beq f g&&LQ a c&&LQ b d | a,b=>Tw a b
def Fh:ZZE→ZZE→Bool | [],[]=>true | a::l,b::m=>Tx a b&&Fh l m | _,_=>false
def yC (a b:Z):Bool:=match a,b with | .agg ⟨l⟩,.agg ⟨m⟩=>Fh l m | .tuple ⟨l⟩,.tuple ⟨m⟩=>Fh l m | a,b=>Tx a b
def Prim.fresh (p:Prim) (vs:ZZE) (k:TypeId→ZZE→Bool):Bool:=match p with | .alloc ty zero=>a0 vs (k ty zero) | .box ty=>a1 vs fun v=>k ty (cellsOf v) | .buildSlice ty _ cells places=>nL cells places vs fun l=>k ty l | _=>false
def Prim.makes:Prim→Bool | .alloc _ _=>true | .box _=>true | .buildSlice _ _ _ _=>true | _=>false
def acs (v:Z) (k:Nat→Bool):Bool:=match v with | .pointer (some ⟨b,o,_⟩)=>iff (Nat.beq o 0) (k b) | .slice (some ⟨b,o,_⟩) _ _=>iff (Nat.beq o 0) (k b) | _=>false
def Fi (s:St) (v:Z) (ty:TypeId) (l:ZZE):Bool:=acs v fun b=>rf s.h b fun lo hi dY rw c=>iff (rw&&Nat.beq lo 0&&Nat.beq hi l.length&&Nat.beq ty dY) (vU c 0 l.length fun m=>Fh m l)
def LU (v:Z) (v':Z) (_:AH):Bool:=yC v' v
def LV (dst:Option Pos) (s:St) (vs:ZZE) (p:Prim):Bool:=Option.casesOn (motive:=fun _=>Bool) dst false fun d=>PT.fY d s.tm fun v=>bif p.makes then p.fresh vs (Fi s v)else p.ev vs s.h (LU v)
def H0 (o:cB) (s:St):Bool:=cB.casesOn (motive:=fun _=>Bool) o fun dst act args g=>vM g s.tm (vL args s.tm fun vs=>nH.casesOn (motive:=fun _=>Bool) act (LV dst s vs) tC false false false false) true
def vO (rec:Task→Bool) (l:List nI) (e:Env) (s:St) (k:KS):Bool:=List.rec (motive:=fun _=>St→Bool) (fun s=>k .normal s) (fun d _ ih s=>nI.casesOn (motive:=fun _=>Bool) d (fun _ o=>Cg rec o e s k ih) (fun _ o=>iff (H0 o s) (ih s))) l s
def HW (ps:List Pos) (vs:ZZE) (t:PT) (k:PT→Bool):Bool:=List.rec (motive:=fun _=>ZZE→PT→Bool) (fun vs t=>a0 vs (k t)) (fun p _ ih vs t=>List.casesOn (motive:=fun _=>Bool) vs false fun v vs=>PT.lh p t v fun t=>ih vs t) ps vs t
def Au (i:Nat) (vs:ZZE) (t:PT) (k:PT→Bool):Bool:=List.rec (motive:=fun _=>Nat→PT→Bool) (fun _ t=>k t) (fun v _ ih i t=>PT.lh (Pos.of i) t v fun t=>ih (.succ i) t) vs i t
def qo (rs:List qV) (t:PT) (h:AH) (k:ZZE→Bool):Bool:=match rs with | []=>k [] | .tmp p::rs=>PT.fY p t fun v=>qo rs t h fun vs=>k (v::vs) | .cell p none::rs=>PT.fY p t fun v=>mB v fun b o=>yw h b o fun x=>qo rs t h fun vs=>k (x::vs) | .cell p (some n)::rs=>PT.fY p t fun v=>mB v fun b o=>pL h b o n fun l=>qo rs t h fun vs=>k (.agg ⟨l⟩::vs)
def Lx (vs:ZZE) (k:Z→Bool):Bool:=match vs with | [v]=>k v | vs=>k (.tuple ⟨vs⟩)
def Lq (rec:Task→Bool) (b:fw) (e:Env) (k:KS) (x:AX) (s:St):Bool:=AX.casesOn (motive:=fun _=>Bool) x (rec (.code b e s k)) (fun id=>k (.exit id) s) (k .ret s) (fun v=>k (.bC v) s)
def awF (rec:Task→Bool) (e:Env) (s:St) (k:KS) (a b:fw):Bool:=rec (.code a e s (Lq rec b e k))
def awG (rec:Task→Bool) (e:Env) (s:St) (k:KS) (c:gp) (a b:fw):Bool:=As c s.tm fun v=>Az v fun t=>Bool.casesOn (motive:=fun _=>Bool) t (rec (.code b e s k)) (rec (.code a e s k))
def abC (id:Nat) (k:KS) (x:AX) (s:St):Bool:=AX.casesOn (motive:=fun _=>Bool) x (k .normal s) (fun j=>bif Nat.beq j id then k .normal s else k (.exit j) s) (k .ret s) (fun v=>k (.bC v) s)
def awH (rec:Task→Bool) (e:Env) (s:St) (k:KS) (id:Nat) (c:fw):Bool:=rec (.code c e s (abC id k))
def awI (rec:Task→Bool) (e:Env) (s:St) (k:KS) (c:fw):Bool:=rec (.code c e s (Lq rec (.loop c) e k))
def qi.nK (r:qi) (st:LoopState) (j:Option Code):qi:=qi.casesOn (motive:=fun _=>qi) r fun _ _ fn tm ps a b d nt=>⟨st,j,fn,tm,ps,a,b,d,nt⟩
def SW (s:St) (df:List iS) (k:KS) (j:Option Code) (h:AH):Bool:=match j with | none=>k .normal ⟨s.tm,df,s.rc,h⟩ | some .ret=>k .ret ⟨s.tm,df,s.rc,h⟩ | some (.exit id)=>k (.exit id) ⟨s.tm,df,s.rc,h⟩ | _=>false
def acu:LoopState→Bool | .busy=>false | _=>true
def isReady:LoopState→Bool | .ready=>true | _=>false
def abF (s:St) (df:List iS) (k:KS) (l:Nat) (r:CR) (h:AH):Bool:=CR.casesOn (motive:=fun _=>Bool) r (fun _=>uT h l fun r=>iff (acu r.state) (kQ h l (some (.loop (r.nK .exhausted r.gq))) (SW s df k r.gq))) (fun v=>k (.bC v) ⟨s.tm,df,s.rc,h⟩)
def Ls (rec:Task→Bool) (e:Env) (s:St) (k:KS) (params:List Pos) (assign body:fw) (g:Nat) (first dm:ZZE) (h:AH) (dl:Nat) (df:List iS):Bool:=qs h (.loop ⟨.ready,none,e.fn,s.tm,params,assign,body,dl,e.nt⟩) fun l h=>mc first (.func (.yield l) ⟨[]⟩ ⟨[]⟩::dm) fun args=>rec (.call g args h (abF s df k l))
def ajR (rec:Task→Bool) (e:Env) (s:St) (k:KS) (f:gp) (params:List Pos) (assign body:fw):Bool:=As f s.tm fun fv=>Cf fv (fun g first dm=>match e.Cc with | none=>qs s.h (.defs false) fun r h=>Ls rec e s k params assign body g first dm h r (.wY r::s.df) | some l=>uT s.h l fun r=>Ls rec e s k params assign body g first dm s.h r.defs s.df) tC
def abH (rec:Task→Bool) (c:fw) (e:Env) (s:St) (k:KS):Bool:=fw.casesOn (motive:=fun _=>Bool) c (k .normal s) (fun l=>Lp rec l e s k) (fun l=>vO rec l e s k) (awF rec e s k) (awG rec e s k) (awH rec e s k) (awI rec e s k) (ajR rec e s k) (fun id=>k (.exit id) s) (k .ret s)
def LA (results:List qV) (tm:PT) (k:CR→AH→Bool) (m:Option Z) (h:AH):Bool:=match m with | none=>qo results tm h fun vs=>Lx vs fun v=>k (.ret v) h | some v=>k (.bC v) h
def ajY (results:List qV) (k:CR→AH→Bool) (m:Option Z) (h:AH):Bool:=match m with | none=>(match results with | []=>k (.ret (.tuple ⟨[]⟩)) h | _=>false) | some v=>k (.bC v) h
def Lz (rec:Task→Bool) (results:List qV) (k:CR→AH→Bool) (x:AX) (s:St):Bool:=AX.casesOn (motive:=fun _=>Bool) x (rec (.leave s.df none s.h (LA results s.tm k))) tC (rec (.leave s.df none s.h (LA results s.tm k))) (fun v=>rec (.leave s.df (some v) s.h (ajY results k)))
def akH (v:Z):List Nat:=match v with | .slice (some a) _ _=>[a.block] | .map (some r)=>[r] | .pointer (some a)=>[a.block] | _=>[]
def akI:ZZE→List Nat | []=>[] | v::l=>akH v++akI l
def awJ (v:Z):List Nat:=match v with | .tuple ⟨l⟩=>akI l | v=>akH v
def Tb (bt:List Nat) (n:Nat):Nat→AH→(AH→Bool)→Bool:=Nat.rec (motive:=fun _=>Nat→AH→(AH→Bool)→Bool) (fun _ h k=>k h) (fun _ ih b h k=>fN (Nat.succ b) fun b'=>bif yx bt b then ih b' h k else kQ h b none fun h=>ih b' h k) n
def jnK (h0:AH) (k:CR→AH→Bool) (v:Z) (h:AH):Bool:=match awJ v with | []=>iff (k (.ret v) h) true | bt=>fN (Nat.sub h.nx h0.nx) fun n=>fN h0.nx fun b=>Tb bt n b h fun h=>iff (k (.ret v) h) true
def jn (det:Bool) (h0:AH) (k:CR→AH→Bool):CR→AH→Bool:=bif det then fun r h=>CR.casesOn (motive:=fun _=>Bool) r (fun v=>jnK h0 k v h) (fun v=>k (.bC v) h)else k
abbrev Aw:=List (FuncId×(ZZE→AH→(CR→AH→Bool)→Bool))
def ajZ (prog:NT lv) (rec:Task→Bool) (f:FuncId) (args:ZZE) (h:AH) (k:CR→AH→Bool):Bool:=NT.fY prog f fun fn=>lv.casesOn (motive:=fun _=>Bool) fn fun nt results code det=>Au 0 args .e fun tm=>rec (.code code ⟨f,nt,none⟩ ⟨tm,[],.off,h⟩ (Lz rec results (jn det h k)))
def Te (prog:NT lv) (sums:Aw) (rec:Task→Bool) (f:FuncId) (args:ZZE) (h:AH) (k:CR→AH→Bool):Bool:=match sums with | []=>ajZ prog rec f args h k | (g,S)::l=>bif Nat.beq g f then S args h k else Te prog l rec f args h k
def Cl (df:List iS) (k:Bool):Bool:=match df with | []=>k | _=>false
def abR (k:Rc→AH→Bool) (x:AX) (s:St):Bool:=match x with | .normal=>Cl s.df (k s.rc s.h) | .ret=>Cl s.df (k s.rc s.h) | _=>false
def aj1 (prog:NT lv) (rec:Task→Bool) (f:FuncId) (args:ZZE) (rc:Rc) (h:AH) (k:Rc→AH→Bool):Bool:=NT.fY prog f fun fn=>lv.casesOn (motive:=fun _=>Bool) fn fun nt results code _=>List.casesOn (motive:=fun _=>Bool) results (Au 0 args .e fun tm=>rec (.code code ⟨f,nt,none⟩ ⟨tm,[],rc,h⟩ (abR k))) fun _ _=>false
def abN (rec:Task→Bool) (ds:List iS) (k:Option Z→AH→Bool) (rc:Rc) (h:AH):Bool:=match rc with | .q7=>rec (.leave ds none h k) | .can v=>rec (.leave ds (some v) h k) | .off=>false
def abL (rec:Task→Bool) (ds:List iS) (m:Option Z) (h:AH) (k:Option Z→AH→Bool):Bool:=match ds with | []=>k m h | .wY r::ds=>HV h r fun t=>iff (!t) (kQ h r (some (.defs true)) fun h=>rec (.leave ds m h k)) | .fn f args::ds=>(match m with | none=>rec (.HN f args .off h fun _ h=>rec (.leave ds none h k)) | some v=>rec (.HN f args (.can v) h (abN rec ds k)))
def LD (l:Nat) (h:AH) (k:CR→AH→Bool) (j:Option Code) (st:LoopState) (b:Bool):Bool:=uT h l fun r=>kQ h l (some (.loop (r.nK st j))) fun h=>k (.ret (.bool b)) h
def Th (l:Nat) (k:CR→AH→Bool) (x:AX) (s:St):Bool:=Cl s.df (match x with | .normal=>LD l s.h k none .ready true | .ret=>LD l s.h k (some .ret) .done false | .exit id=>LD l s.h k (some (.exit id)) .done false | .bC _=>false)
def abT (rec:Task→Bool) (l:Nat) (r0:qi) (k:CR→AH→Bool) (x:AX) (s:St):Bool:=match x with | .normal=>uT s.h l fun r=>iff (isReady r.state) (kQ s.h l (some (.loop (r.nK .busy r.gq))) fun h=>rec (.code r0.body ⟨r0.fn,r0.nt,some l⟩ ⟨s.tm,s.df,s.rc,h⟩ (Th l k))) | _=>false
def aj3 (rec:Task→Bool) (l:Nat) (args:ZZE) (h:AH) (k:CR→AH→Bool):Bool:=uT h l fun r=>HW r.params args r.tm fun tm=>rec (.code r.assign ⟨r.fn,r.nt,some l⟩ ⟨tm,[],.off,h⟩ (abT rec l r k))
def stepT (prog:NT lv) (sums:Aw) (rec:Task→Bool) (t:Task):Bool:=Task.casesOn (motive:=fun _=>Bool) t (abH rec) (Te prog sums rec) (aj1 prog rec) (aj3 rec) (abL rec)
def ev (prog:NT lv) (sums:Aw) (n:Nat):Task→Bool:=Nat.rec (motive:=fun _=>Task→Bool) (fun _=>false) (fun _ ih t=>stepT prog sums ih t) n
theorem awK (prog:NT lv)(sums:Aw)(n:Nat)(t:Task):ev prog sums (n+1) t=stepT prog sums (ev prog sums n) t:=rfl
end
end Go.Ve
