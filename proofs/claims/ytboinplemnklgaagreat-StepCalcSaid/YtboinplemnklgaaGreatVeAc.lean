/- VEval, part 43: the words of closed forms (a function's code over named values, with no slots), and the steps that show a closed form to be right. No condition. -/
import Derived.Test.YtboinplemnklgaaGreatVeAb
import Derived.ProofKit
import Derived.OpenShut
import Derived.WalkKit
set_option linter.unusedVariables false
set_option linter.unusedSimpArgs false
namespace Go.Ve
open Go.RowKit
noncomputable section

abbrev W := AH → Prop
def pr (p : Prim) (vs : List Value) (K : Value → W) : W := fun h => WP p vs h K
def ld (p : Prim) (vs : List Value) (K : Value → W) : W := fun h => WP p vs h fun v _ => K v h
def cl (P : Program) (w0 : World) (f : FuncId) (vs : List Value) (E K : Value → W) : W := fun h => WF P w0 f vs h fun r h => match r with
  | .ret v => K v h
  | .pan v => E v h
def dy (P : Program) (w0 : World) (vs : List Value) (E K : Value → W) : W := match vs with
  | .func (.func g) ⟨first⟩ ⟨capt⟩ :: as => cl P w0 g (first ++ (as ++ capt)) E K
  | .func (.yield l) ⟨[]⟩ ⟨[]⟩ :: as => fun h => WR P w0 l as h fun r h => match r with
    | .ret v => K v h
    | .pan v => E v h
  | _ => fun _ => False
def pn (vs : List Value) (E : Value → W) : W := match vs with
  | [.iface t x] => E (.iface t x)
  | _ => fun _ => False
def gd (g : Value) (want : Bool) (A : (Value → W) → W) (K : Value → W) : W := match g with
  | .bool b => bif eqBB b want then A K else K undef
  | _ => K undef
def br (c : Value) (A B : W) : W := match c with
  | .bool true => A
  | .bool false => B
  | _ => fun _ => False
def ck (p : Prim) (vs : List Value) (v : Value) (K : W) : W := fun h => WP p vs h (fun v' _ => valEq v' v = true) ∧ K h
def ckm (p : Prim) (vs : List Value) (v : Value) (K : W) : W := fun h => p.fresh vs (chkMade ⟨.e, [], .off, h⟩ v) = true ∧ K h
def gk (g : Value) (want : Bool) (A : W → W) (K : W) : W := match g with
  | .bool b => bif eqBB b want then A K else K
  | _ => K
/-- a loop: some number of rounds leads out of it -/
def LPn {α : Type} (F : (α → W) → α → W) : Nat → α → W
  | 0, _ => fun _ => False
  | n + 1, a => F (LPn F n) a
def LP {α : Type} (F : (α → W) → α → W) (a : α) : W := fun h => ∃ n, LPn F n a h

theorem LP_rule {α : Type} {F : (α → W) → α → W} (Inv : α → AH → Prop) (μ : α → AH → Nat)
    (step : ∀ a h (k : α → W), Inv a h → (∀ a' h', Inv a' h' → μ a' h' < μ a h → k a' h') → F k a h) {a : α} {h : AH} (H : Inv a h) : LP F a h := by
  have key : ∀ n a h, Inv a h → μ a h < n → LPn F n a h := by
    intro n
    induction n with
    | zero => intro a h _ hn; exact absurd hn (Nat.not_lt_zero _)
    | succ n ih => intro a h hi hn; exact step a h _ hi fun a' h' hi' hm => ih a' h' hi' (by omega)
  exact ⟨_, key (μ a h + 1) a h H (Nat.lt_succ_self _)⟩

theorem gd_T (A : (Value → W) → W) (K : Value → W) : gd (.bool true) true A K = A K := rfl
theorem gd_F (A : (Value → W) → W) (K : Value → W) : gd (.bool false) false A K = A K := rfl
theorem gd_TF (A : (Value → W) → W) (K : Value → W) : gd (.bool true) false A K = K undef := rfl
theorem gd_FT (A : (Value → W) → W) (K : Value → W) : gd (.bool false) true A K = K undef := rfl
theorem gd_U (w : Bool) (A : (Value → W) → W) (K : Value → W) : gd undef w A K = K undef := rfl
theorem gk_T (A : W → W) (K : W) : gk (.bool true) true A K = A K := rfl
theorem gk_F (A : W → W) (K : W) : gk (.bool false) false A K = A K := rfl
theorem gk_TF (A : W → W) (K : W) : gk (.bool true) false A K = K := rfl
theorem gk_FT (A : W → W) (K : W) : gk (.bool false) true A K = K := rfl
theorem gk_U (w : Bool) (A : W → W) (K : W) : gk undef w A K = K := rfl
theorem br_T (A B : W) : br (.bool true) A B = A := rfl
theorem br_F (A B : W) : br (.bool false) A B = B := rfl

/-! ### Steps -/
def agr (σ : Sl) : List (Pos × Value) → Prop
  | [] => True
  | (p, v) :: U => σ p = v ∧ agr σ U
def Sl.ups (σ : Sl) : List (Pos × Value) → Sl
  | [] => σ
  | (p, v) :: U => Sl.up (Sl.ups σ U) p v
theorem ups_agr {σ : Sl} : ∀ {U : List (Pos × Value)}, agr σ U → σ.ups U = σ
  | [], _ => rfl
  | (p, v) :: U, ⟨h1, h2⟩ => by
    show Sl.up (σ.ups U) p v = σ
    rw [ups_agr h2]
    funext q
    unfold Sl.up
    cases h : p.beq q with
    | true => rw [← Pos.beq_iff.1 h]; exact h1.symm
    | false => rfl

section
variable {P : Program} {w0 : World} {e : Env} {σ : Sl} {d : DS} {h : AH} {Q : PQ} {l : List AOp} {dl : List DOp} {a b c : ACode}

theorem st_skip (H : Q .normal σ d h) : wpC P w0 .skip e σ d h Q := H
theorem st_ops (H : wpOps P w0 l e σ d h Q) : wpC P w0 (.ops l) e σ d h Q := H
theorem st_draw (H : wpDraw P w0 dl e σ d h Q) : wpC P w0 (.draw dl) e σ d h Q := H
theorem st_seq (H : wpC P w0 a e σ d h (seqQ (fun σ d h => wpC P w0 b e σ d h Q) Q)) : wpC P w0 (.seq a b) e σ d h Q := H
theorem st_nil (H : Q .normal σ d h) : wpOps P w0 [] e σ d h Q := H
theorem st_dnil (H : Q .normal σ d h) : wpDraw P w0 [] e σ d h Q := H
theorem st_next {K : Sl → DS → AH → Prop} (H : K σ d h) : seqQ K Q .normal σ d h := H
theorem st_block {id : Nat} (H : wpC P w0 c e σ d h (blockQ id Q)) : wpC P w0 (.block id c) e σ d h Q := H
theorem st_bn {id : Nat} (H : Q .normal σ d h) : blockQ id Q .normal σ d h := H
theorem st_exit {id : Nat} (H : Q (.exit id) σ d h) : wpC P w0 (.exit id) e σ d h Q := H
theorem st_ret (H : Q .ret σ d h) : wpC P w0 .ret e σ d h Q := H
theorem st_cond {o : Opd} {v : Value} {A B : W} (hv : opdS σ o = v) (H : br v A B h) (ha : A h → wpC P w0 a e σ d h Q) (hb : B h → wpC P w0 b e σ d h Q) : wpC P w0 (.cond o a b) e σ d h Q := by
  simp only [wpC]
  rw [hv]
  unfold br at H
  revert H
  cases v <;> intro H <;> first | exact H.elim | skip
  rename_i t
  revert H
  cases t with
  | true => exact ha
  | false => exact hb

theorem act_p {dst : Option Pos} {p : Prim} {vs : List Value} {K : Value → W} {K' : Sl → DS → AH → Prop} (H : pr p vs K h) (hK : ∀ v h, K v h → K' (σ.upO dst v) d h) : wpAct P w0 (.prim p) dst e σ d h vs Q K' := WP.mono hK H
theorem act_c {dst : Option Pos} {f : FuncId} {vs : List Value} {E K : Value → W} {K' : Sl → DS → AH → Prop} (H : cl P w0 f vs E K h) (hE : ∀ v h, E v h → Q (.pan v) σ d h) (hK : ∀ v h, K v h → K' (σ.upO dst v) d h) : wpAct P w0 (.call f) dst e σ d h vs Q K' :=
  WF.mono (fun r h hr => by cases r with | ret v => exact hK _ _ hr | pan v => exact hE _ _ hr) H
theorem act_d {dst : Option Pos} {vs : List Value} {E K : Value → W} {K' : Sl → DS → AH → Prop} (H : dy P w0 vs E K h) (hE : ∀ v h, E v h → Q (.pan v) σ d h) (hK : ∀ v h, K v h → K' (σ.upO dst v) d h) : wpAct P w0 .dyn dst e σ d h vs Q K' := by
  unfold dy at H
  simp only [wpAct]
  split at H
  · exact WF.mono (fun r h hr => by cases r with | ret v => exact hK _ _ hr | pan v => exact hE _ _ hr) H
  · exact WR.mono (fun r h hr => by cases r with | ret v => exact hK _ _ hr | pan v => exact hE _ _ hr) H
  · exact H.elim
theorem act_n {dst : Option Pos} {vs : List Value} {E : Value → W} {K' : Sl → DS → AH → Prop} (H : pn vs E h) (hE : ∀ v h, E v h → Q (.pan v) σ d h) : wpAct P w0 .panic dst e σ d h vs Q K' := by
  unfold pn at H
  simp only [wpAct]
  split at H
  · exact hE _ _ H
  · exact H.elim
/-- guarded -/
theorem op_g {dst : Option Pos} {act : Act1} {args : List Opd} {g : Pos} {gv : Value} {want : Bool} {A : (Value → W) → W} {K : Value → W} {K' : Sl → DS → AH → Prop} (hg : σ g = gv) (H : gd gv want A K h) (hA : A K h → wpAct P w0 act dst e σ d h (args.map (opdS σ)) Q K') (hK : ∀ v h, K v h → K' (σ.upO dst v) d h) :
    wpOp P w0 ⟨dst, act, args, some (g, want)⟩ e σ d h Q K' := by
  unfold wpOp
  simp only []
  rw [hg]
  unfold gd at H
  revert H
  cases gv <;> intro H <;> first | exact hK _ _ H | skip
  rename_i b
  simp only at H ⊢
  revert H
  cases eqBB b want with
  | true => exact hA
  | false => exact hK _ _
theorem chk_g {p : Prim} {args : List Opd} {q g : Pos} {gv : Value} {want : Bool} {A : W → W} {K : W} (hg : σ g = gv) (H : gk gv want A K h) (hA : A K h → chkB (.prim p) (some q) (args.map (opdS σ)) σ h ∧ K h) : chkS ⟨some q, .prim p, args, some (g, want)⟩ σ h ∧ K h := by
  unfold chkS
  simp only []
  rw [hg]
  unfold gk at H
  revert H
  cases gv <;> intro H <;> first | exact ⟨trivial, H⟩ | skip
  rename_i b
  simp only at H ⊢
  revert H
  cases eqBB b want with
  | true => exact hA
  | false => exact fun H => ⟨trivial, H⟩

theorem st_m {dst : Option Pos} {x : Opd} {v : Value} (hv : opdS σ x = v) (H : wpOps P w0 l e (σ.upO dst v) d h Q) : wpOps P w0 (⟨dst, .prim .move, [x], none⟩ :: l) e σ d h Q := by
  subst hv; exact fun k hk => hk _ _ H
theorem st_p {dst : Option Pos} {p : Prim} {args : List Opd} {vs : List Value} {K : Value → W} (hv : args.map (opdS σ) = vs) (H : pr p vs K h) (hK : ∀ v h, K v h → wpOps P w0 l e (σ.upO dst v) d h Q) : wpOps P w0 (⟨dst, .prim p, args, none⟩ :: l) e σ d h Q := by
  subst hv; exact act_p (P := P) (w0 := w0) (e := e) (dst := dst) (Q := Q) (K' := fun σ d h => wpOps P w0 l e σ d h Q) H hK
theorem st_c {dst : Option Pos} {f : FuncId} {args : List Opd} {vs : List Value} {E K : Value → W} (hv : args.map (opdS σ) = vs) (H : cl P w0 f vs E K h) (hE : ∀ v h, E v h → Q (.pan v) σ d h) (hK : ∀ v h, K v h → wpOps P w0 l e (σ.upO dst v) d h Q) : wpOps P w0 (⟨dst, .call f, args, none⟩ :: l) e σ d h Q := by
  subst hv; exact act_c (e := e) (dst := dst) (K' := fun σ d h => wpOps P w0 l e σ d h Q) H hE hK
theorem st_d {dst : Option Pos} {args : List Opd} {vs : List Value} {E K : Value → W} (hv : args.map (opdS σ) = vs) (H : dy P w0 vs E K h) (hE : ∀ v h, E v h → Q (.pan v) σ d h) (hK : ∀ v h, K v h → wpOps P w0 l e (σ.upO dst v) d h Q) : wpOps P w0 (⟨dst, .dyn, args, none⟩ :: l) e σ d h Q := by
  subst hv; exact act_d (e := e) (dst := dst) (K' := fun σ d h => wpOps P w0 l e σ d h Q) H hE hK
theorem st_n {dst : Option Pos} {args : List Opd} {vs : List Value} {E : Value → W} (hv : args.map (opdS σ) = vs) (H : pn vs E h) (hE : ∀ v h, E v h → Q (.pan v) σ d h) : wpOps P w0 (⟨dst, .panic, args, none⟩ :: l) e σ d h Q := by
  subst hv; exact act_n (P := P) (w0 := w0) (e := e) (dst := dst) (K' := fun σ d h => wpOps P w0 l e σ d h Q) H hE
theorem st_gm {dst : Option Pos} {x : Opd} {v : Value} {g : Pos} {gv : Value} {want : Bool} {K : Value → W} (hg : σ g = gv) (hv : opdS σ x = v) (H : gd gv want (fun k => k v) K h) (hK : ∀ v h, K v h → wpOps P w0 l e (σ.upO dst v) d h Q) : wpOps P w0 (⟨dst, .prim .move, [x], some (g, want)⟩ :: l) e σ d h Q := by
  subst hv; exact op_g (K' := fun σ d h => wpOps P w0 l e σ d h Q) hg H (fun H k hk => hk _ _ (hK _ _ H)) hK
theorem st_gp {dst : Option Pos} {p : Prim} {args : List Opd} {vs : List Value} {g : Pos} {gv : Value} {want : Bool} {K : Value → W} (hg : σ g = gv) (hv : args.map (opdS σ) = vs) (H : gd gv want (fun k => pr p vs k) K h) (hK : ∀ v h, K v h → wpOps P w0 l e (σ.upO dst v) d h Q) : wpOps P w0 (⟨dst, .prim p, args, some (g, want)⟩ :: l) e σ d h Q := by
  subst hv; exact op_g (K' := fun σ d h => wpOps P w0 l e σ d h Q) hg H (fun H => WP.mono hK H) hK
theorem st_gc {dst : Option Pos} {f : FuncId} {args : List Opd} {vs : List Value} {g : Pos} {gv : Value} {want : Bool} {E K : Value → W} (hg : σ g = gv) (hv : args.map (opdS σ) = vs) (H : gd gv want (fun k => cl P w0 f vs E k) K h) (hE : ∀ v h, E v h → Q (.pan v) σ d h) (hK : ∀ v h, K v h → wpOps P w0 l e (σ.upO dst v) d h Q) : wpOps P w0 (⟨dst, .call f, args, some (g, want)⟩ :: l) e σ d h Q := by
  subst hv; exact op_g (K' := fun σ d h => wpOps P w0 l e σ d h Q) hg H (fun H => act_c H hE hK) hK
theorem st_gd {dst : Option Pos} {args : List Opd} {vs : List Value} {g : Pos} {gv : Value} {want : Bool} {E K : Value → W} (hg : σ g = gv) (hv : args.map (opdS σ) = vs) (H : gd gv want (fun k => dy P w0 vs E k) K h) (hE : ∀ v h, E v h → Q (.pan v) σ d h) (hK : ∀ v h, K v h → wpOps P w0 l e (σ.upO dst v) d h Q) : wpOps P w0 (⟨dst, .dyn, args, some (g, want)⟩ :: l) e σ d h Q := by
  subst hv; exact op_g (K' := fun σ d h => wpOps P w0 l e σ d h Q) hg H (fun H => act_d H hE hK) hK
theorem sd_m {i : Nat} {dst : Option Pos} {x : Opd} {v : Value} (hv : opdS σ x = v) (H : wpDraw P w0 dl e (σ.upO dst v) d h Q) : wpDraw P w0 (.op i ⟨dst, .prim .move, [x], none⟩ :: dl) e σ d h Q := by
  subst hv; exact fun k hk => hk _ _ H
theorem sd_p {i : Nat} {dst : Option Pos} {p : Prim} {args : List Opd} {vs : List Value} {K : Value → W} (hv : args.map (opdS σ) = vs) (H : pr p vs K h) (hK : ∀ v h, K v h → wpDraw P w0 dl e (σ.upO dst v) d h Q) : wpDraw P w0 (.op i ⟨dst, .prim p, args, none⟩ :: dl) e σ d h Q := by
  subst hv; exact act_p (P := P) (w0 := w0) (e := e) (dst := dst) (Q := Q) (K' := fun σ d h => wpDraw P w0 dl e σ d h Q) H hK
theorem sd_c {i : Nat} {dst : Option Pos} {f : FuncId} {args : List Opd} {vs : List Value} {E K : Value → W} (hv : args.map (opdS σ) = vs) (H : cl P w0 f vs E K h) (hE : ∀ v h, E v h → Q (.pan v) σ d h) (hK : ∀ v h, K v h → wpDraw P w0 dl e (σ.upO dst v) d h Q) : wpDraw P w0 (.op i ⟨dst, .call f, args, none⟩ :: dl) e σ d h Q := by
  subst hv; exact act_c (e := e) (dst := dst) (K' := fun σ d h => wpDraw P w0 dl e σ d h Q) H hE hK
theorem sd_d {i : Nat} {dst : Option Pos} {args : List Opd} {vs : List Value} {E K : Value → W} (hv : args.map (opdS σ) = vs) (H : dy P w0 vs E K h) (hE : ∀ v h, E v h → Q (.pan v) σ d h) (hK : ∀ v h, K v h → wpDraw P w0 dl e (σ.upO dst v) d h Q) : wpDraw P w0 (.op i ⟨dst, .dyn, args, none⟩ :: dl) e σ d h Q := by
  subst hv; exact act_d (e := e) (dst := dst) (K' := fun σ d h => wpDraw P w0 dl e σ d h Q) H hE hK
theorem sd_n {i : Nat} {dst : Option Pos} {args : List Opd} {vs : List Value} {E : Value → W} (hv : args.map (opdS σ) = vs) (H : pn vs E h) (hE : ∀ v h, E v h → Q (.pan v) σ d h) : wpDraw P w0 (.op i ⟨dst, .panic, args, none⟩ :: dl) e σ d h Q := by
  subst hv; exact act_n (P := P) (w0 := w0) (e := e) (dst := dst) (K' := fun σ d h => wpDraw P w0 dl e σ d h Q) H hE
theorem sd_gm {i : Nat} {dst : Option Pos} {x : Opd} {v : Value} {g : Pos} {gv : Value} {want : Bool} {K : Value → W} (hg : σ g = gv) (hv : opdS σ x = v) (H : gd gv want (fun k => k v) K h) (hK : ∀ v h, K v h → wpDraw P w0 dl e (σ.upO dst v) d h Q) : wpDraw P w0 (.op i ⟨dst, .prim .move, [x], some (g, want)⟩ :: dl) e σ d h Q := by
  subst hv; exact op_g (K' := fun σ d h => wpDraw P w0 dl e σ d h Q) hg H (fun H k hk => hk _ _ (hK _ _ H)) hK
theorem sd_gp {i : Nat} {dst : Option Pos} {p : Prim} {args : List Opd} {vs : List Value} {g : Pos} {gv : Value} {want : Bool} {K : Value → W} (hg : σ g = gv) (hv : args.map (opdS σ) = vs) (H : gd gv want (fun k => pr p vs k) K h) (hK : ∀ v h, K v h → wpDraw P w0 dl e (σ.upO dst v) d h Q) : wpDraw P w0 (.op i ⟨dst, .prim p, args, some (g, want)⟩ :: dl) e σ d h Q := by
  subst hv; exact op_g (K' := fun σ d h => wpDraw P w0 dl e σ d h Q) hg H (fun H => WP.mono hK H) hK
theorem sd_gc {i : Nat} {dst : Option Pos} {f : FuncId} {args : List Opd} {vs : List Value} {g : Pos} {gv : Value} {want : Bool} {E K : Value → W} (hg : σ g = gv) (hv : args.map (opdS σ) = vs) (H : gd gv want (fun k => cl P w0 f vs E k) K h) (hE : ∀ v h, E v h → Q (.pan v) σ d h) (hK : ∀ v h, K v h → wpDraw P w0 dl e (σ.upO dst v) d h Q) : wpDraw P w0 (.op i ⟨dst, .call f, args, some (g, want)⟩ :: dl) e σ d h Q := by
  subst hv; exact op_g (K' := fun σ d h => wpDraw P w0 dl e σ d h Q) hg H (fun H => act_c H hE hK) hK
theorem sd_gd {i : Nat} {dst : Option Pos} {args : List Opd} {vs : List Value} {g : Pos} {gv : Value} {want : Bool} {E K : Value → W} (hg : σ g = gv) (hv : args.map (opdS σ) = vs) (H : gd gv want (fun k => dy P w0 vs E k) K h) (hE : ∀ v h, E v h → Q (.pan v) σ d h) (hK : ∀ v h, K v h → wpDraw P w0 dl e (σ.upO dst v) d h Q) : wpDraw P w0 (.op i ⟨dst, .dyn, args, some (g, want)⟩ :: dl) e σ d h Q := by
  subst hv; exact op_g (K' := fun σ d h => wpDraw P w0 dl e σ d h Q) hg H (fun H => act_d H hE hK) hK
theorem sd_k {i : Nat} {p : Prim} {args : List Opd} {vs : List Value} {q : Pos} {v : Value} {K : W} (hm : p.makes = false) (hq : σ q = v) (hv : args.map (opdS σ) = vs) (H : ck p vs v K h) (hK : K h → wpDraw P w0 dl e σ d h Q) : wpDraw P w0 (.chk i ⟨some q, .prim p, args, none⟩ :: dl) e σ d h Q := by
  subst hv; subst hq
  exact ⟨by unfold chkS chkB; simp only [hm]; exact H.1, hK H.2⟩
theorem sd_gk {i : Nat} {p : Prim} {args : List Opd} {vs : List Value} {q g : Pos} {v gv : Value} {want : Bool} {K : W} (hm : p.makes = false) (hg : σ g = gv) (hq : σ q = v) (hv : args.map (opdS σ) = vs) (H : gk gv want (fun k => ck p vs v k) K h) (hK : K h → wpDraw P w0 dl e σ d h Q) : wpDraw P w0 (.chk i ⟨some q, .prim p, args, some (g, want)⟩ :: dl) e σ d h Q := by
  subst hv; subst hq
  obtain ⟨h1, h2⟩ := chk_g (p := p) (args := args) (q := q) hg H fun H => ⟨by unfold chkB; simp only [hm]; exact H.1, H.2⟩
  exact ⟨h1, hK h2⟩
theorem sd_km {i : Nat} {p : Prim} {args : List Opd} {vs : List Value} {q : Pos} {v : Value} {K : W} (hm : p.makes = true) (hq : σ q = v) (hv : args.map (opdS σ) = vs) (H : ckm p vs v K h) (hK : K h → wpDraw P w0 dl e σ d h Q) : wpDraw P w0 (.chk i ⟨some q, .prim p, args, none⟩ :: dl) e σ d h Q := by
  subst hv; subst hq
  exact ⟨by unfold chkS chkB; simp only [hm]; exact H.1, hK H.2⟩
theorem sd_gkm {i : Nat} {p : Prim} {args : List Opd} {vs : List Value} {q g : Pos} {v gv : Value} {want : Bool} {K : W} (hm : p.makes = true) (hg : σ g = gv) (hq : σ q = v) (hv : args.map (opdS σ) = vs) (H : gk gv want (fun k => ckm p vs v k) K h) (hK : K h → wpDraw P w0 dl e σ d h Q) : wpDraw P w0 (.chk i ⟨some q, .prim p, args, some (g, want)⟩ :: dl) e σ d h Q := by
  subst hv; subst hq
  obtain ⟨h1, h2⟩ := chk_g (p := p) (args := args) (q := q) hg H fun H => ⟨by unfold chkB; simp only [hm]; exact H.1, H.2⟩
  exact ⟨h1, hK h2⟩

/-- where ways meet again -/
theorem st_join {α : Type} (U : List (Pos × Value)) (M : α → List (Pos × Value)) (π : Sl → α) (J : α → W) (hM : ∀ σ, agr σ (M (π σ))) (hb : ∀ (x : α) (σ : Sl) (h : AH), J x h → wpC P w0 b e ((σ.ups U).ups (M x)) d h Q)
    (ha : wpC P w0 a e σ d h (seqQ (fun σ d' h => d' = d ∧ agr σ U ∧ J (π σ) h) Q)) : wpC P w0 (.seq a b) e σ d h Q := by
  refine wpC_mono a (fun x σ d' h hx => ?_) ha
  cases x with
  | normal =>
    obtain ⟨rfl, h2, h3⟩ := hx
    have := hb (π σ) σ h h3
    rwa [ups_agr h2, ups_agr (hM σ)] at this
  | _ => exact hx
theorem st_loop (hmix : P.follows .mixedOrders = true) {α : Type} (U : List (Pos × Value)) (M : α → List (Pos × Value)) (π : Sl → α) (F : (α → W) → α → W) (hM : ∀ σ, agr σ (M (π σ)))
    (hF : ∀ (k : α → W) (x : α) (σ : Sl) (h : AH), F k x h → wpC P w0 c e ((σ.ups U).ups (M x)) d h (seqQ (fun σ d' h => d' = d ∧ agr σ U ∧ k (π σ) h) Q)) {x : α} (hx : π σ = x) (hU : agr σ U) (H : LP F x h) : wpC P w0 (.loop c) e σ d h Q := by
  subst hx
  obtain ⟨n, H⟩ := H
  revert H hU
  have key : ∀ n σ h, agr σ U → LPn F n (π σ) h → WC P w0 (.loop c) e σ d h Q := by
    intro n
    induction n with
    | zero => intro σ h _ H; exact H.elim
    | succ n ih =>
      intro σ h hU H
      refine WC_loop hmix ?_
      have h1 := hF (LPn F n) (π σ) σ h H
      rw [ups_agr hU, ups_agr (hM σ)] at h1
      refine wpC_mono c (fun x σ d' h hx => ?_) h1
      cases x with
      | normal =>
        obtain ⟨rfl, h2, h3⟩ := hx
        exact ih σ h h2 h3
      | _ => exact hx
  exact key n σ h
end
end
end Go.Ve
/- VEval, part 50: from a call that returns true, and changes nothing of what was there, to the law's row. Conditions: as the rows' builders ask. -/
namespace Go.Ve
open Go.ChangeShapes Go.WideShapes Go.ChangeAt Go.RowKit
section
variable {H : Type} {enc : TypeId × Value → H} {P : Program}

theorem trodAll_below (hl : laidOutB P = true) {W W' : World} (hb : Below W.heap.size W W') : ∀ {ts : List TypeId} {vs : List Value} {ds : List (DataW H)} {ps : List MemPlace}, (∀ t ∈ ts, P.readableRec t = true ∧ t < P.types.size) →
    DataW.TrodAll enc P W 0 (fun _ => true) true ts vs ds ps → (∀ x ∈ ps, x.block < W.heap.size) → DataW.TrodAll enc P W' 0 (fun b => decide (b < W.heap.size)) true ts vs ds ps
  | [], [], [], ps, _, h, _ => h
  | [], _ :: _, _, ps, _, h, _ => h.elim
  | [], [], _ :: _, ps, _, h, _ => h.elim
  | _ :: _, [], _, ps, _, h, _ => h.elim
  | _ :: _, _ :: _, [], ps, _, h, _ => h.elim
  | t :: ts, v :: vs, d :: ds, ps, hr, h, hlt => by
    obtain ⟨p, q, h1, h2, rfl⟩ := h
    have hr1 := hr t List.mem_cons_self
    exact ⟨p, q, Below.trod hl hr1.1 hr1.2 h1 hb fun x hx => hlt x (List.mem_append_left _ hx), trodAll_below hl hb (fun t ht => hr t (List.mem_cons_of_mem _ ht)) h2 fun x hx => hlt x (List.mem_append_right _ hx), rfl⟩

theorem trodAll_len {W : World} {base : Nat} {sp : Nat → Bool} {held : Bool} : ∀ {ts : List TypeId} {vs : List Value} {ds : List (DataW H)} {ps : List MemPlace}, DataW.TrodAll enc P W base sp held ts vs ds ps → ds.length = ts.length ∧ vs.length = ts.length
  | [], [], [], _, _ => ⟨rfl, rfl⟩
  | [], _ :: _, _, ps, h => h.elim
  | [], [], _ :: _, ps, h => h.elim
  | _ :: _, [], _, ps, h => h.elim
  | _ :: _, _ :: _, [], ps, h => h.elim
  | t :: ts, v :: vs, d :: ds, ps, h => by
    obtain ⟨p, q, h1, h2, _⟩ := h
    have := trodAll_len h2
    exact ⟨by simp [this.1], by simp [this.2]⟩

theorem law_post {fn : Func} {s : ChangeSpec} {W W' : World} {args : Array Value} {ds gs : List (DataW H)} {before : List MemPlace} {tb : TypeId} (hl : laidOutB P = true) (hps : ∀ t ∈ fn.params.toList, P.readableRec t = true ∧ t < P.types.size)
    (hrt : fn.resultTypes = #[tb]) (htb : P.underlying tb = some .bool) (hsv : s.vars = []) (hspec : ∀ ds : List (DataW H), ds.length = fn.params.toList.length → s.fn H ds = { results := [.lit (.bool true)], args := ds })
    (hW : DataW.Whole enc P fn.params.toList s.vars false W args.toList ds gs before) (hb : Below W.heap.size W W') : s.post enc P fn false true false false W args (.bool true) W' := by
  have hW0 := hW
  have hlt : ∀ p ∈ before, p.block < W.heap.size := fun p hp => hW.lt p hp
  obtain ⟨p, q, hA, hV, hpq, hz, hn⟩ := hW
  rw [hsv] at hV
  obtain ⟨hg, hq⟩ := trodVars_none hV
  have hlen := trodAll_len hA
  have hs := hspec ds hlen.1
  subst hg; subst hq
  rw [List.append_nil] at hpq
  subst hpq
  have hres : s.fn H (ds ++ []) = { results := [.lit (.bool true)], args := ds } := by rw [List.append_nil]; exact hs
  refine ⟨ds, [], before, [], before, [], hW0, ?_, ?_, ?_, World.keptBut_mono (fun p hp => ⟨hp, .inr (.inl hp)⟩) (hb.frame (· ∈ before)), fun h => by cases h⟩
  · rw [hres, hrt]
    exact trodAll_cons_mk (shut_bool htb true) trodAll_mk0
  · rw [hres]
    exact trodAll_below hl hb hps hA hlt
  · rw [hres, hsv]
    exact rfl

theorem law_lifted {C : Checked} {os : Os} {f : FuncId} {fn : Func} {s : ChangeSpec} {tb : TypeId} (own : ownKnob C.prog.godebug = none) (started : os.Started) (noInit : C.prog.inits.idxOf? f = none) (hfn : C.prog.funcs[f]? = some fn)
    (witness : ∃ (w : World) (tape : Tape) (i : Input), w.os = os ∧ (w.forCall tape i).Shaped C.prog ∧ i.vars = [] ∧ Input.okWide C.prog (w.forCall tape i) .any w.heap.size f i ∧
      s.pre6 enc C.prog fn [] false (w.forCall tape i).memory i.args ∧ ({} : Assume).holds C.prog (lone (Frame.enter C.prog f i.args .normal) [] (w.forCall tape i)))
    (hl : laidOutB C.prog = true) (hps : ∀ t ∈ fn.params.toList, C.prog.readableRec t = true ∧ t < C.prog.types.size)
    (hrt : fn.resultTypes = #[tb]) (htb : C.prog.underlying tb = some .bool) (hsv : s.vars = []) (hspec : ∀ ds : List (DataW H), ds.length = fn.params.toList.length → s.fn H ds = { results := [.lit (.bool true)], args := ds })
    (walk : ∀ (W : World) (base : Nat) (args : Array Value) (ds : List (DataW H)) (ps : List MemPlace), (∀ (j : Nat) t v, fn.params[j]? = some t → args[j]? = some v → Value.okWide C.prog W .any base t v) →
      DataW.TrodAll enc C.prog W 0 (fun _ => true) true fn.params.toList args.toList ds ps → Calls C.prog f args W fun e w' => e = .returned (.bool true) ∧ Below W.heap.size W w') :
    ReturnsInHanded {} C os f .any (s.pre6 enc C.prog fn [] false) (s.post enc C.prog fn false true false false) := by
  refine returnsInHanded_of_change own started noInit hfn witness ?_
  intro W base args ds gs before hval hW _ _
  have hW0 := hW
  obtain ⟨p, q, hA, hV, hpq, hz, hn⟩ := hW
  refine (walk W base args ds p hval hA).mono fun e W' he => ?_
  exact ⟨_, he.1, law_post hl hps hrt htb hsv hspec hW0 he.2⟩
end

/-- what a call comes to, in the machine's world: from the evaluator's words, where nothing is known of the heap -/
theorem calls_bare {P : Program} {f : FuncId} {args : List Value} {args' : Array Value} {w : World} (hl : LR (fun _ => none) args args'.toList) (H : WF P w f args ⟨0, .e⟩ fun r _ => r = .ret (.bool true)) :
    Calls P f args' w fun e w' => e = .returned (.bool true) ∧ Below w.heap.size w w' := by
  refine (H.2 (fun _ => none) args' w hl (HR.bare P w)).mono fun E w' hR => ?_
  obtain ⟨r, h', φ', h1, h2, h3, h4, h5⟩ := hR
  have hr := @of_decide_eq_true _ (Classical.propDecidable _) h1
  subst hr
  obtain ⟨v', rfl, hv⟩ := h5
  exact ⟨by rw [VR.bool_inv hv], h4.below⟩
end Go.Ve
