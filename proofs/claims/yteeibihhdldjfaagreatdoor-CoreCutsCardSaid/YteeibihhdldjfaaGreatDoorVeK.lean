/- Part 11: VEval, part 43: the words of closed forms (a function's code over named values, with no slots), and the steps that show a closed form to be right. No condition. -/
import Derived.Test.YteeibihhdldjfaaGreatDoorVeJ
set_option linter.unusedVariables false
set_option linter.unusedSimpArgs false
namespace Go.Ve
open Go.RowKit
noncomputable section
abbrev W := AH → Prop
def pr (p : Prim) (vs : List Value) (K : Value → W) : W := fun h => WP p vs h K
def ld (p : Prim) (vs : List Value) (K : Value → W) : W := fun h => WP p vs h fun v _ => K v h
def cl (P : Program) (w0 : World) (f : FuncId) (vs : List Value) (E K : Value → W) : W := fun h => WF P w0 f vs h fun r h => match r with
  | .ret v => K v h
  | .pan v => E v h
def dy (P : Program) (w0 : World) (vs : List Value) (E K : Value → W) : W := match vs with
  | .func (.func g) ⟨first⟩ ⟨capt⟩ :: as => cl P w0 g (first ++ (as ++ capt)) E K
  | .func (.yield l) ⟨[]⟩ ⟨[]⟩ :: as => fun h => WR P w0 l as h fun r h => match r with
    | .ret v => K v h
    | .pan v => E v h
  | _ => fun _ => False
def pn (vs : List Value) (E : Value → W) : W := match vs with
  | [.iface t x] => E (.iface t x)
  | _ => fun _ => False
def gd (g : Value) (want : Bool) (A : (Value → W) → W) (K : Value → W) : W := match g with
  | .bool b => bif eqBB b want then A K else K undef
  | _ => K undef
def br (c : Value) (A B : W) : W := match c with
  | .bool true => A
  | .bool false => B
  | _ => fun _ => False
def ck (p : Prim) (vs : List Value) (v : Value) (K : W) : W := fun h => WP p vs h (fun v' _ => valEq v' v = true) ∧ K h
def ckm (p : Prim) (vs : List Value) (v : Value) (K : W) : W := fun h => p.fresh vs (chkMade ⟨.e, [], .off, h⟩ v) = true ∧ K h
def gk (g : Value) (want : Bool) (A : W → W) (K : W) : W := match g with
  | .bool b => bif eqBB b want then A K else K
  | _ => K
def LPn {α : Type} (F : (α → W) → α → W) : Nat → α → W
  | 0, _ => fun _ => False
  | n + 1, a => F (LPn F n) a
def LP {α : Type} (F : (α → W) → α → W) (a : α) : W := fun h => ∃ n, LPn F n a h
theorem gd_T (A : (Value → W) → W) (K : Value → W) : gd (.bool true) true A K = A K := rfl
theorem gd_F (A : (Value → W) → W) (K : Value → W) : gd (.bool false) false A K = A K := rfl
theorem gd_TF (A : (Value → W) → W) (K : Value → W) : gd (.bool true) false A K = K undef := rfl
theorem gd_FT (A : (Value → W) → W) (K : Value → W) : gd (.bool false) true A K = K undef := rfl
theorem gd_U (w : Bool) (A : (Value → W) → W) (K : Value → W) : gd undef w A K = K undef := rfl
theorem gk_T (A : W → W) (K : W) : gk (.bool true) true A K = A K := rfl
theorem gk_F (A : W → W) (K : W) : gk (.bool false) false A K = A K := rfl
theorem gk_TF (A : W → W) (K : W) : gk (.bool true) false A K = K := rfl
theorem gk_FT (A : W → W) (K : W) : gk (.bool false) true A K = K := rfl
theorem gk_U (w : Bool) (A : W → W) (K : W) : gk undef w A K = K := rfl
theorem br_T (A B : W) : br (.bool true) A B = A := rfl
theorem br_F (A B : W) : br (.bool false) A B = B := rfl
def agr (σ : Sl) : List (Pos × Value) → Prop
  | [] => True
  | (p, v) :: U => σ p = v ∧ agr σ U
def Sl.ups (σ : Sl) : List (Pos × Value) → Sl
  | [] => σ
  | (p, v) :: U => Sl.up (Sl.ups σ U) p v
theorem ups_agr {σ : Sl} : ∀ {U : List (Pos × Value)}, agr σ U → σ.ups U = σ
  | [], _ => rfl
  | (p, v) :: U, ⟨h1, h2⟩ => by
    show Sl.up (σ.ups U) p v = σ
    rw [ups_agr h2]
    funext q
    unfold Sl.up
    cases h : p.beq q with
    | true => rw [← Pos.beq_iff.1 h]; exact h1.symm
    | false => rfl
section
variable {P : Program} {w0 : World} {e : Env} {σ : Sl} {d : DS} {h : AH} {Q : PQ} {l : List AOp} {dl : List DOp} {a b c : ACode}
theorem st_skip (H : Q .normal σ d h) : wpC P w0 .skip e σ d h Q := H
theorem st_ops (H : wpOps P w0 l e σ d h Q) : wpC P w0 (.ops l) e σ d h Q := H
theorem st_seq (H : wpC P w0 a e σ d h (seqQ (fun σ d h => wpC P w0 b e σ d h Q) Q)) : wpC P w0 (.seq a b) e σ d h Q := H
theorem st_nil (H : Q .normal σ d h) : wpOps P w0 [] e σ d h Q := H
theorem st_next {K : Sl → DS → AH → Prop} (H : K σ d h) : seqQ K Q .normal σ d h := H
theorem st_cond {o : Opd} {v : Value} {A B : W} (hv : opdS σ o = v) (H : br v A B h) (ha : A h → wpC P w0 a e σ d h Q) (hb : B h → wpC P w0 b e σ d h Q) : wpC P w0 (.cond o a b) e σ d h Q := by
  simp only [wpC]
  rw [hv]
  unfold br at H
  revert H
  cases v <;> intro H <;> first | exact H.elim | skip
  rename_i t
  revert H
  cases t with
  | true => exact ha
  | false => exact hb
theorem act_p {dst : Option Pos} {p : Prim} {vs : List Value} {K : Value → W} {K' : Sl → DS → AH → Prop} (H : pr p vs K h) (hK : ∀ v h, K v h → K' (σ.upO dst v) d h) : wpAct P w0 (.prim p) dst e σ d h vs Q K' := WP.mono hK H
theorem act_c {dst : Option Pos} {f : FuncId} {vs : List Value} {E K : Value → W} {K' : Sl → DS → AH → Prop} (H : cl P w0 f vs E K h) (hE : ∀ v h, E v h → Q (.pan v) σ d h) (hK : ∀ v h, K v h → K' (σ.upO dst v) d h) : wpAct P w0 (.call f) dst e σ d h vs Q K' :=
  WF.mono (fun r h hr => by cases r with | ret v => exact hK _ _ hr | pan v => exact hE _ _ hr) H
theorem act_d {dst : Option Pos} {vs : List Value} {E K : Value → W} {K' : Sl → DS → AH → Prop} (H : dy P w0 vs E K h) (hE : ∀ v h, E v h → Q (.pan v) σ d h) (hK : ∀ v h, K v h → K' (σ.upO dst v) d h) : wpAct P w0 .dyn dst e σ d h vs Q K' := by
  unfold dy at H
  simp only [wpAct]
  split at H
  · exact WF.mono (fun r h hr => by cases r with | ret v => exact hK _ _ hr | pan v => exact hE _ _ hr) H
  · exact WR.mono (fun r h hr => by cases r with | ret v => exact hK _ _ hr | pan v => exact hE _ _ hr) H
  · exact H.elim
theorem act_n {dst : Option Pos} {vs : List Value} {E : Value → W} {K' : Sl → DS → AH → Prop} (H : pn vs E h) (hE : ∀ v h, E v h → Q (.pan v) σ d h) : wpAct P w0 .panic dst e σ d h vs Q K' := by
  unfold pn at H
  simp only [wpAct]
  split at H
  · exact hE _ _ H
  · exact H.elim
theorem op_g {dst : Option Pos} {act : Act1} {args : List Opd} {g : Pos} {gv : Value} {want : Bool} {A : (Value → W) → W} {K : Value → W} {K' : Sl → DS → AH → Prop} (hg : σ g = gv) (H : gd gv want A K h) (hA : A K h → wpAct P w0 act dst e σ d h (args.map (opdS σ)) Q K') (hK : ∀ v h, K v h → K' (σ.upO dst v) d h) :
    wpOp P w0 ⟨dst, act, args, some (g, want)⟩ e σ d h Q K' := by
  unfold wpOp
  simp only []
  rw [hg]
  unfold gd at H
  revert H
  cases gv <;> intro H <;> first | exact hK _ _ H | skip
  rename_i b
  simp only at H ⊢
  revert H
  cases eqBB b want with
  | true => exact hA
  | false => exact hK _ _
theorem chk_g {p : Prim} {args : List Opd} {q g : Pos} {gv : Value} {want : Bool} {A : W → W} {K : W} (hg : σ g = gv) (H : gk gv want A K h) (hA : A K h → chkB (.prim p) (some q) (args.map (opdS σ)) σ h ∧ K h) : chkS ⟨some q, .prim p, args, some (g, want)⟩ σ h ∧ K h := by
  unfold chkS
  simp only []
  rw [hg]
  unfold gk at H
  revert H
  cases gv <;> intro H <;> first | exact ⟨trivial, H⟩ | skip
  rename_i b
  simp only at H ⊢
  revert H
  cases eqBB b want with
  | true => exact hA
  | false => exact fun H => ⟨trivial, H⟩
theorem st_m {dst : Option Pos} {x : Opd} {v : Value} (hv : opdS σ x = v) (H : wpOps P w0 l e (σ.upO dst v) d h Q) : wpOps P w0 (⟨dst, .prim .move, [x], none⟩ :: l) e σ d h Q := by
  subst hv; exact fun k hk => hk _ _ H
theorem st_p {dst : Option Pos} {p : Prim} {args : List Opd} {vs : List Value} {K : Value → W} (hv : args.map (opdS σ) = vs) (H : pr p vs K h) (hK : ∀ v h, K v h → wpOps P w0 l e (σ.upO dst v) d h Q) : wpOps P w0 (⟨dst, .prim p, args, none⟩ :: l) e σ d h Q := by
  subst hv; exact act_p (P := P) (w0 := w0) (e := e) (dst := dst) (Q := Q) (K' := fun σ d h => wpOps P w0 l e σ d h Q) H hK
theorem st_c {dst : Option Pos} {f : FuncId} {args : List Opd} {vs : List Value} {E K : Value → W} (hv : args.map (opdS σ) = vs) (H : cl P w0 f vs E K h) (hE : ∀ v h, E v h → Q (.pan v) σ d h) (hK : ∀ v h, K v h → wpOps P w0 l e (σ.upO dst v) d h Q) : wpOps P w0 (⟨dst, .call f, args, none⟩ :: l) e σ d h Q := by
  subst hv; exact act_c (e := e) (dst := dst) (K' := fun σ d h => wpOps P w0 l e σ d h Q) H hE hK
theorem st_gm {dst : Option Pos} {x : Opd} {v : Value} {g : Pos} {gv : Value} {want : Bool} {K : Value → W} (hg : σ g = gv) (hv : opdS σ x = v) (H : gd gv want (fun k => k v) K h) (hK : ∀ v h, K v h → wpOps P w0 l e (σ.upO dst v) d h Q) : wpOps P w0 (⟨dst, .prim .move, [x], some (g, want)⟩ :: l) e σ d h Q := by
  subst hv; exact op_g (K' := fun σ d h => wpOps P w0 l e σ d h Q) hg H (fun H k hk => hk _ _ (hK _ _ H)) hK
theorem st_gp {dst : Option Pos} {p : Prim} {args : List Opd} {vs : List Value} {g : Pos} {gv : Value} {want : Bool} {K : Value → W} (hg : σ g = gv) (hv : args.map (opdS σ) = vs) (H : gd gv want (fun k => pr p vs k) K h) (hK : ∀ v h, K v h → wpOps P w0 l e (σ.upO dst v) d h Q) : wpOps P w0 (⟨dst, .prim p, args, some (g, want)⟩ :: l) e σ d h Q := by
  subst hv; exact op_g (K' := fun σ d h => wpOps P w0 l e σ d h Q) hg H (fun H => WP.mono hK H) hK
theorem st_join {α : Type} (U : List (Pos × Value)) (M : α → List (Pos × Value)) (π : Sl → α) (J : α → W) (hM : ∀ σ, agr σ (M (π σ))) (hb : ∀ (x : α) (σ : Sl) (h : AH), J x h → wpC P w0 b e ((σ.ups U).ups (M x)) d h Q)
    (ha : wpC P w0 a e σ d h (seqQ (fun σ d' h => d' = d ∧ agr σ U ∧ J (π σ) h) Q)) : wpC P w0 (.seq a b) e σ d h Q := by
  refine wpC_mono a (fun x σ d' h hx => ?_) ha
  cases x with
  | normal =>
    obtain ⟨rfl, h2, h3⟩ := hx
    have := hb (π σ) σ h h3
    rwa [ups_agr h2, ups_agr (hM σ)] at this
  | _ => exact hx
end
end
end Go.Ve
