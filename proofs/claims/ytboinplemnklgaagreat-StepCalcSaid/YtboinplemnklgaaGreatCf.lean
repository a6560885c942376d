/- MADE BY A PROGRAM (dec.py): closed forms of functions, with the proofs that they are right. No condition. -/
import Derived.Test.YtboinplemnklgaaGreatLit
set_option linter.unusedVariables false
set_option linter.unusedSimpArgs false
namespace Go.Ve.T
open Go.Ve Go.Proofs
noncomputable section
set_option maxRecDepth 10000
set_option linter.unusedVariables false
def step_within_F (w0 : World) (E R : Value → W) (x0 : Value) : W :=
  pr (.iop .leq) [(vi (-1099511627776)), x0] fun v1 =>
  gd v1 true (fun k => k x0) fun v2 =>
  gd v1 true (fun k => pr (.iop .leq) [v2, (vi 1099511627776)] k) fun v3 =>
  pr (.pick) [v1, v3, (.bool false)] fun v4 =>
  R v4
theorem step_within_wp {w0 : World} {h : AH} {Q : CR → AH → Prop} (x0 : Value) (H : step_within_F w0 (fun v h => Q (.pan v) h) (fun v h => Q (.ret v) h) x0 h) : WF PP w0 id_step_within [x0] h Q := by
  let E : Value → W := fun v h => Q (.pan v) h
  let R : Value → W := fun v h => Q (.ret v) h
  refine WF_enter hmix e50 ?_
  refine st_seq ?_
  refine st_ops ?_
  refine st_m (v := (.bool false)) (by kernel_rfl) ?_
  refine st_nil ?_
  refine st_next ?_
  refine st_seq ?_
  refine st_ops ?_
  refine st_m (v := x0) (by kernel_rfl) ?_
  refine st_p (vs := [(vi (-1099511627776)), x0]) (by kernel_rfl) H fun v1 h H => ?_
  refine st_m (v := v1) (by kernel_rfl) ?_
  refine st_gm (v := x0) (gv := v1) (by kernel_rfl) (by kernel_rfl) H fun v2 h H => ?_
  refine st_gp (vs := [v2, (vi 1099511627776)]) (gv := v1) (by kernel_rfl) (by kernel_rfl) H fun v3 h H => ?_
  refine st_p (vs := [v1, v3, (.bool false)]) (by kernel_rfl) H fun v4 h H => ?_
  refine st_m (v := v4) (by kernel_rfl) ?_
  refine st_nil ?_
  refine st_next ?_
  exact Eq.mp (by kernel_rfl) H
def step_product_J2 (w0 : World) (E R : Value → W) (x0 : Value) (x1 : Value) : W :=
  pr (.iop .mul) [x0, x1] fun v1 =>
  R (.tuple ⟨[v1, (.bool true)]⟩)
def step_product_J1 (w0 : World) (E R : Value → W) (x0 : Value) (x1 : Value) : W :=
  pr (.neg) [x0] fun v2 =>
  pr (.maxI) [x0, v2] fun v3 =>
  pr (.iop .quo) [(vi 1099511627776), v3] fun v4 =>
  pr (.iop .gtr) [x1, v4] fun v5 =>
  gd v5 false (fun k => k x1) fun v6 =>
  gd v5 false (fun k => k v4) fun v7 =>
  gd v5 false (fun k => pr (.neg) [v7] k) fun v8 =>
  gd v5 false (fun k => pr (.iop .lss) [v6, v8] k) fun v9 =>
  pr (.pick) [v5, (.bool true), v9] fun v10 =>
  br v10 (
  R (.tuple ⟨[(vi 0), (.bool false)]⟩)) (
  step_product_J2 w0 E R x0 x1)
def step_product_F (w0 : World) (E R : Value → W) (x0 : Value) (x1 : Value) : W :=
  pr (.iop .eql) [x0, (vi 0)] fun v11 =>
  gd v11 false (fun k => k x1) fun v12 =>
  gd v11 false (fun k => pr (.iop .eql) [v12, (vi 0)] k) fun v13 =>
  pr (.pick) [v11, (.bool true), v13] fun v14 =>
  br v14 (
  R (.tuple ⟨[(vi 0), (.bool true)]⟩)) (
  step_product_J1 w0 E R x0 x1)
theorem step_product_wp {w0 : World} {h : AH} {Q : CR → AH → Prop} (x0 : Value) (x1 : Value) (H : step_product_F w0 (fun v h => Q (.pan v) h) (fun v h => Q (.ret v) h) x0 x1 h) : WF PP w0 id_step_product [x0, x1] h Q := by
  let E : Value → W := fun v h => Q (.pan v) h
  let R : Value → W := fun v h => Q (.ret v) h
  refine WF_enter hmix e51 ?_
  refine st_seq ?_
  refine st_ops ?_
  refine st_m (v := (vi 0)) (by kernel_rfl) ?_
  refine st_m (v := (.bool false)) (by kernel_rfl) ?_
  refine st_nil ?_
  refine st_next ?_
  refine st_join (α := Unit) [(s0, x0), (s1, x1)] (fun a => []) (fun σ => ()) (fun a => step_product_J1 w0 E R x0 x1 ) (fun σ => trivial) (fun a1 σ h H => ?_) ?_
  · refine st_join (α := Unit) [(s0, x0), (s1, x1)] (fun a => []) (fun σ => ()) (fun a => step_product_J2 w0 E R x0 x1 ) (fun σ => trivial) (fun a2 σ h H => ?_) ?_
    · refine st_seq ?_
      refine st_ops ?_
      refine st_m (v := x0) (by kernel_rfl) ?_
      refine st_m (v := x1) (by kernel_rfl) ?_
      refine st_p (vs := [x0, x1]) (by kernel_rfl) H fun v1 h H => ?_
      refine st_m (v := v1) (by kernel_rfl) ?_
      refine st_m (v := (.bool true)) (by kernel_rfl) ?_
      refine st_nil ?_
      refine st_next ?_
      exact Eq.mp (by kernel_rfl) H
    · refine st_seq ?_
      refine st_ops ?_
      refine st_m (v := x0) (by kernel_rfl) ?_
      refine st_m (v := x0) (by kernel_rfl) ?_
      refine st_p (vs := [x0]) (by kernel_rfl) H fun v2 h H => ?_
      refine st_p (vs := [x0, v2]) (by kernel_rfl) H fun v3 h H => ?_
      refine st_p (vs := [(vi 1099511627776), v3]) (by kernel_rfl) H fun v4 h H => ?_
      refine st_m (v := v4) (by kernel_rfl) ?_
      refine st_nil ?_
      refine st_next ?_
      refine st_seq ?_
      refine st_ops ?_
      refine st_m (v := x1) (by kernel_rfl) ?_
      refine st_m (v := v4) (by kernel_rfl) ?_
      refine st_p (vs := [x1, v4]) (by kernel_rfl) H fun v5 h H => ?_
      refine st_m (v := v5) (by kernel_rfl) ?_
      refine st_gm (v := x1) (gv := v5) (by kernel_rfl) (by kernel_rfl) H fun v6 h H => ?_
      refine st_gm (v := v4) (gv := v5) (by kernel_rfl) (by kernel_rfl) H fun v7 h H => ?_
      refine st_gp (vs := [v7]) (gv := v5) (by kernel_rfl) (by kernel_rfl) H fun v8 h H => ?_
      refine st_gp (vs := [v6, v8]) (gv := v5) (by kernel_rfl) (by kernel_rfl) H fun v9 h H => ?_
      refine st_p (vs := [v5, (.bool true), v9]) (by kernel_rfl) H fun v10 h H => ?_
      refine st_nil ?_
      refine st_next ?_
      refine st_cond (v := v10) (by kernel_rfl) H (fun H => ?_) (fun H => ?_)
      · refine st_seq ?_
        refine st_ops ?_
        refine st_m (v := (vi 0)) (by kernel_rfl) ?_
        refine st_m (v := (.bool false)) (by kernel_rfl) ?_
        refine st_nil ?_
        refine st_next ?_
        exact Eq.mp (by kernel_rfl) H
      · refine st_skip ?_
        exact Eq.mp (by kernel_rfl) (And.intro (Eq.refl (⟨[], .off⟩ : DS)) (And.intro (And.intro (Eq.refl (x0 : Value)) (And.intro (Eq.refl (x1 : Value)) trivial)) H))
  · refine st_seq ?_
    refine st_ops ?_
    refine st_m (v := x0) (by kernel_rfl) ?_
    refine st_p (vs := [x0, (vi 0)]) (by kernel_rfl) H fun v11 h H => ?_
    refine st_m (v := v11) (by kernel_rfl) ?_
    refine st_gm (v := x1) (gv := v11) (by kernel_rfl) (by kernel_rfl) H fun v12 h H => ?_
    refine st_gp (vs := [v12, (vi 0)]) (gv := v11) (by kernel_rfl) (by kernel_rfl) H fun v13 h H => ?_
    refine st_p (vs := [v11, (.bool true), v13]) (by kernel_rfl) H fun v14 h H => ?_
    refine st_nil ?_
    refine st_next ?_
    refine st_cond (v := v14) (by kernel_rfl) H (fun H => ?_) (fun H => ?_)
    · refine st_seq ?_
      refine st_ops ?_
      refine st_m (v := (vi 0)) (by kernel_rfl) ?_
      refine st_m (v := (.bool true)) (by kernel_rfl) ?_
      refine st_nil ?_
      refine st_next ?_
      exact Eq.mp (by kernel_rfl) H
    · refine st_skip ?_
      exact Eq.mp (by kernel_rfl) (And.intro (Eq.refl (⟨[], .off⟩ : DS)) (And.intro (And.intro (Eq.refl (x0 : Value)) (And.intro (Eq.refl (x1 : Value)) trivial)) H))
def step_floored_J1 (w0 : World) (E R : Value → W) (y2 : Value) : W :=
  R y2
def step_floored_F (w0 : World) (E R : Value → W) (x0 : Value) (x1 : Value) : W :=
  pr (.iop .quo) [x0, x1] fun v1 =>
  pr (.iop .rem) [x0, x1] fun v3 =>
  pr (.iop .neq) [v3, (vi 0)] fun v4 =>
  gd v4 true (fun k => k x0) fun v5 =>
  gd v4 true (fun k => pr (.iop .lss) [v5, (vi 0)] k) fun v6 =>
  gd v4 true (fun k => k x1) fun v7 =>
  gd v4 true (fun k => pr (.iop .lss) [v7, (vi 0)] k) fun v8 =>
  gd v4 true (fun k => pr (.eqB true) [v6, v8] k) fun v9 =>
  pr (.pick) [v4, v9, (.bool false)] fun v10 =>
  br v10 (
  pr (.iop .sub) [v1, (vi 1)] fun v11 =>
  step_floored_J1 w0 E R  v11) (
  step_floored_J1 w0 E R  v1)
theorem step_floored_wp {w0 : World} {h : AH} {Q : CR → AH → Prop} (x0 : Value) (x1 : Value) (H : step_floored_F w0 (fun v h => Q (.pan v) h) (fun v h => Q (.ret v) h) x0 x1 h) : WF PP w0 id_step_floored [x0, x1] h Q := by
  let E : Value → W := fun v h => Q (.pan v) h
  let R : Value → W := fun v h => Q (.ret v) h
  refine WF_enter hmix e52 ?_
  refine st_seq ?_
  refine st_ops ?_
  refine st_m (v := (vi 0)) (by kernel_rfl) ?_
  refine st_nil ?_
  refine st_next ?_
  refine st_seq ?_
  refine st_ops ?_
  refine st_m (v := x0) (by kernel_rfl) ?_
  refine st_m (v := x1) (by kernel_rfl) ?_
  refine st_p (vs := [x0, x1]) (by kernel_rfl) H fun v1 h H => ?_
  refine st_m (v := v1) (by kernel_rfl) ?_
  refine st_nil ?_
  refine st_next ?_
  refine st_join (α := Value) [] (fun a => [(s5, a)]) (fun σ => (σ s5)) (fun a => step_floored_J1 w0 E R  a) (fun σ => (And.intro rfl trivial)) (fun a1 σ h H => ?_) ?_
  · refine st_seq ?_
    refine st_ops ?_
    refine st_m (v := a1) (by kernel_rfl) ?_
    refine st_m (v := a1) (by kernel_rfl) ?_
    refine st_nil ?_
    refine st_next ?_
    exact Eq.mp (by kernel_rfl) H
  · refine st_seq ?_
    refine st_ops ?_
    refine st_m (v := x0) (by kernel_rfl) ?_
    refine st_m (v := x1) (by kernel_rfl) ?_
    refine st_p (vs := [x0, x1]) (by kernel_rfl) H fun v3 h H => ?_
    refine st_p (vs := [v3, (vi 0)]) (by kernel_rfl) H fun v4 h H => ?_
    refine st_m (v := v4) (by kernel_rfl) ?_
    refine st_gm (v := x0) (gv := v4) (by kernel_rfl) (by kernel_rfl) H fun v5 h H => ?_
    refine st_gp (vs := [v5, (vi 0)]) (gv := v4) (by kernel_rfl) (by kernel_rfl) H fun v6 h H => ?_
    refine st_gm (v := x1) (gv := v4) (by kernel_rfl) (by kernel_rfl) H fun v7 h H => ?_
    refine st_gp (vs := [v7, (vi 0)]) (gv := v4) (by kernel_rfl) (by kernel_rfl) H fun v8 h H => ?_
    refine st_gp (vs := [v6, v8]) (gv := v4) (by kernel_rfl) (by kernel_rfl) H fun v9 h H => ?_
    refine st_p (vs := [v4, v9, (.bool false)]) (by kernel_rfl) H fun v10 h H => ?_
    refine st_nil ?_
    refine st_next ?_
    refine st_cond (v := v10) (by kernel_rfl) H (fun H => ?_) (fun H => ?_)
    · refine st_ops ?_
      refine st_m (v := v1) (by kernel_rfl) ?_
      refine st_p (vs := [v1, (vi 1)]) (by kernel_rfl) H fun v11 h H => ?_
      refine st_m (v := v11) (by kernel_rfl) ?_
      refine st_nil ?_
      exact Eq.mp (by kernel_rfl) (And.intro (Eq.refl (⟨[], .off⟩ : DS)) (And.intro trivial H))
    · refine st_skip ?_
      exact Eq.mp (by kernel_rfl) (And.intro (Eq.refl (⟨[], .off⟩ : DS)) (And.intro trivial H))
def step_Calc_J3 (w0 : World) (E R : Value → W) (y1 : Value) : W :=
  R (.tuple ⟨[y1, (vi 0)]⟩)
def step_Calc_J2 (w0 : World) (E R : Value → W) (y1 : Value) (y2 : Value) : W :=
  pr (.notB) [y2] fun v3 =>
  gd v3 false (fun k => k y1) fun v4 =>
  gd v3 false (fun k => cl PP w0 id_step_within [v4] E k) fun v5 =>
  gd v3 false (fun k => pr (.notB) [v5] k) fun v6 =>
  pr (.pick) [v3, (.bool true), v6] fun v7 =>
  br v7 (
  R (.tuple ⟨[(vi 0), (vi 7)]⟩)) (
  step_Calc_J3 w0 E R y1)
def step_Calc_J5 (w0 : World) (E R : Value → W) (x1 : Value) (y8 : Value) (x0 : Value) (y9 : Value) : W :=
  cl PP w0 id_step_floored [x1, y8] E fun v10 =>
  pr (.iop .eql) [x0, (vi 10)] fun v11 =>
  br v11 (
  pr (.iop .mul) [y8, v10] fun v12 =>
  pr (.iop .sub) [x1, v12] fun v13 =>
  step_Calc_J2 w0 E R  v13 y9) (
  step_Calc_J2 w0 E R  v10 y9)
def step_Calc_J4 (w0 : World) (E R : Value → W) (x1 : Value) (x0 : Value) (y8 : Value) (y9 : Value) : W :=
  pr (.iop .eql) [y8, (vi 0)] fun v14 =>
  br v14 (
  R (.tuple ⟨[(vi 0), (vi 8)]⟩)) (
  step_Calc_J5 w0 E R x1 y8 x0 y9)
def step_Calc_J6 (w0 : World) (E R : Value → W) (x1 : Value) (y15 : Value) : W :=
  cl PP w0 id_step_product [x1, y15] E fun v16 =>
  pr (.extract 0) [v16] fun v17 =>
  pr (.extract 1) [v16] fun v18 =>
  step_Calc_J2 w0 E R  v17 v18
def step_Calc_J7 (w0 : World) (E R : Value → W) (x1 : Value) (y19 : Value) : W :=
  pr (.iop .add) [x1, y19] fun v20 =>
  step_Calc_J2 w0 E R  v20 (.bool true)
def step_Calc_J8 (w0 : World) (E R : Value → W) (x2 : Value) (x1 : Value) : W :=
  pr (.neg) [x2] fun v21 =>
  step_Calc_J7 w0 E R x1 v21
def step_Calc_J12 (w0 : World) (E R : Value → W) (x1 : Value) (x0 : Value) (x2 : Value) (y22 : Value) : W :=
  br y22 (
  step_Calc_J4 w0 E R x1 x0 x2 (.bool true)) (
  step_Calc_J2 w0 E R  (vi 0) (.bool true))
def step_Calc_J11 (w0 : World) (E R : Value → W) (x0 : Value) (x1 : Value) (x2 : Value) : W :=
  pr (.iop .eql) [x0, (vi 9)] fun v23 =>
  br v23 (
  step_Calc_J12 w0 E R x1 x0 x2 v23) (
  pr (.iop .eql) [x0, (vi 10)] fun v24 =>
  step_Calc_J12 w0 E R x1 x0 x2 v24)
def step_Calc_J10 (w0 : World) (E R : Value → W) (x0 : Value) (x1 : Value) (x2 : Value) : W :=
  pr (.iop .eql) [x0, (vi 8)] fun v25 =>
  br v25 (
  step_Calc_J6 w0 E R x1 x2) (
  step_Calc_J11 w0 E R x0 x1 x2)
def step_Calc_J9 (w0 : World) (E R : Value → W) (x0 : Value) (x1 : Value) (x2 : Value) : W :=
  pr (.iop .eql) [x0, (vi 6)] fun v26 =>
  br v26 (
  step_Calc_J7 w0 E R x1 x2) (
  step_Calc_J10 w0 E R x0 x1 x2)
def step_Calc_J1 (w0 : World) (E R : Value → W) (x0 : Value) (x2 : Value) (x1 : Value) : W :=
  pr (.iop .eql) [x0, (vi 7)] fun v27 =>
  br v27 (
  step_Calc_J8 w0 E R x2 x1) (
  step_Calc_J9 w0 E R x0 x1 x2)
def step_Calc_J13 (w0 : World) (E R : Value → W) (x1 : Value) (x2 : Value) (x0 : Value) (y28 : Value) : W :=
  br y28 (
  cl PP w0 id_step_within [x1] E fun v29 =>
  pr (.notB) [v29] fun v30 =>
  gd v30 false (fun k => k x2) fun v31 =>
  gd v30 false (fun k => cl PP w0 id_step_within [v31] E k) fun v32 =>
  gd v30 false (fun k => pr (.notB) [v32] k) fun v33 =>
  pr (.pick) [v30, (.bool true), v33] fun v34 =>
  br v34 (
  R (.tuple ⟨[(vi 0), (vi 7)]⟩)) (
  step_Calc_J1 w0 E R x0 x2 x1)) (
  step_Calc_J1 w0 E R x0 x2 x1)
def step_Calc_F (w0 : World) (E R : Value → W) (x0 : Value) (x1 : Value) (x2 : Value) : W :=
  pr (.iop .eql) [x0, (vi 6)] fun v35 =>
  br v35 (
  step_Calc_J13 w0 E R x1 x2 x0 v35) (
  pr (.iop .eql) [x0, (vi 7)] fun v36 =>
  br v36 (
  step_Calc_J13 w0 E R x1 x2 x0 v36) (
  pr (.iop .eql) [x0, (vi 8)] fun v37 =>
  br v37 (
  step_Calc_J13 w0 E R x1 x2 x0 v37) (
  pr (.iop .eql) [x0, (vi 9)] fun v38 =>
  br v38 (
  step_Calc_J13 w0 E R x1 x2 x0 v38) (
  pr (.iop .eql) [x0, (vi 10)] fun v39 =>
  step_Calc_J13 w0 E R x1 x2 x0 v39))))
theorem step_Calc_wp {w0 : World} {h : AH} {Q : CR → AH → Prop} (x0 : Value) (x1 : Value) (x2 : Value) (H : step_Calc_F w0 (fun v h => Q (.pan v) h) (fun v h => Q (.ret v) h) x0 x1 x2 h) : WF PP w0 id_step_Calc [x0, x1, x2] h Q := by
  let E : Value → W := fun v h => Q (.pan v) h
  let R : Value → W := fun v h => Q (.ret v) h
  refine WF_enter hmix e14 ?_
  refine st_seq ?_
  refine st_ops ?_
  refine st_m (v := (vi 0)) (by kernel_rfl) ?_
  refine st_m (v := (vi 0)) (by kernel_rfl) ?_
  refine st_nil ?_
  refine st_next ?_
  refine st_seq ?_
  refine st_ops ?_
  refine st_m (v := (vi 0)) (by kernel_rfl) ?_
  refine st_m (v := (.bool true)) (by kernel_rfl) ?_
  refine st_nil ?_
  refine st_next ?_
  refine st_join (α := Unit) [(s0, x0), (s1, x1), (s2, x2), (s8, (vi 0)), (s9, (.bool true))] (fun a => []) (fun σ => ()) (fun a => step_Calc_J1 w0 E R x0 x2 x1 ) (fun σ => trivial) (fun a1 σ h H => ?_) ?_
  · refine st_join (α := Value × Value) [] (fun a => [(s8, a.1), (s9, a.2)]) (fun σ => (σ s8, σ s9)) (fun a => step_Calc_J2 w0 E R  a.1 a.2) (fun σ => (And.intro rfl (And.intro rfl trivial))) (fun a2 σ h H => ?_) ?_
    · refine st_join (α := Unit) [(s8, a2.1)] (fun a => []) (fun σ => ()) (fun a => step_Calc_J3 w0 E R a2.1 ) (fun σ => trivial) (fun a3 σ h H => ?_) ?_
      · refine st_seq ?_
        refine st_ops ?_
        refine st_m (v := a2.1) (by kernel_rfl) ?_
        refine st_m (v := a2.1) (by kernel_rfl) ?_
        refine st_m (v := (vi 0)) (by kernel_rfl) ?_
        refine st_nil ?_
        refine st_next ?_
        exact Eq.mp (by kernel_rfl) H
      · refine st_seq ?_
        refine st_ops ?_
        refine st_m (v := a2.2) (by kernel_rfl) ?_
        refine st_p (vs := [a2.2]) (by kernel_rfl) H fun v3 h H => ?_
        refine st_m (v := v3) (by kernel_rfl) ?_
        refine st_gm (v := a2.1) (gv := v3) (by kernel_rfl) (by kernel_rfl) H fun v4 h H => ?_
        refine st_gc (vs := [v4]) (gv := v3) (by kernel_rfl) (by kernel_rfl) H (fun _ _ H => H) fun v5 h H => ?_
        refine st_gp (vs := [v5]) (gv := v3) (by kernel_rfl) (by kernel_rfl) H fun v6 h H => ?_
        refine st_p (vs := [v3, (.bool true), v6]) (by kernel_rfl) H fun v7 h H => ?_
        refine st_nil ?_
        refine st_next ?_
        refine st_cond (v := v7) (by kernel_rfl) H (fun H => ?_) (fun H => ?_)
        · refine st_seq ?_
          refine st_ops ?_
          refine st_m (v := (vi 0)) (by kernel_rfl) ?_
          refine st_m (v := (vi 7)) (by kernel_rfl) ?_
          refine st_nil ?_
          refine st_next ?_
          exact Eq.mp (by kernel_rfl) H
        · refine st_skip ?_
          exact Eq.mp (by kernel_rfl) (And.intro (Eq.refl (⟨[], .off⟩ : DS)) (And.intro (And.intro (Eq.refl (a2.1 : Value)) trivial) H))
    · refine st_seq ?_
      refine st_ops ?_
      refine st_m (v := x0) (by kernel_rfl) ?_
      refine st_nil ?_
      refine st_next ?_
      refine st_block ?_
      refine st_join (α := Value × Value) [(s0, x0), (s1, x1)] (fun a => [(s2, a.1), (s9, a.2)]) (fun σ => (σ s2, σ s9)) (fun a => step_Calc_J4 w0 E R x1 x0 a.1 a.2) (fun σ => (And.intro rfl (And.intro rfl trivial))) (fun a4 σ h H => ?_) ?_
      · refine st_seq ?_
        refine st_join (α := Unit) [(s0, x0), (s1, x1), (s2, a4.1), (s9, a4.2)] (fun a => []) (fun σ => ()) (fun a => step_Calc_J5 w0 E R x1 a4.1 x0 a4.2 ) (fun σ => trivial) (fun a5 σ h H => ?_) ?_
        · refine st_seq ?_
          refine st_ops ?_
          refine st_m (v := x1) (by kernel_rfl) ?_
          refine st_m (v := a4.1) (by kernel_rfl) ?_
          refine st_c (vs := [x1, a4.1]) (by kernel_rfl) H (fun _ _ H => H) fun v10 h H => ?_
          refine st_m (v := v10) (by kernel_rfl) ?_
          refine st_nil ?_
          refine st_next ?_
          refine st_seq ?_
          refine st_ops ?_
          refine st_m (v := x0) (by kernel_rfl) ?_
          refine st_p (vs := [x0, (vi 10)]) (by kernel_rfl) H fun v11 h H => ?_
          refine st_nil ?_
          refine st_next ?_
          refine st_cond (v := v11) (by kernel_rfl) H (fun H => ?_) (fun H => ?_)
          · refine st_ops ?_
            refine st_m (v := x1) (by kernel_rfl) ?_
            refine st_m (v := a4.1) (by kernel_rfl) ?_
            refine st_m (v := v10) (by kernel_rfl) ?_
            refine st_p (vs := [a4.1, v10]) (by kernel_rfl) H fun v12 h H => ?_
            refine st_p (vs := [x1, v12]) (by kernel_rfl) H fun v13 h H => ?_
            refine st_m (v := v13) (by kernel_rfl) ?_
            refine st_nil ?_
            refine st_next ?_
            exact Eq.mp (by kernel_rfl) (And.intro (Eq.refl (⟨[], .off⟩ : DS)) (And.intro trivial H))
          · refine st_skip ?_
            refine st_next ?_
            exact Eq.mp (by kernel_rfl) (And.intro (Eq.refl (⟨[], .off⟩ : DS)) (And.intro trivial H))
        · refine st_seq ?_
          refine st_ops ?_
          refine st_m (v := a4.1) (by kernel_rfl) ?_
          refine st_p (vs := [a4.1, (vi 0)]) (by kernel_rfl) H fun v14 h H => ?_
          refine st_nil ?_
          refine st_next ?_
          refine st_cond (v := v14) (by kernel_rfl) H (fun H => ?_) (fun H => ?_)
          · refine st_seq ?_
            refine st_ops ?_
            refine st_m (v := (vi 0)) (by kernel_rfl) ?_
            refine st_m (v := (vi 8)) (by kernel_rfl) ?_
            refine st_nil ?_
            refine st_next ?_
            exact Eq.mp (by kernel_rfl) H
          · refine st_skip ?_
            exact Eq.mp (by kernel_rfl) (And.intro (Eq.refl (⟨[], .off⟩ : DS)) (And.intro (And.intro (Eq.refl (x0 : Value)) (And.intro (Eq.refl (x1 : Value)) (And.intro (Eq.refl (a4.1 : Value)) (And.intro (Eq.refl (a4.2 : Value)) trivial)))) H))
      · refine st_block ?_
        refine st_join (α := Value) [(s1, x1)] (fun a => [(s2, a)]) (fun σ => (σ s2)) (fun a => step_Calc_J6 w0 E R x1 a) (fun σ => (And.intro rfl trivial)) (fun a6 σ h H => ?_) ?_
        · refine st_seq ?_
          refine st_ops ?_
          refine st_m (v := x1) (by kernel_rfl) ?_
          refine st_m (v := a6) (by kernel_rfl) ?_
          refine st_c (vs := [x1, a6]) (by kernel_rfl) H (fun _ _ H => H) fun v16 h H => ?_
          refine st_m (v := v16) (by kernel_rfl) ?_
          refine st_p (vs := [v16]) (by kernel_rfl) H fun v17 h H => ?_
          refine st_p (vs := [v16]) (by kernel_rfl) H fun v18 h H => ?_
          refine st_m (v := v17) (by kernel_rfl) ?_
          refine st_m (v := v18) (by kernel_rfl) ?_
          refine st_nil ?_
          refine st_next ?_
          exact Eq.mp (by kernel_rfl) (And.intro (Eq.refl (⟨[], .off⟩ : DS)) (And.intro trivial H))
        · refine st_block ?_
          refine st_join (α := Value) [(s1, x1), (s9, (.bool true))] (fun a => [(s2, a)]) (fun σ => (σ s2)) (fun a => step_Calc_J7 w0 E R x1 a) (fun σ => (And.intro rfl trivial)) (fun a7 σ h H => ?_) ?_
          · refine st_seq ?_
            refine st_ops ?_
            refine st_m (v := x1) (by kernel_rfl) ?_
            refine st_m (v := a7) (by kernel_rfl) ?_
            refine st_p (vs := [x1, a7]) (by kernel_rfl) H fun v20 h H => ?_
            refine st_m (v := v20) (by kernel_rfl) ?_
            refine st_nil ?_
            refine st_next ?_
            exact Eq.mp (by kernel_rfl) (And.intro (Eq.refl (⟨[], .off⟩ : DS)) (And.intro trivial H))
          · refine st_block ?_
            refine st_join (α := Unit) [(s1, x1), (s2, x2), (s9, (.bool true))] (fun a => []) (fun σ => ()) (fun a => step_Calc_J8 w0 E R x2 x1 ) (fun σ => trivial) (fun a8 σ h H => ?_) ?_
            · refine st_ops ?_
              refine st_m (v := x2) (by kernel_rfl) ?_
              refine st_p (vs := [x2]) (by kernel_rfl) H fun v21 h H => ?_
              refine st_m (v := v21) (by kernel_rfl) ?_
              refine st_nil ?_
              refine st_bn ?_
              exact Eq.mp (by kernel_rfl) (And.intro (Eq.refl (⟨[], .off⟩ : DS)) (And.intro (And.intro (Eq.refl (x1 : Value)) (And.intro (Eq.refl ((.bool true) : Value)) trivial)) H))
            · refine st_block ?_
              refine st_seq ?_
              refine st_join (α := Unit) [(s0, x0), (s1, x1), (s2, x2), (s8, (vi 0)), (s9, (.bool true)), (s25, x0)] (fun a => []) (fun σ => ()) (fun a => step_Calc_J9 w0 E R x0 x1 x2 ) (fun σ => trivial) (fun a9 σ h H => ?_) ?_
              · refine st_join (α := Unit) [(s0, x0), (s1, x1), (s2, x2), (s8, (vi 0)), (s9, (.bool true)), (s25, x0)] (fun a => []) (fun σ => ()) (fun a => step_Calc_J10 w0 E R x0 x1 x2 ) (fun σ => trivial) (fun a10 σ h H => ?_) ?_
                · refine st_join (α := Unit) [(s0, x0), (s1, x1), (s2, x2), (s8, (vi 0)), (s9, (.bool true)), (s25, x0)] (fun a => []) (fun σ => ()) (fun a => step_Calc_J11 w0 E R x0 x1 x2 ) (fun σ => trivial) (fun a11 σ h H => ?_) ?_
                  · refine st_join (α := Value) [(s0, x0), (s1, x1), (s2, x2), (s8, (vi 0)), (s9, (.bool true))] (fun a => [(s32, a)]) (fun σ => (σ s32)) (fun a => step_Calc_J12 w0 E R x1 x0 x2 a) (fun σ => (And.intro rfl trivial)) (fun a12 σ h H => ?_) ?_
                    · refine st_cond (v := a12) (by kernel_rfl) H (fun H => ?_) (fun H => ?_)
                      · exact Eq.mp (by kernel_rfl) (And.intro (Eq.refl (⟨[], .off⟩ : DS)) (And.intro (And.intro (Eq.refl (x0 : Value)) (And.intro (Eq.refl (x1 : Value)) trivial)) H))
                      · refine st_skip ?_
                        refine st_next ?_
                        exact Eq.mp (by kernel_rfl) (And.intro (Eq.refl (⟨[], .off⟩ : DS)) (And.intro trivial H))
                    · refine st_seq ?_
                      refine st_ops ?_
                      refine st_p (vs := [x0, (vi 9)]) (by kernel_rfl) H fun v23 h H => ?_
                      refine st_m (v := v23) (by kernel_rfl) ?_
                      refine st_nil ?_
                      refine st_next ?_
                      refine st_cond (v := v23) (by kernel_rfl) H (fun H => ?_) (fun H => ?_)
                      · refine st_skip ?_
                        exact Eq.mp (by kernel_rfl) (And.intro (Eq.refl (⟨[], .off⟩ : DS)) (And.intro (And.intro (Eq.refl (x0 : Value)) (And.intro (Eq.refl (x1 : Value)) (And.intro (Eq.refl (x2 : Value)) (And.intro (Eq.refl ((vi 0) : Value)) (And.intro (Eq.refl ((.bool true) : Value)) trivial))))) H))
                      · refine st_ops ?_
                        refine st_p (vs := [x0, (vi 10)]) (by kernel_rfl) H fun v24 h H => ?_
                        refine st_m (v := v24) (by kernel_rfl) ?_
                        refine st_nil ?_
                        exact Eq.mp (by kernel_rfl) (And.intro (Eq.refl (⟨[], .off⟩ : DS)) (And.intro (And.intro (Eq.refl (x0 : Value)) (And.intro (Eq.refl (x1 : Value)) (And.intro (Eq.refl (x2 : Value)) (And.intro (Eq.refl ((vi 0) : Value)) (And.intro (Eq.refl ((.bool true) : Value)) trivial))))) H))
                  · refine st_seq ?_
                    refine st_ops ?_
                    refine st_p (vs := [x0, (vi 8)]) (by kernel_rfl) H fun v25 h H => ?_
                    refine st_m (v := v25) (by kernel_rfl) ?_
                    refine st_nil ?_
                    refine st_next ?_
                    refine st_cond (v := v25) (by kernel_rfl) H (fun H => ?_) (fun H => ?_)
                    · exact Eq.mp (by kernel_rfl) (And.intro (Eq.refl (⟨[], .off⟩ : DS)) (And.intro (And.intro (Eq.refl (x1 : Value)) trivial) H))
                    · refine st_skip ?_
                      exact Eq.mp (by kernel_rfl) (And.intro (Eq.refl (⟨[], .off⟩ : DS)) (And.intro (And.intro (Eq.refl (x0 : Value)) (And.intro (Eq.refl (x1 : Value)) (And.intro (Eq.refl (x2 : Value)) (And.intro (Eq.refl ((vi 0) : Value)) (And.intro (Eq.refl ((.bool true) : Value)) (And.intro (Eq.refl (x0 : Value)) trivial)))))) H))
                · refine st_seq ?_
                  refine st_ops ?_
                  refine st_p (vs := [x0, (vi 6)]) (by kernel_rfl) H fun v26 h H => ?_
                  refine st_m (v := v26) (by kernel_rfl) ?_
                  refine st_nil ?_
                  refine st_next ?_
                  refine st_cond (v := v26) (by kernel_rfl) H (fun H => ?_) (fun H => ?_)
                  · exact Eq.mp (by kernel_rfl) (And.intro (Eq.refl (⟨[], .off⟩ : DS)) (And.intro (And.intro (Eq.refl (x1 : Value)) (And.intro (Eq.refl ((.bool true) : Value)) trivial)) H))
                  · refine st_skip ?_
                    exact Eq.mp (by kernel_rfl) (And.intro (Eq.refl (⟨[], .off⟩ : DS)) (And.intro (And.intro (Eq.refl (x0 : Value)) (And.intro (Eq.refl (x1 : Value)) (And.intro (Eq.refl (x2 : Value)) (And.intro (Eq.refl ((vi 0) : Value)) (And.intro (Eq.refl ((.bool true) : Value)) (And.intro (Eq.refl (x0 : Value)) trivial)))))) H))
              · refine st_seq ?_
                refine st_ops ?_
                refine st_p (vs := [x0, (vi 7)]) (by kernel_rfl) H fun v27 h H => ?_
                refine st_m (v := v27) (by kernel_rfl) ?_
                refine st_nil ?_
                refine st_next ?_
                refine st_cond (v := v27) (by kernel_rfl) H (fun H => ?_) (fun H => ?_)
                · exact Eq.mp (by kernel_rfl) (And.intro (Eq.refl (⟨[], .off⟩ : DS)) (And.intro (And.intro (Eq.refl (x1 : Value)) (And.intro (Eq.refl (x2 : Value)) (And.intro (Eq.refl ((.bool true) : Value)) trivial))) H))
                · refine st_skip ?_
                  exact Eq.mp (by kernel_rfl) (And.intro (Eq.refl (⟨[], .off⟩ : DS)) (And.intro (And.intro (Eq.refl (x0 : Value)) (And.intro (Eq.refl (x1 : Value)) (And.intro (Eq.refl (x2 : Value)) (And.intro (Eq.refl ((vi 0) : Value)) (And.intro (Eq.refl ((.bool true) : Value)) (And.intro (Eq.refl (x0 : Value)) trivial)))))) H))
  · refine st_seq ?_
    refine st_ops ?_
    refine st_m (v := x0) (by kernel_rfl) ?_
    refine st_nil ?_
    refine st_next ?_
    refine st_block ?_
    refine st_join (α := Value) [(s0, x0), (s1, x1), (s2, x2), (s8, (vi 0)), (s9, (.bool true))] (fun a => [(s11, a)]) (fun σ => (σ s11)) (fun a => step_Calc_J13 w0 E R x1 x2 x0 a) (fun σ => (And.intro rfl trivial)) (fun a13 σ h H => ?_) ?_
    · refine st_cond (v := a13) (by kernel_rfl) H (fun H => ?_) (fun H => ?_)
      · refine st_seq ?_
        refine st_ops ?_
        refine st_m (v := x1) (by kernel_rfl) ?_
        refine st_c (vs := [x1]) (by kernel_rfl) H (fun _ _ H => H) fun v29 h H => ?_
        refine st_p (vs := [v29]) (by kernel_rfl) H fun v30 h H => ?_
        refine st_m (v := v30) (by kernel_rfl) ?_
        refine st_gm (v := x2) (gv := v30) (by kernel_rfl) (by kernel_rfl) H fun v31 h H => ?_
        refine st_gc (vs := [v31]) (gv := v30) (by kernel_rfl) (by kernel_rfl) H (fun _ _ H => H) fun v32 h H => ?_
        refine st_gp (vs := [v32]) (gv := v30) (by kernel_rfl) (by kernel_rfl) H fun v33 h H => ?_
        refine st_p (vs := [v30, (.bool true), v33]) (by kernel_rfl) H fun v34 h H => ?_
        refine st_nil ?_
        refine st_next ?_
        refine st_cond (v := v34) (by kernel_rfl) H (fun H => ?_) (fun H => ?_)
        · refine st_seq ?_
          refine st_ops ?_
          refine st_m (v := (vi 0)) (by kernel_rfl) ?_
          refine st_m (v := (vi 7)) (by kernel_rfl) ?_
          refine st_nil ?_
          refine st_next ?_
          exact Eq.mp (by kernel_rfl) H
        · refine st_skip ?_
          refine st_bn ?_
          exact Eq.mp (by kernel_rfl) (And.intro (Eq.refl (⟨[], .off⟩ : DS)) (And.intro (And.intro (Eq.refl (x0 : Value)) (And.intro (Eq.refl (x1 : Value)) (And.intro (Eq.refl (x2 : Value)) (And.intro (Eq.refl ((vi 0) : Value)) (And.intro (Eq.refl ((.bool true) : Value)) trivial))))) H))
      · refine st_skip ?_
        refine st_bn ?_
        exact Eq.mp (by kernel_rfl) (And.intro (Eq.refl (⟨[], .off⟩ : DS)) (And.intro (And.intro (Eq.refl (x0 : Value)) (And.intro (Eq.refl (x1 : Value)) (And.intro (Eq.refl (x2 : Value)) (And.intro (Eq.refl ((vi 0) : Value)) (And.intro (Eq.refl ((.bool true) : Value)) trivial))))) H))
    · refine st_seq ?_
      refine st_ops ?_
      refine st_p (vs := [x0, (vi 6)]) (by kernel_rfl) H fun v35 h H => ?_
      refine st_m (v := v35) (by kernel_rfl) ?_
      refine st_nil ?_
      refine st_next ?_
      refine st_cond (v := v35) (by kernel_rfl) H (fun H => ?_) (fun H => ?_)
      · refine st_skip ?_
        exact Eq.mp (by kernel_rfl) (And.intro (Eq.refl (⟨[], .off⟩ : DS)) (And.intro (And.intro (Eq.refl (x0 : Value)) (And.intro (Eq.refl (x1 : Value)) (And.intro (Eq.refl (x2 : Value)) (And.intro (Eq.refl ((vi 0) : Value)) (And.intro (Eq.refl ((.bool true) : Value)) trivial))))) H))
      · refine st_seq ?_
        refine st_ops ?_
        refine st_p (vs := [x0, (vi 7)]) (by kernel_rfl) H fun v36 h H => ?_
        refine st_m (v := v36) (by kernel_rfl) ?_
        refine st_nil ?_
        refine st_next ?_
        refine st_cond (v := v36) (by kernel_rfl) H (fun H => ?_) (fun H => ?_)
        · refine st_skip ?_
          exact Eq.mp (by kernel_rfl) (And.intro (Eq.refl (⟨[], .off⟩ : DS)) (And.intro (And.intro (Eq.refl (x0 : Value)) (And.intro (Eq.refl (x1 : Value)) (And.intro (Eq.refl (x2 : Value)) (And.intro (Eq.refl ((vi 0) : Value)) (And.intro (Eq.refl ((.bool true) : Value)) trivial))))) H))
        · refine st_seq ?_
          refine st_ops ?_
          refine st_p (vs := [x0, (vi 8)]) (by kernel_rfl) H fun v37 h H => ?_
          refine st_m (v := v37) (by kernel_rfl) ?_
          refine st_nil ?_
          refine st_next ?_
          refine st_cond (v := v37) (by kernel_rfl) H (fun H => ?_) (fun H => ?_)
          · refine st_skip ?_
            exact Eq.mp (by kernel_rfl) (And.intro (Eq.refl (⟨[], .off⟩ : DS)) (And.intro (And.intro (Eq.refl (x0 : Value)) (And.intro (Eq.refl (x1 : Value)) (And.intro (Eq.refl (x2 : Value)) (And.intro (Eq.refl ((vi 0) : Value)) (And.intro (Eq.refl ((.bool true) : Value)) trivial))))) H))
          · refine st_seq ?_
            refine st_ops ?_
            refine st_p (vs := [x0, (vi 9)]) (by kernel_rfl) H fun v38 h H => ?_
            refine st_m (v := v38) (by kernel_rfl) ?_
            refine st_nil ?_
            refine st_next ?_
            refine st_cond (v := v38) (by kernel_rfl) H (fun H => ?_) (fun H => ?_)
            · refine st_skip ?_
              exact Eq.mp (by kernel_rfl) (And.intro (Eq.refl (⟨[], .off⟩ : DS)) (And.intro (And.intro (Eq.refl (x0 : Value)) (And.intro (Eq.refl (x1 : Value)) (And.intro (Eq.refl (x2 : Value)) (And.intro (Eq.refl ((vi 0) : Value)) (And.intro (Eq.refl ((.bool true) : Value)) trivial))))) H))
            · refine st_ops ?_
              refine st_p (vs := [x0, (vi 10)]) (by kernel_rfl) H fun v39 h H => ?_
              refine st_m (v := v39) (by kernel_rfl) ?_
              refine st_nil ?_
              exact Eq.mp (by kernel_rfl) (And.intro (Eq.refl (⟨[], .off⟩ : DS)) (And.intro (And.intro (Eq.refl (x0 : Value)) (And.intro (Eq.refl (x1 : Value)) (And.intro (Eq.refl (x2 : Value)) (And.intro (Eq.refl ((vi 0) : Value)) (And.intro (Eq.refl ((.bool true) : Value)) trivial))))) H))
def cosignerref11_Calc_J4 (w0 : World) (E R : Value → W) (y1 : Value) : W :=
  R (.tuple ⟨[y1, (vi 0)]⟩)
def cosignerref11_Calc_J3 (w0 : World) (E R : Value → W) (y1 : Value) : W :=
  cl PP w0 id_cosignerref11_in [y1, (vi (-1099511627776)), (vi 1099511627776)] E fun v2 =>
  pr (.notB) [v2] fun v3 =>
  br v3 (
  R (.tuple ⟨[(vi 0), (vi 7)]⟩)) (
  cosignerref11_Calc_J4 w0 E R y1)
def cosignerref11_Calc_J5 (w0 : World) (E R : Value → W) (x1 : Value) (x2 : Value) : W :=
  pr (.iop .mul) [x1, x2] fun v9 =>
  cosignerref11_Calc_J3 w0 E R  v9
def cosignerref11_Calc_J7 (w0 : World) (E R : Value → W) (x0 : Value) (x2 : Value) (x1 : Value) (y26 : Value) : W :=
  pr (.iop .eql) [x0, (vi 10)] fun v27 =>
  br v27 (
  pr (.iop .mul) [x2, y26] fun v28 =>
  pr (.iop .sub) [x1, v28] fun v29 =>
  cosignerref11_Calc_J3 w0 E R  v29) (
  cosignerref11_Calc_J3 w0 E R  y26)
def cosignerref11_Calc_J6 (w0 : World) (E R : Value → W) (x1 : Value) (x2 : Value) (x0 : Value) : W :=
  pr (.iop .quo) [x1, x2] fun v25 =>
  pr (.iop .rem) [x1, x2] fun v30 =>
  pr (.iop .neq) [v30, (vi 0)] fun v31 =>
  gd v31 true (fun k => k x1) fun v32 =>
  gd v31 true (fun k => pr (.iop .lss) [v32, (vi 0)] k) fun v33 =>
  gd v31 true (fun k => k x2) fun v34 =>
  gd v31 true (fun k => pr (.iop .lss) [v34, (vi 0)] k) fun v35 =>
  gd v31 true (fun k => pr (.eqB true) [v33, v35] k) fun v36 =>
  pr (.pick) [v31, v36, (.bool false)] fun v37 =>
  br v37 (
  pr (.iop .sub) [v25, (vi 1)] fun v38 =>
  cosignerref11_Calc_J7 w0 E R x0 x2 x1 v38) (
  cosignerref11_Calc_J7 w0 E R x0 x2 x1 v25)
def cosignerref11_Calc_J2 (w0 : World) (E R : Value → W) (x0 : Value) (x1 : Value) (x2 : Value) : W :=
  pr (.iop .eql) [x0, (vi 6)] fun v4 =>
  br v4 (
  pr (.iop .add) [x1, x2] fun v5 =>
  cosignerref11_Calc_J3 w0 E R  v5) (
  pr (.iop .eql) [x0, (vi 7)] fun v6 =>
  br v6 (
  pr (.iop .sub) [x1, x2] fun v7 =>
  cosignerref11_Calc_J3 w0 E R  v7) (
  pr (.iop .eql) [x0, (vi 8)] fun v8 =>
  br v8 (
  pr (.iop .neq) [x2, (vi 0)] fun v10 =>
  gd v10 true (fun k => k x1) fun v11 =>
  gd v10 true (fun k => k x2) fun v12 =>
  gd v10 true (fun k => cl PP w0 id_cosignerref11_abs [v12] E k) fun v13 =>
  gd v10 true (fun k => pr (.iop .quo) [(vi 1099511627776), v13] k) fun v14 =>
  gd v10 true (fun k => pr (.iop .gtr) [v11, v14] k) fun v15 =>
  gd v10 true (fun k => k v15) fun v16 =>
  gd v16 false (fun k => k x1) fun v17 =>
  gd v16 false (fun k => pr (.neg) [v17] k) fun v18 =>
  gd v16 false (fun k => k x2) fun v19 =>
  gd v16 false (fun k => cl PP w0 id_cosignerref11_abs [v19] E k) fun v20 =>
  gd v16 false (fun k => pr (.iop .quo) [(vi 1099511627776), v20] k) fun v21 =>
  gd v16 false (fun k => pr (.iop .gtr) [v18, v21] k) fun v22 =>
  gd v10 true (fun k => pr (.pick) [v16, (.bool true), v22] k) fun v23 =>
  pr (.pick) [v10, v23, (.bool false)] fun v24 =>
  br v24 (
  R (.tuple ⟨[(vi 0), (vi 7)]⟩)) (
  cosignerref11_Calc_J5 w0 E R x1 x2)) (
  pr (.iop .eql) [x2, (vi 0)] fun v39 =>
  br v39 (
  R (.tuple ⟨[(vi 0), (vi 8)]⟩)) (
  cosignerref11_Calc_J6 w0 E R x1 x2 x0))))
def cosignerref11_Calc_J1 (w0 : World) (E R : Value → W) (x1 : Value) (x2 : Value) (x0 : Value) : W :=
  cl PP w0 id_cosignerref11_in [x1, (vi (-1099511627776)), (vi 1099511627776)] E fun v40 =>
  pr (.notB) [v40] fun v41 =>
  gd v41 false (fun k => k x2) fun v42 =>
  gd v41 false (fun k => cl PP w0 id_cosignerref11_in [v42, (vi (-1099511627776)), (vi 1099511627776)] E k) fun v43 =>
  gd v41 false (fun k => pr (.notB) [v43] k) fun v44 =>
  pr (.pick) [v41, (.bool true), v44] fun v45 =>
  br v45 (
  R (.tuple ⟨[(vi 0), (vi 7)]⟩)) (
  cosignerref11_Calc_J2 w0 E R x0 x1 x2)
def cosignerref11_Calc_F (w0 : World) (E R : Value → W) (x0 : Value) (x1 : Value) (x2 : Value) : W :=
  cl PP w0 id_cosignerref11_in [x0, (vi 6), (vi 10)] E fun v46 =>
  pr (.notB) [v46] fun v47 =>
  br v47 (
  R (.tuple ⟨[(vi 0), (vi 0)]⟩)) (
  cosignerref11_Calc_J1 w0 E R x1 x2 x0)
theorem cosignerref11_Calc_wp {w0 : World} {h : AH} {Q : CR → AH → Prop} (x0 : Value) (x1 : Value) (x2 : Value) (H : cosignerref11_Calc_F w0 (fun v h => Q (.pan v) h) (fun v h => Q (.ret v) h) x0 x1 x2 h) : WF PP w0 id_cosignerref11_Calc [x0, x1, x2] h Q := by
  let E : Value → W := fun v h => Q (.pan v) h
  let R : Value → W := fun v h => Q (.ret v) h
  refine WF_enter hmix e15 ?_
  refine st_seq ?_
  refine st_ops ?_
  refine st_m (v := (vi 0)) (by kernel_rfl) ?_
  refine st_m (v := (vi 0)) (by kernel_rfl) ?_
  refine st_nil ?_
  refine st_next ?_
  refine st_join (α := Unit) [(s0, x0), (s1, x1), (s2, x2)] (fun a => []) (fun σ => ()) (fun a => cosignerref11_Calc_J1 w0 E R x1 x2 x0 ) (fun σ => trivial) (fun a1 σ h H => ?_) ?_
  · refine st_join (α := Unit) [(s0, x0), (s1, x1), (s2, x2)] (fun a => []) (fun σ => ()) (fun a => cosignerref11_Calc_J2 w0 E R x0 x1 x2 ) (fun σ => trivial) (fun a2 σ h H => ?_) ?_
    · refine st_seq ?_
      refine st_ops ?_
      refine st_m (v := (vi 0)) (by kernel_rfl) ?_
      refine st_nil ?_
      refine st_next ?_
      refine st_join (α := Value) [] (fun a => [(s8, a)]) (fun σ => (σ s8)) (fun a => cosignerref11_Calc_J3 w0 E R  a) (fun σ => (And.intro rfl trivial)) (fun a3 σ h H => ?_) ?_
      · refine st_join (α := Unit) [(s8, a3)] (fun a => []) (fun σ => ()) (fun a => cosignerref11_Calc_J4 w0 E R a3 ) (fun σ => trivial) (fun a4 σ h H => ?_) ?_
        · refine st_seq ?_
          refine st_ops ?_
          refine st_m (v := a3) (by kernel_rfl) ?_
          refine st_m (v := a3) (by kernel_rfl) ?_
          refine st_m (v := (vi 0)) (by kernel_rfl) ?_
          refine st_nil ?_
          refine st_next ?_
          exact Eq.mp (by kernel_rfl) H
        · refine st_seq ?_
          refine st_ops ?_
          refine st_m (v := a3) (by kernel_rfl) ?_
          refine st_c (vs := [a3, (vi (-1099511627776)), (vi 1099511627776)]) (by kernel_rfl) H (fun _ _ H => H) fun v2 h H => ?_
          refine st_p (vs := [v2]) (by kernel_rfl) H fun v3 h H => ?_
          refine st_nil ?_
          refine st_next ?_
          refine st_cond (v := v3) (by kernel_rfl) H (fun H => ?_) (fun H => ?_)
          · refine st_seq ?_
            refine st_ops ?_
            refine st_m (v := (vi 0)) (by kernel_rfl) ?_
            refine st_m (v := (vi 7)) (by kernel_rfl) ?_
            refine st_nil ?_
            refine st_next ?_
            exact Eq.mp (by kernel_rfl) H
          · refine st_skip ?_
            exact Eq.mp (by kernel_rfl) (And.intro (Eq.refl (⟨[], .off⟩ : DS)) (And.intro (And.intro (Eq.refl (a3 : Value)) trivial) H))
      · refine st_seq ?_
        refine st_ops ?_
        refine st_m (v := x0) (by kernel_rfl) ?_
        refine st_nil ?_
        refine st_next ?_
        refine st_block ?_
        refine st_seq ?_
        refine st_ops ?_
        refine st_p (vs := [x0, (vi 6)]) (by kernel_rfl) H fun v4 h H => ?_
        refine st_m (v := v4) (by kernel_rfl) ?_
        refine st_nil ?_
        refine st_next ?_
        refine st_cond (v := v4) (by kernel_rfl) H (fun H => ?_) (fun H => ?_)
        · refine st_ops ?_
          refine st_m (v := x1) (by kernel_rfl) ?_
          refine st_m (v := x2) (by kernel_rfl) ?_
          refine st_p (vs := [x1, x2]) (by kernel_rfl) H fun v5 h H => ?_
          refine st_m (v := v5) (by kernel_rfl) ?_
          refine st_nil ?_
          refine st_bn ?_
          exact Eq.mp (by kernel_rfl) (And.intro (Eq.refl (⟨[], .off⟩ : DS)) (And.intro trivial H))
        · refine st_seq ?_
          refine st_ops ?_
          refine st_p (vs := [x0, (vi 7)]) (by kernel_rfl) H fun v6 h H => ?_
          refine st_m (v := v6) (by kernel_rfl) ?_
          refine st_nil ?_
          refine st_next ?_
          refine st_cond (v := v6) (by kernel_rfl) H (fun H => ?_) (fun H => ?_)
          · refine st_ops ?_
            refine st_m (v := x1) (by kernel_rfl) ?_
            refine st_m (v := x2) (by kernel_rfl) ?_
            refine st_p (vs := [x1, x2]) (by kernel_rfl) H fun v7 h H => ?_
            refine st_m (v := v7) (by kernel_rfl) ?_
            refine st_nil ?_
            refine st_bn ?_
            exact Eq.mp (by kernel_rfl) (And.intro (Eq.refl (⟨[], .off⟩ : DS)) (And.intro trivial H))
          · refine st_seq ?_
            refine st_ops ?_
            refine st_p (vs := [x0, (vi 8)]) (by kernel_rfl) H fun v8 h H => ?_
            refine st_m (v := v8) (by kernel_rfl) ?_
            refine st_nil ?_
            refine st_next ?_
            refine st_cond (v := v8) (by kernel_rfl) H (fun H => ?_) (fun H => ?_)
            · refine st_join (α := Unit) [(s1, x1), (s2, x2)] (fun a => []) (fun σ => ()) (fun a => cosignerref11_Calc_J5 w0 E R x1 x2 ) (fun σ => trivial) (fun a5 σ h H => ?_) ?_
              · refine st_ops ?_
                refine st_m (v := x1) (by kernel_rfl) ?_
                refine st_m (v := x2) (by kernel_rfl) ?_
                refine st_p (vs := [x1, x2]) (by kernel_rfl) H fun v9 h H => ?_
                refine st_m (v := v9) (by kernel_rfl) ?_
                refine st_nil ?_
                refine st_bn ?_
                exact Eq.mp (by kernel_rfl) (And.intro (Eq.refl (⟨[], .off⟩ : DS)) (And.intro trivial H))
              · refine st_seq ?_
                refine st_ops ?_
                refine st_m (v := x2) (by kernel_rfl) ?_
                refine st_p (vs := [x2, (vi 0)]) (by kernel_rfl) H fun v10 h H => ?_
                refine st_m (v := v10) (by kernel_rfl) ?_
                refine st_gm (v := x1) (gv := v10) (by kernel_rfl) (by kernel_rfl) H fun v11 h H => ?_
                refine st_gm (v := x2) (gv := v10) (by kernel_rfl) (by kernel_rfl) H fun v12 h H => ?_
                refine st_gc (vs := [v12]) (gv := v10) (by kernel_rfl) (by kernel_rfl) H (fun _ _ H => H) fun v13 h H => ?_
                refine st_gp (vs := [(vi 1099511627776), v13]) (gv := v10) (by kernel_rfl) (by kernel_rfl) H fun v14 h H => ?_
                refine st_gp (vs := [v11, v14]) (gv := v10) (by kernel_rfl) (by kernel_rfl) H fun v15 h H => ?_
                refine st_gm (v := v15) (gv := v10) (by kernel_rfl) (by kernel_rfl) H fun v16 h H => ?_
                refine st_gm (v := x1) (gv := v16) (by kernel_rfl) (by kernel_rfl) H fun v17 h H => ?_
                refine st_gp (vs := [v17]) (gv := v16) (by kernel_rfl) (by kernel_rfl) H fun v18 h H => ?_
                refine st_gm (v := x2) (gv := v16) (by kernel_rfl) (by kernel_rfl) H fun v19 h H => ?_
                refine st_gc (vs := [v19]) (gv := v16) (by kernel_rfl) (by kernel_rfl) H (fun _ _ H => H) fun v20 h H => ?_
                refine st_gp (vs := [(vi 1099511627776), v20]) (gv := v16) (by kernel_rfl) (by kernel_rfl) H fun v21 h H => ?_
                refine st_gp (vs := [v18, v21]) (gv := v16) (by kernel_rfl) (by kernel_rfl) H fun v22 h H => ?_
                refine st_gp (vs := [v16, (.bool true), v22]) (gv := v10) (by kernel_rfl) (by kernel_rfl) H fun v23 h H => ?_
                refine st_p (vs := [v10, v23, (.bool false)]) (by kernel_rfl) H fun v24 h H => ?_
                refine st_nil ?_
                refine st_next ?_
                refine st_cond (v := v24) (by kernel_rfl) H (fun H => ?_) (fun H => ?_)
                · refine st_seq ?_
                  refine st_ops ?_
                  refine st_m (v := (vi 0)) (by kernel_rfl) ?_
                  refine st_m (v := (vi 7)) (by kernel_rfl) ?_
                  refine st_nil ?_
                  refine st_next ?_
                  exact Eq.mp (by kernel_rfl) H
                · refine st_skip ?_
                  exact Eq.mp (by kernel_rfl) (And.intro (Eq.refl (⟨[], .off⟩ : DS)) (And.intro (And.intro (Eq.refl (x1 : Value)) (And.intro (Eq.refl (x2 : Value)) trivial)) H))
            · refine st_join (α := Unit) [(s0, x0), (s1, x1), (s2, x2)] (fun a => []) (fun σ => ()) (fun a => cosignerref11_Calc_J6 w0 E R x1 x2 x0 ) (fun σ => trivial) (fun a6 σ h H => ?_) ?_
              · refine st_seq ?_
                refine st_ops ?_
                refine st_m (v := x1) (by kernel_rfl) ?_
                refine st_m (v := x2) (by kernel_rfl) ?_
                refine st_p (vs := [x1, x2]) (by kernel_rfl) H fun v25 h H => ?_
                refine st_m (v := v25) (by kernel_rfl) ?_
                refine st_nil ?_
                refine st_next ?_
                refine st_join (α := Value) [(s0, x0), (s1, x1), (s2, x2)] (fun a => [(s8, a)]) (fun σ => (σ s8)) (fun a => cosignerref11_Calc_J7 w0 E R x0 x2 x1 a) (fun σ => (And.intro rfl trivial)) (fun a7 σ h H => ?_) ?_
                · refine st_seq ?_
                  refine st_ops ?_
                  refine st_m (v := x0) (by kernel_rfl) ?_
                  refine st_p (vs := [x0, (vi 10)]) (by kernel_rfl) H fun v27 h H => ?_
                  refine st_nil ?_
                  refine st_next ?_
                  refine st_cond (v := v27) (by kernel_rfl) H (fun H => ?_) (fun H => ?_)
                  · refine st_ops ?_
                    refine st_m (v := x1) (by kernel_rfl) ?_
                    refine st_m (v := x2) (by kernel_rfl) ?_
                    refine st_m (v := a7) (by kernel_rfl) ?_
                    refine st_p (vs := [x2, a7]) (by kernel_rfl) H fun v28 h H => ?_
                    refine st_p (vs := [x1, v28]) (by kernel_rfl) H fun v29 h H => ?_
                    refine st_m (v := v29) (by kernel_rfl) ?_
                    refine st_nil ?_
                    refine st_bn ?_
                    exact Eq.mp (by kernel_rfl) (And.intro (Eq.refl (⟨[], .off⟩ : DS)) (And.intro trivial H))
                  · refine st_skip ?_
                    refine st_bn ?_
                    exact Eq.mp (by kernel_rfl) (And.intro (Eq.refl (⟨[], .off⟩ : DS)) (And.intro trivial H))
                · refine st_seq ?_
                  refine st_ops ?_
                  refine st_m (v := x1) (by kernel_rfl) ?_
                  refine st_m (v := x2) (by kernel_rfl) ?_
                  refine st_p (vs := [x1, x2]) (by kernel_rfl) H fun v30 h H => ?_
                  refine st_p (vs := [v30, (vi 0)]) (by kernel_rfl) H fun v31 h H => ?_
                  refine st_m (v := v31) (by kernel_rfl) ?_
                  refine st_gm (v := x1) (gv := v31) (by kernel_rfl) (by kernel_rfl) H fun v32 h H => ?_
                  refine st_gp (vs := [v32, (vi 0)]) (gv := v31) (by kernel_rfl) (by kernel_rfl) H fun v33 h H => ?_
                  refine st_gm (v := x2) (gv := v31) (by kernel_rfl) (by kernel_rfl) H fun v34 h H => ?_
                  refine st_gp (vs := [v34, (vi 0)]) (gv := v31) (by kernel_rfl) (by kernel_rfl) H fun v35 h H => ?_
                  refine st_gp (vs := [v33, v35]) (gv := v31) (by kernel_rfl) (by kernel_rfl) H fun v36 h H => ?_
                  refine st_p (vs := [v31, v36, (.bool false)]) (by kernel_rfl) H fun v37 h H => ?_
                  refine st_nil ?_
                  refine st_next ?_
                  refine st_cond (v := v37) (by kernel_rfl) H (fun H => ?_) (fun H => ?_)
                  · refine st_ops ?_
                    refine st_m (v := v25) (by kernel_rfl) ?_
                    refine st_p (vs := [v25, (vi 1)]) (by kernel_rfl) H fun v38 h H => ?_
                    refine st_m (v := v38) (by kernel_rfl) ?_
                    refine st_nil ?_
                    exact Eq.mp (by kernel_rfl) (And.intro (Eq.refl (⟨[], .off⟩ : DS)) (And.intro (And.intro (Eq.refl (x0 : Value)) (And.intro (Eq.refl (x1 : Value)) (And.intro (Eq.refl (x2 : Value)) trivial))) H))
                  · refine st_skip ?_
                    exact Eq.mp (by kernel_rfl) (And.intro (Eq.refl (⟨[], .off⟩ : DS)) (And.intro (And.intro (Eq.refl (x0 : Value)) (And.intro (Eq.refl (x1 : Value)) (And.intro (Eq.refl (x2 : Value)) trivial))) H))
              · refine st_seq ?_
                refine st_ops ?_
                refine st_m (v := x2) (by kernel_rfl) ?_
                refine st_p (vs := [x2, (vi 0)]) (by kernel_rfl) H fun v39 h H => ?_
                refine st_nil ?_
                refine st_next ?_
                refine st_cond (v := v39) (by kernel_rfl) H (fun H => ?_) (fun H => ?_)
                · refine st_seq ?_
                  refine st_ops ?_
                  refine st_m (v := (vi 0)) (by kernel_rfl) ?_
                  refine st_m (v := (vi 8)) (by kernel_rfl) ?_
                  refine st_nil ?_
                  refine st_next ?_
                  exact Eq.mp (by kernel_rfl) H
                · refine st_skip ?_
                  exact Eq.mp (by kernel_rfl) (And.intro (Eq.refl (⟨[], .off⟩ : DS)) (And.intro (And.intro (Eq.refl (x0 : Value)) (And.intro (Eq.refl (x1 : Value)) (And.intro (Eq.refl (x2 : Value)) trivial))) H))
    · refine st_seq ?_
      refine st_ops ?_
      refine st_m (v := x1) (by kernel_rfl) ?_
      refine st_c (vs := [x1, (vi (-1099511627776)), (vi 1099511627776)]) (by kernel_rfl) H (fun _ _ H => H) fun v40 h H => ?_
      refine st_p (vs := [v40]) (by kernel_rfl) H fun v41 h H => ?_
      refine st_m (v := v41) (by kernel_rfl) ?_
      refine st_gm (v := x2) (gv := v41) (by kernel_rfl) (by kernel_rfl) H fun v42 h H => ?_
      refine st_gc (vs := [v42, (vi (-1099511627776)), (vi 1099511627776)]) (gv := v41) (by kernel_rfl) (by kernel_rfl) H (fun _ _ H => H) fun v43 h H => ?_
      refine st_gp (vs := [v43]) (gv := v41) (by kernel_rfl) (by kernel_rfl) H fun v44 h H => ?_
      refine st_p (vs := [v41, (.bool true), v44]) (by kernel_rfl) H fun v45 h H => ?_
      refine st_nil ?_
      refine st_next ?_
      refine st_cond (v := v45) (by kernel_rfl) H (fun H => ?_) (fun H => ?_)
      · refine st_seq ?_
        refine st_ops ?_
        refine st_m (v := (vi 0)) (by kernel_rfl) ?_
        refine st_m (v := (vi 7)) (by kernel_rfl) ?_
        refine st_nil ?_
        refine st_next ?_
        exact Eq.mp (by kernel_rfl) H
      · refine st_skip ?_
        exact Eq.mp (by kernel_rfl) (And.intro (Eq.refl (⟨[], .off⟩ : DS)) (And.intro (And.intro (Eq.refl (x0 : Value)) (And.intro (Eq.refl (x1 : Value)) (And.intro (Eq.refl (x2 : Value)) trivial))) H))
  · refine st_seq ?_
    refine st_ops ?_
    refine st_m (v := x0) (by kernel_rfl) ?_
    refine st_c (vs := [x0, (vi 6), (vi 10)]) (by kernel_rfl) H (fun _ _ H => H) fun v46 h H => ?_
    refine st_p (vs := [v46]) (by kernel_rfl) H fun v47 h H => ?_
    refine st_nil ?_
    refine st_next ?_
    refine st_cond (v := v47) (by kernel_rfl) H (fun H => ?_) (fun H => ?_)
    · refine st_seq ?_
      refine st_ops ?_
      refine st_m (v := (vi 0)) (by kernel_rfl) ?_
      refine st_m (v := (vi 0)) (by kernel_rfl) ?_
      refine st_nil ?_
      refine st_next ?_
      exact Eq.mp (by kernel_rfl) H
    · refine st_skip ?_
      exact Eq.mp (by kernel_rfl) (And.intro (Eq.refl (⟨[], .off⟩ : DS)) (And.intro (And.intro (Eq.refl (x0 : Value)) (And.intro (Eq.refl (x1 : Value)) (And.intro (Eq.refl (x2 : Value)) trivial))) H))
def cosignerref11_in_F (w0 : World) (E R : Value → W) (x0 : Value) (x1 : Value) (x2 : Value) : W :=
  pr (.iop .leq) [x1, x0] fun v1 =>
  gd v1 true (fun k => k x0) fun v2 =>
  gd v1 true (fun k => k x2) fun v3 =>
  gd v1 true (fun k => pr (.iop .leq) [v2, v3] k) fun v4 =>
  pr (.pick) [v1, v4, (.bool false)] fun v5 =>
  R v5
theorem cosignerref11_in_wp {w0 : World} {h : AH} {Q : CR → AH → Prop} (x0 : Value) (x1 : Value) (x2 : Value) (H : cosignerref11_in_F w0 (fun v h => Q (.pan v) h) (fun v h => Q (.ret v) h) x0 x1 x2 h) : WF PP w0 id_cosignerref11_in [x0, x1, x2] h Q := by
  let E : Value → W := fun v h => Q (.pan v) h
  let R : Value → W := fun v h => Q (.ret v) h
  refine WF_enter hmix e53 ?_
  refine st_seq ?_
  refine st_ops ?_
  refine st_m (v := (.bool false)) (by kernel_rfl) ?_
  refine st_nil ?_
  refine st_next ?_
  refine st_seq ?_
  refine st_ops ?_
  refine st_m (v := x1) (by kernel_rfl) ?_
  refine st_m (v := x0) (by kernel_rfl) ?_
  refine st_p (vs := [x1, x0]) (by kernel_rfl) H fun v1 h H => ?_
  refine st_m (v := v1) (by kernel_rfl) ?_
  refine st_gm (v := x0) (gv := v1) (by kernel_rfl) (by kernel_rfl) H fun v2 h H => ?_
  refine st_gm (v := x2) (gv := v1) (by kernel_rfl) (by kernel_rfl) H fun v3 h H => ?_
  refine st_gp (vs := [v2, v3]) (gv := v1) (by kernel_rfl) (by kernel_rfl) H fun v4 h H => ?_
  refine st_p (vs := [v1, v4, (.bool false)]) (by kernel_rfl) H fun v5 h H => ?_
  refine st_m (v := v5) (by kernel_rfl) ?_
  refine st_nil ?_
  refine st_next ?_
  exact Eq.mp (by kernel_rfl) H
def cosignerref11_abs_F (w0 : World) (E R : Value → W) (x0 : Value) : W :=
  pr (.neg) [x0] fun v1 =>
  pr (.maxI) [x0, v1] fun v2 =>
  R v2
theorem cosignerref11_abs_wp {w0 : World} {h : AH} {Q : CR → AH → Prop} (x0 : Value) (H : cosignerref11_abs_F w0 (fun v h => Q (.pan v) h) (fun v h => Q (.ret v) h) x0 h) : WF PP w0 id_cosignerref11_abs [x0] h Q := by
  let E : Value → W := fun v h => Q (.pan v) h
  let R : Value → W := fun v h => Q (.ret v) h
  refine WF_enter hmix e54 ?_
  refine st_seq ?_
  refine st_ops ?_
  refine st_m (v := (vi 0)) (by kernel_rfl) ?_
  refine st_nil ?_
  refine st_next ?_
  refine st_seq ?_
  refine st_ops ?_
  refine st_m (v := x0) (by kernel_rfl) ?_
  refine st_m (v := x0) (by kernel_rfl) ?_
  refine st_p (vs := [x0]) (by kernel_rfl) H fun v1 h H => ?_
  refine st_p (vs := [x0, v1]) (by kernel_rfl) H fun v2 h H => ?_
  refine st_m (v := v2) (by kernel_rfl) ?_
  refine st_nil ?_
  refine st_next ?_
  exact Eq.mp (by kernel_rfl) H
def cosignerlaw11_StepCalc_J2 (w0 : World) (E R : Value → W) (v1 : Value) (x2 : Value) (v9 : Value) (v12 : Value) (x1 : Value) : W :=
  gd v1 true (fun k => k x2) fun v14 =>
  gd v1 true (fun k => k v9) fun v15 =>
  gd v1 true (fun k => pr (.iop .mul) [v14, v15] k) fun v16 =>
  gd v1 true (fun k => k v12) fun v17 =>
  gd v1 true (fun k => pr (.iop .add) [v16, v17] k) fun v18 =>
  gd v1 true (fun k => k x1) fun v19 =>
  gd v1 true (fun k => pr (.iop .eql) [v18, v19] k) fun v20 =>
  pr (.pick) [v1, v20, (.bool false)] fun v21 =>
  gd v21 true (fun k => k x2) fun v22 =>
  gd v21 true (fun k => pr (.iop .gtr) [v22, (vi 0)] k) fun v23 =>
  gd v21 true (fun k => k v23) fun v24 =>
  gd v24 true (fun k => k v12) fun v25 =>
  gd v24 true (fun k => pr (.iop .geq) [v25, (vi 0)] k) fun v26 =>
  gd v21 true (fun k => pr (.pick) [v24, v26, (.bool false)] k) fun v27 =>
  gd v21 true (fun k => k v27) fun v28 =>
  gd v28 true (fun k => k v12) fun v29 =>
  gd v28 true (fun k => k x2) fun v30 =>
  gd v28 true (fun k => pr (.iop .lss) [v29, v30] k) fun v31 =>
  gd v21 true (fun k => pr (.pick) [v28, v31, (.bool false)] k) fun v32 =>
  gd v21 true (fun k => k v32) fun v33 =>
  gd v33 false (fun k => k x2) fun v34 =>
  gd v33 false (fun k => pr (.iop .lss) [v34, (vi 0)] k) fun v35 =>
  gd v33 false (fun k => k v35) fun v36 =>
  gd v36 true (fun k => k v12) fun v37 =>
  gd v36 true (fun k => pr (.iop .leq) [v37, (vi 0)] k) fun v38 =>
  gd v33 false (fun k => pr (.pick) [v36, v38, (.bool false)] k) fun v39 =>
  gd v33 false (fun k => k v39) fun v40 =>
  gd v40 true (fun k => k v12) fun v41 =>
  gd v40 true (fun k => k x2) fun v42 =>
  gd v40 true (fun k => pr (.iop .gtr) [v41, v42] k) fun v43 =>
  gd v33 false (fun k => pr (.pick) [v40, v43, (.bool false)] k) fun v44 =>
  gd v21 true (fun k => pr (.pick) [v33, (.bool true), v44] k) fun v45 =>
  pr (.pick) [v21, v45, (.bool false)] fun v46 =>
  R v46
def cosignerlaw11_StepCalc_J1 (w0 : World) (E R : Value → W) (v10 : Value) (v13 : Value) (v1 : Value) (x2 : Value) (v9 : Value) (v12 : Value) (x1 : Value) : W :=
  pr (.iop .neq) [v10, (vi 0)] fun v47 =>
  gd v47 false (fun k => k v13) fun v48 =>
  gd v47 false (fun k => pr (.iop .neq) [v48, (vi 0)] k) fun v49 =>
  pr (.pick) [v47, (.bool true), v49] fun v50 =>
  br v50 (
  R v1) (
  cosignerlaw11_StepCalc_J2 w0 E R v1 x2 v9 v12 x1)
def cosignerlaw11_StepCalc_F (w0 : World) (E R : Value → W) (x0 : Value) (x1 : Value) (x2 : Value) : W :=
  cl PP w0 id_cosignerlaw11_head [] E fun v1 =>
  cl PP w0 id_step_Calc [x0, x1, x2] E fun v2 =>
  pr (.extract 0) [v2] fun v3 =>
  pr (.extract 1) [v2] fun v4 =>
  cl PP w0 id_cosignerref11_Calc [x0, x1, x2] E fun v5 =>
  pr (.extract 0) [v5] fun v6 =>
  pr (.extract 1) [v5] fun v7 =>
  cl PP w0 id_step_Calc [(vi 9), x1, x2] E fun v8 =>
  pr (.extract 0) [v8] fun v9 =>
  pr (.extract 1) [v8] fun v10 =>
  cl PP w0 id_step_Calc [(vi 10), x1, x2] E fun v11 =>
  pr (.extract 0) [v11] fun v12 =>
  pr (.extract 1) [v11] fun v13 =>
  pr (.iop .neq) [v3, v6] fun v51 =>
  gd v51 false (fun k => k v4) fun v52 =>
  gd v51 false (fun k => k v7) fun v53 =>
  gd v51 false (fun k => pr (.iop .neq) [v52, v53] k) fun v54 =>
  pr (.pick) [v51, (.bool true), v54] fun v55 =>
  br v55 (
  R (.bool false)) (
  cosignerlaw11_StepCalc_J1 w0 E R v10 v13 v1 x2 v9 v12 x1)
theorem cosignerlaw11_StepCalc_wp {w0 : World} {h : AH} {Q : CR → AH → Prop} (x0 : Value) (x1 : Value) (x2 : Value) (H : cosignerlaw11_StepCalc_F w0 (fun v h => Q (.pan v) h) (fun v h => Q (.ret v) h) x0 x1 x2 h) : WF PP w0 id_cosignerlaw11_StepCalc [x0, x1, x2] h Q := by
  let E : Value → W := fun v h => Q (.pan v) h
  let R : Value → W := fun v h => Q (.ret v) h
  refine WF_enter hmix e3 ?_
  refine st_seq ?_
  refine st_ops ?_
  refine st_m (v := (.bool false)) (by kernel_rfl) ?_
  refine st_nil ?_
  refine st_next ?_
  refine st_seq ?_
  refine st_ops ?_
  refine st_c (vs := []) (by kernel_rfl) H (fun _ _ H => H) fun v1 h H => ?_
  refine st_m (v := v1) (by kernel_rfl) ?_
  refine st_nil ?_
  refine st_next ?_
  refine st_seq ?_
  refine st_ops ?_
  refine st_m (v := x0) (by kernel_rfl) ?_
  refine st_m (v := x1) (by kernel_rfl) ?_
  refine st_m (v := x2) (by kernel_rfl) ?_
  refine st_c (vs := [x0, x1, x2]) (by kernel_rfl) H (fun _ _ H => H) fun v2 h H => ?_
  refine st_m (v := v2) (by kernel_rfl) ?_
  refine st_p (vs := [v2]) (by kernel_rfl) H fun v3 h H => ?_
  refine st_p (vs := [v2]) (by kernel_rfl) H fun v4 h H => ?_
  refine st_m (v := v3) (by kernel_rfl) ?_
  refine st_m (v := v4) (by kernel_rfl) ?_
  refine st_nil ?_
  refine st_next ?_
  refine st_seq ?_
  refine st_ops ?_
  refine st_m (v := x0) (by kernel_rfl) ?_
  refine st_m (v := x1) (by kernel_rfl) ?_
  refine st_m (v := x2) (by kernel_rfl) ?_
  refine st_c (vs := [x0, x1, x2]) (by kernel_rfl) H (fun _ _ H => H) fun v5 h H => ?_
  refine st_m (v := v5) (by kernel_rfl) ?_
  refine st_p (vs := [v5]) (by kernel_rfl) H fun v6 h H => ?_
  refine st_p (vs := [v5]) (by kernel_rfl) H fun v7 h H => ?_
  refine st_m (v := v6) (by kernel_rfl) ?_
  refine st_m (v := v7) (by kernel_rfl) ?_
  refine st_nil ?_
  refine st_next ?_
  refine st_seq ?_
  refine st_ops ?_
  refine st_m (v := x1) (by kernel_rfl) ?_
  refine st_m (v := x2) (by kernel_rfl) ?_
  refine st_c (vs := [(vi 9), x1, x2]) (by kernel_rfl) H (fun _ _ H => H) fun v8 h H => ?_
  refine st_m (v := v8) (by kernel_rfl) ?_
  refine st_p (vs := [v8]) (by kernel_rfl) H fun v9 h H => ?_
  refine st_p (vs := [v8]) (by kernel_rfl) H fun v10 h H => ?_
  refine st_m (v := v9) (by kernel_rfl) ?_
  refine st_m (v := v10) (by kernel_rfl) ?_
  refine st_nil ?_
  refine st_next ?_
  refine st_seq ?_
  refine st_ops ?_
  refine st_m (v := x1) (by kernel_rfl) ?_
  refine st_m (v := x2) (by kernel_rfl) ?_
  refine st_c (vs := [(vi 10), x1, x2]) (by kernel_rfl) H (fun _ _ H => H) fun v11 h H => ?_
  refine st_m (v := v11) (by kernel_rfl) ?_
  refine st_p (vs := [v11]) (by kernel_rfl) H fun v12 h H => ?_
  refine st_p (vs := [v11]) (by kernel_rfl) H fun v13 h H => ?_
  refine st_m (v := v12) (by kernel_rfl) ?_
  refine st_m (v := v13) (by kernel_rfl) ?_
  refine st_nil ?_
  refine st_next ?_
  refine st_join (α := Unit) [(s1, x1), (s2, x2), (s7, v1), (s12, v9), (s13, v10), (s14, v12), (s15, v13)] (fun a => []) (fun σ => ()) (fun a => cosignerlaw11_StepCalc_J1 w0 E R v10 v13 v1 x2 v9 v12 x1 ) (fun σ => trivial) (fun a1 σ h H => ?_) ?_
  · refine st_join (α := Unit) [(s1, x1), (s2, x2), (s7, v1), (s12, v9), (s14, v12)] (fun a => []) (fun σ => ()) (fun a => cosignerlaw11_StepCalc_J2 w0 E R v1 x2 v9 v12 x1 ) (fun σ => trivial) (fun a2 σ h H => ?_) ?_
    · refine st_seq ?_
      refine st_ops ?_
      refine st_m (v := v1) (by kernel_rfl) ?_
      refine st_m (v := v1) (by kernel_rfl) ?_
      refine st_gm (v := x2) (gv := v1) (by kernel_rfl) (by kernel_rfl) H fun v14 h H => ?_
      refine st_gm (v := v9) (gv := v1) (by kernel_rfl) (by kernel_rfl) H fun v15 h H => ?_
      refine st_gp (vs := [v14, v15]) (gv := v1) (by kernel_rfl) (by kernel_rfl) H fun v16 h H => ?_
      refine st_gm (v := v12) (gv := v1) (by kernel_rfl) (by kernel_rfl) H fun v17 h H => ?_
      refine st_gp (vs := [v16, v17]) (gv := v1) (by kernel_rfl) (by kernel_rfl) H fun v18 h H => ?_
      refine st_gm (v := x1) (gv := v1) (by kernel_rfl) (by kernel_rfl) H fun v19 h H => ?_
      refine st_gp (vs := [v18, v19]) (gv := v1) (by kernel_rfl) (by kernel_rfl) H fun v20 h H => ?_
      refine st_p (vs := [v1, v20, (.bool false)]) (by kernel_rfl) H fun v21 h H => ?_
      refine st_m (v := v21) (by kernel_rfl) ?_
      refine st_gm (v := x2) (gv := v21) (by kernel_rfl) (by kernel_rfl) H fun v22 h H => ?_
      refine st_gp (vs := [v22, (vi 0)]) (gv := v21) (by kernel_rfl) (by kernel_rfl) H fun v23 h H => ?_
      refine st_gm (v := v23) (gv := v21) (by kernel_rfl) (by kernel_rfl) H fun v24 h H => ?_
      refine st_gm (v := v12) (gv := v24) (by kernel_rfl) (by kernel_rfl) H fun v25 h H => ?_
      refine st_gp (vs := [v25, (vi 0)]) (gv := v24) (by kernel_rfl) (by kernel_rfl) H fun v26 h H => ?_
      refine st_gp (vs := [v24, v26, (.bool false)]) (gv := v21) (by kernel_rfl) (by kernel_rfl) H fun v27 h H => ?_
      refine st_gm (v := v27) (gv := v21) (by kernel_rfl) (by kernel_rfl) H fun v28 h H => ?_
      refine st_gm (v := v12) (gv := v28) (by kernel_rfl) (by kernel_rfl) H fun v29 h H => ?_
      refine st_gm (v := x2) (gv := v28) (by kernel_rfl) (by kernel_rfl) H fun v30 h H => ?_
      refine st_gp (vs := [v29, v30]) (gv := v28) (by kernel_rfl) (by kernel_rfl) H fun v31 h H => ?_
      refine st_gp (vs := [v28, v31, (.bool false)]) (gv := v21) (by kernel_rfl) (by kernel_rfl) H fun v32 h H => ?_
      refine st_gm (v := v32) (gv := v21) (by kernel_rfl) (by kernel_rfl) H fun v33 h H => ?_
      refine st_gm (v := x2) (gv := v33) (by kernel_rfl) (by kernel_rfl) H fun v34 h H => ?_
      refine st_gp (vs := [v34, (vi 0)]) (gv := v33) (by kernel_rfl) (by kernel_rfl) H fun v35 h H => ?_
      refine st_gm (v := v35) (gv := v33) (by kernel_rfl) (by kernel_rfl) H fun v36 h H => ?_
      refine st_gm (v := v12) (gv := v36) (by kernel_rfl) (by kernel_rfl) H fun v37 h H => ?_
      refine st_gp (vs := [v37, (vi 0)]) (gv := v36) (by kernel_rfl) (by kernel_rfl) H fun v38 h H => ?_
      refine st_gp (vs := [v36, v38, (.bool false)]) (gv := v33) (by kernel_rfl) (by kernel_rfl) H fun v39 h H => ?_
      refine st_gm (v := v39) (gv := v33) (by kernel_rfl) (by kernel_rfl) H fun v40 h H => ?_
      refine st_gm (v := v12) (gv := v40) (by kernel_rfl) (by kernel_rfl) H fun v41 h H => ?_
      refine st_gm (v := x2) (gv := v40) (by kernel_rfl) (by kernel_rfl) H fun v42 h H => ?_
      refine st_gp (vs := [v41, v42]) (gv := v40) (by kernel_rfl) (by kernel_rfl) H fun v43 h H => ?_
      refine st_gp (vs := [v40, v43, (.bool false)]) (gv := v33) (by kernel_rfl) (by kernel_rfl) H fun v44 h H => ?_
      refine st_gp (vs := [v33, (.bool true), v44]) (gv := v21) (by kernel_rfl) (by kernel_rfl) H fun v45 h H => ?_
      refine st_p (vs := [v21, v45, (.bool false)]) (by kernel_rfl) H fun v46 h H => ?_
      refine st_m (v := v46) (by kernel_rfl) ?_
      refine st_nil ?_
      refine st_next ?_
      exact Eq.mp (by kernel_rfl) H
    · refine st_seq ?_
      refine st_ops ?_
      refine st_m (v := v10) (by kernel_rfl) ?_
      refine st_p (vs := [v10, (vi 0)]) (by kernel_rfl) H fun v47 h H => ?_
      refine st_m (v := v47) (by kernel_rfl) ?_
      refine st_gm (v := v13) (gv := v47) (by kernel_rfl) (by kernel_rfl) H fun v48 h H => ?_
      refine st_gp (vs := [v48, (vi 0)]) (gv := v47) (by kernel_rfl) (by kernel_rfl) H fun v49 h H => ?_
      refine st_p (vs := [v47, (.bool true), v49]) (by kernel_rfl) H fun v50 h H => ?_
      refine st_nil ?_
      refine st_next ?_
      refine st_cond (v := v50) (by kernel_rfl) H (fun H => ?_) (fun H => ?_)
      · refine st_seq ?_
        refine st_ops ?_
        refine st_m (v := v1) (by kernel_rfl) ?_
        refine st_m (v := v1) (by kernel_rfl) ?_
        refine st_nil ?_
        refine st_next ?_
        exact Eq.mp (by kernel_rfl) H
      · refine st_skip ?_
        exact Eq.mp (by kernel_rfl) (And.intro (Eq.refl (⟨[], .off⟩ : DS)) (And.intro (And.intro (Eq.refl (x1 : Value)) (And.intro (Eq.refl (x2 : Value)) (And.intro (Eq.refl (v1 : Value)) (And.intro (Eq.refl (v9 : Value)) (And.intro (Eq.refl (v12 : Value)) trivial))))) H))
  · refine st_seq ?_
    refine st_ops ?_
    refine st_m (v := v3) (by kernel_rfl) ?_
    refine st_m (v := v6) (by kernel_rfl) ?_
    refine st_p (vs := [v3, v6]) (by kernel_rfl) H fun v51 h H => ?_
    refine st_m (v := v51) (by kernel_rfl) ?_
    refine st_gm (v := v4) (gv := v51) (by kernel_rfl) (by kernel_rfl) H fun v52 h H => ?_
    refine st_gm (v := v7) (gv := v51) (by kernel_rfl) (by kernel_rfl) H fun v53 h H => ?_
    refine st_gp (vs := [v52, v53]) (gv := v51) (by kernel_rfl) (by kernel_rfl) H fun v54 h H => ?_
    refine st_p (vs := [v51, (.bool true), v54]) (by kernel_rfl) H fun v55 h H => ?_
    refine st_nil ?_
    refine st_next ?_
    refine st_cond (v := v55) (by kernel_rfl) H (fun H => ?_) (fun H => ?_)
    · refine st_seq ?_
      refine st_ops ?_
      refine st_m (v := (.bool false)) (by kernel_rfl) ?_
      refine st_nil ?_
      refine st_next ?_
      exact Eq.mp (by kernel_rfl) H
    · refine st_skip ?_
      exact Eq.mp (by kernel_rfl) (And.intro (Eq.refl (⟨[], .off⟩ : DS)) (And.intro (And.intro (Eq.refl (x1 : Value)) (And.intro (Eq.refl (x2 : Value)) (And.intro (Eq.refl (v1 : Value)) (And.intro (Eq.refl (v9 : Value)) (And.intro (Eq.refl (v10 : Value)) (And.intro (Eq.refl (v12 : Value)) (And.intro (Eq.refl (v13 : Value)) trivial))))))) H))
end
end Go.Ve.T
