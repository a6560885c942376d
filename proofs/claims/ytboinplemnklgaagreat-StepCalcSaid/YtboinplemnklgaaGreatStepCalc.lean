/- For every operation and two numbers, StepCalc returns true, and changes nothing. No condition. -/
import Derived.Test.YtboinplemnklgaaGreatCalc
import Derived.Test.YtboinplemnklgaaGreatHead
import Derived.Test.YtboinplemnklgaaGreatVeAc
import Derived.Test.YtboinplemnklgaaGreatRows
set_option linter.unusedVariables false
set_option linter.unusedSimpArgs false
namespace Go.Proofs.YtboinplemnklgaaGreat.stepCalc
open Go.ChangeShapes Go.WideShapes Go.ChangeAt Go.RowKit Go.Ve
theorem own : ownKnob Tryz.prog.godebug = none := by kernel_rfl
theorem laidOut : laidOutB Tryz.prog = true := by kernel_rfl

theorem walk (a0 a1 a2 : Int) (w : World) : Calls Tryz.prog 3 #[.int .i64 a0, .int .i64 a1, .int .i64 a2] w fun e w' => e = .returned (.bool true) ∧ Below w.heap.size w w' :=
  calls_bare (args := [.int .i64 a0, .int .i64 a1, .int .i64 a2]) (.cons _ _ _ _ (.int _ _) (.cons _ _ _ _ (.int _ _) (.cons _ _ _ _ (.int _ _) .nil))) (Go.Ve.T.StepCalc_ok a0 a1 a2 (fun h R hR => Go.Ve.T.head_ok h R hR) rfl)

set_option maxRecDepth 100000 in
theorem lifted (os : Os) (started : os.Started) (H : Type) (enc : TypeId × Value → H) :
    ReturnsInHanded {} Tryz.checked os 3 .any (Rows.stepCalcSpec.pre6 enc Tryz.prog Tryz.f3 Rows.stepCalcRow.domain false) (Rows.stepCalcSpec.post enc Tryz.prog Tryz.f3 false true false false) := by
  refine law_lifted (C := Tryz.checked) (tb := 4) own started (by kernel_rfl) Tryz.func3
    (ChangeSpec.witness6 (enc := enc) (C := Tryz.checked) false ⟨#[], #[.int .i64 0, .int .i64 0, .int .i64 0], []⟩ 8 (by kernel_rfl) (by kernel_rfl) (by kernel_rfl) (by kernel_rfl))
    laidOut (by decide +kernel) rfl Tryz.underlying4 rfl ?_ ?_
  · intro ds hds
    rw [Tryz.params3] at hds
    match ds, hds with
    | [_, _, _], _ => rfl
  · intro W base args ds ps hval h
    rw [Tryz.params3] at h hval
    obtain ⟨v0, vs0, d0, ds0, p0, q0, hargs, rfl, rfl, h0, r0⟩ := trodAll_cons h
    obtain ⟨v1, vs1, d1, ds1, p1, q1, rfl, rfl, rfl, h1, r1⟩ := trodAll_cons r0
    obtain ⟨v2, vs2, d2, ds2, p2, q2, rfl, rfl, rfl, h2, r2⟩ := trodAll_cons r1
    obtain ⟨rfl, rfl, rfl⟩ := trodAll_nil r2
    obtain rfl : args = #[v0, v1, v2] := by cases args; simp_all
    obtain ⟨a0, rfl, _⟩ := open_int Tryz.underlying3 (hval 0 3 v0 rfl rfl) h0
    obtain ⟨a1, rfl, _⟩ := open_int Tryz.underlying3 (hval 1 3 v1 rfl rfl) h1
    obtain ⟨a2, rfl, _⟩ := open_int Tryz.underlying3 (hval 2 3 v2 rfl rfl) h2
    exact walk a0 a1 a2 W

theorem over : Rows.stepCalcRow.holds Tryz.pinned (OpenSpec.ofChange Rows.stepCalcSpec) :=
  OpenClaim.holds_of_wide 3 Tryz.f3 rfl rfl rfl rfl rfl rfl rfl ⟨rfl, rfl, rfl, rfl, rfl⟩ rfl rfl rfl rfl rfl (by kernel_rfl) Tryz.func3 (by kernel_rfl)
    (of_decide_eq_true (by kernel_rfl)) (by unfold Func.isWrapper; first | (rw [if_pos (by decide +kernel)]; kernel_rfl) | (rw [if_neg (by decide +kernel)]; exact ⟨rfl, rfl⟩))
    (fun os started H enc _ => lifted os started H enc)

/-- the statement -/
theorem proved : Rows.StepCalcSaid := over
#print axioms proved
end Go.Proofs.YtboinplemnklgaaGreat.stepCalc
