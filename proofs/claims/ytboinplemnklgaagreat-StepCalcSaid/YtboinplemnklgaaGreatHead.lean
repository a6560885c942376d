/- The closed run of the chapter's examples, by the evaluator, in the kernel: 'head' returns true, and changes nothing of what was there. No condition. -/
import Derived.Test.YtboinplemnklgaaGreatLit
import Derived.KernelRfl
set_option linter.unusedVariables false
set_option linter.unusedSimpArgs false
namespace Go.Ve.T
open Go.Ve Go.Proofs
set_option maxHeartbeats 0 in
theorem head_ev : ev prog 1000000 (.call 13 [] ⟨0, .e⟩ fun r _ => match r with | .ret (.bool b) => b | _ => false) = true := by kernel_rfl
theorem head_can : Can PP 13 := by
  obtain ⟨_, _, _, h, _⟩ := cFn_t e13
  exact h
theorem head_ok {w0 : World} (h : AH) (R : CR → AH → Prop) (hR : R (.ret (.bool true)) h) : WF PP w0 id_cosignerlaw11_head [] h R :=
  WF_below head_can (fun w => call_true hmix hprog head_ev w) hR
end Go.Ve.T
