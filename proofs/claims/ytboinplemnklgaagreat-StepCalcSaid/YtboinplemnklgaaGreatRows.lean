/-
  No cell of these rows narrows 'for every input' (looked for: loops, veiled, ifaces, maps, wideKeys, modest, calm, conditions, laid).
  DERIVED. THE GIVEN ROWS OF THIS SEAT. 10 by the template 'for every input the law returns true; each argument reads behind the call as it read before'; 0 by the template 'total and deterministic' (their statements: YtboinplemnklgaaGreatTotals.lean).
  GIVEN WITH THE SEED: the statements are not yours to turn. If you find one false, say at which input.
  Laid BY PROGRAM, IN A SANDBOX (cutbox-rows.mjs): the forced cells as the released guide's own fill.sh prints them over the translation 75b61401d0edc421… (all of the seat's roots in one cut). By AI agents, Wed Nov 11 2026. No macro, syntax, notation, axiom, sorry.
-/
import Derived.Test.YtboinplemnklgaaGreatChecked
import GoSem.Claim
import GoSem.ClaimJoined
import GoSem.ClaimMapViews
import Derived.JoinedTies
import Derived.KernelRfl
namespace Go.Proofs.YtboinplemnklgaaGreat
/- THE CELL 'sum', in the pinned program and in every row, IS THE sha256 OF THE DUMP (.gsa) THAT YtboinplemnklgaaGreatProg.lean LOADS. Nothing in Lean hashes anything: it is a label: what it is worth is what the hold of that sum in a sandbox is worth. -/
noncomputable def Tryz.pinned : Pinned := { name := "ytboinplemnklgaagreat", sum := "75b61401d0edc421ab10f1b95ded0b3f7c9a47b85b9c092ba7a731a73304ccce", checked := Tryz.checked }
namespace Rows
def none {H : Type} : Left H := { results := [], args := [] }

/-- 'cosignerlaw11.StepCalc': WHATEVER THE INPUT: true; the input reads as it did. -/
def stepCalcSpec : ChangeSpec := { name := "stepCalc", fn := fun _ => fun
  | [d1, d2, d3] => { results := [.lit (.bool true)], args := [d1, d2, d3] }
  | _ => none }
def stepCalcRow : OpenClaim := { program := "ytboinplemnklgaagreat", sum := "75b61401d0edc421ab10f1b95ded0b3f7c9a47b85b9c092ba7a731a73304ccce", func := "cosigner/cosignerlaw11.StepCalc", spec := "stepCalc", unfollowed := true, recurses := true, apart := false }
def StepCalcSaid : Prop := stepCalcRow.holds Tryz.pinned (OpenSpec.ofChange stepCalcSpec)

/-- ITS FALSE NEIGHBOUR: 'it returns false'. Refute it at one input. -/
def stepCalcWrong : ChangeSpec := { name := "stepCalc", fn := fun _ => fun
  | [d1, d2, d3] => { results := [.lit (.bool false)], args := [d1, d2, d3] }
  | _ => none }
def StepCalcWrongFalsely : Prop := stepCalcRow.holds Tryz.pinned (OpenSpec.ofChange stepCalcWrong)

/-- 'cosignerlaw11.StepFinishes': WHATEVER THE INPUT: true; the input reads as it did. -/
def stepFinishesSpec : ChangeSpec := { name := "stepFinishes", fn := fun _ => fun
  | [d1, d2, d3, d4] => { results := [.lit (.bool true)], args := [d1, d2, d3, d4] }
  | _ => none }
def stepFinishesRow : OpenClaim := { program := "ytboinplemnklgaagreat", sum := "75b61401d0edc421ab10f1b95ded0b3f7c9a47b85b9c092ba7a731a73304ccce", func := "cosigner/cosignerlaw11.StepFinishes", spec := "stepFinishes", unfollowed := true, recurses := true, apart := false }
def StepFinishesSaid : Prop := stepFinishesRow.holds Tryz.pinned (OpenSpec.ofChange stepFinishesSpec)

/-- ITS FALSE NEIGHBOUR: 'it returns false'. Refute it at one input. -/
def stepFinishesWrong : ChangeSpec := { name := "stepFinishes", fn := fun _ => fun
  | [d1, d2, d3, d4] => { results := [.lit (.bool false)], args := [d1, d2, d3, d4] }
  | _ => none }
def StepFinishesWrongFalsely : Prop := stepFinishesRow.holds Tryz.pinned (OpenSpec.ofChange stepFinishesWrong)

/-- 'cosignerlaw11.StepRuns': WHATEVER THE INPUT: true; the input reads as it did. -/
def stepRunsSpec : ChangeSpec := { name := "stepRuns", fn := fun _ => fun
  | [d1, d2, d3] => { results := [.lit (.bool true)], args := [d1, d2, d3] }
  | _ => none }
def stepRunsRow : OpenClaim := { program := "ytboinplemnklgaagreat", sum := "75b61401d0edc421ab10f1b95ded0b3f7c9a47b85b9c092ba7a731a73304ccce", func := "cosigner/cosignerlaw11.StepRuns", spec := "stepRuns", unfollowed := true, recurses := true, apart := false }
def StepRunsSaid : Prop := stepRunsRow.holds Tryz.pinned (OpenSpec.ofChange stepRunsSpec)

/-- ITS FALSE NEIGHBOUR: 'it returns false'. Refute it at one input. -/
def stepRunsWrong : ChangeSpec := { name := "stepRuns", fn := fun _ => fun
  | [d1, d2, d3] => { results := [.lit (.bool false)], args := [d1, d2, d3] }
  | _ => none }
def StepRunsWrongFalsely : Prop := stepRunsRow.holds Tryz.pinned (OpenSpec.ofChange stepRunsWrong)

/-- 'cosignerlaw11.StepThings': WHATEVER THE INPUT: true; the input reads as it did. -/
def stepThingsSpec : ChangeSpec := { name := "stepThings", fn := fun _ => fun
  | [d1, d2, d3] => { results := [.lit (.bool true)], args := [d1, d2, d3] }
  | _ => none }
def stepThingsRow : OpenClaim := { program := "ytboinplemnklgaagreat", sum := "75b61401d0edc421ab10f1b95ded0b3f7c9a47b85b9c092ba7a731a73304ccce", func := "cosigner/cosignerlaw11.StepThings", spec := "stepThings", unfollowed := true, recurses := true, apart := false }
def StepThingsSaid : Prop := stepThingsRow.holds Tryz.pinned (OpenSpec.ofChange stepThingsSpec)

/-- ITS FALSE NEIGHBOUR: 'it returns false'. Refute it at one input. -/
def stepThingsWrong : ChangeSpec := { name := "stepThings", fn := fun _ => fun
  | [d1, d2, d3] => { results := [.lit (.bool false)], args := [d1, d2, d3] }
  | _ => none }
def StepThingsWrongFalsely : Prop := stepThingsRow.holds Tryz.pinned (OpenSpec.ofChange stepThingsWrong)

/-- 'cosignerlaw11.StepEnds': WHATEVER THE INPUT: true; the input reads as it did. -/
def stepEndsSpec : ChangeSpec := { name := "stepEnds", fn := fun _ => fun
  | [d1, d2, d3, d4, d5] => { results := [.lit (.bool true)], args := [d1, d2, d3, d4, d5] }
  | _ => none }
def stepEndsRow : OpenClaim := { program := "ytboinplemnklgaagreat", sum := "75b61401d0edc421ab10f1b95ded0b3f7c9a47b85b9c092ba7a731a73304ccce", func := "cosigner/cosignerlaw11.StepEnds", spec := "stepEnds", unfollowed := true, recurses := true, apart := false }
def StepEndsSaid : Prop := stepEndsRow.holds Tryz.pinned (OpenSpec.ofChange stepEndsSpec)

/-- ITS FALSE NEIGHBOUR: 'it returns false'. Refute it at one input. -/
def stepEndsWrong : ChangeSpec := { name := "stepEnds", fn := fun _ => fun
  | [d1, d2, d3, d4, d5] => { results := [.lit (.bool false)], args := [d1, d2, d3, d4, d5] }
  | _ => none }
def StepEndsWrongFalsely : Prop := stepEndsRow.holds Tryz.pinned (OpenSpec.ofChange stepEndsWrong)

/-- 'cosignerlaw11.StepAlone': WHATEVER THE INPUT: true; the input reads as it did. -/
def stepAloneSpec : ChangeSpec := { name := "stepAlone", fn := fun _ => fun
  | [d1, d2, d3] => { results := [.lit (.bool true)], args := [d1, d2, d3] }
  | _ => none }
def stepAloneRow : OpenClaim := { program := "ytboinplemnklgaagreat", sum := "75b61401d0edc421ab10f1b95ded0b3f7c9a47b85b9c092ba7a731a73304ccce", func := "cosigner/cosignerlaw11.StepAlone", spec := "stepAlone", unfollowed := true, recurses := true, apart := false }
def StepAloneSaid : Prop := stepAloneRow.holds Tryz.pinned (OpenSpec.ofChange stepAloneSpec)

/-- ITS FALSE NEIGHBOUR: 'it returns false'. Refute it at one input. -/
def stepAloneWrong : ChangeSpec := { name := "stepAlone", fn := fun _ => fun
  | [d1, d2, d3] => { results := [.lit (.bool false)], args := [d1, d2, d3] }
  | _ => none }
def StepAloneWrongFalsely : Prop := stepAloneRow.holds Tryz.pinned (OpenSpec.ofChange stepAloneWrong)

/-- 'cosignerlaw11.StepTurns': WHATEVER THE INPUT: true; the input reads as it did. -/
def stepTurnsSpec : ChangeSpec := { name := "stepTurns", fn := fun _ => fun
  | [d1, d2, d3, d4] => { results := [.lit (.bool true)], args := [d1, d2, d3, d4] }
  | _ => none }
def stepTurnsRow : OpenClaim := { program := "ytboinplemnklgaagreat", sum := "75b61401d0edc421ab10f1b95ded0b3f7c9a47b85b9c092ba7a731a73304ccce", func := "cosigner/cosignerlaw11.StepTurns", spec := "stepTurns", unfollowed := true, recurses := true, apart := false }
def StepTurnsSaid : Prop := stepTurnsRow.holds Tryz.pinned (OpenSpec.ofChange stepTurnsSpec)

/-- ITS FALSE NEIGHBOUR: 'it returns false'. Refute it at one input. -/
def stepTurnsWrong : ChangeSpec := { name := "stepTurns", fn := fun _ => fun
  | [d1, d2, d3, d4] => { results := [.lit (.bool false)], args := [d1, d2, d3, d4] }
  | _ => none }
def StepTurnsWrongFalsely : Prop := stepTurnsRow.holds Tryz.pinned (OpenSpec.ofChange stepTurnsWrong)

/-- 'cosignerlaw11.StepReplays': WHATEVER THE INPUT: true; the input reads as it did. -/
def stepReplaysSpec : ChangeSpec := { name := "stepReplays", fn := fun _ => fun
  | [d1, d2, d3, d4, d5, d6] => { results := [.lit (.bool true)], args := [d1, d2, d3, d4, d5, d6] }
  | _ => none }
def stepReplaysRow : OpenClaim := { program := "ytboinplemnklgaagreat", sum := "75b61401d0edc421ab10f1b95ded0b3f7c9a47b85b9c092ba7a731a73304ccce", func := "cosigner/cosignerlaw11.StepReplays", spec := "stepReplays", unfollowed := true, recurses := true, apart := false }
def StepReplaysSaid : Prop := stepReplaysRow.holds Tryz.pinned (OpenSpec.ofChange stepReplaysSpec)

/-- ITS FALSE NEIGHBOUR: 'it returns false'. Refute it at one input. -/
def stepReplaysWrong : ChangeSpec := { name := "stepReplays", fn := fun _ => fun
  | [d1, d2, d3, d4, d5, d6] => { results := [.lit (.bool false)], args := [d1, d2, d3, d4, d5, d6] }
  | _ => none }
def StepReplaysWrongFalsely : Prop := stepReplaysRow.holds Tryz.pinned (OpenSpec.ofChange stepReplaysWrong)

/-- 'cosignerlaw11.StepOrderDecides': WHATEVER THE INPUT: true; the input reads as it did. -/
def stepOrderDecidesSpec : ChangeSpec := { name := "stepOrderDecides", fn := fun _ => fun
  | [d1, d2, d3, d4] => { results := [.lit (.bool true)], args := [d1, d2, d3, d4] }
  | _ => none }
def stepOrderDecidesRow : OpenClaim := { program := "ytboinplemnklgaagreat", sum := "75b61401d0edc421ab10f1b95ded0b3f7c9a47b85b9c092ba7a731a73304ccce", func := "cosigner/cosignerlaw11.StepOrderDecides", spec := "stepOrderDecides", unfollowed := true, recurses := true, apart := false }
def StepOrderDecidesSaid : Prop := stepOrderDecidesRow.holds Tryz.pinned (OpenSpec.ofChange stepOrderDecidesSpec)

/-- ITS FALSE NEIGHBOUR: 'it returns false'. Refute it at one input. -/
def stepOrderDecidesWrong : ChangeSpec := { name := "stepOrderDecides", fn := fun _ => fun
  | [d1, d2, d3, d4] => { results := [.lit (.bool false)], args := [d1, d2, d3, d4] }
  | _ => none }
def StepOrderDecidesWrongFalsely : Prop := stepOrderDecidesRow.holds Tryz.pinned (OpenSpec.ofChange stepOrderDecidesWrong)

/-- 'cosignerlaw11.StepDead': WHATEVER THE INPUT: true; the input reads as it did. -/
def stepDeadSpec : ChangeSpec := { name := "stepDead", fn := fun _ => fun
  | [d1, d2, d3] => { results := [.lit (.bool true)], args := [d1, d2, d3] }
  | _ => none }
def stepDeadRow : OpenClaim := { program := "ytboinplemnklgaagreat", sum := "75b61401d0edc421ab10f1b95ded0b3f7c9a47b85b9c092ba7a731a73304ccce", func := "cosigner/cosignerlaw11.StepDead", spec := "stepDead", unfollowed := true, recurses := true, apart := false }
def StepDeadSaid : Prop := stepDeadRow.holds Tryz.pinned (OpenSpec.ofChange stepDeadSpec)

/-- ITS FALSE NEIGHBOUR: 'it returns false'. Refute it at one input. -/
def stepDeadWrong : ChangeSpec := { name := "stepDead", fn := fun _ => fun
  | [d1, d2, d3] => { results := [.lit (.bool false)], args := [d1, d2, d3] }
  | _ => none }
def StepDeadWrongFalsely : Prop := stepDeadRow.holds Tryz.pinned (OpenSpec.ofChange stepDeadWrong)

/- THE SECOND FORM. 'bulk': how many values and letters a reading holds, each counted each time it is reached (what is shared counts as often as it is met; a slice's spare places count too). A statement '..UptoSaid' is the law's where the arguments, and the package variables that the reading takes, are together of bulk at most 1048576: NARROWER than '..Said'. Prove '..Said' where nothing that the law and all that it calls make is longer than what came in: it says more and counts as full. Else prove '..UptoSaid'. A law counts once. -/
mutual
def uptoBulk {H : Type} : DataW H → Nat
  | .lit (.string bytes) => bytes.length + 1
  | .lit _ => 1
  | .nil => 1
  | .ptr d => uptoBulk d + 1
  | .slice elems spare => uptoBulkAll elems + uptoBulkAll spare + 1
  | .agg parts => uptoBulkAll parts + 1
  | .iface _ d => uptoBulk d + 1
  | .map entries => uptoBulkEntries entries + 1
  | .held _ => 1
def uptoBulkAll {H : Type} : List (DataW H) → Nat
  | [] => 0
  | d :: r => uptoBulk d + uptoBulkAll r
def uptoBulkEntries {H : Type} : List (Lit × DataW H) → Nat
  | [] => 0
  | x :: r => uptoBulkEntry x + uptoBulkEntries r
def uptoBulkEntry {H : Type} : Lit × DataW H → Nat
  | (.string bytes, d) => bytes.length + uptoBulk d + 1
  | (_, d) => uptoBulk d + 1
 end
def uptoSmall : (H : Type) → List (DataW H) → Bool := fun _ ds => decide (uptoBulkAll ds ≤ 1048576)
def OpenSpec.upto (s : _root_.Go.ChangeSpec) : _root_.Go.OpenSpec := { _root_.Go.OpenSpec.ofChange s with cond := some uptoSmall }

/-- 'cosignerlaw11.StepCalc', WHERE WHAT IT READS IS OF BULK AT MOST 1048576: true; the input reads as it did. -/
def stepCalcUptoRow : OpenClaim := { program := "ytboinplemnklgaagreat", sum := "75b61401d0edc421ab10f1b95ded0b3f7c9a47b85b9c092ba7a731a73304ccce", func := "cosigner/cosignerlaw11.StepCalc", spec := "stepCalc", unfollowed := true, recurses := true, apart := false, narrowed := true }
def StepCalcUptoSaid : Prop := stepCalcUptoRow.holds Tryz.pinned (OpenSpec.upto stepCalcSpec)

/-- 'cosignerlaw11.StepFinishes', WHERE WHAT IT READS IS OF BULK AT MOST 1048576: true; the input reads as it did. -/
def stepFinishesUptoRow : OpenClaim := { program := "ytboinplemnklgaagreat", sum := "75b61401d0edc421ab10f1b95ded0b3f7c9a47b85b9c092ba7a731a73304ccce", func := "cosigner/cosignerlaw11.StepFinishes", spec := "stepFinishes", unfollowed := true, recurses := true, apart := false, narrowed := true }
def StepFinishesUptoSaid : Prop := stepFinishesUptoRow.holds Tryz.pinned (OpenSpec.upto stepFinishesSpec)

/-- 'cosignerlaw11.StepRuns', WHERE WHAT IT READS IS OF BULK AT MOST 1048576: true; the input reads as it did. -/
def stepRunsUptoRow : OpenClaim := { program := "ytboinplemnklgaagreat", sum := "75b61401d0edc421ab10f1b95ded0b3f7c9a47b85b9c092ba7a731a73304ccce", func := "cosigner/cosignerlaw11.StepRuns", spec := "stepRuns", unfollowed := true, recurses := true, apart := false, narrowed := true }
def StepRunsUptoSaid : Prop := stepRunsUptoRow.holds Tryz.pinned (OpenSpec.upto stepRunsSpec)

/-- 'cosignerlaw11.StepThings', WHERE WHAT IT READS IS OF BULK AT MOST 1048576: true; the input reads as it did. -/
def stepThingsUptoRow : OpenClaim := { program := "ytboinplemnklgaagreat", sum := "75b61401d0edc421ab10f1b95ded0b3f7c9a47b85b9c092ba7a731a73304ccce", func := "cosigner/cosignerlaw11.StepThings", spec := "stepThings", unfollowed := true, recurses := true, apart := false, narrowed := true }
def StepThingsUptoSaid : Prop := stepThingsUptoRow.holds Tryz.pinned (OpenSpec.upto stepThingsSpec)

/-- 'cosignerlaw11.StepEnds', WHERE WHAT IT READS IS OF BULK AT MOST 1048576: true; the input reads as it did. -/
def stepEndsUptoRow : OpenClaim := { program := "ytboinplemnklgaagreat", sum := "75b61401d0edc421ab10f1b95ded0b3f7c9a47b85b9c092ba7a731a73304ccce", func := "cosigner/cosignerlaw11.StepEnds", spec := "stepEnds", unfollowed := true, recurses := true, apart := false, narrowed := true }
def StepEndsUptoSaid : Prop := stepEndsUptoRow.holds Tryz.pinned (OpenSpec.upto stepEndsSpec)

/-- 'cosignerlaw11.StepAlone', WHERE WHAT IT READS IS OF BULK AT MOST 1048576: true; the input reads as it did. -/
def stepAloneUptoRow : OpenClaim := { program := "ytboinplemnklgaagreat", sum := "75b61401d0edc421ab10f1b95ded0b3f7c9a47b85b9c092ba7a731a73304ccce", func := "cosigner/cosignerlaw11.StepAlone", spec := "stepAlone", unfollowed := true, recurses := true, apart := false, narrowed := true }
def StepAloneUptoSaid : Prop := stepAloneUptoRow.holds Tryz.pinned (OpenSpec.upto stepAloneSpec)

/-- 'cosignerlaw11.StepTurns', WHERE WHAT IT READS IS OF BULK AT MOST 1048576: true; the input reads as it did. -/
def stepTurnsUptoRow : OpenClaim := { program := "ytboinplemnklgaagreat", sum := "75b61401d0edc421ab10f1b95ded0b3f7c9a47b85b9c092ba7a731a73304ccce", func := "cosigner/cosignerlaw11.StepTurns", spec := "stepTurns", unfollowed := true, recurses := true, apart := false, narrowed := true }
def StepTurnsUptoSaid : Prop := stepTurnsUptoRow.holds Tryz.pinned (OpenSpec.upto stepTurnsSpec)

/-- 'cosignerlaw11.StepReplays', WHERE WHAT IT READS IS OF BULK AT MOST 1048576: true; the input reads as it did. -/
def stepReplaysUptoRow : OpenClaim := { program := "ytboinplemnklgaagreat", sum := "75b61401d0edc421ab10f1b95ded0b3f7c9a47b85b9c092ba7a731a73304ccce", func := "cosigner/cosignerlaw11.StepReplays", spec := "stepReplays", unfollowed := true, recurses := true, apart := false, narrowed := true }
def StepReplaysUptoSaid : Prop := stepReplaysUptoRow.holds Tryz.pinned (OpenSpec.upto stepReplaysSpec)

/-- 'cosignerlaw11.StepOrderDecides', WHERE WHAT IT READS IS OF BULK AT MOST 1048576: true; the input reads as it did. -/
def stepOrderDecidesUptoRow : OpenClaim := { program := "ytboinplemnklgaagreat", sum := "75b61401d0edc421ab10f1b95ded0b3f7c9a47b85b9c092ba7a731a73304ccce", func := "cosigner/cosignerlaw11.StepOrderDecides", spec := "stepOrderDecides", unfollowed := true, recurses := true, apart := false, narrowed := true }
def StepOrderDecidesUptoSaid : Prop := stepOrderDecidesUptoRow.holds Tryz.pinned (OpenSpec.upto stepOrderDecidesSpec)

/-- 'cosignerlaw11.StepDead', WHERE WHAT IT READS IS OF BULK AT MOST 1048576: true; the input reads as it did. -/
def stepDeadUptoRow : OpenClaim := { program := "ytboinplemnklgaagreat", sum := "75b61401d0edc421ab10f1b95ded0b3f7c9a47b85b9c092ba7a731a73304ccce", func := "cosigner/cosignerlaw11.StepDead", spec := "stepDead", unfollowed := true, recurses := true, apart := false, narrowed := true }
def StepDeadUptoSaid : Prop := stepDeadUptoRow.holds Tryz.pinned (OpenSpec.upto stepDeadSpec)

end Rows
end Go.Proofs.YtboinplemnklgaaGreat
