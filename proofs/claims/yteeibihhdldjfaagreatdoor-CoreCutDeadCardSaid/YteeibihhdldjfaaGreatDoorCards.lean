/-
  DERIVED. GIVEN WITH THE SEED: THE CARDS: each row of YteeibihhdldjfaaGreatDoorRows.lean that lists a variable, with what it lists TIED to the program's text (the seventh form; the later family's looks); each row that meets fmt, with fmt's text TOLD by the authors' own Lean function (tested against real Go, not proved from fmt's source: count such statements apart). THE CARD IS WHAT COUNTS. Prove the row's statement (the work); the ties are given (YteeibihhdldjfaaGreatDoorTie.lean); close each card by the builder's one call (the guide's Derived/Test/ToyasCard.lean, 'card_holds'). Laid BY PROGRAM, IN A SANDBOX (cutbox-door.mjs). By AI agents, Wed Nov 11 2026. No macro, syntax, notation, axiom, sorry.
-/
import Derived.Test.YteeibihhdldjfaaGreatDoorRows
import GoSem.ClaimSeven
namespace Go.Proofs.YteeibihhdldjfaaGreatDoor
namespace Rows

/-- THE TIED CARD OF 'cosignerlaw08.CoreFlows'. -/
def coreFlowsCard : Claim7 := { stood := { row := coreFlowsRow, standIns := [], harness := (true, "f660de9106857c3104c04135e263b600a229660ebd3665a37a2679d10f18de76"), looks := true }, kinds := [], alts := [], laidByText := true, laidKinds := [.data, .data, .data, .data, .sentinel, .sentinel, .pinned], laidTests := true, laidLooks := .later }
def CoreFlowsCardSaid : Prop := Claim7.holds Tryz.pinned (.plain (OpenSpec.ofChange coreFlowsSpec)) coreFlowsCard

/-- THE TIED CARD OF 'cosignerlaw08.CoreCuts'. -/
def coreCutsCard : Claim7 := { stood := { row := coreCutsRow, standIns := [], harness := (true, "f660de9106857c3104c04135e263b600a229660ebd3665a37a2679d10f18de76"), looks := true }, kinds := [], alts := [], laidByText := true, laidKinds := [.data, .data, .data, .data, .sentinel, .sentinel, .pinned], laidTests := true, laidLooks := .later }
def CoreCutsCardSaid : Prop := Claim7.holds Tryz.pinned (.plain (OpenSpec.ofChange coreCutsSpec)) coreCutsCard

/-- THE TIED CARD OF 'cosignerlaw08.CoreReadsBack'. -/
def coreReadsBackCard : Claim7 := { stood := { row := coreReadsBackRow, standIns := [], harness := (true, "f660de9106857c3104c04135e263b600a229660ebd3665a37a2679d10f18de76"), looks := true }, kinds := [], alts := [], laidByText := true, laidKinds := [.data, .data, .data, .data, .sentinel, .sentinel, .pinned], laidTests := true, laidLooks := .later }
def CoreReadsBackCardSaid : Prop := Claim7.holds Tryz.pinned (.plain (OpenSpec.ofChange coreReadsBackSpec)) coreReadsBackCard

/-- THE TIED CARD OF 'cosignerlaw08.CoreCutDead'. -/
def coreCutDeadCard : Claim7 := { stood := { row := coreCutDeadRow, standIns := [], harness := (true, "f660de9106857c3104c04135e263b600a229660ebd3665a37a2679d10f18de76"), looks := true }, kinds := [], alts := [], laidByText := true, laidKinds := [.data, .data, .data, .data, .sentinel, .sentinel, .pinned], laidTests := true, laidLooks := .later }
def CoreCutDeadCardSaid : Prop := Claim7.holds Tryz.pinned (.plain (OpenSpec.ofChange coreCutDeadSpec)) coreCutDeadCard

/-- THE TIED CARD OF 'cosignerlaw08.CoreInstructions'. -/
def coreInstructionsCard : Claim7 := { stood := { row := coreInstructionsRow, standIns := [], harness := (true, "f660de9106857c3104c04135e263b600a229660ebd3665a37a2679d10f18de76"), looks := true }, kinds := [], alts := [], laidByText := true, laidKinds := [.data, .data, .data, .data, .sentinel, .sentinel, .pinned], laidTests := true, laidLooks := .later }
def CoreInstructionsCardSaid : Prop := Claim7.holds Tryz.pinned (.plain (OpenSpec.ofChange coreInstructionsSpec)) coreInstructionsCard

/-- THE TIED CARD OF 'cosignerlaw08.CoreWalks'. -/
def coreWalksCard : Claim7 := { stood := { row := coreWalksRow, standIns := [], harness := (true, "f660de9106857c3104c04135e263b600a229660ebd3665a37a2679d10f18de76"), looks := true }, kinds := [], alts := [], laidByText := true, laidKinds := [.data, .data, .data, .data, .sentinel, .sentinel, .pinned], laidTests := true, laidLooks := .later }
def CoreWalksCardSaid : Prop := Claim7.holds Tryz.pinned (.plain (OpenSpec.ofChange coreWalksSpec)) coreWalksCard

/-- THE TIED CARD OF 'cosignerlaw08.CoreNeeded'. -/
def coreNeededCard : Claim7 := { stood := { row := coreNeededRow, standIns := [], harness := (true, "f660de9106857c3104c04135e263b600a229660ebd3665a37a2679d10f18de76"), looks := true }, kinds := [], alts := [], laidByText := true, laidKinds := [.data, .data, .data, .data, .sentinel, .sentinel, .pinned], laidTests := true, laidLooks := .later }
def CoreNeededCardSaid : Prop := Claim7.holds Tryz.pinned (.plain (OpenSpec.ofChange coreNeededSpec)) coreNeededCard

/-- THE TIED CARD OF 'cosignerlaw08.CoreLeast'. -/
def coreLeastCard : Claim7 := { stood := { row := coreLeastRow, standIns := [], harness := (true, "f660de9106857c3104c04135e263b600a229660ebd3665a37a2679d10f18de76"), looks := true }, kinds := [], alts := [], laidByText := true, laidKinds := [.data, .data, .data, .data, .sentinel, .sentinel, .pinned], laidTests := true, laidLooks := .later }
def CoreLeastCardSaid : Prop := Claim7.holds Tryz.pinned (.plain (OpenSpec.ofChange coreLeastSpec)) coreLeastCard

/-- THE TIED CARD OF 'cosignerlaw08.CoreSwaps'. -/
def coreSwapsCard : Claim7 := { stood := { row := coreSwapsRow, standIns := [], harness := (true, "f660de9106857c3104c04135e263b600a229660ebd3665a37a2679d10f18de76"), looks := true }, kinds := [], alts := [], laidByText := true, laidKinds := [.data, .data, .data, .data, .sentinel, .sentinel, .pinned], laidTests := true, laidLooks := .later }
def CoreSwapsCardSaid : Prop := Claim7.holds Tryz.pinned (.plain (OpenSpec.ofChange coreSwapsSpec)) coreSwapsCard

/-- THE SECOND FORM's CARD OF 'cosignerlaw08.CoreFlows'. -/
def coreFlowsUptoCard : Claim7 := { stood := { row := coreFlowsUptoRow, standIns := [], harness := (true, "f660de9106857c3104c04135e263b600a229660ebd3665a37a2679d10f18de76"), looks := true }, kinds := [], alts := [], laidByText := true, laidKinds := [.data, .data, .data, .data, .sentinel, .sentinel, .pinned], laidTests := true, laidLooks := .later }
def CoreFlowsUptoCardSaid : Prop := Claim7.holds Tryz.pinned (.plain (OpenSpec.upto coreFlowsSpec)) coreFlowsUptoCard

/-- THE SECOND FORM's CARD OF 'cosignerlaw08.CoreCuts'. -/
def coreCutsUptoCard : Claim7 := { stood := { row := coreCutsUptoRow, standIns := [], harness := (true, "f660de9106857c3104c04135e263b600a229660ebd3665a37a2679d10f18de76"), looks := true }, kinds := [], alts := [], laidByText := true, laidKinds := [.data, .data, .data, .data, .sentinel, .sentinel, .pinned], laidTests := true, laidLooks := .later }
def CoreCutsUptoCardSaid : Prop := Claim7.holds Tryz.pinned (.plain (OpenSpec.upto coreCutsSpec)) coreCutsUptoCard

/-- THE SECOND FORM's CARD OF 'cosignerlaw08.CoreReadsBack'. -/
def coreReadsBackUptoCard : Claim7 := { stood := { row := coreReadsBackUptoRow, standIns := [], harness := (true, "f660de9106857c3104c04135e263b600a229660ebd3665a37a2679d10f18de76"), looks := true }, kinds := [], alts := [], laidByText := true, laidKinds := [.data, .data, .data, .data, .sentinel, .sentinel, .pinned], laidTests := true, laidLooks := .later }
def CoreReadsBackUptoCardSaid : Prop := Claim7.holds Tryz.pinned (.plain (OpenSpec.upto coreReadsBackSpec)) coreReadsBackUptoCard

/-- THE SECOND FORM's CARD OF 'cosignerlaw08.CoreCutDead'. -/
def coreCutDeadUptoCard : Claim7 := { stood := { row := coreCutDeadUptoRow, standIns := [], harness := (true, "f660de9106857c3104c04135e263b600a229660ebd3665a37a2679d10f18de76"), looks := true }, kinds := [], alts := [], laidByText := true, laidKinds := [.data, .data, .data, .data, .sentinel, .sentinel, .pinned], laidTests := true, laidLooks := .later }
def CoreCutDeadUptoCardSaid : Prop := Claim7.holds Tryz.pinned (.plain (OpenSpec.upto coreCutDeadSpec)) coreCutDeadUptoCard

/-- THE SECOND FORM's CARD OF 'cosignerlaw08.CoreInstructions'. -/
def coreInstructionsUptoCard : Claim7 := { stood := { row := coreInstructionsUptoRow, standIns := [], harness := (true, "f660de9106857c3104c04135e263b600a229660ebd3665a37a2679d10f18de76"), looks := true }, kinds := [], alts := [], laidByText := true, laidKinds := [.data, .data, .data, .data, .sentinel, .sentinel, .pinned], laidTests := true, laidLooks := .later }
def CoreInstructionsUptoCardSaid : Prop := Claim7.holds Tryz.pinned (.plain (OpenSpec.upto coreInstructionsSpec)) coreInstructionsUptoCard

/-- THE SECOND FORM's CARD OF 'cosignerlaw08.CoreWalks'. -/
def coreWalksUptoCard : Claim7 := { stood := { row := coreWalksUptoRow, standIns := [], harness := (true, "f660de9106857c3104c04135e263b600a229660ebd3665a37a2679d10f18de76"), looks := true }, kinds := [], alts := [], laidByText := true, laidKinds := [.data, .data, .data, .data, .sentinel, .sentinel, .pinned], laidTests := true, laidLooks := .later }
def CoreWalksUptoCardSaid : Prop := Claim7.holds Tryz.pinned (.plain (OpenSpec.upto coreWalksSpec)) coreWalksUptoCard

/-- THE SECOND FORM's CARD OF 'cosignerlaw08.CoreNeeded'. -/
def coreNeededUptoCard : Claim7 := { stood := { row := coreNeededUptoRow, standIns := [], harness := (true, "f660de9106857c3104c04135e263b600a229660ebd3665a37a2679d10f18de76"), looks := true }, kinds := [], alts := [], laidByText := true, laidKinds := [.data, .data, .data, .data, .sentinel, .sentinel, .pinned], laidTests := true, laidLooks := .later }
def CoreNeededUptoCardSaid : Prop := Claim7.holds Tryz.pinned (.plain (OpenSpec.upto coreNeededSpec)) coreNeededUptoCard

/-- THE SECOND FORM's CARD OF 'cosignerlaw08.CoreLeast'. -/
def coreLeastUptoCard : Claim7 := { stood := { row := coreLeastUptoRow, standIns := [], harness := (true, "f660de9106857c3104c04135e263b600a229660ebd3665a37a2679d10f18de76"), looks := true }, kinds := [], alts := [], laidByText := true, laidKinds := [.data, .data, .data, .data, .sentinel, .sentinel, .pinned], laidTests := true, laidLooks := .later }
def CoreLeastUptoCardSaid : Prop := Claim7.holds Tryz.pinned (.plain (OpenSpec.upto coreLeastSpec)) coreLeastUptoCard

/-- THE SECOND FORM's CARD OF 'cosignerlaw08.CoreSwaps'. -/
def coreSwapsUptoCard : Claim7 := { stood := { row := coreSwapsUptoRow, standIns := [], harness := (true, "f660de9106857c3104c04135e263b600a229660ebd3665a37a2679d10f18de76"), looks := true }, kinds := [], alts := [], laidByText := true, laidKinds := [.data, .data, .data, .data, .sentinel, .sentinel, .pinned], laidTests := true, laidLooks := .later }
def CoreSwapsUptoCardSaid : Prop := Claim7.holds Tryz.pinned (.plain (OpenSpec.upto coreSwapsSpec)) coreSwapsUptoCard
end Rows
end Go.Proofs.YteeibihhdldjfaaGreatDoor
