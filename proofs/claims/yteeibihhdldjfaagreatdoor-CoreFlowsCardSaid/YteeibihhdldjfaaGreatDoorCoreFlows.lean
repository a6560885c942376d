/- For every input, CoreFlows returns true, and changes nothing. Condition (the card's): the listed package-level variables are as the program's text lays them. -/
import Derived.Test.YteeibihhdldjfaaGreatDoorVeT
import Derived.Test.YteeibihhdldjfaaGreatDoorCards
import Derived.Test.YteeibihhdldjfaaGreatDoorTie
set_option linter.unusedVariables false
set_option linter.unusedSimpArgs false
namespace Go.Proofs.YteeibihhdldjfaaGreatDoor.coreFlows
open Go.ChangeShapes Go.WideShapes Go.ChangeAt Go.RowKit Go.Ve Go.Ve.T
theorem own : ownKnob Tryz.prog.godebug = none := by kernel_rfl
theorem laidOut : laidOutB Tryz.prog = true := by kernel_rfl
theorem tab {W : World} (h : laidMet Tryz.prog Rows.coreFlowsRow.laid W) : Lib.TabIs Tryz.prog W "internal/strconv.uint64pow10" .u64 Lib.pow10Tab :=
 Lib.tabIs_of_head (g := 0) (t := 249) (e := 214) (n := 20) (rest := Rows.coreFlowsRow.laid.drop 3) (by kernel_rfl) (by kernel_rfl) Tryz.underlying249 Tryz.underlying214 (by kernel_rfl) (by kernel_rfl) (laidMet.tail (laidMet.tail h))
set_option maxRecDepth 100000 in
theorem walk {H : Type} {enc : TypeId × Value → H} {W : World} {base : Nat} {v0 : Value} {d0 : DataW H} {p0 : List MemPlace} (k0 : Value.okWide PP W .any base 25 v0)
 (h0 : DataW.Trod enc PP W 0 (fun _ => true) true 25 v0 d0 p0) (T : BE W) : Calls PP 3 #[v0] W fun e w' => e = .returned (.bool true) ∧ Below W.heap.size W w' := by
 obtain ⟨c0, rfl, _⟩ := okWide_struct Tryz.underlying25 k0
 obtain ⟨φ1, g1, cs0, R1, E1, K1, L0, A0⟩ := ai2 ai3 h0 (HR.bare PP W)
 obtain ⟨x0, ⟨ZW, ZX, rfl, f01, f02⟩, _⟩ := ai4 A0
 have LL : LR φ1 [.agg ⟨[.string x0.aB, .string x0.aC, vi x0.fArgs, vi x0.ay, vi x0.az, ZW, ZX]⟩] #[.agg c0].toList := .cons _ _ _ _ (.agg _ _ L0) .nil
 have F : WF PP W 3 [.agg ⟨[.string x0.aB, .string x0.aC, vi x0.fArgs, vi x0.ay, vi x0.az, ZW, ZX]⟩] g1 fun r _ => r = .ret (.bool true) :=
  ai5 (ai6 4000 (Nat.le_refl _) x0) (Sub.refl g1) R1.top f01 f02 (fun _ _ _ => rfl)
 refine (F.2 φ1 #[.agg c0] W LL R1).mono fun E w' hR => ?_
 obtain ⟨r, h', φ', e1, e2, e3, e4, e5⟩ := hR
 have hr := @of_decide_eq_true _ (Classical.propDecidable _) e1
 subst hr
 obtain ⟨v', rfl, hv⟩ := e5
 exact ⟨by rw [VR.sv hv], e4.below⟩
set_option maxRecDepth 100000 in
theorem lifted (os : Os) (started : os.Started) (H : Type) (enc : TypeId × Value → H) :
 ReturnsInHanded {} Tryz.checked os 3 .any (fun w args => (Rows.coreFlowsSpec.pre enc Tryz.prog Tryz.f3 [] false w args ∧ laidMetH Tryz.prog Rows.coreFlowsRow.laid w) ∧ sizedMet enc Tryz.prog Tryz.f3 (OpenSpec.ofChange Rows.coreFlowsSpec) false w args) (Rows.coreFlowsSpec.post enc Tryz.prog Tryz.f3 false true false false) := by
 refine ai7 (C := Tryz.checked) (tb := 4) (laid := Rows.coreFlowsRow.laid) own started (by kernel_rfl) Tryz.func3 (by kernel_rfl)
  (ChangeSpec.witness_shaped (enc := enc) (C := Tryz.checked) (os := os) (X := fun w _ => laidMetH Tryz.prog Rows.coreFlowsRow.laid w) false (World.laidAll Tryz.prog os Rows.coreFlowsRow.laid) #[.agg #[.string ⟨#[]⟩, .string ⟨#[]⟩, .int .i64 0, .int .i64 0, .int .i64 0, .slice none 0 0, .slice none 0 0]] 8 (World.laidAll_os _ _ _)
   (World.shaped_of_ZipB (by kernel_rfl) (by kernel_rfl)) (by kernel_rfl) (by kernel_rfl) (by kernel_rfl)
   (by rw [MakeChecks.laidMetH_plain _ _ _ (by kernel_rfl)]; exact laidMet_laidAll _ (by kernel_rfl) (by kernel_rfl)))
  laidOut (by decide +kernel) rfl Tryz.underlying4 rfl ?_ ?_
 · intro ds yS
   rw [Tryz.params3] at yS
   match ds, yS with
   | [_], _ => rfl
 · intro W base args ds ps Kk h hL
   rw [Tryz.params3] at h Kk
   obtain ⟨v0, vs0, d0, ds0, p0, q0, lx, rfl, rfl, h0, r0⟩ := trodAll_cons h
   obtain ⟨rfl, rfl, rfl⟩ := trodAll_nil r0
   obtain rfl : args = #[v0] := by cases args; simp_all
   exact walk (Kk 0 25 v0 rfl rfl) h0 ⟨tab hL⟩
theorem over : Rows.CoreFlowsSaid :=
 OpenClaim.holds_of_wide 3 Tryz.f3 rfl rfl rfl rfl rfl rfl rfl ⟨rfl, rfl, rfl, rfl, rfl⟩ rfl rfl rfl rfl rfl (by kernel_rfl) Tryz.func3 (by kernel_rfl)
  (of_decide_eq_true (by kernel_rfl)) (by unfold Func.isWrapper; first | (rw [if_pos (by decide +kernel)]; kernel_rfl) | (rw [if_neg (by decide +kernel)]; exact ⟨rfl, rfl⟩))
  (fun os started H enc _ => lifted os started H enc)
theorem proved : Rows.CoreFlowsCardSaid :=
 Claim7.holds_tied_plain_at .later [] [.data, .data, .data, .data, .sentinel, .sentinel, .pinned] true (true, "f660de9106857c3104c04135e263b600a229660ebd3665a37a2679d10f18de76") true
  over (fun _ h => by cases h) (by kernel_rfl) (fun _ h => by cases h) coreFlows_row_tie rfl ⟨rfl, rfl⟩ (by kernel_rfl) rfl
  (fun f fn hf ly => by
   obtain rfl : f = 3 := Option.some.inj ((show Tryz.prog.funcNamed "cosigner/cosignerlaw08.CoreFlows" = some 3 by kernel_rfl).symm.trans hf) |>.symm
   obtain rfl : fn = Tryz.f3 := (Option.some.inj (Tryz.func3.symm.trans ly)).symm
   exact ⟨by kernel_rfl, fun j t ht => by
    rw [Tryz.params3] at ht
    have hm : t ∈ [25] := by simpa using Array.mem_of_getElem? ht
    have gz : ([25].all fun u => !Tryz.prog.wantsStandIn u) = true := by kernel_rfl
    exact (show Tryz.prog.wantsStandIn t = false by simpa using List.all_eq_true.1 gz t hm)⟩)
  (by kernel_rfl)
#print axioms proved
end Go.Proofs.YteeibihhdldjfaaGreatDoor.coreFlows
