/- For every input, CoreInstructions returns true, and changes nothing. Condition (the card's): the listed package-level variables are as the program's text lays them. -/
import Derived.Test.YteeibihhdldjfaaGreatDoorVeT
import Derived.Test.YteeibihhdldjfaaGreatDoorCards
import Derived.Test.YteeibihhdldjfaaGreatDoorTie
set_option linter.unusedVariables false
set_option linter.unusedSimpArgs false
namespace Go.Proofs.YteeibihhdldjfaaGreatDoor.coreInstructions
open Go.ChangeShapes Go.WideShapes Go.ChangeAt Go.RowKit Go.Ve Go.Ve.T
theorem own : ownKnob Tryz.prog.godebug = none := by kernel_rfl
theorem laidOut : laidOutB Tryz.prog = true := by kernel_rfl
theorem tab {W : World} (h : laidMet Tryz.prog Rows.coreInstructionsRow.laid W) : Lib.TabIs Tryz.prog W "internal/strconv.uint64pow10" .u64 Lib.pow10Tab :=
 Lib.tabIs_of_head (g := 0) (t := 249) (e := 214) (n := 20) (rest := Rows.coreInstructionsRow.laid.drop 3) (by kernel_rfl) (by kernel_rfl) Tryz.underlying249 Tryz.underlying214 (by kernel_rfl) (by kernel_rfl) (laidMet.tail (laidMet.tail h))
set_option maxRecDepth 100000 in
theorem walk {H : Type} {enc : TypeId × Value → H} {W : World} {base : Nat} {v0 v1 : Value} {x2 : Int} {d0 d1 : DataW H} {p0 p1 : List MemPlace} (k0 : Value.okWide PP W .any base 25 v0) (k1 : Value.okWide PP W .any base 67 v1)
 (h0 : DataW.Trod enc PP W 0 (fun _ => true) true 25 v0 d0 p0) (h1 : DataW.Trod enc PP W 0 (fun _ => true) true 67 v1 d1 p1) (T : qX W) : Calls PP 7 #[v0, v1, .int .i64 x2] W fun e w' => e = .returned (.bool true) ∧ Below W.heap.size W w' := by
 obtain ⟨c0, rfl, _⟩ := okWide_struct Tryz.underlying25 k0
 obtain ⟨c1, rfl, _⟩ := okWide_struct Tryz.underlying67 k1
 obtain ⟨φ1, g1, cs0, R1, E1, K1, L0, A0⟩ := T0 ac7 h0 (HR.bare PP W)
 obtain ⟨φ2, g2, eD, R2, E2, K2, L1, A1⟩ := T0 ac8 h1 R1
 obtain ⟨x0, ⟨T1, T2, rfl, f01, f02⟩, _⟩ := ac9 (A0.cB K2 R1.top)
 have L0 := LR.ext E2 L0
 obtain ⟨x1, rfl, _⟩ := T3 A1
 have LL : LR φ2 [.agg ⟨[.string x0.aE, .string x0.aG, vi x0.fArgs, vi x0.aC, vi x0.aD, T1, T2]⟩, .agg ⟨[vi x1.aJ, vi x1.fA, vi x1.fB, vi x1.fC]⟩, vi x2] #[.agg c0, .agg c1, .int .i64 x2].toList := .cons _ _ _ _ (.agg _ _ L0) (.cons _ _ _ _ (.agg _ _ L1) (.cons _ _ _ _ (.int _ _) .nil))
 have F : WF PP W 7 [.agg ⟨[.string x0.aE, .string x0.aG, vi x0.fArgs, vi x0.aC, vi x0.aD, T1, T2]⟩, .agg ⟨[vi x1.aJ, vi x1.fA, vi x1.fB, vi x1.fC]⟩, vi x2] g2 fun r _ => r = .ret (.bool true) :=
  ada (adb 1000 (Nat.le_refl _) x0 x1 x2) (Sub.refl g2) R2.top f01 f02 (fun _ _ _ => rfl)
 refine (F.2 φ2 #[.agg c0, .agg c1, .int .i64 x2] W LL R2).mono fun E w' hR => ?_
 obtain ⟨r, h', φ', e1, e2, e3, e4, e5⟩ := hR
 have hr := @of_decide_eq_true _ (Classical.propDecidable _) e1
 subst hr
 obtain ⟨v', rfl, hv⟩ := e5
 exact ⟨by rw [VR.pO hv], e4.below⟩
set_option maxRecDepth 100000 in
theorem lifted (os : Os) (started : os.Started) (H : Type) (enc : TypeId × Value → H) :
 ReturnsInHanded {} Tryz.checked os 7 .any (fun w args => (Rows.coreInstructionsSpec.pre enc Tryz.prog Tryz.f7 [] false w args ∧ laidMetH Tryz.prog Rows.coreInstructionsRow.laid w) ∧ sizedMet enc Tryz.prog Tryz.f7 (OpenSpec.ofChange Rows.coreInstructionsSpec) false w args) (Rows.coreInstructionsSpec.post enc Tryz.prog Tryz.f7 false true false false) := by
 refine ade (C := Tryz.checked) (tb := 4) (laid := Rows.coreInstructionsRow.laid) own started (by kernel_rfl) Tryz.func7 (by kernel_rfl)
  (ChangeSpec.witness_shaped (enc := enc) (C := Tryz.checked) (os := os) (X := fun w _ => laidMetH Tryz.prog Rows.coreInstructionsRow.laid w) false (World.laidAll Tryz.prog os Rows.coreInstructionsRow.laid) #[.agg #[.string ⟨#[]⟩, .string ⟨#[]⟩, .int .i64 0, .int .i64 0, .int .i64 0, .slice none 0 0, .slice none 0 0], .agg #[.int .i64 0, .int .i64 0, .int .i64 0, .int .i64 0], .int .i64 0] 8 (World.laidAll_os _ _ _)
   (World.shaped_of_ZipB (by kernel_rfl) (by kernel_rfl)) (by kernel_rfl) (by kernel_rfl) (by kernel_rfl)
   (by rw [MakeChecks.laidMetH_plain _ _ _ (by kernel_rfl)]; exact laidMet_laidAll _ (by kernel_rfl) (by kernel_rfl)))
  laidOut (by decide +kernel) rfl Tryz.underlying4 rfl ?_ ?_
 · intro ds uM
   rw [Tryz.params7] at uM
   match ds, uM with
   | [_, _, _], _ => rfl
 · intro W base args ds ps xF h hL
   rw [Tryz.params7] at h xF
   obtain ⟨v0, vs0, d0, ds0, p0, q0, jS, rfl, rfl, h0, r0⟩ := trodAll_cons h
   obtain ⟨v1, FG, d1, ds1, p1, q1, rfl, rfl, rfl, h1, r1⟩ := trodAll_cons r0
   obtain ⟨v2, FH, d2, ds2, p2, q2, rfl, rfl, rfl, h2, r2⟩ := trodAll_cons r1
   obtain ⟨rfl, rfl, rfl⟩ := trodAll_nil r2
   obtain rfl : args = #[v0, v1, v2] := by cases args; simp_all
   obtain ⟨x2, rfl, _⟩ := open_int Tryz.underlying3 (xF 2 3 v2 rfl rfl) h2
   exact walk (xF 0 25 v0 rfl rfl) (xF 1 67 v1 rfl rfl) h0 h1 ⟨tab hL⟩
theorem over : Rows.CoreInstructionsSaid :=
 OpenClaim.holds_of_wide 7 Tryz.f7 rfl rfl rfl rfl rfl rfl rfl ⟨rfl, rfl, rfl, rfl, rfl⟩ rfl rfl rfl rfl rfl (by kernel_rfl) Tryz.func7 (by kernel_rfl)
  (of_decide_eq_true (by kernel_rfl)) (by unfold Func.isWrapper; first | (rw [if_pos (by decide +kernel)]; kernel_rfl) | (rw [if_neg (by decide +kernel)]; exact ⟨rfl, rfl⟩))
  (fun os started H enc _ => lifted os started H enc)
theorem proved : Rows.CoreInstructionsCardSaid :=
 Claim7.holds_tied_plain_at .later [] [.data, .data, .data, .data, .sentinel, .sentinel, .pinned] true (true, "f660de9106857c3104c04135e263b600a229660ebd3665a37a2679d10f18de76") true
  over (fun _ h => by cases h) (by kernel_rfl) (fun _ h => by cases h) coreInstructions_row_tie rfl ⟨rfl, rfl⟩ (by kernel_rfl) rfl
  (fun f fn hf jT => by
   obtain rfl : f = 7 := Option.some.inj ((show Tryz.prog.funcNamed "cosigner/cosignerlaw08.CoreInstructions" = some 7 by kernel_rfl).symm.trans hf) |>.symm
   obtain rfl : fn = Tryz.f7 := (Option.some.inj (Tryz.func7.symm.trans jT)).symm
   exact ⟨by kernel_rfl, fun j t ht => by
    rw [Tryz.params7] at ht
    have hm : t ∈ [25, 67, 3] := by simpa using Array.mem_of_getElem? ht
    have fV : ([25, 67, 3].all fun u => !Tryz.prog.wantsStandIn u) = true := by kernel_rfl
    exact (show Tryz.prog.wantsStandIn t = false by simpa using List.all_eq_true.1 fV t hm)⟩)
  (by kernel_rfl)
#print axioms proved
end Go.Proofs.YteeibihhdldjfaaGreatDoor.coreInstructions
