/- For every input, CoreLeast returns true, and changes nothing. Condition (the card's): the listed package-level variables are as the program's text lays them. -/
import Derived.Test.YteeibihhdldjfaaGreatDoorVeS
import Derived.Test.YteeibihhdldjfaaGreatDoorCards
import Derived.Test.YteeibihhdldjfaaGreatDoorTie
set_option linter.unusedVariables false
set_option linter.unusedSimpArgs false
namespace Go.Proofs.YteeibihhdldjfaaGreatDoor.coreLeast
open Go.ChangeShapes Go.WideShapes Go.ChangeAt Go.RowKit Go.Ve Go.Ve.T
theorem own : ownKnob Tryz.prog.godebug = none := by kernel_rfl
theorem laidOut : laidOutB Tryz.prog = true := by kernel_rfl
theorem tab {W : World} (h : laidMet Tryz.prog Rows.coreLeastRow.laid W) : Lib.TabIs Tryz.prog W "internal/strconv.uint64pow10" .u64 Lib.pow10Tab :=
 Lib.tabIs_of_head (g := 0) (t := 249) (e := 214) (n := 20) (rest := Rows.coreLeastRow.laid.drop 3) (by kernel_rfl) (by kernel_rfl) Tryz.underlying249 Tryz.underlying214 (by kernel_rfl) (by kernel_rfl) (laidMet.tail (laidMet.tail h))
set_option maxRecDepth 100000 in
theorem walk {H : Type} {enc : TypeId × Value → H} {W : World} {base : Nat} {v0 v1 : Value} {d0 d1 : DataW H} {p0 p1 : List MemPlace} (k0 : Value.okWide PP W .any base 25 v0) (k1 : Value.okWide PP W .any base 37 v1)
 (h0 : DataW.Trod enc PP W 0 (fun _ => true) true 25 v0 d0 p0) (h1 : DataW.Trod enc PP W 0 (fun _ => true) true 37 v1 d1 p1) (T : bC W) : Calls PP 10 #[v0, v1] W fun e w' => e = .returned (.bool true) ∧ Below W.heap.size W w' := by
 obtain ⟨c0, rfl, _⟩ := okWide_struct Tryz.underlying25 k0
 obtain ⟨a1, n1, m1, rfl⟩ := okWide_slice Tryz.underlying37 k1
 obtain ⟨φ1, g1, cs0, R1, E1, K1, L0, A0⟩ := TP ach h0 (HR.bare PP W)
 obtain ⟨φ2, g2, dU, R2, E2, K2, L1, A1⟩ := TP aci h1 R1
 obtain ⟨x0, ⟨TQ, TS, rfl, f01, f02⟩, _⟩ := acj (A0.ch K2 R1.top)
 have L0 := LR.ext E2 L0
 obtain ⟨x1, ⟨LA, rfl, f1⟩, h1_⟩ := ack A1
 have V1 : VR φ2 LA (.slice a1 n1 m1) := by
  cases L1 with
  | cons _ _ _ _ h1 h2 => exact h1
 have LL : LR φ2 [.agg ⟨[.string x0.az, .string x0.aA, vi x0.fArgs, vi x0.aw, vi x0.ax, TQ, TS]⟩, LA] #[.agg c0, .slice a1 n1 m1].toList := .cons _ _ _ _ (.agg _ _ L0) (.cons _ _ _ _ V1 .nil)
 have F : WF PP W 10 [.agg ⟨[.string x0.az, .string x0.aA, vi x0.fArgs, vi x0.aw, vi x0.ax, TQ, TS]⟩, LA] g2 fun r _ => r = .ret (.bool true) :=
  acm (acn 4000 (Nat.le_refl _) x0 x1) (Sub.refl g2) R2.top f01 f02 f1 (fun _ _ _ => rfl)
 refine (F.2 φ2 #[.agg c0, .slice a1 n1 m1] W LL R2).mono fun E w' hR => ?_
 obtain ⟨r, h', φ', e1, e2, e3, e4, e5⟩ := hR
 have hr := @of_decide_eq_true _ (Classical.propDecidable _) e1
 subst hr
 obtain ⟨v', rfl, hv⟩ := e5
 exact ⟨by rw [VR.pC hv], e4.below⟩
set_option maxRecDepth 100000 in
theorem lifted (os : Os) (started : os.Started) (H : Type) (enc : TypeId × Value → H) :
 ReturnsInHanded {} Tryz.checked os 10 .any (fun w args => (Rows.coreLeastSpec.pre enc Tryz.prog Tryz.f10 [] false w args ∧ laidMetH Tryz.prog Rows.coreLeastRow.laid w) ∧ sizedMet enc Tryz.prog Tryz.f10 (OpenSpec.ofChange Rows.coreLeastSpec) false w args) (Rows.coreLeastSpec.post enc Tryz.prog Tryz.f10 false true false false) := by
 refine aco (C := Tryz.checked) (tb := 4) (laid := Rows.coreLeastRow.laid) own started (by kernel_rfl) Tryz.func10 (by kernel_rfl)
  (ChangeSpec.witness_shaped (enc := enc) (C := Tryz.checked) (os := os) (X := fun w _ => laidMetH Tryz.prog Rows.coreLeastRow.laid w) false (World.laidAll Tryz.prog os Rows.coreLeastRow.laid) #[.agg #[.string ⟨#[]⟩, .string ⟨#[]⟩, .int .i64 0, .int .i64 0, .int .i64 0, .slice none 0 0, .slice none 0 0], .slice none 0 0] 8 (World.laidAll_os _ _ _)
   (World.shaped_of_ZipB (by kernel_rfl) (by kernel_rfl)) (by kernel_rfl) (by kernel_rfl) (by kernel_rfl)
   (by rw [MakeChecks.laidMetH_plain _ _ _ (by kernel_rfl)]; exact laidMet_laidAll _ (by kernel_rfl) (by kernel_rfl)))
  laidOut (by decide +kernel) rfl Tryz.underlying4 rfl ?_ ?_
 · intro ds uT
   rw [Tryz.params10] at uT
   match ds, uT with
   | [_, _], _ => rfl
 · intro W base args ds ps zX h hL
   rw [Tryz.params10] at h zX
   obtain ⟨v0, vs0, d0, ds0, p0, q0, jt, rfl, rfl, h0, r0⟩ := trodAll_cons h
   obtain ⟨v1, EU, d1, ds1, p1, q1, rfl, rfl, rfl, h1, r1⟩ := trodAll_cons r0
   obtain ⟨rfl, rfl, rfl⟩ := trodAll_nil r1
   obtain rfl : args = #[v0, v1] := by cases args; simp_all
   exact walk (zX 0 25 v0 rfl rfl) (zX 1 37 v1 rfl rfl) h0 h1 ⟨tab hL⟩
theorem over : Rows.CoreLeastSaid :=
 OpenClaim.holds_of_wide 10 Tryz.f10 rfl rfl rfl rfl rfl rfl rfl ⟨rfl, rfl, rfl, rfl, rfl⟩ rfl rfl rfl rfl rfl (by kernel_rfl) Tryz.func10 (by kernel_rfl)
  (of_decide_eq_true (by kernel_rfl)) (by unfold Func.isWrapper; first | (rw [if_pos (by decide +kernel)]; kernel_rfl) | (rw [if_neg (by decide +kernel)]; exact ⟨rfl, rfl⟩))
  (fun os started H enc _ => lifted os started H enc)
theorem proved : Rows.CoreLeastCardSaid :=
 Claim7.holds_tied_plain_at .later [] [.data, .data, .data, .data, .sentinel, .sentinel, .pinned] true (true, "f660de9106857c3104c04135e263b600a229660ebd3665a37a2679d10f18de76") true
  over (fun _ h => by cases h) (by kernel_rfl) (fun _ h => by cases h) coreLeast_row_tie rfl ⟨rfl, rfl⟩ (by kernel_rfl) rfl
  (fun f fn hf ju => by
   obtain rfl : f = 10 := Option.some.inj ((show Tryz.prog.funcNamed "cosigner/cosignerlaw08.CoreLeast" = some 10 by kernel_rfl).symm.trans hf) |>.symm
   obtain rfl : fn = Tryz.f10 := (Option.some.inj (Tryz.func10.symm.trans ju)).symm
   exact ⟨by kernel_rfl, fun j t ht => by
    rw [Tryz.params10] at ht
    have hm : t ∈ [25, 37] := by simpa using Array.mem_of_getElem? ht
    have fj : ([25, 37].all fun u => !Tryz.prog.wantsStandIn u) = true := by kernel_rfl
    exact (show Tryz.prog.wantsStandIn t = false by simpa using List.all_eq_true.1 fj t hm)⟩)
  (by kernel_rfl)
#print axioms proved
end Go.Proofs.YteeibihhdldjfaaGreatDoor.coreLeast
