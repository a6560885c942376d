/- For every input, CoreNeeded returns true, and changes nothing. Condition (the card's): the listed package-level variables are as the program's text lays them. -/
import Derived.Test.YteeibihhdldjfaaGreatDoorVeS
import Derived.Test.YteeibihhdldjfaaGreatDoorCards
import Derived.Test.YteeibihhdldjfaaGreatDoorTie
set_option linter.unusedVariables false
set_option linter.unusedSimpArgs false
namespace Go.Proofs.YteeibihhdldjfaaGreatDoor.coreNeeded
open Go.ChangeShapes Go.WideShapes Go.ChangeAt Go.RowKit Go.Ve Go.Ve.T
theorem own : ownKnob Tryz.prog.godebug = none := by kernel_rfl
theorem laidOut : laidOutB Tryz.prog = true := by kernel_rfl
theorem Zg {W : World} (h : laidMet Tryz.prog Rows.coreNeededRow.laid W) : Lib.TabIs Tryz.prog W "internal/strconv.uint64pow10" .u64 Lib.pow10Tab :=
 Lib.tabIs_of_head (g := 0) (t := 249) (e := 214) (n := 20) (rest := Rows.coreNeededRow.laid.drop 3) (by kernel_rfl) (by kernel_rfl) Tryz.underlying249 Tryz.underlying214 (by kernel_rfl) (by kernel_rfl) (laidMet.tail (laidMet.tail h))
set_option maxRecDepth 100000 in
theorem walk {H : Type} {enc : TypeId × Value → H} {W : World} {base : Nat} {v0 v2 : Value} {x1 : Int} {d0 d2 : DataW H} {p0 p2 : List MemPlace} (s1 : (Lit.int .u8 x1).wf = true) (k0 : Value.okWide PP W .any base 25 v0) (k2 : Value.okWide PP W .any base 76 v2)
 (h0 : DataW.Trod enc PP W 0 (fun _ => true) true 25 v0 d0 p0) (h2 : DataW.Trod enc PP W 0 (fun _ => true) true 76 v2 d2 p2) (T : eV W) : Calls PP 9 #[v0, .int .u8 x1, v2] W fun e w' => e = .returned (.bool true) ∧ Below W.heap.size W w' := by
 obtain ⟨c0, rfl, _⟩ := okWide_struct Tryz.underlying25 k0
 obtain ⟨a2, n2, m2, rfl⟩ := okWide_slice Tryz.underlying76 k2
 obtain ⟨φ1, g1, cs0, R1, E1, K1, L0, A0⟩ := PW Zh h0 (HR.bare PP W)
 obtain ⟨φ2, g2, CO, R2, E2, K2, L2, A2⟩ := PW Zi h2 R1
 obtain ⟨x0, ⟨PY, PZ, rfl, Zj, Zk⟩, _⟩ := Zl (A0.bS K2 R1.top)
 have L0 := LR.ext E2 L0
 obtain ⟨x2, ⟨Ij, rfl, f2⟩, Zm⟩ := Zn A2
 have V2 : VR φ2 Ij (.slice a2 n2 m2) := by
  cases L2 with
  | cons _ _ _ _ h1 h2 => exact h1
 have LL : LR φ2 [.agg ⟨[.string x0.aQ, .string x0.aR, vi x0.fArgs, vi x0.aK, vi x0.aL, PY, PZ]⟩, .int .u8 x1, Ij] #[.agg c0, .int .u8 x1, .slice a2 n2 m2].toList := .cons _ _ _ _ (.agg _ _ L0) (.cons _ _ _ _ (.int _ _) (.cons _ _ _ _ V2 .nil))
 have F : WF PP W 9 [.agg ⟨[.string x0.aQ, .string x0.aR, vi x0.fArgs, vi x0.aK, vi x0.aL, PY, PZ]⟩, .int .u8 x1, Ij] g2 fun r _ => r = .ret (.bool true) :=
  Zo (Zp 4000 (Nat.le_refl _) x0 x1 (Zq s1) x2 (fun z hz => P0 (Zm z hz))) (Sub.refl g2) R2.top Zj Zk f2 (fun _ _ _ => rfl)
 refine (F.2 φ2 #[.agg c0, .int .u8 x1, .slice a2 n2 m2] W LL R2).mono fun E w' hR => ?_
 obtain ⟨r, h', φ', e1, e2, e3, e4, e5⟩ := hR
 have hr := @of_decide_eq_true _ (Classical.propDecidable _) e1
 subst hr
 obtain ⟨v', rfl, hv⟩ := e5
 exact ⟨by rw [VR.oM hv], e4.below⟩
set_option maxRecDepth 100000 in
theorem lifted (os : Os) (started : os.Started) (H : Type) (enc : TypeId × Value → H) :
 ReturnsInHanded {} Tryz.checked os 9 .any (fun w args => (Rows.coreNeededSpec.pre enc Tryz.prog Tryz.f9 [] false w args ∧ laidMetH Tryz.prog Rows.coreNeededRow.laid w) ∧ sizedMet enc Tryz.prog Tryz.f9 (OpenSpec.ofChange Rows.coreNeededSpec) false w args) (Rows.coreNeededSpec.post enc Tryz.prog Tryz.f9 false true false false) := by
 refine Zr (C := Tryz.checked) (tb := 4) (laid := Rows.coreNeededRow.laid) own started (by kernel_rfl) Tryz.func9 (by kernel_rfl)
  (ChangeSpec.witness_shaped (enc := enc) (C := Tryz.checked) (os := os) (X := fun w _ => laidMetH Tryz.prog Rows.coreNeededRow.laid w) false (World.laidAll Tryz.prog os Rows.coreNeededRow.laid) #[.agg #[.string ⟨#[]⟩, .string ⟨#[]⟩, .int .i64 0, .int .i64 0, .int .i64 0, .slice none 0 0, .slice none 0 0], .int .u8 0, .slice none 0 0] 8 (World.laidAll_os _ _ _)
   (World.shaped_of_ZipB (by kernel_rfl) (by kernel_rfl)) (by kernel_rfl) (by kernel_rfl) (by kernel_rfl)
   (by rw [MakeChecks.laidMetH_plain _ _ _ (by kernel_rfl)]; exact laidMet_laidAll _ (by kernel_rfl) (by kernel_rfl)))
  laidOut (by decide +kernel) rfl Tryz.underlying4 rfl ?_ ?_
 · intro ds tL
   rw [Tryz.params9] at tL
   match ds, tL with
   | [_, _, _], _ => rfl
 · intro W base args ds ps vN h hL
   rw [Tryz.params9] at h vN
   obtain ⟨v0, vs0, d0, ds0, p0, q0, iW, rfl, rfl, h0, r0⟩ := trodAll_cons h
   obtain ⟨v1, CP, d1, ds1, p1, q1, rfl, rfl, rfl, h1, r1⟩ := trodAll_cons r0
   obtain ⟨v2, CQ, d2, ds2, p2, q2, rfl, rfl, rfl, h2, r2⟩ := trodAll_cons r1
   obtain ⟨rfl, rfl, rfl⟩ := trodAll_nil r2
   obtain rfl : args = #[v0, v1, v2] := by cases args; simp_all
   obtain ⟨x1, rfl, _, _, s1⟩ := open_int Tryz.underlying5 (vN 1 5 v1 rfl rfl) h1
   exact walk s1 (vN 0 25 v0 rfl rfl) (vN 2 76 v2 rfl rfl) h0 h2 ⟨Zg hL⟩
theorem over : Rows.CoreNeededSaid :=
 OpenClaim.holds_of_wide 9 Tryz.f9 rfl rfl rfl rfl rfl rfl rfl ⟨rfl, rfl, rfl, rfl, rfl⟩ rfl rfl rfl rfl rfl (by kernel_rfl) Tryz.func9 (by kernel_rfl)
  (of_decide_eq_true (by kernel_rfl)) (by unfold Func.isWrapper; first | (rw [if_pos (by decide +kernel)]; kernel_rfl) | (rw [if_neg (by decide +kernel)]; exact ⟨rfl, rfl⟩))
  (fun os started H enc _ => lifted os started H enc)
theorem proved : Rows.CoreNeededCardSaid :=
 Claim7.holds_tied_plain_at .later [] [.data, .data, .data, .data, .sentinel, .sentinel, .pinned] true (true, "f660de9106857c3104c04135e263b600a229660ebd3665a37a2679d10f18de76") true
  over (fun _ h => by cases h) (by kernel_rfl) (fun _ h => by cases h) coreNeeded_row_tie rfl ⟨rfl, rfl⟩ (by kernel_rfl) rfl
  (fun f fn hf iX => by
   obtain rfl : f = 9 := Option.some.inj ((show Tryz.prog.funcNamed "cosigner/cosignerlaw08.CoreNeeded" = some 9 by kernel_rfl).symm.trans hf) |>.symm
   obtain rfl : fn = Tryz.f9 := (Option.some.inj (Tryz.func9.symm.trans iX)).symm
   exact ⟨by kernel_rfl, fun j t ht => by
    rw [Tryz.params9] at ht
    have hm : t ∈ [25, 5, 76] := by simpa using Array.mem_of_getElem? ht
    have eO : ([25, 5, 76].all fun u => !Tryz.prog.wantsStandIn u) = true := by kernel_rfl
    exact (show Tryz.prog.wantsStandIn t = false by simpa using List.all_eq_true.1 eO t hm)⟩)
  (by kernel_rfl)
#print axioms proved
end Go.Proofs.YteeibihhdldjfaaGreatDoor.coreNeeded
