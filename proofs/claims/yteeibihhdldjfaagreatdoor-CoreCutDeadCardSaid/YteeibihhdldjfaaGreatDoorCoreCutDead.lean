/- For every input, CoreCutDead returns true, and changes nothing. Condition (the card's): the listed package-level variables are as the program's text lays them. -/
import Derived.Test.YteeibihhdldjfaaGreatDoorVeT
import Derived.Test.YteeibihhdldjfaaGreatDoorCards
import Derived.Test.YteeibihhdldjfaaGreatDoorTie
set_option linter.unusedVariables false
set_option linter.unusedSimpArgs false
namespace Go.Proofs.YteeibihhdldjfaaGreatDoor.coreCutDead
open Go.ChangeShapes Go.WideShapes Go.ChangeAt Go.RowKit Go.Ve Go.Ve.T
theorem own : ownKnob Tryz.prog.godebug = none := by kernel_rfl
theorem laidOut : laidOutB Tryz.prog = true := by kernel_rfl
theorem tab {W : World} (h : laidMet Tryz.prog Rows.coreCutDeadRow.laid W) : Lib.TabIs Tryz.prog W "internal/strconv.uint64pow10" .u64 Lib.pow10Tab :=
 Lib.tabIs_of_head (g := 0) (t := 249) (e := 214) (n := 20) (rest := Rows.coreCutDeadRow.laid.drop 3) (by kernel_rfl) (by kernel_rfl) Tryz.underlying249 Tryz.underlying214 (by kernel_rfl) (by kernel_rfl) (laidMet.tail (laidMet.tail h))
set_option maxRecDepth 100000 in
theorem walk {H : Type} {enc : TypeId × Value → H} {W : World} {base : Nat} {v0 : Value} {x1 : Int} {d0 : DataW H} {p0 : List MemPlace} (s1 : (Lit.int .u8 x1).wf = true) (k0 : Value.okWide PP W .any base 51 v0)
 (h0 : DataW.Trod enc PP W 0 (fun _ => true) true 51 v0 d0 p0) (T : fQ W) : Calls PP 6 #[v0, .int .u8 x1] W fun e w' => e = .returned (.bool true) ∧ Below W.heap.size W w' := by
 obtain ⟨c0, rfl, _⟩ := okWide_struct Tryz.underlying51 k0
 obtain ⟨φ1, g1, cs0, R1, E1, K1, L0, A0⟩ := auk aul h0 (HR.bare PP W)
 obtain ⟨x0, ⟨w01, w02, w03, rfl, f01, f02, f03⟩, _⟩ := aum A0
 have LL : LR φ1 [.agg ⟨[w01, w02, w03, vi x0.bo, vi x0.bn]⟩, .int .u8 x1] #[.agg c0, .int .u8 x1].toList := .cons _ _ _ _ (.agg _ _ L0) (.cons _ _ _ _ (.int _ _) .nil)
 have F : WF PP W 6 [.agg ⟨[w01, w02, w03, vi x0.bo, vi x0.bn]⟩, .int .u8 x1] g1 fun r _ => r = .ret (.bool true) :=
  aun (auo (1000000 + x0.bp.length + x0.bE.length) (by omega) x0 (aiY A0 f01 f03).2 (aiY A0 f01 f03).1 (by omega) (by omega) x1 (aup s1)) (Sub.refl g1) R1.top f01 f02 f03 (fun _ _ _ => rfl)
 refine (F.2 φ1 #[.agg c0, .int .u8 x1] W LL R1).mono fun E w' hR => ?_
 obtain ⟨r, h', φ', e1, e2, e3, e4, e5⟩ := hR
 have hr := @of_decide_eq_true _ (Classical.propDecidable _) e1
 subst hr
 obtain ⟨v', rfl, hv⟩ := e5
 exact ⟨by rw [VR.yi hv], e4.below⟩
set_option maxRecDepth 100000 in
theorem lifted (os : Os) (started : os.Started) (H : Type) (enc : TypeId × Value → H) :
 ReturnsInHanded {} Tryz.checked os 6 .any (fun w args => (Rows.coreCutDeadSpec.pre enc Tryz.prog Tryz.f6 [] false w args ∧ laidMetH Tryz.prog Rows.coreCutDeadRow.laid w) ∧ sizedMet enc Tryz.prog Tryz.f6 (OpenSpec.ofChange Rows.coreCutDeadSpec) false w args) (Rows.coreCutDeadSpec.post enc Tryz.prog Tryz.f6 false true false false) := by
 refine auq (C := Tryz.checked) (tb := 4) (laid := Rows.coreCutDeadRow.laid) own started (by kernel_rfl) Tryz.func6 (by kernel_rfl)
  (ChangeSpec.witness_shaped (enc := enc) (C := Tryz.checked) (os := os) (X := fun w _ => laidMetH Tryz.prog Rows.coreCutDeadRow.laid w) false (World.laidAll Tryz.prog os Rows.coreCutDeadRow.laid) #[.agg #[.slice none 0 0, .slice none 0 0, .slice none 0 0, .int .i64 0, .int .i64 0], .int .u8 0] 8 (World.laidAll_os _ _ _)
   (World.shaped_of_ZipB (by kernel_rfl) (by kernel_rfl)) (by kernel_rfl) (by kernel_rfl) (by kernel_rfl)
   (by rw [MakeChecks.laidMetH_plain _ _ _ (by kernel_rfl)]; exact laidMet_laidAll _ (by kernel_rfl) (by kernel_rfl)))
  laidOut (by decide +kernel) rfl Tryz.underlying4 rfl ?_ ?_
 · intro ds EN
   rw [Tryz.params6] at EN
   match ds, EN with
   | [_, _], _ => rfl
 · intro W base args ds ps KU h hL
   rw [Tryz.params6] at h KU
   obtain ⟨v0, vs0, d0, ds0, p0, q0, oV, rfl, rfl, h0, r0⟩ := trodAll_cons h
   obtain ⟨v1, SA, d1, ds1, p1, q1, rfl, rfl, rfl, h1, r1⟩ := trodAll_cons r0
   obtain ⟨rfl, rfl, rfl⟩ := trodAll_nil r1
   obtain rfl : args = #[v0, v1] := by cases args; simp_all
   obtain ⟨x1, rfl, _, _, s1⟩ := open_int Tryz.underlying5 (KU 1 5 v1 rfl rfl) h1
   exact walk s1 (KU 0 51 v0 rfl rfl) h0 ⟨tab hL⟩
theorem over : Rows.CoreCutDeadSaid :=
 OpenClaim.holds_of_wide 6 Tryz.f6 rfl rfl rfl rfl rfl rfl rfl ⟨rfl, rfl, rfl, rfl, rfl⟩ rfl rfl rfl rfl rfl (by kernel_rfl) Tryz.func6 (by kernel_rfl)
  (of_decide_eq_true (by kernel_rfl)) (by unfold Func.isWrapper; first | (rw [if_pos (by decide +kernel)]; kernel_rfl) | (rw [if_neg (by decide +kernel)]; exact ⟨rfl, rfl⟩))
  (fun os started H enc _ => lifted os started H enc)
theorem proved : Rows.CoreCutDeadCardSaid :=
 Claim7.holds_tied_plain_at .later [] [.data, .data, .data, .data, .sentinel, .sentinel, .pinned] true (true, "f660de9106857c3104c04135e263b600a229660ebd3665a37a2679d10f18de76") true
  over (fun _ h => by cases h) (by kernel_rfl) (fun _ h => by cases h) coreCutDead_row_tie rfl ⟨rfl, rfl⟩ (by kernel_rfl) rfl
  (fun f fn hf oW => by
   obtain rfl : f = 6 := Option.some.inj ((show Tryz.prog.funcNamed "cosigner/cosignerlaw08.CoreCutDead" = some 6 by kernel_rfl).symm.trans hf) |>.symm
   obtain rfl : fn = Tryz.f6 := (Option.some.inj (Tryz.func6.symm.trans oW)).symm
   exact ⟨by kernel_rfl, fun j t ht => by
    rw [Tryz.params6] at ht
    have hm : t ∈ [51, 5] := by simpa using Array.mem_of_getElem? ht
    have iz : ([51, 5].all fun u => !Tryz.prog.wantsStandIn u) = true := by kernel_rfl
    exact (show Tryz.prog.wantsStandIn t = false by simpa using List.all_eq_true.1 iz t hm)⟩)
  (by kernel_rfl)
#print axioms proved
end Go.Proofs.YteeibihhdldjfaaGreatDoor.coreCutDead
