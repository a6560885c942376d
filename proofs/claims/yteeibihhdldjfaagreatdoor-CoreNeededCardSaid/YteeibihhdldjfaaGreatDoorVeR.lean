/- Part 18: The closed run of the chapter's examples of layer 8, by the evaluator, in the kernel: 'head' returns true, and changes nothing of what was there, where the table of powers of ten is as the library lays it. No other condition. And what follows it. -/
import Derived.Test.YteeibihhdldjfaaGreatDoorVeQ
import Derived.Lib.LaidTab
set_option linter.unusedVariables false
set_option linter.unusedSimpArgs false
namespace Go.Ve.T
open Go.Ve Go.Proofs Go.RowKit
noncomputable section
set_option maxRecDepth 100000
def gF (k : Nat) : fU := (bN PP k).getD ⟨0, [], .skip, false⟩
abbrev g (k : Nat) : Option fU := some (gF k)
theorem g1 {k : Nat} (h : (bN PP k).isSome = true) : ∀ a, g k = some a → bN PP k = some a := fun a e => by
 cases e
 cases hc : bN PP k with
 | none => rw [hc] at h; cases h
 | some x => unfold gF; rw [hc]; rfl
def Fj : List Value := FT.map fun r => .tuple ⟨[.agg ⟨r⟩, .bool true]⟩
def aeb (vs : List Value) (h : AH) (k : CR → AH → Bool) : Bool := a1 vs fun v => jw v fun kd n => iff (eP kd .i64) (Int.casesOn (motive := fun _ => Bool) n (fun n => iff (Nat.ble 1 n && Nat.ble n 34)
 (mR Fj n fun c => k (.ret c) h)) ly)
def Fk : List Value := FT.flatten
def aec (vs : List Value) (h : AH) (k : CR → AH → Bool) : Bool := a0 vs (k (.ret (.agg ⟨Fk⟩)) h)
def sums : qk := [(84, aeb), (120, aec), (67, Tw), (198, Tx), (109, Ty)]
def Mi : NT fU := (.n (.n (.n (.n (.n (.n (.n (.n .e (g 127) .e) (g 63) (.n .e (g 191) .e)) (g 31) (.n (.n .e (g 159) .e) (g 95) .e)) (g 15) (.n (.n (.n .e (g 143) .e) (g 79) (.n .e (g 207) .e)) (g 47) (.n .e (g 111) .e))) (g 7) (.n (.n (.n (.n .e (g 135) .e) (g 71) (.n .e (g 199) .e)) (g 39) (.n .e (g 103) .e)) (g 23) (.n (.n (.n .e (g 151) .e) (g 87) (.n .e (g 215) .e)) (g 55) (.n (.n .e (g 183) .e) (g 119) .e)))) (g 3) (.n (.n (.n (.n (.n .e (g 131) .e) (g 67) .e) (g 35) (.n (.n .e (g 163) .e) (g 99) .e)) (g 19) (.n (.n (.n .e (g 147) .e) (g 83) (.n .e (g 211) .e)) (g 51) (.n (.n .e (g 179) .e) (g 115) .e))) (g 11) (.n (.n (.n (.n .e (g 139) .e) (g 75) .e) (g 43) (.n (.n .e (g 171) .e) (g 107) .e)) (g 27) (.n (.n (.n .e (g 155) .e) (g 91) .e) (g 59) (.n (.n .e (g 187) .e) (g 123) .e))))) none (.n (.n (.n (.n (.n (.n .e (g 129) .e) (g 65) (.n .e (g 193) .e)) (g 33) (.n (.n .e (g 161) .e) (g 97) .e)) (g 17) (.n (.n (.n .e (g 145) .e) (g 81) (.n .e (g 209) .e)) (g 49) (.n (.n .e (g 177) .e) (g 113) .e))) (g 9) (.n (.n (.n (.n .e (g 137) .e) (g 73) (.n .e (g 201) .e)) (g 41) (.n (.n .e (g 169) .e) (g 105) .e)) (g 25) (.n (.n (.n .e (g 153) .e) (g 89) (.n .e (g 217) .e)) (g 57) (.n (.n .e (g 185) .e) (g 121) .e)))) (g 5) (.n (.n (.n (.n (.n .e (g 133) .e) (g 69) (.n .e (g 197) .e)) (g 37) (.n (.n .e (g 165) .e) (g 101) .e)) (g 21) (.n (.n (.n .e (g 149) .e) (g 85) (.n .e (g 213) .e)) (g 53) (.n (.n .e (g 181) .e) (g 117) .e))) (g 13) (.n (.n (.n (.n .e (g 141) .e) (g 77) (.n .e (g 205) .e)) (g 45) (.n (.n .e (g 173) .e) (g 109) .e)) (g 29) (.n (.n (.n .e (g 157) .e) (g 93) .e) (g 61) (.n (.n .e (g 189) .e) (g 125) .e)))))) none (.n (.n (.n (.n (.n (.n (.n .e (g 128) .e) (g 64) (.n .e (g 192) .e)) (g 32) (.n (.n .e (g 160) .e) (g 96) .e)) (g 16) (.n (.n (.n .e (g 144) .e) (g 80) (.n .e (g 208) .e)) (g 48) (.n (.n .e (g 176) .e) (g 112) .e))) (g 8) (.n (.n (.n (.n .e (g 136) .e) (g 72) (.n .e (g 200) .e)) (g 40) (.n (.n .e (g 168) .e) (g 104) .e)) (g 24) (.n (.n (.n .e (g 152) .e) (g 88) (.n .e (g 216) .e)) (g 56) (.n (.n .e (g 184) .e) (g 120) .e)))) (g 4) (.n (.n (.n (.n (.n .e (g 132) .e) (g 68) (.n .e (g 196) .e)) (g 36) (.n (.n .e (g 164) .e) (g 100) .e)) (g 20) (.n (.n (.n .e (g 148) .e) (g 84) (.n .e (g 212) .e)) (g 52) (.n (.n .e (g 180) .e) (g 116) .e))) (g 12) (.n (.n (.n (.n .e (g 140) .e) (g 76) (.n .e (g 204) .e)) (g 44) (.n (.n .e (g 172) .e) (g 108) .e)) (g 28) (.n (.n (.n .e (g 156) .e) (g 92) .e) (g 60) (.n .e (g 124) .e))))) none (.n (.n (.n (.n (.n (.n .e (g 130) .e) (g 66) (.n .e (g 194) .e)) (g 34) (.n (.n .e (g 162) .e) (g 98) .e)) (g 18) (.n (.n (.n .e (g 146) .e) (g 82) (.n .e (g 210) .e)) (g 50) (.n (.n .e (g 178) .e) (g 114) .e))) (g 10) (.n (.n (.n (.n .e (g 138) .e) (g 74) (.n .e (g 202) .e)) (g 42) (.n (.n .e (g 170) .e) (g 106) .e)) (g 26) (.n (.n (.n .e (g 154) .e) (g 90) (.n .e (g 218) .e)) (g 58) (.n (.n .e (g 186) .e) (g 122) .e)))) (g 6) (.n (.n (.n (.n (.n .e (g 134) .e) (g 70) (.n .e (g 198) .e)) (g 38) (.n (.n .e (g 166) .e) (g 102) .e)) (g 22) (.n (.n (.n .e (g 150) .e) (g 86) (.n .e (g 214) .e)) (g 54) (.n (.n .e (g 182) .e) (g 118) .e))) (g 14) (.n (.n (.n (.n .e (g 142) .e) (g 78) (.n .e (g 206) .e)) (g 46) (.n (.n .e (g 174) .e) (g 110) .e)) (g 30) (.n (.n (.n .e (g 158) .e) (g 94) .e) (g 62) (.n (.n .e (g 190) .e) (g 126) .e)))))))
theorem aed : ∀ f af, Mi.get f = some af → bN PP f = some af := NT.holds (Q := fun f af => bN PP f = some af) (t := Mi) ⟨NT.no, ⟨NT.no, ⟨g1 (by kernel_rfl), ⟨g1 (by kernel_rfl), ⟨g1 (by kernel_rfl), ⟨g1 (by kernel_rfl), ⟨g1 (by kernel_rfl), ⟨g1 (by kernel_rfl), trivial, trivial⟩, ⟨g1 (by kernel_rfl), trivial, trivial⟩⟩, ⟨g1 (by kernel_rfl), ⟨g1 (by kernel_rfl), trivial, trivial⟩, trivial⟩⟩, ⟨g1 (by kernel_rfl), ⟨g1 (by kernel_rfl), ⟨g1 (by kernel_rfl), trivial, trivial⟩, ⟨g1 (by kernel_rfl), trivial, trivial⟩⟩, ⟨g1 (by kernel_rfl), trivial, trivial⟩⟩⟩, ⟨g1 (by kernel_rfl), ⟨g1 (by kernel_rfl), ⟨g1 (by kernel_rfl), ⟨g1 (by kernel_rfl), trivial, trivial⟩, ⟨g1 (by kernel_rfl), trivial, trivial⟩⟩, ⟨g1 (by kernel_rfl), trivial, trivial⟩⟩, ⟨g1 (by kernel_rfl), ⟨g1 (by kernel_rfl), ⟨g1 (by kernel_rfl), trivial, trivial⟩, ⟨g1 (by kernel_rfl), trivial, trivial⟩⟩, ⟨g1 (by kernel_rfl), ⟨g1 (by kernel_rfl), trivial, trivial⟩, trivial⟩⟩⟩⟩, ⟨g1 (by kernel_rfl), ⟨g1 (by kernel_rfl), ⟨g1 (by kernel_rfl), ⟨g1 (by kernel_rfl), ⟨g1 (by kernel_rfl), trivial, trivial⟩, trivial⟩, ⟨g1 (by kernel_rfl), ⟨g1 (by kernel_rfl), trivial, trivial⟩, trivial⟩⟩, ⟨g1 (by kernel_rfl), ⟨g1 (by kernel_rfl), ⟨g1 (by kernel_rfl), trivial, trivial⟩, ⟨g1 (by kernel_rfl), trivial, trivial⟩⟩, ⟨g1 (by kernel_rfl), ⟨g1 (by kernel_rfl), trivial, trivial⟩, trivial⟩⟩⟩, ⟨g1 (by kernel_rfl), ⟨g1 (by kernel_rfl), ⟨g1 (by kernel_rfl), ⟨g1 (by kernel_rfl), trivial, trivial⟩, trivial⟩, ⟨g1 (by kernel_rfl), ⟨g1 (by kernel_rfl), trivial, trivial⟩, trivial⟩⟩, ⟨g1 (by kernel_rfl), ⟨g1 (by kernel_rfl), ⟨g1 (by kernel_rfl), trivial, trivial⟩, trivial⟩, ⟨g1 (by kernel_rfl), ⟨g1 (by kernel_rfl), trivial, trivial⟩, trivial⟩⟩⟩⟩⟩, ⟨g1 (by kernel_rfl), ⟨g1 (by kernel_rfl), ⟨g1 (by kernel_rfl), ⟨g1 (by kernel_rfl), ⟨g1 (by kernel_rfl), ⟨g1 (by kernel_rfl), trivial, trivial⟩, ⟨g1 (by kernel_rfl), trivial, trivial⟩⟩, ⟨g1 (by kernel_rfl), ⟨g1 (by kernel_rfl), trivial, trivial⟩, trivial⟩⟩, ⟨g1 (by kernel_rfl), ⟨g1 (by kernel_rfl), ⟨g1 (by kernel_rfl), trivial, trivial⟩, ⟨g1 (by kernel_rfl), trivial, trivial⟩⟩, ⟨g1 (by kernel_rfl), ⟨g1 (by kernel_rfl), trivial, trivial⟩, trivial⟩⟩⟩, ⟨g1 (by kernel_rfl), ⟨g1 (by kernel_rfl), ⟨g1 (by kernel_rfl), ⟨g1 (by kernel_rfl), trivial, trivial⟩, ⟨g1 (by kernel_rfl), trivial, trivial⟩⟩, ⟨g1 (by kernel_rfl), ⟨g1 (by kernel_rfl), trivial, trivial⟩, trivial⟩⟩, ⟨g1 (by kernel_rfl), ⟨g1 (by kernel_rfl), ⟨g1 (by kernel_rfl), trivial, trivial⟩, ⟨g1 (by kernel_rfl), trivial, trivial⟩⟩, ⟨g1 (by kernel_rfl), ⟨g1 (by kernel_rfl), trivial, trivial⟩, trivial⟩⟩⟩⟩, ⟨g1 (by kernel_rfl), ⟨g1 (by kernel_rfl), ⟨g1 (by kernel_rfl), ⟨g1 (by kernel_rfl), ⟨g1 (by kernel_rfl), trivial, trivial⟩, ⟨g1 (by kernel_rfl), trivial, trivial⟩⟩, ⟨g1 (by kernel_rfl), ⟨g1 (by kernel_rfl), trivial, trivial⟩, trivial⟩⟩, ⟨g1 (by kernel_rfl), ⟨g1 (by kernel_rfl), ⟨g1 (by kernel_rfl), trivial, trivial⟩, ⟨g1 (by kernel_rfl), trivial, trivial⟩⟩, ⟨g1 (by kernel_rfl), ⟨g1 (by kernel_rfl), trivial, trivial⟩, trivial⟩⟩⟩, ⟨g1 (by kernel_rfl), ⟨g1 (by kernel_rfl), ⟨g1 (by kernel_rfl), ⟨g1 (by kernel_rfl), trivial, trivial⟩, ⟨g1 (by kernel_rfl), trivial, trivial⟩⟩, ⟨g1 (by kernel_rfl), ⟨g1 (by kernel_rfl), trivial, trivial⟩, trivial⟩⟩, ⟨g1 (by kernel_rfl), ⟨g1 (by kernel_rfl), ⟨g1 (by kernel_rfl), trivial, trivial⟩, trivial⟩, ⟨g1 (by kernel_rfl), ⟨g1 (by kernel_rfl), trivial, trivial⟩, trivial⟩⟩⟩⟩⟩⟩, ⟨NT.no, ⟨g1 (by kernel_rfl), ⟨g1 (by kernel_rfl), ⟨g1 (by kernel_rfl), ⟨g1 (by kernel_rfl), ⟨g1 (by kernel_rfl), ⟨g1 (by kernel_rfl), trivial, trivial⟩, ⟨g1 (by kernel_rfl), trivial, trivial⟩⟩, ⟨g1 (by kernel_rfl), ⟨g1 (by kernel_rfl), trivial, trivial⟩, trivial⟩⟩, ⟨g1 (by kernel_rfl), ⟨g1 (by kernel_rfl), ⟨g1 (by kernel_rfl), trivial, trivial⟩, ⟨g1 (by kernel_rfl), trivial, trivial⟩⟩, ⟨g1 (by kernel_rfl), ⟨g1 (by kernel_rfl), trivial, trivial⟩, trivial⟩⟩⟩, ⟨g1 (by kernel_rfl), ⟨g1 (by kernel_rfl), ⟨g1 (by kernel_rfl), ⟨g1 (by kernel_rfl), trivial, trivial⟩, ⟨g1 (by kernel_rfl), trivial, trivial⟩⟩, ⟨g1 (by kernel_rfl), ⟨g1 (by kernel_rfl), trivial, trivial⟩, trivial⟩⟩, ⟨g1 (by kernel_rfl), ⟨g1 (by kernel_rfl), ⟨g1 (by kernel_rfl), trivial, trivial⟩, ⟨g1 (by kernel_rfl), trivial, trivial⟩⟩, ⟨g1 (by kernel_rfl), ⟨g1 (by kernel_rfl), trivial, trivial⟩, trivial⟩⟩⟩⟩, ⟨g1 (by kernel_rfl), ⟨g1 (by kernel_rfl), ⟨g1 (by kernel_rfl), ⟨g1 (by kernel_rfl), ⟨g1 (by kernel_rfl), trivial, trivial⟩, ⟨g1 (by kernel_rfl), trivial, trivial⟩⟩, ⟨g1 (by kernel_rfl), ⟨g1 (by kernel_rfl), trivial, trivial⟩, trivial⟩⟩, ⟨g1 (by kernel_rfl), ⟨g1 (by kernel_rfl), ⟨g1 (by kernel_rfl), trivial, trivial⟩, ⟨g1 (by kernel_rfl), trivial, trivial⟩⟩, ⟨g1 (by kernel_rfl), ⟨g1 (by kernel_rfl), trivial, trivial⟩, trivial⟩⟩⟩, ⟨g1 (by kernel_rfl), ⟨g1 (by kernel_rfl), ⟨g1 (by kernel_rfl), ⟨g1 (by kernel_rfl), trivial, trivial⟩, ⟨g1 (by kernel_rfl), trivial, trivial⟩⟩, ⟨g1 (by kernel_rfl), ⟨g1 (by kernel_rfl), trivial, trivial⟩, trivial⟩⟩, ⟨g1 (by kernel_rfl), ⟨g1 (by kernel_rfl), ⟨g1 (by kernel_rfl), trivial, trivial⟩, trivial⟩, ⟨g1 (by kernel_rfl), trivial, trivial⟩⟩⟩⟩⟩, ⟨g1 (by kernel_rfl), ⟨g1 (by kernel_rfl), ⟨g1 (by kernel_rfl), ⟨g1 (by kernel_rfl), ⟨g1 (by kernel_rfl), ⟨g1 (by kernel_rfl), trivial, trivial⟩, ⟨g1 (by kernel_rfl), trivial, trivial⟩⟩, ⟨g1 (by kernel_rfl), ⟨g1 (by kernel_rfl), trivial, trivial⟩, trivial⟩⟩, ⟨g1 (by kernel_rfl), ⟨g1 (by kernel_rfl), ⟨g1 (by kernel_rfl), trivial, trivial⟩, ⟨g1 (by kernel_rfl), trivial, trivial⟩⟩, ⟨g1 (by kernel_rfl), ⟨g1 (by kernel_rfl), trivial, trivial⟩, trivial⟩⟩⟩, ⟨g1 (by kernel_rfl), ⟨g1 (by kernel_rfl), ⟨g1 (by kernel_rfl), ⟨g1 (by kernel_rfl), trivial, trivial⟩, ⟨g1 (by kernel_rfl), trivial, trivial⟩⟩, ⟨g1 (by kernel_rfl), ⟨g1 (by kernel_rfl), trivial, trivial⟩, trivial⟩⟩, ⟨g1 (by kernel_rfl), ⟨g1 (by kernel_rfl), ⟨g1 (by kernel_rfl), trivial, trivial⟩, ⟨g1 (by kernel_rfl), trivial, trivial⟩⟩, ⟨g1 (by kernel_rfl), ⟨g1 (by kernel_rfl), trivial, trivial⟩, trivial⟩⟩⟩⟩, ⟨g1 (by kernel_rfl), ⟨g1 (by kernel_rfl), ⟨g1 (by kernel_rfl), ⟨g1 (by kernel_rfl), ⟨g1 (by kernel_rfl), trivial, trivial⟩, ⟨g1 (by kernel_rfl), trivial, trivial⟩⟩, ⟨g1 (by kernel_rfl), ⟨g1 (by kernel_rfl), trivial, trivial⟩, trivial⟩⟩, ⟨g1 (by kernel_rfl), ⟨g1 (by kernel_rfl), ⟨g1 (by kernel_rfl), trivial, trivial⟩, ⟨g1 (by kernel_rfl), trivial, trivial⟩⟩, ⟨g1 (by kernel_rfl), ⟨g1 (by kernel_rfl), trivial, trivial⟩, trivial⟩⟩⟩, ⟨g1 (by kernel_rfl), ⟨g1 (by kernel_rfl), ⟨g1 (by kernel_rfl), ⟨g1 (by kernel_rfl), trivial, trivial⟩, ⟨g1 (by kernel_rfl), trivial, trivial⟩⟩, ⟨g1 (by kernel_rfl), ⟨g1 (by kernel_rfl), trivial, trivial⟩, trivial⟩⟩, ⟨g1 (by kernel_rfl), ⟨g1 (by kernel_rfl), ⟨g1 (by kernel_rfl), trivial, trivial⟩, trivial⟩, ⟨g1 (by kernel_rfl), ⟨g1 (by kernel_rfl), trivial, trivial⟩, trivial⟩⟩⟩⟩⟩⟩⟩
set_option maxHeartbeats 0 in
theorem aee : ev Mi sums 1000000 (.call 12 [] ⟨0, .e⟩ fun r _ => match r with | .ret (.bool b) => b | _ => false) = true := by kernel_rfl
end
end Go.Ve.T
namespace Go.Ve.T
open Go.Ve Go.Proofs Go.RowKit
noncomputable section
set_option maxRecDepth 100000
theorem UF {P : Program} {f : FuncId} {args : List Value} {args' : Array Value} {c : Value} {w : World} (hl : LR (fun _ => none) args args'.toList) (hc : ux c c = true) (H : WF P w f args ⟨0, .e⟩ fun r _ => r = .ret c) :
 Calls P f args' w fun e w' => e = .returned c ∧ Below w.heap.size w w' := by
 refine (H.2 (fun _ => none) args' w hl (HR.bare P w)).mono fun E w' hR => ?_
 obtain ⟨r, h', φ', h1, h2, h3, h4, h5⟩ := hR
 have hr := @of_decide_eq_true _ (Classical.propDecidable _) h1
 subst hr
 obtain ⟨v', rfl, hv⟩ := h5
 exact ⟨by rw [(zK hc φ').2 v' hv], h4.below⟩
theorem aef : Fj.all (fun c => ux c c) = true := by kernel_rfl
theorem aeg : ∀ n : Nat, 1 ≤ n → n ≤ 34 → Fj[n]? = some (.tuple ⟨[.agg ⟨pv n⟩, .bool (isOp n)]⟩) := fun n h1 h2 => by
 have hi : isOp n = true := by unfold isOp; rw [decide_eq_true_eq]; omega
 obtain ⟨x, x1, x2, _, _⟩ := UB (i := n) (by omega)
 have mP : pv (n : Int) = x := by unfold pv; rw [hi, if_pos rfl]; exact x2
 unfold Fj
 rw [List.getElem?_map, x1, mP, hi]; rfl
theorem UG {P : Program} {w0 w : World} {nm : String} {k : IntKind} {zs : List Int} (hb : Below w0.heap.size w0 w) (ht : Lib.TabIs P w0 nm k zs) : Lib.TabIs P w nm k zs := by
 unfold Lib.TabIs World.var? at ht ⊢
 cases hg : P.globalNamed nm with
 | none => rw [hg] at ht; cases ht
 | some g =>
  rw [hg] at ht
  simp only [Option.bind_some] at ht ⊢
  cases ho : w0.heap[g]? with
  | none => rw [ho] at ht; cases ht
  | some o => rw [hb.block g (Array.getElem?_eq_some_iff.1 ho).1]; exact ht
theorem w8 {k : Nat} (h : (bN PP k).isSome = true) : Can PP k := by
 obtain ⟨_, _, _, h, _⟩ := I9 (g1 h (gF k) rfl)
 exact h
theorem aeh {w0 : World} (ht : Lib.TabIs PP w0 "internal/strconv.uint64pow10" .u64 Lib.pow10Tab) : Dl PP w0 sums := by
 intro p hp
 simp only [sums, List.mem_cons, List.not_mem_nil, or_false] at hp
 rcases hp with rfl | rfl | rfl | rfl | rfl
 · refine zI (w8 (by kernel_rfl)) fun args h k φ args' w e hl H => ?_
   obtain ⟨L, hL⟩ : ∃ L, args'.toList = L := ⟨_, rfl⟩
   rw [hL] at hl
   obtain ⟨v, rfl, e1⟩ := dO e
   obtain ⟨kd, n, rfl, e2⟩ := lk e1
   obtain ⟨e3, e4⟩ := bJ e2
   obtain rfl := lZ e3
   cases n with
   | negSucc n => cases e4
   | ofNat n =>
    obtain ⟨e5, e6⟩ := bJ (show iff (Nat.ble 1 n && Nat.ble n 34) _ = true from e4)
    rw [Bool.and_eq_true] at e5
    have n1 := Nat.le_of_ble_eq_true e5.1
    have n2 := Nat.le_of_ble_eq_true e5.2
    obtain ⟨c, hc, e7⟩ := zM _ e6
    have hp := List.all_eq_true.1 aef c (List.mem_of_getElem? hc)
    rw [aeg n n1 n2] at hc
    cases hc
    cases hl with
    | cons _ v' _ l' h1 h2 =>
     cases h2
     obtain rfl := h1.fo
     have iW : args' = #[.int .i64 (Int.ofNat n)] := by apply Array.ext'; rw [hL]
     subst iW
     exact ⟨_, _, (zK hp φ).1, e7, UF (.cons _ _ _ _ (.int _ _) .nil) hp (UC (n : Int) fun h' _ _ => rfl)⟩
 · refine zI (w8 (by kernel_rfl)) fun args h k φ args' w e hl H => ?_
   have e1 : args = [] ∧ k (.ret (.agg ⟨Fk⟩)) h = true := by
    cases args with
    | nil => exact ⟨rfl, e⟩
    | cons _ _ => cases e
   obtain ⟨rfl, e1⟩ := e1
   have iW : args' = #[] := by
    cases fh : args'.toList with
    | nil => simpa using fh
    | cons _ _ => rw [fh] at hl; cases hl
   subst iW
   have hp : ux (.agg ⟨Fk⟩) (.agg ⟨Fk⟩) = true := by kernel_rfl
   exact ⟨_, _, (zK hp φ).1, e1, UF .nil hp (Uz fun h' _ _ => rfl)⟩
 · exact acJ (w8 (by kernel_rfl)) fun n w h0 h1 hb => (Any.strconv_Itoa aei n h0 h1 w (UG hb ht)).mono fun e w' ⟨he, k, os, hw⟩ => ⟨he, hw ▸ Lib.below_grow _ w (Nat.le_refl _) k os⟩
 · exact acK (w8 (by kernel_rfl)) fun s n w hl h => (Any.strconv_Atoi aej s n hl h w).mono fun e w' ⟨he, t, hw⟩ => ⟨he, hw ▸ Lib.bytesWorld_below w _ t⟩
 · exact acL (w8 (by kernel_rfl)) fun bk o c xs sep w h1 h2 h3 h4 h5 => Any.strings_Join aek ael bk o c xs sep w h1 h2 h3 h4 h5
theorem aem {w0 : World} (ht : Lib.TabIs PP w0 "internal/strconv.uint64pow10" .u64 Lib.pow10Tab) (h : AH) (R : CR → AH → Prop) (hR : R (.ret (.bool true)) h) : WF PP w0 Ii [] h R := by
 refine ⟨w8 (by kernel_rfl), fun φ args' w hl hh => ?_⟩
 have he : args' = #[] := by
  cases fh : args'.toList with
  | nil => simpa using fh
  | cons _ _ => rw [fh] at hl; cases hl
 subst he
 have hC : fG PP w 12 [] ⟨0, .e⟩ (fun r _ => match r with | .ret (.bool b) => b | _ => false) := Sx bt aed (aeh (UG hh.below ht)) _ _ aee
 refine Calls.mono (hC.2 (fun _ => none) #[] w .nil (HR.bare PP w)) fun E w' hE => ?_
 obtain ⟨r, h', φ', h1, h2, h3, h4, h5⟩ := hE
 refine ⟨.ret (.bool true), h, φ, @decide_eq_true _ (Classical.propDecidable _) hR, Ext.refl _ _, Nat.le_refl _, HR.behind hh h4.below, ?_⟩
 cases r with
 | az v => cases h1
 | ret v =>
  obtain ⟨v', rfl, hv⟩ := h5
  cases v with
  | bool b =>
   have hb : b = true := h1
   subst hb
   exact ⟨v', rfl, by rw [hv.oM]; exact .bool _⟩
  | _ => cases h1
end
end Go.Ve.T
namespace Go.Ve.T
open Go.Ve Go.Proofs
class eV (w0 : World) : Prop where
 t : Lib.TabIs PP w0 "internal/strconv.uint64pow10" .u64 Lib.pow10Tab
def UH : Option Bool := some true
theorem aen {w0 : World} [T8 : eV w0] {g h : AH} {Q : CR → AH → Prop} {r : Bool} (sg : Sub g h) (ok : h.Ok) (M : UH = some r) (H : ∀ (g' h' : AH), Sep ⟨g, h, []⟩ g' h' [] → Q (.ret (.bool r)) h') : WF PP w0 Ii [] h Q := by
 cases M
 exact aem T8.t h Q (H g h (Sep.start sg ok))
end Go.Ve.T
namespace Go.Ve.T
open Go.Ve Go.Proofs
noncomputable section
set_option maxRecDepth 10000
def Fm (N : Nat) (y2 : Int) (lJ : Int → Option Bool) : Option Bool :=
 lJ (bD .i64 (y2 + 1))
def Fo (N : Nat) (x0 : List Int) (y2 : Int) (x1 : Int) (lJ : Int → Option Bool) : Option Bool :=
(ix x0 y2).bind fun dZ =>
 bif (decide (dZ = x1)) then (
 some true) else (
 Fm N y2 lJ)
def Fp (N : Nat)   : Option Bool :=
 some false
def Ai (N : Nat) (x0 : List Int) (x1 : Int) (y2 : Int) (lJ : Int → Option Bool) : Option Bool :=
 bif (decide (y2 < (x0.length : Int))) then (
 Fo N x0 y2 x1 lJ) else (
 Fp N )
def Aj (N : Nat) (x0 : List Int) (x1 : Int)  : Nat → Int → Option Bool
 | 0, _ => none
 | n + 1, y2 => Ai N x0 x1 y2  (fun aq => Aj N x0 x1 n aq)
def Fq (N : Nat) (x0 : List Int) (x1 : Int) : Option Bool :=
 Aj N x0 x1 N 0
abbrev w9 (c : Cx) (R : Value → W) (r : Bool) : Prop := ∀ (g' h' : AH), Sep c g' h' [] → R (.bool r) h'
theorem aeD {w0 : World} [eV w0] {c : Cx} {g h : AH} {E R : Value → W} {r : Bool} {N : Nat} {y2 : Int} {k1 : Value → W} {lJ : Int → Option Bool} {sM : AH} (M : Fm N y2 lJ = some r) (S : Sep c g h [])  (Ak : Sub sM g) (Al : ∀ {aq : Int} {g2 h2 : AH}, lJ aq = some r → Sub sM g2 → Sep c g2 h2 [] → k1 (vi aq) h2) (H : w9 c R r) : HX w0 E R (vi y2) k1 h := by
 unfold HX
 unfold Fm at M
 refine lE.2 ?_
 exact Al M Ak S
theorem aeE {w0 : World} [eV w0] {c : Cx} {g h : AH} {E R : Value → W} {r : Bool} {N : Nat} {x0 : List Int} {y2 x1 : Int} {bC : Value} {k1 : Value → W} {lJ : Int → Option Bool} {sM : AH} (M : Fo N x0 y2 x1 lJ = some r) (S : Sep c g h []) (bK : ae (rI .i64) 1 g bC x0) (Ak : Sub sM g) (Al : ∀ {aq : Int} {g2 h2 : AH}, lJ aq = some r → Sub sM g2 → Sep c g2 h2 [] → k1 (vi aq) h2) (H : w9 c R r) : HY w0 E R bC (vi y2) (vi x1) k1 h := by
 unfold HY
 unfold Fo at M
 obtain ⟨dZ, jS, M⟩ := bind_some M
 refine ae.idx bK jS (fun xa Fs vs Ml uM rp => ?_)
 cases rp
 refine S.dN (uM 0 _ rfl) ?_
 refine c7.2 ?_
 refine bE (fun hc => ?_) (fun hc => ?_)
 · have M := aY hc M
   cases M
   exact H _ _  S.bA
 · have M := aZ hc M
   exact aeD M S Ak Al H
theorem aeF {w0 : World} [eV w0] {c : Cx} {g h : AH} {E R : Value → W} {r : Bool} {N : Nat}   (M : Fp N  = some r) (S : Sep c g h [])   (H : w9 c R r) : HW w0 E R  h := by
 unfold HW
 unfold Fp at M
 cases M
 exact H _ _  S.bA
theorem aeG {w0 : World} [eV w0] {c : Cx} {g h : AH} {E R : Value → W} {r : Bool} {N : Nat} {x0 : List Int} {x1 y2 : Int} {bC : Value} {k1 : Value → W} {lJ : Int → Option Bool} {sM : AH} (M : Ai N x0 x1 y2 lJ = some r) (S : Sep c g h []) (bK : ae (rI .i64) 1 g bC x0) (Ak : Sub sM g) (Al : ∀ {aq : Int} {g2 h2 : AH}, lJ aq = some r → Sub sM g2 → Sep c g2 h2 [] → k1 (vi aq) h2) (H : w9 c R r) : CK w0 E R bC (vi x1) k1 (vi y2) h := by
 unfold CK
 unfold Ai at M
 refine bK.len ?_
 refine iI.2 ?_
 refine bE (fun hc => ?_) (fun hc => ?_)
 · have M := aY hc M
   exact aeE M S bK Ak Al H
 · have M := aZ hc M
   exact aeF M S  H
theorem aeH {w0 : World} [eV w0] {c : Cx} {E R : Value → W} {r : Bool} {N : Nat} {x0 : List Int} {x1 : Int} {bC : Value}   (H : w9 c R r) : ∀ (n : Nat) {y2 : Int} {g h : AH}, Aj N x0 x1 n y2 = some r → Sep c g h [] → ae (rI .i64) 1 g bC x0 → gr (α := Value) (fun k a => CK w0 E R bC (vi x1) k a) n (vi y2) h := by
 intro n
 induction n with
 | zero =>
  intro y2  g h M S bK
  unfold Aj at M; cases M
 | succ n ih =>
  intro y2  g h M S bK
  exact aeG M S bK  (Sub.refl g) (fun M2 sub S2  => ih M2 S2 (ae.mono bK (gK .i64) sub) ) H
theorem aeI {w0 : World} [eV w0] {g h : AH} {Q : CR → AH → Prop} {r : Bool} {N : Nat} {x0 : List Int} {x1 : Int} {bC : Value} (M : Fq N x0 x1 = some r) (sg : Sub g h) (ok : h.Ok) (bK : ae (rI .i64) 1 g bC x0) (H : w9 ⟨g, h, []⟩ (fun v => Q (.ret v)) r) : WF PP w0 HZ [bC, (vi x1)] h Q := by
 refine Zd _ _ ?_
 have S := Sep.start sg ok
 unfold PS
 unfold Fq at M
 exact ⟨N, aeH  H _ M S bK ⟩
def Am (N : Nat) (v1 : ah) (ch : Bool)  : Option Bool :=
 bif ch then (
 some (decide (0 < (v1.ab.length : Int)))) else (
 some false)
def Ao (N : Nat) (v1 : ah) (v10 : Bool)  : Option Bool :=
 bif v10 then (
(Ap N v1).bind fun aJ =>
 Am N v1 (decide ((aJ.length : Int) = (v1.ab.length : Int)))) else (
 Am N v1 false)
def Aq (N : Nat) (x0 : ah) : Option Bool :=
 bif (decide ((x0.ab.length : Int) ≤ 40)) then (
 Ao N x0 (decide ((x0.ay.length : Int) ≤ 8))) else (
 Ao N x0 false)
abbrev Mm (c : Cx) (R : Value → W) (r : Bool) : Prop := ∀ (g' h' : AH), Sep c g' h' [] → R (.bool r) h'
theorem UN {w0 : World} [eV w0] {c : Cx} {g h : AH} {E R : Value → W} {r : Bool} {N : Nat} {v1 : ah} {ch : Bool} {au : Nat} {aE aG : Value}  (M : Am N v1 ch = some r) (S : Sep c g h [.bx au [(.string v1.aQ), (.string v1.aR), (vi v1.fArgs), (vi v1.aK), (vi v1.aL), aE, aG]]) (aI : ae al.rep 4 g aE v1.ab) (aS : ae ax.rep 3 g aG v1.ay)  (H : Mm c R r) : HT w0 E R (av au 0) (.bool ch) h := by
 unfold HT
 unfold Am at M
 cases hc : ch
 · have M := aZ hc M
   refine aC (by decide) ?_
   refine aC (by decide) ?_
   refine aC (by decide) ?_
   refine aC (by decide) ?_
   refine bW.2 ?_
   cases M
   exact H _ _  S.bA
 · have M := aY hc M
   refine aD rfl ?_
   refine bY.2 ?_
   refine aD rfl ?_
   refine S.bP 0 rfl rfl ?_
   refine aD rfl ?_
   refine aI.len ?_
   refine aD rfl ?_
   refine qC.2 ?_
   refine bW.2 ?_
   cases M
   exact H _ _  S.bA
theorem UO {w0 : World} [eV w0] {c : Cx} {g h : AH} {E R : Value → W} {r : Bool} {N : Nat} {v1 : ah} {v10 : Bool} {au : Nat} {aE aG : Value}  (M : Ao N v1 v10 = some r) (S : Sep c g h [.bx au [(.string v1.aQ), (.string v1.aR), (vi v1.fArgs), (vi v1.aK), (vi v1.aL), aE, aG]]) (aI : ae al.rep 4 g aE v1.ab) (aS : ae ax.rep 3 g aG v1.ay)  (H : Mm c R r) : HU w0 E R (av au 0) (.bool v10) h := by
 unfold HU
 unfold Ao at M
 cases hc : v10
 · have M := aZ hc M
   refine aC (by decide) ?_
   refine aC (by decide) ?_
   refine aC (by decide) ?_
   refine aC (by decide) ?_
   refine aC (by decide) ?_
   refine Mn (by decide) ?_
   refine Mn (by decide) ?_
   refine Mn (by decide) ?_
   refine aC (by decide) ?_
   refine aC (by decide) ?_
   refine bW.2 ?_
   exact UN M S aI aS H
 · have M := aY hc M
   refine aD rfl ?_
   refine S.cK [(.string v1.aQ), (.string v1.aR), (vi v1.fArgs), (vi v1.aK), (vi v1.aL), aE, aG] 0 rfl rfl rfl (by decide) ?_
   refine aD rfl ?_
   refine bY.2 ?_
   refine aD rfl ?_
   refine S.bP 0 rfl rfl ?_
   refine aD rfl ?_
   refine aI.len ?_
   refine aD rfl ?_
   obtain ⟨aJ, im, M⟩ := bind_some M
   refine aeJ im S.sub S.ok aI aS (fun g h w_4 S1 F_5 => ?_)
   have aI := ae.mono aI al.mono S1.bT
   have aS := ae.mono aS ax.mono S1.bT
   have S := S.na S1
   refine Mo rfl ?_
   refine ⟨?_, ?_⟩
   · refine aI.len ?_
     exact Mq
   · refine Mo rfl ?_
     refine ⟨?_, ?_⟩
     · refine S.bP 0 rfl rfl ?_
       exact aI.Mr
     · refine Mo rfl ?_
       refine ⟨?_, ?_⟩
       · refine bY.2 ?_
         exact UP
       · refine aD rfl ?_
         refine F_5.len ?_
         refine aD rfl ?_
         refine c7.2 ?_
         refine bW.2 ?_
         exact UN M S aI aS H
theorem aeK {w0 : World} [eV w0] {g h : AH} {Q : CR → AH → Prop} {r : Bool} {N : Nat} {x0 : ah} {ct cu : Value} (M : Aq N x0 = some r) (sg : Sub g h) (ok : h.Ok) (bU : ae al.rep 4 g ct x0.ab) (cy : ae ax.rep 3 g cu x0.ay) (H : Mm ⟨g, h, []⟩ (fun v => Q (.ret v)) r) : WF PP w0 HV [(.agg ⟨[(.string x0.aQ), (.string x0.aR), (vi x0.fArgs), (vi x0.aK), (vi x0.aL), ct, cu]⟩)] h Q := by
 refine Zb _ ?_
 have S := Sep.start sg ok
 unfold PO
 unfold Aq at M
 refine S.box [(.string x0.aQ), (.string x0.aR), (vi x0.fArgs), (vi x0.aK), (vi x0.aL), ct, cu] rfl (aa rfl (aa rfl (aa rfl (aa rfl (aa rfl (aa bU.one (aa cy.one rfl))))))) (fun jT h S => ?_)
 refine bY.2 ?_
 refine S.bP 0 rfl rfl ?_
 refine bU.len ?_
 refine sn.2 ?_
 cases hc : (decide ((x0.ab.length : Int) ≤ 40))
 · have M := aZ hc M
   refine aC (by decide) ?_
   refine aC (by decide) ?_
   refine aC (by decide) ?_
   refine aC (by decide) ?_
   refine bW.2 ?_
   exact UO M S bU cy H
 · have M := aY hc M
   refine aD rfl ?_
   refine bY.2 ?_
   refine aD rfl ?_
   refine S.bP 0 rfl rfl ?_
   refine aD rfl ?_
   refine cy.len ?_
   refine aD rfl ?_
   refine sn.2 ?_
   refine bW.2 ?_
   exact UO M S bU cy H
def Ft (N : Nat) (dr : Int) (qK : List Int) (cL : ah) (iJ : Int → (List Int) → Option Bool) : Option Bool :=
 iJ (bD .i64 (dr + 1)) qK
def Ar (N : Nat) (dr : Int) (v80 : Bool) (qK : List Int) (cL : ah) (iJ : Int → (List Int) → Option Bool) : Option Bool :=
 bif v80 then (
 some false) else (
 Ft N dr qK cL iJ)
def Fu (N : Nat) (v20 : List Int) (dr : Int) (v10 : List Int) (v4 : List (List Int)) (v9 : Int) (cL : ah) (iJ : Int → (List Int) → Option Bool) : Option Bool :=
(ix v20 dr).bind fun sN =>
 bif (!(decide (sN ∈ v10))) then (
(ix v4 v9).bind fun UQ =>
(ix v20 dr).bind fun UR =>
(Fq N UQ UR).bind fun US =>
 Ar N dr (!US) v10 cL iJ) else (
 Ar N dr false v10 cL iJ)
def Ms (N : Nat) (ar : Int) (aN : Int) (cM : ah) (qL : List Int) (cD : Int → Int → (List Int) → Option Bool) : Option Bool :=
 cD aN (bD .i64 (ar + 1)) qL
def Fv (N : Nat) (ar : Int) (cd : Int) (cM : ah) (qL : List Int) (cD : Int → Int → (List Int) → Option Bool) : Option Bool :=
 Ms N ar cd cM qL cD
def sO (N : Nat) (v10 : List Int) (j2 : Int) (ar : Int) (cd : Int) (v59 : Bool) (cM : ah) (cD : Int → Int → (List Int) → Option Bool) : Option Bool :=
 bif v59 then (
 Fv N ar cd cM (gU j2 v10) cD) else (
 Fv N ar cd cM v10 cD)
def Fw (N : Nat) (x2 : List Int) (ar : Int) (dV : List Int) (v1 : ah) (bZ : Int) (v10 : List Int) (cD : Int → Int → (List Int) → Option Bool) : Option Bool :=
(ix x2 ar).bind fun UT =>
 gu (!decide ((dV.length : Int) = 0)) (
(ix dV (Int.tmod (bD .i64 UT) (dV.length : Int))).bind fun uN =>
(As N v1 bZ).bind fun Fx =>
(ix v1.ab bZ).bind fun UU =>
(uO UU).bind fun uP =>
 bif (!decide (uP = (-1))) then (
 bif (decide (0 ≤ Fx)) then (
(ix v1.ay Fx).bind fun Mt =>
 bif (decide (Mt.dY = uN)) then (
(ix v1.ab bZ).bind fun UW =>
(xb UW).bind fun UX =>
 sO N v10 uP ar uN (!UX) v1 cD) else (
 sO N v10 uP ar uN (!false) v1 cD)) else (
 sO N v10 uP ar uN (!false) v1 cD)) else (
 sO N v10 uP ar uN false v1 cD))
def xc (N : Nat) (v1 : ah) (bZ : Int) (v2 : Bool) (x2 : List Int) (ar : Int) (v10 : List Int) (cD : Int → Int → (List Int) → Option Bool) : Option Bool :=
(Au N v1 bZ).bind fun Mu =>
 bif (decide ((Mu.length : Int) = 0)) then (
 some v2) else (
 Fw N x2 ar Mu v1 bZ v10 cD)
def uQ (N : Nat) (v20 : List Int) (v10 : List Int) (v4 : List (List Int)) (v9 : Int) (v1 : ah) (bZ : Int) (v2 : Bool) (x2 : List Int) (ar : Int) (dr : Int) (cD : Int → Int → (List Int) → Option Bool) (iJ : Int → (List Int) → Option Bool) : Option Bool :=
 bif (decide (dr < (v20.length : Int))) then (
 Fu N v20 dr v10 v4 v9 v1 iJ) else (
 xc N v1 bZ v2 x2 ar v10 cD)
def xd (N : Nat) (v20 : List Int) (v4 : List (List Int)) (v9 : Int) (v1 : ah) (bZ : Int) (v2 : Bool) (x2 : List Int) (ar : Int) (cD : Int → Int → (List Int) → Option Bool) : Nat → (List Int) → Int → Option Bool
 | 0, _, _ => none
 | n + 1, v10, dr => uQ N v20 v10 v4 v9 v1 bZ v2 x2 ar dr cD (fun aq gL => xd N v20 v4 v9 v1 bZ v2 x2 ar cD n gL aq)
def Fy (N : Nat) (v1 : ah) (bZ : Int) (v10 : List Int) (v4 : List (List Int)) (v9 : Int) (v2 : Bool) (x2 : List Int) (ar : Int) (cD : Int → Int → (List Int) → Option Bool) : Option Bool :=
(ix v1.ab bZ).bind fun iq =>
(xe N iq).bind fun UY =>
 xd N UY v4 v9 v1 bZ v2 x2 ar cD N v10 0
def Mv (N : Nat) (v2 : Bool)  : Option Bool :=
 some v2
def Av (N : Nat) (x2 : List Int) (v1 : ah) (v10 : List Int) (v4 : List (List Int)) (v9 : Int) (v2 : Bool) (bZ : Int) (ar : Int) (cD : Int → Int → (List Int) → Option Bool) : Option Bool :=
 bif (decide (ar < (x2.length : Int))) then (
 Fy N v1 bZ v10 v4 v9 v2 x2 ar cD) else (
 Mv N v2)
def sP (N : Nat) (x2 : List Int) (v1 : ah) (v4 : List (List Int)) (v9 : Int) (v2 : Bool)  : Nat → (List Int) → Int → Int → Option Bool
 | 0, _, _, _ => none
 | n + 1, v10, bZ, ar => Av N x2 v1 v10 v4 v9 v2 bZ ar  (fun aq bp bQ => sP N x2 v1 v4 v9 v2 n bQ aq bp)
def Fz (N : Nat) (x1 : Int) (v1 : ah) (x2 : List Int) (v4 : List (List Int)) (v2 : Bool)  : Option Bool :=
 gu (!decide ((v1.ab.length : Int) = 0)) (
 sP N x2 v1 v4 (Int.tmod (bD .i64 x1) (v1.ab.length : Int)) v2 N ([] : List Int) (Int.tmod (bD .i64 x1) (v1.ab.length : Int)) 0)
def Aw (N : Nat) (v1 : ah) (x1 : Int) (x2 : List Int) (v2 : Bool)  : Option Bool :=
(Ax N v1).bind fun nb =>
 bif (!decide ((nb.length : Int) = (v1.ab.length : Int))) then (
 some false) else (
 Fz N x1 v1 x2 nb v2)
def Ay (N : Nat) (v2 : Bool) (v1 : ah) (x1 : Int) (x2 : List Int) (oK : Bool)  : Option Bool :=
 bif oK then (
 some v2) else (
 Aw N v1 x1 x2 v2)
def FA (N : Nat) (x0 : ah) (x1 : Int) (x2 : List Int) : Option Bool :=
(UH ).bind fun aJ =>
(Aq N x0).bind fun kY =>
 bif (!kY) then (
 Ay N aJ x0 x1 x2 true) else (
 Ay N aJ x0 x1 x2 (decide (60 < (x2.length : Int))))
abbrev jz (c : Cx) (R : Value → W) (r : Bool) : Prop := ∀ (g' h' : AH), Sep c g' h' [] → R (.bool r) h'
theorem aeL {w0 : World} [eV w0] {c : Cx} {g h : AH} {E R : Value → W} {r : Bool} {N : Nat} {dr : Int} {qK : List Int} {cL : ah} {Az : Nat} {AA : List (Value × Value × Nat)} {AB sQ : Nat} {n3 n4 : Value} {iV : Value → W} {iJ : Int → (List Int) → Option Bool} {n5 : AH} (M : Ft N dr qK cL iJ = some r) (S : Sep c g h [.mp Az AA AB, .bx sQ [(.string cL.aQ), (.string cL.aR), (vi cL.fArgs), (vi cL.aK), (vi cL.aL), n3, n4]]) (Mw : cU AA AB qK) (AE : ae al.rep 4 g n3 cL.ab) (AF : ae ax.rep 3 g n4 cL.ay) (sR : Sub n5 g) (sS : ∀ {aq : Int} {gL : List Int} {n6 : List (Value × Value × Nat)} {n7 : Nat} {g2 h2 : AH}, iJ aq gL = some r → Sub n5 g2 → Sep c g2 h2 [.mp Az n6 n7, .bx sQ [(.string cL.aQ), (.string cL.aR), (vi cL.fArgs), (vi cL.aK), (vi cL.aL), n3, n4]] → cU n6 n7 gL → iV (vi aq) h2) (H : jz c R r) : H9 w0 E R (vi dr) iV h := by
 unfold H9
 unfold Ft at M
 refine lE.2 ?_
 exact sS M sR S Mw
theorem UZ {w0 : World} [eV w0] {c : Cx} {g h : AH} {E R : Value → W} {r : Bool} {N : Nat} {dr : Int} {v80 : Bool} {qK : List Int} {cL : ah} {Az : Nat} {AA : List (Value × Value × Nat)} {AB sQ : Nat} {n3 n4 : Value} {iV : Value → W} {iJ : Int → (List Int) → Option Bool} {n5 : AH} (M : Ar N dr v80 qK cL iJ = some r) (S : Sep c g h [.mp Az AA AB, .bx sQ [(.string cL.aQ), (.string cL.aR), (vi cL.fArgs), (vi cL.aK), (vi cL.aL), n3, n4]]) (Mw : cU AA AB qK) (AE : ae al.rep 4 g n3 cL.ab) (AF : ae ax.rep 3 g n4 cL.ay) (sR : Sub n5 g) (sS : ∀ {aq : Int} {gL : List Int} {n6 : List (Value × Value × Nat)} {n7 : Nat} {g2 h2 : AH}, iJ aq gL = some r → Sub n5 g2 → Sep c g2 h2 [.mp Az n6 n7, .bx sQ [(.string cL.aQ), (.string cL.aR), (vi cL.fArgs), (vi cL.aK), (vi cL.aL), n3, n4]] → cU n6 n7 gL → iV (vi aq) h2) (H : jz c R r) : Ia w0 E R (vi dr) iV (.bool v80) h := by
 unfold Ia
 unfold Ar at M
 refine bE (fun hc => ?_) (fun hc => ?_)
 · have M := aY hc M
   cases M
   exact H _ _  S.bA
 · have M := aZ hc M
   exact aeL M S Mw AE AF sR sS H
theorem aeM {w0 : World} [eV w0] {c : Cx} {g h : AH} {E R : Value → W} {r : Bool} {N : Nat} {v20 : List Int} {dr : Int} {v10 : List Int} {v4 : List (List Int)} {v9 : Int} {cL : ah} {sT : Value} {eb : Nat} {eR : List (Value × Value × Nat)} {eS : Nat} {iK : Value} {sQ : Nat} {n3 n4 : Value} {iV : Value → W} {iJ : Int → (List Int) → Option Bool} {n5 : AH} (M : Fu N v20 dr v10 v4 v9 cL iJ = some r) (S : Sep c g h [.mp eb eR eS, .bx sQ [(.string cL.aQ), (.string cL.aR), (vi cL.fArgs), (vi cL.aK), (vi cL.aL), n3, n4]]) (qM : ae (rI .i64) 1 g sT v20) (fJ : cU eR eS v10) (jg : ae (rL (rI .i64) 1) 1 g iK v4) (AE : ae al.rep 4 g n3 cL.ab) (AF : ae ax.rep 3 g n4 cL.ay) (sR : Sub n5 g) (sS : ∀ {aq : Int} {gL : List Int} {n6 : List (Value × Value × Nat)} {n7 : Nat} {g2 h2 : AH}, iJ aq gL = some r → Sub n5 g2 → Sep c g2 h2 [.mp eb n6 n7, .bx sQ [(.string cL.aQ), (.string cL.aR), (vi cL.fArgs), (vi cL.aK), (vi cL.aL), n3, n4]] → cU n6 n7 gL → iV (vi aq) h2) (H : jz c R r) : Ib w0 E R sT (vi dr) (.map (some eb)) iK (vi v9) iV h := by
 unfold Ib
 unfold Fu at M
 obtain ⟨sN, aeN, M⟩ := bind_some M
 refine ae.idx qM aeN (fun ajx ajy vs ajz aeO rp => ?_)
 cases rp
 refine S.dN (aeO 0 _ rfl) ?_
 refine S.aeP 0 rfl fJ ?_
 refine eQ.2 ?_
 cases hc : (!(decide (sN ∈ v10)))
 · have M := aZ hc M
   refine aC (by decide) ?_
   refine aC (by decide) ?_
   refine aC (by decide) ?_
   refine aC (by decide) ?_
   refine aC (by decide) ?_
   refine aC (by decide) ?_
   refine aC (by decide) ?_
   refine aC (by decide) ?_
   refine aC (by decide) ?_
   refine aC (by decide) ?_
   refine bW.2 ?_
   exact UZ M S fJ AE AF sR sS H
 · have M := aY hc M
   refine aD rfl ?_
   refine aD rfl ?_
   refine aD rfl ?_
   obtain ⟨UQ, aeQ, M⟩ := bind_some M
   refine ae.idx jg aeQ (fun ajA ajB vs ajC aeR rp => ?_)
   obtain ⟨ajD, rfl, aeS⟩ := rp
   refine aD rfl ?_
   refine S.dN (aeR 0 _ rfl) ?_
   refine aD rfl ?_
   refine aD rfl ?_
   refine aD rfl ?_
   obtain ⟨UR, aeT, M⟩ := bind_some M
   refine ae.idx qM aeT (fun ajE ajF vs ajG aeU rp => ?_)
   cases rp
   refine aD rfl ?_
   refine S.dN (aeU 0 _ rfl) ?_
   refine aD rfl ?_
   obtain ⟨US, aeV, M⟩ := bind_some M
   refine aeI aeV S.sub S.ok aeS (fun _ h  S1  => ?_)
   have S := S.dz S1
   refine aD rfl ?_
   refine eQ.2 ?_
   refine bW.2 ?_
   exact UZ M S fJ AE AF sR sS H
theorem aeW {w0 : World} [eV w0] {c : Cx} {g h : AH} {E R : Value → W} {r : Bool} {N : Nat} {ar aN : Int} {cM : ah} {qL : List Int} {sU : Nat} {n8 oa : Value} {AG : Nat} {AI : List (Value × Value × Nat)} {AJ : Nat} {da : Value → Value → W} {cD : Int → Int → (List Int) → Option Bool} {fK : AH} (M : Ms N ar aN cM qL cD = some r) (S : Sep c g h [.bx sU [(.string cM.aQ), (.string cM.aR), (vi cM.fArgs), (vi cM.aK), (vi cM.aL), n8, oa], .mp AG AI AJ]) (AK : ae al.rep 4 g n8 cM.ab) (AL : ae ax.rep 3 g oa cM.ay) (Mx : cU AI AJ qL) (fq : Sub fK g) (iu : ∀ {aq bp : Int} {bQ : List Int} {fL : List (Value × Value × Nat)} {fM : Nat} {g2 h2 : AH}, cD aq bp bQ = some r → Sub fK g2 → Sep c g2 h2 [.bx sU [(.string cM.aQ), (.string cM.aR), (vi cM.fArgs), (vi cM.aK), (vi cM.aL), n8, oa], .mp AG fL fM] → cU fL fM bQ → da (vi aq) (vi bp) h2) (H : jz c R r) : H5 w0 E R (vi ar) da (vi aN) h := by
 unfold H5
 unfold Ms at M
 refine lE.2 ?_
 exact iu M fq S Mx
theorem U0 {w0 : World} [eV w0] {c : Cx} {g h : AH} {E R : Value → W} {r : Bool} {N : Nat} {ar cd : Int} {cM : ah} {qL : List Int} {sU : Nat} {n8 oa : Value} {AG : Nat} {AI : List (Value × Value × Nat)} {AJ : Nat} {da : Value → Value → W} {cD : Int → Int → (List Int) → Option Bool} {fK : AH} (M : Fv N ar cd cM qL cD = some r) (S : Sep c g h [.bx sU [(.string cM.aQ), (.string cM.aR), (vi cM.fArgs), (vi cM.aK), (vi cM.aL), n8, oa], .mp AG AI AJ]) (AK : ae al.rep 4 g n8 cM.ab) (AL : ae ax.rep 3 g oa cM.ay) (Mx : cU AI AJ qL) (fq : Sub fK g) (iu : ∀ {aq bp : Int} {bQ : List Int} {fL : List (Value × Value × Nat)} {fM : Nat} {g2 h2 : AH}, cD aq bp bQ = some r → Sub fK g2 → Sep c g2 h2 [.bx sU [(.string cM.aQ), (.string cM.aR), (vi cM.fArgs), (vi cM.aK), (vi cM.aL), n8, oa], .mp AG fL fM] → cU fL fM bQ → da (vi aq) (vi bp) h2) (H : jz c R r) : CL w0 E R (vi ar) da (vi cd) h := by
 unfold CL
 unfold Fv at M
 exact aeW M S AK AL Mx fq iu H
theorem FB {w0 : World} [eV w0] {c : Cx} {g h : AH} {E R : Value → W} {r : Bool} {N : Nat} {v10 : List Int} {j2 ar cd : Int} {v59 : Bool} {cM : ah} {eb : Nat} {eR : List (Value × Value × Nat)} {eS sU : Nat} {n8 oa : Value} {da : Value → Value → W} {cD : Int → Int → (List Int) → Option Bool} {fK : AH} (M : sO N v10 j2 ar cd v59 cM cD = some r) (S : Sep c g h [.mp eb eR eS, .bx sU [(.string cM.aQ), (.string cM.aR), (vi cM.fArgs), (vi cM.aK), (vi cM.aL), n8, oa]]) (fJ : cU eR eS v10) (AK : ae al.rep 4 g n8 cM.ab) (AL : ae ax.rep 3 g oa cM.ay) (fq : Sub fK g) (iu : ∀ {aq bp : Int} {bQ : List Int} {fL : List (Value × Value × Nat)} {fM : Nat} {g2 h2 : AH}, cD aq bp bQ = some r → Sub fK g2 → Sep c g2 h2 [.bx sU [(.string cM.aQ), (.string cM.aR), (vi cM.fArgs), (vi cM.aK), (vi cM.aL), n8, oa], .mp eb fL fM] → cU fL fM bQ → da (vi aq) (vi bp) h2) (H : jz c R r) : H6 w0 E R (.map (some eb)) (vi j2) (vi ar) da (vi cd) (.bool v59) h := by
 unfold H6
 unfold sO at M
 refine bE (fun hc => ?_) (fun hc => ?_)
 · have M := aY hc M
   refine S.My fJ (fun ajH ajI h S aeX => ?_)
   have S := S.f1
   exact U0 M S AK AL aeX fq iu H
 · have M := aZ hc M
   have S := S.f1
   exact U0 M S AK AL fJ fq iu H
theorem aeY {w0 : World} [eV w0] {c : Cx} {g h : AH} {E R : Value → W} {r : Bool} {N : Nat} {x2 : List Int} {ar : Int} {dV : List Int} {v1 : ah} {bZ : Int} {v10 : List Int} {dS U1 : Value} {au : Nat} {aE aG : Value} {eb : Nat} {eR : List (Value × Value × Nat)} {eS : Nat} {da : Value → Value → W} {cD : Int → Int → (List Int) → Option Bool} {fK : AH} (M : Fw N x2 ar dV v1 bZ v10 cD = some r) (S : Sep c g h [.bx au [(.string v1.aQ), (.string v1.aR), (vi v1.fArgs), (vi v1.aK), (vi v1.aL), aE, aG], .mp eb eR eS]) (c8 : ae (rI .u8) 1 g dS x2) (U2 : ae (rI .i64) 1 g U1 dV) (aI : ae al.rep 4 g aE v1.ab) (aS : ae ax.rep 3 g aG v1.ay) (fJ : cU eR eS v10) (fq : Sub fK g) (iu : ∀ {aq bp : Int} {bQ : List Int} {fL : List (Value × Value × Nat)} {fM : Nat} {g2 h2 : AH}, cD aq bp bQ = some r → Sub fK g2 → Sep c g2 h2 [.bx au [(.string v1.aQ), (.string v1.aR), (vi v1.fArgs), (vi v1.aK), (vi v1.aL), aE, aG], .mp eb fL fM] → cU fL fM bQ → da (vi aq) (vi bp) h2) (H : jz c R r) : H7 w0 E R dS (vi ar) U1 (av au 0) (vi bZ) (.map (some eb)) da h := by
 unfold H7
 unfold Fw at M
 obtain ⟨UT, aeZ, M⟩ := bind_some M
 refine ae.idx c8 aeZ (fun ajJ ajK vs ajL ae0 rp => ?_)
 cases rp
 refine S.dN (ae0 0 _ rfl) ?_
 refine TM.2 ?_
 refine U2.len ?_
 obtain ⟨ae1, M⟩ := ml M
 refine (TL (by simpa using ae1)).2 ?_
 obtain ⟨uN, ae2, M⟩ := bind_some M
 refine ae.idx U2 ae2 (fun ajM ajN vs ajO ae3 rp => ?_)
 cases rp
 refine S.dN (ae3 0 _ rfl) ?_
 refine S.cK [(.string v1.aQ), (.string v1.aR), (vi v1.fArgs), (vi v1.aK), (vi v1.aL), aE, aG] 0 rfl rfl rfl (by decide) ?_
 obtain ⟨Fx, ae4, M⟩ := bind_some M
 refine ae5 ae4 S.sub S.ok aI aS (fun _ h  S1  => ?_)
 have S := S.dz S1
 refine bY.2 ?_
 refine S.bP 0 rfl rfl ?_
 obtain ⟨UU, ae6, M⟩ := bind_some M
 refine ae.idx aI ae6 (fun ajP ajQ vs ajR ae7 rp => ?_)
 cases rp
 refine S.oc ae7 rfl (by decide) ?_
 obtain ⟨uP, ae8, M⟩ := bind_some M
 refine U3 ae8 S.sub S.ok (fun _ h  S1  => ?_)
 have S := S.dz S1
 refine sk.2 ?_
 cases hc : (!decide (uP = (-1)))
 · have M := aZ hc M
   refine aC (by decide) ?_
   refine aC (by decide) ?_
   refine aC (by decide) ?_
   refine lK ?_
   refine lK ?_
   refine lK ?_
   refine lK ?_
   refine lK ?_
   refine lK ?_
   refine lK ?_
   refine lK ?_
   refine aC (by decide) ?_
   refine aC (by decide) ?_
   refine lK ?_
   refine lK ?_
   refine lK ?_
   refine lK ?_
   refine lK ?_
   refine lK ?_
   refine aC (by decide) ?_
   refine aC (by decide) ?_
   refine bW.2 ?_
   have S := S.f1
   exact FB M S fJ aI aS fq iu H
 · have M := aY hc M
   refine aD rfl ?_
   refine aD rfl ?_
   refine pe.2 ?_
   refine aD rfl ?_
   cases hc : (decide (0 ≤ Fx))
   · have M := aZ hc M
     refine aC (by decide) ?_
     refine aC (by decide) ?_
     refine aC (by decide) ?_
     refine aC (by decide) ?_
     refine aC (by decide) ?_
     refine aC (by decide) ?_
     refine aC (by decide) ?_
     refine aC (by decide) ?_
     refine aD rfl ?_
     refine bW.2 ?_
     refine aD rfl ?_
     refine aC (by decide) ?_
     refine aC (by decide) ?_
     refine aC (by decide) ?_
     refine aC (by decide) ?_
     refine aC (by decide) ?_
     refine aC (by decide) ?_
     refine aD rfl ?_
     refine bW.2 ?_
     refine aD rfl ?_
     refine eQ.2 ?_
     refine bW.2 ?_
     have S := S.f1
     exact FB M S fJ aI aS fq iu H
   · have M := aY hc M
     refine aD rfl ?_
     refine bY.2 ?_
     refine aD rfl ?_
     refine S.bP 0 rfl rfl ?_
     refine aD rfl ?_
     refine aD rfl ?_
     obtain ⟨Mt, ae9, M⟩ := bind_some M
     refine ae.idx aS ae9 (fun ajS ajT vs ajU afa rp => ?_)
     cases rp
     refine aD rfl ?_
     refine bY.2 ?_
     refine aD rfl ?_
     refine S.dN (afa 2 _ rfl) ?_
     refine aD rfl ?_
     refine aD rfl ?_
     refine c7.2 ?_
     refine aD rfl ?_
     refine bW.2 ?_
     refine aD rfl ?_
     cases hc : (decide (Mt.dY = uN))
     · have M := aZ hc M
       refine aC (by decide) ?_
       refine aC (by decide) ?_
       refine aC (by decide) ?_
       refine aC (by decide) ?_
       refine aC (by decide) ?_
       refine aC (by decide) ?_
       refine aD rfl ?_
       refine bW.2 ?_
       refine aD rfl ?_
       refine eQ.2 ?_
       refine bW.2 ?_
       have S := S.f1
       exact FB M S fJ aI aS fq iu H
     · have M := aY hc M
       refine aD rfl ?_
       refine bY.2 ?_
       refine aD rfl ?_
       refine S.bP 0 rfl rfl ?_
       refine aD rfl ?_
       refine aD rfl ?_
       obtain ⟨UW, afb, M⟩ := bind_some M
       refine ae.idx aI afb (fun ajV ajW vs ajX afc rp => ?_)
       cases rp
       refine aD rfl ?_
       refine S.oc afc rfl (by decide) ?_
       refine aD rfl ?_
       obtain ⟨UX, afd, M⟩ := bind_some M
       refine afe afd S.sub S.ok (fun _ h  S1  => ?_)
       have S := S.dz S1
       refine aD rfl ?_
       refine bW.2 ?_
       refine aD rfl ?_
       refine eQ.2 ?_
       refine bW.2 ?_
       have S := S.f1
       exact FB M S fJ aI aS fq iu H
theorem aff {w0 : World} [eV w0] {c : Cx} {g h : AH} {E R : Value → W} {r : Bool} {N : Nat} {v1 : ah} {bZ : Int} {v2 : Bool} {x2 : List Int} {ar : Int} {v10 : List Int} {au : Nat} {aE aG dS : Value} {eb : Nat} {eR : List (Value × Value × Nat)} {eS : Nat} {da : Value → Value → W} {cD : Int → Int → (List Int) → Option Bool} {fK : AH} (M : xc N v1 bZ v2 x2 ar v10 cD = some r) (S : Sep c g h [.bx au [(.string v1.aQ), (.string v1.aR), (vi v1.fArgs), (vi v1.aK), (vi v1.aL), aE, aG], .mp eb eR eS]) (aI : ae al.rep 4 g aE v1.ab) (aS : ae ax.rep 3 g aG v1.ay) (c8 : ae (rI .u8) 1 g dS x2) (fJ : cU eR eS v10) (fq : Sub fK g) (iu : ∀ {aq bp : Int} {bQ : List Int} {fL : List (Value × Value × Nat)} {fM : Nat} {g2 h2 : AH}, cD aq bp bQ = some r → Sub fK g2 → Sep c g2 h2 [.bx au [(.string v1.aQ), (.string v1.aR), (vi v1.fArgs), (vi v1.aK), (vi v1.aL), aE, aG], .mp eb fL fM] → cU fL fM bQ → da (vi aq) (vi bp) h2) (H : jz c R r) : H8 w0 E R (av au 0) (vi bZ) (.bool v2) dS (vi ar) (.map (some eb)) da h := by
 unfold H8
 unfold xc at M
 refine S.cK [(.string v1.aQ), (.string v1.aR), (vi v1.fArgs), (vi v1.aK), (vi v1.aL), aE, aG] 0 rfl rfl rfl (by decide) ?_
 obtain ⟨Mu, afg, M⟩ := bind_some M
 refine afh afg S.sub S.ok aI aS (fun g h ajY S1 U4 => ?_)
 have c8 := ae.mono c8 (gK .u8) S1.bT
 have aI := ae.mono aI al.mono S1.bT
 have aS := ae.mono aS ax.mono S1.bT
 have fq := Sub.trans fq S1.bT
 have S := S.na S1
 refine U4.len ?_
 refine c7.2 ?_
 refine bE (fun hc => ?_) (fun hc => ?_)
 · have M := aY hc M
   cases M
   exact H _ _  S.bA
 · have M := aZ hc M
   exact aeY M S c8 U4 aI aS fJ fq iu H
theorem afi {w0 : World} [eV w0] {c : Cx} {g h : AH} {E R : Value → W} {r : Bool} {N : Nat} {v20 v10 : List Int} {v4 : List (List Int)} {v9 : Int} {v1 : ah} {bZ : Int} {v2 : Bool} {x2 : List Int} {ar dr : Int} {sT : Value} {eb : Nat} {eR : List (Value × Value × Nat)} {eS : Nat} {iK : Value} {au : Nat} {aE aG dS : Value} {da : Value → Value → W} {cD : Int → Int → (List Int) → Option Bool} {fK : AH} {iV : Value → W} {iJ : Int → (List Int) → Option Bool} {n5 : AH} (M : uQ N v20 v10 v4 v9 v1 bZ v2 x2 ar dr cD iJ = some r) (S : Sep c g h [.mp eb eR eS, .bx au [(.string v1.aQ), (.string v1.aR), (vi v1.fArgs), (vi v1.aK), (vi v1.aL), aE, aG]]) (qM : ae (rI .i64) 1 g sT v20) (fJ : cU eR eS v10) (jg : ae (rL (rI .i64) 1) 1 g iK v4) (aI : ae al.rep 4 g aE v1.ab) (aS : ae ax.rep 3 g aG v1.ay) (c8 : ae (rI .u8) 1 g dS x2) (fq : Sub fK g) (iu : ∀ {aq bp : Int} {bQ : List Int} {fL : List (Value × Value × Nat)} {fM : Nat} {g2 h2 : AH}, cD aq bp bQ = some r → Sub fK g2 → Sep c g2 h2 [.bx au [(.string v1.aQ), (.string v1.aR), (vi v1.fArgs), (vi v1.aK), (vi v1.aL), aE, aG], .mp eb fL fM] → cU fL fM bQ → da (vi aq) (vi bp) h2) (sR : Sub n5 g) (sS : ∀ {aq : Int} {gL : List Int} {n6 : List (Value × Value × Nat)} {n7 : Nat} {g2 h2 : AH}, iJ aq gL = some r → Sub n5 g2 → Sep c g2 h2 [.mp eb n6 n7, .bx au [(.string v1.aQ), (.string v1.aR), (vi v1.fArgs), (vi v1.aK), (vi v1.aL), aE, aG]] → cU n6 n7 gL → iV (vi aq) h2) (H : jz c R r) : CM w0 E R sT (.map (some eb)) iK (vi v9) (av au 0) (vi bZ) (.bool v2) dS (vi ar) da iV (vi dr) h := by
 unfold CM
 unfold uQ at M
 refine qM.len ?_
 refine iI.2 ?_
 refine bE (fun hc => ?_) (fun hc => ?_)
 · have M := aY hc M
   exact aeM M S qM fJ jg aI aS sR sS H
 · have M := aZ hc M
   have S := S.f1
   exact aff M S aI aS c8 fJ fq iu H
theorem afj {w0 : World} [eV w0] {c : Cx} {E R : Value → W} {r : Bool} {N : Nat} {v20 : List Int} {v4 : List (List Int)} {v9 : Int} {v1 : ah} {bZ : Int} {v2 : Bool} {x2 : List Int} {ar : Int} {sT : Value} {eb : Nat} {iK : Value} {au : Nat} {aE aG dS : Value} {da : Value → Value → W} {cD : Int → Int → (List Int) → Option Bool} {fK : AH} (iu : ∀ {aq bp : Int} {bQ : List Int} {fL : List (Value × Value × Nat)} {fM : Nat} {g2 h2 : AH}, cD aq bp bQ = some r → Sub fK g2 → Sep c g2 h2 [.bx au [(.string v1.aQ), (.string v1.aR), (vi v1.fArgs), (vi v1.aK), (vi v1.aL), aE, aG], .mp eb fL fM] → cU fL fM bQ → da (vi aq) (vi bp) h2) (H : jz c R r) : ∀ (n : Nat) {v10 : List Int} {dr : Int} {eR : List (Value × Value × Nat)} {eS : Nat} {g h : AH}, xd N v20 v4 v9 v1 bZ v2 x2 ar cD n v10 dr = some r → Sep c g h [.mp eb eR eS, .bx au [(.string v1.aQ), (.string v1.aR), (vi v1.fArgs), (vi v1.aK), (vi v1.aL), aE, aG]] → ae (rI .i64) 1 g sT v20 → cU eR eS v10 → ae (rL (rI .i64) 1) 1 g iK v4 → ae al.rep 4 g aE v1.ab → ae ax.rep 3 g aG v1.ay → ae (rI .u8) 1 g dS x2 → Sub fK g → gr (α := Value) (fun k a => CM w0 E R sT (.map (some eb)) iK (vi v9) (av au 0) (vi bZ) (.bool v2) dS (vi ar) da k a) n (vi dr) h := by
 intro n
 induction n with
 | zero =>
  intro v10 dr eR eS g h M S qM fJ jg aI aS c8 fq
  unfold xd at M; cases M
 | succ n ih =>
  intro v10 dr eR eS g h M S qM fJ jg aI aS c8 fq
  exact afi M S qM fJ jg aI aS c8 fq iu (Sub.refl g) (fun M2 sub S2 Mz => ih M2 S2 (ae.mono qM (gK .i64) sub) Mz (ae.mono jg (AM (gK .i64)) sub) (ae.mono aI al.mono sub) (ae.mono aS ax.mono sub) (ae.mono c8 (gK .u8) sub) (Sub.trans fq sub)) H
theorem afk {w0 : World} [eV w0] {c : Cx} {g h : AH} {E R : Value → W} {r : Bool} {N : Nat} {v1 : ah} {bZ : Int} {v10 : List Int} {v4 : List (List Int)} {v9 : Int} {v2 : Bool} {x2 : List Int} {ar : Int} {au : Nat} {aE aG : Value} {eb : Nat} {eR : List (Value × Value × Nat)} {eS : Nat} {iK dS : Value} {da : Value → Value → W} {cD : Int → Int → (List Int) → Option Bool} {fK : AH} (M : Fy N v1 bZ v10 v4 v9 v2 x2 ar cD = some r) (S : Sep c g h [.bx au [(.string v1.aQ), (.string v1.aR), (vi v1.fArgs), (vi v1.aK), (vi v1.aL), aE, aG], .mp eb eR eS]) (aI : ae al.rep 4 g aE v1.ab) (aS : ae ax.rep 3 g aG v1.ay) (fJ : cU eR eS v10) (jg : ae (rL (rI .i64) 1) 1 g iK v4) (c8 : ae (rI .u8) 1 g dS x2) (fq : Sub fK g) (iu : ∀ {aq bp : Int} {bQ : List Int} {fL : List (Value × Value × Nat)} {fM : Nat} {g2 h2 : AH}, cD aq bp bQ = some r → Sub fK g2 → Sep c g2 h2 [.bx au [(.string v1.aQ), (.string v1.aR), (vi v1.fArgs), (vi v1.aK), (vi v1.aL), aE, aG], .mp eb fL fM] → cU fL fM bQ → da (vi aq) (vi bp) h2) (H : jz c R r) : Ic w0 E R (av au 0) (vi bZ) (.map (some eb)) iK (vi v9) (.bool v2) dS (vi ar) da h := by
 unfold Ic
 unfold Fy at M
 refine bY.2 ?_
 refine S.bP 0 rfl rfl ?_
 obtain ⟨iq, uR, M⟩ := bind_some M
 refine ae.idx aI uR (fun afl afm vs ajZ MA rp => ?_)
 cases rp
 refine S.oc MA rfl (by decide) ?_
 obtain ⟨UY, afn, M⟩ := bind_some M
 refine U5 afn S.sub S.ok (fun g h aj0 S1 afo => ?_)
 have jg := ae.mono jg (AM (gK .i64)) S1.bT
 have c8 := ae.mono c8 (gK .u8) S1.bT
 have aI := ae.mono aI al.mono S1.bT
 have MA := S1.bT.aW MA
 have aS := ae.mono aS ax.mono S1.bT
 have fq := Sub.trans fq S1.bT
 have S := S.na S1
 have S := S.f1
 exact ⟨N, afj iu H _ M S afo fJ jg aI aS c8 fq⟩
theorem afp {w0 : World} [eV w0] {c : Cx} {g h : AH} {E R : Value → W} {r : Bool} {N : Nat} {v2 : Bool}  (M : Mv N v2 = some r) (S : Sep c g h [])   (H : jz c R r) : H0 w0 E R (.bool v2) h := by
 unfold H0
 unfold Mv at M
 cases M
 exact H _ _  S.bA
theorem afq {w0 : World} [eV w0] {c : Cx} {g h : AH} {E R : Value → W} {r : Bool} {N : Nat} {x2 : List Int} {v1 : ah} {v10 : List Int} {v4 : List (List Int)} {v9 : Int} {v2 : Bool} {bZ ar : Int} {dS : Value} {au : Nat} {aE aG : Value} {eb : Nat} {eR : List (Value × Value × Nat)} {eS : Nat} {iK : Value} {da : Value → Value → W} {cD : Int → Int → (List Int) → Option Bool} {fK : AH} (M : Av N x2 v1 v10 v4 v9 v2 bZ ar cD = some r) (S : Sep c g h [.bx au [(.string v1.aQ), (.string v1.aR), (vi v1.fArgs), (vi v1.aK), (vi v1.aL), aE, aG], .mp eb eR eS]) (c8 : ae (rI .u8) 1 g dS x2) (aI : ae al.rep 4 g aE v1.ab) (aS : ae ax.rep 3 g aG v1.ay) (fJ : cU eR eS v10) (jg : ae (rL (rI .i64) 1) 1 g iK v4) (fq : Sub fK g) (iu : ∀ {aq bp : Int} {bQ : List Int} {fL : List (Value × Value × Nat)} {fM : Nat} {g2 h2 : AH}, cD aq bp bQ = some r → Sub fK g2 → Sep c g2 h2 [.bx au [(.string v1.aQ), (.string v1.aR), (vi v1.fArgs), (vi v1.aK), (vi v1.aL), aE, aG], .mp eb fL fM] → cU fL fM bQ → da (vi aq) (vi bp) h2) (H : jz c R r) : CN w0 E R dS (av au 0) (.map (some eb)) iK (vi v9) (.bool v2) da (vi bZ) (vi ar) h := by
 unfold CN
 unfold Av at M
 refine c8.len ?_
 refine iI.2 ?_
 refine bE (fun hc => ?_) (fun hc => ?_)
 · have M := aY hc M
   exact afk M S aI aS fJ jg c8 fq iu H
 · have M := aZ hc M
   have S := S.t0
   exact afp M S  H
theorem afr {w0 : World} [eV w0] {c : Cx} {E R : Value → W} {r : Bool} {N : Nat} {x2 : List Int} {v1 : ah} {v4 : List (List Int)} {v9 : Int} {v2 : Bool} {dS : Value} {au : Nat} {aE aG : Value} {eb : Nat} {iK : Value}   (H : jz c R r) : ∀ (n : Nat) {v10 : List Int} {bZ ar : Int} {eR : List (Value × Value × Nat)} {eS : Nat} {g h : AH}, sP N x2 v1 v4 v9 v2 n v10 bZ ar = some r → Sep c g h [.bx au [(.string v1.aQ), (.string v1.aR), (vi v1.fArgs), (vi v1.aK), (vi v1.aL), aE, aG], .mp eb eR eS] → ae (rI .u8) 1 g dS x2 → ae al.rep 4 g aE v1.ab → ae ax.rep 3 g aG v1.ay → cU eR eS v10 → ae (rL (rI .i64) 1) 1 g iK v4 → gr (α := Value × Value) (fun k a => CN w0 E R dS (av au 0) (.map (some eb)) iK (vi v9) (.bool v2) (fun b0 b1 => k (b0, b1)) a.1 a.2) n ((vi bZ), (vi ar)) h := by
 intro n
 induction n with
 | zero =>
  intro v10 bZ ar eR eS g h M S c8 aI aS fJ jg
  unfold sP at M; cases M
 | succ n ih =>
  intro v10 bZ ar eR eS g h M S c8 aI aS fJ jg
  exact afq M S c8 aI aS fJ jg  (Sub.refl g) (fun M2 sub S2 AN => ih M2 S2 (ae.mono c8 (gK .u8) sub) (ae.mono aI al.mono sub) (ae.mono aS ax.mono sub) AN (ae.mono jg (AM (gK .i64)) sub) ) H
theorem afs {w0 : World} [eV w0] {c : Cx} {g h : AH} {E R : Value → W} {r : Bool} {N : Nat} {x1 : Int} {v1 : ah} {x2 : List Int} {v4 : List (List Int)} {v2 : Bool} {au : Nat} {aE aG dS iK : Value}  (M : Fz N x1 v1 x2 v4 v2 = some r) (S : Sep c g h [.bx au [(.string v1.aQ), (.string v1.aR), (vi v1.fArgs), (vi v1.aK), (vi v1.aL), aE, aG]]) (aI : ae al.rep 4 g aE v1.ab) (aS : ae ax.rep 3 g aG v1.ay) (c8 : ae (rI .u8) 1 g dS x2) (jg : ae (rL (rI .i64) 1) 1 g iK v4)  (H : jz c R r) : Ie w0 E R (.int .u8 x1) (av au 0) dS iK (.bool v2) h := by
 unfold Ie
 unfold Fz at M
 refine TM.2 ?_
 refine bY.2 ?_
 refine S.bP 0 rfl rfl ?_
 refine aI.len ?_
 obtain ⟨aft, M⟩ := ml M
 refine (TL (by simpa using aft)).2 ?_
 refine S.U6 (fun aj1 h S AP => ?_)
 have S := S.f1
 exact ⟨N, afr  H _ M S c8 aI aS AP jg ⟩
theorem afu {w0 : World} [eV w0] {c : Cx} {g h : AH} {E R : Value → W} {r : Bool} {N : Nat} {v1 : ah} {x1 : Int} {x2 : List Int} {v2 : Bool} {au : Nat} {aE aG dS : Value}  (M : Aw N v1 x1 x2 v2 = some r) (S : Sep c g h [.bx au [(.string v1.aQ), (.string v1.aR), (vi v1.fArgs), (vi v1.aK), (vi v1.aL), aE, aG]]) (aI : ae al.rep 4 g aE v1.ab) (aS : ae ax.rep 3 g aG v1.ay) (c8 : ae (rI .u8) 1 g dS x2)  (H : jz c R r) : Ig w0 E R (av au 0) (.int .u8 x1) dS (.bool v2) h := by
 unfold Ig
 unfold Aw at M
 refine S.cK [(.string v1.aQ), (.string v1.aR), (vi v1.fArgs), (vi v1.aK), (vi v1.aL), aE, aG] 0 rfl rfl rfl (by decide) ?_
 obtain ⟨nb, MB, M⟩ := bind_some M
 refine afv MB S.sub S.ok aI aS (fun g h w_8 S1 U7 => ?_)
 have c8 := ae.mono c8 (gK .u8) S1.bT
 have aI := ae.mono aI al.mono S1.bT
 have aS := ae.mono aS ax.mono S1.bT
 have S := S.na S1
 refine U7.len ?_
 refine bY.2 ?_
 refine S.bP 0 rfl rfl ?_
 refine aI.len ?_
 refine sk.2 ?_
 refine bE (fun hc => ?_) (fun hc => ?_)
 · have M := aY hc M
   cases M
   exact H _ _  S.bA
 · have M := aZ hc M
   exact afs M S aI aS c8 U7 H
theorem U8 {w0 : World} [eV w0] {c : Cx} {g h : AH} {E R : Value → W} {r : Bool} {N : Nat} {v2 : Bool} {v1 : ah} {x1 : Int} {x2 : List Int} {oK : Bool} {au : Nat} {aE aG dS : Value}  (M : Ay N v2 v1 x1 x2 oK = some r) (S : Sep c g h [.bx au [(.string v1.aQ), (.string v1.aR), (vi v1.fArgs), (vi v1.aK), (vi v1.aL), aE, aG]]) (aI : ae al.rep 4 g aE v1.ab) (aS : ae ax.rep 3 g aG v1.ay) (c8 : ae (rI .u8) 1 g dS x2)  (H : jz c R r) : Ih w0 E R (.bool v2) (av au 0) (.int .u8 x1) dS (.bool oK) h := by
 unfold Ih
 unfold Ay at M
 refine bE (fun hc => ?_) (fun hc => ?_)
 · have M := aY hc M
   cases M
   exact H _ _  S.bA
 · have M := aZ hc M
   exact afu M S aI aS c8 H
theorem Zo {w0 : World} [eV w0] {g h : AH} {Q : CR → AH → Prop} {r : Bool} {N : Nat} {x0 : ah} {x1 : Int} {x2 : List Int} {ct cu dS : Value} (M : FA N x0 x1 x2 = some r) (sg : Sub g h) (ok : h.Ok) (bU : ae al.rep 4 g ct x0.ab) (cy : ae ax.rep 3 g cu x0.ay) (c8 : ae (rI .u8) 1 g dS x2) (H : jz ⟨g, h, []⟩ (fun v => Q (.ret v)) r) : WF PP w0 PV [(.agg ⟨[(.string x0.aQ), (.string x0.aR), (vi x0.fArgs), (vi x0.aK), (vi x0.aL), ct, cu]⟩), (.int .u8 x1), dS] h Q := by
 refine Zf _ _ _ ?_
 have S := Sep.start sg ok
 unfold PU
 unfold FA at M
 refine S.box [(.string x0.aQ), (.string x0.aR), (vi x0.fArgs), (vi x0.aK), (vi x0.aL), ct, cu] rfl (aa rfl (aa rfl (aa rfl (aa rfl (aa rfl (aa bU.one (aa cy.one rfl))))))) (fun jT h S => ?_)
 obtain ⟨aJ, im, M⟩ := bind_some M
 refine aen S.sub S.ok im (fun _ h  S1  => ?_)
 have S := S.dz S1
 refine S.cK [(.string x0.aQ), (.string x0.aR), (vi x0.fArgs), (vi x0.aK), (vi x0.aL), ct, cu] 0 rfl rfl rfl (by decide) ?_
 obtain ⟨kY, AQ, M⟩ := bind_some M
 refine aeK AQ S.sub S.ok bU cy (fun _ h  S1  => ?_)
 have S := S.dz S1
 refine eQ.2 ?_
 cases hc : (!kY)
 · have M := aZ hc M
   refine aD rfl ?_
   refine aD rfl ?_
   refine c8.len ?_
   refine aD rfl ?_
   refine qC.2 ?_
   refine bW.2 ?_
   exact U8 M S bU cy c8 H
 · have M := aY hc M
   refine aC (by decide) ?_
   refine aC (by decide) ?_
   refine aC (by decide) ?_
   refine bW.2 ?_
   exact U8 M S bU cy c8 H
end
end Go.Ve.T
namespace Go.Ve.T
open Go.Ve
noncomputable section
theorem vx (x a b : Int) : oj x a b = some (decide (a ≤ x ∧ x ≤ b)) := by
 unfold oj
 by_cases h : a ≤ x <;> simp [h]
theorem vy (x a b : Int) : qU x a b = some (decide (a ≤ x ∧ x ≤ b)) := by
 unfold qU
 by_cases h : a ≤ x <;> simp [h]
def Oz (k : Int) : Int := if k = 3 then 11 else if k = 4 then 3 else if k = 5 then 4 else if k = 7 then 5 else if k = 9 then 10 else if k = 10 then 9 else if k = 11 then 12 else if k = 12 then 13 else k
def B3 (op : Int) : cv := bif isOp op then ⟨⟨if op = 20 then 7 else Oz (cw op).dB.e0, Oz (cw op).dB.e1, Oz (cw op).dB.e2⟩, (cw op).jj, (cw op).cN, (cw op).jk⟩ else ⟨⟨0, 0, 0⟩, 0, ⟨0, 0⟩, false⟩
theorem WV (op : Int) : xC op = some (B3 op, isOp op) := by
 cases h : isOp op with
 | true => rcases Ah h with rfl | rfl | rfl | rfl | rfl | rfl | rfl | rfl | rfl | rfl | rfl | rfl | rfl | rfl | rfl | rfl | rfl | rfl | rfl | rfl | rfl | rfl | rfl | rfl | rfl | rfl | rfl | rfl | rfl | rfl | rfl | rfl | rfl | rfl <;> rfl
 | false =>
  have hh : ∀ k : Int, 1 ≤ k → k ≤ 34 → decide (op = k) = false := fun k h1 h2 => decide_eq_false fun e => by subst e; unfold isOp at h; rw [decide_eq_false_iff_not] at h; omega
  have e : B3 op = ⟨⟨0, 0, 0⟩, 0, ⟨0, 0⟩, false⟩ := by unfold B3; rw [h]; rfl
  rw [e]
  unfold xC Bm vm td xB FP
  simp [hh, cond_false]
def q8 {α β : Type} (st : Int → α → Option (Option β)) (fin : Option β) : List α → Int → Option β
 | [], _ => fin
 | a :: r, y => match st y a with
  | some b => b
  | none => q8 st fin r (y + 1)
theorem q9 {α β : Type} (l : List α) (I : Nat → Int → Option β) (st : Int → α → Option (Option β)) (fin : Option β) (hl : l.length < 1000000)
 (step : ∀ n (y : Int) a, y < l.length → ix l y = some a → I (n + 1) y = match st y a with | some b => b | none => I n (bD .i64 (y + 1)))
 (stop : ∀ n, I (n + 1) (l.length : Int) = fin) : ∀ (n i : Nat), i ≤ l.length → l.length < n + i → I n (i : Int) = q8 st fin (l.drop i) i
 | 0, i, h1, h2 => by omega
 | n + 1, i, h1, h2 => by
  by_cases hi : i < l.length
  · have ea : ix l (i : Int) = some l[i] := List.getElem?_eq_getElem hi
    rw [step n i l[i] (by omega) ea, List.drop_eq_getElem_cons hi]
    show _ = match st i l[i] with | some b => b | none => q8 st fin (l.drop (i + 1)) ((i : Int) + 1)
    cases st i l[i] with
    | some b => rfl
    | none =>
     show I n (bD .i64 ((i : Int) + 1)) = _
     rw [lC (by omega) (by omega)]
     have := q9 l I st fin hl step stop n (i + 1) hi (by omega)
     rw [show ((i + 1 : Nat) : Int) = (i : Int) + 1 from rfl] at this
     exact this
  · have : i = l.length := by omega
    subst this
    rw [stop, List.drop_length]; rfl
def lg {α : Type} (p : α → Bool) : List α → Int → Int
 | [], _ => -1
 | a :: r, y => bif p a then y else lg p r (y + 1)
theorem B4 {α : Type} (p : α → Bool) : ∀ (l : List α) (y : Int), q8 (fun y a => bif p a then some (some y) else none) (some (-1)) l y = some (lg p l y)
 | [], y => rfl
 | a :: r, y => by
  unfold q8 lg
  cases p a with
  | true => rfl
  | false => exact B4 p r (y + 1)
theorem WW {α : Type} (p : α → Bool) : ∀ (l : List α) (y : Int), 0 ≤ y → lg p l y = -1 ∨ ∃ (k : Nat) (a : α), l[k]? = some a ∧ p a = true ∧ lg p l y = y + k
 | [], y, _ => .inl rfl
 | a :: r, y, hy => by
  unfold lg
  cases hp : p a with
  | true => exact .inr ⟨0, a, rfl, hp, (Int.add_zero y).symm⟩
  | false =>
   rcases WW p r (y + 1) (by omega) with h | ⟨k, b, h1, h2, h3⟩
   · exact .inl h
   · refine .inr ⟨k + 1, b, h1, h2, ?_⟩
     show lg p r (y + 1) = _
     rw [h3]; omega
def gb (i : al) : Option Int := if i.aO = 24 then some i.fA else if i.aO = 25 ∨ i.aO = 32 then some i.fB else none
theorem WX (i : al) : FR i = some (match gb i with | some x => (x, true) | none => (0, false)) := by
 unfold FR V0 Nn VZ gb
 by_cases OA : i.aO = 24
 · simp [OA]
 · by_cases WY : i.aO = 25
   · simp [OA, WY]
   · by_cases h32 : i.aO = 32 <;> simp [OA, WY, h32]
theorem WZ (n : Nat) (i : al) (ho : isOp i.aO = true) : vg (n + 4) i = some (gb i).toList := by
 unfold vg xo gb
 rcases Ah ho with h | h | h | h | h | h | h | h | h | h | h | h | h | h | h | h | h | h | h | h | h | h | h | h | h | h | h | h | h | h | h | h | h | h <;> rw [h] <;> rfl
theorem W0 (N : Nat) (l : List ax) (f : ax → Option Bool) (p : ax → Bool) (hf : ∀ a, f a = some (p a)) (hl : l.length < 1000000) (hN : l.length < N) : xv N l f = some (lg p l 0) := by
 unfold xv
 rw [← B4]
 exact q9 l (fun n y => xu N (l.length : Int) l f n y) _ _ hl (fun n y a hy ha => by
  show (bif decide (y < (l.length : Int)) then ((ix l y).bind fun dZ => (f dZ).bind fun dK => bif dK then some y else xu N (l.length : Int) l f n (bD .i64 (y + 1))) else some (-1)) = _
  rw [decide_eq_true hy, ha]
  show ((f a).bind _) = _
  rw [hf]
  cases p a <;> rfl) (fun n => by
  show (bif decide ((l.length : Int) < (l.length : Int)) then _ else some (-1)) = _
  rw [decide_eq_false (Int.lt_irrefl _)]; rfl) N 0 (Nat.zero_le _) (by omega)
theorem aiy (N : Nat) (l : List Int) (f : Int → Option Bool) (p : Int → Bool) (hf : ∀ a, f a = some (p a)) (hl : l.length < 1000000) (hN : l.length < N) : Bd N l f = some (lg p l 0) := by
 unfold Bd
 rw [← B4]
 exact q9 l (fun n y => xq N (l.length : Int) l f n y) _ _ hl (fun n y a hy ha => by
  show (bif decide (y < (l.length : Int)) then ((ix l y).bind fun dZ => (f dZ).bind fun dK => bif dK then some y else xq N (l.length : Int) l f n (bD .i64 (y + 1))) else some (-1)) = _
  rw [decide_eq_true hy, ha]
  show ((f a).bind _) = _
  rw [hf]
  cases p a <;> rfl) (fun n => by
  show (bif decide ((l.length : Int) < (l.length : Int)) then _ else some (-1)) = _
  rw [decide_eq_false (Int.lt_irrefl _)]; rfl) N 0 (Nat.zero_le _) (by omega)
theorem Gq {α β : Type} (p : α → Bool) (b : β) (fin : Option β) : ∀ (l : List α) (y : Int), q8 (fun _ a => bif p a then none else some (some b)) fin l y = bif l.all p then fin else some b
 | [], _ => rfl
 | a :: r, y => by
  unfold q8
  rw [List.all_cons]
  cases p a with
  | false => rfl
  | true => exact Gq p b fin r (y + 1)
theorem OB {α : Type} (p : α → Bool) (l : List α) : decide (0 ≤ lg p l 0) = l.any p := by
 have key : ∀ (l : List α) (y : Int), 0 ≤ y → decide (0 ≤ lg p l y) = l.any p := by
  intro l
  induction l with
  | nil => intro y _; rfl
  | cons a r ih =>
   intro y hy
   unfold lg
   rw [List.any_cons]
   cases p a with
   | true => exact decide_eq_true hy
   | false => exact ih (y + 1) (by omega)
 exact key l 0 (Int.le_refl 0)
def oF (n : Int) (i : al) : Bool := isOp i.aO && (match gb i with | some x => decide (0 ≤ x ∧ x ≤ n - 1) | none => true)
def jY (n : Int) (g : ax) : Bool := decide (g.dJ < 0) || (decide (g.ed ≤ g.dJ) || (decide (n < g.ed) || !decide (0 ≤ g.dY ∧ g.dY ≤ n - 1)))
def jZ (u : ah) : Bool := decide (1 ≤ (u.ab.length : Int) ∧ (u.ab.length : Int) ≤ 600) && (!decide (40 < (u.ay.length : Int)) && (decide (0 ≤ u.aK ∧ u.aK ≤ 200) && (decide (0 ≤ u.aL ∧ u.aL ≤ 200) && (u.ab.all (oF u.ab.length) && !u.ay.any (jY u.ab.length)))))
theorem aiz (n : Int) (hn : bD .i64 (n - 1) = n - 1) (g : ax) : xy g n = some (jY n g) := by
 unfold xy Bg Bf jY
 rw [vx, hn]
 cases decide (g.dJ < 0) <;> cases decide (g.ed ≤ g.dJ) <;> cases decide (n < g.ed) <;> rfl
theorem aiA (N : Nat) (hN : 1000 ≤ N) (u : ah) (hl : u.ab.length ≤ 600) (hg : u.ay.length ≤ 40) : Bi N u (u.ab.length : Int) = some (u.ab.all (oF u.ab.length) && !u.ay.any (jY u.ab.length)) := by
 have hw : bD .i64 ((u.ab.length : Int) - 1) = (u.ab.length : Int) - 1 := lC (by omega) (by omega)
 have OC : xA N u (u.ab.length : Int) = some (!u.ay.any (jY u.ab.length)) := by
  unfold xA FM
  rw [W0 N u.ay _ (jY u.ab.length) (fun a => aiz _ hw a) (by omega) (by omega)]
  show some (!decide (0 ≤ lg (jY u.ab.length) u.ay 0)) = _
  rw [OB]
 obtain ⟨n, rfl⟩ : ∃ n, N = n + 4 := ⟨N - 4, by omega⟩
 unfold Bi
 have h := q9 u.ab (fun m y => Bh (n + 4) (u.ab.length : Int) u.ab (u.ab.length : Int) u m y) (fun _ a => bif oF u.ab.length a then none else some (some false)) (some (!u.ay.any (jY u.ab.length))) (by omega)
  (fun m y a hy ha => by
   show (bif decide (y < (u.ab.length : Int)) then ((ix u.ab y).bind fun iM => (some (cw iM.aO, isOp iM.aO)).bind fun fw => bif (!fw.2) then xz (n + 4) y true u _ else ((vg (n + 4) iM).bind fun FN => (Be (n + 4) FN (fun a0 => xx a0 (u.ab.length : Int))).bind fun qS => xz (n + 4) y qS u _)) else _) = _
   rw [decide_eq_true hy, ha]
   simp only [Option.bind_some, cond_true]
   unfold oF
   cases ho : isOp a.aO with
   | false => rfl
   | true =>
    rw [WZ n a ho]
    simp only [Option.bind_some, Bool.not_true, cond_false, Bool.true_and]
    unfold Be
    have hlen : (gb a).toList.length ≤ 1 := by cases gb a <;> simp
    rw [aiy (n + 4) _ _ (fun x => !decide (0 ≤ x ∧ x ≤ (u.ab.length : Int) - 1)) (fun x => by unfold xx; rw [vx, hw]; rfl) (by omega) (by omega)]
    simp only [Option.bind_some]
    rw [OB]
    cases gb a with
    | none => rfl
    | some x =>
     have e1 : ((some x).toList.any fun x => !decide (0 ≤ x ∧ x ≤ (u.ab.length : Int) - 1)) = !decide (0 ≤ x ∧ x ≤ (u.ab.length : Int) - 1) := by simp
     rw [e1]
     dsimp only
     by_cases hd : 0 ≤ x ∧ x ≤ (u.ab.length : Int) - 1
     · rw [decide_eq_true hd]; rfl
     · rw [decide_eq_false hd]; rfl)
  (fun m => by
   show (bif decide ((u.ab.length : Int) < (u.ab.length : Int)) then _ else xA (n + 4) u (u.ab.length : Int)) = _
   rw [decide_eq_false (Int.lt_irrefl _)]; exact OC) (n + 4) 0 (Nat.zero_le _) (by omega)
 refine h.trans ?_
 rw [List.drop_zero, Gq]
 cases u.ab.all (oF u.ab.length) <;> rfl
theorem Gr (N : Nat) (hN : 1000 ≤ N) (u : ah) : sY N u = some (jZ u) := by
 unfold sY jZ Bl Bk Bj
 rw [vx, vx, vx]
 by_cases h1 : 1 ≤ (u.ab.length : Int) ∧ (u.ab.length : Int) ≤ 600
 · rw [decide_eq_true h1]
   by_cases h2 : 40 < (u.ay.length : Int)
   · rw [decide_eq_true h2]; rfl
   · rw [decide_eq_false h2, aiA N hN u (by omega) (by omega)]
     cases decide (0 ≤ u.aK ∧ u.aK ≤ 200) <;> cases decide (0 ≤ u.aL ∧ u.aL ≤ 200) <;> rfl
 · rw [decide_eq_false h1]; rfl
theorem aiB (N : Nat) (hN : 1000 ≤ N) (u : ah) (hl : u.ab.length ≤ 600) (hg : u.ay.length ≤ 40) : Nu N (u.ab.length : Int) u = some (u.ab.all (oF u.ab.length) && !u.ay.any (jY u.ab.length)) := by
 have hw : bD .i64 ((u.ab.length : Int) - 1) = (u.ab.length : Int) - 1 := lC (by omega) (by omega)
 have OC : FW N u (u.ab.length : Int) = some (!u.ay.any (jY u.ab.length)) := by
  unfold FW
  have h := q9 u.ay (fun m y => Ns N u (u.ab.length : Int) m y) (fun _ a => bif !jY u.ab.length a then none else some (some false)) (some true) (by omega)
   (fun m y a hy ha => by
    show (bif decide (y < (u.ay.length : Int)) then ((ix u.ay y).bind fun ox => bif (decide (ox.dJ < 0)) then Bp N ox (u.ab.length : Int) y true u _ else Bp N ox (u.ab.length : Int) y (decide (ox.ed ≤ ox.dJ)) u _) else _) = _
    rw [decide_eq_true hy, ha]
    simp only [Option.bind_some, cond_true]
    unfold Bp Nr Nq jY
    rw [vy, hw]
    cases decide (a.dJ < 0) <;> cases decide (a.ed ≤ a.dJ) <;> cases decide ((u.ab.length : Int) < a.ed) <;> cases decide (0 ≤ a.dY ∧ a.dY ≤ (u.ab.length : Int) - 1) <;> rfl)
   (fun m => by
    show (bif decide ((u.ay.length : Int) < (u.ay.length : Int)) then _ else some true) = _
    rw [decide_eq_false (Int.lt_irrefl _)]; rfl) N 0 (Nat.zero_le _) (by omega)
  refine h.trans ?_
  rw [List.drop_zero, Gq]
  have : u.ay.all (fun a => !jY u.ab.length a) = !u.ay.any (jY u.ab.length) := by simp [List.all_eq_not_any_not]
  rw [this]
  cases u.ay.any (jY u.ab.length) <;> rfl
 unfold Nu
 have h := q9 u.ab (fun m y => Nt N (u.ab.length : Int) u m y) (fun _ a => bif oF u.ab.length a then none else some (some false)) (some (!u.ay.any (jY u.ab.length))) (by omega)
  (fun m y a hy ha => by
   show (bif decide (y < (u.ab.length : Int)) then Np N u y (u.ab.length : Int) _ else _) = _
   unfold Np
   rw [decide_eq_true hy, ha]
   simp only [Option.bind_some, cond_true, WV, WX, vy, hw]
   unfold FU oF
   cases isOp a.aO with
   | false => rfl
   | true =>
    cases gb a with
    | none => rfl
    | some x =>
     simp only [Bool.not_true, cond_false, cond_true, Bool.true_and]
     cases decide (0 ≤ x ∧ x ≤ (u.ab.length : Int) - 1) <;> rfl)
  (fun m => by
   show (bif decide ((u.ab.length : Int) < (u.ab.length : Int)) then _ else FW N u (u.ab.length : Int)) = _
   rw [decide_eq_false (Int.lt_irrefl _)]; exact OC) N 0 (Nat.zero_le _) (by omega)
 refine h.trans ?_
 rw [List.drop_zero, Gq]
 cases u.ab.all (oF u.ab.length) <;> rfl
theorem W1 (N : Nat) (hN : 1000 ≤ N) (u : ah) : FX N u = some (jZ u) := by
 unfold FX jZ Nx Nw Nv
 rw [vy, vy, vy]
 by_cases h1 : 1 ≤ (u.ab.length : Int) ∧ (u.ab.length : Int) ≤ 600
 · rw [decide_eq_true h1]
   by_cases h2 : 40 < (u.ay.length : Int)
   · rw [decide_eq_true h2]; rfl
   · rw [decide_eq_false h2, aiB N hN u (by omega) (by omega)]
     cases decide (0 ≤ u.aK ∧ u.aK ≤ 200) <;> cases decide (0 ≤ u.aL ∧ u.aL ≤ 200) <;> rfl
 · rw [decide_eq_false h1]; rfl
end
end Go.Ve.T
namespace Go.Ve.T
open Go.Ve
noncomputable section
theorem Xg {ρ : Type} (len : Nat) (I : Nat → Nat → Option ρ) (F : Option ρ) (step : ∀ n i, i < len → I (n + 1) i = I n (i + 1)) (stop : ∀ n, I (n + 1) len = F) : ∀ n i, i ≤ len → len < n + i → I n i = F
 | 0, i, h1, h2 => by omega
 | n + 1, i, h1, h2 => by
  by_cases hi : i < len
  · rw [step n i hi]; exact Xg len I F step stop n (i + 1) hi (by omega)
  · have : i = len := by omega
    subst this; exact stop n
theorem Gu (i : Nat) (h : i < 1000000) : bD .i64 ((i : Int) + 1) = ((i + 1 : Nat) : Int) := by rw [lC (by omega) (by omega)]; rfl
theorem Gt (i n : Nat) (h : i < n) : decide ((i : Int) < (n : Int)) = true := decide_eq_true (by omega)
theorem Gv (n : Nat) : decide ((n : Int) < (n : Int)) = false := decide_eq_false (Int.lt_irrefl _)
structure vA (u : ah) (bS : List Bool) : Prop where
 pl : jZ u = true
 len : bS.length = u.ab.length
theorem vA.n1 {u : ah} {bS : List Bool} (H : vA u bS) : 1 ≤ u.ab.length ∧ u.ab.length ≤ 600 ∧ u.ay.length ≤ 40 := by
 have := H.pl
 unfold jZ at this
 simp only [Bool.and_eq_true, decide_eq_true_eq, Bool.not_eq_true', decide_eq_false_iff_not] at this
 omega
theorem vA.jmp {u : ah} {bS : List Bool} (H : vA u bS) {i : Nat} {x : al} (hx : u.ab[i]? = some x) {p : Int} (hp : gb x = some p) : 0 ≤ p ∧ p < u.ab.length := by
 have := H.pl
 unfold jZ at this
 simp only [Bool.and_eq_true] at this
 have h := List.all_eq_true.1 this.2.2.2.2.1 x (List.mem_of_getElem? hx)
 unfold oF at h
 rw [hp] at h
 simp only [Bool.and_eq_true, decide_eq_true_eq] at h
 omega
theorem vA.ON {u : ah} {bS : List Bool} (H : vA u bS) {i : Nat} {g : ax} (hg : u.ay[i]? = some g) : 0 ≤ g.dJ ∧ g.dJ < g.ed ∧ g.ed ≤ u.ab.length ∧ 0 ≤ g.dY ∧ g.dY < u.ab.length := by
 have := H.pl
 unfold jZ at this
 simp only [Bool.and_eq_true, Bool.not_eq_true', List.any_eq_false] at this
 have h := this.2.2.2.2.2 g (List.mem_of_getElem? hg)
 unfold jY at h
 simp only [Bool.or_eq_true, decide_eq_true_eq, Bool.not_eq_true', decide_eq_false_iff_not, not_or, Decidable.not_not] at h
 omega
end
end Go.Ve.T
namespace Go.Ve.T
open Go.Ve
noncomputable section
structure eT (u : ah) : Prop where
 pl : jZ u = true
theorem eT.cut {u : ah} (H : eT u) : vA u (List.replicate u.ab.length true) := ⟨H.pl, by simp⟩
theorem eT.n1 {u : ah} (H : eT u) : 1 ≤ u.ab.length ∧ u.ab.length ≤ 600 ∧ u.ay.length ≤ 40 := H.cut.n1
theorem eT.jmp {u : ah} (H : eT u) {i : Nat} {x : al} (hx : u.ab[i]? = some x) {p : Int} (hp : gb x = some p) : 0 ≤ p ∧ p < u.ab.length := H.cut.jmp hx hp
theorem eT.ON {u : ah} (H : eT u) {i : Nat} {g : ax} (hg : u.ay[i]? = some g) : 0 ≤ g.dJ ∧ g.dJ < g.ed ∧ g.ed ≤ u.ab.length ∧ 0 ≤ g.dY ∧ g.dY < u.ab.length := H.cut.ON hg
theorem eT.op {u : ah} (H : eT u) {i : Nat} {x : al} (hx : u.ab[i]? = some x) : isOp x.aO = true := by
 have := H.pl
 unfold jZ at this
 simp only [Bool.and_eq_true] at this
 have h := List.all_eq_true.1 this.2.2.2.2.1 x (List.mem_of_getElem? hx)
 unfold oF at h
 exact (Bool.and_eq_true_iff.1 h).1
def lR (i : al) (k : Int) : Int := if k = 1 then i.fA else if k = 2 then i.fB else i.fC
def jC (i : al) : List Int :=
 (if 0 < (cw i.aO).cN.e0 ∧ lR i (cw i.aO).cN.e0 ≠ -1 then [lR i (cw i.aO).cN.e0] else []) ++ (if 0 < (cw i.aO).cN.e1 ∧ lR i (cw i.aO).cN.e1 ≠ -1 then [lR i (cw i.aO).cN.e1] else [])
def mr (i : al) : Int := if (cw i.aO).jj = 0 then -1 else lR i (cw i.aO).jj
theorem Xj (op : Int) : ((cw op).cN.e0 = 0 ∨ (cw op).cN.e0 = 1 ∨ (cw op).cN.e0 = 2 ∨ (cw op).cN.e0 = 3) ∧ ((cw op).cN.e1 = 0 ∨ (cw op).cN.e1 = 1 ∨ (cw op).cN.e1 = 2 ∨ (cw op).cN.e1 = 3) ∧ ((cw op).jj = 0 ∨ (cw op).jj = 1) ∧ (isOp op = false → cw op = Gp) := by
 cases h : isOp op with
 | true => rcases Ah h with h | h | h | h | h | h | h | h | h | h | h | h | h | h | h | h | h | h | h | h | h | h | h | h | h | h | h | h | h | h | h | h | h | h <;> rw [h] <;> refine ⟨by decide, by decide, by decide, fun hh => by cases hh⟩
 | false =>
  have e : cw op = Gp := by unfold cw; rw [h]; rfl
  rw [e]
  exact ⟨.inl rfl, .inl rfl, .inl rfl, fun _ => rfl⟩
theorem aiS (i : al) {k : Int} (hk : k = 1 ∨ k = 2 ∨ k = 3) : ix [i.fA, i.fB, i.fC] (bD .i64 (k - 1)) = some (lR i k) := by
 rcases hk with rfl | rfl | rfl <;> rfl
theorem aiT (i : al) : vf i = some ⟨i.fA, i.fB, i.fC⟩ := rfl
theorem Xk (N : Nat) (f : dU) (b : Bool) (i : al) (l : List Int) (y : Int) (k : Int) (K : List Int → Int → Option (List Int)) (hl : l.length ≤ 2) (hy : ix [f.e0, f.e1] y = some k) (hk : k = 0 ∨ k = 1 ∨ k = 2 ∨ k = 3) :
 vn N f y b i l K = K (l ++ (if b = true ∧ 0 < k ∧ lR i k ≠ -1 then [lR i k] else [])) (bD .i64 (y + 1)) := by
 unfold vn Bt Bs Br
 rw [hy, Option.bind_some]
 have gl : ∀ o : Option (List Int), gu (decide (l.length + [lR i k].length ≤ 1048576)) o = o := fun o => by rw [decide_eq_true (by simp; omega)]; rfl
 cases b with
 | false => simp
 | true =>
  rcases hk with rfl | hk
  · simp
  · have h0 : decide (0 < k) = true := decide_eq_true (by omega)
    rw [h0, aiT]
    simp only [cond_true, Option.bind_some, aiS i hk, cond_false, gl]
    by_cases h1 : lR i k = -1
    · rw [decide_eq_true h1]; simp [h1]
    · rw [decide_eq_false h1]; simp [h1, show 0 < k by omega]
theorem Xc (N : Nat) (hN : 1000 ≤ N) (i : al) : xe N i = some (jC i) := by
 obtain ⟨n, rfl⟩ : ∃ n, N = n + 4 := ⟨N - 4, by omega⟩
 obtain ⟨h0, h1, _, hF⟩ := Xj i.aO
 unfold xe
 show Bu (n + 4) (cw i.aO).cN (isOp i.aO) i (n + 4) [] 0 = _
 show vn (n + 4) _ 0 _ i [] _ = _
 rw [Xk (n + 4) _ _ i [] 0 _ _ (by simp) rfl h0]
 show vn (n + 4) _ 1 _ i _ _ = _
 rw [Xk (n + 4) _ _ i _ 1 _ _ (by split <;> simp) rfl h1]
 show some _ = _
 unfold jC
 cases hb : isOp i.aO with
 | true => simp
 | false => rw [hF hb]; rfl
theorem Xb (i : al) : uO i = some (mr i) := by
 obtain ⟨_, _, hw, _⟩ := Xj i.aO
 unfold uO mr
 show (bif decide ((cw i.aO).jj = 0) then some (-1) else Bv i (cw i.aO)) = _
 rcases hw with h | h
 · rw [h]; rfl
 · unfold Bv
   rw [h]; rfl
def fy (l : List ax) (at_ : Int) : Int := lg (fun d => decide (d.dJ ≤ at_ ∧ at_ < d.ed)) l 0
theorem Xl (N : Nat) (u : ah) (at_ : Int) (hl : u.ay.length < 1000000) (hN : u.ay.length < N) : xE N u at_ = some (fy u.ay at_) := by
 unfold xE
 rw [W0 N u.ay _ (fun d => decide (d.dJ ≤ at_ ∧ at_ < d.ed)) (fun d => by unfold Bq; by_cases h : d.dJ ≤ at_ <;> simp [h]) hl hN]; rfl
theorem Xm (N : Nat) (u : ah) (at_ : Int) (hl : u.ay.length < 1000000) (hN : u.ay.length < N) : FZ N u at_ = some (fy u.ay at_) := by
 unfold FZ fy
 rw [← B4]
 exact q9 u.ay (fun n y => Bx N u at_ n y) _ _ hl (fun n y a hy ha => by
  show (bif decide (y < (u.ay.length : Int)) then ((ix u.ay y).bind fun aJ => bif decide (aJ.dJ ≤ at_) then ((ix u.ay y).bind fun Bo => bif decide (at_ < Bo.ed) then some y else Bx N u at_ n (bD .i64 (y + 1))) else (bif false then some y else Bx N u at_ n (bD .i64 (y + 1)))) else some (-1)) = _
  rw [decide_eq_true hy, ha]
  by_cases h1 : a.dJ ≤ at_ <;> by_cases h2 : at_ < a.ed <;> simp [h1, h2]) (fun n => by
  show (bif decide ((u.ay.length : Int) < (u.ay.length : Int)) then _ else some (-1)) = _
  rw [decide_eq_false (Int.lt_irrefl _)]; rfl) N 0 (Nat.zero_le _) (by omega)
abbrev kD (op : Int) : Bool := (cw op).jA
theorem aiU (i : al) : NI i = some (kD i.aO) := by
 unfold NI NH NG
 cases h : isOp i.aO with
 | true => rcases Ah h with h | h | h | h | h | h | h | h | h | h | h | h | h | h | h | h | h | h | h | h | h | h | h | h | h | h | h | h | h | h | h | h | h | h <;> rw [h] <;> rfl
 | false =>
  have hh : ∀ k : Int, 1 ≤ k → k ≤ 34 → decide (i.aO = k) = false := fun k h1 h2 => decide_eq_false fun e => by rw [e] at h; unfold isOp at h; rw [decide_eq_false_iff_not] at h; omega
  have e : kD i.aO = false := by unfold kD cw; rw [h]; rfl
  rw [e, hh 24 (by omega) (by omega), hh 26 (by omega) (by omega), hh 27 (by omega) (by omega), hh 28 (by omega) (by omega)]
  rfl
abbrev j0 (i : al) : Bool := (cw i.aO).jk
theorem Xi (i : al) : xb i = some (j0 i) := by
 unfold xb
 rw [WV]
 show some (B3 i.aO).pE = _
 unfold B3 j0 cw
 cases isOp i.aO <;> rfl
theorem OL {l : List ax} {y : Int} (h : 0 ≤ fy l y) : ∃ d, ix l (fy l y) = some d ∧ d ∈ l := by
 unfold fy at *
 rcases WW (fun d : ax => decide (d.dJ ≤ y ∧ y < d.ed)) l 0 (Int.le_refl 0) with e | ⟨k, a, h1, _, h3⟩
 · rw [e] at h; omega
 · refine ⟨a, ?_, List.mem_of_getElem? h1⟩
   rw [h3, Int.zero_add, jU]; exact h1
def jo (u : ah) (y : Nat) (i : al) : List (Int × Int) :=
 (if kD i.aO = false ∧ y + 1 < u.ab.length then [((y : Int) + 1, 0)] else []) ++ ((gb i).toList.map fun x => (x, 1)) ++ (if j0 i = true ∧ 0 ≤ fy u.ay y then ((ix u.ay (fy u.ay y)).toList.map fun d => (d.dY, 2)) else [])
theorem OH {u : ah} (U : eT u) (N : Nat) (hN : 1000 ≤ N) (y : Nat) (hy : y < u.ab.length) : ti N u (y : Int) = some (jo u y u.ab[y]) := by
  have hl := U.n1.2.1
  have hg := U.n1.2.2
  obtain ⟨n, rfl⟩ : ∃ n, N = n + 4 := ⟨N - 4, by omega⟩
  have ho := U.op (List.getElem?_eq_getElem hy)
  unfold ti jo
  rw [jU, List.getElem?_eq_getElem hy, Option.bind_some, WZ n _ ho, Option.bind_some, Xl (n + 4) u y (by omega) (by omega), Option.bind_some, lC (by omega) (by omega)]
  have hlen : decide ((gb u.ab[y]).toList.length ≤ 1000) = true := by cases gb u.ab[y] <;> simp
  rw [hlen]
  show (bif j0 u.ab[y] && decide (0 ≤ fy u.ay y) then _ else _) = _
  have e1 : (bif !(cw u.ab[y].aO).jA && decide ((y : Int) + 1 < (u.ab.length : Int)) then [((y : Int) + 1, (0 : Int))] else []) = (if kD u.ab[y].aO = false ∧ y + 1 < u.ab.length then [((y : Int) + 1, 0)] else []) := by
    by_cases h1 : kD u.ab[y].aO = false
    · have gg : (cw u.ab[y].aO).jA = false := h1
      by_cases h2 : y + 1 < u.ab.length
      · rw [if_pos ⟨h1, h2⟩, gg, decide_eq_true (by omega)]; rfl
      · rw [if_neg fun h => h2 h.2, gg, decide_eq_false (by omega)]; rfl
    · have gg : (cw u.ab[y].aO).jA = true := by cases h : (cw u.ab[y].aO).jA with
        | true => rfl
        | false => exact absurd h h1
      rw [if_neg fun h => h1 h.1, gg]; rfl
  rw [e1]
  generalize (if kD u.ab[y].aO = false ∧ y + 1 < u.ab.length then [((y : Int) + 1, (0 : Int))] else []) = L0
  by_cases hr : j0 u.ab[y] = true
  · by_cases hd : 0 ≤ fy u.ay y
    · obtain ⟨d, h1, _⟩ := OL hd
      rw [if_pos ⟨hr, hd⟩, hr, decide_eq_true hd, h1]; rfl
    · rw [if_neg fun h => hd h.2, hr, decide_eq_false hd, List.append_nil]; rfl
  · have nN : j0 u.ab[y] = false := by cases h : j0 u.ab[y] with
      | true => exact absurd h hr
      | false => rfl
    rw [if_neg fun h => hr h.1, nN, List.append_nil]; rfl
def re (u : ah) (y : Nat) (i : al) : List Int :=
 let l := if kD i.aO = false ∧ y + 1 < u.ab.length then [(y : Int) + 1] else []
 match gb i with
 | some x => if x ∈ l then l else l ++ [x]
 | none => l
theorem aiV (N : Nat) (hN : 1000 ≤ N) (l : List Int) (x : Int) (hl : l.length ≤ 1) : xF N l x = some (if x ∈ l then l else l ++ [x]) := by
 obtain ⟨n, rfl⟩ : ∃ n, N = n + 4 := ⟨N - 4, by omega⟩
 match l, hl with
 | [], _ => rfl
 | [a], _ =>
  show Bw (n + 4) [a] 0 x _ = _
  unfold Bw
  show (bif decide (a = x) then some [a] else some ([a] ++ [x])) = _
  by_cases e : a = x
  · subst e; rw [decide_eq_true rfl, if_pos (List.mem_singleton.2 rfl)]; rfl
  · rw [decide_eq_false e, if_neg fun h => e (List.mem_singleton.1 h).symm]; rfl
theorem aiW {u : ah} (U : eT u) (N : Nat) (hN : 1000 ≤ N) (y : Nat) (hy : y < u.ab.length) : NM N u (y : Int) = some (re u y u.ab[y]) := by
 have hl := U.n1.2.1
 have J1 : ∀ l : List Int, l.length ≤ 1 → FY N u.ab[y] l = some (match gb u.ab[y] with | some x => if x ∈ l then l else l ++ [x] | none => l) := fun l h => by
  unfold FY NK
  rw [WX, Option.bind_some]
  cases gb u.ab[y] with
  | none => rfl
  | some x =>
   show ((xF N l x).bind _) = _
   rw [aiV N hN l x h]; rfl
 unfold NM NL re
 rw [jU, List.getElem?_eq_getElem hy, Option.bind_some, aiU, Option.bind_some, lC (by omega) (by omega)]
 have gu1 : ∀ k : Option (List Int), gu (decide (([] : List Int).length + [(y : Int) + 1].length ≤ 1048576)) k = k := fun k => rfl
 rw [gu1]
 cases he : kD u.ab[y].aO with
 | true =>
  rw [if_neg fun h => by cases h.1]
  exact J1 [] (by simp)
 | false =>
  by_cases h2 : y + 1 < u.ab.length
  · rw [decide_eq_true (show (y : Int) + 1 < (u.ab.length : Int) by omega), if_pos ⟨rfl, h2⟩]
    exact J1 [(y : Int) + 1] (by simp)
  · rw [decide_eq_false (show ¬ (y : Int) + 1 < (u.ab.length : Int) by omega), if_neg fun h => h2 h.2]
    exact J1 [] (by simp)
end
end Go.Ve.T
namespace Go.Ve.T
open Go.Ve
noncomputable section
theorem aiX (N : Nat) (l : List Int) (x : Int) (hl : l.length < 1000000) (hN : l.length < N) : BC N l x = some (decide (x ∈ l)) := by
 have h : BB N l x = some (lg (fun a => decide (x = a)) l 0) := by
  unfold BB
  rw [← B4]
  exact q9 l (fun n y => BA N (l.length : Int) l x n y) _ _ hl (fun n y a hy ha => by
   show (bif decide (y < (l.length : Int)) then Bz N l y x _ else _) = _
   unfold Bz F4
   rw [decide_eq_true hy, ha]
   show (bif decide (x = a) then some y else _) = _
   cases decide (x = a) <;> rfl) (fun n => by
   show (bif decide ((l.length : Int) < (l.length : Int)) then _ else F5 N) = _
   rw [decide_eq_false (Int.lt_irrefl _)]; rfl) N 0 (Nat.zero_le _) (by omega)
 unfold BC
 rw [h, Option.bind_some, OB]
 congr 1
 rw [Bool.eq_iff_iff]
 simp
def mu (l : List Int) (x : Int) : List Int := if x ∈ l then l else l ++ [x]
theorem Xn (l : List Int) (x : Int) : (mu l x).length ≤ l.length + 1 := by unfold mu; split <;> simp
theorem aiY {l : List Int} {x y : Int} : y ∈ mu l x ↔ y ∈ l ∨ y = x := by
 unfold mu
 split
 · exact ⟨.inl, fun h => h.elim id fun e => e ▸ ‹_›⟩
 · simp
theorem aiZ (N : Nat) (l : List Int) (x : Int) (hl : l.length < 1000000) (hN : l.length < N) : xF N l x = some (mu l x) := by
 have key : ∀ (r : List Int) (y : Int), q8 (fun _ a => bif decide (a = x) then some (some l) else none) (some (l ++ [x])) r y = some (if x ∈ r then l else l ++ [x]) := by
  intro r
  induction r with
  | nil => intro y; rfl
  | cons a r ih =>
   intro y
   unfold q8
   by_cases e : a = x
   · rw [decide_eq_true e, if_pos (by rw [e]; exact List.mem_cons_self)]; rfl
   · rw [decide_eq_false e]
     refine (ih (y + 1)).trans ?_
     have : x ∈ a :: r ↔ x ∈ r := by rw [List.mem_cons]; exact ⟨fun h => h.resolve_left fun e' => e e'.symm, .inr⟩
     simp only [this]
 unfold xF
 refine (q9 l (fun n y => NJ N l x n y) (fun _ a => bif decide (a = x) then some (some l) else none) (some (l ++ [x])) hl (fun n y a hy ha => by
  show (bif decide (y < (l.length : Int)) then Bw N l y x _ else _) = _
  unfold Bw Wa
  rw [decide_eq_true hy, ha]
  show (bif decide (a = x) then some l else _) = _
  cases decide (a = x) <;> rfl) (fun n => by
  show (bif decide ((l.length : Int) < (l.length : Int)) then _ else Wb N x l) = _
  rw [decide_eq_false (Int.lt_irrefl _)]
  show gu (decide (l.length + [x].length ≤ 1048576)) _ = _
  rw [decide_eq_true (by simp; omega)]; rfl) N 0 (Nat.zero_le _) (by omega)).trans ?_
 rw [List.drop_zero, key]; rfl
def gX (u : ah) (y : Nat) (i : al) : List Int := ((jo u y i).map fun p => p.1).foldl mu []
theorem Xo {α σ : Type} (b : σ → α → Option (σ × Fl)) (f : σ → α → σ) (P : Nat → σ → Prop) (h : ∀ n s x, P (n + 1) s → b s x = some (f s x, .go) ∧ P n (f s x)) : ∀ (l : List α) (s : σ), P l.length s → oh b l s = some (l.foldl f s, .go)
 | [], s, _ => rfl
 | x :: l, s, hp => by
  obtain ⟨h1, h2⟩ := h l.length s x hp
  unfold oh
  rw [h1]
  exact Xo b f P h l (f s x) h2
theorem OO (u : ah) (y : Nat) (i : al) : (jo u y i).length ≤ 3 := by
 unfold jo
 simp only [List.length_append, List.length_map]
 have h1 : (if kD i.aO = false ∧ y + 1 < u.ab.length then [((y : Int) + 1, (0 : Int))] else []).length ≤ 1 := by split <;> simp
 have h2 : (gb i).toList.length ≤ 1 := by cases gb i <;> simp
 have h3 : (if j0 i = true ∧ 0 ≤ fy u.ay y then ((ix u.ay (fy u.ay y)).toList.map fun d => (d.dY, (2 : Int))) else []).length ≤ 1 := by
  split
  · rw [List.length_map]; cases ix u.ay (fy u.ay y) <;> simp
  · simp
 omega
theorem ai0 {u : ah} (U : eT u) (N : Nat) (hN : 1000 ≤ N) (y : Nat) (hy : y < u.ab.length) : BE N u (y : Int) = some (gX u y u.ab[y]) := by
 unfold BE
 rw [OH U N hN y hy, Option.bind_some]
 have hlen := OO u y u.ab[y]
 rw [Xo _ (fun s (x : Int × Int) => mu s x.1) (fun n s => s.length + n ≤ 100) (fun n s x hs => by
  refine ⟨?_, by have := Xn s x.1; omega⟩
  unfold BD
  rw [aiX N s x.1 (by omega) (by omega), Option.bind_some]
  unfold mu
  by_cases hm : x.1 ∈ s
  · rw [decide_eq_true hm, if_pos hm]; rfl
  · rw [decide_eq_false hm, if_neg hm]
    show gu (decide (s.length + [x.1].length ≤ 1048576)) _ = _
    rw [decide_eq_true (by simp; omega)]; rfl) _ _ (by simp; omega)]
 show some _ = _
 unfold gX
 rw [List.foldl_map]
theorem ai1 (u : ah) (y : Nat) (i : al) : gX u y i = if j0 i = true ∧ 0 ≤ fy u.ay y then (match ix u.ay (fy u.ay y) with | some d => mu (re u y i) d.dY | none => re u y i) else re u y i := by
 have hb : (((if kD i.aO = false ∧ y + 1 < u.ab.length then [((y : Int) + 1, (0 : Int))] else []) ++ ((gb i).toList.map fun x => (x, (1 : Int)))).map (fun p : Int × Int => p.1)).foldl mu [] = re u y i := by
  unfold re
  by_cases h : kD i.aO = false ∧ y + 1 < u.ab.length
  · rw [if_pos h, if_pos h]
    cases gb i with
    | none => rfl
    | some x => rfl
  · rw [if_neg h, if_neg h]
    cases gb i with
    | none => rfl
    | some x => rfl
 unfold gX jo
 rw [List.map_append, List.foldl_append, hb]
 by_cases h : j0 i = true ∧ 0 ≤ fy u.ay y
 · rw [if_pos h, if_pos h]
   cases ix u.ay (fy u.ay y) <;> rfl
 · rw [if_neg h, if_neg h]; rfl
theorem ai2 (u : ah) (y : Nat) (i : al) : (re u y i).length ≤ 2 := by
 unfold re
 by_cases h : kD i.aO = false ∧ y + 1 < u.ab.length
 · rw [if_pos h]
   cases gb i with
   | none => simp
   | some x => show (if x ∈ [(y : Int) + 1] then [(y : Int) + 1] else [(y : Int) + 1] ++ [x]).length ≤ 2; split <;> simp
 · rw [if_neg h]
   cases gb i with
   | none => simp
   | some x => show (if x ∈ ([] : List Int) then [] else [] ++ [x]).length ≤ 2; split <;> simp
theorem ai3 {u : ah} (U : eT u) (N : Nat) (hN : 1000 ≤ N) (y : Nat) (hy : y < u.ab.length) : NP N u (y : Int) = some (gX u y u.ab[y]) := by
 have hg := U.n1.2.2
 have hb := ai2 u y u.ab[y]
 unfold NP NO NN
 rw [aiW U N hN y hy, Option.bind_some, Xm N u y (by omega) (by omega), Option.bind_some, jU, List.getElem?_eq_getElem hy, Option.bind_some, Xi, Option.bind_some, ai1]
 cases hr : j0 u.ab[y] with
 | false => rw [if_neg fun h => by cases h.1]; rfl
 | true =>
  by_cases hd : 0 ≤ fy u.ay y
  · obtain ⟨d, h1, _⟩ := OL hd
    rw [decide_eq_true hd, if_pos ⟨rfl, hd⟩, h1]
    simp only [cond_true, Option.bind_some]
    rw [aiZ N _ _ (by omega) (by omega)]; rfl
  · rw [decide_eq_false hd, if_neg fun h => hd h.2]; rfl
def xW (u : ah) (x : Int) : Bool := decide (0 ≤ x ∧ x ≤ (u.ab.length : Int) - 1)
def B5 (u : ah) (x : Int) : List Int := bif jZ u && xW u x then (match u.ab[x.toNat]? with | some i => gX u x.toNat i | none => []) else []
theorem aiM (N : Nat) (hN : 1000 ≤ N) (u : ah) (x : Int) : Au N u x = some (B5 u x) ∧ Wg N u x = some (B5 u x) := by
 unfold Au Wg B5
 rw [Gr N hN, W1 N hN, Option.bind_some, Option.bind_some]
 cases hp : jZ u with
 | false => exact ⟨rfl, rfl⟩
 | true =>
  have U : eT u := ⟨hp⟩
  have hn := U.n1
  simp only [Bool.not_true, cond_false, Bool.true_and]
  rw [vx, vy, lC (by omega) (by omega), Option.bind_some, Option.bind_some]
  unfold xW BF NQ Wf
  by_cases hx : 0 ≤ x ∧ x ≤ (u.ab.length : Int) - 1
  · rw [decide_eq_true hx]
    obtain ⟨y, rfl⟩ := Int.eq_ofNat_of_zero_le hx.1
    have hy : y < u.ab.length := by omega
    simp only [Bool.not_true, cond_false, cond_true, Int.toNat_natCast, List.getElem?_eq_getElem hy]
    rw [ai0 U N hN y hy, ai3 U N hN y hy]
    exact ⟨rfl, rfl⟩
  · rw [decide_eq_false hx]; exact ⟨rfl, rfl⟩
def B6 (u : ah) (x : Int) : Int := bif jZ u && xW u x then fy u.ay x else -1
theorem aiO (N : Nat) (hN : 1000 ≤ N) (u : ah) (x : Int) : As N u x = some (B6 u x) ∧ Wi N u x = some (B6 u x) := by
 unfold As Wi B6
 rw [Gr N hN, W1 N hN, Option.bind_some, Option.bind_some]
 cases hp : jZ u with
 | false => exact ⟨rfl, rfl⟩
 | true =>
  have U : eT u := ⟨hp⟩
  have hn := U.n1
  simp only [Bool.not_true, cond_false, Bool.true_and]
  rw [vx, vy, lC (by omega) (by omega), Option.bind_some, Option.bind_some]
  unfold xW By NR F0 Wh
  rw [Xl N u x (by omega) (by omega), Xm N u x (by omega) (by omega)]
  cases decide (0 ≤ x ∧ x ≤ (u.ab.length : Int) - 1) <;> exact ⟨rfl, rfl⟩
end
end Go.Ve.T
namespace Go.Ve.T
open Go.Ve
open Classical
noncomputable section
theorem Xp {y : Int} : ∀ {l s : List Int}, y ∈ l.foldl mu s ↔ y ∈ s ∨ y ∈ l
 | [], s => by simp
 | x :: l, s => by
  rw [List.foldl_cons, Xp, aiY, List.mem_cons]
  constructor
  · rintro ((h | h) | h) <;> simp [h]
  · rintro (h | h | h) <;> simp [h]
theorem B7 {u : ah} {y : Nat} {i : al} {x : Int} : x ∈ gX u y i ↔ ∃ k, (x, k) ∈ jo u y i := by
 unfold gX
 rw [Xp]
 constructor
 · rintro (h | h)
   · cases h
   · obtain ⟨p, h1, rfl⟩ := List.mem_map.1 h
     exact ⟨p.2, h1⟩
 · rintro ⟨k, h⟩
   exact .inr (List.mem_map.2 ⟨_, h, rfl⟩)
theorem Gs {u : ah} (U : eT u) {y : Nat} {i : al} (hi : u.ab[y]? = some i) {p : Int × Int} (h : p ∈ jo u y i) : 0 ≤ p.1 ∧ p.1 < u.ab.length := by
 have hy := (List.getElem?_eq_some_iff.1 hi).1
 unfold jo at h
 rcases List.mem_append.1 h with h | h
 · rcases List.mem_append.1 h with h | h
   · split at h
     · have := List.mem_singleton.1 h; subst this
       have := ‹kD i.aO = false ∧ y + 1 < u.ab.length›.2
       exact ⟨by show 0 ≤ (y : Int) + 1; omega, by show (y : Int) + 1 < _; omega⟩
     · cases h
   · obtain ⟨x, h1, rfl⟩ := List.mem_map.1 h
     exact U.jmp hi (by simpa using h1)
 · split at h
   · obtain ⟨d, h1, rfl⟩ := List.mem_map.1 h
     have h2 : ix u.ay (fy u.ay y) = some d := by simpa using h1
     obtain ⟨k, _, _, h3⟩ := FD h2
     have := U.ON h3
     exact ⟨this.2.2.2.1, this.2.2.2.2⟩
   · cases h
theorem aiP {u : ah} (U : eT u) {y : Nat} {i : al} (hi : u.ab[y]? = some i) {x : Int} (h : x ∈ gX u y i) : 0 ≤ x ∧ x < u.ab.length := by
 obtain ⟨k, h⟩ := B7.1 h
 exact Gs U hi h
inductive vB (u : ah) : Nat → Prop where
 | zero : vB u 0
 | step {a b : Nat} {i : al} (h : vB u a) (hi : u.ab[a]? = some i) (hb : (b : Int) ∈ gX u a i) : vB u b
def Gy (u : ah) : List Bool := (List.range u.ab.length).map fun i => decide (vB u i)
structure Fin (u : ah) (v : List Bool) : Prop where
 len : v.length = u.ab.length
 sound : ∀ i, v[i]? = some true → vB u i
 zero : v[0]? = some true
 closed : ∀ (a b : Nat) i, v[a]? = some true → u.ab[a]? = some i → (b : Int) ∈ gX u a i → v[b]? = some true
theorem Fin.eq {u : ah} {v : List Bool} (H : Fin u v) : v = Gy u := by
 have hr : ∀ i, vB u i → v[i]? = some true := by
  intro i h
  induction h with
  | zero => exact H.zero
  | step h hi hb ih => exact H.closed _ _ _ ih hi hb
 refine List.ext_getElem? fun i => ?_
 unfold Gy
 rw [List.getElem?_map]
 by_cases hi : i < u.ab.length
 · have mF : i < v.length := by rw [H.len]; exact hi
   rw [List.getElem?_range hi, List.getElem?_eq_getElem mF]
   show some _ = some _
   congr 1
   have e : v[i]? = some v[i] := List.getElem?_eq_getElem mF
   cases hv : v[i] with
   | true => exact (decide_eq_true (H.sound i (by rw [e, hv]))).symm
   | false => exact (decide_eq_false fun h => by have := hr i h; rw [e, hv] at this; cases this).symm
 · rw [List.getElem?_eq_none (by rw [H.len]; omega), List.getElem?_eq_none (by simp; omega)]; rfl
def lh (v : List Bool) : Nat := v.count false
theorem OP : ∀ {v : List Bool} {k : Nat}, v[k]? = some false → lh (v.set k true) + 1 = lh v
 | [], k, h => by simp at h
 | b :: v, 0, h => by
  have : b = false := by simpa using h
  subst this
  simp [lh]
 | b :: v, k + 1, h => by
  have := OP (v := v) (k := k) (by simpa using h)
  unfold lh at this ⊢
  rw [List.set_cons_succ, List.count_cons, List.count_cons]
  omega
theorem cQ {v : List Bool} {k j : Nat} (hk : k < v.length) : (v.set k true)[j]? = some true ↔ v[j]? = some true ∨ j = k := by
 rw [List.getElem?_set]
 by_cases e : k = j
 · subst e; simp [hk]
 · rw [if_neg e]
   exact ⟨.inl, fun h => h.resolve_right fun e' => e e'.symm⟩
theorem Xq {v : List Bool} {k : Nat} (hk : k < v.length) (h : v[k]? ≠ some true) : v[k]? = some false := by
 rw [List.getElem?_eq_getElem hk] at h ⊢
 cases hv : v[k] with
 | true => rw [hv] at h; exact absurd rfl h
 | false => rfl
def mark (s : List Bool × List Int) (x : Int) : List Bool × List Int := if s.1[x.toNat]? = some true then s else (s.1.set x.toNat true, s.2 ++ [x])
structure MF (n : Nat) (v0 : List Bool) (o0 xs : List Int) (s : List Bool × List Int) : Prop where
 len : s.1.length = n
 iff : ∀ j : Nat, s.1[j]? = some true ↔ v0[j]? = some true ∨ (j : Int) ∈ xs
 sub : ∀ z ∈ o0, z ∈ s.2
 op : ∀ z ∈ s.2, z ∈ o0 ∨ z ∈ xs
 new : ∀ j : Nat, s.1[j]? = some true → v0[j]? = some true ∨ (j : Int) ∈ s.2
 OQ : s.2.length + lh s.1 = o0.length + lh v0
theorem Xr {n : Nat} {v0 : List Bool} {o0 : List Int} : ∀ (xs done : List Int) (s : List Bool × List Int), MF n v0 o0 done s → (∀ x ∈ xs, 0 ≤ x ∧ x < n) → MF n v0 o0 (done ++ xs) (xs.foldl mark s)
  | [], done, s, H, _ => by rw [List.append_nil]; exact H
  | x :: xs, done, s, H, hx => by
    have hx0 := hx x List.mem_cons_self
    obtain ⟨k, rfl⟩ := Int.eq_ofNat_of_zero_le hx0.1
    have hk : k < s.1.length := by rw [H.len]; omega
    have H2 : MF n v0 o0 (done ++ [(k : Int)]) (mark s (k : Int)) := by
      unfold mark
      rw [Int.toNat_natCast]
      by_cases h : s.1[k]? = some true
      · rw [if_pos h]
        refine ⟨H.len, fun j => ?_, H.sub, fun z hz => ?_, H.new, H.OQ⟩
        · rw [H.iff j, List.mem_append]
          constructor
          · rintro (h | h) <;> simp [h]
          · rintro (h' | h' | h')
            · exact .inl h'
            · exact .inr h'
            · have : (j : Int) = (k : Int) := by simpa using h'
              have : j = k := by omega
              subst this; exact (H.iff j).1 h
        · rcases H.op z hz with h | h
          · exact .inl h
          · exact .inr (List.mem_append_left _ h)
      · rw [if_neg h]
        refine ⟨by simpa using H.len, fun j => ?_, fun z hz => List.mem_append_left _ (H.sub z hz), fun z hz => ?_, fun j hj => ?_, ?_⟩
        · show (s.1.set k true)[j]? = some true ↔ _
          rw [cQ hk, H.iff j, List.mem_append]
          constructor
          · rintro ((h | h) | h)
            · exact .inl h
            · exact .inr (.inl h)
            · subst h; exact .inr (.inr (by simp))
          · rintro (h | h | h)
            · exact .inl (.inl h)
            · exact .inl (.inr h)
            · exact .inr (by have : (j : Int) = (k : Int) := by simpa using h
                             omega)
        · rcases List.mem_append.1 hz with hz | hz
          · rcases H.op z hz with h | h
            · exact .inl h
            · exact .inr (List.mem_append_left _ h)
          · exact .inr (List.mem_append_right _ hz)
        · rcases (cQ hk).1 hj with h | h
          · rcases H.new j h with h | h
            · exact .inl h
            · exact .inr (List.mem_append_left _ h)
          · subst h; exact .inr (List.mem_append_right _ (by simp))
        · have := OP (Xq hk h)
          have := H.OQ
          show (s.2 ++ [(k : Int)]).length + lh (s.1.set k true) = _
          rw [List.length_append]
          simp
          omega
    have := Xr xs (done ++ [(k : Int)]) (mark s k) H2 fun y hy => hx y (List.mem_cons_of_mem _ hy)
    rwa [List.append_assoc] at this
theorem OI {α σ : Type} (b : σ → α → Option (σ × Fl)) (f : σ → α → σ) (l0 : List α) (P : Nat → σ → Prop) (h : ∀ n s x, x ∈ l0 → P (n + 1) s → b s x = some (f s x, .go) ∧ P n (f s x)) : ∀ (l : List α) (s : σ), (∀ x ∈ l, x ∈ l0) → P l.length s → oh b l s = some (l.foldl f s, .go)
 | [], s, _, _ => rfl
 | x :: l, s, hm, hp => by
  obtain ⟨h1, h2⟩ := h l.length s x (hm x List.mem_cons_self) hp
  unfold oh
  rw [h1]
  exact OI b f l0 P h l (f s x) (fun y hy => hm y (List.mem_cons_of_mem _ hy)) h2
structure Wk (u : ah) (op : List Int) (v : List Bool) : Prop where
 len : v.length = u.ab.length
 sound : ∀ i, v[i]? = some true → vB u i
 zero : v[0]? = some true
 ops : ∀ z ∈ op, 0 ≤ z ∧ z < u.ab.length ∧ v[z.toNat]? = some true
 closed : ∀ (a b : Nat) i, v[a]? = some true → (a : Int) ∉ op → u.ab[a]? = some i → (b : Int) ∈ gX u a i → v[b]? = some true
theorem ai4 {u : ah} (U : eT u) (N : Nat) (hN : 1000 ≤ N) {p : List Int} {c : Int} {v3 v : List Bool} (H : Wk u (p ++ [c]) v) (hlen : (p ++ [c]).length + lh v ≤ 700) (K : List Int → List Bool → List Bool → Option (List Bool)) :
    ∃ B8 v', xJ N (p ++ [c]) u (fun a0 a1 a2 => tn a0 a1 a2) v3 v K = K B8 v3 v' ∧ Wk u B8 v' ∧ B8.length + lh v' + 1 = (p ++ [c]).length + lh v := by
  obtain ⟨hc1, wF, Xs⟩ := H.ops c (by simp)
  obtain ⟨y, rfl⟩ := Int.eq_ofNat_of_zero_le hc1
  have hy : y < u.ab.length := by omega
  have hi : u.ab[y]? = some u.ab[y] := List.getElem?_eq_getElem hy
  rw [Int.toNat_natCast] at Xs
  have I6 := OO u y u.ab[y]
  have jK : (p ++ [(y : Int)]).length = p.length + 1 := by simp
  generalize ju : (jo u y u.ab[y]).map (fun q : Int × Int => q.1) = xs
  have Xt : ∀ x ∈ xs, 0 ≤ x ∧ x < (u.ab.length : Nat) := fun x hx => by
    subst ju
    obtain ⟨q, h1, rfl⟩ := List.mem_map.1 hx
    exact Gs U hi h1
  have F : MF u.ab.length v p ([] ++ xs) (xs.foldl mark (v, p)) := Xr xs [] (v, p) ⟨H.len, fun j => by simp, fun z hz => hz, fun z hz => .inl hz, fun j hj => .inl hj, rfl⟩ Xt
  rw [List.nil_append] at F
  refine ⟨(xs.foldl mark (v, p)).2, (xs.foldl mark (v, p)).1, ?_, ⟨F.len, fun i hv => ?_, (F.iff 0).2 (.inl H.zero), fun z hz => ?_, fun a b i ha Gz dE hb => ?_⟩, ?_⟩
  · unfold xJ
    have e1 : bD .i64 (((p ++ [(y : Int)]).length : Int) - 1) = (p.length : Int) := by rw [lC (by omega) (by omega), jK]; omega
    have e2 : ix (p ++ [(y : Int)]) (p.length : Int) = some (y : Int) := by rw [jU]; simp
    have e3 : AW (p ++ [(y : Int)]) 0 (p.length : Int) = some p := by
      unfold AW
      rw [decide_eq_true (show (0 : Int) ≤ 0 by omega), decide_eq_true (show (0 : Int) ≤ (p.length : Int) by omega), decide_eq_true (show (p.length : Int) ≤ ((p ++ [(y : Int)]).length : Int) by rw [jK]; omega)]
      simp [gu]
    rw [e1, e2, Option.bind_some, e3, Option.bind_some, OH U N hN y hy, Option.bind_some]
    rw [OI _ (fun (s : List Bool × List Bool × List Int) (x : Int × Int) => (s.1, mark s.2 x.1)) (jo u y u.ab[y]) (fun n s => s.2.1.length = u.ab.length ∧ s.2.2.length + n ≤ 1000) (fun n s x hx hs => by
      obtain ⟨h1, h2⟩ := Gs U hi hx
      obtain ⟨k, hk⟩ := Int.eq_ofNat_of_zero_le h1
      rw [hk] at h2
      have Jh : k < s.2.1.length := by rw [hs.1]; omega
      unfold BI tn F8 mark
      rw [hk]
      simp only [Option.bind_some, Bool.not_true, cond_false, jU, Int.toNat_natCast]
      by_cases hv : s.2.1[k]? = some true
      · rw [hv, if_pos rfl]; exact ⟨rfl, hs.1, by omega⟩
      · have hf := Xq Jh hv
        rw [if_neg hv, hf]
        simp only [Option.bind_some, Bool.not_false, cond_true]
        rw [decide_eq_true (show s.2.2.length + [(k : Int)].length ≤ 1048576 by simp; omega)]
        exact ⟨rfl, by simpa using hs.1, by show (s.2.2 ++ [(k : Int)]).length + n ≤ 1000; rw [List.length_append]; simp; omega⟩) _ _ (fun x hx => hx) ⟨H.len, by show p.length + _ ≤ 1000; omega⟩]
    have e4 : ∀ (l : List (Int × Int)) (s : List Bool × List Bool × List Int), l.foldl (fun (s : List Bool × List Bool × List Int) (x : Int × Int) => (s.1, mark s.2 x.1)) s = (s.1, (l.map fun q : Int × Int => q.1).foldl mark s.2) := by
      intro l
      induction l with
      | nil => intro s; rfl
      | cons x l ih => intro s; rw [List.foldl_cons, ih]; rfl
    rw [e4, ju]
    rfl
  · rcases (F.iff i).1 hv with h | h
    · exact H.sound i h
    · exact .step (H.sound y Xs) hi (B7.2 (by
        subst ju
        obtain ⟨q, h1, h2⟩ := List.mem_map.1 h
        exact ⟨q.2, by rw [← h2]; exact h1⟩))
  · rcases F.op z hz with h | h
    · obtain ⟨h1, h2, h3⟩ := H.ops z (List.mem_append_left _ h)
      exact ⟨h1, h2, (F.iff _).2 (.inl h3)⟩
    · have h1 := Xt z h
      exact ⟨h1.1, h1.2, (F.iff _).2 (.inr (by rw [Int.toNat_of_nonneg h1.1]; exact h))⟩
  · rcases F.new a ha with h | h
    · by_cases Xu : (a : Int) ∈ p ++ [(y : Int)]
      · rcases List.mem_append.1 Xu with h' | h'
        · exact absurd (F.sub _ h') Gz
        · have : (a : Int) = (y : Int) := by simpa using h'
          have : a = y := by omega
          subst this
          rw [hi] at dE; cases dE
          refine (F.iff b).2 (.inr ?_)
          obtain ⟨k, hk⟩ := B7.1 hb
          subst ju
          exact List.mem_map.2 ⟨_, hk, rfl⟩
      · exact (F.iff b).2 (.inl (H.closed a b i h Xu dE hb))
    · exact absurd h Gz
  · have := F.OQ
    rw [jK]
    show (xs.foldl mark (v, p)).2.length + lh (xs.foldl mark (v, p)).1 + 1 = _
    omega
theorem Xv {u : ah} (U : eT u) (N : Nat) (hN : 1000 ≤ N) : ∀ (n : Nat) (op : List Int) (v3 v : List Bool), Wk u op v → op.length + lh v < n → op.length + lh v ≤ 700 → xK N u (fun a0 a1 a2 => tn a0 a1 a2) n op v3 v = some (Gy u)
 | 0, op, v3, v, H, h, _ => by omega
 | n + 1, op, v3, v, H, h, h7 => by
  show BJ N op u _ v3 v _ = _
  unfold BJ F9
  rcases List.eq_nil_or_concat op with rfl | ⟨p, c, rfl⟩
  · show some v = _
    rw [Fin.eq ⟨H.len, H.sound, H.zero, fun a b i ha dE hb => H.closed a b i ha (by simp) dE hb⟩]
  · rw [List.concat_eq_append] at H h h7 ⊢
    have e : (p ++ [c]).length = p.length + 1 := by simp
    rw [decide_eq_true (show 0 < ((p ++ [c]).length : Int) by omega)]
    obtain ⟨B8, v', h1, h2, h3⟩ := ai4 U N hN H (v3 := v3) h7 (fun gL la lb => xK N u (fun a0 a1 a2 => tn a0 a1 a2) n gL la lb)
    show xJ N _ u _ v3 v _ = _
    rw [h1]
    exact Xv U N hN n B8 v3 v' h2 (by omega) (by omega)
theorem ai5 (n : Nat) (hn : 1 ≤ n) (i : Nat) : ((List.replicate n false).set 0 true)[i]? = some true ↔ i = 0 := by
 rw [cQ (by rw [List.length_replicate]; omega)]
 constructor
 · rintro (h | h)
   · rw [List.getElem?_replicate] at h; split at h <;> cases h
   · exact h
 · exact .inr
theorem ai6 (n : Nat) (hn : 1 ≤ n) : lh ((List.replicate n false).set 0 true) + 1 = n := by
 rw [OP (by rw [List.getElem?_replicate, if_pos (by omega)])]
 simp [lh]
def OM (u : ah) : List Bool := bif jZ u then Gy u else []
theorem aiR (N : Nat) (hN : 1000 ≤ N) (u : ah) : Ap N u = some (OM u) := by
 unfold Ap OM
 rw [Gr N hN, Option.bind_some]
 cases hp : jZ u with
 | false => rfl
 | true =>
  have U : eT u := ⟨hp⟩
  have hn := U.n1
  show ((BK N u _).bind _) = _
  unfold BK
  rw [decide_eq_true (show (0 : Int) ≤ (u.ab.length : Int) by omega), decide_eq_true (show (u.ab.length : Int) ≤ 65536 by omega)]
  have e0 : ix (List.replicate (u.ab.length : Int).toNat false) 0 = some false := by
   show (List.replicate (u.ab.length : Int).toNat false)[0]? = _
   rw [Int.toNat_natCast, List.getElem?_replicate, if_pos (by omega)]
  show ((ix (List.replicate (u.ab.length : Int).toNat false) 0).bind _).bind _ = _
  rw [e0, Option.bind_some, Int.toNat_natCast]
  have hu := ai6 u.ab.length hn.1
  have g := ai5 u.ab.length hn.1
  rw [show ((0 : Int).toNat) = 0 from rfl]
  rw [Xv U N hN N [0] [] _ ⟨by simp, fun i hi => by rw [(g i).1 hi]; exact .zero, (g 0).2 rfl, fun z hz => by
   obtain rfl := List.mem_singleton.1 hz
   exact ⟨by omega, by omega, (g 0).2 rfl⟩, fun a b i ha Gz _ _ => by
   have := (g a).1 ha
   subst this
   exact absurd (by simp) Gz⟩ (by show 1 + _ < N; omega) (by show 1 + _ ≤ 700; omega)]
  rfl
end
end Go.Ve.T
namespace Go.Ve.T
open Go.Ve
open Classical
noncomputable section
theorem aiN (u : ah) (y : Nat) (i : al) : (gX u y i).length ≤ 3 := by
 have h := OO u y i
 unfold gX
 have key : ∀ (l s : List Int), (l.foldl mu s).length ≤ s.length + l.length := by
  intro l
  induction l with
  | nil => intro s; simp
  | cons x l ih => intro s; rw [List.foldl_cons]; have := ih (mu s x); have := Xn s x; simp; omega
 have := key ((jo u y i).map fun p => p.1) []
 simp at this
 omega
end
end Go.Ve.T
namespace Go.Ve.T
open Go.Ve
open Classical
noncomputable section
theorem aiC {u : ah} {y : Nat} {i : al} {x k : Int} : (x, k) ∈ jo u y i ↔ (kD i.aO = false ∧ y + 1 < u.ab.length ∧ x = (y : Int) + 1 ∧ k = 0) ∨ (gb i = some x ∧ k = 1) ∨ (j0 i = true ∧ 0 ≤ fy u.ay y ∧ ∃ d, ix u.ay (fy u.ay y) = some d ∧ d.dY = x ∧ k = 2) := by
 unfold jo
 rw [List.mem_append, List.mem_append, or_assoc]
 refine or_congr ?_ (or_congr ?_ ?_)
 · split
   · rw [List.mem_singleton, Prod.mk.injEq]
     have h := ‹kD i.aO = false ∧ y + 1 < u.ab.length›
     exact ⟨fun e => ⟨h.1, h.2, e⟩, fun e => e.2.2⟩
   · next hc => exact ⟨fun h => (by cases h), fun h => absurd ⟨h.1, h.2.1⟩ hc⟩
 · rw [List.mem_map]
   constructor
   · rintro ⟨z, h, e⟩
     obtain ⟨rfl, rfl⟩ := Prod.mk.inj e
     exact ⟨by simpa using h, rfl⟩
   · rintro ⟨h, rfl⟩
     exact ⟨x, by simpa using h, rfl⟩
 · split
   · rw [List.mem_map]
     have h := ‹j0 i = true ∧ 0 ≤ fy u.ay y›
     constructor
     · rintro ⟨d, h1, e⟩
       obtain ⟨h2, h3⟩ := Prod.mk.inj e
       exact ⟨h.1, h.2, d, by simpa using h1, h2, h3.symm⟩
     · rintro ⟨_, _, d, h1, rfl, rfl⟩
       exact ⟨d, by simpa using h1, rfl⟩
   · next hc => exact ⟨fun h => (by cases h), fun h => absurd ⟨h.1, h.2.1⟩ hc⟩
end
end Go.Ve.T
namespace Go.Ve.T
open Go.Ve
open Classical
noncomputable section
inductive kE (u : ah) : Nat → Int → Prop where
 | read {y : Nat} {i : al} {s : Int} (hi : u.ab[y]? = some i) (hs : s ∈ jC i) : kE u y s
 | lead {y : Nat} {i : al} {x : Int × Int} {s : Int} (hi : u.ab[y]? = some i) (hx : x ∈ jo u y i) (hw : x.2 = 2 ∨ s ≠ mr i) (hs : kE u x.1.toNat s) : kE u y s
theorem OD (i : al) : (jC i).length ≤ 2 := by
 unfold jC
 rw [List.length_append]
 have h1 : (if 0 < (cw i.aO).cN.e0 ∧ lR i (cw i.aO).cN.e0 ≠ -1 then [lR i (cw i.aO).cN.e0] else []).length ≤ 1 := by split <;> simp
 have h2 : (if 0 < (cw i.aO).cN.e1 ∧ lR i (cw i.aO).cN.e1 ≠ -1 then [lR i (cw i.aO).cN.e1] else []).length ≤ 1 := by split <;> simp
 omega
theorem aiD {i : al} {s : Int} (h : s ∈ jC i) : s ≠ -1 := by
 unfold jC at h
 rcases List.mem_append.1 h with h | h
 · split at h
   · next hc => rw [List.mem_singleton.1 h]; exact hc.2
   · cases h
 · split at h
   · next hc => rw [List.mem_singleton.1 h]; exact hc.2
   · cases h
theorem kE.ne {u : ah} {y : Nat} {s : Int} (h : kE u y s) : s ≠ -1 := by
 induction h with
 | read hi hs => exact aiD hs
 | lead hi hx hw hs ih => exact ih
def univ (u : ah) : List Int := u.ab.foldr (fun i s => eI (jC i) s) []
theorem W2 (x : Int) : ∀ l : List Int, (gU x l).length ≤ l.length + 1
 | [] => by simp [gU]
 | y :: l => by
  unfold gU
  cases decide (x < y) with
  | true => simp
  | false => cases decide (x = y) with
   | true => simp
   | false => have := W2 x l; simp; omega
theorem W3 : ∀ (xs l : List Int), (eI xs l).length ≤ l.length + xs.length
 | [], l => by simp [eI]
 | x :: xs, l => by
  have h1 := W3 xs (gU x l)
  have h2 := W2 x l
  show (eI xs (gU x l)).length ≤ _
  simp; omega
theorem xT : ∀ c : List al, dT (c.foldr (fun i s => eI (jC i) s) []) ∧ (c.foldr (fun i s => eI (jC i) s) []).length ≤ 2 * c.length ∧ ∀ i ∈ c, ∀ s ∈ jC i, s ∈ c.foldr (fun i s => eI (jC i) s) []
 | [] => ⟨.nil, Nat.le_refl _, fun i h => by cases h⟩
 | i :: c => by
  obtain ⟨h1, h2, h3⟩ := xT c
  refine ⟨xh h1, ?_, fun j hj s hs => xg.2 ?_⟩
  · have h4 := W3 (jC i) (c.foldr (fun i s => eI (jC i) s) [])
    have h5 := OD i
    show (eI (jC i) _).length ≤ _
    simp; omega
  · rcases List.mem_cons.1 hj with rfl | hj
    · exact .inl hs
    · exact .inr (h3 j hj s hs)
theorem kE.univ {u : ah} {y : Nat} {s : Int} (h : kE u y s) : s ∈ univ u := by
 induction h with
 | read hi hs => exact (xT u.ab).2.2 _ (List.mem_of_getElem? hi) _ hs
 | lead hi hx hw hs ih => exact ih
def xU (u : ah) (y : Nat) : List Int := (univ u).filter fun s => decide (kE u y s)
theorem W4 {u : ah} {y : Nat} {s : Int} : s ∈ xU u y ↔ kE u y s := by
 unfold xU
 rw [List.mem_filter]
 exact ⟨fun h => of_decide_eq_true h.2, fun h => ⟨h.univ, decide_eq_true h⟩⟩
theorem aiE (u : ah) (y : Nat) : dT (xU u y) := (xT u.ab).1.filter _
theorem aiF (u : ah) (y : Nat) : (xU u y).length ≤ 2 * u.ab.length := Nat.le_trans (List.length_filter_le _ _) (xT u.ab).2.1
def jD (u : ah) : List (List Int) := (List.range u.ab.length).map (xU u)
theorem W5 {u : ah} {y : Nat} (h : y < u.ab.length) : (jD u)[y]? = some (xU u y) := by unfold jD; rw [List.getElem?_map, List.getElem?_range h]; rfl
theorem OE (u : ah) : (jD u).length = u.ab.length := by unfold jD; simp
theorem W6 {l m : List Int} (hl : dT l) (hm : dT m) (h : ∀ x ∈ l, x ∈ m) : l.length ≤ m.length ∧ (l.length = m.length → l = m) := by
 have e : l = m.filter fun x => decide (x ∈ l) := dT.ext hl (hm.filter _) fun x => by
  rw [List.mem_filter]
  exact ⟨fun hx => ⟨h x hx, decide_eq_true hx⟩, fun hx => of_decide_eq_true hx.2⟩
 have h1 := List.length_filter_le (fun x => decide (x ∈ l)) m
 rw [← e] at h1
 refine ⟨h1, fun hq => dT.ext hl hm fun x => ⟨h x, fun hx => ?_⟩⟩
 rw [e] at hq
 exact of_decide_eq_true (List.length_filter_eq_length_iff.1 hq x hx)
def jE (u : ah) (a : List (List Int)) (y : Nat) (i : al) : List Int := eI (jC i) ((jo u y i).foldl (fun s x => eI (kC (mr i) x.2 (a.getD x.1.toNat [])) s) [])
theorem aiG {w k : Int} {t : List Int} {s : Int} : s ∈ kC w k t ↔ s ∈ t ∧ (k = 2 ∨ s ≠ w) := by
 unfold kC
 rw [List.mem_filter]
 by_cases h1 : k = 2 <;> by_cases h2 : s = w <;> simp [h1, h2]
theorem OF (w : Int) (a : List (List Int)) : ∀ (l : List (Int × Int)) (s : List Int), dT s → dT (l.foldl (fun s x => eI (kC w x.2 (a.getD x.1.toNat [])) s) s) ∧ ∀ z, z ∈ l.foldl (fun s x => eI (kC w x.2 (a.getD x.1.toNat [])) s) s ↔ z ∈ s ∨ ∃ x ∈ l, z ∈ a.getD x.1.toNat [] ∧ (x.2 = 2 ∨ z ≠ w)
 | [], s, h => ⟨h, fun z => by simp⟩
 | x :: l, s, h => by
  obtain ⟨h1, h2⟩ := OF w a l (eI (kC w x.2 (a.getD x.1.toNat [])) s) (xh h)
  refine ⟨h1, fun z => ?_⟩
  rw [List.foldl_cons, h2, xg, aiG]
  constructor
  · rintro ((h | h) | ⟨x', h, h'⟩)
    · exact .inr ⟨x, List.mem_cons_self, h⟩
    · exact .inl h
    · exact .inr ⟨x', List.mem_cons_of_mem _ h, h'⟩
  · rintro (h | ⟨x', h, h'⟩)
    · exact .inl (.inr h)
    · rcases List.mem_cons.1 h with rfl | h
      · exact .inl (.inl h')
      · exact .inr ⟨x', h, h'⟩
theorem W7 (u : ah) (a : List (List Int)) (y : Nat) (i : al) : dT (jE u a y i) := xh (OF _ _ _ _ .nil).1
theorem xV {u : ah} {a : List (List Int)} {y : Nat} {i : al} {s : Int} : s ∈ jE u a y i ↔ s ∈ jC i ∨ ∃ x ∈ jo u y i, s ∈ a.getD x.1.toNat [] ∧ (x.2 = 2 ∨ s ≠ mr i) := by
 unfold jE
 rw [xg, (OF _ _ _ _ .nil).2]
 simp
def jF (a : List (List Int)) : Nat := (a.map List.length).sum
theorem W8 : ∀ {a : List (List Int)} {y : Nat} {l : List Int}, y < a.length → jF (a.set y l) + (a.getD y []).length = jF a + l.length
 | [], y, l, h => by simp at h
 | b :: a, 0, l, h => by simp [jF]; omega
 | b :: a, y + 1, l, h => by
  have := W8 (a := a) (y := y) (l := l) (by simpa using h)
  simp [jF] at this ⊢
  omega
theorem W9 {m : Nat} : ∀ {a : List (List Int)}, (∀ l ∈ a, l.length ≤ m) → jF a ≤ a.length * m
 | [], _ => by simp [jF]
 | b :: a, h => by
  have h1 := W9 (a := a) fun l hl => h l (List.mem_cons_of_mem _ hl)
  have h2 := h b List.mem_cons_self
  simp [jF] at h1 ⊢
  rw [Nat.add_mul]
  omega
theorem um (a : List (List Int)) (y z : Nat) (l : List Int) (hy : y < a.length) : (a.set y l).getD z [] = if y = z then l else a.getD z [] := by
 rw [List.getD_eq_getElem?_getD, List.getElem?_set, List.getD_eq_getElem?_getD]
 by_cases h : y = z
 · subst h; simp [hy]
 · simp [h]
structure LI (u : ah) (a : List (List Int)) : Prop where
 len : a.length = u.ab.length
 snd : ∀ y s, s ∈ a.getD y [] → kE u y s
 grow : ∀ y i, u.ab[y]? = some i → ∀ s ∈ a.getD y [], s ∈ jE u a y i
theorem LI.nd {u : ah} {a : List (List Int)} (H : LI u a) {y : Nat} {i : al} (hi : u.ab[y]? = some i) {s : Int} (hs : s ∈ jE u a y i) : kE u y s := by
 rcases xV.1 hs with h | ⟨x, h1, h2, h3⟩
 · exact .read hi h
 · exact .lead hi h1 h3 (H.snd _ _ h2)
theorem LI.set {u : ah} {a : List (List Int)} (H : LI u a) {y : Nat} {i : al} (hi : u.ab[y]? = some i) {l : List Int} (hl : ∀ s, s ∈ l ↔ s ∈ jE u a y i) : LI u (a.set y l) := by
 have hy : y < a.length := by rw [H.len]; exact (List.getElem?_eq_some_iff.1 hi).1
 have mono : ∀ z s, s ∈ a.getD z [] → s ∈ (a.set y l).getD z [] := fun z s hs => by
  rw [um a y z l hy]
  by_cases h : y = z
  · subst h; rw [if_pos rfl, hl]; exact H.grow _ _ hi s hs
  · rw [if_neg h]; exact hs
 have up : ∀ z j s, s ∈ jE u a z j → s ∈ jE u (a.set y l) z j := fun z j s hs => by
  rcases xV.1 hs with h | ⟨x, h1, h2, h3⟩
  · exact xV.2 (.inl h)
  · exact xV.2 (.inr ⟨x, h1, mono _ _ h2, h3⟩)
 refine ⟨by simpa using H.len, fun z s hs => ?_, fun z j hj s hs => ?_⟩
 · rw [um a y z l hy] at hs
   by_cases h : y = z
   · subst h; rw [if_pos rfl, hl] at hs; exact H.nd hi hs
   · rw [if_neg h] at hs; exact H.snd _ _ hs
 · rw [um a y z l hy] at hs
   by_cases h : y = z
   · subst h
     rw [if_pos rfl, hl] at hs
     rw [hi] at hj; cases hj
     exact up _ _ _ hs
   · rw [if_neg h] at hs; exact up _ _ _ (H.grow _ _ hj s hs)
theorem LI.fin {u : ah} (U : eT u) {a : List (List Int)} (H : LI u a) (C : ∀ y i, u.ab[y]? = some i → ∀ s ∈ jE u a y i, s ∈ a.getD y []) : ∀ y s, s ∈ a.getD y [] ↔ kE u y s := fun y s => by
 refine ⟨H.snd y s, fun h => ?_⟩
 induction h with
 | read hi hs => exact C _ _ hi _ (xV.2 (.inl hs))
 | lead hi hx hw hs ih => exact C _ _ hi _ (xV.2 (.inr ⟨_, hx, ih, hw⟩))
theorem LI.eq {u : ah} (U : eT u) {a : List (List Int)} (H : LI u a) (S : ∀ l ∈ a, dT l) (C : ∀ y i, u.ab[y]? = some i → ∀ s ∈ jE u a y i, s ∈ a.getD y []) : a = jD u := by
 have F := H.fin U C
 refine List.ext_getElem? fun y => ?_
 by_cases hy : y < u.ab.length
 · have OG : y < a.length := by rw [H.len]; exact hy
   rw [W5 hy, List.getElem?_eq_getElem OG]
   refine congrArg some (dT.ext (S _ (List.getElem_mem OG)) (aiE u y) fun s => ?_)
   rw [W4, ← F y s, List.getD_eq_getElem?_getD, List.getElem?_eq_getElem OG]; rfl
 · rw [List.getElem?_eq_none (by rw [H.len]; omega), List.getElem?_eq_none (by rw [OE]; omega)]
theorem LI.start (u : ah) : LI u (List.replicate u.ab.length []) := by
 have h : ∀ y, (List.replicate u.ab.length ([] : List Int)).getD y [] = [] := fun y => by
  rw [List.getD_eq_getElem?_getD, List.getElem?_replicate]
  split <;> rfl
 exact ⟨by simp, fun y s hs => (by rw [h] at hs; cases hs), fun y i _ s hs => (by rw [h] at hs; cases hs)⟩
end
end Go.Ve.T
namespace Go.Ve.T
open Go.Ve
open Classical
noncomputable section
theorem Xa {a : List (List Int)} {k : Nat} (h : k < a.length) : ix a (k : Int) = some (a.getD k []) := by
 rw [jU, List.getElem?_eq_getElem h, List.getD_eq_getElem?_getD, List.getElem?_eq_getElem h]; rfl
theorem aiH {u : ah} (U : eT u) (N : Nat) (hN : 1000 ≤ N) {y : Nat} (hy : y < u.ab.length) (a : List (List Int)) (ha : a.length = u.ab.length) : BX N u (y : Int) a = some (jE u a y u.ab[y]) := by
 have hi : u.ab[y]? = some u.ab[y] := List.getElem?_eq_getElem hy
 unfold BX
 rw [OH U N hN y hy, Option.bind_some, jU, hi, Option.bind_some]
 rw [OI _ (fun (s : List Int) (x : Int × Int) => eI (kC (mr u.ab[y]) x.2 (a.getD x.1.toNat [])) s) (jo u y u.ab[y]) (fun _ _ => True) (fun n s x hx _ => by
  have h1 := Gs U hi hx
  obtain ⟨k, hk⟩ := Int.eq_ofNat_of_zero_le h1.1
  rw [hk] at h1
  unfold B2
  rw [hk, Xa (by omega), Int.toNat_natCast, Option.bind_some, Xb]
  exact ⟨rfl, trivial⟩) _ _ (fun x hx => hx) trivial, Option.bind_some, Xc N hN, Option.bind_some, decide_eq_true (show (jC u.ab[y]).length ≤ 1000 by have := OD u.ab[y]; omega)]
 rfl
structure LS (u : ah) (a : List (List Int)) : Prop where
 li : LI u a
 kZ : ∀ l ∈ a, dT l
theorem LS.at {u : ah} {a : List (List Int)} (H : LS u a) (y : Nat) : dT (a.getD y []) := by
 rw [List.getD_eq_getElem?_getD]
 cases h : a[y]? with
 | none => exact .nil
 | some l => exact H.kZ l (List.mem_of_getElem? h)
theorem LI.Xd {u : ah} {a : List (List Int)} (H : LI u a) {l : List Int} (hl : l ∈ a) (S : dT l) : l.length ≤ 2 * u.ab.length := by
 obtain ⟨k, hk⟩ := List.getElem?_of_mem hl
 refine Nat.le_trans (W6 S (xT u.ab).1 fun s hs => ?_).1 (xT u.ab).2.1
 exact (H.snd k s (by rw [List.getD_eq_getElem?_getD, hk]; exact hs)).univ
theorem LS.jF {u : ah} {a : List (List Int)} (H : LS u a) : jF a ≤ u.ab.length * (2 * u.ab.length) := by
 have := W9 (m := 2 * u.ab.length) fun l hl => H.li.Xd hl (H.kZ l hl)
 rwa [H.li.len] at this
theorem OJ {u : ah} (U : eT u) (N : Nat) (hN : 1000 ≤ N) (K : Bool → List (List Int) → Option (List (List Int))) : ∀ (m n : Nat) (a : List (List Int)) (c : Bool), LS u a → m ≤ u.ab.length → m < n →
 ∃ a' c', tq N u K n a c ((m : Int) - 1) = K c' a' ∧ LS u a' ∧ jF a ≤ jF a' ∧ (c' = true → c = true ∨ jF a < jF a') ∧ (c' = false → c = false ∧ a' = a ∧ ∀ y i, y < m → u.ab[y]? = some i → ∀ s ∈ jE u a y i, s ∈ a.getD y [])
 | m, 0, a, c, _, _, h => by omega
 | 0, n + 1, a, c, H, _, _ => ⟨a, c, by
  show vu N u a c _ K _ = _
  unfold vu
  rw [decide_eq_false (by omega)]; rfl, H, Nat.le_refl _, .inl, fun h => ⟨h, rfl, fun y i h => by omega⟩⟩
 | m + 1, n + 1, a, c, H, hm, hn => by
  have lv := U.n1
  have hy : m < u.ab.length := by omega
  have hi : u.ab[m]? = some u.ab[m] := List.getElem?_eq_getElem hy
  have FG : m < a.length := by rw [H.li.len]; exact hy
  have e : tq N u K (n + 1) a c (((m + 1 : Nat) : Int) - 1) = if (jE u a m u.ab[m]).length = (a.getD m []).length then tq N u K n a c ((m : Int) - 1) else tq N u K n (a.set m (jE u a m u.ab[m])) true ((m : Int) - 1) := by
   show vu N u a c _ K _ = _
   unfold vu Gm BW
   rw [show (((m + 1 : Nat) : Int) - 1) = (m : Int) by omega, decide_eq_true (by omega), aiH U N hN hy a H.li.len, Xa FG, lC (by omega) (by omega)]
   simp only [cond_true, Option.bind_some, Int.toNat_natCast]
   by_cases h : (jE u a m u.ab[m]).length = (a.getD m []).length
   · rw [if_pos h, decide_eq_true (by omega)]; rfl
   · rw [if_neg h, decide_eq_false (by omega)]; rfl
  rw [e]
  have sub := W6 (H.at m) (W7 u a m u.ab[m]) (H.li.grow m _ hi)
  by_cases h : (jE u a m u.ab[m]).length = (a.getD m []).length
  · rw [if_pos h]
    obtain ⟨a', c', h1, h2, h3, h4, h5⟩ := OJ U N hN K m n a c H (by omega) (by omega)
    refine ⟨a', c', h1, h2, h3, h4, fun hc => ?_⟩
    obtain ⟨h6, h7, h8⟩ := h5 hc
    refine ⟨h6, h7, fun y i hy' cI s hs => ?_⟩
    by_cases Mc : y = m
    · subst Mc
      rw [hi] at cI; cases cI
      rw [sub.2 h.symm]; exact hs
    · exact h8 y i (by omega) cI s hs
  · rw [if_neg h]
    have H' : LS u (a.set m (jE u a m u.ab[m])) := ⟨H.li.set hi fun s => Iff.rfl, fun l hl => by
     rcases List.mem_or_eq_of_mem_set hl with hl | rfl
     · exact H.kZ l hl
     · exact W7 _ _ _ _⟩
    have ht := W8 (a := a) (y := m) (l := jE u a m u.ab[m]) FG
    have bz := sub.1
    obtain ⟨a', c', h1, h2, h3, h4, h5⟩ := OJ U N hN K m n _ true H' (by omega) (by omega)
    exact ⟨a', c', h1, h2, by omega, fun _ => .inr (by omega), fun hc => by have := (h5 hc).1; cases this⟩
theorem aiI (N : Nat) (a : List (List Int)) (ha : a.length ≤ 600) (hN : 1000 ≤ N) (hl : ∀ l ∈ a, l.length ≤ 2000) : Gk N a (fun a0 => xN a0) = some a := by
 have key : ∀ (n i : Nat), i ≤ a.length → a.length < n + i → xL N (a.length : Int) a (fun a0 => xN a0) n (a.take i) (i : Int) = some a := by
  intro n
  induction n with
  | zero => intro i h1 h2; omega
  | succ n ih =>
   intro i h1 h2
   show BU N _ a _ (a.take i) (i : Int) _ = _
   unfold BU Gi Gh Gj
   by_cases hi : i < a.length
   · have h3 := hl a[i] (List.getElem_mem hi)
     rw [Gt i _ hi, jU, List.getElem?_eq_getElem hi]
     simp only [cond_true, Option.bind_some]
     unfold xN
     rw [decide_eq_true (show a[i].length ≤ 1048576 by omega)]
     show gu (decide ((a.take i).length + [a[i]].length ≤ 1048576)) _ = _
     rw [decide_eq_true (by rw [List.length_take]; simp; omega), Gu i (by omega)]
     show xL N _ a _ n (a.take i ++ [a[i]]) _ = _
     rw [← List.take_succ_eq_append_getElem hi]
     exact ih (i + 1) hi (by omega)
   · have : i = a.length := by omega
     subst this
     rw [Gv, List.take_length]; rfl
 have := key N 0 (Nat.zero_le _) (by omega)
 exact this
theorem Xe {u : ah} (U : eT u) (N : Nat) (hN : 1000 ≤ N) : ∀ (n : Nat) (a : List (List Int)), LS u a → u.ab.length * (2 * u.ab.length) + 2 ≤ n + jF a → tr N u n a true = some (jD u)
 | 0, a, H, h => by have := H.jF; omega
 | n + 1, a, H, h => by
  have hn := U.n1
  show BZ N u a (fun aq bQ => tr N u n bQ aq) = _
  unfold BZ
  rw [lC (by omega) (by omega)]
  obtain ⟨a', c', h1, h2, h3, h4, h5⟩ := OJ U N hN (fun aq bQ => tr N u n bQ aq) u.ab.length N a false H (Nat.le_refl _) (by omega)
  rw [h1]
  have ht := H.jF
  cases c' with
  | true =>
   have h6 : jF a < jF a' := (h4 rfl).resolve_left (by simp)
   exact Xe U N hN n a' h2 (by omega)
  | false =>
   obtain ⟨_, rfl, h8⟩ := h5 rfl
   obtain ⟨m, rfl⟩ : ∃ m, n = m + 1 := ⟨n - 1, by omega⟩
   show B0 N a' = _
   unfold B0
   have e : a' = jD u := H.li.eq U H.kZ fun y i hi s hs => h8 y i (List.getElem?_eq_some_iff.1 hi).1 hi s hs
   rw [aiI N a' (by rw [H.li.len]; omega) hN fun l hl => by have := H.li.Xd hl (H.kZ l hl); omega, e]
   rfl
theorem aiJ {u : ah} (U : eT u) (N : Nat) (hN : 1000 ≤ N) (hb : u.ab.length * (2 * u.ab.length) + 2 ≤ N) : Ax N u = some (jD u) := by
 have hn := U.n1
 unfold Ax Gn
 rw [Gr N hN, U.pl, Option.bind_some]
 show gu (decide _ && decide _) _ = _
 rw [decide_eq_true (show (0 : Int) ≤ (u.ab.length : Int) by omega), decide_eq_true (show (u.ab.length : Int) ≤ 65536 by omega)]
 show tr N u N (List.replicate (u.ab.length : Int).toNat ([] : List Int)) true = _
 rw [Int.toNat_natCast]
 exact Xe U N hN N _ ⟨LI.start u, fun l hl => by rw [List.eq_of_mem_replicate hl]; exact .nil⟩ (by omega)
end
end Go.Ve.T
namespace Go.Ve.T
open Go.Ve
open Classical
noncomputable section
def Gw (u : ah) (y : Nat) (i : al) (to : Int) : Prop := j0 i = true ∧ 0 ≤ fy u.ay y ∧ ∃ d, ix u.ay (fy u.ay y) = some d ∧ d.dY = to
theorem Gw.lead {u : ah} {y : Nat} {i : al} {to : Int} : Gw u y i to ↔ (to, 2) ∈ jo u y i := by
 rw [aiC]
 constructor
 · rintro ⟨h1, h2, d, h3, h4⟩
   exact .inr (.inr ⟨h1, h2, d, h3, h4, rfl⟩)
 · rintro (⟨_, _, _, h⟩ | ⟨_, h⟩ | ⟨h1, h2, d, h3, h4, _⟩)
   · cases h
   · cases h
   · exact ⟨h1, h2, d, h3, h4⟩
end
end Go.Ve.T
namespace Go.Ve.T
open Go.Ve
open Classical
noncomputable section
theorem P0 {y : Int} (h : IntKind.u8.min ≤ y ∧ y ≤ IntKind.u8.max) : 0 ≤ y ∧ y < 256 := ⟨h.1, Int.lt_of_le_of_lt h.2 (by decide)⟩
theorem Zq {y : Int} (h : (Lit.int .u8 y).wf = true) : 0 ≤ y ∧ y < 256 := P0 (by simpa [Lit.wf] using h)
theorem aiL (N : Nat) (l : List Int) (x : Int) (hl : l.length < 1000000) (hN : l.length < N) : Fq N l x = some (decide (x ∈ l)) := by
 have key : ∀ n i : Nat, i ≤ l.length → l.length < n + i → Aj N l x n (i : Int) = some (decide (x ∈ l.drop i)) := by
  intro n
  induction n with
  | zero => intro i h1 h2; omega
  | succ n ih =>
   intro i h1 h2
   show Ai N l x (i : Int) _ = _
   unfold Ai Fo Fp Fm
   by_cases hi : i < l.length
   · rw [Gt i _ hi, jU, List.getElem?_eq_getElem hi, List.drop_eq_getElem_cons hi]
     simp only [cond_true, Option.bind_some]
     by_cases e : l[i] = x
     · rw [decide_eq_true e]
       simp [e]
     · rw [decide_eq_false e]
       simp only [cond_false]
       rw [Gu i (by omega), ih (i + 1) hi (by omega)]
       congr 1
       rw [decide_eq_decide, List.mem_cons]
       exact ⟨.inr, fun h => h.resolve_left fun h => e h.symm⟩
   · have : i = l.length := by omega
     subst this
     rw [Gv, List.drop_length]
     simp
 have := key N 0 (Nat.zero_le _) (by omega)
 rwa [List.drop_zero] at this
theorem aiQ (N : Nat) (hN : 1000 ≤ N) (u : ah) : ∃ b, Aq N u = some b ∧ (b = true → eT u ∧ u.ab.length ≤ 40 ∧ u.ay.length ≤ 8) := by
 have h1 : ∀ b, Am N u b = some (b && decide (0 < (u.ab.length : Int))) := fun b => by cases b <;> rfl
 unfold Aq Ao
 simp only [h1, aiR N hN, Option.bind_some]
 by_cases ha : (u.ab.length : Int) ≤ 40
 · rw [decide_eq_true ha]
   by_cases hb : (u.ay.length : Int) ≤ 8
   · rw [decide_eq_true hb]
     refine ⟨_, rfl, fun h => ?_⟩
     obtain ⟨h2, h3⟩ := Bool.and_eq_true_iff.1 h
     have h2 := of_decide_eq_true h2
     have h3 := of_decide_eq_true h3
     refine ⟨?_, by omega, by omega⟩
     unfold OM at h2
     cases hp : jZ u with
     | true => exact ⟨hp⟩
     | false => rw [hp] at h2; simp at h2; omega
   · rw [decide_eq_false hb]
     exact ⟨_, rfl, fun h => by simp at h⟩
 · rw [decide_eq_false ha]
   exact ⟨_, rfl, fun h => by simp at h⟩
end
end Go.Ve.T
namespace Go.Ve.T
open Go.Ve
open Classical
noncomputable section
theorem Xf {l : List Int} (h0 : 0 < l.length) {z : Int} (hz : 0 ≤ z ∧ z < 256) : ∃ k : Nat, k < l.length ∧ Int.tmod (bD .i64 z) (l.length : Int) = (k : Int) := by
 rw [lC (by omega) (by omega), Int.tmod_eq_emod_of_nonneg hz.1]
 have h1 := Int.emod_nonneg z (show (l.length : Int) ≠ 0 by omega)
 have h2 := Int.emod_lt_of_pos z (show 0 < (l.length : Int) by omega)
 obtain ⟨k, hk⟩ := Int.eq_ofNat_of_zero_le h1
 exact ⟨k, by omega, hk⟩
theorem aiK {u : ah} (U : eT u) (vz : u.ab.length ≤ 40) (N : Nat) (hN : 4000 ≤ N) (rs wr x2 : List Int) (b : Nat) (hb : b < u.ab.length) (y j : Int) (K : Int → Int → List Int → Option Bool) (hr : rs.length ≤ 2) (H : ∀ s ∈ rs, s ∈ wr ∨ kE u b s) : xd N rs (jD u) (b : Int) u y true x2 j K N wr 0 = xc N u y true x2 j wr K := by
 have L := Xg rs.length (fun n i => xd N rs (jD u) (b : Int) u y true x2 j K n wr (i : Int)) (xc N u y true x2 j wr K) (fun n i hi => by
  show uQ N rs wr (jD u) (b : Int) u y true x2 j (i : Int) K _ = _
  unfold uQ Fu Ar Ft
  have hl := aiF u b
  rw [Gt i _ hi, jU, List.getElem?_eq_getElem hi, jU, W5 hb, Gu i (by omega)]
  simp only [cond_true, Option.bind_some]
  rw [aiL N _ _ (by omega) (by omega)]
  rcases H rs[i] (List.getElem_mem hi) with h | h
  · rw [decide_eq_true h]; rfl
  · rw [decide_eq_true (W4.2 h)]
    cases decide (rs[i] ∈ wr) <;> rfl) (fun n => by
  show uQ N rs wr (jD u) (b : Int) u y true x2 j _ K _ = _
  unfold uQ
  rw [Gv]; rfl) N 0 (Nat.zero_le _) (by omega)
 exact L
theorem Xh {u : ah} (U : eT u) (vz : u.ab.length ≤ 40) (N : Nat) (hN : 4000 ≤ N) (x2 : List Int) (hx : ∀ z ∈ x2, 0 ≤ z ∧ z < 256) (hl : x2.length ≤ 60) (b : Nat) (hb : b < u.ab.length) : ∀ (n i y : Nat) (wr : List Int), y < u.ab.length → (∀ s, kE u y s → s ∉ wr → kE u b s) → i ≤ x2.length → x2.length < n + i →
 sP N x2 u (jD u) (b : Int) true n wr (y : Int) (i : Int) = some true
 | 0, i, y, wr, _, _, h1, h2 => by omega
 | n + 1, i, y, wr, hy, I, h1, h2 => by
  have hn := U.n1
  have lv : 1000 ≤ N := by omega
  show Av N x2 u wr (jD u) (b : Int) true (y : Int) (i : Int) _ = _
  unfold Av
  by_cases hi : i < x2.length
  · rw [Gt i _ hi]
    have hu : u.ab[y]? = some u.ab[y] := List.getElem?_eq_getElem hy
    simp only [cond_true]
    unfold Fy
    rw [jU, hu, Option.bind_some, Xc N lv, Option.bind_some, aiK U vz N hN _ wr x2 b hb _ _ _ (OD _) (fun s hs => by
     by_cases hw : s ∈ wr
     · exact .inl hw
     · exact .inr (I s (.read hu hs) hw))]
    unfold xc
    have eN : B5 u (y : Int) = gX u y u.ab[y] := by
     unfold B5 xW
     rw [U.pl, decide_eq_true (show 0 ≤ (y : Int) ∧ (y : Int) ≤ (u.ab.length : Int) - 1 by omega), Int.toNat_natCast, hu]; rfl
    have eG : B6 u (y : Int) = fy u.ay y := by
     unfold B6 xW
     rw [U.pl, decide_eq_true (show 0 ≤ (y : Int) ∧ (y : Int) ≤ (u.ab.length : Int) - 1 by omega)]; rfl
    rw [(aiM N lv u y).1, Option.bind_some, eN]
    have Q0 := aiN u y u.ab[y]
    by_cases gS : gX u y u.ab[y] = []
    · rw [gS]; rfl
    · have Kl : 0 < (gX u y u.ab[y]).length := List.length_pos_iff.2 gS
      rw [decide_eq_false (show ¬ (((gX u y u.ab[y]).length : Int) = 0) by omega), cond_false]
      unfold Fw
      obtain ⟨k, hk, ek⟩ := Xf Kl (hx x2[i] (List.getElem_mem hi))
      have ht : (gX u y u.ab[y])[k] ∈ gX u y u.ab[y] := List.getElem_mem hk
      rw [jU, List.getElem?_eq_getElem hi, Option.bind_some, ek, jU, List.getElem?_eq_getElem hk, decide_eq_false (show ¬ (((gX u y u.ab[y]).length : Int) = 0) by omega), (aiO N lv u y).1, eG, jU, hu]
      generalize (gX u y u.ab[y])[k] = to at ht
      have Gx := aiP U hu ht
      obtain ⟨t, rfl⟩ := Int.eq_ofNat_of_zero_le Gx.1
      simp only [Bool.not_false, Option.bind_some, Xi, Xb]
      show (bif !decide (mr u.ab[y] = -1) then _ else _) = _
      have P1 : ∀ c : Bool, (c = false → mr u.ab[y] = -1 ∨ Gw u y u.ab[y] (t : Int)) → sO N wr (mr u.ab[y]) (i : Int) (t : Int) c u (fun aq bp bQ => sP N x2 u (jD u) (b : Int) true n bQ aq bp) = some true := fun c hc => by
       have e : sO N wr (mr u.ab[y]) (i : Int) (t : Int) c u (fun aq bp bQ => sP N x2 u (jD u) (b : Int) true n bQ aq bp) = sP N x2 u (jD u) (b : Int) true n (bif c then gU (mr u.ab[y]) wr else wr) (t : Int) (bD .i64 ((i : Int) + 1)) := by cases c <;> rfl
       rw [e, Gu i (by omega)]
       refine Xh U vz N hN x2 hx hl b hb n (i + 1) t _ (by omega) (fun s hs hw => ?_) hi (by omega)
       have OK : kE u ((t : Int), (0 : Int)).1.toNat s := by rw [Int.toNat_natCast]; exact hs
       cases c with
       | true =>
        rw [cond_true] at hw
        have hw1 : s ≠ mr u.ab[y] := fun h => hw (uT.2 (.inl h))
        obtain ⟨k', dc⟩ := B7.1 ht
        exact I s (.lead hu dc (.inr hw1) OK) fun h => hw (uT.2 (.inr h))
       | false =>
        rw [cond_false] at hw
        rcases hc rfl with h | h
        · obtain ⟨k', dc⟩ := B7.1 ht
          exact I s (.lead hu dc (.inr (by rw [h]; exact hs.ne)) OK) hw
        · exact I s (.lead hu (Gw.lead.1 h) (.inl rfl) OK) hw
      by_cases h1 : mr u.ab[y] = -1
      · rw [decide_eq_true h1]
        exact P1 false fun _ => .inl h1
      · rw [decide_eq_false h1]
        simp only [Bool.not_false, cond_true]
        by_cases hg : 0 ≤ fy u.ay y
        · obtain ⟨d, hd, _⟩ := OL hg
          rw [decide_eq_true hg, hd]
          simp only [cond_true, Option.bind_some]
          by_cases ha : d.dY = (t : Int)
          · rw [decide_eq_true ha]
            simp only [cond_true]
            have hr : (!j0 u.ab[y]) = false → j0 u.ab[y] = true := fun h => by
             cases hr : j0 u.ab[y] with
             | true => rfl
             | false => rw [hr] at h; cases h
            exact P1 _ fun h => .inr ⟨hr h, hg, d, hd, ha⟩
          · rw [decide_eq_false ha]
            exact P1 true fun h => by cases h
        · rw [decide_eq_false hg]
          exact P1 true fun h => by cases h
  · have : i = x2.length := by omega
    subst this
    rw [Gv]; rfl
theorem Zp (N : Nat) (hN : 4000 ≤ N) (u : ah) (x1 : Int) (hx1 : 0 ≤ x1 ∧ x1 < 256) (x2 : List Int) (hx : ∀ z ∈ x2, 0 ≤ z ∧ z < 256) : FA N u x1 x2 = some true := by
 have lv : 1000 ≤ N := by omega
 unfold FA Ay
 obtain ⟨b, hb, hbt⟩ := aiQ N lv u
 rw [hb]
 show (bif !b then _ else _) = _
 cases b with
 | false => rfl
 | true =>
  obtain ⟨U, vz, h8⟩ := hbt rfl
  by_cases hl : 60 < (x2.length : Int)
  · rw [decide_eq_true hl]; rfl
  · rw [decide_eq_false hl]
    show Aw N u x1 x2 true = _
    unfold Aw Fz
    have hn := U.n1
    have hq : u.ab.length * (2 * u.ab.length) ≤ 40 * (2 * 40) := Nat.mul_le_mul vz (Nat.mul_le_mul (Nat.le_refl 2) vz)
    rw [aiJ U N lv (by omega), Option.bind_some, OE, decide_eq_true rfl, decide_eq_false (show ¬ ((u.ab.length : Int) = 0) by omega)]
    have hz : (jD u).length = u.ab.length := OE u
    obtain ⟨k, hk, ek⟩ := Xf (l := List.replicate u.ab.length 0) (by simp; omega) hx1
    rw [List.length_replicate] at hk ek
    rw [ek]
    exact Xh U vz N hN x2 hx (by omega) k hk N 0 k [] hk (fun s h _ => h) (Nat.zero_le _) (by omega)
end
end Go.Ve.T
