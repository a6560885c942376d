/- Part 19: The closed run of the chapter's examples of layer 8, by the evaluator, in the kernel: 'head' returns true, and changes nothing of what was there, where the table of powers of ten is as the library lays it. No other condition. And what follows it. -/
import Derived.Test.YteeibihhdldjfaaGreatDoorVeR
import Derived.Lib.LaidTab
set_option linter.unusedVariables false
set_option linter.unusedSimpArgs false
namespace Go.Ve.T
open Go.Ve Go.Proofs Go.RowKit
noncomputable section
set_option maxRecDepth 100000
def gF (k : Nat) : ia := (bT PP k).getD ⟨0, [], .skip, false⟩
abbrev g (k : Nat) : Option ia := some (gF k)
theorem g1 {k : Nat} (h : (bT PP k).isSome = true) : ∀ a, g k = some a → bT PP k = some a := fun a e => by
 cases e
 cases hc : bT PP k with
 | none => rw [hc] at h; cases h
 | some x => unfold gF; rw [hc]; rfl
def H6 : List Value := FT.map fun r => .tuple ⟨[.agg ⟨r⟩, .bool true]⟩
def ahP (vs : List Value) (h : AH) (k : CR → AH → Bool) : Bool := a1 vs fun v => kp v fun kd n => iff (fM kd .i64) (Int.casesOn (motive := fun _ => Bool) n (fun n => iff (Nat.ble 1 n && Nat.ble n 34)
 (n4 H6 n fun c => k (.ret c) h)) mu)
def H7 : List Value := FT.flatten
def ahQ (vs : List Value) (h : AH) (k : CR → AH → Bool) : Bool := a0 vs (k (.ret (.agg ⟨H7⟩)) h)
def sums : ry := [(84, ahP), (120, ahQ), (67, Xq), (198, Xr), (109, Xs)]
def PN : NT ia := (.n (.n (.n (.n (.n (.n (.n (.n .e (g 127) .e) (g 63) (.n .e (g 191) .e)) (g 31) (.n (.n .e (g 159) .e) (g 95) .e)) (g 15) (.n (.n (.n .e (g 143) .e) (g 79) (.n .e (g 207) .e)) (g 47) (.n .e (g 111) .e))) (g 7) (.n (.n (.n (.n .e (g 135) .e) (g 71) (.n .e (g 199) .e)) (g 39) (.n .e (g 103) .e)) (g 23) (.n (.n (.n .e (g 151) .e) (g 87) (.n .e (g 215) .e)) (g 55) (.n (.n .e (g 183) .e) (g 119) .e)))) (g 3) (.n (.n (.n (.n (.n .e (g 131) .e) (g 67) .e) (g 35) (.n (.n .e (g 163) .e) (g 99) .e)) (g 19) (.n (.n (.n .e (g 147) .e) (g 83) (.n .e (g 211) .e)) (g 51) (.n (.n .e (g 179) .e) (g 115) .e))) (g 11) (.n (.n (.n (.n .e (g 139) .e) (g 75) .e) (g 43) (.n (.n .e (g 171) .e) (g 107) .e)) (g 27) (.n (.n (.n .e (g 155) .e) (g 91) .e) (g 59) (.n (.n .e (g 187) .e) (g 123) .e))))) none (.n (.n (.n (.n (.n (.n .e (g 129) .e) (g 65) (.n .e (g 193) .e)) (g 33) (.n (.n .e (g 161) .e) (g 97) .e)) (g 17) (.n (.n (.n .e (g 145) .e) (g 81) (.n .e (g 209) .e)) (g 49) (.n (.n .e (g 177) .e) (g 113) .e))) (g 9) (.n (.n (.n (.n .e (g 137) .e) (g 73) (.n .e (g 201) .e)) (g 41) (.n (.n .e (g 169) .e) (g 105) .e)) (g 25) (.n (.n (.n .e (g 153) .e) (g 89) (.n .e (g 217) .e)) (g 57) (.n (.n .e (g 185) .e) (g 121) .e)))) (g 5) (.n (.n (.n (.n (.n .e (g 133) .e) (g 69) (.n .e (g 197) .e)) (g 37) (.n (.n .e (g 165) .e) (g 101) .e)) (g 21) (.n (.n (.n .e (g 149) .e) (g 85) (.n .e (g 213) .e)) (g 53) (.n (.n .e (g 181) .e) (g 117) .e))) (g 13) (.n (.n (.n (.n .e (g 141) .e) (g 77) (.n .e (g 205) .e)) (g 45) (.n (.n .e (g 173) .e) (g 109) .e)) (g 29) (.n (.n (.n .e (g 157) .e) (g 93) .e) (g 61) (.n (.n .e (g 189) .e) (g 125) .e)))))) none (.n (.n (.n (.n (.n (.n (.n .e (g 128) .e) (g 64) (.n .e (g 192) .e)) (g 32) (.n (.n .e (g 160) .e) (g 96) .e)) (g 16) (.n (.n (.n .e (g 144) .e) (g 80) (.n .e (g 208) .e)) (g 48) (.n (.n .e (g 176) .e) (g 112) .e))) (g 8) (.n (.n (.n (.n .e (g 136) .e) (g 72) (.n .e (g 200) .e)) (g 40) (.n (.n .e (g 168) .e) (g 104) .e)) (g 24) (.n (.n (.n .e (g 152) .e) (g 88) (.n .e (g 216) .e)) (g 56) (.n (.n .e (g 184) .e) (g 120) .e)))) (g 4) (.n (.n (.n (.n (.n .e (g 132) .e) (g 68) (.n .e (g 196) .e)) (g 36) (.n (.n .e (g 164) .e) (g 100) .e)) (g 20) (.n (.n (.n .e (g 148) .e) (g 84) (.n .e (g 212) .e)) (g 52) (.n (.n .e (g 180) .e) (g 116) .e))) (g 12) (.n (.n (.n (.n .e (g 140) .e) (g 76) (.n .e (g 204) .e)) (g 44) (.n (.n .e (g 172) .e) (g 108) .e)) (g 28) (.n (.n (.n .e (g 156) .e) (g 92) .e) (g 60) (.n .e (g 124) .e))))) none (.n (.n (.n (.n (.n (.n .e (g 130) .e) (g 66) (.n .e (g 194) .e)) (g 34) (.n (.n .e (g 162) .e) (g 98) .e)) (g 18) (.n (.n (.n .e (g 146) .e) (g 82) (.n .e (g 210) .e)) (g 50) (.n (.n .e (g 178) .e) (g 114) .e))) (g 10) (.n (.n (.n (.n .e (g 138) .e) (g 74) (.n .e (g 202) .e)) (g 42) (.n (.n .e (g 170) .e) (g 106) .e)) (g 26) (.n (.n (.n .e (g 154) .e) (g 90) (.n .e (g 218) .e)) (g 58) (.n (.n .e (g 186) .e) (g 122) .e)))) (g 6) (.n (.n (.n (.n (.n .e (g 134) .e) (g 70) (.n .e (g 198) .e)) (g 38) (.n (.n .e (g 166) .e) (g 102) .e)) (g 22) (.n (.n (.n .e (g 150) .e) (g 86) (.n .e (g 214) .e)) (g 54) (.n (.n .e (g 182) .e) (g 118) .e))) (g 14) (.n (.n (.n (.n .e (g 142) .e) (g 78) (.n .e (g 206) .e)) (g 46) (.n (.n .e (g 174) .e) (g 110) .e)) (g 30) (.n (.n (.n .e (g 158) .e) (g 94) .e) (g 62) (.n (.n .e (g 190) .e) (g 126) .e)))))))
theorem ahR : ∀ f af, PN.get f = some af → bT PP f = some af := NT.holds (Q := fun f af => bT PP f = some af) (t := PN) ⟨NT.no, ⟨NT.no, ⟨g1 (by kernel_rfl), ⟨g1 (by kernel_rfl), ⟨g1 (by kernel_rfl), ⟨g1 (by kernel_rfl), ⟨g1 (by kernel_rfl), ⟨g1 (by kernel_rfl), trivial, trivial⟩, ⟨g1 (by kernel_rfl), trivial, trivial⟩⟩, ⟨g1 (by kernel_rfl), ⟨g1 (by kernel_rfl), trivial, trivial⟩, trivial⟩⟩, ⟨g1 (by kernel_rfl), ⟨g1 (by kernel_rfl), ⟨g1 (by kernel_rfl), trivial, trivial⟩, ⟨g1 (by kernel_rfl), trivial, trivial⟩⟩, ⟨g1 (by kernel_rfl), trivial, trivial⟩⟩⟩, ⟨g1 (by kernel_rfl), ⟨g1 (by kernel_rfl), ⟨g1 (by kernel_rfl), ⟨g1 (by kernel_rfl), trivial, trivial⟩, ⟨g1 (by kernel_rfl), trivial, trivial⟩⟩, ⟨g1 (by kernel_rfl), trivial, trivial⟩⟩, ⟨g1 (by kernel_rfl), ⟨g1 (by kernel_rfl), ⟨g1 (by kernel_rfl), trivial, trivial⟩, ⟨g1 (by kernel_rfl), trivial, trivial⟩⟩, ⟨g1 (by kernel_rfl), ⟨g1 (by kernel_rfl), trivial, trivial⟩, trivial⟩⟩⟩⟩, ⟨g1 (by kernel_rfl), ⟨g1 (by kernel_rfl), ⟨g1 (by kernel_rfl), ⟨g1 (by kernel_rfl), ⟨g1 (by kernel_rfl), trivial, trivial⟩, trivial⟩, ⟨g1 (by kernel_rfl), ⟨g1 (by kernel_rfl), trivial, trivial⟩, trivial⟩⟩, ⟨g1 (by kernel_rfl), ⟨g1 (by kernel_rfl), ⟨g1 (by kernel_rfl), trivial, trivial⟩, ⟨g1 (by kernel_rfl), trivial, trivial⟩⟩, ⟨g1 (by kernel_rfl), ⟨g1 (by kernel_rfl), trivial, trivial⟩, trivial⟩⟩⟩, ⟨g1 (by kernel_rfl), ⟨g1 (by kernel_rfl), ⟨g1 (by kernel_rfl), ⟨g1 (by kernel_rfl), trivial, trivial⟩, trivial⟩, ⟨g1 (by kernel_rfl), ⟨g1 (by kernel_rfl), trivial, trivial⟩, trivial⟩⟩, ⟨g1 (by kernel_rfl), ⟨g1 (by kernel_rfl), ⟨g1 (by kernel_rfl), trivial, trivial⟩, trivial⟩, ⟨g1 (by kernel_rfl), ⟨g1 (by kernel_rfl), trivial, trivial⟩, trivial⟩⟩⟩⟩⟩, ⟨g1 (by kernel_rfl), ⟨g1 (by kernel_rfl), ⟨g1 (by kernel_rfl), ⟨g1 (by kernel_rfl), ⟨g1 (by kernel_rfl), ⟨g1 (by kernel_rfl), trivial, trivial⟩, ⟨g1 (by kernel_rfl), trivial, trivial⟩⟩, ⟨g1 (by kernel_rfl), ⟨g1 (by kernel_rfl), trivial, trivial⟩, trivial⟩⟩, ⟨g1 (by kernel_rfl), ⟨g1 (by kernel_rfl), ⟨g1 (by kernel_rfl), trivial, trivial⟩, ⟨g1 (by kernel_rfl), trivial, trivial⟩⟩, ⟨g1 (by kernel_rfl), ⟨g1 (by kernel_rfl), trivial, trivial⟩, trivial⟩⟩⟩, ⟨g1 (by kernel_rfl), ⟨g1 (by kernel_rfl), ⟨g1 (by kernel_rfl), ⟨g1 (by kernel_rfl), trivial, trivial⟩, ⟨g1 (by kernel_rfl), trivial, trivial⟩⟩, ⟨g1 (by kernel_rfl), ⟨g1 (by kernel_rfl), trivial, trivial⟩, trivial⟩⟩, ⟨g1 (by kernel_rfl), ⟨g1 (by kernel_rfl), ⟨g1 (by kernel_rfl), trivial, trivial⟩, ⟨g1 (by kernel_rfl), trivial, trivial⟩⟩, ⟨g1 (by kernel_rfl), ⟨g1 (by kernel_rfl), trivial, trivial⟩, trivial⟩⟩⟩⟩, ⟨g1 (by kernel_rfl), ⟨g1 (by kernel_rfl), ⟨g1 (by kernel_rfl), ⟨g1 (by kernel_rfl), ⟨g1 (by kernel_rfl), trivial, trivial⟩, ⟨g1 (by kernel_rfl), trivial, trivial⟩⟩, ⟨g1 (by kernel_rfl), ⟨g1 (by kernel_rfl), trivial, trivial⟩, trivial⟩⟩, ⟨g1 (by kernel_rfl), ⟨g1 (by kernel_rfl), ⟨g1 (by kernel_rfl), trivial, trivial⟩, ⟨g1 (by kernel_rfl), trivial, trivial⟩⟩, ⟨g1 (by kernel_rfl), ⟨g1 (by kernel_rfl), trivial, trivial⟩, trivial⟩⟩⟩, ⟨g1 (by kernel_rfl), ⟨g1 (by kernel_rfl), ⟨g1 (by kernel_rfl), ⟨g1 (by kernel_rfl), trivial, trivial⟩, ⟨g1 (by kernel_rfl), trivial, trivial⟩⟩, ⟨g1 (by kernel_rfl), ⟨g1 (by kernel_rfl), trivial, trivial⟩, trivial⟩⟩, ⟨g1 (by kernel_rfl), ⟨g1 (by kernel_rfl), ⟨g1 (by kernel_rfl), trivial, trivial⟩, trivial⟩, ⟨g1 (by kernel_rfl), ⟨g1 (by kernel_rfl), trivial, trivial⟩, trivial⟩⟩⟩⟩⟩⟩, ⟨NT.no, ⟨g1 (by kernel_rfl), ⟨g1 (by kernel_rfl), ⟨g1 (by kernel_rfl), ⟨g1 (by kernel_rfl), ⟨g1 (by kernel_rfl), ⟨g1 (by kernel_rfl), trivial, trivial⟩, ⟨g1 (by kernel_rfl), trivial, trivial⟩⟩, ⟨g1 (by kernel_rfl), ⟨g1 (by kernel_rfl), trivial, trivial⟩, trivial⟩⟩, ⟨g1 (by kernel_rfl), ⟨g1 (by kernel_rfl), ⟨g1 (by kernel_rfl), trivial, trivial⟩, ⟨g1 (by kernel_rfl), trivial, trivial⟩⟩, ⟨g1 (by kernel_rfl), ⟨g1 (by kernel_rfl), trivial, trivial⟩, trivial⟩⟩⟩, ⟨g1 (by kernel_rfl), ⟨g1 (by kernel_rfl), ⟨g1 (by kernel_rfl), ⟨g1 (by kernel_rfl), trivial, trivial⟩, ⟨g1 (by kernel_rfl), trivial, trivial⟩⟩, ⟨g1 (by kernel_rfl), ⟨g1 (by kernel_rfl), trivial, trivial⟩, trivial⟩⟩, ⟨g1 (by kernel_rfl), ⟨g1 (by kernel_rfl), ⟨g1 (by kernel_rfl), trivial, trivial⟩, ⟨g1 (by kernel_rfl), trivial, trivial⟩⟩, ⟨g1 (by kernel_rfl), ⟨g1 (by kernel_rfl), trivial, trivial⟩, trivial⟩⟩⟩⟩, ⟨g1 (by kernel_rfl), ⟨g1 (by kernel_rfl), ⟨g1 (by kernel_rfl), ⟨g1 (by kernel_rfl), ⟨g1 (by kernel_rfl), trivial, trivial⟩, ⟨g1 (by kernel_rfl), trivial, trivial⟩⟩, ⟨g1 (by kernel_rfl), ⟨g1 (by kernel_rfl), trivial, trivial⟩, trivial⟩⟩, ⟨g1 (by kernel_rfl), ⟨g1 (by kernel_rfl), ⟨g1 (by kernel_rfl), trivial, trivial⟩, ⟨g1 (by kernel_rfl), trivial, trivial⟩⟩, ⟨g1 (by kernel_rfl), ⟨g1 (by kernel_rfl), trivial, trivial⟩, trivial⟩⟩⟩, ⟨g1 (by kernel_rfl), ⟨g1 (by kernel_rfl), ⟨g1 (by kernel_rfl), ⟨g1 (by kernel_rfl), trivial, trivial⟩, ⟨g1 (by kernel_rfl), trivial, trivial⟩⟩, ⟨g1 (by kernel_rfl), ⟨g1 (by kernel_rfl), trivial, trivial⟩, trivial⟩⟩, ⟨g1 (by kernel_rfl), ⟨g1 (by kernel_rfl), ⟨g1 (by kernel_rfl), trivial, trivial⟩, trivial⟩, ⟨g1 (by kernel_rfl), trivial, trivial⟩⟩⟩⟩⟩, ⟨g1 (by kernel_rfl), ⟨g1 (by kernel_rfl), ⟨g1 (by kernel_rfl), ⟨g1 (by kernel_rfl), ⟨g1 (by kernel_rfl), ⟨g1 (by kernel_rfl), trivial, trivial⟩, ⟨g1 (by kernel_rfl), trivial, trivial⟩⟩, ⟨g1 (by kernel_rfl), ⟨g1 (by kernel_rfl), trivial, trivial⟩, trivial⟩⟩, ⟨g1 (by kernel_rfl), ⟨g1 (by kernel_rfl), ⟨g1 (by kernel_rfl), trivial, trivial⟩, ⟨g1 (by kernel_rfl), trivial, trivial⟩⟩, ⟨g1 (by kernel_rfl), ⟨g1 (by kernel_rfl), trivial, trivial⟩, trivial⟩⟩⟩, ⟨g1 (by kernel_rfl), ⟨g1 (by kernel_rfl), ⟨g1 (by kernel_rfl), ⟨g1 (by kernel_rfl), trivial, trivial⟩, ⟨g1 (by kernel_rfl), trivial, trivial⟩⟩, ⟨g1 (by kernel_rfl), ⟨g1 (by kernel_rfl), trivial, trivial⟩, trivial⟩⟩, ⟨g1 (by kernel_rfl), ⟨g1 (by kernel_rfl), ⟨g1 (by kernel_rfl), trivial, trivial⟩, ⟨g1 (by kernel_rfl), trivial, trivial⟩⟩, ⟨g1 (by kernel_rfl), ⟨g1 (by kernel_rfl), trivial, trivial⟩, trivial⟩⟩⟩⟩, ⟨g1 (by kernel_rfl), ⟨g1 (by kernel_rfl), ⟨g1 (by kernel_rfl), ⟨g1 (by kernel_rfl), ⟨g1 (by kernel_rfl), trivial, trivial⟩, ⟨g1 (by kernel_rfl), trivial, trivial⟩⟩, ⟨g1 (by kernel_rfl), ⟨g1 (by kernel_rfl), trivial, trivial⟩, trivial⟩⟩, ⟨g1 (by kernel_rfl), ⟨g1 (by kernel_rfl), ⟨g1 (by kernel_rfl), trivial, trivial⟩, ⟨g1 (by kernel_rfl), trivial, trivial⟩⟩, ⟨g1 (by kernel_rfl), ⟨g1 (by kernel_rfl), trivial, trivial⟩, trivial⟩⟩⟩, ⟨g1 (by kernel_rfl), ⟨g1 (by kernel_rfl), ⟨g1 (by kernel_rfl), ⟨g1 (by kernel_rfl), trivial, trivial⟩, ⟨g1 (by kernel_rfl), trivial, trivial⟩⟩, ⟨g1 (by kernel_rfl), ⟨g1 (by kernel_rfl), trivial, trivial⟩, trivial⟩⟩, ⟨g1 (by kernel_rfl), ⟨g1 (by kernel_rfl), ⟨g1 (by kernel_rfl), trivial, trivial⟩, trivial⟩, ⟨g1 (by kernel_rfl), ⟨g1 (by kernel_rfl), trivial, trivial⟩, trivial⟩⟩⟩⟩⟩⟩⟩
set_option maxHeartbeats 0 in
theorem ahS : ev PN sums 1000000 (.call 12 [] ⟨0, .e⟩ fun r _ => match r with | .ret (.bool b) => b | _ => false) = true := by kernel_rfl
end
end Go.Ve.T
namespace Go.Ve.T
open Go.Ve Go.Proofs Go.RowKit
noncomputable section
set_option maxRecDepth 100000
theorem YI {P : Program} {f : FuncId} {args : List Value} {args' : Array Value} {c : Value} {w : World} (hl : LR (fun _ => none) args args'.toList) (hc : vv c c = true) (H : WF P w f args ⟨0, .e⟩ fun r _ => r = .ret c) :
 Calls P f args' w fun e w' => e = .returned c ∧ Below w.heap.size w w' := by
 refine (H.2 (fun _ => none) args' w hl (HR.bare P w)).mono fun E w' hR => ?_
 obtain ⟨r, h', φ', h1, h2, h3, h4, h5⟩ := hR
 have hr := @of_decide_eq_true _ (Classical.propDecidable _) h1
 subst hr
 obtain ⟨v', rfl, hv⟩ := h5
 exact ⟨by rw [(BD hc φ').2 v' hv], h4.below⟩
theorem ahT : H6.all (fun c => vv c c) = true := by kernel_rfl
theorem ahU : ∀ n : Nat, 1 ≤ n → n ≤ 34 → H6[n]? = some (.tuple ⟨[.agg ⟨qv n⟩, .bool (isOp n)]⟩) := fun n h1 h2 => by
 have hi : isOp n = true := by unfold isOp; rw [decide_eq_true_eq]; omega
 obtain ⟨x, x1, x2, _, _⟩ := Yt (i := n) (by omega)
 have nZ : qv (n : Int) = x := by unfold qv; rw [hi, if_pos rfl]; exact x2
 unfold H6
 rw [List.getElem?_map, x1, nZ, hi]; rfl
theorem YJ {P : Program} {w0 w : World} {nm : String} {k : IntKind} {zs : List Int} (hb : Below w0.heap.size w0 w) (ht : Lib.TabIs P w0 nm k zs) : Lib.TabIs P w nm k zs := by
 unfold Lib.TabIs World.var? at ht ⊢
 cases hg : P.globalNamed nm with
 | none => rw [hg] at ht; cases ht
 | some g =>
  rw [hg] at ht
  simp only [Option.bind_some] at ht ⊢
  cases ho : w0.heap[g]? with
  | none => rw [ho] at ht; cases ht
  | some o => rw [hb.block g (Array.getElem?_eq_some_iff.1 ho).1]; exact ht
theorem yQ {k : Nat} (h : (bT PP k).isSome = true) : Can PP k := by
 obtain ⟨_, _, _, h, _⟩ := MH (g1 h (gF k) rfl)
 exact h
theorem ahV {w0 : World} (ht : Lib.TabIs PP w0 "internal/strconv.uint64pow10" .u64 Lib.pow10Tab) : Gg PP w0 sums := by
 intro p hp
 simp only [sums, List.mem_cons, List.not_mem_nil, or_false] at hp
 rcases hp with rfl | rfl | rfl | rfl | rfl
 · refine BB (yQ (by kernel_rfl)) fun args h k φ args' w e hl H => ?_
   obtain ⟨L, hL⟩ : ∃ L, args'.toList = L := ⟨_, rfl⟩
   rw [hL] at hl
   obtain ⟨v, rfl, e1⟩ := eJ e
   obtain ⟨kd, n, rfl, e2⟩ := mj e1
   obtain ⟨e3, e4⟩ := cj e2
   obtain rfl := mW e3
   cases n with
   | negSucc n => cases e4
   | ofNat n =>
    obtain ⟨e5, e6⟩ := cj (show iff (Nat.ble 1 n && Nat.ble n 34) _ = true from e4)
    rw [Bool.and_eq_true] at e5
    have n1 := Nat.le_of_ble_eq_true e5.1
    have n2 := Nat.le_of_ble_eq_true e5.2
    obtain ⟨c, hc, e7⟩ := BF _ e6
    have hp := List.all_eq_true.1 ahT c (List.mem_of_getElem? hc)
    rw [ahU n n1 n2] at hc
    cases hc
    cases hl with
    | cons _ v' _ l' h1 h2 =>
     cases h2
     obtain rfl := h1.gM
     have jS : args' = #[.int .i64 (Int.ofNat n)] := by apply Array.ext'; rw [hL]
     subst jS
     exact ⟨_, _, (BD hp φ).1, e7, YI (.cons _ _ _ _ (.int _ _) .nil) hp (Yu (n : Int) fun h' _ _ => rfl)⟩
 · refine BB (yQ (by kernel_rfl)) fun args h k φ args' w e hl H => ?_
   have e1 : args = [] ∧ k (.ret (.agg ⟨H7⟩)) h = true := by
    cases args with
    | nil => exact ⟨rfl, e⟩
    | cons _ _ => cases e
   obtain ⟨rfl, e1⟩ := e1
   have jS : args' = #[] := by
    cases gB : args'.toList with
    | nil => simpa using gB
    | cons _ _ => rw [gB] at hl; cases hl
   subst jS
   have hp : vv (.agg ⟨H7⟩) (.agg ⟨H7⟩) = true := by kernel_rfl
   exact ⟨_, _, (BD hp φ).1, e1, YI .nil hp (Yr fun h' _ _ => rfl)⟩
 · exact agn (yQ (by kernel_rfl)) fun n w h0 h1 hb => (Any.strconv_Itoa ahW n h0 h1 w (YJ hb ht)).mono fun e w' ⟨he, k, os, hw⟩ => ⟨he, hw ▸ Lib.below_grow _ w (Nat.le_refl _) k os⟩
 · exact ago (yQ (by kernel_rfl)) fun s n w hl h => (Any.strconv_Atoi ahX s n hl h w).mono fun e w' ⟨he, t, hw⟩ => ⟨he, hw ▸ Lib.bytesWorld_below w _ t⟩
 · exact agp (yQ (by kernel_rfl)) fun bk o c xs sep w h1 h2 h3 h4 h5 => Any.strings_Join ahY ahZ bk o c xs sep w h1 h2 h3 h4 h5
theorem ah0 {w0 : World} (ht : Lib.TabIs PP w0 "internal/strconv.uint64pow10" .u64 Lib.pow10Tab) (h : AH) (R : CR → AH → Prop) (hR : R (.ret (.bool true)) h) : WF PP w0 LU [] h R := by
 refine ⟨yQ (by kernel_rfl), fun φ args' w hl hh => ?_⟩
 have he : args' = #[] := by
  cases gB : args'.toList with
  | nil => simpa using gB
  | cons _ _ => rw [gB] at hl; cases hl
 subst he
 have hC : gR PP w 12 [] ⟨0, .e⟩ (fun r _ => match r with | .ret (.bool b) => b | _ => false) := Wu bE ahR (ahV (YJ hh.below ht)) _ _ ahS
 refine Calls.mono (hC.2 (fun _ => none) #[] w .nil (HR.bare PP w)) fun E w' hE => ?_
 obtain ⟨r, h', φ', h1, h2, h3, h4, h5⟩ := hE
 refine ⟨.ret (.bool true), h, φ, @decide_eq_true _ (Classical.propDecidable _) hR, Ext.refl _ _, Nat.le_refl _, HR.behind hh h4.below, ?_⟩
 cases r with
 | aP v => cases h1
 | ret v =>
  obtain ⟨v', rfl, hv⟩ := h5
  cases v with
  | bool b =>
   have hb : b = true := h1
   subst hb
   exact ⟨v', rfl, by rw [hv.pO]; exact .bool _⟩
  | _ => cases h1
end
end Go.Ve.T
namespace Go.Ve.T
open Go.Ve Go.Proofs
class qX (w0 : World) : Prop where
 t : Lib.TabIs PP w0 "internal/strconv.uint64pow10" .u64 Lib.pow10Tab
def PO : Option Bool := some true
theorem ah1 {w0 : World} [T8 : qX w0] {g h : AH} {Q : CR → AH → Prop} {r : Bool} (sg : Sub g h) (ok : h.Ok) (M : PO = some r) (H : ∀ (g' h' : AH), Sep ⟨g, h, []⟩ g' h' [] → Q (.ret (.bool r)) h') : WF PP w0 LU [] h Q := by
 cases M
 exact ah0 T8.t h Q (H g h (Sep.start sg ok))
end Go.Ve.T
namespace Go.Ve.T
open Go.Ve Go.Proofs
noncomputable section
set_option maxRecDepth 10000
def B7 (N : Nat) (v1 : al) (x2 : Int) (dW : Bool)  : Option Bool :=
 bif dW then (
(B8 N v1 x2).bind fun YP =>
(B9 N v1 x2).bind fun YQ =>
 some (decide (YP = YQ))) else (
 some false)
def Ca (N : Nat) (v2 : ak) (v1 : al) (x2 : Int) (v30 : Bool)  : Option Bool :=
 bif v30 then (
(Cb v2).bind fun YR =>
(Cc v2).bind fun YS =>
 B7 N v1 x2 (decide (YR = YS))) else (
 B7 N v1 x2 false)
def Cd (N : Nat) (v3 : Bool) (v2 : ak) (v1 : al) (x2 : Int) (v28 : Bool)  : Option Bool :=
 bif v3 then (
 Ca N v2 v1 x2 v28) else (
 Ca N v2 v1 x2 false)
def Ce (N : Nat) (v1 : al) (v3 : Bool) (v2 : ak) (x2 : Int) (aZ : Bool)  : Option Bool :=
 bif aZ then (
(vQ N v1).bind fun yR =>
(vR N v1).bind fun YT =>
(vS N yR YT).bind fun H8 =>
 Cd N v3 v2 v1 x2 H8) else (
 Cd N v3 v2 v1 x2 false)
def Cf (N : Nat) (v1 : al) (v3 : Bool) (v2 : ak) (x2 : Int) (bC : Bool)  : Option Bool :=
 bif bC then (
(Cg N v1).bind fun iX =>
(Ch N v1).bind fun gO =>
(Ci N iX gO).bind fun YU =>
 Ce N v1 v3 v2 x2 YU) else (
 Ce N v1 v3 v2 x2 false)
def H9 (N : Nat) (v2 : ak) (v1 : al) (x2 : Int) (v3 : Bool)  : Option Bool :=
(Cj N v2).bind fun cK =>
(Ck N v2).bind fun lY =>
(vS N cK lY).bind fun vT =>
 bif vT then (
(Cl N v1 x2).bind fun fJ =>
(Cm N v1 x2).bind fun YV =>
(vS N fJ YV).bind fun nw =>
 Cf N v1 v3 v2 x2 nw) else (
 Cf N v1 v3 v2 x2 false)
def Ia (N : Nat) (x0 : al) (x1 : ak) (x2 : Int) : Option Bool :=
(PO ).bind fun vU =>
(Cn x0).bind fun ff =>
 bif (!ff) then (
 some vU) else (
 H9 N x1 x0 x2 vU)
abbrev vV (c : Cx) (R : Value → W) (r : Bool) : Prop := ∀ (g' h' : AH), Sep c g' h' [] → R (.bool r) h'
theorem YW {w0 : World} [qX w0] {c : Cx} {g h : AH} {E R : Value → W} {r : Bool} {N : Nat} {v1 : al} {x2 : Int} {dW : Bool} {ah : Nat} {av aw : Value}  (M : B7 N v1 x2 dW = some r) (S : Sep c g h [.bx ah [(.string v1.aE), (.string v1.aG), (vi v1.fArgs), (vi v1.aC), (vi v1.aD), av, aw]]) (aA : ae ak.rep 4 g av v1.ab) (aB : ae aH.rep 3 g aw v1.aI)  (H : vV c R r) : LJ w0 E R (az ah 0) (vi x2) (.bool dW) h := by
 unfold LJ
 unfold B7 at M
 cases hc : dW
 · have M := aS hc M
   refine ay (by decide) ?_
   refine ay (by decide) ?_
   refine ay (by decide) ?_
   refine ay (by decide) ?_
   refine ay (by decide) ?_
   refine vW (by decide) ?_
   refine vW (by decide) ?_
   refine ay (by decide) ?_
   refine ay (by decide) ?_
   refine bf.2 ?_
   cases M
   exact H _ _  S.bj
 · have M := aR hc M
   refine ax rfl ?_
   refine S.bV [(.string v1.aE), (.string v1.aG), (vi v1.fArgs), (vi v1.aC), (vi v1.aD), av, aw] 0 rfl rfl rfl (by decide) ?_
   refine ax rfl ?_
   refine ax rfl ?_
   refine S.bV [(.string v1.aE), (.string v1.aG), (vi v1.fArgs), (vi v1.aC), (vi v1.aD), av, aw] 0 rfl rfl rfl (by decide) ?_
   refine ax rfl ?_
   refine ax rfl ?_
   obtain ⟨YP, aie, M⟩ := bind_some M
   refine aif aie S.sub S.ok aA aB (fun _ h  S1  => ?_)
   have S := S.bY S1
   refine vX rfl ?_
   refine ⟨?_, ?_⟩
   · refine yE.2 ?_
     exact Ib
   · refine vX rfl ?_
     refine ⟨?_, ?_⟩
     · refine S.bV [(.string v1.aE), (.string v1.aG), (vi v1.fArgs), (vi v1.aC), (vi v1.aD), av, aw] 0 rfl rfl rfl (by decide) ?_
       exact yS (eL tX (eL tX (eL jF (eL jF (eL jF (eL aA.qy (eL aB.qy yT)))))))
     · refine ax rfl ?_
       obtain ⟨YQ, aih, M⟩ := bind_some M
       refine aii aih S.sub S.ok aA aB (fun _ h  S1  => ?_)
       have S := S.bY S1
       refine ax rfl ?_
       refine cI.2 ?_
       refine bf.2 ?_
       cases M
       exact H _ _  S.bj
theorem YX {w0 : World} [qX w0] {c : Cx} {g h : AH} {E R : Value → W} {r : Bool} {N : Nat} {v2 : ak} {v1 : al} {x2 : Int} {v30 : Bool} {fP ah : Nat} {av aw : Value}  (M : Ca N v2 v1 x2 v30 = some r) (S : Sep c g h [.bx fP [(vi v2.aJ), (vi v2.fA), (vi v2.fB), (vi v2.fC)], .bx ah [(.string v1.aE), (.string v1.aG), (vi v1.fArgs), (vi v1.aC), (vi v1.aD), av, aw]]) (aA : ae ak.rep 4 g av v1.ab) (aB : ae aH.rep 3 g aw v1.aI)  (H : vV c R r) : LK w0 E R (az fP 0) (az ah 0) (vi x2) (.bool v30) h := by
 unfold LK
 unfold Ca at M
 cases hc : v30
 · have M := aS hc M
   refine ay (by decide) ?_
   refine ay (by decide) ?_
   refine ay (by decide) ?_
   refine vW (by decide) ?_
   refine ay (by decide) ?_
   refine ay (by decide) ?_
   refine bf.2 ?_
   have S := S.f1
   have S := S.t1
   exact YW M S aA aB H
 · have M := aR hc M
   refine ax rfl ?_
   refine S.bV [(vi v2.aJ), (vi v2.fA), (vi v2.fB), (vi v2.fC)] 0 rfl rfl rfl (by decide) ?_
   refine ax rfl ?_
   refine S.bV [(vi v2.aJ), (vi v2.fA), (vi v2.fB), (vi v2.fC)] 0 rfl rfl rfl (by decide) ?_
   refine ax rfl ?_
   obtain ⟨YR, aij, M⟩ := bind_some M
   refine aik aij S.sub S.ok (fun _ h  S1  => ?_)
   have S := S.bY S1
   refine vX rfl ?_
   refine ⟨?_, ?_⟩
   · refine S.bV [(vi v2.aJ), (vi v2.fA), (vi v2.fB), (vi v2.fC)] 0 rfl rfl rfl (by decide) ?_
     exact yS (eL jF (eL jF (eL jF (eL jF yT))))
   · refine ax rfl ?_
     obtain ⟨YS, ail, M⟩ := bind_some M
     refine aim ail S.sub S.ok (fun _ h  S1  => ?_)
     have S := S.bY S1
     refine ax rfl ?_
     refine cI.2 ?_
     refine bf.2 ?_
     have S := S.f1
     have S := S.t1
     exact YW M S aA aB H
theorem YY {w0 : World} [qX w0] {c : Cx} {g h : AH} {E R : Value → W} {r : Bool} {N : Nat} {v3 : Bool} {v2 : ak} {v1 : al} {x2 : Int} {v28 : Bool} {fP ah : Nat} {av aw : Value}  (M : Cd N v3 v2 v1 x2 v28 = some r) (S : Sep c g h [.bx fP [(vi v2.aJ), (vi v2.fA), (vi v2.fB), (vi v2.fC)], .bx ah [(.string v1.aE), (.string v1.aG), (vi v1.fArgs), (vi v1.aC), (vi v1.aD), av, aw]]) (aA : ae ak.rep 4 g av v1.ab) (aB : ae aH.rep 3 g aw v1.aI)  (H : vV c R r) : LM w0 E R (.bool v3) (az fP 0) (az ah 0) (vi x2) (.bool v28) h := by
 unfold LM
 unfold Cd at M
 cases hc : v3
 · have M := aS hc M
   refine ay (by decide) ?_
   refine bf.2 ?_
   exact YX M S aA aB H
 · have M := aR hc M
   refine ax rfl ?_
   refine bf.2 ?_
   exact YX M S aA aB H
theorem YZ {w0 : World} [qX w0] {c : Cx} {g h : AH} {E R : Value → W} {r : Bool} {N : Nat} {v1 : al} {v3 : Bool} {v2 : ak} {x2 : Int} {aZ : Bool} {ah : Nat} {av aw : Value} {fP : Nat}  (M : Ce N v1 v3 v2 x2 aZ = some r) (S : Sep c g h [.bx ah [(.string v1.aE), (.string v1.aG), (vi v1.fArgs), (vi v1.aC), (vi v1.aD), av, aw], .bx fP [(vi v2.aJ), (vi v2.fA), (vi v2.fB), (vi v2.fC)]]) (aA : ae ak.rep 4 g av v1.ab) (aB : ae aH.rep 3 g aw v1.aI)  (H : vV c R r) : LN w0 E R (az ah 0) (.bool v3) (az fP 0) (vi x2) (.bool aZ) h := by
 unfold LN
 unfold Ce at M
 cases hc : aZ
 · have M := aS hc M
   refine ay (by decide) ?_
   refine ay (by decide) ?_
   refine ay (by decide) ?_
   refine vW (by decide) ?_
   refine ay (by decide) ?_
   refine ay (by decide) ?_
   refine bf.2 ?_
   have S := S.f1
   exact YY M S aA aB H
 · have M := aR hc M
   refine ax rfl ?_
   refine S.bV [(.string v1.aE), (.string v1.aG), (vi v1.fArgs), (vi v1.aC), (vi v1.aD), av, aw] 0 rfl rfl rfl (by decide) ?_
   refine ax rfl ?_
   refine S.bV [(.string v1.aE), (.string v1.aG), (vi v1.fArgs), (vi v1.aC), (vi v1.aD), av, aw] 0 rfl rfl rfl (by decide) ?_
   refine ax rfl ?_
   obtain ⟨yR, PU, M⟩ := bind_some M
   refine ain PU S.sub S.ok aA aB (fun g h an4 S1 PV => ?_)
   have aA := ae.mono aA ak.mono S1.bX
   have aB := ae.mono aB aH.mono S1.bX
   have S := S.lC S1
   refine vX rfl ?_
   refine ⟨?_, ?_⟩
   · refine S.bV [(.string v1.aE), (.string v1.aG), (vi v1.fArgs), (vi v1.aC), (vi v1.aD), av, aw] 0 rfl rfl rfl (by decide) ?_
     exact yS (eL tX (eL tX (eL jF (eL jF (eL jF (eL aA.qy (eL aB.qy yT)))))))
   · refine ax rfl ?_
     obtain ⟨YT, aio, M⟩ := bind_some M
     refine aip aio S.sub S.ok aA aB (fun g h an5 S1 aiq => ?_)
     have aA := ae.mono aA ak.mono S1.bX
     have aB := ae.mono aB aH.mono S1.bX
     have PV := ae.mono PV (ig .i64) S1.bX
     have S := S.lC S1
     refine ax rfl ?_
     obtain ⟨H8, PW, M⟩ := bind_some M
     refine PY PW S.sub S.ok PV aiq (fun _ h  S1  => ?_)
     have S := S.bY S1
     refine bf.2 ?_
     have S := S.f1
     exact YY M S aA aB H
theorem Y0 {w0 : World} [qX w0] {c : Cx} {g h : AH} {E R : Value → W} {r : Bool} {N : Nat} {v1 : al} {v3 : Bool} {v2 : ak} {x2 : Int} {bC : Bool} {ah : Nat} {av aw : Value} {fP : Nat}  (M : Cf N v1 v3 v2 x2 bC = some r) (S : Sep c g h [.bx ah [(.string v1.aE), (.string v1.aG), (vi v1.fArgs), (vi v1.aC), (vi v1.aD), av, aw], .bx fP [(vi v2.aJ), (vi v2.fA), (vi v2.fB), (vi v2.fC)]]) (aA : ae ak.rep 4 g av v1.ab) (aB : ae aH.rep 3 g aw v1.aI)  (H : vV c R r) : LQ w0 E R (az ah 0) (.bool v3) (az fP 0) (vi x2) (.bool bC) h := by
 unfold LQ
 unfold Cf at M
 cases hc : bC
 · have M := aS hc M
   refine ay (by decide) ?_
   refine ay (by decide) ?_
   refine ay (by decide) ?_
   refine vW (by decide) ?_
   refine ay (by decide) ?_
   refine ay (by decide) ?_
   refine bf.2 ?_
   exact YZ M S aA aB H
 · have M := aR hc M
   refine ax rfl ?_
   refine S.bV [(.string v1.aE), (.string v1.aG), (vi v1.fArgs), (vi v1.aC), (vi v1.aD), av, aw] 0 rfl rfl rfl (by decide) ?_
   refine ax rfl ?_
   refine S.bV [(.string v1.aE), (.string v1.aG), (vi v1.fArgs), (vi v1.aC), (vi v1.aD), av, aw] 0 rfl rfl rfl (by decide) ?_
   refine ax rfl ?_
   obtain ⟨iX, PZ, M⟩ := bind_some M
   refine air PZ S.sub S.ok aA aB (fun g h an6 S1 P0 => ?_)
   have aA := ae.mono aA ak.mono S1.bX
   have aB := ae.mono aB aH.mono S1.bX
   have S := S.lC S1
   refine vX rfl ?_
   refine ⟨?_, ?_⟩
   · refine S.bV [(.string v1.aE), (.string v1.aG), (vi v1.fArgs), (vi v1.aC), (vi v1.aD), av, aw] 0 rfl rfl rfl (by decide) ?_
     exact yS (eL tX (eL tX (eL jF (eL jF (eL jF (eL aA.qy (eL aB.qy yT)))))))
   · refine ax rfl ?_
     obtain ⟨gO, Co, M⟩ := bind_some M
     refine ais Co S.sub S.ok aA aB (fun g h an7 S1 ait => ?_)
     have aA := ae.mono aA ak.mono S1.bX
     have aB := ae.mono aB aH.mono S1.bX
     have P0 := ae.mono P0 qz S1.bX
     have S := S.lC S1
     refine ax rfl ?_
     obtain ⟨YU, aiu, M⟩ := bind_some M
     refine aiv aiu S.sub S.ok P0 ait (fun _ h  S1  => ?_)
     have S := S.bY S1
     refine bf.2 ?_
     exact YZ M S aA aB H
theorem aiw {w0 : World} [qX w0] {c : Cx} {g h : AH} {E R : Value → W} {r : Bool} {N : Nat} {v2 : ak} {v1 : al} {x2 : Int} {v3 : Bool} {fP ah : Nat} {av aw : Value}  (M : H9 N v2 v1 x2 v3 = some r) (S : Sep c g h [.bx fP [(vi v2.aJ), (vi v2.fA), (vi v2.fB), (vi v2.fC)], .bx ah [(.string v1.aE), (.string v1.aG), (vi v1.fArgs), (vi v1.aC), (vi v1.aD), av, aw]]) (aA : ae ak.rep 4 g av v1.ab) (aB : ae aH.rep 3 g aw v1.aI)  (H : vV c R r) : LS w0 E R (az fP 0) (az ah 0) (vi x2) (.bool v3) h := by
 unfold LS
 unfold H9 at M
 refine S.bV [(vi v2.aJ), (vi v2.fA), (vi v2.fB), (vi v2.fC)] 0 rfl rfl rfl (by decide) ?_
 refine S.bV [(vi v2.aJ), (vi v2.fA), (vi v2.fB), (vi v2.fC)] 0 rfl rfl rfl (by decide) ?_
 obtain ⟨cK, gH, M⟩ := bind_some M
 refine aix gH S.sub S.ok (fun g h w_9 S1 o3 => ?_)
 have aA := ae.mono aA ak.mono S1.bX
 have aB := ae.mono aB aH.mono S1.bX
 have S := S.lC S1
 refine ⟨?_, ?_⟩
 · refine S.bV [(vi v2.aJ), (vi v2.fA), (vi v2.fB), (vi v2.fC)] 0 rfl rfl rfl (by decide) ?_
   exact yS (eL jF (eL jF (eL jF (eL jF yT))))
 · obtain ⟨lY, tY, M⟩ := bind_some M
   refine aiy tY S.sub S.ok (fun g h an8 S1 Cp => ?_)
   have o3 := ae.mono o3 (ig .i64) S1.bX
   have aA := ae.mono aA ak.mono S1.bX
   have aB := ae.mono aB aH.mono S1.bX
   have S := S.lC S1
   obtain ⟨vT, P1, M⟩ := bind_some M
   refine PY P1 S.sub S.ok o3 Cp (fun _ h  S1  => ?_)
   have S := S.bY S1
   cases hc : vT
   · have M := aS hc M
     refine ay (by decide) ?_
     refine ay (by decide) ?_
     refine ay (by decide) ?_
     refine ay (by decide) ?_
     refine ay (by decide) ?_
     refine vW (by decide) ?_
     refine vW (by decide) ?_
     refine ay (by decide) ?_
     refine ay (by decide) ?_
     refine bf.2 ?_
     have S := S.f1
     exact Y0 M S aA aB H
   · have M := aR hc M
     refine ax rfl ?_
     refine S.bV [(.string v1.aE), (.string v1.aG), (vi v1.fArgs), (vi v1.aC), (vi v1.aD), av, aw] 1 rfl rfl rfl (by decide) ?_
     refine ax rfl ?_
     refine ax rfl ?_
     refine S.bV [(.string v1.aE), (.string v1.aG), (vi v1.fArgs), (vi v1.aC), (vi v1.aD), av, aw] 1 rfl rfl rfl (by decide) ?_
     refine ax rfl ?_
     refine ax rfl ?_
     obtain ⟨fJ, vY, M⟩ := bind_some M
     refine aiz vY S.sub S.ok aA aB (fun g h an9 S1 vZ => ?_)
     have o3 := ae.mono o3 (ig .i64) S1.bX
     have Cp := ae.mono Cp (ig .i64) S1.bX
     have aA := ae.mono aA ak.mono S1.bX
     have aB := ae.mono aB aH.mono S1.bX
     have S := S.lC S1
     refine vX rfl ?_
     refine ⟨?_, ?_⟩
     · refine yE.2 ?_
       exact Ib
     · refine vX rfl ?_
       refine ⟨?_, ?_⟩
       · refine S.bV [(.string v1.aE), (.string v1.aG), (vi v1.fArgs), (vi v1.aC), (vi v1.aD), av, aw] 1 rfl rfl rfl (by decide) ?_
         exact yS (eL tX (eL tX (eL jF (eL jF (eL jF (eL aA.qy (eL aB.qy yT)))))))
       · refine ax rfl ?_
         obtain ⟨YV, aiA, M⟩ := bind_some M
         refine aiB aiA S.sub S.ok aA aB (fun g h aoa S1 aiC => ?_)
         have o3 := ae.mono o3 (ig .i64) S1.bX
         have Cp := ae.mono Cp (ig .i64) S1.bX
         have aA := ae.mono aA ak.mono S1.bX
         have aB := ae.mono aB aH.mono S1.bX
         have vZ := ae.mono vZ (ig .i64) S1.bX
         have S := S.lC S1
         refine ax rfl ?_
         obtain ⟨nw, r8, M⟩ := bind_some M
         refine PY r8 S.sub S.ok vZ aiC (fun _ h  S1  => ?_)
         have S := S.bY S1
         refine bf.2 ?_
         have S := S.f1
         exact Y0 M S aA aB H
theorem ada {w0 : World} [qX w0] {g h : AH} {Q : CR → AH → Prop} {r : Bool} {N : Nat} {x0 : al} {x1 : ak} {x2 : Int} {bN bO : Value} (M : Ia N x0 x1 x2 = some r) (sg : Sub g h) (ok : h.Ok) (bL : ae ak.rep 4 g bN x0.ab) (bS : ae aH.rep 3 g bO x0.aI) (H : vV ⟨g, h, []⟩ (fun v => Q (.ret v)) r) : WF PP w0 TZ [(.agg ⟨[(.string x0.aE), (.string x0.aG), (vi x0.fArgs), (vi x0.aC), (vi x0.aD), bN, bO]⟩), (.agg ⟨[(vi x1.aJ), (vi x1.fA), (vi x1.fB), (vi x1.fC)]⟩), (vi x2)] h Q := by
 refine ac6 _ _ _ ?_
 have S := Sep.start sg ok
 unfold TY
 unfold Ia at M
 refine S.box [(.string x0.aE), (.string x0.aG), (vi x0.fArgs), (vi x0.aC), (vi x0.aD), bN, bO] rfl (aa rfl (aa rfl (aa rfl (aa rfl (aa rfl (aa bL.one (aa bS.one rfl))))))) (fun fX h S => ?_)
 refine S.box [(vi x1.aJ), (vi x1.fA), (vi x1.fB), (vi x1.fC)] rfl (aa rfl (aa rfl (aa rfl (aa rfl rfl)))) (fun yU h S => ?_)
 obtain ⟨vU, P2, M⟩ := bind_some M
 refine ah1 S.sub S.ok P2 (fun _ h  S1  => ?_)
 have S := S.bY S1
 refine S.bV [(.string x0.aE), (.string x0.aG), (vi x0.fArgs), (vi x0.aC), (vi x0.aD), bN, bO] 1 rfl rfl rfl (by decide) ?_
 obtain ⟨ff, ku, M⟩ := bind_some M
 refine aiD ku S.sub S.ok bL bS (fun _ h  S1  => ?_)
 have S := S.bY S1
 refine ec.2 ?_
 refine bp (fun hc => ?_) (fun hc => ?_)
 · have M := aR hc M
   cases M
   exact H _ _  S.bj
 · have M := aS hc M
   exact aiw M S bL bS H
end
end Go.Ve.T
namespace Go.Ve.T
open Go.Ve
noncomputable section
theorem xm (x a b : Int) : o6 x a b = some (decide (a ≤ x ∧ x ≤ b)) := by
 unfold o6
 by_cases h : a ≤ x <;> simp [h]
theorem xn (x a b : Int) : pe x a b = some (decide (a ≤ x ∧ x ≤ b)) := by
 unfold pe
 by_cases h : a ≤ x <;> simp [h]
def Sm (k : Int) : Int := if k = 3 then 11 else if k = 4 then 3 else if k = 5 then 4 else if k = 7 then 5 else if k = 9 then 10 else if k = 10 then 9 else if k = 11 then 12 else if k = 12 then 13 else k
def uD (op : Int) : ct := bif isOp op then ⟨⟨if op = 20 then 7 else Sm (cU op).dG.e0, Sm (cU op).dG.e1, Sm (cU op).dG.e2⟩, (cU op).iY, (cU op).c7, (cU op).jr⟩ else ⟨⟨0, 0, 0⟩, 0, ⟨0, 0⟩, false⟩
theorem Jn (op : Int) : ui op = some (uD op, isOp op) := by
 cases h : isOp op with
 | true => rcases B5 h with rfl | rfl | rfl | rfl | rfl | rfl | rfl | rfl | rfl | rfl | rfl | rfl | rfl | rfl | rfl | rfl | rfl | rfl | rfl | rfl | rfl | rfl | rfl | rfl | rfl | rfl | rfl | rfl | rfl | rfl | rfl | rfl | rfl | rfl <;> rfl
 | false =>
  have hh : ∀ k : Int, 1 ≤ k → k ≤ 34 → decide (op = k) = false := fun k h1 h2 => decide_eq_false fun e => by subst e; unfold isOp at h; rw [decide_eq_false_iff_not] at h; omega
  have e : uD op = ⟨⟨0, 0, 0⟩, 0, ⟨0, 0⟩, false⟩ := by unfold uD; rw [h]; rfl
  rw [e]
  unfold ui CK wE uh zm Iv
  simp [hh, cond_false]
def sy {α β : Type} (st : Int → α → Option (Option β)) (fin : Option β) : List α → Int → Option β
 | [], _ => fin
 | a :: r, y => match st y a with
  | some b => b
  | none => sy st fin r (y + 1)
theorem sA {α β : Type} (l : List α) (I : Nat → Int → Option β) (st : Int → α → Option (Option β)) (fin : Option β) (hl : l.length < 1000000)
 (step : ∀ n (y : Int) a, y < l.length → ix l y = some a → I (n + 1) y = match st y a with | some b => b | none => I n (bt .i64 (y + 1)))
 (stop : ∀ n, I (n + 1) (l.length : Int) = fin) : ∀ (n i : Nat), i ≤ l.length → l.length < n + i → I n (i : Int) = sy st fin (l.drop i) i
 | 0, i, h1, h2 => by omega
 | n + 1, i, h1, h2 => by
  by_cases hi : i < l.length
  · have ea : ix l (i : Int) = some l[i] := List.getElem?_eq_getElem hi
    rw [step n i l[i] (by omega) ea, List.drop_eq_getElem_cons hi]
    show _ = match st i l[i] with | some b => b | none => sy st fin (l.drop (i + 1)) ((i : Int) + 1)
    cases st i l[i] with
    | some b => rfl
    | none =>
     show I n (bt .i64 ((i : Int) + 1)) = _
     rw [oU (by omega) (by omega)]
     have := sA l I st fin hl step stop n (i + 1) hi (by omega)
     rw [show ((i + 1 : Nat) : Int) = (i : Int) + 1 from rfl] at this
     exact this
  · have : i = l.length := by omega
    subst this
    rw [stop, List.drop_length]; rfl
def mb {α : Type} (p : α → Bool) : List α → Int → Int
 | [], _ => -1
 | a :: r, y => bif p a then y else mb p r (y + 1)
theorem Eo {α : Type} (p : α → Bool) : ∀ (l : List α) (y : Int), sy (fun y a => bif p a then some (some y) else none) (some (-1)) l y = some (mb p l y)
 | [], y => rfl
 | a :: r, y => by
  unfold sy mb
  cases p a with
  | true => rfl
  | false => exact Eo p r (y + 1)
theorem aa6 {α : Type} (p : α → Bool) : ∀ (l : List α) (y : Int), 0 ≤ y → mb p l y = -1 ∨ ∃ (k : Nat) (a : α), l[k]? = some a ∧ p a = true ∧ mb p l y = y + k
 | [], y, _ => .inl rfl
 | a :: r, y, hy => by
  unfold mb
  cases hp : p a with
  | true => exact .inr ⟨0, a, rfl, hp, (Int.add_zero y).symm⟩
  | false =>
   rcases aa6 p r (y + 1) (by omega) with h | ⟨k, b, h1, h2, h3⟩
   · exact .inl h
   · refine .inr ⟨k + 1, b, h1, h2, ?_⟩
     show mb p r (y + 1) = _
     rw [h3]; omega
theorem Jo {σ β : Type} (I : Nat → σ → Int → Option β) (hi : Nat) (Inv : Nat → σ → Prop)
 (step : ∀ n (i : Nat) s, i < hi → Inv i s → ∃ s', Inv (i + 1) s' ∧ I (n + 1) s (i : Int) = I n s' ((i : Int) + 1)) : ∀ n (i : Nat) s, Inv i s → i ≤ hi → hi < n + i → ∃ n' s', Inv hi s' ∧ I n s (i : Int) = I (n' + 1) s' (hi : Int)
 | 0, i, s, h, h1, h2 => by omega
 | n + 1, i, s, h, h1, h2 => by
  by_cases e : i < hi
  · obtain ⟨s', h3, h4⟩ := step n i s e h
    obtain ⟨n', s2, h5, h6⟩ := Jo I hi Inv step n (i + 1) s' h3 e (by omega)
    exact ⟨n', s2, h5, h4.trans h6⟩
  · have : i = hi := by omega
    subst this
    exact ⟨n, s, h, rfl⟩
def gJ (i : ak) : Option Int := if i.aJ = 24 then some i.fA else if i.aJ = 25 ∨ i.aJ = 32 then some i.fB else none
theorem Sn (i : ak) : wF i = some (match gJ i with | some x => (x, true) | none => (0, false)) := by
 unfold wF Iz CM Iy gJ
 by_cases Sp : i.aJ = 24
 · simp [Sp]
 · by_cases h25 : i.aJ = 25
   · simp [Sp, h25]
   · by_cases h32 : i.aJ = 32 <;> simp [Sp, h25, h32]
theorem aa7 (n : Nat) (i : ak) (ho : isOp i.aJ = true) : wq (n + 4) i = some (gJ i).toList := by
 unfold wq wu gJ
 rcases B5 ho with h | h | h | h | h | h | h | h | h | h | h | h | h | h | h | h | h | h | h | h | h | h | h | h | h | h | h | h | h | h | h | h | h | h <;> rw [h] <;> rfl
theorem aa8 (N : Nat) (l : List aH) (f : aH → Option Bool) (p : aH → Bool) (hf : ∀ a, f a = some (p a)) (hl : l.length < 1000000) (hN : l.length < N) : zf N l f = some (mb p l 0) := by
 unfold zf
 rw [← Eo]
 exact sA l (fun n y => ze N (l.length : Int) l f n y) _ _ hl (fun n y a hy ha => by
  show (bif decide (y < (l.length : Int)) then ((ix l y).bind fun eW => (f eW).bind fun cK => bif cK then some y else ze N (l.length : Int) l f n (bt .i64 (y + 1))) else some (-1)) = _
  rw [decide_eq_true hy, ha]
  show ((f a).bind _) = _
  rw [hf]
  cases p a <;> rfl) (fun n => by
  show (bif decide ((l.length : Int) < (l.length : Int)) then _ else some (-1)) = _
  rw [decide_eq_false (Int.lt_irrefl _)]; rfl) N 0 (Nat.zero_le _) (by omega)
theorem am3 (N : Nat) (l : List Int) (f : Int → Option Bool) (p : Int → Bool) (hf : ∀ a, f a = some (p a)) (hl : l.length < 1000000) (hN : l.length < N) : CA N l f = some (mb p l 0) := by
 unfold CA
 rw [← Eo]
 exact sA l (fun n y => zc N (l.length : Int) l f n y) _ _ hl (fun n y a hy ha => by
  show (bif decide (y < (l.length : Int)) then ((ix l y).bind fun eW => (f eW).bind fun cK => bif cK then some y else zc N (l.length : Int) l f n (bt .i64 (y + 1))) else some (-1)) = _
  rw [decide_eq_true hy, ha]
  show ((f a).bind _) = _
  rw [hf]
  cases p a <;> rfl) (fun n => by
  show (bif decide ((l.length : Int) < (l.length : Int)) then _ else some (-1)) = _
  rw [decide_eq_false (Int.lt_irrefl _)]; rfl) N 0 (Nat.zero_le _) (by omega)
theorem Jp {α β : Type} (p : α → Bool) (b : β) (fin : Option β) : ∀ (l : List α) (y : Int), sy (fun _ a => bif p a then none else some (some b)) fin l y = bif l.all p then fin else some b
 | [], _ => rfl
 | a :: r, y => by
  unfold sy
  rw [List.all_cons]
  cases p a with
  | false => rfl
  | true => exact Jp p b fin r (y + 1)
theorem Sq {α : Type} (p : α → Bool) (l : List α) : decide (0 ≤ mb p l 0) = l.any p := by
 have key : ∀ (l : List α) (y : Int), 0 ≤ y → decide (0 ≤ mb p l y) = l.any p := by
  intro l
  induction l with
  | nil => intro y _; rfl
  | cons a r ih =>
   intro y hy
   unfold mb
   rw [List.any_cons]
   cases p a with
   | true => exact decide_eq_true hy
   | false => exact ih (y + 1) (by omega)
 exact key l 0 (Int.le_refl 0)
def pG (n : Int) (i : ak) : Bool := isOp i.aJ && (match gJ i with | some x => decide (0 ≤ x ∧ x ≤ n - 1) | none => true)
def kZ (n : Int) (g : aH) : Bool := decide (g.dN < 0) || (decide (g.ew ≤ g.dN) || (decide (n < g.ew) || !decide (0 ≤ g.dJ ∧ g.dJ ≤ n - 1)))
def iH (u : al) : Bool := decide (1 ≤ (u.ab.length : Int) ∧ (u.ab.length : Int) ≤ 600) && (!decide (40 < (u.aI.length : Int)) && (decide (0 ≤ u.aC ∧ u.aC ≤ 200) && (decide (0 ≤ u.aD ∧ u.aD ≤ 200) && (u.ab.all (pG u.ab.length) && !u.aI.any (kZ u.ab.length)))))
theorem am4 (n : Int) (hn : bt .i64 (n - 1) = n - 1) (g : aH) : zi g n = some (kZ n g) := by
 unfold zi CE CD kZ
 rw [xm, hn]
 cases decide (g.dN < 0) <;> cases decide (g.ew ≤ g.dN) <;> cases decide (n < g.ew) <;> rfl
theorem am5 (N : Nat) (hN : 1000 ≤ N) (u : al) (hl : u.ab.length ≤ 600) (hg : u.aI.length ≤ 40) : CG N u (u.ab.length : Int) = some (u.ab.all (pG u.ab.length) && !u.aI.any (kZ u.ab.length)) := by
 have hw : bt .i64 ((u.ab.length : Int) - 1) = (u.ab.length : Int) - 1 := oU (by omega) (by omega)
 have Sr : zk N u (u.ab.length : Int) = some (!u.aI.any (kZ u.ab.length)) := by
  unfold zk Is
  rw [aa8 N u.aI _ (kZ u.ab.length) (fun a => am4 _ hw a) (by omega) (by omega)]
  show some (!decide (0 ≤ mb (kZ u.ab.length) u.aI 0)) = _
  rw [Sq]
 obtain ⟨n, rfl⟩ : ∃ n, N = n + 4 := ⟨N - 4, by omega⟩
 unfold CG
 have h := sA u.ab (fun m y => CF (n + 4) (u.ab.length : Int) u.ab (u.ab.length : Int) u m y) (fun _ a => bif pG u.ab.length a then none else some (some false)) (some (!u.aI.any (kZ u.ab.length))) (by omega)
  (fun m y a hy ha => by
   show (bif decide (y < (u.ab.length : Int)) then ((ix u.ab y).bind fun eH => (some (cU eH.aJ, isOp eH.aJ)).bind fun fJ => bif (!fJ.2) then zj (n + 4) y true u _ else ((wq (n + 4) eH).bind fun lD => (CC (n + 4) lD (fun a0 => zh a0 (u.ab.length : Int))).bind fun nw => zj (n + 4) y nw u _)) else _) = _
   rw [decide_eq_true hy, ha]
   simp only [Option.bind_some, cond_true]
   unfold pG
   cases ho : isOp a.aJ with
   | false => rfl
   | true =>
    rw [aa7 n a ho]
    simp only [Option.bind_some, Bool.not_true, cond_false, Bool.true_and]
    unfold CC
    have hlen : (gJ a).toList.length ≤ 1 := by cases gJ a <;> simp
    rw [am3 (n + 4) _ _ (fun x => !decide (0 ≤ x ∧ x ≤ (u.ab.length : Int) - 1)) (fun x => by unfold zh; rw [xm, hw]; rfl) (by omega) (by omega)]
    simp only [Option.bind_some]
    rw [Sq]
    cases gJ a with
    | none => rfl
    | some x =>
     have e1 : ((some x).toList.any fun x => !decide (0 ≤ x ∧ x ≤ (u.ab.length : Int) - 1)) = !decide (0 ≤ x ∧ x ≤ (u.ab.length : Int) - 1) := by simp
     rw [e1]
     dsimp only
     by_cases hd : 0 ≤ x ∧ x ≤ (u.ab.length : Int) - 1
     · rw [decide_eq_true hd]; rfl
     · rw [decide_eq_false hd]; rfl)
  (fun m => by
   show (bif decide ((u.ab.length : Int) < (u.ab.length : Int)) then _ else zk (n + 4) u (u.ab.length : Int)) = _
   rw [decide_eq_false (Int.lt_irrefl _)]; exact Sr) (n + 4) 0 (Nat.zero_le _) (by omega)
 refine h.trans ?_
 rw [List.drop_zero, Jp]
 cases u.ab.all (pG u.ab.length) <;> rfl
theorem Ep (N : Nat) (hN : 1000 ≤ N) (u : al) : ud N u = some (iH u) := by
 unfold ud iH CJ CI CH
 rw [xm, xm, xm]
 by_cases h1 : 1 ≤ (u.ab.length : Int) ∧ (u.ab.length : Int) ≤ 600
 · rw [decide_eq_true h1]
   by_cases h2 : 40 < (u.aI.length : Int)
   · rw [decide_eq_true h2]; rfl
   · rw [decide_eq_false h2, am5 N hN u (by omega) (by omega)]
     cases decide (0 ≤ u.aC ∧ u.aC ≤ 200) <;> cases decide (0 ≤ u.aD ∧ u.aD ≤ 200) <;> rfl
 · rw [decide_eq_false h1]; rfl
theorem am6 (N : Nat) (hN : 1000 ≤ N) (u : al) (hl : u.ab.length ≤ 600) (hg : u.aI.length ≤ 40) : CU N (u.ab.length : Int) u = some (u.ab.all (pG u.ab.length) && !u.aI.any (kZ u.ab.length)) := by
 have hw : bt .i64 ((u.ab.length : Int) - 1) = (u.ab.length : Int) - 1 := oU (by omega) (by omega)
 have Sr : zp N u (u.ab.length : Int) = some (!u.aI.any (kZ u.ab.length)) := by
  unfold zp
  have h := sA u.aI (fun m y => CS N u (u.ab.length : Int) m y) (fun _ a => bif !kZ u.ab.length a then none else some (some false)) (some true) (by omega)
   (fun m y a hy ha => by
    show (bif decide (y < (u.aI.length : Int)) then ((ix u.aI y).bind fun iX => bif (decide (iX.dN < 0)) then wI N iX (u.ab.length : Int) y true u _ else wI N iX (u.ab.length : Int) y (decide (iX.ew ≤ iX.dN)) u _) else _) = _
    rw [decide_eq_true hy, ha]
    simp only [Option.bind_some, cond_true]
    unfold wI CP CO kZ
    rw [xn, hw]
    cases decide (a.dN < 0) <;> cases decide (a.ew ≤ a.dN) <;> cases decide ((u.ab.length : Int) < a.ew) <;> cases decide (0 ≤ a.dJ ∧ a.dJ ≤ (u.ab.length : Int) - 1) <;> rfl)
   (fun m => by
    show (bif decide ((u.aI.length : Int) < (u.aI.length : Int)) then _ else some true) = _
    rw [decide_eq_false (Int.lt_irrefl _)]; rfl) N 0 (Nat.zero_le _) (by omega)
  refine h.trans ?_
  rw [List.drop_zero, Jp]
  have : u.aI.all (fun a => !kZ u.ab.length a) = !u.aI.any (kZ u.ab.length) := by simp [List.all_eq_not_any_not]
  rw [this]
  cases u.aI.any (kZ u.ab.length) <;> rfl
 unfold CU
 have h := sA u.ab (fun m y => CT N (u.ab.length : Int) u m y) (fun _ a => bif pG u.ab.length a then none else some (some false)) (some (!u.aI.any (kZ u.ab.length))) (by omega)
  (fun m y a hy ha => by
   show (bif decide (y < (u.ab.length : Int)) then CN N u y (u.ab.length : Int) _ else _) = _
   unfold CN
   rw [decide_eq_true hy, ha]
   simp only [Option.bind_some, cond_true, Jn, Sn, xn, hw]
   unfold zo pG
   cases isOp a.aJ with
   | false => rfl
   | true =>
    cases gJ a with
    | none => rfl
    | some x =>
     simp only [Bool.not_true, cond_false, cond_true, Bool.true_and]
     cases decide (0 ≤ x ∧ x ≤ (u.ab.length : Int) - 1) <;> rfl)
  (fun m => by
   show (bif decide ((u.ab.length : Int) < (u.ab.length : Int)) then _ else zp N u (u.ab.length : Int)) = _
   rw [decide_eq_false (Int.lt_irrefl _)]; exact Sr) N 0 (Nat.zero_le _) (by omega)
 refine h.trans ?_
 rw [List.drop_zero, Jp]
 cases u.ab.all (pG u.ab.length) <;> rfl
theorem Er (N : Nat) (hN : 1000 ≤ N) (u : al) : uj N u = some (iH u) := by
 unfold uj iH CX CW CV
 rw [xn, xn, xn]
 by_cases h1 : 1 ≤ (u.ab.length : Int) ∧ (u.ab.length : Int) ≤ 600
 · rw [decide_eq_true h1]
   by_cases h2 : 40 < (u.aI.length : Int)
   · rw [decide_eq_true h2]; rfl
   · rw [decide_eq_false h2, am6 N hN u (by omega) (by omega)]
     cases decide (0 ≤ u.aC ∧ u.aC ≤ 200) <;> cases decide (0 ≤ u.aD ∧ u.aD ≤ 200) <;> rfl
 · rw [decide_eq_false h1]; rfl
end
end Go.Ve.T
namespace Go.Ve.T
open Go.Ve
noncomputable section
theorem SB {ρ : Type} (len : Nat) (I : Nat → Nat → Option ρ) (F : Option ρ) (step : ∀ n i, i < len → I (n + 1) i = I n (i + 1)) (stop : ∀ n, I (n + 1) len = F) : ∀ n i, i ≤ len → len < n + i → I n i = F
 | 0, i, h1, h2 => by omega
 | n + 1, i, h1, h2 => by
  by_cases hi : i < len
  · rw [step n i hi]; exact SB len I F step stop n (i + 1) hi (by omega)
  · have : i = len := by omega
    subst this; exact stop n
theorem sB (i : Nat) (h : i < 1000000) : bt .i64 ((i : Int) + 1) = ((i + 1 : Nat) : Int) := by rw [oU (by omega) (by omega)]; rfl
theorem xo (i n : Nat) (h : i < n) : decide ((i : Int) < (n : Int)) = true := decide_eq_true (by omega)
theorem xp (n : Nat) : decide ((n : Int) < (n : Int)) = false := decide_eq_false (Int.lt_irrefl _)
structure xr (u : al) (cB : List Bool) : Prop where
 pl : iH u = true
 len : cB.length = u.ab.length
theorem xr.n1 {u : al} {cB : List Bool} (H : xr u cB) : 1 ≤ u.ab.length ∧ u.ab.length ≤ 600 ∧ u.aI.length ≤ 40 := by
 have := H.pl
 unfold iH at this
 simp only [Bool.and_eq_true, decide_eq_true_eq, Bool.not_eq_true', decide_eq_false_iff_not] at this
 omega
theorem xr.jmp {u : al} {cB : List Bool} (H : xr u cB) {i : Nat} {x : ak} (hx : u.ab[i]? = some x) {p : Int} (hp : gJ x = some p) : 0 ≤ p ∧ p < u.ab.length := by
 have := H.pl
 unfold iH at this
 simp only [Bool.and_eq_true] at this
 have h := List.all_eq_true.1 this.2.2.2.2.1 x (List.mem_of_getElem? hx)
 unfold pG at h
 rw [hp] at h
 simp only [Bool.and_eq_true, decide_eq_true_eq] at h
 omega
theorem xr.Jr {u : al} {cB : List Bool} (H : xr u cB) {i : Nat} {g : aH} (hg : u.aI[i]? = some g) : 0 ≤ g.dN ∧ g.dN < g.ew ∧ g.ew ≤ u.ab.length ∧ 0 ≤ g.dJ ∧ g.dJ < u.ab.length := by
 have := H.pl
 unfold iH at this
 simp only [Bool.and_eq_true, Bool.not_eq_true', List.any_eq_false] at this
 have h := this.2.2.2.2.2 g (List.mem_of_getElem? hg)
 unfold kZ at h
 simp only [Bool.or_eq_true, decide_eq_true_eq, Bool.not_eq_true', decide_eq_false_iff_not, not_or, Decidable.not_not] at h
 omega
end
end Go.Ve.T
namespace Go.Ve.T
open Go.Ve
noncomputable section
theorem SA (N : Nat) (l : List Int) (hl : l.length < 1000000) (hN : l.length < N) : vS N l l = some true := by
 unfold vS IE
 simp only [decide_true, Bool.not_true, cond_false]
 exact SB l.length (fun n i => C2 N l l n (i : Int)) (some true) (fun n i hi => by
  show wM N _ _ _ _ = _
  unfold wM ID IC
  rw [xo i _ hi, kS, List.getElem?_eq_getElem hi]
  simp only [Option.bind_some, cond_true, decide_true, Bool.not_true, cond_false]
  rw [sB i (by omega)]) (fun n => by
  show wM N _ _ _ _ = _
  unfold wM
  rw [xp]; rfl) N 0 (Nat.zero_le _) (by omega)
end
end Go.Ve.T
namespace Go.Ve.T
open Go.Ve
noncomputable section
theorem anc (u : al) : ∃ b, Cn u = some b := by
 unfold Cn zq
 cases decide ((u.ab.length : Int) ≤ 40) <;> cases decide (600 < (u.ab.length : Int)) <;> cases decide ((u.ab.length : Int) ≤ 700) <;> cases decide ((u.aI.length : Int) ≤ 8) <;> cases decide (40 < (u.aI.length : Int)) <;> exact ⟨_, rfl⟩
end
end Go.Ve.T
namespace Go.Ve.T
open Go.Ve
noncomputable section
structure fT (u : al) : Prop where
 pl : iH u = true
theorem fT.cut {u : al} (H : fT u) : xr u (List.replicate u.ab.length true) := ⟨H.pl, by simp⟩
theorem fT.n1 {u : al} (H : fT u) : 1 ≤ u.ab.length ∧ u.ab.length ≤ 600 ∧ u.aI.length ≤ 40 := H.cut.n1
theorem fT.jmp {u : al} (H : fT u) {i : Nat} {x : ak} (hx : u.ab[i]? = some x) {p : Int} (hp : gJ x = some p) : 0 ≤ p ∧ p < u.ab.length := H.cut.jmp hx hp
theorem fT.Jr {u : al} (H : fT u) {i : Nat} {g : aH} (hg : u.aI[i]? = some g) : 0 ≤ g.dN ∧ g.dN < g.ew ∧ g.ew ≤ u.ab.length ∧ 0 ≤ g.dJ ∧ g.dJ < u.ab.length := H.cut.Jr hg
theorem fT.op {u : al} (H : fT u) {i : Nat} {x : ak} (hx : u.ab[i]? = some x) : isOp x.aJ = true := by
 have := H.pl
 unfold iH at this
 simp only [Bool.and_eq_true] at this
 have h := List.all_eq_true.1 this.2.2.2.2.1 x (List.mem_of_getElem? hx)
 unfold pG at h
 exact (Bool.and_eq_true_iff.1 h).1
def j9 (i : ak) (k : Int) : Int := if k = 1 then i.fA else if k = 2 then i.fB else i.fC
def zQ (i : ak) : List Int :=
 (if 0 < (cU i.aJ).c7.e0 ∧ j9 i (cU i.aJ).c7.e0 ≠ -1 then [j9 i (cU i.aJ).c7.e0] else []) ++ (if 0 < (cU i.aJ).c7.e1 ∧ j9 i (cU i.aJ).c7.e1 ≠ -1 then [j9 i (cU i.aJ).c7.e1] else [])
def Jt (i : ak) : Int := if (cU i.aJ).iY = 0 then -1 else j9 i (cU i.aJ).iY
theorem Ew (op : Int) : ((cU op).c7.e0 = 0 ∨ (cU op).c7.e0 = 1 ∨ (cU op).c7.e0 = 2 ∨ (cU op).c7.e0 = 3) ∧ ((cU op).c7.e1 = 0 ∨ (cU op).c7.e1 = 1 ∨ (cU op).c7.e1 = 2 ∨ (cU op).c7.e1 = 3) ∧ ((cU op).iY = 0 ∨ (cU op).iY = 1) ∧ (isOp op = false → cU op = Jl) := by
 cases h : isOp op with
 | true => rcases B5 h with h | h | h | h | h | h | h | h | h | h | h | h | h | h | h | h | h | h | h | h | h | h | h | h | h | h | h | h | h | h | h | h | h | h <;> rw [h] <;> refine ⟨by decide, by decide, by decide, fun hh => by cases hh⟩
 | false =>
  have e : cU op = Jl := by unfold cU; rw [h]; rfl
  rw [e]
  exact ⟨.inl rfl, .inl rfl, .inl rfl, fun _ => rfl⟩
theorem anl (i : ak) {k : Int} (hk : k = 1 ∨ k = 2 ∨ k = 3) : ix [i.fA, i.fB, i.fC] (bt .i64 (k - 1)) = some (j9 i k) := by
 rcases hk with rfl | rfl | rfl <;> rfl
theorem anm (i : ak) : wo i = some ⟨i.fA, i.fB, i.fC⟩ := rfl
theorem ann (i : ak) {k : Int} (hk : k = 1 ∨ k = 2 ∨ k = 3) : zu i k = some (j9 i k) := by
 rcases hk with rfl | rfl | rfl <;> rfl
theorem abf (N : Nat) (f : eN) (b : Bool) (i : ak) (l : List Int) (y : Int) (k : Int) (K : List Int → Int → Option (List Int)) (hl : l.length ≤ 2) (hy : ix [f.e0, f.e1] y = some k) (hk : k = 0 ∨ k = 1 ∨ k = 2 ∨ k = 3) :
 wO N f y b i l K = K (l ++ (if b = true ∧ 0 < k ∧ j9 i k ≠ -1 then [j9 i k] else [])) (bt .i64 (y + 1)) := by
 unfold wO C6 C5 C4
 rw [hy, Option.bind_some]
 have gl : ∀ o : Option (List Int), gu (decide (l.length + [j9 i k].length ≤ 1048576)) o = o := fun o => by rw [decide_eq_true (by simp; omega)]; rfl
 cases b with
 | false => simp
 | true =>
  rcases hk with rfl | hk
  · simp
  · have h0 : decide (0 < k) = true := decide_eq_true (by omega)
    rw [h0, anm]
    simp only [cond_true, Option.bind_some, anl i hk, cond_false, gl]
    by_cases h1 : j9 i k = -1
    · rw [decide_eq_true h1]; simp [h1]
    · rw [decide_eq_false h1]; simp [h1, show 0 < k by omega]
theorem ane (N : Nat) (hN : 1000 ≤ N) (i : ak) : Cj N i = some (zQ i) := by
 obtain ⟨n, rfl⟩ : ∃ n, N = n + 4 := ⟨N - 4, by omega⟩
 obtain ⟨h0, h1, _, hF⟩ := Ew i.aJ
 unfold Cj
 show C7 (n + 4) (cU i.aJ).c7 (isOp i.aJ) i (n + 4) [] 0 = _
 show wO (n + 4) _ 0 _ i [] _ = _
 rw [abf (n + 4) _ _ i [] 0 _ _ (by simp) rfl h0]
 show wO (n + 4) _ 1 _ i _ _ = _
 rw [abf (n + 4) _ _ i _ 1 _ _ (by split <;> simp) rfl h1]
 show some _ = _
 unfold zQ
 cases hb : isOp i.aJ with
 | true => simp
 | false => rw [hF hb]; rfl
theorem abg (N : Nat) (r : ct) (i : ak) (l : List Int) (y : Int) (k : Int) (K : List Int → Int → Option (List Int)) (hl : l.length ≤ 2) (hy : ix [r.cx.e0, r.cx.e1] y = some k) (hk : k = 0 ∨ k = 1 ∨ k = 2 ∨ k = 3) :
 wP N r y i l K = K (l ++ (if 0 < k ∧ j9 i k ≠ -1 then [j9 i k] else [])) (bt .i64 (y + 1)) := by
 unfold wP Df De
 simp only [hy, Option.bind_some]
 have gl : ∀ o : Option (List Int), gu (decide (l.length + [j9 i k].length ≤ 1048576)) o = o := fun o => by rw [decide_eq_true (by simp; omega)]; rfl
 rcases hk with rfl | hk
 · simp
 · have h0 : decide (0 < k) = true := decide_eq_true (by omega)
   simp only [h0, ann i hk, cond_true, Option.bind_some, gl]
   by_cases h1 : j9 i k = -1
   · rw [decide_eq_true h1]; simp [h1]
   · rw [decide_eq_false h1]; simp [h1, show 0 < k by omega]
theorem SC (op : Int) : (uD op).cx = (cU op).c7 ∧ (uD op).fY = (cU op).iY := by
 unfold uD
 cases h : isOp op with
 | true => exact ⟨rfl, rfl⟩
 | false => rw [(Ew op).2.2.2 h]; exact ⟨rfl, rfl⟩
theorem anf (N : Nat) (hN : 1000 ≤ N) (i : ak) : Ck N i = some (zQ i) := by
 obtain ⟨n, rfl⟩ : ∃ n, N = n + 4 := ⟨N - 4, by omega⟩
 obtain ⟨h0, h1, _, hF⟩ := Ew i.aJ
 have hr := (SC i.aJ).1
 unfold Ck
 rw [Jn]
 show wP (n + 4) _ 0 i [] _ = _
 rw [abg (n + 4) _ i [] 0 _ _ (by simp) rfl (by rw [hr]; exact h0)]
 show wP (n + 4) _ 1 i _ _ = _
 rw [abg (n + 4) _ i _ 1 _ _ (by split <;> simp) rfl (by rw [hr]; exact h1)]
 show some _ = _
 unfold zQ
 rw [hr]; simp
theorem anj (i : ak) : Cb i = some (Jt i) := by
 obtain ⟨_, _, hw, _⟩ := Ew i.aJ
 unfold Cb Jt
 show (bif decide ((cU i.aJ).iY = 0) then some (-1) else Db i (cU i.aJ)) = _
 rcases hw with h | h
 · rw [h]; rfl
 · unfold Db
   rw [h]; rfl
theorem ank (i : ak) : Cc i = some (Jt i) := by
 obtain ⟨_, _, hw, _⟩ := Ew i.aJ
 unfold Cc Jt
 rw [Jn, Option.bind_some, (SC i.aJ).2]
 rcases hw with h | h
 · rw [h]; rfl
 · unfold II
   rw [(SC i.aJ).2, h]; rfl
def gb (l : List aH) (at_ : Int) : Int := mb (fun d => decide (d.dN ≤ at_ ∧ at_ < d.ew)) l 0
theorem abh (N : Nat) (u : al) (at_ : Int) (hl : u.aI.length < 1000000) (hN : u.aI.length < N) : zr N u at_ = some (gb u.aI at_) := by
 unfold zr
 rw [aa8 N u.aI _ (fun d => decide (d.dN ≤ at_ ∧ at_ < d.ew)) (fun d => by unfold C3; by_cases h : d.dN ≤ at_ <;> simp [h]) hl hN]; rfl
theorem Sv (N : Nat) (u : al) (at_ : Int) (hl : u.aI.length < 1000000) (hN : u.aI.length < N) : wT N u at_ = some (gb u.aI at_) := by
 unfold wT gb
 rw [← Eo]
 exact sA u.aI (fun n y => wS N u at_ n y) _ _ hl (fun n y a hy ha => by
  show (bif decide (y < (u.aI.length : Int)) then ((ix u.aI y).bind fun aM => bif decide (aM.dN ≤ at_) then ((ix u.aI y).bind fun wG => bif decide (at_ < wG.ew) then some y else wS N u at_ n (bt .i64 (y + 1))) else (bif false then some y else wS N u at_ n (bt .i64 (y + 1)))) else some (-1)) = _
  rw [decide_eq_true hy, ha]
  by_cases h1 : a.dN ≤ at_ <;> by_cases h2 : at_ < a.ew <;> simp [h1, h2]) (fun n => by
  show (bif decide ((u.aI.length : Int) < (u.aI.length : Int)) then _ else some (-1)) = _
  rw [decide_eq_false (Int.lt_irrefl _)]; rfl) N 0 (Nat.zero_le _) (by omega)
abbrev jP (op : Int) : Bool := (cU op).iZ
theorem aba (i : ak) : zt i = some (jP i.aJ) := by
 unfold zt Dd Dc
 cases h : isOp i.aJ with
 | true => rcases B5 h with h | h | h | h | h | h | h | h | h | h | h | h | h | h | h | h | h | h | h | h | h | h | h | h | h | h | h | h | h | h | h | h | h | h <;> rw [h] <;> rfl
 | false =>
  have hh : ∀ k : Int, 1 ≤ k → k ≤ 34 → decide (i.aJ = k) = false := fun k h1 h2 => decide_eq_false fun e => by rw [e] at h; unfold isOp at h; rw [decide_eq_false_iff_not] at h; omega
  have e : jP i.aJ = false := by unfold jP cU; rw [h]; rfl
  rw [e, hh 24 (by omega) (by omega), hh 26 (by omega) (by omega), hh 27 (by omega) (by omega), hh 28 (by omega) (by omega)]
  rfl
abbrev kC (i : ak) : Bool := (cU i.aJ).jr
theorem abb (i : ak) : zv i = some (kC i) := by
 unfold zv
 rw [Jn]
 show some (uD i.aJ).gi = _
 unfold uD kC cU
 cases isOp i.aJ <;> rfl
theorem Sw {l : List aH} {y : Int} (h : 0 ≤ gb l y) : ∃ d, ix l (gb l y) = some d ∧ d ∈ l := by
 unfold gb at *
 rcases aa6 (fun d : aH => decide (d.dN ≤ y ∧ y < d.ew)) l 0 (Int.le_refl 0) with e | ⟨k, a, h1, _, h3⟩
 · rw [e] at h; omega
 · refine ⟨a, ?_, List.mem_of_getElem? h1⟩
   rw [h3, Int.zero_add, kS]; exact h1
def jN (u : al) (y : Nat) (i : ak) : List (Int × Int) :=
 (if jP i.aJ = false ∧ y + 1 < u.ab.length then [((y : Int) + 1, 0)] else []) ++ ((gJ i).toList.map fun x => (x, 1)) ++ (if kC i = true ∧ 0 ≤ gb u.aI y then ((ix u.aI (gb u.aI y)).toList.map fun d => (d.dJ, 2)) else [])
theorem SD {u : al} (U : fT u) (N : Nat) (hN : 1000 ≤ N) (y : Nat) (hy : y < u.ab.length) : uB N u (y : Int) = some (jN u y u.ab[y]) := by
  have hl := U.n1.2.1
  have hg := U.n1.2.2
  obtain ⟨n, rfl⟩ : ∃ n, N = n + 4 := ⟨N - 4, by omega⟩
  have ho := U.op (List.getElem?_eq_getElem hy)
  unfold uB jN
  rw [kS, List.getElem?_eq_getElem hy, Option.bind_some, aa7 n _ ho, Option.bind_some, abh (n + 4) u y (by omega) (by omega), Option.bind_some, oU (by omega) (by omega)]
  have hlen : decide ((gJ u.ab[y]).toList.length ≤ 1000) = true := by cases gJ u.ab[y] <;> simp
  rw [hlen]
  show (bif kC u.ab[y] && decide (0 ≤ gb u.aI y) then _ else _) = _
  have e1 : (bif !(cU u.ab[y].aJ).iZ && decide ((y : Int) + 1 < (u.ab.length : Int)) then [((y : Int) + 1, (0 : Int))] else []) = (if jP u.ab[y].aJ = false ∧ y + 1 < u.ab.length then [((y : Int) + 1, 0)] else []) := by
    by_cases h1 : jP u.ab[y].aJ = false
    · have hZ : (cU u.ab[y].aJ).iZ = false := h1
      by_cases h2 : y + 1 < u.ab.length
      · rw [if_pos ⟨h1, h2⟩, hZ, decide_eq_true (by omega)]; rfl
      · rw [if_neg fun h => h2 h.2, hZ, decide_eq_false (by omega)]; rfl
    · have hZ : (cU u.ab[y].aJ).iZ = true := by cases h : (cU u.ab[y].aJ).iZ with
        | true => rfl
        | false => exact absurd h h1
      rw [if_neg fun h => h1 h.1, hZ]; rfl
  rw [e1]
  generalize (if jP u.ab[y].aJ = false ∧ y + 1 < u.ab.length then [((y : Int) + 1, (0 : Int))] else []) = L0
  by_cases hr : kC u.ab[y] = true
  · by_cases hd : 0 ≤ gb u.aI y
    · obtain ⟨d, h1, _⟩ := Sw hd
      rw [if_pos ⟨hr, hd⟩, hr, decide_eq_true hd, h1]; rfl
    · rw [if_neg fun h => hd h.2, hr, decide_eq_false hd, List.append_nil]; rfl
  · have oL : kC u.ab[y] = false := by cases h : kC u.ab[y] with
      | true => exact absurd h hr
      | false => rfl
    rw [if_neg fun h => hr h.1, oL, List.append_nil]; rfl
def sC (u : al) (y : Nat) (i : ak) : List Int :=
 let l := if jP i.aJ = false ∧ y + 1 < u.ab.length then [(y : Int) + 1] else []
 match gJ i with
 | some x => if x ∈ l then l else l ++ [x]
 | none => l
theorem ano (N : Nat) (hN : 1000 ≤ N) (l : List Int) (x : Int) (hl : l.length ≤ 1) : ur N l x = some (if x ∈ l then l else l ++ [x]) := by
 obtain ⟨n, rfl⟩ : ∃ n, N = n + 4 := ⟨N - 4, by omega⟩
 match l, hl with
 | [], _ => rfl
 | [a], _ =>
  show wR (n + 4) [a] 0 x _ = _
  unfold wR
  show (bif decide (a = x) then some [a] else some ([a] ++ [x])) = _
  by_cases e : a = x
  · subst e; rw [decide_eq_true rfl, if_pos (List.mem_singleton.2 rfl)]; rfl
  · rw [decide_eq_false e, if_neg fun h => e (List.mem_singleton.1 h).symm]; rfl
theorem anp {u : al} (U : fT u) (N : Nat) (hN : 1000 ≤ N) (y : Nat) (hy : y < u.ab.length) : Dn N u (y : Int) = some (sC u y u.ab[y]) := by
 have hl := U.n1.2.1
 have J1 : ∀ l : List Int, l.length ≤ 1 → zx N u.ab[y] l = some (match gJ u.ab[y] with | some x => if x ∈ l then l else l ++ [x] | none => l) := fun l h => by
  unfold zx Dl
  rw [Sn, Option.bind_some]
  cases gJ u.ab[y] with
  | none => rfl
  | some x =>
   show ((ur N l x).bind _) = _
   rw [ano N hN l x h]; rfl
 unfold Dn Dm sC
 rw [kS, List.getElem?_eq_getElem hy, Option.bind_some, aba, Option.bind_some, oU (by omega) (by omega)]
 have gu1 : ∀ k : Option (List Int), gu (decide (([] : List Int).length + [(y : Int) + 1].length ≤ 1048576)) k = k := fun k => rfl
 rw [gu1]
 cases he : jP u.ab[y].aJ with
 | true =>
  rw [if_neg fun h => by cases h.1]
  exact J1 [] (by simp)
 | false =>
  by_cases h2 : y + 1 < u.ab.length
  · rw [decide_eq_true (show (y : Int) + 1 < (u.ab.length : Int) by omega), if_pos ⟨rfl, h2⟩]
    exact J1 [(y : Int) + 1] (by simp)
  · rw [decide_eq_false (show ¬ (y : Int) + 1 < (u.ab.length : Int) by omega), if_neg fun h => h2 h.2]
    exact J1 [] (by simp)
end
end Go.Ve.T
namespace Go.Ve.T
open Go.Ve
noncomputable section
theorem anq (N : Nat) (l : List Int) (x : Int) (hl : l.length < 1000000) (hN : l.length < N) : DV N l x = some (decide (x ∈ l)) := by
 have h : DU N l x = some (mb (fun a => decide (x = a)) l 0) := by
  unfold DU
  rw [← Eo]
  exact sA l (fun n y => DT N (l.length : Int) l x n y) _ _ hl (fun n y a hy ha => by
   show (bif decide (y < (l.length : Int)) then DQ N l y x _ else _) = _
   unfold DQ I5
   rw [decide_eq_true hy, ha]
   show (bif decide (x = a) then some y else _) = _
   cases decide (x = a) <;> rfl) (fun n => by
   show (bif decide ((l.length : Int) < (l.length : Int)) then _ else I6 N) = _
   rw [decide_eq_false (Int.lt_irrefl _)]; rfl) N 0 (Nat.zero_le _) (by omega)
 unfold DV
 rw [h, Option.bind_some, Sq]
 congr 1
 rw [Bool.eq_iff_iff]
 simp
def nE (l : List Int) (x : Int) : List Int := if x ∈ l then l else l ++ [x]
theorem abj (l : List Int) (x : Int) : (nE l x).length ≤ l.length + 1 := by unfold nE; split <;> simp
theorem anr {l : List Int} {x y : Int} : y ∈ nE l x ↔ y ∈ l ∨ y = x := by
 unfold nE
 split
 · exact ⟨.inl, fun h => h.elim id fun e => e ▸ ‹_›⟩
 · simp
theorem ans (N : Nat) (l : List Int) (x : Int) (hl : l.length < 1000000) (hN : l.length < N) : ur N l x = some (nE l x) := by
 have key : ∀ (r : List Int) (y : Int), sy (fun _ a => bif decide (a = x) then some (some l) else none) (some (l ++ [x])) r y = some (if x ∈ r then l else l ++ [x]) := by
  intro r
  induction r with
  | nil => intro y; rfl
  | cons a r ih =>
   intro y
   unfold sy
   by_cases e : a = x
   · rw [decide_eq_true e, if_pos (by rw [e]; exact List.mem_cons_self)]; rfl
   · rw [decide_eq_false e]
     refine (ih (y + 1)).trans ?_
     have : x ∈ a :: r ↔ x ∈ r := by rw [List.mem_cons]; exact ⟨fun h => h.resolve_left fun e' => e e'.symm, .inr⟩
     simp only [this]
 unfold ur
 refine (sA l (fun n y => Dg N l x n y) (fun _ a => bif decide (a = x) then some (some l) else none) (some (l ++ [x])) hl (fun n y a hy ha => by
  show (bif decide (y < (l.length : Int)) then wR N l y x _ else _) = _
  unfold wR IJ
  rw [decide_eq_true hy, ha]
  show (bif decide (a = x) then some l else _) = _
  cases decide (a = x) <;> rfl) (fun n => by
  show (bif decide ((l.length : Int) < (l.length : Int)) then _ else IK N x l) = _
  rw [decide_eq_false (Int.lt_irrefl _)]
  show gu (decide (l.length + [x].length ≤ 1048576)) _ = _
  rw [decide_eq_true (by simp; omega)]; rfl) N 0 (Nat.zero_le _) (by omega)).trans ?_
 rw [List.drop_zero, key]; rfl
def jv (u : al) (y : Nat) (i : ak) : List Int := ((jN u y i).map fun p => p.1).foldl nE []
theorem SE {α σ : Type} (b : σ → α → Option (σ × Fl)) (f : σ → α → σ) (P : Nat → σ → Prop) (h : ∀ n s x, P (n + 1) s → b s x = some (f s x, .go) ∧ P n (f s x)) : ∀ (l : List α) (s : σ), P l.length s → oj b l s = some (l.foldl f s, .go)
 | [], s, _ => rfl
 | x :: l, s, hp => by
  obtain ⟨h1, h2⟩ := h l.length s x hp
  unfold oj
  rw [h1]
  exact SE b f P h l (f s x) h2
theorem SF (u : al) (y : Nat) (i : ak) : (jN u y i).length ≤ 3 := by
 unfold jN
 simp only [List.length_append, List.length_map]
 have h1 : (if jP i.aJ = false ∧ y + 1 < u.ab.length then [((y : Int) + 1, (0 : Int))] else []).length ≤ 1 := by split <;> simp
 have h2 : (gJ i).toList.length ≤ 1 := by cases gJ i <;> simp
 have h3 : (if kC i = true ∧ 0 ≤ gb u.aI y then ((ix u.aI (gb u.aI y)).toList.map fun d => (d.dJ, (2 : Int))) else []).length ≤ 1 := by
  split
  · rw [List.length_map]; cases ix u.aI (gb u.aI y) <;> simp
  · simp
 omega
theorem ant {u : al} (U : fT u) (N : Nat) (hN : 1000 ≤ N) (y : Nat) (hy : y < u.ab.length) : DX N u (y : Int) = some (jv u y u.ab[y]) := by
 unfold DX
 rw [SD U N hN y hy, Option.bind_some]
 have hlen := SF u y u.ab[y]
 rw [SE _ (fun s (x : Int × Int) => nE s x.1) (fun n s => s.length + n ≤ 100) (fun n s x hs => by
  refine ⟨?_, by have := abj s x.1; omega⟩
  unfold DW
  rw [anq N s x.1 (by omega) (by omega), Option.bind_some]
  unfold nE
  by_cases hm : x.1 ∈ s
  · rw [decide_eq_true hm, if_pos hm]; rfl
  · rw [decide_eq_false hm, if_neg hm]
    show gu (decide (s.length + [x.1].length ≤ 1048576)) _ = _
    rw [decide_eq_true (by simp; omega)]; rfl) _ _ (by simp; omega)]
 show some _ = _
 unfold jv
 rw [List.foldl_map]
theorem anu (u : al) (y : Nat) (i : ak) : jv u y i = if kC i = true ∧ 0 ≤ gb u.aI y then (match ix u.aI (gb u.aI y) with | some d => nE (sC u y i) d.dJ | none => sC u y i) else sC u y i := by
 have hb : (((if jP i.aJ = false ∧ y + 1 < u.ab.length then [((y : Int) + 1, (0 : Int))] else []) ++ ((gJ i).toList.map fun x => (x, (1 : Int)))).map (fun p : Int × Int => p.1)).foldl nE [] = sC u y i := by
  unfold sC
  by_cases h : jP i.aJ = false ∧ y + 1 < u.ab.length
  · rw [if_pos h, if_pos h]
    cases gJ i with
    | none => rfl
    | some x => rfl
  · rw [if_neg h, if_neg h]
    cases gJ i with
    | none => rfl
    | some x => rfl
 unfold jv jN
 rw [List.map_append, List.foldl_append, hb]
 by_cases h : kC i = true ∧ 0 ≤ gb u.aI y
 · rw [if_pos h, if_pos h]
   cases ix u.aI (gb u.aI y) <;> rfl
 · rw [if_neg h, if_neg h]; rfl
theorem anv (u : al) (y : Nat) (i : ak) : (sC u y i).length ≤ 2 := by
 unfold sC
 by_cases h : jP i.aJ = false ∧ y + 1 < u.ab.length
 · rw [if_pos h]
   cases gJ i with
   | none => simp
   | some x => show (if x ∈ [(y : Int) + 1] then [(y : Int) + 1] else [(y : Int) + 1] ++ [x]).length ≤ 2; split <;> simp
 · rw [if_neg h]
   cases gJ i with
   | none => simp
   | some x => show (if x ∈ ([] : List Int) then [] else [] ++ [x]).length ≤ 2; split <;> simp
theorem abk {u : al} (U : fT u) (N : Nat) (hN : 1000 ≤ N) (y : Nat) (hy : y < u.ab.length) : zy N u (y : Int) = some (jv u y u.ab[y]) := by
 have hg := U.n1.2.2
 have hb := anv u y u.ab[y]
 unfold zy Dt Ds
 rw [anp U N hN y hy, Option.bind_some, Sv N u y (by omega) (by omega), Option.bind_some, kS, List.getElem?_eq_getElem hy, Option.bind_some, abb, Option.bind_some, anu]
 cases hr : kC u.ab[y] with
 | false => rw [if_neg fun h => by cases h.1]; rfl
 | true =>
  by_cases hd : 0 ≤ gb u.aI y
  · obtain ⟨d, h1, _⟩ := Sw hd
    rw [decide_eq_true hd, if_pos ⟨rfl, hd⟩, h1]
    simp only [cond_true, Option.bind_some]
    rw [ans N _ _ (by omega) (by omega)]; rfl
  · rw [decide_eq_false hd, if_neg fun h => hd h.2]; rfl
def Ev (u : al) (x : Int) : Bool := decide (0 ≤ x ∧ x ≤ (u.ab.length : Int) - 1)
def Eu (u : al) (x : Int) : List Int := bif iH u && Ev u x then (match u.ab[x.toNat]? with | some i => jv u x.toNat i | none => []) else []
theorem abd (N : Nat) (hN : 1000 ≤ N) (u : al) (x : Int) : Cl N u x = some (Eu u x) ∧ Cm N u x = some (Eu u x) := by
 unfold Cl Cm Eu
 rw [Ep N hN, Er N hN, Option.bind_some, Option.bind_some]
 cases hp : iH u with
 | false => exact ⟨rfl, rfl⟩
 | true =>
  have U : fT u := ⟨hp⟩
  have hn := U.n1
  simp only [Bool.not_true, cond_false, Bool.true_and]
  rw [xm, xn, oU (by omega) (by omega), Option.bind_some, Option.bind_some]
  unfold Ev DY Du IN
  by_cases hx : 0 ≤ x ∧ x ≤ (u.ab.length : Int) - 1
  · rw [decide_eq_true hx]
    obtain ⟨y, rfl⟩ := Int.eq_ofNat_of_zero_le hx.1
    have hy : y < u.ab.length := by omega
    simp only [Bool.not_true, cond_false, cond_true, Int.toNat_natCast, List.getElem?_eq_getElem hy]
    rw [ant U N hN y hy, abk U N hN y hy]
    exact ⟨rfl, rfl⟩
  · rw [decide_eq_false hx]; exact ⟨rfl, rfl⟩
def SG (u : al) (x : Int) : Int := bif iH u && Ev u x then gb u.aI x else -1
theorem abe (N : Nat) (hN : 1000 ≤ N) (u : al) (x : Int) : B8 N u x = some (SG u x) ∧ B9 N u x = some (SG u x) := by
 unfold B8 B9 SG
 rw [Ep N hN, Er N hN, Option.bind_some, Option.bind_some]
 cases hp : iH u with
 | false => exact ⟨rfl, rfl⟩
 | true =>
  have U : fT u := ⟨hp⟩
  have hn := U.n1
  simp only [Bool.not_true, cond_false, Bool.true_and]
  rw [xm, xn, oU (by omega) (by omega), Option.bind_some, Option.bind_some]
  unfold Ev DP Dv I4 IP
  rw [abh N u x (by omega) (by omega), Sv N u x (by omega) (by omega)]
  cases decide (0 ≤ x ∧ x ≤ (u.ab.length : Int) - 1) <;> exact ⟨rfl, rfl⟩
end
end Go.Ve.T
namespace Go.Ve.T
open Go.Ve
open Classical
noncomputable section
theorem abl {y : Int} : ∀ {l s : List Int}, y ∈ l.foldl nE s ↔ y ∈ s ∨ y ∈ l
 | [], s => by simp
 | x :: l, s => by
  rw [List.foldl_cons, abl, anr, List.mem_cons]
  constructor
  · rintro ((h | h) | h) <;> simp [h]
  · rintro (h | h | h) <;> simp [h]
theorem SH {u : al} {y : Nat} {i : ak} {x : Int} : x ∈ jv u y i ↔ ∃ k, (x, k) ∈ jN u y i := by
 unfold jv
 rw [abl]
 constructor
 · rintro (h | h)
   · cases h
   · obtain ⟨p, h1, rfl⟩ := List.mem_map.1 h
     exact ⟨p.2, h1⟩
 · rintro ⟨k, h⟩
   exact .inr (List.mem_map.2 ⟨_, h, rfl⟩)
theorem Ju {u : al} (U : fT u) {y : Nat} {i : ak} (hi : u.ab[y]? = some i) {p : Int × Int} (h : p ∈ jN u y i) : 0 ≤ p.1 ∧ p.1 < u.ab.length := by
 have hy := (List.getElem?_eq_some_iff.1 hi).1
 unfold jN at h
 rcases List.mem_append.1 h with h | h
 · rcases List.mem_append.1 h with h | h
   · split at h
     · have := List.mem_singleton.1 h; subst this
       have := ‹jP i.aJ = false ∧ y + 1 < u.ab.length›.2
       exact ⟨by show 0 ≤ (y : Int) + 1; omega, by show (y : Int) + 1 < _; omega⟩
     · cases h
   · obtain ⟨x, h1, rfl⟩ := List.mem_map.1 h
     exact U.jmp hi (by simpa using h1)
 · split at h
   · obtain ⟨d, h1, rfl⟩ := List.mem_map.1 h
     have h2 : ix u.aI (gb u.aI y) = some d := by simpa using h1
     obtain ⟨k, _, _, h3⟩ := yV h2
     have := U.Jr h3
     exact ⟨this.2.2.2.1, this.2.2.2.2⟩
   · cases h
theorem abm {u : al} (U : fT u) {y : Nat} {i : ak} (hi : u.ab[y]? = some i) {x : Int} (h : x ∈ jv u y i) : 0 ≤ x ∧ x < u.ab.length := by
 obtain ⟨k, h⟩ := SH.1 h
 exact Ju U hi h
inductive sD (u : al) : Nat → Prop where
 | zero : sD u 0
 | step {a b : Nat} {i : ak} (h : sD u a) (hi : u.ab[a]? = some i) (hb : (b : Int) ∈ jv u a i) : sD u b
def xq (u : al) : List Bool := (List.range u.ab.length).map fun i => decide (sD u i)
structure Fin (u : al) (v : List Bool) : Prop where
 len : v.length = u.ab.length
 sound : ∀ i, v[i]? = some true → sD u i
 zero : v[0]? = some true
 closed : ∀ (a b : Nat) i, v[a]? = some true → u.ab[a]? = some i → (b : Int) ∈ jv u a i → v[b]? = some true
theorem Fin.eq {u : al} {v : List Bool} (H : Fin u v) : v = xq u := by
 have hr : ∀ i, sD u i → v[i]? = some true := by
  intro i h
  induction h with
  | zero => exact H.zero
  | step h hi hb ih => exact H.closed _ _ _ ih hi hb
 refine List.ext_getElem? fun i => ?_
 unfold xq
 rw [List.getElem?_map]
 by_cases hi : i < u.ab.length
 · have nP : i < v.length := by rw [H.len]; exact hi
   rw [List.getElem?_range hi, List.getElem?_eq_getElem nP]
   show some _ = some _
   congr 1
   have e : v[i]? = some v[i] := List.getElem?_eq_getElem nP
   cases hv : v[i] with
   | true => exact (decide_eq_true (H.sound i (by rw [e, hv]))).symm
   | false => exact (decide_eq_false fun h => by have := hr i h; rw [e, hv] at this; cases this).symm
 · rw [List.getElem?_eq_none (by rw [H.len]; omega), List.getElem?_eq_none (by simp; omega)]; rfl
def hO (v : List Bool) : Nat := v.count false
theorem Jv : ∀ {v : List Bool} {k : Nat}, v[k]? = some false → hO (v.set k true) + 1 = hO v
 | [], k, h => by simp at h
 | b :: v, 0, h => by
  have : b = false := by simpa using h
  subst this
  simp [hO]
 | b :: v, k + 1, h => by
  have := Jv (v := v) (k := k) (by simpa using h)
  unfold hO at this ⊢
  rw [List.set_cons_succ, List.count_cons, List.count_cons]
  omega
theorem dc {v : List Bool} {k j : Nat} (hk : k < v.length) : (v.set k true)[j]? = some true ↔ v[j]? = some true ∨ j = k := by
 rw [List.getElem?_set]
 by_cases e : k = j
 · subst e; simp [hk]
 · rw [if_neg e]
   exact ⟨.inl, fun h => h.resolve_right fun e' => e e'.symm⟩
theorem Ex {v : List Bool} {k : Nat} (hk : k < v.length) (h : v[k]? ≠ some true) : v[k]? = some false := by
 rw [List.getElem?_eq_getElem hk] at h ⊢
 cases hv : v[k] with
 | true => rw [hv] at h; exact absurd rfl h
 | false => rfl
def mark (s : List Bool × List Int) (x : Int) : List Bool × List Int := if s.1[x.toNat]? = some true then s else (s.1.set x.toNat true, s.2 ++ [x])
structure MF (n : Nat) (v0 : List Bool) (o0 xs : List Int) (s : List Bool × List Int) : Prop where
 len : s.1.length = n
 iff : ∀ j : Nat, s.1[j]? = some true ↔ v0[j]? = some true ∨ (j : Int) ∈ xs
 sub : ∀ z ∈ o0, z ∈ s.2
 op : ∀ z ∈ s.2, z ∈ o0 ∨ z ∈ xs
 new : ∀ j : Nat, s.1[j]? = some true → v0[j]? = some true ∨ (j : Int) ∈ s.2
 SI : s.2.length + hO s.1 = o0.length + hO v0
theorem abn {n : Nat} {v0 : List Bool} {o0 : List Int} : ∀ (xs done : List Int) (s : List Bool × List Int), MF n v0 o0 done s → (∀ x ∈ xs, 0 ≤ x ∧ x < n) → MF n v0 o0 (done ++ xs) (xs.foldl mark s)
  | [], done, s, H, _ => by rw [List.append_nil]; exact H
  | x :: xs, done, s, H, hx => by
    have SJ := hx x List.mem_cons_self
    obtain ⟨k, rfl⟩ := Int.eq_ofNat_of_zero_le SJ.1
    have hk : k < s.1.length := by rw [H.len]; omega
    have H2 : MF n v0 o0 (done ++ [(k : Int)]) (mark s (k : Int)) := by
      unfold mark
      rw [Int.toNat_natCast]
      by_cases h : s.1[k]? = some true
      · rw [if_pos h]
        refine ⟨H.len, fun j => ?_, H.sub, fun z hz => ?_, H.new, H.SI⟩
        · rw [H.iff j, List.mem_append]
          constructor
          · rintro (h | h) <;> simp [h]
          · rintro (h' | h' | h')
            · exact .inl h'
            · exact .inr h'
            · have : (j : Int) = (k : Int) := by simpa using h'
              have : j = k := by omega
              subst this; exact (H.iff j).1 h
        · rcases H.op z hz with h | h
          · exact .inl h
          · exact .inr (List.mem_append_left _ h)
      · rw [if_neg h]
        refine ⟨by simpa using H.len, fun j => ?_, fun z hz => List.mem_append_left _ (H.sub z hz), fun z hz => ?_, fun j hj => ?_, ?_⟩
        · show (s.1.set k true)[j]? = some true ↔ _
          rw [dc hk, H.iff j, List.mem_append]
          constructor
          · rintro ((h | h) | h)
            · exact .inl h
            · exact .inr (.inl h)
            · subst h; exact .inr (.inr (by simp))
          · rintro (h | h | h)
            · exact .inl (.inl h)
            · exact .inl (.inr h)
            · exact .inr (by have : (j : Int) = (k : Int) := by simpa using h
                             omega)
        · rcases List.mem_append.1 hz with hz | hz
          · rcases H.op z hz with h | h
            · exact .inl h
            · exact .inr (List.mem_append_left _ h)
          · exact .inr (List.mem_append_right _ hz)
        · rcases (dc hk).1 hj with h | h
          · rcases H.new j h with h | h
            · exact .inl h
            · exact .inr (List.mem_append_left _ h)
          · subst h; exact .inr (List.mem_append_right _ (by simp))
        · have := Jv (Ex hk h)
          have := H.SI
          show (s.2 ++ [(k : Int)]).length + hO (s.1.set k true) = _
          rw [List.length_append]
          simp
          omega
    have := abn xs (done ++ [(k : Int)]) (mark s k) H2 fun y hy => hx y (List.mem_cons_of_mem _ hy)
    rwa [List.append_assoc] at this
theorem abo {α σ : Type} (b : σ → α → Option (σ × Fl)) (f : σ → α → σ) (l0 : List α) (P : Nat → σ → Prop) (h : ∀ n s x, x ∈ l0 → P (n + 1) s → b s x = some (f s x, .go) ∧ P n (f s x)) : ∀ (l : List α) (s : σ), (∀ x ∈ l, x ∈ l0) → P l.length s → oj b l s = some (l.foldl f s, .go)
 | [], s, _, _ => rfl
 | x :: l, s, hm, hp => by
  obtain ⟨h1, h2⟩ := h l.length s x (hm x List.mem_cons_self) hp
  unfold oj
  rw [h1]
  exact abo b f l0 P h l (f s x) (fun y hy => hm y (List.mem_cons_of_mem _ hy)) h2
structure Wk (u : al) (op : List Int) (v : List Bool) : Prop where
 len : v.length = u.ab.length
 sound : ∀ i, v[i]? = some true → sD u i
 zero : v[0]? = some true
 ops : ∀ z ∈ op, 0 ≤ z ∧ z < u.ab.length ∧ v[z.toNat]? = some true
 closed : ∀ (a b : Nat) i, v[a]? = some true → (a : Int) ∉ op → u.ab[a]? = some i → (b : Int) ∈ jv u a i → v[b]? = some true
theorem anw {u : al} (U : fT u) (N : Nat) (hN : 1000 ≤ N) {p : List Int} {c : Int} {v3 v : List Bool} (H : Wk u (p ++ [c]) v) (hlen : (p ++ [c]).length + hO v ≤ 700) (K : List Int → List Bool → List Bool → Option (List Bool)) :
    ∃ Ey v', zK N (p ++ [c]) u (fun a0 a1 a2 => uC a0 a1 a2) v3 v K = K Ey v3 v' ∧ Wk u Ey v' ∧ Ey.length + hO v' + 1 = (p ++ [c]).length + hO v := by
  obtain ⟨hc1, yu, hcv⟩ := H.ops c (by simp)
  obtain ⟨y, rfl⟩ := Int.eq_ofNat_of_zero_le hc1
  have hy : y < u.ab.length := by omega
  have hi : u.ab[y]? = some u.ab[y] := List.getElem?_eq_getElem hy
  rw [Int.toNat_natCast] at hcv
  have MD := SF u y u.ab[y]
  have kK : (p ++ [(y : Int)]).length = p.length + 1 := by simp
  generalize ki : (jN u y u.ab[y]).map (fun q : Int × Int => q.1) = xs
  have abp : ∀ x ∈ xs, 0 ≤ x ∧ x < (u.ab.length : Nat) := fun x hx => by
    subst ki
    obtain ⟨q, h1, rfl⟩ := List.mem_map.1 hx
    exact Ju U hi h1
  have F : MF u.ab.length v p ([] ++ xs) (xs.foldl mark (v, p)) := abn xs [] (v, p) ⟨H.len, fun j => by simp, fun z hz => hz, fun z hz => .inl hz, fun j hj => .inl hj, rfl⟩ abp
  rw [List.nil_append] at F
  refine ⟨(xs.foldl mark (v, p)).2, (xs.foldl mark (v, p)).1, ?_, ⟨F.len, fun i hv => ?_, (F.iff 0).2 (.inl H.zero), fun z hz => ?_, fun a b i ha Jw dr hb => ?_⟩, ?_⟩
  · unfold zK
    have e1 : bt .i64 (((p ++ [(y : Int)]).length : Int) - 1) = (p.length : Int) := by rw [oU (by omega) (by omega), kK]; omega
    have e2 : ix (p ++ [(y : Int)]) (p.length : Int) = some (y : Int) := by rw [kS]; simp
    have e3 : Cu (p ++ [(y : Int)]) 0 (p.length : Int) = some p := by
      unfold Cu
      rw [decide_eq_true (show (0 : Int) ≤ 0 by omega), decide_eq_true (show (0 : Int) ≤ (p.length : Int) by omega), decide_eq_true (show (p.length : Int) ≤ ((p ++ [(y : Int)]).length : Int) by rw [kK]; omega)]
      simp [gu]
    rw [e1, e2, Option.bind_some, e3, Option.bind_some, SD U N hN y hy, Option.bind_some]
    rw [abo _ (fun (s : List Bool × List Bool × List Int) (x : Int × Int) => (s.1, mark s.2 x.1)) (jN u y u.ab[y]) (fun n s => s.2.1.length = u.ab.length ∧ s.2.2.length + n ≤ 1000) (fun n s x hx hs => by
      obtain ⟨h1, h2⟩ := Ju U hi hx
      obtain ⟨k, hk⟩ := Int.eq_ofNat_of_zero_le h1
      rw [hk] at h2
      have MP : k < s.2.1.length := by rw [hs.1]; omega
      unfold D7 uC I9 mark
      rw [hk]
      simp only [Option.bind_some, Bool.not_true, cond_false, kS, Int.toNat_natCast]
      by_cases hv : s.2.1[k]? = some true
      · rw [hv, if_pos rfl]; exact ⟨rfl, hs.1, by omega⟩
      · have hf := Ex MP hv
        rw [if_neg hv, hf]
        simp only [Option.bind_some, Bool.not_false, cond_true]
        rw [decide_eq_true (show s.2.2.length + [(k : Int)].length ≤ 1048576 by simp; omega)]
        exact ⟨rfl, by simpa using hs.1, by show (s.2.2 ++ [(k : Int)]).length + n ≤ 1000; rw [List.length_append]; simp; omega⟩) _ _ (fun x hx => hx) ⟨H.len, by show p.length + _ ≤ 1000; omega⟩]
    have e4 : ∀ (l : List (Int × Int)) (s : List Bool × List Bool × List Int), l.foldl (fun (s : List Bool × List Bool × List Int) (x : Int × Int) => (s.1, mark s.2 x.1)) s = (s.1, (l.map fun q : Int × Int => q.1).foldl mark s.2) := by
      intro l
      induction l with
      | nil => intro s; rfl
      | cons x l ih => intro s; rw [List.foldl_cons, ih]; rfl
    rw [e4, ki]
    rfl
  · rcases (F.iff i).1 hv with h | h
    · exact H.sound i h
    · exact .step (H.sound y hcv) hi (SH.2 (by
        subst ki
        obtain ⟨q, h1, h2⟩ := List.mem_map.1 h
        exact ⟨q.2, by rw [← h2]; exact h1⟩))
  · rcases F.op z hz with h | h
    · obtain ⟨h1, h2, h3⟩ := H.ops z (List.mem_append_left _ h)
      exact ⟨h1, h2, (F.iff _).2 (.inl h3)⟩
    · have h1 := abp z h
      exact ⟨h1.1, h1.2, (F.iff _).2 (.inr (by rw [Int.toNat_of_nonneg h1.1]; exact h))⟩
  · rcases F.new a ha with h | h
    · by_cases hap : (a : Int) ∈ p ++ [(y : Int)]
      · rcases List.mem_append.1 hap with h' | h'
        · exact absurd (F.sub _ h') Jw
        · have : (a : Int) = (y : Int) := by simpa using h'
          have : a = y := by omega
          subst this
          rw [hi] at dr; cases dr
          refine (F.iff b).2 (.inr ?_)
          obtain ⟨k, hk⟩ := SH.1 hb
          subst ki
          exact List.mem_map.2 ⟨_, hk, rfl⟩
      · exact (F.iff b).2 (.inl (H.closed a b i h hap dr hb))
    · exact absurd h Jw
  · have := F.SI
    rw [kK]
    show (xs.foldl mark (v, p)).2.length + hO (xs.foldl mark (v, p)).1 + 1 = _
    omega
theorem abq {u : al} (U : fT u) (N : Nat) (hN : 1000 ≤ N) : ∀ (n : Nat) (op : List Int) (v3 v : List Bool), Wk u op v → op.length + hO v < n → op.length + hO v ≤ 700 → zL N u (fun a0 a1 a2 => uC a0 a1 a2) n op v3 v = some (xq u)
 | 0, op, v3, v, H, h, _ => by omega
 | n + 1, op, v3, v, H, h, h7 => by
  show D8 N op u _ v3 v _ = _
  unfold D8 Ja
  rcases List.eq_nil_or_concat op with rfl | ⟨p, c, rfl⟩
  · show some v = _
    rw [Fin.eq ⟨H.len, H.sound, H.zero, fun a b i ha dr hb => H.closed a b i ha (by simp) dr hb⟩]
  · rw [List.concat_eq_append] at H h h7 ⊢
    have e : (p ++ [c]).length = p.length + 1 := by simp
    rw [decide_eq_true (show 0 < ((p ++ [c]).length : Int) by omega)]
    obtain ⟨Ey, v', h1, h2, h3⟩ := anw U N hN H (v3 := v3) h7 (fun cf l8 l9 => zL N u (fun a0 a1 a2 => uC a0 a1 a2) n cf l8 l9)
    show zK N _ u _ v3 v _ = _
    rw [h1]
    exact abq U N hN n Ey v3 v' h2 (by omega) (by omega)
theorem Sx (n : Nat) (hn : 1 ≤ n) (i : Nat) : ((List.replicate n false).set 0 true)[i]? = some true ↔ i = 0 := by
 rw [dc (by rw [List.length_replicate]; omega)]
 constructor
 · rintro (h | h)
   · rw [List.getElem?_replicate] at h; split at h <;> cases h
   · exact h
 · exact .inr
theorem abr (n : Nat) (hn : 1 ≤ n) : hO ((List.replicate n false).set 0 true) + 1 = n := by
 rw [Jv (by rw [List.getElem?_replicate, if_pos (by omega)])]
 simp [hO]
def zR (u : al) : List Bool := bif iH u then xq u else []
theorem ang (N : Nat) (hN : 1000 ≤ N) (u : al) : Cg N u = some (zR u) := by
 unfold Cg zR
 rw [Ep N hN, Option.bind_some]
 cases hp : iH u with
 | false => rfl
 | true =>
  have U : fT u := ⟨hp⟩
  have hn := U.n1
  show ((D9 N u _).bind _) = _
  unfold D9
  rw [decide_eq_true (show (0 : Int) ≤ (u.ab.length : Int) by omega), decide_eq_true (show (u.ab.length : Int) ≤ 65536 by omega)]
  have e0 : ix (List.replicate (u.ab.length : Int).toNat false) 0 = some false := by
   show (List.replicate (u.ab.length : Int).toNat false)[0]? = _
   rw [Int.toNat_natCast, List.getElem?_replicate, if_pos (by omega)]
  show ((ix (List.replicate (u.ab.length : Int).toNat false) 0).bind _).bind _ = _
  rw [e0, Option.bind_some, Int.toNat_natCast]
  have hu := abr u.ab.length hn.1
  have g := Sx u.ab.length hn.1
  rw [show ((0 : Int).toNat) = 0 from rfl]
  rw [abq U N hN N [0] [] _ ⟨by simp, fun i hi => by rw [(g i).1 hi]; exact .zero, (g 0).2 rfl, fun z hz => by
   obtain rfl := List.mem_singleton.1 hz
   exact ⟨by omega, by omega, (g 0).2 rfl⟩, fun a b i ha Jw _ _ => by
   have := (g a).1 ha
   subst this
   exact absurd (by simp) Jw⟩ (by show 1 + _ < N; omega) (by show 1 + _ ≤ 700; omega)]
  rfl
end
end Go.Ve.T
namespace Go.Ve.T
open Go.Ve
open Classical
noncomputable section
def mM (s : List Bool × Bool) (x : Int) : List Bool × Bool := if s.1[x.toNat]? = some true then s else (s.1.set x.toNat true, true)
structure MR (n : Nat) (v0 : List Bool) (a0 : Bool) (xs : List Int) (s : List Bool × Bool) : Prop where
 len : s.1.length = n
 iff : ∀ j : Nat, s.1[j]? = some true ↔ v0[j]? = some true ∨ (j : Int) ∈ xs
 stay : s.2 = false → a0 = false ∧ s.1 = v0
 dec : s.2 = true → a0 = true ∨ hO s.1 < hO v0
 le : hO s.1 ≤ hO v0
theorem abt {n : Nat} {v0 : List Bool} {a0 : Bool} : ∀ (xs done : List Int) (s : List Bool × Bool), MR n v0 a0 done s → (∀ x ∈ xs, 0 ≤ x ∧ x < n) → MR n v0 a0 (done ++ xs) (xs.foldl mM s)
 | [], done, s, H, _ => by rw [List.append_nil]; exact H
 | x :: xs, done, s, H, hx => by
  have SJ := hx x List.mem_cons_self
  obtain ⟨k, rfl⟩ := Int.eq_ofNat_of_zero_le SJ.1
  have hk : k < s.1.length := by rw [H.len]; omega
  have jk : ∀ j : Nat, (j : Int) ∈ [(k : Int)] ↔ j = k := fun j => by rw [List.mem_singleton]; omega
  have H2 : MR n v0 a0 (done ++ [(k : Int)]) (mM s (k : Int)) := by
   unfold mM
   rw [Int.toNat_natCast]
   by_cases h : s.1[k]? = some true
   · rw [if_pos h]
     refine ⟨H.len, fun j => ?_, H.stay, H.dec, H.le⟩
     rw [H.iff j, List.mem_append, jk]
     constructor
     · rintro (h | h) <;> simp [h]
     · rintro (h' | h' | h')
       · exact .inl h'
       · exact .inr h'
       · subst h'; exact (H.iff j).1 h
   · rw [if_neg h]
     have hu := Jv (Ex hk h)
     have hle := H.le
     refine ⟨by simpa using H.len, fun j => ?_, fun h => (by cases h), fun _ => .inr (by show hO (s.1.set k true) < _; omega), by show hO (s.1.set k true) ≤ _; omega⟩
     show (s.1.set k true)[j]? = some true ↔ _
     rw [dc hk, H.iff j, List.mem_append, jk]
     constructor
     · rintro ((h | h) | h) <;> simp [h]
     · rintro (h | h | h) <;> simp [h]
  have := abt xs (done ++ [(k : Int)]) (mM s k) H2 fun y hy => hx y (List.mem_cons_of_mem _ hy)
  rwa [List.append_assoc] at this
theorem SK {u : al} (N : Nat) (l : List Int) (y : Int) (K : Bool → Int → List Bool → Option (List Bool)) (hx : ∀ x ∈ l, 0 ≤ x ∧ x < u.ab.length) (hl : l.length < 1000000) : ∀ (n k : Nat) (v : List Bool) (ag : Bool), v.length = u.ab.length → k ≤ l.length → l.length < n + k →
 Dz N l y u K n v ag (k : Int) = K ((l.drop k).foldl mM (v, ag)).2 (bt .i64 (y + 1)) ((l.drop k).foldl mM (v, ag)).1
 | 0, k, v, ag, _, h1, h2 => by omega
 | n + 1, k, v, ag, hv, h1, h2 => by
  show Dy N l v y ag (k : Int) u K _ = _
  unfold Dy IS Dw zz
  by_cases hk : k < l.length
  · have hm := hx l[k] (List.getElem_mem hk)
    obtain ⟨j, hj⟩ := Int.eq_ofNat_of_zero_le hm.1
    have uP : j < v.length := by rw [hv]; omega
    rw [xo k _ hk, kS, List.getElem?_eq_getElem hk, List.drop_eq_getElem_cons hk, List.foldl_cons]
    simp only [cond_true, Option.bind_some, hj, kS]
    rw [sB k (by omega)]
    have mk : mM (v, ag) (j : Int) = if v[j]? = some true then (v, ag) else (v.set j true, true) := by unfold mM; rw [Int.toNat_natCast]
    by_cases hb : v[j]? = some true
    · rw [mk, if_pos hb, hb]
      exact SK N l y K hx hl n (k + 1) v ag hv hk (by omega)
    · rw [mk, if_neg hb, Ex uP hb]
      simp only [Option.bind_some, Bool.not_false, cond_true, Int.toNat_natCast]
      exact SK N l y K hx hl n (k + 1) (v.set j true) true (by simpa using hv) hk (by omega)
  · have : k = l.length := by omega
    subst this
    rw [xp, List.drop_length]; rfl
def mc (u : al) (s : List Bool × Bool) (i : Nat) : List Bool × Bool := if s.1[i]? = some true then (match u.ab[i]? with | some x => (jv u i x).foldl mM s | none => s) else s
theorem Sz (u : al) (y : Nat) (i : ak) : (jv u y i).length ≤ 3 := by
 have h := SF u y i
 unfold jv
 have key : ∀ (l s : List Int), (l.foldl nE s).length ≤ s.length + l.length := by
  intro l
  induction l with
  | nil => intro s; simp
  | cons x l ih => intro s; rw [List.foldl_cons]; have := ih (nE s x); have := abj s x; simp; omega
 have := key ((jN u y i).map fun p => p.1) []
 simp at this
 omega
theorem abu : ∀ (xs : List Int) (s : List Bool × Bool), (xs.foldl mM s).1.length = s.1.length
 | [], s => rfl
 | x :: xs, s => by
  rw [List.foldl_cons, abu]
  unfold mM
  split
  · rfl
  · simp
theorem anx (u : al) (s : List Bool × Bool) (i : Nat) : (mc u s i).1.length = s.1.length := by
 unfold mc
 split
 · split
   · exact abu _ _
   · rfl
 · rfl
theorem SL {u : al} (U : fT u) (N : Nat) (hN : 1000 ≤ N) (k8 : Bool → List Bool → Option (List Bool)) : ∀ (n i : Nat) (s : List Bool × Bool), s.1.length = u.ab.length → i ≤ u.ab.length → u.ab.length < n + i →
 wX N u k8 n s.1 s.2 (i : Int) = k8 ((List.range' i (u.ab.length - i)).foldl (mc u) s).2 ((List.range' i (u.ab.length - i)).foldl (mc u) s).1
 | 0, i, s, _, h1, h2 => by omega
 | n + 1, i, s, hv, h1, h2 => by
  have hn := U.n1
  show DA N s.1 u s.2 (i : Int) k8 _ = _
  unfold DA IU IT zz
  rw [hv]
  by_cases hi : i < u.ab.length
  · have Js : i < s.1.length := by omega
    rw [xo i _ hi, show u.ab.length - i = (u.ab.length - (i + 1)) + 1 by omega, List.range'_succ, List.foldl_cons]
    simp only [cond_true, kS]
    by_cases hb : s.1[i]? = some true
    · rw [hb]
      simp only [Option.bind_some, Bool.not_true, cond_false]
      rw [abk U N hN i hi, Option.bind_some, show (0 : Int) = ((0 : Nat) : Int) from rfl, SK N _ _ _ (fun x hx => abm U (List.getElem?_eq_getElem hi) hx) (by have := Sz u i u.ab[i]; omega) N 0 s.1 s.2 hv (Nat.zero_le _) (by have := Sz u i u.ab[i]; omega), List.drop_zero]
      show wX N u k8 n _ _ _ = _
      rw [sB i (by omega)]
      have e : mc u s i = (jv u i u.ab[i]).foldl mM (s.1, s.2) := by unfold mc; rw [if_pos hb, List.getElem?_eq_getElem hi]
      rw [← e]
      exact SL U N hN k8 n (i + 1) (mc u s i) (by rw [anx]; exact hv) hi (by omega)
    · rw [Ex Js hb]
      simp only [Option.bind_some, Bool.not_false, cond_true]
      show wX N u k8 n _ _ _ = _
      rw [sB i (by omega)]
      have e : mc u s i = s := by unfold mc; rw [if_neg hb]
      rw [e]
      exact SL U N hN k8 n (i + 1) s hv hi (by omega)
  · have : i = u.ab.length := by omega
    subst this
    rw [xp, Nat.sub_self]; rfl
structure PR (u : al) (v0 : List Bool) (is : List Nat) (s : List Bool × Bool) : Prop where
 len : s.1.length = u.ab.length
 mono : ∀ j : Nat, v0[j]? = some true → s.1[j]? = some true
 sound : ∀ i, s.1[i]? = some true → sD u i
 stay : s.2 = false → s.1 = v0 ∧ ∀ a ∈ is, ∀ (b : Nat) i, v0[a]? = some true → u.ab[a]? = some i → (b : Int) ∈ jv u a i → v0[b]? = some true
 dec : s.2 = true → hO s.1 < hO v0
 le : hO s.1 ≤ hO v0
theorem abv {u : al} (U : fT u) {v0 : List Bool} : ∀ (xs done : List Nat) (s : List Bool × Bool), PR u v0 done s → PR u v0 (done ++ xs) (xs.foldl (mc u) s)
 | [], done, s, H => by rw [List.append_nil]; exact H
 | a :: xs, done, s, H => by
  have H2 : PR u v0 (done ++ [a]) (mc u s a) := by
   unfold mc
   by_cases h : s.1[a]? = some true
   · rw [if_pos h]
     cases hx : u.ab[a]? with
     | none =>
      have := (List.getElem?_eq_some_iff.1 h).1
      have := List.getElem?_eq_none_iff.1 hx
      have := H.len
      omega
     | some x =>
      show PR u v0 (done ++ [a]) ((jv u a x).foldl mM s)
      have M : MR u.ab.length s.1 s.2 ([] ++ jv u a x) ((jv u a x).foldl mM s) := abt _ [] s ⟨H.len, fun j => by simp, fun h => ⟨h, rfl⟩, fun h => .inl h, Nat.le_refl _⟩ (fun z hz => abm U hx hz)
      rw [List.nil_append] at M
      refine ⟨M.len, fun j hj => (M.iff j).2 (.inl (H.mono j hj)), fun i hi => ?_, fun hs => ?_, fun hs => ?_, Nat.le_trans M.le H.le⟩
      · rcases (M.iff i).1 hi with h' | h'
        · exact H.sound i h'
        · exact .step (H.sound a h) hx h'
      · obtain ⟨h1, h2⟩ := M.stay hs
        obtain ⟨h3, h4⟩ := H.stay h1
        refine ⟨h2.trans h3, fun a' vx b i Jx dr hb => ?_⟩
        rcases List.mem_append.1 vx with h' | h'
        · exact h4 a' h' b i Jx dr hb
        · obtain rfl := List.mem_singleton.1 h'
          rw [hx] at dr; cases dr
          rw [← h3, ← h2]
          exact (M.iff b).2 (.inr hb)
      · have := H.le
        rcases M.dec hs with h' | h'
        · have := H.dec h'; have := M.le; omega
        · omega
   · rw [if_neg h]
     refine ⟨H.len, H.mono, H.sound, fun hs => ?_, H.dec, H.le⟩
     obtain ⟨h3, h4⟩ := H.stay hs
     refine ⟨h3, fun a' vx b i Jx dr hb => ?_⟩
     rcases List.mem_append.1 vx with h' | h'
     · exact h4 a' h' b i Jx dr hb
     · obtain rfl := List.mem_singleton.1 h'
       rw [h3] at h
       exact absurd Jx h
  have := abv U xs (done ++ [a]) (mc u s a) H2
  rwa [List.append_assoc] at this
theorem abw {u : al} (U : fT u) (N : Nat) (hN : 1000 ≤ N) : ∀ (n : Nat) (v : List Bool), v.length = u.ab.length → (∀ i, v[i]? = some true → sD u i) → v[0]? = some true → hO v + 2 ≤ n → wY N u n v true = some (xq u)
 | 0, v, _, _, _, h => by omega
 | n + 1, v, hl, hs, hz, h => by
  have hn := U.n1
  show DB N v u (fun aq cf => wY N u n cf aq) = _
  unfold DB
  have e := SL U N hN (fun aq cf => wY N u n cf aq) N 0 (v, false) hl (Nat.zero_le _) (by omega)
  rw [show ((0 : Nat) : Int) = 0 from rfl] at e
  rw [e]
  have P : PR u v ([] ++ List.range' 0 (u.ab.length - 0)) ((List.range' 0 (u.ab.length - 0)).foldl (mc u) (v, false)) := abv U _ [] (v, false) ⟨hl, fun j h => h, hs, fun _ => ⟨rfl, fun a ha => by simp at ha⟩, fun h => (by cases h), Nat.le_refl _⟩
  generalize (List.range' 0 (u.ab.length - 0)).foldl (mc u) (v, false) = s at P
  cases h2 : s.2 with
  | true => exact abw U N hN n s.1 P.len P.sound (P.mono 0 hz) (by have := P.dec h2; omega)
  | false =>
   obtain ⟨h3, h4⟩ := P.stay h2
   obtain ⟨m, rfl⟩ : ∃ m, n = m + 1 := ⟨n - 1, by omega⟩
   show some s.1 = _
   rw [h3, Fin.eq ⟨hl, hs, hz, fun a b i ha dr hb => h4 a (by
    rw [List.nil_append, List.mem_range'_1]
    have := (List.getElem?_eq_some_iff.1 dr).1
    omega) b i ha dr hb⟩]
theorem anh (N : Nat) (hN : 1000 ≤ N) (u : al) : Ch N u = some (zR u) := by
 unfold Ch zR
 rw [Er N hN, Option.bind_some]
 cases hp : iH u with
 | false => rfl
 | true =>
  have U : fT u := ⟨hp⟩
  have hn := U.n1
  show DC N u = _
  unfold DC
  rw [decide_eq_true (show (0 : Int) ≤ (u.ab.length : Int) by omega), decide_eq_true (show (u.ab.length : Int) ≤ 65536 by omega)]
  have e0 : ix (List.replicate (u.ab.length : Int).toNat false) 0 = some false := by
   show (List.replicate (u.ab.length : Int).toNat false)[0]? = _
   rw [Int.toNat_natCast, List.getElem?_replicate, if_pos (by omega)]
  show ((ix (List.replicate (u.ab.length : Int).toNat false) 0).bind _) = _
  rw [e0, Option.bind_some, Int.toNat_natCast, show ((0 : Int).toNat) = 0 from rfl]
  have hu := abr u.ab.length hn.1
  have g := Sx u.ab.length hn.1
  exact abw U N hN N _ (by simp) (fun i hi => by rw [(g i).1 hi]; exact .zero) ((g 0).2 rfl) (by omega)
theorem ani (N : Nat) (l : List Bool) (hl : l.length < 1000000) (hN : l.length < N) : Ci N l l = some true := by
 unfold Ci I3
 simp only [decide_true, Bool.not_true, cond_false]
 exact SB l.length (fun n i => DO N l l n (i : Int)) (some true) (fun n i hi => by
  show xc N _ _ _ _ = _
  unfold xc IZ IY
  rw [xo i _ hi, kS, List.getElem?_eq_getElem hi]
  simp only [Option.bind_some, cond_true, bne_self_eq_false, cond_false]
  rw [sB i (by omega)]) (fun n => by
  show xc N _ _ _ _ = _
  unfold xc
  rw [xp]; rfl) N 0 (Nat.zero_le _) (by omega)
end
end Go.Ve.T
namespace Go.Ve.T
open Go.Ve
open Classical
noncomputable section
def ow (i : ak) : Bool := jP i.aJ || (decide (i.aJ = 25) || decide (i.aJ = 32))
def Es (u : al) (y : Nat) (i : ak) (x : Nat) : Prop := (∃ k, ((x : Int), k) ∈ jN u y i ∧ ¬ (x = y + 1 ∧ k = 0)) ∨ (x = y + 1 ∧ ow i = true ∧ y + 1 < u.ab.length)
def Sy (u : al) (x : Nat) : Prop := x = 0 ∨ ∃ y i, u.ab[y]? = some i ∧ Es u y i x
def pH (u : al) : List Int := ((List.range u.ab.length).filter fun x => decide (Sy u x)).map fun x : Nat => (x : Int)
theorem anz (u : al) : gT (pH u) := by
 unfold pH gT
 rw [List.pairwise_map]
 exact (List.pairwise_lt_range.filter _).imp fun h => by omega
theorem anA (u : al) (x : Int) : x ∈ pH u ↔ ∃ k : Nat, x = k ∧ k < u.ab.length ∧ Sy u k := by
 unfold pH
 rw [List.mem_map]
 constructor
 · rintro ⟨k, h, rfl⟩
   rw [List.mem_filter, List.mem_range] at h
   exact ⟨k, rfl, h.1, of_decide_eq_true h.2⟩
 · rintro ⟨k, rfl, h1, h2⟩
   exact ⟨k, by rw [List.mem_filter, List.mem_range]; exact ⟨h1, decide_eq_true h2⟩, rfl⟩
theorem anb (u : al) : (pH u).length ≤ u.ab.length := by
 unfold pH
 rw [List.length_map]
 exact Nat.le_trans (List.length_filter_le _ _) (by simp)
structure BS (u : al) (y : Nat) (s : List Int) : Prop where
 oh : gT s
 mem : ∀ x : Int, x ∈ s ↔ ∃ k : Nat, x = k ∧ k < u.ab.length ∧ (k = 0 ∨ ∃ a i, a < y ∧ u.ab[a]? = some i ∧ Es u a i k)
theorem anB {n : Nat} {s : List Int} (h : gT s) (hb : ∀ x ∈ s, 0 ≤ x ∧ x < (n : Int)) : s.length ≤ n := by
 have h1 := Qe (l := s) (m := (List.range n).map fun x : Nat => (x : Int)) h.nd (by
  unfold List.Nodup
  rw [List.pairwise_map]
  exact List.pairwise_lt_range.imp fun h => by omega) (fun x hx => by
  obtain ⟨k, rfl⟩ := Int.eq_ofNat_of_zero_le (hb x hx).1
  have := (hb _ hx).2
  exact List.mem_map.2 ⟨k, List.mem_range.2 (by omega), rfl⟩)
 simpa using h1
theorem BS.len {u : al} {y : Nat} {s : List Int} (H : BS u y s) : s.length ≤ u.ab.length := anB H.oh fun x hx => by
 obtain ⟨k, rfl, h1, _⟩ := (H.mem x).1 hx
 omega
def mN (y : Nat) (s : List Int) (p : Int × Int) : List Int := if p.1 = (y : Int) + 1 ∧ p.2 = 0 then s else kv p.1 s
theorem abx (y : Nat) : ∀ (l : List (Int × Int)) (s : List Int), gT s → gT (l.foldl (mN y) s) ∧ ∀ x, x ∈ l.foldl (mN y) s ↔ x ∈ s ∨ ∃ k, (x, k) ∈ l ∧ ¬ (x = (y : Int) + 1 ∧ k = 0)
 | [], s, h => ⟨h, fun x => by simp⟩
 | p :: l, s, h => by
  have h1 : gT (mN y s p) := by
   unfold mN
   split
   · exact h
   · exact wg h
  obtain ⟨h2, h3⟩ := abx y l (mN y s p) h1
  refine ⟨h2, fun x => ?_⟩
  rw [List.foldl_cons, h3]
  have hp : x ∈ mN y s p ↔ x ∈ s ∨ (x = p.1 ∧ ¬ (x = (y : Int) + 1 ∧ p.2 = 0)) := by
   unfold mN
   by_cases hc : p.1 = (y : Int) + 1 ∧ p.2 = 0
   · rw [if_pos hc]
     refine ⟨.inl, fun h => h.elim id fun h => ?_⟩
     obtain ⟨rfl, h2⟩ := h
     exact absurd hc h2
   · rw [if_neg hc, we]
     constructor
     · rintro (rfl | h)
       · exact .inr ⟨rfl, hc⟩
       · exact .inl h
     · rintro (h | h)
       · exact .inr h
       · exact .inl h.1
  rw [hp]
  constructor
  · rintro ((h | ⟨rfl, h⟩) | ⟨k, h, h'⟩)
    · exact .inl h
    · exact .inr ⟨p.2, List.mem_cons_self, h⟩
    · exact .inr ⟨k, List.mem_cons_of_mem _ h, h'⟩
  · rintro (h | ⟨k, h, h'⟩)
    · exact .inl (.inl h)
    · rcases List.mem_cons.1 h with e | h
      · subst e; exact .inl (.inr ⟨rfl, h'⟩)
      · exact .inr ⟨k, h, h'⟩
theorem anC {u : al} (U : fT u) (N : Nat) (hN : 1000 ≤ N) {y : Nat} (hy : y < u.ab.length) {s : List Int} (H : BS u y s) (K : Int → List Int → Option (List Int)) : ∃ s', BS u (y + 1) s' ∧ Ek N u.ab (y : Int) u s K = K (((y + 1 : Nat)) : Int) s' := by
  have hn := U.n1
  have hi : u.ab[y]? = some u.ab[y] := List.getElem?_eq_getElem hy
  obtain ⟨f1, f2⟩ := abx y (jN u y u.ab[y]) s H.oh
  have hw : bt .i64 ((y : Int) + 1) = (y : Int) + 1 := oU (by omega) (by omega)
  have anD : ∀ l : List (Int × Int), oj (fun (s : List Int) (x : Int × Int) => zM N (y : Int) s u.ab[y] u x.1 x.2 (fun f m0 => some (m0, f))) l s = some (l.foldl (mN y) s, .go) := fun l => SE _ (mN y) (fun _ _ => True) (fun n s x _ => ⟨by
    unfold zM mN
    rw [hw]
    by_cases h1 : x.1 = (y : Int) + 1 <;> by_cases h2 : x.2 = 0 <;> simp [h1, h2], trivial⟩) l s trivial
  refine ⟨if ow u.ab[y] = true ∧ y + 1 < u.ab.length then kv ((y : Int) + 1) ((jN u y u.ab[y]).foldl (mN y) s) else (jN u y u.ab[y]).foldl (mN y) s, ⟨?_, fun x => ?_⟩, ?_⟩
  · split
    · exact wg f1
    · exact f1
  · have base : x ∈ (jN u y u.ab[y]).foldl (mN y) s ∨ (x = (y : Int) + 1 ∧ ow u.ab[y] = true ∧ y + 1 < u.ab.length) ↔ ∃ k : Nat, x = k ∧ k < u.ab.length ∧ (k = 0 ∨ ∃ a i, a < y + 1 ∧ u.ab[a]? = some i ∧ Es u a i k) := by
      rw [f2, H.mem]
      constructor
      · rintro ((⟨k, rfl, h1, h2⟩ | ⟨k, h1, h2⟩) | ⟨rfl, h1, h2⟩)
        · refine ⟨k, rfl, h1, h2.imp id fun ⟨a, i, h3, h4⟩ => ⟨a, i, by omega, h4⟩⟩
        · obtain ⟨h3, h4⟩ := Ju U hi h1
          obtain ⟨z, hz⟩ := Int.eq_ofNat_of_zero_le h3
          have hz : x = (z : Int) := hz
          subst hz
          exact ⟨z, rfl, by have : (z : Int) < u.ab.length := h4; omega, .inr ⟨y, _, Nat.lt_succ_self _, hi, .inl ⟨k, h1, fun h => h2 ⟨by omega, h.2⟩⟩⟩⟩
        · exact ⟨y + 1, rfl, h2, .inr ⟨y, _, Nat.lt_succ_self _, hi, .inr ⟨rfl, h1, h2⟩⟩⟩
      · rintro ⟨k, rfl, h1, h2⟩
        rcases h2 with h2 | ⟨a, i, h3, h4, h5⟩
        · exact .inl (.inl ⟨k, rfl, h1, .inl h2⟩)
        · by_cases ha : a < y
          · exact .inl (.inl ⟨k, rfl, h1, .inr ⟨a, i, ha, h4, h5⟩⟩)
          · have : a = y := by omega
            subst this
            rw [hi] at h4; cases h4
            rcases h5 with ⟨q, h6, h7⟩ | ⟨h6, h7, h8⟩
            · exact .inl (.inr ⟨q, h6, fun h => h7 ⟨by omega, h.2⟩⟩)
            · exact .inr ⟨by rw [h6]; rfl, h7, h8⟩
    rw [← base]
    split
    · rw [we]
      constructor
      · rintro (h | h)
        · exact .inr ⟨h, ‹_›⟩
        · exact .inl h
      · rintro (h | h)
        · exact .inr h
        · exact .inl h.1
    · exact ⟨.inl, fun h => h.elim id fun h => absurd h.2 ‹_›⟩
  · unfold Ek
    rw [kS, hi, Option.bind_some, SD U N hN y hy, Option.bind_some, anD, Option.bind_some]
    generalize (jN u y u.ab[y]).foldl (mN y) s = t
    show Ej N u.ab[y] (y : Int) u t (y : Int) K = _
    unfold Ej Ei Eh Eg Ef ow
    rw [hw]
    show (bif jP u.ab[y].aJ then _ else _) = _
    have bW : decide ((y : Int) + 1 < (u.ab.length : Int)) = decide (y + 1 < u.ab.length) := decide_eq_decide.2 (by omega)
    rw [bW]
    cases jP u.ab[y].aJ <;> cases decide (u.ab[y].aJ = 25) <;> cases decide (u.ab[y].aJ = 32) <;> by_cases h : y + 1 < u.ab.length <;> simp [h]
theorem ana (N : Nat) (hN : 1000 ≤ N) (u : al) (hp : iH u = true) : vQ N u = some (pH u) := by
 have U : fT u := ⟨hp⟩
 have hn := U.n1
 unfold vQ
 rw [Ep N hN, Option.bind_some, hp]
 show El N u = _
 unfold El
 obtain ⟨n', s', hs, e⟩ := Jo (fun n (s : List Int) y => zN N (u.ab.length : Int) u.ab u n s y) u.ab.length (fun y s => BS u y s) (fun n i s hi hs => by
  obtain ⟨s', h1, h2⟩ := anC U N hN hi hs (fun aq c8 => zN N (u.ab.length : Int) u.ab u n c8 aq)
  refine ⟨s', h1, ?_⟩
  show xh N _ _ u s (i : Int) _ = _
  unfold xh
  rw [xo i _ hi]
  exact h2) N 0 (kv 0 []) ⟨wg .nil, fun x => by
   rw [we]
   constructor
   · rintro (rfl | h)
     · exact ⟨0, rfl, by omega, .inl rfl⟩
     · cases h
   · rintro ⟨k, rfl, _, h | ⟨a, i, h, _⟩⟩
     · subst h; exact .inl rfl
     · omega⟩ (Nat.zero_le _) (by omega)
 rw [show ((0 : Nat) : Int) = 0 from rfl] at e
 rw [e]
 show xh N _ _ u s' (u.ab.length : Int) _ = _
 unfold xh
 rw [xp]
 show ((Jk s').bind _) = _
 unfold Jk
 have hlen := hs.len
 rw [decide_eq_true (show s'.length ≤ 1048576 by omega)]
 show some s' = _
 congr 1
 refine gT.ext hs.oh (anz u) fun x => ?_
 rw [hs.mem, anA]
 constructor
 · rintro ⟨k, rfl, h1, h2⟩
   exact ⟨k, rfl, h1, h2.imp id fun ⟨a, i, _, h⟩ => ⟨a, i, h⟩⟩
 · rintro ⟨k, rfl, h1, h2⟩
   exact ⟨k, rfl, h1, h2.imp id fun ⟨a, i, h⟩ => ⟨a, i, (List.getElem?_eq_some_iff.1 h.1).1, h⟩⟩
end
end Go.Ve.T
namespace Go.Ve.T
open Go.Ve
open Classical
noncomputable section
def Jq (u : al) (y : Nat) (i : ak) (x : Nat) : Prop := gJ i = some (x : Int) ∨ (kC i = true ∧ 0 ≤ gb u.aI y ∧ ∃ d, ix u.aI (gb u.aI y) = some d ∧ d.dJ = (x : Int)) ∨ (x = y + 1 ∧ ow i = true)
theorem Ss {u : al} {y : Nat} {i : ak} {x k : Int} : (x, k) ∈ jN u y i ↔ (jP i.aJ = false ∧ y + 1 < u.ab.length ∧ x = (y : Int) + 1 ∧ k = 0) ∨ (gJ i = some x ∧ k = 1) ∨ (kC i = true ∧ 0 ≤ gb u.aI y ∧ ∃ d, ix u.aI (gb u.aI y) = some d ∧ d.dJ = x ∧ k = 2) := by
 unfold jN
 rw [List.mem_append, List.mem_append, or_assoc]
 refine or_congr ?_ (or_congr ?_ ?_)
 · split
   · rw [List.mem_singleton, Prod.mk.injEq]
     have h := ‹jP i.aJ = false ∧ y + 1 < u.ab.length›
     exact ⟨fun e => ⟨h.1, h.2, e⟩, fun e => e.2.2⟩
   · next hc => exact ⟨fun h => (by cases h), fun h => absurd ⟨h.1, h.2.1⟩ hc⟩
 · rw [List.mem_map]
   constructor
   · rintro ⟨z, h, e⟩
     obtain ⟨rfl, rfl⟩ := Prod.mk.inj e
     exact ⟨by simpa using h, rfl⟩
   · rintro ⟨h, rfl⟩
     exact ⟨x, by simpa using h, rfl⟩
 · split
   · rw [List.mem_map]
     have h := ‹kC i = true ∧ 0 ≤ gb u.aI y›
     constructor
     · rintro ⟨d, h1, e⟩
       obtain ⟨h2, h3⟩ := Prod.mk.inj e
       exact ⟨h.1, h.2, d, by simpa using h1, h2, h3.symm⟩
     · rintro ⟨_, _, d, h1, rfl, rfl⟩
       exact ⟨d, by simpa using h1, rfl⟩
   · next hc => exact ⟨fun h => (by cases h), fun h => absurd ⟨h.1, h.2.1⟩ hc⟩
theorem aa9 {u : al} {y : Nat} {i : ak} {x : Nat} (hx : x < u.ab.length) : Es u y i x ↔ Jq u y i x := by
 unfold Es Jq
 constructor
 · rintro (⟨k, h, h'⟩ | ⟨h1, h2, _⟩)
   · rcases Ss.1 h with ⟨_, _, h3, h4⟩ | ⟨h3, _⟩ | ⟨h3, h4, d, h5, h6, _⟩
     · exact absurd ⟨by omega, h4⟩ h'
     · exact .inl h3
     · exact .inr (.inl ⟨h3, h4, d, h5, h6⟩)
   · exact .inr (.inr ⟨h1, h2⟩)
 · rintro (h | ⟨h3, h4, d, h5, h6⟩ | ⟨h1, h2⟩)
   · exact .inl ⟨1, Ss.2 (.inr (.inl ⟨h, rfl⟩)), fun h => by omega⟩
   · exact .inl ⟨2, Ss.2 (.inr (.inr ⟨h3, h4, d, h5, h6, rfl⟩)), fun h => by omega⟩
   · exact .inr ⟨h1, h2, by omega⟩
structure BV (u : al) (y : Nat) (v : List Bool) : Prop where
 len : v.length = u.ab.length + 1
 iff : ∀ k : Nat, v[k]? = some true ↔ k = 0 ∨ ∃ a i, a < y ∧ u.ab[a]? = some i ∧ Jq u a i k
theorem Su {v : List Bool} {k : Nat} (h : k < v.length) : ∃ b, ix v (k : Int) = some b := ⟨v[k], List.getElem?_eq_getElem h⟩
theorem am7 {u : al} (U : fT u) (N : Nat) (hN : 1000 ≤ N) {y : Nat} (hy : y < u.ab.length) {v : List Bool} (H : BV u y v) (K : Int → List Bool → Option (List Int)) : ∃ v', BV u (y + 1) v' ∧ DJ N u (y : Int) v K = K (((y + 1 : Nat)) : Int) v' := by
 have hn := U.n1
 have hi : u.ab[y]? = some u.ab[y] := List.getElem?_eq_getElem hy
 have hw : bt .i64 ((y : Int) + 1) = ((y + 1 : Nat) : Int) := sB y (by omega)
 have s3 : ∀ v2 : List Bool, v2.length = u.ab.length + 1 → ∃ v3, v3.length = u.ab.length + 1 ∧ (∀ k : Nat, v3[k]? = some true ↔ v2[k]? = some true ∨ (k = y + 1 ∧ ow u.ab[y] = true)) ∧ zE N u (y : Int) v2 K = K (((y + 1 : Nat)) : Int) v3 := fun v2 h2 => by
  have hb : ∀ b : Bool, zD N (y : Int) v2 b u K = K (((y + 1 : Nat)) : Int) (bif b then v2.set (y + 1) true else v2) := fun b => by
   unfold zD DG
   rw [hw]
   obtain ⟨c, hc⟩ := Su (v := v2) (k := y + 1) (by omega)
   rw [hc, Int.toNat_natCast]
   cases b <;> rfl
  refine ⟨bif ow u.ab[y] then v2.set (y + 1) true else v2, ?_, fun k => ?_, ?_⟩
  · cases ow u.ab[y] <;> simp [h2]
  · cases ow u.ab[y] with
    | true => rw [cond_true, dc (by omega)]; simp
    | false => simp
  · unfold zE DH
    simp only [hb, kS, hi, Option.bind_some, aba]
    unfold ow
    cases jP u.ab[y].aJ <;> cases decide (u.ab[y].aJ = 25) <;> cases decide (u.ab[y].aJ = 32) <;> rfl
 have s2 : ∀ v1 : List Bool, v1.length = u.ab.length + 1 → ∃ v3, v3.length = u.ab.length + 1 ∧ (∀ k : Nat, v3[k]? = some true ↔ v1[k]? = some true ∨ (kC u.ab[y] = true ∧ 0 ≤ gb u.aI y ∧ ∃ d, ix u.aI (gb u.aI y) = some d ∧ d.dJ = (k : Int)) ∨ (k = y + 1 ∧ ow u.ab[y] = true)) ∧ zF N u (y : Int) v1 K = K (((y + 1 : Nat)) : Int) v3 := fun v1 h1 => by
  unfold zF DI
  rw [Sv N u y (by omega) (by omega), Option.bind_some, kS, hi, Option.bind_some, abb, Option.bind_some]
  by_cases hg : kC u.ab[y] = true ∧ 0 ≤ gb u.aI y
  · obtain ⟨d, hd, hm⟩ := Sw hg.2
    obtain ⟨j, hj⟩ := List.getElem?_of_mem hm
    have hr := U.Jr hj
    obtain ⟨k0, uE⟩ := Int.eq_ofNat_of_zero_le hr.2.2.2.1
    have uE : d.dJ = (k0 : Int) := uE
    obtain ⟨c, hc⟩ := Su (v := v1) (k := k0) (by omega)
    obtain ⟨v3, h3, h4, h5⟩ := s3 (v1.set k0 true) (by simpa using h1)
    refine ⟨v3, h3, fun k => ?_, ?_⟩
    · rw [h4, dc (by omega)]
      constructor
      · rintro ((h | h) | h)
        · exact .inl h
        · exact .inr (.inl ⟨hg.1, hg.2, d, hd, by rw [uE, h]⟩)
        · exact .inr (.inr h)
      · rintro (h | ⟨_, _, d', h6, h7⟩ | h)
        · exact .inl (.inl h)
        · rw [hd] at h6; cases h6
          exact .inl (.inr (by omega))
        · exact .inr h
    · rw [hg.1, decide_eq_true hg.2, hd]
      simp only [cond_true, Option.bind_some, uE, hc, Int.toNat_natCast]
      exact h5
  · obtain ⟨v3, h3, h4, h5⟩ := s3 v1 h1
    refine ⟨v3, h3, fun k => ?_, ?_⟩
    · rw [h4]
      constructor
      · rintro (h | h)
        · exact .inl h
        · exact .inr (.inr h)
      · rintro (h | ⟨h6, h7, _⟩ | h)
        · exact .inl h
        · exact absurd ⟨h6, h7⟩ hg
        · exact .inr h
    · cases hr : kC u.ab[y] with
      | false => exact h5
      | true =>
       rw [decide_eq_false fun h => hg ⟨hr, h⟩]
       exact h5
 unfold DJ
 rw [kS, hi, Option.bind_some, Sn, Option.bind_some]
 have all : ∀ (v1 v3 : List Bool), (∀ k : Nat, v1[k]? = some true ↔ v[k]? = some true ∨ gJ u.ab[y] = some (k : Int)) → (∀ k : Nat, v3[k]? = some true ↔ v1[k]? = some true ∨ (kC u.ab[y] = true ∧ 0 ≤ gb u.aI y ∧ ∃ d, ix u.aI (gb u.aI y) = some d ∧ d.dJ = (k : Int)) ∨ (k = y + 1 ∧ ow u.ab[y] = true)) →
  ∀ k : Nat, v3[k]? = some true ↔ k = 0 ∨ ∃ a i, a < y + 1 ∧ u.ab[a]? = some i ∧ Jq u a i k := fun v1 v3 h1 h3 k => by
  rw [h3, h1, H.iff]
  constructor
  · rintro (((h | ⟨a, i, h4, h5⟩) | h) | h)
    · exact .inl h
    · exact .inr ⟨a, i, by omega, h5⟩
    · exact .inr ⟨y, _, Nat.lt_succ_self _, hi, .inl h⟩
    · exact .inr ⟨y, _, Nat.lt_succ_self _, hi, .inr h⟩
  · rintro (h | ⟨a, i, h4, h5, h6⟩)
    · exact .inl (.inl (.inl h))
    · by_cases ha : a < y
      · exact .inl (.inl (.inr ⟨a, i, ha, h5, h6⟩))
      · have : a = y := by omega
        subst this
        rw [hi] at h5; cases h5
        rcases h6 with h6 | h6
        · exact .inl (.inr h6)
        · exact .inr h6
 cases hj : gJ u.ab[y] with
 | none =>
  obtain ⟨v3, h3, h4, h5⟩ := s2 v H.len
  exact ⟨v3, ⟨h3, all v v3 (fun k => by rw [hj]; simp) h4⟩, h5⟩
 | some x =>
  have hx := U.jmp hi hj
  obtain ⟨k0, uE⟩ := Int.eq_ofNat_of_zero_le hx.1
  have uE : x = (k0 : Int) := uE
  subst uE
  obtain ⟨c, hc⟩ := Su (v := v) (k := k0) (by rw [H.len]; omega)
  obtain ⟨v3, h3, h4, h5⟩ := s2 (v.set k0 true) (by simpa using H.len)
  refine ⟨v3, ⟨h3, all _ v3 (fun k => by
   rw [dc (by rw [H.len]; omega), hj, Option.some.injEq]
   exact or_congr Iff.rfl (by omega)) h4⟩, ?_⟩
  simp only [cond_true, hc, Option.bind_some, Int.toNat_natCast]
  exact h5
theorem am8 (N : Nat) (hN : 1000 ≤ N) (n : Nat) (v : List Bool) (hv : v.length = n + 1) (hn : n ≤ 600) : zG N (n : Int) v = some (((List.range n).filter fun k => decide (v[k]? = some true)).map fun k : Nat => (k : Int)) := by
 unfold zG
 obtain ⟨n', s', hs, e⟩ := Jo (fun m (s : List Int) y => xa N (n : Int) m v s y) n (fun i s => s = ((List.range i).filter fun k => decide (v[k]? = some true)).map fun k : Nat => (k : Int)) (fun m i s hi hs => by
  subst hs
  refine ⟨_, rfl, ?_⟩
  have Js : i < v.length := by omega
  show w9 N _ v _ (i : Int) _ = _
  unfold w9 IX DK
  rw [xo i _ hi, kS, List.getElem?_eq_getElem Js, Option.bind_some, List.range_succ, List.filter_append, List.map_append]
  have hl : (((List.range i).filter fun k => decide (v[k]? = some true)).map fun k : Nat => (k : Int)).length ≤ 600 := by
   rw [List.length_map]
   have := List.length_filter_le (fun k => decide (v[k]? = some true)) (List.range i)
   simp at this ⊢
   omega
  have e1 : ([i].filter fun k => decide (v[k]? = some true)) = bif v[i] then [i] else [] := by
   rw [List.filter_cons, List.getElem?_eq_getElem Js]
   cases v[i] <;> rfl
  rw [e1]
  cases v[i] with
  | true =>
   show gu (decide (_ + [(i : Int)].length ≤ 1048576)) _ = _
   rw [decide_eq_true (by simp only [List.length_singleton]; omega), sB i (by omega)]; rfl
  | false =>
   rw [sB i (by omega)]
   show xa N _ m v _ _ = xa N _ m v (_ ++ []) _
   rw [List.append_nil]; rfl) N 0 [] rfl (Nat.zero_le _) (by omega)
 rw [show ((0 : Nat) : Int) = 0 from rfl] at e
 rw [e]
 show w9 N _ v s' (n : Int) _ = _
 unfold w9
 rw [xp, hs]; rfl
theorem am9 (N : Nat) (hN : 1000 ≤ N) (u : al) (hp : iH u = true) : vR N u = some (pH u) := by
 have U : fT u := ⟨hp⟩
 have hn := U.n1
 unfold vR
 rw [Er N hN, Option.bind_some, hp]
 show DM N u = _
 unfold DM
 rw [sB u.ab.length (by omega), decide_eq_true (show (0 : Int) ≤ ((u.ab.length + 1 : Nat) : Int) by omega), decide_eq_true (show ((u.ab.length + 1 : Nat) : Int) ≤ 65536 by omega), Int.toNat_natCast]
 have e0 : ix (List.replicate (u.ab.length + 1) false) 0 = some false := by
  show (List.replicate (u.ab.length + 1) false)[0]? = _
  rw [List.getElem?_replicate, if_pos (by omega)]
 rw [show ∀ k : Option (List Int), gu (true && true) k = k from fun k => rfl, e0, Option.bind_some, show ((0 : Int).toNat) = 0 from rfl]
 have g := Sx (u.ab.length + 1) (by omega)
 obtain ⟨n', v', hv, e⟩ := Jo (fun n (v : List Bool) y => zH N (u.ab.length : Int) u n v y) u.ab.length (fun y v => BV u y v) (fun n i v hi hv => by
  obtain ⟨v', h1, h2⟩ := am7 U N hN hi hv (fun aq c8 => zH N (u.ab.length : Int) u n c8 aq)
  refine ⟨v', h1, ?_⟩
  show xb N _ u v (i : Int) _ = _
  unfold xb
  rw [xo i _ hi]
  exact h2) N 0 ((List.replicate (u.ab.length + 1) false).set 0 true) ⟨by simp, fun k => by
   rw [g k]
   exact ⟨.inl, fun h => h.elim id fun ⟨a, i, h, _⟩ => by omega⟩⟩ (Nat.zero_le _) (by omega)
 rw [show ((0 : Nat) : Int) = 0 from rfl] at e
 rw [e]
 show xb N _ u v' (u.ab.length : Int) _ = _
 unfold xb
 rw [xp]
 show zG N _ v' = _
 rw [am8 N hN u.ab.length v' hv.len hn.2.1]
 unfold pH
 congr 2
 refine List.filter_congr fun k hk => ?_
 have hk := List.mem_range.1 hk
 rw [decide_eq_decide, hv.iff]
 unfold Sy
 refine or_congr Iff.rfl ⟨fun ⟨a, i, h1, h2, h3⟩ => ⟨a, i, h2, (aa9 hk).2 h3⟩, fun ⟨a, i, h2, h3⟩ => ⟨a, i, (List.getElem?_eq_some_iff.1 h2).1, h2, (aa9 hk).1 h3⟩⟩
def Et (u : al) : List Int := bif iH u then pH u else []
theorem abc (N : Nat) (hN : 1000 ≤ N) (u : al) : vQ N u = some (Et u) ∧ vR N u = some (Et u) := by
 unfold Et
 cases hp : iH u with
 | true => exact ⟨ana N hN u hp, am9 N hN u hp⟩
 | false =>
  unfold vQ vR
  rw [Ep N hN, Er N hN, hp]
  exact ⟨rfl, rfl⟩
theorem adb (N : Nat) (hN : 1000 ≤ N) (u : al) (i : ak) (x : Int) : Ia N u i x = some true := by
 have api : (Eu u x).length ≤ 3 := by
  unfold Eu
  cases iH u && Ev u x with
  | false => simp
  | true =>
   show (match u.ab[x.toNat]? with | some i => jv u x.toNat i | none => [] : List Int).length ≤ 3
   cases u.ab[x.toNat]? with
   | none => simp
   | some i => exact Sz _ _ _
 have apj : (zQ i).length ≤ 2 := by
  unfold zQ
  rw [List.length_append]
  have h1 : (if 0 < (cU i.aJ).c7.e0 ∧ j9 i (cU i.aJ).c7.e0 ≠ -1 then [j9 i (cU i.aJ).c7.e0] else []).length ≤ 1 := by split <;> simp
  have h2 : (if 0 < (cU i.aJ).c7.e1 ∧ j9 i (cU i.aJ).c7.e1 ≠ -1 then [j9 i (cU i.aJ).c7.e1] else []).length ≤ 1 := by split <;> simp
  omega
 have apk : (zR u).length ≤ 600 := by
  unfold zR
  cases hp : iH u with
  | false => simp
  | true => show (xq u).length ≤ 600; have := (fT.n1 ⟨hp⟩ : 1 ≤ u.ab.length ∧ _); unfold xq; simp; omega
 have apl : (Et u).length ≤ 600 := by
  unfold Et
  cases hp : iH u with
  | false => simp
  | true => have h1 := (fT.n1 ⟨hp⟩ : 1 ≤ u.ab.length ∧ _); have := anb u; show (pH u).length ≤ 600; omega
 unfold Ia
 obtain ⟨b, hb⟩ := anc u
 simp only [hb, PO, Option.bind_some]
 cases b with
 | false => rfl
 | true =>
  simp only [Bool.not_true, cond_false]
  unfold H9 Cf Ce Cd Ca B7
  rw [ane N hN, anf N hN, Option.bind_some, Option.bind_some, SA N _ (by omega) (by omega), Option.bind_some, (abd N hN u x).1, (abd N hN u x).2, Option.bind_some, Option.bind_some, SA N _ (by omega) (by omega), Option.bind_some,
   ang N hN, anh N hN, Option.bind_some, Option.bind_some, ani N _ (by omega) (by omega), Option.bind_some, (abc N hN u).1, (abc N hN u).2, Option.bind_some, Option.bind_some, SA N _ (by omega) (by omega), Option.bind_some,
   anj, ank, (abe N hN u x).1, (abe N hN u x).2]
  simp
end
end Go.Ve.T
