/- Part 18: The closed run of the chapter's examples of layer 8, by the evaluator, in the kernel: 'head' returns true, and changes nothing of what was there, where the table of powers of ten is as the library lays it. No other condition. And what follows it. -/
import Derived.Test.YteeibihhdldjfaaGreatDoorVeQ
import Derived.Lib.LaidTab
set_option linter.unusedVariables false
set_option linter.unusedSimpArgs false
namespace Go.Ve.T
open Go.Ve Go.Proofs Go.RowKit
noncomputable section
set_option maxRecDepth 100000
def gF (k : Nat) : gB := (bZ PP k).getD ⟨0, [], .skip, false⟩
abbrev g (k : Nat) : Option gB := some (gF k)
theorem g1 {k : Nat} (h : (bZ PP k).isSome = true) : ∀ a, g k = some a → bZ PP k = some a := fun a e => by
 cases e
 cases hc : bZ PP k with
 | none => rw [hc] at h; cases h
 | some x => unfold gF; rw [hc]; rfl
def Hp : List Value := FT.map fun r => .tuple ⟨[.agg ⟨r⟩, .bool true]⟩
def ag2 (vs : List Value) (h : AH) (k : CR → AH → Bool) : Bool := a1 vs fun v => jU v fun kd n => iff (fy kd .i64) (Int.casesOn (motive := fun _ => Bool) n (fun n => iff (Nat.ble 1 n && Nat.ble n 34)
 (nF Hp n fun c => k (.ret c) h)) lX)
def Hq : List Value := FT.flatten
def ag3 (vs : List Value) (h : AH) (k : CR → AH → Bool) : Bool := a0 vs (k (.ret (.agg ⟨Hq⟩)) h)
def sums : qW := [(84, ag2), (120, ag3), (67, Xh), (198, Xi), (109, Xj)]
def PD : NT gB := (.n (.n (.n (.n (.n (.n (.n (.n .e (g 127) .e) (g 63) (.n .e (g 191) .e)) (g 31) (.n (.n .e (g 159) .e) (g 95) .e)) (g 15) (.n (.n (.n .e (g 143) .e) (g 79) (.n .e (g 207) .e)) (g 47) (.n .e (g 111) .e))) (g 7) (.n (.n (.n (.n .e (g 135) .e) (g 71) (.n .e (g 199) .e)) (g 39) (.n .e (g 103) .e)) (g 23) (.n (.n (.n .e (g 151) .e) (g 87) (.n .e (g 215) .e)) (g 55) (.n (.n .e (g 183) .e) (g 119) .e)))) (g 3) (.n (.n (.n (.n (.n .e (g 131) .e) (g 67) .e) (g 35) (.n (.n .e (g 163) .e) (g 99) .e)) (g 19) (.n (.n (.n .e (g 147) .e) (g 83) (.n .e (g 211) .e)) (g 51) (.n (.n .e (g 179) .e) (g 115) .e))) (g 11) (.n (.n (.n (.n .e (g 139) .e) (g 75) .e) (g 43) (.n (.n .e (g 171) .e) (g 107) .e)) (g 27) (.n (.n (.n .e (g 155) .e) (g 91) .e) (g 59) (.n (.n .e (g 187) .e) (g 123) .e))))) none (.n (.n (.n (.n (.n (.n .e (g 129) .e) (g 65) (.n .e (g 193) .e)) (g 33) (.n (.n .e (g 161) .e) (g 97) .e)) (g 17) (.n (.n (.n .e (g 145) .e) (g 81) (.n .e (g 209) .e)) (g 49) (.n (.n .e (g 177) .e) (g 113) .e))) (g 9) (.n (.n (.n (.n .e (g 137) .e) (g 73) (.n .e (g 201) .e)) (g 41) (.n (.n .e (g 169) .e) (g 105) .e)) (g 25) (.n (.n (.n .e (g 153) .e) (g 89) (.n .e (g 217) .e)) (g 57) (.n (.n .e (g 185) .e) (g 121) .e)))) (g 5) (.n (.n (.n (.n (.n .e (g 133) .e) (g 69) (.n .e (g 197) .e)) (g 37) (.n (.n .e (g 165) .e) (g 101) .e)) (g 21) (.n (.n (.n .e (g 149) .e) (g 85) (.n .e (g 213) .e)) (g 53) (.n (.n .e (g 181) .e) (g 117) .e))) (g 13) (.n (.n (.n (.n .e (g 141) .e) (g 77) (.n .e (g 205) .e)) (g 45) (.n (.n .e (g 173) .e) (g 109) .e)) (g 29) (.n (.n (.n .e (g 157) .e) (g 93) .e) (g 61) (.n (.n .e (g 189) .e) (g 125) .e)))))) none (.n (.n (.n (.n (.n (.n (.n .e (g 128) .e) (g 64) (.n .e (g 192) .e)) (g 32) (.n (.n .e (g 160) .e) (g 96) .e)) (g 16) (.n (.n (.n .e (g 144) .e) (g 80) (.n .e (g 208) .e)) (g 48) (.n (.n .e (g 176) .e) (g 112) .e))) (g 8) (.n (.n (.n (.n .e (g 136) .e) (g 72) (.n .e (g 200) .e)) (g 40) (.n (.n .e (g 168) .e) (g 104) .e)) (g 24) (.n (.n (.n .e (g 152) .e) (g 88) (.n .e (g 216) .e)) (g 56) (.n (.n .e (g 184) .e) (g 120) .e)))) (g 4) (.n (.n (.n (.n (.n .e (g 132) .e) (g 68) (.n .e (g 196) .e)) (g 36) (.n (.n .e (g 164) .e) (g 100) .e)) (g 20) (.n (.n (.n .e (g 148) .e) (g 84) (.n .e (g 212) .e)) (g 52) (.n (.n .e (g 180) .e) (g 116) .e))) (g 12) (.n (.n (.n (.n .e (g 140) .e) (g 76) (.n .e (g 204) .e)) (g 44) (.n (.n .e (g 172) .e) (g 108) .e)) (g 28) (.n (.n (.n .e (g 156) .e) (g 92) .e) (g 60) (.n .e (g 124) .e))))) none (.n (.n (.n (.n (.n (.n .e (g 130) .e) (g 66) (.n .e (g 194) .e)) (g 34) (.n (.n .e (g 162) .e) (g 98) .e)) (g 18) (.n (.n (.n .e (g 146) .e) (g 82) (.n .e (g 210) .e)) (g 50) (.n (.n .e (g 178) .e) (g 114) .e))) (g 10) (.n (.n (.n (.n .e (g 138) .e) (g 74) (.n .e (g 202) .e)) (g 42) (.n (.n .e (g 170) .e) (g 106) .e)) (g 26) (.n (.n (.n .e (g 154) .e) (g 90) (.n .e (g 218) .e)) (g 58) (.n (.n .e (g 186) .e) (g 122) .e)))) (g 6) (.n (.n (.n (.n (.n .e (g 134) .e) (g 70) (.n .e (g 198) .e)) (g 38) (.n (.n .e (g 166) .e) (g 102) .e)) (g 22) (.n (.n (.n .e (g 150) .e) (g 86) (.n .e (g 214) .e)) (g 54) (.n (.n .e (g 182) .e) (g 118) .e))) (g 14) (.n (.n (.n (.n .e (g 142) .e) (g 78) (.n .e (g 206) .e)) (g 46) (.n (.n .e (g 174) .e) (g 110) .e)) (g 30) (.n (.n (.n .e (g 158) .e) (g 94) .e) (g 62) (.n (.n .e (g 190) .e) (g 126) .e)))))))
theorem ag4 : ∀ f af, PD.get f = some af → bZ PP f = some af := NT.holds (Q := fun f af => bZ PP f = some af) (t := PD) ⟨NT.no, ⟨NT.no, ⟨g1 (by kernel_rfl), ⟨g1 (by kernel_rfl), ⟨g1 (by kernel_rfl), ⟨g1 (by kernel_rfl), ⟨g1 (by kernel_rfl), ⟨g1 (by kernel_rfl), trivial, trivial⟩, ⟨g1 (by kernel_rfl), trivial, trivial⟩⟩, ⟨g1 (by kernel_rfl), ⟨g1 (by kernel_rfl), trivial, trivial⟩, trivial⟩⟩, ⟨g1 (by kernel_rfl), ⟨g1 (by kernel_rfl), ⟨g1 (by kernel_rfl), trivial, trivial⟩, ⟨g1 (by kernel_rfl), trivial, trivial⟩⟩, ⟨g1 (by kernel_rfl), trivial, trivial⟩⟩⟩, ⟨g1 (by kernel_rfl), ⟨g1 (by kernel_rfl), ⟨g1 (by kernel_rfl), ⟨g1 (by kernel_rfl), trivial, trivial⟩, ⟨g1 (by kernel_rfl), trivial, trivial⟩⟩, ⟨g1 (by kernel_rfl), trivial, trivial⟩⟩, ⟨g1 (by kernel_rfl), ⟨g1 (by kernel_rfl), ⟨g1 (by kernel_rfl), trivial, trivial⟩, ⟨g1 (by kernel_rfl), trivial, trivial⟩⟩, ⟨g1 (by kernel_rfl), ⟨g1 (by kernel_rfl), trivial, trivial⟩, trivial⟩⟩⟩⟩, ⟨g1 (by kernel_rfl), ⟨g1 (by kernel_rfl), ⟨g1 (by kernel_rfl), ⟨g1 (by kernel_rfl), ⟨g1 (by kernel_rfl), trivial, trivial⟩, trivial⟩, ⟨g1 (by kernel_rfl), ⟨g1 (by kernel_rfl), trivial, trivial⟩, trivial⟩⟩, ⟨g1 (by kernel_rfl), ⟨g1 (by kernel_rfl), ⟨g1 (by kernel_rfl), trivial, trivial⟩, ⟨g1 (by kernel_rfl), trivial, trivial⟩⟩, ⟨g1 (by kernel_rfl), ⟨g1 (by kernel_rfl), trivial, trivial⟩, trivial⟩⟩⟩, ⟨g1 (by kernel_rfl), ⟨g1 (by kernel_rfl), ⟨g1 (by kernel_rfl), ⟨g1 (by kernel_rfl), trivial, trivial⟩, trivial⟩, ⟨g1 (by kernel_rfl), ⟨g1 (by kernel_rfl), trivial, trivial⟩, trivial⟩⟩, ⟨g1 (by kernel_rfl), ⟨g1 (by kernel_rfl), ⟨g1 (by kernel_rfl), trivial, trivial⟩, trivial⟩, ⟨g1 (by kernel_rfl), ⟨g1 (by kernel_rfl), trivial, trivial⟩, trivial⟩⟩⟩⟩⟩, ⟨g1 (by kernel_rfl), ⟨g1 (by kernel_rfl), ⟨g1 (by kernel_rfl), ⟨g1 (by kernel_rfl), ⟨g1 (by kernel_rfl), ⟨g1 (by kernel_rfl), trivial, trivial⟩, ⟨g1 (by kernel_rfl), trivial, trivial⟩⟩, ⟨g1 (by kernel_rfl), ⟨g1 (by kernel_rfl), trivial, trivial⟩, trivial⟩⟩, ⟨g1 (by kernel_rfl), ⟨g1 (by kernel_rfl), ⟨g1 (by kernel_rfl), trivial, trivial⟩, ⟨g1 (by kernel_rfl), trivial, trivial⟩⟩, ⟨g1 (by kernel_rfl), ⟨g1 (by kernel_rfl), trivial, trivial⟩, trivial⟩⟩⟩, ⟨g1 (by kernel_rfl), ⟨g1 (by kernel_rfl), ⟨g1 (by kernel_rfl), ⟨g1 (by kernel_rfl), trivial, trivial⟩, ⟨g1 (by kernel_rfl), trivial, trivial⟩⟩, ⟨g1 (by kernel_rfl), ⟨g1 (by kernel_rfl), trivial, trivial⟩, trivial⟩⟩, ⟨g1 (by kernel_rfl), ⟨g1 (by kernel_rfl), ⟨g1 (by kernel_rfl), trivial, trivial⟩, ⟨g1 (by kernel_rfl), trivial, trivial⟩⟩, ⟨g1 (by kernel_rfl), ⟨g1 (by kernel_rfl), trivial, trivial⟩, trivial⟩⟩⟩⟩, ⟨g1 (by kernel_rfl), ⟨g1 (by kernel_rfl), ⟨g1 (by kernel_rfl), ⟨g1 (by kernel_rfl), ⟨g1 (by kernel_rfl), trivial, trivial⟩, ⟨g1 (by kernel_rfl), trivial, trivial⟩⟩, ⟨g1 (by kernel_rfl), ⟨g1 (by kernel_rfl), trivial, trivial⟩, trivial⟩⟩, ⟨g1 (by kernel_rfl), ⟨g1 (by kernel_rfl), ⟨g1 (by kernel_rfl), trivial, trivial⟩, ⟨g1 (by kernel_rfl), trivial, trivial⟩⟩, ⟨g1 (by kernel_rfl), ⟨g1 (by kernel_rfl), trivial, trivial⟩, trivial⟩⟩⟩, ⟨g1 (by kernel_rfl), ⟨g1 (by kernel_rfl), ⟨g1 (by kernel_rfl), ⟨g1 (by kernel_rfl), trivial, trivial⟩, ⟨g1 (by kernel_rfl), trivial, trivial⟩⟩, ⟨g1 (by kernel_rfl), ⟨g1 (by kernel_rfl), trivial, trivial⟩, trivial⟩⟩, ⟨g1 (by kernel_rfl), ⟨g1 (by kernel_rfl), ⟨g1 (by kernel_rfl), trivial, trivial⟩, trivial⟩, ⟨g1 (by kernel_rfl), ⟨g1 (by kernel_rfl), trivial, trivial⟩, trivial⟩⟩⟩⟩⟩⟩, ⟨NT.no, ⟨g1 (by kernel_rfl), ⟨g1 (by kernel_rfl), ⟨g1 (by kernel_rfl), ⟨g1 (by kernel_rfl), ⟨g1 (by kernel_rfl), ⟨g1 (by kernel_rfl), trivial, trivial⟩, ⟨g1 (by kernel_rfl), trivial, trivial⟩⟩, ⟨g1 (by kernel_rfl), ⟨g1 (by kernel_rfl), trivial, trivial⟩, trivial⟩⟩, ⟨g1 (by kernel_rfl), ⟨g1 (by kernel_rfl), ⟨g1 (by kernel_rfl), trivial, trivial⟩, ⟨g1 (by kernel_rfl), trivial, trivial⟩⟩, ⟨g1 (by kernel_rfl), ⟨g1 (by kernel_rfl), trivial, trivial⟩, trivial⟩⟩⟩, ⟨g1 (by kernel_rfl), ⟨g1 (by kernel_rfl), ⟨g1 (by kernel_rfl), ⟨g1 (by kernel_rfl), trivial, trivial⟩, ⟨g1 (by kernel_rfl), trivial, trivial⟩⟩, ⟨g1 (by kernel_rfl), ⟨g1 (by kernel_rfl), trivial, trivial⟩, trivial⟩⟩, ⟨g1 (by kernel_rfl), ⟨g1 (by kernel_rfl), ⟨g1 (by kernel_rfl), trivial, trivial⟩, ⟨g1 (by kernel_rfl), trivial, trivial⟩⟩, ⟨g1 (by kernel_rfl), ⟨g1 (by kernel_rfl), trivial, trivial⟩, trivial⟩⟩⟩⟩, ⟨g1 (by kernel_rfl), ⟨g1 (by kernel_rfl), ⟨g1 (by kernel_rfl), ⟨g1 (by kernel_rfl), ⟨g1 (by kernel_rfl), trivial, trivial⟩, ⟨g1 (by kernel_rfl), trivial, trivial⟩⟩, ⟨g1 (by kernel_rfl), ⟨g1 (by kernel_rfl), trivial, trivial⟩, trivial⟩⟩, ⟨g1 (by kernel_rfl), ⟨g1 (by kernel_rfl), ⟨g1 (by kernel_rfl), trivial, trivial⟩, ⟨g1 (by kernel_rfl), trivial, trivial⟩⟩, ⟨g1 (by kernel_rfl), ⟨g1 (by kernel_rfl), trivial, trivial⟩, trivial⟩⟩⟩, ⟨g1 (by kernel_rfl), ⟨g1 (by kernel_rfl), ⟨g1 (by kernel_rfl), ⟨g1 (by kernel_rfl), trivial, trivial⟩, ⟨g1 (by kernel_rfl), trivial, trivial⟩⟩, ⟨g1 (by kernel_rfl), ⟨g1 (by kernel_rfl), trivial, trivial⟩, trivial⟩⟩, ⟨g1 (by kernel_rfl), ⟨g1 (by kernel_rfl), ⟨g1 (by kernel_rfl), trivial, trivial⟩, trivial⟩, ⟨g1 (by kernel_rfl), trivial, trivial⟩⟩⟩⟩⟩, ⟨g1 (by kernel_rfl), ⟨g1 (by kernel_rfl), ⟨g1 (by kernel_rfl), ⟨g1 (by kernel_rfl), ⟨g1 (by kernel_rfl), ⟨g1 (by kernel_rfl), trivial, trivial⟩, ⟨g1 (by kernel_rfl), trivial, trivial⟩⟩, ⟨g1 (by kernel_rfl), ⟨g1 (by kernel_rfl), trivial, trivial⟩, trivial⟩⟩, ⟨g1 (by kernel_rfl), ⟨g1 (by kernel_rfl), ⟨g1 (by kernel_rfl), trivial, trivial⟩, ⟨g1 (by kernel_rfl), trivial, trivial⟩⟩, ⟨g1 (by kernel_rfl), ⟨g1 (by kernel_rfl), trivial, trivial⟩, trivial⟩⟩⟩, ⟨g1 (by kernel_rfl), ⟨g1 (by kernel_rfl), ⟨g1 (by kernel_rfl), ⟨g1 (by kernel_rfl), trivial, trivial⟩, ⟨g1 (by kernel_rfl), trivial, trivial⟩⟩, ⟨g1 (by kernel_rfl), ⟨g1 (by kernel_rfl), trivial, trivial⟩, trivial⟩⟩, ⟨g1 (by kernel_rfl), ⟨g1 (by kernel_rfl), ⟨g1 (by kernel_rfl), trivial, trivial⟩, ⟨g1 (by kernel_rfl), trivial, trivial⟩⟩, ⟨g1 (by kernel_rfl), ⟨g1 (by kernel_rfl), trivial, trivial⟩, trivial⟩⟩⟩⟩, ⟨g1 (by kernel_rfl), ⟨g1 (by kernel_rfl), ⟨g1 (by kernel_rfl), ⟨g1 (by kernel_rfl), ⟨g1 (by kernel_rfl), trivial, trivial⟩, ⟨g1 (by kernel_rfl), trivial, trivial⟩⟩, ⟨g1 (by kernel_rfl), ⟨g1 (by kernel_rfl), trivial, trivial⟩, trivial⟩⟩, ⟨g1 (by kernel_rfl), ⟨g1 (by kernel_rfl), ⟨g1 (by kernel_rfl), trivial, trivial⟩, ⟨g1 (by kernel_rfl), trivial, trivial⟩⟩, ⟨g1 (by kernel_rfl), ⟨g1 (by kernel_rfl), trivial, trivial⟩, trivial⟩⟩⟩, ⟨g1 (by kernel_rfl), ⟨g1 (by kernel_rfl), ⟨g1 (by kernel_rfl), ⟨g1 (by kernel_rfl), trivial, trivial⟩, ⟨g1 (by kernel_rfl), trivial, trivial⟩⟩, ⟨g1 (by kernel_rfl), ⟨g1 (by kernel_rfl), trivial, trivial⟩, trivial⟩⟩, ⟨g1 (by kernel_rfl), ⟨g1 (by kernel_rfl), ⟨g1 (by kernel_rfl), trivial, trivial⟩, trivial⟩, ⟨g1 (by kernel_rfl), ⟨g1 (by kernel_rfl), trivial, trivial⟩, trivial⟩⟩⟩⟩⟩⟩⟩
set_option maxHeartbeats 0 in
theorem ag5 : ev PD sums 1000000 (.call 12 [] ⟨0, .e⟩ fun r _ => match r with | .ret (.bool b) => b | _ => false) = true := by kernel_rfl
end
end Go.Ve.T
namespace Go.Ve.T
open Go.Ve Go.Proofs Go.RowKit
noncomputable section
set_option maxRecDepth 100000
theorem Ym {P : Program} {f : FuncId} {args : List Value} {args' : Array Value} {c : Value} {w : World} (hl : LR (fun _ => none) args args'.toList) (hc : vG c c = true) (H : WF P w f args ⟨0, .e⟩ fun r _ => r = .ret c) :
 Calls P f args' w fun e w' => e = .returned c ∧ Below w.heap.size w w' := by
 refine (H.2 (fun _ => none) args' w hl (HR.bare P w)).mono fun E w' hR => ?_
 obtain ⟨r, h', φ', h1, h2, h3, h4, h5⟩ := hR
 have hr := @of_decide_eq_true _ (Classical.propDecidable _) h1
 subst hr
 obtain ⟨v', rfl, hv⟩ := h5
 exact ⟨by rw [(Bp hc φ').2 v' hv], h4.below⟩
theorem ag6 : Hp.all (fun c => vG c c) = true := by kernel_rfl
theorem ag7 : ∀ n : Nat, 1 ≤ n → n ≤ 34 → Hp[n]? = some (.tuple ⟨[.agg ⟨qf n⟩, .bool (isOp n)]⟩) := fun n h1 h2 => by
 have hi : isOp n = true := by unfold isOp; rw [decide_eq_true_eq]; omega
 obtain ⟨x, x1, x2, _, _⟩ := Yi (i := n) (by omega)
 have nD : qf (n : Int) = x := by unfold qf; rw [hi, if_pos rfl]; exact x2
 unfold Hp
 rw [List.getElem?_map, x1, nD, hi]; rfl
theorem Yn {P : Program} {w0 w : World} {nm : String} {k : IntKind} {zs : List Int} (hb : Below w0.heap.size w0 w) (ht : Lib.TabIs P w0 nm k zs) : Lib.TabIs P w nm k zs := by
 unfold Lib.TabIs World.var? at ht ⊢
 cases hg : P.globalNamed nm with
 | none => rw [hg] at ht; cases ht
 | some g =>
  rw [hg] at ht
  simp only [Option.bind_some] at ht ⊢
  cases ho : w0.heap[g]? with
  | none => rw [ho] at ht; cases ht
  | some o => rw [hb.block g (Array.getElem?_eq_some_iff.1 ho).1]; exact ht
theorem yJ {k : Nat} (h : (bZ PP k).isSome = true) : Can PP k := by
 obtain ⟨_, _, _, h, _⟩ := Mu (g1 h (gF k) rfl)
 exact h
theorem ag8 {w0 : World} (ht : Lib.TabIs PP w0 "internal/strconv.uint64pow10" .u64 Lib.pow10Tab) : Fx PP w0 sums := by
 intro p hp
 simp only [sums, List.mem_cons, List.not_mem_nil, or_false] at hp
 rcases hp with rfl | rfl | rfl | rfl | rfl
 · refine Bn (yJ (by kernel_rfl)) fun args h k φ args' w e hl H => ?_
   obtain ⟨L, hL⟩ : ∃ L, args'.toList = L := ⟨_, rfl⟩
   rw [hL] at hl
   obtain ⟨v, rfl, e1⟩ := dX e
   obtain ⟨kd, n, rfl, e2⟩ := lP e1
   obtain ⟨e3, e4⟩ := bV e2
   obtain rfl := mD e3
   cases n with
   | negSucc n => cases e4
   | ofNat n =>
    obtain ⟨e5, e6⟩ := bV (show iff (Nat.ble 1 n && Nat.ble n 34) _ = true from e4)
    rw [Bool.and_eq_true] at e5
    have n1 := Nat.le_of_ble_eq_true e5.1
    have n2 := Nat.le_of_ble_eq_true e5.2
    obtain ⟨c, hc, e7⟩ := Br _ e6
    have hp := List.all_eq_true.1 ag6 c (List.mem_of_getElem? hc)
    rw [ag7 n n1 n2] at hc
    cases hc
    cases hl with
    | cons _ v' _ l' h1 h2 =>
     cases h2
     obtain rfl := h1.fX
     have jt : args' = #[.int .i64 (Int.ofNat n)] := by apply Array.ext'; rw [hL]
     subst jt
     exact ⟨_, _, (Bp hp φ).1, e7, Ym (.cons _ _ _ _ (.int _ _) .nil) hp (Yj (n : Int) fun h' _ _ => rfl)⟩
 · refine Bn (yJ (by kernel_rfl)) fun args h k φ args' w e hl H => ?_
   have e1 : args = [] ∧ k (.ret (.agg ⟨Hq⟩)) h = true := by
    cases args with
    | nil => exact ⟨rfl, e⟩
    | cons _ _ => cases e
   obtain ⟨rfl, e1⟩ := e1
   have jt : args' = #[] := by
    cases fP : args'.toList with
    | nil => simpa using fP
    | cons _ _ => rw [fP] at hl; cases hl
   subst jt
   have hp : vG (.agg ⟨Hq⟩) (.agg ⟨Hq⟩) = true := by kernel_rfl
   exact ⟨_, _, (Bp hp φ).1, e1, Ym .nil hp (Yg fun h' _ _ => rfl)⟩
 · exact afA (yJ (by kernel_rfl)) fun n w h0 h1 hb => (Any.strconv_Itoa ag9 n h0 h1 w (Yn hb ht)).mono fun e w' ⟨he, k, os, hw⟩ => ⟨he, hw ▸ Lib.below_grow _ w (Nat.le_refl _) k os⟩
 · exact afB (yJ (by kernel_rfl)) fun s n w hl h => (Any.strconv_Atoi aha s n hl h w).mono fun e w' ⟨he, t, hw⟩ => ⟨he, hw ▸ Lib.bytesWorld_below w _ t⟩
 · exact afC (yJ (by kernel_rfl)) fun bk o c xs sep w h1 h2 h3 h4 h5 => Any.strings_Join ahb ahc bk o c xs sep w h1 h2 h3 h4 h5
theorem ahd {w0 : World} (ht : Lib.TabIs PP w0 "internal/strconv.uint64pow10" .u64 Lib.pow10Tab) (h : AH) (R : CR → AH → Prop) (hR : R (.ret (.bool true)) h) : WF PP w0 Lz [] h R := by
 refine ⟨yJ (by kernel_rfl), fun φ args' w hl hh => ?_⟩
 have he : args' = #[] := by
  cases fP : args'.toList with
  | nil => simpa using fP
  | cons _ _ => rw [fP] at hl; cases hl
 subst he
 have hC : gn PP w 12 [] ⟨0, .e⟩ (fun r _ => match r with | .ret (.bool b) => b | _ => false) := Wl bA ag4 (ag8 (Yn hh.below ht)) _ _ ag5
 refine Calls.mono (hC.2 (fun _ => none) #[] w .nil (HR.bare PP w)) fun E w' hE => ?_
 obtain ⟨r, h', φ', h1, h2, h3, h4, h5⟩ := hE
 refine ⟨.ret (.bool true), h, φ, @decide_eq_true _ (Classical.propDecidable _) hR, Ext.refl _ _, Nat.le_refl _, HR.behind hh h4.below, ?_⟩
 cases r with
 | aN v => cases h1
 | ret v =>
  obtain ⟨v', rfl, hv⟩ := h5
  cases v with
  | bool b =>
   have hb : b = true := h1
   subst hb
   exact ⟨v', rfl, by rw [hv.pC]; exact .bool _⟩
  | _ => cases h1
end
end Go.Ve.T
namespace Go.Ve.T
open Go.Ve Go.Proofs
class bC (w0 : World) : Prop where
 t : Lib.TabIs PP w0 "internal/strconv.uint64pow10" .u64 Lib.pow10Tab
def Yo : Option Bool := some true
theorem ahe {w0 : World} [T8 : bC w0] {g h : AH} {Q : CR → AH → Prop} {r : Bool} (sg : Sub g h) (ok : h.Ok) (M : Yo = some r) (H : ∀ (g' h' : AH), Sep ⟨g, h, []⟩ g' h' [] → Q (.ret (.bool r)) h') : WF PP w0 Lz [] h Q := by
 cases M
 exact ahd T8.t h Q (H g h (Sep.start sg ok))
end Go.Ve.T
namespace Go.Ve.T
open Go.Ve Go.Proofs
noncomputable section
set_option maxRecDepth 10000
def Hs (N : Nat) (y2 : Int) (ma : Int → Option Bool) : Option Bool :=
 ma (bH .i64 (y2 + 1))
def Ht (N : Nat) (x0 : List Int) (y2 : Int) (x1 : Int) (ma : Int → Option Bool) : Option Bool :=
(ix x0 y2).bind fun ei =>
 bif (decide (ei = x1)) then (
 some true) else (
 Hs N y2 ma)
def Hu (N : Nat)   : Option Bool :=
 some false
def BQ (N : Nat) (x0 : List Int) (x1 : Int) (y2 : Int) (ma : Int → Option Bool) : Option Bool :=
 bif (decide (y2 < (x0.length : Int))) then (
 Ht N x0 y2 x1 ma) else (
 Hu N )
def BR (N : Nat) (x0 : List Int) (x1 : Int)  : Nat → Int → Option Bool
 | 0, _ => none
 | n + 1, y2 => BQ N x0 x1 y2  (fun ag => BR N x0 x1 n ag)
def tK (N : Nat) (x0 : List Int) (x1 : Int) : Option Bool :=
 BR N x0 x1 N 0
abbrev yK (c : Cx) (R : Value → W) (r : Bool) : Prop := ∀ (g' h' : AH), Sep c g' h' [] → R (.bool r) h'
theorem ahu {w0 : World} [bC w0] {c : Cx} {g h : AH} {E R : Value → W} {r : Bool} {N : Nat} {y2 : Int} {k1 : Value → W} {ma : Int → Option Bool} {tL : AH} (M : Hs N y2 ma = some r) (S : Sep c g h [])  (BS : Sub tL g) (BT : ∀ {ag : Int} {g2 h2 : AH}, ma ag = some r → Sub tL g2 → Sep c g2 h2 [] → k1 (vi ag) h2) (H : yK c R r) : KJ w0 E R (vi y2) k1 h := by
 unfold KJ
 unfold Hs at M
 refine ie.2 ?_
 exact BT M BS S
theorem ahv {w0 : World} [bC w0] {c : Cx} {g h : AH} {E R : Value → W} {r : Bool} {N : Nat} {x0 : List Int} {y2 x1 : Int} {bJ : Value} {k1 : Value → W} {ma : Int → Option Bool} {tL : AH} (M : Ht N x0 y2 x1 ma = some r) (S : Sep c g h []) (bW : aa (rI .i64) 1 g bJ x0) (BS : Sub tL g) (BT : ∀ {ag : Int} {g2 h2 : AH}, ma ag = some r → Sub tL g2 → Sep c g2 h2 [] → k1 (vi ag) h2) (H : yK c R r) : KK w0 E R bJ (vi y2) (vi x1) k1 h := by
 unfold KK
 unfold Ht at M
 obtain ⟨ei, ku, M⟩ := bind_some M
 refine aa.idx bW ku (fun yL Hv vs PF vV rp => ?_)
 cases rp
 refine S.ct (vV 0 _ rfl) ?_
 refine di.2 ?_
 refine bz (fun hc => ?_) (fun hc => ?_)
 · have M := aV hc M
   cases M
   exact H _ _  S.bB
 · have M := aW hc M
   exact ahu M S BS BT H
theorem ahw {w0 : World} [bC w0] {c : Cx} {g h : AH} {E R : Value → W} {r : Bool} {N : Nat}   (M : Hu N  = some r) (S : Sep c g h [])   (H : yK c R r) : KI w0 E R  h := by
 unfold KI
 unfold Hu at M
 cases M
 exact H _ _  S.bB
theorem ahx {w0 : World} [bC w0] {c : Cx} {g h : AH} {E R : Value → W} {r : Bool} {N : Nat} {x0 : List Int} {x1 y2 : Int} {bJ : Value} {k1 : Value → W} {ma : Int → Option Bool} {tL : AH} (M : BQ N x0 x1 y2 ma = some r) (S : Sep c g h []) (bW : aa (rI .i64) 1 g bJ x0) (BS : Sub tL g) (BT : ∀ {ag : Int} {g2 h2 : AH}, ma ag = some r → Sub tL g2 → Sep c g2 h2 [] → k1 (vi ag) h2) (H : yK c R r) : EF w0 E R bJ (vi x1) k1 (vi y2) h := by
 unfold EF
 unfold BQ at M
 refine bW.len ?_
 refine ff.2 ?_
 refine bz (fun hc => ?_) (fun hc => ?_)
 · have M := aV hc M
   exact ahv M S bW BS BT H
 · have M := aW hc M
   exact ahw M S  H
theorem ahy {w0 : World} [bC w0] {c : Cx} {E R : Value → W} {r : Bool} {N : Nat} {x0 : List Int} {x1 : Int} {bJ : Value}   (H : yK c R r) : ∀ (n : Nat) {y2 : Int} {g h : AH}, BR N x0 x1 n y2 = some r → Sep c g h [] → aa (rI .i64) 1 g bJ x0 → eE (α := Value) (fun k a => EF w0 E R bJ (vi x1) k a) n (vi y2) h := by
 intro n
 induction n with
 | zero =>
  intro y2  g h M S bW
  unfold BR at M; cases M
 | succ n ih =>
  intro y2  g h M S bW
  exact ahx M S bW  (Sub.refl g) (fun M2 sub S2  => ih M2 S2 (aa.mono bW (ej .i64) sub) ) H
theorem BU {w0 : World} [bC w0] {g h : AH} {Q : CR → AH → Prop} {r : Bool} {N : Nat} {x0 : List Int} {x1 : Int} {bJ : Value} (M : tK N x0 x1 = some r) (sg : Sub g h) (ok : h.Ok) (bW : aa (rI .i64) 1 g bJ x0) (H : yK ⟨g, h, []⟩ (fun v => Q (.ret v)) r) : WF PP w0 uS [bJ, (vi x1)] h Q := by
 refine acb _ _ ?_
 have S := Sep.start sg ok
 unfold TK
 unfold tK at M
 exact ⟨N, ahy  H _ M S bW ⟩
def BV (N : Nat) (v1 : ah) (cr : Bool)  : Option Bool :=
 bif cr then (
 some (decide (0 < (v1.ab.length : Int)))) else (
 some false)
def BW (N : Nat) (v1 : ah) (v10 : Bool)  : Option Bool :=
 bif v10 then (
(BX N v1).bind fun aP =>
 BV N v1 (decide ((aP.length : Int) = (v1.ab.length : Int)))) else (
 BV N v1 false)
def BZ (N : Nat) (x0 : ah) : Option Bool :=
 bif (decide ((x0.ab.length : Int) ≤ 40)) then (
 BW N x0 (decide ((x0.aD.length : Int) ≤ 8))) else (
 BW N x0 false)
abbrev PG (c : Cx) (R : Value → W) (r : Bool) : Prop := ∀ (g' h' : AH), Sep c g' h' [] → R (.bool r) h'
theorem Yt {w0 : World} [bC w0] {c : Cx} {g h : AH} {E R : Value → W} {r : Bool} {N : Nat} {v1 : ah} {cr : Bool} {ak : Nat} {ar au : Value}  (M : BV N v1 cr = some r) (S : Sep c g h [.bx ak [(.string v1.az), (.string v1.aA), (vi v1.fArgs), (vi v1.aw), (vi v1.ax), ar, au]]) (av : aa aq.rep 4 g ar v1.ab) (ay : aa aB.rep 3 g au v1.aD)  (H : PG c R r) : KF w0 E R (aC ak 0) (.bool cr) h := by
 unfold KF
 unfold BV at M
 cases hc : cr
 · have M := aW hc M
   refine aG (by decide) ?_
   refine aG (by decide) ?_
   refine aG (by decide) ?_
   refine aG (by decide) ?_
   refine bK.2 ?_
   cases M
   exact H _ _  S.bB
 · have M := aV hc M
   refine aH rfl ?_
   refine cb.2 ?_
   refine aH rfl ?_
   refine S.bQ 0 rfl rfl ?_
   refine aH rfl ?_
   refine av.len ?_
   refine aH rfl ?_
   refine ox.2 ?_
   refine bK.2 ?_
   cases M
   exact H _ _  S.bB
theorem Yu {w0 : World} [bC w0] {c : Cx} {g h : AH} {E R : Value → W} {r : Bool} {N : Nat} {v1 : ah} {v10 : Bool} {ak : Nat} {ar au : Value}  (M : BW N v1 v10 = some r) (S : Sep c g h [.bx ak [(.string v1.az), (.string v1.aA), (vi v1.fArgs), (vi v1.aw), (vi v1.ax), ar, au]]) (av : aa aq.rep 4 g ar v1.ab) (ay : aa aB.rep 3 g au v1.aD)  (H : PG c R r) : KG w0 E R (aC ak 0) (.bool v10) h := by
 unfold KG
 unfold BW at M
 cases hc : v10
 · have M := aW hc M
   refine aG (by decide) ?_
   refine aG (by decide) ?_
   refine aG (by decide) ?_
   refine aG (by decide) ?_
   refine aG (by decide) ?_
   refine PH (by decide) ?_
   refine PH (by decide) ?_
   refine PH (by decide) ?_
   refine aG (by decide) ?_
   refine aG (by decide) ?_
   refine bK.2 ?_
   exact Yt M S av ay H
 · have M := aV hc M
   refine aH rfl ?_
   refine S.cL [(.string v1.az), (.string v1.aA), (vi v1.fArgs), (vi v1.aw), (vi v1.ax), ar, au] 0 rfl rfl rfl (by decide) ?_
   refine aH rfl ?_
   refine cb.2 ?_
   refine aH rfl ?_
   refine S.bQ 0 rfl rfl ?_
   refine aH rfl ?_
   refine av.len ?_
   refine aH rfl ?_
   obtain ⟨aP, gE, M⟩ := bind_some M
   refine ahz gE S.sub S.ok av ay (fun g h w_4 S1 F_5 => ?_)
   have av := aa.mono av aq.mono S1.bX
   have ay := aa.mono ay aB.mono S1.bX
   have S := S.mc S1
   refine PI rfl ?_
   refine ⟨?_, ?_⟩
   · refine av.len ?_
     exact PJ
   · refine PI rfl ?_
     refine ⟨?_, ?_⟩
     · refine S.bQ 0 rfl rfl ?_
       exact av.PK
     · refine PI rfl ?_
       refine ⟨?_, ?_⟩
       · refine cb.2 ?_
         exact Yv
       · refine aH rfl ?_
         refine F_5.len ?_
         refine aH rfl ?_
         refine di.2 ?_
         refine bK.2 ?_
         exact Yt M S av ay H
theorem ahA {w0 : World} [bC w0] {g h : AH} {Q : CR → AH → Prop} {r : Bool} {N : Nat} {x0 : ah} {cj cm : Value} (M : BZ N x0 = some r) (sg : Sub g h) (ok : h.Ok) (bL : aa aq.rep 4 g cj x0.ab) (cq : aa aB.rep 3 g cm x0.aD) (H : PG ⟨g, h, []⟩ (fun v => Q (.ret v)) r) : WF PP w0 KH [(.agg ⟨[(.string x0.az), (.string x0.aA), (vi x0.fArgs), (vi x0.aw), (vi x0.ax), cj, cm]⟩)] h Q := by
 refine aca _ ?_
 have S := Sep.start sg ok
 unfold TJ
 unfold BZ at M
 refine S.box [(.string x0.az), (.string x0.aA), (vi x0.fArgs), (vi x0.aw), (vi x0.ax), cj, cm] rfl (ae rfl (ae rfl (ae rfl (ae rfl (ae rfl (ae bL.one (ae cq.one rfl))))))) (fun jE h S => ?_)
 refine cb.2 ?_
 refine S.bQ 0 rfl rfl ?_
 refine bL.len ?_
 refine rv.2 ?_
 cases hc : (decide ((x0.ab.length : Int) ≤ 40))
 · have M := aW hc M
   refine aG (by decide) ?_
   refine aG (by decide) ?_
   refine aG (by decide) ?_
   refine aG (by decide) ?_
   refine bK.2 ?_
   exact Yu M S bL cq H
 · have M := aV hc M
   refine aH rfl ?_
   refine cb.2 ?_
   refine aH rfl ?_
   refine S.bQ 0 rfl rfl ?_
   refine aH rfl ?_
   refine cq.len ?_
   refine aH rfl ?_
   refine rv.2 ?_
   refine bK.2 ?_
   exact Yu M S bL cq H
def Hw (N : Nat) (y7 : Int) (fk : ah) (eF : Int → Option Bool) : Option Bool :=
 eF (bH .i64 (y7 + 1))
def vW (N : Nat) (y7 : Int) (iW : Bool) (fk : ah) (eF : Int → Option Bool) : Option Bool :=
 bif iW then (
 some true) else (
 Hw N y7 fk eF)
def vX (N : Nat) (v3 : List Int) (y7 : Int) (x1 : List (List Int)) (x3 : Int) (v1 : ah) (x2 : Int) (v28 : Bool) (eF : Int → Option Bool) : Option Bool :=
(ix v3 y7).bind fun B0 =>
(ix x1 B0).bind fun B1 =>
(tK N B1 x3).bind fun yM =>
 bif yM then (
(ix v1.ab x2).bind fun Yw =>
(vY Yw).bind fun yN =>
 bif (!decide (yN = x3)) then (
 vW N y7 true v1 eF) else (
 vW N y7 v28 v1 eF)) else (
 vW N y7 false v1 eF)
def B2 (N : Nat) (v1 : ah) (x2 : Int) (v3 : List Int) (y7 : Int) (x1 : List (List Int)) (x3 : Int) (v21 : Bool) (eF : Int → Option Bool) : Option Bool :=
 bif v21 then (
(ix v1.ab x2).bind fun tM =>
(yO tM).bind fun Yx =>
 vX N v3 y7 x1 x3 v1 x2 Yx eF) else (
 vX N v3 y7 x1 x3 v1 x2 false eF)
def Hx (N : Nat) (v5 : Int) (v1 : ah) (v3 : List Int) (y7 : Int) (x2 : Int) (x1 : List (List Int)) (x3 : Int) (eF : Int → Option Bool) : Option Bool :=
 bif (decide (0 ≤ v5)) then (
(ix v1.aD v5).bind fun vZ =>
(ix v3 y7).bind fun B3 =>
 B2 N v1 x2 v3 y7 x1 x3 (decide (vZ.ew = B3)) eF) else (
 B2 N v1 x2 v3 y7 x1 x3 false eF)
def PL (N : Nat)   : Option Bool :=
 some false
def B4 (N : Nat) (v3 : List Int) (v5 : Int) (v1 : ah) (x2 : Int) (x1 : List (List Int)) (x3 : Int) (y7 : Int) (eF : Int → Option Bool) : Option Bool :=
 bif (decide (y7 < (v3.length : Int))) then (
 Hx N v5 v1 v3 y7 x2 x1 x3 eF) else (
 PL N )
def tN (N : Nat) (v3 : List Int) (v5 : Int) (v1 : ah) (x2 : Int) (x1 : List (List Int)) (x3 : Int)  : Nat → Int → Option Bool
 | 0, _ => none
 | n + 1, y7 => B4 N v3 v5 v1 x2 x1 x3 y7  (fun ag => tN N v3 v5 v1 x2 x1 x3 n ag)
def B5 (N : Nat) (v1 : ah) (x2 : Int) (x1 : List (List Int)) (x3 : Int)  : Option Bool :=
(B6 N v1 x2).bind fun Hy =>
(B7 N v1 x2).bind fun jF =>
 tN N Hy jF v1 x2 x1 x3 N 0
def yP (N : Nat) (x0 : ah) (x1 : List (List Int)) (x2 : Int) (x3 : Int) : Option Bool :=
(ix x0.ab x2).bind fun aP =>
(tO N aP).bind fun oG =>
(tK N oG x3).bind fun yQ =>
 bif yQ then (
 some true) else (
 B5 N x0 x2 x1 x3)
abbrev qg (c : Cx) (R : Value → W) (r : Bool) : Prop := ∀ (g' h' : AH), Sep c g' h' [] → R (.bool r) h'
theorem ahB {w0 : World} [bC w0] {c : Cx} {g h : AH} {E R : Value → W} {r : Bool} {N : Nat} {y7 : Int} {fk : ah} {B8 : Nat} {wa wb : Value} {k6 : Value → W} {eF : Int → Option Bool} {kv : AH} (M : Hw N y7 fk eF = some r) (S : Sep c g h [.bx B8 [(.string fk.az), (.string fk.aA), (vi fk.fArgs), (vi fk.aw), (vi fk.ax), wa, wb]]) (Yy : aa aq.rep 4 g wa fk.ab) (Yz : aa aB.rep 3 g wb fk.aD) (lA : Sub kv g) (lB : ∀ {ag : Int} {g2 h2 : AH}, eF ag = some r → Sub kv g2 → Sep c g2 h2 [.bx B8 [(.string fk.az), (.string fk.aA), (vi fk.fArgs), (vi fk.aw), (vi fk.ax), wa, wb]] → k6 (vi ag) h2) (H : qg c R r) : KM w0 E R (vi y7) k6 h := by
 unfold KM
 unfold Hw at M
 refine ie.2 ?_
 exact lB M lA S
theorem PM {w0 : World} [bC w0] {c : Cx} {g h : AH} {E R : Value → W} {r : Bool} {N : Nat} {y7 : Int} {iW : Bool} {fk : ah} {B8 : Nat} {wa wb : Value} {k6 : Value → W} {eF : Int → Option Bool} {kv : AH} (M : vW N y7 iW fk eF = some r) (S : Sep c g h [.bx B8 [(.string fk.az), (.string fk.aA), (vi fk.fArgs), (vi fk.aw), (vi fk.ax), wa, wb]]) (Yy : aa aq.rep 4 g wa fk.ab) (Yz : aa aB.rep 3 g wb fk.aD) (lA : Sub kv g) (lB : ∀ {ag : Int} {g2 h2 : AH}, eF ag = some r → Sub kv g2 → Sep c g2 h2 [.bx B8 [(.string fk.az), (.string fk.aA), (vi fk.fArgs), (vi fk.aw), (vi fk.ax), wa, wb]] → k6 (vi ag) h2) (H : qg c R r) : KN w0 E R (vi y7) k6 (.bool iW) h := by
 unfold KN
 unfold vW at M
 refine bz (fun hc => ?_) (fun hc => ?_)
 · have M := aV hc M
   cases M
   exact H _ _  S.bB
 · have M := aW hc M
   exact ahB M S Yy Yz lA lB H
theorem YA {w0 : World} [bC w0] {c : Cx} {g h : AH} {E R : Value → W} {r : Bool} {N : Nat} {v3 : List Int} {y7 : Int} {x1 : List (List Int)} {x3 : Int} {v1 : ah} {x2 : Int} {v28 : Bool} {cV aK : Value} {ak : Nat} {ar au : Value} {k6 : Value → W} {eF : Int → Option Bool} {kv : AH} (M : vX N v3 y7 x1 x3 v1 x2 v28 eF = some r) (S : Sep c g h [.bx ak [(.string v1.az), (.string v1.aA), (vi v1.fArgs), (vi v1.aw), (vi v1.ax), ar, au]]) (fS : aa (rI .i64) 1 g cV v3) (aM : aa (rL (rI .i64) 1) 1 g aK x1) (av : aa aq.rep 4 g ar v1.ab) (ay : aa aB.rep 3 g au v1.aD) (lA : Sub kv g) (lB : ∀ {ag : Int} {g2 h2 : AH}, eF ag = some r → Sub kv g2 → Sep c g2 h2 [.bx ak [(.string v1.az), (.string v1.aA), (vi v1.fArgs), (vi v1.aw), (vi v1.ax), ar, au]] → k6 (vi ag) h2) (H : qg c R r) : KO w0 E R cV (vi y7) aK (vi x3) (aC ak 0) (vi x2) k6 (.bool v28) h := by
 unfold KO
 unfold vX at M
 obtain ⟨B0, PN, M⟩ := bind_some M
 refine aa.idx fS PN (fun ahC ahD vs ahE PO rp => ?_)
 cases rp
 refine S.ct (PO 0 _ rfl) ?_
 obtain ⟨B1, PS, M⟩ := bind_some M
 refine aa.idx aM PS (fun ahF ahG vs ahH PU rp => ?_)
 obtain ⟨ahI, rfl, PV⟩ := rp
 refine S.ct (PU 0 _ rfl) ?_
 obtain ⟨yM, B9, M⟩ := bind_some M
 refine BU B9 S.sub S.ok PV (fun _ h  S1  => ?_)
 have S := S.cW S1
 cases hc : yM
 · have M := aW hc M
   refine aG (by decide) ?_
   refine aG (by decide) ?_
   refine aG (by decide) ?_
   refine aG (by decide) ?_
   refine aG (by decide) ?_
   refine aG (by decide) ?_
   refine aG (by decide) ?_
   refine aG (by decide) ?_
   refine aG (by decide) ?_
   refine ahJ ?_
   refine aG (by decide) ?_
   refine bK.2 ?_
   exact PM M S av ay lA lB H
 · have M := aV hc M
   refine aH rfl ?_
   refine cb.2 ?_
   refine aH rfl ?_
   refine S.bQ 0 rfl rfl ?_
   refine aH rfl ?_
   refine aH rfl ?_
   obtain ⟨Yw, ahK, M⟩ := bind_some M
   refine aa.idx av ahK (fun anC anD vs anE ahL rp => ?_)
   cases rp
   refine aH rfl ?_
   refine S.mS ahL rfl (by decide) ?_
   refine aH rfl ?_
   obtain ⟨yN, PW, M⟩ := bind_some M
   refine YB PW S.sub S.ok (fun _ h  S1  => ?_)
   have S := S.cW S1
   refine aH rfl ?_
   refine aH rfl ?_
   refine ru.2 ?_
   refine aH rfl ?_
   cases hc : (!decide (yN = x3))
   · have M := aW hc M
     refine aH rfl ?_
     refine aH rfl ?_
     refine bK.2 ?_
     refine bK.2 ?_
     exact PM M S av ay lA lB H
   · have M := aV hc M
     refine aG (by decide) ?_
     refine aH rfl ?_
     refine bK.2 ?_
     refine bK.2 ?_
     exact PM M S av ay lA lB H
theorem YC {w0 : World} [bC w0] {c : Cx} {g h : AH} {E R : Value → W} {r : Bool} {N : Nat} {v1 : ah} {x2 : Int} {v3 : List Int} {y7 : Int} {x1 : List (List Int)} {x3 : Int} {v21 : Bool} {ak : Nat} {ar au cV aK : Value} {k6 : Value → W} {eF : Int → Option Bool} {kv : AH} (M : B2 N v1 x2 v3 y7 x1 x3 v21 eF = some r) (S : Sep c g h [.bx ak [(.string v1.az), (.string v1.aA), (vi v1.fArgs), (vi v1.aw), (vi v1.ax), ar, au]]) (av : aa aq.rep 4 g ar v1.ab) (ay : aa aB.rep 3 g au v1.aD) (fS : aa (rI .i64) 1 g cV v3) (aM : aa (rL (rI .i64) 1) 1 g aK x1) (lA : Sub kv g) (lB : ∀ {ag : Int} {g2 h2 : AH}, eF ag = some r → Sub kv g2 → Sep c g2 h2 [.bx ak [(.string v1.az), (.string v1.aA), (vi v1.fArgs), (vi v1.aw), (vi v1.ax), ar, au]] → k6 (vi ag) h2) (H : qg c R r) : KP w0 E R (aC ak 0) (vi x2) cV (vi y7) aK (vi x3) k6 (.bool v21) h := by
 unfold KP
 unfold B2 at M
 cases hc : v21
 · have M := aW hc M
   refine aG (by decide) ?_
   refine aG (by decide) ?_
   refine aG (by decide) ?_
   refine aG (by decide) ?_
   refine aG (by decide) ?_
   refine aG (by decide) ?_
   refine bK.2 ?_
   exact YA M S fS aM av ay lA lB H
 · have M := aV hc M
   refine aH rfl ?_
   refine cb.2 ?_
   refine aH rfl ?_
   refine S.bQ 0 rfl rfl ?_
   refine aH rfl ?_
   refine aH rfl ?_
   obtain ⟨tM, Ca, M⟩ := bind_some M
   refine aa.idx av Ca (fun ahM ahN vs anF ahO rp => ?_)
   cases rp
   refine aH rfl ?_
   refine S.mS ahO rfl (by decide) ?_
   refine aH rfl ?_
   obtain ⟨Yx, ahP, M⟩ := bind_some M
   refine ahQ ahP S.sub S.ok (fun _ h  S1  => ?_)
   have S := S.cW S1
   refine bK.2 ?_
   exact YA M S fS aM av ay lA lB H
theorem ahR {w0 : World} [bC w0] {c : Cx} {g h : AH} {E R : Value → W} {r : Bool} {N : Nat} {v5 : Int} {v1 : ah} {v3 : List Int} {y7 x2 : Int} {x1 : List (List Int)} {x3 : Int} {ak : Nat} {ar au cV aK : Value} {k6 : Value → W} {eF : Int → Option Bool} {kv : AH} (M : Hx N v5 v1 v3 y7 x2 x1 x3 eF = some r) (S : Sep c g h [.bx ak [(.string v1.az), (.string v1.aA), (vi v1.fArgs), (vi v1.aw), (vi v1.ax), ar, au]]) (av : aa aq.rep 4 g ar v1.ab) (ay : aa aB.rep 3 g au v1.aD) (fS : aa (rI .i64) 1 g cV v3) (aM : aa (rL (rI .i64) 1) 1 g aK x1) (lA : Sub kv g) (lB : ∀ {ag : Int} {g2 h2 : AH}, eF ag = some r → Sub kv g2 → Sep c g2 h2 [.bx ak [(.string v1.az), (.string v1.aA), (vi v1.fArgs), (vi v1.aw), (vi v1.ax), ar, au]] → k6 (vi ag) h2) (H : qg c R r) : KQ w0 E R (vi v5) (aC ak 0) cV (vi y7) (vi x2) aK (vi x3) k6 h := by
 unfold KQ
 unfold Hx at M
 refine nM.2 ?_
 cases hc : (decide (0 ≤ v5))
 · have M := aW hc M
   refine aG (by decide) ?_
   refine aG (by decide) ?_
   refine aG (by decide) ?_
   refine aG (by decide) ?_
   refine aG (by decide) ?_
   refine aG (by decide) ?_
   refine aG (by decide) ?_
   refine aG (by decide) ?_
   refine aG (by decide) ?_
   refine aG (by decide) ?_
   refine aG (by decide) ?_
   refine bK.2 ?_
   exact YC M S av ay fS aM lA lB H
 · have M := aV hc M
   refine aH rfl ?_
   refine cb.2 ?_
   refine aH rfl ?_
   refine S.bQ 0 rfl rfl ?_
   refine aH rfl ?_
   refine aH rfl ?_
   obtain ⟨vZ, Cb, M⟩ := bind_some M
   refine aa.idx ay Cb (fun anG anH vs ahS PY rp => ?_)
   cases rp
   refine aH rfl ?_
   refine cb.2 ?_
   refine aH rfl ?_
   refine S.ct (PY 2 _ rfl) ?_
   refine aH rfl ?_
   refine aH rfl ?_
   refine aH rfl ?_
   obtain ⟨B3, PZ, M⟩ := bind_some M
   refine aa.idx fS PZ (fun ahT ahU vs ahV P0 rp => ?_)
   cases rp
   refine aH rfl ?_
   refine S.ct (P0 0 _ rfl) ?_
   refine aH rfl ?_
   refine di.2 ?_
   refine bK.2 ?_
   exact YC M S av ay fS aM lA lB H
theorem ahW {w0 : World} [bC w0] {c : Cx} {g h : AH} {E R : Value → W} {r : Bool} {N : Nat}   (M : PL N  = some r) (S : Sep c g h [])   (H : qg c R r) : KL w0 E R  h := by
 unfold KL
 unfold PL at M
 cases M
 exact H _ _  S.bB
theorem ahX {w0 : World} [bC w0] {c : Cx} {g h : AH} {E R : Value → W} {r : Bool} {N : Nat} {v3 : List Int} {v5 : Int} {v1 : ah} {x2 : Int} {x1 : List (List Int)} {x3 y7 : Int} {cV : Value} {ak : Nat} {ar au aK : Value} {k6 : Value → W} {eF : Int → Option Bool} {kv : AH} (M : B4 N v3 v5 v1 x2 x1 x3 y7 eF = some r) (S : Sep c g h [.bx ak [(.string v1.az), (.string v1.aA), (vi v1.fArgs), (vi v1.aw), (vi v1.ax), ar, au]]) (fS : aa (rI .i64) 1 g cV v3) (av : aa aq.rep 4 g ar v1.ab) (ay : aa aB.rep 3 g au v1.aD) (aM : aa (rL (rI .i64) 1) 1 g aK x1) (lA : Sub kv g) (lB : ∀ {ag : Int} {g2 h2 : AH}, eF ag = some r → Sub kv g2 → Sep c g2 h2 [.bx ak [(.string v1.az), (.string v1.aA), (vi v1.fArgs), (vi v1.aw), (vi v1.ax), ar, au]] → k6 (vi ag) h2) (H : qg c R r) : EG w0 E R cV (vi v5) (aC ak 0) (vi x2) aK (vi x3) k6 (vi y7) h := by
 unfold EG
 unfold B4 at M
 refine fS.len ?_
 refine ff.2 ?_
 refine bz (fun hc => ?_) (fun hc => ?_)
 · have M := aV hc M
   exact ahR M S av ay fS aM lA lB H
 · have M := aW hc M
   have S := S.t0
   exact ahW M S  H
theorem ahY {w0 : World} [bC w0] {c : Cx} {E R : Value → W} {r : Bool} {N : Nat} {v3 : List Int} {v5 : Int} {v1 : ah} {x2 : Int} {x1 : List (List Int)} {x3 : Int} {cV : Value} {ak : Nat} {ar au aK : Value}   (H : qg c R r) : ∀ (n : Nat) {y7 : Int} {g h : AH}, tN N v3 v5 v1 x2 x1 x3 n y7 = some r → Sep c g h [.bx ak [(.string v1.az), (.string v1.aA), (vi v1.fArgs), (vi v1.aw), (vi v1.ax), ar, au]] → aa (rI .i64) 1 g cV v3 → aa aq.rep 4 g ar v1.ab → aa aB.rep 3 g au v1.aD → aa (rL (rI .i64) 1) 1 g aK x1 → eE (α := Value) (fun k a => EG w0 E R cV (vi v5) (aC ak 0) (vi x2) aK (vi x3) k a) n (vi y7) h := by
 intro n
 induction n with
 | zero =>
  intro y7  g h M S fS av ay aM
  unfold tN at M; cases M
 | succ n ih =>
  intro y7  g h M S fS av ay aM
  exact ahX M S fS av ay aM  (Sub.refl g) (fun M2 sub S2  => ih M2 S2 (aa.mono fS (ej .i64) sub) (aa.mono av aq.mono sub) (aa.mono ay aB.mono sub) (aa.mono aM (je (ej .i64)) sub) ) H
theorem ahZ {w0 : World} [bC w0] {c : Cx} {g h : AH} {E R : Value → W} {r : Bool} {N : Nat} {v1 : ah} {x2 : Int} {x1 : List (List Int)} {x3 : Int} {ak : Nat} {ar au aK : Value}  (M : B5 N v1 x2 x1 x3 = some r) (S : Sep c g h [.bx ak [(.string v1.az), (.string v1.aA), (vi v1.fArgs), (vi v1.aw), (vi v1.ax), ar, au]]) (av : aa aq.rep 4 g ar v1.ab) (ay : aa aB.rep 3 g au v1.aD) (aM : aa (rL (rI .i64) 1) 1 g aK x1)  (H : qg c R r) : KR w0 E R (aC ak 0) (vi x2) aK (vi x3) h := by
 unfold KR
 unfold B5 at M
 refine S.cL [(.string v1.az), (.string v1.aA), (vi v1.fArgs), (vi v1.aw), (vi v1.ax), ar, au] 0 rfl rfl rfl (by decide) ?_
 obtain ⟨Hy, ah0, M⟩ := bind_some M
 refine ah1 ah0 S.sub S.ok av ay (fun g h anI S1 ah2 => ?_)
 have aM := aa.mono aM (je (ej .i64)) S1.bX
 have av := aa.mono av aq.mono S1.bX
 have ay := aa.mono ay aB.mono S1.bX
 have S := S.mc S1
 refine S.cL [(.string v1.az), (.string v1.aA), (vi v1.fArgs), (vi v1.aw), (vi v1.ax), ar, au] 0 rfl rfl rfl (by decide) ?_
 obtain ⟨jF, wc, M⟩ := bind_some M
 refine ah3 wc S.sub S.ok av ay (fun _ h  S1  => ?_)
 have S := S.cW S1
 exact ⟨N, ahY  H _ M S ah2 av ay aM ⟩
theorem YD {w0 : World} [bC w0] {g h : AH} {Q : CR → AH → Prop} {r : Bool} {N : Nat} {x0 : ah} {x1 : List (List Int)} {x2 x3 : Int} {cj cm aK : Value} (M : yP N x0 x1 x2 x3 = some r) (sg : Sub g h) (ok : h.Ok) (bL : aa aq.rep 4 g cj x0.ab) (cq : aa aB.rep 3 g cm x0.aD) (aM : aa (rL (rI .i64) 1) 1 g aK x1) (H : qg ⟨g, h, []⟩ (fun v => Q (.ret v)) r) : WF PP w0 EH [(.agg ⟨[(.string x0.az), (.string x0.aA), (vi x0.fArgs), (vi x0.aw), (vi x0.ax), cj, cm]⟩), aK, (vi x2), (vi x3)] h Q := by
 refine acd _ _ _ _ ?_
 have S := Sep.start sg ok
 unfold TL
 unfold yP at M
 refine S.box [(.string x0.az), (.string x0.aA), (vi x0.fArgs), (vi x0.aw), (vi x0.ax), cj, cm] rfl (ae rfl (ae rfl (ae rfl (ae rfl (ae rfl (ae bL.one (ae cq.one rfl))))))) (fun jE h S => ?_)
 refine cb.2 ?_
 refine S.bQ 0 rfl rfl ?_
 obtain ⟨aP, gE, M⟩ := bind_some M
 refine aa.idx bL gE (fun Cc o_5 vs E_7 we rp => ?_)
 cases rp
 refine S.mS we rfl (by decide) ?_
 obtain ⟨oG, P3, M⟩ := bind_some M
 refine Hz P3 S.sub S.ok (fun g h ah4 S1 P4 => ?_)
 have bL := aa.mono bL aq.mono S1.bX
 have cq := aa.mono cq aB.mono S1.bX
 have aM := aa.mono aM (je (ej .i64)) S1.bX
 have we := S1.bX.aZ we
 have S := S.mc S1
 obtain ⟨yQ, P5, M⟩ := bind_some M
 refine BU P5 S.sub S.ok P4 (fun _ h  S1  => ?_)
 have S := S.cW S1
 refine bz (fun hc => ?_) (fun hc => ?_)
 · have M := aV hc M
   cases M
   exact H _ _  S.bB
 · have M := aW hc M
   exact ahZ M S bL cq aM H
def P7 (N : Nat) (dz : Int) (fm : ah) (jf : Int → Option Bool) : Option Bool :=
 jf (bH .i64 (dz + 1))
def HA (N : Nat) (dz : Int) (dQ : Bool) (fm : ah) (jf : Int → Option Bool) : Option Bool :=
 bif dQ then (
 some false) else (
 P7 N dz fm jf)
def P8 (N : Nat) (v9 : List Int) (dz : Int) (v1 : ah) (jf : Int → Option Bool) : Option Bool :=
(ix v9 dz).bind fun yQ =>
 bif (decide (yQ < 0)) then (
 HA N dz true v1 jf) else (
(ix v9 dz).bind fun jF =>
 HA N dz (decide (v1.aw ≤ jF)) v1 jf)
def P9 (N : Nat) (y3 : Int) (kz : ah) (bE : Int → Option Bool) : Option Bool :=
 bE (bH .i64 (y3 + 1))
def Qa (N : Nat) (v9 : List Int) (v1 : ah) (y3 : Int) (dz : Int) (bE : Int → Option Bool) (jf : Int → Option Bool) : Option Bool :=
 bif (decide (dz < (v9.length : Int))) then (
 P8 N v9 dz v1 jf) else (
 P9 N y3 v1 bE)
def HB (N : Nat) (v9 : List Int) (v1 : ah) (y3 : Int) (bE : Int → Option Bool) : Nat → Int → Option Bool
 | 0, _ => none
 | n + 1, dz => Qa N v9 v1 y3 dz bE (fun ag => HB N v9 v1 y3 bE n ag)
def Qb (N : Nat) (v1 : ah) (y3 : Int) (bE : Int → Option Bool) : Option Bool :=
(ix v1.ab y3).bind fun aP =>
(tO N aP).bind fun oG =>
 HB N oG v1 y3 bE N 0
def Qc (N : Nat)   : Option Bool :=
 some true
def Qd (N : Nat) (v1 : ah) (y3 : Int) (bE : Int → Option Bool) : Option Bool :=
 bif (decide (y3 < (v1.ab.length : Int))) then (
 Qb N v1 y3 bE) else (
 Qc N )
def HC (N : Nat) (v1 : ah)  : Nat → Int → Option Bool
 | 0, _ => none
 | n + 1, y3 => Qd N v1 y3  (fun ag => HC N v1 n ag)
def Qe (N : Nat) (x0 : ah) : Option Bool :=
 HC N x0 N 0
abbrev oH (c : Cx) (R : Value → W) (r : Bool) : Prop := ∀ (g' h' : AH), Sep c g' h' [] → R (.bool r) h'
theorem ah5 {w0 : World} [bC w0] {c : Cx} {g h : AH} {E R : Value → W} {r : Bool} {N : Nat} {dz : Int} {fm : ah} {Cd : Nat} {wg wh : Value} {jr : Value → W} {jf : Int → Option Bool} {oI : AH} (M : P7 N dz fm jf = some r) (S : Sep c g h [.bx Cd [(.string fm.az), (.string fm.aA), (vi fm.fArgs), (vi fm.aw), (vi fm.ax), wg, wh]]) (YE : aa aq.rep 4 g wg fm.ab) (YF : aa aB.rep 3 g wh fm.aD) (tP : Sub oI g) (tQ : ∀ {ag : Int} {g2 h2 : AH}, jf ag = some r → Sub oI g2 → Sep c g2 h2 [.bx Cd [(.string fm.az), (.string fm.aA), (vi fm.fArgs), (vi fm.aw), (vi fm.ax), wg, wh]] → jr (vi ag) h2) (H : oH c R r) : KW w0 E R (vi dz) jr h := by
 unfold KW
 unfold P7 at M
 refine ie.2 ?_
 exact tQ M tP S
theorem YG {w0 : World} [bC w0] {c : Cx} {g h : AH} {E R : Value → W} {r : Bool} {N : Nat} {dz : Int} {dQ : Bool} {fm : ah} {Cd : Nat} {wg wh : Value} {jr : Value → W} {jf : Int → Option Bool} {oI : AH} (M : HA N dz dQ fm jf = some r) (S : Sep c g h [.bx Cd [(.string fm.az), (.string fm.aA), (vi fm.fArgs), (vi fm.aw), (vi fm.ax), wg, wh]]) (YE : aa aq.rep 4 g wg fm.ab) (YF : aa aB.rep 3 g wh fm.aD) (tP : Sub oI g) (tQ : ∀ {ag : Int} {g2 h2 : AH}, jf ag = some r → Sub oI g2 → Sep c g2 h2 [.bx Cd [(.string fm.az), (.string fm.aA), (vi fm.fArgs), (vi fm.aw), (vi fm.ax), wg, wh]] → jr (vi ag) h2) (H : oH c R r) : KX w0 E R (vi dz) jr (.bool dQ) h := by
 unfold KX
 unfold HA at M
 refine bz (fun hc => ?_) (fun hc => ?_)
 · have M := aV hc M
   cases M
   exact H _ _  S.bB
 · have M := aW hc M
   exact ah5 M S YE YF tP tQ H
theorem ah6 {w0 : World} [bC w0] {c : Cx} {g h : AH} {E R : Value → W} {r : Bool} {N : Nat} {v9 : List Int} {dz : Int} {v1 : ah} {tR : Value} {ak : Nat} {ar au : Value} {jr : Value → W} {jf : Int → Option Bool} {oI : AH} (M : P8 N v9 dz v1 jf = some r) (S : Sep c g h [.bx ak [(.string v1.az), (.string v1.aA), (vi v1.fArgs), (vi v1.aw), (vi v1.ax), ar, au]]) (rH : aa (rI .i64) 1 g tR v9) (av : aa aq.rep 4 g ar v1.ab) (ay : aa aB.rep 3 g au v1.aD) (tP : Sub oI g) (tQ : ∀ {ag : Int} {g2 h2 : AH}, jf ag = some r → Sub oI g2 → Sep c g2 h2 [.bx ak [(.string v1.az), (.string v1.aA), (vi v1.fArgs), (vi v1.aw), (vi v1.ax), ar, au]] → jr (vi ag) h2) (H : oH c R r) : KY w0 E R tR (vi dz) (aC ak 0) jr h := by
 unfold KY
 unfold P8 at M
 obtain ⟨yQ, P5, M⟩ := bind_some M
 refine aa.idx rH P5 (fun anJ anK vs ah7 Qf rp => ?_)
 cases rp
 refine S.ct (Qf 0 _ rfl) ?_
 refine ff.2 ?_
 cases hc : (decide (yQ < 0))
 · have M := aW hc M
   refine aH rfl ?_
   refine aH rfl ?_
   refine aH rfl ?_
   obtain ⟨jF, wc, M⟩ := bind_some M
   refine aa.idx rH wc (fun YH YI vs anL ah8 rp => ?_)
   cases rp
   refine aH rfl ?_
   refine S.ct (ah8 0 _ rfl) ?_
   refine aH rfl ?_
   refine cb.2 ?_
   refine aH rfl ?_
   refine S.bQ 0 rfl rfl ?_
   refine aH rfl ?_
   refine nM.2 ?_
   refine bK.2 ?_
   exact YG M S av ay tP tQ H
 · have M := aV hc M
   refine aG (by decide) ?_
   refine aG (by decide) ?_
   refine aG (by decide) ?_
   refine aG (by decide) ?_
   refine aG (by decide) ?_
   refine aG (by decide) ?_
   refine aG (by decide) ?_
   refine bK.2 ?_
   exact YG M S av ay tP tQ H
theorem ah9 {w0 : World} [bC w0] {c : Cx} {g h : AH} {E R : Value → W} {r : Bool} {N : Nat} {y3 : Int} {kz : ah} {YJ : Nat} {Qg Qh : Value} {k2 : Value → W} {bE : Int → Option Bool} {dB : AH} (M : P9 N y3 kz bE = some r) (S : Sep c g h [.bx YJ [(.string kz.az), (.string kz.aA), (vi kz.fArgs), (vi kz.aw), (vi kz.ax), Qg, Qh]]) (anM : aa aq.rep 4 g Qg kz.ab) (anN : aa aB.rep 3 g Qh kz.aD) (fg : Sub dB g) (fZ : ∀ {ag : Int} {g2 h2 : AH}, bE ag = some r → Sub dB g2 → Sep c g2 h2 [.bx YJ [(.string kz.az), (.string kz.aA), (vi kz.fArgs), (vi kz.aw), (vi kz.ax), Qg, Qh]] → k2 (vi ag) h2) (H : oH c R r) : KU w0 E R (vi y3) k2 h := by
 unfold KU
 unfold P9 at M
 refine ie.2 ?_
 exact fZ M fg S
theorem aia {w0 : World} [bC w0] {c : Cx} {g h : AH} {E R : Value → W} {r : Bool} {N : Nat} {v9 : List Int} {v1 : ah} {y3 dz : Int} {tR : Value} {ak : Nat} {ar au : Value} {k2 : Value → W} {bE : Int → Option Bool} {dB : AH} {jr : Value → W} {jf : Int → Option Bool} {oI : AH} (M : Qa N v9 v1 y3 dz bE jf = some r) (S : Sep c g h [.bx ak [(.string v1.az), (.string v1.aA), (vi v1.fArgs), (vi v1.aw), (vi v1.ax), ar, au]]) (rH : aa (rI .i64) 1 g tR v9) (av : aa aq.rep 4 g ar v1.ab) (ay : aa aB.rep 3 g au v1.aD) (fg : Sub dB g) (fZ : ∀ {ag : Int} {g2 h2 : AH}, bE ag = some r → Sub dB g2 → Sep c g2 h2 [.bx ak [(.string v1.az), (.string v1.aA), (vi v1.fArgs), (vi v1.aw), (vi v1.ax), ar, au]] → k2 (vi ag) h2) (tP : Sub oI g) (tQ : ∀ {ag : Int} {g2 h2 : AH}, jf ag = some r → Sub oI g2 → Sep c g2 h2 [.bx ak [(.string v1.az), (.string v1.aA), (vi v1.fArgs), (vi v1.aw), (vi v1.ax), ar, au]] → jr (vi ag) h2) (H : oH c R r) : EI w0 E R tR (aC ak 0) (vi y3) k2 jr (vi dz) h := by
 unfold EI
 unfold Qa at M
 refine rH.len ?_
 refine ff.2 ?_
 refine bz (fun hc => ?_) (fun hc => ?_)
 · have M := aV hc M
   exact ah6 M S rH av ay tP tQ H
 · have M := aW hc M
   exact ah9 M S av ay fg fZ H
theorem aib {w0 : World} [bC w0] {c : Cx} {E R : Value → W} {r : Bool} {N : Nat} {v9 : List Int} {v1 : ah} {y3 : Int} {tR : Value} {ak : Nat} {ar au : Value} {k2 : Value → W} {bE : Int → Option Bool} {dB : AH} (fZ : ∀ {ag : Int} {g2 h2 : AH}, bE ag = some r → Sub dB g2 → Sep c g2 h2 [.bx ak [(.string v1.az), (.string v1.aA), (vi v1.fArgs), (vi v1.aw), (vi v1.ax), ar, au]] → k2 (vi ag) h2) (H : oH c R r) : ∀ (n : Nat) {dz : Int} {g h : AH}, HB N v9 v1 y3 bE n dz = some r → Sep c g h [.bx ak [(.string v1.az), (.string v1.aA), (vi v1.fArgs), (vi v1.aw), (vi v1.ax), ar, au]] → aa (rI .i64) 1 g tR v9 → aa aq.rep 4 g ar v1.ab → aa aB.rep 3 g au v1.aD → Sub dB g → eE (α := Value) (fun k a => EI w0 E R tR (aC ak 0) (vi y3) k2 k a) n (vi dz) h := by
 intro n
 induction n with
 | zero =>
  intro dz  g h M S rH av ay fg
  unfold HB at M; cases M
 | succ n ih =>
  intro dz  g h M S rH av ay fg
  exact aia M S rH av ay fg fZ (Sub.refl g) (fun M2 sub S2  => ih M2 S2 (aa.mono rH (ej .i64) sub) (aa.mono av aq.mono sub) (aa.mono ay aB.mono sub) (Sub.trans fg sub)) H
theorem aic {w0 : World} [bC w0] {c : Cx} {g h : AH} {E R : Value → W} {r : Bool} {N : Nat} {v1 : ah} {y3 : Int} {ak : Nat} {ar au : Value} {k2 : Value → W} {bE : Int → Option Bool} {dB : AH} (M : Qb N v1 y3 bE = some r) (S : Sep c g h [.bx ak [(.string v1.az), (.string v1.aA), (vi v1.fArgs), (vi v1.aw), (vi v1.ax), ar, au]]) (av : aa aq.rep 4 g ar v1.ab) (ay : aa aB.rep 3 g au v1.aD) (fg : Sub dB g) (fZ : ∀ {ag : Int} {g2 h2 : AH}, bE ag = some r → Sub dB g2 → Sep c g2 h2 [.bx ak [(.string v1.az), (.string v1.aA), (vi v1.fArgs), (vi v1.aw), (vi v1.ax), ar, au]] → k2 (vi ag) h2) (H : oH c R r) : KZ w0 E R (aC ak 0) (vi y3) k2 h := by
 unfold KZ
 unfold Qb at M
 refine cb.2 ?_
 refine S.bQ 0 rfl rfl ?_
 obtain ⟨aP, gE, M⟩ := bind_some M
 refine aa.idx av gE (fun Cc o_5 vs E_7 we rp => ?_)
 cases rp
 refine S.mS we rfl (by decide) ?_
 obtain ⟨oG, P3, M⟩ := bind_some M
 refine Hz P3 S.sub S.ok (fun g h ah4 S1 P4 => ?_)
 have av := aa.mono av aq.mono S1.bX
 have we := S1.bX.aZ we
 have ay := aa.mono ay aB.mono S1.bX
 have fg := Sub.trans fg S1.bX
 have S := S.mc S1
 exact ⟨N, aib fZ H _ M S P4 av ay fg⟩
theorem aid {w0 : World} [bC w0] {c : Cx} {g h : AH} {E R : Value → W} {r : Bool} {N : Nat}   (M : Qc N  = some r) (S : Sep c g h [])   (H : oH c R r) : KT w0 E R  h := by
 unfold KT
 unfold Qc at M
 cases M
 exact H _ _  S.bB
theorem aie {w0 : World} [bC w0] {c : Cx} {g h : AH} {E R : Value → W} {r : Bool} {N : Nat} {v1 : ah} {y3 : Int} {ak : Nat} {ar au : Value} {k2 : Value → W} {bE : Int → Option Bool} {dB : AH} (M : Qd N v1 y3 bE = some r) (S : Sep c g h [.bx ak [(.string v1.az), (.string v1.aA), (vi v1.fArgs), (vi v1.aw), (vi v1.ax), ar, au]]) (av : aa aq.rep 4 g ar v1.ab) (ay : aa aB.rep 3 g au v1.aD) (fg : Sub dB g) (fZ : ∀ {ag : Int} {g2 h2 : AH}, bE ag = some r → Sub dB g2 → Sep c g2 h2 [.bx ak [(.string v1.az), (.string v1.aA), (vi v1.fArgs), (vi v1.aw), (vi v1.ax), ar, au]] → k2 (vi ag) h2) (H : oH c R r) : EJ w0 E R (aC ak 0) k2 (vi y3) h := by
 unfold EJ
 unfold Qd at M
 refine cb.2 ?_
 refine S.bQ 0 rfl rfl ?_
 refine av.len ?_
 refine ff.2 ?_
 refine bz (fun hc => ?_) (fun hc => ?_)
 · have M := aV hc M
   exact aic M S av ay fg fZ H
 · have M := aW hc M
   have S := S.t0
   exact aid M S  H
theorem aif {w0 : World} [bC w0] {c : Cx} {E R : Value → W} {r : Bool} {N : Nat} {v1 : ah} {ak : Nat} {ar au : Value}   (H : oH c R r) : ∀ (n : Nat) {y3 : Int} {g h : AH}, HC N v1 n y3 = some r → Sep c g h [.bx ak [(.string v1.az), (.string v1.aA), (vi v1.fArgs), (vi v1.aw), (vi v1.ax), ar, au]] → aa aq.rep 4 g ar v1.ab → aa aB.rep 3 g au v1.aD → eE (α := Value) (fun k a => EJ w0 E R (aC ak 0) k a) n (vi y3) h := by
 intro n
 induction n with
 | zero =>
  intro y3  g h M S av ay
  unfold HC at M; cases M
 | succ n ih =>
  intro y3  g h M S av ay
  exact aie M S av ay  (Sub.refl g) (fun M2 sub S2  => ih M2 S2 (aa.mono av aq.mono sub) (aa.mono ay aB.mono sub) ) H
theorem aih {w0 : World} [bC w0] {g h : AH} {Q : CR → AH → Prop} {r : Bool} {N : Nat} {x0 : ah} {cj cm : Value} (M : Qe N x0 = some r) (sg : Sub g h) (ok : h.Ok) (bL : aa aq.rep 4 g cj x0.ab) (cq : aa aB.rep 3 g cm x0.aD) (H : oH ⟨g, h, []⟩ (fun v => Q (.ret v)) r) : WF PP w0 K3 [(.agg ⟨[(.string x0.az), (.string x0.aA), (vi x0.fArgs), (vi x0.aw), (vi x0.ax), cj, cm]⟩)] h Q := by
 refine ace _ ?_
 have S := Sep.start sg ok
 unfold TM
 unfold Qe at M
 refine S.box [(.string x0.az), (.string x0.aA), (vi x0.fArgs), (vi x0.aw), (vi x0.ax), cj, cm] rfl (ae rfl (ae rfl (ae rfl (ae rfl (ae rfl (ae bL.one (ae cq.one rfl))))))) (fun jE h S => ?_)
 exact ⟨N, aif  H _ M S bL cq ⟩
def HD (N : Nat) (cv : Int) (fo : ah) (gq : Int → Option Bool) : Option Bool :=
 gq (bH .i64 (cv + 1))
def Ce (N : Nat) (cv : Int) (pB : Bool) (fo : ah) (gq : Int → Option Bool) : Option Bool :=
 bif pB then (
 some false) else (
 HD N cv fo gq)
def yR (N : Nat) (v1 : ah) (v4 : List (List Int)) (bS : Int) (cv : Int) (v124 : Bool) (gq : Int → Option Bool) : Option Bool :=
 bif v124 then (
 Ce N cv true v1 gq) else (
(ix v4 bS).bind fun B1 =>
(ix B1 cv).bind fun yM =>
(yP N v1 v4 bS yM).bind fun YK =>
 Ce N cv (!YK) v1 gq)
def HE (N : Nat) (cv : Int) (v4 : List (List Int)) (bS : Int) (v1 : ah) (gq : Int → Option Bool) : Option Bool :=
 bif (decide (0 < cv)) then (
(ix v4 bS).bind fun jF =>
(ix jF cv).bind fun B3 =>
(ix v4 bS).bind fun tM =>
(ix tM (bH .i64 (cv - 1))).bind fun B0 =>
 yR N v1 v4 bS cv (decide (B3 ≤ B0)) gq) else (
 yR N v1 v4 bS cv false gq)
def HF (N : Nat) (bS : Int) (me : ah) (gG : Int → Option Bool) : Option Bool :=
 gG (bH .i64 (bS + 1))
def wi (N : Nat) (v4 : List (List Int)) (bS : Int) (v1 : ah) (cv : Int) (gG : Int → Option Bool) (gq : Int → Option Bool) : Option Bool :=
(ix v4 bS).bind fun ig =>
 bif (decide (cv < (ig.length : Int))) then (
 HE N cv v4 bS v1 gq) else (
 HF N bS v1 gG)
def wj (N : Nat) (v4 : List (List Int)) (bS : Int) (v1 : ah) (gG : Int → Option Bool) : Nat → Int → Option Bool
 | 0, _ => none
 | n + 1, cv => wi N v4 bS v1 cv gG (fun ag => wj N v4 bS v1 gG n ag)
def HG (N : Nat) (v4 : List (List Int)) (bS : Int) (v1 : ah) (gG : Int → Option Bool) : Option Bool :=
 wj N v4 bS v1 gG N 0
def HI (N : Nat) (fa : Int) (fp : ah) (mf : Int → Option Bool) : Option Bool :=
 mf (bH .i64 (fa + 1))
def HJ (N : Nat) (x1 : List (List Int)) (fa : Int) (v2 : Bool) (fp : ah) (mf : Int → Option Bool) : Option Bool :=
(ix x1 fa).bind fun yN =>
 bif (decide (60 < (yN.length : Int))) then (
 some v2) else (
 HI N fa fp mf)
def HK (N : Nat) (dA : Int) (fq : ah) (jg : Int → Option Bool) : Option Bool :=
 jg (bH .i64 (dA + 1))
def Cf (N : Nat) (v2 : Bool) (dA : Int) (mZ : Bool) (fq : ah) (jg : Int → Option Bool) : Option Bool :=
 bif mZ then (
 some v2) else (
 HK N dA fq jg)
def HL (N : Nat) (v1 : ah) (x1 : List (List Int)) (bw : Int) (dA : Int) (v2 : Bool) (jg : Int → Option Bool) : Option Bool :=
(yP N v1 x1 bw dA).bind fun Qi =>
 bif Qi then (
(ix x1 bw).bind fun YL =>
(tK N YL dA).bind fun YM =>
 Cf N v2 dA (!YM) v1 jg) else (
 Cf N v2 dA false v1 jg)
def HM (N : Nat) (eZ : Int) (ft : ah) (mg : Int → Option Bool) : Option Bool :=
 mg (bH .i64 (eZ + 1))
def HN (N : Nat) (x1 : List (List Int)) (bw : Int) (ed : List Int) (eZ : Int) (v2 : Bool) (ft : ah) (mg : Int → Option Bool) : Option Bool :=
(ix x1 bw).bind fun YN =>
(ix ed eZ).bind fun YO =>
(tK N YN YO).bind fun YP =>
 bif (!YP) then (
 some v2) else (
 HM N eZ ft mg)
def HO (N : Nat) (bw : Int) (cB : ah) (dC : Int → Option Bool) : Option Bool :=
 dC (bH .i64 (bw + 1))
def tS (N : Nat) (ed : List Int) (x1 : List (List Int)) (bw : Int) (v2 : Bool) (eZ : Int) (cB : ah) (dC : Int → Option Bool) (mg : Int → Option Bool) : Option Bool :=
 bif (decide (eZ < (ed.length : Int))) then (
 HN N x1 bw ed eZ v2 cB mg) else (
 HO N bw cB dC)
def yS (N : Nat) (ed : List Int) (x1 : List (List Int)) (bw : Int) (v2 : Bool) (cB : ah) (dC : Int → Option Bool) : Nat → Int → Option Bool
 | 0, _ => none
 | n + 1, eZ => tS N ed x1 bw v2 eZ cB dC (fun ag => yS N ed x1 bw v2 cB dC n ag)
def HP (N : Nat) (v1 : ah) (bw : Int) (x1 : List (List Int)) (v2 : Bool) (dC : Int → Option Bool) : Option Bool :=
(ix v1.ab bw).bind fun YQ =>
(tO N YQ).bind fun YR =>
 yS N YR x1 bw v2 v1 dC N 0
def tT (N : Nat) (v1 : ah) (x1 : List (List Int)) (bw : Int) (v2 : Bool) (dA : Int) (dC : Int → Option Bool) (jg : Int → Option Bool) : Option Bool :=
 bif (decide (dA < v1.aw)) then (
 HL N v1 x1 bw dA v2 jg) else (
 HP N v1 bw x1 v2 dC)
def yT (N : Nat) (v1 : ah) (x1 : List (List Int)) (bw : Int) (v2 : Bool) (dC : Int → Option Bool) : Nat → Int → Option Bool
 | 0, _ => none
 | n + 1, dA => tT N v1 x1 bw v2 dA dC (fun ag => yT N v1 x1 bw v2 dC n ag)
def HQ (N : Nat) (v1 : ah) (x1 : List (List Int)) (bw : Int) (v2 : Bool) (dC : Int → Option Bool) : Option Bool :=
 yT N v1 x1 bw v2 dC N 0
def HS (N : Nat) (y9 : Int) (fu : ah) (eU : Int → Option Bool) : Option Bool :=
 eU (bH .i64 (y9 + 1))
def Cg (N : Nat) (y9 : Int) (eL : Bool) (fu : ah) (eU : Int → Option Bool) : Option Bool :=
 bif eL then (
 some false) else (
 HS N y9 fu eU)
def Ch (N : Nat) (v1 : ah) (y9 : Int) (v40 : Bool) (eU : Int → Option Bool) : Option Bool :=
 bif v40 then (
(Qe N v1).bind fun YS =>
 Cg N y9 YS v1 eU) else (
 Cg N y9 false v1 eU)
def Ci (N : Nat) (x1 : List (List Int)) (y6 : Int) (v4 : List (List Int)) (y9 : Int) (v1 : ah) (dc : Bool) (eU : Int → Option Bool) : Option Bool :=
 bif dc then (
(ix x1 y6).bind fun YT =>
(ix v4 y6).bind fun YU =>
(ix YU y9).bind fun YV =>
(tK N YT YV).bind fun YW =>
 Ch N v1 y9 (!YW) eU) else (
 Ch N v1 y9 false eU)
def HT (N : Nat) (v4 : List (List Int)) (y6 : Int) (y9 : Int) (v1 : ah) (x1 : List (List Int)) (eU : Int → Option Bool) : Option Bool :=
(ix v4 y6).bind fun YX =>
(ix YX y9).bind fun Qj =>
 bif (decide (0 ≤ Qj)) then (
(ix v4 y6).bind fun YY =>
(ix YY y9).bind fun YZ =>
 Ci N x1 y6 v4 y9 v1 (decide (YZ < v1.aw)) eU) else (
 Ci N x1 y6 v4 y9 v1 false eU)
def HU (N : Nat) (y6 : Int) (ij : ah) (dI : Int → Option Bool) : Option Bool :=
 dI (bH .i64 (y6 + 1))
def wk (N : Nat) (v4 : List (List Int)) (y6 : Int) (v1 : ah) (x1 : List (List Int)) (y9 : Int) (dI : Int → Option Bool) (eU : Int → Option Bool) : Option Bool :=
(ix v4 y6).bind fun Y0 =>
 bif (decide (y9 < (Y0.length : Int))) then (
 HT N v4 y6 y9 v1 x1 eU) else (
 HU N y6 v1 dI)
def Cj (N : Nat) (v4 : List (List Int)) (y6 : Int) (v1 : ah) (x1 : List (List Int)) (dI : Int → Option Bool) : Nat → Int → Option Bool
 | 0, _ => none
 | n + 1, y9 => wk N v4 y6 v1 x1 y9 dI (fun ag => Cj N v4 y6 v1 x1 dI n ag)
def HV (N : Nat) (v4 : List (List Int)) (y6 : Int) (v1 : ah) (x1 : List (List Int)) (dI : Int → Option Bool) : Option Bool :=
 Cj N v4 y6 v1 x1 dI N 0
def Qk (N : Nat) (v2 : Bool)  : Option Bool :=
 some v2
def wm (N : Nat) (v4 : List (List Int)) (v1 : ah) (x1 : List (List Int)) (v2 : Bool) (y6 : Int) (dI : Int → Option Bool) : Option Bool :=
 bif (decide (y6 < (v4.length : Int))) then (
 HV N v4 y6 v1 x1 dI) else (
 Qk N v2)
def wo (N : Nat) (v4 : List (List Int)) (v1 : ah) (x1 : List (List Int)) (v2 : Bool)  : Nat → Int → Option Bool
 | 0, _ => none
 | n + 1, y6 => wm N v4 v1 x1 v2 y6  (fun ag => wo N v4 v1 x1 v2 n ag)
def Ck (N : Nat) (v4 : List (List Int)) (v1 : ah) (x1 : List (List Int)) (v2 : Bool)  : Option Bool :=
 wo N v4 v1 x1 v2 N 0
def tU (N : Nat) (x1 : List (List Int)) (v1 : ah) (v2 : Bool) (v4 : List (List Int)) (bw : Int) (dC : Int → Option Bool) : Option Bool :=
 bif (decide (bw < (x1.length : Int))) then (
 HQ N v1 x1 bw v2 dC) else (
 Ck N v4 v1 x1 v2)
def rJ (N : Nat) (x1 : List (List Int)) (v1 : ah) (v2 : Bool) (v4 : List (List Int))  : Nat → Int → Option Bool
 | 0, _ => none
 | n + 1, bw => tU N x1 v1 v2 v4 bw  (fun ag => rJ N x1 v1 v2 v4 n ag)
def Cl (N : Nat) (x1 : List (List Int)) (v1 : ah) (v2 : Bool) (v4 : List (List Int))  : Option Bool :=
 rJ N x1 v1 v2 v4 N 0
def tV (N : Nat) (x1 : List (List Int)) (v2 : Bool) (v1 : ah) (v4 : List (List Int)) (fa : Int) (mf : Int → Option Bool) : Option Bool :=
 bif (decide (fa < (x1.length : Int))) then (
 HJ N x1 fa v2 v1 mf) else (
 Cl N x1 v1 v2 v4)
def Cm (N : Nat) (x1 : List (List Int)) (v2 : Bool) (v1 : ah) (v4 : List (List Int))  : Nat → Int → Option Bool
 | 0, _ => none
 | n + 1, fa => tV N x1 v2 v1 v4 fa  (fun ag => Cm N x1 v2 v1 v4 n ag)
def Cn (N : Nat) (x1 : List (List Int)) (v2 : Bool) (v1 : ah) (v4 : List (List Int))  : Option Bool :=
 Cm N x1 v2 v1 v4 N 0
def yU (N : Nat) (x1 : List (List Int)) (v1 : ah) (v2 : Bool) (v4 : List (List Int))  : Option Bool :=
 bif (!decide ((x1.length : Int) = (v1.ab.length : Int))) then (
 some v2) else (
 Cn N x1 v2 v1 v4)
def wq (N : Nat) (v4 : List (List Int)) (v1 : ah) (x1 : List (List Int)) (v2 : Bool) (bS : Int) (gG : Int → Option Bool) : Option Bool :=
 bif (decide (bS < (v4.length : Int))) then (
 HG N v4 bS v1 gG) else (
 yU N x1 v1 v2 v4)
def rK (N : Nat) (v4 : List (List Int)) (v1 : ah) (x1 : List (List Int)) (v2 : Bool)  : Nat → Int → Option Bool
 | 0, _ => none
 | n + 1, bS => wq N v4 v1 x1 v2 bS  (fun ag => rK N v4 v1 x1 v2 n ag)
def yV (N : Nat) (v4 : List (List Int)) (v1 : ah) (x1 : List (List Int)) (v2 : Bool)  : Option Bool :=
 rK N v4 v1 x1 v2 N 0
def Co (N : Nat) (v1 : ah) (x1 : List (List Int)) (v2 : Bool)  : Option Bool :=
(Cp N v1).bind fun nO =>
 bif (!decide ((nO.length : Int) = (v1.ab.length : Int))) then (
 some false) else (
 yV N nO v1 x1 v2)
def Cq (N : Nat) (v2 : Bool) (v1 : ah) (x1 : List (List Int)) (sw : Bool)  : Option Bool :=
 bif sw then (
 some v2) else (
 Co N v1 x1 v2)
def HW (N : Nat) (x0 : ah) (x1 : List (List Int)) : Option Bool :=
(Yo ).bind fun aP =>
(BZ N x0).bind fun lC =>
 bif (!lC) then (
 Cq N aP x0 x1 true) else (
 Cq N aP x0 x1 (decide (60 < (x1.length : Int))))
abbrev cT (c : Cx) (R : Value → W) (r : Bool) : Prop := ∀ (g' h' : AH), Sep c g' h' [] → R (.bool r) h'
theorem aii {w0 : World} [bC w0] {c : Cx} {g h : AH} {E R : Value → W} {r : Bool} {N : Nat} {cv : Int} {fo : ah} {Cr : Nat} {wu wv : Value} {gL : Value → W} {gq : Int → Option Bool} {mh : AH} (M : HD N cv fo gq = some r) (S : Sep c g h [.bx Cr [(.string fo.az), (.string fo.aA), (vi fo.fArgs), (vi fo.aw), (vi fo.ax), wu, wv]]) (Y1 : aa aq.rep 4 g wu fo.ab) (Y2 : aa aB.rep 3 g wv fo.aD) (oJ : Sub mh g) (oK : ∀ {ag : Int} {g2 h2 : AH}, gq ag = some r → Sub mh g2 → Sep c g2 h2 [.bx Cr [(.string fo.az), (.string fo.aA), (vi fo.fArgs), (vi fo.aw), (vi fo.ax), wu, wv]] → gL (vi ag) h2) (H : cT c R r) : Lr w0 E R (vi cv) gL h := by
 unfold Lr
 unfold HD at M
 refine ie.2 ?_
 exact oK M oJ S
theorem Y3 {w0 : World} [bC w0] {c : Cx} {g h : AH} {E R : Value → W} {r : Bool} {N : Nat} {cv : Int} {pB : Bool} {fo : ah} {Cr : Nat} {wu wv : Value} {gL : Value → W} {gq : Int → Option Bool} {mh : AH} (M : Ce N cv pB fo gq = some r) (S : Sep c g h [.bx Cr [(.string fo.az), (.string fo.aA), (vi fo.fArgs), (vi fo.aw), (vi fo.ax), wu, wv]]) (Y1 : aa aq.rep 4 g wu fo.ab) (Y2 : aa aB.rep 3 g wv fo.aD) (oJ : Sub mh g) (oK : ∀ {ag : Int} {g2 h2 : AH}, gq ag = some r → Sub mh g2 → Sep c g2 h2 [.bx Cr [(.string fo.az), (.string fo.aA), (vi fo.fArgs), (vi fo.aw), (vi fo.ax), wu, wv]] → gL (vi ag) h2) (H : cT c R r) : Ls w0 E R (vi cv) gL (.bool pB) h := by
 unfold Ls
 unfold Ce at M
 refine bz (fun hc => ?_) (fun hc => ?_)
 · have M := aV hc M
   cases M
   exact H _ _  S.bB
 · have M := aW hc M
   exact aii M S Y1 Y2 oJ oK H
theorem Y4 {w0 : World} [bC w0] {c : Cx} {g h : AH} {E R : Value → W} {r : Bool} {N : Nat} {v1 : ah} {v4 : List (List Int)} {bS cv : Int} {v124 : Bool} {ak : Nat} {ar au bR : Value} {gL : Value → W} {gq : Int → Option Bool} {mh : AH} (M : yR N v1 v4 bS cv v124 gq = some r) (S : Sep c g h [.bx ak [(.string v1.az), (.string v1.aA), (vi v1.fArgs), (vi v1.aw), (vi v1.ax), ar, au]]) (av : aa aq.rep 4 g ar v1.ab) (ay : aa aB.rep 3 g au v1.aD) (bN : aa (rL (rI .i64) 1) 1 g bR v4) (oJ : Sub mh g) (oK : ∀ {ag : Int} {g2 h2 : AH}, gq ag = some r → Sub mh g2 → Sep c g2 h2 [.bx ak [(.string v1.az), (.string v1.aA), (vi v1.fArgs), (vi v1.aw), (vi v1.ax), ar, au]] → gL (vi ag) h2) (H : cT c R r) : Lt w0 E R (aC ak 0) bR (vi bS) (vi cv) gL (.bool v124) h := by
 unfold Lt
 unfold yR at M
 cases hc : v124
 · have M := aW hc M
   refine aH rfl ?_
   refine S.cL [(.string v1.az), (.string v1.aA), (vi v1.fArgs), (vi v1.aw), (vi v1.ax), ar, au] 0 rfl rfl rfl (by decide) ?_
   refine aH rfl ?_
   refine aH rfl ?_
   refine aH rfl ?_
   refine aH rfl ?_
   refine aH rfl ?_
   obtain ⟨B1, PS, M⟩ := bind_some M
   refine aa.idx bN PS (fun ahF ahG vs ahH PU rp => ?_)
   obtain ⟨ahI, rfl, PV⟩ := rp
   refine aH rfl ?_
   refine S.ct (PU 0 _ rfl) ?_
   refine aH rfl ?_
   refine aH rfl ?_
   obtain ⟨yM, B9, M⟩ := bind_some M
   refine aa.idx PV B9 (fun anO anP vs anQ aij rp => ?_)
   cases rp
   refine aH rfl ?_
   refine S.ct (aij 0 _ rfl) ?_
   refine aH rfl ?_
   obtain ⟨YK, aik, M⟩ := bind_some M
   refine YD aik S.sub S.ok av ay bN (fun _ h  S1  => ?_)
   have S := S.cW S1
   refine aH rfl ?_
   refine fE.2 ?_
   refine bK.2 ?_
   exact Y3 M S av ay oJ oK H
 · have M := aV hc M
   refine aG (by decide) ?_
   refine aG (by decide) ?_
   refine aG (by decide) ?_
   refine aG (by decide) ?_
   refine aG (by decide) ?_
   refine aG (by decide) ?_
   refine aG (by decide) ?_
   refine aG (by decide) ?_
   refine aG (by decide) ?_
   refine aG (by decide) ?_
   refine aG (by decide) ?_
   refine aG (by decide) ?_
   refine bK.2 ?_
   exact Y3 M S av ay oJ oK H
theorem ail {w0 : World} [bC w0] {c : Cx} {g h : AH} {E R : Value → W} {r : Bool} {N : Nat} {cv : Int} {v4 : List (List Int)} {bS : Int} {v1 : ah} {bR : Value} {ak : Nat} {ar au : Value} {gL : Value → W} {gq : Int → Option Bool} {mh : AH} (M : HE N cv v4 bS v1 gq = some r) (S : Sep c g h [.bx ak [(.string v1.az), (.string v1.aA), (vi v1.fArgs), (vi v1.aw), (vi v1.ax), ar, au]]) (bN : aa (rL (rI .i64) 1) 1 g bR v4) (av : aa aq.rep 4 g ar v1.ab) (ay : aa aB.rep 3 g au v1.aD) (oJ : Sub mh g) (oK : ∀ {ag : Int} {g2 h2 : AH}, gq ag = some r → Sub mh g2 → Sep c g2 h2 [.bx ak [(.string v1.az), (.string v1.aA), (vi v1.fArgs), (vi v1.aw), (vi v1.ax), ar, au]] → gL (vi ag) h2) (H : cT c R r) : Lu w0 E R (vi cv) bR (vi bS) (aC ak 0) gL h := by
 unfold Lu
 unfold HE at M
 refine ox.2 ?_
 cases hc : (decide (0 < cv))
 · have M := aW hc M
   refine aG (by decide) ?_
   refine aG (by decide) ?_
   refine aG (by decide) ?_
   refine aG (by decide) ?_
   refine aG (by decide) ?_
   refine aG (by decide) ?_
   refine aG (by decide) ?_
   refine aG (by decide) ?_
   refine aG (by decide) ?_
   refine aG (by decide) ?_
   refine aG (by decide) ?_
   refine aG (by decide) ?_
   refine aG (by decide) ?_
   refine aG (by decide) ?_
   refine aG (by decide) ?_
   refine aG (by decide) ?_
   refine bK.2 ?_
   exact Y4 M S av ay bN oJ oK H
 · have M := aV hc M
   refine aH rfl ?_
   refine aH rfl ?_
   refine aH rfl ?_
   obtain ⟨jF, wc, M⟩ := bind_some M
   refine aa.idx bN wc (fun YH YI vs ahS PY rp => ?_)
   obtain ⟨aim, rfl, Ql⟩ := rp
   refine aH rfl ?_
   refine S.ct (PY 0 _ rfl) ?_
   refine aH rfl ?_
   refine aH rfl ?_
   obtain ⟨B3, PZ, M⟩ := bind_some M
   refine aa.idx Ql PZ (fun ahT ahU vs ahV P0 rp => ?_)
   cases rp
   refine aH rfl ?_
   refine S.ct (P0 0 _ rfl) ?_
   refine aH rfl ?_
   refine aH rfl ?_
   refine aH rfl ?_
   obtain ⟨tM, Ca, M⟩ := bind_some M
   refine aa.idx bN Ca (fun ahM ahN vs anR ain rp => ?_)
   obtain ⟨anS, rfl, aio⟩ := rp
   refine aH rfl ?_
   refine S.ct (ain 0 _ rfl) ?_
   refine aH rfl ?_
   refine aH rfl ?_
   refine mP.2 ?_
   refine aH rfl ?_
   obtain ⟨B0, PN, M⟩ := bind_some M
   refine aa.idx aio PN (fun ahC ahD vs ahE PO rp => ?_)
   cases rp
   refine aH rfl ?_
   refine S.ct (PO 0 _ rfl) ?_
   refine aH rfl ?_
   refine rv.2 ?_
   refine bK.2 ?_
   exact Y4 M S av ay bN oJ oK H
theorem aip {w0 : World} [bC w0] {c : Cx} {g h : AH} {E R : Value → W} {r : Bool} {N : Nat} {bS : Int} {me : ah} {Y5 : Nat} {Qm Qn : Value} {iw : Value → W} {gG : Int → Option Bool} {mi : AH} (M : HF N bS me gG = some r) (S : Sep c g h [.bx Y5 [(.string me.az), (.string me.aA), (vi me.fArgs), (vi me.aw), (vi me.ax), Qm, Qn]]) (anT : aa aq.rep 4 g Qm me.ab) (anU : aa aB.rep 3 g Qn me.aD) (oL : Sub mi g) (rM : ∀ {ag : Int} {g2 h2 : AH}, gG ag = some r → Sub mi g2 → Sep c g2 h2 [.bx Y5 [(.string me.az), (.string me.aA), (vi me.fArgs), (vi me.aw), (vi me.ax), Qm, Qn]] → iw (vi ag) h2) (H : cT c R r) : Lq w0 E R (vi bS) iw h := by
 unfold Lq
 unfold HF at M
 refine ie.2 ?_
 exact rM M oL S
theorem aiq {w0 : World} [bC w0] {c : Cx} {g h : AH} {E R : Value → W} {r : Bool} {N : Nat} {v4 : List (List Int)} {bS : Int} {v1 : ah} {cv : Int} {bR : Value} {ak : Nat} {ar au : Value} {iw : Value → W} {gG : Int → Option Bool} {mi : AH} {gL : Value → W} {gq : Int → Option Bool} {mh : AH} (M : wi N v4 bS v1 cv gG gq = some r) (S : Sep c g h [.bx ak [(.string v1.az), (.string v1.aA), (vi v1.fArgs), (vi v1.aw), (vi v1.ax), ar, au]]) (bN : aa (rL (rI .i64) 1) 1 g bR v4) (av : aa aq.rep 4 g ar v1.ab) (ay : aa aB.rep 3 g au v1.aD) (oL : Sub mi g) (rM : ∀ {ag : Int} {g2 h2 : AH}, gG ag = some r → Sub mi g2 → Sep c g2 h2 [.bx ak [(.string v1.az), (.string v1.aA), (vi v1.fArgs), (vi v1.aw), (vi v1.ax), ar, au]] → iw (vi ag) h2) (oJ : Sub mh g) (oK : ∀ {ag : Int} {g2 h2 : AH}, gq ag = some r → Sub mh g2 → Sep c g2 h2 [.bx ak [(.string v1.az), (.string v1.aA), (vi v1.fArgs), (vi v1.aw), (vi v1.ax), ar, au]] → gL (vi ag) h2) (H : cT c R r) : ES w0 E R bR (vi bS) (aC ak 0) iw gL (vi cv) h := by
 unfold ES
 unfold wi at M
 obtain ⟨ig, Qo, M⟩ := bind_some M
 refine aa.idx bN Qo (fun air ais vs ah7 Qf rp => ?_)
 obtain ⟨anV, rfl, ait⟩ := rp
 refine S.ct (Qf 0 _ rfl) ?_
 refine ait.len ?_
 refine ff.2 ?_
 refine bz (fun hc => ?_) (fun hc => ?_)
 · have M := aV hc M
   exact ail M S bN av ay oJ oK H
 · have M := aW hc M
   exact aip M S av ay oL rM H
theorem aiu {w0 : World} [bC w0] {c : Cx} {E R : Value → W} {r : Bool} {N : Nat} {v4 : List (List Int)} {bS : Int} {v1 : ah} {bR : Value} {ak : Nat} {ar au : Value} {iw : Value → W} {gG : Int → Option Bool} {mi : AH} (rM : ∀ {ag : Int} {g2 h2 : AH}, gG ag = some r → Sub mi g2 → Sep c g2 h2 [.bx ak [(.string v1.az), (.string v1.aA), (vi v1.fArgs), (vi v1.aw), (vi v1.ax), ar, au]] → iw (vi ag) h2) (H : cT c R r) : ∀ (n : Nat) {cv : Int} {g h : AH}, wj N v4 bS v1 gG n cv = some r → Sep c g h [.bx ak [(.string v1.az), (.string v1.aA), (vi v1.fArgs), (vi v1.aw), (vi v1.ax), ar, au]] → aa (rL (rI .i64) 1) 1 g bR v4 → aa aq.rep 4 g ar v1.ab → aa aB.rep 3 g au v1.aD → Sub mi g → eE (α := Value) (fun k a => ES w0 E R bR (vi bS) (aC ak 0) iw k a) n (vi cv) h := by
 intro n
 induction n with
 | zero =>
  intro cv  g h M S bN av ay oL
  unfold wj at M; cases M
 | succ n ih =>
  intro cv  g h M S bN av ay oL
  exact aiq M S bN av ay oL rM (Sub.refl g) (fun M2 sub S2  => ih M2 S2 (aa.mono bN (je (ej .i64)) sub) (aa.mono av aq.mono sub) (aa.mono ay aB.mono sub) (Sub.trans oL sub)) H
theorem aiv {w0 : World} [bC w0] {c : Cx} {g h : AH} {E R : Value → W} {r : Bool} {N : Nat} {v4 : List (List Int)} {bS : Int} {v1 : ah} {bR : Value} {ak : Nat} {ar au : Value} {iw : Value → W} {gG : Int → Option Bool} {mi : AH} (M : HG N v4 bS v1 gG = some r) (S : Sep c g h [.bx ak [(.string v1.az), (.string v1.aA), (vi v1.fArgs), (vi v1.aw), (vi v1.ax), ar, au]]) (bN : aa (rL (rI .i64) 1) 1 g bR v4) (av : aa aq.rep 4 g ar v1.ab) (ay : aa aB.rep 3 g au v1.aD) (oL : Sub mi g) (rM : ∀ {ag : Int} {g2 h2 : AH}, gG ag = some r → Sub mi g2 → Sep c g2 h2 [.bx ak [(.string v1.az), (.string v1.aA), (vi v1.fArgs), (vi v1.aw), (vi v1.ax), ar, au]] → iw (vi ag) h2) (H : cT c R r) : Lv w0 E R bR (vi bS) (aC ak 0) iw h := by
 unfold Lv
 unfold HG at M
 exact ⟨N, aiu rM H _ M S bN av ay oL⟩
theorem aiw {w0 : World} [bC w0] {c : Cx} {g h : AH} {E R : Value → W} {r : Bool} {N : Nat} {fa : Int} {fp : ah} {Cs : Nat} {wx wy : Value} {lM : Value → W} {mf : Int → Option Bool} {tW : AH} (M : HI N fa fp mf = some r) (S : Sep c g h [.bx Cs [(.string fp.az), (.string fp.aA), (vi fp.fArgs), (vi fp.aw), (vi fp.ax), wx, wy]]) (Y6 : aa aq.rep 4 g wx fp.ab) (Y7 : aa aB.rep 3 g wy fp.aD) (Ct : Sub tW g) (Cu : ∀ {ag : Int} {g2 h2 : AH}, mf ag = some r → Sub tW g2 → Sep c g2 h2 [.bx Cs [(.string fp.az), (.string fp.aA), (vi fp.fArgs), (vi fp.aw), (vi fp.ax), wx, wy]] → lM (vi ag) h2) (H : cT c R r) : Lm w0 E R (vi fa) lM h := by
 unfold Lm
 unfold HI at M
 refine ie.2 ?_
 exact Cu M Ct S
theorem aix {w0 : World} [bC w0] {c : Cx} {g h : AH} {E R : Value → W} {r : Bool} {N : Nat} {x1 : List (List Int)} {fa : Int} {v2 : Bool} {fp : ah} {aK : Value} {Cs : Nat} {wx wy : Value} {lM : Value → W} {mf : Int → Option Bool} {tW : AH} (M : HJ N x1 fa v2 fp mf = some r) (S : Sep c g h [.bx Cs [(.string fp.az), (.string fp.aA), (vi fp.fArgs), (vi fp.aw), (vi fp.ax), wx, wy]]) (aM : aa (rL (rI .i64) 1) 1 g aK x1) (Y6 : aa aq.rep 4 g wx fp.ab) (Y7 : aa aB.rep 3 g wy fp.aD) (Ct : Sub tW g) (Cu : ∀ {ag : Int} {g2 h2 : AH}, mf ag = some r → Sub tW g2 → Sep c g2 h2 [.bx Cs [(.string fp.az), (.string fp.aA), (vi fp.fArgs), (vi fp.aw), (vi fp.ax), wx, wy]] → lM (vi ag) h2) (H : cT c R r) : Ln w0 E R aK (vi fa) (.bool v2) lM h := by
 unfold Ln
 unfold HJ at M
 obtain ⟨yN, PW, M⟩ := bind_some M
 refine aa.idx aM PW (fun anW anX vs anY aiy rp => ?_)
 obtain ⟨anZ, rfl, aiz⟩ := rp
 refine S.ct (aiy 0 _ rfl) ?_
 refine aiz.len ?_
 refine ox.2 ?_
 refine bz (fun hc => ?_) (fun hc => ?_)
 · have M := aV hc M
   cases M
   exact H _ _  S.bB
 · have M := aW hc M
   exact aiw M S Y6 Y7 Ct Cu H
theorem aiA {w0 : World} [bC w0] {c : Cx} {g h : AH} {E R : Value → W} {r : Bool} {N : Nat} {dA : Int} {fq : ah} {Cv : Nat} {wz wA : Value} {js : Value → W} {jg : Int → Option Bool} {oM : AH} (M : HK N dA fq jg = some r) (S : Sep c g h [.bx Cv [(.string fq.az), (.string fq.aA), (vi fq.fArgs), (vi fq.aw), (vi fq.ax), wz, wA]]) (Y8 : aa aq.rep 4 g wz fq.ab) (Y9 : aa aB.rep 3 g wA fq.aD) (tX : Sub oM g) (tY : ∀ {ag : Int} {g2 h2 : AH}, jg ag = some r → Sub oM g2 → Sep c g2 h2 [.bx Cv [(.string fq.az), (.string fq.aA), (vi fq.fArgs), (vi fq.aw), (vi fq.ax), wz, wA]] → js (vi ag) h2) (H : cT c R r) : Lh w0 E R (vi dA) js h := by
 unfold Lh
 unfold HK at M
 refine ie.2 ?_
 exact tY M tX S
theorem Za {w0 : World} [bC w0] {c : Cx} {g h : AH} {E R : Value → W} {r : Bool} {N : Nat} {v2 : Bool} {dA : Int} {mZ : Bool} {fq : ah} {Cv : Nat} {wz wA : Value} {js : Value → W} {jg : Int → Option Bool} {oM : AH} (M : Cf N v2 dA mZ fq jg = some r) (S : Sep c g h [.bx Cv [(.string fq.az), (.string fq.aA), (vi fq.fArgs), (vi fq.aw), (vi fq.ax), wz, wA]]) (Y8 : aa aq.rep 4 g wz fq.ab) (Y9 : aa aB.rep 3 g wA fq.aD) (tX : Sub oM g) (tY : ∀ {ag : Int} {g2 h2 : AH}, jg ag = some r → Sub oM g2 → Sep c g2 h2 [.bx Cv [(.string fq.az), (.string fq.aA), (vi fq.fArgs), (vi fq.aw), (vi fq.ax), wz, wA]] → js (vi ag) h2) (H : cT c R r) : Li w0 E R (.bool v2) (vi dA) js (.bool mZ) h := by
 unfold Li
 unfold Cf at M
 refine bz (fun hc => ?_) (fun hc => ?_)
 · have M := aV hc M
   cases M
   exact H _ _  S.bB
 · have M := aW hc M
   exact aiA M S Y8 Y9 tX tY H
theorem aiB {w0 : World} [bC w0] {c : Cx} {g h : AH} {E R : Value → W} {r : Bool} {N : Nat} {v1 : ah} {x1 : List (List Int)} {bw dA : Int} {v2 : Bool} {ak : Nat} {ar au aK : Value} {js : Value → W} {jg : Int → Option Bool} {oM : AH} (M : HL N v1 x1 bw dA v2 jg = some r) (S : Sep c g h [.bx ak [(.string v1.az), (.string v1.aA), (vi v1.fArgs), (vi v1.aw), (vi v1.ax), ar, au]]) (av : aa aq.rep 4 g ar v1.ab) (ay : aa aB.rep 3 g au v1.aD) (aM : aa (rL (rI .i64) 1) 1 g aK x1) (tX : Sub oM g) (tY : ∀ {ag : Int} {g2 h2 : AH}, jg ag = some r → Sub oM g2 → Sep c g2 h2 [.bx ak [(.string v1.az), (.string v1.aA), (vi v1.fArgs), (vi v1.aw), (vi v1.ax), ar, au]] → js (vi ag) h2) (H : cT c R r) : Lj w0 E R (aC ak 0) aK (vi bw) (vi dA) (.bool v2) js h := by
 unfold Lj
 unfold HL at M
 refine S.cL [(.string v1.az), (.string v1.aA), (vi v1.fArgs), (vi v1.aw), (vi v1.ax), ar, au] 0 rfl rfl rfl (by decide) ?_
 obtain ⟨Qi, aiC, M⟩ := bind_some M
 refine YD aiC S.sub S.ok av ay aM (fun _ h  S1  => ?_)
 have S := S.cW S1
 cases hc : Qi
 · have M := aW hc M
   refine aG (by decide) ?_
   refine aG (by decide) ?_
   refine aG (by decide) ?_
   refine aG (by decide) ?_
   refine aG (by decide) ?_
   refine aG (by decide) ?_
   refine aG (by decide) ?_
   refine bK.2 ?_
   exact Za M S av ay tX tY H
 · have M := aV hc M
   refine aH rfl ?_
   refine aH rfl ?_
   refine aH rfl ?_
   obtain ⟨YL, aiD, M⟩ := bind_some M
   refine aa.idx aM aiD (fun an0 an1 vs an2 aiE rp => ?_)
   obtain ⟨an3, rfl, aiF⟩ := rp
   refine aH rfl ?_
   refine S.ct (aiE 0 _ rfl) ?_
   refine aH rfl ?_
   refine aH rfl ?_
   obtain ⟨YM, aiG, M⟩ := bind_some M
   refine BU aiG S.sub S.ok aiF (fun _ h  S1  => ?_)
   have S := S.cW S1
   refine aH rfl ?_
   refine fE.2 ?_
   refine bK.2 ?_
   exact Za M S av ay tX tY H
theorem aiH {w0 : World} [bC w0] {c : Cx} {g h : AH} {E R : Value → W} {r : Bool} {N : Nat} {eZ : Int} {ft : ah} {Cw : Nat} {wB wC : Value} {lL : Value → W} {mg : Int → Option Bool} {tZ : AH} (M : HM N eZ ft mg = some r) (S : Sep c g h [.bx Cw [(.string ft.az), (.string ft.aA), (vi ft.fArgs), (vi ft.aw), (vi ft.ax), wB, wC]]) (Zb : aa aq.rep 4 g wB ft.ab) (Zc : aa aB.rep 3 g wC ft.aD) (Cy : Sub tZ g) (Cz : ∀ {ag : Int} {g2 h2 : AH}, mg ag = some r → Sub tZ g2 → Sep c g2 h2 [.bx Cw [(.string ft.az), (.string ft.aA), (vi ft.fArgs), (vi ft.aw), (vi ft.ax), wB, wC]] → lL (vi ag) h2) (H : cT c R r) : Le w0 E R (vi eZ) lL h := by
 unfold Le
 unfold HM at M
 refine ie.2 ?_
 exact Cz M Cy S
theorem aiI {w0 : World} [bC w0] {c : Cx} {g h : AH} {E R : Value → W} {r : Bool} {N : Nat} {x1 : List (List Int)} {bw : Int} {ed : List Int} {eZ : Int} {v2 : Bool} {ft : ah} {aK ua : Value} {Cw : Nat} {wB wC : Value} {lL : Value → W} {mg : Int → Option Bool} {tZ : AH} (M : HN N x1 bw ed eZ v2 ft mg = some r) (S : Sep c g h [.bx Cw [(.string ft.az), (.string ft.aA), (vi ft.fArgs), (vi ft.aw), (vi ft.ax), wB, wC]]) (aM : aa (rL (rI .i64) 1) 1 g aK x1) (ub : aa (rI .i64) 1 g ua ed) (Zb : aa aq.rep 4 g wB ft.ab) (Zc : aa aB.rep 3 g wC ft.aD) (Cy : Sub tZ g) (Cz : ∀ {ag : Int} {g2 h2 : AH}, mg ag = some r → Sub tZ g2 → Sep c g2 h2 [.bx Cw [(.string ft.az), (.string ft.aA), (vi ft.fArgs), (vi ft.aw), (vi ft.ax), wB, wC]] → lL (vi ag) h2) (H : cT c R r) : Lf w0 E R aK (vi bw) ua (vi eZ) (.bool v2) lL h := by
 unfold Lf
 unfold HN at M
 obtain ⟨YN, aiJ, M⟩ := bind_some M
 refine aa.idx aM aiJ (fun an4 an5 vs an6 aiK rp => ?_)
 obtain ⟨an7, rfl, aiL⟩ := rp
 refine S.ct (aiK 0 _ rfl) ?_
 obtain ⟨YO, aiM, M⟩ := bind_some M
 refine aa.idx ub aiM (fun an8 an9 vs aoa aiN rp => ?_)
 cases rp
 refine S.ct (aiN 0 _ rfl) ?_
 obtain ⟨YP, aiO, M⟩ := bind_some M
 refine BU aiO S.sub S.ok aiL (fun _ h  S1  => ?_)
 have S := S.cW S1
 refine fE.2 ?_
 refine bz (fun hc => ?_) (fun hc => ?_)
 · have M := aV hc M
   cases M
   exact H _ _  S.bB
 · have M := aW hc M
   exact aiH M S Zb Zc Cy Cz H
theorem aiP {w0 : World} [bC w0] {c : Cx} {g h : AH} {E R : Value → W} {r : Bool} {N : Nat} {bw : Int} {cB : ah} {rN : Nat} {nP nQ : Value} {ee : Value → W} {dC : Int → Option Bool} {ik : AH} (M : HO N bw cB dC = some r) (S : Sep c g h [.bx rN [(.string cB.az), (.string cB.aA), (vi cB.fArgs), (vi cB.aw), (vi cB.ax), nP, nQ]]) (wD : aa aq.rep 4 g nP cB.ab) (wE : aa aB.rep 3 g nQ cB.aD) (iS : Sub ik g) (lD : ∀ {ag : Int} {g2 h2 : AH}, dC ag = some r → Sub ik g2 → Sep c g2 h2 [.bx rN [(.string cB.az), (.string cB.aA), (vi cB.fArgs), (vi cB.aw), (vi cB.ax), nP, nQ]] → ee (vi ag) h2) (H : cT c R r) : Ld w0 E R (vi bw) ee h := by
 unfold Ld
 unfold HO at M
 refine ie.2 ?_
 exact lD M iS S
theorem aiQ {w0 : World} [bC w0] {c : Cx} {g h : AH} {E R : Value → W} {r : Bool} {N : Nat} {ed : List Int} {x1 : List (List Int)} {bw : Int} {v2 : Bool} {eZ : Int} {cB : ah} {ua aK : Value} {rN : Nat} {nP nQ : Value} {ee : Value → W} {dC : Int → Option Bool} {ik : AH} {lL : Value → W} {mg : Int → Option Bool} {tZ : AH} (M : tS N ed x1 bw v2 eZ cB dC mg = some r) (S : Sep c g h [.bx rN [(.string cB.az), (.string cB.aA), (vi cB.fArgs), (vi cB.aw), (vi cB.ax), nP, nQ]]) (ub : aa (rI .i64) 1 g ua ed) (aM : aa (rL (rI .i64) 1) 1 g aK x1) (wD : aa aq.rep 4 g nP cB.ab) (wE : aa aB.rep 3 g nQ cB.aD) (iS : Sub ik g) (lD : ∀ {ag : Int} {g2 h2 : AH}, dC ag = some r → Sub ik g2 → Sep c g2 h2 [.bx rN [(.string cB.az), (.string cB.aA), (vi cB.fArgs), (vi cB.aw), (vi cB.ax), nP, nQ]] → ee (vi ag) h2) (Cy : Sub tZ g) (Cz : ∀ {ag : Int} {g2 h2 : AH}, mg ag = some r → Sub tZ g2 → Sep c g2 h2 [.bx rN [(.string cB.az), (.string cB.aA), (vi cB.fArgs), (vi cB.aw), (vi cB.ax), nP, nQ]] → lL (vi ag) h2) (H : cT c R r) : EM w0 E R ua aK (vi bw) (.bool v2) ee lL (vi eZ) h := by
 unfold EM
 unfold tS at M
 refine ub.len ?_
 refine ff.2 ?_
 refine bz (fun hc => ?_) (fun hc => ?_)
 · have M := aV hc M
   exact aiI M S aM ub wD wE Cy Cz H
 · have M := aW hc M
   exact aiP M S wD wE iS lD H
theorem aiR {w0 : World} [bC w0] {c : Cx} {E R : Value → W} {r : Bool} {N : Nat} {ed : List Int} {x1 : List (List Int)} {bw : Int} {v2 : Bool} {cB : ah} {ua aK : Value} {rN : Nat} {nP nQ : Value} {ee : Value → W} {dC : Int → Option Bool} {ik : AH} (lD : ∀ {ag : Int} {g2 h2 : AH}, dC ag = some r → Sub ik g2 → Sep c g2 h2 [.bx rN [(.string cB.az), (.string cB.aA), (vi cB.fArgs), (vi cB.aw), (vi cB.ax), nP, nQ]] → ee (vi ag) h2) (H : cT c R r) : ∀ (n : Nat) {eZ : Int} {g h : AH}, yS N ed x1 bw v2 cB dC n eZ = some r → Sep c g h [.bx rN [(.string cB.az), (.string cB.aA), (vi cB.fArgs), (vi cB.aw), (vi cB.ax), nP, nQ]] → aa (rI .i64) 1 g ua ed → aa (rL (rI .i64) 1) 1 g aK x1 → aa aq.rep 4 g nP cB.ab → aa aB.rep 3 g nQ cB.aD → Sub ik g → eE (α := Value) (fun k a => EM w0 E R ua aK (vi bw) (.bool v2) ee k a) n (vi eZ) h := by
 intro n
 induction n with
 | zero =>
  intro eZ  g h M S ub aM wD wE iS
  unfold yS at M; cases M
 | succ n ih =>
  intro eZ  g h M S ub aM wD wE iS
  exact aiQ M S ub aM wD wE iS lD (Sub.refl g) (fun M2 sub S2  => ih M2 S2 (aa.mono ub (ej .i64) sub) (aa.mono aM (je (ej .i64)) sub) (aa.mono wD aq.mono sub) (aa.mono wE aB.mono sub) (Sub.trans iS sub)) H
theorem aiS {w0 : World} [bC w0] {c : Cx} {g h : AH} {E R : Value → W} {r : Bool} {N : Nat} {v1 : ah} {bw : Int} {x1 : List (List Int)} {v2 : Bool} {ak : Nat} {ar au aK : Value} {ee : Value → W} {dC : Int → Option Bool} {ik : AH} (M : HP N v1 bw x1 v2 dC = some r) (S : Sep c g h [.bx ak [(.string v1.az), (.string v1.aA), (vi v1.fArgs), (vi v1.aw), (vi v1.ax), ar, au]]) (av : aa aq.rep 4 g ar v1.ab) (ay : aa aB.rep 3 g au v1.aD) (aM : aa (rL (rI .i64) 1) 1 g aK x1) (iS : Sub ik g) (lD : ∀ {ag : Int} {g2 h2 : AH}, dC ag = some r → Sub ik g2 → Sep c g2 h2 [.bx ak [(.string v1.az), (.string v1.aA), (vi v1.fArgs), (vi v1.aw), (vi v1.ax), ar, au]] → ee (vi ag) h2) (H : cT c R r) : Lg w0 E R (aC ak 0) (vi bw) aK (.bool v2) ee h := by
 unfold Lg
 unfold HP at M
 refine cb.2 ?_
 refine S.bQ 0 rfl rfl ?_
 obtain ⟨YQ, aiT, M⟩ := bind_some M
 refine aa.idx av aiT (fun aob aoc vs aod Qp rp => ?_)
 cases rp
 refine S.mS Qp rfl (by decide) ?_
 obtain ⟨YR, aiU, M⟩ := bind_some M
 refine Hz aiU S.sub S.ok (fun g h aoe S1 aiV => ?_)
 have aM := aa.mono aM (je (ej .i64)) S1.bX
 have av := aa.mono av aq.mono S1.bX
 have Qp := S1.bX.aZ Qp
 have ay := aa.mono ay aB.mono S1.bX
 have iS := Sub.trans iS S1.bX
 have S := S.mc S1
 exact ⟨N, aiR lD H _ M S aiV aM av ay iS⟩
theorem aiW {w0 : World} [bC w0] {c : Cx} {g h : AH} {E R : Value → W} {r : Bool} {N : Nat} {v1 : ah} {x1 : List (List Int)} {bw : Int} {v2 : Bool} {dA : Int} {ak : Nat} {ar au aK : Value} {ee : Value → W} {dC : Int → Option Bool} {ik : AH} {js : Value → W} {jg : Int → Option Bool} {oM : AH} (M : tT N v1 x1 bw v2 dA dC jg = some r) (S : Sep c g h [.bx ak [(.string v1.az), (.string v1.aA), (vi v1.fArgs), (vi v1.aw), (vi v1.ax), ar, au]]) (av : aa aq.rep 4 g ar v1.ab) (ay : aa aB.rep 3 g au v1.aD) (aM : aa (rL (rI .i64) 1) 1 g aK x1) (iS : Sub ik g) (lD : ∀ {ag : Int} {g2 h2 : AH}, dC ag = some r → Sub ik g2 → Sep c g2 h2 [.bx ak [(.string v1.az), (.string v1.aA), (vi v1.fArgs), (vi v1.aw), (vi v1.ax), ar, au]] → ee (vi ag) h2) (tX : Sub oM g) (tY : ∀ {ag : Int} {g2 h2 : AH}, jg ag = some r → Sub oM g2 → Sep c g2 h2 [.bx ak [(.string v1.az), (.string v1.aA), (vi v1.fArgs), (vi v1.aw), (vi v1.ax), ar, au]] → js (vi ag) h2) (H : cT c R r) : EN w0 E R (aC ak 0) aK (vi bw) (.bool v2) ee js (vi dA) h := by
 unfold EN
 unfold tT at M
 refine cb.2 ?_
 refine S.bQ 0 rfl rfl ?_
 refine ff.2 ?_
 refine bz (fun hc => ?_) (fun hc => ?_)
 · have M := aV hc M
   exact aiB M S av ay aM tX tY H
 · have M := aW hc M
   exact aiS M S av ay aM iS lD H
theorem aiX {w0 : World} [bC w0] {c : Cx} {E R : Value → W} {r : Bool} {N : Nat} {v1 : ah} {x1 : List (List Int)} {bw : Int} {v2 : Bool} {ak : Nat} {ar au aK : Value} {ee : Value → W} {dC : Int → Option Bool} {ik : AH} (lD : ∀ {ag : Int} {g2 h2 : AH}, dC ag = some r → Sub ik g2 → Sep c g2 h2 [.bx ak [(.string v1.az), (.string v1.aA), (vi v1.fArgs), (vi v1.aw), (vi v1.ax), ar, au]] → ee (vi ag) h2) (H : cT c R r) : ∀ (n : Nat) {dA : Int} {g h : AH}, yT N v1 x1 bw v2 dC n dA = some r → Sep c g h [.bx ak [(.string v1.az), (.string v1.aA), (vi v1.fArgs), (vi v1.aw), (vi v1.ax), ar, au]] → aa aq.rep 4 g ar v1.ab → aa aB.rep 3 g au v1.aD → aa (rL (rI .i64) 1) 1 g aK x1 → Sub ik g → eE (α := Value) (fun k a => EN w0 E R (aC ak 0) aK (vi bw) (.bool v2) ee k a) n (vi dA) h := by
 intro n
 induction n with
 | zero =>
  intro dA  g h M S av ay aM iS
  unfold yT at M; cases M
 | succ n ih =>
  intro dA  g h M S av ay aM iS
  exact aiW M S av ay aM iS lD (Sub.refl g) (fun M2 sub S2  => ih M2 S2 (aa.mono av aq.mono sub) (aa.mono ay aB.mono sub) (aa.mono aM (je (ej .i64)) sub) (Sub.trans iS sub)) H
theorem aiY {w0 : World} [bC w0] {c : Cx} {g h : AH} {E R : Value → W} {r : Bool} {N : Nat} {v1 : ah} {x1 : List (List Int)} {bw : Int} {v2 : Bool} {ak : Nat} {ar au aK : Value} {ee : Value → W} {dC : Int → Option Bool} {ik : AH} (M : HQ N v1 x1 bw v2 dC = some r) (S : Sep c g h [.bx ak [(.string v1.az), (.string v1.aA), (vi v1.fArgs), (vi v1.aw), (vi v1.ax), ar, au]]) (av : aa aq.rep 4 g ar v1.ab) (ay : aa aB.rep 3 g au v1.aD) (aM : aa (rL (rI .i64) 1) 1 g aK x1) (iS : Sub ik g) (lD : ∀ {ag : Int} {g2 h2 : AH}, dC ag = some r → Sub ik g2 → Sep c g2 h2 [.bx ak [(.string v1.az), (.string v1.aA), (vi v1.fArgs), (vi v1.aw), (vi v1.ax), ar, au]] → ee (vi ag) h2) (H : cT c R r) : Lk w0 E R (aC ak 0) aK (vi bw) (.bool v2) ee h := by
 unfold Lk
 unfold HQ at M
 exact ⟨N, aiX lD H _ M S av ay aM iS⟩
theorem aiZ {w0 : World} [bC w0] {c : Cx} {g h : AH} {E R : Value → W} {r : Bool} {N : Nat} {y9 : Int} {fu : ah} {CA : Nat} {wF wG : Value} {k8 : Value → W} {eU : Int → Option Bool} {kA : AH} (M : HS N y9 fu eU = some r) (S : Sep c g h [.bx CA [(.string fu.az), (.string fu.aA), (vi fu.fArgs), (vi fu.aw), (vi fu.ax), wF, wG]]) (Zd : aa aq.rep 4 g wF fu.ab) (Ze : aa aB.rep 3 g wG fu.aD) (mj : Sub kA g) (ml : ∀ {ag : Int} {g2 h2 : AH}, eU ag = some r → Sub kA g2 → Sep c g2 h2 [.bx CA [(.string fu.az), (.string fu.aA), (vi fu.fArgs), (vi fu.aw), (vi fu.ax), wF, wG]] → k8 (vi ag) h2) (H : cT c R r) : K6 w0 E R (vi y9) k8 h := by
 unfold K6
 unfold HS at M
 refine ie.2 ?_
 exact ml M mj S
theorem Zf {w0 : World} [bC w0] {c : Cx} {g h : AH} {E R : Value → W} {r : Bool} {N : Nat} {y9 : Int} {eL : Bool} {fu : ah} {CA : Nat} {wF wG : Value} {k8 : Value → W} {eU : Int → Option Bool} {kA : AH} (M : Cg N y9 eL fu eU = some r) (S : Sep c g h [.bx CA [(.string fu.az), (.string fu.aA), (vi fu.fArgs), (vi fu.aw), (vi fu.ax), wF, wG]]) (Zd : aa aq.rep 4 g wF fu.ab) (Ze : aa aB.rep 3 g wG fu.aD) (mj : Sub kA g) (ml : ∀ {ag : Int} {g2 h2 : AH}, eU ag = some r → Sub kA g2 → Sep c g2 h2 [.bx CA [(.string fu.az), (.string fu.aA), (vi fu.fArgs), (vi fu.aw), (vi fu.ax), wF, wG]] → k8 (vi ag) h2) (H : cT c R r) : K7 w0 E R (vi y9) k8 (.bool eL) h := by
 unfold K7
 unfold Cg at M
 refine bz (fun hc => ?_) (fun hc => ?_)
 · have M := aV hc M
   cases M
   exact H _ _  S.bB
 · have M := aW hc M
   exact aiZ M S Zd Ze mj ml H
theorem Zg {w0 : World} [bC w0] {c : Cx} {g h : AH} {E R : Value → W} {r : Bool} {N : Nat} {v1 : ah} {y9 : Int} {v40 : Bool} {ak : Nat} {ar au : Value} {k8 : Value → W} {eU : Int → Option Bool} {kA : AH} (M : Ch N v1 y9 v40 eU = some r) (S : Sep c g h [.bx ak [(.string v1.az), (.string v1.aA), (vi v1.fArgs), (vi v1.aw), (vi v1.ax), ar, au]]) (av : aa aq.rep 4 g ar v1.ab) (ay : aa aB.rep 3 g au v1.aD) (mj : Sub kA g) (ml : ∀ {ag : Int} {g2 h2 : AH}, eU ag = some r → Sub kA g2 → Sep c g2 h2 [.bx ak [(.string v1.az), (.string v1.aA), (vi v1.fArgs), (vi v1.aw), (vi v1.ax), ar, au]] → k8 (vi ag) h2) (H : cT c R r) : K8 w0 E R (aC ak 0) (vi y9) k8 (.bool v40) h := by
 unfold K8
 unfold Ch at M
 cases hc : v40
 · have M := aW hc M
   refine aG (by decide) ?_
   refine aG (by decide) ?_
   refine bK.2 ?_
   exact Zf M S av ay mj ml H
 · have M := aV hc M
   refine aH rfl ?_
   refine S.cL [(.string v1.az), (.string v1.aA), (vi v1.fArgs), (vi v1.aw), (vi v1.ax), ar, au] 0 rfl rfl rfl (by decide) ?_
   refine aH rfl ?_
   obtain ⟨YS, ai0, M⟩ := bind_some M
   refine aih ai0 S.sub S.ok av ay (fun _ h  S1  => ?_)
   have S := S.cW S1
   refine bK.2 ?_
   exact Zf M S av ay mj ml H
theorem Zh {w0 : World} [bC w0] {c : Cx} {g h : AH} {E R : Value → W} {r : Bool} {N : Nat} {x1 : List (List Int)} {y6 : Int} {v4 : List (List Int)} {y9 : Int} {v1 : ah} {dc : Bool} {aK bR : Value} {ak : Nat} {ar au : Value} {k8 : Value → W} {eU : Int → Option Bool} {kA : AH} (M : Ci N x1 y6 v4 y9 v1 dc eU = some r) (S : Sep c g h [.bx ak [(.string v1.az), (.string v1.aA), (vi v1.fArgs), (vi v1.aw), (vi v1.ax), ar, au]]) (aM : aa (rL (rI .i64) 1) 1 g aK x1) (bN : aa (rL (rI .i64) 1) 1 g bR v4) (av : aa aq.rep 4 g ar v1.ab) (ay : aa aB.rep 3 g au v1.aD) (mj : Sub kA g) (ml : ∀ {ag : Int} {g2 h2 : AH}, eU ag = some r → Sub kA g2 → Sep c g2 h2 [.bx ak [(.string v1.az), (.string v1.aA), (vi v1.fArgs), (vi v1.aw), (vi v1.ax), ar, au]] → k8 (vi ag) h2) (H : cT c R r) : K9 w0 E R aK (vi y6) bR (vi y9) (aC ak 0) k8 (.bool dc) h := by
 unfold K9
 unfold Ci at M
 cases hc : dc
 · have M := aW hc M
   refine aG (by decide) ?_
   refine aG (by decide) ?_
   refine aG (by decide) ?_
   refine aG (by decide) ?_
   refine aG (by decide) ?_
   refine aG (by decide) ?_
   refine aG (by decide) ?_
   refine aG (by decide) ?_
   refine aG (by decide) ?_
   refine aG (by decide) ?_
   refine aG (by decide) ?_
   refine aG (by decide) ?_
   refine aG (by decide) ?_
   refine bK.2 ?_
   exact Zg M S av ay mj ml H
 · have M := aV hc M
   refine aH rfl ?_
   refine aH rfl ?_
   refine aH rfl ?_
   obtain ⟨YT, ai1, M⟩ := bind_some M
   refine aa.idx aM ai1 (fun aof aog vs aoh ai2 rp => ?_)
   obtain ⟨aoi, rfl, ai3⟩ := rp
   refine aH rfl ?_
   refine S.ct (ai2 0 _ rfl) ?_
   refine aH rfl ?_
   refine aH rfl ?_
   refine aH rfl ?_
   obtain ⟨YU, ai4, M⟩ := bind_some M
   refine aa.idx bN ai4 (fun aoj aok vs aol ai5 rp => ?_)
   obtain ⟨aom, rfl, ai6⟩ := rp
   refine aH rfl ?_
   refine S.ct (ai5 0 _ rfl) ?_
   refine aH rfl ?_
   refine aH rfl ?_
   obtain ⟨YV, ai7, M⟩ := bind_some M
   refine aa.idx ai6 ai7 (fun aon aoo vs aop ai8 rp => ?_)
   cases rp
   refine aH rfl ?_
   refine S.ct (ai8 0 _ rfl) ?_
   refine aH rfl ?_
   obtain ⟨YW, ai9, M⟩ := bind_some M
   refine BU ai9 S.sub S.ok ai3 (fun _ h  S1  => ?_)
   have S := S.cW S1
   refine aH rfl ?_
   refine fE.2 ?_
   refine bK.2 ?_
   exact Zg M S av ay mj ml H
theorem aja {w0 : World} [bC w0] {c : Cx} {g h : AH} {E R : Value → W} {r : Bool} {N : Nat} {v4 : List (List Int)} {y6 y9 : Int} {v1 : ah} {x1 : List (List Int)} {bR : Value} {ak : Nat} {ar au aK : Value} {k8 : Value → W} {eU : Int → Option Bool} {kA : AH} (M : HT N v4 y6 y9 v1 x1 eU = some r) (S : Sep c g h [.bx ak [(.string v1.az), (.string v1.aA), (vi v1.fArgs), (vi v1.aw), (vi v1.ax), ar, au]]) (bN : aa (rL (rI .i64) 1) 1 g bR v4) (av : aa aq.rep 4 g ar v1.ab) (ay : aa aB.rep 3 g au v1.aD) (aM : aa (rL (rI .i64) 1) 1 g aK x1) (mj : Sub kA g) (ml : ∀ {ag : Int} {g2 h2 : AH}, eU ag = some r → Sub kA g2 → Sep c g2 h2 [.bx ak [(.string v1.az), (.string v1.aA), (vi v1.fArgs), (vi v1.aw), (vi v1.ax), ar, au]] → k8 (vi ag) h2) (H : cT c R r) : La w0 E R bR (vi y6) (vi y9) (aC ak 0) aK k8 h := by
 unfold La
 unfold HT at M
 obtain ⟨YX, ajb, M⟩ := bind_some M
 refine aa.idx bN ajb (fun aoq aor vs aos ajc rp => ?_)
 obtain ⟨aot, rfl, ajd⟩ := rp
 refine S.ct (ajc 0 _ rfl) ?_
 obtain ⟨Qj, aje, M⟩ := bind_some M
 refine aa.idx ajd aje (fun aou aov vs aow ajf rp => ?_)
 cases rp
 refine S.ct (ajf 0 _ rfl) ?_
 refine nM.2 ?_
 cases hc : (decide (0 ≤ Qj))
 · have M := aW hc M
   refine aG (by decide) ?_
   refine aG (by decide) ?_
   refine aG (by decide) ?_
   refine aG (by decide) ?_
   refine aG (by decide) ?_
   refine aG (by decide) ?_
   refine aG (by decide) ?_
   refine aG (by decide) ?_
   refine aG (by decide) ?_
   refine aG (by decide) ?_
   refine bK.2 ?_
   exact Zh M S aM bN av ay mj ml H
 · have M := aV hc M
   refine aH rfl ?_
   refine aH rfl ?_
   refine aH rfl ?_
   obtain ⟨YY, ajg, M⟩ := bind_some M
   refine aa.idx bN ajg (fun aox aoy vs aoz ajh rp => ?_)
   obtain ⟨aoA, rfl, aji⟩ := rp
   refine aH rfl ?_
   refine S.ct (ajh 0 _ rfl) ?_
   refine aH rfl ?_
   refine aH rfl ?_
   obtain ⟨YZ, ajj, M⟩ := bind_some M
   refine aa.idx aji ajj (fun aoB aoC vs aoD ajk rp => ?_)
   cases rp
   refine aH rfl ?_
   refine S.ct (ajk 0 _ rfl) ?_
   refine aH rfl ?_
   refine cb.2 ?_
   refine aH rfl ?_
   refine S.bQ 0 rfl rfl ?_
   refine aH rfl ?_
   refine ff.2 ?_
   refine bK.2 ?_
   exact Zh M S aM bN av ay mj ml H
theorem ajl {w0 : World} [bC w0] {c : Cx} {g h : AH} {E R : Value → W} {r : Bool} {N : Nat} {y6 : Int} {ij : ah} {Zi : Nat} {Qq Qr : Value} {k5 : Value → W} {dI : Int → Option Bool} {mm : AH} (M : HU N y6 ij dI = some r) (S : Sep c g h [.bx Zi [(.string ij.az), (.string ij.aA), (vi ij.fArgs), (vi ij.aw), (vi ij.ax), Qq, Qr]]) (aoE : aa aq.rep 4 g Qq ij.ab) (aoF : aa aB.rep 3 g Qr ij.aD) (oN : Sub mm g) (rO : ∀ {ag : Int} {g2 h2 : AH}, dI ag = some r → Sub mm g2 → Sep c g2 h2 [.bx Zi [(.string ij.az), (.string ij.aA), (vi ij.fArgs), (vi ij.aw), (vi ij.ax), Qq, Qr]] → k5 (vi ag) h2) (H : cT c R r) : K5 w0 E R (vi y6) k5 h := by
 unfold K5
 unfold HU at M
 refine ie.2 ?_
 exact rO M oN S
theorem ajm {w0 : World} [bC w0] {c : Cx} {g h : AH} {E R : Value → W} {r : Bool} {N : Nat} {v4 : List (List Int)} {y6 : Int} {v1 : ah} {x1 : List (List Int)} {y9 : Int} {bR : Value} {ak : Nat} {ar au aK : Value} {k5 : Value → W} {dI : Int → Option Bool} {mm : AH} {k8 : Value → W} {eU : Int → Option Bool} {kA : AH} (M : wk N v4 y6 v1 x1 y9 dI eU = some r) (S : Sep c g h [.bx ak [(.string v1.az), (.string v1.aA), (vi v1.fArgs), (vi v1.aw), (vi v1.ax), ar, au]]) (bN : aa (rL (rI .i64) 1) 1 g bR v4) (av : aa aq.rep 4 g ar v1.ab) (ay : aa aB.rep 3 g au v1.aD) (aM : aa (rL (rI .i64) 1) 1 g aK x1) (oN : Sub mm g) (rO : ∀ {ag : Int} {g2 h2 : AH}, dI ag = some r → Sub mm g2 → Sep c g2 h2 [.bx ak [(.string v1.az), (.string v1.aA), (vi v1.fArgs), (vi v1.aw), (vi v1.ax), ar, au]] → k5 (vi ag) h2) (mj : Sub kA g) (ml : ∀ {ag : Int} {g2 h2 : AH}, eU ag = some r → Sub kA g2 → Sep c g2 h2 [.bx ak [(.string v1.az), (.string v1.aA), (vi v1.fArgs), (vi v1.aw), (vi v1.ax), ar, au]] → k8 (vi ag) h2) (H : cT c R r) : EK w0 E R bR (vi y6) (aC ak 0) aK k5 k8 (vi y9) h := by
 unfold EK
 unfold wk at M
 obtain ⟨Y0, ajn, M⟩ := bind_some M
 refine aa.idx bN ajn (fun aoG aoH vs aoI ajo rp => ?_)
 obtain ⟨aoJ, rfl, ajp⟩ := rp
 refine S.ct (ajo 0 _ rfl) ?_
 refine ajp.len ?_
 refine ff.2 ?_
 refine bz (fun hc => ?_) (fun hc => ?_)
 · have M := aV hc M
   exact aja M S bN av ay aM mj ml H
 · have M := aW hc M
   exact ajl M S av ay oN rO H
theorem ajq {w0 : World} [bC w0] {c : Cx} {E R : Value → W} {r : Bool} {N : Nat} {v4 : List (List Int)} {y6 : Int} {v1 : ah} {x1 : List (List Int)} {bR : Value} {ak : Nat} {ar au aK : Value} {k5 : Value → W} {dI : Int → Option Bool} {mm : AH} (rO : ∀ {ag : Int} {g2 h2 : AH}, dI ag = some r → Sub mm g2 → Sep c g2 h2 [.bx ak [(.string v1.az), (.string v1.aA), (vi v1.fArgs), (vi v1.aw), (vi v1.ax), ar, au]] → k5 (vi ag) h2) (H : cT c R r) : ∀ (n : Nat) {y9 : Int} {g h : AH}, Cj N v4 y6 v1 x1 dI n y9 = some r → Sep c g h [.bx ak [(.string v1.az), (.string v1.aA), (vi v1.fArgs), (vi v1.aw), (vi v1.ax), ar, au]] → aa (rL (rI .i64) 1) 1 g bR v4 → aa aq.rep 4 g ar v1.ab → aa aB.rep 3 g au v1.aD → aa (rL (rI .i64) 1) 1 g aK x1 → Sub mm g → eE (α := Value) (fun k a => EK w0 E R bR (vi y6) (aC ak 0) aK k5 k a) n (vi y9) h := by
 intro n
 induction n with
 | zero =>
  intro y9  g h M S bN av ay aM oN
  unfold Cj at M; cases M
 | succ n ih =>
  intro y9  g h M S bN av ay aM oN
  exact ajm M S bN av ay aM oN rO (Sub.refl g) (fun M2 sub S2  => ih M2 S2 (aa.mono bN (je (ej .i64)) sub) (aa.mono av aq.mono sub) (aa.mono ay aB.mono sub) (aa.mono aM (je (ej .i64)) sub) (Sub.trans oN sub)) H
theorem ajr {w0 : World} [bC w0] {c : Cx} {g h : AH} {E R : Value → W} {r : Bool} {N : Nat} {v4 : List (List Int)} {y6 : Int} {v1 : ah} {x1 : List (List Int)} {bR : Value} {ak : Nat} {ar au aK : Value} {k5 : Value → W} {dI : Int → Option Bool} {mm : AH} (M : HV N v4 y6 v1 x1 dI = some r) (S : Sep c g h [.bx ak [(.string v1.az), (.string v1.aA), (vi v1.fArgs), (vi v1.aw), (vi v1.ax), ar, au]]) (bN : aa (rL (rI .i64) 1) 1 g bR v4) (av : aa aq.rep 4 g ar v1.ab) (ay : aa aB.rep 3 g au v1.aD) (aM : aa (rL (rI .i64) 1) 1 g aK x1) (oN : Sub mm g) (rO : ∀ {ag : Int} {g2 h2 : AH}, dI ag = some r → Sub mm g2 → Sep c g2 h2 [.bx ak [(.string v1.az), (.string v1.aA), (vi v1.fArgs), (vi v1.aw), (vi v1.ax), ar, au]] → k5 (vi ag) h2) (H : cT c R r) : Lb w0 E R bR (vi y6) (aC ak 0) aK k5 h := by
 unfold Lb
 unfold HV at M
 exact ⟨N, ajq rO H _ M S bN av ay aM oN⟩
theorem ajs {w0 : World} [bC w0] {c : Cx} {g h : AH} {E R : Value → W} {r : Bool} {N : Nat} {v2 : Bool}  (M : Qk N v2 = some r) (S : Sep c g h [])   (H : cT c R r) : K4 w0 E R (.bool v2) h := by
 unfold K4
 unfold Qk at M
 cases M
 exact H _ _  S.bB
theorem ajt {w0 : World} [bC w0] {c : Cx} {g h : AH} {E R : Value → W} {r : Bool} {N : Nat} {v4 : List (List Int)} {v1 : ah} {x1 : List (List Int)} {v2 : Bool} {y6 : Int} {bR : Value} {ak : Nat} {ar au aK : Value} {k5 : Value → W} {dI : Int → Option Bool} {mm : AH} (M : wm N v4 v1 x1 v2 y6 dI = some r) (S : Sep c g h [.bx ak [(.string v1.az), (.string v1.aA), (vi v1.fArgs), (vi v1.aw), (vi v1.ax), ar, au]]) (bN : aa (rL (rI .i64) 1) 1 g bR v4) (av : aa aq.rep 4 g ar v1.ab) (ay : aa aB.rep 3 g au v1.aD) (aM : aa (rL (rI .i64) 1) 1 g aK x1) (oN : Sub mm g) (rO : ∀ {ag : Int} {g2 h2 : AH}, dI ag = some r → Sub mm g2 → Sep c g2 h2 [.bx ak [(.string v1.az), (.string v1.aA), (vi v1.fArgs), (vi v1.aw), (vi v1.ax), ar, au]] → k5 (vi ag) h2) (H : cT c R r) : EL w0 E R bR (aC ak 0) aK (.bool v2) k5 (vi y6) h := by
 unfold EL
 unfold wm at M
 refine bN.len ?_
 refine ff.2 ?_
 refine bz (fun hc => ?_) (fun hc => ?_)
 · have M := aV hc M
   exact ajr M S bN av ay aM oN rO H
 · have M := aW hc M
   have S := S.t0
   exact ajs M S  H
theorem aju {w0 : World} [bC w0] {c : Cx} {E R : Value → W} {r : Bool} {N : Nat} {v4 : List (List Int)} {v1 : ah} {x1 : List (List Int)} {v2 : Bool} {bR : Value} {ak : Nat} {ar au aK : Value}   (H : cT c R r) : ∀ (n : Nat) {y6 : Int} {g h : AH}, wo N v4 v1 x1 v2 n y6 = some r → Sep c g h [.bx ak [(.string v1.az), (.string v1.aA), (vi v1.fArgs), (vi v1.aw), (vi v1.ax), ar, au]] → aa (rL (rI .i64) 1) 1 g bR v4 → aa aq.rep 4 g ar v1.ab → aa aB.rep 3 g au v1.aD → aa (rL (rI .i64) 1) 1 g aK x1 → eE (α := Value) (fun k a => EL w0 E R bR (aC ak 0) aK (.bool v2) k a) n (vi y6) h := by
 intro n
 induction n with
 | zero =>
  intro y6  g h M S bN av ay aM
  unfold wo at M; cases M
 | succ n ih =>
  intro y6  g h M S bN av ay aM
  exact ajt M S bN av ay aM  (Sub.refl g) (fun M2 sub S2  => ih M2 S2 (aa.mono bN (je (ej .i64)) sub) (aa.mono av aq.mono sub) (aa.mono ay aB.mono sub) (aa.mono aM (je (ej .i64)) sub) ) H
theorem ajv {w0 : World} [bC w0] {c : Cx} {g h : AH} {E R : Value → W} {r : Bool} {N : Nat} {v4 : List (List Int)} {v1 : ah} {x1 : List (List Int)} {v2 : Bool} {bR : Value} {ak : Nat} {ar au aK : Value}  (M : Ck N v4 v1 x1 v2 = some r) (S : Sep c g h [.bx ak [(.string v1.az), (.string v1.aA), (vi v1.fArgs), (vi v1.aw), (vi v1.ax), ar, au]]) (bN : aa (rL (rI .i64) 1) 1 g bR v4) (av : aa aq.rep 4 g ar v1.ab) (ay : aa aB.rep 3 g au v1.aD) (aM : aa (rL (rI .i64) 1) 1 g aK x1)  (H : cT c R r) : Lc w0 E R bR (aC ak 0) aK (.bool v2) h := by
 unfold Lc
 unfold Ck at M
 exact ⟨N, aju  H _ M S bN av ay aM ⟩
theorem ajw {w0 : World} [bC w0] {c : Cx} {g h : AH} {E R : Value → W} {r : Bool} {N : Nat} {x1 : List (List Int)} {v1 : ah} {v2 : Bool} {v4 : List (List Int)} {bw : Int} {aK : Value} {ak : Nat} {ar au bR : Value} {ee : Value → W} {dC : Int → Option Bool} {ik : AH} (M : tU N x1 v1 v2 v4 bw dC = some r) (S : Sep c g h [.bx ak [(.string v1.az), (.string v1.aA), (vi v1.fArgs), (vi v1.aw), (vi v1.ax), ar, au]]) (aM : aa (rL (rI .i64) 1) 1 g aK x1) (av : aa aq.rep 4 g ar v1.ab) (ay : aa aB.rep 3 g au v1.aD) (bN : aa (rL (rI .i64) 1) 1 g bR v4) (iS : Sub ik g) (lD : ∀ {ag : Int} {g2 h2 : AH}, dC ag = some r → Sub ik g2 → Sep c g2 h2 [.bx ak [(.string v1.az), (.string v1.aA), (vi v1.fArgs), (vi v1.aw), (vi v1.ax), ar, au]] → ee (vi ag) h2) (H : cT c R r) : EO w0 E R aK (aC ak 0) (.bool v2) bR ee (vi bw) h := by
 unfold EO
 unfold tU at M
 refine aM.len ?_
 refine ff.2 ?_
 refine bz (fun hc => ?_) (fun hc => ?_)
 · have M := aV hc M
   exact aiY M S av ay aM iS lD H
 · have M := aW hc M
   exact ajv M S bN av ay aM H
theorem ajx {w0 : World} [bC w0] {c : Cx} {E R : Value → W} {r : Bool} {N : Nat} {x1 : List (List Int)} {v1 : ah} {v2 : Bool} {v4 : List (List Int)} {aK : Value} {ak : Nat} {ar au bR : Value}   (H : cT c R r) : ∀ (n : Nat) {bw : Int} {g h : AH}, rJ N x1 v1 v2 v4 n bw = some r → Sep c g h [.bx ak [(.string v1.az), (.string v1.aA), (vi v1.fArgs), (vi v1.aw), (vi v1.ax), ar, au]] → aa (rL (rI .i64) 1) 1 g aK x1 → aa aq.rep 4 g ar v1.ab → aa aB.rep 3 g au v1.aD → aa (rL (rI .i64) 1) 1 g bR v4 → eE (α := Value) (fun k a => EO w0 E R aK (aC ak 0) (.bool v2) bR k a) n (vi bw) h := by
 intro n
 induction n with
 | zero =>
  intro bw  g h M S aM av ay bN
  unfold rJ at M; cases M
 | succ n ih =>
  intro bw  g h M S aM av ay bN
  exact ajw M S aM av ay bN  (Sub.refl g) (fun M2 sub S2  => ih M2 S2 (aa.mono aM (je (ej .i64)) sub) (aa.mono av aq.mono sub) (aa.mono ay aB.mono sub) (aa.mono bN (je (ej .i64)) sub) ) H
theorem ajy {w0 : World} [bC w0] {c : Cx} {g h : AH} {E R : Value → W} {r : Bool} {N : Nat} {x1 : List (List Int)} {v1 : ah} {v2 : Bool} {v4 : List (List Int)} {aK : Value} {ak : Nat} {ar au bR : Value}  (M : Cl N x1 v1 v2 v4 = some r) (S : Sep c g h [.bx ak [(.string v1.az), (.string v1.aA), (vi v1.fArgs), (vi v1.aw), (vi v1.ax), ar, au]]) (aM : aa (rL (rI .i64) 1) 1 g aK x1) (av : aa aq.rep 4 g ar v1.ab) (ay : aa aB.rep 3 g au v1.aD) (bN : aa (rL (rI .i64) 1) 1 g bR v4)  (H : cT c R r) : Ll w0 E R aK (aC ak 0) (.bool v2) bR h := by
 unfold Ll
 unfold Cl at M
 exact ⟨N, ajx  H _ M S aM av ay bN ⟩
theorem ajz {w0 : World} [bC w0] {c : Cx} {g h : AH} {E R : Value → W} {r : Bool} {N : Nat} {x1 : List (List Int)} {v2 : Bool} {v1 : ah} {v4 : List (List Int)} {fa : Int} {aK : Value} {ak : Nat} {ar au bR : Value} {lM : Value → W} {mf : Int → Option Bool} {tW : AH} (M : tV N x1 v2 v1 v4 fa mf = some r) (S : Sep c g h [.bx ak [(.string v1.az), (.string v1.aA), (vi v1.fArgs), (vi v1.aw), (vi v1.ax), ar, au]]) (aM : aa (rL (rI .i64) 1) 1 g aK x1) (av : aa aq.rep 4 g ar v1.ab) (ay : aa aB.rep 3 g au v1.aD) (bN : aa (rL (rI .i64) 1) 1 g bR v4) (Ct : Sub tW g) (Cu : ∀ {ag : Int} {g2 h2 : AH}, mf ag = some r → Sub tW g2 → Sep c g2 h2 [.bx ak [(.string v1.az), (.string v1.aA), (vi v1.fArgs), (vi v1.aw), (vi v1.ax), ar, au]] → lM (vi ag) h2) (H : cT c R r) : EP w0 E R aK (.bool v2) (aC ak 0) bR lM (vi fa) h := by
 unfold EP
 unfold tV at M
 refine aM.len ?_
 refine ff.2 ?_
 refine bz (fun hc => ?_) (fun hc => ?_)
 · have M := aV hc M
   exact aix M S aM av ay Ct Cu H
 · have M := aW hc M
   exact ajy M S aM av ay bN H
theorem ajA {w0 : World} [bC w0] {c : Cx} {E R : Value → W} {r : Bool} {N : Nat} {x1 : List (List Int)} {v2 : Bool} {v1 : ah} {v4 : List (List Int)} {aK : Value} {ak : Nat} {ar au bR : Value}   (H : cT c R r) : ∀ (n : Nat) {fa : Int} {g h : AH}, Cm N x1 v2 v1 v4 n fa = some r → Sep c g h [.bx ak [(.string v1.az), (.string v1.aA), (vi v1.fArgs), (vi v1.aw), (vi v1.ax), ar, au]] → aa (rL (rI .i64) 1) 1 g aK x1 → aa aq.rep 4 g ar v1.ab → aa aB.rep 3 g au v1.aD → aa (rL (rI .i64) 1) 1 g bR v4 → eE (α := Value) (fun k a => EP w0 E R aK (.bool v2) (aC ak 0) bR k a) n (vi fa) h := by
 intro n
 induction n with
 | zero =>
  intro fa  g h M S aM av ay bN
  unfold Cm at M; cases M
 | succ n ih =>
  intro fa  g h M S aM av ay bN
  exact ajz M S aM av ay bN  (Sub.refl g) (fun M2 sub S2  => ih M2 S2 (aa.mono aM (je (ej .i64)) sub) (aa.mono av aq.mono sub) (aa.mono ay aB.mono sub) (aa.mono bN (je (ej .i64)) sub) ) H
theorem ajB {w0 : World} [bC w0] {c : Cx} {g h : AH} {E R : Value → W} {r : Bool} {N : Nat} {x1 : List (List Int)} {v2 : Bool} {v1 : ah} {v4 : List (List Int)} {aK : Value} {ak : Nat} {ar au bR : Value}  (M : Cn N x1 v2 v1 v4 = some r) (S : Sep c g h [.bx ak [(.string v1.az), (.string v1.aA), (vi v1.fArgs), (vi v1.aw), (vi v1.ax), ar, au]]) (aM : aa (rL (rI .i64) 1) 1 g aK x1) (av : aa aq.rep 4 g ar v1.ab) (ay : aa aB.rep 3 g au v1.aD) (bN : aa (rL (rI .i64) 1) 1 g bR v4)  (H : cT c R r) : Lo w0 E R aK (.bool v2) (aC ak 0) bR h := by
 unfold Lo
 unfold Cn at M
 exact ⟨N, ajA  H _ M S aM av ay bN ⟩
theorem ajC {w0 : World} [bC w0] {c : Cx} {g h : AH} {E R : Value → W} {r : Bool} {N : Nat} {x1 : List (List Int)} {v1 : ah} {v2 : Bool} {v4 : List (List Int)} {aK : Value} {ak : Nat} {ar au bR : Value}  (M : yU N x1 v1 v2 v4 = some r) (S : Sep c g h [.bx ak [(.string v1.az), (.string v1.aA), (vi v1.fArgs), (vi v1.aw), (vi v1.ax), ar, au]]) (aM : aa (rL (rI .i64) 1) 1 g aK x1) (av : aa aq.rep 4 g ar v1.ab) (ay : aa aB.rep 3 g au v1.aD) (bN : aa (rL (rI .i64) 1) 1 g bR v4)  (H : cT c R r) : Lp w0 E R aK (aC ak 0) (.bool v2) bR h := by
 unfold Lp
 unfold yU at M
 refine aM.len ?_
 refine cb.2 ?_
 refine S.bQ 0 rfl rfl ?_
 refine av.len ?_
 refine ru.2 ?_
 refine bz (fun hc => ?_) (fun hc => ?_)
 · have M := aV hc M
   cases M
   exact H _ _  S.bB
 · have M := aW hc M
   exact ajB M S aM av ay bN H
theorem ajD {w0 : World} [bC w0] {c : Cx} {g h : AH} {E R : Value → W} {r : Bool} {N : Nat} {v4 : List (List Int)} {v1 : ah} {x1 : List (List Int)} {v2 : Bool} {bS : Int} {bR : Value} {ak : Nat} {ar au aK : Value} {iw : Value → W} {gG : Int → Option Bool} {mi : AH} (M : wq N v4 v1 x1 v2 bS gG = some r) (S : Sep c g h [.bx ak [(.string v1.az), (.string v1.aA), (vi v1.fArgs), (vi v1.aw), (vi v1.ax), ar, au]]) (bN : aa (rL (rI .i64) 1) 1 g bR v4) (av : aa aq.rep 4 g ar v1.ab) (ay : aa aB.rep 3 g au v1.aD) (aM : aa (rL (rI .i64) 1) 1 g aK x1) (oL : Sub mi g) (rM : ∀ {ag : Int} {g2 h2 : AH}, gG ag = some r → Sub mi g2 → Sep c g2 h2 [.bx ak [(.string v1.az), (.string v1.aA), (vi v1.fArgs), (vi v1.aw), (vi v1.ax), ar, au]] → iw (vi ag) h2) (H : cT c R r) : ET w0 E R bR (aC ak 0) aK (.bool v2) iw (vi bS) h := by
 unfold ET
 unfold wq at M
 refine bN.len ?_
 refine ff.2 ?_
 refine bz (fun hc => ?_) (fun hc => ?_)
 · have M := aV hc M
   exact aiv M S bN av ay oL rM H
 · have M := aW hc M
   exact ajC M S aM av ay bN H
theorem ajE {w0 : World} [bC w0] {c : Cx} {E R : Value → W} {r : Bool} {N : Nat} {v4 : List (List Int)} {v1 : ah} {x1 : List (List Int)} {v2 : Bool} {bR : Value} {ak : Nat} {ar au aK : Value}   (H : cT c R r) : ∀ (n : Nat) {bS : Int} {g h : AH}, rK N v4 v1 x1 v2 n bS = some r → Sep c g h [.bx ak [(.string v1.az), (.string v1.aA), (vi v1.fArgs), (vi v1.aw), (vi v1.ax), ar, au]] → aa (rL (rI .i64) 1) 1 g bR v4 → aa aq.rep 4 g ar v1.ab → aa aB.rep 3 g au v1.aD → aa (rL (rI .i64) 1) 1 g aK x1 → eE (α := Value) (fun k a => ET w0 E R bR (aC ak 0) aK (.bool v2) k a) n (vi bS) h := by
 intro n
 induction n with
 | zero =>
  intro bS  g h M S bN av ay aM
  unfold rK at M; cases M
 | succ n ih =>
  intro bS  g h M S bN av ay aM
  exact ajD M S bN av ay aM  (Sub.refl g) (fun M2 sub S2  => ih M2 S2 (aa.mono bN (je (ej .i64)) sub) (aa.mono av aq.mono sub) (aa.mono ay aB.mono sub) (aa.mono aM (je (ej .i64)) sub) ) H
theorem ajF {w0 : World} [bC w0] {c : Cx} {g h : AH} {E R : Value → W} {r : Bool} {N : Nat} {v4 : List (List Int)} {v1 : ah} {x1 : List (List Int)} {v2 : Bool} {bR : Value} {ak : Nat} {ar au aK : Value}  (M : yV N v4 v1 x1 v2 = some r) (S : Sep c g h [.bx ak [(.string v1.az), (.string v1.aA), (vi v1.fArgs), (vi v1.aw), (vi v1.ax), ar, au]]) (bN : aa (rL (rI .i64) 1) 1 g bR v4) (av : aa aq.rep 4 g ar v1.ab) (ay : aa aB.rep 3 g au v1.aD) (aM : aa (rL (rI .i64) 1) 1 g aK x1)  (H : cT c R r) : Lw w0 E R bR (aC ak 0) aK (.bool v2) h := by
 unfold Lw
 unfold yV at M
 exact ⟨N, ajE  H _ M S bN av ay aM ⟩
theorem ajG {w0 : World} [bC w0] {c : Cx} {g h : AH} {E R : Value → W} {r : Bool} {N : Nat} {v1 : ah} {x1 : List (List Int)} {v2 : Bool} {ak : Nat} {ar au aK : Value}  (M : Co N v1 x1 v2 = some r) (S : Sep c g h [.bx ak [(.string v1.az), (.string v1.aA), (vi v1.fArgs), (vi v1.aw), (vi v1.ax), ar, au]]) (av : aa aq.rep 4 g ar v1.ab) (ay : aa aB.rep 3 g au v1.aD) (aM : aa (rL (rI .i64) 1) 1 g aK x1)  (H : cT c R r) : Lx w0 E R (aC ak 0) aK (.bool v2) h := by
 unfold Lx
 unfold Co at M
 refine S.cL [(.string v1.az), (.string v1.aA), (vi v1.fArgs), (vi v1.aw), (vi v1.ax), ar, au] 0 rfl rfl rfl (by decide) ?_
 obtain ⟨nO, Qs, M⟩ := bind_some M
 refine ajH Qs S.sub S.ok av ay (fun g h w_8 S1 Zj => ?_)
 have aM := aa.mono aM (je (ej .i64)) S1.bX
 have av := aa.mono av aq.mono S1.bX
 have ay := aa.mono ay aB.mono S1.bX
 have S := S.mc S1
 refine Zj.len ?_
 refine cb.2 ?_
 refine S.bQ 0 rfl rfl ?_
 refine av.len ?_
 refine ru.2 ?_
 refine bz (fun hc => ?_) (fun hc => ?_)
 · have M := aV hc M
   cases M
   exact H _ _  S.bB
 · have M := aW hc M
   exact ajF M S Zj av ay aM H
theorem Zk {w0 : World} [bC w0] {c : Cx} {g h : AH} {E R : Value → W} {r : Bool} {N : Nat} {v2 : Bool} {v1 : ah} {x1 : List (List Int)} {sw : Bool} {ak : Nat} {ar au aK : Value}  (M : Cq N v2 v1 x1 sw = some r) (S : Sep c g h [.bx ak [(.string v1.az), (.string v1.aA), (vi v1.fArgs), (vi v1.aw), (vi v1.ax), ar, au]]) (av : aa aq.rep 4 g ar v1.ab) (ay : aa aB.rep 3 g au v1.aD) (aM : aa (rL (rI .i64) 1) 1 g aK x1)  (H : cT c R r) : Ly w0 E R (.bool v2) (aC ak 0) aK (.bool sw) h := by
 unfold Ly
 unfold Cq at M
 refine bz (fun hc => ?_) (fun hc => ?_)
 · have M := aV hc M
   cases M
   exact H _ _  S.bB
 · have M := aW hc M
   exact ajG M S av ay aM H
theorem acm {w0 : World} [bC w0] {g h : AH} {Q : CR → AH → Prop} {r : Bool} {N : Nat} {x0 : ah} {x1 : List (List Int)} {cj cm aK : Value} (M : HW N x0 x1 = some r) (sg : Sub g h) (ok : h.Ok) (bL : aa aq.rep 4 g cj x0.ab) (cq : aa aB.rep 3 g cm x0.aD) (aM : aa (rL (rI .i64) 1) 1 g aK x1) (H : cT ⟨g, h, []⟩ (fun v => Q (.ret v)) r) : WF PP w0 TO [(.agg ⟨[(.string x0.az), (.string x0.aA), (vi x0.fArgs), (vi x0.aw), (vi x0.ax), cj, cm]⟩), aK] h Q := by
 refine acg _ _ ?_
 have S := Sep.start sg ok
 unfold TN
 unfold HW at M
 refine S.box [(.string x0.az), (.string x0.aA), (vi x0.fArgs), (vi x0.aw), (vi x0.ax), cj, cm] rfl (ae rfl (ae rfl (ae rfl (ae rfl (ae rfl (ae bL.one (ae cq.one rfl))))))) (fun jE h S => ?_)
 obtain ⟨aP, gE, M⟩ := bind_some M
 refine ahe S.sub S.ok gE (fun _ h  S1  => ?_)
 have S := S.cW S1
 refine S.cL [(.string x0.az), (.string x0.aA), (vi x0.fArgs), (vi x0.aw), (vi x0.ax), cj, cm] 0 rfl rfl rfl (by decide) ?_
 obtain ⟨lC, CB, M⟩ := bind_some M
 refine ahA CB S.sub S.ok bL cq (fun _ h  S1  => ?_)
 have S := S.cW S1
 refine fE.2 ?_
 cases hc : (!lC)
 · have M := aW hc M
   refine aH rfl ?_
   refine aH rfl ?_
   refine aM.len ?_
   refine aH rfl ?_
   refine ox.2 ?_
   refine bK.2 ?_
   exact Zk M S bL cq aM H
 · have M := aV hc M
   refine aG (by decide) ?_
   refine aG (by decide) ?_
   refine aG (by decide) ?_
   refine bK.2 ?_
   exact Zk M S bL cq aM H
end
end Go.Ve.T
namespace Go.Ve.T
open Go.Ve
noncomputable section
theorem xc (x a b : Int) : oU x a b = some (decide (a ≤ x ∧ x ≤ b)) := by
 unfold oU
 by_cases h : a ≤ x <;> simp [h]
theorem xd (x a b : Int) : rX x a b = some (decide (a ≤ x ∧ x ≤ b)) := by
 unfold rX
 by_cases h : a ≤ x <;> simp [h]
def Sj (k : Int) : Int := if k = 3 then 11 else if k = 4 then 3 else if k = 5 then 4 else if k = 7 then 5 else if k = 9 then 10 else if k = 10 then 9 else if k = 11 then 12 else if k = 12 then 13 else k
def DJ (op : Int) : cI := bif isOp op then ⟨⟨if op = 20 then 7 else Sj (cJ op).dK.e0, Sj (cJ op).dK.e1, Sj (cJ op).dK.e2⟩, (cJ op).jJ, (cJ op).cX, (cJ op).jK⟩ else ⟨⟨0, 0, 0⟩, 0, ⟨0, 0⟩, false⟩
theorem aaQ (op : Int) : zo op = some (DJ op, isOp op) := by
 cases h : isOp op with
 | true => rcases BO h with rfl | rfl | rfl | rfl | rfl | rfl | rfl | rfl | rfl | rfl | rfl | rfl | rfl | rfl | rfl | rfl | rfl | rfl | rfl | rfl | rfl | rfl | rfl | rfl | rfl | rfl | rfl | rfl | rfl | rfl | rfl | rfl | rfl | rfl <;> rfl
 | false =>
  have hh : ∀ k : Int, 1 ≤ k → k ≤ 34 → decide (op = k) = false := fun k h1 h2 => decide_eq_false fun e => by subst e; unfold isOp at h; rw [decide_eq_false_iff_not] at h; omega
  have e : DJ op = ⟨⟨0, 0, 0⟩, 0, ⟨0, 0⟩, false⟩ := by unfold DJ; rw [h]; rfl
  rw [e]
  unfold zo C2 wX uj zn Ie
  simp [hh, cond_false]
def se {α β : Type} (st : Int → α → Option (Option β)) (fin : Option β) : List α → Int → Option β
 | [], _ => fin
 | a :: r, y => match st y a with
  | some b => b
  | none => se st fin r (y + 1)
theorem sf {α β : Type} (l : List α) (I : Nat → Int → Option β) (st : Int → α → Option (Option β)) (fin : Option β) (hl : l.length < 1000000)
 (step : ∀ n (y : Int) a, y < l.length → ix l y = some a → I (n + 1) y = match st y a with | some b => b | none => I n (bH .i64 (y + 1)))
 (stop : ∀ n, I (n + 1) (l.length : Int) = fin) : ∀ (n i : Nat), i ≤ l.length → l.length < n + i → I n (i : Int) = se st fin (l.drop i) i
 | 0, i, h1, h2 => by omega
 | n + 1, i, h1, h2 => by
  by_cases hi : i < l.length
  · have ea : ix l (i : Int) = some l[i] := List.getElem?_eq_getElem hi
    rw [step n i l[i] (by omega) ea, List.drop_eq_getElem_cons hi]
    show _ = match st i l[i] with | some b => b | none => se st fin (l.drop (i + 1)) ((i : Int) + 1)
    cases st i l[i] with
    | some b => rfl
    | none =>
     show I n (bH .i64 ((i : Int) + 1)) = _
     rw [l4 (by omega) (by omega)]
     have := sf l I st fin hl step stop n (i + 1) hi (by omega)
     rw [show ((i + 1 : Nat) : Int) = (i : Int) + 1 from rfl] at this
     exact this
  · have : i = l.length := by omega
    subst this
    rw [stop, List.drop_length]; rfl
def lJ {α : Type} (p : α → Bool) : List α → Int → Int
 | [], _ => -1
 | a :: r, y => bif p a then y else lJ p r (y + 1)
theorem DK {α : Type} (p : α → Bool) : ∀ (l : List α) (y : Int), se (fun y a => bif p a then some (some y) else none) (some (-1)) l y = some (lJ p l y)
 | [], y => rfl
 | a :: r, y => by
  unfold se lJ
  cases p a with
  | true => rfl
  | false => exact DK p r (y + 1)
theorem aaR {α : Type} (p : α → Bool) : ∀ (l : List α) (y : Int), 0 ≤ y → lJ p l y = -1 ∨ ∃ (k : Nat) (a : α), l[k]? = some a ∧ p a = true ∧ lJ p l y = y + k
 | [], y, _ => .inl rfl
 | a :: r, y, hy => by
  unfold lJ
  cases hp : p a with
  | true => exact .inr ⟨0, a, rfl, hp, (Int.add_zero y).symm⟩
  | false =>
   rcases aaR p r (y + 1) (by omega) with h | ⟨k, b, h1, h2, h3⟩
   · exact .inl h
   · refine .inr ⟨k + 1, b, h1, h2, ?_⟩
     show lJ p r (y + 1) = _
     rw [h3]; omega
def gK (i : aq) : Option Int := if i.aR = 24 then some i.fA else if i.aR = 25 ∨ i.aR = 32 then some i.fB else none
theorem aaS (i : aq) : Ih i = some (match gK i with | some x => (x, true) | none => (0, false)) := by
 unfold Ih Z9 Q9 Z8 gK
 by_cases Sk : i.aR = 24
 · simp [Sk]
 · by_cases h25 : i.aR = 25
   · simp [Sk, h25]
   · by_cases h32 : i.aR = 32 <;> simp [Sk, h25, h32]
theorem aaT (n : Nat) (i : aq) (ho : isOp i.aR = true) : wS (n + 4) i = some (gK i).toList := by
 unfold wS zc gK
 rcases BO ho with h | h | h | h | h | h | h | h | h | h | h | h | h | h | h | h | h | h | h | h | h | h | h | h | h | h | h | h | h | h | h | h | h | h <;> rw [h] <;> rfl
theorem aaU (N : Nat) (l : List aB) (f : aB → Option Bool) (p : aB → Bool) (hf : ∀ a, f a = some (p a)) (hl : l.length < 1000000) (hN : l.length < N) : zh N l f = some (lJ p l 0) := by
 unfold zh
 rw [← DK]
 exact sf l (fun n y => zg N (l.length : Int) l f n y) _ _ hl (fun n y a hy ha => by
  show (bif decide (y < (l.length : Int)) then ((ix l y).bind fun ei => (f ei).bind fun dT => bif dT then some y else zg N (l.length : Int) l f n (bH .i64 (y + 1))) else some (-1)) = _
  rw [decide_eq_true hy, ha]
  show ((f a).bind _) = _
  rw [hf]
  cases p a <;> rfl) (fun n => by
  show (bif decide ((l.length : Int) < (l.length : Int)) then _ else some (-1)) = _
  rw [decide_eq_false (Int.lt_irrefl _)]; rfl) N 0 (Nat.zero_le _) (by omega)
theorem amF (N : Nat) (l : List Int) (f : Int → Option Bool) (p : Int → Bool) (hf : ∀ a, f a = some (p a)) (hl : l.length < 1000000) (hN : l.length < N) : CT N l f = some (lJ p l 0) := by
 unfold CT
 rw [← DK]
 exact sf l (fun n y => ze N (l.length : Int) l f n y) _ _ hl (fun n y a hy ha => by
  show (bif decide (y < (l.length : Int)) then ((ix l y).bind fun ei => (f ei).bind fun dT => bif dT then some y else ze N (l.length : Int) l f n (bH .i64 (y + 1))) else some (-1)) = _
  rw [decide_eq_true hy, ha]
  show ((f a).bind _) = _
  rw [hf]
  cases p a <;> rfl) (fun n => by
  show (bif decide ((l.length : Int) < (l.length : Int)) then _ else some (-1)) = _
  rw [decide_eq_false (Int.lt_irrefl _)]; rfl) N 0 (Nat.zero_le _) (by omega)
theorem IP {α β : Type} (p : α → Bool) (b : β) (fin : Option β) : ∀ (l : List α) (y : Int), se (fun _ a => bif p a then none else some (some b)) fin l y = bif l.all p then fin else some b
 | [], _ => rfl
 | a :: r, y => by
  unfold se
  rw [List.all_cons]
  cases p a with
  | false => rfl
  | true => exact IP p b fin r (y + 1)
theorem Sm {α : Type} (p : α → Bool) (l : List α) : decide (0 ≤ lJ p l 0) = l.any p := by
 have key : ∀ (l : List α) (y : Int), 0 ≤ y → decide (0 ≤ lJ p l y) = l.any p := by
  intro l
  induction l with
  | nil => intro y _; rfl
  | cons a r ih =>
   intro y hy
   unfold lJ
   rw [List.any_cons]
   cases p a with
   | true => exact decide_eq_true hy
   | false => exact ih (y + 1) (by omega)
 exact key l 0 (Int.le_refl 0)
def pe (n : Int) (i : aq) : Bool := isOp i.aR && (match gK i with | some x => decide (0 ≤ x ∧ x ≤ n - 1) | none => true)
def kC (n : Int) (g : aB) : Bool := decide (g.dS < 0) || (decide (g.er ≤ g.dS) || (decide (n < g.er) || !decide (0 ≤ g.ew ∧ g.ew ≤ n - 1)))
def j2 (u : ah) : Bool := decide (1 ≤ (u.ab.length : Int) ∧ (u.ab.length : Int) ≤ 600) && (!decide (40 < (u.aD.length : Int)) && (decide (0 ≤ u.aw ∧ u.aw ≤ 200) && (decide (0 ≤ u.ax ∧ u.ax ≤ 200) && (u.ab.all (pe u.ab.length) && !u.aD.any (kC u.ab.length)))))
theorem amG (n : Int) (hn : bH .i64 (n - 1) = n - 1) (g : aB) : zk g n = some (kC n g) := by
 unfold zk CW CV kC
 rw [xc, hn]
 cases decide (g.dS < 0) <;> cases decide (g.er ≤ g.dS) <;> cases decide (n < g.er) <;> rfl
theorem amH (N : Nat) (hN : 1000 ≤ N) (u : ah) (hl : u.ab.length ≤ 600) (hg : u.aD.length ≤ 40) : CY N u (u.ab.length : Int) = some (u.ab.all (pe u.ab.length) && !u.aD.any (kC u.ab.length)) := by
 have hw : bH .i64 ((u.ab.length : Int) - 1) = (u.ab.length : Int) - 1 := l4 (by omega) (by omega)
 have Sn : zm N u (u.ab.length : Int) = some (!u.aD.any (kC u.ab.length)) := by
  unfold zm Ib
  rw [aaU N u.aD _ (kC u.ab.length) (fun a => amG _ hw a) (by omega) (by omega)]
  show some (!decide (0 ≤ lJ (kC u.ab.length) u.aD 0)) = _
  rw [Sm]
 obtain ⟨n, rfl⟩ : ∃ n, N = n + 4 := ⟨N - 4, by omega⟩
 unfold CY
 have h := sf u.ab (fun m y => CX (n + 4) (u.ab.length : Int) u.ab (u.ab.length : Int) u m y) (fun _ a => bif pe u.ab.length a then none else some (some false)) (some (!u.aD.any (kC u.ab.length))) (by omega)
  (fun m y a hy ha => by
   show (bif decide (y < (u.ab.length : Int)) then ((ix u.ab y).bind fun ig => (some (cJ ig.aR, isOp ig.aR)).bind fun gi => bif (!gi.2) then zl (n + 4) y true u _ else ((wS (n + 4) ig).bind fun vZ => (CU (n + 4) vZ (fun a0 => zj a0 (u.ab.length : Int))).bind fun rV => zl (n + 4) y rV u _)) else _) = _
   rw [decide_eq_true hy, ha]
   simp only [Option.bind_some, cond_true]
   unfold pe
   cases ho : isOp a.aR with
   | false => rfl
   | true =>
    rw [aaT n a ho]
    simp only [Option.bind_some, Bool.not_true, cond_false, Bool.true_and]
    unfold CU
    have hlen : (gK a).toList.length ≤ 1 := by cases gK a <;> simp
    rw [amF (n + 4) _ _ (fun x => !decide (0 ≤ x ∧ x ≤ (u.ab.length : Int) - 1)) (fun x => by unfold zj; rw [xc, hw]; rfl) (by omega) (by omega)]
    simp only [Option.bind_some]
    rw [Sm]
    cases gK a with
    | none => rfl
    | some x =>
     have e1 : ((some x).toList.any fun x => !decide (0 ≤ x ∧ x ≤ (u.ab.length : Int) - 1)) = !decide (0 ≤ x ∧ x ≤ (u.ab.length : Int) - 1) := by simp
     rw [e1]
     dsimp only
     by_cases hd : 0 ≤ x ∧ x ≤ (u.ab.length : Int) - 1
     · rw [decide_eq_true hd]; rfl
     · rw [decide_eq_false hd]; rfl)
  (fun m => by
   show (bif decide ((u.ab.length : Int) < (u.ab.length : Int)) then _ else zm (n + 4) u (u.ab.length : Int)) = _
   rw [decide_eq_false (Int.lt_irrefl _)]; exact Sn) (n + 4) 0 (Nat.zero_le _) (by omega)
 refine h.trans ?_
 rw [List.drop_zero, IP]
 cases u.ab.all (pe u.ab.length) <;> rfl
theorem IQ (N : Nat) (hN : 1000 ≤ N) (u : ah) : uf N u = some (j2 u) := by
 unfold uf j2 C1 C0 CZ
 rw [xc, xc, xc]
 by_cases h1 : 1 ≤ (u.ab.length : Int) ∧ (u.ab.length : Int) ≤ 600
 · rw [decide_eq_true h1]
   by_cases h2 : 40 < (u.aD.length : Int)
   · rw [decide_eq_true h2]; rfl
   · rw [decide_eq_false h2, amH N hN u (by omega) (by omega)]
     cases decide (0 ≤ u.aw ∧ u.aw ≤ 200) <;> cases decide (0 ≤ u.ax ∧ u.ax ≤ 200) <;> rfl
 · rw [decide_eq_false h1]; rfl
theorem amI (N : Nat) (hN : 1000 ≤ N) (u : ah) (hl : u.ab.length ≤ 600) (hg : u.aD.length ≤ 40) : Rh N (u.ab.length : Int) u = some (u.ab.all (pe u.ab.length) && !u.aD.any (kC u.ab.length)) := by
 have hw : bH .i64 ((u.ab.length : Int) - 1) = (u.ab.length : Int) - 1 := l4 (by omega) (by omega)
 have Sn : Im N u (u.ab.length : Int) = some (!u.aD.any (kC u.ab.length)) := by
  unfold Im
  have h := sf u.aD (fun m y => Rf N u (u.ab.length : Int) m y) (fun _ a => bif !kC u.ab.length a then none else some (some false)) (some true) (by omega)
   (fun m y a hy ha => by
    show (bif decide (y < (u.aD.length : Int)) then ((ix u.aD y).bind fun o4 => bif (decide (o4.dS < 0)) then C4 N o4 (u.ab.length : Int) y true u _ else C4 N o4 (u.ab.length : Int) y (decide (o4.er ≤ o4.dS)) u _) else _) = _
    rw [decide_eq_true hy, ha]
    simp only [Option.bind_some, cond_true]
    unfold C4 Re Rb kC
    rw [xd, hw]
    cases decide (a.dS < 0) <;> cases decide (a.er ≤ a.dS) <;> cases decide ((u.ab.length : Int) < a.er) <;> cases decide (0 ≤ a.ew ∧ a.ew ≤ (u.ab.length : Int) - 1) <;> rfl)
   (fun m => by
    show (bif decide ((u.aD.length : Int) < (u.aD.length : Int)) then _ else some true) = _
    rw [decide_eq_false (Int.lt_irrefl _)]; rfl) N 0 (Nat.zero_le _) (by omega)
  refine h.trans ?_
  rw [List.drop_zero, IP]
  have : u.aD.all (fun a => !kC u.ab.length a) = !u.aD.any (kC u.ab.length) := by simp [List.all_eq_not_any_not]
  rw [this]
  cases u.aD.any (kC u.ab.length) <;> rfl
 unfold Rh
 have h := sf u.ab (fun m y => Rg N (u.ab.length : Int) u m y) (fun _ a => bif pe u.ab.length a then none else some (some false)) (some (!u.aD.any (kC u.ab.length))) (by omega)
  (fun m y a hy ha => by
   show (bif decide (y < (u.ab.length : Int)) then Ra N u y (u.ab.length : Int) _ else _) = _
   unfold Ra
   rw [decide_eq_true hy, ha]
   simp only [Option.bind_some, cond_true, aaQ, aaS, xd, hw]
   unfold Ii pe
   cases isOp a.aR with
   | false => rfl
   | true =>
    cases gK a with
    | none => rfl
    | some x =>
     simp only [Bool.not_true, cond_false, cond_true, Bool.true_and]
     cases decide (0 ≤ x ∧ x ≤ (u.ab.length : Int) - 1) <;> rfl)
  (fun m => by
   show (bif decide ((u.ab.length : Int) < (u.ab.length : Int)) then _ else Im N u (u.ab.length : Int)) = _
   rw [decide_eq_false (Int.lt_irrefl _)]; exact Sn) N 0 (Nat.zero_le _) (by omega)
 refine h.trans ?_
 rw [List.drop_zero, IP]
 cases u.ab.all (pe u.ab.length) <;> rfl
theorem aaV (N : Nat) (hN : 1000 ≤ N) (u : ah) : Io N u = some (j2 u) := by
 unfold Io j2 Rk Rj Ri
 rw [xd, xd, xd]
 by_cases h1 : 1 ≤ (u.ab.length : Int) ∧ (u.ab.length : Int) ≤ 600
 · rw [decide_eq_true h1]
   by_cases h2 : 40 < (u.aD.length : Int)
   · rw [decide_eq_true h2]; rfl
   · rw [decide_eq_false h2, amI N hN u (by omega) (by omega)]
     cases decide (0 ≤ u.aw ∧ u.aw ≤ 200) <;> cases decide (0 ≤ u.ax ∧ u.ax ≤ 200) <;> rfl
 · rw [decide_eq_false h1]; rfl
end
end Go.Ve.T
namespace Go.Ve.T
open Go.Ve
noncomputable section
theorem DV {ρ : Type} (len : Nat) (I : Nat → Nat → Option ρ) (F : Option ρ) (step : ∀ n i, i < len → I (n + 1) i = I n (i + 1)) (stop : ∀ n, I (n + 1) len = F) : ∀ n i, i ≤ len → len < n + i → I n i = F
 | 0, i, h1, h2 => by omega
 | n + 1, i, h1, h2 => by
  by_cases hi : i < len
  · rw [step n i hi]; exact DV len I F step stop n (i + 1) hi (by omega)
  · have : i = len := by omega
    subst this; exact stop n
theorem ph (i : Nat) (h : i < 1000000) : bH .i64 ((i : Int) + 1) = ((i + 1 : Nat) : Int) := by rw [l4 (by omega) (by omega)]; rfl
theorem pg (i n : Nat) (h : i < n) : decide ((i : Int) < (n : Int)) = true := decide_eq_true (by omega)
theorem pk (n : Nat) : decide ((n : Int) < (n : Int)) = false := decide_eq_false (Int.lt_irrefl _)
structure xh (u : ah) (ch : List Bool) : Prop where
 pl : j2 u = true
 len : ch.length = u.ab.length
theorem xh.n1 {u : ah} {ch : List Bool} (H : xh u ch) : 1 ≤ u.ab.length ∧ u.ab.length ≤ 600 ∧ u.aD.length ≤ 40 := by
 have := H.pl
 unfold j2 at this
 simp only [Bool.and_eq_true, decide_eq_true_eq, Bool.not_eq_true', decide_eq_false_iff_not] at this
 omega
theorem xh.jmp {u : ah} {ch : List Bool} (H : xh u ch) {i : Nat} {x : aq} (hx : u.ab[i]? = some x) {p : Int} (hp : gK x = some p) : 0 ≤ p ∧ p < u.ab.length := by
 have := H.pl
 unfold j2 at this
 simp only [Bool.and_eq_true] at this
 have h := List.all_eq_true.1 this.2.2.2.2.1 x (List.mem_of_getElem? hx)
 unfold pe at h
 rw [hp] at h
 simp only [Bool.and_eq_true, decide_eq_true_eq] at h
 omega
theorem xh.SC {u : ah} {ch : List Bool} (H : xh u ch) {i : Nat} {g : aB} (hg : u.aD[i]? = some g) : 0 ≤ g.dS ∧ g.dS < g.er ∧ g.er ≤ u.ab.length ∧ 0 ≤ g.ew ∧ g.ew < u.ab.length := by
 have := H.pl
 unfold j2 at this
 simp only [Bool.and_eq_true, Bool.not_eq_true', List.any_eq_false] at this
 have h := this.2.2.2.2.2 g (List.mem_of_getElem? hg)
 unfold kC at h
 simp only [Bool.or_eq_true, decide_eq_true_eq, Bool.not_eq_true', decide_eq_false_iff_not, not_or, Decidable.not_not] at h
 omega
end
end Go.Ve.T
namespace Go.Ve.T
open Go.Ve
noncomputable section
structure eH (u : ah) : Prop where
 pl : j2 u = true
theorem eH.cut {u : ah} (H : eH u) : xh u (List.replicate u.ab.length true) := ⟨H.pl, by simp⟩
theorem eH.n1 {u : ah} (H : eH u) : 1 ≤ u.ab.length ∧ u.ab.length ≤ 600 ∧ u.aD.length ≤ 40 := H.cut.n1
theorem eH.jmp {u : ah} (H : eH u) {i : Nat} {x : aq} (hx : u.ab[i]? = some x) {p : Int} (hp : gK x = some p) : 0 ≤ p ∧ p < u.ab.length := H.cut.jmp hx hp
theorem eH.SC {u : ah} (H : eH u) {i : Nat} {g : aB} (hg : u.aD[i]? = some g) : 0 ≤ g.dS ∧ g.dS < g.er ∧ g.er ≤ u.ab.length ∧ 0 ≤ g.ew ∧ g.ew < u.ab.length := H.cut.SC hg
theorem eH.op {u : ah} (H : eH u) {i : Nat} {x : aq} (hx : u.ab[i]? = some x) : isOp x.aR = true := by
 have := H.pl
 unfold j2 at this
 simp only [Bool.and_eq_true] at this
 have h := List.all_eq_true.1 this.2.2.2.2.1 x (List.mem_of_getElem? hx)
 unfold pe at h
 exact (Bool.and_eq_true_iff.1 h).1
def mv (i : aq) (k : Int) : Int := if k = 1 then i.fA else if k = 2 then i.fB else i.fC
def gY (i : aq) : List Int :=
 (if 0 < (cJ i.aR).cX.e0 ∧ mv i (cJ i.aR).cX.e0 ≠ -1 then [mv i (cJ i.aR).cX.e0] else []) ++ (if 0 < (cJ i.aR).cX.e1 ∧ mv i (cJ i.aR).cX.e1 ≠ -1 then [mv i (cJ i.aR).cX.e1] else [])
def uD (i : aq) : Int := if (cJ i.aR).jJ = 0 then -1 else mv i (cJ i.aR).jJ
theorem aa9 (op : Int) : ((cJ op).cX.e0 = 0 ∨ (cJ op).cX.e0 = 1 ∨ (cJ op).cX.e0 = 2 ∨ (cJ op).cX.e0 = 3) ∧ ((cJ op).cX.e1 = 0 ∨ (cJ op).cX.e1 = 1 ∨ (cJ op).cX.e1 = 2 ∨ (cJ op).cX.e1 = 3) ∧ ((cJ op).jJ = 0 ∨ (cJ op).jJ = 1) ∧ (isOp op = false → cJ op = IN) := by
 cases h : isOp op with
 | true => rcases BO h with h | h | h | h | h | h | h | h | h | h | h | h | h | h | h | h | h | h | h | h | h | h | h | h | h | h | h | h | h | h | h | h | h | h <;> rw [h] <;> refine ⟨by decide, by decide, by decide, fun hh => by cases hh⟩
 | false =>
  have e : cJ op = IN := by unfold cJ; rw [h]; rfl
  rw [e]
  exact ⟨.inl rfl, .inl rfl, .inl rfl, fun _ => rfl⟩
theorem am0 (i : aq) {k : Int} (hk : k = 1 ∨ k = 2 ∨ k = 3) : ix [i.fA, i.fB, i.fC] (bH .i64 (k - 1)) = some (mv i k) := by
 rcases hk with rfl | rfl | rfl <;> rfl
theorem am1 (i : aq) : wR i = some ⟨i.fA, i.fB, i.fC⟩ := rfl
theorem aba (N : Nat) (f : ec) (b : Bool) (i : aq) (l : List Int) (y : Int) (k : Int) (K : List Int → Int → Option (List Int)) (hl : l.length ≤ 2) (hy : ix [f.e0, f.e1] y = some k) (hk : k = 0 ∨ k = 1 ∨ k = 2 ∨ k = 3) :
 wY N f y b i l K = K (l ++ (if b = true ∧ 0 < k ∧ mv i k ≠ -1 then [mv i k] else [])) (bH .i64 (y + 1)) := by
 unfold wY C8 C7 C6
 rw [hy, Option.bind_some]
 have gl : ∀ o : Option (List Int), gu (decide (l.length + [mv i k].length ≤ 1048576)) o = o := fun o => by rw [decide_eq_true (by simp; omega)]; rfl
 cases b with
 | false => simp
 | true =>
  rcases hk with rfl | hk
  · simp
  · have h0 : decide (0 < k) = true := decide_eq_true (by omega)
    rw [h0, am1]
    simp only [cond_true, Option.bind_some, am0 i hk, cond_false, gl]
    by_cases h1 : mv i k = -1
    · rw [decide_eq_true h1]; simp [h1]
    · rw [decide_eq_false h1]; simp [h1, show 0 < k by omega]
theorem Su (N : Nat) (hN : 1000 ≤ N) (i : aq) : tO N i = some (gY i) := by
 obtain ⟨n, rfl⟩ : ∃ n, N = n + 4 := ⟨N - 4, by omega⟩
 obtain ⟨h0, h1, _, hF⟩ := aa9 i.aR
 unfold tO
 show C9 (n + 4) (cJ i.aR).cX (isOp i.aR) i (n + 4) [] 0 = _
 show wY (n + 4) _ 0 _ i [] _ = _
 rw [aba (n + 4) _ _ i [] 0 _ _ (by simp) rfl h0]
 show wY (n + 4) _ 1 _ i _ _ = _
 rw [aba (n + 4) _ _ i _ 1 _ _ (by split <;> simp) rfl h1]
 show some _ = _
 unfold gY
 cases hb : isOp i.aR with
 | true => simp
 | false => rw [hF hb]; rfl
theorem aa3 (i : aq) : vY i = some (uD i) := by
 obtain ⟨_, _, hw, _⟩ := aa9 i.aR
 unfold vY uD
 show (bif decide ((cJ i.aR).jJ = 0) then some (-1) else Db i (cJ i.aR)) = _
 rcases hw with h | h
 · rw [h]; rfl
 · unfold Db
   rw [h]; rfl
def fw (l : List aB) (at_ : Int) : Int := lJ (fun d => decide (d.dS ≤ at_ ∧ at_ < d.er)) l 0
theorem abb (N : Nat) (u : ah) (at_ : Int) (hl : u.aD.length < 1000000) (hN : u.aD.length < N) : zq N u at_ = some (fw u.aD at_) := by
 unfold zq
 rw [aaU N u.aD _ (fun d => decide (d.dS ≤ at_ ∧ at_ < d.er)) (fun d => by unfold C5; by_cases h : d.dS ≤ at_ <;> simp [h]) hl hN]; rfl
theorem abc (N : Nat) (u : ah) (at_ : Int) (hl : u.aD.length < 1000000) (hN : u.aD.length < N) : Iq N u at_ = some (fw u.aD at_) := by
 unfold Iq fw
 rw [← DK]
 exact sf u.aD (fun n y => Dd N u at_ n y) _ _ hl (fun n y a hy ha => by
  show (bif decide (y < (u.aD.length : Int)) then ((ix u.aD y).bind fun aP => bif decide (aP.dS ≤ at_) then ((ix u.aD y).bind fun oG => bif decide (at_ < oG.er) then some y else Dd N u at_ n (bH .i64 (y + 1))) else (bif false then some y else Dd N u at_ n (bH .i64 (y + 1)))) else some (-1)) = _
  rw [decide_eq_true hy, ha]
  by_cases h1 : a.dS ≤ at_ <;> by_cases h2 : at_ < a.er <;> simp [h1, h2]) (fun n => by
  show (bif decide ((u.aD.length : Int) < (u.aD.length : Int)) then _ else some (-1)) = _
  rw [decide_eq_false (Int.lt_irrefl _)]; rfl) N 0 (Nat.zero_le _) (by omega)
abbrev kW (op : Int) : Bool := (cJ op).jY
theorem am2 (i : aq) : Rv i = some (kW i.aR) := by
 unfold Rv Ru Rs
 cases h : isOp i.aR with
 | true => rcases BO h with h | h | h | h | h | h | h | h | h | h | h | h | h | h | h | h | h | h | h | h | h | h | h | h | h | h | h | h | h | h | h | h | h | h <;> rw [h] <;> rfl
 | false =>
  have hh : ∀ k : Int, 1 ≤ k → k ≤ 34 → decide (i.aR = k) = false := fun k h1 h2 => decide_eq_false fun e => by rw [e] at h; unfold isOp at h; rw [decide_eq_false_iff_not] at h; omega
  have e : kW i.aR = false := by unfold kW cJ; rw [h]; rfl
  rw [e, hh 24 (by omega) (by omega), hh 26 (by omega) (by omega), hh 27 (by omega) (by omega), hh 28 (by omega) (by omega)]
  rfl
abbrev kX (i : aq) : Bool := (cJ i.aR).jK
theorem aa8 (i : aq) : yO i = some (kX i) := by
 unfold yO
 rw [aaQ]
 show some (DJ i.aR).ql = _
 unfold DJ kX cJ
 cases isOp i.aR <;> rfl
theorem Sz {l : List aB} {y : Int} (h : 0 ≤ fw l y) : ∃ d, ix l (fw l y) = some d ∧ d ∈ l := by
 unfold fw at *
 rcases aaR (fun d : aB => decide (d.dS ≤ y ∧ y < d.er)) l 0 (Int.le_refl 0) with e | ⟨k, a, h1, _, h3⟩
 · rw [e] at h; omega
 · refine ⟨a, ?_, List.mem_of_getElem? h1⟩
   rw [h3, Int.zero_add, gb]; exact h1
def jN (u : ah) (y : Nat) (i : aq) : List (Int × Int) :=
 (if kW i.aR = false ∧ y + 1 < u.ab.length then [((y : Int) + 1, 0)] else []) ++ ((gK i).toList.map fun x => (x, 1)) ++ (if kX i = true ∧ 0 ≤ fw u.aD y then ((ix u.aD (fw u.aD y)).toList.map fun d => (d.ew, 2)) else [])
theorem Sr {u : ah} (U : eH u) (N : Nat) (hN : 1000 ≤ N) (y : Nat) (hy : y < u.ab.length) : uo N u (y : Int) = some (jN u y u.ab[y]) := by
  have hl := U.n1.2.1
  have hg := U.n1.2.2
  obtain ⟨n, rfl⟩ : ∃ n, N = n + 4 := ⟨N - 4, by omega⟩
  have ho := U.op (List.getElem?_eq_getElem hy)
  unfold uo jN
  rw [gb, List.getElem?_eq_getElem hy, Option.bind_some, aaT n _ ho, Option.bind_some, abb (n + 4) u y (by omega) (by omega), Option.bind_some, l4 (by omega) (by omega)]
  have hlen : decide ((gK u.ab[y]).toList.length ≤ 1000) = true := by cases gK u.ab[y] <;> simp
  rw [hlen]
  show (bif kX u.ab[y] && decide (0 ≤ fw u.aD y) then _ else _) = _
  have e1 : (bif !(cJ u.ab[y].aR).jY && decide ((y : Int) + 1 < (u.ab.length : Int)) then [((y : Int) + 1, (0 : Int))] else []) = (if kW u.ab[y].aR = false ∧ y + 1 < u.ab.length then [((y : Int) + 1, 0)] else []) := by
    by_cases h1 : kW u.ab[y].aR = false
    · have gM : (cJ u.ab[y].aR).jY = false := h1
      by_cases h2 : y + 1 < u.ab.length
      · rw [if_pos ⟨h1, h2⟩, gM, decide_eq_true (by omega)]; rfl
      · rw [if_neg fun h => h2 h.2, gM, decide_eq_false (by omega)]; rfl
    · have gM : (cJ u.ab[y].aR).jY = true := by cases h : (cJ u.ab[y].aR).jY with
        | true => rfl
        | false => exact absurd h h1
      rw [if_neg fun h => h1 h.1, gM]; rfl
  rw [e1]
  generalize (if kW u.ab[y].aR = false ∧ y + 1 < u.ab.length then [((y : Int) + 1, (0 : Int))] else []) = L0
  by_cases hr : kX u.ab[y] = true
  · by_cases hd : 0 ≤ fw u.aD y
    · obtain ⟨d, h1, _⟩ := Sz hd
      rw [if_pos ⟨hr, hd⟩, hr, decide_eq_true hd, h1]; rfl
    · rw [if_neg fun h => hd h.2, hr, decide_eq_false hd, List.append_nil]; rfl
  · have oi : kX u.ab[y] = false := by cases h : kX u.ab[y] with
      | true => exact absurd h hr
      | false => rfl
    rw [if_neg fun h => hr h.1, oi, List.append_nil]; rfl
def si (u : ah) (y : Nat) (i : aq) : List Int :=
 let l := if kW i.aR = false ∧ y + 1 < u.ab.length then [(y : Int) + 1] else []
 match gK i with
 | some x => if x ∈ l then l else l ++ [x]
 | none => l
theorem am3 (N : Nat) (hN : 1000 ≤ N) (l : List Int) (x : Int) (hl : l.length ≤ 1) : zr N l x = some (if x ∈ l then l else l ++ [x]) := by
 obtain ⟨n, rfl⟩ : ∃ n, N = n + 4 := ⟨N - 4, by omega⟩
 match l, hl with
 | [], _ => rfl
 | [a], _ =>
  show Dc (n + 4) [a] 0 x _ = _
  unfold Dc
  show (bif decide (a = x) then some [a] else some ([a] ++ [x])) = _
  by_cases e : a = x
  · subst e; rw [decide_eq_true rfl, if_pos (List.mem_singleton.2 rfl)]; rfl
  · rw [decide_eq_false e, if_neg fun h => e (List.mem_singleton.1 h).symm]; rfl
theorem am4 {u : ah} (U : eH u) (N : Nat) (hN : 1000 ≤ N) (y : Nat) (hy : y < u.ab.length) : Rz N u (y : Int) = some (si u y u.ab[y]) := by
 have hl := U.n1.2.1
 have J1 : ∀ l : List Int, l.length ≤ 1 → Ip N u.ab[y] l = some (match gK u.ab[y] with | some x => if x ∈ l then l else l ++ [x] | none => l) := fun l h => by
  unfold Ip Rx
  rw [aaS, Option.bind_some]
  cases gK u.ab[y] with
  | none => rfl
  | some x =>
   show ((zr N l x).bind _) = _
   rw [am3 N hN l x h]; rfl
 unfold Rz Ry si
 rw [gb, List.getElem?_eq_getElem hy, Option.bind_some, am2, Option.bind_some, l4 (by omega) (by omega)]
 have gu1 : ∀ k : Option (List Int), gu (decide (([] : List Int).length + [(y : Int) + 1].length ≤ 1048576)) k = k := fun k => rfl
 rw [gu1]
 cases he : kW u.ab[y].aR with
 | true =>
  rw [if_neg fun h => by cases h.1]
  exact J1 [] (by simp)
 | false =>
  by_cases h2 : y + 1 < u.ab.length
  · rw [decide_eq_true (show (y : Int) + 1 < (u.ab.length : Int) by omega), if_pos ⟨rfl, h2⟩]
    exact J1 [(y : Int) + 1] (by simp)
  · rw [decide_eq_false (show ¬ (y : Int) + 1 < (u.ab.length : Int) by omega), if_neg fun h => h2 h.2]
    exact J1 [] (by simp)
end
end Go.Ve.T
namespace Go.Ve.T
open Go.Ve
noncomputable section
theorem am5 (N : Nat) (l : List Int) (x : Int) (hl : l.length < 1000000) (hN : l.length < N) : Di N l x = some (decide (x ∈ l)) := by
 have h : Dh N l x = some (lJ (fun a => decide (x = a)) l 0) := by
  unfold Dh
  rw [← DK]
  exact sf l (fun n y => Dg N (l.length : Int) l x n y) _ _ hl (fun n y a hy ha => by
   show (bif decide (y < (l.length : Int)) then Df N l y x _ else _) = _
   unfold Df Is
   rw [decide_eq_true hy, ha]
   show (bif decide (x = a) then some y else _) = _
   cases decide (x = a) <;> rfl) (fun n => by
   show (bif decide ((l.length : Int) < (l.length : Int)) then _ else Iu N) = _
   rw [decide_eq_false (Int.lt_irrefl _)]; rfl) N 0 (Nat.zero_le _) (by omega)
 unfold Di
 rw [h, Option.bind_some, Sm]
 congr 1
 rw [Bool.eq_iff_iff]
 simp
def mX (l : List Int) (x : Int) : List Int := if x ∈ l then l else l ++ [x]
theorem abd (l : List Int) (x : Int) : (mX l x).length ≤ l.length + 1 := by unfold mX; split <;> simp
theorem am6 {l : List Int} {x y : Int} : y ∈ mX l x ↔ y ∈ l ∨ y = x := by
 unfold mX
 split
 · exact ⟨.inl, fun h => h.elim id fun e => e ▸ ‹_›⟩
 · simp
theorem am7 (N : Nat) (l : List Int) (x : Int) (hl : l.length < 1000000) (hN : l.length < N) : zr N l x = some (mX l x) := by
 have key : ∀ (r : List Int) (y : Int), se (fun _ a => bif decide (a = x) then some (some l) else none) (some (l ++ [x])) r y = some (if x ∈ r then l else l ++ [x]) := by
  intro r
  induction r with
  | nil => intro y; rfl
  | cons a r ih =>
   intro y
   unfold se
   by_cases e : a = x
   · rw [decide_eq_true e, if_pos (by rw [e]; exact List.mem_cons_self)]; rfl
   · rw [decide_eq_false e]
     refine (ih (y + 1)).trans ?_
     have : x ∈ a :: r ↔ x ∈ r := by rw [List.mem_cons]; exact ⟨fun h => h.resolve_left fun e' => e e'.symm, .inr⟩
     simp only [this]
 unfold zr
 refine (sf l (fun n y => Rw N l x n y) (fun _ a => bif decide (a = x) then some (some l) else none) (some (l ++ [x])) hl (fun n y a hy ha => by
  show (bif decide (y < (l.length : Int)) then Dc N l y x _ else _) = _
  unfold Dc aai
  rw [decide_eq_true hy, ha]
  show (bif decide (a = x) then some l else _) = _
  cases decide (a = x) <;> rfl) (fun n => by
  show (bif decide ((l.length : Int) < (l.length : Int)) then _ else aaj N x l) = _
  rw [decide_eq_false (Int.lt_irrefl _)]
  show gu (decide (l.length + [x].length ≤ 1048576)) _ = _
  rw [decide_eq_true (by simp; omega)]; rfl) N 0 (Nat.zero_le _) (by omega)).trans ?_
 rw [List.drop_zero, key]; rfl
def ek (u : ah) (y : Nat) (i : aq) : List Int := ((jN u y i).map fun p => p.1).foldl mX []
theorem abe {α σ : Type} (b : σ → α → Option (σ × Fl)) (f : σ → α → σ) (P : Nat → σ → Prop) (h : ∀ n s x, P (n + 1) s → b s x = some (f s x, .go) ∧ P n (f s x)) : ∀ (l : List α) (s : σ), P l.length s → oS b l s = some (l.foldl f s, .go)
 | [], s, _ => rfl
 | x :: l, s, hp => by
  obtain ⟨h1, h2⟩ := h l.length s x hp
  unfold oS
  rw [h1]
  exact abe b f P h l (f s x) h2
theorem SD (u : ah) (y : Nat) (i : aq) : (jN u y i).length ≤ 3 := by
 unfold jN
 simp only [List.length_append, List.length_map]
 have h1 : (if kW i.aR = false ∧ y + 1 < u.ab.length then [((y : Int) + 1, (0 : Int))] else []).length ≤ 1 := by split <;> simp
 have h2 : (gK i).toList.length ≤ 1 := by cases gK i <;> simp
 have h3 : (if kX i = true ∧ 0 ≤ fw u.aD y then ((ix u.aD (fw u.aD y)).toList.map fun d => (d.ew, (2 : Int))) else []).length ≤ 1 := by
  split
  · rw [List.length_map]; cases ix u.aD (fw u.aD y) <;> simp
  · simp
 omega
theorem am8 {u : ah} (U : eH u) (N : Nat) (hN : 1000 ≤ N) (y : Nat) (hy : y < u.ab.length) : Dk N u (y : Int) = some (ek u y u.ab[y]) := by
 unfold Dk
 rw [Sr U N hN y hy, Option.bind_some]
 have hlen := SD u y u.ab[y]
 rw [abe _ (fun s (x : Int × Int) => mX s x.1) (fun n s => s.length + n ≤ 100) (fun n s x hs => by
  refine ⟨?_, by have := abd s x.1; omega⟩
  unfold Dj
  rw [am5 N s x.1 (by omega) (by omega), Option.bind_some]
  unfold mX
  by_cases hm : x.1 ∈ s
  · rw [decide_eq_true hm, if_pos hm]; rfl
  · rw [decide_eq_false hm, if_neg hm]
    show gu (decide (s.length + [x.1].length ≤ 1048576)) _ = _
    rw [decide_eq_true (by simp; omega)]; rfl) _ _ (by simp; omega)]
 show some _ = _
 unfold ek
 rw [List.foldl_map]
theorem am9 (u : ah) (y : Nat) (i : aq) : ek u y i = if kX i = true ∧ 0 ≤ fw u.aD y then (match ix u.aD (fw u.aD y) with | some d => mX (si u y i) d.ew | none => si u y i) else si u y i := by
 have hb : (((if kW i.aR = false ∧ y + 1 < u.ab.length then [((y : Int) + 1, (0 : Int))] else []) ++ ((gK i).toList.map fun x => (x, (1 : Int)))).map (fun p : Int × Int => p.1)).foldl mX [] = si u y i := by
  unfold si
  by_cases h : kW i.aR = false ∧ y + 1 < u.ab.length
  · rw [if_pos h, if_pos h]
    cases gK i with
    | none => rfl
    | some x => rfl
  · rw [if_neg h, if_neg h]
    cases gK i with
    | none => rfl
    | some x => rfl
 unfold ek jN
 rw [List.map_append, List.foldl_append, hb]
 by_cases h : kX i = true ∧ 0 ≤ fw u.aD y
 · rw [if_pos h, if_pos h]
   cases ix u.aD (fw u.aD y) <;> rfl
 · rw [if_neg h, if_neg h]; rfl
theorem ana (u : ah) (y : Nat) (i : aq) : (si u y i).length ≤ 2 := by
 unfold si
 by_cases h : kW i.aR = false ∧ y + 1 < u.ab.length
 · rw [if_pos h]
   cases gK i with
   | none => simp
   | some x => show (if x ∈ [(y : Int) + 1] then [(y : Int) + 1] else [(y : Int) + 1] ++ [x]).length ≤ 2; split <;> simp
 · rw [if_neg h]
   cases gK i with
   | none => simp
   | some x => show (if x ∈ ([] : List Int) then [] else [] ++ [x]).length ≤ 2; split <;> simp
theorem anb {u : ah} (U : eH u) (N : Nat) (hN : 1000 ≤ N) (y : Nat) (hy : y < u.ab.length) : RC N u (y : Int) = some (ek u y u.ab[y]) := by
 have hg := U.n1.2.2
 have hb := ana u y u.ab[y]
 unfold RC RB RA
 rw [am4 U N hN y hy, Option.bind_some, abc N u y (by omega) (by omega), Option.bind_some, gb, List.getElem?_eq_getElem hy, Option.bind_some, aa8, Option.bind_some, am9]
 cases hr : kX u.ab[y] with
 | false => rw [if_neg fun h => by cases h.1]; rfl
 | true =>
  by_cases hd : 0 ≤ fw u.aD y
  · obtain ⟨d, h1, _⟩ := Sz hd
    rw [decide_eq_true hd, if_pos ⟨rfl, hd⟩, h1]
    simp only [cond_true, Option.bind_some]
    rw [am7 N _ _ (by omega) (by omega)]; rfl
  · rw [decide_eq_false hd, if_neg fun h => hd h.2]; rfl
def zF (u : ah) (x : Int) : Bool := decide (0 ≤ x ∧ x ≤ (u.ab.length : Int) - 1)
def DT (u : ah) (x : Int) : List Int := bif j2 u && zF u x then (match u.ab[x.toNat]? with | some i => ek u x.toNat i | none => []) else []
theorem amQ (N : Nat) (hN : 1000 ≤ N) (u : ah) (x : Int) : B6 N u x = some (DT u x) ∧ aan N u x = some (DT u x) := by
 unfold B6 aan DT
 rw [IQ N hN, aaV N hN, Option.bind_some, Option.bind_some]
 cases hp : j2 u with
 | false => exact ⟨rfl, rfl⟩
 | true =>
  have U : eH u := ⟨hp⟩
  have hn := U.n1
  simp only [Bool.not_true, cond_false, Bool.true_and]
  rw [xc, xd, l4 (by omega) (by omega), Option.bind_some, Option.bind_some]
  unfold zF Dl RD aam
  by_cases hx : 0 ≤ x ∧ x ≤ (u.ab.length : Int) - 1
  · rw [decide_eq_true hx]
    obtain ⟨y, rfl⟩ := Int.eq_ofNat_of_zero_le hx.1
    have hy : y < u.ab.length := by omega
    simp only [Bool.not_true, cond_false, cond_true, Int.toNat_natCast, List.getElem?_eq_getElem hy]
    rw [am8 U N hN y hy, anb U N hN y hy]
    exact ⟨rfl, rfl⟩
  · rw [decide_eq_false hx]; exact ⟨rfl, rfl⟩
def DU (u : ah) (x : Int) : Int := bif j2 u && zF u x then fw u.aD x else -1
theorem amR (N : Nat) (hN : 1000 ≤ N) (u : ah) (x : Int) : B7 N u x = some (DU u x) ∧ aap N u x = some (DU u x) := by
 unfold B7 aap DU
 rw [IQ N hN, aaV N hN, Option.bind_some, Option.bind_some]
 cases hp : j2 u with
 | false => exact ⟨rfl, rfl⟩
 | true =>
  have U : eH u := ⟨hp⟩
  have hn := U.n1
  simp only [Bool.not_true, cond_false, Bool.true_and]
  rw [xc, xd, l4 (by omega) (by omega), Option.bind_some, Option.bind_some]
  unfold zF De RE Ir aao
  rw [abb N u x (by omega) (by omega), abc N u x (by omega) (by omega)]
  cases decide (0 ≤ x ∧ x ≤ (u.ab.length : Int) - 1) <;> exact ⟨rfl, rfl⟩
end
end Go.Ve.T
namespace Go.Ve.T
open Go.Ve
open Classical
noncomputable section
theorem abf {y : Int} : ∀ {l s : List Int}, y ∈ l.foldl mX s ↔ y ∈ s ∨ y ∈ l
 | [], s => by simp
 | x :: l, s => by
  rw [List.foldl_cons, abf, am6, List.mem_cons]
  constructor
  · rintro ((h | h) | h) <;> simp [h]
  · rintro (h | h | h) <;> simp [h]
theorem DQ {u : ah} {y : Nat} {i : aq} {x : Int} : x ∈ ek u y i ↔ ∃ k, (x, k) ∈ jN u y i := by
 unfold ek
 rw [abf]
 constructor
 · rintro (h | h)
   · cases h
   · obtain ⟨p, h1, rfl⟩ := List.mem_map.1 h
     exact ⟨p.2, h1⟩
 · rintro ⟨k, h⟩
   exact .inr (List.mem_map.2 ⟨_, h, rfl⟩)
theorem DN {u : ah} (U : eH u) {y : Nat} {i : aq} (hi : u.ab[y]? = some i) {p : Int × Int} (h : p ∈ jN u y i) : 0 ≤ p.1 ∧ p.1 < u.ab.length := by
 have hy := (List.getElem?_eq_some_iff.1 hi).1
 unfold jN at h
 rcases List.mem_append.1 h with h | h
 · rcases List.mem_append.1 h with h | h
   · split at h
     · have := List.mem_singleton.1 h; subst this
       have := ‹kW i.aR = false ∧ y + 1 < u.ab.length›.2
       exact ⟨by show 0 ≤ (y : Int) + 1; omega, by show (y : Int) + 1 < _; omega⟩
     · cases h
   · obtain ⟨x, h1, rfl⟩ := List.mem_map.1 h
     exact U.jmp hi (by simpa using h1)
 · split at h
   · obtain ⟨d, h1, rfl⟩ := List.mem_map.1 h
     have h2 : ix u.aD (fw u.aD y) = some d := by simpa using h1
     obtain ⟨k, _, _, h3⟩ := HY h2
     have := U.SC h3
     exact ⟨this.2.2.2.1, this.2.2.2.2⟩
   · cases h
theorem amT {u : ah} (U : eH u) {y : Nat} {i : aq} (hi : u.ab[y]? = some i) {x : Int} (h : x ∈ ek u y i) : 0 ≤ x ∧ x < u.ab.length := by
 obtain ⟨k, h⟩ := DQ.1 h
 exact DN U hi h
inductive xi (u : ah) : Nat → Prop where
 | zero : xi u 0
 | step {a b : Nat} {i : aq} (h : xi u a) (hi : u.ab[a]? = some i) (hb : (b : Int) ∈ ek u a i) : xi u b
def IV (u : ah) : List Bool := (List.range u.ab.length).map fun i => decide (xi u i)
structure Fin (u : ah) (v : List Bool) : Prop where
 len : v.length = u.ab.length
 sound : ∀ i, v[i]? = some true → xi u i
 zero : v[0]? = some true
 closed : ∀ (a b : Nat) i, v[a]? = some true → u.ab[a]? = some i → (b : Int) ∈ ek u a i → v[b]? = some true
theorem Fin.eq {u : ah} {v : List Bool} (H : Fin u v) : v = IV u := by
 have hr : ∀ i, xi u i → v[i]? = some true := by
  intro i h
  induction h with
  | zero => exact H.zero
  | step h hi hb ih => exact H.closed _ _ _ ih hi hb
 refine List.ext_getElem? fun i => ?_
 unfold IV
 rw [List.getElem?_map]
 by_cases hi : i < u.ab.length
 · have nq : i < v.length := by rw [H.len]; exact hi
   rw [List.getElem?_range hi, List.getElem?_eq_getElem nq]
   show some _ = some _
   congr 1
   have e : v[i]? = some v[i] := List.getElem?_eq_getElem nq
   cases hv : v[i] with
   | true => exact (decide_eq_true (H.sound i (by rw [e, hv]))).symm
   | false => exact (decide_eq_false fun h => by have := hr i h; rw [e, hv] at this; cases this).symm
 · rw [List.getElem?_eq_none (by rw [H.len]; omega), List.getElem?_eq_none (by simp; omega)]; rfl
def lK (v : List Bool) : Nat := v.count false
theorem SE : ∀ {v : List Bool} {k : Nat}, v[k]? = some false → lK (v.set k true) + 1 = lK v
 | [], k, h => by simp at h
 | b :: v, 0, h => by
  have : b = false := by simpa using h
  subst this
  simp [lK]
 | b :: v, k + 1, h => by
  have := SE (v := v) (k := k) (by simpa using h)
  unfold lK at this ⊢
  rw [List.set_cons_succ, List.count_cons, List.count_cons]
  omega
theorem c7 {v : List Bool} {k j : Nat} (hk : k < v.length) : (v.set k true)[j]? = some true ↔ v[j]? = some true ∨ j = k := by
 rw [List.getElem?_set]
 by_cases e : k = j
 · subst e; simp [hk]
 · rw [if_neg e]
   exact ⟨.inl, fun h => h.resolve_right fun e' => e e'.symm⟩
theorem abg {v : List Bool} {k : Nat} (hk : k < v.length) (h : v[k]? ≠ some true) : v[k]? = some false := by
 rw [List.getElem?_eq_getElem hk] at h ⊢
 cases hv : v[k] with
 | true => rw [hv] at h; exact absurd rfl h
 | false => rfl
def mark (s : List Bool × List Int) (x : Int) : List Bool × List Int := if s.1[x.toNat]? = some true then s else (s.1.set x.toNat true, s.2 ++ [x])
structure MF (n : Nat) (v0 : List Bool) (o0 xs : List Int) (s : List Bool × List Int) : Prop where
 len : s.1.length = n
 iff : ∀ j : Nat, s.1[j]? = some true ↔ v0[j]? = some true ∨ (j : Int) ∈ xs
 sub : ∀ z ∈ o0, z ∈ s.2
 op : ∀ z ∈ s.2, z ∈ o0 ∨ z ∈ xs
 new : ∀ j : Nat, s.1[j]? = some true → v0[j]? = some true ∨ (j : Int) ∈ s.2
 SF : s.2.length + lK s.1 = o0.length + lK v0
theorem abh {n : Nat} {v0 : List Bool} {o0 : List Int} : ∀ (xs done : List Int) (s : List Bool × List Int), MF n v0 o0 done s → (∀ x ∈ xs, 0 ≤ x ∧ x < n) → MF n v0 o0 (done ++ xs) (xs.foldl mark s)
  | [], done, s, H, _ => by rw [List.append_nil]; exact H
  | x :: xs, done, s, H, hx => by
    have hx0 := hx x List.mem_cons_self
    obtain ⟨k, rfl⟩ := Int.eq_ofNat_of_zero_le hx0.1
    have hk : k < s.1.length := by rw [H.len]; omega
    have H2 : MF n v0 o0 (done ++ [(k : Int)]) (mark s (k : Int)) := by
      unfold mark
      rw [Int.toNat_natCast]
      by_cases h : s.1[k]? = some true
      · rw [if_pos h]
        refine ⟨H.len, fun j => ?_, H.sub, fun z hz => ?_, H.new, H.SF⟩
        · rw [H.iff j, List.mem_append]
          constructor
          · rintro (h | h) <;> simp [h]
          · rintro (h' | h' | h')
            · exact .inl h'
            · exact .inr h'
            · have : (j : Int) = (k : Int) := by simpa using h'
              have : j = k := by omega
              subst this; exact (H.iff j).1 h
        · rcases H.op z hz with h | h
          · exact .inl h
          · exact .inr (List.mem_append_left _ h)
      · rw [if_neg h]
        refine ⟨by simpa using H.len, fun j => ?_, fun z hz => List.mem_append_left _ (H.sub z hz), fun z hz => ?_, fun j hj => ?_, ?_⟩
        · show (s.1.set k true)[j]? = some true ↔ _
          rw [c7 hk, H.iff j, List.mem_append]
          constructor
          · rintro ((h | h) | h)
            · exact .inl h
            · exact .inr (.inl h)
            · subst h; exact .inr (.inr (by simp))
          · rintro (h | h | h)
            · exact .inl (.inl h)
            · exact .inl (.inr h)
            · exact .inr (by have : (j : Int) = (k : Int) := by simpa using h
                             omega)
        · rcases List.mem_append.1 hz with hz | hz
          · rcases H.op z hz with h | h
            · exact .inl h
            · exact .inr (List.mem_append_left _ h)
          · exact .inr (List.mem_append_right _ hz)
        · rcases (c7 hk).1 hj with h | h
          · rcases H.new j h with h | h
            · exact .inl h
            · exact .inr (List.mem_append_left _ h)
          · subst h; exact .inr (List.mem_append_right _ (by simp))
        · have := SE (abg hk h)
          have := H.SF
          show (s.2 ++ [(k : Int)]).length + lK (s.1.set k true) = _
          rw [List.length_append]
          simp
          omega
    have := abh xs (done ++ [(k : Int)]) (mark s k) H2 fun y hy => hx y (List.mem_cons_of_mem _ hy)
    rwa [List.append_assoc] at this
theorem Ss {α σ : Type} (b : σ → α → Option (σ × Fl)) (f : σ → α → σ) (l0 : List α) (P : Nat → σ → Prop) (h : ∀ n s x, x ∈ l0 → P (n + 1) s → b s x = some (f s x, .go) ∧ P n (f s x)) : ∀ (l : List α) (s : σ), (∀ x ∈ l, x ∈ l0) → P l.length s → oS b l s = some (l.foldl f s, .go)
 | [], s, _, _ => rfl
 | x :: l, s, hm, hp => by
  obtain ⟨h1, h2⟩ := h l.length s x (hm x List.mem_cons_self) hp
  unfold oS
  rw [h1]
  exact Ss b f l0 P h l (f s x) (fun y hy => hm y (List.mem_cons_of_mem _ hy)) h2
structure Wk (u : ah) (op : List Int) (v : List Bool) : Prop where
 len : v.length = u.ab.length
 sound : ∀ i, v[i]? = some true → xi u i
 zero : v[0]? = some true
 ops : ∀ z ∈ op, 0 ≤ z ∧ z < u.ab.length ∧ v[z.toNat]? = some true
 closed : ∀ (a b : Nat) i, v[a]? = some true → (a : Int) ∉ op → u.ab[a]? = some i → (b : Int) ∈ ek u a i → v[b]? = some true
theorem anc {u : ah} (U : eH u) (N : Nat) (hN : 1000 ≤ N) {p : List Int} {c : Int} {v3 v : List Bool} (H : Wk u (p ++ [c]) v) (hlen : (p ++ [c]).length + lK v ≤ 700) (K : List Int → List Bool → List Bool → Option (List Bool)) :
    ∃ DX v', zu N (p ++ [c]) u (fun a0 a1 a2 => uw a0 a1 a2) v3 v K = K DX v3 v' ∧ Wk u DX v' ∧ DX.length + lK v' + 1 = (p ++ [c]).length + lK v := by
  obtain ⟨hc1, yi, hcv⟩ := H.ops c (by simp)
  obtain ⟨y, rfl⟩ := Int.eq_ofNat_of_zero_le hc1
  have hy : y < u.ab.length := by omega
  have hi : u.ab[y]? = some u.ab[y] := List.getElem?_eq_getElem hy
  rw [Int.toNat_natCast] at hcv
  have Mr := SD u y u.ab[y]
  have ke : (p ++ [(y : Int)]).length = p.length + 1 := by simp
  generalize jS : (jN u y u.ab[y]).map (fun q : Int × Int => q.1) = xs
  have abj : ∀ x ∈ xs, 0 ≤ x ∧ x < (u.ab.length : Nat) := fun x hx => by
    subst jS
    obtain ⟨q, h1, rfl⟩ := List.mem_map.1 hx
    exact DN U hi h1
  have F : MF u.ab.length v p ([] ++ xs) (xs.foldl mark (v, p)) := abh xs [] (v, p) ⟨H.len, fun j => by simp, fun z hz => hz, fun z hz => .inl hz, fun j hj => .inl hj, rfl⟩ abj
  rw [List.nil_append] at F
  refine ⟨(xs.foldl mark (v, p)).2, (xs.foldl mark (v, p)).1, ?_, ⟨F.len, fun i hv => ?_, (F.iff 0).2 (.inl H.zero), fun z hz => ?_, fun a b i ha IW dO hb => ?_⟩, ?_⟩
  · unfold zu
    have e1 : bH .i64 (((p ++ [(y : Int)]).length : Int) - 1) = (p.length : Int) := by rw [l4 (by omega) (by omega), ke]; omega
    have e2 : ix (p ++ [(y : Int)]) (p.length : Int) = some (y : Int) := by rw [gb]; simp
    have e3 : CJ (p ++ [(y : Int)]) 0 (p.length : Int) = some p := by
      unfold CJ
      rw [decide_eq_true (show (0 : Int) ≤ 0 by omega), decide_eq_true (show (0 : Int) ≤ (p.length : Int) by omega), decide_eq_true (show (p.length : Int) ≤ ((p ++ [(y : Int)]).length : Int) by rw [ke]; omega)]
      simp [gu]
    rw [e1, e2, Option.bind_some, e3, Option.bind_some, Sr U N hN y hy, Option.bind_some]
    rw [Ss _ (fun (s : List Bool × List Bool × List Int) (x : Int × Int) => (s.1, mark s.2 x.1)) (jN u y u.ab[y]) (fun n s => s.2.1.length = u.ab.length ∧ s.2.2.length + n ≤ 1000) (fun n s x hx hs => by
      obtain ⟨h1, h2⟩ := DN U hi hx
      obtain ⟨k, hk⟩ := Int.eq_ofNat_of_zero_le h1
      rw [hk] at h2
      have MC : k < s.2.1.length := by rw [hs.1]; omega
      unfold Dp uw Ix mark
      rw [hk]
      simp only [Option.bind_some, Bool.not_true, cond_false, gb, Int.toNat_natCast]
      by_cases hv : s.2.1[k]? = some true
      · rw [hv, if_pos rfl]; exact ⟨rfl, hs.1, by omega⟩
      · have hf := abg MC hv
        rw [if_neg hv, hf]
        simp only [Option.bind_some, Bool.not_false, cond_true]
        rw [decide_eq_true (show s.2.2.length + [(k : Int)].length ≤ 1048576 by simp; omega)]
        exact ⟨rfl, by simpa using hs.1, by show (s.2.2 ++ [(k : Int)]).length + n ≤ 1000; rw [List.length_append]; simp; omega⟩) _ _ (fun x hx => hx) ⟨H.len, by show p.length + _ ≤ 1000; omega⟩]
    have e4 : ∀ (l : List (Int × Int)) (s : List Bool × List Bool × List Int), l.foldl (fun (s : List Bool × List Bool × List Int) (x : Int × Int) => (s.1, mark s.2 x.1)) s = (s.1, (l.map fun q : Int × Int => q.1).foldl mark s.2) := by
      intro l
      induction l with
      | nil => intro s; rfl
      | cons x l ih => intro s; rw [List.foldl_cons, ih]; rfl
    rw [e4, jS]
    rfl
  · rcases (F.iff i).1 hv with h | h
    · exact H.sound i h
    · exact .step (H.sound y hcv) hi (DQ.2 (by
        subst jS
        obtain ⟨q, h1, h2⟩ := List.mem_map.1 h
        exact ⟨q.2, by rw [← h2]; exact h1⟩))
  · rcases F.op z hz with h | h
    · obtain ⟨h1, h2, h3⟩ := H.ops z (List.mem_append_left _ h)
      exact ⟨h1, h2, (F.iff _).2 (.inl h3)⟩
    · have h1 := abj z h
      exact ⟨h1.1, h1.2, (F.iff _).2 (.inr (by rw [Int.toNat_of_nonneg h1.1]; exact h))⟩
  · rcases F.new a ha with h | h
    · by_cases hap : (a : Int) ∈ p ++ [(y : Int)]
      · rcases List.mem_append.1 hap with h' | h'
        · exact absurd (F.sub _ h') IW
        · have : (a : Int) = (y : Int) := by simpa using h'
          have : a = y := by omega
          subst this
          rw [hi] at dO; cases dO
          refine (F.iff b).2 (.inr ?_)
          obtain ⟨k, hk⟩ := DQ.1 hb
          subst jS
          exact List.mem_map.2 ⟨_, hk, rfl⟩
      · exact (F.iff b).2 (.inl (H.closed a b i h hap dO hb))
    · exact absurd h IW
  · have := F.SF
    rw [ke]
    show (xs.foldl mark (v, p)).2.length + lK (xs.foldl mark (v, p)).1 + 1 = _
    omega
theorem abk {u : ah} (U : eH u) (N : Nat) (hN : 1000 ≤ N) : ∀ (n : Nat) (op : List Int) (v3 v : List Bool), Wk u op v → op.length + lK v < n → op.length + lK v ≤ 700 → zv N u (fun a0 a1 a2 => uw a0 a1 a2) n op v3 v = some (IV u)
 | 0, op, v3, v, H, h, _ => by omega
 | n + 1, op, v3, v, H, h, h7 => by
  show Dq N op u _ v3 v _ = _
  unfold Dq Iy
  rcases List.eq_nil_or_concat op with rfl | ⟨p, c, rfl⟩
  · show some v = _
    rw [Fin.eq ⟨H.len, H.sound, H.zero, fun a b i ha dO hb => H.closed a b i ha (by simp) dO hb⟩]
  · rw [List.concat_eq_append] at H h h7 ⊢
    have e : (p ++ [c]).length = p.length + 1 := by simp
    rw [decide_eq_true (show 0 < ((p ++ [c]).length : Int) by omega)]
    obtain ⟨DX, v', h1, h2, h3⟩ := anc U N hN H (v3 := v3) h7 (fun sa lG lH => zv N u (fun a0 a1 a2 => uw a0 a1 a2) n sa lG lH)
    show zu N _ u _ v3 v _ = _
    rw [h1]
    exact abk U N hN n DX v3 v' h2 (by omega) (by omega)
theorem ane (n : Nat) (hn : 1 ≤ n) (i : Nat) : ((List.replicate n false).set 0 true)[i]? = some true ↔ i = 0 := by
 rw [c7 (by rw [List.length_replicate]; omega)]
 constructor
 · rintro (h | h)
   · rw [List.getElem?_replicate] at h; split at h <;> cases h
   · exact h
 · exact .inr
theorem anf (n : Nat) (hn : 1 ≤ n) : lK ((List.replicate n false).set 0 true) + 1 = n := by
 rw [SE (by rw [List.getElem?_replicate, if_pos (by omega)])]
 simp [lK]
def Sw (u : ah) : List Bool := bif j2 u then IV u else []
theorem amP (N : Nat) (hN : 1000 ≤ N) (u : ah) : BX N u = some (Sw u) := by
 unfold BX Sw
 rw [IQ N hN, Option.bind_some]
 cases hp : j2 u with
 | false => rfl
 | true =>
  have U : eH u := ⟨hp⟩
  have hn := U.n1
  show ((Dr N u _).bind _) = _
  unfold Dr
  rw [decide_eq_true (show (0 : Int) ≤ (u.ab.length : Int) by omega), decide_eq_true (show (u.ab.length : Int) ≤ 65536 by omega)]
  have e0 : ix (List.replicate (u.ab.length : Int).toNat false) 0 = some false := by
   show (List.replicate (u.ab.length : Int).toNat false)[0]? = _
   rw [Int.toNat_natCast, List.getElem?_replicate, if_pos (by omega)]
  show ((ix (List.replicate (u.ab.length : Int).toNat false) 0).bind _).bind _ = _
  rw [e0, Option.bind_some, Int.toNat_natCast]
  have hu := anf u.ab.length hn.1
  have g := ane u.ab.length hn.1
  rw [show ((0 : Int).toNat) = 0 from rfl]
  rw [abk U N hN N [0] [] _ ⟨by simp, fun i hi => by rw [(g i).1 hi]; exact .zero, (g 0).2 rfl, fun z hz => by
   obtain rfl := List.mem_singleton.1 hz
   exact ⟨by omega, by omega, (g 0).2 rfl⟩, fun a b i ha IW _ _ => by
   have := (g a).1 ha
   subst this
   exact absurd (by simp) IW⟩ (by show 1 + _ < N; omega) (by show 1 + _ ≤ 700; omega)]
  rfl
end
end Go.Ve.T
namespace Go.Ve.T
open Go.Ve
open Classical
noncomputable section
theorem amS (u : ah) (y : Nat) (i : aq) : (ek u y i).length ≤ 3 := by
 have h := SD u y i
 unfold ek
 have key : ∀ (l s : List Int), (l.foldl mX s).length ≤ s.length + l.length := by
  intro l
  induction l with
  | nil => intro s; simp
  | cons x l ih => intro s; rw [List.foldl_cons]; have := ih (mX s x); have := abd s x; simp; omega
 have := key ((jN u y i).map fun p => p.1) []
 simp at this
 omega
end
end Go.Ve.T
namespace Go.Ve.T
open Go.Ve
open Classical
noncomputable section
theorem amJ {u : ah} {y : Nat} {i : aq} {x k : Int} : (x, k) ∈ jN u y i ↔ (kW i.aR = false ∧ y + 1 < u.ab.length ∧ x = (y : Int) + 1 ∧ k = 0) ∨ (gK i = some x ∧ k = 1) ∨ (kX i = true ∧ 0 ≤ fw u.aD y ∧ ∃ d, ix u.aD (fw u.aD y) = some d ∧ d.ew = x ∧ k = 2) := by
 unfold jN
 rw [List.mem_append, List.mem_append, or_assoc]
 refine or_congr ?_ (or_congr ?_ ?_)
 · split
   · rw [List.mem_singleton, Prod.mk.injEq]
     have h := ‹kW i.aR = false ∧ y + 1 < u.ab.length›
     exact ⟨fun e => ⟨h.1, h.2, e⟩, fun e => e.2.2⟩
   · next hc => exact ⟨fun h => (by cases h), fun h => absurd ⟨h.1, h.2.1⟩ hc⟩
 · rw [List.mem_map]
   constructor
   · rintro ⟨z, h, e⟩
     obtain ⟨rfl, rfl⟩ := Prod.mk.inj e
     exact ⟨by simpa using h, rfl⟩
   · rintro ⟨h, rfl⟩
     exact ⟨x, by simpa using h, rfl⟩
 · split
   · rw [List.mem_map]
     have h := ‹kX i = true ∧ 0 ≤ fw u.aD y›
     constructor
     · rintro ⟨d, h1, e⟩
       obtain ⟨h2, h3⟩ := Prod.mk.inj e
       exact ⟨h.1, h.2, d, by simpa using h1, h2, h3.symm⟩
     · rintro ⟨_, _, d, h1, rfl, rfl⟩
       exact ⟨d, by simpa using h1, rfl⟩
   · next hc => exact ⟨fun h => (by cases h), fun h => absurd ⟨h.1, h.2.1⟩ hc⟩
end
end Go.Ve.T
namespace Go.Ve.T
open Go.Ve
open Classical
noncomputable section
inductive nX (u : ah) : Nat → Int → Prop where
 | read {y : Nat} {i : aq} {s : Int} (hi : u.ab[y]? = some i) (hs : s ∈ gY i) : nX u y s
 | lead {y : Nat} {i : aq} {x : Int × Int} {s : Int} (hi : u.ab[y]? = some i) (hx : x ∈ jN u y i) (hw : x.2 = 2 ∨ s ≠ uD i) (hs : nX u x.1.toNat s) : nX u y s
theorem IS (i : aq) : (gY i).length ≤ 2 := by
 unfold gY
 rw [List.length_append]
 have h1 : (if 0 < (cJ i.aR).cX.e0 ∧ mv i (cJ i.aR).cX.e0 ≠ -1 then [mv i (cJ i.aR).cX.e0] else []).length ≤ 1 := by split <;> simp
 have h2 : (if 0 < (cJ i.aR).cX.e1 ∧ mv i (cJ i.aR).cX.e1 ≠ -1 then [mv i (cJ i.aR).cX.e1] else []).length ≤ 1 := by split <;> simp
 omega
def univ (u : ah) : List Int := u.ab.foldr (fun i s => fh (gY i) s) []
theorem aaW (x : Int) : ∀ l : List Int, (jh x l).length ≤ l.length + 1
 | [] => by simp [jh]
 | y :: l => by
  unfold jh
  cases decide (x < y) with
  | true => simp
  | false => cases decide (x = y) with
   | true => simp
   | false => have := aaW x l; simp; omega
theorem aaX : ∀ (xs l : List Int), (fh xs l).length ≤ l.length + xs.length
 | [], l => by simp [fh]
 | x :: xs, l => by
  have h1 := aaX xs (jh x l)
  have h2 := aaW x l
  show (fh xs (jh x l)).length ≤ _
  simp; omega
theorem zD : ∀ c : List aq, eb (c.foldr (fun i s => fh (gY i) s) []) ∧ (c.foldr (fun i s => fh (gY i) s) []).length ≤ 2 * c.length ∧ ∀ i ∈ c, ∀ s ∈ gY i, s ∈ c.foldr (fun i s => fh (gY i) s) []
 | [] => ⟨.nil, Nat.le_refl _, fun i h => by cases h⟩
 | i :: c => by
  obtain ⟨h1, h2, h3⟩ := zD c
  refine ⟨yY h1, ?_, fun j hj s hs => yX.2 ?_⟩
  · have h4 := aaX (gY i) (c.foldr (fun i s => fh (gY i) s) [])
    have h5 := IS i
    show (fh (gY i) _).length ≤ _
    simp; omega
  · rcases List.mem_cons.1 hj with rfl | hj
    · exact .inl hs
    · exact .inr (h3 j hj s hs)
theorem nX.univ {u : ah} {y : Nat} {s : Int} (h : nX u y s) : s ∈ univ u := by
 induction h with
 | read hi hs => exact (zD u.ab).2.2 _ (List.mem_of_getElem? hi) _ hs
 | lead hi hx hw hs ih => exact ih
def iE (u : ah) (y : Nat) : List Int := (univ u).filter fun s => decide (nX u y s)
theorem IT {u : ah} {y : Nat} {s : Int} : s ∈ iE u y ↔ nX u y s := by
 unfold iE
 rw [List.mem_filter]
 exact ⟨fun h => of_decide_eq_true h.2, fun h => ⟨h.univ, decide_eq_true h⟩⟩
theorem aaY (u : ah) (y : Nat) : eb (iE u y) := (zD u.ab).1.filter _
theorem DM (u : ah) (y : Nat) : (iE u y).length ≤ 2 * u.ab.length := Nat.le_trans (List.length_filter_le _ _) (zD u.ab).2.1
def cC (u : ah) : List (List Int) := (List.range u.ab.length).map (iE u)
theorem xe {u : ah} {y : Nat} (h : y < u.ab.length) : (cC u)[y]? = some (iE u y) := by unfold cC; rw [List.getElem?_map, List.getElem?_range h]; rfl
theorem xf (u : ah) : (cC u).length = u.ab.length := by unfold cC; simp
theorem aaZ {l m : List Int} (hl : eb l) (hm : eb m) (h : ∀ x ∈ l, x ∈ m) : l.length ≤ m.length ∧ (l.length = m.length → l = m) := by
 have e : l = m.filter fun x => decide (x ∈ l) := eb.ext hl (hm.filter _) fun x => by
  rw [List.mem_filter]
  exact ⟨fun hx => ⟨h x hx, decide_eq_true hx⟩, fun hx => of_decide_eq_true hx.2⟩
 have h1 := List.length_filter_le (fun x => decide (x ∈ l)) m
 rw [← e] at h1
 refine ⟨h1, fun hq => eb.ext hl hm fun x => ⟨h x, fun hx => ?_⟩⟩
 rw [e] at hq
 exact of_decide_eq_true (List.length_filter_eq_length_iff.1 hq x hx)
def gZ (u : ah) (a : List (List Int)) (y : Nat) (i : aq) : List Int := fh (gY i) ((jN u y i).foldl (fun s x => fh (kV (uD i) x.2 (a.getD x.1.toNat [])) s) [])
theorem amK {w k : Int} {t : List Int} {s : Int} : s ∈ kV w k t ↔ s ∈ t ∧ (k = 2 ∨ s ≠ w) := by
 unfold kV
 rw [List.mem_filter]
 by_cases h1 : k = 2 <;> by_cases h2 : s = w <;> simp [h1, h2]
theorem Sp (w : Int) (a : List (List Int)) : ∀ (l : List (Int × Int)) (s : List Int), eb s → eb (l.foldl (fun s x => fh (kV w x.2 (a.getD x.1.toNat [])) s) s) ∧ ∀ z, z ∈ l.foldl (fun s x => fh (kV w x.2 (a.getD x.1.toNat [])) s) s ↔ z ∈ s ∨ ∃ x ∈ l, z ∈ a.getD x.1.toNat [] ∧ (x.2 = 2 ∨ z ≠ w)
 | [], s, h => ⟨h, fun z => by simp⟩
 | x :: l, s, h => by
  obtain ⟨h1, h2⟩ := Sp w a l (fh (kV w x.2 (a.getD x.1.toNat [])) s) (yY h)
  refine ⟨h1, fun z => ?_⟩
  rw [List.foldl_cons, h2, yX, amK]
  constructor
  · rintro ((h | h) | ⟨x', h, h'⟩)
    · exact .inr ⟨x, List.mem_cons_self, h⟩
    · exact .inl h
    · exact .inr ⟨x', List.mem_cons_of_mem _ h, h'⟩
  · rintro (h | ⟨x', h, h'⟩)
    · exact .inl (.inr h)
    · rcases List.mem_cons.1 h with rfl | h
      · exact .inl (.inl h')
      · exact .inr ⟨x', h, h'⟩
theorem aa0 (u : ah) (a : List (List Int)) (y : Nat) (i : aq) : eb (gZ u a y i) := yY (Sp _ _ _ _ .nil).1
theorem qt {u : ah} {a : List (List Int)} {y : Nat} {i : aq} {s : Int} : s ∈ gZ u a y i ↔ s ∈ gY i ∨ ∃ x ∈ jN u y i, s ∈ a.getD x.1.toNat [] ∧ (x.2 = 2 ∨ s ≠ uD i) := by
 unfold gZ
 rw [yX, (Sp _ _ _ _ .nil).2]
 simp
def j3 (a : List (List Int)) : Nat := (a.map List.length).sum
theorem aa1 : ∀ {a : List (List Int)} {y : Nat} {l : List Int}, y < a.length → j3 (a.set y l) + (a.getD y []).length = j3 a + l.length
 | [], y, l, h => by simp at h
 | b :: a, 0, l, h => by simp [j3]; omega
 | b :: a, y + 1, l, h => by
  have := aa1 (a := a) (y := y) (l := l) (by simpa using h)
  simp [j3] at this ⊢
  omega
theorem aa2 {m : Nat} : ∀ {a : List (List Int)}, (∀ l ∈ a, l.length ≤ m) → j3 a ≤ a.length * m
 | [], _ => by simp [j3]
 | b :: a, h => by
  have h1 := aa2 (a := a) fun l hl => h l (List.mem_cons_of_mem _ hl)
  have h2 := h b List.mem_cons_self
  simp [j3] at h1 ⊢
  rw [Nat.add_mul]
  omega
theorem vz (a : List (List Int)) (y z : Nat) (l : List Int) (hy : y < a.length) : (a.set y l).getD z [] = if y = z then l else a.getD z [] := by
 rw [List.getD_eq_getElem?_getD, List.getElem?_set, List.getD_eq_getElem?_getD]
 by_cases h : y = z
 · subst h; simp [hy]
 · simp [h]
structure LI (u : ah) (a : List (List Int)) : Prop where
 len : a.length = u.ab.length
 snd : ∀ y s, s ∈ a.getD y [] → nX u y s
 grow : ∀ y i, u.ab[y]? = some i → ∀ s ∈ a.getD y [], s ∈ gZ u a y i
theorem LI.nd {u : ah} {a : List (List Int)} (H : LI u a) {y : Nat} {i : aq} (hi : u.ab[y]? = some i) {s : Int} (hs : s ∈ gZ u a y i) : nX u y s := by
 rcases qt.1 hs with h | ⟨x, h1, h2, h3⟩
 · exact .read hi h
 · exact .lead hi h1 h3 (H.snd _ _ h2)
theorem LI.set {u : ah} {a : List (List Int)} (H : LI u a) {y : Nat} {i : aq} (hi : u.ab[y]? = some i) {l : List Int} (hl : ∀ s, s ∈ l ↔ s ∈ gZ u a y i) : LI u (a.set y l) := by
 have hy : y < a.length := by rw [H.len]; exact (List.getElem?_eq_some_iff.1 hi).1
 have mono : ∀ z s, s ∈ a.getD z [] → s ∈ (a.set y l).getD z [] := fun z s hs => by
  rw [vz a y z l hy]
  by_cases h : y = z
  · subst h; rw [if_pos rfl, hl]; exact H.grow _ _ hi s hs
  · rw [if_neg h]; exact hs
 have up : ∀ z j s, s ∈ gZ u a z j → s ∈ gZ u (a.set y l) z j := fun z j s hs => by
  rcases qt.1 hs with h | ⟨x, h1, h2, h3⟩
  · exact qt.2 (.inl h)
  · exact qt.2 (.inr ⟨x, h1, mono _ _ h2, h3⟩)
 refine ⟨by simpa using H.len, fun z s hs => ?_, fun z j hj s hs => ?_⟩
 · rw [vz a y z l hy] at hs
   by_cases h : y = z
   · subst h; rw [if_pos rfl, hl] at hs; exact H.nd hi hs
   · rw [if_neg h] at hs; exact H.snd _ _ hs
 · rw [vz a y z l hy] at hs
   by_cases h : y = z
   · subst h
     rw [if_pos rfl, hl] at hs
     rw [hi] at hj; cases hj
     exact up _ _ _ hs
   · rw [if_neg h] at hs; exact up _ _ _ (H.grow _ _ hj s hs)
theorem LI.fin {u : ah} (U : eH u) {a : List (List Int)} (H : LI u a) (C : ∀ y i, u.ab[y]? = some i → ∀ s ∈ gZ u a y i, s ∈ a.getD y []) : ∀ y s, s ∈ a.getD y [] ↔ nX u y s := fun y s => by
 refine ⟨H.snd y s, fun h => ?_⟩
 induction h with
 | read hi hs => exact C _ _ hi _ (qt.2 (.inl hs))
 | lead hi hx hw hs ih => exact C _ _ hi _ (qt.2 (.inr ⟨_, hx, ih, hw⟩))
theorem LI.eq {u : ah} (U : eH u) {a : List (List Int)} (H : LI u a) (S : ∀ l ∈ a, eb l) (C : ∀ y i, u.ab[y]? = some i → ∀ s ∈ gZ u a y i, s ∈ a.getD y []) : a = cC u := by
 have F := H.fin U C
 refine List.ext_getElem? fun y => ?_
 by_cases hy : y < u.ab.length
 · have Sq : y < a.length := by rw [H.len]; exact hy
   rw [xe hy, List.getElem?_eq_getElem Sq]
   refine congrArg some (eb.ext (S _ (List.getElem_mem Sq)) (aaY u y) fun s => ?_)
   rw [IT, ← F y s, List.getD_eq_getElem?_getD, List.getElem?_eq_getElem Sq]; rfl
 · rw [List.getElem?_eq_none (by rw [H.len]; omega), List.getElem?_eq_none (by rw [xf]; omega)]
theorem LI.start (u : ah) : LI u (List.replicate u.ab.length []) := by
 have h : ∀ y, (List.replicate u.ab.length ([] : List Int)).getD y [] = [] := fun y => by
  rw [List.getD_eq_getElem?_getD, List.getElem?_replicate]
  split <;> rfl
 exact ⟨by simp, fun y s hs => (by rw [h] at hs; cases hs), fun y i _ s hs => (by rw [h] at hs; cases hs)⟩
end
end Go.Ve.T
namespace Go.Ve.T
open Go.Ve
open Classical
noncomputable section
theorem xg {a : List (List Int)} {k : Nat} (h : k < a.length) : ix a (k : Int) = some (a.getD k []) := by
 rw [gb, List.getElem?_eq_getElem h, List.getD_eq_getElem?_getD, List.getElem?_eq_getElem h]; rfl
theorem amL {u : ah} (U : eH u) (N : Nat) (hN : 1000 ≤ N) {y : Nat} (hy : y < u.ab.length) (a : List (List Int)) (ha : a.length = u.ab.length) : DE N u (y : Int) a = some (gZ u a y u.ab[y]) := by
 have hi : u.ab[y]? = some u.ab[y] := List.getElem?_eq_getElem hy
 unfold DE
 rw [Sr U N hN y hy, Option.bind_some, gb, hi, Option.bind_some]
 rw [Ss _ (fun (s : List Int) (x : Int × Int) => fh (kV (uD u.ab[y]) x.2 (a.getD x.1.toNat [])) s) (jN u y u.ab[y]) (fun _ _ => True) (fun n s x hx _ => by
  have h1 := DN U hi hx
  obtain ⟨k, hk⟩ := Int.eq_ofNat_of_zero_le h1.1
  rw [hk] at h1
  unfold DI
  rw [hk, xg (by omega), Int.toNat_natCast, Option.bind_some, aa3]
  exact ⟨rfl, trivial⟩) _ _ (fun x hx => hx) trivial, Option.bind_some, Su N hN, Option.bind_some, decide_eq_true (show (gY u.ab[y]).length ≤ 1000 by have := IS u.ab[y]; omega)]
 rfl
structure LS (u : ah) (a : List (List Int)) : Prop where
 li : LI u a
 lE : ∀ l ∈ a, eb l
theorem LS.at {u : ah} {a : List (List Int)} (H : LS u a) (y : Nat) : eb (a.getD y []) := by
 rw [List.getD_eq_getElem?_getD]
 cases h : a[y]? with
 | none => exact .nil
 | some l => exact H.lE l (List.mem_of_getElem? h)
theorem LI.aa4 {u : ah} {a : List (List Int)} (H : LI u a) {l : List Int} (hl : l ∈ a) (S : eb l) : l.length ≤ 2 * u.ab.length := by
 obtain ⟨k, hk⟩ := List.getElem?_of_mem hl
 refine Nat.le_trans (aaZ S (zD u.ab).1 fun s hs => ?_).1 (zD u.ab).2.1
 exact (H.snd k s (by rw [List.getD_eq_getElem?_getD, hk]; exact hs)).univ
theorem LS.j3 {u : ah} {a : List (List Int)} (H : LS u a) : j3 a ≤ u.ab.length * (2 * u.ab.length) := by
 have := aa2 (m := 2 * u.ab.length) fun l hl => H.li.aa4 hl (H.lE l hl)
 rwa [H.li.len] at this
theorem Sv {u : ah} (U : eH u) (N : Nat) (hN : 1000 ≤ N) (K : Bool → List (List Int) → Option (List (List Int))) : ∀ (m n : Nat) (a : List (List Int)) (c : Bool), LS u a → m ≤ u.ab.length → m < n →
 ∃ a' c', uy N u K n a c ((m : Int) - 1) = K c' a' ∧ LS u a' ∧ j3 a ≤ j3 a' ∧ (c' = true → c = true ∨ j3 a < j3 a') ∧ (c' = false → c = false ∧ a' = a ∧ ∀ y i, y < m → u.ab[y]? = some i → ∀ s ∈ gZ u a y i, s ∈ a.getD y [])
 | m, 0, a, c, _, _, h => by omega
 | 0, n + 1, a, c, H, _, _ => ⟨a, c, by
  show w9 N u a c _ K _ = _
  unfold w9
  rw [decide_eq_false (by omega)]; rfl, H, Nat.le_refl _, .inl, fun h => ⟨h, rfl, fun y i h => by omega⟩⟩
 | m + 1, n + 1, a, c, H, hm, hn => by
  have lV := U.n1
  have hy : m < u.ab.length := by omega
  have hi : u.ab[m]? = some u.ab[m] := List.getElem?_eq_getElem hy
  have H5 : m < a.length := by rw [H.li.len]; exact hy
  have e : uy N u K (n + 1) a c (((m + 1 : Nat) : Int) - 1) = if (gZ u a m u.ab[m]).length = (a.getD m []).length then uy N u K n a c ((m : Int) - 1) else uy N u K n (a.set m (gZ u a m u.ab[m])) true ((m : Int) - 1) := by
   show w9 N u a c _ K _ = _
   unfold w9 IL DD
   rw [show (((m + 1 : Nat) : Int) - 1) = (m : Int) by omega, decide_eq_true (by omega), amL U N hN hy a H.li.len, xg H5, l4 (by omega) (by omega)]
   simp only [cond_true, Option.bind_some, Int.toNat_natCast]
   by_cases h : (gZ u a m u.ab[m]).length = (a.getD m []).length
   · rw [if_pos h, decide_eq_true (by omega)]; rfl
   · rw [if_neg h, decide_eq_false (by omega)]; rfl
  rw [e]
  have sub := aaZ (H.at m) (aa0 u a m u.ab[m]) (H.li.grow m _ hi)
  by_cases h : (gZ u a m u.ab[m]).length = (a.getD m []).length
  · rw [if_pos h]
    obtain ⟨a', c', h1, h2, h3, h4, h5⟩ := Sv U N hN K m n a c H (by omega) (by omega)
    refine ⟨a', c', h1, h2, h3, h4, fun hc => ?_⟩
    obtain ⟨h6, h7, h8⟩ := h5 hc
    refine ⟨h6, h7, fun y i hy' cz s hs => ?_⟩
    by_cases Px : y = m
    · subst Px
      rw [hi] at cz; cases cz
      rw [sub.2 h.symm]; exact hs
    · exact h8 y i (by omega) cz s hs
  · rw [if_neg h]
    have H' : LS u (a.set m (gZ u a m u.ab[m])) := ⟨H.li.set hi fun s => Iff.rfl, fun l hl => by
     rcases List.mem_or_eq_of_mem_set hl with hl | rfl
     · exact H.lE l hl
     · exact aa0 _ _ _ _⟩
    have ht := aa1 (a := a) (y := m) (l := gZ u a m u.ab[m]) H5
    have bG := sub.1
    obtain ⟨a', c', h1, h2, h3, h4, h5⟩ := Sv U N hN K m n _ true H' (by omega) (by omega)
    exact ⟨a', c', h1, h2, by omega, fun _ => .inr (by omega), fun hc => by have := (h5 hc).1; cases this⟩
theorem amM (N : Nat) (a : List (List Int)) (ha : a.length ≤ 600) (hN : 1000 ≤ N) (hl : ∀ l ∈ a, l.length ≤ 2000) : IJ N a (fun a0 => zy a0) = some a := by
 have key : ∀ (n i : Nat), i ≤ a.length → a.length < n + i → zw N (a.length : Int) a (fun a0 => zy a0) n (a.take i) (i : Int) = some a := by
  intro n
  induction n with
  | zero => intro i h1 h2; omega
  | succ n ih =>
   intro i h1 h2
   show DB N _ a _ (a.take i) (i : Int) _ = _
   unfold DB IH IG II
   by_cases hi : i < a.length
   · have h3 := hl a[i] (List.getElem_mem hi)
     rw [pg i _ hi, gb, List.getElem?_eq_getElem hi]
     simp only [cond_true, Option.bind_some]
     unfold zy
     rw [decide_eq_true (show a[i].length ≤ 1048576 by omega)]
     show gu (decide ((a.take i).length + [a[i]].length ≤ 1048576)) _ = _
     rw [decide_eq_true (by rw [List.length_take]; simp; omega), ph i (by omega)]
     show zw N _ a _ n (a.take i ++ [a[i]]) _ = _
     rw [← List.take_succ_eq_append_getElem hi]
     exact ih (i + 1) hi (by omega)
   · have : i = a.length := by omega
     subst this
     rw [pk, List.take_length]; rfl
 have := key N 0 (Nat.zero_le _) (by omega)
 exact this
theorem aa5 {u : ah} (U : eH u) (N : Nat) (hN : 1000 ≤ N) : ∀ (n : Nat) (a : List (List Int)), LS u a → u.ab.length * (2 * u.ab.length) + 2 ≤ n + j3 a → uz N u n a true = some (cC u)
 | 0, a, H, h => by have := H.j3; omega
 | n + 1, a, H, h => by
  have hn := U.n1
  show DF N u a (fun ag fT => uz N u n fT ag) = _
  unfold DF
  rw [l4 (by omega) (by omega)]
  obtain ⟨a', c', h1, h2, h3, h4, h5⟩ := Sv U N hN (fun ag fT => uz N u n fT ag) u.ab.length N a false H (Nat.le_refl _) (by omega)
  rw [h1]
  have ht := H.j3
  cases c' with
  | true =>
   have h6 : j3 a < j3 a' := (h4 rfl).resolve_left (by simp)
   exact aa5 U N hN n a' h2 (by omega)
  | false =>
   obtain ⟨_, rfl, h8⟩ := h5 rfl
   obtain ⟨m, rfl⟩ : ∃ m, n = m + 1 := ⟨n - 1, by omega⟩
   show DG N a' = _
   unfold DG
   have e : a' = cC u := H.li.eq U H.lE fun y i hi s hs => h8 y i (List.getElem?_eq_some_iff.1 hi).1 hi s hs
   rw [amM N a' (by rw [H.li.len]; omega) hN fun l hl => by have := H.li.aa4 hl (H.lE l hl); omega, e]
   rfl
theorem amN {u : ah} (U : eH u) (N : Nat) (hN : 1000 ≤ N) (hb : u.ab.length * (2 * u.ab.length) + 2 ≤ N) : Cp N u = some (cC u) := by
 have hn := U.n1
 unfold Cp IM
 rw [IQ N hN, U.pl, Option.bind_some]
 show gu (decide _ && decide _) _ = _
 rw [decide_eq_true (show (0 : Int) ≤ (u.ab.length : Int) by omega), decide_eq_true (show (u.ab.length : Int) ≤ 65536 by omega)]
 show uz N u N (List.replicate (u.ab.length : Int).toNat ([] : List Int)) true = _
 rw [Int.toNat_natCast]
 exact aa5 U N hN N _ ⟨LI.start u, fun l hl => by rw [List.eq_of_mem_replicate hl]; exact .nil⟩ (by omega)
end
end Go.Ve.T
namespace Go.Ve.T
open Go.Ve
open Classical
noncomputable section
def sh (u : ah) (y : Nat) (i : aq) (to : Int) : Prop := kX i = true ∧ 0 ≤ fw u.aD y ∧ ∃ d, ix u.aD (fw u.aD y) = some d ∧ d.ew = to
theorem sh.lead {u : ah} {y : Nat} {i : aq} {to : Int} : sh u y i to ↔ (to, 2) ∈ jN u y i := by
 rw [amJ]
 constructor
 · rintro ⟨h1, h2, d, h3, h4⟩
   exact .inr (.inr ⟨h1, h2, d, h3, h4, rfl⟩)
 · rintro (⟨_, _, _, h⟩ | ⟨_, h⟩ | ⟨h1, h2, d, h3, h4, _⟩)
   · cases h
   · cases h
   · exact ⟨h1, h2, d, h3, h4⟩
end
end Go.Ve.T
namespace Go.Ve.T
open Go.Ve
open Classical
noncomputable section
theorem DO (N : Nat) (l : List Int) (x : Int) (hl : l.length < 1000000) (hN : l.length < N) : tK N l x = some (decide (x ∈ l)) := by
 have key : ∀ n i : Nat, i ≤ l.length → l.length < n + i → BR N l x n (i : Int) = some (decide (x ∈ l.drop i)) := by
  intro n
  induction n with
  | zero => intro i h1 h2; omega
  | succ n ih =>
   intro i h1 h2
   show BQ N l x (i : Int) _ = _
   unfold BQ Ht Hu Hs
   by_cases hi : i < l.length
   · rw [pg i _ hi, gb, List.getElem?_eq_getElem hi, List.drop_eq_getElem_cons hi]
     simp only [cond_true, Option.bind_some]
     by_cases e : l[i] = x
     · rw [decide_eq_true e]
       simp [e]
     · rw [decide_eq_false e]
       simp only [cond_false]
       rw [ph i (by omega), ih (i + 1) hi (by omega)]
       congr 1
       rw [decide_eq_decide, List.mem_cons]
       exact ⟨.inr, fun h => h.resolve_left fun h => e h.symm⟩
   · have : i = l.length := by omega
     subst this
     rw [pk, List.drop_length]
     simp
 have := key N 0 (Nat.zero_le _) (by omega)
 rwa [List.drop_zero] at this
theorem amO (N : Nat) (hN : 1000 ≤ N) (u : ah) : ∃ b, BZ N u = some b ∧ (b = true → eH u ∧ u.ab.length ≤ 40 ∧ u.aD.length ≤ 8) := by
 have h1 : ∀ b, BV N u b = some (b && decide (0 < (u.ab.length : Int))) := fun b => by cases b <;> rfl
 unfold BZ BW
 simp only [h1, amP N hN, Option.bind_some]
 by_cases ha : (u.ab.length : Int) ≤ 40
 · rw [decide_eq_true ha]
   by_cases hb : (u.aD.length : Int) ≤ 8
   · rw [decide_eq_true hb]
     refine ⟨_, rfl, fun h => ?_⟩
     obtain ⟨h2, h3⟩ := Bool.and_eq_true_iff.1 h
     have h2 := of_decide_eq_true h2
     have h3 := of_decide_eq_true h3
     refine ⟨?_, by omega, by omega⟩
     unfold Sw at h2
     cases hp : j2 u with
     | true => exact ⟨hp⟩
     | false => rw [hp] at h2; simp at h2; omega
   · rw [decide_eq_false hb]
     exact ⟨_, rfl, fun h => by simp at h⟩
 · rw [decide_eq_false ha]
   exact ⟨_, rfl, fun h => by simp at h⟩
end
end Go.Ve.T
namespace Go.Ve.T
open Go.Ve
open Classical
noncomputable section
theorem DP {β : Type} (I : Nat → Int → Option β) (hi : Nat) (P : Nat → Prop) (E : Option β → Prop) (step : ∀ n (i : Nat), i < hi → E (I (n + 1) (i : Int)) ∨ (P i ∧ I (n + 1) (i : Int) = I n (((i + 1 : Nat)) : Int))) : ∀ n (i : Nat), (∀ j, j < i → P j) → i ≤ hi → hi < n + i → E (I n (i : Int)) ∨ ((∀ j, j < hi → P j) ∧ ∃ n', I n (i : Int) = I (n' + 1) (hi : Int))
 | 0, i, h, h1, h2 => by omega
 | n + 1, i, h, h1, h2 => by
  by_cases e : i < hi
  · rcases step n i e with h3 | ⟨h3, h4⟩
    · exact .inl h3
    · rw [h4]
      exact DP I hi P E step n (i + 1) (fun j hj => by
       by_cases vA : j = i
       · subst vA; exact h3
       · exact h j (by omega)) e (by omega)
  · have : i = hi := by omega
    subst this
    exact .inr ⟨h, n, rfl⟩
def Sx (u : ah) (a : List (List Int)) (y : Nat) (i : aq) (s : Int) (t : Int) : Prop := s ∈ a.getD t.toNat [] ∧ (uD i ≠ s ∨ sh u y i t)
def zE (u : ah) (a : List (List Int)) (y : Nat) (i : aq) (s : Int) (l : List Int) : Prop := ∃ t ∈ l, Sx u a y i s t
theorem aa6 {u : ah} {a : List (List Int)} {y : Nat} {i : aq} {s : Int} : s ∈ gZ u a y i ↔ s ∈ gY i ∨ zE u a y i s (ek u y i) := by
 rw [qt]
 refine or_congr Iff.rfl ⟨fun ⟨x, h1, h2, h3⟩ => ⟨x.1, DQ.2 ⟨x.2, h1⟩, h2, ?_⟩, fun ⟨t, h1, h2, h3⟩ => ?_⟩
 · rcases h3 with h3 | h3
   · exact .inr (sh.lead.2 (by rw [← h3]; exact h1))
   · exact .inl fun h => h3 h.symm
 · rcases h3 with h3 | h3
   · obtain ⟨k, hk⟩ := DQ.1 h1
     exact ⟨(t, k), hk, h2, .inr fun h => h3 h.symm⟩
   · exact ⟨(t, 2), sh.lead.1 h3, h2, .inl rfl⟩
theorem aa7 {u : ah} (U : eH u) (N : Nat) (hN : 4000 ≤ N) (a : List (List Int)) (ha : a.length = u.ab.length) (hl : ∀ l ∈ a, l.length < 4000) {y : Nat} (hy : y < u.ab.length) (s : Int) : yP N u a (y : Int) s = some (decide (s ∈ gZ u a y u.ab[y])) := by
 have hn := U.n1
 have lV : 1000 ≤ N := by omega
 have hu : u.ab[y]? = some u.ab[y] := List.getElem?_eq_getElem hy
 have hr := IS u.ab[y]
 unfold yP
 rw [gb, hu, Option.bind_some, Su N lV, Option.bind_some, DO N _ _ (by omega) (by omega), Option.bind_some]
 by_cases h : s ∈ gY u.ab[y]
 · rw [decide_eq_true h, decide_eq_true (aa6.2 (.inl h))]; rfl
 · rw [decide_eq_false h]
   show B5 N u (y : Int) a s = _
   unfold B5
   have eN : DT u (y : Int) = ek u y u.ab[y] := by
    unfold DT zF
    rw [U.pl, decide_eq_true (show 0 ≤ (y : Int) ∧ (y : Int) ≤ (u.ab.length : Int) - 1 by omega), Int.toNat_natCast, hu]; rfl
   have eG : DU u (y : Int) = fw u.aD y := by
    unfold DU zF
    rw [U.pl, decide_eq_true (show 0 ≤ (y : Int) ∧ (y : Int) ≤ (u.ab.length : Int) - 1 by omega)]; rfl
   rw [(amQ N lV u y).1, Option.bind_some, eN, (amR N lV u y).1, Option.bind_some, eG]
   have US := amS u y u.ab[y]
   have key : ∀ n k : Nat, k ≤ (ek u y u.ab[y]).length → (ek u y u.ab[y]).length < n + k → tN N (ek u y u.ab[y]) (fw u.aD y) u (y : Int) a s n (k : Int) = some (decide (zE u a y u.ab[y] s ((ek u y u.ab[y]).drop k))) := by
    intro n
    induction n with
    | zero => intro k h1 h2; omega
    | succ n ih =>
     intro k h1 h2
     show B4 N _ _ u (y : Int) a s (k : Int) _ = _
     unfold B4
     by_cases hk : k < (ek u y u.ab[y]).length
     · have ht : (ek u y u.ab[y])[k] ∈ ek u y u.ab[y] := List.getElem_mem hk
       have qs : (ek u y u.ab[y])[k]? = some (ek u y u.ab[y])[k] := List.getElem?_eq_getElem hk
       rw [pg k _ hk, List.drop_eq_getElem_cons hk]
       simp only [cond_true]
       generalize (ek u y u.ab[y])[k] = to at ht qs
       have IU := amT U hu ht
       obtain ⟨t, rfl⟩ := Int.eq_ofNat_of_zero_le IU.1
       have rest : zE u a y u.ab[y] s ((t : Int) :: (ek u y u.ab[y]).drop (k + 1)) ↔ Sx u a y u.ab[y] s (t : Int) ∨ zE u a y u.ab[y] s ((ek u y u.ab[y]).drop (k + 1)) := by
        constructor
        · rintro ⟨z, h1, h2⟩
          rcases List.mem_cons.1 h1 with rfl | h1
          · exact .inl h2
          · exact .inr ⟨z, h1, h2⟩
        · rintro (h | ⟨z, h1, h2⟩)
          · exact ⟨_, List.mem_cons_self, h⟩
          · exact ⟨z, List.mem_cons_of_mem _ h1, h2⟩
       have P1 : ∀ b : Bool, (b = true ↔ Sx u a y u.ab[y] s (t : Int)) → vW N (k : Int) b u (fun ag => tN N (ek u y u.ab[y]) (fw u.aD y) u (y : Int) a s n ag) = some (decide (zE u a y u.ab[y] s ((t : Int) :: (ek u y u.ab[y]).drop (k + 1)))) := fun b hb => by
        unfold vW Hw
        cases b with
        | true => rw [decide_eq_true (rest.2 (.inl (hb.1 rfl)))]; rfl
        | false =>
         rw [ph k (by omega)]
         show tN N _ _ u _ a s n _ = _
         rw [ih (k + 1) hk (by omega)]
         congr 1
         rw [decide_eq_decide, rest]
         exact ⟨.inr, fun h => h.resolve_left fun h => by cases hb.2 h⟩
       have P2 : vX N (ek u y u.ab[y]) (k : Int) a s u (y : Int) (decide (sh u y u.ab[y] (t : Int))) (fun ag => tN N (ek u y u.ab[y]) (fw u.aD y) u (y : Int) a s n ag) = some (decide (zE u a y u.ab[y] s ((t : Int) :: (ek u y u.ab[y]).drop (k + 1)))) := by
        unfold vX
        have Sy : t < a.length := by omega
        have bG : (a.getD t []).length < 4000 := hl _ (by rw [List.getD_eq_getElem?_getD, List.getElem?_eq_getElem Sy]; exact List.getElem_mem Sy)
        rw [gb, qs, Option.bind_some, xg Sy, Option.bind_some, DO N _ _ (by omega) (by omega), Option.bind_some]
        by_cases hs : s ∈ a.getD t []
        · rw [decide_eq_true hs, gb, hu]
          simp only [cond_true, Option.bind_some, aa3]
          by_cases hw : uD u.ab[y] = s
          · rw [decide_eq_true hw]
            exact P1 _ ⟨fun h => ⟨by rw [Int.toNat_natCast]; exact hs, .inr (of_decide_eq_true h)⟩, fun h => decide_eq_true (h.2.resolve_left fun h => h hw)⟩
          · rw [decide_eq_false hw]
            exact P1 true ⟨fun _ => ⟨by rw [Int.toNat_natCast]; exact hs, .inl hw⟩, fun _ => rfl⟩
        · rw [decide_eq_false hs]
          exact P1 false ⟨fun h => (by cases h), fun h => absurd (by have := h.1; rwa [Int.toNat_natCast] at this) hs⟩
       unfold Hx B2
       by_cases hg : 0 ≤ fw u.aD y
       · obtain ⟨d, hd, _⟩ := Sz hg
         rw [decide_eq_true hg, hd, gb (ek u y u.ab[y]), qs, gb u.ab, hu]
         simp only [cond_true, Option.bind_some, aa8]
         by_cases pG : d.ew = (t : Int)
         · rw [decide_eq_true pG]
           have e : kX u.ab[y] = decide (sh u y u.ab[y] (t : Int)) := by
            rw [Bool.eq_iff_iff, decide_eq_true_iff]
            exact ⟨fun h => ⟨h, hg, d, hd, pG⟩, fun h => h.1⟩
           show vX N _ _ a s u _ (kX u.ab[y]) _ = _
           rw [e]; exact P2
         · rw [decide_eq_false pG]
           rw [decide_eq_false (fun h : sh u y u.ab[y] (t : Int) => by
            obtain ⟨_, _, d', h1, h2⟩ := h
            rw [hd] at h1; cases h1; exact pG h2)] at P2
           exact P2
       · rw [decide_eq_false hg]
         rw [decide_eq_false (fun h : sh u y u.ab[y] (t : Int) => hg h.2.1)] at P2
         exact P2
     · have : k = (ek u y u.ab[y]).length := by omega
       subst this
       rw [pk, List.drop_length]
       show some false = _
       rw [decide_eq_false (fun ⟨t, h, _⟩ => by cases h)]
   have := key N 0 (Nat.zero_le _) (by omega)
   rw [show ((0 : Nat) : Int) = 0 from rfl] at this
   rw [this, List.drop_zero]
   congr 1
   rw [decide_eq_decide, aa6]
   exact ⟨.inr, fun h' => h'.resolve_left h⟩
end
end Go.Ve.T
namespace Go.Ve.T
open Go.Ve
open Classical
noncomputable section
theorem amU {u : ah} {y : Nat} (h : y < u.ab.length) : (cC u).getD y [] = iE u y := by rw [List.getD_eq_getElem?_getD, xe h]; rfl
theorem amV {u : ah} (U : eH u) {y : Nat} {s : Int} (h : nX u y s) {i : aq} (hi : u.ab[y]? = some i) : s ∈ gZ u (cC u) y i := by
 cases h with
 | read cz hs => rw [hi] at cz; cases cz; exact qt.2 (.inl hs)
 | lead cz hx hw hs =>
  rw [hi] at cz; cases cz
  have h1 := DN U hi hx
  exact qt.2 (.inr ⟨_, hx, by rw [amU (by omega)]; exact IT.2 hs, hw⟩)
theorem amW {u : ah} (U : eH u) (uE : u.ab.length ≤ 40) (N : Nat) (hN : 4000 ≤ N) (x1 : List (List Int)) : yV N (cC u) u x1 true = yU N x1 u true (cC u) := by
 have hn := U.n1
 have Fo : ∀ l ∈ cC u, l.length < 4000 := fun l hl => by
  unfold cC at hl
  obtain ⟨y, _, rfl⟩ := List.mem_map.1 hl
  have := DM u y; omega
 unfold yV
 exact DV u.ab.length (fun n i => rK N (cC u) u x1 true n (i : Int)) (yU N x1 u true (cC u)) (fun n y hy => by
  have hu : u.ab[y]? = some u.ab[y] := List.getElem?_eq_getElem hy
  show wq N (cC u) u x1 true (y : Int) _ = _
  unfold wq HG
  rw [xf, pg y _ hy]
  simp only [cond_true]
  have L := DV (iE u y).length (fun n' i => wj N (cC u) (y : Int) u (fun ag => rK N (cC u) u x1 true n ag) n' (i : Int)) (rK N (cC u) u x1 true n ((y + 1 : Nat) : Int)) (fun n' k hk => by
   show wi N (cC u) (y : Int) u (k : Int) _ _ = _
   unfold wi HE
   have hlen := DM u y
   have qs : (iE u y)[k]? = some (iE u y)[k] := List.getElem?_eq_getElem hk
   have hm : (iE u y)[k] ∈ iE u y := List.getElem_mem hk
   have P6 : yR N u (cC u) (y : Int) (k : Int) false (fun ag => wj N (cC u) (y : Int) u (fun ag => rK N (cC u) u x1 true n ag) n' ag) = wj N (cC u) (y : Int) u (fun ag => rK N (cC u) u x1 true n ag) n' ((k + 1 : Nat) : Int) := by
    unfold yR Ce HD
    rw [gb, xe hy, ph k (by omega)]
    simp only [cond_false, Option.bind_some]
    rw [gb, qs, Option.bind_some, aa7 U N hN (cC u) (xf u) Fo hy, decide_eq_true (amV U (IT.1 hm) hu)]; rfl
   rw [gb, xe hy]
   simp only [Option.bind_some]
   rw [pg k _ hk, gb, qs]
   simp only [cond_true, Option.bind_some]
   by_cases h0 : 0 < (k : Int)
   · obtain ⟨j, rfl⟩ : ∃ j, k = j + 1 := ⟨k - 1, by omega⟩
     have hj : j < (iE u y).length := by omega
     have hs : (iE u y)[j] < (iE u y)[j + 1] := List.pairwise_iff_getElem.1 (aaY u y) j (j + 1) hj hk (by omega)
     rw [decide_eq_true h0, show bH .i64 (((j + 1 : Nat) : Int) - 1) = (j : Int) by rw [l4 (by omega) (by omega)]; omega, gb, List.getElem?_eq_getElem hj, Option.bind_some, decide_eq_false (by omega)]
     exact P6
   · rw [decide_eq_false h0]; exact P6) (fun n' => by
   show wi N (cC u) (y : Int) u _ _ _ = _
   unfold wi HF
   rw [gb, xe hy, Option.bind_some, pk, ph y (by omega)]; rfl) N 0 (Nat.zero_le _) (by have := DM u y; omega)
  exact L) (fun n => by
  show wq N (cC u) u x1 true _ _ = _
  unfold wq
  rw [xf, pk]; rfl) N 0 (Nat.zero_le _) (by omega)
def SA (u : ah) (x1 : List (List Int)) (y : Nat) : Prop := ∀ i, u.ab[y]? = some i → (∀ s, 0 ≤ s → s < u.aw → s ∈ gZ u x1 y i → s ∈ x1.getD y []) ∧ ∀ s ∈ gY i, s ∈ x1.getD y []
theorem amX {u : ah} {x1 : List (List Int)} (H : ∀ y, y < u.ab.length → SA u x1 y) {y : Nat} {s : Int} (h : nX u y s) (h0 : 0 ≤ s) (h1 : s < u.aw) : s ∈ x1.getD y [] := by
 induction h with
 | read hi hs => exact (H _ (List.getElem?_eq_some_iff.1 hi).1 _ hi).2 _ hs
 | lead hi hx hw hs ih => exact (H _ (List.getElem?_eq_some_iff.1 hi).1 _ hi).1 _ h0 h1 (qt.2 (.inr ⟨_, hx, ih h0 h1, hw⟩))
theorem amY {u : ah} (U : eH u) (uE : u.ab.length ≤ 40) (N : Nat) (hN : 4000 ≤ N) (x1 : List (List Int)) (hx : x1.length = u.ab.length) (DW : ∀ y, y < x1.length → (x1.getD y []).length ≤ 60) (H : ∀ y, y < u.ab.length → SA u x1 y) : Ck N (cC u) u x1 true = some true := by
 have hn := U.n1
 unfold Ck
 exact DV u.ab.length (fun n i => wo N (cC u) u x1 true n (i : Int)) (some true) (fun n y hy => by
  show wm N (cC u) u x1 true (y : Int) _ = _
  unfold wm HV
  rw [xf, pg y _ hy]
  simp only [cond_true]
  have L := DV (iE u y).length (fun n' i => Cj N (cC u) (y : Int) u x1 (fun ag => wo N (cC u) u x1 true n ag) n' (i : Int)) (wo N (cC u) u x1 true n ((y + 1 : Nat) : Int)) (fun n' k hk => by
   show wk N (cC u) (y : Int) u x1 (k : Int) _ _ = _
   unfold wk HT Ci Ch Cg HS
   have hlen := DM u y
   have qs : (iE u y)[k]? = some (iE u y)[k] := List.getElem?_eq_getElem hk
   have hm : (iE u y)[k] ∈ iE u y := List.getElem_mem hk
   rw [gb, xe hy]
   simp only [Option.bind_some]
   rw [pg k _ hk, gb, qs, ph k (by omega), xg (show y < x1.length by omega)]
   simp only [cond_true, cond_false, Option.bind_some]
   have h6 := DW y (by omega)
   rw [DO N _ _ (by omega) (by omega)]
   by_cases h0 : 0 ≤ (iE u y)[k]
   · rw [decide_eq_true h0]
     by_cases h1 : (iE u y)[k] < u.aw
     · rw [decide_eq_true h1, decide_eq_true (amX H (IT.1 hm) h0 h1)]; rfl
     · rw [decide_eq_false h1]; rfl
   · rw [decide_eq_false h0]; rfl) (fun n' => by
   show wk N (cC u) (y : Int) u x1 _ _ _ = _
   unfold wk HU
   rw [gb, xe hy, Option.bind_some, pk, ph y (by omega)]; rfl) N 0 (Nat.zero_le _) (by have := DM u y; omega)
  exact L) (fun n => by
  show wm N (cC u) u x1 true _ _ = _
  unfold wm
  rw [xf, pk]; rfl) N 0 (Nat.zero_le _) (by omega)
theorem amZ {u : ah} (U : eH u) (uE : u.ab.length ≤ 40) (N : Nat) (hN : 4000 ≤ N) (x1 : List (List Int)) (hx : x1.length = u.ab.length) (DW : ∀ y, y < x1.length → (x1.getD y []).length ≤ 60) : Cl N x1 u true (cC u) = some true := by
 have hn := U.n1
 have hl : ∀ l ∈ x1, l.length < 4000 := fun l hl => by
  obtain ⟨k, hk, e⟩ := List.mem_iff_getElem.1 hl
  have := DW k hk
  rw [List.getD_eq_getElem?_getD, List.getElem?_eq_getElem hk, e] at this
  have h : l.length ≤ 60 := this
  omega
 obtain ⟨S, hS⟩ : ∃ S : Nat, u.aw = (S : Int) ∧ S ≤ 200 := by
  have := U.pl
  unfold j2 at this
  simp only [Bool.and_eq_true] at this
  have h := of_decide_eq_true this.2.2.1
  exact ⟨u.aw.toNat, by omega, by omega⟩
 unfold Cl
 rcases DP (fun n y => rJ N x1 u true (cC u) n y) u.ab.length (SA u x1) (fun o => o = some true) (fun n y hy => by
  have hu : u.ab[y]? = some u.ab[y] := List.getElem?_eq_getElem hy
  have SB : y < x1.length := by omega
  have h6 := DW y SB
  have hr := IS u.ab[y]
  show tU N x1 u true (cC u) (y : Int) _ = some true ∨ (_ ∧ tU N x1 u true (cC u) (y : Int) _ = _)
  unfold tU HQ
  rw [hx, pg y _ hy]
  simp only [cond_true]
  rcases DP (fun n' s => yT N u x1 (y : Int) true (fun ag => rJ N x1 u true (cC u) n ag) n' s) S (fun s => (s : Int) ∈ gZ u x1 y u.ab[y] → (s : Int) ∈ x1.getD y []) (fun o => o = some true) (fun n' s hs => by
   show tT N u x1 (y : Int) true (s : Int) _ _ = some true ∨ (_ ∧ tT N u x1 (y : Int) true (s : Int) _ _ = _)
   unfold tT HL Cf HK
   rw [hS.1, pg s _ hs, aa7 U N hN x1 hx hl hy, ph s (by omega), xg SB]
   simp only [cond_true, cond_false, Option.bind_some]
   rw [DO N _ _ (by omega) (by omega)]
   by_cases hw : (s : Int) ∈ gZ u x1 y u.ab[y]
   · by_cases hh : (s : Int) ∈ x1.getD y []
     · rw [decide_eq_true hw, decide_eq_true hh]; exact .inr ⟨fun _ => hh, rfl⟩
     · rw [decide_eq_true hw, decide_eq_false hh]; exact .inl rfl
   · rw [decide_eq_false hw]; exact .inr ⟨fun h => absurd h hw, rfl⟩) N 0 (fun j hj => absurd hj (Nat.not_lt_zero _)) (Nat.zero_le _) (by omega) with h | ⟨hP, n', h⟩
  · exact .inl h
  · rw [show ((0 : Nat) : Int) = 0 from rfl] at h
    rw [h]
    have e : yT N u x1 (y : Int) true (fun ag => rJ N x1 u true (cC u) n ag) (n' + 1) (S : Int) = yS N (gY u.ab[y]) x1 (y : Int) true u (fun ag => rJ N x1 u true (cC u) n ag) N 0 := by
     show tT N u x1 (y : Int) true (S : Int) _ _ = _
     unfold tT HP
     rw [hS.1, pk, gb, hu, Option.bind_some, Su N (by omega)]; rfl
    rw [e]
    rcases DP (fun n' k => yS N (gY u.ab[y]) x1 (y : Int) true u (fun ag => rJ N x1 u true (cC u) n ag) n' k) (gY u.ab[y]).length (fun k => ∀ s, (gY u.ab[y])[k]? = some s → s ∈ x1.getD y []) (fun o => o = some true) (fun n' k hk => by
     show tS N _ x1 (y : Int) true (k : Int) u _ _ = some true ∨ (_ ∧ tS N _ x1 (y : Int) true (k : Int) u _ _ = _)
     unfold tS HN HM
     rw [pg k _ hk, xg SB, gb, List.getElem?_eq_getElem hk, ph k (by omega)]
     simp only [cond_true, Option.bind_some]
     rw [DO N _ _ (by omega) (by omega)]
     by_cases hh : (gY u.ab[y])[k] ∈ x1.getD y []
     · rw [decide_eq_true hh]; exact .inr ⟨fun s hs => by cases hs; exact hh, rfl⟩
     · rw [decide_eq_false hh]; exact .inl rfl) N 0 (fun j hj => absurd hj (Nat.not_lt_zero _)) (Nat.zero_le _) (by omega) with h' | ⟨hP', n'', h'⟩
    · exact .inl h'
    · rw [show ((0 : Nat) : Int) = 0 from rfl] at h'
      refine .inr ⟨fun i hi => ?_, h'.trans ?_⟩
      · rw [hu] at hi; cases hi
        refine ⟨fun s h0 h1 hs => ?_, fun s hs => ?_⟩
        · obtain ⟨k, rfl⟩ := Int.eq_ofNat_of_zero_le h0
          exact hP k (by omega) hs
        · obtain ⟨k, hk, e⟩ := List.mem_iff_getElem.1 hs
          exact hP' k hk s (by rw [List.getElem?_eq_getElem hk, e])
      · show tS N _ x1 (y : Int) true _ u _ _ = _
        unfold tS HO
        rw [pk, ph y (by omega)]; rfl) N 0 (fun j hj => absurd hj (Nat.not_lt_zero _)) (Nat.zero_le _) (by omega) with h | ⟨hP, n', h⟩
 · exact h
 · rw [show ((0 : Nat) : Int) = 0 from rfl] at h
   refine h.trans ?_
   show tU N x1 u true (cC u) _ _ = _
   unfold tU
   rw [hx, pk]
   exact amY U uE N hN x1 hx DW hP
theorem acn (N : Nat) (hN : 4000 ≤ N) (u : ah) (x1 : List (List Int)) : HW N u x1 = some true := by
 have lV : 1000 ≤ N := by omega
 unfold HW Cq
 obtain ⟨b, hb, hbt⟩ := amO N lV u
 rw [hb]
 show (bif !b then _ else _) = _
 cases b with
 | false => rfl
 | true =>
  obtain ⟨U, uE, h8⟩ := hbt rfl
  by_cases hl : 60 < (x1.length : Int)
  · rw [decide_eq_true hl]; rfl
  · rw [decide_eq_false hl]
    show Co N u x1 true = _
    unfold Co
    have hn := U.n1
    have hq : u.ab.length * (2 * u.ab.length) ≤ 40 * (2 * 40) := Nat.mul_le_mul uE (Nat.mul_le_mul (Nat.le_refl 2) uE)
    rw [amN U N lV (by omega), Option.bind_some, xf, decide_eq_true rfl]
    show yV N (cC u) u x1 true = _
    rw [amW U uE N hN x1]
    unfold yU
    by_cases hx : (x1.length : Int) = (u.ab.length : Int)
    · rw [decide_eq_true hx]
      show Cn N x1 true u (cC u) = _
      unfold Cn
      have hx : x1.length = u.ab.length := by omega
      rcases DP (fun n y => Cm N x1 true u (cC u) n y) x1.length (fun y => (x1.getD y []).length ≤ 60) (fun o => o = some true) (fun n y hy => by
       show tV N x1 true u (cC u) (y : Int) _ = some true ∨ (_ ∧ tV N x1 true u (cC u) (y : Int) _ = _)
       unfold tV HJ HI
       rw [pg y _ hy, xg hy, ph y (by omega)]
       simp only [cond_true, Option.bind_some]
       by_cases h : 60 < ((x1.getD y []).length : Int)
       · rw [decide_eq_true h]; exact .inl rfl
       · rw [decide_eq_false h]; exact .inr ⟨by omega, rfl⟩) N 0 (fun j hj => absurd hj (Nat.not_lt_zero _)) (Nat.zero_le _) (by omega) with h | ⟨hP, n', h⟩
      · exact h
      · rw [show ((0 : Nat) : Int) = 0 from rfl] at h
        refine h.trans ?_
        show tV N x1 true u (cC u) _ _ = _
        unfold tV
        rw [pk]
        exact amZ U uE N hN x1 hx hP
    · rw [decide_eq_false hx]; rfl
end
end Go.Ve.T
