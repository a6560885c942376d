/- Part 18: The closed run of the chapter's examples of layer 8, by the evaluator, in the kernel: 'head' returns true, and changes nothing of what was there, where the table of powers of ten is as the library lays it. No other condition. And what follows it. -/
import Derived.Test.YteeibihhdldjfaaGreatDoorVeQ
import Derived.Lib.LaidTab
set_option linter.unusedVariables false
set_option linter.unusedSimpArgs false
namespace Go.Ve.T
open Go.Ve Go.Proofs Go.RowKit
noncomputable section
set_option maxRecDepth 100000
def gF (k : Nat) : gn := (bW PP k).getD ⟨0, [], .skip, false⟩
abbrev g (k : Nat) : Option gn := some (gF k)
theorem g1 {k : Nat} (h : (bW PP k).isSome = true) : ∀ a, g k = some a → bW PP k = some a := fun a e => by
 cases e
 cases hc : bW PP k with
 | none => rw [hc] at h; cases h
 | some x => unfold gF; rw [hc]; rfl
def Hd : List Value := FT.map fun r => .tuple ⟨[.agg ⟨r⟩, .bool true]⟩
def afR (vs : List Value) (h : AH) (k : CR → AH → Bool) : Bool := a1 vs fun v => jT v fun kd n => iff (eS kd .i64) (Int.casesOn (motive := fun _ => Bool) n (fun n => iff (Nat.ble 1 n && Nat.ble n 34)
 (nW Hd n fun c => k (.ret c) h)) mf)
def He : List Value := FT.flatten
def afS (vs : List Value) (h : AH) (k : CR → AH → Bool) : Bool := a0 vs (k (.ret (.agg ⟨He⟩)) h)
def sums : rQ := [(84, afR), (120, afS), (67, VF), (198, VG), (109, VH)]
def Om : NT gn := (.n (.n (.n (.n (.n (.n (.n (.n .e (g 127) .e) (g 63) (.n .e (g 191) .e)) (g 31) (.n (.n .e (g 159) .e) (g 95) .e)) (g 15) (.n (.n (.n .e (g 143) .e) (g 79) (.n .e (g 207) .e)) (g 47) (.n .e (g 111) .e))) (g 7) (.n (.n (.n (.n .e (g 135) .e) (g 71) (.n .e (g 199) .e)) (g 39) (.n .e (g 103) .e)) (g 23) (.n (.n (.n .e (g 151) .e) (g 87) (.n .e (g 215) .e)) (g 55) (.n (.n .e (g 183) .e) (g 119) .e)))) (g 3) (.n (.n (.n (.n (.n .e (g 131) .e) (g 67) .e) (g 35) (.n (.n .e (g 163) .e) (g 99) .e)) (g 19) (.n (.n (.n .e (g 147) .e) (g 83) (.n .e (g 211) .e)) (g 51) (.n (.n .e (g 179) .e) (g 115) .e))) (g 11) (.n (.n (.n (.n .e (g 139) .e) (g 75) .e) (g 43) (.n (.n .e (g 171) .e) (g 107) .e)) (g 27) (.n (.n (.n .e (g 155) .e) (g 91) .e) (g 59) (.n (.n .e (g 187) .e) (g 123) .e))))) none (.n (.n (.n (.n (.n (.n .e (g 129) .e) (g 65) (.n .e (g 193) .e)) (g 33) (.n (.n .e (g 161) .e) (g 97) .e)) (g 17) (.n (.n (.n .e (g 145) .e) (g 81) (.n .e (g 209) .e)) (g 49) (.n (.n .e (g 177) .e) (g 113) .e))) (g 9) (.n (.n (.n (.n .e (g 137) .e) (g 73) (.n .e (g 201) .e)) (g 41) (.n (.n .e (g 169) .e) (g 105) .e)) (g 25) (.n (.n (.n .e (g 153) .e) (g 89) (.n .e (g 217) .e)) (g 57) (.n (.n .e (g 185) .e) (g 121) .e)))) (g 5) (.n (.n (.n (.n (.n .e (g 133) .e) (g 69) (.n .e (g 197) .e)) (g 37) (.n (.n .e (g 165) .e) (g 101) .e)) (g 21) (.n (.n (.n .e (g 149) .e) (g 85) (.n .e (g 213) .e)) (g 53) (.n (.n .e (g 181) .e) (g 117) .e))) (g 13) (.n (.n (.n (.n .e (g 141) .e) (g 77) (.n .e (g 205) .e)) (g 45) (.n (.n .e (g 173) .e) (g 109) .e)) (g 29) (.n (.n (.n .e (g 157) .e) (g 93) .e) (g 61) (.n (.n .e (g 189) .e) (g 125) .e)))))) none (.n (.n (.n (.n (.n (.n (.n .e (g 128) .e) (g 64) (.n .e (g 192) .e)) (g 32) (.n (.n .e (g 160) .e) (g 96) .e)) (g 16) (.n (.n (.n .e (g 144) .e) (g 80) (.n .e (g 208) .e)) (g 48) (.n (.n .e (g 176) .e) (g 112) .e))) (g 8) (.n (.n (.n (.n .e (g 136) .e) (g 72) (.n .e (g 200) .e)) (g 40) (.n (.n .e (g 168) .e) (g 104) .e)) (g 24) (.n (.n (.n .e (g 152) .e) (g 88) (.n .e (g 216) .e)) (g 56) (.n (.n .e (g 184) .e) (g 120) .e)))) (g 4) (.n (.n (.n (.n (.n .e (g 132) .e) (g 68) (.n .e (g 196) .e)) (g 36) (.n (.n .e (g 164) .e) (g 100) .e)) (g 20) (.n (.n (.n .e (g 148) .e) (g 84) (.n .e (g 212) .e)) (g 52) (.n (.n .e (g 180) .e) (g 116) .e))) (g 12) (.n (.n (.n (.n .e (g 140) .e) (g 76) (.n .e (g 204) .e)) (g 44) (.n (.n .e (g 172) .e) (g 108) .e)) (g 28) (.n (.n (.n .e (g 156) .e) (g 92) .e) (g 60) (.n .e (g 124) .e))))) none (.n (.n (.n (.n (.n (.n .e (g 130) .e) (g 66) (.n .e (g 194) .e)) (g 34) (.n (.n .e (g 162) .e) (g 98) .e)) (g 18) (.n (.n (.n .e (g 146) .e) (g 82) (.n .e (g 210) .e)) (g 50) (.n (.n .e (g 178) .e) (g 114) .e))) (g 10) (.n (.n (.n (.n .e (g 138) .e) (g 74) (.n .e (g 202) .e)) (g 42) (.n (.n .e (g 170) .e) (g 106) .e)) (g 26) (.n (.n (.n .e (g 154) .e) (g 90) (.n .e (g 218) .e)) (g 58) (.n (.n .e (g 186) .e) (g 122) .e)))) (g 6) (.n (.n (.n (.n (.n .e (g 134) .e) (g 70) (.n .e (g 198) .e)) (g 38) (.n (.n .e (g 166) .e) (g 102) .e)) (g 22) (.n (.n (.n .e (g 150) .e) (g 86) (.n .e (g 214) .e)) (g 54) (.n (.n .e (g 182) .e) (g 118) .e))) (g 14) (.n (.n (.n (.n .e (g 142) .e) (g 78) (.n .e (g 206) .e)) (g 46) (.n (.n .e (g 174) .e) (g 110) .e)) (g 30) (.n (.n (.n .e (g 158) .e) (g 94) .e) (g 62) (.n (.n .e (g 190) .e) (g 126) .e)))))))
theorem afT : ∀ f af, Om.get f = some af → bW PP f = some af := NT.holds (Q := fun f af => bW PP f = some af) (t := Om) ⟨NT.no, ⟨NT.no, ⟨g1 (by kernel_rfl), ⟨g1 (by kernel_rfl), ⟨g1 (by kernel_rfl), ⟨g1 (by kernel_rfl), ⟨g1 (by kernel_rfl), ⟨g1 (by kernel_rfl), trivial, trivial⟩, ⟨g1 (by kernel_rfl), trivial, trivial⟩⟩, ⟨g1 (by kernel_rfl), ⟨g1 (by kernel_rfl), trivial, trivial⟩, trivial⟩⟩, ⟨g1 (by kernel_rfl), ⟨g1 (by kernel_rfl), ⟨g1 (by kernel_rfl), trivial, trivial⟩, ⟨g1 (by kernel_rfl), trivial, trivial⟩⟩, ⟨g1 (by kernel_rfl), trivial, trivial⟩⟩⟩, ⟨g1 (by kernel_rfl), ⟨g1 (by kernel_rfl), ⟨g1 (by kernel_rfl), ⟨g1 (by kernel_rfl), trivial, trivial⟩, ⟨g1 (by kernel_rfl), trivial, trivial⟩⟩, ⟨g1 (by kernel_rfl), trivial, trivial⟩⟩, ⟨g1 (by kernel_rfl), ⟨g1 (by kernel_rfl), ⟨g1 (by kernel_rfl), trivial, trivial⟩, ⟨g1 (by kernel_rfl), trivial, trivial⟩⟩, ⟨g1 (by kernel_rfl), ⟨g1 (by kernel_rfl), trivial, trivial⟩, trivial⟩⟩⟩⟩, ⟨g1 (by kernel_rfl), ⟨g1 (by kernel_rfl), ⟨g1 (by kernel_rfl), ⟨g1 (by kernel_rfl), ⟨g1 (by kernel_rfl), trivial, trivial⟩, trivial⟩, ⟨g1 (by kernel_rfl), ⟨g1 (by kernel_rfl), trivial, trivial⟩, trivial⟩⟩, ⟨g1 (by kernel_rfl), ⟨g1 (by kernel_rfl), ⟨g1 (by kernel_rfl), trivial, trivial⟩, ⟨g1 (by kernel_rfl), trivial, trivial⟩⟩, ⟨g1 (by kernel_rfl), ⟨g1 (by kernel_rfl), trivial, trivial⟩, trivial⟩⟩⟩, ⟨g1 (by kernel_rfl), ⟨g1 (by kernel_rfl), ⟨g1 (by kernel_rfl), ⟨g1 (by kernel_rfl), trivial, trivial⟩, trivial⟩, ⟨g1 (by kernel_rfl), ⟨g1 (by kernel_rfl), trivial, trivial⟩, trivial⟩⟩, ⟨g1 (by kernel_rfl), ⟨g1 (by kernel_rfl), ⟨g1 (by kernel_rfl), trivial, trivial⟩, trivial⟩, ⟨g1 (by kernel_rfl), ⟨g1 (by kernel_rfl), trivial, trivial⟩, trivial⟩⟩⟩⟩⟩, ⟨g1 (by kernel_rfl), ⟨g1 (by kernel_rfl), ⟨g1 (by kernel_rfl), ⟨g1 (by kernel_rfl), ⟨g1 (by kernel_rfl), ⟨g1 (by kernel_rfl), trivial, trivial⟩, ⟨g1 (by kernel_rfl), trivial, trivial⟩⟩, ⟨g1 (by kernel_rfl), ⟨g1 (by kernel_rfl), trivial, trivial⟩, trivial⟩⟩, ⟨g1 (by kernel_rfl), ⟨g1 (by kernel_rfl), ⟨g1 (by kernel_rfl), trivial, trivial⟩, ⟨g1 (by kernel_rfl), trivial, trivial⟩⟩, ⟨g1 (by kernel_rfl), ⟨g1 (by kernel_rfl), trivial, trivial⟩, trivial⟩⟩⟩, ⟨g1 (by kernel_rfl), ⟨g1 (by kernel_rfl), ⟨g1 (by kernel_rfl), ⟨g1 (by kernel_rfl), trivial, trivial⟩, ⟨g1 (by kernel_rfl), trivial, trivial⟩⟩, ⟨g1 (by kernel_rfl), ⟨g1 (by kernel_rfl), trivial, trivial⟩, trivial⟩⟩, ⟨g1 (by kernel_rfl), ⟨g1 (by kernel_rfl), ⟨g1 (by kernel_rfl), trivial, trivial⟩, ⟨g1 (by kernel_rfl), trivial, trivial⟩⟩, ⟨g1 (by kernel_rfl), ⟨g1 (by kernel_rfl), trivial, trivial⟩, trivial⟩⟩⟩⟩, ⟨g1 (by kernel_rfl), ⟨g1 (by kernel_rfl), ⟨g1 (by kernel_rfl), ⟨g1 (by kernel_rfl), ⟨g1 (by kernel_rfl), trivial, trivial⟩, ⟨g1 (by kernel_rfl), trivial, trivial⟩⟩, ⟨g1 (by kernel_rfl), ⟨g1 (by kernel_rfl), trivial, trivial⟩, trivial⟩⟩, ⟨g1 (by kernel_rfl), ⟨g1 (by kernel_rfl), ⟨g1 (by kernel_rfl), trivial, trivial⟩, ⟨g1 (by kernel_rfl), trivial, trivial⟩⟩, ⟨g1 (by kernel_rfl), ⟨g1 (by kernel_rfl), trivial, trivial⟩, trivial⟩⟩⟩, ⟨g1 (by kernel_rfl), ⟨g1 (by kernel_rfl), ⟨g1 (by kernel_rfl), ⟨g1 (by kernel_rfl), trivial, trivial⟩, ⟨g1 (by kernel_rfl), trivial, trivial⟩⟩, ⟨g1 (by kernel_rfl), ⟨g1 (by kernel_rfl), trivial, trivial⟩, trivial⟩⟩, ⟨g1 (by kernel_rfl), ⟨g1 (by kernel_rfl), ⟨g1 (by kernel_rfl), trivial, trivial⟩, trivial⟩, ⟨g1 (by kernel_rfl), ⟨g1 (by kernel_rfl), trivial, trivial⟩, trivial⟩⟩⟩⟩⟩⟩, ⟨NT.no, ⟨g1 (by kernel_rfl), ⟨g1 (by kernel_rfl), ⟨g1 (by kernel_rfl), ⟨g1 (by kernel_rfl), ⟨g1 (by kernel_rfl), ⟨g1 (by kernel_rfl), trivial, trivial⟩, ⟨g1 (by kernel_rfl), trivial, trivial⟩⟩, ⟨g1 (by kernel_rfl), ⟨g1 (by kernel_rfl), trivial, trivial⟩, trivial⟩⟩, ⟨g1 (by kernel_rfl), ⟨g1 (by kernel_rfl), ⟨g1 (by kernel_rfl), trivial, trivial⟩, ⟨g1 (by kernel_rfl), trivial, trivial⟩⟩, ⟨g1 (by kernel_rfl), ⟨g1 (by kernel_rfl), trivial, trivial⟩, trivial⟩⟩⟩, ⟨g1 (by kernel_rfl), ⟨g1 (by kernel_rfl), ⟨g1 (by kernel_rfl), ⟨g1 (by kernel_rfl), trivial, trivial⟩, ⟨g1 (by kernel_rfl), trivial, trivial⟩⟩, ⟨g1 (by kernel_rfl), ⟨g1 (by kernel_rfl), trivial, trivial⟩, trivial⟩⟩, ⟨g1 (by kernel_rfl), ⟨g1 (by kernel_rfl), ⟨g1 (by kernel_rfl), trivial, trivial⟩, ⟨g1 (by kernel_rfl), trivial, trivial⟩⟩, ⟨g1 (by kernel_rfl), ⟨g1 (by kernel_rfl), trivial, trivial⟩, trivial⟩⟩⟩⟩, ⟨g1 (by kernel_rfl), ⟨g1 (by kernel_rfl), ⟨g1 (by kernel_rfl), ⟨g1 (by kernel_rfl), ⟨g1 (by kernel_rfl), trivial, trivial⟩, ⟨g1 (by kernel_rfl), trivial, trivial⟩⟩, ⟨g1 (by kernel_rfl), ⟨g1 (by kernel_rfl), trivial, trivial⟩, trivial⟩⟩, ⟨g1 (by kernel_rfl), ⟨g1 (by kernel_rfl), ⟨g1 (by kernel_rfl), trivial, trivial⟩, ⟨g1 (by kernel_rfl), trivial, trivial⟩⟩, ⟨g1 (by kernel_rfl), ⟨g1 (by kernel_rfl), trivial, trivial⟩, trivial⟩⟩⟩, ⟨g1 (by kernel_rfl), ⟨g1 (by kernel_rfl), ⟨g1 (by kernel_rfl), ⟨g1 (by kernel_rfl), trivial, trivial⟩, ⟨g1 (by kernel_rfl), trivial, trivial⟩⟩, ⟨g1 (by kernel_rfl), ⟨g1 (by kernel_rfl), trivial, trivial⟩, trivial⟩⟩, ⟨g1 (by kernel_rfl), ⟨g1 (by kernel_rfl), ⟨g1 (by kernel_rfl), trivial, trivial⟩, trivial⟩, ⟨g1 (by kernel_rfl), trivial, trivial⟩⟩⟩⟩⟩, ⟨g1 (by kernel_rfl), ⟨g1 (by kernel_rfl), ⟨g1 (by kernel_rfl), ⟨g1 (by kernel_rfl), ⟨g1 (by kernel_rfl), ⟨g1 (by kernel_rfl), trivial, trivial⟩, ⟨g1 (by kernel_rfl), trivial, trivial⟩⟩, ⟨g1 (by kernel_rfl), ⟨g1 (by kernel_rfl), trivial, trivial⟩, trivial⟩⟩, ⟨g1 (by kernel_rfl), ⟨g1 (by kernel_rfl), ⟨g1 (by kernel_rfl), trivial, trivial⟩, ⟨g1 (by kernel_rfl), trivial, trivial⟩⟩, ⟨g1 (by kernel_rfl), ⟨g1 (by kernel_rfl), trivial, trivial⟩, trivial⟩⟩⟩, ⟨g1 (by kernel_rfl), ⟨g1 (by kernel_rfl), ⟨g1 (by kernel_rfl), ⟨g1 (by kernel_rfl), trivial, trivial⟩, ⟨g1 (by kernel_rfl), trivial, trivial⟩⟩, ⟨g1 (by kernel_rfl), ⟨g1 (by kernel_rfl), trivial, trivial⟩, trivial⟩⟩, ⟨g1 (by kernel_rfl), ⟨g1 (by kernel_rfl), ⟨g1 (by kernel_rfl), trivial, trivial⟩, ⟨g1 (by kernel_rfl), trivial, trivial⟩⟩, ⟨g1 (by kernel_rfl), ⟨g1 (by kernel_rfl), trivial, trivial⟩, trivial⟩⟩⟩⟩, ⟨g1 (by kernel_rfl), ⟨g1 (by kernel_rfl), ⟨g1 (by kernel_rfl), ⟨g1 (by kernel_rfl), ⟨g1 (by kernel_rfl), trivial, trivial⟩, ⟨g1 (by kernel_rfl), trivial, trivial⟩⟩, ⟨g1 (by kernel_rfl), ⟨g1 (by kernel_rfl), trivial, trivial⟩, trivial⟩⟩, ⟨g1 (by kernel_rfl), ⟨g1 (by kernel_rfl), ⟨g1 (by kernel_rfl), trivial, trivial⟩, ⟨g1 (by kernel_rfl), trivial, trivial⟩⟩, ⟨g1 (by kernel_rfl), ⟨g1 (by kernel_rfl), trivial, trivial⟩, trivial⟩⟩⟩, ⟨g1 (by kernel_rfl), ⟨g1 (by kernel_rfl), ⟨g1 (by kernel_rfl), ⟨g1 (by kernel_rfl), trivial, trivial⟩, ⟨g1 (by kernel_rfl), trivial, trivial⟩⟩, ⟨g1 (by kernel_rfl), ⟨g1 (by kernel_rfl), trivial, trivial⟩, trivial⟩⟩, ⟨g1 (by kernel_rfl), ⟨g1 (by kernel_rfl), ⟨g1 (by kernel_rfl), trivial, trivial⟩, trivial⟩, ⟨g1 (by kernel_rfl), ⟨g1 (by kernel_rfl), trivial, trivial⟩, trivial⟩⟩⟩⟩⟩⟩⟩
set_option maxHeartbeats 0 in
theorem afU : ev Om sums 1000000 (.call 12 [] ⟨0, .e⟩ fun r _ => match r with | .ret (.bool b) => b | _ => false) = true := by kernel_rfl
end
end Go.Ve.T
namespace Go.Ve.T
open Go.Ve Go.Proofs Go.RowKit
noncomputable section
set_option maxRecDepth 100000
theorem W1 {P : Program} {f : FuncId} {args : List Value} {args' : Array Value} {c : Value} {w : World} (hl : LR (fun _ => none) args args'.toList) (hc : vU c c = true) (H : WF P w f args ⟨0, .e⟩ fun r _ => r = .ret c) :
 Calls P f args' w fun e w' => e = .returned c ∧ Below w.heap.size w w' := by
 refine (H.2 (fun _ => none) args' w hl (HR.bare P w)).mono fun E w' hR => ?_
 obtain ⟨r, h', φ', h1, h2, h3, h4, h5⟩ := hR
 have hr := @of_decide_eq_true _ (Classical.propDecidable _) h1
 subst hr
 obtain ⟨v', rfl, hv⟩ := h5
 exact ⟨by rw [(Bs hc φ').2 v' hv], h4.below⟩
theorem afV : Hd.all (fun c => vU c c) = true := by kernel_rfl
theorem afW : ∀ n : Nat, 1 ≤ n → n ≤ 34 → Hd[n]? = some (.tuple ⟨[.agg ⟨qx n⟩, .bool (isOp n)]⟩) := fun n h1 h2 => by
 have hi : isOp n = true := by unfold isOp; rw [decide_eq_true_eq]; omega
 obtain ⟨x, x1, x2, _, _⟩ := WO (i := n) (by omega)
 have nU : qx (n : Int) = x := by unfold qx; rw [hi, if_pos rfl]; exact x2
 unfold Hd
 rw [List.getElem?_map, x1, nU, hi]; rfl
theorem W2 {P : Program} {w0 w : World} {nm : String} {k : IntKind} {zs : List Int} (hb : Below w0.heap.size w0 w) (ht : Lib.TabIs P w0 nm k zs) : Lib.TabIs P w nm k zs := by
 unfold Lib.TabIs World.var? at ht ⊢
 cases hg : P.globalNamed nm with
 | none => rw [hg] at ht; cases ht
 | some g =>
  rw [hg] at ht
  simp only [Option.bind_some] at ht ⊢
  cases ho : w0.heap[g]? with
  | none => rw [ho] at ht; cases ht
  | some o => rw [hb.block g (Array.getElem?_eq_some_iff.1 ho).1]; exact ht
theorem yG {k : Nat} (h : (bW PP k).isSome = true) : Can PP k := by
 obtain ⟨_, _, _, h, _⟩ := Lg (g1 h (gF k) rfl)
 exact h
theorem afX {w0 : World} (ht : Lib.TabIs PP w0 "internal/strconv.uint64pow10" .u64 Lib.pow10Tab) : Fg PP w0 sums := by
 intro p hp
 simp only [sums, List.mem_cons, List.not_mem_nil, or_false] at hp
 rcases hp with rfl | rfl | rfl | rfl | rfl
 · refine Bq (yG (by kernel_rfl)) fun args h k φ args' w e hl H => ?_
   obtain ⟨L, hL⟩ : ∃ L, args'.toList = L := ⟨_, rfl⟩
   rw [hL] at hl
   obtain ⟨v, rfl, e1⟩ := ew e
   obtain ⟨kd, n, rfl, e2⟩ := l6 e1
   obtain ⟨e3, e4⟩ := bT e2
   obtain rfl := mK e3
   cases n with
   | negSucc n => cases e4
   | ofNat n =>
    obtain ⟨e5, e6⟩ := bT (show iff (Nat.ble 1 n && Nat.ble n 34) _ = true from e4)
    rw [Bool.and_eq_true] at e5
    have n1 := Nat.le_of_ble_eq_true e5.1
    have n2 := Nat.le_of_ble_eq_true e5.2
    obtain ⟨c, hc, e7⟩ := Bu _ e6
    have hp := List.all_eq_true.1 afV c (List.mem_of_getElem? hc)
    rw [afW n n1 n2] at hc
    cases hc
    cases hl with
    | cons _ v' _ l' h1 h2 =>
     cases h2
     obtain rfl := h1.gg
     have ju : args' = #[.int .i64 (Int.ofNat n)] := by apply Array.ext'; rw [hL]
     subst ju
     exact ⟨_, _, (Bs hp φ).1, e7, W1 (.cons _ _ _ _ (.int _ _) .nil) hp (WQ (n : Int) fun h' _ _ => rfl)⟩
 · refine Bq (yG (by kernel_rfl)) fun args h k φ args' w e hl H => ?_
   have e1 : args = [] ∧ k (.ret (.agg ⟨He⟩)) h = true := by
    cases args with
    | nil => exact ⟨rfl, e⟩
    | cons _ _ => cases e
   obtain ⟨rfl, e1⟩ := e1
   have ju : args' = #[] := by
    cases fR : args'.toList with
    | nil => simpa using fR
    | cons _ _ => rw [fR] at hl; cases hl
   subst ju
   have hp : vU (.agg ⟨He⟩) (.agg ⟨He⟩) = true := by kernel_rfl
   exact ⟨_, _, (Bs hp φ).1, e1, W1 .nil hp (WM fun h' _ _ => rfl)⟩
 · exact aet (yG (by kernel_rfl)) fun n w h0 h1 hb => (Any.strconv_Itoa afY n h0 h1 w (W2 hb ht)).mono fun e w' ⟨he, k, os, hw⟩ => ⟨he, hw ▸ Lib.below_grow _ w (Nat.le_refl _) k os⟩
 · exact aeu (yG (by kernel_rfl)) fun s n w hl h => (Any.strconv_Atoi afZ s n hl h w).mono fun e w' ⟨he, t, hw⟩ => ⟨he, hw ▸ Lib.bytesWorld_below w _ t⟩
 · exact aev (yG (by kernel_rfl)) fun bk o c xs sep w h1 h2 h3 h4 h5 => Any.strings_Join af0 af1 bk o c xs sep w h1 h2 h3 h4 h5
theorem af2 {w0 : World} (ht : Lib.TabIs PP w0 "internal/strconv.uint64pow10" .u64 Lib.pow10Tab) (h : AH) (R : CR → AH → Prop) (hR : R (.ret (.bool true)) h) : WF PP w0 Ks [] h R := by
 refine ⟨yG (by kernel_rfl), fun φ args' w hl hh => ?_⟩
 have he : args' = #[] := by
  cases fR : args'.toList with
  | nil => simpa using fR
  | cons _ _ => rw [fR] at hl; cases hl
 subst he
 have hC : gq PP w 12 [] ⟨0, .e⟩ (fun r _ => match r with | .ret (.bool b) => b | _ => false) := UK bF afT (afX (W2 hh.below ht)) _ _ afU
 refine Calls.mono (hC.2 (fun _ => none) #[] w .nil (HR.bare PP w)) fun E w' hE => ?_
 obtain ⟨r, h', φ', h1, h2, h3, h4, h5⟩ := hE
 refine ⟨.ret (.bool true), h, φ, @decide_eq_true _ (Classical.propDecidable _) hR, Ext.refl _ _, Nat.le_refl _, HR.behind hh h4.below, ?_⟩
 cases r with
 | aQ v => cases h1
 | ret v =>
  obtain ⟨v', rfl, hv⟩ := h5
  cases v with
  | bool b =>
   have hb : b = true := h1
   subst hb
   exact ⟨v', rfl, by rw [hv.pT]; exact .bool _⟩
  | _ => cases h1
end
end Go.Ve.T
namespace Go.Ve.T
open Go.Ve Go.Proofs
class eA (w0 : World) : Prop where
 t : Lib.TabIs PP w0 "internal/strconv.uint64pow10" .u64 Lib.pow10Tab
def W3 : Option Bool := some true
theorem af3 {w0 : World} [T8 : eA w0] {g h : AH} {Q : CR → AH → Prop} {r : Bool} (sg : Sub g h) (ok : h.Ok) (M : W3 = some r) (H : ∀ (g' h' : AH), Sep ⟨g, h, []⟩ g' h' [] → Q (.ret (.bool r)) h') : WF PP w0 Ks [] h Q := by
 cases M
 exact af2 T8.t h Q (H g h (Sep.start sg ok))
end Go.Ve.T
namespace Go.Ve.T
open Go.Ve Go.Proofs
noncomputable section
set_option maxRecDepth 10000
def Hf (N : Nat) (y2 : Int) (mm : Int → Option Bool) : Option Bool :=
 mm (bf .i64 (y2 + 1))
def Hg (N : Nat) (x0 : List Int) (y2 : Int) (x1 : Int) (mm : Int → Option Bool) : Option Bool :=
(ix x0 y2).bind fun fo =>
 bif (decide (fo = x1)) then (
 some true) else (
 Hf N y2 mm)
def Hh (N : Nat)   : Option Bool :=
 some false
def BW (N : Nat) (x0 : List Int) (x1 : Int) (y2 : Int) (mm : Int → Option Bool) : Option Bool :=
 bif (decide (y2 < (x0.length : Int))) then (
 Hg N x0 y2 x1 mm) else (
 Hh N )
def BX (N : Nat) (x0 : List Int) (x1 : Int)  : Nat → Int → Option Bool
 | 0, _ => none
 | n + 1, y2 => BW N x0 x1 y2  (fun av => BX N x0 x1 n av)
def Hi (N : Nat) (x0 : List Int) (x1 : Int) : Option Bool :=
 BX N x0 x1 N 0
abbrev yH (c : Cx) (R : Value → W) (r : Bool) : Prop := ∀ (g' h' : AH), Sep c g' h' [] → R (.bool r) h'
theorem agk {w0 : World} [eA w0] {c : Cx} {g h : AH} {E R : Value → W} {r : Bool} {N : Nat} {y2 : Int} {k1 : Value → W} {mm : Int → Option Bool} {tX : AH} (M : Hf N y2 mm = some r) (S : Sep c g h [])  (BZ : Sub tX g) (B0 : ∀ {av : Int} {g2 h2 : AH}, mm av = some r → Sub tX g2 → Sep c g2 h2 [] → k1 (vi av) h2) (H : yH c R r) : J5 w0 E R (vi y2) k1 h := by
 unfold J5
 unfold Hf at M
 refine iw.2 ?_
 exact B0 M BZ S
theorem agl {w0 : World} [eA w0] {c : Cx} {g h : AH} {E R : Value → W} {r : Bool} {N : Nat} {x0 : List Int} {y2 x1 : Int} {bZ : Value} {k1 : Value → W} {mm : Int → Option Bool} {tX : AH} (M : Hg N x0 y2 x1 mm = some r) (S : Sep c g h []) (cA : ae (rI .i64) 1 g bZ x0) (BZ : Sub tX g) (B0 : ∀ {av : Int} {g2 h2 : AH}, mm av = some r → Sub tX g2 → Sep c g2 h2 [] → k1 (vi av) h2) (H : yH c R r) : J6 w0 E R bZ (vi y2) (vi x1) k1 h := by
 unfold J6
 unfold Hg at M
 obtain ⟨fo, lN, M⟩ := bind_some M
 refine ae.idx cA lN (fun wq Oq vs Ot wu rp => ?_)
 cases rp
 refine S.gr (wu 0 _ rfl) ?_
 refine cg.2 ?_
 refine bK (fun hc => ?_) (fun hc => ?_)
 · have M := aV hc M
   cases M
   exact H _ _  S.bJ
 · have M := aX hc M
   exact agk M S BZ B0 H
theorem agm {w0 : World} [eA w0] {c : Cx} {g h : AH} {E R : Value → W} {r : Bool} {N : Nat}   (M : Hh N  = some r) (S : Sep c g h [])   (H : yH c R r) : J4 w0 E R  h := by
 unfold J4
 unfold Hh at M
 cases M
 exact H _ _  S.bJ
theorem agn {w0 : World} [eA w0] {c : Cx} {g h : AH} {E R : Value → W} {r : Bool} {N : Nat} {x0 : List Int} {x1 y2 : Int} {bZ : Value} {k1 : Value → W} {mm : Int → Option Bool} {tX : AH} (M : BW N x0 x1 y2 mm = some r) (S : Sep c g h []) (cA : ae (rI .i64) 1 g bZ x0) (BZ : Sub tX g) (B0 : ∀ {av : Int} {g2 h2 : AH}, mm av = some r → Sub tX g2 → Sep c g2 h2 [] → k1 (vi av) h2) (H : yH c R r) : EE w0 E R bZ (vi x1) k1 (vi y2) h := by
 unfold EE
 unfold BW at M
 refine cA.len ?_
 refine jf.2 ?_
 refine bK (fun hc => ?_) (fun hc => ?_)
 · have M := aV hc M
   exact agl M S cA BZ B0 H
 · have M := aX hc M
   exact agm M S  H
theorem ago {w0 : World} [eA w0] {c : Cx} {E R : Value → W} {r : Bool} {N : Nat} {x0 : List Int} {x1 : Int} {bZ : Value}   (H : yH c R r) : ∀ (n : Nat) {y2 : Int} {g h : AH}, BX N x0 x1 n y2 = some r → Sep c g h [] → ae (rI .i64) 1 g bZ x0 → jX (α := Value) (fun k a => EE w0 E R bZ (vi x1) k a) n (vi y2) h := by
 intro n
 induction n with
 | zero =>
  intro y2  g h M S cA
  unfold BX at M; cases M
 | succ n ih =>
  intro y2  g h M S cA
  exact agn M S cA  (Sub.refl g) (fun M2 sub S2  => ih M2 S2 (ae.mono cA (fG .i64) sub) ) H
theorem agp {w0 : World} [eA w0] {g h : AH} {Q : CR → AH → Prop} {r : Bool} {N : Nat} {x0 : List Int} {x1 : Int} {bZ : Value} (M : Hi N x0 x1 = some r) (sg : Sub g h) (ok : h.Ok) (cA : ae (rI .i64) 1 g bZ x0) (H : yH ⟨g, h, []⟩ (fun v => Q (.ret v)) r) : WF PP w0 J7 [bZ, (vi x1)] h Q := by
 refine aa6 _ _ ?_
 have S := Sep.start sg ok
 unfold R7
 unfold Hi at M
 exact ⟨N, ago  H _ M S cA ⟩
def B1 (N : Nat) (v1 : ag) (dX : Bool)  : Option Bool :=
 bif dX then (
 some (decide (0 < (v1.aa.length : Int)))) else (
 some false)
def B2 (N : Nat) (v1 : ag) (v10 : Bool)  : Option Bool :=
 bif v10 then (
(yI N v1).bind fun bD =>
 B1 N v1 (decide ((bD.length : Int) = (v1.aa.length : Int)))) else (
 B1 N v1 false)
def B3 (N : Nat) (x0 : ag) : Option Bool :=
 bif (decide ((x0.aa.length : Int) ≤ 40)) then (
 B2 N x0 (decide ((x0.aB.length : Int) ≤ 8))) else (
 B2 N x0 false)
abbrev Ou (c : Cx) (R : Value → W) (r : Bool) : Prop := ∀ (g' h' : AH), Sep c g' h' [] → R (.bool r) h'
theorem W9 {w0 : World} [eA w0] {c : Cx} {g h : AH} {E R : Value → W} {r : Bool} {N : Nat} {v1 : ag} {dX : Bool} {ar : Nat} {aw ax : Value}  (M : B1 N v1 dX = some r) (S : Sep c g h [.bx ar [(.string v1.aO), (.string v1.aP), (vi v1.fArgs), (vi v1.aK), (vi v1.aL), aw, ax]]) (aA : ae aq.rep 4 g aw v1.aa) (aG : ae aE.rep 3 g ax v1.aB)  (H : Ou c R r) : J0 w0 E R (al ar 0) (.bool dX) h := by
 unfold J0
 unfold B1 at M
 cases hc : dX
 · have M := aX hc M
   refine aI (by decide) ?_
   refine aI (by decide) ?_
   refine aI (by decide) ?_
   refine aI (by decide) ?_
   refine bB.2 ?_
   cases M
   exact H _ _  S.bJ
 · have M := aV hc M
   refine aH rfl ?_
   refine cr.2 ?_
   refine aH rfl ?_
   refine S.bj 0 rfl rfl ?_
   refine aH rfl ?_
   refine aA.len ?_
   refine aH rfl ?_
   refine oY.2 ?_
   refine bB.2 ?_
   cases M
   exact H _ _  S.bJ
theorem Xa {w0 : World} [eA w0] {c : Cx} {g h : AH} {E R : Value → W} {r : Bool} {N : Nat} {v1 : ag} {v10 : Bool} {ar : Nat} {aw ax : Value}  (M : B2 N v1 v10 = some r) (S : Sep c g h [.bx ar [(.string v1.aO), (.string v1.aP), (vi v1.fArgs), (vi v1.aK), (vi v1.aL), aw, ax]]) (aA : ae aq.rep 4 g aw v1.aa) (aG : ae aE.rep 3 g ax v1.aB)  (H : Ou c R r) : J2 w0 E R (al ar 0) (.bool v10) h := by
 unfold J2
 unfold B2 at M
 cases hc : v10
 · have M := aX hc M
   refine aI (by decide) ?_
   refine aI (by decide) ?_
   refine aI (by decide) ?_
   refine aI (by decide) ?_
   refine aI (by decide) ?_
   refine Ov (by decide) ?_
   refine Ov (by decide) ?_
   refine Ov (by decide) ?_
   refine aI (by decide) ?_
   refine aI (by decide) ?_
   refine bB.2 ?_
   exact W9 M S aA aG H
 · have M := aV hc M
   refine aH rfl ?_
   refine S.c8 [(.string v1.aO), (.string v1.aP), (vi v1.fArgs), (vi v1.aK), (vi v1.aL), aw, ax] 0 rfl rfl rfl (by decide) ?_
   refine aH rfl ?_
   refine cr.2 ?_
   refine aH rfl ?_
   refine S.bj 0 rfl rfl ?_
   refine aH rfl ?_
   refine aA.len ?_
   refine aH rfl ?_
   obtain ⟨bD, jE, M⟩ := bind_some M
   refine Xb jE S.sub S.ok aA aG (fun g h w_4 S1 F_5 => ?_)
   have aA := ae.mono aA aq.mono S1.bQ
   have aG := ae.mono aG aE.mono S1.bQ
   have S := S.ni S1
   refine Ow rfl ?_
   refine ⟨?_, ?_⟩
   · refine aA.len ?_
     exact Hj
   · refine Ow rfl ?_
     refine ⟨?_, ?_⟩
     · refine S.bj 0 rfl rfl ?_
       exact aA.Hk
     · refine Ow rfl ?_
       refine ⟨?_, ?_⟩
       · refine cr.2 ?_
         exact agq
       · refine aH rfl ?_
         refine F_5.len ?_
         refine aH rfl ?_
         refine cg.2 ?_
         refine bB.2 ?_
         exact W9 M S aA aG H
theorem ags {w0 : World} [eA w0] {g h : AH} {Q : CR → AH → Prop} {r : Bool} {N : Nat} {x0 : ag} {cx cy : Value} (M : B3 N x0 = some r) (sg : Sub g h) (ok : h.Ok) (cu : ae aq.rep 4 g cx x0.aa) (cD : ae aE.rep 3 g cy x0.aB) (H : Ou ⟨g, h, []⟩ (fun v => Q (.ret v)) r) : WF PP w0 J3 [(.agg ⟨[(.string x0.aO), (.string x0.aP), (vi x0.fArgs), (vi x0.aK), (vi x0.aL), cx, cy]⟩)] h Q := by
 refine aa5 _ ?_
 have S := Sep.start sg ok
 unfold R6
 unfold B3 at M
 refine S.box [(.string x0.aO), (.string x0.aP), (vi x0.fArgs), (vi x0.aK), (vi x0.aL), cx, cy] rfl (ab rfl (ab rfl (ab rfl (ab rfl (ab rfl (ab cu.one (ab cD.one rfl))))))) (fun jF h S => ?_)
 refine cr.2 ?_
 refine S.bj 0 rfl rfl ?_
 refine cu.len ?_
 refine tQ.2 ?_
 cases hc : (decide ((x0.aa.length : Int) ≤ 40))
 · have M := aX hc M
   refine aI (by decide) ?_
   refine aI (by decide) ?_
   refine aI (by decide) ?_
   refine aI (by decide) ?_
   refine bB.2 ?_
   exact Xa M S cu cD H
 · have M := aV hc M
   refine aH rfl ?_
   refine cr.2 ?_
   refine aH rfl ?_
   refine S.bj 0 rfl rfl ?_
   refine aH rfl ?_
   refine cD.len ?_
   refine aH rfl ?_
   refine tQ.2 ?_
   refine bB.2 ?_
   exact Xa M S cu cD H
def Hl (N : Nat) (ak : Int) (mH : Int) (cG : Int) (da : ag) (bg : Int → Int → Int → Option Bool) : Option Bool :=
 bg mH cG (bf .i64 (ak + 1))
def wv (N : Nat) (ak : Int) (aW : Int) (xh : Int) (da : ag) (bg : Int → Int → Int → Option Bool) : Option Bool :=
 Hl N ak aW xh da bg
def yJ (N : Nat) (az : Int) (ak : Int) (aW : Int) (mD : Bool) (da : ag) (bg : Int → Int → Int → Option Bool) : Option Bool :=
 bif mD then (
 wv N ak aW (bf .i64 (az - 1)) da bg) else (
 wv N ak aW az da bg)
def B4 (N : Nat) (ak : Int) (aW : Int) (v31 : Int) (az : Int) (v1 : ag) (aR : Int) (jK : Bool) (bg : Int → Int → Int → Option Bool) : Option Bool :=
 bif jK then (
 wv N ak aW 0 v1 bg) else (
 bif (decide (v31 = 30)) then (
 wv N ak aW (bf .i64 (az + 1)) v1 bg) else (
 bif (decide (v31 = 31)) then (
 yJ N az ak aW true v1 bg) else (
 bif (decide (v31 = 32)) then (
(ix v1.aa aR).bind fun Xc =>
 yJ N az ak aW (decide (aW = Xc.fB)) v1 bg) else (
 yJ N az ak aW false v1 bg))))
def B5 (N : Nat) (v10 : Int) (bH : Bool) (ak : Int) (aW : Int) (v31 : Int) (az : Int) (v1 : ag) (aR : Int) (bg : Int → Int → Int → Option Bool) : Option Bool :=
 bif (decide (v10 = 0)) then (
 B4 N ak aW v31 az v1 aR bH bg) else (
 B4 N ak aW v31 az v1 aR false bg)
def B6 (N : Nat) (v10 : Int) (bH : Bool) (ak : Int) (aW : Int) (v31 : Int) (az : Int) (v1 : ag) (aR : Int) (nz : Bool) (bg : Int → Int → Int → Option Bool) : Option Bool :=
 bif nz then (
 some false) else (
 B5 N v10 bH ak aW v31 az v1 aR bg)
def yK (N : Nat) (v6 : List Int) (aW : Int) (v10 : Int) (bH : Bool) (ak : Int) (v31 : Int) (az : Int) (v1 : ag) (aR : Int) (v85 : Bool) (bg : Int → Int → Int → Option Bool) : Option Bool :=
 bif v85 then (
(Hi N v6 aW).bind fun Xd =>
 B6 N v10 bH ak aW v31 az v1 aR (!Xd) bg) else (
 B6 N v10 bH ak aW v31 az v1 aR false bg)
def yL (N : Nat) (aW : Int) (aR : Int) (v6 : List Int) (v10 : Int) (bH : Bool) (ak : Int) (v31 : Int) (az : Int) (v1 : ag) (v80 : Bool) (bg : Int → Int → Int → Option Bool) : Option Bool :=
 bif v80 then (
 yK N v6 aW v10 bH ak v31 az v1 aR true bg) else (
 yK N v6 aW v10 bH ak v31 az v1 aR (!decide (aW = (bf .i64 (aR + 1)))) bg)
def yM (N : Nat) (bH : Bool) (aW : Int) (aR : Int) (v6 : List Int) (v10 : Int) (ak : Int) (v31 : Int) (az : Int) (v1 : ag) (ik : Bool) (bg : Int → Int → Int → Option Bool) : Option Bool :=
 bif bH then (
 yL N aW aR v6 v10 true ak v31 az v1 true bg) else (
 yL N aW aR v6 v10 false ak v31 az v1 ik bg)
def B7 (N : Nat) (v31 : Int) (bH : Bool) (aW : Int) (aR : Int) (v6 : List Int) (v10 : Int) (ak : Int) (az : Int) (v1 : ag) (gI : Bool) (bg : Int → Int → Int → Option Bool) : Option Bool :=
 bif gI then (
 yM N bH aW aR v6 v10 ak v31 az v1 true bg) else (
 yM N bH aW aR v6 v10 ak v31 az v1 (decide (v31 = 32)) bg)
def yN (N : Nat) (v31 : Int) (aW : Int) (aR : Int) (v6 : List Int) (v10 : Int) (ak : Int) (az : Int) (v1 : ag) (bH : Bool) (bg : Int → Int → Int → Option Bool) : Option Bool :=
 bif (decide (v31 = 24)) then (
 B7 N v31 bH aW aR v6 v10 ak az v1 true bg) else (
 B7 N v31 bH aW aR v6 v10 ak az v1 (decide (v31 = 25)) bg)
def wx (N : Nat) (v1 : ag) (iG : Int) (aW : Int) (v31 : Int) (aR : Int) (v6 : List Int) (v10 : Int) (ak : Int) (az : Int) (fi : Bool) (bg : Int → Int → Int → Option Bool) : Option Bool :=
 bif fi then (
(ix v1.aB iG).bind fun Xe =>
 yN N v31 aW aR v6 v10 ak az v1 (decide (Xe.dM = aW)) bg) else (
 yN N v31 aW aR v6 v10 ak az v1 false bg)
def Hm (N : Nat) (x1 : List Int) (ak : Int) (dw : List Int) (v1 : ag) (aR : Int) (v6 : List Int) (v10 : Int) (az : Int) (bg : Int → Int → Int → Option Bool) : Option Bool :=
(ix x1 ak).bind fun qP =>
 gu (!decide ((dw.length : Int) = 0)) (
(ix dw (Int.tmod (bf .i64 qP) (dw.length : Int))).bind fun Ox =>
(ix v1.aa aR).bind fun Oy =>
(B8 N v1 aR).bind fun B9 =>
 bif (decide (0 ≤ B9)) then (
(ix v1.aa aR).bind fun Xf =>
(wy Xf).bind fun Xg =>
 wx N v1 B9 Ox Oy.aJ aR v6 v10 ak az Xg bg) else (
 wx N v1 B9 Ox Oy.aJ aR v6 v10 ak az false bg))
def Ca (N : Nat) (v1 : ag) (aR : Int) (v2 : Bool) (x1 : List Int) (ak : Int) (v6 : List Int) (v10 : Int) (az : Int) (bg : Int → Int → Int → Option Bool) : Option Bool :=
(Cb N v1 aR).bind fun sB =>
 bif (decide ((sB.length : Int) = 0)) then (
 some v2) else (
 Hm N x1 ak sB v1 aR v6 v10 az bg)
def tY (N : Nat) (v1 : ag) (aR : Int) (v2 : Bool) (x1 : List Int) (ak : Int) (v6 : List Int) (v10 : Int) (az : Int) (pR : Bool) (bg : Int → Int → Int → Option Bool) : Option Bool :=
 bif pR then (
 some false) else (
 Ca N v1 aR v2 x1 ak v6 v10 az bg)
def Hn (N : Nat) (v4 : List Bool) (aR : Int) (v10 : Int) (v9 : List Int) (az : Int) (v1 : ag) (v2 : Bool) (x1 : List Int) (ak : Int) (v6 : List Int) (bg : Int → Int → Int → Option Bool) : Option Bool :=
(ix v4 aR).bind fun ku =>
 bif (!ku) then (
 tY N v1 aR v2 x1 ak v6 v10 az true bg) else (
 bif (decide (v10 = 0)) then (
(ix v9 aR).bind fun Ho =>
 tY N v1 aR v2 x1 ak v6 v10 az (!decide (Ho = az)) bg) else (
 tY N v1 aR v2 x1 ak v6 v10 az false bg))
def Oz (N : Nat) (v2 : Bool)  : Option Bool :=
 some v2
def Cc (N : Nat) (x1 : List Int) (v4 : List Bool) (v10 : Int) (v9 : List Int) (v1 : ag) (v2 : Bool) (v6 : List Int) (aR : Int) (az : Int) (ak : Int) (bg : Int → Int → Int → Option Bool) : Option Bool :=
 bif (decide (ak < (x1.length : Int))) then (
 Hn N v4 aR v10 v9 az v1 v2 x1 ak v6 bg) else (
 Oz N v2)
def gV (N : Nat) (x1 : List Int) (v4 : List Bool) (v10 : Int) (v9 : List Int) (v1 : ag) (v2 : Bool) (v6 : List Int)  : Nat → Int → Int → Int → Option Bool
 | 0, _, _, _ => none
 | n + 1, aR, az, ak => Cc N x1 v4 v10 v9 v1 v2 v6 aR az ak  (fun av aY bR => gV N x1 v4 v10 v9 v1 v2 v6 n av aY bR)
def OA (N : Nat) (x1 : List Int) (v4 : List Bool) (v10 : Int) (v9 : List Int) (v1 : ag) (v2 : Bool) (v6 : List Int)  : Option Bool :=
 gV N x1 v4 v10 v9 v1 v2 v6 N 0 0 0
def Hp (N : Nat) (x1 : List Int) (v4 : List Bool) (v10 : Int) (v9 : List Int) (v1 : ag) (v2 : Bool) (v6 : List Int) (pS : Bool)  : Option Bool :=
 bif pS then (
 some false) else (
 OA N x1 v4 v10 v9 v1 v2 v6)
def Cd (N : Nat) (v1 : ag) (x1 : List Int) (v2 : Bool)  : Option Bool :=
(yI N v1).bind fun oa =>
(wz N v1).bind fun dH =>
(yO N v1).bind fun oc =>
 bif (!decide (oc.2 = 0)) then (
 Hp N x1 oa oc.2 oc.1 v1 v2 dH (!decide (oc.2 = 12))) else (
 Hp N x1 oa oc.2 oc.1 v1 v2 dH false)
def Ce (N : Nat) (v2 : Bool) (v1 : ag) (x1 : List Int) (ru : Bool)  : Option Bool :=
 bif ru then (
 some v2) else (
 Cd N v1 x1 v2)
def Hq (N : Nat) (x0 : ag) (x1 : List Int) : Option Bool :=
(W3 ).bind fun bD =>
(B3 N x0).bind fun jG =>
 bif (!jG) then (
 Ce N bD x0 x1 true) else (
 Ce N bD x0 x1 (decide (60 < (x1.length : Int))))
abbrev gW (c : Cx) (R : Value → W) (r : Bool) : Prop := ∀ (g' h' : AH), Sep c g' h' [] → R (.bool r) h'
theorem agt {w0 : World} [eA w0] {c : Cx} {g h : AH} {E R : Value → W} {r : Bool} {N : Nat} {ak mH cG : Int} {da : ag} {tZ : Nat} {o7 o9 : Value} {bA : Value → Value → Value → W} {bg : Int → Int → Int → Option Bool} {cV : AH} (M : Hl N ak mH cG da bg = some r) (S : Sep c g h [.bx tZ [(.string da.aO), (.string da.aP), (vi da.fArgs), (vi da.aK), (vi da.aL), o7, o9]]) (Cf : ae aq.rep 4 g o7 da.aa) (Cg : ae aE.rep 3 g o9 da.aB) (cW : Sub cV g) (c9 : ∀ {av aY bR : Int} {g2 h2 : AH}, bg av aY bR = some r → Sub cV g2 → Sep c g2 h2 [.bx tZ [(.string da.aO), (.string da.aP), (vi da.fArgs), (vi da.aK), (vi da.aL), o7, o9]] → bA (vi av) (vi aY) (vi bR) h2) (H : gW c R r) : J9 w0 E R (vi ak) bA (vi mH) (vi cG) h := by
 unfold J9
 unfold Hl at M
 refine iw.2 ?_
 exact c9 M cW S
theorem Hr {w0 : World} [eA w0] {c : Cx} {g h : AH} {E R : Value → W} {r : Bool} {N : Nat} {ak aW xh : Int} {da : ag} {tZ : Nat} {o7 o9 : Value} {bA : Value → Value → Value → W} {bg : Int → Int → Int → Option Bool} {cV : AH} (M : wv N ak aW xh da bg = some r) (S : Sep c g h [.bx tZ [(.string da.aO), (.string da.aP), (vi da.fArgs), (vi da.aK), (vi da.aL), o7, o9]]) (Cf : ae aq.rep 4 g o7 da.aa) (Cg : ae aE.rep 3 g o9 da.aB) (cW : Sub cV g) (c9 : ∀ {av aY bR : Int} {g2 h2 : AH}, bg av aY bR = some r → Sub cV g2 → Sep c g2 h2 [.bx tZ [(.string da.aO), (.string da.aP), (vi da.fArgs), (vi da.aK), (vi da.aL), o7, o9]] → bA (vi av) (vi aY) (vi bR) h2) (H : gW c R r) : xg w0 E R (vi ak) bA (vi aW) (vi xh) h := by
 unfold xg
 unfold wv at M
 exact agt M S Cf Cg cW c9 H
theorem OB {w0 : World} [eA w0] {c : Cx} {g h : AH} {E R : Value → W} {r : Bool} {N : Nat} {az ak aW : Int} {mD : Bool} {da : ag} {tZ : Nat} {o7 o9 : Value} {bA : Value → Value → Value → W} {bg : Int → Int → Int → Option Bool} {cV : AH} (M : yJ N az ak aW mD da bg = some r) (S : Sep c g h [.bx tZ [(.string da.aO), (.string da.aP), (vi da.fArgs), (vi da.aK), (vi da.aL), o7, o9]]) (Cf : ae aq.rep 4 g o7 da.aa) (Cg : ae aE.rep 3 g o9 da.aB) (cW : Sub cV g) (c9 : ∀ {av aY bR : Int} {g2 h2 : AH}, bg av aY bR = some r → Sub cV g2 → Sep c g2 h2 [.bx tZ [(.string da.aO), (.string da.aP), (vi da.fArgs), (vi da.aK), (vi da.aL), o7, o9]] → bA (vi av) (vi aY) (vi bR) h2) (H : gW c R r) : Ka w0 E R (vi az) (vi ak) bA (vi aW) (.bool mD) h := by
 unfold Ka
 unfold yJ at M
 refine bK (fun hc => ?_) (fun hc => ?_)
 · have M := aV hc M
   refine wg.2 ?_
   exact Hr M S Cf Cg cW c9 H
 · have M := aX hc M
   exact Hr M S Cf Cg cW c9 H
theorem Xh {w0 : World} [eA w0] {c : Cx} {g h : AH} {E R : Value → W} {r : Bool} {N : Nat} {ak aW v31 az : Int} {v1 : ag} {aR : Int} {jK : Bool} {ar : Nat} {aw ax : Value} {bA : Value → Value → Value → W} {bg : Int → Int → Int → Option Bool} {cV : AH} (M : B4 N ak aW v31 az v1 aR jK bg = some r) (S : Sep c g h [.bx ar [(.string v1.aO), (.string v1.aP), (vi v1.fArgs), (vi v1.aK), (vi v1.aL), aw, ax]]) (aA : ae aq.rep 4 g aw v1.aa) (aG : ae aE.rep 3 g ax v1.aB) (cW : Sub cV g) (c9 : ∀ {av aY bR : Int} {g2 h2 : AH}, bg av aY bR = some r → Sub cV g2 → Sep c g2 h2 [.bx ar [(.string v1.aO), (.string v1.aP), (vi v1.fArgs), (vi v1.aK), (vi v1.aL), aw, ax]] → bA (vi av) (vi aY) (vi bR) h2) (H : gW c R r) : Kb w0 E R (vi ak) bA (vi aW) (vi v31) (vi az) (al ar 0) (vi aR) (.bool jK) h := by
 unfold Kb
 unfold B4 at M
 refine bK (fun hc => ?_) (fun hc => ?_)
 · have M := aV hc M
   exact Hr M S aA aG cW c9 H
 · have M := aX hc M
   refine cg.2 ?_
   refine bK (fun hc => ?_) (fun hc => ?_)
   · have M := aV hc M
     refine iw.2 ?_
     exact Hr M S aA aG cW c9 H
   · have M := aX hc M
     refine cg.2 ?_
     cases hc : (decide (v31 = 31))
     · have M := aX hc M
       refine aH rfl ?_
       refine aH rfl ?_
       refine cg.2 ?_
       refine aH rfl ?_
       cases hc : (decide (v31 = 32))
       · have M := aX hc M
         refine aI (by decide) ?_
         refine aI (by decide) ?_
         refine aI (by decide) ?_
         refine aI (by decide) ?_
         refine aI (by decide) ?_
         refine aI (by decide) ?_
         refine aI (by decide) ?_
         refine aI (by decide) ?_
         refine aH rfl ?_
         refine bB.2 ?_
         refine bB.2 ?_
         exact OB M S aA aG cW c9 H
       · have M := aV hc M
         refine aH rfl ?_
         refine aH rfl ?_
         refine cr.2 ?_
         refine aH rfl ?_
         refine S.bj 0 rfl rfl ?_
         refine aH rfl ?_
         refine aH rfl ?_
         obtain ⟨Xc, agu, M⟩ := bind_some M
         refine ae.idx aA agu (fun alY alZ vs al0 agv rp => ?_)
         cases rp
         refine aH rfl ?_
         refine cr.2 ?_
         refine aH rfl ?_
         refine S.gr (agv 2 _ rfl) ?_
         refine aH rfl ?_
         refine cg.2 ?_
         refine aH rfl ?_
         refine bB.2 ?_
         refine bB.2 ?_
         exact OB M S aA aG cW c9 H
     · have M := aV hc M
       refine aI (by decide) ?_
       refine aI (by decide) ?_
       refine aI (by decide) ?_
       refine jg ?_
       refine jg ?_
       refine jg ?_
       refine jg ?_
       refine jg ?_
       refine jg ?_
       refine jg ?_
       refine jg ?_
       refine aI (by decide) ?_
       refine bB.2 ?_
       exact OB M S aA aG cW c9 H
theorem agw {w0 : World} [eA w0] {c : Cx} {g h : AH} {E R : Value → W} {r : Bool} {N : Nat} {v10 : Int} {bH : Bool} {ak aW v31 az : Int} {v1 : ag} {aR : Int} {ar : Nat} {aw ax : Value} {bA : Value → Value → Value → W} {bg : Int → Int → Int → Option Bool} {cV : AH} (M : B5 N v10 bH ak aW v31 az v1 aR bg = some r) (S : Sep c g h [.bx ar [(.string v1.aO), (.string v1.aP), (vi v1.fArgs), (vi v1.aK), (vi v1.aL), aw, ax]]) (aA : ae aq.rep 4 g aw v1.aa) (aG : ae aE.rep 3 g ax v1.aB) (cW : Sub cV g) (c9 : ∀ {av aY bR : Int} {g2 h2 : AH}, bg av aY bR = some r → Sub cV g2 → Sep c g2 h2 [.bx ar [(.string v1.aO), (.string v1.aP), (vi v1.fArgs), (vi v1.aK), (vi v1.aL), aw, ax]] → bA (vi av) (vi aY) (vi bR) h2) (H : gW c R r) : Kc w0 E R (vi v10) (.bool bH) (vi ak) bA (vi aW) (vi v31) (vi az) (al ar 0) (vi aR) h := by
 unfold Kc
 unfold B5 at M
 refine cg.2 ?_
 cases hc : (decide (v10 = 0))
 · have M := aX hc M
   refine aI (by decide) ?_
   refine bB.2 ?_
   exact Xh M S aA aG cW c9 H
 · have M := aV hc M
   refine aH rfl ?_
   refine bB.2 ?_
   exact Xh M S aA aG cW c9 H
theorem Xi {w0 : World} [eA w0] {c : Cx} {g h : AH} {E R : Value → W} {r : Bool} {N : Nat} {v10 : Int} {bH : Bool} {ak aW v31 az : Int} {v1 : ag} {aR : Int} {nz : Bool} {ar : Nat} {aw ax : Value} {bA : Value → Value → Value → W} {bg : Int → Int → Int → Option Bool} {cV : AH} (M : B6 N v10 bH ak aW v31 az v1 aR nz bg = some r) (S : Sep c g h [.bx ar [(.string v1.aO), (.string v1.aP), (vi v1.fArgs), (vi v1.aK), (vi v1.aL), aw, ax]]) (aA : ae aq.rep 4 g aw v1.aa) (aG : ae aE.rep 3 g ax v1.aB) (cW : Sub cV g) (c9 : ∀ {av aY bR : Int} {g2 h2 : AH}, bg av aY bR = some r → Sub cV g2 → Sep c g2 h2 [.bx ar [(.string v1.aO), (.string v1.aP), (vi v1.fArgs), (vi v1.aK), (vi v1.aL), aw, ax]] → bA (vi av) (vi aY) (vi bR) h2) (H : gW c R r) : Kd w0 E R (vi v10) (.bool bH) (vi ak) bA (vi aW) (vi v31) (vi az) (al ar 0) (vi aR) (.bool nz) h := by
 unfold Kd
 unfold B6 at M
 refine bK (fun hc => ?_) (fun hc => ?_)
 · have M := aV hc M
   cases M
   exact H _ _  S.bJ
 · have M := aX hc M
   exact agw M S aA aG cW c9 H
theorem Xj {w0 : World} [eA w0] {c : Cx} {g h : AH} {E R : Value → W} {r : Bool} {N : Nat} {v6 : List Int} {aW v10 : Int} {bH : Bool} {ak v31 az : Int} {v1 : ag} {aR : Int} {v85 : Bool} {dI : Value} {ar : Nat} {aw ax : Value} {bA : Value → Value → Value → W} {bg : Int → Int → Int → Option Bool} {cV : AH} (M : yK N v6 aW v10 bH ak v31 az v1 aR v85 bg = some r) (S : Sep c g h [.bx ar [(.string v1.aO), (.string v1.aP), (vi v1.fArgs), (vi v1.aK), (vi v1.aL), aw, ax]]) (dU : ae (rI .i64) 1 g dI v6) (aA : ae aq.rep 4 g aw v1.aa) (aG : ae aE.rep 3 g ax v1.aB) (cW : Sub cV g) (c9 : ∀ {av aY bR : Int} {g2 h2 : AH}, bg av aY bR = some r → Sub cV g2 → Sep c g2 h2 [.bx ar [(.string v1.aO), (.string v1.aP), (vi v1.fArgs), (vi v1.aK), (vi v1.aL), aw, ax]] → bA (vi av) (vi aY) (vi bR) h2) (H : gW c R r) : Ke w0 E R dI (vi aW) (vi v10) (.bool bH) (vi ak) bA (vi v31) (vi az) (al ar 0) (vi aR) (.bool v85) h := by
 unfold Ke
 unfold yK at M
 cases hc : v85
 · have M := aX hc M
   refine aI (by decide) ?_
   refine aI (by decide) ?_
   refine aI (by decide) ?_
   refine aI (by decide) ?_
   refine bB.2 ?_
   exact Xi M S aA aG cW c9 H
 · have M := aV hc M
   refine aH rfl ?_
   refine aH rfl ?_
   refine aH rfl ?_
   obtain ⟨Xd, agx, M⟩ := bind_some M
   refine agp agx S.sub S.ok dU (fun _ h  S1  => ?_)
   have S := S.eo S1
   refine aH rfl ?_
   refine fy.2 ?_
   refine bB.2 ?_
   exact Xi M S aA aG cW c9 H
theorem Xk {w0 : World} [eA w0] {c : Cx} {g h : AH} {E R : Value → W} {r : Bool} {N : Nat} {aW aR : Int} {v6 : List Int} {v10 : Int} {bH : Bool} {ak v31 az : Int} {v1 : ag} {v80 : Bool} {dI : Value} {ar : Nat} {aw ax : Value} {bA : Value → Value → Value → W} {bg : Int → Int → Int → Option Bool} {cV : AH} (M : yL N aW aR v6 v10 bH ak v31 az v1 v80 bg = some r) (S : Sep c g h [.bx ar [(.string v1.aO), (.string v1.aP), (vi v1.fArgs), (vi v1.aK), (vi v1.aL), aw, ax]]) (dU : ae (rI .i64) 1 g dI v6) (aA : ae aq.rep 4 g aw v1.aa) (aG : ae aE.rep 3 g ax v1.aB) (cW : Sub cV g) (c9 : ∀ {av aY bR : Int} {g2 h2 : AH}, bg av aY bR = some r → Sub cV g2 → Sep c g2 h2 [.bx ar [(.string v1.aO), (.string v1.aP), (vi v1.fArgs), (vi v1.aK), (vi v1.aL), aw, ax]] → bA (vi av) (vi aY) (vi bR) h2) (H : gW c R r) : Kf w0 E R (vi aW) (vi aR) dI (vi v10) (.bool bH) (vi ak) bA (vi v31) (vi az) (al ar 0) (.bool v80) h := by
 unfold Kf
 unfold yL at M
 cases hc : v80
 · have M := aX hc M
   refine aH rfl ?_
   refine aH rfl ?_
   refine aH rfl ?_
   refine iw.2 ?_
   refine aH rfl ?_
   refine tP.2 ?_
   refine bB.2 ?_
   exact Xj M S dU aA aG cW c9 H
 · have M := aV hc M
   refine aI (by decide) ?_
   refine aI (by decide) ?_
   refine aI (by decide) ?_
   refine aI (by decide) ?_
   refine bB.2 ?_
   exact Xj M S dU aA aG cW c9 H
theorem Xl {w0 : World} [eA w0] {c : Cx} {g h : AH} {E R : Value → W} {r : Bool} {N : Nat} {bH : Bool} {aW aR : Int} {v6 : List Int} {v10 ak v31 az : Int} {v1 : ag} {ik : Bool} {dI : Value} {ar : Nat} {aw ax : Value} {bA : Value → Value → Value → W} {bg : Int → Int → Int → Option Bool} {cV : AH} (M : yM N bH aW aR v6 v10 ak v31 az v1 ik bg = some r) (S : Sep c g h [.bx ar [(.string v1.aO), (.string v1.aP), (vi v1.fArgs), (vi v1.aK), (vi v1.aL), aw, ax]]) (dU : ae (rI .i64) 1 g dI v6) (aA : ae aq.rep 4 g aw v1.aa) (aG : ae aE.rep 3 g ax v1.aB) (cW : Sub cV g) (c9 : ∀ {av aY bR : Int} {g2 h2 : AH}, bg av aY bR = some r → Sub cV g2 → Sep c g2 h2 [.bx ar [(.string v1.aO), (.string v1.aP), (vi v1.fArgs), (vi v1.aK), (vi v1.aL), aw, ax]] → bA (vi av) (vi aY) (vi bR) h2) (H : gW c R r) : Kg w0 E R (.bool bH) (vi aW) (vi aR) dI (vi v10) (vi ak) bA (vi v31) (vi az) (al ar 0) (.bool ik) h := by
 unfold Kg
 unfold yM at M
 cases hc : bH
 · have M := aX hc M
   refine aH rfl ?_
   refine bB.2 ?_
   exact Xk M S dU aA aG cW c9 H
 · have M := aV hc M
   refine aI (by decide) ?_
   refine bB.2 ?_
   exact Xk M S dU aA aG cW c9 H
theorem Xm {w0 : World} [eA w0] {c : Cx} {g h : AH} {E R : Value → W} {r : Bool} {N : Nat} {v31 : Int} {bH : Bool} {aW aR : Int} {v6 : List Int} {v10 ak az : Int} {v1 : ag} {gI : Bool} {dI : Value} {ar : Nat} {aw ax : Value} {bA : Value → Value → Value → W} {bg : Int → Int → Int → Option Bool} {cV : AH} (M : B7 N v31 bH aW aR v6 v10 ak az v1 gI bg = some r) (S : Sep c g h [.bx ar [(.string v1.aO), (.string v1.aP), (vi v1.fArgs), (vi v1.aK), (vi v1.aL), aw, ax]]) (dU : ae (rI .i64) 1 g dI v6) (aA : ae aq.rep 4 g aw v1.aa) (aG : ae aE.rep 3 g ax v1.aB) (cW : Sub cV g) (c9 : ∀ {av aY bR : Int} {g2 h2 : AH}, bg av aY bR = some r → Sub cV g2 → Sep c g2 h2 [.bx ar [(.string v1.aO), (.string v1.aP), (vi v1.fArgs), (vi v1.aK), (vi v1.aL), aw, ax]] → bA (vi av) (vi aY) (vi bR) h2) (H : gW c R r) : Kh w0 E R (vi v31) (.bool bH) (vi aW) (vi aR) dI (vi v10) (vi ak) bA (vi az) (al ar 0) (.bool gI) h := by
 unfold Kh
 unfold B7 at M
 cases hc : gI
 · have M := aX hc M
   refine aH rfl ?_
   refine aH rfl ?_
   refine cg.2 ?_
   refine bB.2 ?_
   exact Xl M S dU aA aG cW c9 H
 · have M := aV hc M
   refine aI (by decide) ?_
   refine aI (by decide) ?_
   refine bB.2 ?_
   exact Xl M S dU aA aG cW c9 H
theorem Xn {w0 : World} [eA w0] {c : Cx} {g h : AH} {E R : Value → W} {r : Bool} {N : Nat} {v31 aW aR : Int} {v6 : List Int} {v10 ak az : Int} {v1 : ag} {bH : Bool} {dI : Value} {ar : Nat} {aw ax : Value} {bA : Value → Value → Value → W} {bg : Int → Int → Int → Option Bool} {cV : AH} (M : yN N v31 aW aR v6 v10 ak az v1 bH bg = some r) (S : Sep c g h [.bx ar [(.string v1.aO), (.string v1.aP), (vi v1.fArgs), (vi v1.aK), (vi v1.aL), aw, ax]]) (dU : ae (rI .i64) 1 g dI v6) (aA : ae aq.rep 4 g aw v1.aa) (aG : ae aE.rep 3 g ax v1.aB) (cW : Sub cV g) (c9 : ∀ {av aY bR : Int} {g2 h2 : AH}, bg av aY bR = some r → Sub cV g2 → Sep c g2 h2 [.bx ar [(.string v1.aO), (.string v1.aP), (vi v1.fArgs), (vi v1.aK), (vi v1.aL), aw, ax]] → bA (vi av) (vi aY) (vi bR) h2) (H : gW c R r) : Ki w0 E R (vi v31) (vi aW) (vi aR) dI (vi v10) (vi ak) bA (vi az) (al ar 0) (.bool bH) h := by
 unfold Ki
 unfold yN at M
 refine cg.2 ?_
 cases hc : (decide (v31 = 24))
 · have M := aX hc M
   refine aH rfl ?_
   refine aH rfl ?_
   refine cg.2 ?_
   refine bB.2 ?_
   exact Xm M S dU aA aG cW c9 H
 · have M := aV hc M
   refine aI (by decide) ?_
   refine aI (by decide) ?_
   refine bB.2 ?_
   exact Xm M S dU aA aG cW c9 H
theorem Xo {w0 : World} [eA w0] {c : Cx} {g h : AH} {E R : Value → W} {r : Bool} {N : Nat} {v1 : ag} {iG aW v31 aR : Int} {v6 : List Int} {v10 ak az : Int} {fi : Bool} {ar : Nat} {aw ax dI : Value} {bA : Value → Value → Value → W} {bg : Int → Int → Int → Option Bool} {cV : AH} (M : wx N v1 iG aW v31 aR v6 v10 ak az fi bg = some r) (S : Sep c g h [.bx ar [(.string v1.aO), (.string v1.aP), (vi v1.fArgs), (vi v1.aK), (vi v1.aL), aw, ax]]) (aA : ae aq.rep 4 g aw v1.aa) (aG : ae aE.rep 3 g ax v1.aB) (dU : ae (rI .i64) 1 g dI v6) (cW : Sub cV g) (c9 : ∀ {av aY bR : Int} {g2 h2 : AH}, bg av aY bR = some r → Sub cV g2 → Sep c g2 h2 [.bx ar [(.string v1.aO), (.string v1.aP), (vi v1.fArgs), (vi v1.aK), (vi v1.aL), aw, ax]] → bA (vi av) (vi aY) (vi bR) h2) (H : gW c R r) : Kj w0 E R (al ar 0) (vi iG) (vi aW) (vi v31) (vi aR) dI (vi v10) (vi ak) bA (vi az) (.bool fi) h := by
 unfold Kj
 unfold wx at M
 cases hc : fi
 · have M := aX hc M
   refine aI (by decide) ?_
   refine aI (by decide) ?_
   refine aI (by decide) ?_
   refine aI (by decide) ?_
   refine aI (by decide) ?_
   refine aI (by decide) ?_
   refine aI (by decide) ?_
   refine aI (by decide) ?_
   refine bB.2 ?_
   exact Xn M S dU aA aG cW c9 H
 · have M := aV hc M
   refine aH rfl ?_
   refine cr.2 ?_
   refine aH rfl ?_
   refine S.bj 0 rfl rfl ?_
   refine aH rfl ?_
   refine aH rfl ?_
   obtain ⟨Xe, agy, M⟩ := bind_some M
   refine ae.idx aG agy (fun al1 al2 vs al3 agz rp => ?_)
   cases rp
   refine aH rfl ?_
   refine cr.2 ?_
   refine aH rfl ?_
   refine S.gr (agz 2 _ rfl) ?_
   refine aH rfl ?_
   refine aH rfl ?_
   refine cg.2 ?_
   refine bB.2 ?_
   exact Xn M S dU aA aG cW c9 H
theorem agA {w0 : World} [eA w0] {c : Cx} {g h : AH} {E R : Value → W} {r : Bool} {N : Nat} {x1 : List Int} {ak : Int} {dw : List Int} {v1 : ag} {aR : Int} {v6 : List Int} {v10 az : Int} {bS Xp : Value} {ar : Nat} {aw ax dI : Value} {bA : Value → Value → Value → W} {bg : Int → Int → Int → Option Bool} {cV : AH} (M : Hm N x1 ak dw v1 aR v6 v10 az bg = some r) (S : Sep c g h [.bx ar [(.string v1.aO), (.string v1.aP), (vi v1.fArgs), (vi v1.aK), (vi v1.aL), aw, ax]]) (bX : ae (rI .u8) 1 g bS x1) (Xq : ae (rI .i64) 1 g Xp dw) (aA : ae aq.rep 4 g aw v1.aa) (aG : ae aE.rep 3 g ax v1.aB) (dU : ae (rI .i64) 1 g dI v6) (cW : Sub cV g) (c9 : ∀ {av aY bR : Int} {g2 h2 : AH}, bg av aY bR = some r → Sub cV g2 → Sep c g2 h2 [.bx ar [(.string v1.aO), (.string v1.aP), (vi v1.fArgs), (vi v1.aK), (vi v1.aL), aw, ax]] → bA (vi av) (vi aY) (vi bR) h2) (H : gW c R r) : Kk w0 E R bS (vi ak) Xp (al ar 0) (vi aR) dI (vi v10) bA (vi az) h := by
 unfold Kk
 unfold Hm at M
 obtain ⟨qP, yP, M⟩ := bind_some M
 refine ae.idx bX yP (fun agB agC vs al4 agD rp => ?_)
 cases rp
 refine S.gr (agD 0 _ rfl) ?_
 refine Gp.2 ?_
 refine Xq.len ?_
 obtain ⟨agE, M⟩ := qQ M
 refine (aeS (by simpa using agE)).2 ?_
 obtain ⟨Ox, agF, M⟩ := bind_some M
 refine ae.idx Xq agF (fun al5 al6 vs Xr agG rp => ?_)
 cases rp
 refine S.gr (agG 0 _ rfl) ?_
 refine cr.2 ?_
 refine S.bj 0 rfl rfl ?_
 obtain ⟨Oy, agH, M⟩ := bind_some M
 refine ae.idx aA agH (fun al7 al8 vs al9 agI rp => ?_)
 cases rp
 refine cr.2 ?_
 refine S.gr (agI 0 _ rfl) ?_
 refine S.c8 [(.string v1.aO), (.string v1.aP), (vi v1.fArgs), (vi v1.aK), (vi v1.aL), aw, ax] 0 rfl rfl rfl (by decide) ?_
 obtain ⟨B9, agJ, M⟩ := bind_some M
 refine agK agJ S.sub S.ok aA aG (fun _ h  S1  => ?_)
 have S := S.eo S1
 refine qo.2 ?_
 cases hc : (decide (0 ≤ B9))
 · have M := aX hc M
   refine aI (by decide) ?_
   refine aI (by decide) ?_
   refine aI (by decide) ?_
   refine aI (by decide) ?_
   refine aI (by decide) ?_
   refine aI (by decide) ?_
   refine bB.2 ?_
   exact Xo M S aA aG dU cW c9 H
 · have M := aV hc M
   refine aH rfl ?_
   refine cr.2 ?_
   refine aH rfl ?_
   refine S.bj 0 rfl rfl ?_
   refine aH rfl ?_
   refine aH rfl ?_
   obtain ⟨Xf, agL, M⟩ := bind_some M
   refine ae.idx aA agL (fun ama amb vs Xs agM rp => ?_)
   cases rp
   refine aH rfl ?_
   refine S.ua agM rfl (by decide) ?_
   refine aH rfl ?_
   obtain ⟨Xg, agN, M⟩ := bind_some M
   refine agO agN S.sub S.ok (fun _ h  S1  => ?_)
   have S := S.eo S1
   refine bB.2 ?_
   exact Xo M S aA aG dU cW c9 H
theorem agP {w0 : World} [eA w0] {c : Cx} {g h : AH} {E R : Value → W} {r : Bool} {N : Nat} {v1 : ag} {aR : Int} {v2 : Bool} {x1 : List Int} {ak : Int} {v6 : List Int} {v10 az : Int} {ar : Nat} {aw ax bS dI : Value} {bA : Value → Value → Value → W} {bg : Int → Int → Int → Option Bool} {cV : AH} (M : Ca N v1 aR v2 x1 ak v6 v10 az bg = some r) (S : Sep c g h [.bx ar [(.string v1.aO), (.string v1.aP), (vi v1.fArgs), (vi v1.aK), (vi v1.aL), aw, ax]]) (aA : ae aq.rep 4 g aw v1.aa) (aG : ae aE.rep 3 g ax v1.aB) (bX : ae (rI .u8) 1 g bS x1) (dU : ae (rI .i64) 1 g dI v6) (cW : Sub cV g) (c9 : ∀ {av aY bR : Int} {g2 h2 : AH}, bg av aY bR = some r → Sub cV g2 → Sep c g2 h2 [.bx ar [(.string v1.aO), (.string v1.aP), (vi v1.fArgs), (vi v1.aK), (vi v1.aL), aw, ax]] → bA (vi av) (vi aY) (vi bR) h2) (H : gW c R r) : Kl w0 E R (al ar 0) (vi aR) (.bool v2) bS (vi ak) dI (vi v10) bA (vi az) h := by
 unfold Kl
 unfold Ca at M
 refine S.c8 [(.string v1.aO), (.string v1.aP), (vi v1.fArgs), (vi v1.aK), (vi v1.aL), aw, ax] 0 rfl rfl rfl (by decide) ?_
 obtain ⟨sB, Ch, M⟩ := bind_some M
 refine agQ Ch S.sub S.ok aA aG (fun g h Xt S1 qR => ?_)
 have bX := ae.mono bX (fG .u8) S1.bQ
 have dU := ae.mono dU (fG .i64) S1.bQ
 have aA := ae.mono aA aq.mono S1.bQ
 have aG := ae.mono aG aE.mono S1.bQ
 have cW := Sub.trans cW S1.bQ
 have S := S.ni S1
 refine qR.len ?_
 refine cg.2 ?_
 refine bK (fun hc => ?_) (fun hc => ?_)
 · have M := aV hc M
   cases M
   exact H _ _  S.bJ
 · have M := aX hc M
   exact agA M S bX qR aA aG dU cW c9 H
theorem OC {w0 : World} [eA w0] {c : Cx} {g h : AH} {E R : Value → W} {r : Bool} {N : Nat} {v1 : ag} {aR : Int} {v2 : Bool} {x1 : List Int} {ak : Int} {v6 : List Int} {v10 az : Int} {pR : Bool} {ar : Nat} {aw ax bS dI : Value} {bA : Value → Value → Value → W} {bg : Int → Int → Int → Option Bool} {cV : AH} (M : tY N v1 aR v2 x1 ak v6 v10 az pR bg = some r) (S : Sep c g h [.bx ar [(.string v1.aO), (.string v1.aP), (vi v1.fArgs), (vi v1.aK), (vi v1.aL), aw, ax]]) (aA : ae aq.rep 4 g aw v1.aa) (aG : ae aE.rep 3 g ax v1.aB) (bX : ae (rI .u8) 1 g bS x1) (dU : ae (rI .i64) 1 g dI v6) (cW : Sub cV g) (c9 : ∀ {av aY bR : Int} {g2 h2 : AH}, bg av aY bR = some r → Sub cV g2 → Sep c g2 h2 [.bx ar [(.string v1.aO), (.string v1.aP), (vi v1.fArgs), (vi v1.aK), (vi v1.aL), aw, ax]] → bA (vi av) (vi aY) (vi bR) h2) (H : gW c R r) : Km w0 E R (al ar 0) (vi aR) (.bool v2) bS (vi ak) dI (vi v10) bA (vi az) (.bool pR) h := by
 unfold Km
 unfold tY at M
 refine bK (fun hc => ?_) (fun hc => ?_)
 · have M := aV hc M
   cases M
   exact H _ _  S.bJ
 · have M := aX hc M
   exact agP M S aA aG bX dU cW c9 H
theorem agR {w0 : World} [eA w0] {c : Cx} {g h : AH} {E R : Value → W} {r : Bool} {N : Nat} {v4 : List Bool} {aR v10 : Int} {v9 : List Int} {az : Int} {v1 : ag} {v2 : Bool} {x1 : List Int} {ak : Int} {v6 : List Int} {jY dc : Value} {ar : Nat} {aw ax bS dI : Value} {bA : Value → Value → Value → W} {bg : Int → Int → Int → Option Bool} {cV : AH} (M : Hn N v4 aR v10 v9 az v1 v2 x1 ak v6 bg = some r) (S : Sep c g h [.bx ar [(.string v1.aO), (.string v1.aP), (vi v1.fArgs), (vi v1.aK), (vi v1.aL), aw, ax]]) (nj : ae rB 1 g jY v4) (pa : ae (rI .i64) 1 g dc v9) (aA : ae aq.rep 4 g aw v1.aa) (aG : ae aE.rep 3 g ax v1.aB) (bX : ae (rI .u8) 1 g bS x1) (dU : ae (rI .i64) 1 g dI v6) (cW : Sub cV g) (c9 : ∀ {av aY bR : Int} {g2 h2 : AH}, bg av aY bR = some r → Sub cV g2 → Sep c g2 h2 [.bx ar [(.string v1.aO), (.string v1.aP), (vi v1.fArgs), (vi v1.aK), (vi v1.aL), aw, ax]] → bA (vi av) (vi aY) (vi bR) h2) (H : gW c R r) : Kn w0 E R jY (vi aR) (vi v10) dc (vi az) (al ar 0) (.bool v2) bS (vi ak) dI bA h := by
 unfold Kn
 unfold Hn at M
 obtain ⟨ku, Ci, M⟩ := bind_some M
 refine ae.idx nj Ci (fun agS agT vs amc agU rp => ?_)
 cases rp
 refine S.gr (agU 0 _ rfl) ?_
 refine fy.2 ?_
 cases hc : (!ku)
 · have M := aX hc M
   refine aH rfl ?_
   refine aH rfl ?_
   refine cg.2 ?_
   refine aH rfl ?_
   cases hc : (decide (v10 = 0))
   · have M := aX hc M
     refine aI (by decide) ?_
     refine aI (by decide) ?_
     refine aI (by decide) ?_
     refine aI (by decide) ?_
     refine aI (by decide) ?_
     refine aI (by decide) ?_
     refine aH rfl ?_
     refine bB.2 ?_
     refine bB.2 ?_
     exact OC M S aA aG bX dU cW c9 H
   · have M := aV hc M
     refine aH rfl ?_
     refine aH rfl ?_
     refine aH rfl ?_
     obtain ⟨Ho, agV, M⟩ := bind_some M
     refine ae.idx pa agV (fun amd ame vs amf agW rp => ?_)
     cases rp
     refine aH rfl ?_
     refine S.gr (agW 0 _ rfl) ?_
     refine aH rfl ?_
     refine aH rfl ?_
     refine tP.2 ?_
     refine aH rfl ?_
     refine bB.2 ?_
     refine bB.2 ?_
     exact OC M S aA aG bX dU cW c9 H
 · have M := aV hc M
   refine aI (by decide) ?_
   refine aI (by decide) ?_
   refine aI (by decide) ?_
   refine jg ?_
   refine jg ?_
   refine jg ?_
   refine jg ?_
   refine jg ?_
   refine jg ?_
   refine aI (by decide) ?_
   refine bB.2 ?_
   exact OC M S aA aG bX dU cW c9 H
theorem agX {w0 : World} [eA w0] {c : Cx} {g h : AH} {E R : Value → W} {r : Bool} {N : Nat} {v2 : Bool}  (M : Oz N v2 = some r) (S : Sep c g h [])   (H : gW c R r) : J8 w0 E R (.bool v2) h := by
 unfold J8
 unfold Oz at M
 cases M
 exact H _ _  S.bJ
theorem agY {w0 : World} [eA w0] {c : Cx} {g h : AH} {E R : Value → W} {r : Bool} {N : Nat} {x1 : List Int} {v4 : List Bool} {v10 : Int} {v9 : List Int} {v1 : ag} {v2 : Bool} {v6 : List Int} {aR az ak : Int} {bS jY dc : Value} {ar : Nat} {aw ax dI : Value} {bA : Value → Value → Value → W} {bg : Int → Int → Int → Option Bool} {cV : AH} (M : Cc N x1 v4 v10 v9 v1 v2 v6 aR az ak bg = some r) (S : Sep c g h [.bx ar [(.string v1.aO), (.string v1.aP), (vi v1.fArgs), (vi v1.aK), (vi v1.aL), aw, ax]]) (bX : ae (rI .u8) 1 g bS x1) (nj : ae rB 1 g jY v4) (pa : ae (rI .i64) 1 g dc v9) (aA : ae aq.rep 4 g aw v1.aa) (aG : ae aE.rep 3 g ax v1.aB) (dU : ae (rI .i64) 1 g dI v6) (cW : Sub cV g) (c9 : ∀ {av aY bR : Int} {g2 h2 : AH}, bg av aY bR = some r → Sub cV g2 → Sep c g2 h2 [.bx ar [(.string v1.aO), (.string v1.aP), (vi v1.fArgs), (vi v1.aK), (vi v1.aL), aw, ax]] → bA (vi av) (vi aY) (vi bR) h2) (H : gW c R r) : EF w0 E R bS jY (vi v10) dc (al ar 0) (.bool v2) dI bA (vi aR) (vi az) (vi ak) h := by
 unfold EF
 unfold Cc at M
 refine bX.len ?_
 refine jf.2 ?_
 refine bK (fun hc => ?_) (fun hc => ?_)
 · have M := aV hc M
   exact agR M S nj pa aA aG bX dU cW c9 H
 · have M := aX hc M
   have S := S.t0
   exact agX M S  H
theorem agZ {w0 : World} [eA w0] {c : Cx} {E R : Value → W} {r : Bool} {N : Nat} {x1 : List Int} {v4 : List Bool} {v10 : Int} {v9 : List Int} {v1 : ag} {v2 : Bool} {v6 : List Int} {bS jY dc : Value} {ar : Nat} {aw ax dI : Value}   (H : gW c R r) : ∀ (n : Nat) {aR az ak : Int} {g h : AH}, gV N x1 v4 v10 v9 v1 v2 v6 n aR az ak = some r → Sep c g h [.bx ar [(.string v1.aO), (.string v1.aP), (vi v1.fArgs), (vi v1.aK), (vi v1.aL), aw, ax]] → ae (rI .u8) 1 g bS x1 → ae rB 1 g jY v4 → ae (rI .i64) 1 g dc v9 → ae aq.rep 4 g aw v1.aa → ae aE.rep 3 g ax v1.aB → ae (rI .i64) 1 g dI v6 → jX (α := Value × Value × Value) (fun k a => EF w0 E R bS jY (vi v10) dc (al ar 0) (.bool v2) dI (fun b0 b1 b2 => k (b0, b1, b2)) a.1 a.2.1 a.2.2) n ((vi aR), (vi az), (vi ak)) h := by
 intro n
 induction n with
 | zero =>
  intro aR az ak  g h M S bX nj pa aA aG dU
  unfold gV at M; cases M
 | succ n ih =>
  intro aR az ak  g h M S bX nj pa aA aG dU
  exact agY M S bX nj pa aA aG dU  (Sub.refl g) (fun M2 sub S2  => ih M2 S2 (ae.mono bX (fG .u8) sub) (ae.mono nj ub sub) (ae.mono pa (fG .i64) sub) (ae.mono aA aq.mono sub) (ae.mono aG aE.mono sub) (ae.mono dU (fG .i64) sub) ) H
theorem ag0 {w0 : World} [eA w0] {c : Cx} {g h : AH} {E R : Value → W} {r : Bool} {N : Nat} {x1 : List Int} {v4 : List Bool} {v10 : Int} {v9 : List Int} {v1 : ag} {v2 : Bool} {v6 : List Int} {bS jY dc : Value} {ar : Nat} {aw ax dI : Value}  (M : OA N x1 v4 v10 v9 v1 v2 v6 = some r) (S : Sep c g h [.bx ar [(.string v1.aO), (.string v1.aP), (vi v1.fArgs), (vi v1.aK), (vi v1.aL), aw, ax]]) (bX : ae (rI .u8) 1 g bS x1) (nj : ae rB 1 g jY v4) (pa : ae (rI .i64) 1 g dc v9) (aA : ae aq.rep 4 g aw v1.aa) (aG : ae aE.rep 3 g ax v1.aB) (dU : ae (rI .i64) 1 g dI v6)  (H : gW c R r) : Ko w0 E R bS jY (vi v10) dc (al ar 0) (.bool v2) dI h := by
 unfold Ko
 unfold OA at M
 exact ⟨N, agZ  H _ M S bX nj pa aA aG dU ⟩
theorem Xu {w0 : World} [eA w0] {c : Cx} {g h : AH} {E R : Value → W} {r : Bool} {N : Nat} {x1 : List Int} {v4 : List Bool} {v10 : Int} {v9 : List Int} {v1 : ag} {v2 : Bool} {v6 : List Int} {pS : Bool} {bS jY dc : Value} {ar : Nat} {aw ax dI : Value}  (M : Hp N x1 v4 v10 v9 v1 v2 v6 pS = some r) (S : Sep c g h [.bx ar [(.string v1.aO), (.string v1.aP), (vi v1.fArgs), (vi v1.aK), (vi v1.aL), aw, ax]]) (bX : ae (rI .u8) 1 g bS x1) (nj : ae rB 1 g jY v4) (pa : ae (rI .i64) 1 g dc v9) (aA : ae aq.rep 4 g aw v1.aa) (aG : ae aE.rep 3 g ax v1.aB) (dU : ae (rI .i64) 1 g dI v6)  (H : gW c R r) : Kp w0 E R bS jY (vi v10) dc (al ar 0) (.bool v2) dI (.bool pS) h := by
 unfold Kp
 unfold Hp at M
 refine bK (fun hc => ?_) (fun hc => ?_)
 · have M := aV hc M
   cases M
   exact H _ _  S.bJ
 · have M := aX hc M
   exact ag0 M S bX nj pa aA aG dU H
theorem ag1 {w0 : World} [eA w0] {c : Cx} {g h : AH} {E R : Value → W} {r : Bool} {N : Nat} {v1 : ag} {x1 : List Int} {v2 : Bool} {ar : Nat} {aw ax bS : Value}  (M : Cd N v1 x1 v2 = some r) (S : Sep c g h [.bx ar [(.string v1.aO), (.string v1.aP), (vi v1.fArgs), (vi v1.aK), (vi v1.aL), aw, ax]]) (aA : ae aq.rep 4 g aw v1.aa) (aG : ae aE.rep 3 g ax v1.aB) (bX : ae (rI .u8) 1 g bS x1)  (H : gW c R r) : Kq w0 E R (al ar 0) bS (.bool v2) h := by
 unfold Kq
 unfold Cd at M
 refine S.c8 [(.string v1.aO), (.string v1.aP), (vi v1.fArgs), (vi v1.aK), (vi v1.aL), aw, ax] 0 rfl rfl rfl (by decide) ?_
 obtain ⟨oa, OD, M⟩ := bind_some M
 refine Xb OD S.sub S.ok aA aG (fun g h w_8 S1 yQ => ?_)
 have bX := ae.mono bX (fG .u8) S1.bQ
 have aA := ae.mono aA aq.mono S1.bQ
 have aG := ae.mono aG aE.mono S1.bQ
 have S := S.ni S1
 refine S.c8 [(.string v1.aO), (.string v1.aP), (vi v1.fArgs), (vi v1.aK), (vi v1.aL), aw, ax] 0 rfl rfl rfl (by decide) ?_
 obtain ⟨dH, Cj, M⟩ := bind_some M
 refine ag2 Cj S.sub S.ok aA aG (fun g h amg S1 Hs => ?_)
 have bX := ae.mono bX (fG .u8) S1.bQ
 have aA := ae.mono aA aq.mono S1.bQ
 have aG := ae.mono aG aE.mono S1.bQ
 have yQ := ae.mono yQ ub S1.bQ
 have S := S.ni S1
 refine S.c8 [(.string v1.aO), (.string v1.aP), (vi v1.fArgs), (vi v1.aK), (vi v1.aL), aw, ax] 0 rfl rfl rfl (by decide) ?_
 obtain ⟨oc, ag3, M⟩ := bind_some M
 refine ag4 ag3 S.sub S.ok aA aG (fun g h amh S1 Xv => ?_)
 have bX := ae.mono bX (fG .u8) S1.bQ
 have aA := ae.mono aA aq.mono S1.bQ
 have aG := ae.mono aG aE.mono S1.bQ
 have yQ := ae.mono yQ ub S1.bQ
 have Hs := ae.mono Hs (fG .i64) S1.bQ
 have S := S.ni S1
 refine (gT rfl).2 ?_
 refine (gT rfl).2 ?_
 refine tP.2 ?_
 cases hc : (!decide (oc.2 = 0))
 · have M := aX hc M
   refine aI (by decide) ?_
   refine aI (by decide) ?_
   refine bB.2 ?_
   exact Xu M S bX yQ Xv aA aG Hs H
 · have M := aV hc M
   refine aH rfl ?_
   refine aH rfl ?_
   refine tP.2 ?_
   refine bB.2 ?_
   exact Xu M S bX yQ Xv aA aG Hs H
theorem Xw {w0 : World} [eA w0] {c : Cx} {g h : AH} {E R : Value → W} {r : Bool} {N : Nat} {v2 : Bool} {v1 : ag} {x1 : List Int} {ru : Bool} {ar : Nat} {aw ax bS : Value}  (M : Ce N v2 v1 x1 ru = some r) (S : Sep c g h [.bx ar [(.string v1.aO), (.string v1.aP), (vi v1.fArgs), (vi v1.aK), (vi v1.aL), aw, ax]]) (aA : ae aq.rep 4 g aw v1.aa) (aG : ae aE.rep 3 g ax v1.aB) (bX : ae (rI .u8) 1 g bS x1)  (H : gW c R r) : Kr w0 E R (.bool v2) (al ar 0) bS (.bool ru) h := by
 unfold Kr
 unfold Ce at M
 refine bK (fun hc => ?_) (fun hc => ?_)
 · have M := aV hc M
   cases M
   exact H _ _  S.bJ
 · have M := aX hc M
   exact ag1 M S aA aG bX H
theorem abc {w0 : World} [eA w0] {g h : AH} {Q : CR → AH → Prop} {r : Bool} {N : Nat} {x0 : ag} {x1 : List Int} {cx cy bS : Value} (M : Hq N x0 x1 = some r) (sg : Sub g h) (ok : h.Ok) (cu : ae aq.rep 4 g cx x0.aa) (cD : ae aE.rep 3 g cy x0.aB) (bX : ae (rI .u8) 1 g bS x1) (H : gW ⟨g, h, []⟩ (fun v => Q (.ret v)) r) : WF PP w0 R9 [(.agg ⟨[(.string x0.aO), (.string x0.aP), (vi x0.fArgs), (vi x0.aK), (vi x0.aL), cx, cy]⟩), bS] h Q := by
 refine aa7 _ _ ?_
 have S := Sep.start sg ok
 unfold R8
 unfold Hq at M
 refine S.box [(.string x0.aO), (.string x0.aP), (vi x0.fArgs), (vi x0.aK), (vi x0.aL), cx, cy] rfl (ab rfl (ab rfl (ab rfl (ab rfl (ab rfl (ab cu.one (ab cD.one rfl))))))) (fun jF h S => ?_)
 obtain ⟨bD, jE, M⟩ := bind_some M
 refine af3 S.sub S.ok jE (fun _ h  S1  => ?_)
 have S := S.eo S1
 refine S.c8 [(.string x0.aO), (.string x0.aP), (vi x0.fArgs), (vi x0.aK), (vi x0.aL), cx, cy] 0 rfl rfl rfl (by decide) ?_
 obtain ⟨jG, wA, M⟩ := bind_some M
 refine ags wA S.sub S.ok cu cD (fun _ h  S1  => ?_)
 have S := S.eo S1
 refine fy.2 ?_
 cases hc : (!jG)
 · have M := aX hc M
   refine aH rfl ?_
   refine aH rfl ?_
   refine bX.len ?_
   refine aH rfl ?_
   refine oY.2 ?_
   refine bB.2 ?_
   exact Xw M S cu cD bX H
 · have M := aV hc M
   refine aI (by decide) ?_
   refine aI (by decide) ?_
   refine aI (by decide) ?_
   refine bB.2 ?_
   exact Xw M S cu cD bX H
end
end Go.Ve.T
namespace Go.Ve.T
open Go.Ve
noncomputable section
theorem uM (x a b : Int) : om x a b = some (decide (a ≤ x ∧ x ≤ b)) := by
 unfold om
 by_cases h : a ≤ x <;> simp [h]
theorem wY (x a b : Int) : sK x a b = some (decide (a ≤ x ∧ x ≤ b)) := by
 unfold sK
 by_cases h : a ≤ x <;> simp [h]
def QM (k : Int) : Int := if k = 3 then 11 else if k = 4 then 3 else if k = 5 then 4 else if k = 7 then 5 else if k = 9 then 10 else if k = 10 then 9 else if k = 11 then 12 else if k = 12 then 13 else k
def Dw (op : Int) : cR := bif isOp op then ⟨⟨if op = 20 then 7 else QM (iV op).fp.e0, QM (iV op).fp.e1, QM (iV op).fp.e2⟩, (iV op).sF, (iV op).kB, (iV op).ll⟩ else ⟨⟨0, 0, 0⟩, 0, ⟨0, 0⟩, false⟩
theorem Zq (op : Int) : zh op = some (Dw op, isOp op) := by
 cases h : isOp op with
 | true => rcases GZ h with rfl | rfl | rfl | rfl | rfl | rfl | rfl | rfl | rfl | rfl | rfl | rfl | rfl | rfl | rfl | rfl | rfl | rfl | rfl | rfl | rfl | rfl | rfl | rfl | rfl | rfl | rfl | rfl | rfl | rfl | rfl | rfl | rfl | rfl <;> rfl
 | false =>
  have hh : ∀ k : Int, 1 ≤ k → k ≤ 34 → decide (op = k) = false := fun k h1 h2 => decide_eq_false fun e => by subst e; unfold isOp at h; rw [decide_eq_false_iff_not] at h; omega
  have e : Dw op = ⟨⟨0, 0, 0⟩, 0, ⟨0, 0⟩, false⟩ := by unfold Dw; rw [h]; rfl
  rw [e]
  unfold zh CB wL uw zg HP
  simp [hh, cond_false]
def sP {α β : Type} (st : Int → α → Option (Option β)) (fin : Option β) : List α → Int → Option β
 | [], _ => fin
 | a :: r, y => match st y a with
  | some b => b
  | none => sP st fin r (y + 1)
theorem sQ {α β : Type} (l : List α) (I : Nat → Int → Option β) (st : Int → α → Option (Option β)) (fin : Option β) (hl : l.length < 1000000)
 (step : ∀ n (y : Int) a, y < l.length → ix l y = some a → I (n + 1) y = match st y a with | some b => b | none => I n (bf .i64 (y + 1)))
 (stop : ∀ n, I (n + 1) (l.length : Int) = fin) : ∀ (n i : Nat), i ≤ l.length → l.length < n + i → I n (i : Int) = sP st fin (l.drop i) i
 | 0, i, h1, h2 => by omega
 | n + 1, i, h1, h2 => by
  by_cases hi : i < l.length
  · have ea : ix l (i : Int) = some l[i] := List.getElem?_eq_getElem hi
    rw [step n i l[i] (by omega) ea, List.drop_eq_getElem_cons hi]
    show _ = match st i l[i] with | some b => b | none => sP st fin (l.drop (i + 1)) ((i : Int) + 1)
    cases st i l[i] with
    | some b => rfl
    | none =>
     show I n (bf .i64 ((i : Int) + 1)) = _
     rw [jW (by omega) (by omega)]
     have := sQ l I st fin hl step stop n (i + 1) hi (by omega)
     rw [show ((i + 1 : Nat) : Int) = (i : Int) + 1 from rfl] at this
     exact this
  · have : i = l.length := by omega
    subst this
    rw [stop, List.drop_length]; rfl
def lT {α : Type} (p : α → Bool) : List α → Int → Int
 | [], _ => -1
 | a :: r, y => bif p a then y else lT p r (y + 1)
theorem Dx {α : Type} (p : α → Bool) : ∀ (l : List α) (y : Int), sP (fun y a => bif p a then some (some y) else none) (some (-1)) l y = some (lT p l y)
 | [], y => rfl
 | a :: r, y => by
  unfold sP lT
  cases p a with
  | true => rfl
  | false => exact Dx p r (y + 1)
theorem Zr {α : Type} (p : α → Bool) : ∀ (l : List α) (y : Int), 0 ≤ y → lT p l y = -1 ∨ ∃ (k : Nat) (a : α), l[k]? = some a ∧ p a = true ∧ lT p l y = y + k
 | [], y, _ => .inl rfl
 | a :: r, y, hy => by
  unfold lT
  cases hp : p a with
  | true => exact .inr ⟨0, a, rfl, hp, (Int.add_zero y).symm⟩
  | false =>
   rcases Zr p r (y + 1) (by omega) with h | ⟨k, b, h1, h2, h3⟩
   · exact .inl h
   · refine .inr ⟨k + 1, b, h1, h2, ?_⟩
     show lT p r (y + 1) = _
     rw [h3]; omega
theorem IC {σ β : Type} (I : Nat → σ → Int → Option β) (hi : Nat) (Inv : Nat → σ → Prop)
 (step : ∀ n (i : Nat) s, i < hi → Inv i s → ∃ s', Inv (i + 1) s' ∧ I (n + 1) s (i : Int) = I n s' ((i : Int) + 1)) : ∀ n (i : Nat) s, Inv i s → i ≤ hi → hi < n + i → ∃ n' s', Inv hi s' ∧ I n s (i : Int) = I (n' + 1) s' (hi : Int)
 | 0, i, s, h, h1, h2 => by omega
 | n + 1, i, s, h, h1, h2 => by
  by_cases e : i < hi
  · obtain ⟨s', h3, h4⟩ := step n i s e h
    obtain ⟨n', s2, h5, h6⟩ := IC I hi Inv step n (i + 1) s' h3 e (by omega)
    exact ⟨n', s2, h5, h4.trans h6⟩
  · have : i = hi := by omega
    subst this
    exact ⟨n, s, h, rfl⟩
def eL (i : aq) : Option Int := if i.aJ = 24 then some i.fA else if i.aJ = 25 ∨ i.aJ = 32 then some i.fB else none
theorem QN (i : aq) : CD i = some (match eL i with | some x => (x, true) | none => (0, false)) := by
 unfold CD Yf Po Ye eL
 by_cases pK : i.aJ = 24
 · simp [pK]
 · by_cases zC : i.aJ = 25
   · simp [pK, zC]
   · by_cases pL : i.aJ = 32 <;> simp [pK, zC, pL]
theorem Zs (n : Nat) (i : aq) (ho : isOp i.aJ = true) : wH (n + 4) i = some (eL i).toList := by
 unfold wH Co eL
 rcases GZ ho with h | h | h | h | h | h | h | h | h | h | h | h | h | h | h | h | h | h | h | h | h | h | h | h | h | h | h | h | h | h | h | h | h | h <;> rw [h] <;> rfl
theorem Zt (N : Nat) (l : List aE) (f : aE → Option Bool) (p : aE → Bool) (hf : ∀ a, f a = some (p a)) (hl : l.length < 1000000) (hN : l.length < N) : za N l f = some (lT p l 0) := by
 unfold za
 rw [← Dx]
 exact sQ l (fun n y => y7 N (l.length : Int) l f n y) _ _ hl (fun n y a hy ha => by
  show (bif decide (y < (l.length : Int)) then ((ix l y).bind fun fo => (f fo).bind fun eT => bif eT then some y else y7 N (l.length : Int) l f n (bf .i64 (y + 1))) else some (-1)) = _
  rw [decide_eq_true hy, ha]
  show ((f a).bind _) = _
  rw [hf]
  cases p a <;> rfl) (fun n => by
  show (bif decide ((l.length : Int) < (l.length : Int)) then _ else some (-1)) = _
  rw [decide_eq_false (Int.lt_irrefl _)]; rfl) N 0 (Nat.zero_le _) (by omega)
theorem akR (N : Nat) (l : List Int) (f : Int → Option Bool) (p : Int → Bool) (hf : ∀ a, f a = some (p a)) (hl : l.length < 1000000) (hN : l.length < N) : Cp N l f = some (lT p l 0) := by
 unfold Cp
 rw [← Dx]
 exact sQ l (fun n y => yY N (l.length : Int) l f n y) _ _ hl (fun n y a hy ha => by
  show (bif decide (y < (l.length : Int)) then ((ix l y).bind fun fo => (f fo).bind fun eT => bif eT then some y else yY N (l.length : Int) l f n (bf .i64 (y + 1))) else some (-1)) = _
  rw [decide_eq_true hy, ha]
  show ((f a).bind _) = _
  rw [hf]
  cases p a <;> rfl) (fun n => by
  show (bif decide ((l.length : Int) < (l.length : Int)) then _ else some (-1)) = _
  rw [decide_eq_false (Int.lt_irrefl _)]; rfl) N 0 (Nat.zero_le _) (by omega)
theorem ID {α β : Type} (p : α → Bool) (b : β) (fin : Option β) : ∀ (l : List α) (y : Int), sP (fun _ a => bif p a then none else some (some b)) fin l y = bif l.all p then fin else some b
 | [], _ => rfl
 | a :: r, y => by
  unfold sP
  rw [List.all_cons]
  cases p a with
  | false => rfl
  | true => exact ID p b fin r (y + 1)
theorem QO {α : Type} (p : α → Bool) (l : List α) : decide (0 ≤ lT p l 0) = l.any p := by
 have key : ∀ (l : List α) (y : Int), 0 ≤ y → decide (0 ≤ lT p l y) = l.any p := by
  intro l
  induction l with
  | nil => intro y _; rfl
  | cons a r ih =>
   intro y hy
   unfold lT
   rw [List.any_cons]
   cases p a with
   | true => exact decide_eq_true hy
   | false => exact ih (y + 1) (by omega)
 exact key l 0 (Int.le_refl 0)
def pM (n : Int) (i : aq) : Bool := isOp i.aJ && (match eL i with | some x => decide (0 ≤ x ∧ x ≤ n - 1) | none => true)
def kH (n : Int) (g : aE) : Bool := decide (g.dZ < 0) || (decide (g.eK ≤ g.dZ) || (decide (n < g.eK) || !decide (0 ≤ g.dM ∧ g.dM ≤ n - 1)))
def iW (u : ag) : Bool := decide (1 ≤ (u.aa.length : Int) ∧ (u.aa.length : Int) ≤ 600) && (!decide (40 < (u.aB.length : Int)) && (decide (0 ≤ u.aK ∧ u.aK ≤ 200) && (decide (0 ≤ u.aL ∧ u.aL ≤ 200) && (u.aa.all (pM u.aa.length) && !u.aB.any (kH u.aa.length)))))
theorem akS (n : Int) (hn : bf .i64 (n - 1) = n - 1) (g : aE) : zd g n = some (kH n g) := by
 unfold zd Cs Cr kH
 rw [uM, hn]
 cases decide (g.dZ < 0) <;> cases decide (g.eK ≤ g.dZ) <;> cases decide (n < g.eK) <;> rfl
theorem akT (N : Nat) (hN : 1000 ≤ N) (u : ag) (hl : u.aa.length ≤ 600) (hg : u.aB.length ≤ 40) : Cu N u (u.aa.length : Int) = some (u.aa.all (pM u.aa.length) && !u.aB.any (kH u.aa.length)) := by
 have hw : bf .i64 ((u.aa.length : Int) - 1) = (u.aa.length : Int) - 1 := jW (by omega) (by omega)
 have QP : zf N u (u.aa.length : Int) = some (!u.aB.any (kH u.aa.length)) := by
  unfold zf HO
  rw [Zt N u.aB _ (kH u.aa.length) (fun a => akS _ hw a) (by omega) (by omega)]
  show some (!decide (0 ≤ lT (kH u.aa.length) u.aB 0)) = _
  rw [QO]
 obtain ⟨n, rfl⟩ : ∃ n, N = n + 4 := ⟨N - 4, by omega⟩
 unfold Cu
 have h := sQ u.aa (fun m y => Ct (n + 4) (u.aa.length : Int) u.aa (u.aa.length : Int) u m y) (fun _ a => bif pM u.aa.length a then none else some (some false)) (some (!u.aB.any (kH u.aa.length))) (by omega)
  (fun m y a hy ha => by
   show (bif decide (y < (u.aa.length : Int)) then ((ix u.aa y).bind fun dH => (some (iV dH.aJ, isOp dH.aJ)).bind fun gj => bif (!gj.2) then ze (n + 4) y true u _ else ((wH (n + 4) dH).bind fun uo => (Cq (n + 4) uo (fun a0 => zc a0 (u.aa.length : Int))).bind fun sG => ze (n + 4) y sG u _)) else _) = _
   rw [decide_eq_true hy, ha]
   simp only [Option.bind_some, cond_true]
   unfold pM
   cases ho : isOp a.aJ with
   | false => rfl
   | true =>
    rw [Zs n a ho]
    simp only [Option.bind_some, Bool.not_true, cond_false, Bool.true_and]
    unfold Cq
    have hlen : (eL a).toList.length ≤ 1 := by cases eL a <;> simp
    rw [akR (n + 4) _ _ (fun x => !decide (0 ≤ x ∧ x ≤ (u.aa.length : Int) - 1)) (fun x => by unfold zc; rw [uM, hw]; rfl) (by omega) (by omega)]
    simp only [Option.bind_some]
    rw [QO]
    cases eL a with
    | none => rfl
    | some x =>
     have e1 : ((some x).toList.any fun x => !decide (0 ≤ x ∧ x ≤ (u.aa.length : Int) - 1)) = !decide (0 ≤ x ∧ x ≤ (u.aa.length : Int) - 1) := by simp
     rw [e1]
     dsimp only
     by_cases hd : 0 ≤ x ∧ x ≤ (u.aa.length : Int) - 1
     · rw [decide_eq_true hd]; rfl
     · rw [decide_eq_false hd]; rfl)
  (fun m => by
   show (bif decide ((u.aa.length : Int) < (u.aa.length : Int)) then _ else zf (n + 4) u (u.aa.length : Int)) = _
   rw [decide_eq_false (Int.lt_irrefl _)]; exact QP) (n + 4) 0 (Nat.zero_le _) (by omega)
 refine h.trans ?_
 rw [List.drop_zero, ID]
 cases u.aa.all (pM u.aa.length) <;> rfl
theorem zD (N : Nat) (hN : 1000 ≤ N) (u : ag) : sH N u = some (iW u) := by
 unfold sH iW Cy Cw Cv
 rw [uM, uM, uM]
 by_cases h1 : 1 ≤ (u.aa.length : Int) ∧ (u.aa.length : Int) ≤ 600
 · rw [decide_eq_true h1]
   by_cases h2 : 40 < (u.aB.length : Int)
   · rw [decide_eq_true h2]; rfl
   · rw [decide_eq_false h2, akT N hN u (by omega) (by omega)]
     cases decide (0 ≤ u.aK ∧ u.aK ≤ 200) <;> cases decide (0 ≤ u.aL ∧ u.aL ≤ 200) <;> rfl
 · rw [decide_eq_false h1]; rfl
theorem akU (N : Nat) (hN : 1000 ≤ N) (u : ag) (hl : u.aa.length ≤ 600) (hg : u.aB.length ≤ 40) : Pv N (u.aa.length : Int) u = some (u.aa.all (pM u.aa.length) && !u.aB.any (kH u.aa.length)) := by
 have hw : bf .i64 ((u.aa.length : Int) - 1) = (u.aa.length : Int) - 1 := jW (by omega) (by omega)
 have QP : HT N u (u.aa.length : Int) = some (!u.aB.any (kH u.aa.length)) := by
  unfold HT
  have h := sQ u.aB (fun m y => Pt N u (u.aa.length : Int) m y) (fun _ a => bif !kH u.aa.length a then none else some (some false)) (some true) (by omega)
   (fun m y a hy ha => by
    show (bif decide (y < (u.aB.length : Int)) then ((ix u.aB y).bind fun px => bif (decide (px.dZ < 0)) then CF N px (u.aa.length : Int) y true u _ else CF N px (u.aa.length : Int) y (decide (px.eK ≤ px.dZ)) u _) else _) = _
    rw [decide_eq_true hy, ha]
    simp only [Option.bind_some, cond_true]
    unfold CF Ps Pq kH
    rw [wY, hw]
    cases decide (a.dZ < 0) <;> cases decide (a.eK ≤ a.dZ) <;> cases decide ((u.aa.length : Int) < a.eK) <;> cases decide (0 ≤ a.dM ∧ a.dM ≤ (u.aa.length : Int) - 1) <;> rfl)
   (fun m => by
    show (bif decide ((u.aB.length : Int) < (u.aB.length : Int)) then _ else some true) = _
    rw [decide_eq_false (Int.lt_irrefl _)]; rfl) N 0 (Nat.zero_le _) (by omega)
  refine h.trans ?_
  rw [List.drop_zero, ID]
  have : u.aB.all (fun a => !kH u.aa.length a) = !u.aB.any (kH u.aa.length) := by simp [List.all_eq_not_any_not]
  rw [this]
  cases u.aB.any (kH u.aa.length) <;> rfl
 unfold Pv
 have h := sQ u.aa (fun m y => Pu N (u.aa.length : Int) u m y) (fun _ a => bif pM u.aa.length a then none else some (some false)) (some (!u.aB.any (kH u.aa.length))) (by omega)
  (fun m y a hy ha => by
   show (bif decide (y < (u.aa.length : Int)) then Pp N u y (u.aa.length : Int) _ else _) = _
   unfold Pp
   rw [decide_eq_true hy, ha]
   simp only [Option.bind_some, cond_true, Zq, QN, wY, hw]
   unfold HS pM
   cases isOp a.aJ with
   | false => rfl
   | true =>
    cases eL a with
    | none => rfl
    | some x =>
     simp only [Bool.not_true, cond_false, cond_true, Bool.true_and]
     cases decide (0 ≤ x ∧ x ≤ (u.aa.length : Int) - 1) <;> rfl)
  (fun m => by
   show (bif decide ((u.aa.length : Int) < (u.aa.length : Int)) then _ else HT N u (u.aa.length : Int)) = _
   rw [decide_eq_false (Int.lt_irrefl _)]; exact QP) N 0 (Nat.zero_le _) (by omega)
 refine h.trans ?_
 rw [List.drop_zero, ID]
 cases u.aa.all (pM u.aa.length) <;> rfl
theorem IE (N : Nat) (hN : 1000 ≤ N) (u : ag) : CG N u = some (iW u) := by
 unfold CG iW Py Px Pw
 rw [wY, wY, wY]
 by_cases h1 : 1 ≤ (u.aa.length : Int) ∧ (u.aa.length : Int) ≤ 600
 · rw [decide_eq_true h1]
   by_cases h2 : 40 < (u.aB.length : Int)
   · rw [decide_eq_true h2]; rfl
   · rw [decide_eq_false h2, akU N hN u (by omega) (by omega)]
     cases decide (0 ≤ u.aK ∧ u.aK ≤ 200) <;> cases decide (0 ≤ u.aL ∧ u.aL ≤ 200) <;> rfl
 · rw [decide_eq_false h1]; rfl
end
end Go.Ve.T
namespace Go.Ve.T
open Go.Ve
noncomputable section
theorem zF (i : Nat) (h : i < 1000000) : bf .i64 ((i : Int) + 1) = ((i + 1 : Nat) : Int) := by rw [jW (by omega) (by omega)]; rfl
theorem Dz (i n : Nat) (h : i < n) : decide ((i : Int) < (n : Int)) = true := decide_eq_true (by omega)
theorem DA (n : Nat) : decide ((n : Int) < (n : Int)) = false := decide_eq_false (Int.lt_irrefl _)
structure w4 (u : ag) (cj : List Bool) : Prop where
 pl : iW u = true
 len : cj.length = u.aa.length
theorem w4.n1 {u : ag} {cj : List Bool} (H : w4 u cj) : 1 ≤ u.aa.length ∧ u.aa.length ≤ 600 ∧ u.aB.length ≤ 40 := by
 have := H.pl
 unfold iW at this
 simp only [Bool.and_eq_true, decide_eq_true_eq, Bool.not_eq_true', decide_eq_false_iff_not] at this
 omega
theorem w4.jmp {u : ag} {cj : List Bool} (H : w4 u cj) {i : Nat} {x : aq} (hx : u.aa[i]? = some x) {p : Int} (hp : eL x = some p) : 0 ≤ p ∧ p < u.aa.length := by
 have := H.pl
 unfold iW at this
 simp only [Bool.and_eq_true] at this
 have h := List.all_eq_true.1 this.2.2.2.2.1 x (List.mem_of_getElem? hx)
 unfold pM at h
 rw [hp] at h
 simp only [Bool.and_eq_true, decide_eq_true_eq] at h
 omega
theorem w4.IH {u : ag} {cj : List Bool} (H : w4 u cj) {i : Nat} {g : aE} (hg : u.aB[i]? = some g) : 0 ≤ g.dZ ∧ g.dZ < g.eK ∧ g.eK ≤ u.aa.length ∧ 0 ≤ g.dM ∧ g.dM < u.aa.length := by
 have := H.pl
 unfold iW at this
 simp only [Bool.and_eq_true, Bool.not_eq_true', List.any_eq_false] at this
 have h := this.2.2.2.2.2 g (List.mem_of_getElem? hg)
 unfold kH at h
 simp only [Bool.or_eq_true, decide_eq_true_eq, Bool.not_eq_true', decide_eq_false_iff_not, not_or, Decidable.not_not] at h
 omega
end
end Go.Ve.T
namespace Go.Ve.T
open Go.Ve
noncomputable section
structure fg (u : ag) : Prop where
 pl : iW u = true
theorem fg.cut {u : ag} (H : fg u) : w4 u (List.replicate u.aa.length true) := ⟨H.pl, by simp⟩
theorem fg.n1 {u : ag} (H : fg u) : 1 ≤ u.aa.length ∧ u.aa.length ≤ 600 ∧ u.aB.length ≤ 40 := H.cut.n1
theorem fg.jmp {u : ag} (H : fg u) {i : Nat} {x : aq} (hx : u.aa[i]? = some x) {p : Int} (hp : eL x = some p) : 0 ≤ p ∧ p < u.aa.length := H.cut.jmp hx hp
theorem fg.IH {u : ag} (H : fg u) {i : Nat} {g : aE} (hg : u.aB[i]? = some g) : 0 ≤ g.dZ ∧ g.dZ < g.eK ∧ g.eK ≤ u.aa.length ∧ 0 ≤ g.dM ∧ g.dM < u.aa.length := H.cut.IH hg
theorem fg.op {u : ag} (H : fg u) {i : Nat} {x : aq} (hx : u.aa[i]? = some x) : isOp x.aJ = true := by
 have := H.pl
 unfold iW at this
 simp only [Bool.and_eq_true] at this
 have h := List.all_eq_true.1 this.2.2.2.2.1 x (List.mem_of_getElem? hx)
 unfold pM at h
 exact (Bool.and_eq_true_iff.1 h).1
def ep (l : List aE) (at_ : Int) : Int := lT (fun d => decide (d.dZ ≤ at_ ∧ at_ < d.eK)) l 0
theorem ZG (N : Nat) (u : ag) (at_ : Int) (hl : u.aB.length < 1000000) (hN : u.aB.length < N) : zj N u at_ = some (ep u.aB at_) := by
 unfold zj
 rw [Zt N u.aB _ (fun d => decide (d.dZ ≤ at_ ∧ at_ < d.eK)) (fun d => by unfold CH; by_cases h : d.dZ ≤ at_ <;> simp [h]) hl hN]; rfl
theorem QR (N : Nat) (u : ag) (at_ : Int) (hl : u.aB.length < 1000000) (hN : u.aB.length < N) : CP N u at_ = some (ep u.aB at_) := by
 unfold CP ep
 rw [← Dx]
 exact sQ u.aB (fun n y => CO N u at_ n y) _ _ hl (fun n y a hy ha => by
  show (bif decide (y < (u.aB.length : Int)) then ((ix u.aB y).bind fun bD => bif decide (bD.dZ ≤ at_) then ((ix u.aB y).bind fun CE => bif decide (at_ < CE.eK) then some y else CO N u at_ n (bf .i64 (y + 1))) else (bif false then some y else CO N u at_ n (bf .i64 (y + 1)))) else some (-1)) = _
  rw [decide_eq_true hy, ha]
  by_cases h1 : a.dZ ≤ at_ <;> by_cases h2 : at_ < a.eK <;> simp [h1, h2]) (fun n => by
  show (bif decide ((u.aB.length : Int) < (u.aB.length : Int)) then _ else some (-1)) = _
  rw [decide_eq_false (Int.lt_irrefl _)]; rfl) N 0 (Nat.zero_le _) (by omega)
abbrev jo (op : Int) : Bool := (iV op).kC
theorem Zv (i : aq) : HV i = some (jo i.aJ) := by
 unfold HV PC PB
 cases h : isOp i.aJ with
 | true => rcases GZ h with h | h | h | h | h | h | h | h | h | h | h | h | h | h | h | h | h | h | h | h | h | h | h | h | h | h | h | h | h | h | h | h | h | h <;> rw [h] <;> rfl
 | false =>
  have hh : ∀ k : Int, 1 ≤ k → k ≤ 34 → decide (i.aJ = k) = false := fun k h1 h2 => decide_eq_false fun e => by rw [e] at h; unfold isOp at h; rw [decide_eq_false_iff_not] at h; omega
  have e : jo i.aJ = false := by unfold jo iV; rw [h]; rfl
  rw [e, hh 24 (by omega) (by omega), hh 26 (by omega) (by omega), hh 27 (by omega) (by omega), hh 28 (by omega) (by omega)]
  rfl
abbrev iC (i : aq) : Bool := (iV i.aJ).ll
theorem QS (i : aq) : wy i = some (iC i) := by
 unfold wy
 rw [Zq]
 show some (Dw i.aJ).q8 = _
 unfold Dw iC iV
 cases isOp i.aJ <;> rfl
theorem IG {l : List aE} {y : Int} (h : 0 ≤ ep l y) : ∃ d, ix l (ep l y) = some d ∧ d ∈ l := by
 unfold ep at *
 rcases Zr (fun d : aE => decide (d.dZ ≤ y ∧ y < d.eK)) l 0 (Int.le_refl 0) with e | ⟨k, a, h1, _, h3⟩
 · rw [e] at h; omega
 · refine ⟨a, ?_, List.mem_of_getElem? h1⟩
   rw [h3, Int.zero_add, iy]; exact h1
def fX (u : ag) (y : Nat) (i : aq) : List (Int × Int) :=
 (if jo i.aJ = false ∧ y + 1 < u.aa.length then [((y : Int) + 1, 0)] else []) ++ ((eL i).toList.map fun x => (x, 1)) ++ (if iC i = true ∧ 0 ≤ ep u.aB y then ((ix u.aB (ep u.aB y)).toList.map fun d => (d.dM, 2)) else [])
theorem II {u : ag} (U : fg u) (N : Nat) (hN : 1000 ≤ N) (y : Nat) (hy : y < u.aa.length) : sM N u (y : Int) = some (fX u y u.aa[y]) := by
  have hl := U.n1.2.1
  have hg := U.n1.2.2
  obtain ⟨n, rfl⟩ : ∃ n, N = n + 4 := ⟨N - 4, by omega⟩
  have ho := U.op (List.getElem?_eq_getElem hy)
  unfold sM fX
  rw [iy, List.getElem?_eq_getElem hy, Option.bind_some, Zs n _ ho, Option.bind_some, ZG (n + 4) u y (by omega) (by omega), Option.bind_some, jW (by omega) (by omega)]
  have hlen : decide ((eL u.aa[y]).toList.length ≤ 1000) = true := by cases eL u.aa[y] <;> simp
  rw [hlen]
  show (bif iC u.aa[y] && decide (0 ≤ ep u.aB y) then _ else _) = _
  have e1 : (bif !(iV u.aa[y].aJ).kC && decide ((y : Int) + 1 < (u.aa.length : Int)) then [((y : Int) + 1, (0 : Int))] else []) = (if jo u.aa[y].aJ = false ∧ y + 1 < u.aa.length then [((y : Int) + 1, 0)] else []) := by
    by_cases h1 : jo u.aa[y].aJ = false
    · have gK : (iV u.aa[y].aJ).kC = false := h1
      by_cases h2 : y + 1 < u.aa.length
      · rw [if_pos ⟨h1, h2⟩, gK, decide_eq_true (by omega)]; rfl
      · rw [if_neg fun h => h2 h.2, gK, decide_eq_false (by omega)]; rfl
    · have gK : (iV u.aa[y].aJ).kC = true := by cases h : (iV u.aa[y].aJ).kC with
        | true => rfl
        | false => exact absurd h h1
      rw [if_neg fun h => h1 h.1, gK]; rfl
  rw [e1]
  generalize (if jo u.aa[y].aJ = false ∧ y + 1 < u.aa.length then [((y : Int) + 1, (0 : Int))] else []) = L0
  by_cases hr : iC u.aa[y] = true
  · by_cases hd : 0 ≤ ep u.aB y
    · obtain ⟨d, h1, _⟩ := IG hd
      rw [if_pos ⟨hr, hd⟩, hr, decide_eq_true hd, h1]; rfl
    · rw [if_neg fun h => hd h.2, hr, decide_eq_false hd, List.append_nil]; rfl
  · have mM : iC u.aa[y] = false := by cases h : iC u.aa[y] with
      | true => exact absurd h hr
      | false => rfl
    rw [if_neg fun h => hr h.1, mM, List.append_nil]; rfl
def sT (u : ag) (y : Nat) (i : aq) : List Int :=
 let l := if jo i.aJ = false ∧ y + 1 < u.aa.length then [(y : Int) + 1] else []
 match eL i with
 | some x => if x ∈ l then l else l ++ [x]
 | none => l
theorem alm (N : Nat) (hN : 1000 ≤ N) (l : List Int) (x : Int) (hl : l.length ≤ 1) : zl N l x = some (if x ∈ l then l else l ++ [x]) := by
 obtain ⟨n, rfl⟩ : ∃ n, N = n + 4 := ⟨N - 4, by omega⟩
 match l, hl with
 | [], _ => rfl
 | [a], _ =>
  show CN (n + 4) [a] 0 x _ = _
  unfold CN
  show (bif decide (a = x) then some [a] else some ([a] ++ [x])) = _
  by_cases e : a = x
  · subst e; rw [decide_eq_true rfl, if_pos (List.mem_singleton.2 rfl)]; rfl
  · rw [decide_eq_false e, if_neg fun h => e (List.mem_singleton.1 h).symm]; rfl
theorem aln {u : ag} (U : fg u) (N : Nat) (hN : 1000 ≤ N) (y : Nat) (hy : y < u.aa.length) : PG N u (y : Int) = some (sT u y u.aa[y]) := by
 have hl := U.n1.2.1
 have J1 : ∀ l : List Int, l.length ≤ 1 → HW N u.aa[y] l = some (match eL u.aa[y] with | some x => if x ∈ l then l else l ++ [x] | none => l) := fun l h => by
  unfold HW PE
  rw [QN, Option.bind_some]
  cases eL u.aa[y] with
  | none => rfl
  | some x =>
   show ((zl N l x).bind _) = _
   rw [alm N hN l x h]; rfl
 unfold PG PF sT
 rw [iy, List.getElem?_eq_getElem hy, Option.bind_some, Zv, Option.bind_some, jW (by omega) (by omega)]
 have gu1 : ∀ k : Option (List Int), gu (decide (([] : List Int).length + [(y : Int) + 1].length ≤ 1048576)) k = k := fun k => rfl
 rw [gu1]
 cases he : jo u.aa[y].aJ with
 | true =>
  rw [if_neg fun h => by cases h.1]
  exact J1 [] (by simp)
 | false =>
  by_cases h2 : y + 1 < u.aa.length
  · rw [decide_eq_true (show (y : Int) + 1 < (u.aa.length : Int) by omega), if_pos ⟨rfl, h2⟩]
    exact J1 [(y : Int) + 1] (by simp)
  · rw [decide_eq_false (show ¬ (y : Int) + 1 < (u.aa.length : Int) by omega), if_neg fun h => h2 h.2]
    exact J1 [] (by simp)
end
end Go.Ve.T
namespace Go.Ve.T
open Go.Ve
noncomputable section
theorem alo (N : Nat) (l : List Int) (x : Int) (hl : l.length < 1000000) (hN : l.length < N) : CY N l x = some (decide (x ∈ l)) := by
 have h : CX N l x = some (lT (fun a => decide (x = a)) l 0) := by
  unfold CX
  rw [← Dx]
  exact sQ l (fun n y => CW N (l.length : Int) l x n y) _ _ hl (fun n y a hy ha => by
   show (bif decide (y < (l.length : Int)) then CV N l y x _ else _) = _
   unfold CV H8
   rw [decide_eq_true hy, ha]
   show (bif decide (x = a) then some y else _) = _
   cases decide (x = a) <;> rfl) (fun n => by
   show (bif decide ((l.length : Int) < (l.length : Int)) then _ else H9 N) = _
   rw [decide_eq_false (Int.lt_irrefl _)]; rfl) N 0 (Nat.zero_le _) (by omega)
 unfold CY
 rw [h, Option.bind_some, QO]
 congr 1
 rw [Bool.eq_iff_iff]
 simp
def ny (l : List Int) (x : Int) : List Int := if x ∈ l then l else l ++ [x]
theorem ZH (l : List Int) (x : Int) : (ny l x).length ≤ l.length + 1 := by unfold ny; split <;> simp
theorem alp {l : List Int} {x y : Int} : y ∈ ny l x ↔ y ∈ l ∨ y = x := by
 unfold ny
 split
 · exact ⟨.inl, fun h => h.elim id fun e => e ▸ ‹_›⟩
 · simp
theorem alq (N : Nat) (l : List Int) (x : Int) (hl : l.length < 1000000) (hN : l.length < N) : zl N l x = some (ny l x) := by
 have key : ∀ (r : List Int) (y : Int), sP (fun _ a => bif decide (a = x) then some (some l) else none) (some (l ++ [x])) r y = some (if x ∈ r then l else l ++ [x]) := by
  intro r
  induction r with
  | nil => intro y; rfl
  | cons a r ih =>
   intro y
   unfold sP
   by_cases e : a = x
   · rw [decide_eq_true e, if_pos (by rw [e]; exact List.mem_cons_self)]; rfl
   · rw [decide_eq_false e]
     refine (ih (y + 1)).trans ?_
     have : x ∈ a :: r ↔ x ∈ r := by rw [List.mem_cons]; exact ⟨fun h => h.resolve_left fun e' => e e'.symm, .inr⟩
     simp only [this]
 unfold zl
 refine (sQ l (fun n y => PD N l x n y) (fun _ a => bif decide (a = x) then some (some l) else none) (some (l ++ [x])) hl (fun n y a hy ha => by
  show (bif decide (y < (l.length : Int)) then CN N l y x _ else _) = _
  unfold CN Yk
  rw [decide_eq_true hy, ha]
  show (bif decide (a = x) then some l else _) = _
  cases decide (a = x) <;> rfl) (fun n => by
  show (bif decide ((l.length : Int) < (l.length : Int)) then _ else Yl N x l) = _
  rw [decide_eq_false (Int.lt_irrefl _)]
  show gu (decide (l.length + [x].length ≤ 1048576)) _ = _
  rw [decide_eq_true (by simp; omega)]; rfl) N 0 (Nat.zero_le _) (by omega)).trans ?_
 rw [List.drop_zero, key]; rfl
def hY (u : ag) (y : Nat) (i : aq) : List Int := ((fX u y i).map fun p => p.1).foldl ny []
theorem Q0 {α σ : Type} (b : σ → α → Option (σ × Fl)) (f : σ → α → σ) (P : Nat → σ → Prop) (h : ∀ n s x, P (n + 1) s → b s x = some (f s x, .go) ∧ P n (f s x)) : ∀ (l : List α) (s : σ), P l.length s → kv b l s = some (l.foldl f s, .go)
 | [], s, _ => rfl
 | x :: l, s, hp => by
  obtain ⟨h1, h2⟩ := h l.length s x hp
  unfold kv
  rw [h1]
  exact Q0 b f P h l (f s x) h2
theorem Q1 (u : ag) (y : Nat) (i : aq) : (fX u y i).length ≤ 3 := by
 unfold fX
 simp only [List.length_append, List.length_map]
 have h1 : (if jo i.aJ = false ∧ y + 1 < u.aa.length then [((y : Int) + 1, (0 : Int))] else []).length ≤ 1 := by split <;> simp
 have h2 : (eL i).toList.length ≤ 1 := by cases eL i <;> simp
 have h3 : (if iC i = true ∧ 0 ≤ ep u.aB y then ((ix u.aB (ep u.aB y)).toList.map fun d => (d.dM, (2 : Int))) else []).length ≤ 1 := by
  split
  · rw [List.length_map]; cases ix u.aB (ep u.aB y) <;> simp
  · simp
 omega
theorem alr {u : ag} (U : fg u) (N : Nat) (hN : 1000 ≤ N) (y : Nat) (hy : y < u.aa.length) : C6 N u (y : Int) = some (hY u y u.aa[y]) := by
 unfold C6
 rw [II U N hN y hy, Option.bind_some]
 have hlen := Q1 u y u.aa[y]
 rw [Q0 _ (fun s (x : Int × Int) => ny s x.1) (fun n s => s.length + n ≤ 100) (fun n s x hs => by
  refine ⟨?_, by have := ZH s x.1; omega⟩
  unfold C5
  rw [alo N s x.1 (by omega) (by omega), Option.bind_some]
  unfold ny
  by_cases hm : x.1 ∈ s
  · rw [decide_eq_true hm, if_pos hm]; rfl
  · rw [decide_eq_false hm, if_neg hm]
    show gu (decide (s.length + [x.1].length ≤ 1048576)) _ = _
    rw [decide_eq_true (by simp; omega)]; rfl) _ _ (by simp; omega)]
 show some _ = _
 unfold hY
 rw [List.foldl_map]
theorem als (u : ag) (y : Nat) (i : aq) : hY u y i = if iC i = true ∧ 0 ≤ ep u.aB y then (match ix u.aB (ep u.aB y) with | some d => ny (sT u y i) d.dM | none => sT u y i) else sT u y i := by
 have hb : (((if jo i.aJ = false ∧ y + 1 < u.aa.length then [((y : Int) + 1, (0 : Int))] else []) ++ ((eL i).toList.map fun x => (x, (1 : Int)))).map (fun p : Int × Int => p.1)).foldl ny [] = sT u y i := by
  unfold sT
  by_cases h : jo i.aJ = false ∧ y + 1 < u.aa.length
  · rw [if_pos h, if_pos h]
    cases eL i with
    | none => rfl
    | some x => rfl
  · rw [if_neg h, if_neg h]
    cases eL i with
    | none => rfl
    | some x => rfl
 unfold hY fX
 rw [List.map_append, List.foldl_append, hb]
 by_cases h : iC i = true ∧ 0 ≤ ep u.aB y
 · rw [if_pos h, if_pos h]
   cases ix u.aB (ep u.aB y) <;> rfl
 · rw [if_neg h, if_neg h]; rfl
theorem alu (u : ag) (y : Nat) (i : aq) : (sT u y i).length ≤ 2 := by
 unfold sT
 by_cases h : jo i.aJ = false ∧ y + 1 < u.aa.length
 · rw [if_pos h]
   cases eL i with
   | none => simp
   | some x => show (if x ∈ [(y : Int) + 1] then [(y : Int) + 1] else [(y : Int) + 1] ++ [x]).length ≤ 2; split <;> simp
 · rw [if_neg h]
   cases eL i with
   | none => simp
   | some x => show (if x ∈ ([] : List Int) then [] else [] ++ [x]).length ≤ 2; split <;> simp
theorem alv {u : ag} (U : fg u) (N : Nat) (hN : 1000 ≤ N) (y : Nat) (hy : y < u.aa.length) : PJ N u (y : Int) = some (hY u y u.aa[y]) := by
 have hg := U.n1.2.2
 have hb := alu u y u.aa[y]
 unfold PJ PI PH
 rw [aln U N hN y hy, Option.bind_some, QR N u y (by omega) (by omega), Option.bind_some, iy, List.getElem?_eq_getElem hy, Option.bind_some, QS, Option.bind_some, als]
 cases hr : iC u.aa[y] with
 | false => rw [if_neg fun h => by cases h.1]; rfl
 | true =>
  by_cases hd : 0 ≤ ep u.aB y
  · obtain ⟨d, h1, _⟩ := IG hd
    rw [decide_eq_true hd, if_pos ⟨rfl, hd⟩, h1]
    simp only [cond_true, Option.bind_some]
    rw [alq N _ _ (by omega) (by omega)]; rfl
  · rw [decide_eq_false hd, if_neg fun h => hd h.2]; rfl
def zH (u : ag) (x : Int) : Bool := decide (0 ≤ x ∧ x ≤ (u.aa.length : Int) - 1)
def DM (u : ag) (x : Int) : List Int := bif iW u && zH u x then (match u.aa[x.toNat]? with | some i => hY u x.toNat i | none => []) else []
theorem alh (N : Nat) (hN : 1000 ≤ N) (u : ag) (x : Int) : Cb N u x = some (DM u x) ∧ Yq N u x = some (DM u x) := by
 unfold Cb Yq DM
 rw [zD N hN, IE N hN, Option.bind_some, Option.bind_some]
 cases hp : iW u with
 | false => exact ⟨rfl, rfl⟩
 | true =>
  have U : fg u := ⟨hp⟩
  have hn := U.n1
  simp only [Bool.not_true, cond_false, Bool.true_and]
  rw [uM, wY, jW (by omega) (by omega), Option.bind_some, Option.bind_some]
  unfold zH C7 PK Yp
  by_cases hx : 0 ≤ x ∧ x ≤ (u.aa.length : Int) - 1
  · rw [decide_eq_true hx]
    obtain ⟨y, rfl⟩ := Int.eq_ofNat_of_zero_le hx.1
    have hy : y < u.aa.length := by omega
    simp only [Bool.not_true, cond_false, cond_true, Int.toNat_natCast, List.getElem?_eq_getElem hy]
    rw [alr U N hN y hy, alv U N hN y hy]
    exact ⟨rfl, rfl⟩
  · rw [decide_eq_false hx]; exact ⟨rfl, rfl⟩
def DN (u : ag) (x : Int) : Int := bif iW u && zH u x then ep u.aB x else -1
theorem alj (N : Nat) (hN : 1000 ≤ N) (u : ag) (x : Int) : B8 N u x = some (DN u x) ∧ Ys N u x = some (DN u x) := by
 unfold B8 Ys DN
 rw [zD N hN, IE N hN, Option.bind_some, Option.bind_some]
 cases hp : iW u with
 | false => exact ⟨rfl, rfl⟩
 | true =>
  have U : fg u := ⟨hp⟩
  have hn := U.n1
  simp only [Bool.not_true, cond_false, Bool.true_and]
  rw [uM, wY, jW (by omega) (by omega), Option.bind_some, Option.bind_some]
  unfold zH CU PL H7 Yr
  rw [ZG N u x (by omega) (by omega), QR N u x (by omega) (by omega)]
  cases decide (0 ≤ x ∧ x ≤ (u.aa.length : Int) - 1) <;> exact ⟨rfl, rfl⟩
end
end Go.Ve.T
namespace Go.Ve.T
open Go.Ve
open Classical
noncomputable section
theorem ZI {y : Int} : ∀ {l s : List Int}, y ∈ l.foldl ny s ↔ y ∈ s ∨ y ∈ l
 | [], s => by simp
 | x :: l, s => by
  rw [List.foldl_cons, ZI, alp, List.mem_cons]
  constructor
  · rintro ((h | h) | h) <;> simp [h]
  · rintro (h | h | h) <;> simp [h]
theorem DJ {u : ag} {y : Nat} {i : aq} {x : Int} : x ∈ hY u y i ↔ ∃ k, (x, k) ∈ fX u y i := by
 unfold hY
 rw [ZI]
 constructor
 · rintro (h | h)
   · cases h
   · obtain ⟨p, h1, rfl⟩ := List.mem_map.1 h
     exact ⟨p.2, h1⟩
 · rintro ⟨k, h⟩
   exact .inr (List.mem_map.2 ⟨_, h, rfl⟩)
theorem DG {u : ag} (U : fg u) {y : Nat} {i : aq} (hi : u.aa[y]? = some i) {p : Int × Int} (h : p ∈ fX u y i) : 0 ≤ p.1 ∧ p.1 < u.aa.length := by
 have hy := (List.getElem?_eq_some_iff.1 hi).1
 unfold fX at h
 rcases List.mem_append.1 h with h | h
 · rcases List.mem_append.1 h with h | h
   · split at h
     · have := List.mem_singleton.1 h; subst this
       have := ‹jo i.aJ = false ∧ y + 1 < u.aa.length›.2
       exact ⟨by show 0 ≤ (y : Int) + 1; omega, by show (y : Int) + 1 < _; omega⟩
     · cases h
   · obtain ⟨x, h1, rfl⟩ := List.mem_map.1 h
     exact U.jmp hi (by simpa using h1)
 · split at h
   · obtain ⟨d, h1, rfl⟩ := List.mem_map.1 h
     have h2 : ix u.aB (ep u.aB y) = some d := by simpa using h1
     obtain ⟨k, _, _, h3⟩ := Hu h2
     have := U.IH h3
     exact ⟨this.2.2.2.1, this.2.2.2.2⟩
   · cases h
theorem ZC {u : ag} (U : fg u) {y : Nat} {i : aq} (hi : u.aa[y]? = some i) {x : Int} (h : x ∈ hY u y i) : 0 ≤ x ∧ x < u.aa.length := by
 obtain ⟨k, h⟩ := DJ.1 h
 exact DG U hi h
inductive sS (u : ag) : Nat → Prop where
 | zero : sS u 0
 | step {a b : Nat} {i : aq} (h : sS u a) (hi : u.aa[a]? = some i) (hb : (b : Int) ∈ hY u a i) : sS u b
def fY (u : ag) : List Bool := (List.range u.aa.length).map fun i => decide (sS u i)
structure Fin (u : ag) (v : List Bool) : Prop where
 len : v.length = u.aa.length
 sound : ∀ i, v[i]? = some true → sS u i
 zero : v[0]? = some true
 closed : ∀ (a b : Nat) i, v[a]? = some true → u.aa[a]? = some i → (b : Int) ∈ hY u a i → v[b]? = some true
theorem Fin.eq {u : ag} {v : List Bool} (H : Fin u v) : v = fY u := by
 have hr : ∀ i, sS u i → v[i]? = some true := by
  intro i h
  induction h with
  | zero => exact H.zero
  | step h hi hb ih => exact H.closed _ _ _ ih hi hb
 refine List.ext_getElem? fun i => ?_
 unfold fY
 rw [List.getElem?_map]
 by_cases hi : i < u.aa.length
 · have nK : i < v.length := by rw [H.len]; exact hi
   rw [List.getElem?_range hi, List.getElem?_eq_getElem nK]
   show some _ = some _
   congr 1
   have e : v[i]? = some v[i] := List.getElem?_eq_getElem nK
   cases hv : v[i] with
   | true => exact (decide_eq_true (H.sound i (by rw [e, hv]))).symm
   | false => exact (decide_eq_false fun h => by have := hr i h; rw [e, hv] at this; cases this).symm
 · rw [List.getElem?_eq_none (by rw [H.len]; omega), List.getElem?_eq_none (by simp; omega)]; rfl
def lU (v : List Bool) : Nat := v.count false
theorem Q2 : ∀ {v : List Bool} {k : Nat}, v[k]? = some false → lU (v.set k true) + 1 = lU v
 | [], k, h => by simp at h
 | b :: v, 0, h => by
  have : b = false := by simpa using h
  subst this
  simp [lU]
 | b :: v, k + 1, h => by
  have := Q2 (v := v) (k := k) (by simpa using h)
  unfold lU at this ⊢
  rw [List.set_cons_succ, List.count_cons, List.count_cons]
  omega
theorem cZ {v : List Bool} {k j : Nat} (hk : k < v.length) : (v.set k true)[j]? = some true ↔ v[j]? = some true ∨ j = k := by
 rw [List.getElem?_set]
 by_cases e : k = j
 · subst e; simp [hk]
 · rw [if_neg e]
   exact ⟨.inl, fun h => h.resolve_right fun e' => e e'.symm⟩
theorem ZJ {v : List Bool} {k : Nat} (hk : k < v.length) (h : v[k]? ≠ some true) : v[k]? = some false := by
 rw [List.getElem?_eq_getElem hk] at h ⊢
 cases hv : v[k] with
 | true => rw [hv] at h; exact absurd rfl h
 | false => rfl
def mark (s : List Bool × List Int) (x : Int) : List Bool × List Int := if s.1[x.toNat]? = some true then s else (s.1.set x.toNat true, s.2 ++ [x])
structure MF (n : Nat) (v0 : List Bool) (o0 xs : List Int) (s : List Bool × List Int) : Prop where
 len : s.1.length = n
 iff : ∀ j : Nat, s.1[j]? = some true ↔ v0[j]? = some true ∨ (j : Int) ∈ xs
 sub : ∀ z ∈ o0, z ∈ s.2
 op : ∀ z ∈ s.2, z ∈ o0 ∨ z ∈ xs
 new : ∀ j : Nat, s.1[j]? = some true → v0[j]? = some true ∨ (j : Int) ∈ s.2
 Q3 : s.2.length + lU s.1 = o0.length + lU v0
theorem ZK {n : Nat} {v0 : List Bool} {o0 : List Int} : ∀ (xs done : List Int) (s : List Bool × List Int), MF n v0 o0 done s → (∀ x ∈ xs, 0 ≤ x ∧ x < n) → MF n v0 o0 (done ++ xs) (xs.foldl mark s)
  | [], done, s, H, _ => by rw [List.append_nil]; exact H
  | x :: xs, done, s, H, hx => by
    have QJ := hx x List.mem_cons_self
    obtain ⟨k, rfl⟩ := Int.eq_ofNat_of_zero_le QJ.1
    have hk : k < s.1.length := by rw [H.len]; omega
    have H2 : MF n v0 o0 (done ++ [(k : Int)]) (mark s (k : Int)) := by
      unfold mark
      rw [Int.toNat_natCast]
      by_cases h : s.1[k]? = some true
      · rw [if_pos h]
        refine ⟨H.len, fun j => ?_, H.sub, fun z hz => ?_, H.new, H.Q3⟩
        · rw [H.iff j, List.mem_append]
          constructor
          · rintro (h | h) <;> simp [h]
          · rintro (h' | h' | h')
            · exact .inl h'
            · exact .inr h'
            · have : (j : Int) = (k : Int) := by simpa using h'
              have : j = k := by omega
              subst this; exact (H.iff j).1 h
        · rcases H.op z hz with h | h
          · exact .inl h
          · exact .inr (List.mem_append_left _ h)
      · rw [if_neg h]
        refine ⟨by simpa using H.len, fun j => ?_, fun z hz => List.mem_append_left _ (H.sub z hz), fun z hz => ?_, fun j hj => ?_, ?_⟩
        · show (s.1.set k true)[j]? = some true ↔ _
          rw [cZ hk, H.iff j, List.mem_append]
          constructor
          · rintro ((h | h) | h)
            · exact .inl h
            · exact .inr (.inl h)
            · subst h; exact .inr (.inr (by simp))
          · rintro (h | h | h)
            · exact .inl (.inl h)
            · exact .inl (.inr h)
            · exact .inr (by have : (j : Int) = (k : Int) := by simpa using h
                             omega)
        · rcases List.mem_append.1 hz with hz | hz
          · rcases H.op z hz with h | h
            · exact .inl h
            · exact .inr (List.mem_append_left _ h)
          · exact .inr (List.mem_append_right _ hz)
        · rcases (cZ hk).1 hj with h | h
          · rcases H.new j h with h | h
            · exact .inl h
            · exact .inr (List.mem_append_left _ h)
          · subst h; exact .inr (List.mem_append_right _ (by simp))
        · have := Q2 (ZJ hk h)
          have := H.Q3
          show (s.2 ++ [(k : Int)]).length + lU (s.1.set k true) = _
          rw [List.length_append]
          simp
          omega
    have := ZK xs (done ++ [(k : Int)]) (mark s k) H2 fun y hy => hx y (List.mem_cons_of_mem _ hy)
    rwa [List.append_assoc] at this
theorem ZL {α σ : Type} (b : σ → α → Option (σ × Fl)) (f : σ → α → σ) (l0 : List α) (P : Nat → σ → Prop) (h : ∀ n s x, x ∈ l0 → P (n + 1) s → b s x = some (f s x, .go) ∧ P n (f s x)) : ∀ (l : List α) (s : σ), (∀ x ∈ l, x ∈ l0) → P l.length s → kv b l s = some (l.foldl f s, .go)
 | [], s, _, _ => rfl
 | x :: l, s, hm, hp => by
  obtain ⟨h1, h2⟩ := h l.length s x (hm x List.mem_cons_self) hp
  unfold kv
  rw [h1]
  exact ZL b f l0 P h l (f s x) (fun y hy => hm y (List.mem_cons_of_mem _ hy)) h2
structure Wk (u : ag) (op : List Int) (v : List Bool) : Prop where
 len : v.length = u.aa.length
 sound : ∀ i, v[i]? = some true → sS u i
 zero : v[0]? = some true
 ops : ∀ z ∈ op, 0 ≤ z ∧ z < u.aa.length ∧ v[z.toNat]? = some true
 closed : ∀ (a b : Nat) i, v[a]? = some true → (a : Int) ∉ op → u.aa[a]? = some i → (b : Int) ∈ hY u a i → v[b]? = some true
theorem alw {u : ag} (U : fg u) (N : Nat) (hN : 1000 ≤ N) {p : List Int} {c : Int} {v3 v : List Bool} (H : Wk u (p ++ [c]) v) (hlen : (p ++ [c]).length + lU v ≤ 700) (K : List Int → List Bool → List Bool → Option (List Bool)) :
    ∃ DO v', zw N (p ++ [c]) u (fun a0 a1 a2 => uL a0 a1 a2) v3 v K = K DO v3 v' ∧ Wk u DO v' ∧ DO.length + lU v' + 1 = (p ++ [c]).length + lU v := by
  obtain ⟨hc1, xY, ZM⟩ := H.ops c (by simp)
  obtain ⟨y, rfl⟩ := Int.eq_ofNat_of_zero_le hc1
  have hy : y < u.aa.length := by omega
  have hi : u.aa[y]? = some u.aa[y] := List.getElem?_eq_getElem hy
  rw [Int.toNat_natCast] at ZM
  have Ld := Q1 u y u.aa[y]
  have kb : (p ++ [(y : Int)]).length = p.length + 1 := by simp
  generalize jP : (fX u y u.aa[y]).map (fun q : Int × Int => q.1) = xs
  have ZN : ∀ x ∈ xs, 0 ≤ x ∧ x < (u.aa.length : Nat) := fun x hx => by
    subst jP
    obtain ⟨q, h1, rfl⟩ := List.mem_map.1 hx
    exact DG U hi h1
  have F : MF u.aa.length v p ([] ++ xs) (xs.foldl mark (v, p)) := ZK xs [] (v, p) ⟨H.len, fun j => by simp, fun z hz => hz, fun z hz => .inl hz, fun j hj => .inl hj, rfl⟩ ZN
  rw [List.nil_append] at F
  refine ⟨(xs.foldl mark (v, p)).2, (xs.foldl mark (v, p)).1, ?_, ⟨F.len, fun i hv => ?_, (F.iff 0).2 (.inl H.zero), fun z hz => ?_, fun a b i ha IJ dQ hb => ?_⟩, ?_⟩
  · unfold zw
    have e1 : bf .i64 (((p ++ [(y : Int)]).length : Int) - 1) = (p.length : Int) := by rw [jW (by omega) (by omega), kb]; omega
    have e2 : ix (p ++ [(y : Int)]) (p.length : Int) = some (y : Int) := by rw [iy]; simp
    have e3 : sE (p ++ [(y : Int)]) 0 (p.length : Int) = some p := by
      unfold sE
      rw [decide_eq_true (show (0 : Int) ≤ 0 by omega), decide_eq_true (show (0 : Int) ≤ (p.length : Int) by omega), decide_eq_true (show (p.length : Int) ≤ ((p ++ [(y : Int)]).length : Int) by rw [kb]; omega)]
      simp [gu]
    rw [e1, e2, Option.bind_some, e3, Option.bind_some, II U N hN y hy, Option.bind_some]
    rw [ZL _ (fun (s : List Bool × List Bool × List Int) (x : Int × Int) => (s.1, mark s.2 x.1)) (fX u y u.aa[y]) (fun n s => s.2.1.length = u.aa.length ∧ s.2.2.length + n ≤ 1000) (fun n s x hx hs => by
      obtain ⟨h1, h2⟩ := DG U hi hx
      obtain ⟨k, hk⟩ := Int.eq_ofNat_of_zero_le h1
      rw [hk] at h2
      have xN : k < s.2.1.length := by rw [hs.1]; omega
      unfold Dc uL Iq mark
      rw [hk]
      simp only [Option.bind_some, Bool.not_true, cond_false, iy, Int.toNat_natCast]
      by_cases hv : s.2.1[k]? = some true
      · rw [hv, if_pos rfl]; exact ⟨rfl, hs.1, by omega⟩
      · have hf := ZJ xN hv
        rw [if_neg hv, hf]
        simp only [Option.bind_some, Bool.not_false, cond_true]
        rw [decide_eq_true (show s.2.2.length + [(k : Int)].length ≤ 1048576 by simp; omega)]
        exact ⟨rfl, by simpa using hs.1, by show (s.2.2 ++ [(k : Int)]).length + n ≤ 1000; rw [List.length_append]; simp; omega⟩) _ _ (fun x hx => hx) ⟨H.len, by show p.length + _ ≤ 1000; omega⟩]
    have e4 : ∀ (l : List (Int × Int)) (s : List Bool × List Bool × List Int), l.foldl (fun (s : List Bool × List Bool × List Int) (x : Int × Int) => (s.1, mark s.2 x.1)) s = (s.1, (l.map fun q : Int × Int => q.1).foldl mark s.2) := by
      intro l
      induction l with
      | nil => intro s; rfl
      | cons x l ih => intro s; rw [List.foldl_cons, ih]; rfl
    rw [e4, jP]
    rfl
  · rcases (F.iff i).1 hv with h | h
    · exact H.sound i h
    · exact .step (H.sound y ZM) hi (DJ.2 (by
        subst jP
        obtain ⟨q, h1, h2⟩ := List.mem_map.1 h
        exact ⟨q.2, by rw [← h2]; exact h1⟩))
  · rcases F.op z hz with h | h
    · obtain ⟨h1, h2, h3⟩ := H.ops z (List.mem_append_left _ h)
      exact ⟨h1, h2, (F.iff _).2 (.inl h3)⟩
    · have h1 := ZN z h
      exact ⟨h1.1, h1.2, (F.iff _).2 (.inr (by rw [Int.toNat_of_nonneg h1.1]; exact h))⟩
  · rcases F.new a ha with h | h
    · by_cases ZO : (a : Int) ∈ p ++ [(y : Int)]
      · rcases List.mem_append.1 ZO with h' | h'
        · exact absurd (F.sub _ h') IJ
        · have : (a : Int) = (y : Int) := by simpa using h'
          have : a = y := by omega
          subst this
          rw [hi] at dQ; cases dQ
          refine (F.iff b).2 (.inr ?_)
          obtain ⟨k, hk⟩ := DJ.1 hb
          subst jP
          exact List.mem_map.2 ⟨_, hk, rfl⟩
      · exact (F.iff b).2 (.inl (H.closed a b i h ZO dQ hb))
    · exact absurd h IJ
  · have := F.Q3
    rw [kb]
    show (xs.foldl mark (v, p)).2.length + lU (xs.foldl mark (v, p)).1 + 1 = _
    omega
theorem ZP {u : ag} (U : fg u) (N : Nat) (hN : 1000 ≤ N) : ∀ (n : Nat) (op : List Int) (v3 v : List Bool), Wk u op v → op.length + lU v < n → op.length + lU v ≤ 700 → zx N u (fun a0 a1 a2 => uL a0 a1 a2) n op v3 v = some (fY u)
 | 0, op, v3, v, H, h, _ => by omega
 | n + 1, op, v3, v, H, h, h7 => by
  show Dd N op u _ v3 v _ = _
  unfold Dd Ir
  rcases List.eq_nil_or_concat op with rfl | ⟨p, c, rfl⟩
  · show some v = _
    rw [Fin.eq ⟨H.len, H.sound, H.zero, fun a b i ha dQ hb => H.closed a b i ha (by simp) dQ hb⟩]
  · rw [List.concat_eq_append] at H h h7 ⊢
    have e : (p ++ [c]).length = p.length + 1 := by simp
    rw [decide_eq_true (show 0 < ((p ++ [c]).length : Int) by omega)]
    obtain ⟨DO, v', h1, h2, h3⟩ := alw U N hN H (v3 := v3) h7 (fun pz fT lR => zx N u (fun a0 a1 a2 => uL a0 a1 a2) n pz fT lR)
    show zw N _ u _ v3 v _ = _
    rw [h1]
    exact ZP U N hN n DO v3 v' h2 (by omega) (by omega)
theorem Zx (n : Nat) (hn : 1 ≤ n) (i : Nat) : ((List.replicate n false).set 0 true)[i]? = some true ↔ i = 0 := by
 rw [cZ (by rw [List.length_replicate]; omega)]
 constructor
 · rintro (h | h)
   · rw [List.getElem?_replicate] at h; split at h <;> cases h
   · exact h
 · exact .inr
theorem alx (n : Nat) (hn : 1 ≤ n) : lU ((List.replicate n false).set 0 true) + 1 = n := by
 rw [Q2 (by rw [List.getElem?_replicate, if_pos (by omega)])]
 simp [lU]
def DK (u : ag) : List Bool := bif iW u then fY u else []
theorem ZE (N : Nat) (hN : 1000 ≤ N) (u : ag) : yI N u = some (DK u) := by
 unfold yI DK
 rw [zD N hN, Option.bind_some]
 cases hp : iW u with
 | false => rfl
 | true =>
  have U : fg u := ⟨hp⟩
  have hn := U.n1
  show ((De N u _).bind _) = _
  unfold De
  rw [decide_eq_true (show (0 : Int) ≤ (u.aa.length : Int) by omega), decide_eq_true (show (u.aa.length : Int) ≤ 65536 by omega)]
  have e0 : ix (List.replicate (u.aa.length : Int).toNat false) 0 = some false := by
   show (List.replicate (u.aa.length : Int).toNat false)[0]? = _
   rw [Int.toNat_natCast, List.getElem?_replicate, if_pos (by omega)]
  show ((ix (List.replicate (u.aa.length : Int).toNat false) 0).bind _).bind _ = _
  rw [e0, Option.bind_some, Int.toNat_natCast]
  have hu := alx u.aa.length hn.1
  have g := Zx u.aa.length hn.1
  rw [show ((0 : Int).toNat) = 0 from rfl]
  rw [ZP U N hN N [0] [] _ ⟨by simp, fun i hi => by rw [(g i).1 hi]; exact .zero, (g 0).2 rfl, fun z hz => by
   obtain rfl := List.mem_singleton.1 hz
   exact ⟨by omega, by omega, (g 0).2 rfl⟩, fun a b i ha IJ _ _ => by
   have := (g a).1 ha
   subst this
   exact absurd (by simp) IJ⟩ (by show 1 + _ < N; omega) (by show 1 + _ ≤ 700; omega)]
  rfl
end
end Go.Ve.T
namespace Go.Ve.T
open Go.Ve
open Classical
noncomputable section
theorem ali (u : ag) (y : Nat) (i : aq) : (hY u y i).length ≤ 3 := by
 have h := Q1 u y i
 unfold hY
 have key : ∀ (l s : List Int), (l.foldl ny s).length ≤ s.length + l.length := by
  intro l
  induction l with
  | nil => intro s; simp
  | cons x l ih => intro s; rw [List.foldl_cons]; have := ih (ny s x); have := ZH s x; simp; omega
 have := key ((fX u y i).map fun p => p.1) []
 simp at this
 omega
end
end Go.Ve.T
namespace Go.Ve.T
open Go.Ve
open Classical
noncomputable section
def nw (i : aq) : Bool := jo i.aJ || (decide (i.aJ = 25) || decide (i.aJ = 32))
def Dy (u : ag) (y : Nat) (i : aq) (x : Nat) : Prop := (∃ k, ((x : Int), k) ∈ fX u y i ∧ ¬ (x = y + 1 ∧ k = 0)) ∨ (x = y + 1 ∧ nw i = true ∧ y + 1 < u.aa.length)
def QT (u : ag) (x : Nat) : Prop := x = 0 ∨ ∃ y i, u.aa[y]? = some i ∧ Dy u y i x
def dF (u : ag) : List Int := ((List.range u.aa.length).filter fun x => decide (QT u x)).map fun x : Nat => (x : Int)
theorem aly (u : ag) : gw (dF u) := by
 unfold dF gw
 rw [List.pairwise_map]
 exact (List.pairwise_lt_range.filter _).imp fun h => by omega
theorem ZD (u : ag) (x : Int) : x ∈ dF u ↔ ∃ k : Nat, x = k ∧ k < u.aa.length ∧ QT u k := by
 unfold dF
 rw [List.mem_map]
 constructor
 · rintro ⟨k, h, rfl⟩
   rw [List.mem_filter, List.mem_range] at h
   exact ⟨k, rfl, h.1, of_decide_eq_true h.2⟩
 · rintro ⟨k, rfl, h1, h2⟩
   exact ⟨k, by rw [List.mem_filter, List.mem_range]; exact ⟨h1, decide_eq_true h2⟩, rfl⟩
theorem alk (u : ag) : (dF u).length ≤ u.aa.length := by
 unfold dF
 rw [List.length_map]
 exact Nat.le_trans (List.length_filter_le _ _) (by simp)
structure BS (u : ag) (y : Nat) (s : List Int) : Prop where
 oe : gw s
 mem : ∀ x : Int, x ∈ s ↔ ∃ k : Nat, x = k ∧ k < u.aa.length ∧ (k = 0 ∨ ∃ a i, a < y ∧ u.aa[a]? = some i ∧ Dy u a i k)
theorem alz {n : Nat} {s : List Int} (h : gw s) (hb : ∀ x ∈ s, 0 ≤ x ∧ x < (n : Int)) : s.length ≤ n := by
 have h1 := OQ (l := s) (m := (List.range n).map fun x : Nat => (x : Int)) h.nd (by
  unfold List.Nodup
  rw [List.pairwise_map]
  exact List.pairwise_lt_range.imp fun h => by omega) (fun x hx => by
  obtain ⟨k, rfl⟩ := Int.eq_ofNat_of_zero_le (hb x hx).1
  have := (hb _ hx).2
  exact List.mem_map.2 ⟨k, List.mem_range.2 (by omega), rfl⟩)
 simpa using h1
theorem BS.len {u : ag} {y : Nat} {s : List Int} (H : BS u y s) : s.length ≤ u.aa.length := alz H.oe fun x hx => by
 obtain ⟨k, rfl, h1, _⟩ := (H.mem x).1 hx
 omega
def mz (y : Nat) (s : List Int) (p : Int × Int) : List Int := if p.1 = (y : Int) + 1 ∧ p.2 = 0 then s else jZ p.1 s
theorem ZQ (y : Nat) : ∀ (l : List (Int × Int)) (s : List Int), gw s → gw (l.foldl (mz y) s) ∧ ∀ x, x ∈ l.foldl (mz y) s ↔ x ∈ s ∨ ∃ k, (x, k) ∈ l ∧ ¬ (x = (y : Int) + 1 ∧ k = 0)
 | [], s, h => ⟨h, fun x => by simp⟩
 | p :: l, s, h => by
  have h1 : gw (mz y s p) := by
   unfold mz
   split
   · exact h
   · exact wE h
  obtain ⟨h2, h3⟩ := ZQ y l (mz y s p) h1
  refine ⟨h2, fun x => ?_⟩
  rw [List.foldl_cons, h3]
  have hp : x ∈ mz y s p ↔ x ∈ s ∨ (x = p.1 ∧ ¬ (x = (y : Int) + 1 ∧ p.2 = 0)) := by
   unfold mz
   by_cases hc : p.1 = (y : Int) + 1 ∧ p.2 = 0
   · rw [if_pos hc]
     refine ⟨.inl, fun h => h.elim id fun h => ?_⟩
     obtain ⟨rfl, h2⟩ := h
     exact absurd hc h2
   · rw [if_neg hc, wD]
     constructor
     · rintro (rfl | h)
       · exact .inr ⟨rfl, hc⟩
       · exact .inl h
     · rintro (h | h)
       · exact .inr h
       · exact .inl h.1
  rw [hp]
  constructor
  · rintro ((h | ⟨rfl, h⟩) | ⟨k, h, h'⟩)
    · exact .inl h
    · exact .inr ⟨p.2, List.mem_cons_self, h⟩
    · exact .inr ⟨k, List.mem_cons_of_mem _ h, h'⟩
  · rintro (h | ⟨k, h, h'⟩)
    · exact .inl (.inl h)
    · rcases List.mem_cons.1 h with e | h
      · subst e; exact .inl (.inr ⟨rfl, h'⟩)
      · exact .inr ⟨k, h, h'⟩
theorem alA {u : ag} (U : fg u) (N : Nat) (hN : 1000 ≤ N) {y : Nat} (hy : y < u.aa.length) {s : List Int} (H : BS u y s) (K : Int → List Int → Option (List Int)) : ∃ s', BS u (y + 1) s' ∧ Dr N u.aa (y : Int) u s K = K (((y + 1 : Nat)) : Int) s' := by
  have hn := U.n1
  have hi : u.aa[y]? = some u.aa[y] := List.getElem?_eq_getElem hy
  obtain ⟨f1, f2⟩ := ZQ y (fX u y u.aa[y]) s H.oe
  have hw : bf .i64 ((y : Int) + 1) = (y : Int) + 1 := jW (by omega) (by omega)
  have alB : ∀ l : List (Int × Int), kv (fun (s : List Int) (x : Int × Int) => zy N (y : Int) s u.aa[y] u x.1 x.2 (fun f m0 => some (m0, f))) l s = some (l.foldl (mz y) s, .go) := fun l => Q0 _ (mz y) (fun _ _ => True) (fun n s x _ => ⟨by
    unfold zy mz
    rw [hw]
    by_cases h1 : x.1 = (y : Int) + 1 <;> by_cases h2 : x.2 = 0 <;> simp [h1, h2], trivial⟩) l s trivial
  refine ⟨if nw u.aa[y] = true ∧ y + 1 < u.aa.length then jZ ((y : Int) + 1) ((fX u y u.aa[y]).foldl (mz y) s) else (fX u y u.aa[y]).foldl (mz y) s, ⟨?_, fun x => ?_⟩, ?_⟩
  · split
    · exact wE f1
    · exact f1
  · have base : x ∈ (fX u y u.aa[y]).foldl (mz y) s ∨ (x = (y : Int) + 1 ∧ nw u.aa[y] = true ∧ y + 1 < u.aa.length) ↔ ∃ k : Nat, x = k ∧ k < u.aa.length ∧ (k = 0 ∨ ∃ a i, a < y + 1 ∧ u.aa[a]? = some i ∧ Dy u a i k) := by
      rw [f2, H.mem]
      constructor
      · rintro ((⟨k, rfl, h1, h2⟩ | ⟨k, h1, h2⟩) | ⟨rfl, h1, h2⟩)
        · refine ⟨k, rfl, h1, h2.imp id fun ⟨a, i, h3, h4⟩ => ⟨a, i, by omega, h4⟩⟩
        · obtain ⟨h3, h4⟩ := DG U hi h1
          obtain ⟨z, hz⟩ := Int.eq_ofNat_of_zero_le h3
          have hz : x = (z : Int) := hz
          subst hz
          exact ⟨z, rfl, by have : (z : Int) < u.aa.length := h4; omega, .inr ⟨y, _, Nat.lt_succ_self _, hi, .inl ⟨k, h1, fun h => h2 ⟨by omega, h.2⟩⟩⟩⟩
        · exact ⟨y + 1, rfl, h2, .inr ⟨y, _, Nat.lt_succ_self _, hi, .inr ⟨rfl, h1, h2⟩⟩⟩
      · rintro ⟨k, rfl, h1, h2⟩
        rcases h2 with h2 | ⟨a, i, h3, h4, h5⟩
        · exact .inl (.inl ⟨k, rfl, h1, .inl h2⟩)
        · by_cases ha : a < y
          · exact .inl (.inl ⟨k, rfl, h1, .inr ⟨a, i, ha, h4, h5⟩⟩)
          · have : a = y := by omega
            subst this
            rw [hi] at h4; cases h4
            rcases h5 with ⟨q, h6, h7⟩ | ⟨h6, h7, h8⟩
            · exact .inl (.inr ⟨q, h6, fun h => h7 ⟨by omega, h.2⟩⟩)
            · exact .inr ⟨by rw [h6]; rfl, h7, h8⟩
    rw [← base]
    split
    · rw [wD]
      constructor
      · rintro (h | h)
        · exact .inr ⟨h, ‹_›⟩
        · exact .inl h
      · rintro (h | h)
        · exact .inr h
        · exact .inl h.1
    · exact ⟨.inl, fun h => h.elim id fun h => absurd h.2 ‹_›⟩
  · unfold Dr
    rw [iy, hi, Option.bind_some, II U N hN y hy, Option.bind_some, alB, Option.bind_some]
    generalize (fX u y u.aa[y]).foldl (mz y) s = t
    show Dq N u.aa[y] (y : Int) u t (y : Int) K = _
    unfold Dq Dp Dn Dm Dl nw
    rw [hw]
    show (bif jo u.aa[y].aJ then _ else _) = _
    have bC : decide ((y : Int) + 1 < (u.aa.length : Int)) = decide (y + 1 < u.aa.length) := decide_eq_decide.2 (by omega)
    rw [bC]
    cases jo u.aa[y].aJ <;> cases decide (u.aa[y].aJ = 25) <;> cases decide (u.aa[y].aJ = 32) <;> by_cases h : y + 1 < u.aa.length <;> simp [h]
theorem akZ (N : Nat) (hN : 1000 ≤ N) (u : ag) (hp : iW u = true) : wz N u = some (dF u) := by
 have U : fg u := ⟨hp⟩
 have hn := U.n1
 unfold wz
 rw [zD N hN, Option.bind_some, hp]
 show Ds N u = _
 unfold Ds
 obtain ⟨n', s', hs, e⟩ := IC (fun n (s : List Int) y => zz N (u.aa.length : Int) u.aa u n s y) u.aa.length (fun y s => BS u y s) (fun n i s hi hs => by
  obtain ⟨s', h1, h2⟩ := alA U N hN hi hs (fun av dJ => zz N (u.aa.length : Int) u.aa u n dJ av)
  refine ⟨s', h1, ?_⟩
  show wT N _ _ u s (i : Int) _ = _
  unfold wT
  rw [Dz i _ hi]
  exact h2) N 0 (jZ 0 []) ⟨wE .nil, fun x => by
   rw [wD]
   constructor
   · rintro (rfl | h)
     · exact ⟨0, rfl, by omega, .inl rfl⟩
     · cases h
   · rintro ⟨k, rfl, _, h | ⟨a, i, h, _⟩⟩
     · subst h; exact .inl rfl
     · omega⟩ (Nat.zero_le _) (by omega)
 rw [show ((0 : Nat) : Int) = 0 from rfl] at e
 rw [e]
 show wT N _ _ u s' (u.aa.length : Int) _ = _
 unfold wT
 rw [DA]
 show ((IA s').bind _) = _
 unfold IA
 have hlen := hs.len
 rw [decide_eq_true (show s'.length ≤ 1048576 by omega)]
 show some s' = _
 congr 1
 refine gw.ext hs.oe (aly u) fun x => ?_
 rw [hs.mem, ZD]
 constructor
 · rintro ⟨k, rfl, h1, h2⟩
   exact ⟨k, rfl, h1, h2.imp id fun ⟨a, i, _, h⟩ => ⟨a, i, h⟩⟩
 · rintro ⟨k, rfl, h1, h2⟩
   exact ⟨k, rfl, h1, h2.imp id fun ⟨a, i, h⟩ => ⟨a, i, (List.getElem?_eq_some_iff.1 h.1).1, h⟩⟩
end
end Go.Ve.T
namespace Go.Ve.T
open Go.Ve
open Classical
noncomputable section
def IF (u : ag) (y : Nat) (i : aq) (x : Nat) : Prop := eL i = some (x : Int) ∨ (iC i = true ∧ 0 ≤ ep u.aB y ∧ ∃ d, ix u.aB (ep u.aB y) = some d ∧ d.dM = (x : Int)) ∨ (x = y + 1 ∧ nw i = true)
theorem zE {u : ag} {y : Nat} {i : aq} {x k : Int} : (x, k) ∈ fX u y i ↔ (jo i.aJ = false ∧ y + 1 < u.aa.length ∧ x = (y : Int) + 1 ∧ k = 0) ∨ (eL i = some x ∧ k = 1) ∨ (iC i = true ∧ 0 ≤ ep u.aB y ∧ ∃ d, ix u.aB (ep u.aB y) = some d ∧ d.dM = x ∧ k = 2) := by
 unfold fX
 rw [List.mem_append, List.mem_append, or_assoc]
 refine or_congr ?_ (or_congr ?_ ?_)
 · split
   · rw [List.mem_singleton, Prod.mk.injEq]
     have h := ‹jo i.aJ = false ∧ y + 1 < u.aa.length›
     exact ⟨fun e => ⟨h.1, h.2, e⟩, fun e => e.2.2⟩
   · next hc => exact ⟨fun h => (by cases h), fun h => absurd ⟨h.1, h.2.1⟩ hc⟩
 · rw [List.mem_map]
   constructor
   · rintro ⟨z, h, e⟩
     obtain ⟨rfl, rfl⟩ := Prod.mk.inj e
     exact ⟨by simpa using h, rfl⟩
   · rintro ⟨h, rfl⟩
     exact ⟨x, by simpa using h, rfl⟩
 · split
   · rw [List.mem_map]
     have h := ‹iC i = true ∧ 0 ≤ ep u.aB y›
     constructor
     · rintro ⟨d, h1, e⟩
       obtain ⟨h2, h3⟩ := Prod.mk.inj e
       exact ⟨h.1, h.2, d, by simpa using h1, h2, h3.symm⟩
     · rintro ⟨_, _, d, h1, rfl, rfl⟩
       exact ⟨d, by simpa using h1, rfl⟩
   · next hc => exact ⟨fun h => (by cases h), fun h => absurd ⟨h.1, h.2.1⟩ hc⟩
theorem Zu {u : ag} {y : Nat} {i : aq} {x : Nat} (hx : x < u.aa.length) : Dy u y i x ↔ IF u y i x := by
 unfold Dy IF
 constructor
 · rintro (⟨k, h, h'⟩ | ⟨h1, h2, _⟩)
   · rcases zE.1 h with ⟨_, _, h3, h4⟩ | ⟨h3, _⟩ | ⟨h3, h4, d, h5, h6, _⟩
     · exact absurd ⟨by omega, h4⟩ h'
     · exact .inl h3
     · exact .inr (.inl ⟨h3, h4, d, h5, h6⟩)
   · exact .inr (.inr ⟨h1, h2⟩)
 · rintro (h | ⟨h3, h4, d, h5, h6⟩ | ⟨h1, h2⟩)
   · exact .inl ⟨1, zE.2 (.inr (.inl ⟨h, rfl⟩)), fun h => by omega⟩
   · exact .inl ⟨2, zE.2 (.inr (.inr ⟨h3, h4, d, h5, h6, rfl⟩)), fun h => by omega⟩
   · exact .inr ⟨h1, h2, by omega⟩
structure BV (u : ag) (y : Nat) (v : List Bool) : Prop where
 len : v.length = u.aa.length + 1
 iff : ∀ k : Nat, v[k]? = some true ↔ k = 0 ∨ ∃ a i, a < y ∧ u.aa[a]? = some i ∧ IF u a i k
theorem QQ {v : List Bool} {k : Nat} (h : k < v.length) : ∃ b, ix v (k : Int) = some b := ⟨v[k], List.getElem?_eq_getElem h⟩
theorem akV {u : ag} (U : fg u) (N : Nat) (hN : 1000 ≤ N) {y : Nat} (hy : y < u.aa.length) {v : List Bool} (H : BV u y v) (K : Int → List Bool → Option (List Int)) : ∃ v', BV u (y + 1) v' ∧ PV N u (y : Int) v K = K (((y + 1 : Nat)) : Int) v' := by
 have hn := U.n1
 have hi : u.aa[y]? = some u.aa[y] := List.getElem?_eq_getElem hy
 have hw : bf .i64 ((y : Int) + 1) = ((y + 1 : Nat) : Int) := zF y (by omega)
 have s3 : ∀ v2 : List Bool, v2.length = u.aa.length + 1 → ∃ v3, v3.length = u.aa.length + 1 ∧ (∀ k : Nat, v3[k]? = some true ↔ v2[k]? = some true ∨ (k = y + 1 ∧ nw u.aa[y] = true)) ∧ HY N u (y : Int) v2 K = K (((y + 1 : Nat)) : Int) v3 := fun v2 h2 => by
  have hb : ∀ b : Bool, HX N (y : Int) v2 b u K = K (((y + 1 : Nat)) : Int) (bif b then v2.set (y + 1) true else v2) := fun b => by
   unfold HX PM
   rw [hw]
   obtain ⟨c, hc⟩ := QQ (v := v2) (k := y + 1) (by omega)
   rw [hc, Int.toNat_natCast]
   cases b <;> rfl
  refine ⟨bif nw u.aa[y] then v2.set (y + 1) true else v2, ?_, fun k => ?_, ?_⟩
  · cases nw u.aa[y] <;> simp [h2]
  · cases nw u.aa[y] with
    | true => rw [cond_true, cZ (by omega)]; simp
    | false => simp
  · unfold HY PO
    simp only [hb, iy, hi, Option.bind_some, Zv]
    unfold nw
    cases jo u.aa[y].aJ <;> cases decide (u.aa[y].aJ = 25) <;> cases decide (u.aa[y].aJ = 32) <;> rfl
 have s2 : ∀ v1 : List Bool, v1.length = u.aa.length + 1 → ∃ v3, v3.length = u.aa.length + 1 ∧ (∀ k : Nat, v3[k]? = some true ↔ v1[k]? = some true ∨ (iC u.aa[y] = true ∧ 0 ≤ ep u.aB y ∧ ∃ d, ix u.aB (ep u.aB y) = some d ∧ d.dM = (k : Int)) ∨ (k = y + 1 ∧ nw u.aa[y] = true)) ∧ HZ N u (y : Int) v1 K = K (((y + 1 : Nat)) : Int) v3 := fun v1 h1 => by
  unfold HZ PS
  rw [QR N u y (by omega) (by omega), Option.bind_some, iy, hi, Option.bind_some, QS, Option.bind_some]
  by_cases hg : iC u.aa[y] = true ∧ 0 ≤ ep u.aB y
  · obtain ⟨d, hd, hm⟩ := IG hg.2
    obtain ⟨j, hj⟩ := List.getElem?_of_mem hm
    have hr := U.IH hj
    obtain ⟨k0, uN⟩ := Int.eq_ofNat_of_zero_le hr.2.2.2.1
    have uN : d.dM = (k0 : Int) := uN
    obtain ⟨c, hc⟩ := QQ (v := v1) (k := k0) (by omega)
    obtain ⟨v3, h3, h4, h5⟩ := s3 (v1.set k0 true) (by simpa using h1)
    refine ⟨v3, h3, fun k => ?_, ?_⟩
    · rw [h4, cZ (by omega)]
      constructor
      · rintro ((h | h) | h)
        · exact .inl h
        · exact .inr (.inl ⟨hg.1, hg.2, d, hd, by rw [uN, h]⟩)
        · exact .inr (.inr h)
      · rintro (h | ⟨_, _, d', h6, h7⟩ | h)
        · exact .inl (.inl h)
        · rw [hd] at h6; cases h6
          exact .inl (.inr (by omega))
        · exact .inr h
    · rw [hg.1, decide_eq_true hg.2, hd]
      simp only [cond_true, Option.bind_some, uN, hc, Int.toNat_natCast]
      exact h5
  · obtain ⟨v3, h3, h4, h5⟩ := s3 v1 h1
    refine ⟨v3, h3, fun k => ?_, ?_⟩
    · rw [h4]
      constructor
      · rintro (h | h)
        · exact .inl h
        · exact .inr (.inr h)
      · rintro (h | ⟨h6, h7, _⟩ | h)
        · exact .inl h
        · exact absurd ⟨h6, h7⟩ hg
        · exact .inr h
    · cases hr : iC u.aa[y] with
      | false => exact h5
      | true =>
       rw [decide_eq_false fun h => hg ⟨hr, h⟩]
       exact h5
 unfold PV
 rw [iy, hi, Option.bind_some, QN, Option.bind_some]
 have all : ∀ (v1 v3 : List Bool), (∀ k : Nat, v1[k]? = some true ↔ v[k]? = some true ∨ eL u.aa[y] = some (k : Int)) → (∀ k : Nat, v3[k]? = some true ↔ v1[k]? = some true ∨ (iC u.aa[y] = true ∧ 0 ≤ ep u.aB y ∧ ∃ d, ix u.aB (ep u.aB y) = some d ∧ d.dM = (k : Int)) ∨ (k = y + 1 ∧ nw u.aa[y] = true)) →
  ∀ k : Nat, v3[k]? = some true ↔ k = 0 ∨ ∃ a i, a < y + 1 ∧ u.aa[a]? = some i ∧ IF u a i k := fun v1 v3 h1 h3 k => by
  rw [h3, h1, H.iff]
  constructor
  · rintro (((h | ⟨a, i, h4, h5⟩) | h) | h)
    · exact .inl h
    · exact .inr ⟨a, i, by omega, h5⟩
    · exact .inr ⟨y, _, Nat.lt_succ_self _, hi, .inl h⟩
    · exact .inr ⟨y, _, Nat.lt_succ_self _, hi, .inr h⟩
  · rintro (h | ⟨a, i, h4, h5, h6⟩)
    · exact .inl (.inl (.inl h))
    · by_cases ha : a < y
      · exact .inl (.inl (.inr ⟨a, i, ha, h5, h6⟩))
      · have : a = y := by omega
        subst this
        rw [hi] at h5; cases h5
        rcases h6 with h6 | h6
        · exact .inl (.inr h6)
        · exact .inr h6
 cases hj : eL u.aa[y] with
 | none =>
  obtain ⟨v3, h3, h4, h5⟩ := s2 v H.len
  exact ⟨v3, ⟨h3, all v v3 (fun k => by rw [hj]; simp) h4⟩, h5⟩
 | some x =>
  have hx := U.jmp hi hj
  obtain ⟨k0, uN⟩ := Int.eq_ofNat_of_zero_le hx.1
  have uN : x = (k0 : Int) := uN
  subst uN
  obtain ⟨c, hc⟩ := QQ (v := v) (k := k0) (by rw [H.len]; omega)
  obtain ⟨v3, h3, h4, h5⟩ := s2 (v.set k0 true) (by simpa using H.len)
  refine ⟨v3, ⟨h3, all _ v3 (fun k => by
   rw [cZ (by rw [H.len]; omega), hj, Option.some.injEq]
   exact or_congr Iff.rfl (by omega)) h4⟩, ?_⟩
  simp only [cond_true, hc, Option.bind_some, Int.toNat_natCast]
  exact h5
theorem akW (N : Nat) (hN : 1000 ≤ N) (n : Nat) (v : List Bool) (hv : v.length = n + 1) (hn : n ≤ 600) : H0 N (n : Int) v = some (((List.range n).filter fun k => decide (v[k]? = some true)).map fun k : Nat => (k : Int)) := by
 unfold H0
 obtain ⟨n', s', hs, e⟩ := IC (fun m (s : List Int) y => CS N (n : Int) m v s y) n (fun i s => s = ((List.range i).filter fun k => decide (v[k]? = some true)).map fun k : Nat => (k : Int)) (fun m i s hi hs => by
  subst hs
  refine ⟨_, rfl, ?_⟩
  have Zw : i < v.length := by omega
  show CQ N _ v _ (i : Int) _ = _
  unfold CQ Yu PW
  rw [Dz i _ hi, iy, List.getElem?_eq_getElem Zw, Option.bind_some, List.range_succ, List.filter_append, List.map_append]
  have hl : (((List.range i).filter fun k => decide (v[k]? = some true)).map fun k : Nat => (k : Int)).length ≤ 600 := by
   rw [List.length_map]
   have := List.length_filter_le (fun k => decide (v[k]? = some true)) (List.range i)
   simp at this ⊢
   omega
  have e1 : ([i].filter fun k => decide (v[k]? = some true)) = bif v[i] then [i] else [] := by
   rw [List.filter_cons, List.getElem?_eq_getElem Zw]
   cases v[i] <;> rfl
  rw [e1]
  cases v[i] with
  | true =>
   show gu (decide (_ + [(i : Int)].length ≤ 1048576)) _ = _
   rw [decide_eq_true (by simp only [List.length_singleton]; omega), zF i (by omega)]; rfl
  | false =>
   rw [zF i (by omega)]
   show CS N _ m v _ _ = CS N _ m v (_ ++ []) _
   rw [List.append_nil]; rfl) N 0 [] rfl (Nat.zero_le _) (by omega)
 rw [show ((0 : Nat) : Int) = 0 from rfl] at e
 rw [e]
 show CQ N _ v s' (n : Int) _ = _
 unfold CQ
 rw [DA, hs]; rfl
theorem akX (N : Nat) (hN : 1000 ≤ N) (u : ag) (hp : iW u = true) : H6 N u = some (dF u) := by
 have U : fg u := ⟨hp⟩
 have hn := U.n1
 unfold H6
 rw [IE N hN, Option.bind_some, hp]
 show PY N u = _
 unfold PY
 rw [zF u.aa.length (by omega), decide_eq_true (show (0 : Int) ≤ ((u.aa.length + 1 : Nat) : Int) by omega), decide_eq_true (show ((u.aa.length + 1 : Nat) : Int) ≤ 65536 by omega), Int.toNat_natCast]
 have e0 : ix (List.replicate (u.aa.length + 1) false) 0 = some false := by
  show (List.replicate (u.aa.length + 1) false)[0]? = _
  rw [List.getElem?_replicate, if_pos (by omega)]
 rw [show ∀ k : Option (List Int), gu (true && true) k = k from fun k => rfl, e0, Option.bind_some, show ((0 : Int).toNat) = 0 from rfl]
 have g := Zx (u.aa.length + 1) (by omega)
 obtain ⟨n', v', hv, e⟩ := IC (fun n (v : List Bool) y => H5 N (u.aa.length : Int) u n v y) u.aa.length (fun y v => BV u y v) (fun n i v hi hv => by
  obtain ⟨v', h1, h2⟩ := akV U N hN hi hv (fun av dJ => H5 N (u.aa.length : Int) u n dJ av)
  refine ⟨v', h1, ?_⟩
  show CT N _ u v (i : Int) _ = _
  unfold CT
  rw [Dz i _ hi]
  exact h2) N 0 ((List.replicate (u.aa.length + 1) false).set 0 true) ⟨by simp, fun k => by
   rw [g k]
   exact ⟨.inl, fun h => h.elim id fun ⟨a, i, h, _⟩ => by omega⟩⟩ (Nat.zero_le _) (by omega)
 rw [show ((0 : Nat) : Int) = 0 from rfl] at e
 rw [e]
 show CT N _ u v' (u.aa.length : Int) _ = _
 unfold CT
 rw [DA]
 show H0 N _ v' = _
 rw [akW N hN u.aa.length v' hv.len hn.2.1]
 unfold dF
 congr 2
 refine List.filter_congr fun k hk => ?_
 have hk := List.mem_range.1 hk
 rw [decide_eq_decide, hv.iff]
 unfold QT
 refine or_congr Iff.rfl ⟨fun ⟨a, i, h1, h2, h3⟩ => ⟨a, i, h2, (Zu hk).2 h3⟩, fun ⟨a, i, h2, h3⟩ => ⟨a, i, (List.getElem?_eq_some_iff.1 h2).1, h2, (Zu hk).1 h3⟩⟩
def DB (u : ag) : List Int := bif iW u then dF u else []
theorem akY (N : Nat) (hN : 1000 ≤ N) (u : ag) : wz N u = some (DB u) ∧ H6 N u = some (DB u) := by
 unfold DB
 cases hp : iW u with
 | true => exact ⟨akZ N hN u hp, akX N hN u hp⟩
 | false =>
  unfold wz H6
  rw [zD N hN, IE N hN, hp]
  exact ⟨rfl, rfl⟩
end
end Go.Ve.T
namespace Go.Ve.T
open Go.Ve
noncomputable section
open Classical
def wZ (op uO : Int) : Int := if op = 30 ∧ uO = 0 then 1 else if op = 31 ∧ uO = 0 ∨ op = 32 ∧ uO = 1 then -1 else 0
theorem ak0 (i : aq) (uO : Int) : CK i uO = some (wZ i.aJ uO) := by
 unfold CK CJ CI zk HU wZ
 by_cases mw : i.aJ = 30 <;> by_cases my : i.aJ = 31 <;> by_cases pL : i.aJ = 32 <;> by_cases k0 : uO = 0 <;> by_cases k1 : uO = 1 <;> simp [mw, my, pL, k0, k1] <;> omega
def pN (op d k : Int) : Int := if k = 2 then 0 else d + wZ op k
inductive iD (u : ag) : Nat → Int → Prop where
 | start : iD u 0 0
 | step (y : Nat) (d : Int) (i : aq) (x : Int × Int) (H : iD u y d) (hi : u.aa[y]? = some i) (hx : x ∈ fX u y i) : iD u x.1.toNat (pN i.aJ d x.2)
def Good (u : ag) : Prop := ∀ y d, iD u y d → (0 ≤ d ∧ d ≤ 40) ∧ ∀ d', iD u y d' → d = d'
theorem ak1 (op k : Int) : -1 ≤ wZ op k ∧ wZ op k ≤ 1 := by
 unfold wZ; split
 · omega
 · split <;> omega
structure DI (u : ag) (out q : List Int) : Prop where
 len : out.length = u.aa.length
 DC : ∀ (y : Nat) d, out[y]? = some d → d = -1 ∨ (0 ≤ d ∧ d ≤ 40 ∧ iD u y d)
 QU : ∀ x ∈ q, ∃ (y : Nat) (d : Int), x = (y : Int) ∧ out[y]? = some d ∧ 0 ≤ d
def zG (u : ag) (out : List Int) (y : Nat) : Prop := ∀ d i, out[y]? = some d → u.aa[y]? = some i → ∀ x ∈ fX u y i, out[x.1.toNat]? = some (pN i.aJ d x.2) ∧ 0 ≤ pN i.aJ d x.2
def Ext (out j3 : List Int) : Prop := ∀ (y : Nat) d, out[y]? = some d → 0 ≤ d → j3[y]? = some d
theorem Ext.refl (o : List Int) : Ext o o := fun _ _ h _ => h
theorem Ext.trans {a b c : List Int} (h1 : Ext a b) (h2 : Ext b c) : Ext a c := fun y d h h0 => h2 y d (h1 y d h h0) h0
def open_ (o : List Int) : Nat := o.countP (fun d => decide (d < 0))
theorem ak2 {o : List Int} {b : Nat} {d v : Int} (h : o[b]? = some d) (hd : d < 0) (hv : 0 ≤ v) : open_ (o.set b v) + 1 = open_ o := by
 unfold open_
 have hb := (List.getElem?_eq_some_iff.1 h)
 obtain ⟨Fj, kg⟩ := hb
 have mW : 0 < o.countP (fun d => decide (d < 0)) := List.countP_pos_iff.2 ⟨d, List.mem_of_getElem? h, decide_eq_true hd⟩
 rw [List.countP_set Fj, kg, decide_eq_true hd]
 have : decide (v < 0) = false := decide_eq_false (by omega)
 simp [this]
 omega
theorem QV {u : ag} (N : Nat) (hl : u.aa.length ≤ 600) (y0 : Nat) (i0 : aq) (d0 : Int) (oh : u.aa[y0]? = some i0) (DD : d0 ≤ 40) : ∀ (l : List (Int × Int)) (out q : List Int), (∀ x ∈ l, x ∈ fX u y0 i0) → (∀ x ∈ l, 0 ≤ x.1 ∧ x.1 < (u.aa.length : Int)) → DI u out q → out[y0]? = some d0 → 0 ≤ d0 → iD u y0 d0 → q.length + open_ out ≤ 700 →
 (∃ j3 q', kv (fun (s : List Int × List Int × Bool × List Int) (x : Int × Int) => pA N s.1 (y0 : Int) u s.2.1 s.2.2.1 s.2.2.2 x.1 x.2 (fun f m0 m1 m2 m3 => some ((m0, m1, m2, m3), f))) l (out, [], false, q) = some ((j3, [], false, q'), .go) ∧ DI u j3 q' ∧ Ext out j3 ∧ (∀ x ∈ l, j3[x.1.toNat]? = some (pN i0.aJ d0 x.2) ∧ 0 ≤ pN i0.aJ d0 x.2) ∧ (∃ e, q' = q ++ e) ∧ q'.length + open_ j3 = q.length + open_ out ∧ (∀ (y : Nat) d, j3[y]? = some d → 0 ≤ d → out[y]? = some d ∨ (y : Int) ∈ q')) ∨
 (∃ j3 q', kv (fun (s : List Int × List Int × Bool × List Int) (x : Int × Int) => pA N s.1 (y0 : Int) u s.2.1 s.2.2.1 s.2.2.2 x.1 x.2 (fun f m0 m1 m2 m3 => some ((m0, m1, m2, m3), f))) l (out, [], false, q) = some ((j3, [], false, q'), .ret) ∧ ¬ Good u)
 | [], out, q, _, _, I, _, _, _, _ => .inl ⟨out, q, rfl, I, Ext.refl _, fun x h => (by cases h), ⟨[], (List.append_nil _).symm⟩, rfl, fun y d h _ => .inl h⟩
 | x :: l, out, q, ah, sR, I, ho, kW, hD, hm => by
  have hx := ah x List.mem_cons_self
  obtain ⟨hx1, Bx⟩ := sR x List.mem_cons_self
  have Zy : ∀ z ∈ l, z ∈ fX u y0 i0 := fun z hz => ah z (List.mem_cons_of_mem _ hz)
  have Zz : ∀ z ∈ l, 0 ≤ z.1 ∧ z.1 < (u.aa.length : Int) := fun z hz => sR z (List.mem_cons_of_mem _ hz)
  have ei := ak1 i0.aJ x.2
  have DE : iD u x.1.toNat (pN i0.aJ d0 x.2) := iD.step y0 d0 i0 x hD oh hx
  obtain ⟨b, hb⟩ := Int.eq_ofNat_of_zero_le hx1
  have oX : b < u.aa.length := by omega
  have DF : x.1.toNat = b := by omega
  have hxb : x.1 = (b : Int) := hb
  have body : ∀ dh : Fl → List Int → List Int → Bool → List Int → Option ((List Int × List Int × Bool × List Int) × Fl), pA N out (y0 : Int) u [] false q x.1 x.2 dh = zp N out x.1 [] false q (pN i0.aJ d0 x.2) (y0 : Int) u dh := fun dh => by
   unfold pA
   rw [iy, ho, Option.bind_some, iy, oh, Option.bind_some, ak0, Option.bind_some, jW (by omega) (by omega)]
   unfold pN
   by_cases h2 : x.2 = 2
   · rw [decide_eq_true h2, if_pos h2]; rfl
   · rw [decide_eq_false h2, if_neg h2]; rfl
  have tH : b < out.length := by rw [I.len]; exact oX
  obtain ⟨db, uP⟩ : ∃ db, out[b]? = some db := ⟨_, List.getElem?_eq_getElem tH⟩
  unfold kv
  show (∃ j3 q', ((pA N out (y0 : Int) u [] false q x.1 x.2 (fun f m0 m1 m2 m3 => some ((m0, m1, m2, m3), f))).bind _) = _ ∧ _) ∨ (∃ j3 q', ((pA N out (y0 : Int) u [] false q x.1 x.2 (fun f m0 m1 m2 m3 => some ((m0, m1, m2, m3), f))).bind _) = _ ∧ _)
  rw [body]
  unfold zp CZ
  rw [uM, Option.bind_some, hxb]
  generalize hv : pN i0.aJ d0 x.2 = v at DE
  rw [DF] at DE
  by_cases hr : 0 ≤ v ∧ v ≤ 40
  · rw [decide_eq_true hr, iy, uP]
    by_cases x8 : 0 ≤ db
    · by_cases cL : db = v
      · -- told ann, alike
        have ih := QV N hl y0 i0 d0 oh DD l out q Zy Zz I ho kW hD hm
        have e : (bif !true then (some (((out, ([] : List Int), false, q) : List Int × List Int × Bool × List Int), Fl.ret)) else (some db).bind fun wM => bif decide (0 ≤ wM) then (some db).bind fun zq => bif !decide (zq = v) then some ((out, [], false, q), Fl.ret) else (some db).bind fun q9 => bif decide (q9 < 0) then (some db).bind fun C1 => gu (decide (q.length + [((b : Nat) : Int)].length ≤ 1048576)) (some ((out.set ((b : Nat) : Int).toNat v, [], false, q ++ [((b : Nat) : Int)]), Fl.go)) else some ((out, [], false, q), Fl.go) else (some db).bind fun q9 => bif decide (q9 < 0) then (some db).bind fun C1 => gu (decide (q.length + [((b : Nat) : Int)].length ≤ 1048576)) (some ((out.set ((b : Nat) : Int).toNat v, [], false, q ++ [((b : Nat) : Int)]), Fl.go)) else some ((out, [], false, q), Fl.go)) = some ((out, [], false, q), Fl.go) := by
         have bC : ¬ db < 0 := by omega
         simp [x8, cL, bC]
         subst cL; simp [x8, bC]
        rw [e]
        rcases ih with ⟨o', q', h1, h2, h3, h4, h5, h6, h7⟩ | ⟨o', q', h1, h2⟩
        · refine .inl ⟨o', q', h1, h2, h3, fun z hz => ?_, h5, h6, h7⟩
          rcases List.mem_cons.1 hz with rfl | hz
          · rw [DF, hv]; exact ⟨h3 b v (cL ▸ uP) hr.1, hr.1⟩
          · exact h4 z hz
        · exact .inr ⟨o', q', h1, h2⟩
      · refine .inr ⟨out, q, ?_, fun G => ?_⟩
        · simp [x8, cL]
        · rcases I.DC b db uP with e | ⟨_, _, hDb⟩
          · omega
          · exact cL ((G b db hDb).2 v DE)
    · -- told afL
      have bC : db < 0 := by omega
      have hq : q.length + 1 ≤ 1048576 := by omega
      have I' : DI u (out.set b v) (q ++ [(b : Int)]) := by
       refine ⟨by simpa using I.len, fun y d h => ?_, fun z hz => ?_⟩
       · rw [List.getElem?_set] at h
         by_cases e : b = y
         · subst e; rw [if_pos rfl, if_pos tH] at h; cases h; exact .inr ⟨hr.1, hr.2, DE⟩
         · rw [if_neg e] at h; exact I.DC y d h
       · rcases List.mem_append.1 hz with hz | hz
         · obtain ⟨y, d, h1, h2, h3⟩ := I.QU z hz
           refine ⟨y, d, h1, ?_, h3⟩
           rw [List.getElem?_set, if_neg]
           · exact h2
           · intro e; subst e; rw [uP] at h2; cases h2; omega
         · rw [List.mem_singleton] at hz
           exact ⟨b, v, hz, by rw [List.getElem?_set, if_pos rfl, if_pos tH], hr.1⟩
      have ak3 : b ≠ y0 := fun e => by subst e; rw [ho] at uP; cases uP; omega
      have ho' : (out.set b v)[y0]? = some d0 := by rw [List.getElem?_set, if_neg ak3]; exact ho
      have hos := ak2 uP bC hr.1
      have ih := QV N hl y0 i0 d0 oh DD l (out.set b v) (q ++ [(b : Int)]) Zy Zz I' ho' kW hD (by rw [List.length_append]; simp; omega)
      have ak4 : Ext out (out.set b v) := fun y d h h0 => by
       rw [List.getElem?_set, if_neg]
       · exact h
       · intro e; subst e; rw [uP] at h; cases h; omega
      have hgu : decide (q.length + 1 ≤ 1048576) = true := decide_eq_true hq
      have e : (bif !true then (some (((out, ([] : List Int), false, q) : List Int × List Int × Bool × List Int), Fl.ret)) else (some db).bind fun wM => bif decide (0 ≤ wM) then (some db).bind fun zq => bif !decide (zq = v) then some ((out, [], false, q), Fl.ret) else (some db).bind fun q9 => bif decide (q9 < 0) then (some db).bind fun C1 => gu (decide (q.length + [((b : Nat) : Int)].length ≤ 1048576)) (some ((out.set ((b : Nat) : Int).toNat v, [], false, q ++ [((b : Nat) : Int)]), Fl.go)) else some ((out, [], false, q), Fl.go) else (some db).bind fun q9 => bif decide (q9 < 0) then (some db).bind fun C1 => gu (decide (q.length + [((b : Nat) : Int)].length ≤ 1048576)) (some ((out.set ((b : Nat) : Int).toNat v, [], false, q ++ [((b : Nat) : Int)]), Fl.go)) else some ((out, [], false, q), Fl.go)) = some ((out.set b v, [], false, q ++ [(b : Int)]), Fl.go) := by
       simp [x8, bC, gu, hq]
      rw [e]
      rcases ih with ⟨o', q', h1, h2, h3, h4, ⟨e', h5⟩, h6, h7⟩ | ⟨o', q', h1, h2⟩
      · refine .inl ⟨o', q', h1, h2, ak4.trans h3, fun z hz => ?_, ⟨(b : Int) :: e', by rw [h5, List.append_assoc]; rfl⟩, ?_, fun y d h h0 => ?_⟩
        · rcases List.mem_cons.1 hz with rfl | hz
          · rw [DF, hv]; exact ⟨h3 b v (by rw [List.getElem?_set, if_pos rfl, if_pos tH]) hr.1, hr.1⟩
          · exact h4 z hz
        · rw [h6, List.length_append]; simp; omega
        · rcases h7 y d h h0 with h8 | h8
          · by_cases e : b = y
            · subst e; exact .inr (by rw [h5]; simp)
            · rw [List.getElem?_set, if_neg e] at h8; exact .inl h8
          · exact .inr h8
      · exact .inr ⟨o', q', h1, h2⟩
  · rw [decide_eq_false hr]
    exact .inr ⟨out, q, rfl, fun G => hr (G b v DE).1⟩
end
end Go.Ve.T
namespace Go.Ve.T
open Go.Ve
noncomputable section
open Classical
theorem ZA {u : ag} (U : fg u) (N : Nat) (hN : 1000 ≤ N) : ∀ (n : Nat) (out q : List Int), DI u out q → (∀ (y : Nat) d, out[y]? = some d → 0 ≤ d → (y : Int) ∈ q ∨ zG u out y) → out[0]? = some 0 → q.length + open_ out ≤ 700 → q.length + open_ out < n →
    (∃ j3, sN N u n out [] false q = some (j3, true) ∧ DI u j3 [] ∧ (∀ (y : Nat) d, j3[y]? = some d → 0 ≤ d → zG u j3 y) ∧ j3[0]? = some 0) ∨ (sN N u n out [] false q = some ([], false) ∧ ¬ Good u)
  | 0, out, q, _, _, _, _, h => by omega
  | n + 1, out, [], I, C, h0, h1, h2 => .inl ⟨out, rfl, I, fun y d h hd => (C y d h hd).elim (fun h => by cases h) id, h0⟩
  | n + 1, out, x :: t, I, C, h0, h1, h2 => by
    obtain ⟨y0, d0, rfl, ho, kW⟩ := I.QU x List.mem_cons_self
    have ZB : y0 < u.aa.length := by rw [← I.len]; exact (List.getElem?_eq_some_iff.1 ho).1
    obtain ⟨DD, hD⟩ : d0 ≤ 40 ∧ iD u y0 d0 := by
      rcases I.DC y0 d0 ho with e | ⟨_, h4, h5⟩
      · omega
      · exact ⟨h4, h5⟩
    have oh : u.aa[y0]? = some u.aa[y0] := List.getElem?_eq_getElem ZB
    have F := QV N U.n1.2.1 y0 u.aa[y0] d0 oh DD (fX u y0 u.aa[y0]) out ((y0 : Int) :: t) (fun _ h => h) (fun x hx => DG U oh hx) I ho kW hD h1
    have unf : sN N u (n + 1) out [] false ((y0 : Int) :: t) = ((kv (fun (s : List Int × List Int × Bool × List Int) (x : Int × Int) => pA N s.1 (y0 : Int) u s.2.1 s.2.2.1 s.2.2.2 x.1 x.2 (fun f m0 m1 m2 m3 => some ((m0, m1, m2, m3), f))) (fX u y0 u.aa[y0]) (out, [], false, (y0 : Int) :: t)).bind fun kF => ui kF.2 (C2 N kF.1.2.2.2 u kF.1.1 kF.1.2.1 kF.1.2.2.1 (fun av dJ lP fT => sN N u n dJ lP fT av)) (some (kF.1.2.1, kF.1.2.2.1)) (fun _ => none)) := by
      show (bif decide (0 < ((((y0 : Int) :: t).length : Nat) : Int)) then C3 N ((y0 : Int) :: t) u out [] false _ else _) = _
      rw [decide_eq_true (by rw [List.length_cons]; omega), cond_true]
      unfold C3
      rw [show ix ((y0 : Int) :: t) 0 = some (y0 : Int) from rfl, Option.bind_some, II U N hN y0 ZB]; rfl
    rw [unf]
    rcases F with ⟨o', q', f1, f2, f3, f4, ⟨e, f5⟩, f6, f7⟩ | ⟨o', q', f1, f2⟩
    · rw [f1]
      simp only [Option.bind_some, ui]
      unfold C2
      have es : sE q' 1 (q'.length : Int) = some (t ++ e) := by
        unfold sE
        rw [f5, List.cons_append]
        have : (decide ((0 : Int) ≤ 1) && decide ((1 : Int) ≤ ((((y0 : Int) :: (t ++ e)).length : Nat) : Int)) && decide (((((y0 : Int) :: (t ++ e)).length : Nat) : Int) ≤ ((((y0 : Int) :: (t ++ e)).length : Nat) : Int))) = true := by
          rw [List.length_cons]; simp; omega
        rw [this]
        show some ((((y0 : Int) :: (t ++ e)).take (((((y0 : Int) :: (t ++ e)).length : Nat) : Int)).toNat).drop 1) = _
        rw [Int.toNat_natCast, List.take_length]; rfl
      rw [es, Option.bind_some]
      have ak5 : zG u o' y0 := fun d i h hi z hz => by
        have : o'[y0]? = some d0 := f3 y0 d0 ho kW
        rw [this] at h; cases h
        rw [oh] at hi; cases hi
        exact f4 z hz
      refine ZA U N hN n o' (t ++ e) ⟨f2.len, f2.DC, fun z hz => f2.QU z (by rw [f5]; exact List.mem_cons_of_mem _ hz)⟩ (fun y d h hd => ?_) (f3 0 0 h0 (Int.le_refl 0)) ?_ ?_
      · have key : (y : Int) ∈ q' → (y : Int) ∈ t ++ e ∨ zG u o' y := fun hq => by
          rw [f5, List.cons_append] at hq
          rcases List.mem_cons.1 hq with e1 | hq
          · have : y = y0 := by omega
            subst this; exact .inr ak5
          · exact .inl hq
        rcases f7 y d h hd with h8 | h8
        · rcases C y d h8 hd with h9 | h9
          · exact key (by rw [f5]; exact List.mem_append_left _ h9)
          · refine .inr fun d' i' h' du z hz => ?_
            rw [h] at h'; cases h'
            obtain ⟨g1, g2⟩ := h9 d i' h8 du z hz
            exact ⟨f3 _ _ g1 g2, g2⟩
        · exact key h8
      · have : q'.length = (t ++ e).length + 1 := by rw [f5]; rfl
        rw [List.length_cons] at f6 h1; omega
      · have : q'.length = (t ++ e).length + 1 := by rw [f5]; rfl
        rw [List.length_cons] at f6 h2; omega
    · rw [f1]
      exact .inr ⟨rfl, f2⟩
def DH (u : ag) (out : List Int) : Prop := out.length = u.aa.length ∧ ∀ (y : Nat) d, out[y]? = some d → (d = -1 ∧ ∀ d', ¬ iD u y d') ∨ (0 ≤ d ∧ d ≤ 40 ∧ iD u y d)
theorem QW {u : ag} {out : List Int} (C : ∀ (y : Nat) d, out[y]? = some d → 0 ≤ d → zG u out y) (h0 : out[0]? = some 0) {y : Nat} {d : Int} (H : iD u y d) : out[y]? = some d ∧ 0 ≤ d := by
 induction H with
 | start => exact ⟨h0, Int.le_refl 0⟩
 | step y d i x H hi hx ih => exact C y d ih.1 ih.2 d i ih.1 hi x hx
theorem ak6 {u : ag} {out : List Int} (len : out.length = u.aa.length) (V : ∀ (y : Nat) d, out[y]? = some d → d = -1 ∨ (0 ≤ d ∧ d ≤ 40 ∧ iD u y d)) (C : ∀ (y : Nat) d, out[y]? = some d → 0 ≤ d → zG u out y) (h0 : out[0]? = some 0) : DH u out ∧ Good u := by
 refine ⟨⟨len, fun y d h => ?_⟩, fun y d H => ?_⟩
 · rcases V y d h with e | h2
   · refine .inl ⟨e, fun d' H => ?_⟩
     have := QW C h0 H
     rw [h] at this
     have h3 := this.1; cases h3
     omega
   · exact .inr h2
 · have hd := QW C h0 H
   refine ⟨?_, fun d' H' => ?_⟩
   · rcases V y d hd.1 with e | h2
     · have := hd.2; omega
     · exact ⟨h2.1, h2.2.1⟩
   · have := QW C h0 H'
     rw [hd.1] at this
     have h3 := this.1; cases h3; rfl
theorem ak7 {u : ag} (U : fg u) (N : Nat) (hN : 1000 ≤ N) :
 (∃ out, wN N u = some (out, true) ∧ DH u out ∧ Good u) ∨ (wN N u = some ([], false) ∧ ¬ Good u) := by
 have hl := U.n1.2.1
 have h1 := U.n1.1
 have e : wN N u = sN N u N ((List.replicate u.aa.length (-1)).set 0 0) [] false [0] := by
  unfold wN Ie
  have : (decide (1 ≤ (u.aa.length : Int)) && decide ((u.aa.length : Int) ≤ 65536)) = true := by simp; omega
  rw [this]
  show (ix (List.replicate u.aa.length (-1)) ((0 : Nat) : Int)).bind _ = _
  rw [iy, List.getElem?_replicate, if_pos (by omega)]; rfl
 rw [e]
 have yt : ∀ (y : Nat) d, ((List.replicate u.aa.length (-1 : Int)).set 0 0)[y]? = some d → (y = 0 ∧ d = 0) ∨ d = -1 := fun y d h => by
  rw [List.getElem?_set] at h
  by_cases hy : 0 = y
  · subst hy
    rw [if_pos rfl, List.length_replicate, if_pos (by omega)] at h
    cases h; exact .inl ⟨rfl, rfl⟩
  · rw [if_neg hy, List.getElem?_replicate] at h
    split at h
    · cases h; exact .inr rfl
    · cases h
 have FW : ((List.replicate u.aa.length (-1 : Int)).set 0 0)[0]? = some 0 := by
  rw [List.getElem?_set, if_pos rfl, List.length_replicate, if_pos (by omega)]
 have aS : open_ ((List.replicate u.aa.length (-1 : Int)).set 0 0) ≤ u.aa.length := by
  unfold open_
  refine Nat.le_trans List.countP_le_length ?_
  simp
 have L := ZA U N hN N ((List.replicate u.aa.length (-1)).set 0 0) [0] ⟨by simp, fun y d h => by
  rcases yt y d h with ⟨rfl, rfl⟩ | e
  · exact .inr ⟨Int.le_refl 0, by omega, iD.start⟩
  · exact .inl e, fun x hx => ⟨0, 0, by rw [List.mem_singleton] at hx; exact hx, FW, Int.le_refl 0⟩⟩ (fun y d h hd => by
  rcases yt y d h with ⟨rfl, rfl⟩ | e
  · exact .inl (by simp)
  · omega) FW (by show 1 + _ ≤ 700; omega) (by show 1 + _ < N; omega)
 rcases L with ⟨out, e1, I, C, h0⟩ | ⟨e1, nG⟩
 · obtain ⟨D, G⟩ := ak6 I.len I.DC C h0
   exact .inl ⟨out, e1, D, G⟩
 · exact .inr ⟨e1, nG⟩
end
end Go.Ve.T
namespace Go.Ve.T
open Go.Ve
open Classical
noncomputable section
def kI (u : ag) (y : Nat) (i : aq) (to : Int) : Prop := iC i = true ∧ 0 ≤ ep u.aB y ∧ ∃ d, ix u.aB (ep u.aB y) = some d ∧ d.dM = to
theorem kI.lead {u : ag} {y : Nat} {i : aq} {to : Int} : kI u y i to ↔ (to, 2) ∈ fX u y i := by
 rw [zE]
 constructor
 · rintro ⟨h1, h2, d, h3, h4⟩
   exact .inr (.inr ⟨h1, h2, d, h3, h4, rfl⟩)
 · rintro (⟨_, _, _, h⟩ | ⟨_, h⟩ | ⟨h1, h2, d, h3, h4, _⟩)
   · cases h
   · cases h
   · exact ⟨h1, h2, d, h3, h4⟩
theorem QX {u : ag} (U : fg u) {y : Nat} {i : aq} (hi : u.aa[y]? = some i) {to : Int} (hb : to ∈ hY u y i) (h : kI u y i to ∨ (i.aJ = 24 ∨ i.aJ = 25 ∨ i.aJ = 32) ∨ to ≠ (y : Int) + 1) : to ∈ dF u := by
 have sR := ZC U hi hb
 obtain ⟨k, hk⟩ := DJ.1 hb
 obtain ⟨t, rfl⟩ := Int.eq_ofNat_of_zero_le sR.1
 refine (ZD u _).2 ⟨t, rfl, by omega, .inr ⟨y, i, hi, ?_⟩⟩
 by_cases ht : t = y + 1
 · rcases h with h | h | h
   · exact .inl ⟨2, kI.lead.1 h, fun h => by omega⟩
   · refine .inr ⟨ht, ?_, by omega⟩
     unfold nw
     rcases h with h | h | h <;> rw [h] <;> rfl
   · exact absurd (by omega) h
 · exact .inl ⟨k, hk, fun h => ht h.1⟩
def QY (u : ag) (y : Nat) (i : aq) (to n : Int) : Int := if kI u y i to then 0 else if i.aJ = 30 then n + 1 else if i.aJ = 31 ∨ (i.aJ = 32 ∧ to = i.fB) then n - 1 else n
theorem ak8 {i : aq} {x : Int} (h : eL i = some x) : (i.aJ = 24 ∧ x = i.fA) ∨ ((i.aJ = 25 ∨ i.aJ = 32) ∧ x = i.fB) := by
 unfold eL at h
 by_cases pK : i.aJ = 24
 · rw [if_pos pK] at h; exact .inl ⟨pK, (Option.some.inj h).symm⟩
 · rw [if_neg pK] at h
   by_cases h2 : i.aJ = 25 ∨ i.aJ = 32
   · rw [if_pos h2] at h; exact .inr ⟨h2, (Option.some.inj h).symm⟩
   · rw [if_neg h2] at h; cases h
theorem ak9 {u : ag} (U : fg u) {y : Nat} {i : aq} (hi : u.aa[y]? = some i) {to n : Int} (hb : to ∈ hY u y i) (D : iD u y n) : iD u to.toNat (QY u y i to n) := by
 obtain ⟨k, hk⟩ := DJ.1 hb
 unfold QY
 by_cases hg : kI u y i to
 · rw [if_pos hg]
   exact iD.step y n i _ D hi (kI.lead.1 hg)
 · rw [if_neg hg]
   have h2 : k ≠ 2 := fun e => hg (kI.lead.2 (e ▸ hk))
   obtain ⟨k', dG, oO, hj⟩ : ∃ k', (to, k') ∈ fX u y i ∧ k' ≠ 2 ∧ ((k' = 0 ∧ eL i ≠ some to) ∨ (k' = 1 ∧ eL i = some to)) := by
    by_cases hj : eL i = some to
    · exact ⟨1, zE.2 (.inr (.inl ⟨hj, rfl⟩)), by omega, .inr ⟨rfl, hj⟩⟩
    · rcases zE.1 hk with ⟨_, _, _, h0⟩ | ⟨h1, _⟩ | ⟨h1, h3, d, h4, h5, _⟩
      · exact ⟨k, hk, h2, .inl ⟨h0, hj⟩⟩
      · exact absurd h1 hj
      · exact absurd ⟨h1, h3, d, h4, h5⟩ hg
   have S := iD.step y n i _ D hi dG
   have e : pN i.aJ n k' = (if i.aJ = 30 then n + 1 else if i.aJ = 31 ∨ (i.aJ = 32 ∧ to = i.fB) then n - 1 else n) := by
    unfold pN wZ
    rw [if_neg oO]
    rcases hj with ⟨rfl, hj⟩ | ⟨rfl, hj⟩
    · by_cases mw : i.aJ = 30
      · rw [if_pos ⟨mw, rfl⟩, if_pos mw]
      · rw [if_neg fun h => mw h.1, if_neg mw]
        by_cases my : i.aJ = 31
        · rw [if_pos (Or.inl ⟨my, rfl⟩), if_pos (Or.inl my)]; omega
        · have hn : ¬ (i.aJ = 32 ∧ to = i.fB) := fun h => hj (by unfold eL; rw [if_neg (by omega), if_pos (Or.inr h.1), h.2])
          rw [if_neg (by omega), if_neg fun h => h.elim my hn]; omega
    · rcases ak8 hj with ⟨ho, hx⟩ | ⟨ho | ho, hx⟩
      · rw [if_neg (by omega), if_neg (by omega), if_neg (by omega), if_neg (by omega)]; omega
      · rw [if_neg (by omega), if_neg (by omega), if_neg (by omega), if_neg (by omega)]; omega
      · rw [if_neg (by omega), if_pos (Or.inr ⟨ho, rfl⟩), if_neg (by omega), if_pos (Or.inr ⟨ho, hx⟩)]; omega
   rw [← e]; exact S
end
end Go.Ve.T
namespace Go.Ve.T
open Go.Ve
open Classical
noncomputable section
theorem abe {y : Int} (h : IntKind.u8.min ≤ y ∧ y ≤ IntKind.u8.max) : 0 ≤ y ∧ y < 256 := ⟨h.1, Int.lt_of_le_of_lt h.2 (by decide)⟩
theorem ala (N : Nat) (l : List Int) (x : Int) (hl : l.length < 1000000) (hN : l.length < N) : Hi N l x = some (decide (x ∈ l)) := by
 have key : ∀ n i : Nat, i ≤ l.length → l.length < n + i → BX N l x n (i : Int) = some (decide (x ∈ l.drop i)) := by
  intro n
  induction n with
  | zero => intro i h1 h2; omega
  | succ n ih =>
   intro i h1 h2
   show BW N l x (i : Int) _ = _
   unfold BW Hg Hh Hf
   by_cases hi : i < l.length
   · rw [Dz i _ hi, iy, List.getElem?_eq_getElem hi, List.drop_eq_getElem_cons hi]
     simp only [cond_true, Option.bind_some]
     by_cases e : l[i] = x
     · rw [decide_eq_true e]
       simp [e]
     · rw [decide_eq_false e]
       simp only [cond_false]
       rw [zF i (by omega), ih (i + 1) hi (by omega)]
       congr 1
       rw [decide_eq_decide, List.mem_cons]
       exact ⟨.inr, fun h => h.resolve_left fun h => e h.symm⟩
   · have : i = l.length := by omega
     subst this
     rw [DA, List.drop_length]
     simp
 have := key N 0 (Nat.zero_le _) (by omega)
 rwa [List.drop_zero] at this
theorem alb (N : Nat) (hN : 1000 ≤ N) (u : ag) : ∃ b, B3 N u = some b ∧ (b = true → fg u ∧ u.aa.length ≤ 40 ∧ u.aB.length ≤ 8) := by
 have h1 : ∀ b, B1 N u b = some (b && decide (0 < (u.aa.length : Int))) := fun b => by cases b <;> rfl
 unfold B3 B2
 simp only [h1, ZE N hN, Option.bind_some]
 by_cases ha : (u.aa.length : Int) ≤ 40
 · rw [decide_eq_true ha]
   by_cases hb : (u.aB.length : Int) ≤ 8
   · rw [decide_eq_true hb]
     refine ⟨_, rfl, fun h => ?_⟩
     obtain ⟨h2, h3⟩ := Bool.and_eq_true_iff.1 h
     have h2 := of_decide_eq_true h2
     have h3 := of_decide_eq_true h3
     refine ⟨?_, by omega, by omega⟩
     unfold DK at h2
     cases hp : iW u with
     | true => exact ⟨hp⟩
     | false => rw [hp] at h2; simp at h2; omega
   · rw [decide_eq_false hb]
     exact ⟨_, rfl, fun h => by simp at h⟩
 · rw [decide_eq_false ha]
   exact ⟨_, rfl, fun h => by simp at h⟩
theorem alc {u : ag} (U : fg u) (N : Nat) (hN : 1000 ≤ N) : (∃ out, yO N u = some (out, 0) ∧ DH u out ∧ Good u) ∨ (yO N u = some ([], 12) ∧ ¬ Good u) := by
 unfold yO Im
 rw [zD N hN, U.pl]
 rcases ak7 U N hN with ⟨out, h1, h2⟩ | ⟨h1, h2⟩
 · exact .inl ⟨out, by simp [h1, Il], h2⟩
 · exact .inr ⟨by simp [h1], h2⟩
theorem ald {u : ag} {out : List Int} (H : DH u out) (G : Good u) {y : Nat} (hy : y < u.aa.length) {n : Int} (D : iD u y n) : out[y]? = some n := by
 have ZF : y < out.length := by rw [H.1]; exact hy
 rw [List.getElem?_eq_getElem ZF]
 rcases H.2 y out[y] (List.getElem?_eq_getElem ZF) with ⟨_, h⟩ | ⟨_, _, h⟩
 · exact absurd D (h n)
 · rw [(G y n D).2 _ h]
theorem ale {u : ag} {y : Nat} (hy : y < u.aa.length) (h : sS u y) : (fY u)[y]? = some true := by
 unfold fY
 rw [List.getElem?_map, List.getElem?_range hy]
 exact congrArg some (decide_eq_true h)
theorem alf {l : List Int} (hl : l ≠ []) (h3 : l.length ≤ 3) {z : Int} (hz : 0 ≤ z ∧ z < 256) : ∃ to, to ∈ l ∧ gu (!decide ((l.length : Int) = 0)) (ix l (Int.tmod (bf .i64 z) (l.length : Int))) = some to := by
 have h0 : 0 < l.length := List.length_pos_iff.2 hl
 rw [decide_eq_false (by omega), jW (by omega) (by omega), Int.tmod_eq_emod_of_nonneg hz.1]
 have h1 := Int.emod_nonneg z (show (l.length : Int) ≠ 0 by omega)
 have h2 := Int.emod_lt_of_pos z (show 0 < (l.length : Int) by omega)
 obtain ⟨k, hk⟩ := Int.eq_ofNat_of_zero_le h1
 rw [hk] at h2 ⊢
 have xN : k < l.length := by omega
 exact ⟨l[k], List.getElem_mem xN, List.getElem?_eq_getElem xN⟩
theorem alg {u : ag} (y : Nat) (i : aq) (to : Int) (K : Bool → Option Bool) :
 (bif decide (0 ≤ ep u.aB y) then (bif iC i then (ix u.aB (ep u.aB y)).bind fun c => K (decide (c.dM = to)) else K false) else K false) = K (decide (kI u y i to)) := by
 by_cases h1 : 0 ≤ ep u.aB y
 · rw [decide_eq_true h1]
   cases hr : iC i with
   | false => simp only [cond_true, cond_false]; rw [decide_eq_false fun h : kI u y i to => by rw [h.1] at hr; cases hr]
   | true =>
    obtain ⟨d, hd, _⟩ := IG h1
    rw [hd]
    simp only [cond_true, Option.bind_some]
    congr 1
    rw [decide_eq_decide]
    exact ⟨fun e => ⟨hr, h1, d, hd, e⟩, fun ⟨_, _, d', h2, h3⟩ => by rw [hd] at h2; cases h2; exact h3⟩
 · rw [decide_eq_false h1, decide_eq_false fun h : kI u y i to => h1 h.2.1]; rfl
theorem QZ {u : ag} (U : fg u) (N : Nat) (hN : 1000 ≤ N) (x1 : List Int) (hx : ∀ z ∈ x1, 0 ≤ z ∧ z < 256) (hl : x1.length ≤ 60) (out : List Int) (e : Int) (he : e = 0 → DH u out ∧ Good u) : ∀ (n i y : Nat) (d : Int), sS u y → y < u.aa.length → (e = 0 → iD u y d) → -(i : Int) ≤ d ∧ d ≤ i → i ≤ x1.length → x1.length < n + i →
 gV N x1 (fY u) e out u true (dF u) n (y : Int) d (i : Int) = some true
 | 0, i, y, d, _, _, _, _, h1, h2 => by omega
 | n + 1, i, y, d, R, hy, D, hd, h1, h2 => by
  have hn := U.n1
  show Cc N x1 (fY u) e out u true (dF u) (y : Int) d (i : Int) _ = _
  unfold Cc
  by_cases hi : i < x1.length
  · rw [Dz i _ hi]
    have hu : u.aa[y]? = some u.aa[y] := List.getElem?_eq_getElem hy
    have e0 : (bif decide (e = 0) then (ix out (y : Int)).bind fun Ho => tY N u (y : Int) true x1 (i : Int) (dF u) e d (!decide (Ho = d)) (fun av aY bR => gV N x1 (fY u) e out u true (dF u) n av aY bR) else tY N u (y : Int) true x1 (i : Int) (dF u) e d false (fun av aY bR => gV N x1 (fY u) e out u true (dF u) n av aY bR)) = Ca N u (y : Int) true x1 (i : Int) (dF u) e d (fun av aY bR => gV N x1 (fY u) e out u true (dF u) n av aY bR) := by
     by_cases h : e = 0
     · rw [decide_eq_true h, iy, ald (he h).1 (he h).2 hy (D h)]
       simp [tY]
     · rw [decide_eq_false h]; rfl
    simp only [cond_true]
    unfold Hn
    rw [iy, ale hy R]
    simp only [Option.bind_some, Bool.not_true, cond_false]
    rw [e0]
    unfold Ca
    have eN : DM u (y : Int) = hY u y u.aa[y] := by
     unfold DM zH
     rw [U.pl, decide_eq_true (show 0 ≤ (y : Int) ∧ (y : Int) ≤ (u.aa.length : Int) - 1 by omega), Int.toNat_natCast, hu]; rfl
    have eG : DN u (y : Int) = ep u.aB y := by
     unfold DN zH
     rw [U.pl, decide_eq_true (show 0 ≤ (y : Int) ∧ (y : Int) ≤ (u.aa.length : Int) - 1 by omega)]; rfl
    rw [(alh N hN u y).1, Option.bind_some, eN]
    have Lb := ali u y u.aa[y]
    by_cases ib : hY u y u.aa[y] = []
    · rw [ib]; rfl
    · have U6 : 0 < (hY u y u.aa[y]).length := List.length_pos_iff.2 ib
      rw [decide_eq_false (show ¬ (((hY u y u.aa[y]).length : Int) = 0) by omega), cond_false]
      unfold Hm
      have hz := hx x1[i] (List.getElem_mem hi)
      obtain ⟨to, ht, hp⟩ := alf ib Lb hz
      rw [iy, List.getElem?_eq_getElem hi, Option.bind_some]
      have zZ : ix (hY u y u.aa[y]) (Int.tmod (bf .i64 x1[i]) ((hY u y u.aa[y]).length : Int)) = some to := by
       rw [decide_eq_false (show ¬ (((hY u y u.aa[y]).length : Int) = 0) by omega)] at hp
       exact hp
      rw [zZ, decide_eq_false (show ¬ (((hY u y u.aa[y]).length : Int) = 0) by omega), iy, hu, (alj N hN u y).1, eG]
      simp only [Bool.not_false, Option.bind_some, QS]
      show (bif decide (0 ≤ ep u.aB y) then wx N u _ to _ (y : Int) _ e (i : Int) d (iC u.aa[y]) _ else wx N u _ to _ (y : Int) _ e (i : Int) d false _) = _
      unfold wx
      simp only [cond_false]
      refine (alg y u.aa[y] to (fun b => yN N u.aa[y].aJ to (y : Int) (dF u) e (i : Int) d u b (fun av aY bR => gV N x1 (fY u) e out u true (dF u) n av aY bR))).trans ?_
      have sR := ZC U hu ht
      obtain ⟨t, rfl⟩ := Int.eq_ofNat_of_zero_le sR.1
      have oX := alk u
      have hw1 : bf .i64 ((y : Int) + 1) = (y : Int) + 1 := jW (by omega) (by omega)
      have go : ∀ d' : Int, (e = 0 → iD u t d') → -((i + 1 : Nat) : Int) ≤ d' ∧ d' ≤ ((i + 1 : Nat) : Int) → gV N x1 (fY u) e out u true (dF u) n (t : Int) d' (bf .i64 ((i : Int) + 1)) = some true := fun d' h3 h4 => by
       rw [zF i (by omega)]
       exact QZ U N hN x1 hx hl out e he n (i + 1) t d' (.step R hu ht) (by omega) h3 h4 hi (by omega)
      have S := fun h : e = 0 => ak9 U hu ht (D h)
      rw [Int.toNat_natCast] at S
      have P2 : B5 N e (decide (kI u y u.aa[y] (t : Int))) (i : Int) (t : Int) u.aa[y].aJ d u (y : Int) (fun av aY bR => gV N x1 (fY u) e out u true (dF u) n av aY bR) = some true := by
       unfold B5 B4 yJ wv Hl
       simp only [iy, hu, Option.bind_some, jW (n := d + 1) (by omega) (by omega), jW (n := d - 1) (by omega) (by omega)]
       unfold QY at S
       by_cases hg : kI u y u.aa[y] (t : Int)
       · by_cases h : e = 0
         · rw [decide_eq_true h, decide_eq_true hg]
           exact go 0 (fun h => by have := S h; rwa [if_pos hg] at this) (by omega)
         · rw [decide_eq_false h]
           simp only [cond_false]
           by_cases mw : u.aa[y].aJ = 30
           · rw [decide_eq_true mw]; exact go _ (fun h' => absurd h' h) (by omega)
           · rw [decide_eq_false mw]
             by_cases my : u.aa[y].aJ = 31
             · rw [decide_eq_true my]; exact go _ (fun h' => absurd h' h) (by omega)
             · rw [decide_eq_false my]
               by_cases pL : u.aa[y].aJ = 32
               · rw [decide_eq_true pL]
                 by_cases hb : (t : Int) = u.aa[y].fB
                 · rw [decide_eq_true hb]; exact go _ (fun h' => absurd h' h) (by omega)
                 · rw [decide_eq_false hb]; exact go _ (fun h' => absurd h' h) (by omega)
               · rw [decide_eq_false pL]; exact go _ (fun h' => absurd h' h) (by omega)
       · rw [decide_eq_false hg]
         simp only [if_neg hg] at S
         have same : (bif decide (e = 0) then (bif decide (u.aa[y].aJ = 30) then gV N x1 (fY u) e out u true (dF u) n (t : Int) (d + 1) (bf .i64 ((i : Int) + 1)) else bif decide (u.aa[y].aJ = 31) then gV N x1 (fY u) e out u true (dF u) n (t : Int) (d - 1) (bf .i64 ((i : Int) + 1)) else bif decide (u.aa[y].aJ = 32) then (bif decide ((t : Int) = u.aa[y].fB) then gV N x1 (fY u) e out u true (dF u) n (t : Int) (d - 1) (bf .i64 ((i : Int) + 1)) else gV N x1 (fY u) e out u true (dF u) n (t : Int) d (bf .i64 ((i : Int) + 1))) else gV N x1 (fY u) e out u true (dF u) n (t : Int) d (bf .i64 ((i : Int) + 1))) else (bif decide (u.aa[y].aJ = 30) then gV N x1 (fY u) e out u true (dF u) n (t : Int) (d + 1) (bf .i64 ((i : Int) + 1)) else bif decide (u.aa[y].aJ = 31) then gV N x1 (fY u) e out u true (dF u) n (t : Int) (d - 1) (bf .i64 ((i : Int) + 1)) else bif decide (u.aa[y].aJ = 32) then (bif decide ((t : Int) = u.aa[y].fB) then gV N x1 (fY u) e out u true (dF u) n (t : Int) (d - 1) (bf .i64 ((i : Int) + 1)) else gV N x1 (fY u) e out u true (dF u) n (t : Int) d (bf .i64 ((i : Int) + 1))) else gV N x1 (fY u) e out u true (dF u) n (t : Int) d (bf .i64 ((i : Int) + 1)))) = some true := by
          rw [Bool.cond_self]
          by_cases mw : u.aa[y].aJ = 30
          · rw [decide_eq_true mw]
            exact go _ (fun h => by have := S h; rwa [if_pos mw] at this) (by omega)
          · rw [decide_eq_false mw]
            simp only [if_neg mw] at S
            by_cases my : u.aa[y].aJ = 31
            · rw [decide_eq_true my]
              exact go _ (fun h => by have := S h; rwa [if_pos (Or.inl my)] at this) (by omega)
            · rw [decide_eq_false my]
              by_cases pL : u.aa[y].aJ = 32
              · rw [decide_eq_true pL]
                by_cases hb : (t : Int) = u.aa[y].fB
                · rw [decide_eq_true hb]
                  exact go _ (fun h => by have := S h; rwa [if_pos (Or.inr ⟨pL, hb⟩)] at this) (by omega)
                · rw [decide_eq_false hb]
                  exact go _ (fun h => by have := S h; rwa [if_neg fun h => h.elim my fun h => hb h.2] at this) (by omega)
              · rw [decide_eq_false pL]
                exact go _ (fun h => by have := S h; rwa [if_neg fun h => h.elim my fun h => pL h.1] at this) (by omega)
         exact same
      have P4 : ∀ b : Bool, (b = true → (t : Int) ∈ dF u) → yK N (dF u) (t : Int) e (decide (kI u y u.aa[y] (t : Int))) (i : Int) u.aa[y].aJ d u (y : Int) b (fun av aY bR => gV N x1 (fY u) e out u true (dF u) n av aY bR) = some true := fun b hb => by
       unfold yK B6
       rw [ala N _ _ (by omega) (by omega)]
       cases b with
       | false => exact P2
       | true => rw [decide_eq_true (hb rfl)]; exact P2
      have P5 : ∀ b : Bool, (b = true → (t : Int) ∈ dF u) → yL N (t : Int) (y : Int) (dF u) e (decide (kI u y u.aa[y] (t : Int))) (i : Int) u.aa[y].aJ d u b (fun av aY bR => gV N x1 (fY u) e out u true (dF u) n av aY bR) = some true := fun b hb => by
       unfold yL
       rw [hw1]
       cases b with
       | true => exact P4 true hb
       | false => exact P4 _ fun h => QX U hu ht (.inr (.inr fun e => by rw [e] at h; simp at h))
      have P6 : ∀ b : Bool, (b = true → u.aa[y].aJ = 24 ∨ u.aa[y].aJ = 25 ∨ u.aa[y].aJ = 32) → yM N (decide (kI u y u.aa[y] (t : Int))) (t : Int) (y : Int) (dF u) e (i : Int) u.aa[y].aJ d u b (fun av aY bR => gV N x1 (fY u) e out u true (dF u) n av aY bR) = some true := fun b hb => by
       unfold yM
       by_cases hg : kI u y u.aa[y] (t : Int)
       · have := P5 true fun _ => QX U hu ht (.inl hg)
         rw [decide_eq_true hg] at this ⊢
         exact this
       · have := P5 b fun h => QX U hu ht (.inr (.inl (hb h)))
         rw [decide_eq_false hg] at this ⊢
         exact this
      unfold yN B7
      by_cases pK : u.aa[y].aJ = 24
      · rw [decide_eq_true pK]; exact P6 true fun _ => .inl pK
      · rw [decide_eq_false pK]
        by_cases zC : u.aa[y].aJ = 25
        · rw [decide_eq_true zC]; exact P6 true fun _ => .inr (.inl zC)
        · rw [decide_eq_false zC]
          exact P6 _ fun h => .inr (.inr (of_decide_eq_true h))
  · have : i = x1.length := by omega
    subst this
    rw [DA]; rfl
theorem abd (N : Nat) (hN : 1000 ≤ N) (u : ag) (x1 : List Int) (hx : ∀ z ∈ x1, 0 ≤ z ∧ z < 256) : Hq N u x1 = some true := by
 unfold Hq Ce
 obtain ⟨b, hb, DF⟩ := alb N hN u
 rw [hb]
 show (bif !b then _ else _) = _
 cases b with
 | false => rfl
 | true =>
  obtain ⟨U, DD, h8⟩ := DF rfl
  by_cases hl : 60 < (x1.length : Int)
  · rw [decide_eq_true hl]; rfl
  · rw [decide_eq_false hl]
    show Cd N u x1 true = _
    unfold Cd
    have hn := U.n1
    have er : DK u = fY u := by unfold DK; rw [U.pl]; rfl
    have eb : DB u = dF u := by unfold DB; rw [U.pl]; rfl
    rw [ZE N hN, (akY N hN u).1, er, eb, Option.bind_some, Option.bind_some]
    rcases alc U N hN with ⟨out, h1, h2, h3⟩ | ⟨h1, h2⟩
    · rw [h1]
      exact QZ U N hN x1 hx (by omega) out 0 (fun _ => ⟨h2, h3⟩) N 0 0 0 .zero (by omega) (fun _ => .start) (by omega) (Nat.zero_le _) (by omega)
    · rw [h1]
      exact QZ U N hN x1 hx (by omega) [] 12 (fun h => by cases h) N 0 0 0 .zero (by omega) (fun h => by cases h) (by omega) (Nat.zero_le _) (by omega)
end
end Go.Ve.T
