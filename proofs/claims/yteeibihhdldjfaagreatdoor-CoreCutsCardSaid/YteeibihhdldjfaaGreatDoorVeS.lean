/- Part 19: The closed run of the chapter's examples of layer 8, by the evaluator, in the kernel: 'head' returns true, and changes nothing of what was there, where the table of powers of ten is as the library lays it. No other condition. And what follows it. -/
import Derived.Test.YteeibihhdldjfaaGreatDoorVeR
import Derived.Lib.LaidTab
set_option linter.unusedVariables false
set_option linter.unusedSimpArgs false
namespace Go.Ve.T
open Go.Ve Go.Proofs Go.RowKit
noncomputable section
set_option maxRecDepth 100000
def gF (k : Nat) : AFn := (cFn PP k).getD ⟨0, [], .skip, false⟩
abbrev g (k : Nat) : Option AFn := some (gF k)
theorem g1 {k : Nat} (h : (cFn PP k).isSome = true) : ∀ a, g k = some a → cFn PP k = some a := fun a e => by
  cases e
  cases hc : cFn PP k with
  | none => rw [hc] at h; cases h
  | some x => unfold gF; rw [hc]; rfl
def FTv : List Value := FT.map fun r => .tuple ⟨[.agg ⟨r⟩, .bool true]⟩
def sForm (vs : List Value) (h : AH) (k : CR → AH → Bool) : Bool := a1 vs fun v => intK v fun kd n => iff (eqK kd .i64) (Int.casesOn (motive := fun _ => Bool) n (fun n => iff (Nat.ble 1 n && Nat.ble n 34)
  (nthK FTv n fun c => k (.ret c) h)) no1)
def FTf : List Value := FT.flatten
def sForms (vs : List Value) (h : AH) (k : CR → AH → Bool) : Bool := a0 vs (k (.ret (.agg ⟨FTf⟩)) h)
def sums : Sums := [(84, sForm), (120, sForms), (67, sItoa), (198, sAtoi), (109, sJoin)]
def progH : NT AFn := (.n (.n (.n (.n (.n (.n (.n (.n .e (g 127) .e) (g 63) (.n .e (g 191) .e)) (g 31) (.n (.n .e (g 159) .e) (g 95) .e)) (g 15) (.n (.n (.n .e (g 143) .e) (g 79) (.n .e (g 207) .e)) (g 47) (.n .e (g 111) .e))) (g 7) (.n (.n (.n (.n .e (g 135) .e) (g 71) (.n .e (g 199) .e)) (g 39) (.n .e (g 103) .e)) (g 23) (.n (.n (.n .e (g 151) .e) (g 87) (.n .e (g 215) .e)) (g 55) (.n (.n .e (g 183) .e) (g 119) .e)))) (g 3) (.n (.n (.n (.n (.n .e (g 131) .e) (g 67) .e) (g 35) (.n (.n .e (g 163) .e) (g 99) .e)) (g 19) (.n (.n (.n .e (g 147) .e) (g 83) (.n .e (g 211) .e)) (g 51) (.n (.n .e (g 179) .e) (g 115) .e))) (g 11) (.n (.n (.n (.n .e (g 139) .e) (g 75) .e) (g 43) (.n (.n .e (g 171) .e) (g 107) .e)) (g 27) (.n (.n (.n .e (g 155) .e) (g 91) .e) (g 59) (.n (.n .e (g 187) .e) (g 123) .e))))) none (.n (.n (.n (.n (.n (.n .e (g 129) .e) (g 65) (.n .e (g 193) .e)) (g 33) (.n (.n .e (g 161) .e) (g 97) .e)) (g 17) (.n (.n (.n .e (g 145) .e) (g 81) (.n .e (g 209) .e)) (g 49) (.n (.n .e (g 177) .e) (g 113) .e))) (g 9) (.n (.n (.n (.n .e (g 137) .e) (g 73) (.n .e (g 201) .e)) (g 41) (.n (.n .e (g 169) .e) (g 105) .e)) (g 25) (.n (.n (.n .e (g 153) .e) (g 89) (.n .e (g 217) .e)) (g 57) (.n (.n .e (g 185) .e) (g 121) .e)))) (g 5) (.n (.n (.n (.n (.n .e (g 133) .e) (g 69) (.n .e (g 197) .e)) (g 37) (.n (.n .e (g 165) .e) (g 101) .e)) (g 21) (.n (.n (.n .e (g 149) .e) (g 85) (.n .e (g 213) .e)) (g 53) (.n (.n .e (g 181) .e) (g 117) .e))) (g 13) (.n (.n (.n (.n .e (g 141) .e) (g 77) (.n .e (g 205) .e)) (g 45) (.n (.n .e (g 173) .e) (g 109) .e)) (g 29) (.n (.n (.n .e (g 157) .e) (g 93) .e) (g 61) (.n (.n .e (g 189) .e) (g 125) .e)))))) none (.n (.n (.n (.n (.n (.n (.n .e (g 128) .e) (g 64) (.n .e (g 192) .e)) (g 32) (.n (.n .e (g 160) .e) (g 96) .e)) (g 16) (.n (.n (.n .e (g 144) .e) (g 80) (.n .e (g 208) .e)) (g 48) (.n (.n .e (g 176) .e) (g 112) .e))) (g 8) (.n (.n (.n (.n .e (g 136) .e) (g 72) (.n .e (g 200) .e)) (g 40) (.n (.n .e (g 168) .e) (g 104) .e)) (g 24) (.n (.n (.n .e (g 152) .e) (g 88) (.n .e (g 216) .e)) (g 56) (.n (.n .e (g 184) .e) (g 120) .e)))) (g 4) (.n (.n (.n (.n (.n .e (g 132) .e) (g 68) (.n .e (g 196) .e)) (g 36) (.n (.n .e (g 164) .e) (g 100) .e)) (g 20) (.n (.n (.n .e (g 148) .e) (g 84) (.n .e (g 212) .e)) (g 52) (.n (.n .e (g 180) .e) (g 116) .e))) (g 12) (.n (.n (.n (.n .e (g 140) .e) (g 76) (.n .e (g 204) .e)) (g 44) (.n (.n .e (g 172) .e) (g 108) .e)) (g 28) (.n (.n (.n .e (g 156) .e) (g 92) .e) (g 60) (.n .e (g 124) .e))))) none (.n (.n (.n (.n (.n (.n .e (g 130) .e) (g 66) (.n .e (g 194) .e)) (g 34) (.n (.n .e (g 162) .e) (g 98) .e)) (g 18) (.n (.n (.n .e (g 146) .e) (g 82) (.n .e (g 210) .e)) (g 50) (.n (.n .e (g 178) .e) (g 114) .e))) (g 10) (.n (.n (.n (.n .e (g 138) .e) (g 74) (.n .e (g 202) .e)) (g 42) (.n (.n .e (g 170) .e) (g 106) .e)) (g 26) (.n (.n (.n .e (g 154) .e) (g 90) (.n .e (g 218) .e)) (g 58) (.n (.n .e (g 186) .e) (g 122) .e)))) (g 6) (.n (.n (.n (.n (.n .e (g 134) .e) (g 70) (.n .e (g 198) .e)) (g 38) (.n (.n .e (g 166) .e) (g 102) .e)) (g 22) (.n (.n (.n .e (g 150) .e) (g 86) (.n .e (g 214) .e)) (g 54) (.n (.n .e (g 182) .e) (g 118) .e))) (g 14) (.n (.n (.n (.n .e (g 142) .e) (g 78) (.n .e (g 206) .e)) (g 46) (.n (.n .e (g 174) .e) (g 110) .e)) (g 30) (.n (.n (.n .e (g 158) .e) (g 94) .e) (g 62) (.n (.n .e (g 190) .e) (g 126) .e)))))))
theorem hprogH : ∀ f af, progH.get f = some af → cFn PP f = some af := NT.holds (Q := fun f af => cFn PP f = some af) (t := progH) ⟨NT.no, ⟨NT.no, ⟨g1 (by kernel_rfl), ⟨g1 (by kernel_rfl), ⟨g1 (by kernel_rfl), ⟨g1 (by kernel_rfl), ⟨g1 (by kernel_rfl), ⟨g1 (by kernel_rfl), trivial, trivial⟩, ⟨g1 (by kernel_rfl), trivial, trivial⟩⟩, ⟨g1 (by kernel_rfl), ⟨g1 (by kernel_rfl), trivial, trivial⟩, trivial⟩⟩, ⟨g1 (by kernel_rfl), ⟨g1 (by kernel_rfl), ⟨g1 (by kernel_rfl), trivial, trivial⟩, ⟨g1 (by kernel_rfl), trivial, trivial⟩⟩, ⟨g1 (by kernel_rfl), trivial, trivial⟩⟩⟩, ⟨g1 (by kernel_rfl), ⟨g1 (by kernel_rfl), ⟨g1 (by kernel_rfl), ⟨g1 (by kernel_rfl), trivial, trivial⟩, ⟨g1 (by kernel_rfl), trivial, trivial⟩⟩, ⟨g1 (by kernel_rfl), trivial, trivial⟩⟩, ⟨g1 (by kernel_rfl), ⟨g1 (by kernel_rfl), ⟨g1 (by kernel_rfl), trivial, trivial⟩, ⟨g1 (by kernel_rfl), trivial, trivial⟩⟩, ⟨g1 (by kernel_rfl), ⟨g1 (by kernel_rfl), trivial, trivial⟩, trivial⟩⟩⟩⟩, ⟨g1 (by kernel_rfl), ⟨g1 (by kernel_rfl), ⟨g1 (by kernel_rfl), ⟨g1 (by kernel_rfl), ⟨g1 (by kernel_rfl), trivial, trivial⟩, trivial⟩, ⟨g1 (by kernel_rfl), ⟨g1 (by kernel_rfl), trivial, trivial⟩, trivial⟩⟩, ⟨g1 (by kernel_rfl), ⟨g1 (by kernel_rfl), ⟨g1 (by kernel_rfl), trivial, trivial⟩, ⟨g1 (by kernel_rfl), trivial, trivial⟩⟩, ⟨g1 (by kernel_rfl), ⟨g1 (by kernel_rfl), trivial, trivial⟩, trivial⟩⟩⟩, ⟨g1 (by kernel_rfl), ⟨g1 (by kernel_rfl), ⟨g1 (by kernel_rfl), ⟨g1 (by kernel_rfl), trivial, trivial⟩, trivial⟩, ⟨g1 (by kernel_rfl), ⟨g1 (by kernel_rfl), trivial, trivial⟩, trivial⟩⟩, ⟨g1 (by kernel_rfl), ⟨g1 (by kernel_rfl), ⟨g1 (by kernel_rfl), trivial, trivial⟩, trivial⟩, ⟨g1 (by kernel_rfl), ⟨g1 (by kernel_rfl), trivial, trivial⟩, trivial⟩⟩⟩⟩⟩, ⟨g1 (by kernel_rfl), ⟨g1 (by kernel_rfl), ⟨g1 (by kernel_rfl), ⟨g1 (by kernel_rfl), ⟨g1 (by kernel_rfl), ⟨g1 (by kernel_rfl), trivial, trivial⟩, ⟨g1 (by kernel_rfl), trivial, trivial⟩⟩, ⟨g1 (by kernel_rfl), ⟨g1 (by kernel_rfl), trivial, trivial⟩, trivial⟩⟩, ⟨g1 (by kernel_rfl), ⟨g1 (by kernel_rfl), ⟨g1 (by kernel_rfl), trivial, trivial⟩, ⟨g1 (by kernel_rfl), trivial, trivial⟩⟩, ⟨g1 (by kernel_rfl), ⟨g1 (by kernel_rfl), trivial, trivial⟩, trivial⟩⟩⟩, ⟨g1 (by kernel_rfl), ⟨g1 (by kernel_rfl), ⟨g1 (by kernel_rfl), ⟨g1 (by kernel_rfl), trivial, trivial⟩, ⟨g1 (by kernel_rfl), trivial, trivial⟩⟩, ⟨g1 (by kernel_rfl), ⟨g1 (by kernel_rfl), trivial, trivial⟩, trivial⟩⟩, ⟨g1 (by kernel_rfl), ⟨g1 (by kernel_rfl), ⟨g1 (by kernel_rfl), trivial, trivial⟩, ⟨g1 (by kernel_rfl), trivial, trivial⟩⟩, ⟨g1 (by kernel_rfl), ⟨g1 (by kernel_rfl), trivial, trivial⟩, trivial⟩⟩⟩⟩, ⟨g1 (by kernel_rfl), ⟨g1 (by kernel_rfl), ⟨g1 (by kernel_rfl), ⟨g1 (by kernel_rfl), ⟨g1 (by kernel_rfl), trivial, trivial⟩, ⟨g1 (by kernel_rfl), trivial, trivial⟩⟩, ⟨g1 (by kernel_rfl), ⟨g1 (by kernel_rfl), trivial, trivial⟩, trivial⟩⟩, ⟨g1 (by kernel_rfl), ⟨g1 (by kernel_rfl), ⟨g1 (by kernel_rfl), trivial, trivial⟩, ⟨g1 (by kernel_rfl), trivial, trivial⟩⟩, ⟨g1 (by kernel_rfl), ⟨g1 (by kernel_rfl), trivial, trivial⟩, trivial⟩⟩⟩, ⟨g1 (by kernel_rfl), ⟨g1 (by kernel_rfl), ⟨g1 (by kernel_rfl), ⟨g1 (by kernel_rfl), trivial, trivial⟩, ⟨g1 (by kernel_rfl), trivial, trivial⟩⟩, ⟨g1 (by kernel_rfl), ⟨g1 (by kernel_rfl), trivial, trivial⟩, trivial⟩⟩, ⟨g1 (by kernel_rfl), ⟨g1 (by kernel_rfl), ⟨g1 (by kernel_rfl), trivial, trivial⟩, trivial⟩, ⟨g1 (by kernel_rfl), ⟨g1 (by kernel_rfl), trivial, trivial⟩, trivial⟩⟩⟩⟩⟩⟩, ⟨NT.no, ⟨g1 (by kernel_rfl), ⟨g1 (by kernel_rfl), ⟨g1 (by kernel_rfl), ⟨g1 (by kernel_rfl), ⟨g1 (by kernel_rfl), ⟨g1 (by kernel_rfl), trivial, trivial⟩, ⟨g1 (by kernel_rfl), trivial, trivial⟩⟩, ⟨g1 (by kernel_rfl), ⟨g1 (by kernel_rfl), trivial, trivial⟩, trivial⟩⟩, ⟨g1 (by kernel_rfl), ⟨g1 (by kernel_rfl), ⟨g1 (by kernel_rfl), trivial, trivial⟩, ⟨g1 (by kernel_rfl), trivial, trivial⟩⟩, ⟨g1 (by kernel_rfl), ⟨g1 (by kernel_rfl), trivial, trivial⟩, trivial⟩⟩⟩, ⟨g1 (by kernel_rfl), ⟨g1 (by kernel_rfl), ⟨g1 (by kernel_rfl), ⟨g1 (by kernel_rfl), trivial, trivial⟩, ⟨g1 (by kernel_rfl), trivial, trivial⟩⟩, ⟨g1 (by kernel_rfl), ⟨g1 (by kernel_rfl), trivial, trivial⟩, trivial⟩⟩, ⟨g1 (by kernel_rfl), ⟨g1 (by kernel_rfl), ⟨g1 (by kernel_rfl), trivial, trivial⟩, ⟨g1 (by kernel_rfl), trivial, trivial⟩⟩, ⟨g1 (by kernel_rfl), ⟨g1 (by kernel_rfl), trivial, trivial⟩, trivial⟩⟩⟩⟩, ⟨g1 (by kernel_rfl), ⟨g1 (by kernel_rfl), ⟨g1 (by kernel_rfl), ⟨g1 (by kernel_rfl), ⟨g1 (by kernel_rfl), trivial, trivial⟩, ⟨g1 (by kernel_rfl), trivial, trivial⟩⟩, ⟨g1 (by kernel_rfl), ⟨g1 (by kernel_rfl), trivial, trivial⟩, trivial⟩⟩, ⟨g1 (by kernel_rfl), ⟨g1 (by kernel_rfl), ⟨g1 (by kernel_rfl), trivial, trivial⟩, ⟨g1 (by kernel_rfl), trivial, trivial⟩⟩, ⟨g1 (by kernel_rfl), ⟨g1 (by kernel_rfl), trivial, trivial⟩, trivial⟩⟩⟩, ⟨g1 (by kernel_rfl), ⟨g1 (by kernel_rfl), ⟨g1 (by kernel_rfl), ⟨g1 (by kernel_rfl), trivial, trivial⟩, ⟨g1 (by kernel_rfl), trivial, trivial⟩⟩, ⟨g1 (by kernel_rfl), ⟨g1 (by kernel_rfl), trivial, trivial⟩, trivial⟩⟩, ⟨g1 (by kernel_rfl), ⟨g1 (by kernel_rfl), ⟨g1 (by kernel_rfl), trivial, trivial⟩, trivial⟩, ⟨g1 (by kernel_rfl), trivial, trivial⟩⟩⟩⟩⟩, ⟨g1 (by kernel_rfl), ⟨g1 (by kernel_rfl), ⟨g1 (by kernel_rfl), ⟨g1 (by kernel_rfl), ⟨g1 (by kernel_rfl), ⟨g1 (by kernel_rfl), trivial, trivial⟩, ⟨g1 (by kernel_rfl), trivial, trivial⟩⟩, ⟨g1 (by kernel_rfl), ⟨g1 (by kernel_rfl), trivial, trivial⟩, trivial⟩⟩, ⟨g1 (by kernel_rfl), ⟨g1 (by kernel_rfl), ⟨g1 (by kernel_rfl), trivial, trivial⟩, ⟨g1 (by kernel_rfl), trivial, trivial⟩⟩, ⟨g1 (by kernel_rfl), ⟨g1 (by kernel_rfl), trivial, trivial⟩, trivial⟩⟩⟩, ⟨g1 (by kernel_rfl), ⟨g1 (by kernel_rfl), ⟨g1 (by kernel_rfl), ⟨g1 (by kernel_rfl), trivial, trivial⟩, ⟨g1 (by kernel_rfl), trivial, trivial⟩⟩, ⟨g1 (by kernel_rfl), ⟨g1 (by kernel_rfl), trivial, trivial⟩, trivial⟩⟩, ⟨g1 (by kernel_rfl), ⟨g1 (by kernel_rfl), ⟨g1 (by kernel_rfl), trivial, trivial⟩, ⟨g1 (by kernel_rfl), trivial, trivial⟩⟩, ⟨g1 (by kernel_rfl), ⟨g1 (by kernel_rfl), trivial, trivial⟩, trivial⟩⟩⟩⟩, ⟨g1 (by kernel_rfl), ⟨g1 (by kernel_rfl), ⟨g1 (by kernel_rfl), ⟨g1 (by kernel_rfl), ⟨g1 (by kernel_rfl), trivial, trivial⟩, ⟨g1 (by kernel_rfl), trivial, trivial⟩⟩, ⟨g1 (by kernel_rfl), ⟨g1 (by kernel_rfl), trivial, trivial⟩, trivial⟩⟩, ⟨g1 (by kernel_rfl), ⟨g1 (by kernel_rfl), ⟨g1 (by kernel_rfl), trivial, trivial⟩, ⟨g1 (by kernel_rfl), trivial, trivial⟩⟩, ⟨g1 (by kernel_rfl), ⟨g1 (by kernel_rfl), trivial, trivial⟩, trivial⟩⟩⟩, ⟨g1 (by kernel_rfl), ⟨g1 (by kernel_rfl), ⟨g1 (by kernel_rfl), ⟨g1 (by kernel_rfl), trivial, trivial⟩, ⟨g1 (by kernel_rfl), trivial, trivial⟩⟩, ⟨g1 (by kernel_rfl), ⟨g1 (by kernel_rfl), trivial, trivial⟩, trivial⟩⟩, ⟨g1 (by kernel_rfl), ⟨g1 (by kernel_rfl), ⟨g1 (by kernel_rfl), trivial, trivial⟩, trivial⟩, ⟨g1 (by kernel_rfl), ⟨g1 (by kernel_rfl), trivial, trivial⟩, trivial⟩⟩⟩⟩⟩⟩⟩
set_option maxHeartbeats 0 in
theorem head_ev : ev progH sums 1000000 (.call 12 [] ⟨0, .e⟩ fun r _ => match r with | .ret (.bool b) => b | _ => false) = true := by kernel_rfl
end
end Go.Ve.T
namespace Go.Ve.T
open Go.Ve Go.Proofs Go.RowKit
noncomputable section
set_option maxRecDepth 100000
theorem calls_plain {P : Program} {f : FuncId} {args : List Value} {args' : Array Value} {c : Value} {w : World} (hl : LR (fun _ => none) args args'.toList) (hc : pl2 c c = true) (H : WF P w f args ⟨0, .e⟩ fun r _ => r = .ret c) :
    Calls P f args' w fun e w' => e = .returned c ∧ Below w.heap.size w w' := by
  refine (H.2 (fun _ => none) args' w hl (HR.bare P w)).mono fun E w' hR => ?_
  obtain ⟨r, h', φ', h1, h2, h3, h4, h5⟩ := hR
  have hr := @of_decide_eq_true _ (Classical.propDecidable _) h1
  subst hr
  obtain ⟨v', rfl, hv⟩ := h5
  exact ⟨by rw [(pl2_t hc φ').2 v' hv], h4.below⟩
theorem FTv_plain : FTv.all (fun c => pl2 c c) = true := by kernel_rfl
theorem FTv_frm : ∀ n : Nat, 1 ≤ n → n ≤ 34 → FTv[n]? = some (.tuple ⟨[.agg ⟨frm n⟩, .bool (isOp n)]⟩) := fun n h1 h2 => by
  have hi : isOp n = true := by unfold isOp; rw [decide_eq_true_eq]; omega
  obtain ⟨x, x1, x2, _, _⟩ := FT_at (i := n) (by omega)
  have hfr : frm (n : Int) = x := by unfold frm; rw [hi, if_pos rfl]; exact x2
  unfold FTv
  rw [List.getElem?_map, x1, hfr, hi]; rfl
theorem tab_keep {P : Program} {w0 w : World} {nm : String} {k : IntKind} {zs : List Int} (hb : Below w0.heap.size w0 w) (ht : Lib.TabIs P w0 nm k zs) : Lib.TabIs P w nm k zs := by
  unfold Lib.TabIs World.var? at ht ⊢
  cases hg : P.globalNamed nm with
  | none => rw [hg] at ht; cases ht
  | some g =>
    rw [hg] at ht
    simp only [Option.bind_some] at ht ⊢
    cases ho : w0.heap[g]? with
    | none => rw [ho] at ht; cases ht
    | some o => rw [hb.block g (Array.getElem?_eq_some_iff.1 ho).1]; exact ht
theorem can_of {k : Nat} (h : (cFn PP k).isSome = true) : Can PP k := by
  obtain ⟨_, _, _, h, _⟩ := cFn_t (g1 h (gF k) rfl)
  exact h
theorem sums_ok {w0 : World} (ht : Lib.TabIs PP w0 "internal/strconv.uint64pow10" .u64 Lib.pow10Tab) : SumsOk PP w0 sums := by
  intro p hp
  simp only [sums, List.mem_cons, List.not_mem_nil, or_false] at hp
  rcases hp with rfl | rfl | rfl | rfl | rfl
  · refine sum_ok (can_of (by kernel_rfl)) fun args h k φ args' w e hl H => ?_
    obtain ⟨L, hL⟩ : ∃ L, args'.toList = L := ⟨_, rfl⟩
    rw [hL] at hl
    obtain ⟨v, rfl, e1⟩ := a1_t e
    obtain ⟨kd, n, rfl, e2⟩ := intK_t e1
    obtain ⟨e3, e4⟩ := iff_t e2
    obtain rfl := eqK_t e3
    cases n with
    | negSucc n => cases e4
    | ofNat n =>
      obtain ⟨e5, e6⟩ := iff_t (show iff (Nat.ble 1 n && Nat.ble n 34) _ = true from e4)
      rw [Bool.and_eq_true] at e5
      have n1 := Nat.le_of_ble_eq_true e5.1
      have n2 := Nat.le_of_ble_eq_true e5.2
      obtain ⟨c, hc, e7⟩ := nthK_t _ e6
      have hp := List.all_eq_true.1 FTv_plain c (List.mem_of_getElem? hc)
      rw [FTv_frm n n1 n2] at hc
      cases hc
      cases hl with
      | cons _ v' _ l' h1 h2 =>
        cases h2
        obtain rfl := h1.int_inv
        have hargs : args' = #[.int .i64 (Int.ofNat n)] := by apply Array.ext'; rw [hL]
        subst hargs
        exact ⟨_, _, (pl2_t hp φ).1, e7, calls_plain (.cons _ _ _ _ (.int _ _) .nil) hp (formOf_ok (n : Int) fun h' _ _ => rfl)⟩
  · refine sum_ok (can_of (by kernel_rfl)) fun args h k φ args' w e hl H => ?_
    have e1 : args = [] ∧ k (.ret (.agg ⟨FTf⟩)) h = true := by
      cases args with
      | nil => exact ⟨rfl, e⟩
      | cons _ _ => cases e
    obtain ⟨rfl, e1⟩ := e1
    have hargs : args' = #[] := by
      cases hl' : args'.toList with
      | nil => simpa using hl'
      | cons _ _ => rw [hl'] at hl; cases hl
    subst hargs
    have hp : pl2 (.agg ⟨FTf⟩) (.agg ⟨FTf⟩) = true := by kernel_rfl
    exact ⟨_, _, (pl2_t hp φ).1, e1, calls_plain .nil hp (forms_ok fun h' _ _ => rfl)⟩
  · exact sItoa_ok (can_of (by kernel_rfl)) fun n w h0 h1 hb => (Any.strconv_Itoa lays8_i n h0 h1 w (tab_keep hb ht)).mono fun e w' ⟨he, k, os, hw⟩ => ⟨he, hw ▸ Lib.below_grow _ w (Nat.le_refl _) k os⟩
  · exact sAtoi_ok (can_of (by kernel_rfl)) fun s n w hl h => (Any.strconv_Atoi lays8_a s n hl h w).mono fun e w' ⟨he, t, hw⟩ => ⟨he, hw ▸ Lib.bytesWorld_below w _ t⟩
  · exact sJoin_ok (can_of (by kernel_rfl)) fun bk o c xs sep w h1 h2 h3 h4 h5 => Any.strings_Join lays8_j extra8 bk o c xs sep w h1 h2 h3 h4 h5
theorem head_ok {w0 : World} (ht : Lib.TabIs PP w0 "internal/strconv.uint64pow10" .u64 Lib.pow10Tab) (h : AH) (R : CR → AH → Prop) (hR : R (.ret (.bool true)) h) : WF PP w0 id_cosignerlaw08_head [] h R := by
  refine ⟨can_of (by kernel_rfl), fun φ args' w hl hh => ?_⟩
  have he : args' = #[] := by
    cases hl' : args'.toList with
    | nil => simpa using hl'
    | cons _ _ => rw [hl'] at hl; cases hl
  subst he
  have hC : CallOk PP w 12 [] ⟨0, .e⟩ (fun r _ => match r with | .ret (.bool b) => b | _ => false) := ev_sound hmix hprogH (sums_ok (tab_keep hh.below ht)) _ _ head_ev
  refine Calls.mono (hC.2 (fun _ => none) #[] w .nil (HR.bare PP w)) fun E w' hE => ?_
  obtain ⟨r, h', φ', h1, h2, h3, h4, h5⟩ := hE
  refine ⟨.ret (.bool true), h, φ, @decide_eq_true _ (Classical.propDecidable _) hR, Ext.refl _ _, Nat.le_refl _, HR.behind hh h4.below, ?_⟩
  cases r with
  | pan v => cases h1
  | ret v =>
    obtain ⟨v', rfl, hv⟩ := h5
    cases v with
    | bool b =>
      have hb : b = true := h1
      subst hb
      exact ⟨v', rfl, by rw [hv.bool_inv]; exact .bool _⟩
    | _ => cases h1
end
end Go.Ve.T
namespace Go.Ve.T
open Go.Ve Go.Proofs
class Tab8 (w0 : World) : Prop where
  t : Lib.TabIs PP w0 "internal/strconv.uint64pow10" .u64 Lib.pow10Tab
def cosignerlaw08_head_M : Option Bool := some true
theorem cosignerlaw08_head_lf {w0 : World} [T8 : Tab8 w0] {g h : AH} {Q : CR → AH → Prop} {r : Bool} (sg : Sub g h) (ok : h.Ok) (M : cosignerlaw08_head_M = some r) (H : ∀ (g' h' : AH), Sep ⟨g, h, []⟩ g' h' [] → Q (.ret (.bool r)) h') : WF PP w0 id_cosignerlaw08_head [] h Q := by
  cases M
  exact head_ok T8.t h Q (H g h (Sep.start sg ok))
end Go.Ve.T
namespace Go.Ve.T
open Go.Ve Go.Proofs
noncomputable section
set_option maxRecDepth 10000
def g_cosignerlaw08_CoreCuts_P1_M (N : Nat) (v7 : Int) (v12 : G_cosignerref08_Cutted) (v24 : Bool)  : Option Bool :=
 bif v24 then (
 some (decide (v7 = v12.fE))) else (
 some false)
def g_cosignerlaw08_CoreCuts_P2_M (N : Nat) (v2 : Bool) (v7 : Int) (v12 : G_cosignerref08_Cutted) (v22 : Bool)  : Option Bool :=
 bif v2 then (
 g_cosignerlaw08_CoreCuts_P1_M N v7 v12 v22) else (
 g_cosignerlaw08_CoreCuts_P1_M N v7 v12 false)
def g_cosignerlaw08_CoreCuts_J1_M (N : Nat) (v1 : G_api_Unit) (x1 : List Bool) (v2 : Bool)  : Option Bool :=
(core_Cut_M N v1 x1).bind fun c_6 =>
(cosignerref08_Cut_M N v1 x1).bind fun c_15 =>
(cosignerref08_SameUnits_M N c_6.1 c_15.fU).bind fun c_24 =>
 bif c_24 then (
(cosignerref08_SameInts_M N c_6.2.1 c_15.fAt).bind fun c_26 =>
 g_cosignerlaw08_CoreCuts_P2_M N v2 c_6.2.2 c_15 c_26) else (
 g_cosignerlaw08_CoreCuts_P2_M N v2 c_6.2.2 c_15 false)
def g_cosignerlaw08_CoreCuts_P3_M (N : Nat) (v2 : Bool) (v1 : G_api_Unit) (x1 : List Bool) (v36 : Bool)  : Option Bool :=
 bif v36 then (
 some v2) else (
 g_cosignerlaw08_CoreCuts_J1_M N v1 x1 v2)
def cosignerlaw08_CoreCuts_M (N : Nat) (x0 : G_api_Unit) (x1 : List Bool) : Option Bool :=
(cosignerlaw08_head_M ).bind fun c_2 =>
(cosignerlaw08_few_M x0).bind fun c_4 =>
 bif (!c_4) then (
 g_cosignerlaw08_CoreCuts_P3_M N c_2 x0 x1 true) else (
 g_cosignerlaw08_CoreCuts_P3_M N c_2 x0 x1 (decide (700 < (x1.length : Int))))
abbrev cosignerlaw08_CoreCuts_H (c : Cx) (R : Value → W) (r : Bool) : Prop := ∀ (g' h' : AH), Sep c g' h' [] → R (.bool r) h'
theorem g_cosignerlaw08_CoreCuts_P1_lf {w0 : World} [Tab8 w0] {c : Cx} {g h : AH} {E R : Value → W} {r : Bool} {N : Nat} {v7 : Int} {v12 : G_cosignerref08_Cutted} {v24 : Bool} {v12_b : Nat} {v12_w1 v12_w2 v12_w3 : Value}  (M : g_cosignerlaw08_CoreCuts_P1_M N v7 v12 v24 = some r) (S : Sep c g h [.bx v12_b [(.string v12.fU.fClass), (.string v12.fU.fName), (vi v12.fU.fArgs), (vi v12.fU.fSlots), (vi v12.fU.fFrame), v12_w1, v12_w2, v12_w3, (vi v12.fE)]]) (v12_F1 : FzS G_api_Ins.rep 4 g v12_w1 v12.fU.fCode) (v12_F2 : FzS G_api_Guard.rep 3 g v12_w2 v12.fU.fGuards) (v12_F3 : FzS (rI .i64) 1 g v12_w3 v12.fAt)  (H : cosignerlaw08_CoreCuts_H c R r) : g_cosignerlaw08_CoreCuts_P1 w0 E R (vi v7) (mkP v12_b 0) (.bool v24) h := by
  unfold g_cosignerlaw08_CoreCuts_P1
  unfold g_cosignerlaw08_CoreCuts_P1_M at M
  cases hc : v24
  · have M := cond_F hc M
    refine gd_mis (by decide) ?_
    refine gd_mis (by decide) ?_
    refine gd_mis (by decide) ?_
    refine gd_mis (by decide) ?_
    refine WP_pick.2 ?_
    cases M
    exact H _ _  S.drops
  · have M := cond_T hc M
    refine gd_hit rfl ?_
    refine gd_hit rfl ?_
    refine WP_fieldAddr.2 ?_
    refine gd_hit rfl ?_
    refine S.bld1 0 rfl rfl ?_
    refine gd_hit rfl ?_
    refine WP_eql.2 ?_
    refine WP_pick.2 ?_
    cases M
    exact H _ _  S.drops
theorem g_cosignerlaw08_CoreCuts_P2_lf {w0 : World} [Tab8 w0] {c : Cx} {g h : AH} {E R : Value → W} {r : Bool} {N : Nat} {v2 : Bool} {v7 : Int} {v12 : G_cosignerref08_Cutted} {v22 : Bool} {v12_b : Nat} {v12_w1 v12_w2 v12_w3 : Value}  (M : g_cosignerlaw08_CoreCuts_P2_M N v2 v7 v12 v22 = some r) (S : Sep c g h [.bx v12_b [(.string v12.fU.fClass), (.string v12.fU.fName), (vi v12.fU.fArgs), (vi v12.fU.fSlots), (vi v12.fU.fFrame), v12_w1, v12_w2, v12_w3, (vi v12.fE)]]) (v12_F1 : FzS G_api_Ins.rep 4 g v12_w1 v12.fU.fCode) (v12_F2 : FzS G_api_Guard.rep 3 g v12_w2 v12.fU.fGuards) (v12_F3 : FzS (rI .i64) 1 g v12_w3 v12.fAt)  (H : cosignerlaw08_CoreCuts_H c R r) : g_cosignerlaw08_CoreCuts_P2 w0 E R (.bool v2) (vi v7) (mkP v12_b 0) (.bool v22) h := by
  unfold g_cosignerlaw08_CoreCuts_P2
  unfold g_cosignerlaw08_CoreCuts_P2_M at M
  cases hc : v2
  · have M := cond_F hc M
    refine gd_mis (by decide) ?_
    refine WP_pick.2 ?_
    exact g_cosignerlaw08_CoreCuts_P1_lf M S v12_F1 v12_F2 v12_F3 H
  · have M := cond_T hc M
    refine gd_hit rfl ?_
    refine WP_pick.2 ?_
    exact g_cosignerlaw08_CoreCuts_P1_lf M S v12_F1 v12_F2 v12_F3 H
theorem g_cosignerlaw08_CoreCuts_J1_lf {w0 : World} [Tab8 w0] {c : Cx} {g h : AH} {E R : Value → W} {r : Bool} {N : Nat} {v1 : G_api_Unit} {x1 : List Bool} {v2 : Bool} {v1_b : Nat} {v1_w1 v1_w2 x1_v : Value}  (M : g_cosignerlaw08_CoreCuts_J1_M N v1 x1 v2 = some r) (S : Sep c g h [.bx v1_b [(.string v1.fClass), (.string v1.fName), (vi v1.fArgs), (vi v1.fSlots), (vi v1.fFrame), v1_w1, v1_w2]]) (v1_F1 : FzS G_api_Ins.rep 4 g v1_w1 v1.fCode) (v1_F2 : FzS G_api_Guard.rep 3 g v1_w2 v1.fGuards) (x1_F : FzS rB 1 g x1_v x1)  (H : cosignerlaw08_CoreCuts_H c R r) : g_cosignerlaw08_CoreCuts_J1 w0 E R (mkP v1_b 0) x1_v (.bool v2) h := by
  unfold g_cosignerlaw08_CoreCuts_J1
  unfold g_cosignerlaw08_CoreCuts_J1_M at M
  refine S.bldN [(.string v1.fClass), (.string v1.fName), (vi v1.fArgs), (vi v1.fSlots), (vi v1.fFrame), v1_w1, v1_w2] 0 rfl rfl rfl (by decide) ?_
  obtain ⟨c_6, hx_7, M⟩ := bind_some M
  refine core_Cut_lf hx_7 S.sub S.ok v1_F1 v1_F2 x1_F (fun g h w_8 w_10 w_12 S1 F_9 F_11 F_13 => ?_)
  have x1_F := x1_F.mono mono_B S1.sub0
  have v1_F1 := v1_F1.mono G_api_Ins.mono S1.sub0
  have v1_F2 := v1_F2.mono G_api_Guard.mono S1.sub0
  have S := S.callE S1
  refine (WP_extract rfl).2 ?_
  refine (WP_extract rfl).2 ?_
  refine (WP_extract rfl).2 ?_
  refine S.alloc (l := [(.string (⟨⟨[]⟩⟩ : ByteArray)), (.string (⟨⟨[]⟩⟩ : ByteArray)), (vi 0), (vi 0), (vi 0), nilS, nilS]) (one_cons rfl (one_cons rfl (one_cons rfl (one_cons rfl (one_cons rfl (one_cons rfl (one_cons rfl rfl))))))) (fun b_14 h S => ?_)
  refine S.bst [(.string c_6.1.fClass), (.string c_6.1.fName), (vi c_6.1.fArgs), (vi c_6.1.fSlots), (vi c_6.1.fFrame), w_8, w_10] [(.string c_6.1.fClass), (.string c_6.1.fName), (vi c_6.1.fArgs), (vi c_6.1.fSlots), (vi c_6.1.fFrame), w_8, w_10] rfl rfl (one_cons rfl (one_cons rfl (one_cons rfl (one_cons rfl (one_cons rfl (one_cons F_9.one (one_cons F_11.one rfl))))))) (Nat.le_of_ble_eq_true rfl) rfl (fun h S => ?_)
  refine S.bldN [(.string v1.fClass), (.string v1.fName), (vi v1.fArgs), (vi v1.fSlots), (vi v1.fFrame), v1_w1, v1_w2] 1 rfl rfl rfl (by decide) ?_
  obtain ⟨c_15, hx_16, M⟩ := bind_some M
  refine cosignerref08_Cut_lf hx_16 S.sub S.ok v1_F1 v1_F2 x1_F (fun g h w_17 w_19 w_21 S1 F_18 F_20 F_22 => ?_)
  have x1_F := x1_F.mono mono_B S1.sub0
  have v1_F1 := v1_F1.mono G_api_Ins.mono S1.sub0
  have v1_F2 := v1_F2.mono G_api_Guard.mono S1.sub0
  have F_9 := F_9.mono G_api_Ins.mono S1.sub0
  have F_11 := F_11.mono G_api_Guard.mono S1.sub0
  have F_13 := F_13.mono (mono_I .i64) S1.sub0
  have S := S.callE S1
  refine S.alloc (l := [(.string (⟨⟨[]⟩⟩ : ByteArray)), (.string (⟨⟨[]⟩⟩ : ByteArray)), (vi 0), (vi 0), (vi 0), nilS, nilS, nilS, (vi 0)]) (one_cons rfl (one_cons rfl (one_cons rfl (one_cons rfl (one_cons rfl (one_cons rfl (one_cons rfl (one_cons rfl (one_cons rfl rfl))))))))) (fun b_23 h S => ?_)
  refine S.bst [(.string c_15.fU.fClass), (.string c_15.fU.fName), (vi c_15.fU.fArgs), (vi c_15.fU.fSlots), (vi c_15.fU.fFrame), w_17, w_19, w_21, (vi c_15.fE)] [(.string c_15.fU.fClass), (.string c_15.fU.fName), (vi c_15.fU.fArgs), (vi c_15.fU.fSlots), (vi c_15.fU.fFrame), w_17, w_19, w_21, (vi c_15.fE)] rfl rfl (one_cons rfl (one_cons rfl (one_cons rfl (one_cons rfl (one_cons rfl (one_cons F_18.one (one_cons F_20.one (one_cons F_22.one (one_cons rfl rfl))))))))) (Nat.le_of_ble_eq_true rfl) rfl (fun h S => ?_)
  refine S.bldN [(.string c_6.1.fClass), (.string c_6.1.fName), (vi c_6.1.fArgs), (vi c_6.1.fSlots), (vi c_6.1.fFrame), w_8, w_10] 1 rfl rfl rfl (by decide) ?_
  refine WP_fieldAddr.2 ?_
  refine S.bldN [(.string c_15.fU.fClass), (.string c_15.fU.fName), (vi c_15.fU.fArgs), (vi c_15.fU.fSlots), (vi c_15.fU.fFrame), w_17, w_19] 0 rfl rfl rfl (by decide) ?_
  obtain ⟨c_24, hx_25, M⟩ := bind_some M
  refine cosignerref08_SameUnits_lf hx_25 S.sub S.ok F_9 F_11 F_18 F_20 (fun _ h  S1  => ?_)
  have S := S.call0 S1
  cases hc : c_24
  · have M := cond_F hc M
    refine gd_mis (by decide) ?_
    refine gd_mis (by decide) ?_
    refine gd_mis (by decide) ?_
    refine gd_mis (by decide) ?_
    refine WP_pick.2 ?_
    have S := S.t1
    exact g_cosignerlaw08_CoreCuts_P2_lf M S F_18 F_20 F_22 H
  · have M := cond_T hc M
    refine gd_hit rfl ?_
    refine gd_hit rfl ?_
    refine WP_fieldAddr.2 ?_
    refine gd_hit rfl ?_
    refine S.bld1 0 rfl rfl ?_
    refine gd_hit rfl ?_
    obtain ⟨c_26, hx_27, M⟩ := bind_some M
    refine cosignerref08_SameInts_lf hx_27 S.sub S.ok F_13 F_22 (fun _ h  S1  => ?_)
    have S := S.call0 S1
    refine WP_pick.2 ?_
    have S := S.t1
    exact g_cosignerlaw08_CoreCuts_P2_lf M S F_18 F_20 F_22 H
theorem g_cosignerlaw08_CoreCuts_P3_lf {w0 : World} [Tab8 w0] {c : Cx} {g h : AH} {E R : Value → W} {r : Bool} {N : Nat} {v2 : Bool} {v1 : G_api_Unit} {x1 : List Bool} {v36 : Bool} {v1_b : Nat} {v1_w1 v1_w2 x1_v : Value}  (M : g_cosignerlaw08_CoreCuts_P3_M N v2 v1 x1 v36 = some r) (S : Sep c g h [.bx v1_b [(.string v1.fClass), (.string v1.fName), (vi v1.fArgs), (vi v1.fSlots), (vi v1.fFrame), v1_w1, v1_w2]]) (v1_F1 : FzS G_api_Ins.rep 4 g v1_w1 v1.fCode) (v1_F2 : FzS G_api_Guard.rep 3 g v1_w2 v1.fGuards) (x1_F : FzS rB 1 g x1_v x1)  (H : cosignerlaw08_CoreCuts_H c R r) : g_cosignerlaw08_CoreCuts_P3 w0 E R (.bool v2) (mkP v1_b 0) x1_v (.bool v36) h := by
  unfold g_cosignerlaw08_CoreCuts_P3
  unfold g_cosignerlaw08_CoreCuts_P3_M at M
  refine br_lf (fun hc => ?_) (fun hc => ?_)
  · have M := cond_T hc M
    cases M
    exact H _ _  S.drops
  · have M := cond_F hc M
    exact g_cosignerlaw08_CoreCuts_J1_lf M S v1_F1 v1_F2 x1_F H
theorem cosignerlaw08_CoreCuts_lf {w0 : World} [Tab8 w0] {g h : AH} {Q : CR → AH → Prop} {r : Bool} {N : Nat} {x0 : G_api_Unit} {x1 : List Bool} {x0_w1 x0_w2 x1_v : Value} (M : cosignerlaw08_CoreCuts_M N x0 x1 = some r) (sg : Sub g h) (ok : h.Ok) (x0_F1 : FzS G_api_Ins.rep 4 g x0_w1 x0.fCode) (x0_F2 : FzS G_api_Guard.rep 3 g x0_w2 x0.fGuards) (x1_F : FzS rB 1 g x1_v x1) (H : cosignerlaw08_CoreCuts_H ⟨g, h, []⟩ (fun v => Q (.ret v)) r) : WF PP w0 id_cosignerlaw08_CoreCuts [(.agg ⟨[(.string x0.fClass), (.string x0.fName), (vi x0.fArgs), (vi x0.fSlots), (vi x0.fFrame), x0_w1, x0_w2]⟩), x1_v] h Q := by
  refine g_cosignerlaw08_CoreCuts_wp _ _ ?_
  have S := Sep.start sg ok
  unfold g_cosignerlaw08_CoreCuts_F
  unfold cosignerlaw08_CoreCuts_M at M
  refine S.box [(.string x0.fClass), (.string x0.fName), (vi x0.fArgs), (vi x0.fSlots), (vi x0.fFrame), x0_w1, x0_w2] rfl (one_cons rfl (one_cons rfl (one_cons rfl (one_cons rfl (one_cons rfl (one_cons x0_F1.one (one_cons x0_F2.one rfl))))))) (fun b_1 h S => ?_)
  obtain ⟨c_2, hx_3, M⟩ := bind_some M
  refine cosignerlaw08_head_lf S.sub S.ok hx_3 (fun _ h  S1  => ?_)
  have S := S.call0 S1
  refine S.bldN [(.string x0.fClass), (.string x0.fName), (vi x0.fArgs), (vi x0.fSlots), (vi x0.fFrame), x0_w1, x0_w2] 0 rfl rfl rfl (by decide) ?_
  obtain ⟨c_4, hx_5, M⟩ := bind_some M
  refine cosignerlaw08_few_lf hx_5 S.sub S.ok x0_F1 x0_F2 (fun _ h  S1  => ?_)
  have S := S.call0 S1
  refine WP_notB.2 ?_
  cases hc : (!c_4)
  · have M := cond_F hc M
    refine gd_hit rfl ?_
    refine gd_hit rfl ?_
    refine x1_F.len ?_
    refine gd_hit rfl ?_
    refine WP_gtr.2 ?_
    refine WP_pick.2 ?_
    exact g_cosignerlaw08_CoreCuts_P3_lf M S x0_F1 x0_F2 x1_F H
  · have M := cond_T hc M
    refine gd_mis (by decide) ?_
    refine gd_mis (by decide) ?_
    refine gd_mis (by decide) ?_
    refine WP_pick.2 ?_
    exact g_cosignerlaw08_CoreCuts_P3_lf M S x0_F1 x0_F2 x1_F H
end
end Go.Ve.T
namespace Go.Ve.T
open Go.Ve
noncomputable section
theorem few_M (u : G_api_Unit) : ∃ b, cosignerlaw08_few_M u = some b := by
  unfold cosignerlaw08_few_M g_cosignerlaw08_few_P1_M
  cases decide ((u.fCode.length : Int) ≤ 40) <;> cases decide (600 < (u.fCode.length : Int)) <;> cases decide ((u.fCode.length : Int) ≤ 700) <;> cases decide ((u.fGuards.length : Int) ≤ 8) <;> cases decide (40 < (u.fGuards.length : Int)) <;> exact ⟨_, rfl⟩
theorem coreCuts_true (N : Nat) (hN : 1000 ≤ N) (u : G_api_Unit) (keep : List Bool) : cosignerlaw08_CoreCuts_M N u keep = some true := by
  have hJ : g_cosignerlaw08_CoreCuts_J1_M N u keep true = some true := by
    obtain ⟨s1, s2, s3⟩ := cutV_small u keep
    unfold g_cosignerlaw08_CoreCuts_J1_M g_cosignerlaw08_CoreCuts_P2_M g_cosignerlaw08_CoreCuts_P1_M
    rw [cut_M N hN, cutR_M N hN]
    simp only [Option.bind_some]
    rw [sameUnits_M N _ (by omega) (by omega) (by omega) (by omega), sameInts_M N _ (by omega) (by omega)]
    simp only [Option.bind_some, cond_true, decide_true]
  obtain ⟨b, hb⟩ := few_M u
  unfold cosignerlaw08_CoreCuts_M cosignerlaw08_head_M g_cosignerlaw08_CoreCuts_P3_M
  rw [hb]
  simp only [Option.bind_some, hJ]
  cases b <;> cases decide (700 < (keep.length : Int)) <;> rfl
end
end Go.Ve.T
