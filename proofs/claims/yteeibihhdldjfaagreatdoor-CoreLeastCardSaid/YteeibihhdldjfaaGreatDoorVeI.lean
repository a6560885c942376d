/- Part 9: VEval, part 33: more operations: entries of the library, pointers as unsafe.Pointer, a string's bytes appended, a range over a map. No condition. -/
import Derived.Test.YteeibihhdldjfaaGreatDoorVeH
import Derived.Lib.Builder
import Derived.Lib.Bytealg
import Derived.Maps.RangeRun
import Derived.KernelRfl
set_option linter.unusedVariables false
set_option linter.unusedSimpArgs false
namespace Go.Ve
open Go.RowKit
section
variable {P : Program} {w0 w : World} {φ : aE} {h : AH} {ρ : Operand → Value} {o : Oper} {vs : List Value} {k : KV}
theorem WY {h : AH} {b : Nat} {k : Option Nat → Nat → List Nat → Nat → Bool} (e : sT h b k = true) : ∃ m s l n, h.ob.get b = some (.eC m s l n) ∧ k m s l n = true := by
 obtain ⟨o, h1, h2⟩ := vF e
 cases o <;> first | exact ⟨_, _, _, _, h1, h2⟩ | cases h2
theorem adE {c : Call} {g : FuncId} {fn : Func} {e : Array Value → Sem Value} (ho : o.op = .call c) (hc : c.callee = .value (.func g)) (hρ : ρ (.func g) = .func (.func g) #[] #[]) (hf : P.funcs[g]? = some fn) (hn : (fn.name == "runtime.NumGoroutine") = false)
 (hb : fn.body.isNone = true) (h1 : Extern.findNext fn = none) (h2 : Extern.find fn = some e) {v : Value} (hr : (e (c.args.map ρ)).run P w = .ok v w) : (execOp ρ o).run P w = .ok (.value v) w := by
 have bP : fn.body = none := by simpa using hb
 have NP : fn.name ≠ "runtime.NumGoroutine" := by simpa using hn
 simp [execOp, ho, resolve, hc, hρ, Deferred.ofValue, invoke, callFunc, program, Sem.run_bind, Sem.run, Result.andThen, hf, NP, bP, mark, h1, h2, hr]
theorem NR {fn : Func} {n : String} {e : Array Value → Sem Value} (hn : fn.name = n) (h1 : Extern.allGenericRows.lookup n = none) (h2 : Extern.allTypedRows.lookup n = none) (h3 : Extern.allRows.lookup n = some e) : Extern.find fn = some e := by
 unfold Extern.find
 simp only [hn, h1, h2, h3]
 rfl
set_option maxRecDepth 20000 in
theorem adG {fn : Func} (h : fn.name = "internal/abi.NoEscape") : Extern.find fn = some Extern.AbiNoEscape.same := NR h (by kernel_rfl) (by kernel_rfl) (by kernel_rfl)
set_option maxRecDepth 20000 in
theorem adI {fn : Func} (h : fn.name = "internal/bytealg.CountString") : Extern.find fn = some Extern.BytealgCount.count := NR h (by kernel_rfl) (by kernel_rfl) (by kernel_rfl)
set_option maxRecDepth 20000 in
theorem adK {fn : Func} (h : fn.name = "internal/bytealg.IndexByteString") : Extern.find fn = some Extern.BytealgIndexByte.indexByte := NR h (by kernel_rfl) (by kernel_rfl) (by kernel_rfl)
theorem adF {e : Array Value → Sem Value} {c : Call} (hx : ∀ v, (e (c.args.map ρ)).run P w = .ok v w → (execOp ρ o).run P w = .ok (.value v) w) (he : e = Extern.AbiNoEscape.same) (H : HR P w0 φ h w) (hv : LR φ vs (c.args.toList.map ρ)) (q : VK vs h k = true) : PR P w0 φ h ((execOp ρ o).run P w) fun v h' => k v h' = true := by
 obtain ⟨p, al, e1⟩ := dX q; subst al
 obtain ⟨p', hp, hr⟩ := hv.one
 refine .same H (hx p' ?_) hr e1
 have : c.args.map ρ = #[p'] := by apply Array.ext'; simpa using hp
 rw [this, he]; rfl
theorem count_eq (c : Nat) (hc : c < 256) : ∀ (l : List UInt8), AY l c = Lib.countByte l (c.toUInt8)
 | [] => rfl
 | b :: l => by
  have ih := count_eq c hc l
  have h1 : AY (b :: l) c = bif Nat.beq b.toNat c then Nat.succ (AY l c) else AY l c := rfl
  have h2 : (b == c.toUInt8) = Nat.beq b.toNat c := by
   have h3 : c.toUInt8.toNat = c := by simp [Nat.toUInt8, UInt8.toNat_ofNat']; omega
   by_cases hb : b.toNat = c
   · rw [j7 hb]
     have : b = c.toUInt8 := UInt8.toNat_inj.1 (by rw [h3]; exact hb)
     simp [this]
   · rw [eO hb]
     have : b ≠ c.toUInt8 := fun e => hb (by rw [e, h3])
     simpa using this
  rw [h1, ih]
  unfold Lib.countByte
  rw [List.count_cons, h2]
  cases Nat.beq b.toNat c <;> simp
theorem WZ (c : Nat) (hc : c < 256) : ∀ (l : List UInt8) (i : Nat) {k : Int → Bool}, FL c l i k = true → k (if Lib.indexByte l c.toUInt8 = -1 then -1 else Lib.indexByte l c.toUInt8 + i) = true
 | [], i, k, h => by
  have h1 : k (.negSucc 0) = true := h
  simpa [Lib.indexByte] using h1
 | b :: l, i, k, h => by
  have h3 : c.toUInt8.toNat = c := by simp [Nat.toUInt8, UInt8.toNat_ofNat']; omega
  have h1 : (bif Nat.beq b.toNat c then k (.ofNat i) else fN (Nat.succ i) fun i => FL c l i k) = true := h
  by_cases hb : b.toNat = c
  · rw [j7 hb, cond_true] at h1
    have : b = c.toUInt8 := UInt8.toNat_inj.1 (by rw [h3]; exact hb)
    have h4 : Lib.indexByte (b :: l) c.toUInt8 = 0 := by unfold Lib.indexByte; simp [this]
    rw [h4]
    simpa using h1
  · rw [eO hb, cond_false, bT] at h1
    have cS : b ≠ c.toUInt8 := fun e => hb (by rw [e, h3])
    have ih := WZ c hc l (i + 1) h1
    have hge := Lib.indexByte_ge l c.toUInt8
    have h4 : Lib.indexByte (b :: l) c.toUInt8 = if Lib.indexByte l c.toUInt8 = -1 then -1 else Lib.indexByte l c.toUInt8 + 1 := by
     rw [Lib.indexByte]
     simp [cS]
    rw [h4]
    by_cases h5 : Lib.indexByte l c.toUInt8 = -1
    · rw [if_pos h5] at ih ⊢
      simpa using ih
    · rw [if_neg h5] at ih ⊢
      rw [if_neg (by omega)]
      rw [show Lib.indexByte l c.toUInt8 + 1 + (i : Int) = Lib.indexByte l c.toUInt8 + ((i + 1 : Nat) : Int) by omega]
      exact ih
theorem adH {e : Array Value → Sem Value} {c : Call} (hx : ∀ v, (e (c.args.map ρ)).run P w = .ok v w → (execOp ρ o).run P w = .ok (.value v) w) (he : e = Extern.BytealgCount.count) (H : HR P w0 φ h w) (hv : LR φ vs (c.args.toList.map ρ)) (q : VP vs h k = true) : PR P w0 φ h ((execOp ρ o).run P w) fun v h' => k v h' = true := by
 obtain ⟨p, r, al, e1⟩ := gm q; subst al
 obtain ⟨p', r', hp, hr, hq⟩ := hv.two
 obtain ⟨s, al, e2⟩ := kb e1; subst al
 obtain ⟨kd, n, al, e3⟩ := lP e2; subst al
 have hs := hr.ja
 have hn := hq.fX
 cases n with
 | negSucc n => cases e3
 | ofNat n =>
  obtain ⟨e4, e5⟩ := bV (show iff (fy kd .u8 && Nat.ble (Nat.succ n) 256) _ = true from e3)
  rw [Bool.and_eq_true] at e4
  have hk := mD e4.1
  subst hk
  have bG : n < 256 := Nat.le_of_ble_eq_true e4.2
  rw [bT, count_eq n bG] at e5
  refine .same H (hx (.int .i64 (Lib.countByte s.data.toList n.toUInt8 : Nat)) ?_) (.int _ _) e5
  have : c.args.map ρ = #[.string s, .int .u8 (Int.ofNat n)] := by apply Array.ext'; rw [Array.toList_map, hp, hs, hn]
  rw [this, he]
  exact Lib.run_countString s (Int.ofNat n) w
theorem adJ {e : Array Value → Sem Value} {c : Call} (hx : ∀ v, (e (c.args.map ρ)).run P w = .ok v w → (execOp ρ o).run P w = .ok (.value v) w) (he : e = Extern.BytealgIndexByte.indexByte) (H : HR P w0 φ h w) (hv : LR φ vs (c.args.toList.map ρ)) (q : VQ vs h k = true) : PR P w0 φ h ((execOp ρ o).run P w) fun v h' => k v h' = true := by
 obtain ⟨p, r, al, e1⟩ := gm q; subst al
 obtain ⟨p', r', hp, hr, hq⟩ := hv.two
 obtain ⟨s, al, e2⟩ := kb e1; subst al
 obtain ⟨kd, n, al, e3⟩ := lP e2; subst al
 have hs := hr.ja
 have hn := hq.fX
 cases n with
 | negSucc n => cases e3
 | ofNat n =>
  obtain ⟨e4, e5⟩ := bV (show iff (fy kd .u8 && Nat.ble (Nat.succ n) 256) _ = true from e3)
  rw [Bool.and_eq_true] at e4
  have hk := mD e4.1
  subst hk
  have bG : n < 256 := Nat.le_of_ble_eq_true e4.2
  have e6 := WZ n bG _ _ e5
  have hid : (if Lib.indexByte s.data.toList n.toUInt8 = -1 then (-1 : Int) else Lib.indexByte s.data.toList n.toUInt8 + ((0 : Nat) : Int)) = Lib.indexByte s.data.toList n.toUInt8 := by split <;> omega
  rw [hid] at e6
  refine .same H (hx (.int .i64 (Lib.indexByte s.data.toList n.toUInt8)) ?_) (.int _ _) e6
  have : c.args.map ρ = #[.string s, .int .u8 (Int.ofNat n)] := by apply Array.ext'; rw [Array.toList_map, hp, hs, hn]
  rw [this, he]
  exact Lib.run_indexByteString s (Int.ofNat n) w
end
end Go.Ve
