/- Part 10: VEval, part 34: more operations, the rest: pointers as unsafe.Pointer, a string's bytes appended, unsafe.String, a range over a map. No condition. And what follows it. -/
import Derived.Test.YteeibihhdldjfaaGreatDoorVeI
import Derived.Lib.UnsafeStr
set_option linter.unusedVariables false
set_option linter.unusedSimpArgs false
namespace Go.Ve
open Go.RowKit
section
variable {P : Program} {w0 w : World} {φ : ak} {h : AH} {ρ : Operand → Value} {o : Oper} {vs : List Value} {k : KV}
theorem VR.acv {v' : Value} (h : VR φ (.pointer none) v') : v' = .pointer none := by cases h; rfl
theorem HR.shape (H : HR P w0 φ h w) {a a' : Addr} {lo hi : Nat} {ty : TypeId} {rw : Bool} {c : NT Value} (hs : φ a.block ≠ none) (ha : AtR φ a a') (ho : h.ob.get a.block = some (.cells lo hi ty rw c)) :
 ∃ d n, w.shape? a'.block = some (ty, n) ∧ d ≤ lo ∧ (lo < hi → hi - d ≤ n) ∧ a'.off + d = a.off ∧ a'.spot = none := by
 obtain ⟨b, d, arr, fr, v1, v2, v3, v4, v5, v6, v7, _⟩ := H.at hs ha ho
 refine ⟨d, arr.size, by simp [World.shape?, v2, v5], v6, fun bz => ?_, v3, v4⟩
 obtain ⟨_, _, _, g, _⟩ := v7 (hi - 1) (by omega) (by omega)
 have := (Array.getElem?_eq_some_iff.1 g).1
 omega
theorem aaA {x : Operand} {s t te : TypeId} {j : TypeInfo} (ho : o.op = .convert s t x) (hs : P.underlying s = some (.pointer te)) (ht : P.underlying t = some .unsafePointer) (hi : P.info? te = some j) (hj : j.size ≠ 0) (H : HR P w0 φ h w) (hv : LR φ vs ([x].map ρ)) (e : RS vs h k = true) : PR P w0 φ h ((execOp ρ o).run P w) fun v h' => k v h' = true := by
 obtain ⟨p, ag, e1⟩ := dO e; clear e; subst ag; have e := e1; clear e1
 obtain ⟨p', hp, hr⟩ := hv.one
 simp at hp; subst hp
 obtain ⟨a, ag, e1⟩ := j6 e; clear e; subst ag
 obtain ⟨a', hx, hf, cb⟩ := hr.ja
 obtain ⟨lo, cI, ty, ll, c, g1, e2⟩ := qz e1
 obtain ⟨g2, e3⟩ := bJ e2
 simp only [Bool.and_eq_true] at g2
 have g3 := Nat.le_of_ble_eq_true g2.1
 have g4 : a.off < cI := Nat.le_of_ble_eq_true g2.2
 obtain ⟨d, n, q1, q2, q3, q4, q5⟩ := H.shape hf cb g1
 have q3 := q3 (by omega)
 refine .same H ?_ (.ptr ⟨a.block, a.off, none⟩ _ hf cb) e3
 simp only [execOp, ho, hx]
 simp [Lib.run_to_unsafe (P := P) w a' hs ht hi hj q1 (by omega)]
theorem acw {fits : TypeId → Bool} {d : Nat} {e : TypeId} {c c' off n : Nat} (hc : c ≤ c') (h : rowAt P fits d e c off n = true) : rowAt P fits d e c' off n = true := by
 cases d with
 | zero => cases h
 | succ d =>
  unfold rowAt at h ⊢
  simp only at h ⊢
  split at h
  · cases h
  · rename_i hs
    rw [if_neg hs]
    simp only [Bool.or_eq_true, Bool.and_eq_true, decide_eq_true_eq] at h ⊢
    rcases h with ⟨⟨h1, h2⟩, h3⟩ | ⟨h1, h2⟩
    · exact .inl ⟨⟨h1, by omega⟩, h3⟩
    · exact .inr ⟨by omega, h2⟩
theorem Tf : ∀ {d : Nat} {e : TypeId} {c c' off : Nat} {u : TypeId} {n : Nat}, c ≤ c' → liesAt P d e c off u n = true → liesAt P d e c' off u n = true
 | 0, _, _, _, _, _, _, _, h => by cases h
 | d + 1, e, c, c', off, u, n, hc, h => by
  unfold liesAt at h ⊢
  rw [Bool.or_eq_true] at h ⊢
  rcases h with h | h
  · exact .inl (acw hc h)
  · refine .inr ?_
    split at h
    · exact Tf hc h
    · cases h
theorem Tg {ty hi : Nat} : ∀ {l : List (TypeId × Nat)}, Dy ty hi l = true → ∃ n, (ty, n) ∈ l ∧ n ≤ hi
 | [], h => by cases h
 | (t, n) :: l, h => by
  unfold Dy at h
  cases hb : Nat.beq t ty && Nat.ble n hi with
  | true =>
   rw [Bool.and_eq_true] at hb
   obtain rfl := Nat.eq_of_beq_eq_true hb.1
   exact ⟨n, .head _, Nat.le_of_ble_eq_true hb.2⟩
  | false =>
   rw [hb] at h
   obtain ⟨m, h1, h2⟩ := Tg (l := l) (by simpa using h)
   exact ⟨m, .tail _ h1, h2⟩
theorem acx {u t : TypeId} {n : Nat} (h : (t, n) ∈ DV P u) : n = P.cellsOf t ∧ n ≠ 0 ∧ liesAt P P.depth t 1 0 u 1 = true := by
 unfold DV at h
 obtain ⟨t', h1, h2⟩ := List.mem_map.1 h
 cases h2
 have h3 := (List.mem_filter.1 h1).2
 simp only [Bool.and_eq_true, Bool.not_eq_true', beq_eq_false_iff_ne] at h3
 exact ⟨rfl, h3.1.2, h3.2⟩
theorem aaB {x : Operand} {s t u : TypeId} {j : TypeInfo} (ho : o.op = .convert s t x) (hs : P.underlying s = some .unsafePointer) (ht : P.underlying t = some (.pointer u)) (hi : P.info? u = some j) (H : HR P w0 φ h w) (hv : LR φ vs ([x].map ρ)) (e : RT (DV P u) vs h k = true) : PR P w0 φ h ((execOp ρ o).run P w) fun v h' => k v h' = true := by
 obtain ⟨p, ag, e1⟩ := dO e; clear e; subst ag; have e := e1; clear e1
 obtain ⟨p', hp, hr⟩ := hv.one
 simp at hp; subst hp
 obtain ⟨a, ag, e1⟩ := j6 e; clear e; subst ag
 obtain ⟨a', hx, hf, cb⟩ := hr.ja
 obtain ⟨lo, cI, ty, ll, c, g1, e2⟩ := qz e1
 obtain ⟨g2, e3⟩ := bJ e2
 simp only [Bool.and_eq_true] at g2
 obtain ⟨⟨g2, g3⟩, g4⟩ := g2
 have g2 : lo = 0 := Nat.eq_of_beq_eq_true g2
 have g3 : a.off = 0 := Nat.eq_of_beq_eq_true g3
 obtain ⟨m, g5, g6⟩ := Tg g4
 obtain ⟨g7, g8, g9⟩ := acx g5
 obtain ⟨d, n, q1, q2, q3, q4, q5⟩ := H.shape hf cb g1
 have q3 := q3 (by omega)
 have Th : a'.off = 0 := by omega
 refine .same H ?_ (.ptr ⟨a.block, a.off, none⟩ _ hf cb) e3
 simp only [execOp, ho, hx]
 have hn : P.cellsOf ty ≤ n := by omega
 have h1 : 1 ≤ n / P.cellsOf ty := (Nat.one_le_div_iff (by omega)).2 hn
 simp [Lib.run_from_unsafe (P := P) w a' hs ht hi q1 (by rw [Th]; exact Tf h1 g9)]
theorem acy {x y : Value} (h : Dz x y = true) : ∃ a b, x = .pointer (some a) ∧ y = .pointer (some b) ∧ a.block = b.block ∧ a.off = b.off := by
 unfold Dz at h
 split at h
 · rename_i a b
   rw [Bool.and_eq_true] at h
   exact ⟨a, b, rfl, rfl, Nat.eq_of_beq_eq_true h.1, Nat.eq_of_beq_eq_true h.2⟩
 · cases h
theorem QG {op : BinOp} {t u te : TypeId} {j : TypeInfo} {x y : Operand} {ng : Bool} (ho : o.op = .binOp op t x y u) (aM : (op = .eql ∧ ng = false) ∨ (op = .neq ∧ ng = true)) (hu : P.underlying t = some (.pointer te)) (hi : P.info? te = some j) (H : HR P w0 φ h w) (hv : LR φ vs ([x, y].map ρ)) (e : RV ng vs h k = true) : PR P w0 φ h ((execOp ρ o).run P w) fun v h' => k v h' = true := by
 obtain ⟨p, q, ag, e1⟩ := fF e; clear e; subst ag
 cases Kr : Dz p q with
 | false =>
  rw [Kr, cond_false] at e1
  exact nO (nk := 0) ho aM hu rfl (fun h => by cases h) H hv e1
 | true =>
  rw [Kr, cond_true] at e1
  obtain ⟨a, b, acz, acA, hb, Th⟩ := acy Kr
  subst acz acA
  obtain ⟨p', q', hp, hr, hq⟩ := hv.two
  simp at hp; obtain ⟨e2, e3⟩ := hp; subst e2 e3
  obtain ⟨a', hx, hf, cb⟩ := hr.ja
  obtain ⟨b', hy, hf', zG⟩ := hq.ja
  obtain ⟨a2, ag, e2⟩ := j6 e1
  cases ag
  obtain ⟨ob, g1, e3⟩ := uw e2
  obtain ⟨B, d, n, o', m1, m2, m3, m4⟩ := H.live hf g1
  obtain ⟨c1, c2, c3⟩ := cb B d n m1
  obtain ⟨d1, d2, d3⟩ := zG B d n (by rw [← hb]; exact m1)
  have l3 : a' = b' := by
   cases a'; cases b'
   simp only at c1 c2 c3 d1 d2 d3
   subst c1 c3 d1 d3
   congr 1
   omega
  subst l3
  rw [gH] at e3
  have hg := Ti (P := P) (w := w) (nk := 0) (op := op) (t := t) (X := x) (Y := y) (a := .pointer (some a')) (b := .pointer (some a')) rfl rfl (fun h => by cases h)
  refine .same H ?_ (.bool _) e3
  simp only [execOp, ho, hx, hy]
  rcases aM with ⟨rfl, rfl⟩ | ⟨rfl, rfl⟩
  · simp [hg, run_eql_ptr_same (P := P) w a' hu hi]
  · simp [hg, Lib.run_neq_ptr_same (P := P) w a' hu hi]
theorem aaW {c : Call} {x : Operand} (ho : o.op = .call c) (hc : c.callee = .builtin .unsafeSliceData) (ha : c.args = #[x]) (H : HR P w0 φ h w) (hv : LR φ vs ([x].map ρ)) (e : RW vs h k = true) : PR P w0 φ h ((execOp ρ o).run P w) fun v h' => k v h' = true := by
 obtain ⟨p, ag, e1⟩ := dO e; clear e; subst ag; have e := e1; clear e1
 obtain ⟨p', hp, hr⟩ := hv.one
 simp at hp; subst hp
 rcases nK e with ⟨l, c', ag, e1⟩ | ⟨a, l, c', ag, e1⟩ <;> (clear e; subst ag)
 · obtain ⟨rfl, rfl, hx⟩ := hr.oN
   refine .same H ?_ .CU e1
   rw [jI ho hc]
   simp [builtin, ha, hx, Lib.run_unsafeSliceData_nil]
 · obtain ⟨a', cr, hx, hs, gh⟩ := hr.mB
   obtain ⟨h1, e2⟩ := bJ e1
   have h1 : 1 ≤ l := Nat.le_of_ble_eq_true h1
   have cb : AtR φ a a' ∧ cr ≠ 0 := by
    rcases gh with ⟨_, h2, h3, h4⟩ | ⟨_, _, _, h3, h4⟩
    · exact ⟨h4 (by omega), by omega⟩
    · exact ⟨(h4 (by omega)).1, by omega⟩
   refine .same H ?_ (.ptr ⟨a.block, a.off, none⟩ _ hs cb.1) e2
   rw [jI ho hc]
   simp [builtin, ha, hx, Lib.run_unsafeSliceData_row (P := P) w _ _ a' l cr cb.2]
theorem Tj : ∀ {l : List Value} {k : List UInt8 → Bool}, RQ l k = true → ∃ m : List UInt8, l = m.map (fun c => Value.int .u8 c.toNat) ∧ k m = true
 | [], k, h => ⟨[], rfl, h⟩
 | v :: l, k, h => by
  obtain ⟨kd, n, ag, e1⟩ := lk (show jw v _ = true from h)
  subst ag
  cases n with
  | negSucc n => cases e1
  | ofNat n =>
   obtain ⟨e2, e3⟩ := bJ (show iff (eP kd .u8 && Nat.ble (Nat.succ n) 256) _ = true from e1)
   rw [Bool.and_eq_true] at e2
   obtain rfl := lZ e2.1
   have bz : n < 256 := Nat.le_of_ble_eq_true e2.2
   obtain ⟨m, h1, h2⟩ := Tj (l := l) e3
   refine ⟨UInt8.ofNat n :: m, ?_, h2⟩
   rw [h1]
   have : (UInt8.ofNat n).toNat = n := by simp [UInt8.toNat_ofNat']; omega
   simp [this]
theorem acB {lB : Array TypeId} {ty t : TypeId} (h0 : lB[0]? = some t) (z : Option Addr) (kd : IntKind) :
 (Builtin.unsafeString_ lB ty #[.pointer z, .int kd 0]).run P w = .ok (.string .empty) w := by
 have hm : IntKind.i64.max = 9223372036854775807 := rfl
 cases z <;> refine (Sem.run_bind P w (asInt (.int kd 0)) _).trans ?_ <;> simp [h0, asInt, asIntOf, hm]
theorem acC {lB : Array TypeId} {ty t e : TypeId} (h0 : lB[0]? = some t) (hp : P.underlying t = some (.pointer e)) (hc : P.cellsOf e = 1) (a : Addr) (cells : Nat) (hsh : w.shape? a.block = some (e, cells)) (l : List UInt8) (hl : l.length ≠ 0) (hn : a.off + l.length ≤ cells) (h63 : l.length ≤ 1048576) (kd : IntKind)
 (mh : ∀ j x, l[j]? = some x → w.cell? (a.add j) = some (.int .u8 x.toNat)) :
 (Builtin.unsafeString_ lB ty #[.pointer (some a), .int kd l.length]).run P w = .ok (.string ⟨l.toArray⟩) (w.freeze a l.length) := by
 have Ks := Lib.run_loadBytes (P := P) w l a .empty mh
 have acD : liesAt P P.depth e (cells / P.cellsOf e) a.off e l.length = true := by
  have hd : P.depth = (2 * (P.types.size + Made.depth) + 1) + 1 := rfl
  rw [hd]
  simp only [liesAt, Bool.or_eq_true]
  left
  rw [hd]
  have h1 : a.off + l.length ≤ cells / P.cellsOf e := by rw [hc]; simpa using hn
  rw [hc] at h1
  simp at h1
  simp [rowAt, hc, h1, sameLayout, Nat.mod_one]
 have DY : ¬ (9223372036854775807 : Int) < (l.length : Int) := by omega
 have Tk : IntKind.i64.max = 9223372036854775807 := rfl
 have acE : ¬ (l.length : Int) < 0 := by omega
 have fh : l ≠ [] := fun e => hl (by simp [e])
 refine (Sem.run_bind P w (asInt (.int kd l.length)) _).trans ?_
 simp [h0, asInt, asIntOf, Tk, DY, acE, fh, variablesAt, hsh, elemOf, run_underlying hp, acD, Ks]
theorem acF {ty n : Nat} {a : Addr} (e : RX ty n h k a = true) : ∃ lo hi c m aP, h.ob.get a.block = some (.cells lo hi ty true c) ∧ lo ≤ a.off ∧ a.off + n ≤ hi ∧ n ≤ 1048576 ∧ m.length = n ∧
 (∀ j x, m[j]? = some x → c.get (a.off + j) = some (.int .u8 (UInt8.toNat x))) ∧ h.ob.gP a.block (some (.cells lo hi ty false c)) aP ∧ k (.string ⟨⟨m⟩⟩) ⟨h.nx, aP⟩ = true := by
 cases a with
 | mk b off sp =>
  obtain ⟨lo, hi, bI, ll, c, g1, e2⟩ := qz (show ko h b _ = true from e)
  obtain ⟨g2, e3⟩ := bJ e2
  simp only [Bool.and_eq_true] at g2
  obtain ⟨⟨⟨⟨g2, g3⟩, g4⟩, g5⟩, g6⟩ := g2
  subst g2
  obtain rfl := Nat.eq_of_beq_eq_true g3
  obtain ⟨l, e4, g7, g8⟩ := DT _ e3
  obtain ⟨m, rfl, e5⟩ := Tj e4
  obtain ⟨aP, g9, e6⟩ := l5 e5
  refine ⟨lo, hi, c, m, aP, g1, Nat.le_of_ble_eq_true g4, Nat.le_of_ble_eq_true g5, Nat.le_of_ble_eq_true g6, by simpa using g7, fun j x hj => g8 j _ (by simp [hj]), g9, e6⟩
theorem aaX {c : Call} {x y : Operand} {t u : TypeId} (ho : o.op = .call c) (hc : c.callee = .builtin .unsafeString) (ha : c.args = #[x, y]) (h0 : c.argTypes[0]? = some t) (hu : P.underlying t = some (.pointer u)) (h1 : P.cellsOf u = 1) (H : HR P w0 φ h w) (hv : LR φ vs ([x, y].map ρ)) (e : RY u vs h k = true) : PR P w0 φ h ((execOp ρ o).run P w) fun v h' => k v h' = true := by
 obtain ⟨p, q, ag, e1⟩ := fF e; clear e; subst ag
 obtain ⟨p', q', hp, hr, hq⟩ := hv.two
 simp at hp; obtain ⟨e2, e3⟩ := hp; subst e2 e3
 obtain ⟨kd, n, ag, e2⟩ := pX e1; subst ag; clear e1
 have hn := hq.fo
 have Tk : IntKind.i64.max = 9223372036854775807 := rfl
 split at e2
 · rename_i q
   have hpx : ∃ z, ρ x = .pointer z := by
    cases q with
    | none => exact ⟨_, hr.acv⟩
    | some a => obtain ⟨a', hx, _⟩ := hr.ja; exact ⟨_, hx⟩
   obtain ⟨z, hz⟩ := hpx
   by_cases lq : n = 0
   · subst lq
     rw [jG rfl, cond_true] at e2
     refine .same H ?_ (.str _) e2
     rw [jI ho hc]
     have h00 := acB (P := P) (w := w) (ty := o.type) h0 z kd
     simp [builtin, ha, hz, hn, h00]
     rfl
   · rw [ep lq, cond_false] at e2
     cases q with
     | none => cases e2
     | some a =>
      obtain ⟨a', hx, hf, cb⟩ := hr.ja
      obtain ⟨lo, hi, cc, m, aP, g1, g2, g3, g4, g5, g6, g7, g8⟩ := acF e2
      subst g5
      obtain ⟨b, d, arr, fr, v1, v2, v3, v4, v5, v6, v7, v8, v9⟩ := H.at hf cb g1
      obtain rfl := v9 rfl
      have dW : a'.off + m.length ≤ arr.size := by
       obtain ⟨_, _, _, g, _⟩ := v7 (a.off + m.length - 1) (by omega) (by omega)
       have := (Array.getElem?_eq_some_iff.1 g).1
       omega
      have mh : ∀ j x, m[j]? = some x → w.cell? (a'.add j) = some (.int .u8 x.toNat) := fun j x hj => by
       have yr := (List.getElem?_eq_some_iff.1 hj).1
       obtain ⟨v', q1, q2⟩ := H.cell hf cb g1 (j := j) (by omega) (by omega) (g6 j x hj)
       rw [q1, q2.fo]
      have bF := acC (P := P) (w := w) (ty := o.type) h0 hu h1 a' arr.size (by simp [World.shape?, v2, v5]) m lq dW g4 kd mh
      have kS : (w.freeze a' m.length) = { w with heap := w.heap.modify a'.block fun
       | .cells c elem (lo, hi) => .cells c elem (if lo == hi then (a'.off, a'.off + m.length) else (min lo a'.off, max hi (a'.off + m.length)))
       | o => o } := by unfold World.freeze; rw [if_neg lq]; rfl
      refine ⟨_, w.freeze a' m.length, _, _, φ, .inl ?_, g8, Ext.refl _ _, Nat.le_refl _, .str _, ?_⟩
      · rw [jI ho hc]
        simp only [builtin, ha, List.map_toArray, List.map_cons, List.map_nil, hx, hn]
        rw [show (Int.ofNat m.length) = (m.length : Int) from rfl]
        simp [bF]
      · refine H.hZ (h' := ⟨h.nx, aP⟩) (o' := .cells arr u (a'.off, a'.off + m.length)) v1 g7 rfl (.cells _ _ _ _ _ _ _ _ _ (fun h => by cases h) v6 rfl v7) (v8 rfl) ?_ (fun k hk => ?_) ?_ ?_ ?_ ?_
        · rw [kS]; simp [Array.getElem?_modify, v2, v5]
        · rw [kS]; simp only [Array.getElem?_modify]; rw [if_neg (by rw [v2]; exact fun e => hk e.symm)]
        · rw [kS]; simp
        · rw [kS]
        · rw [kS]
        · rw [kS]
 · cases e2
theorem Tl : ∀ (l : List UInt8) {k : List Value → Bool}, JX l k = true → k (l.map fun c => .int .u8 (.ofNat c.toNat)) = true
 | [], k, h => h
 | c :: l, k, h => by
  have h' : fN c.toNat (fun n => JX l fun l => k (.int .u8 (.ofNat n) :: l)) = true := h
  rw [bH] at h'
  exact Tl l h'
theorem Tm (φ : ak) : ∀ l : List UInt8, LR φ (l.map fun c => .int .u8 (.ofNat c.toNat)) (l.map fun c => .int .u8 (.ofNat c.toNat))
 | [] => .nil
 | c :: l => .cons _ _ _ _ (.int _ _) (Tm φ l)
theorem aaV {c : Call} {s x : Operand} {t u e' : TypeId} {i : TypeInfo} {z : Value} (ho : o.op = .call c) (hc : c.callee = .builtin .append) (ha : c.args = #[s, x]) (h0 : c.argTypes[0]? = some t) (h1 : c.argTypes[1]? = some u) (ht : P.underlying t = some (.slice e')) (hu : P.underlying u = some .string)
 (hi : P.info? e' = some i) (hz : i.zero = some z) (tO : i.bytes ≤ 65536) (kN : z.cells.size = i.size) (dW : i.size = 1) (H : HR P w0 φ h w) (hv : LR φ vs ([s, x].map ρ)) (e : RR e' z.cells.toList vs h k = true) : PR P w0 φ h ((execOp ρ o).run P w) fun v h' => k v h' = true := by
 obtain ⟨p, q, ag, e1⟩ := fF e; clear e; subst ag; have e := e1; clear e1
 obtain ⟨p', q', hp, hr, hq⟩ := hv.two
 simp at hp; obtain ⟨e1, e2⟩ := hp; subst e1 e2
 have bF : ∀ {v' : Value} {w' : World}, (Builtin.append_ c.argTypes o.type #[ρ s, ρ x]).run P w = .ok v' w' → (execOp ρ o).run P w = .ok (.value v') w' := by
  intro v' w' hh
  rw [jI ho hc]
  simp [builtin, ha, hh]
 obtain ⟨str, ag, e1⟩ := jJ e; subst ag
 have hx := hq.iD
 have e2 := Tl _ e1
 rw [bH] at e2
 obtain ⟨_, e3⟩ := bJ e2
 refine Tn (p := p) (p' := ρ s) (q' := ρ x) (n := str.size) (xs := str.data.toList.map fun c => .int .u8 (.ofNat c.toNat)) bF h0 h1 ht (eu := 0) (.inr hu) hi hz tO kN (by omega) H hr (by rw [dW]; simp) (Tm φ _) ?_ (fun w' _ => ?_) ?_
 · rw [hx]; simp [Builtin.lenOf]
 · rw [hx]
   simp only [Builtin.firstCells, Sem.run_pure]
   congr 1
   apply Array.ext'
   simp
 · rw [dW]
   have hl : (str.data.toList.map fun c => Value.int .u8 (.ofNat c.toNat)).length = str.size := by simp
   rw [hl] at e3
   exact e3
theorem Kt : ∀ (l : List Nat) (n : Nat), oW l n = l.contains n
 | [], n => rfl
 | m :: l, n => by
  have h1 : oW (m :: l) n = bif Nat.beq m n then true else oW l n := rfl
  rw [h1, Kt l n, List.contains_cons]
  by_cases h : m = n
  · subst h; simp [jG]
  · rw [ep h]; simp [Ne.symm h]
theorem To : ∀ (l : List Nat) {n : Nat} {k : List Nat → Bool}, zp l n k = true → k (l ++ [n]) = true
 | [], n, k, h => h
 | x :: l, n, k, h => To l (show zp l n (fun l' => k (x :: l')) = true from h)
theorem Ku {since : Nat} {seen : List Nat} : ∀ (es : List (Value × Value × Nat)) {k : List (Value × Value × Nat) → Bool}, qt es since seen k = true → (∀ e ∈ es, e.2.2 < since) ∧ k (es.filter fun e => !seen.contains e.2.2) = true
 | [], k, h => ⟨fun e he => (by cases he), h⟩
 | e :: es, k, h => by
  obtain ⟨h1, h2⟩ := bJ (show iff (Nat.ble (Nat.succ e.2.2) since) (bif oW seen e.2.2 then qt es since seen k else qt es since seen fun l => k (e :: l)) = true from h)
  have h1 : e.2.2 < since := Nat.le_of_ble_eq_true h1
  rw [Kt] at h2
  cases hm : seen.contains e.2.2 with
  | true =>
   rw [hm, cond_true] at h2
   obtain ⟨h3, h4⟩ := Ku es h2
   refine ⟨fun x hx => ?_, ?_⟩
   · rcases List.mem_cons.1 hx with rfl | hx
     · exact h1
     · exact h3 x hx
   · rw [List.filter_cons_of_neg (by rw [hm]; simp)]; exact h4
  | false =>
   rw [hm, cond_false] at h2
   obtain ⟨h3, h4⟩ := Ku es h2
   refine ⟨fun x hx => ?_, ?_⟩
   · rcases List.mem_cons.1 hx with rfl | hx
     · exact h1
     · exact h3 x hx
   · rw [List.filter_cons_of_pos (by rw [hm]; rfl)]; exact h4
theorem Tp {go : Value → Value → Nat → Bool} : ∀ {l : List (Value × Value × Nat)}, rT go l = true → ∀ x ∈ l, go x.1 x.2.1 x.2.2 = true
 | [], _, x, hx => by cases hx
 | [(a, v, n)], h, x, hx => by
  rcases List.mem_cons.1 hx with rfl | hx
  · exact h
  · cases hx
 | (a, v, n) :: y :: l, h, x, hx => by
  obtain ⟨h1, h2⟩ := bJ (show iff (go a v n) (rT go (y :: l)) = true from h)
  rcases List.mem_cons.1 hx with rfl | hx
  · exact h1
  · exact Tp h2 x hx
theorem ER.filter {φ : ak} {p : Nat → Bool} : ∀ {l : List (Value × Value × Nat)} {l' : List MapEntry}, ER φ l l' → ER φ (l.filter fun e => p e.2.2) (l'.filter fun e => p e.born)
 | _, _, .nil => .nil
 | _, _, .cons a v b e l l' h1 h2 h3 h4 => by
  have ih := ER.filter (p := p) h4
  cases hp : p b with
  | true =>
   rw [List.filter_cons_of_pos (by simpa using hp), List.filter_cons_of_pos (by rw [h3]; exact hp)]
   exact .cons _ _ _ _ _ _ h1 h2 h3 ih
  | false =>
   rw [List.filter_cons_of_neg (by simpa using hp), List.filter_cons_of_neg (by rw [h3]; simpa using hp)]
   exact ih
theorem ER.mem {φ : ak} : ∀ {l : List (Value × Value × Nat)} {l' : List MapEntry}, ER φ l l' → ∀ e ∈ l', ∃ x ∈ l, VR φ x.1 e.key ∧ VR φ x.2.1 e.val ∧ e.born = x.2.2
 | _, _, .nil, e, he => by cases he
 | _, _, .cons a v b e l l' h1 h2 h3 h4, e', he => by
  rcases List.mem_cons.1 he with rfl | he
  · exact ⟨_, .head _, h1, h2, h3⟩
  · obtain ⟨x, q1, q2⟩ := ER.mem h4 e' he
    exact ⟨x, .tail _ q1, q2⟩
theorem mapOf (H : HR P w0 φ h w) {r r' : Nat} {es : List (Value × Value × Nat)} {cl : Nat} (hf : φ r ≠ none) (hr : ∀ b d n, φ r = some (.live b d n) → r' = b) (ho : h.ob.get r = some (.map es cl)) : ∃ bV, w.heap[r']? = some (.map bV cl) ∧ ER φ es bV.toList := by
 obtain ⟨b, d, n, o', m1, m2, m3, m4⟩ := H.live hf ho
 obtain rfl := hr b d n m1
 cases m3 with
 | map _ _ _ bV _ he => exact ⟨bV, m2, he⟩
theorem aaF {x : Operand} {t kt et : TypeId} (ho : o.op = .range t x) (hu : P.underlying t = some (.map kt et)) (H : HR P w0 φ h w) (hv : LR φ vs ([x].map ρ)) (e : R3 vs h k = true) : PR P w0 φ h ((execOp ρ o).run P w) fun v h' => k v h' = true := by
 obtain ⟨p, ag, e1⟩ := dO e; clear e; subst ag; have e := e1; clear e1
 obtain ⟨p', hp, hr⟩ := hv.one
 simp at hp; subst hp
 rcases CW e with ⟨ag, e1⟩ | ⟨r, ag, e1⟩ <;> (clear e; subst ag)
 · obtain ⟨aP, h1, h2⟩ := rz e1
   obtain ⟨g1, g2⟩ := H.newAt (f := h.nx) (o := .ei none 0 [] 0) (o' := .mapIter none 0 #[] 0) (d := 0) (n := 0) (h' := ⟨h.nx + 1, aP⟩) (H.fresh _ (Nat.le_refl _)) h1.1 (fun g hg _ => h1.2 g hg) (fun g hg => H.fresh g (by simp only at hg; omega)) (fun g hg => by rw [h1.2 g (by simp only at hg; omega)]; exact H.top g (by simp only at hg; omega)) (by simp) _ (Nat.le_refl _)
    (.ei _ none none _ _ _ (fun _ => rfl) (fun r hr => by cases hr))
   refine ⟨_, _, _, _, _, .inl ?_, h2, g2, by simp, PR.vX, g1⟩
   simp only [execOp, ho, hr.IB]
   simp [run_range_nilMap w t kt et hu]
 · obtain ⟨r', hx, hf, qA⟩ := hr.CX
   obtain ⟨es, cl, h3, e2⟩ := tP e1
   obtain ⟨bV, m1, m2⟩ := mapOf H hf qA h3
   obtain ⟨aP, h1, h2⟩ := rz e2
   obtain ⟨g1, g2⟩ := H.newAt (f := h.nx) (o := .ei (some r) cl [] cl) (o' := .mapIter (some r') cl #[] cl) (d := 0) (n := 0) (h' := ⟨h.nx + 1, aP⟩) (H.fresh _ (Nat.le_refl _)) h1.1 (fun g hg _ => h1.2 g hg) (fun g hg => H.fresh g (by simp only at hg; omega)) (fun g hg => by rw [h1.2 g (by simp only at hg; omega)]; exact H.top g (by simp only at hg; omega)) (by simp) _ (Nat.le_refl _)
    (.ei _ _ _ _ _ _ (fun h => by cases h) (fun r0 qg => by cases qg; exact ⟨r', rfl, hf, qA⟩))
   refine ⟨_, _, _, _, _, .inl ?_, h2, g2, by simp, PR.vX, g1⟩
   simp only [execOp, ho, hx]
   simp [run_range_map w t kt et r' bV cl hu m1]
theorem Tq (H : HR P w0 φ h w) {a a' : Addr} {m : Option Nat} {since last : Nat} {seen : List Nat} (hf : φ a.block ≠ none) (cb : AtR φ a a') (h0 : a.off = 0) (ho : h.ob.get a.block = some (.ei m since seen last)) :
 ∃ b d n m', φ a.block = some (.live b d n) ∧ a' = ⟨b, 0, none⟩ ∧ d = 0 ∧ w.heap[b]? = some (.mapIter m' since seen.toArray last) ∧ w0.heap.size ≤ b ∧ (m = none → m' = none) ∧ ∀ r, m = some r → ∃ r', m' = some r' ∧ φ r ≠ none ∧ ∀ b d n, φ r = some (.live b d n) → r' = b := by
 obtain ⟨b, d, n, o', m1, m2, m3, m4⟩ := H.live hf ho
 obtain ⟨q1, q2, q3⟩ := cb b d n m1
 cases m3 with
 | ei _ _ m' _ _ _ z0 z1 =>
  refine ⟨b, 0, n, m', m1, ?_, rfl, m2, m4 rfl, z0, z1⟩
  cases a'; simp_all
theorem aaG {x : Operand} (ho : o.op = .next x false) (H : HR P w0 φ h w) (hv : LR φ vs ([x].map ρ)) (e : R4 vs h k = true) : PR P w0 φ h ((execOp ρ o).run P w) fun v h' => k v h' = true := by
  obtain ⟨p, ag, e1⟩ := dO e; clear e; subst ag; have e := e1; clear e1
  obtain ⟨p', hp, hr⟩ := hv.one
  simp at hp; subst hp
  obtain ⟨a, ag, e1⟩ := j6 e; clear e; subst ag; have e := e1; clear e1
  obtain ⟨a', hx, hs, cb⟩ := hr.ja
  obtain ⟨h0, e1⟩ := bJ e
  have h0 := Nat.eq_of_beq_eq_true h0
  obtain ⟨m, since, seen, last, g1, g2⟩ := Td e1
  obtain ⟨b, d, n, m', z1, rfl, rfl, z2, z3, z4, z5⟩ := Tq H hs cb h0 g1
  cases m with
  | none =>
    obtain rfl := z4 rfl
    refine .same H ?_ (.eW _ _ (.cons _ _ _ _ (.bool false) .nil)) g2
    simp only [execOp, ho, hx]
    simp only [Instr.next, getObj, Sem.run_bind, Sem.run, z2, Result.andThen]
    rfl
  | some r =>
    obtain ⟨r', rfl, hf, qA⟩ := z5 r rfl
    obtain ⟨es, cl, h3, e2⟩ := tP (show iF h r _ = true from g2)
    obtain ⟨bV, m1, m2⟩ := mapOf H hf qA h3
    obtain ⟨e3, e4⟩ := bJ e2
    rw [Bool.and_eq_true] at e3
    obtain rfl : cl = since := Nat.eq_of_beq_eq_true e3.1
    obtain rfl : last = cl := Nat.eq_of_beq_eq_true e3.2
    obtain ⟨u1, u2⟩ := Ku _ e4
    have hold : ∀ x ∈ bV.toList, x.born < last := fun x hx => by
      obtain ⟨y, y1, _, _, y2⟩ := m2.mem x hx
      rw [y2]; exact u1 y y1
    have zH : ER φ (es.filter fun e => !seen.contains e.2.2) (leftOf bV seen.toArray).toList := by
      have := ER.filter (p := fun n => !seen.contains n) m2
      unfold leftOf
      rw [Array.toList_filter]
      simpa using this
    rcases run_next_at (P := P) w o.type b r' last last seen.toArray bV last z2 m1 hold (Nat.le_refl _) with ⟨q1, q2⟩ | ⟨en, q1, w1, q2, q3⟩
    · have ze : (es.filter fun e => !seen.contains e.2.2) = [] := by
        have : (leftOf bV seen.toArray).toList = [] := by simpa using q1
        rw [this] at zH
        revert zH
        generalize (es.filter fun e => !seen.contains e.2.2) = L
        intro zH
        cases zH; rfl
      rw [ze] at u2
      obtain ⟨aP, k1, k2⟩ := l5 (show ff h a.block none _ = true from u2)
      refine ⟨_, w, _, _, _, .inl ?_, k2, ak.Dk φ _ _ hs, Nat.le_refl _, .eW _ _ (.cons _ _ _ _ (.bool false) .nil), H.kill (h' := ⟨h.nx, aP⟩) hs k1 rfl⟩
      simp only [execOp, ho, hx]
      simp [q2]
    · obtain ⟨y, y1, y2, y3, y4⟩ := zH.mem en q1
      have eO : rT (DB h a.block r last seen k) (es.filter fun e => !seen.contains e.2.2) = true := by
        revert u2
        cases (es.filter fun e => !seen.contains e.2.2) with
        | nil => intro _; rfl
        | cons x l => intro h; exact h
      have h5 := To _ (show zp seen y.2.2 _ = true from Tp eO y y1)
      obtain ⟨aP, k1, k2⟩ := l5 h5
      have H1 : HR P w0 φ h w1 := by rcases q2 with rfl | rfl; exact H; exact H.drew
      have hh : w1.heap = w.heap := by rcases q2 with rfl | rfl <;> rfl
      have bz : b < w1.heap.size := by rw [hh]; exact (Array.getElem?_eq_some_iff.1 z2).1
      refine ⟨_, ChangeMaps.setBlock w1 b (.mapIter (some r') last (seen.toArray.push en.born) last), _, _, φ, .inl ?_, k2, Ext.refl _ _, Nat.le_refl _, .eW _ _ (.cons _ _ _ _ (.bool true) (.cons _ _ _ _ y2 (.cons _ _ _ _ y3 .nil))), ?_⟩
      · simp only [execOp, ho, hx]
        simp [q3]
      · refine H1.hZ (h' := ⟨h.nx, aP⟩) (o' := .mapIter (some r') last (seen.toArray.push en.born) last) z1 k1 rfl ?_ z3 (by simp [ChangeMaps.setBlock, bz]) (fun k hk => by simp [ChangeMaps.setBlock, Ne.symm hk]) (by simp [ChangeMaps.setBlock]) rfl rfl rfl
        have : seen.toArray.push en.born = (seen ++ [y.2.2]).toArray := by simp [y4]
        rw [this]
        exact .ei _ _ _ _ _ _ (fun h => by cases h) (fun r0 qg => by cases qg; exact ⟨r', rfl, hf, qA⟩)
theorem Tr : ∀ {l : List Nat} {k : Nat → Bool}, ue l k = true → ∃ n, l.getLast? = some n ∧ k n = true
 | [], k, h => by cases h
 | [n], k, h => ⟨n, rfl, h⟩
 | _ :: y :: l, k, h => by
  obtain ⟨n, h1, h2⟩ := Tr (l := y :: l) (show ue (y :: l) k = true from h)
  exact ⟨n, by rw [List.getLast?_cons_cons]; exact h1, h2⟩
theorem Ts {n : Nat} {k : Value → Value → Bool} : ∀ {es : List (Value × Value × Nat)} {bV : List MapEntry}, ER φ es bV → rU es n k = true → ∃ a v e, bV.find? (·.born == n) = some e ∧ VR φ a e.key ∧ VR φ v e.val ∧ k a v = true
 | _, _, .nil, h => by cases h
 | _, _, .cons a v b e l l' h1 h2 h3 h4, h => by
  have h' : (bif Nat.beq b n then k a v else rU l n k) = true := h
  by_cases hb : b = n
  · subst hb
    rw [jG rfl, cond_true] at h'
    exact ⟨a, v, e, by simp [h3], h1, h2, h'⟩
  · rw [ep hb, cond_false] at h'
    obtain ⟨a', v', e', q1, q2⟩ := Ts h4 h'
    refine ⟨a', v', e', ?_, q2⟩
    rw [List.find?_cons_of_neg (by rw [h3]; simpa using hb)]
    exact q1
theorem aaH {x : Operand} (ho : o.op = .entry x) (H : HR P w0 φ h w) (hv : LR φ vs ([x].map ρ)) (e : R5 vs h k = true) : PR P w0 φ h ((execOp ρ o).run P w) fun v h' => k v h' = true := by
 obtain ⟨p, ag, e1⟩ := dO e; clear e; subst ag; have e := e1; clear e1
 obtain ⟨p', hp, hr⟩ := hv.one
 simp at hp; subst hp
 obtain ⟨a, ag, e1⟩ := j6 e; clear e; subst ag; have e := e1; clear e1
 obtain ⟨a', hx, hs, cb⟩ := hr.ja
 obtain ⟨h0, e1⟩ := bJ e
 have h0 := Nat.eq_of_beq_eq_true h0
 obtain ⟨m, since, seen, last, g1, g2⟩ := Td e1
 obtain ⟨b, d, n, m', z1, rfl, rfl, z2, z3, z4, z5⟩ := Tq H hs cb h0 g1
 cases m with
 | none => cases g2
 | some r =>
  obtain ⟨r', rfl, hf, qA⟩ := z5 r rfl
  obtain ⟨es, cl, h3, e2⟩ := tP (show iF h r _ = true from g2)
  obtain ⟨bV, m1, m2⟩ := mapOf H hf qA h3
  obtain ⟨e3, e4⟩ := bJ e2
  obtain rfl : cl = last := Nat.eq_of_beq_eq_true e3
  obtain ⟨st, s1, e5⟩ := Tr e4
  obtain ⟨ka, va, en, s2, s3, s4, e6⟩ := Ts m2 e5
  refine .same H (v' := .tuple #[en.key, en.val]) ?_ (.eW _ _ (.cons _ _ _ _ s3 (.cons _ _ _ _ s4 .nil))) e6
  have acG : bV.find? (·.born == st) = some en := by rw [← Array.find?_toList]; exact s2
  have nP : seen.toArray.back? = some st := by simpa using s1
  simp only [execOp, ho, hx]
  simp only [Instr.entry, getObj, Sem.run_bind, Sem.run, z2, m1, Result.andThen, nP, bne_self_eq_false, Bool.false_eq_true, if_false, acG]
  rfl
end
end Go.Ve
namespace Go.Ve
open Go.RowKit
section
variable {P : Program} {w0 w : World} {φ : ak} {h : AH} {ρ : Operand → Value} {o : Oper} {vs : List Value} {k : KV}
theorem QC (hρ : ∀ g, ρ (.func g) = .func (.func g) #[] #[]) {p : Prim} {xs : List Operand} (hc : kO P o = some (.aA p, xs)) (H : HR P w0 φ h w) (hv : LR φ vs (xs.map ρ)) (e : p.ev vs h k = true) : PR P w0 φ h ((execOp ρ o).run P w) fun v h' => k v h' = true := by
 cases aM : o.op <;> simp only [kO, aM] at hc
 case move x => cases hc; exact QD (.inl aM) H hv e
 case assign x => cases hc; exact QD (.inr aM) H hv e
 case pick c a b => cases hc; exact aab aM H hv e
 case alloc ty => split at hc <;> cases hc; exact aac aM (by assumption) H e
 case box ty x => cases hc; exact aad aM H hv e
 case build t parts =>
  split at hc
  · rename_i fs z hu hz
    split at hc
    · rename_i eO
      split at hc
      · rename_i ps ew
        cases hc
        exact Z7 aM hu hz (fun f hf => List.all_eq_true.1 eO f hf) ew H hv e
      · cases hc
    · cases hc
  · rename_i n e' z hu hz
    split at hc
    · rename_i s hs
      cases hc
      exact Z9 aM hu hz hs H hv e
    · cases hc
  · cases hc
 case buildSlice t len parts =>
  split at hc
  · rename_i e' hu
    split at hc
    · rename_i s z hs hz
      split at hc
      · rename_i hg
        cases hc
        simp only [Bool.and_eq_true, decide_eq_true_eq, beq_iff_eq] at hg
        exact aaa aM hu hz hs hg.1.1 hg.1.2 hg.2 H hv e
      · cases hc
    · cases hc
  · cases hc
 case load t a =>
  split at hc
  · rename_i d s hu hs
    split at hc
    · cases hc; exact aae aM hu (by assumption) hs H hv e
    · rename_i hd; cases hc; exact aaf aM hu (by simpa using hd) H hv e
  · cases hc
 case store t a v =>
  split at hc
  · cases hc; exact aag aM (by assumption) H hv e
  · cases hc
 case nilCheck x => cases hc; exact aah aM H hv e
 case fieldAddr s x f =>
  split at hc
  · rename_i fs hu
    split at hc
    · rename_i fl hf
      split at hc
      · rename_i sz hs
        split at hc
        · cases hc
        · rename_i cG; cases hc; exact aai aM hu hf hs cG H hv e
      · cases hc
    · cases hc
  · cases hc
 case field s x f =>
  split at hc
  · rename_i fs hu
    split at hc
    · rename_i fl hf
      split at hc
      · rename_i d sz hd hs
        split at hc
        · cases hc; exact aaj aM hu hf hd (by assumption) hs H hv e
        · rename_i hn; cases hc; exact aak aM hu hf hd (by simpa using hn) H hv e
      · cases hc
    · cases hc
  · cases hc
 case indexAddr t x i =>
  split at hc
  · split at hc
    · cases hc; exact aal aM (by assumption) (by assumption) H hv e
    · cases hc
  · split at hc
    · cases hc; exact aam aM (by assumption) (by assumption) H hv e
    · cases hc
  · cases hc
 case index t x i =>
  split at hc
  · rename_i len e' hu
    split at hc
    · rename_i d s hd hs
      split at hc
      · cases hc; exact aan aM hu hd (by assumption) hs H hv e
      · rename_i hn
        split at hc
        · rename_i h1; subst h1; cases hc; exact aao aM hu hd (by simpa using hn) hs H hv e
        · cases hc
    · cases hc
  · cases hc; exact aap aM (by assumption) H hv e
  · cases hc
 case slice t x lo hi mx =>
  split at hc
  · split at hc
    · split at hc
      · rename_i hg
        cases hc
        simp only [Bool.and_eq_true, decide_eq_true_eq, Bool.or_eq_true, Bool.not_eq_true'] at hg
        exact aaq aM (by assumption) (by assumption) hg.1 (fun hm => by rcases hg.2 with h2 | h2 <;> simp_all) H hv e
      · cases hc
    · cases hc
  · split at hc
    · split at hc
      · rename_i hg
        cases hc
        simp only [Bool.or_eq_true, Bool.not_eq_true'] at hg
        exact aar aM (by assumption) (by assumption) (fun hm => by rcases hg with h2 | h2 <;> simp_all) H hv e
      · cases hc
    · cases hc
  · split at hc
    · cases hc
    · rename_i hmx
      cases hc
      have yA : mx = none := by cases mx <;> simp_all
      subst yA
      exact aas aM (by assumption) H hv e
  · cases hc
 case binOp op t x y u =>
  split at hc
  · cases hc; exact aat aM H hv e
  · split at hc <;> cases hc <;> first | exact aau aM H hv e | exact aav aM H hv e | exact aaw aM H hv e
  · rename_i hu
    split at hc <;> cases hc
    · exact QE aM (.inl ⟨rfl, rfl⟩) hu H hv e
    · exact QE aM (.inr ⟨rfl, rfl⟩) hu H hv e
  · rename_i fs hu
    split at hc
    · rename_i hg
      simp only [Bool.and_eq_true, Bool.not_eq_true'] at hg
      split at hc <;> cases hc
      · exact QF aM (.inl ⟨rfl, rfl⟩) hu hg.1 hg.2 (by assumption) H hv e
      · exact QF aM (.inr ⟨rfl, rfl⟩) hu hg.1 hg.2 (by assumption) H hv e
    · cases hc
  · rename_i hu
    split at hc
    · split at hc <;> cases hc
      · exact nO aM (.inl ⟨rfl, rfl⟩) hu rfl (fun h => by cases h) H hv e
      · exact nO aM (.inr ⟨rfl, rfl⟩) hu rfl (fun h => by cases h) H hv e
    · split at hc <;> cases hc
      · exact QG aM (.inl ⟨rfl, rfl⟩) hu (by assumption) H hv e
      · exact QG aM (.inr ⟨rfl, rfl⟩) hu (by assumption) H hv e
  · rename_i hu
    split at hc <;> cases hc
    · exact nO aM (.inl ⟨rfl, rfl⟩) hu rfl (fun h => by cases h) H hv e
    · exact nO aM (.inr ⟨rfl, rfl⟩) hu rfl (fun h => by cases h) H hv e
  · rename_i hu
    split at hc <;> cases hc
    · exact nO aM (.inl ⟨rfl, rfl⟩) hu rfl (fun h => by cases h) H hv e
    · exact nO aM (.inr ⟨rfl, rfl⟩) hu rfl (fun h => by cases h) H hv e
  · rename_i hu
    split at hc <;> cases hc
    · exact nO aM (.inl ⟨rfl, rfl⟩) hu rfl (fun h => by cases h) H hv e
    · exact nO aM (.inr ⟨rfl, rfl⟩) hu rfl (fun h => by cases h) H hv e
  · rename_i hu
    split at hc
    · rename_i QH
      split at hc <;> cases hc
      · exact nO aM (.inl ⟨rfl, rfl⟩) hu rfl (fun _ => QH) H hv e
      · exact nO aM (.inr ⟨rfl, rfl⟩) hu rfl (fun _ => QH) H hv e
    · cases hc
  · cases hc
 case unOp op t x =>
  split at hc <;> cases hc
  · exact aax aM H hv e
  · exact aay aM H hv e
 case convert s t x =>
  split at hc
  · cases hc; exact aaz aM (by assumption) (by assumption) H hv e
  · split at hc
    · split at hc
      · cases hc
      · cases hc; exact aaA aM (by assumption) (by assumption) (by assumption) (by assumption) H hv e
    · cases hc
  · split at hc
    · cases hc; exact aaB aM (by assumption) (by assumption) (by assumption) H hv e
    · cases hc
  · cases hc
 case makeInterface t x =>
  split at hc
  · cases hc
  · cases hc
  · rename_i QI wb
    cases hc
    refine aaC aM ?_ H hv e
    unfold Program.concrete
    cases hu : P.underlying t with
    | none => exact absurd hu wb
    | some d => cases d <;> first | rfl | exact absurd hu (QI _)
 case makeFunc fn first bw =>
  split at hc <;> cases hc
  · exact QJ aM (fun _ => .func _) H hv e
  · exact QJ aM (fun _ => .method _) H hv e
 case makeMap t r =>
  split at hc <;> cases hc
  exact aaD aM H e
 case makeSlice t l c =>
  split at hc
  · rename_i e' hu
    split at hc
    · rename_i i z hi hz
      split at hc
      · rename_i hg
        cases hc
        simp only [Bool.and_eq_true, decide_eq_true_eq, beq_iff_eq] at hg
        obtain ⟨i2, er, yB, ej⟩ := mC hz
        rw [hi] at er; cases er
        exact ZV aM hu hi yB ej hg.1.2 hg.2 hg.1.1 H hv e
      · cases hc
    · cases hc
  · cases hc
 case lookup t m x ok =>
  split at hc
  · rename_i hu
    split at hc
    · cases hc; exact ZW aM hu (by assumption) (by assumption) H hv e
    · cases hc
  · cases hc
 case mapUpdate t m x v =>
  split at hc
  · rename_i hu
    split at hc
    · cases hc; exact Qo (.inl aM) hu (by assumption) H hv e
    · cases hc
  · cases hc
 case insert t m x v =>
  split at hc
  · rename_i hu
    split at hc
    · cases hc; exact Qo (.inr aM) hu (by assumption) H hv e
    · cases hc
  · cases hc
 case extract x i => cases hc; exact aaE aM H hv e
 case typeAssert x xt t ok =>
  split at hc
  · cases hc
  · rename_i d z hni hu hz
    split at hc
    · rename_i ej
      subst ej
      cases hc
      exact Z2 aM hu (fun m hm => hni m hm) hz H hv e
    · cases hc
  · cases hc
 case range t x =>
  split at hc <;> cases hc
  · exact Z3 aM (by assumption) H hv e
  · exact aaF aM (by assumption) H hv e
 case next x s =>
  split at hc
  · rename_i hs; subst hs; cases hc; exact Z4 aM H hv e
  · rename_i hs; cases hc; exact aaG (by rw [aM]; simpa using hs) H hv e
 case entry x => cases hc; exact aaH aM H hv e
 case call c =>
  have wc : ∀ {x : Operand}, c.args.toList = [x] → c.args = #[x] := fun h => by apply Array.ext'; simpa using h
  have we : ∀ {x y : Operand}, c.args.toList = [x, y] → c.args = #[x, y] := fun h => by apply Array.ext'; simpa using h
  split at hc
  · rename_i g cZ
    split at hc
    · rename_i fn hf
      split at hc
      · cases hc
      · split at hc
        · rename_i hb
          rw [Bool.and_eq_true, Option.isNone_iff_eq_none] at hb
          have hx : ∀ {e : Array Value → Sem Value}, (fn.name == "runtime.NumGoroutine") = false → Extern.find fn = some e → ∀ v, (e (c.args.map ρ)).run P w = .ok v w → (execOp ρ o).run P w = .ok (.value v) w := fun h1 h2 v h3 => aaI aM cZ (hρ g) hf h1 (Option.isNone_iff_eq_none.2 hb.1) (Option.isNone_iff_eq_none.1 hb.2) h2 h3
          split at hc
          · rename_i hn
            have hn : fn.name = "internal/abi.NoEscape" := by simpa using hn
            cases hc; exact aaJ (hx (by rw [hn]; decide) (aaK hn)) rfl H hv e
          · split at hc
            · rename_i hn
              have hn : fn.name = "internal/bytealg.CountString" := by simpa using hn
              cases hc; exact aaL (hx (by rw [hn]; decide) (aaM hn)) rfl H hv e
            · split at hc
              · rename_i hn
                have hn : fn.name = "internal/bytealg.IndexByteString" := by simpa using hn
                cases hc; exact aaN (hx (by rw [hn]; decide) (aaO hn)) rfl H hv e
              · cases hc
        · cases hc
    · cases hc
  · cases hc
  · cases hc
  · rename_i b cZ
    split at hc
    · split at hc
      · rename_i hx ht
        split at hc <;> cases hc
        · exact aaP aM cZ (wc hx) ht (by assumption) H hv e
        · exact aaQ aM cZ (wc hx) ht (by assumption) H hv e
        · exact aaR aM cZ (wc hx) ht (by assumption) H hv e
        · exact aaS aM cZ (wc hx) ht (by assumption) H e
      · cases hc
    · split at hc
      · rename_i hx ht
        split at hc <;> cases hc
        exact aaT aM cZ (wc hx) ht (by assumption) H hv e
      · cases hc
    · split at hc
      · rename_i hx ht hu
        split at hc
        · rename_i yC jL
          split at hc
          · rename_i i z hi hz
            split at hc
            · rename_i hg
              cases hc
              simp only [Bool.and_eq_true, decide_eq_true_eq, beq_iff_eq] at hg
              obtain ⟨i2, er, yB, ej⟩ := mC hz
              rw [hi] at er; cases er
              exact aaU aM cZ (we hx) ht hu yC jL hi yB hg.1.2 hg.2 hg.1.1 H hv e
            · cases hc
          · cases hc
        · rename_i yC jL
          split at hc
          · rename_i i z hi hz
            split at hc
            · rename_i hg
              cases hc
              simp only [Bool.and_eq_true, decide_eq_true_eq, beq_iff_eq] at hg
              obtain ⟨i2, er, yB, ej⟩ := mC hz
              rw [hi] at er; cases er
              exact aaV aM cZ (we hx) ht hu yC jL hi yB hg.1.2 (by rw [hg.2, hg.1.1]) hg.1.1 H hv e
            · cases hc
          · cases hc
        · cases hc
      · cases hc
    · split at hc
      · rename_i hx ht
        split at hc
        · rename_i yC
          split at hc
          · rename_i sz hs
            cases hc
            obtain ⟨i, hi, rfl⟩ := j7 hs
            exact ZO aM cZ (we hx) ht yC hi H hv e
          · cases hc
        · cases hc
      · cases hc
    · split at hc
      · rename_i hx; cases hc; exact ZM aM cZ (we hx) H hv e
      · cases hc
    · split at hc
      · rename_i hx; cases hc; exact ZN aM cZ (we hx) H hv e
      · cases hc
    · split at hc <;> cases hc
    · split at hc
      · rename_i hx; cases hc; exact aaW aM cZ (wc hx) H hv e
      · cases hc
    · split at hc
      · rename_i hx ht
        split at hc
        · rename_i hu
          split at hc
          · cases hc; exact aaX aM cZ (we hx) ht hu (by assumption) H hv e
          · cases hc
        · cases hc
      · cases hc
    · split at hc <;> cases hc
    · cases hc
 all_goals first
  | cases hc
  | (split at hc <;> cases hc)
end
end Go.Ve
namespace Go.Ve
open Go.RowKit
def qc (φ : ak) (rc : Rc) (b : Frame) (cs0 cs : List Frame) : Prop := match rc with
 | .off => cs = cs0 ∧ (b.kind = .normal ∨ (b.kind = .deferred ∧ ∃ c rest, cs0 = c :: rest ∧ c.mode = .returning))
 | .can v => cs = cs0 ∧ b.kind = .deferred ∧ ∃ c rest v', cs0 = c :: rest ∧ c.mode = .panicking [{ v := v', recovered := false }] ∧ VR φ v v'
 | .j8 => b.kind = .deferred ∧ ∃ c rest v', cs0 = c :: rest ∧ c.mode = .panicking [{ v := v', recovered := false }] ∧ cs = { c with mode := .panicking [{ v := v', recovered := true }] } :: rest
def kP (φ : ak) (e : Env) (b : Frame) : Prop := b.fn = e.fn ∧ match e.rE with
 | none => b.roundOf = none
 | some l => b.kind = .normal ∧ ∃ l', b.roundOf = some l' ∧ φ l ≠ none ∧ ∀ bl d n, φ l = some (.live bl d n) → l' = bl
structure SQ (P : Program) (w0 : World) (φ : ak) (s : St) (b : Frame) (cs0 cs : List Frame) (a : Act) (w : World) : Prop where
 df : DL φ s.df a.defers
 rc : qc φ s.rc b cs0 cs
 heap : HR P w0 φ s.h w
structure SR (P : Program) (w0 : World) (φ : ak) (e : Env) (s : St) (b : Frame) (cs0 cs : List Frame) (a : Act) (w : World) : Prop extends SQ P w0 φ s b cs0 cs a w where
 tm : TR φ s.tm e.nt a.tmps
theorem qc.ext {N : Nat} {φ φ' : ak} (h : Ext N φ φ') {rc : Rc} {b : Frame} {cs0 cs : List Frame} (hr : qc φ rc b cs0 cs) : qc φ' rc b cs0 cs := by
 cases rc with
 | off => exact hr
 | can v => obtain ⟨h1, h2, c, rest, v', h3, h4, h5⟩ := hr; exact ⟨h1, h2, c, rest, v', h3, h4, VR.ext h h5⟩
 | j8 => exact hr
theorem kP.ext {N : Nat} {φ φ' : ak} (h : Ext N φ φ') {e : Env} {b : Frame} (he : kP φ e b) : kP φ' e b := by
 obtain ⟨h1, h2⟩ := he
 refine ⟨h1, ?_⟩
 cases hr : e.rE with
 | none => rw [hr] at h2; exact h2
 | some l =>
  rw [hr] at h2
  obtain ⟨h3, l', h4, h5, h6⟩ := h2
  exact ⟨h3, l', h4, h.bS h5, fun bl d n hl => h6 bl d n (h.live h5 hl)⟩
section
variable {P : Program} {b : Frame} {a : Act} {k : List Item} {cs : List Frame} {w : World} {ops : Array Oper} {i : Nat} {rest : List Nat} {o : Oper}
theorem II (ho : ops[i]? = some o) (hw : Region.wanted o (yielded ops a.tmps) = true) {v : Value} {w' : World} (hr : (o.semAt b.roundOf a.eval).run P w = .ok (.value v) w') :
 step P (lone (b.atR a (.inRegion ops (i :: rest) :: k)) cs w) = .next (lone (b.atR (a.put o.dst v) (.inRegion ops rest :: k)) cs w') := by
 have hf := Frame.finish_atR b a ops i rest k v
 rw [ho] at hf
 rw [show a.put o.dst v = a.put ((some o).bind (·.dst)) v from rfl, ← hf]
 exact step_lone_go (by rw [stepGR_op ho hw]; simp [stepG.apply, hr])
theorem QK (ho : ops[i]? = some o) (hw : Region.wanted o (yielded ops a.tmps) = true) {w' : World} (hr : (o.semAt b.roundOf a.eval).run P w = .ok .skip w') :
 step P (lone (b.atR a (.inRegion ops (i :: rest) :: k)) cs w) = .next (lone (b.atR (a.put o.dst undef) (.inRegion ops rest :: k)) cs w') := by
 have hf := Frame.finish_atR b a ops i rest k undef
 rw [ho] at hf
 rw [show a.put o.dst undef = a.put ((some o).bind (·.dst)) undef from rfl, ← hf]
 exact step_lone_go (by rw [stepGR_op ho hw]; simp [stepG.apply, hr])
theorem aaY (ho : ops[i]? = some o) (hw : Region.wanted o (yielded ops a.tmps) = true) {f : FuncId} {args : Array Value} {w' : World} (hr : (o.semAt b.roundOf a.eval).run P w = .ok (.enter f args) w') :
 step P (lone (b.atR a (.inRegion ops (i :: rest) :: k)) cs w) = .next (lone (Frame.enter P f args .normal) (b.atR a (.inRegion ops (i :: rest) :: k) :: cs) w') :=
 step_lone_go (by rw [stepGR_op ho hw]; simp [stepG.apply, hr, Frame.atR])
theorem aaZ (ho : ops[i]? = some o) (hw : Region.wanted o (yielded ops a.tmps) = true) {l : Nat} {f : FuncId} {tmps : Array Value} {as bd : Code} {w' : World} (hr : (o.semAt b.roundOf a.eval).run P w = .ok (.round l f tmps as bd) w') :
 step P (lone (b.atR a (.inRegion ops (i :: rest) :: k)) cs w) = .next (lone (Frame.round l f tmps as bd .normal) (b.atR a (.inRegion ops (i :: rest) :: k) :: cs) w') :=
 step_lone_go (by rw [stepGR_op ho hw]; simp [stepG.apply, hr, Frame.atR])
theorem aa0 (ho : ops[i]? = some o) (hw : Region.wanted o (yielded ops a.tmps) = true) {d : Deferred} {w' : World} (hr : (o.semAt b.roundOf a.eval).run P w = .ok (.defer d) w') :
 step P (lone (b.atR a (.inRegion ops (i :: rest) :: k)) cs w) = .next (lone (b.atR (({ a with defers := d :: a.defers } : Act).put o.dst undef) (.inRegion ops rest :: k)) cs w') := by
 have hf := Frame.finish_atR b { a with defers := d :: a.defers } ops i rest k undef
 rw [ho] at hf
 rw [show ({ a with defers := d :: a.defers } : Act).put o.dst undef = ({ a with defers := d :: a.defers } : Act).put ((some o).bind (·.dst)) undef from rfl, ← hf]
 exact step_lone_go (by rw [stepGR_op ho hw]; simp [stepG.apply, hr, Frame.atR])
theorem aa1 (ho : ops[i]? = some o) (hw : Region.wanted o (yielded ops a.tmps) = true) {v : Value} {w' : World} (hr : (o.semAt b.roundOf a.eval).run P w = .halt (.panic v) w') :
 step P (lone (b.atR a (.inRegion ops (i :: rest) :: k)) cs w) = .next (lone { b.atR a (.inRegion ops (i :: rest) :: k) with mode := .panicking [{ v, recovered := false }] } cs w') := by
 rw [← Frame.raise_atR]
 exact step_lone_go (by rw [stepGR_op ho hw]; simp [stepG.apply, hr])
theorem QL (hb : b.roundOf = none) (ho : ops[i]? = some o) (hw : Region.wanted o (yielded ops a.tmps) = true) {w' : World} (hr : (o.semAt b.roundOf a.eval).run P w = .ok .recover w') {v : Value} {bO : List Frame}
 (ht : (tryRecover (b.atR a (.inRegion ops (i :: rest) :: k)) cs = some (v, bO)) ∨ (tryRecover (b.atR a (.inRegion ops (i :: rest) :: k)) cs = none ∧ v = .nilIface ∧ bO = cs)) :
 step P (lone (b.atR a (.inRegion ops (i :: rest) :: k)) cs w) = .next (lone (b.atR (a.put o.dst v) (.inRegion ops rest :: k)) bO w') := by
 have hf := Frame.finish_atR b a ops i rest k v
 rw [ho] at hf
 rw [show a.put o.dst v = a.put ((some o).bind (·.dst)) v from rfl, ← hf]
 refine step_lone_go ?_
 rw [stepGR_op ho hw]
 have bG : (b.atR a (.inRegion ops (i :: rest) :: k)).roundOf = none := hb
 rcases ht with ht | ⟨ht, rfl, rfl⟩
 · simp [stepG.apply, hr, bG, ht]
 · simp [stepG.apply, hr, bG, ht]
end
def yD (φ : ak) (r : CR) (E : Ending) : Prop := match r with
 | .ret v => ∃ v', E = .returned v' ∧ VR φ v v'
 | .az v => ∃ v', E = .panicked [{ v := v', recovered := false }] ∧ VR φ v v'
def Can (P : Program) (f : FuncId) : Prop := ∃ fn, P.funcs[f]? = some fn ∧ (fn.name == "runtime.NumGoroutine") = false ∧ fn.body.isNone = false
def fG (P : Program) (w0 : World) (f : FuncId) (args : List Value) (h : AH) (k : CR → AH → Bool) : Prop :=
 Can P f ∧ ∀ (φ : ak) (args' : Array Value) (w : World), LR φ args args'.toList → HR P w0 φ h w → Calls P f args' w fun E w' => ∃ r h' φ', k r h' = true ∧ Ext h.nx φ φ' ∧ h.nx ≤ h'.nx ∧ HR P w0 φ' h' w' ∧ yD φ' r E
def qd (P : Program) (w0 : World) (l : Nat) (args : List Value) (h : AH) (k : CR → AH → Bool) : Prop :=
 ∀ (φ : ak) (args' : Array Value) (l' : Nat) (w : World), LR φ args args'.toList → φ l ≠ none → (∀ b d n, φ l = some (.live b d n) → l' = b) → HR P w0 φ h w →
  ∃ f tmps as bd, (Instr.yield l' args').run P w = .ok (.round l' f tmps as bd) w ∧ ∀ (c : Frame) (cs : List Frame), ∃ v v' h' φ' w', k (.ret v) h' = true ∧ Ext h.nx φ φ' ∧ h.nx ≤ h'.nx ∧ HR P w0 φ' h' w' ∧ VR φ' v v' ∧
   Steps P (lone (Frame.round l' f tmps as bd .normal) (c :: cs) w) (lone (c.finish v') cs w')
def rF (φ : ak) (m : Option Value) (u : FrameMode) : Prop := match m with
 | none => u = .returning
 | some v => ∃ v', u = .panicking [{ v := v', recovered := false }] ∧ VR φ v v'
def QM (φ : ak) (rc : Rc) (c c' : Frame) : Prop := match rc with
 | .off => c' = c ∧ c.mode = .returning
 | .can v => c' = c ∧ ∃ v', c.mode = .panicking [{ v := v', recovered := false }] ∧ VR φ v v'
 | .j8 => ∃ v', c.mode = .panicking [{ v := v', recovered := false }] ∧ c' = { c with mode := .panicking [{ v := v', recovered := true }] }
def aa2 (φ : ak) (rc : Rc) (c : Frame) : Prop := match rc with
 | .off => c.mode = .returning
 | .can v => ∃ v', c.mode = .panicking [{ v := v', recovered := false }] ∧ VR φ v v'
 | .j8 => False
def C3 (P : Program) (w0 : World) (f : FuncId) (args : List Value) (rc : Rc) (h : AH) (k : Rc → AH → Bool) : Prop :=
 Can P f ∧ ∀ (φ : ak) (args' : Array Value) (w : World) (c : Frame) (cs : List Frame), LR φ args args'.toList → HR P w0 φ h w → aa2 φ rc c →
  ∃ wg h' φ' w' c' fr v, k wg h' = true ∧ Ext h.nx φ φ' ∧ h.nx ≤ h'.nx ∧ HR P w0 φ' h' w' ∧ QM φ' wg c c' ∧
   Steps P (lone (Frame.enter P f args' .deferred) (c :: cs) w) (lone fr (c' :: cs) w') ∧ fr.kind = .deferred ∧ fr.going P w' (.returned v)
def lr (P : Program) (w0 : World) (ds : List eg) (m : Option Value) (h : AH) (k : Option Value → AH → Bool) : Prop :=
 ∀ (φ : ak) (fr : Frame) (cs : List Frame) (w : World), DL φ ds fr.defers → rF φ m fr.mode → HR P w0 φ h w →
  ∃ m' h' φ' w' u, k m' h' = true ∧ Ext h.nx φ φ' ∧ h.nx ≤ h'.nx ∧ HR P w0 φ' h' w' ∧ rF φ' m' u ∧ Steps P (lone fr cs w) (lone { fr with defers := [], mode := u } cs w')
def yE (P : Program) (φ : ak) (m : Machine) (b : Frame) (todo : List Item) (x : AX) (cs : List Frame) (a : Act) (w : World) : Prop := match x with
 | .normal => Steps P m (lone (b.atR a todo) cs w)
 | .exit id => ∃ k1, exitTo id k1 = exitTo id todo ∧ Steps P m (lone (b.atR a (.code (.exit id) :: k1)) cs w)
 | .ret => ∃ k1, Steps P m (lone (b.atR a (.code .ret :: k1)) cs w)
 | .az v => ∃ k1 v', VR φ v v' ∧ Steps P m (lone { b.atR a k1 with mode := .panicking [{ v := v', recovered := false }] } cs w)
def SX (P : Program) (w0 : World) (φ : ak) (e : Env) (x : AX) (s : St) (b : Frame) (cs0 cs : List Frame) (a : Act) (w : World) : Prop := match x with
 | .az _ => SQ P w0 φ s b cs0 cs a w
 | _ => SR P w0 φ e s b cs0 cs a w
def gR (P : Program) (w0 : World) (φ : ak) (N : Nat) (e : Env) (b : Frame) (cs0 : List Frame) (m : Machine) (todo : List Item) (k : KS) : Prop :=
 ∃ x s' φ' bO a' w', k x s' = true ∧ Ext N φ φ' ∧ N ≤ s'.h.nx ∧ SX P w0 φ' e x s' b cs0 bO a' w' ∧ yE P φ' m b todo x bO a' w'
def IJ (c : Code) (it : Item) : Prop := it = .code c ∨ ∃ c', c = .loop c' ∧ it = .inLoop c'
def yF (P : Program) (w0 : World) (c : Code) (e : Env) (s : St) (k : KS) : Prop :=
 ∀ (φ : ak) (b : Frame) (cs0 cs : List Frame) (a : Act) (w : World), SR P w0 φ e s b cs0 cs a w → kP φ e b → ∀ it, IJ c it → ∀ todo, gR P w0 φ s.h.nx e b cs0 (lone (b.atR a (it :: todo)) cs w) todo k
def cR (P : Program) (w0 : World) : Task → Prop
 | .code ac e s k => ∀ c, fg P e.nt c = some ac → yF P w0 c e s k
 | .call f args h k => fG P w0 f args h k
 | .wh f args rc h k => C3 P w0 f args rc h k
 | .round l args h k => qd P w0 l args h k
 | .leave ds m h k => lr P w0 ds m h k
theorem yE.of_steps {P : Program} {φ : ak} {m m1 : Machine} {b : Frame} {todo : List Item} {x : AX} {cs : List Frame} {a : Act} {w : World} (h : Steps P m m1) (ha : yE P φ m1 b todo x cs a w) : yE P φ m b todo x cs a w := by
 cases x with
 | normal => exact h.trans ha
 | exit id => obtain ⟨k1, h1, h2⟩ := ha; exact ⟨k1, h1, h.trans h2⟩
 | ret => obtain ⟨k1, h2⟩ := ha; exact ⟨k1, h.trans h2⟩
 | az v => obtain ⟨k1, v', h1, h2⟩ := ha; exact ⟨k1, v', h1, h.trans h2⟩
theorem gR.of_steps {P : Program} {w0 : World} {φ φ1 : ak} {N N1 : Nat} {e : Env} {b : Frame} {cs0 : List Frame} {m m1 : Machine} {todo : List Item} {k : KS} (hE : Ext N φ φ1) (hN : N ≤ N1) (h : Steps P m m1) (g : gR P w0 φ1 N1 e b cs0 m1 todo k) : gR P w0 φ N e b cs0 m todo k := by
 obtain ⟨x, s', φ', bO, a', w', h1, h2, h3, h4, h5⟩ := g
 exact ⟨x, s', φ', bO, a', w', h1, hE.trans h2 hN, Nat.le_trans hN h3, h4, h5.of_steps h⟩
theorem aa3 {P : Program} {w : World} {f : FuncId} (hc : Can P f) (args : Array Value) : (callFunc f args).run P w = .ok (.enter f args) w := by
 obtain ⟨fn, h1, h2, h3⟩ := hc
 have qe : fn.name ≠ "runtime.NumGoroutine" := by simpa using h2
 have yG : fn.body ≠ none := by intro hn; rw [hn] at h3; cases h3
 simp [callFunc, Sem.run_bind, program, Sem.run, Result.andThen, h1, qe, yG]
theorem yH {P : Program} {w : World} {f : FuncId} (hc : Can P f) (bw args : Array Value) : (invoke (.fn (.func f) bw) args).run P w = .ok (.enter f (args ++ bw)) w := aa3 hc _
section
variable {P : Program} {w0 w : World} {φ : ak} {e : Env} {s : St} {b : Frame} {cs0 cs : List Frame} {a : Act} {ops : Array Oper} {i : Nat} {o : Oper} {rest : List Nat} {todo : List Item}
def rG (P : Program) (w0 : World) (φ : ak) (s : St) (b : Frame) (cs0 cs : List Frame) (a : Act) (w : World) (ops : Array Oper) (i : Nat) (o : Oper) (rest : List Nat) (todo : List Item) (dst : Option Pos) (fail : KS) (k : St → Bool) : Prop :=
 (∃ v v' s1 φ' w' bO iE, gn dst s1 v s1.h k = true ∧ s1.tm = s.tm ∧ Ext s.h.nx φ φ' ∧ s.h.nx ≤ s1.h.nx ∧ VR φ' v v' ∧ SQ P w0 φ' s1 b cs0 bO { a with defers := iE } w' ∧
  Steps P (lone (b.atR a (.inRegion ops (i :: rest) :: todo)) cs w) (lone (b.atR (({ a with defers := iE } : Act).put o.dst v') (.inRegion ops rest :: todo)) bO w')) ∨
 (∃ v v' s1 φ' w', fail (.az v) s1 = true ∧ Ext s.h.nx φ φ' ∧ s.h.nx ≤ s1.h.nx ∧ VR φ' v v' ∧ SQ P w0 φ' s1 b cs0 cs a w' ∧
  Steps P (lone (b.atR a (.inRegion ops (i :: rest) :: todo)) cs w) (lone { b.atR a (.inRegion ops (i :: rest) :: todo) with mode := .panicking [{ v := v', recovered := false }] } cs w'))
theorem IK (dst : Option Pos) (s : St) (v : Value) (h : AH) (k : St → Bool) : gn dst s v h k = gn dst ⟨s.tm, s.df, s.rc, h⟩ v h k := by cases s; rfl
theorem qf (hd : ∀ c, o.op ≠ .defer c) : o.semAt b.roundOf a.eval = execOp a.eval o := Oper.semAt_eq _ _ _ hd
theorem IL {p : Prim} {xs : List Operand} (hc : kO P o = some (.aA p, xs)) : ∀ c, o.op ≠ .defer c := by
 intro c aM
 simp only [kO, aM] at hc
 split at hc <;> cases hc
theorem aa4 {p : Prim} {xs : List Operand} {dst : Option Pos} {fail : KS} {k : St → Bool} {vs : List Value} {rec : Task → Bool} (ho : ops[i]? = some o) (hw : Region.wanted o (yielded ops a.tmps) = true)
 (hc : kO P o = some (.aA p, xs)) (hq : SQ P w0 φ s b cs0 cs a w) (hv : LR φ vs (xs.map a.eval)) (h : QN rec dst e s fail k vs p = true) : rG P w0 φ s b cs0 cs a w ops i o rest todo dst fail k := by
 obtain ⟨v', w', v, h', φ', h1, h2, h3, h4, h5, h6⟩ := QC (fun _ => rfl) hc hq.heap hv h
 refine .inl ⟨v, v', ⟨s.tm, s.df, s.rc, h'⟩, φ', w', cs, a.defers, ?_, rfl, h3, h4, h5, ⟨hq.df.ext h3, hq.rc.ext h3, h6⟩, ?_⟩
 · rw [IK] at h2; exact h2
 · have hs := qf (b := b) (a := a) (IL hc)
   rcases h1 with h1 | ⟨h1, rfl⟩
   · exact .one (II ho hw (by rw [hs]; exact h1))
   · exact .one (QK ho hw (by rw [hs]; exact h1))
theorem QO {f : FuncId} {args' : Array Value} {as : List Value} {dst : Option Pos} {fail : KS} {k : St → Bool} (ho : ops[i]? = some o) (hw : Region.wanted o (yielded ops a.tmps) = true)
 (hr : (o.semAt b.roundOf a.eval).run P w = .ok (.enter f args') w) (hq : SQ P w0 φ s b cs0 cs a w) (hl : LR φ as args'.toList) (aa5 : fG P w0 f as s.h (mG dst s fail k)) : rG P w0 φ s b cs0 cs a w ops i o rest todo dst fail k := by
 obtain ⟨E, w', fr, ⟨r, h', φ', hk, hE, hN, hH, yI⟩, yJ, iX, yK⟩ := aa5.2 φ args' w hl hq.heap (b.atR a (.inRegion ops (i :: rest) :: todo) :: cs)
 have C4 := aaY (k := todo) (rest := rest) (cs := cs) ho hw hr
 cases r with
 | ret v =>
  obtain ⟨v', rfl, js⟩ := yI
  refine .inl ⟨v, v', ⟨s.tm, s.df, s.rc, h'⟩, φ', w', cs, a.defers, ?_, rfl, hE, hN, js, ⟨hq.df.ext hE, hq.rc.ext hE, hH⟩, .head C4 (Steps.trans yJ (.one ?_))⟩
  · have dc : gn dst s v h' k = true := hk
    rw [IK] at dc; exact dc
  · have := step_leave_returned (c := b.atR a (.inRegion ops (i :: rest) :: todo)) (cs := cs) yK
    rw [Frame.finish_atR, ho] at this
    exact this
 | az v =>
  obtain ⟨v', rfl, js⟩ := yI
  refine .inr ⟨v, v', ⟨s.tm, s.df, s.rc, h'⟩, φ', w', ?_, hE, hN, js, ⟨hq.df.ext hE, hq.rc.ext hE, hH⟩, .head C4 (Steps.trans yJ (.one ?_))⟩
  · cases s; exact hk
  · have := step_leave_panicked (c := b.atR a (.inRegion ops (i :: rest) :: todo)) (cs := cs) yK
    rw [Frame.raise_atR] at this
    exact this
theorem aa6 {g : FuncId} {c : Call} {as : List Value} {dst : Option Pos} {fail : KS} {k : St → Bool} {rec : Task → Bool} (b9 : ∀ t, rec t = true → cR P w0 t) (ho : ops[i]? = some o) (hw : Region.wanted o (yielded ops a.tmps) = true)
 (aM : o.op = .call c) (cZ : c.callee = .value (.func g)) (hq : SQ P w0 φ s b cs0 cs a w) (hl : LR φ as (c.args.toList.map a.eval)) (h : QP rec dst e s fail k as g = true) : rG P w0 φ s b cs0 cs a w ops i o rest todo dst fail k := by
 have hC := b9 _ h
 have tT : fG P w0 g as s.h (mG dst s fail k) := hC
 refine QO (args' := c.args.map a.eval) ho hw ?_ hq (by simpa using hl) tT
 rw [qf (by intro c' h'; rw [aM] at h'; cases h')]
 have he : a.eval (.func g) = .func (.func g) #[] #[] := rfl
 simp [execOp, aM, resolve, cZ, he, Deferred.ofValue, Sem.run_bind, Result.andThen, yH tT.1]
theorem aa7 {P : Program} {w : World} {ρ : Operand → Value} {o : Oper} {c : Call} {f : Operand} {fn : Fn} {first bw : Array Value} (aM : o.op = .call c) (cZ : c.callee = .value f) (hf : ρ f = .func fn first bw) :
 (execOp ρ o).run P w = (invoke (.fn fn bw) (first ++ c.args.map ρ)).run P w := by
 simp [execOp, aM, resolve, cZ, hf, Deferred.ofValue, Sem.run_bind, Result.andThen]
theorem LR.tU {φ : ak} {l : List Value} (h : LR φ [] l) : l = [] := by cases h; rfl
theorem IM {v : Value} {kf : Nat → List Value → List Value → Bool} {ky : Nat → Bool} (h : rH v kf ky = true) :
 (∃ g first bw, v = .func (.func g) first bw ∧ kf g first.toList bw.toList = true) ∨ ∃ l, v = .func (.yield l) #[] #[] ∧ ky l = true := by
 unfold rH at h
 split at h
 · exact .inl ⟨_, _, _, rfl, h⟩
 · exact .inr ⟨_, rfl, h⟩
 · cases h
theorem aa8 {f : Operand} {c : Call} {as : List Value} {dst : Option Pos} {fail : KS} {k : St → Bool} {rec : Task → Bool} (b9 : ∀ t, rec t = true → cR P w0 t) (ho : ops[i]? = some o) (hw : Region.wanted o (yielded ops a.tmps) = true)
 (aM : o.op = .call c) (cZ : c.callee = .value f) (hq : SQ P w0 φ s b cs0 cs a w) (hl : LR φ as ((f :: c.args.toList).map a.eval)) (h : IN rec dst e s fail k as = true) : rG P w0 φ s b cs0 cs a w ops i o rest todo dst fail k := by
 cases hl with
 | cons fv C5 as oQ hf hl =>
  have cG : ∀ c', o.op ≠ .defer c' := by intro c' h'; rw [aM] at h'; cases h'
  have h' : rH fv (fun g first bw => gi as bw fun l => gi first l fun l => rec (.call g l s.h (mG dst s fail k))) (fun l => rec (.round l as s.h (mG dst s fail k))) = true := h
  rcases IM h' with ⟨g, first, bw, rfl, h1⟩ | ⟨l, rfl, h1⟩
  · have tT : fG P w0 g (first.toList ++ (as ++ bw.toList)) s.h (mG dst s fail k) := b9 _ (pW _ _ (pW _ _ h1))
    generalize yL : a.eval f = C5 at hf
    cases hf with
    | func _ pU _ iZ _ iA iX h2 h3 =>
     cases iX
     refine QO (args' := (iZ ++ c.args.map a.eval) ++ iA) ho hw ?_ hq ?_ tT
     · rw [qf cG]
       simp [execOp, aM, resolve, cZ, yL, Deferred.ofValue, Sem.run_bind, Result.andThen, yH tT.1]
     · have := LR.append (LR.append h3 hl) h2
       simpa using this
  · have tT : qd P w0 l as s.h (mG dst s fail k) := b9 _ h1
    generalize yL : a.eval f = C5 at hf
    cases hf with
    | func _ pU _ iZ _ iA iX h2 h3 =>
     have aa9 : iZ = #[] := Array.toList_eq_nil_iff.1 (LR.tU h2)
     have aba : iA = #[] := Array.toList_eq_nil_iff.1 (LR.tU h3)
     subst aa9; subst aba
     cases iX with
     | yield _ l' hm mH =>
      obtain ⟨f2, tmps, asg, bd, hy, abb⟩ := tT φ (c.args.map a.eval) l' w (by simpa using hl) hm mH hq.heap
      obtain ⟨v, v', h', φ', w', hk, hE, hN, hH, js, QQ⟩ := abb (b.atR a (.inRegion ops (i :: rest) :: todo)) cs
      have C4 := aaZ (b := b) (a := a) (k := todo) (rest := rest) (cs := cs) ho hw (l := l') (f := f2) (tmps := tmps) (as := asg) (bd := bd) (w' := w) (w := w) (by
       rw [qf cG, aa7 aM cZ yL]
       simp only [Array.empty_append]
       exact hy)
      refine .inl ⟨v, v', ⟨s.tm, s.df, s.rc, h'⟩, φ', w', cs, a.defers, ?_, rfl, hE, hN, js, ⟨hq.df.ext hE, hq.rc.ext hE, hH⟩, .head C4 ?_⟩
      · have dc : gn dst s v h' k = true := hk
        rw [IK] at dc; exact dc
      · rw [Frame.finish_atR, ho] at QQ
        exact QQ
end
end Go.Ve
namespace Go.Ve
open Go.RowKit
section
variable {P : Program} {w0 w : World} {φ : ak} {e : Env} {s : St} {b : Frame} {cs0 cs : List Frame} {a : Act} {ops : Array Oper} {i : Nat} {o : Oper} {rest : List Nat} {todo : List Item}
theorem abc {ρ : Operand → Value} {c : Call} (aM : o.op = .call c) (cZ : c.callee = .builtin .recover) : (execOp ρ o).run P w = .ok .recover w := by
 simp [execOp, aM, resolve, cZ, Sem.run_bind, Result.andThen, invoke, builtin]
theorem abd {c : Call} {as : List Value} {dst : Option Pos} {fail : KS} {k : St → Bool} (ho : ops[i]? = some o) (hw : Region.wanted o (yielded ops a.tmps) = true)
 (aM : o.op = .call c) (cZ : c.callee = .builtin .recover) (hq : SQ P w0 φ s b cs0 cs a w) (he : kP φ e b) (h : yM dst e s k as = true) : rG P w0 φ s b cs0 cs a w ops i o rest todo dst fail k := by
 unfold yM at h
 split at h
 · rename_i qg
   obtain ⟨_, oR⟩ := he
   rw [qg] at oR
   have wi : b.roundOf = none := oR
   have bF : (o.semAt b.roundOf a.eval).run P w = .ok .recover w := by
    rw [qf (by intro c' h'; rw [aM] at h'; cases h')]; exact abc aM cZ
   have jt := hq.rc
   split at h
   · rename_i v fH
     rw [fH] at jt
     obtain ⟨rfl, hk, c1, yN, v', rfl, hm, hv⟩ := jt
     have ht : tryRecover (b.atR a (.inRegion ops (i :: rest) :: todo)) (c1 :: yN) = some (v', { c1 with mode := .panicking [{ v := v', recovered := true }] } :: yN) := by
      simp [tryRecover, Frame.atR, hk, hm]
     refine .inl ⟨v, v', ⟨s.tm, s.df, .j8, s.h⟩, φ, w, _, a.defers, h, rfl, Ext.refl _ _, Nat.le_refl _, hv, ⟨hq.df, ⟨hk, c1, yN, v', rfl, hm, rfl⟩, hq.heap⟩, .one (QL wi ho hw bF (.inl ht))⟩
   · rename_i IP
     have ht : tryRecover (b.atR a (.inRegion ops (i :: rest) :: todo)) cs = none := by
      cases yO : s.rc with
      | can v => exact absurd yO (IP v)
      | off =>
       rw [yO] at jt
       obtain ⟨rfl, hk | ⟨hk, c1, yN, rfl, hm⟩⟩ := jt
       · simp [tryRecover, Frame.atR, hk]
       · simp [tryRecover, Frame.atR, hk, hm]
      | j8 =>
       rw [yO] at jt
       obtain ⟨hk, c1, yN, v', _, _, rfl⟩ := jt
       simp [tryRecover, Frame.atR, hk]
     refine .inl ⟨.nilIface, .nilIface, s, φ, w, cs, a.defers, h, rfl, Ext.refl _ _, Nat.le_refl _, .vP, ⟨hq.df, hq.rc, hq.heap⟩, .one (QL wi ho hw bF (.inr ⟨ht, rfl, rfl⟩))⟩
 · cases h
theorem QR {t : TypeId} {v : Value} : (Instr.panic (.iface t v)).run P w = .halt (.panic (.iface t v)) w := by
 simp [Instr.panic, goPanic, Sem.run]
theorem abe {fail : KS} {as : List Value} (h : C6 s fail as = true) : ∃ t x, as = [.iface t x] ∧ fail (.az (.iface t x)) s = true := by
 obtain ⟨v, rfl, h1⟩ := dO (show a1 as _ = true from h)
 cases v <;> first | exact ⟨_, _, rfl, h1⟩ | cases h1
theorem QS {x : Operand} {as : List Value} {dst : Option Pos} {fail : KS} {k : St → Bool} (ho : ops[i]? = some o) (hw : Region.wanted o (yielded ops a.tmps) = true)
 (aM : o.op = .panic x ∨ ∃ c, o.op = .call c ∧ c.callee = .builtin .panic ∧ c.args.toList = [x]) (hq : SQ P w0 φ s b cs0 cs a w) (hl : LR φ as ([x].map a.eval)) (h : C6 s fail as = true) : rG P w0 φ s b cs0 cs a w ops i o rest todo dst fail k := by
 obtain ⟨t, v, rfl, h1⟩ := abe h
 obtain ⟨v', fh, hv⟩ := LR.one hl
 have hx : a.eval x = v' := by simpa using fh
 cases hv with
 | iface _ _ u hu =>
  refine .inr ⟨_, _, s, φ, w, h1, Ext.refl _ _, Nat.le_refl _, .iface t v u hu, ⟨hq.df, hq.rc, hq.heap⟩, .one (aa1 ho hw ?_)⟩
  rcases aM with aM | ⟨c, aM, cZ, iW⟩
  · rw [qf (by intro c' h'; rw [aM] at h'; cases h')]
    simp [execOp, aM, hx, Sem.run_bind, QR, Result.andThen]
  · rw [qf (by intro c' h'; rw [aM] at h'; cases h')]
    have hm : c.args = #[x] := by rw [← iW]
    simp [execOp, aM, resolve, cZ, hm, hx, Sem.run_bind, Result.andThen, invoke, builtin, QR]
theorem abf {f : Operand} {c : Call} {as : List Value} {dst : Option Pos} {fail : KS} {k : St → Bool} (ho : ops[i]? = some o) (hw : Region.wanted o (yielded ops a.tmps) = true)
 (aM : o.op = .defer c) (cZ : c.callee = .value f) (hq : SQ P w0 φ s b cs0 cs a w) (he : kP φ e b) (hl : LR φ as ((f :: c.args.toList).map a.eval)) (h : yP dst e s k as = true) : rG P w0 φ s b cs0 cs a w ops i o rest todo dst fail k := by
 unfold yP at h
 split at h
 · rename_i fv oQ qg
   obtain ⟨_, oR⟩ := he
   rw [qg] at oR
   have wi : b.roundOf = none := oR
   rcases IM h with ⟨g, first, bw, rfl, h1⟩ | ⟨l, rfl, h1⟩
   · have h2 := pW _ _ (pW _ _ h1)
     cases hl with
     | cons _ C5 _ ajl hf hl =>
      generalize yL : a.eval f = C5 at hf
      cases hf with
      | func _ pU _ iZ _ iA iX h3 h4 =>
       cases iX
       have bF : (o.semAt b.roundOf a.eval).run P w = .ok (.defer { target := .fn (.func g) iA, args := iZ ++ c.args.map a.eval }) w := by
        rw [wi, Oper.semAt_none]
        simp [execOp, aM, resolve, cZ, yL, Deferred.ofValue, Sem.run_bind, Result.andThen]
       refine .inl ⟨undef, undef, ⟨s.tm, .fn g (first.toList ++ (oQ ++ bw.toList)) :: s.df, s.rc, s.h⟩, φ, w, cs, { target := .fn (.func g) iA, args := iZ ++ c.args.map a.eval } :: a.defers, h2, rfl, Ext.refl _ _, Nat.le_refl _, VR.undef φ, ⟨?_, hq.rc, hq.heap⟩, .one (aa0 ho hw bF)⟩
       refine .cons _ _ _ _ ⟨iA, _, rfl, ?_⟩ hq.df
       have := LR.append (LR.append h4 hl) h3
       simpa using this
   · cases h1
 · cases h
theorem IQ {x : Operand} {y : dC} {k : Value → Bool} (hc : mI x = some y) (hr : ∀ p, y = .t p → VR φ (s.tm.get p) (a.tmps.getD p.un undef)) (h : qh y s.tm k = true) : ∃ v, VR φ v (a.eval x) ∧ k v = true := by
 cases x with
 | tmp t =>
  cases hc
  have h' : PT.cY (Pos.of t) s.tm k = true := h
  rw [PT.iY] at h'
  have := hr _ rfl
  rw [Pos.j3] at this
  exact ⟨_, this, h'⟩
 | const v =>
  simp only [mI] at hc
  split at hc
  · rename_i ej
    cases hc
    exact ⟨v, nM ej, h⟩
  · cases hc
 | func f => cases hc; exact ⟨_, .func _ _ _ _ _ _ (.func f) .nil .nil, h⟩
 | global g => cases hc
theorem QT : ∀ {xs : List Operand} {ys : List dC} {k : List Value → Bool}, xs.mapM mI = some ys → (∀ p, dC.t p ∈ ys → VR φ (s.tm.get p) (a.tmps.getD p.un undef)) → mJ ys s.tm k = true → ∃ vs, LR φ vs (xs.map a.eval) ∧ k vs = true := by
 intro xs
 induction xs with
 | nil => intro ys k hm _ h; simp at hm; subst hm; exact ⟨[], .nil, h⟩
 | cons x xs ih =>
  intro ys k hm hr h
  rw [List.mapM_cons] at hm
  cases hx : mI x with
  | none => simp [hx] at hm
  | some y =>
   cases ju : xs.mapM mI with
   | none => simp [hx, ju] at hm
   | some ys' =>
    simp [hx, ju] at hm
    subst hm
    obtain ⟨v, h1, h2⟩ := IQ (a := a) (s := s) hx (fun p hp => hr p (by simp [hp])) (show qh y s.tm (fun v => mJ ys' s.tm fun vs => k (v :: vs)) = true from h)
    obtain ⟨vs, h3, h4⟩ := ih ju (fun p hp => hr p (by simp [hp])) h2
    exact ⟨v :: vs, .cons _ _ _ _ h1 h3, h4⟩
theorem abg (x y : Bool) : lu x y = (x == y) := by cases x <;> cases y <;> rfl
theorem IS {g : Nat} {want : Bool} {t : Tmp} {yes no : Bool} (hg : o.guard = some (g, want)) (ht : (ops[g]?).bind (·.dst) = some t) (hr : VR φ (s.tm.get (Pos.of t)) (a.tmps.getD t undef)) (h : mK (some (Pos.of t, want)) s.tm yes no = true) :
 (Region.wanted o (yielded ops a.tmps) = true ∧ yes = true) ∨ (Region.wanted o (yielded ops a.tmps) = false ∧ no = true) := by
 have h' : PT.cY (Pos.of t) s.tm (tV want yes no) = true := h
 rw [PT.iY] at h'
 have hy : yielded ops a.tmps g = (match a.tmps.getD t undef with | .bool c => some c | _ => none) := by
  unfold yielded
  rw [ht]
  simp only [Option.bind_some, Array.getD_eq_getD_getElem?]
  cases hh : a.tmps[t]? with
  | none => rfl
  | some u => cases u <;> rfl
 unfold Region.wanted
 rw [hg]
 simp only [hy]
 generalize a.tmps.getD t undef = u at hr
 generalize s.tm.get (Pos.of t) = u0 at hr h'
 cases hr with
 | bool c =>
  have h2 : (bif lu c want then yes else no) = true := h'
  rw [abg] at h2
  cases C7 : (c == want) with
  | true => rw [C7] at h2; left; exact ⟨by simpa using C7, h2⟩
  | false => rw [C7] at h2; right; exact ⟨by simpa using C7, h2⟩
 | _ => right; exact ⟨by simp, h'⟩
theorem wj {nt : Nat} {ao : aX} (h : l8 P nt ops o = some ao) : ∃ act xs args, (kO P o = some (act, xs) ∨ (act = .aA (.x .bad) ∧ xs = [])) ∧ xs.mapM mI = some args ∧ ao.act = act ∧ ao.args = args ∧
 (o.dst = none ∧ ao.dst = none ∨ ∃ d, o.dst = some d ∧ d < nt ∧ ao.dst = some (Pos.of d)) ∧
 (o.guard = none ∧ ao.guard = none ∨ ∃ g want t, o.guard = some (g, want) ∧ (ops[g]?).bind (·.dst) = some t ∧ ao.guard = some (Pos.of t, want)) := by
 have hX : kO P o = some (yQ P o) ∨ ((yQ P o).1 = .aA (.x .bad) ∧ (yQ P o).2 = []) := by
  unfold yQ
  split
  · rename_i a xs hc
    split
    · exact .inl hc
    · exact .inr ⟨rfl, rfl⟩
  · exact .inr ⟨rfl, rfl⟩
 unfold l8 at h
 split at h
 · rename_i act xs tW
   have hc : kO P o = some (act, xs) ∨ (act = .aA (.x .bad) ∧ xs = []) := by rw [tW] at hX; exact hX
   split at h
   · cases h
   · rename_i args ha
     simp only at h
     split at h
     · cases h
     · rename_i dst hd
       have mL : o.dst = none ∧ dst = none ∨ ∃ d, o.dst = some d ∧ d < nt ∧ dst = some (Pos.of d) := by
        cases yR : o.dst with
        | none => rw [yR] at hd; simp at hd; exact .inl ⟨rfl, hd.symm⟩
        | some d =>
         rw [yR] at hd
         simp at hd
         exact .inr ⟨d, rfl, hd.1, hd.2.symm⟩
       split at h
       · rename_i hg
         cases h
         exact ⟨act, xs, args, hc, ha, rfl, rfl, mL, .inl ⟨hg, rfl⟩⟩
       · rename_i g want hg
         split at h
         · rename_i t ht
           cases h
           exact ⟨act, xs, args, hc, ha, rfl, rfl, mL, .inr ⟨g, want, t, hg, ht, rfl⟩⟩
         · cases h
theorem abh {act : gZ} {xs : List Operand} (hc : kO P o = some (act, xs)) (hn : ∀ p, act ≠ .aA p) :
 (∃ c, o.op = .call c ∧ ((∃ g, act = .call g ∧ c.callee = .value (.func g) ∧ xs = c.args.toList) ∨ (∃ f, act = .dyn ∧ c.callee = .value f ∧ xs = f :: c.args.toList) ∨
  (act = .recover ∧ c.callee = .builtin .recover ∧ xs = []) ∨ (∃ x, act = .panic ∧ c.callee = .builtin .panic ∧ c.args.toList = [x] ∧ xs = [x]))) ∨
 (∃ x, o.op = .panic x ∧ act = .panic ∧ xs = [x]) ∨ (∃ c f, o.op = .defer c ∧ act = .defer ∧ c.callee = .value f ∧ xs = f :: c.args.toList) := by
 cases aM : o.op <;> simp only [kO, aM] at hc
 case call c =>
  refine .inl ⟨c, rfl, ?_⟩
  cases cZ : c.callee with
  | value f =>
   rw [cZ] at hc
   cases f with
   | func g' =>
    simp only at hc
    (repeat' split at hc) <;> first
     | (cases hc; done)
     | (cases hc; exact .inl ⟨g', rfl, rfl, rfl⟩)
     | (cases hc; exact absurd rfl (hn _))
   | _ => cases hc; exact .inr (.inl ⟨_, rfl, rfl, rfl⟩)
  | invoke r m => rw [cZ] at hc; cases hc
  | builtin bb =>
   rw [cZ] at hc
   cases bb <;> simp only at hc <;> (repeat' split at hc) <;> first
    | (cases hc; done)
    | (cases hc; exact absurd rfl (hn _))
    | (cases hc; rename_i hx; exact .inr (.inr (.inl ⟨rfl, rfl, rfl⟩)))
    | (cases hc; rename_i hx; exact .inr (.inr (.inr ⟨_, rfl, rfl, hx, rfl⟩)))
 case panic x => cases hc; exact .inr (.inl ⟨x, rfl, rfl, rfl⟩)
 case defer c =>
  split at hc
  · rename_i f cZ
    cases hc
    exact .inr (.inr ⟨c, f, rfl, rfl, cZ, rfl⟩)
  · cases hc
 all_goals ((repeat' split at hc) <;> first | (cases hc; done) | (cases hc; exact absurd rfl (hn _)))
theorem QU {ao : aX} {fail : KS} {k : St → Bool} {rec : Task → Bool} {nt : Nat} (b9 : ∀ t, rec t = true → cR P w0 t) (hc : l8 P nt ops o = some ao) (ho : ops[i]? = some o) (hq : SQ P w0 φ s b cs0 cs a w) (he : kP φ e b)
 (hr : ∀ p ∈ ao.reads, VR φ (s.tm.get p) (a.tmps.getD p.un undef)) (h : rJ rec ao e s fail k = true) : rG P w0 φ s b cs0 cs a w ops i o rest todo ao.dst fail k := by
 obtain ⟨act, xs, args, h1, h2, rfl, rfl, h4, h5⟩ := wj hc
 have iW : ∀ p, dC.t p ∈ ao.args → VR φ (s.tm.get p) (a.tmps.getD p.un undef) := fun p hp => hr p (by
  unfold aX.reads
  exact List.mem_append_left _ (List.mem_filterMap.2 ⟨.t p, hp, rfl⟩))
 have key : (Region.wanted o (yielded ops a.tmps) = true ∧ mJ ao.args s.tm (wk rec ao.act ao.dst e s fail k) = true) ∨ (Region.wanted o (yielded ops a.tmps) = false ∧ gn ao.dst s undef s.h k = true) := by
  have h' : mK ao.guard s.tm (mJ ao.args s.tm (wk rec ao.act ao.dst e s fail k)) (gn ao.dst s undef s.h k) = true := by cases ao; exact h
  rcases h5 with ⟨g1, g2⟩ | ⟨g, want, t, g1, g2, g3⟩
  · rw [g2] at h'
    exact .inl ⟨by simp [Region.wanted, g1], h'⟩
  · rw [g3] at h'
    refine IS (φ := φ) g1 g2 ?_ h'
    have := hr (Pos.of t) (by unfold aX.reads; rw [g3]; simp)
    rw [Pos.j3] at this
    exact this
 rcases key with ⟨hw, hk⟩ | ⟨hw, hk⟩
 · obtain ⟨vs, hv, hk⟩ := QT h2 iW hk
   rcases h1 with h1 | ⟨hb, _⟩
   rotate_left
   · rw [hb] at hk; exact Bool.noConfusion (show false = true from hk)
   by_cases hp : ∃ p, ao.act = .aA p
   · obtain ⟨p, hp⟩ := hp
     rw [hp] at h1 hk
     exact aa4 (rec := rec) (e := e) ho hw h1 hq hv hk
   · have hn : ∀ p, ao.act ≠ .aA p := fun p hp' => hp ⟨p, hp'⟩
     rcases abh h1 hn with ⟨c, aM, ⟨g, ha, cZ, rfl⟩ | ⟨f, ha, cZ, rfl⟩ | ⟨ha, cZ, rfl⟩ | ⟨x, ha, cZ, hx, rfl⟩⟩ | ⟨x, aM, ha, rfl⟩ | ⟨c, f, aM, ha, cZ, rfl⟩
     · rw [ha] at hk; exact aa6 (e := e) b9 ho hw aM cZ hq hv hk
     · rw [ha] at hk; exact aa8 (e := e) b9 ho hw aM cZ hq hv hk
     · rw [ha] at hk; exact abd ho hw aM cZ hq he hk
     · rw [ha] at hk; exact QS ho hw (.inr ⟨c, aM, cZ, hx⟩) hq hv hk
     · rw [ha] at hk; exact QS ho hw (.inl aM) hq hv hk
     · rw [ha] at hk; exact abf ho hw aM cZ hq he hv hk
 · refine .inl ⟨undef, undef, s, φ, w, cs, a.defers, hk, rfl, Ext.refl _ _, Nat.le_refl _, VR.undef φ, ⟨hq.df, hq.rc, hq.heap⟩, .one ?_⟩
   have := stepR_op_skip (P := P) (b := b) (a := a) (k := todo) (cs := cs) (w := w) (ops := ops) (i := i) (rest := rest) (by simp [ho, hw])
   rw [ho] at this
   exact this
end
end Go.Ve
namespace Go.Ve
open Go.RowKit
section
variable {P : Program} {w0 w : World} {φ : ak} {e : Env} {s : St} {b : Frame} {cs0 cs : List Frame} {a : Act} {ops : Array Oper} {i : Nat} {o : Oper} {rest : List Nat} {todo : List Item}
theorem abj {dst : Option Pos} {v : Value} {k : St → Bool} (h : gn dst s v s.h k = true) : (dst = none ∧ k s = true) ∨ ∃ p, dst = some p ∧ k ⟨s.tm.set p v, s.df, s.rc, s.h⟩ = true := by
 cases dst with
 | none => exact .inl ⟨rfl, by cases s; exact h⟩
 | some p =>
  refine .inr ⟨p, rfl, ?_⟩
  have h' : PT.fm p s.tm v (fun IT => k ⟨IT, s.df, s.rc, s.h⟩) = true := by cases s; exact h
  rw [PT.kK] at h'
  exact h'
theorem Act.C8 (a : Act) (d : Option Tmp) (v : Value) : (a.put d v).defers = a.defers := by cases d <;> rfl
theorem SQ.defers {a a' : Act} (hq : SQ P w0 φ s b cs0 cs a w) (h : a'.defers = a.defers) : SQ P w0 φ s b cs0 cs a' w := ⟨h ▸ hq.df, hq.rc, hq.heap⟩
inductive wm (P : Program) (nt : Nat) (ops : Array Oper) : List Nat → List aX → Prop where
 | nil : wm P nt ops [] []
 | cons (i : Nat) (o : Oper) (ao : aX) (is : List Nat) (l : List aX) (ho : ops[i]? = some o) (hc : l8 P nt ops o = some ao) (hl : wm P nt ops is l) : wm P nt ops (i :: is) (ao :: l)
theorem abk {nt : Nat} : ∀ (tX pre : List Oper) (l : List aX), tX.mapM (l8 P nt ops) = some l → ops.toList = pre ++ tX → wm P nt ops (List.range' pre.length tX.length) l := by
 intro tX
 induction tX with
 | nil => intro pre l h _; simp at h; subst h; exact .nil
 | cons o tX ih =>
  intro pre l h hp
  rw [List.mapM_cons] at h
  cases ho : l8 P nt ops o with
  | none => simp [ho] at h
  | some ao =>
   cases hs : tX.mapM (l8 P nt ops) with
   | none => simp [ho, hs] at h
   | some l' =>
    simp [ho, hs] at h
    subst h
    rw [List.length_cons, List.range'_succ]
    refine .cons _ o _ _ _ ?_ ho ?_
    · rw [← Array.getElem?_toList, hp]; simp
    · have := ih (pre ++ [o]) l' hs (by simp [hp])
      simpa using this
theorem abl {nt : Nat} {l : List aX} (h : yS P nt ops = some l) : wm P nt ops (List.range ops.size) l := by
 have := abk ops.toList [] l h rfl
 simpa [List.range_eq_range'] using this
theorem abm {nt : Nat} {ao : aX} (hc : l8 P nt ops o = some ao) {a : Act} {tm : PT} (ht : TR φ tm nt a.tmps) {v v' : Value} (hv : VR φ v v') :
 (ao.dst = none → TR φ tm nt (a.put o.dst v').tmps) ∧ (∀ p, ao.dst = some p → TR φ (tm.set p v) nt (a.put o.dst v').tmps) := by
 obtain ⟨act, xs, args, h1, h2, h3, yG, h4, h5⟩ := wj hc
 rcases h4 with ⟨h6, h7⟩ | ⟨d, h6, hd, h7⟩
 · rw [h6, h7]
   refine ⟨fun _ => ht, fun p hp => ?_⟩
   cases hp
 · rw [h6, h7]
   refine ⟨fun hn => (by cases hn), fun p hp => ?_⟩
   cases hp
   have := ht.set (Pos.of d) (by rw [Pos.j3]; exact hd) hv
   rw [Pos.j3] at this
   exact this
theorem abn {rec : Task → Bool} (b9 : ∀ t, rec t = true → cR P w0 t) {k : KS} : ∀ {is : List Nat} {l : List aX}, wm P e.nt ops is l → ∀ {φ : ak} {s : St} {cs : List Frame} {a : Act} {w : World}, SR P w0 φ e s b cs0 cs a w → kP φ e b → yT rec l e s k = true →
 gR P w0 φ s.h.nx e b cs0 (lone (b.atR a (.inRegion ops is :: todo)) cs w) todo k := by
 intro is l hR
 induction hR with
 | nil =>
  intro φ s cs a w hs he h
  exact ⟨.normal, s, φ, cs, a, w, h, Ext.refl _ _, Nat.le_refl _, hs, .one stepR_region_end⟩
 | cons i o ao is l ho hc hl ih =>
  intro φ s cs a w hs he h
  have h' : rJ rec ao e s k (fun s => yT rec l e s k) = true := h
  rcases QU (rest := is) (todo := todo) b9 hc ho hs.toSQ he (fun p _ => hs.tm.2 p) h' with ⟨v, v', s1, φ', w', bO, iE, h1, h2, h3, h4, h5, h6, h7⟩ | ⟨v, v', s1, φ', w', h1, h3, h4, h5, h6, h7⟩
  · have dD : TR φ' s1.tm e.nt ({ a with defers := iE } : Act).tmps := by rw [h2]; exact hs.tm.ext h3
    obtain ⟨t1, t2⟩ := abm hc dD h5
    rcases abj h1 with ⟨hd, hk⟩ | ⟨p, hd, hk⟩
    · exact (ih (s := s1) ⟨h6.defers (Act.C8 _ _ _), t1 hd⟩ (he.ext h3) hk).of_steps h3 h4 h7
    · exact (ih (s := ⟨s1.tm.set p v, s1.df, s1.rc, s1.h⟩) ⟨SQ.mk (by rw [Act.C8]; exact h6.df) h6.rc h6.heap, t2 p hd⟩ (he.ext h3) hk).of_steps h3 h4 h7
  · exact ⟨.az v, s1, φ', cs, a, w', h1, h3, h4, h6, ⟨_, v', h5, h7⟩⟩
end
end Go.Ve
namespace Go.Ve
open Go.RowKit
section
variable {P : Program} {w0 w : World} {φ : ak} {h : AH}
theorem Ext.mono {N M : Nat} {φ φ' : ak} (h : Ext N φ φ') (hM : M ≤ N) : Ext M φ φ' := ⟨h.old, fun f hf => h.out f (Nat.lt_of_lt_of_le hf hM)⟩
theorem HR.new (H : HR P w0 φ h w) {o : AO} {o' : Obj} {d n : Nat} {aP : NT AO} (hs : h.ob.gP h.nx (some o) aP) (ho : OR P φ d n o o') :
 HR P w0 (φ.put h.nx (.live w.heap.size d n)) ⟨h.nx + 1, aP⟩ (w.alloc o') ∧ Ext h.nx φ (φ.put h.nx (.live w.heap.size d n)) :=
 H.newAt (f := h.nx) (h' := ⟨h.nx + 1, aP⟩) (H.fresh _ (Nat.le_refl _)) hs.1 (fun g hg _ => hs.2 g hg) (fun g hg => H.fresh g (by have : h.nx + 1 ≤ g := hg; omega)) (fun g hg => by have h2 : h.nx + 1 ≤ g := hg; show aP.get g = none; rw [hs.2 g (by omega)]; exact H.top g (by omega)) (Nat.lt_succ_self _) h.nx (Nat.le_refl _) ho
theorem HR.loop (H : HR P w0 φ h w) {f : Nat} {l : jH} (hf : φ f ≠ none) (ho : h.ob.get f = some (.loop l)) : ∃ b d n l', φ f = some (.live b d n) ∧ w.heap[b]? = some (.loop l') ∧ oS P φ l l' ∧ w0.heap.size ≤ b := by
 obtain ⟨b, d, n, o', h1, h2, h3, h4⟩ := H.live hf ho
 cases h3 with
 | loop _ _ _ l' hl => exact ⟨b, d, n, l', h1, h2, hl, h4 rfl⟩
theorem abo {l : Nat} {r : Loop} (hl : w.heap[l]? = some (.loop r)) (fn : FuncId) (tmps : Array Value) (ps : Array Tmp) (assign body : Code) :
 (Instr.enterLoop fn tmps ps assign body (some l)).run P w = .ok (w.heap.size, []) (w.alloc (.loop { state := .ready, pending := none, fn, tmps, params := ps, assign, body, defers := r.defers })) := by
 unfold Instr.enterLoop
 simp only [Sem.run_bind, run_getLoop hl, run_newObj_alloc, Result.andThen, Sem.run_pure]
variable {e : Env} {s : St} {b : Frame} {cs0 cs : List Frame} {a : Act} {todo : List Item} {k : KS}
theorem gR.bind {N : Nat} {m : Machine} {QV : List Item} {k' : KS} (g : gR P w0 φ N e b cs0 m QV k')
 (h : ∀ x s1 φ1 dQ a1 w1, k' x s1 = true → Ext N φ φ1 → N ≤ s1.h.nx → SX P w0 φ1 e x s1 b cs0 dQ a1 w1 → yE P φ1 m b QV x dQ a1 w1 → gR P w0 φ N e b cs0 m todo k) : gR P w0 φ N e b cs0 m todo k := by
 obtain ⟨x, s1, φ1, dQ, a1, w1, h1, h2, h3, h4, h5⟩ := g
 exact h x s1 φ1 dQ a1 w1 h1 h2 h3 h4 h5
theorem step_scope {c : Code} : step P (lone (b.atR a (.code (.scope c) :: todo)) cs w) = .next (lone (b.atR a (.code c :: .inScope c :: todo)) cs w) :=
 step_lone_go (by simp [stepG, stepG.exec, Frame.atR])
theorem step_inScope {c : Code} : step P (lone (b.atR a (.inScope c :: todo)) cs w) = .next (lone (b.atR a todo) cs w) :=
 step_lone_go (by simp [stepG, stepG.exec, Frame.atR])
def QW (P : Program) (w0 : World) : Prop := ∀ (rec : Task → Bool), (∀ t, rec t = true → cR P w0 t) → ∀ (e : Env) (b : Frame) (cs0 : List Frame) (todo : List Item) (k : KS) (id : Nat) (ops : Array Oper) (l : List aX) (dl : List hO),
 yS P e.nt ops = some l → IU ops l.toArray = some dl → ∀ (φ : ak) (s : St) (cs : List Frame) (a : Act) (w : World), SR P w0 φ e s b cs0 cs a w → kP φ e b → mM rec dl e s k = true →
  gR P w0 φ s.h.nx e b cs0 (lone (b.atR a (.code (.region id ops true) :: todo)) cs w) todo k
theorem QX {rec : Task → Bool} (b9 : ∀ t, rec t = true → cR P w0 t) {ac : cA} {c2 : Code} {it : Item} {m : Machine} {N : Nat} (hc : fg P e.nt c2 = some ac) (eX : IJ c2 it) (hx : ∀ id, exitTo id (it :: todo) = exitTo id todo) (he : kP φ e b)
 (g : gR P w0 φ N e b cs0 m (it :: todo) (yU rec ac e k)) : gR P w0 φ N e b cs0 m todo k := by
 refine g.bind fun x s1 φ1 dQ a1 w1 h1 h2 h3 h4 h5 => ?_
 cases x with
 | normal =>
  have hC : cR P w0 (.code ac e s1 k) := b9 _ h1
  have := hC c2 hc φ1 b cs0 dQ a1 w1 h4 (he.ext h2) it eX todo
  exact this.of_steps h2 h3 h5
 | exit id =>
  obtain ⟨k1, h6, h7⟩ := h5
  exact ⟨.exit id, s1, φ1, dQ, a1, w1, h1, h2, h3, h4, k1, by rw [h6, hx], h7⟩
 | ret => exact ⟨.ret, s1, φ1, dQ, a1, w1, h1, h2, h3, h4, h5⟩
 | az v => exact ⟨.az v, s1, φ1, dQ, a1, w1, h1, h2, h3, h4, h5⟩
theorem abp {id : Nat} {m : Machine} {N : Nat} (g : gR P w0 φ N e b cs0 m (.inBlock id :: todo) (IV id k)) : gR P w0 φ N e b cs0 m todo k := by
 refine g.bind fun x s1 φ1 dQ a1 w1 h1 h2 h3 h4 h5 => ?_
 cases x with
 | normal => exact ⟨.normal, s1, φ1, dQ, a1, w1, h1, h2, h3, h4, Steps.trans h5 (.one stepR_inBlock)⟩
 | exit j =>
  obtain ⟨k1, h6, h7⟩ := h5
  have gg : (bif Nat.beq j id then k .normal s1 else k (.exit j) s1) = true := h1
  cases hj : Nat.beq j id with
  | true =>
   rw [hj] at gg
   have : j = id := Nat.eq_of_beq_eq_true hj
   subst this
   have h6' : exitTo j k1 = some todo := by rw [h6]; simp [exitTo]
   exact ⟨.normal, s1, φ1, dQ, a1, w1, gg, h2, h3, h4, Steps.trans h7 (.one (stepR_exit h6'))⟩
  | false =>
   rw [hj] at gg
   have cG : ¬ (id = j) := fun e' => by subst e'; rw [Nat.beq_refl] at hj; cases hj
   refine ⟨.exit j, s1, φ1, dQ, a1, w1, gg, h2, h3, h4, k1, ?_, h7⟩
   rw [h6]; simp [exitTo, cG]
 | ret => exact ⟨.ret, s1, φ1, dQ, a1, w1, h1, h2, h3, h4, h5⟩
 | az v => exact ⟨.az v, s1, φ1, dQ, a1, w1, h1, h2, h3, h4, h5⟩
theorem abq {l : Nat} {df : List eg} {pj : Option Code} {h1 : AH} {N : Nat} {m : Machine} (hj : C9 s df k pj h1 = true) (hs : SR P w0 φ e ⟨s.tm, df, s.rc, h1⟩ b cs0 cs a w) (hN : N ≤ h1.nx)
 (gQ : Steps P m (lone (b.atR a ((pj.map Item.code).toList ++ todo)) cs w)) : gR P w0 φ N e b cs0 m todo k := by
 unfold C9 at hj
 split at hj
 · exact ⟨.normal, _, φ, cs, a, w, hj, Ext.refl _ _, hN, hs, gQ⟩
 · exact ⟨.ret, _, φ, cs, a, w, hj, Ext.refl _ _, hN, hs, todo, gQ⟩
 · exact ⟨.exit _, _, φ, cs, a, w, hj, Ext.refl _ _, hN, hs, todo, rfl, gQ⟩
 · cases hj
theorem oS.hZ {l : jH} {l' : Loop} (r : oS P φ l l') (st : LoopState) (j : Option Code) : oS P φ (l.hZ st j) { l' with state := st, pending := j } := by
 cases l
 exact ⟨rfl, rfl, r.fn, r.tm, r.params, r.small, r.assign, r.body, r.defs, r.IW⟩
theorem HR.IX (H : HR P w0 φ h w) {f b d n : Nat} {l' : Loop} {aP : NT AO} (hl : φ f = some (.live b d n)) (hw : w.heap[b]? = some (.loop l')) (hb : w0.heap.size ≤ b) {l2 : jH} {yV : Loop} (hs : h.ob.gP f (some (.loop l2)) aP) (hr : oS P φ l2 yV) :
 HR P w0 φ ⟨h.nx, aP⟩ (w.putObj b (.loop yV)) := by
 have bz : b < w.heap.size := (Array.getElem?_eq_some_iff.1 hw).1
 exact H.hZ (h' := ⟨h.nx, aP⟩) hl hs rfl (.loop d n _ _ hr) hb (World.putObj_heap_same bz) (fun k hk => World.putObj_heap_other hk) World.putObj_size rfl rfl rfl
theorem QY {rec : Task → Bool} (b9 : ∀ t, rec t = true → cR P w0 t) {g : Operand} {ps : Array Tmp} {assign body : Code} {x y : cA} {gf : FuncId} {first bw iZ iA : Array Value} {h1 : AH} {dl : Nat} {df : List eg} {mark : List Deferred} {w1 : World} {N dl' : Nat}
 (ew : ∀ t ∈ ps.toList, t < e.nt) (hx : fg P e.nt assign = some x) (hy : fg P e.nt body = some y) (hg : a.eval g = .func (.func gf) iZ iA) (tY : LR φ first.toList iZ.toList) (tZ : LR φ bw.toList iA.toList)
 (hb : b.fn = e.fn) (dD : TR φ s.tm e.nt a.tmps) (rK : DL φ df (mark ++ a.defers)) (jt : qc φ s.rc b cs0 cs) (H : HR P w0 φ h1 w1) (rM : φ dl ≠ none) (abr : ∀ b d n, φ dl = some (.live b d n) → dl' = b) (hN : N ≤ h1.nx)
 (abt : (Instr.enterLoop b.fn a.tmps ps assign body b.roundOf).run P w = .ok (w1.heap.size, mark) (w1.alloc (.loop { state := .ready, pending := none, fn := b.fn, tmps := a.tmps, params := ps, assign, body, defers := dl' })))
 (hk : yW rec e s k (ps.toList.map Pos.of) x y gf first.toList bw.toList h1 dl df = true) :
 gR P w0 φ N e b cs0 (lone (b.atR a (.code (.rangeFunc g ps assign body) :: todo)) cs w) todo k := by
 obtain ⟨aP, bL, IY⟩ := rz hk
 have IZ : oS P φ ⟨.ready, none, e.fn, s.tm, ps.toList.map Pos.of, x, y, dl, e.nt⟩ { state := .ready, pending := none, fn := b.fn, tmps := a.tmps, params := ps, assign, body, defers := dl' } :=
  ⟨rfl, rfl, hb, dD, rfl, ew, hx, hy, rM, abr⟩
 obtain ⟨H1, oT⟩ := H.new bL (.loop 0 0 _ _ IZ)
 have yX := pW _ _ IY
 have hC : fG P w0 gf (first.toList ++ (.func (.yield h1.nx) ⟨[]⟩ ⟨[]⟩ :: bw.toList)) ⟨h1.nx + 1, aP⟩ (I3 s df k h1.nx) := b9 _ yX
 have gS : (φ.put h1.nx (.live w1.heap.size 0 0)) h1.nx = some (.live w1.heap.size 0 0) := ak.gj _ _ _
 have iW : LR (φ.put h1.nx (.live w1.heap.size 0 0)) (first.toList ++ (.func (.yield h1.nx) ⟨[]⟩ ⟨[]⟩ :: bw.toList)) ((iZ ++ #[Value.func (.yield w1.heap.size) #[] #[]]) ++ iA).toList := by
  have := LR.append (LR.cons _ _ _ _ (VR.func (.yield h1.nx) (.yield w1.heap.size) ⟨[]⟩ #[] ⟨[]⟩ #[] (.yield _ _ (by rw [gS]; simp) (fun b d n hh => by rw [gS] at hh; cases hh; rfl)) .nil .nil) (LR.ext oT tZ)) (LR.ext oT tY)
  simpa using this
 have mN := stepR_rangeFunc (P := P) (b := b) (a := a) (k := todo) (cs := cs) (w := w) (g := g) (ps := ps) (assign := assign) (body := body) (d := { target := .fn (.func gf) iA, args := iZ ++ #[.func (.yield w1.heap.size) #[] #[]] })
  (f := gf) (args := (iZ ++ #[.func (.yield w1.heap.size) #[] #[]]) ++ iA) abt
  (by
   have Da : a.eval (.const (.func (.yield w1.heap.size) #[] #[])) = .func (.yield w1.heap.size) #[] #[] := rfl
   simp [resolve, rangeCall, hg, Deferred.ofValue, Da]; rfl) (yH hC.1 _ _)
 obtain ⟨E, w3, fr, ⟨r, h3, φ3, QZ, I4, Q0, H3, yI⟩, yJ, iX, yK⟩ := hC.2 _ _ _ iW H1 (b.atR { a with defers := mark ++ a.defers } (.inRangeFunc w1.heap.size :: todo) :: cs)
 have hE : Ext N φ φ3 := (oT.mono hN).trans I4 (Nat.le_trans hN (Nat.le_succ _))
 have Q1 : N ≤ h3.nx := by have : h1.nx + 1 ≤ h3.nx := Q0; omega
 have Q2 : DL φ3 df ({ a with defers := mark ++ a.defers } : Act).defers := rK.ext hE
 cases r with
 | az v =>
  obtain ⟨v', rfl, js⟩ := yI
  refine ⟨.az v, ⟨s.tm, df, s.rc, h3⟩, φ3, cs, { a with defers := mark ++ a.defers }, w3, QZ, hE, Q1, ⟨Q2, jt.ext hE, H3⟩, ⟨.inRangeFunc w1.heap.size :: todo, v', js, .head mN (Steps.trans yJ (.one ?_))⟩⟩
  have := step_leave_panicked (c := b.atR { a with defers := mark ++ a.defers } (.inRangeFunc w1.heap.size :: todo)) (cs := cs) yK
  rw [Frame.raise_atR] at this
  exact this
 | ret v =>
  obtain ⟨v', rfl, js⟩ := yI
  have nP := step_leave_returned (c := b.atR { a with defers := mark ++ a.defers } (.inRangeFunc w1.heap.size :: todo)) (cs := cs) yK
  rw [finish_atR_inRangeFunc] at nP
  obtain ⟨lp, Db, hk4⟩ := yY QZ
  obtain ⟨Dc, hk5⟩ := bJ hk4
  obtain ⟨I5, abu, hk6⟩ := l5 hk5
  have abv : φ3 h1.nx ≠ none := I4.bS (by rw [gS]; simp)
  obtain ⟨b2, d2, n2, Dd, Q3, I6, De, hl5⟩ := H3.loop abv Db
  have kQ : b2 = w1.heap.size := by
   have := I4.live (by rw [gS]; simp) Q3
   rw [gS] at this; cases this; rfl
  subst kQ
  have abw : Dd.state ≠ .busy := by
   rw [De.state]
   intro hh
   rw [hh] at Dc; cases Dc
  have Df := stepR_endRangeFunc (P := P) (b := b) (a := { a with defers := mark ++ a.defers }) (k := todo) (cs := cs) (run_endLoop I6 abw)
  have Q4 := De.hZ .exhausted lp.db
  rw [show ({ Dd with state := .exhausted, pending := lp.db } : Loop) = { Dd with state := .exhausted } from by rw [← De.db]] at Q4
  have H4 := H3.IX Q3 I6 hl5 abu Q4
  refine (abq (l := 0) (φ := φ3) (a := { a with defers := mark ++ a.defers }) (N := h3.nx) hk6 ⟨⟨Q2, jt.ext hE, H4⟩, dD.ext hE⟩ (Nat.le_refl _) (m := lone (b.atR { a with defers := mark ++ a.defers } ((Dd.pending.map Item.code).toList ++ todo)) cs _) ?_).of_steps hE Q1 (.head mN (Steps.trans yJ (.head nP (.one Df))))
  rw [De.db]
  exact Steps.refl _ _
theorem abx {rec : Task → Bool} (b9 : ∀ t, rec t = true → cR P w0 t) {g : Operand} {g' : dC} {ps : Array Tmp} {assign body : Code} {x y : cA}
 (hg : mI g = some g') (ew : ∀ t ∈ ps.toList, t < e.nt) (hx : fg P e.nt assign = some x) (hy : fg P e.nt body = some y) (hs : SR P w0 φ e s b cs0 cs a w) (he : kP φ e b)
 (h : Q5 rec e s k g' (ps.toList.map Pos.of) x y = true) : gR P w0 φ s.h.nx e b cs0 (lone (b.atR a (.code (.rangeFunc g ps assign body) :: todo)) cs w) todo k := by
 obtain ⟨v, hv, h1⟩ := IQ (a := a) (s := s) (φ := φ) hg (fun p _ => hs.tm.2 p) h
 rcases IM h1 with ⟨gf, first, bw, rfl, h2⟩ | ⟨l, rfl, h2⟩
 · generalize Q6 : a.eval g = gv at hv
   cases hv with
   | func _ pU _ iZ _ iA iX tY tZ =>
    cases iX
    obtain ⟨hb, oR⟩ := he
    cases Q7 : e.rE with
    | none =>
     rw [Q7] at h2 oR
     have wi : b.roundOf = none := oR
     obtain ⟨aP, bL, h3⟩ := rz h2
     obtain ⟨H1, oT⟩ := hs.heap.new bL (.defs 0 0 false)
     have gS : (φ.put s.h.nx (.live w.heap.size 0 0)) s.h.nx = some (.live w.heap.size 0 0) := ak.gj _ _ _
     refine (QY (φ := φ.put s.h.nx (.live w.heap.size 0 0)) (N := s.h.nx + 1) (w := w) (w1 := w.alloc (.deferred (some []))) (mark := [{ target := .collected w.heap.size, args := #[] }]) (dl' := w.heap.size) b9 ew hx hy Q6 (LR.ext oT tY) (LR.ext oT tZ) hb (hs.tm.ext oT) ?_ (hs.rc.ext oT) H1 (by rw [gS]; simp) (fun b d n hh => by rw [gS] at hh; cases hh; rfl) (Nat.le_refl _) ?_ h3).of_steps oT (Nat.le_succ _) (Steps.refl _ _)
     · exact .cons _ _ _ _ ⟨by rw [gS]; simp, w.heap.size, rfl, fun b d n hh => by rw [gS] at hh; cases hh; rfl⟩ (hs.df.ext oT)
     · rw [wi, run_enterLoop_outer, World.size_alloc]
    | some l =>
     rw [Q7] at h2 oR
     obtain ⟨hk, l', fh, hφ, aby⟩ := oR
     obtain ⟨r, wo, h3⟩ := yY h2
     obtain ⟨bl, d, n, r', e1, e2, e3, e4⟩ := hs.heap.loop hφ wo
     have : l' = bl := aby _ _ _ e1
     subst this
     refine QY (φ := φ) (w := w) (w1 := w) (mark := []) (dl' := r'.defers) b9 ew hx hy Q6 tY tZ hb hs.tm hs.df hs.rc hs.heap e3.defs (fun b d n hh => e3.IW b d n hh) (Nat.le_refl _) ?_ h3
     rw [fh, abo e2]
 · cases h2
theorem Q8 (I7 : QW P w0) {rec : Task → Bool} (b9 : ∀ t, rec t = true → cR P w0 t) : ∀ (c : Code) (ac : cA) (e : Env) (s : St) (k : KS), fg P e.nt c = some ac → I8 rec ac e s k = true →
 ∀ (φ : ak) (b : Frame) (cs0 cs : List Frame) (a : Act) (w : World), SR P w0 φ e s b cs0 cs a w → kP φ e b → ∀ it, IJ c it → ∀ todo, gR P w0 φ s.h.nx e b cs0 (lone (b.atR a (it :: todo)) cs w) todo k := by
 intro c
 induction c with
 | skip =>
  intro ac e s k hc h φ b cs0 cs a w hs he it eX todo
  rcases eX with rfl | ⟨c', fi, _⟩
  · cases hc; exact ⟨.normal, s, φ, cs, a, w, h, Ext.refl _ _, Nat.le_refl _, hs, .one stepR_skip⟩
  · cases fi
 | label l =>
  intro ac e s k hc h φ b cs0 cs a w hs he it eX todo
  rcases eX with rfl | ⟨c', fi, _⟩
  · cases hc; exact ⟨.normal, s, φ, cs, a, w, h, Ext.refl _ _, Nat.le_refl _, hs, .one stepR_label⟩
  · cases fi
 | region id ops draw =>
  intro ac e s k hc h φ b cs0 cs a w hs he it eX todo
  rcases eX with rfl | ⟨c', fi, _⟩
  · cases draw with
    | false =>
     simp only [fg, Option.map_eq_some_iff] at hc
     obtain ⟨l, hl, rfl⟩ := hc
     exact (abn b9 (abl hl) hs he h).of_steps (Ext.refl _ _) (Nat.le_refl _) (.one stepR_region)
    | true =>
     simp only [fg] at hc
     split at hc
     · rename_i l hl
       split at hc
       · rename_i dl rM
         cases hc
         exact I7 rec b9 e b cs0 todo k id ops l dl hl rM φ s cs a w hs he h
       · cases hc; exact Bool.noConfusion (show false = true from h)
     · cases hc
  · cases fi
 | seq c1 c2 wq Q9 =>
  intro ac e s k hc h φ b cs0 cs a w hs he it eX todo
  rcases eX with rfl | ⟨c', fi, _⟩
  · simp only [fg] at hc
    split at hc
    · rename_i x y hx hy
      cases hc
      have hC : cR P w0 (.code x e s (yU rec y e k)) := b9 _ h
      have g := hC c1 hx φ b cs0 cs a w hs he _ (.inl rfl) (.code c2 :: todo)
      exact (QX b9 hy (.inl rfl) (fun _ => by simp [exitTo]) he g).of_steps (Ext.refl _ _) (Nat.le_refl _) (.one stepR_seq)
    · cases hc
  · cases fi
 | cond c c1 c2 wq Q9 =>
  intro ac e s k hc h φ b cs0 cs a w hs he it eX todo
  rcases eX with rfl | ⟨c', fi, _⟩
  · simp only [fg] at hc
    split at hc
    · rename_i c0 x y tW hx hy
      cases hc
      obtain ⟨v, hv, h1⟩ := IQ (a := a) (s := s) (φ := φ) tW (fun p _ => hs.tm.2 p) h
      obtain ⟨t, rfl, h2⟩ := yZ h1
      have Da := VR.oM hv
      cases t with
      | true =>
       have hC : cR P w0 (.code x e s k) := b9 _ h2
       exact (hC c1 hx φ b cs0 cs a w hs he _ (.inl rfl) todo).of_steps (Ext.refl _ _) (Nat.le_refl _) (.one (stepR_cond Da))
      | false =>
       have hC : cR P w0 (.code y e s k) := b9 _ h2
       exact (hC c2 hy φ b cs0 cs a w hs he _ (.inl rfl) todo).of_steps (Ext.refl _ _) (Nat.le_refl _) (.one (stepR_cond Da))
    · cases hc
  · cases fi
 | block id c1 wq =>
  intro ac e s k hc h φ b cs0 cs a w hs he it eX todo
  rcases eX with rfl | ⟨c', fi, _⟩
  · simp only [fg, Option.map_eq_some_iff] at hc
    obtain ⟨x, hx, rfl⟩ := hc
    have hC : cR P w0 (.code x e s (IV id k)) := b9 _ h
    exact (abp (hC c1 hx φ b cs0 cs a w hs he _ (.inl rfl) (.inBlock id :: todo))).of_steps (Ext.refl _ _) (Nat.le_refl _) (.one stepR_block)
  · cases fi
 | loop c1 wq =>
  intro ac e s k hc h φ b cs0 cs a w hs he it eX todo
  have tW := hc
  simp only [fg, Option.map_eq_some_iff] at hc
  obtain ⟨x, hx, rfl⟩ := hc
  have hC : cR P w0 (.code x e s (yU rec (.loop x) e k)) := b9 _ h
  have g := QX (c2 := .loop c1) b9 tW (.inr ⟨c1, rfl, rfl⟩) (fun _ => by simp [exitTo]) he (hC c1 hx φ b cs0 cs a w hs he _ (.inl rfl) (.inLoop c1 :: todo))
  rcases eX with rfl | ⟨c', fi, rfl⟩
  · exact g.of_steps (Ext.refl _ _) (Nat.le_refl _) (.one stepR_loop)
  · cases fi
    exact g.of_steps (Ext.refl _ _) (Nat.le_refl _) (.one stepR_inLoop)
 | scope c1 wq =>
  intro ac e s k hc h φ b cs0 cs a w hs he it eX todo
  rcases eX with rfl | ⟨c', fi, _⟩
  · have g := wq ac e s k (by simpa only [fg] using hc) h φ b cs0 cs a w hs he _ (.inl rfl) (.inScope c1 :: todo)
    refine gR.of_steps (Ext.refl _ _) (Nat.le_refl _) (.one step_scope) (g.bind fun x s1 φ1 dQ a1 w1 h1 h2 h3 h4 h5 => ?_)
    cases x with
    | normal => exact ⟨.normal, s1, φ1, dQ, a1, w1, h1, h2, h3, h4, Steps.trans h5 (.one step_inScope)⟩
    | exit id => obtain ⟨k1, h6, h7⟩ := h5; exact ⟨.exit id, s1, φ1, dQ, a1, w1, h1, h2, h3, h4, k1, by rw [h6]; simp [exitTo], h7⟩
    | ret => exact ⟨.ret, s1, φ1, dQ, a1, w1, h1, h2, h3, h4, h5⟩
    | az v => exact ⟨.az v, s1, φ1, dQ, a1, w1, h1, h2, h3, h4, h5⟩
  · cases fi
 | rangeFunc g ps c1 c2 wq Q9 =>
  intro ac e s k hc h φ b cs0 cs a w hs he it eX todo
  rcases eX with rfl | ⟨c', fi, _⟩
  · simp only [fg] at hc
    split at hc
    · rename_i g' x y hg hx hy
      split at hc
      · rename_i ew
        cases hc
        exact abx b9 hg (fun t ht => by simpa using List.all_eq_true.1 ew t ht) hx hy hs he h
      · cases hc
    · cases hc
  · cases fi
 | exit id =>
  intro ac e s k hc h φ b cs0 cs a w hs he it eX todo
  rcases eX with rfl | ⟨c', fi, _⟩
  · cases hc; exact ⟨.exit id, s, φ, cs, a, w, h, Ext.refl _ _, Nat.le_refl _, hs, todo, rfl, Steps.refl _ _⟩
  · cases fi
 | ret =>
  intro ac e s k hc h φ b cs0 cs a w hs he it eX todo
  rcases eX with rfl | ⟨c', fi, _⟩
  · cases hc; exact ⟨.ret, s, φ, cs, a, w, h, Ext.refl _ _, Nat.le_refl _, hs, todo, Steps.refl _ _⟩
  · cases fi
 | goto l => intro ac e s k hc h; cases hc; exact Bool.noConfusion (show false = true from h)
 | refuse why => intro ac e s k hc h; cases hc; exact Bool.noConfusion (show false = true from h)
end
end Go.Ve
namespace Go.Ve
open Go.RowKit
section
variable {P : Program} {w0 w : World} {φ : ak} {h : AH}
theorem I9 {f : FuncId} {af : fU} (h : bN P f = some af) : ∃ fn c, P.funcs[f]? = some fn ∧ Can P f ∧ fn.body = some c ∧ fn.results.toList.mapM (oU P) = some af.results ∧ fg P fn.ntmps c = some af.code ∧ af.ntmps = fn.ntmps := by
 unfold bN at h
 split at h
 · cases h
 · rename_i fn hf
   split at h
   · cases h
   · rename_i hn
     split at h
     · cases h
     · rename_i c hb
       split at h
       · rename_i rs ac hr hc
         cases h
         exact ⟨fn, c, hf, ⟨fn, hf, by simpa using hn, by simp [hb]⟩, hb, hr, hc, rfl⟩
       · cases h
theorem Ra : ∀ (vs : List Value) {i : Nat} {t : PT} {k : PT → Bool}, qi i vs t k = true → ∃ t', k t' = true ∧ ∀ p : Pos, t'.get p = if i ≤ p.un ∧ p.un < i + vs.length then vs.getD (p.un - i) undef else t.get p := by
 intro vs
 induction vs with
 | nil => intro i t k h; exact ⟨t, h, fun p => by rw [if_neg (by simp)]⟩
 | cons v vs ih =>
  intro i t k h
  have h' : PT.fm (Pos.of i) t v (fun t => qi (i + 1) vs t k) = true := h
  rw [PT.kK] at h'
  obtain ⟨t', h1, h2⟩ := ih h'
  refine ⟨t', h1, fun p => ?_⟩
  rw [h2, PT.cQ]
  by_cases h3 : p.un = i
  · have hp : p = Pos.of i := Pos.rm (by rw [Pos.j3]; exact h3)
    rw [if_neg (by omega), if_pos hp, if_pos (by simp; omega)]
    simp [h3]
  · have hp : ¬ p = Pos.of i := fun e => h3 (by rw [e, Pos.j3])
    by_cases h4 : i + 1 ≤ p.un ∧ p.un < i + 1 + vs.length
    · rw [if_pos h4, if_pos (by simp; omega)]
      have : p.un - i = (p.un - (i + 1)) + 1 := by omega
      rw [this]; simp
    · rw [if_neg h4, if_neg hp, if_neg (by simp; omega)]
theorem Rb {args : List Value} {args' : Array Value} {t : PT} {n : Nat} (hl : LR φ args args'.toList) (ht : ∀ p : Pos, t.get p = if 0 ≤ p.un ∧ p.un < 0 + args.length then args.getD (p.un - 0) undef else PT.e.get p) :
 TR φ t n (args' ++ Array.replicate (n - args'.size) undef) := by
 have hlen : args.length = args'.size := by rw [hl.length]; simp
 refine ⟨by simp; omega, fun p => ?_⟩
 rw [ht p]
 by_cases h : p.un < args.length
 · rw [if_pos (by omega)]
   have h1 : args[p.un]? = some args[p.un] := by simp [h]
   obtain ⟨v', h2, h3⟩ := hl.get _ _ h1
   have h4 : (args' ++ Array.replicate (n - args'.size) undef).getD p.un undef = v' := by
    rw [Array.getD_eq_getD_getElem?, Array.getElem?_append_left (by omega)]
    rw [← Array.getElem?_toList, h2]; rfl
   rw [h4]
   have h5 : args.getD (p.un - 0) undef = args[p.un] := by simp [h]
   rw [h5]; exact h3
 · rw [if_neg (by omega), PT.P2]
   have h4 : (args' ++ Array.replicate (n - args'.size) undef).getD p.un undef = undef := by
    rw [Array.getD_eq_getD_getElem?, Array.getElem?_append_right (by omega)]
    by_cases h6 : p.un - args'.size < n - args'.size
    · simp [Array.getElem?_replicate, h6]
    · rw [Array.getElem?_eq_none (by simp; omega)]; rfl
   rw [h4]; exact VR.undef φ
theorem abz {t : TypeId} {d : TypeDesc} {n : Nat} {x : Value} {a : Addr} (hu : P.underlying t = some d) (hd : kR d = true) (hz : dL P t = some n) (H : HR P w0 φ h w) (hv : VR φ x (.pointer (some a))) {k : List Value → Bool}
 (e : gG x (fun b o => j9 h b o n k) = true) : ∃ l l', (loadVar t a).run P w = .ok (.agg l') w ∧ LR φ l l'.toList ∧ k l = true := by
 obtain ⟨i, hi, rfl⟩ := j7 hz
 obtain ⟨a0, ag, e'⟩ := j6 e; clear e; subst ag; have e := e'; clear e'
 obtain ⟨a', ha, hs, cb⟩ := hv.ja
 cases ha
 obtain ⟨lo, Dg, ty, rw, c, l, h1, h2, h3, h4, h5, h6⟩ := ry e
 obtain ⟨l', hl, bF⟩ := H.cells hs cb h1 h2 (by omega) h5
 refine ⟨l, l'.toArray, ?_, by simpa using hl, h6⟩
 rw [h4] at bF
 simp [loadVar, qj hu, hd, hY hi, bF w rfl]
theorem abA {t : TypeId} {d : TypeDesc} {x : Value} {a : Addr} (hu : P.underlying t = some d) (hd : kR d = false) (H : HR P w0 φ h w) (hv : VR φ x (.pointer (some a))) {k : Value → Bool}
 (e : gG x (fun b o => oV h b o k) = true) : ∃ v v', (loadVar t a).run P w = .ok v' w ∧ VR φ v v' ∧ k v = true := by
 obtain ⟨a0, ag, e'⟩ := j6 e; clear e; subst ag; have e := e'; clear e'
 obtain ⟨a', ha, hs, cb⟩ := hv.ja
 cases ha
 obtain ⟨lo, hi, ty, rw, c, v, h1, h2, h3, h4, h5⟩ := Dh e
 obtain ⟨v', hc, y0⟩ := H.cell hs cb h1 (j := 0) (by omega) (by omega) (by simpa using h4)
 refine ⟨v, v', ?_, y0, h5⟩
 have : a.add 0 = a := rfl
 rw [this] at hc
 simp [loadVar, qj hu, hd, hc]
def wu (tmps : Array Value) : ResultVar → Sem Value
 | .tmp t => pure (tmps.getD t undef)
 | .cell a t => do loadVar t (← asAddr (tmps.getD a undef))
theorem abB (fn : Func) (tmps : Array Value) : results fn tmps = (do let vs ← fn.results.mapM (wu tmps); pure (if h : vs.size = 1 then vs[0] else .tuple vs)) := by
 unfold results
 congr 1
theorem abC {tmps : Array Value} {tm : PT} {n : Nat} (ht : TR φ tm n tmps) (H : HR P w0 φ h w) : ∀ {rs : List ResultVar} {as : List j4} {k : List Value → Bool}, rs.mapM (oU P) = some as → jM as tm h k = true →
 ∃ vs gm, (rs.mapM (wu tmps)).run P w = .ok gm w ∧ LR φ vs gm ∧ k vs = true := by
 intro rs
 induction rs with
 | nil => intro as k hm h; simp at hm; subst hm; exact ⟨[], [], by simp [Sem.run], .nil, h⟩
 | cons r rs ih =>
  intro as k hm hk
  rw [List.mapM_cons] at hm
  cases hr : oU P r with
  | none => simp [hr] at hm
  | some a =>
   cases rN : rs.mapM (oU P) with
   | none => simp [hr, rN] at hm
   | some oQ =>
    simp [hr, rN] at hm
    subst hm
    have key : ∃ v v' , (wu tmps r).run P w = .ok v' w ∧ VR φ v v' ∧ jM oQ tm h (fun vs => k (v :: vs)) = true := by
     cases r with
     | tmp t =>
      cases hr
      have dc : PT.cY (Pos.of t) tm (fun v => jM oQ tm h fun vs => k (v :: vs)) = true := hk
      rw [PT.iY] at dc
      have := ht.2 (Pos.of t)
      rw [Pos.j3] at this
      exact ⟨_, _, by simp [wu, Sem.run], this, dc⟩
     | cell ad t =>
      simp only [oU] at hr
      split at hr
      · rename_i d s hu hs
        have hv := ht.2 (Pos.of ad)
        rw [Pos.j3] at hv
        split at hr
        · rename_i hd
          cases hr
          have dc : PT.cY (Pos.of ad) tm (fun v => gG v fun b o => j9 h b o s fun l => jM oQ tm h fun vs => k (.agg ⟨l⟩ :: vs)) = true := hk
          rw [PT.iY] at dc
          obtain ⟨a0, hp, _⟩ := j6 dc
          have l6 := hv
          rw [hp] at l6
          obtain ⟨a', ha, _⟩ := l6.ja
          rw [ha] at hv
          obtain ⟨l, l', h1, h2, h3⟩ := abz hu hd hs H hv dc
          exact ⟨.agg ⟨l⟩, .agg l', by simp [wu, ha, asAddr, Sem.run_bind, Result.andThen, h1], .agg _ _ h2, h3⟩
        · rename_i hd
          cases hr
          have dc : PT.cY (Pos.of ad) tm (fun v => gG v fun b o => oV h b o fun x => jM oQ tm h fun vs => k (x :: vs)) = true := hk
          rw [PT.iY] at dc
          obtain ⟨a0, hp, _⟩ := j6 dc
          have l6 := hv
          rw [hp] at l6
          obtain ⟨a', ha, _⟩ := l6.ja
          rw [ha] at hv
          obtain ⟨v, v', h1, h2, h3⟩ := abA hu (by simpa using hd) H hv dc
          exact ⟨v, v', by simp [wu, ha, asAddr, Sem.run_bind, Result.andThen, h1], h2, h3⟩
      · cases hr
    obtain ⟨v, v', h1, h2, h3⟩ := key
    obtain ⟨vs, gm, h4, h5, h6⟩ := ih rN h3
    refine ⟨v :: vs, v' :: gm, ?_, .cons _ _ _ _ h2 h5, h6⟩
    rw [List.mapM_cons]
    simp [Sem.run_bind, h1, h4, Result.andThen, Sem.run]
theorem abD {vs : List Value} {k : Value → Bool} (h : za vs k = true) : ∃ v, (vs = [v] ∨ ((∀ x, vs ≠ [x]) ∧ v = .tuple ⟨vs⟩)) ∧ k v = true := by
 match vs with
 | [] => exact ⟨_, .inr ⟨fun x hx => (by cases hx), rfl⟩, h⟩
 | [v] => exact ⟨v, .inl rfl, h⟩
 | a :: b :: l => exact ⟨_, .inr ⟨fun x hx => (by cases hx), rfl⟩, h⟩
theorem Re {fn : Func} {tmps : Array Value} {tm : PT} {n : Nat} {as : List j4} {k : Value → Bool} (ht : TR φ tm n tmps) (H : HR P w0 φ h w) (hm : fn.results.toList.mapM (oU P) = some as) (hk : jM as tm h (fun vs => za vs k) = true) :
 ∃ v v', (results fn tmps).run P w = .ok v' w ∧ VR φ v v' ∧ k v = true := by
 obtain ⟨vs, gm, h1, h2, h3⟩ := abC ht H hm hk
 obtain ⟨v, h4, h5⟩ := abD h3
 rw [abB, Array.mapM_eq_mapM_toList]
 refine ⟨v, if h : gm.toArray.size = 1 then gm.toArray[0] else .tuple gm.toArray, ?_, ?_, h5⟩
 · simp only [Sem.run_bind, map_eq_pure_bind, h1, Result.andThen, Sem.run_pure]
 · rcases h4 with rfl | ⟨cG, rfl⟩
   · obtain ⟨x', hx, hv⟩ := LR.one h2
     subst hx
     simpa using hv
   · have hl := h2.length
     rw [dif_neg]
     · exact .eW _ _ h2
     · intro dW
       simp at dW
       rw [← hl] at dW
       obtain ⟨x, hx⟩ := List.length_eq_one_iff.1 dW
       exact cG x hx
theorem rF.Ja {m : Option Value} {u : FrameMode} (h : rF φ m u) : u ≠ .run := by
 cases m with
 | none => intro e; rw [show u = .returning from h] at e; cases e
 | some v => obtain ⟨v', rfl, _⟩ := h; intro e; cases e
theorem DL.cons_inv {d : eg} {l : List eg} {l' : List Deferred} (h : DL φ (d :: l) l') : ∃ d' m, l' = d' :: m ∧ DR φ d d' ∧ DL φ l m := by
 cases h with | cons _ d' _ m h1 h2 => exact ⟨d', m, rfl, h1, h2⟩
theorem DL.tU {l' : List Deferred} (h : DL φ [] l') : l' = [] := by cases h; rfl
theorem Jb {rec : Task → Bool} (b9 : ∀ t, rec t = true → cR P w0 t) {ds : List eg} {m : Option Value} {k : Option Value → AH → Bool} (e : Jc rec ds m h k = true) : lr P w0 ds m h k := by
 intro φ fr cs w hd hm H
 cases ds with
 | nil =>
  have h0 := hd.tU
  refine ⟨m, h, φ, w, fr.mode, e, Ext.refl _ _, Nat.le_refl _, H, hm, ?_⟩
  have : ({ fr with defers := [], mode := fr.mode } : Frame) = fr := by rw [← h0]
  rw [this]
  exact Steps.refl _ _
 | cons d ds =>
  obtain ⟨d', iE, Jd, Rf, tL⟩ := hd.cons_inv
  cases d with
  | nJ r =>
   obtain ⟨t, h1, e1⟩ := abE (show wv h r _ = true from e)
   obtain ⟨ht, e2⟩ := bJ e1
   cases t with
   | true => cases ht
   | false =>
    obtain ⟨aP, bL, e3⟩ := l5 e2
    obtain ⟨wo, r', rfl, hr2⟩ := Rf
    obtain ⟨b, dd, n, o', q1, q2, q3, q4⟩ := H.live wo h1
    have hb := hr2 _ _ _ q1
    subst hb
    cases q3 with
    | defs _ _ _ =>
     have bz : r' < w.heap.size := (Array.getElem?_eq_some_iff.1 q2).1
     have H2 : HR P w0 φ ⟨h.nx, aP⟩ (w.putObj r' (.deferred none)) :=
      H.hZ (h' := ⟨h.nx, aP⟩) q1 bL rfl (.defs dd n true) (q4 rfl) (World.putObj_heap_same bz) (fun k hk => World.putObj_heap_other hk) World.putObj_size rfl rfl rfl
     have mN := step_collected (P := P) (fr := fr) (cs := cs) (rF.Ja hm) Jd rfl (run_takeDeferred q2)
     have hL : lr P w0 ds m ⟨h.nx, aP⟩ k := b9 _ e3
     obtain ⟨m', h', φ', w', u, a1, a2, a3, a4, a5, a6⟩ := hL φ { fr with defers := [] ++ iE } cs _ tL hm H2
     exact ⟨m', h', φ', w', u, a1, a2, a3, a4, a5, .head mN a6⟩
  | fn f args =>
   obtain ⟨bw, args', rfl, hl⟩ := Rf
   cases m with
   | none =>
    have e1 : rec (.wh f args .off h fun _ h => rec (.leave ds none h k)) = true := e
    have hD : C3 P w0 f args .off h (fun _ h => rec (.leave ds none h k)) := b9 _ e1
    have Je : fr.mode = .returning := hm
    have mN := step_defer (P := P) (w := w) (fr := fr) (cs := cs) (rF.Ja hm) Jd rfl (yH hD.1 _ _)
    obtain ⟨wg, h', φ', w', c', nQ, v, a1, a2, a3, a4, a5, a6, a7, a8⟩ := hD.2 φ _ w { fr with defers := iE } cs hl H Je
    have fi : c' = { fr with defers := iE } := by
     cases wg with
     | off => exact a5.1
     | can v => exact a5.1
     | j8 => obtain ⟨v', js, _⟩ := a5; rw [show ({ fr with defers := iE } : Frame).mode = .returning from Je] at js; cases js
    subst fi
    have nP := step_going_returned (P := P) (c := { fr with defers := iE }) (cs := cs) a7 a8
    have bL : settle ({ fr with defers := iE } : Frame).mode = .returning := by rw [show ({ fr with defers := iE } : Frame).mode = .returning from Je]; rfl
    rw [bL] at nP
    have hL : lr P w0 ds none h' k := b9 _ a1
    obtain ⟨m', h2, φ2, w2, u, b1, b2, b3, b4, b5, b6⟩ := hL φ' ({ fr with defers := iE, mode := .returning } : Frame) cs w' (tL.ext a2) rfl a4
    exact ⟨m', h2, φ2, w2, u, b1, a2.trans b2 a3, Nat.le_trans a3 b3, b4, b5, .head mN (Steps.trans a6 (.head nP b6))⟩
   | some v =>
    have e1 : rec (.wh f args (.can v) h (Jf rec ds k)) = true := e
    have hD : C3 P w0 f args (.can v) h (Jf rec ds k) := b9 _ e1
    have mN := step_defer (P := P) (w := w) (fr := fr) (cs := cs) (rF.Ja hm) Jd rfl (yH hD.1 _ _)
    obtain ⟨wg, h', φ', w', c', nQ, v2, a1, a2, a3, a4, a5, a6, a7, a8⟩ := hD.2 φ _ w { fr with defers := iE } cs hl H hm
    have nP := step_going_returned (P := P) (c := c') (cs := cs) a7 a8
    cases wg with
    | off => cases a1
    | can v3 =>
     obtain ⟨rfl, v', q1, q2⟩ := a5
     have bL : settle ({ fr with defers := iE } : Frame).mode = .panicking [{ v := v', recovered := false }] := by rw [q1]; rfl
     rw [bL] at nP
     have hL : lr P w0 ds (some v3) h' k := b9 _ a1
     obtain ⟨m', h2, φ2, w2, u, b1, b2, b3, b4, b5, b6⟩ := hL φ' ({ fr with defers := iE, mode := .panicking [{ v := v', recovered := false }] } : Frame) cs w' (tL.ext a2) ⟨v', rfl, q2⟩ a4
     exact ⟨m', h2, φ2, w2, u, b1, a2.trans b2 a3, Nat.le_trans a3 b3, b4, b5, .head mN (Steps.trans a6 (.head nP b6))⟩
    | j8 =>
     obtain ⟨v', q1, rfl⟩ := a5
     have hL : lr P w0 ds none h' k := b9 _ a1
     obtain ⟨m', h2, φ2, w2, u, b1, b2, b3, b4, b5, b6⟩ := hL φ' ({ fr with defers := iE, mode := .returning } : Frame) cs w' (tL.ext a2) rfl a4
     exact ⟨m', h2, φ2, w2, u, b1, a2.trans b2 a3, Nat.le_trans a3 b3, b4, b5, .head mN (Steps.trans a6 (.head nP b6))⟩
def kb (f : FuncId) (kind : CallKind) : Frame := { (default : Frame) with fn := f, kind, roundOf := none }
theorem Rg {f : FuncId} {fn : Func} {c : Code} (hf : P.funcs[f]? = some fn) (hb : fn.body = some c) (args : Array Value) (kind : CallKind) :
 Frame.enter P f args kind = (kb f kind).atR { tmps := args ++ Array.replicate (fn.ntmps - args.size) undef, defers := [] } [.code c] := by
 simp [Frame.enter, Frame.atR, hf, hb, kb]
variable {prog : NT fU}
theorem qc.normal {rc : Rc} {b : Frame} {cs0 cs : List Frame} (h : qc φ rc b cs0 cs) (hb : b.kind = .normal) : cs = cs0 := by
 cases rc with
 | off => exact h.1
 | can v => exact h.1
 | j8 => have h1 := h.1; rw [hb] at h1; cases h1
theorem Jg {N : Nat} {f : FuncId} {fn : Func} {k : CR → AH → Bool} {fr : Frame} {cs : List Frame} {ds : List eg} {m : Option Value} {kl : Option Value → AH → Bool} {m0 : Machine}
 (hL : lr P w0 ds m h kl) (hd : DL φ ds fr.defers) (hm : rF φ m fr.mode) (H : HR P w0 φ h w) (iX : fr.fn = f) (hf : P.funcs[f]? = some fn) (abF : fr.kind = .normal) (gQ : Steps P m0 (lone fr cs w)) (hN : N ≤ h.nx)
 (Jh : ∀ m' h', kl m' h' = true → (∃ v, m' = some v ∧ k (.az v) h' = true) ∨ (m' = none ∧ (∀ φ' w', Ext h.nx φ φ' → HR P w0 φ' h' w' → ∃ v v', (Go.results fn fr.tmps).run P w' = .ok v' w' ∧ VR φ' v v' ∧ k (.ret v) h' = true))) :
 ∃ E w' nQ, (∃ r h' φ', k r h' = true ∧ Ext N φ φ' ∧ N ≤ h'.nx ∧ HR P w0 φ' h' w' ∧ yD φ' r E) ∧ Comes P m0 (lone nQ cs w') E ∧ nQ.fn = f ∧ nQ.leaving P w' E := by
 obtain ⟨m', h', φ', w', u, a1, a2, a3, a4, a5, a6⟩ := hL φ fr cs w hd hm H
 rcases Jh m' h' a1 with ⟨v, rfl, hk⟩ | ⟨rfl, hk⟩
 · obtain ⟨v', rfl, hv⟩ := a5
   exact ⟨.panicked [{ v := v', recovered := false }], w', { fr with defers := [], mode := .panicking [{ v := v', recovered := false }] }, ⟨.az v, h', φ', hk, a2.mono hN, Nat.le_trans hN a3, a4, v', rfl, hv⟩, Steps.trans gQ a6, iX, rfl, rfl, fn, by rw [← hf, ← iX]⟩
 · have hu : u = .returning := a5
   subst hu
   obtain ⟨v, v', b1, b2, b3⟩ := hk φ' w' a2 a4
   exact ⟨.returned v', w', { fr with defers := [], mode := .returning }, ⟨.ret v, h', φ', b3, a2.mono hN, Nat.le_trans hN a3, a4, v', rfl, b2⟩, Steps.trans gQ a6, iX, rfl, rfl, abF, fn, by rw [← hf, ← iX], b1⟩
theorem results_none {fn : Func} (hm : fn.results.toList.mapM (oU P) = some []) (tmps : Array Value) (w : World) : (results fn tmps).run P w = .ok (.tuple #[]) w := by
 have : fn.results = #[] := by
  cases hl : fn.results.toList with
  | nil => exact Array.toList_eq_nil_iff.1 hl
  | cons r rs =>
   rw [hl, List.mapM_cons] at hm
   cases hr : oU P r with
   | none => simp [hr] at hm
   | some a =>
    cases rN : rs.mapM (oU P) with
    | none => simp [hr, rN] at hm
    | some oQ => simp [hr, rN] at hm
 simp [results, this, Sem.run_bind, Result.andThen]
theorem HR.forget (H : HR P w0 φ h w) {f : Nat} (hf : φ f = none) {h' : AH} (bL : h.ob.gP f none h'.ob) (ib : h'.nx = h.nx) : HR P w0 φ h' w := by
 refine ⟨H.inj, by rw [ib]; exact H.fresh, fun g hg => ?_, fun g hg => ?_, fun g b d n hg => ?_, H.below⟩
 · rw [ib] at hg
   by_cases cS : g = f
   · subst cS; exact bL.1
   · rw [bL.2 g cS]; exact H.top g hg
 · have cS : g ≠ f := fun e => by subst e; rw [hf] at hg; cases hg
   rw [bL.2 g cS]; exact H.dead g hg
 · have cS : g ≠ f := fun e => by subst e; rw [hf] at hg; cases hg
   obtain ⟨o1, o2, a1, a2⟩ := H.obj g b d n hg
   exact ⟨o1, o2, by rw [bL.2 g cS]; exact a1, a2⟩
theorem Di {bS : List Nat} : ∀ (n : Nat) {b : Nat} {φ : ak} {h : AH} {k : AH → Bool}, HR P w0 φ h w → Dj bS n b h k = true → ∃ φ' h', k h' = true ∧ HR P w0 φ' h' w ∧ h'.nx = h.nx ∧ ∀ N, Ext N φ φ'
 | 0, b, φ, h, k, H, e => ⟨φ, h, e, H, rfl, fun N => Ext.refl N φ⟩
 | n + 1, b, φ, h, k, H, e => by
  have e1 : fN (Nat.succ b) (fun b' => bif oW bS b then Dj bS n b' h k else ff h b none fun h => Dj bS n b' h k) = true := e
  rw [bH] at e1
  cases hm : oW bS b with
  | true => rw [hm, cond_true] at e1; exact Di n H e1
  | false =>
   rw [hm, cond_false] at e1
   obtain ⟨aP, h1, h2⟩ := l5 e1
   by_cases hb : φ b = none
   · obtain ⟨φ', h', a1, a2, a3, a4⟩ := Di n (H.forget (h' := ⟨h.nx, aP⟩) hb h1 rfl) h2
     exact ⟨φ', h', a1, a2, a3, a4⟩
   · obtain ⟨φ', h', a1, a2, a3, a4⟩ := Di n (H.kill (h' := ⟨h.nx, aP⟩) hb h1 rfl) h2
     exact ⟨φ', h', a1, a2, a3, fun N => (ak.Dk φ N b hb).trans (a4 N) (Nat.le_refl _)⟩
theorem yD.ext {N : Nat} {φ φ' : ak} (hE : Ext N φ φ') {r : CR} {E : _} (h : yD φ r E) : yD φ' r E := by
 cases r with
 | ret v => obtain ⟨v', h1, h2⟩ := h; exact ⟨v', h1, VR.ext hE h2⟩
 | az v => obtain ⟨v', h1, h2⟩ := h; exact ⟨v', h1, VR.ext hE h2⟩
theorem fG.jn {det : Bool} {f : FuncId} {args : List Value} {k : CR → AH → Bool} (hC : fG P w0 f args h (jn det h k)) : fG P w0 f args h k := by
 refine ⟨hC.1, fun φ args' w hl H => Calls.mono (hC.2 φ args' w hl H) fun E w' hR => ?_⟩
 obtain ⟨r, h', φ', h1, h2, h3, h4, h5⟩ := hR
 cases det with
 | false => exact ⟨r, h', φ', h1, h2, h3, h4, h5⟩
 | true =>
  cases r with
  | az v => exact ⟨_, h', φ', h1, h2, h3, h4, h5⟩
  | ret v =>
   have h1 : Ji h k v h' = true := h1
   unfold Ji at h1
   split at h1
   · exact ⟨_, h', φ', (bJ h1).1, h2, h3, h4, h5⟩
   · rw [bH, bH] at h1
     obtain ⟨φ2, qe, a1, a2, a3, a4⟩ := Di _ h4 h1
     exact ⟨_, qe, φ2, (bJ a1).1, h2.trans (a4 _) (Nat.le_refl _), by rw [a3]; exact h3, a2, h5.ext (a4 0)⟩
def Dl (P : Program) (w0 : World) (sums : qk) : Prop := ∀ p ∈ sums, ∀ (args : List Value) (h : AH) (k : CR → AH → Bool), p.2 args h k = true → fG P w0 p.1 args h k
theorem Rh {rec : Task → Bool} (b9 : ∀ t, rec t = true → cR P w0 t) {f : FuncId} {af : fU} (zb : bN P f = some af) {args : List Value} {k : CR → AH → Bool} (e2 : qi 0 args .e (fun tm => rec (.code af.code ⟨f, af.ntmps, none⟩ ⟨tm, [], .off, h⟩ (zc rec af.results k))) = true) : fG P w0 f args h k := by
 obtain ⟨fn, c, hf, fH, hb, mO, Jj, Jk⟩ := I9 zb
 obtain ⟨tm, e3, dD⟩ := Ra _ e2
 refine ⟨fH, fun φ args' w hl H cs => ?_⟩
 rw [Rg hf hb]
 have hC : cR P w0 (.code af.code ⟨f, af.ntmps, none⟩ ⟨tm, [], .off, h⟩ (zc rec af.results k)) := b9 _ e3
 rw [Jk] at hC
 have Jl := Rb (n := fn.ntmps) hl dD
 obtain ⟨x, s1, φ1, dQ, a1, w1, g1, g2, g3, g4, g5⟩ := hC c Jj φ (kb f .normal) cs cs { tmps := args' ++ Array.replicate (fn.ntmps - args'.size) undef, defers := [] } w
  ⟨⟨.nil, ⟨rfl, .inl rfl⟩, H⟩, Jl⟩ ⟨rfl, rfl⟩ (.code c) (.inl rfl) []
 have lv : h.nx ≤ s1.h.nx := g3
 cases x with
 | exit id => cases g1
 | normal =>
  have fj : SR P w0 φ1 ⟨f, fn.ntmps, none⟩ s1 (kb f .normal) cs dQ a1 w1 := g4
  have dP := fj.rc.normal rfl
  subst dP
  have hL : lr P w0 s1.df none s1.h (zd af.results s1.tm k) := b9 _ g1
  obtain ⟨E, w', nQ, ⟨r, h', φ', b1, b2, b3, b4, b5⟩, b6, b7, b8⟩ := Jg (f := f) (fn := fn) (N := s1.h.nx) (k := k) (fr := { (kb f .normal).atR a1 [] with mode := .returning }) (cs := dQ) hL fj.df rfl fj.heap rfl hf rfl (Steps.trans g5 (.one (stepR_end rfl))) (Nat.le_refl _) (fun m' h' hk => by
   cases m' with
   | some v => exact .inl ⟨v, rfl, hk⟩
   | none => exact .inr ⟨rfl, fun φ' w' hE hH => Re (fj.tm.ext hE) hH mO hk⟩)
  exact ⟨E, w', nQ, ⟨r, h', φ', b1, g2.trans b2 lv, Nat.le_trans lv b3, b4, b5⟩, b6, b7, b8⟩
 | ret =>
  obtain ⟨k1, g5⟩ := g5
  have fj : SR P w0 φ1 ⟨f, fn.ntmps, none⟩ s1 (kb f .normal) cs dQ a1 w1 := g4
  have dP := fj.rc.normal rfl
  subst dP
  have hL : lr P w0 s1.df none s1.h (zd af.results s1.tm k) := b9 _ g1
  obtain ⟨E, w', nQ, ⟨r, h', φ', b1, b2, b3, b4, b5⟩, b6, b7, b8⟩ := Jg (f := f) (fn := fn) (N := s1.h.nx) (k := k) (fr := { (kb f .normal).atR a1 (.code .ret :: k1) with mode := .returning }) (cs := dQ) hL fj.df rfl fj.heap rfl hf rfl (Steps.trans g5 (.one (stepR_ret rfl))) (Nat.le_refl _) (fun m' h' hk => by
   cases m' with
   | some v => exact .inl ⟨v, rfl, hk⟩
   | none => exact .inr ⟨rfl, fun φ' w' hE hH => Re (fj.tm.ext hE) hH mO hk⟩)
  exact ⟨E, w', nQ, ⟨r, h', φ', b1, g2.trans b2 lv, Nat.le_trans lv b3, b4, b5⟩, b6, b7, b8⟩
 | az v =>
  obtain ⟨k1, v', hv, g5⟩ := g5
  have fj : SQ P w0 φ1 s1 (kb f .normal) cs dQ a1 w1 := g4
  have dP := fj.rc.normal rfl
  subst dP
  have hL : lr P w0 s1.df (some v) s1.h (Ri af.results k) := b9 _ g1
  obtain ⟨E, w', nQ, ⟨r, h', φ', b1, b2, b3, b4, b5⟩, b6, b7, b8⟩ := Jg (f := f) (fn := fn) (N := s1.h.nx) (k := k) (fr := { (kb f .normal).atR a1 k1 with mode := .panicking [{ v := v', recovered := false }] }) (cs := dQ) hL fj.df ⟨v', rfl, hv⟩ fj.heap rfl hf rfl g5 (Nat.le_refl _) (fun m' h' hk => by
   cases m' with
   | some v => exact .inl ⟨v, rfl, hk⟩
   | none =>
    refine .inr ⟨rfl, fun φ' w' hE hH => ?_⟩
    have dc : (match af.results with | [] => k (.ret (.tuple ⟨[]⟩)) h' | _ => false) = true := hk
    split at dc
    · rename_i hr
      rw [hr] at mO
      exact ⟨_, _, results_none mO _ _, .eW ⟨[]⟩ #[] .nil, dc⟩
    · cases dc)
  exact ⟨E, w', nQ, ⟨r, h', φ', b1, g2.trans b2 lv, Nat.le_trans lv b3, b4, b5⟩, b6, b7, b8⟩
theorem abG (nR : ∀ f af, prog.get f = some af → bN P f = some af) {rec : Task → Bool} (b9 : ∀ t, rec t = true → cR P w0 t) {f : FuncId} {args : List Value} {k0 : CR → AH → Bool} (e : Rj prog rec f args h k0 = true) : fG P w0 f args h k0 := by
 obtain ⟨af, zb, e1⟩ := NT.tM _ _ _ (show NT.cY prog f _ = true from e)
 exact fG.jn (det := af.det) (Rh b9 (nR f af zb) (by cases af; exact e1))
theorem Rk (nR : ∀ f af, prog.get f = some af → bN P f = some af) {rec : Task → Bool} (b9 : ∀ t, rec t = true → cR P w0 t) {f : FuncId} {args : List Value} {k : CR → AH → Bool} : ∀ {sums : qk}, Dl P w0 sums → Dm prog sums rec f args h k = true → fG P w0 f args h k
 | [], _, e => abG nR b9 e
 | (g, S) :: l, hs, e => by
  have e1 : (bif Nat.beq g f then S args h k else Dm prog l rec f args h k) = true := e
  by_cases hg : g = f
  · subst hg
    rw [jG rfl, cond_true] at e1
    exact hs _ (.head _) _ _ _ e1
  · rw [ep hg, cond_false] at e1
    exact Rk nR b9 (fun p hp => hs p (.tail _ hp)) e1
theorem Jm {df : List eg} {k : Bool} (h : rO df k = true) : df = [] ∧ k = true := by cases df with | nil => exact ⟨rfl, h⟩ | cons _ _ => cases h
theorem abH (nR : ∀ f af, prog.get f = some af → bN P f = some af) {rec : Task → Bool} (b9 : ∀ t, rec t = true → cR P w0 t) {f : FuncId} {args : List Value} {rc : Rc} {k : Rc → AH → Bool} (e : Rl prog rec f args rc h k = true) : C3 P w0 f args rc h k := by
 obtain ⟨af, zb, e1⟩ := NT.tM _ _ _ (show NT.cY prog f _ = true from e)
 obtain ⟨fn, c, hf, fH, hb, mO, Jj, Jk⟩ := I9 (nR f af zb)
 have e2 : af.results = [] ∧ qi 0 args .e (fun tm => rec (.code af.code ⟨f, af.ntmps, none⟩ ⟨tm, [], rc, h⟩ (Jn k))) = true := by
  cases af with
  | mk nt rs code det => cases rs with
   | nil => exact ⟨rfl, e1⟩
   | cons _ _ => cases e1
 obtain ⟨ze, e2⟩ := e2
 rw [ze] at mO
 obtain ⟨tm, e3, dD⟩ := Ra _ e2
 refine ⟨fH, fun φ args' w cl cs hl H jt => ?_⟩
 rw [Rg hf hb]
 have hC : cR P w0 (.code af.code ⟨f, af.ntmps, none⟩ ⟨tm, [], rc, h⟩ (Jn k)) := b9 _ e3
 rw [Jk] at hC
 have Jl := Rb (n := fn.ntmps) hl dD
 have yO : qc φ rc (kb f .deferred) (cl :: cs) (cl :: cs) := by
  cases rc with
  | off => exact ⟨rfl, .inr ⟨rfl, cl, cs, rfl, jt⟩⟩
  | can v => obtain ⟨v', q1, q2⟩ := jt; exact ⟨rfl, rfl, cl, cs, v', rfl, q1, q2⟩
  | j8 => exact jt.elim
 obtain ⟨x, s1, φ1, dQ, a1, w1, g1, g2, g3, g4, g5⟩ := hC c Jj φ (kb f .deferred) (cl :: cs) (cl :: cs) { tmps := args' ++ Array.replicate (fn.ntmps - args'.size) undef, defers := [] } w
  ⟨⟨.nil, yO, H⟩, Jl⟩ ⟨rfl, rfl⟩ (.code c) (.inl rfl) []
 have Df : ∀ {dQ : List Frame} {Dn : Rc}, qc φ1 Dn (kb f .deferred) (cl :: cs) dQ → ∃ c', dQ = c' :: cs ∧ QM φ1 Dn cl c' := by
  intro dQ Dn hr
  cases Dn with
  | off =>
   obtain ⟨rfl, hn | ⟨_, c1, rest, hc, hm⟩⟩ := hr
   · cases hn
   · cases hc; exact ⟨cl, rfl, rfl, hm⟩
  | can v => obtain ⟨rfl, _, c1, rest, v', hc, hm, hv⟩ := hr; cases hc; exact ⟨cl, rfl, rfl, v', hm, hv⟩
  | j8 => obtain ⟨_, c1, rest, v', hc, hm, rfl⟩ := hr; cases hc; exact ⟨_, rfl, v', hm, rfl⟩
 cases x with
 | exit id => cases g1
 | az v => cases g1
 | normal =>
  have fj : SR P w0 φ1 ⟨f, fn.ntmps, none⟩ s1 (kb f .deferred) (cl :: cs) dQ a1 w1 := g4
  obtain ⟨rK, hk⟩ := Jm (show rO s1.df (k s1.rc s1.h) = true from g1)
  obtain ⟨c', rfl, zf⟩ := Df fj.rc
  have oX := fj.df
  rw [rK] at oX
  exact ⟨s1.rc, s1.h, φ1, w1, c', { (kb f .deferred).atR a1 [] with mode := .returning }, _, hk, g2, g3, fj.heap, zf, Steps.trans g5 (.one (stepR_end rfl)), rfl, rfl, oX.tU, fn, hf, results_none mO _ _⟩
 | ret =>
  obtain ⟨k1, g5⟩ := g5
  have fj : SR P w0 φ1 ⟨f, fn.ntmps, none⟩ s1 (kb f .deferred) (cl :: cs) dQ a1 w1 := g4
  obtain ⟨rK, hk⟩ := Jm (show rO s1.df (k s1.rc s1.h) = true from g1)
  obtain ⟨c', rfl, zf⟩ := Df fj.rc
  have oX := fj.df
  rw [rK] at oX
  exact ⟨s1.rc, s1.h, φ1, w1, c', { (kb f .deferred).atR a1 (.code .ret :: k1) with mode := .returning }, _, hk, g2, g3, fj.heap, zf, Steps.trans g5 (.one (stepR_ret rfl)), rfl, rfl, oX.tU, fn, hf, results_none mO _ _⟩
end
end Go.Ve
namespace Go.Ve
open Go.RowKit
section
variable {P : Program} {w0 w : World} {φ : ak} {h : AH}
theorem abI : ∀ (ps : List Tmp) {vs : List Value} {gm : List Value} {t : PT} {n : Nat} {tm : Array Value} {k : PT → Bool}, (∀ p ∈ ps, p < n) → LR φ vs gm → TR φ t n tm → wx (ps.map Pos.of) vs t k = true →
 ps.length = gm.length ∧ ∃ t', TR φ t' n ((ps.zip gm).foldl (fun tmps (x : Tmp × Value) => tmps.setIfInBounds x.1 x.2) tm) ∧ k t' = true := by
 intro ps
 induction ps with
 | nil =>
  intro vs gm t n tm k _ hl ht hk
  obtain ⟨hn, dc⟩ := rA (show a0 vs (k t) = true from hk)
  subst hn
  have := hl.tU
  subst this
  exact ⟨rfl, t, by simpa using ht, dc⟩
 | cons p ps ih =>
  intro vs gm t n tm k hp hl ht hk
  cases hl with
  | nil => cases hk
  | cons v v' vs gm hv hl =>
   have dc : PT.fm (Pos.of p) t v (fun t => wx (ps.map Pos.of) vs t k) = true := hk
   rw [PT.kK] at dc
   have rP := ht.set (Pos.of p) (by rw [Pos.j3]; exact hp p (by simp)) hv
   rw [Pos.j3] at rP
   obtain ⟨h1, t', h2, h3⟩ := ih (fun q hq => hp q (by simp [hq])) hl rP dc
   exact ⟨by simp [h1], t', by simpa using h2, h3⟩
theorem abJ (ps : Array Tmp) (vs : Array Value) (tm : Array Value) : (ps.zip vs).foldl (fun tmps (t, a) => tmps.setIfInBounds t a) tm = (ps.toList.zip vs.toList).foldl (fun tmps (x : Tmp × Value) => tmps.setIfInBounds x.1 x.2) tm := by
 rw [← Array.foldl_toList]
 simp only [Array.toList_zip]
theorem Jo (H : HR P w0 φ h w) {l l' : Nat} (hl : φ l ≠ none) (fh : ∀ b d n, φ l = some (.live b d n) → l' = b) {k : CR → AH → Bool} {j : Option Code} {st : LoopState} {b : Bool} (gQ : st = if j.isNone then .ready else .done) (hb : b = j.isNone) (e : zg l h k j st b = true) :
 ∃ h' w', k (.ret (.bool b)) h' = true ∧ h.nx ≤ h'.nx ∧ HR P w0 φ h' w' ∧ (Instr.endRound l' j).run P w = .ok (.bool b) w' := by
 obtain ⟨r, h1, e1⟩ := yY e
 obtain ⟨aP, bL, e2⟩ := l5 e1
 obtain ⟨b0, d, n, r', q1, q2, q3, q4⟩ := H.loop hl h1
 have := fh _ _ _ q1
 subst this
 have hU := q3.hZ st j
 refine ⟨⟨h.nx, aP⟩, _, e2, Nat.le_refl _, H.IX q1 q2 q4 bL hU, ?_⟩
 rw [run_endRound j q2, hb, gQ]
theorem Rm {rec : Task → Bool} (b9 : ∀ t, rec t = true → cR P w0 t) {l : Nat} {args : List Value} {k : CR → AH → Bool} (e : Rn rec l args h k = true) : qd P w0 l args h k := by
 intro φ args' l' w hl hm mH H
 obtain ⟨r, h1, e1⟩ := yY e
 obtain ⟨b0, d, n, r', q1, q2, q3, q4⟩ := H.loop hm h1
 have hb0 := mH _ _ _ q1
 subst hb0
 rw [q3.params] at e1
 obtain ⟨hlen, tm, dD, e2⟩ := abI _ q3.small hl q3.tm e1
 have dW : args'.size = r'.params.size := by simpa using hlen.symm
 refine ⟨r'.fn, _, r'.assign, r'.body, run_yield q2 dW, fun c cs => ?_⟩
 rw [abJ]
 generalize (r'.params.toList.zip args'.toList).foldl (fun tmps (x : Tmp × Value) => tmps.setIfInBounds x.1 x.2) r'.tmps = tmps at dD
 let b : Frame := { (default : Frame) with fn := r'.fn, kind := .normal, roundOf := some l' }
 have mP : Frame.round l' r'.fn tmps r'.assign r'.body .normal = b.atR { tmps := tmps, defers := [] } [.code r'.assign, .beginRound, .code r'.body] := by
  simp [Frame.round, Frame.atR, b]
 rw [mP]
 have hE : ∀ {φ' : ak}, Ext h.nx φ φ' → kP φ' ⟨r.fn, r.nt, some l⟩ b := fun {φ'} hE => ⟨q3.fn, rfl, l', rfl, hE.bS hm, fun b d n hh => mH b d n (hE.live hm hh)⟩
 have hC : cR P w0 (.code r.assign ⟨r.fn, r.nt, some l⟩ ⟨tm, [], .off, h⟩ (Jp rec l r k)) := b9 _ e2
 obtain ⟨x, s1, φ1, dQ, a1, w1, g1, g2, g3, g4, g5⟩ := hC r'.assign q3.assign φ b (c :: cs) (c :: cs) { tmps := tmps, defers := [] } w ⟨⟨.nil, ⟨rfl, .inl rfl⟩, H⟩, dD⟩ (hE (Ext.refl _ _)) _ (.inl rfl) [.beginRound, .code r'.body]
 cases x with
 | exit id => cases g1
 | ret => cases g1
 | az v => cases g1
 | normal =>
  have fj : SR P w0 φ1 ⟨r.fn, r.nt, some l⟩ s1 b (c :: cs) dQ a1 w1 := g4
  have dP := fj.rc.normal rfl
  subst dP
  obtain ⟨r2, k1, g6⟩ := yY (show l9 s1.h l _ = true from g1)
  obtain ⟨mQ, g7⟩ := bJ g6
  obtain ⟨aP, bL, g8⟩ := l5 g7
  have hm1 : φ1 l ≠ none := g2.bS hm
  obtain ⟨b1, d1, n1, Jq, u1, u2, u3, u4⟩ := fj.heap.loop hm1 k1
  have Ro := mH _ _ _ (g2.live hm u1)
  subst Ro
  have abK : Jq.state = .ready := by
   rw [u3.state]
   cases hh : r2.state <;> rw [hh] at mQ <;> first | rfl | cases mQ
  have hU := u3.hZ .busy r2.db
  rw [show ({ Jq with state := .busy, pending := r2.db } : Loop) = { Jq with state := .busy } from by rw [← u3.db]] at hU
  have H2 := fj.heap.IX u1 u2 u4 bL hU
  have abL := stepR_beginRound (P := P) (b := b) (a := a1) (k := [.code r'.body]) (cs := c :: cs) (l := l') rfl (run_beginRound u2 abK)
  have hC2 : cR P w0 (.code r.body ⟨r.fn, r.nt, some l⟩ ⟨s1.tm, s1.df, s1.rc, ⟨s1.h.nx, aP⟩⟩ (Dp l k)) := b9 _ g8
  obtain ⟨x, s2, φ2, CO, a2, w2, f1, f2, f3, f4, f5⟩ := hC2 r'.body q3.body φ1 b (c :: cs) (c :: cs) a1 _ ⟨⟨fj.df, fj.rc, H2⟩, fj.tm⟩ (hE g2) _ (.inl rfl) []
  obtain ⟨rK, f1⟩ := Jm (show rO s2.df _ = true from f1)
  have zh : Ext h.nx φ φ2 := g2.trans f2 g3
  have zi : φ2 l ≠ none := zh.bS hm
  have Jr : ∀ b d n, φ2 l = some (.live b d n) → l' = b := fun b d n hh => mH b d n (zh.live hm hh)
  have Js := Steps.trans g5 (.one abL)
  have hN : h.nx ≤ s2.h.nx := Nat.le_trans g3 f3
  cases x with
  | az v => cases f1
  | normal =>
   have rQ : SR P w0 φ2 ⟨r.fn, r.nt, some l⟩ s2 b (c :: cs) CO a2 w2 := f4
   have dP := rQ.rc.normal rfl
   subst dP
   obtain ⟨h', w', z1, z2, z3, z4⟩ := Jo rQ.heap zi Jr rfl rfl f1
   exact ⟨_, _, h', φ2, w', z1, zh, Nat.le_trans hN z2, z3, .bool true, Steps.trans Js (Steps.trans f5 (.one (stepR_round_end rfl rfl z4)))⟩
  | ret =>
   obtain ⟨k1, f5⟩ := f5
   have rQ : SR P w0 φ2 ⟨r.fn, r.nt, some l⟩ s2 b (c :: cs) CO a2 w2 := f4
   have dP := rQ.rc.normal rfl
   subst dP
   obtain ⟨h', w', z1, z2, z3, z4⟩ := Jo rQ.heap zi Jr rfl rfl f1
   exact ⟨_, _, h', φ2, w', z1, zh, Nat.le_trans hN z2, z3, .bool false, Steps.trans Js (Steps.trans f5 (.one (stepR_round_ret rfl rfl z4)))⟩
  | exit id =>
   obtain ⟨k1, IY, f5⟩ := f5
   have rQ : SR P w0 φ2 ⟨r.fn, r.nt, some l⟩ s2 b (c :: cs) CO a2 w2 := f4
   have dP := rQ.rc.normal rfl
   subst dP
   obtain ⟨h', w', z1, z2, z3, z4⟩ := Jo rQ.heap zi Jr rfl rfl f1
   exact ⟨_, _, h', φ2, w', z1, zh, Nat.le_trans hN z2, z3, .bool false, Steps.trans Js (Steps.trans f5 (.one (stepR_round_exit rfl rfl (by rw [IY]; rfl) z4)))⟩
end
end Go.Ve
namespace Go.Ve
open Go.RowKit
def jN (h h2 : AH) : Prop := ∀ f o, h.ob.get f = some o → h2.ob.get f = some o
theorem jN.refl (h : AH) : jN h h := fun _ _ e => e
theorem jN.trans {a b c : AH} (h : jN a b) (h' : jN b c) : jN a c := fun f o e => h' f o (h f o e)
def bf (X : AH → KV → Bool) : Prop := ∀ h k, X h k = true → ∃ v, k v h = true ∧ ∀ h2 k2, jN h h2 → k2 v h2 = true → X h2 k2 = true
theorem NT.zu {α : Type} : ∀ (t : NT α) (i : Nat) (k : α → Bool) (x : α), t.get i = some x → t.cY i k = k x
 | .e, i, k, x, h => by cases h
 | .n l v r, i, k, x, h => by
  rw [NT.Il]
  rw [NT.get] at h
  cases h0 : Nat.beq i 0 with
  | true => rw [h0] at h; have h' : v = some x := h; rw [h']; rfl
  | false =>
   rw [h0] at h
   cases h1 : Nat.beq (Nat.mod i 2) 1 with
   | true => rw [h1] at h; exact NT.zu l _ k x h
   | false => rw [h1] at h; exact NT.zu r _ k x h
theorem J0 {h : AH} {b : Nat} {o : AO} {k : AO → Bool} (e : h.ob.get b = some o) : me h b k = k o := by
 cases h; exact NT.zu _ _ _ _ e
theorem abU : ∀ (n : Nat) {c : NT Value} {i : Nat} {l : List Value} {k : List Value → Bool}, l.length = n → (∀ j v, l[j]? = some v → c.get (i + j) = some v) → mS c i n k = k l := by
 intro n
 induction n with
 | zero => intro c i l k hl _; have : l = [] := List.length_eq_zero_iff.1 hl; subst this; rfl
 | succ n ih =>
  intro c i l k hl hc
  cases l with
  | nil => cases hl
  | cons v l =>
   have h0 : c.get i = some v := hc 0 v (by simp)
   show NT.cY c i (fun v => fN (Nat.succ i) fun i' => mS c i' n fun l => k (v :: l)) = k (v :: l)
   rw [NT.zu _ _ _ _ h0, bH]
   exact ih (by simpa using hl) (fun j u hj => by
    have := hc (j + 1) u (by simpa using hj)
    rw [show i + (j + 1) = Nat.succ i + j from by omega] at this
    exact this)
section
variable {X Y : AH → KV → Bool}
theorem kq (v : Value) : bf (fun h k => k v h) := fun _ _ e => ⟨v, e, fun _ _ _ e' => e'⟩
theorem cT : bf (fun _ _ => false) := fun _ _ e => by cases e
theorem uh {c : Bool} (hx : bf X) : bf (fun h k => iff c (X h k)) := fun h k e => by
 obtain ⟨rfl, e1⟩ := bJ e
 exact hx h k e1
theorem ui {c : Bool} (hx : bf X) (hy : bf Y) : bf (fun h k => bif c then X h k else Y h k) := by
 cases c
 · exact hy
 · exact hx
theorem R8 {c : Bool} (hx : bf X) (hy : bf Y) : bf (fun h k => Bool.casesOn (motive := fun _ => Bool) c (X h k) (Y h k)) := by
 cases c
 · exact hx
 · exact hy
theorem R9 {vs : List Value} (hx : bf X) : bf (fun h k => a0 vs (X h k)) := by
 cases vs with
 | nil => exact hx
 | cons _ _ => exact cT
theorem DF {vs : List Value} {X : Value → AH → KV → Bool} (hx : ∀ x, bf (X x)) : bf (fun h k => a1 vs (fun x => X x h k)) := by
 cases vs with
 | nil => exact cT
 | cons x vs => exact R9 (hx x)
theorem uj {vs : List Value} {X : Value → Value → AH → KV → Bool} (hx : ∀ x y, bf (X x y)) : bf (fun h k => a2 vs (fun x y => X x y h k)) := by
 cases vs with
 | nil => exact cT
 | cons x vs => exact DF (hx x)
theorem Sa {vs : List Value} {X : Value → Value → Value → AH → KV → Bool} (hx : ∀ x y z, bf (X x y z)) : bf (fun h k => a3 vs (fun x y z => X x y z h k)) := by
 cases vs with
 | nil => exact cT
 | cons x vs => exact uj (hx x)
theorem zv {n : Nat} {X : Nat → AH → KV → Bool} (hx : ∀ m, bf (X m)) : bf (fun h k => fN n (fun m => X m h k)) := by
 simp only [bH]; exact hx n
theorem DG {n : Int} {X : Int → AH → KV → Bool} (hx : ∀ m, bf (X m)) : bf (fun h k => fI n (fun m => X m h k)) := by
 simp only [ma]; exact hx n
theorem zw {n : Bool} {X : Bool → AH → KV → Bool} (hx : ∀ m, bf (X m)) : bf (fun h k => fB n (fun m => X m h k)) := by
 simp only [gH]; exact hx n
theorem J2 {v : Value} {X : Nat → Nat → AH → KV → Bool} (hx : ∀ b o, bf (X b o)) : bf (fun h k => gG v (fun b o => X b o h k)) := by
 cases v <;> first
  | exact cT
  | (rename_i a; cases a with
   | none => exact cT
   | some a => cases a; exact hx _ _)
theorem Sb {v : Value} {X : List Value → AH → KV → Bool} (hx : ∀ l, bf (X l)) : bf (fun h k => qm v (fun l => X l h k)) := by
 cases v <;> first
  | exact cT
  | (rename_i a; cases a; exact hx _)
theorem Sc {v : Value} {X : List Value → AH → KV → Bool} (hx : ∀ l, bf (X l)) : bf (fun h k => Dq v (fun l => X l h k)) := by
 cases v <;> first
  | exact cT
  | (rename_i a; cases a; exact hx _)
theorem Sd {v : Value} {X : Bool → AH → KV → Bool} (hx : ∀ l, bf (X l)) : bf (fun h k => qn v (fun l => X l h k)) := by
 cases v <;> first
  | exact cT
  | exact hx _
theorem DH {v : Value} {X : IntKind → Int → AH → KV → Bool} (hx : ∀ kd n, bf (X kd n)) : bf (fun h k => jw v (fun kd n => X kd n h k)) := by
 cases v <;> first
  | exact cT
  | exact hx _ _
theorem DI {v : Value} {X : Nat → AH → KV → Bool} (hx : ∀ n, bf (X n)) : bf (fun h k => mT v (fun n => X n h k)) := by
 cases v <;> first
  | exact cT
  | (rename_i kd n; cases n <;> first | exact hx _ | exact cT)
theorem zx {v : Value} {X : ByteArray → AH → KV → Bool} (hx : ∀ l, bf (X l)) : bf (fun h k => gT v (fun l => X l h k)) := by
 cases v <;> first
  | exact cT
  | exact hx _
theorem J3 {v : Value} {X : Nat → Nat → Nat → Nat → AH → KV → Bool} (hy : bf Y) (hx : ∀ b o l c, bf (X b o l c)) : bf (fun h k => jx v (Y h k) (fun b o l c => X b o l c h k)) := by
 cases v <;> first
  | exact cT
  | (rename_i a l c; cases a with
   | none => exact hy
   | some a => cases a; exact hx _ _ _ _)
theorem Se {v : Value} {X : Nat → AH → KV → Bool} (hy : bf Y) (hx : ∀ r, bf (X r)) : bf (fun h k => ub v (Y h k) (fun r => X r h k)) := by
 cases v <;> first
  | exact cT
  | (rename_i a; cases a with
   | none => exact hy
   | some a => exact hx _)
theorem Sf {X : Value → AH → KV → Bool} (hx : ∀ v, bf (X v)) : ∀ {l : List Value} {n : Nat}, bf (fun h k => mR l n (fun v => X v h k)) := by
 intro l
 induction l with
 | nil => intro n; exact cT
 | cons a l ih =>
  intro n
  cases n with
  | zero => exact hx a
  | succ n => exact ih
theorem Sg : ∀ {l : List Value} {n : Nat} {X : List Value → AH → KV → Bool}, (∀ v, bf (X v)) → bf (fun h k => oY l n (fun v => X v h k)) := by
 intro l
 induction l with
 | nil =>
  intro n X hx
  cases n with
  | zero => exact hx _
  | succ n => exact cT
 | cons a l ih =>
  intro n X hx
  cases n with
  | zero => exact hx _
  | succ n => exact ih (X := fun v => X (a :: v)) fun v => hx _
theorem Sh {X : List Value → AH → KV → Bool} (hx : ∀ v, bf (X v)) : ∀ {l : List Value} {n : Nat}, bf (fun h k => oZ l n (fun v => X v h k)) := by
 intro l
 induction l with
 | nil =>
  intro n
  cases n with
  | zero => exact hx _
  | succ n => exact cT
 | cons a l ih =>
  intro n
  cases n with
  | zero => exact hx _
  | succ n => exact ih
theorem Si : ∀ {vs l : List Value} {X : List Value → AH → KV → Bool}, (∀ v, bf (X v)) → bf (fun h k => ki l vs (fun v => X v h k)) := by
 intro vs l
 induction l generalizing vs with
 | nil =>
  intro X hx
  cases vs with
  | nil => exact hx _
  | cons a vs => exact cT
 | cons a l ih =>
  intro X hx
  cases vs with
  | nil => exact hx _
  | cons b vs => exact ih (X := fun v => X (b :: v)) fun v => hx _
theorem abV : ∀ {l : List Value} {n : Nat} {vs : List Value} {X : List Value → AH → KV → Bool}, (∀ v, bf (X v)) → bf (fun h k => mE l n vs (fun v => X v h k)) := by
 intro l
 induction l with
 | nil =>
  intro n vs X hx
  cases n with
  | zero => exact (Si hx : bf (fun h k => ki [] vs (fun v => X v h k)))
  | succ n => exact cT
 | cons a l ih =>
  intro n vs X hx
  cases n with
  | zero => exact (Si hx : bf (fun h k => ki (a :: l) vs (fun v => X v h k)))
  | succ n => exact ih (X := fun v => X (a :: v)) fun v => hx _
theorem J4 : ∀ {l m : List Value} {X : List Value → AH → KV → Bool}, (∀ v, bf (X v)) → bf (fun h k => gi l m (fun v => X v h k)) := by
 intro l
 induction l with
 | nil => intro m X hx; exact hx _
 | cons a l ih => intro m X hx; exact ih (X := fun v => X (a :: v)) fun v => hx _
theorem J5 : ∀ {ps : List (Nat × Nat)} {l vs : List Value} {X : List Value → AH → KV → Bool}, (∀ v, bf (X v)) → bf (fun h k => ia l ps vs (fun v => X v h k)) := by
 intro ps
 induction ps with
 | nil =>
  intro l vs X hx
  cases vs with
  | nil => exact hx _
  | cons a vs => exact cT
 | cons p ps ih =>
  intro l vs X hx
  cases vs with
  | nil => exact cT
  | cons a vs =>
   obtain ⟨off, sz⟩ := p
   exact ui (abV fun l' => ih hx) cT
theorem Sj : ∀ {ss : List Nat} {vs : List Value} {X : List Value → AH → KV → Bool}, (∀ v, bf (X v)) → bf (fun h k => tR ss vs (fun v => X v h k)) := by
 intro ss
 induction ss with
 | nil => intro vs X hx; exact R9 (hx [])
 | cons n ss ih =>
  intro vs X hx
  cases vs with
  | nil => exact cT
  | cons v vs => exact uh (ih (X := fun l h k => gi (cellsOf v) l fun l => X l h k) fun l => J4 hx)
theorem o5 {b : Bool} {vs : List Value} {d : Nat} {X : Nat → List Value → AH → KV → Bool} (hx : ∀ n vs, bf (X n vs)) : bf (fun h k => mU b vs d (fun n vs => X n vs h k)) := by
 cases b with
 | false => exact hx _ _
 | true =>
  cases vs with
  | nil => exact cT
  | cons v vs => exact DI fun n => hx n vs
theorem J6 {o : Option Bool} {ng : Bool} : bf (fun h k => qo o ng (fun v => k v h)) := by
 cases o with
 | none => exact cT
 | some b => exact zw fun b => kq _
theorem Sk {b o : Nat} {X : Value → AH → KV → Bool} (hx : ∀ v, bf (X v)) : bf (fun h k => oV h b o (fun v => X v h k)) := fun h k e => by
 obtain ⟨lo, hi, ty, rw, c, v, h1, h2, h3, h4, h5⟩ := Dh e
 obtain ⟨u, hu, hr⟩ := hx v h k h5
 refine ⟨u, hu, fun hh k2 hle hk => ?_⟩
 show me hh b _ = true
 rw [J0 (hle _ _ h1)]
 show iff (Nat.ble lo o && Nat.ble (Nat.succ o) hi) (NT.cY c o fun v => X v hh k2) = true
 rw [NT.zu _ _ _ _ h4, (iff_eq _ _)]
 exact ⟨by simp; exact ⟨h2, h3⟩, hr hh k2 hle hk⟩
theorem Sm {b o n : Nat} {X : List Value → AH → KV → Bool} (hx : ∀ v, bf (X v)) : bf (fun h k => j9 h b o n (fun v => X v h k)) := fun h k e => by
 obtain ⟨lo, hi, ty, rw, c, l, h1, h2, h3, h4, h5, h6⟩ := ry e
 obtain ⟨u, hu, hr⟩ := hx l h k h6
 refine ⟨u, hu, fun hh k2 hle hk => ?_⟩
 show me hh b _ = true
 rw [J0 (hle _ _ h1)]
 show iff (Nat.ble lo o && Nat.ble (Nat.add o n) hi) (mS c o n fun v => X v hh k2) = true
 rw [abU n h4 h5, (iff_eq _ _)]
 exact ⟨by simp; exact ⟨h2, h3⟩, hr hh k2 hle hk⟩
theorem Sn {b : Nat} {X : List (Value × Value × Nat) → Nat → AH → KV → Bool} (hx : ∀ es cl, bf (X es cl)) : bf (fun h k => iF h b (fun es cl => X es cl h k)) := fun h k e => by
 obtain ⟨es, cl, h1, h2⟩ := tP e
 obtain ⟨u, hu, hr⟩ := hx es cl h k h2
 refine ⟨u, hu, fun hh k2 hle hk => ?_⟩
 show me hh b _ = true
 rw [J0 (hle _ _ h1)]
 exact hr hh k2 hle hk
theorem Sp {kc : Nat} {X : Option Value → AH → KV → Bool} (hx : ∀ v, bf (X v)) : ∀ {es : List (Value × Value × Nat)} {x : Value}, bf (fun h k => l4 kc es x (fun v => X v h k)) := by
  intro es x
  induction es with
  | nil => exact hx none
  | cons p es ih =>
    obtain ⟨a, v, n⟩ := p
    cases hq : j5 kc x a with
    | none => simp only [l4, hq]; exact cT
    | some t => cases t <;> simp only [l4, hq]
                · exact ih
                · exact hx _
theorem Sq {zero : Value} {ok : Bool} {o : Option Value} : bf (fun h k => yw zero ok h k o) := by
 cases o <;> cases ok <;> exact kq _
end
theorem Sr {sz l h m cap : Nat} {Jv : Bool} {b o : Nat} : bf (fun hh k => qp sz l h m cap Jv b o (fun v => k v hh)) := by
 unfold qp; repeat (first | exact kq _ | exact cT | exact J6 | exact Sq | apply uh | apply ui | apply R8 | apply DF | apply uj | apply Sa | apply zv | apply DG | apply zw | apply J2 | apply Sb | apply Sc | apply Sd | apply DI | apply DH | apply zx | apply J3 | apply Se | apply Sf | apply Sg | apply Sh | apply J4 | apply J5 | apply Sj | apply o5 | apply Sk | apply Sm | apply Sn | apply Sp | (intro _))
theorem abW {x y : Option Bool} {ng : Bool} : bf (fun h k => zl x y ng (fun v => k v h)) := by
 cases x with
 | none => cases y <;> exact cT
 | some a =>
  cases y with
  | none => cases a <;> exact cT
  | some b => cases a <;> cases b <;> simp only [zl] <;> first | exact J6 | exact cT
theorem abX {op : BinOp} {a b : ByteArray} : bf (fun h k => Jx op a b (fun v => k v h)) := by
 cases op <;> first | exact cT | exact zw fun _ => kq _
theorem abY {op : BinOp} {kd : IntKind} {a b : Int} : bf (fun h k => Jt op kd a b (fun v => k v h)) := by
 cases op <;> first
  | exact cT
  | exact zw fun _ => kq _
  | exact DG fun _ => kq _
  | exact ui cT (DG fun _ => kq _)
  | (cases kd <;> first
   | exact cT
   | (cases a <;> cases b <;> first | exact cT | exact ui (zv fun _ => kq _) cT))
theorem abZ {kd : IntKind} {a b : Int} : bf (fun h k => Ju kd a b (fun v => k v h)) := by
 cases kd <;> first
  | exact cT
  | (cases a <;> cases b <;> first | exact cT | exact ui (zv fun _ => kq _) cT)
theorem ab0 {op : BinOp} {kx ky : IntKind} {a b : Int} : bf (fun h k => Jw op kx a ky b (fun v => k v h)) := by
 cases op <;> first
  | exact cT
  | exact abZ
  | exact uh abY
theorem ab1 {ty : TypeId} {zero x : Value} : bf (fun h k => ID ty zero x (fun v => k v h)) := by
 cases x <;> first
  | exact cT
  | exact kq _
  | exact ui (kq _) (kq _)
theorem Ss (p : Prim) (ha : p.rV = false) (hm : p.makes = false) (vs : List Value) : bf (fun h k => p.ev vs h k) := by
 cases p
 case alloc => cases hm
 case box => cases hm
 case buildSlice => cases hm
 case store => cases ha
 case P9 =>
  change bf (fun h k => Ds vs h k); unfold Ds
  refine uj fun x i => DI fun i => zx fun s => ?_
  cases s.data.toList[i]? with
  | none => exact cT
  | some c => exact zv fun _ => kq _
 case slice sz lo hi mx =>
  change bf (fun h k => zm sz lo hi mx vs h k); unfold zm
  cases vs with
  | nil => exact cT
  | cons x vs => exact J3 (o5 fun _ _ => o5 fun _ _ => uh (kq _)) fun b o len cap => o5 fun l vs => o5 fun hh vs => o5 fun m vs => uh Sr
 case Qa n sz lo hi mx =>
  change bf (fun h k => zn n sz lo hi mx vs h k); unfold zn
  cases vs with
  | nil => exact cT
  | cons x vs => exact J2 fun b o => o5 fun l vs => o5 fun hh vs => o5 fun m vs => uh Sr
 case aH op => change bf (fun h k => Dt op vs h k); unfold Dt; exact uj fun x y => DH fun _ _ => DH fun _ _ => ab0
 case Qb op => change bf (fun h k => Du op vs h k); unfold Du; exact uj fun x y => zx fun _ => zx fun _ => abX
 case nI nk ng => change bf (fun h k => Dv nk ng vs h k); unfold Dv; exact uj fun x y => abW
 case mkMap => cases ha
 case mkSlice => cases ha
 case nB => cases ha
 case append => cases ha
 case copy => cases ha
 case Qd t z => change bf (fun h k => CZ t z vs h k); unfold CZ; exact DF fun x => ab1
 case Ip => cases ha
 case Iq => cases ha
 case x e => cases ha
 all_goals (simp only [Prim.ev, Jy, Jz, RG, RH, JA, JB, JC, JD, JE, JF, JG, JH, JI, JJ, RJ, JK, JL, JM, JN, JO, JP, JQ, IA, JR, JS, JT, JU, JV, Iu, Iv]; repeat (first | exact kq _ | exact cT | exact J6 | exact Sq | apply uh | apply ui | apply R8 | apply DF | apply uj | apply Sa | apply zv | apply DG | apply zw | apply J2 | apply Sb | apply Sc | apply Sd | apply DI | apply DH | apply zx | apply J3 | apply Se | apply Sf | apply Sg | apply Sh | apply J4 | apply J5 | apply Sj | apply o5 | apply Sk | apply Sm | apply Sn | apply Sp | (intro _)))
end Go.Ve
namespace Go.Ve
open Go.RowKit
def ig (v u : Value) : Prop := ∀ φ x, VR φ v x ↔ VR φ u x
def mf (l m : List Value) : Prop := ∀ φ x, LR φ l x ↔ LR φ m x
theorem ig.refl (v : Value) : ig v v := fun _ _ => Iff.rfl
theorem mf.refl (v : List Value) : mf v v := fun _ _ => Iff.rfl
theorem ig.of_eq {v u : Value} (h : v = u) : ig v u := h ▸ ig.refl v
theorem AtR.same {φ : ak} {a b x : Addr} (h1 : a.block = b.block) (h2 : a.off = b.off) (h : AtR φ a x) : AtR φ b x := fun bl d n hb => by
 have := h bl d n (by rw [h1]; exact hb)
 rw [h2] at this; exact this
theorem pT.same {φ : ak} {a b x : Addr} {len cap cr : Nat} (h1 : a.block = b.block) (h2 : a.off = b.off) (h : pT φ a x len cap cr) : pT φ b x len cap cr := by
 rcases h with ⟨h3, h4, h5, h6⟩ | ⟨sz, h3, h4, h5, h6⟩
 · exact .inl ⟨h3, h4, h5, fun hp => (h6 hp).same h1 h2⟩
 · exact .inr ⟨sz, h3, h4, h5, fun hp => ⟨(h6 hp).1.same h1 h2, fun bl d n hb => (h6 hp).2 bl d n (by rw [h1]; exact hb)⟩⟩
theorem ig.ptr {a b : Addr} (h1 : a.block = b.block) (h2 : a.off = b.off) : ig (.pointer (some a)) (.pointer (some b)) := fun φ x => by
 constructor
 · intro h; cases h with | ptr _ a' q1 q2 => exact .ptr _ _ (h1 ▸ q1) (q2.same h1 h2)
 · intro h; cases h with | ptr _ a' q1 q2 => exact .ptr _ _ (h1 ▸ q1) (q2.same h1.symm h2.symm)
theorem ig.sl {a b : Addr} {l c : Nat} (h1 : a.block = b.block) (h2 : a.off = b.off) : ig (.slice (some a) l c) (.slice (some b) l c) := fun φ x => by
 constructor
 · intro h; cases h with | sl _ a' _ _ _ q1 q2 => exact .sl _ _ _ _ _ (h1 ▸ q1) (q2.same h1 h2)
 · intro h; cases h with | sl _ a' _ _ _ q1 q2 => exact .sl _ _ _ _ _ (h1 ▸ q1) (q2.same h1.symm h2.symm)
theorem mf.cons {a b : Value} {l m : List Value} (h : ig a b) (hl : mf l m) : mf (a :: l) (b :: m) := fun φ x => by
 constructor
 · intro h'; cases h' with | cons _ _ _ _ q1 q2 => exact .cons _ _ _ _ ((h _ _).1 q1) ((hl _ _).1 q2)
 · intro h'; cases h' with | cons _ _ _ _ q1 q2 => exact .cons _ _ _ _ ((h _ _).2 q1) ((hl _ _).2 q2)
theorem ig.agg {l m : List Value} (h : mf l m) : ig (.agg ⟨l⟩) (.agg ⟨m⟩) := fun φ x => by
 constructor
 · intro h'; cases h' with | agg _ _ q1 => exact .agg _ _ ((h _ _).1 q1)
 · intro h'; cases h' with | agg _ _ q1 => exact .agg _ _ ((h _ _).2 q1)
theorem ig.eW {l m : List Value} (h : mf l m) : ig (.tuple ⟨l⟩) (.tuple ⟨m⟩) := fun φ x => by
 constructor
 · intro h'; cases h' with | eW _ _ q1 => exact .eW _ _ ((h _ _).1 q1)
 · intro h'; cases h' with | eW _ _ q1 => exact .eW _ _ ((h _ _).2 q1)
theorem ig.func {fn : Fn} {a b c d : List Value} (h1 : mf a c) (h2 : mf b d) : ig (.func fn ⟨a⟩ ⟨b⟩) (.func fn ⟨c⟩ ⟨d⟩) := fun φ x => by
 constructor
 · intro h'; cases h' with | func _ _ _ _ _ _ q0 q1 q2 => exact .func _ _ _ _ _ _ q0 ((h1 _ _).1 q1) ((h2 _ _).1 q2)
 · intro h'; cases h' with | func _ _ _ _ _ _ q0 q1 q2 => exact .func _ _ _ _ _ _ q0 ((h1 _ _).2 q1) ((h2 _ _).2 q2)
theorem Su {a b : Value} (h : DD a b = true) : ig a b := by
 unfold DD at h
 split at h
 · rename_i x y; exact .of_eq (by cases x <;> cases y <;> first | rfl | cases h)
 · rename_i kd x kd' y
   cases hk : eP kd kd' with
   | false => rw [hk] at h; cases h
   | true =>
    rw [hk] at h
    have h' : ke x y = true := h
    rw [pZ] at h'
    have := lZ hk
    have h'' : x = y := by simpa using h'
    exact .of_eq (by rw [this, h''])
 · rename_i x y
   rw [J7] at h
   have : x.data.toList = y.data.toList := by simpa using h
   have h2 : x = y := by cases x; cases y; simp only at this; congr 1; exact Array.toList_inj.1 this
   exact .of_eq (by rw [h2])
 · exact .refl _
 · simp only [Bool.and_eq_true, Nat.beq_eq] at h
   exact .ptr h.1 h.2
 · simp only [Bool.and_eq_true, Nat.beq_eq] at h
   exact .of_eq (by rw [h.1, h.2])
 · simp only [Bool.and_eq_true, Nat.beq_eq] at h
   obtain ⟨⟨⟨h1, h2⟩, h3⟩, h4⟩ := h
   subst h3; subst h4
   exact .sl h1 h2
 · exact .refl _
 · simp only [Nat.beq_eq] at h
   exact .of_eq (by rw [h])
 · exact .refl _
 · exact .refl _
 · cases h
theorem J8 : ∀ {l m : List Value}, zq l m = true → mf l m
 | [], [], _ => .refl _
 | a :: l, b :: m, h => by
  simp only [zq, Bool.and_eq_true] at h
  exact .cons (Su h.1) (J8 h.2)
 | [], _ :: _, h => by cases h
 | _ :: _, [], h => by cases h
theorem Sv {a b : Value} (h : DE a b = true) : ig a b := by
 unfold DE at h
 split at h
 · simp only [Bool.and_eq_true, Nat.beq_eq] at h
   obtain ⟨⟨h1, h2⟩, h3⟩ := h
   subst h1
   exact .func (J8 h2) (J8 h3)
 · exact Su h
theorem DJ : ∀ {l m : List Value}, uf l m = true → mf l m
 | [], [], _ => .refl _
 | a :: l, b :: m, h => by
  simp only [uf, Bool.and_eq_true] at h
  exact .cons (Sv h.1) (DJ h.2)
 | [], _ :: _, h => by cases h
 | _ :: _, [], h => by cases h
theorem ab2 {a b : Value} (h : qu a b = true) : ig a b := by
 unfold qu at h
 split at h
 · exact .agg (DJ h)
 · exact .eW (DJ h)
 · exact Sv h
noncomputable def kr (g : Option (Pos × Bool)) (t : PT) : Bool := mK g t true false
def gI (t : PT) : dC → Value
 | .t p => t.get p
 | .c v => v
theorem J9 (g : Option (Pos × Bool)) (t : PT) (yes no : Bool) : mK g t yes no = bif kr g t then yes else no := by
 cases g with
 | none => rfl
 | some pw =>
  obtain ⟨p, want⟩ := pw
  show PT.cY p t (tV want yes no) = bif PT.cY p t (tV want true false) then yes else no
  rw [PT.iY, PT.iY]
  unfold tV
  split
  · cases lu _ want <;> rfl
  · rfl
theorem Ka (o : dC) (t : PT) (k : Value → Bool) : qh o t k = k (gI t o) := by
 cases o with
 | t p => exact PT.iY p t k
 | c v => rfl
theorem wB (t : PT) : ∀ (l : List dC) (k : List Value → Bool), mJ l t k = k (l.map (gI t))
 | [], k => rfl
 | o :: l, k => by
  show qh o t (fun v => mJ l t fun vs => k (v :: vs)) = _
  rw [Ka, wB t l]
  rfl
theorem zy (d : Option Pos) (s : St) (v : Value) (h : AH) (k : St → Bool) : gn d s v h k = k ⟨match d with | none => s.tm | some p => s.tm.set p v, s.df, s.rc, h⟩ := by
 cases d with
 | none => rfl
 | some p => exact PT.kK p s.tm v _
def Prim.made (p : Prim) (b : Nat) : Value := match p with
 | .buildSlice _ n _ _ => .slice (some ⟨b, 0, none⟩) n n
 | _ => av b 0
theorem Sw : ∀ (ps : List (Nat × Nat)) (l vs : List Value) (k : List Value → Bool), ia l ps vs k = true → ∃ m, k m = true ∧ ∀ k2, k2 m = true → ia l ps vs k2 = true := by
 intro ps l vs k h
 have hD := J5 (ps := ps) (l := l) (vs := vs) (X := fun m h k => k (.agg ⟨m⟩) h) (fun m => kq _)
 obtain ⟨v, h1, h2⟩ := hD ⟨0, .e⟩ (fun v _ => match v with | .agg ⟨m⟩ => k m | _ => false) h
 cases v with
 | agg a =>
  obtain ⟨m⟩ := a
  exact ⟨m, h1, fun k2 hk => h2 ⟨0, .e⟩ (fun v _ => match v with | .agg ⟨m⟩ => k2 m | _ => false) (jN.refl _) hk⟩
 | _ => cases h1
end Go.Ve
namespace Go.Ve
open Go.RowKit
section
variable {P : Program} {w0 w : World} {φ : ak} {h : AH} {ρ : Operand → Value} {o : Oper} {vs : List Value}
def zz (p : Prim) (vs : List Value) (ty : TypeId) (l : List Value) : Prop := ∀ k2 : TypeId → List Value → Bool, k2 ty l = true → p.fresh vs k2 = true
theorem ab3 {p : Prim} {k : TypeId → List Value → Bool} (e : p.fresh vs k = true) : ∃ ty l, k ty l = true ∧ zz p vs ty l := by
 cases p with
 | alloc ty zero =>
  obtain ⟨rfl, e1⟩ := rA (show a0 vs (k ty zero) = true from e)
  exact ⟨ty, zero, e1, fun k2 hk => hk⟩
 | box ty =>
  obtain ⟨v, rfl, e1⟩ := dO (show a1 vs (fun v => k ty (cellsOf v)) = true from e)
  exact ⟨ty, cellsOf v, e1, fun k2 hk => hk⟩
 | buildSlice ty n cells places =>
  obtain ⟨m, e1, e2⟩ := Sw _ _ _ _ (show ia cells places vs (fun l => k ty l) = true from e)
  exact ⟨ty, m, e1, fun k2 hk => e2 (fun l => k2 ty l) hk⟩
 | _ => cases e
theorem ab4 {p : Prim} (hm : p.makes = true) {k : KV} (e : p.ev vs h k = true) : ∃ ty l c aP, zz p vs ty l ∧ (∀ v ∈ l, dR v = true) ∧ (∀ j v, l[j]? = some v → c.get j = some v) ∧ h.ob.gP h.nx (some (.cells 0 l.length ty true c)) aP ∧ k (p.made h.nx) ⟨h.nx + 1, aP⟩ = true := by
 cases p with
 | alloc ty zero =>
  obtain ⟨rfl, e1⟩ := rA (show a0 vs _ = true from e)
  obtain ⟨h1, c, aP, h2, h3, h4⟩ := pY e1
  exact ⟨ty, zero, c, aP, fun k2 hk => hk, h1, h2, h3, h4⟩
 | box ty =>
  obtain ⟨v, rfl, e1⟩ := dO (show a1 vs _ = true from e)
  obtain ⟨h1, c, aP, h2, h3, h4⟩ := pY e1
  exact ⟨ty, cellsOf v, c, aP, fun k2 hk => hk, h1, h2, h3, h4⟩
 | buildSlice ty n cells places =>
  obtain ⟨m, e1, e2⟩ := Sw _ _ _ _ (show ia cells places vs _ = true from e)
  obtain ⟨h1, c, aP, h2, h3, h4⟩ := pY e1
  exact ⟨ty, m, c, aP, fun k2 hk => e2 (fun l => k2 ty l) hk, h1, h2, h3, h4⟩
 | _ => cases hm
theorem Sz {p : Prim} {xs : List Operand} (hc : kO P o = some (.aA p, xs)) (hm : p.makes = true) :
 (∃ ty z, o.op = .alloc ty ∧ zeroOf P ty = some z ∧ p = .alloc ty z.cells.toList ∧ xs = []) ∨ (∃ ty x, o.op = .box ty x ∧ p = .box ty ∧ xs = [x]) ∨
 (∃ t e' n s parts z, o.op = .buildSlice t n parts ∧ P.underlying t = some (.slice e') ∧ zeroOf P e' = some z ∧ dL P e' = some s ∧ n * s ≤ 65536 ∧ z.cells.size = s ∧ 0 < s ∧
  p = .buildSlice e' n (iB n z.cells.toList) (parts.toList.map fun p => (p.1 * s, s)) ∧ xs = parts.toList.map (·.2)) := by
 cases aM : o.op <;> simp only [kO, aM] at hc
 case alloc ty =>
  split at hc
  · rename_i z hz; cases hc; exact .inl ⟨ty, z, rfl, hz, rfl, rfl⟩
  · cases hc
 case box ty x => cases hc; exact .inr (.inl ⟨ty, x, rfl, rfl, rfl⟩)
 case buildSlice t len parts =>
  split at hc
  · rename_i e' hu
    split at hc
    · rename_i s z hs hz
      split at hc
      · rename_i hg
        cases hc
        simp only [Bool.and_eq_true, decide_eq_true_eq, beq_iff_eq] at hg
        exact .inr (.inr ⟨t, e', len, s, parts, z, rfl, hu, hz, hs, hg.1.1, hg.1.2, hg.2, rfl, rfl⟩)
      · cases hc
    · cases hc
  · cases hc
 all_goals ((repeat' split at hc) <;> first | (cases hc; done) | (cases hc; cases hm; done) | (cases hc; unfold tS at hm; split at hm <;> cases hm))
theorem ab5 {p : Prim} {xs : List Operand} {ty : TypeId} {l : List Value} (hc : kO P o = some (.aA p, xs)) (hm : p.makes = true) (hv : LR φ vs (xs.map ρ)) (hf : zz p vs ty l) :
    ∃ l', LR φ l l' ∧ (execOp ρ o).run P w = .ok (.value (p.made w.heap.size)) (w.alloc (.cells l'.toArray ty)) := by
  classical
  have hd := hf (fun bI l' => decide (bI = ty ∧ l' = l)) (by simp)
  rcases Sz hc hm with ⟨bI, z, ho, hz, rfl, rfl⟩ | ⟨bI, x, ho, rfl, rfl⟩ | ⟨t, e', n, s, parts, z, ho, hu, hz, hs, hle, kN, h0, rfl, rfl⟩
  · obtain ⟨rfl, e1⟩ := rA (show a0 vs _ = true from hd)
    obtain ⟨rfl, rfl⟩ : bI = ty ∧ z.cells.toList = l := by simpa using e1
    obtain ⟨i, hi, hz, ej⟩ := mC hz
    refine ⟨z.cells.toList, VR.cells (nM ej), ?_⟩
    simp [execOp, ho, Instr.alloc, oO hi hz, newVar, newRow, World.alloc_eq, Prim.made, av]
  · obtain ⟨v, rfl, e1⟩ := dO (show a1 vs (fun v => decide (bI = ty ∧ cellsOf v = l)) = true from hd)
    obtain ⟨rfl, rfl⟩ : bI = ty ∧ cellsOf v = l := by simpa using e1
    obtain ⟨a', ha, hr⟩ := hv.one
    simp at ha; subst ha
    rw [vY]
    refine ⟨_, VR.cells hr, ?_⟩
    simp [execOp, ho, Instr.box, newVar, newRow, World.alloc_eq, Prim.made, av]
  · obtain ⟨i, hi, ln, ej⟩ := mC hz
    obtain ⟨i2, er, pV⟩ := j7 hs
    rw [hi] at er; cases er
    subst pV
    have l7 : (parts.map fun (i, x) => (i, ρ x)).toList.map (fun p => some (p.1 * i.size, i.size)) = (parts.toList.map fun p => (p.1 * i.size, i.size)).map some := by simp [Function.comp_def]
    have mF : LR φ vs ((parts.map fun (i, x) => (i, ρ x)).toList.map (·.2)) := by simpa [Function.comp_def] using hv
    obtain ⟨r, r', q1, q2, q3⟩ := C1 (place := fun j => some (j * i.size, i.size)) (show ia _ _ vs (fun l' => decide (e' = ty ∧ l' = l)) = true from hd) (LR.CV (VR.cells (nM (φ := φ) ej)) n) mF l7
    obtain ⟨rfl, rfl⟩ : e' = ty ∧ r = l := by simpa using q1
    have fV : ((Array.range (n * i.size)).map fun j => z.cells[j % z.cells.size]!) = (iB n z.cells.toList).toArray := by
      apply Array.ext'
      have := Iz z.cells (by omega) n
      rw [← kN]
      simpa [madeCells] using this
    have rD : Instr.fill (fun j => some (j * i.size, i.size)) (iB n z.cells.toList).toArray (List.map (fun x => (x.fst, ρ x.snd)) parts.toList) = some r'.toArray := by simpa using q3
    refine ⟨r', q2, ?_⟩
    have yy : ¬ (16777216 < n * i.size) := by omega
    simp only [execOp, ho, Instr.buildSlice, Sem.run_bind, run_underlying hu, Result.andThen_ok, hY hi]
    by_cases lq : n * i.size = 0
    · have yz : ((Array.range (n * i.size)).map fun j => (#[] : Array Value)[j % (#[] : Array Value).size]!) = (iB n z.cells.toList).toArray := by
        rw [← fV, lq]; simp [Array.range_zero']
      simp [yy, lq]
      simp [lq] at yz
      rw [yz]
      rw [rD]
      simp [newRow, World.alloc_eq, Prim.made]
    · simp [yy, lq, oO hi ln]
      rw [fV, rD]
      simp [newRow, World.alloc_eq, Prim.made]
theorem ab6 {p : Prim} {xs : List Operand} (hc : kO P o = some (.aA p, xs)) (hm : p.makes = true) (f B n : Nat) : VR (φ.put f (.live B 0 n)) (p.made f) (p.made B) := by
 rcases Sz hc hm with ⟨bI, z, ho, hz, rfl, rfl⟩ | ⟨bI, x, ho, rfl, rfl⟩ | ⟨t, e', n', s, parts, z, ho, hu, hz, hs, hle, kN, h0, rfl, rfl⟩
 · exact PR.vX
 · exact PR.vX
 · refine .sl _ _ _ _ _ (by simp [ak.put]) (.inl ⟨by unfold aT; have : n' ≤ n' * s := Nat.le_mul_of_pos_right n' h0; omega, rfl, Nat.le_refl _, fun _ b d m hl => ?_⟩)
   simp only [ak.gj] at hl
   cases hl
   exact ⟨rfl, rfl, rfl⟩
theorem ab7 {p : Prim} (b : Nat) (k : Nat → Bool) : JY (p.made b) k = k b := by
 unfold Prim.made
 split <;> rfl
end
end Go.Ve
namespace Go.Ve
open Go.RowKit
section
variable {P : Program} {w0 w : World} {φ : ak} {nt : Nat} {ops : Array Oper} {as : Array aX}
theorem ab8 {α β : Type} {f : α → Option β} : ∀ {xs : List α} {ys : List β}, xs.mapM f = some ys → ys.length = xs.length ∧ ∀ (i : Nat) (x : α), xs[i]? = some x → ∃ y, ys[i]? = some y ∧ f x = some y := by
 intro xs
 induction xs with
 | nil => intro ys h; simp at h; subst h; exact ⟨rfl, fun i x hx => by simp at hx⟩
 | cons a xs ih =>
  intro ys h
  rw [List.mapM_cons] at h
  cases ha : f a with
  | none => simp [ha] at h
  | some b =>
   cases hs : xs.mapM f with
   | none => simp [ha, hs] at h
   | some bs =>
    simp [ha, hs] at h
    subst h
    obtain ⟨h1, h2⟩ := ih hs
    refine ⟨by simp [h1], fun i x hx => ?_⟩
    cases i with
    | zero => simp at hx; subst hx; exact ⟨b, by simp, ha⟩
    | succ i => simp at hx; obtain ⟨y, h3, h4⟩ := h2 i x hx; exact ⟨y, by simpa using h3, h4⟩
structure lz (P : Program) (nt : Nat) (ops : Array Oper) (as : Array aX) : Prop where
 size : as.size = ops.size
 get : ∀ (i : Nat) (o : Oper), ops[i]? = some o → ∃ ao, as[i]? = some ao ∧ l8 P nt ops o = some ao
theorem ab9 {l : List aX} (h : yS P nt ops = some l) : lz P nt ops l.toArray := by
 obtain ⟨h1, h2⟩ := ab8 h
 refine ⟨by simpa using h1, fun i o ho => ?_⟩
 obtain ⟨y, h3, h4⟩ := h2 i o (by simpa using ho)
 exact ⟨y, by simpa using h3, h4⟩
theorem lz.op (h : lz P nt ops as) {i : Nat} {ao : aX} (ha : as[i]? = some ao) : ∃ o, ops[i]? = some o ∧ l8 P nt ops o = some ao := by
 have bz : i < ops.size := by rw [← h.size]; exact (Array.getElem?_eq_some_iff.1 ha).1
 obtain ⟨zA, h1, h2⟩ := h.get i ops[i] (by simp [bz])
 rw [ha] at h1; cases h1
 exact ⟨ops[i], by simp [bz], h2⟩
theorem lz.lt (h : lz P nt ops as) {i : Nat} {ao : aX} (ha : as[i]? = some ao) : i < ops.size := by rw [← h.size]; exact (Array.getElem?_eq_some_iff.1 ha).1
def gJ (as : Array aX) (j : Nat) : Option Pos := (as[j]?).bind (·.dst)
theorem SA {l : List Pos} {p : Pos} : DK l p = true ↔ p ∈ l := by
 unfold DK
 rw [List.any_eq_true]
 constructor
 · rintro ⟨x, h1, h2⟩; rw [Pos.beq_iff.1 h2]; exact h1
 · intro h; exact ⟨p, h, Pos.beq_iff.2 rfl⟩
theorem SB (hr : lz P nt ops as) (h : qv ops as = true) {i j : Nat} {d : Pos} (hi : gJ as i = some d) (hj : gJ as j = some d) : i = j := by
 unfold gJ at hi hj
 cases dE : as[i]? with
 | none => rw [dE] at hi; cases hi
 | some ai =>
  cases dM : as[j]? with
  | none => rw [dM] at hj; cases hj
  | some aj =>
   have h1 := List.all_eq_true.1 h j (List.mem_range.2 (hr.lt dM))
   rw [hj] at h1
   have h2 := List.all_eq_true.1 h1 i (List.mem_range.2 (hr.lt dE))
   simp only [dE] at h2
   rw [dE] at hi
   have cI : ai.dst = some d := hi
   simp only [cI, Bool.and_eq_true, Bool.or_eq_true, beq_iff_eq] at h2
   rcases h2.1 with h3 | h3
   · exact h3
   · rw [Pos.beq_iff.2 rfl] at h3; cases h3
theorem aca (hr : lz P nt ops as) (h : qv ops as = true) {i j : Nat} {a : aX} {d : Pos} (hi : as[i]? = some a) (hd : d ∈ a.reads) (hj : gJ as j = some d) : i = j ∨ j ∈ ec ops i ∨ i ∈ ec ops j := by
 cases dM : as[j]? with
 | none => unfold gJ at hj; rw [dM] at hj; cases hj
 | some aj =>
  have h1 := List.all_eq_true.1 h j (List.mem_range.2 (hr.lt dM))
  unfold gJ at hj
  rw [hj] at h1
  have h2 := List.all_eq_true.1 h1 i (List.mem_range.2 (hr.lt hi))
  simp only [hi, Bool.and_eq_true, Bool.or_eq_true, beq_iff_eq, SA.2 hd, Bool.not_true, Bool.false_eq_true, false_or, List.contains_iff_mem] at h2
  rcases h2.2 with (h3 | h3) | h3
  · exact .inl h3
  · exact .inr (.inl h3)
  · exact .inr (.inr h3)
theorem Kd (hr : lz P nt ops as) {i j : Nat} {a : aX} {d : Pos} (hi : as[i]? = some a) (hd : d ∈ a.reads) (hj : gJ as j = some d) (hn : j ∉ ec ops i) : o6 ops as j = true := by
 unfold gJ at hj
 cases dM : as[j]? with
 | none => rw [dM] at hj; cases hj
 | some aj =>
  unfold o6
  rw [dM]
  have : Ke ops as j = true := by
   unfold Ke
   rw [hj]
   refine List.any_eq_true.2 ⟨i, List.mem_range.2 (hr.lt hi), ?_⟩
   simp only [hi, SA.2 hd, Bool.true_and, Bool.not_eq_true', List.contains_eq_mem, decide_eq_false_iff_not]
   exact hn
  simp [this]
theorem SC {j : Nat} (h : o6 ops as j = false) : ∃ a d, as[j]? = some a ∧ a.act.rV = false ∧ a.dst = some d := by
 unfold o6 at h
 cases dM : as[j]? with
 | none => rw [dM] at h; cases h
 | some a =>
  rw [dM] at h
  simp only [Bool.or_eq_false_iff] at h
  cases hd : a.dst with
  | none => rw [hd] at h; simp at h
  | some d => exact ⟨a, d, rfl, h.1.1, hd⟩
theorem acb {a : gZ} (h : a.rV = false) : ∃ p, a = .aA p ∧ p.rV = false := by
 cases a with
 | aA p => exact ⟨p, rfl, h⟩
 | _ => cases h
inductive qw (ops : Array Oper) : List Nat → Prop where
 | nil : qw ops []
 | cons (i : Nat) (l : List Nat) (h1 : i ∉ l) (h2 : ∀ p ∈ ec ops i, p ∈ l) (hl : qw ops l) : qw ops (i :: l)
theorem qw.closed {l : List Nat} (h : qw ops l) : ∀ j ∈ l, ∀ p ∈ ec ops j, p ∈ l := by
 induction h with
 | nil => intro j hj; cases hj
 | cons i l h1 h2 hl ih =>
  intro j hj p hp
  rcases List.mem_cons.1 hj with rfl | hj
  · exact List.mem_cons_of_mem _ (h2 p hp)
  · exact List.mem_cons_of_mem _ (ih j hj p hp)
theorem qw.first {l : List Nat} (h : qw ops l) {u : Nat → Bool} : (∃ x ∈ l, u x = true) → ∃ r ∈ l, u r = true ∧ ∀ p ∈ ec ops r, u p = false := by
 induction h with
 | nil => rintro ⟨x, hx, _⟩; cases hx
 | cons i l h1 h2 hl ih =>
  rintro ⟨x, hx, hu⟩
  by_cases hex : ∃ y ∈ l, u y = true
  · obtain ⟨r, q1, q2, q3⟩ := ih hex
    exact ⟨r, List.mem_cons_of_mem _ q1, q2, q3⟩
  · rcases List.mem_cons.1 hx with rfl | hx
    · refine ⟨x, List.mem_cons_self, hu, fun p hp => ?_⟩
      cases hup : u p with
      | false => rfl
      | true => exact absurd ⟨p, h2 p hp, hup⟩ hex
    · exact absurd ⟨x, hx, hu⟩ hex
theorem acd {good : Nat → Prop} (hg : ∀ j, good j → ∀ p ∈ ec ops j, good p) : ∀ (done S : List Nat), (∀ j ∈ S, good j) → ∀ j ∈ rW ops S done, good j := by
 intro done
 induction done with
 | nil => intro S hS j hj; exact hS j hj
 | cons i done ih =>
  intro S hS j hj
  unfold rW at hj
  split at hj
  · rename_i hc
    have hi := hS i (by simpa using hc)
    exact ih _ (fun q hq => by
     rcases List.mem_append.1 hq with hq | hq
     · exact hg i hi q hq
     · exact hS q hq) j hj
  · exact ih _ hS j hj
theorem ace {e : Env} {s : St} {k : KS} {rec : Task → Bool} {r : List hO} : ∀ {late : List Nat} {cs : List hO}, zB as late = some cs → mM rec (cs ++ r) e s k = true → (∀ j ∈ late, ∃ a, as[j]? = some a ∧ wA a s = true) ∧ mM rec r e s k = true := by
 intro late
 induction late with
 | nil => intro cs hc h; cases hc; exact ⟨fun j hj => (by cases hj), h⟩
 | cons j late ih =>
  intro cs hc h
  unfold zB at hc
  split at hc
  · rename_i a r' ha hr
    cases hc
    obtain ⟨h1, h2⟩ := bJ (show iff (wA a s) (mM rec (r' ++ r) e s k) = true from h)
    obtain ⟨h3, h4⟩ := ih hr h2
    refine ⟨fun i hi => ?_, h4⟩
    rcases List.mem_cons.1 hi with rfl | hi
    · exact ⟨a, ha, h1⟩
    · exact h3 i hi
  · cases hc
end
end Go.Ve
namespace Go.Ve
open Go.RowKit
section
variable {P : Program} {w0 w : World} {φ : ak} {nt : Nat} {ops : Array Oper} {as : Array aX} {s : St} {b : Frame} {cs0 cs : List Frame} {a : Act} {o : Oper} {ao : aX} {d : Pos} {N : Nat}
inductive mV (N : Nat) (s : St) (φ : ak) (ao : aX) (d : Pos) : Prop where
 | off (h : kr ao.guard s.tm = false) (hu : s.tm.get d = undef)
 | val (p : Prim) (h : kr ao.guard s.tm = true) (ha : ao.act = .aA p) (o7 : p.rV = false) (hm : p.makes = false) (v : Value) (hv : ig v (s.tm.get d))
  (hd : ∀ h2 k2, jN s.h h2 → k2 v h2 = true → p.ev (ao.args.map (gI s.tm)) h2 k2 = true)
 | made (p : Prim) (h : kr ao.guard s.tm = true) (ha : ao.act = .aA p) (hm : p.makes = true) (f : Nat) (ty : TypeId) (l m : List Value) (c : NT Value) (hf : zz p (ao.args.map (gI s.tm)) ty l)
  (hs : s.tm.get d = p.made f) (ho : s.h.ob.get f = some (.cells 0 l.length ty true c)) (hc : ∀ (j : Nat) (v : Value), m[j]? = some v → c.get j = some v) (rX : mf l m) (hlen : m.length = l.length) (hφ : φ f = none) (hn : f < s.h.nx) (hN : N ≤ f)
def qx (s : St) (ao : aX) (d : Pos) (f : Nat) : Prop := ∃ p, ao.act = .aA p ∧ p.makes = true ∧ kr ao.guard s.tm = true ∧ s.tm.get d = p.made f
theorem SD {p q : Prim} {f g : Nat} (h : p.made f = q.made g) : f = g := by
 unfold Prim.made av at h
 split at h <;> split at h <;> first | (cases h; rfl) | cases h
theorem acf {i : Nat} (hc : l8 P nt ops o = some ao) (hr : ∀ p ∈ ao.reads, VR φ (s.tm.get p) (a.tmps.getD p.un undef)) : Region.wanted o (yielded ops a.tmps) = kr ao.guard s.tm := by
  obtain ⟨act, xs, args, h1, h2, rfl, rfl, h4, h5⟩ := wj hc
  rcases h5 with ⟨g1, g2⟩ | ⟨g, want, t, g1, g2, g3⟩
  · rw [g2]; simp [Region.wanted, g1]; rfl
  · have hp : VR φ (s.tm.get (Pos.of t)) (a.tmps.getD t undef) := by
      have := hr (Pos.of t) (by unfold aX.reads; rw [g3]; simp)
      rw [Pos.j3] at this
      exact this
    rw [g3]
    cases hw : kr (some (Pos.of t, want)) s.tm with
    | true =>
      rcases IS (φ := φ) (yes := true) (no := false) g1 g2 hp hw with ⟨q, _⟩ | ⟨_, q⟩
      · exact q
      · cases q
    | false =>
      have kS : mK (some (Pos.of t, want)) s.tm false true = true := by rw [J9, hw]; rfl
      rcases IS (φ := φ) g1 g2 hp kS with ⟨_, q⟩ | ⟨q, _⟩
      · cases q
      · exact q
theorem acg {xs : List Operand} {ys : List dC} (hm : xs.mapM mI = some ys) (hr : ∀ p, dC.t p ∈ ys → VR φ (s.tm.get p) (a.tmps.getD p.un undef)) : LR φ (ys.map (gI s.tm)) (xs.map a.eval) := by
 classical
 obtain ⟨vs, h1, h2⟩ := QT (a := a) (s := s) (φ := φ) (k := fun vs => decide (vs = ys.map (gI s.tm))) hm hr (by rw [wB]; simp)
 have : vs = ys.map (gI s.tm) := by simpa using h2
 rw [← this]; exact h1
theorem ach {i : Nat} {rest : List Nat} {todo : List Item} (hc : l8 P nt ops o = some ao) (ho : ops[i]? = some o) (hr : ∀ p ∈ ao.reads, VR φ (s.tm.get p) (a.tmps.getD p.un undef)) (H : HR P w0 φ s.h w) (hp : mV N s φ ao d) :
 ∃ v' w' φ', Steps P (lone (b.atR a (.inRegion ops (i :: rest) :: todo)) cs w) (lone (b.atR (a.put o.dst v') (.inRegion ops rest :: todo)) cs w') ∧ VR φ' (s.tm.get d) v' ∧ HR P w0 φ' s.h w' ∧ (N ≤ s.h.nx → Ext N φ φ') ∧
  (∀ f, f < s.h.nx → φ f = none → ¬ qx s ao d f → φ' f = none) := by
 classical
 have hg := acf (i := i) hc hr
 obtain ⟨act, xs, args, h1, h2, rfl, rfl, h4, h5⟩ := wj hc
 have iW : LR φ (ao.args.map (gI s.tm)) (xs.map a.eval) := acg h2 fun p hp => hr p (by
  unfold aX.reads
  exact List.mem_append_left _ (List.mem_filterMap.2 ⟨.t p, hp, rfl⟩))
 cases hp with
 | off hw hu =>
  rw [hw] at hg
  refine ⟨undef, w, φ, .one ?_, by rw [hu]; exact VR.undef φ, H, fun _ => Ext.refl _ _, fun f _ h _ => h⟩
  have := stepR_op_skip (P := P) (b := b) (a := a) (k := todo) (cs := cs) (w := w) (ops := ops) (i := i) (rest := rest) (by simp [ho, hg])
  rw [ho] at this
  exact this
 | val p hw ha o7 hm v hv hd =>
  rw [hw] at hg
  rw [ha] at h1
  rcases h1 with h1 | ⟨h1, _⟩
  rotate_left
  · cases h1; cases o7
  obtain ⟨v', w', u, h', φ', q1, q2, q3, q4, q5, q6⟩ := QC (fun _ => rfl) h1 H iW (hd s.h (fun u h' => decide (u = v ∧ h' = s.h)) (jN.refl _) (by simp))
  obtain ⟨rfl, rfl⟩ : u = v ∧ h' = s.h := by simpa using q2
  refine ⟨v', w', φ', ?_, (hv _ _).1 q5, q6, fun hN => q3.mono hN, fun f hf h _ => q3.out f hf h⟩
  have hs := qf (b := b) (a := a) (IL h1)
  rcases q1 with q1 | ⟨q1, rfl⟩
  · exact .one (II ho hg (by rw [hs]; exact q1))
  · exact .one (QK ho hg (by rw [hs]; exact q1))
 | made p hw ha hm f ty l m c hf DM hob Kf rX hlen hφ hn hN =>
  rw [hw] at hg
  rw [ha] at h1
  rcases h1 with h1 | ⟨h1, _⟩
  rotate_left
  · cases h1; cases hm
  obtain ⟨l', fh, bF⟩ := ab5 (w := w) h1 hm iW hf
  have qy : LR φ m l' := (rX _ _).1 fh
  have ajn : l.length = l'.length := fh.length
  obtain ⟨H2, hE⟩ := H.newAt (f := f) (h' := s.h) (o' := .cells l'.toArray ty) (d := 0) (n := l'.length) hφ hob (fun _ _ _ => rfl) H.fresh H.top hn N hN (.cells _ _ _ _ _ _ _ _ _ (fun _ => rfl) (Nat.le_refl _) (by simp) fun q _ hq => by
   have SE : q < m.length := by omega
   obtain ⟨u, hu, hru⟩ := LR.get qy q _ (List.getElem?_eq_getElem SE)
   exact ⟨m[q], u, Kf q _ (List.getElem?_eq_getElem SE), by simpa using hu, hru⟩)
  refine ⟨p.made w.heap.size, _, _, .one (II ho hg (by rw [qf (IL h1)]; exact bF)), ?_, H2, fun _ => hE, fun g nS h cG => ?_⟩
  · rw [DM]; exact ab6 h1 hm _ _ _
  · have : g ≠ f := fun e => cG ⟨p, ha, hm, hw, by rw [e]; exact DM⟩
    rw [ak.gq _ _ this]; exact h
end
end Go.Ve
namespace Go.Ve
open Go.RowKit
section
variable {P : Program} {w0 w : World} {φ : ak} {nt : Nat} {ops : Array Oper} {as : Array aX} {s : St} {b : Frame} {cs0 cs : List Frame} {a : Act} {N : Nat} {done db : List Nat} {L : Array Bool}
structure Inv (P : Program) (w0 : World) (N nt : Nat) (ops : Array Oper) (as : Array aX) (b : Frame) (cs0 : List Frame) (done db : List Nat) (L : Array Bool) (φ : ak) (s : St) (cs : List Frame) (a : Act) (w : World) : Prop where
 size : L.size = ops.size
 sub : ∀ j, L.getD j false = true → j ∈ done
 late : ∀ j ∈ done, L.getD j false = false → j ∈ db
 wC : ∀ j ∈ db, o6 ops as j = false ∧ j ∈ done
 closed : ∀ j, L.getD j false = true → ∀ p ∈ ec ops j, L.getD p false = true
 uk : qw ops done
 lt : ∀ j ∈ done, j < ops.size
 sq : SQ P w0 φ s b cs0 cs a w
 rY : nt ≤ a.tmps.size
 wD : ∀ p : Pos, (∀ j ∈ done, L.getD j false = false → gJ as j ≠ some p) → VR φ (s.tm.get p) (a.tmps.getD p.un undef)
 prom : ∀ j ∈ done, L.getD j false = false → ∀ (ao : aX) (d : Pos), as[j]? = some ao → ao.dst = some d → mV N s φ ao d
 DN : ∀ i ∈ done, ∀ j ∈ done, L.getD i false = false → L.getD j false = false → i ≠ j → ∀ (ao zA : aX) (d d' : Pos) (f : Nat), as[i]? = some ao → as[j]? = some zA → ao.dst = some d → zA.dst = some d' → qx s ao d f → qx s zA d' f → False
 nx : N ≤ s.h.nx
theorem Inv.reads (I : Inv P w0 N nt ops as b cs0 done db L φ s cs a w) (hr : lz P nt ops as) (hs : qv ops as = true) {i : Nat} {ao : aX} (hi : as[i]? = some ao) (hb : ∀ p ∈ ec ops i, L.getD p false = true) (kT : i ∈ done → o6 ops as i = false) (p : Pos) (hp : p ∈ ao.reads) :
 VR φ (s.tm.get p) (a.tmps.getD p.un undef) := by
 refine I.wD p fun j hj jy mL => ?_
 by_cases SF : j ∈ ec ops i
 · rw [hb j SF] at jy; cases jy
 · have SG := Kd hr hi hp mL SF
   rw [(I.wC j (I.late j hj jy)).1] at SG
   cases SG
theorem um (L : Array Bool) (i j : Nat) (hi : i < L.size) : (L.setIfInBounds i true).getD j false = if j = i then true else L.getD j false := by
 by_cases h : j = i
 · subst h; simp [hi]
 · rw [if_neg h]; exact getD_set_ne false (Ne.symm h)
theorem mV.ext {N : Nat} {φ' : ak} {ao : aX} {d : Pos} (h : mV N s φ ao d) (hE : ∀ f, f < s.h.nx → φ f = none → qx s ao d f → φ' f = none) : mV N s φ' ao d := by
 cases h with
 | off h hu => exact .off h hu
 | val p h ha o7 hm v hv hd => exact .val p h ha o7 hm v hv hd
 | made p h ha hm f ty l m c hf hs ho hc rX hlen hφ hn hN => exact .made p h ha hm f ty l m c hf hs ho hc rX hlen (hE f hn hφ ⟨p, ha, hm, h, hs⟩) hn hN
theorem Inv.exec (I : Inv P w0 N nt ops as b cs0 done db L φ s cs a w) (hr : lz P nt ops as) (hs : qv ops as = true) {i : Nat} (hi : i ∈ done) (jy : L.getD i false = false) (hb : ∀ p ∈ ec ops i, L.getD p false = true) {rest : List Nat} {todo : List Item} :
 ∃ φ' a' w', Steps P (lone (b.atR a (.inRegion ops (i :: rest) :: todo)) cs w) (lone (b.atR a' (.inRegion ops rest :: todo)) cs w') ∧ Ext N φ φ' ∧ Inv P w0 N nt ops as b cs0 done db (L.setIfInBounds i true) φ' s cs a' w' := by
 have bz := I.lt i hi
 have kT := (I.wC i (I.late i hi jy)).1
 obtain ⟨ao, d, dE, SH, hd⟩ := SC kT
 obtain ⟨o, ho, hc⟩ := hr.op dE
 have hP := I.prom i hi jy ao d dE hd
 obtain ⟨v', w', φ', h1, h2, h3, h4, h5⟩ := ach (b := b) (cs := cs) (rest := rest) (todo := todo) hc ho (I.reads hr hs dE hb (fun _ => kT)) I.sq.heap hP
 have hE := h4 I.nx
 obtain ⟨act, xs, args, e1, e2, e3, e4, e5, e6⟩ := wj hc
 obtain ⟨dn, yR, DO, mW⟩ : ∃ dn, o.dst = some dn ∧ dn < nt ∧ d = Pos.of dn := by
  rcases e5 with ⟨_, q⟩ | ⟨dn, q1, q2, q3⟩
  · rw [q] at hd; cases hd
  · rw [q3] at hd; cases hd; exact ⟨dn, q1, q2, rfl⟩
 have SI : d.un = dn := by rw [mW, Pos.j3]
 have mL : gJ as i = some d := by unfold gJ; rw [dE]; exact hd
 have bL := fun j => um L i j (by rw [I.size]; exact bz)
 refine ⟨φ', a.put o.dst v', w', h1, hE, ?_⟩
 refine ⟨by simp [I.size], ?_, ?_, I.wC, ?_, I.uk, I.lt, ⟨by rw [Act.C8]; exact I.sq.df.ext hE, I.sq.rc.ext hE, h3⟩, by rw [yR]; simpa [Act.put] using I.rY, ?_, ?_, ?_, I.nx⟩
 · intro j hj
   rw [bL] at hj
   split at hj
   · rename_i e; rw [e]; exact hi
   · exact I.sub j hj
 · intro j hj hu
   rw [bL] at hu
   split at hu
   · cases hu
   · exact I.late j hj hu
 · intro j hj p hp
   rw [bL] at hj ⊢
   split at hj
   · rename_i e
     subst e
     split
     · rfl
     · exact hb p hp
   · split
     · rfl
     · exact I.closed j hj p hp
 · intro p hp
   rw [yR]
   by_cases lA : p = d
   · subst lA
     have dW : dn < a.tmps.size := Nat.lt_of_lt_of_le DO I.rY
     have : (a.put (some dn) v').tmps.getD p.un undef = v' := by rw [SI]; simp [Act.put, dW]
     rw [this]; exact h2
   · have cG : dn ≠ p.un := fun e => lA (Pos.rm (by rw [SI, e]))
     have : (a.put (some dn) v').tmps.getD p.un undef = a.tmps.getD p.un undef := by
      simp [Act.put, Array.getD_eq_getD_getElem?, Array.getElem?_setIfInBounds_ne cG]
     rw [this]
     refine VR.ext hE (I.wD p fun j hj hu => ?_)
     by_cases zC : j = i
     · rw [zC, mL]; intro e; cases e; exact lA rfl
     · exact hp j hj (by rw [bL, if_neg zC]; exact hu)
 · intro j hj hu aj dj dM iG
   rw [bL] at hu
   split at hu
   · cases hu
   · rename_i cG
     exact (I.prom j hj hu aj dj dM iG).ext fun f hf hn hM => h5 f hf hn fun hM' => I.DN j hj i hi hu jy cG aj ao dj d f dM dE iG hd hM hM'
 · intro i1 zD j1 zE mg jL cG
   rw [bL] at mg jL
   split at mg
   · cases mg
   · split at jL
     · cases jL
     · exact I.DN i1 zD j1 zE mg jL cG
end
end Go.Ve
namespace Go.Ve
open Go.RowKit
section
variable {P : Program} {w0 w : World} {φ : ak} {nt : Nat} {ops : Array Oper} {as : Array aX} {s : St} {b : Frame} {cs0 cs : List Frame} {a : Act} {N : Nat} {done db : List Nat} {L : Array Bool}
theorem wE {ao : aX} {t t' : PT} (h : ∀ p ∈ ao.reads, t.get p = t'.get p) : kr ao.guard t = kr ao.guard t' := by
 cases hg : ao.guard with
 | none => rfl
 | some pw =>
  obtain ⟨p, want⟩ := pw
  have := h p (by unfold aX.reads; rw [hg]; simp)
  show PT.cY p t _ = PT.cY p t' _
  rw [PT.iY, PT.iY, this]
theorem DP {ao : aX} {t t' : PT} (h : ∀ p ∈ ao.reads, t.get p = t'.get p) : ao.args.map (gI t) = ao.args.map (gI t') := by
 refine List.map_congr_left fun x hx => ?_
 cases x with
 | c v => rfl
 | t p => exact h p (by unfold aX.reads; exact List.mem_append_left _ (List.mem_filterMap.2 ⟨.t p, hx, rfl⟩))
theorem mV.state {ao : aX} {d : Pos} {s' : St} (h : mV N s φ ao d) (hr : ∀ p ∈ ao.reads, s.tm.get p = s'.tm.get p) (hd : s.tm.get d = s'.tm.get d) (hle : jN s.h s'.h) (ib : s.h.nx ≤ s'.h.nx) : mV N s' φ ao d := by
 have h1 := wE hr
 have h2 := DP hr
 cases h with
 | off h hu => exact .off (h1 ▸ h) (hd ▸ hu)
 | val p h ha o7 hm v hv Kg => exact .val p (h1 ▸ h) ha o7 hm v (hd ▸ hv) (fun hh k2 hl hk => h2 ▸ Kg hh k2 (hle.trans hl) hk)
 | made p h ha hm f ty l m c hf hs ho hc rX hlen hφ hn hN => exact .made p (h1 ▸ h) ha hm f ty l m c (h2 ▸ hf) (hd ▸ hs) (hle _ _ ho) hc rX hlen hφ (Nat.lt_of_lt_of_le hn ib) hN
theorem qx.state {ao : aX} {d : Pos} {f : Nat} {s' : St} (h : qx s' ao d f) (hr : ∀ p ∈ ao.reads, s.tm.get p = s'.tm.get p) (hd : s.tm.get d = s'.tm.get d) : qx s ao d f := by
 obtain ⟨p, h1, h2, h3, h4⟩ := h
 exact ⟨p, h1, h2, by rw [wE hr]; exact h3, by rw [hd]; exact h4⟩
theorem Inv.grow (I : Inv P w0 N nt ops as b cs0 done db L φ s cs a w) (hr : lz P nt ops as) (hs : qv ops as = true) {i : Nat} {ao : aX} {d : Pos} (hid : i ∉ done) (hb : ∀ p ∈ ec ops i, p ∈ done) (dE : as[i]? = some ao) (hd : ao.dst = some d) (kT : o6 ops as i = false)
    {s' : St} {v : Value} (dD : s'.tm = s.tm.set d v) (rK : s'.df = s.df) (jt : s'.rc = s.rc) (H : HR P w0 φ s'.h w) (hle : jN s.h s'.h) (ib : s.h.nx ≤ s'.h.nx) (hP : mV N s' φ ao d) (hM : ∀ f, qx s' ao d f → s.h.nx ≤ f) :
    Inv P w0 N nt ops as b cs0 (i :: done) (i :: db) L φ s' cs a w := by
  have mL : gJ as i = some d := by unfold gJ; rw [dE]; exact hd
  have jy : L.getD i false = false := by
    cases h : L.getD i false with
    | false => rfl
    | true => exact absurd (I.sub i h) hid
  have get : ∀ p, p ≠ d → s.tm.get p = s'.tm.get p := fun p hp => by rw [dD, PT.cQ, if_neg hp]
  have rZ : ∀ j ∈ done, ∀ aj : aX, as[j]? = some aj → ∀ p ∈ aj.reads, s.tm.get p = s'.tm.get p := fun j hj aj dM p hp => get p fun e => by
    subst e
    by_cases DQ : i ∈ ec ops j
    · exact hid (I.uk.closed j hj i DQ)
    · have := Kd hr dM hp mL DQ
      rw [kT] at this; cases this
  have r7 : ∀ j ∈ done, ∀ (aj : aX) (dj : Pos), as[j]? = some aj → aj.dst = some dj → s.tm.get dj = s'.tm.get dj := fun j hj aj dj dM iG => get dj fun e => by
    subst e
    have Kh : gJ as j = some dj := by unfold gJ; rw [dM]; exact iG
    have := SB hr hs Kh mL
    subst this
    exact hid hj
  refine ⟨I.size, fun j hj => List.mem_cons_of_mem _ (I.sub j hj), ?_, ?_, I.closed, .cons _ _ hid hb I.uk, ?_, ⟨rK ▸ I.sq.df, jt ▸ I.sq.rc, H⟩, I.rY, ?_, ?_, ?_, Nat.le_trans I.nx ib⟩
  · intro j hj hu
    rcases List.mem_cons.1 hj with rfl | hj
    · exact List.mem_cons_self
    · exact List.mem_cons_of_mem _ (I.late j hj hu)
  · intro j hj
    rcases List.mem_cons.1 hj with rfl | hj
    · exact ⟨kT, List.mem_cons_self⟩
    · exact ⟨(I.wC j hj).1, List.mem_cons_of_mem _ (I.wC j hj).2⟩
  · intro j hj
    rcases List.mem_cons.1 hj with rfl | hj
    · exact hr.lt dE
    · exact I.lt j hj
  · intro p hp
    have lA : p ≠ d := fun e => hp i List.mem_cons_self jy (by rw [e]; exact mL)
    rw [← get p lA]
    exact I.wD p fun j hj hu => hp j (List.mem_cons_of_mem _ hj) hu
  · intro j hj hu aj dj dM iG
    rcases List.mem_cons.1 hj with rfl | hj
    · rw [dE] at dM; cases dM
      rw [hd] at iG; cases iG
      exact hP
    · exact (I.prom j hj hu aj dj dM iG).state (rZ j hj aj dM) (r7 j hj aj dj dM iG) hle ib
  · have old : ∀ j ∈ done, L.getD j false = false → ∀ (aj : aX) (dj : Pos) (f : Nat), as[j]? = some aj → aj.dst = some dj → qx s' aj dj f → f < s.h.nx := by
      intro j hj hu aj dj f dM iG hm
      obtain ⟨p, q1, q2, q3, q4⟩ := hm.state (rZ j hj aj dM) (r7 j hj aj dj dM iG)
      cases I.prom j hj hu aj dj dM iG with
      | off h hu => rw [q3] at h; cases h
      | val p' h ha o7 hm v hv Kg => rw [ha] at q1; cases q1; rw [hm] at q2; cases q2
      | made p' h ha hm f' ty l m c hf DM ho hc rX hlen hφ hn hN => rw [DM] at q4; rw [← SD q4]; exact hn
    intro i1 zD j1 zE mg jL cG a1 a2 d1 d2 f h1 h2 h3 h4 m1 m2
    rcases List.mem_cons.1 zD with rfl | er <;> rcases List.mem_cons.1 zE with rfl | o9
    · exact cG rfl
    · rw [dE] at h1; cases h1
      rw [hd] at h3; cases h3
      have q1 := hM f m1
      have q2 := old j1 o9 jL a2 d2 f h2 h4 m2
      omega
    · rw [dE] at h2; cases h2
      rw [hd] at h4; cases h4
      have q1 := hM f m2
      have q2 := old i1 er mg a1 d1 f h1 h3 m1
      omega
    · exact I.DN i1 er j1 o9 mg jL cG a1 a2 d1 d2 f h1 h2 h3 h4 (m1.state (rZ i1 er a1 h1) (r7 i1 er a1 d1 h1 h3)) (m2.state (rZ j1 o9 a2 h2) (r7 j1 o9 a2 d2 h2 h4))
end
end Go.Ve
namespace Go.Ve
open Go.RowKit
section
variable {P : Program} {w0 w : World} {φ : ak} {nt : Nat} {ops : Array Oper} {as : Array aX} {s : St} {b : Frame} {cs0 cs : List Frame} {a : Act} {N : Nat} {done db : List Nat} {L : Array Bool}
theorem HR.spare {h : AH} (H : HR P w0 φ h w) {o : AO} {aP : NT AO} (hs : h.ob.gP h.nx (some o) aP) : HR P w0 φ ⟨h.nx + 1, aP⟩ w := by
 have cG : ∀ f, φ f ≠ none → f ≠ h.nx := fun f hf e => hf (by rw [e]; exact H.fresh _ (Nat.le_refl _))
 refine ⟨H.inj, fun f hf => H.fresh f (by have : h.nx + 1 ≤ f := hf; omega), fun f hf => ?_, fun f hf => ?_, fun f bl d n hf => ?_, H.below⟩
 · have : h.nx + 1 ≤ f := hf
   show aP.get f = none
   rw [hs.2 f (by omega)]; exact H.top f (by omega)
 · show aP.get f = none
   rw [hs.2 f (cG f (by rw [hf]; simp))]; exact H.dead f hf
 · obtain ⟨o1, o2, q1, q2⟩ := H.obj f bl d n hf
   exact ⟨o1, o2, by show aP.get f = some o1; rw [hs.2 f (cG f (by rw [hf]; simp))]; exact q1, q2⟩
theorem jN.spare {h : AH} (H : HR P w0 φ h w) {o : AO} {aP : NT AO} (hs : h.ob.gP h.nx (some o) aP) : jN h ⟨h.nx + 1, aP⟩ := fun f o1 ho => by
 have : f ≠ h.nx := fun e => by rw [e, H.top _ (Nat.le_refl _)] at ho; cases ho
 show aP.get f = some o1
 rw [hs.2 f this]; exact ho
theorem Inv.SJ (I : Inv P w0 N nt ops as b cs0 done db L φ s cs a w) (hr : lz P nt ops as) (hs : qv ops as = true) {i : Nat} {ao : aX} (hid : i ∉ done) (hb : ∀ p ∈ ec ops i, p ∈ done) (dE : as[i]? = some ao) (kT : o6 ops as i = false)
 {rec : Task → Bool} {e : Env} {fail : KS} {k : St → Bool} (h : rJ rec ao e s fail k = true) : ∃ s', k s' = true ∧ Inv P w0 N nt ops as b cs0 (i :: done) (i :: db) L φ s' cs a w ∧ s.h.nx ≤ s'.h.nx := by
 obtain ⟨zA, d, SK, SH, hd⟩ := SC kT
 rw [dE] at SK; cases SK
 obtain ⟨p, hp, SL⟩ := acb SH
 have mL : gJ as i = some d := by unfold gJ; rw [dE]; exact hd
 have aci : d ∉ ao.reads := fun hm => by
  have DQ : i ∉ ec ops i := fun h => hid (hb i h)
  have := Kd hr dE hm mL DQ
  rw [kT] at this; cases this
 have h1 : (bif kr ao.guard s.tm then p.ev (ao.args.map (gI s.tm)) s.h (fun v h => gn (some d) s v h k) else gn (some d) s undef s.h k) = true := by
  have h' : mK ao.guard s.tm (mJ ao.args s.tm (wk rec ao.act ao.dst e s fail k)) (gn ao.dst s undef s.h k) = true := by cases ao; exact h
  rw [J9, wB, hd, hp] at h'
  exact h'
 have bS : ∀ (v : Value) (q : Pos), q ∈ ao.reads → (s.tm.set d v).get q = s.tm.get q := fun v q hq => by rw [PT.cQ, if_neg (fun e => aci (by rw [← e]; exact hq))]
 cases hw : kr ao.guard s.tm with
 | false =>
  rw [hw] at h1
  have h2 : gn (some d) s undef s.h k = true := h1
  rw [zy] at h2
  have kS : kr ao.guard (s.tm.set d undef) = false := by rw [wE (bS undef)]; exact hw
  refine ⟨_, h2, I.grow hr hs hid hb dE hd kT (v := undef) rfl rfl rfl I.sq.heap (jN.refl _) (Nat.le_refl _) (.off kS (by simp [PT.cQ])) (fun f hm => ?_), Nat.le_refl _⟩
  obtain ⟨_, _, _, q3, _⟩ := hm
  have rD : kr ao.guard (s.tm.set d undef) = true := q3
  rw [kS] at rD; cases rD
 | true =>
  rw [hw] at h1
  have h2 : p.ev (ao.args.map (gI s.tm)) s.h (fun v h => gn (some d) s v h k) = true := h1
  cases hm : p.makes with
  | false =>
   obtain ⟨v, h3, h4⟩ := Ss p SL hm _ _ _ h2
   rw [zy] at h3
   have kS : kr ao.guard (s.tm.set d v) = true := by rw [wE (bS v)]; exact hw
   refine ⟨_, h3, I.grow hr hs hid hb dE hd kT (v := v) rfl rfl rfl I.sq.heap (jN.refl _) (Nat.le_refl _) (.val p kS hp SL hm v (by simp [PT.cQ]; exact ig.refl v) (fun hh k2 hl hk => ?_)) (fun f Ki => ?_), Nat.le_refl _⟩
   · show p.ev (ao.args.map (gI (s.tm.set d v))) hh k2 = true
     rw [DP (bS v)]
     exact h4 hh k2 hl hk
   · obtain ⟨p', q1, q2, _, _⟩ := Ki
     rw [hp] at q1; cases q1
     rw [hm] at q2; cases q2
  | true =>
   obtain ⟨ty, l, c, aP, h3, h4, h5, h6, h7⟩ := ab4 hm h2
   rw [zy] at h7
   have kS : kr ao.guard (s.tm.set d (p.made s.h.nx)) = true := by rw [wE (bS _)]; exact hw
   refine ⟨_, h7, I.grow hr hs hid hb dE hd kT (v := p.made s.h.nx) rfl rfl rfl (I.sq.heap.spare h6) (jN.spare I.sq.heap h6) (Nat.le_succ _) (.made p kS hp hm s.h.nx ty l l c ?_ (by simp [PT.cQ]) h6.1 h5 (mf.refl l) rfl (I.sq.heap.fresh _ (Nat.le_refl _)) (Nat.lt_succ_self _) I.nx) (fun f Ki => ?_), Nat.le_succ _⟩
   · show zz p (ao.args.map (gI (s.tm.set d (p.made s.h.nx)))) ty l
     rw [DP (bS _)]; exact h3
   · obtain ⟨p', q1, q2, _, q4⟩ := Ki
     have CY : (s.tm.set d (p.made s.h.nx)).get d = p'.made f := q4
     rw [PT.cQ, if_pos rfl] at CY
     rw [← SD CY]
     exact Nat.le_refl _
end
end Go.Ve
namespace Go.Ve
open Go.RowKit
section
variable {P : Program} {w0 w : World} {φ : ak} {nt : Nat} {ops : Array Oper} {as : Array aX} {s : St} {b : Frame} {cs0 cs : List Frame} {a : Act} {N : Nat} {done db : List Nat} {L : Array Bool}
theorem mV.kL {ao : aX} {d : Pos} {s' : St} {φ' : ak} (h : mV N s φ ao d) (oX : ao.dst = some d) (hr : ∀ p ∈ ao.reads, s.tm.get p = s'.tm.get p) (hd : s.tm.get d = s'.tm.get d) (hE : Ext s.h.nx φ φ') (ib : s.h.nx ≤ s'.h.nx) (hc : wA ao s' = true) : mV N s' φ' ao d := by
 have h1 := wE hr
 have h2 := DP hr
 have fi : (bif kr ao.guard s'.tm then (gZ.casesOn (motive := fun _ => Bool) ao.act (zt ao.dst s' (ao.args.map (gI s'.tm))) ly false false false false) else true) = true := by
  have h' : mK ao.guard s'.tm (mJ ao.args s'.tm fun vs => gZ.casesOn (motive := fun _ => Bool) ao.act (zt ao.dst s' vs) ly false false false false) true = true := by cases ao; exact hc
  rw [J9, wB] at h'
  exact h'
 cases h with
 | off h hu => exact .off (h1 ▸ h) (hd ▸ hu)
 | val p h ha o7 hm v hv Kg =>
  rw [h1] at h
  rw [h, ha, oX] at fi
  have wF : PT.cY d s'.tm (fun v => bif p.makes then p.fresh (ao.args.map (gI s'.tm)) (ug s' v) else p.ev (ao.args.map (gI s'.tm)) s'.h (zr v)) = true := fi
  rw [PT.iY, hm] at wF
  obtain ⟨u, q1, q2⟩ := Ss p o7 hm _ _ _ (show p.ev (ao.args.map (gI s'.tm)) s'.h (zr (s'.tm.get d)) = true from wF)
  exact .val p h ha o7 hm u (ab2 q1) q2
 | made p h ha hm f ty l m c hf hs ho nT rX hlen hφ hn hN =>
  rw [h1] at h
  rw [h, ha, oX] at fi
  have wF : PT.cY d s'.tm (fun v => bif p.makes then p.fresh (ao.args.map (gI s'.tm)) (ug s' v) else p.ev (ao.args.map (gI s'.tm)) s'.h (zr v)) = true := fi
  rw [PT.iY, hm] at wF
  obtain ⟨bI, l', q1, q2⟩ := ab3 (show p.fresh (ao.args.map (gI s'.tm)) (ug s' (s'.tm.get d)) = true from wF)
  rw [← hd, hs] at q1
  have SM : JY (p.made f) (fun b => ko s'.h b fun lo hi acj rw c => iff (rw && Nat.beq lo 0 && Nat.beq hi l'.length && Nat.beq bI acj) (mS c 0 l'.length fun m => uf m l')) = true := q1
  rw [ab7] at SM
  obtain ⟨lo, hi, ZT, rw2, c2, u1, u2⟩ := qz SM
  obtain ⟨u3, u4⟩ := bJ u2
  obtain ⟨m', u5, u6, u7⟩ := DT _ u4
  simp only [Bool.and_eq_true, Nat.beq_eq] at u3
  obtain ⟨⟨⟨e1, e2⟩, e3⟩, e4⟩ := u3
  subst e1; subst e2; subst e3; subst e4
  exact .made p h ha hm f bI l' m' c2 q2 (hd ▸ hs) u1 (fun j v hj => by have := u7 j v hj; rwa [Nat.zero_add] at this) (fun φ x => (DJ u5 φ x).symm) u6 (hE.out f hn hφ) (Nat.lt_of_lt_of_le hn ib) hN
end
end Go.Ve
namespace Go.Ve
open Go.RowKit
section
variable {P : Program} {w0 w : World} {φ : ak} {ops : Array Oper} {as : Array aX} {s : St} {e : Env} {b : Frame} {cs0 cs : List Frame} {a : Act} {N : Nat} {done db : List Nat} {L : Array Bool}
theorem Inv.act (I : Inv P w0 N e.nt ops as b cs0 done db L φ s cs a w) (hr : lz P e.nt ops as) (hs : qv ops as = true) (he : kP φ e b) {rec : Task → Bool} (b9 : ∀ t, rec t = true → cR P w0 t) {i : Nat} {ao : aX} (hid : i ∉ done) (dE : as[i]? = some ao) (r9 : ∀ p ∈ ec ops i, L.getD p false = true)
 {k : KS} {late : List Nat} (SU : ∀ j ∈ db, L.getD j false = false → j ∈ late) (Kl : ∀ j ∈ late, j ∈ db) {kL r : List hO} (Km : zB as late = some kL) (h : rJ rec ao e s k (fun s => mM rec (kL ++ r) e s k) = true) {rest : List Nat} {todo : List Item} :
 (∃ φ' s' bO a' w', mM rec r e s' k = true ∧ Ext N φ φ' ∧ Inv P w0 N e.nt ops as b cs0 (i :: done) late (L.setIfInBounds i true) φ' s' bO a' w' ∧ Steps P (lone (b.atR a (.inRegion ops (i :: rest) :: todo)) cs w) (lone (b.atR a' (.inRegion ops rest :: todo)) bO w')) ∨
 gR P w0 φ N e b cs0 (lone (b.atR a (.inRegion ops (i :: rest) :: todo)) cs w) todo k := by
 obtain ⟨o, ho, hc⟩ := hr.op dE
 have bz := hr.lt dE
 rcases QU (rest := rest) (todo := todo) b9 hc ho I.sq he (I.reads hr hs dE r9 fun hi => absurd hi hid) h with ⟨v, v', s1, φ', w', bO, iE, h1, h2, h3, h4, h5, h6, h7⟩ | ⟨v, v', s1, φ', w', h1, h3, h4, h5, h6, h7⟩
 · left
   rw [zy] at h1
   obtain ⟨acm, hk⟩ := ace Km h1
   obtain ⟨act, xs, args, e1, e2, e3, e4, e5, e6⟩ := wj hc
   have bL := fun j => um L i j (by rw [I.size]; exact bz)
   have hb : ∀ p ∈ ec ops i, p ∈ done := fun p hp => I.sub p (r9 p hp)
   have jy : L.getD i false = false := by
    cases hh : L.getD i false with
    | false => rfl
    | true => exact absurd (I.sub i hh) hid
   have get : ∀ p, ao.dst ≠ some p → s.tm.get p = (match ao.dst with | none => s1.tm | some q => s1.tm.set q v).get p := by
    intro p hp
    cases hd : ao.dst with
    | none => simp only; rw [h2]
    | some q =>
     simp only
     rw [PT.cQ, if_neg (fun e => hp (by rw [hd, e])), h2]
   have rZ : ∀ j ∈ done, L.getD j false = false → ∀ aj : aX, as[j]? = some aj → ∀ p ∈ aj.reads, ao.dst ≠ some p := fun j hj hu aj dM p hp hd => by
    have Kn : gJ as i = some p := by unfold gJ; rw [dE]; exact hd
    rcases aca hr hs dM hp Kn with rfl | h | h
    · exact hid hj
    · exact hid (I.uk.closed j hj i h)
    · rw [r9 j h] at hu; cases hu
   have r7 : ∀ j ∈ done, ∀ (aj : aX) (dj : Pos), as[j]? = some aj → aj.dst = some dj → ao.dst ≠ some dj := fun j hj aj dj dM iG hd => by
    have Kn : gJ as i = some dj := by unfold gJ; rw [dE]; exact hd
    have Kh : gJ as j = some dj := by unfold gJ; rw [dM]; exact iG
    have := SB hr hs Kh Kn
    subst this
    exact hid hj
   refine ⟨φ', _, bO, _, w', hk, h3.mono I.nx, ?_, h7⟩
   refine ⟨by simp [I.size], ?_, ?_, ?_, ?_, .cons _ _ hid hb I.uk, ?_, ⟨by rw [Act.C8]; exact h6.df, h6.rc, h6.heap⟩, ?_, ?_, ?_, ?_, Nat.le_trans I.nx h4⟩
   · intro j hj
     rw [bL] at hj
     split at hj
     · rename_i e; rw [e]; exact List.mem_cons_self
     · exact List.mem_cons_of_mem _ (I.sub j hj)
   · intro j hj hu
     rw [bL] at hu
     split at hu
     · cases hu
     · rename_i cG
       rcases List.mem_cons.1 hj with hj | hj
       · exact absurd hj cG
       · exact SU j (I.late j hj hu) hu
   · intro j hj
     have := I.wC j (Kl j hj)
     exact ⟨this.1, List.mem_cons_of_mem _ this.2⟩
   · intro j hj p hp
     rw [bL] at hj ⊢
     split at hj
     · rename_i e
       subst e
       split
       · rfl
       · exact r9 p hp
     · split
       · rfl
       · exact I.closed j hj p hp
   · intro j hj
     rcases List.mem_cons.1 hj with rfl | hj
     · exact bz
     · exact I.lt j hj
   · rcases e5 with ⟨q1, _⟩ | ⟨dn, q1, _, _⟩
     · rw [q1]; exact I.rY
     · rw [q1]; simpa [Act.put] using I.rY
   · intro p hp
     have hold : ao.dst ≠ some p → VR φ' (s.tm.get p) (a.tmps.getD p.un undef) := fun lA => VR.ext h3 (I.wD p fun j hj hu iG => by
      by_cases zC : j = i
      · subst zC; exact hid hj
      · exact hp j (List.mem_cons_of_mem _ hj) (by rw [bL, if_neg zC]; exact hu) iG)
     by_cases lA : ao.dst = some p
     · rcases e5 with ⟨_, q2⟩ | ⟨dn, q1, DO, q3⟩
       · rw [q2] at lA; cases lA
       · rw [q3] at lA; cases lA
         have dW : dn < a.tmps.size := Nat.lt_of_lt_of_le DO I.rY
         rw [q1, q3, Pos.j3]
         have : (({ a with defers := iE } : Act).put (some dn) v').tmps.getD dn undef = v' := by simp [Act.put, dW]
         rw [this]
         simp only [PT.cQ, if_true]
         exact h5
     · have hg := get p lA
       have : (({ a with defers := iE } : Act).put o.dst v').tmps.getD p.un undef = a.tmps.getD p.un undef := by
        rcases e5 with ⟨q1, _⟩ | ⟨dn, q1, DO, q3⟩
        · rw [q1]; rfl
        · have cG : dn ≠ p.un := fun e => lA (by rw [q3]; congr 1; exact Pos.rm (by rw [Pos.j3, e]))
          rw [q1]
          simp [Act.put, Array.getD_eq_getD_getElem?, Array.getElem?_setIfInBounds_ne cG]
       rw [this]
       have key := hold lA
       rw [hg] at key
       exact key
   · intro j hj hu aj dj dM iG
     rw [bL] at hu
     split at hu
     · cases hu
     · rename_i cG
       rcases List.mem_cons.1 hj with hj | hj
       · exact absurd hj cG
       · obtain ⟨aj', SV, qa⟩ := acm j (SU j (I.late j hj hu) hu)
         rw [dM] at SV; cases SV
         exact (I.prom j hj hu aj dj dM iG).kL iG (fun p hp => get p (rZ j hj hu aj dM p hp)) (get dj (r7 j hj aj dj dM iG)) h3 h4 qa
   · intro i1 zD j1 zE mg jL cG a1 a2 d1 d2 f g1 g2 g3 g4 m1 m2
     rw [bL] at mg jL
     split at mg
     · cases mg
     · rename_i n1
       split at jL
       · cases jL
       · rename_i n2
         rcases List.mem_cons.1 zD with er | er
         · exact n1 er
         · rcases List.mem_cons.1 zE with o9 | o9
           · exact n2 o9
           · exact I.DN i1 er j1 o9 mg jL cG a1 a2 d1 d2 f g1 g2 g3 g4 (m1.state (fun p hp => get p (rZ i1 er mg a1 g1 p hp)) (get d1 (r7 i1 er a1 d1 g1 g3))) (m2.state (fun p hp => get p (rZ j1 o9 jL a2 g2 p hp)) (get d2 (r7 j1 o9 a2 d2 g2 g4)))
 · right
   exact ⟨.az v, s1, φ', cs, a, w', h1, h3.mono I.nx, Nat.le_trans I.nx h4, h6, ⟨_, v', h5, h7⟩⟩
end
end Go.Ve
namespace Go.Ve
open Go.RowKit
section
variable {P : Program} {w0 w : World} {φ : ak} {ops : Array Oper} {as : Array aX} {s : St} {e : Env} {b : Frame} {cs0 cs : List Frame} {a : Act} {N : Nat} {done db : List Nat} {L : Array Bool}
theorem SW {o : Oper} {j p : Nat} (ho : ops[j]? = some o) : p ∈ ec ops j ↔ ∃ x ∈ o.after, Region.binds .any x = true ∧ x.on = p := by
 unfold ec SO
 rw [ho]
 simp only [List.mem_map, List.mem_filter, Array.mem_toList_iff]
 constructor
 · rintro ⟨x, ⟨h1, h2⟩, h3⟩; exact ⟨x, h1, h2, h3⟩
 · rintro ⟨x, h1, h2, h3⟩; exact ⟨x, ⟨h1, h2⟩, h3⟩
theorem zF (hL : L.size = ops.size) {j : Nat} : j ∈ Region.ready .any ops L ↔ j < ops.size ∧ L.getD j false = false ∧ ∀ p ∈ ec ops j, L.getD p false = true := by
 rw [mem_ready]
 constructor
 · rintro ⟨h1, o, ho, h2⟩
   have bz : j < ops.size := (Array.getElem?_eq_some_iff.1 ho).1
   refine ⟨bz, ?_, fun p hp => ?_⟩
   · have : j < L.size := by omega
     simpa [Array.getD, this] using h1
   · obtain ⟨x, q1, q2, rfl⟩ := (SW ho).1 hp
     exact h2 x q1 q2
 · rintro ⟨bz, h1, h2⟩
   refine ⟨?_, ops[j], by simp [bz], fun x hx hbx => h2 x.on ((SW (by simp [bz])).2 ⟨x, hx, hbx, rfl⟩)⟩
   have : j < L.size := by omega
   simpa [Array.getD, this] using h1
theorem acn {md : Region.Mode} {fuel t : Nat} (h : Region.ready md ops L = []) : Region.linearise.go md ops fuel t L [] = [] := by
 cases fuel with
 | zero => simp [Region.linearise.go]
 | succ fuel =>
  simp only [Region.linearise.go]
  change (match (Region.ready md ops L)[t % (Region.ready md ops L).length]? with
   | some i => Region.linearise.go md ops fuel (t / (Region.ready md ops L).length) (L.setIfInBounds i true) [i]
   | none => [].reverse) = []
  rw [h]; rfl
theorem SY {md : Region.Mode} {fuel t : Nat} (h : Region.ready md ops L ≠ []) : ∃ i t', i ∈ Region.ready md ops L ∧ Region.linearise.go md ops (fuel + 1) t L [] = i :: Region.linearise.go md ops fuel t' (L.setIfInBounds i true) [] := by
 have hlen : 0 < (Region.ready md ops L).length := List.length_pos_iff.2 h
 have bz : t % (Region.ready md ops L).length < (Region.ready md ops L).length := Nat.mod_lt _ hlen
 have hi : (Region.ready md ops L)[t % (Region.ready md ops L).length]? = some (Region.ready md ops L)[t % (Region.ready md ops L).length] := List.getElem?_eq_getElem bz
 refine ⟨(Region.ready md ops L)[t % (Region.ready md ops L).length], t / (Region.ready md ops L).length, List.getElem_mem bz, ?_⟩
 conv => lhs; simp only [Region.linearise.go]
 change (match (Region.ready md ops L)[t % (Region.ready md ops L).length]? with
  | some i => Region.linearise.go md ops fuel (t / (Region.ready md ops L).length) (L.setIfInBounds i true) [i]
  | none => [].reverse) = _
 rw [hi]
 simp only []
 rw [linearise_go_acc, List.reverse_singleton, List.singleton_append]
def wH (ops : Array Oper) (L : Array Bool) : Nat := (List.range ops.size).countP fun j => !L.getD j false
theorem countP_set {p q : Nat → Bool} {r : Nat} (h : ∀ j, q j = true → p j = true ∧ j ≠ r) (hpr : p r = true) : ∀ {l : List Nat}, r ∈ l → l.countP q + 1 ≤ l.countP p := by
  have mono : ∀ l : List Nat, l.countP q ≤ l.countP p := fun l => List.countP_mono_left fun x _ hx => (h x hx).1
  intro l
  induction l with
  | nil => intro hm; cases hm
  | cons x l ih =>
    intro hm
    by_cases hx : x = r
    · subst hx
      have hq : q x = false := by
        cases hh : q x with
        | false => rfl
        | true => exact absurd rfl (h x hh).2
      have := mono l
      simp [List.countP_cons, hq, hpr]
      exact this
    · have mH : r ∈ l := by
        rcases List.mem_cons.1 hm with hm | hm
        · exact absurd hm.symm hx
        · exact hm
      have := ih mH
      rw [List.countP_cons, List.countP_cons]
      cases hq : q x with
      | false => simp; omega
      | true => rw [(h x hq).1]; simp; omega
theorem SZ (hL : L.size = ops.size) {i : Nat} (hi : i < ops.size) (hu : L.getD i false = false) : wH ops (L.setIfInBounds i true) + 1 ≤ wH ops L := by
 refine countP_set (r := i) (fun j hj => ?_) (by rw [hu]; rfl) (List.mem_range.2 hi)
 rw [um L i j (by omega)] at hj
 split at hj
 · cases hj
 · rename_i cG; exact ⟨hj, cG⟩
theorem Ko {i : Nat} (hi : i < ops.size) (hu : L.getD i false = false) : 0 < wH ops L := List.countP_pos_iff.2 ⟨i, List.mem_range.2 hi, by rw [hu]; rfl⟩
theorem aco (hr : lz P e.nt ops as) (hs : qv ops as = true) {rec : Task → Bool} (b9 : ∀ t, rec t = true → cR P w0 t) {k : KS} {todo : List Item} : ∀ (n : Nat) (order : List Nat) (fuel t : Nat) {done db : List Nat} {L : Array Bool} {φ : ak} {s : St} {cs : List Frame} {a : Act} {w : World} {dl : List hO},
    order.length + fuel ≤ n → Inv P w0 N e.nt ops as b cs0 done db L φ s cs a w → kP φ e b → r8 ops as done db order = some dl → mM rec dl e s k = true → wH ops L ≤ fuel →
    gR P w0 φ N e b cs0 (lone (b.atR a (.inRegion ops (Region.linearise.go .any ops fuel t L []) :: todo)) cs w) todo k := by
  intro n
  induction n with
  | zero =>
    intro order fuel t done db L φ s cs a w dl hn I he fV hk hu
    have h0 : order = [] := by cases order with | nil => rfl | cons _ _ => simp at hn
    have hf : fuel = 0 := by omega
    subst h0; subst hf
    unfold r8 at fV
    split at fV
    · rename_i eO
      cases fV
      have ur : ∀ j, j < ops.size → L.getD j false = true := fun j hj => by
        cases h : L.getD j false with
        | true => rfl
        | false => have := Ko hj h; omega
      refine ⟨.normal, s, φ, cs, a, w, hk, Ext.refl _ _, I.nx, ⟨I.sq, I.rY, fun p => I.wD p fun j hj aU => ?_⟩, ?_⟩
      · rw [ur j (I.lt j hj)] at aU; cases aU
      · simp only [Region.linearise.go, List.reverse_nil]; exact .one stepR_region_end
    · cases fV
  | succ n ih =>
    intro order fuel t done db L φ s cs a w dl hn I he fV hk hu
    have run : ∀ (i : Nat) (fuel t' : Nat), order.length + fuel ≤ n → i ∈ done → L.getD i false = false → (∀ p ∈ ec ops i, L.getD p false = true) → wH ops L ≤ fuel + 1 →
        gR P w0 φ N e b cs0 (lone (b.atR a (.inRegion ops (i :: Region.linearise.go .any ops fuel t' (L.setIfInBounds i true) []) :: todo)) cs w) todo k := by
      intro i fuel t' Kp hid jy r9 aU
      obtain ⟨φ', a', w', h1, h2, h3⟩ := I.exec hr hs hid jy r9 (rest := Region.linearise.go .any ops fuel t' (L.setIfInBounds i true) []) (todo := todo)
      have := SZ I.size (I.lt i hid) jy
      exact (ih order fuel t' Kp h3 (he.ext h2) fV hk (by omega)).of_steps h2 (Nat.le_refl _) h1
    cases order with
    | nil =>
      by_cases hex : ∃ x ∈ done, (fun j => !L.getD j false) x = true
      · obtain ⟨r, q1, q2, q3⟩ := I.uk.first hex
        have jy : L.getD r false = false := by simpa using q2
        have mQ : r ∈ Region.ready .any ops L := (zF I.size).2 ⟨I.lt r q1, jy, fun p hp => by simpa using q3 p hp⟩
        have mW := Ko (I.lt r q1) jy
        obtain ⟨f', rfl⟩ : ∃ f', fuel = f' + 1 := ⟨fuel - 1, by omega⟩
        obtain ⟨i, t', hi, tQ⟩ := SY (fuel := f') (t := t) (List.ne_nil_of_mem mQ)
        rw [tQ]
        obtain ⟨i1, i2, i3⟩ := (zF I.size).1 hi
        have eO := fV
        unfold r8 at eO
        split at eO
        · rename_i hc
          have hid : i ∈ done := by simpa using List.all_eq_true.1 hc i (List.mem_range.2 i1)
          exact run i f' t' (by first | (simp at hn ⊢; omega) | (simp at hn; omega)) hid i2 i3 (by omega)
        · cases eO
      · have eO := fV
        unfold r8 at eO
        split at eO
        · rename_i hc
          cases eO
          have ur : ∀ j ∈ done, L.getD j false = true := fun j hj => by
            cases h : L.getD j false with
            | true => rfl
            | false => exact absurd ⟨j, hj, by simp [h]⟩ hex
          have mQ : Region.ready .any ops L = [] := by
            cases hq : Region.ready .any ops L with
            | nil => rfl
            | cons x l =>
              have hx : x ∈ Region.ready .any ops L := by rw [hq]; exact List.mem_cons_self
              obtain ⟨i1, i2, _⟩ := (zF I.size).1 hx
              have := ur x (by simpa using List.all_eq_true.1 hc x (List.mem_range.2 i1))
              rw [i2] at this; cases this
          rw [acn mQ]
          refine ⟨.normal, s, φ, cs, a, w, hk, Ext.refl _ _, I.nx, ⟨I.sq, I.rY, fun p => I.wD p fun j hj aU => ?_⟩, .one stepR_region_end⟩
          rw [ur j hj] at aU; cases aU
        · cases eO
    | cons i order =>
      have ajo := fV
      unfold r8 at fV
      split at fV
      · cases fV
      · rename_i ao dE
        split at fV
        · rename_i S4
          simp only [Bool.and_eq_true, Bool.not_eq_true', List.contains_eq_mem, decide_eq_false_iff_not] at S4
          obtain ⟨hid, hb⟩ := S4
          have bG : ∀ p ∈ ec ops i, p ∈ done := fun p hp => by simpa using List.all_eq_true.1 hb p hp
          split at fV
          · rename_i kT
            split at fV
            · rename_i acq
              split at fV
              · rename_i kL r Km qA
                cases fV
                have jy : L.getD i false = false := by
                  cases hh : L.getD i false with
                  | false => rfl
                  | true => exact absurd (I.sub i hh) hid
                have hT : qw ops (i :: done) := .cons _ _ hid bG I.uk
                obtain ⟨r0, q1, q2, q3⟩ := hT.first (u := fun j => !L.getD j false) ⟨i, List.mem_cons_self, by simp only [jy]; rfl⟩
                have S5 : L.getD r0 false = false := by simpa using q2
                have S6 : r0 < ops.size := by
                  rcases List.mem_cons.1 q1 with rfl | q1
                  · exact hr.lt dE
                  · exact I.lt r0 q1
                have mQ : r0 ∈ Region.ready .any ops L := (zF I.size).2 ⟨S6, S5, fun p hp => by simpa using q3 p hp⟩
                have mW := Ko S6 S5
                obtain ⟨f', rfl⟩ : ∃ f', fuel = f' + 1 := ⟨fuel - 1, by omega⟩
                obtain ⟨i', t', hi, tQ⟩ := SY (fuel := f') (t := t) (List.ne_nil_of_mem mQ)
                rw [tQ]
                obtain ⟨i1, i2, i3⟩ := (zF I.size).1 hi
                by_cases DW : i' ∈ done
                · exact run i' f' t' (by first | (simp at hn ⊢; omega) | (simp at hn; omega)) DW i2 i3 (by omega)
                · have Dg : i' = i := by
                    have := List.all_eq_true.1 acq i' (List.mem_range.2 i1)
                    simp only [Bool.or_eq_true, List.contains_eq_mem, decide_eq_true_eq, beq_iff_eq, Bool.not_eq_true'] at this
                    rcases this with (h | h) | h
                    · exact absurd h DW
                    · exact h
                    · have : (ec ops i').all done.contains = true := List.all_eq_true.2 fun p hp => by simpa using I.sub p (i3 p hp)
                      rw [this] at h; cases h
                  subst Dg
                  have acr : ∀ j ∈ rW ops (ec ops i') done, L.getD j false = true := acd (good := fun j => L.getD j false = true) I.closed done _ i3
                  rcases I.act hr hs he b9 hid dE i3 (late := db.filter fun j => !(rW ops (ec ops i') done).contains j) (fun j hj aU => by
                    refine List.mem_filter.2 ⟨hj, ?_⟩
                    simp only [Bool.not_eq_true', List.contains_eq_mem, decide_eq_false_iff_not]
                    intro hc
                    rw [acr j hc] at aU; cases aU) (fun j hj => (List.mem_filter.1 hj).1) Km hk (rest := Region.linearise.go .any ops f' t' (L.setIfInBounds i' true) []) (todo := todo) with ⟨φ', s', bO, a', w', z1, z2, z3, z4⟩ | z
                  · have := SZ I.size i1 i2
                    exact (ih order f' t' (by first | (simp at hn ⊢; omega) | (simp at hn; omega)) z3 (he.ext z2) qA z1 (by omega)).of_steps z2 (Nat.le_refl _) z4
                  · exact z
              · cases fV
            · cases fV
          · rename_i kT
            simp only [Option.map_eq_some_iff] at fV
            obtain ⟨dl', acs, rfl⟩ := fV
            obtain ⟨s', z1, z2, z3⟩ := I.SJ hr hs hid bG dE (by simpa using kT) (show rJ rec ao e s k (fun s => mM rec dl' e s k) = true from hk)
            exact ih order fuel t (by first | (simp at hn ⊢; omega) | (simp at hn; omega)) z2 he acs z1 hu
        · cases fV
theorem Sy (bt : P.follows .mixedOrders = true) (w0 : World) : QW P w0 := by
 intro rec b9 e b cs0 todo k id ops l dl hl rM φ s cs a w hs he hk
 unfold IU at rM
 split at rM
 · rename_i uu
   have hr := ab9 hl
   have mN := stepR_region_draw (P := P) (b := b) (a := a) (k := todo) (cs := cs) (w := w) (id := id) (ops := ops)
   have acu : ∀ t, Region.schedule (P.follows .mixedOrders) ops t = Region.linearise.go .any ops ops.size t (Array.replicate ops.size false) [] := fun t => by
    simp [Region.schedule, bt, Region.linearise]
   rw [acu] at mN
   have S7 : ∀ j, (Array.replicate ops.size false).getD j false = false := fun j => by
    rw [Array.getD_eq_getD_getElem?, Array.getElem?_replicate]; split <;> rfl
   have I : Inv P w0 s.h.nx e.nt ops l.toArray b cs0 [] [] (Array.replicate ops.size false) φ s cs a { w with drawn := w.drawn + 1 } :=
    ⟨by simp, fun j hj => (by rw [S7] at hj; cases hj), fun j hj => (by cases hj), fun j hj => (by cases hj), fun j hj => (by rw [S7] at hj; cases hj), .nil, fun j hj => (by cases hj),
     ⟨hs.df, hs.rc, hs.heap.world rfl rfl rfl rfl⟩, hs.tm.1, fun p _ => hs.tm.2 p, fun j hj => (by cases hj), fun j hj => (by cases hj), Nat.le_refl _⟩
   refine (aco hr uu b9 _ _ ops.size _ (Nat.le_refl _) I he rM hk ?_).of_steps (Ext.refl _ _) (Nat.le_refl _) (.one mN)
   have := List.countP_le_length (p := fun j => !(Array.replicate ops.size false).getD j false) (l := List.range ops.size)
   simpa [wH] using this
 · cases rM
end
end Go.Ve
namespace Go.Ve
open Go.RowKit
theorem Sx {P : Program} {w0 : World} (bt : P.follows .mixedOrders = true) {prog : NT fU} (nR : ∀ f af, prog.get f = some af → bN P f = some af) {sums : qk} (Kb : Dl P w0 sums) : ∀ (n : Nat) (t : Task), ev prog sums n t = true → cR P w0 t := by
 intro n
 have I7 := Sy bt w0
 induction n with
 | zero => intro t h; cases h
 | succ n ih =>
  intro t h
  rw [abT] at h
  cases t with
  | code ac e s k => exact fun c hc => Q8 I7 ih c ac e s k hc h
  | call f args h0 k => exact Rk nR ih Kb h
  | wh f args rc h0 k => exact abH nR ih h
  | round l args h0 k => exact Rm ih h
  | leave ds m h0 k => exact Jb ih h
theorem HR.bare (P : Program) (w : World) : HR P w (fun _ => none) ⟨0, .e⟩ w :=
 ⟨fun f f' b d d' n n' _ h => (by cases h), fun _ _ => rfl, fun _ _ => rfl, fun f h => (by cases h), fun f b d n h => (by cases h), ⟨rfl, rfl, rfl, Nat.le_refl _, fun _ _ => rfl⟩⟩
def NT.Holds {α : Type} (Q : Nat → α → Prop) : Nat → Nat → NT α → Prop
 | _, _, .e => True
 | o, s, .n l v r => (∀ a, v = some a → Q o a) ∧ NT.Holds Q (o + s) (s + s) l ∧ NT.Holds Q (o + s + s) (s + s) r
theorem NT.Kc {α : Type} {Q : Nat → α → Prop} : ∀ {t : NT α} {o s : Nat}, t.Holds Q o s → ∀ i a, t.get i = some a → Q (o + s * i) a
 | .e, _, _, _, i, a, h => by cases h
 | .n l v r, o, s, ⟨h0, hl, hr⟩, i, a, h => by
  rcases NT.rq i with rfl | ⟨j, rfl⟩ | ⟨j, rfl⟩
  · exact h0 a h
  · rw [NT.my] at h
    have := NT.Kc hl j a h
    rwa [show o + s + (s + s) * j = o + s * (2 * j + 1) by rw [Nat.mul_add, Nat.add_mul, Nat.mul_comm 2 j, ← Nat.mul_assoc, Nat.mul_two]; omega] at this
  · rw [NT.mz] at h
    have := NT.Kc hr j a h
    rwa [show o + s + s + (s + s) * j = o + s * (2 * j + 2) by rw [Nat.mul_add, Nat.add_mul, Nat.mul_comm 2 j, ← Nat.mul_assoc, Nat.mul_two]; omega] at this
theorem NT.holds {α : Type} {Q : Nat → α → Prop} {t : NT α} (h : t.Holds Q 0 1) (i : Nat) (a : α) (hi : t.get i = some a) : Q i a := by
 have := NT.Kc h i a hi
 rwa [Nat.zero_add, Nat.one_mul] at this
theorem NT.no {α : Type} {Q : α → Prop} : ∀ a, (none : Option α) = some a → Q a := fun a e => by cases e
end Go.Ve
namespace Go.Ve
open Go.RowKit
open Classical
noncomputable section
abbrev Sl := Pos → Value
def Sl.up (σ : Sl) (p : Pos) (v : Value) : Sl := fun q => bif p.beq q then v else σ q
def Sl.ey (σ : Sl) (d : Option Pos) (v : Value) : Sl := match d with
 | none => σ
 | some p => σ.up p v
structure DS where
 df : List eg
 rc : Rc
def dX (σ : Sl) : dC → Value
 | .t p => σ p
 | .c v => v
abbrev PQ := AX → Sl → DS → AH → Prop
theorem Sl.TB (t : PT) (p : Pos) (v : Value) : (t.set p v).get = Sl.up t.get p v := by
 funext q
 rw [PT.cQ]
 unfold Sl.up
 by_cases e : q = p
 · subst e; rw [if_pos rfl, Pos.beq_iff.2 rfl]; rfl
 · rw [if_neg e]
   have : p.beq q = false := by
    cases h : p.beq q with
    | false => rfl
    | true => exact absurd (Pos.beq_iff.1 h).symm e
   rw [this]; rfl
def PT.uz (t : PT) (d : Option Pos) (v : Value) : PT := match d with
 | none => t
 | some p => t.set p v
theorem Sl.TC (t : PT) (d : Option Pos) (v : Value) : (t.uz d v).get = Sl.ey t.get d v := by
 cases d with
 | none => rfl
 | some p => exact Sl.TB t p v
theorem uA (d : Option Pos) (s : St) (v : Value) (h : AH) (k : St → Bool) : gn d s v h k = k ⟨s.tm.uz d v, s.df, s.rc, h⟩ := by rw [zy]; cases d <;> rfl
theorem KC (t : PT) (o : dC) : gI t o = dX t.get o := by cases o <;> rfl
section
variable (P : Program) (w0 : World)
def ez : Task → Bool := fun t => decide (cR P w0 t)
theorem zO (t : Task) (h : ez P w0 t = true) : cR P w0 t := of_decide_eq_true h
theorem ku {t : Task} (h : cR P w0 t) : ez P w0 t = true := decide_eq_true h
def WP (p : Prim) (vs : List Value) (h : AH) (R : Value → AH → Prop) : Prop := ∀ k : KV, (∀ v h, R v h → k v h = true) → p.ev vs h k = true
def WF (f : FuncId) (args : List Value) (h : AH) (R : CR → AH → Prop) : Prop := cR P w0 (.call f args h fun r h => decide (R r h))
def WR (l : Nat) (args : List Value) (h : AH) (R : CR → AH → Prop) : Prop := cR P w0 (.round l args h fun r h => decide (R r h))
def WL (ds : List eg) (m : Option Value) (h : AH) (K : Option Value → AH → Prop) : Prop := match ds with
 | [] => K m h
 | ds => cR P w0 (.leave ds m h fun m h => decide (K m h))
def WC (c : cA) (e : Env) (σ : Sl) (d : DS) (h : AH) (Q : PQ) : Prop :=
 ∀ tm : PT, tm.get = σ → cR P w0 (.code c e ⟨tm, d.df, d.rc, h⟩ fun x s => decide (Q x s.tm.get ⟨s.df, s.rc⟩ s.h))
def ij (act : gZ) (dst : Option Pos) (e : Env) (σ : Sl) (d : DS) (h : AH) (vs : List Value) (Q : PQ) (K : Sl → DS → AH → Prop) : Prop :=
 match act with
 | .aA p => WP p vs h fun v h => K (σ.ey dst v) d h
 | .call f => WF P w0 f vs h fun r h => match r with
  | .ret v => K (σ.ey dst v) d h
  | .az v => Q (.az v) σ d h
 | .dyn => (match vs with
  | .func (.func g) ⟨first⟩ ⟨bw⟩ :: as => WF P w0 g (first ++ (as ++ bw)) h fun r h => match r with
   | .ret v => K (σ.ey dst v) d h
   | .az v => Q (.az v) σ d h
  | .func (.yield l) ⟨[]⟩ ⟨[]⟩ :: as => WR P w0 l as h fun r h => match r with
   | .ret v => K (σ.ey dst v) d h
   | .az v => Q (.az v) σ d h
  | _ => False)
 | .recover => (match e.rE, vs with
  | none, [] => (match d.rc with
   | .can v => K (σ.ey dst v) ⟨d.df, .j8⟩ h
   | _ => K (σ.ey dst .nilIface) d h)
  | _, _ => False)
 | .panic => (match vs with
  | [.iface t x] => Q (.az (.iface t x)) σ d h
  | _ => False)
 | .defer => (match e.rE, vs with
  | none, .func (.func g) ⟨first⟩ ⟨bw⟩ :: as => K (σ.ey dst undef) ⟨.fn g (first ++ (as ++ bw)) :: d.df, d.rc⟩ h
  | _, _ => False)
def wpOp (o : aX) (e : Env) (σ : Sl) (d : DS) (h : AH) (Q : PQ) (K : Sl → DS → AH → Prop) : Prop :=
 match o.guard with
 | none => ij P w0 o.act o.dst e σ d h (o.args.map (dX σ)) Q K
 | some (p, want) => match σ p with
  | .bool b => bif lu b want then ij P w0 o.act o.dst e σ d h (o.args.map (dX σ)) Q K else K (σ.ey o.dst undef) d h
  | _ => K (σ.ey o.dst undef) d h
def wpOps : List aX → Env → Sl → DS → AH → PQ → Prop
 | [], _, σ, d, h, Q => Q .normal σ d h
 | o :: l, e, σ, d, h, Q => wpOp P w0 o e σ d h Q fun σ d h => wpOps l e σ d h Q
def uB (act : gZ) (dst : Option Pos) (vs : List Value) (σ : Sl) (h : AH) : Prop := match act, dst with
 | .aA p, some q => (bif p.makes then p.fresh vs (ug ⟨.e, [], .off, h⟩ (σ q)) = true else WP p vs h fun v' _ => qu v' (σ q) = true)
 | _, _ => False
def wL (o : aX) (σ : Sl) (h : AH) : Prop := match o.guard with
 | none => uB o.act o.dst (o.args.map (dX σ)) σ h
 | some (p, want) => match σ p with
  | .bool b => bif lu b want then uB o.act o.dst (o.args.map (dX σ)) σ h else True
  | _ => True
def uC : List hO → Env → Sl → DS → AH → PQ → Prop
 | [], _, σ, d, h, Q => Q .normal σ d h
 | .op _ o :: l, e, σ, d, h, Q => wpOp P w0 o e σ d h Q fun σ d h => uC l e σ d h Q
 | .kL _ o :: l, e, σ, d, h, Q => wL o σ h ∧ uC l e σ d h Q
def sc (c : Sl → DS → AH → Prop) (Q : PQ) : PQ := fun x σ d h => match x with
 | .normal => c σ d h
 | x => Q x σ d h
def KD (id : Nat) (Q : PQ) : PQ := fun x σ d h => match x with
 | .exit j => bif Nat.beq j id then Q .normal σ d h else Q (.exit j) σ d h
 | x => Q x σ d h
def dw : cA → Env → Sl → DS → AH → PQ → Prop
 | .skip, _, σ, d, h, Q => Q .normal σ d h
 | .ops l, e, σ, d, h, Q => wpOps P w0 l e σ d h Q
 | .draw l, e, σ, d, h, Q => uC P w0 l e σ d h Q
 | .seq a b, e, σ, d, h, Q => dw a e σ d h (sc (fun σ d h => dw b e σ d h Q) Q)
 | .cond c a b, e, σ, d, h, Q => (match dX σ c with
  | .bool true => dw a e σ d h Q
  | .bool false => dw b e σ d h Q
  | _ => False)
 | .block id c, e, σ, d, h, Q => dw c e σ d h (KD id Q)
 | .loop c, e, σ, d, h, Q => WC P w0 (.loop c) e σ d h Q
 | .lY f ps a b, e, σ, d, h, Q => WC P w0 (.lY f ps a b) e σ d h Q
 | .exit id, _, σ, d, h, Q => Q (.exit id) σ d h
 | .ret, _, σ, d, h, Q => Q .ret σ d h
end
section
variable {P : Program} {w0 : World}
theorem fG.mono {f : FuncId} {args : List Value} {h : AH} {k k' : CR → AH → Bool} (hk : ∀ r h, k r h = true → k' r h = true) (H : fG P w0 f args h k) : fG P w0 f args h k' :=
 ⟨H.1, fun φ args' w hl hh => (H.2 φ args' w hl hh).mono fun _ _ ⟨r, h', φ', h1, h2⟩ => ⟨r, h', φ', hk _ _ h1, h2⟩⟩
theorem qd.mono {l : Nat} {args : List Value} {h : AH} {k k' : CR → AH → Bool} (hk : ∀ r h, k r h = true → k' r h = true) (H : qd P w0 l args h k) : qd P w0 l args h k' := by
 intro φ args' l' w h1 h2 h3 h4
 obtain ⟨f, tmps, as, bd, h5, h6⟩ := H φ args' l' w h1 h2 h3 h4
 refine ⟨f, tmps, as, bd, h5, fun c cs => ?_⟩
 obtain ⟨v, v', h', φ', w', g1, g2⟩ := h6 c cs
 exact ⟨v, v', h', φ', w', hk _ _ g1, g2⟩
theorem yF.mono {c : Code} {e : Env} {s : St} {k k' : KS} (hk : ∀ x s, k x s = true → k' x s = true) (H : yF P w0 c e s k) : yF P w0 c e s k' := by
 intro φ b cs0 cs a w h1 h2 it h3 todo
 obtain ⟨x, s', φ', bO, a', w', g1, g2⟩ := H φ b cs0 cs a w h1 h2 it h3 todo
 exact ⟨x, s', φ', bO, a', w', hk _ _ g1, g2⟩
theorem lr.mono {ds : List eg} {m : Option Value} {h : AH} {k k' : Option Value → AH → Bool} (hk : ∀ r h, k r h = true → k' r h = true) (H : lr P w0 ds m h k) : lr P w0 ds m h k' := by
 intro φ fr cs w h1 h2 h3
 obtain ⟨m', h', φ', w', u, g1, g2⟩ := H φ fr cs w h1 h2 h3
 exact ⟨m', h', φ', w', u, hk _ _ g1, g2⟩
theorem cR.uD {c : cA} {e : Env} {s : St} {k k' : KS} (hk : ∀ x s, k x s = true → k' x s = true) (H : cR P w0 (.code c e s k)) : cR P w0 (.code c e s k') := fun c hc => yF.mono hk (H c hc)
theorem WP.mono {p : Prim} {vs : List Value} {h : AH} {R R' : Value → AH → Prop} (hk : ∀ v h, R v h → R' v h) (H : WP p vs h R) : WP p vs h R' := fun k dc => H k fun v h hr => dc v h (hk v h hr)
theorem cm {p : Prim} {vs : List Value} {h h' : AH} {v : Value} {R : Value → AH → Prop} (e : ∀ k : KV, p.ev vs h k = k v h') : WP p vs h R ↔ R v h' :=
 ⟨fun H => of_decide_eq_true ((e fun v h => decide (R v h)).symm.trans (H (fun v h => decide (R v h)) fun _ _ hr => decide_eq_true hr)), fun H k hk => by rw [e]; exact hk _ _ H⟩
theorem WF.mono {f : FuncId} {args : List Value} {h : AH} {R R' : CR → AH → Prop} (hk : ∀ r h, R r h → R' r h) (H : WF P w0 f args h R) : WF P w0 f args h R' :=
 fG.mono (fun r h hr => decide_eq_true (hk r h (of_decide_eq_true hr))) H
theorem WR.mono {l : Nat} {args : List Value} {h : AH} {R R' : CR → AH → Prop} (hk : ∀ r h, R r h → R' r h) (H : WR P w0 l args h R) : WR P w0 l args h R' :=
 qd.mono (fun r h hr => decide_eq_true (hk r h (of_decide_eq_true hr))) H
theorem WC.mono {c : cA} {e : Env} {σ : Sl} {d : DS} {h : AH} {Q Q' : PQ} (hk : ∀ x σ d h, Q x σ d h → Q' x σ d h) (H : WC P w0 c e σ d h Q) : WC P w0 c e σ d h Q' :=
 fun tm dD => cR.uD (fun x s hx => decide_eq_true (hk x _ _ _ (of_decide_eq_true hx))) (H tm dD)
variable (bt : P.follows .mixedOrders = true)
include bt
theorem pb {ac : cA} {e : Env} {s : St} {k : KS} (h : I8 (ez P w0) ac e s k = true) : cR P w0 (.code ac e s k) :=
 fun c hc => Q8 (Sy bt w0) (zO P w0) c ac e s k hc h
omit bt
theorem acP {dst : Option Pos} {s : St} {fail : KS} {k : St → Bool} {r : CR} {h : AH} (H : match r with | .ret v => k ⟨s.tm.uz dst v, s.df, s.rc, h⟩ = true | .az v => fail (.az v) ⟨s.tm, s.df, s.rc, h⟩ = true) : mG dst s fail k r h = true := by
 cases r with
 | ret v => show gn dst s v h k = true; rw [uA]; exact H
 | az v => cases s; exact H
theorem sd (l m : List Value) (k : List Value → Bool) : gi l m k = k (l ++ m) := by
 induction l generalizing k with
 | nil => rfl
 | cons x l ih => show gi l m (fun l' => k (x :: l')) = _; rw [ih]; rfl
theorem TD {act : gZ} {dst : Option Pos} {e : Env} {tm : PT} {d : DS} {h : AH} {vs : List Value} {Q : PQ} {K : Sl → DS → AH → Prop} {k : St → Bool}
 (hk : ∀ tm d h, K tm.get d h → k ⟨tm, d.df, d.rc, h⟩ = true) (H : ij P w0 act dst e tm.get d h vs Q K) :
 wk (ez P w0) act dst e ⟨tm, d.df, d.rc, h⟩ (fun x s => decide (Q x s.tm.get ⟨s.df, s.rc⟩ s.h)) k vs = true := by
 have key : ∀ (t : PT) (d : DS) (h : AH) (v : Value), K (Sl.ey t.get dst v) d h → k ⟨t.uz dst v, d.df, d.rc, h⟩ = true := fun t d h v hK =>
  hk (t.uz dst v) d h (by rw [Sl.TC]; exact hK)
 have ret : ∀ r h', (match r with | .ret v => K (Sl.ey tm.get dst v) d h' | .az v => Q (.az v) tm.get d h' : Prop) → mG dst ⟨tm, d.df, d.rc, h⟩ (fun x s => decide (Q x s.tm.get ⟨s.df, s.rc⟩ s.h)) k r h' = true := fun r h' hr => by
  refine acP ?_
  cases r with
  | ret v => exact key tm d h' v hr
  | az v => exact decide_eq_true hr
 cases act with
 | aA p =>
  show p.ev vs h (fun v h' => gn dst ⟨tm, d.df, d.rc, h⟩ v h' k) = true
  exact H _ fun v h' hK => by rw [uA]; exact key tm d h' v hK
 | call f =>
  show ez P w0 (.call f vs h (mG dst ⟨tm, d.df, d.rc, h⟩ _ k)) = true
  exact ku P w0 (fG.mono (fun r h' hr => ret r h' (of_decide_eq_true hr)) H)
 | dyn =>
  show IN (ez P w0) dst e ⟨tm, d.df, d.rc, h⟩ _ k vs = true
  cases vs with
  | nil => exact H.elim
  | cons f as =>
   simp only [ij] at H
   split at H
   · rename_i g first bw oQ heq
     cases heq
     show gi _ _ _ = true
     rw [sd, sd]
     exact ku P w0 (fG.mono (fun r h' hr => ret r h' (of_decide_eq_true hr)) H)
   · rename_i l oQ heq
     cases heq
     exact ku P w0 (qd.mono (fun r h' hr => ret r h' (of_decide_eq_true hr)) H)
   · exact H.elim
 | recover =>
  show yM dst e ⟨tm, d.df, d.rc, h⟩ k vs = true
  simp only [ij] at H
  unfold yM
  split at H
  · rename_i he
    simp only [he]
    split at H
    · rename_i v hv
      simp only [hv]
      rw [uA]; exact key tm ⟨d.df, .j8⟩ h v H
    · rename_i hv
      cases hr : d.rc with
      | can v => exact absurd hr (hv v)
      | off => simp only [uA]; have := key tm d h .nilIface H; rw [hr] at this; exact this
      | j8 => simp only [uA]; have := key tm d h .nilIface H; rw [hr] at this; exact this
  · exact H.elim
 | panic =>
  show C6 ⟨tm, d.df, d.rc, h⟩ (fun x s => decide (Q x s.tm.get ⟨s.df, s.rc⟩ s.h)) vs = true
  simp only [ij] at H
  split at H
  · exact decide_eq_true H
  · exact H.elim
 | defer =>
  show yP dst e ⟨tm, d.df, d.rc, h⟩ k vs = true
  simp only [ij] at H
  unfold yP
  split at H
  · rename_i he
    simp only [he]
    show gi _ _ _ = true
    rw [sd, sd, uA]
    exact key tm ⟨_ :: d.df, d.rc⟩ h undef H
  · exact H.elim
end
end
end Go.Ve
namespace Go.Ve
open Go.RowKit
open Classical
noncomputable section
section
variable {P : Program} {w0 : World}
theorem TE (t : PT) (l : List dC) : l.map (gI t) = l.map (dX t.get) := List.map_congr_left fun o _ => KC t o
theorem guard_of {g : Option (Pos × Bool)} {t : PT} {yes no : Bool} (H : match g with
 | none => yes = true
 | some (p, want) => match t.get p with
  | .bool b => (bif lu b want then yes else no) = true
  | _ => no = true) : mK g t yes no = true := by
 cases g with
 | none => exact H
 | some pw =>
  obtain ⟨p, want⟩ := pw
  show PT.cY p t (tV want yes no) = true
  rw [PT.iY]
  unfold tV
  revert H
  simp only []
  generalize t.get p = v
  intro H
  split
  · exact H
  · rename_i cG
    revert H
    split
    · rename_i b; exact absurd rfl (cG b)
    · exact fun H => H
theorem TF {o : aX} {e : Env} {tm : PT} {d : DS} {h : AH} {Q : PQ} {K : Sl → DS → AH → Prop} {k : St → Bool}
 (hk : ∀ tm d h, K tm.get d h → k ⟨tm, d.df, d.rc, h⟩ = true) (H : wpOp P w0 o e tm.get d h Q K) :
 rJ (ez P w0) o e ⟨tm, d.df, d.rc, h⟩ (fun x s => decide (Q x s.tm.get ⟨s.df, s.rc⟩ s.h)) k = true := by
 obtain ⟨dst, act, args, g⟩ := o
 show mK g tm (mJ args tm (wk (ez P w0) act dst e ⟨tm, d.df, d.rc, h⟩ _ k)) (gn dst ⟨tm, d.df, d.rc, h⟩ undef h k) = true
 rw [wB, uA, TE]
 have ur : K (Sl.ey tm.get dst undef) d h → k ⟨tm.uz dst undef, d.df, d.rc, h⟩ = true := fun hK => hk (tm.uz dst undef) d h (by rw [Sl.TC]; exact hK)
 refine guard_of ?_
 unfold wpOp at H
 cases g with
 | none => exact TD hk H
 | some pw =>
  obtain ⟨p, want⟩ := pw
  revert H
  simp only []
  generalize tm.get p = v
  intro H
  cases v <;> first | exact ur H | skip
  rename_i b
  simp only at H ⊢
  cases hb : lu b want with
  | true => rw [hb] at H; exact TD hk H
  | false => rw [hb] at H; exact ur H
theorem acQ {e : Env} {Q : PQ} : ∀ {l : List aX} {tm : PT} {d : DS} {h : AH}, wpOps P w0 l e tm.get d h Q → yT (ez P w0) l e ⟨tm, d.df, d.rc, h⟩ (fun x s => decide (Q x s.tm.get ⟨s.df, s.rc⟩ s.h)) = true := by
 intro l
 induction l with
 | nil => intro tm d h H; exact decide_eq_true H
 | cons o l ih => intro tm d h H; exact TF (k := fun s => yT (ez P w0) l e s _) (fun tm d h hK => ih hK) H
theorem acR {o : aX} {tm : PT} {d : DS} {h : AH} (H : wL o tm.get h) : wA o ⟨tm, d.df, d.rc, h⟩ = true := by
 obtain ⟨dst, act, args, g⟩ := o
 show mK g tm (mJ args tm fun vs => gZ.casesOn (motive := fun _ => Bool) act (zt dst ⟨tm, d.df, d.rc, h⟩ vs) ly false false false false) true = true
 rw [wB, TE]
 refine guard_of ?_
 have body : uB act dst (args.map (dX tm.get)) tm.get h → gZ.casesOn (motive := fun _ => Bool) act (zt dst ⟨tm, d.df, d.rc, h⟩ (args.map (dX tm.get))) ly false false false false = true := by
  intro H
  unfold uB at H
  cases act with
  | aA p =>
   cases dst with
   | none => exact H.elim
   | some q =>
    show PT.cY q tm (fun v => bif p.makes then p.fresh (args.map (dX tm.get)) (ug ⟨tm, d.df, d.rc, h⟩ v) else p.ev (args.map (dX tm.get)) h (zr v)) = true
    rw [PT.iY]
    simp only at H
    cases hm : p.makes with
    | true => rw [hm] at H; exact H
    | false => rw [hm] at H; exact H _ fun v h hv => hv
  | _ => exact H.elim
 unfold wL at H
 cases g with
 | none => exact body H
 | some pw =>
  obtain ⟨p, want⟩ := pw
  revert H
  simp only []
  generalize tm.get p = v
  intro H
  cases v <;> first | exact trivial | skip
  rename_i b
  simp only at H ⊢
  cases hb : lu b want with
  | true => rw [hb] at H; exact body H
  | false => rfl
theorem acS {e : Env} {Q : PQ} : ∀ {l : List hO} {tm : PT} {d : DS} {h : AH}, uC P w0 l e tm.get d h Q → mM (ez P w0) l e ⟨tm, d.df, d.rc, h⟩ (fun x s => decide (Q x s.tm.get ⟨s.df, s.rc⟩ s.h)) = true := by
 intro l
 induction l with
 | nil => intro tm d h H; exact decide_eq_true H
 | cons o l ih =>
  intro tm d h H
  cases o with
  | op i o => exact TF (k := fun s => mM (ez P w0) l e s _) (fun tm d h hK => ih hK) H
  | kL i o =>
   exact (iff_eq (wA o ⟨tm, d.df, d.rc, h⟩) (mM (ez P w0) l e ⟨tm, d.df, d.rc, h⟩ fun x s => decide (Q x s.tm.get ⟨s.df, s.rc⟩ s.h))).2 ⟨acR H.1, ih H.2⟩
theorem Ea (bt : P.follows .mixedOrders = true) : ∀ (c : cA) {e : Env} {σ : Sl} {d : DS} {h : AH} {Q : PQ}, dw P w0 c e σ d h Q → WC P w0 c e σ d h Q := by
 intro c
 induction c with
 | skip => intro e σ d h Q H tm dD; subst dD; exact pb bt (decide_eq_true H)
 | ops l => intro e σ d h Q H tm dD; subst dD; exact pb bt (acQ H)
 | draw l => intro e σ d h Q H tm dD; subst dD; exact pb bt (acS H)
 | seq a b jc iH =>
  intro e σ d h Q H tm dD
  subst dD
  refine pb bt (ku P w0 (cR.uD (fun x s hx => ?_) (jc H tm rfl)))
  have eH := of_decide_eq_true hx
  cases x with
  | normal => exact ku P w0 (iH eH s.tm rfl)
  | exit id => exact decide_eq_true eH
  | ret => exact decide_eq_true eH
  | az v => exact decide_eq_true eH
 | cond c a b jc iH =>
  intro e σ d h Q H tm dD
  subst dD
  refine pb bt ?_
  show qh c tm (fun v => qn v fun t => Bool.casesOn (motive := fun _ => Bool) t (ez P w0 (.code b e _ _)) (ez P w0 (.code a e _ _))) = true
  rw [Ka, KC]
  simp only [dw] at H
  revert H
  cases dX tm.get c <;> intro H <;> first | exact H.elim | skip
  rename_i t
  cases t with
  | true => exact ku P w0 (jc H tm rfl)
  | false => exact ku P w0 (iH H tm rfl)
 | block id c ih =>
  intro e σ d h Q H tm dD
  subst dD
  refine pb bt (ku P w0 (cR.uD (fun x s hx => ?_) (ih H tm rfl)))
  have eH := of_decide_eq_true hx
  cases x with
  | normal => exact decide_eq_true eH
  | exit j =>
   show (bif Nat.beq j id then _ else _) = true
   have Eb : bif Nat.beq j id then Q .normal s.tm.get ⟨s.df, s.rc⟩ s.h else Q (.exit j) s.tm.get ⟨s.df, s.rc⟩ s.h := eH
   cases hj : Nat.beq j id with
   | true => rw [hj] at Eb; exact decide_eq_true Eb
   | false => rw [hj] at Eb; exact decide_eq_true Eb
  | ret => exact decide_eq_true eH
  | az v => exact decide_eq_true eH
 | loop c ih => intro e σ d h Q H; exact H
 | lY f ps a b jc iH => intro e σ d h Q H; exact H
 | exit id => intro e σ d h Q H tm dD; subst dD; exact pb bt (decide_eq_true H)
 | ret => intro e σ d h Q H tm dD; subst dD; exact pb bt (decide_eq_true H)
theorem KE (bt : P.follows .mixedOrders = true) {c : cA} {e : Env} {σ : Sl} {d : DS} {h : AH} {Q : PQ} (H : dw P w0 c e σ d h (sc (fun σ d h => WC P w0 (.loop c) e σ d h Q) Q)) : WC P w0 (.loop c) e σ d h Q := by
 intro tm dD
 subst dD
 refine pb bt (ku P w0 (cR.uD (fun x s hx => ?_) (Ea bt c H tm rfl)))
 have eH := of_decide_eq_true hx
 cases x with
 | normal => exact ku P w0 ((show WC P w0 (.loop c) e s.tm.get ⟨s.df, s.rc⟩ s.h Q from eH) s.tm rfl)
 | exit id => exact decide_eq_true eH
 | ret => exact decide_eq_true eH
 | az v => exact decide_eq_true eH
theorem TG {act : gZ} {dst : Option Pos} {e : Env} {σ : Sl} {d : DS} {h : AH} {vs : List Value} {Q Q' : PQ} {K K' : Sl → DS → AH → Prop} (hQ : ∀ x σ d h, Q x σ d h → Q' x σ d h) (hK : ∀ σ d h, K σ d h → K' σ d h)
 (H : ij P w0 act dst e σ d h vs Q K) : ij P w0 act dst e σ d h vs Q' K' := by
 have r : ∀ (r : CR) (h : AH), (match r with | .ret v => K (σ.ey dst v) d h | .az v => Q (.az v) σ d h : Prop) → (match r with | .ret v => K' (σ.ey dst v) d h | .az v => Q' (.az v) σ d h : Prop) := fun r h hr => by
  cases r with
  | ret v => exact hK _ _ _ hr
  | az v => exact hQ _ _ _ _ hr
 cases act with
 | aA p => exact WP.mono (fun v h hv => hK _ _ _ hv) H
 | call f => exact WF.mono r H
 | dyn =>
  simp only [ij] at H ⊢
  split at H
  · exact WF.mono r H
  · exact WR.mono r H
  · exact H.elim
 | recover =>
  simp only [ij] at H ⊢
  split at H
  · split at H
    · exact hK _ _ _ H
    · exact hK _ _ _ H
  · exact H.elim
 | panic =>
  simp only [ij] at H ⊢
  split at H
  · exact hQ _ _ _ _ H
  · exact H.elim
 | defer =>
  simp only [ij] at H ⊢
  split at H
  · exact hK _ _ _ H
  · exact H.elim
theorem wpOp_mono {o : aX} {e : Env} {σ : Sl} {d : DS} {h : AH} {Q Q' : PQ} {K K' : Sl → DS → AH → Prop} (hQ : ∀ x σ d h, Q x σ d h → Q' x σ d h) (hK : ∀ σ d h, K σ d h → K' σ d h)
 (H : wpOp P w0 o e σ d h Q K) : wpOp P w0 o e σ d h Q' K' := by
 obtain ⟨dst, act, args, g⟩ := o
 unfold wpOp at H ⊢
 cases g with
 | none => exact TG hQ hK H
 | some pw =>
  obtain ⟨p, want⟩ := pw
  revert H
  simp only []
  generalize σ p = v
  intro H
  cases v <;> first | exact hK _ _ _ H | skip
  rename_i b
  simp only at H ⊢
  revert H
  cases lu b want with
  | true => exact fun H => TG hQ hK H
  | false => exact fun H => hK _ _ _ H
theorem acT {e : Env} {Q Q' : PQ} (hQ : ∀ x σ d h, Q x σ d h → Q' x σ d h) : ∀ {l : List aX} {σ : Sl} {d : DS} {h : AH}, wpOps P w0 l e σ d h Q → wpOps P w0 l e σ d h Q' := by
 intro l
 induction l with
 | nil => intro σ d h H; exact hQ _ _ _ _ H
 | cons o l ih => intro σ d h H; exact wpOp_mono hQ (fun _ _ _ => ih) H
theorem acU {e : Env} {Q Q' : PQ} (hQ : ∀ x σ d h, Q x σ d h → Q' x σ d h) : ∀ {l : List hO} {σ : Sl} {d : DS} {h : AH}, uC P w0 l e σ d h Q → uC P w0 l e σ d h Q' := by
 intro l
 induction l with
 | nil => intro σ d h H; exact hQ _ _ _ _ H
 | cons o l ih =>
  intro σ d h H
  cases o with
  | op i o => exact wpOp_mono hQ (fun _ _ _ => ih) H
  | kL i o => exact ⟨H.1, ih H.2⟩
theorem Ec : ∀ (c : cA) {e : Env} {σ : Sl} {d : DS} {h : AH} {Q Q' : PQ}, (∀ x σ d h, Q x σ d h → Q' x σ d h) → dw P w0 c e σ d h Q → dw P w0 c e σ d h Q' := by
 intro c
 induction c with
 | skip => intro e σ d h Q Q' hQ H; exact hQ _ _ _ _ H
 | ops l => intro e σ d h Q Q' hQ H; exact acT hQ H
 | draw l => intro e σ d h Q Q' hQ H; exact acU hQ H
 | seq a b jc iH =>
  intro e σ d h Q Q' hQ H
  refine jc (fun x σ d h hx => ?_) H
  cases x with
  | normal => exact iH hQ hx
  | _ => exact hQ _ _ _ _ hx
 | cond c a b jc iH =>
  intro e σ d h Q Q' hQ H
  simp only [dw] at H ⊢
  revert H
  cases dX σ c <;> intro H <;> first | exact H.elim | skip
  rename_i t
  revert H
  cases t with
  | true => exact fun H => jc hQ H
  | false => exact fun H => iH hQ H
 | block id c ih =>
  intro e σ d h Q Q' hQ H
  refine ih (fun x σ d h hx => ?_) H
  cases x with
  | exit j =>
   have eH : bif Nat.beq j id then Q .normal σ d h else Q (.exit j) σ d h := hx
   show bif Nat.beq j id then Q' .normal σ d h else Q' (.exit j) σ d h
   cases hj : Nat.beq j id with
   | true => rw [hj] at eH; exact hQ _ _ _ _ eH
   | false => rw [hj] at eH; exact hQ _ _ _ _ eH
  | _ => exact hQ _ _ _ _ hx
 | loop c ih => intro e σ d h Q Q' hQ H; exact WC.mono hQ H
 | lY f ps a b jc iH => intro e σ d h Q Q' hQ H; exact WC.mono hQ H
 | exit id => intro e σ d h Q Q' hQ H; exact hQ _ _ _ _ H
 | ret => intro e σ d h Q Q' hQ H; exact hQ _ _ _ _ H
def Ed (vs : List Value) : Sl := fun p => vs.getD p.un undef
def kV : List j4 → Sl → AH → (List Value → Prop) → Prop
 | [], _, _, K => K []
 | .tmp p :: rs, σ, h, K => kV rs σ h fun vs => K (σ p :: vs)
 | .cell p none :: rs, σ, h, K => WP .aB [σ p] h fun v _ => kV rs σ h fun vs => K (v :: vs)
 | .cell p (some n) :: rs, σ, h, K => WP (.bB n) [σ p] h fun v _ => kV rs σ h fun vs => K (v :: vs)
def uE : List Value → Value
 | [v] => v
 | vs => .tuple ⟨vs⟩
def zP (P : Program) (w0 : World) (rs : List j4) (R : CR → AH → Prop) : PQ := fun x σ d h => match x with
 | .az v => WL P w0 d.df (some v) h fun m h => match m with
  | none => rs = [] ∧ R (.ret (.tuple ⟨[]⟩)) h
  | some v => R (.az v) h
 | .exit _ => False
 | _ => WL P w0 d.df none h fun m h => match m with
  | none => kV rs σ h fun vs => R (.ret (uE vs)) h
  | some v => R (.az v) h
theorem acV {tm : PT} {h : AH} : ∀ {rs : List j4} {K : List Value → Prop} {k : List Value → Bool}, (∀ vs, K vs → k vs = true) → kV rs tm.get h K → jM rs tm h k = true := by
 intro rs
 induction rs with
 | nil => intro K k hk H; exact hk _ H
 | cons r rs ih =>
  intro K k hk H
  cases r with
  | tmp p =>
   show PT.cY p tm (fun v => jM rs tm h fun vs => k (v :: vs)) = true
   rw [PT.iY]
   exact ih (fun vs hv => hk _ hv) H
  | cell p n =>
   cases n with
   | none =>
    show PT.cY p tm (fun v => gG v fun b o => oV h b o fun x => jM rs tm h fun vs => k (x :: vs)) = true
    rw [PT.iY]
    exact H (fun v _ => jM rs tm h fun vs => k (v :: vs)) fun v h' hv => ih (fun vs hv => hk _ hv) hv
   | some n =>
    show PT.cY p tm (fun v => gG v fun b o => j9 h b o n fun l => jM rs tm h fun vs => k (.agg ⟨l⟩ :: vs)) = true
    rw [PT.iY]
    exact H (fun v _ => jM rs tm h fun vs => k (v :: vs)) fun v h' hv => ih (fun vs hv => hk _ hv) hv
theorem acW (vs : List Value) (k : Value → Bool) : za vs k = k (uE vs) := by
 cases vs with
 | nil => rfl
 | cons a l => cases l <;> rfl
theorem KF {ds : List eg} {m : Option Value} {h : AH} {K : Option Value → AH → Prop} {k : Option Value → AH → Bool} (hk : ∀ m h, K m h → k m h = true) (H : WL P w0 ds m h K) : ez P w0 (.leave ds m h k) = true := by
 cases ds with
 | nil => exact ku P w0 (Jb (rec := ez P w0) (zO P w0) (show Jc (ez P w0) [] m h k = true from hk _ _ H))
 | cons a l => exact ku P w0 (lr.mono (fun r h hr => hk _ _ (of_decide_eq_true hr)) H)
theorem acX {rs : List j4} {R : CR → AH → Prop} {x : AX} {s : St} (H : zP P w0 rs R x s.tm.get ⟨s.df, s.rc⟩ s.h) : zc (ez P w0) rs (fun r h => decide (R r h)) x s = true := by
 have hn : WL P w0 s.df none s.h (fun m h => match m with | none => kV rs s.tm.get h fun vs => R (.ret (uE vs)) h | some v => R (.az v) h) → ez P w0 (.leave s.df none s.h (zd rs s.tm fun r h => decide (R r h))) = true := fun H =>
  KF (fun m h hm => by
   cases m with
   | none =>
    show jM rs s.tm h (fun vs => za vs fun v => decide (R (.ret v) h)) = true
    exact acV (fun vs hv => by rw [acW]; exact decide_eq_true hv) hm
   | some v => exact decide_eq_true hm) H
 cases x with
 | normal => exact hn H
 | ret => exact hn H
 | exit id => exact H.elim
 | az v =>
  have H' : WL P w0 s.df (some v) s.h (fun m h => match m with | none => rs = [] ∧ R (.ret (.tuple ⟨[]⟩)) h | some v => R (.az v) h) := H
  refine KF (fun m h hm => ?_) H'
  cases m with
  | none =>
   obtain ⟨h1, h2⟩ := hm
   subst h1
   exact decide_eq_true h2
  | some v => exact decide_eq_true hm
theorem acY {args : List Value} {tm : PT} (dD : ∀ p : Pos, tm.get p = if 0 ≤ p.un ∧ p.un < 0 + args.length then args.getD (p.un - 0) undef else PT.e.get p) : tm.get = Ed args := by
 funext p
 rw [dD p]
 unfold Ed
 split
 · rfl
 · rw [PT.P2]
   have : ¬ p.un < args.length := by omega
   simp [List.getD, this]
theorem Cr (bt : P.follows .mixedOrders = true) {f : FuncId} {af : fU} (hf : bN P f = some af) {args : List Value} {h : AH} {R : CR → AH → Prop}
 (H : dw P w0 af.code ⟨f, af.ntmps, none⟩ (Ed args) ⟨[], .off⟩ h (zP P w0 af.results R)) : WF P w0 f args h R := by
 refine Rh (zO P w0) hf ?_
 obtain ⟨nt, rs, code, dt⟩ := af
 show qi 0 args .e (fun tm => ez P w0 (.code code ⟨f, nt, none⟩ ⟨tm, [], .off, h⟩ (zc (ez P w0) rs _))) = true
 have lay : ∀ (vs : List Value) (i : Nat) (t : PT) (k : PT → Bool), (∀ t' : PT, (∀ p : Pos, t'.get p = if i ≤ p.un ∧ p.un < i + vs.length then vs.getD (p.un - i) undef else t.get p) → k t' = true) → qi i vs t k = true := by
  intro vs
  induction vs with
  | nil => intro i t k hk; exact hk t fun p => by rw [if_neg (by simp)]
  | cons v vs ih =>
   intro i t k hk
   show PT.fm (Pos.of i) t v (fun t => qi (i + 1) vs t k) = true
   rw [PT.kK]
   refine ih _ _ _ fun t' rP => hk t' fun p => ?_
   rw [rP, PT.cQ]
   by_cases h3 : p.un = i
   · have hp : p = Pos.of i := Pos.rm (by rw [Pos.j3]; exact h3)
     rw [if_neg (by omega), if_pos hp, if_pos (by simp; omega)]
     simp [h3]
   · have hp : ¬ p = Pos.of i := fun e => h3 (by rw [e, Pos.j3])
     by_cases h4 : i + 1 ≤ p.un ∧ p.un < i + 1 + vs.length
     · rw [if_pos h4, if_pos (by simp; omega)]
       have : p.un - i = (p.un - (i + 1)) + 1 := by omega
       rw [this]; simp
     · rw [if_neg h4, if_neg hp, if_neg (by simp; omega)]
 refine lay args 0 .e _ fun tm dD => ?_
 exact ku P w0 (cR.uD (fun x s hx => acX (of_decide_eq_true hx)) (Ea bt code H tm (acY dD)))
def AH.Ok (h : AH) : Prop := ∀ f, h.nx ≤ f → h.ob.get f = none
end
end
end Go.Ve
namespace Go.Ve
open Go.RowKit
noncomputable section
theorem eA (k : Bool) : iff true k = k := rfl
theorem pc (k : IntKind) : eP k k = true := by cases k <;> rfl
theorem acZ (a b : Nat) : Nat.beq a b = decide (a = b) := by
 by_cases h : a = b
 · subst h; simp
 · rw [ep h]; simp [h]
theorem zQ (a b : Int) : ke a b = decide (a = b) := by
 rw [Bool.eq_iff_iff, decide_eq_true_iff]
 cases a <;> cases b <;> simp only [ke, acZ, decide_eq_true_iff]
 · exact Int.ofNat_inj.symm
 · constructor
   · intro h; cases h
   · intro h; cases h
 · constructor
   · intro h; cases h
   · intro h; cases h
 · constructor
   · intro h; rw [h]
   · intro h; cases h; rfl
theorem Ee (a b : Int) : lx a b = decide (a < b) := by
 rw [Bool.eq_iff_iff, decide_eq_true_iff]
 cases a <;> cases b <;> simp only [lx]
 · rename_i a b
   show Nat.ble (a + 1) b = true ↔ _
   rw [Nat.ble_eq]
   show a + 1 ≤ b ↔ (a : Int) < (b : Int)
   omega
 · rename_i a b
   constructor
   · intro h; cases h
   · intro h; have h' : (a : Int) < Int.negSucc b := h; omega
 · rename_i a b
   constructor
   · intro _; show Int.negSucc a < (b : Int); omega
   · intro _; first | trivial | rfl
 · rename_i a b
   show Nat.ble (b + 1) a = true ↔ Int.negSucc a < Int.negSucc b
   rw [Nat.ble_eq]
   omega
theorem lC {n : Int} (h1 : -9223372036854775808 ≤ n) (h2 : n ≤ 9223372036854775807) : bD .i64 n = n := by
 cases n with
 | ofNat a =>
  show (bif Nat.ble a ql then (Int.ofNat a) else _) = _
  have : Nat.ble a ql = true := by rw [Nat.ble_eq]; have : ((a : Nat) : Int) ≤ 9223372036854775807 := h2; show a ≤ 9223372036854775807; omega
  rw [this]; rfl
 | negSucc a =>
  show (bif Nat.ble a ql then (Int.negSucc a) else _) = _
  have : Nat.ble a ql = true := by rw [Nat.ble_eq]; show a ≤ 9223372036854775807; omega
  rw [this]; rfl
def AH.rd (h : AH) (b o : Nat) : Option Value := match h.ob.get b with
 | some (.cells lo hi _ _ c) => if lo ≤ o ∧ o + 1 ≤ hi then c.get o else none
 | _ => none
def AH.can (h : AH) (b o n : Nat) : Prop := ∃ lo hi ty c, h.ob.get b = some (.cells lo hi ty true c) ∧ lo ≤ o ∧ o + n ≤ hi
def ik : NT Value → Nat → List Value → NT Value
 | c, _, [] => c
 | c, i, v :: l => ik (c.set i (some v)) (i + 1) l
def AH.wr (h : AH) (b o : Nat) (l : List Value) : AH := match h.ob.get b with
 | some (.cells lo hi ty rw c) => ⟨h.nx, h.ob.set b (some (.cells lo hi ty rw (ik c o l)))⟩
 | _ => h
def AH.new (h : AH) (ty : TypeId) (l : List Value) : AH := ⟨h.nx + 1, h.ob.set h.nx (some (.cells 0 l.length ty true (ik .e 0 l)))⟩
theorem Ef : ∀ (l : List Value) (c : NT Value) (i : Nat) (k : NT Value → Bool), ua c i l k = k (ik c i l)
 | [], c, i, k => rfl
 | v :: l, c, i, k => by
  show NT.fm (nG i) c i (some v) (fun c' => fN (Nat.succ i) fun i' => ua c' i' l k) = _
  rw [NT.kK, bH, Ef l]
  rfl
theorem uF : ∀ (l : List Value) (c : NT Value) (i j : Nat), (ik c i l).get j = if i ≤ j ∧ j < i + l.length then l[j - i]? else c.get j
 | [], c, i, j => by
  rw [if_neg (fun h => by have := h.2; simp at this; omega)]; rfl
 | v :: l, c, i, j => by
  show (ik (c.set i (some v)) (i + 1) l).get j = _
  rw [uF l, NT.cQ]
  by_cases h : j = i
  · subst h
    rw [if_neg (by omega), if_pos rfl, if_pos (by simp)]
    simp
  · rw [if_neg h]
    by_cases h2 : i + 1 ≤ j ∧ j < i + 1 + l.length
    · rw [if_pos h2, if_pos (by simp; omega)]
      have : j - i = (j - (i + 1)) + 1 := by omega
      rw [this]; simp
    · rw [if_neg h2, if_neg (by simp; omega)]
theorem AH.Eg (h : AH) (ty : TypeId) (l : List Value) (b o : Nat) : (h.new ty l).rd b o = if b = h.nx then l[o]? else h.rd b o := by
 unfold AH.rd AH.new
 simp only [NT.cQ]
 by_cases e : b = h.nx
 · subst e
   simp only [if_true]
   rw [uF]
   by_cases ho : o < l.length
   · rw [if_pos (by omega), if_pos (by omega)]; rfl
   · rw [if_neg (by omega)]; simp [Nat.le_of_not_lt ho]
 · simp only [if_neg e]
theorem AH.KG (h : AH) (ty : TypeId) (l : List Value) : (h.new ty l).nx = h.nx + 1 := rfl
theorem AH.se {h : AH} (H : h.Ok) (ty : TypeId) (l : List Value) : (h.new ty l).Ok := fun f hf => by
 have : h.nx + 1 ≤ f := hf
 show (h.ob.set h.nx _).get f = none
 rw [NT.cQ, if_neg (by omega)]
 exact H f (by omega)
theorem AH.TH (h : AH) (ty : TypeId) (l : List Value) {o n : Nat} (hn : o + n ≤ l.length) : (h.new ty l).can h.nx o n :=
 ⟨0, l.length, ty, _, by show (h.ob.set h.nx _).get h.nx = _; rw [NT.cQ, if_pos rfl], Nat.zero_le _, hn⟩
theorem AH.ac0 {h : AH} (ty : TypeId) (l : List Value) {b o n : Nat} (H : h.can b o n) (hb : b ≠ h.nx) : (h.new ty l).can b o n := by
 obtain ⟨lo, hi, bI, c, h1, h2, h3⟩ := H
 exact ⟨lo, hi, bI, c, by show (h.ob.set h.nx _).get b = _; rw [NT.cQ, if_neg hb]; exact h1, h2, h3⟩
theorem AH.lD (h : AH) (b o : Nat) (l : List Value) : (h.wr b o l).nx = h.nx := by unfold AH.wr; split <;> rfl
theorem AH.sf (h : AH) {b o : Nat} {l : List Value} {b' : Nat} (hb : b' ≠ b) : (h.wr b o l).ob.get b' = h.ob.get b' := by
 unfold AH.wr; split
 · simp only [NT.cQ, if_neg hb]
 · rfl
theorem AH.wM {h : AH} {b o n : Nat} {l : List Value} (H : h.can b o n) (hl : l.length ≤ n) (b' o' : Nat) : (h.wr b o l).rd b' o' = if b' = b ∧ o ≤ o' ∧ o' < o + l.length then l[o' - o]? else h.rd b' o' := by
 obtain ⟨lo, hi, ty, c, h1, h2, h3⟩ := H
 by_cases e : b' = b
 · subst e
   unfold AH.rd AH.wr
   simp only [h1, NT.cQ, if_true]
   rw [uF]
   by_cases ho : o ≤ o' ∧ o' < o + l.length
   · simp only [ho, and_self, if_true]
     rw [if_pos (by omega)]
   · simp only [true_and, if_neg ho]
 · rw [if_neg (fun h => e h.1)]
   unfold AH.rd
   rw [AH.sf h e]
theorem AH.TI {h : AH} {b o : Nat} {l : List Value} {b' o' n' : Nat} (H : h.can b' o' n') : (h.wr b o l).can b' o' n' := by
 by_cases e : b' = b
 · subst e
   obtain ⟨lo, hi, ty, c, h1, h2, h3⟩ := H
   unfold AH.can AH.wr
   simp only [h1, NT.cQ, if_true]
   exact ⟨lo, hi, ty, _, rfl, h2, h3⟩
 · obtain ⟨lo, hi, ty, c, h1, h2, h3⟩ := H
   exact ⟨lo, hi, ty, c, by rw [AH.sf h e]; exact h1, h2, h3⟩
theorem AH.uG {h : AH} (H : h.Ok) (b o : Nat) (l : List Value) : (h.wr b o l).Ok := fun f hf => by
 rw [AH.lD] at hf
 unfold AH.wr
 split
 · rename_i lo hi ty rw c heq
   show (h.ob.set b _).get f = none
   rw [NT.cQ]
   by_cases e : f = b
   · subst e; rw [H f hf] at heq; cases heq
   · rw [if_neg e]; exact H f hf
 · exact H f hf
theorem AH.lt_of_get {h : AH} (H : h.Ok) {b : Nat} {o : AO} (hr : h.ob.get b = some o) : b < h.nx := by
 rcases Nat.lt_or_ge b h.nx with h1 | h1
 · exact h1
 · rw [H b h1] at hr; cases hr
theorem AH.ac1 {h : AH} {b o : Nat} {v : Value} (hr : h.rd b o = some v) : ∃ a, h.ob.get b = some a := by
 unfold AH.rd at hr
 split at hr
 · rename_i heq; exact ⟨_, heq⟩
 · cases hr
theorem AH.ac2 {h : AH} (H : h.Ok) {b o : Nat} {v : Value} (hr : h.rd b o = some v) : b < h.nx := by
 obtain ⟨a, ha⟩ := AH.ac1 hr; exact AH.lt_of_get H ha
structure cJ (h h' : AH) : Prop where
 nx : h.nx ≤ h'.nx
 get : ∀ b, b < h.nx → h'.ob.get b = h.ob.get b
theorem cJ.refl (h : AH) : cJ h h := ⟨Nat.le_refl _, fun _ _ => rfl⟩
theorem cJ.trans {a b c : AH} (h1 : cJ a b) (h2 : cJ b c) : cJ a c := ⟨Nat.le_trans h1.nx h2.nx, fun f hf => (h2.get f (Nat.lt_of_lt_of_le hf h1.nx)).trans (h1.get f hf)⟩
theorem cJ.new (h : AH) (ty : TypeId) (l : List Value) : cJ h (h.new ty l) := ⟨Nat.le_succ _, fun f hf => by show (h.ob.set h.nx _).get f = _; rw [NT.cQ, if_neg (by omega)]⟩
theorem cJ.wr {a h : AH} (H : cJ a h) {b : Nat} (hb : a.nx ≤ b) (o : Nat) (l : List Value) : cJ a (h.wr b o l) :=
 ⟨by rw [AH.lD]; exact H.nx, fun f hf => by rw [AH.sf h (by omega)]; exact H.get f hf⟩
theorem cJ.rd {h h' : AH} (H : cJ h h') (ej : h.Ok) {b o : Nat} {v : Value} (hr : h.rd b o = some v) : h'.rd b o = some v := by
 have := AH.ac2 ej hr
 unfold AH.rd at hr ⊢
 rw [H.get b this]; exact hr
def AH.aW (h : AH) (b o : Nat) (l : List Value) : Prop := ∀ i v, l[i]? = some v → h.rd b (o + i) = some v
theorem AH.KH (h : AH) (b o : Nat) : h.aW b o [] := fun i v hv => by simp at hv
theorem AH.TJ {h : AH} {b o : Nat} {v : Value} {l : List Value} : h.aW b o (v :: l) ↔ h.rd b o = some v ∧ h.aW b (o + 1) l := by
 constructor
 · intro H
   exact ⟨H 0 v rfl, fun i u hu => by have := H (i + 1) u (by simpa using hu); rwa [show o + (i + 1) = o + 1 + i by omega] at this⟩
 · rintro ⟨h1, h2⟩ i u hu
   cases i with
   | zero => simp at hu; subst hu; exact h1
   | succ i => have := h2 i u (by simpa using hu); rwa [show o + 1 + i = o + (i + 1) by omega] at this
theorem cJ.aW {h h' : AH} (H : cJ h h') (ej : h.Ok) {b o : Nat} {l : List Value} (hr : h.aW b o l) : h'.aW b o l := fun i v hv => H.rd ej (hr i v hv)
theorem AH.Eh (h : AH) (ty : TypeId) (l : List Value) : (h.new ty l).aW h.nx 0 l := fun i v hv => by rw [AH.Eg, if_pos rfl, Nat.zero_add]; exact hv
theorem KI {α : Type} {t : NT α} : ∀ {i : Nat} {k : α → Bool} {x : α}, t.get i = some x → t.cY i k = k x := by
 induction t with
 | e => intro i k x h; cases h
 | n l v r KJ ihr =>
  intro i k x hx
  rw [NT.Il]
  rw [NT.get] at hx
  cases h0 : Nat.beq i 0 with
  | true => rw [h0] at hx; cases v with
   | none => cases hx
   | some y => cases hx; rfl
  | false =>
   rw [h0] at hx
   cases h1 : Nat.beq (Nat.mod i 2) 1 with
   | true => rw [h1] at hx; exact KJ hx
   | false => rw [h1] at hx; exact ihr hx
theorem sh {h : AH} {b : Nat} {o : AO} (ho : h.ob.get b = some o) (k : AO → Bool) : me h b k = k o := by
 cases h; exact KI ho
theorem KK (h : AH) (b : Nat) (o : Option AO) (k : AH → Bool) : ff h b o k = k ⟨h.nx, h.ob.set b o⟩ := by
 cases h with
 | mk nx ob => exact NT.kK ob b o fun aP => k ⟨nx, aP⟩
theorem KL (h : AH) (o : AO) (k : Nat → AH → Bool) : kj h o k = k h.nx ⟨h.nx + 1, h.ob.set h.nx (some o)⟩ := by
 cases h with
 | mk nx ob =>
  show NT.fm (nG nx) ob nx (some o) (fun aP => fN (Nat.succ nx) fun o3 => k nx ⟨o3, aP⟩) = _
  rw [NT.kK, bH]
theorem uH (h : AH) (ty : TypeId) {l : List Value} (ha : cB l = true) (k : Nat → AH → Bool) : jv h ty l k = k h.nx (h.new ty l) := by
 unfold jv
 rw [ha, eA, Ef, bH, KL]
 rfl
theorem TK (c : NT Value) : ∀ (l : List Value) (i : Nat) (k : List Value → Bool), (∀ j v, l[j]? = some v → c.get (i + j) = some v) → mS c i l.length k = k l
 | [], i, k, _ => rfl
 | v :: l, i, k, H => by
  show NT.cY c i (fun v => fN (Nat.succ i) fun i' => mS c i' l.length fun l => k (v :: l)) = _
  rw [KI (by have := H 0 v rfl; rwa [Nat.add_zero] at this), bH, TK c l (i + 1) _ fun j u hu => by
   have := H (j + 1) u (by simpa using hu); rwa [show i + (j + 1) = i + 1 + j by omega] at this]
theorem Ei {h : AH} {b o : Nat} {v : Value} (hr : h.rd b o = some v) : ∃ lo hi ty rw c, h.ob.get b = some (.cells lo hi ty rw c) ∧ lo ≤ o ∧ o + 1 ≤ hi ∧ c.get o = some v := by
 unfold AH.rd at hr
 split at hr
 · rename_i lo hi ty rw c heq
   split at hr
   · rename_i hb; exact ⟨lo, hi, ty, rw, c, heq, hb.1, hb.2, hr⟩
   · cases hr
 · cases hr
theorem ac3 {h : AH} {b o : Nat} {v : Value} (hr : h.rd b o = some v) (k : Value → Bool) : oV h b o k = k v := by
 obtain ⟨lo, hi, ty, rw, c, h1, h2, h3, h4⟩ := Ei hr
 unfold oV ko
 rw [sh h1]
 show iff (Nat.ble lo o && Nat.ble (Nat.succ o) hi) (NT.cY c o k) = _
 have e : (Nat.ble lo o && Nat.ble (Nat.succ o) hi) = true := by simp only [Bool.and_eq_true, Nat.ble_eq]; exact ⟨h2, h3⟩
 rw [e, eA, KI h4]
theorem ac4 {h : AH} {b o : Nat} {l : List Value} (hr : h.aW b o l) (hl : 0 < l.length) : ∃ lo hi ty rw c, h.ob.get b = some (.cells lo hi ty rw c) ∧ lo ≤ o ∧ o + l.length ≤ hi ∧ ∀ j v, l[j]? = some v → c.get (o + j) = some v := by
 obtain ⟨lo, hi, ty, rw, c, h1, h2, h3, h4⟩ := Ei (hr 0 l[0] (by simp [hl]))
 have key : ∀ j v, l[j]? = some v → lo ≤ o + j ∧ o + j + 1 ≤ hi ∧ c.get (o + j) = some v := by
  intro j v hv
  obtain ⟨si, cI, bI, ll, c', g1, g2, g3, g4⟩ := Ei (hr j v hv)
  rw [h1] at g1; cases g1
  exact ⟨g2, g3, g4⟩
 refine ⟨lo, hi, ty, rw, c, h1, h2, ?_, fun j v hv => (key j v hv).2.2⟩
 have := (key (l.length - 1) l[l.length - 1] (by simp [hl])).2.1
 omega
theorem KM {h : AH} {b o n : Nat} {l : List Value} (hr : h.aW b o l) (hn : l.length = n) (hl : 0 < n) (k : List Value → Bool) : j9 h b o n k = k l := by
 subst hn
 obtain ⟨lo, hi, ty, rw, c, h1, h2, h3, h4⟩ := ac4 hr hl
 unfold j9 ko
 rw [sh h1]
 show iff (Nat.ble lo o && Nat.ble (Nat.add o l.length) hi) (mS c o l.length k) = _
 have e : (Nat.ble lo o && Nat.ble (Nat.add o l.length) hi) = true := by simp only [Bool.and_eq_true, Nat.ble_eq]; exact ⟨h2, h3⟩
 rw [e, eA, TK c l o k h4]
theorem KN {h : AH} {b o : Nat} {l : List Value} (hc : h.can b o l.length) (ha : cB l = true) (k : AH → Bool) : o4 h b o l k = k (h.wr b o l) := by
 obtain ⟨lo, hi, ty, c, h1, h2, h3⟩ := hc
 unfold o4 ko
 rw [sh h1]
 show iff (true && Nat.ble lo o && Nat.ble (Nat.add o l.length) hi && cB l) _ = _
 have e : (true && Nat.ble lo o && Nat.ble (Nat.add o l.length) hi && cB l) = true := by simp only [Bool.and_eq_true, Nat.ble_eq]; exact ⟨⟨⟨trivial, h2⟩, h3⟩, ha⟩
 rw [e, eA, Ef, KK]
 unfold AH.wr
 rw [h1]
theorem sj : ∀ (l : List Value) (n : Nat), gE l n = decide (l.length = n)
 | [], 0 => rfl
 | [], n + 1 => by show false = _; simp
 | v :: l, 0 => by show false = _; simp
 | v :: l, n + 1 => by show gE l n = _; rw [sj l n]; simp
section
variable {h : AH} {R : Value → AH → Prop}
theorem KO {x : Value} : WP .move [x] h R ↔ R x h := cm fun _ => rfl
theorem bW {c : Bool} {a b : Value} : WP .pick [.bool c, a, b] h R ↔ R (bif c then a else b) h := cm fun k => by cases c <;> rfl
theorem zR {ty : TypeId} {zero : List Value} (ha : cB zero = true) : WP (.alloc ty zero) [] h R ↔ R (av h.nx 0) (h.new ty zero) := cm fun k => uH h ty ha _
theorem Ej {ty : TypeId} {v : Value} (ha : cB (cellsOf v) = true) : WP (.box ty) [v] h R ↔ R (av h.nx 0) (h.new ty (cellsOf v)) := cm fun k => uH h ty ha _
abbrev eB (b o n c : Nat) : Value := .slice (some ⟨b, o, none⟩) n c
abbrev vi (n : Int) : Value := .int .i64 n
abbrev cP : Value := .slice none 0 0
theorem Ek {b o : Nat} {s : Option Nat} {v : Value} (hr : h.rd b o = some v) : WP .aB [.pointer (some ⟨b, o, s⟩)] h R ↔ R v h := cm fun _ => ac3 hr _
theorem El {b o n : Nat} {s : Option Nat} {l : List Value} (hr : h.aW b o l) (hn : l.length = n) (h0 : 0 < n) : WP (.bB n) [.pointer (some ⟨b, o, s⟩)] h R ↔ R (.agg ⟨l⟩) h := cm fun _ => KM hr hn h0 _
theorem Em {b o n : Nat} {s : Option Nat} {v : Value} (hc : h.can b o n) (hn : (cellsOf v).length = n) (ha : cB (cellsOf v) = true) : WP (.store n) [.pointer (some ⟨b, o, s⟩), v] h R ↔ R undef (h.wr b o (cellsOf v)) :=
 cm fun k => by
  show iff (gE (cellsOf v) n) (o4 h b o (cellsOf v) fun h => k undef h) = _
  rw [sj, decide_eq_true hn, eA, KN (by rw [hn]; exact hc) ha]
theorem bY {b o off : Nat} {s : Option Nat} : WP (.fieldAddr off) [.pointer (some ⟨b, o, s⟩)] h R ↔ R (av b (o + off)) h := cm fun k => by
 show fN (Nat.add o off) (fun o' => k (av b o') h) = _
 rw [bH]; rfl
theorem En : ∀ {l : List Value} {i : Nat} {v : Value} (_ : l[i]? = some v) (k : Value → Bool), mR l i k = k v
 | [], i, v, h, k => by simp at h
 | x :: l, 0, v, h, k => by simp at h; subst h; rfl
 | x :: l, i + 1, v, h, k => by show mR l i k = _; exact En (by simpa using h) k
theorem KP : ∀ {l : List Value} {i : Nat} (_ : i ≤ l.length) (k : List Value → Bool), oZ l i k = k (l.drop i)
 | [], 0, h, k => rfl
 | [], i + 1, h, k => by simp at h
 | x :: l, 0, h, k => rfl
 | x :: l, i + 1, h, k => by show oZ l i k = _; rw [KP (by simpa using h)]; rfl
theorem KQ : ∀ {l : List Value} {i : Nat} (_ : i ≤ l.length) (k : List Value → Bool), oY l i k = k (l.take i)
 | [], 0, h, k => rfl
 | [], i + 1, h, k => by simp at h
 | x :: l, 0, h, k => rfl
 | x :: l, i + 1, h, k => by show oY l i (fun l' => k (x :: l')) = _; rw [KQ (by simpa using h)]; rfl
theorem ac5 {sz b o n c i : Nat} {kd : IntKind} {s : Option Nat} (hi : i < n) : WP (.di sz) [.slice (some ⟨b, o, s⟩) n c, .int kd (i : Int)] h R ↔ R (av b (o + i * sz)) h := cm fun k => by
 show iff (Nat.ble (Nat.succ i) n) (fN (Nat.add o (Nat.mul i sz)) fun o' => k (av b o') h) = _
 have : Nat.ble (Nat.succ i) n = true := by rw [Nat.ble_eq]; exact hi
 rw [this, eA, bH]; rfl
theorem ac6 {len i : Nat} {kd : IntKind} {l : List Value} {v : Value} (hi : i < len) (hv : l[i]? = some v) : WP (.pL len) [.agg ⟨l⟩, .int kd (i : Int)] h R ↔ R v h := cm fun k => by
 show iff (Nat.ble (Nat.succ i) len) (mR l i fun v => k v h) = _
 have : Nat.ble (Nat.succ i) len = true := by rw [Nat.ble_eq]; exact hi
 rw [this, eA, En hv]
theorem ac7 {len sz i : Nat} {kd : IntKind} {l : List Value} (hi : i < len) (hl : len * sz ≤ l.length) : WP (.GG len sz) [.agg ⟨l⟩, .int kd (i : Int)] h R ↔ R (.agg ⟨(l.drop (i * sz)).take sz⟩) h := cm fun k => by
 show iff (Nat.ble (Nat.succ i) len) (oZ l (Nat.mul i sz) fun l => oY l sz fun l => k (.agg ⟨l⟩) h) = _
 have : Nat.ble (Nat.succ i) len = true := by rw [Nat.ble_eq]; exact hi
 have h1 : i * sz + sz ≤ l.length := by
  have : (i + 1) * sz ≤ len * sz := Nat.mul_le_mul_right _ hi
  rw [Nat.add_mul] at this; omega
 rw [this, eA, show Nat.mul i sz = i * sz from rfl, KP (by omega), KQ (by simp only [List.length_drop]; omega)]
theorem lE {k : IntKind} {x y : Int} : WP (.aH .add) [.int k x, .int k y] h R ↔ R (.int k (bD k (x + y))) h := cm fun kk => by
 show iff (eP k k) (fI (bD k (Int.add x y)) fun n => kk (.int k n) h) = _
 rw [pc, eA, ma]; rfl
theorem mY {k : IntKind} {x y : Int} : WP (.aH .sub) [.int k x, .int k y] h R ↔ R (.int k (bD k (x - y))) h := cm fun kk => by
 show iff (eP k k) (fI (bD k (Int.sub x y)) fun n => kk (.int k n) h) = _
 rw [pc, eA, ma]; rfl
theorem TL {k : IntKind} {x y : Int} (hy : y ≠ 0) : WP (.aH .rem) [.int k x, .int k y] h R ↔ R (.int k (x.tmod y)) h := cm fun kk => by
 show iff (eP k k) (bif ke y (.ofNat 0) then false else fI (Int.tmod x y) fun n => kk (.int k n) h) = _
 rw [pc, eA, zQ, show Int.ofNat 0 = 0 from rfl, decide_eq_false hy, ma]; rfl
theorem c7 {k : IntKind} {x y : Int} : WP (.aH .eql) [.int k x, .int k y] h R ↔ R (.bool (decide (x = y))) h := cm fun kk => by
 show iff (eP k k) (fB (ke x y) fun b => kk (.bool b) h) = _
 rw [pc, eA, gH, zQ]
theorem sk {k : IntKind} {x y : Int} : WP (.aH .neq) [.int k x, .int k y] h R ↔ R (.bool (!decide (x = y))) h := cm fun kk => by
 show iff (eP k k) (fB (!ke x y) fun b => kk (.bool b) h) = _
 rw [pc, eA, gH, zQ]
theorem iI {k : IntKind} {x y : Int} : WP (.aH .lss) [.int k x, .int k y] h R ↔ R (.bool (decide (x < y))) h := cm fun kk => by
 show iff (eP k k) (fB (lx x y) fun b => kk (.bool b) h) = _
 rw [pc, eA, gH, Ee]
theorem sn {k : IntKind} {x y : Int} : WP (.aH .leq) [.int k x, .int k y] h R ↔ R (.bool (decide (x ≤ y))) h := cm fun kk => by
 show iff (eP k k) (fB (!lx y x) fun b => kk (.bool b) h) = _
 rw [pc, eA, gH, Ee]
 congr 2
 rw [← decide_not]
 congr 1
 exact propext Int.not_lt
theorem qC {k : IntKind} {x y : Int} : WP (.aH .gtr) [.int k x, .int k y] h R ↔ R (.bool (decide (y < x))) h := cm fun kk => by
 show iff (eP k k) (fB (lx y x) fun b => kk (.bool b) h) = _
 rw [pc, eA, gH, Ee]
theorem pe {k : IntKind} {x y : Int} : WP (.aH .geq) [.int k x, .int k y] h R ↔ R (.bool (decide (y ≤ x))) h := cm fun kk => by
 show iff (eP k k) (fB (!lx x y) fun b => kk (.bool b) h) = _
 rw [pc, eA, gH, Ee]
 congr 2
 rw [← decide_not]
 congr 1
 exact propext Int.not_lt
theorem TM {k k' : IntKind} {x : Int} : WP (.conv k') [.int k x] h R ↔ R (.int k' (bD k' x)) h := cm fun kk => by
 show fI (bD k' x) (fun n => kk (.int k' n) h) = _
 rw [ma]
theorem eQ {b : Bool} : WP .eL [.bool b] h R ↔ R (.bool (!b)) h := cm fun kk => by
 show fB (!b) (fun b => kk (.bool b) h) = _
 rw [gH]
theorem KR {a b : Bool} : WP (.CT false) [.bool a, .bool b] h R ↔ R (.bool (a == b)) h := cm fun kk => by cases a <;> cases b <;> rfl
theorem KT {a b : Bool} : WP (.CT true) [.bool a, .bool b] h R ↔ R (.bool (a != b)) h := cm fun kk => by cases a <;> cases b <;> rfl
theorem jd {l : List Value} {i : Nat} {v : Value} (hv : l[i]? = some v) : WP (.extract i) [.tuple ⟨l⟩] h R ↔ R v h := cm fun _ => En hv _
theorem ac8 {a : Addr} {n c : Nat} : WP .cW [.slice (some a) n c] h R ↔ R (.int .i64 (n : Int)) h := cm fun _ => by cases a; rfl
theorem ac9 {n c : Nat} : WP .cW [.slice none n c] h R ↔ R (.int .i64 0) h := cm fun _ => rfl
theorem Eo {fn : Fn} {nf : Nat} {vs : List Value} (hn : nf ≤ vs.length) : WP (.tx fn nf) vs h R ↔ R (.func fn ⟨vs.take nf⟩ ⟨vs.drop nf⟩) h := cm fun kk => by
 show oY vs nf (fun a => oZ vs nf fun b => kk (.func fn ⟨a⟩ ⟨b⟩) h) = _
 rw [KQ hn, KP hn]
theorem TN : ∀ {ss : List Nat} {vs : List Value} (_ : ss = vs.map fun v => (cellsOf v).length) (k : List Value → Bool), tR ss vs k = k (vs.flatMap cellsOf)
 | [], [], _, k => rfl
 | [], v :: vs, h, k => by simp at h
 | n :: ss, [], h, k => by simp at h
 | n :: ss, v :: vs, h, k => by
  simp only [List.map_cons, List.cons.injEq] at h
  show iff (gE (cellsOf v) n) (tR ss vs fun l => gi (cellsOf v) l k) = _
  rw [sj, decide_eq_true h.1.symm, eA, TN h.2, sd]; rfl
theorem ada {ss : List Nat} {vs : List Value} (hs : ss = vs.map fun v => (cellsOf v).length) : WP (.cX ss) vs h R ↔ R (.agg ⟨vs.flatMap cellsOf⟩) h := cm fun _ => TN hs _
end
end
end Go.Ve
namespace Go.Ve
open Go.RowKit
noncomputable section
abbrev W := AH → Prop
def pr (p : Prim) (vs : List Value) (K : Value → W) : W := fun h => WP p vs h K
def ld (p : Prim) (vs : List Value) (K : Value → W) : W := fun h => WP p vs h fun v _ => K v h
def cl (P : Program) (w0 : World) (f : FuncId) (vs : List Value) (E K : Value → W) : W := fun h => WF P w0 f vs h fun r h => match r with
 | .ret v => K v h
 | .az v => E v h
def dy (P : Program) (w0 : World) (vs : List Value) (E K : Value → W) : W := match vs with
 | .func (.func g) ⟨first⟩ ⟨bw⟩ :: as => cl P w0 g (first ++ (as ++ bw)) E K
 | .func (.yield l) ⟨[]⟩ ⟨[]⟩ :: as => fun h => WR P w0 l as h fun r h => match r with
  | .ret v => K v h
  | .az v => E v h
 | _ => fun _ => False
def pn (vs : List Value) (E : Value → W) : W := match vs with
 | [.iface t x] => E (.iface t x)
 | _ => fun _ => False
def gd (g : Value) (want : Bool) (A : (Value → W) → W) (K : Value → W) : W := match g with
 | .bool b => bif lu b want then A K else K undef
 | _ => K undef
def br (c : Value) (A B : W) : W := match c with
 | .bool true => A
 | .bool false => B
 | _ => fun _ => False
def ck (p : Prim) (vs : List Value) (v : Value) (K : W) : W := fun h => WP p vs h (fun v' _ => qu v' v = true) ∧ K h
def ckm (p : Prim) (vs : List Value) (v : Value) (K : W) : W := fun h => p.fresh vs (ug ⟨.e, [], .off, h⟩ v) = true ∧ K h
def gk (g : Value) (want : Bool) (A : W → W) (K : W) : W := match g with
 | .bool b => bif lu b want then A K else K
 | _ => K
def gr {α : Type} (F : (α → W) → α → W) : Nat → α → W
 | 0, _ => fun _ => False
 | n + 1, a => F (gr F n) a
def LP {α : Type} (F : (α → W) → α → W) (a : α) : W := fun h => ∃ n, gr F n a h
theorem adb {α : Type} {F : (α → W) → α → W} (Inv : α → AH → Prop) (μ : α → AH → Nat)
 (step : ∀ a h (k : α → W), Inv a h → (∀ a' h', Inv a' h' → μ a' h' < μ a h → k a' h') → F k a h) {a : α} {h : AH} (H : Inv a h) : LP F a h := by
 have key : ∀ n a h, Inv a h → μ a h < n → gr F n a h := by
  intro n
  induction n with
  | zero => intro a h _ hn; exact absurd hn (Nat.not_lt_zero _)
  | succ n ih => intro a h hi hn; exact step a h _ hi fun a' h' cI hm => ih a' h' cI (by omega)
 exact ⟨_, key (μ a h + 1) a h H (Nat.lt_succ_self _)⟩
theorem KU (A : (Value → W) → W) (K : Value → W) : gd (.bool true) true A K = A K := rfl
theorem KW (A : (Value → W) → W) (K : Value → W) : gd (.bool false) false A K = A K := rfl
theorem KX (A : (Value → W) → W) (K : Value → W) : gd (.bool true) false A K = K undef := rfl
theorem KY (A : (Value → W) → W) (K : Value → W) : gd (.bool false) true A K = K undef := rfl
theorem KZ (w : Bool) (A : (Value → W) → W) (K : Value → W) : gd undef w A K = K undef := rfl
theorem K3 (A : W → W) (K : W) : gk (.bool true) true A K = A K := rfl
theorem K4 (A : W → W) (K : W) : gk (.bool false) false A K = A K := rfl
theorem K5 (A : W → W) (K : W) : gk (.bool true) false A K = K := rfl
theorem K6 (A : W → W) (K : W) : gk (.bool false) true A K = K := rfl
theorem K7 (w : Bool) (A : W → W) (K : W) : gk undef w A K = K := rfl
theorem K8 (A B : W) : br (.bool true) A B = A := rfl
theorem K9 (A B : W) : br (.bool false) A B = B := rfl
def lF (σ : Sl) : List (Pos × Value) → Prop
 | [] => True
 | (p, v) :: U => σ p = v ∧ lF σ U
def Sl.nU (σ : Sl) : List (Pos × Value) → Sl
 | [] => σ
 | (p, v) :: U => Sl.up (Sl.nU σ U) p v
theorem qD {σ : Sl} : ∀ {U : List (Pos × Value)}, lF σ U → σ.nU U = σ
 | [], _ => rfl
 | (p, v) :: U, ⟨h1, h2⟩ => by
  show Sl.up (σ.nU U) p v = σ
  rw [qD h2]
  funext q
  unfold Sl.up
  cases h : p.beq q with
  | true => rw [← Pos.beq_iff.1 h]; exact h1.symm
  | false => rfl
section
variable {P : Program} {w0 : World} {e : Env} {σ : Sl} {d : DS} {h : AH} {Q : PQ} {l : List aX} {dl : List hO} {a b c : cA}
theorem rj (H : Q .normal σ d h) : dw P w0 .skip e σ d h Q := H
theorem dm (H : wpOps P w0 l e σ d h Q) : dw P w0 (.ops l) e σ d h Q := H
theorem ee (H : dw P w0 a e σ d h (sc (fun σ d h => dw P w0 b e σ d h Q) Q)) : dw P w0 (.seq a b) e σ d h Q := H
theorem dq (H : Q .normal σ d h) : wpOps P w0 [] e σ d h Q := H
theorem ef {K : Sl → DS → AH → Prop} (H : K σ d h) : sc K Q .normal σ d h := H
theorem mw {id : Nat} (H : dw P w0 c e σ d h (KD id Q)) : dw P w0 (.block id c) e σ d h Q := H
theorem nz {id : Nat} (H : Q .normal σ d h) : KD id Q .normal σ d h := H
theorem pO {o : dC} {v : Value} {A B : W} (hv : dX σ o = v) (H : br v A B h) (ha : A h → dw P w0 a e σ d h Q) (hb : B h → dw P w0 b e σ d h Q) : dw P w0 (.cond o a b) e σ d h Q := by
 simp only [dw]
 rw [hv]
 unfold br at H
 revert H
 cases v <;> intro H <;> first | exact H.elim | skip
 rename_i t
 revert H
 cases t with
 | true => exact ha
 | false => exact hb
theorem Ep {dst : Option Pos} {p : Prim} {vs : List Value} {K : Value → W} {K' : Sl → DS → AH → Prop} (H : pr p vs K h) (hK : ∀ v h, K v h → K' (σ.ey dst v) d h) : ij P w0 (.aA p) dst e σ d h vs Q K' := WP.mono hK H
theorem La {dst : Option Pos} {f : FuncId} {vs : List Value} {E K : Value → W} {K' : Sl → DS → AH → Prop} (H : cl P w0 f vs E K h) (hE : ∀ v h, E v h → Q (.az v) σ d h) (hK : ∀ v h, K v h → K' (σ.ey dst v) d h) : ij P w0 (.call f) dst e σ d h vs Q K' :=
 WF.mono (fun r h hr => by cases r with | ret v => exact hK _ _ hr | az v => exact hE _ _ hr) H
theorem TO {dst : Option Pos} {vs : List Value} {E K : Value → W} {K' : Sl → DS → AH → Prop} (H : dy P w0 vs E K h) (hE : ∀ v h, E v h → Q (.az v) σ d h) (hK : ∀ v h, K v h → K' (σ.ey dst v) d h) : ij P w0 .dyn dst e σ d h vs Q K' := by
 unfold dy at H
 simp only [ij]
 split at H
 · exact WF.mono (fun r h hr => by cases r with | ret v => exact hK _ _ hr | az v => exact hE _ _ hr) H
 · exact WR.mono (fun r h hr => by cases r with | ret v => exact hK _ _ hr | az v => exact hE _ _ hr) H
 · exact H.elim
theorem ade {dst : Option Pos} {vs : List Value} {E : Value → W} {K' : Sl → DS → AH → Prop} (H : pn vs E h) (hE : ∀ v h, E v h → Q (.az v) σ d h) : ij P w0 .panic dst e σ d h vs Q K' := by
 unfold pn at H
 simp only [ij]
 split at H
 · exact hE _ _ H
 · exact H.elim
theorem Er {dst : Option Pos} {act : gZ} {args : List dC} {g : Pos} {gv : Value} {want : Bool} {A : (Value → W) → W} {K : Value → W} {K' : Sl → DS → AH → Prop} (hg : σ g = gv) (H : gd gv want A K h) (hA : A K h → ij P w0 act dst e σ d h (args.map (dX σ)) Q K') (hK : ∀ v h, K v h → K' (σ.ey dst v) d h) :
 wpOp P w0 ⟨dst, act, args, some (g, want)⟩ e σ d h Q K' := by
 unfold wpOp
 simp only []
 rw [hg]
 unfold gd at H
 revert H
 cases gv <;> intro H <;> first | exact hK _ _ H | skip
 rename_i b
 simp only at H ⊢
 revert H
 cases lu b want with
 | true => exact hA
 | false => exact hK _ _
theorem adf {p : Prim} {args : List dC} {q g : Pos} {gv : Value} {want : Bool} {A : W → W} {K : W} (hg : σ g = gv) (H : gk gv want A K h) (hA : A K h → uB (.aA p) (some q) (args.map (dX σ)) σ h ∧ K h) : wL ⟨some q, .aA p, args, some (g, want)⟩ σ h ∧ K h := by
 unfold wL
 simp only []
 rw [hg]
 unfold gk at H
 revert H
 cases gv <;> intro H <;> first | exact ⟨trivial, H⟩ | skip
 rename_i b
 simp only at H ⊢
 revert H
 cases lu b want with
 | true => exact hA
 | false => exact fun H => ⟨trivial, H⟩
theorem fe {dst : Option Pos} {x : dC} {v : Value} (hv : dX σ x = v) (H : wpOps P w0 l e (σ.ey dst v) d h Q) : wpOps P w0 (⟨dst, .aA .move, [x], none⟩ :: l) e σ d h Q := by
 subst hv; exact fun k hk => hk _ _ H
theorem aV {dst : Option Pos} {p : Prim} {args : List dC} {vs : List Value} {K : Value → W} (hv : args.map (dX σ) = vs) (H : pr p vs K h) (hK : ∀ v h, K v h → wpOps P w0 l e (σ.ey dst v) d h Q) : wpOps P w0 (⟨dst, .aA p, args, none⟩ :: l) e σ d h Q := by
 subst hv; exact Ep (P := P) (w0 := w0) (e := e) (dst := dst) (Q := Q) (K' := fun σ d h => wpOps P w0 l e σ d h Q) H hK
theorem vF {dst : Option Pos} {f : FuncId} {args : List dC} {vs : List Value} {E K : Value → W} (hv : args.map (dX σ) = vs) (H : cl P w0 f vs E K h) (hE : ∀ v h, E v h → Q (.az v) σ d h) (hK : ∀ v h, K v h → wpOps P w0 l e (σ.ey dst v) d h Q) : wpOps P w0 (⟨dst, .call f, args, none⟩ :: l) e σ d h Q := by
 subst hv; exact La (e := e) (dst := dst) (K' := fun σ d h => wpOps P w0 l e σ d h Q) H hE hK
theorem Y4 {dst : Option Pos} {args : List dC} {vs : List Value} {E K : Value → W} (hv : args.map (dX σ) = vs) (H : dy P w0 vs E K h) (hE : ∀ v h, E v h → Q (.az v) σ d h) (hK : ∀ v h, K v h → wpOps P w0 l e (σ.ey dst v) d h Q) : wpOps P w0 (⟨dst, .dyn, args, none⟩ :: l) e σ d h Q := by
 subst hv; exact TO (e := e) (dst := dst) (K' := fun σ d h => wpOps P w0 l e σ d h Q) H hE hK
theorem Pk {dst : Option Pos} {x : dC} {v : Value} {g : Pos} {gv : Value} {want : Bool} {K : Value → W} (hg : σ g = gv) (hv : dX σ x = v) (H : gd gv want (fun k => k v) K h) (hK : ∀ v h, K v h → wpOps P w0 l e (σ.ey dst v) d h Q) : wpOps P w0 (⟨dst, .aA .move, [x], some (g, want)⟩ :: l) e σ d h Q := by
 subst hv; exact Er (K' := fun σ d h => wpOps P w0 l e σ d h Q) hg H (fun H k hk => hk _ _ (hK _ _ H)) hK
theorem nA {dst : Option Pos} {p : Prim} {args : List dC} {vs : List Value} {g : Pos} {gv : Value} {want : Bool} {K : Value → W} (hg : σ g = gv) (hv : args.map (dX σ) = vs) (H : gd gv want (fun k => pr p vs k) K h) (hK : ∀ v h, K v h → wpOps P w0 l e (σ.ey dst v) d h Q) : wpOps P w0 (⟨dst, .aA p, args, some (g, want)⟩ :: l) e σ d h Q := by
 subst hv; exact Er (K' := fun σ d h => wpOps P w0 l e σ d h Q) hg H (fun H => WP.mono hK H) hK
theorem Pl {dst : Option Pos} {f : FuncId} {args : List dC} {vs : List Value} {g : Pos} {gv : Value} {want : Bool} {E K : Value → W} (hg : σ g = gv) (hv : args.map (dX σ) = vs) (H : gd gv want (fun k => cl P w0 f vs E k) K h) (hE : ∀ v h, E v h → Q (.az v) σ d h) (hK : ∀ v h, K v h → wpOps P w0 l e (σ.ey dst v) d h Q) : wpOps P w0 (⟨dst, .call f, args, some (g, want)⟩ :: l) e σ d h Q := by
 subst hv; exact Er (K' := fun σ d h => wpOps P w0 l e σ d h Q) hg H (fun H => La H hE hK) hK
theorem Pw {α : Type} (U : List (Pos × Value)) (M : α → List (Pos × Value)) (π : Sl → α) (J : α → W) (hM : ∀ σ, lF σ (M (π σ))) (hb : ∀ (x : α) (σ : Sl) (h : AH), J x h → dw P w0 b e ((σ.nU U).nU (M x)) d h Q)
 (ha : dw P w0 a e σ d h (sc (fun σ d' h => d' = d ∧ lF σ U ∧ J (π σ) h) Q)) : dw P w0 (.seq a b) e σ d h Q := by
 refine Ec a (fun x σ d' h hx => ?_) ha
 cases x with
 | normal =>
  obtain ⟨rfl, h2, h3⟩ := hx
  have := hb (π σ) σ h h3
  rwa [qD h2, qD (hM σ)] at this
 | _ => exact hx
theorem Ym (bt : P.follows .mixedOrders = true) {α : Type} (U : List (Pos × Value)) (M : α → List (Pos × Value)) (π : Sl → α) (F : (α → W) → α → W) (hM : ∀ σ, lF σ (M (π σ)))
 (hF : ∀ (k : α → W) (x : α) (σ : Sl) (h : AH), F k x h → dw P w0 c e ((σ.nU U).nU (M x)) d h (sc (fun σ d' h => d' = d ∧ lF σ U ∧ k (π σ) h) Q)) {x : α} (hx : π σ = x) (hU : lF σ U) (H : LP F x h) : dw P w0 (.loop c) e σ d h Q := by
 subst hx
 obtain ⟨n, H⟩ := H
 revert H hU
 have key : ∀ n σ h, lF σ U → gr F n (π σ) h → WC P w0 (.loop c) e σ d h Q := by
  intro n
  induction n with
  | zero => intro σ h _ H; exact H.elim
  | succ n ih =>
   intro σ h hU H
   refine KE bt ?_
   have h1 := hF (gr F n) (π σ) σ h H
   rw [qD hU, qD (hM σ)] at h1
   refine Ec c (fun x σ d' h hx => ?_) h1
   cases x with
   | normal =>
    obtain ⟨rfl, h2, h3⟩ := hx
    exact ih σ h h2 h3
   | _ => exact hx
 exact key n σ h
end
end
end Go.Ve
