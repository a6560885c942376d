/- Part 10: VEval, part 34: more operations, the rest: pointers as unsafe.Pointer, a string's bytes appended, unsafe.String, a range over a map. No condition. And what follows it. -/
import Derived.Test.YteeibihhdldjfaaGreatDoorVeI
import Derived.Lib.UnsafeStr
set_option linter.unusedVariables false
set_option linter.unusedSimpArgs false
namespace Go.Ve
open Go.RowKit
section
variable {P : Program} {w0 w : World} {φ : aK} {h : AH} {ρ : Operand → Value} {o : Oper} {vs : List Value} {k : KV}
theorem VR.af8 {v' : Value} (h : VR φ (.pointer none) v') : v' = .pointer none := by cases h; rfl
theorem HR.shape (H : HR P w0 φ h w) {a a' : Addr} {lo hi : Nat} {ty : TypeId} {rw : Bool} {c : NT Value} (hs : φ a.block ≠ none) (ha : AtR φ a a') (ho : h.ob.get a.block = some (.cells lo hi ty rw c)) :
 ∃ d n, w.shape? a'.block = some (ty, n) ∧ d ≤ lo ∧ (lo < hi → hi - d ≤ n) ∧ a'.off + d = a.off ∧ a'.spot = none := by
 obtain ⟨b, d, arr, fr, v1, v2, v3, v4, v5, v6, v7, _⟩ := H.at hs ha ho
 refine ⟨d, arr.size, by simp [World.shape?, v2, v5], v6, fun bW => ?_, v3, v4⟩
 obtain ⟨_, _, _, g, _⟩ := v7 (hi - 1) (by omega) (by omega)
 have := (Array.getElem?_eq_some_iff.1 g).1
 omega
theorem aej {x : Operand} {s t te : TypeId} {j : TypeInfo} (ho : o.op = .convert s t x) (hs : P.underlying s = some (.pointer te)) (ht : P.underlying t = some .unsafePointer) (hi : P.info? te = some j) (hj : j.size ≠ 0) (H : HR P w0 φ h w) (hv : LR φ vs ([x].map ρ)) (e : VT vs h k = true) : PR P w0 φ h ((execOp ρ o).run P w) fun v h' => k v h' = true := by
 obtain ⟨p, ar, e1⟩ := eJ e; clear e; subst ar; have e := e1; clear e1
 obtain ⟨p', hp, hr⟩ := hv.one
 simp at hp; subst hp
 obtain ⟨a, ar, e1⟩ := lj e; clear e; subst ar
 obtain ⟨a', hx, hf, cN⟩ := hr.jW
 obtain ⟨lo, dS, ty, ml, c, g1, e2⟩ := rN e1
 obtain ⟨g2, e3⟩ := cj e2
 simp only [Bool.and_eq_true] at g2
 have g3 := Nat.le_of_ble_eq_true g2.1
 have g4 : a.off < dS := Nat.le_of_ble_eq_true g2.2
 obtain ⟨d, n, q1, q2, q3, q4, q5⟩ := H.shape hf cN g1
 have q3 := q3 (by omega)
 refine .same H ?_ (.ptr ⟨a.block, a.off, none⟩ _ hf cN) e3
 simp only [execOp, ho, hx]
 simp [Lib.run_to_unsafe (P := P) w a' hs ht hi hj q1 (by omega)]
theorem af9 {fits : TypeId → Bool} {d : Nat} {e : TypeId} {c c' off n : Nat} (hc : c ≤ c') (h : rowAt P fits d e c off n = true) : rowAt P fits d e c' off n = true := by
 cases d with
 | zero => cases h
 | succ d =>
  unfold rowAt at h ⊢
  simp only at h ⊢
  split at h
  · cases h
  · rename_i hs
    rw [if_neg hs]
    simp only [Bool.or_eq_true, Bool.and_eq_true, decide_eq_true_eq] at h ⊢
    rcases h with ⟨⟨h1, h2⟩, h3⟩ | ⟨h1, h2⟩
    · exact .inl ⟨⟨h1, by omega⟩, h3⟩
    · exact .inr ⟨by omega, h2⟩
theorem W9 : ∀ {d : Nat} {e : TypeId} {c c' off : Nat} {u : TypeId} {n : Nat}, c ≤ c' → liesAt P d e c off u n = true → liesAt P d e c' off u n = true
 | 0, _, _, _, _, _, _, _, h => by cases h
 | d + 1, e, c, c', off, u, n, hc, h => by
  unfold liesAt at h ⊢
  rw [Bool.or_eq_true] at h ⊢
  rcases h with h | h
  · exact .inl (af9 hc h)
  · refine .inr ?_
    split at h
    · exact W9 hc h
    · cases h
theorem Xa {ty hi : Nat} : ∀ {l : List (TypeId × Nat)}, Gt ty hi l = true → ∃ n, (ty, n) ∈ l ∧ n ≤ hi
 | [], h => by cases h
 | (t, n) :: l, h => by
  unfold Gt at h
  cases hb : Nat.beq t ty && Nat.ble n hi with
  | true =>
   rw [Bool.and_eq_true] at hb
   obtain rfl := Nat.eq_of_beq_eq_true hb.1
   exact ⟨n, .head _, Nat.le_of_ble_eq_true hb.2⟩
  | false =>
   rw [hb] at h
   obtain ⟨m, h1, h2⟩ := Xa (l := l) (by simpa using h)
   exact ⟨m, .tail _ h1, h2⟩
theorem aga {u t : TypeId} {n : Nat} (h : (t, n) ∈ GN P u) : n = P.cellsOf t ∧ n ≠ 0 ∧ liesAt P P.depth t 1 0 u 1 = true := by
 unfold GN at h
 obtain ⟨t', h1, h2⟩ := List.mem_map.1 h
 cases h2
 have h3 := (List.mem_filter.1 h1).2
 simp only [Bool.and_eq_true, Bool.not_eq_true', beq_eq_false_iff_ne] at h3
 exact ⟨rfl, h3.1.2, h3.2⟩
theorem aek {x : Operand} {s t u : TypeId} {j : TypeInfo} (ho : o.op = .convert s t x) (hs : P.underlying s = some .unsafePointer) (ht : P.underlying t = some (.pointer u)) (hi : P.info? u = some j) (H : HR P w0 φ h w) (hv : LR φ vs ([x].map ρ)) (e : VU (GN P u) vs h k = true) : PR P w0 φ h ((execOp ρ o).run P w) fun v h' => k v h' = true := by
 obtain ⟨p, ar, e1⟩ := eJ e; clear e; subst ar; have e := e1; clear e1
 obtain ⟨p', hp, hr⟩ := hv.one
 simp at hp; subst hp
 obtain ⟨a, ar, e1⟩ := lj e; clear e; subst ar
 obtain ⟨a', hx, hf, cN⟩ := hr.jW
 obtain ⟨lo, dS, ty, ml, c, g1, e2⟩ := rN e1
 obtain ⟨g2, e3⟩ := cj e2
 simp only [Bool.and_eq_true] at g2
 obtain ⟨⟨g2, g3⟩, g4⟩ := g2
 have g2 : lo = 0 := Nat.eq_of_beq_eq_true g2
 have g3 : a.off = 0 := Nat.eq_of_beq_eq_true g3
 obtain ⟨m, g5, g6⟩ := Xa g4
 obtain ⟨g7, g8, g9⟩ := aga g5
 obtain ⟨d, n, q1, q2, q3, q4, q5⟩ := H.shape hf cN g1
 have q3 := q3 (by omega)
 have Xb : a'.off = 0 := by omega
 refine .same H ?_ (.ptr ⟨a.block, a.off, none⟩ _ hf cN) e3
 simp only [execOp, ho, hx]
 have hn : P.cellsOf ty ≤ n := by omega
 have h1 : 1 ≤ n / P.cellsOf ty := (Nat.one_le_div_iff (by omega)).2 hn
 simp [Lib.run_from_unsafe (P := P) w a' hs ht hi q1 (by rw [Xb]; exact W9 h1 g9)]
theorem agb {x y : Value} (h : Gu x y = true) : ∃ a b, x = .pointer (some a) ∧ y = .pointer (some b) ∧ a.block = b.block ∧ a.off = b.off := by
 unfold Gu at h
 split at h
 · rename_i a b
   rw [Bool.and_eq_true] at h
   exact ⟨a, b, rfl, rfl, Nat.eq_of_beq_eq_true h.1, Nat.eq_of_beq_eq_true h.2⟩
 · cases h
theorem UI {op : BinOp} {t u te : TypeId} {j : TypeInfo} {x y : Operand} {ng : Bool} (ho : o.op = .binOp op t x y u) (aU : (op = .eql ∧ ng = false) ∨ (op = .neq ∧ ng = true)) (hu : P.underlying t = some (.pointer te)) (hi : P.info? te = some j) (H : HR P w0 φ h w) (hv : LR φ vs ([x, y].map ρ)) (e : VW ng vs h k = true) : PR P w0 φ h ((execOp ρ o).run P w) fun v h' => k v h' = true := by
 obtain ⟨p, q, ar, e1⟩ := gQ e; clear e; subst ar
 cases N7 : Gu p q with
 | false =>
  rw [N7, cond_false] at e1
  exact oM (nk := 0) ho aU hu rfl (fun h => by cases h) H hv e1
 | true =>
  rw [N7, cond_true] at e1
  obtain ⟨a, b, agc, agd, hb, Xb⟩ := agb N7
  subst agc agd
  obtain ⟨p', q', hp, hr, hq⟩ := hv.two
  simp at hp; obtain ⟨e2, e3⟩ := hp; subst e2 e3
  obtain ⟨a', hx, hf, cN⟩ := hr.jW
  obtain ⟨b', hy, hf', Bz⟩ := hq.jW
  obtain ⟨a2, ar, e2⟩ := lj e1
  cases ar
  obtain ⟨ob, g1, e3⟩ := vu e2
  obtain ⟨B, d, n, o', m1, m2, m3, m4⟩ := H.live hf g1
  obtain ⟨c1, c2, c3⟩ := cN B d n m1
  obtain ⟨d1, d2, d3⟩ := Bz B d n (by rw [← hb]; exact m1)
  have mX : a' = b' := by
   cases a'; cases b'
   simp only at c1 c2 c3 d1 d2 d3
   subst c1 c3 d1 d3
   congr 1
   omega
  subst mX
  rw [iA] at e3
  have hg := Xc (P := P) (w := w) (nk := 0) (op := op) (t := t) (X := x) (Y := y) (a := .pointer (some a')) (b := .pointer (some a')) rfl rfl (fun h => by cases h)
  refine .same H ?_ (.bool _) e3
  simp only [execOp, ho, hx, hy]
  rcases aU with ⟨rfl, rfl⟩ | ⟨rfl, rfl⟩
  · simp [hg, run_eql_ptr_same (P := P) w a' hu hi]
  · simp [hg, Lib.run_neq_ptr_same (P := P) w a' hu hi]
theorem aeF {c : Call} {x : Operand} (ho : o.op = .call c) (hc : c.callee = .builtin .unsafeSliceData) (ha : c.args = #[x]) (H : HR P w0 φ h w) (hv : LR φ vs ([x].map ρ)) (e : VX vs h k = true) : PR P w0 φ h ((execOp ρ o).run P w) fun v h' => k v h' = true := by
 obtain ⟨p, ar, e1⟩ := eJ e; clear e; subst ar; have e := e1; clear e1
 obtain ⟨p', hp, hr⟩ := hv.one
 simp at hp; subst hp
 rcases oI e with ⟨l, c', ar, e1⟩ | ⟨a, l, c', ar, e1⟩ <;> (clear e; subst ar)
 · obtain ⟨rfl, rfl, hx⟩ := hr.pP
   refine .same H ?_ .FJ e1
   rw [kI ho hc]
   simp [builtin, ha, hx, Lib.run_unsafeSliceData_nil]
 · obtain ⟨a', c9, hx, hs, iu⟩ := hr.nL
   obtain ⟨h1, e2⟩ := cj e1
   have h1 : 1 ≤ l := Nat.le_of_ble_eq_true h1
   have cN : AtR φ a a' ∧ c9 ≠ 0 := by
    rcases iu with ⟨_, h2, h3, h4⟩ | ⟨_, _, _, h3, h4⟩
    · exact ⟨h4 (by omega), by omega⟩
    · exact ⟨(h4 (by omega)).1, by omega⟩
   refine .same H ?_ (.ptr ⟨a.block, a.off, none⟩ _ hs cN.1) e2
   rw [kI ho hc]
   simp [builtin, ha, hx, Lib.run_unsafeSliceData_row (P := P) w _ _ a' l c9 cN.2]
theorem Xd : ∀ {l : List Value} {k : List UInt8 → Bool}, VQ l k = true → ∃ m : List UInt8, l = m.map (fun c => Value.int .u8 c.toNat) ∧ k m = true
 | [], k, h => ⟨[], rfl, h⟩
 | v :: l, k, h => by
  obtain ⟨kd, n, ar, e1⟩ := mj (show kp v _ = true from h)
  subst ar
  cases n with
  | negSucc n => cases e1
  | ofNat n =>
   obtain ⟨e2, e3⟩ := cj (show iff (fM kd .u8 && Nat.ble (Nat.succ n) 256) _ = true from e1)
   rw [Bool.and_eq_true] at e2
   obtain rfl := mW e2.1
   have bW : n < 256 := Nat.le_of_ble_eq_true e2.2
   obtain ⟨m, h1, h2⟩ := Xd (l := l) e3
   refine ⟨UInt8.ofNat n :: m, ?_, h2⟩
   rw [h1]
   have : (UInt8.ofNat n).toNat = n := by simp [UInt8.toNat_ofNat']; omega
   simp [this]
theorem age {my : Array TypeId} {ty t : TypeId} (h0 : my[0]? = some t) (z : Option Addr) (kd : IntKind) :
 (Builtin.unsafeString_ my ty #[.pointer z, .int kd 0]).run P w = .ok (.string .empty) w := by
 have hm : IntKind.i64.max = 9223372036854775807 := rfl
 cases z <;> refine (Sem.run_bind P w (asInt (.int kd 0)) _).trans ?_ <;> simp [h0, asInt, asIntOf, hm]
theorem agf {my : Array TypeId} {ty t e : TypeId} (h0 : my[0]? = some t) (hp : P.underlying t = some (.pointer e)) (hc : P.cellsOf e = 1) (a : Addr) (cells : Nat) (hsh : w.shape? a.block = some (e, cells)) (l : List UInt8) (hl : l.length ≠ 0) (hn : a.off + l.length ≤ cells) (h63 : l.length ≤ 1048576) (kd : IntKind)
 (nq : ∀ j x, l[j]? = some x → w.cell? (a.add j) = some (.int .u8 x.toNat)) :
 (Builtin.unsafeString_ my ty #[.pointer (some a), .int kd l.length]).run P w = .ok (.string ⟨l.toArray⟩) (w.freeze a l.length) := by
 have N8 := Lib.run_loadBytes (P := P) w l a .empty nq
 have agh : liesAt P P.depth e (cells / P.cellsOf e) a.off e l.length = true := by
  have hd : P.depth = (2 * (P.types.size + Made.depth) + 1) + 1 := rfl
  rw [hd]
  simp only [liesAt, Bool.or_eq_true]
  left
  rw [hd]
  have h1 : a.off + l.length ≤ cells / P.cellsOf e := by rw [hc]; simpa using hn
  rw [hc] at h1
  simp at h1
  simp [rowAt, hc, h1, sameLayout, Nat.mod_one]
 have GQ : ¬ (9223372036854775807 : Int) < (l.length : Int) := by omega
 have Xe : IntKind.i64.max = 9223372036854775807 := rfl
 have agi : ¬ (l.length : Int) < 0 := by omega
 have gB : l ≠ [] := fun e => hl (by simp [e])
 refine (Sem.run_bind P w (asInt (.int kd l.length)) _).trans ?_
 simp [h0, asInt, asIntOf, Xe, GQ, agi, gB, variablesAt, hsh, elemOf, run_underlying hp, agh, N8]
theorem agj {ty n : Nat} {a : Addr} (e : VY ty n h k a = true) : ∃ lo hi c m aW, h.ob.get a.block = some (.cells lo hi ty true c) ∧ lo ≤ a.off ∧ a.off + n ≤ hi ∧ n ≤ 1048576 ∧ m.length = n ∧
 (∀ j x, m[j]? = some x → c.get (a.off + j) = some (.int .u8 (UInt8.toNat x))) ∧ h.ob.iT a.block (some (.cells lo hi ty false c)) aW ∧ k (.string ⟨⟨m⟩⟩) ⟨h.nx, aW⟩ = true := by
 cases a with
 | mk b off sp =>
  obtain ⟨lo, hi, cz, ml, c, g1, e2⟩ := rN (show lv h b _ = true from e)
  obtain ⟨g2, e3⟩ := cj e2
  simp only [Bool.and_eq_true] at g2
  obtain ⟨⟨⟨⟨g2, g3⟩, g4⟩, g5⟩, g6⟩ := g2
  subst g2
  obtain rfl := Nat.eq_of_beq_eq_true g3
  obtain ⟨l, e4, g7, g8⟩ := GL _ e3
  obtain ⟨m, rfl, e5⟩ := Xd e4
  obtain ⟨aW, g9, e6⟩ := mY e5
  refine ⟨lo, hi, c, m, aW, g1, Nat.le_of_ble_eq_true g4, Nat.le_of_ble_eq_true g5, Nat.le_of_ble_eq_true g6, by simpa using g7, fun j x hj => g8 j _ (by simp [hj]), g9, e6⟩
theorem aeG {c : Call} {x y : Operand} {t u : TypeId} (ho : o.op = .call c) (hc : c.callee = .builtin .unsafeString) (ha : c.args = #[x, y]) (h0 : c.argTypes[0]? = some t) (hu : P.underlying t = some (.pointer u)) (h1 : P.cellsOf u = 1) (H : HR P w0 φ h w) (hv : LR φ vs ([x, y].map ρ)) (e : VZ u vs h k = true) : PR P w0 φ h ((execOp ρ o).run P w) fun v h' => k v h' = true := by
 obtain ⟨p, q, ar, e1⟩ := gQ e; clear e; subst ar
 obtain ⟨p', q', hp, hr, hq⟩ := hv.two
 simp at hp; obtain ⟨e2, e3⟩ := hp; subst e2 e3
 obtain ⟨kd, n, ar, e2⟩ := q9 e1; subst ar; clear e1
 have hn := hq.gM
 have Xe : IntKind.i64.max = 9223372036854775807 := rfl
 split at e2
 · rename_i q
   have hpx : ∃ z, ρ x = .pointer z := by
    cases q with
    | none => exact ⟨_, hr.af8⟩
    | some a => obtain ⟨a', hx, _⟩ := hr.jW; exact ⟨_, hx⟩
   obtain ⟨z, hz⟩ := hpx
   by_cases mn : n = 0
   · subst mn
     rw [kG rfl, cond_true] at e2
     refine .same H ?_ (.str _) e2
     rw [kI ho hc]
     have h00 := age (P := P) (w := w) (ty := o.type) h0 z kd
     simp [builtin, ha, hz, hn, h00]
     rfl
   · rw [fg mn, cond_false] at e2
     cases q with
     | none => cases e2
     | some a =>
      obtain ⟨a', hx, hf, cN⟩ := hr.jW
      obtain ⟨lo, hi, cc, m, aW, g1, g2, g3, g4, g5, g6, g7, g8⟩ := agj e2
      subst g5
      obtain ⟨b, d, arr, fr, v1, v2, v3, v4, v5, v6, v7, v8, v9⟩ := H.at hf cN g1
      obtain rfl := v9 rfl
      have eU : a'.off + m.length ≤ arr.size := by
       obtain ⟨_, _, _, g, _⟩ := v7 (a.off + m.length - 1) (by omega) (by omega)
       have := (Array.getElem?_eq_some_iff.1 g).1
       omega
      have nq : ∀ j x, m[j]? = some x → w.cell? (a'.add j) = some (.int .u8 x.toNat) := fun j x hj => by
       have uP := (List.getElem?_eq_some_iff.1 hj).1
       obtain ⟨v', q1, q2⟩ := H.cell hf cN g1 (j := j) (by omega) (by omega) (g6 j x hj)
       rw [q1, q2.gM]
      have cg := agf (P := P) (w := w) (ty := o.type) h0 hu h1 a' arr.size (by simp [World.shape?, v2, v5]) m mn eU g4 kd nq
      have lS : (w.freeze a' m.length) = { w with heap := w.heap.modify a'.block fun
       | .cells c elem (lo, hi) => .cells c elem (if lo == hi then (a'.off, a'.off + m.length) else (min lo a'.off, max hi (a'.off + m.length)))
       | o => o } := by unfold World.freeze; rw [if_neg mn]; rfl
      refine ⟨_, w.freeze a' m.length, _, _, φ, .inl ?_, g8, Ext.refl _ _, Nat.le_refl _, .str _, ?_⟩
      · rw [kI ho hc]
        simp only [builtin, ha, List.map_toArray, List.map_cons, List.map_nil, hx, hn]
        rw [show (Int.ofNat m.length) = (m.length : Int) from rfl]
        simp [cg]
      · refine H.jf (h' := ⟨h.nx, aW⟩) (o' := .cells arr u (a'.off, a'.off + m.length)) v1 g7 rfl (.cells _ _ _ _ _ _ _ _ _ (fun h => by cases h) v6 rfl v7) (v8 rfl) ?_ (fun k hk => ?_) ?_ ?_ ?_ ?_
        · rw [lS]; simp [Array.getElem?_modify, v2, v5]
        · rw [lS]; simp only [Array.getElem?_modify]; rw [if_neg (by rw [v2]; exact fun e => hk e.symm)]
        · rw [lS]; simp
        · rw [lS]
        · rw [lS]
        · rw [lS]
 · cases e2
theorem Xf : ∀ (l : List UInt8) {k : List Value → Bool}, NB l k = true → k (l.map fun c => .int .u8 (.ofNat c.toNat)) = true
 | [], k, h => h
 | c :: l, k, h => by
  have h' : fN c.toNat (fun n => NB l fun l => k (.int .u8 (.ofNat n) :: l)) = true := h
  rw [ch] at h'
  exact Xf l h'
theorem Xg (φ : aK) : ∀ l : List UInt8, LR φ (l.map fun c => .int .u8 (.ofNat c.toNat)) (l.map fun c => .int .u8 (.ofNat c.toNat))
 | [] => .nil
 | c :: l => .cons _ _ _ _ (.int _ _) (Xg φ l)
theorem aeE {c : Call} {s x : Operand} {t u e' : TypeId} {i : TypeInfo} {z : Value} (ho : o.op = .call c) (hc : c.callee = .builtin .append) (ha : c.args = #[s, x]) (h0 : c.argTypes[0]? = some t) (h1 : c.argTypes[1]? = some u) (ht : P.underlying t = some (.slice e')) (hu : P.underlying u = some .string)
 (hi : P.info? e' = some i) (hz : i.zero = some z) (uQ : i.bytes ≤ 65536) (lN : z.cells.size = i.size) (eU : i.size = 1) (H : HR P w0 φ h w) (hv : LR φ vs ([s, x].map ρ)) (e : VS e' z.cells.toList vs h k = true) : PR P w0 φ h ((execOp ρ o).run P w) fun v h' => k v h' = true := by
 obtain ⟨p, q, ar, e1⟩ := gQ e; clear e; subst ar; have e := e1; clear e1
 obtain ⟨p', q', hp, hr, hq⟩ := hv.two
 simp at hp; obtain ⟨e1, e2⟩ := hp; subst e1 e2
 have cg : ∀ {v' : Value} {w' : World}, (Builtin.append_ c.argTypes o.type #[ρ s, ρ x]).run P w = .ok v' w' → (execOp ρ o).run P w = .ok (.value v') w' := by
  intro v' w' hh
  rw [kI ho hc]
  simp [builtin, ha, hh]
 obtain ⟨str, ar, e1⟩ := kJ e; subst ar
 have hx := hq.jB
 have e2 := Xf _ e1
 rw [ch] at e2
 obtain ⟨_, e3⟩ := cj e2
 refine Xh (p := p) (p' := ρ s) (q' := ρ x) (n := str.size) (xs := str.data.toList.map fun c => .int .u8 (.ofNat c.toNat)) cg h0 h1 ht (eu := 0) (.inr hu) hi hz uQ lN (by omega) H hr (by rw [eU]; simp) (Xg φ _) ?_ (fun w' _ => ?_) ?_
 · rw [hx]; simp [Builtin.lenOf]
 · rw [hx]
   simp only [Builtin.firstCells, Sem.run_pure]
   congr 1
   apply Array.ext'
   simp
 · rw [eU]
   have hl : (str.data.toList.map fun c => Value.int .u8 (.ofNat c.toNat)).length = str.size := by simp
   rw [hl] at e3
   exact e3
theorem N9 : ∀ (l : List Nat) (n : Nat), pY l n = l.contains n
 | [], n => rfl
 | m :: l, n => by
  have h1 : pY (m :: l) n = bif Nat.beq m n then true else pY l n := rfl
  rw [h1, N9 l n, List.contains_cons]
  by_cases h : m = n
  · subst h; simp [kG]
  · rw [fg h]; simp [Ne.symm h]
theorem Xi : ∀ (l : List Nat) {n : Nat} {k : List Nat → Bool}, Bj l n k = true → k (l ++ [n]) = true
 | [], n, k, h => h
 | x :: l, n, k, h => Xi l (show Bj l n (fun l' => k (x :: l')) = true from h)
theorem Oa {since : Nat} {seen : List Nat} : ∀ (es : List (Value × Value × Nat)) {k : List (Value × Value × Nat) → Bool}, rF es since seen k = true → (∀ e ∈ es, e.2.2 < since) ∧ k (es.filter fun e => !seen.contains e.2.2) = true
 | [], k, h => ⟨fun e he => (by cases he), h⟩
 | e :: es, k, h => by
  obtain ⟨h1, h2⟩ := cj (show iff (Nat.ble (Nat.succ e.2.2) since) (bif pY seen e.2.2 then rF es since seen k else rF es since seen fun l => k (e :: l)) = true from h)
  have h1 : e.2.2 < since := Nat.le_of_ble_eq_true h1
  rw [N9] at h2
  cases hm : seen.contains e.2.2 with
  | true =>
   rw [hm, cond_true] at h2
   obtain ⟨h3, h4⟩ := Oa es h2
   refine ⟨fun x hx => ?_, ?_⟩
   · rcases List.mem_cons.1 hx with rfl | hx
     · exact h1
     · exact h3 x hx
   · rw [List.filter_cons_of_neg (by rw [hm]; simp)]; exact h4
  | false =>
   rw [hm, cond_false] at h2
   obtain ⟨h3, h4⟩ := Oa es h2
   refine ⟨fun x hx => ?_, ?_⟩
   · rcases List.mem_cons.1 hx with rfl | hx
     · exact h1
     · exact h3 x hx
   · rw [List.filter_cons_of_pos (by rw [hm]; rfl)]; exact h4
theorem Xj {go : Value → Value → Nat → Bool} : ∀ {l : List (Value × Value × Nat)}, td go l = true → ∀ x ∈ l, go x.1 x.2.1 x.2.2 = true
 | [], _, x, hx => by cases hx
 | [(a, v, n)], h, x, hx => by
  rcases List.mem_cons.1 hx with rfl | hx
  · exact h
  · cases hx
 | (a, v, n) :: y :: l, h, x, hx => by
  obtain ⟨h1, h2⟩ := cj (show iff (go a v n) (td go (y :: l)) = true from h)
  rcases List.mem_cons.1 hx with rfl | hx
  · exact h1
  · exact Xj h2 x hx
theorem ER.filter {φ : aK} {p : Nat → Bool} : ∀ {l : List (Value × Value × Nat)} {l' : List MapEntry}, ER φ l l' → ER φ (l.filter fun e => p e.2.2) (l'.filter fun e => p e.born)
 | _, _, .nil => .nil
 | _, _, .cons a v b e l l' h1 h2 h3 h4 => by
  have ih := ER.filter (p := p) h4
  cases hp : p b with
  | true =>
   rw [List.filter_cons_of_pos (by simpa using hp), List.filter_cons_of_pos (by rw [h3]; exact hp)]
   exact .cons _ _ _ _ _ _ h1 h2 h3 ih
  | false =>
   rw [List.filter_cons_of_neg (by simpa using hp), List.filter_cons_of_neg (by rw [h3]; simpa using hp)]
   exact ih
theorem ER.mem {φ : aK} : ∀ {l : List (Value × Value × Nat)} {l' : List MapEntry}, ER φ l l' → ∀ e ∈ l', ∃ x ∈ l, VR φ x.1 e.key ∧ VR φ x.2.1 e.val ∧ e.born = x.2.2
 | _, _, .nil, e, he => by cases he
 | _, _, .cons a v b e l l' h1 h2 h3 h4, e', he => by
  rcases List.mem_cons.1 he with rfl | he
  · exact ⟨_, .head _, h1, h2, h3⟩
  · obtain ⟨x, q1, q2⟩ := ER.mem h4 e' he
    exact ⟨x, .tail _ q1, q2⟩
theorem mapOf (H : HR P w0 φ h w) {r r' : Nat} {es : List (Value × Value × Nat)} {cl : Nat} (hf : φ r ≠ none) (hr : ∀ b d n, φ r = some (.live b d n) → r' = b) (ho : h.ob.get r = some (.map es cl)) : ∃ cG, w.heap[r']? = some (.map cG cl) ∧ ER φ es cG.toList := by
 obtain ⟨b, d, n, o', m1, m2, m3, m4⟩ := H.live hf ho
 obtain rfl := hr b d n m1
 cases m3 with
 | map _ _ _ cG _ he => exact ⟨cG, m2, he⟩
theorem aeo {x : Operand} {t kt et : TypeId} (ho : o.op = .range t x) (hu : P.underlying t = some (.map kt et)) (H : HR P w0 φ h w) (hv : LR φ vs ([x].map ρ)) (e : V2 vs h k = true) : PR P w0 φ h ((execOp ρ o).run P w) fun v h' => k v h' = true := by
 obtain ⟨p, ar, e1⟩ := eJ e; clear e; subst ar; have e := e1; clear e1
 obtain ⟨p', hp, hr⟩ := hv.one
 simp at hp; subst hp
 rcases FM e with ⟨ar, e1⟩ | ⟨r, ar, e1⟩ <;> (clear e; subst ar)
 · obtain ⟨aW, h1, h2⟩ := sN e1
   obtain ⟨g1, g2⟩ := H.newAt (f := h.nx) (o := .fh none 0 [] 0) (o' := .mapIter none 0 #[] 0) (d := 0) (n := 0) (h' := ⟨h.nx + 1, aW⟩) (H.fresh _ (Nat.le_refl _)) h1.1 (fun g hg _ => h1.2 g hg) (fun g hg => H.fresh g (by simp only at hg; omega)) (fun g hg => by rw [h1.2 g (by simp only at hg; omega)]; exact H.top g (by simp only at hg; omega)) (by simp) _ (Nat.le_refl _)
    (.fh _ none none _ _ _ (fun _ => rfl) (fun r hr => by cases hr))
   refine ⟨_, _, _, _, _, .inl ?_, h2, g2, by simp, PR.xR, g1⟩
   simp only [execOp, ho, hr.Mc]
   simp [run_range_nilMap w t kt et hu]
 · obtain ⟨r', hx, hf, rP⟩ := hr.FN
   obtain ⟨es, cl, h3, e2⟩ := uS e1
   obtain ⟨cG, m1, m2⟩ := mapOf H hf rP h3
   obtain ⟨aW, h1, h2⟩ := sN e2
   obtain ⟨g1, g2⟩ := H.newAt (f := h.nx) (o := .fh (some r) cl [] cl) (o' := .mapIter (some r') cl #[] cl) (d := 0) (n := 0) (h' := ⟨h.nx + 1, aW⟩) (H.fresh _ (Nat.le_refl _)) h1.1 (fun g hg _ => h1.2 g hg) (fun g hg => H.fresh g (by simp only at hg; omega)) (fun g hg => by rw [h1.2 g (by simp only at hg; omega)]; exact H.top g (by simp only at hg; omega)) (by simp) _ (Nat.le_refl _)
    (.fh _ _ _ _ _ _ (fun h => by cases h) (fun r0 rn => by cases rn; exact ⟨r', rfl, hf, rP⟩))
   refine ⟨_, _, _, _, _, .inl ?_, h2, g2, by simp, PR.xR, g1⟩
   simp only [execOp, ho, hx]
   simp [run_range_map w t kt et r' cG cl hu m1]
theorem Xk (H : HR P w0 φ h w) {a a' : Addr} {m : Option Nat} {since last : Nat} {seen : List Nat} (hf : φ a.block ≠ none) (cN : AtR φ a a') (h0 : a.off = 0) (ho : h.ob.get a.block = some (.fh m since seen last)) :
 ∃ b d n m', φ a.block = some (.live b d n) ∧ a' = ⟨b, 0, none⟩ ∧ d = 0 ∧ w.heap[b]? = some (.mapIter m' since seen.toArray last) ∧ w0.heap.size ≤ b ∧ (m = none → m' = none) ∧ ∀ r, m = some r → ∃ r', m' = some r' ∧ φ r ≠ none ∧ ∀ b d n, φ r = some (.live b d n) → r' = b := by
 obtain ⟨b, d, n, o', m1, m2, m3, m4⟩ := H.live hf ho
 obtain ⟨q1, q2, q3⟩ := cN b d n m1
 cases m3 with
 | fh _ _ m' _ _ _ z0 z1 =>
  refine ⟨b, 0, n, m', m1, ?_, rfl, m2, m4 rfl, z0, z1⟩
  cases a'; simp_all
theorem aep {x : Operand} (ho : o.op = .next x false) (H : HR P w0 φ h w) (hv : LR φ vs ([x].map ρ)) (e : V3 vs h k = true) : PR P w0 φ h ((execOp ρ o).run P w) fun v h' => k v h' = true := by
  obtain ⟨p, ar, e1⟩ := eJ e; clear e; subst ar; have e := e1; clear e1
  obtain ⟨p', hp, hr⟩ := hv.one
  simp at hp; subst hp
  obtain ⟨a, ar, e1⟩ := lj e; clear e; subst ar; have e := e1; clear e1
  obtain ⟨a', hx, hs, cN⟩ := hr.jW
  obtain ⟨h0, e1⟩ := cj e
  have h0 := Nat.eq_of_beq_eq_true h0
  obtain ⟨m, since, seen, last, g1, g2⟩ := W7 e1
  obtain ⟨b, d, n, m', z1, rfl, rfl, z2, z3, z4, z5⟩ := Xk H hs cN h0 g1
  cases m with
  | none =>
    obtain rfl := z4 rfl
    refine .same H ?_ (.gg _ _ (.cons _ _ _ _ (.bool false) .nil)) g2
    simp only [execOp, ho, hx]
    simp only [Instr.next, getObj, Sem.run_bind, Sem.run, z2, Result.andThen]
    rfl
  | some r =>
    obtain ⟨r', rfl, hf, rP⟩ := z5 r rfl
    obtain ⟨es, cl, h3, e2⟩ := uS (show ko h r _ = true from g2)
    obtain ⟨cG, m1, m2⟩ := mapOf H hf rP h3
    obtain ⟨e3, e4⟩ := cj e2
    rw [Bool.and_eq_true] at e3
    obtain rfl : cl = since := Nat.eq_of_beq_eq_true e3.1
    obtain rfl : last = cl := Nat.eq_of_beq_eq_true e3.2
    obtain ⟨u1, u2⟩ := Oa _ e4
    have hold : ∀ x ∈ cG.toList, x.born < last := fun x hx => by
      obtain ⟨y, y1, _, _, y2⟩ := m2.mem x hx
      rw [y2]; exact u1 y y1
    have BA : ER φ (es.filter fun e => !seen.contains e.2.2) (leftOf cG seen.toArray).toList := by
      have := ER.filter (p := fun n => !seen.contains n) m2
      unfold leftOf
      rw [Array.toList_filter]
      simpa using this
    rcases run_next_at (P := P) w o.type b r' last last seen.toArray cG last z2 m1 hold (Nat.le_refl _) with ⟨q1, q2⟩ | ⟨en, q1, w1, q2, q3⟩
    · have A8 : (es.filter fun e => !seen.contains e.2.2) = [] := by
        have : (leftOf cG seen.toArray).toList = [] := by simpa using q1
        rw [this] at BA
        revert BA
        generalize (es.filter fun e => !seen.contains e.2.2) = L
        intro BA
        cases BA; rfl
      rw [A8] at u2
      obtain ⟨aW, k1, k2⟩ := mY (show gz h a.block none _ = true from u2)
      refine ⟨_, w, _, _, _, .inl ?_, k2, aK.Gf φ _ _ hs, Nat.le_refl _, .gg _ _ (.cons _ _ _ _ (.bool false) .nil), H.kill (h' := ⟨h.nx, aW⟩) hs k1 rfl⟩
      simp only [execOp, ho, hx]
      simp [q2]
    · obtain ⟨y, y1, y2, y3, y4⟩ := BA.mem en q1
      have fV : td (Gw h a.block r last seen k) (es.filter fun e => !seen.contains e.2.2) = true := by
        revert u2
        cases (es.filter fun e => !seen.contains e.2.2) with
        | nil => intro _; rfl
        | cons x l => intro h; exact h
      have h5 := Xi _ (show Bj seen y.2.2 _ = true from Xj fV y y1)
      obtain ⟨aW, k1, k2⟩ := mY h5
      have H1 : HR P w0 φ h w1 := by rcases q2 with rfl | rfl; exact H; exact H.drew
      have hh : w1.heap = w.heap := by rcases q2 with rfl | rfl <;> rfl
      have bW : b < w1.heap.size := by rw [hh]; exact (Array.getElem?_eq_some_iff.1 z2).1
      refine ⟨_, ChangeMaps.setBlock w1 b (.mapIter (some r') last (seen.toArray.push en.born) last), _, _, φ, .inl ?_, k2, Ext.refl _ _, Nat.le_refl _, .gg _ _ (.cons _ _ _ _ (.bool true) (.cons _ _ _ _ y2 (.cons _ _ _ _ y3 .nil))), ?_⟩
      · simp only [execOp, ho, hx]
        simp [q3]
      · refine H1.jf (h' := ⟨h.nx, aW⟩) (o' := .mapIter (some r') last (seen.toArray.push en.born) last) z1 k1 rfl ?_ z3 (by simp [ChangeMaps.setBlock, bW]) (fun k hk => by simp [ChangeMaps.setBlock, Ne.symm hk]) (by simp [ChangeMaps.setBlock]) rfl rfl rfl
        have : seen.toArray.push en.born = (seen ++ [y.2.2]).toArray := by simp [y4]
        rw [this]
        exact .fh _ _ _ _ _ _ (fun h => by cases h) (fun r0 rn => by cases rn; exact ⟨r', rfl, hf, rP⟩)
theorem Xl : ∀ {l : List Nat} {k : Nat → Bool}, vj l k = true → ∃ n, l.getLast? = some n ∧ k n = true
 | [], k, h => by cases h
 | [n], k, h => ⟨n, rfl, h⟩
 | _ :: y :: l, k, h => by
  obtain ⟨n, h1, h2⟩ := Xl (l := y :: l) (show vj (y :: l) k = true from h)
  exact ⟨n, by rw [List.getLast?_cons_cons]; exact h1, h2⟩
theorem Xm {n : Nat} {k : Value → Value → Bool} : ∀ {es : List (Value × Value × Nat)} {cG : List MapEntry}, ER φ es cG → tf es n k = true → ∃ a v e, cG.find? (·.born == n) = some e ∧ VR φ a e.key ∧ VR φ v e.val ∧ k a v = true
 | _, _, .nil, h => by cases h
 | _, _, .cons a v b e l l' h1 h2 h3 h4, h => by
  have h' : (bif Nat.beq b n then k a v else tf l n k) = true := h
  by_cases hb : b = n
  · subst hb
    rw [kG rfl, cond_true] at h'
    exact ⟨a, v, e, by simp [h3], h1, h2, h'⟩
  · rw [fg hb, cond_false] at h'
    obtain ⟨a', v', e', q1, q2⟩ := Xm h4 h'
    refine ⟨a', v', e', ?_, q2⟩
    rw [List.find?_cons_of_neg (by rw [h3]; simpa using hb)]
    exact q1
theorem aeq {x : Operand} (ho : o.op = .entry x) (H : HR P w0 φ h w) (hv : LR φ vs ([x].map ρ)) (e : V4 vs h k = true) : PR P w0 φ h ((execOp ρ o).run P w) fun v h' => k v h' = true := by
 obtain ⟨p, ar, e1⟩ := eJ e; clear e; subst ar; have e := e1; clear e1
 obtain ⟨p', hp, hr⟩ := hv.one
 simp at hp; subst hp
 obtain ⟨a, ar, e1⟩ := lj e; clear e; subst ar; have e := e1; clear e1
 obtain ⟨a', hx, hs, cN⟩ := hr.jW
 obtain ⟨h0, e1⟩ := cj e
 have h0 := Nat.eq_of_beq_eq_true h0
 obtain ⟨m, since, seen, last, g1, g2⟩ := W7 e1
 obtain ⟨b, d, n, m', z1, rfl, rfl, z2, z3, z4, z5⟩ := Xk H hs cN h0 g1
 cases m with
 | none => cases g2
 | some r =>
  obtain ⟨r', rfl, hf, rP⟩ := z5 r rfl
  obtain ⟨es, cl, h3, e2⟩ := uS (show ko h r _ = true from g2)
  obtain ⟨cG, m1, m2⟩ := mapOf H hf rP h3
  obtain ⟨e3, e4⟩ := cj e2
  obtain rfl : cl = last := Nat.eq_of_beq_eq_true e3
  obtain ⟨st, s1, e5⟩ := Xl e4
  obtain ⟨ka, va, en, s2, s3, s4, e6⟩ := Xm m2 e5
  refine .same H (v' := .tuple #[en.key, en.val]) ?_ (.gg _ _ (.cons _ _ _ _ s3 (.cons _ _ _ _ s4 .nil))) e6
  have agk : cG.find? (·.born == st) = some en := by rw [← Array.find?_toList]; exact s2
  have oN : seen.toArray.back? = some st := by simpa using s1
  simp only [execOp, ho, hx]
  simp only [Instr.entry, getObj, Sem.run_bind, Sem.run, z2, m1, Result.andThen, oN, bne_self_eq_false, Bool.false_eq_true, if_false, agk]
  rfl
end
end Go.Ve
namespace Go.Ve
open Go.RowKit
section
variable {P : Program} {w0 w : World} {φ : aK} {h : AH} {ρ : Operand → Value} {o : Oper} {vs : List Value} {k : KV}
theorem UE (hρ : ∀ g, ρ (.func g) = .func (.func g) #[] #[]) {p : Prim} {xs : List Operand} (hc : lO P o = some (.aQ p, xs)) (H : HR P w0 φ h w) (hv : LR φ vs (xs.map ρ)) (e : p.ev vs h k = true) : PR P w0 φ h ((execOp ρ o).run P w) fun v h' => k v h' = true := by
 cases aU : o.op <;> simp only [lO, aU] at hc
 case move x => cases hc; exact UF (.inl aU) H hv e
 case assign x => cases hc; exact UF (.inr aU) H hv e
 case pick c a b => cases hc; exact adU aU H hv e
 case alloc ty => split at hc <;> cases hc; exact adV aU (by assumption) H e
 case box ty x => cases hc; exact adW aU H hv e
 case build t parts =>
  split at hc
  · rename_i fs z hu hz
    split at hc
    · rename_i fV
      split at hc
      · rename_i ps fy
        cases hc
        exact adR aU hu hz (fun f hf => List.all_eq_true.1 fV f hf) fy H hv e
      · cases hc
    · cases hc
  · rename_i n e' z hu hz
    split at hc
    · rename_i s hs
      cases hc
      exact adS aU hu hz hs H hv e
    · cases hc
  · cases hc
 case buildSlice t len parts =>
  split at hc
  · rename_i e' hu
    split at hc
    · rename_i s z hs hz
      split at hc
      · rename_i hg
        cases hc
        simp only [Bool.and_eq_true, decide_eq_true_eq, beq_iff_eq] at hg
        exact adT aU hu hz hs hg.1.1 hg.1.2 hg.2 H hv e
      · cases hc
    · cases hc
  · cases hc
 case load t a =>
  split at hc
  · rename_i d s hu hs
    split at hc
    · cases hc; exact adX aU hu (by assumption) hs H hv e
    · rename_i hd; cases hc; exact adY aU hu (by simpa using hd) H hv e
  · cases hc
 case store t a v =>
  split at hc
  · cases hc; exact adZ aU (by assumption) H hv e
  · cases hc
 case nilCheck x => cases hc; exact ad0 aU H hv e
 case fieldAddr s x f =>
  split at hc
  · rename_i fs hu
    split at hc
    · rename_i fl hf
      split at hc
      · rename_i sz hs
        split at hc
        · cases hc
        · rename_i dC; cases hc; exact ad1 aU hu hf hs dC H hv e
      · cases hc
    · cases hc
  · cases hc
 case field s x f =>
  split at hc
  · rename_i fs hu
    split at hc
    · rename_i fl hf
      split at hc
      · rename_i d sz hd hs
        split at hc
        · cases hc; exact ad2 aU hu hf hd (by assumption) hs H hv e
        · rename_i hn; cases hc; exact ad3 aU hu hf hd (by simpa using hn) H hv e
      · cases hc
    · cases hc
  · cases hc
 case indexAddr t x i =>
  split at hc
  · split at hc
    · cases hc; exact ad4 aU (by assumption) (by assumption) H hv e
    · cases hc
  · split at hc
    · cases hc; exact ad5 aU (by assumption) (by assumption) H hv e
    · cases hc
  · cases hc
 case index t x i =>
  split at hc
  · rename_i len e' hu
    split at hc
    · rename_i d s hd hs
      split at hc
      · cases hc; exact ad6 aU hu hd (by assumption) hs H hv e
      · rename_i hn
        split at hc
        · rename_i h1; subst h1; cases hc; exact ad7 aU hu hd (by simpa using hn) hs H hv e
        · cases hc
    · cases hc
  · cases hc; exact ad8 aU (by assumption) H hv e
  · cases hc
 case slice t x lo hi mx =>
  split at hc
  · split at hc
    · split at hc
      · rename_i hg
        cases hc
        simp only [Bool.and_eq_true, decide_eq_true_eq, Bool.or_eq_true, Bool.not_eq_true'] at hg
        exact ad9 aU (by assumption) (by assumption) hg.1 (fun hm => by rcases hg.2 with h2 | h2 <;> simp_all) H hv e
      · cases hc
    · cases hc
  · split at hc
    · split at hc
      · rename_i hg
        cases hc
        simp only [Bool.or_eq_true, Bool.not_eq_true'] at hg
        exact aea aU (by assumption) (by assumption) (fun hm => by rcases hg with h2 | h2 <;> simp_all) H hv e
      · cases hc
    · cases hc
  · split at hc
    · cases hc
    · rename_i hmx
      cases hc
      have Ap : mx = none := by cases mx <;> simp_all
      subst Ap
      exact aeb aU (by assumption) H hv e
  · cases hc
 case binOp op t x y u =>
  split at hc
  · cases hc; exact aec aU H hv e
  · split at hc <;> cases hc <;> first | exact aed aU H hv e | exact aee aU H hv e | exact aef aU H hv e
  · rename_i hu
    split at hc <;> cases hc
    · exact UG aU (.inl ⟨rfl, rfl⟩) hu H hv e
    · exact UG aU (.inr ⟨rfl, rfl⟩) hu H hv e
  · rename_i fs hu
    split at hc
    · rename_i hg
      simp only [Bool.and_eq_true, Bool.not_eq_true'] at hg
      split at hc <;> cases hc
      · exact UH aU (.inl ⟨rfl, rfl⟩) hu hg.1 hg.2 (by assumption) H hv e
      · exact UH aU (.inr ⟨rfl, rfl⟩) hu hg.1 hg.2 (by assumption) H hv e
    · cases hc
  · rename_i hu
    split at hc
    · split at hc <;> cases hc
      · exact oM aU (.inl ⟨rfl, rfl⟩) hu rfl (fun h => by cases h) H hv e
      · exact oM aU (.inr ⟨rfl, rfl⟩) hu rfl (fun h => by cases h) H hv e
    · split at hc <;> cases hc
      · exact UI aU (.inl ⟨rfl, rfl⟩) hu (by assumption) H hv e
      · exact UI aU (.inr ⟨rfl, rfl⟩) hu (by assumption) H hv e
  · rename_i hu
    split at hc <;> cases hc
    · exact oM aU (.inl ⟨rfl, rfl⟩) hu rfl (fun h => by cases h) H hv e
    · exact oM aU (.inr ⟨rfl, rfl⟩) hu rfl (fun h => by cases h) H hv e
  · rename_i hu
    split at hc <;> cases hc
    · exact oM aU (.inl ⟨rfl, rfl⟩) hu rfl (fun h => by cases h) H hv e
    · exact oM aU (.inr ⟨rfl, rfl⟩) hu rfl (fun h => by cases h) H hv e
  · rename_i hu
    split at hc <;> cases hc
    · exact oM aU (.inl ⟨rfl, rfl⟩) hu rfl (fun h => by cases h) H hv e
    · exact oM aU (.inr ⟨rfl, rfl⟩) hu rfl (fun h => by cases h) H hv e
  · rename_i hu
    split at hc
    · rename_i UJ
      split at hc <;> cases hc
      · exact oM aU (.inl ⟨rfl, rfl⟩) hu rfl (fun _ => UJ) H hv e
      · exact oM aU (.inr ⟨rfl, rfl⟩) hu rfl (fun _ => UJ) H hv e
    · cases hc
  · cases hc
 case unOp op t x =>
  split at hc <;> cases hc
  · exact aeg aU H hv e
  · exact aeh aU H hv e
 case convert s t x =>
  split at hc
  · cases hc; exact aei aU (by assumption) (by assumption) H hv e
  · split at hc
    · split at hc
      · cases hc
      · cases hc; exact aej aU (by assumption) (by assumption) (by assumption) (by assumption) H hv e
    · cases hc
  · split at hc
    · cases hc; exact aek aU (by assumption) (by assumption) (by assumption) H hv e
    · cases hc
  · cases hc
 case makeInterface t x =>
  split at hc
  · cases hc
  · cases hc
  · rename_i UK xV
    cases hc
    refine ael aU ?_ H hv e
    unfold Program.concrete
    cases hu : P.underlying t with
    | none => exact absurd hu xV
    | some d => cases d <;> first | rfl | exact absurd hu (UK _)
 case makeFunc fn first bR =>
  split at hc <;> cases hc
  · exact UL aU (fun _ => .func _) H hv e
  · exact UL aU (fun _ => .method _) H hv e
 case makeMap t r =>
  split at hc <;> cases hc
  exact aem aU H e
 case makeSlice t l c =>
  split at hc
  · rename_i e' hu
    split at hc
    · rename_i i z hi hz
      split at hc
      · rename_i hg
        cases hc
        simp only [Bool.and_eq_true, decide_eq_true_eq, beq_iff_eq] at hg
        obtain ⟨i2, fx, Aq, fi⟩ := nM hz
        rw [hi] at fx; cases fx
        exact adH aU hu hi Aq fi hg.1.2 hg.2 hg.1.1 H hv e
      · cases hc
    · cases hc
  · cases hc
 case lookup t m x ok =>
  split at hc
  · rename_i hu
    split at hc
    · cases hc; exact adI aU hu (by assumption) (by assumption) H hv e
    · cases hc
  · cases hc
 case mapUpdate t m x v =>
  split at hc
  · rename_i hu
    split at hc
    · cases hc; exact Uq (.inl aU) hu (by assumption) H hv e
    · cases hc
  · cases hc
 case insert t m x v =>
  split at hc
  · rename_i hu
    split at hc
    · cases hc; exact Uq (.inr aU) hu (by assumption) H hv e
    · cases hc
  · cases hc
 case extract x i => cases hc; exact aen aU H hv e
 case typeAssert x xt t ok =>
  split at hc
  · cases hc
  · rename_i d z hni hu hz
    split at hc
    · rename_i fi
      subst fi
      cases hc
      exact adM aU hu (fun m hm => hni m hm) hz H hv e
    · cases hc
  · cases hc
 case range t x =>
  split at hc <;> cases hc
  · exact adN aU (by assumption) H hv e
  · exact aeo aU (by assumption) H hv e
 case next x s =>
  split at hc
  · rename_i hs; subst hs; cases hc; exact adO aU H hv e
  · rename_i hs; cases hc; exact aep (by rw [aU]; simpa using hs) H hv e
 case entry x => cases hc; exact aeq aU H hv e
 case call c =>
  have xW : ∀ {x : Operand}, c.args.toList = [x] → c.args = #[x] := fun h => by apply Array.ext'; simpa using h
  have xX : ∀ {x y : Operand}, c.args.toList = [x, y] → c.args = #[x, y] := fun h => by apply Array.ext'; simpa using h
  split at hc
  · rename_i g dI
    split at hc
    · rename_i fn hf
      split at hc
      · cases hc
      · split at hc
        · rename_i hb
          rw [Bool.and_eq_true, Option.isNone_iff_eq_none] at hb
          have hx : ∀ {e : Array Value → Sem Value}, (fn.name == "runtime.NumGoroutine") = false → Extern.find fn = some e → ∀ v, (e (c.args.map ρ)).run P w = .ok v w → (execOp ρ o).run P w = .ok (.value v) w := fun h1 h2 v h3 => aer aU dI (hρ g) hf h1 (Option.isNone_iff_eq_none.2 hb.1) (Option.isNone_iff_eq_none.1 hb.2) h2 h3
          split at hc
          · rename_i hn
            have hn : fn.name = "internal/abi.NoEscape" := by simpa using hn
            cases hc; exact aes (hx (by rw [hn]; decide) (aet hn)) rfl H hv e
          · split at hc
            · rename_i hn
              have hn : fn.name = "internal/bytealg.CountString" := by simpa using hn
              cases hc; exact aeu (hx (by rw [hn]; decide) (aev hn)) rfl H hv e
            · split at hc
              · rename_i hn
                have hn : fn.name = "internal/bytealg.IndexByteString" := by simpa using hn
                cases hc; exact aew (hx (by rw [hn]; decide) (aex hn)) rfl H hv e
              · cases hc
        · cases hc
    · cases hc
  · cases hc
  · cases hc
  · rename_i b dI
    split at hc
    · split at hc
      · rename_i hx ht
        split at hc <;> cases hc
        · exact aey aU dI (xW hx) ht (by assumption) H hv e
        · exact aez aU dI (xW hx) ht (by assumption) H hv e
        · exact aeA aU dI (xW hx) ht (by assumption) H hv e
        · exact aeB aU dI (xW hx) ht (by assumption) H e
      · cases hc
    · split at hc
      · rename_i hx ht
        split at hc <;> cases hc
        exact aeC aU dI (xW hx) ht (by assumption) H hv e
      · cases hc
    · split at hc
      · rename_i hx ht hu
        split at hc
        · rename_i Ar kL
          split at hc
          · rename_i i z hi hz
            split at hc
            · rename_i hg
              cases hc
              simp only [Bool.and_eq_true, decide_eq_true_eq, beq_iff_eq] at hg
              obtain ⟨i2, fx, Aq, fi⟩ := nM hz
              rw [hi] at fx; cases fx
              exact aeD aU dI (xX hx) ht hu Ar kL hi Aq hg.1.2 hg.2 hg.1.1 H hv e
            · cases hc
          · cases hc
        · rename_i Ar kL
          split at hc
          · rename_i i z hi hz
            split at hc
            · rename_i hg
              cases hc
              simp only [Bool.and_eq_true, decide_eq_true_eq, beq_iff_eq] at hg
              obtain ⟨i2, fx, Aq, fi⟩ := nM hz
              rw [hi] at fx; cases fx
              exact aeE aU dI (xX hx) ht hu Ar kL hi Aq hg.1.2 (by rw [hg.2, hg.1.1]) hg.1.1 H hv e
            · cases hc
          · cases hc
        · cases hc
      · cases hc
    · split at hc
      · rename_i hx ht
        split at hc
        · rename_i Ar
          split at hc
          · rename_i sz hs
            cases hc
            obtain ⟨i, hi, rfl⟩ := lk hs
            exact adB aU dI (xX hx) ht Ar hi H hv e
          · cases hc
        · cases hc
      · cases hc
    · split at hc
      · rename_i hx; cases hc; exact adz aU dI (xX hx) H hv e
      · cases hc
    · split at hc
      · rename_i hx; cases hc; exact adA aU dI (xX hx) H hv e
      · cases hc
    · split at hc <;> cases hc
    · split at hc
      · rename_i hx; cases hc; exact aeF aU dI (xW hx) H hv e
      · cases hc
    · split at hc
      · rename_i hx ht
        split at hc
        · rename_i hu
          split at hc
          · cases hc; exact aeG aU dI (xX hx) ht hu (by assumption) H hv e
          · cases hc
        · cases hc
      · cases hc
    · split at hc <;> cases hc
    · cases hc
 all_goals first
  | cases hc
  | (split at hc <;> cases hc)
end
end Go.Ve
namespace Go.Ve
open Go.RowKit
def rj (φ : aK) (rc : Rc) (b : Frame) (cs0 cs : List Frame) : Prop := match rc with
 | .off => cs = cs0 ∧ (b.kind = .normal ∨ (b.kind = .deferred ∧ ∃ c rest, cs0 = c :: rest ∧ c.mode = .returning))
 | .can v => cs = cs0 ∧ b.kind = .deferred ∧ ∃ c rest v', cs0 = c :: rest ∧ c.mode = .panicking [{ v := v', recovered := false }] ∧ VR φ v v'
 | .ll => b.kind = .deferred ∧ ∃ c rest v', cs0 = c :: rest ∧ c.mode = .panicking [{ v := v', recovered := false }] ∧ cs = { c with mode := .panicking [{ v := v', recovered := true }] } :: rest
def lP (φ : aK) (e : Env) (b : Frame) : Prop := b.fn = e.fn ∧ match e.sR with
 | none => b.roundOf = none
 | some l => b.kind = .normal ∧ ∃ l', b.roundOf = some l' ∧ φ l ≠ none ∧ ∀ bl d n, φ l = some (.live bl d n) → l' = bl
structure SQ (P : Program) (w0 : World) (φ : aK) (s : St) (b : Frame) (cs0 cs : List Frame) (a : Act) (w : World) : Prop where
 df : DL φ s.df a.defers
 rc : rj φ s.rc b cs0 cs
 heap : HR P w0 φ s.h w
structure SR (P : Program) (w0 : World) (φ : aK) (e : Env) (s : St) (b : Frame) (cs0 cs : List Frame) (a : Act) (w : World) : Prop extends SQ P w0 φ s b cs0 cs a w where
 tm : TR φ s.tm e.nt a.tmps
theorem rj.ext {N : Nat} {φ φ' : aK} (h : Ext N φ φ') {rc : Rc} {b : Frame} {cs0 cs : List Frame} (hr : rj φ rc b cs0 cs) : rj φ' rc b cs0 cs := by
 cases rc with
 | off => exact hr
 | can v => obtain ⟨h1, h2, c, rest, v', h3, h4, h5⟩ := hr; exact ⟨h1, h2, c, rest, v', h3, h4, VR.ext h h5⟩
 | ll => exact hr
theorem lP.ext {N : Nat} {φ φ' : aK} (h : Ext N φ φ') {e : Env} {b : Frame} (he : lP φ e b) : lP φ' e b := by
 obtain ⟨h1, h2⟩ := he
 refine ⟨h1, ?_⟩
 cases hr : e.sR with
 | none => rw [hr] at h2; exact h2
 | some l =>
  rw [hr] at h2
  obtain ⟨h3, l', h4, h5, h6⟩ := h2
  exact ⟨h3, l', h4, h.cB h5, fun bl d n hl => h6 bl d n (h.live h5 hl)⟩
section
variable {P : Program} {b : Frame} {a : Act} {k : List Item} {cs : List Frame} {w : World} {ops : Array Oper} {i : Nat} {rest : List Nat} {o : Oper}
theorem Mj (ho : ops[i]? = some o) (hw : Region.wanted o (yielded ops a.tmps) = true) {v : Value} {w' : World} (hr : (o.semAt b.roundOf a.eval).run P w = .ok (.value v) w') :
 step P (lone (b.atR a (.inRegion ops (i :: rest) :: k)) cs w) = .next (lone (b.atR (a.put o.dst v) (.inRegion ops rest :: k)) cs w') := by
 have hf := Frame.finish_atR b a ops i rest k v
 rw [ho] at hf
 rw [show a.put o.dst v = a.put ((some o).bind (·.dst)) v from rfl, ← hf]
 exact step_lone_go (by rw [stepGR_op ho hw]; simp [stepG.apply, hr])
theorem UM (ho : ops[i]? = some o) (hw : Region.wanted o (yielded ops a.tmps) = true) {w' : World} (hr : (o.semAt b.roundOf a.eval).run P w = .ok .skip w') :
 step P (lone (b.atR a (.inRegion ops (i :: rest) :: k)) cs w) = .next (lone (b.atR (a.put o.dst undef) (.inRegion ops rest :: k)) cs w') := by
 have hf := Frame.finish_atR b a ops i rest k undef
 rw [ho] at hf
 rw [show a.put o.dst undef = a.put ((some o).bind (·.dst)) undef from rfl, ← hf]
 exact step_lone_go (by rw [stepGR_op ho hw]; simp [stepG.apply, hr])
theorem aeH (ho : ops[i]? = some o) (hw : Region.wanted o (yielded ops a.tmps) = true) {f : FuncId} {args : Array Value} {w' : World} (hr : (o.semAt b.roundOf a.eval).run P w = .ok (.enter f args) w') :
 step P (lone (b.atR a (.inRegion ops (i :: rest) :: k)) cs w) = .next (lone (Frame.enter P f args .normal) (b.atR a (.inRegion ops (i :: rest) :: k) :: cs) w') :=
 step_lone_go (by rw [stepGR_op ho hw]; simp [stepG.apply, hr, Frame.atR])
theorem aeI (ho : ops[i]? = some o) (hw : Region.wanted o (yielded ops a.tmps) = true) {l : Nat} {f : FuncId} {tmps : Array Value} {as bd : Code} {w' : World} (hr : (o.semAt b.roundOf a.eval).run P w = .ok (.round l f tmps as bd) w') :
 step P (lone (b.atR a (.inRegion ops (i :: rest) :: k)) cs w) = .next (lone (Frame.round l f tmps as bd .normal) (b.atR a (.inRegion ops (i :: rest) :: k) :: cs) w') :=
 step_lone_go (by rw [stepGR_op ho hw]; simp [stepG.apply, hr, Frame.atR])
theorem aeJ (ho : ops[i]? = some o) (hw : Region.wanted o (yielded ops a.tmps) = true) {d : Deferred} {w' : World} (hr : (o.semAt b.roundOf a.eval).run P w = .ok (.defer d) w') :
 step P (lone (b.atR a (.inRegion ops (i :: rest) :: k)) cs w) = .next (lone (b.atR (({ a with defers := d :: a.defers } : Act).put o.dst undef) (.inRegion ops rest :: k)) cs w') := by
 have hf := Frame.finish_atR b { a with defers := d :: a.defers } ops i rest k undef
 rw [ho] at hf
 rw [show ({ a with defers := d :: a.defers } : Act).put o.dst undef = ({ a with defers := d :: a.defers } : Act).put ((some o).bind (·.dst)) undef from rfl, ← hf]
 exact step_lone_go (by rw [stepGR_op ho hw]; simp [stepG.apply, hr, Frame.atR])
theorem aeK (ho : ops[i]? = some o) (hw : Region.wanted o (yielded ops a.tmps) = true) {v : Value} {w' : World} (hr : (o.semAt b.roundOf a.eval).run P w = .halt (.panic v) w') :
 step P (lone (b.atR a (.inRegion ops (i :: rest) :: k)) cs w) = .next (lone { b.atR a (.inRegion ops (i :: rest) :: k) with mode := .panicking [{ v, recovered := false }] } cs w') := by
 rw [← Frame.raise_atR]
 exact step_lone_go (by rw [stepGR_op ho hw]; simp [stepG.apply, hr])
theorem UN (hb : b.roundOf = none) (ho : ops[i]? = some o) (hw : Region.wanted o (yielded ops a.tmps) = true) {w' : World} (hr : (o.semAt b.roundOf a.eval).run P w = .ok .recover w') {v : Value} {cy : List Frame}
 (ht : (tryRecover (b.atR a (.inRegion ops (i :: rest) :: k)) cs = some (v, cy)) ∨ (tryRecover (b.atR a (.inRegion ops (i :: rest) :: k)) cs = none ∧ v = .nilIface ∧ cy = cs)) :
 step P (lone (b.atR a (.inRegion ops (i :: rest) :: k)) cs w) = .next (lone (b.atR (a.put o.dst v) (.inRegion ops rest :: k)) cy w') := by
 have hf := Frame.finish_atR b a ops i rest k v
 rw [ho] at hf
 rw [show a.put o.dst v = a.put ((some o).bind (·.dst)) v from rfl, ← hf]
 refine step_lone_go ?_
 rw [stepGR_op ho hw]
 have cw : (b.atR a (.inRegion ops (i :: rest) :: k)).roundOf = none := hb
 rcases ht with ht | ⟨ht, rfl, rfl⟩
 · simp [stepG.apply, hr, cw, ht]
 · simp [stepG.apply, hr, cw, ht]
end
def As (φ : aK) (r : CR) (E : Ending) : Prop := match r with
 | .ret v => ∃ v', E = .returned v' ∧ VR φ v v'
 | .aP v => ∃ v', E = .panicked [{ v := v', recovered := false }] ∧ VR φ v v'
def Can (P : Program) (f : FuncId) : Prop := ∃ fn, P.funcs[f]? = some fn ∧ (fn.name == "runtime.NumGoroutine") = false ∧ fn.body.isNone = false
def gR (P : Program) (w0 : World) (f : FuncId) (args : List Value) (h : AH) (k : CR → AH → Bool) : Prop :=
 Can P f ∧ ∀ (φ : aK) (args' : Array Value) (w : World), LR φ args args'.toList → HR P w0 φ h w → Calls P f args' w fun E w' => ∃ r h' φ', k r h' = true ∧ Ext h.nx φ φ' ∧ h.nx ≤ h'.nx ∧ HR P w0 φ' h' w' ∧ As φ' r E
def rk (P : Program) (w0 : World) (l : Nat) (args : List Value) (h : AH) (k : CR → AH → Bool) : Prop :=
 ∀ (φ : aK) (args' : Array Value) (l' : Nat) (w : World), LR φ args args'.toList → φ l ≠ none → (∀ b d n, φ l = some (.live b d n) → l' = b) → HR P w0 φ h w →
  ∃ f tmps as bd, (Instr.yield l' args').run P w = .ok (.round l' f tmps as bd) w ∧ ∀ (c : Frame) (cs : List Frame), ∃ v v' h' φ' w', k (.ret v) h' = true ∧ Ext h.nx φ φ' ∧ h.nx ≤ h'.nx ∧ HR P w0 φ' h' w' ∧ VR φ' v v' ∧
   Steps P (lone (Frame.round l' f tmps as bd .normal) (c :: cs) w) (lone (c.finish v') cs w')
def sS (φ : aK) (m : Option Value) (u : FrameMode) : Prop := match m with
 | none => u = .returning
 | some v => ∃ v', u = .panicking [{ v := v', recovered := false }] ∧ VR φ v v'
def UO (φ : aK) (rc : Rc) (c c' : Frame) : Prop := match rc with
 | .off => c' = c ∧ c.mode = .returning
 | .can v => c' = c ∧ ∃ v', c.mode = .panicking [{ v := v', recovered := false }] ∧ VR φ v v'
 | .ll => ∃ v', c.mode = .panicking [{ v := v', recovered := false }] ∧ c' = { c with mode := .panicking [{ v := v', recovered := true }] }
def aeL (φ : aK) (rc : Rc) (c : Frame) : Prop := match rc with
 | .off => c.mode = .returning
 | .can v => ∃ v', c.mode = .panicking [{ v := v', recovered := false }] ∧ VR φ v v'
 | .ll => False
def FV (P : Program) (w0 : World) (f : FuncId) (args : List Value) (rc : Rc) (h : AH) (k : Rc → AH → Bool) : Prop :=
 Can P f ∧ ∀ (φ : aK) (args' : Array Value) (w : World) (c : Frame) (cs : List Frame), LR φ args args'.toList → HR P w0 φ h w → aeL φ rc c →
  ∃ xY h' φ' w' c' fr v, k xY h' = true ∧ Ext h.nx φ φ' ∧ h.nx ≤ h'.nx ∧ HR P w0 φ' h' w' ∧ UO φ' xY c c' ∧
   Steps P (lone (Frame.enter P f args' .deferred) (c :: cs) w) (lone fr (c' :: cs) w') ∧ fr.kind = .deferred ∧ fr.going P w' (.returned v)
def mo (P : Program) (w0 : World) (ds : List fa) (m : Option Value) (h : AH) (k : Option Value → AH → Bool) : Prop :=
 ∀ (φ : aK) (fr : Frame) (cs : List Frame) (w : World), DL φ ds fr.defers → sS φ m fr.mode → HR P w0 φ h w →
  ∃ m' h' φ' w' u, k m' h' = true ∧ Ext h.nx φ φ' ∧ h.nx ≤ h'.nx ∧ HR P w0 φ' h' w' ∧ sS φ' m' u ∧ Steps P (lone fr cs w) (lone { fr with defers := [], mode := u } cs w')
def Au (P : Program) (φ : aK) (m : Machine) (b : Frame) (todo : List Item) (x : AX) (cs : List Frame) (a : Act) (w : World) : Prop := match x with
 | .normal => Steps P m (lone (b.atR a todo) cs w)
 | .exit id => ∃ k1, exitTo id k1 = exitTo id todo ∧ Steps P m (lone (b.atR a (.code (.exit id) :: k1)) cs w)
 | .ret => ∃ k1, Steps P m (lone (b.atR a (.code .ret :: k1)) cs w)
 | .aP v => ∃ k1 v', VR φ v v' ∧ Steps P m (lone { b.atR a k1 with mode := .panicking [{ v := v', recovered := false }] } cs w)
def SX (P : Program) (w0 : World) (φ : aK) (e : Env) (x : AX) (s : St) (b : Frame) (cs0 cs : List Frame) (a : Act) (w : World) : Prop := match x with
 | .aP _ => SQ P w0 φ s b cs0 cs a w
 | _ => SR P w0 φ e s b cs0 cs a w
def iV (P : Program) (w0 : World) (φ : aK) (N : Nat) (e : Env) (b : Frame) (cs0 : List Frame) (m : Machine) (todo : List Item) (k : KS) : Prop :=
 ∃ x s' φ' cy a' w', k x s' = true ∧ Ext N φ φ' ∧ N ≤ s'.h.nx ∧ SX P w0 φ' e x s' b cs0 cy a' w' ∧ Au P φ' m b todo x cy a' w'
def Mk (c : Code) (it : Item) : Prop := it = .code c ∨ ∃ c', c = .loop c' ∧ it = .inLoop c'
def Av (P : Program) (w0 : World) (c : Code) (e : Env) (s : St) (k : KS) : Prop :=
 ∀ (φ : aK) (b : Frame) (cs0 cs : List Frame) (a : Act) (w : World), SR P w0 φ e s b cs0 cs a w → lP φ e b → ∀ it, Mk c it → ∀ todo, iV P w0 φ s.h.nx e b cs0 (lone (b.atR a (it :: todo)) cs w) todo k
def dD (P : Program) (w0 : World) : Task → Prop
 | .code ac e s k => ∀ c, gA P e.nt c = some ac → Av P w0 c e s k
 | .call f args h k => gR P w0 f args h k
 | .xZ f args rc h k => FV P w0 f args rc h k
 | .round l args h k => rk P w0 l args h k
 | .leave ds m h k => mo P w0 ds m h k
theorem Au.of_steps {P : Program} {φ : aK} {m m1 : Machine} {b : Frame} {todo : List Item} {x : AX} {cs : List Frame} {a : Act} {w : World} (h : Steps P m m1) (ha : Au P φ m1 b todo x cs a w) : Au P φ m b todo x cs a w := by
 cases x with
 | normal => exact h.trans ha
 | exit id => obtain ⟨k1, h1, h2⟩ := ha; exact ⟨k1, h1, h.trans h2⟩
 | ret => obtain ⟨k1, h2⟩ := ha; exact ⟨k1, h.trans h2⟩
 | aP v => obtain ⟨k1, v', h1, h2⟩ := ha; exact ⟨k1, v', h1, h.trans h2⟩
theorem iV.of_steps {P : Program} {w0 : World} {φ φ1 : aK} {N N1 : Nat} {e : Env} {b : Frame} {cs0 : List Frame} {m m1 : Machine} {todo : List Item} {k : KS} (hE : Ext N φ φ1) (hN : N ≤ N1) (h : Steps P m m1) (g : iV P w0 φ1 N1 e b cs0 m1 todo k) : iV P w0 φ N e b cs0 m todo k := by
 obtain ⟨x, s', φ', cy, a', w', h1, h2, h3, h4, h5⟩ := g
 exact ⟨x, s', φ', cy, a', w', h1, hE.trans h2 hN, Nat.le_trans hN h3, h4, h5.of_steps h⟩
theorem aeM {P : Program} {w : World} {f : FuncId} (hc : Can P f) (args : Array Value) : (callFunc f args).run P w = .ok (.enter f args) w := by
 obtain ⟨fn, h1, h2, h3⟩ := hc
 have rl : fn.name ≠ "runtime.NumGoroutine" := by simpa using h2
 have Aw : fn.body ≠ none := by intro hn; rw [hn] at h3; cases h3
 simp [callFunc, Sem.run_bind, program, Sem.run, Result.andThen, h1, rl, Aw]
theorem Ax {P : Program} {w : World} {f : FuncId} (hc : Can P f) (bR args : Array Value) : (invoke (.fn (.func f) bR) args).run P w = .ok (.enter f (args ++ bR)) w := aeM hc _
section
variable {P : Program} {w0 w : World} {φ : aK} {e : Env} {s : St} {b : Frame} {cs0 cs : List Frame} {a : Act} {ops : Array Oper} {i : Nat} {o : Oper} {rest : List Nat} {todo : List Item}
def sT (P : Program) (w0 : World) (φ : aK) (s : St) (b : Frame) (cs0 cs : List Frame) (a : Act) (w : World) (ops : Array Oper) (i : Nat) (o : Oper) (rest : List Nat) (todo : List Item) (dst : Option Pos) (fail : KS) (k : St → Bool) : Prop :=
 (∃ v v' s1 φ' w' cy jC, iz dst s1 v s1.h k = true ∧ s1.tm = s.tm ∧ Ext s.h.nx φ φ' ∧ s.h.nx ≤ s1.h.nx ∧ VR φ' v v' ∧ SQ P w0 φ' s1 b cs0 cy { a with defers := jC } w' ∧
  Steps P (lone (b.atR a (.inRegion ops (i :: rest) :: todo)) cs w) (lone (b.atR (({ a with defers := jC } : Act).put o.dst v') (.inRegion ops rest :: todo)) cy w')) ∨
 (∃ v v' s1 φ' w', fail (.aP v) s1 = true ∧ Ext s.h.nx φ φ' ∧ s.h.nx ≤ s1.h.nx ∧ VR φ' v v' ∧ SQ P w0 φ' s1 b cs0 cs a w' ∧
  Steps P (lone (b.atR a (.inRegion ops (i :: rest) :: todo)) cs w) (lone { b.atR a (.inRegion ops (i :: rest) :: todo) with mode := .panicking [{ v := v', recovered := false }] } cs w'))
theorem Ml (dst : Option Pos) (s : St) (v : Value) (h : AH) (k : St → Bool) : iz dst s v h k = iz dst ⟨s.tm, s.df, s.rc, h⟩ v h k := by cases s; rfl
theorem rm (hd : ∀ c, o.op ≠ .defer c) : o.semAt b.roundOf a.eval = execOp a.eval o := Oper.semAt_eq _ _ _ hd
theorem Mm {p : Prim} {xs : List Operand} (hc : lO P o = some (.aQ p, xs)) : ∀ c, o.op ≠ .defer c := by
 intro c aU
 simp only [lO, aU] at hc
 split at hc <;> cases hc
theorem aeN {p : Prim} {xs : List Operand} {dst : Option Pos} {fail : KS} {k : St → Bool} {vs : List Value} {rec : Task → Bool} (ho : ops[i]? = some o) (hw : Region.wanted o (yielded ops a.tmps) = true)
 (hc : lO P o = some (.aQ p, xs)) (hq : SQ P w0 φ s b cs0 cs a w) (hv : LR φ vs (xs.map a.eval)) (h : UP rec dst e s fail k vs p = true) : sT P w0 φ s b cs0 cs a w ops i o rest todo dst fail k := by
 obtain ⟨v', w', v, h', φ', h1, h2, h3, h4, h5, h6⟩ := UE (fun _ => rfl) hc hq.heap hv h
 refine .inl ⟨v, v', ⟨s.tm, s.df, s.rc, h'⟩, φ', w', cs, a.defers, ?_, rfl, h3, h4, h5, ⟨hq.df.ext h3, hq.rc.ext h3, h6⟩, ?_⟩
 · rw [Ml] at h2; exact h2
 · have hs := rm (b := b) (a := a) (Mm hc)
   rcases h1 with h1 | ⟨h1, rfl⟩
   · exact .one (Mj ho hw (by rw [hs]; exact h1))
   · exact .one (UM ho hw (by rw [hs]; exact h1))
theorem UQ {f : FuncId} {args' : Array Value} {as : List Value} {dst : Option Pos} {fail : KS} {k : St → Bool} (ho : ops[i]? = some o) (hw : Region.wanted o (yielded ops a.tmps) = true)
 (hr : (o.semAt b.roundOf a.eval).run P w = .ok (.enter f args') w) (hq : SQ P w0 φ s b cs0 cs a w) (hl : LR φ as args'.toList) (aeO : gR P w0 f as s.h (nQ dst s fail k)) : sT P w0 φ s b cs0 cs a w ops i o rest todo dst fail k := by
 obtain ⟨E, w', fr, ⟨r, h', φ', hk, hE, hN, hH, Ay⟩, Az, jT, AA⟩ := aeO.2 φ args' w hl hq.heap (b.atR a (.inRegion ops (i :: rest) :: todo) :: cs)
 have FW := aeH (k := todo) (rest := rest) (cs := cs) ho hw hr
 cases r with
 | ret v =>
  obtain ⟨v', rfl, ke⟩ := Ay
  refine .inl ⟨v, v', ⟨s.tm, s.df, s.rc, h'⟩, φ', w', cs, a.defers, ?_, rfl, hE, hN, ke, ⟨hq.df.ext hE, hq.rc.ext hE, hH⟩, .head FW (Steps.trans Az (.one ?_))⟩
  · have ef : iz dst s v h' k = true := hk
    rw [Ml] at ef; exact ef
  · have := step_leave_returned (c := b.atR a (.inRegion ops (i :: rest) :: todo)) (cs := cs) AA
    rw [Frame.finish_atR, ho] at this
    exact this
 | aP v =>
  obtain ⟨v', rfl, ke⟩ := Ay
  refine .inr ⟨v, v', ⟨s.tm, s.df, s.rc, h'⟩, φ', w', ?_, hE, hN, ke, ⟨hq.df.ext hE, hq.rc.ext hE, hH⟩, .head FW (Steps.trans Az (.one ?_))⟩
  · cases s; exact hk
  · have := step_leave_panicked (c := b.atR a (.inRegion ops (i :: rest) :: todo)) (cs := cs) AA
    rw [Frame.raise_atR] at this
    exact this
theorem aeP {g : FuncId} {c : Call} {as : List Value} {dst : Option Pos} {fail : KS} {k : St → Bool} {rec : Task → Bool} (cJ : ∀ t, rec t = true → dD P w0 t) (ho : ops[i]? = some o) (hw : Region.wanted o (yielded ops a.tmps) = true)
 (aU : o.op = .call c) (dI : c.callee = .value (.func g)) (hq : SQ P w0 φ s b cs0 cs a w) (hl : LR φ as (c.args.toList.map a.eval)) (h : UR rec dst e s fail k as g = true) : sT P w0 φ s b cs0 cs a w ops i o rest todo dst fail k := by
 have hC := cJ _ h
 have uW : gR P w0 g as s.h (nQ dst s fail k) := hC
 refine UQ (args' := c.args.map a.eval) ho hw ?_ hq (by simpa using hl) uW
 rw [rm (by intro c' h'; rw [aU] at h'; cases h')]
 have he : a.eval (.func g) = .func (.func g) #[] #[] := rfl
 simp [execOp, aU, resolve, dI, he, Deferred.ofValue, Sem.run_bind, Result.andThen, Ax uW.1]
theorem aeQ {P : Program} {w : World} {ρ : Operand → Value} {o : Oper} {c : Call} {f : Operand} {fn : Fn} {first bR : Array Value} (aU : o.op = .call c) (dI : c.callee = .value f) (hf : ρ f = .func fn first bR) :
 (execOp ρ o).run P w = (invoke (.fn fn bR) (first ++ c.args.map ρ)).run P w := by
 simp [execOp, aU, resolve, dI, hf, Deferred.ofValue, Sem.run_bind, Result.andThen]
theorem LR.uX {φ : aK} {l : List Value} (h : LR φ [] l) : l = [] := by cases h; rfl
theorem Mn {v : Value} {kf : Nat → List Value → List Value → Bool} {ky : Nat → Bool} (h : sU v kf ky = true) :
 (∃ g first bR, v = .func (.func g) first bR ∧ kf g first.toList bR.toList = true) ∨ ∃ l, v = .func (.yield l) #[] #[] ∧ ky l = true := by
 unfold sU at h
 split at h
 · exact .inl ⟨_, _, _, rfl, h⟩
 · exact .inr ⟨_, rfl, h⟩
 · cases h
theorem aeR {f : Operand} {c : Call} {as : List Value} {dst : Option Pos} {fail : KS} {k : St → Bool} {rec : Task → Bool} (cJ : ∀ t, rec t = true → dD P w0 t) (ho : ops[i]? = some o) (hw : Region.wanted o (yielded ops a.tmps) = true)
 (aU : o.op = .call c) (dI : c.callee = .value f) (hq : SQ P w0 φ s b cs0 cs a w) (hl : LR φ as ((f :: c.args.toList).map a.eval)) (h : Mo rec dst e s fail k as = true) : sT P w0 φ s b cs0 cs a w ops i o rest todo dst fail k := by
 cases hl with
 | cons fv FX as pS hf hl =>
  have dC : ∀ c', o.op ≠ .defer c' := by intro c' h'; rw [aU] at h'; cases h'
  have h' : sU fv (fun g first bR => iv as bR fun l => iv first l fun l => rec (.call g l s.h (nQ dst s fail k))) (fun l => rec (.round l as s.h (nQ dst s fail k))) = true := h
  rcases Mn h' with ⟨g, first, bR, rfl, h1⟩ | ⟨l, rfl, h1⟩
  · have uW : gR P w0 g (first.toList ++ (as ++ bR.toList)) s.h (nQ dst s fail k) := cJ _ (q8 _ _ (q8 _ _ h1))
    generalize AB : a.eval f = FX at hf
    cases hf with
    | func _ qZ _ jV _ jy jT h2 h3 =>
     cases jT
     refine UQ (args' := (jV ++ c.args.map a.eval) ++ jy) ho hw ?_ hq ?_ uW
     · rw [rm dC]
       simp [execOp, aU, resolve, dI, AB, Deferred.ofValue, Sem.run_bind, Result.andThen, Ax uW.1]
     · have := LR.append (LR.append h3 hl) h2
       simpa using this
  · have uW : rk P w0 l as s.h (nQ dst s fail k) := cJ _ h1
    generalize AB : a.eval f = FX at hf
    cases hf with
    | func _ qZ _ jV _ jy jT h2 h3 =>
     have aeS : jV = #[] := Array.toList_eq_nil_iff.1 (LR.uX h2)
     have aeT : jy = #[] := Array.toList_eq_nil_iff.1 (LR.uX h3)
     subst aeS; subst aeT
     cases jT with
     | yield _ l' hm nR =>
      obtain ⟨f2, tmps, asg, bd, hy, AE⟩ := uW φ (c.args.map a.eval) l' w (by simpa using hl) hm nR hq.heap
      obtain ⟨v, v', h', φ', w', hk, hE, hN, hH, ke, US⟩ := AE (b.atR a (.inRegion ops (i :: rest) :: todo)) cs
      have FW := aeI (b := b) (a := a) (k := todo) (rest := rest) (cs := cs) ho hw (l := l') (f := f2) (tmps := tmps) (as := asg) (bd := bd) (w' := w) (w := w) (by
       rw [rm dC, aeQ aU dI AB]
       simp only [Array.empty_append]
       exact hy)
      refine .inl ⟨v, v', ⟨s.tm, s.df, s.rc, h'⟩, φ', w', cs, a.defers, ?_, rfl, hE, hN, ke, ⟨hq.df.ext hE, hq.rc.ext hE, hH⟩, .head FW ?_⟩
      · have ef : iz dst s v h' k = true := hk
        rw [Ml] at ef; exact ef
      · rw [Frame.finish_atR, ho] at US
        exact US
end
end Go.Ve
namespace Go.Ve
open Go.RowKit
section
variable {P : Program} {w0 w : World} {φ : aK} {e : Env} {s : St} {b : Frame} {cs0 cs : List Frame} {a : Act} {ops : Array Oper} {i : Nat} {o : Oper} {rest : List Nat} {todo : List Item}
theorem aeU {ρ : Operand → Value} {c : Call} (aU : o.op = .call c) (dI : c.callee = .builtin .recover) : (execOp ρ o).run P w = .ok .recover w := by
 simp [execOp, aU, resolve, dI, Sem.run_bind, Result.andThen, invoke, builtin]
theorem aeV {c : Call} {as : List Value} {dst : Option Pos} {fail : KS} {k : St → Bool} (ho : ops[i]? = some o) (hw : Region.wanted o (yielded ops a.tmps) = true)
 (aU : o.op = .call c) (dI : c.callee = .builtin .recover) (hq : SQ P w0 φ s b cs0 cs a w) (he : lP φ e b) (h : AF dst e s k as = true) : sT P w0 φ s b cs0 cs a w ops i o rest todo dst fail k := by
 unfold AF at h
 split at h
 · rename_i rn
   obtain ⟨_, pT⟩ := he
   rw [rn] at pT
   have x7 : b.roundOf = none := pT
   have cg : (o.semAt b.roundOf a.eval).run P w = .ok .recover w := by
    rw [rm (by intro c' h'; rw [aU] at h'; cases h')]; exact aeU aU dI
   have kg := hq.rc
   split at h
   · rename_i v gS
     rw [gS] at kg
     obtain ⟨rfl, hk, c1, AG, v', rfl, hm, hv⟩ := kg
     have ht : tryRecover (b.atR a (.inRegion ops (i :: rest) :: todo)) (c1 :: AG) = some (v', { c1 with mode := .panicking [{ v := v', recovered := true }] } :: AG) := by
      simp [tryRecover, Frame.atR, hk, hm]
     refine .inl ⟨v, v', ⟨s.tm, s.df, .ll, s.h⟩, φ, w, _, a.defers, h, rfl, Ext.refl _ _, Nat.le_refl _, hv, ⟨hq.df, ⟨hk, c1, AG, v', rfl, hm, rfl⟩, hq.heap⟩, .one (UN x7 ho hw cg (.inl ht))⟩
   · rename_i Mq
     have ht : tryRecover (b.atR a (.inRegion ops (i :: rest) :: todo)) cs = none := by
      cases AI : s.rc with
      | can v => exact absurd AI (Mq v)
      | off =>
       rw [AI] at kg
       obtain ⟨rfl, hk | ⟨hk, c1, AG, rfl, hm⟩⟩ := kg
       · simp [tryRecover, Frame.atR, hk]
       · simp [tryRecover, Frame.atR, hk, hm]
      | ll =>
       rw [AI] at kg
       obtain ⟨hk, c1, AG, v', _, _, rfl⟩ := kg
       simp [tryRecover, Frame.atR, hk]
     refine .inl ⟨.nilIface, .nilIface, s, φ, w, cs, a.defers, h, rfl, Ext.refl _ _, Nat.le_refl _, .xJ, ⟨hq.df, hq.rc, hq.heap⟩, .one (UN x7 ho hw cg (.inr ⟨ht, rfl, rfl⟩))⟩
 · cases h
theorem UT {t : TypeId} {v : Value} : (Instr.panic (.iface t v)).run P w = .halt (.panic (.iface t v)) w := by
 simp [Instr.panic, goPanic, Sem.run]
theorem aeW {fail : KS} {as : List Value} (h : FY s fail as = true) : ∃ t x, as = [.iface t x] ∧ fail (.aP (.iface t x)) s = true := by
 obtain ⟨v, rfl, h1⟩ := eJ (show a1 as _ = true from h)
 cases v <;> first | exact ⟨_, _, rfl, h1⟩ | cases h1
theorem UU {x : Operand} {as : List Value} {dst : Option Pos} {fail : KS} {k : St → Bool} (ho : ops[i]? = some o) (hw : Region.wanted o (yielded ops a.tmps) = true)
 (aU : o.op = .panic x ∨ ∃ c, o.op = .call c ∧ c.callee = .builtin .panic ∧ c.args.toList = [x]) (hq : SQ P w0 φ s b cs0 cs a w) (hl : LR φ as ([x].map a.eval)) (h : FY s fail as = true) : sT P w0 φ s b cs0 cs a w ops i o rest todo dst fail k := by
 obtain ⟨t, v, rfl, h1⟩ := aeW h
 obtain ⟨v', gB, hv⟩ := LR.one hl
 have hx : a.eval x = v' := by simpa using gB
 cases hv with
 | iface _ _ u hu =>
  refine .inr ⟨_, _, s, φ, w, h1, Ext.refl _ _, Nat.le_refl _, .iface t v u hu, ⟨hq.df, hq.rc, hq.heap⟩, .one (aeK ho hw ?_)⟩
  rcases aU with aU | ⟨c, aU, dI, jS⟩
  · rw [rm (by intro c' h'; rw [aU] at h'; cases h')]
    simp [execOp, aU, hx, Sem.run_bind, UT, Result.andThen]
  · rw [rm (by intro c' h'; rw [aU] at h'; cases h')]
    have hm : c.args = #[x] := by rw [← jS]
    simp [execOp, aU, resolve, dI, hm, hx, Sem.run_bind, Result.andThen, invoke, builtin, UT]
theorem aeX {f : Operand} {c : Call} {as : List Value} {dst : Option Pos} {fail : KS} {k : St → Bool} (ho : ops[i]? = some o) (hw : Region.wanted o (yielded ops a.tmps) = true)
 (aU : o.op = .defer c) (dI : c.callee = .value f) (hq : SQ P w0 φ s b cs0 cs a w) (he : lP φ e b) (hl : LR φ as ((f :: c.args.toList).map a.eval)) (h : AJ dst e s k as = true) : sT P w0 φ s b cs0 cs a w ops i o rest todo dst fail k := by
 unfold AJ at h
 split at h
 · rename_i fv pS rn
   obtain ⟨_, pT⟩ := he
   rw [rn] at pT
   have x7 : b.roundOf = none := pT
   rcases Mn h with ⟨g, first, bR, rfl, h1⟩ | ⟨l, rfl, h1⟩
   · have h2 := q8 _ _ (q8 _ _ h1)
     cases hl with
     | cons _ FX _ anS hf hl =>
      generalize AB : a.eval f = FX at hf
      cases hf with
      | func _ qZ _ jV _ jy jT h3 h4 =>
       cases jT
       have cg : (o.semAt b.roundOf a.eval).run P w = .ok (.defer { target := .fn (.func g) jy, args := jV ++ c.args.map a.eval }) w := by
        rw [x7, Oper.semAt_none]
        simp [execOp, aU, resolve, dI, AB, Deferred.ofValue, Sem.run_bind, Result.andThen]
       refine .inl ⟨undef, undef, ⟨s.tm, .fn g (first.toList ++ (pS ++ bR.toList)) :: s.df, s.rc, s.h⟩, φ, w, cs, { target := .fn (.func g) jy, args := jV ++ c.args.map a.eval } :: a.defers, h2, rfl, Ext.refl _ _, Nat.le_refl _, VR.undef φ, ⟨?_, hq.rc, hq.heap⟩, .one (aeJ ho hw cg)⟩
       refine .cons _ _ _ _ ⟨jy, _, rfl, ?_⟩ hq.df
       have := LR.append (LR.append h4 hl) h3
       simpa using this
   · cases h1
 · cases h
theorem Mr {x : Operand} {y : ee} {k : Value → Bool} (hc : nS x = some y) (hr : ∀ p, y = .t p → VR φ (s.tm.get p) (a.tmps.getD p.un undef)) (h : rq y s.tm k = true) : ∃ v, VR φ v (a.eval x) ∧ k v = true := by
 cases x with
 | tmp t =>
  cases hc
  have h' : PT.dH (Pos.of t) s.tm k = true := h
  rw [PT.jU] at h'
  have := hr _ rfl
  rw [Pos.lf] at this
  exact ⟨_, this, h'⟩
 | const v =>
  simp only [nS] at hc
  split at hc
  · rename_i fi
    cases hc
    exact ⟨v, oK fi, h⟩
  · cases hc
 | func f => cases hc; exact ⟨_, .func _ _ _ _ _ _ (.func f) .nil .nil, h⟩
 | global g => cases hc
theorem UW : ∀ {xs : List Operand} {ys : List ee} {k : List Value → Bool}, xs.mapM nS = some ys → (∀ p, ee.t p ∈ ys → VR φ (s.tm.get p) (a.tmps.getD p.un undef)) → nT ys s.tm k = true → ∃ vs, LR φ vs (xs.map a.eval) ∧ k vs = true := by
 intro xs
 induction xs with
 | nil => intro ys k hm _ h; simp at hm; subst hm; exact ⟨[], .nil, h⟩
 | cons x xs ih =>
  intro ys k hm hr h
  rw [List.mapM_cons] at hm
  cases hx : nS x with
  | none => simp [hx] at hm
  | some y =>
   cases ki : xs.mapM nS with
   | none => simp [hx, ki] at hm
   | some ys' =>
    simp [hx, ki] at hm
    subst hm
    obtain ⟨v, h1, h2⟩ := Mr (a := a) (s := s) hx (fun p hp => hr p (by simp [hp])) (show rq y s.tm (fun v => nT ys' s.tm fun vs => k (v :: vs)) = true from h)
    obtain ⟨vs, h3, h4⟩ := ih ki (fun p hp => hr p (by simp [hp])) h2
    exact ⟨v :: vs, .cons _ _ _ _ h1 h3, h4⟩
theorem aeY (x y : Bool) : mq x y = (x == y) := by cases x <;> cases y <;> rfl
theorem Ms {g : Nat} {want : Bool} {t : Tmp} {yes no : Bool} (hg : o.guard = some (g, want)) (ht : (ops[g]?).bind (·.dst) = some t) (hr : VR φ (s.tm.get (Pos.of t)) (a.tmps.getD t undef)) (h : nU (some (Pos.of t, want)) s.tm yes no = true) :
 (Region.wanted o (yielded ops a.tmps) = true ∧ yes = true) ∨ (Region.wanted o (yielded ops a.tmps) = false ∧ no = true) := by
 have h' : PT.dH (Pos.of t) s.tm (uY want yes no) = true := h
 rw [PT.jU] at h'
 have hy : yielded ops a.tmps g = (match a.tmps.getD t undef with | .bool c => some c | _ => none) := by
  unfold yielded
  rw [ht]
  simp only [Option.bind_some, Array.getD_eq_getD_getElem?]
  cases hh : a.tmps[t]? with
  | none => rfl
  | some u => cases u <;> rfl
 unfold Region.wanted
 rw [hg]
 simp only [hy]
 generalize a.tmps.getD t undef = u at hr
 generalize s.tm.get (Pos.of t) = u0 at hr h'
 cases hr with
 | bool c =>
  have h2 : (bif mq c want then yes else no) = true := h'
  rw [aeY] at h2
  cases FZ : (c == want) with
  | true => rw [FZ] at h2; left; exact ⟨by simpa using FZ, h2⟩
  | false => rw [FZ] at h2; right; exact ⟨by simpa using FZ, h2⟩
 | _ => right; exact ⟨by simp, h'⟩
theorem x8 {nt : Nat} {ao : bB} (h : nb P nt ops o = some ao) : ∃ act xs args, (lO P o = some (act, xs) ∨ (act = .aQ (.x .bad) ∧ xs = [])) ∧ xs.mapM nS = some args ∧ ao.act = act ∧ ao.args = args ∧
 (o.dst = none ∧ ao.dst = none ∨ ∃ d, o.dst = some d ∧ d < nt ∧ ao.dst = some (Pos.of d)) ∧
 (o.guard = none ∧ ao.guard = none ∨ ∃ g want t, o.guard = some (g, want) ∧ (ops[g]?).bind (·.dst) = some t ∧ ao.guard = some (Pos.of t, want)) := by
 have hX : lO P o = some (AK P o) ∨ ((AK P o).1 = .aQ (.x .bad) ∧ (AK P o).2 = []) := by
  unfold AK
  split
  · rename_i a xs hc
    split
    · exact .inl hc
    · exact .inr ⟨rfl, rfl⟩
  · exact .inr ⟨rfl, rfl⟩
 unfold nb at h
 split at h
 · rename_i act xs uZ
   have hc : lO P o = some (act, xs) ∨ (act = .aQ (.x .bad) ∧ xs = []) := by rw [uZ] at hX; exact hX
   split at h
   · cases h
   · rename_i args ha
     simp only at h
     split at h
     · cases h
     · rename_i dst hd
       have nV : o.dst = none ∧ dst = none ∨ ∃ d, o.dst = some d ∧ d < nt ∧ dst = some (Pos.of d) := by
        cases AL : o.dst with
        | none => rw [AL] at hd; simp at hd; exact .inl ⟨rfl, hd.symm⟩
        | some d =>
         rw [AL] at hd
         simp at hd
         exact .inr ⟨d, rfl, hd.1, hd.2.symm⟩
       split at h
       · rename_i hg
         cases h
         exact ⟨act, xs, args, hc, ha, rfl, rfl, nV, .inl ⟨hg, rfl⟩⟩
       · rename_i g want hg
         split at h
         · rename_i t ht
           cases h
           exact ⟨act, xs, args, hc, ha, rfl, rfl, nV, .inr ⟨g, want, t, hg, ht, rfl⟩⟩
         · cases h
theorem aeZ {act : jc} {xs : List Operand} (hc : lO P o = some (act, xs)) (hn : ∀ p, act ≠ .aQ p) :
 (∃ c, o.op = .call c ∧ ((∃ g, act = .call g ∧ c.callee = .value (.func g) ∧ xs = c.args.toList) ∨ (∃ f, act = .dyn ∧ c.callee = .value f ∧ xs = f :: c.args.toList) ∨
  (act = .recover ∧ c.callee = .builtin .recover ∧ xs = []) ∨ (∃ x, act = .panic ∧ c.callee = .builtin .panic ∧ c.args.toList = [x] ∧ xs = [x]))) ∨
 (∃ x, o.op = .panic x ∧ act = .panic ∧ xs = [x]) ∨ (∃ c f, o.op = .defer c ∧ act = .defer ∧ c.callee = .value f ∧ xs = f :: c.args.toList) := by
 cases aU : o.op <;> simp only [lO, aU] at hc
 case call c =>
  refine .inl ⟨c, rfl, ?_⟩
  cases dI : c.callee with
  | value f =>
   rw [dI] at hc
   cases f with
   | func g' =>
    simp only at hc
    (repeat' split at hc) <;> first
     | (cases hc; done)
     | (cases hc; exact .inl ⟨g', rfl, rfl, rfl⟩)
     | (cases hc; exact absurd rfl (hn _))
   | _ => cases hc; exact .inr (.inl ⟨_, rfl, rfl, rfl⟩)
  | invoke r m => rw [dI] at hc; cases hc
  | builtin bb =>
   rw [dI] at hc
   cases bb <;> simp only at hc <;> (repeat' split at hc) <;> first
    | (cases hc; done)
    | (cases hc; exact absurd rfl (hn _))
    | (cases hc; rename_i hx; exact .inr (.inr (.inl ⟨rfl, rfl, rfl⟩)))
    | (cases hc; rename_i hx; exact .inr (.inr (.inr ⟨_, rfl, rfl, hx, rfl⟩)))
 case panic x => cases hc; exact .inr (.inl ⟨x, rfl, rfl, rfl⟩)
 case defer c =>
  split at hc
  · rename_i f dI
    cases hc
    exact .inr (.inr ⟨c, f, rfl, rfl, dI, rfl⟩)
  · cases hc
 all_goals ((repeat' split at hc) <;> first | (cases hc; done) | (cases hc; exact absurd rfl (hn _)))
theorem UX {ao : bB} {fail : KS} {k : St → Bool} {rec : Task → Bool} {nt : Nat} (cJ : ∀ t, rec t = true → dD P w0 t) (hc : nb P nt ops o = some ao) (ho : ops[i]? = some o) (hq : SQ P w0 φ s b cs0 cs a w) (he : lP φ e b)
 (hr : ∀ p ∈ ao.reads, VR φ (s.tm.get p) (a.tmps.getD p.un undef)) (h : sV rec ao e s fail k = true) : sT P w0 φ s b cs0 cs a w ops i o rest todo ao.dst fail k := by
 obtain ⟨act, xs, args, h1, h2, rfl, rfl, h4, h5⟩ := x8 hc
 have jS : ∀ p, ee.t p ∈ ao.args → VR φ (s.tm.get p) (a.tmps.getD p.un undef) := fun p hp => hr p (by
  unfold bB.reads
  exact List.mem_append_left _ (List.mem_filterMap.2 ⟨.t p, hp, rfl⟩))
 have key : (Region.wanted o (yielded ops a.tmps) = true ∧ nT ao.args s.tm (x9 rec ao.act ao.dst e s fail k) = true) ∨ (Region.wanted o (yielded ops a.tmps) = false ∧ iz ao.dst s undef s.h k = true) := by
  have h' : nU ao.guard s.tm (nT ao.args s.tm (x9 rec ao.act ao.dst e s fail k)) (iz ao.dst s undef s.h k) = true := by cases ao; exact h
  rcases h5 with ⟨g1, g2⟩ | ⟨g, want, t, g1, g2, g3⟩
  · rw [g2] at h'
    exact .inl ⟨by simp [Region.wanted, g1], h'⟩
  · rw [g3] at h'
    refine Ms (φ := φ) g1 g2 ?_ h'
    have := hr (Pos.of t) (by unfold bB.reads; rw [g3]; simp)
    rw [Pos.lf] at this
    exact this
 rcases key with ⟨hw, hk⟩ | ⟨hw, hk⟩
 · obtain ⟨vs, hv, hk⟩ := UW h2 jS hk
   rcases h1 with h1 | ⟨hb, _⟩
   rotate_left
   · rw [hb] at hk; exact Bool.noConfusion (show false = true from hk)
   by_cases hp : ∃ p, ao.act = .aQ p
   · obtain ⟨p, hp⟩ := hp
     rw [hp] at h1 hk
     exact aeN (rec := rec) (e := e) ho hw h1 hq hv hk
   · have hn : ∀ p, ao.act ≠ .aQ p := fun p hp' => hp ⟨p, hp'⟩
     rcases aeZ h1 hn with ⟨c, aU, ⟨g, ha, dI, rfl⟩ | ⟨f, ha, dI, rfl⟩ | ⟨ha, dI, rfl⟩ | ⟨x, ha, dI, hx, rfl⟩⟩ | ⟨x, aU, ha, rfl⟩ | ⟨c, f, aU, ha, dI, rfl⟩
     · rw [ha] at hk; exact aeP (e := e) cJ ho hw aU dI hq hv hk
     · rw [ha] at hk; exact aeR (e := e) cJ ho hw aU dI hq hv hk
     · rw [ha] at hk; exact aeV ho hw aU dI hq he hk
     · rw [ha] at hk; exact UU ho hw (.inr ⟨c, aU, dI, hx⟩) hq hv hk
     · rw [ha] at hk; exact UU ho hw (.inl aU) hq hv hk
     · rw [ha] at hk; exact aeX ho hw aU dI hq he hv hk
 · refine .inl ⟨undef, undef, s, φ, w, cs, a.defers, hk, rfl, Ext.refl _ _, Nat.le_refl _, VR.undef φ, ⟨hq.df, hq.rc, hq.heap⟩, .one ?_⟩
   have := stepR_op_skip (P := P) (b := b) (a := a) (k := todo) (cs := cs) (w := w) (ops := ops) (i := i) (rest := rest) (by simp [ho, hw])
   rw [ho] at this
   exact this
end
end Go.Ve
namespace Go.Ve
open Go.RowKit
section
variable {P : Program} {w0 w : World} {φ : aK} {e : Env} {s : St} {b : Frame} {cs0 cs : List Frame} {a : Act} {ops : Array Oper} {i : Nat} {o : Oper} {rest : List Nat} {todo : List Item}
theorem ae0 {dst : Option Pos} {v : Value} {k : St → Bool} (h : iz dst s v s.h k = true) : (dst = none ∧ k s = true) ∨ ∃ p, dst = some p ∧ k ⟨s.tm.set p v, s.df, s.rc, s.h⟩ = true := by
 cases dst with
 | none => exact .inl ⟨rfl, by cases s; exact h⟩
 | some p =>
  refine .inr ⟨p, rfl, ?_⟩
  have h' : PT.gL p s.tm v (fun Mt => k ⟨Mt, s.df, s.rc, s.h⟩) = true := by cases s; exact h
  rw [PT.lL] at h'
  exact h'
theorem Act.F0 (a : Act) (d : Option Tmp) (v : Value) : (a.put d v).defers = a.defers := by cases d <;> rfl
theorem SQ.defers {a a' : Act} (hq : SQ P w0 φ s b cs0 cs a w) (h : a'.defers = a.defers) : SQ P w0 φ s b cs0 cs a' w := ⟨h ▸ hq.df, hq.rc, hq.heap⟩
inductive ya (P : Program) (nt : Nat) (ops : Array Oper) : List Nat → List bB → Prop where
 | nil : ya P nt ops [] []
 | cons (i : Nat) (o : Oper) (ao : bB) (is : List Nat) (l : List bB) (ho : ops[i]? = some o) (hc : nb P nt ops o = some ao) (hl : ya P nt ops is l) : ya P nt ops (i :: is) (ao :: l)
theorem ae1 {nt : Nat} : ∀ (u9 pre : List Oper) (l : List bB), u9.mapM (nb P nt ops) = some l → ops.toList = pre ++ u9 → ya P nt ops (List.range' pre.length u9.length) l := by
 intro u9
 induction u9 with
 | nil => intro pre l h _; simp at h; subst h; exact .nil
 | cons o u9 ih =>
  intro pre l h hp
  rw [List.mapM_cons] at h
  cases ho : nb P nt ops o with
  | none => simp [ho] at h
  | some ao =>
   cases hs : u9.mapM (nb P nt ops) with
   | none => simp [ho, hs] at h
   | some l' =>
    simp [ho, hs] at h
    subst h
    rw [List.length_cons, List.range'_succ]
    refine .cons _ o _ _ _ ?_ ho ?_
    · rw [← Array.getElem?_toList, hp]; simp
    · have := ih (pre ++ [o]) l' hs (by simp [hp])
      simpa using this
theorem ae2 {nt : Nat} {l : List bB} (h : AM P nt ops = some l) : ya P nt ops (List.range ops.size) l := by
 have := ae1 ops.toList [] l h rfl
 simpa [List.range_eq_range'] using this
theorem ae3 {nt : Nat} {ao : bB} (hc : nb P nt ops o = some ao) {a : Act} {tm : PT} (ht : TR φ tm nt a.tmps) {v v' : Value} (hv : VR φ v v') :
 (ao.dst = none → TR φ tm nt (a.put o.dst v').tmps) ∧ (∀ p, ao.dst = some p → TR φ (tm.set p v) nt (a.put o.dst v').tmps) := by
 obtain ⟨act, xs, args, h1, h2, h3, Aw, h4, h5⟩ := x8 hc
 rcases h4 with ⟨h6, h7⟩ | ⟨d, h6, hd, h7⟩
 · rw [h6, h7]
   refine ⟨fun _ => ht, fun p hp => ?_⟩
   cases hp
 · rw [h6, h7]
   refine ⟨fun hn => (by cases hn), fun p hp => ?_⟩
   cases hp
   have := ht.set (Pos.of d) (by rw [Pos.lf]; exact hd) hv
   rw [Pos.lf] at this
   exact this
theorem ae4 {rec : Task → Bool} (cJ : ∀ t, rec t = true → dD P w0 t) {k : KS} : ∀ {is : List Nat} {l : List bB}, ya P e.nt ops is l → ∀ {φ : aK} {s : St} {cs : List Frame} {a : Act} {w : World}, SR P w0 φ e s b cs0 cs a w → lP φ e b → AN rec l e s k = true →
 iV P w0 φ s.h.nx e b cs0 (lone (b.atR a (.inRegion ops is :: todo)) cs w) todo k := by
 intro is l hR
 induction hR with
 | nil =>
  intro φ s cs a w hs he h
  exact ⟨.normal, s, φ, cs, a, w, h, Ext.refl _ _, Nat.le_refl _, hs, .one stepR_region_end⟩
 | cons i o ao is l ho hc hl ih =>
  intro φ s cs a w hs he h
  have h' : sV rec ao e s k (fun s => AN rec l e s k) = true := h
  rcases UX (rest := is) (todo := todo) cJ hc ho hs.toSQ he (fun p _ => hs.tm.2 p) h' with ⟨v, v', s1, φ', w', cy, jC, h1, h2, h3, h4, h5, h6, h7⟩ | ⟨v, v', s1, φ', w', h1, h3, h4, h5, h6, h7⟩
  · have eg : TR φ' s1.tm e.nt ({ a with defers := jC } : Act).tmps := by rw [h2]; exact hs.tm.ext h3
    obtain ⟨t1, t2⟩ := ae3 hc eg h5
    rcases ae0 h1 with ⟨hd, hk⟩ | ⟨p, hd, hk⟩
    · exact (ih (s := s1) ⟨h6.defers (Act.F0 _ _ _), t1 hd⟩ (he.ext h3) hk).of_steps h3 h4 h7
    · exact (ih (s := ⟨s1.tm.set p v, s1.df, s1.rc, s1.h⟩) ⟨SQ.mk (by rw [Act.F0]; exact h6.df) h6.rc h6.heap, t2 p hd⟩ (he.ext h3) hk).of_steps h3 h4 h7
  · exact ⟨.aP v, s1, φ', cs, a, w', h1, h3, h4, h6, ⟨_, v', h5, h7⟩⟩
end
end Go.Ve
namespace Go.Ve
open Go.RowKit
section
variable {P : Program} {w0 w : World} {φ : aK} {h : AH}
theorem Ext.mono {N M : Nat} {φ φ' : aK} (h : Ext N φ φ') (hM : M ≤ N) : Ext M φ φ' := ⟨h.old, fun f hf => h.out f (Nat.lt_of_lt_of_le hf hM)⟩
theorem HR.new (H : HR P w0 φ h w) {o : AO} {o' : Obj} {d n : Nat} {aW : NT AO} (hs : h.ob.iT h.nx (some o) aW) (ho : OR P φ d n o o') :
 HR P w0 (φ.put h.nx (.live w.heap.size d n)) ⟨h.nx + 1, aW⟩ (w.alloc o') ∧ Ext h.nx φ (φ.put h.nx (.live w.heap.size d n)) :=
 H.newAt (f := h.nx) (h' := ⟨h.nx + 1, aW⟩) (H.fresh _ (Nat.le_refl _)) hs.1 (fun g hg _ => hs.2 g hg) (fun g hg => H.fresh g (by have : h.nx + 1 ≤ g := hg; omega)) (fun g hg => by have h2 : h.nx + 1 ≤ g := hg; show aW.get g = none; rw [hs.2 g (by omega)]; exact H.top g (by omega)) (Nat.lt_succ_self _) h.nx (Nat.le_refl _) ho
theorem HR.loop (H : HR P w0 φ h w) {f : Nat} {l : kH} (hf : φ f ≠ none) (ho : h.ob.get f = some (.loop l)) : ∃ b d n l', φ f = some (.live b d n) ∧ w.heap[b]? = some (.loop l') ∧ pU P φ l l' ∧ w0.heap.size ≤ b := by
 obtain ⟨b, d, n, o', h1, h2, h3, h4⟩ := H.live hf ho
 cases h3 with
 | loop _ _ _ l' hl => exact ⟨b, d, n, l', h1, h2, hl, h4 rfl⟩
theorem ae5 {l : Nat} {r : Loop} (hl : w.heap[l]? = some (.loop r)) (fn : FuncId) (tmps : Array Value) (ps : Array Tmp) (assign body : Code) :
 (Instr.enterLoop fn tmps ps assign body (some l)).run P w = .ok (w.heap.size, []) (w.alloc (.loop { state := .ready, pending := none, fn, tmps, params := ps, assign, body, defers := r.defers })) := by
 unfold Instr.enterLoop
 simp only [Sem.run_bind, run_getLoop hl, run_newObj_alloc, Result.andThen, Sem.run_pure]
variable {e : Env} {s : St} {b : Frame} {cs0 cs : List Frame} {a : Act} {todo : List Item} {k : KS}
theorem iV.bind {N : Nat} {m : Machine} {UY : List Item} {k' : KS} (g : iV P w0 φ N e b cs0 m UY k')
 (h : ∀ x s1 φ1 eD a1 w1, k' x s1 = true → Ext N φ φ1 → N ≤ s1.h.nx → SX P w0 φ1 e x s1 b cs0 eD a1 w1 → Au P φ1 m b UY x eD a1 w1 → iV P w0 φ N e b cs0 m todo k) : iV P w0 φ N e b cs0 m todo k := by
 obtain ⟨x, s1, φ1, eD, a1, w1, h1, h2, h3, h4, h5⟩ := g
 exact h x s1 φ1 eD a1 w1 h1 h2 h3 h4 h5
theorem step_scope {c : Code} : step P (lone (b.atR a (.code (.scope c) :: todo)) cs w) = .next (lone (b.atR a (.code c :: .inScope c :: todo)) cs w) :=
 step_lone_go (by simp [stepG, stepG.exec, Frame.atR])
theorem step_inScope {c : Code} : step P (lone (b.atR a (.inScope c :: todo)) cs w) = .next (lone (b.atR a todo) cs w) :=
 step_lone_go (by simp [stepG, stepG.exec, Frame.atR])
def UZ (P : Program) (w0 : World) : Prop := ∀ (rec : Task → Bool), (∀ t, rec t = true → dD P w0 t) → ∀ (e : Env) (b : Frame) (cs0 : List Frame) (todo : List Item) (k : KS) (id : Nat) (ops : Array Oper) (l : List bB) (dl : List jd),
 AM P e.nt ops = some l → Mu ops l.toArray = some dl → ∀ (φ : aK) (s : St) (cs : List Frame) (a : Act) (w : World), SR P w0 φ e s b cs0 cs a w → lP φ e b → nW rec dl e s k = true →
  iV P w0 φ s.h.nx e b cs0 (lone (b.atR a (.code (.region id ops true) :: todo)) cs w) todo k
theorem U0 {rec : Task → Bool} (cJ : ∀ t, rec t = true → dD P w0 t) {ac : dh} {c2 : Code} {it : Item} {m : Machine} {N : Nat} (hc : gA P e.nt c2 = some ac) (gh : Mk c2 it) (hx : ∀ id, exitTo id (it :: todo) = exitTo id todo) (he : lP φ e b)
 (g : iV P w0 φ N e b cs0 m (it :: todo) (AP rec ac e k)) : iV P w0 φ N e b cs0 m todo k := by
 refine g.bind fun x s1 φ1 eD a1 w1 h1 h2 h3 h4 h5 => ?_
 cases x with
 | normal =>
  have hC : dD P w0 (.code ac e s1 k) := cJ _ h1
  have := hC c2 hc φ1 b cs0 eD a1 w1 h4 (he.ext h2) it gh todo
  exact this.of_steps h2 h3 h5
 | exit id =>
  obtain ⟨k1, h6, h7⟩ := h5
  exact ⟨.exit id, s1, φ1, eD, a1, w1, h1, h2, h3, h4, k1, by rw [h6, hx], h7⟩
 | ret => exact ⟨.ret, s1, φ1, eD, a1, w1, h1, h2, h3, h4, h5⟩
 | aP v => exact ⟨.aP v, s1, φ1, eD, a1, w1, h1, h2, h3, h4, h5⟩
theorem ae6 {id : Nat} {m : Machine} {N : Nat} (g : iV P w0 φ N e b cs0 m (.inBlock id :: todo) (Mv id k)) : iV P w0 φ N e b cs0 m todo k := by
 refine g.bind fun x s1 φ1 eD a1 w1 h1 h2 h3 h4 h5 => ?_
 cases x with
 | normal => exact ⟨.normal, s1, φ1, eD, a1, w1, h1, h2, h3, h4, Steps.trans h5 (.one stepR_inBlock)⟩
 | exit j =>
  obtain ⟨k1, h6, h7⟩ := h5
  have hZ : (bif Nat.beq j id then k .normal s1 else k (.exit j) s1) = true := h1
  cases hj : Nat.beq j id with
  | true =>
   rw [hj] at hZ
   have : j = id := Nat.eq_of_beq_eq_true hj
   subst this
   have h6' : exitTo j k1 = some todo := by rw [h6]; simp [exitTo]
   exact ⟨.normal, s1, φ1, eD, a1, w1, hZ, h2, h3, h4, Steps.trans h7 (.one (stepR_exit h6'))⟩
  | false =>
   rw [hj] at hZ
   have dC : ¬ (id = j) := fun e' => by subst e'; rw [Nat.beq_refl] at hj; cases hj
   refine ⟨.exit j, s1, φ1, eD, a1, w1, hZ, h2, h3, h4, k1, ?_, h7⟩
   rw [h6]; simp [exitTo, dC]
 | ret => exact ⟨.ret, s1, φ1, eD, a1, w1, h1, h2, h3, h4, h5⟩
 | aP v => exact ⟨.aP v, s1, φ1, eD, a1, w1, h1, h2, h3, h4, h5⟩
theorem ae7 {l : Nat} {df : List fa} {pj : Option Code} {h1 : AH} {N : Nat} {m : Machine} (hj : F4 s df k pj h1 = true) (hs : SR P w0 φ e ⟨s.tm, df, s.rc, h1⟩ b cs0 cs a w) (hN : N ≤ h1.nx)
 (iU : Steps P m (lone (b.atR a ((pj.map Item.code).toList ++ todo)) cs w)) : iV P w0 φ N e b cs0 m todo k := by
 unfold F4 at hj
 split at hj
 · exact ⟨.normal, _, φ, cs, a, w, hj, Ext.refl _ _, hN, hs, iU⟩
 · exact ⟨.ret, _, φ, cs, a, w, hj, Ext.refl _ _, hN, hs, todo, iU⟩
 · exact ⟨.exit _, _, φ, cs, a, w, hj, Ext.refl _ _, hN, hs, todo, rfl, iU⟩
 · cases hj
theorem pU.jf {l : kH} {l' : Loop} (r : pU P φ l l') (st : LoopState) (j : Option Code) : pU P φ (l.jf st j) { l' with state := st, pending := j } := by
 cases l
 exact ⟨rfl, rfl, r.fn, r.tm, r.params, r.small, r.assign, r.body, r.defs, r.Mw⟩
theorem HR.Mx (H : HR P w0 φ h w) {f b d n : Nat} {l' : Loop} {aW : NT AO} (hl : φ f = some (.live b d n)) (hw : w.heap[b]? = some (.loop l')) (hb : w0.heap.size ≤ b) {l2 : kH} {AQ : Loop} (hs : h.ob.iT f (some (.loop l2)) aW) (hr : pU P φ l2 AQ) :
 HR P w0 φ ⟨h.nx, aW⟩ (w.putObj b (.loop AQ)) := by
 have bW : b < w.heap.size := (Array.getElem?_eq_some_iff.1 hw).1
 exact H.jf (h' := ⟨h.nx, aW⟩) hl hs rfl (.loop d n _ _ hr) hb (World.putObj_heap_same bW) (fun k hk => World.putObj_heap_other hk) World.putObj_size rfl rfl rfl
theorem U1 {rec : Task → Bool} (cJ : ∀ t, rec t = true → dD P w0 t) {g : Operand} {ps : Array Tmp} {assign body : Code} {x y : dh} {gf : FuncId} {first bR jV jy : Array Value} {h1 : AH} {dl : Nat} {df : List fa} {mark : List Deferred} {w1 : World} {N dl' : Nat}
 (fy : ∀ t ∈ ps.toList, t < e.nt) (hx : gA P e.nt assign = some x) (hy : gA P e.nt body = some y) (hg : a.eval g = .func (.func gf) jV jy) (vd : LR φ first.toList jV.toList) (ve : LR φ bR.toList jy.toList)
 (hb : b.fn = e.fn) (eg : TR φ s.tm e.nt a.tmps) (sW : DL φ df (mark ++ a.defers)) (kg : rj φ s.rc b cs0 cs) (H : HR P w0 φ h1 w1) (sX : φ dl ≠ none) (ae8 : ∀ b d n, φ dl = some (.live b d n) → dl' = b) (hN : N ≤ h1.nx)
 (ae9 : (Instr.enterLoop b.fn a.tmps ps assign body b.roundOf).run P w = .ok (w1.heap.size, mark) (w1.alloc (.loop { state := .ready, pending := none, fn := b.fn, tmps := a.tmps, params := ps, assign, body, defers := dl' })))
 (hk : AR rec e s k (ps.toList.map Pos.of) x y gf first.toList bR.toList h1 dl df = true) :
 iV P w0 φ N e b cs0 (lone (b.atR a (.code (.rangeFunc g ps assign body) :: todo)) cs w) todo k := by
 obtain ⟨aW, cn, My⟩ := sN hk
 have Mz : pU P φ ⟨.ready, none, e.fn, s.tm, ps.toList.map Pos.of, x, y, dl, e.nt⟩ { state := .ready, pending := none, fn := b.fn, tmps := a.tmps, params := ps, assign, body, defers := dl' } :=
  ⟨rfl, rfl, hb, eg, rfl, fy, hx, hy, sX, ae8⟩
 obtain ⟨H1, pV⟩ := H.new cn (.loop 0 0 _ _ Mz)
 have AS := q8 _ _ My
 have hC : gR P w0 gf (first.toList ++ (.func (.yield h1.nx) ⟨[]⟩ ⟨[]⟩ :: bR.toList)) ⟨h1.nx + 1, aW⟩ (MA s df k h1.nx) := cJ _ AS
 have jY : (φ.put h1.nx (.live w1.heap.size 0 0)) h1.nx = some (.live w1.heap.size 0 0) := aK.iw _ _ _
 have jS : LR (φ.put h1.nx (.live w1.heap.size 0 0)) (first.toList ++ (.func (.yield h1.nx) ⟨[]⟩ ⟨[]⟩ :: bR.toList)) ((jV ++ #[Value.func (.yield w1.heap.size) #[] #[]]) ++ jy).toList := by
  have := LR.append (LR.cons _ _ _ _ (VR.func (.yield h1.nx) (.yield w1.heap.size) ⟨[]⟩ #[] ⟨[]⟩ #[] (.yield _ _ (by rw [jY]; simp) (fun b d n hh => by rw [jY] at hh; cases hh; rfl)) .nil .nil) (LR.ext pV ve)) (LR.ext pV vd)
  simpa using this
 have nX := stepR_rangeFunc (P := P) (b := b) (a := a) (k := todo) (cs := cs) (w := w) (g := g) (ps := ps) (assign := assign) (body := body) (d := { target := .fn (.func gf) jy, args := jV ++ #[.func (.yield w1.heap.size) #[] #[]] })
  (f := gf) (args := (jV ++ #[.func (.yield w1.heap.size) #[] #[]]) ++ jy) ae9
  (by
   have F5 : a.eval (.const (.func (.yield w1.heap.size) #[] #[])) = .func (.yield w1.heap.size) #[] #[] := rfl
   simp [resolve, rangeCall, hg, Deferred.ofValue, F5]; rfl) (Ax hC.1 _ _)
 obtain ⟨E, w3, fr, ⟨r, h3, φ3, U2, MB, hN3, H3, Ay⟩, Az, jT, AA⟩ := hC.2 _ _ _ jS H1 (b.atR { a with defers := mark ++ a.defers } (.inRangeFunc w1.heap.size :: todo) :: cs)
 have hE : Ext N φ φ3 := (pV.mono hN).trans MB (Nat.le_trans hN (Nat.le_succ _))
 have U3 : N ≤ h3.nx := by have : h1.nx + 1 ≤ h3.nx := hN3; omega
 have U4 : DL φ3 df ({ a with defers := mark ++ a.defers } : Act).defers := sW.ext hE
 cases r with
 | aP v =>
  obtain ⟨v', rfl, ke⟩ := Ay
  refine ⟨.aP v, ⟨s.tm, df, s.rc, h3⟩, φ3, cs, { a with defers := mark ++ a.defers }, w3, U2, hE, U3, ⟨U4, kg.ext hE, H3⟩, ⟨.inRangeFunc w1.heap.size :: todo, v', ke, .head nX (Steps.trans Az (.one ?_))⟩⟩
  have := step_leave_panicked (c := b.atR { a with defers := mark ++ a.defers } (.inRangeFunc w1.heap.size :: todo)) (cs := cs) AA
  rw [Frame.raise_atR] at this
  exact this
 | ret v =>
  obtain ⟨v', rfl, ke⟩ := Ay
  have oN := step_leave_returned (c := b.atR { a with defers := mark ++ a.defers } (.inRangeFunc w1.heap.size :: todo)) (cs := cs) AA
  rw [finish_atR_inRangeFunc] at oN
  obtain ⟨lp, F6, hk4⟩ := AT U2
  obtain ⟨F7, hk5⟩ := cj hk4
  obtain ⟨MC, afa, hk6⟩ := mY hk5
  have afb : φ3 h1.nx ≠ none := MB.cB (by rw [jY]; simp)
  obtain ⟨b2, d2, n2, F8, U5, MD, F9, hl5⟩ := H3.loop afb F6
  have lQ : b2 = w1.heap.size := by
   have := MB.live (by rw [jY]; simp) U5
   rw [jY] at this; cases this; rfl
  subst lQ
  have afc : F8.state ≠ .busy := by
   rw [F9.state]
   intro hh
   rw [hh] at F7; cases F7
  have Ga := stepR_endRangeFunc (P := P) (b := b) (a := { a with defers := mark ++ a.defers }) (k := todo) (cs := cs) (run_endLoop MD afc)
  have U6 := F9.jf .exhausted lp.dR
  rw [show ({ F8 with state := .exhausted, pending := lp.dR } : Loop) = { F8 with state := .exhausted } from by rw [← F9.dR]] at U6
  have H4 := H3.Mx U5 MD hl5 afa U6
  refine (ae7 (l := 0) (φ := φ3) (a := { a with defers := mark ++ a.defers }) (N := h3.nx) hk6 ⟨⟨U4, kg.ext hE, H4⟩, eg.ext hE⟩ (Nat.le_refl _) (m := lone (b.atR { a with defers := mark ++ a.defers } ((F8.pending.map Item.code).toList ++ todo)) cs _) ?_).of_steps hE U3 (.head nX (Steps.trans Az (.head oN (.one Ga))))
  rw [F9.dR]
  exact Steps.refl _ _
theorem afd {rec : Task → Bool} (cJ : ∀ t, rec t = true → dD P w0 t) {g : Operand} {g' : ee} {ps : Array Tmp} {assign body : Code} {x y : dh}
 (hg : nS g = some g') (fy : ∀ t ∈ ps.toList, t < e.nt) (hx : gA P e.nt assign = some x) (hy : gA P e.nt body = some y) (hs : SR P w0 φ e s b cs0 cs a w) (he : lP φ e b)
 (h : U7 rec e s k g' (ps.toList.map Pos.of) x y = true) : iV P w0 φ s.h.nx e b cs0 (lone (b.atR a (.code (.rangeFunc g ps assign body) :: todo)) cs w) todo k := by
 obtain ⟨v, hv, h1⟩ := Mr (a := a) (s := s) (φ := φ) hg (fun p _ => hs.tm.2 p) h
 rcases Mn h1 with ⟨gf, first, bR, rfl, h2⟩ | ⟨l, rfl, h2⟩
 · generalize U8 : a.eval g = gv at hv
   cases hv with
   | func _ qZ _ jV _ jy jT vd ve =>
    cases jT
    obtain ⟨hb, pT⟩ := he
    cases U9 : e.sR with
    | none =>
     rw [U9] at h2 pT
     have x7 : b.roundOf = none := pT
     obtain ⟨aW, cn, h3⟩ := sN h2
     obtain ⟨H1, pV⟩ := hs.heap.new cn (.defs 0 0 false)
     have jY : (φ.put s.h.nx (.live w.heap.size 0 0)) s.h.nx = some (.live w.heap.size 0 0) := aK.iw _ _ _
     refine (U1 (φ := φ.put s.h.nx (.live w.heap.size 0 0)) (N := s.h.nx + 1) (w := w) (w1 := w.alloc (.deferred (some []))) (mark := [{ target := .collected w.heap.size, args := #[] }]) (dl' := w.heap.size) cJ fy hx hy U8 (LR.ext pV vd) (LR.ext pV ve) hb (hs.tm.ext pV) ?_ (hs.rc.ext pV) H1 (by rw [jY]; simp) (fun b d n hh => by rw [jY] at hh; cases hh; rfl) (Nat.le_refl _) ?_ h3).of_steps pV (Nat.le_succ _) (Steps.refl _ _)
     · exact .cons _ _ _ _ ⟨by rw [jY]; simp, w.heap.size, rfl, fun b d n hh => by rw [jY] at hh; cases hh; rfl⟩ (hs.df.ext pV)
     · rw [x7, run_enterLoop_outer, World.size_alloc]
    | some l =>
     rw [U9] at h2 pT
     obtain ⟨hk, l', gB, hφ, afe⟩ := pT
     obtain ⟨r, yb, h3⟩ := AT h2
     obtain ⟨bl, d, n, r', e1, e2, e3, e4⟩ := hs.heap.loop hφ yb
     have : l' = bl := afe _ _ _ e1
     subst this
     refine U1 (φ := φ) (w := w) (w1 := w) (mark := []) (dl' := r'.defers) cJ fy hx hy U8 vd ve hb hs.tm hs.df hs.rc hs.heap e3.defs (fun b d n hh => e3.Mw b d n hh) (Nat.le_refl _) ?_ h3
     rw [gB, ae5 e2]
 · cases h2
theorem Va (ME : UZ P w0) {rec : Task → Bool} (cJ : ∀ t, rec t = true → dD P w0 t) : ∀ (c : Code) (ac : dh) (e : Env) (s : St) (k : KS), gA P e.nt c = some ac → MG rec ac e s k = true →
 ∀ (φ : aK) (b : Frame) (cs0 cs : List Frame) (a : Act) (w : World), SR P w0 φ e s b cs0 cs a w → lP φ e b → ∀ it, Mk c it → ∀ todo, iV P w0 φ s.h.nx e b cs0 (lone (b.atR a (it :: todo)) cs w) todo k := by
 intro c
 induction c with
 | skip =>
  intro ac e s k hc h φ b cs0 cs a w hs he it gh todo
  rcases gh with rfl | ⟨c', gC, _⟩
  · cases hc; exact ⟨.normal, s, φ, cs, a, w, h, Ext.refl _ _, Nat.le_refl _, hs, .one stepR_skip⟩
  · cases gC
 | label l =>
  intro ac e s k hc h φ b cs0 cs a w hs he it gh todo
  rcases gh with rfl | ⟨c', gC, _⟩
  · cases hc; exact ⟨.normal, s, φ, cs, a, w, h, Ext.refl _ _, Nat.le_refl _, hs, .one stepR_label⟩
  · cases gC
 | region id ops draw =>
  intro ac e s k hc h φ b cs0 cs a w hs he it gh todo
  rcases gh with rfl | ⟨c', gC, _⟩
  · cases draw with
    | false =>
     simp only [gA, Option.map_eq_some_iff] at hc
     obtain ⟨l, hl, rfl⟩ := hc
     exact (ae4 cJ (ae2 hl) hs he h).of_steps (Ext.refl _ _) (Nat.le_refl _) (.one stepR_region)
    | true =>
     simp only [gA] at hc
     split at hc
     · rename_i l hl
       split at hc
       · rename_i dl sX
         cases hc
         exact ME rec cJ e b cs0 todo k id ops l dl hl sX φ s cs a w hs he h
       · cases hc; exact Bool.noConfusion (show false = true from h)
     · cases hc
  · cases gC
 | seq c1 c2 yc Vb =>
  intro ac e s k hc h φ b cs0 cs a w hs he it gh todo
  rcases gh with rfl | ⟨c', gC, _⟩
  · simp only [gA] at hc
    split at hc
    · rename_i x y hx hy
      cases hc
      have hC : dD P w0 (.code x e s (AP rec y e k)) := cJ _ h
      have g := hC c1 hx φ b cs0 cs a w hs he _ (.inl rfl) (.code c2 :: todo)
      exact (U0 cJ hy (.inl rfl) (fun _ => by simp [exitTo]) he g).of_steps (Ext.refl _ _) (Nat.le_refl _) (.one stepR_seq)
    · cases hc
  · cases gC
 | cond c c1 c2 yc Vb =>
  intro ac e s k hc h φ b cs0 cs a w hs he it gh todo
  rcases gh with rfl | ⟨c', gC, _⟩
  · simp only [gA] at hc
    split at hc
    · rename_i c0 x y uZ hx hy
      cases hc
      obtain ⟨v, hv, h1⟩ := Mr (a := a) (s := s) (φ := φ) uZ (fun p _ => hs.tm.2 p) h
      obtain ⟨t, rfl, h2⟩ := AU h1
      have F5 := VR.pO hv
      cases t with
      | true =>
       have hC : dD P w0 (.code x e s k) := cJ _ h2
       exact (hC c1 hx φ b cs0 cs a w hs he _ (.inl rfl) todo).of_steps (Ext.refl _ _) (Nat.le_refl _) (.one (stepR_cond F5))
      | false =>
       have hC : dD P w0 (.code y e s k) := cJ _ h2
       exact (hC c2 hy φ b cs0 cs a w hs he _ (.inl rfl) todo).of_steps (Ext.refl _ _) (Nat.le_refl _) (.one (stepR_cond F5))
    · cases hc
  · cases gC
 | block id c1 yc =>
  intro ac e s k hc h φ b cs0 cs a w hs he it gh todo
  rcases gh with rfl | ⟨c', gC, _⟩
  · simp only [gA, Option.map_eq_some_iff] at hc
    obtain ⟨x, hx, rfl⟩ := hc
    have hC : dD P w0 (.code x e s (Mv id k)) := cJ _ h
    exact (ae6 (hC c1 hx φ b cs0 cs a w hs he _ (.inl rfl) (.inBlock id :: todo))).of_steps (Ext.refl _ _) (Nat.le_refl _) (.one stepR_block)
  · cases gC
 | loop c1 yc =>
  intro ac e s k hc h φ b cs0 cs a w hs he it gh todo
  have uZ := hc
  simp only [gA, Option.map_eq_some_iff] at hc
  obtain ⟨x, hx, rfl⟩ := hc
  have hC : dD P w0 (.code x e s (AP rec (.loop x) e k)) := cJ _ h
  have g := U0 (c2 := .loop c1) cJ uZ (.inr ⟨c1, rfl, rfl⟩) (fun _ => by simp [exitTo]) he (hC c1 hx φ b cs0 cs a w hs he _ (.inl rfl) (.inLoop c1 :: todo))
  rcases gh with rfl | ⟨c', gC, rfl⟩
  · exact g.of_steps (Ext.refl _ _) (Nat.le_refl _) (.one stepR_loop)
  · cases gC
    exact g.of_steps (Ext.refl _ _) (Nat.le_refl _) (.one stepR_inLoop)
 | scope c1 yc =>
  intro ac e s k hc h φ b cs0 cs a w hs he it gh todo
  rcases gh with rfl | ⟨c', gC, _⟩
  · have g := yc ac e s k (by simpa only [gA] using hc) h φ b cs0 cs a w hs he _ (.inl rfl) (.inScope c1 :: todo)
    refine iV.of_steps (Ext.refl _ _) (Nat.le_refl _) (.one step_scope) (g.bind fun x s1 φ1 eD a1 w1 h1 h2 h3 h4 h5 => ?_)
    cases x with
    | normal => exact ⟨.normal, s1, φ1, eD, a1, w1, h1, h2, h3, h4, Steps.trans h5 (.one step_inScope)⟩
    | exit id => obtain ⟨k1, h6, h7⟩ := h5; exact ⟨.exit id, s1, φ1, eD, a1, w1, h1, h2, h3, h4, k1, by rw [h6]; simp [exitTo], h7⟩
    | ret => exact ⟨.ret, s1, φ1, eD, a1, w1, h1, h2, h3, h4, h5⟩
    | aP v => exact ⟨.aP v, s1, φ1, eD, a1, w1, h1, h2, h3, h4, h5⟩
  · cases gC
 | rangeFunc g ps c1 c2 yc Vb =>
  intro ac e s k hc h φ b cs0 cs a w hs he it gh todo
  rcases gh with rfl | ⟨c', gC, _⟩
  · simp only [gA] at hc
    split at hc
    · rename_i g' x y hg hx hy
      split at hc
      · rename_i fy
        cases hc
        exact afd cJ hg (fun t ht => by simpa using List.all_eq_true.1 fy t ht) hx hy hs he h
      · cases hc
    · cases hc
  · cases gC
 | exit id =>
  intro ac e s k hc h φ b cs0 cs a w hs he it gh todo
  rcases gh with rfl | ⟨c', gC, _⟩
  · cases hc; exact ⟨.exit id, s, φ, cs, a, w, h, Ext.refl _ _, Nat.le_refl _, hs, todo, rfl, Steps.refl _ _⟩
  · cases gC
 | ret =>
  intro ac e s k hc h φ b cs0 cs a w hs he it gh todo
  rcases gh with rfl | ⟨c', gC, _⟩
  · cases hc; exact ⟨.ret, s, φ, cs, a, w, h, Ext.refl _ _, Nat.le_refl _, hs, todo, Steps.refl _ _⟩
  · cases gC
 | goto l => intro ac e s k hc h; cases hc; exact Bool.noConfusion (show false = true from h)
 | refuse why => intro ac e s k hc h; cases hc; exact Bool.noConfusion (show false = true from h)
end
end Go.Ve
namespace Go.Ve
open Go.RowKit
section
variable {P : Program} {w0 w : World} {φ : aK} {h : AH}
theorem MH {f : FuncId} {af : ia} (h : bT P f = some af) : ∃ fn c, P.funcs[f]? = some fn ∧ Can P f ∧ fn.body = some c ∧ fn.results.toList.mapM (pW P) = some af.results ∧ gA P fn.ntmps c = some af.code ∧ af.ntmps = fn.ntmps := by
 unfold bT at h
 split at h
 · cases h
 · rename_i fn hf
   split at h
   · cases h
   · rename_i hn
     split at h
     · cases h
     · rename_i c hb
       split at h
       · rename_i rs ac hr hc
         cases h
         exact ⟨fn, c, hf, ⟨fn, hf, by simpa using hn, by simp [hb]⟩, hb, hr, hc, rfl⟩
       · cases h
theorem Vc : ∀ (vs : List Value) {i : Nat} {t : PT} {k : PT → Bool}, ru i vs t k = true → ∃ t', k t' = true ∧ ∀ p : Pos, t'.get p = if i ≤ p.un ∧ p.un < i + vs.length then vs.getD (p.un - i) undef else t.get p := by
 intro vs
 induction vs with
 | nil => intro i t k h; exact ⟨t, h, fun p => by rw [if_neg (by simp)]⟩
 | cons v vs ih =>
  intro i t k h
  have h' : PT.gL (Pos.of i) t v (fun t => ru (i + 1) vs t k) = true := h
  rw [PT.lL] at h'
  obtain ⟨t', h1, h2⟩ := ih h'
  refine ⟨t', h1, fun p => ?_⟩
  rw [h2, PT.dc]
  by_cases h3 : p.un = i
  · have hp : p = Pos.of i := Pos.sH (by rw [Pos.lf]; exact h3)
    rw [if_neg (by omega), if_pos hp, if_pos (by simp; omega)]
    simp [h3]
  · have hp : ¬ p = Pos.of i := fun e => h3 (by rw [e, Pos.lf])
    by_cases h4 : i + 1 ≤ p.un ∧ p.un < i + 1 + vs.length
    · rw [if_pos h4, if_pos (by simp; omega)]
      have : p.un - i = (p.un - (i + 1)) + 1 := by omega
      rw [this]; simp
    · rw [if_neg h4, if_neg hp, if_neg (by simp; omega)]
theorem Vd {args : List Value} {args' : Array Value} {t : PT} {n : Nat} (hl : LR φ args args'.toList) (ht : ∀ p : Pos, t.get p = if 0 ≤ p.un ∧ p.un < 0 + args.length then args.getD (p.un - 0) undef else PT.e.get p) :
 TR φ t n (args' ++ Array.replicate (n - args'.size) undef) := by
 have hlen : args.length = args'.size := by rw [hl.length]; simp
 refine ⟨by simp; omega, fun p => ?_⟩
 rw [ht p]
 by_cases h : p.un < args.length
 · rw [if_pos (by omega)]
   have h1 : args[p.un]? = some args[p.un] := by simp [h]
   obtain ⟨v', h2, h3⟩ := hl.get _ _ h1
   have h4 : (args' ++ Array.replicate (n - args'.size) undef).getD p.un undef = v' := by
    rw [Array.getD_eq_getD_getElem?, Array.getElem?_append_left (by omega)]
    rw [← Array.getElem?_toList, h2]; rfl
   rw [h4]
   have h5 : args.getD (p.un - 0) undef = args[p.un] := by simp [h]
   rw [h5]; exact h3
 · rw [if_neg (by omega), PT.T4]
   have h4 : (args' ++ Array.replicate (n - args'.size) undef).getD p.un undef = undef := by
    rw [Array.getD_eq_getD_getElem?, Array.getElem?_append_right (by omega)]
    by_cases h6 : p.un - args'.size < n - args'.size
    · simp [Array.getElem?_replicate, h6]
    · rw [Array.getElem?_eq_none (by simp; omega)]; rfl
   rw [h4]; exact VR.undef φ
theorem aff {t : TypeId} {d : TypeDesc} {n : Nat} {x : Value} {a : Addr} (hu : P.underlying t = some d) (hd : lR d = true) (hz : eE P t = some n) (H : HR P w0 φ h w) (hv : VR φ x (.pointer (some a))) {k : List Value → Bool}
 (e : iK x (fun b o => ln h b o n k) = true) : ∃ l l', (loadVar t a).run P w = .ok (.agg l') w ∧ LR φ l l'.toList ∧ k l = true := by
 obtain ⟨i, hi, rfl⟩ := lk hz
 obtain ⟨a0, ar, e'⟩ := lj e; clear e; subst ar; have e := e'; clear e'
 obtain ⟨a', ha, hs, cN⟩ := hv.jW
 cases ha
 obtain ⟨lo, Gb, ty, rw, c, l, h1, h2, h3, h4, h5, h6⟩ := sM e
 obtain ⟨l', hl, cg⟩ := H.cells hs cN h1 h2 (by omega) h5
 refine ⟨l, l'.toArray, ?_, by simpa using hl, h6⟩
 rw [h4] at cg
 simp [loadVar, rv hu, hd, je hi, cg w rfl]
theorem afg {t : TypeId} {d : TypeDesc} {x : Value} {a : Addr} (hu : P.underlying t = some d) (hd : lR d = false) (H : HR P w0 φ h w) (hv : VR φ x (.pointer (some a))) {k : Value → Bool}
 (e : iK x (fun b o => pX h b o k) = true) : ∃ v v', (loadVar t a).run P w = .ok v' w ∧ VR φ v v' ∧ k v = true := by
 obtain ⟨a0, ar, e'⟩ := lj e; clear e; subst ar; have e := e'; clear e'
 obtain ⟨a', ha, hs, cN⟩ := hv.jW
 cases ha
 obtain ⟨lo, hi, ty, rw, c, v, h1, h2, h3, h4, h5⟩ := Gc e
 obtain ⟨v', hc, AV⟩ := H.cell hs cN h1 (j := 0) (by omega) (by omega) (by simpa using h4)
 refine ⟨v, v', ?_, AV, h5⟩
 have : a.add 0 = a := rfl
 rw [this] at hc
 simp [loadVar, rv hu, hd, hc]
def yd (tmps : Array Value) : ResultVar → Sem Value
 | .tmp t => pure (tmps.getD t undef)
 | .cell a t => do loadVar t (← asAddr (tmps.getD a undef))
theorem afh (fn : Func) (tmps : Array Value) : results fn tmps = (do let vs ← fn.results.mapM (yd tmps); pure (if h : vs.size = 1 then vs[0] else .tuple vs)) := by
 unfold results
 congr 1
theorem afi {tmps : Array Value} {tm : PT} {n : Nat} (ht : TR φ tm n tmps) (H : HR P w0 φ h w) : ∀ {rs : List ResultVar} {as : List lg} {k : List Value → Bool}, rs.mapM (pW P) = some as → kM as tm h k = true →
 ∃ vs iy, (rs.mapM (yd tmps)).run P w = .ok iy w ∧ LR φ vs iy ∧ k vs = true := by
 intro rs
 induction rs with
 | nil => intro as k hm h; simp at hm; subst hm; exact ⟨[], [], by simp [Sem.run], .nil, h⟩
 | cons r rs ih =>
  intro as k hm hk
  rw [List.mapM_cons] at hm
  cases hr : pW P r with
  | none => simp [hr] at hm
  | some a =>
   cases ye : rs.mapM (pW P) with
   | none => simp [hr, ye] at hm
   | some pS =>
    simp [hr, ye] at hm
    subst hm
    have key : ∃ v v' , (yd tmps r).run P w = .ok v' w ∧ VR φ v v' ∧ kM pS tm h (fun vs => k (v :: vs)) = true := by
     cases r with
     | tmp t =>
      cases hr
      have ef : PT.dH (Pos.of t) tm (fun v => kM pS tm h fun vs => k (v :: vs)) = true := hk
      rw [PT.jU] at ef
      have := ht.2 (Pos.of t)
      rw [Pos.lf] at this
      exact ⟨_, _, by simp [yd, Sem.run], this, ef⟩
     | cell ad t =>
      simp only [pW] at hr
      split at hr
      · rename_i d s hu hs
        have hv := ht.2 (Pos.of ad)
        rw [Pos.lf] at hv
        split at hr
        · rename_i hd
          cases hr
          have ef : PT.dH (Pos.of ad) tm (fun v => iK v fun b o => ln h b o s fun l => kM pS tm h fun vs => k (.agg ⟨l⟩ :: vs)) = true := hk
          rw [PT.jU] at ef
          obtain ⟨a0, hp, _⟩ := lj ef
          have mZ := hv
          rw [hp] at mZ
          obtain ⟨a', ha, _⟩ := mZ.jW
          rw [ha] at hv
          obtain ⟨l, l', h1, h2, h3⟩ := aff hu hd hs H hv ef
          exact ⟨.agg ⟨l⟩, .agg l', by simp [yd, ha, asAddr, Sem.run_bind, Result.andThen, h1], .agg _ _ h2, h3⟩
        · rename_i hd
          cases hr
          have ef : PT.dH (Pos.of ad) tm (fun v => iK v fun b o => pX h b o fun x => kM pS tm h fun vs => k (x :: vs)) = true := hk
          rw [PT.jU] at ef
          obtain ⟨a0, hp, _⟩ := lj ef
          have mZ := hv
          rw [hp] at mZ
          obtain ⟨a', ha, _⟩ := mZ.jW
          rw [ha] at hv
          obtain ⟨v, v', h1, h2, h3⟩ := afg hu (by simpa using hd) H hv ef
          exact ⟨v, v', by simp [yd, ha, asAddr, Sem.run_bind, Result.andThen, h1], h2, h3⟩
      · cases hr
    obtain ⟨v, v', h1, h2, h3⟩ := key
    obtain ⟨vs, iy, h4, h5, h6⟩ := ih ye h3
    refine ⟨v :: vs, v' :: iy, ?_, .cons _ _ _ _ h2 h5, h6⟩
    rw [List.mapM_cons]
    simp [Sem.run_bind, h1, h4, Result.andThen, Sem.run]
theorem afj {vs : List Value} {k : Value → Bool} (h : AW vs k = true) : ∃ v, (vs = [v] ∨ ((∀ x, vs ≠ [x]) ∧ v = .tuple ⟨vs⟩)) ∧ k v = true := by
 match vs with
 | [] => exact ⟨_, .inr ⟨fun x hx => (by cases hx), rfl⟩, h⟩
 | [v] => exact ⟨v, .inl rfl, h⟩
 | a :: b :: l => exact ⟨_, .inr ⟨fun x hx => (by cases hx), rfl⟩, h⟩
theorem Vf {fn : Func} {tmps : Array Value} {tm : PT} {n : Nat} {as : List lg} {k : Value → Bool} (ht : TR φ tm n tmps) (H : HR P w0 φ h w) (hm : fn.results.toList.mapM (pW P) = some as) (hk : kM as tm h (fun vs => AW vs k) = true) :
 ∃ v v', (results fn tmps).run P w = .ok v' w ∧ VR φ v v' ∧ k v = true := by
 obtain ⟨vs, iy, h1, h2, h3⟩ := afi ht H hm hk
 obtain ⟨v, h4, h5⟩ := afj h3
 rw [afh, Array.mapM_eq_mapM_toList]
 refine ⟨v, if h : iy.toArray.size = 1 then iy.toArray[0] else .tuple iy.toArray, ?_, ?_, h5⟩
 · simp only [Sem.run_bind, map_eq_pure_bind, h1, Result.andThen, Sem.run_pure]
 · rcases h4 with rfl | ⟨dC, rfl⟩
   · obtain ⟨x', hx, hv⟩ := LR.one h2
     subst hx
     simpa using hv
   · have hl := h2.length
     rw [dif_neg]
     · exact .gg _ _ h2
     · intro eU
       simp at eU
       rw [← hl] at eU
       obtain ⟨x, hx⟩ := List.length_eq_one_iff.1 eU
       exact dC x hx
theorem sS.MI {m : Option Value} {u : FrameMode} (h : sS φ m u) : u ≠ .run := by
 cases m with
 | none => intro e; rw [show u = .returning from h] at e; cases e
 | some v => obtain ⟨v', rfl, _⟩ := h; intro e; cases e
theorem DL.cons_inv {d : fa} {l : List fa} {l' : List Deferred} (h : DL φ (d :: l) l') : ∃ d' m, l' = d' :: m ∧ DR φ d d' ∧ DL φ l m := by
 cases h with | cons _ d' _ m h1 h2 => exact ⟨d', m, rfl, h1, h2⟩
theorem DL.uX {l' : List Deferred} (h : DL φ [] l') : l' = [] := by cases h; rfl
theorem MJ {rec : Task → Bool} (cJ : ∀ t, rec t = true → dD P w0 t) {ds : List fa} {m : Option Value} {k : Option Value → AH → Bool} (e : MK rec ds m h k = true) : mo P w0 ds m h k := by
 intro φ fr cs w hd hm H
 cases ds with
 | nil =>
  have h0 := hd.uX
  refine ⟨m, h, φ, w, fr.mode, e, Ext.refl _ _, Nat.le_refl _, H, hm, ?_⟩
  have : ({ fr with defers := [], mode := fr.mode } : Frame) = fr := by rw [← h0]
  rw [this]
  exact Steps.refl _ _
 | cons d ds =>
  obtain ⟨d', jC, ML, Vg, uM⟩ := hd.cons_inv
  cases d with
  | oH r =>
   obtain ⟨t, h1, e1⟩ := afk (show yf h r _ = true from e)
   obtain ⟨ht, e2⟩ := cj e1
   cases t with
   | true => cases ht
   | false =>
    obtain ⟨aW, cn, e3⟩ := mY e2
    obtain ⟨yb, r', rfl, hr2⟩ := Vg
    obtain ⟨b, dd, n, o', q1, q2, q3, q4⟩ := H.live yb h1
    have hb := hr2 _ _ _ q1
    subst hb
    cases q3 with
    | defs _ _ _ =>
     have bW : r' < w.heap.size := (Array.getElem?_eq_some_iff.1 q2).1
     have H2 : HR P w0 φ ⟨h.nx, aW⟩ (w.putObj r' (.deferred none)) :=
      H.jf (h' := ⟨h.nx, aW⟩) q1 cn rfl (.defs dd n true) (q4 rfl) (World.putObj_heap_same bW) (fun k hk => World.putObj_heap_other hk) World.putObj_size rfl rfl rfl
     have nX := step_collected (P := P) (fr := fr) (cs := cs) (sS.MI hm) ML rfl (run_takeDeferred q2)
     have hL : mo P w0 ds m ⟨h.nx, aW⟩ k := cJ _ e3
     obtain ⟨m', h', φ', w', u, a1, a2, a3, a4, a5, a6⟩ := hL φ { fr with defers := [] ++ jC } cs _ uM hm H2
     exact ⟨m', h', φ', w', u, a1, a2, a3, a4, a5, .head nX a6⟩
  | fn f args =>
   obtain ⟨bR, args', rfl, hl⟩ := Vg
   cases m with
   | none =>
    have e1 : rec (.xZ f args .off h fun _ h => rec (.leave ds none h k)) = true := e
    have hD : FV P w0 f args .off h (fun _ h => rec (.leave ds none h k)) := cJ _ e1
    have MM : fr.mode = .returning := hm
    have nX := step_defer (P := P) (w := w) (fr := fr) (cs := cs) (sS.MI hm) ML rfl (Ax hD.1 _ _)
    obtain ⟨xY, h', φ', w', c', oO, v, a1, a2, a3, a4, a5, a6, a7, a8⟩ := hD.2 φ _ w { fr with defers := jC } cs hl H MM
    have gC : c' = { fr with defers := jC } := by
     cases xY with
     | off => exact a5.1
     | can v => exact a5.1
     | ll => obtain ⟨v', ke, _⟩ := a5; rw [show ({ fr with defers := jC } : Frame).mode = .returning from MM] at ke; cases ke
    subst gC
    have oN := step_going_returned (P := P) (c := { fr with defers := jC }) (cs := cs) a7 a8
    have cn : settle ({ fr with defers := jC } : Frame).mode = .returning := by rw [show ({ fr with defers := jC } : Frame).mode = .returning from MM]; rfl
    rw [cn] at oN
    have hL : mo P w0 ds none h' k := cJ _ a1
    obtain ⟨m', h2, φ2, w2, u, b1, b2, b3, b4, b5, b6⟩ := hL φ' ({ fr with defers := jC, mode := .returning } : Frame) cs w' (uM.ext a2) rfl a4
    exact ⟨m', h2, φ2, w2, u, b1, a2.trans b2 a3, Nat.le_trans a3 b3, b4, b5, .head nX (Steps.trans a6 (.head oN b6))⟩
   | some v =>
    have e1 : rec (.xZ f args (.can v) h (MN rec ds k)) = true := e
    have hD : FV P w0 f args (.can v) h (MN rec ds k) := cJ _ e1
    have nX := step_defer (P := P) (w := w) (fr := fr) (cs := cs) (sS.MI hm) ML rfl (Ax hD.1 _ _)
    obtain ⟨xY, h', φ', w', c', oO, v2, a1, a2, a3, a4, a5, a6, a7, a8⟩ := hD.2 φ _ w { fr with defers := jC } cs hl H hm
    have oN := step_going_returned (P := P) (c := c') (cs := cs) a7 a8
    cases xY with
    | off => cases a1
    | can v3 =>
     obtain ⟨rfl, v', q1, q2⟩ := a5
     have cn : settle ({ fr with defers := jC } : Frame).mode = .panicking [{ v := v', recovered := false }] := by rw [q1]; rfl
     rw [cn] at oN
     have hL : mo P w0 ds (some v3) h' k := cJ _ a1
     obtain ⟨m', h2, φ2, w2, u, b1, b2, b3, b4, b5, b6⟩ := hL φ' ({ fr with defers := jC, mode := .panicking [{ v := v', recovered := false }] } : Frame) cs w' (uM.ext a2) ⟨v', rfl, q2⟩ a4
     exact ⟨m', h2, φ2, w2, u, b1, a2.trans b2 a3, Nat.le_trans a3 b3, b4, b5, .head nX (Steps.trans a6 (.head oN b6))⟩
    | ll =>
     obtain ⟨v', q1, rfl⟩ := a5
     have hL : mo P w0 ds none h' k := cJ _ a1
     obtain ⟨m', h2, φ2, w2, u, b1, b2, b3, b4, b5, b6⟩ := hL φ' ({ fr with defers := jC, mode := .returning } : Frame) cs w' (uM.ext a2) rfl a4
     exact ⟨m', h2, φ2, w2, u, b1, a2.trans b2 a3, Nat.le_trans a3 b3, b4, b5, .head nX (Steps.trans a6 (.head oN b6))⟩
def lq (f : FuncId) (kind : CallKind) : Frame := { (default : Frame) with fn := f, kind, roundOf := none }
theorem Vh {f : FuncId} {fn : Func} {c : Code} (hf : P.funcs[f]? = some fn) (hb : fn.body = some c) (args : Array Value) (kind : CallKind) :
 Frame.enter P f args kind = (lq f kind).atR { tmps := args ++ Array.replicate (fn.ntmps - args.size) undef, defers := [] } [.code c] := by
 simp [Frame.enter, Frame.atR, hf, hb, lq]
variable {prog : NT ia}
theorem rj.normal {rc : Rc} {b : Frame} {cs0 cs : List Frame} (h : rj φ rc b cs0 cs) (hb : b.kind = .normal) : cs = cs0 := by
 cases rc with
 | off => exact h.1
 | can v => exact h.1
 | ll => have h1 := h.1; rw [hb] at h1; cases h1
theorem MO {N : Nat} {f : FuncId} {fn : Func} {k : CR → AH → Bool} {fr : Frame} {cs : List Frame} {ds : List fa} {m : Option Value} {kl : Option Value → AH → Bool} {m0 : Machine}
 (hL : mo P w0 ds m h kl) (hd : DL φ ds fr.defers) (hm : sS φ m fr.mode) (H : HR P w0 φ h w) (jT : fr.fn = f) (hf : P.funcs[f]? = some fn) (afl : fr.kind = .normal) (iU : Steps P m0 (lone fr cs w)) (hN : N ≤ h.nx)
 (MP : ∀ m' h', kl m' h' = true → (∃ v, m' = some v ∧ k (.aP v) h' = true) ∨ (m' = none ∧ (∀ φ' w', Ext h.nx φ φ' → HR P w0 φ' h' w' → ∃ v v', (Go.results fn fr.tmps).run P w' = .ok v' w' ∧ VR φ' v v' ∧ k (.ret v) h' = true))) :
 ∃ E w' oO, (∃ r h' φ', k r h' = true ∧ Ext N φ φ' ∧ N ≤ h'.nx ∧ HR P w0 φ' h' w' ∧ As φ' r E) ∧ Comes P m0 (lone oO cs w') E ∧ oO.fn = f ∧ oO.leaving P w' E := by
 obtain ⟨m', h', φ', w', u, a1, a2, a3, a4, a5, a6⟩ := hL φ fr cs w hd hm H
 rcases MP m' h' a1 with ⟨v, rfl, hk⟩ | ⟨rfl, hk⟩
 · obtain ⟨v', rfl, hv⟩ := a5
   exact ⟨.panicked [{ v := v', recovered := false }], w', { fr with defers := [], mode := .panicking [{ v := v', recovered := false }] }, ⟨.aP v, h', φ', hk, a2.mono hN, Nat.le_trans hN a3, a4, v', rfl, hv⟩, Steps.trans iU a6, jT, rfl, rfl, fn, by rw [← hf, ← jT]⟩
 · have hu : u = .returning := a5
   subst hu
   obtain ⟨v, v', b1, b2, b3⟩ := hk φ' w' a2 a4
   exact ⟨.returned v', w', { fr with defers := [], mode := .returning }, ⟨.ret v, h', φ', b3, a2.mono hN, Nat.le_trans hN a3, a4, v', rfl, b2⟩, Steps.trans iU a6, jT, rfl, rfl, afl, fn, by rw [← hf, ← jT], b1⟩
theorem results_none {fn : Func} (hm : fn.results.toList.mapM (pW P) = some []) (tmps : Array Value) (w : World) : (results fn tmps).run P w = .ok (.tuple #[]) w := by
 have : fn.results = #[] := by
  cases hl : fn.results.toList with
  | nil => exact Array.toList_eq_nil_iff.1 hl
  | cons r rs =>
   rw [hl, List.mapM_cons] at hm
   cases hr : pW P r with
   | none => simp [hr] at hm
   | some a =>
    cases ye : rs.mapM (pW P) with
    | none => simp [hr, ye] at hm
    | some pS => simp [hr, ye] at hm
 simp [results, this, Sem.run_bind, Result.andThen]
theorem HR.forget (H : HR P w0 φ h w) {f : Nat} (hf : φ f = none) {h' : AH} (cn : h.ob.iT f none h'.ob) (jh : h'.nx = h.nx) : HR P w0 φ h' w := by
 refine ⟨H.inj, by rw [jh]; exact H.fresh, fun g hg => ?_, fun g hg => ?_, fun g b d n hg => ?_, H.below⟩
 · rw [jh] at hg
   by_cases dE : g = f
   · subst dE; exact cn.1
   · rw [cn.2 g dE]; exact H.top g hg
 · have dE : g ≠ f := fun e => by subst e; rw [hf] at hg; cases hg
   rw [cn.2 g dE]; exact H.dead g hg
 · have dE : g ≠ f := fun e => by subst e; rw [hf] at hg; cases hg
   obtain ⟨o1, o2, a1, a2⟩ := H.obj g b d n hg
   exact ⟨o1, o2, by rw [cn.2 g dE]; exact a1, a2⟩
theorem Gd {cB : List Nat} : ∀ (n : Nat) {b : Nat} {φ : aK} {h : AH} {k : AH → Bool}, HR P w0 φ h w → Ge cB n b h k = true → ∃ φ' h', k h' = true ∧ HR P w0 φ' h' w ∧ h'.nx = h.nx ∧ ∀ N, Ext N φ φ'
 | 0, b, φ, h, k, H, e => ⟨φ, h, e, H, rfl, fun N => Ext.refl N φ⟩
 | n + 1, b, φ, h, k, H, e => by
  have e1 : fN (Nat.succ b) (fun b' => bif pY cB b then Ge cB n b' h k else gz h b none fun h => Ge cB n b' h k) = true := e
  rw [ch] at e1
  cases hm : pY cB b with
  | true => rw [hm, cond_true] at e1; exact Gd n H e1
  | false =>
   rw [hm, cond_false] at e1
   obtain ⟨aW, h1, h2⟩ := mY e1
   by_cases hb : φ b = none
   · obtain ⟨φ', h', a1, a2, a3, a4⟩ := Gd n (H.forget (h' := ⟨h.nx, aW⟩) hb h1 rfl) h2
     exact ⟨φ', h', a1, a2, a3, a4⟩
   · obtain ⟨φ', h', a1, a2, a3, a4⟩ := Gd n (H.kill (h' := ⟨h.nx, aW⟩) hb h1 rfl) h2
     exact ⟨φ', h', a1, a2, a3, fun N => (aK.Gf φ N b hb).trans (a4 N) (Nat.le_refl _)⟩
theorem As.ext {N : Nat} {φ φ' : aK} (hE : Ext N φ φ') {r : CR} {E : _} (h : As φ r E) : As φ' r E := by
 cases r with
 | ret v => obtain ⟨v', h1, h2⟩ := h; exact ⟨v', h1, VR.ext hE h2⟩
 | aP v => obtain ⟨v', h1, h2⟩ := h; exact ⟨v', h1, VR.ext hE h2⟩
theorem gR.jn {det : Bool} {f : FuncId} {args : List Value} {k : CR → AH → Bool} (hC : gR P w0 f args h (jn det h k)) : gR P w0 f args h k := by
 refine ⟨hC.1, fun φ args' w hl H => Calls.mono (hC.2 φ args' w hl H) fun E w' hR => ?_⟩
 obtain ⟨r, h', φ', h1, h2, h3, h4, h5⟩ := hR
 cases det with
 | false => exact ⟨r, h', φ', h1, h2, h3, h4, h5⟩
 | true =>
  cases r with
  | aP v => exact ⟨_, h', φ', h1, h2, h3, h4, h5⟩
  | ret v =>
   have h1 : MQ h k v h' = true := h1
   unfold MQ at h1
   split at h1
   · exact ⟨_, h', φ', (cj h1).1, h2, h3, h4, h5⟩
   · rw [ch, ch] at h1
     obtain ⟨φ2, rl, a1, a2, a3, a4⟩ := Gd _ h4 h1
     exact ⟨_, rl, φ2, (cj a1).1, h2.trans (a4 _) (Nat.le_refl _), by rw [a3]; exact h3, a2, h5.ext (a4 0)⟩
def Gg (P : Program) (w0 : World) (sums : ry) : Prop := ∀ p ∈ sums, ∀ (args : List Value) (h : AH) (k : CR → AH → Bool), p.2 args h k = true → gR P w0 p.1 args h k
theorem Vi {rec : Task → Bool} (cJ : ∀ t, rec t = true → dD P w0 t) {f : FuncId} {af : ia} (AY : bT P f = some af) {args : List Value} {k : CR → AH → Bool} (e2 : ru 0 args .e (fun tm => rec (.code af.code ⟨f, af.ntmps, none⟩ ⟨tm, [], .off, h⟩ (AZ rec af.results k))) = true) : gR P w0 f args h k := by
 obtain ⟨fn, c, hf, gS, hb, nY, MS, MT⟩ := MH AY
 obtain ⟨tm, e3, eg⟩ := Vc _ e2
 refine ⟨gS, fun φ args' w hl H cs => ?_⟩
 rw [Vh hf hb]
 have hC : dD P w0 (.code af.code ⟨f, af.ntmps, none⟩ ⟨tm, [], .off, h⟩ (AZ rec af.results k)) := cJ _ e3
 rw [MT] at hC
 have MU := Vd (n := fn.ntmps) hl eg
 obtain ⟨x, s1, φ1, eD, a1, w1, g1, g2, g3, g4, g5⟩ := hC c MS φ (lq f .normal) cs cs { tmps := args' ++ Array.replicate (fn.ntmps - args'.size) undef, defers := [] } w
  ⟨⟨.nil, ⟨rfl, .inl rfl⟩, H⟩, MU⟩ ⟨rfl, rfl⟩ (.code c) (.inl rfl) []
 have yg : h.nx ≤ s1.h.nx := g3
 cases x with
 | exit id => cases g1
 | normal =>
  have gD : SR P w0 φ1 ⟨f, fn.ntmps, none⟩ s1 (lq f .normal) cs eD a1 w1 := g4
  have eK := gD.rc.normal rfl
  subst eK
  have hL : mo P w0 s1.df none s1.h (A7 af.results s1.tm k) := cJ _ g1
  obtain ⟨E, w', oO, ⟨r, h', φ', b1, b2, b3, b4, b5⟩, b6, b7, b8⟩ := MO (f := f) (fn := fn) (N := s1.h.nx) (k := k) (fr := { (lq f .normal).atR a1 [] with mode := .returning }) (cs := eD) hL gD.df rfl gD.heap rfl hf rfl (Steps.trans g5 (.one (stepR_end rfl))) (Nat.le_refl _) (fun m' h' hk => by
   cases m' with
   | some v => exact .inl ⟨v, rfl, hk⟩
   | none => exact .inr ⟨rfl, fun φ' w' hE hH => Vf (gD.tm.ext hE) hH nY hk⟩)
  exact ⟨E, w', oO, ⟨r, h', φ', b1, g2.trans b2 yg, Nat.le_trans yg b3, b4, b5⟩, b6, b7, b8⟩
 | ret =>
  obtain ⟨k1, g5⟩ := g5
  have gD : SR P w0 φ1 ⟨f, fn.ntmps, none⟩ s1 (lq f .normal) cs eD a1 w1 := g4
  have eK := gD.rc.normal rfl
  subst eK
  have hL : mo P w0 s1.df none s1.h (A7 af.results s1.tm k) := cJ _ g1
  obtain ⟨E, w', oO, ⟨r, h', φ', b1, b2, b3, b4, b5⟩, b6, b7, b8⟩ := MO (f := f) (fn := fn) (N := s1.h.nx) (k := k) (fr := { (lq f .normal).atR a1 (.code .ret :: k1) with mode := .returning }) (cs := eD) hL gD.df rfl gD.heap rfl hf rfl (Steps.trans g5 (.one (stepR_ret rfl))) (Nat.le_refl _) (fun m' h' hk => by
   cases m' with
   | some v => exact .inl ⟨v, rfl, hk⟩
   | none => exact .inr ⟨rfl, fun φ' w' hE hH => Vf (gD.tm.ext hE) hH nY hk⟩)
  exact ⟨E, w', oO, ⟨r, h', φ', b1, g2.trans b2 yg, Nat.le_trans yg b3, b4, b5⟩, b6, b7, b8⟩
 | aP v =>
  obtain ⟨k1, v', hv, g5⟩ := g5
  have gD : SQ P w0 φ1 s1 (lq f .normal) cs eD a1 w1 := g4
  have eK := gD.rc.normal rfl
  subst eK
  have hL : mo P w0 s1.df (some v) s1.h (Vj af.results k) := cJ _ g1
  obtain ⟨E, w', oO, ⟨r, h', φ', b1, b2, b3, b4, b5⟩, b6, b7, b8⟩ := MO (f := f) (fn := fn) (N := s1.h.nx) (k := k) (fr := { (lq f .normal).atR a1 k1 with mode := .panicking [{ v := v', recovered := false }] }) (cs := eD) hL gD.df ⟨v', rfl, hv⟩ gD.heap rfl hf rfl g5 (Nat.le_refl _) (fun m' h' hk => by
   cases m' with
   | some v => exact .inl ⟨v, rfl, hk⟩
   | none =>
    refine .inr ⟨rfl, fun φ' w' hE hH => ?_⟩
    have ef : (match af.results with | [] => k (.ret (.tuple ⟨[]⟩)) h' | _ => false) = true := hk
    split at ef
    · rename_i hr
      rw [hr] at nY
      exact ⟨_, _, results_none nY _ _, .gg ⟨[]⟩ #[] .nil, ef⟩
    · cases ef)
  exact ⟨E, w', oO, ⟨r, h', φ', b1, g2.trans b2 yg, Nat.le_trans yg b3, b4, b5⟩, b6, b7, b8⟩
theorem afm (oP : ∀ f af, prog.get f = some af → bT P f = some af) {rec : Task → Bool} (cJ : ∀ t, rec t = true → dD P w0 t) {f : FuncId} {args : List Value} {k0 : CR → AH → Bool} (e : Vk prog rec f args h k0 = true) : gR P w0 f args h k0 := by
 obtain ⟨af, AY, e1⟩ := NT.uN _ _ _ (show NT.dH prog f _ = true from e)
 exact gR.jn (det := af.det) (Vi cJ (oP f af AY) (by cases af; exact e1))
theorem Vl (oP : ∀ f af, prog.get f = some af → bT P f = some af) {rec : Task → Bool} (cJ : ∀ t, rec t = true → dD P w0 t) {f : FuncId} {args : List Value} {k : CR → AH → Bool} : ∀ {sums : ry}, Gg P w0 sums → Gh prog sums rec f args h k = true → gR P w0 f args h k
 | [], _, e => afm oP cJ e
 | (g, S) :: l, hs, e => by
  have e1 : (bif Nat.beq g f then S args h k else Gh prog l rec f args h k) = true := e
  by_cases hg : g = f
  · subst hg
    rw [kG rfl, cond_true] at e1
    exact hs _ (.head _) _ _ _ e1
  · rw [fg hg, cond_false] at e1
    exact Vl oP cJ (fun p hp => hs p (.tail _ hp)) e1
theorem MV {df : List fa} {k : Bool} (h : sY df k = true) : df = [] ∧ k = true := by cases df with | nil => exact ⟨rfl, h⟩ | cons _ _ => cases h
theorem afn (oP : ∀ f af, prog.get f = some af → bT P f = some af) {rec : Task → Bool} (cJ : ∀ t, rec t = true → dD P w0 t) {f : FuncId} {args : List Value} {rc : Rc} {k : Rc → AH → Bool} (e : Vm prog rec f args rc h k = true) : FV P w0 f args rc h k := by
 obtain ⟨af, AY, e1⟩ := NT.uN _ _ _ (show NT.dH prog f _ = true from e)
 obtain ⟨fn, c, hf, gS, hb, nY, MS, MT⟩ := MH (oP f af AY)
 have e2 : af.results = [] ∧ ru 0 args .e (fun tm => rec (.code af.code ⟨f, af.ntmps, none⟩ ⟨tm, [], rc, h⟩ (MW k))) = true := by
  cases af with
  | mk nt rs code det => cases rs with
   | nil => exact ⟨rfl, e1⟩
   | cons _ _ => cases e1
 obtain ⟨A8, e2⟩ := e2
 rw [A8] at nY
 obtain ⟨tm, e3, eg⟩ := Vc _ e2
 refine ⟨gS, fun φ args' w cl cs hl H kg => ?_⟩
 rw [Vh hf hb]
 have hC : dD P w0 (.code af.code ⟨f, af.ntmps, none⟩ ⟨tm, [], rc, h⟩ (MW k)) := cJ _ e3
 rw [MT] at hC
 have MU := Vd (n := fn.ntmps) hl eg
 have AI : rj φ rc (lq f .deferred) (cl :: cs) (cl :: cs) := by
  cases rc with
  | off => exact ⟨rfl, .inr ⟨rfl, cl, cs, rfl, kg⟩⟩
  | can v => obtain ⟨v', q1, q2⟩ := kg; exact ⟨rfl, rfl, cl, cs, v', rfl, q1, q2⟩
  | ll => exact kg.elim
 obtain ⟨x, s1, φ1, eD, a1, w1, g1, g2, g3, g4, g5⟩ := hC c MS φ (lq f .deferred) (cl :: cs) (cl :: cs) { tmps := args' ++ Array.replicate (fn.ntmps - args'.size) undef, defers := [] } w
  ⟨⟨.nil, AI, H⟩, MU⟩ ⟨rfl, rfl⟩ (.code c) (.inl rfl) []
 have Ga : ∀ {eD : List Frame} {Gi : Rc}, rj φ1 Gi (lq f .deferred) (cl :: cs) eD → ∃ c', eD = c' :: cs ∧ UO φ1 Gi cl c' := by
  intro eD Gi hr
  cases Gi with
  | off =>
   obtain ⟨rfl, hn | ⟨_, c1, rest, hc, hm⟩⟩ := hr
   · cases hn
   · cases hc; exact ⟨cl, rfl, rfl, hm⟩
  | can v => obtain ⟨rfl, _, c1, rest, v', hc, hm, hv⟩ := hr; cases hc; exact ⟨cl, rfl, rfl, v', hm, hv⟩
  | ll => obtain ⟨_, c1, rest, v', hc, hm, rfl⟩ := hr; cases hc; exact ⟨_, rfl, v', hm, rfl⟩
 cases x with
 | exit id => cases g1
 | aP v => cases g1
 | normal =>
  have gD : SR P w0 φ1 ⟨f, fn.ntmps, none⟩ s1 (lq f .deferred) (cl :: cs) eD a1 w1 := g4
  obtain ⟨sW, hk⟩ := MV (show sY s1.df (k s1.rc s1.h) = true from g1)
  obtain ⟨c', rfl, A9⟩ := Ga gD.rc
  have pZ := gD.df
  rw [sW] at pZ
  exact ⟨s1.rc, s1.h, φ1, w1, c', { (lq f .deferred).atR a1 [] with mode := .returning }, _, hk, g2, g3, gD.heap, A9, Steps.trans g5 (.one (stepR_end rfl)), rfl, rfl, pZ.uX, fn, hf, results_none nY _ _⟩
 | ret =>
  obtain ⟨k1, g5⟩ := g5
  have gD : SR P w0 φ1 ⟨f, fn.ntmps, none⟩ s1 (lq f .deferred) (cl :: cs) eD a1 w1 := g4
  obtain ⟨sW, hk⟩ := MV (show sY s1.df (k s1.rc s1.h) = true from g1)
  obtain ⟨c', rfl, A9⟩ := Ga gD.rc
  have pZ := gD.df
  rw [sW] at pZ
  exact ⟨s1.rc, s1.h, φ1, w1, c', { (lq f .deferred).atR a1 (.code .ret :: k1) with mode := .returning }, _, hk, g2, g3, gD.heap, A9, Steps.trans g5 (.one (stepR_ret rfl)), rfl, rfl, pZ.uX, fn, hf, results_none nY _ _⟩
end
end Go.Ve
namespace Go.Ve
open Go.RowKit
section
variable {P : Program} {w0 w : World} {φ : aK} {h : AH}
theorem afo : ∀ (ps : List Tmp) {vs : List Value} {iy : List Value} {t : PT} {n : Nat} {tm : Array Value} {k : PT → Bool}, (∀ p ∈ ps, p < n) → LR φ vs iy → TR φ t n tm → yi (ps.map Pos.of) vs t k = true →
 ps.length = iy.length ∧ ∃ t', TR φ t' n ((ps.zip iy).foldl (fun tmps (x : Tmp × Value) => tmps.setIfInBounds x.1 x.2) tm) ∧ k t' = true := by
 intro ps
 induction ps with
 | nil =>
  intro vs iy t n tm k _ hl ht hk
  obtain ⟨hn, ef⟩ := sO (show a0 vs (k t) = true from hk)
  subst hn
  have := hl.uX
  subst this
  exact ⟨rfl, t, by simpa using ht, ef⟩
 | cons p ps ih =>
  intro vs iy t n tm k hp hl ht hk
  cases hl with
  | nil => cases hk
  | cons v v' vs iy hv hl =>
   have ef : PT.gL (Pos.of p) t v (fun t => yi (ps.map Pos.of) vs t k) = true := hk
   rw [PT.lL] at ef
   have sZ := ht.set (Pos.of p) (by rw [Pos.lf]; exact hp p (by simp)) hv
   rw [Pos.lf] at sZ
   obtain ⟨h1, t', h2, h3⟩ := ih (fun q hq => hp q (by simp [hq])) hl sZ ef
   exact ⟨by simp [h1], t', by simpa using h2, h3⟩
theorem afp (ps : Array Tmp) (vs : Array Value) (tm : Array Value) : (ps.zip vs).foldl (fun tmps (t, a) => tmps.setIfInBounds t a) tm = (ps.toList.zip vs.toList).foldl (fun tmps (x : Tmp × Value) => tmps.setIfInBounds x.1 x.2) tm := by
 rw [← Array.foldl_toList]
 simp only [Array.toList_zip]
theorem MX (H : HR P w0 φ h w) {l l' : Nat} (hl : φ l ≠ none) (gB : ∀ b d n, φ l = some (.live b d n) → l' = b) {k : CR → AH → Bool} {j : Option Code} {st : LoopState} {b : Bool} (iU : st = if j.isNone then .ready else .done) (hb : b = j.isNone) (e : Ba l h k j st b = true) :
 ∃ h' w', k (.ret (.bool b)) h' = true ∧ h.nx ≤ h'.nx ∧ HR P w0 φ h' w' ∧ (Instr.endRound l' j).run P w = .ok (.bool b) w' := by
 obtain ⟨r, h1, e1⟩ := AT e
 obtain ⟨aW, cn, e2⟩ := mY e1
 obtain ⟨b0, d, n, r', q1, q2, q3, q4⟩ := H.loop hl h1
 have := gB _ _ _ q1
 subst this
 have hU := q3.jf st j
 refine ⟨⟨h.nx, aW⟩, _, e2, Nat.le_refl _, H.Mx q1 q2 q4 cn hU, ?_⟩
 rw [run_endRound j q2, hb, iU]
theorem Vn {rec : Task → Bool} (cJ : ∀ t, rec t = true → dD P w0 t) {l : Nat} {args : List Value} {k : CR → AH → Bool} (e : Vo rec l args h k = true) : rk P w0 l args h k := by
 intro φ args' l' w hl hm nR H
 obtain ⟨r, h1, e1⟩ := AT e
 obtain ⟨b0, d, n, r', q1, q2, q3, q4⟩ := H.loop hm h1
 have hb0 := nR _ _ _ q1
 subst hb0
 rw [q3.params] at e1
 obtain ⟨hlen, tm, eg, e2⟩ := afo _ q3.small hl q3.tm e1
 have eU : args'.size = r'.params.size := by simpa using hlen.symm
 refine ⟨r'.fn, _, r'.assign, r'.body, run_yield q2 eU, fun c cs => ?_⟩
 rw [afp]
 generalize (r'.params.toList.zip args'.toList).foldl (fun tmps (x : Tmp × Value) => tmps.setIfInBounds x.1 x.2) r'.tmps = tmps at eg
 let b : Frame := { (default : Frame) with fn := r'.fn, kind := .normal, roundOf := some l' }
 have nZ : Frame.round l' r'.fn tmps r'.assign r'.body .normal = b.atR { tmps := tmps, defers := [] } [.code r'.assign, .beginRound, .code r'.body] := by
  simp [Frame.round, Frame.atR, b]
 rw [nZ]
 have hE : ∀ {φ' : aK}, Ext h.nx φ φ' → lP φ' ⟨r.fn, r.nt, some l⟩ b := fun {φ'} hE => ⟨q3.fn, rfl, l', rfl, hE.cB hm, fun b d n hh => nR b d n (hE.live hm hh)⟩
 have hC : dD P w0 (.code r.assign ⟨r.fn, r.nt, some l⟩ ⟨tm, [], .off, h⟩ (MY rec l r k)) := cJ _ e2
 obtain ⟨x, s1, φ1, eD, a1, w1, g1, g2, g3, g4, g5⟩ := hC r'.assign q3.assign φ b (c :: cs) (c :: cs) { tmps := tmps, defers := [] } w ⟨⟨.nil, ⟨rfl, .inl rfl⟩, H⟩, eg⟩ (hE (Ext.refl _ _)) _ (.inl rfl) [.beginRound, .code r'.body]
 cases x with
 | exit id => cases g1
 | ret => cases g1
 | aP v => cases g1
 | normal =>
  have gD : SR P w0 φ1 ⟨r.fn, r.nt, some l⟩ s1 b (c :: cs) eD a1 w1 := g4
  have eK := gD.rc.normal rfl
  subst eK
  obtain ⟨r2, k1, g6⟩ := AT (show nh s1.h l _ = true from g1)
  obtain ⟨n3, g7⟩ := cj g6
  obtain ⟨aW, cn, g8⟩ := mY g7
  have hm1 : φ1 l ≠ none := g2.cB hm
  obtain ⟨b1, d1, n1, MZ, u1, u2, u3, u4⟩ := gD.heap.loop hm1 k1
  have Vp := nR _ _ _ (g2.live hm u1)
  subst Vp
  have afq : MZ.state = .ready := by
   rw [u3.state]
   cases hh : r2.state <;> rw [hh] at n3 <;> first | rfl | cases n3
  have hU := u3.jf .busy r2.dR
  rw [show ({ MZ with state := .busy, pending := r2.dR } : Loop) = { MZ with state := .busy } from by rw [← u3.dR]] at hU
  have H2 := gD.heap.Mx u1 u2 u4 cn hU
  have afr := stepR_beginRound (P := P) (b := b) (a := a1) (k := [.code r'.body]) (cs := c :: cs) (l := l') rfl (run_beginRound u2 afq)
  have hC2 : dD P w0 (.code r.body ⟨r.fn, r.nt, some l⟩ ⟨s1.tm, s1.df, s1.rc, ⟨s1.h.nx, aW⟩⟩ (Gj l k)) := cJ _ g8
  obtain ⟨x, s2, φ2, M0, a2, w2, f1, f2, f3, f4, f5⟩ := hC2 r'.body q3.body φ1 b (c :: cs) (c :: cs) a1 _ ⟨⟨gD.df, gD.rc, H2⟩, gD.tm⟩ (hE g2) _ (.inl rfl) []
  obtain ⟨sW, f1⟩ := MV (show sY s2.df _ = true from f1)
  have Bb : Ext h.nx φ φ2 := g2.trans f2 g3
  have Bc : φ2 l ≠ none := Bb.cB hm
  have M1 : ∀ b d n, φ2 l = some (.live b d n) → l' = b := fun b d n hh => nR b d n (Bb.live hm hh)
  have M3 := Steps.trans g5 (.one afr)
  have hN : h.nx ≤ s2.h.nx := Nat.le_trans g3 f3
  cases x with
  | aP v => cases f1
  | normal =>
   have ta : SR P w0 φ2 ⟨r.fn, r.nt, some l⟩ s2 b (c :: cs) M0 a2 w2 := f4
   have eK := ta.rc.normal rfl
   subst eK
   obtain ⟨h', w', z1, z2, z3, z4⟩ := MX ta.heap Bc M1 rfl rfl f1
   exact ⟨_, _, h', φ2, w', z1, Bb, Nat.le_trans hN z2, z3, .bool true, Steps.trans M3 (Steps.trans f5 (.one (stepR_round_end rfl rfl z4)))⟩
  | ret =>
   obtain ⟨k1, f5⟩ := f5
   have ta : SR P w0 φ2 ⟨r.fn, r.nt, some l⟩ s2 b (c :: cs) M0 a2 w2 := f4
   have eK := ta.rc.normal rfl
   subst eK
   obtain ⟨h', w', z1, z2, z3, z4⟩ := MX ta.heap Bc M1 rfl rfl f1
   exact ⟨_, _, h', φ2, w', z1, Bb, Nat.le_trans hN z2, z3, .bool false, Steps.trans M3 (Steps.trans f5 (.one (stepR_round_ret rfl rfl z4)))⟩
  | exit id =>
   obtain ⟨k1, My, f5⟩ := f5
   have ta : SR P w0 φ2 ⟨r.fn, r.nt, some l⟩ s2 b (c :: cs) M0 a2 w2 := f4
   have eK := ta.rc.normal rfl
   subst eK
   obtain ⟨h', w', z1, z2, z3, z4⟩ := MX ta.heap Bc M1 rfl rfl f1
   exact ⟨_, _, h', φ2, w', z1, Bb, Nat.le_trans hN z2, z3, .bool false, Steps.trans M3 (Steps.trans f5 (.one (stepR_round_exit rfl rfl (by rw [My]; rfl) z4)))⟩
end
end Go.Ve
namespace Go.Ve
open Go.RowKit
def kO (h h2 : AH) : Prop := ∀ f o, h.ob.get f = some o → h2.ob.get f = some o
theorem kO.refl (h : AH) : kO h h := fun _ _ e => e
theorem kO.trans {a b c : AH} (h : kO a b) (h' : kO b c) : kO a c := fun f o e => h' f o (h f o e)
def bF (X : AH → KV → Bool) : Prop := ∀ h k, X h k = true → ∃ v, k v h = true ∧ ∀ h2 k2, kO h h2 → k2 v h2 = true → X h2 k2 = true
theorem NT.Bn {α : Type} : ∀ (t : NT α) (i : Nat) (k : α → Bool) (x : α), t.get i = some x → t.dH i k = k x
 | .e, i, k, x, h => by cases h
 | .n l v r, i, k, x, h => by
  rw [NT.LV]
  rw [NT.get] at h
  cases h0 : Nat.beq i 0 with
  | true => rw [h0] at h; have h' : v = some x := h; rw [h']; rfl
  | false =>
   rw [h0] at h
   cases h1 : Nat.beq (Nat.mod i 2) 1 with
   | true => rw [h1] at h; exact NT.Bn l _ k x h
   | false => rw [h1] at h; exact NT.Bn r _ k x h
theorem NF {h : AH} {b : Nat} {o : AO} {k : AO → Bool} (e : h.ob.get b = some o) : ni h b k = k o := by
 cases h; exact NT.Bn _ _ _ _ e
theorem afA : ∀ (n : Nat) {c : NT Value} {i : Nat} {l : List Value} {k : List Value → Bool}, l.length = n → (∀ j v, l[j]? = some v → c.get (i + j) = some v) → n5 c i n k = k l := by
 intro n
 induction n with
 | zero => intro c i l k hl _; have : l = [] := List.length_eq_zero_iff.1 hl; subst this; rfl
 | succ n ih =>
  intro c i l k hl hc
  cases l with
  | nil => cases hl
  | cons v l =>
   have h0 : c.get i = some v := hc 0 v (by simp)
   show NT.dH c i (fun v => fN (Nat.succ i) fun i' => n5 c i' n fun l => k (v :: l)) = k (v :: l)
   rw [NT.Bn _ _ _ _ h0, ch]
   exact ih (by simpa using hl) (fun j u hj => by
    have := hc (j + 1) u (by simpa using hj)
    rw [show i + (j + 1) = Nat.succ i + j from by omega] at this
    exact this)
section
variable {X Y : AH → KV → Bool}
theorem ly (v : Value) : bF (fun h k => k v h) := fun _ _ e => ⟨v, e, fun _ _ _ e' => e'⟩
theorem dF : bF (fun _ _ => false) := fun _ _ e => by cases e
theorem vl {c : Bool} (hx : bF X) : bF (fun h k => iff c (X h k)) := fun h k e => by
 obtain ⟨rfl, e1⟩ := cj e
 exact hx h k e1
theorem vm {c : Bool} (hx : bF X) (hy : bF Y) : bF (fun h k => bif c then X h k else Y h k) := by
 cases c
 · exact hy
 · exact hx
theorem V7 {c : Bool} (hx : bF X) (hy : bF Y) : bF (fun h k => Bool.casesOn (motive := fun _ => Bool) c (X h k) (Y h k)) := by
 cases c
 · exact hx
 · exact hy
theorem V8 {vs : List Value} (hx : bF X) : bF (fun h k => a0 vs (X h k)) := by
 cases vs with
 | nil => exact hx
 | cons _ _ => exact dF
theorem Gz {vs : List Value} {X : Value → AH → KV → Bool} (hx : ∀ x, bF (X x)) : bF (fun h k => a1 vs (fun x => X x h k)) := by
 cases vs with
 | nil => exact dF
 | cons x vs => exact V8 (hx x)
theorem vn {vs : List Value} {X : Value → Value → AH → KV → Bool} (hx : ∀ x y, bF (X x y)) : bF (fun h k => a2 vs (fun x y => X x y h k)) := by
 cases vs with
 | nil => exact dF
 | cons x vs => exact Gz (hx x)
theorem V9 {vs : List Value} {X : Value → Value → Value → AH → KV → Bool} (hx : ∀ x y z, bF (X x y z)) : bF (fun h k => a3 vs (fun x y z => X x y z h k)) := by
 cases vs with
 | nil => exact dF
 | cons x vs => exact vn (hx x)
theorem Bo {n : Nat} {X : Nat → AH → KV → Bool} (hx : ∀ m, bF (X m)) : bF (fun h k => fN n (fun m => X m h k)) := by
 simp only [ch]; exact hx n
theorem GA {n : Int} {X : Int → AH → KV → Bool} (hx : ∀ m, bF (X m)) : bF (fun h k => fI n (fun m => X m h k)) := by
 simp only [oQ]; exact hx n
theorem Bp {n : Bool} {X : Bool → AH → KV → Bool} (hx : ∀ m, bF (X m)) : bF (fun h k => fB n (fun m => X m h k)) := by
 simp only [iA]; exact hx n
theorem NG {v : Value} {X : Nat → Nat → AH → KV → Bool} (hx : ∀ b o, bF (X b o)) : bF (fun h k => iK v (fun b o => X b o h k)) := by
 cases v <;> first
  | exact dF
  | (rename_i a; cases a with
   | none => exact dF
   | some a => cases a; exact hx _ _)
theorem Wa {v : Value} {X : List Value → AH → KV → Bool} (hx : ∀ l, bF (X l)) : bF (fun h k => rA v (fun l => X l h k)) := by
 cases v <;> first
  | exact dF
  | (rename_i a; cases a; exact hx _)
theorem Wb {v : Value} {X : List Value → AH → KV → Bool} (hx : ∀ l, bF (X l)) : bF (fun h k => Gk v (fun l => X l h k)) := by
 cases v <;> first
  | exact dF
  | (rename_i a; cases a; exact hx _)
theorem Wc {v : Value} {X : Bool → AH → KV → Bool} (hx : ∀ l, bF (X l)) : bF (fun h k => rC v (fun l => X l h k)) := by
 cases v <;> first
  | exact dF
  | exact hx _
theorem GB {v : Value} {X : IntKind → Int → AH → KV → Bool} (hx : ∀ kd n, bF (X kd n)) : bF (fun h k => kp v (fun kd n => X kd n h k)) := by
 cases v <;> first
  | exact dF
  | exact hx _ _
theorem GC {v : Value} {X : Nat → AH → KV → Bool} (hx : ∀ n, bF (X n)) : bF (fun h k => n6 v (fun n => X n h k)) := by
 cases v <;> first
  | exact dF
  | (rename_i kd n; cases n <;> first | exact hx _ | exact dF)
theorem Bq {v : Value} {X : ByteArray → AH → KV → Bool} (hx : ∀ l, bF (X l)) : bF (fun h k => iW v (fun l => X l h k)) := by
 cases v <;> first
  | exact dF
  | exact hx _
theorem NH {v : Value} {X : Nat → Nat → Nat → Nat → AH → KV → Bool} (hy : bF Y) (hx : ∀ b o l c, bF (X b o l c)) : bF (fun h k => kq v (Y h k) (fun b o l c => X b o l c h k)) := by
 cases v <;> first
  | exact dF
  | (rename_i a l c; cases a with
   | none => exact hy
   | some a => cases a; exact hx _ _ _ _)
theorem Wd {v : Value} {X : Nat → AH → KV → Bool} (hy : bF Y) (hx : ∀ r, bF (X r)) : bF (fun h k => vg v (Y h k) (fun r => X r h k)) := by
 cases v <;> first
  | exact dF
  | (rename_i a; cases a with
   | none => exact hy
   | some a => exact hx _)
theorem We {X : Value → AH → KV → Bool} (hx : ∀ v, bF (X v)) : ∀ {l : List Value} {n : Nat}, bF (fun h k => n4 l n (fun v => X v h k)) := by
 intro l
 induction l with
 | nil => intro n; exact dF
 | cons a l ih =>
  intro n
  cases n with
  | zero => exact hx a
  | succ n => exact ih
theorem Wf : ∀ {l : List Value} {n : Nat} {X : List Value → AH → KV → Bool}, (∀ v, bF (X v)) → bF (fun h k => qa l n (fun v => X v h k)) := by
 intro l
 induction l with
 | nil =>
  intro n X hx
  cases n with
  | zero => exact hx _
  | succ n => exact dF
 | cons a l ih =>
  intro n X hx
  cases n with
  | zero => exact hx _
  | succ n => exact ih (X := fun v => X (a :: v)) fun v => hx _
theorem Wg {X : List Value → AH → KV → Bool} (hx : ∀ v, bF (X v)) : ∀ {l : List Value} {n : Nat}, bF (fun h k => qb l n (fun v => X v h k)) := by
 intro l
 induction l with
 | nil =>
  intro n
  cases n with
  | zero => exact hx _
  | succ n => exact dF
 | cons a l ih =>
  intro n
  cases n with
  | zero => exact hx _
  | succ n => exact ih
theorem Wh : ∀ {vs l : List Value} {X : List Value → AH → KV → Bool}, (∀ v, bF (X v)) → bF (fun h k => lr l vs (fun v => X v h k)) := by
 intro vs l
 induction l generalizing vs with
 | nil =>
  intro X hx
  cases vs with
  | nil => exact hx _
  | cons a vs => exact dF
 | cons a l ih =>
  intro X hx
  cases vs with
  | nil => exact hx _
  | cons b vs => exact ih (X := fun v => X (b :: v)) fun v => hx _
theorem afB : ∀ {l : List Value} {n : Nat} {vs : List Value} {X : List Value → AH → KV → Bool}, (∀ v, bF (X v)) → bF (fun h k => nO l n vs (fun v => X v h k)) := by
 intro l
 induction l with
 | nil =>
  intro n vs X hx
  cases n with
  | zero => exact (Wh hx : bF (fun h k => lr [] vs (fun v => X v h k)))
  | succ n => exact dF
 | cons a l ih =>
  intro n vs X hx
  cases n with
  | zero => exact (Wh hx : bF (fun h k => lr (a :: l) vs (fun v => X v h k)))
  | succ n => exact ih (X := fun v => X (a :: v)) fun v => hx _
theorem NI : ∀ {l m : List Value} {X : List Value → AH → KV → Bool}, (∀ v, bF (X v)) → bF (fun h k => iv l m (fun v => X v h k)) := by
 intro l
 induction l with
 | nil => intro m X hx; exact hx _
 | cons a l ih => intro m X hx; exact ih (X := fun v => X (a :: v)) fun v => hx _
theorem NJ : ∀ {ps : List (Nat × Nat)} {l vs : List Value} {X : List Value → AH → KV → Bool}, (∀ v, bF (X v)) → bF (fun h k => jg l ps vs (fun v => X v h k)) := by
 intro ps
 induction ps with
 | nil =>
  intro l vs X hx
  cases vs with
  | nil => exact hx _
  | cons a vs => exact dF
 | cons p ps ih =>
  intro l vs X hx
  cases vs with
  | nil => exact dF
  | cons a vs =>
   obtain ⟨off, sz⟩ := p
   exact vm (afB fun l' => ih hx) dF
theorem Wi : ∀ {ss : List Nat} {vs : List Value} {X : List Value → AH → KV → Bool}, (∀ v, bF (X v)) → bF (fun h k => uU ss vs (fun v => X v h k)) := by
 intro ss
 induction ss with
 | nil => intro vs X hx; exact V8 (hx [])
 | cons n ss ih =>
  intro vs X hx
  cases vs with
  | nil => exact dF
  | cons v vs => exact vl (ih (X := fun l h k => iv (cellsOf v) l fun l => X l h k) fun l => NI hx)
theorem qg {b : Bool} {vs : List Value} {d : Nat} {X : Nat → List Value → AH → KV → Bool} (hx : ∀ n vs, bF (X n vs)) : bF (fun h k => n7 b vs d (fun n vs => X n vs h k)) := by
 cases b with
 | false => exact hx _ _
 | true =>
  cases vs with
  | nil => exact dF
  | cons v vs => exact GC fun n => hx n vs
theorem NK {o : Option Bool} {ng : Bool} : bF (fun h k => qe o ng (fun v => k v h)) := by
 cases o with
 | none => exact dF
 | some b => exact Bp fun b => ly _
theorem Wj {b o : Nat} {X : Value → AH → KV → Bool} (hx : ∀ v, bF (X v)) : bF (fun h k => pX h b o (fun v => X v h k)) := fun h k e => by
 obtain ⟨lo, hi, ty, rw, c, v, h1, h2, h3, h4, h5⟩ := Gc e
 obtain ⟨u, hu, hr⟩ := hx v h k h5
 refine ⟨u, hu, fun hh k2 hle hk => ?_⟩
 show ni hh b _ = true
 rw [NF (hle _ _ h1)]
 show iff (Nat.ble lo o && Nat.ble (Nat.succ o) hi) (NT.dH c o fun v => X v hh k2) = true
 rw [NT.Bn _ _ _ _ h4, (iff_eq _ _)]
 exact ⟨by simp; exact ⟨h2, h3⟩, hr hh k2 hle hk⟩
theorem Wl {b o n : Nat} {X : List Value → AH → KV → Bool} (hx : ∀ v, bF (X v)) : bF (fun h k => ln h b o n (fun v => X v h k)) := fun h k e => by
 obtain ⟨lo, hi, ty, rw, c, l, h1, h2, h3, h4, h5, h6⟩ := sM e
 obtain ⟨u, hu, hr⟩ := hx l h k h6
 refine ⟨u, hu, fun hh k2 hle hk => ?_⟩
 show ni hh b _ = true
 rw [NF (hle _ _ h1)]
 show iff (Nat.ble lo o && Nat.ble (Nat.add o n) hi) (n5 c o n fun v => X v hh k2) = true
 rw [afA n h4 h5, (iff_eq _ _)]
 exact ⟨by simp; exact ⟨h2, h3⟩, hr hh k2 hle hk⟩
theorem Wm {b : Nat} {X : List (Value × Value × Nat) → Nat → AH → KV → Bool} (hx : ∀ es cl, bF (X es cl)) : bF (fun h k => ko h b (fun es cl => X es cl h k)) := fun h k e => by
 obtain ⟨es, cl, h1, h2⟩ := uS e
 obtain ⟨u, hu, hr⟩ := hx es cl h k h2
 refine ⟨u, hu, fun hh k2 hle hk => ?_⟩
 show ni hh b _ = true
 rw [NF (hle _ _ h1)]
 exact hr hh k2 hle hk
theorem Wn {kc : Nat} {X : Option Value → AH → KV → Bool} (hx : ∀ v, bF (X v)) : ∀ {es : List (Value × Value × Nat)} {x : Value}, bF (fun h k => uR kc es x (fun v => X v h k)) := by
  intro es x
  induction es with
  | nil => exact hx none
  | cons p es ih =>
    obtain ⟨a, v, n⟩ := p
    cases hq : lh kc x a with
    | none => simp only [uR, hq]; exact dF
    | some t => cases t <;> simp only [uR, hq]
                · exact ih
                · exact hx _
theorem Wo {zero : Value} {ok : Bool} {o : Option Value} : bF (fun h k => FL zero ok h k o) := by
 cases o <;> cases ok <;> exact ly _
end
theorem Wp {sz l h m cap : Nat} {M6 : Bool} {b o : Nat} : bF (fun hh k => rD sz l h m cap M6 b o (fun v => k v hh)) := by
 unfold rD; repeat (first | exact ly _ | exact dF | exact NK | exact Wo | apply vl | apply vm | apply V7 | apply Gz | apply vn | apply V9 | apply Bo | apply GA | apply Bp | apply NG | apply Wa | apply Wb | apply Wc | apply GC | apply GB | apply Bq | apply NH | apply Wd | apply We | apply Wf | apply Wg | apply NI | apply NJ | apply Wi | apply qg | apply Wj | apply Wl | apply Wm | apply Wn | (intro _))
theorem afC {x y : Option Bool} {ng : Bool} : bF (fun h k => Bf x y ng (fun v => k v h)) := by
 cases x with
 | none => cases y <;> exact dF
 | some a =>
  cases y with
  | none => cases a <;> exact dF
  | some b => cases a <;> cases b <;> simp only [Bf] <;> first | exact NK | exact dF
theorem afD {op : BinOp} {a b : ByteArray} : bF (fun h k => M8 op a b (fun v => k v h)) := by
 cases op <;> first | exact dF | exact Bp fun _ => ly _
theorem afE {op : BinOp} {kd : IntKind} {a b : Int} : bF (fun h k => M4 op kd a b (fun v => k v h)) := by
 cases op <;> first
  | exact dF
  | exact Bp fun _ => ly _
  | exact GA fun _ => ly _
  | exact vm dF (GA fun _ => ly _)
  | (cases kd <;> first
   | exact dF
   | (cases a <;> cases b <;> first | exact dF | exact vm (Bo fun _ => ly _) dF))
theorem afF {kd : IntKind} {a b : Int} : bF (fun h k => M5 kd a b (fun v => k v h)) := by
 cases kd <;> first
  | exact dF
  | (cases a <;> cases b <;> first | exact dF | exact vm (Bo fun _ => ly _) dF)
theorem afG {op : BinOp} {kx ky : IntKind} {a b : Int} : bF (fun h k => M7 op kx a ky b (fun v => k v h)) := by
 cases op <;> first
  | exact dF
  | exact afF
  | exact vl afE
theorem afH {ty : TypeId} {zero x : Value} : bF (fun h k => Me ty zero x (fun v => k v h)) := by
 cases x <;> first
  | exact dF
  | exact ly _
  | exact vm (ly _) (ly _)
theorem Wq (p : Prim) (ha : p.tg = false) (hm : p.makes = false) (vs : List Value) : bF (fun h k => p.ev vs h k) := by
 cases p
 case alloc => cases hm
 case box => cases hm
 case buildSlice => cases hm
 case store => cases ha
 case Uc =>
  change bF (fun h k => Gm vs h k); unfold Gm
  refine vn fun x i => GC fun i => Bq fun s => ?_
  cases s.data.toList[i]? with
  | none => exact dF
  | some c => exact Bo fun _ => ly _
 case slice sz lo hi mx =>
  change bF (fun h k => Bg sz lo hi mx vs h k); unfold Bg
  cases vs with
  | nil => exact dF
  | cons x vs => exact NH (qg fun _ _ => qg fun _ _ => vl (ly _)) fun b o len cap => qg fun l vs => qg fun hh vs => qg fun m vs => vl Wp
 case Ud n sz lo hi mx =>
  change bF (fun h k => Bh n sz lo hi mx vs h k); unfold Bh
  cases vs with
  | nil => exact dF
  | cons x vs => exact NG fun b o => qg fun l vs => qg fun hh vs => qg fun m vs => vl Wp
 case aN op => change bF (fun h k => Gn op vs h k); unfold Gn; exact vn fun x y => GB fun _ _ => GB fun _ _ => afG
 case Ue op => change bF (fun h k => Gp op vs h k); unfold Gp; exact vn fun x y => Bq fun _ => Bq fun _ => afD
 case oG nk ng => change bF (fun h k => Gq nk ng vs h k); unfold Gq; exact vn fun x y => afC
 case mkMap => cases ha
 case mkSlice => cases ha
 case oA => cases ha
 case append => cases ha
 case copy => cases ha
 case Uf t z => change bF (fun h k => FP t z vs h k); unfold FP; exact Gz fun x => afH
 case LY => cases ha
 case LZ => cases ha
 case x e => cases ha
 all_goals (simp only [Prim.ev, M9, Na, VG, VH, Nb, Nc, Nd, Nf, Ng, Nh, Ni, Nj, Nk, Nl, VJ, Nn, Np, Nq, Nr, Ns, Nt, Nu, Mb, Nv, Nw, Nx, Ny, Nz, L5, L6]; repeat (first | exact ly _ | exact dF | exact NK | exact Wo | apply vl | apply vm | apply V7 | apply Gz | apply vn | apply V9 | apply Bo | apply GA | apply Bp | apply NG | apply Wa | apply Wb | apply Wc | apply GC | apply GB | apply Bq | apply NH | apply Wd | apply We | apply Wf | apply Wg | apply NI | apply NJ | apply Wi | apply qg | apply Wj | apply Wl | apply Wm | apply Wn | (intro _)))
end Go.Ve
namespace Go.Ve
open Go.RowKit
def jl (v u : Value) : Prop := ∀ φ x, VR φ v x ↔ VR φ u x
def nn (l m : List Value) : Prop := ∀ φ x, LR φ l x ↔ LR φ m x
theorem jl.refl (v : Value) : jl v v := fun _ _ => Iff.rfl
theorem nn.refl (v : List Value) : nn v v := fun _ _ => Iff.rfl
theorem jl.of_eq {v u : Value} (h : v = u) : jl v u := h ▸ jl.refl v
theorem AtR.same {φ : aK} {a b x : Addr} (h1 : a.block = b.block) (h2 : a.off = b.off) (h : AtR φ a x) : AtR φ b x := fun bl d n hb => by
 have := h bl d n (by rw [h1]; exact hb)
 rw [h2] at this; exact this
theorem qY.same {φ : aK} {a b x : Addr} {len cap c9 : Nat} (h1 : a.block = b.block) (h2 : a.off = b.off) (h : qY φ a x len cap c9) : qY φ b x len cap c9 := by
 rcases h with ⟨h3, h4, h5, h6⟩ | ⟨sz, h3, h4, h5, h6⟩
 · exact .inl ⟨h3, h4, h5, fun hp => (h6 hp).same h1 h2⟩
 · exact .inr ⟨sz, h3, h4, h5, fun hp => ⟨(h6 hp).1.same h1 h2, fun bl d n hb => (h6 hp).2 bl d n (by rw [h1]; exact hb)⟩⟩
theorem jl.ptr {a b : Addr} (h1 : a.block = b.block) (h2 : a.off = b.off) : jl (.pointer (some a)) (.pointer (some b)) := fun φ x => by
 constructor
 · intro h; cases h with | ptr _ a' q1 q2 => exact .ptr _ _ (h1 ▸ q1) (q2.same h1 h2)
 · intro h; cases h with | ptr _ a' q1 q2 => exact .ptr _ _ (h1 ▸ q1) (q2.same h1.symm h2.symm)
theorem jl.sl {a b : Addr} {l c : Nat} (h1 : a.block = b.block) (h2 : a.off = b.off) : jl (.slice (some a) l c) (.slice (some b) l c) := fun φ x => by
 constructor
 · intro h; cases h with | sl _ a' _ _ _ q1 q2 => exact .sl _ _ _ _ _ (h1 ▸ q1) (q2.same h1 h2)
 · intro h; cases h with | sl _ a' _ _ _ q1 q2 => exact .sl _ _ _ _ _ (h1 ▸ q1) (q2.same h1.symm h2.symm)
theorem nn.cons {a b : Value} {l m : List Value} (h : jl a b) (hl : nn l m) : nn (a :: l) (b :: m) := fun φ x => by
 constructor
 · intro h'; cases h' with | cons _ _ _ _ q1 q2 => exact .cons _ _ _ _ ((h _ _).1 q1) ((hl _ _).1 q2)
 · intro h'; cases h' with | cons _ _ _ _ q1 q2 => exact .cons _ _ _ _ ((h _ _).2 q1) ((hl _ _).2 q2)
theorem jl.agg {l m : List Value} (h : nn l m) : jl (.agg ⟨l⟩) (.agg ⟨m⟩) := fun φ x => by
 constructor
 · intro h'; cases h' with | agg _ _ q1 => exact .agg _ _ ((h _ _).1 q1)
 · intro h'; cases h' with | agg _ _ q1 => exact .agg _ _ ((h _ _).2 q1)
theorem jl.gg {l m : List Value} (h : nn l m) : jl (.tuple ⟨l⟩) (.tuple ⟨m⟩) := fun φ x => by
 constructor
 · intro h'; cases h' with | gg _ _ q1 => exact .gg _ _ ((h _ _).1 q1)
 · intro h'; cases h' with | gg _ _ q1 => exact .gg _ _ ((h _ _).2 q1)
theorem jl.func {fn : Fn} {a b c d : List Value} (h1 : nn a c) (h2 : nn b d) : jl (.func fn ⟨a⟩ ⟨b⟩) (.func fn ⟨c⟩ ⟨d⟩) := fun φ x => by
 constructor
 · intro h'; cases h' with | func _ _ _ _ _ _ q0 q1 q2 => exact .func _ _ _ _ _ _ q0 ((h1 _ _).1 q1) ((h2 _ _).1 q2)
 · intro h'; cases h' with | func _ _ _ _ _ _ q0 q1 q2 => exact .func _ _ _ _ _ _ q0 ((h1 _ _).2 q1) ((h2 _ _).2 q2)
theorem Wr {a b : Value} (h : Gy a b = true) : jl a b := by
 unfold Gy at h
 split at h
 · rename_i x y; exact .of_eq (by cases x <;> cases y <;> first | rfl | cases h)
 · rename_i kd x kd' y
   cases hk : fM kd kd' with
   | false => rw [hk] at h; cases h
   | true =>
    rw [hk] at h
    have h' : kN x y = true := h
    rw [rf] at h'
    have := mW hk
    have h'' : x = y := by simpa using h'
    exact .of_eq (by rw [this, h''])
 · rename_i x y
   rw [NL] at h
   have : x.data.toList = y.data.toList := by simpa using h
   have h2 : x = y := by cases x; cases y; simp only at this; congr 1; exact Array.toList_inj.1 this
   exact .of_eq (by rw [h2])
 · exact .refl _
 · simp only [Bool.and_eq_true, Nat.beq_eq] at h
   exact .ptr h.1 h.2
 · simp only [Bool.and_eq_true, Nat.beq_eq] at h
   exact .of_eq (by rw [h.1, h.2])
 · simp only [Bool.and_eq_true, Nat.beq_eq] at h
   obtain ⟨⟨⟨h1, h2⟩, h3⟩, h4⟩ := h
   subst h3; subst h4
   exact .sl h1 h2
 · exact .refl _
 · simp only [Nat.beq_eq] at h
   exact .of_eq (by rw [h])
 · exact .refl _
 · exact .refl _
 · cases h
theorem NM : ∀ {l m : List Value}, Bk l m = true → nn l m
 | [], [], _ => .refl _
 | a :: l, b :: m, h => by
  simp only [Bk, Bool.and_eq_true] at h
  exact .cons (Wr h.1) (NM h.2)
 | [], _ :: _, h => by cases h
 | _ :: _, [], h => by cases h
theorem Ws {a b : Value} (h : qf a b = true) : jl a b := by
 unfold qf at h
 split at h
 · simp only [Bool.and_eq_true, Nat.beq_eq] at h
   obtain ⟨⟨h1, h2⟩, h3⟩ := h
   subst h1
   exact .func (NM h2) (NM h3)
 · exact Wr h
theorem GD : ∀ {l m : List Value}, n8 l m = true → nn l m
 | [], [], _ => .refl _
 | a :: l, b :: m, h => by
  simp only [n8, Bool.and_eq_true] at h
  exact .cons (Ws h.1) (GD h.2)
 | [], _ :: _, h => by cases h
 | _ :: _, [], h => by cases h
theorem afI {a b : Value} (h : rG a b = true) : jl a b := by
 unfold rG at h
 split at h
 · exact .agg (GD h)
 · exact .gg (GD h)
 · exact Ws h
noncomputable def lz (g : Option (Pos × Bool)) (t : PT) : Bool := nU g t true false
def iL (t : PT) : ee → Value
 | .t p => t.get p
 | .c v => v
theorem NN (g : Option (Pos × Bool)) (t : PT) (yes no : Bool) : nU g t yes no = bif lz g t then yes else no := by
 cases g with
 | none => rfl
 | some pw =>
  obtain ⟨p, want⟩ := pw
  show PT.dH p t (uY want yes no) = bif PT.dH p t (uY want true false) then yes else no
  rw [PT.jU, PT.jU]
  unfold uY
  split
  · cases mq _ want <;> rfl
  · rfl
theorem NO (o : ee) (t : PT) (k : Value → Bool) : rq o t k = k (iL t o) := by
 cases o with
 | t p => exact PT.jU p t k
 | c v => rfl
theorem yo (t : PT) : ∀ (l : List ee) (k : List Value → Bool), nT l t k = k (l.map (iL t))
 | [], k => rfl
 | o :: l, k => by
  show rq o t (fun v => nT l t fun vs => k (v :: vs)) = _
  rw [NO, yo t l]
  rfl
theorem Br (d : Option Pos) (s : St) (v : Value) (h : AH) (k : St → Bool) : iz d s v h k = k ⟨match d with | none => s.tm | some p => s.tm.set p v, s.df, s.rc, h⟩ := by
 cases d with
 | none => rfl
 | some p => exact PT.lL p s.tm v _
def Prim.made (p : Prim) (b : Nat) : Value := match p with
 | .buildSlice _ n _ _ => .slice (some ⟨b, 0, none⟩) n n
 | _ => az b 0
theorem Wt : ∀ (ps : List (Nat × Nat)) (l vs : List Value) (k : List Value → Bool), jg l ps vs k = true → ∃ m, k m = true ∧ ∀ k2, k2 m = true → jg l ps vs k2 = true := by
 intro ps l vs k h
 have hD := NJ (ps := ps) (l := l) (vs := vs) (X := fun m h k => k (.agg ⟨m⟩) h) (fun m => ly _)
 obtain ⟨v, h1, h2⟩ := hD ⟨0, .e⟩ (fun v _ => match v with | .agg ⟨m⟩ => k m | _ => false) h
 cases v with
 | agg a =>
  obtain ⟨m⟩ := a
  exact ⟨m, h1, fun k2 hk => h2 ⟨0, .e⟩ (fun v _ => match v with | .agg ⟨m⟩ => k2 m | _ => false) (kO.refl _) hk⟩
 | _ => cases h1
end Go.Ve
namespace Go.Ve
open Go.RowKit
section
variable {P : Program} {w0 w : World} {φ : aK} {h : AH} {ρ : Operand → Value} {o : Oper} {vs : List Value}
def Bs (p : Prim) (vs : List Value) (ty : TypeId) (l : List Value) : Prop := ∀ k2 : TypeId → List Value → Bool, k2 ty l = true → p.fresh vs k2 = true
theorem afJ {p : Prim} {k : TypeId → List Value → Bool} (e : p.fresh vs k = true) : ∃ ty l, k ty l = true ∧ Bs p vs ty l := by
 cases p with
 | alloc ty zero =>
  obtain ⟨rfl, e1⟩ := sO (show a0 vs (k ty zero) = true from e)
  exact ⟨ty, zero, e1, fun k2 hk => hk⟩
 | box ty =>
  obtain ⟨v, rfl, e1⟩ := eJ (show a1 vs (fun v => k ty (cellsOf v)) = true from e)
  exact ⟨ty, cellsOf v, e1, fun k2 hk => hk⟩
 | buildSlice ty n cells places =>
  obtain ⟨m, e1, e2⟩ := Wt _ _ _ _ (show jg cells places vs (fun l => k ty l) = true from e)
  exact ⟨ty, m, e1, fun k2 hk => e2 (fun l => k2 ty l) hk⟩
 | _ => cases e
theorem afK {p : Prim} (hm : p.makes = true) {k : KV} (e : p.ev vs h k = true) : ∃ ty l c aW, Bs p vs ty l ∧ (∀ v ∈ l, fb v = true) ∧ (∀ j v, l[j]? = some v → c.get j = some v) ∧ h.ob.iT h.nx (some (.cells 0 l.length ty true c)) aW ∧ k (p.made h.nx) ⟨h.nx + 1, aW⟩ = true := by
 cases p with
 | alloc ty zero =>
  obtain ⟨rfl, e1⟩ := sO (show a0 vs _ = true from e)
  obtain ⟨h1, c, aW, h2, h3, h4⟩ := re e1
  exact ⟨ty, zero, c, aW, fun k2 hk => hk, h1, h2, h3, h4⟩
 | box ty =>
  obtain ⟨v, rfl, e1⟩ := eJ (show a1 vs _ = true from e)
  obtain ⟨h1, c, aW, h2, h3, h4⟩ := re e1
  exact ⟨ty, cellsOf v, c, aW, fun k2 hk => hk, h1, h2, h3, h4⟩
 | buildSlice ty n cells places =>
  obtain ⟨m, e1, e2⟩ := Wt _ _ _ _ (show jg cells places vs _ = true from e)
  obtain ⟨h1, c, aW, h2, h3, h4⟩ := re e1
  exact ⟨ty, m, c, aW, fun k2 hk => e2 (fun l => k2 ty l) hk, h1, h2, h3, h4⟩
 | _ => cases hm
theorem Ww {p : Prim} {xs : List Operand} (hc : lO P o = some (.aQ p, xs)) (hm : p.makes = true) :
 (∃ ty z, o.op = .alloc ty ∧ zeroOf P ty = some z ∧ p = .alloc ty z.cells.toList ∧ xs = []) ∨ (∃ ty x, o.op = .box ty x ∧ p = .box ty ∧ xs = [x]) ∨
 (∃ t e' n s parts z, o.op = .buildSlice t n parts ∧ P.underlying t = some (.slice e') ∧ zeroOf P e' = some z ∧ eE P e' = some s ∧ n * s ≤ 65536 ∧ z.cells.size = s ∧ 0 < s ∧
  p = .buildSlice e' n (jz n z.cells.toList) (parts.toList.map fun p => (p.1 * s, s)) ∧ xs = parts.toList.map (·.2)) := by
 cases aU : o.op <;> simp only [lO, aU] at hc
 case alloc ty =>
  split at hc
  · rename_i z hz; cases hc; exact .inl ⟨ty, z, rfl, hz, rfl, rfl⟩
  · cases hc
 case box ty x => cases hc; exact .inr (.inl ⟨ty, x, rfl, rfl, rfl⟩)
 case buildSlice t len parts =>
  split at hc
  · rename_i e' hu
    split at hc
    · rename_i s z hs hz
      split at hc
      · rename_i hg
        cases hc
        simp only [Bool.and_eq_true, decide_eq_true_eq, beq_iff_eq] at hg
        exact .inr (.inr ⟨t, e', len, s, parts, z, rfl, hu, hz, hs, hg.1.1, hg.1.2, hg.2, rfl, rfl⟩)
      · cases hc
    · cases hc
  · cases hc
 all_goals ((repeat' split at hc) <;> first | (cases hc; done) | (cases hc; cases hm; done) | (cases hc; unfold uV at hm; split at hm <;> cases hm))
theorem afL {p : Prim} {xs : List Operand} {ty : TypeId} {l : List Value} (hc : lO P o = some (.aQ p, xs)) (hm : p.makes = true) (hv : LR φ vs (xs.map ρ)) (hf : Bs p vs ty l) :
    ∃ l', LR φ l l' ∧ (execOp ρ o).run P w = .ok (.value (p.made w.heap.size)) (w.alloc (.cells l'.toArray ty)) := by
  classical
  have hd := hf (fun cz l' => decide (cz = ty ∧ l' = l)) (by simp)
  rcases Ww hc hm with ⟨cz, z, ho, hz, rfl, rfl⟩ | ⟨cz, x, ho, rfl, rfl⟩ | ⟨t, e', n, s, parts, z, ho, hu, hz, hs, hle, lN, h0, rfl, rfl⟩
  · obtain ⟨rfl, e1⟩ := sO (show a0 vs _ = true from hd)
    obtain ⟨rfl, rfl⟩ : cz = ty ∧ z.cells.toList = l := by simpa using e1
    obtain ⟨i, hi, hz, fi⟩ := nM hz
    refine ⟨z.cells.toList, VR.cells (oK fi), ?_⟩
    simp [execOp, ho, Instr.alloc, pQ hi hz, newVar, newRow, World.alloc_eq, Prim.made, az]
  · obtain ⟨v, rfl, e1⟩ := eJ (show a1 vs (fun v => decide (cz = ty ∧ cellsOf v = l)) = true from hd)
    obtain ⟨rfl, rfl⟩ : cz = ty ∧ cellsOf v = l := by simpa using e1
    obtain ⟨a', ha, hr⟩ := hv.one
    simp at ha; subst ha
    rw [xS]
    refine ⟨_, VR.cells hr, ?_⟩
    simp [execOp, ho, Instr.box, newVar, newRow, World.alloc_eq, Prim.made, az]
  · obtain ⟨i, hi, mm, fi⟩ := nM hz
    obtain ⟨i2, fx, q7⟩ := lk hs
    rw [hi] at fx; cases fx
    subst q7
    have na : (parts.map fun (i, x) => (i, ρ x)).toList.map (fun p => some (p.1 * i.size, i.size)) = (parts.toList.map fun p => (p.1 * i.size, i.size)).map some := by simp [Function.comp_def]
    have nP : LR φ vs ((parts.map fun (i, x) => (i, ρ x)).toList.map (·.2)) := by simpa [Function.comp_def] using hv
    obtain ⟨r, r', q1, q2, q3⟩ := FR (place := fun j => some (j * i.size, i.size)) (show jg _ _ vs (fun l' => decide (e' = ty ∧ l' = l)) = true from hd) (LR.FK (VR.cells (oK (φ := φ) fi)) n) nP na
    obtain ⟨rfl, rfl⟩ : e' = ty ∧ r = l := by simpa using q1
    have ib : ((Array.range (n * i.size)).map fun j => z.cells[j % z.cells.size]!) = (jz n z.cells.toList).toArray := by
      apply Array.ext'
      have := Ma z.cells (by omega) n
      rw [← lN]
      simpa [madeCells] using this
    have sQ : Instr.fill (fun j => some (j * i.size, i.size)) (jz n z.cells.toList).toArray (List.map (fun x => (x.fst, ρ x.snd)) parts.toList) = some r'.toArray := by simpa using q3
    refine ⟨r', q2, ?_⟩
    have Am : ¬ (16777216 < n * i.size) := by omega
    simp only [execOp, ho, Instr.buildSlice, Sem.run_bind, run_underlying hu, Result.andThen_ok, je hi]
    by_cases mn : n * i.size = 0
    · have Ao : ((Array.range (n * i.size)).map fun j => (#[] : Array Value)[j % (#[] : Array Value).size]!) = (jz n z.cells.toList).toArray := by
        rw [← ib, mn]; simp [Array.range_zero']
      simp [Am, mn]
      simp [mn] at Ao
      rw [Ao]
      rw [sQ]
      simp [newRow, World.alloc_eq, Prim.made]
    · simp [Am, mn, pQ hi mm]
      rw [ib, sQ]
      simp [newRow, World.alloc_eq, Prim.made]
theorem afM {p : Prim} {xs : List Operand} (hc : lO P o = some (.aQ p, xs)) (hm : p.makes = true) (f B n : Nat) : VR (φ.put f (.live B 0 n)) (p.made f) (p.made B) := by
 rcases Ww hc hm with ⟨cz, z, ho, hz, rfl, rfl⟩ | ⟨cz, x, ho, rfl, rfl⟩ | ⟨t, e', n', s, parts, z, ho, hu, hz, hs, hle, lN, h0, rfl, rfl⟩
 · exact PR.xR
 · exact PR.xR
 · refine .sl _ _ _ _ _ (by simp [aK.put]) (.inl ⟨by unfold aY; have : n' ≤ n' * s := Nat.le_mul_of_pos_right n' h0; omega, rfl, Nat.le_refl _, fun _ b d m hl => ?_⟩)
   simp only [aK.iw] at hl
   cases hl
   exact ⟨rfl, rfl, rfl⟩
theorem afN {p : Prim} (b : Nat) (k : Nat → Bool) : NC (p.made b) k = k b := by
 unfold Prim.made
 split <;> rfl
end
end Go.Ve
namespace Go.Ve
open Go.RowKit
section
variable {P : Program} {w0 w : World} {φ : aK} {nt : Nat} {ops : Array Oper} {as : Array bB}
theorem afO {α β : Type} {f : α → Option β} : ∀ {xs : List α} {ys : List β}, xs.mapM f = some ys → ys.length = xs.length ∧ ∀ (i : Nat) (x : α), xs[i]? = some x → ∃ y, ys[i]? = some y ∧ f x = some y := by
 intro xs
 induction xs with
 | nil => intro ys h; simp at h; subst h; exact ⟨rfl, fun i x hx => by simp at hx⟩
 | cons a xs ih =>
  intro ys h
  rw [List.mapM_cons] at h
  cases ha : f a with
  | none => simp [ha] at h
  | some b =>
   cases hs : xs.mapM f with
   | none => simp [ha, hs] at h
   | some bs =>
    simp [ha, hs] at h
    subst h
    obtain ⟨h1, h2⟩ := ih hs
    refine ⟨by simp [h1], fun i x hx => ?_⟩
    cases i with
    | zero => simp at hx; subst hx; exact ⟨b, by simp, ha⟩
    | succ i => simp at hx; obtain ⟨y, h3, h4⟩ := h2 i x hx; exact ⟨y, by simpa using h3, h4⟩
structure mv (P : Program) (nt : Nat) (ops : Array Oper) (as : Array bB) : Prop where
 size : as.size = ops.size
 get : ∀ (i : Nat) (o : Oper), ops[i]? = some o → ∃ ao, as[i]? = some ao ∧ nb P nt ops o = some ao
theorem afP {l : List bB} (h : AM P nt ops = some l) : mv P nt ops l.toArray := by
 obtain ⟨h1, h2⟩ := afO h
 refine ⟨by simpa using h1, fun i o ho => ?_⟩
 obtain ⟨y, h3, h4⟩ := h2 i o (by simpa using ho)
 exact ⟨y, by simpa using h3, h4⟩
theorem mv.op (h : mv P nt ops as) {i : Nat} {ao : bB} (ha : as[i]? = some ao) : ∃ o, ops[i]? = some o ∧ nb P nt ops o = some ao := by
 have bW : i < ops.size := by rw [← h.size]; exact (Array.getElem?_eq_some_iff.1 ha).1
 obtain ⟨Bt, h1, h2⟩ := h.get i ops[i] (by simp [bW])
 rw [ha] at h1; cases h1
 exact ⟨ops[i], by simp [bW], h2⟩
theorem mv.lt (h : mv P nt ops as) {i : Nat} {ao : bB} (ha : as[i]? = some ao) : i < ops.size := by rw [← h.size]; exact (Array.getElem?_eq_some_iff.1 ha).1
def iM (as : Array bB) (j : Nat) : Option Pos := (as[j]?).bind (·.dst)
theorem Wx {l : List Pos} {p : Pos} : GF l p = true ↔ p ∈ l := by
 unfold GF
 rw [List.any_eq_true]
 constructor
 · rintro ⟨x, h1, h2⟩; rw [Pos.beq_iff.1 h2]; exact h1
 · intro h; exact ⟨p, h, Pos.beq_iff.2 rfl⟩
theorem Wy (hr : mv P nt ops as) (h : rH ops as = true) {i j : Nat} {d : Pos} (hi : iM as i = some d) (hj : iM as j = some d) : i = j := by
 unfold iM at hi hj
 cases dr : as[i]? with
 | none => rw [dr] at hi; cases hi
 | some ai =>
  cases eF : as[j]? with
  | none => rw [eF] at hj; cases hj
  | some aj =>
   have h1 := List.all_eq_true.1 h j (List.mem_range.2 (hr.lt eF))
   rw [hj] at h1
   have h2 := List.all_eq_true.1 h1 i (List.mem_range.2 (hr.lt dr))
   simp only [dr] at h2
   rw [dr] at hi
   have dS : ai.dst = some d := hi
   simp only [dS, Bool.and_eq_true, Bool.or_eq_true, beq_iff_eq] at h2
   rcases h2.1 with h3 | h3
   · exact h3
   · rw [Pos.beq_iff.2 rfl] at h3; cases h3
theorem afQ (hr : mv P nt ops as) (h : rH ops as = true) {i j : Nat} {a : bB} {d : Pos} (hi : as[i]? = some a) (hd : d ∈ a.reads) (hj : iM as j = some d) : i = j ∨ j ∈ fe ops i ∨ i ∈ fe ops j := by
 cases eF : as[j]? with
 | none => unfold iM at hj; rw [eF] at hj; cases hj
 | some aj =>
  have h1 := List.all_eq_true.1 h j (List.mem_range.2 (hr.lt eF))
  unfold iM at hj
  rw [hj] at h1
  have h2 := List.all_eq_true.1 h1 i (List.mem_range.2 (hr.lt hi))
  simp only [hi, Bool.and_eq_true, Bool.or_eq_true, beq_iff_eq, Wx.2 hd, Bool.not_true, Bool.false_eq_true, false_or, List.contains_iff_mem] at h2
  rcases h2.2 with (h3 | h3) | h3
  · exact .inl h3
  · exact .inr (.inl h3)
  · exact .inr (.inr h3)
theorem NR (hr : mv P nt ops as) {i j : Nat} {a : bB} {d : Pos} (hi : as[i]? = some a) (hd : d ∈ a.reads) (hj : iM as j = some d) (hn : j ∉ fe ops i) : qh ops as j = true := by
 unfold iM at hj
 cases eF : as[j]? with
 | none => rw [eF] at hj; cases hj
 | some aj =>
  unfold qh
  rw [eF]
  have : NS ops as j = true := by
   unfold NS
   rw [hj]
   refine List.any_eq_true.2 ⟨i, List.mem_range.2 (hr.lt hi), ?_⟩
   simp only [hi, Wx.2 hd, Bool.true_and, Bool.not_eq_true', List.contains_eq_mem, decide_eq_false_iff_not]
   exact hn
  simp [this]
theorem Wz {j : Nat} (h : qh ops as j = false) : ∃ a d, as[j]? = some a ∧ a.act.tg = false ∧ a.dst = some d := by
 unfold qh at h
 cases eF : as[j]? with
 | none => rw [eF] at h; cases h
 | some a =>
  rw [eF] at h
  simp only [Bool.or_eq_false_iff] at h
  cases hd : a.dst with
  | none => rw [hd] at h; simp at h
  | some d => exact ⟨a, d, rfl, h.1.1, hd⟩
theorem afR {a : jc} (h : a.tg = false) : ∃ p, a = .aQ p ∧ p.tg = false := by
 cases a with
 | aQ p => exact ⟨p, rfl, h⟩
 | _ => cases h
inductive rJ (ops : Array Oper) : List Nat → Prop where
 | nil : rJ ops []
 | cons (i : Nat) (l : List Nat) (h1 : i ∉ l) (h2 : ∀ p ∈ fe ops i, p ∈ l) (hl : rJ ops l) : rJ ops (i :: l)
theorem rJ.closed {l : List Nat} (h : rJ ops l) : ∀ j ∈ l, ∀ p ∈ fe ops j, p ∈ l := by
 induction h with
 | nil => intro j hj; cases hj
 | cons i l h1 h2 hl ih =>
  intro j hj p hp
  rcases List.mem_cons.1 hj with rfl | hj
  · exact List.mem_cons_of_mem _ (h2 p hp)
  · exact List.mem_cons_of_mem _ (ih j hj p hp)
theorem rJ.first {l : List Nat} (h : rJ ops l) {u : Nat → Bool} : (∃ x ∈ l, u x = true) → ∃ r ∈ l, u r = true ∧ ∀ p ∈ fe ops r, u p = false := by
 induction h with
 | nil => rintro ⟨x, hx, _⟩; cases hx
 | cons i l h1 h2 hl ih =>
  rintro ⟨x, hx, hu⟩
  by_cases hex : ∃ y ∈ l, u y = true
  · obtain ⟨r, q1, q2, q3⟩ := ih hex
    exact ⟨r, List.mem_cons_of_mem _ q1, q2, q3⟩
  · rcases List.mem_cons.1 hx with rfl | hx
    · refine ⟨x, List.mem_cons_self, hu, fun p hp => ?_⟩
      cases hup : u p with
      | false => rfl
      | true => exact absurd ⟨p, h2 p hp, hup⟩ hex
    · exact absurd ⟨x, hx, hu⟩ hex
theorem afS {good : Nat → Prop} (hg : ∀ j, good j → ∀ p ∈ fe ops j, good p) : ∀ (done S : List Nat), (∀ j ∈ S, good j) → ∀ j ∈ th ops S done, good j := by
 intro done
 induction done with
 | nil => intro S hS j hj; exact hS j hj
 | cons i done ih =>
  intro S hS j hj
  unfold th at hj
  split at hj
  · rename_i hc
    have hi := hS i (by simpa using hc)
    exact ih _ (fun q hq => by
     rcases List.mem_append.1 hq with hq | hq
     · exact hg i hi q hq
     · exact hS q hq) j hj
  · exact ih _ hS j hj
theorem afT {e : Env} {s : St} {k : KS} {rec : Task → Bool} {r : List jd} : ∀ {late : List Nat} {cs : List jd}, Bu as late = some cs → nW rec (cs ++ r) e s k = true → (∀ j ∈ late, ∃ a, as[j]? = some a ∧ yn a s = true) ∧ nW rec r e s k = true := by
 intro late
 induction late with
 | nil => intro cs hc h; cases hc; exact ⟨fun j hj => (by cases hj), h⟩
 | cons j late ih =>
  intro cs hc h
  unfold Bu at hc
  split at hc
  · rename_i a r' ha hr
    cases hc
    obtain ⟨h1, h2⟩ := cj (show iff (yn a s) (nW rec (r' ++ r) e s k) = true from h)
    obtain ⟨h3, h4⟩ := ih hr h2
    refine ⟨fun i hi => ?_, h4⟩
    rcases List.mem_cons.1 hi with rfl | hi
    · exact ⟨a, ha, h1⟩
    · exact h3 i hi
  · cases hc
end
end Go.Ve
namespace Go.Ve
open Go.RowKit
section
variable {P : Program} {w0 w : World} {φ : aK} {nt : Nat} {ops : Array Oper} {as : Array bB} {s : St} {b : Frame} {cs0 cs : List Frame} {a : Act} {o : Oper} {ao : bB} {d : Pos} {N : Nat}
inductive oa (N : Nat) (s : St) (φ : aK) (ao : bB) (d : Pos) : Prop where
 | off (h : lz ao.guard s.tm = false) (hu : s.tm.get d = undef)
 | val (p : Prim) (h : lz ao.guard s.tm = true) (ha : ao.act = .aQ p) (qi : p.tg = false) (hm : p.makes = false) (v : Value) (hv : jl v (s.tm.get d))
  (hd : ∀ h2 k2, kO s.h h2 → k2 v h2 = true → p.ev (ao.args.map (iL s.tm)) h2 k2 = true)
 | made (p : Prim) (h : lz ao.guard s.tm = true) (ha : ao.act = .aQ p) (hm : p.makes = true) (f : Nat) (ty : TypeId) (l m : List Value) (c : NT Value) (hf : Bs p (ao.args.map (iL s.tm)) ty l)
  (hs : s.tm.get d = p.made f) (ho : s.h.ob.get f = some (.cells 0 l.length ty true c)) (hc : ∀ (j : Nat) (v : Value), m[j]? = some v → c.get j = some v) (ti : nn l m) (hlen : m.length = l.length) (hφ : φ f = none) (hn : f < s.h.nx) (hN : N ≤ f)
def rK (s : St) (ao : bB) (d : Pos) (f : Nat) : Prop := ∃ p, ao.act = .aQ p ∧ p.makes = true ∧ lz ao.guard s.tm = true ∧ s.tm.get d = p.made f
theorem WA {p q : Prim} {f g : Nat} (h : p.made f = q.made g) : f = g := by
 unfold Prim.made az at h
 split at h <;> split at h <;> first | (cases h; rfl) | cases h
theorem afU {i : Nat} (hc : nb P nt ops o = some ao) (hr : ∀ p ∈ ao.reads, VR φ (s.tm.get p) (a.tmps.getD p.un undef)) : Region.wanted o (yielded ops a.tmps) = lz ao.guard s.tm := by
  obtain ⟨act, xs, args, h1, h2, rfl, rfl, h4, h5⟩ := x8 hc
  rcases h5 with ⟨g1, g2⟩ | ⟨g, want, t, g1, g2, g3⟩
  · rw [g2]; simp [Region.wanted, g1]; rfl
  · have hp : VR φ (s.tm.get (Pos.of t)) (a.tmps.getD t undef) := by
      have := hr (Pos.of t) (by unfold bB.reads; rw [g3]; simp)
      rw [Pos.lf] at this
      exact this
    rw [g3]
    cases hw : lz (some (Pos.of t, want)) s.tm with
    | true =>
      rcases Ms (φ := φ) (yes := true) (no := false) g1 g2 hp hw with ⟨q, _⟩ | ⟨_, q⟩
      · exact q
      · cases q
    | false =>
      have lS : nU (some (Pos.of t, want)) s.tm false true = true := by rw [NN, hw]; rfl
      rcases Ms (φ := φ) g1 g2 hp lS with ⟨_, q⟩ | ⟨q, _⟩
      · cases q
      · exact q
theorem afV {xs : List Operand} {ys : List ee} (hm : xs.mapM nS = some ys) (hr : ∀ p, ee.t p ∈ ys → VR φ (s.tm.get p) (a.tmps.getD p.un undef)) : LR φ (ys.map (iL s.tm)) (xs.map a.eval) := by
 classical
 obtain ⟨vs, h1, h2⟩ := UW (a := a) (s := s) (φ := φ) (k := fun vs => decide (vs = ys.map (iL s.tm))) hm hr (by rw [yo]; simp)
 have : vs = ys.map (iL s.tm) := by simpa using h2
 rw [← this]; exact h1
theorem afW {i : Nat} {rest : List Nat} {todo : List Item} (hc : nb P nt ops o = some ao) (ho : ops[i]? = some o) (hr : ∀ p ∈ ao.reads, VR φ (s.tm.get p) (a.tmps.getD p.un undef)) (H : HR P w0 φ s.h w) (hp : oa N s φ ao d) :
 ∃ v' w' φ', Steps P (lone (b.atR a (.inRegion ops (i :: rest) :: todo)) cs w) (lone (b.atR (a.put o.dst v') (.inRegion ops rest :: todo)) cs w') ∧ VR φ' (s.tm.get d) v' ∧ HR P w0 φ' s.h w' ∧ (N ≤ s.h.nx → Ext N φ φ') ∧
  (∀ f, f < s.h.nx → φ f = none → ¬ rK s ao d f → φ' f = none) := by
 classical
 have hg := afU (i := i) hc hr
 obtain ⟨act, xs, args, h1, h2, rfl, rfl, h4, h5⟩ := x8 hc
 have jS : LR φ (ao.args.map (iL s.tm)) (xs.map a.eval) := afV h2 fun p hp => hr p (by
  unfold bB.reads
  exact List.mem_append_left _ (List.mem_filterMap.2 ⟨.t p, hp, rfl⟩))
 cases hp with
 | off hw hu =>
  rw [hw] at hg
  refine ⟨undef, w, φ, .one ?_, by rw [hu]; exact VR.undef φ, H, fun _ => Ext.refl _ _, fun f _ h _ => h⟩
  have := stepR_op_skip (P := P) (b := b) (a := a) (k := todo) (cs := cs) (w := w) (ops := ops) (i := i) (rest := rest) (by simp [ho, hg])
  rw [ho] at this
  exact this
 | val p hw ha qi hm v hv hd =>
  rw [hw] at hg
  rw [ha] at h1
  rcases h1 with h1 | ⟨h1, _⟩
  rotate_left
  · cases h1; cases qi
  obtain ⟨v', w', u, h', φ', q1, q2, q3, q4, q5, q6⟩ := UE (fun _ => rfl) h1 H jS (hd s.h (fun u h' => decide (u = v ∧ h' = s.h)) (kO.refl _) (by simp))
  obtain ⟨rfl, rfl⟩ : u = v ∧ h' = s.h := by simpa using q2
  refine ⟨v', w', φ', ?_, (hv _ _).1 q5, q6, fun hN => q3.mono hN, fun f hf h _ => q3.out f hf h⟩
  have hs := rm (b := b) (a := a) (Mm h1)
  rcases q1 with q1 | ⟨q1, rfl⟩
  · exact .one (Mj ho hg (by rw [hs]; exact q1))
  · exact .one (UM ho hg (by rw [hs]; exact q1))
 | made p hw ha hm f ty l m c hf GG hob NU ti hlen hφ hn hN =>
  rw [hw] at hg
  rw [ha] at h1
  rcases h1 with h1 | ⟨h1, _⟩
  rotate_left
  · cases h1; cases hm
  obtain ⟨l', gB, cg⟩ := afL (w := w) h1 hm jS hf
  have rM : LR φ m l' := (ti _ _).1 gB
  have anU : l.length = l'.length := gB.length
  obtain ⟨H2, hE⟩ := H.newAt (f := f) (h' := s.h) (o' := .cells l'.toArray ty) (d := 0) (n := l'.length) hφ hob (fun _ _ _ => rfl) H.fresh H.top hn N hN (.cells _ _ _ _ _ _ _ _ _ (fun _ => rfl) (Nat.le_refl _) (by simp) fun q _ hq => by
   have WB : q < m.length := by omega
   obtain ⟨u, hu, hru⟩ := LR.get rM q _ (List.getElem?_eq_getElem WB)
   exact ⟨m[q], u, NU q _ (List.getElem?_eq_getElem WB), by simpa using hu, hru⟩)
  refine ⟨p.made w.heap.size, _, _, .one (Mj ho hg (by rw [rm (Mm h1)]; exact cg)), ?_, H2, fun _ => hE, fun g oR h dC => ?_⟩
  · rw [GG]; exact afM h1 hm _ _ _
  · have : g ≠ f := fun e => dC ⟨p, ha, hm, hw, by rw [e]; exact GG⟩
    rw [aK.iC _ _ this]; exact h
end
end Go.Ve
namespace Go.Ve
open Go.RowKit
section
variable {P : Program} {w0 w : World} {φ : aK} {nt : Nat} {ops : Array Oper} {as : Array bB} {s : St} {b : Frame} {cs0 cs : List Frame} {a : Act} {N : Nat} {done dR : List Nat} {L : Array Bool}
structure Inv (P : Program) (w0 : World) (N nt : Nat) (ops : Array Oper) (as : Array bB) (b : Frame) (cs0 : List Frame) (done dR : List Nat) (L : Array Bool) (φ : aK) (s : St) (cs : List Frame) (a : Act) (w : World) : Prop where
 size : L.size = ops.size
 sub : ∀ j, L.getD j false = true → j ∈ done
 late : ∀ j ∈ done, L.getD j false = false → j ∈ dR
 yp : ∀ j ∈ dR, qh ops as j = false ∧ j ∈ done
 closed : ∀ j, L.getD j false = true → ∀ p ∈ fe ops j, L.getD p false = true
 vo : rJ ops done
 lt : ∀ j ∈ done, j < ops.size
 sq : SQ P w0 φ s b cs0 cs a w
 tj : nt ≤ a.tmps.size
 yr : ∀ p : Pos, (∀ j ∈ done, L.getD j false = false → iM as j ≠ some p) → VR φ (s.tm.get p) (a.tmps.getD p.un undef)
 prom : ∀ j ∈ done, L.getD j false = false → ∀ (ao : bB) (d : Pos), as[j]? = some ao → ao.dst = some d → oa N s φ ao d
 GH : ∀ i ∈ done, ∀ j ∈ done, L.getD i false = false → L.getD j false = false → i ≠ j → ∀ (ao Bt : bB) (d d' : Pos) (f : Nat), as[i]? = some ao → as[j]? = some Bt → ao.dst = some d → Bt.dst = some d' → rK s ao d f → rK s Bt d' f → False
 nx : N ≤ s.h.nx
theorem Inv.reads (I : Inv P w0 N nt ops as b cs0 done dR L φ s cs a w) (hr : mv P nt ops as) (hs : rH ops as = true) {i : Nat} {ao : bB} (hi : as[i]? = some ao) (hb : ∀ p ∈ fe ops i, L.getD p false = true) (lT : i ∈ done → qh ops as i = false) (p : Pos) (hp : p ∈ ao.reads) :
 VR φ (s.tm.get p) (a.tmps.getD p.un undef) := by
 refine I.yr p fun j hj kr nV => ?_
 by_cases WD : j ∈ fe ops i
 · rw [hb j WD] at kr; cases kr
 · have WE := NR hr hi hp nV WD
   rw [(I.yp j (I.late j hj kr)).1] at WE
   cases WE
theorem NV (L : Array Bool) (i j : Nat) (hi : i < L.size) : (L.setIfInBounds i true).getD j false = if j = i then true else L.getD j false := by
 by_cases h : j = i
 · subst h; simp [hi]
 · rw [if_neg h]; exact getD_set_ne false (Ne.symm h)
theorem oa.ext {N : Nat} {φ' : aK} {ao : bB} {d : Pos} (h : oa N s φ ao d) (hE : ∀ f, f < s.h.nx → φ f = none → rK s ao d f → φ' f = none) : oa N s φ' ao d := by
 cases h with
 | off h hu => exact .off h hu
 | val p h ha qi hm v hv hd => exact .val p h ha qi hm v hv hd
 | made p h ha hm f ty l m c hf hs ho hc ti hlen hφ hn hN => exact .made p h ha hm f ty l m c hf hs ho hc ti hlen (hE f hn hφ ⟨p, ha, hm, h, hs⟩) hn hN
theorem Inv.exec (I : Inv P w0 N nt ops as b cs0 done dR L φ s cs a w) (hr : mv P nt ops as) (hs : rH ops as = true) {i : Nat} (hi : i ∈ done) (kr : L.getD i false = false) (hb : ∀ p ∈ fe ops i, L.getD p false = true) {rest : List Nat} {todo : List Item} :
 ∃ φ' a' w', Steps P (lone (b.atR a (.inRegion ops (i :: rest) :: todo)) cs w) (lone (b.atR a' (.inRegion ops rest :: todo)) cs w') ∧ Ext N φ φ' ∧ Inv P w0 N nt ops as b cs0 done dR (L.setIfInBounds i true) φ' s cs a' w' := by
 have bW := I.lt i hi
 have lT := (I.yp i (I.late i hi kr)).1
 obtain ⟨ao, d, dr, WG, hd⟩ := Wz lT
 obtain ⟨o, ho, hc⟩ := hr.op dr
 have hP := I.prom i hi kr ao d dr hd
 obtain ⟨v', w', φ', h1, h2, h3, h4, h5⟩ := afW (b := b) (cs := cs) (rest := rest) (todo := todo) hc ho (I.reads hr hs dr hb (fun _ => lT)) I.sq.heap hP
 have hE := h4 I.nx
 obtain ⟨act, xs, args, e1, e2, e3, e4, e5, e6⟩ := x8 hc
 obtain ⟨dn, AL, GI, oc⟩ : ∃ dn, o.dst = some dn ∧ dn < nt ∧ d = Pos.of dn := by
  rcases e5 with ⟨_, q⟩ | ⟨dn, q1, q2, q3⟩
  · rw [q] at hd; cases hd
  · rw [q3] at hd; cases hd; exact ⟨dn, q1, q2, rfl⟩
 have WH : d.un = dn := by rw [oc, Pos.lf]
 have nV : iM as i = some d := by unfold iM; rw [dr]; exact hd
 have cn := fun j => NV L i j (by rw [I.size]; exact bW)
 refine ⟨φ', a.put o.dst v', w', h1, hE, ?_⟩
 refine ⟨by simp [I.size], ?_, ?_, I.yp, ?_, I.vo, I.lt, ⟨by rw [Act.F0]; exact I.sq.df.ext hE, I.sq.rc.ext hE, h3⟩, by rw [AL]; simpa [Act.put] using I.tj, ?_, ?_, ?_, I.nx⟩
 · intro j hj
   rw [cn] at hj
   split at hj
   · rename_i e; rw [e]; exact hi
   · exact I.sub j hj
 · intro j hj hu
   rw [cn] at hu
   split at hu
   · cases hu
   · exact I.late j hj hu
 · intro j hj p hp
   rw [cn] at hj ⊢
   split at hj
   · rename_i e
     subst e
     split
     · rfl
     · exact hb p hp
   · split
     · rfl
     · exact I.closed j hj p hp
 · intro p hp
   rw [AL]
   by_cases mw : p = d
   · subst mw
     have eU : dn < a.tmps.size := Nat.lt_of_lt_of_le GI I.tj
     have : (a.put (some dn) v').tmps.getD p.un undef = v' := by rw [WH]; simp [Act.put, eU]
     rw [this]; exact h2
   · have dC : dn ≠ p.un := fun e => mw (Pos.sH (by rw [WH, e]))
     have : (a.put (some dn) v').tmps.getD p.un undef = a.tmps.getD p.un undef := by
      simp [Act.put, Array.getD_eq_getD_getElem?, Array.getElem?_setIfInBounds_ne dC]
     rw [this]
     refine VR.ext hE (I.yr p fun j hj hu => ?_)
     by_cases Bv : j = i
     · rw [Bv, nV]; intro e; cases e; exact mw rfl
     · exact hp j hj (by rw [cn, if_neg Bv]; exact hu)
 · intro j hj hu aj dj eF jD
   rw [cn] at hu
   split at hu
   · cases hu
   · rename_i dC
     exact (I.prom j hj hu aj dj eF jD).ext fun f hf hn hM => h5 f hf hn fun hM' => I.GH j hj i hi hu kr dC aj ao dj d f eF dr jD hd hM hM'
 · intro i1 Bw j1 Bx np kL dC
   rw [cn] at np kL
   split at np
   · cases np
   · split at kL
     · cases kL
     · exact I.GH i1 Bw j1 Bx np kL dC
end
end Go.Ve
namespace Go.Ve
open Go.RowKit
section
variable {P : Program} {w0 w : World} {φ : aK} {nt : Nat} {ops : Array Oper} {as : Array bB} {s : St} {b : Frame} {cs0 cs : List Frame} {a : Act} {N : Nat} {done dR : List Nat} {L : Array Bool}
theorem yt {ao : bB} {t t' : PT} (h : ∀ p ∈ ao.reads, t.get p = t'.get p) : lz ao.guard t = lz ao.guard t' := by
 cases hg : ao.guard with
 | none => rfl
 | some pw =>
  obtain ⟨p, want⟩ := pw
  have := h p (by unfold bB.reads; rw [hg]; simp)
  show PT.dH p t _ = PT.dH p t' _
  rw [PT.jU, PT.jU, this]
theorem GJ {ao : bB} {t t' : PT} (h : ∀ p ∈ ao.reads, t.get p = t'.get p) : ao.args.map (iL t) = ao.args.map (iL t') := by
 refine List.map_congr_left fun x hx => ?_
 cases x with
 | c v => rfl
 | t p => exact h p (by unfold bB.reads; exact List.mem_append_left _ (List.mem_filterMap.2 ⟨.t p, hx, rfl⟩))
theorem oa.state {ao : bB} {d : Pos} {s' : St} (h : oa N s φ ao d) (hr : ∀ p ∈ ao.reads, s.tm.get p = s'.tm.get p) (hd : s.tm.get d = s'.tm.get d) (hle : kO s.h s'.h) (jh : s.h.nx ≤ s'.h.nx) : oa N s' φ ao d := by
 have h1 := yt hr
 have h2 := GJ hr
 cases h with
 | off h hu => exact .off (h1 ▸ h) (hd ▸ hu)
 | val p h ha qi hm v hv NW => exact .val p (h1 ▸ h) ha qi hm v (hd ▸ hv) (fun hh k2 hl hk => h2 ▸ NW hh k2 (hle.trans hl) hk)
 | made p h ha hm f ty l m c hf hs ho hc ti hlen hφ hn hN => exact .made p (h1 ▸ h) ha hm f ty l m c (h2 ▸ hf) (hd ▸ hs) (hle _ _ ho) hc ti hlen hφ (Nat.lt_of_lt_of_le hn jh) hN
theorem rK.state {ao : bB} {d : Pos} {f : Nat} {s' : St} (h : rK s' ao d f) (hr : ∀ p ∈ ao.reads, s.tm.get p = s'.tm.get p) (hd : s.tm.get d = s'.tm.get d) : rK s ao d f := by
 obtain ⟨p, h1, h2, h3, h4⟩ := h
 exact ⟨p, h1, h2, by rw [yt hr]; exact h3, by rw [hd]; exact h4⟩
theorem Inv.grow (I : Inv P w0 N nt ops as b cs0 done dR L φ s cs a w) (hr : mv P nt ops as) (hs : rH ops as = true) {i : Nat} {ao : bB} {d : Pos} (hid : i ∉ done) (hb : ∀ p ∈ fe ops i, p ∈ done) (dr : as[i]? = some ao) (hd : ao.dst = some d) (lT : qh ops as i = false)
    {s' : St} {v : Value} (eg : s'.tm = s.tm.set d v) (sW : s'.df = s.df) (kg : s'.rc = s.rc) (H : HR P w0 φ s'.h w) (hle : kO s.h s'.h) (jh : s.h.nx ≤ s'.h.nx) (hP : oa N s' φ ao d) (hM : ∀ f, rK s' ao d f → s.h.nx ≤ f) :
    Inv P w0 N nt ops as b cs0 (i :: done) (i :: dR) L φ s' cs a w := by
  have nV : iM as i = some d := by unfold iM; rw [dr]; exact hd
  have kr : L.getD i false = false := by
    cases h : L.getD i false with
    | false => rfl
    | true => exact absurd (I.sub i h) hid
  have get : ∀ p, p ≠ d → s.tm.get p = s'.tm.get p := fun p hp => by rw [eg, PT.dc, if_neg hp]
  have tk : ∀ j ∈ done, ∀ aj : bB, as[j]? = some aj → ∀ p ∈ aj.reads, s.tm.get p = s'.tm.get p := fun j hj aj eF p hp => get p fun e => by
    subst e
    by_cases GK : i ∈ fe ops j
    · exact hid (I.vo.closed j hj i GK)
    · have := NR hr eF hp nV GK
      rw [lT] at this; cases this
  have tl : ∀ j ∈ done, ∀ (aj : bB) (dj : Pos), as[j]? = some aj → aj.dst = some dj → s.tm.get dj = s'.tm.get dj := fun j hj aj dj eF jD => get dj fun e => by
    subst e
    have NX : iM as j = some dj := by unfold iM; rw [eF]; exact jD
    have := Wy hr hs NX nV
    subst this
    exact hid hj
  refine ⟨I.size, fun j hj => List.mem_cons_of_mem _ (I.sub j hj), ?_, ?_, I.closed, .cons _ _ hid hb I.vo, ?_, ⟨sW ▸ I.sq.df, kg ▸ I.sq.rc, H⟩, I.tj, ?_, ?_, ?_, Nat.le_trans I.nx jh⟩
  · intro j hj hu
    rcases List.mem_cons.1 hj with rfl | hj
    · exact List.mem_cons_self
    · exact List.mem_cons_of_mem _ (I.late j hj hu)
  · intro j hj
    rcases List.mem_cons.1 hj with rfl | hj
    · exact ⟨lT, List.mem_cons_self⟩
    · exact ⟨(I.yp j hj).1, List.mem_cons_of_mem _ (I.yp j hj).2⟩
  · intro j hj
    rcases List.mem_cons.1 hj with rfl | hj
    · exact hr.lt dr
    · exact I.lt j hj
  · intro p hp
    have mw : p ≠ d := fun e => hp i List.mem_cons_self kr (by rw [e]; exact nV)
    rw [← get p mw]
    exact I.yr p fun j hj hu => hp j (List.mem_cons_of_mem _ hj) hu
  · intro j hj hu aj dj eF jD
    rcases List.mem_cons.1 hj with rfl | hj
    · rw [dr] at eF; cases eF
      rw [hd] at jD; cases jD
      exact hP
    · exact (I.prom j hj hu aj dj eF jD).state (tk j hj aj eF) (tl j hj aj dj eF jD) hle jh
  · have old : ∀ j ∈ done, L.getD j false = false → ∀ (aj : bB) (dj : Pos) (f : Nat), as[j]? = some aj → aj.dst = some dj → rK s' aj dj f → f < s.h.nx := by
      intro j hj hu aj dj f eF jD hm
      obtain ⟨p, q1, q2, q3, q4⟩ := hm.state (tk j hj aj eF) (tl j hj aj dj eF jD)
      cases I.prom j hj hu aj dj eF jD with
      | off h hu => rw [q3] at h; cases h
      | val p' h ha qi hm v hv NW => rw [ha] at q1; cases q1; rw [hm] at q2; cases q2
      | made p' h ha hm f' ty l m c hf GG ho hc ti hlen hφ hn hN => rw [GG] at q4; rw [← WA q4]; exact hn
    intro i1 Bw j1 Bx np kL dC a1 a2 d1 d2 f h1 h2 h3 h4 m1 m2
    rcases List.mem_cons.1 Bw with rfl | fx <;> rcases List.mem_cons.1 Bx with rfl | qj
    · exact dC rfl
    · rw [dr] at h1; cases h1
      rw [hd] at h3; cases h3
      have q1 := hM f m1
      have q2 := old j1 qj kL a2 d2 f h2 h4 m2
      omega
    · rw [dr] at h2; cases h2
      rw [hd] at h4; cases h4
      have q1 := hM f m2
      have q2 := old i1 fx np a1 d1 f h1 h3 m1
      omega
    · exact I.GH i1 fx j1 qj np kL dC a1 a2 d1 d2 f h1 h2 h3 h4 (m1.state (tk i1 fx a1 h1) (tl i1 fx a1 d1 h1 h3)) (m2.state (tk j1 qj a2 h2) (tl j1 qj a2 d2 h2 h4))
end
end Go.Ve
namespace Go.Ve
open Go.RowKit
section
variable {P : Program} {w0 w : World} {φ : aK} {nt : Nat} {ops : Array Oper} {as : Array bB} {s : St} {b : Frame} {cs0 cs : List Frame} {a : Act} {N : Nat} {done dR : List Nat} {L : Array Bool}
theorem HR.spare {h : AH} (H : HR P w0 φ h w) {o : AO} {aW : NT AO} (hs : h.ob.iT h.nx (some o) aW) : HR P w0 φ ⟨h.nx + 1, aW⟩ w := by
 have dC : ∀ f, φ f ≠ none → f ≠ h.nx := fun f hf e => hf (by rw [e]; exact H.fresh _ (Nat.le_refl _))
 refine ⟨H.inj, fun f hf => H.fresh f (by have : h.nx + 1 ≤ f := hf; omega), fun f hf => ?_, fun f hf => ?_, fun f bl d n hf => ?_, H.below⟩
 · have : h.nx + 1 ≤ f := hf
   show aW.get f = none
   rw [hs.2 f (by omega)]; exact H.top f (by omega)
 · show aW.get f = none
   rw [hs.2 f (dC f (by rw [hf]; simp))]; exact H.dead f hf
 · obtain ⟨o1, o2, q1, q2⟩ := H.obj f bl d n hf
   exact ⟨o1, o2, by show aW.get f = some o1; rw [hs.2 f (dC f (by rw [hf]; simp))]; exact q1, q2⟩
theorem kO.spare {h : AH} (H : HR P w0 φ h w) {o : AO} {aW : NT AO} (hs : h.ob.iT h.nx (some o) aW) : kO h ⟨h.nx + 1, aW⟩ := fun f o1 ho => by
 have : f ≠ h.nx := fun e => by rw [e, H.top _ (Nat.le_refl _)] at ho; cases ho
 show aW.get f = some o1
 rw [hs.2 f this]; exact ho
theorem Inv.WI (I : Inv P w0 N nt ops as b cs0 done dR L φ s cs a w) (hr : mv P nt ops as) (hs : rH ops as = true) {i : Nat} {ao : bB} (hid : i ∉ done) (hb : ∀ p ∈ fe ops i, p ∈ done) (dr : as[i]? = some ao) (lT : qh ops as i = false)
 {rec : Task → Bool} {e : Env} {fail : KS} {k : St → Bool} (h : sV rec ao e s fail k = true) : ∃ s', k s' = true ∧ Inv P w0 N nt ops as b cs0 (i :: done) (i :: dR) L φ s' cs a w ∧ s.h.nx ≤ s'.h.nx := by
 obtain ⟨Bt, d, WJ, WG, hd⟩ := Wz lT
 rw [dr] at WJ; cases WJ
 obtain ⟨p, hp, WK⟩ := afR WG
 have nV : iM as i = some d := by unfold iM; rw [dr]; exact hd
 have afX : d ∉ ao.reads := fun hm => by
  have GK : i ∉ fe ops i := fun h => hid (hb i h)
  have := NR hr dr hm nV GK
  rw [lT] at this; cases this
 have h1 : (bif lz ao.guard s.tm then p.ev (ao.args.map (iL s.tm)) s.h (fun v h => iz (some d) s v h k) else iz (some d) s undef s.h k) = true := by
  have h' : nU ao.guard s.tm (nT ao.args s.tm (x9 rec ao.act ao.dst e s fail k)) (iz ao.dst s undef s.h k) = true := by cases ao; exact h
  rw [NN, yo, hd, hp] at h'
  exact h'
 have cB : ∀ (v : Value) (q : Pos), q ∈ ao.reads → (s.tm.set d v).get q = s.tm.get q := fun v q hq => by rw [PT.dc, if_neg (fun e => afX (by rw [← e]; exact hq))]
 cases hw : lz ao.guard s.tm with
 | false =>
  rw [hw] at h1
  have h2 : iz (some d) s undef s.h k = true := h1
  rw [Br] at h2
  have lS : lz ao.guard (s.tm.set d undef) = false := by rw [yt (cB undef)]; exact hw
  refine ⟨_, h2, I.grow hr hs hid hb dr hd lT (v := undef) rfl rfl rfl I.sq.heap (kO.refl _) (Nat.le_refl _) (.off lS (by simp [PT.dc])) (fun f hm => ?_), Nat.le_refl _⟩
  obtain ⟨_, _, _, q3, _⟩ := hm
  have sQ : lz ao.guard (s.tm.set d undef) = true := q3
  rw [lS] at sQ; cases sQ
 | true =>
  rw [hw] at h1
  have h2 : p.ev (ao.args.map (iL s.tm)) s.h (fun v h => iz (some d) s v h k) = true := h1
  cases hm : p.makes with
  | false =>
   obtain ⟨v, h3, h4⟩ := Wq p WK hm _ _ _ h2
   rw [Br] at h3
   have lS : lz ao.guard (s.tm.set d v) = true := by rw [yt (cB v)]; exact hw
   refine ⟨_, h3, I.grow hr hs hid hb dr hd lT (v := v) rfl rfl rfl I.sq.heap (kO.refl _) (Nat.le_refl _) (.val p lS hp WK hm v (by simp [PT.dc]; exact jl.refl v) (fun hh k2 hl hk => ?_)) (fun f NY => ?_), Nat.le_refl _⟩
   · show p.ev (ao.args.map (iL (s.tm.set d v))) hh k2 = true
     rw [GJ (cB v)]
     exact h4 hh k2 hl hk
   · obtain ⟨p', q1, q2, _, _⟩ := NY
     rw [hp] at q1; cases q1
     rw [hm] at q2; cases q2
  | true =>
   obtain ⟨ty, l, c, aW, h3, h4, h5, h6, h7⟩ := afK hm h2
   rw [Br] at h7
   have lS : lz ao.guard (s.tm.set d (p.made s.h.nx)) = true := by rw [yt (cB _)]; exact hw
   refine ⟨_, h7, I.grow hr hs hid hb dr hd lT (v := p.made s.h.nx) rfl rfl rfl (I.sq.heap.spare h6) (kO.spare I.sq.heap h6) (Nat.le_succ _) (.made p lS hp hm s.h.nx ty l l c ?_ (by simp [PT.dc]) h6.1 h5 (nn.refl l) rfl (I.sq.heap.fresh _ (Nat.le_refl _)) (Nat.lt_succ_self _) I.nx) (fun f NY => ?_), Nat.le_succ _⟩
   · show Bs p (ao.args.map (iL (s.tm.set d (p.made s.h.nx)))) ty l
     rw [GJ (cB _)]; exact h3
   · obtain ⟨p', q1, q2, _, q4⟩ := NY
     have FO : (s.tm.set d (p.made s.h.nx)).get d = p'.made f := q4
     rw [PT.dc, if_pos rfl] at FO
     rw [← WA FO]
     exact Nat.le_refl _
end
end Go.Ve
namespace Go.Ve
open Go.RowKit
section
variable {P : Program} {w0 w : World} {φ : aK} {nt : Nat} {ops : Array Oper} {as : Array bB} {s : St} {b : Frame} {cs0 cs : List Frame} {a : Act} {N : Nat} {done dR : List Nat} {L : Array Bool}
theorem oa.lM {ao : bB} {d : Pos} {s' : St} {φ' : aK} (h : oa N s φ ao d) (pZ : ao.dst = some d) (hr : ∀ p ∈ ao.reads, s.tm.get p = s'.tm.get p) (hd : s.tm.get d = s'.tm.get d) (hE : Ext s.h.nx φ φ') (jh : s.h.nx ≤ s'.h.nx) (hc : yn ao s' = true) : oa N s' φ' ao d := by
 have h1 := yt hr
 have h2 := GJ hr
 have gC : (bif lz ao.guard s'.tm then (jc.casesOn (motive := fun _ => Bool) ao.act (Bm ao.dst s' (ao.args.map (iL s'.tm))) mu false false false false) else true) = true := by
  have h' : nU ao.guard s'.tm (nT ao.args s'.tm fun vs => jc.casesOn (motive := fun _ => Bool) ao.act (Bm ao.dst s' vs) mu false false false false) true = true := by cases ao; exact hc
  rw [NN, yo] at h'
  exact h'
 cases h with
 | off h hu => exact .off (h1 ▸ h) (hd ▸ hu)
 | val p h ha qi hm v hv NW =>
  rw [h1] at h
  rw [h, ha, pZ] at gC
  have yu : PT.dH d s'.tm (fun v => bif p.makes then p.fresh (ao.args.map (iL s'.tm)) (vk s' v) else p.ev (ao.args.map (iL s'.tm)) s'.h (Bl v)) = true := gC
  rw [PT.jU, hm] at yu
  obtain ⟨u, q1, q2⟩ := Wq p qi hm _ _ _ (show p.ev (ao.args.map (iL s'.tm)) s'.h (Bl (s'.tm.get d)) = true from yu)
  exact .val p h ha qi hm u (afI q1) q2
 | made p h ha hm f ty l m c hf hs ho oS ti hlen hφ hn hN =>
  rw [h1] at h
  rw [h, ha, pZ] at gC
  have yu : PT.dH d s'.tm (fun v => bif p.makes then p.fresh (ao.args.map (iL s'.tm)) (vk s' v) else p.ev (ao.args.map (iL s'.tm)) s'.h (Bl v)) = true := gC
  rw [PT.jU, hm] at yu
  obtain ⟨cz, l', q1, q2⟩ := afJ (show p.fresh (ao.args.map (iL s'.tm)) (vk s' (s'.tm.get d)) = true from yu)
  rw [← hd, hs] at q1
  have WM : NC (p.made f) (fun b => lv s'.h b fun lo hi afY rw c => iff (rw && Nat.beq lo 0 && Nat.beq hi l'.length && Nat.beq cz afY) (n5 c 0 l'.length fun m => n8 m l')) = true := q1
  rw [afN] at WM
  obtain ⟨lo, hi, ty2, rw2, c2, u1, u2⟩ := rN WM
  obtain ⟨u3, u4⟩ := cj u2
  obtain ⟨m', u5, u6, u7⟩ := GL _ u4
  simp only [Bool.and_eq_true, Nat.beq_eq] at u3
  obtain ⟨⟨⟨e1, e2⟩, e3⟩, e4⟩ := u3
  subst e1; subst e2; subst e3; subst e4
  exact .made p h ha hm f cz l' m' c2 q2 (hd ▸ hs) u1 (fun j v hj => by have := u7 j v hj; rwa [Nat.zero_add] at this) (fun φ x => (GD u5 φ x).symm) u6 (hE.out f hn hφ) (Nat.lt_of_lt_of_le hn jh) hN
end
end Go.Ve
namespace Go.Ve
open Go.RowKit
section
variable {P : Program} {w0 w : World} {φ : aK} {ops : Array Oper} {as : Array bB} {s : St} {e : Env} {b : Frame} {cs0 cs : List Frame} {a : Act} {N : Nat} {done dR : List Nat} {L : Array Bool}
theorem Inv.act (I : Inv P w0 N e.nt ops as b cs0 done dR L φ s cs a w) (hr : mv P e.nt ops as) (hs : rH ops as = true) (he : lP φ e b) {rec : Task → Bool} (cJ : ∀ t, rec t = true → dD P w0 t) {i : Nat} {ao : bB} (hid : i ∉ done) (dr : as[i]? = some ao) (tp : ∀ p ∈ fe ops i, L.getD p false = true)
 {k : KS} {late : List Nat} (WT : ∀ j ∈ dR, L.getD j false = false → j ∈ late) (hlp : ∀ j ∈ late, j ∈ dR) {lM r : List jd} (N2 : Bu as late = some lM) (h : sV rec ao e s k (fun s => nW rec (lM ++ r) e s k) = true) {rest : List Nat} {todo : List Item} :
 (∃ φ' s' cy a' w', nW rec r e s' k = true ∧ Ext N φ φ' ∧ Inv P w0 N e.nt ops as b cs0 (i :: done) late (L.setIfInBounds i true) φ' s' cy a' w' ∧ Steps P (lone (b.atR a (.inRegion ops (i :: rest) :: todo)) cs w) (lone (b.atR a' (.inRegion ops rest :: todo)) cy w')) ∨
 iV P w0 φ N e b cs0 (lone (b.atR a (.inRegion ops (i :: rest) :: todo)) cs w) todo k := by
 obtain ⟨o, ho, hc⟩ := hr.op dr
 have bW := hr.lt dr
 rcases UX (rest := rest) (todo := todo) cJ hc ho I.sq he (I.reads hr hs dr tp fun hi => absurd hi hid) h with ⟨v, v', s1, φ', w', cy, jC, h1, h2, h3, h4, h5, h6, h7⟩ | ⟨v, v', s1, φ', w', h1, h3, h4, h5, h6, h7⟩
 · left
   rw [Br] at h1
   obtain ⟨af0, hk⟩ := afT N2 h1
   obtain ⟨act, xs, args, e1, e2, e3, e4, e5, e6⟩ := x8 hc
   have cn := fun j => NV L i j (by rw [I.size]; exact bW)
   have hb : ∀ p ∈ fe ops i, p ∈ done := fun p hp => I.sub p (tp p hp)
   have kr : L.getD i false = false := by
    cases hh : L.getD i false with
    | false => rfl
    | true => exact absurd (I.sub i hh) hid
   have get : ∀ p, ao.dst ≠ some p → s.tm.get p = (match ao.dst with | none => s1.tm | some q => s1.tm.set q v).get p := by
    intro p hp
    cases hd : ao.dst with
    | none => simp only; rw [h2]
    | some q =>
     simp only
     rw [PT.dc, if_neg (fun e => hp (by rw [hd, e])), h2]
   have tk : ∀ j ∈ done, L.getD j false = false → ∀ aj : bB, as[j]? = some aj → ∀ p ∈ aj.reads, ao.dst ≠ some p := fun j hj hu aj eF p hp hd => by
    have N3 : iM as i = some p := by unfold iM; rw [dr]; exact hd
    rcases afQ hr hs eF hp N3 with rfl | h | h
    · exact hid hj
    · exact hid (I.vo.closed j hj i h)
    · rw [tp j h] at hu; cases hu
   have tl : ∀ j ∈ done, ∀ (aj : bB) (dj : Pos), as[j]? = some aj → aj.dst = some dj → ao.dst ≠ some dj := fun j hj aj dj eF jD hd => by
    have N3 : iM as i = some dj := by unfold iM; rw [dr]; exact hd
    have NX : iM as j = some dj := by unfold iM; rw [eF]; exact jD
    have := Wy hr hs NX N3
    subst this
    exact hid hj
   refine ⟨φ', _, cy, _, w', hk, h3.mono I.nx, ?_, h7⟩
   refine ⟨by simp [I.size], ?_, ?_, ?_, ?_, .cons _ _ hid hb I.vo, ?_, ⟨by rw [Act.F0]; exact h6.df, h6.rc, h6.heap⟩, ?_, ?_, ?_, ?_, Nat.le_trans I.nx h4⟩
   · intro j hj
     rw [cn] at hj
     split at hj
     · rename_i e; rw [e]; exact List.mem_cons_self
     · exact List.mem_cons_of_mem _ (I.sub j hj)
   · intro j hj hu
     rw [cn] at hu
     split at hu
     · cases hu
     · rename_i dC
       rcases List.mem_cons.1 hj with hj | hj
       · exact absurd hj dC
       · exact WT j (I.late j hj hu) hu
   · intro j hj
     have := I.yp j (hlp j hj)
     exact ⟨this.1, List.mem_cons_of_mem _ this.2⟩
   · intro j hj p hp
     rw [cn] at hj ⊢
     split at hj
     · rename_i e
       subst e
       split
       · rfl
       · exact tp p hp
     · split
       · rfl
       · exact I.closed j hj p hp
   · intro j hj
     rcases List.mem_cons.1 hj with rfl | hj
     · exact bW
     · exact I.lt j hj
   · rcases e5 with ⟨q1, _⟩ | ⟨dn, q1, _, _⟩
     · rw [q1]; exact I.tj
     · rw [q1]; simpa [Act.put] using I.tj
   · intro p hp
     have hold : ao.dst ≠ some p → VR φ' (s.tm.get p) (a.tmps.getD p.un undef) := fun mw => VR.ext h3 (I.yr p fun j hj hu jD => by
      by_cases Bv : j = i
      · subst Bv; exact hid hj
      · exact hp j (List.mem_cons_of_mem _ hj) (by rw [cn, if_neg Bv]; exact hu) jD)
     by_cases mw : ao.dst = some p
     · rcases e5 with ⟨_, q2⟩ | ⟨dn, q1, GI, q3⟩
       · rw [q2] at mw; cases mw
       · rw [q3] at mw; cases mw
         have eU : dn < a.tmps.size := Nat.lt_of_lt_of_le GI I.tj
         rw [q1, q3, Pos.lf]
         have : (({ a with defers := jC } : Act).put (some dn) v').tmps.getD dn undef = v' := by simp [Act.put, eU]
         rw [this]
         simp only [PT.dc, if_true]
         exact h5
     · have hg := get p mw
       have : (({ a with defers := jC } : Act).put o.dst v').tmps.getD p.un undef = a.tmps.getD p.un undef := by
        rcases e5 with ⟨q1, _⟩ | ⟨dn, q1, GI, q3⟩
        · rw [q1]; rfl
        · have dC : dn ≠ p.un := fun e => mw (by rw [q3]; congr 1; exact Pos.sH (by rw [Pos.lf, e]))
          rw [q1]
          simp [Act.put, Array.getD_eq_getD_getElem?, Array.getElem?_setIfInBounds_ne dC]
       rw [this]
       have key := hold mw
       rw [hg] at key
       exact key
   · intro j hj hu aj dj eF jD
     rw [cn] at hu
     split at hu
     · cases hu
     · rename_i dC
       rcases List.mem_cons.1 hj with hj | hj
       · exact absurd hj dC
       · obtain ⟨aj', WU, rh⟩ := af0 j (WT j (I.late j hj hu) hu)
         rw [eF] at WU; cases WU
         exact (I.prom j hj hu aj dj eF jD).lM jD (fun p hp => get p (tk j hj hu aj eF p hp)) (get dj (tl j hj aj dj eF jD)) h3 h4 rh
   · intro i1 Bw j1 Bx np kL dC a1 a2 d1 d2 f g1 g2 g3 g4 m1 m2
     rw [cn] at np kL
     split at np
     · cases np
     · rename_i n1
       split at kL
       · cases kL
       · rename_i n2
         rcases List.mem_cons.1 Bw with fx | fx
         · exact n1 fx
         · rcases List.mem_cons.1 Bx with qj | qj
           · exact n2 qj
           · exact I.GH i1 fx j1 qj np kL dC a1 a2 d1 d2 f g1 g2 g3 g4 (m1.state (fun p hp => get p (tk i1 fx np a1 g1 p hp)) (get d1 (tl i1 fx a1 d1 g1 g3))) (m2.state (fun p hp => get p (tk j1 qj kL a2 g2 p hp)) (get d2 (tl j1 qj a2 d2 g2 g4)))
 · right
   exact ⟨.aP v, s1, φ', cs, a, w', h1, h3.mono I.nx, Nat.le_trans I.nx h4, h6, ⟨_, v', h5, h7⟩⟩
end
end Go.Ve
namespace Go.Ve
open Go.RowKit
section
variable {P : Program} {w0 w : World} {φ : aK} {ops : Array Oper} {as : Array bB} {s : St} {e : Env} {b : Frame} {cs0 cs : List Frame} {a : Act} {N : Nat} {done dR : List Nat} {L : Array Bool}
theorem WV {o : Oper} {j p : Nat} (ho : ops[j]? = some o) : p ∈ fe ops j ↔ ∃ x ∈ o.after, Region.binds .any x = true ∧ x.on = p := by
 unfold fe WO
 rw [ho]
 simp only [List.mem_map, List.mem_filter, Array.mem_toList_iff]
 constructor
 · rintro ⟨x, ⟨h1, h2⟩, h3⟩; exact ⟨x, h1, h2, h3⟩
 · rintro ⟨x, h1, h2, h3⟩; exact ⟨x, ⟨h1, h2⟩, h3⟩
theorem By (hL : L.size = ops.size) {j : Nat} : j ∈ Region.ready .any ops L ↔ j < ops.size ∧ L.getD j false = false ∧ ∀ p ∈ fe ops j, L.getD p false = true := by
 rw [mem_ready]
 constructor
 · rintro ⟨h1, o, ho, h2⟩
   have bW : j < ops.size := (Array.getElem?_eq_some_iff.1 ho).1
   refine ⟨bW, ?_, fun p hp => ?_⟩
   · have : j < L.size := by omega
     simpa [Array.getD, this] using h1
   · obtain ⟨x, q1, q2, rfl⟩ := (WV ho).1 hp
     exact h2 x q1 q2
 · rintro ⟨bW, h1, h2⟩
   refine ⟨?_, ops[j], by simp [bW], fun x hx hbx => h2 x.on ((WV (by simp [bW])).2 ⟨x, hx, hbx, rfl⟩)⟩
   have : j < L.size := by omega
   simpa [Array.getD, this] using h1
theorem af1 {md : Region.Mode} {fuel t : Nat} (h : Region.ready md ops L = []) : Region.linearise.go md ops fuel t L [] = [] := by
 cases fuel with
 | zero => simp [Region.linearise.go]
 | succ fuel =>
  simp only [Region.linearise.go]
  change (match (Region.ready md ops L)[t % (Region.ready md ops L).length]? with
   | some i => Region.linearise.go md ops fuel (t / (Region.ready md ops L).length) (L.setIfInBounds i true) [i]
   | none => [].reverse) = []
  rw [h]; rfl
theorem WW {md : Region.Mode} {fuel t : Nat} (h : Region.ready md ops L ≠ []) : ∃ i t', i ∈ Region.ready md ops L ∧ Region.linearise.go md ops (fuel + 1) t L [] = i :: Region.linearise.go md ops fuel t' (L.setIfInBounds i true) [] := by
 have hlen : 0 < (Region.ready md ops L).length := List.length_pos_iff.2 h
 have bW : t % (Region.ready md ops L).length < (Region.ready md ops L).length := Nat.mod_lt _ hlen
 have hi : (Region.ready md ops L)[t % (Region.ready md ops L).length]? = some (Region.ready md ops L)[t % (Region.ready md ops L).length] := List.getElem?_eq_getElem bW
 refine ⟨(Region.ready md ops L)[t % (Region.ready md ops L).length], t / (Region.ready md ops L).length, List.getElem_mem bW, ?_⟩
 conv => lhs; simp only [Region.linearise.go]
 change (match (Region.ready md ops L)[t % (Region.ready md ops L).length]? with
  | some i => Region.linearise.go md ops fuel (t / (Region.ready md ops L).length) (L.setIfInBounds i true) [i]
  | none => [].reverse) = _
 rw [hi]
 simp only []
 rw [linearise_go_acc, List.reverse_singleton, List.singleton_append]
def yx (ops : Array Oper) (L : Array Bool) : Nat := (List.range ops.size).countP fun j => !L.getD j false
theorem countP_set {p q : Nat → Bool} {r : Nat} (h : ∀ j, q j = true → p j = true ∧ j ≠ r) (hpr : p r = true) : ∀ {l : List Nat}, r ∈ l → l.countP q + 1 ≤ l.countP p := by
  have mono : ∀ l : List Nat, l.countP q ≤ l.countP p := fun l => List.countP_mono_left fun x _ hx => (h x hx).1
  intro l
  induction l with
  | nil => intro hm; cases hm
  | cons x l ih =>
    intro hm
    by_cases hx : x = r
    · subst hx
      have hq : q x = false := by
        cases hh : q x with
        | false => rfl
        | true => exact absurd rfl (h x hh).2
      have := mono l
      simp [List.countP_cons, hq, hpr]
      exact this
    · have nR : r ∈ l := by
        rcases List.mem_cons.1 hm with hm | hm
        · exact absurd hm.symm hx
        · exact hm
      have := ih nR
      rw [List.countP_cons, List.countP_cons]
      cases hq : q x with
      | false => simp; omega
      | true => rw [(h x hq).1]; simp; omega
theorem WX (hL : L.size = ops.size) {i : Nat} (hi : i < ops.size) (hu : L.getD i false = false) : yx ops (L.setIfInBounds i true) + 1 ≤ yx ops L := by
 refine countP_set (r := i) (fun j hj => ?_) (by rw [hu]; rfl) (List.mem_range.2 hi)
 rw [NV L i j (by omega)] at hj
 split at hj
 · cases hj
 · rename_i dC; exact ⟨hj, dC⟩
theorem N4 {i : Nat} (hi : i < ops.size) (hu : L.getD i false = false) : 0 < yx ops L := List.countP_pos_iff.2 ⟨i, List.mem_range.2 hi, by rw [hu]; rfl⟩
theorem af2 (hr : mv P e.nt ops as) (hs : rH ops as = true) {rec : Task → Bool} (cJ : ∀ t, rec t = true → dD P w0 t) {k : KS} {todo : List Item} : ∀ (n : Nat) (order : List Nat) (fuel t : Nat) {done dR : List Nat} {L : Array Bool} {φ : aK} {s : St} {cs : List Frame} {a : Act} {w : World} {dl : List jd},
    order.length + fuel ≤ n → Inv P w0 N e.nt ops as b cs0 done dR L φ s cs a w → lP φ e b → tn ops as done dR order = some dl → nW rec dl e s k = true → yx ops L ≤ fuel →
    iV P w0 φ N e b cs0 (lone (b.atR a (.inRegion ops (Region.linearise.go .any ops fuel t L []) :: todo)) cs w) todo k := by
  intro n
  induction n with
  | zero =>
    intro order fuel t done dR L φ s cs a w dl hn I he ib hk hu
    have h0 : order = [] := by cases order with | nil => rfl | cons _ _ => simp at hn
    have hf : fuel = 0 := by omega
    subst h0; subst hf
    unfold tn at ib
    split at ib
    · rename_i fV
      cases ib
      have rO : ∀ j, j < ops.size → L.getD j false = true := fun j hj => by
        cases h : L.getD j false with
        | true => rfl
        | false => have := N4 hj h; omega
      refine ⟨.normal, s, φ, cs, a, w, hk, Ext.refl _ _, I.nx, ⟨I.sq, I.tj, fun p => I.yr p fun j hj bG => ?_⟩, ?_⟩
      · rw [rO j (I.lt j hj)] at bG; cases bG
      · simp only [Region.linearise.go, List.reverse_nil]; exact .one stepR_region_end
    · cases ib
  | succ n ih =>
    intro order fuel t done dR L φ s cs a w dl hn I he ib hk hu
    have run : ∀ (i : Nat) (fuel t' : Nat), order.length + fuel ≤ n → i ∈ done → L.getD i false = false → (∀ p ∈ fe ops i, L.getD p false = true) → yx ops L ≤ fuel + 1 →
        iV P w0 φ N e b cs0 (lone (b.atR a (.inRegion ops (i :: Region.linearise.go .any ops fuel t' (L.setIfInBounds i true) []) :: todo)) cs w) todo k := by
      intro i fuel t' N5 hid kr tp bG
      obtain ⟨φ', a', w', h1, h2, h3⟩ := I.exec hr hs hid kr tp (rest := Region.linearise.go .any ops fuel t' (L.setIfInBounds i true) []) (todo := todo)
      have := WX I.size (I.lt i hid) kr
      exact (ih order fuel t' N5 h3 (he.ext h2) ib hk (by omega)).of_steps h2 (Nat.le_refl _) h1
    cases order with
    | nil =>
      by_cases hex : ∃ x ∈ done, (fun j => !L.getD j false) x = true
      · obtain ⟨r, q1, q2, q3⟩ := I.vo.first hex
        have kr : L.getD r false = false := by simpa using q2
        have n3 : r ∈ Region.ready .any ops L := (By I.size).2 ⟨I.lt r q1, kr, fun p hp => by simpa using q3 p hp⟩
        have oc := N4 (I.lt r q1) kr
        obtain ⟨f', rfl⟩ : ∃ f', fuel = f' + 1 := ⟨fuel - 1, by omega⟩
        obtain ⟨i, t', hi, uT⟩ := WW (fuel := f') (t := t) (List.ne_nil_of_mem n3)
        rw [uT]
        obtain ⟨i1, i2, i3⟩ := (By I.size).1 hi
        have fV := ib
        unfold tn at fV
        split at fV
        · rename_i hc
          have hid : i ∈ done := by simpa using List.all_eq_true.1 hc i (List.mem_range.2 i1)
          exact run i f' t' (by first | (simp at hn ⊢; omega) | (simp at hn; omega)) hid i2 i3 (by omega)
        · cases fV
      · have fV := ib
        unfold tn at fV
        split at fV
        · rename_i hc
          cases fV
          have rO : ∀ j ∈ done, L.getD j false = true := fun j hj => by
            cases h : L.getD j false with
            | true => rfl
            | false => exact absurd ⟨j, hj, by simp [h]⟩ hex
          have n3 : Region.ready .any ops L = [] := by
            cases hq : Region.ready .any ops L with
            | nil => rfl
            | cons x l =>
              have hx : x ∈ Region.ready .any ops L := by rw [hq]; exact List.mem_cons_self
              obtain ⟨i1, i2, _⟩ := (By I.size).1 hx
              have := rO x (by simpa using List.all_eq_true.1 hc x (List.mem_range.2 i1))
              rw [i2] at this; cases this
          rw [af1 n3]
          refine ⟨.normal, s, φ, cs, a, w, hk, Ext.refl _ _, I.nx, ⟨I.sq, I.tj, fun p => I.yr p fun j hj bG => ?_⟩, .one stepR_region_end⟩
          rw [rO j hj] at bG; cases bG
        · cases fV
    | cons i order =>
      have anV := ib
      unfold tn at ib
      split at ib
      · cases ib
      · rename_i ao dr
        split at ib
        · rename_i WY
          simp only [Bool.and_eq_true, Bool.not_eq_true', List.contains_eq_mem, decide_eq_false_iff_not] at WY
          obtain ⟨hid, hb⟩ := WY
          have cw : ∀ p ∈ fe ops i, p ∈ done := fun p hp => by simpa using List.all_eq_true.1 hb p hp
          split at ib
          · rename_i lT
            split at ib
            · rename_i af4
              split at ib
              · rename_i lM r N2 rP
                cases ib
                have kr : L.getD i false = false := by
                  cases hh : L.getD i false with
                  | false => rfl
                  | true => exact absurd (I.sub i hh) hid
                have hT : rJ ops (i :: done) := .cons _ _ hid cw I.vo
                obtain ⟨r0, q1, q2, q3⟩ := hT.first (u := fun j => !L.getD j false) ⟨i, List.mem_cons_self, by simp only [kr]; rfl⟩
                have WZ : L.getD r0 false = false := by simpa using q2
                have W0 : r0 < ops.size := by
                  rcases List.mem_cons.1 q1 with rfl | q1
                  · exact hr.lt dr
                  · exact I.lt r0 q1
                have n3 : r0 ∈ Region.ready .any ops L := (By I.size).2 ⟨W0, WZ, fun p hp => by simpa using q3 p hp⟩
                have oc := N4 W0 WZ
                obtain ⟨f', rfl⟩ : ∃ f', fuel = f' + 1 := ⟨fuel - 1, by omega⟩
                obtain ⟨i', t', hi, uT⟩ := WW (fuel := f') (t := t) (List.ne_nil_of_mem n3)
                rw [uT]
                obtain ⟨i1, i2, i3⟩ := (By I.size).1 hi
                by_cases GO : i' ∈ done
                · exact run i' f' t' (by first | (simp at hn ⊢; omega) | (simp at hn; omega)) GO i2 i3 (by omega)
                · have Gb : i' = i := by
                    have := List.all_eq_true.1 af4 i' (List.mem_range.2 i1)
                    simp only [Bool.or_eq_true, List.contains_eq_mem, decide_eq_true_eq, beq_iff_eq, Bool.not_eq_true'] at this
                    rcases this with (h | h) | h
                    · exact absurd h GO
                    · exact h
                    · have : (fe ops i').all done.contains = true := List.all_eq_true.2 fun p hp => by simpa using I.sub p (i3 p hp)
                      rw [this] at h; cases h
                  subst Gb
                  have af5 : ∀ j ∈ th ops (fe ops i') done, L.getD j false = true := afS (good := fun j => L.getD j false = true) I.closed done _ i3
                  rcases I.act hr hs he cJ hid dr i3 (late := dR.filter fun j => !(th ops (fe ops i') done).contains j) (fun j hj bG => by
                    refine List.mem_filter.2 ⟨hj, ?_⟩
                    simp only [Bool.not_eq_true', List.contains_eq_mem, decide_eq_false_iff_not]
                    intro hc
                    rw [af5 j hc] at bG; cases bG) (fun j hj => (List.mem_filter.1 hj).1) N2 hk (rest := Region.linearise.go .any ops f' t' (L.setIfInBounds i' true) []) (todo := todo) with ⟨φ', s', cy, a', w', z1, z2, z3, z4⟩ | z
                  · have := WX I.size i1 i2
                    exact (ih order f' t' (by first | (simp at hn ⊢; omega) | (simp at hn; omega)) z3 (he.ext z2) rP z1 (by omega)).of_steps z2 (Nat.le_refl _) z4
                  · exact z
              · cases ib
            · cases ib
          · rename_i lT
            simp only [Option.map_eq_some_iff] at ib
            obtain ⟨dl', af6, rfl⟩ := ib
            obtain ⟨s', z1, z2, z3⟩ := I.WI hr hs hid cw dr (by simpa using lT) (show sV rec ao e s k (fun s => nW rec dl' e s k) = true from hk)
            exact ih order fuel t (by first | (simp at hn ⊢; omega) | (simp at hn; omega)) z2 he af6 z1 hu
        · cases ib
theorem Wv (bE : P.follows .mixedOrders = true) (w0 : World) : UZ P w0 := by
 intro rec cJ e b cs0 todo k id ops l dl hl sX φ s cs a w hs he hk
 unfold Mu at sX
 split at sX
 · rename_i vr
   have hr := afP hl
   have nX := stepR_region_draw (P := P) (b := b) (a := a) (k := todo) (cs := cs) (w := w) (id := id) (ops := ops)
   have af7 : ∀ t, Region.schedule (P.follows .mixedOrders) ops t = Region.linearise.go .any ops ops.size t (Array.replicate ops.size false) [] := fun t => by
    simp [Region.schedule, bE, Region.linearise]
   rw [af7] at nX
   have W1 : ∀ j, (Array.replicate ops.size false).getD j false = false := fun j => by
    rw [Array.getD_eq_getD_getElem?, Array.getElem?_replicate]; split <;> rfl
   have I : Inv P w0 s.h.nx e.nt ops l.toArray b cs0 [] [] (Array.replicate ops.size false) φ s cs a { w with drawn := w.drawn + 1 } :=
    ⟨by simp, fun j hj => (by rw [W1] at hj; cases hj), fun j hj => (by cases hj), fun j hj => (by cases hj), fun j hj => (by rw [W1] at hj; cases hj), .nil, fun j hj => (by cases hj),
     ⟨hs.df, hs.rc, hs.heap.world rfl rfl rfl rfl⟩, hs.tm.1, fun p _ => hs.tm.2 p, fun j hj => (by cases hj), fun j hj => (by cases hj), Nat.le_refl _⟩
   refine (af2 hr vr cJ _ _ ops.size _ (Nat.le_refl _) I he sX hk ?_).of_steps (Ext.refl _ _) (Nat.le_refl _) (.one nX)
   have := List.countP_le_length (p := fun j => !(Array.replicate ops.size false).getD j false) (l := List.range ops.size)
   simpa [yx] using this
 · cases sX
end
end Go.Ve
namespace Go.Ve
open Go.RowKit
theorem Wu {P : Program} {w0 : World} (bE : P.follows .mixedOrders = true) {prog : NT ia} (oP : ∀ f af, prog.get f = some af → bT P f = some af) {sums : ry} (NP : Gg P w0 sums) : ∀ (n : Nat) (t : Task), ev prog sums n t = true → dD P w0 t := by
 intro n
 have ME := Wv bE w0
 induction n with
 | zero => intro t h; cases h
 | succ n ih =>
  intro t h
  rw [afz] at h
  cases t with
  | code ac e s k => exact fun c hc => Va ME ih c ac e s k hc h
  | call f args h0 k => exact Vl oP ih NP h
  | xZ f args rc h0 k => exact afn oP ih h
  | round l args h0 k => exact Vn ih h
  | leave ds m h0 k => exact MJ ih h
theorem HR.bare (P : Program) (w : World) : HR P w (fun _ => none) ⟨0, .e⟩ w :=
 ⟨fun f f' b d d' n n' _ h => (by cases h), fun _ _ => rfl, fun _ _ => rfl, fun f h => (by cases h), fun f b d n h => (by cases h), ⟨rfl, rfl, rfl, Nat.le_refl _, fun _ _ => rfl⟩⟩
def NT.Holds {α : Type} (Q : Nat → α → Prop) : Nat → Nat → NT α → Prop
 | _, _, .e => True
 | o, s, .n l v r => (∀ a, v = some a → Q o a) ∧ NT.Holds Q (o + s) (s + s) l ∧ NT.Holds Q (o + s + s) (s + s) r
theorem NT.NQ {α : Type} {Q : Nat → α → Prop} : ∀ {t : NT α} {o s : Nat}, t.Holds Q o s → ∀ i a, t.get i = some a → Q (o + s * i) a
 | .e, _, _, _, i, a, h => by cases h
 | .n l v r, o, s, ⟨h0, hl, hr⟩, i, a, h => by
  rcases NT.sJ i with rfl | ⟨j, rfl⟩ | ⟨j, rfl⟩
  · exact h0 a h
  · rw [NT.nI] at h
    have := NT.NQ hl j a h
    rwa [show o + s + (s + s) * j = o + s * (2 * j + 1) by rw [Nat.mul_add, Nat.add_mul, Nat.mul_comm 2 j, ← Nat.mul_assoc, Nat.mul_two]; omega] at this
  · rw [NT.nJ] at h
    have := NT.NQ hr j a h
    rwa [show o + s + s + (s + s) * j = o + s * (2 * j + 2) by rw [Nat.mul_add, Nat.add_mul, Nat.mul_comm 2 j, ← Nat.mul_assoc, Nat.mul_two]; omega] at this
theorem NT.holds {α : Type} {Q : Nat → α → Prop} {t : NT α} (h : t.Holds Q 0 1) (i : Nat) (a : α) (hi : t.get i = some a) : Q i a := by
 have := NT.NQ h i a hi
 rwa [Nat.zero_add, Nat.one_mul] at this
theorem NT.no {α : Type} {Q : α → Prop} : ∀ a, (none : Option α) = some a → Q a := fun a e => by cases e
end Go.Ve
namespace Go.Ve
open Go.RowKit
open Classical
noncomputable section
abbrev Sl := Pos → Value
def Sl.up (σ : Sl) (p : Pos) (v : Value) : Sl := fun q => bif p.beq q then v else σ q
def Sl.fD (σ : Sl) (d : Option Pos) (v : Value) : Sl := match d with
 | none => σ
 | some p => σ.up p v
structure DS where
 df : List fa
 rc : Rc
def eV (σ : Sl) : ee → Value
 | .t p => σ p
 | .c v => v
abbrev PQ := AX → Sl → DS → AH → Prop
theorem Sl.Xv (t : PT) (p : Pos) (v : Value) : (t.set p v).get = Sl.up t.get p v := by
 funext q
 rw [PT.dc]
 unfold Sl.up
 by_cases e : q = p
 · subst e; rw [if_pos rfl, Pos.beq_iff.2 rfl]; rfl
 · rw [if_neg e]
   have : p.beq q = false := by
    cases h : p.beq q with
    | false => rfl
    | true => exact absurd (Pos.beq_iff.1 h).symm e
   rw [this]; rfl
def PT.vy (t : PT) (d : Option Pos) (v : Value) : PT := match d with
 | none => t
 | some p => t.set p v
theorem Sl.Xw (t : PT) (d : Option Pos) (v : Value) : (t.vy d v).get = Sl.fD t.get d v := by
 cases d with
 | none => rfl
 | some p => exact Sl.Xv t p v
theorem vz (d : Option Pos) (s : St) (v : Value) (h : AH) (k : St → Bool) : iz d s v h k = k ⟨s.tm.vy d v, s.df, s.rc, h⟩ := by rw [Br]; cases d <;> rfl
theorem Oi (t : PT) (o : ee) : iL t o = eV t.get o := by cases o <;> rfl
section
variable (P : Program) (w0 : World)
def fE : Task → Bool := fun t => decide (dD P w0 t)
theorem BH (t : Task) (h : fE P w0 t = true) : dD P w0 t := of_decide_eq_true h
theorem lA {t : Task} (h : dD P w0 t) : fE P w0 t = true := decide_eq_true h
def WP (p : Prim) (vs : List Value) (h : AH) (R : Value → AH → Prop) : Prop := ∀ k : KV, (∀ v h, R v h → k v h = true) → p.ev vs h k = true
def WF (f : FuncId) (args : List Value) (h : AH) (R : CR → AH → Prop) : Prop := dD P w0 (.call f args h fun r h => decide (R r h))
def WR (l : Nat) (args : List Value) (h : AH) (R : CR → AH → Prop) : Prop := dD P w0 (.round l args h fun r h => decide (R r h))
def WL (ds : List fa) (m : Option Value) (h : AH) (K : Option Value → AH → Prop) : Prop := match ds with
 | [] => K m h
 | ds => dD P w0 (.leave ds m h fun m h => decide (K m h))
def WC (c : dh) (e : Env) (σ : Sl) (d : DS) (h : AH) (Q : PQ) : Prop :=
 ∀ tm : PT, tm.get = σ → dD P w0 (.code c e ⟨tm, d.df, d.rc, h⟩ fun x s => decide (Q x s.tm.get ⟨s.df, s.rc⟩ s.h))
def jm (act : jc) (dst : Option Pos) (e : Env) (σ : Sl) (d : DS) (h : AH) (vs : List Value) (Q : PQ) (K : Sl → DS → AH → Prop) : Prop :=
 match act with
 | .aQ p => WP p vs h fun v h => K (σ.fD dst v) d h
 | .call f => WF P w0 f vs h fun r h => match r with
  | .ret v => K (σ.fD dst v) d h
  | .aP v => Q (.aP v) σ d h
 | .dyn => (match vs with
  | .func (.func g) ⟨first⟩ ⟨bR⟩ :: as => WF P w0 g (first ++ (as ++ bR)) h fun r h => match r with
   | .ret v => K (σ.fD dst v) d h
   | .aP v => Q (.aP v) σ d h
  | .func (.yield l) ⟨[]⟩ ⟨[]⟩ :: as => WR P w0 l as h fun r h => match r with
   | .ret v => K (σ.fD dst v) d h
   | .aP v => Q (.aP v) σ d h
  | _ => False)
 | .recover => (match e.sR, vs with
  | none, [] => (match d.rc with
   | .can v => K (σ.fD dst v) ⟨d.df, .ll⟩ h
   | _ => K (σ.fD dst .nilIface) d h)
  | _, _ => False)
 | .panic => (match vs with
  | [.iface t x] => Q (.aP (.iface t x)) σ d h
  | _ => False)
 | .defer => (match e.sR, vs with
  | none, .func (.func g) ⟨first⟩ ⟨bR⟩ :: as => K (σ.fD dst undef) ⟨.fn g (first ++ (as ++ bR)) :: d.df, d.rc⟩ h
  | _, _ => False)
def wpOp (o : bB) (e : Env) (σ : Sl) (d : DS) (h : AH) (Q : PQ) (K : Sl → DS → AH → Prop) : Prop :=
 match o.guard with
 | none => jm P w0 o.act o.dst e σ d h (o.args.map (eV σ)) Q K
 | some (p, want) => match σ p with
  | .bool b => bif mq b want then jm P w0 o.act o.dst e σ d h (o.args.map (eV σ)) Q K else K (σ.fD o.dst undef) d h
  | _ => K (σ.fD o.dst undef) d h
def wpOps : List bB → Env → Sl → DS → AH → PQ → Prop
 | [], _, σ, d, h, Q => Q .normal σ d h
 | o :: l, e, σ, d, h, Q => wpOp P w0 o e σ d h Q fun σ d h => wpOps l e σ d h Q
def vA (act : jc) (dst : Option Pos) (vs : List Value) (σ : Sl) (h : AH) : Prop := match act, dst with
 | .aQ p, some q => (bif p.makes then p.fresh vs (vk ⟨.e, [], .off, h⟩ (σ q)) = true else WP p vs h fun v' _ => rG v' (σ q) = true)
 | _, _ => False
def yB (o : bB) (σ : Sl) (h : AH) : Prop := match o.guard with
 | none => vA o.act o.dst (o.args.map (eV σ)) σ h
 | some (p, want) => match σ p with
  | .bool b => bif mq b want then vA o.act o.dst (o.args.map (eV σ)) σ h else True
  | _ => True
def vB : List jd → Env → Sl → DS → AH → PQ → Prop
 | [], _, σ, d, h, Q => Q .normal σ d h
 | .op _ o :: l, e, σ, d, h, Q => wpOp P w0 o e σ d h Q fun σ d h => vB l e σ d h Q
 | .lM _ o :: l, e, σ, d, h, Q => yB o σ h ∧ vB l e σ d h Q
def vC (c : Sl → DS → AH → Prop) (Q : PQ) : PQ := fun x σ d h => match x with
 | .normal => c σ d h
 | x => Q x σ d h
def Oj (id : Nat) (Q : PQ) : PQ := fun x σ d h => match x with
 | .exit j => bif Nat.beq j id then Q .normal σ d h else Q (.exit j) σ d h
 | x => Q x σ d h
def ep : dh → Env → Sl → DS → AH → PQ → Prop
 | .skip, _, σ, d, h, Q => Q .normal σ d h
 | .ops l, e, σ, d, h, Q => wpOps P w0 l e σ d h Q
 | .draw l, e, σ, d, h, Q => vB P w0 l e σ d h Q
 | .seq a b, e, σ, d, h, Q => ep a e σ d h (vC (fun σ d h => ep b e σ d h Q) Q)
 | .cond c a b, e, σ, d, h, Q => (match eV σ c with
  | .bool true => ep a e σ d h Q
  | .bool false => ep b e σ d h Q
  | _ => False)
 | .block id c, e, σ, d, h, Q => ep c e σ d h (Oj id Q)
 | .loop c, e, σ, d, h, Q => WC P w0 (.loop c) e σ d h Q
 | .mV f ps a b, e, σ, d, h, Q => WC P w0 (.mV f ps a b) e σ d h Q
 | .exit id, _, σ, d, h, Q => Q (.exit id) σ d h
 | .ret, _, σ, d, h, Q => Q .ret σ d h
end
section
variable {P : Program} {w0 : World}
theorem gR.mono {f : FuncId} {args : List Value} {h : AH} {k k' : CR → AH → Bool} (hk : ∀ r h, k r h = true → k' r h = true) (H : gR P w0 f args h k) : gR P w0 f args h k' :=
 ⟨H.1, fun φ args' w hl hh => (H.2 φ args' w hl hh).mono fun _ _ ⟨r, h', φ', h1, h2⟩ => ⟨r, h', φ', hk _ _ h1, h2⟩⟩
theorem rk.mono {l : Nat} {args : List Value} {h : AH} {k k' : CR → AH → Bool} (hk : ∀ r h, k r h = true → k' r h = true) (H : rk P w0 l args h k) : rk P w0 l args h k' := by
 intro φ args' l' w h1 h2 h3 h4
 obtain ⟨f, tmps, as, bd, h5, h6⟩ := H φ args' l' w h1 h2 h3 h4
 refine ⟨f, tmps, as, bd, h5, fun c cs => ?_⟩
 obtain ⟨v, v', h', φ', w', g1, g2⟩ := h6 c cs
 exact ⟨v, v', h', φ', w', hk _ _ g1, g2⟩
theorem Av.mono {c : Code} {e : Env} {s : St} {k k' : KS} (hk : ∀ x s, k x s = true → k' x s = true) (H : Av P w0 c e s k) : Av P w0 c e s k' := by
 intro φ b cs0 cs a w h1 h2 it h3 todo
 obtain ⟨x, s', φ', cy, a', w', g1, g2⟩ := H φ b cs0 cs a w h1 h2 it h3 todo
 exact ⟨x, s', φ', cy, a', w', hk _ _ g1, g2⟩
theorem mo.mono {ds : List fa} {m : Option Value} {h : AH} {k k' : Option Value → AH → Bool} (hk : ∀ r h, k r h = true → k' r h = true) (H : mo P w0 ds m h k) : mo P w0 ds m h k' := by
 intro φ fr cs w h1 h2 h3
 obtain ⟨m', h', φ', w', u, g1, g2⟩ := H φ fr cs w h1 h2 h3
 exact ⟨m', h', φ', w', u, hk _ _ g1, g2⟩
theorem dD.vD {c : dh} {e : Env} {s : St} {k k' : KS} (hk : ∀ x s, k x s = true → k' x s = true) (H : dD P w0 (.code c e s k)) : dD P w0 (.code c e s k') := fun c hc => Av.mono hk (H c hc)
theorem WP.mono {p : Prim} {vs : List Value} {h : AH} {R R' : Value → AH → Prop} (hk : ∀ v h, R v h → R' v h) (H : WP p vs h R) : WP p vs h R' := fun k ef => H k fun v h hr => ef v h (hk v h hr)
theorem dk {p : Prim} {vs : List Value} {h h' : AH} {v : Value} {R : Value → AH → Prop} (e : ∀ k : KV, p.ev vs h k = k v h') : WP p vs h R ↔ R v h' :=
 ⟨fun H => of_decide_eq_true ((e fun v h => decide (R v h)).symm.trans (H (fun v h => decide (R v h)) fun _ _ hr => decide_eq_true hr)), fun H k hk => by rw [e]; exact hk _ _ H⟩
theorem WF.mono {f : FuncId} {args : List Value} {h : AH} {R R' : CR → AH → Prop} (hk : ∀ r h, R r h → R' r h) (H : WF P w0 f args h R) : WF P w0 f args h R' :=
 gR.mono (fun r h hr => decide_eq_true (hk r h (of_decide_eq_true hr))) H
theorem WR.mono {l : Nat} {args : List Value} {h : AH} {R R' : CR → AH → Prop} (hk : ∀ r h, R r h → R' r h) (H : WR P w0 l args h R) : WR P w0 l args h R' :=
 rk.mono (fun r h hr => decide_eq_true (hk r h (of_decide_eq_true hr))) H
theorem WC.mono {c : dh} {e : Env} {σ : Sl} {d : DS} {h : AH} {Q Q' : PQ} (hk : ∀ x σ d h, Q x σ d h → Q' x σ d h) (H : WC P w0 c e σ d h Q) : WC P w0 c e σ d h Q' :=
 fun tm eg => dD.vD (fun x s hx => decide_eq_true (hk x _ _ _ (of_decide_eq_true hx))) (H tm eg)
variable (bE : P.follows .mixedOrders = true)
include bE
theorem qm {ac : dh} {e : Env} {s : St} {k : KS} (h : MG (fE P w0) ac e s k = true) : dD P w0 (.code ac e s k) :=
 fun c hc => Va (Wv bE w0) (BH P w0) c ac e s k hc h
omit bE
theorem agu {dst : Option Pos} {s : St} {fail : KS} {k : St → Bool} {r : CR} {h : AH} (H : match r with | .ret v => k ⟨s.tm.vy dst v, s.df, s.rc, h⟩ = true | .aP v => fail (.aP v) ⟨s.tm, s.df, s.rc, h⟩ = true) : nQ dst s fail k r h = true := by
 cases r with
 | ret v => show iz dst s v h k = true; rw [vz]; exact H
 | aP v => cases s; exact H
theorem tq (l m : List Value) (k : List Value → Bool) : iv l m k = k (l ++ m) := by
 induction l generalizing k with
 | nil => rfl
 | cons x l ih => show iv l m (fun l' => k (x :: l')) = _; rw [ih]; rfl
theorem Xx {act : jc} {dst : Option Pos} {e : Env} {tm : PT} {d : DS} {h : AH} {vs : List Value} {Q : PQ} {K : Sl → DS → AH → Prop} {k : St → Bool}
 (hk : ∀ tm d h, K tm.get d h → k ⟨tm, d.df, d.rc, h⟩ = true) (H : jm P w0 act dst e tm.get d h vs Q K) :
 x9 (fE P w0) act dst e ⟨tm, d.df, d.rc, h⟩ (fun x s => decide (Q x s.tm.get ⟨s.df, s.rc⟩ s.h)) k vs = true := by
 have key : ∀ (t : PT) (d : DS) (h : AH) (v : Value), K (Sl.fD t.get dst v) d h → k ⟨t.vy dst v, d.df, d.rc, h⟩ = true := fun t d h v hK =>
  hk (t.vy dst v) d h (by rw [Sl.Xw]; exact hK)
 have ret : ∀ r h', (match r with | .ret v => K (Sl.fD tm.get dst v) d h' | .aP v => Q (.aP v) tm.get d h' : Prop) → nQ dst ⟨tm, d.df, d.rc, h⟩ (fun x s => decide (Q x s.tm.get ⟨s.df, s.rc⟩ s.h)) k r h' = true := fun r h' hr => by
  refine agu ?_
  cases r with
  | ret v => exact key tm d h' v hr
  | aP v => exact decide_eq_true hr
 cases act with
 | aQ p =>
  show p.ev vs h (fun v h' => iz dst ⟨tm, d.df, d.rc, h⟩ v h' k) = true
  exact H _ fun v h' hK => by rw [vz]; exact key tm d h' v hK
 | call f =>
  show fE P w0 (.call f vs h (nQ dst ⟨tm, d.df, d.rc, h⟩ _ k)) = true
  exact lA P w0 (gR.mono (fun r h' hr => ret r h' (of_decide_eq_true hr)) H)
 | dyn =>
  show Mo (fE P w0) dst e ⟨tm, d.df, d.rc, h⟩ _ k vs = true
  cases vs with
  | nil => exact H.elim
  | cons f as =>
   simp only [jm] at H
   split at H
   · rename_i g first bR pS heq
     cases heq
     show iv _ _ _ = true
     rw [tq, tq]
     exact lA P w0 (gR.mono (fun r h' hr => ret r h' (of_decide_eq_true hr)) H)
   · rename_i l pS heq
     cases heq
     exact lA P w0 (rk.mono (fun r h' hr => ret r h' (of_decide_eq_true hr)) H)
   · exact H.elim
 | recover =>
  show AF dst e ⟨tm, d.df, d.rc, h⟩ k vs = true
  simp only [jm] at H
  unfold AF
  split at H
  · rename_i he
    simp only [he]
    split at H
    · rename_i v hv
      simp only [hv]
      rw [vz]; exact key tm ⟨d.df, .ll⟩ h v H
    · rename_i hv
      cases hr : d.rc with
      | can v => exact absurd hr (hv v)
      | off => simp only [vz]; have := key tm d h .nilIface H; rw [hr] at this; exact this
      | ll => simp only [vz]; have := key tm d h .nilIface H; rw [hr] at this; exact this
  · exact H.elim
 | panic =>
  show FY ⟨tm, d.df, d.rc, h⟩ (fun x s => decide (Q x s.tm.get ⟨s.df, s.rc⟩ s.h)) vs = true
  simp only [jm] at H
  split at H
  · exact decide_eq_true H
  · exact H.elim
 | defer =>
  show AJ dst e ⟨tm, d.df, d.rc, h⟩ k vs = true
  simp only [jm] at H
  unfold AJ
  split at H
  · rename_i he
    simp only [he]
    show iv _ _ _ = true
    rw [tq, tq, vz]
    exact key tm ⟨_ :: d.df, d.rc⟩ h undef H
  · exact H.elim
end
end
end Go.Ve
namespace Go.Ve
open Go.RowKit
open Classical
noncomputable section
section
variable {P : Program} {w0 : World}
theorem Xy (t : PT) (l : List ee) : l.map (iL t) = l.map (eV t.get) := List.map_congr_left fun o _ => Oi t o
theorem guard_of {g : Option (Pos × Bool)} {t : PT} {yes no : Bool} (H : match g with
 | none => yes = true
 | some (p, want) => match t.get p with
  | .bool b => (bif mq b want then yes else no) = true
  | _ => no = true) : nU g t yes no = true := by
 cases g with
 | none => exact H
 | some pw =>
  obtain ⟨p, want⟩ := pw
  show PT.dH p t (uY want yes no) = true
  rw [PT.jU]
  unfold uY
  revert H
  simp only []
  generalize t.get p = v
  intro H
  split
  · exact H
  · rename_i dC
    revert H
    split
    · rename_i b; exact absurd rfl (dC b)
    · exact fun H => H
theorem Xz {o : bB} {e : Env} {tm : PT} {d : DS} {h : AH} {Q : PQ} {K : Sl → DS → AH → Prop} {k : St → Bool}
 (hk : ∀ tm d h, K tm.get d h → k ⟨tm, d.df, d.rc, h⟩ = true) (H : wpOp P w0 o e tm.get d h Q K) :
 sV (fE P w0) o e ⟨tm, d.df, d.rc, h⟩ (fun x s => decide (Q x s.tm.get ⟨s.df, s.rc⟩ s.h)) k = true := by
 obtain ⟨dst, act, args, g⟩ := o
 show nU g tm (nT args tm (x9 (fE P w0) act dst e ⟨tm, d.df, d.rc, h⟩ _ k)) (iz dst ⟨tm, d.df, d.rc, h⟩ undef h k) = true
 rw [yo, vz, Xy]
 have rO : K (Sl.fD tm.get dst undef) d h → k ⟨tm.vy dst undef, d.df, d.rc, h⟩ = true := fun hK => hk (tm.vy dst undef) d h (by rw [Sl.Xw]; exact hK)
 refine guard_of ?_
 unfold wpOp at H
 cases g with
 | none => exact Xx hk H
 | some pw =>
  obtain ⟨p, want⟩ := pw
  revert H
  simp only []
  generalize tm.get p = v
  intro H
  cases v <;> first | exact rO H | skip
  rename_i b
  simp only at H ⊢
  cases hb : mq b want with
  | true => rw [hb] at H; exact Xx hk H
  | false => rw [hb] at H; exact rO H
theorem agv {e : Env} {Q : PQ} : ∀ {l : List bB} {tm : PT} {d : DS} {h : AH}, wpOps P w0 l e tm.get d h Q → AN (fE P w0) l e ⟨tm, d.df, d.rc, h⟩ (fun x s => decide (Q x s.tm.get ⟨s.df, s.rc⟩ s.h)) = true := by
 intro l
 induction l with
 | nil => intro tm d h H; exact decide_eq_true H
 | cons o l ih => intro tm d h H; exact Xz (k := fun s => AN (fE P w0) l e s _) (fun tm d h hK => ih hK) H
theorem agw {o : bB} {tm : PT} {d : DS} {h : AH} (H : yB o tm.get h) : yn o ⟨tm, d.df, d.rc, h⟩ = true := by
 obtain ⟨dst, act, args, g⟩ := o
 show nU g tm (nT args tm fun vs => jc.casesOn (motive := fun _ => Bool) act (Bm dst ⟨tm, d.df, d.rc, h⟩ vs) mu false false false false) true = true
 rw [yo, Xy]
 refine guard_of ?_
 have body : vA act dst (args.map (eV tm.get)) tm.get h → jc.casesOn (motive := fun _ => Bool) act (Bm dst ⟨tm, d.df, d.rc, h⟩ (args.map (eV tm.get))) mu false false false false = true := by
  intro H
  unfold vA at H
  cases act with
  | aQ p =>
   cases dst with
   | none => exact H.elim
   | some q =>
    show PT.dH q tm (fun v => bif p.makes then p.fresh (args.map (eV tm.get)) (vk ⟨tm, d.df, d.rc, h⟩ v) else p.ev (args.map (eV tm.get)) h (Bl v)) = true
    rw [PT.jU]
    simp only at H
    cases hm : p.makes with
    | true => rw [hm] at H; exact H
    | false => rw [hm] at H; exact H _ fun v h hv => hv
  | _ => exact H.elim
 unfold yB at H
 cases g with
 | none => exact body H
 | some pw =>
  obtain ⟨p, want⟩ := pw
  revert H
  simp only []
  generalize tm.get p = v
  intro H
  cases v <;> first | exact trivial | skip
  rename_i b
  simp only at H ⊢
  cases hb : mq b want with
  | true => rw [hb] at H; exact body H
  | false => rfl
theorem agx {e : Env} {Q : PQ} : ∀ {l : List jd} {tm : PT} {d : DS} {h : AH}, vB P w0 l e tm.get d h Q → nW (fE P w0) l e ⟨tm, d.df, d.rc, h⟩ (fun x s => decide (Q x s.tm.get ⟨s.df, s.rc⟩ s.h)) = true := by
 intro l
 induction l with
 | nil => intro tm d h H; exact decide_eq_true H
 | cons o l ih =>
  intro tm d h H
  cases o with
  | op i o => exact Xz (k := fun s => nW (fE P w0) l e s _) (fun tm d h hK => ih hK) H
  | lM i o =>
   exact (iff_eq (yn o ⟨tm, d.df, d.rc, h⟩) (nW (fE P w0) l e ⟨tm, d.df, d.rc, h⟩ fun x s => decide (Q x s.tm.get ⟨s.df, s.rc⟩ s.h))).2 ⟨agw H.1, ih H.2⟩
theorem G0 (bE : P.follows .mixedOrders = true) : ∀ (c : dh) {e : Env} {σ : Sl} {d : DS} {h : AH} {Q : PQ}, ep P w0 c e σ d h Q → WC P w0 c e σ d h Q := by
 intro c
 induction c with
 | skip => intro e σ d h Q H tm eg; subst eg; exact qm bE (decide_eq_true H)
 | ops l => intro e σ d h Q H tm eg; subst eg; exact qm bE (agv H)
 | draw l => intro e σ d h Q H tm eg; subst eg; exact qm bE (agx H)
 | seq a b j0 jE =>
  intro e σ d h Q H tm eg
  subst eg
  refine qm bE (lA P w0 (dD.vD (fun x s hx => ?_) (j0 H tm rfl)))
  have fO := of_decide_eq_true hx
  cases x with
  | normal => exact lA P w0 (jE fO s.tm rfl)
  | exit id => exact decide_eq_true fO
  | ret => exact decide_eq_true fO
  | aP v => exact decide_eq_true fO
 | cond c a b j0 jE =>
  intro e σ d h Q H tm eg
  subst eg
  refine qm bE ?_
  show rq c tm (fun v => rC v fun t => Bool.casesOn (motive := fun _ => Bool) t (fE P w0 (.code b e _ _)) (fE P w0 (.code a e _ _))) = true
  rw [NO, Oi]
  simp only [ep] at H
  revert H
  cases eV tm.get c <;> intro H <;> first | exact H.elim | skip
  rename_i t
  cases t with
  | true => exact lA P w0 (j0 H tm rfl)
  | false => exact lA P w0 (jE H tm rfl)
 | block id c ih =>
  intro e σ d h Q H tm eg
  subst eg
  refine qm bE (lA P w0 (dD.vD (fun x s hx => ?_) (ih H tm rfl)))
  have fO := of_decide_eq_true hx
  cases x with
  | normal => exact decide_eq_true fO
  | exit j =>
   show (bif Nat.beq j id then _ else _) = true
   have G1 : bif Nat.beq j id then Q .normal s.tm.get ⟨s.df, s.rc⟩ s.h else Q (.exit j) s.tm.get ⟨s.df, s.rc⟩ s.h := fO
   cases hj : Nat.beq j id with
   | true => rw [hj] at G1; exact decide_eq_true G1
   | false => rw [hj] at G1; exact decide_eq_true G1
  | ret => exact decide_eq_true fO
  | aP v => exact decide_eq_true fO
 | loop c ih => intro e σ d h Q H; exact H
 | mV f ps a b j0 jE => intro e σ d h Q H; exact H
 | exit id => intro e σ d h Q H tm eg; subst eg; exact qm bE (decide_eq_true H)
 | ret => intro e σ d h Q H tm eg; subst eg; exact qm bE (decide_eq_true H)
theorem XA (bE : P.follows .mixedOrders = true) {c : dh} {e : Env} {σ : Sl} {d : DS} {h : AH} {Q : PQ} (H : ep P w0 c e σ d h (vC (fun σ d h => WC P w0 (.loop c) e σ d h Q) Q)) : WC P w0 (.loop c) e σ d h Q := by
 intro tm eg
 subst eg
 refine qm bE (lA P w0 (dD.vD (fun x s hx => ?_) (G0 bE c H tm rfl)))
 have fO := of_decide_eq_true hx
 cases x with
 | normal => exact lA P w0 ((show WC P w0 (.loop c) e s.tm.get ⟨s.df, s.rc⟩ s.h Q from fO) s.tm rfl)
 | exit id => exact decide_eq_true fO
 | ret => exact decide_eq_true fO
 | aP v => exact decide_eq_true fO
theorem XB {act : jc} {dst : Option Pos} {e : Env} {σ : Sl} {d : DS} {h : AH} {vs : List Value} {Q Q' : PQ} {K K' : Sl → DS → AH → Prop} (hQ : ∀ x σ d h, Q x σ d h → Q' x σ d h) (hK : ∀ σ d h, K σ d h → K' σ d h)
 (H : jm P w0 act dst e σ d h vs Q K) : jm P w0 act dst e σ d h vs Q' K' := by
 have r : ∀ (r : CR) (h : AH), (match r with | .ret v => K (σ.fD dst v) d h | .aP v => Q (.aP v) σ d h : Prop) → (match r with | .ret v => K' (σ.fD dst v) d h | .aP v => Q' (.aP v) σ d h : Prop) := fun r h hr => by
  cases r with
  | ret v => exact hK _ _ _ hr
  | aP v => exact hQ _ _ _ _ hr
 cases act with
 | aQ p => exact WP.mono (fun v h hv => hK _ _ _ hv) H
 | call f => exact WF.mono r H
 | dyn =>
  simp only [jm] at H ⊢
  split at H
  · exact WF.mono r H
  · exact WR.mono r H
  · exact H.elim
 | recover =>
  simp only [jm] at H ⊢
  split at H
  · split at H
    · exact hK _ _ _ H
    · exact hK _ _ _ H
  · exact H.elim
 | panic =>
  simp only [jm] at H ⊢
  split at H
  · exact hQ _ _ _ _ H
  · exact H.elim
 | defer =>
  simp only [jm] at H ⊢
  split at H
  · exact hK _ _ _ H
  · exact H.elim
theorem wpOp_mono {o : bB} {e : Env} {σ : Sl} {d : DS} {h : AH} {Q Q' : PQ} {K K' : Sl → DS → AH → Prop} (hQ : ∀ x σ d h, Q x σ d h → Q' x σ d h) (hK : ∀ σ d h, K σ d h → K' σ d h)
 (H : wpOp P w0 o e σ d h Q K) : wpOp P w0 o e σ d h Q' K' := by
 obtain ⟨dst, act, args, g⟩ := o
 unfold wpOp at H ⊢
 cases g with
 | none => exact XB hQ hK H
 | some pw =>
  obtain ⟨p, want⟩ := pw
  revert H
  simp only []
  generalize σ p = v
  intro H
  cases v <;> first | exact hK _ _ _ H | skip
  rename_i b
  simp only at H ⊢
  revert H
  cases mq b want with
  | true => exact fun H => XB hQ hK H
  | false => exact fun H => hK _ _ _ H
theorem agy {e : Env} {Q Q' : PQ} (hQ : ∀ x σ d h, Q x σ d h → Q' x σ d h) : ∀ {l : List bB} {σ : Sl} {d : DS} {h : AH}, wpOps P w0 l e σ d h Q → wpOps P w0 l e σ d h Q' := by
 intro l
 induction l with
 | nil => intro σ d h H; exact hQ _ _ _ _ H
 | cons o l ih => intro σ d h H; exact wpOp_mono hQ (fun _ _ _ => ih) H
theorem agz {e : Env} {Q Q' : PQ} (hQ : ∀ x σ d h, Q x σ d h → Q' x σ d h) : ∀ {l : List jd} {σ : Sl} {d : DS} {h : AH}, vB P w0 l e σ d h Q → vB P w0 l e σ d h Q' := by
 intro l
 induction l with
 | nil => intro σ d h H; exact hQ _ _ _ _ H
 | cons o l ih =>
  intro σ d h H
  cases o with
  | op i o => exact wpOp_mono hQ (fun _ _ _ => ih) H
  | lM i o => exact ⟨H.1, ih H.2⟩
theorem Ol : ∀ (c : dh) {e : Env} {σ : Sl} {d : DS} {h : AH} {Q Q' : PQ}, (∀ x σ d h, Q x σ d h → Q' x σ d h) → ep P w0 c e σ d h Q → ep P w0 c e σ d h Q' := by
 intro c
 induction c with
 | skip => intro e σ d h Q Q' hQ H; exact hQ _ _ _ _ H
 | ops l => intro e σ d h Q Q' hQ H; exact agy hQ H
 | draw l => intro e σ d h Q Q' hQ H; exact agz hQ H
 | seq a b j0 jE =>
  intro e σ d h Q Q' hQ H
  refine j0 (fun x σ d h hx => ?_) H
  cases x with
  | normal => exact jE hQ hx
  | _ => exact hQ _ _ _ _ hx
 | cond c a b j0 jE =>
  intro e σ d h Q Q' hQ H
  simp only [ep] at H ⊢
  revert H
  cases eV σ c <;> intro H <;> first | exact H.elim | skip
  rename_i t
  revert H
  cases t with
  | true => exact fun H => j0 hQ H
  | false => exact fun H => jE hQ H
 | block id c ih =>
  intro e σ d h Q Q' hQ H
  refine ih (fun x σ d h hx => ?_) H
  cases x with
  | exit j =>
   have fO : bif Nat.beq j id then Q .normal σ d h else Q (.exit j) σ d h := hx
   show bif Nat.beq j id then Q' .normal σ d h else Q' (.exit j) σ d h
   cases hj : Nat.beq j id with
   | true => rw [hj] at fO; exact hQ _ _ _ _ fO
   | false => rw [hj] at fO; exact hQ _ _ _ _ fO
  | _ => exact hQ _ _ _ _ hx
 | loop c ih => intro e σ d h Q Q' hQ H; exact WC.mono hQ H
 | mV f ps a b j0 jE => intro e σ d h Q Q' hQ H; exact WC.mono hQ H
 | exit id => intro e σ d h Q Q' hQ H; exact hQ _ _ _ _ H
 | ret => intro e σ d h Q Q' hQ H; exact hQ _ _ _ _ H
def G2 (vs : List Value) : Sl := fun p => vs.getD p.un undef
def lV : List lg → Sl → AH → (List Value → Prop) → Prop
 | [], _, _, K => K []
 | .tmp p :: rs, σ, h, K => lV rs σ h fun vs => K (σ p :: vs)
 | .cell p none :: rs, σ, h, K => WP .aL [σ p] h fun v _ => lV rs σ h fun vs => K (v :: vs)
 | .cell p (some n) :: rs, σ, h, K => WP (.bo n) [σ p] h fun v _ => lV rs σ h fun vs => K (v :: vs)
def vE : List Value → Value
 | [v] => v
 | vs => .tuple ⟨vs⟩
def BI (P : Program) (w0 : World) (rs : List lg) (R : CR → AH → Prop) : PQ := fun x σ d h => match x with
 | .aP v => WL P w0 d.df (some v) h fun m h => match m with
  | none => rs = [] ∧ R (.ret (.tuple ⟨[]⟩)) h
  | some v => R (.aP v) h
 | .exit _ => False
 | _ => WL P w0 d.df none h fun m h => match m with
  | none => lV rs σ h fun vs => R (.ret (vE vs)) h
  | some v => R (.aP v) h
theorem agA {tm : PT} {h : AH} : ∀ {rs : List lg} {K : List Value → Prop} {k : List Value → Bool}, (∀ vs, K vs → k vs = true) → lV rs tm.get h K → kM rs tm h k = true := by
 intro rs
 induction rs with
 | nil => intro K k hk H; exact hk _ H
 | cons r rs ih =>
  intro K k hk H
  cases r with
  | tmp p =>
   show PT.dH p tm (fun v => kM rs tm h fun vs => k (v :: vs)) = true
   rw [PT.jU]
   exact ih (fun vs hv => hk _ hv) H
  | cell p n =>
   cases n with
   | none =>
    show PT.dH p tm (fun v => iK v fun b o => pX h b o fun x => kM rs tm h fun vs => k (x :: vs)) = true
    rw [PT.jU]
    exact H (fun v _ => kM rs tm h fun vs => k (v :: vs)) fun v h' hv => ih (fun vs hv => hk _ hv) hv
   | some n =>
    show PT.dH p tm (fun v => iK v fun b o => ln h b o n fun l => kM rs tm h fun vs => k (.agg ⟨l⟩ :: vs)) = true
    rw [PT.jU]
    exact H (fun v _ => kM rs tm h fun vs => k (v :: vs)) fun v h' hv => ih (fun vs hv => hk _ hv) hv
theorem agB (vs : List Value) (k : Value → Bool) : AW vs k = k (vE vs) := by
 cases vs with
 | nil => rfl
 | cons a l => cases l <;> rfl
theorem Om {ds : List fa} {m : Option Value} {h : AH} {K : Option Value → AH → Prop} {k : Option Value → AH → Bool} (hk : ∀ m h, K m h → k m h = true) (H : WL P w0 ds m h K) : fE P w0 (.leave ds m h k) = true := by
 cases ds with
 | nil => exact lA P w0 (MJ (rec := fE P w0) (BH P w0) (show MK (fE P w0) [] m h k = true from hk _ _ H))
 | cons a l => exact lA P w0 (mo.mono (fun r h hr => hk _ _ (of_decide_eq_true hr)) H)
theorem agC {rs : List lg} {R : CR → AH → Prop} {x : AX} {s : St} (H : BI P w0 rs R x s.tm.get ⟨s.df, s.rc⟩ s.h) : AZ (fE P w0) rs (fun r h => decide (R r h)) x s = true := by
 have hn : WL P w0 s.df none s.h (fun m h => match m with | none => lV rs s.tm.get h fun vs => R (.ret (vE vs)) h | some v => R (.aP v) h) → fE P w0 (.leave s.df none s.h (A7 rs s.tm fun r h => decide (R r h))) = true := fun H =>
  Om (fun m h hm => by
   cases m with
   | none =>
    show kM rs s.tm h (fun vs => AW vs fun v => decide (R (.ret v) h)) = true
    exact agA (fun vs hv => by rw [agB]; exact decide_eq_true hv) hm
   | some v => exact decide_eq_true hm) H
 cases x with
 | normal => exact hn H
 | ret => exact hn H
 | exit id => exact H.elim
 | aP v =>
  have H' : WL P w0 s.df (some v) s.h (fun m h => match m with | none => rs = [] ∧ R (.ret (.tuple ⟨[]⟩)) h | some v => R (.aP v) h) := H
  refine Om (fun m h hm => ?_) H'
  cases m with
  | none =>
   obtain ⟨h1, h2⟩ := hm
   subst h1
   exact decide_eq_true h2
  | some v => exact decide_eq_true hm
theorem agD {args : List Value} {tm : PT} (eg : ∀ p : Pos, tm.get p = if 0 ≤ p.un ∧ p.un < 0 + args.length then args.getD (p.un - 0) undef else PT.e.get p) : tm.get = G2 args := by
 funext p
 rw [eg p]
 unfold G2
 split
 · rfl
 · rw [PT.T4]
   have : ¬ p.un < args.length := by omega
   simp [List.getD, this]
theorem ET (bE : P.follows .mixedOrders = true) {f : FuncId} {af : ia} (hf : bT P f = some af) {args : List Value} {h : AH} {R : CR → AH → Prop}
 (H : ep P w0 af.code ⟨f, af.ntmps, none⟩ (G2 args) ⟨[], .off⟩ h (BI P w0 af.results R)) : WF P w0 f args h R := by
 refine Vi (BH P w0) hf ?_
 obtain ⟨nt, rs, code, dt⟩ := af
 show ru 0 args .e (fun tm => fE P w0 (.code code ⟨f, nt, none⟩ ⟨tm, [], .off, h⟩ (AZ (fE P w0) rs _))) = true
 have lay : ∀ (vs : List Value) (i : Nat) (t : PT) (k : PT → Bool), (∀ t' : PT, (∀ p : Pos, t'.get p = if i ≤ p.un ∧ p.un < i + vs.length then vs.getD (p.un - i) undef else t.get p) → k t' = true) → ru i vs t k = true := by
  intro vs
  induction vs with
  | nil => intro i t k hk; exact hk t fun p => by rw [if_neg (by simp)]
  | cons v vs ih =>
   intro i t k hk
   show PT.gL (Pos.of i) t v (fun t => ru (i + 1) vs t k) = true
   rw [PT.lL]
   refine ih _ _ _ fun t' sZ => hk t' fun p => ?_
   rw [sZ, PT.dc]
   by_cases h3 : p.un = i
   · have hp : p = Pos.of i := Pos.sH (by rw [Pos.lf]; exact h3)
     rw [if_neg (by omega), if_pos hp, if_pos (by simp; omega)]
     simp [h3]
   · have hp : ¬ p = Pos.of i := fun e => h3 (by rw [e, Pos.lf])
     by_cases h4 : i + 1 ≤ p.un ∧ p.un < i + 1 + vs.length
     · rw [if_pos h4, if_pos (by simp; omega)]
       have : p.un - i = (p.un - (i + 1)) + 1 := by omega
       rw [this]; simp
     · rw [if_neg h4, if_neg hp, if_neg (by simp; omega)]
 refine lay args 0 .e _ fun tm eg => ?_
 exact lA P w0 (dD.vD (fun x s hx => agC (of_decide_eq_true hx)) (G0 bE code H tm (agD eg)))
def AH.Ok (h : AH) : Prop := ∀ f, h.nx ≤ f → h.ob.get f = none
end
end
end Go.Ve
namespace Go.Ve
open Go.RowKit
noncomputable section
theorem fF (k : Bool) : iff true k = k := rfl
theorem oT (k : IntKind) : fM k k = true := by cases k <;> rfl
theorem agE (a b : Nat) : Nat.beq a b = decide (a = b) := by
 by_cases h : a = b
 · subst h; simp
 · rw [fg h]; simp [h]
theorem yC (a b : Int) : kN a b = decide (a = b) := by
 rw [Bool.eq_iff_iff, decide_eq_true_iff]
 cases a <;> cases b <;> simp only [kN, agE, decide_eq_true_iff]
 · exact Int.ofNat_inj.symm
 · constructor
   · intro h; cases h
   · intro h; cases h
 · constructor
   · intro h; cases h
   · intro h; cases h
 · constructor
   · intro h; rw [h]
   · intro h; cases h; rfl
theorem G3 (a b : Int) : mr a b = decide (a < b) := by
 rw [Bool.eq_iff_iff, decide_eq_true_iff]
 cases a <;> cases b <;> simp only [mr]
 · rename_i a b
   show Nat.ble (a + 1) b = true ↔ _
   rw [Nat.ble_eq]
   show a + 1 ≤ b ↔ (a : Int) < (b : Int)
   omega
 · rename_i a b
   constructor
   · intro h; cases h
   · intro h; have h' : (a : Int) < Int.negSucc b := h; omega
 · rename_i a b
   constructor
   · intro _; show Int.negSucc a < (b : Int); omega
   · intro _; first | trivial | rfl
 · rename_i a b
   show Nat.ble (b + 1) a = true ↔ Int.negSucc a < Int.negSucc b
   rw [Nat.ble_eq]
   omega
theorem oU {n : Int} (h1 : -9223372036854775808 ≤ n) (h2 : n ≤ 9223372036854775807) : bt .i64 n = n := by
 cases n with
 | ofNat a =>
  show (bif Nat.ble a rz then (Int.ofNat a) else _) = _
  have : Nat.ble a rz = true := by rw [Nat.ble_eq]; have : ((a : Nat) : Int) ≤ 9223372036854775807 := h2; show a ≤ 9223372036854775807; omega
  rw [this]; rfl
 | negSucc a =>
  show (bif Nat.ble a rz then (Int.negSucc a) else _) = _
  have : Nat.ble a rz = true := by rw [Nat.ble_eq]; show a ≤ 9223372036854775807; omega
  rw [this]; rfl
theorem XC : ∀ (a b : List UInt8), jZ a b = decide (a = b)
 | [], [] => by simp [jZ]
 | [], b :: m => by simp [jZ]
 | a :: l, [] => by simp [jZ]
 | a :: l, b :: m => by
  simp only [jZ]
  rw [XC l m]
  by_cases h : a = b
  · subst h; simp
  · have : a.toNat ≠ b.toNat := fun e => h (UInt8.toNat_inj.1 e)
    rw [fg this]; simp [h]
def AH.rd (h : AH) (b o : Nat) : Option Value := match h.ob.get b with
 | some (.cells lo hi _ _ c) => if lo ≤ o ∧ o + 1 ≤ hi then c.get o else none
 | _ => none
def AH.can (h : AH) (b o n : Nat) : Prop := ∃ lo hi ty c, h.ob.get b = some (.cells lo hi ty true c) ∧ lo ≤ o ∧ o + n ≤ hi
def jo : NT Value → Nat → List Value → NT Value
 | c, _, [] => c
 | c, i, v :: l => jo (c.set i (some v)) (i + 1) l
def AH.wr (h : AH) (b o : Nat) (l : List Value) : AH := match h.ob.get b with
 | some (.cells lo hi ty rw c) => ⟨h.nx, h.ob.set b (some (.cells lo hi ty rw (jo c o l)))⟩
 | _ => h
def AH.new (h : AH) (ty : TypeId) (l : List Value) : AH := ⟨h.nx + 1, h.ob.set h.nx (some (.cells 0 l.length ty true (jo .e 0 l)))⟩
theorem G4 : ∀ (l : List Value) (c : NT Value) (i : Nat) (k : NT Value → Bool), vf c i l k = k (jo c i l)
 | [], c, i, k => rfl
 | v :: l, c, i, k => by
  show NT.gL (oE i) c i (some v) (fun c' => fN (Nat.succ i) fun i' => vf c' i' l k) = _
  rw [NT.lL, ch, G4 l]
  rfl
theorem vF : ∀ (l : List Value) (c : NT Value) (i j : Nat), (jo c i l).get j = if i ≤ j ∧ j < i + l.length then l[j - i]? else c.get j
 | [], c, i, j => by
  rw [if_neg (fun h => by have := h.2; simp at this; omega)]; rfl
 | v :: l, c, i, j => by
  show (jo (c.set i (some v)) (i + 1) l).get j = _
  rw [vF l, NT.dc]
  by_cases h : j = i
  · subst h
    rw [if_neg (by omega), if_pos rfl, if_pos (by simp)]
    simp
  · rw [if_neg h]
    by_cases h2 : i + 1 ≤ j ∧ j < i + 1 + l.length
    · rw [if_pos h2, if_pos (by simp; omega)]
      have : j - i = (j - (i + 1)) + 1 := by omega
      rw [this]; simp
    · rw [if_neg h2, if_neg (by simp; omega)]
theorem AH.G5 (h : AH) (ty : TypeId) (l : List Value) (b o : Nat) : (h.new ty l).rd b o = if b = h.nx then l[o]? else h.rd b o := by
 unfold AH.rd AH.new
 simp only [NT.dc]
 by_cases e : b = h.nx
 · subst e
   simp only [if_true]
   rw [vF]
   by_cases ho : o < l.length
   · rw [if_pos (by omega), if_pos (by omega)]; rfl
   · rw [if_neg (by omega)]; simp [Nat.le_of_not_lt ho]
 · simp only [if_neg e]
theorem AH.On (h : AH) (ty : TypeId) (l : List Value) : (h.new ty l).nx = h.nx + 1 := rfl
theorem AH.tr {h : AH} (H : h.Ok) (ty : TypeId) (l : List Value) : (h.new ty l).Ok := fun f hf => by
 have : h.nx + 1 ≤ f := hf
 show (h.ob.set h.nx _).get f = none
 rw [NT.dc, if_neg (by omega)]
 exact H f (by omega)
theorem AH.XD (h : AH) (ty : TypeId) (l : List Value) {o n : Nat} (hn : o + n ≤ l.length) : (h.new ty l).can h.nx o n :=
 ⟨0, l.length, ty, _, by show (h.ob.set h.nx _).get h.nx = _; rw [NT.dc, if_pos rfl], Nat.zero_le _, hn⟩
theorem AH.agF {h : AH} (ty : TypeId) (l : List Value) {b o n : Nat} (H : h.can b o n) (hb : b ≠ h.nx) : (h.new ty l).can b o n := by
 obtain ⟨lo, hi, cz, c, h1, h2, h3⟩ := H
 exact ⟨lo, hi, cz, c, by show (h.ob.set h.nx _).get b = _; rw [NT.dc, if_neg hb]; exact h1, h2, h3⟩
theorem AH.mz (h : AH) (b o : Nat) (l : List Value) : (h.wr b o l).nx = h.nx := by unfold AH.wr; split <;> rfl
theorem AH.tt (h : AH) {b o : Nat} {l : List Value} {b' : Nat} (hb : b' ≠ b) : (h.wr b o l).ob.get b' = h.ob.get b' := by
 unfold AH.wr; split
 · simp only [NT.dc, if_neg hb]
 · rfl
theorem AH.yD {h : AH} {b o n : Nat} {l : List Value} (H : h.can b o n) (hl : l.length ≤ n) (b' o' : Nat) : (h.wr b o l).rd b' o' = if b' = b ∧ o ≤ o' ∧ o' < o + l.length then l[o' - o]? else h.rd b' o' := by
 obtain ⟨lo, hi, ty, c, h1, h2, h3⟩ := H
 by_cases e : b' = b
 · subst e
   unfold AH.rd AH.wr
   simp only [h1, NT.dc, if_true]
   rw [vF]
   by_cases ho : o ≤ o' ∧ o' < o + l.length
   · simp only [ho, and_self, if_true]
     rw [if_pos (by omega)]
   · simp only [true_and, if_neg ho]
 · rw [if_neg (fun h => e h.1)]
   unfold AH.rd
   rw [AH.tt h e]
theorem AH.XE {h : AH} {b o : Nat} {l : List Value} {b' o' n' : Nat} (H : h.can b' o' n') : (h.wr b o l).can b' o' n' := by
 by_cases e : b' = b
 · subst e
   obtain ⟨lo, hi, ty, c, h1, h2, h3⟩ := H
   unfold AH.can AH.wr
   simp only [h1, NT.dc, if_true]
   exact ⟨lo, hi, ty, _, rfl, h2, h3⟩
 · obtain ⟨lo, hi, ty, c, h1, h2, h3⟩ := H
   exact ⟨lo, hi, ty, c, by rw [AH.tt h e]; exact h1, h2, h3⟩
theorem AH.vG {h : AH} (H : h.Ok) (b o : Nat) (l : List Value) : (h.wr b o l).Ok := fun f hf => by
 rw [AH.mz] at hf
 unfold AH.wr
 split
 · rename_i lo hi ty rw c heq
   show (h.ob.set b _).get f = none
   rw [NT.dc]
   by_cases e : f = b
   · subst e; rw [H f hf] at heq; cases heq
   · rw [if_neg e]; exact H f hf
 · exact H f hf
theorem AH.lt_of_get {h : AH} (H : h.Ok) {b : Nat} {o : AO} (hr : h.ob.get b = some o) : b < h.nx := by
 rcases Nat.lt_or_ge b h.nx with h1 | h1
 · exact h1
 · rw [H b h1] at hr; cases hr
theorem AH.agG {h : AH} {b o : Nat} {v : Value} (hr : h.rd b o = some v) : ∃ a, h.ob.get b = some a := by
 unfold AH.rd at hr
 split at hr
 · rename_i heq; exact ⟨_, heq⟩
 · cases hr
theorem AH.agH {h : AH} (H : h.Ok) {b o : Nat} {v : Value} (hr : h.rd b o = some v) : b < h.nx := by
 obtain ⟨a, ha⟩ := AH.agG hr; exact AH.lt_of_get H ha
structure dv (h h' : AH) : Prop where
 nx : h.nx ≤ h'.nx
 get : ∀ b, b < h.nx → h'.ob.get b = h.ob.get b
theorem dv.refl (h : AH) : dv h h := ⟨Nat.le_refl _, fun _ _ => rfl⟩
theorem dv.trans {a b c : AH} (h1 : dv a b) (h2 : dv b c) : dv a c := ⟨Nat.le_trans h1.nx h2.nx, fun f hf => (h2.get f (Nat.lt_of_lt_of_le hf h1.nx)).trans (h1.get f hf)⟩
theorem dv.new (h : AH) (ty : TypeId) (l : List Value) : dv h (h.new ty l) := ⟨Nat.le_succ _, fun f hf => by show (h.ob.set h.nx _).get f = _; rw [NT.dc, if_neg (by omega)]⟩
theorem dv.wr {a h : AH} (H : dv a h) {b : Nat} (hb : a.nx ≤ b) (o : Nat) (l : List Value) : dv a (h.wr b o l) :=
 ⟨by rw [AH.mz]; exact H.nx, fun f hf => by rw [AH.tt h (by omega)]; exact H.get f hf⟩
theorem dv.rd {h h' : AH} (H : dv h h') (fi : h.Ok) {b o : Nat} {v : Value} (hr : h.rd b o = some v) : h'.rd b o = some v := by
 have := AH.agH fi hr
 unfold AH.rd at hr ⊢
 rw [H.get b this]; exact hr
def AH.bU (h : AH) (b o : Nat) (l : List Value) : Prop := ∀ i v, l[i]? = some v → h.rd b (o + i) = some v
theorem AH.Oo (h : AH) (b o : Nat) : h.bU b o [] := fun i v hv => by simp at hv
theorem AH.XF {h : AH} {b o : Nat} {v : Value} {l : List Value} : h.bU b o (v :: l) ↔ h.rd b o = some v ∧ h.bU b (o + 1) l := by
 constructor
 · intro H
   exact ⟨H 0 v rfl, fun i u hu => by have := H (i + 1) u (by simpa using hu); rwa [show o + (i + 1) = o + 1 + i by omega] at this⟩
 · rintro ⟨h1, h2⟩ i u hu
   cases i with
   | zero => simp at hu; subst hu; exact h1
   | succ i => have := h2 i u (by simpa using hu); rwa [show o + 1 + i = o + (i + 1) by omega] at this
theorem dv.bU {h h' : AH} (H : dv h h') (fi : h.Ok) {b o : Nat} {l : List Value} (hr : h.bU b o l) : h'.bU b o l := fun i v hv => H.rd fi (hr i v hv)
theorem AH.G6 (h : AH) (ty : TypeId) (l : List Value) : (h.new ty l).bU h.nx 0 l := fun i v hv => by rw [AH.G5, if_pos rfl, Nat.zero_add]; exact hv
theorem Oq {α : Type} {t : NT α} : ∀ {i : Nat} {k : α → Bool} {x : α}, t.get i = some x → t.dH i k = k x := by
 induction t with
 | e => intro i k x h; cases h
 | n l v r Ot ihr =>
  intro i k x hx
  rw [NT.LV]
  rw [NT.get] at hx
  cases h0 : Nat.beq i 0 with
  | true => rw [h0] at hx; cases v with
   | none => cases hx
   | some y => cases hx; rfl
  | false =>
   rw [h0] at hx
   cases h1 : Nat.beq (Nat.mod i 2) 1 with
   | true => rw [h1] at hx; exact Ot hx
   | false => rw [h1] at hx; exact ihr hx
theorem tu {h : AH} {b : Nat} {o : AO} (ho : h.ob.get b = some o) (k : AO → Bool) : ni h b k = k o := by
 cases h; exact Oq ho
theorem Ou (h : AH) (b : Nat) (o : Option AO) (k : AH → Bool) : gz h b o k = k ⟨h.nx, h.ob.set b o⟩ := by
 cases h with
 | mk nx ob => exact NT.lL ob b o fun aW => k ⟨nx, aW⟩
theorem Ov (h : AH) (o : AO) (k : Nat → AH → Bool) : lu h o k = k h.nx ⟨h.nx + 1, h.ob.set h.nx (some o)⟩ := by
 cases h with
 | mk nx ob =>
  show NT.gL (oE nx) ob nx (some o) (fun aW => fN (Nat.succ nx) fun qc => k nx ⟨qc, aW⟩) = _
  rw [NT.lL, ch]
theorem vH (h : AH) (ty : TypeId) {l : List Value} (ha : di l = true) (k : Nat → AH → Bool) : kj h ty l k = k h.nx (h.new ty l) := by
 unfold kj
 rw [ha, fF, G4, ch, Ov]
 rfl
theorem XG (c : NT Value) : ∀ (l : List Value) (i : Nat) (k : List Value → Bool), (∀ j v, l[j]? = some v → c.get (i + j) = some v) → n5 c i l.length k = k l
 | [], i, k, _ => rfl
 | v :: l, i, k, H => by
  show NT.dH c i (fun v => fN (Nat.succ i) fun i' => n5 c i' l.length fun l => k (v :: l)) = _
  rw [Oq (by have := H 0 v rfl; rwa [Nat.add_zero] at this), ch, XG c l (i + 1) _ fun j u hu => by
   have := H (j + 1) u (by simpa using hu); rwa [show i + (j + 1) = i + 1 + j by omega] at this]
theorem G7 {h : AH} {b o : Nat} {v : Value} (hr : h.rd b o = some v) : ∃ lo hi ty rw c, h.ob.get b = some (.cells lo hi ty rw c) ∧ lo ≤ o ∧ o + 1 ≤ hi ∧ c.get o = some v := by
 unfold AH.rd at hr
 split at hr
 · rename_i lo hi ty rw c heq
   split at hr
   · rename_i hb; exact ⟨lo, hi, ty, rw, c, heq, hb.1, hb.2, hr⟩
   · cases hr
 · cases hr
theorem agI {h : AH} {b o : Nat} {v : Value} (hr : h.rd b o = some v) (k : Value → Bool) : pX h b o k = k v := by
 obtain ⟨lo, hi, ty, rw, c, h1, h2, h3, h4⟩ := G7 hr
 unfold pX lv
 rw [tu h1]
 show iff (Nat.ble lo o && Nat.ble (Nat.succ o) hi) (NT.dH c o k) = _
 have e : (Nat.ble lo o && Nat.ble (Nat.succ o) hi) = true := by simp only [Bool.and_eq_true, Nat.ble_eq]; exact ⟨h2, h3⟩
 rw [e, fF, Oq h4]
theorem agJ {h : AH} {b o : Nat} {l : List Value} (hr : h.bU b o l) (hl : 0 < l.length) : ∃ lo hi ty rw c, h.ob.get b = some (.cells lo hi ty rw c) ∧ lo ≤ o ∧ o + l.length ≤ hi ∧ ∀ j v, l[j]? = some v → c.get (o + j) = some v := by
 obtain ⟨lo, hi, ty, rw, c, h1, h2, h3, h4⟩ := G7 (hr 0 l[0] (by simp [hl]))
 have key : ∀ j v, l[j]? = some v → lo ≤ o + j ∧ o + j + 1 ≤ hi ∧ c.get (o + j) = some v := by
  intro j v hv
  obtain ⟨tv, dS, cz, ml, c', g1, g2, g3, g4⟩ := G7 (hr j v hv)
  rw [h1] at g1; cases g1
  exact ⟨g2, g3, g4⟩
 refine ⟨lo, hi, ty, rw, c, h1, h2, ?_, fun j v hv => (key j v hv).2.2⟩
 have := (key (l.length - 1) l[l.length - 1] (by simp [hl])).2.1
 omega
theorem Ow {h : AH} {b o n : Nat} {l : List Value} (hr : h.bU b o l) (hn : l.length = n) (hl : 0 < n) (k : List Value → Bool) : ln h b o n k = k l := by
 subst hn
 obtain ⟨lo, hi, ty, rw, c, h1, h2, h3, h4⟩ := agJ hr hl
 unfold ln lv
 rw [tu h1]
 show iff (Nat.ble lo o && Nat.ble (Nat.add o l.length) hi) (n5 c o l.length k) = _
 have e : (Nat.ble lo o && Nat.ble (Nat.add o l.length) hi) = true := by simp only [Bool.and_eq_true, Nat.ble_eq]; exact ⟨h2, h3⟩
 rw [e, fF, XG c l o k h4]
theorem Ox {h : AH} {b o : Nat} {l : List Value} (hc : h.can b o l.length) (ha : di l = true) (k : AH → Bool) : qd h b o l k = k (h.wr b o l) := by
 obtain ⟨lo, hi, ty, c, h1, h2, h3⟩ := hc
 unfold qd lv
 rw [tu h1]
 show iff (true && Nat.ble lo o && Nat.ble (Nat.add o l.length) hi && di l) _ = _
 have e : (true && Nat.ble lo o && Nat.ble (Nat.add o l.length) hi && di l) = true := by simp only [Bool.and_eq_true, Nat.ble_eq]; exact ⟨⟨⟨trivial, h2⟩, h3⟩, ha⟩
 rw [e, fF, G4, Ou]
 unfold AH.wr
 rw [h1]
theorem tw : ∀ (l : List Value) (n : Nat), iJ l n = decide (l.length = n)
 | [], 0 => rfl
 | [], n + 1 => by show false = _; simp
 | v :: l, 0 => by show false = _; simp
 | v :: l, n + 1 => by show iJ l n = _; rw [tw l n]; simp
section
variable {h : AH} {R : Value → AH → Prop}
theorem yE {x : Value} : WP .move [x] h R ↔ R x h := dk fun _ => rfl
theorem bf {c : Bool} {a b : Value} : WP .pick [.bool c, a, b] h R ↔ R (bif c then a else b) h := dk fun k => by cases c <;> rfl
theorem BJ {ty : TypeId} {zero : List Value} (ha : di zero = true) : WP (.alloc ty zero) [] h R ↔ R (az h.nx 0) (h.new ty zero) := dk fun k => vH h ty ha _
theorem G8 {ty : TypeId} {v : Value} (ha : di (cellsOf v) = true) : WP (.box ty) [v] h R ↔ R (az h.nx 0) (h.new ty (cellsOf v)) := dk fun k => vH h ty ha _
abbrev fG (b o n c : Nat) : Value := .slice (some ⟨b, o, none⟩) n c
abbrev vi (n : Int) : Value := .int .i64 n
abbrev cH : Value := .slice none 0 0
theorem G9 {b o : Nat} {s : Option Nat} {v : Value} (hr : h.rd b o = some v) : WP .aL [.pointer (some ⟨b, o, s⟩)] h R ↔ R v h := dk fun _ => agI hr _
theorem Ha {b o n : Nat} {s : Option Nat} {l : List Value} (hr : h.bU b o l) (hn : l.length = n) (h0 : 0 < n) : WP (.bo n) [.pointer (some ⟨b, o, s⟩)] h R ↔ R (.agg ⟨l⟩) h := dk fun _ => Ow hr hn h0 _
theorem Hb {b o n : Nat} {s : Option Nat} {v : Value} (hc : h.can b o n) (hn : (cellsOf v).length = n) (ha : di (cellsOf v) = true) : WP (.store n) [.pointer (some ⟨b, o, s⟩), v] h R ↔ R undef (h.wr b o (cellsOf v)) :=
 dk fun k => by
  show iff (iJ (cellsOf v) n) (qd h b o (cellsOf v) fun h => k undef h) = _
  rw [tw, decide_eq_true hn, fF, Ox (by rw [hn]; exact hc) ha]
theorem bg {b o off : Nat} {s : Option Nat} : WP (.fieldAddr off) [.pointer (some ⟨b, o, s⟩)] h R ↔ R (az b (o + off)) h := dk fun k => by
 show fN (Nat.add o off) (fun o' => k (az b o') h) = _
 rw [ch]; rfl
theorem Hc : ∀ {l : List Value} {i : Nat} {v : Value} (_ : l[i]? = some v) (k : Value → Bool), n4 l i k = k v
 | [], i, v, h, k => by simp at h
 | x :: l, 0, v, h, k => by simp at h; subst h; rfl
 | x :: l, i + 1, v, h, k => by show n4 l i k = _; exact Hc (by simpa using h) k
theorem Oy : ∀ {l : List Value} {i : Nat} (_ : i ≤ l.length) (k : List Value → Bool), qb l i k = k (l.drop i)
 | [], 0, h, k => rfl
 | [], i + 1, h, k => by simp at h
 | x :: l, 0, h, k => rfl
 | x :: l, i + 1, h, k => by show qb l i k = _; rw [Oy (by simpa using h)]; rfl
theorem Oz : ∀ {l : List Value} {i : Nat} (_ : i ≤ l.length) (k : List Value → Bool), qa l i k = k (l.take i)
 | [], 0, h, k => rfl
 | [], i + 1, h, k => by simp at h
 | x :: l, 0, h, k => rfl
 | x :: l, i + 1, h, k => by show qa l i (fun l' => k (x :: l')) = _; rw [Oz (by simpa using h)]; rfl
theorem agK {sz b o n c i : Nat} {kd : IntKind} {s : Option Nat} (hi : i < n) : WP (.cV sz) [.slice (some ⟨b, o, s⟩) n c, .int kd (i : Int)] h R ↔ R (az b (o + i * sz)) h := dk fun k => by
 show iff (Nat.ble (Nat.succ i) n) (fN (Nat.add o (Nat.mul i sz)) fun o' => k (az b o') h) = _
 have : Nat.ble (Nat.succ i) n = true := by rw [Nat.ble_eq]; exact hi
 rw [this, fF, ch]; rfl
theorem agL {len sz b o i : Nat} {kd : IntKind} {s : Option Nat} (hi : i < len) : WP (.xE len sz) [.pointer (some ⟨b, o, s⟩), .int kd (i : Int)] h R ↔ R (az b (o + i * sz)) h := dk fun k => by
 show iff (Nat.ble (Nat.succ i) len) (fN (Nat.add o (Nat.mul i sz)) fun o' => k (az b o') h) = _
 have : Nat.ble (Nat.succ i) len = true := by rw [Nat.ble_eq]; exact hi
 rw [this, fF, ch]; rfl
theorem agM {len i : Nat} {kd : IntKind} {l : List Value} {v : Value} (hi : i < len) (hv : l[i]? = some v) : WP (.qM len) [.agg ⟨l⟩, .int kd (i : Int)] h R ↔ R v h := dk fun k => by
 show iff (Nat.ble (Nat.succ i) len) (n4 l i fun v => k v h) = _
 have : Nat.ble (Nat.succ i) len = true := by rw [Nat.ble_eq]; exact hi
 rw [this, fF, Hc hv]
theorem agN {len sz i : Nat} {kd : IntKind} {l : List Value} (hi : i < len) (hl : len * sz ≤ l.length) : WP (.JD len sz) [.agg ⟨l⟩, .int kd (i : Int)] h R ↔ R (.agg ⟨(l.drop (i * sz)).take sz⟩) h := dk fun k => by
 show iff (Nat.ble (Nat.succ i) len) (qb l (Nat.mul i sz) fun l => qa l sz fun l => k (.agg ⟨l⟩) h) = _
 have : Nat.ble (Nat.succ i) len = true := by rw [Nat.ble_eq]; exact hi
 have h1 : i * sz + sz ≤ l.length := by
  have : (i + 1) * sz ≤ len * sz := Nat.mul_le_mul_right _ hi
  rw [Nat.add_mul] at this; omega
 rw [this, fF, show Nat.mul i sz = i * sz from rfl, Oy (by omega), Oz (by simp only [List.length_drop]; omega)]
theorem gE {k : IntKind} {x y : Int} : WP (.aN .add) [.int k x, .int k y] h R ↔ R (.int k (bt k (x + y))) h := dk fun kk => by
 show iff (fM k k) (fI (bt k (Int.add x y)) fun n => kk (.int k n) h) = _
 rw [oT, fF, oQ]; rfl
theorem mA {k : IntKind} {x y : Int} : WP (.aN .sub) [.int k x, .int k y] h R ↔ R (.int k (bt k (x - y))) h := dk fun kk => by
 show iff (fM k k) (fI (bt k (Int.sub x y)) fun n => kk (.int k n) h) = _
 rw [oT, fF, oQ]; rfl
theorem cI {k : IntKind} {x y : Int} : WP (.aN .eql) [.int k x, .int k y] h R ↔ R (.bool (decide (x = y))) h := dk fun kk => by
 show iff (fM k k) (fB (kN x y) fun b => kk (.bool b) h) = _
 rw [oT, fF, iA, yC]
theorem tx {k : IntKind} {x y : Int} : WP (.aN .neq) [.int k x, .int k y] h R ↔ R (.bool (!decide (x = y))) h := dk fun kk => by
 show iff (fM k k) (fB (!kN x y) fun b => kk (.bool b) h) = _
 rw [oT, fF, iA, yC]
theorem fW {k : IntKind} {x y : Int} : WP (.aN .lss) [.int k x, .int k y] h R ↔ R (.bool (decide (x < y))) h := dk fun kk => by
 show iff (fM k k) (fB (mr x y) fun b => kk (.bool b) h) = _
 rw [oT, fF, iA, G3]
theorem nr {k : IntKind} {x y : Int} : WP (.aN .leq) [.int k x, .int k y] h R ↔ R (.bool (decide (x ≤ y))) h := dk fun kk => by
 show iff (fM k k) (fB (!mr y x) fun b => kk (.bool b) h) = _
 rw [oT, fF, iA, G3]
 congr 2
 rw [← decide_not]
 congr 1
 exact propext Int.not_lt
theorem oe {k : IntKind} {x y : Int} : WP (.aN .gtr) [.int k x, .int k y] h R ↔ R (.bool (decide (y < x))) h := dk fun kk => by
 show iff (fM k k) (fB (mr y x) fun b => kk (.bool b) h) = _
 rw [oT, fF, iA, G3]
theorem oV {k : IntKind} {x y : Int} : WP (.aN .geq) [.int k x, .int k y] h R ↔ R (.bool (decide (y ≤ x))) h := dk fun kk => by
 show iff (fM k k) (fB (!mr x y) fun b => kk (.bool b) h) = _
 rw [oT, fF, iA, G3]
 congr 2
 rw [← decide_not]
 congr 1
 exact propext Int.not_lt
theorem ec {b : Bool} : WP .dQ [.bool b] h R ↔ R (.bool (!b)) h := dk fun kk => by
 show fB (!b) (fun b => kk (.bool b) h) = _
 rw [iA]
theorem OA {a b : Bool} : WP (.Ag false) [.bool a, .bool b] h R ↔ R (.bool (a == b)) h := dk fun kk => by cases a <;> cases b <;> rfl
theorem Hd {a b : Bool} : WP (.Ag true) [.bool a, .bool b] h R ↔ R (.bool (a != b)) h := dk fun kk => by cases a <;> cases b <;> rfl
theorem fH {l : List Value} {i : Nat} {v : Value} (hv : l[i]? = some v) : WP (.extract i) [.tuple ⟨l⟩] h R ↔ R v h := dk fun _ => Hc hv _
theorem agO {a : Addr} {n c : Nat} : WP .cO [.slice (some a) n c] h R ↔ R (.int .i64 (n : Int)) h := dk fun _ => by cases a; rfl
theorem agP {n c : Nat} : WP .cO [.slice none n c] h R ↔ R (.int .i64 0) h := dk fun _ => rfl
theorem He {fn : Fn} {nf : Nat} {vs : List Value} (hn : nf ≤ vs.length) : WP (.uF fn nf) vs h R ↔ R (.func fn ⟨vs.take nf⟩ ⟨vs.drop nf⟩) h := dk fun kk => by
 show qa vs nf (fun a => qb vs nf fun b => kk (.func fn ⟨a⟩ ⟨b⟩) h) = _
 rw [Oz hn, Oy hn]
theorem XH : ∀ {ss : List Nat} {vs : List Value} (_ : ss = vs.map fun v => (cellsOf v).length) (k : List Value → Bool), uU ss vs k = k (vs.flatMap cellsOf)
 | [], [], _, k => rfl
 | [], v :: vs, h, k => by simp at h
 | n :: ss, [], h, k => by simp at h
 | n :: ss, v :: vs, h, k => by
  simp only [List.map_cons, List.cons.injEq] at h
  show iff (iJ (cellsOf v) n) (uU ss vs fun l => iv (cellsOf v) l k) = _
  rw [tw, decide_eq_true h.1.symm, fF, XH h.2, tq]; rfl
theorem agQ {ss : List Nat} {vs : List Value} (hs : ss = vs.map fun v => (cellsOf v).length) : WP (.de ss) vs h R ↔ R (.agg ⟨vs.flatMap cellsOf⟩) h := dk fun _ => XH hs _
end
end
end Go.Ve
namespace Go.Ve
open Go.RowKit
noncomputable section
abbrev W := AH → Prop
def pr (p : Prim) (vs : List Value) (K : Value → W) : W := fun h => WP p vs h K
def ld (p : Prim) (vs : List Value) (K : Value → W) : W := fun h => WP p vs h fun v _ => K v h
def cl (P : Program) (w0 : World) (f : FuncId) (vs : List Value) (E K : Value → W) : W := fun h => WF P w0 f vs h fun r h => match r with
 | .ret v => K v h
 | .aP v => E v h
def dy (P : Program) (w0 : World) (vs : List Value) (E K : Value → W) : W := match vs with
 | .func (.func g) ⟨first⟩ ⟨bR⟩ :: as => cl P w0 g (first ++ (as ++ bR)) E K
 | .func (.yield l) ⟨[]⟩ ⟨[]⟩ :: as => fun h => WR P w0 l as h fun r h => match r with
  | .ret v => K v h
  | .aP v => E v h
 | _ => fun _ => False
def pn (vs : List Value) (E : Value → W) : W := match vs with
 | [.iface t x] => E (.iface t x)
 | _ => fun _ => False
def gd (g : Value) (want : Bool) (A : (Value → W) → W) (K : Value → W) : W := match g with
 | .bool b => bif mq b want then A K else K undef
 | _ => K undef
def br (c : Value) (A B : W) : W := match c with
 | .bool true => A
 | .bool false => B
 | _ => fun _ => False
def ck (p : Prim) (vs : List Value) (v : Value) (K : W) : W := fun h => WP p vs h (fun v' _ => rG v' v = true) ∧ K h
def ckm (p : Prim) (vs : List Value) (v : Value) (K : W) : W := fun h => p.fresh vs (vk ⟨.e, [], .off, h⟩ v) = true ∧ K h
def gk (g : Value) (want : Bool) (A : W → W) (K : W) : W := match g with
 | .bool b => bif mq b want then A K else K
 | _ => K
def gG {α : Type} (F : (α → W) → α → W) : Nat → α → W
 | 0, _ => fun _ => False
 | n + 1, a => F (gG F n) a
def LP {α : Type} (F : (α → W) → α → W) (a : α) : W := fun h => ∃ n, gG F n a h
theorem agR {α : Type} {F : (α → W) → α → W} (Inv : α → AH → Prop) (μ : α → AH → Nat)
 (step : ∀ a h (k : α → W), Inv a h → (∀ a' h', Inv a' h' → μ a' h' < μ a h → k a' h') → F k a h) {a : α} {h : AH} (H : Inv a h) : LP F a h := by
 have key : ∀ n a h, Inv a h → μ a h < n → gG F n a h := by
  intro n
  induction n with
  | zero => intro a h _ hn; exact absurd hn (Nat.not_lt_zero _)
  | succ n ih => intro a h hi hn; exact step a h _ hi fun a' h' dS hm => ih a' h' dS (by omega)
 exact ⟨_, key (μ a h + 1) a h H (Nat.lt_succ_self _)⟩
theorem OB (A : (Value → W) → W) (K : Value → W) : gd (.bool true) true A K = A K := rfl
theorem OC (A : (Value → W) → W) (K : Value → W) : gd (.bool false) false A K = A K := rfl
theorem OD (A : (Value → W) → W) (K : Value → W) : gd (.bool true) false A K = K undef := rfl
theorem OE (A : (Value → W) → W) (K : Value → W) : gd (.bool false) true A K = K undef := rfl
theorem OF (w : Bool) (A : (Value → W) → W) (K : Value → W) : gd undef w A K = K undef := rfl
theorem OG (A : W → W) (K : W) : gk (.bool true) true A K = A K := rfl
theorem OH (A : W → W) (K : W) : gk (.bool false) false A K = A K := rfl
theorem OI (A : W → W) (K : W) : gk (.bool true) false A K = K := rfl
theorem OJ (A : W → W) (K : W) : gk (.bool false) true A K = K := rfl
theorem OK (w : Bool) (A : W → W) (K : W) : gk undef w A K = K := rfl
theorem OL (A B : W) : br (.bool true) A B = A := rfl
theorem OM (A B : W) : br (.bool false) A B = B := rfl
def qn (σ : Sl) : List (Pos × Value) → Prop
 | [] => True
 | (p, v) :: U => σ p = v ∧ qn σ U
def Sl.rR (σ : Sl) : List (Pos × Value) → Sl
 | [] => σ
 | (p, v) :: U => Sl.up (Sl.rR σ U) p v
theorem vI {σ : Sl} : ∀ {U : List (Pos × Value)}, qn σ U → σ.rR U = σ
 | [], _ => rfl
 | (p, v) :: U, ⟨h1, h2⟩ => by
  show Sl.up (σ.rR U) p v = σ
  rw [vI h2]
  funext q
  unfold Sl.up
  cases h : p.beq q with
  | true => rw [← Pos.beq_iff.1 h]; exact h1.symm
  | false => rfl
section
variable {P : Program} {w0 : World} {e : Env} {σ : Sl} {d : DS} {h : AH} {Q : PQ} {l : List bB} {dl : List jd} {a b c : dh}
theorem qP (H : Q .normal σ d h) : ep P w0 .skip e σ d h Q := H
theorem dX (H : wpOps P w0 l e σ d h Q) : ep P w0 (.ops l) e σ d h Q := H
theorem eY (H : ep P w0 a e σ d h (vC (fun σ d h => ep P w0 b e σ d h Q) Q)) : ep P w0 (.seq a b) e σ d h Q := H
theorem dY (H : Q .normal σ d h) : wpOps P w0 [] e σ d h Q := H
theorem eZ {K : Sl → DS → AH → Prop} (H : K σ d h) : vC K Q .normal σ d h := H
theorem pJ {id : Nat} (H : ep P w0 c e σ d h (Oj id Q)) : ep P w0 (.block id c) e σ d h Q := H
theorem nF {id : Nat} (H : Q .normal σ d h) : Oj id Q .normal σ d h := H
theorem pK {o : ee} {v : Value} {A B : W} (hv : eV σ o = v) (H : br v A B h) (ha : A h → ep P w0 a e σ d h Q) (hb : B h → ep P w0 b e σ d h Q) : ep P w0 (.cond o a b) e σ d h Q := by
 simp only [ep]
 rw [hv]
 unfold br at H
 revert H
 cases v <;> intro H <;> first | exact H.elim | skip
 rename_i t
 revert H
 cases t with
 | true => exact ha
 | false => exact hb
theorem Hf {dst : Option Pos} {p : Prim} {vs : List Value} {K : Value → W} {K' : Sl → DS → AH → Prop} (H : pr p vs K h) (hK : ∀ v h, K v h → K' (σ.fD dst v) d h) : jm P w0 (.aQ p) dst e σ d h vs Q K' := WP.mono hK H
theorem ON {dst : Option Pos} {f : FuncId} {vs : List Value} {E K : Value → W} {K' : Sl → DS → AH → Prop} (H : cl P w0 f vs E K h) (hE : ∀ v h, E v h → Q (.aP v) σ d h) (hK : ∀ v h, K v h → K' (σ.fD dst v) d h) : jm P w0 (.call f) dst e σ d h vs Q K' :=
 WF.mono (fun r h hr => by cases r with | ret v => exact hK _ _ hr | aP v => exact hE _ _ hr) H
theorem XI {dst : Option Pos} {vs : List Value} {E K : Value → W} {K' : Sl → DS → AH → Prop} (H : dy P w0 vs E K h) (hE : ∀ v h, E v h → Q (.aP v) σ d h) (hK : ∀ v h, K v h → K' (σ.fD dst v) d h) : jm P w0 .dyn dst e σ d h vs Q K' := by
 unfold dy at H
 simp only [jm]
 split at H
 · exact WF.mono (fun r h hr => by cases r with | ret v => exact hK _ _ hr | aP v => exact hE _ _ hr) H
 · exact WR.mono (fun r h hr => by cases r with | ret v => exact hK _ _ hr | aP v => exact hE _ _ hr) H
 · exact H.elim
theorem agS {dst : Option Pos} {vs : List Value} {E : Value → W} {K' : Sl → DS → AH → Prop} (H : pn vs E h) (hE : ∀ v h, E v h → Q (.aP v) σ d h) : jm P w0 .panic dst e σ d h vs Q K' := by
 unfold pn at H
 simp only [jm]
 split at H
 · exact hE _ _ H
 · exact H.elim
theorem Hg {dst : Option Pos} {act : jc} {args : List ee} {g : Pos} {gv : Value} {want : Bool} {A : (Value → W) → W} {K : Value → W} {K' : Sl → DS → AH → Prop} (hg : σ g = gv) (H : gd gv want A K h) (hA : A K h → jm P w0 act dst e σ d h (args.map (eV σ)) Q K') (hK : ∀ v h, K v h → K' (σ.fD dst v) d h) :
 wpOp P w0 ⟨dst, act, args, some (g, want)⟩ e σ d h Q K' := by
 unfold wpOp
 simp only []
 rw [hg]
 unfold gd at H
 revert H
 cases gv <;> intro H <;> first | exact hK _ _ H | skip
 rename_i b
 simp only at H ⊢
 revert H
 cases mq b want with
 | true => exact hA
 | false => exact hK _ _
theorem agT {p : Prim} {args : List ee} {q g : Pos} {gv : Value} {want : Bool} {A : W → W} {K : W} (hg : σ g = gv) (H : gk gv want A K h) (hA : A K h → vA (.aQ p) (some q) (args.map (eV σ)) σ h ∧ K h) : yB ⟨some q, .aQ p, args, some (g, want)⟩ σ h ∧ K h := by
 unfold yB
 simp only []
 rw [hg]
 unfold gk at H
 revert H
 cases gv <;> intro H <;> first | exact ⟨trivial, H⟩ | skip
 rename_i b
 simp only at H ⊢
 revert H
 cases mq b want with
 | true => exact hA
 | false => exact fun H => ⟨trivial, H⟩
theorem fw {dst : Option Pos} {x : ee} {v : Value} (hv : eV σ x = v) (H : wpOps P w0 l e (σ.fD dst v) d h Q) : wpOps P w0 (⟨dst, .aQ .move, [x], none⟩ :: l) e σ d h Q := by
 subst hv; exact fun k hk => hk _ _ H
theorem bh {dst : Option Pos} {p : Prim} {args : List ee} {vs : List Value} {K : Value → W} (hv : args.map (eV σ) = vs) (H : pr p vs K h) (hK : ∀ v h, K v h → wpOps P w0 l e (σ.fD dst v) d h Q) : wpOps P w0 (⟨dst, .aQ p, args, none⟩ :: l) e σ d h Q := by
 subst hv; exact Hf (P := P) (w0 := w0) (e := e) (dst := dst) (Q := Q) (K' := fun σ d h => wpOps P w0 l e σ d h Q) H hK
theorem sF {dst : Option Pos} {f : FuncId} {args : List ee} {vs : List Value} {E K : Value → W} (hv : args.map (eV σ) = vs) (H : cl P w0 f vs E K h) (hE : ∀ v h, E v h → Q (.aP v) σ d h) (hK : ∀ v h, K v h → wpOps P w0 l e (σ.fD dst v) d h Q) : wpOps P w0 (⟨dst, .call f, args, none⟩ :: l) e σ d h Q := by
 subst hv; exact ON (e := e) (dst := dst) (K' := fun σ d h => wpOps P w0 l e σ d h Q) H hE hK
theorem acW {dst : Option Pos} {args : List ee} {vs : List Value} {E K : Value → W} (hv : args.map (eV σ) = vs) (H : dy P w0 vs E K h) (hE : ∀ v h, E v h → Q (.aP v) σ d h) (hK : ∀ v h, K v h → wpOps P w0 l e (σ.fD dst v) d h Q) : wpOps P w0 (⟨dst, .dyn, args, none⟩ :: l) e σ d h Q := by
 subst hv; exact XI (e := e) (dst := dst) (K' := fun σ d h => wpOps P w0 l e σ d h Q) H hE hK
theorem ab2 {dst : Option Pos} {x : ee} {v : Value} {g : Pos} {gv : Value} {want : Bool} {K : Value → W} (hg : σ g = gv) (hv : eV σ x = v) (H : gd gv want (fun k => k v) K h) (hK : ∀ v h, K v h → wpOps P w0 l e (σ.fD dst v) d h Q) : wpOps P w0 (⟨dst, .aQ .move, [x], some (g, want)⟩ :: l) e σ d h Q := by
 subst hv; exact Hg (K' := fun σ d h => wpOps P w0 l e σ d h Q) hg H (fun H k hk => hk _ _ (hK _ _ H)) hK
theorem kD {dst : Option Pos} {p : Prim} {args : List ee} {vs : List Value} {g : Pos} {gv : Value} {want : Bool} {K : Value → W} (hg : σ g = gv) (hv : args.map (eV σ) = vs) (H : gd gv want (fun k => pr p vs k) K h) (hK : ∀ v h, K v h → wpOps P w0 l e (σ.fD dst v) d h Q) : wpOps P w0 (⟨dst, .aQ p, args, some (g, want)⟩ :: l) e σ d h Q := by
 subst hv; exact Hg (K' := fun σ d h => wpOps P w0 l e σ d h Q) hg H (fun H => WP.mono hK H) hK
theorem ab3 {dst : Option Pos} {f : FuncId} {args : List ee} {vs : List Value} {g : Pos} {gv : Value} {want : Bool} {E K : Value → W} (hg : σ g = gv) (hv : args.map (eV σ) = vs) (H : gd gv want (fun k => cl P w0 f vs E k) K h) (hE : ∀ v h, E v h → Q (.aP v) σ d h) (hK : ∀ v h, K v h → wpOps P w0 l e (σ.fD dst v) d h Q) : wpOps P w0 (⟨dst, .call f, args, some (g, want)⟩ :: l) e σ d h Q := by
 subst hv; exact Hg (K' := fun σ d h => wpOps P w0 l e σ d h Q) hg H (fun H => ON H hE hK) hK
theorem acV {α : Type} (U : List (Pos × Value)) (M : α → List (Pos × Value)) (π : Sl → α) (J : α → W) (hM : ∀ σ, qn σ (M (π σ))) (hb : ∀ (x : α) (σ : Sl) (h : AH), J x h → ep P w0 b e ((σ.rR U).rR (M x)) d h Q)
 (ha : ep P w0 a e σ d h (vC (fun σ d' h => d' = d ∧ qn σ U ∧ J (π σ) h) Q)) : ep P w0 (.seq a b) e σ d h Q := by
 refine Ol a (fun x σ d' h hx => ?_) ha
 cases x with
 | normal =>
  obtain ⟨rfl, h2, h3⟩ := hx
  have := hb (π σ) σ h h3
  rwa [vI h2, vI (hM σ)] at this
 | _ => exact hx
end
end
end Go.Ve
