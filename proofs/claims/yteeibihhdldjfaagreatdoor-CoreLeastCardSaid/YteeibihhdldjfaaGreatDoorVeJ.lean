/- Part 10: VEval, part 34: more operations, the rest: pointers as unsafe.Pointer, a string's bytes appended, unsafe.String, a range over a map. No condition. And what follows it. -/
import Derived.Test.YteeibihhdldjfaaGreatDoorVeI
import Derived.Lib.UnsafeStr
set_option linter.unusedVariables false
set_option linter.unusedSimpArgs false
namespace Go.Ve
open Go.RowKit
section
variable {P : Program} {w0 w : World} {φ : aE} {h : AH} {ρ : Operand → Value} {o : Oper} {vs : List Value} {k : KV}
theorem VR.afm {v' : Value} (h : VR φ (.pointer none) v') : v' = .pointer none := by cases h; rfl
theorem HR.shape (H : HR P w0 φ h w) {a a' : Addr} {lo hi : Nat} {ty : TypeId} {rw : Bool} {c : NT Value} (hs : φ a.block ≠ none) (ha : AtR φ a a') (ho : h.ob.get a.block = some (.cells lo hi ty rw c)) :
 ∃ d n, w.shape? a'.block = some (ty, n) ∧ d ≤ lo ∧ (lo < hi → hi - d ≤ n) ∧ a'.off + d = a.off ∧ a'.spot = none := by
 obtain ⟨b, d, arr, fr, v1, v2, v3, v4, v5, v6, v7, _⟩ := H.at hs ha ho
 refine ⟨d, arr.size, by simp [World.shape?, v2, v5], v6, fun bG => ?_, v3, v4⟩
 obtain ⟨_, _, _, g, _⟩ := v7 (hi - 1) (by omega) (by omega)
 have := (Array.getElem?_eq_some_iff.1 g).1
 omega
theorem adw {x : Operand} {s t te : TypeId} {j : TypeInfo} (ho : o.op = .convert s t x) (hs : P.underlying s = some (.pointer te)) (ht : P.underlying t = some .unsafePointer) (hi : P.info? te = some j) (hj : j.size ≠ 0) (H : HR P w0 φ h w) (hv : LR φ vs ([x].map ρ)) (e : VI vs h k = true) : PR P w0 φ h ((execOp ρ o).run P w) fun v h' => k v h' = true := by
 obtain ⟨p, al, e1⟩ := dX e; clear e; subst al; have e := e1; clear e1
 obtain ⟨p', hp, hr⟩ := hv.one
 simp at hp; subst hp
 obtain ⟨a, al, e1⟩ := kF e; clear e; subst al
 obtain ⟨a', hx, hf, cw⟩ := hr.jx
 obtain ⟨lo, cz, ty, lQ, c, g1, e2⟩ := rl e1
 obtain ⟨g2, e3⟩ := bV e2
 simp only [Bool.and_eq_true] at g2
 have g3 := Nat.le_of_ble_eq_true g2.1
 have g4 : a.off < cz := Nat.le_of_ble_eq_true g2.2
 obtain ⟨d, n, q1, q2, q3, q4, q5⟩ := H.shape hf cw g1
 have q3 := q3 (by omega)
 refine .same H ?_ (.ptr ⟨a.block, a.off, none⟩ _ hf cw) e3
 simp only [execOp, ho, hx]
 simp [Lib.run_to_unsafe (P := P) w a' hs ht hi hj q1 (by omega)]
theorem afn {fits : TypeId → Bool} {d : Nat} {e : TypeId} {c c' off n : Nat} (hc : c ≤ c') (h : rowAt P fits d e c off n = true) : rowAt P fits d e c' off n = true := by
 cases d with
 | zero => cases h
 | succ d =>
  unfold rowAt at h ⊢
  simp only at h ⊢
  split at h
  · cases h
  · rename_i hs
    rw [if_neg hs]
    simp only [Bool.or_eq_true, Bool.and_eq_true, decide_eq_true_eq] at h ⊢
    rcases h with ⟨⟨h1, h2⟩, h3⟩ | ⟨h1, h2⟩
    · exact .inl ⟨⟨h1, by omega⟩, h3⟩
    · exact .inr ⟨by omega, h2⟩
theorem W0 : ∀ {d : Nat} {e : TypeId} {c c' off : Nat} {u : TypeId} {n : Nat}, c ≤ c' → liesAt P d e c off u n = true → liesAt P d e c' off u n = true
 | 0, _, _, _, _, _, _, _, h => by cases h
 | d + 1, e, c, c', off, u, n, hc, h => by
  unfold liesAt at h ⊢
  rw [Bool.or_eq_true] at h ⊢
  rcases h with h | h
  · exact .inl (afn hc h)
  · refine .inr ?_
    split at h
    · exact W0 hc h
    · cases h
theorem W1 {ty hi : Nat} : ∀ {l : List (TypeId × Nat)}, FJ ty hi l = true → ∃ n, (ty, n) ∈ l ∧ n ≤ hi
 | [], h => by cases h
 | (t, n) :: l, h => by
  unfold FJ at h
  cases hb : Nat.beq t ty && Nat.ble n hi with
  | true =>
   rw [Bool.and_eq_true] at hb
   obtain rfl := Nat.eq_of_beq_eq_true hb.1
   exact ⟨n, .head _, Nat.le_of_ble_eq_true hb.2⟩
  | false =>
   rw [hb] at h
   obtain ⟨m, h1, h2⟩ := W1 (l := l) (by simpa using h)
   exact ⟨m, .tail _ h1, h2⟩
theorem afo {u t : TypeId} {n : Nat} (h : (t, n) ∈ F8 P u) : n = P.cellsOf t ∧ n ≠ 0 ∧ liesAt P P.depth t 1 0 u 1 = true := by
 unfold F8 at h
 obtain ⟨t', h1, h2⟩ := List.mem_map.1 h
 cases h2
 have h3 := (List.mem_filter.1 h1).2
 simp only [Bool.and_eq_true, Bool.not_eq_true', beq_eq_false_iff_ne] at h3
 exact ⟨rfl, h3.1.2, h3.2⟩
theorem adx {x : Operand} {s t u : TypeId} {j : TypeInfo} (ho : o.op = .convert s t x) (hs : P.underlying s = some .unsafePointer) (ht : P.underlying t = some (.pointer u)) (hi : P.info? u = some j) (H : HR P w0 φ h w) (hv : LR φ vs ([x].map ρ)) (e : VJ (F8 P u) vs h k = true) : PR P w0 φ h ((execOp ρ o).run P w) fun v h' => k v h' = true := by
 obtain ⟨p, al, e1⟩ := dX e; clear e; subst al; have e := e1; clear e1
 obtain ⟨p', hp, hr⟩ := hv.one
 simp at hp; subst hp
 obtain ⟨a, al, e1⟩ := kF e; clear e; subst al
 obtain ⟨a', hx, hf, cw⟩ := hr.jx
 obtain ⟨lo, cz, ty, lQ, c, g1, e2⟩ := rl e1
 obtain ⟨g2, e3⟩ := bV e2
 simp only [Bool.and_eq_true] at g2
 obtain ⟨⟨g2, g3⟩, g4⟩ := g2
 have g2 : lo = 0 := Nat.eq_of_beq_eq_true g2
 have g3 : a.off = 0 := Nat.eq_of_beq_eq_true g3
 obtain ⟨m, g5, g6⟩ := W1 g4
 obtain ⟨g7, g8, g9⟩ := afo g5
 obtain ⟨d, n, q1, q2, q3, q4, q5⟩ := H.shape hf cw g1
 have q3 := q3 (by omega)
 have W2 : a'.off = 0 := by omega
 refine .same H ?_ (.ptr ⟨a.block, a.off, none⟩ _ hf cw) e3
 simp only [execOp, ho, hx]
 have hn : P.cellsOf ty ≤ n := by omega
 have h1 : 1 ≤ n / P.cellsOf ty := (Nat.one_le_div_iff (by omega)).2 hn
 simp [Lib.run_from_unsafe (P := P) w a' hs ht hi q1 (by rw [W2]; exact W0 h1 g9)]
theorem afp {x y : Value} (h : FK x y = true) : ∃ a b, x = .pointer (some a) ∧ y = .pointer (some b) ∧ a.block = b.block ∧ a.off = b.off := by
 unfold FK at h
 split at h
 · rename_i a b
   rw [Bool.and_eq_true] at h
   exact ⟨a, b, rfl, rfl, Nat.eq_of_beq_eq_true h.1, Nat.eq_of_beq_eq_true h.2⟩
 · cases h
theorem Uy {op : BinOp} {t u te : TypeId} {j : TypeInfo} {x y : Operand} {ng : Bool} (ho : o.op = .binOp op t x y u) (aQ : (op = .eql ∧ ng = false) ∨ (op = .neq ∧ ng = true)) (hu : P.underlying t = some (.pointer te)) (hi : P.info? te = some j) (H : HR P w0 φ h w) (hv : LR φ vs ([x, y].map ρ)) (e : VL ng vs h k = true) : PR P w0 φ h ((execOp ρ o).run P w) fun v h' => k v h' = true := by
 obtain ⟨p, q, al, e1⟩ := gm e; clear e; subst al
 cases NS : FK p q with
 | false =>
  rw [NS, cond_false] at e1
  exact oj (nk := 0) ho aQ hu rfl (fun h => by cases h) H hv e1
 | true =>
  rw [NS, cond_true] at e1
  obtain ⟨a, b, afq, afr, hb, W2⟩ := afp NS
  subst afq afr
  obtain ⟨p', q', hp, hr, hq⟩ := hv.two
  simp at hp; obtain ⟨e2, e3⟩ := hp; subst e2 e3
  obtain ⟨a', hx, hf, cw⟩ := hr.jx
  obtain ⟨b', hy, hf', Bl⟩ := hq.jx
  obtain ⟨a2, al, e2⟩ := kF e1
  cases al
  obtain ⟨ob, g1, e3⟩ := vF e2
  obtain ⟨B, d, n, o', m1, m2, m3, m4⟩ := H.live hf g1
  obtain ⟨c1, c2, c3⟩ := cw B d n m1
  obtain ⟨d1, d2, d3⟩ := Bl B d n (by rw [← hb]; exact m1)
  have mE : a' = b' := by
   cases a'; cases b'
   simp only at c1 c2 c3 d1 d2 d3
   subst c1 c3 d1 d3
   congr 1
   omega
  subst mE
  rw [ia] at e3
  have hg := W3 (P := P) (w := w) (nk := 0) (op := op) (t := t) (X := x) (Y := y) (a := .pointer (some a')) (b := .pointer (some a')) rfl rfl (fun h => by cases h)
  refine .same H ?_ (.bool _) e3
  simp only [execOp, ho, hx, hy]
  rcases aQ with ⟨rfl, rfl⟩ | ⟨rfl, rfl⟩
  · simp [hg, run_eql_ptr_same (P := P) w a' hu hi]
  · simp [hg, Lib.run_neq_ptr_same (P := P) w a' hu hi]
theorem adS {c : Call} {x : Operand} (ho : o.op = .call c) (hc : c.callee = .builtin .unsafeSliceData) (ha : c.args = #[x]) (H : HR P w0 φ h w) (hv : LR φ vs ([x].map ρ)) (e : VM vs h k = true) : PR P w0 φ h ((execOp ρ o).run P w) fun v h' => k v h' = true := by
 obtain ⟨p, al, e1⟩ := dX e; clear e; subst al; have e := e1; clear e1
 obtain ⟨p', hp, hr⟩ := hv.one
 simp at hp; subst hp
 rcases oe e with ⟨l, c', al, e1⟩ | ⟨a, l, c', al, e1⟩ <;> (clear e; subst al)
 · obtain ⟨rfl, rfl, hx⟩ := hr.pD
   refine .same H ?_ .EX e1
   rw [j9 ho hc]
   simp [builtin, ha, hx, Lib.run_unsafeSliceData_nil]
 · obtain ⟨a', cH, hx, hs, gN⟩ := hr.ni
   obtain ⟨h1, e2⟩ := bV e1
   have h1 : 1 ≤ l := Nat.le_of_ble_eq_true h1
   have cw : AtR φ a a' ∧ cH ≠ 0 := by
    rcases gN with ⟨_, h2, h3, h4⟩ | ⟨_, _, _, h3, h4⟩
    · exact ⟨h4 (by omega), by omega⟩
    · exact ⟨(h4 (by omega)).1, by omega⟩
   refine .same H ?_ (.ptr ⟨a.block, a.off, none⟩ _ hs cw.1) e2
   rw [j9 ho hc]
   simp [builtin, ha, hx, Lib.run_unsafeSliceData_row (P := P) w _ _ a' l cH cw.2]
theorem W4 : ∀ {l : List Value} {k : List UInt8 → Bool}, VG l k = true → ∃ m : List UInt8, l = m.map (fun c => Value.int .u8 c.toNat) ∧ k m = true
 | [], k, h => ⟨[], rfl, h⟩
 | v :: l, k, h => by
  obtain ⟨kd, n, al, e1⟩ := lP (show jU v _ = true from h)
  subst al
  cases n with
  | negSucc n => cases e1
  | ofNat n =>
   obtain ⟨e2, e3⟩ := bV (show iff (fy kd .u8 && Nat.ble (Nat.succ n) 256) _ = true from e1)
   rw [Bool.and_eq_true] at e2
   obtain rfl := mD e2.1
   have bG : n < 256 := Nat.le_of_ble_eq_true e2.2
   obtain ⟨m, h1, h2⟩ := W4 (l := l) e3
   refine ⟨UInt8.ofNat n :: m, ?_, h2⟩
   rw [h1]
   have : (UInt8.ofNat n).toNat = n := by simp [UInt8.toNat_ofNat']; omega
   simp [this]
theorem afs {l3 : Array TypeId} {ty t : TypeId} (h0 : l3[0]? = some t) (z : Option Addr) (kd : IntKind) :
 (Builtin.unsafeString_ l3 ty #[.pointer z, .int kd 0]).run P w = .ok (.string .empty) w := by
 have hm : IntKind.i64.max = 9223372036854775807 := rfl
 cases z <;> refine (Sem.run_bind P w (asInt (.int kd 0)) _).trans ?_ <;> simp [h0, asInt, asIntOf, hm]
theorem aft {l3 : Array TypeId} {ty t e : TypeId} (h0 : l3[0]? = some t) (hp : P.underlying t = some (.pointer e)) (hc : P.cellsOf e = 1) (a : Addr) (cells : Nat) (hsh : w.shape? a.block = some (e, cells)) (l : List UInt8) (hl : l.length ≠ 0) (hn : a.off + l.length ≤ cells) (h63 : l.length ≤ 1048576) (kd : IntKind)
 (mO : ∀ j x, l[j]? = some x → w.cell? (a.add j) = some (.int .u8 x.toNat)) :
 (Builtin.unsafeString_ l3 ty #[.pointer (some a), .int kd l.length]).run P w = .ok (.string ⟨l.toArray⟩) (w.freeze a l.length) := by
 have NU := Lib.run_loadBytes (P := P) w l a .empty mO
 have afu : liesAt P P.depth e (cells / P.cellsOf e) a.off e l.length = true := by
  have hd : P.depth = (2 * (P.types.size + Made.depth) + 1) + 1 := rfl
  rw [hd]
  simp only [liesAt, Bool.or_eq_true]
  left
  rw [hd]
  have h1 : a.off + l.length ≤ cells / P.cellsOf e := by rw [hc]; simpa using hn
  rw [hc] at h1
  simp at h1
  simp [rowAt, hc, h1, sameLayout, Nat.mod_one]
 have Gb : ¬ (9223372036854775807 : Int) < (l.length : Int) := by omega
 have W5 : IntKind.i64.max = 9223372036854775807 := rfl
 have afv : ¬ (l.length : Int) < 0 := by omega
 have fP : l ≠ [] := fun e => hl (by simp [e])
 refine (Sem.run_bind P w (asInt (.int kd l.length)) _).trans ?_
 simp [h0, asInt, asIntOf, W5, Gb, afv, fP, variablesAt, hsh, elemOf, run_underlying hp, afu, NU]
theorem afw {ty n : Nat} {a : Addr} (e : VN ty n h k a = true) : ∃ lo hi c m aS, h.ob.get a.block = some (.cells lo hi ty true c) ∧ lo ≤ a.off ∧ a.off + n ≤ hi ∧ n ≤ 1048576 ∧ m.length = n ∧
 (∀ j x, m[j]? = some x → c.get (a.off + j) = some (.int .u8 (UInt8.toNat x))) ∧ h.ob.iy a.block (some (.cells lo hi ty false c)) aS ∧ k (.string ⟨⟨m⟩⟩) ⟨h.nx, aS⟩ = true := by
 cases a with
 | mk b off sp =>
  obtain ⟨lo, hi, bU, lQ, c, g1, e2⟩ := rl (show kM h b _ = true from e)
  obtain ⟨g2, e3⟩ := bV e2
  simp only [Bool.and_eq_true] at g2
  obtain ⟨⟨⟨⟨g2, g3⟩, g4⟩, g5⟩, g6⟩ := g2
  subst g2
  obtain rfl := Nat.eq_of_beq_eq_true g3
  obtain ⟨l, e4, g7, g8⟩ := F6 _ e3
  obtain ⟨m, rfl, e5⟩ := W4 e4
  obtain ⟨aS, g9, e6⟩ := mF e5
  refine ⟨lo, hi, c, m, aS, g1, Nat.le_of_ble_eq_true g4, Nat.le_of_ble_eq_true g5, Nat.le_of_ble_eq_true g6, by simpa using g7, fun j x hj => g8 j _ (by simp [hj]), g9, e6⟩
theorem adT {c : Call} {x y : Operand} {t u : TypeId} (ho : o.op = .call c) (hc : c.callee = .builtin .unsafeString) (ha : c.args = #[x, y]) (h0 : c.argTypes[0]? = some t) (hu : P.underlying t = some (.pointer u)) (h1 : P.cellsOf u = 1) (H : HR P w0 φ h w) (hv : LR φ vs ([x, y].map ρ)) (e : VO u vs h k = true) : PR P w0 φ h ((execOp ρ o).run P w) fun v h' => k v h' = true := by
 obtain ⟨p, q, al, e1⟩ := gm e; clear e; subst al
 obtain ⟨p', q', hp, hr, hq⟩ := hv.two
 simp at hp; obtain ⟨e2, e3⟩ := hp; subst e2 e3
 obtain ⟨kd, n, al, e2⟩ := qJ e1; subst al; clear e1
 have hn := hq.fX
 have W5 : IntKind.i64.max = 9223372036854775807 := rfl
 split at e2
 · rename_i q
   have hpx : ∃ z, ρ x = .pointer z := by
    cases q with
    | none => exact ⟨_, hr.afm⟩
    | some a => obtain ⟨a', hx, _⟩ := hr.jx; exact ⟨_, hx⟩
   obtain ⟨z, hz⟩ := hpx
   by_cases lS : n = 0
   · subst lS
     rw [j7 rfl, cond_true] at e2
     refine .same H ?_ (.str _) e2
     rw [j9 ho hc]
     have h00 := afs (P := P) (w := w) (ty := o.type) h0 z kd
     simp [builtin, ha, hz, hn, h00]
     rfl
   · rw [eO lS, cond_false] at e2
     cases q with
     | none => cases e2
     | some a =>
      obtain ⟨a', hx, hf, cw⟩ := hr.jx
      obtain ⟨lo, hi, cc, m, aS, g1, g2, g3, g4, g5, g6, g7, g8⟩ := afw e2
      subst g5
      obtain ⟨b, d, arr, fr, v1, v2, v3, v4, v5, v6, v7, v8, v9⟩ := H.at hf cw g1
      obtain rfl := v9 rfl
      have ef : a'.off + m.length ≤ arr.size := by
       obtain ⟨_, _, _, g, _⟩ := v7 (a.off + m.length - 1) (by omega) (by omega)
       have := (Array.getElem?_eq_some_iff.1 g).1
       omega
      have mO : ∀ j x, m[j]? = some x → w.cell? (a'.add j) = some (.int .u8 x.toNat) := fun j x hj => by
       have zZ := (List.getElem?_eq_some_iff.1 hj).1
       obtain ⟨v', q1, q2⟩ := H.cell hf cw g1 (j := j) (by omega) (by omega) (g6 j x hj)
       rw [q1, q2.fX]
      have bO := aft (P := P) (w := w) (ty := o.type) h0 hu h1 a' arr.size (by simp [World.shape?, v2, v5]) m lS ef g4 kd mO
      have lr : (w.freeze a' m.length) = { w with heap := w.heap.modify a'.block fun
       | .cells c elem (lo, hi) => .cells c elem (if lo == hi then (a'.off, a'.off + m.length) else (min lo a'.off, max hi (a'.off + m.length)))
       | o => o } := by unfold World.freeze; rw [if_neg lS]; rfl
      refine ⟨_, w.freeze a' m.length, _, _, φ, .inl ?_, g8, Ext.refl _ _, Nat.le_refl _, .str _, ?_⟩
      · rw [j9 ho hc]
        simp only [builtin, ha, List.map_toArray, List.map_cons, List.map_nil, hx, hn]
        rw [show (Int.ofNat m.length) = (m.length : Int) from rfl]
        simp [bO]
      · refine H.iK (h' := ⟨h.nx, aS⟩) (o' := .cells arr u (a'.off, a'.off + m.length)) v1 g7 rfl (.cells _ _ _ _ _ _ _ _ _ (fun h => by cases h) v6 rfl v7) (v8 rfl) ?_ (fun k hk => ?_) ?_ ?_ ?_ ?_
        · rw [lr]; simp [Array.getElem?_modify, v2, v5]
        · rw [lr]; simp only [Array.getElem?_modify]; rw [if_neg (by rw [v2]; exact fun e => hk e.symm)]
        · rw [lr]; simp
        · rw [lr]
        · rw [lr]
        · rw [lr]
 · cases e2
theorem W6 : ∀ (l : List UInt8) {k : List Value → Bool}, Nn l k = true → k (l.map fun c => .int .u8 (.ofNat c.toNat)) = true
 | [], k, h => h
 | c :: l, k, h => by
  have h' : fN c.toNat (fun n => Nn l fun l => k (.int .u8 (.ofNat n) :: l)) = true := h
  rw [bT] at h'
  exact W6 l h'
theorem W7 (φ : aE) : ∀ l : List UInt8, LR φ (l.map fun c => .int .u8 (.ofNat c.toNat)) (l.map fun c => .int .u8 (.ofNat c.toNat))
 | [] => .nil
 | c :: l => .cons _ _ _ _ (.int _ _) (W7 φ l)
theorem adR {c : Call} {s x : Operand} {t u e' : TypeId} {i : TypeInfo} {z : Value} (ho : o.op = .call c) (hc : c.callee = .builtin .append) (ha : c.args = #[s, x]) (h0 : c.argTypes[0]? = some t) (h1 : c.argTypes[1]? = some u) (ht : P.underlying t = some (.slice e')) (hu : P.underlying u = some .string)
 (hi : P.info? e' = some i) (hz : i.zero = some z) (uW : i.bytes ≤ 65536) (lg : z.cells.size = i.size) (ef : i.size = 1) (H : HR P w0 φ h w) (hv : LR φ vs ([s, x].map ρ)) (e : VH e' z.cells.toList vs h k = true) : PR P w0 φ h ((execOp ρ o).run P w) fun v h' => k v h' = true := by
 obtain ⟨p, q, al, e1⟩ := gm e; clear e; subst al; have e := e1; clear e1
 obtain ⟨p', q', hp, hr, hq⟩ := hv.two
 simp at hp; obtain ⟨e1, e2⟩ := hp; subst e1 e2
 have bO : ∀ {v' : Value} {w' : World}, (Builtin.append_ c.argTypes o.type #[ρ s, ρ x]).run P w = .ok v' w' → (execOp ρ o).run P w = .ok (.value v') w' := by
  intro v' w' hh
  rw [j9 ho hc]
  simp [builtin, ha, hh]
 obtain ⟨str, al, e1⟩ := kb e; subst al
 have hx := hq.ja
 have e2 := W6 _ e1
 rw [bT] at e2
 obtain ⟨_, e3⟩ := bV e2
 refine W8 (p := p) (p' := ρ s) (q' := ρ x) (n := str.size) (xs := str.data.toList.map fun c => .int .u8 (.ofNat c.toNat)) bO h0 h1 ht (eu := 0) (.inr hu) hi hz uW lg (by omega) H hr (by rw [ef]; simp) (W7 φ _) ?_ (fun w' _ => ?_) ?_
 · rw [hx]; simp [Builtin.lenOf]
 · rw [hx]
   simp only [Builtin.firstCells, Sem.run_pure]
   congr 1
   apply Array.ext'
   simp
 · rw [ef]
   have hl : (str.data.toList.map fun c => Value.int .u8 (.ofNat c.toNat)).length = str.size := by simp
   rw [hl] at e3
   exact e3
theorem NV : ∀ (l : List Nat) (n : Nat), pN l n = l.contains n
 | [], n => rfl
 | m :: l, n => by
  have h1 : pN (m :: l) n = bif Nat.beq m n then true else pN l n := rfl
  rw [h1, NV l n, List.contains_cons]
  by_cases h : m = n
  · subst h; simp [j7]
  · rw [eO h]; simp [Ne.symm h]
theorem W9 : ∀ (l : List Nat) {n : Nat} {k : List Nat → Bool}, AZ l n k = true → k (l ++ [n]) = true
 | [], n, k, h => h
 | x :: l, n, k, h => W9 l (show AZ l n (fun l' => k (x :: l')) = true from h)
theorem NW {since : Nat} {seen : List Nat} : ∀ (es : List (Value × Value × Nat)) {k : List (Value × Value × Nat) → Bool}, re es since seen k = true → (∀ e ∈ es, e.2.2 < since) ∧ k (es.filter fun e => !seen.contains e.2.2) = true
 | [], k, h => ⟨fun e he => (by cases he), h⟩
 | e :: es, k, h => by
  obtain ⟨h1, h2⟩ := bV (show iff (Nat.ble (Nat.succ e.2.2) since) (bif pN seen e.2.2 then re es since seen k else re es since seen fun l => k (e :: l)) = true from h)
  have h1 : e.2.2 < since := Nat.le_of_ble_eq_true h1
  rw [NV] at h2
  cases hm : seen.contains e.2.2 with
  | true =>
   rw [hm, cond_true] at h2
   obtain ⟨h3, h4⟩ := NW es h2
   refine ⟨fun x hx => ?_, ?_⟩
   · rcases List.mem_cons.1 hx with rfl | hx
     · exact h1
     · exact h3 x hx
   · rw [List.filter_cons_of_neg (by rw [hm]; simp)]; exact h4
  | false =>
   rw [hm, cond_false] at h2
   obtain ⟨h3, h4⟩ := NW es h2
   refine ⟨fun x hx => ?_, ?_⟩
   · rcases List.mem_cons.1 hx with rfl | hx
     · exact h1
     · exact h3 x hx
   · rw [List.filter_cons_of_pos (by rw [hm]; rfl)]; exact h4
theorem Xa {go : Value → Value → Nat → Bool} : ∀ {l : List (Value × Value × Nat)}, sU go l = true → ∀ x ∈ l, go x.1 x.2.1 x.2.2 = true
 | [], _, x, hx => by cases hx
 | [(a, v, n)], h, x, hx => by
  rcases List.mem_cons.1 hx with rfl | hx
  · exact h
  · cases hx
 | (a, v, n) :: y :: l, h, x, hx => by
  obtain ⟨h1, h2⟩ := bV (show iff (go a v n) (sU go (y :: l)) = true from h)
  rcases List.mem_cons.1 hx with rfl | hx
  · exact h1
  · exact Xa h2 x hx
theorem ER.filter {φ : aE} {p : Nat → Bool} : ∀ {l : List (Value × Value × Nat)} {l' : List MapEntry}, ER φ l l' → ER φ (l.filter fun e => p e.2.2) (l'.filter fun e => p e.born)
 | _, _, .nil => .nil
 | _, _, .cons a v b e l l' h1 h2 h3 h4 => by
  have ih := ER.filter (p := p) h4
  cases hp : p b with
  | true =>
   rw [List.filter_cons_of_pos (by simpa using hp), List.filter_cons_of_pos (by rw [h3]; exact hp)]
   exact .cons _ _ _ _ _ _ h1 h2 h3 ih
  | false =>
   rw [List.filter_cons_of_neg (by simpa using hp), List.filter_cons_of_neg (by rw [h3]; simpa using hp)]
   exact ih
theorem ER.mem {φ : aE} : ∀ {l : List (Value × Value × Nat)} {l' : List MapEntry}, ER φ l l' → ∀ e ∈ l', ∃ x ∈ l, VR φ x.1 e.key ∧ VR φ x.2.1 e.val ∧ e.born = x.2.2
 | _, _, .nil, e, he => by cases he
 | _, _, .cons a v b e l l' h1 h2 h3 h4, e', he => by
  rcases List.mem_cons.1 he with rfl | he
  · exact ⟨_, .head _, h1, h2, h3⟩
  · obtain ⟨x, q1, q2⟩ := ER.mem h4 e' he
    exact ⟨x, .tail _ q1, q2⟩
theorem mapOf (H : HR P w0 φ h w) {r r' : Nat} {es : List (Value × Value × Nat)} {cl : Nat} (hf : φ r ≠ none) (hr : ∀ b d n, φ r = some (.live b d n) → r' = b) (ho : h.ob.get r = some (.map es cl)) : ∃ cn, w.heap[r']? = some (.map cn cl) ∧ ER φ es cn.toList := by
 obtain ⟨b, d, n, o', m1, m2, m3, m4⟩ := H.live hf ho
 obtain rfl := hr b d n m1
 cases m3 with
 | map _ _ _ cn _ he => exact ⟨cn, m2, he⟩
theorem adB {x : Operand} {t kt et : TypeId} (ho : o.op = .range t x) (hu : P.underlying t = some (.map kt et)) (H : HR P w0 φ h w) (hv : LR φ vs ([x].map ρ)) (e : VS vs h k = true) : PR P w0 φ h ((execOp ρ o).run P w) fun v h' => k v h' = true := by
 obtain ⟨p, al, e1⟩ := dX e; clear e; subst al; have e := e1; clear e1
 obtain ⟨p', hp, hr⟩ := hv.one
 simp at hp; subst hp
 rcases E0 e with ⟨al, e1⟩ | ⟨r, al, e1⟩ <;> (clear e; subst al)
 · obtain ⟨aS, h1, h2⟩ := sE e1
   obtain ⟨g1, g2⟩ := H.newAt (f := h.nx) (o := .eC none 0 [] 0) (o' := .mapIter none 0 #[] 0) (d := 0) (n := 0) (h' := ⟨h.nx + 1, aS⟩) (H.fresh _ (Nat.le_refl _)) h1.1 (fun g hg _ => h1.2 g hg) (fun g hg => H.fresh g (by simp only at hg; omega)) (fun g hg => by rw [h1.2 g (by simp only at hg; omega)]; exact H.top g (by simp only at hg; omega)) (by simp) _ (Nat.le_refl _)
    (.eC _ none none _ _ _ (fun _ => rfl) (fun r hr => by cases hr))
   refine ⟨_, _, _, _, _, .inl ?_, h2, g2, by simp, PR.xK, g1⟩
   simp only [execOp, ho, hr.LX]
   simp [run_range_nilMap w t kt et hu]
 · obtain ⟨r', hx, hf, rm⟩ := hr.E4
   obtain ⟨es, cl, h3, e2⟩ := uY e1
   obtain ⟨cn, m1, m2⟩ := mapOf H hf rm h3
   obtain ⟨aS, h1, h2⟩ := sE e2
   obtain ⟨g1, g2⟩ := H.newAt (f := h.nx) (o := .eC (some r) cl [] cl) (o' := .mapIter (some r') cl #[] cl) (d := 0) (n := 0) (h' := ⟨h.nx + 1, aS⟩) (H.fresh _ (Nat.le_refl _)) h1.1 (fun g hg _ => h1.2 g hg) (fun g hg => H.fresh g (by simp only at hg; omega)) (fun g hg => by rw [h1.2 g (by simp only at hg; omega)]; exact H.top g (by simp only at hg; omega)) (by simp) _ (Nat.le_refl _)
    (.eC _ _ _ _ _ _ (fun h => by cases h) (fun r0 qS => by cases qS; exact ⟨r', rfl, hf, rm⟩))
   refine ⟨_, _, _, _, _, .inl ?_, h2, g2, by simp, PR.xK, g1⟩
   simp only [execOp, ho, hx]
   simp [run_range_map w t kt et r' cn cl hu m1]
theorem Xb (H : HR P w0 φ h w) {a a' : Addr} {m : Option Nat} {since last : Nat} {seen : List Nat} (hf : φ a.block ≠ none) (cw : AtR φ a a') (h0 : a.off = 0) (ho : h.ob.get a.block = some (.eC m since seen last)) :
 ∃ b d n m', φ a.block = some (.live b d n) ∧ a' = ⟨b, 0, none⟩ ∧ d = 0 ∧ w.heap[b]? = some (.mapIter m' since seen.toArray last) ∧ w0.heap.size ≤ b ∧ (m = none → m' = none) ∧ ∀ r, m = some r → ∃ r', m' = some r' ∧ φ r ≠ none ∧ ∀ b d n, φ r = some (.live b d n) → r' = b := by
 obtain ⟨b, d, n, o', m1, m2, m3, m4⟩ := H.live hf ho
 obtain ⟨q1, q2, q3⟩ := cw b d n m1
 cases m3 with
 | eC _ _ m' _ _ _ z0 z1 =>
  refine ⟨b, 0, n, m', m1, ?_, rfl, m2, m4 rfl, z0, z1⟩
  cases a'; simp_all
theorem adC {x : Operand} (ho : o.op = .next x false) (H : HR P w0 φ h w) (hv : LR φ vs ([x].map ρ)) (e : VT vs h k = true) : PR P w0 φ h ((execOp ρ o).run P w) fun v h' => k v h' = true := by
  obtain ⟨p, al, e1⟩ := dX e; clear e; subst al; have e := e1; clear e1
  obtain ⟨p', hp, hr⟩ := hv.one
  simp at hp; subst hp
  obtain ⟨a, al, e1⟩ := kF e; clear e; subst al; have e := e1; clear e1
  obtain ⟨a', hx, hs, cw⟩ := hr.jx
  obtain ⟨h0, e1⟩ := bV e
  have h0 := Nat.eq_of_beq_eq_true h0
  obtain ⟨m, since, seen, last, g1, g2⟩ := WY e1
  obtain ⟨b, d, n, m', z1, rfl, rfl, z2, z3, z4, z5⟩ := Xb H hs cw h0 g1
  cases m with
  | none =>
    obtain rfl := z4 rfl
    refine .same H ?_ (.fx _ _ (.cons _ _ _ _ (.bool false) .nil)) g2
    simp only [execOp, ho, hx]
    simp only [Instr.next, getObj, Sem.run_bind, Sem.run, z2, Result.andThen]
    rfl
  | some r =>
    obtain ⟨r', rfl, hf, rm⟩ := z5 r rfl
    obtain ⟨es, cl, h3, e2⟩ := uY (show jA h r _ = true from g2)
    obtain ⟨cn, m1, m2⟩ := mapOf H hf rm h3
    obtain ⟨e3, e4⟩ := bV e2
    rw [Bool.and_eq_true] at e3
    obtain rfl : cl = since := Nat.eq_of_beq_eq_true e3.1
    obtain rfl : last = cl := Nat.eq_of_beq_eq_true e3.2
    obtain ⟨u1, u2⟩ := NW _ e4
    have hold : ∀ x ∈ cn.toList, x.born < last := fun x hx => by
      obtain ⟨y, y1, _, _, y2⟩ := m2.mem x hx
      rw [y2]; exact u1 y y1
    have Bm : ER φ (es.filter fun e => !seen.contains e.2.2) (leftOf cn seen.toArray).toList := by
      have := ER.filter (p := fun n => !seen.contains n) m2
      unfold leftOf
      rw [Array.toList_filter]
      simpa using this
    rcases run_next_at (P := P) w o.type b r' last last seen.toArray cn last z2 m1 hold (Nat.le_refl _) with ⟨q1, q2⟩ | ⟨en, q1, w1, q2, q3⟩
    · have AM : (es.filter fun e => !seen.contains e.2.2) = [] := by
        have : (leftOf cn seen.toArray).toList = [] := by simpa using q1
        rw [this] at Bm
        revert Bm
        generalize (es.filter fun e => !seen.contains e.2.2) = L
        intro Bm
        cases Bm; rfl
      rw [AM] at u2
      obtain ⟨aS, k1, k2⟩ := mF (show fM h a.block none _ = true from u2)
      refine ⟨_, w, _, _, _, .inl ?_, k2, aE.Fw φ _ _ hs, Nat.le_refl _, .fx _ _ (.cons _ _ _ _ (.bool false) .nil), H.kill (h' := ⟨h.nx, aS⟩) hs k1 rfl⟩
      simp only [execOp, ho, hx]
      simp [q2]
    · obtain ⟨y, y1, y2, y3, y4⟩ := Bm.mem en q1
      have fj : sU (FM h a.block r last seen k) (es.filter fun e => !seen.contains e.2.2) = true := by
        revert u2
        cases (es.filter fun e => !seen.contains e.2.2) with
        | nil => intro _; rfl
        | cons x l => intro h; exact h
      have h5 := W9 _ (show AZ seen y.2.2 _ = true from Xa fj y y1)
      obtain ⟨aS, k1, k2⟩ := mF h5
      have H1 : HR P w0 φ h w1 := by rcases q2 with rfl | rfl; exact H; exact H.drew
      have hh : w1.heap = w.heap := by rcases q2 with rfl | rfl <;> rfl
      have bG : b < w1.heap.size := by rw [hh]; exact (Array.getElem?_eq_some_iff.1 z2).1
      refine ⟨_, ChangeMaps.setBlock w1 b (.mapIter (some r') last (seen.toArray.push en.born) last), _, _, φ, .inl ?_, k2, Ext.refl _ _, Nat.le_refl _, .fx _ _ (.cons _ _ _ _ (.bool true) (.cons _ _ _ _ y2 (.cons _ _ _ _ y3 .nil))), ?_⟩
      · simp only [execOp, ho, hx]
        simp [q3]
      · refine H1.iK (h' := ⟨h.nx, aS⟩) (o' := .mapIter (some r') last (seen.toArray.push en.born) last) z1 k1 rfl ?_ z3 (by simp [ChangeMaps.setBlock, bG]) (fun k hk => by simp [ChangeMaps.setBlock, Ne.symm hk]) (by simp [ChangeMaps.setBlock]) rfl rfl rfl
        have : seen.toArray.push en.born = (seen ++ [y.2.2]).toArray := by simp [y4]
        rw [this]
        exact .eC _ _ _ _ _ _ (fun h => by cases h) (fun r0 qS => by cases qS; exact ⟨r', rfl, hf, rm⟩)
theorem Xc : ∀ {l : List Nat} {k : Nat → Bool}, vr l k = true → ∃ n, l.getLast? = some n ∧ k n = true
 | [], k, h => by cases h
 | [n], k, h => ⟨n, rfl, h⟩
 | _ :: y :: l, k, h => by
  obtain ⟨n, h1, h2⟩ := Xc (l := y :: l) (show vr (y :: l) k = true from h)
  exact ⟨n, by rw [List.getLast?_cons_cons]; exact h1, h2⟩
theorem Xd {n : Nat} {k : Value → Value → Bool} : ∀ {es : List (Value × Value × Nat)} {cn : List MapEntry}, ER φ es cn → sV es n k = true → ∃ a v e, cn.find? (·.born == n) = some e ∧ VR φ a e.key ∧ VR φ v e.val ∧ k a v = true
 | _, _, .nil, h => by cases h
 | _, _, .cons a v b e l l' h1 h2 h3 h4, h => by
  have h' : (bif Nat.beq b n then k a v else sV l n k) = true := h
  by_cases hb : b = n
  · subst hb
    rw [j7 rfl, cond_true] at h'
    exact ⟨a, v, e, by simp [h3], h1, h2, h'⟩
  · rw [eO hb, cond_false] at h'
    obtain ⟨a', v', e', q1, q2⟩ := Xd h4 h'
    refine ⟨a', v', e', ?_, q2⟩
    rw [List.find?_cons_of_neg (by rw [h3]; simpa using hb)]
    exact q1
theorem adD {x : Operand} (ho : o.op = .entry x) (H : HR P w0 φ h w) (hv : LR φ vs ([x].map ρ)) (e : VU vs h k = true) : PR P w0 φ h ((execOp ρ o).run P w) fun v h' => k v h' = true := by
 obtain ⟨p, al, e1⟩ := dX e; clear e; subst al; have e := e1; clear e1
 obtain ⟨p', hp, hr⟩ := hv.one
 simp at hp; subst hp
 obtain ⟨a, al, e1⟩ := kF e; clear e; subst al; have e := e1; clear e1
 obtain ⟨a', hx, hs, cw⟩ := hr.jx
 obtain ⟨h0, e1⟩ := bV e
 have h0 := Nat.eq_of_beq_eq_true h0
 obtain ⟨m, since, seen, last, g1, g2⟩ := WY e1
 obtain ⟨b, d, n, m', z1, rfl, rfl, z2, z3, z4, z5⟩ := Xb H hs cw h0 g1
 cases m with
 | none => cases g2
 | some r =>
  obtain ⟨r', rfl, hf, rm⟩ := z5 r rfl
  obtain ⟨es, cl, h3, e2⟩ := uY (show jA h r _ = true from g2)
  obtain ⟨cn, m1, m2⟩ := mapOf H hf rm h3
  obtain ⟨e3, e4⟩ := bV e2
  obtain rfl : cl = last := Nat.eq_of_beq_eq_true e3
  obtain ⟨st, s1, e5⟩ := Xc e4
  obtain ⟨ka, va, en, s2, s3, s4, e6⟩ := Xd m2 e5
  refine .same H (v' := .tuple #[en.key, en.val]) ?_ (.fx _ _ (.cons _ _ _ _ s3 (.cons _ _ _ _ s4 .nil))) e6
  have afx : cn.find? (·.born == st) = some en := by rw [← Array.find?_toList]; exact s2
  have om : seen.toArray.back? = some st := by simpa using s1
  simp only [execOp, ho, hx]
  simp only [Instr.entry, getObj, Sem.run_bind, Sem.run, z2, m1, Result.andThen, om, bne_self_eq_false, Bool.false_eq_true, if_false, afx]
  rfl
end
end Go.Ve
namespace Go.Ve
open Go.RowKit
section
variable {P : Program} {w0 w : World} {φ : aE} {h : AH} {ρ : Operand → Value} {o : Oper} {vs : List Value} {k : KV}
theorem Uu (hρ : ∀ g, ρ (.func g) = .func (.func g) #[] #[]) {p : Prim} {xs : List Operand} (hc : lj P o = some (.aO p, xs)) (H : HR P w0 φ h w) (hv : LR φ vs (xs.map ρ)) (e : p.ev vs h k = true) : PR P w0 φ h ((execOp ρ o).run P w) fun v h' => k v h' = true := by
 cases aQ : o.op <;> simp only [lj, aQ] at hc
 case move x => cases hc; exact Uv (.inl aQ) H hv e
 case assign x => cases hc; exact Uv (.inr aQ) H hv e
 case pick c a b => cases hc; exact ac5 aQ H hv e
 case alloc ty => split at hc <;> cases hc; exact ac6 aQ (by assumption) H e
 case box ty x => cases hc; exact ac7 aQ H hv e
 case build t parts =>
  split at hc
  · rename_i fs z hu hz
    split at hc
    · rename_i fj
      split at hc
      · rename_i ps eQ
        cases hc
        exact ac2 aQ hu hz (fun f hf => List.all_eq_true.1 fj f hf) eQ H hv e
      · cases hc
    · cases hc
  · rename_i n e' z hu hz
    split at hc
    · rename_i s hs
      cases hc
      exact ac3 aQ hu hz hs H hv e
    · cases hc
  · cases hc
 case buildSlice t len parts =>
  split at hc
  · rename_i e' hu
    split at hc
    · rename_i s z hs hz
      split at hc
      · rename_i hg
        cases hc
        simp only [Bool.and_eq_true, decide_eq_true_eq, beq_iff_eq] at hg
        exact ac4 aQ hu hz hs hg.1.1 hg.1.2 hg.2 H hv e
      · cases hc
    · cases hc
  · cases hc
 case load t a =>
  split at hc
  · rename_i d s hu hs
    split at hc
    · cases hc; exact ac8 aQ hu (by assumption) hs H hv e
    · rename_i hd; cases hc; exact ac9 aQ hu (by simpa using hd) H hv e
  · cases hc
 case store t a v =>
  split at hc
  · cases hc; exact ada aQ (by assumption) H hv e
  · cases hc
 case nilCheck x => cases hc; exact adb aQ H hv e
 case fieldAddr s x f =>
  split at hc
  · rename_i fs hu
    split at hc
    · rename_i fl hf
      split at hc
      · rename_i sz hs
        split at hc
        · cases hc
        · rename_i cS; cases hc; exact ade aQ hu hf hs cS H hv e
      · cases hc
    · cases hc
  · cases hc
 case field s x f =>
  split at hc
  · rename_i fs hu
    split at hc
    · rename_i fl hf
      split at hc
      · rename_i d sz hd hs
        split at hc
        · cases hc; exact adf aQ hu hf hd (by assumption) hs H hv e
        · rename_i hn; cases hc; exact adg aQ hu hf hd (by simpa using hn) H hv e
      · cases hc
    · cases hc
  · cases hc
 case indexAddr t x i =>
  split at hc
  · split at hc
    · cases hc; exact adh aQ (by assumption) (by assumption) H hv e
    · cases hc
  · split at hc
    · cases hc; exact adi aQ (by assumption) (by assumption) H hv e
    · cases hc
  · cases hc
 case index t x i =>
  split at hc
  · rename_i len e' hu
    split at hc
    · rename_i d s hd hs
      split at hc
      · cases hc; exact adj aQ hu hd (by assumption) hs H hv e
      · rename_i hn
        split at hc
        · rename_i h1; subst h1; cases hc; exact adk aQ hu hd (by simpa using hn) hs H hv e
        · cases hc
    · cases hc
  · cases hc; exact adl aQ (by assumption) H hv e
  · cases hc
 case slice t x lo hi mx =>
  split at hc
  · split at hc
    · split at hc
      · rename_i hg
        cases hc
        simp only [Bool.and_eq_true, decide_eq_true_eq, Bool.or_eq_true, Bool.not_eq_true'] at hg
        exact adm aQ (by assumption) (by assumption) hg.1 (fun hm => by rcases hg.2 with h2 | h2 <;> simp_all) H hv e
      · cases hc
    · cases hc
  · split at hc
    · split at hc
      · rename_i hg
        cases hc
        simp only [Bool.or_eq_true, Bool.not_eq_true'] at hg
        exact adn aQ (by assumption) (by assumption) (fun hm => by rcases hg with h2 | h2 <;> simp_all) H hv e
      · cases hc
    · cases hc
  · split at hc
    · cases hc
    · rename_i hmx
      cases hc
      have Ad : mx = none := by cases mx <;> simp_all
      subst Ad
      exact ado aQ (by assumption) H hv e
  · cases hc
 case binOp op t x y u =>
  split at hc
  · cases hc; exact adp aQ H hv e
  · split at hc <;> cases hc <;> first | exact adq aQ H hv e | exact adr aQ H hv e | exact ads aQ H hv e
  · rename_i hu
    split at hc <;> cases hc
    · exact Uw aQ (.inl ⟨rfl, rfl⟩) hu H hv e
    · exact Uw aQ (.inr ⟨rfl, rfl⟩) hu H hv e
  · rename_i fs hu
    split at hc
    · rename_i hg
      simp only [Bool.and_eq_true, Bool.not_eq_true'] at hg
      split at hc <;> cases hc
      · exact Ux aQ (.inl ⟨rfl, rfl⟩) hu hg.1 hg.2 (by assumption) H hv e
      · exact Ux aQ (.inr ⟨rfl, rfl⟩) hu hg.1 hg.2 (by assumption) H hv e
    · cases hc
  · rename_i hu
    split at hc
    · split at hc <;> cases hc
      · exact oj aQ (.inl ⟨rfl, rfl⟩) hu rfl (fun h => by cases h) H hv e
      · exact oj aQ (.inr ⟨rfl, rfl⟩) hu rfl (fun h => by cases h) H hv e
    · split at hc <;> cases hc
      · exact Uy aQ (.inl ⟨rfl, rfl⟩) hu (by assumption) H hv e
      · exact Uy aQ (.inr ⟨rfl, rfl⟩) hu (by assumption) H hv e
  · rename_i hu
    split at hc <;> cases hc
    · exact oj aQ (.inl ⟨rfl, rfl⟩) hu rfl (fun h => by cases h) H hv e
    · exact oj aQ (.inr ⟨rfl, rfl⟩) hu rfl (fun h => by cases h) H hv e
  · rename_i hu
    split at hc <;> cases hc
    · exact oj aQ (.inl ⟨rfl, rfl⟩) hu rfl (fun h => by cases h) H hv e
    · exact oj aQ (.inr ⟨rfl, rfl⟩) hu rfl (fun h => by cases h) H hv e
  · rename_i hu
    split at hc <;> cases hc
    · exact oj aQ (.inl ⟨rfl, rfl⟩) hu rfl (fun h => by cases h) H hv e
    · exact oj aQ (.inr ⟨rfl, rfl⟩) hu rfl (fun h => by cases h) H hv e
  · rename_i hu
    split at hc
    · rename_i Uz
      split at hc <;> cases hc
      · exact oj aQ (.inl ⟨rfl, rfl⟩) hu rfl (fun _ => Uz) H hv e
      · exact oj aQ (.inr ⟨rfl, rfl⟩) hu rfl (fun _ => Uz) H hv e
    · cases hc
  · cases hc
 case unOp op t x =>
  split at hc <;> cases hc
  · exact adt aQ H hv e
  · exact adu aQ H hv e
 case convert s t x =>
  split at hc
  · cases hc; exact adv aQ (by assumption) (by assumption) H hv e
  · split at hc
    · split at hc
      · cases hc
      · cases hc; exact adw aQ (by assumption) (by assumption) (by assumption) (by assumption) H hv e
    · cases hc
  · split at hc
    · cases hc; exact adx aQ (by assumption) (by assumption) (by assumption) H hv e
    · cases hc
  · cases hc
 case makeInterface t x =>
  split at hc
  · cases hc
  · cases hc
  · rename_i UA xP
    cases hc
    refine ady aQ ?_ H hv e
    unfold Program.concrete
    cases hu : P.underlying t with
    | none => exact absurd hu xP
    | some d => cases d <;> first | rfl | exact absurd hu (UA _)
 case makeFunc fn first bD =>
  split at hc <;> cases hc
  · exact UB aQ (fun _ => .func _) H hv e
  · exact UB aQ (fun _ => .method _) H hv e
 case makeMap t r =>
  split at hc <;> cases hc
  exact adz aQ H e
 case makeSlice t l c =>
  split at hc
  · rename_i e' hu
    split at hc
    · rename_i i z hi hz
      split at hc
      · rename_i hg
        cases hc
        simp only [Bool.and_eq_true, decide_eq_true_eq, beq_iff_eq] at hg
        obtain ⟨i2, eP, Ae, eD⟩ := nj hz
        rw [hi] at eP; cases eP
        exact acS aQ hu hi Ae eD hg.1.2 hg.2 hg.1.1 H hv e
      · cases hc
    · cases hc
  · cases hc
 case lookup t m x ok =>
  split at hc
  · rename_i hu
    split at hc
    · cases hc; exact acT aQ hu (by assumption) (by assumption) H hv e
    · cases hc
  · cases hc
 case mapUpdate t m x v =>
  split at hc
  · rename_i hu
    split at hc
    · cases hc; exact Ug (.inl aQ) hu (by assumption) H hv e
    · cases hc
  · cases hc
 case insert t m x v =>
  split at hc
  · rename_i hu
    split at hc
    · cases hc; exact Ug (.inr aQ) hu (by assumption) H hv e
    · cases hc
  · cases hc
 case extract x i => cases hc; exact adA aQ H hv e
 case typeAssert x xt t ok =>
  split at hc
  · cases hc
  · rename_i d z hni hu hz
    split at hc
    · rename_i eD
      subst eD
      cases hc
      exact acX aQ hu (fun m hm => hni m hm) hz H hv e
    · cases hc
  · cases hc
 case range t x =>
  split at hc <;> cases hc
  · exact acY aQ (by assumption) H hv e
  · exact adB aQ (by assumption) H hv e
 case next x s =>
  split at hc
  · rename_i hs; subst hs; cases hc; exact acZ aQ H hv e
  · rename_i hs; cases hc; exact adC (by rw [aQ]; simpa using hs) H hv e
 case entry x => cases hc; exact adD aQ H hv e
 case call c =>
  have xQ : ∀ {x : Operand}, c.args.toList = [x] → c.args = #[x] := fun h => by apply Array.ext'; simpa using h
  have xR : ∀ {x y : Operand}, c.args.toList = [x, y] → c.args = #[x, y] := fun h => by apply Array.ext'; simpa using h
  split at hc
  · rename_i g dh
    split at hc
    · rename_i fn hf
      split at hc
      · cases hc
      · split at hc
        · rename_i hb
          rw [Bool.and_eq_true, Option.isNone_iff_eq_none] at hb
          have hx : ∀ {e : Array Value → Sem Value}, (fn.name == "runtime.NumGoroutine") = false → Extern.find fn = some e → ∀ v, (e (c.args.map ρ)).run P w = .ok v w → (execOp ρ o).run P w = .ok (.value v) w := fun h1 h2 v h3 => adE aQ dh (hρ g) hf h1 (Option.isNone_iff_eq_none.2 hb.1) (Option.isNone_iff_eq_none.1 hb.2) h2 h3
          split at hc
          · rename_i hn
            have hn : fn.name = "internal/abi.NoEscape" := by simpa using hn
            cases hc; exact adF (hx (by rw [hn]; decide) (adG hn)) rfl H hv e
          · split at hc
            · rename_i hn
              have hn : fn.name = "internal/bytealg.CountString" := by simpa using hn
              cases hc; exact adH (hx (by rw [hn]; decide) (adI hn)) rfl H hv e
            · split at hc
              · rename_i hn
                have hn : fn.name = "internal/bytealg.IndexByteString" := by simpa using hn
                cases hc; exact adJ (hx (by rw [hn]; decide) (adK hn)) rfl H hv e
              · cases hc
        · cases hc
    · cases hc
  · cases hc
  · cases hc
  · rename_i b dh
    split at hc
    · split at hc
      · rename_i hx ht
        split at hc <;> cases hc
        · exact adL aQ dh (xQ hx) ht (by assumption) H hv e
        · exact adM aQ dh (xQ hx) ht (by assumption) H hv e
        · exact adN aQ dh (xQ hx) ht (by assumption) H hv e
        · exact adO aQ dh (xQ hx) ht (by assumption) H e
      · cases hc
    · split at hc
      · rename_i hx ht
        split at hc <;> cases hc
        exact adP aQ dh (xQ hx) ht (by assumption) H hv e
      · cases hc
    · split at hc
      · rename_i hx ht hu
        split at hc
        · rename_i pG ki
          split at hc
          · rename_i i z hi hz
            split at hc
            · rename_i hg
              cases hc
              simp only [Bool.and_eq_true, decide_eq_true_eq, beq_iff_eq] at hg
              obtain ⟨i2, eP, Ae, eD⟩ := nj hz
              rw [hi] at eP; cases eP
              exact adQ aQ dh (xR hx) ht hu pG ki hi Ae hg.1.2 hg.2 hg.1.1 H hv e
            · cases hc
          · cases hc
        · rename_i pG ki
          split at hc
          · rename_i i z hi hz
            split at hc
            · rename_i hg
              cases hc
              simp only [Bool.and_eq_true, decide_eq_true_eq, beq_iff_eq] at hg
              obtain ⟨i2, eP, Ae, eD⟩ := nj hz
              rw [hi] at eP; cases eP
              exact adR aQ dh (xR hx) ht hu pG ki hi Ae hg.1.2 (by rw [hg.2, hg.1.1]) hg.1.1 H hv e
            · cases hc
          · cases hc
        · cases hc
      · cases hc
    · split at hc
      · rename_i hx ht
        split at hc
        · rename_i pG
          split at hc
          · rename_i sz hs
            cases hc
            obtain ⟨i, hi, rfl⟩ := kG hs
            exact acM aQ dh (xR hx) ht pG hi H hv e
          · cases hc
        · cases hc
      · cases hc
    · split at hc
      · rename_i hx; cases hc; exact acK aQ dh (xR hx) H hv e
      · cases hc
    · split at hc
      · rename_i hx; cases hc; exact acL aQ dh (xR hx) H hv e
      · cases hc
    · split at hc <;> cases hc
    · split at hc
      · rename_i hx; cases hc; exact adS aQ dh (xQ hx) H hv e
      · cases hc
    · split at hc
      · rename_i hx ht
        split at hc
        · rename_i hu
          split at hc
          · cases hc; exact adT aQ dh (xR hx) ht hu (by assumption) H hv e
          · cases hc
        · cases hc
      · cases hc
    · split at hc <;> cases hc
    · cases hc
 all_goals first
  | cases hc
  | (split at hc <;> cases hc)
end
end Go.Ve
namespace Go.Ve
open Go.RowKit
def qO (φ : aE) (rc : Rc) (b : Frame) (cs0 cs : List Frame) : Prop := match rc with
 | .off => cs = cs0 ∧ (b.kind = .normal ∨ (b.kind = .deferred ∧ ∃ c rest, cs0 = c :: rest ∧ c.mode = .returning))
 | .can v => cs = cs0 ∧ b.kind = .deferred ∧ ∃ c rest v', cs0 = c :: rest ∧ c.mode = .panicking [{ v := v', recovered := false }] ∧ VR φ v v'
 | .kH => b.kind = .deferred ∧ ∃ c rest v', cs0 = c :: rest ∧ c.mode = .panicking [{ v := v', recovered := false }] ∧ cs = { c with mode := .panicking [{ v := v', recovered := true }] } :: rest
def lk (φ : aE) (e : Env) (b : Frame) : Prop := b.fn = e.fn ∧ match e.sI with
 | none => b.roundOf = none
 | some l => b.kind = .normal ∧ ∃ l', b.roundOf = some l' ∧ φ l ≠ none ∧ ∀ bl d n, φ l = some (.live bl d n) → l' = bl
structure SQ (P : Program) (w0 : World) (φ : aE) (s : St) (b : Frame) (cs0 cs : List Frame) (a : Act) (w : World) : Prop where
 df : DL φ s.df a.defers
 rc : qO φ s.rc b cs0 cs
 heap : HR P w0 φ s.h w
structure SR (P : Program) (w0 : World) (φ : aE) (e : Env) (s : St) (b : Frame) (cs0 cs : List Frame) (a : Act) (w : World) : Prop extends SQ P w0 φ s b cs0 cs a w where
 tm : TR φ s.tm e.nt a.tmps
theorem qO.ext {N : Nat} {φ φ' : aE} (h : Ext N φ φ') {rc : Rc} {b : Frame} {cs0 cs : List Frame} (hr : qO φ rc b cs0 cs) : qO φ' rc b cs0 cs := by
 cases rc with
 | off => exact hr
 | can v => obtain ⟨h1, h2, c, rest, v', h3, h4, h5⟩ := hr; exact ⟨h1, h2, c, rest, v', h3, h4, VR.ext h h5⟩
 | kH => exact hr
theorem lk.ext {N : Nat} {φ φ' : aE} (h : Ext N φ φ') {e : Env} {b : Frame} (he : lk φ e b) : lk φ' e b := by
 obtain ⟨h1, h2⟩ := he
 refine ⟨h1, ?_⟩
 cases hr : e.sI with
 | none => rw [hr] at h2; exact h2
 | some l =>
  rw [hr] at h2
  obtain ⟨h3, l', h4, h5, h6⟩ := h2
  exact ⟨h3, l', h4, h.ch h5, fun bl d n hl => h6 bl d n (h.live h5 hl)⟩
section
variable {P : Program} {b : Frame} {a : Act} {k : List Item} {cs : List Frame} {w : World} {ops : Array Oper} {i : Nat} {rest : List Nat} {o : Oper}
theorem L7 (ho : ops[i]? = some o) (hw : Region.wanted o (yielded ops a.tmps) = true) {v : Value} {w' : World} (hr : (o.semAt b.roundOf a.eval).run P w = .ok (.value v) w') :
 step P (lone (b.atR a (.inRegion ops (i :: rest) :: k)) cs w) = .next (lone (b.atR (a.put o.dst v) (.inRegion ops rest :: k)) cs w') := by
 have hf := Frame.finish_atR b a ops i rest k v
 rw [ho] at hf
 rw [show a.put o.dst v = a.put ((some o).bind (·.dst)) v from rfl, ← hf]
 exact step_lone_go (by rw [stepGR_op ho hw]; simp [stepG.apply, hr])
theorem UC (ho : ops[i]? = some o) (hw : Region.wanted o (yielded ops a.tmps) = true) {w' : World} (hr : (o.semAt b.roundOf a.eval).run P w = .ok .skip w') :
 step P (lone (b.atR a (.inRegion ops (i :: rest) :: k)) cs w) = .next (lone (b.atR (a.put o.dst undef) (.inRegion ops rest :: k)) cs w') := by
 have hf := Frame.finish_atR b a ops i rest k undef
 rw [ho] at hf
 rw [show a.put o.dst undef = a.put ((some o).bind (·.dst)) undef from rfl, ← hf]
 exact step_lone_go (by rw [stepGR_op ho hw]; simp [stepG.apply, hr])
theorem adU (ho : ops[i]? = some o) (hw : Region.wanted o (yielded ops a.tmps) = true) {f : FuncId} {args : Array Value} {w' : World} (hr : (o.semAt b.roundOf a.eval).run P w = .ok (.enter f args) w') :
 step P (lone (b.atR a (.inRegion ops (i :: rest) :: k)) cs w) = .next (lone (Frame.enter P f args .normal) (b.atR a (.inRegion ops (i :: rest) :: k) :: cs) w') :=
 step_lone_go (by rw [stepGR_op ho hw]; simp [stepG.apply, hr, Frame.atR])
theorem adV (ho : ops[i]? = some o) (hw : Region.wanted o (yielded ops a.tmps) = true) {l : Nat} {f : FuncId} {tmps : Array Value} {as bd : Code} {w' : World} (hr : (o.semAt b.roundOf a.eval).run P w = .ok (.round l f tmps as bd) w') :
 step P (lone (b.atR a (.inRegion ops (i :: rest) :: k)) cs w) = .next (lone (Frame.round l f tmps as bd .normal) (b.atR a (.inRegion ops (i :: rest) :: k) :: cs) w') :=
 step_lone_go (by rw [stepGR_op ho hw]; simp [stepG.apply, hr, Frame.atR])
theorem adW (ho : ops[i]? = some o) (hw : Region.wanted o (yielded ops a.tmps) = true) {d : Deferred} {w' : World} (hr : (o.semAt b.roundOf a.eval).run P w = .ok (.defer d) w') :
 step P (lone (b.atR a (.inRegion ops (i :: rest) :: k)) cs w) = .next (lone (b.atR (({ a with defers := d :: a.defers } : Act).put o.dst undef) (.inRegion ops rest :: k)) cs w') := by
 have hf := Frame.finish_atR b { a with defers := d :: a.defers } ops i rest k undef
 rw [ho] at hf
 rw [show ({ a with defers := d :: a.defers } : Act).put o.dst undef = ({ a with defers := d :: a.defers } : Act).put ((some o).bind (·.dst)) undef from rfl, ← hf]
 exact step_lone_go (by rw [stepGR_op ho hw]; simp [stepG.apply, hr, Frame.atR])
theorem adX (ho : ops[i]? = some o) (hw : Region.wanted o (yielded ops a.tmps) = true) {v : Value} {w' : World} (hr : (o.semAt b.roundOf a.eval).run P w = .halt (.panic v) w') :
 step P (lone (b.atR a (.inRegion ops (i :: rest) :: k)) cs w) = .next (lone { b.atR a (.inRegion ops (i :: rest) :: k) with mode := .panicking [{ v, recovered := false }] } cs w') := by
 rw [← Frame.raise_atR]
 exact step_lone_go (by rw [stepGR_op ho hw]; simp [stepG.apply, hr])
theorem UD (hb : b.roundOf = none) (ho : ops[i]? = some o) (hw : Region.wanted o (yielded ops a.tmps) = true) {w' : World} (hr : (o.semAt b.roundOf a.eval).run P w = .ok .recover w') {v : Value} {cf : List Frame}
 (ht : (tryRecover (b.atR a (.inRegion ops (i :: rest) :: k)) cs = some (v, cf)) ∨ (tryRecover (b.atR a (.inRegion ops (i :: rest) :: k)) cs = none ∧ v = .nilIface ∧ cf = cs)) :
 step P (lone (b.atR a (.inRegion ops (i :: rest) :: k)) cs w) = .next (lone (b.atR (a.put o.dst v) (.inRegion ops rest :: k)) cf w') := by
 have hf := Frame.finish_atR b a ops i rest k v
 rw [ho] at hf
 rw [show a.put o.dst v = a.put ((some o).bind (·.dst)) v from rfl, ← hf]
 refine step_lone_go ?_
 rw [stepGR_op ho hw]
 have bP : (b.atR a (.inRegion ops (i :: rest) :: k)).roundOf = none := hb
 rcases ht with ht | ⟨ht, rfl, rfl⟩
 · simp [stepG.apply, hr, bP, ht]
 · simp [stepG.apply, hr, bP, ht]
end
def Af (φ : aE) (r : CR) (E : Ending) : Prop := match r with
 | .ret v => ∃ v', E = .returned v' ∧ VR φ v v'
 | .aN v => ∃ v', E = .panicked [{ v := v', recovered := false }] ∧ VR φ v v'
def Can (P : Program) (f : FuncId) : Prop := ∃ fn, P.funcs[f]? = some fn ∧ (fn.name == "runtime.NumGoroutine") = false ∧ fn.body.isNone = false
def gn (P : Program) (w0 : World) (f : FuncId) (args : List Value) (h : AH) (k : CR → AH → Bool) : Prop :=
 Can P f ∧ ∀ (φ : aE) (args' : Array Value) (w : World), LR φ args args'.toList → HR P w0 φ h w → Calls P f args' w fun E w' => ∃ r h' φ', k r h' = true ∧ Ext h.nx φ φ' ∧ h.nx ≤ h'.nx ∧ HR P w0 φ' h' w' ∧ Af φ' r E
def qP (P : Program) (w0 : World) (l : Nat) (args : List Value) (h : AH) (k : CR → AH → Bool) : Prop :=
 ∀ (φ : aE) (args' : Array Value) (l' : Nat) (w : World), LR φ args args'.toList → φ l ≠ none → (∀ b d n, φ l = some (.live b d n) → l' = b) → HR P w0 φ h w →
  ∃ f tmps as bd, (Instr.yield l' args').run P w = .ok (.round l' f tmps as bd) w ∧ ∀ (c : Frame) (cs : List Frame), ∃ v v' h' φ' w', k (.ret v) h' = true ∧ Ext h.nx φ φ' ∧ h.nx ≤ h'.nx ∧ HR P w0 φ' h' w' ∧ VR φ' v v' ∧
   Steps P (lone (Frame.round l' f tmps as bd .normal) (c :: cs) w) (lone (c.finish v') cs w')
def sJ (φ : aE) (m : Option Value) (u : FrameMode) : Prop := match m with
 | none => u = .returning
 | some v => ∃ v', u = .panicking [{ v := v', recovered := false }] ∧ VR φ v v'
def UE (φ : aE) (rc : Rc) (c c' : Frame) : Prop := match rc with
 | .off => c' = c ∧ c.mode = .returning
 | .can v => c' = c ∧ ∃ v', c.mode = .panicking [{ v := v', recovered := false }] ∧ VR φ v v'
 | .kH => ∃ v', c.mode = .panicking [{ v := v', recovered := false }] ∧ c' = { c with mode := .panicking [{ v := v', recovered := true }] }
def adY (φ : aE) (rc : Rc) (c : Frame) : Prop := match rc with
 | .off => c.mode = .returning
 | .can v => ∃ v', c.mode = .panicking [{ v := v', recovered := false }] ∧ VR φ v v'
 | .kH => False
def Fa (P : Program) (w0 : World) (f : FuncId) (args : List Value) (rc : Rc) (h : AH) (k : Rc → AH → Bool) : Prop :=
 Can P f ∧ ∀ (φ : aE) (args' : Array Value) (w : World) (c : Frame) (cs : List Frame), LR φ args args'.toList → HR P w0 φ h w → adY φ rc c →
  ∃ xS h' φ' w' c' fr v, k xS h' = true ∧ Ext h.nx φ φ' ∧ h.nx ≤ h'.nx ∧ HR P w0 φ' h' w' ∧ UE φ' xS c c' ∧
   Steps P (lone (Frame.enter P f args' .deferred) (c :: cs) w) (lone fr (c' :: cs) w') ∧ fr.kind = .deferred ∧ fr.going P w' (.returned v)
def lT (P : Program) (w0 : World) (ds : List eB) (m : Option Value) (h : AH) (k : Option Value → AH → Bool) : Prop :=
 ∀ (φ : aE) (fr : Frame) (cs : List Frame) (w : World), DL φ ds fr.defers → sJ φ m fr.mode → HR P w0 φ h w →
  ∃ m' h' φ' w' u, k m' h' = true ∧ Ext h.nx φ φ' ∧ h.nx ≤ h'.nx ∧ HR P w0 φ' h' w' ∧ sJ φ' m' u ∧ Steps P (lone fr cs w) (lone { fr with defers := [], mode := u } cs w')
def Ag (P : Program) (φ : aE) (m : Machine) (b : Frame) (todo : List Item) (x : AX) (cs : List Frame) (a : Act) (w : World) : Prop := match x with
 | .normal => Steps P m (lone (b.atR a todo) cs w)
 | .exit id => ∃ k1, exitTo id k1 = exitTo id todo ∧ Steps P m (lone (b.atR a (.code (.exit id) :: k1)) cs w)
 | .ret => ∃ k1, Steps P m (lone (b.atR a (.code .ret :: k1)) cs w)
 | .aN v => ∃ k1 v', VR φ v v' ∧ Steps P m (lone { b.atR a k1 with mode := .panicking [{ v := v', recovered := false }] } cs w)
def SX (P : Program) (w0 : World) (φ : aE) (e : Env) (x : AX) (s : St) (b : Frame) (cs0 cs : List Frame) (a : Act) (w : World) : Prop := match x with
 | .aN _ => SQ P w0 φ s b cs0 cs a w
 | _ => SR P w0 φ e s b cs0 cs a w
def iA (P : Program) (w0 : World) (φ : aE) (N : Nat) (e : Env) (b : Frame) (cs0 : List Frame) (m : Machine) (todo : List Item) (k : KS) : Prop :=
 ∃ x s' φ' cf a' w', k x s' = true ∧ Ext N φ φ' ∧ N ≤ s'.h.nx ∧ SX P w0 φ' e x s' b cs0 cf a' w' ∧ Ag P φ' m b todo x cf a' w'
def L8 (c : Code) (it : Item) : Prop := it = .code c ∨ ∃ c', c = .loop c' ∧ it = .inLoop c'
def Ah (P : Program) (w0 : World) (c : Code) (e : Env) (s : St) (k : KS) : Prop :=
 ∀ (φ : aE) (b : Frame) (cs0 cs : List Frame) (a : Act) (w : World), SR P w0 φ e s b cs0 cs a w → lk φ e b → ∀ it, L8 c it → ∀ todo, iA P w0 φ s.h.nx e b cs0 (lone (b.atR a (it :: todo)) cs w) todo k
def c8 (P : Program) (w0 : World) : Task → Prop
 | .code ac e s k => ∀ c, fO P e.nt c = some ac → Ah P w0 c e s k
 | .call f args h k => gn P w0 f args h k
 | .xT f args rc h k => Fa P w0 f args rc h k
 | .round l args h k => qP P w0 l args h k
 | .leave ds m h k => lT P w0 ds m h k
theorem Ag.of_steps {P : Program} {φ : aE} {m m1 : Machine} {b : Frame} {todo : List Item} {x : AX} {cs : List Frame} {a : Act} {w : World} (h : Steps P m m1) (ha : Ag P φ m1 b todo x cs a w) : Ag P φ m b todo x cs a w := by
 cases x with
 | normal => exact h.trans ha
 | exit id => obtain ⟨k1, h1, h2⟩ := ha; exact ⟨k1, h1, h.trans h2⟩
 | ret => obtain ⟨k1, h2⟩ := ha; exact ⟨k1, h.trans h2⟩
 | aN v => obtain ⟨k1, v', h1, h2⟩ := ha; exact ⟨k1, v', h1, h.trans h2⟩
theorem iA.of_steps {P : Program} {w0 : World} {φ φ1 : aE} {N N1 : Nat} {e : Env} {b : Frame} {cs0 : List Frame} {m m1 : Machine} {todo : List Item} {k : KS} (hE : Ext N φ φ1) (hN : N ≤ N1) (h : Steps P m m1) (g : iA P w0 φ1 N1 e b cs0 m1 todo k) : iA P w0 φ N e b cs0 m todo k := by
 obtain ⟨x, s', φ', cf, a', w', h1, h2, h3, h4, h5⟩ := g
 exact ⟨x, s', φ', cf, a', w', h1, hE.trans h2 hN, Nat.le_trans hN h3, h4, h5.of_steps h⟩
theorem adZ {P : Program} {w : World} {f : FuncId} (hc : Can P f) (args : Array Value) : (callFunc f args).run P w = .ok (.enter f args) w := by
 obtain ⟨fn, h1, h2, h3⟩ := hc
 have qQ : fn.name ≠ "runtime.NumGoroutine" := by simpa using h2
 have Ai : fn.body ≠ none := by intro hn; rw [hn] at h3; cases h3
 simp [callFunc, Sem.run_bind, program, Sem.run, Result.andThen, h1, qQ, Ai]
theorem Aj {P : Program} {w : World} {f : FuncId} (hc : Can P f) (bD args : Array Value) : (invoke (.fn (.func f) bD) args).run P w = .ok (.enter f (args ++ bD)) w := adZ hc _
section
variable {P : Program} {w0 w : World} {φ : aE} {e : Env} {s : St} {b : Frame} {cs0 cs : List Frame} {a : Act} {ops : Array Oper} {i : Nat} {o : Oper} {rest : List Nat} {todo : List Item}
def sK (P : Program) (w0 : World) (φ : aE) (s : St) (b : Frame) (cs0 cs : List Frame) (a : Act) (w : World) (ops : Array Oper) (i : Nat) (o : Oper) (rest : List Nat) (todo : List Item) (dst : Option Pos) (fail : KS) (k : St → Bool) : Prop :=
 (∃ v v' s1 φ' w' cf jb, gR dst s1 v s1.h k = true ∧ s1.tm = s.tm ∧ Ext s.h.nx φ φ' ∧ s.h.nx ≤ s1.h.nx ∧ VR φ' v v' ∧ SQ P w0 φ' s1 b cs0 cf { a with defers := jb } w' ∧
  Steps P (lone (b.atR a (.inRegion ops (i :: rest) :: todo)) cs w) (lone (b.atR (({ a with defers := jb } : Act).put o.dst v') (.inRegion ops rest :: todo)) cf w')) ∨
 (∃ v v' s1 φ' w', fail (.aN v) s1 = true ∧ Ext s.h.nx φ φ' ∧ s.h.nx ≤ s1.h.nx ∧ VR φ' v v' ∧ SQ P w0 φ' s1 b cs0 cs a w' ∧
  Steps P (lone (b.atR a (.inRegion ops (i :: rest) :: todo)) cs w) (lone { b.atR a (.inRegion ops (i :: rest) :: todo) with mode := .panicking [{ v := v', recovered := false }] } cs w'))
theorem L9 (dst : Option Pos) (s : St) (v : Value) (h : AH) (k : St → Bool) : gR dst s v h k = gR dst ⟨s.tm, s.df, s.rc, h⟩ v h k := by cases s; rfl
theorem qR (hd : ∀ c, o.op ≠ .defer c) : o.semAt b.roundOf a.eval = execOp a.eval o := Oper.semAt_eq _ _ _ hd
theorem Ma {p : Prim} {xs : List Operand} (hc : lj P o = some (.aO p, xs)) : ∀ c, o.op ≠ .defer c := by
 intro c aQ
 simp only [lj, aQ] at hc
 split at hc <;> cases hc
theorem ad0 {p : Prim} {xs : List Operand} {dst : Option Pos} {fail : KS} {k : St → Bool} {vs : List Value} {rec : Task → Bool} (ho : ops[i]? = some o) (hw : Region.wanted o (yielded ops a.tmps) = true)
 (hc : lj P o = some (.aO p, xs)) (hq : SQ P w0 φ s b cs0 cs a w) (hv : LR φ vs (xs.map a.eval)) (h : UF rec dst e s fail k vs p = true) : sK P w0 φ s b cs0 cs a w ops i o rest todo dst fail k := by
 obtain ⟨v', w', v, h', φ', h1, h2, h3, h4, h5, h6⟩ := Uu (fun _ => rfl) hc hq.heap hv h
 refine .inl ⟨v, v', ⟨s.tm, s.df, s.rc, h'⟩, φ', w', cs, a.defers, ?_, rfl, h3, h4, h5, ⟨hq.df.ext h3, hq.rc.ext h3, h6⟩, ?_⟩
 · rw [L9] at h2; exact h2
 · have hs := qR (b := b) (a := a) (Ma hc)
   rcases h1 with h1 | ⟨h1, rfl⟩
   · exact .one (L7 ho hw (by rw [hs]; exact h1))
   · exact .one (UC ho hw (by rw [hs]; exact h1))
theorem UG {f : FuncId} {args' : Array Value} {as : List Value} {dst : Option Pos} {fail : KS} {k : St → Bool} (ho : ops[i]? = some o) (hw : Region.wanted o (yielded ops a.tmps) = true)
 (hr : (o.semAt b.roundOf a.eval).run P w = .ok (.enter f args') w) (hq : SQ P w0 φ s b cs0 cs a w) (hl : LR φ as args'.toList) (ad1 : gn P w0 f as s.h (nr dst s fail k)) : sK P w0 φ s b cs0 cs a w ops i o rest todo dst fail k := by
 obtain ⟨E, w', fr, ⟨r, h', φ', hk, hE, hN, hH, Ak⟩, Al, ju, Am⟩ := ad1.2 φ args' w hl hq.heap (b.atR a (.inRegion ops (i :: rest) :: todo) :: cs)
 have Fb := adU (k := todo) (rest := rest) (cs := cs) ho hw hr
 cases r with
 | ret v =>
  obtain ⟨v', rfl, jQ⟩ := Ak
  refine .inl ⟨v, v', ⟨s.tm, s.df, s.rc, h'⟩, φ', w', cs, a.defers, ?_, rfl, hE, hN, jQ, ⟨hq.df.ext hE, hq.rc.ext hE, hH⟩, .head Fb (Steps.trans Al (.one ?_))⟩
  · have dM : gR dst s v h' k = true := hk
    rw [L9] at dM; exact dM
  · have := step_leave_returned (c := b.atR a (.inRegion ops (i :: rest) :: todo)) (cs := cs) Am
    rw [Frame.finish_atR, ho] at this
    exact this
 | aN v =>
  obtain ⟨v', rfl, jQ⟩ := Ak
  refine .inr ⟨v, v', ⟨s.tm, s.df, s.rc, h'⟩, φ', w', ?_, hE, hN, jQ, ⟨hq.df.ext hE, hq.rc.ext hE, hH⟩, .head Fb (Steps.trans Al (.one ?_))⟩
  · cases s; exact hk
  · have := step_leave_panicked (c := b.atR a (.inRegion ops (i :: rest) :: todo)) (cs := cs) Am
    rw [Frame.raise_atR] at this
    exact this
theorem ad2 {g : FuncId} {c : Call} {as : List Value} {dst : Option Pos} {fail : KS} {k : St → Bool} {rec : Task → Bool} (cu : ∀ t, rec t = true → c8 P w0 t) (ho : ops[i]? = some o) (hw : Region.wanted o (yielded ops a.tmps) = true)
 (aQ : o.op = .call c) (dh : c.callee = .value (.func g)) (hq : SQ P w0 φ s b cs0 cs a w) (hl : LR φ as (c.args.toList.map a.eval)) (h : UH rec dst e s fail k as g = true) : sK P w0 φ s b cs0 cs a w ops i o rest todo dst fail k := by
 have hC := cu _ h
 have ve : gn P w0 g as s.h (nr dst s fail k) := hC
 refine UG (args' := c.args.map a.eval) ho hw ?_ hq (by simpa using hl) ve
 rw [qR (by intro c' h'; rw [aQ] at h'; cases h')]
 have he : a.eval (.func g) = .func (.func g) #[] #[] := rfl
 simp [execOp, aQ, resolve, dh, he, Deferred.ofValue, Sem.run_bind, Result.andThen, Aj ve.1]
theorem ad3 {P : Program} {w : World} {ρ : Operand → Value} {o : Oper} {c : Call} {f : Operand} {fn : Fn} {first bD : Array Value} (aQ : o.op = .call c) (dh : c.callee = .value f) (hf : ρ f = .func fn first bD) :
 (execOp ρ o).run P w = (invoke (.fn fn bD) (first ++ c.args.map ρ)).run P w := by
 simp [execOp, aQ, resolve, dh, hf, Deferred.ofValue, Sem.run_bind, Result.andThen]
theorem LR.vf {φ : aE} {l : List Value} (h : LR φ [] l) : l = [] := by cases h; rfl
theorem Mb {v : Value} {kf : Nat → List Value → List Value → Bool} {ky : Nat → Bool} (h : sL v kf ky = true) :
 (∃ g first bD, v = .func (.func g) first bD ∧ kf g first.toList bD.toList = true) ∨ ∃ l, v = .func (.yield l) #[] #[] ∧ ky l = true := by
 unfold sL at h
 split at h
 · exact .inl ⟨_, _, _, rfl, h⟩
 · exact .inr ⟨_, rfl, h⟩
 · cases h
theorem ad4 {f : Operand} {c : Call} {as : List Value} {dst : Option Pos} {fail : KS} {k : St → Bool} {rec : Task → Bool} (cu : ∀ t, rec t = true → c8 P w0 t) (ho : ops[i]? = some o) (hw : Region.wanted o (yielded ops a.tmps) = true)
 (aQ : o.op = .call c) (dh : c.callee = .value f) (hq : SQ P w0 φ s b cs0 cs a w) (hl : LR φ as ((f :: c.args.toList).map a.eval)) (h : Mc rec dst e s fail k as = true) : sK P w0 φ s b cs0 cs a w ops i o rest todo dst fail k := by
 cases hl with
 | cons fv Fc as pH hf hl =>
  have cS : ∀ c', o.op ≠ .defer c' := by intro c' h'; rw [aQ] at h'; cases h'
  have h' : sL fv (fun g first bD => gO as bD fun l => gO first l fun l => rec (.call g l s.h (nr dst s fail k))) (fun l => rec (.round l as s.h (nr dst s fail k))) = true := h
  rcases Mb h' with ⟨g, first, bD, rfl, h1⟩ | ⟨l, rfl, h1⟩
  · have ve : gn P w0 g (first.toList ++ (as ++ bD.toList)) s.h (nr dst s fail k) := cu _ (qI _ _ (qI _ _ h1))
    generalize Ao : a.eval f = Fc at hf
    cases hf with
    | func _ qG _ jw _ iX ju h2 h3 =>
     cases ju
     refine UG (args' := (jw ++ c.args.map a.eval) ++ iX) ho hw ?_ hq ?_ ve
     · rw [qR cS]
       simp [execOp, aQ, resolve, dh, Ao, Deferred.ofValue, Sem.run_bind, Result.andThen, Aj ve.1]
     · have := LR.append (LR.append h3 hl) h2
       simpa using this
  · have ve : qP P w0 l as s.h (nr dst s fail k) := cu _ h1
    generalize Ao : a.eval f = Fc at hf
    cases hf with
    | func _ qG _ jw _ iX ju h2 h3 =>
     have ad5 : jw = #[] := Array.toList_eq_nil_iff.1 (LR.vf h2)
     have ad6 : iX = #[] := Array.toList_eq_nil_iff.1 (LR.vf h3)
     subst ad5; subst ad6
     cases ju with
     | yield _ l' hm nu =>
      obtain ⟨f2, tmps, asg, bd, hy, ad7⟩ := ve φ (c.args.map a.eval) l' w (by simpa using hl) hm nu hq.heap
      obtain ⟨v, v', h', φ', w', hk, hE, hN, hH, jQ, UI⟩ := ad7 (b.atR a (.inRegion ops (i :: rest) :: todo)) cs
      have Fb := adV (b := b) (a := a) (k := todo) (rest := rest) (cs := cs) ho hw (l := l') (f := f2) (tmps := tmps) (as := asg) (bd := bd) (w' := w) (w := w) (by
       rw [qR cS, ad3 aQ dh Ao]
       simp only [Array.empty_append]
       exact hy)
      refine .inl ⟨v, v', ⟨s.tm, s.df, s.rc, h'⟩, φ', w', cs, a.defers, ?_, rfl, hE, hN, jQ, ⟨hq.df.ext hE, hq.rc.ext hE, hH⟩, .head Fb ?_⟩
      · have dM : gR dst s v h' k = true := hk
        rw [L9] at dM; exact dM
      · rw [Frame.finish_atR, ho] at UI
        exact UI
end
end Go.Ve
namespace Go.Ve
open Go.RowKit
section
variable {P : Program} {w0 w : World} {φ : aE} {e : Env} {s : St} {b : Frame} {cs0 cs : List Frame} {a : Act} {ops : Array Oper} {i : Nat} {o : Oper} {rest : List Nat} {todo : List Item}
theorem ad8 {ρ : Operand → Value} {c : Call} (aQ : o.op = .call c) (dh : c.callee = .builtin .recover) : (execOp ρ o).run P w = .ok .recover w := by
 simp [execOp, aQ, resolve, dh, Sem.run_bind, Result.andThen, invoke, builtin]
theorem ad9 {c : Call} {as : List Value} {dst : Option Pos} {fail : KS} {k : St → Bool} (ho : ops[i]? = some o) (hw : Region.wanted o (yielded ops a.tmps) = true)
 (aQ : o.op = .call c) (dh : c.callee = .builtin .recover) (hq : SQ P w0 φ s b cs0 cs a w) (he : lk φ e b) (h : Ap dst e s k as = true) : sK P w0 φ s b cs0 cs a w ops i o rest todo dst fail k := by
 unfold Ap at h
 split at h
 · rename_i qS
   obtain ⟨_, pI⟩ := he
   rw [qS] at pI
   have xU : b.roundOf = none := pI
   have bO : (o.semAt b.roundOf a.eval).run P w = .ok .recover w := by
    rw [qR (by intro c' h'; rw [aQ] at h'; cases h')]; exact ad8 aQ dh
   have jR := hq.rc
   split at h
   · rename_i v gp
     rw [gp] at jR
     obtain ⟨rfl, hk, c1, Aq, v', rfl, hm, hv⟩ := jR
     have ht : tryRecover (b.atR a (.inRegion ops (i :: rest) :: todo)) (c1 :: Aq) = some (v', { c1 with mode := .panicking [{ v := v', recovered := true }] } :: Aq) := by
      simp [tryRecover, Frame.atR, hk, hm]
     refine .inl ⟨v, v', ⟨s.tm, s.df, .kH, s.h⟩, φ, w, _, a.defers, h, rfl, Ext.refl _ _, Nat.le_refl _, hv, ⟨hq.df, ⟨hk, c1, Aq, v', rfl, hm, rfl⟩, hq.heap⟩, .one (UD xU ho hw bO (.inl ht))⟩
   · rename_i Md
     have ht : tryRecover (b.atR a (.inRegion ops (i :: rest) :: todo)) cs = none := by
      cases Ar : s.rc with
      | can v => exact absurd Ar (Md v)
      | off =>
       rw [Ar] at jR
       obtain ⟨rfl, hk | ⟨hk, c1, Aq, rfl, hm⟩⟩ := jR
       · simp [tryRecover, Frame.atR, hk]
       · simp [tryRecover, Frame.atR, hk, hm]
      | kH =>
       rw [Ar] at jR
       obtain ⟨hk, c1, Aq, v', _, _, rfl⟩ := jR
       simp [tryRecover, Frame.atR, hk]
     refine .inl ⟨.nilIface, .nilIface, s, φ, w, cs, a.defers, h, rfl, Ext.refl _ _, Nat.le_refl _, .xB, ⟨hq.df, hq.rc, hq.heap⟩, .one (UD xU ho hw bO (.inr ⟨ht, rfl, rfl⟩))⟩
 · cases h
theorem UJ {t : TypeId} {v : Value} : (Instr.panic (.iface t v)).run P w = .halt (.panic (.iface t v)) w := by
 simp [Instr.panic, goPanic, Sem.run]
theorem aea {fail : KS} {as : List Value} (h : Fe s fail as = true) : ∃ t x, as = [.iface t x] ∧ fail (.aN (.iface t x)) s = true := by
 obtain ⟨v, rfl, h1⟩ := dX (show a1 as _ = true from h)
 cases v <;> first | exact ⟨_, _, rfl, h1⟩ | cases h1
theorem UK {x : Operand} {as : List Value} {dst : Option Pos} {fail : KS} {k : St → Bool} (ho : ops[i]? = some o) (hw : Region.wanted o (yielded ops a.tmps) = true)
 (aQ : o.op = .panic x ∨ ∃ c, o.op = .call c ∧ c.callee = .builtin .panic ∧ c.args.toList = [x]) (hq : SQ P w0 φ s b cs0 cs a w) (hl : LR φ as ([x].map a.eval)) (h : Fe s fail as = true) : sK P w0 φ s b cs0 cs a w ops i o rest todo dst fail k := by
 obtain ⟨t, v, rfl, h1⟩ := aea h
 obtain ⟨v', fP, hv⟩ := LR.one hl
 have hx : a.eval x = v' := by simpa using fP
 cases hv with
 | iface _ _ u hu =>
  refine .inr ⟨_, _, s, φ, w, h1, Ext.refl _ _, Nat.le_refl _, .iface t v u hu, ⟨hq.df, hq.rc, hq.heap⟩, .one (adX ho hw ?_)⟩
  rcases aQ with aQ | ⟨c, aQ, dh, jt⟩
  · rw [qR (by intro c' h'; rw [aQ] at h'; cases h')]
    simp [execOp, aQ, hx, Sem.run_bind, UJ, Result.andThen]
  · rw [qR (by intro c' h'; rw [aQ] at h'; cases h')]
    have hm : c.args = #[x] := by rw [← jt]
    simp [execOp, aQ, resolve, dh, hm, hx, Sem.run_bind, Result.andThen, invoke, builtin, UJ]
theorem aeb {f : Operand} {c : Call} {as : List Value} {dst : Option Pos} {fail : KS} {k : St → Bool} (ho : ops[i]? = some o) (hw : Region.wanted o (yielded ops a.tmps) = true)
 (aQ : o.op = .defer c) (dh : c.callee = .value f) (hq : SQ P w0 φ s b cs0 cs a w) (he : lk φ e b) (hl : LR φ as ((f :: c.args.toList).map a.eval)) (h : As dst e s k as = true) : sK P w0 φ s b cs0 cs a w ops i o rest todo dst fail k := by
 unfold As at h
 split at h
 · rename_i fv pH qS
   obtain ⟨_, pI⟩ := he
   rw [qS] at pI
   have xU : b.roundOf = none := pI
   rcases Mb h with ⟨g, first, bD, rfl, h1⟩ | ⟨l, rfl, h1⟩
   · have h2 := qI _ _ (qI _ _ h1)
     cases hl with
     | cons _ Fc _ anp hf hl =>
      generalize Ao : a.eval f = Fc at hf
      cases hf with
      | func _ qG _ jw _ iX ju h3 h4 =>
       cases ju
       have bO : (o.semAt b.roundOf a.eval).run P w = .ok (.defer { target := .fn (.func g) iX, args := jw ++ c.args.map a.eval }) w := by
        rw [xU, Oper.semAt_none]
        simp [execOp, aQ, resolve, dh, Ao, Deferred.ofValue, Sem.run_bind, Result.andThen]
       refine .inl ⟨undef, undef, ⟨s.tm, .fn g (first.toList ++ (pH ++ bD.toList)) :: s.df, s.rc, s.h⟩, φ, w, cs, { target := .fn (.func g) iX, args := jw ++ c.args.map a.eval } :: a.defers, h2, rfl, Ext.refl _ _, Nat.le_refl _, VR.undef φ, ⟨?_, hq.rc, hq.heap⟩, .one (adW ho hw bO)⟩
       refine .cons _ _ _ _ ⟨iX, _, rfl, ?_⟩ hq.df
       have := LR.append (LR.append h4 hl) h3
       simpa using this
   · cases h1
 · cases h
theorem Me {x : Operand} {y : dL} {k : Value → Bool} (hc : nv x = some y) (hr : ∀ p, y = .t p → VR φ (s.tm.get p) (a.tmps.getD p.un undef)) (h : qT y s.tm k = true) : ∃ v, VR φ v (a.eval x) ∧ k v = true := by
 cases x with
 | tmp t =>
  cases hc
  have h' : PT.de (Pos.of t) s.tm k = true := h
  rw [PT.jv] at h'
  have := hr _ rfl
  rw [Pos.kD] at this
  exact ⟨_, this, h'⟩
 | const v =>
  simp only [nv] at hc
  split at hc
  · rename_i eD
    cases hc
    exact ⟨v, oh eD, h⟩
  · cases hc
 | func f => cases hc; exact ⟨_, .func _ _ _ _ _ _ (.func f) .nil .nil, h⟩
 | global g => cases hc
theorem UL : ∀ {xs : List Operand} {ys : List dL} {k : List Value → Bool}, xs.mapM nv = some ys → (∀ p, dL.t p ∈ ys → VR φ (s.tm.get p) (a.tmps.getD p.un undef)) → nw ys s.tm k = true → ∃ vs, LR φ vs (xs.map a.eval) ∧ k vs = true := by
 intro xs
 induction xs with
 | nil => intro ys k hm _ h; simp at hm; subst hm; exact ⟨[], .nil, h⟩
 | cons x xs ih =>
  intro ys k hm hr h
  rw [List.mapM_cons] at hm
  cases hx : nv x with
  | none => simp [hx] at hm
  | some y =>
   cases jS : xs.mapM nv with
   | none => simp [hx, jS] at hm
   | some ys' =>
    simp [hx, jS] at hm
    subst hm
    obtain ⟨v, h1, h2⟩ := Me (a := a) (s := s) hx (fun p hp => hr p (by simp [hp])) (show qT y s.tm (fun v => nw ys' s.tm fun vs => k (v :: vs)) = true from h)
    obtain ⟨vs, h3, h4⟩ := ih jS (fun p hp => hr p (by simp [hp])) h2
    exact ⟨v :: vs, .cons _ _ _ _ h1 h3, h4⟩
theorem aec (x y : Bool) : lU x y = (x == y) := by cases x <;> cases y <;> rfl
theorem Mf {g : Nat} {want : Bool} {t : Tmp} {yes no : Bool} (hg : o.guard = some (g, want)) (ht : (ops[g]?).bind (·.dst) = some t) (hr : VR φ (s.tm.get (Pos.of t)) (a.tmps.getD t undef)) (h : ny (some (Pos.of t, want)) s.tm yes no = true) :
 (Region.wanted o (yielded ops a.tmps) = true ∧ yes = true) ∨ (Region.wanted o (yielded ops a.tmps) = false ∧ no = true) := by
 have h' : PT.de (Pos.of t) s.tm (vg want yes no) = true := h
 rw [PT.jv] at h'
 have hy : yielded ops a.tmps g = (match a.tmps.getD t undef with | .bool c => some c | _ => none) := by
  unfold yielded
  rw [ht]
  simp only [Option.bind_some, Array.getD_eq_getD_getElem?]
  cases hh : a.tmps[t]? with
  | none => rfl
  | some u => cases u <;> rfl
 unfold Region.wanted
 rw [hg]
 simp only [hy]
 generalize a.tmps.getD t undef = u at hr
 generalize s.tm.get (Pos.of t) = u0 at hr h'
 cases hr with
 | bool c =>
  have h2 : (bif lU c want then yes else no) = true := h'
  rw [aec] at h2
  cases Ff : (c == want) with
  | true => rw [Ff] at h2; left; exact ⟨by simpa using Ff, h2⟩
  | false => rw [Ff] at h2; right; exact ⟨by simpa using Ff, h2⟩
 | _ => right; exact ⟨by simp, h'⟩
theorem xV {nt : Nat} {ao : bf} (h : mI P nt ops o = some ao) : ∃ act xs args, (lj P o = some (act, xs) ∨ (act = .aO (.x .bad) ∧ xs = [])) ∧ xs.mapM nv = some args ∧ ao.act = act ∧ ao.args = args ∧
 (o.dst = none ∧ ao.dst = none ∨ ∃ d, o.dst = some d ∧ d < nt ∧ ao.dst = some (Pos.of d)) ∧
 (o.guard = none ∧ ao.guard = none ∨ ∃ g want t, o.guard = some (g, want) ∧ (ops[g]?).bind (·.dst) = some t ∧ ao.guard = some (Pos.of t, want)) := by
 have hX : lj P o = some (Au P o) ∨ ((Au P o).1 = .aO (.x .bad) ∧ (Au P o).2 = []) := by
  unfold Au
  split
  · rename_i a xs hc
    split
    · exact .inl hc
    · exact .inr ⟨rfl, rfl⟩
  · exact .inr ⟨rfl, rfl⟩
 unfold mI at h
 split at h
 · rename_i act xs vh
   have hc : lj P o = some (act, xs) ∨ (act = .aO (.x .bad) ∧ xs = []) := by rw [vh] at hX; exact hX
   split at h
   · cases h
   · rename_i args ha
     simp only at h
     split at h
     · cases h
     · rename_i dst hd
       have nz : o.dst = none ∧ dst = none ∨ ∃ d, o.dst = some d ∧ d < nt ∧ dst = some (Pos.of d) := by
        cases Av : o.dst with
        | none => rw [Av] at hd; simp at hd; exact .inl ⟨rfl, hd.symm⟩
        | some d =>
         rw [Av] at hd
         simp at hd
         exact .inr ⟨d, rfl, hd.1, hd.2.symm⟩
       split at h
       · rename_i hg
         cases h
         exact ⟨act, xs, args, hc, ha, rfl, rfl, nz, .inl ⟨hg, rfl⟩⟩
       · rename_i g want hg
         split at h
         · rename_i t ht
           cases h
           exact ⟨act, xs, args, hc, ha, rfl, rfl, nz, .inr ⟨g, want, t, hg, ht, rfl⟩⟩
         · cases h
theorem aed {act : iH} {xs : List Operand} (hc : lj P o = some (act, xs)) (hn : ∀ p, act ≠ .aO p) :
 (∃ c, o.op = .call c ∧ ((∃ g, act = .call g ∧ c.callee = .value (.func g) ∧ xs = c.args.toList) ∨ (∃ f, act = .dyn ∧ c.callee = .value f ∧ xs = f :: c.args.toList) ∨
  (act = .recover ∧ c.callee = .builtin .recover ∧ xs = []) ∨ (∃ x, act = .panic ∧ c.callee = .builtin .panic ∧ c.args.toList = [x] ∧ xs = [x]))) ∨
 (∃ x, o.op = .panic x ∧ act = .panic ∧ xs = [x]) ∨ (∃ c f, o.op = .defer c ∧ act = .defer ∧ c.callee = .value f ∧ xs = f :: c.args.toList) := by
 cases aQ : o.op <;> simp only [lj, aQ] at hc
 case call c =>
  refine .inl ⟨c, rfl, ?_⟩
  cases dh : c.callee with
  | value f =>
   rw [dh] at hc
   cases f with
   | func g' =>
    simp only at hc
    (repeat' split at hc) <;> first
     | (cases hc; done)
     | (cases hc; exact .inl ⟨g', rfl, rfl, rfl⟩)
     | (cases hc; exact absurd rfl (hn _))
   | _ => cases hc; exact .inr (.inl ⟨_, rfl, rfl, rfl⟩)
  | invoke r m => rw [dh] at hc; cases hc
  | builtin bb =>
   rw [dh] at hc
   cases bb <;> simp only at hc <;> (repeat' split at hc) <;> first
    | (cases hc; done)
    | (cases hc; exact absurd rfl (hn _))
    | (cases hc; rename_i hx; exact .inr (.inr (.inl ⟨rfl, rfl, rfl⟩)))
    | (cases hc; rename_i hx; exact .inr (.inr (.inr ⟨_, rfl, rfl, hx, rfl⟩)))
 case panic x => cases hc; exact .inr (.inl ⟨x, rfl, rfl, rfl⟩)
 case defer c =>
  split at hc
  · rename_i f dh
    cases hc
    exact .inr (.inr ⟨c, f, rfl, rfl, dh, rfl⟩)
  · cases hc
 all_goals ((repeat' split at hc) <;> first | (cases hc; done) | (cases hc; exact absurd rfl (hn _)))
theorem UM {ao : bf} {fail : KS} {k : St → Bool} {rec : Task → Bool} {nt : Nat} (cu : ∀ t, rec t = true → c8 P w0 t) (hc : mI P nt ops o = some ao) (ho : ops[i]? = some o) (hq : SQ P w0 φ s b cs0 cs a w) (he : lk φ e b)
 (hr : ∀ p ∈ ao.reads, VR φ (s.tm.get p) (a.tmps.getD p.un undef)) (h : sM rec ao e s fail k = true) : sK P w0 φ s b cs0 cs a w ops i o rest todo ao.dst fail k := by
 obtain ⟨act, xs, args, h1, h2, rfl, rfl, h4, h5⟩ := xV hc
 have jt : ∀ p, dL.t p ∈ ao.args → VR φ (s.tm.get p) (a.tmps.getD p.un undef) := fun p hp => hr p (by
  unfold bf.reads
  exact List.mem_append_left _ (List.mem_filterMap.2 ⟨.t p, hp, rfl⟩))
 have key : (Region.wanted o (yielded ops a.tmps) = true ∧ nw ao.args s.tm (xW rec ao.act ao.dst e s fail k) = true) ∨ (Region.wanted o (yielded ops a.tmps) = false ∧ gR ao.dst s undef s.h k = true) := by
  have h' : ny ao.guard s.tm (nw ao.args s.tm (xW rec ao.act ao.dst e s fail k)) (gR ao.dst s undef s.h k) = true := by cases ao; exact h
  rcases h5 with ⟨g1, g2⟩ | ⟨g, want, t, g1, g2, g3⟩
  · rw [g2] at h'
    exact .inl ⟨by simp [Region.wanted, g1], h'⟩
  · rw [g3] at h'
    refine Mf (φ := φ) g1 g2 ?_ h'
    have := hr (Pos.of t) (by unfold bf.reads; rw [g3]; simp)
    rw [Pos.kD] at this
    exact this
 rcases key with ⟨hw, hk⟩ | ⟨hw, hk⟩
 · obtain ⟨vs, hv, hk⟩ := UL h2 jt hk
   rcases h1 with h1 | ⟨hb, _⟩
   rotate_left
   · rw [hb] at hk; exact Bool.noConfusion (show false = true from hk)
   by_cases hp : ∃ p, ao.act = .aO p
   · obtain ⟨p, hp⟩ := hp
     rw [hp] at h1 hk
     exact ad0 (rec := rec) (e := e) ho hw h1 hq hv hk
   · have hn : ∀ p, ao.act ≠ .aO p := fun p hp' => hp ⟨p, hp'⟩
     rcases aed h1 hn with ⟨c, aQ, ⟨g, ha, dh, rfl⟩ | ⟨f, ha, dh, rfl⟩ | ⟨ha, dh, rfl⟩ | ⟨x, ha, dh, hx, rfl⟩⟩ | ⟨x, aQ, ha, rfl⟩ | ⟨c, f, aQ, ha, dh, rfl⟩
     · rw [ha] at hk; exact ad2 (e := e) cu ho hw aQ dh hq hv hk
     · rw [ha] at hk; exact ad4 (e := e) cu ho hw aQ dh hq hv hk
     · rw [ha] at hk; exact ad9 ho hw aQ dh hq he hk
     · rw [ha] at hk; exact UK ho hw (.inr ⟨c, aQ, dh, hx⟩) hq hv hk
     · rw [ha] at hk; exact UK ho hw (.inl aQ) hq hv hk
     · rw [ha] at hk; exact aeb ho hw aQ dh hq he hv hk
 · refine .inl ⟨undef, undef, s, φ, w, cs, a.defers, hk, rfl, Ext.refl _ _, Nat.le_refl _, VR.undef φ, ⟨hq.df, hq.rc, hq.heap⟩, .one ?_⟩
   have := stepR_op_skip (P := P) (b := b) (a := a) (k := todo) (cs := cs) (w := w) (ops := ops) (i := i) (rest := rest) (by simp [ho, hw])
   rw [ho] at this
   exact this
end
end Go.Ve
namespace Go.Ve
open Go.RowKit
section
variable {P : Program} {w0 w : World} {φ : aE} {e : Env} {s : St} {b : Frame} {cs0 cs : List Frame} {a : Act} {ops : Array Oper} {i : Nat} {o : Oper} {rest : List Nat} {todo : List Item}
theorem aee {dst : Option Pos} {v : Value} {k : St → Bool} (h : gR dst s v s.h k = true) : (dst = none ∧ k s = true) ∨ ∃ p, dst = some p ∧ k ⟨s.tm.set p v, s.df, s.rc, s.h⟩ = true := by
 cases dst with
 | none => exact .inl ⟨rfl, by cases s; exact h⟩
 | some p =>
  refine .inr ⟨p, rfl, ?_⟩
  have h' : PT.fW p s.tm v (fun Mg => k ⟨Mg, s.df, s.rc, s.h⟩) = true := by cases s; exact h
  rw [PT.lb] at h'
  exact h'
theorem Act.Fg (a : Act) (d : Option Tmp) (v : Value) : (a.put d v).defers = a.defers := by cases d <;> rfl
theorem SQ.defers {a a' : Act} (hq : SQ P w0 φ s b cs0 cs a w) (h : a'.defers = a.defers) : SQ P w0 φ s b cs0 cs a' w := ⟨h ▸ hq.df, hq.rc, hq.heap⟩
inductive xX (P : Program) (nt : Nat) (ops : Array Oper) : List Nat → List bf → Prop where
 | nil : xX P nt ops [] []
 | cons (i : Nat) (o : Oper) (ao : bf) (is : List Nat) (l : List bf) (ho : ops[i]? = some o) (hc : mI P nt ops o = some ao) (hl : xX P nt ops is l) : xX P nt ops (i :: is) (ao :: l)
theorem aef {nt : Nat} : ∀ (vj pre : List Oper) (l : List bf), vj.mapM (mI P nt ops) = some l → ops.toList = pre ++ vj → xX P nt ops (List.range' pre.length vj.length) l := by
 intro vj
 induction vj with
 | nil => intro pre l h _; simp at h; subst h; exact .nil
 | cons o vj ih =>
  intro pre l h hp
  rw [List.mapM_cons] at h
  cases ho : mI P nt ops o with
  | none => simp [ho] at h
  | some ao =>
   cases hs : vj.mapM (mI P nt ops) with
   | none => simp [ho, hs] at h
   | some l' =>
    simp [ho, hs] at h
    subst h
    rw [List.length_cons, List.range'_succ]
    refine .cons _ o _ _ _ ?_ ho ?_
    · rw [← Array.getElem?_toList, hp]; simp
    · have := ih (pre ++ [o]) l' hs (by simp [hp])
      simpa using this
theorem aeg {nt : Nat} {l : List bf} (h : Aw P nt ops = some l) : xX P nt ops (List.range ops.size) l := by
 have := aef ops.toList [] l h rfl
 simpa [List.range_eq_range'] using this
theorem aeh {nt : Nat} {ao : bf} (hc : mI P nt ops o = some ao) {a : Act} {tm : PT} (ht : TR φ tm nt a.tmps) {v v' : Value} (hv : VR φ v v') :
 (ao.dst = none → TR φ tm nt (a.put o.dst v').tmps) ∧ (∀ p, ao.dst = some p → TR φ (tm.set p v) nt (a.put o.dst v').tmps) := by
 obtain ⟨act, xs, args, h1, h2, h3, Ai, h4, h5⟩ := xV hc
 rcases h4 with ⟨h6, h7⟩ | ⟨d, h6, hd, h7⟩
 · rw [h6, h7]
   refine ⟨fun _ => ht, fun p hp => ?_⟩
   cases hp
 · rw [h6, h7]
   refine ⟨fun hn => (by cases hn), fun p hp => ?_⟩
   cases hp
   have := ht.set (Pos.of d) (by rw [Pos.kD]; exact hd) hv
   rw [Pos.kD] at this
   exact this
theorem aei {rec : Task → Bool} (cu : ∀ t, rec t = true → c8 P w0 t) {k : KS} : ∀ {is : List Nat} {l : List bf}, xX P e.nt ops is l → ∀ {φ : aE} {s : St} {cs : List Frame} {a : Act} {w : World}, SR P w0 φ e s b cs0 cs a w → lk φ e b → Ax rec l e s k = true →
 iA P w0 φ s.h.nx e b cs0 (lone (b.atR a (.inRegion ops is :: todo)) cs w) todo k := by
 intro is l hR
 induction hR with
 | nil =>
  intro φ s cs a w hs he h
  exact ⟨.normal, s, φ, cs, a, w, h, Ext.refl _ _, Nat.le_refl _, hs, .one stepR_region_end⟩
 | cons i o ao is l ho hc hl ih =>
  intro φ s cs a w hs he h
  have h' : sM rec ao e s k (fun s => Ax rec l e s k) = true := h
  rcases UM (rest := is) (todo := todo) cu hc ho hs.toSQ he (fun p _ => hs.tm.2 p) h' with ⟨v, v', s1, φ', w', cf, jb, h1, h2, h3, h4, h5, h6, h7⟩ | ⟨v, v', s1, φ', w', h1, h3, h4, h5, h6, h7⟩
  · have dN : TR φ' s1.tm e.nt ({ a with defers := jb } : Act).tmps := by rw [h2]; exact hs.tm.ext h3
    obtain ⟨t1, t2⟩ := aeh hc dN h5
    rcases aee h1 with ⟨hd, hk⟩ | ⟨p, hd, hk⟩
    · exact (ih (s := s1) ⟨h6.defers (Act.Fg _ _ _), t1 hd⟩ (he.ext h3) hk).of_steps h3 h4 h7
    · exact (ih (s := ⟨s1.tm.set p v, s1.df, s1.rc, s1.h⟩) ⟨SQ.mk (by rw [Act.Fg]; exact h6.df) h6.rc h6.heap, t2 p hd⟩ (he.ext h3) hk).of_steps h3 h4 h7
  · exact ⟨.aN v, s1, φ', cs, a, w', h1, h3, h4, h6, ⟨_, v', h5, h7⟩⟩
end
end Go.Ve
namespace Go.Ve
open Go.RowKit
section
variable {P : Program} {w0 w : World} {φ : aE} {h : AH}
theorem Ext.mono {N M : Nat} {φ φ' : aE} (h : Ext N φ φ') (hM : M ≤ N) : Ext M φ φ' := ⟨h.old, fun f hf => h.out f (Nat.lt_of_lt_of_le hf hM)⟩
theorem HR.new (H : HR P w0 φ h w) {o : AO} {o' : Obj} {d n : Nat} {aS : NT AO} (hs : h.ob.iy h.nx (some o) aS) (ho : OR P φ d n o o') :
 HR P w0 (φ.put h.nx (.live w.heap.size d n)) ⟨h.nx + 1, aS⟩ (w.alloc o') ∧ Ext h.nx φ (φ.put h.nx (.live w.heap.size d n)) :=
 H.newAt (f := h.nx) (h' := ⟨h.nx + 1, aS⟩) (H.fresh _ (Nat.le_refl _)) hs.1 (fun g hg _ => hs.2 g hg) (fun g hg => H.fresh g (by have : h.nx + 1 ≤ g := hg; omega)) (fun g hg => by have h2 : h.nx + 1 ≤ g := hg; show aS.get g = none; rw [hs.2 g (by omega)]; exact H.top g (by omega)) (Nat.lt_succ_self _) h.nx (Nat.le_refl _) ho
theorem HR.loop (H : HR P w0 φ h w) {f : Nat} {l : j8} (hf : φ f ≠ none) (ho : h.ob.get f = some (.loop l)) : ∃ b d n l', φ f = some (.live b d n) ∧ w.heap[b]? = some (.loop l') ∧ pJ P φ l l' ∧ w0.heap.size ≤ b := by
 obtain ⟨b, d, n, o', h1, h2, h3, h4⟩ := H.live hf ho
 cases h3 with
 | loop _ _ _ l' hl => exact ⟨b, d, n, l', h1, h2, hl, h4 rfl⟩
theorem aej {l : Nat} {r : Loop} (hl : w.heap[l]? = some (.loop r)) (fn : FuncId) (tmps : Array Value) (ps : Array Tmp) (assign body : Code) :
 (Instr.enterLoop fn tmps ps assign body (some l)).run P w = .ok (w.heap.size, []) (w.alloc (.loop { state := .ready, pending := none, fn, tmps, params := ps, assign, body, defers := r.defers })) := by
 unfold Instr.enterLoop
 simp only [Sem.run_bind, run_getLoop hl, run_newObj_alloc, Result.andThen, Sem.run_pure]
variable {e : Env} {s : St} {b : Frame} {cs0 cs : List Frame} {a : Act} {todo : List Item} {k : KS}
theorem iA.bind {N : Nat} {m : Machine} {UN : List Item} {k' : KS} (g : iA P w0 φ N e b cs0 m UN k')
 (h : ∀ x s1 φ1 dU a1 w1, k' x s1 = true → Ext N φ φ1 → N ≤ s1.h.nx → SX P w0 φ1 e x s1 b cs0 dU a1 w1 → Ag P φ1 m b UN x dU a1 w1 → iA P w0 φ N e b cs0 m todo k) : iA P w0 φ N e b cs0 m todo k := by
 obtain ⟨x, s1, φ1, dU, a1, w1, h1, h2, h3, h4, h5⟩ := g
 exact h x s1 φ1 dU a1 w1 h1 h2 h3 h4 h5
theorem step_scope {c : Code} : step P (lone (b.atR a (.code (.scope c) :: todo)) cs w) = .next (lone (b.atR a (.code c :: .inScope c :: todo)) cs w) :=
 step_lone_go (by simp [stepG, stepG.exec, Frame.atR])
theorem step_inScope {c : Code} : step P (lone (b.atR a (.inScope c :: todo)) cs w) = .next (lone (b.atR a todo) cs w) :=
 step_lone_go (by simp [stepG, stepG.exec, Frame.atR])
def UO (P : Program) (w0 : World) : Prop := ∀ (rec : Task → Bool), (∀ t, rec t = true → c8 P w0 t) → ∀ (e : Env) (b : Frame) (cs0 : List Frame) (todo : List Item) (k : KS) (id : Nat) (ops : Array Oper) (l : List bf) (dl : List iI),
 Aw P e.nt ops = some l → Mh ops l.toArray = some dl → ∀ (φ : aE) (s : St) (cs : List Frame) (a : Act) (w : World), SR P w0 φ e s b cs0 cs a w → lk φ e b → nA rec dl e s k = true →
  iA P w0 φ s.h.nx e b cs0 (lone (b.atR a (.code (.region id ops true) :: todo)) cs w) todo k
theorem UP {rec : Task → Bool} (cu : ∀ t, rec t = true → c8 P w0 t) {ac : cN} {c2 : Code} {it : Item} {m : Machine} {N : Nat} (hc : fO P e.nt c2 = some ac) (fD : L8 c2 it) (hx : ∀ id, exitTo id (it :: todo) = exitTo id todo) (he : lk φ e b)
 (g : iA P w0 φ N e b cs0 m (it :: todo) (Ay rec ac e k)) : iA P w0 φ N e b cs0 m todo k := by
 refine g.bind fun x s1 φ1 dU a1 w1 h1 h2 h3 h4 h5 => ?_
 cases x with
 | normal =>
  have hC : c8 P w0 (.code ac e s1 k) := cu _ h1
  have := hC c2 hc φ1 b cs0 dU a1 w1 h4 (he.ext h2) it fD todo
  exact this.of_steps h2 h3 h5
 | exit id =>
  obtain ⟨k1, h6, h7⟩ := h5
  exact ⟨.exit id, s1, φ1, dU, a1, w1, h1, h2, h3, h4, k1, by rw [h6, hx], h7⟩
 | ret => exact ⟨.ret, s1, φ1, dU, a1, w1, h1, h2, h3, h4, h5⟩
 | aN v => exact ⟨.aN v, s1, φ1, dU, a1, w1, h1, h2, h3, h4, h5⟩
theorem aek {id : Nat} {m : Machine} {N : Nat} (g : iA P w0 φ N e b cs0 m (.inBlock id :: todo) (Mi id k)) : iA P w0 φ N e b cs0 m todo k := by
 refine g.bind fun x s1 φ1 dU a1 w1 h1 h2 h3 h4 h5 => ?_
 cases x with
 | normal => exact ⟨.normal, s1, φ1, dU, a1, w1, h1, h2, h3, h4, Steps.trans h5 (.one stepR_inBlock)⟩
 | exit j =>
  obtain ⟨k1, h6, h7⟩ := h5
  have gM : (bif Nat.beq j id then k .normal s1 else k (.exit j) s1) = true := h1
  cases hj : Nat.beq j id with
  | true =>
   rw [hj] at gM
   have : j = id := Nat.eq_of_beq_eq_true hj
   subst this
   have h6' : exitTo j k1 = some todo := by rw [h6]; simp [exitTo]
   exact ⟨.normal, s1, φ1, dU, a1, w1, gM, h2, h3, h4, Steps.trans h7 (.one (stepR_exit h6'))⟩
  | false =>
   rw [hj] at gM
   have cS : ¬ (id = j) := fun e' => by subst e'; rw [Nat.beq_refl] at hj; cases hj
   refine ⟨.exit j, s1, φ1, dU, a1, w1, gM, h2, h3, h4, k1, ?_, h7⟩
   rw [h6]; simp [exitTo, cS]
 | ret => exact ⟨.ret, s1, φ1, dU, a1, w1, h1, h2, h3, h4, h5⟩
 | aN v => exact ⟨.aN v, s1, φ1, dU, a1, w1, h1, h2, h3, h4, h5⟩
theorem ael {l : Nat} {df : List eB} {pj : Option Code} {h1 : AH} {N : Nat} {m : Machine} (hj : Fh s df k pj h1 = true) (hs : SR P w0 φ e ⟨s.tm, df, s.rc, h1⟩ b cs0 cs a w) (hN : N ≤ h1.nx)
 (iz : Steps P m (lone (b.atR a ((pj.map Item.code).toList ++ todo)) cs w)) : iA P w0 φ N e b cs0 m todo k := by
 unfold Fh at hj
 split at hj
 · exact ⟨.normal, _, φ, cs, a, w, hj, Ext.refl _ _, hN, hs, iz⟩
 · exact ⟨.ret, _, φ, cs, a, w, hj, Ext.refl _ _, hN, hs, todo, iz⟩
 · exact ⟨.exit _, _, φ, cs, a, w, hj, Ext.refl _ _, hN, hs, todo, rfl, iz⟩
 · cases hj
theorem pJ.iK {l : j8} {l' : Loop} (r : pJ P φ l l') (st : LoopState) (j : Option Code) : pJ P φ (l.iK st j) { l' with state := st, pending := j } := by
 cases l
 exact ⟨rfl, rfl, r.fn, r.tm, r.params, r.small, r.assign, r.body, r.defs, r.Mj⟩
theorem HR.Mk (H : HR P w0 φ h w) {f b d n : Nat} {l' : Loop} {aS : NT AO} (hl : φ f = some (.live b d n)) (hw : w.heap[b]? = some (.loop l')) (hb : w0.heap.size ≤ b) {l2 : j8} {Az : Loop} (hs : h.ob.iy f (some (.loop l2)) aS) (hr : pJ P φ l2 Az) :
 HR P w0 φ ⟨h.nx, aS⟩ (w.putObj b (.loop Az)) := by
 have bG : b < w.heap.size := (Array.getElem?_eq_some_iff.1 hw).1
 exact H.iK (h' := ⟨h.nx, aS⟩) hl hs rfl (.loop d n _ _ hr) hb (World.putObj_heap_same bG) (fun k hk => World.putObj_heap_other hk) World.putObj_size rfl rfl rfl
theorem UQ {rec : Task → Bool} (cu : ∀ t, rec t = true → c8 P w0 t) {g : Operand} {ps : Array Tmp} {assign body : Code} {x y : cN} {gf : FuncId} {first bD jw iX : Array Value} {h1 : AH} {dl : Nat} {df : List eB} {mark : List Deferred} {w1 : World} {N dl' : Nat}
 (eQ : ∀ t ∈ ps.toList, t < e.nt) (hx : fO P e.nt assign = some x) (hy : fO P e.nt body = some y) (hg : a.eval g = .func (.func gf) jw iX) (vk : LR φ first.toList jw.toList) (vl : LR φ bD.toList iX.toList)
 (hb : b.fn = e.fn) (dN : TR φ s.tm e.nt a.tmps) (sN : DL φ df (mark ++ a.defers)) (jR : qO φ s.rc b cs0 cs) (H : HR P w0 φ h1 w1) (sO : φ dl ≠ none) (aem : ∀ b d n, φ dl = some (.live b d n) → dl' = b) (hN : N ≤ h1.nx)
 (aen : (Instr.enterLoop b.fn a.tmps ps assign body b.roundOf).run P w = .ok (w1.heap.size, mark) (w1.alloc (.loop { state := .ready, pending := none, fn := b.fn, tmps := a.tmps, params := ps, assign, body, defers := dl' })))
 (hk : AA rec e s k (ps.toList.map Pos.of) x y gf first.toList bD.toList h1 dl df = true) :
 iA P w0 φ N e b cs0 (lone (b.atR a (.code (.rangeFunc g ps assign body) :: todo)) cs w) todo k := by
 obtain ⟨aS, bY, Ml⟩ := sE hk
 have Mm : pJ P φ ⟨.ready, none, e.fn, s.tm, ps.toList.map Pos.of, x, y, dl, e.nt⟩ { state := .ready, pending := none, fn := b.fn, tmps := a.tmps, params := ps, assign, body, defers := dl' } :=
  ⟨rfl, rfl, hb, dN, rfl, eQ, hx, hy, sO, aem⟩
 obtain ⟨H1, pK⟩ := H.new bY (.loop 0 0 _ _ Mm)
 have AB := qI _ _ Ml
 have hC : gn P w0 gf (first.toList ++ (.func (.yield h1.nx) ⟨[]⟩ ⟨[]⟩ :: bD.toList)) ⟨h1.nx + 1, aS⟩ (Mn s df k h1.nx) := cu _ AB
 have jz : (φ.put h1.nx (.live w1.heap.size 0 0)) h1.nx = some (.live w1.heap.size 0 0) := aE.gP _ _ _
 have jt : LR (φ.put h1.nx (.live w1.heap.size 0 0)) (first.toList ++ (.func (.yield h1.nx) ⟨[]⟩ ⟨[]⟩ :: bD.toList)) ((jw ++ #[Value.func (.yield w1.heap.size) #[] #[]]) ++ iX).toList := by
  have := LR.append (LR.cons _ _ _ _ (VR.func (.yield h1.nx) (.yield w1.heap.size) ⟨[]⟩ #[] ⟨[]⟩ #[] (.yield _ _ (by rw [jz]; simp) (fun b d n hh => by rw [jz] at hh; cases hh; rfl)) .nil .nil) (LR.ext pK vl)) (LR.ext pK vk)
  simpa using this
 have nB := stepR_rangeFunc (P := P) (b := b) (a := a) (k := todo) (cs := cs) (w := w) (g := g) (ps := ps) (assign := assign) (body := body) (d := { target := .fn (.func gf) iX, args := jw ++ #[.func (.yield w1.heap.size) #[] #[]] })
  (f := gf) (args := (jw ++ #[.func (.yield w1.heap.size) #[] #[]]) ++ iX) aen
  (by
   have Fi : a.eval (.const (.func (.yield w1.heap.size) #[] #[])) = .func (.yield w1.heap.size) #[] #[] := rfl
   simp [resolve, rangeCall, hg, Deferred.ofValue, Fi]; rfl) (Aj hC.1 _ _)
 obtain ⟨E, w3, fr, ⟨r, h3, φ3, UR, Mo, US, H3, Ak⟩, Al, ju, Am⟩ := hC.2 _ _ _ jt H1 (b.atR { a with defers := mark ++ a.defers } (.inRangeFunc w1.heap.size :: todo) :: cs)
 have hE : Ext N φ φ3 := (pK.mono hN).trans Mo (Nat.le_trans hN (Nat.le_succ _))
 have UT : N ≤ h3.nx := by have : h1.nx + 1 ≤ h3.nx := US; omega
 have UU : DL φ3 df ({ a with defers := mark ++ a.defers } : Act).defers := sN.ext hE
 cases r with
 | aN v =>
  obtain ⟨v', rfl, jQ⟩ := Ak
  refine ⟨.aN v, ⟨s.tm, df, s.rc, h3⟩, φ3, cs, { a with defers := mark ++ a.defers }, w3, UR, hE, UT, ⟨UU, jR.ext hE, H3⟩, ⟨.inRangeFunc w1.heap.size :: todo, v', jQ, .head nB (Steps.trans Al (.one ?_))⟩⟩
  have := step_leave_panicked (c := b.atR { a with defers := mark ++ a.defers } (.inRangeFunc w1.heap.size :: todo)) (cs := cs) Am
  rw [Frame.raise_atR] at this
  exact this
 | ret v =>
  obtain ⟨v', rfl, jQ⟩ := Ak
  have om := step_leave_returned (c := b.atR { a with defers := mark ++ a.defers } (.inRangeFunc w1.heap.size :: todo)) (cs := cs) Am
  rw [finish_atR_inRangeFunc] at om
  obtain ⟨lp, Fj, hk4⟩ := AE UR
  obtain ⟨Fk, hk5⟩ := bV hk4
  obtain ⟨Mq, aeo, hk6⟩ := mF hk5
  have aep : φ3 h1.nx ≠ none := Mo.ch (by rw [jz]; simp)
  obtain ⟨b2, d2, n2, Fm, Fo, Mr, Fp, hl5⟩ := H3.loop aep Fj
  have ll : b2 = w1.heap.size := by
   have := Mo.live (by rw [jz]; simp) Fo
   rw [jz] at this; cases this; rfl
  subst ll
  have aeq : Fm.state ≠ .busy := by
   rw [Fp.state]
   intro hh
   rw [hh] at Fk; cases Fk
  have Fq := stepR_endRangeFunc (P := P) (b := b) (a := { a with defers := mark ++ a.defers }) (k := todo) (cs := cs) (run_endLoop Mr aeq)
  have UW := Fp.iK .exhausted lp.dm
  rw [show ({ Fm with state := .exhausted, pending := lp.dm } : Loop) = { Fm with state := .exhausted } from by rw [← Fp.dm]] at UW
  have H4 := H3.Mk Fo Mr hl5 aeo UW
  refine (ael (l := 0) (φ := φ3) (a := { a with defers := mark ++ a.defers }) (N := h3.nx) hk6 ⟨⟨UU, jR.ext hE, H4⟩, dN.ext hE⟩ (Nat.le_refl _) (m := lone (b.atR { a with defers := mark ++ a.defers } ((Fm.pending.map Item.code).toList ++ todo)) cs _) ?_).of_steps hE UT (.head nB (Steps.trans Al (.head om (.one Fq))))
  rw [Fp.dm]
  exact Steps.refl _ _
theorem aer {rec : Task → Bool} (cu : ∀ t, rec t = true → c8 P w0 t) {g : Operand} {g' : dL} {ps : Array Tmp} {assign body : Code} {x y : cN}
 (hg : nv g = some g') (eQ : ∀ t ∈ ps.toList, t < e.nt) (hx : fO P e.nt assign = some x) (hy : fO P e.nt body = some y) (hs : SR P w0 φ e s b cs0 cs a w) (he : lk φ e b)
 (h : UX rec e s k g' (ps.toList.map Pos.of) x y = true) : iA P w0 φ s.h.nx e b cs0 (lone (b.atR a (.code (.rangeFunc g ps assign body) :: todo)) cs w) todo k := by
 obtain ⟨v, hv, h1⟩ := Me (a := a) (s := s) (φ := φ) hg (fun p _ => hs.tm.2 p) h
 rcases Mb h1 with ⟨gf, first, bD, rfl, h2⟩ | ⟨l, rfl, h2⟩
 · generalize UY : a.eval g = gv at hv
   cases hv with
   | func _ qG _ jw _ iX ju vk vl =>
    cases ju
    obtain ⟨hb, pI⟩ := he
    cases UZ : e.sI with
    | none =>
     rw [UZ] at h2 pI
     have xU : b.roundOf = none := pI
     obtain ⟨aS, bY, h3⟩ := sE h2
     obtain ⟨H1, pK⟩ := hs.heap.new bY (.defs 0 0 false)
     have jz : (φ.put s.h.nx (.live w.heap.size 0 0)) s.h.nx = some (.live w.heap.size 0 0) := aE.gP _ _ _
     refine (UQ (φ := φ.put s.h.nx (.live w.heap.size 0 0)) (N := s.h.nx + 1) (w := w) (w1 := w.alloc (.deferred (some []))) (mark := [{ target := .collected w.heap.size, args := #[] }]) (dl' := w.heap.size) cu eQ hx hy UY (LR.ext pK vk) (LR.ext pK vl) hb (hs.tm.ext pK) ?_ (hs.rc.ext pK) H1 (by rw [jz]; simp) (fun b d n hh => by rw [jz] at hh; cases hh; rfl) (Nat.le_refl _) ?_ h3).of_steps pK (Nat.le_succ _) (Steps.refl _ _)
     · exact .cons _ _ _ _ ⟨by rw [jz]; simp, w.heap.size, rfl, fun b d n hh => by rw [jz] at hh; cases hh; rfl⟩ (hs.df.ext pK)
     · rw [xU, run_enterLoop_outer, World.size_alloc]
    | some l =>
     rw [UZ] at h2 pI
     obtain ⟨hk, l', fP, hφ, aes⟩ := pI
     obtain ⟨r, xY, h3⟩ := AE h2
     obtain ⟨bl, d, n, r', e1, e2, e3, e4⟩ := hs.heap.loop hφ xY
     have : l' = bl := aes _ _ _ e1
     subst this
     refine UQ (φ := φ) (w := w) (w1 := w) (mark := []) (dl' := r'.defers) cu eQ hx hy UY vk vl hb hs.tm hs.df hs.rc hs.heap e3.defs (fun b d n hh => e3.Mj b d n hh) (Nat.le_refl _) ?_ h3
     rw [fP, aej e2]
 · cases h2
theorem U0 (Ms : UO P w0) {rec : Task → Bool} (cu : ∀ t, rec t = true → c8 P w0 t) : ∀ (c : Code) (ac : cN) (e : Env) (s : St) (k : KS), fO P e.nt c = some ac → Mt rec ac e s k = true →
 ∀ (φ : aE) (b : Frame) (cs0 cs : List Frame) (a : Act) (w : World), SR P w0 φ e s b cs0 cs a w → lk φ e b → ∀ it, L8 c it → ∀ todo, iA P w0 φ s.h.nx e b cs0 (lone (b.atR a (it :: todo)) cs w) todo k := by
 intro c
 induction c with
 | skip =>
  intro ac e s k hc h φ b cs0 cs a w hs he it fD todo
  rcases fD with rfl | ⟨c', fQ, _⟩
  · cases hc; exact ⟨.normal, s, φ, cs, a, w, h, Ext.refl _ _, Nat.le_refl _, hs, .one stepR_skip⟩
  · cases fQ
 | label l =>
  intro ac e s k hc h φ b cs0 cs a w hs he it fD todo
  rcases fD with rfl | ⟨c', fQ, _⟩
  · cases hc; exact ⟨.normal, s, φ, cs, a, w, h, Ext.refl _ _, Nat.le_refl _, hs, .one stepR_label⟩
  · cases fQ
 | region id ops draw =>
  intro ac e s k hc h φ b cs0 cs a w hs he it fD todo
  rcases fD with rfl | ⟨c', fQ, _⟩
  · cases draw with
    | false =>
     simp only [fO, Option.map_eq_some_iff] at hc
     obtain ⟨l, hl, rfl⟩ := hc
     exact (aei cu (aeg hl) hs he h).of_steps (Ext.refl _ _) (Nat.le_refl _) (.one stepR_region)
    | true =>
     simp only [fO] at hc
     split at hc
     · rename_i l hl
       split at hc
       · rename_i dl sO
         cases hc
         exact Ms rec cu e b cs0 todo k id ops l dl hl sO φ s cs a w hs he h
       · cases hc; exact Bool.noConfusion (show false = true from h)
     · cases hc
  · cases fQ
 | seq c1 c2 xZ U1 =>
  intro ac e s k hc h φ b cs0 cs a w hs he it fD todo
  rcases fD with rfl | ⟨c', fQ, _⟩
  · simp only [fO] at hc
    split at hc
    · rename_i x y hx hy
      cases hc
      have hC : c8 P w0 (.code x e s (Ay rec y e k)) := cu _ h
      have g := hC c1 hx φ b cs0 cs a w hs he _ (.inl rfl) (.code c2 :: todo)
      exact (UP cu hy (.inl rfl) (fun _ => by simp [exitTo]) he g).of_steps (Ext.refl _ _) (Nat.le_refl _) (.one stepR_seq)
    · cases hc
  · cases fQ
 | cond c c1 c2 xZ U1 =>
  intro ac e s k hc h φ b cs0 cs a w hs he it fD todo
  rcases fD with rfl | ⟨c', fQ, _⟩
  · simp only [fO] at hc
    split at hc
    · rename_i c0 x y vh hx hy
      cases hc
      obtain ⟨v, hv, h1⟩ := Me (a := a) (s := s) (φ := φ) vh (fun p _ => hs.tm.2 p) h
      obtain ⟨t, rfl, h2⟩ := AF h1
      have Fi := VR.pC hv
      cases t with
      | true =>
       have hC : c8 P w0 (.code x e s k) := cu _ h2
       exact (hC c1 hx φ b cs0 cs a w hs he _ (.inl rfl) todo).of_steps (Ext.refl _ _) (Nat.le_refl _) (.one (stepR_cond Fi))
      | false =>
       have hC : c8 P w0 (.code y e s k) := cu _ h2
       exact (hC c2 hy φ b cs0 cs a w hs he _ (.inl rfl) todo).of_steps (Ext.refl _ _) (Nat.le_refl _) (.one (stepR_cond Fi))
    · cases hc
  · cases fQ
 | block id c1 xZ =>
  intro ac e s k hc h φ b cs0 cs a w hs he it fD todo
  rcases fD with rfl | ⟨c', fQ, _⟩
  · simp only [fO, Option.map_eq_some_iff] at hc
    obtain ⟨x, hx, rfl⟩ := hc
    have hC : c8 P w0 (.code x e s (Mi id k)) := cu _ h
    exact (aek (hC c1 hx φ b cs0 cs a w hs he _ (.inl rfl) (.inBlock id :: todo))).of_steps (Ext.refl _ _) (Nat.le_refl _) (.one stepR_block)
  · cases fQ
 | loop c1 xZ =>
  intro ac e s k hc h φ b cs0 cs a w hs he it fD todo
  have vh := hc
  simp only [fO, Option.map_eq_some_iff] at hc
  obtain ⟨x, hx, rfl⟩ := hc
  have hC : c8 P w0 (.code x e s (Ay rec (.loop x) e k)) := cu _ h
  have g := UP (c2 := .loop c1) cu vh (.inr ⟨c1, rfl, rfl⟩) (fun _ => by simp [exitTo]) he (hC c1 hx φ b cs0 cs a w hs he _ (.inl rfl) (.inLoop c1 :: todo))
  rcases fD with rfl | ⟨c', fQ, rfl⟩
  · exact g.of_steps (Ext.refl _ _) (Nat.le_refl _) (.one stepR_loop)
  · cases fQ
    exact g.of_steps (Ext.refl _ _) (Nat.le_refl _) (.one stepR_inLoop)
 | scope c1 xZ =>
  intro ac e s k hc h φ b cs0 cs a w hs he it fD todo
  rcases fD with rfl | ⟨c', fQ, _⟩
  · have g := xZ ac e s k (by simpa only [fO] using hc) h φ b cs0 cs a w hs he _ (.inl rfl) (.inScope c1 :: todo)
    refine iA.of_steps (Ext.refl _ _) (Nat.le_refl _) (.one step_scope) (g.bind fun x s1 φ1 dU a1 w1 h1 h2 h3 h4 h5 => ?_)
    cases x with
    | normal => exact ⟨.normal, s1, φ1, dU, a1, w1, h1, h2, h3, h4, Steps.trans h5 (.one step_inScope)⟩
    | exit id => obtain ⟨k1, h6, h7⟩ := h5; exact ⟨.exit id, s1, φ1, dU, a1, w1, h1, h2, h3, h4, k1, by rw [h6]; simp [exitTo], h7⟩
    | ret => exact ⟨.ret, s1, φ1, dU, a1, w1, h1, h2, h3, h4, h5⟩
    | aN v => exact ⟨.aN v, s1, φ1, dU, a1, w1, h1, h2, h3, h4, h5⟩
  · cases fQ
 | rangeFunc g ps c1 c2 xZ U1 =>
  intro ac e s k hc h φ b cs0 cs a w hs he it fD todo
  rcases fD with rfl | ⟨c', fQ, _⟩
  · simp only [fO] at hc
    split at hc
    · rename_i g' x y hg hx hy
      split at hc
      · rename_i eQ
        cases hc
        exact aer cu hg (fun t ht => by simpa using List.all_eq_true.1 eQ t ht) hx hy hs he h
      · cases hc
    · cases hc
  · cases fQ
 | exit id =>
  intro ac e s k hc h φ b cs0 cs a w hs he it fD todo
  rcases fD with rfl | ⟨c', fQ, _⟩
  · cases hc; exact ⟨.exit id, s, φ, cs, a, w, h, Ext.refl _ _, Nat.le_refl _, hs, todo, rfl, Steps.refl _ _⟩
  · cases fQ
 | ret =>
  intro ac e s k hc h φ b cs0 cs a w hs he it fD todo
  rcases fD with rfl | ⟨c', fQ, _⟩
  · cases hc; exact ⟨.ret, s, φ, cs, a, w, h, Ext.refl _ _, Nat.le_refl _, hs, todo, Steps.refl _ _⟩
  · cases fQ
 | goto l => intro ac e s k hc h; cases hc; exact Bool.noConfusion (show false = true from h)
 | refuse why => intro ac e s k hc h; cases hc; exact Bool.noConfusion (show false = true from h)
end
end Go.Ve
namespace Go.Ve
open Go.RowKit
section
variable {P : Program} {w0 w : World} {φ : aE} {h : AH}
theorem Mu {f : FuncId} {af : gB} (h : bZ P f = some af) : ∃ fn c, P.funcs[f]? = some fn ∧ Can P f ∧ fn.body = some c ∧ fn.results.toList.mapM (pL P) = some af.results ∧ fO P fn.ntmps c = some af.code ∧ af.ntmps = fn.ntmps := by
 unfold bZ at h
 split at h
 · cases h
 · rename_i fn hf
   split at h
   · cases h
   · rename_i hn
     split at h
     · cases h
     · rename_i c hb
       split at h
       · rename_i rs ac hr hc
         cases h
         exact ⟨fn, c, hf, ⟨fn, hf, by simpa using hn, by simp [hb]⟩, hb, hr, hc, rfl⟩
       · cases h
theorem U2 : ∀ (vs : List Value) {i : Nat} {t : PT} {k : PT → Bool}, qU i vs t k = true → ∃ t', k t' = true ∧ ∀ p : Pos, t'.get p = if i ≤ p.un ∧ p.un < i + vs.length then vs.getD (p.un - i) undef else t.get p := by
 intro vs
 induction vs with
 | nil => intro i t k h; exact ⟨t, h, fun p => by rw [if_neg (by simp)]⟩
 | cons v vs ih =>
  intro i t k h
  have h' : PT.fW (Pos.of i) t v (fun t => qU (i + 1) vs t k) = true := h
  rw [PT.lb] at h'
  obtain ⟨t', h1, h2⟩ := ih h'
  refine ⟨t', h1, fun p => ?_⟩
  rw [h2, PT.c7]
  by_cases h3 : p.un = i
  · have hp : p = Pos.of i := Pos.sx (by rw [Pos.kD]; exact h3)
    rw [if_neg (by omega), if_pos hp, if_pos (by simp; omega)]
    simp [h3]
  · have hp : ¬ p = Pos.of i := fun e => h3 (by rw [e, Pos.kD])
    by_cases h4 : i + 1 ≤ p.un ∧ p.un < i + 1 + vs.length
    · rw [if_pos h4, if_pos (by simp; omega)]
      have : p.un - i = (p.un - (i + 1)) + 1 := by omega
      rw [this]; simp
    · rw [if_neg h4, if_neg hp, if_neg (by simp; omega)]
theorem U3 {args : List Value} {args' : Array Value} {t : PT} {n : Nat} (hl : LR φ args args'.toList) (ht : ∀ p : Pos, t.get p = if 0 ≤ p.un ∧ p.un < 0 + args.length then args.getD (p.un - 0) undef else PT.e.get p) :
 TR φ t n (args' ++ Array.replicate (n - args'.size) undef) := by
 have hlen : args.length = args'.size := by rw [hl.length]; simp
 refine ⟨by simp; omega, fun p => ?_⟩
 rw [ht p]
 by_cases h : p.un < args.length
 · rw [if_pos (by omega)]
   have h1 : args[p.un]? = some args[p.un] := by simp [h]
   obtain ⟨v', h2, h3⟩ := hl.get _ _ h1
   have h4 : (args' ++ Array.replicate (n - args'.size) undef).getD p.un undef = v' := by
    rw [Array.getD_eq_getD_getElem?, Array.getElem?_append_left (by omega)]
    rw [← Array.getElem?_toList, h2]; rfl
   rw [h4]
   have h5 : args.getD (p.un - 0) undef = args[p.un] := by simp [h]
   rw [h5]; exact h3
 · rw [if_neg (by omega), PT.TT]
   have h4 : (args' ++ Array.replicate (n - args'.size) undef).getD p.un undef = undef := by
    rw [Array.getD_eq_getD_getElem?, Array.getElem?_append_right (by omega)]
    by_cases h6 : p.un - args'.size < n - args'.size
    · simp [Array.getElem?_replicate, h6]
    · rw [Array.getElem?_eq_none (by simp; omega)]; rfl
   rw [h4]; exact VR.undef φ
theorem aet {t : TypeId} {d : TypeDesc} {n : Nat} {x : Value} {a : Addr} (hu : P.underlying t = some d) (hd : ln d = true) (hz : dV P t = some n) (H : HR P w0 φ h w) (hv : VR φ x (.pointer (some a))) {k : List Value → Bool}
 (e : hZ x (fun b o => kI h b o n k) = true) : ∃ l l', (loadVar t a).run P w = .ok (.agg l') w ∧ LR φ l l'.toList ∧ k l = true := by
 obtain ⟨i, hi, rfl⟩ := kG hz
 obtain ⟨a0, al, e'⟩ := kF e; clear e; subst al; have e := e'; clear e'
 obtain ⟨a', ha, hs, cw⟩ := hv.jx
 cases ha
 obtain ⟨lo, Fs, ty, rw, c, l, h1, h2, h3, h4, h5, h6⟩ := sD e
 obtain ⟨l', hl, bO⟩ := H.cells hs cw h1 h2 (by omega) h5
 refine ⟨l, l'.toArray, ?_, by simpa using hl, h6⟩
 rw [h4] at bO
 simp [loadVar, qV hu, hd, iJ hi, bO w rfl]
theorem aeu {t : TypeId} {d : TypeDesc} {x : Value} {a : Addr} (hu : P.underlying t = some d) (hd : ln d = false) (H : HR P w0 φ h w) (hv : VR φ x (.pointer (some a))) {k : Value → Bool}
 (e : hZ x (fun b o => pM h b o k) = true) : ∃ v v', (loadVar t a).run P w = .ok v' w ∧ VR φ v v' ∧ k v = true := by
 obtain ⟨a0, al, e'⟩ := kF e; clear e; subst al; have e := e'; clear e'
 obtain ⟨a', ha, hs, cw⟩ := hv.jx
 cases ha
 obtain ⟨lo, hi, ty, rw, c, v, h1, h2, h3, h4, h5⟩ := Ft e
 obtain ⟨v', hc, AG⟩ := H.cell hs cw h1 (j := 0) (by omega) (by omega) (by simpa using h4)
 refine ⟨v, v', ?_, AG, h5⟩
 have : a.add 0 = a := rfl
 rw [this] at hc
 simp [loadVar, qV hu, hd, hc]
def x7 (tmps : Array Value) : ResultVar → Sem Value
 | .tmp t => pure (tmps.getD t undef)
 | .cell a t => do loadVar t (← asAddr (tmps.getD a undef))
theorem aev (fn : Func) (tmps : Array Value) : results fn tmps = (do let vs ← fn.results.mapM (x7 tmps); pure (if h : vs.size = 1 then vs[0] else .tuple vs)) := by
 unfold results
 congr 1
theorem aew {tmps : Array Value} {tm : PT} {n : Nat} (ht : TR φ tm n tmps) (H : HR P w0 φ h w) : ∀ {rs : List ResultVar} {as : List kE} {k : List Value → Bool}, rs.mapM (pL P) = some as → kj as tm h k = true →
 ∃ vs gQ, (rs.mapM (x7 tmps)).run P w = .ok gQ w ∧ LR φ vs gQ ∧ k vs = true := by
 intro rs
 induction rs with
 | nil => intro as k hm h; simp at hm; subst hm; exact ⟨[], [], by simp [Sem.run], .nil, h⟩
 | cons r rs ih =>
  intro as k hm hk
  rw [List.mapM_cons] at hm
  cases hr : pL P r with
  | none => simp [hr] at hm
  | some a =>
   cases sP : rs.mapM (pL P) with
   | none => simp [hr, sP] at hm
   | some pH =>
    simp [hr, sP] at hm
    subst hm
    have key : ∃ v v' , (x7 tmps r).run P w = .ok v' w ∧ VR φ v v' ∧ kj pH tm h (fun vs => k (v :: vs)) = true := by
     cases r with
     | tmp t =>
      cases hr
      have dM : PT.de (Pos.of t) tm (fun v => kj pH tm h fun vs => k (v :: vs)) = true := hk
      rw [PT.jv] at dM
      have := ht.2 (Pos.of t)
      rw [Pos.kD] at this
      exact ⟨_, _, by simp [x7, Sem.run], this, dM⟩
     | cell ad t =>
      simp only [pL] at hr
      split at hr
      · rename_i d s hu hs
        have hv := ht.2 (Pos.of ad)
        rw [Pos.kD] at hv
        split at hr
        · rename_i hd
          cases hr
          have dM : PT.de (Pos.of ad) tm (fun v => hZ v fun b o => kI h b o s fun l => kj pH tm h fun vs => k (.agg ⟨l⟩ :: vs)) = true := hk
          rw [PT.jv] at dM
          obtain ⟨a0, hp, _⟩ := kF dM
          have mG := hv
          rw [hp] at mG
          obtain ⟨a', ha, _⟩ := mG.jx
          rw [ha] at hv
          obtain ⟨l, l', h1, h2, h3⟩ := aet hu hd hs H hv dM
          exact ⟨.agg ⟨l⟩, .agg l', by simp [x7, ha, asAddr, Sem.run_bind, Result.andThen, h1], .agg _ _ h2, h3⟩
        · rename_i hd
          cases hr
          have dM : PT.de (Pos.of ad) tm (fun v => hZ v fun b o => pM h b o fun x => kj pH tm h fun vs => k (x :: vs)) = true := hk
          rw [PT.jv] at dM
          obtain ⟨a0, hp, _⟩ := kF dM
          have mG := hv
          rw [hp] at mG
          obtain ⟨a', ha, _⟩ := mG.jx
          rw [ha] at hv
          obtain ⟨v, v', h1, h2, h3⟩ := aeu hu (by simpa using hd) H hv dM
          exact ⟨v, v', by simp [x7, ha, asAddr, Sem.run_bind, Result.andThen, h1], h2, h3⟩
      · cases hr
    obtain ⟨v, v', h1, h2, h3⟩ := key
    obtain ⟨vs, gQ, h4, h5, h6⟩ := ih sP h3
    refine ⟨v :: vs, v' :: gQ, ?_, .cons _ _ _ _ h2 h5, h6⟩
    rw [List.mapM_cons]
    simp [Sem.run_bind, h1, h4, Result.andThen, Sem.run]
theorem aex {vs : List Value} {k : Value → Bool} (h : AI vs k = true) : ∃ v, (vs = [v] ∨ ((∀ x, vs ≠ [x]) ∧ v = .tuple ⟨vs⟩)) ∧ k v = true := by
 match vs with
 | [] => exact ⟨_, .inr ⟨fun x hx => (by cases hx), rfl⟩, h⟩
 | [v] => exact ⟨v, .inl rfl, h⟩
 | a :: b :: l => exact ⟨_, .inr ⟨fun x hx => (by cases hx), rfl⟩, h⟩
theorem U4 {fn : Func} {tmps : Array Value} {tm : PT} {n : Nat} {as : List kE} {k : Value → Bool} (ht : TR φ tm n tmps) (H : HR P w0 φ h w) (hm : fn.results.toList.mapM (pL P) = some as) (hk : kj as tm h (fun vs => AI vs k) = true) :
 ∃ v v', (results fn tmps).run P w = .ok v' w ∧ VR φ v v' ∧ k v = true := by
 obtain ⟨vs, gQ, h1, h2, h3⟩ := aew ht H hm hk
 obtain ⟨v, h4, h5⟩ := aex h3
 rw [aev, Array.mapM_eq_mapM_toList]
 refine ⟨v, if h : gQ.toArray.size = 1 then gQ.toArray[0] else .tuple gQ.toArray, ?_, ?_, h5⟩
 · simp only [Sem.run_bind, map_eq_pure_bind, h1, Result.andThen, Sem.run_pure]
 · rcases h4 with rfl | ⟨cS, rfl⟩
   · obtain ⟨x', hx, hv⟩ := LR.one h2
     subst hx
     simpa using hv
   · have hl := h2.length
     rw [dif_neg]
     · exact .fx _ _ h2
     · intro ef
       simp at ef
       rw [← hl] at ef
       obtain ⟨x, hx⟩ := List.length_eq_one_iff.1 ef
       exact cS x hx
theorem sJ.Mv {m : Option Value} {u : FrameMode} (h : sJ φ m u) : u ≠ .run := by
 cases m with
 | none => intro e; rw [show u = .returning from h] at e; cases e
 | some v => obtain ⟨v', rfl, _⟩ := h; intro e; cases e
theorem DL.cons_inv {d : eB} {l : List eB} {l' : List Deferred} (h : DL φ (d :: l) l') : ∃ d' m, l' = d' :: m ∧ DR φ d d' ∧ DL φ l m := by
 cases h with | cons _ d' _ m h1 h2 => exact ⟨d', m, rfl, h1, h2⟩
theorem DL.vf {l' : List Deferred} (h : DL φ [] l') : l' = [] := by cases h; rfl
theorem Mw {rec : Task → Bool} (cu : ∀ t, rec t = true → c8 P w0 t) {ds : List eB} {m : Option Value} {k : Option Value → AH → Bool} (e : Mx rec ds m h k = true) : lT P w0 ds m h k := by
 intro φ fr cs w hd hm H
 cases ds with
 | nil =>
  have h0 := hd.vf
  refine ⟨m, h, φ, w, fr.mode, e, Ext.refl _ _, Nat.le_refl _, H, hm, ?_⟩
  have : ({ fr with defers := [], mode := fr.mode } : Frame) = fr := by rw [← h0]
  rw [this]
  exact Steps.refl _ _
 | cons d ds =>
  obtain ⟨d', jb, My, U5, uT⟩ := hd.cons_inv
  cases d with
  | od r =>
   obtain ⟨t, h1, e1⟩ := aey (show x8 h r _ = true from e)
   obtain ⟨ht, e2⟩ := bV e1
   cases t with
   | true => cases ht
   | false =>
    obtain ⟨aS, bY, e3⟩ := mF e2
    obtain ⟨xY, r', rfl, hr2⟩ := U5
    obtain ⟨b, dd, n, o', q1, q2, q3, q4⟩ := H.live xY h1
    have hb := hr2 _ _ _ q1
    subst hb
    cases q3 with
    | defs _ _ _ =>
     have bG : r' < w.heap.size := (Array.getElem?_eq_some_iff.1 q2).1
     have H2 : HR P w0 φ ⟨h.nx, aS⟩ (w.putObj r' (.deferred none)) :=
      H.iK (h' := ⟨h.nx, aS⟩) q1 bY rfl (.defs dd n true) (q4 rfl) (World.putObj_heap_same bG) (fun k hk => World.putObj_heap_other hk) World.putObj_size rfl rfl rfl
     have nB := step_collected (P := P) (fr := fr) (cs := cs) (sJ.Mv hm) My rfl (run_takeDeferred q2)
     have hL : lT P w0 ds m ⟨h.nx, aS⟩ k := cu _ e3
     obtain ⟨m', h', φ', w', u, a1, a2, a3, a4, a5, a6⟩ := hL φ { fr with defers := [] ++ jb } cs _ uT hm H2
     exact ⟨m', h', φ', w', u, a1, a2, a3, a4, a5, .head nB a6⟩
  | fn f args =>
   obtain ⟨bD, args', rfl, hl⟩ := U5
   cases m with
   | none =>
    have e1 : rec (.xT f args .off h fun _ h => rec (.leave ds none h k)) = true := e
    have hD : Fa P w0 f args .off h (fun _ h => rec (.leave ds none h k)) := cu _ e1
    have Mz : fr.mode = .returning := hm
    have nB := step_defer (P := P) (w := w) (fr := fr) (cs := cs) (sJ.Mv hm) My rfl (Aj hD.1 _ _)
    obtain ⟨xS, h', φ', w', c', oo, v, a1, a2, a3, a4, a5, a6, a7, a8⟩ := hD.2 φ _ w { fr with defers := jb } cs hl H Mz
    have fQ : c' = { fr with defers := jb } := by
     cases xS with
     | off => exact a5.1
     | can v => exact a5.1
     | kH => obtain ⟨v', jQ, _⟩ := a5; rw [show ({ fr with defers := jb } : Frame).mode = .returning from Mz] at jQ; cases jQ
    subst fQ
    have om := step_going_returned (P := P) (c := { fr with defers := jb }) (cs := cs) a7 a8
    have bY : settle ({ fr with defers := jb } : Frame).mode = .returning := by rw [show ({ fr with defers := jb } : Frame).mode = .returning from Mz]; rfl
    rw [bY] at om
    have hL : lT P w0 ds none h' k := cu _ a1
    obtain ⟨m', h2, φ2, w2, u, b1, b2, b3, b4, b5, b6⟩ := hL φ' ({ fr with defers := jb, mode := .returning } : Frame) cs w' (uT.ext a2) rfl a4
    exact ⟨m', h2, φ2, w2, u, b1, a2.trans b2 a3, Nat.le_trans a3 b3, b4, b5, .head nB (Steps.trans a6 (.head om b6))⟩
   | some v =>
    have e1 : rec (.xT f args (.can v) h (MA rec ds k)) = true := e
    have hD : Fa P w0 f args (.can v) h (MA rec ds k) := cu _ e1
    have nB := step_defer (P := P) (w := w) (fr := fr) (cs := cs) (sJ.Mv hm) My rfl (Aj hD.1 _ _)
    obtain ⟨xS, h', φ', w', c', oo, v2, a1, a2, a3, a4, a5, a6, a7, a8⟩ := hD.2 φ _ w { fr with defers := jb } cs hl H hm
    have om := step_going_returned (P := P) (c := c') (cs := cs) a7 a8
    cases xS with
    | off => cases a1
    | can v3 =>
     obtain ⟨rfl, v', q1, q2⟩ := a5
     have bY : settle ({ fr with defers := jb } : Frame).mode = .panicking [{ v := v', recovered := false }] := by rw [q1]; rfl
     rw [bY] at om
     have hL : lT P w0 ds (some v3) h' k := cu _ a1
     obtain ⟨m', h2, φ2, w2, u, b1, b2, b3, b4, b5, b6⟩ := hL φ' ({ fr with defers := jb, mode := .panicking [{ v := v', recovered := false }] } : Frame) cs w' (uT.ext a2) ⟨v', rfl, q2⟩ a4
     exact ⟨m', h2, φ2, w2, u, b1, a2.trans b2 a3, Nat.le_trans a3 b3, b4, b5, .head nB (Steps.trans a6 (.head om b6))⟩
    | kH =>
     obtain ⟨v', q1, rfl⟩ := a5
     have hL : lT P w0 ds none h' k := cu _ a1
     obtain ⟨m', h2, φ2, w2, u, b1, b2, b3, b4, b5, b6⟩ := hL φ' ({ fr with defers := jb, mode := .returning } : Frame) cs w' (uT.ext a2) rfl a4
     exact ⟨m', h2, φ2, w2, u, b1, a2.trans b2 a3, Nat.le_trans a3 b3, b4, b5, .head nB (Steps.trans a6 (.head om b6))⟩
def kJ (f : FuncId) (kind : CallKind) : Frame := { (default : Frame) with fn := f, kind, roundOf := none }
theorem U6 {f : FuncId} {fn : Func} {c : Code} (hf : P.funcs[f]? = some fn) (hb : fn.body = some c) (args : Array Value) (kind : CallKind) :
 Frame.enter P f args kind = (kJ f kind).atR { tmps := args ++ Array.replicate (fn.ntmps - args.size) undef, defers := [] } [.code c] := by
 simp [Frame.enter, Frame.atR, hf, hb, kJ]
variable {prog : NT gB}
theorem qO.normal {rc : Rc} {b : Frame} {cs0 cs : List Frame} (h : qO φ rc b cs0 cs) (hb : b.kind = .normal) : cs = cs0 := by
 cases rc with
 | off => exact h.1
 | can v => exact h.1
 | kH => have h1 := h.1; rw [hb] at h1; cases h1
theorem MB {N : Nat} {f : FuncId} {fn : Func} {k : CR → AH → Bool} {fr : Frame} {cs : List Frame} {ds : List eB} {m : Option Value} {kl : Option Value → AH → Bool} {m0 : Machine}
 (hL : lT P w0 ds m h kl) (hd : DL φ ds fr.defers) (hm : sJ φ m fr.mode) (H : HR P w0 φ h w) (ju : fr.fn = f) (hf : P.funcs[f]? = some fn) (aez : fr.kind = .normal) (iz : Steps P m0 (lone fr cs w)) (hN : N ≤ h.nx)
 (MC : ∀ m' h', kl m' h' = true → (∃ v, m' = some v ∧ k (.aN v) h' = true) ∨ (m' = none ∧ (∀ φ' w', Ext h.nx φ φ' → HR P w0 φ' h' w' → ∃ v v', (Go.results fn fr.tmps).run P w' = .ok v' w' ∧ VR φ' v v' ∧ k (.ret v) h' = true))) :
 ∃ E w' oo, (∃ r h' φ', k r h' = true ∧ Ext N φ φ' ∧ N ≤ h'.nx ∧ HR P w0 φ' h' w' ∧ Af φ' r E) ∧ Comes P m0 (lone oo cs w') E ∧ oo.fn = f ∧ oo.leaving P w' E := by
 obtain ⟨m', h', φ', w', u, a1, a2, a3, a4, a5, a6⟩ := hL φ fr cs w hd hm H
 rcases MC m' h' a1 with ⟨v, rfl, hk⟩ | ⟨rfl, hk⟩
 · obtain ⟨v', rfl, hv⟩ := a5
   exact ⟨.panicked [{ v := v', recovered := false }], w', { fr with defers := [], mode := .panicking [{ v := v', recovered := false }] }, ⟨.aN v, h', φ', hk, a2.mono hN, Nat.le_trans hN a3, a4, v', rfl, hv⟩, Steps.trans iz a6, ju, rfl, rfl, fn, by rw [← hf, ← ju]⟩
 · have hu : u = .returning := a5
   subst hu
   obtain ⟨v, v', b1, b2, b3⟩ := hk φ' w' a2 a4
   exact ⟨.returned v', w', { fr with defers := [], mode := .returning }, ⟨.ret v, h', φ', b3, a2.mono hN, Nat.le_trans hN a3, a4, v', rfl, b2⟩, Steps.trans iz a6, ju, rfl, rfl, aez, fn, by rw [← hf, ← ju], b1⟩
theorem results_none {fn : Func} (hm : fn.results.toList.mapM (pL P) = some []) (tmps : Array Value) (w : World) : (results fn tmps).run P w = .ok (.tuple #[]) w := by
 have : fn.results = #[] := by
  cases hl : fn.results.toList with
  | nil => exact Array.toList_eq_nil_iff.1 hl
  | cons r rs =>
   rw [hl, List.mapM_cons] at hm
   cases hr : pL P r with
   | none => simp [hr] at hm
   | some a =>
    cases sP : rs.mapM (pL P) with
    | none => simp [hr, sP] at hm
    | some pH => simp [hr, sP] at hm
 simp [results, this, Sem.run_bind, Result.andThen]
theorem HR.forget (H : HR P w0 φ h w) {f : Nat} (hf : φ f = none) {h' : AH} (bY : h.ob.iy f none h'.ob) (iM : h'.nx = h.nx) : HR P w0 φ h' w := by
 refine ⟨H.inj, by rw [iM]; exact H.fresh, fun g hg => ?_, fun g hg => ?_, fun g b d n hg => ?_, H.below⟩
 · rw [iM] at hg
   by_cases c9 : g = f
   · subst c9; exact bY.1
   · rw [bY.2 g c9]; exact H.top g hg
 · have c9 : g ≠ f := fun e => by subst e; rw [hf] at hg; cases hg
   rw [bY.2 g c9]; exact H.dead g hg
 · have c9 : g ≠ f := fun e => by subst e; rw [hf] at hg; cases hg
   obtain ⟨o1, o2, a1, a2⟩ := H.obj g b d n hg
   exact ⟨o1, o2, by rw [bY.2 g c9]; exact a1, a2⟩
theorem Fu {ch : List Nat} : ∀ (n : Nat) {b : Nat} {φ : aE} {h : AH} {k : AH → Bool}, HR P w0 φ h w → Fv ch n b h k = true → ∃ φ' h', k h' = true ∧ HR P w0 φ' h' w ∧ h'.nx = h.nx ∧ ∀ N, Ext N φ φ'
 | 0, b, φ, h, k, H, e => ⟨φ, h, e, H, rfl, fun N => Ext.refl N φ⟩
 | n + 1, b, φ, h, k, H, e => by
  have e1 : fN (Nat.succ b) (fun b' => bif pN ch b then Fv ch n b' h k else fM h b none fun h => Fv ch n b' h k) = true := e
  rw [bT] at e1
  cases hm : pN ch b with
  | true => rw [hm, cond_true] at e1; exact Fu n H e1
  | false =>
   rw [hm, cond_false] at e1
   obtain ⟨aS, h1, h2⟩ := mF e1
   by_cases hb : φ b = none
   · obtain ⟨φ', h', a1, a2, a3, a4⟩ := Fu n (H.forget (h' := ⟨h.nx, aS⟩) hb h1 rfl) h2
     exact ⟨φ', h', a1, a2, a3, a4⟩
   · obtain ⟨φ', h', a1, a2, a3, a4⟩ := Fu n (H.kill (h' := ⟨h.nx, aS⟩) hb h1 rfl) h2
     exact ⟨φ', h', a1, a2, a3, fun N => (aE.Fw φ N b hb).trans (a4 N) (Nat.le_refl _)⟩
theorem Af.ext {N : Nat} {φ φ' : aE} (hE : Ext N φ φ') {r : CR} {E : _} (h : Af φ r E) : Af φ' r E := by
 cases r with
 | ret v => obtain ⟨v', h1, h2⟩ := h; exact ⟨v', h1, VR.ext hE h2⟩
 | aN v => obtain ⟨v', h1, h2⟩ := h; exact ⟨v', h1, VR.ext hE h2⟩
theorem gn.jn {det : Bool} {f : FuncId} {args : List Value} {k : CR → AH → Bool} (hC : gn P w0 f args h (jn det h k)) : gn P w0 f args h k := by
 refine ⟨hC.1, fun φ args' w hl H => Calls.mono (hC.2 φ args' w hl H) fun E w' hR => ?_⟩
 obtain ⟨r, h', φ', h1, h2, h3, h4, h5⟩ := hR
 cases det with
 | false => exact ⟨r, h', φ', h1, h2, h3, h4, h5⟩
 | true =>
  cases r with
  | aN v => exact ⟨_, h', φ', h1, h2, h3, h4, h5⟩
  | ret v =>
   have h1 : MD h k v h' = true := h1
   unfold MD at h1
   split at h1
   · exact ⟨_, h', φ', (bV h1).1, h2, h3, h4, h5⟩
   · rw [bT, bT] at h1
     obtain ⟨φ2, qQ, a1, a2, a3, a4⟩ := Fu _ h4 h1
     exact ⟨_, qQ, φ2, (bV a1).1, h2.trans (a4 _) (Nat.le_refl _), by rw [a3]; exact h3, a2, h5.ext (a4 0)⟩
def Fx (P : Program) (w0 : World) (sums : qW) : Prop := ∀ p ∈ sums, ∀ (args : List Value) (h : AH) (k : CR → AH → Bool), p.2 args h k = true → gn P w0 p.1 args h k
theorem U7 {rec : Task → Bool} (cu : ∀ t, rec t = true → c8 P w0 t) {f : FuncId} {af : gB} (AJ : bZ P f = some af) {args : List Value} {k : CR → AH → Bool} (e2 : qU 0 args .e (fun tm => rec (.code af.code ⟨f, af.ntmps, none⟩ ⟨tm, [], .off, h⟩ (AK rec af.results k))) = true) : gn P w0 f args h k := by
 obtain ⟨fn, c, hf, gp, hb, nC, ME, MG⟩ := Mu AJ
 obtain ⟨tm, e3, dN⟩ := U2 _ e2
 refine ⟨gp, fun φ args' w hl H cs => ?_⟩
 rw [U6 hf hb]
 have hC : c8 P w0 (.code af.code ⟨f, af.ntmps, none⟩ ⟨tm, [], .off, h⟩ (AK rec af.results k)) := cu _ e3
 rw [MG] at hC
 have MH := U3 (n := fn.ntmps) hl dN
 obtain ⟨x, s1, φ1, dU, a1, w1, g1, g2, g3, g4, g5⟩ := hC c ME φ (kJ f .normal) cs cs { tmps := args' ++ Array.replicate (fn.ntmps - args'.size) undef, defers := [] } w
  ⟨⟨.nil, ⟨rfl, .inl rfl⟩, H⟩, MH⟩ ⟨rfl, rfl⟩ (.code c) (.inl rfl) []
 have lV : h.nx ≤ s1.h.nx := g3
 cases x with
 | exit id => cases g1
 | normal =>
  have fR : SR P w0 φ1 ⟨f, fn.ntmps, none⟩ s1 (kJ f .normal) cs dU a1 w1 := g4
  have dY := fR.rc.normal rfl
  subst dY
  have hL : lT P w0 s1.df none s1.h (AL af.results s1.tm k) := cu _ g1
  obtain ⟨E, w', oo, ⟨r, h', φ', b1, b2, b3, b4, b5⟩, b6, b7, b8⟩ := MB (f := f) (fn := fn) (N := s1.h.nx) (k := k) (fr := { (kJ f .normal).atR a1 [] with mode := .returning }) (cs := dU) hL fR.df rfl fR.heap rfl hf rfl (Steps.trans g5 (.one (stepR_end rfl))) (Nat.le_refl _) (fun m' h' hk => by
   cases m' with
   | some v => exact .inl ⟨v, rfl, hk⟩
   | none => exact .inr ⟨rfl, fun φ' w' hE hH => U4 (fR.tm.ext hE) hH nC hk⟩)
  exact ⟨E, w', oo, ⟨r, h', φ', b1, g2.trans b2 lV, Nat.le_trans lV b3, b4, b5⟩, b6, b7, b8⟩
 | ret =>
  obtain ⟨k1, g5⟩ := g5
  have fR : SR P w0 φ1 ⟨f, fn.ntmps, none⟩ s1 (kJ f .normal) cs dU a1 w1 := g4
  have dY := fR.rc.normal rfl
  subst dY
  have hL : lT P w0 s1.df none s1.h (AL af.results s1.tm k) := cu _ g1
  obtain ⟨E, w', oo, ⟨r, h', φ', b1, b2, b3, b4, b5⟩, b6, b7, b8⟩ := MB (f := f) (fn := fn) (N := s1.h.nx) (k := k) (fr := { (kJ f .normal).atR a1 (.code .ret :: k1) with mode := .returning }) (cs := dU) hL fR.df rfl fR.heap rfl hf rfl (Steps.trans g5 (.one (stepR_ret rfl))) (Nat.le_refl _) (fun m' h' hk => by
   cases m' with
   | some v => exact .inl ⟨v, rfl, hk⟩
   | none => exact .inr ⟨rfl, fun φ' w' hE hH => U4 (fR.tm.ext hE) hH nC hk⟩)
  exact ⟨E, w', oo, ⟨r, h', φ', b1, g2.trans b2 lV, Nat.le_trans lV b3, b4, b5⟩, b6, b7, b8⟩
 | aN v =>
  obtain ⟨k1, v', hv, g5⟩ := g5
  have fR : SQ P w0 φ1 s1 (kJ f .normal) cs dU a1 w1 := g4
  have dY := fR.rc.normal rfl
  subst dY
  have hL : lT P w0 s1.df (some v) s1.h (U8 af.results k) := cu _ g1
  obtain ⟨E, w', oo, ⟨r, h', φ', b1, b2, b3, b4, b5⟩, b6, b7, b8⟩ := MB (f := f) (fn := fn) (N := s1.h.nx) (k := k) (fr := { (kJ f .normal).atR a1 k1 with mode := .panicking [{ v := v', recovered := false }] }) (cs := dU) hL fR.df ⟨v', rfl, hv⟩ fR.heap rfl hf rfl g5 (Nat.le_refl _) (fun m' h' hk => by
   cases m' with
   | some v => exact .inl ⟨v, rfl, hk⟩
   | none =>
    refine .inr ⟨rfl, fun φ' w' hE hH => ?_⟩
    have dM : (match af.results with | [] => k (.ret (.tuple ⟨[]⟩)) h' | _ => false) = true := hk
    split at dM
    · rename_i hr
      rw [hr] at nC
      exact ⟨_, _, results_none nC _ _, .fx ⟨[]⟩ #[] .nil, dM⟩
    · cases dM)
  exact ⟨E, w', oo, ⟨r, h', φ', b1, g2.trans b2 lV, Nat.le_trans lV b3, b4, b5⟩, b6, b7, b8⟩
theorem aeA (oq : ∀ f af, prog.get f = some af → bZ P f = some af) {rec : Task → Bool} (cu : ∀ t, rec t = true → c8 P w0 t) {f : FuncId} {args : List Value} {k0 : CR → AH → Bool} (e : U9 prog rec f args h k0 = true) : gn P w0 f args h k0 := by
 obtain ⟨af, AJ, e1⟩ := NT.uU _ _ _ (show NT.de prog f _ = true from e)
 exact gn.jn (det := af.det) (U7 cu (oq f af AJ) (by cases af; exact e1))
theorem Va (oq : ∀ f af, prog.get f = some af → bZ P f = some af) {rec : Task → Bool} (cu : ∀ t, rec t = true → c8 P w0 t) {f : FuncId} {args : List Value} {k : CR → AH → Bool} : ∀ {sums : qW}, Fx P w0 sums → Fy prog sums rec f args h k = true → gn P w0 f args h k
 | [], _, e => aeA oq cu e
 | (g, S) :: l, hs, e => by
  have e1 : (bif Nat.beq g f then S args h k else Fy prog l rec f args h k) = true := e
  by_cases hg : g = f
  · subst hg
    rw [j7 rfl, cond_true] at e1
    exact hs _ (.head _) _ _ _ e1
  · rw [eO hg, cond_false] at e1
    exact Va oq cu (fun p hp => hs p (.tail _ hp)) e1
theorem MI {df : List eB} {k : Bool} (h : sQ df k = true) : df = [] ∧ k = true := by cases df with | nil => exact ⟨rfl, h⟩ | cons _ _ => cases h
theorem aeB (oq : ∀ f af, prog.get f = some af → bZ P f = some af) {rec : Task → Bool} (cu : ∀ t, rec t = true → c8 P w0 t) {f : FuncId} {args : List Value} {rc : Rc} {k : Rc → AH → Bool} (e : Vb prog rec f args rc h k = true) : Fa P w0 f args rc h k := by
 obtain ⟨af, AJ, e1⟩ := NT.uU _ _ _ (show NT.de prog f _ = true from e)
 obtain ⟨fn, c, hf, gp, hb, nC, ME, MG⟩ := Mu (oq f af AJ)
 have e2 : af.results = [] ∧ qU 0 args .e (fun tm => rec (.code af.code ⟨f, af.ntmps, none⟩ ⟨tm, [], rc, h⟩ (MJ k))) = true := by
  cases af with
  | mk nt rs code det => cases rs with
   | nil => exact ⟨rfl, e1⟩
   | cons _ _ => cases e1
 obtain ⟨AM, e2⟩ := e2
 rw [AM] at nC
 obtain ⟨tm, e3, dN⟩ := U2 _ e2
 refine ⟨gp, fun φ args' w cl cs hl H jR => ?_⟩
 rw [U6 hf hb]
 have hC : c8 P w0 (.code af.code ⟨f, af.ntmps, none⟩ ⟨tm, [], rc, h⟩ (MJ k)) := cu _ e3
 rw [MG] at hC
 have MH := U3 (n := fn.ntmps) hl dN
 have Ar : qO φ rc (kJ f .deferred) (cl :: cs) (cl :: cs) := by
  cases rc with
  | off => exact ⟨rfl, .inr ⟨rfl, cl, cs, rfl, jR⟩⟩
  | can v => obtain ⟨v', q1, q2⟩ := jR; exact ⟨rfl, rfl, cl, cs, v', rfl, q1, q2⟩
  | kH => exact jR.elim
 obtain ⟨x, s1, φ1, dU, a1, w1, g1, g2, g3, g4, g5⟩ := hC c ME φ (kJ f .deferred) (cl :: cs) (cl :: cs) { tmps := args' ++ Array.replicate (fn.ntmps - args'.size) undef, defers := [] } w
  ⟨⟨.nil, Ar, H⟩, MH⟩ ⟨rfl, rfl⟩ (.code c) (.inl rfl) []
 have Fq : ∀ {dU : List Frame} {Fz : Rc}, qO φ1 Fz (kJ f .deferred) (cl :: cs) dU → ∃ c', dU = c' :: cs ∧ UE φ1 Fz cl c' := by
  intro dU Fz hr
  cases Fz with
  | off =>
   obtain ⟨rfl, hn | ⟨_, c1, rest, hc, hm⟩⟩ := hr
   · cases hn
   · cases hc; exact ⟨cl, rfl, rfl, hm⟩
  | can v => obtain ⟨rfl, _, c1, rest, v', hc, hm, hv⟩ := hr; cases hc; exact ⟨cl, rfl, rfl, v', hm, hv⟩
  | kH => obtain ⟨_, c1, rest, v', hc, hm, rfl⟩ := hr; cases hc; exact ⟨_, rfl, v', hm, rfl⟩
 cases x with
 | exit id => cases g1
 | aN v => cases g1
 | normal =>
  have fR : SR P w0 φ1 ⟨f, fn.ntmps, none⟩ s1 (kJ f .deferred) (cl :: cs) dU a1 w1 := g4
  obtain ⟨sN, hk⟩ := MI (show sQ s1.df (k s1.rc s1.h) = true from g1)
  obtain ⟨c', rfl, AN⟩ := Fq fR.rc
  have pO := fR.df
  rw [sN] at pO
  exact ⟨s1.rc, s1.h, φ1, w1, c', { (kJ f .deferred).atR a1 [] with mode := .returning }, _, hk, g2, g3, fR.heap, AN, Steps.trans g5 (.one (stepR_end rfl)), rfl, rfl, pO.vf, fn, hf, results_none nC _ _⟩
 | ret =>
  obtain ⟨k1, g5⟩ := g5
  have fR : SR P w0 φ1 ⟨f, fn.ntmps, none⟩ s1 (kJ f .deferred) (cl :: cs) dU a1 w1 := g4
  obtain ⟨sN, hk⟩ := MI (show sQ s1.df (k s1.rc s1.h) = true from g1)
  obtain ⟨c', rfl, AN⟩ := Fq fR.rc
  have pO := fR.df
  rw [sN] at pO
  exact ⟨s1.rc, s1.h, φ1, w1, c', { (kJ f .deferred).atR a1 (.code .ret :: k1) with mode := .returning }, _, hk, g2, g3, fR.heap, AN, Steps.trans g5 (.one (stepR_ret rfl)), rfl, rfl, pO.vf, fn, hf, results_none nC _ _⟩
end
end Go.Ve
namespace Go.Ve
open Go.RowKit
section
variable {P : Program} {w0 w : World} {φ : aE} {h : AH}
theorem aeC : ∀ (ps : List Tmp) {vs : List Value} {gQ : List Value} {t : PT} {n : Nat} {tm : Array Value} {k : PT → Bool}, (∀ p ∈ ps, p < n) → LR φ vs gQ → TR φ t n tm → x9 (ps.map Pos.of) vs t k = true →
 ps.length = gQ.length ∧ ∃ t', TR φ t' n ((ps.zip gQ).foldl (fun tmps (x : Tmp × Value) => tmps.setIfInBounds x.1 x.2) tm) ∧ k t' = true := by
 intro ps
 induction ps with
 | nil =>
  intro vs gQ t n tm k _ hl ht hk
  obtain ⟨hn, dM⟩ := sF (show a0 vs (k t) = true from hk)
  subst hn
  have := hl.vf
  subst this
  exact ⟨rfl, t, by simpa using ht, dM⟩
 | cons p ps ih =>
  intro vs gQ t n tm k hp hl ht hk
  cases hl with
  | nil => cases hk
  | cons v v' vs gQ hv hl =>
   have dM : PT.fW (Pos.of p) t v (fun t => x9 (ps.map Pos.of) vs t k) = true := hk
   rw [PT.lb] at dM
   have sR := ht.set (Pos.of p) (by rw [Pos.kD]; exact hp p (by simp)) hv
   rw [Pos.kD] at sR
   obtain ⟨h1, t', h2, h3⟩ := ih (fun q hq => hp q (by simp [hq])) hl sR dM
   exact ⟨by simp [h1], t', by simpa using h2, h3⟩
theorem aeD (ps : Array Tmp) (vs : Array Value) (tm : Array Value) : (ps.zip vs).foldl (fun tmps (t, a) => tmps.setIfInBounds t a) tm = (ps.toList.zip vs.toList).foldl (fun tmps (x : Tmp × Value) => tmps.setIfInBounds x.1 x.2) tm := by
 rw [← Array.foldl_toList]
 simp only [Array.toList_zip]
theorem MK (H : HR P w0 φ h w) {l l' : Nat} (hl : φ l ≠ none) (fP : ∀ b d n, φ l = some (.live b d n) → l' = b) {k : CR → AH → Bool} {j : Option Code} {st : LoopState} {b : Bool} (iz : st = if j.isNone then .ready else .done) (hb : b = j.isNone) (e : AP l h k j st b = true) :
 ∃ h' w', k (.ret (.bool b)) h' = true ∧ h.nx ≤ h'.nx ∧ HR P w0 φ h' w' ∧ (Instr.endRound l' j).run P w = .ok (.bool b) w' := by
 obtain ⟨r, h1, e1⟩ := AE e
 obtain ⟨aS, bY, e2⟩ := mF e1
 obtain ⟨b0, d, n, r', q1, q2, q3, q4⟩ := H.loop hl h1
 have := fP _ _ _ q1
 subst this
 have hU := q3.iK st j
 refine ⟨⟨h.nx, aS⟩, _, e2, Nat.le_refl _, H.Mk q1 q2 q4 bY hU, ?_⟩
 rw [run_endRound j q2, hb, iz]
theorem Vc {rec : Task → Bool} (cu : ∀ t, rec t = true → c8 P w0 t) {l : Nat} {args : List Value} {k : CR → AH → Bool} (e : Vd rec l args h k = true) : qP P w0 l args h k := by
 intro φ args' l' w hl hm nu H
 obtain ⟨r, h1, e1⟩ := AE e
 obtain ⟨b0, d, n, r', q1, q2, q3, q4⟩ := H.loop hm h1
 have hb0 := nu _ _ _ q1
 subst hb0
 rw [q3.params] at e1
 obtain ⟨hlen, tm, dN, e2⟩ := aeC _ q3.small hl q3.tm e1
 have ef : args'.size = r'.params.size := by simpa using hlen.symm
 refine ⟨r'.fn, _, r'.assign, r'.body, run_yield q2 ef, fun c cs => ?_⟩
 rw [aeD]
 generalize (r'.params.toList.zip args'.toList).foldl (fun tmps (x : Tmp × Value) => tmps.setIfInBounds x.1 x.2) r'.tmps = tmps at dN
 let b : Frame := { (default : Frame) with fn := r'.fn, kind := .normal, roundOf := some l' }
 have nD : Frame.round l' r'.fn tmps r'.assign r'.body .normal = b.atR { tmps := tmps, defers := [] } [.code r'.assign, .beginRound, .code r'.body] := by
  simp [Frame.round, Frame.atR, b]
 rw [nD]
 have hE : ∀ {φ' : aE}, Ext h.nx φ φ' → lk φ' ⟨r.fn, r.nt, some l⟩ b := fun {φ'} hE => ⟨q3.fn, rfl, l', rfl, hE.ch hm, fun b d n hh => nu b d n (hE.live hm hh)⟩
 have hC : c8 P w0 (.code r.assign ⟨r.fn, r.nt, some l⟩ ⟨tm, [], .off, h⟩ (ML rec l r k)) := cu _ e2
 obtain ⟨x, s1, φ1, dU, a1, w1, g1, g2, g3, g4, g5⟩ := hC r'.assign q3.assign φ b (c :: cs) (c :: cs) { tmps := tmps, defers := [] } w ⟨⟨.nil, ⟨rfl, .inl rfl⟩, H⟩, dN⟩ (hE (Ext.refl _ _)) _ (.inl rfl) [.beginRound, .code r'.body]
 cases x with
 | exit id => cases g1
 | ret => cases g1
 | aN v => cases g1
 | normal =>
  have fR : SR P w0 φ1 ⟨r.fn, r.nt, some l⟩ s1 b (c :: cs) dU a1 w1 := g4
  have dY := fR.rc.normal rfl
  subst dY
  obtain ⟨r2, k1, g6⟩ := AE (show mJ s1.h l _ = true from g1)
  obtain ⟨nE, g7⟩ := bV g6
  obtain ⟨aS, bY, g8⟩ := mF g7
  have hm1 : φ1 l ≠ none := g2.ch hm
  obtain ⟨b1, d1, n1, MM, u1, u2, u3, u4⟩ := fR.heap.loop hm1 k1
  have Vf := nu _ _ _ (g2.live hm u1)
  subst Vf
  have aeE : MM.state = .ready := by
   rw [u3.state]
   cases hh : r2.state <;> rw [hh] at nE <;> first | rfl | cases nE
  have hU := u3.iK .busy r2.dm
  rw [show ({ MM with state := .busy, pending := r2.dm } : Loop) = { MM with state := .busy } from by rw [← u3.dm]] at hU
  have H2 := fR.heap.Mk u1 u2 u4 bY hU
  have aeF := stepR_beginRound (P := P) (b := b) (a := a1) (k := [.code r'.body]) (cs := c :: cs) (l := l') rfl (run_beginRound u2 aeE)
  have hC2 : c8 P w0 (.code r.body ⟨r.fn, r.nt, some l⟩ ⟨s1.tm, s1.df, s1.rc, ⟨s1.h.nx, aS⟩⟩ (FA l k)) := cu _ g8
  obtain ⟨x, s2, φ2, MN, a2, w2, f1, f2, f3, f4, f5⟩ := hC2 r'.body q3.body φ1 b (c :: cs) (c :: cs) a1 _ ⟨⟨fR.df, fR.rc, H2⟩, fR.tm⟩ (hE g2) _ (.inl rfl) []
  obtain ⟨sN, f1⟩ := MI (show sQ s2.df _ = true from f1)
  have AQ : Ext h.nx φ φ2 := g2.trans f2 g3
  have AR : φ2 l ≠ none := AQ.ch hm
  have MO : ∀ b d n, φ2 l = some (.live b d n) → l' = b := fun b d n hh => nu b d n (AQ.live hm hh)
  have MP := Steps.trans g5 (.one aeF)
  have hN : h.nx ≤ s2.h.nx := Nat.le_trans g3 f3
  cases x with
  | aN v => cases f1
  | normal =>
   have sS : SR P w0 φ2 ⟨r.fn, r.nt, some l⟩ s2 b (c :: cs) MN a2 w2 := f4
   have dY := sS.rc.normal rfl
   subst dY
   obtain ⟨h', w', z1, z2, z3, z4⟩ := MK sS.heap AR MO rfl rfl f1
   exact ⟨_, _, h', φ2, w', z1, AQ, Nat.le_trans hN z2, z3, .bool true, Steps.trans MP (Steps.trans f5 (.one (stepR_round_end rfl rfl z4)))⟩
  | ret =>
   obtain ⟨k1, f5⟩ := f5
   have sS : SR P w0 φ2 ⟨r.fn, r.nt, some l⟩ s2 b (c :: cs) MN a2 w2 := f4
   have dY := sS.rc.normal rfl
   subst dY
   obtain ⟨h', w', z1, z2, z3, z4⟩ := MK sS.heap AR MO rfl rfl f1
   exact ⟨_, _, h', φ2, w', z1, AQ, Nat.le_trans hN z2, z3, .bool false, Steps.trans MP (Steps.trans f5 (.one (stepR_round_ret rfl rfl z4)))⟩
  | exit id =>
   obtain ⟨k1, Ml, f5⟩ := f5
   have sS : SR P w0 φ2 ⟨r.fn, r.nt, some l⟩ s2 b (c :: cs) MN a2 w2 := f4
   have dY := sS.rc.normal rfl
   subst dY
   obtain ⟨h', w', z1, z2, z3, z4⟩ := MK sS.heap AR MO rfl rfl f1
   exact ⟨_, _, h', φ2, w', z1, AQ, Nat.le_trans hN z2, z3, .bool false, Steps.trans MP (Steps.trans f5 (.one (stepR_round_exit rfl rfl (by rw [Ml]; rfl) z4)))⟩
end
end Go.Ve
namespace Go.Ve
open Go.RowKit
def ko (h h2 : AH) : Prop := ∀ f o, h.ob.get f = some o → h2.ob.get f = some o
theorem ko.refl (h : AH) : ko h h := fun _ _ e => e
theorem ko.trans {a b c : AH} (h : ko a b) (h' : ko b c) : ko a c := fun f o e => h' f o (h f o e)
def bg (X : AH → KV → Bool) : Prop := ∀ h k, X h k = true → ∃ v, k v h = true ∧ ∀ h2 k2, ko h h2 → k2 v h2 = true → X h2 k2 = true
theorem NT.Ba {α : Type} : ∀ (t : NT α) (i : Nat) (k : α → Bool) (x : α), t.get i = some x → t.de i k = k x
 | .e, i, k, x, h => by cases h
 | .n l v r, i, k, x, h => by
  rw [NT.LB]
  rw [NT.get] at h
  cases h0 : Nat.beq i 0 with
  | true => rw [h0] at h; have h' : v = some x := h; rw [h']; rfl
  | false =>
   rw [h0] at h
   cases h1 : Nat.beq (Nat.mod i 2) 1 with
   | true => rw [h1] at h; exact NT.Ba l _ k x h
   | false => rw [h1] at h; exact NT.Ba r _ k x h
theorem Nr {h : AH} {b : Nat} {o : AO} {k : AO → Bool} (e : h.ob.get b = some o) : mL h b k = k o := by
 cases h; exact NT.Ba _ _ _ _ e
theorem aeO : ∀ (n : Nat) {c : NT Value} {i : Nat} {l : List Value} {k : List Value → Bool}, l.length = n → (∀ j v, l[j]? = some v → c.get (i + j) = some v) → nG c i n k = k l := by
 intro n
 induction n with
 | zero => intro c i l k hl _; have : l = [] := List.length_eq_zero_iff.1 hl; subst this; rfl
 | succ n ih =>
  intro c i l k hl hc
  cases l with
  | nil => cases hl
  | cons v l =>
   have h0 : c.get i = some v := hc 0 v (by simp)
   show NT.de c i (fun v => fN (Nat.succ i) fun i' => nG c i' n fun l => k (v :: l)) = k (v :: l)
   rw [NT.Ba _ _ _ _ h0, bT]
   exact ih (by simpa using hl) (fun j u hj => by
    have := hc (j + 1) u (by simpa using hj)
    rw [show i + (j + 1) = Nat.succ i + j from by omega] at this
    exact this)
section
variable {X Y : AH → KV → Bool}
theorem kO (v : Value) : bg (fun h k => k v h) := fun _ _ e => ⟨v, e, fun _ _ _ e' => e'⟩
theorem da : bg (fun _ _ => false) := fun _ _ e => by cases e
theorem vv {c : Bool} (hx : bg X) : bg (fun h k => iff c (X h k)) := fun h k e => by
 obtain ⟨rfl, e1⟩ := bV e
 exact hx h k e1
theorem vw {c : Bool} (hx : bg X) (hy : bg Y) : bg (fun h k => bif c then X h k else Y h k) := by
 cases c
 · exact hy
 · exact hx
theorem VX {c : Bool} (hx : bg X) (hy : bg Y) : bg (fun h k => Bool.casesOn (motive := fun _ => Bool) c (X h k) (Y h k)) := by
 cases c
 · exact hx
 · exact hy
theorem VY {vs : List Value} (hx : bg X) : bg (fun h k => a0 vs (X h k)) := by
 cases vs with
 | nil => exact hx
 | cons _ _ => exact da
theorem FQ {vs : List Value} {X : Value → AH → KV → Bool} (hx : ∀ x, bg (X x)) : bg (fun h k => a1 vs (fun x => X x h k)) := by
 cases vs with
 | nil => exact da
 | cons x vs => exact VY (hx x)
theorem vx {vs : List Value} {X : Value → Value → AH → KV → Bool} (hx : ∀ x y, bg (X x y)) : bg (fun h k => a2 vs (fun x y => X x y h k)) := by
 cases vs with
 | nil => exact da
 | cons x vs => exact FQ (hx x)
theorem VZ {vs : List Value} {X : Value → Value → Value → AH → KV → Bool} (hx : ∀ x y z, bg (X x y z)) : bg (fun h k => a3 vs (fun x y z => X x y z h k)) := by
 cases vs with
 | nil => exact da
 | cons x vs => exact vx (hx x)
theorem Bb {n : Nat} {X : Nat → AH → KV → Bool} (hx : ∀ m, bg (X m)) : bg (fun h k => fN n (fun m => X m h k)) := by
 simp only [bT]; exact hx n
theorem FR {n : Int} {X : Int → AH → KV → Bool} (hx : ∀ m, bg (X m)) : bg (fun h k => fI n (fun m => X m h k)) := by
 simp only [ot]; exact hx n
theorem Bc {n : Bool} {X : Bool → AH → KV → Bool} (hx : ∀ m, bg (X m)) : bg (fun h k => fB n (fun m => X m h k)) := by
 simp only [ia]; exact hx n
theorem Ns {v : Value} {X : Nat → Nat → AH → KV → Bool} (hx : ∀ b o, bg (X b o)) : bg (fun h k => hZ v (fun b o => X b o h k)) := by
 cases v <;> first
  | exact da
  | (rename_i a; cases a with
   | none => exact da
   | some a => cases a; exact hx _ _)
theorem V0 {v : Value} {X : List Value → AH → KV → Bool} (hx : ∀ l, bg (X l)) : bg (fun h k => qY v (fun l => X l h k)) := by
 cases v <;> first
  | exact da
  | (rename_i a; cases a; exact hx _)
theorem V2 {v : Value} {X : List Value → AH → KV → Bool} (hx : ∀ l, bg (X l)) : bg (fun h k => FB v (fun l => X l h k)) := by
 cases v <;> first
  | exact da
  | (rename_i a; cases a; exact hx _)
theorem V3 {v : Value} {X : Bool → AH → KV → Bool} (hx : ∀ l, bg (X l)) : bg (fun h k => qZ v (fun l => X l h k)) := by
 cases v <;> first
  | exact da
  | exact hx _
theorem FU {v : Value} {X : IntKind → Int → AH → KV → Bool} (hx : ∀ kd n, bg (X kd n)) : bg (fun h k => jU v (fun kd n => X kd n h k)) := by
 cases v <;> first
  | exact da
  | exact hx _ _
theorem FV {v : Value} {X : Nat → AH → KV → Bool} (hx : ∀ n, bg (X n)) : bg (fun h k => nH v (fun n => X n h k)) := by
 cases v <;> first
  | exact da
  | (rename_i kd n; cases n <;> first | exact hx _ | exact da)
theorem Bd {v : Value} {X : ByteArray → AH → KV → Bool} (hx : ∀ l, bg (X l)) : bg (fun h k => iB v (fun l => X l h k)) := by
 cases v <;> first
  | exact da
  | exact hx _
theorem Nt {v : Value} {X : Nat → Nat → Nat → Nat → AH → KV → Bool} (hy : bg Y) (hx : ∀ b o l c, bg (X b o l c)) : bg (fun h k => jV v (Y h k) (fun b o l c => X b o l c h k)) := by
 cases v <;> first
  | exact da
  | (rename_i a l c; cases a with
   | none => exact hy
   | some a => cases a; exact hx _ _ _ _)
theorem V4 {v : Value} {X : Nat → AH → KV → Bool} (hy : bg Y) (hx : ∀ r, bg (X r)) : bg (fun h k => vn v (Y h k) (fun r => X r h k)) := by
 cases v <;> first
  | exact da
  | (rename_i a; cases a with
   | none => exact hy
   | some a => exact hx _)
theorem V5 {X : Value → AH → KV → Bool} (hx : ∀ v, bg (X v)) : ∀ {l : List Value} {n : Nat}, bg (fun h k => nF l n (fun v => X v h k)) := by
 intro l
 induction l with
 | nil => intro n; exact da
 | cons a l ih =>
  intro n
  cases n with
  | zero => exact hx a
  | succ n => exact ih
theorem V6 : ∀ {l : List Value} {n : Nat} {X : List Value → AH → KV → Bool}, (∀ v, bg (X v)) → bg (fun h k => pP l n (fun v => X v h k)) := by
 intro l
 induction l with
 | nil =>
  intro n X hx
  cases n with
  | zero => exact hx _
  | succ n => exact da
 | cons a l ih =>
  intro n X hx
  cases n with
  | zero => exact hx _
  | succ n => exact ih (X := fun v => X (a :: v)) fun v => hx _
theorem V7 {X : List Value → AH → KV → Bool} (hx : ∀ v, bg (X v)) : ∀ {l : List Value} {n : Nat}, bg (fun h k => pQ l n (fun v => X v h k)) := by
 intro l
 induction l with
 | nil =>
  intro n
  cases n with
  | zero => exact hx _
  | succ n => exact da
 | cons a l ih =>
  intro n
  cases n with
  | zero => exact hx _
  | succ n => exact ih
theorem V8 : ∀ {vs l : List Value} {X : List Value → AH → KV → Bool}, (∀ v, bg (X v)) → bg (fun h k => kK l vs (fun v => X v h k)) := by
 intro vs l
 induction l generalizing vs with
 | nil =>
  intro X hx
  cases vs with
  | nil => exact hx _
  | cons a vs => exact da
 | cons a l ih =>
  intro X hx
  cases vs with
  | nil => exact hx _
  | cons b vs => exact ih (X := fun v => X (b :: v)) fun v => hx _
theorem aeP : ∀ {l : List Value} {n : Nat} {vs : List Value} {X : List Value → AH → KV → Bool}, (∀ v, bg (X v)) → bg (fun h k => np l n vs (fun v => X v h k)) := by
 intro l
 induction l with
 | nil =>
  intro n vs X hx
  cases n with
  | zero => exact (V8 hx : bg (fun h k => kK [] vs (fun v => X v h k)))
  | succ n => exact da
 | cons a l ih =>
  intro n vs X hx
  cases n with
  | zero => exact (V8 hx : bg (fun h k => kK (a :: l) vs (fun v => X v h k)))
  | succ n => exact ih (X := fun v => X (a :: v)) fun v => hx _
theorem Nu : ∀ {l m : List Value} {X : List Value → AH → KV → Bool}, (∀ v, bg (X v)) → bg (fun h k => gO l m (fun v => X v h k)) := by
 intro l
 induction l with
 | nil => intro m X hx; exact hx _
 | cons a l ih => intro m X hx; exact ih (X := fun v => X (a :: v)) fun v => hx _
theorem Nv : ∀ {ps : List (Nat × Nat)} {l vs : List Value} {X : List Value → AH → KV → Bool}, (∀ v, bg (X v)) → bg (fun h k => iL l ps vs (fun v => X v h k)) := by
 intro ps
 induction ps with
 | nil =>
  intro l vs X hx
  cases vs with
  | nil => exact hx _
  | cons a vs => exact da
 | cons p ps ih =>
  intro l vs X hx
  cases vs with
  | nil => exact da
  | cons a vs =>
   obtain ⟨off, sz⟩ := p
   exact vw (aeP fun l' => ih hx) da
theorem V9 : ∀ {ss : List Nat} {vs : List Value} {X : List Value → AH → KV → Bool}, (∀ v, bg (X v)) → bg (fun h k => u9 ss vs (fun v => X v h k)) := by
 intro ss
 induction ss with
 | nil => intro vs X hx; exact VY (hx [])
 | cons n ss ih =>
  intro vs X hx
  cases vs with
  | nil => exact da
  | cons v vs => exact vv (ih (X := fun l h k => gO (cellsOf v) l fun l => X l h k) fun l => Nu hx)
theorem pT {b : Bool} {vs : List Value} {d : Nat} {X : Nat → List Value → AH → KV → Bool} (hx : ∀ n vs, bg (X n vs)) : bg (fun h k => nI b vs d (fun n vs => X n vs h k)) := by
 cases b with
 | false => exact hx _ _
 | true =>
  cases vs with
  | nil => exact da
  | cons v vs => exact FV fun n => hx n vs
theorem Nw {o : Option Bool} {ng : Bool} : bg (fun h k => q7 o ng (fun v => k v h)) := by
 cases o with
 | none => exact da
 | some b => exact Bc fun b => kO _
theorem Wa {b o : Nat} {X : Value → AH → KV → Bool} (hx : ∀ v, bg (X v)) : bg (fun h k => pM h b o (fun v => X v h k)) := fun h k e => by
 obtain ⟨lo, hi, ty, rw, c, v, h1, h2, h3, h4, h5⟩ := Ft e
 obtain ⟨u, hu, hr⟩ := hx v h k h5
 refine ⟨u, hu, fun hh k2 hle hk => ?_⟩
 show mL hh b _ = true
 rw [Nr (hle _ _ h1)]
 show iff (Nat.ble lo o && Nat.ble (Nat.succ o) hi) (NT.de c o fun v => X v hh k2) = true
 rw [NT.Ba _ _ _ _ h4, (iff_eq _ _)]
 exact ⟨by simp; exact ⟨h2, h3⟩, hr hh k2 hle hk⟩
theorem Wb {b o n : Nat} {X : List Value → AH → KV → Bool} (hx : ∀ v, bg (X v)) : bg (fun h k => kI h b o n (fun v => X v h k)) := fun h k e => by
 obtain ⟨lo, hi, ty, rw, c, l, h1, h2, h3, h4, h5, h6⟩ := sD e
 obtain ⟨u, hu, hr⟩ := hx l h k h6
 refine ⟨u, hu, fun hh k2 hle hk => ?_⟩
 show mL hh b _ = true
 rw [Nr (hle _ _ h1)]
 show iff (Nat.ble lo o && Nat.ble (Nat.add o n) hi) (nG c o n fun v => X v hh k2) = true
 rw [aeO n h4 h5, (iff_eq _ _)]
 exact ⟨by simp; exact ⟨h2, h3⟩, hr hh k2 hle hk⟩
theorem Wc {b : Nat} {X : List (Value × Value × Nat) → Nat → AH → KV → Bool} (hx : ∀ es cl, bg (X es cl)) : bg (fun h k => jA h b (fun es cl => X es cl h k)) := fun h k e => by
 obtain ⟨es, cl, h1, h2⟩ := uY e
 obtain ⟨u, hu, hr⟩ := hx es cl h k h2
 refine ⟨u, hu, fun hh k2 hle hk => ?_⟩
 show mL hh b _ = true
 rw [Nr (hle _ _ h1)]
 exact hr hh k2 hle hk
theorem Wd {kc : Nat} {X : Option Value → AH → KV → Bool} (hx : ∀ v, bg (X v)) : ∀ {es : List (Value × Value × Nat)} {x : Value}, bg (fun h k => uX kc es x (fun v => X v h k)) := by
  intro es x
  induction es with
  | nil => exact hx none
  | cons p es ih =>
    obtain ⟨a, v, n⟩ := p
    cases hq : lh kc x a with
    | none => simp only [uX, hq]; exact da
    | some t => cases t <;> simp only [uX, hq]
                · exact ih
                · exact hx _
theorem We {zero : Value} {ok : Bool} {o : Option Value} : bg (fun h k => EZ zero ok h k o) := by
 cases o <;> cases ok <;> exact kO _
end
theorem Wf {sz l h m cap : Nat} {MS : Bool} {b o : Nat} : bg (fun hh k => q8 sz l h m cap MS b o (fun v => k v hh)) := by
 unfold q8; repeat (first | exact kO _ | exact da | exact Nw | exact We | apply vv | apply vw | apply VX | apply FQ | apply vx | apply VZ | apply Bb | apply FR | apply Bc | apply Ns | apply V0 | apply V2 | apply V3 | apply FV | apply FU | apply Bd | apply Nt | apply V4 | apply V5 | apply V6 | apply V7 | apply Nu | apply Nv | apply V9 | apply pT | apply Wa | apply Wb | apply Wc | apply Wd | (intro _))
theorem aeQ {x y : Option Bool} {ng : Bool} : bg (fun h k => AU x y ng (fun v => k v h)) := by
 cases x with
 | none => cases y <;> exact da
 | some a =>
  cases y with
  | none => cases a <;> exact da
  | some b => cases a <;> cases b <;> simp only [AU] <;> first | exact Nw | exact da
theorem aeR {op : BinOp} {a b : ByteArray} : bg (fun h k => MU op a b (fun v => k v h)) := by
 cases op <;> first | exact da | exact Bc fun _ => kO _
theorem aeS {op : BinOp} {kd : IntKind} {a b : Int} : bg (fun h k => MQ op kd a b (fun v => k v h)) := by
 cases op <;> first
  | exact da
  | exact Bc fun _ => kO _
  | exact FR fun _ => kO _
  | exact vw da (FR fun _ => kO _)
  | (cases kd <;> first
   | exact da
   | (cases a <;> cases b <;> first | exact da | exact vw (Bb fun _ => kO _) da))
theorem aeT {kd : IntKind} {a b : Int} : bg (fun h k => MR kd a b (fun v => k v h)) := by
 cases kd <;> first
  | exact da
  | (cases a <;> cases b <;> first | exact da | exact vw (Bb fun _ => kO _) da)
theorem aeU {op : BinOp} {kx ky : IntKind} {a b : Int} : bg (fun h k => MT op kx a ky b (fun v => k v h)) := by
 cases op <;> first
  | exact da
  | exact aeT
  | exact vv aeS
theorem aeV {ty : TypeId} {zero x : Value} : bg (fun h k => LZ ty zero x (fun v => k v h)) := by
 cases x <;> first
  | exact da
  | exact kO _
  | exact vw (kO _) (kO _)
theorem Wg (p : Prim) (ha : p.sW = false) (hm : p.makes = false) (vs : List Value) : bg (fun h k => p.ev vs h k) := by
 cases p
 case alloc => cases hm
 case box => cases hm
 case buildSlice => cases hm
 case store => cases ha
 case T0 =>
  change bg (fun h k => FD vs h k); unfold FD
  refine vx fun x i => FV fun i => Bd fun s => ?_
  cases s.data.toList[i]? with
  | none => exact da
  | some c => exact Bb fun _ => kO _
 case slice sz lo hi mx =>
  change bg (fun h k => AV sz lo hi mx vs h k); unfold AV
  cases vs with
  | nil => exact da
  | cons x vs => exact Nt (pT fun _ _ => pT fun _ _ => vv (kO _)) fun b o len cap => pT fun l vs => pT fun hh vs => pT fun m vs => vv Wf
 case T1 n sz lo hi mx =>
  change bg (fun h k => AW n sz lo hi mx vs h k); unfold AW
  cases vs with
  | nil => exact da
  | cons x vs => exact Ns fun b o => pT fun l vs => pT fun hh vs => pT fun m vs => vv Wf
 case aL op => change bg (fun h k => FE op vs h k); unfold FE; exact vx fun x y => FU fun _ _ => FU fun _ _ => aeU
 case T2 op => change bg (fun h k => FF op vs h k); unfold FF; exact vx fun x y => Bd fun _ => Bd fun _ => aeR
 case oc nk ng => change bg (fun h k => FG nk ng vs h k); unfold FG; exact vx fun x y => aeQ
 case mkMap => cases ha
 case mkSlice => cases ha
 case pv => cases ha
 case append => cases ha
 case copy => cases ha
 case T4 t z => change bg (fun h k => E6 t z vs h k); unfold E6; exact FQ fun x => aeV
 case LF => cases ha
 case LG => cases ha
 case x e => cases ha
 all_goals (simp only [Prim.ev, MV, MW, Vw, Vx, MX, MY, MZ, M0, M1, M3, M4, M5, M6, M7, Vz, M8, M9, Na, Nb, Nc, Nd, Nf, LW, Ng, Nh, Ni, Nj, Nk, LK, LM]; repeat (first | exact kO _ | exact da | exact Nw | exact We | apply vv | apply vw | apply VX | apply FQ | apply vx | apply VZ | apply Bb | apply FR | apply Bc | apply Ns | apply V0 | apply V2 | apply V3 | apply FV | apply FU | apply Bd | apply Nt | apply V4 | apply V5 | apply V6 | apply V7 | apply Nu | apply Nv | apply V9 | apply pT | apply Wa | apply Wb | apply Wc | apply Wd | (intro _)))
end Go.Ve
namespace Go.Ve
open Go.RowKit
def iP (v u : Value) : Prop := ∀ φ x, VR φ v x ↔ VR φ u x
def mM (l m : List Value) : Prop := ∀ φ x, LR φ l x ↔ LR φ m x
theorem iP.refl (v : Value) : iP v v := fun _ _ => Iff.rfl
theorem mM.refl (v : List Value) : mM v v := fun _ _ => Iff.rfl
theorem iP.of_eq {v u : Value} (h : v = u) : iP v u := h ▸ iP.refl v
theorem AtR.same {φ : aE} {a b x : Addr} (h1 : a.block = b.block) (h2 : a.off = b.off) (h : AtR φ a x) : AtR φ b x := fun bl d n hb => by
 have := h bl d n (by rw [h1]; exact hb)
 rw [h2] at this; exact this
theorem qF.same {φ : aE} {a b x : Addr} {len cap cH : Nat} (h1 : a.block = b.block) (h2 : a.off = b.off) (h : qF φ a x len cap cH) : qF φ b x len cap cH := by
 rcases h with ⟨h3, h4, h5, h6⟩ | ⟨sz, h3, h4, h5, h6⟩
 · exact .inl ⟨h3, h4, h5, fun hp => (h6 hp).same h1 h2⟩
 · exact .inr ⟨sz, h3, h4, h5, fun hp => ⟨(h6 hp).1.same h1 h2, fun bl d n hb => (h6 hp).2 bl d n (by rw [h1]; exact hb)⟩⟩
theorem iP.ptr {a b : Addr} (h1 : a.block = b.block) (h2 : a.off = b.off) : iP (.pointer (some a)) (.pointer (some b)) := fun φ x => by
 constructor
 · intro h; cases h with | ptr _ a' q1 q2 => exact .ptr _ _ (h1 ▸ q1) (q2.same h1 h2)
 · intro h; cases h with | ptr _ a' q1 q2 => exact .ptr _ _ (h1 ▸ q1) (q2.same h1.symm h2.symm)
theorem iP.sl {a b : Addr} {l c : Nat} (h1 : a.block = b.block) (h2 : a.off = b.off) : iP (.slice (some a) l c) (.slice (some b) l c) := fun φ x => by
 constructor
 · intro h; cases h with | sl _ a' _ _ _ q1 q2 => exact .sl _ _ _ _ _ (h1 ▸ q1) (q2.same h1 h2)
 · intro h; cases h with | sl _ a' _ _ _ q1 q2 => exact .sl _ _ _ _ _ (h1 ▸ q1) (q2.same h1.symm h2.symm)
theorem mM.cons {a b : Value} {l m : List Value} (h : iP a b) (hl : mM l m) : mM (a :: l) (b :: m) := fun φ x => by
 constructor
 · intro h'; cases h' with | cons _ _ _ _ q1 q2 => exact .cons _ _ _ _ ((h _ _).1 q1) ((hl _ _).1 q2)
 · intro h'; cases h' with | cons _ _ _ _ q1 q2 => exact .cons _ _ _ _ ((h _ _).2 q1) ((hl _ _).2 q2)
theorem iP.agg {l m : List Value} (h : mM l m) : iP (.agg ⟨l⟩) (.agg ⟨m⟩) := fun φ x => by
 constructor
 · intro h'; cases h' with | agg _ _ q1 => exact .agg _ _ ((h _ _).1 q1)
 · intro h'; cases h' with | agg _ _ q1 => exact .agg _ _ ((h _ _).2 q1)
theorem iP.fx {l m : List Value} (h : mM l m) : iP (.tuple ⟨l⟩) (.tuple ⟨m⟩) := fun φ x => by
 constructor
 · intro h'; cases h' with | fx _ _ q1 => exact .fx _ _ ((h _ _).1 q1)
 · intro h'; cases h' with | fx _ _ q1 => exact .fx _ _ ((h _ _).2 q1)
theorem iP.func {fn : Fn} {a b c d : List Value} (h1 : mM a c) (h2 : mM b d) : iP (.func fn ⟨a⟩ ⟨b⟩) (.func fn ⟨c⟩ ⟨d⟩) := fun φ x => by
 constructor
 · intro h'; cases h' with | func _ _ _ _ _ _ q0 q1 q2 => exact .func _ _ _ _ _ _ q0 ((h1 _ _).1 q1) ((h2 _ _).1 q2)
 · intro h'; cases h' with | func _ _ _ _ _ _ q0 q1 q2 => exact .func _ _ _ _ _ _ q0 ((h1 _ _).2 q1) ((h2 _ _).2 q2)
theorem Wh {a b : Value} (h : FO a b = true) : iP a b := by
 unfold FO at h
 split at h
 · rename_i x y; exact .of_eq (by cases x <;> cases y <;> first | rfl | cases h)
 · rename_i kd x kd' y
   cases hk : fy kd kd' with
   | false => rw [hk] at h; cases h
   | true =>
    rw [hk] at h
    have h' : lq x y = true := h
    rw [qL] at h'
    have := mD hk
    have h'' : x = y := by simpa using h'
    exact .of_eq (by rw [this, h''])
 · rename_i x y
   rw [Nx] at h
   have : x.data.toList = y.data.toList := by simpa using h
   have h2 : x = y := by cases x; cases y; simp only at this; congr 1; exact Array.toList_inj.1 this
   exact .of_eq (by rw [h2])
 · exact .refl _
 · simp only [Bool.and_eq_true, Nat.beq_eq] at h
   exact .ptr h.1 h.2
 · simp only [Bool.and_eq_true, Nat.beq_eq] at h
   exact .of_eq (by rw [h.1, h.2])
 · simp only [Bool.and_eq_true, Nat.beq_eq] at h
   obtain ⟨⟨⟨h1, h2⟩, h3⟩, h4⟩ := h
   subst h3; subst h4
   exact .sl h1 h2
 · exact .refl _
 · simp only [Nat.beq_eq] at h
   exact .of_eq (by rw [h])
 · exact .refl _
 · exact .refl _
 · cases h
theorem Ny : ∀ {l m : List Value}, A7 l m = true → mM l m
 | [], [], _ => .refl _
 | a :: l, b :: m, h => by
  simp only [A7, Bool.and_eq_true] at h
  exact .cons (Wh h.1) (Ny h.2)
 | [], _ :: _, h => by cases h
 | _ :: _, [], h => by cases h
theorem Wi {a b : Value} (h : FP a b = true) : iP a b := by
 unfold FP at h
 split at h
 · simp only [Bool.and_eq_true, Nat.beq_eq] at h
   obtain ⟨⟨h1, h2⟩, h3⟩ := h
   subst h1
   exact .func (Ny h2) (Ny h3)
 · exact Wh h
theorem FW : ∀ {l m : List Value}, vt l m = true → mM l m
 | [], [], _ => .refl _
 | a :: l, b :: m, h => by
  simp only [vt, Bool.and_eq_true] at h
  exact .cons (Wi h.1) (FW h.2)
 | [], _ :: _, h => by cases h
 | _ :: _, [], h => by cases h
theorem aeW {a b : Value} (h : rf a b = true) : iP a b := by
 unfold rf at h
 split at h
 · exact .agg (FW h)
 · exact .fx (FW h)
 · exact Wi h
noncomputable def kP (g : Option (Pos × Bool)) (t : PT) : Bool := ny g t true false
def ib (t : PT) : dL → Value
 | .t p => t.get p
 | .c v => v
theorem Nz (g : Option (Pos × Bool)) (t : PT) (yes no : Bool) : ny g t yes no = bif kP g t then yes else no := by
 cases g with
 | none => rfl
 | some pw =>
  obtain ⟨p, want⟩ := pw
  show PT.de p t (vg want yes no) = bif PT.de p t (vg want true false) then yes else no
  rw [PT.jv, PT.jv]
  unfold vg
  split
  · cases lU _ want <;> rfl
  · rfl
theorem NA (o : dL) (t : PT) (k : Value → Bool) : qT o t k = k (ib t o) := by
 cases o with
 | t p => exact PT.jv p t k
 | c v => rfl
theorem yd (t : PT) : ∀ (l : List dL) (k : List Value → Bool), nw l t k = k (l.map (ib t))
 | [], k => rfl
 | o :: l, k => by
  show qT o t (fun v => nw l t fun vs => k (v :: vs)) = _
  rw [NA, yd t l]
  rfl
theorem Be (d : Option Pos) (s : St) (v : Value) (h : AH) (k : St → Bool) : gR d s v h k = k ⟨match d with | none => s.tm | some p => s.tm.set p v, s.df, s.rc, h⟩ := by
 cases d with
 | none => rfl
 | some p => exact PT.lb p s.tm v _
def Prim.made (p : Prim) (b : Nat) : Value := match p with
 | .buildSlice _ n _ _ => .slice (some ⟨b, 0, none⟩) n n
 | _ => aC b 0
theorem Wj : ∀ (ps : List (Nat × Nat)) (l vs : List Value) (k : List Value → Bool), iL l ps vs k = true → ∃ m, k m = true ∧ ∀ k2, k2 m = true → iL l ps vs k2 = true := by
 intro ps l vs k h
 have hD := Nv (ps := ps) (l := l) (vs := vs) (X := fun m h k => k (.agg ⟨m⟩) h) (fun m => kO _)
 obtain ⟨v, h1, h2⟩ := hD ⟨0, .e⟩ (fun v _ => match v with | .agg ⟨m⟩ => k m | _ => false) h
 cases v with
 | agg a =>
  obtain ⟨m⟩ := a
  exact ⟨m, h1, fun k2 hk => h2 ⟨0, .e⟩ (fun v _ => match v with | .agg ⟨m⟩ => k2 m | _ => false) (ko.refl _) hk⟩
 | _ => cases h1
end Go.Ve
namespace Go.Ve
open Go.RowKit
section
variable {P : Program} {w0 w : World} {φ : aE} {h : AH} {ρ : Operand → Value} {o : Oper} {vs : List Value}
def Bf (p : Prim) (vs : List Value) (ty : TypeId) (l : List Value) : Prop := ∀ k2 : TypeId → List Value → Bool, k2 ty l = true → p.fresh vs k2 = true
theorem aeX {p : Prim} {k : TypeId → List Value → Bool} (e : p.fresh vs k = true) : ∃ ty l, k ty l = true ∧ Bf p vs ty l := by
 cases p with
 | alloc ty zero =>
  obtain ⟨rfl, e1⟩ := sF (show a0 vs (k ty zero) = true from e)
  exact ⟨ty, zero, e1, fun k2 hk => hk⟩
 | box ty =>
  obtain ⟨v, rfl, e1⟩ := dX (show a1 vs (fun v => k ty (cellsOf v)) = true from e)
  exact ⟨ty, cellsOf v, e1, fun k2 hk => hk⟩
 | buildSlice ty n cells places =>
  obtain ⟨m, e1, e2⟩ := Wj _ _ _ _ (show iL cells places vs (fun l => k ty l) = true from e)
  exact ⟨ty, m, e1, fun k2 hk => e2 (fun l => k2 ty l) hk⟩
 | _ => cases e
theorem aeY {p : Prim} (hm : p.makes = true) {k : KV} (e : p.ev vs h k = true) : ∃ ty l c aS, Bf p vs ty l ∧ (∀ v ∈ l, dZ v = true) ∧ (∀ j v, l[j]? = some v → c.get j = some v) ∧ h.ob.iy h.nx (some (.cells 0 l.length ty true c)) aS ∧ k (p.made h.nx) ⟨h.nx + 1, aS⟩ = true := by
 cases p with
 | alloc ty zero =>
  obtain ⟨rfl, e1⟩ := sF (show a0 vs _ = true from e)
  obtain ⟨h1, c, aS, h2, h3, h4⟩ := qK e1
  exact ⟨ty, zero, c, aS, fun k2 hk => hk, h1, h2, h3, h4⟩
 | box ty =>
  obtain ⟨v, rfl, e1⟩ := dX (show a1 vs _ = true from e)
  obtain ⟨h1, c, aS, h2, h3, h4⟩ := qK e1
  exact ⟨ty, cellsOf v, c, aS, fun k2 hk => hk, h1, h2, h3, h4⟩
 | buildSlice ty n cells places =>
  obtain ⟨m, e1, e2⟩ := Wj _ _ _ _ (show iL cells places vs _ = true from e)
  obtain ⟨h1, c, aS, h2, h3, h4⟩ := qK e1
  exact ⟨ty, m, c, aS, fun k2 hk => e2 (fun l => k2 ty l) hk, h1, h2, h3, h4⟩
 | _ => cases hm
theorem Wn {p : Prim} {xs : List Operand} (hc : lj P o = some (.aO p, xs)) (hm : p.makes = true) :
 (∃ ty z, o.op = .alloc ty ∧ zeroOf P ty = some z ∧ p = .alloc ty z.cells.toList ∧ xs = []) ∨ (∃ ty x, o.op = .box ty x ∧ p = .box ty ∧ xs = [x]) ∨
 (∃ t e' n s parts z, o.op = .buildSlice t n parts ∧ P.underlying t = some (.slice e') ∧ zeroOf P e' = some z ∧ dV P e' = some s ∧ n * s ≤ 65536 ∧ z.cells.size = s ∧ 0 < s ∧
  p = .buildSlice e' n (iY n z.cells.toList) (parts.toList.map fun p => (p.1 * s, s)) ∧ xs = parts.toList.map (·.2)) := by
 cases aQ : o.op <;> simp only [lj, aQ] at hc
 case alloc ty =>
  split at hc
  · rename_i z hz; cases hc; exact .inl ⟨ty, z, rfl, hz, rfl, rfl⟩
  · cases hc
 case box ty x => cases hc; exact .inr (.inl ⟨ty, x, rfl, rfl, rfl⟩)
 case buildSlice t len parts =>
  split at hc
  · rename_i e' hu
    split at hc
    · rename_i s z hs hz
      split at hc
      · rename_i hg
        cases hc
        simp only [Bool.and_eq_true, decide_eq_true_eq, beq_iff_eq] at hg
        exact .inr (.inr ⟨t, e', len, s, parts, z, rfl, hu, hz, hs, hg.1.1, hg.1.2, hg.2, rfl, rfl⟩)
      · cases hc
    · cases hc
  · cases hc
 all_goals ((repeat' split at hc) <;> first | (cases hc; done) | (cases hc; cases hm; done) | (cases hc; unfold vd at hm; split at hm <;> cases hm))
theorem aeZ {p : Prim} {xs : List Operand} {ty : TypeId} {l : List Value} (hc : lj P o = some (.aO p, xs)) (hm : p.makes = true) (hv : LR φ vs (xs.map ρ)) (hf : Bf p vs ty l) :
    ∃ l', LR φ l l' ∧ (execOp ρ o).run P w = .ok (.value (p.made w.heap.size)) (w.alloc (.cells l'.toArray ty)) := by
  classical
  have hd := hf (fun bU l' => decide (bU = ty ∧ l' = l)) (by simp)
  rcases Wn hc hm with ⟨bU, z, ho, hz, rfl, rfl⟩ | ⟨bU, x, ho, rfl, rfl⟩ | ⟨t, e', n, s, parts, z, ho, hu, hz, hs, hle, lg, h0, rfl, rfl⟩
  · obtain ⟨rfl, e1⟩ := sF (show a0 vs _ = true from hd)
    obtain ⟨rfl, rfl⟩ : bU = ty ∧ z.cells.toList = l := by simpa using e1
    obtain ⟨i, hi, hz, eD⟩ := nj hz
    refine ⟨z.cells.toList, VR.cells (oh eD), ?_⟩
    simp [execOp, ho, Instr.alloc, pE hi hz, newVar, newRow, World.alloc_eq, Prim.made, aC]
  · obtain ⟨v, rfl, e1⟩ := dX (show a1 vs (fun v => decide (bU = ty ∧ cellsOf v = l)) = true from hd)
    obtain ⟨rfl, rfl⟩ : bU = ty ∧ cellsOf v = l := by simpa using e1
    obtain ⟨a', ha, hr⟩ := hv.one
    simp at ha; subst ha
    rw [xL]
    refine ⟨_, VR.cells hr, ?_⟩
    simp [execOp, ho, Instr.box, newVar, newRow, World.alloc_eq, Prim.made, aC]
  · obtain ⟨i, hi, lR, eD⟩ := nj hz
    obtain ⟨i2, eP, qH⟩ := kG hs
    rw [hi] at eP; cases eP
    subst qH
    have mH : (parts.map fun (i, x) => (i, ρ x)).toList.map (fun p => some (p.1 * i.size, i.size)) = (parts.toList.map fun p => (p.1 * i.size, i.size)).map some := by simp [Function.comp_def]
    have nq : LR φ vs ((parts.map fun (i, x) => (i, ρ x)).toList.map (·.2)) := by simpa [Function.comp_def] using hv
    obtain ⟨r, r', q1, q2, q3⟩ := E8 (place := fun j => some (j * i.size, i.size)) (show iL _ _ vs (fun l' => decide (e' = ty ∧ l' = l)) = true from hd) (LR.EY (VR.cells (oh (φ := φ) eD)) n) nq mH
    obtain ⟨rfl, rfl⟩ : e' = ty ∧ r = l := by simpa using q1
    have gC : ((Array.range (n * i.size)).map fun j => z.cells[j % z.cells.size]!) = (iY n z.cells.toList).toArray := by
      apply Array.ext'
      have := LV z.cells (by omega) n
      rw [← lg]
      simpa [madeCells] using this
    have sH : Instr.fill (fun j => some (j * i.size, i.size)) (iY n z.cells.toList).toArray (List.map (fun x => (x.fst, ρ x.snd)) parts.toList) = some r'.toArray := by simpa using q3
    refine ⟨r', q2, ?_⟩
    have Ab : ¬ (16777216 < n * i.size) := by omega
    simp only [execOp, ho, Instr.buildSlice, Sem.run_bind, run_underlying hu, Result.andThen_ok, iJ hi]
    by_cases lS : n * i.size = 0
    · have Ac : ((Array.range (n * i.size)).map fun j => (#[] : Array Value)[j % (#[] : Array Value).size]!) = (iY n z.cells.toList).toArray := by
        rw [← gC, lS]; simp [Array.range_zero']
      simp [Ab, lS]
      simp [lS] at Ac
      rw [Ac]
      rw [sH]
      simp [newRow, World.alloc_eq, Prim.made]
    · simp [Ab, lS, pE hi lR]
      rw [gC, sH]
      simp [newRow, World.alloc_eq, Prim.made]
theorem ae0 {p : Prim} {xs : List Operand} (hc : lj P o = some (.aO p, xs)) (hm : p.makes = true) (f B n : Nat) : VR (φ.put f (.live B 0 n)) (p.made f) (p.made B) := by
 rcases Wn hc hm with ⟨bU, z, ho, hz, rfl, rfl⟩ | ⟨bU, x, ho, rfl, rfl⟩ | ⟨t, e', n', s, parts, z, ho, hu, hz, hs, hle, lg, h0, rfl, rfl⟩
 · exact PR.xK
 · exact PR.xK
 · refine .sl _ _ _ _ _ (by simp [aE.put]) (.inl ⟨by unfold aU; have : n' ≤ n' * s := Nat.le_mul_of_pos_right n' h0; omega, rfl, Nat.le_refl _, fun _ b d m hl => ?_⟩)
   simp only [aE.gP] at hl
   cases hl
   exact ⟨rfl, rfl, rfl⟩
theorem ae1 {p : Prim} (b : Nat) (k : Nat → Bool) : Np (p.made b) k = k b := by
 unfold Prim.made
 split <;> rfl
end
end Go.Ve
namespace Go.Ve
open Go.RowKit
section
variable {P : Program} {w0 w : World} {φ : aE} {nt : Nat} {ops : Array Oper} {as : Array bf}
theorem ae2 {α β : Type} {f : α → Option β} : ∀ {xs : List α} {ys : List β}, xs.mapM f = some ys → ys.length = xs.length ∧ ∀ (i : Nat) (x : α), xs[i]? = some x → ∃ y, ys[i]? = some y ∧ f x = some y := by
 intro xs
 induction xs with
 | nil => intro ys h; simp at h; subst h; exact ⟨rfl, fun i x hx => by simp at hx⟩
 | cons a xs ih =>
  intro ys h
  rw [List.mapM_cons] at h
  cases ha : f a with
  | none => simp [ha] at h
  | some b =>
   cases hs : xs.mapM f with
   | none => simp [ha, hs] at h
   | some bs =>
    simp [ha, hs] at h
    subst h
    obtain ⟨h1, h2⟩ := ih hs
    refine ⟨by simp [h1], fun i x hx => ?_⟩
    cases i with
    | zero => simp at hx; subst hx; exact ⟨b, by simp, ha⟩
    | succ i => simp at hx; obtain ⟨y, h3, h4⟩ := h2 i x hx; exact ⟨y, by simpa using h3, h4⟩
structure lY (P : Program) (nt : Nat) (ops : Array Oper) (as : Array bf) : Prop where
 size : as.size = ops.size
 get : ∀ (i : Nat) (o : Oper), ops[i]? = some o → ∃ ao, as[i]? = some ao ∧ mI P nt ops o = some ao
theorem ae3 {l : List bf} (h : Aw P nt ops = some l) : lY P nt ops l.toArray := by
 obtain ⟨h1, h2⟩ := ae2 h
 refine ⟨by simpa using h1, fun i o ho => ?_⟩
 obtain ⟨y, h3, h4⟩ := h2 i o (by simpa using ho)
 exact ⟨y, by simpa using h3, h4⟩
theorem lY.op (h : lY P nt ops as) {i : Nat} {ao : bf} (ha : as[i]? = some ao) : ∃ o, ops[i]? = some o ∧ mI P nt ops o = some ao := by
 have bG : i < ops.size := by rw [← h.size]; exact (Array.getElem?_eq_some_iff.1 ha).1
 obtain ⟨Bg, h1, h2⟩ := h.get i ops[i] (by simp [bG])
 rw [ha] at h1; cases h1
 exact ⟨ops[i], by simp [bG], h2⟩
theorem lY.lt (h : lY P nt ops as) {i : Nat} {ao : bf} (ha : as[i]? = some ao) : i < ops.size := by rw [← h.size]; exact (Array.getElem?_eq_some_iff.1 ha).1
def ic (as : Array bf) (j : Nat) : Option Pos := (as[j]?).bind (·.dst)
theorem Wo {l : List Pos} {p : Pos} : FX l p = true ↔ p ∈ l := by
 unfold FX
 rw [List.any_eq_true]
 constructor
 · rintro ⟨x, h1, h2⟩; rw [Pos.beq_iff.1 h2]; exact h1
 · intro h; exact ⟨p, h, Pos.beq_iff.2 rfl⟩
theorem Wp (hr : lY P nt ops as) (h : rh ops as = true) {i j : Nat} {d : Pos} (hi : ic as i = some d) (hj : ic as j = some d) : i = j := by
 unfold ic at hi hj
 cases dO : as[i]? with
 | none => rw [dO] at hi; cases hi
 | some ai =>
  cases dW : as[j]? with
  | none => rw [dW] at hj; cases hj
  | some aj =>
   have h1 := List.all_eq_true.1 h j (List.mem_range.2 (hr.lt dW))
   rw [hj] at h1
   have h2 := List.all_eq_true.1 h1 i (List.mem_range.2 (hr.lt dO))
   simp only [dO] at h2
   rw [dO] at hi
   have cz : ai.dst = some d := hi
   simp only [cz, Bool.and_eq_true, Bool.or_eq_true, beq_iff_eq] at h2
   rcases h2.1 with h3 | h3
   · exact h3
   · rw [Pos.beq_iff.2 rfl] at h3; cases h3
theorem ae4 (hr : lY P nt ops as) (h : rh ops as = true) {i j : Nat} {a : bf} {d : Pos} (hi : as[i]? = some a) (hd : d ∈ a.reads) (hj : ic as j = some d) : i = j ∨ j ∈ ep ops i ∨ i ∈ ep ops j := by
 cases dW : as[j]? with
 | none => unfold ic at hj; rw [dW] at hj; cases hj
 | some aj =>
  have h1 := List.all_eq_true.1 h j (List.mem_range.2 (hr.lt dW))
  unfold ic at hj
  rw [hj] at h1
  have h2 := List.all_eq_true.1 h1 i (List.mem_range.2 (hr.lt hi))
  simp only [hi, Bool.and_eq_true, Bool.or_eq_true, beq_iff_eq, Wo.2 hd, Bool.not_true, Bool.false_eq_true, false_or, List.contains_iff_mem] at h2
  rcases h2.2 with (h3 | h3) | h3
  · exact .inl h3
  · exact .inr (.inl h3)
  · exact .inr (.inr h3)
theorem ND (hr : lY P nt ops as) {i j : Nat} {a : bf} {d : Pos} (hi : as[i]? = some a) (hd : d ∈ a.reads) (hj : ic as j = some d) (hn : j ∉ ep ops i) : pU ops as j = true := by
 unfold ic at hj
 cases dW : as[j]? with
 | none => rw [dW] at hj; cases hj
 | some aj =>
  unfold pU
  rw [dW]
  have : NF ops as j = true := by
   unfold NF
   rw [hj]
   refine List.any_eq_true.2 ⟨i, List.mem_range.2 (hr.lt hi), ?_⟩
   simp only [hi, Wo.2 hd, Bool.true_and, Bool.not_eq_true', List.contains_eq_mem, decide_eq_false_iff_not]
   exact hn
  simp [this]
theorem Wq {j : Nat} (h : pU ops as j = false) : ∃ a d, as[j]? = some a ∧ a.act.sW = false ∧ a.dst = some d := by
 unfold pU at h
 cases dW : as[j]? with
 | none => rw [dW] at h; cases h
 | some a =>
  rw [dW] at h
  simp only [Bool.or_eq_false_iff] at h
  cases hd : a.dst with
  | none => rw [hd] at h; simp at h
  | some d => exact ⟨a, d, rfl, h.1.1, hd⟩
theorem ae5 {a : iH} (h : a.sW = false) : ∃ p, a = .aO p ∧ p.sW = false := by
 cases a with
 | aO p => exact ⟨p, rfl, h⟩
 | _ => cases h
inductive ri (ops : Array Oper) : List Nat → Prop where
 | nil : ri ops []
 | cons (i : Nat) (l : List Nat) (h1 : i ∉ l) (h2 : ∀ p ∈ ep ops i, p ∈ l) (hl : ri ops l) : ri ops (i :: l)
theorem ri.closed {l : List Nat} (h : ri ops l) : ∀ j ∈ l, ∀ p ∈ ep ops j, p ∈ l := by
 induction h with
 | nil => intro j hj; cases hj
 | cons i l h1 h2 hl ih =>
  intro j hj p hp
  rcases List.mem_cons.1 hj with rfl | hj
  · exact List.mem_cons_of_mem _ (h2 p hp)
  · exact List.mem_cons_of_mem _ (ih j hj p hp)
theorem ri.first {l : List Nat} (h : ri ops l) {u : Nat → Bool} : (∃ x ∈ l, u x = true) → ∃ r ∈ l, u r = true ∧ ∀ p ∈ ep ops r, u p = false := by
 induction h with
 | nil => rintro ⟨x, hx, _⟩; cases hx
 | cons i l h1 h2 hl ih =>
  rintro ⟨x, hx, hu⟩
  by_cases hex : ∃ y ∈ l, u y = true
  · obtain ⟨r, q1, q2, q3⟩ := ih hex
    exact ⟨r, List.mem_cons_of_mem _ q1, q2, q3⟩
  · rcases List.mem_cons.1 hx with rfl | hx
    · refine ⟨x, List.mem_cons_self, hu, fun p hp => ?_⟩
      cases hup : u p with
      | false => rfl
      | true => exact absurd ⟨p, h2 p hp, hup⟩ hex
    · exact absurd ⟨x, hx, hu⟩ hex
theorem ae6 {good : Nat → Prop} (hg : ∀ j, good j → ∀ p ∈ ep ops j, good p) : ∀ (done S : List Nat), (∀ j ∈ S, good j) → ∀ j ∈ sX ops S done, good j := by
 intro done
 induction done with
 | nil => intro S hS j hj; exact hS j hj
 | cons i done ih =>
  intro S hS j hj
  unfold sX at hj
  split at hj
  · rename_i hc
    have hi := hS i (by simpa using hc)
    exact ih _ (fun q hq => by
     rcases List.mem_append.1 hq with hq | hq
     · exact hg i hi q hq
     · exact hS q hq) j hj
  · exact ih _ hS j hj
theorem ae7 {e : Env} {s : St} {k : KS} {rec : Task → Bool} {r : List iI} : ∀ {late : List Nat} {cs : List iI}, Bh as late = some cs → nA rec (cs ++ r) e s k = true → (∀ j ∈ late, ∃ a, as[j]? = some a ∧ yc a s = true) ∧ nA rec r e s k = true := by
 intro late
 induction late with
 | nil => intro cs hc h; cases hc; exact ⟨fun j hj => (by cases hj), h⟩
 | cons j late ih =>
  intro cs hc h
  unfold Bh at hc
  split at hc
  · rename_i a r' ha hr
    cases hc
    obtain ⟨h1, h2⟩ := bV (show iff (yc a s) (nA rec (r' ++ r) e s k) = true from h)
    obtain ⟨h3, h4⟩ := ih hr h2
    refine ⟨fun i hi => ?_, h4⟩
    rcases List.mem_cons.1 hi with rfl | hi
    · exact ⟨a, ha, h1⟩
    · exact h3 i hi
  · cases hc
end
end Go.Ve
namespace Go.Ve
open Go.RowKit
section
variable {P : Program} {w0 w : World} {φ : aE} {nt : Nat} {ops : Array Oper} {as : Array bf} {s : St} {b : Frame} {cs0 cs : List Frame} {a : Act} {o : Oper} {ao : bf} {d : Pos} {N : Nat}
inductive nJ (N : Nat) (s : St) (φ : aE) (ao : bf) (d : Pos) : Prop where
 | off (h : kP ao.guard s.tm = false) (hu : s.tm.get d = undef)
 | val (p : Prim) (h : kP ao.guard s.tm = true) (ha : ao.act = .aO p) (pV : p.sW = false) (hm : p.makes = false) (v : Value) (hv : iP v (s.tm.get d))
  (hd : ∀ h2 k2, ko s.h h2 → k2 v h2 = true → p.ev (ao.args.map (ib s.tm)) h2 k2 = true)
 | made (p : Prim) (h : kP ao.guard s.tm = true) (ha : ao.act = .aO p) (hm : p.makes = true) (f : Nat) (ty : TypeId) (l m : List Value) (c : NT Value) (hf : Bf p (ao.args.map (ib s.tm)) ty l)
  (hs : s.tm.get d = p.made f) (ho : s.h.ob.get f = some (.cells 0 l.length ty true c)) (hc : ∀ (j : Nat) (v : Value), m[j]? = some v → c.get j = some v) (sY : mM l m) (hlen : m.length = l.length) (hφ : φ f = none) (hn : f < s.h.nx) (hN : N ≤ f)
def rj (s : St) (ao : bf) (d : Pos) (f : Nat) : Prop := ∃ p, ao.act = .aO p ∧ p.makes = true ∧ kP ao.guard s.tm = true ∧ s.tm.get d = p.made f
theorem Wr {p q : Prim} {f g : Nat} (h : p.made f = q.made g) : f = g := by
 unfold Prim.made aC at h
 split at h <;> split at h <;> first | (cases h; rfl) | cases h
theorem ae8 {i : Nat} (hc : mI P nt ops o = some ao) (hr : ∀ p ∈ ao.reads, VR φ (s.tm.get p) (a.tmps.getD p.un undef)) : Region.wanted o (yielded ops a.tmps) = kP ao.guard s.tm := by
  obtain ⟨act, xs, args, h1, h2, rfl, rfl, h4, h5⟩ := xV hc
  rcases h5 with ⟨g1, g2⟩ | ⟨g, want, t, g1, g2, g3⟩
  · rw [g2]; simp [Region.wanted, g1]; rfl
  · have hp : VR φ (s.tm.get (Pos.of t)) (a.tmps.getD t undef) := by
      have := hr (Pos.of t) (by unfold bf.reads; rw [g3]; simp)
      rw [Pos.kD] at this
      exact this
    rw [g3]
    cases hw : kP (some (Pos.of t, want)) s.tm with
    | true =>
      rcases Mf (φ := φ) (yes := true) (no := false) g1 g2 hp hw with ⟨q, _⟩ | ⟨_, q⟩
      · exact q
      · cases q
    | false =>
      have lr : ny (some (Pos.of t, want)) s.tm false true = true := by rw [Nz, hw]; rfl
      rcases Mf (φ := φ) g1 g2 hp lr with ⟨_, q⟩ | ⟨q, _⟩
      · cases q
      · exact q
theorem ae9 {xs : List Operand} {ys : List dL} (hm : xs.mapM nv = some ys) (hr : ∀ p, dL.t p ∈ ys → VR φ (s.tm.get p) (a.tmps.getD p.un undef)) : LR φ (ys.map (ib s.tm)) (xs.map a.eval) := by
 classical
 obtain ⟨vs, h1, h2⟩ := UL (a := a) (s := s) (φ := φ) (k := fun vs => decide (vs = ys.map (ib s.tm))) hm hr (by rw [yd]; simp)
 have : vs = ys.map (ib s.tm) := by simpa using h2
 rw [← this]; exact h1
theorem afa {i : Nat} {rest : List Nat} {todo : List Item} (hc : mI P nt ops o = some ao) (ho : ops[i]? = some o) (hr : ∀ p ∈ ao.reads, VR φ (s.tm.get p) (a.tmps.getD p.un undef)) (H : HR P w0 φ s.h w) (hp : nJ N s φ ao d) :
 ∃ v' w' φ', Steps P (lone (b.atR a (.inRegion ops (i :: rest) :: todo)) cs w) (lone (b.atR (a.put o.dst v') (.inRegion ops rest :: todo)) cs w') ∧ VR φ' (s.tm.get d) v' ∧ HR P w0 φ' s.h w' ∧ (N ≤ s.h.nx → Ext N φ φ') ∧
  (∀ f, f < s.h.nx → φ f = none → ¬ rj s ao d f → φ' f = none) := by
 classical
 have hg := ae8 (i := i) hc hr
 obtain ⟨act, xs, args, h1, h2, rfl, rfl, h4, h5⟩ := xV hc
 have jt : LR φ (ao.args.map (ib s.tm)) (xs.map a.eval) := ae9 h2 fun p hp => hr p (by
  unfold bf.reads
  exact List.mem_append_left _ (List.mem_filterMap.2 ⟨.t p, hp, rfl⟩))
 cases hp with
 | off hw hu =>
  rw [hw] at hg
  refine ⟨undef, w, φ, .one ?_, by rw [hu]; exact VR.undef φ, H, fun _ => Ext.refl _ _, fun f _ h _ => h⟩
  have := stepR_op_skip (P := P) (b := b) (a := a) (k := todo) (cs := cs) (w := w) (ops := ops) (i := i) (rest := rest) (by simp [ho, hg])
  rw [ho] at this
  exact this
 | val p hw ha pV hm v hv hd =>
  rw [hw] at hg
  rw [ha] at h1
  rcases h1 with h1 | ⟨h1, _⟩
  rotate_left
  · cases h1; cases pV
  obtain ⟨v', w', u, h', φ', q1, q2, q3, q4, q5, q6⟩ := Uu (fun _ => rfl) h1 H jt (hd s.h (fun u h' => decide (u = v ∧ h' = s.h)) (ko.refl _) (by simp))
  obtain ⟨rfl, rfl⟩ : u = v ∧ h' = s.h := by simpa using q2
  refine ⟨v', w', φ', ?_, (hv _ _).1 q5, q6, fun hN => q3.mono hN, fun f hf h _ => q3.out f hf h⟩
  have hs := qR (b := b) (a := a) (Ma h1)
  rcases q1 with q1 | ⟨q1, rfl⟩
  · exact .one (L7 ho hg (by rw [hs]; exact q1))
  · exact .one (UC ho hg (by rw [hs]; exact q1))
 | made p hw ha hm f ty l m c hf FY hob NG sY hlen hφ hn hN =>
  rw [hw] at hg
  rw [ha] at h1
  rcases h1 with h1 | ⟨h1, _⟩
  rotate_left
  · cases h1; cases hm
  obtain ⟨l', fP, bO⟩ := aeZ (w := w) h1 hm jt hf
  have rk : LR φ m l' := (sY _ _).1 fP
  have anr : l.length = l'.length := fP.length
  obtain ⟨H2, hE⟩ := H.newAt (f := f) (h' := s.h) (o' := .cells l'.toArray ty) (d := 0) (n := l'.length) hφ hob (fun _ _ _ => rfl) H.fresh H.top hn N hN (.cells _ _ _ _ _ _ _ _ _ (fun _ => rfl) (Nat.le_refl _) (by simp) fun q _ hq => by
   have Ws : q < m.length := by omega
   obtain ⟨u, hu, hru⟩ := LR.get rk q _ (List.getElem?_eq_getElem Ws)
   exact ⟨m[q], u, NG q _ (List.getElem?_eq_getElem Ws), by simpa using hu, hru⟩)
  refine ⟨p.made w.heap.size, _, _, .one (L7 ho hg (by rw [qR (Ma h1)]; exact bO)), ?_, H2, fun _ => hE, fun g ou h cS => ?_⟩
  · rw [FY]; exact ae0 h1 hm _ _ _
  · have : g ≠ f := fun e => cS ⟨p, ha, hm, hw, by rw [e]; exact FY⟩
    rw [aE.gT _ _ this]; exact h
end
end Go.Ve
namespace Go.Ve
open Go.RowKit
section
variable {P : Program} {w0 w : World} {φ : aE} {nt : Nat} {ops : Array Oper} {as : Array bf} {s : St} {b : Frame} {cs0 cs : List Frame} {a : Act} {N : Nat} {done dm : List Nat} {L : Array Bool}
structure Inv (P : Program) (w0 : World) (N nt : Nat) (ops : Array Oper) (as : Array bf) (b : Frame) (cs0 : List Frame) (done dm : List Nat) (L : Array Bool) (φ : aE) (s : St) (cs : List Frame) (a : Act) (w : World) : Prop where
 size : L.size = ops.size
 sub : ∀ j, L.getD j false = true → j ∈ done
 late : ∀ j ∈ done, L.getD j false = false → j ∈ dm
 ye : ∀ j ∈ dm, pU ops as j = false ∧ j ∈ done
 closed : ∀ j, L.getD j false = true → ∀ p ∈ ep ops j, L.getD p false = true
 vy : ri ops done
 lt : ∀ j ∈ done, j < ops.size
 sq : SQ P w0 φ s b cs0 cs a w
 sZ : nt ≤ a.tmps.size
 yf : ∀ p : Pos, (∀ j ∈ done, L.getD j false = false → ic as j ≠ some p) → VR φ (s.tm.get p) (a.tmps.getD p.un undef)
 prom : ∀ j ∈ done, L.getD j false = false → ∀ (ao : bf) (d : Pos), as[j]? = some ao → ao.dst = some d → nJ N s φ ao d
 FZ : ∀ i ∈ done, ∀ j ∈ done, L.getD i false = false → L.getD j false = false → i ≠ j → ∀ (ao Bg : bf) (d d' : Pos) (f : Nat), as[i]? = some ao → as[j]? = some Bg → ao.dst = some d → Bg.dst = some d' → rj s ao d f → rj s Bg d' f → False
 nx : N ≤ s.h.nx
theorem Inv.reads (I : Inv P w0 N nt ops as b cs0 done dm L φ s cs a w) (hr : lY P nt ops as) (hs : rh ops as = true) {i : Nat} {ao : bf} (hi : as[i]? = some ao) (hb : ∀ p ∈ ep ops i, L.getD p false = true) (lu : i ∈ done → pU ops as i = false) (p : Pos) (hp : p ∈ ao.reads) :
 VR φ (s.tm.get p) (a.tmps.getD p.un undef) := by
 refine I.yf p fun j hj jW nz => ?_
 by_cases Wt : j ∈ ep ops i
 · rw [hb j Wt] at jW; cases jW
 · have Wu := ND hr hi hp nz Wt
   rw [(I.ye j (I.late j hj jW)).1] at Wu
   cases Wu
theorem vz (L : Array Bool) (i j : Nat) (hi : i < L.size) : (L.setIfInBounds i true).getD j false = if j = i then true else L.getD j false := by
 by_cases h : j = i
 · subst h; simp [hi]
 · rw [if_neg h]; exact getD_set_ne false (Ne.symm h)
theorem nJ.ext {N : Nat} {φ' : aE} {ao : bf} {d : Pos} (h : nJ N s φ ao d) (hE : ∀ f, f < s.h.nx → φ f = none → rj s ao d f → φ' f = none) : nJ N s φ' ao d := by
 cases h with
 | off h hu => exact .off h hu
 | val p h ha pV hm v hv hd => exact .val p h ha pV hm v hv hd
 | made p h ha hm f ty l m c hf hs ho hc sY hlen hφ hn hN => exact .made p h ha hm f ty l m c hf hs ho hc sY hlen (hE f hn hφ ⟨p, ha, hm, h, hs⟩) hn hN
theorem Inv.exec (I : Inv P w0 N nt ops as b cs0 done dm L φ s cs a w) (hr : lY P nt ops as) (hs : rh ops as = true) {i : Nat} (hi : i ∈ done) (jW : L.getD i false = false) (hb : ∀ p ∈ ep ops i, L.getD p false = true) {rest : List Nat} {todo : List Item} :
 ∃ φ' a' w', Steps P (lone (b.atR a (.inRegion ops (i :: rest) :: todo)) cs w) (lone (b.atR a' (.inRegion ops rest :: todo)) cs w') ∧ Ext N φ φ' ∧ Inv P w0 N nt ops as b cs0 done dm (L.setIfInBounds i true) φ' s cs a' w' := by
 have bG := I.lt i hi
 have lu := (I.ye i (I.late i hi jW)).1
 obtain ⟨ao, d, dO, Wv, hd⟩ := Wq lu
 obtain ⟨o, ho, hc⟩ := hr.op dO
 have hP := I.prom i hi jW ao d dO hd
 obtain ⟨v', w', φ', h1, h2, h3, h4, h5⟩ := afa (b := b) (cs := cs) (rest := rest) (todo := todo) hc ho (I.reads hr hs dO hb (fun _ => lu)) I.sq.heap hP
 have hE := h4 I.nx
 obtain ⟨act, xs, args, e1, e2, e3, e4, e5, e6⟩ := xV hc
 obtain ⟨dn, Av, F0, nK⟩ : ∃ dn, o.dst = some dn ∧ dn < nt ∧ d = Pos.of dn := by
  rcases e5 with ⟨_, q⟩ | ⟨dn, q1, q2, q3⟩
  · rw [q] at hd; cases hd
  · rw [q3] at hd; cases hd; exact ⟨dn, q1, q2, rfl⟩
 have Ww : d.un = dn := by rw [nK, Pos.kD]
 have nz : ic as i = some d := by unfold ic; rw [dO]; exact hd
 have bY := fun j => vz L i j (by rw [I.size]; exact bG)
 refine ⟨φ', a.put o.dst v', w', h1, hE, ?_⟩
 refine ⟨by simp [I.size], ?_, ?_, I.ye, ?_, I.vy, I.lt, ⟨by rw [Act.Fg]; exact I.sq.df.ext hE, I.sq.rc.ext hE, h3⟩, by rw [Av]; simpa [Act.put] using I.sZ, ?_, ?_, ?_, I.nx⟩
 · intro j hj
   rw [bY] at hj
   split at hj
   · rename_i e; rw [e]; exact hi
   · exact I.sub j hj
 · intro j hj hu
   rw [bY] at hu
   split at hu
   · cases hu
   · exact I.late j hj hu
 · intro j hj p hp
   rw [bY] at hj ⊢
   split at hj
   · rename_i e
     subst e
     split
     · rfl
     · exact hb p hp
   · split
     · rfl
     · exact I.closed j hj p hp
 · intro p hp
   rw [Av]
   by_cases lZ : p = d
   · subst lZ
     have ef : dn < a.tmps.size := Nat.lt_of_lt_of_le F0 I.sZ
     have : (a.put (some dn) v').tmps.getD p.un undef = v' := by rw [Ww]; simp [Act.put, ef]
     rw [this]; exact h2
   · have cS : dn ≠ p.un := fun e => lZ (Pos.sx (by rw [Ww, e]))
     have : (a.put (some dn) v').tmps.getD p.un undef = a.tmps.getD p.un undef := by
      simp [Act.put, Array.getD_eq_getD_getElem?, Array.getElem?_setIfInBounds_ne cS]
     rw [this]
     refine VR.ext hE (I.yf p fun j hj hu => ?_)
     by_cases vA : j = i
     · rw [vA, nz]; intro e; cases e; exact lZ rfl
     · exact hp j hj (by rw [bY, if_neg vA]; exact hu)
 · intro j hj hu aj dj dW jc
   rw [bY] at hu
   split at hu
   · cases hu
   · rename_i cS
     exact (I.prom j hj hu aj dj dW jc).ext fun f hf hn hM => h5 f hf hn fun hM' => I.FZ j hj i hi hu jW cS aj ao dj d f dW dO jc hd hM hM'
 · intro i1 Bi j1 Bj mN ki cS
   rw [bY] at mN ki
   split at mN
   · cases mN
   · split at ki
     · cases ki
     · exact I.FZ i1 Bi j1 Bj mN ki cS
end
end Go.Ve
namespace Go.Ve
open Go.RowKit
section
variable {P : Program} {w0 w : World} {φ : aE} {nt : Nat} {ops : Array Oper} {as : Array bf} {s : St} {b : Frame} {cs0 cs : List Frame} {a : Act} {N : Nat} {done dm : List Nat} {L : Array Bool}
theorem yg {ao : bf} {t t' : PT} (h : ∀ p ∈ ao.reads, t.get p = t'.get p) : kP ao.guard t = kP ao.guard t' := by
 cases hg : ao.guard with
 | none => rfl
 | some pw =>
  obtain ⟨p, want⟩ := pw
  have := h p (by unfold bf.reads; rw [hg]; simp)
  show PT.de p t _ = PT.de p t' _
  rw [PT.jv, PT.jv, this]
theorem F4 {ao : bf} {t t' : PT} (h : ∀ p ∈ ao.reads, t.get p = t'.get p) : ao.args.map (ib t) = ao.args.map (ib t') := by
 refine List.map_congr_left fun x hx => ?_
 cases x with
 | c v => rfl
 | t p => exact h p (by unfold bf.reads; exact List.mem_append_left _ (List.mem_filterMap.2 ⟨.t p, hx, rfl⟩))
theorem nJ.state {ao : bf} {d : Pos} {s' : St} (h : nJ N s φ ao d) (hr : ∀ p ∈ ao.reads, s.tm.get p = s'.tm.get p) (hd : s.tm.get d = s'.tm.get d) (hle : ko s.h s'.h) (iM : s.h.nx ≤ s'.h.nx) : nJ N s' φ ao d := by
 have h1 := yg hr
 have h2 := F4 hr
 cases h with
 | off h hu => exact .off (h1 ▸ h) (hd ▸ hu)
 | val p h ha pV hm v hv NH => exact .val p (h1 ▸ h) ha pV hm v (hd ▸ hv) (fun hh k2 hl hk => h2 ▸ NH hh k2 (hle.trans hl) hk)
 | made p h ha hm f ty l m c hf hs ho hc sY hlen hφ hn hN => exact .made p (h1 ▸ h) ha hm f ty l m c (h2 ▸ hf) (hd ▸ hs) (hle _ _ ho) hc sY hlen hφ (Nat.lt_of_lt_of_le hn iM) hN
theorem rj.state {ao : bf} {d : Pos} {f : Nat} {s' : St} (h : rj s' ao d f) (hr : ∀ p ∈ ao.reads, s.tm.get p = s'.tm.get p) (hd : s.tm.get d = s'.tm.get d) : rj s ao d f := by
 obtain ⟨p, h1, h2, h3, h4⟩ := h
 exact ⟨p, h1, h2, by rw [yg hr]; exact h3, by rw [hd]; exact h4⟩
theorem Inv.grow (I : Inv P w0 N nt ops as b cs0 done dm L φ s cs a w) (hr : lY P nt ops as) (hs : rh ops as = true) {i : Nat} {ao : bf} {d : Pos} (hid : i ∉ done) (hb : ∀ p ∈ ep ops i, p ∈ done) (dO : as[i]? = some ao) (hd : ao.dst = some d) (lu : pU ops as i = false)
    {s' : St} {v : Value} (dN : s'.tm = s.tm.set d v) (sN : s'.df = s.df) (jR : s'.rc = s.rc) (H : HR P w0 φ s'.h w) (hle : ko s.h s'.h) (iM : s.h.nx ≤ s'.h.nx) (hP : nJ N s' φ ao d) (hM : ∀ f, rj s' ao d f → s.h.nx ≤ f) :
    Inv P w0 N nt ops as b cs0 (i :: done) (i :: dm) L φ s' cs a w := by
  have nz : ic as i = some d := by unfold ic; rw [dO]; exact hd
  have jW : L.getD i false = false := by
    cases h : L.getD i false with
    | false => rfl
    | true => exact absurd (I.sub i h) hid
  have get : ∀ p, p ≠ d → s.tm.get p = s'.tm.get p := fun p hp => by rw [dN, PT.c7, if_neg hp]
  have ta : ∀ j ∈ done, ∀ aj : bf, as[j]? = some aj → ∀ p ∈ aj.reads, s.tm.get p = s'.tm.get p := fun j hj aj dW p hp => get p fun e => by
    subst e
    by_cases F5 : i ∈ ep ops j
    · exact hid (I.vy.closed j hj i F5)
    · have := ND hr dW hp nz F5
      rw [lu] at this; cases this
  have tc : ∀ j ∈ done, ∀ (aj : bf) (dj : Pos), as[j]? = some aj → aj.dst = some dj → s.tm.get dj = s'.tm.get dj := fun j hj aj dj dW jc => get dj fun e => by
    subst e
    have NI : ic as j = some dj := by unfold ic; rw [dW]; exact jc
    have := Wp hr hs NI nz
    subst this
    exact hid hj
  refine ⟨I.size, fun j hj => List.mem_cons_of_mem _ (I.sub j hj), ?_, ?_, I.closed, .cons _ _ hid hb I.vy, ?_, ⟨sN ▸ I.sq.df, jR ▸ I.sq.rc, H⟩, I.sZ, ?_, ?_, ?_, Nat.le_trans I.nx iM⟩
  · intro j hj hu
    rcases List.mem_cons.1 hj with rfl | hj
    · exact List.mem_cons_self
    · exact List.mem_cons_of_mem _ (I.late j hj hu)
  · intro j hj
    rcases List.mem_cons.1 hj with rfl | hj
    · exact ⟨lu, List.mem_cons_self⟩
    · exact ⟨(I.ye j hj).1, List.mem_cons_of_mem _ (I.ye j hj).2⟩
  · intro j hj
    rcases List.mem_cons.1 hj with rfl | hj
    · exact hr.lt dO
    · exact I.lt j hj
  · intro p hp
    have lZ : p ≠ d := fun e => hp i List.mem_cons_self jW (by rw [e]; exact nz)
    rw [← get p lZ]
    exact I.yf p fun j hj hu => hp j (List.mem_cons_of_mem _ hj) hu
  · intro j hj hu aj dj dW jc
    rcases List.mem_cons.1 hj with rfl | hj
    · rw [dO] at dW; cases dW
      rw [hd] at jc; cases jc
      exact hP
    · exact (I.prom j hj hu aj dj dW jc).state (ta j hj aj dW) (tc j hj aj dj dW jc) hle iM
  · have old : ∀ j ∈ done, L.getD j false = false → ∀ (aj : bf) (dj : Pos) (f : Nat), as[j]? = some aj → aj.dst = some dj → rj s' aj dj f → f < s.h.nx := by
      intro j hj hu aj dj f dW jc hm
      obtain ⟨p, q1, q2, q3, q4⟩ := hm.state (ta j hj aj dW) (tc j hj aj dj dW jc)
      cases I.prom j hj hu aj dj dW jc with
      | off h hu => rw [q3] at h; cases h
      | val p' h ha pV hm v hv NH => rw [ha] at q1; cases q1; rw [hm] at q2; cases q2
      | made p' h ha hm f' ty l m c hf FY ho hc sY hlen hφ hn hN => rw [FY] at q4; rw [← Wr q4]; exact hn
    intro i1 Bi j1 Bj mN ki cS a1 a2 d1 d2 f h1 h2 h3 h4 m1 m2
    rcases List.mem_cons.1 Bi with rfl | eP <;> rcases List.mem_cons.1 Bj with rfl | pW
    · exact cS rfl
    · rw [dO] at h1; cases h1
      rw [hd] at h3; cases h3
      have q1 := hM f m1
      have q2 := old j1 pW ki a2 d2 f h2 h4 m2
      omega
    · rw [dO] at h2; cases h2
      rw [hd] at h4; cases h4
      have q1 := hM f m2
      have q2 := old i1 eP mN a1 d1 f h1 h3 m1
      omega
    · exact I.FZ i1 eP j1 pW mN ki cS a1 a2 d1 d2 f h1 h2 h3 h4 (m1.state (ta i1 eP a1 h1) (tc i1 eP a1 d1 h1 h3)) (m2.state (ta j1 pW a2 h2) (tc j1 pW a2 d2 h2 h4))
end
end Go.Ve
namespace Go.Ve
open Go.RowKit
section
variable {P : Program} {w0 w : World} {φ : aE} {nt : Nat} {ops : Array Oper} {as : Array bf} {s : St} {b : Frame} {cs0 cs : List Frame} {a : Act} {N : Nat} {done dm : List Nat} {L : Array Bool}
theorem HR.spare {h : AH} (H : HR P w0 φ h w) {o : AO} {aS : NT AO} (hs : h.ob.iy h.nx (some o) aS) : HR P w0 φ ⟨h.nx + 1, aS⟩ w := by
 have cS : ∀ f, φ f ≠ none → f ≠ h.nx := fun f hf e => hf (by rw [e]; exact H.fresh _ (Nat.le_refl _))
 refine ⟨H.inj, fun f hf => H.fresh f (by have : h.nx + 1 ≤ f := hf; omega), fun f hf => ?_, fun f hf => ?_, fun f bl d n hf => ?_, H.below⟩
 · have : h.nx + 1 ≤ f := hf
   show aS.get f = none
   rw [hs.2 f (by omega)]; exact H.top f (by omega)
 · show aS.get f = none
   rw [hs.2 f (cS f (by rw [hf]; simp))]; exact H.dead f hf
 · obtain ⟨o1, o2, q1, q2⟩ := H.obj f bl d n hf
   exact ⟨o1, o2, by show aS.get f = some o1; rw [hs.2 f (cS f (by rw [hf]; simp))]; exact q1, q2⟩
theorem ko.spare {h : AH} (H : HR P w0 φ h w) {o : AO} {aS : NT AO} (hs : h.ob.iy h.nx (some o) aS) : ko h ⟨h.nx + 1, aS⟩ := fun f o1 ho => by
 have : f ≠ h.nx := fun e => by rw [e, H.top _ (Nat.le_refl _)] at ho; cases ho
 show aS.get f = some o1
 rw [hs.2 f this]; exact ho
theorem Inv.Wx (I : Inv P w0 N nt ops as b cs0 done dm L φ s cs a w) (hr : lY P nt ops as) (hs : rh ops as = true) {i : Nat} {ao : bf} (hid : i ∉ done) (hb : ∀ p ∈ ep ops i, p ∈ done) (dO : as[i]? = some ao) (lu : pU ops as i = false)
 {rec : Task → Bool} {e : Env} {fail : KS} {k : St → Bool} (h : sM rec ao e s fail k = true) : ∃ s', k s' = true ∧ Inv P w0 N nt ops as b cs0 (i :: done) (i :: dm) L φ s' cs a w ∧ s.h.nx ≤ s'.h.nx := by
 obtain ⟨Bg, d, Wy, Wv, hd⟩ := Wq lu
 rw [dO] at Wy; cases Wy
 obtain ⟨p, hp, Wz⟩ := ae5 Wv
 have nz : ic as i = some d := by unfold ic; rw [dO]; exact hd
 have afb : d ∉ ao.reads := fun hm => by
  have F5 : i ∉ ep ops i := fun h => hid (hb i h)
  have := ND hr dO hm nz F5
  rw [lu] at this; cases this
 have h1 : (bif kP ao.guard s.tm then p.ev (ao.args.map (ib s.tm)) s.h (fun v h => gR (some d) s v h k) else gR (some d) s undef s.h k) = true := by
  have h' : ny ao.guard s.tm (nw ao.args s.tm (xW rec ao.act ao.dst e s fail k)) (gR ao.dst s undef s.h k) = true := by cases ao; exact h
  rw [Nz, yd, hd, hp] at h'
  exact h'
 have ch : ∀ (v : Value) (q : Pos), q ∈ ao.reads → (s.tm.set d v).get q = s.tm.get q := fun v q hq => by rw [PT.c7, if_neg (fun e => afb (by rw [← e]; exact hq))]
 cases hw : kP ao.guard s.tm with
 | false =>
  rw [hw] at h1
  have h2 : gR (some d) s undef s.h k = true := h1
  rw [Be] at h2
  have lr : kP ao.guard (s.tm.set d undef) = false := by rw [yg (ch undef)]; exact hw
  refine ⟨_, h2, I.grow hr hs hid hb dO hd lu (v := undef) rfl rfl rfl I.sq.heap (ko.refl _) (Nat.le_refl _) (.off lr (by simp [PT.c7])) (fun f hm => ?_), Nat.le_refl _⟩
  obtain ⟨_, _, _, q3, _⟩ := hm
  have sH : kP ao.guard (s.tm.set d undef) = true := q3
  rw [lr] at sH; cases sH
 | true =>
  rw [hw] at h1
  have h2 : p.ev (ao.args.map (ib s.tm)) s.h (fun v h => gR (some d) s v h k) = true := h1
  cases hm : p.makes with
  | false =>
   obtain ⟨v, h3, h4⟩ := Wg p Wz hm _ _ _ h2
   rw [Be] at h3
   have lr : kP ao.guard (s.tm.set d v) = true := by rw [yg (ch v)]; exact hw
   refine ⟨_, h3, I.grow hr hs hid hb dO hd lu (v := v) rfl rfl rfl I.sq.heap (ko.refl _) (Nat.le_refl _) (.val p lr hp Wz hm v (by simp [PT.c7]; exact iP.refl v) (fun hh k2 hl hk => ?_)) (fun f NJ => ?_), Nat.le_refl _⟩
   · show p.ev (ao.args.map (ib (s.tm.set d v))) hh k2 = true
     rw [F4 (ch v)]
     exact h4 hh k2 hl hk
   · obtain ⟨p', q1, q2, _, _⟩ := NJ
     rw [hp] at q1; cases q1
     rw [hm] at q2; cases q2
  | true =>
   obtain ⟨ty, l, c, aS, h3, h4, h5, h6, h7⟩ := aeY hm h2
   rw [Be] at h7
   have lr : kP ao.guard (s.tm.set d (p.made s.h.nx)) = true := by rw [yg (ch _)]; exact hw
   refine ⟨_, h7, I.grow hr hs hid hb dO hd lu (v := p.made s.h.nx) rfl rfl rfl (I.sq.heap.spare h6) (ko.spare I.sq.heap h6) (Nat.le_succ _) (.made p lr hp hm s.h.nx ty l l c ?_ (by simp [PT.c7]) h6.1 h5 (mM.refl l) rfl (I.sq.heap.fresh _ (Nat.le_refl _)) (Nat.lt_succ_self _) I.nx) (fun f NJ => ?_), Nat.le_succ _⟩
   · show Bf p (ao.args.map (ib (s.tm.set d (p.made s.h.nx)))) ty l
     rw [F4 (ch _)]; exact h3
   · obtain ⟨p', q1, q2, _, q4⟩ := NJ
     have E5 : (s.tm.set d (p.made s.h.nx)).get d = p'.made f := q4
     rw [PT.c7, if_pos rfl] at E5
     rw [← Wr E5]
     exact Nat.le_refl _
end
end Go.Ve
namespace Go.Ve
open Go.RowKit
section
variable {P : Program} {w0 w : World} {φ : aE} {nt : Nat} {ops : Array Oper} {as : Array bf} {s : St} {b : Frame} {cs0 cs : List Frame} {a : Act} {N : Nat} {done dm : List Nat} {L : Array Bool}
theorem nJ.lf {ao : bf} {d : Pos} {s' : St} {φ' : aE} (h : nJ N s φ ao d) (pO : ao.dst = some d) (hr : ∀ p ∈ ao.reads, s.tm.get p = s'.tm.get p) (hd : s.tm.get d = s'.tm.get d) (hE : Ext s.h.nx φ φ') (iM : s.h.nx ≤ s'.h.nx) (hc : yc ao s' = true) : nJ N s' φ' ao d := by
 have h1 := yg hr
 have h2 := F4 hr
 have fQ : (bif kP ao.guard s'.tm then (iH.casesOn (motive := fun _ => Bool) ao.act (A9 ao.dst s' (ao.args.map (ib s'.tm))) lX false false false false) else true) = true := by
  have h' : ny ao.guard s'.tm (nw ao.args s'.tm fun vs => iH.casesOn (motive := fun _ => Bool) ao.act (A9 ao.dst s' vs) lX false false false false) true = true := by cases ao; exact hc
  rw [Nz, yd] at h'
  exact h'
 cases h with
 | off h hu => exact .off (h1 ▸ h) (hd ▸ hu)
 | val p h ha pV hm v hv NH =>
  rw [h1] at h
  rw [h, ha, pO] at fQ
  have yi : PT.de d s'.tm (fun v => bif p.makes then p.fresh (ao.args.map (ib s'.tm)) (vu s' v) else p.ev (ao.args.map (ib s'.tm)) s'.h (A8 v)) = true := fQ
  rw [PT.jv, hm] at yi
  obtain ⟨u, q1, q2⟩ := Wg p pV hm _ _ _ (show p.ev (ao.args.map (ib s'.tm)) s'.h (A8 (s'.tm.get d)) = true from yi)
  exact .val p h ha pV hm u (aeW q1) q2
 | made p h ha hm f ty l m c hf hs ho ow sY hlen hφ hn hN =>
  rw [h1] at h
  rw [h, ha, pO] at fQ
  have yi : PT.de d s'.tm (fun v => bif p.makes then p.fresh (ao.args.map (ib s'.tm)) (vu s' v) else p.ev (ao.args.map (ib s'.tm)) s'.h (A8 v)) = true := fQ
  rw [PT.jv, hm] at yi
  obtain ⟨bU, l', q1, q2⟩ := aeX (show p.fresh (ao.args.map (ib s'.tm)) (vu s' (s'.tm.get d)) = true from yi)
  rw [← hd, hs] at q1
  have WA : Np (p.made f) (fun b => kM s'.h b fun lo hi afc rw c => iff (rw && Nat.beq lo 0 && Nat.beq hi l'.length && Nat.beq bU afc) (nG c 0 l'.length fun m => vt m l')) = true := q1
  rw [ae1] at WA
  obtain ⟨lo, hi, ty2, rw2, c2, u1, u2⟩ := rl WA
  obtain ⟨u3, u4⟩ := bV u2
  obtain ⟨m', u5, u6, u7⟩ := F6 _ u4
  simp only [Bool.and_eq_true, Nat.beq_eq] at u3
  obtain ⟨⟨⟨e1, e2⟩, e3⟩, e4⟩ := u3
  subst e1; subst e2; subst e3; subst e4
  exact .made p h ha hm f bU l' m' c2 q2 (hd ▸ hs) u1 (fun j v hj => by have := u7 j v hj; rwa [Nat.zero_add] at this) (fun φ x => (FW u5 φ x).symm) u6 (hE.out f hn hφ) (Nat.lt_of_lt_of_le hn iM) hN
end
end Go.Ve
namespace Go.Ve
open Go.RowKit
section
variable {P : Program} {w0 w : World} {φ : aE} {ops : Array Oper} {as : Array bf} {s : St} {e : Env} {b : Frame} {cs0 cs : List Frame} {a : Act} {N : Nat} {done dm : List Nat} {L : Array Bool}
theorem Inv.act (I : Inv P w0 N e.nt ops as b cs0 done dm L φ s cs a w) (hr : lY P e.nt ops as) (hs : rh ops as = true) (he : lk φ e b) {rec : Task → Bool} (cu : ∀ t, rec t = true → c8 P w0 t) {i : Nat} {ao : bf} (hid : i ∉ done) (dO : as[i]? = some ao) (tf : ∀ p ∈ ep ops i, L.getD p false = true)
 {k : KS} {late : List Nat} (WH : ∀ j ∈ dm, L.getD j false = false → j ∈ late) (hlp : ∀ j ∈ late, j ∈ dm) {lf r : List iI} (NM : Bh as late = some lf) (h : sM rec ao e s k (fun s => nA rec (lf ++ r) e s k) = true) {rest : List Nat} {todo : List Item} :
 (∃ φ' s' cf a' w', nA rec r e s' k = true ∧ Ext N φ φ' ∧ Inv P w0 N e.nt ops as b cs0 (i :: done) late (L.setIfInBounds i true) φ' s' cf a' w' ∧ Steps P (lone (b.atR a (.inRegion ops (i :: rest) :: todo)) cs w) (lone (b.atR a' (.inRegion ops rest :: todo)) cf w')) ∨
 iA P w0 φ N e b cs0 (lone (b.atR a (.inRegion ops (i :: rest) :: todo)) cs w) todo k := by
 obtain ⟨o, ho, hc⟩ := hr.op dO
 have bG := hr.lt dO
 rcases UM (rest := rest) (todo := todo) cu hc ho I.sq he (I.reads hr hs dO tf fun hi => absurd hi hid) h with ⟨v, v', s1, φ', w', cf, jb, h1, h2, h3, h4, h5, h6, h7⟩ | ⟨v, v', s1, φ', w', h1, h3, h4, h5, h6, h7⟩
 · left
   rw [Be] at h1
   obtain ⟨afe, hk⟩ := ae7 NM h1
   obtain ⟨act, xs, args, e1, e2, e3, e4, e5, e6⟩ := xV hc
   have bY := fun j => vz L i j (by rw [I.size]; exact bG)
   have hb : ∀ p ∈ ep ops i, p ∈ done := fun p hp => I.sub p (tf p hp)
   have jW : L.getD i false = false := by
    cases hh : L.getD i false with
    | false => rfl
    | true => exact absurd (I.sub i hh) hid
   have get : ∀ p, ao.dst ≠ some p → s.tm.get p = (match ao.dst with | none => s1.tm | some q => s1.tm.set q v).get p := by
    intro p hp
    cases hd : ao.dst with
    | none => simp only; rw [h2]
    | some q =>
     simp only
     rw [PT.c7, if_neg (fun e => hp (by rw [hd, e])), h2]
   have ta : ∀ j ∈ done, L.getD j false = false → ∀ aj : bf, as[j]? = some aj → ∀ p ∈ aj.reads, ao.dst ≠ some p := fun j hj hu aj dW p hp hd => by
    have NN : ic as i = some p := by unfold ic; rw [dO]; exact hd
    rcases ae4 hr hs dW hp NN with rfl | h | h
    · exact hid hj
    · exact hid (I.vy.closed j hj i h)
    · rw [tf j h] at hu; cases hu
   have tc : ∀ j ∈ done, ∀ (aj : bf) (dj : Pos), as[j]? = some aj → aj.dst = some dj → ao.dst ≠ some dj := fun j hj aj dj dW jc hd => by
    have NN : ic as i = some dj := by unfold ic; rw [dO]; exact hd
    have NI : ic as j = some dj := by unfold ic; rw [dW]; exact jc
    have := Wp hr hs NI NN
    subst this
    exact hid hj
   refine ⟨φ', _, cf, _, w', hk, h3.mono I.nx, ?_, h7⟩
   refine ⟨by simp [I.size], ?_, ?_, ?_, ?_, .cons _ _ hid hb I.vy, ?_, ⟨by rw [Act.Fg]; exact h6.df, h6.rc, h6.heap⟩, ?_, ?_, ?_, ?_, Nat.le_trans I.nx h4⟩
   · intro j hj
     rw [bY] at hj
     split at hj
     · rename_i e; rw [e]; exact List.mem_cons_self
     · exact List.mem_cons_of_mem _ (I.sub j hj)
   · intro j hj hu
     rw [bY] at hu
     split at hu
     · cases hu
     · rename_i cS
       rcases List.mem_cons.1 hj with hj | hj
       · exact absurd hj cS
       · exact WH j (I.late j hj hu) hu
   · intro j hj
     have := I.ye j (hlp j hj)
     exact ⟨this.1, List.mem_cons_of_mem _ this.2⟩
   · intro j hj p hp
     rw [bY] at hj ⊢
     split at hj
     · rename_i e
       subst e
       split
       · rfl
       · exact tf p hp
     · split
       · rfl
       · exact I.closed j hj p hp
   · intro j hj
     rcases List.mem_cons.1 hj with rfl | hj
     · exact bG
     · exact I.lt j hj
   · rcases e5 with ⟨q1, _⟩ | ⟨dn, q1, _, _⟩
     · rw [q1]; exact I.sZ
     · rw [q1]; simpa [Act.put] using I.sZ
   · intro p hp
     have hold : ao.dst ≠ some p → VR φ' (s.tm.get p) (a.tmps.getD p.un undef) := fun lZ => VR.ext h3 (I.yf p fun j hj hu jc => by
      by_cases vA : j = i
      · subst vA; exact hid hj
      · exact hp j (List.mem_cons_of_mem _ hj) (by rw [bY, if_neg vA]; exact hu) jc)
     by_cases lZ : ao.dst = some p
     · rcases e5 with ⟨_, q2⟩ | ⟨dn, q1, F0, q3⟩
       · rw [q2] at lZ; cases lZ
       · rw [q3] at lZ; cases lZ
         have ef : dn < a.tmps.size := Nat.lt_of_lt_of_le F0 I.sZ
         rw [q1, q3, Pos.kD]
         have : (({ a with defers := jb } : Act).put (some dn) v').tmps.getD dn undef = v' := by simp [Act.put, ef]
         rw [this]
         simp only [PT.c7, if_true]
         exact h5
     · have hg := get p lZ
       have : (({ a with defers := jb } : Act).put o.dst v').tmps.getD p.un undef = a.tmps.getD p.un undef := by
        rcases e5 with ⟨q1, _⟩ | ⟨dn, q1, F0, q3⟩
        · rw [q1]; rfl
        · have cS : dn ≠ p.un := fun e => lZ (by rw [q3]; congr 1; exact Pos.sx (by rw [Pos.kD, e]))
          rw [q1]
          simp [Act.put, Array.getD_eq_getD_getElem?, Array.getElem?_setIfInBounds_ne cS]
       rw [this]
       have key := hold lZ
       rw [hg] at key
       exact key
   · intro j hj hu aj dj dW jc
     rw [bY] at hu
     split at hu
     · cases hu
     · rename_i cS
       rcases List.mem_cons.1 hj with hj | hj
       · exact absurd hj cS
       · obtain ⟨aj', WI, qM⟩ := afe j (WH j (I.late j hj hu) hu)
         rw [dW] at WI; cases WI
         exact (I.prom j hj hu aj dj dW jc).lf jc (fun p hp => get p (ta j hj hu aj dW p hp)) (get dj (tc j hj aj dj dW jc)) h3 h4 qM
   · intro i1 Bi j1 Bj mN ki cS a1 a2 d1 d2 f g1 g2 g3 g4 m1 m2
     rw [bY] at mN ki
     split at mN
     · cases mN
     · rename_i n1
       split at ki
       · cases ki
       · rename_i n2
         rcases List.mem_cons.1 Bi with eP | eP
         · exact n1 eP
         · rcases List.mem_cons.1 Bj with pW | pW
           · exact n2 pW
           · exact I.FZ i1 eP j1 pW mN ki cS a1 a2 d1 d2 f g1 g2 g3 g4 (m1.state (fun p hp => get p (ta i1 eP mN a1 g1 p hp)) (get d1 (tc i1 eP a1 d1 g1 g3))) (m2.state (fun p hp => get p (ta j1 pW ki a2 g2 p hp)) (get d2 (tc j1 pW a2 d2 g2 g4)))
 · right
   exact ⟨.aN v, s1, φ', cs, a, w', h1, h3.mono I.nx, Nat.le_trans I.nx h4, h6, ⟨_, v', h5, h7⟩⟩
end
end Go.Ve
namespace Go.Ve
open Go.RowKit
section
variable {P : Program} {w0 w : World} {φ : aE} {ops : Array Oper} {as : Array bf} {s : St} {e : Env} {b : Frame} {cs0 cs : List Frame} {a : Act} {N : Nat} {done dm : List Nat} {L : Array Bool}
theorem WJ {o : Oper} {j p : Nat} (ho : ops[j]? = some o) : p ∈ ep ops j ↔ ∃ x ∈ o.after, Region.binds .any x = true ∧ x.on = p := by
 unfold ep WD
 rw [ho]
 simp only [List.mem_map, List.mem_filter, Array.mem_toList_iff]
 constructor
 · rintro ⟨x, ⟨h1, h2⟩, h3⟩; exact ⟨x, h1, h2, h3⟩
 · rintro ⟨x, h1, h2, h3⟩; exact ⟨x, ⟨h1, h2⟩, h3⟩
theorem Bk (hL : L.size = ops.size) {j : Nat} : j ∈ Region.ready .any ops L ↔ j < ops.size ∧ L.getD j false = false ∧ ∀ p ∈ ep ops j, L.getD p false = true := by
 rw [mem_ready]
 constructor
 · rintro ⟨h1, o, ho, h2⟩
   have bG : j < ops.size := (Array.getElem?_eq_some_iff.1 ho).1
   refine ⟨bG, ?_, fun p hp => ?_⟩
   · have : j < L.size := by omega
     simpa [Array.getD, this] using h1
   · obtain ⟨x, q1, q2, rfl⟩ := (WJ ho).1 hp
     exact h2 x q1 q2
 · rintro ⟨bG, h1, h2⟩
   refine ⟨?_, ops[j], by simp [bG], fun x hx hbx => h2 x.on ((WJ (by simp [bG])).2 ⟨x, hx, hbx, rfl⟩)⟩
   have : j < L.size := by omega
   simpa [Array.getD, this] using h1
theorem aff {md : Region.Mode} {fuel t : Nat} (h : Region.ready md ops L = []) : Region.linearise.go md ops fuel t L [] = [] := by
 cases fuel with
 | zero => simp [Region.linearise.go]
 | succ fuel =>
  simp only [Region.linearise.go]
  change (match (Region.ready md ops L)[t % (Region.ready md ops L).length]? with
   | some i => Region.linearise.go md ops fuel (t / (Region.ready md ops L).length) (L.setIfInBounds i true) [i]
   | none => [].reverse) = []
  rw [h]; rfl
theorem WK {md : Region.Mode} {fuel t : Nat} (h : Region.ready md ops L ≠ []) : ∃ i t', i ∈ Region.ready md ops L ∧ Region.linearise.go md ops (fuel + 1) t L [] = i :: Region.linearise.go md ops fuel t' (L.setIfInBounds i true) [] := by
 have hlen : 0 < (Region.ready md ops L).length := List.length_pos_iff.2 h
 have bG : t % (Region.ready md ops L).length < (Region.ready md ops L).length := Nat.mod_lt _ hlen
 have hi : (Region.ready md ops L)[t % (Region.ready md ops L).length]? = some (Region.ready md ops L)[t % (Region.ready md ops L).length] := List.getElem?_eq_getElem bG
 refine ⟨(Region.ready md ops L)[t % (Region.ready md ops L).length], t / (Region.ready md ops L).length, List.getElem_mem bG, ?_⟩
 conv => lhs; simp only [Region.linearise.go]
 change (match (Region.ready md ops L)[t % (Region.ready md ops L).length]? with
  | some i => Region.linearise.go md ops fuel (t / (Region.ready md ops L).length) (L.setIfInBounds i true) [i]
  | none => [].reverse) = _
 rw [hi]
 simp only []
 rw [linearise_go_acc, List.reverse_singleton, List.singleton_append]
def yk (ops : Array Oper) (L : Array Bool) : Nat := (List.range ops.size).countP fun j => !L.getD j false
theorem countP_set {p q : Nat → Bool} {r : Nat} (h : ∀ j, q j = true → p j = true ∧ j ≠ r) (hpr : p r = true) : ∀ {l : List Nat}, r ∈ l → l.countP q + 1 ≤ l.countP p := by
  have mono : ∀ l : List Nat, l.countP q ≤ l.countP p := fun l => List.countP_mono_left fun x _ hx => (h x hx).1
  intro l
  induction l with
  | nil => intro hm; cases hm
  | cons x l ih =>
    intro hm
    by_cases hx : x = r
    · subst hx
      have hq : q x = false := by
        cases hh : q x with
        | false => rfl
        | true => exact absurd rfl (h x hh).2
      have := mono l
      simp [List.countP_cons, hq, hpr]
      exact this
    · have nu : r ∈ l := by
        rcases List.mem_cons.1 hm with hm | hm
        · exact absurd hm.symm hx
        · exact hm
      have := ih nu
      rw [List.countP_cons, List.countP_cons]
      cases hq : q x with
      | false => simp; omega
      | true => rw [(h x hq).1]; simp; omega
theorem WM (hL : L.size = ops.size) {i : Nat} (hi : i < ops.size) (hu : L.getD i false = false) : yk ops (L.setIfInBounds i true) + 1 ≤ yk ops L := by
 refine countP_set (r := i) (fun j hj => ?_) (by rw [hu]; rfl) (List.mem_range.2 hi)
 rw [vz L i j (by omega)] at hj
 split at hj
 · cases hj
 · rename_i cS; exact ⟨hj, cS⟩
theorem NO {i : Nat} (hi : i < ops.size) (hu : L.getD i false = false) : 0 < yk ops L := List.countP_pos_iff.2 ⟨i, List.mem_range.2 hi, by rw [hu]; rfl⟩
theorem afg (hr : lY P e.nt ops as) (hs : rh ops as = true) {rec : Task → Bool} (cu : ∀ t, rec t = true → c8 P w0 t) {k : KS} {todo : List Item} : ∀ (n : Nat) (order : List Nat) (fuel t : Nat) {done dm : List Nat} {L : Array Bool} {φ : aE} {s : St} {cs : List Frame} {a : Act} {w : World} {dl : List iI},
    order.length + fuel ≤ n → Inv P w0 N e.nt ops as b cs0 done dm L φ s cs a w → lk φ e b → td ops as done dm order = some dl → nA rec dl e s k = true → yk ops L ≤ fuel →
    iA P w0 φ N e b cs0 (lone (b.atR a (.inRegion ops (Region.linearise.go .any ops fuel t L []) :: todo)) cs w) todo k := by
  intro n
  induction n with
  | zero =>
    intro order fuel t done dm L φ s cs a w dl hn I he gC hk hu
    have h0 : order = [] := by cases order with | nil => rfl | cons _ _ => simp at hn
    have hf : fuel = 0 := by omega
    subst h0; subst hf
    unfold td at gC
    split at gC
    · rename_i fj
      cases gC
      have vC : ∀ j, j < ops.size → L.getD j false = true := fun j hj => by
        cases h : L.getD j false with
        | true => rfl
        | false => have := NO hj h; omega
      refine ⟨.normal, s, φ, cs, a, w, hk, Ext.refl _ _, I.nx, ⟨I.sq, I.sZ, fun p => I.yf p fun j hj bh => ?_⟩, ?_⟩
      · rw [vC j (I.lt j hj)] at bh; cases bh
      · simp only [Region.linearise.go, List.reverse_nil]; exact .one stepR_region_end
    · cases gC
  | succ n ih =>
    intro order fuel t done dm L φ s cs a w dl hn I he gC hk hu
    have run : ∀ (i : Nat) (fuel t' : Nat), order.length + fuel ≤ n → i ∈ done → L.getD i false = false → (∀ p ∈ ep ops i, L.getD p false = true) → yk ops L ≤ fuel + 1 →
        iA P w0 φ N e b cs0 (lone (b.atR a (.inRegion ops (i :: Region.linearise.go .any ops fuel t' (L.setIfInBounds i true) []) :: todo)) cs w) todo k := by
      intro i fuel t' NP hid jW tf bh
      obtain ⟨φ', a', w', h1, h2, h3⟩ := I.exec hr hs hid jW tf (rest := Region.linearise.go .any ops fuel t' (L.setIfInBounds i true) []) (todo := todo)
      have := WM I.size (I.lt i hid) jW
      exact (ih order fuel t' NP h3 (he.ext h2) gC hk (by omega)).of_steps h2 (Nat.le_refl _) h1
    cases order with
    | nil =>
      by_cases hex : ∃ x ∈ done, (fun j => !L.getD j false) x = true
      · obtain ⟨r, q1, q2, q3⟩ := I.vy.first hex
        have jW : L.getD r false = false := by simpa using q2
        have nE : r ∈ Region.ready .any ops L := (Bk I.size).2 ⟨I.lt r q1, jW, fun p hp => by simpa using q3 p hp⟩
        have nK := NO (I.lt r q1) jW
        obtain ⟨f', rfl⟩ : ∃ f', fuel = f' + 1 := ⟨fuel - 1, by omega⟩
        obtain ⟨i, t', hi, uZ⟩ := WK (fuel := f') (t := t) (List.ne_nil_of_mem nE)
        rw [uZ]
        obtain ⟨i1, i2, i3⟩ := (Bk I.size).1 hi
        have fj := gC
        unfold td at fj
        split at fj
        · rename_i hc
          have hid : i ∈ done := by simpa using List.all_eq_true.1 hc i (List.mem_range.2 i1)
          exact run i f' t' (by first | (simp at hn ⊢; omega) | (simp at hn; omega)) hid i2 i3 (by omega)
        · cases fj
      · have fj := gC
        unfold td at fj
        split at fj
        · rename_i hc
          cases fj
          have vC : ∀ j ∈ done, L.getD j false = true := fun j hj => by
            cases h : L.getD j false with
            | true => rfl
            | false => exact absurd ⟨j, hj, by simp [h]⟩ hex
          have nE : Region.ready .any ops L = [] := by
            cases hq : Region.ready .any ops L with
            | nil => rfl
            | cons x l =>
              have hx : x ∈ Region.ready .any ops L := by rw [hq]; exact List.mem_cons_self
              obtain ⟨i1, i2, _⟩ := (Bk I.size).1 hx
              have := vC x (by simpa using List.all_eq_true.1 hc x (List.mem_range.2 i1))
              rw [i2] at this; cases this
          rw [aff nE]
          refine ⟨.normal, s, φ, cs, a, w, hk, Ext.refl _ _, I.nx, ⟨I.sq, I.sZ, fun p => I.yf p fun j hj bh => ?_⟩, .one stepR_region_end⟩
          rw [vC j hj] at bh; cases bh
        · cases fj
    | cons i order =>
      have ans := gC
      unfold td at gC
      split at gC
      · cases gC
      · rename_i ao dO
        split at gC
        · rename_i WN
          simp only [Bool.and_eq_true, Bool.not_eq_true', List.contains_eq_mem, decide_eq_false_iff_not] at WN
          obtain ⟨hid, hb⟩ := WN
          have bP : ∀ p ∈ ep ops i, p ∈ done := fun p hp => by simpa using List.all_eq_true.1 hb p hp
          split at gC
          · rename_i lu
            split at gC
            · rename_i afi
              split at gC
              · rename_i lf r NM rm
                cases gC
                have jW : L.getD i false = false := by
                  cases hh : L.getD i false with
                  | false => rfl
                  | true => exact absurd (I.sub i hh) hid
                have hT : ri ops (i :: done) := .cons _ _ hid bP I.vy
                obtain ⟨r0, q1, q2, q3⟩ := hT.first (u := fun j => !L.getD j false) ⟨i, List.mem_cons_self, by simp only [jW]; rfl⟩
                have WO : L.getD r0 false = false := by simpa using q2
                have WQ : r0 < ops.size := by
                  rcases List.mem_cons.1 q1 with rfl | q1
                  · exact hr.lt dO
                  · exact I.lt r0 q1
                have nE : r0 ∈ Region.ready .any ops L := (Bk I.size).2 ⟨WQ, WO, fun p hp => by simpa using q3 p hp⟩
                have nK := NO WQ WO
                obtain ⟨f', rfl⟩ : ∃ f', fuel = f' + 1 := ⟨fuel - 1, by omega⟩
                obtain ⟨i', t', hi, uZ⟩ := WK (fuel := f') (t := t) (List.ne_nil_of_mem nE)
                rw [uZ]
                obtain ⟨i1, i2, i3⟩ := (Bk I.size).1 hi
                by_cases F9 : i' ∈ done
                · exact run i' f' t' (by first | (simp at hn ⊢; omega) | (simp at hn; omega)) F9 i2 i3 (by omega)
                · have Fs : i' = i := by
                    have := List.all_eq_true.1 afi i' (List.mem_range.2 i1)
                    simp only [Bool.or_eq_true, List.contains_eq_mem, decide_eq_true_eq, beq_iff_eq, Bool.not_eq_true'] at this
                    rcases this with (h | h) | h
                    · exact absurd h F9
                    · exact h
                    · have : (ep ops i').all done.contains = true := List.all_eq_true.2 fun p hp => by simpa using I.sub p (i3 p hp)
                      rw [this] at h; cases h
                  subst Fs
                  have afj : ∀ j ∈ sX ops (ep ops i') done, L.getD j false = true := ae6 (good := fun j => L.getD j false = true) I.closed done _ i3
                  rcases I.act hr hs he cu hid dO i3 (late := dm.filter fun j => !(sX ops (ep ops i') done).contains j) (fun j hj bh => by
                    refine List.mem_filter.2 ⟨hj, ?_⟩
                    simp only [Bool.not_eq_true', List.contains_eq_mem, decide_eq_false_iff_not]
                    intro hc
                    rw [afj j hc] at bh; cases bh) (fun j hj => (List.mem_filter.1 hj).1) NM hk (rest := Region.linearise.go .any ops f' t' (L.setIfInBounds i' true) []) (todo := todo) with ⟨φ', s', cf, a', w', z1, z2, z3, z4⟩ | z
                  · have := WM I.size i1 i2
                    exact (ih order f' t' (by first | (simp at hn ⊢; omega) | (simp at hn; omega)) z3 (he.ext z2) rm z1 (by omega)).of_steps z2 (Nat.le_refl _) z4
                  · exact z
              · cases gC
            · cases gC
          · rename_i lu
            simp only [Option.map_eq_some_iff] at gC
            obtain ⟨dl', afk, rfl⟩ := gC
            obtain ⟨s', z1, z2, z3⟩ := I.Wx hr hs hid bP dO (by simpa using lu) (show sM rec ao e s k (fun s => nA rec dl' e s k) = true from hk)
            exact ih order fuel t (by first | (simp at hn ⊢; omega) | (simp at hn; omega)) z2 he afk z1 hu
        · cases gC
theorem Wm (bA : P.follows .mixedOrders = true) (w0 : World) : UO P w0 := by
 intro rec cu e b cs0 todo k id ops l dl hl sO φ s cs a w hs he hk
 unfold Mh at sO
 split at sO
 · rename_i vD
   have hr := ae3 hl
   have nB := stepR_region_draw (P := P) (b := b) (a := a) (k := todo) (cs := cs) (w := w) (id := id) (ops := ops)
   have afl : ∀ t, Region.schedule (P.follows .mixedOrders) ops t = Region.linearise.go .any ops ops.size t (Array.replicate ops.size false) [] := fun t => by
    simp [Region.schedule, bA, Region.linearise]
   rw [afl] at nB
   have WS : ∀ j, (Array.replicate ops.size false).getD j false = false := fun j => by
    rw [Array.getD_eq_getD_getElem?, Array.getElem?_replicate]; split <;> rfl
   have I : Inv P w0 s.h.nx e.nt ops l.toArray b cs0 [] [] (Array.replicate ops.size false) φ s cs a { w with drawn := w.drawn + 1 } :=
    ⟨by simp, fun j hj => (by rw [WS] at hj; cases hj), fun j hj => (by cases hj), fun j hj => (by cases hj), fun j hj => (by rw [WS] at hj; cases hj), .nil, fun j hj => (by cases hj),
     ⟨hs.df, hs.rc, hs.heap.world rfl rfl rfl rfl⟩, hs.tm.1, fun p _ => hs.tm.2 p, fun j hj => (by cases hj), fun j hj => (by cases hj), Nat.le_refl _⟩
   refine (afg hr vD cu _ _ ops.size _ (Nat.le_refl _) I he sO hk ?_).of_steps (Ext.refl _ _) (Nat.le_refl _) (.one nB)
   have := List.countP_le_length (p := fun j => !(Array.replicate ops.size false).getD j false) (l := List.range ops.size)
   simpa [yk] using this
 · cases sO
end
end Go.Ve
namespace Go.Ve
open Go.RowKit
theorem Wl {P : Program} {w0 : World} (bA : P.follows .mixedOrders = true) {prog : NT gB} (oq : ∀ f af, prog.get f = some af → bZ P f = some af) {sums : qW} (NB : Fx P w0 sums) : ∀ (n : Nat) (t : Task), ev prog sums n t = true → c8 P w0 t := by
 intro n
 have Ms := Wm bA w0
 induction n with
 | zero => intro t h; cases h
 | succ n ih =>
  intro t h
  rw [aeN] at h
  cases t with
  | code ac e s k => exact fun c hc => U0 Ms ih c ac e s k hc h
  | call f args h0 k => exact Va oq ih NB h
  | xT f args rc h0 k => exact aeB oq ih h
  | round l args h0 k => exact Vc ih h
  | leave ds m h0 k => exact Mw ih h
theorem HR.bare (P : Program) (w : World) : HR P w (fun _ => none) ⟨0, .e⟩ w :=
 ⟨fun f f' b d d' n n' _ h => (by cases h), fun _ _ => rfl, fun _ _ => rfl, fun f h => (by cases h), fun f b d n h => (by cases h), ⟨rfl, rfl, rfl, Nat.le_refl _, fun _ _ => rfl⟩⟩
def NT.Holds {α : Type} (Q : Nat → α → Prop) : Nat → Nat → NT α → Prop
 | _, _, .e => True
 | o, s, .n l v r => (∀ a, v = some a → Q o a) ∧ NT.Holds Q (o + s) (s + s) l ∧ NT.Holds Q (o + s + s) (s + s) r
theorem NT.NC {α : Type} {Q : Nat → α → Prop} : ∀ {t : NT α} {o s : Nat}, t.Holds Q o s → ∀ i a, t.get i = some a → Q (o + s * i) a
 | .e, _, _, _, i, a, h => by cases h
 | .n l v r, o, s, ⟨h0, hl, hr⟩, i, a, h => by
  rcases NT.sA i with rfl | ⟨j, rfl⟩ | ⟨j, rfl⟩
  · exact h0 a h
  · rw [NT.na] at h
    have := NT.NC hl j a h
    rwa [show o + s + (s + s) * j = o + s * (2 * j + 1) by rw [Nat.mul_add, Nat.add_mul, Nat.mul_comm 2 j, ← Nat.mul_assoc, Nat.mul_two]; omega] at this
  · rw [NT.nb] at h
    have := NT.NC hr j a h
    rwa [show o + s + s + (s + s) * j = o + s * (2 * j + 2) by rw [Nat.mul_add, Nat.add_mul, Nat.mul_comm 2 j, ← Nat.mul_assoc, Nat.mul_two]; omega] at this
theorem NT.holds {α : Type} {Q : Nat → α → Prop} {t : NT α} (h : t.Holds Q 0 1) (i : Nat) (a : α) (hi : t.get i = some a) : Q i a := by
 have := NT.NC h i a hi
 rwa [Nat.zero_add, Nat.one_mul] at this
theorem NT.no {α : Type} {Q : α → Prop} : ∀ a, (none : Option α) = some a → Q a := fun a e => by cases e
end Go.Ve
namespace Go.Ve
open Go.RowKit
open Classical
noncomputable section
abbrev Sl := Pos → Value
def Sl.up (σ : Sl) (p : Pos) (v : Value) : Sl := fun q => bif p.beq q then v else σ q
def Sl.eR (σ : Sl) (d : Option Pos) (v : Value) : Sl := match d with
 | none => σ
 | some p => σ.up p v
structure DS where
 df : List eB
 rc : Rc
def eg (σ : Sl) : dL → Value
 | .t p => σ p
 | .c v => v
abbrev PQ := AX → Sl → DS → AH → Prop
theorem Sl.Xm (t : PT) (p : Pos) (v : Value) : (t.set p v).get = Sl.up t.get p v := by
 funext q
 rw [PT.c7]
 unfold Sl.up
 by_cases e : q = p
 · subst e; rw [if_pos rfl, Pos.beq_iff.2 rfl]; rfl
 · rw [if_neg e]
   have : p.beq q = false := by
    cases h : p.beq q with
    | false => rfl
    | true => exact absurd (Pos.beq_iff.1 h).symm e
   rw [this]; rfl
def PT.vI (t : PT) (d : Option Pos) (v : Value) : PT := match d with
 | none => t
 | some p => t.set p v
theorem Sl.Xn (t : PT) (d : Option Pos) (v : Value) : (t.vI d v).get = Sl.eR t.get d v := by
 cases d with
 | none => rfl
 | some p => exact Sl.Xm t p v
theorem vJ (d : Option Pos) (s : St) (v : Value) (h : AH) (k : St → Bool) : gR d s v h k = k ⟨s.tm.vI d v, s.df, s.rc, h⟩ := by rw [Be]; cases d <;> rfl
theorem N5 (t : PT) (o : dL) : ib t o = eg t.get o := by cases o <;> rfl
section
variable (P : Program) (w0 : World)
def eS : Task → Bool := fun t => decide (c8 P w0 t)
theorem Bt (t : Task) (h : eS P w0 t = true) : c8 P w0 t := of_decide_eq_true h
theorem kQ {t : Task} (h : c8 P w0 t) : eS P w0 t = true := decide_eq_true h
def WP (p : Prim) (vs : List Value) (h : AH) (R : Value → AH → Prop) : Prop := ∀ k : KV, (∀ v h, R v h → k v h = true) → p.ev vs h k = true
def WF (f : FuncId) (args : List Value) (h : AH) (R : CR → AH → Prop) : Prop := c8 P w0 (.call f args h fun r h => decide (R r h))
def WR (l : Nat) (args : List Value) (h : AH) (R : CR → AH → Prop) : Prop := c8 P w0 (.round l args h fun r h => decide (R r h))
def WL (ds : List eB) (m : Option Value) (h : AH) (K : Option Value → AH → Prop) : Prop := match ds with
 | [] => K m h
 | ds => c8 P w0 (.leave ds m h fun m h => decide (K m h))
def WC (c : cN) (e : Env) (σ : Sl) (d : DS) (h : AH) (Q : PQ) : Prop :=
 ∀ tm : PT, tm.get = σ → c8 P w0 (.code c e ⟨tm, d.df, d.rc, h⟩ fun x s => decide (Q x s.tm.get ⟨s.df, s.rc⟩ s.h))
def iQ (act : iH) (dst : Option Pos) (e : Env) (σ : Sl) (d : DS) (h : AH) (vs : List Value) (Q : PQ) (K : Sl → DS → AH → Prop) : Prop :=
 match act with
 | .aO p => WP p vs h fun v h => K (σ.eR dst v) d h
 | .call f => WF P w0 f vs h fun r h => match r with
  | .ret v => K (σ.eR dst v) d h
  | .aN v => Q (.aN v) σ d h
 | .dyn => (match vs with
  | .func (.func g) ⟨first⟩ ⟨bD⟩ :: as => WF P w0 g (first ++ (as ++ bD)) h fun r h => match r with
   | .ret v => K (σ.eR dst v) d h
   | .aN v => Q (.aN v) σ d h
  | .func (.yield l) ⟨[]⟩ ⟨[]⟩ :: as => WR P w0 l as h fun r h => match r with
   | .ret v => K (σ.eR dst v) d h
   | .aN v => Q (.aN v) σ d h
  | _ => False)
 | .recover => (match e.sI, vs with
  | none, [] => (match d.rc with
   | .can v => K (σ.eR dst v) ⟨d.df, .kH⟩ h
   | _ => K (σ.eR dst .nilIface) d h)
  | _, _ => False)
 | .panic => (match vs with
  | [.iface t x] => Q (.aN (.iface t x)) σ d h
  | _ => False)
 | .defer => (match e.sI, vs with
  | none, .func (.func g) ⟨first⟩ ⟨bD⟩ :: as => K (σ.eR dst undef) ⟨.fn g (first ++ (as ++ bD)) :: d.df, d.rc⟩ h
  | _, _ => False)
def wpOp (o : bf) (e : Env) (σ : Sl) (d : DS) (h : AH) (Q : PQ) (K : Sl → DS → AH → Prop) : Prop :=
 match o.guard with
 | none => iQ P w0 o.act o.dst e σ d h (o.args.map (eg σ)) Q K
 | some (p, want) => match σ p with
  | .bool b => bif lU b want then iQ P w0 o.act o.dst e σ d h (o.args.map (eg σ)) Q K else K (σ.eR o.dst undef) d h
  | _ => K (σ.eR o.dst undef) d h
def wpOps : List bf → Env → Sl → DS → AH → PQ → Prop
 | [], _, σ, d, h, Q => Q .normal σ d h
 | o :: l, e, σ, d, h, Q => wpOp P w0 o e σ d h Q fun σ d h => wpOps l e σ d h Q
def vK (act : iH) (dst : Option Pos) (vs : List Value) (σ : Sl) (h : AH) : Prop := match act, dst with
 | .aO p, some q => (bif p.makes then p.fresh vs (vu ⟨.e, [], .off, h⟩ (σ q)) = true else WP p vs h fun v' _ => rf v' (σ q) = true)
 | _, _ => False
def yr (o : bf) (σ : Sl) (h : AH) : Prop := match o.guard with
 | none => vK o.act o.dst (o.args.map (eg σ)) σ h
 | some (p, want) => match σ p with
  | .bool b => bif lU b want then vK o.act o.dst (o.args.map (eg σ)) σ h else True
  | _ => True
def vL : List iI → Env → Sl → DS → AH → PQ → Prop
 | [], _, σ, d, h, Q => Q .normal σ d h
 | .op _ o :: l, e, σ, d, h, Q => wpOp P w0 o e σ d h Q fun σ d h => vL l e σ d h Q
 | .lf _ o :: l, e, σ, d, h, Q => yr o σ h ∧ vL l e σ d h Q
def th (c : Sl → DS → AH → Prop) (Q : PQ) : PQ := fun x σ d h => match x with
 | .normal => c σ d h
 | x => Q x σ d h
def N6 (id : Nat) (Q : PQ) : PQ := fun x σ d h => match x with
 | .exit j => bif Nat.beq j id then Q .normal σ d h else Q (.exit j) σ d h
 | x => Q x σ d h
def dG : cN → Env → Sl → DS → AH → PQ → Prop
 | .skip, _, σ, d, h, Q => Q .normal σ d h
 | .ops l, e, σ, d, h, Q => wpOps P w0 l e σ d h Q
 | .draw l, e, σ, d, h, Q => vL P w0 l e σ d h Q
 | .seq a b, e, σ, d, h, Q => dG a e σ d h (th (fun σ d h => dG b e σ d h Q) Q)
 | .cond c a b, e, σ, d, h, Q => (match eg σ c with
  | .bool true => dG a e σ d h Q
  | .bool false => dG b e σ d h Q
  | _ => False)
 | .block id c, e, σ, d, h, Q => dG c e σ d h (N6 id Q)
 | .loop c, e, σ, d, h, Q => WC P w0 (.loop c) e σ d h Q
 | .mC f ps a b, e, σ, d, h, Q => WC P w0 (.mC f ps a b) e σ d h Q
 | .exit id, _, σ, d, h, Q => Q (.exit id) σ d h
 | .ret, _, σ, d, h, Q => Q .ret σ d h
end
section
variable {P : Program} {w0 : World}
theorem gn.mono {f : FuncId} {args : List Value} {h : AH} {k k' : CR → AH → Bool} (hk : ∀ r h, k r h = true → k' r h = true) (H : gn P w0 f args h k) : gn P w0 f args h k' :=
 ⟨H.1, fun φ args' w hl hh => (H.2 φ args' w hl hh).mono fun _ _ ⟨r, h', φ', h1, h2⟩ => ⟨r, h', φ', hk _ _ h1, h2⟩⟩
theorem qP.mono {l : Nat} {args : List Value} {h : AH} {k k' : CR → AH → Bool} (hk : ∀ r h, k r h = true → k' r h = true) (H : qP P w0 l args h k) : qP P w0 l args h k' := by
 intro φ args' l' w h1 h2 h3 h4
 obtain ⟨f, tmps, as, bd, h5, h6⟩ := H φ args' l' w h1 h2 h3 h4
 refine ⟨f, tmps, as, bd, h5, fun c cs => ?_⟩
 obtain ⟨v, v', h', φ', w', g1, g2⟩ := h6 c cs
 exact ⟨v, v', h', φ', w', hk _ _ g1, g2⟩
theorem Ah.mono {c : Code} {e : Env} {s : St} {k k' : KS} (hk : ∀ x s, k x s = true → k' x s = true) (H : Ah P w0 c e s k) : Ah P w0 c e s k' := by
 intro φ b cs0 cs a w h1 h2 it h3 todo
 obtain ⟨x, s', φ', cf, a', w', g1, g2⟩ := H φ b cs0 cs a w h1 h2 it h3 todo
 exact ⟨x, s', φ', cf, a', w', hk _ _ g1, g2⟩
theorem lT.mono {ds : List eB} {m : Option Value} {h : AH} {k k' : Option Value → AH → Bool} (hk : ∀ r h, k r h = true → k' r h = true) (H : lT P w0 ds m h k) : lT P w0 ds m h k' := by
 intro φ fr cs w h1 h2 h3
 obtain ⟨m', h', φ', w', u, g1, g2⟩ := H φ fr cs w h1 h2 h3
 exact ⟨m', h', φ', w', u, hk _ _ g1, g2⟩
theorem c8.vM {c : cN} {e : Env} {s : St} {k k' : KS} (hk : ∀ x s, k x s = true → k' x s = true) (H : c8 P w0 (.code c e s k)) : c8 P w0 (.code c e s k') := fun c hc => Ah.mono hk (H c hc)
theorem WP.mono {p : Prim} {vs : List Value} {h : AH} {R R' : Value → AH → Prop} (hk : ∀ v h, R v h → R' v h) (H : WP p vs h R) : WP p vs h R' := fun k dM => H k fun v h hr => dM v h (hk v h hr)
theorem cP {p : Prim} {vs : List Value} {h h' : AH} {v : Value} {R : Value → AH → Prop} (e : ∀ k : KV, p.ev vs h k = k v h') : WP p vs h R ↔ R v h' :=
 ⟨fun H => of_decide_eq_true ((e fun v h => decide (R v h)).symm.trans (H (fun v h => decide (R v h)) fun _ _ hr => decide_eq_true hr)), fun H k hk => by rw [e]; exact hk _ _ H⟩
theorem WF.mono {f : FuncId} {args : List Value} {h : AH} {R R' : CR → AH → Prop} (hk : ∀ r h, R r h → R' r h) (H : WF P w0 f args h R) : WF P w0 f args h R' :=
 gn.mono (fun r h hr => decide_eq_true (hk r h (of_decide_eq_true hr))) H
theorem WR.mono {l : Nat} {args : List Value} {h : AH} {R R' : CR → AH → Prop} (hk : ∀ r h, R r h → R' r h) (H : WR P w0 l args h R) : WR P w0 l args h R' :=
 qP.mono (fun r h hr => decide_eq_true (hk r h (of_decide_eq_true hr))) H
theorem WC.mono {c : cN} {e : Env} {σ : Sl} {d : DS} {h : AH} {Q Q' : PQ} (hk : ∀ x σ d h, Q x σ d h → Q' x σ d h) (H : WC P w0 c e σ d h Q) : WC P w0 c e σ d h Q' :=
 fun tm dN => c8.vM (fun x s hx => decide_eq_true (hk x _ _ _ (of_decide_eq_true hx))) (H tm dN)
variable (bA : P.follows .mixedOrders = true)
include bA
theorem pY {ac : cN} {e : Env} {s : St} {k : KS} (h : Mt (eS P w0) ac e s k = true) : c8 P w0 (.code ac e s k) :=
 fun c hc => U0 (Wm bA w0) (Bt P w0) c ac e s k hc h
omit bA
theorem afG {dst : Option Pos} {s : St} {fail : KS} {k : St → Bool} {r : CR} {h : AH} (H : match r with | .ret v => k ⟨s.tm.vI dst v, s.df, s.rc, h⟩ = true | .aN v => fail (.aN v) ⟨s.tm, s.df, s.rc, h⟩ = true) : nr dst s fail k r h = true := by
 cases r with
 | ret v => show gR dst s v h k = true; rw [vJ]; exact H
 | aN v => cases s; exact H
theorem ti (l m : List Value) (k : List Value → Bool) : gO l m k = k (l ++ m) := by
 induction l generalizing k with
 | nil => rfl
 | cons x l ih => show gO l m (fun l' => k (x :: l')) = _; rw [ih]; rfl
theorem Xo {act : iH} {dst : Option Pos} {e : Env} {tm : PT} {d : DS} {h : AH} {vs : List Value} {Q : PQ} {K : Sl → DS → AH → Prop} {k : St → Bool}
 (hk : ∀ tm d h, K tm.get d h → k ⟨tm, d.df, d.rc, h⟩ = true) (H : iQ P w0 act dst e tm.get d h vs Q K) :
 xW (eS P w0) act dst e ⟨tm, d.df, d.rc, h⟩ (fun x s => decide (Q x s.tm.get ⟨s.df, s.rc⟩ s.h)) k vs = true := by
 have key : ∀ (t : PT) (d : DS) (h : AH) (v : Value), K (Sl.eR t.get dst v) d h → k ⟨t.vI dst v, d.df, d.rc, h⟩ = true := fun t d h v hK =>
  hk (t.vI dst v) d h (by rw [Sl.Xn]; exact hK)
 have ret : ∀ r h', (match r with | .ret v => K (Sl.eR tm.get dst v) d h' | .aN v => Q (.aN v) tm.get d h' : Prop) → nr dst ⟨tm, d.df, d.rc, h⟩ (fun x s => decide (Q x s.tm.get ⟨s.df, s.rc⟩ s.h)) k r h' = true := fun r h' hr => by
  refine afG ?_
  cases r with
  | ret v => exact key tm d h' v hr
  | aN v => exact decide_eq_true hr
 cases act with
 | aO p =>
  show p.ev vs h (fun v h' => gR dst ⟨tm, d.df, d.rc, h⟩ v h' k) = true
  exact H _ fun v h' hK => by rw [vJ]; exact key tm d h' v hK
 | call f =>
  show eS P w0 (.call f vs h (nr dst ⟨tm, d.df, d.rc, h⟩ _ k)) = true
  exact kQ P w0 (gn.mono (fun r h' hr => ret r h' (of_decide_eq_true hr)) H)
 | dyn =>
  show Mc (eS P w0) dst e ⟨tm, d.df, d.rc, h⟩ _ k vs = true
  cases vs with
  | nil => exact H.elim
  | cons f as =>
   simp only [iQ] at H
   split at H
   · rename_i g first bD pH heq
     cases heq
     show gO _ _ _ = true
     rw [ti, ti]
     exact kQ P w0 (gn.mono (fun r h' hr => ret r h' (of_decide_eq_true hr)) H)
   · rename_i l pH heq
     cases heq
     exact kQ P w0 (qP.mono (fun r h' hr => ret r h' (of_decide_eq_true hr)) H)
   · exact H.elim
 | recover =>
  show Ap dst e ⟨tm, d.df, d.rc, h⟩ k vs = true
  simp only [iQ] at H
  unfold Ap
  split at H
  · rename_i he
    simp only [he]
    split at H
    · rename_i v hv
      simp only [hv]
      rw [vJ]; exact key tm ⟨d.df, .kH⟩ h v H
    · rename_i hv
      cases hr : d.rc with
      | can v => exact absurd hr (hv v)
      | off => simp only [vJ]; have := key tm d h .nilIface H; rw [hr] at this; exact this
      | kH => simp only [vJ]; have := key tm d h .nilIface H; rw [hr] at this; exact this
  · exact H.elim
 | panic =>
  show Fe ⟨tm, d.df, d.rc, h⟩ (fun x s => decide (Q x s.tm.get ⟨s.df, s.rc⟩ s.h)) vs = true
  simp only [iQ] at H
  split at H
  · exact decide_eq_true H
  · exact H.elim
 | defer =>
  show As dst e ⟨tm, d.df, d.rc, h⟩ k vs = true
  simp only [iQ] at H
  unfold As
  split at H
  · rename_i he
    simp only [he]
    show gO _ _ _ = true
    rw [ti, ti, vJ]
    exact key tm ⟨_ :: d.df, d.rc⟩ h undef H
  · exact H.elim
end
end
end Go.Ve
namespace Go.Ve
open Go.RowKit
open Classical
noncomputable section
section
variable {P : Program} {w0 : World}
theorem Xp (t : PT) (l : List dL) : l.map (ib t) = l.map (eg t.get) := List.map_congr_left fun o _ => N5 t o
theorem guard_of {g : Option (Pos × Bool)} {t : PT} {yes no : Bool} (H : match g with
 | none => yes = true
 | some (p, want) => match t.get p with
  | .bool b => (bif lU b want then yes else no) = true
  | _ => no = true) : ny g t yes no = true := by
 cases g with
 | none => exact H
 | some pw =>
  obtain ⟨p, want⟩ := pw
  show PT.de p t (vg want yes no) = true
  rw [PT.jv]
  unfold vg
  revert H
  simp only []
  generalize t.get p = v
  intro H
  split
  · exact H
  · rename_i cS
    revert H
    split
    · rename_i b; exact absurd rfl (cS b)
    · exact fun H => H
theorem Xq {o : bf} {e : Env} {tm : PT} {d : DS} {h : AH} {Q : PQ} {K : Sl → DS → AH → Prop} {k : St → Bool}
 (hk : ∀ tm d h, K tm.get d h → k ⟨tm, d.df, d.rc, h⟩ = true) (H : wpOp P w0 o e tm.get d h Q K) :
 sM (eS P w0) o e ⟨tm, d.df, d.rc, h⟩ (fun x s => decide (Q x s.tm.get ⟨s.df, s.rc⟩ s.h)) k = true := by
 obtain ⟨dst, act, args, g⟩ := o
 show ny g tm (nw args tm (xW (eS P w0) act dst e ⟨tm, d.df, d.rc, h⟩ _ k)) (gR dst ⟨tm, d.df, d.rc, h⟩ undef h k) = true
 rw [yd, vJ, Xp]
 have vC : K (Sl.eR tm.get dst undef) d h → k ⟨tm.vI dst undef, d.df, d.rc, h⟩ = true := fun hK => hk (tm.vI dst undef) d h (by rw [Sl.Xn]; exact hK)
 refine guard_of ?_
 unfold wpOp at H
 cases g with
 | none => exact Xo hk H
 | some pw =>
  obtain ⟨p, want⟩ := pw
  revert H
  simp only []
  generalize tm.get p = v
  intro H
  cases v <;> first | exact vC H | skip
  rename_i b
  simp only at H ⊢
  cases hb : lU b want with
  | true => rw [hb] at H; exact Xo hk H
  | false => rw [hb] at H; exact vC H
theorem afH {e : Env} {Q : PQ} : ∀ {l : List bf} {tm : PT} {d : DS} {h : AH}, wpOps P w0 l e tm.get d h Q → Ax (eS P w0) l e ⟨tm, d.df, d.rc, h⟩ (fun x s => decide (Q x s.tm.get ⟨s.df, s.rc⟩ s.h)) = true := by
 intro l
 induction l with
 | nil => intro tm d h H; exact decide_eq_true H
 | cons o l ih => intro tm d h H; exact Xq (k := fun s => Ax (eS P w0) l e s _) (fun tm d h hK => ih hK) H
theorem afI {o : bf} {tm : PT} {d : DS} {h : AH} (H : yr o tm.get h) : yc o ⟨tm, d.df, d.rc, h⟩ = true := by
 obtain ⟨dst, act, args, g⟩ := o
 show ny g tm (nw args tm fun vs => iH.casesOn (motive := fun _ => Bool) act (A9 dst ⟨tm, d.df, d.rc, h⟩ vs) lX false false false false) true = true
 rw [yd, Xp]
 refine guard_of ?_
 have body : vK act dst (args.map (eg tm.get)) tm.get h → iH.casesOn (motive := fun _ => Bool) act (A9 dst ⟨tm, d.df, d.rc, h⟩ (args.map (eg tm.get))) lX false false false false = true := by
  intro H
  unfold vK at H
  cases act with
  | aO p =>
   cases dst with
   | none => exact H.elim
   | some q =>
    show PT.de q tm (fun v => bif p.makes then p.fresh (args.map (eg tm.get)) (vu ⟨tm, d.df, d.rc, h⟩ v) else p.ev (args.map (eg tm.get)) h (A8 v)) = true
    rw [PT.jv]
    simp only at H
    cases hm : p.makes with
    | true => rw [hm] at H; exact H
    | false => rw [hm] at H; exact H _ fun v h hv => hv
  | _ => exact H.elim
 unfold yr at H
 cases g with
 | none => exact body H
 | some pw =>
  obtain ⟨p, want⟩ := pw
  revert H
  simp only []
  generalize tm.get p = v
  intro H
  cases v <;> first | exact trivial | skip
  rename_i b
  simp only at H ⊢
  cases hb : lU b want with
  | true => rw [hb] at H; exact body H
  | false => rfl
theorem afJ {e : Env} {Q : PQ} : ∀ {l : List iI} {tm : PT} {d : DS} {h : AH}, vL P w0 l e tm.get d h Q → nA (eS P w0) l e ⟨tm, d.df, d.rc, h⟩ (fun x s => decide (Q x s.tm.get ⟨s.df, s.rc⟩ s.h)) = true := by
 intro l
 induction l with
 | nil => intro tm d h H; exact decide_eq_true H
 | cons o l ih =>
  intro tm d h H
  cases o with
  | op i o => exact Xq (k := fun s => nA (eS P w0) l e s _) (fun tm d h hK => ih hK) H
  | lf i o =>
   exact (iff_eq (yc o ⟨tm, d.df, d.rc, h⟩) (nA (eS P w0) l e ⟨tm, d.df, d.rc, h⟩ fun x s => decide (Q x s.tm.get ⟨s.df, s.rc⟩ s.h))).2 ⟨afI H.1, ih H.2⟩
theorem Gk (bA : P.follows .mixedOrders = true) : ∀ (c : cN) {e : Env} {σ : Sl} {d : DS} {h : AH} {Q : PQ}, dG P w0 c e σ d h Q → WC P w0 c e σ d h Q := by
 intro c
 induction c with
 | skip => intro e σ d h Q H tm dN; subst dN; exact pY bA (decide_eq_true H)
 | ops l => intro e σ d h Q H tm dN; subst dN; exact pY bA (afH H)
 | draw l => intro e σ d h Q H tm dN; subst dN; exact pY bA (afJ H)
 | seq a b jB jd =>
  intro e σ d h Q H tm dN
  subst dN
  refine pY bA (kQ P w0 (c8.vM (fun x s hx => ?_) (jB H tm rfl)))
  have fb := of_decide_eq_true hx
  cases x with
  | normal => exact kQ P w0 (jd fb s.tm rfl)
  | exit id => exact decide_eq_true fb
  | ret => exact decide_eq_true fb
  | aN v => exact decide_eq_true fb
 | cond c a b jB jd =>
  intro e σ d h Q H tm dN
  subst dN
  refine pY bA ?_
  show qT c tm (fun v => qZ v fun t => Bool.casesOn (motive := fun _ => Bool) t (eS P w0 (.code b e _ _)) (eS P w0 (.code a e _ _))) = true
  rw [NA, N5]
  simp only [dG] at H
  revert H
  cases eg tm.get c <;> intro H <;> first | exact H.elim | skip
  rename_i t
  cases t with
  | true => exact kQ P w0 (jB H tm rfl)
  | false => exact kQ P w0 (jd H tm rfl)
 | block id c ih =>
  intro e σ d h Q H tm dN
  subst dN
  refine pY bA (kQ P w0 (c8.vM (fun x s hx => ?_) (ih H tm rfl)))
  have fb := of_decide_eq_true hx
  cases x with
  | normal => exact decide_eq_true fb
  | exit j =>
   show (bif Nat.beq j id then _ else _) = true
   have Gl : bif Nat.beq j id then Q .normal s.tm.get ⟨s.df, s.rc⟩ s.h else Q (.exit j) s.tm.get ⟨s.df, s.rc⟩ s.h := fb
   cases hj : Nat.beq j id with
   | true => rw [hj] at Gl; exact decide_eq_true Gl
   | false => rw [hj] at Gl; exact decide_eq_true Gl
  | ret => exact decide_eq_true fb
  | aN v => exact decide_eq_true fb
 | loop c ih => intro e σ d h Q H; exact H
 | mC f ps a b jB jd => intro e σ d h Q H; exact H
 | exit id => intro e σ d h Q H tm dN; subst dN; exact pY bA (decide_eq_true H)
 | ret => intro e σ d h Q H tm dN; subst dN; exact pY bA (decide_eq_true H)
theorem N7 (bA : P.follows .mixedOrders = true) {c : cN} {e : Env} {σ : Sl} {d : DS} {h : AH} {Q : PQ} (H : dG P w0 c e σ d h (th (fun σ d h => WC P w0 (.loop c) e σ d h Q) Q)) : WC P w0 (.loop c) e σ d h Q := by
 intro tm dN
 subst dN
 refine pY bA (kQ P w0 (c8.vM (fun x s hx => ?_) (Gk bA c H tm rfl)))
 have fb := of_decide_eq_true hx
 cases x with
 | normal => exact kQ P w0 ((show WC P w0 (.loop c) e s.tm.get ⟨s.df, s.rc⟩ s.h Q from fb) s.tm rfl)
 | exit id => exact decide_eq_true fb
 | ret => exact decide_eq_true fb
 | aN v => exact decide_eq_true fb
theorem Xr {act : iH} {dst : Option Pos} {e : Env} {σ : Sl} {d : DS} {h : AH} {vs : List Value} {Q Q' : PQ} {K K' : Sl → DS → AH → Prop} (hQ : ∀ x σ d h, Q x σ d h → Q' x σ d h) (hK : ∀ σ d h, K σ d h → K' σ d h)
 (H : iQ P w0 act dst e σ d h vs Q K) : iQ P w0 act dst e σ d h vs Q' K' := by
 have r : ∀ (r : CR) (h : AH), (match r with | .ret v => K (σ.eR dst v) d h | .aN v => Q (.aN v) σ d h : Prop) → (match r with | .ret v => K' (σ.eR dst v) d h | .aN v => Q' (.aN v) σ d h : Prop) := fun r h hr => by
  cases r with
  | ret v => exact hK _ _ _ hr
  | aN v => exact hQ _ _ _ _ hr
 cases act with
 | aO p => exact WP.mono (fun v h hv => hK _ _ _ hv) H
 | call f => exact WF.mono r H
 | dyn =>
  simp only [iQ] at H ⊢
  split at H
  · exact WF.mono r H
  · exact WR.mono r H
  · exact H.elim
 | recover =>
  simp only [iQ] at H ⊢
  split at H
  · split at H
    · exact hK _ _ _ H
    · exact hK _ _ _ H
  · exact H.elim
 | panic =>
  simp only [iQ] at H ⊢
  split at H
  · exact hQ _ _ _ _ H
  · exact H.elim
 | defer =>
  simp only [iQ] at H ⊢
  split at H
  · exact hK _ _ _ H
  · exact H.elim
theorem wpOp_mono {o : bf} {e : Env} {σ : Sl} {d : DS} {h : AH} {Q Q' : PQ} {K K' : Sl → DS → AH → Prop} (hQ : ∀ x σ d h, Q x σ d h → Q' x σ d h) (hK : ∀ σ d h, K σ d h → K' σ d h)
 (H : wpOp P w0 o e σ d h Q K) : wpOp P w0 o e σ d h Q' K' := by
 obtain ⟨dst, act, args, g⟩ := o
 unfold wpOp at H ⊢
 cases g with
 | none => exact Xr hQ hK H
 | some pw =>
  obtain ⟨p, want⟩ := pw
  revert H
  simp only []
  generalize σ p = v
  intro H
  cases v <;> first | exact hK _ _ _ H | skip
  rename_i b
  simp only at H ⊢
  revert H
  cases lU b want with
  | true => exact fun H => Xr hQ hK H
  | false => exact fun H => hK _ _ _ H
theorem afK {e : Env} {Q Q' : PQ} (hQ : ∀ x σ d h, Q x σ d h → Q' x σ d h) : ∀ {l : List bf} {σ : Sl} {d : DS} {h : AH}, wpOps P w0 l e σ d h Q → wpOps P w0 l e σ d h Q' := by
 intro l
 induction l with
 | nil => intro σ d h H; exact hQ _ _ _ _ H
 | cons o l ih => intro σ d h H; exact wpOp_mono hQ (fun _ _ _ => ih) H
theorem afL {e : Env} {Q Q' : PQ} (hQ : ∀ x σ d h, Q x σ d h → Q' x σ d h) : ∀ {l : List iI} {σ : Sl} {d : DS} {h : AH}, vL P w0 l e σ d h Q → vL P w0 l e σ d h Q' := by
 intro l
 induction l with
 | nil => intro σ d h H; exact hQ _ _ _ _ H
 | cons o l ih =>
  intro σ d h H
  cases o with
  | op i o => exact wpOp_mono hQ (fun _ _ _ => ih) H
  | lf i o => exact ⟨H.1, ih H.2⟩
theorem Gm : ∀ (c : cN) {e : Env} {σ : Sl} {d : DS} {h : AH} {Q Q' : PQ}, (∀ x σ d h, Q x σ d h → Q' x σ d h) → dG P w0 c e σ d h Q → dG P w0 c e σ d h Q' := by
 intro c
 induction c with
 | skip => intro e σ d h Q Q' hQ H; exact hQ _ _ _ _ H
 | ops l => intro e σ d h Q Q' hQ H; exact afK hQ H
 | draw l => intro e σ d h Q Q' hQ H; exact afL hQ H
 | seq a b jB jd =>
  intro e σ d h Q Q' hQ H
  refine jB (fun x σ d h hx => ?_) H
  cases x with
  | normal => exact jd hQ hx
  | _ => exact hQ _ _ _ _ hx
 | cond c a b jB jd =>
  intro e σ d h Q Q' hQ H
  simp only [dG] at H ⊢
  revert H
  cases eg σ c <;> intro H <;> first | exact H.elim | skip
  rename_i t
  revert H
  cases t with
  | true => exact fun H => jB hQ H
  | false => exact fun H => jd hQ H
 | block id c ih =>
  intro e σ d h Q Q' hQ H
  refine ih (fun x σ d h hx => ?_) H
  cases x with
  | exit j =>
   have fb : bif Nat.beq j id then Q .normal σ d h else Q (.exit j) σ d h := hx
   show bif Nat.beq j id then Q' .normal σ d h else Q' (.exit j) σ d h
   cases hj : Nat.beq j id with
   | true => rw [hj] at fb; exact hQ _ _ _ _ fb
   | false => rw [hj] at fb; exact hQ _ _ _ _ fb
  | _ => exact hQ _ _ _ _ hx
 | loop c ih => intro e σ d h Q Q' hQ H; exact WC.mono hQ H
 | mC f ps a b jB jd => intro e σ d h Q Q' hQ H; exact WC.mono hQ H
 | exit id => intro e σ d h Q Q' hQ H; exact hQ _ _ _ _ H
 | ret => intro e σ d h Q Q' hQ H; exact hQ _ _ _ _ H
def Gn (vs : List Value) : Sl := fun p => vs.getD p.un undef
def lx : List kE → Sl → AH → (List Value → Prop) → Prop
 | [], _, _, K => K []
 | .tmp p :: rs, σ, h, K => lx rs σ h fun vs => K (σ p :: vs)
 | .cell p none :: rs, σ, h, K => WP .aI [σ p] h fun v _ => lx rs σ h fun vs => K (v :: vs)
 | .cell p (some n) :: rs, σ, h, K => WP (.bF n) [σ p] h fun v _ => lx rs σ h fun vs => K (v :: vs)
def vN : List Value → Value
 | [v] => v
 | vs => .tuple ⟨vs⟩
def Bu (P : Program) (w0 : World) (rs : List kE) (R : CR → AH → Prop) : PQ := fun x σ d h => match x with
 | .aN v => WL P w0 d.df (some v) h fun m h => match m with
  | none => rs = [] ∧ R (.ret (.tuple ⟨[]⟩)) h
  | some v => R (.aN v) h
 | .exit _ => False
 | _ => WL P w0 d.df none h fun m h => match m with
  | none => lx rs σ h fun vs => R (.ret (vN vs)) h
  | some v => R (.aN v) h
theorem afM {tm : PT} {h : AH} : ∀ {rs : List kE} {K : List Value → Prop} {k : List Value → Bool}, (∀ vs, K vs → k vs = true) → lx rs tm.get h K → kj rs tm h k = true := by
 intro rs
 induction rs with
 | nil => intro K k hk H; exact hk _ H
 | cons r rs ih =>
  intro K k hk H
  cases r with
  | tmp p =>
   show PT.de p tm (fun v => kj rs tm h fun vs => k (v :: vs)) = true
   rw [PT.jv]
   exact ih (fun vs hv => hk _ hv) H
  | cell p n =>
   cases n with
   | none =>
    show PT.de p tm (fun v => hZ v fun b o => pM h b o fun x => kj rs tm h fun vs => k (x :: vs)) = true
    rw [PT.jv]
    exact H (fun v _ => kj rs tm h fun vs => k (v :: vs)) fun v h' hv => ih (fun vs hv => hk _ hv) hv
   | some n =>
    show PT.de p tm (fun v => hZ v fun b o => kI h b o n fun l => kj rs tm h fun vs => k (.agg ⟨l⟩ :: vs)) = true
    rw [PT.jv]
    exact H (fun v _ => kj rs tm h fun vs => k (v :: vs)) fun v h' hv => ih (fun vs hv => hk _ hv) hv
theorem afN (vs : List Value) (k : Value → Bool) : AI vs k = k (vN vs) := by
 cases vs with
 | nil => rfl
 | cons a l => cases l <;> rfl
theorem N8 {ds : List eB} {m : Option Value} {h : AH} {K : Option Value → AH → Prop} {k : Option Value → AH → Bool} (hk : ∀ m h, K m h → k m h = true) (H : WL P w0 ds m h K) : eS P w0 (.leave ds m h k) = true := by
 cases ds with
 | nil => exact kQ P w0 (Mw (rec := eS P w0) (Bt P w0) (show Mx (eS P w0) [] m h k = true from hk _ _ H))
 | cons a l => exact kQ P w0 (lT.mono (fun r h hr => hk _ _ (of_decide_eq_true hr)) H)
theorem afO {rs : List kE} {R : CR → AH → Prop} {x : AX} {s : St} (H : Bu P w0 rs R x s.tm.get ⟨s.df, s.rc⟩ s.h) : AK (eS P w0) rs (fun r h => decide (R r h)) x s = true := by
 have hn : WL P w0 s.df none s.h (fun m h => match m with | none => lx rs s.tm.get h fun vs => R (.ret (vN vs)) h | some v => R (.aN v) h) → eS P w0 (.leave s.df none s.h (AL rs s.tm fun r h => decide (R r h))) = true := fun H =>
  N8 (fun m h hm => by
   cases m with
   | none =>
    show kj rs s.tm h (fun vs => AI vs fun v => decide (R (.ret v) h)) = true
    exact afM (fun vs hv => by rw [afN]; exact decide_eq_true hv) hm
   | some v => exact decide_eq_true hm) H
 cases x with
 | normal => exact hn H
 | ret => exact hn H
 | exit id => exact H.elim
 | aN v =>
  have H' : WL P w0 s.df (some v) s.h (fun m h => match m with | none => rs = [] ∧ R (.ret (.tuple ⟨[]⟩)) h | some v => R (.aN v) h) := H
  refine N8 (fun m h hm => ?_) H'
  cases m with
  | none =>
   obtain ⟨h1, h2⟩ := hm
   subst h1
   exact decide_eq_true h2
  | some v => exact decide_eq_true hm
theorem afP {args : List Value} {tm : PT} (dN : ∀ p : Pos, tm.get p = if 0 ≤ p.un ∧ p.un < 0 + args.length then args.getD (p.un - 0) undef else PT.e.get p) : tm.get = Gn args := by
 funext p
 rw [dN p]
 unfold Gn
 split
 · rfl
 · rw [PT.TT]
   have : ¬ p.un < args.length := by omega
   simp [List.getD, this]
theorem Ej (bA : P.follows .mixedOrders = true) {f : FuncId} {af : gB} (hf : bZ P f = some af) {args : List Value} {h : AH} {R : CR → AH → Prop}
 (H : dG P w0 af.code ⟨f, af.ntmps, none⟩ (Gn args) ⟨[], .off⟩ h (Bu P w0 af.results R)) : WF P w0 f args h R := by
 refine U7 (Bt P w0) hf ?_
 obtain ⟨nt, rs, code, dt⟩ := af
 show qU 0 args .e (fun tm => eS P w0 (.code code ⟨f, nt, none⟩ ⟨tm, [], .off, h⟩ (AK (eS P w0) rs _))) = true
 have lay : ∀ (vs : List Value) (i : Nat) (t : PT) (k : PT → Bool), (∀ t' : PT, (∀ p : Pos, t'.get p = if i ≤ p.un ∧ p.un < i + vs.length then vs.getD (p.un - i) undef else t.get p) → k t' = true) → qU i vs t k = true := by
  intro vs
  induction vs with
  | nil => intro i t k hk; exact hk t fun p => by rw [if_neg (by simp)]
  | cons v vs ih =>
   intro i t k hk
   show PT.fW (Pos.of i) t v (fun t => qU (i + 1) vs t k) = true
   rw [PT.lb]
   refine ih _ _ _ fun t' sR => hk t' fun p => ?_
   rw [sR, PT.c7]
   by_cases h3 : p.un = i
   · have hp : p = Pos.of i := Pos.sx (by rw [Pos.kD]; exact h3)
     rw [if_neg (by omega), if_pos hp, if_pos (by simp; omega)]
     simp [h3]
   · have hp : ¬ p = Pos.of i := fun e => h3 (by rw [e, Pos.kD])
     by_cases h4 : i + 1 ≤ p.un ∧ p.un < i + 1 + vs.length
     · rw [if_pos h4, if_pos (by simp; omega)]
       have : p.un - i = (p.un - (i + 1)) + 1 := by omega
       rw [this]; simp
     · rw [if_neg h4, if_neg hp, if_neg (by simp; omega)]
 refine lay args 0 .e _ fun tm dN => ?_
 exact kQ P w0 (c8.vM (fun x s hx => afO (of_decide_eq_true hx)) (Gk bA code H tm (afP dN)))
def AH.Ok (h : AH) : Prop := ∀ f, h.nx ≤ f → h.ob.get f = none
end
end
end Go.Ve
namespace Go.Ve
open Go.RowKit
noncomputable section
theorem fe (k : Bool) : iff true k = k := rfl
theorem rq (k : IntKind) : fy k k = true := by cases k <;> rfl
theorem afQ (a b : Nat) : Nat.beq a b = decide (a = b) := by
 by_cases h : a = b
 · subst h; simp
 · rw [eO h]; simp [h]
theorem Gp (a b : Int) : lq a b = decide (a = b) := by
 rw [Bool.eq_iff_iff, decide_eq_true_iff]
 cases a <;> cases b <;> simp only [lq, afQ, decide_eq_true_iff]
 · exact Int.ofNat_inj.symm
 · constructor
   · intro h; cases h
   · intro h; cases h
 · constructor
   · intro h; cases h
   · intro h; cases h
 · constructor
   · intro h; rw [h]
   · intro h; cases h; rfl
theorem Gq (a b : Int) : lW a b = decide (a < b) := by
 rw [Bool.eq_iff_iff, decide_eq_true_iff]
 cases a <;> cases b <;> simp only [lW]
 · rename_i a b
   show Nat.ble (a + 1) b = true ↔ _
   rw [Nat.ble_eq]
   show a + 1 ≤ b ↔ (a : Int) < (b : Int)
   omega
 · rename_i a b
   constructor
   · intro h; cases h
   · intro h; have h' : (a : Int) < Int.negSucc b := h; omega
 · rename_i a b
   constructor
   · intro _; show Int.negSucc a < (b : Int); omega
   · intro _; first | trivial | rfl
 · rename_i a b
   show Nat.ble (b + 1) a = true ↔ Int.negSucc a < Int.negSucc b
   rw [Nat.ble_eq]
   omega
theorem l4 {n : Int} (h1 : -9223372036854775808 ≤ n) (h2 : n ≤ 9223372036854775807) : bH .i64 n = n := by
 cases n with
 | ofNat a =>
  show (bif Nat.ble a qX then (Int.ofNat a) else _) = _
  have : Nat.ble a qX = true := by rw [Nat.ble_eq]; have : ((a : Nat) : Int) ≤ 9223372036854775807 := h2; show a ≤ 9223372036854775807; omega
  rw [this]; rfl
 | negSucc a =>
  show (bif Nat.ble a qX then (Int.negSucc a) else _) = _
  have : Nat.ble a qX = true := by rw [Nat.ble_eq]; show a ≤ 9223372036854775807; omega
  rw [this]; rfl
def AH.rd (h : AH) (b o : Nat) : Option Value := match h.ob.get b with
 | some (.cells lo hi _ _ c) => if lo ≤ o ∧ o + 1 ≤ hi then c.get o else none
 | _ => none
def AH.can (h : AH) (b o n : Nat) : Prop := ∃ lo hi ty c, h.ob.get b = some (.cells lo hi ty true c) ∧ lo ≤ o ∧ o + n ≤ hi
def iR : NT Value → Nat → List Value → NT Value
 | c, _, [] => c
 | c, i, v :: l => iR (c.set i (some v)) (i + 1) l
def AH.wr (h : AH) (b o : Nat) (l : List Value) : AH := match h.ob.get b with
 | some (.cells lo hi ty rw c) => ⟨h.nx, h.ob.set b (some (.cells lo hi ty rw (iR c o l)))⟩
 | _ => h
def AH.new (h : AH) (ty : TypeId) (l : List Value) : AH := ⟨h.nx + 1, h.ob.set h.nx (some (.cells 0 l.length ty true (iR .e 0 l)))⟩
theorem Gr : ∀ (l : List Value) (c : NT Value) (i : Nat) (k : NT Value → Bool), vm c i l k = k (iR c i l)
 | [], c, i, k => rfl
 | v :: l, c, i, k => by
  show NT.fW (n8 i) c i (some v) (fun c' => fN (Nat.succ i) fun i' => vm c' i' l k) = _
  rw [NT.lb, bT, Gr l]
  rfl
theorem vO : ∀ (l : List Value) (c : NT Value) (i j : Nat), (iR c i l).get j = if i ≤ j ∧ j < i + l.length then l[j - i]? else c.get j
 | [], c, i, j => by
  rw [if_neg (fun h => by have := h.2; simp at this; omega)]; rfl
 | v :: l, c, i, j => by
  show (iR (c.set i (some v)) (i + 1) l).get j = _
  rw [vO l, NT.c7]
  by_cases h : j = i
  · subst h
    rw [if_neg (by omega), if_pos rfl, if_pos (by simp)]
    simp
  · rw [if_neg h]
    by_cases h2 : i + 1 ≤ j ∧ j < i + 1 + l.length
    · rw [if_pos h2, if_pos (by simp; omega)]
      have : j - i = (j - (i + 1)) + 1 := by omega
      rw [this]; simp
    · rw [if_neg h2, if_neg (by simp; omega)]
theorem AH.Gs (h : AH) (ty : TypeId) (l : List Value) (b o : Nat) : (h.new ty l).rd b o = if b = h.nx then l[o]? else h.rd b o := by
 unfold AH.rd AH.new
 simp only [NT.c7]
 by_cases e : b = h.nx
 · subst e
   simp only [if_true]
   rw [vO]
   by_cases ho : o < l.length
   · rw [if_pos (by omega), if_pos (by omega)]; rfl
   · rw [if_neg (by omega)]; simp [Nat.le_of_not_lt ho]
 · simp only [if_neg e]
theorem AH.N9 (h : AH) (ty : TypeId) (l : List Value) : (h.new ty l).nx = h.nx + 1 := rfl
theorem AH.tj {h : AH} (H : h.Ok) (ty : TypeId) (l : List Value) : (h.new ty l).Ok := fun f hf => by
 have : h.nx + 1 ≤ f := hf
 show (h.ob.set h.nx _).get f = none
 rw [NT.c7, if_neg (by omega)]
 exact H f (by omega)
theorem AH.Xs (h : AH) (ty : TypeId) (l : List Value) {o n : Nat} (hn : o + n ≤ l.length) : (h.new ty l).can h.nx o n :=
 ⟨0, l.length, ty, _, by show (h.ob.set h.nx _).get h.nx = _; rw [NT.c7, if_pos rfl], Nat.zero_le _, hn⟩
theorem AH.afR {h : AH} (ty : TypeId) (l : List Value) {b o n : Nat} (H : h.can b o n) (hb : b ≠ h.nx) : (h.new ty l).can b o n := by
 obtain ⟨lo, hi, bU, c, h1, h2, h3⟩ := H
 exact ⟨lo, hi, bU, c, by show (h.ob.set h.nx _).get b = _; rw [NT.c7, if_neg hb]; exact h1, h2, h3⟩
theorem AH.l5 (h : AH) (b o : Nat) (l : List Value) : (h.wr b o l).nx = h.nx := by unfold AH.wr; split <;> rfl
theorem AH.tk (h : AH) {b o : Nat} {l : List Value} {b' : Nat} (hb : b' ≠ b) : (h.wr b o l).ob.get b' = h.ob.get b' := by
 unfold AH.wr; split
 · simp only [NT.c7, if_neg hb]
 · rfl
theorem AH.yt {h : AH} {b o n : Nat} {l : List Value} (H : h.can b o n) (hl : l.length ≤ n) (b' o' : Nat) : (h.wr b o l).rd b' o' = if b' = b ∧ o ≤ o' ∧ o' < o + l.length then l[o' - o]? else h.rd b' o' := by
 obtain ⟨lo, hi, ty, c, h1, h2, h3⟩ := H
 by_cases e : b' = b
 · subst e
   unfold AH.rd AH.wr
   simp only [h1, NT.c7, if_true]
   rw [vO]
   by_cases ho : o ≤ o' ∧ o' < o + l.length
   · simp only [ho, and_self, if_true]
     rw [if_pos (by omega)]
   · simp only [true_and, if_neg ho]
 · rw [if_neg (fun h => e h.1)]
   unfold AH.rd
   rw [AH.tk h e]
theorem AH.Xt {h : AH} {b o : Nat} {l : List Value} {b' o' n' : Nat} (H : h.can b' o' n') : (h.wr b o l).can b' o' n' := by
 by_cases e : b' = b
 · subst e
   obtain ⟨lo, hi, ty, c, h1, h2, h3⟩ := H
   unfold AH.can AH.wr
   simp only [h1, NT.c7, if_true]
   exact ⟨lo, hi, ty, _, rfl, h2, h3⟩
 · obtain ⟨lo, hi, ty, c, h1, h2, h3⟩ := H
   exact ⟨lo, hi, ty, c, by rw [AH.tk h e]; exact h1, h2, h3⟩
theorem AH.vP {h : AH} (H : h.Ok) (b o : Nat) (l : List Value) : (h.wr b o l).Ok := fun f hf => by
 rw [AH.l5] at hf
 unfold AH.wr
 split
 · rename_i lo hi ty rw c heq
   show (h.ob.set b _).get f = none
   rw [NT.c7]
   by_cases e : f = b
   · subst e; rw [H f hf] at heq; cases heq
   · rw [if_neg e]; exact H f hf
 · exact H f hf
theorem AH.lt_of_get {h : AH} (H : h.Ok) {b : Nat} {o : AO} (hr : h.ob.get b = some o) : b < h.nx := by
 rcases Nat.lt_or_ge b h.nx with h1 | h1
 · exact h1
 · rw [H b h1] at hr; cases hr
theorem AH.afS {h : AH} {b o : Nat} {v : Value} (hr : h.rd b o = some v) : ∃ a, h.ob.get b = some a := by
 unfold AH.rd at hr
 split at hr
 · rename_i heq; exact ⟨_, heq⟩
 · cases hr
theorem AH.afT {h : AH} (H : h.Ok) {b o : Nat} {v : Value} (hr : h.rd b o = some v) : b < h.nx := by
 obtain ⟨a, ha⟩ := AH.afS hr; exact AH.lt_of_get H ha
structure cU (h h' : AH) : Prop where
 nx : h.nx ≤ h'.nx
 get : ∀ b, b < h.nx → h'.ob.get b = h.ob.get b
theorem cU.refl (h : AH) : cU h h := ⟨Nat.le_refl _, fun _ _ => rfl⟩
theorem cU.trans {a b c : AH} (h1 : cU a b) (h2 : cU b c) : cU a c := ⟨Nat.le_trans h1.nx h2.nx, fun f hf => (h2.get f (Nat.lt_of_lt_of_le hf h1.nx)).trans (h1.get f hf)⟩
theorem cU.new (h : AH) (ty : TypeId) (l : List Value) : cU h (h.new ty l) := ⟨Nat.le_succ _, fun f hf => by show (h.ob.set h.nx _).get f = _; rw [NT.c7, if_neg (by omega)]⟩
theorem cU.wr {a h : AH} (H : cU a h) {b : Nat} (hb : a.nx ≤ b) (o : Nat) (l : List Value) : cU a (h.wr b o l) :=
 ⟨by rw [AH.l5]; exact H.nx, fun f hf => by rw [AH.tk h (by omega)]; exact H.get f hf⟩
theorem cU.rd {h h' : AH} (H : cU h h') (eD : h.Ok) {b o : Nat} {v : Value} (hr : h.rd b o = some v) : h'.rd b o = some v := by
 have := AH.afT eD hr
 unfold AH.rd at hr ⊢
 rw [H.get b this]; exact hr
def AH.aZ (h : AH) (b o : Nat) (l : List Value) : Prop := ∀ i v, l[i]? = some v → h.rd b (o + i) = some v
theorem AH.Oa (h : AH) (b o : Nat) : h.aZ b o [] := fun i v hv => by simp at hv
theorem AH.Xu {h : AH} {b o : Nat} {v : Value} {l : List Value} : h.aZ b o (v :: l) ↔ h.rd b o = some v ∧ h.aZ b (o + 1) l := by
 constructor
 · intro H
   exact ⟨H 0 v rfl, fun i u hu => by have := H (i + 1) u (by simpa using hu); rwa [show o + (i + 1) = o + 1 + i by omega] at this⟩
 · rintro ⟨h1, h2⟩ i u hu
   cases i with
   | zero => simp at hu; subst hu; exact h1
   | succ i => have := h2 i u (by simpa using hu); rwa [show o + 1 + i = o + (i + 1) by omega] at this
theorem cU.aZ {h h' : AH} (H : cU h h') (eD : h.Ok) {b o : Nat} {l : List Value} (hr : h.aZ b o l) : h'.aZ b o l := fun i v hv => H.rd eD (hr i v hv)
theorem AH.Gt (h : AH) (ty : TypeId) (l : List Value) : (h.new ty l).aZ h.nx 0 l := fun i v hv => by rw [AH.Gs, if_pos rfl, Nat.zero_add]; exact hv
theorem Oc {α : Type} {t : NT α} : ∀ {i : Nat} {k : α → Bool} {x : α}, t.get i = some x → t.de i k = k x := by
 induction t with
 | e => intro i k x h; cases h
 | n l v r Od ihr =>
  intro i k x hx
  rw [NT.LB]
  rw [NT.get] at hx
  cases h0 : Nat.beq i 0 with
  | true => rw [h0] at hx; cases v with
   | none => cases hx
   | some y => cases hx; rfl
  | false =>
   rw [h0] at hx
   cases h1 : Nat.beq (Nat.mod i 2) 1 with
   | true => rw [h1] at hx; exact Od hx
   | false => rw [h1] at hx; exact ihr hx
theorem tl {h : AH} {b : Nat} {o : AO} (ho : h.ob.get b = some o) (k : AO → Bool) : mL h b k = k o := by
 cases h; exact Oc ho
theorem Oe (h : AH) (b : Nat) (o : Option AO) (k : AH → Bool) : fM h b o k = k ⟨h.nx, h.ob.set b o⟩ := by
 cases h with
 | mk nx ob => exact NT.lb ob b o fun aS => k ⟨nx, aS⟩
theorem Of (h : AH) (o : AO) (k : Nat → AH → Bool) : kL h o k = k h.nx ⟨h.nx + 1, h.ob.set h.nx (some o)⟩ := by
 cases h with
 | mk nx ob =>
  show NT.fW (n8 nx) ob nx (some o) (fun aS => fN (Nat.succ nx) fun pR => k nx ⟨pR, aS⟩) = _
  rw [NT.lb, bT]
theorem vQ (h : AH) (ty : TypeId) {l : List Value} (ha : cO l = true) (k : Nat → AH → Bool) : jT h ty l k = k h.nx (h.new ty l) := by
 unfold jT
 rw [ha, fe, Gr, bT, Of]
 rfl
theorem Xv (c : NT Value) : ∀ (l : List Value) (i : Nat) (k : List Value → Bool), (∀ j v, l[j]? = some v → c.get (i + j) = some v) → nG c i l.length k = k l
 | [], i, k, _ => rfl
 | v :: l, i, k, H => by
  show NT.de c i (fun v => fN (Nat.succ i) fun i' => nG c i' l.length fun l => k (v :: l)) = _
  rw [Oc (by have := H 0 v rfl; rwa [Nat.add_zero] at this), bT, Xv c l (i + 1) _ fun j u hu => by
   have := H (j + 1) u (by simpa using hu); rwa [show i + (j + 1) = i + 1 + j by omega] at this]
theorem Gu {h : AH} {b o : Nat} {v : Value} (hr : h.rd b o = some v) : ∃ lo hi ty rw c, h.ob.get b = some (.cells lo hi ty rw c) ∧ lo ≤ o ∧ o + 1 ≤ hi ∧ c.get o = some v := by
 unfold AH.rd at hr
 split at hr
 · rename_i lo hi ty rw c heq
   split at hr
   · rename_i hb; exact ⟨lo, hi, ty, rw, c, heq, hb.1, hb.2, hr⟩
   · cases hr
 · cases hr
theorem afU {h : AH} {b o : Nat} {v : Value} (hr : h.rd b o = some v) (k : Value → Bool) : pM h b o k = k v := by
 obtain ⟨lo, hi, ty, rw, c, h1, h2, h3, h4⟩ := Gu hr
 unfold pM kM
 rw [tl h1]
 show iff (Nat.ble lo o && Nat.ble (Nat.succ o) hi) (NT.de c o k) = _
 have e : (Nat.ble lo o && Nat.ble (Nat.succ o) hi) = true := by simp only [Bool.and_eq_true, Nat.ble_eq]; exact ⟨h2, h3⟩
 rw [e, fe, Oc h4]
theorem afV {h : AH} {b o : Nat} {l : List Value} (hr : h.aZ b o l) (hl : 0 < l.length) : ∃ lo hi ty rw c, h.ob.get b = some (.cells lo hi ty rw c) ∧ lo ≤ o ∧ o + l.length ≤ hi ∧ ∀ j v, l[j]? = some v → c.get (o + j) = some v := by
 obtain ⟨lo, hi, ty, rw, c, h1, h2, h3, h4⟩ := Gu (hr 0 l[0] (by simp [hl]))
 have key : ∀ j v, l[j]? = some v → lo ≤ o + j ∧ o + j + 1 ≤ hi ∧ c.get (o + j) = some v := by
  intro j v hv
  obtain ⟨tn, cz, bU, lQ, c', g1, g2, g3, g4⟩ := Gu (hr j v hv)
  rw [h1] at g1; cases g1
  exact ⟨g2, g3, g4⟩
 refine ⟨lo, hi, ty, rw, c, h1, h2, ?_, fun j v hv => (key j v hv).2.2⟩
 have := (key (l.length - 1) l[l.length - 1] (by simp [hl])).2.1
 omega
theorem Og {h : AH} {b o n : Nat} {l : List Value} (hr : h.aZ b o l) (hn : l.length = n) (hl : 0 < n) (k : List Value → Bool) : kI h b o n k = k l := by
 subst hn
 obtain ⟨lo, hi, ty, rw, c, h1, h2, h3, h4⟩ := afV hr hl
 unfold kI kM
 rw [tl h1]
 show iff (Nat.ble lo o && Nat.ble (Nat.add o l.length) hi) (nG c o l.length k) = _
 have e : (Nat.ble lo o && Nat.ble (Nat.add o l.length) hi) = true := by simp only [Bool.and_eq_true, Nat.ble_eq]; exact ⟨h2, h3⟩
 rw [e, fe, Xv c l o k h4]
theorem Oh {h : AH} {b o : Nat} {l : List Value} (hc : h.can b o l.length) (ha : cO l = true) (k : AH → Bool) : pS h b o l k = k (h.wr b o l) := by
 obtain ⟨lo, hi, ty, c, h1, h2, h3⟩ := hc
 unfold pS kM
 rw [tl h1]
 show iff (true && Nat.ble lo o && Nat.ble (Nat.add o l.length) hi && cO l) _ = _
 have e : (true && Nat.ble lo o && Nat.ble (Nat.add o l.length) hi && cO l) = true := by simp only [Bool.and_eq_true, Nat.ble_eq]; exact ⟨⟨⟨trivial, h2⟩, h3⟩, ha⟩
 rw [e, fe, Gr, Oe]
 unfold AH.wr
 rw [h1]
theorem tp : ∀ (l : List Value) (n : Nat), hY l n = decide (l.length = n)
 | [], 0 => rfl
 | [], n + 1 => by show false = _; simp
 | v :: l, 0 => by show false = _; simp
 | v :: l, n + 1 => by show hY l n = _; rw [tp l n]; simp
section
variable {h : AH} {R : Value → AH → Prop}
theorem Oi {x : Value} : WP .move [x] h R ↔ R x h := cP fun _ => rfl
theorem bK {c : Bool} {a b : Value} : WP .pick [.bool c, a, b] h R ↔ R (bif c then a else b) h := cP fun k => by cases c <;> rfl
theorem Bv {ty : TypeId} {zero : List Value} (ha : cO zero = true) : WP (.alloc ty zero) [] h R ↔ R (aC h.nx 0) (h.new ty zero) := cP fun k => vQ h ty ha _
theorem Gv {ty : TypeId} {v : Value} (ha : cO (cellsOf v) = true) : WP (.box ty) [v] h R ↔ R (aC h.nx 0) (h.new ty (cellsOf v)) := cP fun k => vQ h ty ha _
abbrev eT (b o n c : Nat) : Value := .slice (some ⟨b, o, none⟩) n c
abbrev vi (n : Int) : Value := .int .i64 n
abbrev cZ : Value := .slice none 0 0
theorem Gw {b o : Nat} {s : Option Nat} {v : Value} (hr : h.rd b o = some v) : WP .aI [.pointer (some ⟨b, o, s⟩)] h R ↔ R v h := cP fun _ => afU hr _
theorem Gx {b o n : Nat} {s : Option Nat} {l : List Value} (hr : h.aZ b o l) (hn : l.length = n) (h0 : 0 < n) : WP (.bF n) [.pointer (some ⟨b, o, s⟩)] h R ↔ R (.agg ⟨l⟩) h := cP fun _ => Og hr hn h0 _
theorem Gy {b o n : Nat} {s : Option Nat} {v : Value} (hc : h.can b o n) (hn : (cellsOf v).length = n) (ha : cO (cellsOf v) = true) : WP (.store n) [.pointer (some ⟨b, o, s⟩), v] h R ↔ R undef (h.wr b o (cellsOf v)) :=
 cP fun k => by
  show iff (hY (cellsOf v) n) (pS h b o (cellsOf v) fun h => k undef h) = _
  rw [tp, decide_eq_true hn, fe, Oh (by rw [hn]; exact hc) ha]
theorem cb {b o off : Nat} {s : Option Nat} : WP (.fieldAddr off) [.pointer (some ⟨b, o, s⟩)] h R ↔ R (aC b (o + off)) h := cP fun k => by
 show fN (Nat.add o off) (fun o' => k (aC b o') h) = _
 rw [bT]; rfl
theorem Gz : ∀ {l : List Value} {i : Nat} {v : Value} (_ : l[i]? = some v) (k : Value → Bool), nF l i k = k v
 | [], i, v, h, k => by simp at h
 | x :: l, 0, v, h, k => by simp at h; subst h; rfl
 | x :: l, i + 1, v, h, k => by show nF l i k = _; exact Gz (by simpa using h) k
theorem Oj : ∀ {l : List Value} {i : Nat} (_ : i ≤ l.length) (k : List Value → Bool), pQ l i k = k (l.drop i)
 | [], 0, h, k => rfl
 | [], i + 1, h, k => by simp at h
 | x :: l, 0, h, k => rfl
 | x :: l, i + 1, h, k => by show pQ l i k = _; rw [Oj (by simpa using h)]; rfl
theorem Ol : ∀ {l : List Value} {i : Nat} (_ : i ≤ l.length) (k : List Value → Bool), pP l i k = k (l.take i)
 | [], 0, h, k => rfl
 | [], i + 1, h, k => by simp at h
 | x :: l, 0, h, k => rfl
 | x :: l, i + 1, h, k => by show pP l i (fun l' => k (x :: l')) = _; rw [Ol (by simpa using h)]; rfl
theorem afW {sz b o n c i : Nat} {kd : IntKind} {s : Option Nat} (hi : i < n) : WP (.cd sz) [.slice (some ⟨b, o, s⟩) n c, .int kd (i : Int)] h R ↔ R (aC b (o + i * sz)) h := cP fun k => by
 show iff (Nat.ble (Nat.succ i) n) (fN (Nat.add o (Nat.mul i sz)) fun o' => k (aC b o') h) = _
 have : Nat.ble (Nat.succ i) n = true := by rw [Nat.ble_eq]; exact hi
 rw [this, fe, bT]; rfl
theorem afX {len i : Nat} {kd : IntKind} {l : List Value} {v : Value} (hi : i < len) (hv : l[i]? = some v) : WP (.qv len) [.agg ⟨l⟩, .int kd (i : Int)] h R ↔ R v h := cP fun k => by
 show iff (Nat.ble (Nat.succ i) len) (nF l i fun v => k v h) = _
 have : Nat.ble (Nat.succ i) len = true := by rw [Nat.ble_eq]; exact hi
 rw [this, fe, Gz hv]
theorem afY {len sz i : Nat} {kd : IntKind} {l : List Value} (hi : i < len) (hl : len * sz ≤ l.length) : WP (.I5 len sz) [.agg ⟨l⟩, .int kd (i : Int)] h R ↔ R (.agg ⟨(l.drop (i * sz)).take sz⟩) h := cP fun k => by
 show iff (Nat.ble (Nat.succ i) len) (pQ l (Nat.mul i sz) fun l => pP l sz fun l => k (.agg ⟨l⟩) h) = _
 have : Nat.ble (Nat.succ i) len = true := by rw [Nat.ble_eq]; exact hi
 have h1 : i * sz + sz ≤ l.length := by
  have : (i + 1) * sz ≤ len * sz := Nat.mul_le_mul_right _ hi
  rw [Nat.add_mul] at this; omega
 rw [this, fe, show Nat.mul i sz = i * sz from rfl, Oj (by omega), Ol (by simp only [List.length_drop]; omega)]
theorem ie {k : IntKind} {x y : Int} : WP (.aL .add) [.int k x, .int k y] h R ↔ R (.int k (bH k (x + y))) h := cP fun kk => by
 show iff (fy k k) (fI (bH k (Int.add x y)) fun n => kk (.int k n) h) = _
 rw [rq, fe, ot]; rfl
theorem mP {k : IntKind} {x y : Int} : WP (.aL .sub) [.int k x, .int k y] h R ↔ R (.int k (bH k (x - y))) h := cP fun kk => by
 show iff (fy k k) (fI (bH k (Int.sub x y)) fun n => kk (.int k n) h) = _
 rw [rq, fe, ot]; rfl
theorem di {k : IntKind} {x y : Int} : WP (.aL .eql) [.int k x, .int k y] h R ↔ R (.bool (decide (x = y))) h := cP fun kk => by
 show iff (fy k k) (fB (lq x y) fun b => kk (.bool b) h) = _
 rw [rq, fe, ia, Gp]
theorem ru {k : IntKind} {x y : Int} : WP (.aL .neq) [.int k x, .int k y] h R ↔ R (.bool (!decide (x = y))) h := cP fun kk => by
 show iff (fy k k) (fB (!lq x y) fun b => kk (.bool b) h) = _
 rw [rq, fe, ia, Gp]
theorem ff {k : IntKind} {x y : Int} : WP (.aL .lss) [.int k x, .int k y] h R ↔ R (.bool (decide (x < y))) h := cP fun kk => by
 show iff (fy k k) (fB (lW x y) fun b => kk (.bool b) h) = _
 rw [rq, fe, ia, Gq]
theorem rv {k : IntKind} {x y : Int} : WP (.aL .leq) [.int k x, .int k y] h R ↔ R (.bool (decide (x ≤ y))) h := cP fun kk => by
 show iff (fy k k) (fB (!lW y x) fun b => kk (.bool b) h) = _
 rw [rq, fe, ia, Gq]
 congr 2
 rw [← decide_not]
 congr 1
 exact propext Int.not_lt
theorem ox {k : IntKind} {x y : Int} : WP (.aL .gtr) [.int k x, .int k y] h R ↔ R (.bool (decide (y < x))) h := cP fun kk => by
 show iff (fy k k) (fB (lW y x) fun b => kk (.bool b) h) = _
 rw [rq, fe, ia, Gq]
theorem nM {k : IntKind} {x y : Int} : WP (.aL .geq) [.int k x, .int k y] h R ↔ R (.bool (decide (y ≤ x))) h := cP fun kk => by
 show iff (fy k k) (fB (!lW x y) fun b => kk (.bool b) h) = _
 rw [rq, fe, ia, Gq]
 congr 2
 rw [← decide_not]
 congr 1
 exact propext Int.not_lt
theorem fE {b : Bool} : WP .eY [.bool b] h R ↔ R (.bool (!b)) h := cP fun kk => by
 show fB (!b) (fun b => kk (.bool b) h) = _
 rw [ia]
theorem Om {a b : Bool} : WP (.EW false) [.bool a, .bool b] h R ↔ R (.bool (a == b)) h := cP fun kk => by cases a <;> cases b <;> rfl
theorem On {a b : Bool} : WP (.EW true) [.bool a, .bool b] h R ↔ R (.bool (a != b)) h := cP fun kk => by cases a <;> cases b <;> rfl
theorem jC {l : List Value} {i : Nat} {v : Value} (hv : l[i]? = some v) : WP (.extract i) [.tuple ⟨l⟩] h R ↔ R v h := cP fun _ => Gz hv _
theorem afZ {a : Addr} {n c : Nat} : WP .cx [.slice (some a) n c] h R ↔ R (.int .i64 (n : Int)) h := cP fun _ => by cases a; rfl
theorem af0 {n c : Nat} : WP .cx [.slice none n c] h R ↔ R (.int .i64 0) h := cP fun _ => rfl
theorem GA {fn : Fn} {nf : Nat} {vs : List Value} (hn : nf ≤ vs.length) : WP (.uF fn nf) vs h R ↔ R (.func fn ⟨vs.take nf⟩ ⟨vs.drop nf⟩) h := cP fun kk => by
 show pP vs nf (fun a => pQ vs nf fun b => kk (.func fn ⟨a⟩ ⟨b⟩) h) = _
 rw [Ol hn, Oj hn]
theorem Xw : ∀ {ss : List Nat} {vs : List Value} (_ : ss = vs.map fun v => (cellsOf v).length) (k : List Value → Bool), u9 ss vs k = k (vs.flatMap cellsOf)
 | [], [], _, k => rfl
 | [], v :: vs, h, k => by simp at h
 | n :: ss, [], h, k => by simp at h
 | n :: ss, v :: vs, h, k => by
  simp only [List.map_cons, List.cons.injEq] at h
  show iff (hY (cellsOf v) n) (u9 ss vs fun l => gO (cellsOf v) l k) = _
  rw [tp, decide_eq_true h.1.symm, fe, Xw h.2, ti]; rfl
theorem af1 {ss : List Nat} {vs : List Value} (hs : ss = vs.map fun v => (cellsOf v).length) : WP (.db ss) vs h R ↔ R (.agg ⟨vs.flatMap cellsOf⟩) h := cP fun _ => Xw hs _
end
end
end Go.Ve
namespace Go.Ve
open Go.RowKit
noncomputable section
abbrev W := AH → Prop
def pr (p : Prim) (vs : List Value) (K : Value → W) : W := fun h => WP p vs h K
def ld (p : Prim) (vs : List Value) (K : Value → W) : W := fun h => WP p vs h fun v _ => K v h
def cl (P : Program) (w0 : World) (f : FuncId) (vs : List Value) (E K : Value → W) : W := fun h => WF P w0 f vs h fun r h => match r with
 | .ret v => K v h
 | .aN v => E v h
def dy (P : Program) (w0 : World) (vs : List Value) (E K : Value → W) : W := match vs with
 | .func (.func g) ⟨first⟩ ⟨bD⟩ :: as => cl P w0 g (first ++ (as ++ bD)) E K
 | .func (.yield l) ⟨[]⟩ ⟨[]⟩ :: as => fun h => WR P w0 l as h fun r h => match r with
  | .ret v => K v h
  | .aN v => E v h
 | _ => fun _ => False
def pn (vs : List Value) (E : Value → W) : W := match vs with
 | [.iface t x] => E (.iface t x)
 | _ => fun _ => False
def gd (g : Value) (want : Bool) (A : (Value → W) → W) (K : Value → W) : W := match g with
 | .bool b => bif lU b want then A K else K undef
 | _ => K undef
def br (c : Value) (A B : W) : W := match c with
 | .bool true => A
 | .bool false => B
 | _ => fun _ => False
def ck (p : Prim) (vs : List Value) (v : Value) (K : W) : W := fun h => WP p vs h (fun v' _ => rf v' v = true) ∧ K h
def ckm (p : Prim) (vs : List Value) (v : Value) (K : W) : W := fun h => p.fresh vs (vu ⟨.e, [], .off, h⟩ v) = true ∧ K h
def gk (g : Value) (want : Bool) (A : W → W) (K : W) : W := match g with
 | .bool b => bif lU b want then A K else K
 | _ => K
def eE {α : Type} (F : (α → W) → α → W) : Nat → α → W
 | 0, _ => fun _ => False
 | n + 1, a => F (eE F n) a
def LP {α : Type} (F : (α → W) → α → W) (a : α) : W := fun h => ∃ n, eE F n a h
theorem af2 {α : Type} {F : (α → W) → α → W} (Inv : α → AH → Prop) (μ : α → AH → Nat)
 (step : ∀ a h (k : α → W), Inv a h → (∀ a' h', Inv a' h' → μ a' h' < μ a h → k a' h') → F k a h) {a : α} {h : AH} (H : Inv a h) : LP F a h := by
 have key : ∀ n a h, Inv a h → μ a h < n → eE F n a h := by
  intro n
  induction n with
  | zero => intro a h _ hn; exact absurd hn (Nat.not_lt_zero _)
  | succ n ih => intro a h hi hn; exact step a h _ hi fun a' h' cz hm => ih a' h' cz (by omega)
 exact ⟨_, key (μ a h + 1) a h H (Nat.lt_succ_self _)⟩
theorem Oo (A : (Value → W) → W) (K : Value → W) : gd (.bool true) true A K = A K := rfl
theorem Oq (A : (Value → W) → W) (K : Value → W) : gd (.bool false) false A K = A K := rfl
theorem Ot (A : (Value → W) → W) (K : Value → W) : gd (.bool true) false A K = K undef := rfl
theorem Ou (A : (Value → W) → W) (K : Value → W) : gd (.bool false) true A K = K undef := rfl
theorem Ov (w : Bool) (A : (Value → W) → W) (K : Value → W) : gd undef w A K = K undef := rfl
theorem Ow (A : W → W) (K : W) : gk (.bool true) true A K = A K := rfl
theorem Ox (A : W → W) (K : W) : gk (.bool false) false A K = A K := rfl
theorem Oy (A : W → W) (K : W) : gk (.bool true) false A K = K := rfl
theorem Oz (A : W → W) (K : W) : gk (.bool false) true A K = K := rfl
theorem OA (w : Bool) (A : W → W) (K : W) : gk undef w A K = K := rfl
theorem OB (A B : W) : br (.bool true) A B = A := rfl
theorem OC (A B : W) : br (.bool false) A B = B := rfl
def l6 (σ : Sl) : List (Pos × Value) → Prop
 | [] => True
 | (p, v) :: U => σ p = v ∧ l6 σ U
def Sl.oy (σ : Sl) : List (Pos × Value) → Sl
 | [] => σ
 | (p, v) :: U => Sl.up (Sl.oy σ U) p v
theorem ry {σ : Sl} : ∀ {U : List (Pos × Value)}, l6 σ U → σ.oy U = σ
 | [], _ => rfl
 | (p, v) :: U, ⟨h1, h2⟩ => by
  show Sl.up (σ.oy U) p v = σ
  rw [ry h2]
  funext q
  unfold Sl.up
  cases h : p.beq q with
  | true => rw [← Pos.beq_iff.1 h]; exact h1.symm
  | false => rfl
section
variable {P : Program} {w0 : World} {e : Env} {σ : Sl} {d : DS} {h : AH} {Q : PQ} {l : List bf} {dl : List iI} {a b c : cN}
theorem sr (H : Q .normal σ d h) : dG P w0 .skip e σ d h Q := H
theorem dv (H : wpOps P w0 l e σ d h Q) : dG P w0 (.ops l) e σ d h Q := H
theorem ez (H : dG P w0 a e σ d h (th (fun σ d h => dG P w0 b e σ d h Q) Q)) : dG P w0 (.seq a b) e σ d h Q := H
theorem dw (H : Q .normal σ d h) : wpOps P w0 [] e σ d h Q := H
theorem eA {K : Sl → DS → AH → Prop} (H : K σ d h) : th K Q .normal σ d h := H
theorem mY {id : Nat} (H : dG P w0 c e σ d h (N6 id Q)) : dG P w0 (.block id c) e σ d h Q := H
theorem nZ {id : Nat} (H : Q .normal σ d h) : N6 id Q .normal σ d h := H
theorem qy {o : dL} {v : Value} {A B : W} (hv : eg σ o = v) (H : br v A B h) (ha : A h → dG P w0 a e σ d h Q) (hb : B h → dG P w0 b e σ d h Q) : dG P w0 (.cond o a b) e σ d h Q := by
 simp only [dG]
 rw [hv]
 unfold br at H
 revert H
 cases v <;> intro H <;> first | exact H.elim | skip
 rename_i t
 revert H
 cases t with
 | true => exact ha
 | false => exact hb
theorem GB {dst : Option Pos} {p : Prim} {vs : List Value} {K : Value → W} {K' : Sl → DS → AH → Prop} (H : pr p vs K h) (hK : ∀ v h, K v h → K' (σ.eR dst v) d h) : iQ P w0 (.aO p) dst e σ d h vs Q K' := WP.mono hK H
theorem OD {dst : Option Pos} {f : FuncId} {vs : List Value} {E K : Value → W} {K' : Sl → DS → AH → Prop} (H : cl P w0 f vs E K h) (hE : ∀ v h, E v h → Q (.aN v) σ d h) (hK : ∀ v h, K v h → K' (σ.eR dst v) d h) : iQ P w0 (.call f) dst e σ d h vs Q K' :=
 WF.mono (fun r h hr => by cases r with | ret v => exact hK _ _ hr | aN v => exact hE _ _ hr) H
theorem Xx {dst : Option Pos} {vs : List Value} {E K : Value → W} {K' : Sl → DS → AH → Prop} (H : dy P w0 vs E K h) (hE : ∀ v h, E v h → Q (.aN v) σ d h) (hK : ∀ v h, K v h → K' (σ.eR dst v) d h) : iQ P w0 .dyn dst e σ d h vs Q K' := by
 unfold dy at H
 simp only [iQ]
 split at H
 · exact WF.mono (fun r h hr => by cases r with | ret v => exact hK _ _ hr | aN v => exact hE _ _ hr) H
 · exact WR.mono (fun r h hr => by cases r with | ret v => exact hK _ _ hr | aN v => exact hE _ _ hr) H
 · exact H.elim
theorem af3 {dst : Option Pos} {vs : List Value} {E : Value → W} {K' : Sl → DS → AH → Prop} (H : pn vs E h) (hE : ∀ v h, E v h → Q (.aN v) σ d h) : iQ P w0 .panic dst e σ d h vs Q K' := by
 unfold pn at H
 simp only [iQ]
 split at H
 · exact hE _ _ H
 · exact H.elim
theorem GC {dst : Option Pos} {act : iH} {args : List dL} {g : Pos} {gv : Value} {want : Bool} {A : (Value → W) → W} {K : Value → W} {K' : Sl → DS → AH → Prop} (hg : σ g = gv) (H : gd gv want A K h) (hA : A K h → iQ P w0 act dst e σ d h (args.map (eg σ)) Q K') (hK : ∀ v h, K v h → K' (σ.eR dst v) d h) :
 wpOp P w0 ⟨dst, act, args, some (g, want)⟩ e σ d h Q K' := by
 unfold wpOp
 simp only []
 rw [hg]
 unfold gd at H
 revert H
 cases gv <;> intro H <;> first | exact hK _ _ H | skip
 rename_i b
 simp only at H ⊢
 revert H
 cases lU b want with
 | true => exact hA
 | false => exact hK _ _
theorem af4 {p : Prim} {args : List dL} {q g : Pos} {gv : Value} {want : Bool} {A : W → W} {K : W} (hg : σ g = gv) (H : gk gv want A K h) (hA : A K h → vK (.aO p) (some q) (args.map (eg σ)) σ h ∧ K h) : yr ⟨some q, .aO p, args, some (g, want)⟩ σ h ∧ K h := by
 unfold yr
 simp only []
 rw [hg]
 unfold gk at H
 revert H
 cases gv <;> intro H <;> first | exact ⟨trivial, H⟩ | skip
 rename_i b
 simp only at H ⊢
 revert H
 cases lU b want with
 | true => exact hA
 | false => exact fun H => ⟨trivial, H⟩
theorem fL {dst : Option Pos} {x : dL} {v : Value} (hv : eg σ x = v) (H : wpOps P w0 l e (σ.eR dst v) d h Q) : wpOps P w0 (⟨dst, .aO .move, [x], none⟩ :: l) e σ d h Q := by
 subst hv; exact fun k hk => hk _ _ H
theorem aY {dst : Option Pos} {p : Prim} {args : List dL} {vs : List Value} {K : Value → W} (hv : args.map (eg σ) = vs) (H : pr p vs K h) (hK : ∀ v h, K v h → wpOps P w0 l e (σ.eR dst v) d h Q) : wpOps P w0 (⟨dst, .aO p, args, none⟩ :: l) e σ d h Q := by
 subst hv; exact GB (P := P) (w0 := w0) (e := e) (dst := dst) (Q := Q) (K' := fun σ d h => wpOps P w0 l e σ d h Q) H hK
theorem xn {dst : Option Pos} {f : FuncId} {args : List dL} {vs : List Value} {E K : Value → W} (hv : args.map (eg σ) = vs) (H : cl P w0 f vs E K h) (hE : ∀ v h, E v h → Q (.aN v) σ d h) (hK : ∀ v h, K v h → wpOps P w0 l e (σ.eR dst v) d h Q) : wpOps P w0 (⟨dst, .call f, args, none⟩ :: l) e σ d h Q := by
 subst hv; exact OD (e := e) (dst := dst) (K' := fun σ d h => wpOps P w0 l e σ d h Q) H hE hK
theorem ab6 {dst : Option Pos} {args : List dL} {vs : List Value} {E K : Value → W} (hv : args.map (eg σ) = vs) (H : dy P w0 vs E K h) (hE : ∀ v h, E v h → Q (.aN v) σ d h) (hK : ∀ v h, K v h → wpOps P w0 l e (σ.eR dst v) d h Q) : wpOps P w0 (⟨dst, .dyn, args, none⟩ :: l) e σ d h Q := by
 subst hv; exact Xx (e := e) (dst := dst) (K' := fun σ d h => wpOps P w0 l e σ d h Q) H hE hK
theorem Tf {dst : Option Pos} {x : dL} {v : Value} {g : Pos} {gv : Value} {want : Bool} {K : Value → W} (hg : σ g = gv) (hv : eg σ x = v) (H : gd gv want (fun k => k v) K h) (hK : ∀ v h, K v h → wpOps P w0 l e (σ.eR dst v) d h Q) : wpOps P w0 (⟨dst, .aO .move, [x], some (g, want)⟩ :: l) e σ d h Q := by
 subst hv; exact GC (K' := fun σ d h => wpOps P w0 l e σ d h Q) hg H (fun H k hk => hk _ _ (hK _ _ H)) hK
theorem n3 {dst : Option Pos} {p : Prim} {args : List dL} {vs : List Value} {g : Pos} {gv : Value} {want : Bool} {K : Value → W} (hg : σ g = gv) (hv : args.map (eg σ) = vs) (H : gd gv want (fun k => pr p vs k) K h) (hK : ∀ v h, K v h → wpOps P w0 l e (σ.eR dst v) d h Q) : wpOps P w0 (⟨dst, .aO p, args, some (g, want)⟩ :: l) e σ d h Q := by
 subst hv; exact GC (K' := fun σ d h => wpOps P w0 l e σ d h Q) hg H (fun H => WP.mono hK H) hK
theorem Tg {dst : Option Pos} {f : FuncId} {args : List dL} {vs : List Value} {g : Pos} {gv : Value} {want : Bool} {E K : Value → W} (hg : σ g = gv) (hv : args.map (eg σ) = vs) (H : gd gv want (fun k => cl P w0 f vs E k) K h) (hE : ∀ v h, E v h → Q (.aN v) σ d h) (hK : ∀ v h, K v h → wpOps P w0 l e (σ.eR dst v) d h Q) : wpOps P w0 (⟨dst, .call f, args, some (g, want)⟩ :: l) e σ d h Q := by
 subst hv; exact GC (K' := fun σ d h => wpOps P w0 l e σ d h Q) hg H (fun H => OD H hE hK) hK
theorem Tq {α : Type} (U : List (Pos × Value)) (M : α → List (Pos × Value)) (π : Sl → α) (J : α → W) (hM : ∀ σ, l6 σ (M (π σ))) (hb : ∀ (x : α) (σ : Sl) (h : AH), J x h → dG P w0 b e ((σ.oy U).oy (M x)) d h Q)
 (ha : dG P w0 a e σ d h (th (fun σ d' h => d' = d ∧ l6 σ U ∧ J (π σ) h) Q)) : dG P w0 (.seq a b) e σ d h Q := by
 refine Gm a (fun x σ d' h hx => ?_) ha
 cases x with
 | normal =>
  obtain ⟨rfl, h2, h3⟩ := hx
  have := hb (π σ) σ h h3
  rwa [ry h2, ry (hM σ)] at this
 | _ => exact hx
theorem abX (bA : P.follows .mixedOrders = true) {α : Type} (U : List (Pos × Value)) (M : α → List (Pos × Value)) (π : Sl → α) (F : (α → W) → α → W) (hM : ∀ σ, l6 σ (M (π σ)))
 (hF : ∀ (k : α → W) (x : α) (σ : Sl) (h : AH), F k x h → dG P w0 c e ((σ.oy U).oy (M x)) d h (th (fun σ d' h => d' = d ∧ l6 σ U ∧ k (π σ) h) Q)) {x : α} (hx : π σ = x) (hU : l6 σ U) (H : LP F x h) : dG P w0 (.loop c) e σ d h Q := by
 subst hx
 obtain ⟨n, H⟩ := H
 revert H hU
 have key : ∀ n σ h, l6 σ U → eE F n (π σ) h → WC P w0 (.loop c) e σ d h Q := by
  intro n
  induction n with
  | zero => intro σ h _ H; exact H.elim
  | succ n ih =>
   intro σ h hU H
   refine N7 bA ?_
   have h1 := hF (eE F n) (π σ) σ h H
   rw [ry hU, ry (hM σ)] at h1
   refine Gm c (fun x σ d' h hx => ?_) h1
   cases x with
   | normal =>
    obtain ⟨rfl, h2, h3⟩ := hx
    exact ih σ h h2 h3
   | _ => exact hx
 exact key n σ h
end
end
end Go.Ve
