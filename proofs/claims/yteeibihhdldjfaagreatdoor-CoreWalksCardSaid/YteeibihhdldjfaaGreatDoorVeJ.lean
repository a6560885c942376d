/- Part 10: VEval, part 34: more operations, the rest: pointers as unsafe.Pointer, a string's bytes appended, unsafe.String, a range over a map. No condition. And what follows it. -/
import Derived.Test.YteeibihhdldjfaaGreatDoorVeI
import Derived.Lib.UnsafeStr
set_option linter.unusedVariables false
set_option linter.unusedSimpArgs false
namespace Go.Ve
open Go.RowKit
section
variable {P : Program} {w0 w : World} {φ : au} {h : AH} {ρ : Operand → Value} {o : Oper} {vs : List Value} {k : KV}
theorem VR.aeg {v' : Value} (h : VR φ (.pointer none) v') : v' = .pointer none := by cases h; rfl
theorem HR.shape (H : HR P w0 φ h w) {a a' : Addr} {lo hi : Nat} {ty : TypeId} {rw : Bool} {c : NT Value} (hs : φ a.block ≠ none) (ha : AtR φ a a') (ho : h.ob.get a.block = some (.cells lo hi ty rw c)) :
 ∃ d n, w.shape? a'.block = some (ty, n) ∧ d ≤ lo ∧ (lo < hi → hi - d ≤ n) ∧ a'.off + d = a.off ∧ a'.spot = none := by
 obtain ⟨b, d, arr, fr, v1, v2, v3, v4, v5, v6, v7, _⟩ := H.at hs ha ho
 refine ⟨d, arr.size, by simp [World.shape?, v2, v5], v6, fun bC => ?_, v3, v4⟩
 obtain ⟨_, _, _, g, _⟩ := v7 (hi - 1) (by omega) (by omega)
 have := (Array.getElem?_eq_some_iff.1 g).1
 omega
theorem aco {x : Operand} {s t te : TypeId} {j : TypeInfo} (ho : o.op = .convert s t x) (hs : P.underlying s = some (.pointer te)) (ht : P.underlying t = some .unsafePointer) (hi : P.info? te = some j) (hj : j.size ≠ 0) (H : HR P w0 φ h w) (hv : LR φ vs ([x].map ρ)) (e : Ua vs h k = true) : PR P w0 φ h ((execOp ρ o).run P w) fun v h' => k v h' = true := by
 obtain ⟨p, ah, e1⟩ := ew e; clear e; subst ah; have e := e1; clear e1
 obtain ⟨p', hp, hr⟩ := hv.one
 simp at hp; subst hp
 obtain ⟨a, ah, e1⟩ := kS e; clear e; subst ah
 obtain ⟨a', hx, hf, cB⟩ := hr.jy
 obtain ⟨lo, du, ty, l7, c, g1, e2⟩ := r9 e1
 obtain ⟨g2, e3⟩ := bT e2
 simp only [Bool.and_eq_true] at g2
 have g3 := Nat.le_of_ble_eq_true g2.1
 have g4 : a.off < du := Nat.le_of_ble_eq_true g2.2
 obtain ⟨d, n, q1, q2, q3, q4, q5⟩ := H.shape hf cB g1
 have q3 := q3 (by omega)
 refine .same H ?_ (.ptr ⟨a.block, a.off, none⟩ _ hf cB) e3
 simp only [execOp, ho, hx]
 simp [Lib.run_to_unsafe (P := P) w a' hs ht hi hj q1 (by omega)]
theorem aeh {fits : TypeId → Bool} {d : Nat} {e : TypeId} {c c' off n : Nat} (hc : c ≤ c') (h : rowAt P fits d e c off n = true) : rowAt P fits d e c' off n = true := by
 cases d with
 | zero => cases h
 | succ d =>
  unfold rowAt at h ⊢
  simp only at h ⊢
  split at h
  · cases h
  · rename_i hs
    rw [if_neg hs]
    simp only [Bool.or_eq_true, Bool.and_eq_true, decide_eq_true_eq] at h ⊢
    rcases h with ⟨⟨h1, h2⟩, h3⟩ | ⟨h1, h2⟩
    · exact .inl ⟨⟨h1, by omega⟩, h3⟩
    · exact .inr ⟨by omega, h2⟩
theorem Vo : ∀ {d : Nat} {e : TypeId} {c c' off : Nat} {u : TypeId} {n : Nat}, c ≤ c' → liesAt P d e c off u n = true → liesAt P d e c' off u n = true
 | 0, _, _, _, _, _, _, _, h => by cases h
 | d + 1, e, c, c', off, u, n, hc, h => by
  unfold liesAt at h ⊢
  rw [Bool.or_eq_true] at h ⊢
  rcases h with h | h
  · exact .inl (aeh hc h)
  · refine .inr ?_
    split at h
    · exact Vo hc h
    · cases h
theorem Vp {ty hi : Nat} : ∀ {l : List (TypeId × Nat)}, Fw ty hi l = true → ∃ n, (ty, n) ∈ l ∧ n ≤ hi
 | [], h => by cases h
 | (t, n) :: l, h => by
  unfold Fw at h
  cases hb : Nat.beq t ty && Nat.ble n hi with
  | true =>
   rw [Bool.and_eq_true] at hb
   obtain rfl := Nat.eq_of_beq_eq_true hb.1
   exact ⟨n, .head _, Nat.le_of_ble_eq_true hb.2⟩
  | false =>
   rw [hb] at h
   obtain ⟨m, h1, h2⟩ := Vp (l := l) (by simpa using h)
   exact ⟨m, .tail _ h1, h2⟩
theorem aei {u t : TypeId} {n : Nat} (h : (t, n) ∈ FQ P u) : n = P.cellsOf t ∧ n ≠ 0 ∧ liesAt P P.depth t 1 0 u 1 = true := by
 unfold FQ at h
 obtain ⟨t', h1, h2⟩ := List.mem_map.1 h
 cases h2
 have h3 := (List.mem_filter.1 h1).2
 simp only [Bool.and_eq_true, Bool.not_eq_true', beq_eq_false_iff_ne] at h3
 exact ⟨rfl, h3.1.2, h3.2⟩
theorem acp {x : Operand} {s t u : TypeId} {j : TypeInfo} (ho : o.op = .convert s t x) (hs : P.underlying s = some .unsafePointer) (ht : P.underlying t = some (.pointer u)) (hi : P.info? u = some j) (H : HR P w0 φ h w) (hv : LR φ vs ([x].map ρ)) (e : Ub (FQ P u) vs h k = true) : PR P w0 φ h ((execOp ρ o).run P w) fun v h' => k v h' = true := by
 obtain ⟨p, ah, e1⟩ := ew e; clear e; subst ah; have e := e1; clear e1
 obtain ⟨p', hp, hr⟩ := hv.one
 simp at hp; subst hp
 obtain ⟨a, ah, e1⟩ := kS e; clear e; subst ah
 obtain ⟨a', hx, hf, cB⟩ := hr.jy
 obtain ⟨lo, du, ty, l7, c, g1, e2⟩ := r9 e1
 obtain ⟨g2, e3⟩ := bT e2
 simp only [Bool.and_eq_true] at g2
 obtain ⟨⟨g2, g3⟩, g4⟩ := g2
 have g2 : lo = 0 := Nat.eq_of_beq_eq_true g2
 have g3 : a.off = 0 := Nat.eq_of_beq_eq_true g3
 obtain ⟨m, g5, g6⟩ := Vp g4
 obtain ⟨g7, g8, g9⟩ := aei g5
 obtain ⟨d, n, q1, q2, q3, q4, q5⟩ := H.shape hf cB g1
 have q3 := q3 (by omega)
 have Vq : a'.off = 0 := by omega
 refine .same H ?_ (.ptr ⟨a.block, a.off, none⟩ _ hf cB) e3
 simp only [execOp, ho, hx]
 have hn : P.cellsOf ty ≤ n := by omega
 have h1 : 1 ≤ n / P.cellsOf ty := (Nat.one_le_div_iff (by omega)).2 hn
 simp [Lib.run_from_unsafe (P := P) w a' hs ht hi q1 (by rw [Vq]; exact Vo h1 g9)]
theorem aej {x y : Value} (h : Fx x y = true) : ∃ a b, x = .pointer (some a) ∧ y = .pointer (some b) ∧ a.block = b.block ∧ a.off = b.off := by
 unfold Fx at h
 split at h
 · rename_i a b
   rw [Bool.and_eq_true] at h
   exact ⟨a, b, rfl, rfl, Nat.eq_of_beq_eq_true h.1, Nat.eq_of_beq_eq_true h.2⟩
 · cases h
theorem SW {op : BinOp} {t u te : TypeId} {j : TypeInfo} {x y : Operand} {ng : Bool} (ho : o.op = .binOp op t x y u) (aS : (op = .eql ∧ ng = false) ∨ (op = .neq ∧ ng = true)) (hu : P.underlying t = some (.pointer te)) (hi : P.info? te = some j) (H : HR P w0 φ h w) (hv : LR φ vs ([x, y].map ρ)) (e : Ud ng vs h k = true) : PR P w0 φ h ((execOp ρ o).run P w) fun v h' => k v h' = true := by
 obtain ⟨p, q, ah, e1⟩ := gp e; clear e; subst ah
 cases MI : Fx p q with
 | false =>
  rw [MI, cond_false] at e1
  exact oN (nk := 0) ho aS hu rfl (fun h => by cases h) H hv e1
 | true =>
  rw [MI, cond_true] at e1
  obtain ⟨a, b, aek, ael, hb, Vq⟩ := aej MI
  subst aek ael
  obtain ⟨p', q', hp, hr, hq⟩ := hv.two
  simp at hp; obtain ⟨e2, e3⟩ := hp; subst e2 e3
  obtain ⟨a', hx, hf, cB⟩ := hr.jy
  obtain ⟨b', hy, hf', Bo⟩ := hq.jy
  obtain ⟨a2, ah, e2⟩ := kS e1
  cases ah
  obtain ⟨ob, g1, e3⟩ := vT e2
  obtain ⟨B, d, n, o', m1, m2, m3, m4⟩ := H.live hf g1
  obtain ⟨c1, c2, c3⟩ := cB B d n m1
  obtain ⟨d1, d2, d3⟩ := Bo B d n (by rw [← hb]; exact m1)
  have mL : a' = b' := by
   cases a'; cases b'
   simp only at c1 c2 c3 d1 d2 d3
   subst c1 c3 d1 d3
   congr 1
   omega
  subst mL
  rw [gQ] at e3
  have hg := Vr (P := P) (w := w) (nk := 0) (op := op) (t := t) (X := x) (Y := y) (a := .pointer (some a')) (b := .pointer (some a')) rfl rfl (fun h => by cases h)
  refine .same H ?_ (.bool _) e3
  simp only [execOp, ho, hx, hy]
  rcases aS with ⟨rfl, rfl⟩ | ⟨rfl, rfl⟩
  · simp [hg, run_eql_ptr_same (P := P) w a' hu hi]
  · simp [hg, Lib.run_neq_ptr_same (P := P) w a' hu hi]
theorem acL {c : Call} {x : Operand} (ho : o.op = .call c) (hc : c.callee = .builtin .unsafeSliceData) (ha : c.args = #[x]) (H : HR P w0 φ h w) (hv : LR φ vs ([x].map ρ)) (e : Ue vs h k = true) : PR P w0 φ h ((execOp ρ o).run P w) fun v h' => k v h' = true := by
 obtain ⟨p, ah, e1⟩ := ew e; clear e; subst ah; have e := e1; clear e1
 obtain ⟨p', hp, hr⟩ := hv.one
 simp at hp; subst hp
 rcases oK e with ⟨l, c', ah, e1⟩ | ⟨a, l, c', ah, e1⟩ <;> (clear e; subst ah)
 · obtain ⟨rfl, rfl, hx⟩ := hr.pU
   refine .same H ?_ .EJ e1
   rw [j8 ho hc]
   simp [builtin, ha, hx, Lib.run_unsafeSliceData_nil]
 · obtain ⟨a', cH, hx, hs, gL⟩ := hr.nF
   obtain ⟨h1, e2⟩ := bT e1
   have h1 : 1 ≤ l := Nat.le_of_ble_eq_true h1
   have cB : AtR φ a a' ∧ cH ≠ 0 := by
    rcases gL with ⟨_, h2, h3, h4⟩ | ⟨_, _, _, h3, h4⟩
    · exact ⟨h4 (by omega), by omega⟩
    · exact ⟨(h4 (by omega)).1, by omega⟩
   refine .same H ?_ (.ptr ⟨a.block, a.off, none⟩ _ hs cB.1) e2
   rw [j8 ho hc]
   simp [builtin, ha, hx, Lib.run_unsafeSliceData_row (P := P) w _ _ a' l cH cB.2]
theorem Vs : ∀ {l : List Value} {k : List UInt8 → Bool}, T7 l k = true → ∃ m : List UInt8, l = m.map (fun c => Value.int .u8 c.toNat) ∧ k m = true
 | [], k, h => ⟨[], rfl, h⟩
 | v :: l, k, h => by
  obtain ⟨kd, n, ah, e1⟩ := l6 (show jT v _ = true from h)
  subst ah
  cases n with
  | negSucc n => cases e1
  | ofNat n =>
   obtain ⟨e2, e3⟩ := bT (show iff (eS kd .u8 && Nat.ble (Nat.succ n) 256) _ = true from e1)
   rw [Bool.and_eq_true] at e2
   obtain rfl := mK e2.1
   have bC : n < 256 := Nat.le_of_ble_eq_true e2.2
   obtain ⟨m, h1, h2⟩ := Vs (l := l) e3
   refine ⟨UInt8.ofNat n :: m, ?_, h2⟩
   rw [h1]
   have : (UInt8.ofNat n).toNat = n := by simp [UInt8.toNat_ofNat']; omega
   simp [this]
theorem aem {mi : Array TypeId} {ty t : TypeId} (h0 : mi[0]? = some t) (z : Option Addr) (kd : IntKind) :
 (Builtin.unsafeString_ mi ty #[.pointer z, .int kd 0]).run P w = .ok (.string .empty) w := by
 have hm : IntKind.i64.max = 9223372036854775807 := rfl
 cases z <;> refine (Sem.run_bind P w (asInt (.int kd 0)) _).trans ?_ <;> simp [h0, asInt, asIntOf, hm]
theorem aen {mi : Array TypeId} {ty t e : TypeId} (h0 : mi[0]? = some t) (hp : P.underlying t = some (.pointer e)) (hc : P.cellsOf e = 1) (a : Addr) (cells : Nat) (hsh : w.shape? a.block = some (e, cells)) (l : List UInt8) (hl : l.length ≠ 0) (hn : a.off + l.length ≤ cells) (h63 : l.length ≤ 1048576) (kd : IntKind)
 (mY : ∀ j x, l[j]? = some x → w.cell? (a.add j) = some (.int .u8 x.toNat)) :
 (Builtin.unsafeString_ mi ty #[.pointer (some a), .int kd l.length]).run P w = .ok (.string ⟨l.toArray⟩) (w.freeze a l.length) := by
 have tH := Lib.run_loadBytes (P := P) w l a .empty mY
 have aeo : liesAt P P.depth e (cells / P.cellsOf e) a.off e l.length = true := by
  have hd : P.depth = (2 * (P.types.size + Made.depth) + 1) + 1 := rfl
  rw [hd]
  simp only [liesAt, Bool.or_eq_true]
  left
  rw [hd]
  have h1 : a.off + l.length ≤ cells / P.cellsOf e := by rw [hc]; simpa using hn
  rw [hc] at h1
  simp at h1
  simp [rowAt, hc, h1, sameLayout, Nat.mod_one]
 have FV : ¬ (9223372036854775807 : Int) < (l.length : Int) := by omega
 have Vt : IntKind.i64.max = 9223372036854775807 := rfl
 have x8 : ¬ (l.length : Int) < 0 := by omega
 have fR : l ≠ [] := fun e => hl (by simp [e])
 refine (Sem.run_bind P w (asInt (.int kd l.length)) _).trans ?_
 simp [h0, asInt, asIntOf, Vt, FV, x8, fR, variablesAt, hsh, elemOf, run_underlying hp, aeo, tH]
theorem aep {ty n : Nat} {a : Addr} (e : Uf ty n h k a = true) : ∃ lo hi c m aU, h.ob.get a.block = some (.cells lo hi ty true c) ∧ lo ≤ a.off ∧ a.off + n ≤ hi ∧ n ≤ 1048576 ∧ m.length = n ∧
 (∀ j x, m[j]? = some x → c.get (a.off + j) = some (.int .u8 (UInt8.toNat x))) ∧ h.ob.im a.block (some (.cells lo hi ty false c)) aU ∧ k (.string ⟨⟨m⟩⟩) ⟨h.nx, aU⟩ = true := by
 cases a with
 | mk b off sp =>
  obtain ⟨lo, hi, cf, l7, c, g1, e2⟩ := r9 (show kZ h b _ = true from e)
  obtain ⟨g2, e3⟩ := bT e2
  simp only [Bool.and_eq_true] at g2
  obtain ⟨⟨⟨⟨g2, g3⟩, g4⟩, g5⟩, g6⟩ := g2
  subst g2
  obtain rfl := Nat.eq_of_beq_eq_true g3
  obtain ⟨l, e4, g7, g8⟩ := FO _ e3
  obtain ⟨m, rfl, e5⟩ := Vs e4
  obtain ⟨aU, g9, e6⟩ := mN e5
  refine ⟨lo, hi, c, m, aU, g1, Nat.le_of_ble_eq_true g4, Nat.le_of_ble_eq_true g5, Nat.le_of_ble_eq_true g6, by simpa using g7, fun j x hj => g8 j _ (by simp [hj]), g9, e6⟩
theorem acM {c : Call} {x y : Operand} {t u : TypeId} (ho : o.op = .call c) (hc : c.callee = .builtin .unsafeString) (ha : c.args = #[x, y]) (h0 : c.argTypes[0]? = some t) (hu : P.underlying t = some (.pointer u)) (h1 : P.cellsOf u = 1) (H : HR P w0 φ h w) (hv : LR φ vs ([x, y].map ρ)) (e : Ug u vs h k = true) : PR P w0 φ h ((execOp ρ o).run P w) fun v h' => k v h' = true := by
 obtain ⟨p, q, ah, e1⟩ := gp e; clear e; subst ah
 obtain ⟨p', q', hp, hr, hq⟩ := hv.two
 simp at hp; obtain ⟨e2, e3⟩ := hp; subst e2 e3
 obtain ⟨kd, n, ah, e2⟩ := rD e1; subst ah; clear e1
 have hn := hq.gg
 have Vt : IntKind.i64.max = 9223372036854775807 := rfl
 split at e2
 · rename_i q
   have hpx : ∃ z, ρ x = .pointer z := by
    cases q with
    | none => exact ⟨_, hr.aeg⟩
    | some a => obtain ⟨a', hx, _⟩ := hr.jy; exact ⟨_, hx⟩
   obtain ⟨z, hz⟩ := hpx
   by_cases l9 : n = 0
   · subst l9
     rw [j6 rfl, cond_true] at e2
     refine .same H ?_ (.str _) e2
     rw [j8 ho hc]
     have FW := aem (P := P) (w := w) (ty := o.type) h0 z kd
     simp [builtin, ha, hz, hn, FW]
     rfl
   · rw [eP l9, cond_false] at e2
     cases q with
     | none => cases e2
     | some a =>
      obtain ⟨a', hx, hf, cB⟩ := hr.jy
      obtain ⟨lo, hi, cc, m, aU, g1, g2, g3, g4, g5, g6, g7, g8⟩ := aep e2
      subst g5
      obtain ⟨b, d, arr, fr, v1, v2, v3, v4, v5, v6, v7, v8, v9⟩ := H.at hf cB g1
      obtain rfl := v9 rfl
      have eB : a'.off + m.length ≤ arr.size := by
       obtain ⟨_, _, _, g, _⟩ := v7 (a.off + m.length - 1) (by omega) (by omega)
       have := (Array.getElem?_eq_some_iff.1 g).1
       omega
      have mY : ∀ j x, m[j]? = some x → w.cell? (a'.add j) = some (.int .u8 x.toNat) := fun j x hj => by
       have z6 := (List.getElem?_eq_some_iff.1 hj).1
       obtain ⟨v', q1, q2⟩ := H.cell hf cB g1 (j := j) (by omega) (by omega) (g6 j x hj)
       rw [q1, q2.gg]
      have bP := aen (P := P) (w := w) (ty := o.type) h0 hu h1 a' arr.size (by simp [World.shape?, v2, v5]) m l9 eB g4 kd mY
      have lH : (w.freeze a' m.length) = { w with heap := w.heap.modify a'.block fun
       | .cells c elem (lo, hi) => .cells c elem (if lo == hi then (a'.off, a'.off + m.length) else (min lo a'.off, max hi (a'.off + m.length)))
       | o => o } := by unfold World.freeze; rw [if_neg l9]; rfl
      refine ⟨_, w.freeze a' m.length, _, _, φ, .inl ?_, g8, Ext.refl _ _, Nat.le_refl _, .str _, ?_⟩
      · rw [j8 ho hc]
        simp only [builtin, ha, List.map_toArray, List.map_cons, List.map_nil, hx, hn]
        rw [show (Int.ofNat m.length) = (m.length : Int) from rfl]
        simp [bP]
      · refine H.iL (h' := ⟨h.nx, aU⟩) (o' := .cells arr u (a'.off, a'.off + m.length)) v1 g7 rfl (.cells _ _ _ _ _ _ _ _ _ (fun h => by cases h) v6 rfl v7) (v8 rfl) ?_ (fun k hk => ?_) ?_ ?_ ?_ ?_
        · rw [lH]; simp [Array.getElem?_modify, v2, v5]
        · rw [lH]; simp only [Array.getElem?_modify]; rw [if_neg (by rw [v2]; exact fun e => hk e.symm)]
        · rw [lH]; simp
        · rw [lH]
        · rw [lH]
        · rw [lH]
 · cases e2
theorem Vu : ∀ (l : List UInt8) {k : List Value → Bool}, Md l k = true → k (l.map fun c => .int .u8 (.ofNat c.toNat)) = true
 | [], k, h => h
 | c :: l, k, h => by
  have h' : fN c.toNat (fun n => Md l fun l => k (.int .u8 (.ofNat n) :: l)) = true := h
  rw [bO] at h'
  exact Vu l h'
theorem Vv (φ : au) : ∀ l : List UInt8, LR φ (l.map fun c => .int .u8 (.ofNat c.toNat)) (l.map fun c => .int .u8 (.ofNat c.toNat))
 | [] => .nil
 | c :: l => .cons _ _ _ _ (.int _ _) (Vv φ l)
theorem acK {c : Call} {s x : Operand} {t u e' : TypeId} {i : TypeInfo} {z : Value} (ho : o.op = .call c) (hc : c.callee = .builtin .append) (ha : c.args = #[s, x]) (h0 : c.argTypes[0]? = some t) (h1 : c.argTypes[1]? = some u) (ht : P.underlying t = some (.slice e')) (hu : P.underlying u = some .string)
 (hi : P.info? e' = some i) (hz : i.zero = some z) (vq : i.bytes ≤ 65536) (lD : z.cells.size = i.size) (eB : i.size = 1) (H : HR P w0 φ h w) (hv : LR φ vs ([s, x].map ρ)) (e : T9 e' z.cells.toList vs h k = true) : PR P w0 φ h ((execOp ρ o).run P w) fun v h' => k v h' = true := by
 obtain ⟨p, q, ah, e1⟩ := gp e; clear e; subst ah; have e := e1; clear e1
 obtain ⟨p', q', hp, hr, hq⟩ := hv.two
 simp at hp; obtain ⟨e1, e2⟩ := hp; subst e1 e2
 have bP : ∀ {v' : Value} {w' : World}, (Builtin.append_ c.argTypes o.type #[ρ s, ρ x]).run P w = .ok v' w' → (execOp ρ o).run P w = .ok (.value v') w' := by
  intro v' w' hh
  rw [j8 ho hc]
  simp [builtin, ha, hh]
 obtain ⟨str, ah, e1⟩ := j9 e; subst ah
 have hx := hq.jb
 have e2 := Vu _ e1
 rw [bO] at e2
 obtain ⟨_, e3⟩ := bT e2
 refine Vw (p := p) (p' := ρ s) (q' := ρ x) (n := str.size) (xs := str.data.toList.map fun c => .int .u8 (.ofNat c.toNat)) bP h0 h1 ht (eu := 0) (.inr hu) hi hz vq lD (by omega) H hr (by rw [eB]; simp) (Vv φ _) ?_ (fun w' _ => ?_) ?_
 · rw [hx]; simp [Builtin.lenOf]
 · rw [hx]
   simp only [Builtin.firstCells, Sem.run_pure]
   congr 1
   apply Array.ext'
   simp
 · rw [eB]
   have hl : (str.data.toList.map fun c => Value.int .u8 (.ofNat c.toNat)).length = str.size := by simp
   rw [hl] at e3
   exact e3
theorem MJ : ∀ (l : List Nat) (n : Nat), qd l n = l.contains n
 | [], n => rfl
 | m :: l, n => by
  have h1 : qd (m :: l) n = bif Nat.beq m n then true else qd l n := rfl
  rw [h1, MJ l n, List.contains_cons]
  by_cases h : m = n
  · subst h; simp [j6]
  · rw [eP h]; simp [Ne.symm h]
theorem Vx : ∀ (l : List Nat) {n : Nat} {k : List Nat → Bool}, A7 l n k = true → k (l ++ [n]) = true
 | [], n, k, h => h
 | x :: l, n, k, h => Vx l (show A7 l n (fun l' => k (x :: l')) = true from h)
theorem MK {since : Nat} {seen : List Nat} : ∀ (es : List (Value × Value × Nat)) {k : List (Value × Value × Nat) → Bool}, rX es since seen k = true → (∀ e ∈ es, e.2.2 < since) ∧ k (es.filter fun e => !seen.contains e.2.2) = true
 | [], k, h => ⟨fun e he => (by cases he), h⟩
 | e :: es, k, h => by
  obtain ⟨h1, h2⟩ := bT (show iff (Nat.ble (Nat.succ e.2.2) since) (bif qd seen e.2.2 then rX es since seen k else rX es since seen fun l => k (e :: l)) = true from h)
  have h1 : e.2.2 < since := Nat.le_of_ble_eq_true h1
  rw [MJ] at h2
  cases hm : seen.contains e.2.2 with
  | true =>
   rw [hm, cond_true] at h2
   obtain ⟨h3, h4⟩ := MK es h2
   refine ⟨fun x hx => ?_, ?_⟩
   · rcases List.mem_cons.1 hx with rfl | hx
     · exact h1
     · exact h3 x hx
   · rw [List.filter_cons_of_neg (by rw [hm]; simp)]; exact h4
  | false =>
   rw [hm, cond_false] at h2
   obtain ⟨h3, h4⟩ := MK es h2
   refine ⟨fun x hx => ?_, ?_⟩
   · rcases List.mem_cons.1 hx with rfl | hx
     · exact h1
     · exact h3 x hx
   · rw [List.filter_cons_of_pos (by rw [hm]; rfl)]; exact h4
theorem Vy {go : Value → Value → Nat → Bool} : ∀ {l : List (Value × Value × Nat)}, tx go l = true → ∀ x ∈ l, go x.1 x.2.1 x.2.2 = true
 | [], _, x, hx => by cases hx
 | [(a, v, n)], h, x, hx => by
  rcases List.mem_cons.1 hx with rfl | hx
  · exact h
  · cases hx
 | (a, v, n) :: y :: l, h, x, hx => by
  obtain ⟨h1, h2⟩ := bT (show iff (go a v n) (tx go (y :: l)) = true from h)
  rcases List.mem_cons.1 hx with rfl | hx
  · exact h1
  · exact Vy h2 x hx
theorem ER.filter {φ : au} {p : Nat → Bool} : ∀ {l : List (Value × Value × Nat)} {l' : List MapEntry}, ER φ l l' → ER φ (l.filter fun e => p e.2.2) (l'.filter fun e => p e.born)
 | _, _, .nil => .nil
 | _, _, .cons a v b e l l' h1 h2 h3 h4 => by
  have ih := ER.filter (p := p) h4
  cases hp : p b with
  | true =>
   rw [List.filter_cons_of_pos (by simpa using hp), List.filter_cons_of_pos (by rw [h3]; exact hp)]
   exact .cons _ _ _ _ _ _ h1 h2 h3 ih
  | false =>
   rw [List.filter_cons_of_neg (by simpa using hp), List.filter_cons_of_neg (by rw [h3]; simpa using hp)]
   exact ih
theorem ER.mem {φ : au} : ∀ {l : List (Value × Value × Nat)} {l' : List MapEntry}, ER φ l l' → ∀ e ∈ l', ∃ x ∈ l, VR φ x.1 e.key ∧ VR φ x.2.1 e.val ∧ e.born = x.2.2
 | _, _, .nil, e, he => by cases he
 | _, _, .cons a v b e l l' h1 h2 h3 h4, e', he => by
  rcases List.mem_cons.1 he with rfl | he
  · exact ⟨_, .head _, h1, h2, h3⟩
  · obtain ⟨x, q1, q2⟩ := ER.mem h4 e' he
    exact ⟨x, .tail _ q1, q2⟩
theorem mapOf (H : HR P w0 φ h w) {r r' : Nat} {es : List (Value × Value × Nat)} {cl : Nat} (hf : φ r ≠ none) (hr : ∀ b d n, φ r = some (.live b d n) → r' = b) (ho : h.ob.get r = some (.map es cl)) : ∃ cq, w.heap[r']? = some (.map cq cl) ∧ ER φ es cq.toList := by
 obtain ⟨b, d, n, o', m1, m2, m3, m4⟩ := H.live hf ho
 obtain rfl := hr b d n m1
 cases m3 with
 | map _ _ _ cq _ he => exact ⟨cq, m2, he⟩
theorem acu {x : Operand} {t kt et : TypeId} (ho : o.op = .range t x) (hu : P.underlying t = some (.map kt et)) (H : HR P w0 φ h w) (hv : LR φ vs ([x].map ρ)) (e : Uj vs h k = true) : PR P w0 φ h ((execOp ρ o).run P w) fun v h' => k v h' = true := by
 obtain ⟨p, ah, e1⟩ := ew e; clear e; subst ah; have e := e1; clear e1
 obtain ⟨p', hp, hr⟩ := hv.one
 simp at hp; subst hp
 rcases EM e with ⟨ah, e1⟩ | ⟨r, ah, e1⟩ <;> (clear e; subst ah)
 · obtain ⟨aU, h1, h2⟩ := tf e1
   obtain ⟨g1, g2⟩ := H.newAt (f := h.nx) (o := .eQ none 0 [] 0) (o' := .mapIter none 0 #[] 0) (d := 0) (n := 0) (h' := ⟨h.nx + 1, aU⟩) (H.fresh _ (Nat.le_refl _)) h1.1 (fun g hg _ => h1.2 g hg) (fun g hg => H.fresh g (by simp only at hg; omega)) (fun g hg => by rw [h1.2 g (by simp only at hg; omega)]; exact H.top g (by simp only at hg; omega)) (by simp) _ (Nat.le_refl _)
    (.eQ _ none none _ _ _ (fun _ => rfl) (fun r hr => by cases hr))
   refine ⟨_, _, _, _, _, .inl ?_, h2, g2, by simp, PR.xr, g1⟩
   simp only [execOp, ho, hr.KH]
   simp [run_range_nilMap w t kt et hu]
 · obtain ⟨r', hx, hf, sa⟩ := hr.EN
   obtain ⟨es, cl, h3, e2⟩ := vt e1
   obtain ⟨cq, m1, m2⟩ := mapOf H hf sa h3
   obtain ⟨aU, h1, h2⟩ := tf e2
   obtain ⟨g1, g2⟩ := H.newAt (f := h.nx) (o := .eQ (some r) cl [] cl) (o' := .mapIter (some r') cl #[] cl) (d := 0) (n := 0) (h' := ⟨h.nx + 1, aU⟩) (H.fresh _ (Nat.le_refl _)) h1.1 (fun g hg _ => h1.2 g hg) (fun g hg => H.fresh g (by simp only at hg; omega)) (fun g hg => by rw [h1.2 g (by simp only at hg; omega)]; exact H.top g (by simp only at hg; omega)) (by simp) _ (Nat.le_refl _)
    (.eQ _ _ _ _ _ _ (fun h => by cases h) (fun r0 oP => by cases oP; exact ⟨r', rfl, hf, sa⟩))
   refine ⟨_, _, _, _, _, .inl ?_, h2, g2, by simp, PR.xr, g1⟩
   simp only [execOp, ho, hx]
   simp [run_range_map w t kt et r' cq cl hu m1]
theorem Vz (H : HR P w0 φ h w) {a a' : Addr} {m : Option Nat} {since last : Nat} {seen : List Nat} (hf : φ a.block ≠ none) (cB : AtR φ a a') (h0 : a.off = 0) (ho : h.ob.get a.block = some (.eQ m since seen last)) :
 ∃ b d n m', φ a.block = some (.live b d n) ∧ a' = ⟨b, 0, none⟩ ∧ d = 0 ∧ w.heap[b]? = some (.mapIter m' since seen.toArray last) ∧ w0.heap.size ≤ b ∧ (m = none → m' = none) ∧ ∀ r, m = some r → ∃ r', m' = some r' ∧ φ r ≠ none ∧ ∀ b d n, φ r = some (.live b d n) → r' = b := by
 obtain ⟨b, d, n, o', m1, m2, m3, m4⟩ := H.live hf ho
 obtain ⟨q1, q2, q3⟩ := cB b d n m1
 cases m3 with
 | eQ _ _ m' _ _ _ z0 z1 =>
  refine ⟨b, 0, n, m', m1, ?_, rfl, m2, m4 rfl, z0, z1⟩
  cases a'; simp_all
theorem acv {x : Operand} (ho : o.op = .next x false) (H : HR P w0 φ h w) (hv : LR φ vs ([x].map ρ)) (e : Uk vs h k = true) : PR P w0 φ h ((execOp ρ o).run P w) fun v h' => k v h' = true := by
  obtain ⟨p, ah, e1⟩ := ew e; clear e; subst ah; have e := e1; clear e1
  obtain ⟨p', hp, hr⟩ := hv.one
  simp at hp; subst hp
  obtain ⟨a, ah, e1⟩ := kS e; clear e; subst ah; have e := e1; clear e1
  obtain ⟨a', hx, hs, cB⟩ := hr.jy
  obtain ⟨h0, e1⟩ := bT e
  have h0 := Nat.eq_of_beq_eq_true h0
  obtain ⟨m, since, seen, last, g1, g2⟩ := Vm e1
  obtain ⟨b, d, n, m', z1, rfl, rfl, z2, z3, z4, z5⟩ := Vz H hs cB h0 g1
  cases m with
  | none =>
    obtain rfl := z4 rfl
    refine .same H ?_ (.fD _ _ (.cons _ _ _ _ (.bool false) .nil)) g2
    simp only [execOp, ho, hx]
    simp only [Instr.next, getObj, Sem.run_bind, Sem.run, z2, Result.andThen]
    rfl
  | some r =>
    obtain ⟨r', rfl, hf, sa⟩ := z5 r rfl
    obtain ⟨es, cl, h3, e2⟩ := vt (show jS h r _ = true from g2)
    obtain ⟨cq, m1, m2⟩ := mapOf H hf sa h3
    obtain ⟨e3, e4⟩ := bT e2
    rw [Bool.and_eq_true] at e3
    obtain rfl : cl = since := Nat.eq_of_beq_eq_true e3.1
    obtain rfl : last = cl := Nat.eq_of_beq_eq_true e3.2
    obtain ⟨u1, u2⟩ := MK _ e4
    have hold : ∀ x ∈ cq.toList, x.born < last := fun x hx => by
      obtain ⟨y, y1, _, _, y2⟩ := m2.mem x hx
      rw [y2]; exact u1 y y1
    have Bp : ER φ (es.filter fun e => !seen.contains e.2.2) (leftOf cq seen.toArray).toList := by
      have := ER.filter (p := fun n => !seen.contains n) m2
      unfold leftOf
      rw [Array.toList_filter]
      simpa using this
    rcases run_next_at (P := P) w o.type b r' last last seen.toArray cq last z2 m1 hold (Nat.le_refl _) with ⟨q1, q2⟩ | ⟨en, q1, w1, q2, q3⟩
    · have AP : (es.filter fun e => !seen.contains e.2.2) = [] := by
        have : (leftOf cq seen.toArray).toList = [] := by simpa using q1
        rw [this] at Bp
        revert Bp
        generalize (es.filter fun e => !seen.contains e.2.2) = L
        intro Bp
        cases Bp; rfl
      rw [AP] at u2
      obtain ⟨aU, k1, k2⟩ := mN (show fP h a.block none _ = true from u2)
      refine ⟨_, w, _, _, _, .inl ?_, k2, au.Ff φ _ _ hs, Nat.le_refl _, .fD _ _ (.cons _ _ _ _ (.bool false) .nil), H.kill (h' := ⟨h.nx, aU⟩) hs k1 rfl⟩
      simp only [execOp, ho, hx]
      simp [q2]
    · obtain ⟨y, y1, y2, y3, y4⟩ := Bp.mem en q1
      have eO : tx (Fz h a.block r last seen k) (es.filter fun e => !seen.contains e.2.2) = true := by
        revert u2
        cases (es.filter fun e => !seen.contains e.2.2) with
        | nil => intro _; rfl
        | cons x l => intro h; exact h
      have h5 := Vx _ (show A7 seen y.2.2 _ = true from Vy eO y y1)
      obtain ⟨aU, k1, k2⟩ := mN h5
      have H1 : HR P w0 φ h w1 := by rcases q2 with rfl | rfl; exact H; exact H.drew
      have hh : w1.heap = w.heap := by rcases q2 with rfl | rfl <;> rfl
      have bC : b < w1.heap.size := by rw [hh]; exact (Array.getElem?_eq_some_iff.1 z2).1
      refine ⟨_, ChangeMaps.setBlock w1 b (.mapIter (some r') last (seen.toArray.push en.born) last), _, _, φ, .inl ?_, k2, Ext.refl _ _, Nat.le_refl _, .fD _ _ (.cons _ _ _ _ (.bool true) (.cons _ _ _ _ y2 (.cons _ _ _ _ y3 .nil))), ?_⟩
      · simp only [execOp, ho, hx]
        simp [q3]
      · refine H1.iL (h' := ⟨h.nx, aU⟩) (o' := .mapIter (some r') last (seen.toArray.push en.born) last) z1 k1 rfl ?_ z3 (by simp [ChangeMaps.setBlock, bC]) (fun k hk => by simp [ChangeMaps.setBlock, Ne.symm hk]) (by simp [ChangeMaps.setBlock]) rfl rfl rfl
        have : seen.toArray.push en.born = (seen ++ [y.2.2]).toArray := by simp [y4]
        rw [this]
        exact .eQ _ _ _ _ _ _ (fun h => by cases h) (fun r0 oP => by cases oP; exact ⟨r', rfl, hf, sa⟩)
theorem VA : ∀ {l : List Nat} {k : Nat → Bool}, vI l k = true → ∃ n, l.getLast? = some n ∧ k n = true
 | [], k, h => by cases h
 | [n], k, h => ⟨n, rfl, h⟩
 | _ :: y :: l, k, h => by
  obtain ⟨n, h1, h2⟩ := VA (l := y :: l) (show vI (y :: l) k = true from h)
  exact ⟨n, by rw [List.getLast?_cons_cons]; exact h1, h2⟩
theorem VB {n : Nat} {k : Value → Value → Bool} : ∀ {es : List (Value × Value × Nat)} {cq : List MapEntry}, ER φ es cq → tz es n k = true → ∃ a v e, cq.find? (·.born == n) = some e ∧ VR φ a e.key ∧ VR φ v e.val ∧ k a v = true
 | _, _, .nil, h => by cases h
 | _, _, .cons a v b e l l' h1 h2 h3 h4, h => by
  have h' : (bif Nat.beq b n then k a v else tz l n k) = true := h
  by_cases hb : b = n
  · subst hb
    rw [j6 rfl, cond_true] at h'
    exact ⟨a, v, e, by simp [h3], h1, h2, h'⟩
  · rw [eP hb, cond_false] at h'
    obtain ⟨a', v', e', q1, q2⟩ := VB h4 h'
    refine ⟨a', v', e', ?_, q2⟩
    rw [List.find?_cons_of_neg (by rw [h3]; simpa using hb)]
    exact q1
theorem acw {x : Operand} (ho : o.op = .entry x) (H : HR P w0 φ h w) (hv : LR φ vs ([x].map ρ)) (e : Ul vs h k = true) : PR P w0 φ h ((execOp ρ o).run P w) fun v h' => k v h' = true := by
 obtain ⟨p, ah, e1⟩ := ew e; clear e; subst ah; have e := e1; clear e1
 obtain ⟨p', hp, hr⟩ := hv.one
 simp at hp; subst hp
 obtain ⟨a, ah, e1⟩ := kS e; clear e; subst ah; have e := e1; clear e1
 obtain ⟨a', hx, hs, cB⟩ := hr.jy
 obtain ⟨h0, e1⟩ := bT e
 have h0 := Nat.eq_of_beq_eq_true h0
 obtain ⟨m, since, seen, last, g1, g2⟩ := Vm e1
 obtain ⟨b, d, n, m', z1, rfl, rfl, z2, z3, z4, z5⟩ := Vz H hs cB h0 g1
 cases m with
 | none => cases g2
 | some r =>
  obtain ⟨r', rfl, hf, sa⟩ := z5 r rfl
  obtain ⟨es, cl, h3, e2⟩ := vt (show jS h r _ = true from g2)
  obtain ⟨cq, m1, m2⟩ := mapOf H hf sa h3
  obtain ⟨e3, e4⟩ := bT e2
  obtain rfl : cl = last := Nat.eq_of_beq_eq_true e3
  obtain ⟨st, s1, e5⟩ := VA e4
  obtain ⟨ka, va, en, s2, s3, s4, e6⟩ := VB m2 e5
  refine .same H (v' := .tuple #[en.key, en.val]) ?_ (.fD _ _ (.cons _ _ _ _ s3 (.cons _ _ _ _ s4 .nil))) e6
  have aeq : cq.find? (·.born == st) = some en := by rw [← Array.find?_toList]; exact s2
  have oQ : seen.toArray.back? = some st := by simpa using s1
  simp only [execOp, ho, hx]
  simp only [Instr.entry, getObj, Sem.run_bind, Sem.run, z2, m1, Result.andThen, oQ, bne_self_eq_false, Bool.false_eq_true, if_false, aeq]
  rfl
end
end Go.Ve
namespace Go.Ve
open Go.RowKit
section
variable {P : Program} {w0 w : World} {φ : au} {h : AH} {ρ : Operand → Value} {o : Oper} {vs : List Value} {k : KV}
theorem SP (hρ : ∀ g, ρ (.func g) = .func (.func g) #[] #[]) {p : Prim} {xs : List Operand} (hc : lE P o = some (.aC p, xs)) (H : HR P w0 φ h w) (hv : LR φ vs (xs.map ρ)) (e : p.ev vs h k = true) : PR P w0 φ h ((execOp ρ o).run P w) fun v h' => k v h' = true := by
 cases aS : o.op <;> simp only [lE, aS] at hc
 case move x => cases hc; exact SS (.inl aS) H hv e
 case assign x => cases hc; exact SS (.inr aS) H hv e
 case pick c a b => cases hc; exact abX aS H hv e
 case alloc ty => split at hc <;> cases hc; exact abY aS (by assumption) H e
 case box ty x => cases hc; exact abZ aS H hv e
 case build t parts =>
  split at hc
  · rename_i fs z hu hz
    split at hc
    · rename_i eO
      split at hc
      · rename_i ps eZ
        cases hc
        exact abU aS hu hz (fun f hf => List.all_eq_true.1 eO f hf) eZ H hv e
      · cases hc
    · cases hc
  · rename_i n e' z hu hz
    split at hc
    · rename_i s hs
      cases hc
      exact abV aS hu hz hs H hv e
    · cases hc
  · cases hc
 case buildSlice t len parts =>
  split at hc
  · rename_i e' hu
    split at hc
    · rename_i s z hs hz
      split at hc
      · rename_i hg
        cases hc
        simp only [Bool.and_eq_true, decide_eq_true_eq, beq_iff_eq] at hg
        exact abW aS hu hz hs hg.1.1 hg.1.2 hg.2 H hv e
      · cases hc
    · cases hc
  · cases hc
 case load t a =>
  split at hc
  · rename_i d s hu hs
    split at hc
    · cases hc; exact ab0 aS hu (by assumption) hs H hv e
    · rename_i hd; cases hc; exact ab1 aS hu (by simpa using hd) H hv e
  · cases hc
 case store t a v =>
  split at hc
  · cases hc; exact ab2 aS (by assumption) H hv e
  · cases hc
 case nilCheck x => cases hc; exact ab3 aS H hv e
 case fieldAddr s x f =>
  split at hc
  · rename_i fs hu
    split at hc
    · rename_i fl hf
      split at hc
      · rename_i sz hs
        split at hc
        · cases hc
        · rename_i cL; cases hc; exact ab4 aS hu hf hs cL H hv e
      · cases hc
    · cases hc
  · cases hc
 case field s x f =>
  split at hc
  · rename_i fs hu
    split at hc
    · rename_i fl hf
      split at hc
      · rename_i d sz hd hs
        split at hc
        · cases hc; exact ab5 aS hu hf hd (by assumption) hs H hv e
        · rename_i hn; cases hc; exact ab6 aS hu hf hd (by simpa using hn) H hv e
      · cases hc
    · cases hc
  · cases hc
 case indexAddr t x i =>
  split at hc
  · split at hc
    · cases hc; exact ab7 aS (by assumption) (by assumption) H hv e
    · cases hc
  · split at hc
    · cases hc; exact ab8 aS (by assumption) (by assumption) H hv e
    · cases hc
  · cases hc
 case index t x i =>
  split at hc
  · rename_i len e' hu
    split at hc
    · rename_i d s hd hs
      split at hc
      · cases hc; exact ab9 aS hu hd (by assumption) hs H hv e
      · rename_i hn
        split at hc
        · rename_i h1; subst h1; cases hc; exact aca aS hu hd (by simpa using hn) hs H hv e
        · cases hc
    · cases hc
  · cases hc; exact acb aS (by assumption) H hv e
  · cases hc
 case slice t x lo hi mx =>
  split at hc
  · split at hc
    · split at hc
      · rename_i hg
        cases hc
        simp only [Bool.and_eq_true, decide_eq_true_eq, Bool.or_eq_true, Bool.not_eq_true'] at hg
        exact acd aS (by assumption) (by assumption) hg.1 (fun hm => by rcases hg.2 with h2 | h2 <;> simp_all) H hv e
      · cases hc
    · cases hc
  · split at hc
    · split at hc
      · rename_i hg
        cases hc
        simp only [Bool.or_eq_true, Bool.not_eq_true'] at hg
        exact ace aS (by assumption) (by assumption) (fun hm => by rcases hg with h2 | h2 <;> simp_all) H hv e
      · cases hc
    · cases hc
  · split at hc
    · cases hc
    · rename_i hmx
      cases hc
      have Ae : mx = none := by cases mx <;> simp_all
      subst Ae
      exact acf aS (by assumption) H hv e
  · cases hc
 case binOp op t x y u =>
  split at hc
  · cases hc; exact acg aS H hv e
  · split at hc <;> cases hc <;> first | exact ach aS H hv e | exact aci aS H hv e | exact acj aS H hv e
  · rename_i hu
    split at hc <;> cases hc
    · exact SU aS (.inl ⟨rfl, rfl⟩) hu H hv e
    · exact SU aS (.inr ⟨rfl, rfl⟩) hu H hv e
  · rename_i fs hu
    split at hc
    · rename_i hg
      simp only [Bool.and_eq_true, Bool.not_eq_true'] at hg
      split at hc <;> cases hc
      · exact SV aS (.inl ⟨rfl, rfl⟩) hu hg.1 hg.2 (by assumption) H hv e
      · exact SV aS (.inr ⟨rfl, rfl⟩) hu hg.1 hg.2 (by assumption) H hv e
    · cases hc
  · rename_i hu
    split at hc
    · split at hc <;> cases hc
      · exact oN aS (.inl ⟨rfl, rfl⟩) hu rfl (fun h => by cases h) H hv e
      · exact oN aS (.inr ⟨rfl, rfl⟩) hu rfl (fun h => by cases h) H hv e
    · split at hc <;> cases hc
      · exact SW aS (.inl ⟨rfl, rfl⟩) hu (by assumption) H hv e
      · exact SW aS (.inr ⟨rfl, rfl⟩) hu (by assumption) H hv e
  · rename_i hu
    split at hc <;> cases hc
    · exact oN aS (.inl ⟨rfl, rfl⟩) hu rfl (fun h => by cases h) H hv e
    · exact oN aS (.inr ⟨rfl, rfl⟩) hu rfl (fun h => by cases h) H hv e
  · rename_i hu
    split at hc <;> cases hc
    · exact oN aS (.inl ⟨rfl, rfl⟩) hu rfl (fun h => by cases h) H hv e
    · exact oN aS (.inr ⟨rfl, rfl⟩) hu rfl (fun h => by cases h) H hv e
  · rename_i hu
    split at hc <;> cases hc
    · exact oN aS (.inl ⟨rfl, rfl⟩) hu rfl (fun h => by cases h) H hv e
    · exact oN aS (.inr ⟨rfl, rfl⟩) hu rfl (fun h => by cases h) H hv e
  · rename_i hu
    split at hc
    · rename_i SY
      split at hc <;> cases hc
      · exact oN aS (.inl ⟨rfl, rfl⟩) hu rfl (fun _ => SY) H hv e
      · exact oN aS (.inr ⟨rfl, rfl⟩) hu rfl (fun _ => SY) H hv e
    · cases hc
  · cases hc
 case unOp op t x =>
  split at hc <;> cases hc
  · exact ack aS H hv e
  · exact acm aS H hv e
 case convert s t x =>
  split at hc
  · cases hc; exact acn aS (by assumption) (by assumption) H hv e
  · split at hc
    · split at hc
      · cases hc
      · cases hc; exact aco aS (by assumption) (by assumption) (by assumption) (by assumption) H hv e
    · cases hc
  · split at hc
    · cases hc; exact acp aS (by assumption) (by assumption) (by assumption) H hv e
    · cases hc
  · cases hc
 case makeInterface t x =>
  split at hc
  · cases hc
  · cases hc
  · rename_i SZ xx
    cases hc
    refine acq aS ?_ H hv e
    unfold Program.concrete
    cases hu : P.underlying t with
    | none => exact absurd hu xx
    | some d => cases d <;> first | rfl | exact absurd hu (SZ _)
 case makeFunc fn first bI =>
  split at hc <;> cases hc
  · exact S4 aS (fun _ => .func _) H hv e
  · exact S4 aS (fun _ => .method _) H hv e
 case makeMap t r =>
  split at hc <;> cases hc
  exact acr aS H e
 case makeSlice t l c =>
  split at hc
  · rename_i e' hu
    split at hc
    · rename_i i z hi hz
      split at hc
      · rename_i hg
        cases hc
        simp only [Bool.and_eq_true, decide_eq_true_eq, beq_iff_eq] at hg
        obtain ⟨i2, eY, Af, eR⟩ := nH hz
        rw [hi] at eY; cases eY
        exact abK aS hu hi Af eR hg.1.2 hg.2 hg.1.1 H hv e
      · cases hc
    · cases hc
  · cases hc
 case lookup t m x ok =>
  split at hc
  · rename_i hu
    split at hc
    · cases hc; exact abL aS hu (by assumption) (by assumption) H hv e
    · cases hc
  · cases hc
 case mapUpdate t m x v =>
  split at hc
  · rename_i hu
    split at hc
    · cases hc; exact SB (.inl aS) hu (by assumption) H hv e
    · cases hc
  · cases hc
 case insert t m x v =>
  split at hc
  · rename_i hu
    split at hc
    · cases hc; exact SB (.inr aS) hu (by assumption) H hv e
    · cases hc
  · cases hc
 case extract x i => cases hc; exact acs aS H hv e
 case typeAssert x xt t ok =>
  split at hc
  · cases hc
  · rename_i d z hni hu hz
    split at hc
    · rename_i eR
      subst eR
      cases hc
      exact abP aS hu (fun m hm => hni m hm) hz H hv e
    · cases hc
  · cases hc
 case range t x =>
  split at hc <;> cases hc
  · exact abQ aS (by assumption) H hv e
  · exact acu aS (by assumption) H hv e
 case next x s =>
  split at hc
  · rename_i hs; subst hs; cases hc; exact abR aS H hv e
  · rename_i hs; cases hc; exact acv (by rw [aS]; simpa using hs) H hv e
 case entry x => cases hc; exact acw aS H hv e
 case call c =>
  have xy : ∀ {x : Operand}, c.args.toList = [x] → c.args = #[x] := fun h => by apply Array.ext'; simpa using h
  have xz : ∀ {x y : Operand}, c.args.toList = [x, y] → c.args = #[x, y] := fun h => by apply Array.ext'; simpa using h
  split at hc
  · rename_i g dv
    split at hc
    · rename_i fn hf
      split at hc
      · cases hc
      · split at hc
        · rename_i hb
          rw [Bool.and_eq_true, Option.isNone_iff_eq_none] at hb
          have hx : ∀ {e : Array Value → Sem Value}, (fn.name == "runtime.NumGoroutine") = false → Extern.find fn = some e → ∀ v, (e (c.args.map ρ)).run P w = .ok v w → (execOp ρ o).run P w = .ok (.value v) w := fun h1 h2 v h3 => acx aS dv (hρ g) hf h1 (Option.isNone_iff_eq_none.2 hb.1) (Option.isNone_iff_eq_none.1 hb.2) h2 h3
          split at hc
          · rename_i hn
            have hn : fn.name = "internal/abi.NoEscape" := by simpa using hn
            cases hc; exact acy (hx (by rw [hn]; decide) (acz hn)) rfl H hv e
          · split at hc
            · rename_i hn
              have hn : fn.name = "internal/bytealg.CountString" := by simpa using hn
              cases hc; exact acA (hx (by rw [hn]; decide) (acB hn)) rfl H hv e
            · split at hc
              · rename_i hn
                have hn : fn.name = "internal/bytealg.IndexByteString" := by simpa using hn
                cases hc; exact acC (hx (by rw [hn]; decide) (acD hn)) rfl H hv e
              · cases hc
        · cases hc
    · cases hc
  · cases hc
  · cases hc
  · rename_i b dv
    split at hc
    · split at hc
      · rename_i hx ht
        split at hc <;> cases hc
        · exact acE aS dv (xy hx) ht (by assumption) H hv e
        · exact acF aS dv (xy hx) ht (by assumption) H hv e
        · exact acG aS dv (xy hx) ht (by assumption) H hv e
        · exact acH aS dv (xy hx) ht (by assumption) H e
      · cases hc
    · split at hc
      · rename_i hx ht
        split at hc <;> cases hc
        exact acI aS dv (xy hx) ht (by assumption) H hv e
      · cases hc
    · split at hc
      · rename_i hx ht hu
        split at hc
        · rename_i Ag ke
          split at hc
          · rename_i i z hi hz
            split at hc
            · rename_i hg
              cases hc
              simp only [Bool.and_eq_true, decide_eq_true_eq, beq_iff_eq] at hg
              obtain ⟨i2, eY, Af, eR⟩ := nH hz
              rw [hi] at eY; cases eY
              exact acJ aS dv (xz hx) ht hu Ag ke hi Af hg.1.2 hg.2 hg.1.1 H hv e
            · cases hc
          · cases hc
        · rename_i Ag ke
          split at hc
          · rename_i i z hi hz
            split at hc
            · rename_i hg
              cases hc
              simp only [Bool.and_eq_true, decide_eq_true_eq, beq_iff_eq] at hg
              obtain ⟨i2, eY, Af, eR⟩ := nH hz
              rw [hi] at eY; cases eY
              exact acK aS dv (xz hx) ht hu Ag ke hi Af hg.1.2 (by rw [hg.2, hg.1.1]) hg.1.1 H hv e
            · cases hc
          · cases hc
        · cases hc
      · cases hc
    · split at hc
      · rename_i hx ht
        split at hc
        · rename_i Ag
          split at hc
          · rename_i sz hs
            cases hc
            obtain ⟨i, hi, rfl⟩ := kT hs
            exact abE aS dv (xz hx) ht Ag hi H hv e
          · cases hc
        · cases hc
      · cases hc
    · split at hc
      · rename_i hx; cases hc; exact abC aS dv (xz hx) H hv e
      · cases hc
    · split at hc
      · rename_i hx; cases hc; exact abD aS dv (xz hx) H hv e
      · cases hc
    · split at hc <;> cases hc
    · split at hc
      · rename_i hx; cases hc; exact acL aS dv (xy hx) H hv e
      · cases hc
    · split at hc
      · rename_i hx ht
        split at hc
        · rename_i hu
          split at hc
          · cases hc; exact acM aS dv (xz hx) ht hu (by assumption) H hv e
          · cases hc
        · cases hc
      · cases hc
    · split at hc <;> cases hc
    · cases hc
 all_goals first
  | cases hc
  | (split at hc <;> cases hc)
end
end Go.Ve
namespace Go.Ve
open Go.RowKit
def rJ (φ : au) (rc : Rc) (b : Frame) (cs0 cs : List Frame) : Prop := match rc with
 | .off => cs = cs0 ∧ (b.kind = .normal ∨ (b.kind = .deferred ∧ ∃ c rest, cs0 = c :: rest ∧ c.mode = .returning))
 | .can v => cs = cs0 ∧ b.kind = .deferred ∧ ∃ c rest v', cs0 = c :: rest ∧ c.mode = .panicking [{ v := v', recovered := false }] ∧ VR φ v v'
 | .kU => b.kind = .deferred ∧ ∃ c rest v', cs0 = c :: rest ∧ c.mode = .panicking [{ v := v', recovered := false }] ∧ cs = { c with mode := .panicking [{ v := v', recovered := true }] } :: rest
def lF (φ : au) (e : Env) (b : Frame) : Prop := b.fn = e.fn ∧ match e.tj with
 | none => b.roundOf = none
 | some l => b.kind = .normal ∧ ∃ l', b.roundOf = some l' ∧ φ l ≠ none ∧ ∀ bl d n, φ l = some (.live bl d n) → l' = bl
structure SQ (P : Program) (w0 : World) (φ : au) (s : St) (b : Frame) (cs0 cs : List Frame) (a : Act) (w : World) : Prop where
 df : DL φ s.df a.defers
 rc : rJ φ s.rc b cs0 cs
 heap : HR P w0 φ s.h w
structure SR (P : Program) (w0 : World) (φ : au) (e : Env) (s : St) (b : Frame) (cs0 cs : List Frame) (a : Act) (w : World) : Prop extends SQ P w0 φ s b cs0 cs a w where
 tm : TR φ s.tm e.nt a.tmps
theorem rJ.ext {N : Nat} {φ φ' : au} (h : Ext N φ φ') {rc : Rc} {b : Frame} {cs0 cs : List Frame} (hr : rJ φ rc b cs0 cs) : rJ φ' rc b cs0 cs := by
 cases rc with
 | off => exact hr
 | can v => obtain ⟨h1, h2, c, rest, v', h3, h4, h5⟩ := hr; exact ⟨h1, h2, c, rest, v', h3, h4, VR.ext h h5⟩
 | kU => exact hr
theorem lF.ext {N : Nat} {φ φ' : au} (h : Ext N φ φ') {e : Env} {b : Frame} (he : lF φ e b) : lF φ' e b := by
 obtain ⟨h1, h2⟩ := he
 refine ⟨h1, ?_⟩
 cases hr : e.tj with
 | none => rw [hr] at h2; exact h2
 | some l =>
  rw [hr] at h2
  obtain ⟨h3, l', h4, h5, h6⟩ := h2
  exact ⟨h3, l', h4, h.cj h5, fun bl d n hl => h6 bl d n (h.live h5 hl)⟩
section
variable {P : Program} {b : Frame} {a : Act} {k : List Item} {cs : List Frame} {w : World} {ops : Array Oper} {i : Nat} {rest : List Nat} {o : Oper}
theorem KO (ho : ops[i]? = some o) (hw : Region.wanted o (yielded ops a.tmps) = true) {v : Value} {w' : World} (hr : (o.semAt b.roundOf a.eval).run P w = .ok (.value v) w') :
 step P (lone (b.atR a (.inRegion ops (i :: rest) :: k)) cs w) = .next (lone (b.atR (a.put o.dst v) (.inRegion ops rest :: k)) cs w') := by
 have hf := Frame.finish_atR b a ops i rest k v
 rw [ho] at hf
 rw [show a.put o.dst v = a.put ((some o).bind (·.dst)) v from rfl, ← hf]
 exact step_lone_go (by rw [stepGR_op ho hw]; simp [stepG.apply, hr])
theorem S5 (ho : ops[i]? = some o) (hw : Region.wanted o (yielded ops a.tmps) = true) {w' : World} (hr : (o.semAt b.roundOf a.eval).run P w = .ok .skip w') :
 step P (lone (b.atR a (.inRegion ops (i :: rest) :: k)) cs w) = .next (lone (b.atR (a.put o.dst undef) (.inRegion ops rest :: k)) cs w') := by
 have hf := Frame.finish_atR b a ops i rest k undef
 rw [ho] at hf
 rw [show a.put o.dst undef = a.put ((some o).bind (·.dst)) undef from rfl, ← hf]
 exact step_lone_go (by rw [stepGR_op ho hw]; simp [stepG.apply, hr])
theorem acN (ho : ops[i]? = some o) (hw : Region.wanted o (yielded ops a.tmps) = true) {f : FuncId} {args : Array Value} {w' : World} (hr : (o.semAt b.roundOf a.eval).run P w = .ok (.enter f args) w') :
 step P (lone (b.atR a (.inRegion ops (i :: rest) :: k)) cs w) = .next (lone (Frame.enter P f args .normal) (b.atR a (.inRegion ops (i :: rest) :: k) :: cs) w') :=
 step_lone_go (by rw [stepGR_op ho hw]; simp [stepG.apply, hr, Frame.atR])
theorem acO (ho : ops[i]? = some o) (hw : Region.wanted o (yielded ops a.tmps) = true) {l : Nat} {f : FuncId} {tmps : Array Value} {as bd : Code} {w' : World} (hr : (o.semAt b.roundOf a.eval).run P w = .ok (.round l f tmps as bd) w') :
 step P (lone (b.atR a (.inRegion ops (i :: rest) :: k)) cs w) = .next (lone (Frame.round l f tmps as bd .normal) (b.atR a (.inRegion ops (i :: rest) :: k) :: cs) w') :=
 step_lone_go (by rw [stepGR_op ho hw]; simp [stepG.apply, hr, Frame.atR])
theorem acP (ho : ops[i]? = some o) (hw : Region.wanted o (yielded ops a.tmps) = true) {d : Deferred} {w' : World} (hr : (o.semAt b.roundOf a.eval).run P w = .ok (.defer d) w') :
 step P (lone (b.atR a (.inRegion ops (i :: rest) :: k)) cs w) = .next (lone (b.atR (({ a with defers := d :: a.defers } : Act).put o.dst undef) (.inRegion ops rest :: k)) cs w') := by
 have hf := Frame.finish_atR b { a with defers := d :: a.defers } ops i rest k undef
 rw [ho] at hf
 rw [show ({ a with defers := d :: a.defers } : Act).put o.dst undef = ({ a with defers := d :: a.defers } : Act).put ((some o).bind (·.dst)) undef from rfl, ← hf]
 exact step_lone_go (by rw [stepGR_op ho hw]; simp [stepG.apply, hr, Frame.atR])
theorem acQ (ho : ops[i]? = some o) (hw : Region.wanted o (yielded ops a.tmps) = true) {v : Value} {w' : World} (hr : (o.semAt b.roundOf a.eval).run P w = .halt (.panic v) w') :
 step P (lone (b.atR a (.inRegion ops (i :: rest) :: k)) cs w) = .next (lone { b.atR a (.inRegion ops (i :: rest) :: k) with mode := .panicking [{ v, recovered := false }] } cs w') := by
 rw [← Frame.raise_atR]
 exact step_lone_go (by rw [stepGR_op ho hw]; simp [stepG.apply, hr])
theorem S6 (hb : b.roundOf = none) (ho : ops[i]? = some o) (hw : Region.wanted o (yielded ops a.tmps) = true) {w' : World} (hr : (o.semAt b.roundOf a.eval).run P w = .ok .recover w') {v : Value} {cd : List Frame}
 (ht : (tryRecover (b.atR a (.inRegion ops (i :: rest) :: k)) cs = some (v, cd)) ∨ (tryRecover (b.atR a (.inRegion ops (i :: rest) :: k)) cs = none ∧ v = .nilIface ∧ cd = cs)) :
 step P (lone (b.atR a (.inRegion ops (i :: rest) :: k)) cs w) = .next (lone (b.atR (a.put o.dst v) (.inRegion ops rest :: k)) cd w') := by
 have hf := Frame.finish_atR b a ops i rest k v
 rw [ho] at hf
 rw [show a.put o.dst v = a.put ((some o).bind (·.dst)) v from rfl, ← hf]
 refine step_lone_go ?_
 rw [stepGR_op ho hw]
 have cm : (b.atR a (.inRegion ops (i :: rest) :: k)).roundOf = none := hb
 rcases ht with ht | ⟨ht, rfl, rfl⟩
 · simp [stepG.apply, hr, cm, ht]
 · simp [stepG.apply, hr, cm, ht]
end
def Ah (φ : au) (r : CR) (E : Ending) : Prop := match r with
 | .ret v => ∃ v', E = .returned v' ∧ VR φ v v'
 | .aQ v => ∃ v', E = .panicked [{ v := v', recovered := false }] ∧ VR φ v v'
def Can (P : Program) (f : FuncId) : Prop := ∃ fn, P.funcs[f]? = some fn ∧ (fn.name == "runtime.NumGoroutine") = false ∧ fn.body.isNone = false
def gq (P : Program) (w0 : World) (f : FuncId) (args : List Value) (h : AH) (k : CR → AH → Bool) : Prop :=
 Can P f ∧ ∀ (φ : au) (args' : Array Value) (w : World), LR φ args args'.toList → HR P w0 φ h w → Calls P f args' w fun E w' => ∃ r h' φ', k r h' = true ∧ Ext h.nx φ φ' ∧ h.nx ≤ h'.nx ∧ HR P w0 φ' h' w' ∧ Ah φ' r E
def rK (P : Program) (w0 : World) (l : Nat) (args : List Value) (h : AH) (k : CR → AH → Bool) : Prop :=
 ∀ (φ : au) (args' : Array Value) (l' : Nat) (w : World), LR φ args args'.toList → φ l ≠ none → (∀ b d n, φ l = some (.live b d n) → l' = b) → HR P w0 φ h w →
  ∃ f tmps as bd, (Instr.yield l' args').run P w = .ok (.round l' f tmps as bd) w ∧ ∀ (c : Frame) (cs : List Frame), ∃ v v' h' φ' w', k (.ret v) h' = true ∧ Ext h.nx φ φ' ∧ h.nx ≤ h'.nx ∧ HR P w0 φ' h' w' ∧ VR φ' v v' ∧
   Steps P (lone (Frame.round l' f tmps as bd .normal) (c :: cs) w) (lone (c.finish v') cs w')
def tk (φ : au) (m : Option Value) (u : FrameMode) : Prop := match m with
 | none => u = .returning
 | some v => ∃ v', u = .panicking [{ v := v', recovered := false }] ∧ VR φ v v'
def S7 (φ : au) (rc : Rc) (c c' : Frame) : Prop := match rc with
 | .off => c' = c ∧ c.mode = .returning
 | .can v => c' = c ∧ ∃ v', c.mode = .panicking [{ v := v', recovered := false }] ∧ VR φ v v'
 | .kU => ∃ v', c.mode = .panicking [{ v := v', recovered := false }] ∧ c' = { c with mode := .panicking [{ v := v', recovered := true }] }
def acR (φ : au) (rc : Rc) (c : Frame) : Prop := match rc with
 | .off => c.mode = .returning
 | .can v => ∃ v', c.mode = .panicking [{ v := v', recovered := false }] ∧ VR φ v v'
 | .kU => False
def EV (P : Program) (w0 : World) (f : FuncId) (args : List Value) (rc : Rc) (h : AH) (k : Rc → AH → Bool) : Prop :=
 Can P f ∧ ∀ (φ : au) (args' : Array Value) (w : World) (c : Frame) (cs : List Frame), LR φ args args'.toList → HR P w0 φ h w → acR φ rc c →
  ∃ xA h' φ' w' c' fr v, k xA h' = true ∧ Ext h.nx φ φ' ∧ h.nx ≤ h'.nx ∧ HR P w0 φ' h' w' ∧ S7 φ' xA c c' ∧
   Steps P (lone (Frame.enter P f args' .deferred) (c :: cs) w) (lone fr (c' :: cs) w') ∧ fr.kind = .deferred ∧ fr.going P w' (.returned v)
def ma (P : Program) (w0 : World) (ds : List ef) (m : Option Value) (h : AH) (k : Option Value → AH → Bool) : Prop :=
 ∀ (φ : au) (fr : Frame) (cs : List Frame) (w : World), DL φ ds fr.defers → tk φ m fr.mode → HR P w0 φ h w →
  ∃ m' h' φ' w' u, k m' h' = true ∧ Ext h.nx φ φ' ∧ h.nx ≤ h'.nx ∧ HR P w0 φ' h' w' ∧ tk φ' m' u ∧ Steps P (lone fr cs w) (lone { fr with defers := [], mode := u } cs w')
def Ai (P : Program) (φ : au) (m : Machine) (b : Frame) (todo : List Item) (x : AX) (cs : List Frame) (a : Act) (w : World) : Prop := match x with
 | .normal => Steps P m (lone (b.atR a todo) cs w)
 | .exit id => ∃ k1, exitTo id k1 = exitTo id todo ∧ Steps P m (lone (b.atR a (.code (.exit id) :: k1)) cs w)
 | .ret => ∃ k1, Steps P m (lone (b.atR a (.code .ret :: k1)) cs w)
 | .aQ v => ∃ k1 v', VR φ v v' ∧ Steps P m (lone { b.atR a k1 with mode := .panicking [{ v := v', recovered := false }] } cs w)
def SX (P : Program) (w0 : World) (φ : au) (e : Env) (x : AX) (s : St) (b : Frame) (cs0 cs : List Frame) (a : Act) (w : World) : Prop := match x with
 | .aQ _ => SQ P w0 φ s b cs0 cs a w
 | _ => SR P w0 φ e s b cs0 cs a w
def iu (P : Program) (w0 : World) (φ : au) (N : Nat) (e : Env) (b : Frame) (cs0 : List Frame) (m : Machine) (todo : List Item) (k : KS) : Prop :=
 ∃ x s' φ' cd a' w', k x s' = true ∧ Ext N φ φ' ∧ N ≤ s'.h.nx ∧ SX P w0 φ' e x s' b cs0 cd a' w' ∧ Ai P φ' m b todo x cd a' w'
def KP (c : Code) (it : Item) : Prop := it = .code c ∨ ∃ c', c = .loop c' ∧ it = .inLoop c'
def Aj (P : Program) (w0 : World) (c : Code) (e : Env) (s : St) (k : KS) : Prop :=
 ∀ (φ : au) (b : Frame) (cs0 cs : List Frame) (a : Act) (w : World), SR P w0 φ e s b cs0 cs a w → lF φ e b → ∀ it, KP c it → ∀ todo, iu P w0 φ s.h.nx e b cs0 (lone (b.atR a (it :: todo)) cs w) todo k
def dk (P : Program) (w0 : World) : Task → Prop
 | .code ac e s k => ∀ c, fQ P e.nt c = some ac → Aj P w0 c e s k
 | .call f args h k => gq P w0 f args h k
 | .xB f args rc h k => EV P w0 f args rc h k
 | .round l args h k => rK P w0 l args h k
 | .leave ds m h k => ma P w0 ds m h k
theorem Ai.of_steps {P : Program} {φ : au} {m m1 : Machine} {b : Frame} {todo : List Item} {x : AX} {cs : List Frame} {a : Act} {w : World} (h : Steps P m m1) (ha : Ai P φ m1 b todo x cs a w) : Ai P φ m b todo x cs a w := by
 cases x with
 | normal => exact h.trans ha
 | exit id => obtain ⟨k1, h1, h2⟩ := ha; exact ⟨k1, h1, h.trans h2⟩
 | ret => obtain ⟨k1, h2⟩ := ha; exact ⟨k1, h.trans h2⟩
 | aQ v => obtain ⟨k1, v', h1, h2⟩ := ha; exact ⟨k1, v', h1, h.trans h2⟩
theorem iu.of_steps {P : Program} {w0 : World} {φ φ1 : au} {N N1 : Nat} {e : Env} {b : Frame} {cs0 : List Frame} {m m1 : Machine} {todo : List Item} {k : KS} (hE : Ext N φ φ1) (hN : N ≤ N1) (h : Steps P m m1) (g : iu P w0 φ1 N1 e b cs0 m1 todo k) : iu P w0 φ N e b cs0 m todo k := by
 obtain ⟨x, s', φ', cd, a', w', h1, h2, h3, h4, h5⟩ := g
 exact ⟨x, s', φ', cd, a', w', h1, hE.trans h2 hN, Nat.le_trans hN h3, h4, h5.of_steps h⟩
theorem acS {P : Program} {w : World} {f : FuncId} (hc : Can P f) (args : Array Value) : (callFunc f args).run P w = .ok (.enter f args) w := by
 obtain ⟨fn, h1, h2, h3⟩ := hc
 have oO : fn.name ≠ "runtime.NumGoroutine" := by simpa using h2
 have Ak : fn.body ≠ none := by intro hn; rw [hn] at h3; cases h3
 simp [callFunc, Sem.run_bind, program, Sem.run, Result.andThen, h1, oO, Ak]
theorem Al {P : Program} {w : World} {f : FuncId} (hc : Can P f) (bI args : Array Value) : (invoke (.fn (.func f) bI) args).run P w = .ok (.enter f (args ++ bI)) w := acS hc _
section
variable {P : Program} {w0 w : World} {φ : au} {e : Env} {s : St} {b : Frame} {cs0 cs : List Frame} {a : Act} {ops : Array Oper} {i : Nat} {o : Oper} {rest : List Nat} {todo : List Item}
def tl (P : Program) (w0 : World) (φ : au) (s : St) (b : Frame) (cs0 cs : List Frame) (a : Act) (w : World) (ops : Array Oper) (i : Nat) (o : Oper) (rest : List Nat) (todo : List Item) (dst : Option Pos) (fail : KS) (k : St → Bool) : Prop :=
 (∃ v v' s1 φ' w' cd jc, gP dst s1 v s1.h k = true ∧ s1.tm = s.tm ∧ Ext s.h.nx φ φ' ∧ s.h.nx ≤ s1.h.nx ∧ VR φ' v v' ∧ SQ P w0 φ' s1 b cs0 cd { a with defers := jc } w' ∧
  Steps P (lone (b.atR a (.inRegion ops (i :: rest) :: todo)) cs w) (lone (b.atR (({ a with defers := jc } : Act).put o.dst v') (.inRegion ops rest :: todo)) cd w')) ∨
 (∃ v v' s1 φ' w', fail (.aQ v) s1 = true ∧ Ext s.h.nx φ φ' ∧ s.h.nx ≤ s1.h.nx ∧ VR φ' v v' ∧ SQ P w0 φ' s1 b cs0 cs a w' ∧
  Steps P (lone (b.atR a (.inRegion ops (i :: rest) :: todo)) cs w) (lone { b.atR a (.inRegion ops (i :: rest) :: todo) with mode := .panicking [{ v := v', recovered := false }] } cs w'))
theorem KQ (dst : Option Pos) (s : St) (v : Value) (h : AH) (k : St → Bool) : gP dst s v h k = gP dst ⟨s.tm, s.df, s.rc, h⟩ v h k := by cases s; rfl
theorem rM (hd : ∀ c, o.op ≠ .defer c) : o.semAt b.roundOf a.eval = execOp a.eval o := Oper.semAt_eq _ _ _ hd
theorem KR {p : Prim} {xs : List Operand} (hc : lE P o = some (.aC p, xs)) : ∀ c, o.op ≠ .defer c := by
 intro c aS
 simp only [lE, aS] at hc
 split at hc <;> cases hc
theorem acT {p : Prim} {xs : List Operand} {dst : Option Pos} {fail : KS} {k : St → Bool} {vs : List Value} {rec : Task → Bool} (ho : ops[i]? = some o) (hw : Region.wanted o (yielded ops a.tmps) = true)
 (hc : lE P o = some (.aC p, xs)) (hq : SQ P w0 φ s b cs0 cs a w) (hv : LR φ vs (xs.map a.eval)) (h : S8 rec dst e s fail k vs p = true) : tl P w0 φ s b cs0 cs a w ops i o rest todo dst fail k := by
 obtain ⟨v', w', v, h', φ', h1, h2, h3, h4, h5, h6⟩ := SP (fun _ => rfl) hc hq.heap hv h
 refine .inl ⟨v, v', ⟨s.tm, s.df, s.rc, h'⟩, φ', w', cs, a.defers, ?_, rfl, h3, h4, h5, ⟨hq.df.ext h3, hq.rc.ext h3, h6⟩, ?_⟩
 · rw [KQ] at h2; exact h2
 · have hs := rM (b := b) (a := a) (KR hc)
   rcases h1 with h1 | ⟨h1, rfl⟩
   · exact .one (KO ho hw (by rw [hs]; exact h1))
   · exact .one (S5 ho hw (by rw [hs]; exact h1))
theorem S9 {f : FuncId} {args' : Array Value} {as : List Value} {dst : Option Pos} {fail : KS} {k : St → Bool} (ho : ops[i]? = some o) (hw : Region.wanted o (yielded ops a.tmps) = true)
 (hr : (o.semAt b.roundOf a.eval).run P w = .ok (.enter f args') w) (hq : SQ P w0 φ s b cs0 cs a w) (hl : LR φ as args'.toList) (acU : gq P w0 f as s.h (nL dst s fail k)) : tl P w0 φ s b cs0 cs a w ops i o rest todo dst fail k := by
 obtain ⟨E, w', fr, ⟨r, h', φ', hk, hE, hN, hH, Am⟩, Ao, jv, Ap⟩ := acU.2 φ args' w hl hq.heap (b.atR a (.inRegion ops (i :: rest) :: todo) :: cs)
 have EW := acN (k := todo) (rest := rest) (cs := cs) ho hw hr
 cases r with
 | ret v =>
  obtain ⟨v', rfl, jM⟩ := Am
  refine .inl ⟨v, v', ⟨s.tm, s.df, s.rc, h'⟩, φ', w', cs, a.defers, ?_, rfl, hE, hN, jM, ⟨hq.df.ext hE, hq.rc.ext hE, hH⟩, .head EW (Steps.trans Ao (.one ?_))⟩
  · have dG : gP dst s v h' k = true := hk
    rw [KQ] at dG; exact dG
  · have := step_leave_returned (c := b.atR a (.inRegion ops (i :: rest) :: todo)) (cs := cs) Ap
    rw [Frame.finish_atR, ho] at this
    exact this
 | aQ v =>
  obtain ⟨v', rfl, jM⟩ := Am
  refine .inr ⟨v, v', ⟨s.tm, s.df, s.rc, h'⟩, φ', w', ?_, hE, hN, jM, ⟨hq.df.ext hE, hq.rc.ext hE, hH⟩, .head EW (Steps.trans Ao (.one ?_))⟩
  · cases s; exact hk
  · have := step_leave_panicked (c := b.atR a (.inRegion ops (i :: rest) :: todo)) (cs := cs) Ap
    rw [Frame.raise_atR] at this
    exact this
theorem acV {g : FuncId} {c : Call} {as : List Value} {dst : Option Pos} {fail : KS} {k : St → Bool} {rec : Task → Bool} (cz : ∀ t, rec t = true → dk P w0 t) (ho : ops[i]? = some o) (hw : Region.wanted o (yielded ops a.tmps) = true)
 (aS : o.op = .call c) (dv : c.callee = .value (.func g)) (hq : SQ P w0 φ s b cs0 cs a w) (hl : LR φ as (c.args.toList.map a.eval)) (h : Ta rec dst e s fail k as g = true) : tl P w0 φ s b cs0 cs a w ops i o rest todo dst fail k := by
 have hC := cz _ h
 have vx : gq P w0 g as s.h (nL dst s fail k) := hC
 refine S9 (args' := c.args.map a.eval) ho hw ?_ hq (by simpa using hl) vx
 rw [rM (by intro c' h'; rw [aS] at h'; cases h')]
 have he : a.eval (.func g) = .func (.func g) #[] #[] := rfl
 simp [execOp, aS, resolve, dv, he, Deferred.ofValue, Sem.run_bind, Result.andThen, Al vx.1]
theorem acW {P : Program} {w : World} {ρ : Operand → Value} {o : Oper} {c : Call} {f : Operand} {fn : Fn} {first bI : Array Value} (aS : o.op = .call c) (dv : c.callee = .value f) (hf : ρ f = .func fn first bI) :
 (execOp ρ o).run P w = (invoke (.fn fn bI) (first ++ c.args.map ρ)).run P w := by
 simp [execOp, aS, resolve, dv, hf, Deferred.ofValue, Sem.run_bind, Result.andThen]
theorem LR.vy {φ : au} {l : List Value} (h : LR φ [] l) : l = [] := by cases h; rfl
theorem KT {v : Value} {kf : Nat → List Value → List Value → Bool} {ky : Nat → Bool} (h : tn v kf ky = true) :
 (∃ g first bI, v = .func (.func g) first bI ∧ kf g first.toList bI.toList = true) ∨ ∃ l, v = .func (.yield l) #[] #[] ∧ ky l = true := by
 unfold tn at h
 split at h
 · exact .inl ⟨_, _, _, rfl, h⟩
 · exact .inr ⟨_, rfl, h⟩
 · cases h
theorem acX {f : Operand} {c : Call} {as : List Value} {dst : Option Pos} {fail : KS} {k : St → Bool} {rec : Task → Bool} (cz : ∀ t, rec t = true → dk P w0 t) (ho : ops[i]? = some o) (hw : Region.wanted o (yielded ops a.tmps) = true)
 (aS : o.op = .call c) (dv : c.callee = .value f) (hq : SQ P w0 φ s b cs0 cs a w) (hl : LR φ as ((f :: c.args.toList).map a.eval)) (h : KU rec dst e s fail k as = true) : tl P w0 φ s b cs0 cs a w ops i o rest todo dst fail k := by
 cases hl with
 | cons fv EX as pX hf hl =>
  have cL : ∀ c', o.op ≠ .defer c' := by intro c' h'; rw [aS] at h'; cases h'
  have h' : tn fv (fun g first bI => gM as bI fun l => gM first l fun l => rec (.call g l s.h (nL dst s fail k))) (fun l => rec (.round l as s.h (nL dst s fail k))) = true := h
  rcases KT h' with ⟨g, first, bI, rfl, h1⟩ | ⟨l, rfl, h1⟩
  · have vx : gq P w0 g (first.toList ++ (as ++ bI.toList)) s.h (nL dst s fail k) := cz _ (rC _ _ (rC _ _ h1))
    generalize Aq : a.eval f = EX at hf
    cases hf with
    | func _ rz _ jx _ iY jv h2 h3 =>
     cases jv
     refine S9 (args' := (jx ++ c.args.map a.eval) ++ iY) ho hw ?_ hq ?_ vx
     · rw [rM cL]
       simp [execOp, aS, resolve, dv, Aq, Deferred.ofValue, Sem.run_bind, Result.andThen, Al vx.1]
     · have := LR.append (LR.append h3 hl) h2
       simpa using this
  · have vx : rK P w0 l as s.h (nL dst s fail k) := cz _ h1
    generalize Aq : a.eval f = EX at hf
    cases hf with
    | func _ rz _ jx _ iY jv h2 h3 =>
     have acY : jx = #[] := Array.toList_eq_nil_iff.1 (LR.vy h2)
     have acZ : iY = #[] := Array.toList_eq_nil_iff.1 (LR.vy h3)
     subst acY; subst acZ
     cases jv with
     | yield _ l' hm nM =>
      obtain ⟨f2, tmps, asg, bd, hy, ac0⟩ := vx φ (c.args.map a.eval) l' w (by simpa using hl) hm nM hq.heap
      obtain ⟨v, v', h', φ', w', hk, hE, hN, hH, jM, Tb⟩ := ac0 (b.atR a (.inRegion ops (i :: rest) :: todo)) cs
      have EW := acO (b := b) (a := a) (k := todo) (rest := rest) (cs := cs) ho hw (l := l') (f := f2) (tmps := tmps) (as := asg) (bd := bd) (w' := w) (w := w) (by
       rw [rM cL, acW aS dv Aq]
       simp only [Array.empty_append]
       exact hy)
      refine .inl ⟨v, v', ⟨s.tm, s.df, s.rc, h'⟩, φ', w', cs, a.defers, ?_, rfl, hE, hN, jM, ⟨hq.df.ext hE, hq.rc.ext hE, hH⟩, .head EW ?_⟩
      · have dG : gP dst s v h' k = true := hk
        rw [KQ] at dG; exact dG
      · rw [Frame.finish_atR, ho] at Tb
        exact Tb
end
end Go.Ve
namespace Go.Ve
open Go.RowKit
section
variable {P : Program} {w0 w : World} {φ : au} {e : Env} {s : St} {b : Frame} {cs0 cs : List Frame} {a : Act} {ops : Array Oper} {i : Nat} {o : Oper} {rest : List Nat} {todo : List Item}
theorem ac1 {ρ : Operand → Value} {c : Call} (aS : o.op = .call c) (dv : c.callee = .builtin .recover) : (execOp ρ o).run P w = .ok .recover w := by
 simp [execOp, aS, resolve, dv, Sem.run_bind, Result.andThen, invoke, builtin]
theorem ac2 {c : Call} {as : List Value} {dst : Option Pos} {fail : KS} {k : St → Bool} (ho : ops[i]? = some o) (hw : Region.wanted o (yielded ops a.tmps) = true)
 (aS : o.op = .call c) (dv : c.callee = .builtin .recover) (hq : SQ P w0 φ s b cs0 cs a w) (he : lF φ e b) (h : Ar dst e s k as = true) : tl P w0 φ s b cs0 cs a w ops i o rest todo dst fail k := by
 unfold Ar at h
 split at h
 · rename_i oP
   obtain ⟨_, pY⟩ := he
   rw [oP] at pY
   have xC : b.roundOf = none := pY
   have bP : (o.semAt b.roundOf a.eval).run P w = .ok .recover w := by
    rw [rM (by intro c' h'; rw [aS] at h'; cases h')]; exact ac1 aS dv
   have jN := hq.rc
   split at h
   · rename_i v fE
     rw [fE] at jN
     obtain ⟨rfl, hk, c1, As, v', rfl, hm, hv⟩ := jN
     have ht : tryRecover (b.atR a (.inRegion ops (i :: rest) :: todo)) (c1 :: As) = some (v', { c1 with mode := .panicking [{ v := v', recovered := true }] } :: As) := by
      simp [tryRecover, Frame.atR, hk, hm]
     refine .inl ⟨v, v', ⟨s.tm, s.df, .kU, s.h⟩, φ, w, _, a.defers, h, rfl, Ext.refl _ _, Nat.le_refl _, hv, ⟨hq.df, ⟨hk, c1, As, v', rfl, hm, rfl⟩, hq.heap⟩, .one (S6 xC ho hw bP (.inl ht))⟩
   · rename_i KW
     have ht : tryRecover (b.atR a (.inRegion ops (i :: rest) :: todo)) cs = none := by
      cases Au : s.rc with
      | can v => exact absurd Au (KW v)
      | off =>
       rw [Au] at jN
       obtain ⟨rfl, hk | ⟨hk, c1, As, rfl, hm⟩⟩ := jN
       · simp [tryRecover, Frame.atR, hk]
       · simp [tryRecover, Frame.atR, hk, hm]
      | kU =>
       rw [Au] at jN
       obtain ⟨hk, c1, As, v', _, _, rfl⟩ := jN
       simp [tryRecover, Frame.atR, hk]
     refine .inl ⟨.nilIface, .nilIface, s, φ, w, cs, a.defers, h, rfl, Ext.refl _ _, Nat.le_refl _, .xj, ⟨hq.df, hq.rc, hq.heap⟩, .one (S6 xC ho hw bP (.inr ⟨ht, rfl, rfl⟩))⟩
 · cases h
theorem Tc {t : TypeId} {v : Value} : (Instr.panic (.iface t v)).run P w = .halt (.panic (.iface t v)) w := by
 simp [Instr.panic, goPanic, Sem.run]
theorem ac3 {fail : KS} {as : List Value} (h : EY s fail as = true) : ∃ t x, as = [.iface t x] ∧ fail (.aQ (.iface t x)) s = true := by
 obtain ⟨v, rfl, h1⟩ := ew (show a1 as _ = true from h)
 cases v <;> first | exact ⟨_, _, rfl, h1⟩ | cases h1
theorem Td {x : Operand} {as : List Value} {dst : Option Pos} {fail : KS} {k : St → Bool} (ho : ops[i]? = some o) (hw : Region.wanted o (yielded ops a.tmps) = true)
 (aS : o.op = .panic x ∨ ∃ c, o.op = .call c ∧ c.callee = .builtin .panic ∧ c.args.toList = [x]) (hq : SQ P w0 φ s b cs0 cs a w) (hl : LR φ as ([x].map a.eval)) (h : EY s fail as = true) : tl P w0 φ s b cs0 cs a w ops i o rest todo dst fail k := by
 obtain ⟨t, v, rfl, h1⟩ := ac3 h
 obtain ⟨v', fR, hv⟩ := LR.one hl
 have hx : a.eval x = v' := by simpa using fR
 cases hv with
 | iface _ _ u hu =>
  refine .inr ⟨_, _, s, φ, w, h1, Ext.refl _ _, Nat.le_refl _, .iface t v u hu, ⟨hq.df, hq.rc, hq.heap⟩, .one (acQ ho hw ?_)⟩
  rcases aS with aS | ⟨c, aS, dv, ju⟩
  · rw [rM (by intro c' h'; rw [aS] at h'; cases h')]
    simp [execOp, aS, hx, Sem.run_bind, Tc, Result.andThen]
  · rw [rM (by intro c' h'; rw [aS] at h'; cases h')]
    have hm : c.args = #[x] := by rw [← ju]
    simp [execOp, aS, resolve, dv, hm, hx, Sem.run_bind, Result.andThen, invoke, builtin, Tc]
theorem ac4 {f : Operand} {c : Call} {as : List Value} {dst : Option Pos} {fail : KS} {k : St → Bool} (ho : ops[i]? = some o) (hw : Region.wanted o (yielded ops a.tmps) = true)
 (aS : o.op = .defer c) (dv : c.callee = .value f) (hq : SQ P w0 φ s b cs0 cs a w) (he : lF φ e b) (hl : LR φ as ((f :: c.args.toList).map a.eval)) (h : Av dst e s k as = true) : tl P w0 φ s b cs0 cs a w ops i o rest todo dst fail k := by
 unfold Av at h
 split at h
 · rename_i fv pX oP
   obtain ⟨_, pY⟩ := he
   rw [oP] at pY
   have xC : b.roundOf = none := pY
   rcases KT h with ⟨g, first, bI, rfl, h1⟩ | ⟨l, rfl, h1⟩
   · have h2 := rC _ _ (rC _ _ h1)
     cases hl with
     | cons _ EX _ alN hf hl =>
      generalize Aq : a.eval f = EX at hf
      cases hf with
      | func _ rz _ jx _ iY jv h3 h4 =>
       cases jv
       have bP : (o.semAt b.roundOf a.eval).run P w = .ok (.defer { target := .fn (.func g) iY, args := jx ++ c.args.map a.eval }) w := by
        rw [xC, Oper.semAt_none]
        simp [execOp, aS, resolve, dv, Aq, Deferred.ofValue, Sem.run_bind, Result.andThen]
       refine .inl ⟨undef, undef, ⟨s.tm, .fn g (first.toList ++ (pX ++ bI.toList)) :: s.df, s.rc, s.h⟩, φ, w, cs, { target := .fn (.func g) iY, args := jx ++ c.args.map a.eval } :: a.defers, h2, rfl, Ext.refl _ _, Nat.le_refl _, VR.undef φ, ⟨?_, hq.rc, hq.heap⟩, .one (acP ho hw bP)⟩
       refine .cons _ _ _ _ ⟨iY, _, rfl, ?_⟩ hq.df
       have := LR.append (LR.append h4 hl) h3
       simpa using this
   · cases h1
 · cases h
theorem KX {x : Operand} {y : dB} {k : Value → Bool} (hc : nN x = some y) (hr : ∀ p, y = .t p → VR φ (s.tm.get p) (a.tmps.getD p.un undef)) (h : rN y s.tm k = true) : ∃ v, VR φ v (a.eval x) ∧ k v = true := by
 cases x with
 | tmp t =>
  cases hc
  have h' : PT.dr (Pos.of t) s.tm k = true := h
  rw [PT.jw] at h'
  have := hr _ rfl
  rw [Pos.kP] at this
  exact ⟨_, this, h'⟩
 | const v =>
  simp only [nN] at hc
  split at hc
  · rename_i eR
    cases hc
    exact ⟨v, oM eR, h⟩
  · cases hc
 | func f => cases hc; exact ⟨_, .func _ _ _ _ _ _ (.func f) .nil .nil, h⟩
 | global g => cases hc
theorem Te : ∀ {xs : List Operand} {ys : List dB} {k : List Value → Bool}, xs.mapM nN = some ys → (∀ p, dB.t p ∈ ys → VR φ (s.tm.get p) (a.tmps.getD p.un undef)) → nO ys s.tm k = true → ∃ vs, LR φ vs (xs.map a.eval) ∧ k vs = true := by
 intro xs
 induction xs with
 | nil => intro ys k hm _ h; simp at hm; subst hm; exact ⟨[], .nil, h⟩
 | cons x xs ih =>
  intro ys k hm hr h
  rw [List.mapM_cons] at hm
  cases hx : nN x with
  | none => simp [hx] at hm
  | some y =>
   cases jP : xs.mapM nN with
   | none => simp [hx, jP] at hm
   | some ys' =>
    simp [hx, jP] at hm
    subst hm
    obtain ⟨v, h1, h2⟩ := KX (a := a) (s := s) hx (fun p hp => hr p (by simp [hp])) (show rN y s.tm (fun v => nO ys' s.tm fun vs => k (v :: vs)) = true from h)
    obtain ⟨vs, h3, h4⟩ := ih jP (fun p hp => hr p (by simp [hp])) h2
    exact ⟨v :: vs, .cons _ _ _ _ h1 h3, h4⟩
theorem ac5 (x y : Bool) : mb x y = (x == y) := by cases x <;> cases y <;> rfl
theorem KY {g : Nat} {want : Bool} {t : Tmp} {yes no : Bool} (hg : o.guard = some (g, want)) (ht : (ops[g]?).bind (·.dst) = some t) (hr : VR φ (s.tm.get (Pos.of t)) (a.tmps.getD t undef)) (h : nP (some (Pos.of t, want)) s.tm yes no = true) :
 (Region.wanted o (yielded ops a.tmps) = true ∧ yes = true) ∨ (Region.wanted o (yielded ops a.tmps) = false ∧ no = true) := by
 have h' : PT.dr (Pos.of t) s.tm (vz want yes no) = true := h
 rw [PT.jw] at h'
 have hy : yielded ops a.tmps g = (match a.tmps.getD t undef with | .bool c => some c | _ => none) := by
  unfold yielded
  rw [ht]
  simp only [Option.bind_some, Array.getD_eq_getD_getElem?]
  cases hh : a.tmps[t]? with
  | none => rfl
  | some u => cases u <;> rfl
 unfold Region.wanted
 rw [hg]
 simp only [hy]
 generalize a.tmps.getD t undef = u at hr
 generalize s.tm.get (Pos.of t) = u0 at hr h'
 cases hr with
 | bool c =>
  have h2 : (bif mb c want then yes else no) = true := h'
  rw [ac5] at h2
  cases EZ : (c == want) with
  | true => rw [EZ] at h2; left; exact ⟨by simpa using EZ, h2⟩
  | false => rw [EZ] at h2; right; exact ⟨by simpa using EZ, h2⟩
 | _ => right; exact ⟨by simp, h'⟩
theorem xD {nt : Nat} {ao : bh} (h : mQ P nt ops o = some ao) : ∃ act xs args, (lE P o = some (act, xs) ∨ (act = .aC (.x .bad) ∧ xs = [])) ∧ xs.mapM nN = some args ∧ ao.act = act ∧ ao.args = args ∧
 (o.dst = none ∧ ao.dst = none ∨ ∃ d, o.dst = some d ∧ d < nt ∧ ao.dst = some (Pos.of d)) ∧
 (o.guard = none ∧ ao.guard = none ∨ ∃ g want t, o.guard = some (g, want) ∧ (ops[g]?).bind (·.dst) = some t ∧ ao.guard = some (Pos.of t, want)) := by
 have hX : lE P o = some (Aw P o) ∨ ((Aw P o).1 = .aC (.x .bad) ∧ (Aw P o).2 = []) := by
  unfold Aw
  split
  · rename_i a xs hc
    split
    · exact .inl hc
    · exact .inr ⟨rfl, rfl⟩
  · exact .inr ⟨rfl, rfl⟩
 unfold mQ at h
 split at h
 · rename_i act xs vA
   have hc : lE P o = some (act, xs) ∨ (act = .aC (.x .bad) ∧ xs = []) := by rw [vA] at hX; exact hX
   split at h
   · cases h
   · rename_i args ha
     simp only at h
     split at h
     · cases h
     · rename_i dst hd
       have nQ : o.dst = none ∧ dst = none ∨ ∃ d, o.dst = some d ∧ d < nt ∧ dst = some (Pos.of d) := by
        cases Ax : o.dst with
        | none => rw [Ax] at hd; simp at hd; exact .inl ⟨rfl, hd.symm⟩
        | some d =>
         rw [Ax] at hd
         simp at hd
         exact .inr ⟨d, rfl, hd.1, hd.2.symm⟩
       split at h
       · rename_i hg
         cases h
         exact ⟨act, xs, args, hc, ha, rfl, rfl, nQ, .inl ⟨hg, rfl⟩⟩
       · rename_i g want hg
         split at h
         · rename_i t ht
           cases h
           exact ⟨act, xs, args, hc, ha, rfl, rfl, nQ, .inr ⟨g, want, t, hg, ht, rfl⟩⟩
         · cases h
theorem ac6 {act : iI} {xs : List Operand} (hc : lE P o = some (act, xs)) (hn : ∀ p, act ≠ .aC p) :
 (∃ c, o.op = .call c ∧ ((∃ g, act = .call g ∧ c.callee = .value (.func g) ∧ xs = c.args.toList) ∨ (∃ f, act = .dyn ∧ c.callee = .value f ∧ xs = f :: c.args.toList) ∨
  (act = .recover ∧ c.callee = .builtin .recover ∧ xs = []) ∨ (∃ x, act = .panic ∧ c.callee = .builtin .panic ∧ c.args.toList = [x] ∧ xs = [x]))) ∨
 (∃ x, o.op = .panic x ∧ act = .panic ∧ xs = [x]) ∨ (∃ c f, o.op = .defer c ∧ act = .defer ∧ c.callee = .value f ∧ xs = f :: c.args.toList) := by
 cases aS : o.op <;> simp only [lE, aS] at hc
 case call c =>
  refine .inl ⟨c, rfl, ?_⟩
  cases dv : c.callee with
  | value f =>
   rw [dv] at hc
   cases f with
   | func g' =>
    simp only at hc
    (repeat' split at hc) <;> first
     | (cases hc; done)
     | (cases hc; exact .inl ⟨g', rfl, rfl, rfl⟩)
     | (cases hc; exact absurd rfl (hn _))
   | _ => cases hc; exact .inr (.inl ⟨_, rfl, rfl, rfl⟩)
  | invoke r m => rw [dv] at hc; cases hc
  | builtin bb =>
   rw [dv] at hc
   cases bb <;> simp only at hc <;> (repeat' split at hc) <;> first
    | (cases hc; done)
    | (cases hc; exact absurd rfl (hn _))
    | (cases hc; rename_i hx; exact .inr (.inr (.inl ⟨rfl, rfl, rfl⟩)))
    | (cases hc; rename_i hx; exact .inr (.inr (.inr ⟨_, rfl, rfl, hx, rfl⟩)))
 case panic x => cases hc; exact .inr (.inl ⟨x, rfl, rfl, rfl⟩)
 case defer c =>
  split at hc
  · rename_i f dv
    cases hc
    exact .inr (.inr ⟨c, f, rfl, rfl, dv, rfl⟩)
  · cases hc
 all_goals ((repeat' split at hc) <;> first | (cases hc; done) | (cases hc; exact absurd rfl (hn _)))
theorem Tf {ao : bh} {fail : KS} {k : St → Bool} {rec : Task → Bool} {nt : Nat} (cz : ∀ t, rec t = true → dk P w0 t) (hc : mQ P nt ops o = some ao) (ho : ops[i]? = some o) (hq : SQ P w0 φ s b cs0 cs a w) (he : lF φ e b)
 (hr : ∀ p ∈ ao.reads, VR φ (s.tm.get p) (a.tmps.getD p.un undef)) (h : tp rec ao e s fail k = true) : tl P w0 φ s b cs0 cs a w ops i o rest todo ao.dst fail k := by
 obtain ⟨act, xs, args, h1, h2, rfl, rfl, h4, h5⟩ := xD hc
 have ju : ∀ p, dB.t p ∈ ao.args → VR φ (s.tm.get p) (a.tmps.getD p.un undef) := fun p hp => hr p (by
  unfold bh.reads
  exact List.mem_append_left _ (List.mem_filterMap.2 ⟨.t p, hp, rfl⟩))
 have key : (Region.wanted o (yielded ops a.tmps) = true ∧ nO ao.args s.tm (xE rec ao.act ao.dst e s fail k) = true) ∨ (Region.wanted o (yielded ops a.tmps) = false ∧ gP ao.dst s undef s.h k = true) := by
  have h' : nP ao.guard s.tm (nO ao.args s.tm (xE rec ao.act ao.dst e s fail k)) (gP ao.dst s undef s.h k) = true := by cases ao; exact h
  rcases h5 with ⟨g1, g2⟩ | ⟨g, want, t, g1, g2, g3⟩
  · rw [g2] at h'
    exact .inl ⟨by simp [Region.wanted, g1], h'⟩
  · rw [g3] at h'
    refine KY (φ := φ) g1 g2 ?_ h'
    have := hr (Pos.of t) (by unfold bh.reads; rw [g3]; simp)
    rw [Pos.kP] at this
    exact this
 rcases key with ⟨hw, hk⟩ | ⟨hw, hk⟩
 · obtain ⟨vs, hv, hk⟩ := Te h2 ju hk
   rcases h1 with h1 | ⟨hb, _⟩
   rotate_left
   · rw [hb] at hk; exact Bool.noConfusion (show false = true from hk)
   by_cases hp : ∃ p, ao.act = .aC p
   · obtain ⟨p, hp⟩ := hp
     rw [hp] at h1 hk
     exact acT (rec := rec) (e := e) ho hw h1 hq hv hk
   · have hn : ∀ p, ao.act ≠ .aC p := fun p hp' => hp ⟨p, hp'⟩
     rcases ac6 h1 hn with ⟨c, aS, ⟨g, ha, dv, rfl⟩ | ⟨f, ha, dv, rfl⟩ | ⟨ha, dv, rfl⟩ | ⟨x, ha, dv, hx, rfl⟩⟩ | ⟨x, aS, ha, rfl⟩ | ⟨c, f, aS, ha, dv, rfl⟩
     · rw [ha] at hk; exact acV (e := e) cz ho hw aS dv hq hv hk
     · rw [ha] at hk; exact acX (e := e) cz ho hw aS dv hq hv hk
     · rw [ha] at hk; exact ac2 ho hw aS dv hq he hk
     · rw [ha] at hk; exact Td ho hw (.inr ⟨c, aS, dv, hx⟩) hq hv hk
     · rw [ha] at hk; exact Td ho hw (.inl aS) hq hv hk
     · rw [ha] at hk; exact ac4 ho hw aS dv hq he hv hk
 · refine .inl ⟨undef, undef, s, φ, w, cs, a.defers, hk, rfl, Ext.refl _ _, Nat.le_refl _, VR.undef φ, ⟨hq.df, hq.rc, hq.heap⟩, .one ?_⟩
   have := stepR_op_skip (P := P) (b := b) (a := a) (k := todo) (cs := cs) (w := w) (ops := ops) (i := i) (rest := rest) (by simp [ho, hw])
   rw [ho] at this
   exact this
end
end Go.Ve
namespace Go.Ve
open Go.RowKit
section
variable {P : Program} {w0 w : World} {φ : au} {e : Env} {s : St} {b : Frame} {cs0 cs : List Frame} {a : Act} {ops : Array Oper} {i : Nat} {o : Oper} {rest : List Nat} {todo : List Item}
theorem ac7 {dst : Option Pos} {v : Value} {k : St → Bool} (h : gP dst s v s.h k = true) : (dst = none ∧ k s = true) ∨ ∃ p, dst = some p ∧ k ⟨s.tm.set p v, s.df, s.rc, s.h⟩ = true := by
 cases dst with
 | none => exact .inl ⟨rfl, by cases s; exact h⟩
 | some p =>
  refine .inr ⟨p, rfl, ?_⟩
  have h' : PT.gb p s.tm v (fun KZ => k ⟨KZ, s.df, s.rc, s.h⟩) = true := by cases s; exact h
  rw [PT.lB] at h'
  exact h'
theorem Act.E0 (a : Act) (d : Option Tmp) (v : Value) : (a.put d v).defers = a.defers := by cases d <;> rfl
theorem SQ.defers {a a' : Act} (hq : SQ P w0 φ s b cs0 cs a w) (h : a'.defers = a.defers) : SQ P w0 φ s b cs0 cs a' w := ⟨h ▸ hq.df, hq.rc, hq.heap⟩
inductive xF (P : Program) (nt : Nat) (ops : Array Oper) : List Nat → List bh → Prop where
 | nil : xF P nt ops [] []
 | cons (i : Nat) (o : Oper) (ao : bh) (is : List Nat) (l : List bh) (ho : ops[i]? = some o) (hc : mQ P nt ops o = some ao) (hl : xF P nt ops is l) : xF P nt ops (i :: is) (ao :: l)
theorem ac8 {nt : Nat} : ∀ (vB pre : List Oper) (l : List bh), vB.mapM (mQ P nt ops) = some l → ops.toList = pre ++ vB → xF P nt ops (List.range' pre.length vB.length) l := by
 intro vB
 induction vB with
 | nil => intro pre l h _; simp at h; subst h; exact .nil
 | cons o vB ih =>
  intro pre l h hp
  rw [List.mapM_cons] at h
  cases ho : mQ P nt ops o with
  | none => simp [ho] at h
  | some ao =>
   cases hs : vB.mapM (mQ P nt ops) with
   | none => simp [ho, hs] at h
   | some l' =>
    simp [ho, hs] at h
    subst h
    rw [List.length_cons, List.range'_succ]
    refine .cons _ o _ _ _ ?_ ho ?_
    · rw [← Array.getElem?_toList, hp]; simp
    · have := ih (pre ++ [o]) l' hs (by simp [hp])
      simpa using this
theorem ac9 {nt : Nat} {l : List bh} (h : Ay P nt ops = some l) : xF P nt ops (List.range ops.size) l := by
 have := ac8 ops.toList [] l h rfl
 simpa [List.range_eq_range'] using this
theorem ada {nt : Nat} {ao : bh} (hc : mQ P nt ops o = some ao) {a : Act} {tm : PT} (ht : TR φ tm nt a.tmps) {v v' : Value} (hv : VR φ v v') :
 (ao.dst = none → TR φ tm nt (a.put o.dst v').tmps) ∧ (∀ p, ao.dst = some p → TR φ (tm.set p v) nt (a.put o.dst v').tmps) := by
 obtain ⟨act, xs, args, h1, h2, h3, Ak, h4, h5⟩ := xD hc
 rcases h4 with ⟨h6, h7⟩ | ⟨d, h6, hd, h7⟩
 · rw [h6, h7]
   refine ⟨fun _ => ht, fun p hp => ?_⟩
   cases hp
 · rw [h6, h7]
   refine ⟨fun hn => (by cases hn), fun p hp => ?_⟩
   cases hp
   have := ht.set (Pos.of d) (by rw [Pos.kP]; exact hd) hv
   rw [Pos.kP] at this
   exact this
theorem adb {rec : Task → Bool} (cz : ∀ t, rec t = true → dk P w0 t) {k : KS} : ∀ {is : List Nat} {l : List bh}, xF P e.nt ops is l → ∀ {φ : au} {s : St} {cs : List Frame} {a : Act} {w : World}, SR P w0 φ e s b cs0 cs a w → lF φ e b → Az rec l e s k = true →
 iu P w0 φ s.h.nx e b cs0 (lone (b.atR a (.inRegion ops is :: todo)) cs w) todo k := by
 intro is l hR
 induction hR with
 | nil =>
  intro φ s cs a w hs he h
  exact ⟨.normal, s, φ, cs, a, w, h, Ext.refl _ _, Nat.le_refl _, hs, .one stepR_region_end⟩
 | cons i o ao is l ho hc hl ih =>
  intro φ s cs a w hs he h
  have h' : tp rec ao e s k (fun s => Az rec l e s k) = true := h
  rcases Tf (rest := is) (todo := todo) cz hc ho hs.toSQ he (fun p _ => hs.tm.2 p) h' with ⟨v, v', s1, φ', w', cd, jc, h1, h2, h3, h4, h5, h6, h7⟩ | ⟨v, v', s1, φ', w', h1, h3, h4, h5, h6, h7⟩
  · have dP : TR φ' s1.tm e.nt ({ a with defers := jc } : Act).tmps := by rw [h2]; exact hs.tm.ext h3
    obtain ⟨t1, t2⟩ := ada hc dP h5
    rcases ac7 h1 with ⟨hd, hk⟩ | ⟨p, hd, hk⟩
    · exact (ih (s := s1) ⟨h6.defers (Act.E0 _ _ _), t1 hd⟩ (he.ext h3) hk).of_steps h3 h4 h7
    · exact (ih (s := ⟨s1.tm.set p v, s1.df, s1.rc, s1.h⟩) ⟨SQ.mk (by rw [Act.E0]; exact h6.df) h6.rc h6.heap, t2 p hd⟩ (he.ext h3) hk).of_steps h3 h4 h7
  · exact ⟨.aQ v, s1, φ', cs, a, w', h1, h3, h4, h6, ⟨_, v', h5, h7⟩⟩
end
end Go.Ve
namespace Go.Ve
open Go.RowKit
section
variable {P : Program} {w0 w : World} {φ : au} {h : AH}
theorem Ext.mono {N M : Nat} {φ φ' : au} (h : Ext N φ φ') (hM : M ≤ N) : Ext M φ φ' := ⟨h.old, fun f hf => h.out f (Nat.lt_of_lt_of_le hf hM)⟩
theorem HR.new (H : HR P w0 φ h w) {o : AO} {o' : Obj} {d n : Nat} {aU : NT AO} (hs : h.ob.im h.nx (some o) aU) (ho : OR P φ d n o o') :
 HR P w0 (φ.put h.nx (.live w.heap.size d n)) ⟨h.nx + 1, aU⟩ (w.alloc o') ∧ Ext h.nx φ (φ.put h.nx (.live w.heap.size d n)) :=
 H.newAt (f := h.nx) (h' := ⟨h.nx + 1, aU⟩) (H.fresh _ (Nat.le_refl _)) hs.1 (fun g hg _ => hs.2 g hg) (fun g hg => H.fresh g (by have : h.nx + 1 ≤ g := hg; omega)) (fun g hg => by have h2 : h.nx + 1 ≤ g := hg; show aU.get g = none; rw [hs.2 g (by omega)]; exact H.top g (by omega)) (Nat.lt_succ_self _) h.nx (Nat.le_refl _) ho
theorem HR.loop (H : HR P w0 φ h w) {f : Nat} {l : j7} (hf : φ f ≠ none) (ho : h.ob.get f = some (.loop l)) : ∃ b d n l', φ f = some (.live b d n) ∧ w.heap[b]? = some (.loop l') ∧ pZ P φ l l' ∧ w0.heap.size ≤ b := by
 obtain ⟨b, d, n, o', h1, h2, h3, h4⟩ := H.live hf ho
 cases h3 with
 | loop _ _ _ l' hl => exact ⟨b, d, n, l', h1, h2, hl, h4 rfl⟩
theorem ade {l : Nat} {r : Loop} (hl : w.heap[l]? = some (.loop r)) (fn : FuncId) (tmps : Array Value) (ps : Array Tmp) (assign body : Code) :
 (Instr.enterLoop fn tmps ps assign body (some l)).run P w = .ok (w.heap.size, []) (w.alloc (.loop { state := .ready, pending := none, fn, tmps, params := ps, assign, body, defers := r.defers })) := by
 unfold Instr.enterLoop
 simp only [Sem.run_bind, run_getLoop hl, run_newObj_alloc, Result.andThen, Sem.run_pure]
variable {e : Env} {s : St} {b : Frame} {cs0 cs : List Frame} {a : Act} {todo : List Item} {k : KS}
theorem iu.bind {N : Nat} {m : Machine} {Tg : List Item} {k' : KS} (g : iu P w0 φ N e b cs0 m Tg k')
 (h : ∀ x s1 φ1 eg a1 w1, k' x s1 = true → Ext N φ φ1 → N ≤ s1.h.nx → SX P w0 φ1 e x s1 b cs0 eg a1 w1 → Ai P φ1 m b Tg x eg a1 w1 → iu P w0 φ N e b cs0 m todo k) : iu P w0 φ N e b cs0 m todo k := by
 obtain ⟨x, s1, φ1, eg, a1, w1, h1, h2, h3, h4, h5⟩ := g
 exact h x s1 φ1 eg a1 w1 h1 h2 h3 h4 h5
theorem step_scope {c : Code} : step P (lone (b.atR a (.code (.scope c) :: todo)) cs w) = .next (lone (b.atR a (.code c :: .inScope c :: todo)) cs w) :=
 step_lone_go (by simp [stepG, stepG.exec, Frame.atR])
theorem step_inScope {c : Code} : step P (lone (b.atR a (.inScope c :: todo)) cs w) = .next (lone (b.atR a todo) cs w) :=
 step_lone_go (by simp [stepG, stepG.exec, Frame.atR])
def Th (P : Program) (w0 : World) : Prop := ∀ (rec : Task → Bool), (∀ t, rec t = true → dk P w0 t) → ∀ (e : Env) (b : Frame) (cs0 : List Frame) (todo : List Item) (k : KS) (id : Nat) (ops : Array Oper) (l : List bh) (dl : List iJ),
 Ay P e.nt ops = some l → K3 ops l.toArray = some dl → ∀ (φ : au) (s : St) (cs : List Frame) (a : Act) (w : World), SR P w0 φ e s b cs0 cs a w → lF φ e b → nR rec dl e s k = true →
  iu P w0 φ s.h.nx e b cs0 (lone (b.atR a (.code (.region id ops true) :: todo)) cs w) todo k
theorem Ti {rec : Task → Bool} (cz : ∀ t, rec t = true → dk P w0 t) {ac : c7} {c2 : Code} {it : Item} {m : Machine} {N : Nat} (hc : fQ P e.nt c2 = some ac) (fF : KP c2 it) (hx : ∀ id, exitTo id (it :: todo) = exitTo id todo) (he : lF φ e b)
 (g : iu P w0 φ N e b cs0 m (it :: todo) (AA rec ac e k)) : iu P w0 φ N e b cs0 m todo k := by
 refine g.bind fun x s1 φ1 eg a1 w1 h1 h2 h3 h4 h5 => ?_
 cases x with
 | normal =>
  have hC : dk P w0 (.code ac e s1 k) := cz _ h1
  have := hC c2 hc φ1 b cs0 eg a1 w1 h4 (he.ext h2) it fF todo
  exact this.of_steps h2 h3 h5
 | exit id =>
  obtain ⟨k1, h6, h7⟩ := h5
  exact ⟨.exit id, s1, φ1, eg, a1, w1, h1, h2, h3, h4, k1, by rw [h6, hx], h7⟩
 | ret => exact ⟨.ret, s1, φ1, eg, a1, w1, h1, h2, h3, h4, h5⟩
 | aQ v => exact ⟨.aQ v, s1, φ1, eg, a1, w1, h1, h2, h3, h4, h5⟩
theorem adf {id : Nat} {m : Machine} {N : Nat} (g : iu P w0 φ N e b cs0 m (.inBlock id :: todo) (K4 id k)) : iu P w0 φ N e b cs0 m todo k := by
 refine g.bind fun x s1 φ1 eg a1 w1 h1 h2 h3 h4 h5 => ?_
 cases x with
 | normal => exact ⟨.normal, s1, φ1, eg, a1, w1, h1, h2, h3, h4, Steps.trans h5 (.one stepR_inBlock)⟩
 | exit j =>
  obtain ⟨k1, h6, h7⟩ := h5
  have gK : (bif Nat.beq j id then k .normal s1 else k (.exit j) s1) = true := h1
  cases hj : Nat.beq j id with
  | true =>
   rw [hj] at gK
   have : j = id := Nat.eq_of_beq_eq_true hj
   subst this
   have h6' : exitTo j k1 = some todo := by rw [h6]; simp [exitTo]
   exact ⟨.normal, s1, φ1, eg, a1, w1, gK, h2, h3, h4, Steps.trans h7 (.one (stepR_exit h6'))⟩
  | false =>
   rw [hj] at gK
   have cL : ¬ (id = j) := fun e' => by subst e'; rw [Nat.beq_refl] at hj; cases hj
   refine ⟨.exit j, s1, φ1, eg, a1, w1, gK, h2, h3, h4, k1, ?_, h7⟩
   rw [h6]; simp [exitTo, cL]
 | ret => exact ⟨.ret, s1, φ1, eg, a1, w1, h1, h2, h3, h4, h5⟩
 | aQ v => exact ⟨.aQ v, s1, φ1, eg, a1, w1, h1, h2, h3, h4, h5⟩
theorem adg {l : Nat} {df : List ef} {pj : Option Code} {h1 : AH} {N : Nat} {m : Machine} (hj : E3 s df k pj h1 = true) (hs : SR P w0 φ e ⟨s.tm, df, s.rc, h1⟩ b cs0 cs a w) (hN : N ≤ h1.nx)
 (iq : Steps P m (lone (b.atR a ((pj.map Item.code).toList ++ todo)) cs w)) : iu P w0 φ N e b cs0 m todo k := by
 unfold E3 at hj
 split at hj
 · exact ⟨.normal, _, φ, cs, a, w, hj, Ext.refl _ _, hN, hs, iq⟩
 · exact ⟨.ret, _, φ, cs, a, w, hj, Ext.refl _ _, hN, hs, todo, iq⟩
 · exact ⟨.exit _, _, φ, cs, a, w, hj, Ext.refl _ _, hN, hs, todo, rfl, iq⟩
 · cases hj
theorem pZ.iL {l : j7} {l' : Loop} (r : pZ P φ l l') (st : LoopState) (j : Option Code) : pZ P φ (l.iL st j) { l' with state := st, pending := j } := by
 cases l
 exact ⟨rfl, rfl, r.fn, r.tm, r.params, r.small, r.assign, r.body, r.defs, r.K5⟩
theorem HR.K6 (H : HR P w0 φ h w) {f b d n : Nat} {l' : Loop} {aU : NT AO} (hl : φ f = some (.live b d n)) (hw : w.heap[b]? = some (.loop l')) (hb : w0.heap.size ≤ b) {l2 : j7} {AB : Loop} (hs : h.ob.im f (some (.loop l2)) aU) (hr : pZ P φ l2 AB) :
 HR P w0 φ ⟨h.nx, aU⟩ (w.putObj b (.loop AB)) := by
 have bC : b < w.heap.size := (Array.getElem?_eq_some_iff.1 hw).1
 exact H.iL (h' := ⟨h.nx, aU⟩) hl hs rfl (.loop d n _ _ hr) hb (World.putObj_heap_same bC) (fun k hk => World.putObj_heap_other hk) World.putObj_size rfl rfl rfl
theorem Tj {rec : Task → Bool} (cz : ∀ t, rec t = true → dk P w0 t) {g : Operand} {ps : Array Tmp} {assign body : Code} {x y : c7} {gf : FuncId} {first bI jx iY : Array Value} {h1 : AH} {dl : Nat} {df : List ef} {mark : List Deferred} {w1 : World} {N dl' : Nat}
 (eZ : ∀ t ∈ ps.toList, t < e.nt) (hx : fQ P e.nt assign = some x) (hy : fQ P e.nt body = some y) (hg : a.eval g = .func (.func gf) jx iY) (vC : LR φ first.toList jx.toList) (vD : LR φ bI.toList iY.toList)
 (hb : b.fn = e.fn) (dP : TR φ s.tm e.nt a.tmps) (tq : DL φ df (mark ++ a.defers)) (jN : rJ φ s.rc b cs0 cs) (H : HR P w0 φ h1 w1) (tr : φ dl ≠ none) (adh : ∀ b d n, φ dl = some (.live b d n) → dl' = b) (hN : N ≤ h1.nx)
 (adi : (Instr.enterLoop b.fn a.tmps ps assign body b.roundOf).run P w = .ok (w1.heap.size, mark) (w1.alloc (.loop { state := .ready, pending := none, fn := b.fn, tmps := a.tmps, params := ps, assign, body, defers := dl' })))
 (hk : AE rec e s k (ps.toList.map Pos.of) x y gf first.toList bI.toList h1 dl df = true) :
 iu P w0 φ N e b cs0 (lone (b.atR a (.code (.rangeFunc g ps assign body) :: todo)) cs w) todo k := by
 obtain ⟨aU, bV, K7⟩ := tf hk
 have K8 : pZ P φ ⟨.ready, none, e.fn, s.tm, ps.toList.map Pos.of, x, y, dl, e.nt⟩ { state := .ready, pending := none, fn := b.fn, tmps := a.tmps, params := ps, assign, body, defers := dl' } :=
  ⟨rfl, rfl, hb, dP, rfl, eZ, hx, hy, tr, adh⟩
 obtain ⟨H1, qa⟩ := H.new bV (.loop 0 0 _ _ K8)
 have AF := rC _ _ K7
 have hC : gq P w0 gf (first.toList ++ (.func (.yield h1.nx) ⟨[]⟩ ⟨[]⟩ :: bI.toList)) ⟨h1.nx + 1, aU⟩ (K9 s df k h1.nx) := cz _ AF
 have ib : (φ.put h1.nx (.live w1.heap.size 0 0)) h1.nx = some (.live w1.heap.size 0 0) := au.gN _ _ _
 have ju : LR (φ.put h1.nx (.live w1.heap.size 0 0)) (first.toList ++ (.func (.yield h1.nx) ⟨[]⟩ ⟨[]⟩ :: bI.toList)) ((jx ++ #[Value.func (.yield w1.heap.size) #[] #[]]) ++ iY).toList := by
  have := LR.append (LR.cons _ _ _ _ (VR.func (.yield h1.nx) (.yield w1.heap.size) ⟨[]⟩ #[] ⟨[]⟩ #[] (.yield _ _ (by rw [ib]; simp) (fun b d n hh => by rw [ib] at hh; cases hh; rfl)) .nil .nil) (LR.ext qa vD)) (LR.ext qa vC)
  simpa using this
 have nS := stepR_rangeFunc (P := P) (b := b) (a := a) (k := todo) (cs := cs) (w := w) (g := g) (ps := ps) (assign := assign) (body := body) (d := { target := .fn (.func gf) iY, args := jx ++ #[.func (.yield w1.heap.size) #[] #[]] })
  (f := gf) (args := (jx ++ #[.func (.yield w1.heap.size) #[] #[]]) ++ iY) adi
  (by
   have E4 : a.eval (.const (.func (.yield w1.heap.size) #[] #[])) = .func (.yield w1.heap.size) #[] #[] := rfl
   simp [resolve, rangeCall, hg, Deferred.ofValue, E4]; rfl) (Al hC.1 _ _)
 obtain ⟨E, w3, fr, ⟨r, h3, φ3, Tk, La, Lb, H3, Am⟩, Ao, jv, Ap⟩ := hC.2 _ _ _ ju H1 (b.atR { a with defers := mark ++ a.defers } (.inRangeFunc w1.heap.size :: todo) :: cs)
 have hE : Ext N φ φ3 := (qa.mono hN).trans La (Nat.le_trans hN (Nat.le_succ _))
 have Tl : N ≤ h3.nx := by have : h1.nx + 1 ≤ h3.nx := Lb; omega
 have Tm : DL φ3 df ({ a with defers := mark ++ a.defers } : Act).defers := tq.ext hE
 cases r with
 | aQ v =>
  obtain ⟨v', rfl, jM⟩ := Am
  refine ⟨.aQ v, ⟨s.tm, df, s.rc, h3⟩, φ3, cs, { a with defers := mark ++ a.defers }, w3, Tk, hE, Tl, ⟨Tm, jN.ext hE, H3⟩, ⟨.inRangeFunc w1.heap.size :: todo, v', jM, .head nS (Steps.trans Ao (.one ?_))⟩⟩
  have := step_leave_panicked (c := b.atR { a with defers := mark ++ a.defers } (.inRangeFunc w1.heap.size :: todo)) (cs := cs) Ap
  rw [Frame.raise_atR] at this
  exact this
 | ret v =>
  obtain ⟨v', rfl, jM⟩ := Am
  have oQ := step_leave_returned (c := b.atR { a with defers := mark ++ a.defers } (.inRangeFunc w1.heap.size :: todo)) (cs := cs) Ap
  rw [finish_atR_inRangeFunc] at oQ
  obtain ⟨lp, E5, hk4⟩ := AG Tk
  obtain ⟨E6, hk5⟩ := bT hk4
  obtain ⟨Lc, adj, hk6⟩ := mN hk5
  have adk : φ3 h1.nx ≠ none := La.cj (by rw [ib]; simp)
  obtain ⟨b2, d2, n2, E7, Tn, Ld, E8, hl5⟩ := H3.loop adk E5
  have kg : b2 = w1.heap.size := by
   have := La.live (by rw [ib]; simp) Tn
   rw [ib] at this; cases this; rfl
  subst kg
  have adl : E7.state ≠ .busy := by
   rw [E8.state]
   intro hh
   rw [hh] at E6; cases E6
  have E9 := stepR_endRangeFunc (P := P) (b := b) (a := { a with defers := mark ++ a.defers }) (k := todo) (cs := cs) (run_endLoop Ld adl)
  have To := E8.iL .exhausted lp.dC
  rw [show ({ E7 with state := .exhausted, pending := lp.dC } : Loop) = { E7 with state := .exhausted } from by rw [← E8.dC]] at To
  have H4 := H3.K6 Tn Ld hl5 adj To
  refine (adg (l := 0) (φ := φ3) (a := { a with defers := mark ++ a.defers }) (N := h3.nx) hk6 ⟨⟨Tm, jN.ext hE, H4⟩, dP.ext hE⟩ (Nat.le_refl _) (m := lone (b.atR { a with defers := mark ++ a.defers } ((E7.pending.map Item.code).toList ++ todo)) cs _) ?_).of_steps hE Tl (.head nS (Steps.trans Ao (.head oQ (.one E9))))
  rw [E8.dC]
  exact Steps.refl _ _
theorem adm {rec : Task → Bool} (cz : ∀ t, rec t = true → dk P w0 t) {g : Operand} {g' : dB} {ps : Array Tmp} {assign body : Code} {x y : c7}
 (hg : nN g = some g') (eZ : ∀ t ∈ ps.toList, t < e.nt) (hx : fQ P e.nt assign = some x) (hy : fQ P e.nt body = some y) (hs : SR P w0 φ e s b cs0 cs a w) (he : lF φ e b)
 (h : Tp rec e s k g' (ps.toList.map Pos.of) x y = true) : iu P w0 φ s.h.nx e b cs0 (lone (b.atR a (.code (.rangeFunc g ps assign body) :: todo)) cs w) todo k := by
 obtain ⟨v, hv, h1⟩ := KX (a := a) (s := s) (φ := φ) hg (fun p _ => hs.tm.2 p) h
 rcases KT h1 with ⟨gf, first, bI, rfl, h2⟩ | ⟨l, rfl, h2⟩
 · generalize Tq : a.eval g = gv at hv
   cases hv with
   | func _ rz _ jx _ iY jv vC vD =>
    cases jv
    obtain ⟨hb, pY⟩ := he
    cases Tr : e.tj with
    | none =>
     rw [Tr] at h2 pY
     have xC : b.roundOf = none := pY
     obtain ⟨aU, bV, h3⟩ := tf h2
     obtain ⟨H1, qa⟩ := hs.heap.new bV (.defs 0 0 false)
     have ib : (φ.put s.h.nx (.live w.heap.size 0 0)) s.h.nx = some (.live w.heap.size 0 0) := au.gN _ _ _
     refine (Tj (φ := φ.put s.h.nx (.live w.heap.size 0 0)) (N := s.h.nx + 1) (w := w) (w1 := w.alloc (.deferred (some []))) (mark := [{ target := .collected w.heap.size, args := #[] }]) (dl' := w.heap.size) cz eZ hx hy Tq (LR.ext qa vC) (LR.ext qa vD) hb (hs.tm.ext qa) ?_ (hs.rc.ext qa) H1 (by rw [ib]; simp) (fun b d n hh => by rw [ib] at hh; cases hh; rfl) (Nat.le_refl _) ?_ h3).of_steps qa (Nat.le_succ _) (Steps.refl _ _)
     · exact .cons _ _ _ _ ⟨by rw [ib]; simp, w.heap.size, rfl, fun b d n hh => by rw [ib] at hh; cases hh; rfl⟩ (hs.df.ext qa)
     · rw [xC, run_enterLoop_outer, World.size_alloc]
    | some l =>
     rw [Tr] at h2 pY
     obtain ⟨hk, l', fR, hφ, adn⟩ := pY
     obtain ⟨r, xG, h3⟩ := AG h2
     obtain ⟨bl, d, n, r', e1, e2, e3, e4⟩ := hs.heap.loop hφ xG
     have : l' = bl := adn _ _ _ e1
     subst this
     refine Tj (φ := φ) (w := w) (w1 := w) (mark := []) (dl' := r'.defers) cz eZ hx hy Tq vC vD hb hs.tm hs.df hs.rc hs.heap e3.defs (fun b d n hh => e3.K5 b d n hh) (Nat.le_refl _) ?_ h3
     rw [fR, ade e2]
 · cases h2
theorem Ts (Le : Th P w0) {rec : Task → Bool} (cz : ∀ t, rec t = true → dk P w0 t) : ∀ (c : Code) (ac : c7) (e : Env) (s : St) (k : KS), fQ P e.nt c = some ac → Lf rec ac e s k = true →
 ∀ (φ : au) (b : Frame) (cs0 cs : List Frame) (a : Act) (w : World), SR P w0 φ e s b cs0 cs a w → lF φ e b → ∀ it, KP c it → ∀ todo, iu P w0 φ s.h.nx e b cs0 (lone (b.atR a (it :: todo)) cs w) todo k := by
 intro c
 induction c with
 | skip =>
  intro ac e s k hc h φ b cs0 cs a w hs he it fF todo
  rcases fF with rfl | ⟨c', fk, _⟩
  · cases hc; exact ⟨.normal, s, φ, cs, a, w, h, Ext.refl _ _, Nat.le_refl _, hs, .one stepR_skip⟩
  · cases fk
 | label l =>
  intro ac e s k hc h φ b cs0 cs a w hs he it fF todo
  rcases fF with rfl | ⟨c', fk, _⟩
  · cases hc; exact ⟨.normal, s, φ, cs, a, w, h, Ext.refl _ _, Nat.le_refl _, hs, .one stepR_label⟩
  · cases fk
 | region id ops draw =>
  intro ac e s k hc h φ b cs0 cs a w hs he it fF todo
  rcases fF with rfl | ⟨c', fk, _⟩
  · cases draw with
    | false =>
     simp only [fQ, Option.map_eq_some_iff] at hc
     obtain ⟨l, hl, rfl⟩ := hc
     exact (adb cz (ac9 hl) hs he h).of_steps (Ext.refl _ _) (Nat.le_refl _) (.one stepR_region)
    | true =>
     simp only [fQ] at hc
     split at hc
     · rename_i l hl
       split at hc
       · rename_i dl tr
         cases hc
         exact Le rec cz e b cs0 todo k id ops l dl hl tr φ s cs a w hs he h
       · cases hc; exact Bool.noConfusion (show false = true from h)
     · cases hc
  · cases fk
 | seq c1 c2 xJ Tt =>
  intro ac e s k hc h φ b cs0 cs a w hs he it fF todo
  rcases fF with rfl | ⟨c', fk, _⟩
  · simp only [fQ] at hc
    split at hc
    · rename_i x y hx hy
      cases hc
      have hC : dk P w0 (.code x e s (AA rec y e k)) := cz _ h
      have g := hC c1 hx φ b cs0 cs a w hs he _ (.inl rfl) (.code c2 :: todo)
      exact (Ti cz hy (.inl rfl) (fun _ => by simp [exitTo]) he g).of_steps (Ext.refl _ _) (Nat.le_refl _) (.one stepR_seq)
    · cases hc
  · cases fk
 | cond c c1 c2 xJ Tt =>
  intro ac e s k hc h φ b cs0 cs a w hs he it fF todo
  rcases fF with rfl | ⟨c', fk, _⟩
  · simp only [fQ] at hc
    split at hc
    · rename_i c0 x y vA hx hy
      cases hc
      obtain ⟨v, hv, h1⟩ := KX (a := a) (s := s) (φ := φ) vA (fun p _ => hs.tm.2 p) h
      obtain ⟨t, rfl, h2⟩ := AI h1
      have E4 := VR.pT hv
      cases t with
      | true =>
       have hC : dk P w0 (.code x e s k) := cz _ h2
       exact (hC c1 hx φ b cs0 cs a w hs he _ (.inl rfl) todo).of_steps (Ext.refl _ _) (Nat.le_refl _) (.one (stepR_cond E4))
      | false =>
       have hC : dk P w0 (.code y e s k) := cz _ h2
       exact (hC c2 hy φ b cs0 cs a w hs he _ (.inl rfl) todo).of_steps (Ext.refl _ _) (Nat.le_refl _) (.one (stepR_cond E4))
    · cases hc
  · cases fk
 | block id c1 xJ =>
  intro ac e s k hc h φ b cs0 cs a w hs he it fF todo
  rcases fF with rfl | ⟨c', fk, _⟩
  · simp only [fQ, Option.map_eq_some_iff] at hc
    obtain ⟨x, hx, rfl⟩ := hc
    have hC : dk P w0 (.code x e s (K4 id k)) := cz _ h
    exact (adf (hC c1 hx φ b cs0 cs a w hs he _ (.inl rfl) (.inBlock id :: todo))).of_steps (Ext.refl _ _) (Nat.le_refl _) (.one stepR_block)
  · cases fk
 | loop c1 xJ =>
  intro ac e s k hc h φ b cs0 cs a w hs he it fF todo
  have vA := hc
  simp only [fQ, Option.map_eq_some_iff] at hc
  obtain ⟨x, hx, rfl⟩ := hc
  have hC : dk P w0 (.code x e s (AA rec (.loop x) e k)) := cz _ h
  have g := Ti (c2 := .loop c1) cz vA (.inr ⟨c1, rfl, rfl⟩) (fun _ => by simp [exitTo]) he (hC c1 hx φ b cs0 cs a w hs he _ (.inl rfl) (.inLoop c1 :: todo))
  rcases fF with rfl | ⟨c', fk, rfl⟩
  · exact g.of_steps (Ext.refl _ _) (Nat.le_refl _) (.one stepR_loop)
  · cases fk
    exact g.of_steps (Ext.refl _ _) (Nat.le_refl _) (.one stepR_inLoop)
 | scope c1 xJ =>
  intro ac e s k hc h φ b cs0 cs a w hs he it fF todo
  rcases fF with rfl | ⟨c', fk, _⟩
  · have g := xJ ac e s k (by simpa only [fQ] using hc) h φ b cs0 cs a w hs he _ (.inl rfl) (.inScope c1 :: todo)
    refine iu.of_steps (Ext.refl _ _) (Nat.le_refl _) (.one step_scope) (g.bind fun x s1 φ1 eg a1 w1 h1 h2 h3 h4 h5 => ?_)
    cases x with
    | normal => exact ⟨.normal, s1, φ1, eg, a1, w1, h1, h2, h3, h4, Steps.trans h5 (.one step_inScope)⟩
    | exit id => obtain ⟨k1, h6, h7⟩ := h5; exact ⟨.exit id, s1, φ1, eg, a1, w1, h1, h2, h3, h4, k1, by rw [h6]; simp [exitTo], h7⟩
    | ret => exact ⟨.ret, s1, φ1, eg, a1, w1, h1, h2, h3, h4, h5⟩
    | aQ v => exact ⟨.aQ v, s1, φ1, eg, a1, w1, h1, h2, h3, h4, h5⟩
  · cases fk
 | rangeFunc g ps c1 c2 xJ Tt =>
  intro ac e s k hc h φ b cs0 cs a w hs he it fF todo
  rcases fF with rfl | ⟨c', fk, _⟩
  · simp only [fQ] at hc
    split at hc
    · rename_i g' x y hg hx hy
      split at hc
      · rename_i eZ
        cases hc
        exact adm cz hg (fun t ht => by simpa using List.all_eq_true.1 eZ t ht) hx hy hs he h
      · cases hc
    · cases hc
  · cases fk
 | exit id =>
  intro ac e s k hc h φ b cs0 cs a w hs he it fF todo
  rcases fF with rfl | ⟨c', fk, _⟩
  · cases hc; exact ⟨.exit id, s, φ, cs, a, w, h, Ext.refl _ _, Nat.le_refl _, hs, todo, rfl, Steps.refl _ _⟩
  · cases fk
 | ret =>
  intro ac e s k hc h φ b cs0 cs a w hs he it fF todo
  rcases fF with rfl | ⟨c', fk, _⟩
  · cases hc; exact ⟨.ret, s, φ, cs, a, w, h, Ext.refl _ _, Nat.le_refl _, hs, todo, Steps.refl _ _⟩
  · cases fk
 | goto l => intro ac e s k hc h; cases hc; exact Bool.noConfusion (show false = true from h)
 | refuse why => intro ac e s k hc h; cases hc; exact Bool.noConfusion (show false = true from h)
end
end Go.Ve
namespace Go.Ve
open Go.RowKit
section
variable {P : Program} {w0 w : World} {φ : au} {h : AH}
theorem Lg {f : FuncId} {af : gn} (h : bW P f = some af) : ∃ fn c, P.funcs[f]? = some fn ∧ Can P f ∧ fn.body = some c ∧ fn.results.toList.mapM (qb P) = some af.results ∧ fQ P fn.ntmps c = some af.code ∧ af.ntmps = fn.ntmps := by
 unfold bW at h
 split at h
 · cases h
 · rename_i fn hf
   split at h
   · cases h
   · rename_i hn
     split at h
     · cases h
     · rename_i c hb
       split at h
       · rename_i rs ac hr hc
         cases h
         exact ⟨fn, c, hf, ⟨fn, hf, by simpa using hn, by simp [hb]⟩, hb, hr, hc, rfl⟩
       · cases h
theorem Tu : ∀ (vs : List Value) {i : Nat} {t : PT} {k : PT → Bool}, rO i vs t k = true → ∃ t', k t' = true ∧ ∀ p : Pos, t'.get p = if i ≤ p.un ∧ p.un < i + vs.length then vs.getD (p.un - i) undef else t.get p := by
 intro vs
 induction vs with
 | nil => intro i t k h; exact ⟨t, h, fun p => by rw [if_neg (by simp)]⟩
 | cons v vs ih =>
  intro i t k h
  have h' : PT.gb (Pos.of i) t v (fun t => rO (i + 1) vs t k) = true := h
  rw [PT.lB] at h'
  obtain ⟨t', h1, h2⟩ := ih h'
  refine ⟨t', h1, fun p => ?_⟩
  rw [h2, PT.cZ]
  by_cases h3 : p.un = i
  · have hp : p = Pos.of i := Pos.sX (by rw [Pos.kP]; exact h3)
    rw [if_neg (by omega), if_pos hp, if_pos (by simp; omega)]
    simp [h3]
  · have hp : ¬ p = Pos.of i := fun e => h3 (by rw [e, Pos.kP])
    by_cases h4 : i + 1 ≤ p.un ∧ p.un < i + 1 + vs.length
    · rw [if_pos h4, if_pos (by simp; omega)]
      have : p.un - i = (p.un - (i + 1)) + 1 := by omega
      rw [this]; simp
    · rw [if_neg h4, if_neg hp, if_neg (by simp; omega)]
theorem Tv {args : List Value} {args' : Array Value} {t : PT} {n : Nat} (hl : LR φ args args'.toList) (ht : ∀ p : Pos, t.get p = if 0 ≤ p.un ∧ p.un < 0 + args.length then args.getD (p.un - 0) undef else PT.e.get p) :
 TR φ t n (args' ++ Array.replicate (n - args'.size) undef) := by
 have hlen : args.length = args'.size := by rw [hl.length]; simp
 refine ⟨by simp; omega, fun p => ?_⟩
 rw [ht p]
 by_cases h : p.un < args.length
 · rw [if_pos (by omega)]
   have h1 : args[p.un]? = some args[p.un] := by simp [h]
   obtain ⟨v', h2, h3⟩ := hl.get _ _ h1
   have h4 : (args' ++ Array.replicate (n - args'.size) undef).getD p.un undef = v' := by
    rw [Array.getD_eq_getD_getElem?, Array.getElem?_append_left (by omega)]
    rw [← Array.getElem?_toList, h2]; rfl
   rw [h4]
   have h5 : args.getD (p.un - 0) undef = args[p.un] := by simp [h]
   rw [h5]; exact h3
 · rw [if_neg (by omega), PT.Sd]
   have h4 : (args' ++ Array.replicate (n - args'.size) undef).getD p.un undef = undef := by
    rw [Array.getD_eq_getD_getElem?, Array.getElem?_append_right (by omega)]
    by_cases h6 : p.un - args'.size < n - args'.size
    · simp [Array.getElem?_replicate, h6]
    · rw [Array.getElem?_eq_none (by simp; omega)]; rfl
   rw [h4]; exact VR.undef φ
theorem ado {t : TypeId} {d : TypeDesc} {n : Nat} {x : Value} {a : Addr} (hu : P.underlying t = some d) (hd : lG d = true) (hz : ej P t = some n) (H : HR P w0 φ h w) (hv : VR φ x (.pointer (some a))) {k : List Value → Bool}
 (e : ic x (fun b o => jQ h b o n k) = true) : ∃ l l', (loadVar t a).run P w = .ok (.agg l') w ∧ LR φ l l'.toList ∧ k l = true := by
 obtain ⟨i, hi, rfl⟩ := kT hz
 obtain ⟨a0, ah, e'⟩ := kS e; clear e; subst ah; have e := e'; clear e'
 obtain ⟨a', ha, hs, cB⟩ := hv.jy
 cases ha
 obtain ⟨lo, Fa, ty, rw, c, l, h1, h2, h3, h4, h5, h6⟩ := td e
 obtain ⟨l', hl, bP⟩ := H.cells hs cB h1 h2 (by omega) h5
 refine ⟨l, l'.toArray, ?_, by simpa using hl, h6⟩
 rw [h4] at bP
 simp [loadVar, rP hu, hd, iK hi, bP w rfl]
theorem adp {t : TypeId} {d : TypeDesc} {x : Value} {a : Addr} (hu : P.underlying t = some d) (hd : lG d = false) (H : HR P w0 φ h w) (hv : VR φ x (.pointer (some a))) {k : Value → Bool}
 (e : ic x (fun b o => qc h b o k) = true) : ∃ v v', (loadVar t a).run P w = .ok v' w ∧ VR φ v v' ∧ k v = true := by
 obtain ⟨a0, ah, e'⟩ := kS e; clear e; subst ah; have e := e'; clear e'
 obtain ⟨a', ha, hs, cB⟩ := hv.jy
 cases ha
 obtain ⟨lo, hi, ty, rw, c, v, h1, h2, h3, h4, h5⟩ := Fb e
 obtain ⟨v', hc, AJ⟩ := H.cell hs cB h1 (j := 0) (by omega) (by omega) (by simpa using h4)
 refine ⟨v, v', ?_, AJ, h5⟩
 have : a.add 0 = a := rfl
 rw [this] at hc
 simp [loadVar, rP hu, hd, hc]
def xK (tmps : Array Value) : ResultVar → Sem Value
 | .tmp t => pure (tmps.getD t undef)
 | .cell a t => do loadVar t (← asAddr (tmps.getD a undef))
theorem adq (fn : Func) (tmps : Array Value) : results fn tmps = (do let vs ← fn.results.mapM (xK tmps); pure (if h : vs.size = 1 then vs[0] else .tuple vs)) := by
 unfold results
 congr 1
theorem adr {tmps : Array Value} {tm : PT} {n : Nat} (ht : TR φ tm n tmps) (H : HR P w0 φ h w) : ∀ {rs : List ResultVar} {as : List kQ} {k : List Value → Bool}, rs.mapM (qb P) = some as → ki as tm h k = true →
 ∃ vs gO, (rs.mapM (xK tmps)).run P w = .ok gO w ∧ LR φ vs gO ∧ k vs = true := by
 intro rs
 induction rs with
 | nil => intro as k hm h; simp at hm; subst hm; exact ⟨[], [], by simp [Sem.run], .nil, h⟩
 | cons r rs ih =>
  intro as k hm hk
  rw [List.mapM_cons] at hm
  cases hr : qb P r with
  | none => simp [hr] at hm
  | some a =>
   cases xL : rs.mapM (qb P) with
   | none => simp [hr, xL] at hm
   | some pX =>
    simp [hr, xL] at hm
    subst hm
    have key : ∃ v v' , (xK tmps r).run P w = .ok v' w ∧ VR φ v v' ∧ ki pX tm h (fun vs => k (v :: vs)) = true := by
     cases r with
     | tmp t =>
      cases hr
      have dG : PT.dr (Pos.of t) tm (fun v => ki pX tm h fun vs => k (v :: vs)) = true := hk
      rw [PT.jw] at dG
      have := ht.2 (Pos.of t)
      rw [Pos.kP] at this
      exact ⟨_, _, by simp [xK, Sem.run], this, dG⟩
     | cell ad t =>
      simp only [qb] at hr
      split at hr
      · rename_i d s hu hs
        have hv := ht.2 (Pos.of ad)
        rw [Pos.kP] at hv
        split at hr
        · rename_i hd
          cases hr
          have dG : PT.dr (Pos.of ad) tm (fun v => ic v fun b o => jQ h b o s fun l => ki pX tm h fun vs => k (.agg ⟨l⟩ :: vs)) = true := hk
          rw [PT.jw] at dG
          obtain ⟨a0, hp, _⟩ := kS dG
          have mO := hv
          rw [hp] at mO
          obtain ⟨a', ha, _⟩ := mO.jy
          rw [ha] at hv
          obtain ⟨l, l', h1, h2, h3⟩ := ado hu hd hs H hv dG
          exact ⟨.agg ⟨l⟩, .agg l', by simp [xK, ha, asAddr, Sem.run_bind, Result.andThen, h1], .agg _ _ h2, h3⟩
        · rename_i hd
          cases hr
          have dG : PT.dr (Pos.of ad) tm (fun v => ic v fun b o => qc h b o fun x => ki pX tm h fun vs => k (x :: vs)) = true := hk
          rw [PT.jw] at dG
          obtain ⟨a0, hp, _⟩ := kS dG
          have mO := hv
          rw [hp] at mO
          obtain ⟨a', ha, _⟩ := mO.jy
          rw [ha] at hv
          obtain ⟨v, v', h1, h2, h3⟩ := adp hu (by simpa using hd) H hv dG
          exact ⟨v, v', by simp [xK, ha, asAddr, Sem.run_bind, Result.andThen, h1], h2, h3⟩
      · cases hr
    obtain ⟨v, v', h1, h2, h3⟩ := key
    obtain ⟨vs, gO, h4, h5, h6⟩ := ih xL h3
    refine ⟨v :: vs, v' :: gO, ?_, .cons _ _ _ _ h2 h5, h6⟩
    rw [List.mapM_cons]
    simp [Sem.run_bind, h1, h4, Result.andThen, Sem.run]
theorem ads {vs : List Value} {k : Value → Bool} (h : AK vs k = true) : ∃ v, (vs = [v] ∨ ((∀ x, vs ≠ [x]) ∧ v = .tuple ⟨vs⟩)) ∧ k v = true := by
 match vs with
 | [] => exact ⟨_, .inr ⟨fun x hx => (by cases hx), rfl⟩, h⟩
 | [v] => exact ⟨v, .inl rfl, h⟩
 | a :: b :: l => exact ⟨_, .inr ⟨fun x hx => (by cases hx), rfl⟩, h⟩
theorem Tw {fn : Func} {tmps : Array Value} {tm : PT} {n : Nat} {as : List kQ} {k : Value → Bool} (ht : TR φ tm n tmps) (H : HR P w0 φ h w) (hm : fn.results.toList.mapM (qb P) = some as) (hk : ki as tm h (fun vs => AK vs k) = true) :
 ∃ v v', (results fn tmps).run P w = .ok v' w ∧ VR φ v v' ∧ k v = true := by
 obtain ⟨vs, gO, h1, h2, h3⟩ := adr ht H hm hk
 obtain ⟨v, h4, h5⟩ := ads h3
 rw [adq, Array.mapM_eq_mapM_toList]
 refine ⟨v, if h : gO.toArray.size = 1 then gO.toArray[0] else .tuple gO.toArray, ?_, ?_, h5⟩
 · simp only [Sem.run_bind, map_eq_pure_bind, h1, Result.andThen, Sem.run_pure]
 · rcases h4 with rfl | ⟨cL, rfl⟩
   · obtain ⟨x', hx, hv⟩ := LR.one h2
     subst hx
     simpa using hv
   · have hl := h2.length
     rw [dif_neg]
     · exact .fD _ _ h2
     · intro eB
       simp at eB
       rw [← hl] at eB
       obtain ⟨x, hx⟩ := List.length_eq_one_iff.1 eB
       exact cL x hx
theorem tk.Lh {m : Option Value} {u : FrameMode} (h : tk φ m u) : u ≠ .run := by
 cases m with
 | none => intro e; rw [show u = .returning from h] at e; cases e
 | some v => obtain ⟨v', rfl, _⟩ := h; intro e; cases e
theorem DL.cons_inv {d : ef} {l : List ef} {l' : List Deferred} (h : DL φ (d :: l) l') : ∃ d' m, l' = d' :: m ∧ DR φ d d' ∧ DL φ l m := by
 cases h with | cons _ d' _ m h1 h2 => exact ⟨d', m, rfl, h1, h2⟩
theorem DL.vy {l' : List Deferred} (h : DL φ [] l') : l' = [] := by cases h; rfl
theorem Li {rec : Task → Bool} (cz : ∀ t, rec t = true → dk P w0 t) {ds : List ef} {m : Option Value} {k : Option Value → AH → Bool} (e : Lj rec ds m h k = true) : ma P w0 ds m h k := by
 intro φ fr cs w hd hm H
 cases ds with
 | nil =>
  have h0 := hd.vy
  refine ⟨m, h, φ, w, fr.mode, e, Ext.refl _ _, Nat.le_refl _, H, hm, ?_⟩
  have : ({ fr with defers := [], mode := fr.mode } : Frame) = fr := by rw [← h0]
  rw [this]
  exact Steps.refl _ _
 | cons d ds =>
  obtain ⟨d', jc, Lk, Tx, vm⟩ := hd.cons_inv
  cases d with
  | oJ r =>
   obtain ⟨t, h1, e1⟩ := adt (show xM h r _ = true from e)
   obtain ⟨ht, e2⟩ := bT e1
   cases t with
   | true => cases ht
   | false =>
    obtain ⟨aU, bV, e3⟩ := mN e2
    obtain ⟨xG, r', rfl, hr2⟩ := Tx
    obtain ⟨b, dd, n, o', q1, q2, q3, q4⟩ := H.live xG h1
    have hb := hr2 _ _ _ q1
    subst hb
    cases q3 with
    | defs _ _ _ =>
     have bC : r' < w.heap.size := (Array.getElem?_eq_some_iff.1 q2).1
     have H2 : HR P w0 φ ⟨h.nx, aU⟩ (w.putObj r' (.deferred none)) :=
      H.iL (h' := ⟨h.nx, aU⟩) q1 bV rfl (.defs dd n true) (q4 rfl) (World.putObj_heap_same bC) (fun k hk => World.putObj_heap_other hk) World.putObj_size rfl rfl rfl
     have nS := step_collected (P := P) (fr := fr) (cs := cs) (tk.Lh hm) Lk rfl (run_takeDeferred q2)
     have hL : ma P w0 ds m ⟨h.nx, aU⟩ k := cz _ e3
     obtain ⟨m', h', φ', w', u, a1, a2, a3, a4, a5, a6⟩ := hL φ { fr with defers := [] ++ jc } cs _ vm hm H2
     exact ⟨m', h', φ', w', u, a1, a2, a3, a4, a5, .head nS a6⟩
  | fn f args =>
   obtain ⟨bI, args', rfl, hl⟩ := Tx
   cases m with
   | none =>
    have e1 : rec (.xB f args .off h fun _ h => rec (.leave ds none h k)) = true := e
    have hD : EV P w0 f args .off h (fun _ h => rec (.leave ds none h k)) := cz _ e1
    have Ll : fr.mode = .returning := hm
    have nS := step_defer (P := P) (w := w) (fr := fr) (cs := cs) (tk.Lh hm) Lk rfl (Al hD.1 _ _)
    obtain ⟨xA, h', φ', w', c', oR, v, a1, a2, a3, a4, a5, a6, a7, a8⟩ := hD.2 φ _ w { fr with defers := jc } cs hl H Ll
    have fk : c' = { fr with defers := jc } := by
     cases xA with
     | off => exact a5.1
     | can v => exact a5.1
     | kU => obtain ⟨v', jM, _⟩ := a5; rw [show ({ fr with defers := jc } : Frame).mode = .returning from Ll] at jM; cases jM
    subst fk
    have oQ := step_going_returned (P := P) (c := { fr with defers := jc }) (cs := cs) a7 a8
    have bV : settle ({ fr with defers := jc } : Frame).mode = .returning := by rw [show ({ fr with defers := jc } : Frame).mode = .returning from Ll]; rfl
    rw [bV] at oQ
    have hL : ma P w0 ds none h' k := cz _ a1
    obtain ⟨m', h2, φ2, w2, u, b1, b2, b3, b4, b5, b6⟩ := hL φ' ({ fr with defers := jc, mode := .returning } : Frame) cs w' (vm.ext a2) rfl a4
    exact ⟨m', h2, φ2, w2, u, b1, a2.trans b2 a3, Nat.le_trans a3 b3, b4, b5, .head nS (Steps.trans a6 (.head oQ b6))⟩
   | some v =>
    have e1 : rec (.xB f args (.can v) h (Lm rec ds k)) = true := e
    have hD : EV P w0 f args (.can v) h (Lm rec ds k) := cz _ e1
    have nS := step_defer (P := P) (w := w) (fr := fr) (cs := cs) (tk.Lh hm) Lk rfl (Al hD.1 _ _)
    obtain ⟨xA, h', φ', w', c', oR, v2, a1, a2, a3, a4, a5, a6, a7, a8⟩ := hD.2 φ _ w { fr with defers := jc } cs hl H hm
    have oQ := step_going_returned (P := P) (c := c') (cs := cs) a7 a8
    cases xA with
    | off => cases a1
    | can v3 =>
     obtain ⟨rfl, v', q1, q2⟩ := a5
     have bV : settle ({ fr with defers := jc } : Frame).mode = .panicking [{ v := v', recovered := false }] := by rw [q1]; rfl
     rw [bV] at oQ
     have hL : ma P w0 ds (some v3) h' k := cz _ a1
     obtain ⟨m', h2, φ2, w2, u, b1, b2, b3, b4, b5, b6⟩ := hL φ' ({ fr with defers := jc, mode := .panicking [{ v := v', recovered := false }] } : Frame) cs w' (vm.ext a2) ⟨v', rfl, q2⟩ a4
     exact ⟨m', h2, φ2, w2, u, b1, a2.trans b2 a3, Nat.le_trans a3 b3, b4, b5, .head nS (Steps.trans a6 (.head oQ b6))⟩
    | kU =>
     obtain ⟨v', q1, rfl⟩ := a5
     have hL : ma P w0 ds none h' k := cz _ a1
     obtain ⟨m', h2, φ2, w2, u, b1, b2, b3, b4, b5, b6⟩ := hL φ' ({ fr with defers := jc, mode := .returning } : Frame) cs w' (vm.ext a2) rfl a4
     exact ⟨m', h2, φ2, w2, u, b1, a2.trans b2 a3, Nat.le_trans a3 b3, b4, b5, .head nS (Steps.trans a6 (.head oQ b6))⟩
def kV (f : FuncId) (kind : CallKind) : Frame := { (default : Frame) with fn := f, kind, roundOf := none }
theorem Ty {f : FuncId} {fn : Func} {c : Code} (hf : P.funcs[f]? = some fn) (hb : fn.body = some c) (args : Array Value) (kind : CallKind) :
 Frame.enter P f args kind = (kV f kind).atR { tmps := args ++ Array.replicate (fn.ntmps - args.size) undef, defers := [] } [.code c] := by
 simp [Frame.enter, Frame.atR, hf, hb, kV]
variable {prog : NT gn}
theorem rJ.normal {rc : Rc} {b : Frame} {cs0 cs : List Frame} (h : rJ φ rc b cs0 cs) (hb : b.kind = .normal) : cs = cs0 := by
 cases rc with
 | off => exact h.1
 | can v => exact h.1
 | kU => have h1 := h.1; rw [hb] at h1; cases h1
theorem Ln {N : Nat} {f : FuncId} {fn : Func} {k : CR → AH → Bool} {fr : Frame} {cs : List Frame} {ds : List ef} {m : Option Value} {kl : Option Value → AH → Bool} {m0 : Machine}
 (hL : ma P w0 ds m h kl) (hd : DL φ ds fr.defers) (hm : tk φ m fr.mode) (H : HR P w0 φ h w) (jv : fr.fn = f) (hf : P.funcs[f]? = some fn) (adu : fr.kind = .normal) (iq : Steps P m0 (lone fr cs w)) (hN : N ≤ h.nx)
 (xN : ∀ m' h', kl m' h' = true → (∃ v, m' = some v ∧ k (.aQ v) h' = true) ∨ (m' = none ∧ (∀ φ' w', Ext h.nx φ φ' → HR P w0 φ' h' w' → ∃ v v', (Go.results fn fr.tmps).run P w' = .ok v' w' ∧ VR φ' v v' ∧ k (.ret v) h' = true))) :
 ∃ E w' oR, (∃ r h' φ', k r h' = true ∧ Ext N φ φ' ∧ N ≤ h'.nx ∧ HR P w0 φ' h' w' ∧ Ah φ' r E) ∧ Comes P m0 (lone oR cs w') E ∧ oR.fn = f ∧ oR.leaving P w' E := by
 obtain ⟨m', h', φ', w', u, a1, a2, a3, a4, a5, a6⟩ := hL φ fr cs w hd hm H
 rcases xN m' h' a1 with ⟨v, rfl, hk⟩ | ⟨rfl, hk⟩
 · obtain ⟨v', rfl, hv⟩ := a5
   exact ⟨.panicked [{ v := v', recovered := false }], w', { fr with defers := [], mode := .panicking [{ v := v', recovered := false }] }, ⟨.aQ v, h', φ', hk, a2.mono hN, Nat.le_trans hN a3, a4, v', rfl, hv⟩, Steps.trans iq a6, jv, rfl, rfl, fn, by rw [← hf, ← jv]⟩
 · have hu : u = .returning := a5
   subst hu
   obtain ⟨v, v', b1, b2, b3⟩ := hk φ' w' a2 a4
   exact ⟨.returned v', w', { fr with defers := [], mode := .returning }, ⟨.ret v, h', φ', b3, a2.mono hN, Nat.le_trans hN a3, a4, v', rfl, b2⟩, Steps.trans iq a6, jv, rfl, rfl, adu, fn, by rw [← hf, ← jv], b1⟩
theorem results_none {fn : Func} (hm : fn.results.toList.mapM (qb P) = some []) (tmps : Array Value) (w : World) : (results fn tmps).run P w = .ok (.tuple #[]) w := by
 have : fn.results = #[] := by
  cases hl : fn.results.toList with
  | nil => exact Array.toList_eq_nil_iff.1 hl
  | cons r rs =>
   rw [hl, List.mapM_cons] at hm
   cases hr : qb P r with
   | none => simp [hr] at hm
   | some a =>
    cases xL : rs.mapM (qb P) with
    | none => simp [hr, xL] at hm
    | some pX => simp [hr, xL] at hm
 simp [results, this, Sem.run_bind, Result.andThen]
theorem HR.forget (H : HR P w0 φ h w) {f : Nat} (hf : φ f = none) {h' : AH} (bV : h.ob.im f none h'.ob) (iN : h'.nx = h.nx) : HR P w0 φ h' w := by
 refine ⟨H.inj, by rw [iN]; exact H.fresh, fun g hg => ?_, fun g hg => ?_, fun g b d n hg => ?_, H.below⟩
 · rw [iN] at hg
   by_cases dm : g = f
   · subst dm; exact bV.1
   · rw [bV.2 g dm]; exact H.top g hg
 · have dm : g ≠ f := fun e => by subst e; rw [hf] at hg; cases hg
   rw [bV.2 g dm]; exact H.dead g hg
 · have dm : g ≠ f := fun e => by subst e; rw [hf] at hg; cases hg
   obtain ⟨o1, o2, a1, a2⟩ := H.obj g b d n hg
   exact ⟨o1, o2, by rw [bV.2 g dm]; exact a1, a2⟩
theorem Fc {cj : List Nat} : ∀ (n : Nat) {b : Nat} {φ : au} {h : AH} {k : AH → Bool}, HR P w0 φ h w → Fe cj n b h k = true → ∃ φ' h', k h' = true ∧ HR P w0 φ' h' w ∧ h'.nx = h.nx ∧ ∀ N, Ext N φ φ'
 | 0, b, φ, h, k, H, e => ⟨φ, h, e, H, rfl, fun N => Ext.refl N φ⟩
 | n + 1, b, φ, h, k, H, e => by
  have e1 : fN (Nat.succ b) (fun b' => bif qd cj b then Fe cj n b' h k else fP h b none fun h => Fe cj n b' h k) = true := e
  rw [bO] at e1
  cases hm : qd cj b with
  | true => rw [hm, cond_true] at e1; exact Fc n H e1
  | false =>
   rw [hm, cond_false] at e1
   obtain ⟨aU, h1, h2⟩ := mN e1
   by_cases hb : φ b = none
   · obtain ⟨φ', h', a1, a2, a3, a4⟩ := Fc n (H.forget (h' := ⟨h.nx, aU⟩) hb h1 rfl) h2
     exact ⟨φ', h', a1, a2, a3, a4⟩
   · obtain ⟨φ', h', a1, a2, a3, a4⟩ := Fc n (H.kill (h' := ⟨h.nx, aU⟩) hb h1 rfl) h2
     exact ⟨φ', h', a1, a2, a3, fun N => (au.Ff φ N b hb).trans (a4 N) (Nat.le_refl _)⟩
theorem Ah.ext {N : Nat} {φ φ' : au} (hE : Ext N φ φ') {r : CR} {E : _} (h : Ah φ r E) : Ah φ' r E := by
 cases r with
 | ret v => obtain ⟨v', h1, h2⟩ := h; exact ⟨v', h1, VR.ext hE h2⟩
 | aQ v => obtain ⟨v', h1, h2⟩ := h; exact ⟨v', h1, VR.ext hE h2⟩
theorem gq.jn {det : Bool} {f : FuncId} {args : List Value} {k : CR → AH → Bool} (hC : gq P w0 f args h (jn det h k)) : gq P w0 f args h k := by
 refine ⟨hC.1, fun φ args' w hl H => Calls.mono (hC.2 φ args' w hl H) fun E w' hR => ?_⟩
 obtain ⟨r, h', φ', h1, h2, h3, h4, h5⟩ := hR
 cases det with
 | false => exact ⟨r, h', φ', h1, h2, h3, h4, h5⟩
 | true =>
  cases r with
  | aQ v => exact ⟨_, h', φ', h1, h2, h3, h4, h5⟩
  | ret v =>
   have h1 : Lo h k v h' = true := h1
   unfold Lo at h1
   split at h1
   · exact ⟨_, h', φ', (bT h1).1, h2, h3, h4, h5⟩
   · rw [bO, bO] at h1
     obtain ⟨φ2, oO, a1, a2, a3, a4⟩ := Fc _ h4 h1
     exact ⟨_, oO, φ2, (bT a1).1, h2.trans (a4 _) (Nat.le_refl _), by rw [a3]; exact h3, a2, h5.ext (a4 0)⟩
def Fg (P : Program) (w0 : World) (sums : rQ) : Prop := ∀ p ∈ sums, ∀ (args : List Value) (h : AH) (k : CR → AH → Bool), p.2 args h k = true → gq P w0 p.1 args h k
theorem Tz {rec : Task → Bool} (cz : ∀ t, rec t = true → dk P w0 t) {f : FuncId} {af : gn} (AL : bW P f = some af) {args : List Value} {k : CR → AH → Bool} (e2 : rO 0 args .e (fun tm => rec (.code af.code ⟨f, af.ntmps, none⟩ ⟨tm, [], .off, h⟩ (AM rec af.results k))) = true) : gq P w0 f args h k := by
 obtain ⟨fn, c, hf, fE, hb, nT, Lp, Lq⟩ := Lg AL
 obtain ⟨tm, e3, dP⟩ := Tu _ e2
 refine ⟨fE, fun φ args' w hl H cs => ?_⟩
 rw [Ty hf hb]
 have hC : dk P w0 (.code af.code ⟨f, af.ntmps, none⟩ ⟨tm, [], .off, h⟩ (AM rec af.results k)) := cz _ e3
 rw [Lq] at hC
 have Lr := Tv (n := fn.ntmps) hl dP
 obtain ⟨x, s1, φ1, eg, a1, w1, g1, g2, g3, g4, g5⟩ := hC c Lp φ (kV f .normal) cs cs { tmps := args' ++ Array.replicate (fn.ntmps - args'.size) undef, defers := [] } w
  ⟨⟨.nil, ⟨rfl, .inl rfl⟩, H⟩, Lr⟩ ⟨rfl, rfl⟩ (.code c) (.inl rfl) []
 have xP : h.nx ≤ s1.h.nx := g3
 cases x with
 | exit id => cases g1
 | normal =>
  have fS : SR P w0 φ1 ⟨f, fn.ntmps, none⟩ s1 (kV f .normal) cs eg a1 w1 := g4
  have ei := fS.rc.normal rfl
  subst ei
  have hL : ma P w0 s1.df none s1.h (AN af.results s1.tm k) := cz _ g1
  obtain ⟨E, w', oR, ⟨r, h', φ', b1, b2, b3, b4, b5⟩, b6, b7, b8⟩ := Ln (f := f) (fn := fn) (N := s1.h.nx) (k := k) (fr := { (kV f .normal).atR a1 [] with mode := .returning }) (cs := eg) hL fS.df rfl fS.heap rfl hf rfl (Steps.trans g5 (.one (stepR_end rfl))) (Nat.le_refl _) (fun m' h' hk => by
   cases m' with
   | some v => exact .inl ⟨v, rfl, hk⟩
   | none => exact .inr ⟨rfl, fun φ' w' hE hH => Tw (fS.tm.ext hE) hH nT hk⟩)
  exact ⟨E, w', oR, ⟨r, h', φ', b1, g2.trans b2 xP, Nat.le_trans xP b3, b4, b5⟩, b6, b7, b8⟩
 | ret =>
  obtain ⟨k1, g5⟩ := g5
  have fS : SR P w0 φ1 ⟨f, fn.ntmps, none⟩ s1 (kV f .normal) cs eg a1 w1 := g4
  have ei := fS.rc.normal rfl
  subst ei
  have hL : ma P w0 s1.df none s1.h (AN af.results s1.tm k) := cz _ g1
  obtain ⟨E, w', oR, ⟨r, h', φ', b1, b2, b3, b4, b5⟩, b6, b7, b8⟩ := Ln (f := f) (fn := fn) (N := s1.h.nx) (k := k) (fr := { (kV f .normal).atR a1 (.code .ret :: k1) with mode := .returning }) (cs := eg) hL fS.df rfl fS.heap rfl hf rfl (Steps.trans g5 (.one (stepR_ret rfl))) (Nat.le_refl _) (fun m' h' hk => by
   cases m' with
   | some v => exact .inl ⟨v, rfl, hk⟩
   | none => exact .inr ⟨rfl, fun φ' w' hE hH => Tw (fS.tm.ext hE) hH nT hk⟩)
  exact ⟨E, w', oR, ⟨r, h', φ', b1, g2.trans b2 xP, Nat.le_trans xP b3, b4, b5⟩, b6, b7, b8⟩
 | aQ v =>
  obtain ⟨k1, v', hv, g5⟩ := g5
  have fS : SQ P w0 φ1 s1 (kV f .normal) cs eg a1 w1 := g4
  have ei := fS.rc.normal rfl
  subst ei
  have hL : ma P w0 s1.df (some v) s1.h (TA af.results k) := cz _ g1
  obtain ⟨E, w', oR, ⟨r, h', φ', b1, b2, b3, b4, b5⟩, b6, b7, b8⟩ := Ln (f := f) (fn := fn) (N := s1.h.nx) (k := k) (fr := { (kV f .normal).atR a1 k1 with mode := .panicking [{ v := v', recovered := false }] }) (cs := eg) hL fS.df ⟨v', rfl, hv⟩ fS.heap rfl hf rfl g5 (Nat.le_refl _) (fun m' h' hk => by
   cases m' with
   | some v => exact .inl ⟨v, rfl, hk⟩
   | none =>
    refine .inr ⟨rfl, fun φ' w' hE hH => ?_⟩
    have dG : (match af.results with | [] => k (.ret (.tuple ⟨[]⟩)) h' | _ => false) = true := hk
    split at dG
    · rename_i hr
      rw [hr] at nT
      exact ⟨_, _, results_none nT _ _, .fD ⟨[]⟩ #[] .nil, dG⟩
    · cases dG)
  exact ⟨E, w', oR, ⟨r, h', φ', b1, g2.trans b2 xP, Nat.le_trans xP b3, b4, b5⟩, b6, b7, b8⟩
theorem adv (oS : ∀ f af, prog.get f = some af → bW P f = some af) {rec : Task → Bool} (cz : ∀ t, rec t = true → dk P w0 t) {f : FuncId} {args : List Value} {k0 : CR → AH → Bool} (e : TB prog rec f args h k0 = true) : gq P w0 f args h k0 := by
 obtain ⟨af, AL, e1⟩ := NT.vn _ _ _ (show NT.dr prog f _ = true from e)
 exact gq.jn (det := af.det) (Tz cz (oS f af AL) (by cases af; exact e1))
theorem TC (oS : ∀ f af, prog.get f = some af → bW P f = some af) {rec : Task → Bool} (cz : ∀ t, rec t = true → dk P w0 t) {f : FuncId} {args : List Value} {k : CR → AH → Bool} : ∀ {sums : rQ}, Fg P w0 sums → Fh prog sums rec f args h k = true → gq P w0 f args h k
 | [], _, e => adv oS cz e
 | (g, S) :: l, hs, e => by
  have e1 : (bif Nat.beq g f then S args h k else Fh prog l rec f args h k) = true := e
  by_cases hg : g = f
  · subst hg
    rw [j6 rfl, cond_true] at e1
    exact hs _ (.head _) _ _ _ e1
  · rw [eP hg, cond_false] at e1
    exact TC oS cz (fun p hp => hs p (.tail _ hp)) e1
theorem Ls {df : List ef} {k : Bool} (h : tt df k = true) : df = [] ∧ k = true := by cases df with | nil => exact ⟨rfl, h⟩ | cons _ _ => cases h
theorem adw (oS : ∀ f af, prog.get f = some af → bW P f = some af) {rec : Task → Bool} (cz : ∀ t, rec t = true → dk P w0 t) {f : FuncId} {args : List Value} {rc : Rc} {k : Rc → AH → Bool} (e : TD prog rec f args rc h k = true) : EV P w0 f args rc h k := by
 obtain ⟨af, AL, e1⟩ := NT.vn _ _ _ (show NT.dr prog f _ = true from e)
 obtain ⟨fn, c, hf, fE, hb, nT, Lp, Lq⟩ := Lg (oS f af AL)
 have e2 : af.results = [] ∧ rO 0 args .e (fun tm => rec (.code af.code ⟨f, af.ntmps, none⟩ ⟨tm, [], rc, h⟩ (Lt k))) = true := by
  cases af with
  | mk nt rs code det => cases rs with
   | nil => exact ⟨rfl, e1⟩
   | cons _ _ => cases e1
 obtain ⟨AP, e2⟩ := e2
 rw [AP] at nT
 obtain ⟨tm, e3, dP⟩ := Tu _ e2
 refine ⟨fE, fun φ args' w cl cs hl H jN => ?_⟩
 rw [Ty hf hb]
 have hC : dk P w0 (.code af.code ⟨f, af.ntmps, none⟩ ⟨tm, [], rc, h⟩ (Lt k)) := cz _ e3
 rw [Lq] at hC
 have Lr := Tv (n := fn.ntmps) hl dP
 have Au : rJ φ rc (kV f .deferred) (cl :: cs) (cl :: cs) := by
  cases rc with
  | off => exact ⟨rfl, .inr ⟨rfl, cl, cs, rfl, jN⟩⟩
  | can v => obtain ⟨v', q1, q2⟩ := jN; exact ⟨rfl, rfl, cl, cs, v', rfl, q1, q2⟩
  | kU => exact jN.elim
 obtain ⟨x, s1, φ1, eg, a1, w1, g1, g2, g3, g4, g5⟩ := hC c Lp φ (kV f .deferred) (cl :: cs) (cl :: cs) { tmps := args' ++ Array.replicate (fn.ntmps - args'.size) undef, defers := [] } w
  ⟨⟨.nil, Au, H⟩, Lr⟩ ⟨rfl, rfl⟩ (.code c) (.inl rfl) []
 have E9 : ∀ {eg : List Frame} {Fi : Rc}, rJ φ1 Fi (kV f .deferred) (cl :: cs) eg → ∃ c', eg = c' :: cs ∧ S7 φ1 Fi cl c' := by
  intro eg Fi hr
  cases Fi with
  | off =>
   obtain ⟨rfl, hn | ⟨_, c1, rest, hc, hm⟩⟩ := hr
   · cases hn
   · cases hc; exact ⟨cl, rfl, rfl, hm⟩
  | can v => obtain ⟨rfl, _, c1, rest, v', hc, hm, hv⟩ := hr; cases hc; exact ⟨cl, rfl, rfl, v', hm, hv⟩
  | kU => obtain ⟨_, c1, rest, v', hc, hm, rfl⟩ := hr; cases hc; exact ⟨_, rfl, v', hm, rfl⟩
 cases x with
 | exit id => cases g1
 | aQ v => cases g1
 | normal =>
  have fS : SR P w0 φ1 ⟨f, fn.ntmps, none⟩ s1 (kV f .deferred) (cl :: cs) eg a1 w1 := g4
  obtain ⟨tq, hk⟩ := Ls (show tt s1.df (k s1.rc s1.h) = true from g1)
  obtain ⟨c', rfl, AQ⟩ := E9 fS.rc
  have kW := fS.df
  rw [tq] at kW
  exact ⟨s1.rc, s1.h, φ1, w1, c', { (kV f .deferred).atR a1 [] with mode := .returning }, _, hk, g2, g3, fS.heap, AQ, Steps.trans g5 (.one (stepR_end rfl)), rfl, rfl, kW.vy, fn, hf, results_none nT _ _⟩
 | ret =>
  obtain ⟨k1, g5⟩ := g5
  have fS : SR P w0 φ1 ⟨f, fn.ntmps, none⟩ s1 (kV f .deferred) (cl :: cs) eg a1 w1 := g4
  obtain ⟨tq, hk⟩ := Ls (show tt s1.df (k s1.rc s1.h) = true from g1)
  obtain ⟨c', rfl, AQ⟩ := E9 fS.rc
  have kW := fS.df
  rw [tq] at kW
  exact ⟨s1.rc, s1.h, φ1, w1, c', { (kV f .deferred).atR a1 (.code .ret :: k1) with mode := .returning }, _, hk, g2, g3, fS.heap, AQ, Steps.trans g5 (.one (stepR_ret rfl)), rfl, rfl, kW.vy, fn, hf, results_none nT _ _⟩
end
end Go.Ve
namespace Go.Ve
open Go.RowKit
section
variable {P : Program} {w0 w : World} {φ : au} {h : AH}
theorem adx : ∀ (ps : List Tmp) {vs : List Value} {gO : List Value} {t : PT} {n : Nat} {tm : Array Value} {k : PT → Bool}, (∀ p ∈ ps, p < n) → LR φ vs gO → TR φ t n tm → xQ (ps.map Pos.of) vs t k = true →
 ps.length = gO.length ∧ ∃ t', TR φ t' n ((ps.zip gO).foldl (fun tmps (x : Tmp × Value) => tmps.setIfInBounds x.1 x.2) tm) ∧ k t' = true := by
 intro ps
 induction ps with
 | nil =>
  intro vs gO t n tm k _ hl ht hk
  obtain ⟨hn, dG⟩ := tg (show a0 vs (k t) = true from hk)
  subst hn
  have := hl.vy
  subst this
  exact ⟨rfl, t, by simpa using ht, dG⟩
 | cons p ps ih =>
  intro vs gO t n tm k hp hl ht hk
  cases hl with
  | nil => cases hk
  | cons v v' vs gO hv hl =>
   have dG : PT.gb (Pos.of p) t v (fun t => xQ (ps.map Pos.of) vs t k) = true := hk
   rw [PT.lB] at dG
   have tu := ht.set (Pos.of p) (by rw [Pos.kP]; exact hp p (by simp)) hv
   rw [Pos.kP] at tu
   obtain ⟨h1, t', h2, h3⟩ := ih (fun q hq => hp q (by simp [hq])) hl tu dG
   exact ⟨by simp [h1], t', by simpa using h2, h3⟩
theorem ady (ps : Array Tmp) (vs : Array Value) (tm : Array Value) : (ps.zip vs).foldl (fun tmps (t, a) => tmps.setIfInBounds t a) tm = (ps.toList.zip vs.toList).foldl (fun tmps (x : Tmp × Value) => tmps.setIfInBounds x.1 x.2) tm := by
 rw [← Array.foldl_toList]
 simp only [Array.toList_zip]
theorem Lu (H : HR P w0 φ h w) {l l' : Nat} (hl : φ l ≠ none) (fR : ∀ b d n, φ l = some (.live b d n) → l' = b) {k : CR → AH → Bool} {j : Option Code} {st : LoopState} {b : Bool} (iq : st = if j.isNone then .ready else .done) (hb : b = j.isNone) (e : AR l h k j st b = true) :
 ∃ h' w', k (.ret (.bool b)) h' = true ∧ h.nx ≤ h'.nx ∧ HR P w0 φ h' w' ∧ (Instr.endRound l' j).run P w = .ok (.bool b) w' := by
 obtain ⟨r, h1, e1⟩ := AG e
 obtain ⟨aU, bV, e2⟩ := mN e1
 obtain ⟨b0, d, n, r', q1, q2, q3, q4⟩ := H.loop hl h1
 have := fR _ _ _ q1
 subst this
 have hU := q3.iL st j
 refine ⟨⟨h.nx, aU⟩, _, e2, Nat.le_refl _, H.K6 q1 q2 q4 bV hU, ?_⟩
 rw [run_endRound j q2, hb, iq]
theorem TE {rec : Task → Bool} (cz : ∀ t, rec t = true → dk P w0 t) {l : Nat} {args : List Value} {k : CR → AH → Bool} (e : TF rec l args h k = true) : rK P w0 l args h k := by
 intro φ args' l' w hl hm nM H
 obtain ⟨r, h1, e1⟩ := AG e
 obtain ⟨b0, d, n, r', q1, q2, q3, q4⟩ := H.loop hm h1
 have hb0 := nM _ _ _ q1
 subst hb0
 rw [q3.params] at e1
 obtain ⟨hlen, tm, dP, e2⟩ := adx _ q3.small hl q3.tm e1
 have eB : args'.size = r'.params.size := by simpa using hlen.symm
 refine ⟨r'.fn, _, r'.assign, r'.body, run_yield q2 eB, fun c cs => ?_⟩
 rw [ady]
 generalize (r'.params.toList.zip args'.toList).foldl (fun tmps (x : Tmp × Value) => tmps.setIfInBounds x.1 x.2) r'.tmps = tmps at dP
 let b : Frame := { (default : Frame) with fn := r'.fn, kind := .normal, roundOf := some l' }
 have nU : Frame.round l' r'.fn tmps r'.assign r'.body .normal = b.atR { tmps := tmps, defers := [] } [.code r'.assign, .beginRound, .code r'.body] := by
  simp [Frame.round, Frame.atR, b]
 rw [nU]
 have hE : ∀ {φ' : au}, Ext h.nx φ φ' → lF φ' ⟨r.fn, r.nt, some l⟩ b := fun {φ'} hE => ⟨q3.fn, rfl, l', rfl, hE.cj hm, fun b d n hh => nM b d n (hE.live hm hh)⟩
 have hC : dk P w0 (.code r.assign ⟨r.fn, r.nt, some l⟩ ⟨tm, [], .off, h⟩ (Lv rec l r k)) := cz _ e2
 obtain ⟨x, s1, φ1, eg, a1, w1, g1, g2, g3, g4, g5⟩ := hC r'.assign q3.assign φ b (c :: cs) (c :: cs) { tmps := tmps, defers := [] } w ⟨⟨.nil, ⟨rfl, .inl rfl⟩, H⟩, dP⟩ (hE (Ext.refl _ _)) _ (.inl rfl) [.beginRound, .code r'.body]
 cases x with
 | exit id => cases g1
 | ret => cases g1
 | aQ v => cases g1
 | normal =>
  have fS : SR P w0 φ1 ⟨r.fn, r.nt, some l⟩ s1 b (c :: cs) eg a1 w1 := g4
  have ei := fS.rc.normal rfl
  subst ei
  obtain ⟨r2, k1, g6⟩ := AG (show mR s1.h l _ = true from g1)
  obtain ⟨nV, g7⟩ := bT g6
  obtain ⟨aU, bV, g8⟩ := mN g7
  have hm1 : φ1 l ≠ none := g2.cj hm
  obtain ⟨b1, d1, n1, Lw, u1, u2, u3, u4⟩ := fS.heap.loop hm1 k1
  have Fj := nM _ _ _ (g2.live hm u1)
  subst Fj
  have adz : Lw.state = .ready := by
   rw [u3.state]
   cases hh : r2.state <;> rw [hh] at nV <;> first | rfl | cases nV
  have hU := u3.iL .busy r2.dC
  rw [show ({ Lw with state := .busy, pending := r2.dC } : Loop) = { Lw with state := .busy } from by rw [← u3.dC]] at hU
  have H2 := fS.heap.K6 u1 u2 u4 bV hU
  have adA := stepR_beginRound (P := P) (b := b) (a := a1) (k := [.code r'.body]) (cs := c :: cs) (l := l') rfl (run_beginRound u2 adz)
  have hC2 : dk P w0 (.code r.body ⟨r.fn, r.nt, some l⟩ ⟨s1.tm, s1.df, s1.rc, ⟨s1.h.nx, aU⟩⟩ (Fk l k)) := cz _ g8
  obtain ⟨x, s2, φ2, Lx, a2, w2, f1, f2, f3, f4, f5⟩ := hC2 r'.body q3.body φ1 b (c :: cs) (c :: cs) a1 _ ⟨⟨fS.df, fS.rc, H2⟩, fS.tm⟩ (hE g2) _ (.inl rfl) []
  obtain ⟨tq, f1⟩ := Ls (show tt s2.df _ = true from f1)
  have AS : Ext h.nx φ φ2 := g2.trans f2 g3
  have vE : φ2 l ≠ none := AS.cj hm
  have Ly : ∀ b d n, φ2 l = some (.live b d n) → l' = b := fun b d n hh => nM b d n (AS.live hm hh)
  have Lz := Steps.trans g5 (.one adA)
  have hN : h.nx ≤ s2.h.nx := Nat.le_trans g3 f3
  cases x with
  | aQ v => cases f1
  | normal =>
   have tv : SR P w0 φ2 ⟨r.fn, r.nt, some l⟩ s2 b (c :: cs) Lx a2 w2 := f4
   have ei := tv.rc.normal rfl
   subst ei
   obtain ⟨h', w', z1, z2, z3, z4⟩ := Lu tv.heap vE Ly rfl rfl f1
   exact ⟨_, _, h', φ2, w', z1, AS, Nat.le_trans hN z2, z3, .bool true, Steps.trans Lz (Steps.trans f5 (.one (stepR_round_end rfl rfl z4)))⟩
  | ret =>
   obtain ⟨k1, f5⟩ := f5
   have tv : SR P w0 φ2 ⟨r.fn, r.nt, some l⟩ s2 b (c :: cs) Lx a2 w2 := f4
   have ei := tv.rc.normal rfl
   subst ei
   obtain ⟨h', w', z1, z2, z3, z4⟩ := Lu tv.heap vE Ly rfl rfl f1
   exact ⟨_, _, h', φ2, w', z1, AS, Nat.le_trans hN z2, z3, .bool false, Steps.trans Lz (Steps.trans f5 (.one (stepR_round_ret rfl rfl z4)))⟩
  | exit id =>
   obtain ⟨k1, K7, f5⟩ := f5
   have tv : SR P w0 φ2 ⟨r.fn, r.nt, some l⟩ s2 b (c :: cs) Lx a2 w2 := f4
   have ei := tv.rc.normal rfl
   subst ei
   obtain ⟨h', w', z1, z2, z3, z4⟩ := Lu tv.heap vE Ly rfl rfl f1
   exact ⟨_, _, h', φ2, w', z1, AS, Nat.le_trans hN z2, z3, .bool false, Steps.trans Lz (Steps.trans f5 (.one (stepR_round_exit rfl rfl (by rw [K7]; rfl) z4)))⟩
end
end Go.Ve
namespace Go.Ve
open Go.RowKit
def ko (h h2 : AH) : Prop := ∀ f o, h.ob.get f = some o → h2.ob.get f = some o
theorem ko.refl (h : AH) : ko h h := fun _ _ e => e
theorem ko.trans {a b c : AH} (h : ko a b) (h' : ko b c) : ko a c := fun f o e => h' f o (h f o e)
def bn (X : AH → KV → Bool) : Prop := ∀ h k, X h k = true → ∃ v, k v h = true ∧ ∀ h2 k2, ko h h2 → k2 v h2 = true → X h2 k2 = true
theorem NT.Bb {α : Type} : ∀ (t : NT α) (i : Nat) (k : α → Bool) (x : α), t.get i = some x → t.dr i k = k x
 | .e, i, k, x, h => by cases h
 | .n l v r, i, k, x, h => by
  rw [NT.Ku]
  rw [NT.get] at h
  cases h0 : Nat.beq i 0 with
  | true => rw [h0] at h; have h' : v = some x := h; rw [h']; rfl
  | false =>
   rw [h0] at h
   cases h1 : Nat.beq (Nat.mod i 2) 1 with
   | true => rw [h1] at h; exact NT.Bb l _ k x h
   | false => rw [h1] at h; exact NT.Bb r _ k x h
theorem Mg {h : AH} {b : Nat} {o : AO} {k : AO → Bool} (e : h.ob.get b = some o) : mT h b k = k o := by
 cases h; exact NT.Bb _ _ _ _ e
theorem adJ : ∀ (n : Nat) {c : NT Value} {i : Nat} {l : List Value} {k : List Value → Bool}, l.length = n → (∀ j v, l[j]? = some v → c.get (i + j) = some v) → nX c i n k = k l := by
 intro n
 induction n with
 | zero => intro c i l k hl _; have : l = [] := List.length_eq_zero_iff.1 hl; subst this; rfl
 | succ n ih =>
  intro c i l k hl hc
  cases l with
  | nil => cases hl
  | cons v l =>
   have h0 : c.get i = some v := hc 0 v (by simp)
   show NT.dr c i (fun v => fN (Nat.succ i) fun i' => nX c i' n fun l => k (v :: l)) = k (v :: l)
   rw [NT.Bb _ _ _ _ h0, bO]
   exact ih (by simpa using hl) (fun j u hj => by
    have := hc (j + 1) u (by simpa using hj)
    rw [show i + (j + 1) = Nat.succ i + j from by omega] at this
    exact this)
section
variable {X Y : AH → KV → Bool}
theorem la (v : Value) : bn (fun h k => k v h) := fun _ _ e => ⟨v, e, fun _ _ _ e' => e'⟩
theorem dq : bn (fun _ _ => false) := fun _ _ e => by cases e
theorem vL {c : Bool} (hx : bn X) : bn (fun h k => iff c (X h k)) := fun h k e => by
 obtain ⟨rfl, e1⟩ := bT e
 exact hx h k e1
theorem vM {c : Bool} (hx : bn X) (hy : bn Y) : bn (fun h k => bif c then X h k else Y h k) := by
 cases c
 · exact hy
 · exact hx
theorem Uo {c : Bool} (hx : bn X) (hy : bn Y) : bn (fun h k => Bool.casesOn (motive := fun _ => Bool) c (X h k) (Y h k)) := by
 cases c
 · exact hx
 · exact hy
theorem Up {vs : List Value} (hx : bn X) : bn (fun h k => a0 vs (X h k)) := by
 cases vs with
 | nil => exact hx
 | cons _ _ => exact dq
theorem FD {vs : List Value} {X : Value → AH → KV → Bool} (hx : ∀ x, bn (X x)) : bn (fun h k => a1 vs (fun x => X x h k)) := by
 cases vs with
 | nil => exact dq
 | cons x vs => exact Up (hx x)
theorem vN {vs : List Value} {X : Value → Value → AH → KV → Bool} (hx : ∀ x y, bn (X x y)) : bn (fun h k => a2 vs (fun x y => X x y h k)) := by
 cases vs with
 | nil => exact dq
 | cons x vs => exact FD (hx x)
theorem Uq {vs : List Value} {X : Value → Value → Value → AH → KV → Bool} (hx : ∀ x y z, bn (X x y z)) : bn (fun h k => a3 vs (fun x y z => X x y z h k)) := by
 cases vs with
 | nil => exact dq
 | cons x vs => exact vN (hx x)
theorem Bc {n : Nat} {X : Nat → AH → KV → Bool} (hx : ∀ m, bn (X m)) : bn (fun h k => fN n (fun m => X m h k)) := by
 simp only [bO]; exact hx n
theorem FE {n : Int} {X : Int → AH → KV → Bool} (hx : ∀ m, bn (X m)) : bn (fun h k => fI n (fun m => X m h k)) := by
 simp only [mc]; exact hx n
theorem Bd {n : Bool} {X : Bool → AH → KV → Bool} (hx : ∀ m, bn (X m)) : bn (fun h k => fB n (fun m => X m h k)) := by
 simp only [gQ]; exact hx n
theorem Mh {v : Value} {X : Nat → Nat → AH → KV → Bool} (hx : ∀ b o, bn (X b o)) : bn (fun h k => ic v (fun b o => X b o h k)) := by
 cases v <;> first
  | exact dq
  | (rename_i a; cases a with
   | none => exact dq
   | some a => cases a; exact hx _ _)
theorem Ur {v : Value} {X : List Value → AH → KV → Bool} (hx : ∀ l, bn (X l)) : bn (fun h k => rT v (fun l => X l h k)) := by
 cases v <;> first
  | exact dq
  | (rename_i a; cases a; exact hx _)
theorem Us {v : Value} {X : List Value → AH → KV → Bool} (hx : ∀ l, bn (X l)) : bn (fun h k => Fm v (fun l => X l h k)) := by
 cases v <;> first
  | exact dq
  | (rename_i a; cases a; exact hx _)
theorem Ut {v : Value} {X : Bool → AH → KV → Bool} (hx : ∀ l, bn (X l)) : bn (fun h k => rU v (fun l => X l h k)) := by
 cases v <;> first
  | exact dq
  | exact hx _
theorem FF {v : Value} {X : IntKind → Int → AH → KV → Bool} (hx : ∀ kd n, bn (X kd n)) : bn (fun h k => jT v (fun kd n => X kd n h k)) := by
 cases v <;> first
  | exact dq
  | exact hx _ _
theorem FG {v : Value} {X : Nat → AH → KV → Bool} (hx : ∀ n, bn (X n)) : bn (fun h k => nY v (fun n => X n h k)) := by
 cases v <;> first
  | exact dq
  | (rename_i kd n; cases n <;> first | exact hx _ | exact dq)
theorem Be {v : Value} {X : ByteArray → AH → KV → Bool} (hx : ∀ l, bn (X l)) : bn (fun h k => iv v (fun l => X l h k)) := by
 cases v <;> first
  | exact dq
  | exact hx _
theorem Mi {v : Value} {X : Nat → Nat → Nat → Nat → AH → KV → Bool} (hy : bn Y) (hx : ∀ b o l c, bn (X b o l c)) : bn (fun h k => jU v (Y h k) (fun b o l c => X b o l c h k)) := by
 cases v <;> first
  | exact dq
  | (rename_i a l c; cases a with
   | none => exact hy
   | some a => cases a; exact hx _ _ _ _)
theorem Uu {v : Value} {X : Nat → AH → KV → Bool} (hy : bn Y) (hx : ∀ r, bn (X r)) : bn (fun h k => vG v (Y h k) (fun r => X r h k)) := by
 cases v <;> first
  | exact dq
  | (rename_i a; cases a with
   | none => exact hy
   | some a => exact hx _)
theorem Uv {X : Value → AH → KV → Bool} (hx : ∀ v, bn (X v)) : ∀ {l : List Value} {n : Nat}, bn (fun h k => nW l n (fun v => X v h k)) := by
 intro l
 induction l with
 | nil => intro n; exact dq
 | cons a l ih =>
  intro n
  cases n with
  | zero => exact hx a
  | succ n => exact ih
theorem Uw : ∀ {l : List Value} {n : Nat} {X : List Value → AH → KV → Bool}, (∀ v, bn (X v)) → bn (fun h k => qe l n (fun v => X v h k)) := by
 intro l
 induction l with
 | nil =>
  intro n X hx
  cases n with
  | zero => exact hx _
  | succ n => exact dq
 | cons a l ih =>
  intro n X hx
  cases n with
  | zero => exact hx _
  | succ n => exact ih (X := fun v => X (a :: v)) fun v => hx _
theorem Ux {X : List Value → AH → KV → Bool} (hx : ∀ v, bn (X v)) : ∀ {l : List Value} {n : Nat}, bn (fun h k => qf l n (fun v => X v h k)) := by
 intro l
 induction l with
 | nil =>
  intro n
  cases n with
  | zero => exact hx _
  | succ n => exact dq
 | cons a l ih =>
  intro n
  cases n with
  | zero => exact hx _
  | succ n => exact ih
theorem Uy : ∀ {vs l : List Value} {X : List Value → AH → KV → Bool}, (∀ v, bn (X v)) → bn (fun h k => kX l vs (fun v => X v h k)) := by
 intro vs l
 induction l generalizing vs with
 | nil =>
  intro X hx
  cases vs with
  | nil => exact hx _
  | cons a vs => exact dq
 | cons a l ih =>
  intro X hx
  cases vs with
  | nil => exact hx _
  | cons b vs => exact ih (X := fun v => X (b :: v)) fun v => hx _
theorem adK : ∀ {l : List Value} {n : Nat} {vs : List Value} {X : List Value → AH → KV → Bool}, (∀ v, bn (X v)) → bn (fun h k => nJ l n vs (fun v => X v h k)) := by
 intro l
 induction l with
 | nil =>
  intro n vs X hx
  cases n with
  | zero => exact (Uy hx : bn (fun h k => kX [] vs (fun v => X v h k)))
  | succ n => exact dq
 | cons a l ih =>
  intro n vs X hx
  cases n with
  | zero => exact (Uy hx : bn (fun h k => kX (a :: l) vs (fun v => X v h k)))
  | succ n => exact ih (X := fun v => X (a :: v)) fun v => hx _
theorem Mj : ∀ {l m : List Value} {X : List Value → AH → KV → Bool}, (∀ v, bn (X v)) → bn (fun h k => gM l m (fun v => X v h k)) := by
 intro l
 induction l with
 | nil => intro m X hx; exact hx _
 | cons a l ih => intro m X hx; exact ih (X := fun v => X (a :: v)) fun v => hx _
theorem Mk : ∀ {ps : List (Nat × Nat)} {l vs : List Value} {X : List Value → AH → KV → Bool}, (∀ v, bn (X v)) → bn (fun h k => iM l ps vs (fun v => X v h k)) := by
 intro ps
 induction ps with
 | nil =>
  intro l vs X hx
  cases vs with
  | nil => exact hx _
  | cons a vs => exact dq
 | cons p ps ih =>
  intro l vs X hx
  cases vs with
  | nil => exact dq
  | cons a vs =>
   obtain ⟨off, sz⟩ := p
   exact vM (adK fun l' => ih hx) dq
theorem Uz : ∀ {ss : List Nat} {vs : List Value} {X : List Value → AH → KV → Bool}, (∀ v, bn (X v)) → bn (fun h k => vv ss vs (fun v => X v h k)) := by
 intro ss
 induction ss with
 | nil => intro vs X hx; exact Up (hx [])
 | cons n ss ih =>
  intro vs X hx
  cases vs with
  | nil => exact dq
  | cons v vs => exact vL (ih (X := fun l h k => gM (cellsOf v) l fun l => X l h k) fun l => Mj hx)
theorem qi {b : Bool} {vs : List Value} {d : Nat} {X : Nat → List Value → AH → KV → Bool} (hx : ∀ n vs, bn (X n vs)) : bn (fun h k => nZ b vs d (fun n vs => X n vs h k)) := by
 cases b with
 | false => exact hx _ _
 | true =>
  cases vs with
  | nil => exact dq
  | cons v vs => exact FG fun n => hx n vs
theorem Ml {o : Option Bool} {ng : Bool} : bn (fun h k => qh o ng (fun v => k v h)) := by
 cases o with
 | none => exact dq
 | some b => exact Bd fun b => la _
theorem UA {b o : Nat} {X : Value → AH → KV → Bool} (hx : ∀ v, bn (X v)) : bn (fun h k => qc h b o (fun v => X v h k)) := fun h k e => by
 obtain ⟨lo, hi, ty, rw, c, v, h1, h2, h3, h4, h5⟩ := Fb e
 obtain ⟨u, hu, hr⟩ := hx v h k h5
 refine ⟨u, hu, fun hh k2 hle hk => ?_⟩
 show mT hh b _ = true
 rw [Mg (hle _ _ h1)]
 show iff (Nat.ble lo o && Nat.ble (Nat.succ o) hi) (NT.dr c o fun v => X v hh k2) = true
 rw [NT.Bb _ _ _ _ h4, (iff_eq _ _)]
 exact ⟨by simp; exact ⟨h2, h3⟩, hr hh k2 hle hk⟩
theorem UB {b o n : Nat} {X : List Value → AH → KV → Bool} (hx : ∀ v, bn (X v)) : bn (fun h k => jQ h b o n (fun v => X v h k)) := fun h k e => by
 obtain ⟨lo, hi, ty, rw, c, l, h1, h2, h3, h4, h5, h6⟩ := td e
 obtain ⟨u, hu, hr⟩ := hx l h k h6
 refine ⟨u, hu, fun hh k2 hle hk => ?_⟩
 show mT hh b _ = true
 rw [Mg (hle _ _ h1)]
 show iff (Nat.ble lo o && Nat.ble (Nat.add o n) hi) (nX c o n fun v => X v hh k2) = true
 rw [adJ n h4 h5, (iff_eq _ _)]
 exact ⟨by simp; exact ⟨h2, h3⟩, hr hh k2 hle hk⟩
theorem UC {b : Nat} {X : List (Value × Value × Nat) → Nat → AH → KV → Bool} (hx : ∀ es cl, bn (X es cl)) : bn (fun h k => jS h b (fun es cl => X es cl h k)) := fun h k e => by
 obtain ⟨es, cl, h1, h2⟩ := vt e
 obtain ⟨u, hu, hr⟩ := hx es cl h k h2
 refine ⟨u, hu, fun hh k2 hle hk => ?_⟩
 show mT hh b _ = true
 rw [Mg (hle _ _ h1)]
 exact hr hh k2 hle hk
theorem UD {kc : Nat} {X : Option Value → AH → KV → Bool} (hx : ∀ v, bn (X v)) : ∀ {es : List (Value × Value × Nat)} {x : Value}, bn (fun h k => vr kc es x (fun v => X v h k)) := by
  intro es x
  induction es with
  | nil => exact hx none
  | cons p es ih =>
    obtain ⟨a, v, n⟩ := p
    cases hq : kR kc x a with
    | none => simp only [vr, hq]; exact dq
    | some t => cases t <;> simp only [vr, hq]
                · exact ih
                · exact hx _
theorem UE {zero : Value} {ok : Bool} {o : Option Value} : bn (fun h k => EL zero ok h k o) := by
 cases o <;> cases ok <;> exact la _
end
theorem UF {sz l h m cap : Nat} {LC : Bool} {b o : Nat} : bn (fun hh k => rV sz l h m cap LC b o (fun v => k v hh)) := by
 unfold rV; repeat (first | exact la _ | exact dq | exact Ml | exact UE | apply vL | apply vM | apply Uo | apply FD | apply vN | apply Uq | apply Bc | apply FE | apply Bd | apply Mh | apply Ur | apply Us | apply Ut | apply FG | apply FF | apply Be | apply Mi | apply Uu | apply Uv | apply Uw | apply Ux | apply Mj | apply Mk | apply Uz | apply qi | apply UA | apply UB | apply UC | apply UD | (intro _))
theorem adL {x y : Option Bool} {ng : Bool} : bn (fun h k => AV x y ng (fun v => k v h)) := by
 cases x with
 | none => cases y <;> exact dq
 | some a =>
  cases y with
  | none => cases a <;> exact dq
  | some b => cases a <;> cases b <;> simp only [AV] <;> first | exact Ml | exact dq
theorem adM {op : BinOp} {a b : ByteArray} : bn (fun h k => LF op a b (fun v => k v h)) := by
 cases op <;> first | exact dq | exact Bd fun _ => la _
theorem adN {op : BinOp} {kd : IntKind} {a b : Int} : bn (fun h k => LA op kd a b (fun v => k v h)) := by
 cases op <;> first
  | exact dq
  | exact Bd fun _ => la _
  | exact FE fun _ => la _
  | exact vM dq (FE fun _ => la _)
  | (cases kd <;> first
   | exact dq
   | (cases a <;> cases b <;> first | exact dq | exact vM (Bc fun _ => la _) dq))
theorem adO {kd : IntKind} {a b : Int} : bn (fun h k => LB kd a b (fun v => k v h)) := by
 cases kd <;> first
  | exact dq
  | (cases a <;> cases b <;> first | exact dq | exact vM (Bc fun _ => la _) dq)
theorem adP {op : BinOp} {kx ky : IntKind} {a b : Int} : bn (fun h k => LD op kx a ky b (fun v => k v h)) := by
 cases op <;> first
  | exact dq
  | exact adO
  | exact vL adN
theorem adQ {ty : TypeId} {zero x : Value} : bn (fun h k => KJ ty zero x (fun v => k v h)) := by
 cases x <;> first
  | exact dq
  | exact la _
  | exact vM (la _) (la _)
theorem UG (p : Prim) (ha : p.tA = false) (hm : p.makes = false) (vs : List Value) : bn (fun h k => p.ev vs h k) := by
 cases p
 case alloc => cases hm
 case box => cases hm
 case buildSlice => cases hm
 case store => cases ha
 case Sk =>
  change bn (fun h k => Fp vs h k); unfold Fp
  refine vN fun x i => FG fun i => Be fun s => ?_
  cases s.data.toList[i]? with
  | none => exact dq
  | some c => exact Bc fun _ => la _
 case slice sz lo hi mx =>
  change bn (fun h k => AW sz lo hi mx vs h k); unfold AW
  cases vs with
  | nil => exact dq
  | cons x vs => exact Mi (qi fun _ _ => qi fun _ _ => vL (la _)) fun b o len cap => qi fun l vs => qi fun hh vs => qi fun m vs => vL UF
 case Sm n sz lo hi mx =>
  change bn (fun h k => AY n sz lo hi mx vs h k); unfold AY
  cases vs with
  | nil => exact dq
  | cons x vs => exact Mh fun b o => qi fun l vs => qi fun hh vs => qi fun m vs => vL UF
 case aD op => change bn (fun h k => Fq op vs h k); unfold Fq; exact vN fun x y => FF fun _ _ => FF fun _ _ => adP
 case Sn op => change bn (fun h k => Fs op vs h k); unfold Fs; exact vN fun x y => Be fun _ => Be fun _ => adM
 case oI nk ng => change bn (fun h k => Ft nk ng vs h k); unfold Ft; exact vN fun x y => adL
 case mkMap => cases ha
 case mkSlice => cases ha
 case oB => cases ha
 case append => cases ha
 case copy => cases ha
 case Sp t z => change bn (fun h k => EP t z vs h k); unfold EP; exact FD fun x => adQ
 case Kx => cases ha
 case Ky => cases ha
 case x e => cases ha
 all_goals (simp only [Prim.ev, LG, LH, TX, TY, LI, LJ, LK, LM, LN, LQ, LS, LU, LV, LW, T0, LX, LY, LZ, L3, L4, L5, L6, KG, L7, L8, L9, Ma, Mb, KB, KC]; repeat (first | exact la _ | exact dq | exact Ml | exact UE | apply vL | apply vM | apply Uo | apply FD | apply vN | apply Uq | apply Bc | apply FE | apply Bd | apply Mh | apply Ur | apply Us | apply Ut | apply FG | apply FF | apply Be | apply Mi | apply Uu | apply Uv | apply Uw | apply Ux | apply Mj | apply Mk | apply Uz | apply qi | apply UA | apply UB | apply UC | apply UD | (intro _)))
end Go.Ve
namespace Go.Ve
open Go.RowKit
def iQ (v u : Value) : Prop := ∀ φ x, VR φ v x ↔ VR φ u x
def mV (l m : List Value) : Prop := ∀ φ x, LR φ l x ↔ LR φ m x
theorem iQ.refl (v : Value) : iQ v v := fun _ _ => Iff.rfl
theorem mV.refl (v : List Value) : mV v v := fun _ _ => Iff.rfl
theorem iQ.of_eq {v u : Value} (h : v = u) : iQ v u := h ▸ iQ.refl v
theorem AtR.same {φ : au} {a b x : Addr} (h1 : a.block = b.block) (h2 : a.off = b.off) (h : AtR φ a x) : AtR φ b x := fun bl d n hb => by
 have := h bl d n (by rw [h1]; exact hb)
 rw [h2] at this; exact this
theorem ry.same {φ : au} {a b x : Addr} {len cap cH : Nat} (h1 : a.block = b.block) (h2 : a.off = b.off) (h : ry φ a x len cap cH) : ry φ b x len cap cH := by
 rcases h with ⟨h3, h4, h5, h6⟩ | ⟨sz, h3, h4, h5, h6⟩
 · exact .inl ⟨h3, h4, h5, fun hp => (h6 hp).same h1 h2⟩
 · exact .inr ⟨sz, h3, h4, h5, fun hp => ⟨(h6 hp).1.same h1 h2, fun bl d n hb => (h6 hp).2 bl d n (by rw [h1]; exact hb)⟩⟩
theorem iQ.ptr {a b : Addr} (h1 : a.block = b.block) (h2 : a.off = b.off) : iQ (.pointer (some a)) (.pointer (some b)) := fun φ x => by
 constructor
 · intro h; cases h with | ptr _ a' q1 q2 => exact .ptr _ _ (h1 ▸ q1) (q2.same h1 h2)
 · intro h; cases h with | ptr _ a' q1 q2 => exact .ptr _ _ (h1 ▸ q1) (q2.same h1.symm h2.symm)
theorem iQ.sl {a b : Addr} {l c : Nat} (h1 : a.block = b.block) (h2 : a.off = b.off) : iQ (.slice (some a) l c) (.slice (some b) l c) := fun φ x => by
 constructor
 · intro h; cases h with | sl _ a' _ _ _ q1 q2 => exact .sl _ _ _ _ _ (h1 ▸ q1) (q2.same h1 h2)
 · intro h; cases h with | sl _ a' _ _ _ q1 q2 => exact .sl _ _ _ _ _ (h1 ▸ q1) (q2.same h1.symm h2.symm)
theorem mV.cons {a b : Value} {l m : List Value} (h : iQ a b) (hl : mV l m) : mV (a :: l) (b :: m) := fun φ x => by
 constructor
 · intro h'; cases h' with | cons _ _ _ _ q1 q2 => exact .cons _ _ _ _ ((h _ _).1 q1) ((hl _ _).1 q2)
 · intro h'; cases h' with | cons _ _ _ _ q1 q2 => exact .cons _ _ _ _ ((h _ _).2 q1) ((hl _ _).2 q2)
theorem iQ.agg {l m : List Value} (h : mV l m) : iQ (.agg ⟨l⟩) (.agg ⟨m⟩) := fun φ x => by
 constructor
 · intro h'; cases h' with | agg _ _ q1 => exact .agg _ _ ((h _ _).1 q1)
 · intro h'; cases h' with | agg _ _ q1 => exact .agg _ _ ((h _ _).2 q1)
theorem iQ.fD {l m : List Value} (h : mV l m) : iQ (.tuple ⟨l⟩) (.tuple ⟨m⟩) := fun φ x => by
 constructor
 · intro h'; cases h' with | fD _ _ q1 => exact .fD _ _ ((h _ _).1 q1)
 · intro h'; cases h' with | fD _ _ q1 => exact .fD _ _ ((h _ _).2 q1)
theorem iQ.func {fn : Fn} {a b c d : List Value} (h1 : mV a c) (h2 : mV b d) : iQ (.func fn ⟨a⟩ ⟨b⟩) (.func fn ⟨c⟩ ⟨d⟩) := fun φ x => by
 constructor
 · intro h'; cases h' with | func _ _ _ _ _ _ q0 q1 q2 => exact .func _ _ _ _ _ _ q0 ((h1 _ _).1 q1) ((h2 _ _).1 q2)
 · intro h'; cases h' with | func _ _ _ _ _ _ q0 q1 q2 => exact .func _ _ _ _ _ _ q0 ((h1 _ _).2 q1) ((h2 _ _).2 q2)
theorem UH {a b : Value} (h : FB a b = true) : iQ a b := by
 unfold FB at h
 split at h
 · rename_i x y; exact .of_eq (by cases x <;> cases y <;> first | rfl | cases h)
 · rename_i kd x kd' y
   cases hk : eS kd kd' with
   | false => rw [hk] at h; cases h
   | true =>
    rw [hk] at h
    have h' : kj x y = true := h
    rw [rF] at h'
    have := mK hk
    have h'' : x = y := by simpa using h'
    exact .of_eq (by rw [this, h''])
 · rename_i x y
   rw [Mm] at h
   have : x.data.toList = y.data.toList := by simpa using h
   have h2 : x = y := by cases x; cases y; simp only at this; congr 1; exact Array.toList_inj.1 this
   exact .of_eq (by rw [h2])
 · exact .refl _
 · simp only [Bool.and_eq_true, Nat.beq_eq] at h
   exact .ptr h.1 h.2
 · simp only [Bool.and_eq_true, Nat.beq_eq] at h
   exact .of_eq (by rw [h.1, h.2])
 · simp only [Bool.and_eq_true, Nat.beq_eq] at h
   obtain ⟨⟨⟨h1, h2⟩, h3⟩, h4⟩ := h
   subst h3; subst h4
   exact .sl h1 h2
 · exact .refl _
 · simp only [Nat.beq_eq] at h
   exact .of_eq (by rw [h])
 · exact .refl _
 · exact .refl _
 · cases h
theorem Mn : ∀ {l m : List Value}, A8 l m = true → mV l m
 | [], [], _ => .refl _
 | a :: l, b :: m, h => by
  simp only [A8, Bool.and_eq_true] at h
  exact .cons (UH h.1) (Mn h.2)
 | [], _ :: _, h => by cases h
 | _ :: _, [], h => by cases h
theorem UI {a b : Value} (h : FC a b = true) : iQ a b := by
 unfold FC at h
 split at h
 · simp only [Bool.and_eq_true, Nat.beq_eq] at h
   obtain ⟨⟨h1, h2⟩, h3⟩ := h
   subst h1
   exact .func (Mn h2) (Mn h3)
 · exact UH h
theorem FH : ∀ {l m : List Value}, vJ l m = true → mV l m
 | [], [], _ => .refl _
 | a :: l, b :: m, h => by
  simp only [vJ, Bool.and_eq_true] at h
  exact .cons (UI h.1) (FH h.2)
 | [], _ :: _, h => by cases h
 | _ :: _, [], h => by cases h
theorem adR {a b : Value} (h : oU a b = true) : iQ a b := by
 unfold oU at h
 split at h
 · exact .agg (FH h)
 · exact .fD (FH h)
 · exact UI h
noncomputable def lb (g : Option (Pos × Bool)) (t : PT) : Bool := nP g t true false
def ie (t : PT) : dB → Value
 | .t p => t.get p
 | .c v => v
theorem Mo (g : Option (Pos × Bool)) (t : PT) (yes no : Bool) : nP g t yes no = bif lb g t then yes else no := by
 cases g with
 | none => rfl
 | some pw =>
  obtain ⟨p, want⟩ := pw
  show PT.dr p t (vz want yes no) = bif PT.dr p t (vz want true false) then yes else no
  rw [PT.jw, PT.jw]
  unfold vz
  split
  · cases mb _ want <;> rfl
  · rfl
theorem Mq (o : dB) (t : PT) (k : Value → Bool) : rN o t k = k (ie t o) := by
 cases o with
 | t p => exact PT.jw p t k
 | c v => rfl
theorem xU (t : PT) : ∀ (l : List dB) (k : List Value → Bool), nO l t k = k (l.map (ie t))
 | [], k => rfl
 | o :: l, k => by
  show rN o t (fun v => nO l t fun vs => k (v :: vs)) = _
  rw [Mq, xU t l]
  rfl
theorem Bf (d : Option Pos) (s : St) (v : Value) (h : AH) (k : St → Bool) : gP d s v h k = k ⟨match d with | none => s.tm | some p => s.tm.set p v, s.df, s.rc, h⟩ := by
 cases d with
 | none => rfl
 | some p => exact PT.lB p s.tm v _
def Prim.made (p : Prim) (b : Nat) : Value := match p with
 | .buildSlice _ n _ _ => .slice (some ⟨b, 0, none⟩) n n
 | _ => al b 0
theorem UJ : ∀ (ps : List (Nat × Nat)) (l vs : List Value) (k : List Value → Bool), iM l ps vs k = true → ∃ m, k m = true ∧ ∀ k2, k2 m = true → iM l ps vs k2 = true := by
 intro ps l vs k h
 have hD := Mk (ps := ps) (l := l) (vs := vs) (X := fun m h k => k (.agg ⟨m⟩) h) (fun m => la _)
 obtain ⟨v, h1, h2⟩ := hD ⟨0, .e⟩ (fun v _ => match v with | .agg ⟨m⟩ => k m | _ => false) h
 cases v with
 | agg a =>
  obtain ⟨m⟩ := a
  exact ⟨m, h1, fun k2 hk => h2 ⟨0, .e⟩ (fun v _ => match v with | .agg ⟨m⟩ => k2 m | _ => false) (ko.refl _) hk⟩
 | _ => cases h1
end Go.Ve
namespace Go.Ve
open Go.RowKit
section
variable {P : Program} {w0 w : World} {φ : au} {h : AH} {ρ : Operand → Value} {o : Oper} {vs : List Value}
def Bg (p : Prim) (vs : List Value) (ty : TypeId) (l : List Value) : Prop := ∀ k2 : TypeId → List Value → Bool, k2 ty l = true → p.fresh vs k2 = true
theorem adS {p : Prim} {k : TypeId → List Value → Bool} (e : p.fresh vs k = true) : ∃ ty l, k ty l = true ∧ Bg p vs ty l := by
 cases p with
 | alloc ty zero =>
  obtain ⟨rfl, e1⟩ := tg (show a0 vs (k ty zero) = true from e)
  exact ⟨ty, zero, e1, fun k2 hk => hk⟩
 | box ty =>
  obtain ⟨v, rfl, e1⟩ := ew (show a1 vs (fun v => k ty (cellsOf v)) = true from e)
  exact ⟨ty, cellsOf v, e1, fun k2 hk => hk⟩
 | buildSlice ty n cells places =>
  obtain ⟨m, e1, e2⟩ := UJ _ _ _ _ (show iM cells places vs (fun l => k ty l) = true from e)
  exact ⟨ty, m, e1, fun k2 hk => e2 (fun l => k2 ty l) hk⟩
 | _ => cases e
theorem adT {p : Prim} (hm : p.makes = true) {k : KV} (e : p.ev vs h k = true) : ∃ ty l c aU, Bg p vs ty l ∧ (∀ v ∈ l, eH v = true) ∧ (∀ j v, l[j]? = some v → c.get j = some v) ∧ h.ob.im h.nx (some (.cells 0 l.length ty true c)) aU ∧ k (p.made h.nx) ⟨h.nx + 1, aU⟩ = true := by
 cases p with
 | alloc ty zero =>
  obtain ⟨rfl, e1⟩ := tg (show a0 vs _ = true from e)
  obtain ⟨h1, c, aU, h2, h3, h4⟩ := rE e1
  exact ⟨ty, zero, c, aU, fun k2 hk => hk, h1, h2, h3, h4⟩
 | box ty =>
  obtain ⟨v, rfl, e1⟩ := ew (show a1 vs _ = true from e)
  obtain ⟨h1, c, aU, h2, h3, h4⟩ := rE e1
  exact ⟨ty, cellsOf v, c, aU, fun k2 hk => hk, h1, h2, h3, h4⟩
 | buildSlice ty n cells places =>
  obtain ⟨m, e1, e2⟩ := UJ _ _ _ _ (show iM cells places vs _ = true from e)
  obtain ⟨h1, c, aU, h2, h3, h4⟩ := rE e1
  exact ⟨ty, m, c, aU, fun k2 hk => e2 (fun l => k2 ty l) hk, h1, h2, h3, h4⟩
 | _ => cases hm
theorem UM {p : Prim} {xs : List Operand} (hc : lE P o = some (.aC p, xs)) (hm : p.makes = true) :
 (∃ ty z, o.op = .alloc ty ∧ zeroOf P ty = some z ∧ p = .alloc ty z.cells.toList ∧ xs = []) ∨ (∃ ty x, o.op = .box ty x ∧ p = .box ty ∧ xs = [x]) ∨
 (∃ t e' n s parts z, o.op = .buildSlice t n parts ∧ P.underlying t = some (.slice e') ∧ zeroOf P e' = some z ∧ ej P e' = some s ∧ n * s ≤ 65536 ∧ z.cells.size = s ∧ 0 < s ∧
  p = .buildSlice e' n (iZ n z.cells.toList) (parts.toList.map fun p => (p.1 * s, s)) ∧ xs = parts.toList.map (·.2)) := by
 cases aS : o.op <;> simp only [lE, aS] at hc
 case alloc ty =>
  split at hc
  · rename_i z hz; cases hc; exact .inl ⟨ty, z, rfl, hz, rfl, rfl⟩
  · cases hc
 case box ty x => cases hc; exact .inr (.inl ⟨ty, x, rfl, rfl, rfl⟩)
 case buildSlice t len parts =>
  split at hc
  · rename_i e' hu
    split at hc
    · rename_i s z hs hz
      split at hc
      · rename_i hg
        cases hc
        simp only [Bool.and_eq_true, decide_eq_true_eq, beq_iff_eq] at hg
        exact .inr (.inr ⟨t, e', len, s, parts, z, rfl, hu, hz, hs, hg.1.1, hg.1.2, hg.2, rfl, rfl⟩)
      · cases hc
    · cases hc
  · cases hc
 all_goals ((repeat' split at hc) <;> first | (cases hc; done) | (cases hc; cases hm; done) | (cases hc; unfold vw at hm; split at hm <;> cases hm))
theorem adU {p : Prim} {xs : List Operand} {ty : TypeId} {l : List Value} (hc : lE P o = some (.aC p, xs)) (hm : p.makes = true) (hv : LR φ vs (xs.map ρ)) (hf : Bg p vs ty l) :
    ∃ l', LR φ l l' ∧ (execOp ρ o).run P w = .ok (.value (p.made w.heap.size)) (w.alloc (.cells l'.toArray ty)) := by
  classical
  have hd := hf (fun cf l' => decide (cf = ty ∧ l' = l)) (by simp)
  rcases UM hc hm with ⟨cf, z, ho, hz, rfl, rfl⟩ | ⟨cf, x, ho, rfl, rfl⟩ | ⟨t, e', n, s, parts, z, ho, hu, hz, hs, hle, lD, h0, rfl, rfl⟩
  · obtain ⟨rfl, e1⟩ := tg (show a0 vs _ = true from hd)
    obtain ⟨rfl, rfl⟩ : cf = ty ∧ z.cells.toList = l := by simpa using e1
    obtain ⟨i, hi, hz, eR⟩ := nH hz
    refine ⟨z.cells.toList, VR.cells (oM eR), ?_⟩
    simp [execOp, ho, Instr.alloc, pV hi hz, newVar, newRow, World.alloc_eq, Prim.made, al]
  · obtain ⟨v, rfl, e1⟩ := ew (show a1 vs (fun v => decide (cf = ty ∧ cellsOf v = l)) = true from hd)
    obtain ⟨rfl, rfl⟩ : cf = ty ∧ cellsOf v = l := by simpa using e1
    obtain ⟨a', ha, hr⟩ := hv.one
    simp at ha; subst ha
    rw [xu]
    refine ⟨_, VR.cells hr, ?_⟩
    simp [execOp, ho, Instr.box, newVar, newRow, World.alloc_eq, Prim.made, al]
  · obtain ⟨i, hi, l8, eR⟩ := nH hz
    obtain ⟨i2, eY, rA⟩ := kT hs
    rw [hi] at eY; cases eY
    subst rA
    have mP : (parts.map fun (i, x) => (i, ρ x)).toList.map (fun p => some (p.1 * i.size, i.size)) = (parts.toList.map fun p => (p.1 * i.size, i.size)).map some := by simp [Function.comp_def]
    have nK : LR φ vs ((parts.map fun (i, x) => (i, ρ x)).toList.map (·.2)) := by simpa [Function.comp_def] using hv
    obtain ⟨r, r', q1, q2, q3⟩ := ET (place := fun j => some (j * i.size, i.size)) (show iM _ _ vs (fun l' => decide (e' = ty ∧ l' = l)) = true from hd) (LR.EK (VR.cells (oM (φ := φ) eR)) n) nK mP
    obtain ⟨rfl, rfl⟩ : e' = ty ∧ r = l := by simpa using q1
    have gD : ((Array.range (n * i.size)).map fun j => z.cells[j % z.cells.size]!) = (iZ n z.cells.toList).toArray := by
      apply Array.ext'
      have := KF z.cells (by omega) n
      rw [← lD]
      simpa [madeCells] using this
    have ti : Instr.fill (fun j => some (j * i.size, i.size)) (iZ n z.cells.toList).toArray (List.map (fun x => (x.fst, ρ x.snd)) parts.toList) = some r'.toArray := by simpa using q3
    refine ⟨r', q2, ?_⟩
    have Ac : ¬ (16777216 < n * i.size) := by omega
    simp only [execOp, ho, Instr.buildSlice, Sem.run_bind, run_underlying hu, Result.andThen_ok, iK hi]
    by_cases l9 : n * i.size = 0
    · have Ad : ((Array.range (n * i.size)).map fun j => (#[] : Array Value)[j % (#[] : Array Value).size]!) = (iZ n z.cells.toList).toArray := by
        rw [← gD, l9]; simp [Array.range_zero']
      simp [Ac, l9]
      simp [l9] at Ad
      rw [Ad]
      rw [ti]
      simp [newRow, World.alloc_eq, Prim.made]
    · simp [Ac, l9, pV hi l8]
      rw [gD, ti]
      simp [newRow, World.alloc_eq, Prim.made]
theorem adV {p : Prim} {xs : List Operand} (hc : lE P o = some (.aC p, xs)) (hm : p.makes = true) (f B n : Nat) : VR (φ.put f (.live B 0 n)) (p.made f) (p.made B) := by
 rcases UM hc hm with ⟨cf, z, ho, hz, rfl, rfl⟩ | ⟨cf, x, ho, rfl, rfl⟩ | ⟨t, e', n', s, parts, z, ho, hu, hz, hs, hle, lD, h0, rfl, rfl⟩
 · exact PR.xr
 · exact PR.xr
 · refine .sl _ _ _ _ _ (by simp [au.put]) (.inl ⟨by unfold aT; have : n' ≤ n' * s := Nat.le_mul_of_pos_right n' h0; omega, rfl, Nat.le_refl _, fun _ b d m hl => ?_⟩)
   simp only [au.gN] at hl
   cases hl
   exact ⟨rfl, rfl, rfl⟩
theorem adW {p : Prim} (b : Nat) (k : Nat → Bool) : Me (p.made b) k = k b := by
 unfold Prim.made
 split <;> rfl
end
end Go.Ve
namespace Go.Ve
open Go.RowKit
section
variable {P : Program} {w0 w : World} {φ : au} {nt : Nat} {ops : Array Oper} {as : Array bh}
theorem adX {α β : Type} {f : α → Option β} : ∀ {xs : List α} {ys : List β}, xs.mapM f = some ys → ys.length = xs.length ∧ ∀ (i : Nat) (x : α), xs[i]? = some x → ∃ y, ys[i]? = some y ∧ f x = some y := by
 intro xs
 induction xs with
 | nil => intro ys h; simp at h; subst h; exact ⟨rfl, fun i x hx => by simp at hx⟩
 | cons a xs ih =>
  intro ys h
  rw [List.mapM_cons] at h
  cases ha : f a with
  | none => simp [ha] at h
  | some b =>
   cases hs : xs.mapM f with
   | none => simp [ha, hs] at h
   | some bs =>
    simp [ha, hs] at h
    subst h
    obtain ⟨h1, h2⟩ := ih hs
    refine ⟨by simp [h1], fun i x hx => ?_⟩
    cases i with
    | zero => simp at hx; subst hx; exact ⟨b, by simp, ha⟩
    | succ i => simp at hx; obtain ⟨y, h3, h4⟩ := h2 i x hx; exact ⟨y, by simpa using h3, h4⟩
structure mg (P : Program) (nt : Nat) (ops : Array Oper) (as : Array bh) : Prop where
 size : as.size = ops.size
 get : ∀ (i : Nat) (o : Oper), ops[i]? = some o → ∃ ao, as[i]? = some ao ∧ mQ P nt ops o = some ao
theorem adY {l : List bh} (h : Ay P nt ops = some l) : mg P nt ops l.toArray := by
 obtain ⟨h1, h2⟩ := adX h
 refine ⟨by simpa using h1, fun i o ho => ?_⟩
 obtain ⟨y, h3, h4⟩ := h2 i o (by simpa using ho)
 exact ⟨y, by simpa using h3, h4⟩
theorem mg.op (h : mg P nt ops as) {i : Nat} {ao : bh} (ha : as[i]? = some ao) : ∃ o, ops[i]? = some o ∧ mQ P nt ops o = some ao := by
 have bC : i < ops.size := by rw [← h.size]; exact (Array.getElem?_eq_some_iff.1 ha).1
 obtain ⟨Bh, h1, h2⟩ := h.get i ops[i] (by simp [bC])
 rw [ha] at h1; cases h1
 exact ⟨ops[i], by simp [bC], h2⟩
theorem mg.lt (h : mg P nt ops as) {i : Nat} {ao : bh} (ha : as[i]? = some ao) : i < ops.size := by rw [← h.size]; exact (Array.getElem?_eq_some_iff.1 ha).1
def ig (as : Array bh) (j : Nat) : Option Pos := (as[j]?).bind (·.dst)
theorem UN {l : List Pos} {p : Pos} : FI l p = true ↔ p ∈ l := by
 unfold FI
 rw [List.any_eq_true]
 constructor
 · rintro ⟨x, h1, h2⟩; rw [Pos.beq_iff.1 h2]; exact h1
 · intro h; exact ⟨p, h, Pos.beq_iff.2 rfl⟩
theorem UO (hr : mg P nt ops as) (h : rY ops as = true) {i j : Nat} {d : Pos} (hi : ig as i = some d) (hj : ig as j = some d) : i = j := by
 unfold ig at hi hj
 cases dQ : as[i]? with
 | none => rw [dQ] at hi; cases hi
 | some ai =>
  cases ek : as[j]? with
  | none => rw [ek] at hj; cases hj
  | some aj =>
   have h1 := List.all_eq_true.1 h j (List.mem_range.2 (hr.lt ek))
   rw [hj] at h1
   have h2 := List.all_eq_true.1 h1 i (List.mem_range.2 (hr.lt dQ))
   simp only [dQ] at h2
   rw [dQ] at hi
   have du : ai.dst = some d := hi
   simp only [du, Bool.and_eq_true, Bool.or_eq_true, beq_iff_eq] at h2
   rcases h2.1 with h3 | h3
   · exact h3
   · rw [Pos.beq_iff.2 rfl] at h3; cases h3
theorem adZ (hr : mg P nt ops as) (h : rY ops as = true) {i j : Nat} {a : bh} {d : Pos} (hi : as[i]? = some a) (hd : d ∈ a.reads) (hj : ig as j = some d) : i = j ∨ j ∈ eI ops i ∨ i ∈ eI ops j := by
 cases ek : as[j]? with
 | none => unfold ig at hj; rw [ek] at hj; cases hj
 | some aj =>
  have h1 := List.all_eq_true.1 h j (List.mem_range.2 (hr.lt ek))
  unfold ig at hj
  rw [hj] at h1
  have h2 := List.all_eq_true.1 h1 i (List.mem_range.2 (hr.lt hi))
  simp only [hi, Bool.and_eq_true, Bool.or_eq_true, beq_iff_eq, UN.2 hd, Bool.not_true, Bool.false_eq_true, false_or, List.contains_iff_mem] at h2
  rcases h2.2 with (h3 | h3) | h3
  · exact .inl h3
  · exact .inr (.inl h3)
  · exact .inr (.inr h3)
theorem Mt (hr : mg P nt ops as) {i j : Nat} {a : bh} {d : Pos} (hi : as[i]? = some a) (hd : d ∈ a.reads) (hj : ig as j = some d) (hn : j ∉ eI ops i) : qj ops as j = true := by
 unfold ig at hj
 cases ek : as[j]? with
 | none => rw [ek] at hj; cases hj
 | some aj =>
  unfold qj
  rw [ek]
  have : Mu ops as j = true := by
   unfold Mu
   rw [hj]
   refine List.any_eq_true.2 ⟨i, List.mem_range.2 (hr.lt hi), ?_⟩
   simp only [hi, UN.2 hd, Bool.true_and, Bool.not_eq_true', List.contains_eq_mem, decide_eq_false_iff_not]
   exact hn
  simp [this]
theorem UP {j : Nat} (h : qj ops as j = false) : ∃ a d, as[j]? = some a ∧ a.act.tA = false ∧ a.dst = some d := by
 unfold qj at h
 cases ek : as[j]? with
 | none => rw [ek] at h; cases h
 | some a =>
  rw [ek] at h
  simp only [Bool.or_eq_false_iff] at h
  cases hd : a.dst with
  | none => rw [hd] at h; simp at h
  | some d => exact ⟨a, d, rfl, h.1.1, hd⟩
theorem ad0 {a : iI} (h : a.tA = false) : ∃ p, a = .aC p ∧ p.tA = false := by
 cases a with
 | aC p => exact ⟨p, rfl, h⟩
 | _ => cases h
inductive rZ (ops : Array Oper) : List Nat → Prop where
 | nil : rZ ops []
 | cons (i : Nat) (l : List Nat) (h1 : i ∉ l) (h2 : ∀ p ∈ eI ops i, p ∈ l) (hl : rZ ops l) : rZ ops (i :: l)
theorem rZ.closed {l : List Nat} (h : rZ ops l) : ∀ j ∈ l, ∀ p ∈ eI ops j, p ∈ l := by
 induction h with
 | nil => intro j hj; cases hj
 | cons i l h1 h2 hl ih =>
  intro j hj p hp
  rcases List.mem_cons.1 hj with rfl | hj
  · exact List.mem_cons_of_mem _ (h2 p hp)
  · exact List.mem_cons_of_mem _ (ih j hj p hp)
theorem rZ.first {l : List Nat} (h : rZ ops l) {u : Nat → Bool} : (∃ x ∈ l, u x = true) → ∃ r ∈ l, u r = true ∧ ∀ p ∈ eI ops r, u p = false := by
 induction h with
 | nil => rintro ⟨x, hx, _⟩; cases hx
 | cons i l h1 h2 hl ih =>
  rintro ⟨x, hx, hu⟩
  by_cases hex : ∃ y ∈ l, u y = true
  · obtain ⟨r, q1, q2, q3⟩ := ih hex
    exact ⟨r, List.mem_cons_of_mem _ q1, q2, q3⟩
  · rcases List.mem_cons.1 hx with rfl | hx
    · refine ⟨x, List.mem_cons_self, hu, fun p hp => ?_⟩
      cases hup : u p with
      | false => rfl
      | true => exact absurd ⟨p, h2 p hp, hup⟩ hex
    · exact absurd ⟨x, hx, hu⟩ hex
theorem ad1 {good : Nat → Prop} (hg : ∀ j, good j → ∀ p ∈ eI ops j, good p) : ∀ (done S : List Nat), (∀ j ∈ S, good j) → ∀ j ∈ tB ops S done, good j := by
 intro done
 induction done with
 | nil => intro S hS j hj; exact hS j hj
 | cons i done ih =>
  intro S hS j hj
  unfold tB at hj
  split at hj
  · rename_i hc
    have hi := hS i (by simpa using hc)
    exact ih _ (fun q hq => by
     rcases List.mem_append.1 hq with hq | hq
     · exact hg i hi q hq
     · exact hS q hq) j hj
  · exact ih _ hS j hj
theorem ad2 {e : Env} {s : St} {k : KS} {rec : Task → Bool} {r : List iJ} : ∀ {late : List Nat} {cs : List iJ}, Bi as late = some cs → nR rec (cs ++ r) e s k = true → (∀ j ∈ late, ∃ a, as[j]? = some a ∧ xT a s = true) ∧ nR rec r e s k = true := by
 intro late
 induction late with
 | nil => intro cs hc h; cases hc; exact ⟨fun j hj => (by cases hj), h⟩
 | cons j late ih =>
  intro cs hc h
  unfold Bi at hc
  split at hc
  · rename_i a r' ha hr
    cases hc
    obtain ⟨h1, h2⟩ := bT (show iff (xT a s) (nR rec (r' ++ r) e s k) = true from h)
    obtain ⟨h3, h4⟩ := ih hr h2
    refine ⟨fun i hi => ?_, h4⟩
    rcases List.mem_cons.1 hi with rfl | hi
    · exact ⟨a, ha, h1⟩
    · exact h3 i hi
  · cases hc
end
end Go.Ve
namespace Go.Ve
open Go.RowKit
section
variable {P : Program} {w0 w : World} {φ : au} {nt : Nat} {ops : Array Oper} {as : Array bh} {s : St} {b : Frame} {cs0 cs : List Frame} {a : Act} {o : Oper} {ao : bh} {d : Pos} {N : Nat}
inductive n3 (N : Nat) (s : St) (φ : au) (ao : bh) (d : Pos) : Prop where
 | off (h : lb ao.guard s.tm = false) (hu : s.tm.get d = undef)
 | val (p : Prim) (h : lb ao.guard s.tm = true) (ha : ao.act = .aC p) (qk : p.tA = false) (hm : p.makes = false) (v : Value) (hv : iQ v (s.tm.get d))
  (hd : ∀ h2 k2, ko s.h h2 → k2 v h2 = true → p.ev (ao.args.map (ie s.tm)) h2 k2 = true)
 | made (p : Prim) (h : lb ao.guard s.tm = true) (ha : ao.act = .aC p) (hm : p.makes = true) (f : Nat) (ty : TypeId) (l m : List Value) (c : NT Value) (hf : Bg p (ao.args.map (ie s.tm)) ty l)
  (hs : s.tm.get d = p.made f) (ho : s.h.ob.get f = some (.cells 0 l.length ty true c)) (hc : ∀ (j : Nat) (v : Value), m[j]? = some v → c.get j = some v) (tC : mV l m) (hlen : m.length = l.length) (hφ : φ f = none) (hn : f < s.h.nx) (hN : N ≤ f)
def r7 (s : St) (ao : bh) (d : Pos) (f : Nat) : Prop := ∃ p, ao.act = .aC p ∧ p.makes = true ∧ lb ao.guard s.tm = true ∧ s.tm.get d = p.made f
theorem UQ {p q : Prim} {f g : Nat} (h : p.made f = q.made g) : f = g := by
 unfold Prim.made al at h
 split at h <;> split at h <;> first | (cases h; rfl) | cases h
theorem ad3 {i : Nat} (hc : mQ P nt ops o = some ao) (hr : ∀ p ∈ ao.reads, VR φ (s.tm.get p) (a.tmps.getD p.un undef)) : Region.wanted o (yielded ops a.tmps) = lb ao.guard s.tm := by
  obtain ⟨act, xs, args, h1, h2, rfl, rfl, h4, h5⟩ := xD hc
  rcases h5 with ⟨g1, g2⟩ | ⟨g, want, t, g1, g2, g3⟩
  · rw [g2]; simp [Region.wanted, g1]; rfl
  · have hp : VR φ (s.tm.get (Pos.of t)) (a.tmps.getD t undef) := by
      have := hr (Pos.of t) (by unfold bh.reads; rw [g3]; simp)
      rw [Pos.kP] at this
      exact this
    rw [g3]
    cases hw : lb (some (Pos.of t, want)) s.tm with
    | true =>
      rcases KY (φ := φ) (yes := true) (no := false) g1 g2 hp hw with ⟨q, _⟩ | ⟨_, q⟩
      · exact q
      · cases q
    | false =>
      have lH : nP (some (Pos.of t, want)) s.tm false true = true := by rw [Mo, hw]; rfl
      rcases KY (φ := φ) g1 g2 hp lH with ⟨_, q⟩ | ⟨q, _⟩
      · cases q
      · exact q
theorem ad4 {xs : List Operand} {ys : List dB} (hm : xs.mapM nN = some ys) (hr : ∀ p, dB.t p ∈ ys → VR φ (s.tm.get p) (a.tmps.getD p.un undef)) : LR φ (ys.map (ie s.tm)) (xs.map a.eval) := by
 classical
 obtain ⟨vs, h1, h2⟩ := Te (a := a) (s := s) (φ := φ) (k := fun vs => decide (vs = ys.map (ie s.tm))) hm hr (by rw [xU]; simp)
 have : vs = ys.map (ie s.tm) := by simpa using h2
 rw [← this]; exact h1
theorem ad5 {i : Nat} {rest : List Nat} {todo : List Item} (hc : mQ P nt ops o = some ao) (ho : ops[i]? = some o) (hr : ∀ p ∈ ao.reads, VR φ (s.tm.get p) (a.tmps.getD p.un undef)) (H : HR P w0 φ s.h w) (hp : n3 N s φ ao d) :
 ∃ v' w' φ', Steps P (lone (b.atR a (.inRegion ops (i :: rest) :: todo)) cs w) (lone (b.atR (a.put o.dst v') (.inRegion ops rest :: todo)) cs w') ∧ VR φ' (s.tm.get d) v' ∧ HR P w0 φ' s.h w' ∧ (N ≤ s.h.nx → Ext N φ φ') ∧
  (∀ f, f < s.h.nx → φ f = none → ¬ r7 s ao d f → φ' f = none) := by
 classical
 have hg := ad3 (i := i) hc hr
 obtain ⟨act, xs, args, h1, h2, rfl, rfl, h4, h5⟩ := xD hc
 have ju : LR φ (ao.args.map (ie s.tm)) (xs.map a.eval) := ad4 h2 fun p hp => hr p (by
  unfold bh.reads
  exact List.mem_append_left _ (List.mem_filterMap.2 ⟨.t p, hp, rfl⟩))
 cases hp with
 | off hw hu =>
  rw [hw] at hg
  refine ⟨undef, w, φ, .one ?_, by rw [hu]; exact VR.undef φ, H, fun _ => Ext.refl _ _, fun f _ h _ => h⟩
  have := stepR_op_skip (P := P) (b := b) (a := a) (k := todo) (cs := cs) (w := w) (ops := ops) (i := i) (rest := rest) (by simp [ho, hg])
  rw [ho] at this
  exact this
 | val p hw ha qk hm v hv hd =>
  rw [hw] at hg
  rw [ha] at h1
  rcases h1 with h1 | ⟨h1, _⟩
  rotate_left
  · cases h1; cases qk
  obtain ⟨v', w', u, h', φ', q1, q2, q3, q4, q5, q6⟩ := SP (fun _ => rfl) h1 H ju (hd s.h (fun u h' => decide (u = v ∧ h' = s.h)) (ko.refl _) (by simp))
  obtain ⟨rfl, rfl⟩ : u = v ∧ h' = s.h := by simpa using q2
  refine ⟨v', w', φ', ?_, (hv _ _).1 q5, q6, fun hN => q3.mono hN, fun f hf h _ => q3.out f hf h⟩
  have hs := rM (b := b) (a := a) (KR h1)
  rcases q1 with q1 | ⟨q1, rfl⟩
  · exact .one (KO ho hg (by rw [hs]; exact q1))
  · exact .one (S5 ho hg (by rw [hs]; exact q1))
 | made p hw ha hm f ty l m c hf FJ hob Mv tC hlen hφ hn hN =>
  rw [hw] at hg
  rw [ha] at h1
  rcases h1 with h1 | ⟨h1, _⟩
  rotate_left
  · cases h1; cases hm
  obtain ⟨l', fR, bP⟩ := adU (w := w) h1 hm ju hf
  have r8 : LR φ m l' := (tC _ _).1 fR
  have alP : l.length = l'.length := fR.length
  obtain ⟨H2, hE⟩ := H.newAt (f := f) (h' := s.h) (o' := .cells l'.toArray ty) (d := 0) (n := l'.length) hφ hob (fun _ _ _ => rfl) H.fresh H.top hn N hN (.cells _ _ _ _ _ _ _ _ _ (fun _ => rfl) (Nat.le_refl _) (by simp) fun q _ hq => by
   have UR : q < m.length := by omega
   obtain ⟨u, hu, hru⟩ := LR.get r8 q _ (List.getElem?_eq_getElem UR)
   exact ⟨m[q], u, Mv q _ (List.getElem?_eq_getElem UR), by simpa using hu, hru⟩)
  refine ⟨p.made w.heap.size, _, _, .one (KO ho hg (by rw [rM (KR h1)]; exact bP)), ?_, H2, fun _ => hE, fun g oV h cL => ?_⟩
  · rw [FJ]; exact adV h1 hm _ _ _
  · have : g ≠ f := fun e => cL ⟨p, ha, hm, hw, by rw [e]; exact FJ⟩
    rw [au.gS _ _ this]; exact h
end
end Go.Ve
namespace Go.Ve
open Go.RowKit
section
variable {P : Program} {w0 w : World} {φ : au} {nt : Nat} {ops : Array Oper} {as : Array bh} {s : St} {b : Frame} {cs0 cs : List Frame} {a : Act} {N : Nat} {done dC : List Nat} {L : Array Bool}
structure Inv (P : Program) (w0 : World) (N nt : Nat) (ops : Array Oper) (as : Array bh) (b : Frame) (cs0 : List Frame) (done dC : List Nat) (L : Array Bool) (φ : au) (s : St) (cs : List Frame) (a : Act) (w : World) : Prop where
 size : L.size = ops.size
 sub : ∀ j, L.getD j false = true → j ∈ done
 late : ∀ j ∈ done, L.getD j false = false → j ∈ dC
 xV : ∀ j ∈ dC, qj ops as j = false ∧ j ∈ done
 closed : ∀ j, L.getD j false = true → ∀ p ∈ eI ops j, L.getD p false = true
 vO : rZ ops done
 lt : ∀ j ∈ done, j < ops.size
 sq : SQ P w0 φ s b cs0 cs a w
 tD : nt ≤ a.tmps.size
 xW : ∀ p : Pos, (∀ j ∈ done, L.getD j false = false → ig as j ≠ some p) → VR φ (s.tm.get p) (a.tmps.getD p.un undef)
 prom : ∀ j ∈ done, L.getD j false = false → ∀ (ao : bh) (d : Pos), as[j]? = some ao → ao.dst = some d → n3 N s φ ao d
 FK : ∀ i ∈ done, ∀ j ∈ done, L.getD i false = false → L.getD j false = false → i ≠ j → ∀ (ao Bh : bh) (d d' : Pos) (f : Nat), as[i]? = some ao → as[j]? = some Bh → ao.dst = some d → Bh.dst = some d' → r7 s ao d f → r7 s Bh d' f → False
 nx : N ≤ s.h.nx
theorem Inv.reads (I : Inv P w0 N nt ops as b cs0 done dC L φ s cs a w) (hr : mg P nt ops as) (hs : rY ops as = true) {i : Nat} {ao : bh} (hi : as[i]? = some ao) (hb : ∀ p ∈ eI ops i, L.getD p false = true) (lI : i ∈ done → qj ops as i = false) (p : Pos) (hp : p ∈ ao.reads) :
 VR φ (s.tm.get p) (a.tmps.getD p.un undef) := by
 refine I.xW p fun j hj jV nQ => ?_
 by_cases US : j ∈ eI ops i
 · rw [hb j US] at jV; cases jV
 · have UT := Mt hr hi hp nQ US
   rw [(I.xV j (I.late j hj jV)).1] at UT
   cases UT
theorem Mw (L : Array Bool) (i j : Nat) (hi : i < L.size) : (L.setIfInBounds i true).getD j false = if j = i then true else L.getD j false := by
 by_cases h : j = i
 · subst h; simp [hi]
 · rw [if_neg h]; exact getD_set_ne false (Ne.symm h)
theorem n3.ext {N : Nat} {φ' : au} {ao : bh} {d : Pos} (h : n3 N s φ ao d) (hE : ∀ f, f < s.h.nx → φ f = none → r7 s ao d f → φ' f = none) : n3 N s φ' ao d := by
 cases h with
 | off h hu => exact .off h hu
 | val p h ha qk hm v hv hd => exact .val p h ha qk hm v hv hd
 | made p h ha hm f ty l m c hf hs ho hc tC hlen hφ hn hN => exact .made p h ha hm f ty l m c hf hs ho hc tC hlen (hE f hn hφ ⟨p, ha, hm, h, hs⟩) hn hN
theorem Inv.exec (I : Inv P w0 N nt ops as b cs0 done dC L φ s cs a w) (hr : mg P nt ops as) (hs : rY ops as = true) {i : Nat} (hi : i ∈ done) (jV : L.getD i false = false) (hb : ∀ p ∈ eI ops i, L.getD p false = true) {rest : List Nat} {todo : List Item} :
 ∃ φ' a' w', Steps P (lone (b.atR a (.inRegion ops (i :: rest) :: todo)) cs w) (lone (b.atR a' (.inRegion ops rest :: todo)) cs w') ∧ Ext N φ φ' ∧ Inv P w0 N nt ops as b cs0 done dC (L.setIfInBounds i true) φ' s cs a' w' := by
 have bC := I.lt i hi
 have lI := (I.xV i (I.late i hi jV)).1
 obtain ⟨ao, d, dQ, UU, hd⟩ := UP lI
 obtain ⟨o, ho, hc⟩ := hr.op dQ
 have hP := I.prom i hi jV ao d dQ hd
 obtain ⟨v', w', φ', h1, h2, h3, h4, h5⟩ := ad5 (b := b) (cs := cs) (rest := rest) (todo := todo) hc ho (I.reads hr hs dQ hb (fun _ => lI)) I.sq.heap hP
 have hE := h4 I.nx
 obtain ⟨act, xs, args, e1, e2, e3, e4, e5, e6⟩ := xD hc
 obtain ⟨dn, Ax, FL, mW⟩ : ∃ dn, o.dst = some dn ∧ dn < nt ∧ d = Pos.of dn := by
  rcases e5 with ⟨_, q⟩ | ⟨dn, q1, q2, q3⟩
  · rw [q] at hd; cases hd
  · rw [q3] at hd; cases hd; exact ⟨dn, q1, q2, rfl⟩
 have UW : d.un = dn := by rw [mW, Pos.kP]
 have nQ : ig as i = some d := by unfold ig; rw [dQ]; exact hd
 have bV := fun j => Mw L i j (by rw [I.size]; exact bC)
 refine ⟨φ', a.put o.dst v', w', h1, hE, ?_⟩
 refine ⟨by simp [I.size], ?_, ?_, I.xV, ?_, I.vO, I.lt, ⟨by rw [Act.E0]; exact I.sq.df.ext hE, I.sq.rc.ext hE, h3⟩, by rw [Ax]; simpa [Act.put] using I.tD, ?_, ?_, ?_, I.nx⟩
 · intro j hj
   rw [bV] at hj
   split at hj
   · rename_i e; rw [e]; exact hi
   · exact I.sub j hj
 · intro j hj hu
   rw [bV] at hu
   split at hu
   · cases hu
   · exact I.late j hj hu
 · intro j hj p hp
   rw [bV] at hj ⊢
   split at hj
   · rename_i e
     subst e
     split
     · rfl
     · exact hb p hp
   · split
     · rfl
     · exact I.closed j hj p hp
 · intro p hp
   rw [Ax]
   by_cases mh : p = d
   · subst mh
     have eB : dn < a.tmps.size := Nat.lt_of_lt_of_le FL I.tD
     have : (a.put (some dn) v').tmps.getD p.un undef = v' := by rw [UW]; simp [Act.put, eB]
     rw [this]; exact h2
   · have cL : dn ≠ p.un := fun e => mh (Pos.sX (by rw [UW, e]))
     have : (a.put (some dn) v').tmps.getD p.un undef = a.tmps.getD p.un undef := by
      simp [Act.put, Array.getD_eq_getD_getElem?, Array.getElem?_setIfInBounds_ne cL]
     rw [this]
     refine VR.ext hE (I.xW p fun j hj hu => ?_)
     by_cases Bj : j = i
     · rw [Bj, nQ]; intro e; cases e; exact mh rfl
     · exact hp j hj (by rw [bV, if_neg Bj]; exact hu)
 · intro j hj hu aj dj ek jd
   rw [bV] at hu
   split at hu
   · cases hu
   · rename_i cL
     exact (I.prom j hj hu aj dj ek jd).ext fun f hf hn hM => h5 f hf hn fun hM' => I.FK j hj i hi hu jV cL aj ao dj d f ek dQ jd hd hM hM'
 · intro i1 Bk j1 Bl mX ke cL
   rw [bV] at mX ke
   split at mX
   · cases mX
   · split at ke
     · cases ke
     · exact I.FK i1 Bk j1 Bl mX ke cL
end
end Go.Ve
namespace Go.Ve
open Go.RowKit
section
variable {P : Program} {w0 w : World} {φ : au} {nt : Nat} {ops : Array Oper} {as : Array bh} {s : St} {b : Frame} {cs0 cs : List Frame} {a : Act} {N : Nat} {done dC : List Nat} {L : Array Bool}
theorem xX {ao : bh} {t t' : PT} (h : ∀ p ∈ ao.reads, t.get p = t'.get p) : lb ao.guard t = lb ao.guard t' := by
 cases hg : ao.guard with
 | none => rfl
 | some pw =>
  obtain ⟨p, want⟩ := pw
  have := h p (by unfold bh.reads; rw [hg]; simp)
  show PT.dr p t _ = PT.dr p t' _
  rw [PT.jw, PT.jw, this]
theorem FM {ao : bh} {t t' : PT} (h : ∀ p ∈ ao.reads, t.get p = t'.get p) : ao.args.map (ie t) = ao.args.map (ie t') := by
 refine List.map_congr_left fun x hx => ?_
 cases x with
 | c v => rfl
 | t p => exact h p (by unfold bh.reads; exact List.mem_append_left _ (List.mem_filterMap.2 ⟨.t p, hx, rfl⟩))
theorem n3.state {ao : bh} {d : Pos} {s' : St} (h : n3 N s φ ao d) (hr : ∀ p ∈ ao.reads, s.tm.get p = s'.tm.get p) (hd : s.tm.get d = s'.tm.get d) (hle : ko s.h s'.h) (iN : s.h.nx ≤ s'.h.nx) : n3 N s' φ ao d := by
 have h1 := xX hr
 have h2 := FM hr
 cases h with
 | off h hu => exact .off (h1 ▸ h) (hd ▸ hu)
 | val p h ha qk hm v hv Mx => exact .val p (h1 ▸ h) ha qk hm v (hd ▸ hv) (fun hh k2 hl hk => h2 ▸ Mx hh k2 (hle.trans hl) hk)
 | made p h ha hm f ty l m c hf hs ho hc tC hlen hφ hn hN => exact .made p (h1 ▸ h) ha hm f ty l m c (h2 ▸ hf) (hd ▸ hs) (hle _ _ ho) hc tC hlen hφ (Nat.lt_of_lt_of_le hn iN) hN
theorem r7.state {ao : bh} {d : Pos} {f : Nat} {s' : St} (h : r7 s' ao d f) (hr : ∀ p ∈ ao.reads, s.tm.get p = s'.tm.get p) (hd : s.tm.get d = s'.tm.get d) : r7 s ao d f := by
 obtain ⟨p, h1, h2, h3, h4⟩ := h
 exact ⟨p, h1, h2, by rw [xX hr]; exact h3, by rw [hd]; exact h4⟩
theorem Inv.grow (I : Inv P w0 N nt ops as b cs0 done dC L φ s cs a w) (hr : mg P nt ops as) (hs : rY ops as = true) {i : Nat} {ao : bh} {d : Pos} (hid : i ∉ done) (hb : ∀ p ∈ eI ops i, p ∈ done) (dQ : as[i]? = some ao) (hd : ao.dst = some d) (lI : qj ops as i = false)
    {s' : St} {v : Value} (dP : s'.tm = s.tm.set d v) (tq : s'.df = s.df) (jN : s'.rc = s.rc) (H : HR P w0 φ s'.h w) (hle : ko s.h s'.h) (iN : s.h.nx ≤ s'.h.nx) (hP : n3 N s' φ ao d) (hM : ∀ f, r7 s' ao d f → s.h.nx ≤ f) :
    Inv P w0 N nt ops as b cs0 (i :: done) (i :: dC) L φ s' cs a w := by
  have nQ : ig as i = some d := by unfold ig; rw [dQ]; exact hd
  have jV : L.getD i false = false := by
    cases h : L.getD i false with
    | false => rfl
    | true => exact absurd (I.sub i h) hid
  have get : ∀ p, p ≠ d → s.tm.get p = s'.tm.get p := fun p hp => by rw [dP, PT.cZ, if_neg hp]
  have tE : ∀ j ∈ done, ∀ aj : bh, as[j]? = some aj → ∀ p ∈ aj.reads, s.tm.get p = s'.tm.get p := fun j hj aj ek p hp => get p fun e => by
    subst e
    by_cases FN : i ∈ eI ops j
    · exact hid (I.vO.closed j hj i FN)
    · have := Mt hr ek hp nQ FN
      rw [lI] at this; cases this
  have tF : ∀ j ∈ done, ∀ (aj : bh) (dj : Pos), as[j]? = some aj → aj.dst = some dj → s.tm.get dj = s'.tm.get dj := fun j hj aj dj ek jd => get dj fun e => by
    subst e
    have My : ig as j = some dj := by unfold ig; rw [ek]; exact jd
    have := UO hr hs My nQ
    subst this
    exact hid hj
  refine ⟨I.size, fun j hj => List.mem_cons_of_mem _ (I.sub j hj), ?_, ?_, I.closed, .cons _ _ hid hb I.vO, ?_, ⟨tq ▸ I.sq.df, jN ▸ I.sq.rc, H⟩, I.tD, ?_, ?_, ?_, Nat.le_trans I.nx iN⟩
  · intro j hj hu
    rcases List.mem_cons.1 hj with rfl | hj
    · exact List.mem_cons_self
    · exact List.mem_cons_of_mem _ (I.late j hj hu)
  · intro j hj
    rcases List.mem_cons.1 hj with rfl | hj
    · exact ⟨lI, List.mem_cons_self⟩
    · exact ⟨(I.xV j hj).1, List.mem_cons_of_mem _ (I.xV j hj).2⟩
  · intro j hj
    rcases List.mem_cons.1 hj with rfl | hj
    · exact hr.lt dQ
    · exact I.lt j hj
  · intro p hp
    have mh : p ≠ d := fun e => hp i List.mem_cons_self jV (by rw [e]; exact nQ)
    rw [← get p mh]
    exact I.xW p fun j hj hu => hp j (List.mem_cons_of_mem _ hj) hu
  · intro j hj hu aj dj ek jd
    rcases List.mem_cons.1 hj with rfl | hj
    · rw [dQ] at ek; cases ek
      rw [hd] at jd; cases jd
      exact hP
    · exact (I.prom j hj hu aj dj ek jd).state (tE j hj aj ek) (tF j hj aj dj ek jd) hle iN
  · have old : ∀ j ∈ done, L.getD j false = false → ∀ (aj : bh) (dj : Pos) (f : Nat), as[j]? = some aj → aj.dst = some dj → r7 s' aj dj f → f < s.h.nx := by
      intro j hj hu aj dj f ek jd hm
      obtain ⟨p, q1, q2, q3, q4⟩ := hm.state (tE j hj aj ek) (tF j hj aj dj ek jd)
      cases I.prom j hj hu aj dj ek jd with
      | off h hu => rw [q3] at h; cases h
      | val p' h ha qk hm v hv Mx => rw [ha] at q1; cases q1; rw [hm] at q2; cases q2
      | made p' h ha hm f' ty l m c hf FJ ho hc tC hlen hφ hn hN => rw [FJ] at q4; rw [← UQ q4]; exact hn
    intro i1 Bk j1 Bl mX ke cL a1 a2 d1 d2 f h1 h2 h3 h4 m1 m2
    rcases List.mem_cons.1 Bk with rfl | eY <;> rcases List.mem_cons.1 Bl with rfl | ql
    · exact cL rfl
    · rw [dQ] at h1; cases h1
      rw [hd] at h3; cases h3
      have q1 := hM f m1
      have q2 := old j1 ql ke a2 d2 f h2 h4 m2
      omega
    · rw [dQ] at h2; cases h2
      rw [hd] at h4; cases h4
      have q1 := hM f m2
      have q2 := old i1 eY mX a1 d1 f h1 h3 m1
      omega
    · exact I.FK i1 eY j1 ql mX ke cL a1 a2 d1 d2 f h1 h2 h3 h4 (m1.state (tE i1 eY a1 h1) (tF i1 eY a1 d1 h1 h3)) (m2.state (tE j1 ql a2 h2) (tF j1 ql a2 d2 h2 h4))
end
end Go.Ve
namespace Go.Ve
open Go.RowKit
section
variable {P : Program} {w0 w : World} {φ : au} {nt : Nat} {ops : Array Oper} {as : Array bh} {s : St} {b : Frame} {cs0 cs : List Frame} {a : Act} {N : Nat} {done dC : List Nat} {L : Array Bool}
theorem HR.spare {h : AH} (H : HR P w0 φ h w) {o : AO} {aU : NT AO} (hs : h.ob.im h.nx (some o) aU) : HR P w0 φ ⟨h.nx + 1, aU⟩ w := by
 have cL : ∀ f, φ f ≠ none → f ≠ h.nx := fun f hf e => hf (by rw [e]; exact H.fresh _ (Nat.le_refl _))
 refine ⟨H.inj, fun f hf => H.fresh f (by have : h.nx + 1 ≤ f := hf; omega), fun f hf => ?_, fun f hf => ?_, fun f bl d n hf => ?_, H.below⟩
 · have : h.nx + 1 ≤ f := hf
   show aU.get f = none
   rw [hs.2 f (by omega)]; exact H.top f (by omega)
 · show aU.get f = none
   rw [hs.2 f (cL f (by rw [hf]; simp))]; exact H.dead f hf
 · obtain ⟨o1, o2, q1, q2⟩ := H.obj f bl d n hf
   exact ⟨o1, o2, by show aU.get f = some o1; rw [hs.2 f (cL f (by rw [hf]; simp))]; exact q1, q2⟩
theorem ko.spare {h : AH} (H : HR P w0 φ h w) {o : AO} {aU : NT AO} (hs : h.ob.im h.nx (some o) aU) : ko h ⟨h.nx + 1, aU⟩ := fun f o1 ho => by
 have : f ≠ h.nx := fun e => by rw [e, H.top _ (Nat.le_refl _)] at ho; cases ho
 show aU.get f = some o1
 rw [hs.2 f this]; exact ho
theorem Inv.UX (I : Inv P w0 N nt ops as b cs0 done dC L φ s cs a w) (hr : mg P nt ops as) (hs : rY ops as = true) {i : Nat} {ao : bh} (hid : i ∉ done) (hb : ∀ p ∈ eI ops i, p ∈ done) (dQ : as[i]? = some ao) (lI : qj ops as i = false)
 {rec : Task → Bool} {e : Env} {fail : KS} {k : St → Bool} (h : tp rec ao e s fail k = true) : ∃ s', k s' = true ∧ Inv P w0 N nt ops as b cs0 (i :: done) (i :: dC) L φ s' cs a w ∧ s.h.nx ≤ s'.h.nx := by
 obtain ⟨Bh, d, UY, UU, hd⟩ := UP lI
 rw [dQ] at UY; cases UY
 obtain ⟨p, hp, UZ⟩ := ad0 UU
 have nQ : ig as i = some d := by unfold ig; rw [dQ]; exact hd
 have ad6 : d ∉ ao.reads := fun hm => by
  have FN : i ∉ eI ops i := fun h => hid (hb i h)
  have := Mt hr dQ hm nQ FN
  rw [lI] at this; cases this
 have h1 : (bif lb ao.guard s.tm then p.ev (ao.args.map (ie s.tm)) s.h (fun v h => gP (some d) s v h k) else gP (some d) s undef s.h k) = true := by
  have h' : nP ao.guard s.tm (nO ao.args s.tm (xE rec ao.act ao.dst e s fail k)) (gP ao.dst s undef s.h k) = true := by cases ao; exact h
  rw [Mo, xU, hd, hp] at h'
  exact h'
 have cj : ∀ (v : Value) (q : Pos), q ∈ ao.reads → (s.tm.set d v).get q = s.tm.get q := fun v q hq => by rw [PT.cZ, if_neg (fun e => ad6 (by rw [← e]; exact hq))]
 cases hw : lb ao.guard s.tm with
 | false =>
  rw [hw] at h1
  have h2 : gP (some d) s undef s.h k = true := h1
  rw [Bf] at h2
  have lH : lb ao.guard (s.tm.set d undef) = false := by rw [xX (cj undef)]; exact hw
  refine ⟨_, h2, I.grow hr hs hid hb dQ hd lI (v := undef) rfl rfl rfl I.sq.heap (ko.refl _) (Nat.le_refl _) (.off lH (by simp [PT.cZ])) (fun f hm => ?_), Nat.le_refl _⟩
  obtain ⟨_, _, _, q3, _⟩ := hm
  have ti : lb ao.guard (s.tm.set d undef) = true := q3
  rw [lH] at ti; cases ti
 | true =>
  rw [hw] at h1
  have h2 : p.ev (ao.args.map (ie s.tm)) s.h (fun v h => gP (some d) s v h k) = true := h1
  cases hm : p.makes with
  | false =>
   obtain ⟨v, h3, h4⟩ := UG p UZ hm _ _ _ h2
   rw [Bf] at h3
   have lH : lb ao.guard (s.tm.set d v) = true := by rw [xX (cj v)]; exact hw
   refine ⟨_, h3, I.grow hr hs hid hb dQ hd lI (v := v) rfl rfl rfl I.sq.heap (ko.refl _) (Nat.le_refl _) (.val p lH hp UZ hm v (by simp [PT.cZ]; exact iQ.refl v) (fun hh k2 hl hk => ?_)) (fun f Bm => ?_), Nat.le_refl _⟩
   · show p.ev (ao.args.map (ie (s.tm.set d v))) hh k2 = true
     rw [FM (cj v)]
     exact h4 hh k2 hl hk
   · obtain ⟨p', q1, q2, _, _⟩ := Bm
     rw [hp] at q1; cases q1
     rw [hm] at q2; cases q2
  | true =>
   obtain ⟨ty, l, c, aU, h3, h4, h5, h6, h7⟩ := adT hm h2
   rw [Bf] at h7
   have lH : lb ao.guard (s.tm.set d (p.made s.h.nx)) = true := by rw [xX (cj _)]; exact hw
   refine ⟨_, h7, I.grow hr hs hid hb dQ hd lI (v := p.made s.h.nx) rfl rfl rfl (I.sq.heap.spare h6) (ko.spare I.sq.heap h6) (Nat.le_succ _) (.made p lH hp hm s.h.nx ty l l c ?_ (by simp [PT.cZ]) h6.1 h5 (mV.refl l) rfl (I.sq.heap.fresh _ (Nat.le_refl _)) (Nat.lt_succ_self _) I.nx) (fun f Bm => ?_), Nat.le_succ _⟩
   · show Bg p (ao.args.map (ie (s.tm.set d (p.made s.h.nx)))) ty l
     rw [FM (cj _)]; exact h3
   · obtain ⟨p', q1, q2, _, q4⟩ := Bm
     have EO : (s.tm.set d (p.made s.h.nx)).get d = p'.made f := q4
     rw [PT.cZ, if_pos rfl] at EO
     rw [← UQ EO]
     exact Nat.le_refl _
end
end Go.Ve
namespace Go.Ve
open Go.RowKit
section
variable {P : Program} {w0 w : World} {φ : au} {nt : Nat} {ops : Array Oper} {as : Array bh} {s : St} {b : Frame} {cs0 cs : List Frame} {a : Act} {N : Nat} {done dC : List Nat} {L : Array Bool}
theorem n3.iX {ao : bh} {d : Pos} {s' : St} {φ' : au} (h : n3 N s φ ao d) (kW : ao.dst = some d) (hr : ∀ p ∈ ao.reads, s.tm.get p = s'.tm.get p) (hd : s.tm.get d = s'.tm.get d) (hE : Ext s.h.nx φ φ') (iN : s.h.nx ≤ s'.h.nx) (hc : xT ao s' = true) : n3 N s' φ' ao d := by
 have h1 := xX hr
 have h2 := FM hr
 have fk : (bif lb ao.guard s'.tm then (iI.casesOn (motive := fun _ => Bool) ao.act (Ba ao.dst s' (ao.args.map (ie s'.tm))) mf false false false false) else true) = true := by
  have h' : nP ao.guard s'.tm (nO ao.args s'.tm fun vs => iI.casesOn (motive := fun _ => Bool) ao.act (Ba ao.dst s' vs) mf false false false false) true = true := by cases ao; exact hc
  rw [Mo, xU] at h'
  exact h'
 cases h with
 | off h hu => exact .off (h1 ▸ h) (hd ▸ hu)
 | val p h ha qk hm v hv Mx =>
  rw [h1] at h
  rw [h, ha, kW] at fk
  have xY : PT.dr d s'.tm (fun v => bif p.makes then p.fresh (ao.args.map (ie s'.tm)) (vK s' v) else p.ev (ao.args.map (ie s'.tm)) s'.h (A9 v)) = true := fk
  rw [PT.jw, hm] at xY
  obtain ⟨u, q1, q2⟩ := UG p qk hm _ _ _ (show p.ev (ao.args.map (ie s'.tm)) s'.h (A9 (s'.tm.get d)) = true from xY)
  exact .val p h ha qk hm u (adR q1) q2
 | made p h ha hm f ty l m c hf hs ho oW tC hlen hφ hn hN =>
  rw [h1] at h
  rw [h, ha, kW] at fk
  have xY : PT.dr d s'.tm (fun v => bif p.makes then p.fresh (ao.args.map (ie s'.tm)) (vK s' v) else p.ev (ao.args.map (ie s'.tm)) s'.h (A9 v)) = true := fk
  rw [PT.jw, hm] at xY
  obtain ⟨cf, l', q1, q2⟩ := adS (show p.fresh (ao.args.map (ie s'.tm)) (vK s' (s'.tm.get d)) = true from xY)
  rw [← hd, hs] at q1
  have U0 : Me (p.made f) (fun b => kZ s'.h b fun lo hi ad7 rw c => iff (rw && Nat.beq lo 0 && Nat.beq hi l'.length && Nat.beq cf ad7) (nX c 0 l'.length fun m => vJ m l')) = true := q1
  rw [adW] at U0
  obtain ⟨lo, hi, ty2, rw2, c2, u1, u2⟩ := r9 U0
  obtain ⟨u3, u4⟩ := bT u2
  obtain ⟨m', u5, u6, u7⟩ := FO _ u4
  simp only [Bool.and_eq_true, Nat.beq_eq] at u3
  obtain ⟨⟨⟨e1, e2⟩, e3⟩, e4⟩ := u3
  subst e1; subst e2; subst e3; subst e4
  exact .made p h ha hm f cf l' m' c2 q2 (hd ▸ hs) u1 (fun j v hj => by have := u7 j v hj; rwa [Nat.zero_add] at this) (fun φ x => (FH u5 φ x).symm) u6 (hE.out f hn hφ) (Nat.lt_of_lt_of_le hn iN) hN
end
end Go.Ve
namespace Go.Ve
open Go.RowKit
section
variable {P : Program} {w0 w : World} {φ : au} {ops : Array Oper} {as : Array bh} {s : St} {e : Env} {b : Frame} {cs0 cs : List Frame} {a : Act} {N : Nat} {done dC : List Nat} {L : Array Bool}
theorem Inv.act (I : Inv P w0 N e.nt ops as b cs0 done dC L φ s cs a w) (hr : mg P e.nt ops as) (hs : rY ops as = true) (he : lF φ e b) {rec : Task → Bool} (cz : ∀ t, rec t = true → dk P w0 t) {i : Nat} {ao : bh} (hid : i ∉ done) (dQ : as[i]? = some ao) (oX : ∀ p ∈ eI ops i, L.getD p false = true)
 {k : KS} {late : List Nat} (U5 : ∀ j ∈ dC, L.getD j false = false → j ∈ late) (U6 : ∀ j ∈ late, j ∈ dC) {iX r : List iJ} (MB : Bi as late = some iX) (h : tp rec ao e s k (fun s => nR rec (iX ++ r) e s k) = true) {rest : List Nat} {todo : List Item} :
 (∃ φ' s' cd a' w', nR rec r e s' k = true ∧ Ext N φ φ' ∧ Inv P w0 N e.nt ops as b cs0 (i :: done) late (L.setIfInBounds i true) φ' s' cd a' w' ∧ Steps P (lone (b.atR a (.inRegion ops (i :: rest) :: todo)) cs w) (lone (b.atR a' (.inRegion ops rest :: todo)) cd w')) ∨
 iu P w0 φ N e b cs0 (lone (b.atR a (.inRegion ops (i :: rest) :: todo)) cs w) todo k := by
 obtain ⟨o, ho, hc⟩ := hr.op dQ
 have bC := hr.lt dQ
 rcases Tf (rest := rest) (todo := todo) cz hc ho I.sq he (I.reads hr hs dQ oX fun hi => absurd hi hid) h with ⟨v, v', s1, φ', w', cd, jc, h1, h2, h3, h4, h5, h6, h7⟩ | ⟨v, v', s1, φ', w', h1, h3, h4, h5, h6, h7⟩
 · left
   rw [Bf] at h1
   obtain ⟨ad9, hk⟩ := ad2 MB h1
   obtain ⟨act, xs, args, e1, e2, e3, e4, e5, e6⟩ := xD hc
   have bV := fun j => Mw L i j (by rw [I.size]; exact bC)
   have hb : ∀ p ∈ eI ops i, p ∈ done := fun p hp => I.sub p (oX p hp)
   have jV : L.getD i false = false := by
    cases hh : L.getD i false with
    | false => rfl
    | true => exact absurd (I.sub i hh) hid
   have get : ∀ p, ao.dst ≠ some p → s.tm.get p = (match ao.dst with | none => s1.tm | some q => s1.tm.set q v).get p := by
    intro p hp
    cases hd : ao.dst with
    | none => simp only; rw [h2]
    | some q =>
     simp only
     rw [PT.cZ, if_neg (fun e => hp (by rw [hd, e])), h2]
   have tE : ∀ j ∈ done, L.getD j false = false → ∀ aj : bh, as[j]? = some aj → ∀ p ∈ aj.reads, ao.dst ≠ some p := fun j hj hu aj ek p hp hd => by
    have MC : ig as i = some p := by unfold ig; rw [dQ]; exact hd
    rcases adZ hr hs ek hp MC with rfl | h | h
    · exact hid hj
    · exact hid (I.vO.closed j hj i h)
    · rw [oX j h] at hu; cases hu
   have tF : ∀ j ∈ done, ∀ (aj : bh) (dj : Pos), as[j]? = some aj → aj.dst = some dj → ao.dst ≠ some dj := fun j hj aj dj ek jd hd => by
    have MC : ig as i = some dj := by unfold ig; rw [dQ]; exact hd
    have My : ig as j = some dj := by unfold ig; rw [ek]; exact jd
    have := UO hr hs My MC
    subst this
    exact hid hj
   refine ⟨φ', _, cd, _, w', hk, h3.mono I.nx, ?_, h7⟩
   refine ⟨by simp [I.size], ?_, ?_, ?_, ?_, .cons _ _ hid hb I.vO, ?_, ⟨by rw [Act.E0]; exact h6.df, h6.rc, h6.heap⟩, ?_, ?_, ?_, ?_, Nat.le_trans I.nx h4⟩
   · intro j hj
     rw [bV] at hj
     split at hj
     · rename_i e; rw [e]; exact List.mem_cons_self
     · exact List.mem_cons_of_mem _ (I.sub j hj)
   · intro j hj hu
     rw [bV] at hu
     split at hu
     · cases hu
     · rename_i cL
       rcases List.mem_cons.1 hj with hj | hj
       · exact absurd hj cL
       · exact U5 j (I.late j hj hu) hu
   · intro j hj
     have := I.xV j (U6 j hj)
     exact ⟨this.1, List.mem_cons_of_mem _ this.2⟩
   · intro j hj p hp
     rw [bV] at hj ⊢
     split at hj
     · rename_i e
       subst e
       split
       · rfl
       · exact oX p hp
     · split
       · rfl
       · exact I.closed j hj p hp
   · intro j hj
     rcases List.mem_cons.1 hj with rfl | hj
     · exact bC
     · exact I.lt j hj
   · rcases e5 with ⟨q1, _⟩ | ⟨dn, q1, _, _⟩
     · rw [q1]; exact I.tD
     · rw [q1]; simpa [Act.put] using I.tD
   · intro p hp
     have hold : ao.dst ≠ some p → VR φ' (s.tm.get p) (a.tmps.getD p.un undef) := fun mh => VR.ext h3 (I.xW p fun j hj hu jd => by
      by_cases Bj : j = i
      · subst Bj; exact hid hj
      · exact hp j (List.mem_cons_of_mem _ hj) (by rw [bV, if_neg Bj]; exact hu) jd)
     by_cases mh : ao.dst = some p
     · rcases e5 with ⟨_, q2⟩ | ⟨dn, q1, FL, q3⟩
       · rw [q2] at mh; cases mh
       · rw [q3] at mh; cases mh
         have eB : dn < a.tmps.size := Nat.lt_of_lt_of_le FL I.tD
         rw [q1, q3, Pos.kP]
         have : (({ a with defers := jc } : Act).put (some dn) v').tmps.getD dn undef = v' := by simp [Act.put, eB]
         rw [this]
         simp only [PT.cZ, if_true]
         exact h5
     · have hg := get p mh
       have : (({ a with defers := jc } : Act).put o.dst v').tmps.getD p.un undef = a.tmps.getD p.un undef := by
        rcases e5 with ⟨q1, _⟩ | ⟨dn, q1, FL, q3⟩
        · rw [q1]; rfl
        · have cL : dn ≠ p.un := fun e => mh (by rw [q3]; congr 1; exact Pos.sX (by rw [Pos.kP, e]))
          rw [q1]
          simp [Act.put, Array.getD_eq_getD_getElem?, Array.getElem?_setIfInBounds_ne cL]
       rw [this]
       have key := hold mh
       rw [hg] at key
       exact key
   · intro j hj hu aj dj ek jd
     rw [bV] at hu
     split at hu
     · cases hu
     · rename_i cL
       rcases List.mem_cons.1 hj with hj | hj
       · exact absurd hj cL
       · obtain ⟨aj', U7, rG⟩ := ad9 j (U5 j (I.late j hj hu) hu)
         rw [ek] at U7; cases U7
         exact (I.prom j hj hu aj dj ek jd).iX jd (fun p hp => get p (tE j hj hu aj ek p hp)) (get dj (tF j hj aj dj ek jd)) h3 h4 rG
   · intro i1 Bk j1 Bl mX ke cL a1 a2 d1 d2 f g1 g2 g3 g4 m1 m2
     rw [bV] at mX ke
     split at mX
     · cases mX
     · rename_i n1
       split at ke
       · cases ke
       · rename_i n2
         rcases List.mem_cons.1 Bk with eY | eY
         · exact n1 eY
         · rcases List.mem_cons.1 Bl with ql | ql
           · exact n2 ql
           · exact I.FK i1 eY j1 ql mX ke cL a1 a2 d1 d2 f g1 g2 g3 g4 (m1.state (fun p hp => get p (tE i1 eY mX a1 g1 p hp)) (get d1 (tF i1 eY a1 d1 g1 g3))) (m2.state (fun p hp => get p (tE j1 ql ke a2 g2 p hp)) (get d2 (tF j1 ql a2 d2 g2 g4)))
 · right
   exact ⟨.aQ v, s1, φ', cs, a, w', h1, h3.mono I.nx, Nat.le_trans I.nx h4, h6, ⟨_, v', h5, h7⟩⟩
end
end Go.Ve
namespace Go.Ve
open Go.RowKit
section
variable {P : Program} {w0 w : World} {φ : au} {ops : Array Oper} {as : Array bh} {s : St} {e : Env} {b : Frame} {cs0 cs : List Frame} {a : Act} {N : Nat} {done dC : List Nat} {L : Array Bool}
theorem U8 {o : Oper} {j p : Nat} (ho : ops[j]? = some o) : p ∈ eI ops j ↔ ∃ x ∈ o.after, Region.binds .any x = true ∧ x.on = p := by
 unfold eI U2
 rw [ho]
 simp only [List.mem_map, List.mem_filter, Array.mem_toList_iff]
 constructor
 · rintro ⟨x, ⟨h1, h2⟩, h3⟩; exact ⟨x, h1, h2, h3⟩
 · rintro ⟨x, h1, h2, h3⟩; exact ⟨x, ⟨h1, h2⟩, h3⟩
theorem Bn (hL : L.size = ops.size) {j : Nat} : j ∈ Region.ready .any ops L ↔ j < ops.size ∧ L.getD j false = false ∧ ∀ p ∈ eI ops j, L.getD p false = true := by
 rw [mem_ready]
 constructor
 · rintro ⟨h1, o, ho, h2⟩
   have bC : j < ops.size := (Array.getElem?_eq_some_iff.1 ho).1
   refine ⟨bC, ?_, fun p hp => ?_⟩
   · have : j < L.size := by omega
     simpa [Array.getD, this] using h1
   · obtain ⟨x, q1, q2, rfl⟩ := (U8 ho).1 hp
     exact h2 x q1 q2
 · rintro ⟨bC, h1, h2⟩
   refine ⟨?_, ops[j], by simp [bC], fun x hx hbx => h2 x.on ((U8 (by simp [bC])).2 ⟨x, hx, hbx, rfl⟩)⟩
   have : j < L.size := by omega
   simpa [Array.getD, this] using h1
theorem aea {md : Region.Mode} {fuel t : Nat} (h : Region.ready md ops L = []) : Region.linearise.go md ops fuel t L [] = [] := by
 cases fuel with
 | zero => simp [Region.linearise.go]
 | succ fuel =>
  simp only [Region.linearise.go]
  change (match (Region.ready md ops L)[t % (Region.ready md ops L).length]? with
   | some i => Region.linearise.go md ops fuel (t / (Region.ready md ops L).length) (L.setIfInBounds i true) [i]
   | none => [].reverse) = []
  rw [h]; rfl
theorem U9 {md : Region.Mode} {fuel t : Nat} (h : Region.ready md ops L ≠ []) : ∃ i t', i ∈ Region.ready md ops L ∧ Region.linearise.go md ops (fuel + 1) t L [] = i :: Region.linearise.go md ops fuel t' (L.setIfInBounds i true) [] := by
 have hlen : 0 < (Region.ready md ops L).length := List.length_pos_iff.2 h
 have bC : t % (Region.ready md ops L).length < (Region.ready md ops L).length := Nat.mod_lt _ hlen
 have hi : (Region.ready md ops L)[t % (Region.ready md ops L).length]? = some (Region.ready md ops L)[t % (Region.ready md ops L).length] := List.getElem?_eq_getElem bC
 refine ⟨(Region.ready md ops L)[t % (Region.ready md ops L).length], t / (Region.ready md ops L).length, List.getElem_mem bC, ?_⟩
 conv => lhs; simp only [Region.linearise.go]
 change (match (Region.ready md ops L)[t % (Region.ready md ops L).length]? with
  | some i => Region.linearise.go md ops fuel (t / (Region.ready md ops L).length) (L.setIfInBounds i true) [i]
  | none => [].reverse) = _
 rw [hi]
 simp only []
 rw [linearise_go_acc, List.reverse_singleton, List.singleton_append]
def x7 (ops : Array Oper) (L : Array Bool) : Nat := (List.range ops.size).countP fun j => !L.getD j false
theorem countP_set {p q : Nat → Bool} {r : Nat} (h : ∀ j, q j = true → p j = true ∧ j ≠ r) (hpr : p r = true) : ∀ {l : List Nat}, r ∈ l → l.countP q + 1 ≤ l.countP p := by
  have mono : ∀ l : List Nat, l.countP q ≤ l.countP p := fun l => List.countP_mono_left fun x _ hx => (h x hx).1
  intro l
  induction l with
  | nil => intro hm; cases hm
  | cons x l ih =>
    intro hm
    by_cases hx : x = r
    · subst hx
      have hq : q x = false := by
        cases hh : q x with
        | false => rfl
        | true => exact absurd rfl (h x hh).2
      have := mono l
      simp [List.countP_cons, hq, hpr]
      exact this
    · have nM : r ∈ l := by
        rcases List.mem_cons.1 hm with hm | hm
        · exact absurd hm.symm hx
        · exact hm
      have := ih nM
      rw [List.countP_cons, List.countP_cons]
      cases hq : q x with
      | false => simp; omega
      | true => rw [(h x hq).1]; simp; omega
theorem Va (hL : L.size = ops.size) {i : Nat} (hi : i < ops.size) (hu : L.getD i false = false) : x7 ops (L.setIfInBounds i true) + 1 ≤ x7 ops L := by
 refine countP_set (r := i) (fun j hj => ?_) (by rw [hu]; rfl) (List.mem_range.2 hi)
 rw [Mw L i j (by omega)] at hj
 split at hj
 · cases hj
 · rename_i cL; exact ⟨hj, cL⟩
theorem MD {i : Nat} (hi : i < ops.size) (hu : L.getD i false = false) : 0 < x7 ops L := List.countP_pos_iff.2 ⟨i, List.mem_range.2 hi, by rw [hu]; rfl⟩
theorem aeb (hr : mg P e.nt ops as) (hs : rY ops as = true) {rec : Task → Bool} (cz : ∀ t, rec t = true → dk P w0 t) {k : KS} {todo : List Item} : ∀ (n : Nat) (order : List Nat) (fuel t : Nat) {done dC : List Nat} {L : Array Bool} {φ : au} {s : St} {cs : List Frame} {a : Act} {w : World} {dl : List iJ},
    order.length + fuel ≤ n → Inv P w0 N e.nt ops as b cs0 done dC L φ s cs a w → lF φ e b → tG ops as done dC order = some dl → nR rec dl e s k = true → x7 ops L ≤ fuel →
    iu P w0 φ N e b cs0 (lone (b.atR a (.inRegion ops (Region.linearise.go .any ops fuel t L []) :: todo)) cs w) todo k := by
  intro n
  induction n with
  | zero =>
    intro order fuel t done dC L φ s cs a w dl hn I he gD hk hu
    have h0 : order = [] := by cases order with | nil => rfl | cons _ _ => simp at hn
    have hf : fuel = 0 := by omega
    subst h0; subst hf
    unfold tG at gD
    split at gD
    · rename_i eO
      cases gD
      have vQ : ∀ j, j < ops.size → L.getD j false = true := fun j hj => by
        cases h : L.getD j false with
        | true => rfl
        | false => have := MD hj h; omega
      refine ⟨.normal, s, φ, cs, a, w, hk, Ext.refl _ _, I.nx, ⟨I.sq, I.tD, fun p => I.xW p fun j hj aZ => ?_⟩, ?_⟩
      · rw [vQ j (I.lt j hj)] at aZ; cases aZ
      · simp only [Region.linearise.go, List.reverse_nil]; exact .one stepR_region_end
    · cases gD
  | succ n ih =>
    intro order fuel t done dC L φ s cs a w dl hn I he gD hk hu
    have run : ∀ (i : Nat) (fuel t' : Nat), order.length + fuel ≤ n → i ∈ done → L.getD i false = false → (∀ p ∈ eI ops i, L.getD p false = true) → x7 ops L ≤ fuel + 1 →
        iu P w0 φ N e b cs0 (lone (b.atR a (.inRegion ops (i :: Region.linearise.go .any ops fuel t' (L.setIfInBounds i true) []) :: todo)) cs w) todo k := by
      intro i fuel t' ME hid jV oX aZ
      obtain ⟨φ', a', w', h1, h2, h3⟩ := I.exec hr hs hid jV oX (rest := Region.linearise.go .any ops fuel t' (L.setIfInBounds i true) []) (todo := todo)
      have := Va I.size (I.lt i hid) jV
      exact (ih order fuel t' ME h3 (he.ext h2) gD hk (by omega)).of_steps h2 (Nat.le_refl _) h1
    cases order with
    | nil =>
      by_cases hex : ∃ x ∈ done, (fun j => !L.getD j false) x = true
      · obtain ⟨r, q1, q2, q3⟩ := I.vO.first hex
        have jV : L.getD r false = false := by simpa using q2
        have nV : r ∈ Region.ready .any ops L := (Bn I.size).2 ⟨I.lt r q1, jV, fun p hp => by simpa using q3 p hp⟩
        have mW := MD (I.lt r q1) jV
        obtain ⟨f', rfl⟩ : ∃ f', fuel = f' + 1 := ⟨fuel - 1, by omega⟩
        obtain ⟨i, t', hi, vu⟩ := U9 (fuel := f') (t := t) (List.ne_nil_of_mem nV)
        rw [vu]
        obtain ⟨i1, i2, i3⟩ := (Bn I.size).1 hi
        have eO := gD
        unfold tG at eO
        split at eO
        · rename_i hc
          have hid : i ∈ done := by simpa using List.all_eq_true.1 hc i (List.mem_range.2 i1)
          exact run i f' t' (by first | (simp at hn ⊢; omega) | (simp at hn; omega)) hid i2 i3 (by omega)
        · cases eO
      · have eO := gD
        unfold tG at eO
        split at eO
        · rename_i hc
          cases eO
          have vQ : ∀ j ∈ done, L.getD j false = true := fun j hj => by
            cases h : L.getD j false with
            | true => rfl
            | false => exact absurd ⟨j, hj, by simp [h]⟩ hex
          have nV : Region.ready .any ops L = [] := by
            cases hq : Region.ready .any ops L with
            | nil => rfl
            | cons x l =>
              have hx : x ∈ Region.ready .any ops L := by rw [hq]; exact List.mem_cons_self
              obtain ⟨i1, i2, _⟩ := (Bn I.size).1 hx
              have := vQ x (by simpa using List.all_eq_true.1 hc x (List.mem_range.2 i1))
              rw [i2] at this; cases this
          rw [aea nV]
          refine ⟨.normal, s, φ, cs, a, w, hk, Ext.refl _ _, I.nx, ⟨I.sq, I.tD, fun p => I.xW p fun j hj aZ => ?_⟩, .one stepR_region_end⟩
          rw [vQ j hj] at aZ; cases aZ
        · cases eO
    | cons i order =>
      have alQ := gD
      unfold tG at gD
      split at gD
      · cases gD
      · rename_i ao dQ
        split at gD
        · rename_i Vc
          simp only [Bool.and_eq_true, Bool.not_eq_true', List.contains_eq_mem, decide_eq_false_iff_not] at Vc
          obtain ⟨hid, hb⟩ := Vc
          have cm : ∀ p ∈ eI ops i, p ∈ done := fun p hp => by simpa using List.all_eq_true.1 hb p hp
          split at gD
          · rename_i lI
            split at gD
            · rename_i aec
              split at gD
              · rename_i iX r MB sa
                cases gD
                have jV : L.getD i false = false := by
                  cases hh : L.getD i false with
                  | false => rfl
                  | true => exact absurd (I.sub i hh) hid
                have hT : rZ ops (i :: done) := .cons _ _ hid cm I.vO
                obtain ⟨r0, q1, q2, q3⟩ := hT.first (u := fun j => !L.getD j false) ⟨i, List.mem_cons_self, by simp only [jV]; rfl⟩
                have Vd : L.getD r0 false = false := by simpa using q2
                have Vf : r0 < ops.size := by
                  rcases List.mem_cons.1 q1 with rfl | q1
                  · exact hr.lt dQ
                  · exact I.lt r0 q1
                have nV : r0 ∈ Region.ready .any ops L := (Bn I.size).2 ⟨Vf, Vd, fun p hp => by simpa using q3 p hp⟩
                have mW := MD Vf Vd
                obtain ⟨f', rfl⟩ : ∃ f', fuel = f' + 1 := ⟨fuel - 1, by omega⟩
                obtain ⟨i', t', hi, vu⟩ := U9 (fuel := f') (t := t) (List.ne_nil_of_mem nV)
                rw [vu]
                obtain ⟨i1, i2, i3⟩ := (Bn I.size).1 hi
                by_cases FR : i' ∈ done
                · exact run i' f' t' (by first | (simp at hn ⊢; omega) | (simp at hn; omega)) FR i2 i3 (by omega)
                · have Fa : i' = i := by
                    have := List.all_eq_true.1 aec i' (List.mem_range.2 i1)
                    simp only [Bool.or_eq_true, List.contains_eq_mem, decide_eq_true_eq, beq_iff_eq, Bool.not_eq_true'] at this
                    rcases this with (h | h) | h
                    · exact absurd h FR
                    · exact h
                    · have : (eI ops i').all done.contains = true := List.all_eq_true.2 fun p hp => by simpa using I.sub p (i3 p hp)
                      rw [this] at h; cases h
                  subst Fa
                  have aed : ∀ j ∈ tB ops (eI ops i') done, L.getD j false = true := ad1 (good := fun j => L.getD j false = true) I.closed done _ i3
                  rcases I.act hr hs he cz hid dQ i3 (late := dC.filter fun j => !(tB ops (eI ops i') done).contains j) (fun j hj aZ => by
                    refine List.mem_filter.2 ⟨hj, ?_⟩
                    simp only [Bool.not_eq_true', List.contains_eq_mem, decide_eq_false_iff_not]
                    intro hc
                    rw [aed j hc] at aZ; cases aZ) (fun j hj => (List.mem_filter.1 hj).1) MB hk (rest := Region.linearise.go .any ops f' t' (L.setIfInBounds i' true) []) (todo := todo) with ⟨φ', s', cd, a', w', z1, z2, z3, z4⟩ | z
                  · have := Va I.size i1 i2
                    exact (ih order f' t' (by first | (simp at hn ⊢; omega) | (simp at hn; omega)) z3 (he.ext z2) sa z1 (by omega)).of_steps z2 (Nat.le_refl _) z4
                  · exact z
              · cases gD
            · cases gD
          · rename_i lI
            simp only [Option.map_eq_some_iff] at gD
            obtain ⟨dl', aee, rfl⟩ := gD
            obtain ⟨s', z1, z2, z3⟩ := I.UX hr hs hid cm dQ (by simpa using lI) (show tp rec ao e s k (fun s => nR rec dl' e s k) = true from hk)
            exact ih order fuel t (by first | (simp at hn ⊢; omega) | (simp at hn; omega)) z2 he aee z1 hu
        · cases gD
theorem UL (bF : P.follows .mixedOrders = true) (w0 : World) : Th P w0 := by
 intro rec cz e b cs0 todo k id ops l dl hl tr φ s cs a w hs he hk
 unfold K3 at tr
 split at tr
 · rename_i vR
   have hr := adY hl
   have nS := stepR_region_draw (P := P) (b := b) (a := a) (k := todo) (cs := cs) (w := w) (id := id) (ops := ops)
   have aef : ∀ t, Region.schedule (P.follows .mixedOrders) ops t = Region.linearise.go .any ops ops.size t (Array.replicate ops.size false) [] := fun t => by
    simp [Region.schedule, bF, Region.linearise]
   rw [aef] at nS
   have Vg : ∀ j, (Array.replicate ops.size false).getD j false = false := fun j => by
    rw [Array.getD_eq_getD_getElem?, Array.getElem?_replicate]; split <;> rfl
   have I : Inv P w0 s.h.nx e.nt ops l.toArray b cs0 [] [] (Array.replicate ops.size false) φ s cs a { w with drawn := w.drawn + 1 } :=
    ⟨by simp, fun j hj => (by rw [Vg] at hj; cases hj), fun j hj => (by cases hj), fun j hj => (by cases hj), fun j hj => (by rw [Vg] at hj; cases hj), .nil, fun j hj => (by cases hj),
     ⟨hs.df, hs.rc, hs.heap.world rfl rfl rfl rfl⟩, hs.tm.1, fun p _ => hs.tm.2 p, fun j hj => (by cases hj), fun j hj => (by cases hj), Nat.le_refl _⟩
   refine (aeb hr vR cz _ _ ops.size _ (Nat.le_refl _) I he tr hk ?_).of_steps (Ext.refl _ _) (Nat.le_refl _) (.one nS)
   have := List.countP_le_length (p := fun j => !(Array.replicate ops.size false).getD j false) (l := List.range ops.size)
   simpa [x7] using this
 · cases tr
end
end Go.Ve
namespace Go.Ve
open Go.RowKit
theorem UK {P : Program} {w0 : World} (bF : P.follows .mixedOrders = true) {prog : NT gn} (oS : ∀ f af, prog.get f = some af → bW P f = some af) {sums : rQ} (Mr : Fg P w0 sums) : ∀ (n : Nat) (t : Task), ev prog sums n t = true → dk P w0 t := by
 intro n
 have Le := UL bF w0
 induction n with
 | zero => intro t h; cases h
 | succ n ih =>
  intro t h
  rw [adI] at h
  cases t with
  | code ac e s k => exact fun c hc => Ts Le ih c ac e s k hc h
  | call f args h0 k => exact TC oS ih Mr h
  | xB f args rc h0 k => exact adw oS ih h
  | round l args h0 k => exact TE ih h
  | leave ds m h0 k => exact Li ih h
theorem HR.bare (P : Program) (w : World) : HR P w (fun _ => none) ⟨0, .e⟩ w :=
 ⟨fun f f' b d d' n n' _ h => (by cases h), fun _ _ => rfl, fun _ _ => rfl, fun f h => (by cases h), fun f b d n h => (by cases h), ⟨rfl, rfl, rfl, Nat.le_refl _, fun _ _ => rfl⟩⟩
def NT.Holds {α : Type} (Q : Nat → α → Prop) : Nat → Nat → NT α → Prop
 | _, _, .e => True
 | o, s, .n l v r => (∀ a, v = some a → Q o a) ∧ NT.Holds Q (o + s) (s + s) l ∧ NT.Holds Q (o + s + s) (s + s) r
theorem NT.Ms {α : Type} {Q : Nat → α → Prop} : ∀ {t : NT α} {o s : Nat}, t.Holds Q o s → ∀ i a, t.get i = some a → Q (o + s * i) a
 | .e, _, _, _, i, a, h => by cases h
 | .n l v r, o, s, ⟨h0, hl, hr⟩, i, a, h => by
  rcases NT.sZ i with rfl | ⟨j, rfl⟩ | ⟨j, rfl⟩
  · exact h0 a h
  · rw [NT.nC] at h
    have := NT.Ms hl j a h
    rwa [show o + s + (s + s) * j = o + s * (2 * j + 1) by rw [Nat.mul_add, Nat.add_mul, Nat.mul_comm 2 j, ← Nat.mul_assoc, Nat.mul_two]; omega] at this
  · rw [NT.nD] at h
    have := NT.Ms hr j a h
    rwa [show o + s + s + (s + s) * j = o + s * (2 * j + 2) by rw [Nat.mul_add, Nat.add_mul, Nat.mul_comm 2 j, ← Nat.mul_assoc, Nat.mul_two]; omega] at this
theorem NT.holds {α : Type} {Q : Nat → α → Prop} {t : NT α} (h : t.Holds Q 0 1) (i : Nat) (a : α) (hi : t.get i = some a) : Q i a := by
 have := NT.Ms h i a hi
 rwa [Nat.zero_add, Nat.one_mul] at this
theorem NT.no {α : Type} {Q : α → Prop} : ∀ a, (none : Option α) = some a → Q a := fun a e => by cases e
end Go.Ve
namespace Go.Ve
open Go.RowKit
open Classical
noncomputable section
abbrev Sl := Pos → Value
def Sl.up (σ : Sl) (p : Pos) (v : Value) : Sl := fun q => bif p.beq q then v else σ q
def Sl.eC (σ : Sl) (d : Option Pos) (v : Value) : Sl := match d with
 | none => σ
 | some p => σ.up p v
structure DS where
 df : List ef
 rc : Rc
def dR (σ : Sl) : dB → Value
 | .t p => σ p
 | .c v => v
abbrev PQ := AX → Sl → DS → AH → Prop
theorem Sl.VK (t : PT) (p : Pos) (v : Value) : (t.set p v).get = Sl.up t.get p v := by
 funext q
 rw [PT.cZ]
 unfold Sl.up
 by_cases e : q = p
 · subst e; rw [if_pos rfl, Pos.beq_iff.2 rfl]; rfl
 · rw [if_neg e]
   have : p.beq q = false := by
    cases h : p.beq q with
    | false => rfl
    | true => exact absurd (Pos.beq_iff.1 h).symm e
   rw [this]; rfl
def PT.vW (t : PT) (d : Option Pos) (v : Value) : PT := match d with
 | none => t
 | some p => t.set p v
theorem Sl.VL (t : PT) (d : Option Pos) (v : Value) : (t.vW d v).get = Sl.eC t.get d v := by
 cases d with
 | none => rfl
 | some p => exact Sl.VK t p v
theorem vX (d : Option Pos) (s : St) (v : Value) (h : AH) (k : St → Bool) : gP d s v h k = k ⟨s.tm.vW d v, s.df, s.rc, h⟩ := by rw [Bf]; cases d <;> rfl
theorem MS (t : PT) (o : dB) : ie t o = dR t.get o := by cases o <;> rfl
section
variable (P : Program) (w0 : World)
def fa : Task → Bool := fun t => decide (dk P w0 t)
theorem Bw (t : Task) (h : fa P w0 t = true) : dk P w0 t := of_decide_eq_true h
theorem lg {t : Task} (h : dk P w0 t) : fa P w0 t = true := decide_eq_true h
def WP (p : Prim) (vs : List Value) (h : AH) (R : Value → AH → Prop) : Prop := ∀ k : KV, (∀ v h, R v h → k v h = true) → p.ev vs h k = true
def WF (f : FuncId) (args : List Value) (h : AH) (R : CR → AH → Prop) : Prop := dk P w0 (.call f args h fun r h => decide (R r h))
def WR (l : Nat) (args : List Value) (h : AH) (R : CR → AH → Prop) : Prop := dk P w0 (.round l args h fun r h => decide (R r h))
def WL (ds : List ef) (m : Option Value) (h : AH) (K : Option Value → AH → Prop) : Prop := match ds with
 | [] => K m h
 | ds => dk P w0 (.leave ds m h fun m h => decide (K m h))
def WC (c : c7) (e : Env) (σ : Sl) (d : DS) (h : AH) (Q : PQ) : Prop :=
 ∀ tm : PT, tm.get = σ → dk P w0 (.code c e ⟨tm, d.df, d.rc, h⟩ fun x s => decide (Q x s.tm.get ⟨s.df, s.rc⟩ s.h))
def iR (act : iI) (dst : Option Pos) (e : Env) (σ : Sl) (d : DS) (h : AH) (vs : List Value) (Q : PQ) (K : Sl → DS → AH → Prop) : Prop :=
 match act with
 | .aC p => WP p vs h fun v h => K (σ.eC dst v) d h
 | .call f => WF P w0 f vs h fun r h => match r with
  | .ret v => K (σ.eC dst v) d h
  | .aQ v => Q (.aQ v) σ d h
 | .dyn => (match vs with
  | .func (.func g) ⟨first⟩ ⟨bI⟩ :: as => WF P w0 g (first ++ (as ++ bI)) h fun r h => match r with
   | .ret v => K (σ.eC dst v) d h
   | .aQ v => Q (.aQ v) σ d h
  | .func (.yield l) ⟨[]⟩ ⟨[]⟩ :: as => WR P w0 l as h fun r h => match r with
   | .ret v => K (σ.eC dst v) d h
   | .aQ v => Q (.aQ v) σ d h
  | _ => False)
 | .recover => (match e.tj, vs with
  | none, [] => (match d.rc with
   | .can v => K (σ.eC dst v) ⟨d.df, .kU⟩ h
   | _ => K (σ.eC dst .nilIface) d h)
  | _, _ => False)
 | .panic => (match vs with
  | [.iface t x] => Q (.aQ (.iface t x)) σ d h
  | _ => False)
 | .defer => (match e.tj, vs with
  | none, .func (.func g) ⟨first⟩ ⟨bI⟩ :: as => K (σ.eC dst undef) ⟨.fn g (first ++ (as ++ bI)) :: d.df, d.rc⟩ h
  | _, _ => False)
def wpOp (o : bh) (e : Env) (σ : Sl) (d : DS) (h : AH) (Q : PQ) (K : Sl → DS → AH → Prop) : Prop :=
 match o.guard with
 | none => iR P w0 o.act o.dst e σ d h (o.args.map (dR σ)) Q K
 | some (p, want) => match σ p with
  | .bool b => bif mb b want then iR P w0 o.act o.dst e σ d h (o.args.map (dR σ)) Q K else K (σ.eC o.dst undef) d h
  | _ => K (σ.eC o.dst undef) d h
def wpOps : List bh → Env → Sl → DS → AH → PQ → Prop
 | [], _, σ, d, h, Q => Q .normal σ d h
 | o :: l, e, σ, d, h, Q => wpOp P w0 o e σ d h Q fun σ d h => wpOps l e σ d h Q
def tI (act : iI) (dst : Option Pos) (vs : List Value) (σ : Sl) (h : AH) : Prop := match act, dst with
 | .aC p, some q => (bif p.makes then p.fresh vs (vK ⟨.e, [], .off, h⟩ (σ q)) = true else WP p vs h fun v' _ => oU v' (σ q) = true)
 | _, _ => False
def vY (o : bh) (σ : Sl) (h : AH) : Prop := match o.guard with
 | none => tI o.act o.dst (o.args.map (dR σ)) σ h
 | some (p, want) => match σ p with
  | .bool b => bif mb b want then tI o.act o.dst (o.args.map (dR σ)) σ h else True
  | _ => True
def jA : List iJ → Env → Sl → DS → AH → PQ → Prop
 | [], _, σ, d, h, Q => Q .normal σ d h
 | .op _ o :: l, e, σ, d, h, Q => wpOp P w0 o e σ d h Q fun σ d h => jA l e σ d h Q
 | .iX _ o :: l, e, σ, d, h, Q => vY o σ h ∧ jA l e σ d h Q
def vZ (c : Sl → DS → AH → Prop) (Q : PQ) : PQ := fun x σ d h => match x with
 | .normal => c σ d h
 | x => Q x σ d h
def MT (id : Nat) (Q : PQ) : PQ := fun x σ d h => match x with
 | .exit j => bif Nat.beq j id then Q .normal σ d h else Q (.exit j) σ d h
 | x => Q x σ d h
def dS : c7 → Env → Sl → DS → AH → PQ → Prop
 | .skip, _, σ, d, h, Q => Q .normal σ d h
 | .ops l, e, σ, d, h, Q => wpOps P w0 l e σ d h Q
 | .draw l, e, σ, d, h, Q => jA P w0 l e σ d h Q
 | .seq a b, e, σ, d, h, Q => dS a e σ d h (vZ (fun σ d h => dS b e σ d h Q) Q)
 | .cond c a b, e, σ, d, h, Q => (match dR σ c with
  | .bool true => dS a e σ d h Q
  | .bool false => dS b e σ d h Q
  | _ => False)
 | .block id c, e, σ, d, h, Q => dS c e σ d h (MT id Q)
 | .loop c, e, σ, d, h, Q => WC P w0 (.loop c) e σ d h Q
 | .l4 f ps a b, e, σ, d, h, Q => WC P w0 (.l4 f ps a b) e σ d h Q
 | .exit id, _, σ, d, h, Q => Q (.exit id) σ d h
 | .ret, _, σ, d, h, Q => Q .ret σ d h
end
section
variable {P : Program} {w0 : World}
theorem gq.mono {f : FuncId} {args : List Value} {h : AH} {k k' : CR → AH → Bool} (hk : ∀ r h, k r h = true → k' r h = true) (H : gq P w0 f args h k) : gq P w0 f args h k' :=
 ⟨H.1, fun φ args' w hl hh => (H.2 φ args' w hl hh).mono fun _ _ ⟨r, h', φ', h1, h2⟩ => ⟨r, h', φ', hk _ _ h1, h2⟩⟩
theorem rK.mono {l : Nat} {args : List Value} {h : AH} {k k' : CR → AH → Bool} (hk : ∀ r h, k r h = true → k' r h = true) (H : rK P w0 l args h k) : rK P w0 l args h k' := by
 intro φ args' l' w h1 h2 h3 h4
 obtain ⟨f, tmps, as, bd, h5, h6⟩ := H φ args' l' w h1 h2 h3 h4
 refine ⟨f, tmps, as, bd, h5, fun c cs => ?_⟩
 obtain ⟨v, v', h', φ', w', g1, g2⟩ := h6 c cs
 exact ⟨v, v', h', φ', w', hk _ _ g1, g2⟩
theorem Aj.mono {c : Code} {e : Env} {s : St} {k k' : KS} (hk : ∀ x s, k x s = true → k' x s = true) (H : Aj P w0 c e s k) : Aj P w0 c e s k' := by
 intro φ b cs0 cs a w h1 h2 it h3 todo
 obtain ⟨x, s', φ', cd, a', w', g1, g2⟩ := H φ b cs0 cs a w h1 h2 it h3 todo
 exact ⟨x, s', φ', cd, a', w', hk _ _ g1, g2⟩
theorem ma.mono {ds : List ef} {m : Option Value} {h : AH} {k k' : Option Value → AH → Bool} (hk : ∀ r h, k r h = true → k' r h = true) (H : ma P w0 ds m h k) : ma P w0 ds m h k' := by
 intro φ fr cs w h1 h2 h3
 obtain ⟨m', h', φ', w', u, g1, g2⟩ := H φ fr cs w h1 h2 h3
 exact ⟨m', h', φ', w', u, hk _ _ g1, g2⟩
theorem dk.wa {c : c7} {e : Env} {s : St} {k k' : KS} (hk : ∀ x s, k x s = true → k' x s = true) (H : dk P w0 (.code c e s k)) : dk P w0 (.code c e s k') := fun c hc => Aj.mono hk (H c hc)
theorem WP.mono {p : Prim} {vs : List Value} {h : AH} {R R' : Value → AH → Prop} (hk : ∀ v h, R v h → R' v h) (H : WP p vs h R) : WP p vs h R' := fun k dG => H k fun v h hr => dG v h (hk v h hr)
theorem cC {p : Prim} {vs : List Value} {h h' : AH} {v : Value} {R : Value → AH → Prop} (e : ∀ k : KV, p.ev vs h k = k v h') : WP p vs h R ↔ R v h' :=
 ⟨fun H => of_decide_eq_true ((e fun v h => decide (R v h)).symm.trans (H (fun v h => decide (R v h)) fun _ _ hr => decide_eq_true hr)), fun H k hk => by rw [e]; exact hk _ _ H⟩
theorem WF.mono {f : FuncId} {args : List Value} {h : AH} {R R' : CR → AH → Prop} (hk : ∀ r h, R r h → R' r h) (H : WF P w0 f args h R) : WF P w0 f args h R' :=
 gq.mono (fun r h hr => decide_eq_true (hk r h (of_decide_eq_true hr))) H
theorem WR.mono {l : Nat} {args : List Value} {h : AH} {R R' : CR → AH → Prop} (hk : ∀ r h, R r h → R' r h) (H : WR P w0 l args h R) : WR P w0 l args h R' :=
 rK.mono (fun r h hr => decide_eq_true (hk r h (of_decide_eq_true hr))) H
theorem WC.mono {c : c7} {e : Env} {σ : Sl} {d : DS} {h : AH} {Q Q' : PQ} (hk : ∀ x σ d h, Q x σ d h → Q' x σ d h) (H : WC P w0 c e σ d h Q) : WC P w0 c e σ d h Q' :=
 fun tm dP => dk.wa (fun x s hx => decide_eq_true (hk x _ _ _ (of_decide_eq_true hx))) (H tm dP)
variable (bF : P.follows .mixedOrders = true)
include bF
theorem qn {ac : c7} {e : Env} {s : St} {k : KS} (h : Lf (fa P w0) ac e s k = true) : dk P w0 (.code ac e s k) :=
 fun c hc => Ts (UL bF w0) (Bw P w0) c ac e s k hc h
omit bF
theorem aez {dst : Option Pos} {s : St} {fail : KS} {k : St → Bool} {r : CR} {h : AH} (H : match r with | .ret v => k ⟨s.tm.vW dst v, s.df, s.rc, h⟩ = true | .aQ v => fail (.aQ v) ⟨s.tm, s.df, s.rc, h⟩ = true) : nL dst s fail k r h = true := by
 cases r with
 | ret v => show gP dst s v h k = true; rw [vX]; exact H
 | aQ v => cases s; exact H
theorem tJ (l m : List Value) (k : List Value → Bool) : gM l m k = k (l ++ m) := by
 induction l generalizing k with
 | nil => rfl
 | cons x l ih => show gM l m (fun l' => k (x :: l')) = _; rw [ih]; rfl
theorem VM {act : iI} {dst : Option Pos} {e : Env} {tm : PT} {d : DS} {h : AH} {vs : List Value} {Q : PQ} {K : Sl → DS → AH → Prop} {k : St → Bool}
 (hk : ∀ tm d h, K tm.get d h → k ⟨tm, d.df, d.rc, h⟩ = true) (H : iR P w0 act dst e tm.get d h vs Q K) :
 xE (fa P w0) act dst e ⟨tm, d.df, d.rc, h⟩ (fun x s => decide (Q x s.tm.get ⟨s.df, s.rc⟩ s.h)) k vs = true := by
 have key : ∀ (t : PT) (d : DS) (h : AH) (v : Value), K (Sl.eC t.get dst v) d h → k ⟨t.vW dst v, d.df, d.rc, h⟩ = true := fun t d h v hK =>
  hk (t.vW dst v) d h (by rw [Sl.VL]; exact hK)
 have ret : ∀ r h', (match r with | .ret v => K (Sl.eC tm.get dst v) d h' | .aQ v => Q (.aQ v) tm.get d h' : Prop) → nL dst ⟨tm, d.df, d.rc, h⟩ (fun x s => decide (Q x s.tm.get ⟨s.df, s.rc⟩ s.h)) k r h' = true := fun r h' hr => by
  refine aez ?_
  cases r with
  | ret v => exact key tm d h' v hr
  | aQ v => exact decide_eq_true hr
 cases act with
 | aC p =>
  show p.ev vs h (fun v h' => gP dst ⟨tm, d.df, d.rc, h⟩ v h' k) = true
  exact H _ fun v h' hK => by rw [vX]; exact key tm d h' v hK
 | call f =>
  show fa P w0 (.call f vs h (nL dst ⟨tm, d.df, d.rc, h⟩ _ k)) = true
  exact lg P w0 (gq.mono (fun r h' hr => ret r h' (of_decide_eq_true hr)) H)
 | dyn =>
  show KU (fa P w0) dst e ⟨tm, d.df, d.rc, h⟩ _ k vs = true
  cases vs with
  | nil => exact H.elim
  | cons f as =>
   simp only [iR] at H
   split at H
   · rename_i g first bI pX heq
     cases heq
     show gM _ _ _ = true
     rw [tJ, tJ]
     exact lg P w0 (gq.mono (fun r h' hr => ret r h' (of_decide_eq_true hr)) H)
   · rename_i l pX heq
     cases heq
     exact lg P w0 (rK.mono (fun r h' hr => ret r h' (of_decide_eq_true hr)) H)
   · exact H.elim
 | recover =>
  show Ar dst e ⟨tm, d.df, d.rc, h⟩ k vs = true
  simp only [iR] at H
  unfold Ar
  split at H
  · rename_i he
    simp only [he]
    split at H
    · rename_i v hv
      simp only [hv]
      rw [vX]; exact key tm ⟨d.df, .kU⟩ h v H
    · rename_i hv
      cases hr : d.rc with
      | can v => exact absurd hr (hv v)
      | off => simp only [vX]; have := key tm d h .nilIface H; rw [hr] at this; exact this
      | kU => simp only [vX]; have := key tm d h .nilIface H; rw [hr] at this; exact this
  · exact H.elim
 | panic =>
  show EY ⟨tm, d.df, d.rc, h⟩ (fun x s => decide (Q x s.tm.get ⟨s.df, s.rc⟩ s.h)) vs = true
  simp only [iR] at H
  split at H
  · exact decide_eq_true H
  · exact H.elim
 | defer =>
  show Av dst e ⟨tm, d.df, d.rc, h⟩ k vs = true
  simp only [iR] at H
  unfold Av
  split at H
  · rename_i he
    simp only [he]
    show gM _ _ _ = true
    rw [tJ, tJ, vX]
    exact key tm ⟨_ :: d.df, d.rc⟩ h undef H
  · exact H.elim
end
end
end Go.Ve
namespace Go.Ve
open Go.RowKit
open Classical
noncomputable section
section
variable {P : Program} {w0 : World}
theorem VN (t : PT) (l : List dB) : l.map (ie t) = l.map (dR t.get) := List.map_congr_left fun o _ => MS t o
theorem guard_of {g : Option (Pos × Bool)} {t : PT} {yes no : Bool} (H : match g with
 | none => yes = true
 | some (p, want) => match t.get p with
  | .bool b => (bif mb b want then yes else no) = true
  | _ => no = true) : nP g t yes no = true := by
 cases g with
 | none => exact H
 | some pw =>
  obtain ⟨p, want⟩ := pw
  show PT.dr p t (vz want yes no) = true
  rw [PT.jw]
  unfold vz
  revert H
  simp only []
  generalize t.get p = v
  intro H
  split
  · exact H
  · rename_i cL
    revert H
    split
    · rename_i b; exact absurd rfl (cL b)
    · exact fun H => H
theorem VO {o : bh} {e : Env} {tm : PT} {d : DS} {h : AH} {Q : PQ} {K : Sl → DS → AH → Prop} {k : St → Bool}
 (hk : ∀ tm d h, K tm.get d h → k ⟨tm, d.df, d.rc, h⟩ = true) (H : wpOp P w0 o e tm.get d h Q K) :
 tp (fa P w0) o e ⟨tm, d.df, d.rc, h⟩ (fun x s => decide (Q x s.tm.get ⟨s.df, s.rc⟩ s.h)) k = true := by
 obtain ⟨dst, act, args, g⟩ := o
 show nP g tm (nO args tm (xE (fa P w0) act dst e ⟨tm, d.df, d.rc, h⟩ _ k)) (gP dst ⟨tm, d.df, d.rc, h⟩ undef h k) = true
 rw [xU, vX, VN]
 have vQ : K (Sl.eC tm.get dst undef) d h → k ⟨tm.vW dst undef, d.df, d.rc, h⟩ = true := fun hK => hk (tm.vW dst undef) d h (by rw [Sl.VL]; exact hK)
 refine guard_of ?_
 unfold wpOp at H
 cases g with
 | none => exact VM hk H
 | some pw =>
  obtain ⟨p, want⟩ := pw
  revert H
  simp only []
  generalize tm.get p = v
  intro H
  cases v <;> first | exact vQ H | skip
  rename_i b
  simp only at H ⊢
  cases hb : mb b want with
  | true => rw [hb] at H; exact VM hk H
  | false => rw [hb] at H; exact vQ H
theorem aeA {e : Env} {Q : PQ} : ∀ {l : List bh} {tm : PT} {d : DS} {h : AH}, wpOps P w0 l e tm.get d h Q → Az (fa P w0) l e ⟨tm, d.df, d.rc, h⟩ (fun x s => decide (Q x s.tm.get ⟨s.df, s.rc⟩ s.h)) = true := by
 intro l
 induction l with
 | nil => intro tm d h H; exact decide_eq_true H
 | cons o l ih => intro tm d h H; exact VO (k := fun s => Az (fa P w0) l e s _) (fun tm d h hK => ih hK) H
theorem aeB {o : bh} {tm : PT} {d : DS} {h : AH} (H : vY o tm.get h) : xT o ⟨tm, d.df, d.rc, h⟩ = true := by
 obtain ⟨dst, act, args, g⟩ := o
 show nP g tm (nO args tm fun vs => iI.casesOn (motive := fun _ => Bool) act (Ba dst ⟨tm, d.df, d.rc, h⟩ vs) mf false false false false) true = true
 rw [xU, VN]
 refine guard_of ?_
 have body : tI act dst (args.map (dR tm.get)) tm.get h → iI.casesOn (motive := fun _ => Bool) act (Ba dst ⟨tm, d.df, d.rc, h⟩ (args.map (dR tm.get))) mf false false false false = true := by
  intro H
  unfold tI at H
  cases act with
  | aC p =>
   cases dst with
   | none => exact H.elim
   | some q =>
    show PT.dr q tm (fun v => bif p.makes then p.fresh (args.map (dR tm.get)) (vK ⟨tm, d.df, d.rc, h⟩ v) else p.ev (args.map (dR tm.get)) h (A9 v)) = true
    rw [PT.jw]
    simp only at H
    cases hm : p.makes with
    | true => rw [hm] at H; exact H
    | false => rw [hm] at H; exact H _ fun v h hv => hv
  | _ => exact H.elim
 unfold vY at H
 cases g with
 | none => exact body H
 | some pw =>
  obtain ⟨p, want⟩ := pw
  revert H
  simp only []
  generalize tm.get p = v
  intro H
  cases v <;> first | exact trivial | skip
  rename_i b
  simp only at H ⊢
  cases hb : mb b want with
  | true => rw [hb] at H; exact body H
  | false => rfl
theorem aeC {e : Env} {Q : PQ} : ∀ {l : List iJ} {tm : PT} {d : DS} {h : AH}, jA P w0 l e tm.get d h Q → nR (fa P w0) l e ⟨tm, d.df, d.rc, h⟩ (fun x s => decide (Q x s.tm.get ⟨s.df, s.rc⟩ s.h)) = true := by
 intro l
 induction l with
 | nil => intro tm d h H; exact decide_eq_true H
 | cons o l ih =>
  intro tm d h H
  cases o with
  | op i o => exact VO (k := fun s => nR (fa P w0) l e s _) (fun tm d h hK => ih hK) H
  | iX i o =>
   exact (iff_eq (xT o ⟨tm, d.df, d.rc, h⟩) (nR (fa P w0) l e ⟨tm, d.df, d.rc, h⟩ fun x s => decide (Q x s.tm.get ⟨s.df, s.rc⟩ s.h))).2 ⟨aeB H.1, ih H.2⟩
theorem F8 (bF : P.follows .mixedOrders = true) : ∀ (c : c7) {e : Env} {σ : Sl} {d : DS} {h : AH} {Q : PQ}, dS P w0 c e σ d h Q → WC P w0 c e σ d h Q := by
 intro c
 induction c with
 | skip => intro e σ d h Q H tm dP; subst dP; exact qn bF (decide_eq_true H)
 | ops l => intro e σ d h Q H tm dP; subst dP; exact qn bF (aeA H)
 | draw l => intro e σ d h Q H tm dP; subst dP; exact qn bF (aeC H)
 | seq a b jB je =>
  intro e σ d h Q H tm dP
  subst dP
  refine qn bF (lg P w0 (dk.wa (fun x s hx => ?_) (jB H tm rfl)))
  have fm := of_decide_eq_true hx
  cases x with
  | normal => exact lg P w0 (je fm s.tm rfl)
  | exit id => exact decide_eq_true fm
  | ret => exact decide_eq_true fm
  | aQ v => exact decide_eq_true fm
 | cond c a b jB je =>
  intro e σ d h Q H tm dP
  subst dP
  refine qn bF ?_
  show rN c tm (fun v => rU v fun t => Bool.casesOn (motive := fun _ => Bool) t (fa P w0 (.code b e _ _)) (fa P w0 (.code a e _ _))) = true
  rw [Mq, MS]
  simp only [dS] at H
  revert H
  cases dR tm.get c <;> intro H <;> first | exact H.elim | skip
  rename_i t
  cases t with
  | true => exact lg P w0 (jB H tm rfl)
  | false => exact lg P w0 (je H tm rfl)
 | block id c ih =>
  intro e σ d h Q H tm dP
  subst dP
  refine qn bF (lg P w0 (dk.wa (fun x s hx => ?_) (ih H tm rfl)))
  have fm := of_decide_eq_true hx
  cases x with
  | normal => exact decide_eq_true fm
  | exit j =>
   show (bif Nat.beq j id then _ else _) = true
   have Bx : bif Nat.beq j id then Q .normal s.tm.get ⟨s.df, s.rc⟩ s.h else Q (.exit j) s.tm.get ⟨s.df, s.rc⟩ s.h := fm
   cases hj : Nat.beq j id with
   | true => rw [hj] at Bx; exact decide_eq_true Bx
   | false => rw [hj] at Bx; exact decide_eq_true Bx
  | ret => exact decide_eq_true fm
  | aQ v => exact decide_eq_true fm
 | loop c ih => intro e σ d h Q H; exact H
 | l4 f ps a b jB je => intro e σ d h Q H; exact H
 | exit id => intro e σ d h Q H tm dP; subst dP; exact qn bF (decide_eq_true H)
 | ret => intro e σ d h Q H tm dP; subst dP; exact qn bF (decide_eq_true H)
theorem VP (bF : P.follows .mixedOrders = true) {c : c7} {e : Env} {σ : Sl} {d : DS} {h : AH} {Q : PQ} (H : dS P w0 c e σ d h (vZ (fun σ d h => WC P w0 (.loop c) e σ d h Q) Q)) : WC P w0 (.loop c) e σ d h Q := by
 intro tm dP
 subst dP
 refine qn bF (lg P w0 (dk.wa (fun x s hx => ?_) (F8 bF c H tm rfl)))
 have fm := of_decide_eq_true hx
 cases x with
 | normal => exact lg P w0 ((show WC P w0 (.loop c) e s.tm.get ⟨s.df, s.rc⟩ s.h Q from fm) s.tm rfl)
 | exit id => exact decide_eq_true fm
 | ret => exact decide_eq_true fm
 | aQ v => exact decide_eq_true fm
theorem VQ {act : iI} {dst : Option Pos} {e : Env} {σ : Sl} {d : DS} {h : AH} {vs : List Value} {Q Q' : PQ} {K K' : Sl → DS → AH → Prop} (hQ : ∀ x σ d h, Q x σ d h → Q' x σ d h) (hK : ∀ σ d h, K σ d h → K' σ d h)
 (H : iR P w0 act dst e σ d h vs Q K) : iR P w0 act dst e σ d h vs Q' K' := by
 have r : ∀ (r : CR) (h : AH), (match r with | .ret v => K (σ.eC dst v) d h | .aQ v => Q (.aQ v) σ d h : Prop) → (match r with | .ret v => K' (σ.eC dst v) d h | .aQ v => Q' (.aQ v) σ d h : Prop) := fun r h hr => by
  cases r with
  | ret v => exact hK _ _ _ hr
  | aQ v => exact hQ _ _ _ _ hr
 cases act with
 | aC p => exact WP.mono (fun v h hv => hK _ _ _ hv) H
 | call f => exact WF.mono r H
 | dyn =>
  simp only [iR] at H ⊢
  split at H
  · exact WF.mono r H
  · exact WR.mono r H
  · exact H.elim
 | recover =>
  simp only [iR] at H ⊢
  split at H
  · split at H
    · exact hK _ _ _ H
    · exact hK _ _ _ H
  · exact H.elim
 | panic =>
  simp only [iR] at H ⊢
  split at H
  · exact hQ _ _ _ _ H
  · exact H.elim
 | defer =>
  simp only [iR] at H ⊢
  split at H
  · exact hK _ _ _ H
  · exact H.elim
theorem wpOp_mono {o : bh} {e : Env} {σ : Sl} {d : DS} {h : AH} {Q Q' : PQ} {K K' : Sl → DS → AH → Prop} (hQ : ∀ x σ d h, Q x σ d h → Q' x σ d h) (hK : ∀ σ d h, K σ d h → K' σ d h)
 (H : wpOp P w0 o e σ d h Q K) : wpOp P w0 o e σ d h Q' K' := by
 obtain ⟨dst, act, args, g⟩ := o
 unfold wpOp at H ⊢
 cases g with
 | none => exact VQ hQ hK H
 | some pw =>
  obtain ⟨p, want⟩ := pw
  revert H
  simp only []
  generalize σ p = v
  intro H
  cases v <;> first | exact hK _ _ _ H | skip
  rename_i b
  simp only at H ⊢
  revert H
  cases mb b want with
  | true => exact fun H => VQ hQ hK H
  | false => exact fun H => hK _ _ _ H
theorem aeD {e : Env} {Q Q' : PQ} (hQ : ∀ x σ d h, Q x σ d h → Q' x σ d h) : ∀ {l : List bh} {σ : Sl} {d : DS} {h : AH}, wpOps P w0 l e σ d h Q → wpOps P w0 l e σ d h Q' := by
 intro l
 induction l with
 | nil => intro σ d h H; exact hQ _ _ _ _ H
 | cons o l ih => intro σ d h H; exact wpOp_mono hQ (fun _ _ _ => ih) H
theorem aeE {e : Env} {Q Q' : PQ} (hQ : ∀ x σ d h, Q x σ d h → Q' x σ d h) : ∀ {l : List iJ} {σ : Sl} {d : DS} {h : AH}, jA P w0 l e σ d h Q → jA P w0 l e σ d h Q' := by
 intro l
 induction l with
 | nil => intro σ d h H; exact hQ _ _ _ _ H
 | cons o l ih =>
  intro σ d h H
  cases o with
  | op i o => exact wpOp_mono hQ (fun _ _ _ => ih) H
  | iX i o => exact ⟨H.1, ih H.2⟩
theorem MU : ∀ (c : c7) {e : Env} {σ : Sl} {d : DS} {h : AH} {Q Q' : PQ}, (∀ x σ d h, Q x σ d h → Q' x σ d h) → dS P w0 c e σ d h Q → dS P w0 c e σ d h Q' := by
 intro c
 induction c with
 | skip => intro e σ d h Q Q' hQ H; exact hQ _ _ _ _ H
 | ops l => intro e σ d h Q Q' hQ H; exact aeD hQ H
 | draw l => intro e σ d h Q Q' hQ H; exact aeE hQ H
 | seq a b jB je =>
  intro e σ d h Q Q' hQ H
  refine jB (fun x σ d h hx => ?_) H
  cases x with
  | normal => exact je hQ hx
  | _ => exact hQ _ _ _ _ hx
 | cond c a b jB je =>
  intro e σ d h Q Q' hQ H
  simp only [dS] at H ⊢
  revert H
  cases dR σ c <;> intro H <;> first | exact H.elim | skip
  rename_i t
  revert H
  cases t with
  | true => exact fun H => jB hQ H
  | false => exact fun H => je hQ H
 | block id c ih =>
  intro e σ d h Q Q' hQ H
  refine ih (fun x σ d h hx => ?_) H
  cases x with
  | exit j =>
   have fm : bif Nat.beq j id then Q .normal σ d h else Q (.exit j) σ d h := hx
   show bif Nat.beq j id then Q' .normal σ d h else Q' (.exit j) σ d h
   cases hj : Nat.beq j id with
   | true => rw [hj] at fm; exact hQ _ _ _ _ fm
   | false => rw [hj] at fm; exact hQ _ _ _ _ fm
  | _ => exact hQ _ _ _ _ hx
 | loop c ih => intro e σ d h Q Q' hQ H; exact WC.mono hQ H
 | l4 f ps a b jB je => intro e σ d h Q Q' hQ H; exact WC.mono hQ H
 | exit id => intro e σ d h Q Q' hQ H; exact hQ _ _ _ _ H
 | ret => intro e σ d h Q Q' hQ H; exact hQ _ _ _ _ H
def F9 (vs : List Value) : Sl := fun p => vs.getD p.un undef
def lK : List kQ → Sl → AH → (List Value → Prop) → Prop
 | [], _, _, K => K []
 | .tmp p :: rs, σ, h, K => lK rs σ h fun vs => K (σ p :: vs)
 | .cell p none :: rs, σ, h, K => WP .ay [σ p] h fun v _ => lK rs σ h fun vs => K (v :: vs)
 | .cell p (some n) :: rs, σ, h, K => WP (.bL n) [σ p] h fun v _ => lK rs σ h fun vs => K (v :: vs)
def wb : List Value → Value
 | [v] => v
 | vs => .tuple ⟨vs⟩
def By (P : Program) (w0 : World) (rs : List kQ) (R : CR → AH → Prop) : PQ := fun x σ d h => match x with
 | .aQ v => WL P w0 d.df (some v) h fun m h => match m with
  | none => rs = [] ∧ R (.ret (.tuple ⟨[]⟩)) h
  | some v => R (.aQ v) h
 | .exit _ => False
 | _ => WL P w0 d.df none h fun m h => match m with
  | none => lK rs σ h fun vs => R (.ret (wb vs)) h
  | some v => R (.aQ v) h
theorem aeF {tm : PT} {h : AH} : ∀ {rs : List kQ} {K : List Value → Prop} {k : List Value → Bool}, (∀ vs, K vs → k vs = true) → lK rs tm.get h K → ki rs tm h k = true := by
 intro rs
 induction rs with
 | nil => intro K k hk H; exact hk _ H
 | cons r rs ih =>
  intro K k hk H
  cases r with
  | tmp p =>
   show PT.dr p tm (fun v => ki rs tm h fun vs => k (v :: vs)) = true
   rw [PT.jw]
   exact ih (fun vs hv => hk _ hv) H
  | cell p n =>
   cases n with
   | none =>
    show PT.dr p tm (fun v => ic v fun b o => qc h b o fun x => ki rs tm h fun vs => k (x :: vs)) = true
    rw [PT.jw]
    exact H (fun v _ => ki rs tm h fun vs => k (v :: vs)) fun v h' hv => ih (fun vs hv => hk _ hv) hv
   | some n =>
    show PT.dr p tm (fun v => ic v fun b o => jQ h b o n fun l => ki rs tm h fun vs => k (.agg ⟨l⟩ :: vs)) = true
    rw [PT.jw]
    exact H (fun v _ => ki rs tm h fun vs => k (v :: vs)) fun v h' hv => ih (fun vs hv => hk _ hv) hv
theorem aeG (vs : List Value) (k : Value → Bool) : AK vs k = k (wb vs) := by
 cases vs with
 | nil => rfl
 | cons a l => cases l <;> rfl
theorem MV {ds : List ef} {m : Option Value} {h : AH} {K : Option Value → AH → Prop} {k : Option Value → AH → Bool} (hk : ∀ m h, K m h → k m h = true) (H : WL P w0 ds m h K) : fa P w0 (.leave ds m h k) = true := by
 cases ds with
 | nil => exact lg P w0 (Li (rec := fa P w0) (Bw P w0) (show Lj (fa P w0) [] m h k = true from hk _ _ H))
 | cons a l => exact lg P w0 (ma.mono (fun r h hr => hk _ _ (of_decide_eq_true hr)) H)
theorem aeH {rs : List kQ} {R : CR → AH → Prop} {x : AX} {s : St} (H : By P w0 rs R x s.tm.get ⟨s.df, s.rc⟩ s.h) : AM (fa P w0) rs (fun r h => decide (R r h)) x s = true := by
 have hn : WL P w0 s.df none s.h (fun m h => match m with | none => lK rs s.tm.get h fun vs => R (.ret (wb vs)) h | some v => R (.aQ v) h) → fa P w0 (.leave s.df none s.h (AN rs s.tm fun r h => decide (R r h))) = true := fun H =>
  MV (fun m h hm => by
   cases m with
   | none =>
    show ki rs s.tm h (fun vs => AK vs fun v => decide (R (.ret v) h)) = true
    exact aeF (fun vs hv => by rw [aeG]; exact decide_eq_true hv) hm
   | some v => exact decide_eq_true hm) H
 cases x with
 | normal => exact hn H
 | ret => exact hn H
 | exit id => exact H.elim
 | aQ v =>
  have H' : WL P w0 s.df (some v) s.h (fun m h => match m with | none => rs = [] ∧ R (.ret (.tuple ⟨[]⟩)) h | some v => R (.aQ v) h) := H
  refine MV (fun m h hm => ?_) H'
  cases m with
  | none =>
   obtain ⟨h1, h2⟩ := hm
   subst h1
   exact decide_eq_true h2
  | some v => exact decide_eq_true hm
theorem aeI {args : List Value} {tm : PT} (dP : ∀ p : Pos, tm.get p = if 0 ≤ p.un ∧ p.un < 0 + args.length then args.getD (p.un - 0) undef else PT.e.get p) : tm.get = F9 args := by
 funext p
 rw [dP p]
 unfold F9
 split
 · rfl
 · rw [PT.Sd]
   have : ¬ p.un < args.length := by omega
   simp [List.getD, this]
theorem zN (bF : P.follows .mixedOrders = true) {f : FuncId} {af : gn} (hf : bW P f = some af) {args : List Value} {h : AH} {R : CR → AH → Prop}
 (H : dS P w0 af.code ⟨f, af.ntmps, none⟩ (F9 args) ⟨[], .off⟩ h (By P w0 af.results R)) : WF P w0 f args h R := by
 refine Tz (Bw P w0) hf ?_
 obtain ⟨nt, rs, code, dt⟩ := af
 show rO 0 args .e (fun tm => fa P w0 (.code code ⟨f, nt, none⟩ ⟨tm, [], .off, h⟩ (AM (fa P w0) rs _))) = true
 have lay : ∀ (vs : List Value) (i : Nat) (t : PT) (k : PT → Bool), (∀ t' : PT, (∀ p : Pos, t'.get p = if i ≤ p.un ∧ p.un < i + vs.length then vs.getD (p.un - i) undef else t.get p) → k t' = true) → rO i vs t k = true := by
  intro vs
  induction vs with
  | nil => intro i t k hk; exact hk t fun p => by rw [if_neg (by simp)]
  | cons v vs ih =>
   intro i t k hk
   show PT.gb (Pos.of i) t v (fun t => rO (i + 1) vs t k) = true
   rw [PT.lB]
   refine ih _ _ _ fun t' tu => hk t' fun p => ?_
   rw [tu, PT.cZ]
   by_cases h3 : p.un = i
   · have hp : p = Pos.of i := Pos.sX (by rw [Pos.kP]; exact h3)
     rw [if_neg (by omega), if_pos hp, if_pos (by simp; omega)]
     simp [h3]
   · have hp : ¬ p = Pos.of i := fun e => h3 (by rw [e, Pos.kP])
     by_cases h4 : i + 1 ≤ p.un ∧ p.un < i + 1 + vs.length
     · rw [if_pos h4, if_pos (by simp; omega)]
       have : p.un - i = (p.un - (i + 1)) + 1 := by omega
       rw [this]; simp
     · rw [if_neg h4, if_neg hp, if_neg (by simp; omega)]
 refine lay args 0 .e _ fun tm dP => ?_
 exact lg P w0 (dk.wa (fun x s hx => aeH (of_decide_eq_true hx)) (F8 bF code H tm (aeI dP)))
def AH.Ok (h : AH) : Prop := ∀ f, h.nx ≤ f → h.ob.get f = none
end
end
end Go.Ve
namespace Go.Ve
open Go.RowKit
noncomputable section
theorem eJ (k : Bool) : iff true k = k := rfl
theorem mZ (k : IntKind) : eS k k = true := by cases k <;> rfl
theorem aeJ (a b : Nat) : Nat.beq a b = decide (a = b) := by
 by_cases h : a = b
 · subst h; simp
 · rw [eP h]; simp [h]
theorem yc (a b : Int) : kj a b = decide (a = b) := by
 rw [Bool.eq_iff_iff, decide_eq_true_iff]
 cases a <;> cases b <;> simp only [kj, aeJ, decide_eq_true_iff]
 · exact Int.ofNat_inj.symm
 · constructor
   · intro h; cases h
   · intro h; cases h
 · constructor
   · intro h; cases h
   · intro h; cases h
 · constructor
   · intro h; rw [h]
   · intro h; cases h; rfl
theorem Ga (a b : Int) : me a b = decide (a < b) := by
 rw [Bool.eq_iff_iff, decide_eq_true_iff]
 cases a <;> cases b <;> simp only [me]
 · rename_i a b
   show Nat.ble (a + 1) b = true ↔ _
   rw [Nat.ble_eq]
   show a + 1 ≤ b ↔ (a : Int) < (b : Int)
   omega
 · rename_i a b
   constructor
   · intro h; cases h
   · intro h; have h' : (a : Int) < Int.negSucc b := h; omega
 · rename_i a b
   constructor
   · intro _; show Int.negSucc a < (b : Int); omega
   · intro _; first | trivial | rfl
 · rename_i a b
   show Nat.ble (b + 1) a = true ↔ Int.negSucc a < Int.negSucc b
   rw [Nat.ble_eq]
   omega
theorem jW {n : Int} (h1 : -9223372036854775808 ≤ n) (h2 : n ≤ 9223372036854775807) : bf .i64 n = n := by
 cases n with
 | ofNat a =>
  show (bif Nat.ble a rR then (Int.ofNat a) else _) = _
  have : Nat.ble a rR = true := by rw [Nat.ble_eq]; have : ((a : Nat) : Int) ≤ 9223372036854775807 := h2; show a ≤ 9223372036854775807; omega
  rw [this]; rfl
 | negSucc a =>
  show (bif Nat.ble a rR then (Int.negSucc a) else _) = _
  have : Nat.ble a rR = true := by rw [Nat.ble_eq]; show a ≤ 9223372036854775807; omega
  rw [this]; rfl
def AH.rd (h : AH) (b o : Nat) : Option Value := match h.ob.get b with
 | some (.cells lo hi _ _ c) => if lo ≤ o ∧ o + 1 ≤ hi then c.get o else none
 | _ => none
def AH.can (h : AH) (b o n : Nat) : Prop := ∃ lo hi ty c, h.ob.get b = some (.cells lo hi ty true c) ∧ lo ≤ o ∧ o + n ≤ hi
def iS : NT Value → Nat → List Value → NT Value
 | c, _, [] => c
 | c, i, v :: l => iS (c.set i (some v)) (i + 1) l
def AH.wr (h : AH) (b o : Nat) (l : List Value) : AH := match h.ob.get b with
 | some (.cells lo hi ty rw c) => ⟨h.nx, h.ob.set b (some (.cells lo hi ty rw (iS c o l)))⟩
 | _ => h
def AH.new (h : AH) (ty : TypeId) (l : List Value) : AH := ⟨h.nx + 1, h.ob.set h.nx (some (.cells 0 l.length ty true (iS .e 0 l)))⟩
theorem Gb : ∀ (l : List Value) (c : NT Value) (i : Nat) (k : NT Value → Bool), vF c i l k = k (iS c i l)
 | [], c, i, k => rfl
 | v :: l, c, i, k => by
  show NT.gb (oG i) c i (some v) (fun c' => fN (Nat.succ i) fun i' => vF c' i' l k) = _
  rw [NT.lB, bO, Gb l]
  rfl
theorem wc : ∀ (l : List Value) (c : NT Value) (i j : Nat), (iS c i l).get j = if i ≤ j ∧ j < i + l.length then l[j - i]? else c.get j
 | [], c, i, j => by
  rw [if_neg (fun h => by have := h.2; simp at this; omega)]; rfl
 | v :: l, c, i, j => by
  show (iS (c.set i (some v)) (i + 1) l).get j = _
  rw [wc l, NT.cZ]
  by_cases h : j = i
  · subst h
    rw [if_neg (by omega), if_pos rfl, if_pos (by simp)]
    simp
  · rw [if_neg h]
    by_cases h2 : i + 1 ≤ j ∧ j < i + 1 + l.length
    · rw [if_pos h2, if_pos (by simp; omega)]
      have : j - i = (j - (i + 1)) + 1 := by omega
      rw [this]; simp
    · rw [if_neg h2, if_neg (by simp; omega)]
theorem AH.Gc (h : AH) (ty : TypeId) (l : List Value) (b o : Nat) : (h.new ty l).rd b o = if b = h.nx then l[o]? else h.rd b o := by
 unfold AH.rd AH.new
 simp only [NT.cZ]
 by_cases e : b = h.nx
 · subst e
   simp only [if_true]
   rw [wc]
   by_cases ho : o < l.length
   · rw [if_pos (by omega), if_pos (by omega)]; rfl
   · rw [if_neg (by omega)]; simp [Nat.le_of_not_lt ho]
 · simp only [if_neg e]
theorem AH.MW (h : AH) (ty : TypeId) (l : List Value) : (h.new ty l).nx = h.nx + 1 := rfl
theorem AH.sd {h : AH} (H : h.Ok) (ty : TypeId) (l : List Value) : (h.new ty l).Ok := fun f hf => by
 have : h.nx + 1 ≤ f := hf
 show (h.ob.set h.nx _).get f = none
 rw [NT.cZ, if_neg (by omega)]
 exact H f (by omega)
theorem AH.MX (h : AH) (ty : TypeId) (l : List Value) {o n : Nat} (hn : o + n ≤ l.length) : (h.new ty l).can h.nx o n :=
 ⟨0, l.length, ty, _, by show (h.ob.set h.nx _).get h.nx = _; rw [NT.cZ, if_pos rfl], Nat.zero_le _, hn⟩
theorem AH.aeK {h : AH} (ty : TypeId) (l : List Value) {b o n : Nat} (H : h.can b o n) (hb : b ≠ h.nx) : (h.new ty l).can b o n := by
 obtain ⟨lo, hi, cf, c, h1, h2, h3⟩ := H
 exact ⟨lo, hi, cf, c, by show (h.ob.set h.nx _).get b = _; rw [NT.cZ, if_neg hb]; exact h1, h2, h3⟩
theorem AH.lh (h : AH) (b o : Nat) (l : List Value) : (h.wr b o l).nx = h.nx := by unfold AH.wr; split <;> rfl
theorem AH.tK (h : AH) {b o : Nat} {l : List Value} {b' : Nat} (hb : b' ≠ b) : (h.wr b o l).ob.get b' = h.ob.get b' := by
 unfold AH.wr; split
 · simp only [NT.cZ, if_neg hb]
 · rfl
theorem AH.tL {h : AH} {b o n : Nat} {l : List Value} (H : h.can b o n) (hl : l.length ≤ n) (b' o' : Nat) : (h.wr b o l).rd b' o' = if b' = b ∧ o ≤ o' ∧ o' < o + l.length then l[o' - o]? else h.rd b' o' := by
 obtain ⟨lo, hi, ty, c, h1, h2, h3⟩ := H
 by_cases e : b' = b
 · subst e
   unfold AH.rd AH.wr
   simp only [h1, NT.cZ, if_true]
   rw [wc]
   by_cases ho : o ≤ o' ∧ o' < o + l.length
   · simp only [ho, and_self, if_true]
     rw [if_pos (by omega)]
   · simp only [true_and, if_neg ho]
 · rw [if_neg (fun h => e h.1)]
   unfold AH.rd
   rw [AH.tK h e]
theorem AH.Gd {h : AH} {b o : Nat} {l : List Value} {b' o' n' : Nat} (H : h.can b' o' n') : (h.wr b o l).can b' o' n' := by
 by_cases e : b' = b
 · subst e
   obtain ⟨lo, hi, ty, c, h1, h2, h3⟩ := H
   unfold AH.can AH.wr
   simp only [h1, NT.cZ, if_true]
   exact ⟨lo, hi, ty, _, rfl, h2, h3⟩
 · obtain ⟨lo, hi, ty, c, h1, h2, h3⟩ := H
   exact ⟨lo, hi, ty, c, by rw [AH.tK h e]; exact h1, h2, h3⟩
theorem AH.se {h : AH} (H : h.Ok) (b o : Nat) (l : List Value) : (h.wr b o l).Ok := fun f hf => by
 rw [AH.lh] at hf
 unfold AH.wr
 split
 · rename_i lo hi ty rw c heq
   show (h.ob.set b _).get f = none
   rw [NT.cZ]
   by_cases e : f = b
   · subst e; rw [H f hf] at heq; cases heq
   · rw [if_neg e]; exact H f hf
 · exact H f hf
theorem AH.lt_of_get {h : AH} (H : h.Ok) {b : Nat} {o : AO} (hr : h.ob.get b = some o) : b < h.nx := by
 rcases Nat.lt_or_ge b h.nx with h1 | h1
 · exact h1
 · rw [H b h1] at hr; cases hr
theorem AH.aeL {h : AH} {b o : Nat} {v : Value} (hr : h.rd b o = some v) : ∃ a, h.ob.get b = some a := by
 unfold AH.rd at hr
 split at hr
 · rename_i heq; exact ⟨_, heq⟩
 · cases hr
theorem AH.aeM {h : AH} (H : h.Ok) {b o : Nat} {v : Value} (hr : h.rd b o = some v) : b < h.nx := by
 obtain ⟨a, ha⟩ := AH.aeL hr; exact AH.lt_of_get H ha
structure cU (h h' : AH) : Prop where
 nx : h.nx ≤ h'.nx
 get : ∀ b, b < h.nx → h'.ob.get b = h.ob.get b
theorem cU.refl (h : AH) : cU h h := ⟨Nat.le_refl _, fun _ _ => rfl⟩
theorem cU.trans {a b c : AH} (h1 : cU a b) (h2 : cU b c) : cU a c := ⟨Nat.le_trans h1.nx h2.nx, fun f hf => (h2.get f (Nat.lt_of_lt_of_le hf h1.nx)).trans (h1.get f hf)⟩
theorem cU.new (h : AH) (ty : TypeId) (l : List Value) : cU h (h.new ty l) := ⟨Nat.le_succ _, fun f hf => by show (h.ob.set h.nx _).get f = _; rw [NT.cZ, if_neg (by omega)]⟩
theorem cU.wr {a h : AH} (H : cU a h) {b : Nat} (hb : a.nx ≤ b) (o : Nat) (l : List Value) : cU a (h.wr b o l) :=
 ⟨by rw [AH.lh]; exact H.nx, fun f hf => by rw [AH.tK h (by omega)]; exact H.get f hf⟩
theorem cU.rd {h h' : AH} (H : cU h h') (eR : h.Ok) {b o : Nat} {v : Value} (hr : h.rd b o = some v) : h'.rd b o = some v := by
 have := AH.aeM eR hr
 unfold AH.rd at hr ⊢
 rw [H.get b this]; exact hr
def AH.bE (h : AH) (b o : Nat) (l : List Value) : Prop := ∀ i v, l[i]? = some v → h.rd b (o + i) = some v
theorem AH.MY (h : AH) (b o : Nat) : h.bE b o [] := fun i v hv => by simp at hv
theorem AH.VS {h : AH} {b o : Nat} {v : Value} {l : List Value} : h.bE b o (v :: l) ↔ h.rd b o = some v ∧ h.bE b (o + 1) l := by
 constructor
 · intro H
   exact ⟨H 0 v rfl, fun i u hu => by have := H (i + 1) u (by simpa using hu); rwa [show o + (i + 1) = o + 1 + i by omega] at this⟩
 · rintro ⟨h1, h2⟩ i u hu
   cases i with
   | zero => simp at hu; subst hu; exact h1
   | succ i => have := h2 i u (by simpa using hu); rwa [show o + 1 + i = o + (i + 1) by omega] at this
theorem cU.bE {h h' : AH} (H : cU h h') (eR : h.Ok) {b o : Nat} {l : List Value} (hr : h.bE b o l) : h'.bE b o l := fun i v hv => H.rd eR (hr i v hv)
theorem AH.Ge (h : AH) (ty : TypeId) (l : List Value) : (h.new ty l).bE h.nx 0 l := fun i v hv => by rw [AH.Gc, if_pos rfl, Nat.zero_add]; exact hv
theorem MZ {α : Type} {t : NT α} : ∀ {i : Nat} {k : α → Bool} {x : α}, t.get i = some x → t.dr i k = k x := by
 induction t with
 | e => intro i k x h; cases h
 | n l v r M0 ihr =>
  intro i k x hx
  rw [NT.Ku]
  rw [NT.get] at hx
  cases h0 : Nat.beq i 0 with
  | true => rw [h0] at hx; cases v with
   | none => cases hx
   | some y => cases hx; rfl
  | false =>
   rw [h0] at hx
   cases h1 : Nat.beq (Nat.mod i 2) 1 with
   | true => rw [h1] at hx; exact M0 hx
   | false => rw [h1] at hx; exact ihr hx
theorem tM {h : AH} {b : Nat} {o : AO} (ho : h.ob.get b = some o) (k : AO → Bool) : mT h b k = k o := by
 cases h; exact MZ ho
theorem M1 (h : AH) (b : Nat) (o : Option AO) (k : AH → Bool) : fP h b o k = k ⟨h.nx, h.ob.set b o⟩ := by
 cases h with
 | mk nx ob => exact NT.lB ob b o fun aU => k ⟨nx, aU⟩
theorem M3 (h : AH) (o : AO) (k : Nat → AH → Bool) : kY h o k = k h.nx ⟨h.nx + 1, h.ob.set h.nx (some o)⟩ := by
 cases h with
 | mk nx ob =>
  show NT.gb (oG nx) ob nx (some o) (fun aU => fN (Nat.succ nx) fun qg => k nx ⟨qg, aU⟩) = _
  rw [NT.lB, bO]
theorem we (h : AH) (ty : TypeId) {l : List Value} (ha : cP l = true) (k : Nat → AH → Bool) : jR h ty l k = k h.nx (h.new ty l) := by
 unfold jR
 rw [ha, eJ, Gb, bO, M3]
 rfl
theorem VT (c : NT Value) : ∀ (l : List Value) (i : Nat) (k : List Value → Bool), (∀ j v, l[j]? = some v → c.get (i + j) = some v) → nX c i l.length k = k l
 | [], i, k, _ => rfl
 | v :: l, i, k, H => by
  show NT.dr c i (fun v => fN (Nat.succ i) fun i' => nX c i' l.length fun l => k (v :: l)) = _
  rw [MZ (by have := H 0 v rfl; rwa [Nat.add_zero] at this), bO, VT c l (i + 1) _ fun j u hu => by
   have := H (j + 1) u (by simpa using hu); rwa [show i + (j + 1) = i + 1 + j by omega] at this]
theorem Gf {h : AH} {b o : Nat} {v : Value} (hr : h.rd b o = some v) : ∃ lo hi ty rw c, h.ob.get b = some (.cells lo hi ty rw c) ∧ lo ≤ o ∧ o + 1 ≤ hi ∧ c.get o = some v := by
 unfold AH.rd at hr
 split at hr
 · rename_i lo hi ty rw c heq
   split at hr
   · rename_i hb; exact ⟨lo, hi, ty, rw, c, heq, hb.1, hb.2, hr⟩
   · cases hr
 · cases hr
theorem aeN {h : AH} {b o : Nat} {v : Value} (hr : h.rd b o = some v) (k : Value → Bool) : qc h b o k = k v := by
 obtain ⟨lo, hi, ty, rw, c, h1, h2, h3, h4⟩ := Gf hr
 unfold qc kZ
 rw [tM h1]
 show iff (Nat.ble lo o && Nat.ble (Nat.succ o) hi) (NT.dr c o k) = _
 have e : (Nat.ble lo o && Nat.ble (Nat.succ o) hi) = true := by simp only [Bool.and_eq_true, Nat.ble_eq]; exact ⟨h2, h3⟩
 rw [e, eJ, MZ h4]
theorem aeO {h : AH} {b o : Nat} {l : List Value} (hr : h.bE b o l) (hl : 0 < l.length) : ∃ lo hi ty rw c, h.ob.get b = some (.cells lo hi ty rw c) ∧ lo ≤ o ∧ o + l.length ≤ hi ∧ ∀ j v, l[j]? = some v → c.get (o + j) = some v := by
 obtain ⟨lo, hi, ty, rw, c, h1, h2, h3, h4⟩ := Gf (hr 0 l[0] (by simp [hl]))
 have key : ∀ j v, l[j]? = some v → lo ≤ o + j ∧ o + j + 1 ≤ hi ∧ c.get (o + j) = some v := by
  intro j v hv
  obtain ⟨tN, du, cf, l7, c', g1, g2, g3, g4⟩ := Gf (hr j v hv)
  rw [h1] at g1; cases g1
  exact ⟨g2, g3, g4⟩
 refine ⟨lo, hi, ty, rw, c, h1, h2, ?_, fun j v hv => (key j v hv).2.2⟩
 have := (key (l.length - 1) l[l.length - 1] (by simp [hl])).2.1
 omega
theorem Gg {h : AH} {b o n : Nat} {l : List Value} (hr : h.bE b o l) (hn : l.length = n) (hl : 0 < n) (k : List Value → Bool) : jQ h b o n k = k l := by
 subst hn
 obtain ⟨lo, hi, ty, rw, c, h1, h2, h3, h4⟩ := aeO hr hl
 unfold jQ kZ
 rw [tM h1]
 show iff (Nat.ble lo o && Nat.ble (Nat.add o l.length) hi) (nX c o l.length k) = _
 have e : (Nat.ble lo o && Nat.ble (Nat.add o l.length) hi) = true := by simp only [Bool.and_eq_true, Nat.ble_eq]; exact ⟨h2, h3⟩
 rw [e, eJ, VT c l o k h4]
theorem Gh {h : AH} {b o : Nat} {l : List Value} (hc : h.can b o l.length) (ha : cP l = true) (k : AH → Bool) : oT h b o l k = k (h.wr b o l) := by
 obtain ⟨lo, hi, ty, c, h1, h2, h3⟩ := hc
 unfold oT kZ
 rw [tM h1]
 show iff (true && Nat.ble lo o && Nat.ble (Nat.add o l.length) hi && cP l) _ = _
 have e : (true && Nat.ble lo o && Nat.ble (Nat.add o l.length) hi && cP l) = true := by simp only [Bool.and_eq_true, Nat.ble_eq]; exact ⟨⟨⟨trivial, h2⟩, h3⟩, ha⟩
 rw [e, eJ, Gb, M1]
 unfold AH.wr
 rw [h1]
theorem tO : ∀ (l : List Value) (n : Nat), ia l n = decide (l.length = n)
 | [], 0 => rfl
 | [], n + 1 => by show false = _; simp
 | v :: l, 0 => by show false = _; simp
 | v :: l, n + 1 => by show ia l n = _; rw [tO l n]; simp
section
variable {h : AH} {R : Value → AH → Prop}
theorem Gi {x : Value} : WP .move [x] h R ↔ R x h := cC fun _ => rfl
theorem bB {c : Bool} {a b : Value} : WP .pick [.bool c, a, b] h R ↔ R (bif c then a else b) h := cC fun k => by cases c <;> rfl
theorem Bz {ty : TypeId} {zero : List Value} (ha : cP zero = true) : WP (.alloc ty zero) [] h R ↔ R (al h.nx 0) (h.new ty zero) := cC fun k => we h ty ha _
theorem Gj {ty : TypeId} {v : Value} (ha : cP (cellsOf v) = true) : WP (.box ty) [v] h R ↔ R (al h.nx 0) (h.new ty (cellsOf v)) := cC fun k => we h ty ha _
abbrev dL (b o n c : Nat) : Value := .slice (some ⟨b, o, none⟩) n c
abbrev vi (n : Int) : Value := .int .i64 n
abbrev bN : Value := .slice none 0 0
theorem Gk {b o : Nat} {s : Option Nat} {v : Value} (hr : h.rd b o = some v) : WP .ay [.pointer (some ⟨b, o, s⟩)] h R ↔ R v h := cC fun _ => aeN hr _
theorem Gl {b o n : Nat} {s : Option Nat} {l : List Value} (hr : h.bE b o l) (hn : l.length = n) (h0 : 0 < n) : WP (.bL n) [.pointer (some ⟨b, o, s⟩)] h R ↔ R (.agg ⟨l⟩) h := cC fun _ => Gg hr hn h0 _
theorem Gm {b o n : Nat} {s : Option Nat} {v : Value} (hc : h.can b o n) (hn : (cellsOf v).length = n) (ha : cP (cellsOf v) = true) : WP (.store n) [.pointer (some ⟨b, o, s⟩), v] h R ↔ R undef (h.wr b o (cellsOf v)) :=
 cC fun k => by
  show iff (ia (cellsOf v) n) (oT h b o (cellsOf v) fun h => k undef h) = _
  rw [tO, decide_eq_true hn, eJ, Gh (by rw [hn]; exact hc) ha]
theorem cr {b o off : Nat} {s : Option Nat} : WP (.fieldAddr off) [.pointer (some ⟨b, o, s⟩)] h R ↔ R (al b (o + off)) h := cC fun k => by
 show fN (Nat.add o off) (fun o' => k (al b o') h) = _
 rw [bO]; rfl
theorem Gn : ∀ {l : List Value} {i : Nat} {v : Value} (_ : l[i]? = some v) (k : Value → Bool), nW l i k = k v
 | [], i, v, h, k => by simp at h
 | x :: l, 0, v, h, k => by simp at h; subst h; rfl
 | x :: l, i + 1, v, h, k => by show nW l i k = _; exact Gn (by simpa using h) k
theorem M4 : ∀ {l : List Value} {i : Nat} (_ : i ≤ l.length) (k : List Value → Bool), qf l i k = k (l.drop i)
 | [], 0, h, k => rfl
 | [], i + 1, h, k => by simp at h
 | x :: l, 0, h, k => rfl
 | x :: l, i + 1, h, k => by show qf l i k = _; rw [M4 (by simpa using h)]; rfl
theorem M5 : ∀ {l : List Value} {i : Nat} (_ : i ≤ l.length) (k : List Value → Bool), qe l i k = k (l.take i)
 | [], 0, h, k => rfl
 | [], i + 1, h, k => by simp at h
 | x :: l, 0, h, k => rfl
 | x :: l, i + 1, h, k => by show qe l i (fun l' => k (x :: l')) = _; rw [M5 (by simpa using h)]; rfl
theorem aeP {sz b o n c i : Nat} {kd : IntKind} {s : Option Nat} (hi : i < n) : WP (.cS sz) [.slice (some ⟨b, o, s⟩) n c, .int kd (i : Int)] h R ↔ R (al b (o + i * sz)) h := cC fun k => by
 show iff (Nat.ble (Nat.succ i) n) (fN (Nat.add o (Nat.mul i sz)) fun o' => k (al b o') h) = _
 have : Nat.ble (Nat.succ i) n = true := by rw [Nat.ble_eq]; exact hi
 rw [this, eJ, bO]; rfl
theorem aeQ {len i : Nat} {kd : IntKind} {l : List Value} {v : Value} (hi : i < len) (hv : l[i]? = some v) : WP (.zI len) [.agg ⟨l⟩, .int kd (i : Int)] h R ↔ R v h := cC fun k => by
 show iff (Nat.ble (Nat.succ i) len) (nW l i fun v => k v h) = _
 have : Nat.ble (Nat.succ i) len = true := by rw [Nat.ble_eq]; exact hi
 rw [this, eJ, Gn hv]
theorem aeR {len sz i : Nat} {kd : IntKind} {l : List Value} (hi : i < len) (hl : len * sz ≤ l.length) : WP (.IQ len sz) [.agg ⟨l⟩, .int kd (i : Int)] h R ↔ R (.agg ⟨(l.drop (i * sz)).take sz⟩) h := cC fun k => by
 show iff (Nat.ble (Nat.succ i) len) (qf l (Nat.mul i sz) fun l => qe l sz fun l => k (.agg ⟨l⟩) h) = _
 have : Nat.ble (Nat.succ i) len = true := by rw [Nat.ble_eq]; exact hi
 have h1 : i * sz + sz ≤ l.length := by
  have : (i + 1) * sz ≤ len * sz := Nat.mul_le_mul_right _ hi
  rw [Nat.add_mul] at this; omega
 rw [this, eJ, show Nat.mul i sz = i * sz from rfl, M4 (by omega), M5 (by simp only [List.length_drop]; omega)]
theorem iw {k : IntKind} {x y : Int} : WP (.aD .add) [.int k x, .int k y] h R ↔ R (.int k (bf k (x + y))) h := cC fun kk => by
 show iff (eS k k) (fI (bf k (Int.add x y)) fun n => kk (.int k n) h) = _
 rw [mZ, eJ, mc]; rfl
theorem wg {k : IntKind} {x y : Int} : WP (.aD .sub) [.int k x, .int k y] h R ↔ R (.int k (bf k (x - y))) h := cC fun kk => by
 show iff (eS k k) (fI (bf k (Int.sub x y)) fun n => kk (.int k n) h) = _
 rw [mZ, eJ, mc]; rfl
theorem BA {k : IntKind} {x y : Int} : WP (.aD .mul) [.int k x, .int k y] h R ↔ R (.int k (bf k (x * y))) h := cC fun kk => by
 show iff (eS k k) (fI (bf k (Int.mul x y)) fun n => kk (.int k n) h) = _
 rw [mZ, eJ, mc]; rfl
theorem aeS {k : IntKind} {x y : Int} (hy : y ≠ 0) : WP (.aD .rem) [.int k x, .int k y] h R ↔ R (.int k (x.tmod y)) h := cC fun kk => by
 show iff (eS k k) (bif kj y (.ofNat 0) then false else fI (Int.tmod x y) fun n => kk (.int k n) h) = _
 rw [mZ, eJ, yc, show Int.ofNat 0 = 0 from rfl, decide_eq_false hy, mc]; rfl
theorem cg {k : IntKind} {x y : Int} : WP (.aD .eql) [.int k x, .int k y] h R ↔ R (.bool (decide (x = y))) h := cC fun kk => by
 show iff (eS k k) (fB (kj x y) fun b => kk (.bool b) h) = _
 rw [mZ, eJ, gQ, yc]
theorem tP {k : IntKind} {x y : Int} : WP (.aD .neq) [.int k x, .int k y] h R ↔ R (.bool (!decide (x = y))) h := cC fun kk => by
 show iff (eS k k) (fB (!kj x y) fun b => kk (.bool b) h) = _
 rw [mZ, eJ, gQ, yc]
theorem jf {k : IntKind} {x y : Int} : WP (.aD .lss) [.int k x, .int k y] h R ↔ R (.bool (decide (x < y))) h := cC fun kk => by
 show iff (eS k k) (fB (me x y) fun b => kk (.bool b) h) = _
 rw [mZ, eJ, gQ, Ga]
theorem tQ {k : IntKind} {x y : Int} : WP (.aD .leq) [.int k x, .int k y] h R ↔ R (.bool (decide (x ≤ y))) h := cC fun kk => by
 show iff (eS k k) (fB (!me y x) fun b => kk (.bool b) h) = _
 rw [mZ, eJ, gQ, Ga]
 congr 2
 rw [← decide_not]
 congr 1
 exact propext Int.not_lt
theorem oY {k : IntKind} {x y : Int} : WP (.aD .gtr) [.int k x, .int k y] h R ↔ R (.bool (decide (y < x))) h := cC fun kk => by
 show iff (eS k k) (fB (me y x) fun b => kk (.bool b) h) = _
 rw [mZ, eJ, gQ, Ga]
theorem qo {k : IntKind} {x y : Int} : WP (.aD .geq) [.int k x, .int k y] h R ↔ R (.bool (decide (y ≤ x))) h := cC fun kk => by
 show iff (eS k k) (fB (!me x y) fun b => kk (.bool b) h) = _
 rw [mZ, eJ, gQ, Ga]
 congr 2
 rw [← decide_not]
 congr 1
 exact propext Int.not_lt
theorem Gp {k k' : IntKind} {x : Int} : WP (.conv k') [.int k x] h R ↔ R (.int k' (bf k' x)) h := cC fun kk => by
 show fI (bf k' x) (fun n => kk (.int k' n) h) = _
 rw [mc]
theorem fy {b : Bool} : WP .eE [.bool b] h R ↔ R (.bool (!b)) h := cC fun kk => by
 show fB (!b) (fun b => kk (.bool b) h) = _
 rw [gQ]
theorem M6 {a b : Bool} : WP (.EI false) [.bool a, .bool b] h R ↔ R (.bool (a == b)) h := cC fun kk => by cases a <;> cases b <;> rfl
theorem M7 {a b : Bool} : WP (.EI true) [.bool a, .bool b] h R ↔ R (.bool (a != b)) h := cC fun kk => by cases a <;> cases b <;> rfl
theorem gT {l : List Value} {i : Nat} {v : Value} (hv : l[i]? = some v) : WP (.extract i) [.tuple ⟨l⟩] h R ↔ R v h := cC fun _ => Gn hv _
theorem M8 {a : Addr} {n c : Nat} : WP .di [.slice (some a) n c] h R ↔ R (.int .i64 (n : Int)) h := cC fun _ => by cases a; rfl
theorem aeT {n c : Nat} : WP .di [.slice none n c] h R ↔ R (.int .i64 0) h := cC fun _ => rfl
theorem Gq {fn : Fn} {nf : Nat} {vs : List Value} (hn : nf ≤ vs.length) : WP (.uR fn nf) vs h R ↔ R (.func fn ⟨vs.take nf⟩ ⟨vs.drop nf⟩) h := cC fun kk => by
 show qe vs nf (fun a => qf vs nf fun b => kk (.func fn ⟨a⟩ ⟨b⟩) h) = _
 rw [M5 hn, M4 hn]
theorem VU : ∀ {ss : List Nat} {vs : List Value} (_ : ss = vs.map fun v => (cellsOf v).length) (k : List Value → Bool), vv ss vs k = k (vs.flatMap cellsOf)
 | [], [], _, k => rfl
 | [], v :: vs, h, k => by simp at h
 | n :: ss, [], h, k => by simp at h
 | n :: ss, v :: vs, h, k => by
  simp only [List.map_cons, List.cons.injEq] at h
  show iff (ia (cellsOf v) n) (vv ss vs fun l => gM (cellsOf v) l k) = _
  rw [tO, decide_eq_true h.1.symm, eJ, VU h.2, tJ]; rfl
theorem aeU {ss : List Nat} {vs : List Value} (hs : ss = vs.map fun v => (cellsOf v).length) : WP (.cY ss) vs h R ↔ R (.agg ⟨vs.flatMap cellsOf⟩) h := cC fun _ => VU hs _
end
end
end Go.Ve
namespace Go.Ve
open Go.RowKit
noncomputable section
abbrev W := AH → Prop
def pr (p : Prim) (vs : List Value) (K : Value → W) : W := fun h => WP p vs h K
def ld (p : Prim) (vs : List Value) (K : Value → W) : W := fun h => WP p vs h fun v _ => K v h
def cl (P : Program) (w0 : World) (f : FuncId) (vs : List Value) (E K : Value → W) : W := fun h => WF P w0 f vs h fun r h => match r with
 | .ret v => K v h
 | .aQ v => E v h
def dy (P : Program) (w0 : World) (vs : List Value) (E K : Value → W) : W := match vs with
 | .func (.func g) ⟨first⟩ ⟨bI⟩ :: as => cl P w0 g (first ++ (as ++ bI)) E K
 | .func (.yield l) ⟨[]⟩ ⟨[]⟩ :: as => fun h => WR P w0 l as h fun r h => match r with
  | .ret v => K v h
  | .aQ v => E v h
 | _ => fun _ => False
def pn (vs : List Value) (E : Value → W) : W := match vs with
 | [.iface t x] => E (.iface t x)
 | _ => fun _ => False
def gd (g : Value) (want : Bool) (A : (Value → W) → W) (K : Value → W) : W := match g with
 | .bool b => bif mb b want then A K else K undef
 | _ => K undef
def br (c : Value) (A B : W) : W := match c with
 | .bool true => A
 | .bool false => B
 | _ => fun _ => False
def ck (p : Prim) (vs : List Value) (v : Value) (K : W) : W := fun h => WP p vs h (fun v' _ => oU v' v = true) ∧ K h
def ckm (p : Prim) (vs : List Value) (v : Value) (K : W) : W := fun h => p.fresh vs (vK ⟨.e, [], .off, h⟩ v) = true ∧ K h
def gk (g : Value) (want : Bool) (A : W → W) (K : W) : W := match g with
 | .bool b => bif mb b want then A K else K
 | _ => K
def jX {α : Type} (F : (α → W) → α → W) : Nat → α → W
 | 0, _ => fun _ => False
 | n + 1, a => F (jX F n) a
def LP {α : Type} (F : (α → W) → α → W) (a : α) : W := fun h => ∃ n, jX F n a h
theorem VV {α : Type} {F : (α → W) → α → W} (Inv : α → AH → Prop) (μ : α → AH → Nat)
 (step : ∀ a h (k : α → W), Inv a h → (∀ a' h', Inv a' h' → μ a' h' < μ a h → k a' h') → F k a h) {a : α} {h : AH} (H : Inv a h) : LP F a h := by
 have key : ∀ n a h, Inv a h → μ a h < n → jX F n a h := by
  intro n
  induction n with
  | zero => intro a h _ hn; exact absurd hn (Nat.not_lt_zero _)
  | succ n ih => intro a h hi hn; exact step a h _ hi fun a' h' du hm => ih a' h' du (by omega)
 exact ⟨_, key (μ a h + 1) a h H (Nat.lt_succ_self _)⟩
theorem M9 (A : (Value → W) → W) (K : Value → W) : gd (.bool true) true A K = A K := rfl
theorem Na (A : (Value → W) → W) (K : Value → W) : gd (.bool false) false A K = A K := rfl
theorem Nb (A : (Value → W) → W) (K : Value → W) : gd (.bool true) false A K = K undef := rfl
theorem Nc (A : (Value → W) → W) (K : Value → W) : gd (.bool false) true A K = K undef := rfl
theorem Nd (w : Bool) (A : (Value → W) → W) (K : Value → W) : gd undef w A K = K undef := rfl
theorem Nf (A : W → W) (K : W) : gk (.bool true) true A K = A K := rfl
theorem Ng (A : W → W) (K : W) : gk (.bool false) false A K = A K := rfl
theorem Nh (A : W → W) (K : W) : gk (.bool true) false A K = K := rfl
theorem Ni (A : W → W) (K : W) : gk (.bool false) true A K = K := rfl
theorem Nj (w : Bool) (A : W → W) (K : W) : gk undef w A K = K := rfl
theorem Nk (A B : W) : br (.bool true) A B = A := rfl
theorem Nl (A B : W) : br (.bool false) A B = B := rfl
def qp (σ : Sl) : List (Pos × Value) → Prop
 | [] => True
 | (p, v) :: U => σ p = v ∧ qp σ U
def Sl.sf (σ : Sl) : List (Pos × Value) → Sl
 | [] => σ
 | (p, v) :: U => Sl.up (Sl.sf σ U) p v
theorem wh {σ : Sl} : ∀ {U : List (Pos × Value)}, qp σ U → σ.sf U = σ
 | [], _ => rfl
 | (p, v) :: U, ⟨h1, h2⟩ => by
  show Sl.up (σ.sf U) p v = σ
  rw [wh h2]
  funext q
  unfold Sl.up
  cases h : p.beq q with
  | true => rw [← Pos.beq_iff.1 h]; exact h1.symm
  | false => rfl
section
variable {P : Program} {w0 : World} {e : Env} {σ : Sl} {d : DS} {h : AH} {Q : PQ} {l : List bh} {dl : List iJ} {a b c : c7}
theorem mF (H : Q .normal σ d h) : dS P w0 .skip e σ d h Q := H
theorem b9 (H : wpOps P w0 l e σ d h Q) : dS P w0 (.ops l) e σ d h Q := H
theorem aao (H : jA P w0 dl e σ d h Q) : dS P w0 (.draw dl) e σ d h Q := H
theorem cN (H : dS P w0 a e σ d h (vZ (fun σ d h => dS P w0 b e σ d h Q) Q)) : dS P w0 (.seq a b) e σ d h Q := H
theorem cb (H : Q .normal σ d h) : wpOps P w0 [] e σ d h Q := H
theorem aaq (H : Q .normal σ d h) : jA P w0 [] e σ d h Q := H
theorem cO {K : Sl → DS → AH → Prop} (H : K σ d h) : vZ K Q .normal σ d h := H
theorem lY {id : Nat} (H : dS P w0 c e σ d h (MT id Q)) : dS P w0 (.block id c) e σ d h Q := H
theorem kO {id : Nat} (H : Q .normal σ d h) : MT id Q .normal σ d h := H
theorem lZ {o : dB} {v : Value} {A B : W} (hv : dR σ o = v) (H : br v A B h) (ha : A h → dS P w0 a e σ d h Q) (hb : B h → dS P w0 b e σ d h Q) : dS P w0 (.cond o a b) e σ d h Q := by
 simp only [dS]
 rw [hv]
 unfold br at H
 revert H
 cases v <;> intro H <;> first | exact H.elim | skip
 rename_i t
 revert H
 cases t with
 | true => exact ha
 | false => exact hb
theorem BB {dst : Option Pos} {p : Prim} {vs : List Value} {K : Value → W} {K' : Sl → DS → AH → Prop} (H : pr p vs K h) (hK : ∀ v h, K v h → K' (σ.eC dst v) d h) : iR P w0 (.aC p) dst e σ d h vs Q K' := WP.mono hK H
theorem Gr {dst : Option Pos} {f : FuncId} {vs : List Value} {E K : Value → W} {K' : Sl → DS → AH → Prop} (H : cl P w0 f vs E K h) (hE : ∀ v h, E v h → Q (.aQ v) σ d h) (hK : ∀ v h, K v h → K' (σ.eC dst v) d h) : iR P w0 (.call f) dst e σ d h vs Q K' :=
 WF.mono (fun r h hr => by cases r with | ret v => exact hK _ _ hr | aQ v => exact hE _ _ hr) H
theorem VW {dst : Option Pos} {vs : List Value} {E K : Value → W} {K' : Sl → DS → AH → Prop} (H : dy P w0 vs E K h) (hE : ∀ v h, E v h → Q (.aQ v) σ d h) (hK : ∀ v h, K v h → K' (σ.eC dst v) d h) : iR P w0 .dyn dst e σ d h vs Q K' := by
 unfold dy at H
 simp only [iR]
 split at H
 · exact WF.mono (fun r h hr => by cases r with | ret v => exact hK _ _ hr | aQ v => exact hE _ _ hr) H
 · exact WR.mono (fun r h hr => by cases r with | ret v => exact hK _ _ hr | aQ v => exact hE _ _ hr) H
 · exact H.elim
theorem aeV {dst : Option Pos} {vs : List Value} {E : Value → W} {K' : Sl → DS → AH → Prop} (H : pn vs E h) (hE : ∀ v h, E v h → Q (.aQ v) σ d h) : iR P w0 .panic dst e σ d h vs Q K' := by
 unfold pn at H
 simp only [iR]
 split at H
 · exact hE _ _ H
 · exact H.elim
theorem Gs {dst : Option Pos} {act : iI} {args : List dB} {g : Pos} {gv : Value} {want : Bool} {A : (Value → W) → W} {K : Value → W} {K' : Sl → DS → AH → Prop} (hg : σ g = gv) (H : gd gv want A K h) (hA : A K h → iR P w0 act dst e σ d h (args.map (dR σ)) Q K') (hK : ∀ v h, K v h → K' (σ.eC dst v) d h) :
 wpOp P w0 ⟨dst, act, args, some (g, want)⟩ e σ d h Q K' := by
 unfold wpOp
 simp only []
 rw [hg]
 unfold gd at H
 revert H
 cases gv <;> intro H <;> first | exact hK _ _ H | skip
 rename_i b
 simp only at H ⊢
 revert H
 cases mb b want with
 | true => exact hA
 | false => exact hK _ _
theorem aeW {p : Prim} {args : List dB} {q g : Pos} {gv : Value} {want : Bool} {A : W → W} {K : W} (hg : σ g = gv) (H : gk gv want A K h) (hA : A K h → tI (.aC p) (some q) (args.map (dR σ)) σ h ∧ K h) : vY ⟨some q, .aC p, args, some (g, want)⟩ σ h ∧ K h := by
 unfold vY
 simp only []
 rw [hg]
 unfold gk at H
 revert H
 cases gv <;> intro H <;> first | exact ⟨trivial, H⟩ | skip
 rename_i b
 simp only at H ⊢
 revert H
 cases mb b want with
 | true => exact hA
 | false => exact fun H => ⟨trivial, H⟩
theorem dE {dst : Option Pos} {x : dB} {v : Value} (hv : dR σ x = v) (H : wpOps P w0 l e (σ.eC dst v) d h Q) : wpOps P w0 (⟨dst, .aC .move, [x], none⟩ :: l) e σ d h Q := by
 subst hv; exact fun k hk => hk _ _ H
theorem aN {dst : Option Pos} {p : Prim} {args : List dB} {vs : List Value} {K : Value → W} (hv : args.map (dR σ) = vs) (H : pr p vs K h) (hK : ∀ v h, K v h → wpOps P w0 l e (σ.eC dst v) d h Q) : wpOps P w0 (⟨dst, .aC p, args, none⟩ :: l) e σ d h Q := by
 subst hv; exact BB (P := P) (w0 := w0) (e := e) (dst := dst) (Q := Q) (K' := fun σ d h => wpOps P w0 l e σ d h Q) H hK
theorem oz {dst : Option Pos} {f : FuncId} {args : List dB} {vs : List Value} {E K : Value → W} (hv : args.map (dR σ) = vs) (H : cl P w0 f vs E K h) (hE : ∀ v h, E v h → Q (.aQ v) σ d h) (hK : ∀ v h, K v h → wpOps P w0 l e (σ.eC dst v) d h Q) : wpOps P w0 (⟨dst, .call f, args, none⟩ :: l) e σ d h Q := by
 subst hv; exact Gr (e := e) (dst := dst) (K' := fun σ d h => wpOps P w0 l e σ d h Q) H hE hK
theorem aa1 {dst : Option Pos} {args : List dB} {vs : List Value} {E K : Value → W} (hv : args.map (dR σ) = vs) (H : dy P w0 vs E K h) (hE : ∀ v h, E v h → Q (.aQ v) σ d h) (hK : ∀ v h, K v h → wpOps P w0 l e (σ.eC dst v) d h Q) : wpOps P w0 (⟨dst, .dyn, args, none⟩ :: l) e σ d h Q := by
 subst hv; exact VW (e := e) (dst := dst) (K' := fun σ d h => wpOps P w0 l e σ d h Q) H hE hK
theorem zO {dst : Option Pos} {x : dB} {v : Value} {g : Pos} {gv : Value} {want : Bool} {K : Value → W} (hg : σ g = gv) (hv : dR σ x = v) (H : gd gv want (fun k => k v) K h) (hK : ∀ v h, K v h → wpOps P w0 l e (σ.eC dst v) d h Q) : wpOps P w0 (⟨dst, .aC .move, [x], some (g, want)⟩ :: l) e σ d h Q := by
 subst hv; exact Gs (K' := fun σ d h => wpOps P w0 l e σ d h Q) hg H (fun H k hk => hk _ _ (hK _ _ H)) hK
theorem gm {dst : Option Pos} {p : Prim} {args : List dB} {vs : List Value} {g : Pos} {gv : Value} {want : Bool} {K : Value → W} (hg : σ g = gv) (hv : args.map (dR σ) = vs) (H : gd gv want (fun k => pr p vs k) K h) (hK : ∀ v h, K v h → wpOps P w0 l e (σ.eC dst v) d h Q) : wpOps P w0 (⟨dst, .aC p, args, some (g, want)⟩ :: l) e σ d h Q := by
 subst hv; exact Gs (K' := fun σ d h => wpOps P w0 l e σ d h Q) hg H (fun H => WP.mono hK H) hK
theorem aaD {dst : Option Pos} {f : FuncId} {args : List dB} {vs : List Value} {g : Pos} {gv : Value} {want : Bool} {E K : Value → W} (hg : σ g = gv) (hv : args.map (dR σ) = vs) (H : gd gv want (fun k => cl P w0 f vs E k) K h) (hE : ∀ v h, E v h → Q (.aQ v) σ d h) (hK : ∀ v h, K v h → wpOps P w0 l e (σ.eC dst v) d h Q) : wpOps P w0 (⟨dst, .call f, args, some (g, want)⟩ :: l) e σ d h Q := by
 subst hv; exact Gs (K' := fun σ d h => wpOps P w0 l e σ d h Q) hg H (fun H => Gr H hE hK) hK
theorem RD {i : Nat} {dst : Option Pos} {x : dB} {v : Value} (hv : dR σ x = v) (H : jA P w0 dl e (σ.eC dst v) d h Q) : jA P w0 (.op i ⟨dst, .aC .move, [x], none⟩ :: dl) e σ d h Q := by
 subst hv; exact fun k hk => hk _ _ H
theorem pQ {i : Nat} {dst : Option Pos} {p : Prim} {args : List dB} {vs : List Value} {K : Value → W} (hv : args.map (dR σ) = vs) (H : pr p vs K h) (hK : ∀ v h, K v h → jA P w0 dl e (σ.eC dst v) d h Q) : jA P w0 (.op i ⟨dst, .aC p, args, none⟩ :: dl) e σ d h Q := by
 subst hv; exact BB (P := P) (w0 := w0) (e := e) (dst := dst) (Q := Q) (K' := fun σ d h => jA P w0 dl e σ d h Q) H hK
theorem aap {i : Nat} {dst : Option Pos} {f : FuncId} {args : List dB} {vs : List Value} {E K : Value → W} (hv : args.map (dR σ) = vs) (H : cl P w0 f vs E K h) (hE : ∀ v h, E v h → Q (.aQ v) σ d h) (hK : ∀ v h, K v h → jA P w0 dl e (σ.eC dst v) d h Q) : jA P w0 (.op i ⟨dst, .call f, args, none⟩ :: dl) e σ d h Q := by
 subst hv; exact Gr (e := e) (dst := dst) (K' := fun σ d h => jA P w0 dl e σ d h Q) H hE hK
theorem Ef {i : Nat} {p : Prim} {args : List dB} {vs : List Value} {q : Pos} {v : Value} {K : W} (hm : p.makes = false) (hq : σ q = v) (hv : args.map (dR σ) = vs) (H : ck p vs v K h) (hK : K h → jA P w0 dl e σ d h Q) : jA P w0 (.iX i ⟨some q, .aC p, args, none⟩ :: dl) e σ d h Q := by
 subst hv; subst hq
 exact ⟨by unfold vY tI; simp only [hm]; exact H.1, hK H.2⟩
theorem Jg {α : Type} (U : List (Pos × Value)) (M : α → List (Pos × Value)) (π : Sl → α) (J : α → W) (hM : ∀ σ, qp σ (M (π σ))) (hb : ∀ (x : α) (σ : Sl) (h : AH), J x h → dS P w0 b e ((σ.sf U).sf (M x)) d h Q)
 (ha : dS P w0 a e σ d h (vZ (fun σ d' h => d' = d ∧ qp σ U ∧ J (π σ) h) Q)) : dS P w0 (.seq a b) e σ d h Q := by
 refine MU a (fun x σ d' h hx => ?_) ha
 cases x with
 | normal =>
  obtain ⟨rfl, h2, h3⟩ := hx
  have := hb (π σ) σ h h3
  rwa [wh h2, wh (hM σ)] at this
 | _ => exact hx
end
end
end Go.Ve
