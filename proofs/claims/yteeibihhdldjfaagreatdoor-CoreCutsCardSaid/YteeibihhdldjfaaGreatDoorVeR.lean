/- Part 18: VEval, part 35: functions that are known by a contract; closed calls that give constants. No condition. And what follows it. -/
import Derived.Test.YteeibihhdldjfaaGreatDoorVeQ
import Derived.Lib.Join
import Derived.Lib.ItoaNum
import Derived.Lib.Atoi
set_option linter.unusedVariables false
set_option linter.unusedSimpArgs false
namespace Go.Ve
open Go.RowKit
theorem HR.behind {P : Program} {w0 w w' : World} {φ : Phi} {h : AH} (H : HR P w0 φ h w) (hb : Below w.heap.size w w') : HR P w0 φ h w' := by
  refine ⟨H.inj, H.fresh, H.top, H.dead, fun f b d n hf => ?_, ?_⟩
  · obtain ⟨o, o', a1, a2, a3⟩ := H.obj f b d n hf
    exact ⟨o, o', a1, by rw [hb.block b (Array.getElem?_eq_some_iff.1 a2).1]; exact a2, a3⟩
  · have h1 := H.below
    exact ⟨hb.os.trans h1.os, hb.tape.trans h1.tape, hb.output.trans h1.output, Nat.le_trans h1.size (Nat.le_trans (by simp) hb.size), fun k hk => by rw [hb.block k (Nat.lt_of_lt_of_le hk h1.size)]; exact h1.block k hk⟩
theorem sum_ok {P : Program} {w0 : World} {f : FuncId} {S : List Value → AH → (CR → AH → Bool) → Bool} (hcan : Can P f)
    (hS : ∀ args h k φ args' w, S args h k = true → LR φ args args'.toList → HR P w0 φ h w → ∃ v c, VR φ v c ∧ k (.ret v) h = true ∧ Calls P f args' w fun E w' => E = .returned c ∧ Below w.heap.size w w') :
    ∀ (args : List Value) (h : AH) (k : CR → AH → Bool), S args h k = true → CallOk P w0 f args h k := by
  intro args h k e
  refine ⟨hcan, fun φ args' w hl H => ?_⟩
  obtain ⟨v, c, h1, h2, h3⟩ := hS args h k φ args' w e hl H
  refine Calls.mono h3 fun E w' hE => ?_
  exact ⟨.ret v, h, φ, h2, Ext.refl _ _, Nat.le_refl _, H.behind hE.2, c, hE.1, h1⟩
def plS : Value → Value → Bool
  | .bool a, .bool b => bif a then b else !b
  | .int k a, .int l b => eqK k l && eqI a b
  | .string a, .string b => eqBs a.data.toList b.data.toList
  | .nilIface, .nilIface => true
  | _, _ => false
def plSL : List Value → List Value → Bool
  | [], [] => true
  | a :: l, b :: m => plS a b && plSL l m
  | _, _ => false
def pl1 : Value → Value → Bool
  | .agg ⟨l⟩, .agg ⟨m⟩ => plSL l m
  | a, b => plS a b
def pl1L : List Value → List Value → Bool
  | [], [] => true
  | a :: l, b :: m => pl1 a b && pl1L l m
  | _, _ => false
def pl2 : Value → Value → Bool
  | .agg ⟨l⟩, .agg ⟨m⟩ => pl1L l m
  | .tuple ⟨l⟩, .tuple ⟨m⟩ => pl1L l m
  | a, b => plS a b
def Plain (a b : Value) : Prop := ∀ φ, VR φ a b ∧ ∀ v, VR φ a v → v = b
def PlainL (l m : List Value) : Prop := ∀ φ, LR φ l m ∧ ∀ l', LR φ l l' → l' = m
theorem PlainL.nil : PlainL [] [] := fun φ => ⟨.nil, fun l' h => by cases h; rfl⟩
theorem PlainL.cons {a b : Value} {l m : List Value} (h : Plain a b) (hl : PlainL l m) : PlainL (a :: l) (b :: m) := fun φ =>
  ⟨.cons _ _ _ _ (h φ).1 (hl φ).1, fun l' h' => by
    cases h' with | cons _ v _ l2 h1 h2 => rw [(h φ).2 v h1, (hl φ).2 l2 h2]⟩
theorem eqBs_t : ∀ {a b : List UInt8}, eqBs a b = true → a = b
  | [], [], _ => rfl
  | x :: l, y :: m, h => by
    have h' : (bif Nat.beq x.toNat y.toNat then eqBs l m else false) = true := h
    cases hx : Nat.beq x.toNat y.toNat with
    | false => rw [hx] at h'; cases h'
    | true =>
      rw [hx, cond_true] at h'
      rw [eqBs_t h', UInt8.toNat_inj.1 (Nat.eq_of_beq_eq_true hx)]
  | [], _ :: _, h => by cases h
  | _ :: _, [], h => by cases h
theorem plS_t {a b : Value} (h : plS a b = true) : Plain a b := by
  unfold plS at h
  split at h
  · rename_i a b
    have : a = b := by cases a <;> cases b <;> simp_all
    subst this
    exact fun φ => ⟨.bool _, fun v hv => hv.bool_inv⟩
  · rename_i k a l b
    rw [Bool.and_eq_true] at h
    obtain rfl := eqK_t h.1
    obtain rfl : a = b := by have := h.2; rw [eqI_eq] at this; simpa using this
    exact fun φ => ⟨.int _ _, fun v hv => hv.int_inv⟩
  · rename_i a b
    have h1 := eqBs_t h
    have : a = b := by
      apply ByteArray.ext
      exact Array.toList_inj.1 h1
    subst this
    exact fun φ => ⟨.str _, fun v hv => hv.str_inv⟩
  · exact fun φ => ⟨.nili, fun v hv => by cases hv; rfl⟩
  · cases h
theorem plSL_t : ∀ {l m : List Value}, plSL l m = true → PlainL l m
  | [], [], _ => .nil
  | a :: l, b :: m, h => by
    have h' : (plS a b && plSL l m) = true := h
    rw [Bool.and_eq_true] at h'
    exact .cons (plS_t h'.1) (plSL_t h'.2)
  | [], _ :: _, h => by cases h
  | _ :: _, [], h => by cases h
theorem Plain.agg {l m : List Value} (h : PlainL l m) : Plain (.agg ⟨l⟩) (.agg ⟨m⟩) := fun φ => ⟨.agg _ _ (h φ).1, fun v hv => by
  obtain ⟨a', rfl, h'⟩ := hv.agg_inv
  have := (h φ).2 _ h'
  cases a'; simp_all⟩
theorem Plain.tup {l m : List Value} (h : PlainL l m) : Plain (.tuple ⟨l⟩) (.tuple ⟨m⟩) := fun φ => ⟨.tup _ _ (h φ).1, fun v hv => by
  obtain ⟨a', rfl, h'⟩ := hv.tup_inv
  have := (h φ).2 _ h'
  cases a'; simp_all⟩
theorem pl1_t {a b : Value} (h : pl1 a b = true) : Plain a b := by
  unfold pl1 at h
  split at h
  · exact .agg (plSL_t h)
  · exact plS_t h
theorem pl1L_t : ∀ {l m : List Value}, pl1L l m = true → PlainL l m
  | [], [], _ => .nil
  | a :: l, b :: m, h => by
    have h' : (pl1 a b && pl1L l m) = true := h
    rw [Bool.and_eq_true] at h'
    exact .cons (pl1_t h'.1) (pl1L_t h'.2)
  | [], _ :: _, h => by cases h
  | _ :: _, [], h => by cases h
theorem pl2_t {a b : Value} (h : pl2 a b = true) : Plain a b := by
  unfold pl2 at h
  split at h
  · exact .agg (pl1L_t h)
  · exact .tup (pl1L_t h)
  · exact plS_t h
end Go.Ve
namespace Go.Ve
open Go.RowKit
noncomputable section
def digQ (f : Nat) (n : Nat) (acc : List UInt8) (k : List UInt8 → Bool) : Bool := match f with
  | 0 => false
  | f + 1 => bif Nat.ble 10 n then fN (Nat.div n 10) fun q => digQ f q (UInt8.ofNat (Nat.add 48 (Nat.mod n 10)) :: acc) k else k (UInt8.ofNat (Nat.add 48 n) :: acc)
def sItoa (vs : List Value) (h : AH) (k : CR → AH → Bool) : Bool := a1 vs fun v => intK v fun kd n => iff (eqK kd .i64) (match n with
  | .ofNat a => iff (Nat.ble a 9223372036854775807) (digQ 25 a [] fun l => k (.ret (.string ⟨⟨l⟩⟩)) h)
  | .negSucc a => iff (Nat.ble a 9223372036854775807) (fN (Nat.succ a) fun a => digQ 25 a [] fun l => k (.ret (.string ⟨⟨45 :: l⟩⟩)) h))
def sAtoi (vs : List Value) (h : AH) (k : CR → AH → Bool) : Bool := a1 vs fun v => strK v fun s => iff (Nat.ble s.data.toList.length 18) (match Go.Lib.atoi s.data.toList with
  | some n => fI n fun n => k (.ret (.tuple ⟨[.int .i64 n, .nilIface]⟩)) h
  | none => false)
def joinQ (sep : List UInt8) : List Value → (List UInt8 → Bool) → Bool
  | [], k => k []
  | [v], k => strK v fun s => k s.data.toList
  | v :: l, k => strK v fun s => joinQ sep l fun m => appB sep m fun m => appB s.data.toList m k
def sJoin (vs : List Value) (h : AH) (k : CR → AH → Bool) : Bool := a2 vs fun v s => strK s fun sep => slK v false fun b o n c => iff (Nat.ble 1 n && Nat.ble n 65536) (readAt h b o n fun l => joinQ sep.data.toList l fun m => iff (Nat.ble m.length 1048576) (k (.ret (.string ⟨⟨m⟩⟩)) h))
theorem digQ_t : ∀ (f n : Nat) {acc : List UInt8} {k : List UInt8 → Bool}, digQ f n acc k = true → k (Lib.decDigits n ++ acc) = true
  | 0, n, acc, k, h => by cases h
  | f + 1, n, acc, k, h => by
    have h1 : (bif Nat.ble 10 n then fN (Nat.div n 10) fun q => digQ f q (UInt8.ofNat (Nat.add 48 (Nat.mod n 10)) :: acc) k else k (UInt8.ofNat (Nat.add 48 n) :: acc)) = true := h
    by_cases hn : 10 ≤ n
    · rw [show Nat.ble 10 n = true from Nat.ble_eq_true_of_le hn, cond_true, fN_eq] at h1
      have h2 : k (Lib.decDigits (n / 10) ++ (UInt8.ofNat (48 + n % 10) :: acc)) = true := digQ_t f _ h1
      rw [Lib.decDigits, dif_neg (by omega)]
      simpa using h2
    · rw [show Nat.ble 10 n = false by rw [ble_dec]; simpa using hn, cond_false] at h1
      rw [Lib.decDigits, dif_pos (by omega)]
      exact h1
theorem sItoa_ok {P : Program} {w0 : World} {f : FuncId} (hcan : Can P f)
    (hI : ∀ (n : Int) (w : World), -9223372036854775808 ≤ n → n ≤ 9223372036854775807 → Below w0.heap.size w0 w → Calls P f #[.int .i64 n] w fun e w' => e = .returned (.string ⟨(Lib.itoa n).toArray⟩) ∧ Below w.heap.size w w') :
    ∀ (args : List Value) (h : AH) (k : CR → AH → Bool), sItoa args h k = true → CallOk P w0 f args h k := by
  refine sum_ok hcan fun args h k φ args' w e hl H => ?_
  obtain ⟨L, hL⟩ : ∃ L, args'.toList = L := ⟨_, rfl⟩
  rw [hL] at hl
  obtain ⟨v, rfl, e1⟩ := a1_t e
  obtain ⟨kd, n, rfl, e2⟩ := intK_t e1
  obtain ⟨e3, e4⟩ := iff_t e2
  obtain rfl := eqK_t e3
  have hargs : args' = #[.int .i64 n] := by
    cases hl with | cons _ v' _ l' h1 h2 => cases h2; apply Array.ext'; rw [hL, h1.int_inv]
  subst hargs
  refine ⟨.string ⟨(Lib.itoa n).toArray⟩, _, .str _, ?_, hI n w ?_ ?_ H.below⟩
  · cases n with
    | ofNat a =>
      obtain ⟨e5, e6⟩ := iff_t e4
      have := digQ_t _ _ e6
      rw [List.append_nil] at this
      rw [show Lib.itoa (Int.ofNat a) = Lib.decDigits a by unfold Lib.itoa; rw [if_neg (by have := Int.natCast_nonneg a; exact Int.not_lt.2 this)]; rfl]
      exact this
    | negSucc a =>
      obtain ⟨e5, e6⟩ := iff_t e4
      rw [fN_eq] at e6
      have := digQ_t _ _ e6
      rw [List.append_nil] at this
      rw [show Lib.itoa (Int.negSucc a) = 45 :: Lib.decDigits (a + 1) by unfold Lib.itoa; rw [if_pos (by omega)]; rfl]
      exact this
  · cases n with
    | ofNat a => have := Int.natCast_nonneg a; show -9223372036854775808 ≤ (a : Int); omega
    | negSucc a => have := Nat.le_of_ble_eq_true (iff_t e4).1; omega
  · cases n with
    | ofNat a => have := Nat.le_of_ble_eq_true (iff_t e4).1; show (a : Int) ≤ 9223372036854775807; omega
    | negSucc a => omega
theorem sAtoi_ok {P : Program} {w0 : World} {f : FuncId} (hcan : Can P f)
    (hI : ∀ (s : ByteArray) (n : Int) (w : World), s.size ≤ 18 → Lib.atoi s.data.toList = some n → Calls P f #[.string s] w fun e w' => e = .returned (.tuple #[.int .i64 n, .nilIface]) ∧ Below w.heap.size w w') :
    ∀ (args : List Value) (h : AH) (k : CR → AH → Bool), sAtoi args h k = true → CallOk P w0 f args h k := by
  refine sum_ok hcan fun args h k φ args' w e hl H => ?_
  obtain ⟨L, hL⟩ : ∃ L, args'.toList = L := ⟨_, rfl⟩
  rw [hL] at hl
  obtain ⟨v, rfl, e1⟩ := a1_t e
  obtain ⟨s, rfl, e2⟩ := strK_t e1
  obtain ⟨e3, e4⟩ := iff_t e2
  have hargs : args' = #[.string s] := by
    cases hl with | cons _ v' _ l' h1 h2 => cases h2; apply Array.ext'; rw [hL, h1.str_inv]
  subst hargs
  split at e4
  · rename_i n hn
    rw [fI_eq] at e4
    exact ⟨_, _, .tup ⟨[.int .i64 n, .nilIface]⟩ #[.int .i64 n, .nilIface] (.cons _ _ _ _ (.int _ _) (.cons _ _ _ _ .nili .nil)), e4, hI s n w (by have := Nat.le_of_ble_eq_true e3; simpa using this) hn⟩
  · cases e4
theorem appB_t : ∀ (l m : List UInt8) {k : List UInt8 → Bool}, appB l m k = true → k (l ++ m) = true
  | [], m, k, h => h
  | x :: l, m, k, h => appB_t l m (show appB l m (fun l' => k (x :: l')) = true from h)
theorem joinQ_t (sep : List UInt8) : ∀ (l : List Value) {k : List UInt8 → Bool}, joinQ sep l k = true → ∃ xs : List ByteArray, l = xs.map .string ∧ k (Lib.join (xs.map (·.data.toList)) sep) = true
  | [], k, h => ⟨[], rfl, h⟩
  | [v], k, h => by
    obtain ⟨s, rfl, e⟩ := strK_t (show strK v _ = true from h)
    exact ⟨[s], rfl, by rw [List.map_cons, List.map_nil, Lib.join_one]; exact e⟩
  | v :: y :: l, k, h => by
    obtain ⟨s, rfl, e⟩ := strK_t (show strK v (fun s => joinQ sep (y :: l) fun m => appB sep m fun m => appB s.data.toList m k) = true from h)
    obtain ⟨xs, h1, h2⟩ := joinQ_t sep (y :: l) e
    have h3 := appB_t _ _ (appB_t _ _ h2)
    refine ⟨s :: xs, by rw [h1]; rfl, ?_⟩
    rw [List.map_cons]
    cases xs with
    | nil => cases h1
    | cons x r =>
      rw [List.map_cons, Lib.join_cons] at h3
      rw [List.map_cons, Lib.join_cons]
      simpa [Lib.joinTail] using h3
theorem sJoin_ok {P : Program} {w0 : World} {f : FuncId} (hcan : Can P f)
    (hJ : ∀ (bk o c : Nat) (xs : List ByteArray) (sep : ByteArray) (w : World), (∀ (j : Nat) x, xs[j]? = some x → w.cell? ⟨bk, o + j, none⟩ = some (.string x)) → bk < w.heap.size → xs.length ≤ 140737488355328 → xs.length ≤ c → (Lib.join (xs.map (·.data.toList)) sep.data.toList).length ≤ 140737488355328 →
      Calls P f #[.slice (some ⟨bk, o, none⟩) xs.length c, .string sep] w fun e w' => e = .returned (.string ⟨(Lib.join (xs.map (·.data.toList)) sep.data.toList).toArray⟩) ∧ Below w.heap.size w w') :
    ∀ (args : List Value) (h : AH) (k : CR → AH → Bool), sJoin args h k = true → CallOk P w0 f args h k := by
  refine sum_ok hcan fun args h k φ args' w e hl H => ?_
  obtain ⟨L, hL⟩ : ∃ L, args'.toList = L := ⟨_, rfl⟩
  rw [hL] at hl
  obtain ⟨v, s, rfl, e1⟩ := a2_t e
  obtain ⟨sep, rfl, e2⟩ := strK_t e1
  rcases slK_t e2 with ⟨l0, c0, _, e3⟩ | ⟨a, len, cap, rfl, e3⟩
  · cases e3
  obtain ⟨e4, e5⟩ := iff_t e3
  simp only [Bool.and_eq_true] at e4
  have hn1 := Nat.le_of_ble_eq_true e4.1
  have hn2 := Nat.le_of_ble_eq_true e4.2
  obtain ⟨lo, hi, ty, rw', cc, l, g1, g2, g3, g4, g5, g6⟩ := readAt_t e5
  obtain ⟨xs, rfl, e6⟩ := joinQ_t _ _ g6
  obtain ⟨e7, e8⟩ := iff_t e6
  have e7 := Nat.le_of_ble_eq_true e7
  cases hl with
  | cons _ v1 _ l1 h1 h2 =>
    cases h2 with
    | cons _ v2 _ l2 h3 h4 =>
      cases h4
      obtain ⟨a', c', rfl, hs, hcap⟩ := h1.sl_inv
      obtain rfl := h3.str_inv
      have hat : AtR φ a a' ∧ len ≤ c' := by
        rcases hcap with ⟨_, h2, h3, h4⟩ | ⟨_, _, _, h3, h4⟩
        · exact ⟨h4 (by omega), by omega⟩
        · exact ⟨(h4 (by omega)).1, h3⟩
      rw [List.length_map] at g4
      obtain ⟨b, d, arr, fr, p1, p2, p3, p4, p5, p6, p7, p8⟩ := H.at hs hat.1 g1
      have ha' : a' = ⟨b, a'.off, none⟩ := by cases a'; simp_all
      have hargs : args' = #[.slice (some ⟨b, a'.off, none⟩) xs.length c', .string sep] := by apply Array.ext'; rw [hL, g4, ← ha']
      subst hargs
      refine ⟨_, _, .str _, e8, hJ b a'.off c' xs sep w (fun j x hj => ?_) (Array.getElem?_eq_some_iff.1 p5).1 (by omega) (by omega) (by omega)⟩
      have hjl := (List.getElem?_eq_some_iff.1 hj).1
      obtain ⟨v', q1, q2⟩ := H.cell hs hat.1 g1 (j := j) (by omega) (by omega) (g5 j (.string x) (by simp [hj]))
      rw [addr_add a' p4, p2] at q1
      rw [q1, q2.str_inv]
end
end Go.Ve
