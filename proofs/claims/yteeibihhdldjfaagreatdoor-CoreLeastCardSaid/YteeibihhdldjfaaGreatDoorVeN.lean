/- Part 14: VEval, part 35: functions that are known by a contract; closed calls that give constants. No condition. And what follows it. -/
import Derived.Test.YteeibihhdldjfaaGreatDoorVeM
import Derived.Lib.Join
import Derived.Lib.ItoaNum
import Derived.Lib.Atoi
set_option linter.unusedVariables false
set_option linter.unusedSimpArgs false
namespace Go.Ve
open Go.RowKit
theorem HR.behind {P : Program} {w0 w w' : World} {φ : aE} {h : AH} (H : HR P w0 φ h w) (hb : Below w.heap.size w w') : HR P w0 φ h w' := by
 refine ⟨H.inj, H.fresh, H.top, H.dead, fun f b d n hf => ?_, ?_⟩
 · obtain ⟨o, o', a1, a2, a3⟩ := H.obj f b d n hf
   exact ⟨o, o', a1, by rw [hb.block b (Array.getElem?_eq_some_iff.1 a2).1]; exact a2, a3⟩
 · have h1 := H.below
   exact ⟨hb.os.trans h1.os, hb.tape.trans h1.tape, hb.output.trans h1.output, Nat.le_trans h1.size (Nat.le_trans (by simp) hb.size), fun k hk => by rw [hb.block k (Nat.lt_of_lt_of_le hk h1.size)]; exact h1.block k hk⟩
theorem Bn {P : Program} {w0 : World} {f : FuncId} {S : List Value → AH → (CR → AH → Bool) → Bool} (gp : Can P f)
 (hS : ∀ args h k φ args' w, S args h k = true → LR φ args args'.toList → HR P w0 φ h w → ∃ v c, VR φ v c ∧ k (.ret v) h = true ∧ Calls P f args' w fun E w' => E = .returned c ∧ Below w.heap.size w w') :
 ∀ (args : List Value) (h : AH) (k : CR → AH → Bool), S args h k = true → gn P w0 f args h k := by
 intro args h k e
 refine ⟨gp, fun φ args' w hl H => ?_⟩
 obtain ⟨v, c, h1, h2, h3⟩ := hS args h k φ args' w e hl H
 refine Calls.mono h3 fun E w' hE => ?_
 exact ⟨.ret v, h, φ, h2, Ext.refl _ _, Nat.le_refl _, H.behind hE.2, c, hE.1, h1⟩
def yn : Value → Value → Bool
 | .bool a, .bool b => bif a then b else !b
 | .int k a, .int l b => fy k l && lq a b
 | .string a, .string b => mK a.data.toList b.data.toList
 | .nilIface, .nilIface => true
 | _, _ => false
def Gc : List Value → List Value → Bool
 | [], [] => true
 | a :: l, b :: m => yn a b && Gc l m
 | _, _ => false
def Gd : Value → Value → Bool
 | .agg ⟨l⟩, .agg ⟨m⟩ => Gc l m
 | a, b => yn a b
def Bo : List Value → List Value → Bool
 | [], [] => true
 | a :: l, b :: m => Gd a b && Bo l m
 | _, _ => false
def vG : Value → Value → Bool
 | .agg ⟨l⟩, .agg ⟨m⟩ => Bo l m
 | .tuple ⟨l⟩, .tuple ⟨m⟩ => Bo l m
 | a, b => yn a b
def Plain (a b : Value) : Prop := ∀ φ, VR φ a b ∧ ∀ v, VR φ a v → v = b
def rn (l m : List Value) : Prop := ∀ φ, LR φ l m ∧ ∀ l', LR φ l l' → l' = m
theorem rn.nil : rn [] [] := fun φ => ⟨.nil, fun l' h => by cases h; rfl⟩
theorem rn.cons {a b : Value} {l m : List Value} (h : Plain a b) (hl : rn l m) : rn (a :: l) (b :: m) := fun φ =>
 ⟨.cons _ _ _ _ (h φ).1 (hl φ).1, fun l' h' => by
  cases h' with | cons _ v _ l2 h1 h2 => rw [(h φ).2 v h1, (hl φ).2 l2 h2]⟩
theorem Xe : ∀ {a b : List UInt8}, mK a b = true → a = b
 | [], [], _ => rfl
 | x :: l, y :: m, h => by
  have h' : (bif Nat.beq x.toNat y.toNat then mK l m else false) = true := h
  cases hx : Nat.beq x.toNat y.toNat with
  | false => rw [hx] at h'; cases h'
  | true =>
   rw [hx, cond_true] at h'
   rw [Xe h', UInt8.toNat_inj.1 (Nat.eq_of_beq_eq_true hx)]
 | [], _ :: _, h => by cases h
 | _ :: _, [], h => by cases h
theorem NX {a b : Value} (h : yn a b = true) : Plain a b := by
 unfold yn at h
 split at h
 · rename_i a b
   have : a = b := by cases a <;> cases b <;> simp_all
   subst this
   exact fun φ => ⟨.bool _, fun v hv => hv.pC⟩
 · rename_i k a l b
   rw [Bool.and_eq_true] at h
   obtain rfl := mD h.1
   obtain rfl : a = b := by have := h.2; rw [qL] at this; simpa using this
   exact fun φ => ⟨.int _ _, fun v hv => hv.fX⟩
 · rename_i a b
   have h1 := Xe h
   have : a = b := by
    apply ByteArray.ext
    exact Array.toList_inj.1 h1
   subst this
   exact fun φ => ⟨.str _, fun v hv => hv.ja⟩
 · exact fun φ => ⟨.xB, fun v hv => by cases hv; rfl⟩
 · cases h
theorem Xf : ∀ {l m : List Value}, Gc l m = true → rn l m
 | [], [], _ => .nil
 | a :: l, b :: m, h => by
  have h' : (yn a b && Gc l m) = true := h
  rw [Bool.and_eq_true] at h'
  exact .cons (NX h'.1) (Xf h'.2)
 | [], _ :: _, h => by cases h
 | _ :: _, [], h => by cases h
theorem Plain.agg {l m : List Value} (h : rn l m) : Plain (.agg ⟨l⟩) (.agg ⟨m⟩) := fun φ => ⟨.agg _ _ (h φ).1, fun v hv => by
 obtain ⟨a', rfl, h'⟩ := hv.vH
 have := (h φ).2 _ h'
 cases a'; simp_all⟩
theorem Plain.fx {l m : List Value} (h : rn l m) : Plain (.tuple ⟨l⟩) (.tuple ⟨m⟩) := fun φ => ⟨.fx _ _ (h φ).1, fun v hv => by
 obtain ⟨a', rfl, h'⟩ := hv.Xg
 have := (h φ).2 _ h'
 cases a'; simp_all⟩
theorem afy {a b : Value} (h : Gd a b = true) : Plain a b := by
 unfold Gd at h
 split at h
 · exact .agg (Xf h)
 · exact NX h
theorem NY : ∀ {l m : List Value}, Bo l m = true → rn l m
 | [], [], _ => .nil
 | a :: l, b :: m, h => by
  have h' : (Gd a b && Bo l m) = true := h
  rw [Bool.and_eq_true] at h'
  exact .cons (afy h'.1) (NY h'.2)
 | [], _ :: _, h => by cases h
 | _ :: _, [], h => by cases h
theorem Bp {a b : Value} (h : vG a b = true) : Plain a b := by
 unfold vG at h
 split at h
 · exact .agg (NY h)
 · exact .fx (NY h)
 · exact NX h
def NZ (c : Value) (r : CR) (_ : AH) : Bool := CR.casesOn (motive := fun _ => Bool) r (fun v => vG v c) (fun _ => false)
theorem afz {P : Program} (bA : P.follows .mixedOrders = true) {prog : NT gB} (oq : ∀ f af, prog.get f = some af → bZ P f = some af) {sums : qW} {w : World} (NB : Fx P w sums) {n : Nat} {f : FuncId} {args : List Value} {args' : Array Value} {c : Value}
 (h : ev prog sums n (.call f args ⟨0, .e⟩ (NZ c)) = true) (hl : LR (fun _ => none) args args'.toList) : Can P f ∧ Calls P f args' w fun E w' => E = .returned c ∧ Below w.heap.size w w' := by
 have hC : gn P w f args ⟨0, .e⟩ (NZ c) := Wl bA oq NB n _ h
 refine ⟨hC.1, Calls.mono (hC.2 (fun _ => none) args' w hl (HR.bare P w)) fun E w' hR => ?_⟩
 obtain ⟨r, h', φ', h1, h2, h3, h4, h5⟩ := hR
 cases r with
 | aN v => cases h1
 | ret v =>
  obtain ⟨v', rfl, hv⟩ := h5
  exact ⟨by rw [(Bp h1 φ').2 v' hv], h4.below⟩
end Go.Ve
namespace Go.Ve
open Go.RowKit
noncomputable section
def Bq (f : Nat) (n : Nat) (acc : List UInt8) (k : List UInt8 → Bool) : Bool := match f with
 | 0 => false
 | f + 1 => bif Nat.ble 10 n then fN (Nat.div n 10) fun q => Bq f q (UInt8.ofNat (Nat.add 48 (Nat.mod n 10)) :: acc) k else k (UInt8.ofNat (Nat.add 48 n) :: acc)
def Xh (vs : List Value) (h : AH) (k : CR → AH → Bool) : Bool := a1 vs fun v => jU v fun kd n => iff (fy kd .i64) (match n with
 | .ofNat a => iff (Nat.ble a 9223372036854775807) (Bq 25 a [] fun l => k (.ret (.string ⟨⟨l⟩⟩)) h)
 | .negSucc a => iff (Nat.ble a 9223372036854775807) (fN (Nat.succ a) fun a => Bq 25 a [] fun l => k (.ret (.string ⟨⟨45 :: l⟩⟩)) h))
def Xi (vs : List Value) (h : AH) (k : CR → AH → Bool) : Bool := a1 vs fun v => iB v fun s => iff (Nat.ble s.data.toList.length 18) (match Go.Lib.atoi s.data.toList with
 | some n => fI n fun n => k (.ret (.tuple ⟨[.int .i64 n, .nilIface]⟩)) h
 | none => false)
def Ge (sep : List UInt8) : List Value → (List UInt8 → Bool) → Bool
 | [], k => k []
 | [v], k => iB v fun s => k s.data.toList
 | v :: l, k => iB v fun s => Ge sep l fun m => q9 sep m fun m => q9 s.data.toList m k
def Xj (vs : List Value) (h : AH) (k : CR → AH → Bool) : Bool := a2 vs fun v s => iB s fun sep => jV v false fun b o n c => iff (Nat.ble 1 n && Nat.ble n 65536) (kI h b o n fun l => Ge sep.data.toList l fun m => iff (Nat.ble m.length 1048576) (k (.ret (.string ⟨⟨m⟩⟩)) h))
theorem N0 : ∀ (f n : Nat) {acc : List UInt8} {k : List UInt8 → Bool}, Bq f n acc k = true → k (Lib.decDigits n ++ acc) = true
 | 0, n, acc, k, h => by cases h
 | f + 1, n, acc, k, h => by
  have h1 : (bif Nat.ble 10 n then fN (Nat.div n 10) fun q => Bq f q (UInt8.ofNat (Nat.add 48 (Nat.mod n 10)) :: acc) k else k (UInt8.ofNat (Nat.add 48 n) :: acc)) = true := h
  by_cases hn : 10 ≤ n
  · rw [show Nat.ble 10 n = true from Nat.ble_eq_true_of_le hn, cond_true, bT] at h1
    have h2 : k (Lib.decDigits (n / 10) ++ (UInt8.ofNat (48 + n % 10) :: acc)) = true := N0 f _ h1
    rw [Lib.decDigits, dif_neg (by omega)]
    simpa using h2
  · rw [show Nat.ble 10 n = false by rw [sC]; simpa using hn, cond_false] at h1
    rw [Lib.decDigits, dif_pos (by omega)]
    exact h1
theorem afA {P : Program} {w0 : World} {f : FuncId} (gp : Can P f)
 (hI : ∀ (n : Int) (w : World), -9223372036854775808 ≤ n → n ≤ 9223372036854775807 → Below w0.heap.size w0 w → Calls P f #[.int .i64 n] w fun e w' => e = .returned (.string ⟨(Lib.itoa n).toArray⟩) ∧ Below w.heap.size w w') :
 ∀ (args : List Value) (h : AH) (k : CR → AH → Bool), Xh args h k = true → gn P w0 f args h k := by
 refine Bn gp fun args h k φ args' w e hl H => ?_
 obtain ⟨L, hL⟩ : ∃ L, args'.toList = L := ⟨_, rfl⟩
 rw [hL] at hl
 obtain ⟨v, rfl, e1⟩ := dX e
 obtain ⟨kd, n, rfl, e2⟩ := lP e1
 obtain ⟨e3, e4⟩ := bV e2
 obtain rfl := mD e3
 have jt : args' = #[.int .i64 n] := by
  cases hl with | cons _ v' _ l' h1 h2 => cases h2; apply Array.ext'; rw [hL, h1.fX]
 subst jt
 refine ⟨.string ⟨(Lib.itoa n).toArray⟩, _, .str _, ?_, hI n w ?_ ?_ H.below⟩
 · cases n with
   | ofNat a =>
    obtain ⟨e5, e6⟩ := bV e4
    have := N0 _ _ e6
    rw [List.append_nil] at this
    rw [show Lib.itoa (Int.ofNat a) = Lib.decDigits a by unfold Lib.itoa; rw [if_neg (by have := Int.natCast_nonneg a; exact Int.not_lt.2 this)]; rfl]
    exact this
   | negSucc a =>
    obtain ⟨e5, e6⟩ := bV e4
    rw [bT] at e6
    have := N0 _ _ e6
    rw [List.append_nil] at this
    rw [show Lib.itoa (Int.negSucc a) = 45 :: Lib.decDigits (a + 1) by unfold Lib.itoa; rw [if_pos (by omega)]; rfl]
    exact this
 · cases n with
   | ofNat a => have := Int.natCast_nonneg a; show -9223372036854775808 ≤ (a : Int); omega
   | negSucc a => have := Nat.le_of_ble_eq_true (bV e4).1; omega
 · cases n with
   | ofNat a => have := Nat.le_of_ble_eq_true (bV e4).1; show (a : Int) ≤ 9223372036854775807; omega
   | negSucc a => omega
theorem afB {P : Program} {w0 : World} {f : FuncId} (gp : Can P f)
 (hI : ∀ (s : ByteArray) (n : Int) (w : World), s.size ≤ 18 → Lib.atoi s.data.toList = some n → Calls P f #[.string s] w fun e w' => e = .returned (.tuple #[.int .i64 n, .nilIface]) ∧ Below w.heap.size w w') :
 ∀ (args : List Value) (h : AH) (k : CR → AH → Bool), Xi args h k = true → gn P w0 f args h k := by
 refine Bn gp fun args h k φ args' w e hl H => ?_
 obtain ⟨L, hL⟩ : ∃ L, args'.toList = L := ⟨_, rfl⟩
 rw [hL] at hl
 obtain ⟨v, rfl, e1⟩ := dX e
 obtain ⟨s, rfl, e2⟩ := kb e1
 obtain ⟨e3, e4⟩ := bV e2
 have jt : args' = #[.string s] := by
  cases hl with | cons _ v' _ l' h1 h2 => cases h2; apply Array.ext'; rw [hL, h1.ja]
 subst jt
 split at e4
 · rename_i n hn
   rw [ot] at e4
   exact ⟨_, _, .fx ⟨[.int .i64 n, .nilIface]⟩ #[.int .i64 n, .nilIface] (.cons _ _ _ _ (.int _ _) (.cons _ _ _ _ .xB .nil)), e4, hI s n w (by have := Nat.le_of_ble_eq_true e3; simpa using this) hn⟩
 · cases e4
theorem N2 : ∀ (l m : List UInt8) {k : List UInt8 → Bool}, q9 l m k = true → k (l ++ m) = true
 | [], m, k, h => h
 | x :: l, m, k, h => N2 l m (show q9 l m (fun l' => k (x :: l')) = true from h)
theorem Xk (sep : List UInt8) : ∀ (l : List Value) {k : List UInt8 → Bool}, Ge sep l k = true → ∃ xs : List ByteArray, l = xs.map .string ∧ k (Lib.join (xs.map (·.data.toList)) sep) = true
 | [], k, h => ⟨[], rfl, h⟩
 | [v], k, h => by
  obtain ⟨s, rfl, e⟩ := kb (show iB v _ = true from h)
  exact ⟨[s], rfl, by rw [List.map_cons, List.map_nil, Lib.join_one]; exact e⟩
 | v :: y :: l, k, h => by
  obtain ⟨s, rfl, e⟩ := kb (show iB v (fun s => Ge sep (y :: l) fun m => q9 sep m fun m => q9 s.data.toList m k) = true from h)
  obtain ⟨xs, h1, h2⟩ := Xk sep (y :: l) e
  have h3 := N2 _ _ (N2 _ _ h2)
  refine ⟨s :: xs, by rw [h1]; rfl, ?_⟩
  rw [List.map_cons]
  cases xs with
  | nil => cases h1
  | cons x r =>
   rw [List.map_cons, Lib.join_cons] at h3
   rw [List.map_cons, Lib.join_cons]
   simpa [Lib.joinTail] using h3
theorem afC {P : Program} {w0 : World} {f : FuncId} (gp : Can P f)
 (hJ : ∀ (bk o c : Nat) (xs : List ByteArray) (sep : ByteArray) (w : World), (∀ (j : Nat) x, xs[j]? = some x → w.cell? ⟨bk, o + j, none⟩ = some (.string x)) → bk < w.heap.size → xs.length ≤ 140737488355328 → xs.length ≤ c → (Lib.join (xs.map (·.data.toList)) sep.data.toList).length ≤ 140737488355328 →
  Calls P f #[.slice (some ⟨bk, o, none⟩) xs.length c, .string sep] w fun e w' => e = .returned (.string ⟨(Lib.join (xs.map (·.data.toList)) sep.data.toList).toArray⟩) ∧ Below w.heap.size w w') :
 ∀ (args : List Value) (h : AH) (k : CR → AH → Bool), Xj args h k = true → gn P w0 f args h k := by
 refine Bn gp fun args h k φ args' w e hl H => ?_
 obtain ⟨L, hL⟩ : ∃ L, args'.toList = L := ⟨_, rfl⟩
 rw [hL] at hl
 obtain ⟨v, s, rfl, e1⟩ := gm e
 obtain ⟨sep, rfl, e2⟩ := kb e1
 rcases oe e2 with ⟨l0, c0, _, e3⟩ | ⟨a, len, cap, rfl, e3⟩
 · cases e3
 obtain ⟨e4, e5⟩ := bV e3
 simp only [Bool.and_eq_true] at e4
 have UA := Nat.le_of_ble_eq_true e4.1
 have xP := Nat.le_of_ble_eq_true e4.2
 obtain ⟨lo, hi, ty, lQ, cc, l, g1, g2, g3, g4, g5, g6⟩ := sD e5
 obtain ⟨xs, rfl, e6⟩ := Xk _ _ g6
 obtain ⟨e7, e8⟩ := bV e6
 have e7 := Nat.le_of_ble_eq_true e7
 cases hl with
 | cons _ v1 _ l1 h1 h2 =>
  cases h2 with
  | cons _ v2 _ l2 h3 h4 =>
   cases h4
   obtain ⟨a', c', rfl, hs, gN⟩ := h1.ni
   obtain rfl := h3.ja
   have cw : AtR φ a a' ∧ len ≤ c' := by
    rcases gN with ⟨_, h2, h3, h4⟩ | ⟨_, _, _, h3, h4⟩
    · exact ⟨h4 (by omega), by omega⟩
    · exact ⟨(h4 (by omega)).1, h3⟩
   rw [List.length_map] at g4
   obtain ⟨b, d, arr, fr, p1, p2, p3, p4, p5, p6, p7, p8⟩ := H.at hs cw.1 g1
   have N3 : a' = ⟨b, a'.off, none⟩ := by cases a'; simp_all
   have jt : args' = #[.slice (some ⟨b, a'.off, none⟩) xs.length c', .string sep] := by apply Array.ext'; rw [hL, g4, ← N3]
   subst jt
   refine ⟨_, _, .str _, e8, hJ b a'.off c' xs sep w (fun j x hj => ?_) (Array.getElem?_eq_some_iff.1 p5).1 (by omega) (by omega) (by omega)⟩
   have zZ := (List.getElem?_eq_some_iff.1 hj).1
   obtain ⟨v', q1, q2⟩ := H.cell hs cw.1 g1 (j := j) (by omega) (by omega) (g5 j (.string x) (by simp [hj]))
   rw [lv a' p4, p2] at q1
   rw [q1, q2.ja]
end
end Go.Ve
namespace Go.Ve.T
open Go.Ve Go.Proofs Go.RowKit
noncomputable section
set_option maxRecDepth 20000
theorem AH.agX {h : AH} {b o n : Nat} {l : List Value} (hn : l.length = n) (H : h.can b o n) : (h.wr b o l).aZ b o l := fun i v hv => by
 have hi : i < l.length := (List.getElem?_eq_some_iff.1 hv).1
 subst hn
 rw [AH.yt H (Nat.le_refl _), if_pos ⟨rfl, by omega, by omega⟩, Nat.add_sub_cancel_left]; exact hv
def FT : List (List Value) := [[(bs []), vi 0, vi 0, vi 0, vi 0, vi 0, vi 0, .bool false, .bool false],
[(bs [105, 110, 116]), vi 1, vi 4, vi 0, vi 1, vi 0, vi 0, .bool false, .bool false],
[(bs [98, 111, 111, 108]), vi 1, vi 5, vi 0, vi 1, vi 0, vi 0, .bool false, .bool false],
[(bs [118, 111, 105, 100]), vi 1, vi 0, vi 0, vi 1, vi 0, vi 0, .bool false, .bool false],
[(bs [109, 111, 118, 101]), vi 1, vi 1, vi 0, vi 1, vi 2, vi 0, .bool false, .bool false],
[(bs [115, 101, 108, 102]), vi 1, vi 0, vi 0, vi 1, vi 0, vi 0, .bool false, .bool false],
[(bs [97, 100, 100]), vi 1, vi 1, vi 1, vi 1, vi 2, vi 3, .bool true, .bool false],
[(bs [115, 117, 98]), vi 1, vi 1, vi 1, vi 1, vi 2, vi 3, .bool true, .bool false],
[(bs [109, 117, 108]), vi 1, vi 1, vi 1, vi 1, vi 2, vi 3, .bool true, .bool false],
[(bs [100, 105, 118]), vi 1, vi 1, vi 1, vi 1, vi 2, vi 3, .bool true, .bool false],
[(bs [109, 111, 100]), vi 1, vi 1, vi 1, vi 1, vi 2, vi 3, .bool true, .bool false],
[(bs [110, 101, 103]), vi 1, vi 1, vi 0, vi 1, vi 2, vi 0, .bool false, .bool false],
[(bs [101, 113]), vi 1, vi 1, vi 1, vi 1, vi 2, vi 3, .bool false, .bool false],
[(bs [108, 101, 115, 115]), vi 1, vi 1, vi 1, vi 1, vi 2, vi 3, .bool false, .bool false],
[(bs [109, 111, 115, 116]), vi 1, vi 1, vi 1, vi 1, vi 2, vi 3, .bool false, .bool false],
[(bs [110, 111, 116]), vi 1, vi 1, vi 0, vi 1, vi 2, vi 0, .bool false, .bool false],
[(bs [104, 97, 115]), vi 1, vi 1, vi 0, vi 1, vi 2, vi 0, .bool false, .bool false],
[(bs [103, 101, 116]), vi 1, vi 2, vi 7, vi 1, vi 2, vi 0, .bool true, .bool false],
[(bs [115, 101, 116]), vi 7, vi 1, vi 0, vi 0, vi 2, vi 0, .bool false, .bool false],
[(bs [97, 114, 103]), vi 6, vi 1, vi 0, vi 0, vi 2, vi 0, .bool false, .bool false],
[(bs [99, 97, 108, 108]), vi 2, vi 2, vi 8, vi 1, vi 2, vi 0, .bool true, .bool false],
[(bs [110, 101, 119]), vi 1, vi 10, vi 5, vi 1, vi 0, vi 0, .bool true, .bool false],
[(bs [109, 97, 107, 101]), vi 1, vi 9, vi 0, vi 0, vi 1, vi 0, .bool true, .bool false],
[(bs [105, 110, 118]), vi 2, vi 0, vi 0, vi 0, vi 1, vi 0, .bool true, .bool false],
[(bs [106, 117, 109, 112]), vi 3, vi 0, vi 0, vi 0, vi 0, vi 0, .bool false, .bool true],
[(bs [102, 97, 108, 115, 101]), vi 1, vi 3, vi 0, vi 0, vi 1, vi 0, .bool false, .bool false],
[(bs [114, 97, 105, 115, 101]), vi 11, vi 0, vi 0, vi 0, vi 0, vi 0, .bool true, .bool true],
[(bs [102, 97, 105, 108]), vi 0, vi 0, vi 0, vi 0, vi 0, vi 0, .bool true, .bool true],
[(bs [114, 101, 116]), vi 2, vi 0, vi 0, vi 0, vi 1, vi 0, .bool false, .bool true],
[(bs [112, 117, 116]), vi 1, vi 0, vi 0, vi 0, vi 1, vi 0, .bool false, .bool false],
[(bs [101, 110, 116, 101, 114]), vi 1, vi 0, vi 0, vi 0, vi 1, vi 0, .bool true, .bool false],
[(bs [108, 101, 97, 118, 101]), vi 0, vi 0, vi 0, vi 0, vi 0, vi 0, .bool false, .bool false],
[(bs [97, 103, 97, 105, 110]), vi 1, vi 3, vi 0, vi 0, vi 1, vi 0, .bool true, .bool false],
[(bs [108, 111, 97, 100]), vi 1, vi 12, vi 0, vi 1, vi 0, vi 0, .bool false, .bool false],
[(bs [115, 116, 111, 114, 101]), vi 12, vi 1, vi 0, vi 0, vi 2, vi 0, .bool false, .bool false]]
def isOp (op : Int) : Bool := decide (1 ≤ op ∧ op ≤ 34)
def qf (op : Int) : List Value := if isOp op then FT.getD op.toNat [] else FT.getD 0 []
theorem BO {op : Int} (h : isOp op = true) : op = 1 ∨ op = 2 ∨ op = 3 ∨ op = 4 ∨ op = 5 ∨ op = 6 ∨ op = 7 ∨ op = 8 ∨ op = 9 ∨ op = 10 ∨ op = 11 ∨ op = 12 ∨ op = 13 ∨ op = 14 ∨ op = 15 ∨ op = 16 ∨ op = 17 ∨ op = 18 ∨ op = 19 ∨ op = 20 ∨ op = 21 ∨ op = 22 ∨ op = 23 ∨ op = 24 ∨ op = 25 ∨ op = 26 ∨ op = 27 ∨ op = 28 ∨ op = 29 ∨ op = 30 ∨ op = 31 ∨ op = 32 ∨ op = 33 ∨ op = 34 := by
 unfold isOp at h; rw [decide_eq_true_eq] at h; omega
def PC : NT gB := NT.e.set 120 (some (aF 120))
theorem agY : ∀ f af, PC.get f = some af → bZ PP f = some af := fun f af h => by
 unfold PC at h
 rw [NT.c7] at h
 split at h
 · have := Option.some.inj h; subst this; subst f; exact agZ
 · cases h
theorem ag0 : ev PC [] 100000 (.call 120 [] ⟨0, .e⟩ (NZ (.agg ⟨FT.flatten⟩))) = true := by kernel_rfl
section
variable {w0 : World} {h : AH} {Q : CR → AH → Prop}
open Classical in
theorem Yg (H : ∀ h', cU h h' → (h.Ok → h'.Ok) → Q (.ret (.agg ⟨FT.flatten⟩)) h') : WF PP w0 SM [] h Q := by
 have hC : ∀ w, Can PP 120 ∧ Calls PP 120 #[] w fun E w' => E = .returned (.agg ⟨FT.flatten⟩) ∧ Below w.heap.size w w' := fun w => afz bA agY (sums := []) (fun p hp => by cases hp) ag0 .nil
 have hp : vG (.agg ⟨FT.flatten⟩) (.agg ⟨FT.flatten⟩) = true := by kernel_rfl
 refine ⟨(hC w0).1, fun φ args' w hl hh => ?_⟩
 have : args' = #[] := by
  cases fP : args'.toList with
  | nil => simpa using fP
  | cons _ _ => rw [fP] at hl; cases hl
 subst this
 exact Calls.mono (hC w).2 fun E w' hE => ⟨_, h, φ, decide_eq_true (H h (.refl h) id), Ext.refl _ _, Nat.le_refl _, hh.behind hE.2, _, hE.1, (Bp hp φ).1⟩
theorem Yh {sz : Nat} : ∀ {l : List (List Value)} {i : Nat} {x : List Value}, (∀ x ∈ l, x.length = sz) → l[i]? = some x → (l.flatten.drop (i * sz)).take sz = x
 | [], i, x, _, e => by simp at e
 | y :: l, 0, x, hs, e => by
  simp at e; subst e
  have := hs y List.mem_cons_self
  rw [Nat.zero_mul, List.drop_zero, List.flatten_cons, List.take_append_of_le_length (by omega), ← this, List.take_length]
 | y :: l, i + 1, x, hs, e => by
  have h1 := hs y List.mem_cons_self
  rw [List.flatten_cons, show (i + 1) * sz = y.length + i * sz by rw [h1, Nat.add_mul]; omega, List.drop_append, List.drop_of_length_le (by omega), List.nil_append, Nat.add_sub_cancel_left]
  exact Yh (fun x hx => hs x (List.mem_cons_of_mem _ hx)) (by simpa using e)
theorem ag1 {h h' : AH} (K : cU h h') {b o n : Nat} (hb : b < h.nx) : h'.can b o n ↔ h.can b o n := by unfold AH.can; rw [K.get b hb]
theorem Yi {i : Nat} (hi : i < 35) : ∃ x, FT[i]? = some x ∧ FT.getD i [] = x ∧ x.length = 9 ∧ cO x = true := by
 have hl : FT.length = 35 := by kernel_rfl
 have h1 : FT.all (fun x => decide (x.length = 9) && cO x) = true := by kernel_rfl
 have hx : FT[i]? = some FT[i] := List.getElem?_eq_getElem (by omega)
 have h2 := List.all_eq_true.1 h1 FT[i] (List.getElem_mem (by omega))
 rw [Bool.and_eq_true, decide_eq_true_eq] at h2
 exact ⟨_, hx, by rw [List.getD, hx]; rfl, h2.1, h2.2⟩
theorem Yj (op : Int) (H : ∀ h', cU h h' → (h.Ok → h'.Ok) → Q (.ret (.tuple ⟨[.agg ⟨qf op⟩, .bool (isOp op)]⟩)) h') : WF PP w0 sj [vi op] h Q := by
 refine abt _ ?_
 unfold SN
 refine (Bv rfl).2 ?_
 refine ff.2 ?_
 by_cases hi : isOp op = true
 · have cz : 1 ≤ op ∧ op ≤ 34 := by unfold isOp at hi; rwa [decide_eq_true_eq] at hi
   have e1 : decide (op < 1) = false := decide_eq_false (by omega)
   have e2 : decide (34 < op) = false := decide_eq_false (by omega)
   simp only [e1, e2, DZ, pr, ld, pn, Oo, Oq, Ot, Ou, Ov, OB, OC, Ow, Ox, Oy, Oz, OA, ck, Oi, bK, cond_true, cond_false, cb, aC, OQ, lz (show 0 < 2 by decide), lz (show 0 < 3 by decide), lz (show 0 < 4 by decide), lz (show 0 < 7 by decide), lz (show 0 < 9 by decide), OS, GK, OT, AH.ON, AH.OM, AH.Gs, AH.N9, AH.GJ, AH.OO, AH.l5, if_true, if_false, Nat.zero_add, Nat.add_zero, Nat.reduceAdd, bn, bo, bp, bt, O1, O2, O3, O4, List.getElem?_cons_zero, List.getElem?_cons_succ, Option.some.injEq, exists_eq_left', Option.bind_some, Option.map_some, di, ru, ff, rv, ox, nM, fE, Om, On, decide_true, decide_false, Bool.not_true, Bool.not_false, Nat.left_eq_add, Nat.add_eq_zero_iff, Nat.add_eq_left, Nat.add_eq_right, Nat.reduceEqDiff, Nat.one_ne_zero, and_false, false_and, true_and, and_true, List.length_cons, List.length_nil, Nat.reduceLeDiff, Nat.le_refl, Nat.not_lt_zero, Nat.lt_irrefl, reduceCtorEq, O5, tr, OU, OV, OW, OX, OY, OZ, O0, Bool.and_self, Bool.and_true, Bool.true_and, cQ, GL, O9, kq, kp, List.take_zero, List.take_succ_cons, List.drop_zero, List.drop_succ_cons, List.drop_nil, List.take_nil, and_self, ↓reduceIte, List.flatMap_cons, List.flatMap_nil, List.cons_append, List.nil_append, List.append_nil, Bv, Gv, Nat.sub_zero, Nat.reduceSub, Nat.reduceLT, AH.OP, Nat.zero_le]
   unfold SL
   refine Yg fun h' K ok => ?_
   obtain ⟨k, hk⟩ : ∃ k : Nat, op = k := ⟨op.toNat, by omega⟩
   subst hk
   obtain ⟨x, x1, x2, x3, x4⟩ := Yi (i := k) (by omega)
   have nD : qf (k : Int) = x := by unfold qf; rw [hi, if_pos rfl]; exact x2
   refine (afY (by omega) (by have : FT.flatten.length = 315 := (by kernel_rfl); omega)).2 ?_
   rw [Yh (fun y hy => ?_) x1]
   rotate_left
   · have h1 : FT.all (fun x => decide (x.length = 9)) = true := by kernel_rfl
     exact of_decide_eq_true (List.all_eq_true.1 h1 y hy)
   have hc : h'.can h.nx 0 9 := (ag1 K (Nat.lt_succ_self _)).2 (by rw [AH.GJ, if_pos rfl]; exact Nat.le_refl 9)
   refine (Gy hc (show (cellsOf (.agg ⟨x⟩)).length = 9 from x3) x4).2 ?_
   refine (Gx (l := x) (AH.agX x3 hc) x3 (by decide)).2 ?_
   simp only [nD, hi] at H
   exact H _ (((cU.new h _ _).trans K).wr (Nat.le_refl _) _ _) (fun o => AH.vP (ok (AH.tj o _ _)) _ _ _)
 · have cz : ¬ (1 ≤ op ∧ op ≤ 34) := by unfold isOp at hi; rwa [decide_eq_true_eq] at hi
   have hf : qf op = [(bs []), vi 0, vi 0, vi 0, vi 0, vi 0, vi 0, .bool false, .bool false] := by unfold qf; rw [if_neg hi]; rfl
   have hb : isOp op = false := by simpa using hi
   by_cases e1 : op < 1
   · simp only [decide_eq_true e1, DZ, pr, ld, pn, Oo, Oq, Ot, Ou, Ov, OB, OC, Ow, Ox, Oy, Oz, OA, ck, Oi, bK, cond_true, cond_false, cb, aC, OQ, lz (show 0 < 2 by decide), lz (show 0 < 3 by decide), lz (show 0 < 4 by decide), lz (show 0 < 7 by decide), lz (show 0 < 9 by decide), OS, GK, OT, AH.ON, AH.OM, AH.Gs, AH.N9, AH.GJ, AH.OO, AH.l5, if_true, if_false, Nat.zero_add, Nat.add_zero, Nat.reduceAdd, bn, bo, bp, bt, O1, O2, O3, O4, List.getElem?_cons_zero, List.getElem?_cons_succ, Option.some.injEq, exists_eq_left', Option.bind_some, Option.map_some, di, ru, ff, rv, ox, nM, fE, Om, On, decide_true, decide_false, Bool.not_true, Bool.not_false, Nat.left_eq_add, Nat.add_eq_zero_iff, Nat.add_eq_left, Nat.add_eq_right, Nat.reduceEqDiff, Nat.one_ne_zero, and_false, false_and, true_and, and_true, List.length_cons, List.length_nil, Nat.reduceLeDiff, Nat.le_refl, Nat.not_lt_zero, Nat.lt_irrefl, reduceCtorEq, O5, tr, OU, OV, OW, OX, OY, OZ, O0, Bool.and_self, Bool.and_true, Bool.true_and, cQ, GL, O9, kq, kp, List.take_zero, List.take_succ_cons, List.drop_zero, List.drop_succ_cons, List.drop_nil, List.take_nil, and_self, ↓reduceIte, List.flatMap_cons, List.flatMap_nil, List.cons_append, List.nil_append, List.append_nil, Bv, Gv, Nat.sub_zero, Nat.reduceSub, Nat.reduceLT, AH.OP, Nat.zero_le, gD (show kq [(bs []), (vi 0), (vi 0), (vi 0), (vi 0), (vi 0), (vi 0), (.bool false), (.bool false)] [] [] = some [(bs []), (vi 0), (vi 0), (vi 0), (vi 0), (vi 0), (vi 0), (.bool false), (.bool false)] from rfl)]
     simp only [hf, hb] at H
     exact H _ ((cU.new h _ _).wr (Nat.le_refl _) _ _) (fun o => AH.vP (AH.tj o _ _) _ _ _)
   · have e2 : 34 < op := by omega
     simp only [decide_eq_false e1, decide_eq_true e2, DZ, pr, ld, pn, Oo, Oq, Ot, Ou, Ov, OB, OC, Ow, Ox, Oy, Oz, OA, ck, Oi, bK, cond_true, cond_false, cb, aC, OQ, lz (show 0 < 2 by decide), lz (show 0 < 3 by decide), lz (show 0 < 4 by decide), lz (show 0 < 7 by decide), lz (show 0 < 9 by decide), OS, GK, OT, AH.ON, AH.OM, AH.Gs, AH.N9, AH.GJ, AH.OO, AH.l5, if_true, if_false, Nat.zero_add, Nat.add_zero, Nat.reduceAdd, bn, bo, bp, bt, O1, O2, O3, O4, List.getElem?_cons_zero, List.getElem?_cons_succ, Option.some.injEq, exists_eq_left', Option.bind_some, Option.map_some, di, ru, ff, rv, ox, nM, fE, Om, On, decide_true, decide_false, Bool.not_true, Bool.not_false, Nat.left_eq_add, Nat.add_eq_zero_iff, Nat.add_eq_left, Nat.add_eq_right, Nat.reduceEqDiff, Nat.one_ne_zero, and_false, false_and, true_and, and_true, List.length_cons, List.length_nil, Nat.reduceLeDiff, Nat.le_refl, Nat.not_lt_zero, Nat.lt_irrefl, reduceCtorEq, O5, tr, OU, OV, OW, OX, OY, OZ, O0, Bool.and_self, Bool.and_true, Bool.true_and, cQ, GL, O9, kq, kp, List.take_zero, List.take_succ_cons, List.drop_zero, List.drop_succ_cons, List.drop_nil, List.take_nil, and_self, ↓reduceIte, List.flatMap_cons, List.flatMap_nil, List.cons_append, List.nil_append, List.append_nil, Bv, Gv, Nat.sub_zero, Nat.reduceSub, Nat.reduceLT, AH.OP, Nat.zero_le, gD (show kq [(bs []), (vi 0), (vi 0), (vi 0), (vi 0), (vi 0), (vi 0), (.bool false), (.bool false)] [] [] = some [(bs []), (vi 0), (vi 0), (vi 0), (vi 0), (vi 0), (vi 0), (.bool false), (.bool false)] from rfl)]
     simp only [hf, hb] at H
     exact H _ ((cU.new h _ _).wr (Nat.le_refl _) _ _) (fun o => AH.vP (AH.tj o _ _) _ _ _)
end
end
end Go.Ve.T
namespace Go.Ve.T
open Go.Ve Go.Proofs
noncomputable section
set_option maxRecDepth 20000
def amx : List r8 := [
⟨bytesOf [], ⟨0, 0, 0⟩, 0, ⟨0, 0⟩, false, false⟩,
⟨bytesOf [105, 110, 116], ⟨1, 4, 0⟩, 1, ⟨0, 0⟩, false, false⟩,
⟨bytesOf [98, 111, 111, 108], ⟨1, 5, 0⟩, 1, ⟨0, 0⟩, false, false⟩,
⟨bytesOf [118, 111, 105, 100], ⟨1, 0, 0⟩, 1, ⟨0, 0⟩, false, false⟩,
⟨bytesOf [109, 111, 118, 101], ⟨1, 1, 0⟩, 1, ⟨2, 0⟩, false, false⟩,
⟨bytesOf [115, 101, 108, 102], ⟨1, 0, 0⟩, 1, ⟨0, 0⟩, false, false⟩,
⟨bytesOf [97, 100, 100], ⟨1, 1, 1⟩, 1, ⟨2, 3⟩, true, false⟩,
⟨bytesOf [115, 117, 98], ⟨1, 1, 1⟩, 1, ⟨2, 3⟩, true, false⟩,
⟨bytesOf [109, 117, 108], ⟨1, 1, 1⟩, 1, ⟨2, 3⟩, true, false⟩,
⟨bytesOf [100, 105, 118], ⟨1, 1, 1⟩, 1, ⟨2, 3⟩, true, false⟩,
⟨bytesOf [109, 111, 100], ⟨1, 1, 1⟩, 1, ⟨2, 3⟩, true, false⟩,
⟨bytesOf [110, 101, 103], ⟨1, 1, 0⟩, 1, ⟨2, 0⟩, false, false⟩,
⟨bytesOf [101, 113], ⟨1, 1, 1⟩, 1, ⟨2, 3⟩, false, false⟩,
⟨bytesOf [108, 101, 115, 115], ⟨1, 1, 1⟩, 1, ⟨2, 3⟩, false, false⟩,
⟨bytesOf [109, 111, 115, 116], ⟨1, 1, 1⟩, 1, ⟨2, 3⟩, false, false⟩,
⟨bytesOf [110, 111, 116], ⟨1, 1, 0⟩, 1, ⟨2, 0⟩, false, false⟩,
⟨bytesOf [104, 97, 115], ⟨1, 1, 0⟩, 1, ⟨2, 0⟩, false, false⟩,
⟨bytesOf [103, 101, 116], ⟨1, 2, 7⟩, 1, ⟨2, 0⟩, true, false⟩,
⟨bytesOf [115, 101, 116], ⟨7, 1, 0⟩, 0, ⟨2, 0⟩, false, false⟩,
⟨bytesOf [97, 114, 103], ⟨6, 1, 0⟩, 0, ⟨2, 0⟩, false, false⟩,
⟨bytesOf [99, 97, 108, 108], ⟨2, 2, 8⟩, 1, ⟨2, 0⟩, true, false⟩,
⟨bytesOf [110, 101, 119], ⟨1, 10, 5⟩, 1, ⟨0, 0⟩, true, false⟩,
⟨bytesOf [109, 97, 107, 101], ⟨1, 9, 0⟩, 0, ⟨1, 0⟩, true, false⟩,
⟨bytesOf [105, 110, 118], ⟨2, 0, 0⟩, 0, ⟨1, 0⟩, true, false⟩,
⟨bytesOf [106, 117, 109, 112], ⟨3, 0, 0⟩, 0, ⟨0, 0⟩, false, true⟩,
⟨bytesOf [102, 97, 108, 115, 101], ⟨1, 3, 0⟩, 0, ⟨1, 0⟩, false, false⟩,
⟨bytesOf [114, 97, 105, 115, 101], ⟨11, 0, 0⟩, 0, ⟨0, 0⟩, true, true⟩,
⟨bytesOf [102, 97, 105, 108], ⟨0, 0, 0⟩, 0, ⟨0, 0⟩, true, true⟩,
⟨bytesOf [114, 101, 116], ⟨2, 0, 0⟩, 0, ⟨1, 0⟩, false, true⟩,
⟨bytesOf [112, 117, 116], ⟨1, 0, 0⟩, 0, ⟨1, 0⟩, false, false⟩,
⟨bytesOf [101, 110, 116, 101, 114], ⟨1, 0, 0⟩, 0, ⟨1, 0⟩, true, false⟩,
⟨bytesOf [108, 101, 97, 118, 101], ⟨0, 0, 0⟩, 0, ⟨0, 0⟩, false, false⟩,
⟨bytesOf [97, 103, 97, 105, 110], ⟨1, 3, 0⟩, 0, ⟨1, 0⟩, true, false⟩,
⟨bytesOf [108, 111, 97, 100], ⟨1, 12, 0⟩, 1, ⟨0, 0⟩, false, false⟩,
⟨bytesOf [115, 116, 111, 114, 101], ⟨12, 1, 0⟩, 0, ⟨2, 0⟩, false, false⟩]
def r8.cells (x : r8) : List Value := [.string x.oW, vi x.dK.e0, vi x.dK.e1, vi x.dK.e2, vi x.jJ, vi x.cX.e0, vi x.cX.e1, .bool x.jK, .bool x.jY]
def IN : r8 := ⟨bytesOf [], ⟨0, 0, 0⟩, 0, ⟨0, 0⟩, false, false⟩
def cJ (op : Int) : r8 := bif isOp op then amx.getD op.toNat IN else IN
theorem amy (op : Int) : (cJ op).cells = qf op := by
 unfold cJ qf
 cases hi : isOp op with
 | false => rfl
 | true => rcases BO hi with rfl | rfl | rfl | rfl | rfl | rfl | rfl | rfl | rfl | rfl | rfl | rfl | rfl | rfl | rfl | rfl | rfl | rfl | rfl | rfl | rfl | rfl | rfl | rfl | rfl | rfl | rfl | rfl | rfl | rfl | rfl | rfl | rfl | rfl <;> rfl
def zc (x0 : Int) : Option (r8 × Bool) := some (cJ x0, isOp x0)
theorem CS {w0 : World} {g h : AH} {Q : CR → AH → Prop} {r : r8 × Bool} (x0 : Int) (sg : Sub g h) (ok : h.Ok) (M : zc x0 = some r)
 (H : ∀ (g' h' : AH), Sep ⟨g, h, []⟩ g' h' [] → Q (.ret (.tuple ⟨[(.agg ⟨[(.string r.1.oW), (vi r.1.dK.e0), (vi r.1.dK.e1), (vi r.1.dK.e2), (vi r.1.jJ), (vi r.1.cX.e0), (vi r.1.cX.e1), (.bool r.1.jK), (.bool r.1.jY)]⟩), (.bool r.2)]⟩)) h') : WF PP w0 sj [vi x0] h Q := by
 cases M
 refine Yj x0 fun h' K wH => ?_
 have := H g h' ((Sep.start sg ok).ch K (wH ok))
 rw [← amy]; exact this
end
end Go.Ve.T
namespace Go.Ve.T
open Go.Ve Go.Proofs
noncomputable section
set_option maxRecDepth 10000
def qj (w0 : World) (g : AH) (fv : Value) (f : Int → Option Bool) : Prop := dZ fv = true ∧ ∀ (a0 : Int) (r : Bool) (E K : Value → W) (g2 h2 : AH), Sub g g2 → Sub g2 h2 → h2.Ok → f a0 = some r → (∀ (g' h' : AH), Sep ⟨g2, h2, []⟩ g' h' [] → K (.bool r) h') → dy PP w0 [fv, (vi a0)] E K h2
theorem qj.mono {w0 : World} {g g' : AH} {fv : Value} {f : Int → Option Bool} (H : qj w0 g fv f) (S : Sub g g') : qj w0 g' fv f := ⟨H.1, fun a0 r E K g2 h2 s1 => H.2 a0 r E K g2 h2 (Sub.trans S s1)⟩
def oT (w0 : World) (g : AH) (fv : Value) (f : aB → Option Bool) : Prop := dZ fv = true ∧ ∀ (a0 : aB) (r : Bool) (E K : Value → W) (g2 h2 : AH), Sub g g2 → Sub g2 h2 → h2.Ok → f a0 = some r → (∀ (g' h' : AH), Sep ⟨g2, h2, []⟩ g' h' [] → K (.bool r) h') → dy PP w0 [fv, (.agg ⟨[(vi a0.dS), (vi a0.er), (vi a0.ew)]⟩)] E K h2
theorem oT.mono {w0 : World} {g g' : AH} {fv : Value} {f : aB → Option Bool} (H : oT w0 g fv f) (S : Sub g g') : oT w0 g' fv f := ⟨H.1, fun a0 r E K g2 h2 s1 => H.2 a0 r E K g2 h2 (Sub.trans S s1)⟩
def oU (x0 : Int) (x1 : Int) (x2 : Int) : Option Bool :=
 bif (decide (x1 ≤ x0)) then (
 some (decide (x0 ≤ x2))) else (
 some false)
abbrev aj4 (c : Cx) (R : Value → W) (r : Bool) : Prop := ∀ (g' h' : AH), Sep c g' h' [] → R (.bool r) h'
theorem wQ {w0 : World} {g h : AH} {Q : CR → AH → Prop} {r : Bool} {x0 x1 x2 : Int} (M : oU x0 x1 x2 = some r) (sg : Sub g h) (ok : h.Ok)  (H : aj4 ⟨g, h, []⟩ (fun v => Q (.ret v)) r) : WF PP w0 qu [(vi x0), (vi x1), (vi x2)] h Q := by
 refine abn _ _ _ ?_
 have S := Sep.start sg ok
 unfold SI
 unfold oU at M
 refine rv.2 ?_
 cases hc : (decide (x1 ≤ x0))
 · have M := aW hc M
   refine aG (by decide) ?_
   refine aG (by decide) ?_
   refine aG (by decide) ?_
   refine bK.2 ?_
   cases M
   exact H _ _  S.bB
 · have M := aV hc M
   refine aH rfl ?_
   refine aH rfl ?_
   refine aH rfl ?_
   refine rv.2 ?_
   refine bK.2 ?_
   cases M
   exact H _ _  S.bB
def wR (x0 : aq) : Option dP :=
 some (dP.mk x0.fA x0.fB x0.fC)
abbrev aj5 (c : Cx) (R : Value → W) (r : dP) : Prop := ∀ (g' h' : AH), Sep c g' h' [] → R (.agg ⟨[(vi r.e0), (vi r.e1), (vi r.e2)]⟩) h'
theorem H8 {w0 : World} {g h : AH} {Q : CR → AH → Prop} {r : dP} {x0 : aq} (M : wR x0 = some r) (sg : Sub g h) (ok : h.Ok)  (H : aj5 ⟨g, h, []⟩ (fun v => Q (.ret v)) r) : WF PP w0 xj [(.agg ⟨[(vi x0.aR), (vi x0.fA), (vi x0.fB), (vi x0.fC)]⟩)] h Q := by
 refine abu _ ?_
 have S := Sep.start sg ok
 unfold SO
 unfold wR at M
 refine S.box [(vi x0.aR), (vi x0.fA), (vi x0.fB), (vi x0.fC)] rfl (ae rfl (ae rfl (ae rfl (ae rfl rfl)))) (fun jE h S => ?_)
 refine S.alloc (l := [(vi 0), (vi 0), (vi 0)]) (ae rfl (ae rfl (ae rfl rfl))) (fun CK h S => ?_)
 refine cb.2 ?_
 refine S.bQ 1 rfl rfl ?_
 refine cb.2 ?_
 refine S.bQ 1 rfl rfl ?_
 refine cb.2 ?_
 refine S.bQ 1 rfl rfl ?_
 refine dE [(vi x0.fA), (vi x0.fB), (vi x0.fC)] (by simp only [cQ, bn, bo, bp, bt,  List.length_cons, List.length_nil, Nat.reduceAdd, Nat.zero_add, decide_true, Bool.and_self]) (by simp only [List.flatMap_cons, List.flatMap_nil, bn, bo, bp, bt,  List.cons_append, List.nil_append, List.append_nil]) ?_
 refine S.dk [(vi x0.fA), (vi x0.fB), (vi x0.fC)] [(vi x0.fA), (vi x0.fB), (vi x0.fC)] rfl rfl (ae rfl (ae rfl (ae rfl rfl))) (Nat.le_of_ble_eq_true rfl) rfl (fun h S => ?_)
 refine S.cL [(vi x0.fA), (vi x0.fB), (vi x0.fC)] 0 rfl rfl rfl (by decide) ?_
 cases M
 exact H _ _  S.bB
def H9 (N : Nat) (aT : Int) (cg : List Int) (iT : aq) (dq : (List Int) → Int → Option ((List Int))) : Option ((List Int)) :=
 dq cg (bH .i64 (aT + 1))
def QN (N : Nat) (v11 : dP) (aT : Int) (v1 : aq) (aX : List Int) (dq : (List Int) → Int → Option ((List Int))) : Option ((List Int)) :=
(ix [v11.e0, v11.e1, v11.e2] aT).bind fun gV =>
 bif (decide (gV = 3)) then (
(wR v1).bind fun dT =>
(ix [dT.e0, dT.e1, dT.e2] aT).bind fun eV =>
 gu (decide (aX.length + [eV].length ≤ 1048576)) (
 H9 N aT (aX ++ [eV]) v1 dq)) else (
 H9 N aT aX v1 dq)
def QO (N : Nat) (y9 : List Int)  : Option ((List Int)) :=
 some y9
def QP (N : Nat) (v11 : dP) (v1 : aq) (aX : List Int) (aT : Int) (dq : (List Int) → Int → Option ((List Int))) : Option ((List Int)) :=
 bif (decide (aT < 3)) then (
 QN N v11 aT v1 aX dq) else (
 QO N aX)
def Ia (N : Nat) (v11 : dP) (v1 : aq)  : Nat → (List Int) → Int → Option ((List Int))
 | 0, _, _ => none
 | n + 1, aX, aT => QP N v11 v1 aX aT  (fun ag cR => Ia N v11 v1 n ag cR)
def wS (N : Nat) (x0 : aq) : Option ((List Int)) :=
(zc x0.aR).bind fun aP =>
 Ia N aP.1.dK x0 N ([] : List Int) 0
abbrev zd (c : Cx) (R : Value → W) (r : (List Int)) : Prop := ∀ (g' h' : AH) (w1 : Value), Sep c g' h' [] → aa (rI .i64) 1 g' w1 r → R w1 h'
theorem ZW {w0 : World} {c : Cx} {g h : AH} {E R : Value → W} {r : (List Int)} {N : Nat} {aT : Int} {cg : List Int} {iT : aq} {CL : Value} {CM : List (List Value)} {CN : Nat} {du : Value → Value → W} {dq : (List Int) → Int → Option ((List Int))} {iq : AH} (M : H9 N aT cg iT dq = some r) (S : Sep c g h [.sl 3 1 CL CM, .bx CN [(vi iT.aR), (vi iT.fA), (vi iT.fB), (vi iT.fC)]]) (QQ : aJ ((rI .i64) g) CM cg) (jH : Sub iq g) (jI : ∀ {ag : List Int} {eW : Value} {eX : List (List Value)} {cR : Int} {g2 h2 : AH}, dq ag cR = some r → Sub iq g2 → Sep c g2 h2 [.bx CN [(vi iT.aR), (vi iT.fA), (vi iT.fB), (vi iT.fC)], .sl 3 1 eW eX] → aJ ((rI .i64) g2) eX ag → du eW (vi cR) h2) (H : zd c R r) : D3 w0 E R (vi aT) du CL h := by
 unfold D3
 unfold H9 at M
 refine ie.2 ?_
 have S := S.f1
 exact jI M jH S QQ
theorem aj6 {w0 : World} {c : Cx} {g h : AH} {E R : Value → W} {r : (List Int)} {N : Nat} {v11 : dP} {aT : Int} {v1 : aq} {aX : List Int} {ak : Nat} {gg : Value} {fG : List (List Value)} {du : Value → Value → W} {dq : (List Int) → Int → Option ((List Int))} {iq : AH} (M : QN N v11 aT v1 aX dq = some r) (S : Sep c g h [.bx ak [(vi v1.aR), (vi v1.fA), (vi v1.fB), (vi v1.fC)], .sl 3 1 gg fG]) (gh : aJ ((rI .i64) g) fG aX) (jH : Sub iq g) (jI : ∀ {ag : List Int} {eW : Value} {eX : List (List Value)} {cR : Int} {g2 h2 : AH}, dq ag cR = some r → Sub iq g2 → Sep c g2 h2 [.bx ak [(vi v1.aR), (vi v1.fA), (vi v1.fB), (vi v1.fC)], .sl 3 1 eW eX] → aJ ((rI .i64) g2) eX ag → du eW (vi cR) h2) (H : zd c R r) : I7 w0 E R (.agg ⟨[(vi v11.e0), (vi v11.e1), (vi v11.e2)]⟩) (vi aT) (aC ak 0) gg du h := by
 unfold I7
 unfold QN at M
 obtain ⟨gV, oV, M⟩ := bind_some M
 refine za [v11.e0, v11.e1, v11.e2] (fun q => (vi q)) rfl oV ?_
 refine di.2 ?_
 refine bz (fun hc => ?_) (fun hc => ?_)
 · have M := aV hc M
   refine S.cL [(vi v1.aR), (vi v1.fA), (vi v1.fB), (vi v1.fC)] 0 rfl rfl rfl (by decide) ?_
   obtain ⟨dT, mV, M⟩ := bind_some M
   refine H8 mV S.sub S.ok (fun _ h  S1  => ?_)
   have S := S.cW S1
   obtain ⟨eV, wT, M⟩ := bind_some M
   refine za [dT.e0, dT.e1, dT.e2] (fun q => (vi q)) rfl wT ?_
   refine S.wL [[(vi eV)]] (cG (m := [(vi eV)]) (l2 := [(vi eV)]) rfl rfl (Nat.le_of_ble_eq_true rfl) rfl rfl) rfl (by decide) (wO rfl wN) (ae rfl rfl) (fun aoM h S => ?_)
   have QR : aJ ((rI .i64) g) [[(vi eV)]] [eV] := (aJ.push aJ.nil (show (rI .i64) g [(vi eV)] eV from rfl))
   have S := S.f2
   obtain ⟨aj7, M⟩ := oO M
   refine S.app (S.rd 1 rfl) (by rw [gh.1, QR.1]; exact aj7) (by decide) rfl (nR (qi .i64) QR) (nR (qi .i64) gh) (fun aj8 h S => ?_)
   have CO : aJ ((rI .i64) g) (fG ++ [[(vi eV)]]) (aX ++ [eV]) := aJ.append gh QR
   have S := S.f2
   have S := S.f1
   have S := S.t2
   exact ZW M S CO jH jI H
 · have M := aW hc M
   have S := S.f1
   exact ZW M S gh jH jI H
theorem aj9 {w0 : World} {c : Cx} {g h : AH} {E R : Value → W} {r : (List Int)} {N : Nat} {y9 : List Int} {wU : Value} {CP : List (List Value)}  (M : QO N y9 = some r) (S : Sep c g h [.sl 3 1 wU CP]) (QS : aJ ((rI .i64) g) CP y9)  (H : zd c R r) : I6 w0 E R wU h := by
 unfold I6
 unfold QO at M
 obtain ⟨g, sg, S, aka⟩ := S.fz QS (ej .i64)
 cases M
 exact H _ _ wU S.bB aka
theorem akb {w0 : World} {c : Cx} {g h : AH} {E R : Value → W} {r : (List Int)} {N : Nat} {v11 : dP} {v1 : aq} {aX : List Int} {aT : Int} {ak : Nat} {gg : Value} {fG : List (List Value)} {du : Value → Value → W} {dq : (List Int) → Int → Option ((List Int))} {iq : AH} (M : QP N v11 v1 aX aT dq = some r) (S : Sep c g h [.bx ak [(vi v1.aR), (vi v1.fA), (vi v1.fB), (vi v1.fC)], .sl 3 1 gg fG]) (gh : aJ ((rI .i64) g) fG aX) (jH : Sub iq g) (jI : ∀ {ag : List Int} {eW : Value} {eX : List (List Value)} {cR : Int} {g2 h2 : AH}, dq ag cR = some r → Sub iq g2 → Sep c g2 h2 [.bx ak [(vi v1.aR), (vi v1.fA), (vi v1.fB), (vi v1.fC)], .sl 3 1 eW eX] → aJ ((rI .i64) g2) eX ag → du eW (vi cR) h2) (H : zd c R r) : D4 w0 E R (.agg ⟨[(vi v11.e0), (vi v11.e1), (vi v11.e2)]⟩) (aC ak 0) du gg (vi aT) h := by
 unfold D4
 unfold QP at M
 refine ff.2 ?_
 refine bz (fun hc => ?_) (fun hc => ?_)
 · have M := aV hc M
   exact aj6 M S gh jH jI H
 · have M := aW hc M
   have S := S.f1
   have S := S.t1
   exact aj9 M S gh H
theorem akc {w0 : World} {c : Cx} {E R : Value → W} {r : (List Int)} {N : Nat} {v11 : dP} {v1 : aq} {ak : Nat}   (H : zd c R r) : ∀ (n : Nat) {aX : List Int} {aT : Int} {gg : Value} {fG : List (List Value)} {g h : AH}, Ia N v11 v1 n aX aT = some r → Sep c g h [.bx ak [(vi v1.aR), (vi v1.fA), (vi v1.fB), (vi v1.fC)], .sl 3 1 gg fG] → aJ ((rI .i64) g) fG aX → eE (α := Value × Value) (fun k a => D4 w0 E R (.agg ⟨[(vi v11.e0), (vi v11.e1), (vi v11.e2)]⟩) (aC ak 0) (fun b0 b1 => k (b0, b1)) a.1 a.2) n (gg, (vi aT)) h := by
 intro n
 induction n with
 | zero =>
  intro aX aT gg fG g h M S gh
  unfold Ia at M; cases M
 | succ n ih =>
  intro aX aT gg fG g h M S gh
  exact akb M S gh  (Sub.refl g) (fun M2 sub S2 CQ => ih M2 S2 CQ ) H
theorem ZX {w0 : World} {g h : AH} {Q : CR → AH → Prop} {r : (List Int)} {N : Nat} {x0 : aq} (M : wS N x0 = some r) (sg : Sub g h) (ok : h.Ok)  (H : zd ⟨g, h, []⟩ (fun v => Q (.ret v)) r) : WF PP w0 D5 [(.agg ⟨[(vi x0.aR), (vi x0.fA), (vi x0.fB), (vi x0.fC)]⟩)] h Q := by
 refine abv _ ?_
 have S := Sep.start sg ok
 unfold SP
 unfold wS at M
 refine S.box [(vi x0.aR), (vi x0.fA), (vi x0.fB), (vi x0.fC)] rfl (ae rfl (ae rfl (ae rfl (ae rfl rfl)))) (fun jE h S => ?_)
 refine cb.2 ?_
 refine S.bQ 0 rfl rfl ?_
 obtain ⟨aP, gE, M⟩ := bind_some M
 refine CS x0.aR S.sub S.ok gE (fun _ h  S1  => ?_)
 have S := S.cW S1
 refine (jC rfl).2 ?_
 refine (jC rfl).2 ?_
 refine S.alloc (l := [(.string (⟨⟨[]⟩⟩ : ByteArray)), (vi 0), (vi 0), (vi 0), (vi 0), (vi 0), (vi 0), (.bool false), (.bool false)]) (ae rfl (ae rfl (ae rfl (ae rfl (ae rfl (ae rfl (ae rfl (ae rfl (ae rfl rfl))))))))) (fun Cc h S => ?_)
 refine S.dk [(.string aP.1.oW), (vi aP.1.dK.e0), (vi aP.1.dK.e1), (vi aP.1.dK.e2), (vi aP.1.jJ), (vi aP.1.cX.e0), (vi aP.1.cX.e1), (.bool aP.1.jK), (.bool aP.1.jY)] [(.string aP.1.oW), (vi aP.1.dK.e0), (vi aP.1.dK.e1), (vi aP.1.dK.e2), (vi aP.1.jJ), (vi aP.1.cX.e0), (vi aP.1.cX.e1), (.bool aP.1.jK), (.bool aP.1.jY)] rfl rfl (ae rfl (ae rfl (ae rfl (ae rfl (ae rfl (ae rfl (ae rfl (ae rfl (ae rfl rfl))))))))) (Nat.le_of_ble_eq_true rfl) rfl (fun h S => ?_)
 refine cb.2 ?_
 refine S.cL [(vi aP.1.dK.e0), (vi aP.1.dK.e1), (vi aP.1.dK.e2)] 0 rfl rfl rfl (by decide) ?_
 have S := S.CD 3 1
 have S := S.f2
 have S := S.t2
 exact ⟨N, akc  H _ M S (aJ.nil (R := (rI .i64) g)) ⟩
def QT (N : Nat) (y3 : Int) (bE : Int → Option Int) : Option Int :=
 bE (bH .i64 (y3 + 1))
def QU (N : Nat) (x0 : List Int) (y3 : Int) (x1 : Int → Option Bool) (bE : Int → Option Int) : Option Int :=
(ix x0 y3).bind fun ei =>
(x1 ei).bind fun dT =>
 bif dT then (
 some y3) else (
 QT N y3 bE)
def QV (N : Nat)   : Option Int :=
 some (-1)
def QW (N : Nat) (v1 : Int) (x0 : List Int) (x1 : Int → Option Bool) (y3 : Int) (bE : Int → Option Int) : Option Int :=
 bif (decide (y3 < v1)) then (
 QU N x0 y3 x1 bE) else (
 QV N )
def ze (N : Nat) (v1 : Int) (x0 : List Int) (x1 : Int → Option Bool)  : Nat → Int → Option Int
 | 0, _ => none
 | n + 1, y3 => QW N v1 x0 x1 y3  (fun ag => ze N v1 x0 x1 n ag)
def CT (N : Nat) (x0 : List Int) (x1 : Int → Option Bool) : Option Int :=
 ze N (x0.length : Int) x0 x1 N 0
abbrev zf (c : Cx) (R : Value → W) (r : Int) : Prop := ∀ (g' h' : AH), Sep c g' h' [] → R (vi r) h'
theorem akd {w0 : World} {c : Cx} {g h : AH} {E R : Value → W} {r : Int} {N : Nat} {y3 : Int} {k2 : Value → W} {bE : Int → Option Int} {dB : AH} (M : QT N y3 bE = some r) (S : Sep c g h [])  (fg : Sub dB g) (fZ : ∀ {ag : Int} {g2 h2 : AH}, bE ag = some r → Sub dB g2 → Sep c g2 h2 [] → k2 (vi ag) h2) (H : zf c R r) : IY w0 E R (vi y3) k2 h := by
 unfold IY
 unfold QT at M
 refine ie.2 ?_
 exact fZ M fg S
theorem ake {w0 : World} {c : Cx} {g h : AH} {E R : Value → W} {r : Int} {N : Nat} {x0 : List Int} {y3 : Int} {x1 : Int → Option Bool} {bJ aK : Value} {k2 : Value → W} {bE : Int → Option Int} {dB : AH} (M : QU N x0 y3 x1 bE = some r) (S : Sep c g h []) (bW : aa (rI .i64) 1 g bJ x0) (aM : qj w0 g aK x1) (fg : Sub dB g) (fZ : ∀ {ag : Int} {g2 h2 : AH}, bE ag = some r → Sub dB g2 → Sep c g2 h2 [] → k2 (vi ag) h2) (H : zf c R r) : IZ w0 E R bJ (vi y3) aK k2 h := by
 unfold IZ
 unfold QU at M
 obtain ⟨ei, ku, M⟩ := bind_some M
 refine aa.idx bW ku (fun yL Hv vs PF vV rp => ?_)
 cases rp
 refine S.ct (vV 0 _ rfl) ?_
 obtain ⟨dT, mV, M⟩ := bind_some M
 refine aM.2 ei _ _ _ _ _ (Sub.refl _) S.sub S.ok  mV (fun _ h  S1  => ?_)
 have S := S.cW S1
 refine bz (fun hc => ?_) (fun hc => ?_)
 · have M := aV hc M
   cases M
   exact H _ _  S.bB
 · have M := aW hc M
   exact akd M S fg fZ H
theorem akf {w0 : World} {c : Cx} {g h : AH} {E R : Value → W} {r : Int} {N : Nat}   (M : QV N  = some r) (S : Sep c g h [])   (H : zf c R r) : IX w0 E R  h := by
 unfold IX
 unfold QV at M
 cases M
 exact H _ _  S.bB
theorem akg {w0 : World} {c : Cx} {g h : AH} {E R : Value → W} {r : Int} {N : Nat} {v1 : Int} {x0 : List Int} {x1 : Int → Option Bool} {y3 : Int} {bJ aK : Value} {k2 : Value → W} {bE : Int → Option Int} {dB : AH} (M : QW N v1 x0 x1 y3 bE = some r) (S : Sep c g h []) (bW : aa (rI .i64) 1 g bJ x0) (aM : qj w0 g aK x1) (fg : Sub dB g) (fZ : ∀ {ag : Int} {g2 h2 : AH}, bE ag = some r → Sub dB g2 → Sep c g2 h2 [] → k2 (vi ag) h2) (H : zf c R r) : DY w0 E R (vi v1) bJ aK k2 (vi y3) h := by
 unfold DY
 unfold QW at M
 refine ff.2 ?_
 refine bz (fun hc => ?_) (fun hc => ?_)
 · have M := aV hc M
   exact ake M S bW aM fg fZ H
 · have M := aW hc M
   exact akf M S  H
theorem akh {w0 : World} {c : Cx} {E R : Value → W} {r : Int} {N : Nat} {v1 : Int} {x0 : List Int} {x1 : Int → Option Bool} {bJ aK : Value}   (H : zf c R r) : ∀ (n : Nat) {y3 : Int} {g h : AH}, ze N v1 x0 x1 n y3 = some r → Sep c g h [] → aa (rI .i64) 1 g bJ x0 → qj w0 g aK x1 → eE (α := Value) (fun k a => DY w0 E R (vi v1) bJ aK k a) n (vi y3) h := by
 intro n
 induction n with
 | zero =>
  intro y3  g h M S bW aM
  unfold ze at M; cases M
 | succ n ih =>
  intro y3  g h M S bW aM
  exact akg M S bW aM  (Sub.refl g) (fun M2 sub S2  => ih M2 S2 (aa.mono bW (ej .i64) sub) (qj.mono aM sub) ) H
theorem aki {w0 : World} {g h : AH} {Q : CR → AH → Prop} {r : Int} {N : Nat} {x0 : List Int} {x1 : Int → Option Bool} {bJ aK : Value} (M : CT N x0 x1 = some r) (sg : Sub g h) (ok : h.Ok) (bW : aa (rI .i64) 1 g bJ x0) (aM : qj w0 g aK x1) (H : zf ⟨g, h, []⟩ (fun v => Q (.ret v)) r) : WF PP w0 I3 [bJ, aK] h Q := by
 refine abo _ _ ?_
 have S := Sep.start sg ok
 unfold SJ
 unfold CT at M
 refine bW.len ?_
 exact ⟨N, akh  H _ M S bW aM ⟩
def CU (N : Nat) (x0 : List Int) (x1 : Int → Option Bool) : Option Bool :=
(CT N x0 x1).bind fun ei =>
 some (decide (0 ≤ ei))
abbrev akj (c : Cx) (R : Value → W) (r : Bool) : Prop := ∀ (g' h' : AH), Sep c g' h' [] → R (.bool r) h'
theorem akk {w0 : World} {g h : AH} {Q : CR → AH → Prop} {r : Bool} {N : Nat} {x0 : List Int} {x1 : Int → Option Bool} {bJ aK : Value} (M : CU N x0 x1 = some r) (sg : Sub g h) (ok : h.Ok) (bW : aa (rI .i64) 1 g bJ x0) (aM : qj w0 g aK x1) (H : akj ⟨g, h, []⟩ (fun v => Q (.ret v)) r) : WF PP w0 I4 [bJ, aK] h Q := by
 refine abq _ _ ?_
 have S := Sep.start sg ok
 unfold SK
 unfold CU at M
 obtain ⟨ei, ku, M⟩ := bind_some M
 refine aki ku S.sub S.ok bW aM (fun _ h  S1  => ?_)
 have S := S.cW S1
 refine nM.2 ?_
 cases M
 exact H _ _  S.bB
def QX (N : Nat) (y3 : Int) (bE : Int → Option Int) : Option Int :=
 bE (bH .i64 (y3 + 1))
def QY (N : Nat) (x0 : List aB) (y3 : Int) (x1 : aB → Option Bool) (bE : Int → Option Int) : Option Int :=
(ix x0 y3).bind fun ei =>
(x1 ei).bind fun dT =>
 bif dT then (
 some y3) else (
 QX N y3 bE)
def QZ (N : Nat)   : Option Int :=
 some (-1)
def Q0 (N : Nat) (v1 : Int) (x0 : List aB) (x1 : aB → Option Bool) (y3 : Int) (bE : Int → Option Int) : Option Int :=
 bif (decide (y3 < v1)) then (
 QY N x0 y3 x1 bE) else (
 QZ N )
def zg (N : Nat) (v1 : Int) (x0 : List aB) (x1 : aB → Option Bool)  : Nat → Int → Option Int
 | 0, _ => none
 | n + 1, y3 => Q0 N v1 x0 x1 y3  (fun ag => zg N v1 x0 x1 n ag)
def zh (N : Nat) (x0 : List aB) (x1 : aB → Option Bool) : Option Int :=
 zg N (x0.length : Int) x0 x1 N 0
abbrev zi (c : Cx) (R : Value → W) (r : Int) : Prop := ∀ (g' h' : AH), Sep c g' h' [] → R (vi r) h'
theorem akl {w0 : World} {c : Cx} {g h : AH} {E R : Value → W} {r : Int} {N : Nat} {y3 : Int} {k2 : Value → W} {bE : Int → Option Int} {dB : AH} (M : QX N y3 bE = some r) (S : Sep c g h [])  (fg : Sub dB g) (fZ : ∀ {ag : Int} {g2 h2 : AH}, bE ag = some r → Sub dB g2 → Sep c g2 h2 [] → k2 (vi ag) h2) (H : zi c R r) : I9 w0 E R (vi y3) k2 h := by
 unfold I9
 unfold QX at M
 refine ie.2 ?_
 exact fZ M fg S
theorem akm {w0 : World} {c : Cx} {g h : AH} {E R : Value → W} {r : Int} {N : Nat} {x0 : List aB} {y3 : Int} {x1 : aB → Option Bool} {bJ aK : Value} {k2 : Value → W} {bE : Int → Option Int} {dB : AH} (M : QY N x0 y3 x1 bE = some r) (S : Sep c g h []) (bW : aa aB.rep 3 g bJ x0) (aM : oT w0 g aK x1) (fg : Sub dB g) (fZ : ∀ {ag : Int} {g2 h2 : AH}, bE ag = some r → Sub dB g2 → Sep c g2 h2 [] → k2 (vi ag) h2) (H : zi c R r) : Ja w0 E R bJ (vi y3) aK k2 h := by
 unfold Ja
 unfold QY at M
 obtain ⟨ei, ku, M⟩ := bind_some M
 refine aa.idx bW ku (fun yL Hv vs PF vV rp => ?_)
 cases rp
 refine S.mS vV rfl (by decide) ?_
 obtain ⟨dT, mV, M⟩ := bind_some M
 refine aM.2 ei _ _ _ _ _ (Sub.refl _) S.sub S.ok  mV (fun _ h  S1  => ?_)
 have S := S.cW S1
 refine bz (fun hc => ?_) (fun hc => ?_)
 · have M := aV hc M
   cases M
   exact H _ _  S.bB
 · have M := aW hc M
   exact akl M S fg fZ H
theorem akn {w0 : World} {c : Cx} {g h : AH} {E R : Value → W} {r : Int} {N : Nat}   (M : QZ N  = some r) (S : Sep c g h [])   (H : zi c R r) : I8 w0 E R  h := by
 unfold I8
 unfold QZ at M
 cases M
 exact H _ _  S.bB
theorem ako {w0 : World} {c : Cx} {g h : AH} {E R : Value → W} {r : Int} {N : Nat} {v1 : Int} {x0 : List aB} {x1 : aB → Option Bool} {y3 : Int} {bJ aK : Value} {k2 : Value → W} {bE : Int → Option Int} {dB : AH} (M : Q0 N v1 x0 x1 y3 bE = some r) (S : Sep c g h []) (bW : aa aB.rep 3 g bJ x0) (aM : oT w0 g aK x1) (fg : Sub dB g) (fZ : ∀ {ag : Int} {g2 h2 : AH}, bE ag = some r → Sub dB g2 → Sep c g2 h2 [] → k2 (vi ag) h2) (H : zi c R r) : D7 w0 E R (vi v1) bJ aK k2 (vi y3) h := by
 unfold D7
 unfold Q0 at M
 refine ff.2 ?_
 refine bz (fun hc => ?_) (fun hc => ?_)
 · have M := aV hc M
   exact akm M S bW aM fg fZ H
 · have M := aW hc M
   exact akn M S  H
theorem akp {w0 : World} {c : Cx} {E R : Value → W} {r : Int} {N : Nat} {v1 : Int} {x0 : List aB} {x1 : aB → Option Bool} {bJ aK : Value}   (H : zi c R r) : ∀ (n : Nat) {y3 : Int} {g h : AH}, zg N v1 x0 x1 n y3 = some r → Sep c g h [] → aa aB.rep 3 g bJ x0 → oT w0 g aK x1 → eE (α := Value) (fun k a => D7 w0 E R (vi v1) bJ aK k a) n (vi y3) h := by
 intro n
 induction n with
 | zero =>
  intro y3  g h M S bW aM
  unfold zg at M; cases M
 | succ n ih =>
  intro y3  g h M S bW aM
  exact ako M S bW aM  (Sub.refl g) (fun M2 sub S2  => ih M2 S2 (aa.mono bW aB.mono sub) (oT.mono aM sub) ) H
theorem ZY {w0 : World} {g h : AH} {Q : CR → AH → Prop} {r : Int} {N : Nat} {x0 : List aB} {x1 : aB → Option Bool} {bJ aK : Value} (M : zh N x0 x1 = some r) (sg : Sub g h) (ok : h.Ok) (bW : aa aB.rep 3 g bJ x0) (aM : oT w0 g aK x1) (H : zi ⟨g, h, []⟩ (fun v => Q (.ret v)) r) : WF PP w0 D8 [bJ, aK] h Q := by
 refine abz _ _ ?_
 have S := Sep.start sg ok
 unfold SU
 unfold zh at M
 refine bW.len ?_
 exact ⟨N, akp  H _ M S bW aM ⟩
def Ib (N : Nat) (x0 : List aB) (x1 : aB → Option Bool) : Option Bool :=
(zh N x0 x1).bind fun ei =>
 some (decide (0 ≤ ei))
abbrev akq (c : Cx) (R : Value → W) (r : Bool) : Prop := ∀ (g' h' : AH), Sep c g' h' [] → R (.bool r) h'
theorem akr {w0 : World} {g h : AH} {Q : CR → AH → Prop} {r : Bool} {N : Nat} {x0 : List aB} {x1 : aB → Option Bool} {bJ aK : Value} (M : Ib N x0 x1 = some r) (sg : Sub g h) (ok : h.Ok) (bW : aa aB.rep 3 g bJ x0) (aM : oT w0 g aK x1) (H : akq ⟨g, h, []⟩ (fun v => Q (.ret v)) r) : WF PP w0 Jh [bJ, aK] h Q := by
 refine abJ _ _ ?_
 have S := Sep.start sg ok
 unfold S8
 unfold Ib at M
 obtain ⟨ei, ku, M⟩ := bind_some M
 refine ZY ku S.sub S.ok bW aM (fun _ h  S1  => ?_)
 have S := S.cW S1
 refine nM.2 ?_
 cases M
 exact H _ _  S.bB
def zj (x0 : Int) (x1 : Int) : Option Bool :=
(oU x0 0 (bH .i64 (x1 - 1))).bind fun ei =>
 some (!ei)
abbrev aks (c : Cx) (R : Value → W) (r : Bool) : Prop := ∀ (g' h' : AH), Sep c g' h' [] → R (.bool r) h'
theorem akt {w0 : World} {g h : AH} {Q : CR → AH → Prop} {r : Bool} {x0 x1 : Int} {mn : Nat} (M : zj x0 x1 = some r) (sg : Sub g h) (ok : h.Ok) (mW : g.aZ mn 0 [(vi x1)]) (H : aks ⟨g, h, []⟩ (fun v => Q (.ret v)) r) : WF PP w0 Eb [(vi x0), (aC mn 0)] h Q := by
 refine abF _ _ ?_
 have S := Sep.start sg ok
 unfold S6
 unfold zj at M
 refine S.ct (mW 0 _ rfl) ?_
 refine mP.2 ?_
 obtain ⟨ei, ku, M⟩ := bind_some M
 refine wQ ku S.sub S.ok (fun _ h  S1  => ?_)
 have S := S.cW S1
 refine fE.2 ?_
 cases M
 exact H _ _  S.bB
def CV (v1 : aB) (x1 : Int) (bI : Bool)  : Option Bool :=
 bif bI then (
 some true) else (
(oU v1.ew 0 (bH .i64 (x1 - 1))).bind fun aP =>
 some (!aP))
def CW (v1 : aB) (x1 : Int) (v10 : Bool)  : Option Bool :=
 bif v10 then (
 CV v1 x1 true) else (
 CV v1 x1 (decide (x1 < v1.er)))
def zk (x0 : aB) (x1 : Int) : Option Bool :=
 bif (decide (x0.dS < 0)) then (
 CW x0 x1 true) else (
 CW x0 x1 (decide (x0.er ≤ x0.dS)))
abbrev Q1 (c : Cx) (R : Value → W) (r : Bool) : Prop := ∀ (g' h' : AH), Sep c g' h' [] → R (.bool r) h'
theorem ZZ {w0 : World} {c : Cx} {g h : AH} {E R : Value → W} {r : Bool} {v1 : aB} {x1 : Int} {bI : Bool} {ak mn : Nat}  (M : CV v1 x1 bI = some r) (S : Sep c g h [.bx ak [(vi v1.dS), (vi v1.er), (vi v1.ew)]]) (mW : g.aZ mn 0 [(vi x1)])  (H : Q1 c R r) : Jf w0 E R (aC ak 0) (aC mn 0) (.bool bI) h := by
 unfold Jf
 unfold CV at M
 cases hc : bI
 · have M := aW hc M
   refine aH rfl ?_
   refine cb.2 ?_
   refine aH rfl ?_
   refine S.bQ 0 rfl rfl ?_
   refine aH rfl ?_
   refine S.ct (mW 0 _ rfl) ?_
   refine aH rfl ?_
   refine mP.2 ?_
   refine aH rfl ?_
   obtain ⟨aP, gE, M⟩ := bind_some M
   refine wQ gE S.sub S.ok (fun _ h  S1  => ?_)
   have S := S.cW S1
   refine aH rfl ?_
   refine fE.2 ?_
   refine bK.2 ?_
   cases M
   exact H _ _  S.bB
 · have M := aV hc M
   refine aG (by decide) ?_
   refine aG (by decide) ?_
   refine aG (by decide) ?_
   refine aG (by decide) ?_
   refine aG (by decide) ?_
   refine aG (by decide) ?_
   refine bK.2 ?_
   cases M
   exact H _ _  S.bB
theorem Z0 {w0 : World} {c : Cx} {g h : AH} {E R : Value → W} {r : Bool} {v1 : aB} {x1 : Int} {v10 : Bool} {ak mn : Nat}  (M : CW v1 x1 v10 = some r) (S : Sep c g h [.bx ak [(vi v1.dS), (vi v1.er), (vi v1.ew)]]) (mW : g.aZ mn 0 [(vi x1)])  (H : Q1 c R r) : Jg w0 E R (aC ak 0) (aC mn 0) (.bool v10) h := by
 unfold Jg
 unfold CW at M
 cases hc : v10
 · have M := aW hc M
   refine aH rfl ?_
   refine cb.2 ?_
   refine aH rfl ?_
   refine S.bQ 0 rfl rfl ?_
   refine aH rfl ?_
   refine S.ct (mW 0 _ rfl) ?_
   refine aH rfl ?_
   refine ox.2 ?_
   refine bK.2 ?_
   exact ZZ M S mW H
 · have M := aV hc M
   refine aG (by decide) ?_
   refine aG (by decide) ?_
   refine aG (by decide) ?_
   refine aG (by decide) ?_
   refine bK.2 ?_
   exact ZZ M S mW H
theorem aku {w0 : World} {g h : AH} {Q : CR → AH → Prop} {r : Bool} {x0 : aB} {x1 : Int} {mn : Nat} (M : zk x0 x1 = some r) (sg : Sub g h) (ok : h.Ok) (mW : g.aZ mn 0 [(vi x1)]) (H : Q1 ⟨g, h, []⟩ (fun v => Q (.ret v)) r) : WF PP w0 Ec [(.agg ⟨[(vi x0.dS), (vi x0.er), (vi x0.ew)]⟩), (aC mn 0)] h Q := by
 refine abH _ _ ?_
 have S := Sep.start sg ok
 unfold S7
 unfold zk at M
 refine S.box [(vi x0.dS), (vi x0.er), (vi x0.ew)] rfl (ae rfl (ae rfl (ae rfl rfl))) (fun jE h S => ?_)
 refine cb.2 ?_
 refine S.bQ 0 rfl rfl ?_
 refine ff.2 ?_
 cases hc : (decide (x0.dS < 0))
 · have M := aW hc M
   refine aH rfl ?_
   refine cb.2 ?_
   refine aH rfl ?_
   refine S.bQ 0 rfl rfl ?_
   refine aH rfl ?_
   refine cb.2 ?_
   refine aH rfl ?_
   refine S.bQ 0 rfl rfl ?_
   refine aH rfl ?_
   refine nM.2 ?_
   refine bK.2 ?_
   exact Z0 M S mW H
 · have M := aV hc M
   refine aG (by decide) ?_
   refine aG (by decide) ?_
   refine aG (by decide) ?_
   refine aG (by decide) ?_
   refine aG (by decide) ?_
   refine bK.2 ?_
   exact Z0 M S mW H
def Q2 (N : Nat) (cg : Int) (cY : ah) (ji : Int → Option Bool) : Option Bool :=
 ji (bH .i64 (cg + 1))
def zl (N : Nat) (cg : Int) (iV : Bool) (cY : ah) (ji : Int → Option Bool) : Option Bool :=
 bif iV then (
 some false) else (
 Q2 N cg cY ji)
def Q3 (N : Nat) (b9 : List aq) (cg : Int) (v5 : Int) (cY : ah) (ji : Int → Option Bool) : Option Bool :=
(ix b9 cg).bind fun ig =>
(zc ig.aR).bind fun gi =>
 bif (!gi.2) then (
 zl N cg true cY ji) else (
(wS N ig).bind fun vZ =>
(CU N vZ (fun a0 => zj a0 v5)).bind fun rV =>
 zl N cg rV cY ji)
def zm (N : Nat) (v1 : ah) (v5 : Int)  : Option Bool :=
(Ib N v1.aD (fun a0 => zk a0 v5)).bind fun Z1 =>
 some (!Z1)
def Q4 (N : Nat) (cy : Int) (b9 : List aq) (v5 : Int) (v1 : ah) (cg : Int) (ji : Int → Option Bool) : Option Bool :=
 bif (decide (cg < cy)) then (
 Q3 N b9 cg v5 v1 ji) else (
 zm N v1 v5)
def CX (N : Nat) (cy : Int) (b9 : List aq) (v5 : Int) (v1 : ah)  : Nat → Int → Option Bool
 | 0, _ => none
 | n + 1, cg => Q4 N cy b9 v5 v1 cg  (fun ag => CX N cy b9 v5 v1 n ag)
def CY (N : Nat) (v1 : ah) (v5 : Int)  : Option Bool :=
 CX N (v1.ab.length : Int) v1.ab v5 v1 N 0
def CZ (N : Nat) (v1 : ah) (v5 : Int) (v53 : Bool)  : Option Bool :=
 bif v53 then (
 some false) else (
 CY N v1 v5)
def C0 (N : Nat) (v1 : ah) (v5 : Int) (fK : Bool)  : Option Bool :=
 bif fK then (
 CZ N v1 v5 true) else (
(oU v1.ax 0 200).bind fun dT =>
 CZ N v1 v5 (!dT))
def C1 (N : Nat) (v1 : ah) (v5 : Int) (eL : Bool)  : Option Bool :=
 bif eL then (
 C0 N v1 v5 true) else (
(oU v1.aw 0 200).bind fun gV =>
 C0 N v1 v5 (!gV))
def uf (N : Nat) (x0 : ah) : Option Bool :=
(oU (x0.ab.length : Int) 1 600).bind fun Q5 =>
 bif (!Q5) then (
 C1 N x0 (x0.ab.length : Int) true) else (
 C1 N x0 (x0.ab.length : Int) (decide (40 < (x0.aD.length : Int))))
abbrev oX (c : Cx) (R : Value → W) (r : Bool) : Prop := ∀ (g' h' : AH), Sep c g' h' [] → R (.bool r) h'
theorem akv {w0 : World} {c : Cx} {g h : AH} {E R : Value → W} {r : Bool} {N : Nat} {cg : Int} {cY : ah} {ug : Nat} {oY oZ : Value} {jm : Value → W} {ji : Int → Option Bool} {o3 : AH} (M : Q2 N cg cY ji = some r) (S : Sep c g h [.bx ug [(.string cY.az), (.string cY.aA), (vi cY.fArgs), (vi cY.aw), (vi cY.ax), oY, oZ]]) (wV : aa aq.rep 4 g oY cY.ab) (wW : aa aB.rep 3 g oZ cY.aD) (qk : Sub o3 g) (uh : ∀ {ag : Int} {g2 h2 : AH}, ji ag = some r → Sub o3 g2 → Sep c g2 h2 [.bx ug [(.string cY.az), (.string cY.aA), (vi cY.fArgs), (vi cY.aw), (vi cY.ax), oY, oZ]] → jm (vi ag) h2) (H : oX c R r) : Jj w0 E R (vi cg) jm h := by
 unfold Jj
 unfold Q2 at M
 refine ie.2 ?_
 exact uh M qk S
theorem Z2 {w0 : World} {c : Cx} {g h : AH} {E R : Value → W} {r : Bool} {N : Nat} {cg : Int} {iV : Bool} {cY : ah} {ug : Nat} {oY oZ : Value} {jm : Value → W} {ji : Int → Option Bool} {o3 : AH} (M : zl N cg iV cY ji = some r) (S : Sep c g h [.bx ug [(.string cY.az), (.string cY.aA), (vi cY.fArgs), (vi cY.aw), (vi cY.ax), oY, oZ]]) (wV : aa aq.rep 4 g oY cY.ab) (wW : aa aB.rep 3 g oZ cY.aD) (qk : Sub o3 g) (uh : ∀ {ag : Int} {g2 h2 : AH}, ji ag = some r → Sub o3 g2 → Sep c g2 h2 [.bx ug [(.string cY.az), (.string cY.aA), (vi cY.fArgs), (vi cY.aw), (vi cY.ax), oY, oZ]] → jm (vi ag) h2) (H : oX c R r) : Jk w0 E R (vi cg) jm (.bool iV) h := by
 unfold Jk
 unfold zl at M
 refine bz (fun hc => ?_) (fun hc => ?_)
 · have M := aV hc M
   cases M
   exact H _ _  S.bB
 · have M := aW hc M
   exact akv M S wV wW qk uh H
theorem akw {w0 : World} {c : Cx} {g h : AH} {E R : Value → W} {r : Bool} {N : Nat} {b9 : List aq} {cg v5 : Int} {cY : ah} {ui : Value} {gJ ug : Nat} {oY oZ : Value} {jm : Value → W} {ji : Int → Option Bool} {o3 : AH} (M : Q3 N b9 cg v5 cY ji = some r) (S : Sep c g h [.bx ug [(.string cY.az), (.string cY.aA), (vi cY.fArgs), (vi cY.aw), (vi cY.ax), oY, oZ]]) (rW : aa aq.rep 4 g ui b9) (nT : g.aZ gJ 0 [(vi v5)]) (wV : aa aq.rep 4 g oY cY.ab) (wW : aa aB.rep 3 g oZ cY.aD) (qk : Sub o3 g) (uh : ∀ {ag : Int} {g2 h2 : AH}, ji ag = some r → Sub o3 g2 → Sep c g2 h2 [.bx ug [(.string cY.az), (.string cY.aA), (vi cY.fArgs), (vi cY.aw), (vi cY.ax), oY, oZ]] → jm (vi ag) h2) (H : oX c R r) : Jl w0 E R ui (vi cg) (aC gJ 0) jm h := by
 unfold Jl
 unfold Q3 at M
 obtain ⟨ig, Qo, M⟩ := bind_some M
 refine aa.idx rW Qo (fun air ais vs Z3 Q6 rp => ?_)
 cases rp
 refine S.mS Q6 rfl (by decide) ?_
 refine S.alloc (l := [(vi 0), (vi 0), (vi 0), (vi 0)]) (ae rfl (ae rfl (ae rfl (ae rfl rfl)))) (fun aoN h S => ?_)
 refine S.dk [(vi ig.aR), (vi ig.fA), (vi ig.fB), (vi ig.fC)] [(vi ig.aR), (vi ig.fA), (vi ig.fB), (vi ig.fC)] rfl rfl (ae rfl (ae rfl (ae rfl (ae rfl rfl)))) (Nat.le_of_ble_eq_true rfl) rfl (fun h S => ?_)
 refine cb.2 ?_
 refine S.bQ 0 rfl rfl ?_
 obtain ⟨gi, akx, M⟩ := bind_some M
 refine CS ig.aR S.sub S.ok akx (fun _ h  S1  => ?_)
 have S := S.cW S1
 refine (jC rfl).2 ?_
 refine (jC rfl).2 ?_
 refine S.alloc (l := [(.string (⟨⟨[]⟩⟩ : ByteArray)), (vi 0), (vi 0), (vi 0), (vi 0), (vi 0), (vi 0), (.bool false), (.bool false)]) (ae rfl (ae rfl (ae rfl (ae rfl (ae rfl (ae rfl (ae rfl (ae rfl (ae rfl rfl))))))))) (fun aoO h S => ?_)
 refine S.dk [(.string gi.1.oW), (vi gi.1.dK.e0), (vi gi.1.dK.e1), (vi gi.1.dK.e2), (vi gi.1.jJ), (vi gi.1.cX.e0), (vi gi.1.cX.e1), (.bool gi.1.jK), (.bool gi.1.jY)] [(.string gi.1.oW), (vi gi.1.dK.e0), (vi gi.1.dK.e1), (vi gi.1.dK.e2), (vi gi.1.jJ), (vi gi.1.cX.e0), (vi gi.1.cX.e1), (.bool gi.1.jK), (.bool gi.1.jY)] rfl rfl (ae rfl (ae rfl (ae rfl (ae rfl (ae rfl (ae rfl (ae rfl (ae rfl (ae rfl rfl))))))))) (Nat.le_of_ble_eq_true rfl) rfl (fun h S => ?_)
 refine fE.2 ?_
 cases hc : (!gi.2)
 · have M := aW hc M
   refine aH rfl ?_
   refine S.cL [(vi ig.aR), (vi ig.fA), (vi ig.fB), (vi ig.fC)] 1 rfl rfl rfl (by decide) ?_
   refine aH rfl ?_
   obtain ⟨vZ, Cb, M⟩ := bind_some M
   refine ZX Cb S.sub S.ok (fun g h aim S1 Ql => ?_)
   have rW := aa.mono rW aq.mono S1.bX
   have nT := S1.bX.aZ nT
   have Q6 := S1.bX.aZ Q6
   have wV := aa.mono wV aq.mono S1.bX
   have wW := aa.mono wW aB.mono S1.bX
   have qk := Sub.trans qk S1.bX
   have S := S.mc S1
   refine aH rfl ?_
   refine (GA (by simp)).2 ?_
   refine aH rfl ?_
   have aky : qj w0 g (.func (.func Eb) ⟨[]⟩ ⟨[(aC gJ 0)]⟩) (fun a0 => zj a0 v5) := ⟨rfl, fun a0 r E K g2 h2 s1 s2 s3  m1 k1 => akt m1 s2 s3 (Sub.aZ s1 nT) k1⟩
   obtain ⟨rV, Q7, M⟩ := bind_some M
   refine akk Q7 S.sub S.ok Ql aky (fun _ h  S1  => ?_)
   have S := S.cW S1
   refine bK.2 ?_
   have S := S.f2
   have S := S.t1
   exact Z2 M S wV wW qk uh H
 · have M := aV hc M
   refine aG (by decide) ?_
   refine aG (by decide) ?_
   refine aG (by decide) ?_
   refine aG (by decide) ?_
   refine bK.2 ?_
   have S := S.f2
   have S := S.t1
   exact Z2 M S wV wW qk uh H
theorem akz {w0 : World} {c : Cx} {g h : AH} {E R : Value → W} {r : Bool} {N : Nat} {v1 : ah} {v5 : Int} {ak : Nat} {ar au : Value} {gJ : Nat}  (M : zm N v1 v5 = some r) (S : Sep c g h [.bx ak [(.string v1.az), (.string v1.aA), (vi v1.fArgs), (vi v1.aw), (vi v1.ax), ar, au]]) (av : aa aq.rep 4 g ar v1.ab) (ay : aa aB.rep 3 g au v1.aD) (nT : g.aZ gJ 0 [(vi v5)])  (H : oX c R r) : Ji w0 E R (aC ak 0) (aC gJ 0) h := by
 unfold Ji
 unfold zm at M
 refine cb.2 ?_
 refine S.bQ 0 rfl rfl ?_
 refine (GA (by simp)).2 ?_
 have akA : oT w0 g (.func (.func Ec) ⟨[]⟩ ⟨[(aC gJ 0)]⟩) (fun a0 => zk a0 v5) := ⟨rfl, fun a0 r E K g2 h2 s1 s2 s3  m1 k1 => aku m1 s2 s3 (Sub.aZ s1 nT) k1⟩
 obtain ⟨Z1, akB, M⟩ := bind_some M
 refine akr akB S.sub S.ok ay akA (fun _ h  S1  => ?_)
 have S := S.cW S1
 refine fE.2 ?_
 cases M
 exact H _ _  S.bB
theorem akC {w0 : World} {c : Cx} {g h : AH} {E R : Value → W} {r : Bool} {N : Nat} {cy : Int} {b9 : List aq} {v5 : Int} {v1 : ah} {cg : Int} {ui : Value} {gJ ak : Nat} {ar au : Value} {jm : Value → W} {ji : Int → Option Bool} {o3 : AH} (M : Q4 N cy b9 v5 v1 cg ji = some r) (S : Sep c g h [.bx ak [(.string v1.az), (.string v1.aA), (vi v1.fArgs), (vi v1.aw), (vi v1.ax), ar, au]]) (rW : aa aq.rep 4 g ui b9) (nT : g.aZ gJ 0 [(vi v5)]) (av : aa aq.rep 4 g ar v1.ab) (ay : aa aB.rep 3 g au v1.aD) (qk : Sub o3 g) (uh : ∀ {ag : Int} {g2 h2 : AH}, ji ag = some r → Sub o3 g2 → Sep c g2 h2 [.bx ak [(.string v1.az), (.string v1.aA), (vi v1.fArgs), (vi v1.aw), (vi v1.ax), ar, au]] → jm (vi ag) h2) (H : oX c R r) : Ed w0 E R (vi cy) ui (aC gJ 0) (aC ak 0) jm (vi cg) h := by
 unfold Ed
 unfold Q4 at M
 refine ff.2 ?_
 refine bz (fun hc => ?_) (fun hc => ?_)
 · have M := aV hc M
   exact akw M S rW nT av ay qk uh H
 · have M := aW hc M
   exact akz M S av ay nT H
theorem akD {w0 : World} {c : Cx} {E R : Value → W} {r : Bool} {N : Nat} {cy : Int} {b9 : List aq} {v5 : Int} {v1 : ah} {ui : Value} {gJ ak : Nat} {ar au : Value}   (H : oX c R r) : ∀ (n : Nat) {cg : Int} {g h : AH}, CX N cy b9 v5 v1 n cg = some r → Sep c g h [.bx ak [(.string v1.az), (.string v1.aA), (vi v1.fArgs), (vi v1.aw), (vi v1.ax), ar, au]] → aa aq.rep 4 g ui b9 → g.aZ gJ 0 [(vi v5)] → aa aq.rep 4 g ar v1.ab → aa aB.rep 3 g au v1.aD → eE (α := Value) (fun k a => Ed w0 E R (vi cy) ui (aC gJ 0) (aC ak 0) k a) n (vi cg) h := by
 intro n
 induction n with
 | zero =>
  intro cg  g h M S rW nT av ay
  unfold CX at M; cases M
 | succ n ih =>
  intro cg  g h M S rW nT av ay
  exact akC M S rW nT av ay  (Sub.refl g) (fun M2 sub S2  => ih M2 S2 (aa.mono rW aq.mono sub) (Sub.aZ sub nT) (aa.mono av aq.mono sub) (aa.mono ay aB.mono sub) ) H
theorem akE {w0 : World} {c : Cx} {g h : AH} {E R : Value → W} {r : Bool} {N : Nat} {v1 : ah} {v5 : Int} {ak : Nat} {ar au : Value} {gJ : Nat}  (M : CY N v1 v5 = some r) (S : Sep c g h [.bx ak [(.string v1.az), (.string v1.aA), (vi v1.fArgs), (vi v1.aw), (vi v1.ax), ar, au], .bx gJ [(vi v5)]]) (av : aa aq.rep 4 g ar v1.ab) (ay : aa aB.rep 3 g au v1.aD)  (H : oX c R r) : Jm w0 E R (aC ak 0) (aC gJ 0) h := by
 unfold Jm
 unfold CY at M
 refine cb.2 ?_
 refine S.bQ 0 rfl rfl ?_
 refine av.len ?_
 have S := S.f1
 obtain ⟨g, sg, S, r_9⟩ := S.qh
 have av := aa.mono av aq.mono sg
 have ay := aa.mono ay aB.mono sg
 exact ⟨N, akD  H _ M S av r_9 av ay ⟩
theorem Z4 {w0 : World} {c : Cx} {g h : AH} {E R : Value → W} {r : Bool} {N : Nat} {v1 : ah} {v5 : Int} {v53 : Bool} {ak : Nat} {ar au : Value} {gJ : Nat}  (M : CZ N v1 v5 v53 = some r) (S : Sep c g h [.bx ak [(.string v1.az), (.string v1.aA), (vi v1.fArgs), (vi v1.aw), (vi v1.ax), ar, au], .bx gJ [(vi v5)]]) (av : aa aq.rep 4 g ar v1.ab) (ay : aa aB.rep 3 g au v1.aD)  (H : oX c R r) : Jn w0 E R (aC ak 0) (aC gJ 0) (.bool v53) h := by
 unfold Jn
 unfold CZ at M
 refine bz (fun hc => ?_) (fun hc => ?_)
 · have M := aV hc M
   cases M
   exact H _ _  S.bB
 · have M := aW hc M
   exact akE M S av ay H
theorem Z5 {w0 : World} {c : Cx} {g h : AH} {E R : Value → W} {r : Bool} {N : Nat} {v1 : ah} {v5 : Int} {fK : Bool} {ak : Nat} {ar au : Value} {gJ : Nat}  (M : C0 N v1 v5 fK = some r) (S : Sep c g h [.bx ak [(.string v1.az), (.string v1.aA), (vi v1.fArgs), (vi v1.aw), (vi v1.ax), ar, au], .bx gJ [(vi v5)]]) (av : aa aq.rep 4 g ar v1.ab) (ay : aa aB.rep 3 g au v1.aD)  (H : oX c R r) : Jo w0 E R (aC ak 0) (aC gJ 0) (.bool fK) h := by
 unfold Jo
 unfold C0 at M
 cases hc : fK
 · have M := aW hc M
   refine aH rfl ?_
   refine cb.2 ?_
   refine aH rfl ?_
   refine S.bQ 0 rfl rfl ?_
   refine aH rfl ?_
   obtain ⟨dT, mV, M⟩ := bind_some M
   refine wQ mV S.sub S.ok (fun _ h  S1  => ?_)
   have S := S.cW S1
   refine aH rfl ?_
   refine fE.2 ?_
   refine bK.2 ?_
   exact Z4 M S av ay H
 · have M := aV hc M
   refine aG (by decide) ?_
   refine aG (by decide) ?_
   refine aG (by decide) ?_
   refine aG (by decide) ?_
   refine bK.2 ?_
   exact Z4 M S av ay H
theorem Z6 {w0 : World} {c : Cx} {g h : AH} {E R : Value → W} {r : Bool} {N : Nat} {v1 : ah} {v5 : Int} {eL : Bool} {ak : Nat} {ar au : Value} {gJ : Nat}  (M : C1 N v1 v5 eL = some r) (S : Sep c g h [.bx ak [(.string v1.az), (.string v1.aA), (vi v1.fArgs), (vi v1.aw), (vi v1.ax), ar, au], .bx gJ [(vi v5)]]) (av : aa aq.rep 4 g ar v1.ab) (ay : aa aB.rep 3 g au v1.aD)  (H : oX c R r) : Jp w0 E R (aC ak 0) (aC gJ 0) (.bool eL) h := by
 unfold Jp
 unfold C1 at M
 cases hc : eL
 · have M := aW hc M
   refine aH rfl ?_
   refine cb.2 ?_
   refine aH rfl ?_
   refine S.bQ 0 rfl rfl ?_
   refine aH rfl ?_
   obtain ⟨gV, oV, M⟩ := bind_some M
   refine wQ oV S.sub S.ok (fun _ h  S1  => ?_)
   have S := S.cW S1
   refine aH rfl ?_
   refine fE.2 ?_
   refine bK.2 ?_
   exact Z5 M S av ay H
 · have M := aV hc M
   refine aG (by decide) ?_
   refine aG (by decide) ?_
   refine aG (by decide) ?_
   refine aG (by decide) ?_
   refine bK.2 ?_
   exact Z5 M S av ay H
theorem Ic {w0 : World} {g h : AH} {Q : CR → AH → Prop} {r : Bool} {N : Nat} {x0 : ah} {cj cm : Value} (M : uf N x0 = some r) (sg : Sub g h) (ok : h.Ok) (bL : aa aq.rep 4 g cj x0.ab) (cq : aa aB.rep 3 g cm x0.aD) (H : oX ⟨g, h, []⟩ (fun v => Q (.ret v)) r) : WF PP w0 xk [(.agg ⟨[(.string x0.az), (.string x0.aA), (vi x0.fArgs), (vi x0.aw), (vi x0.ax), cj, cm]⟩)] h Q := by
 refine abL _ ?_
 have S := Sep.start sg ok
 unfold S9
 unfold uf at M
 refine S.box [(.string x0.az), (.string x0.aA), (vi x0.fArgs), (vi x0.aw), (vi x0.ax), cj, cm] rfl (ae rfl (ae rfl (ae rfl (ae rfl (ae rfl (ae bL.one (ae cq.one rfl))))))) (fun jE h S => ?_)
 refine cb.2 ?_
 refine S.bQ 0 rfl rfl ?_
 refine bL.len ?_
 refine S.alloc (l := [(vi 0)]) (ae rfl rfl) (fun CK h S => ?_)
 refine S.dk [(vi (x0.ab.length : Int))] [(vi (x0.ab.length : Int))] rfl rfl (ae rfl rfl) (Nat.le_of_ble_eq_true rfl) rfl (fun h S => ?_)
 refine S.bQ 0 rfl rfl ?_
 obtain ⟨Q5, akF, M⟩ := bind_some M
 refine wQ akF S.sub S.ok (fun _ h  S1  => ?_)
 have S := S.cW S1
 refine fE.2 ?_
 cases hc : (!Q5)
 · have M := aW hc M
   refine aH rfl ?_
   refine cb.2 ?_
   refine aH rfl ?_
   refine S.bQ 1 rfl rfl ?_
   refine aH rfl ?_
   refine cq.len ?_
   refine aH rfl ?_
   refine ox.2 ?_
   refine bK.2 ?_
   have S := S.f1
   exact Z6 M S bL cq H
 · have M := aV hc M
   refine aG (by decide) ?_
   refine aG (by decide) ?_
   refine aG (by decide) ?_
   refine aG (by decide) ?_
   refine bK.2 ?_
   have S := S.f1
   exact Z6 M S bL cq H
def rX (x0 : Int) (x1 : Int) (x2 : Int) : Option Bool :=
 bif (decide (x1 ≤ x0)) then (
 some (decide (x0 ≤ x2))) else (
 some false)
def Ie (v1 : cI)  : Option (cI × Bool) :=
 some ((cI.mk (dP.mk 0 0 0) 0 (ec.mk 0 0) false), false)
def zn (v1 : cI) (x0 : Int) (xr : Bool)  : Option (cI × Bool) :=
 bif xr then (
 some ((cI.mk (dP.mk 1 1 1) 1 (ec.mk 2 3) false), true)) else (
 bif (decide (x0 = 17)) then (
 some ((cI.mk (dP.mk 1 2 5) 1 (ec.mk 2 0) true), true)) else (
 bif (decide (x0 = 18)) then (
 some ((cI.mk (dP.mk 5 1 0) 0 (ec.mk 2 0) false), true)) else (
 bif (decide (x0 = 19)) then (
 some ((cI.mk (dP.mk 6 1 0) 0 (ec.mk 2 0) false), true)) else (
 bif (decide (x0 = 20)) then (
 some ((cI.mk (dP.mk 7 2 8) 1 (ec.mk 2 0) true), true)) else (
 bif (decide (x0 = 21)) then (
 some ((cI.mk (dP.mk 1 9 4) 1 (ec.mk 0 0) true), true)) else (
 bif (decide (x0 = 22)) then (
 some ((cI.mk (dP.mk 1 10 0) 0 (ec.mk 1 0) true), true)) else (
 bif (decide (x0 = 23)) then (
 some ((cI.mk (dP.mk 2 0 0) 0 (ec.mk 1 0) true), true)) else (
 bif (decide (x0 = 24)) then (
 some ((cI.mk (dP.mk 11 0 0) 0 (ec.mk 0 0) false), true)) else (
 bif (decide (x0 = 25)) then (
 some ((cI.mk (dP.mk 1 11 0) 0 (ec.mk 1 0) false), true)) else (
 bif (decide (x0 = 26)) then (
 some ((cI.mk (dP.mk 12 0 0) 0 (ec.mk 0 0) true), true)) else (
 bif (decide (x0 = 27)) then (
 some ((cI.mk (dP.mk 0 0 0) 0 (ec.mk 0 0) true), true)) else (
 bif (decide (x0 = 28)) then (
 some ((cI.mk (dP.mk 2 0 0) 0 (ec.mk 1 0) false), true)) else (
 bif (decide (x0 = 29)) then (
 some ((cI.mk (dP.mk 1 0 0) 0 (ec.mk 1 0) false), true)) else (
 bif (decide (x0 = 30)) then (
 some ((cI.mk (dP.mk 1 0 0) 0 (ec.mk 1 0) true), true)) else (
 bif (decide (x0 = 31)) then (
 some ((cI.mk (dP.mk 0 0 0) 0 (ec.mk 0 0) false), true)) else (
 bif (decide (x0 = 32)) then (
 some ((cI.mk (dP.mk 1 11 0) 0 (ec.mk 1 0) true), true)) else (
 bif (decide (x0 = 33)) then (
 some ((cI.mk (dP.mk 1 13 0) 1 (ec.mk 0 0) false), true)) else (
 bif (decide (x0 = 34)) then (
 some ((cI.mk (dP.mk 13 1 0) 0 (ec.mk 2 0) false), true)) else (
 Ie v1)))))))))))))))))))
def uj (v1 : cI) (x0 : Int) (xw : Bool)  : Option (cI × Bool) :=
 bif xw then (
 some ((cI.mk (dP.mk 1 1 1) 1 (ec.mk 2 3) true), true)) else (
 bif (decide (x0 = 12)) then (
 zn v1 x0 (decide (x0 = 12))) else (
 bif (decide (x0 = 13)) then (
 zn v1 x0 (decide (x0 = 13))) else (
 zn v1 x0 (decide (x0 = 14)))))
def wX (v1 : cI) (x0 : Int) (xy : Bool)  : Option (cI × Bool) :=
 bif xy then (
 some ((cI.mk (dP.mk 1 1 0) 1 (ec.mk 2 0) false), true)) else (
 bif (decide (x0 = 6)) then (
 uj v1 x0 (decide (x0 = 6))) else (
 bif (decide (x0 = 7)) then (
 uj v1 x0 (decide (x0 = 7))) else (
 bif (decide (x0 = 8)) then (
 uj v1 x0 (decide (x0 = 8))) else (
 bif (decide (x0 = 9)) then (
 uj v1 x0 (decide (x0 = 9))) else (
 uj v1 x0 (decide (x0 = 10)))))))
def C2 (v1 : cI) (x0 : Int) (cM : Bool)  : Option (cI × Bool) :=
 bif cM then (
 some ((cI.mk (dP.mk 1 0 0) 1 (ec.mk 0 0) false), true)) else (
 bif (decide (x0 = 4)) then (
 wX v1 x0 (decide (x0 = 4))) else (
 bif (decide (x0 = 11)) then (
 wX v1 x0 (decide (x0 = 11))) else (
 bif (decide (x0 = 15)) then (
 wX v1 x0 (decide (x0 = 15))) else (
 wX v1 x0 (decide (x0 = 16))))))
def zo (x0 : Int) : Option (cI × Bool) :=
 bif (decide (x0 = 1)) then (
 some ((cI.mk (dP.mk 1 3 0) 1 (ec.mk 0 0) false), true)) else (
 bif (decide (x0 = 2)) then (
 some ((cI.mk (dP.mk 1 4 0) 1 (ec.mk 0 0) false), true)) else (
 bif (decide (x0 = 3)) then (
 C2 (cI.mk (dP.mk 0 0 0) 0 (ec.mk 0 0) false) x0 (decide (x0 = 3))) else (
 C2 (cI.mk (dP.mk 0 0 0) 0 (ec.mk 0 0) false) x0 (decide (x0 = 5)))))
abbrev zp (c : Cx) (R : Value → W) (r : cI × Bool) : Prop := ∀ (g' h' : AH), Sep c g' h' [] → R (.tuple ⟨[(.agg ⟨[(vi r.1.gW.e0), (vi r.1.gW.e1), (vi r.1.gW.e2), (vi r.1.uk), (vi r.1.kR.e0), (vi r.1.kR.e1), (.bool r.1.ql)]⟩), (.bool r.2)]⟩) h'
theorem akG {w0 : World} {c : Cx} {g h : AH} {E R : Value → W} {r : cI × Bool} {v1 : cI} {ak : Nat}  (M : Ie v1 = some r) (S : Sep c g h [.bx ak [(vi v1.gW.e0), (vi v1.gW.e1), (vi v1.gW.e2), (vi v1.uk), (vi v1.kR.e0), (vi v1.kR.e1), (.bool v1.ql)]])   (H : zp c R r) : JU w0 E R (aC ak 0) h := by
 unfold JU
 unfold Ie at M
 refine (gD (l := [(vi 0), (vi 0), (vi 0), (vi 0), (vi 0), (vi 0), (.bool false)]) rfl).2 ?_
 refine S.dk [(vi 0), (vi 0), (vi 0), (vi 0), (vi 0), (vi 0), (.bool false)] [(vi 0), (vi 0), (vi 0), (vi 0), (vi 0), (vi 0), (.bool false)] rfl rfl (ae rfl (ae rfl (ae rfl (ae rfl (ae rfl (ae rfl (ae rfl rfl))))))) (Nat.le_of_ble_eq_true rfl) rfl (fun h S => ?_)
 refine S.cL [(vi 0), (vi 0), (vi 0), (vi 0), (vi 0), (vi 0), (.bool false)] 0 rfl rfl rfl (by decide) ?_
 cases M
 exact H _ _  S.bB
theorem Q8 {w0 : World} {c : Cx} {g h : AH} {E R : Value → W} {r : cI × Bool} {v1 : cI} {x0 : Int} {xr : Bool} {ak : Nat}  (M : zn v1 x0 xr = some r) (S : Sep c g h [.bx ak [(vi v1.gW.e0), (vi v1.gW.e1), (vi v1.gW.e2), (vi v1.uk), (vi v1.kR.e0), (vi v1.kR.e1), (.bool v1.ql)]])   (H : zp c R r) : zQ w0 E R (aC ak 0) (vi x0) (.bool xr) h := by
 unfold zQ
 unfold zn at M
 refine bz (fun hc => ?_) (fun hc => ?_)
 · have M := aV hc M
   refine dE [(vi 1), (vi 1), (vi 1)] (by simp only [cQ, bn, bo, bp, bt,  List.length_cons, List.length_nil, Nat.reduceAdd, Nat.zero_add, decide_true, Bool.and_self]) (by simp only [List.flatMap_cons, List.flatMap_nil, bn, bo, bp, bt,  List.cons_append, List.nil_append, List.append_nil]) ?_
   refine dE [(vi 2), (vi 3)] (by simp only [cQ, bn, bo, bp, bt,  List.length_cons, List.length_nil, Nat.reduceAdd, Nat.zero_add, decide_true, Bool.and_self]) (by simp only [List.flatMap_cons, List.flatMap_nil, bn, bo, bp, bt,  List.cons_append, List.nil_append, List.append_nil]) ?_
   refine (gD (l := [(vi 1), (vi 1), (vi 1), (vi 1), (vi 2), (vi 3), (.bool false)]) (cG (m := [(vi 1), (vi 1), (vi 1)]) (l2 := [(vi 1), (vi 1), (vi 1), (vi 0), (vi 0), (vi 0), (.bool false)]) rfl rfl (Nat.le_of_ble_eq_true rfl) rfl (cG (m := [(vi 1)]) (l2 := [(vi 1), (vi 1), (vi 1), (vi 1), (vi 0), (vi 0), (.bool false)]) rfl rfl (Nat.le_of_ble_eq_true rfl) rfl (cG (m := [(vi 2), (vi 3)]) (l2 := [(vi 1), (vi 1), (vi 1), (vi 1), (vi 2), (vi 3), (.bool false)]) rfl rfl (Nat.le_of_ble_eq_true rfl) rfl rfl)))).2 ?_
   refine S.dk [(vi 1), (vi 1), (vi 1), (vi 1), (vi 2), (vi 3), (.bool false)] [(vi 1), (vi 1), (vi 1), (vi 1), (vi 2), (vi 3), (.bool false)] rfl rfl (ae rfl (ae rfl (ae rfl (ae rfl (ae rfl (ae rfl (ae rfl rfl))))))) (Nat.le_of_ble_eq_true rfl) rfl (fun h S => ?_)
   refine S.cL [(vi 1), (vi 1), (vi 1), (vi 1), (vi 2), (vi 3), (.bool false)] 0 rfl rfl rfl (by decide) ?_
   cases M
   exact H _ _  S.bB
 · have M := aW hc M
   refine di.2 ?_
   refine bz (fun hc => ?_) (fun hc => ?_)
   · have M := aV hc M
     refine dE [(vi 1), (vi 2), (vi 5)] (by simp only [cQ, bn, bo, bp, bt,  List.length_cons, List.length_nil, Nat.reduceAdd, Nat.zero_add, decide_true, Bool.and_self]) (by simp only [List.flatMap_cons, List.flatMap_nil, bn, bo, bp, bt,  List.cons_append, List.nil_append, List.append_nil]) ?_
     refine dE [(vi 2), (vi 0)] (by simp only [cQ, bn, bo, bp, bt,  List.length_cons, List.length_nil, Nat.reduceAdd, Nat.zero_add, decide_true, Bool.and_self]) (by simp only [List.flatMap_cons, List.flatMap_nil, bn, bo, bp, bt,  List.cons_append, List.nil_append, List.append_nil]) ?_
     refine dE [(vi 1), (vi 2), (vi 5), (vi 1), (vi 2), (vi 0), (.bool true)] (by simp only [cQ, bn, bo, bp, bt,  List.length_cons, List.length_nil, Nat.reduceAdd, Nat.zero_add, decide_true, Bool.and_self]) (by simp only [List.flatMap_cons, List.flatMap_nil, bn, bo, bp, bt,  List.cons_append, List.nil_append, List.append_nil]) ?_
     refine S.dk [(vi 1), (vi 2), (vi 5), (vi 1), (vi 2), (vi 0), (.bool true)] [(vi 1), (vi 2), (vi 5), (vi 1), (vi 2), (vi 0), (.bool true)] rfl rfl (ae rfl (ae rfl (ae rfl (ae rfl (ae rfl (ae rfl (ae rfl rfl))))))) (Nat.le_of_ble_eq_true rfl) rfl (fun h S => ?_)
     refine S.cL [(vi 1), (vi 2), (vi 5), (vi 1), (vi 2), (vi 0), (.bool true)] 0 rfl rfl rfl (by decide) ?_
     cases M
     exact H _ _  S.bB
   · have M := aW hc M
     refine di.2 ?_
     refine bz (fun hc => ?_) (fun hc => ?_)
     · have M := aV hc M
       refine dE [(vi 5), (vi 1), (vi 0)] (by simp only [cQ, bn, bo, bp, bt,  List.length_cons, List.length_nil, Nat.reduceAdd, Nat.zero_add, decide_true, Bool.and_self]) (by simp only [List.flatMap_cons, List.flatMap_nil, bn, bo, bp, bt,  List.cons_append, List.nil_append, List.append_nil]) ?_
       refine dE [(vi 2), (vi 0)] (by simp only [cQ, bn, bo, bp, bt,  List.length_cons, List.length_nil, Nat.reduceAdd, Nat.zero_add, decide_true, Bool.and_self]) (by simp only [List.flatMap_cons, List.flatMap_nil, bn, bo, bp, bt,  List.cons_append, List.nil_append, List.append_nil]) ?_
       refine (gD (l := [(vi 5), (vi 1), (vi 0), (vi 0), (vi 2), (vi 0), (.bool false)]) (cG (m := [(vi 5), (vi 1), (vi 0)]) (l2 := [(vi 5), (vi 1), (vi 0), (vi 0), (vi 0), (vi 0), (.bool false)]) rfl rfl (Nat.le_of_ble_eq_true rfl) rfl (cG (m := [(vi 2), (vi 0)]) (l2 := [(vi 5), (vi 1), (vi 0), (vi 0), (vi 2), (vi 0), (.bool false)]) rfl rfl (Nat.le_of_ble_eq_true rfl) rfl rfl))).2 ?_
       refine S.dk [(vi 5), (vi 1), (vi 0), (vi 0), (vi 2), (vi 0), (.bool false)] [(vi 5), (vi 1), (vi 0), (vi 0), (vi 2), (vi 0), (.bool false)] rfl rfl (ae rfl (ae rfl (ae rfl (ae rfl (ae rfl (ae rfl (ae rfl rfl))))))) (Nat.le_of_ble_eq_true rfl) rfl (fun h S => ?_)
       refine S.cL [(vi 5), (vi 1), (vi 0), (vi 0), (vi 2), (vi 0), (.bool false)] 0 rfl rfl rfl (by decide) ?_
       cases M
       exact H _ _  S.bB
     · have M := aW hc M
       refine di.2 ?_
       refine bz (fun hc => ?_) (fun hc => ?_)
       · have M := aV hc M
         refine dE [(vi 6), (vi 1), (vi 0)] (by simp only [cQ, bn, bo, bp, bt,  List.length_cons, List.length_nil, Nat.reduceAdd, Nat.zero_add, decide_true, Bool.and_self]) (by simp only [List.flatMap_cons, List.flatMap_nil, bn, bo, bp, bt,  List.cons_append, List.nil_append, List.append_nil]) ?_
         refine dE [(vi 2), (vi 0)] (by simp only [cQ, bn, bo, bp, bt,  List.length_cons, List.length_nil, Nat.reduceAdd, Nat.zero_add, decide_true, Bool.and_self]) (by simp only [List.flatMap_cons, List.flatMap_nil, bn, bo, bp, bt,  List.cons_append, List.nil_append, List.append_nil]) ?_
         refine (gD (l := [(vi 6), (vi 1), (vi 0), (vi 0), (vi 2), (vi 0), (.bool false)]) (cG (m := [(vi 6), (vi 1), (vi 0)]) (l2 := [(vi 6), (vi 1), (vi 0), (vi 0), (vi 0), (vi 0), (.bool false)]) rfl rfl (Nat.le_of_ble_eq_true rfl) rfl (cG (m := [(vi 2), (vi 0)]) (l2 := [(vi 6), (vi 1), (vi 0), (vi 0), (vi 2), (vi 0), (.bool false)]) rfl rfl (Nat.le_of_ble_eq_true rfl) rfl rfl))).2 ?_
         refine S.dk [(vi 6), (vi 1), (vi 0), (vi 0), (vi 2), (vi 0), (.bool false)] [(vi 6), (vi 1), (vi 0), (vi 0), (vi 2), (vi 0), (.bool false)] rfl rfl (ae rfl (ae rfl (ae rfl (ae rfl (ae rfl (ae rfl (ae rfl rfl))))))) (Nat.le_of_ble_eq_true rfl) rfl (fun h S => ?_)
         refine S.cL [(vi 6), (vi 1), (vi 0), (vi 0), (vi 2), (vi 0), (.bool false)] 0 rfl rfl rfl (by decide) ?_
         cases M
         exact H _ _  S.bB
       · have M := aW hc M
         refine di.2 ?_
         refine bz (fun hc => ?_) (fun hc => ?_)
         · have M := aV hc M
           refine dE [(vi 7), (vi 2), (vi 8)] (by simp only [cQ, bn, bo, bp, bt,  List.length_cons, List.length_nil, Nat.reduceAdd, Nat.zero_add, decide_true, Bool.and_self]) (by simp only [List.flatMap_cons, List.flatMap_nil, bn, bo, bp, bt,  List.cons_append, List.nil_append, List.append_nil]) ?_
           refine dE [(vi 2), (vi 0)] (by simp only [cQ, bn, bo, bp, bt,  List.length_cons, List.length_nil, Nat.reduceAdd, Nat.zero_add, decide_true, Bool.and_self]) (by simp only [List.flatMap_cons, List.flatMap_nil, bn, bo, bp, bt,  List.cons_append, List.nil_append, List.append_nil]) ?_
           refine dE [(vi 7), (vi 2), (vi 8), (vi 1), (vi 2), (vi 0), (.bool true)] (by simp only [cQ, bn, bo, bp, bt,  List.length_cons, List.length_nil, Nat.reduceAdd, Nat.zero_add, decide_true, Bool.and_self]) (by simp only [List.flatMap_cons, List.flatMap_nil, bn, bo, bp, bt,  List.cons_append, List.nil_append, List.append_nil]) ?_
           refine S.dk [(vi 7), (vi 2), (vi 8), (vi 1), (vi 2), (vi 0), (.bool true)] [(vi 7), (vi 2), (vi 8), (vi 1), (vi 2), (vi 0), (.bool true)] rfl rfl (ae rfl (ae rfl (ae rfl (ae rfl (ae rfl (ae rfl (ae rfl rfl))))))) (Nat.le_of_ble_eq_true rfl) rfl (fun h S => ?_)
           refine S.cL [(vi 7), (vi 2), (vi 8), (vi 1), (vi 2), (vi 0), (.bool true)] 0 rfl rfl rfl (by decide) ?_
           cases M
           exact H _ _  S.bB
         · have M := aW hc M
           refine di.2 ?_
           refine bz (fun hc => ?_) (fun hc => ?_)
           · have M := aV hc M
             refine dE [(vi 1), (vi 9), (vi 4)] (by simp only [cQ, bn, bo, bp, bt,  List.length_cons, List.length_nil, Nat.reduceAdd, Nat.zero_add, decide_true, Bool.and_self]) (by simp only [List.flatMap_cons, List.flatMap_nil, bn, bo, bp, bt,  List.cons_append, List.nil_append, List.append_nil]) ?_
             refine (gD (l := [(vi 1), (vi 9), (vi 4), (vi 1), (vi 0), (vi 0), (.bool true)]) (cG (m := [(vi 1), (vi 9), (vi 4)]) (l2 := [(vi 1), (vi 9), (vi 4), (vi 0), (vi 0), (vi 0), (.bool false)]) rfl rfl (Nat.le_of_ble_eq_true rfl) rfl (cG (m := [(vi 1)]) (l2 := [(vi 1), (vi 9), (vi 4), (vi 1), (vi 0), (vi 0), (.bool false)]) rfl rfl (Nat.le_of_ble_eq_true rfl) rfl (cG (m := [(.bool true)]) (l2 := [(vi 1), (vi 9), (vi 4), (vi 1), (vi 0), (vi 0), (.bool true)]) rfl rfl (Nat.le_of_ble_eq_true rfl) rfl rfl)))).2 ?_
             refine S.dk [(vi 1), (vi 9), (vi 4), (vi 1), (vi 0), (vi 0), (.bool true)] [(vi 1), (vi 9), (vi 4), (vi 1), (vi 0), (vi 0), (.bool true)] rfl rfl (ae rfl (ae rfl (ae rfl (ae rfl (ae rfl (ae rfl (ae rfl rfl))))))) (Nat.le_of_ble_eq_true rfl) rfl (fun h S => ?_)
             refine S.cL [(vi 1), (vi 9), (vi 4), (vi 1), (vi 0), (vi 0), (.bool true)] 0 rfl rfl rfl (by decide) ?_
             cases M
             exact H _ _  S.bB
           · have M := aW hc M
             refine di.2 ?_
             refine bz (fun hc => ?_) (fun hc => ?_)
             · have M := aV hc M
               refine dE [(vi 1), (vi 10), (vi 0)] (by simp only [cQ, bn, bo, bp, bt,  List.length_cons, List.length_nil, Nat.reduceAdd, Nat.zero_add, decide_true, Bool.and_self]) (by simp only [List.flatMap_cons, List.flatMap_nil, bn, bo, bp, bt,  List.cons_append, List.nil_append, List.append_nil]) ?_
               refine dE [(vi 1), (vi 0)] (by simp only [cQ, bn, bo, bp, bt,  List.length_cons, List.length_nil, Nat.reduceAdd, Nat.zero_add, decide_true, Bool.and_self]) (by simp only [List.flatMap_cons, List.flatMap_nil, bn, bo, bp, bt,  List.cons_append, List.nil_append, List.append_nil]) ?_
               refine (gD (l := [(vi 1), (vi 10), (vi 0), (vi 0), (vi 1), (vi 0), (.bool true)]) (cG (m := [(vi 1), (vi 10), (vi 0)]) (l2 := [(vi 1), (vi 10), (vi 0), (vi 0), (vi 0), (vi 0), (.bool false)]) rfl rfl (Nat.le_of_ble_eq_true rfl) rfl (cG (m := [(vi 1), (vi 0)]) (l2 := [(vi 1), (vi 10), (vi 0), (vi 0), (vi 1), (vi 0), (.bool false)]) rfl rfl (Nat.le_of_ble_eq_true rfl) rfl (cG (m := [(.bool true)]) (l2 := [(vi 1), (vi 10), (vi 0), (vi 0), (vi 1), (vi 0), (.bool true)]) rfl rfl (Nat.le_of_ble_eq_true rfl) rfl rfl)))).2 ?_
               refine S.dk [(vi 1), (vi 10), (vi 0), (vi 0), (vi 1), (vi 0), (.bool true)] [(vi 1), (vi 10), (vi 0), (vi 0), (vi 1), (vi 0), (.bool true)] rfl rfl (ae rfl (ae rfl (ae rfl (ae rfl (ae rfl (ae rfl (ae rfl rfl))))))) (Nat.le_of_ble_eq_true rfl) rfl (fun h S => ?_)
               refine S.cL [(vi 1), (vi 10), (vi 0), (vi 0), (vi 1), (vi 0), (.bool true)] 0 rfl rfl rfl (by decide) ?_
               cases M
               exact H _ _  S.bB
             · have M := aW hc M
               refine di.2 ?_
               refine bz (fun hc => ?_) (fun hc => ?_)
               · have M := aV hc M
                 refine dE [(vi 2), (vi 0), (vi 0)] (by simp only [cQ, bn, bo, bp, bt,  List.length_cons, List.length_nil, Nat.reduceAdd, Nat.zero_add, decide_true, Bool.and_self]) (by simp only [List.flatMap_cons, List.flatMap_nil, bn, bo, bp, bt,  List.cons_append, List.nil_append, List.append_nil]) ?_
                 refine dE [(vi 1), (vi 0)] (by simp only [cQ, bn, bo, bp, bt,  List.length_cons, List.length_nil, Nat.reduceAdd, Nat.zero_add, decide_true, Bool.and_self]) (by simp only [List.flatMap_cons, List.flatMap_nil, bn, bo, bp, bt,  List.cons_append, List.nil_append, List.append_nil]) ?_
                 refine (gD (l := [(vi 2), (vi 0), (vi 0), (vi 0), (vi 1), (vi 0), (.bool true)]) (cG (m := [(vi 2), (vi 0), (vi 0)]) (l2 := [(vi 2), (vi 0), (vi 0), (vi 0), (vi 0), (vi 0), (.bool false)]) rfl rfl (Nat.le_of_ble_eq_true rfl) rfl (cG (m := [(vi 1), (vi 0)]) (l2 := [(vi 2), (vi 0), (vi 0), (vi 0), (vi 1), (vi 0), (.bool false)]) rfl rfl (Nat.le_of_ble_eq_true rfl) rfl (cG (m := [(.bool true)]) (l2 := [(vi 2), (vi 0), (vi 0), (vi 0), (vi 1), (vi 0), (.bool true)]) rfl rfl (Nat.le_of_ble_eq_true rfl) rfl rfl)))).2 ?_
                 refine S.dk [(vi 2), (vi 0), (vi 0), (vi 0), (vi 1), (vi 0), (.bool true)] [(vi 2), (vi 0), (vi 0), (vi 0), (vi 1), (vi 0), (.bool true)] rfl rfl (ae rfl (ae rfl (ae rfl (ae rfl (ae rfl (ae rfl (ae rfl rfl))))))) (Nat.le_of_ble_eq_true rfl) rfl (fun h S => ?_)
                 refine S.cL [(vi 2), (vi 0), (vi 0), (vi 0), (vi 1), (vi 0), (.bool true)] 0 rfl rfl rfl (by decide) ?_
                 cases M
                 exact H _ _  S.bB
               · have M := aW hc M
                 refine di.2 ?_
                 refine bz (fun hc => ?_) (fun hc => ?_)
                 · have M := aV hc M
                   refine dE [(vi 11), (vi 0), (vi 0)] (by simp only [cQ, bn, bo, bp, bt,  List.length_cons, List.length_nil, Nat.reduceAdd, Nat.zero_add, decide_true, Bool.and_self]) (by simp only [List.flatMap_cons, List.flatMap_nil, bn, bo, bp, bt,  List.cons_append, List.nil_append, List.append_nil]) ?_
                   refine (gD (l := [(vi 11), (vi 0), (vi 0), (vi 0), (vi 0), (vi 0), (.bool false)]) (cG (m := [(vi 11), (vi 0), (vi 0)]) (l2 := [(vi 11), (vi 0), (vi 0), (vi 0), (vi 0), (vi 0), (.bool false)]) rfl rfl (Nat.le_of_ble_eq_true rfl) rfl rfl)).2 ?_
                   refine S.dk [(vi 11), (vi 0), (vi 0), (vi 0), (vi 0), (vi 0), (.bool false)] [(vi 11), (vi 0), (vi 0), (vi 0), (vi 0), (vi 0), (.bool false)] rfl rfl (ae rfl (ae rfl (ae rfl (ae rfl (ae rfl (ae rfl (ae rfl rfl))))))) (Nat.le_of_ble_eq_true rfl) rfl (fun h S => ?_)
                   refine S.cL [(vi 11), (vi 0), (vi 0), (vi 0), (vi 0), (vi 0), (.bool false)] 0 rfl rfl rfl (by decide) ?_
                   cases M
                   exact H _ _  S.bB
                 · have M := aW hc M
                   refine di.2 ?_
                   refine bz (fun hc => ?_) (fun hc => ?_)
                   · have M := aV hc M
                     refine dE [(vi 1), (vi 11), (vi 0)] (by simp only [cQ, bn, bo, bp, bt,  List.length_cons, List.length_nil, Nat.reduceAdd, Nat.zero_add, decide_true, Bool.and_self]) (by simp only [List.flatMap_cons, List.flatMap_nil, bn, bo, bp, bt,  List.cons_append, List.nil_append, List.append_nil]) ?_
                     refine dE [(vi 1), (vi 0)] (by simp only [cQ, bn, bo, bp, bt,  List.length_cons, List.length_nil, Nat.reduceAdd, Nat.zero_add, decide_true, Bool.and_self]) (by simp only [List.flatMap_cons, List.flatMap_nil, bn, bo, bp, bt,  List.cons_append, List.nil_append, List.append_nil]) ?_
                     refine (gD (l := [(vi 1), (vi 11), (vi 0), (vi 0), (vi 1), (vi 0), (.bool false)]) (cG (m := [(vi 1), (vi 11), (vi 0)]) (l2 := [(vi 1), (vi 11), (vi 0), (vi 0), (vi 0), (vi 0), (.bool false)]) rfl rfl (Nat.le_of_ble_eq_true rfl) rfl (cG (m := [(vi 1), (vi 0)]) (l2 := [(vi 1), (vi 11), (vi 0), (vi 0), (vi 1), (vi 0), (.bool false)]) rfl rfl (Nat.le_of_ble_eq_true rfl) rfl rfl))).2 ?_
                     refine S.dk [(vi 1), (vi 11), (vi 0), (vi 0), (vi 1), (vi 0), (.bool false)] [(vi 1), (vi 11), (vi 0), (vi 0), (vi 1), (vi 0), (.bool false)] rfl rfl (ae rfl (ae rfl (ae rfl (ae rfl (ae rfl (ae rfl (ae rfl rfl))))))) (Nat.le_of_ble_eq_true rfl) rfl (fun h S => ?_)
                     refine S.cL [(vi 1), (vi 11), (vi 0), (vi 0), (vi 1), (vi 0), (.bool false)] 0 rfl rfl rfl (by decide) ?_
                     cases M
                     exact H _ _  S.bB
                   · have M := aW hc M
                     refine di.2 ?_
                     refine bz (fun hc => ?_) (fun hc => ?_)
                     · have M := aV hc M
                       refine dE [(vi 12), (vi 0), (vi 0)] (by simp only [cQ, bn, bo, bp, bt,  List.length_cons, List.length_nil, Nat.reduceAdd, Nat.zero_add, decide_true, Bool.and_self]) (by simp only [List.flatMap_cons, List.flatMap_nil, bn, bo, bp, bt,  List.cons_append, List.nil_append, List.append_nil]) ?_
                       refine (gD (l := [(vi 12), (vi 0), (vi 0), (vi 0), (vi 0), (vi 0), (.bool true)]) (cG (m := [(vi 12), (vi 0), (vi 0)]) (l2 := [(vi 12), (vi 0), (vi 0), (vi 0), (vi 0), (vi 0), (.bool false)]) rfl rfl (Nat.le_of_ble_eq_true rfl) rfl (cG (m := [(.bool true)]) (l2 := [(vi 12), (vi 0), (vi 0), (vi 0), (vi 0), (vi 0), (.bool true)]) rfl rfl (Nat.le_of_ble_eq_true rfl) rfl rfl))).2 ?_
                       refine S.dk [(vi 12), (vi 0), (vi 0), (vi 0), (vi 0), (vi 0), (.bool true)] [(vi 12), (vi 0), (vi 0), (vi 0), (vi 0), (vi 0), (.bool true)] rfl rfl (ae rfl (ae rfl (ae rfl (ae rfl (ae rfl (ae rfl (ae rfl rfl))))))) (Nat.le_of_ble_eq_true rfl) rfl (fun h S => ?_)
                       refine S.cL [(vi 12), (vi 0), (vi 0), (vi 0), (vi 0), (vi 0), (.bool true)] 0 rfl rfl rfl (by decide) ?_
                       cases M
                       exact H _ _  S.bB
                     · have M := aW hc M
                       refine di.2 ?_
                       refine bz (fun hc => ?_) (fun hc => ?_)
                       · have M := aV hc M
                         refine (gD (l := [(vi 0), (vi 0), (vi 0), (vi 0), (vi 0), (vi 0), (.bool true)]) (cG (m := [(.bool true)]) (l2 := [(vi 0), (vi 0), (vi 0), (vi 0), (vi 0), (vi 0), (.bool true)]) rfl rfl (Nat.le_of_ble_eq_true rfl) rfl rfl)).2 ?_
                         refine S.dk [(vi 0), (vi 0), (vi 0), (vi 0), (vi 0), (vi 0), (.bool true)] [(vi 0), (vi 0), (vi 0), (vi 0), (vi 0), (vi 0), (.bool true)] rfl rfl (ae rfl (ae rfl (ae rfl (ae rfl (ae rfl (ae rfl (ae rfl rfl))))))) (Nat.le_of_ble_eq_true rfl) rfl (fun h S => ?_)
                         refine S.cL [(vi 0), (vi 0), (vi 0), (vi 0), (vi 0), (vi 0), (.bool true)] 0 rfl rfl rfl (by decide) ?_
                         cases M
                         exact H _ _  S.bB
                       · have M := aW hc M
                         refine di.2 ?_
                         refine bz (fun hc => ?_) (fun hc => ?_)
                         · have M := aV hc M
                           refine dE [(vi 2), (vi 0), (vi 0)] (by simp only [cQ, bn, bo, bp, bt,  List.length_cons, List.length_nil, Nat.reduceAdd, Nat.zero_add, decide_true, Bool.and_self]) (by simp only [List.flatMap_cons, List.flatMap_nil, bn, bo, bp, bt,  List.cons_append, List.nil_append, List.append_nil]) ?_
                           refine dE [(vi 1), (vi 0)] (by simp only [cQ, bn, bo, bp, bt,  List.length_cons, List.length_nil, Nat.reduceAdd, Nat.zero_add, decide_true, Bool.and_self]) (by simp only [List.flatMap_cons, List.flatMap_nil, bn, bo, bp, bt,  List.cons_append, List.nil_append, List.append_nil]) ?_
                           refine (gD (l := [(vi 2), (vi 0), (vi 0), (vi 0), (vi 1), (vi 0), (.bool false)]) (cG (m := [(vi 2), (vi 0), (vi 0)]) (l2 := [(vi 2), (vi 0), (vi 0), (vi 0), (vi 0), (vi 0), (.bool false)]) rfl rfl (Nat.le_of_ble_eq_true rfl) rfl (cG (m := [(vi 1), (vi 0)]) (l2 := [(vi 2), (vi 0), (vi 0), (vi 0), (vi 1), (vi 0), (.bool false)]) rfl rfl (Nat.le_of_ble_eq_true rfl) rfl rfl))).2 ?_
                           refine S.dk [(vi 2), (vi 0), (vi 0), (vi 0), (vi 1), (vi 0), (.bool false)] [(vi 2), (vi 0), (vi 0), (vi 0), (vi 1), (vi 0), (.bool false)] rfl rfl (ae rfl (ae rfl (ae rfl (ae rfl (ae rfl (ae rfl (ae rfl rfl))))))) (Nat.le_of_ble_eq_true rfl) rfl (fun h S => ?_)
                           refine S.cL [(vi 2), (vi 0), (vi 0), (vi 0), (vi 1), (vi 0), (.bool false)] 0 rfl rfl rfl (by decide) ?_
                           cases M
                           exact H _ _  S.bB
                         · have M := aW hc M
                           refine di.2 ?_
                           refine bz (fun hc => ?_) (fun hc => ?_)
                           · have M := aV hc M
                             refine dE [(vi 1), (vi 0), (vi 0)] (by simp only [cQ, bn, bo, bp, bt,  List.length_cons, List.length_nil, Nat.reduceAdd, Nat.zero_add, decide_true, Bool.and_self]) (by simp only [List.flatMap_cons, List.flatMap_nil, bn, bo, bp, bt,  List.cons_append, List.nil_append, List.append_nil]) ?_
                             refine dE [(vi 1), (vi 0)] (by simp only [cQ, bn, bo, bp, bt,  List.length_cons, List.length_nil, Nat.reduceAdd, Nat.zero_add, decide_true, Bool.and_self]) (by simp only [List.flatMap_cons, List.flatMap_nil, bn, bo, bp, bt,  List.cons_append, List.nil_append, List.append_nil]) ?_
                             refine (gD (l := [(vi 1), (vi 0), (vi 0), (vi 0), (vi 1), (vi 0), (.bool false)]) (cG (m := [(vi 1), (vi 0), (vi 0)]) (l2 := [(vi 1), (vi 0), (vi 0), (vi 0), (vi 0), (vi 0), (.bool false)]) rfl rfl (Nat.le_of_ble_eq_true rfl) rfl (cG (m := [(vi 1), (vi 0)]) (l2 := [(vi 1), (vi 0), (vi 0), (vi 0), (vi 1), (vi 0), (.bool false)]) rfl rfl (Nat.le_of_ble_eq_true rfl) rfl rfl))).2 ?_
                             refine S.dk [(vi 1), (vi 0), (vi 0), (vi 0), (vi 1), (vi 0), (.bool false)] [(vi 1), (vi 0), (vi 0), (vi 0), (vi 1), (vi 0), (.bool false)] rfl rfl (ae rfl (ae rfl (ae rfl (ae rfl (ae rfl (ae rfl (ae rfl rfl))))))) (Nat.le_of_ble_eq_true rfl) rfl (fun h S => ?_)
                             refine S.cL [(vi 1), (vi 0), (vi 0), (vi 0), (vi 1), (vi 0), (.bool false)] 0 rfl rfl rfl (by decide) ?_
                             cases M
                             exact H _ _  S.bB
                           · have M := aW hc M
                             refine di.2 ?_
                             refine bz (fun hc => ?_) (fun hc => ?_)
                             · have M := aV hc M
                               refine dE [(vi 1), (vi 0), (vi 0)] (by simp only [cQ, bn, bo, bp, bt,  List.length_cons, List.length_nil, Nat.reduceAdd, Nat.zero_add, decide_true, Bool.and_self]) (by simp only [List.flatMap_cons, List.flatMap_nil, bn, bo, bp, bt,  List.cons_append, List.nil_append, List.append_nil]) ?_
                               refine dE [(vi 1), (vi 0)] (by simp only [cQ, bn, bo, bp, bt,  List.length_cons, List.length_nil, Nat.reduceAdd, Nat.zero_add, decide_true, Bool.and_self]) (by simp only [List.flatMap_cons, List.flatMap_nil, bn, bo, bp, bt,  List.cons_append, List.nil_append, List.append_nil]) ?_
                               refine (gD (l := [(vi 1), (vi 0), (vi 0), (vi 0), (vi 1), (vi 0), (.bool true)]) (cG (m := [(vi 1), (vi 0), (vi 0)]) (l2 := [(vi 1), (vi 0), (vi 0), (vi 0), (vi 0), (vi 0), (.bool false)]) rfl rfl (Nat.le_of_ble_eq_true rfl) rfl (cG (m := [(vi 1), (vi 0)]) (l2 := [(vi 1), (vi 0), (vi 0), (vi 0), (vi 1), (vi 0), (.bool false)]) rfl rfl (Nat.le_of_ble_eq_true rfl) rfl (cG (m := [(.bool true)]) (l2 := [(vi 1), (vi 0), (vi 0), (vi 0), (vi 1), (vi 0), (.bool true)]) rfl rfl (Nat.le_of_ble_eq_true rfl) rfl rfl)))).2 ?_
                               refine S.dk [(vi 1), (vi 0), (vi 0), (vi 0), (vi 1), (vi 0), (.bool true)] [(vi 1), (vi 0), (vi 0), (vi 0), (vi 1), (vi 0), (.bool true)] rfl rfl (ae rfl (ae rfl (ae rfl (ae rfl (ae rfl (ae rfl (ae rfl rfl))))))) (Nat.le_of_ble_eq_true rfl) rfl (fun h S => ?_)
                               refine S.cL [(vi 1), (vi 0), (vi 0), (vi 0), (vi 1), (vi 0), (.bool true)] 0 rfl rfl rfl (by decide) ?_
                               cases M
                               exact H _ _  S.bB
                             · have M := aW hc M
                               refine di.2 ?_
                               refine bz (fun hc => ?_) (fun hc => ?_)
                               · have M := aV hc M
                                 refine (gD (l := [(vi 0), (vi 0), (vi 0), (vi 0), (vi 0), (vi 0), (.bool false)]) rfl).2 ?_
                                 refine S.dk [(vi 0), (vi 0), (vi 0), (vi 0), (vi 0), (vi 0), (.bool false)] [(vi 0), (vi 0), (vi 0), (vi 0), (vi 0), (vi 0), (.bool false)] rfl rfl (ae rfl (ae rfl (ae rfl (ae rfl (ae rfl (ae rfl (ae rfl rfl))))))) (Nat.le_of_ble_eq_true rfl) rfl (fun h S => ?_)
                                 refine S.cL [(vi 0), (vi 0), (vi 0), (vi 0), (vi 0), (vi 0), (.bool false)] 0 rfl rfl rfl (by decide) ?_
                                 cases M
                                 exact H _ _  S.bB
                               · have M := aW hc M
                                 refine di.2 ?_
                                 refine bz (fun hc => ?_) (fun hc => ?_)
                                 · have M := aV hc M
                                   refine dE [(vi 1), (vi 11), (vi 0)] (by simp only [cQ, bn, bo, bp, bt,  List.length_cons, List.length_nil, Nat.reduceAdd, Nat.zero_add, decide_true, Bool.and_self]) (by simp only [List.flatMap_cons, List.flatMap_nil, bn, bo, bp, bt,  List.cons_append, List.nil_append, List.append_nil]) ?_
                                   refine dE [(vi 1), (vi 0)] (by simp only [cQ, bn, bo, bp, bt,  List.length_cons, List.length_nil, Nat.reduceAdd, Nat.zero_add, decide_true, Bool.and_self]) (by simp only [List.flatMap_cons, List.flatMap_nil, bn, bo, bp, bt,  List.cons_append, List.nil_append, List.append_nil]) ?_
                                   refine (gD (l := [(vi 1), (vi 11), (vi 0), (vi 0), (vi 1), (vi 0), (.bool true)]) (cG (m := [(vi 1), (vi 11), (vi 0)]) (l2 := [(vi 1), (vi 11), (vi 0), (vi 0), (vi 0), (vi 0), (.bool false)]) rfl rfl (Nat.le_of_ble_eq_true rfl) rfl (cG (m := [(vi 1), (vi 0)]) (l2 := [(vi 1), (vi 11), (vi 0), (vi 0), (vi 1), (vi 0), (.bool false)]) rfl rfl (Nat.le_of_ble_eq_true rfl) rfl (cG (m := [(.bool true)]) (l2 := [(vi 1), (vi 11), (vi 0), (vi 0), (vi 1), (vi 0), (.bool true)]) rfl rfl (Nat.le_of_ble_eq_true rfl) rfl rfl)))).2 ?_
                                   refine S.dk [(vi 1), (vi 11), (vi 0), (vi 0), (vi 1), (vi 0), (.bool true)] [(vi 1), (vi 11), (vi 0), (vi 0), (vi 1), (vi 0), (.bool true)] rfl rfl (ae rfl (ae rfl (ae rfl (ae rfl (ae rfl (ae rfl (ae rfl rfl))))))) (Nat.le_of_ble_eq_true rfl) rfl (fun h S => ?_)
                                   refine S.cL [(vi 1), (vi 11), (vi 0), (vi 0), (vi 1), (vi 0), (.bool true)] 0 rfl rfl rfl (by decide) ?_
                                   cases M
                                   exact H _ _  S.bB
                                 · have M := aW hc M
                                   refine di.2 ?_
                                   refine bz (fun hc => ?_) (fun hc => ?_)
                                   · have M := aV hc M
                                     refine dE [(vi 1), (vi 13), (vi 0)] (by simp only [cQ, bn, bo, bp, bt,  List.length_cons, List.length_nil, Nat.reduceAdd, Nat.zero_add, decide_true, Bool.and_self]) (by simp only [List.flatMap_cons, List.flatMap_nil, bn, bo, bp, bt,  List.cons_append, List.nil_append, List.append_nil]) ?_
                                     refine (gD (l := [(vi 1), (vi 13), (vi 0), (vi 1), (vi 0), (vi 0), (.bool false)]) (cG (m := [(vi 1), (vi 13), (vi 0)]) (l2 := [(vi 1), (vi 13), (vi 0), (vi 0), (vi 0), (vi 0), (.bool false)]) rfl rfl (Nat.le_of_ble_eq_true rfl) rfl (cG (m := [(vi 1)]) (l2 := [(vi 1), (vi 13), (vi 0), (vi 1), (vi 0), (vi 0), (.bool false)]) rfl rfl (Nat.le_of_ble_eq_true rfl) rfl rfl))).2 ?_
                                     refine S.dk [(vi 1), (vi 13), (vi 0), (vi 1), (vi 0), (vi 0), (.bool false)] [(vi 1), (vi 13), (vi 0), (vi 1), (vi 0), (vi 0), (.bool false)] rfl rfl (ae rfl (ae rfl (ae rfl (ae rfl (ae rfl (ae rfl (ae rfl rfl))))))) (Nat.le_of_ble_eq_true rfl) rfl (fun h S => ?_)
                                     refine S.cL [(vi 1), (vi 13), (vi 0), (vi 1), (vi 0), (vi 0), (.bool false)] 0 rfl rfl rfl (by decide) ?_
                                     cases M
                                     exact H _ _  S.bB
                                   · have M := aW hc M
                                     refine di.2 ?_
                                     refine bz (fun hc => ?_) (fun hc => ?_)
                                     · have M := aV hc M
                                       refine dE [(vi 13), (vi 1), (vi 0)] (by simp only [cQ, bn, bo, bp, bt,  List.length_cons, List.length_nil, Nat.reduceAdd, Nat.zero_add, decide_true, Bool.and_self]) (by simp only [List.flatMap_cons, List.flatMap_nil, bn, bo, bp, bt,  List.cons_append, List.nil_append, List.append_nil]) ?_
                                       refine dE [(vi 2), (vi 0)] (by simp only [cQ, bn, bo, bp, bt,  List.length_cons, List.length_nil, Nat.reduceAdd, Nat.zero_add, decide_true, Bool.and_self]) (by simp only [List.flatMap_cons, List.flatMap_nil, bn, bo, bp, bt,  List.cons_append, List.nil_append, List.append_nil]) ?_
                                       refine (gD (l := [(vi 13), (vi 1), (vi 0), (vi 0), (vi 2), (vi 0), (.bool false)]) (cG (m := [(vi 13), (vi 1), (vi 0)]) (l2 := [(vi 13), (vi 1), (vi 0), (vi 0), (vi 0), (vi 0), (.bool false)]) rfl rfl (Nat.le_of_ble_eq_true rfl) rfl (cG (m := [(vi 2), (vi 0)]) (l2 := [(vi 13), (vi 1), (vi 0), (vi 0), (vi 2), (vi 0), (.bool false)]) rfl rfl (Nat.le_of_ble_eq_true rfl) rfl rfl))).2 ?_
                                       refine S.dk [(vi 13), (vi 1), (vi 0), (vi 0), (vi 2), (vi 0), (.bool false)] [(vi 13), (vi 1), (vi 0), (vi 0), (vi 2), (vi 0), (.bool false)] rfl rfl (ae rfl (ae rfl (ae rfl (ae rfl (ae rfl (ae rfl (ae rfl rfl))))))) (Nat.le_of_ble_eq_true rfl) rfl (fun h S => ?_)
                                       refine S.cL [(vi 13), (vi 1), (vi 0), (vi 0), (vi 2), (vi 0), (.bool false)] 0 rfl rfl rfl (by decide) ?_
                                       cases M
                                       exact H _ _  S.bB
                                     · have M := aW hc M
                                       exact akG M S  H
theorem C3 {w0 : World} {c : Cx} {g h : AH} {E R : Value → W} {r : cI × Bool} {v1 : cI} {x0 : Int} {xw : Bool} {ak : Nat}  (M : uj v1 x0 xw = some r) (S : Sep c g h [.bx ak [(vi v1.gW.e0), (vi v1.gW.e1), (vi v1.gW.e2), (vi v1.uk), (vi v1.kR.e0), (vi v1.kR.e1), (.bool v1.ql)]])   (H : zp c R r) : uR w0 E R (aC ak 0) (vi x0) (.bool xw) h := by
 unfold uR
 unfold uj at M
 refine bz (fun hc => ?_) (fun hc => ?_)
 · have M := aV hc M
   refine dE [(vi 1), (vi 1), (vi 1)] (by simp only [cQ, bn, bo, bp, bt,  List.length_cons, List.length_nil, Nat.reduceAdd, Nat.zero_add, decide_true, Bool.and_self]) (by simp only [List.flatMap_cons, List.flatMap_nil, bn, bo, bp, bt,  List.cons_append, List.nil_append, List.append_nil]) ?_
   refine dE [(vi 2), (vi 3)] (by simp only [cQ, bn, bo, bp, bt,  List.length_cons, List.length_nil, Nat.reduceAdd, Nat.zero_add, decide_true, Bool.and_self]) (by simp only [List.flatMap_cons, List.flatMap_nil, bn, bo, bp, bt,  List.cons_append, List.nil_append, List.append_nil]) ?_
   refine dE [(vi 1), (vi 1), (vi 1), (vi 1), (vi 2), (vi 3), (.bool true)] (by simp only [cQ, bn, bo, bp, bt,  List.length_cons, List.length_nil, Nat.reduceAdd, Nat.zero_add, decide_true, Bool.and_self]) (by simp only [List.flatMap_cons, List.flatMap_nil, bn, bo, bp, bt,  List.cons_append, List.nil_append, List.append_nil]) ?_
   refine S.dk [(vi 1), (vi 1), (vi 1), (vi 1), (vi 2), (vi 3), (.bool true)] [(vi 1), (vi 1), (vi 1), (vi 1), (vi 2), (vi 3), (.bool true)] rfl rfl (ae rfl (ae rfl (ae rfl (ae rfl (ae rfl (ae rfl (ae rfl rfl))))))) (Nat.le_of_ble_eq_true rfl) rfl (fun h S => ?_)
   refine S.cL [(vi 1), (vi 1), (vi 1), (vi 1), (vi 2), (vi 3), (.bool true)] 0 rfl rfl rfl (by decide) ?_
   cases M
   exact H _ _  S.bB
 · have M := aW hc M
   refine di.2 ?_
   refine bz (fun hc => ?_) (fun hc => ?_)
   · have M := aV hc M
     exact Q8 M S  H
   · have M := aW hc M
     refine di.2 ?_
     refine bz (fun hc => ?_) (fun hc => ?_)
     · have M := aV hc M
       exact Q8 M S  H
     · have M := aW hc M
       refine di.2 ?_
       exact Q8 M S  H
theorem Ig {w0 : World} {c : Cx} {g h : AH} {E R : Value → W} {r : cI × Bool} {v1 : cI} {x0 : Int} {xy : Bool} {ak : Nat}  (M : wX v1 x0 xy = some r) (S : Sep c g h [.bx ak [(vi v1.gW.e0), (vi v1.gW.e1), (vi v1.gW.e2), (vi v1.uk), (vi v1.kR.e0), (vi v1.kR.e1), (.bool v1.ql)]])   (H : zp c R r) : xx w0 E R (aC ak 0) (vi x0) (.bool xy) h := by
 unfold xx
 unfold wX at M
 refine bz (fun hc => ?_) (fun hc => ?_)
 · have M := aV hc M
   refine dE [(vi 1), (vi 1), (vi 0)] (by simp only [cQ, bn, bo, bp, bt,  List.length_cons, List.length_nil, Nat.reduceAdd, Nat.zero_add, decide_true, Bool.and_self]) (by simp only [List.flatMap_cons, List.flatMap_nil, bn, bo, bp, bt,  List.cons_append, List.nil_append, List.append_nil]) ?_
   refine dE [(vi 2), (vi 0)] (by simp only [cQ, bn, bo, bp, bt,  List.length_cons, List.length_nil, Nat.reduceAdd, Nat.zero_add, decide_true, Bool.and_self]) (by simp only [List.flatMap_cons, List.flatMap_nil, bn, bo, bp, bt,  List.cons_append, List.nil_append, List.append_nil]) ?_
   refine (gD (l := [(vi 1), (vi 1), (vi 0), (vi 1), (vi 2), (vi 0), (.bool false)]) (cG (m := [(vi 1), (vi 1), (vi 0)]) (l2 := [(vi 1), (vi 1), (vi 0), (vi 0), (vi 0), (vi 0), (.bool false)]) rfl rfl (Nat.le_of_ble_eq_true rfl) rfl (cG (m := [(vi 1)]) (l2 := [(vi 1), (vi 1), (vi 0), (vi 1), (vi 0), (vi 0), (.bool false)]) rfl rfl (Nat.le_of_ble_eq_true rfl) rfl (cG (m := [(vi 2), (vi 0)]) (l2 := [(vi 1), (vi 1), (vi 0), (vi 1), (vi 2), (vi 0), (.bool false)]) rfl rfl (Nat.le_of_ble_eq_true rfl) rfl rfl)))).2 ?_
   refine S.dk [(vi 1), (vi 1), (vi 0), (vi 1), (vi 2), (vi 0), (.bool false)] [(vi 1), (vi 1), (vi 0), (vi 1), (vi 2), (vi 0), (.bool false)] rfl rfl (ae rfl (ae rfl (ae rfl (ae rfl (ae rfl (ae rfl (ae rfl rfl))))))) (Nat.le_of_ble_eq_true rfl) rfl (fun h S => ?_)
   refine S.cL [(vi 1), (vi 1), (vi 0), (vi 1), (vi 2), (vi 0), (.bool false)] 0 rfl rfl rfl (by decide) ?_
   cases M
   exact H _ _  S.bB
 · have M := aW hc M
   refine di.2 ?_
   refine bz (fun hc => ?_) (fun hc => ?_)
   · have M := aV hc M
     exact C3 M S  H
   · have M := aW hc M
     refine di.2 ?_
     refine bz (fun hc => ?_) (fun hc => ?_)
     · have M := aV hc M
       exact C3 M S  H
     · have M := aW hc M
       refine di.2 ?_
       refine bz (fun hc => ?_) (fun hc => ?_)
       · have M := aV hc M
         exact C3 M S  H
       · have M := aW hc M
         refine di.2 ?_
         refine bz (fun hc => ?_) (fun hc => ?_)
         · have M := aV hc M
           exact C3 M S  H
         · have M := aW hc M
           refine di.2 ?_
           exact C3 M S  H
theorem Z7 {w0 : World} {c : Cx} {g h : AH} {E R : Value → W} {r : cI × Bool} {v1 : cI} {x0 : Int} {cM : Bool} {ak : Nat}  (M : C2 v1 x0 cM = some r) (S : Sep c g h [.bx ak [(vi v1.gW.e0), (vi v1.gW.e1), (vi v1.gW.e2), (vi v1.uk), (vi v1.kR.e0), (vi v1.kR.e1), (.bool v1.ql)]])   (H : zp c R r) : Ex w0 E R (aC ak 0) (vi x0) (.bool cM) h := by
 unfold Ex
 unfold C2 at M
 refine bz (fun hc => ?_) (fun hc => ?_)
 · have M := aV hc M
   refine dE [(vi 1), (vi 0), (vi 0)] (by simp only [cQ, bn, bo, bp, bt,  List.length_cons, List.length_nil, Nat.reduceAdd, Nat.zero_add, decide_true, Bool.and_self]) (by simp only [List.flatMap_cons, List.flatMap_nil, bn, bo, bp, bt,  List.cons_append, List.nil_append, List.append_nil]) ?_
   refine (gD (l := [(vi 1), (vi 0), (vi 0), (vi 1), (vi 0), (vi 0), (.bool false)]) (cG (m := [(vi 1), (vi 0), (vi 0)]) (l2 := [(vi 1), (vi 0), (vi 0), (vi 0), (vi 0), (vi 0), (.bool false)]) rfl rfl (Nat.le_of_ble_eq_true rfl) rfl (cG (m := [(vi 1)]) (l2 := [(vi 1), (vi 0), (vi 0), (vi 1), (vi 0), (vi 0), (.bool false)]) rfl rfl (Nat.le_of_ble_eq_true rfl) rfl rfl))).2 ?_
   refine S.dk [(vi 1), (vi 0), (vi 0), (vi 1), (vi 0), (vi 0), (.bool false)] [(vi 1), (vi 0), (vi 0), (vi 1), (vi 0), (vi 0), (.bool false)] rfl rfl (ae rfl (ae rfl (ae rfl (ae rfl (ae rfl (ae rfl (ae rfl rfl))))))) (Nat.le_of_ble_eq_true rfl) rfl (fun h S => ?_)
   refine S.cL [(vi 1), (vi 0), (vi 0), (vi 1), (vi 0), (vi 0), (.bool false)] 0 rfl rfl rfl (by decide) ?_
   cases M
   exact H _ _  S.bB
 · have M := aW hc M
   refine di.2 ?_
   refine bz (fun hc => ?_) (fun hc => ?_)
   · have M := aV hc M
     exact Ig M S  H
   · have M := aW hc M
     refine di.2 ?_
     refine bz (fun hc => ?_) (fun hc => ?_)
     · have M := aV hc M
       exact Ig M S  H
     · have M := aW hc M
       refine di.2 ?_
       refine bz (fun hc => ?_) (fun hc => ?_)
       · have M := aV hc M
         exact Ig M S  H
       · have M := aW hc M
         refine di.2 ?_
         exact Ig M S  H
theorem akH {w0 : World} {g h : AH} {Q : CR → AH → Prop} {r : cI × Bool} {x0 : Int} (M : zo x0 = some r) (sg : Sub g h) (ok : h.Ok)  (H : zp ⟨g, h, []⟩ (fun v => Q (.ret v)) r) : WF PP w0 Kx [(vi x0)] h Q := by
 refine ab3 _ ?_
 have S := Sep.start sg ok
 unfold TC
 unfold zo at M
 refine S.alloc (l := [(vi 0), (vi 0), (vi 0), (vi 0), (vi 0), (vi 0), (.bool false)]) (ae rfl (ae rfl (ae rfl (ae rfl (ae rfl (ae rfl (ae rfl rfl))))))) (fun jE h S => ?_)
 refine di.2 ?_
 refine bz (fun hc => ?_) (fun hc => ?_)
 · have M := aV hc M
   refine dE [(vi 1), (vi 3), (vi 0)] (by simp only [cQ, bn, bo, bp, bt,  List.length_cons, List.length_nil, Nat.reduceAdd, Nat.zero_add, decide_true, Bool.and_self]) (by simp only [List.flatMap_cons, List.flatMap_nil, bn, bo, bp, bt,  List.cons_append, List.nil_append, List.append_nil]) ?_
   refine (gD (l := [(vi 1), (vi 3), (vi 0), (vi 1), (vi 0), (vi 0), (.bool false)]) (cG (m := [(vi 1), (vi 3), (vi 0)]) (l2 := [(vi 1), (vi 3), (vi 0), (vi 0), (vi 0), (vi 0), (.bool false)]) rfl rfl (Nat.le_of_ble_eq_true rfl) rfl (cG (m := [(vi 1)]) (l2 := [(vi 1), (vi 3), (vi 0), (vi 1), (vi 0), (vi 0), (.bool false)]) rfl rfl (Nat.le_of_ble_eq_true rfl) rfl rfl))).2 ?_
   refine S.dk [(vi 1), (vi 3), (vi 0), (vi 1), (vi 0), (vi 0), (.bool false)] [(vi 1), (vi 3), (vi 0), (vi 1), (vi 0), (vi 0), (.bool false)] rfl rfl (ae rfl (ae rfl (ae rfl (ae rfl (ae rfl (ae rfl (ae rfl rfl))))))) (Nat.le_of_ble_eq_true rfl) rfl (fun h S => ?_)
   refine S.cL [(vi 1), (vi 3), (vi 0), (vi 1), (vi 0), (vi 0), (.bool false)] 0 rfl rfl rfl (by decide) ?_
   cases M
   exact H _ _  S.bB
 · have M := aW hc M
   refine di.2 ?_
   refine bz (fun hc => ?_) (fun hc => ?_)
   · have M := aV hc M
     refine dE [(vi 1), (vi 4), (vi 0)] (by simp only [cQ, bn, bo, bp, bt,  List.length_cons, List.length_nil, Nat.reduceAdd, Nat.zero_add, decide_true, Bool.and_self]) (by simp only [List.flatMap_cons, List.flatMap_nil, bn, bo, bp, bt,  List.cons_append, List.nil_append, List.append_nil]) ?_
     refine (gD (l := [(vi 1), (vi 4), (vi 0), (vi 1), (vi 0), (vi 0), (.bool false)]) (cG (m := [(vi 1), (vi 4), (vi 0)]) (l2 := [(vi 1), (vi 4), (vi 0), (vi 0), (vi 0), (vi 0), (.bool false)]) rfl rfl (Nat.le_of_ble_eq_true rfl) rfl (cG (m := [(vi 1)]) (l2 := [(vi 1), (vi 4), (vi 0), (vi 1), (vi 0), (vi 0), (.bool false)]) rfl rfl (Nat.le_of_ble_eq_true rfl) rfl rfl))).2 ?_
     refine S.dk [(vi 1), (vi 4), (vi 0), (vi 1), (vi 0), (vi 0), (.bool false)] [(vi 1), (vi 4), (vi 0), (vi 1), (vi 0), (vi 0), (.bool false)] rfl rfl (ae rfl (ae rfl (ae rfl (ae rfl (ae rfl (ae rfl (ae rfl rfl))))))) (Nat.le_of_ble_eq_true rfl) rfl (fun h S => ?_)
     refine S.cL [(vi 1), (vi 4), (vi 0), (vi 1), (vi 0), (vi 0), (.bool false)] 0 rfl rfl rfl (by decide) ?_
     cases M
     exact H _ _  S.bB
   · have M := aW hc M
     refine di.2 ?_
     refine bz (fun hc => ?_) (fun hc => ?_)
     · have M := aV hc M
       exact Z7 M S  H
     · have M := aW hc M
       refine di.2 ?_
       exact Z7 M S  H
def Z8   : Option (Int × Bool) :=
 some (0, false)
def Q9 (v1 : aq) (v8 : Bool)  : Option (Int × Bool) :=
 bif v8 then (
 some (v1.fB, true)) else (
 Z8 )
def Z9 (v1 : aq)  : Option (Int × Bool) :=
 bif (decide (v1.aR = 25)) then (
 Q9 v1 true) else (
 Q9 v1 (decide (v1.aR = 32)))
def Ih (x0 : aq) : Option (Int × Bool) :=
 bif (decide (x0.aR = 24)) then (
 some (x0.fA, true)) else (
 Z9 x0)
def akI (N : Nat) (mo : Int) (aaa : ah) (rY : Int → Option Bool) : Option Bool :=
 rY (bH .i64 (mo + 1))
def Ii (N : Nat) (mo : Int) (zS : Bool) (aaa : ah) (rY : Int → Option Bool) : Option Bool :=
 bif zS then (
 some false) else (
 akI N mo aaa rY)
def Ra (N : Nat) (v1 : ah) (mo : Int) (v4 : Int) (rY : Int → Option Bool) : Option Bool :=
(ix v1.ab mo).bind fun oG =>
(zo oG.aR).bind fun Hy =>
(ix v1.ab mo).bind fun gi =>
(Ih gi).bind fun Ij =>
 bif (!Hy.2) then (
 Ii N mo true v1 rY) else (
 bif Ij.2 then (
(rX Ij.1 0 (bH .i64 (v4 - 1))).bind fun rV =>
 Ii N mo (!rV) v1 rY) else (
 Ii N mo false v1 rY))
def akJ (N : Nat) (y6 : Int) (ij : ah) (dI : Int → Option Bool) : Option Bool :=
 dI (bH .i64 (y6 + 1))
def Rb (N : Nat) (y6 : Int) (j5 : Bool) (ij : ah) (dI : Int → Option Bool) : Option Bool :=
 bif j5 then (
 some false) else (
 akJ N y6 ij dI)
def Re (N : Nat) (v12 : aB) (v4 : Int) (y6 : Int) (fU : Bool) (ij : ah) (dI : Int → Option Bool) : Option Bool :=
 bif fU then (
 Rb N y6 true ij dI) else (
(rX v12.ew 0 (bH .i64 (v4 - 1))).bind fun Il =>
 Rb N y6 (!Il) ij dI)
def C4 (N : Nat) (v12 : aB) (v4 : Int) (y6 : Int) (fJ : Bool) (ij : ah) (dI : Int → Option Bool) : Option Bool :=
 bif fJ then (
 Re N v12 v4 y6 true ij dI) else (
 Re N v12 v4 y6 (decide (v4 < v12.er)) ij dI)
def akK (N : Nat) (v1 : ah) (y6 : Int) (v4 : Int) (dI : Int → Option Bool) : Option Bool :=
(ix v1.aD y6).bind fun o4 =>
 bif (decide (o4.dS < 0)) then (
 C4 N o4 v4 y6 true v1 dI) else (
 C4 N o4 v4 y6 (decide (o4.er ≤ o4.dS)) v1 dI)
def akL (N : Nat)   : Option Bool :=
 some true
def akM (N : Nat) (v1 : ah) (v4 : Int) (y6 : Int) (dI : Int → Option Bool) : Option Bool :=
 bif (decide (y6 < (v1.aD.length : Int))) then (
 akK N v1 y6 v4 dI) else (
 akL N )
def Rf (N : Nat) (v1 : ah) (v4 : Int)  : Nat → Int → Option Bool
 | 0, _ => none
 | n + 1, y6 => akM N v1 v4 y6  (fun ag => Rf N v1 v4 n ag)
def Im (N : Nat) (v1 : ah) (v4 : Int)  : Option Bool :=
 Rf N v1 v4 N 0
def akN (N : Nat) (v4 : Int) (v1 : ah) (mo : Int) (rY : Int → Option Bool) : Option Bool :=
 bif (decide (mo < v4)) then (
 Ra N v1 mo v4 rY) else (
 Im N v1 v4)
def Rg (N : Nat) (v4 : Int) (v1 : ah)  : Nat → Int → Option Bool
 | 0, _ => none
 | n + 1, mo => akN N v4 v1 mo  (fun ag => Rg N v4 v1 n ag)
def Rh (N : Nat) (v4 : Int) (v1 : ah)  : Option Bool :=
 Rg N v4 v1 N 0
def Ri (N : Nat) (v4 : Int) (v1 : ah) (zT : Bool)  : Option Bool :=
 bif zT then (
 some false) else (
 Rh N v4 v1)
def Rj (N : Nat) (v1 : ah) (v4 : Int) (mZ : Bool)  : Option Bool :=
 bif mZ then (
 Ri N v4 v1 true) else (
(rX v1.ax 0 200).bind fun nO =>
 Ri N v4 v1 (!nO))
def Rk (N : Nat) (v1 : ah) (v4 : Int) (v76 : Bool)  : Option Bool :=
 bif v76 then (
 Rj N v1 v4 true) else (
(rX v1.aw 0 200).bind fun lC =>
 Rj N v1 v4 (!lC))
def Io (N : Nat) (x0 : ah) : Option Bool :=
(rX (x0.ab.length : Int) 1 600).bind fun aP =>
 bif (!aP) then (
 Rk N x0 (x0.ab.length : Int) true) else (
 Rk N x0 (x0.ab.length : Int) (decide (40 < (x0.aD.length : Int))))
end
end Go.Ve.T
namespace Go.Ve.T
open Go.Ve Go.Proofs
noncomputable section
set_option maxRecDepth 10000
def C5 (x0 : aB) (x1 : Int) : Option Bool :=
 bif (decide (x0.dS ≤ x1)) then (
 some (decide (x1 < x0.er))) else (
 some false)
abbrev akO (c : Cx) (R : Value → W) (r : Bool) : Prop := ∀ (g' h' : AH), Sep c g' h' [] → R (.bool r) h'
theorem akP {w0 : World} {g h : AH} {Q : CR → AH → Prop} {r : Bool} {x0 : aB} {x1 : Int} {mn : Nat} (M : C5 x0 x1 = some r) (sg : Sub g h) (ok : h.Ok) (mW : g.aZ mn 0 [(vi x1)]) (H : akO ⟨g, h, []⟩ (fun v => Q (.ret v)) r) : WF PP w0 D6 [(.agg ⟨[(vi x0.dS), (vi x0.er), (vi x0.ew)]⟩), (aC mn 0)] h Q := by
 refine abx _ _ ?_
 have S := Sep.start sg ok
 unfold SS
 unfold C5 at M
 refine S.box [(vi x0.dS), (vi x0.er), (vi x0.ew)] rfl (ae rfl (ae rfl (ae rfl rfl))) (fun jE h S => ?_)
 refine cb.2 ?_
 refine S.bQ 0 rfl rfl ?_
 refine S.ct (mW 0 _ rfl) ?_
 refine rv.2 ?_
 cases hc : (decide (x0.dS ≤ x1))
 · have M := aW hc M
   refine aG (by decide) ?_
   refine aG (by decide) ?_
   refine aG (by decide) ?_
   refine aG (by decide) ?_
   refine bK.2 ?_
   cases M
   exact H _ _  S.bB
 · have M := aV hc M
   refine aH rfl ?_
   refine S.ct (mW 0 _ rfl) ?_
   refine aH rfl ?_
   refine cb.2 ?_
   refine aH rfl ?_
   refine S.bQ 0 rfl rfl ?_
   refine aH rfl ?_
   refine ff.2 ?_
   refine bK.2 ?_
   cases M
   exact H _ _  S.bB
def zq (N : Nat) (x0 : ah) (x1 : Int) : Option Int :=
(zh N x0.aD (fun a0 => C5 a0 x1)).bind fun gV =>
 some gV
abbrev akQ (c : Cx) (R : Value → W) (r : Int) : Prop := ∀ (g' h' : AH), Sep c g' h' [] → R (vi r) h'
theorem aab {w0 : World} {g h : AH} {Q : CR → AH → Prop} {r : Int} {N : Nat} {x0 : ah} {x1 : Int} {cj cm : Value} (M : zq N x0 x1 = some r) (sg : Sub g h) (ok : h.Ok) (bL : aa aq.rep 4 g cj x0.ab) (cq : aa aB.rep 3 g cm x0.aD) (H : akQ ⟨g, h, []⟩ (fun v => Q (.ret v)) r) : WF PP w0 D9 [(.agg ⟨[(.string x0.az), (.string x0.aA), (vi x0.fArgs), (vi x0.aw), (vi x0.ax), cj, cm]⟩), (vi x1)] h Q := by
 refine abB _ _ ?_
 have S := Sep.start sg ok
 unfold SV
 unfold zq at M
 refine S.box [(.string x0.az), (.string x0.aA), (vi x0.fArgs), (vi x0.aw), (vi x0.ax), cj, cm] rfl (ae rfl (ae rfl (ae rfl (ae rfl (ae rfl (ae bL.one (ae cq.one rfl))))))) (fun jE h S => ?_)
 refine S.box [(vi x1)] rfl (ae rfl rfl) (fun CK h S => ?_)
 refine cb.2 ?_
 refine S.bQ 1 rfl rfl ?_
 refine (GA (by simp)).2 ?_
 obtain ⟨g, sg, S, r_3⟩ := S.qh
 have bL := aa.mono bL aq.mono sg
 have cq := aa.mono cq aB.mono sg
 have Rl : oT w0 g (.func (.func D6) ⟨[]⟩ ⟨[(aC CK 0)]⟩) (fun a0 => C5 a0 x1) := ⟨rfl, fun a0 r E K g2 h2 s1 s2 s3  m1 k1 => akP m1 s2 s3 (Sub.aZ s1 r_3) k1⟩
 obtain ⟨gV, oV, M⟩ := bind_some M
 refine ZY oV S.sub S.ok cq Rl (fun _ h  S1  => ?_)
 have S := S.cW S1
 cases M
 exact H _ _  S.bB
def C6 (N : Nat) (aT : Int) (cg : List Int) (iT : aq) (dq : (List Int) → Int → Option ((List Int))) : Option ((List Int)) :=
 dq cg (bH .i64 (aT + 1))
def C7 (N : Nat) (v1 : aq) (cr : Int) (aX : List Int) (aT : Int) (v28 : Bool) (dq : (List Int) → Int → Option ((List Int))) : Option ((List Int)) :=
 bif v28 then (
(wR v1).bind fun rZ =>
(ix [rZ.e0, rZ.e1, rZ.e2] (bH .i64 (cr - 1))).bind fun jZ =>
 gu (decide (aX.length + [jZ].length ≤ 1048576)) (
 C6 N aT (aX ++ [jZ]) v1 dq)) else (
 C6 N aT aX v1 dq)
def C8 (N : Nat) (v1 : aq) (cr : Int) (aX : List Int) (aT : Int) (v21 : Bool) (dq : (List Int) → Int → Option ((List Int))) : Option ((List Int)) :=
 bif v21 then (
(wR v1).bind fun dT =>
(ix [dT.e0, dT.e1, dT.e2] (bH .i64 (cr - 1))).bind fun eV =>
 C7 N v1 cr aX aT (!decide (eV = (-1))) dq) else (
 C7 N v1 cr aX aT false dq)
def wY (N : Nat) (v11 : ec) (aT : Int) (v6 : Bool) (v1 : aq) (aX : List Int) (dq : (List Int) → Int → Option ((List Int))) : Option ((List Int)) :=
(ix [v11.e0, v11.e1] aT).bind fun gV =>
 bif v6 then (
 C8 N v1 gV aX aT (decide (0 < gV)) dq) else (
 C8 N v1 gV aX aT false dq)
def Rm (N : Nat) (y9 : List Int)  : Option ((List Int)) :=
 some y9
def Rn (N : Nat) (v11 : ec) (v6 : Bool) (v1 : aq) (aX : List Int) (aT : Int) (dq : (List Int) → Int → Option ((List Int))) : Option ((List Int)) :=
 bif (decide (aT < 2)) then (
 wY N v11 aT v6 v1 aX dq) else (
 Rm N aX)
def C9 (N : Nat) (v11 : ec) (v6 : Bool) (v1 : aq)  : Nat → (List Int) → Int → Option ((List Int))
 | 0, _, _ => none
 | n + 1, aX, aT => Rn N v11 v6 v1 aX aT  (fun ag cR => C9 N v11 v6 v1 n ag cR)
def tO (N : Nat) (x0 : aq) : Option ((List Int)) :=
(zc x0.aR).bind fun aP =>
 C9 N aP.1.cX aP.2 x0 N ([] : List Int) 0
abbrev um (c : Cx) (R : Value → W) (r : (List Int)) : Prop := ∀ (g' h' : AH) (w1 : Value), Sep c g' h' [] → aa (rI .i64) 1 g' w1 r → R w1 h'
theorem aac {w0 : World} {c : Cx} {g h : AH} {E R : Value → W} {r : (List Int)} {N : Nat} {aT : Int} {cg : List Int} {iT : aq} {CL : Value} {CM : List (List Value)} {CN : Nat} {du : Value → Value → W} {dq : (List Int) → Int → Option ((List Int))} {iq : AH} (M : C6 N aT cg iT dq = some r) (S : Sep c g h [.sl 3 1 CL CM, .bx CN [(vi iT.aR), (vi iT.fA), (vi iT.fB), (vi iT.fC)]]) (QQ : aJ ((rI .i64) g) CM cg) (jH : Sub iq g) (jI : ∀ {ag : List Int} {eW : Value} {eX : List (List Value)} {cR : Int} {g2 h2 : AH}, dq ag cR = some r → Sub iq g2 → Sep c g2 h2 [.bx CN [(vi iT.aR), (vi iT.fA), (vi iT.fB), (vi iT.fC)], .sl 3 1 eW eX] → aJ ((rI .i64) g2) eX ag → du eW (vi cR) h2) (H : um c R r) : Ek w0 E R (vi aT) du CL h := by
 unfold Ek
 unfold C6 at M
 refine ie.2 ?_
 have S := S.f1
 exact jI M jH S QQ
theorem aad {w0 : World} {c : Cx} {g h : AH} {E R : Value → W} {r : (List Int)} {N : Nat} {v1 : aq} {cr : Int} {aX : List Int} {aT : Int} {v28 : Bool} {ak : Nat} {gg : Value} {fG : List (List Value)} {du : Value → Value → W} {dq : (List Int) → Int → Option ((List Int))} {iq : AH} (M : C7 N v1 cr aX aT v28 dq = some r) (S : Sep c g h [.bx ak [(vi v1.aR), (vi v1.fA), (vi v1.fB), (vi v1.fC)], .sl 3 1 gg fG]) (gh : aJ ((rI .i64) g) fG aX) (jH : Sub iq g) (jI : ∀ {ag : List Int} {eW : Value} {eX : List (List Value)} {cR : Int} {g2 h2 : AH}, dq ag cR = some r → Sub iq g2 → Sep c g2 h2 [.bx ak [(vi v1.aR), (vi v1.fA), (vi v1.fB), (vi v1.fC)], .sl 3 1 eW eX] → aJ ((rI .i64) g2) eX ag → du eW (vi cR) h2) (H : um c R r) : JB w0 E R (aC ak 0) (vi cr) gg (vi aT) du (.bool v28) h := by
 unfold JB
 unfold C7 at M
 refine bz (fun hc => ?_) (fun hc => ?_)
 · have M := aV hc M
   refine S.cL [(vi v1.aR), (vi v1.fA), (vi v1.fB), (vi v1.fC)] 0 rfl rfl rfl (by decide) ?_
   obtain ⟨rZ, Ro, M⟩ := bind_some M
   refine H8 Ro S.sub S.ok (fun _ h  S1  => ?_)
   have S := S.cW S1
   refine mP.2 ?_
   obtain ⟨jZ, Da, M⟩ := bind_some M
   refine za [rZ.e0, rZ.e1, rZ.e2] (fun q => (vi q)) rfl Da ?_
   refine S.wL [[(vi jZ)]] (cG (m := [(vi jZ)]) (l2 := [(vi jZ)]) rfl rfl (Nat.le_of_ble_eq_true rfl) rfl rfl) rfl (by decide) (wO rfl wN) (ae rfl rfl) (fun aae h S => ?_)
   have r7 : aJ ((rI .i64) g) [[(vi jZ)]] [jZ] := (aJ.push aJ.nil (show (rI .i64) g [(vi jZ)] jZ from rfl))
   have S := S.f2
   obtain ⟨Rp, M⟩ := oO M
   refine S.app (S.rd 1 rfl) (by rw [gh.1, r7.1]; exact Rp) (by decide) rfl (nR (qi .i64) r7) (nR (qi .i64) gh) (fun Rq h S => ?_)
   have Rr : aJ ((rI .i64) g) (fG ++ [[(vi jZ)]]) (aX ++ [jZ]) := aJ.append gh r7
   have S := S.f2
   have S := S.f1
   have S := S.t2
   exact aac M S Rr jH jI H
 · have M := aW hc M
   have S := S.f1
   exact aac M S gh jH jI H
theorem aaf {w0 : World} {c : Cx} {g h : AH} {E R : Value → W} {r : (List Int)} {N : Nat} {v1 : aq} {cr : Int} {aX : List Int} {aT : Int} {v21 : Bool} {ak : Nat} {gg : Value} {fG : List (List Value)} {du : Value → Value → W} {dq : (List Int) → Int → Option ((List Int))} {iq : AH} (M : C8 N v1 cr aX aT v21 dq = some r) (S : Sep c g h [.bx ak [(vi v1.aR), (vi v1.fA), (vi v1.fB), (vi v1.fC)], .sl 3 1 gg fG]) (gh : aJ ((rI .i64) g) fG aX) (jH : Sub iq g) (jI : ∀ {ag : List Int} {eW : Value} {eX : List (List Value)} {cR : Int} {g2 h2 : AH}, dq ag cR = some r → Sub iq g2 → Sep c g2 h2 [.bx ak [(vi v1.aR), (vi v1.fA), (vi v1.fB), (vi v1.fC)], .sl 3 1 eW eX] → aJ ((rI .i64) g2) eX ag → du eW (vi cR) h2) (H : um c R r) : JC w0 E R (aC ak 0) (vi cr) gg (vi aT) du (.bool v21) h := by
 unfold JC
 unfold C8 at M
 cases hc : v21
 · have M := aW hc M
   refine aG (by decide) ?_
   refine aG (by decide) ?_
   refine aG (by decide) ?_
   refine aG (by decide) ?_
   refine aG (by decide) ?_
   refine aG (by decide) ?_
   refine bK.2 ?_
   exact aad M S gh jH jI H
 · have M := aV hc M
   refine aH rfl ?_
   refine S.cL [(vi v1.aR), (vi v1.fA), (vi v1.fB), (vi v1.fC)] 0 rfl rfl rfl (by decide) ?_
   refine aH rfl ?_
   obtain ⟨dT, mV, M⟩ := bind_some M
   refine H8 mV S.sub S.ok (fun _ h  S1  => ?_)
   have S := S.cW S1
   refine aH rfl ?_
   refine aH rfl ?_
   refine mP.2 ?_
   refine aH rfl ?_
   obtain ⟨eV, wT, M⟩ := bind_some M
   refine za [dT.e0, dT.e1, dT.e2] (fun q => (vi q)) rfl wT ?_
   refine aH rfl ?_
   refine ru.2 ?_
   refine bK.2 ?_
   exact aad M S gh jH jI H
theorem akR {w0 : World} {c : Cx} {g h : AH} {E R : Value → W} {r : (List Int)} {N : Nat} {v11 : ec} {aT : Int} {v6 : Bool} {v1 : aq} {aX : List Int} {ak : Nat} {gg : Value} {fG : List (List Value)} {du : Value → Value → W} {dq : (List Int) → Int → Option ((List Int))} {iq : AH} (M : wY N v11 aT v6 v1 aX dq = some r) (S : Sep c g h [.bx ak [(vi v1.aR), (vi v1.fA), (vi v1.fB), (vi v1.fC)], .sl 3 1 gg fG]) (gh : aJ ((rI .i64) g) fG aX) (jH : Sub iq g) (jI : ∀ {ag : List Int} {eW : Value} {eX : List (List Value)} {cR : Int} {g2 h2 : AH}, dq ag cR = some r → Sub iq g2 → Sep c g2 h2 [.bx ak [(vi v1.aR), (vi v1.fA), (vi v1.fB), (vi v1.fC)], .sl 3 1 eW eX] → aJ ((rI .i64) g2) eX ag → du eW (vi cR) h2) (H : um c R r) : JD w0 E R (.agg ⟨[(vi v11.e0), (vi v11.e1)]⟩) (vi aT) (.bool v6) (aC ak 0) gg du h := by
 unfold JD
 unfold wY at M
 obtain ⟨gV, oV, M⟩ := bind_some M
 refine za [v11.e0, v11.e1] (fun q => (vi q)) rfl oV ?_
 cases hc : v6
 · have M := aW hc M
   refine aG (by decide) ?_
   refine aG (by decide) ?_
   refine bK.2 ?_
   exact aaf M S gh jH jI H
 · have M := aV hc M
   refine aH rfl ?_
   refine aH rfl ?_
   refine ox.2 ?_
   refine bK.2 ?_
   exact aaf M S gh jH jI H
theorem akS {w0 : World} {c : Cx} {g h : AH} {E R : Value → W} {r : (List Int)} {N : Nat} {y9 : List Int} {wU : Value} {CP : List (List Value)}  (M : Rm N y9 = some r) (S : Sep c g h [.sl 3 1 wU CP]) (QS : aJ ((rI .i64) g) CP y9)  (H : um c R r) : JA w0 E R wU h := by
 unfold JA
 unfold Rm at M
 obtain ⟨g, sg, S, akT⟩ := S.fz QS (ej .i64)
 cases M
 exact H _ _ wU S.bB akT
theorem akU {w0 : World} {c : Cx} {g h : AH} {E R : Value → W} {r : (List Int)} {N : Nat} {v11 : ec} {v6 : Bool} {v1 : aq} {aX : List Int} {aT : Int} {ak : Nat} {gg : Value} {fG : List (List Value)} {du : Value → Value → W} {dq : (List Int) → Int → Option ((List Int))} {iq : AH} (M : Rn N v11 v6 v1 aX aT dq = some r) (S : Sep c g h [.bx ak [(vi v1.aR), (vi v1.fA), (vi v1.fB), (vi v1.fC)], .sl 3 1 gg fG]) (gh : aJ ((rI .i64) g) fG aX) (jH : Sub iq g) (jI : ∀ {ag : List Int} {eW : Value} {eX : List (List Value)} {cR : Int} {g2 h2 : AH}, dq ag cR = some r → Sub iq g2 → Sep c g2 h2 [.bx ak [(vi v1.aR), (vi v1.fA), (vi v1.fB), (vi v1.fC)], .sl 3 1 eW eX] → aJ ((rI .i64) g2) eX ag → du eW (vi cR) h2) (H : um c R r) : El w0 E R (.agg ⟨[(vi v11.e0), (vi v11.e1)]⟩) (.bool v6) (aC ak 0) du gg (vi aT) h := by
 unfold El
 unfold Rn at M
 refine ff.2 ?_
 refine bz (fun hc => ?_) (fun hc => ?_)
 · have M := aV hc M
   exact akR M S gh jH jI H
 · have M := aW hc M
   have S := S.f1
   have S := S.t1
   exact akS M S gh H
theorem akV {w0 : World} {c : Cx} {E R : Value → W} {r : (List Int)} {N : Nat} {v11 : ec} {v6 : Bool} {v1 : aq} {ak : Nat}   (H : um c R r) : ∀ (n : Nat) {aX : List Int} {aT : Int} {gg : Value} {fG : List (List Value)} {g h : AH}, C9 N v11 v6 v1 n aX aT = some r → Sep c g h [.bx ak [(vi v1.aR), (vi v1.fA), (vi v1.fB), (vi v1.fC)], .sl 3 1 gg fG] → aJ ((rI .i64) g) fG aX → eE (α := Value × Value) (fun k a => El w0 E R (.agg ⟨[(vi v11.e0), (vi v11.e1)]⟩) (.bool v6) (aC ak 0) (fun b0 b1 => k (b0, b1)) a.1 a.2) n (gg, (vi aT)) h := by
 intro n
 induction n with
 | zero =>
  intro aX aT gg fG g h M S gh
  unfold C9 at M; cases M
 | succ n ih =>
  intro aX aT gg fG g h M S gh
  exact akU M S gh  (Sub.refl g) (fun M2 sub S2 CQ => ih M2 S2 CQ ) H
theorem Hz {w0 : World} {g h : AH} {Q : CR → AH → Prop} {r : (List Int)} {N : Nat} {x0 : aq} (M : tO N x0 = some r) (sg : Sub g h) (ok : h.Ok)  (H : um ⟨g, h, []⟩ (fun v => Q (.ret v)) r) : WF PP w0 xo [(.agg ⟨[(vi x0.aR), (vi x0.fA), (vi x0.fB), (vi x0.fC)]⟩)] h Q := by
 refine abQ _ ?_
 have S := Sep.start sg ok
 unfold Th
 unfold tO at M
 refine S.box [(vi x0.aR), (vi x0.fA), (vi x0.fB), (vi x0.fC)] rfl (ae rfl (ae rfl (ae rfl (ae rfl rfl)))) (fun jE h S => ?_)
 refine cb.2 ?_
 refine S.bQ 0 rfl rfl ?_
 obtain ⟨aP, gE, M⟩ := bind_some M
 refine CS x0.aR S.sub S.ok gE (fun _ h  S1  => ?_)
 have S := S.cW S1
 refine (jC rfl).2 ?_
 refine (jC rfl).2 ?_
 refine S.alloc (l := [(.string (⟨⟨[]⟩⟩ : ByteArray)), (vi 0), (vi 0), (vi 0), (vi 0), (vi 0), (vi 0), (.bool false), (.bool false)]) (ae rfl (ae rfl (ae rfl (ae rfl (ae rfl (ae rfl (ae rfl (ae rfl (ae rfl rfl))))))))) (fun Cc h S => ?_)
 refine S.dk [(.string aP.1.oW), (vi aP.1.dK.e0), (vi aP.1.dK.e1), (vi aP.1.dK.e2), (vi aP.1.jJ), (vi aP.1.cX.e0), (vi aP.1.cX.e1), (.bool aP.1.jK), (.bool aP.1.jY)] [(.string aP.1.oW), (vi aP.1.dK.e0), (vi aP.1.dK.e1), (vi aP.1.dK.e2), (vi aP.1.jJ), (vi aP.1.cX.e0), (vi aP.1.cX.e1), (.bool aP.1.jK), (.bool aP.1.jY)] rfl rfl (ae rfl (ae rfl (ae rfl (ae rfl (ae rfl (ae rfl (ae rfl (ae rfl (ae rfl rfl))))))))) (Nat.le_of_ble_eq_true rfl) rfl (fun h S => ?_)
 refine cb.2 ?_
 refine S.cL [(vi aP.1.cX.e0), (vi aP.1.cX.e1)] 0 rfl rfl rfl (by decide) ?_
 have S := S.CD 3 1
 have S := S.f2
 have S := S.t2
 exact ⟨N, akV  H _ M S (aJ.nil (R := (rI .i64) g)) ⟩
def Db (v1 : aq) (v7 : r8)  : Option Int :=
(wR v1).bind fun gV =>
(ix [gV.e0, gV.e1, gV.e2] (bH .i64 (v7.jJ - 1))).bind fun dT =>
 some dT
def vY (x0 : aq) : Option Int :=
(zc x0.aR).bind fun aP =>
 bif (decide (aP.1.jJ = 0)) then (
 some (-1)) else (
 Db x0 aP.1)
abbrev aag (c : Cx) (R : Value → W) (r : Int) : Prop := ∀ (g' h' : AH), Sep c g' h' [] → R (vi r) h'
theorem akW {w0 : World} {c : Cx} {g h : AH} {E R : Value → W} {r : Int} {v1 : aq} {v7 : r8} {ak aah : Nat}  (M : Db v1 v7 = some r) (S : Sep c g h [.bx ak [(vi v1.aR), (vi v1.fA), (vi v1.fB), (vi v1.fC)], .bx aah [(.string v7.oW), (vi v7.dK.e0), (vi v7.dK.e1), (vi v7.dK.e2), (vi v7.jJ), (vi v7.cX.e0), (vi v7.cX.e1), (.bool v7.jK), (.bool v7.jY)]])   (H : aag c R r) : JE w0 E R (aC ak 0) (aC aah 0) h := by
 unfold JE
 unfold Db at M
 refine S.cL [(vi v1.aR), (vi v1.fA), (vi v1.fB), (vi v1.fC)] 0 rfl rfl rfl (by decide) ?_
 refine cb.2 ?_
 refine S.bQ 1 rfl rfl ?_
 refine mP.2 ?_
 obtain ⟨gV, oV, M⟩ := bind_some M
 refine H8 oV S.sub S.ok (fun _ h  S1  => ?_)
 have S := S.cW S1
 refine ⟨?_, ?_⟩
 · refine mP.2 ?_
   exact PJ
 · refine ⟨?_, ?_⟩
   · refine S.bQ 1 rfl rfl ?_
     exact PJ
   · refine ⟨?_, ?_⟩
     · refine cb.2 ?_
       exact Yv
     · obtain ⟨dT, mV, M⟩ := bind_some M
       refine za [gV.e0, gV.e1, gV.e2] (fun q => (vi q)) rfl mV ?_
       cases M
       exact H _ _  S.bB
theorem YB {w0 : World} {g h : AH} {Q : CR → AH → Prop} {r : Int} {x0 : aq} (M : vY x0 = some r) (sg : Sub g h) (ok : h.Ok)  (H : aag ⟨g, h, []⟩ (fun v => Q (.ret v)) r) : WF PP w0 En [(.agg ⟨[(vi x0.aR), (vi x0.fA), (vi x0.fB), (vi x0.fC)]⟩)] h Q := by
 refine abV _ ?_
 have S := Sep.start sg ok
 unfold Tk
 unfold vY at M
 refine S.box [(vi x0.aR), (vi x0.fA), (vi x0.fB), (vi x0.fC)] rfl (ae rfl (ae rfl (ae rfl (ae rfl rfl)))) (fun jE h S => ?_)
 refine cb.2 ?_
 refine S.bQ 0 rfl rfl ?_
 obtain ⟨aP, gE, M⟩ := bind_some M
 refine CS x0.aR S.sub S.ok gE (fun _ h  S1  => ?_)
 have S := S.cW S1
 refine (jC rfl).2 ?_
 refine (jC rfl).2 ?_
 refine S.alloc (l := [(.string (⟨⟨[]⟩⟩ : ByteArray)), (vi 0), (vi 0), (vi 0), (vi 0), (vi 0), (vi 0), (.bool false), (.bool false)]) (ae rfl (ae rfl (ae rfl (ae rfl (ae rfl (ae rfl (ae rfl (ae rfl (ae rfl rfl))))))))) (fun Cc h S => ?_)
 refine S.dk [(.string aP.1.oW), (vi aP.1.dK.e0), (vi aP.1.dK.e1), (vi aP.1.dK.e2), (vi aP.1.jJ), (vi aP.1.cX.e0), (vi aP.1.cX.e1), (.bool aP.1.jK), (.bool aP.1.jY)] [(.string aP.1.oW), (vi aP.1.dK.e0), (vi aP.1.dK.e1), (vi aP.1.dK.e2), (vi aP.1.jJ), (vi aP.1.cX.e0), (vi aP.1.cX.e1), (.bool aP.1.jK), (.bool aP.1.jY)] rfl rfl (ae rfl (ae rfl (ae rfl (ae rfl (ae rfl (ae rfl (ae rfl (ae rfl (ae rfl rfl))))))))) (Nat.le_of_ble_eq_true rfl) rfl (fun h S => ?_)
 refine cb.2 ?_
 refine S.bQ 0 rfl rfl ?_
 refine di.2 ?_
 refine bz (fun hc => ?_) (fun hc => ?_)
 · have M := aV hc M
   cases M
   exact H _ _  S.bB
 · have M := aW hc M
   have S := S.f1
   exact akW M S  H
def Rs (v1 : aq) (v12 : Bool)  : Option Bool :=
 bif v12 then (
 some true) else (
 some (decide (v1.aR = 28)))
def Ru (v1 : aq) (v8 : Bool)  : Option Bool :=
 bif v8 then (
 Rs v1 true) else (
 Rs v1 (decide (v1.aR = 27)))
def Rv (x0 : aq) : Option Bool :=
 bif (decide (x0.aR = 24)) then (
 Ru x0 true) else (
 Ru x0 (decide (x0.aR = 26)))
def yO (x0 : aq) : Option Bool :=
(zo x0.aR).bind fun aP =>
 some aP.1.ql
abbrev akX (c : Cx) (R : Value → W) (r : Bool) : Prop := ∀ (g' h' : AH), Sep c g' h' [] → R (.bool r) h'
theorem ahQ {w0 : World} {g h : AH} {Q : CR → AH → Prop} {r : Bool} {x0 : aq} (M : yO x0 = some r) (sg : Sub g h) (ok : h.Ok)  (H : akX ⟨g, h, []⟩ (fun v => Q (.ret v)) r) : WF PP w0 Ky [(.agg ⟨[(vi x0.aR), (vi x0.fA), (vi x0.fB), (vi x0.fC)]⟩)] h Q := by
 refine ab4 _ ?_
 have S := Sep.start sg ok
 unfold TD
 unfold yO at M
 refine S.box [(vi x0.aR), (vi x0.fA), (vi x0.fB), (vi x0.fC)] rfl (ae rfl (ae rfl (ae rfl (ae rfl rfl)))) (fun jE h S => ?_)
 refine cb.2 ?_
 refine S.bQ 0 rfl rfl ?_
 obtain ⟨aP, gE, M⟩ := bind_some M
 refine akH gE S.sub S.ok (fun _ h  S1  => ?_)
 have S := S.cW S1
 refine (jC rfl).2 ?_
 refine (jC rfl).2 ?_
 refine S.alloc (l := [(vi 0), (vi 0), (vi 0), (vi 0), (vi 0), (vi 0), (.bool false)]) (ae rfl (ae rfl (ae rfl (ae rfl (ae rfl (ae rfl (ae rfl rfl))))))) (fun Cc h S => ?_)
 refine S.dk [(vi aP.1.gW.e0), (vi aP.1.gW.e1), (vi aP.1.gW.e2), (vi aP.1.uk), (vi aP.1.kR.e0), (vi aP.1.kR.e1), (.bool aP.1.ql)] [(vi aP.1.gW.e0), (vi aP.1.gW.e1), (vi aP.1.gW.e2), (vi aP.1.uk), (vi aP.1.kR.e0), (vi aP.1.kR.e1), (.bool aP.1.ql)] rfl rfl (ae rfl (ae rfl (ae rfl (ae rfl (ae rfl (ae rfl (ae rfl rfl))))))) (Nat.le_of_ble_eq_true rfl) rfl (fun h S => ?_)
 refine cb.2 ?_
 refine S.bQ 0 rfl rfl ?_
 cases M
 exact H _ _  S.bB
def aai (N : Nat) (y4 : Int) (aoP : List Int) (jj : Int → Option ((List Int))) : Option ((List Int)) :=
 jj (bH .i64 (y4 + 1))
def Dc (N : Nat) (x0 : List Int) (y4 : Int) (x1 : Int) (jj : Int → Option ((List Int))) : Option ((List Int)) :=
(ix x0 y4).bind fun ei =>
 bif (decide (ei = x1)) then (
 some x0) else (
 aai N y4 x0 jj)
def aaj (N : Nat) (x1 : Int) (x0 : List Int)  : Option ((List Int)) :=
 gu (decide (x0.length + [x1].length ≤ 1048576)) (
 some (x0 ++ [x1]))
def akY (N : Nat) (x0 : List Int) (x1 : Int) (y4 : Int) (jj : Int → Option ((List Int))) : Option ((List Int)) :=
 bif (decide (y4 < (x0.length : Int))) then (
 Dc N x0 y4 x1 jj) else (
 aaj N x1 x0)
def Rw (N : Nat) (x0 : List Int) (x1 : Int)  : Nat → Int → Option ((List Int))
 | 0, _ => none
 | n + 1, y4 => akY N x0 x1 y4  (fun ag => Rw N x0 x1 n ag)
def zr (N : Nat) (x0 : List Int) (x1 : Int) : Option ((List Int)) :=
 Rw N x0 x1 N 0
def Rx (N : Nat) (aX : List Int)  : Option ((List Int)) :=
 some aX
def Ip (N : Nat) (v6 : aq) (y8 : List Int)  : Option ((List Int)) :=
(Ih v6).bind fun aak =>
 bif aak.2 then (
(zr N y8 aak.1).bind fun jF =>
 Rx N jF) else (
 Rx N y8)
def Ry (N : Nat) (x1 : Int) (v6 : aq) (v24 : Bool)  : Option ((List Int)) :=
 bif v24 then (
 gu (decide (([] : List Int).length + [(bH .i64 (x1 + 1))].length ≤ 1048576)) (
 Ip N v6 (([] : List Int) ++ [(bH .i64 (x1 + 1))]))) else (
 Ip N v6 ([] : List Int))
def Rz (N : Nat) (x0 : ah) (x1 : Int) : Option ((List Int)) :=
(ix x0.ab x1).bind fun aP =>
(Rv aP).bind fun eV =>
 bif (!eV) then (
 Ry N x1 aP (decide ((bH .i64 (x1 + 1)) < (x0.ab.length : Int)))) else (
 Ry N x1 aP false)
def akZ (N : Nat) (y3 : Int) (kz : ah) (bE : Int → Option Int) : Option Int :=
 bE (bH .i64 (y3 + 1))
def aal (N : Nat) (y3 : Int) (eK : Bool) (kz : ah) (bE : Int → Option Int) : Option Int :=
 bif eK then (
 some y3) else (
 akZ N y3 kz bE)
def ak0 (N : Nat) (v1 : ah) (y3 : Int) (x1 : Int) (bE : Int → Option Int) : Option Int :=
(ix v1.aD y3).bind fun aP =>
 bif (decide (aP.dS ≤ x1)) then (
(ix v1.aD y3).bind fun oG =>
 aal N y3 (decide (x1 < oG.er)) v1 bE) else (
 aal N y3 false v1 bE)
def ak1 (N : Nat)   : Option Int :=
 some (-1)
def ak2 (N : Nat) (v1 : ah) (x1 : Int) (y3 : Int) (bE : Int → Option Int) : Option Int :=
 bif (decide (y3 < (v1.aD.length : Int))) then (
 ak0 N v1 y3 x1 bE) else (
 ak1 N )
def Dd (N : Nat) (v1 : ah) (x1 : Int)  : Nat → Int → Option Int
 | 0, _ => none
 | n + 1, y3 => ak2 N v1 x1 y3  (fun ag => Dd N v1 x1 n ag)
def Iq (N : Nat) (x0 : ah) (x1 : Int) : Option Int :=
 Dd N x0 x1 N 0
def RA (N : Nat) (y6 : List Int)  : Option ((List Int)) :=
 some y6
def RB (N : Nat) (v1 : ah) (v5 : Int) (v3 : List Int) (cy : Bool)  : Option ((List Int)) :=
 bif cy then (
(ix v1.aD v5).bind fun gi =>
(zr N v3 gi.ew).bind fun Ij =>
 RA N Ij) else (
 RA N v3)
def RC (N : Nat) (x0 : ah) (x1 : Int) : Option ((List Int)) :=
(Rz N x0 x1).bind fun aP =>
(Iq N x0 x1).bind fun dT =>
(ix x0.ab x1).bind fun eV =>
(yO eV).bind fun ak3 =>
 bif ak3 then (
 RB N x0 dT aP (decide (0 ≤ dT))) else (
 RB N x0 dT aP false)
def aam (N : Nat) (v1 : ah) (x1 : Int)  : Option ((List Int)) :=
(RC N v1 x1).bind fun nO =>
 some nO
def RD (N : Nat) (v1 : ah) (x1 : Int) (cy : Bool)  : Option ((List Int)) :=
 bif cy then (
 some ([] : List Int)) else (
 aam N v1 x1)
def aan (N : Nat) (x0 : ah) (x1 : Int) : Option ((List Int)) :=
(Io N x0).bind fun aP =>
 bif (!aP) then (
 RD N x0 x1 true) else (
(rX x1 0 (bH .i64 ((x0.ab.length : Int) - 1))).bind fun lC =>
 RD N x0 x1 (!lC))
def aao (N : Nat) (v1 : ah) (x1 : Int)  : Option Int :=
(Iq N v1 x1).bind fun nO =>
 some nO
def RE (N : Nat) (v1 : ah) (x1 : Int) (cy : Bool)  : Option Int :=
 bif cy then (
 some (-1)) else (
 aao N v1 x1)
def aap (N : Nat) (x0 : ah) (x1 : Int) : Option Int :=
(Io N x0).bind fun aP =>
 bif (!aP) then (
 RE N x0 x1 true) else (
(rX x1 0 (bH .i64 ((x0.ab.length : Int) - 1))).bind fun lC =>
 RE N x0 x1 (!lC))
def Ir (N : Nat) (v1 : ah) (x1 : Int)  : Option Int :=
(zq N v1 x1).bind fun nO =>
 some nO
def De (N : Nat) (v1 : ah) (x1 : Int) (cy : Bool)  : Option Int :=
 bif cy then (
 some (-1)) else (
 Ir N v1 x1)
def B7 (N : Nat) (x0 : ah) (x1 : Int) : Option Int :=
(uf N x0).bind fun aP =>
 bif (!aP) then (
 De N x0 x1 true) else (
(oU x1 0 (bH .i64 ((x0.ab.length : Int) - 1))).bind fun lC =>
 De N x0 x1 (!lC))
abbrev RF (c : Cx) (R : Value → W) (r : Int) : Prop := ∀ (g' h' : AH), Sep c g' h' [] → R (vi r) h'
theorem ak4 {w0 : World} {c : Cx} {g h : AH} {E R : Value → W} {r : Int} {N : Nat} {v1 : ah} {x1 : Int} {ak : Nat} {ar au : Value}  (M : Ir N v1 x1 = some r) (S : Sep c g h [.bx ak [(.string v1.az), (.string v1.aA), (vi v1.fArgs), (vi v1.aw), (vi v1.ax), ar, au]]) (av : aa aq.rep 4 g ar v1.ab) (ay : aa aB.rep 3 g au v1.aD)  (H : RF c R r) : KC w0 E R (aC ak 0) (vi x1) h := by
 unfold KC
 unfold Ir at M
 refine S.cL [(.string v1.az), (.string v1.aA), (vi v1.fArgs), (vi v1.aw), (vi v1.ax), ar, au] 0 rfl rfl rfl (by decide) ?_
 obtain ⟨nO, Qs, M⟩ := bind_some M
 refine aab Qs S.sub S.ok av ay (fun _ h  S1  => ?_)
 have S := S.cW S1
 cases M
 exact H _ _  S.bB
theorem aaq {w0 : World} {c : Cx} {g h : AH} {E R : Value → W} {r : Int} {N : Nat} {v1 : ah} {x1 : Int} {cy : Bool} {ak : Nat} {ar au : Value}  (M : De N v1 x1 cy = some r) (S : Sep c g h [.bx ak [(.string v1.az), (.string v1.aA), (vi v1.fArgs), (vi v1.aw), (vi v1.ax), ar, au]]) (av : aa aq.rep 4 g ar v1.ab) (ay : aa aB.rep 3 g au v1.aD)  (H : RF c R r) : KD w0 E R (aC ak 0) (vi x1) (.bool cy) h := by
 unfold KD
 unfold De at M
 refine bz (fun hc => ?_) (fun hc => ?_)
 · have M := aV hc M
   cases M
   exact H _ _  S.bB
 · have M := aW hc M
   exact ak4 M S av ay H
theorem ah3 {w0 : World} {g h : AH} {Q : CR → AH → Prop} {r : Int} {N : Nat} {x0 : ah} {x1 : Int} {cj cm : Value} (M : B7 N x0 x1 = some r) (sg : Sub g h) (ok : h.Ok) (bL : aa aq.rep 4 g cj x0.ab) (cq : aa aB.rep 3 g cm x0.aD) (H : RF ⟨g, h, []⟩ (fun v => Q (.ret v)) r) : WF PP w0 KE [(.agg ⟨[(.string x0.az), (.string x0.aA), (vi x0.fArgs), (vi x0.aw), (vi x0.ax), cj, cm]⟩), (vi x1)] h Q := by
 refine ab9 _ _ ?_
 have S := Sep.start sg ok
 unfold TI
 unfold B7 at M
 refine S.box [(.string x0.az), (.string x0.aA), (vi x0.fArgs), (vi x0.aw), (vi x0.ax), cj, cm] rfl (ae rfl (ae rfl (ae rfl (ae rfl (ae rfl (ae bL.one (ae cq.one rfl))))))) (fun jE h S => ?_)
 refine S.cL [(.string x0.az), (.string x0.aA), (vi x0.fArgs), (vi x0.aw), (vi x0.ax), cj, cm] 0 rfl rfl rfl (by decide) ?_
 obtain ⟨aP, gE, M⟩ := bind_some M
 refine Ic gE S.sub S.ok bL cq (fun _ h  S1  => ?_)
 have S := S.cW S1
 refine fE.2 ?_
 cases hc : (!aP)
 · have M := aW hc M
   refine aH rfl ?_
   refine aH rfl ?_
   refine cb.2 ?_
   refine aH rfl ?_
   refine S.bQ 0 rfl rfl ?_
   refine aH rfl ?_
   refine bL.len ?_
   refine aH rfl ?_
   refine mP.2 ?_
   refine aH rfl ?_
   obtain ⟨lC, CB, M⟩ := bind_some M
   refine wQ CB S.sub S.ok (fun _ h  S1  => ?_)
   have S := S.cW S1
   refine aH rfl ?_
   refine fE.2 ?_
   refine bK.2 ?_
   exact aaq M S bL cq H
 · have M := aV hc M
   refine aG (by decide) ?_
   refine aG (by decide) ?_
   refine aG (by decide) ?_
   refine aG (by decide) ?_
   refine aG (by decide) ?_
   refine aG (by decide) ?_
   refine aG (by decide) ?_
   refine bK.2 ?_
   exact aaq M S bL cq H
def Is (N : Nat) (y3 : Int) (bE : Int → Option Int) : Option Int :=
 bE (bH .i64 (y3 + 1))
def Df (N : Nat) (x0 : List Int) (y3 : Int) (x1 : Int) (bE : Int → Option Int) : Option Int :=
(ix x0 y3).bind fun ei =>
 bif (decide (x1 = ei)) then (
 some y3) else (
 Is N y3 bE)
def Iu (N : Nat)   : Option Int :=
 some (-1)
def RG (N : Nat) (v1 : Int) (x0 : List Int) (x1 : Int) (y3 : Int) (bE : Int → Option Int) : Option Int :=
 bif (decide (y3 < v1)) then (
 Df N x0 y3 x1 bE) else (
 Iu N )
def Dg (N : Nat) (v1 : Int) (x0 : List Int) (x1 : Int)  : Nat → Int → Option Int
 | 0, _ => none
 | n + 1, y3 => RG N v1 x0 x1 y3  (fun ag => Dg N v1 x0 x1 n ag)
def Dh (N : Nat) (x0 : List Int) (x1 : Int) : Option Int :=
 Dg N (x0.length : Int) x0 x1 N 0
abbrev zt (c : Cx) (R : Value → W) (r : Int) : Prop := ∀ (g' h' : AH), Sep c g' h' [] → R (vi r) h'
theorem ak5 {w0 : World} {c : Cx} {g h : AH} {E R : Value → W} {r : Int} {N : Nat} {y3 : Int} {k2 : Value → W} {bE : Int → Option Int} {dB : AH} (M : Is N y3 bE = some r) (S : Sep c g h [])  (fg : Sub dB g) (fZ : ∀ {ag : Int} {g2 h2 : AH}, bE ag = some r → Sub dB g2 → Sep c g2 h2 [] → k2 (vi ag) h2) (H : zt c R r) : Jr w0 E R (vi y3) k2 h := by
 unfold Jr
 unfold Is at M
 refine ie.2 ?_
 exact fZ M fg S
theorem ak6 {w0 : World} {c : Cx} {g h : AH} {E R : Value → W} {r : Int} {N : Nat} {x0 : List Int} {y3 x1 : Int} {bJ : Value} {k2 : Value → W} {bE : Int → Option Int} {dB : AH} (M : Df N x0 y3 x1 bE = some r) (S : Sep c g h []) (bW : aa (rI .i64) 1 g bJ x0) (fg : Sub dB g) (fZ : ∀ {ag : Int} {g2 h2 : AH}, bE ag = some r → Sub dB g2 → Sep c g2 h2 [] → k2 (vi ag) h2) (H : zt c R r) : Js w0 E R bJ (vi y3) (vi x1) k2 h := by
 unfold Js
 unfold Df at M
 obtain ⟨ei, ku, M⟩ := bind_some M
 refine aa.idx bW ku (fun yL Hv vs PF vV rp => ?_)
 cases rp
 refine S.ct (vV 0 _ rfl) ?_
 refine di.2 ?_
 refine bz (fun hc => ?_) (fun hc => ?_)
 · have M := aV hc M
   cases M
   exact H _ _  S.bB
 · have M := aW hc M
   exact ak5 M S fg fZ H
theorem ak7 {w0 : World} {c : Cx} {g h : AH} {E R : Value → W} {r : Int} {N : Nat}   (M : Iu N  = some r) (S : Sep c g h [])   (H : zt c R r) : Jq w0 E R  h := by
 unfold Jq
 unfold Iu at M
 cases M
 exact H _ _  S.bB
theorem ak8 {w0 : World} {c : Cx} {g h : AH} {E R : Value → W} {r : Int} {N : Nat} {v1 : Int} {x0 : List Int} {x1 y3 : Int} {bJ : Value} {k2 : Value → W} {bE : Int → Option Int} {dB : AH} (M : RG N v1 x0 x1 y3 bE = some r) (S : Sep c g h []) (bW : aa (rI .i64) 1 g bJ x0) (fg : Sub dB g) (fZ : ∀ {ag : Int} {g2 h2 : AH}, bE ag = some r → Sub dB g2 → Sep c g2 h2 [] → k2 (vi ag) h2) (H : zt c R r) : Ee w0 E R (vi v1) bJ (vi x1) k2 (vi y3) h := by
 unfold Ee
 unfold RG at M
 refine ff.2 ?_
 refine bz (fun hc => ?_) (fun hc => ?_)
 · have M := aV hc M
   exact ak6 M S bW fg fZ H
 · have M := aW hc M
   exact ak7 M S  H
theorem ak9 {w0 : World} {c : Cx} {E R : Value → W} {r : Int} {N : Nat} {v1 : Int} {x0 : List Int} {x1 : Int} {bJ : Value}   (H : zt c R r) : ∀ (n : Nat) {y3 : Int} {g h : AH}, Dg N v1 x0 x1 n y3 = some r → Sep c g h [] → aa (rI .i64) 1 g bJ x0 → eE (α := Value) (fun k a => Ee w0 E R (vi v1) bJ (vi x1) k a) n (vi y3) h := by
 intro n
 induction n with
 | zero =>
  intro y3  g h M S bW
  unfold Dg at M; cases M
 | succ n ih =>
  intro y3  g h M S bW
  exact ak8 M S bW  (Sub.refl g) (fun M2 sub S2  => ih M2 S2 (aa.mono bW (ej .i64) sub) ) H
theorem ala {w0 : World} {g h : AH} {Q : CR → AH → Prop} {r : Int} {N : Nat} {x0 : List Int} {x1 : Int} {bJ : Value} (M : Dh N x0 x1 = some r) (sg : Sub g h) (ok : h.Ok) (bW : aa (rI .i64) 1 g bJ x0) (H : zt ⟨g, h, []⟩ (fun v => Q (.ret v)) r) : WF PP w0 Jt [bJ, (vi x1)] h Q := by
 refine abM _ _ ?_
 have S := Sep.start sg ok
 unfold Ta
 unfold Dh at M
 refine bW.len ?_
 exact ⟨N, ak9  H _ M S bW ⟩
def Di (N : Nat) (x0 : List Int) (x1 : Int) : Option Bool :=
(Dh N x0 x1).bind fun ei =>
 some (decide (0 ≤ ei))
abbrev alb (c : Cx) (R : Value → W) (r : Bool) : Prop := ∀ (g' h' : AH), Sep c g' h' [] → R (.bool r) h'
theorem alc {w0 : World} {g h : AH} {Q : CR → AH → Prop} {r : Bool} {N : Nat} {x0 : List Int} {x1 : Int} {bJ : Value} (M : Di N x0 x1 = some r) (sg : Sub g h) (ok : h.Ok) (bW : aa (rI .i64) 1 g bJ x0) (H : alb ⟨g, h, []⟩ (fun v => Q (.ret v)) r) : WF PP w0 Ju [bJ, (vi x1)] h Q := by
 refine abO _ _ ?_
 have S := Sep.start sg ok
 unfold Tb
 unfold Di at M
 obtain ⟨ei, ku, M⟩ := bind_some M
 refine ala ku S.sub S.ok bW (fun _ h  S1  => ?_)
 have S := S.cW S1
 refine nM.2 ?_
 cases M
 exact H _ _  S.bB
end
end Go.Ve.T
namespace Go.Ve
open Go.RowKit
noncomputable section
section
variable {h : AH} {R : Value → AH → Prop}
end
end
end Go.Ve
namespace Go.Ve.T
open Go.Ve Go.Proofs
noncomputable section
set_option maxRecDepth 10000
section
variable {w0 : World} {g h : AH} {Q : CR → AH → Prop}
abbrev aaP : Int × Int → List Value := fun p => [vi p.1, vi p.2]
def uo (N : Nat) (x0 : ah) (x1 : Int) : Option (List (Int × Int)) :=
 (ix x0.ab x1).bind fun i =>
 (wS N i).bind fun ps =>
 gu (decide (ps.length ≤ 1000)) (
 (zq N x0 x1).bind fun q =>
 let l := (bif !(cJ i.aR).jY && decide (bH .i64 (x1 + 1) < (x0.ab.length : Int)) then [(bH .i64 (x1 + 1), 0)] else []) ++ ps.map (fun p => (p, 1))
 bif (cJ i.aR).jK && decide (0 ≤ q) then (ix x0.aD q).bind fun d => some (l ++ [(d.ew, 2)]) else some l)
abbrev zA (u : ah) (w1 w2 : Value) : List Value := [.string u.az, .string u.aA, vi u.fArgs, vi u.aw, vi u.ax, w1, w2]
theorem amz (N : Nat) (u : ah) (at_ : Int) (w1 w2 : Value) (bu ba : Nat) {l : List (Int × Int)} (r1 : g.aZ bu 0 (zA u w1 w2)) (r2 : g.aZ ba 0 [vi at_]) (F1 : aa aq.rep 4 g w1 u.ab) (F2 : aa aB.rep 3 g w2 u.aD) (M : uo N u at_ = some l) :
 ue PP w0 g (.func (.func Ea) ⟨[]⟩ ⟨[aC bu 0, aC ba 0]⟩) aaP l := by
 refine ⟨rfl, _, [], [aC bu 0, aC ba 0], rfl, fun yv Inv Stop Q g1 h nV hK hI step I0 fin stop => ?_⟩
 unfold uo at M
 obtain ⟨i, hi, M⟩ := bind_some M
 obtain ⟨ps, eQ, M⟩ := bind_some M
 obtain ⟨amA, M⟩ := oO M
 rw [decide_eq_true_eq] at amA
 obtain ⟨q, hq, M⟩ := bind_some M
 have r1 := nV.aZ r1
 have r2 := nV.aZ r2
 have F1 := F1.mono aq.mono nV
 have F2 := F2.mono aB.mono nV
 clear nV
 generalize g1 = g at *
 show WF PP w0 Ea [yv, aC bu 0, aC ba 0] h Q
 have go : ∀ {g h : AH} {k : Nat}, Inv k g h → Sep ⟨g, h, []⟩ g h [] := fun hh => Sep.start (hI _ _ _ hh).1 (hI _ _ _ hh).2
 refine abC _ _ _ ?_
 unfold S4
 have S := go I0
 refine cb.2 ?_
 refine S.ct (r1 5 _ rfl) ?_
 refine S.ct (r2 0 _ rfl) ?_
 refine aa.idx F1 hi (fun b o vs E rr rp => ?_)
 cases rp
 refine S.mS rr rfl (by decide) ?_
 refine S.alloc (l := [vi 0, vi 0, vi 0, vi 0]) rfl (fun b6 h S => ?_)
 refine S.dk [vi i.aR, vi i.fA, vi i.fB, vi i.fC] [vi i.aR, vi i.fA, vi i.fB, vi i.fC] rfl rfl rfl (Nat.le_of_ble_eq_true rfl) rfl (fun h S => ?_)
 refine cb.2 ?_
 refine S.bQ 0 rfl rfl ?_
 refine CS (M := rfl) (sg := S.sub) (ok := S.ok) (H := fun _ h S1 => ?_)
 have S := S.cW S1
 refine (jC rfl).2 ?_
 refine (jC rfl).2 ?_
 generalize hf : cJ i.aR = f at *
 refine S.alloc (l := [.string ⟨⟨[]⟩⟩, vi 0, vi 0, vi 0, vi 0, vi 0, vi 0, .bool false, .bool false]) rfl (fun b13 h S => ?_)
 refine S.dk f.cells f.cells rfl rfl rfl (Nat.le_of_ble_eq_true rfl) rfl (fun h S => ?_)
 obtain ⟨g2, sg, S, zB⟩ := S.qh
 obtain ⟨g3, zC, S, r6⟩ := S.qh
 have I1 := hK _ _ _ _ _ I0 S
 have zB := zC.aZ zB
 have sg := sg.trans zC
 have r1 := sg.aZ r1
 have r2 := sg.aZ r2
 have F1 := F1.mono aq.mono sg
 have F2 := F2.mono aB.mono sg
 have fin : ∀ v g' h', Sub g3 g' → Inv l.length g' h' → Q (.ret v) h' := fun v g' h' s => fin v g' h' (sg.trans s)
 clear I0 S S1 sg zC
 have last : ∀ (g h : AH) (l0 : List (Int × Int)), Sub g3 g → Inv l0.length g h → (bif f.jK && decide (0 ≤ q) then (ix u.aD q).bind fun d => some (l0 ++ [(d.ew, 2)]) else some l0) = some l →
  Jc w0 (fun v h => Q (.aN v) h) (fun v h => Q (.ret v) h) (aC bu 0) (aC ba 0) (aC b13 0) yv h := by
  intro g h l0 s3 Ik M
  have S0 := go Ik
  have r1 := s3.aZ r1
  have zB := s3.aZ zB
  have F2 := F2.mono aB.mono s3
  unfold Jc
  refine S0.mS (l := zA u w1 w2) r1 rfl (by decide) ?_
  refine S0.ct (s3.aZ r2 0 _ rfl) ?_
  refine aab hq S0.sub S0.ok (F1.mono aq.mono s3) F2 (fun _ h1 S1 => ?_)
  have S2 := S0.cW S1
  have Ik := hK _ _ _ _ _ Ik S2
  refine cb.2 ?_
  refine S2.ct (zB 7 _ rfl) ?_
  cases hr : f.jK with
  | false =>
   rw [hr] at M
   cases M
   refine aG (by decide) ?_
   refine aG (by decide) ?_
   refine bK.2 ?_
   unfold Jb
   refine rT ?_
   exact fin _ _ _ s3 Ik
  | true =>
   rw [hr, Bool.true_and] at M
   refine aH rfl ?_
   refine aH rfl ?_
   refine nM.2 ?_
   refine bK.2 ?_
   unfold Jb
   cases h0 : decide (0 ≤ q) with
   | false =>
    rw [h0] at M
    cases M
    refine rT ?_
    exact fin _ _ _ s3 Ik
   | true =>
    rw [h0] at M
    obtain ⟨d, hd, M⟩ := bind_some (aV rfl M)
    cases M
    refine wP ?_
    refine cb.2 ?_
    refine S2.ct (r1 6 _ rfl) ?_
    refine aa.idx F2 hd (fun b o vs E rr rp => ?_)
    cases rp
    refine cb.2 ?_
    refine S2.ct (rr 2 _ rfl) ?_
    refine step l0.length (d.ew, 2) g h1 _ _ (by simp) Ik (fun g2 h2 sb I2 => ?_) (fun h2 s2 => stop _ _ s2)
    refine fin _ _ _ (s3.trans sb) ?_
    simpa using I2
 have mid : ∀ (g h : AH) (l0 : List (Int × Int)), Sub g3 g → Inv l0.length g h → (bif f.jK && decide (0 ≤ q) then (ix u.aD q).bind fun d => some (l0 ++ ps.map (fun p => (p, 1)) ++ [(d.ew, 2)]) else some (l0 ++ ps.map (fun p => (p, 1)))) = some l →
  Jd w0 (fun v h => Q (.aN v) h) (fun v h => Q (.ret v) h) (aC b6 0) yv (aC bu 0) (aC ba 0) (aC b13 0) h := by
  intro g h l0 s3 Ik M
  have S0 := go Ik
  have pre : ∃ m, l = l0 ++ ps.map (fun p => (p, 1)) ++ m := by
   cases hc : f.jK && decide (0 ≤ q) with
   | true => rw [hc] at M; obtain ⟨d, _, M⟩ := bind_some (aV rfl M); cases M; exact ⟨_, rfl⟩
   | false => rw [hc] at M; cases M; exact ⟨[], by simp⟩
  obtain ⟨m, hl⟩ := pre
  have amB : ∀ k p, ps[k]? = some p → l[l0.length + k]? = some (p, 1) := fun k p hp => by
   have hk : k < ps.length := (List.getElem?_eq_some_iff.1 hp).1
   rw [hl, List.getElem?_append_left (by simp; omega), List.getElem?_append_right (by omega), Nat.add_sub_cancel_left, List.getElem?_map, hp]; rfl
  unfold Jd
  refine S0.mS (l := [vi i.aR, vi i.fA, vi i.fB, vi i.fC]) (s3.aZ r6) rfl (by decide) ?_
  refine ZX eQ S0.sub S0.ok (fun g1 h1 v30 S1 F3 => ?_)
  have S2 := S0.call S1
  have Ik := hK _ _ _ _ _ Ik S2
  refine F3.len ?_
  refine af2 (fun v h' => ∃ (k : Nat) (g' : AH), v = vi k ∧ k ≤ ps.length ∧ Sub g1 g' ∧ Inv (l0.length + k) g' h') (fun v _ => match v with | .int _ n => (ps.length - n).toNat | _ => 0) ?_ ⟨0, g1, rfl, Nat.zero_le _, .refl _, Ik⟩
  rintro v h' kk ⟨k, g', rfl, hk, sb, Ik⟩ qs
  unfold SZ
  refine ff.2 ?_
  by_cases bG : k < ps.length
  · rw [decide_eq_true (show (k : Int) < (ps.length : Int) by omega)]
    refine wP ?_
    unfold SY
    have F3' := F3.mono (ej .i64) sb
    refine aa.idx F3' (x := ps[k]) (by rw [gb]; exact List.getElem?_eq_getElem bG) (fun b o vs E rr rp => ?_)
    cases rp
    have S3 := go Ik
    refine S3.ct (rr 0 _ rfl) ?_
    refine step (l0.length + k) (ps[k], 1) g' h' _ _ (amB k _ (List.getElem?_eq_getElem bG)) Ik (fun g2 h2 Sf I2 => ?_) (fun h2 s2 => ?_)
    · refine fE.2 ?_
      refine rT ?_
      unfold SW
      refine ie.2 ?_
      rw [l4 (by omega) (by omega)]
      refine qs _ _ ⟨k + 1, g2, by simp, bG, sb.trans Sf, by rw [← Nat.add_assoc]; exact I2⟩ ?_
      show ((ps.length : Int) - ((k : Int) + 1)).toNat < ((ps.length : Int) - (k : Int)).toNat
      omega
    · refine fE.2 ?_
      refine wP ?_
      exact stop _ _ s2
  · rw [decide_eq_false (show ¬ (k : Int) < (ps.length : Int) by omega)]
    refine rT ?_
    have e : k = ps.length := by omega
    subst e
    refine last g' h' (l0 ++ ps.map (fun p => (p, 1))) ((s3.trans S1.bX).trans sb) ?_ M
    simpa using Ik
 refine cb.2 ?_
 have S := go I1
 refine S.ct (zB 8 _ rfl) ?_
 refine fE.2 ?_
 cases he : f.jY with
 | true =>
  rw [he] at M
  refine aG (by decide) ?_
  refine aG (by decide) ?_
  refine aG (by decide) ?_
  refine aG (by decide) ?_
  refine aG (by decide) ?_
  refine aG (by decide) ?_
  refine bK.2 ?_
  unfold Je
  refine aG (by decide) ?_
  refine aG (by decide) ?_
  refine aG (by decide) ?_
  refine aG (by decide) ?_
  refine aG (by decide) ?_
  refine bK.2 ?_
  unfold zH
  refine rT ?_
  exact mid g3 h [] (.refl _) I1 M
 | false =>
  rw [he] at M
  refine aH rfl ?_
  refine S.ct (r2 0 _ rfl) ?_
  refine aH rfl ?_
  refine ie.2 ?_
  refine aH rfl ?_
  refine cb.2 ?_
  refine aH rfl ?_
  refine S.ct (r1 5 _ rfl) ?_
  refine aH rfl ?_
  refine F1.len ?_
  refine aH rfl ?_
  refine ff.2 ?_
  refine bK.2 ?_
  unfold Je
  cases hn : decide (bH .i64 (at_ + 1) < (u.ab.length : Int)) with
  | false =>
   rw [hn] at M
   refine aG (by decide) ?_
   refine aG (by decide) ?_
   refine aG (by decide) ?_
   refine aG (by decide) ?_
   refine aG (by decide) ?_
   refine bK.2 ?_
   unfold zH
   refine rT ?_
   exact mid g3 h [] (.refl _) I1 M
  | true =>
   rw [hn] at M
   refine aH rfl ?_
   refine aH rfl ?_
   refine S.ct (r2 0 _ rfl) ?_
   refine aH rfl ?_
   refine ie.2 ?_
   refine aH rfl ?_
   have h0 : l[0]? = some (bH .i64 (at_ + 1), 0) := by
    cases hc : f.jK && decide (0 ≤ q) with
    | true => rw [hc] at M; obtain ⟨d, _, M⟩ := bind_some (aV rfl M); cases M; rfl
    | false => rw [hc] at M; cases M; rfl
   refine step 0 (bH .i64 (at_ + 1), 0) g3 h _ _ h0 I1 (fun g2 h2 Sf I2 => ?_) (fun h2 s2 => ?_)
   · refine aH rfl ?_
     refine fE.2 ?_
     refine bK.2 ?_
     unfold zH
     refine rT ?_
     exact mid g2 h2 [(bH .i64 (at_ + 1), 0)] Sf I2 M
   · refine aH rfl ?_
     refine fE.2 ?_
     refine bK.2 ?_
     unfold zH
     refine wP ?_
     exact stop _ _ s2
theorem RK {r : List (Int × Int)} (N : Nat) (x0 : ah) (x1 : Int) (cj cm : Value) (sg : Sub g h) (ok : h.Ok) (bL : aa aq.rep 4 g cj x0.ab) (cq : aa aB.rep 3 g cm x0.aD) (M : uo N x0 x1 = some r)
 (H : ∀ (g' h' : AH) (w1 : Value), Sep ⟨g, h, []⟩ g' h' [] → ue PP w0 g' w1 aaP r → Q (.ret w1) h') : WF PP w0 zJ [.agg ⟨zA x0 cj cm⟩, vi x1] h Q := by
 have S := Sep.start sg ok
 refine abE _ _ ?_
 unfold S5
 refine S.box (zA x0 cj cm) rfl (ae rfl (ae rfl (ae rfl (ae rfl (ae rfl (ae bL.one (ae cq.one rfl))))))) (fun b1 h S => ?_)
 refine S.box [vi x1] rfl rfl (fun b2 h S => ?_)
 refine (GA (by simp)).2 ?_
 obtain ⟨g2, oR, S, r2⟩ := S.qh
 obtain ⟨g3, DH, S, r1⟩ := S.qh
 have zC := oR.trans DH
 exact H g3 h _ S (amz N x0 x1 cj cm b1 b2 r1 (DH.aZ r2) (bL.mono aq.mono zC) (cq.mono aB.mono zC) M)
end
end
end Go.Ve.T
namespace Go.Ve.T
open Go.Ve Go.Proofs
noncomputable section
set_option maxRecDepth 10000
def kS (w0 : World) (g : AH) (fv : Value) (f : Int → Int → Int → Option Bool) : Prop := dZ fv = true ∧ ∀ (a0 : Int) (a1 : Int) (a2 : Int) (r : Bool) (E K : Value → W) (g2 h2 : AH), Sub g g2 → Sub g2 h2 → h2.Ok → f a0 a1 a2 = some r → (∀ (g' h' : AH), Sep ⟨g2, h2, []⟩ g' h' [] → K (.bool r) h') → dy PP w0 [fv, (vi a0), (vi a1), (vi a2)] E K h2
theorem kS.mono {w0 : World} {g g' : AH} {fv : Value} {f : Int → Int → Int → Option Bool} (H : kS w0 g fv f) (S : Sub g g') : kS w0 g' fv f := ⟨H.1, fun a0 a1 a2 r E K g2 h2 s1 => H.2 a0 a1 a2 r E K g2 h2 (Sub.trans S s1)⟩
def Dj {ρ : Type} (N : Nat) (v3 : List Int) (mq : ah) (aX : Int) (aT : Int) (kB : Fl → (List Int) → Option ρ) : Option ρ :=
(Di N v3 aX).bind fun jZ =>
 bif (!jZ) then (
 gu (decide (v3.length + [aX].length ≤ 1048576)) (
 kB .go (v3 ++ [aX]))) else (
 kB .go v3)
def RH (N : Nat) (v3 : List Int)  : Option ((List Int)) :=
 some v3
def Dk (N : Nat) (v1 : ah) (x1 : Int)  : Option ((List Int)) :=
(uo N v1 x1).bind fun dT =>
(oS (fun (s : (List Int)) (x : Int × Int) => Dj N s v1 x.1 x.2 (fun f m0 => some (m0, f))) dT ([] : List Int)).bind fun Iv =>
 H6 Iv.2 (
 RH N Iv.1) (
 none) (fun _ => none)
def Dl (N : Nat) (v1 : ah) (x1 : Int) (iv : Bool)  : Option ((List Int)) :=
 bif iv then (
 some ([] : List Int)) else (
 Dk N v1 x1)
def B6 (N : Nat) (x0 : ah) (x1 : Int) : Option ((List Int)) :=
(uf N x0).bind fun aP =>
 bif (!aP) then (
 Dl N x0 x1 true) else (
(oU x1 0 (bH .i64 ((x0.ab.length : Int) - 1))).bind fun lC =>
 Dl N x0 x1 (!lC))
abbrev Iw (c : Cx) (R : Value → W) (r : (List Int)) : Prop := ∀ (g' h' : AH) (w1 : Value), Sep c g' h' [] → aa (rI .i64) 1 g' w1 r → R w1 h'
theorem ald {ρ : Type} {w0 : World} {c : Cx} {g h : AH} {E R : Value → W} {r : ρ} {N : Nat} {v3 : List Int} {mq : ah} {aX aT : Int} {gr : Nat} {cV : Value} {qm : List (List Value)} {aar : Nat} {RI RJ : Value} {n_ : Nat} {o_ : LO} {d_ : List Nat} {kB : Fl → (List Int) → Option ρ} {ur : AH} (M : Dj N v3 mq aX aT kB = some r) (S : Sep c g h [.lp n_ o_ .ready none, .ds d_, .bx gr [cV], .sl 3 1 cV qm, .bx aar [(.string mq.az), (.string mq.aA), (vi mq.fArgs), (vi mq.aw), (vi mq.ax), RI, RJ]]) (wZ : aJ ((rI .i64) g) qm v3) (aoQ : aa aq.rep 4 g RI mq.ab) (aoR : aa aB.rep 3 g RJ mq.aD) (uu : Sub ur g) (uv : ∀ {f : Fl} {qo2 : List Int} {aas : Value} {aat : List (List Value)} {g2 h2 : AH}, kB f qo2 = some r → Sub ur g2 → Sep c g2 h2 [.lp n_ o_ f.st f.pd, .ds d_, .bx gr [aas], .sl 3 1 aas aat, .bx aar [(.string mq.az), (.string mq.aA), (vi mq.fArgs), (vi mq.aw), (vi mq.ax), RI, RJ]] → aJ ((rI .i64) g2) aat qo2 → R (.bool f.on) h2) : Eg w0 E R (aC gr 0) o_ n_ (vi aX) (vi aT) h := by
 unfold Eg
 unfold Dj at M
 refine S.qw ?_
 refine S.my (fun h S => ?_)
 refine S.bQ 2 rfl rfl ?_
 have S := S.f3
 obtain ⟨aoS, sq, uq, nU, bq⟩ := S.ajT wZ (ej .i64)
 obtain ⟨jZ, Da, M⟩ := bind_some M
 refine alc Da uq S.ok nU (fun _ h  S1  => ?_)
 have S := bq _ _ S1
 refine fE.2 ?_
 refine bz (fun hc => ?_) (fun hc => ?_)
 · have M := aV hc M
   refine S.bQ 3 rfl rfl ?_
   refine S.wL [[(vi aX)]] (cG (m := [(vi aX)]) (l2 := [(vi aX)]) rfl rfl (Nat.le_of_ble_eq_true rfl) rfl rfl) rfl (by decide) (wO rfl wN) (ae rfl rfl) (fun aae h S => ?_)
   have r7 : aJ ((rI .i64) g) [[(vi aX)]] [aX] := (aJ.push aJ.nil (show (rI .i64) g [(vi aX)] aX from rfl))
   have S := S.f1
   obtain ⟨Rp, M⟩ := oO M
   refine S.app (S.rd 1 rfl) (by rw [wZ.1, r7.1]; exact Rp) (by decide) rfl (nR (qi .i64) r7) (nR (qi .i64) wZ) (fun Rq h S => ?_)
   have Rr : aJ ((rI .i64) g) (qm ++ [[(vi aX)]]) (v3 ++ [aX]) := aJ.append wZ r7
   have S := S.f4
   refine S.dk [Rq] [Rq] (oB (S.nS 1 rfl)) rfl (ae (S.nS 1 rfl) rfl) (Nat.le_of_ble_eq_true rfl) rfl (fun h S => ?_)
   have S := S.f3
   refine S.jq (fun h S => ?_)
   have S := S.f5
   have S := S.f3
   have S := S.f3
   have S := S.f5
   have S := S.f4
   have S := S.t5
   exact uv M uu S Rr
 · have M := aW hc M
   have S := S.f1
   refine S.jq (fun h S => ?_)
   have S := S.f4
   have S := S.f2
   have S := S.f4
   have S := S.f4
   have S := S.f4
   exact uv M uu S wZ
theorem ale {w0 : World} {c : Cx} {g h : AH} {E R : Value → W} {r : (List Int)} {N : Nat} {v3 : List Int} {gr : Nat} {cV : Value} {qm : List (List Value)} {d4 : List Nat}  (M : RH N v3 = some r) (S : Sep c g h [.bx gr [cV], .sl 3 1 cV qm, .ds d4]) (wZ : aJ ((rI .i64) g) qm v3)  (H : Iw c R r) : Ef w0 E R (aC gr 0) d4 h := by
 unfold Ef
 unfold RH at M
 refine S.bQ 0 rfl rfl ?_
 have S := S.f2
 refine S.jo (fun h S => ?_)
 have S := S.f1
 obtain ⟨g, sg, S, alf⟩ := S.fz wZ (ej .i64)
 cases M
 exact H _ _ cV S.bB alf
theorem alg {w0 : World} {c : Cx} {g h : AH} {E R : Value → W} {r : (List Int)} {N : Nat} {v1 : ah} {x1 : Int} {ak : Nat} {ar au : Value} {d2 : List Nat}  (M : Dk N v1 x1 = some r) (S : Sep c g h [.bx ak [(.string v1.az), (.string v1.aA), (vi v1.fArgs), (vi v1.aw), (vi v1.ax), ar, au], .ds d2]) (av : aa aq.rep 4 g ar v1.ab) (ay : aa aB.rep 3 g au v1.aD)  (H : Iw c R r) : Eh w0 E R (aC ak 0) (vi x1) d2 h := by
 unfold Eh
 unfold Dk at M
 refine S.alloc (l := [cZ]) (ae rfl rfl) (fun b_6 h S => ?_)
 refine S.cL [(.string v1.az), (.string v1.aA), (vi v1.fArgs), (vi v1.aw), (vi v1.ax), ar, au] 1 rfl rfl rfl (by decide) ?_
 obtain ⟨dT, mV, M⟩ := bind_some M
 refine RK N v1 x1 ar au S.sub S.ok av ay mV (fun g h w_9 S1 RL => ?_)
 have av := aa.mono av aq.mono S1.bX
 have ay := aa.mono ay aB.mono S1.bX
 have S := S.mc S1
 have S := S.CD 3 1
 have S := S.f2
 have S := S.f1
 have S := S.f2
 have S := S.f3
 obtain ⟨Iv, Cb, M⟩ := bind_some M
 refine QM (fun (s : (List Int)) (x : Int × Int) => Dj N s v1 x.1 x.2 (fun f m0 => some (m0, f))) (fun (s : (List Int)) (g h : AH) (Γ : List Ob) => ∃ (cV : Value) (qm : List (List Value)), Γ = [.bx b_6 [cV], .sl 3 1 cV qm, .bx ak [(.string v1.az), (.string v1.aA), (vi v1.fArgs), (vi v1.aw), (vi v1.ax), ar, au]] ∧ aJ ((rI .i64) g) qm s ∧ aa aq.rep 4 g ar v1.ab ∧ aa aB.rep 3 g au v1.aD) RL (fun s g h Γ g' h' hd sb => by obtain ⟨u0, u1, e, z0, z1, z2⟩ := hd; exact ⟨u0, u1, e, aJ.mono z0 (fun _ _ hh => (ej .i64) _ _ _ _ sb hh), aa.mono z1 aq.mono sb, aa.mono z2 aB.mono sb⟩) S ⟨cZ, [], rfl, (aJ.nil (R := (rI .i64) g)), av, ay⟩ Cb (fun lo n q s x s2 f R g2 h2 Γ2 sub S D1 bm kk => ?_) (fun nY g h Γ2 sg S D1 => ?_)
 · obtain ⟨cV, qm, rfl, alh, aau, aav⟩ := D1
   show Eg w0 mz R (aC b_6 0) lo n (vi x.1) (vi x.2) h2
   exact ald bm S alh aau aav (Sub.refl g2) (fun e sb S3 ali => by cases e; exact kk _ _ _ sb S3 ⟨_, _, rfl, ali, (aa.mono aau aq.mono sb), (aa.mono aav aB.mono sb)⟩)
 · obtain ⟨aoT, aoU, rfl, alj, _, _⟩ := D1
   have av := aa.mono av aq.mono sg
   have ay := aa.mono ay aB.mono sg
   have RL := ue.mono RL sg
   cases hf : Iv.2 with
   | go =>
    rw [hf] at M
    have M := ZT M
    refine QK ?_
    have S := S.f2
    have S := S.f2
    have S := S.t3
    exact ale M S alj H
   | ret =>
    rw [hf] at M
    have M := ZU M
    refine ZV ?_
    cases M
   | ex j =>
    rw [hf] at M
    cases M
theorem aaw {w0 : World} {c : Cx} {g h : AH} {E R : Value → W} {r : (List Int)} {N : Nat} {v1 : ah} {x1 : Int} {iv : Bool} {ak : Nat} {ar au : Value}  (M : Dl N v1 x1 iv = some r) (S : Sep c g h [.bx ak [(.string v1.az), (.string v1.aA), (vi v1.fArgs), (vi v1.aw), (vi v1.ax), ar, au], .ds ([] : List Nat)]) (av : aa aq.rep 4 g ar v1.ab) (ay : aa aB.rep 3 g au v1.aD)  (H : Iw c R r) : Ei w0 E R (aC ak 0) (vi x1) (.bool iv) h := by
 unfold Ei
 unfold Dl at M
 refine bz (fun hc => ?_) (fun hc => ?_)
 · have M := aV hc M
   have S := S.f1
   refine S.jo (fun h S => ?_)
   cases M
   exact H _ _ cZ S.bB aa.nil
 · have M := aW hc M
   exact alg M S av ay H
theorem ah1 {w0 : World} {g h : AH} {Q : CR → AH → Prop} {r : (List Int)} {N : Nat} {x0 : ah} {x1 : Int} {cj cm : Value} (M : B6 N x0 x1 = some r) (sg : Sub g h) (ok : h.Ok) (bL : aa aq.rep 4 g cj x0.ab) (cq : aa aB.rep 3 g cm x0.aD) (H : Iw ⟨g, h, []⟩ (fun v => Q (.ret v)) r) : WF PP w0 Jv [(.agg ⟨[(.string x0.az), (.string x0.aA), (vi x0.fArgs), (vi x0.aw), (vi x0.ax), cj, cm]⟩), (vi x1)] h Q := by
 refine abP _ _ ?_
 have S := Sep.start sg ok
 unfold Td
 unfold B6 at M
 have S : Sep _ g h [.ds ([] : List Nat)] := S.QL
 refine S.box [(.string x0.az), (.string x0.aA), (vi x0.fArgs), (vi x0.aw), (vi x0.ax), cj, cm] rfl (ae rfl (ae rfl (ae rfl (ae rfl (ae rfl (ae bL.one (ae cq.one rfl))))))) (fun jE h S => ?_)
 refine S.cL [(.string x0.az), (.string x0.aA), (vi x0.fArgs), (vi x0.aw), (vi x0.ax), cj, cm] 0 rfl rfl rfl (by decide) ?_
 obtain ⟨aP, gE, M⟩ := bind_some M
 refine Ic gE S.sub S.ok bL cq (fun _ h  S1  => ?_)
 have S := S.cW S1
 refine fE.2 ?_
 cases hc : (!aP)
 · have M := aW hc M
   refine aH rfl ?_
   refine aH rfl ?_
   refine cb.2 ?_
   refine aH rfl ?_
   refine S.bQ 0 rfl rfl ?_
   refine aH rfl ?_
   refine bL.len ?_
   refine aH rfl ?_
   refine mP.2 ?_
   refine aH rfl ?_
   obtain ⟨lC, CB, M⟩ := bind_some M
   refine wQ CB S.sub S.ok (fun _ h  S1  => ?_)
   have S := S.cW S1
   refine aH rfl ?_
   refine fE.2 ?_
   refine bK.2 ?_
   exact aaw M S bL cq H
 · have M := aV hc M
   refine aG (by decide) ?_
   refine aG (by decide) ?_
   refine aG (by decide) ?_
   refine aG (by decide) ?_
   refine aG (by decide) ?_
   refine aG (by decide) ?_
   refine aG (by decide) ?_
   refine bK.2 ?_
   exact aaw M S bL cq H
def Ix {ρ : Type} (N : Nat) (v8 : List Bool) (cK : Int) (v11 : List Int) (RM : Int → Int → Int → Option Bool) (Dm : Int) (Dn : List Bool) (jL : ah) (kB : Fl → (List Bool) → (List Bool) → (List Int) → Option (ρ)) : Option (ρ) :=
(ix v8 cK).bind fun aax =>
 bif (!aax) then (
(ix v8 cK).bind fun alk =>
 gu (decide (v11.length + [cK].length ≤ 1048576)) (
 kB .go Dn (v8.set cK.toNat true) (v11 ++ [cK]))) else (
 kB .go Dn v8 v11)
def Dp {ρ : Type} (N : Nat) (v2 : Int → Int → Int → Option Bool) (dF : Int) (v3 : List Bool) (v8 : List Bool) (v11 : List Int) (lF : ah) (cK : Int) (mA : Int) (kB : Fl → (List Bool) → (List Bool) → (List Int) → Option ρ) : Option ρ :=
(v2 dF cK mA).bind fun Il =>
 bif (!Il) then (
 kB .ret ([] : List Bool) v8 v11) else (
 Ix N v8 cK v11 v2 dF v3 lF kB)
def zu (N : Nat) (v11 : List Int) (v1 : ah) (v2 : Int → Int → Int → Option Bool) (v3 : List Bool) (v8 : List Bool) (r9 : (List Int) → (List Bool) → (List Bool) → Option ((List Bool))) : Option ((List Bool)) :=
(ix v11 (bH .i64 ((v11.length : Int) - 1))).bind fun jF =>
(CJ v11 0 (bH .i64 ((v11.length : Int) - 1))).bind fun rV =>
(uo N v1 jF).bind fun aay =>
(oS (fun (s : (List Bool) × (List Bool) × (List Int)) (x : Int × Int) => Dp N v2 jF s.1 s.2.1 s.2.2 v1 x.1 x.2 (fun f m0 m1 m2 => some ((m0, m1, m2), f))) aay (v3, v8, rV)).bind fun w4 =>
 H6 w4.2 (
 r9 w4.1.2.2 w4.1.1 w4.1.2.1) (
 some w4.1.1) (fun _ => none)
def Iy (N : Nat) (v8 : List Bool) (v3 : List Bool)  : Option ((List Bool)) :=
 some v8
def Dq (N : Nat) (v11 : List Int) (v1 : ah) (v2 : Int → Int → Int → Option Bool) (v3 : List Bool) (v8 : List Bool) (r9 : (List Int) → (List Bool) → (List Bool) → Option ((List Bool))) : Option ((List Bool)) :=
 bif (decide (0 < (v11.length : Int))) then (
 zu N v11 v1 v2 v3 v8 r9) else (
 Iy N v8 v3)
def zv (N : Nat) (v1 : ah) (v2 : Int → Int → Int → Option Bool)  : Nat → (List Int) → (List Bool) → (List Bool) → Option ((List Bool))
 | 0, _, _, _ => none
 | n + 1, v11, v3, v8 => Dq N v11 v1 v2 v3 v8  (fun sa lG lH => zv N v1 v2 n sa lG lH)
def Dr (N : Nat) (x0 : ah) (x1 : Int → Int → Int → Option Bool) : Option ((List Bool)) :=
 gu (decide (0 ≤ (x0.ab.length : Int)) && decide ((x0.ab.length : Int) ≤ 65536)) (
(ix (List.replicate (x0.ab.length : Int).toNat false) 0).bind fun rZ =>
 zv N x0 x1 N [0] ([] : List Bool) ((List.replicate (x0.ab.length : Int).toNat false).set (0 : Int).toNat true))
abbrev Ds (c : Cx) (R : Value → W) (r : (List Bool)) : Prop := ∀ (g' h' : AH) (w1 : Value), Sep c g' h' [] → aa rB 1 g' w1 r → R w1 h'
theorem alm {ρ : Type} {w0 : World} {c : Cx} {g h : AH} {E R : Value → W} {r : ρ} {N : Nat} {v8 : List Bool} {cK : Int} {v11 : List Int} {RM : Int → Int → Int → Option Bool} {Dm : Int} {Dn : List Bool} {jL : ah} {gX : Nat} {fH : Value} {gw : List (List Value)} {iU : Nat} {iC : Value} {iD : List (List Value)} {Iz : Nat} {IA : LO} {RN : List Nat} {RO : Nat} {IB : Value} {RP RQ : Nat} {RR : Value} {RS : Nat} {IC ID : Value} {kB : Fl → (List Bool) → (List Bool) → (List Int) → Option (ρ)} {ur : AH} (M : Ix N v8 cK v11 RM Dm Dn jL kB = some r) (S : Sep c g h [.bx gX [fH], .sl 4 1 fH gw, .bx iU [iC], .sl 3 1 iC iD, .lp Iz IA .busy none, .ds RN, .bx RO [IB], .bx RP [(vi Dm)], .bx RQ [RR], .bx RS [(.string jL.az), (.string jL.aA), (vi jL.fArgs), (vi jL.aw), (vi jL.ax), IC, ID]]) (jM : aJ (rB g) gw v8) (j0 : aJ ((rI .i64) g) iD v11) (aoV : kS w0 g IB RM) (aaz : aa rB 1 g RR Dn) (aoW : aa aq.rep 4 g IC jL.ab) (aoX : aa aB.rep 3 g ID jL.aD) (uu : Sub ur g) (uv : ∀ {f : Fl} {lG : List Bool} {o5 : Value} {lH : List Bool} {o6 : Value} {o7 : List (List Value)} {Dt : List Int} {Du : Value} {Dv : List (List Value)} {g2 h2 : AH}, kB f lG lH Dt = some r → Sub ur g2 → Sep c g2 h2 [.lp Iz IA f.st f.pd, .ds RN, .bx RO [IB], .bx RP [(vi Dm)], .bx RQ [o5], .bx gX [o6], .sl 4 1 o6 o7, .bx iU [Du], .sl 3 1 Du Dv, .bx RS [(.string jL.az), (.string jL.aA), (vi jL.fArgs), (vi jL.aw), (vi jL.ax), IC, ID]] → aa rB 1 g2 o5 lG → aJ (rB g2) o7 lH → aJ ((rI .i64) g2) Dv Dt → R (.bool f.on) h2) (H : True) : EB w0 E R (aC gX 0) (vi cK) (aC iU 0) IA Iz h := by
 unfold EB
 unfold Ix at M
 refine S.bQ 0 rfl rfl ?_
 obtain ⟨aax, aln, M⟩ := bind_some M
 refine S.yZ 1 rfl jM aln (fun aoY aoZ vs alo alp rp => ?_)
 cases rp
 refine S.QF (j := 0) 1 rfl alo alp rfl ?_
 refine fE.2 ?_
 refine bz (fun hc => ?_) (fun hc => ?_)
 · have M := aV hc M
   refine S.bQ 0 rfl rfl ?_
   obtain ⟨alk, alq, M⟩ := bind_some M
   refine S.yZ 1 rfl jM alq (fun ao0 ao1 vs alr als rp => ?_)
   cases rp
   have S := S.f1
   refine S.QG (j := 0) [(.bool true)] alr als rfl rfl (ae rfl rfl) (by decide) (fun h S => ?_)
   have alu : aJ (rB g) (gw.set cK.toNat [(.bool true)]) (v8.set cK.toNat true) := aJ.set jM (show rB g [(.bool true)] true from rfl) cK.toNat
   have S : Sep _ g h [.sl 4 1 fH (gw.set cK.toNat [(.bool true)]), .bx gX [fH], .bx iU [iC], .sl 3 1 iC iD, .lp Iz IA .busy none, .ds RN, .bx RO [IB], .bx RP [(vi Dm)], .bx RQ [RR], .bx RS [(.string jL.az), (.string jL.aA), (vi jL.fArgs), (vi jL.aw), (vi jL.ax), IC, ID]] := S
   refine S.bQ 2 rfl rfl ?_
   refine S.wL [[(vi cK)]] (cG (m := [(vi cK)]) (l2 := [(vi cK)]) rfl rfl (Nat.le_of_ble_eq_true rfl) rfl rfl) rfl (by decide) (wO rfl wN) (ae rfl rfl) (fun ao2 h S => ?_)
   have RT : aJ ((rI .i64) g) [[(vi cK)]] [cK] := (aJ.push aJ.nil (show (rI .i64) g [(vi cK)] cK from rfl))
   have S := S.f4
   obtain ⟨alv, M⟩ := oO M
   refine S.app (S.rd 1 rfl) (by rw [j0.1, RT.1]; exact alv) (by decide) rfl (nR (qi .i64) RT) (nR (qi .i64) j0) (fun aaA h S => ?_)
   have alw : aJ ((rI .i64) g) (iD ++ [[(vi cK)]]) (v11 ++ [cK]) := aJ.append j0 RT
   have S := S.f4
   refine S.dk [aaA] [aaA] (oB (S.nS 1 rfl)) rfl (ae (S.nS 1 rfl) rfl) (Nat.le_of_ble_eq_true rfl) rfl (fun h S => ?_)
   have S := S.f5
   refine S.jq (fun h S => ?_)
   have S := S.f10
   have S := S.f3
   have S := S.f3
   have S := S.f5
   have S := S.f6
   have S := S.f10
   have S := S.f10
   have S := S.f10
   have S := S.f10
   have S := S.f9
   have S := S.t10
   exact uv M uu S aaz alu alw
 · have M := aW hc M
   have S := S.f4
   refine S.jq (fun h S => ?_)
   have S := S.f9
   have S := S.f5
   have S := S.f5
   have S := S.f5
   have S := S.f5
   have S := S.f9
   have S := S.f9
   have S := S.f9
   have S := S.f9
   have S := S.f9
   exact uv M uu S aaz jM j0
theorem alx {ρ : Type} {w0 : World} {c : Cx} {g h : AH} {E R : Value → W} {r : ρ} {N : Nat} {v2 : Int → Int → Int → Option Bool} {dF : Int} {v3 v8 : List Bool} {v11 : List Int} {lF : ah} {cK mA : Int} {kT : Nat} {kU : Value} {RU gr : Nat} {cV : Value} {gX : Nat} {fH : Value} {gw : List (List Value)} {iU : Nat} {iC : Value} {iD : List (List Value)} {aaB : Nat} {RV RW : Value} {n_ : Nat} {o_ : LO} {d_ : List Nat} {kB : Fl → (List Bool) → (List Bool) → (List Int) → Option ρ} {ur : AH} (M : Dp N v2 dF v3 v8 v11 lF cK mA kB = some r) (S : Sep c g h [.lp n_ o_ .ready none, .ds d_, .bx kT [kU], .bx RU [(vi dF)], .bx gr [cV], .bx gX [fH], .sl 4 1 fH gw, .bx iU [iC], .sl 3 1 iC iD, .bx aaB [(.string lF.az), (.string lF.aA), (vi lF.fArgs), (vi lF.aw), (vi lF.ax), RV, RW]]) (mr : kS w0 g kU v2) (fS : aa rB 1 g cV v3) (jM : aJ (rB g) gw v8) (j0 : aJ ((rI .i64) g) iD v11) (aly : aa aq.rep 4 g RV lF.ab) (alz : aa aB.rep 3 g RW lF.aD) (uu : Sub ur g) (uv : ∀ {f : Fl} {lG : List Bool} {o5 : Value} {lH : List Bool} {o6 : Value} {o7 : List (List Value)} {Dt : List Int} {Du : Value} {Dv : List (List Value)} {g2 h2 : AH}, kB f lG lH Dt = some r → Sub ur g2 → Sep c g2 h2 [.lp n_ o_ f.st f.pd, .ds d_, .bx kT [kU], .bx RU [(vi dF)], .bx gr [o5], .bx gX [o6], .sl 4 1 o6 o7, .bx iU [Du], .sl 3 1 Du Dv, .bx aaB [(.string lF.az), (.string lF.aA), (vi lF.fArgs), (vi lF.aw), (vi lF.ax), RV, RW]] → aa rB 1 g2 o5 lG → aJ (rB g2) o7 lH → aJ ((rI .i64) g2) Dv Dt → R (.bool f.on) h2) : EC w0 E R (aC kT 0) (aC RU 0) (aC gr 0) (aC gX 0) (aC iU 0) o_ n_ (vi cK) (vi mA) h := by
 unfold EC
 unfold Dp at M
 refine S.qw ?_
 refine S.my (fun h S => ?_)
 refine S.bQ 2 rfl rfl ?_
 refine S.bQ 3 rfl rfl ?_
 obtain ⟨Il, alA, M⟩ := bind_some M
 refine mr.2 dF cK mA _ _ _ _ _ (Sub.refl _) S.sub S.ok  alA (fun _ h  S1  => ?_)
 have S := S.cW S1
 refine fE.2 ?_
 refine bz (fun hc => ?_) (fun hc => ?_)
 · have M := aV hc M
   have S := S.f4
   refine S.dk [cZ] [cZ] (oB rfl) rfl (ae rfl rfl) (Nat.le_of_ble_eq_true rfl) rfl (fun h S => ?_)
   have S := S.f1
   refine S.jq (fun h S => ?_)
   have S := S.f9
   have S := S.f9
   have S := S.f9
   have S := S.f9
   have S := S.f9
   have S := S.f6
   have S := S.f9
   have S := S.f9
   have S := S.f9
   have S := S.f9
   exact uv M uu S aa.nil jM j0
 · have M := aW hc M
   have S := S.f9
   have S := S.f5
   have S := S.f5
   have S := S.f5
   have S := S.f5
   have S := S.f5
   have S := S.f9
   have S := S.f9
   have S := S.f9
   have S := S.f9
   exact alm M S jM j0 mr fS aly alz uu uv trivial
theorem alB {w0 : World} {c : Cx} {g h : AH} {E R : Value → W} {r : (List Bool)} {N : Nat} {v11 : List Int} {v1 : ah} {v2 : Int → Int → Int → Option Bool} {v3 v8 : List Bool} {iU : Nat} {iC : Value} {iD : List (List Value)} {ak : Nat} {ar au : Value} {kT : Nat} {kU : Value} {gr : Nat} {cV : Value} {gX : Nat} {fH : Value} {gw : List (List Value)} {d22 : List Nat} {qB : List Nat → W} {r9 : (List Int) → (List Bool) → (List Bool) → Option ((List Bool))} {Dw : AH} (M : zu N v11 v1 v2 v3 v8 r9 = some r) (S : Sep c g h [.bx iU [iC], .sl 3 1 iC iD, .bx ak [(.string v1.az), (.string v1.aA), (vi v1.fArgs), (vi v1.aw), (vi v1.ax), ar, au], .bx kT [kU], .bx gr [cV], .bx gX [fH], .sl 4 1 fH gw, .ds d22]) (j0 : aJ ((rI .i64) g) iD v11) (av : aa aq.rep 4 g ar v1.ab) (ay : aa aB.rep 3 g au v1.aD) (mr : kS w0 g kU v2) (fS : aa rB 1 g cV v3) (jM : aJ (rB g) gw v8) (w7 : Sub Dw g) (RX : ∀ {ag : List Nat} {sa : List Int} {Dx : Value} {Dy : List (List Value)} {lG : List Bool} {o5 : Value} {lH : List Bool} {o6 : Value} {o7 : List (List Value)} {g2 h2 : AH}, r9 sa lG lH = some r → Sub Dw g2 → Sep c g2 h2 [.bx iU [Dx], .sl 3 1 Dx Dy, .bx ak [(.string v1.az), (.string v1.aA), (vi v1.fArgs), (vi v1.aw), (vi v1.ax), ar, au], .bx kT [kU], .bx gr [o5], .bx gX [o6], .sl 4 1 o6 o7, .ds ag] → aJ ((rI .i64) g2) Dy sa → aa rB 1 g2 o5 lG → aJ (rB g2) o7 lH → qB ag h2) (H : Ds c R r) : ED w0 E R (aC iU 0) (aC ak 0) (aC kT 0) (aC gr 0) (aC gX 0) qB d22 h := by
 unfold ED
 unfold zu at M
 refine S.bQ 0 rfl rfl ?_
 refine S.bQ 0 rfl rfl ?_
 refine S.QE 1 rfl j0 ?_
 refine mP.2 ?_
 obtain ⟨jF, wc, M⟩ := bind_some M
 refine S.yZ 1 rfl j0 wc (fun YH YI vs alC alD rp => ?_)
 cases rp
 refine S.QF (j := 0) 1 rfl alC alD rfl ?_
 refine S.alloc (l := [(vi 0)]) (ae rfl rfl) (fun aaC h S => ?_)
 refine S.dk [(vi jF)] [(vi jF)] rfl rfl (ae rfl rfl) (Nat.le_of_ble_eq_true rfl) rfl (fun h S => ?_)
 refine S.bQ 1 rfl rfl ?_
 refine S.bQ 1 rfl rfl ?_
 refine S.QE 2 rfl j0 ?_
 refine mP.2 ?_
 have S := S.f2
 obtain ⟨rV, Q7, M⟩ := bind_some M
 refine S.aj3 j0 Q7 (fun RY alE S RZ => ?_)
 have S := S.f2
 refine S.dk [RY] [RY] (oB (S.nS 1 rfl)) rfl (ae (S.nS 1 rfl) rfl) (Nat.le_of_ble_eq_true rfl) rfl (fun h S => ?_)
 refine S.cL [(.string v1.az), (.string v1.aA), (vi v1.fArgs), (vi v1.aw), (vi v1.ax), ar, au] 3 rfl rfl rfl (by decide) ?_
 refine S.bQ 2 rfl rfl ?_
 obtain ⟨aay, alF, M⟩ := bind_some M
 refine RK N v1 jF ar au S.sub S.ok av ay alF (fun g h ao3 S1 R0 => ?_)
 have av := aa.mono av aq.mono S1.bX
 have ay := aa.mono ay aB.mono S1.bX
 have RZ := aJ.mono RZ (fun _ _ hh => (ej .i64) _ _ _ _ S1.bX hh)
 have mr := kS.mono mr S1.bX
 have fS := aa.mono fS CC S1.bX
 have jM := aJ.mono jM (fun _ _ hh => CC _ _ _ _ S1.bX hh)
 have w7 := Sub.trans w7 S1.bX
 have S := S.mc S1
 have S := S.f3
 have S := S.f2
 have S := S.f2
 have S := S.f7
 have S := S.f7
 have S := S.f7
 have S := S.f6
 have S := S.f7
 have S := S.f8
 obtain ⟨w4, B9, M⟩ := bind_some M
 refine QM (fun (s : (List Bool) × (List Bool) × (List Int)) (x : Int × Int) => Dp N v2 jF s.1 s.2.1 s.2.2 v1 x.1 x.2 (fun f m0 m1 m2 => some ((m0, m1, m2), f))) (fun (s : (List Bool) × (List Bool) × (List Int)) (g h : AH) (Γ : List Ob) => ∃ (cV : Value) (fH : Value) (gw : List (List Value)) (iC : Value) (iD : List (List Value)), Γ = [.bx kT [kU], .bx aaC [(vi jF)], .bx gr [cV], .bx gX [fH], .sl 4 1 fH gw, .bx iU [iC], .sl 3 1 iC iD, .bx ak [(.string v1.az), (.string v1.aA), (vi v1.fArgs), (vi v1.aw), (vi v1.ax), ar, au]] ∧ aa rB 1 g cV s.1 ∧ aJ (rB g) gw s.2.1 ∧ aJ ((rI .i64) g) iD s.2.2 ∧ kS w0 g kU v2 ∧ aa aq.rep 4 g ar v1.ab ∧ aa aB.rep 3 g au v1.aD) R0 (fun s g h Γ g' h' hd sb => by obtain ⟨u0, u1, u2, u3, u4, e, z0, z1, z2, z3, z4, z5⟩ := hd; exact ⟨u0, u1, u2, u3, u4, e, aa.mono z0 CC sb, aJ.mono z1 (fun _ _ hh => CC _ _ _ _ sb hh), aJ.mono z2 (fun _ _ hh => (ej .i64) _ _ _ _ sb hh), kS.mono z3 sb, aa.mono z4 aq.mono sb, aa.mono z5 aB.mono sb⟩) S ⟨cV, fH, gw, RY, alE, rfl, fS, jM, RZ, mr, av, ay⟩ B9 (fun lo n q s x s2 f R g2 h2 Γ2 sub S D1 bm kk => ?_) (fun mB g h Γ2 sg S D1 => ?_)
 · obtain ⟨cV, fH, gw, iC, iD, rfl, alG, alH, alI, aaD, aaE, aaF⟩ := D1
   show EC w0 mz R (aC kT 0) (aC aaC 0) (aC gr 0) (aC gX 0) (aC iU 0) lo n (vi x.1) (vi x.2) h2
   exact alx bm S aaD alG alH alI aaE aaF (Sub.refl g2) (fun e sb S3 alJ alK alL => by cases e; exact kk _ _ _ sb S3 ⟨_, _, _, _, _, rfl, alJ, alK, alL, (kS.mono aaD sb), (aa.mono aaE aq.mono sb), (aa.mono aaF aB.mono sb)⟩)
 · obtain ⟨alM, ao4, ao5, ao6, ao7, rfl, aaG, alN, alO, _, _, _⟩ := D1
   have av := aa.mono av aq.mono sg
   have ay := aa.mono ay aB.mono sg
   have R0 := ue.mono R0 sg
   have mr := kS.mono mr sg
   have w7 := Sub.trans w7 sg
   cases hf : w4.2 with
   | go =>
    rw [hf] at M
    have M := ZT M
    refine QK ?_
    have S := S.f5
    have S := S.f5
    have S := S.f5
    have S := S.f4
    have S := S.f8
    have S := S.f8
    have S := S.f8
    have S := S.t8
    exact RX M w7 S alO aaG alN
   | ret =>
    rw [hf] at M
    have M := ZU M
    refine ZV ?_
    refine S.jo (fun h S => ?_)
    refine S.bQ 2 rfl rfl ?_
    cases M
    exact H _ _ alM S.bB aaG
   | ex j =>
    rw [hf] at M
    cases M
theorem alP {w0 : World} {c : Cx} {g h : AH} {E R : Value → W} {r : (List Bool)} {N : Nat} {v8 v3 : List Bool} {gX : Nat} {fH : Value} {gw : List (List Value)} {gr : Nat} {cV : Value} {d16 : List Nat}  (M : Iy N v8 v3 = some r) (S : Sep c g h [.bx gX [fH], .sl 4 1 fH gw, .bx gr [cV], .ds d16]) (jM : aJ (rB g) gw v8) (fS : aa rB 1 g cV v3)  (H : Ds c R r) : EA w0 E R (aC gX 0) (aC gr 0) d16 h := by
 unfold EA
 unfold Iy at M
 refine S.bQ 0 rfl rfl ?_
 have S := S.f2
 refine S.dk [fH] [fH] (oB (S.nS 2 rfl)) rfl (ae (S.nS 2 rfl) rfl) (Nat.le_of_ble_eq_true rfl) rfl (fun h S => ?_)
 have S := S.f3
 refine S.jo (fun h S => ?_)
 refine S.bQ 0 rfl rfl ?_
 have S := S.f2
 obtain ⟨g, sg, S, alQ⟩ := S.fz jM CC
 cases M
 exact H _ _ fH S.bB alQ
theorem alR {w0 : World} {c : Cx} {g h : AH} {E R : Value → W} {r : (List Bool)} {N : Nat} {v11 : List Int} {v1 : ah} {v2 : Int → Int → Int → Option Bool} {v3 v8 : List Bool} {iU : Nat} {iC : Value} {iD : List (List Value)} {ak : Nat} {ar au : Value} {kT : Nat} {kU : Value} {gr : Nat} {cV : Value} {gX : Nat} {fH : Value} {gw : List (List Value)} {d21 : List Nat} {qB : List Nat → W} {r9 : (List Int) → (List Bool) → (List Bool) → Option ((List Bool))} {Dw : AH} (M : Dq N v11 v1 v2 v3 v8 r9 = some r) (S : Sep c g h [.bx iU [iC], .sl 3 1 iC iD, .bx ak [(.string v1.az), (.string v1.aA), (vi v1.fArgs), (vi v1.aw), (vi v1.ax), ar, au], .bx kT [kU], .bx gr [cV], .bx gX [fH], .sl 4 1 fH gw, .ds d21]) (j0 : aJ ((rI .i64) g) iD v11) (av : aa aq.rep 4 g ar v1.ab) (ay : aa aB.rep 3 g au v1.aD) (mr : kS w0 g kU v2) (fS : aa rB 1 g cV v3) (jM : aJ (rB g) gw v8) (w7 : Sub Dw g) (RX : ∀ {ag : List Nat} {sa : List Int} {Dx : Value} {Dy : List (List Value)} {lG : List Bool} {o5 : Value} {lH : List Bool} {o6 : Value} {o7 : List (List Value)} {g2 h2 : AH}, r9 sa lG lH = some r → Sub Dw g2 → Sep c g2 h2 [.bx iU [Dx], .sl 3 1 Dx Dy, .bx ak [(.string v1.az), (.string v1.aA), (vi v1.fArgs), (vi v1.aw), (vi v1.ax), ar, au], .bx kT [kU], .bx gr [o5], .bx gX [o6], .sl 4 1 o6 o7, .ds ag] → aJ ((rI .i64) g2) Dy sa → aa rB 1 g2 o5 lG → aJ (rB g2) o7 lH → qB ag h2) (H : Ds c R r) : zU w0 E R (aC iU 0) (aC ak 0) (aC kT 0) (aC gr 0) (aC gX 0) qB d21 h := by
 unfold zU
 unfold Dq at M
 refine S.bQ 0 rfl rfl ?_
 refine S.QE 1 rfl j0 ?_
 refine ox.2 ?_
 refine bz (fun hc => ?_) (fun hc => ?_)
 · have M := aV hc M
   exact alB M S j0 av ay mr fS jM w7 RX H
 · have M := aW hc M
   have S := S.f7
   have S := S.f5
   have S := S.f7
   have S := S.f7
   have S := S.t4
   exact alP M S jM fS H
theorem alS {w0 : World} {c : Cx} {E R : Value → W} {r : (List Bool)} {N : Nat} {v1 : ah} {v2 : Int → Int → Int → Option Bool} {iU ak : Nat} {ar au : Value} {kT : Nat} {kU : Value} {gr gX : Nat}   (H : Ds c R r) : ∀ (n : Nat) {v11 : List Int} {v3 v8 : List Bool} {iC : Value} {iD : List (List Value)} {cV fH : Value} {gw : List (List Value)} {d21 : List Nat} {g h : AH}, zv N v1 v2 n v11 v3 v8 = some r → Sep c g h [.bx iU [iC], .sl 3 1 iC iD, .bx ak [(.string v1.az), (.string v1.aA), (vi v1.fArgs), (vi v1.aw), (vi v1.ax), ar, au], .bx kT [kU], .bx gr [cV], .bx gX [fH], .sl 4 1 fH gw, .ds d21] → aJ ((rI .i64) g) iD v11 → aa aq.rep 4 g ar v1.ab → aa aB.rep 3 g au v1.aD → kS w0 g kU v2 → aa rB 1 g cV v3 → aJ (rB g) gw v8 → eE (α := (Unit) × List Nat) (fun k a => zU w0 E R (aC iU 0) (aC ak 0) (aC kT 0) (aC gr 0) (aC gX 0) (fun  q => k ((), q)) a.2) n ((), d21) h := by
 intro n
 induction n with
 | zero =>
  intro v11 v3 v8 iC iD cV fH gw d21 g h M S j0 av ay mr fS jM
  unfold zv at M; cases M
 | succ n ih =>
  intro v11 v3 v8 iC iD cV fH gw d21 g h M S j0 av ay mr fS jM
  exact alR M S j0 av ay mr fS jM  (Sub.refl g) (fun M2 sub S2 alT alU alV => ih M2 S2 alT (aa.mono av aq.mono sub) (aa.mono ay aB.mono sub) (kS.mono mr sub) alU alV ) H
theorem alW {w0 : World} {g h : AH} {Q : CR → AH → Prop} {r : (List Bool)} {N : Nat} {x0 : ah} {x1 : Int → Int → Int → Option Bool} {cj cm aK : Value} (M : Dr N x0 x1 = some r) (sg : Sub g h) (ok : h.Ok) (bL : aa aq.rep 4 g cj x0.ab) (cq : aa aB.rep 3 g cm x0.aD) (aM : kS w0 g aK x1) (H : Ds ⟨g, h, []⟩ (fun v => Q (.ret v)) r) : WF PP w0 Kz [(.agg ⟨[(.string x0.az), (.string x0.aA), (vi x0.fArgs), (vi x0.aw), (vi x0.ax), cj, cm]⟩), aK] h Q := by
 refine ab5 _ _ ?_
 have S := Sep.start sg ok
 unfold TF
 unfold Dr at M
 have S : Sep _ g h [.ds ([] : List Nat)] := S.QL
 refine S.box [(.string x0.az), (.string x0.aA), (vi x0.fArgs), (vi x0.aw), (vi x0.ax), cj, cm] rfl (ae rfl (ae rfl (ae rfl (ae rfl (ae rfl (ae bL.one (ae cq.one rfl))))))) (fun jE h S => ?_)
 refine S.box [aK] (oB aM.1) (ae aM.1 rfl) (fun CK h S => ?_)
 refine S.alloc (l := [cZ]) (ae rfl rfl) (fun yL h S => ?_)
 refine cb.2 ?_
 refine S.bQ 2 rfl rfl ?_
 refine bL.len ?_
 obtain ⟨R3, M⟩ := oO M
 refine S.ZN R3 rfl (ae rfl rfl) (fun Dz h S => ?_)
 have IE : aJ (rB g) (List.replicate (x0.ab.length : Int).toNat [(.bool false)]) (List.replicate (x0.ab.length : Int).toNat false) := aJ.Zm (show rB g [(.bool false)] false from rfl) _
 refine S.alloc (l := [cZ]) (ae rfl rfl) (fun b_7 h S => ?_)
 refine S.dk [Dz] [Dz] (oB (S.nS 1 rfl)) rfl (ae (S.nS 1 rfl) rfl) (Nat.le_of_ble_eq_true rfl) rfl (fun h S => ?_)
 refine S.wL [[(vi 0)]] (cG (m := [(vi 0)]) (l2 := [(vi 0)]) rfl rfl (Nat.le_of_ble_eq_true rfl) rfl rfl) rfl (by decide) (wO rfl wN) (ae rfl rfl) (fun IF h S => ?_)
 have A_9 : aJ ((rI .i64) g) [[(vi 0)]] [0] := (aJ.push aJ.nil (show (rI .i64) g [(vi 0)] 0 from rfl))
 refine S.alloc (l := [cZ]) (ae rfl rfl) (fun alX h S => ?_)
 refine S.dk [IF] [IF] (oB (S.nS 1 rfl)) rfl (ae (S.nS 1 rfl) rfl) (Nat.le_of_ble_eq_true rfl) rfl (fun h S => ?_)
 refine S.bQ 2 rfl rfl ?_
 obtain ⟨rZ, Ro, M⟩ := bind_some M
 refine S.yZ 3 rfl IE Ro (fun ao8 ao9 vs Z3 alY rp => ?_)
 cases rp
 have S := S.f3
 refine S.QG (j := 0) [(.bool true)] Z3 alY rfl rfl (ae rfl rfl) (by decide) (fun h S => ?_)
 have alZ : aJ (rB g) ((List.replicate (x0.ab.length : Int).toNat [(.bool false)]).set (0 : Int).toNat [(.bool true)]) ((List.replicate (x0.ab.length : Int).toNat false).set (0 : Int).toNat true) := aJ.set IE (show rB g [(.bool true)] true from rfl) (0 : Int).toNat
 have S : Sep _ g h [.sl 4 1 Dz ((List.replicate (x0.ab.length : Int).toNat [(.bool false)]).set (0 : Int).toNat [(.bool true)]), .bx alX [IF], .sl 3 1 IF [[(vi 0)]], .bx b_7 [Dz], .bx yL [cZ], .bx CK [aK], .bx jE [(.string x0.az), (.string x0.aA), (vi x0.fArgs), (vi x0.aw), (vi x0.ax), cj, cm], .ds ([] : List Nat)] := S
 have S := S.f7
 have S := S.f1
 have S := S.f4
 have S := S.f5
 have S := S.f6
 have S := S.f7
 have S := S.f7
 have S := S.f7
 exact ⟨N, alS  H _ M S A_9 bL cq aM aa.nil alZ ⟩
def uw (x0 : Int) (x1 : Int) (x2 : Int) : Option Bool :=
 some true
abbrev al0 (c : Cx) (R : Value → W) (r : Bool) : Prop := ∀ (g' h' : AH), Sep c g' h' [] → R (.bool r) h'
theorem al1 {w0 : World} {g h : AH} {Q : CR → AH → Prop} {r : Bool} {x0 x1 x2 : Int} (M : uw x0 x1 x2 = some r) (sg : Sub g h) (ok : h.Ok)  (H : al0 ⟨g, h, []⟩ (fun v => Q (.ret v)) r) : WF PP w0 EE [(vi x0), (vi x1), (vi x2)] h Q := by
 refine ab7 _ _ _ ?_
 have S := Sep.start sg ok
 unfold TG
 unfold uw at M
 cases M
 exact H _ _  S.bB
def R4 (N : Nat) (v1 : ah)  : Option ((List Bool)) :=
(Dr N v1 (fun a0 a1 a2 => uw a0 a1 a2)).bind fun gV =>
 some gV
def BX (N : Nat) (x0 : ah) : Option ((List Bool)) :=
(uf N x0).bind fun aP =>
 bif (!aP) then (
 some ([] : List Bool)) else (
 R4 N x0)
abbrev aaH (c : Cx) (R : Value → W) (r : (List Bool)) : Prop := ∀ (g' h' : AH) (w1 : Value), Sep c g' h' [] → aa rB 1 g' w1 r → R w1 h'
theorem al2 {w0 : World} {c : Cx} {g h : AH} {E R : Value → W} {r : (List Bool)} {N : Nat} {v1 : ah} {ak : Nat} {ar au : Value}  (M : R4 N v1 = some r) (S : Sep c g h [.bx ak [(.string v1.az), (.string v1.aA), (vi v1.fArgs), (vi v1.aw), (vi v1.ax), ar, au]]) (av : aa aq.rep 4 g ar v1.ab) (ay : aa aB.rep 3 g au v1.aD)  (H : aaH c R r) : KA w0 E R (aC ak 0) h := by
 unfold KA
 unfold R4 at M
 refine S.cL [(.string v1.az), (.string v1.aA), (vi v1.fArgs), (vi v1.aw), (vi v1.ax), ar, au] 0 rfl rfl rfl (by decide) ?_
 have Rl : kS w0 g (fc EE) (fun a0 a1 a2 => uw a0 a1 a2) := ⟨rfl, fun a0 a1 a2 r E K g2 h2 s1 s2 s3  m1 k1 => al1 m1 s2 s3 k1⟩
 obtain ⟨gV, oV, M⟩ := bind_some M
 refine alW oV S.sub S.ok av ay Rl (fun g h w_7 S1 R5 => ?_)
 have av := aa.mono av aq.mono S1.bX
 have ay := aa.mono ay aB.mono S1.bX
 have S := S.mc S1
 cases M
 exact H _ _ w_7 S.bB R5
theorem ahz {w0 : World} {g h : AH} {Q : CR → AH → Prop} {r : (List Bool)} {N : Nat} {x0 : ah} {cj cm : Value} (M : BX N x0 = some r) (sg : Sub g h) (ok : h.Ok) (bL : aa aq.rep 4 g cj x0.ab) (cq : aa aB.rep 3 g cm x0.aD) (H : aaH ⟨g, h, []⟩ (fun v => Q (.ret v)) r) : WF PP w0 KB [(.agg ⟨[(.string x0.az), (.string x0.aA), (vi x0.fArgs), (vi x0.aw), (vi x0.ax), cj, cm]⟩)] h Q := by
 refine ab8 _ ?_
 have S := Sep.start sg ok
 unfold TH
 unfold BX at M
 refine S.box [(.string x0.az), (.string x0.aA), (vi x0.fArgs), (vi x0.aw), (vi x0.ax), cj, cm] rfl (ae rfl (ae rfl (ae rfl (ae rfl (ae rfl (ae bL.one (ae cq.one rfl))))))) (fun jE h S => ?_)
 refine S.cL [(.string x0.az), (.string x0.aA), (vi x0.fArgs), (vi x0.aw), (vi x0.ax), cj, cm] 0 rfl rfl rfl (by decide) ?_
 obtain ⟨aP, gE, M⟩ := bind_some M
 refine Ic gE S.sub S.ok bL cq (fun _ h  S1  => ?_)
 have S := S.cW S1
 refine fE.2 ?_
 refine bz (fun hc => ?_) (fun hc => ?_)
 · have M := aV hc M
   cases M
   exact H _ _ cZ S.bB aa.nil
 · have M := aW hc M
   exact al2 M S bL cq H
end
end Go.Ve.T
