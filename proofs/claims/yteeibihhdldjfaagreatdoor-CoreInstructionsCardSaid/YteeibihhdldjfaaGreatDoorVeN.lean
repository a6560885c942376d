/- Part 14: VEval, part 35: functions that are known by a contract; closed calls that give constants. No condition. And what follows it. -/
import Derived.Test.YteeibihhdldjfaaGreatDoorVeM
import Derived.Lib.Join
import Derived.Lib.ItoaNum
import Derived.Lib.Atoi
set_option linter.unusedVariables false
set_option linter.unusedSimpArgs false
namespace Go.Ve
open Go.RowKit
theorem HR.behind {P : Program} {w0 w w' : World} {φ : aK} {h : AH} (H : HR P w0 φ h w) (hb : Below w.heap.size w w') : HR P w0 φ h w' := by
 refine ⟨H.inj, H.fresh, H.top, H.dead, fun f b d n hf => ?_, ?_⟩
 · obtain ⟨o, o', a1, a2, a3⟩ := H.obj f b d n hf
   exact ⟨o, o', a1, by rw [hb.block b (Array.getElem?_eq_some_iff.1 a2).1]; exact a2, a3⟩
 · have h1 := H.below
   exact ⟨hb.os.trans h1.os, hb.tape.trans h1.tape, hb.output.trans h1.output, Nat.le_trans h1.size (Nat.le_trans (by simp) hb.size), fun k hk => by rw [hb.block k (Nat.lt_of_lt_of_le hk h1.size)]; exact h1.block k hk⟩
theorem BB {P : Program} {w0 : World} {f : FuncId} {S : List Value → AH → (CR → AH → Bool) → Bool} (gS : Can P f)
 (hS : ∀ args h k φ args' w, S args h k = true → LR φ args args'.toList → HR P w0 φ h w → ∃ v c, VR φ v c ∧ k (.ret v) h = true ∧ Calls P f args' w fun E w' => E = .returned c ∧ Below w.heap.size w w') :
 ∀ (args : List Value) (h : AH) (k : CR → AH → Bool), S args h k = true → gR P w0 f args h k := by
 intro args h k e
 refine ⟨gS, fun φ args' w hl H => ?_⟩
 obtain ⟨v, c, h1, h2, h3⟩ := hS args h k φ args' w e hl H
 refine Calls.mono h3 fun E w' hE => ?_
 exact ⟨.ret v, h, φ, h2, Ext.refl _ _, Nat.le_refl _, H.behind hE.2, c, hE.1, h1⟩
def yy : Value → Value → Bool
 | .bool a, .bool b => bif a then b else !b
 | .int k a, .int l b => fM k l && kN a b
 | .string a, .string b => jZ a.data.toList b.data.toList
 | .nilIface, .nilIface => true
 | _, _ => false
def GR : List Value → List Value → Bool
 | [], [] => true
 | a :: l, b :: m => yy a b && GR l m
 | _, _ => false
def GS : Value → Value → Bool
 | .agg ⟨l⟩, .agg ⟨m⟩ => GR l m
 | a, b => yy a b
def BC : List Value → List Value → Bool
 | [], [] => true
 | a :: l, b :: m => GS a b && BC l m
 | _, _ => false
def vv : Value → Value → Bool
 | .agg ⟨l⟩, .agg ⟨m⟩ => BC l m
 | .tuple ⟨l⟩, .tuple ⟨m⟩ => BC l m
 | a, b => yy a b
def Plain (a b : Value) : Prop := ∀ φ, VR φ a b ∧ ∀ v, VR φ a v → v = b
def rQ (l m : List Value) : Prop := ∀ φ, LR φ l m ∧ ∀ l', LR φ l l' → l' = m
theorem rQ.nil : rQ [] [] := fun φ => ⟨.nil, fun l' h => by cases h; rfl⟩
theorem rQ.cons {a b : Value} {l m : List Value} (h : Plain a b) (hl : rQ l m) : rQ (a :: l) (b :: m) := fun φ =>
 ⟨.cons _ _ _ _ (h φ).1 (hl φ).1, fun l' h' => by
  cases h' with | cons _ v _ l2 h1 h2 => rw [(h φ).2 v h1, (hl φ).2 l2 h2]⟩
theorem Xn : ∀ {a b : List UInt8}, jZ a b = true → a = b
 | [], [], _ => rfl
 | x :: l, y :: m, h => by
  have h' : (bif Nat.beq x.toNat y.toNat then jZ l m else false) = true := h
  cases hx : Nat.beq x.toNat y.toNat with
  | false => rw [hx] at h'; cases h'
  | true =>
   rw [hx, cond_true] at h'
   rw [Xn h', UInt8.toNat_inj.1 (Nat.eq_of_beq_eq_true hx)]
 | [], _ :: _, h => by cases h
 | _ :: _, [], h => by cases h
theorem Oc {a b : Value} (h : yy a b = true) : Plain a b := by
 unfold yy at h
 split at h
 · rename_i a b
   have : a = b := by cases a <;> cases b <;> simp_all
   subst this
   exact fun φ => ⟨.bool _, fun v hv => hv.pO⟩
 · rename_i k a l b
   rw [Bool.and_eq_true] at h
   obtain rfl := mW h.1
   obtain rfl : a = b := by have := h.2; rw [rf] at this; simpa using this
   exact fun φ => ⟨.int _ _, fun v hv => hv.gM⟩
 · rename_i a b
   have h1 := Xn h
   have : a = b := by
    apply ByteArray.ext
    exact Array.toList_inj.1 h1
   subst this
   exact fun φ => ⟨.str _, fun v hv => hv.jB⟩
 · exact fun φ => ⟨.xJ, fun v hv => by cases hv; rfl⟩
 · cases h
theorem Xo : ∀ {l m : List Value}, GR l m = true → rQ l m
 | [], [], _ => .nil
 | a :: l, b :: m, h => by
  have h' : (yy a b && GR l m) = true := h
  rw [Bool.and_eq_true] at h'
  exact .cons (Oc h'.1) (Xo h'.2)
 | [], _ :: _, h => by cases h
 | _ :: _, [], h => by cases h
theorem Plain.agg {l m : List Value} (h : rQ l m) : Plain (.agg ⟨l⟩) (.agg ⟨m⟩) := fun φ => ⟨.agg _ _ (h φ).1, fun v hv => by
 obtain ⟨a', rfl, h'⟩ := hv.vw
 have := (h φ).2 _ h'
 cases a'; simp_all⟩
theorem Plain.gg {l m : List Value} (h : rQ l m) : Plain (.tuple ⟨l⟩) (.tuple ⟨m⟩) := fun φ => ⟨.gg _ _ (h φ).1, fun v hv => by
 obtain ⟨a', rfl, h'⟩ := hv.Xp
 have := (h φ).2 _ h'
 cases a'; simp_all⟩
theorem agl {a b : Value} (h : GS a b = true) : Plain a b := by
 unfold GS at h
 split at h
 · exact .agg (Xo h)
 · exact Oc h
theorem Od : ∀ {l m : List Value}, BC l m = true → rQ l m
 | [], [], _ => .nil
 | a :: l, b :: m, h => by
  have h' : (GS a b && BC l m) = true := h
  rw [Bool.and_eq_true] at h'
  exact .cons (agl h'.1) (Od h'.2)
 | [], _ :: _, h => by cases h
 | _ :: _, [], h => by cases h
theorem BD {a b : Value} (h : vv a b = true) : Plain a b := by
 unfold vv at h
 split at h
 · exact .agg (Od h)
 · exact .gg (Od h)
 · exact Oc h
def Oe (c : Value) (r : CR) (_ : AH) : Bool := CR.casesOn (motive := fun _ => Bool) r (fun v => vv v c) (fun _ => false)
theorem agm {P : Program} (bE : P.follows .mixedOrders = true) {prog : NT ia} (oP : ∀ f af, prog.get f = some af → bT P f = some af) {sums : ry} {w : World} (NP : Gg P w sums) {n : Nat} {f : FuncId} {args : List Value} {args' : Array Value} {c : Value}
 (h : ev prog sums n (.call f args ⟨0, .e⟩ (Oe c)) = true) (hl : LR (fun _ => none) args args'.toList) : Can P f ∧ Calls P f args' w fun E w' => E = .returned c ∧ Below w.heap.size w w' := by
 have hC : gR P w f args ⟨0, .e⟩ (Oe c) := Wu bE oP NP n _ h
 refine ⟨hC.1, Calls.mono (hC.2 (fun _ => none) args' w hl (HR.bare P w)) fun E w' hR => ?_⟩
 obtain ⟨r, h', φ', h1, h2, h3, h4, h5⟩ := hR
 cases r with
 | aP v => cases h1
 | ret v =>
  obtain ⟨v', rfl, hv⟩ := h5
  exact ⟨by rw [(BD h1 φ').2 v' hv], h4.below⟩
end Go.Ve
namespace Go.Ve
open Go.RowKit
noncomputable section
def BE (f : Nat) (n : Nat) (acc : List UInt8) (k : List UInt8 → Bool) : Bool := match f with
 | 0 => false
 | f + 1 => bif Nat.ble 10 n then fN (Nat.div n 10) fun q => BE f q (UInt8.ofNat (Nat.add 48 (Nat.mod n 10)) :: acc) k else k (UInt8.ofNat (Nat.add 48 n) :: acc)
def Xq (vs : List Value) (h : AH) (k : CR → AH → Bool) : Bool := a1 vs fun v => kp v fun kd n => iff (fM kd .i64) (match n with
 | .ofNat a => iff (Nat.ble a 9223372036854775807) (BE 25 a [] fun l => k (.ret (.string ⟨⟨l⟩⟩)) h)
 | .negSucc a => iff (Nat.ble a 9223372036854775807) (fN (Nat.succ a) fun a => BE 25 a [] fun l => k (.ret (.string ⟨⟨45 :: l⟩⟩)) h))
def Xr (vs : List Value) (h : AH) (k : CR → AH → Bool) : Bool := a1 vs fun v => iW v fun s => iff (Nat.ble s.data.toList.length 18) (match Go.Lib.atoi s.data.toList with
 | some n => fI n fun n => k (.ret (.tuple ⟨[.int .i64 n, .nilIface]⟩)) h
 | none => false)
def GU (sep : List UInt8) : List Value → (List UInt8 → Bool) → Bool
 | [], k => k []
 | [v], k => iW v fun s => k s.data.toList
 | v :: l, k => iW v fun s => GU sep l fun m => rE sep m fun m => rE s.data.toList m k
def Xs (vs : List Value) (h : AH) (k : CR → AH → Bool) : Bool := a2 vs fun v s => iW s fun sep => kq v false fun b o n c => iff (Nat.ble 1 n && Nat.ble n 65536) (ln h b o n fun l => GU sep.data.toList l fun m => iff (Nat.ble m.length 1048576) (k (.ret (.string ⟨⟨m⟩⟩)) h))
theorem Of : ∀ (f n : Nat) {acc : List UInt8} {k : List UInt8 → Bool}, BE f n acc k = true → k (Lib.decDigits n ++ acc) = true
 | 0, n, acc, k, h => by cases h
 | f + 1, n, acc, k, h => by
  have h1 : (bif Nat.ble 10 n then fN (Nat.div n 10) fun q => BE f q (UInt8.ofNat (Nat.add 48 (Nat.mod n 10)) :: acc) k else k (UInt8.ofNat (Nat.add 48 n) :: acc)) = true := h
  by_cases hn : 10 ≤ n
  · rw [show Nat.ble 10 n = true from Nat.ble_eq_true_of_le hn, cond_true, ch] at h1
    have h2 : k (Lib.decDigits (n / 10) ++ (UInt8.ofNat (48 + n % 10) :: acc)) = true := Of f _ h1
    rw [Lib.decDigits, dif_neg (by omega)]
    simpa using h2
  · rw [show Nat.ble 10 n = false by rw [sL]; simpa using hn, cond_false] at h1
    rw [Lib.decDigits, dif_pos (by omega)]
    exact h1
theorem agn {P : Program} {w0 : World} {f : FuncId} (gS : Can P f)
 (hI : ∀ (n : Int) (w : World), -9223372036854775808 ≤ n → n ≤ 9223372036854775807 → Below w0.heap.size w0 w → Calls P f #[.int .i64 n] w fun e w' => e = .returned (.string ⟨(Lib.itoa n).toArray⟩) ∧ Below w.heap.size w w') :
 ∀ (args : List Value) (h : AH) (k : CR → AH → Bool), Xq args h k = true → gR P w0 f args h k := by
 refine BB gS fun args h k φ args' w e hl H => ?_
 obtain ⟨L, hL⟩ : ∃ L, args'.toList = L := ⟨_, rfl⟩
 rw [hL] at hl
 obtain ⟨v, rfl, e1⟩ := eJ e
 obtain ⟨kd, n, rfl, e2⟩ := mj e1
 obtain ⟨e3, e4⟩ := cj e2
 obtain rfl := mW e3
 have jS : args' = #[.int .i64 n] := by
  cases hl with | cons _ v' _ l' h1 h2 => cases h2; apply Array.ext'; rw [hL, h1.gM]
 subst jS
 refine ⟨.string ⟨(Lib.itoa n).toArray⟩, _, .str _, ?_, hI n w ?_ ?_ H.below⟩
 · cases n with
   | ofNat a =>
    obtain ⟨e5, e6⟩ := cj e4
    have := Of _ _ e6
    rw [List.append_nil] at this
    rw [show Lib.itoa (Int.ofNat a) = Lib.decDigits a by unfold Lib.itoa; rw [if_neg (by have := Int.natCast_nonneg a; exact Int.not_lt.2 this)]; rfl]
    exact this
   | negSucc a =>
    obtain ⟨e5, e6⟩ := cj e4
    rw [ch] at e6
    have := Of _ _ e6
    rw [List.append_nil] at this
    rw [show Lib.itoa (Int.negSucc a) = 45 :: Lib.decDigits (a + 1) by unfold Lib.itoa; rw [if_pos (by omega)]; rfl]
    exact this
 · cases n with
   | ofNat a => have := Int.natCast_nonneg a; show -9223372036854775808 ≤ (a : Int); omega
   | negSucc a => have := Nat.le_of_ble_eq_true (cj e4).1; omega
 · cases n with
   | ofNat a => have := Nat.le_of_ble_eq_true (cj e4).1; show (a : Int) ≤ 9223372036854775807; omega
   | negSucc a => omega
theorem ago {P : Program} {w0 : World} {f : FuncId} (gS : Can P f)
 (hI : ∀ (s : ByteArray) (n : Int) (w : World), s.size ≤ 18 → Lib.atoi s.data.toList = some n → Calls P f #[.string s] w fun e w' => e = .returned (.tuple #[.int .i64 n, .nilIface]) ∧ Below w.heap.size w w') :
 ∀ (args : List Value) (h : AH) (k : CR → AH → Bool), Xr args h k = true → gR P w0 f args h k := by
 refine BB gS fun args h k φ args' w e hl H => ?_
 obtain ⟨L, hL⟩ : ∃ L, args'.toList = L := ⟨_, rfl⟩
 rw [hL] at hl
 obtain ⟨v, rfl, e1⟩ := eJ e
 obtain ⟨s, rfl, e2⟩ := kJ e1
 obtain ⟨e3, e4⟩ := cj e2
 have jS : args' = #[.string s] := by
  cases hl with | cons _ v' _ l' h1 h2 => cases h2; apply Array.ext'; rw [hL, h1.jB]
 subst jS
 split at e4
 · rename_i n hn
   rw [oQ] at e4
   exact ⟨_, _, .gg ⟨[.int .i64 n, .nilIface]⟩ #[.int .i64 n, .nilIface] (.cons _ _ _ _ (.int _ _) (.cons _ _ _ _ .xJ .nil)), e4, hI s n w (by have := Nat.le_of_ble_eq_true e3; simpa using this) hn⟩
 · cases e4
theorem Og : ∀ (l m : List UInt8) {k : List UInt8 → Bool}, rE l m k = true → k (l ++ m) = true
 | [], m, k, h => h
 | x :: l, m, k, h => Og l m (show rE l m (fun l' => k (x :: l')) = true from h)
theorem Xt (sep : List UInt8) : ∀ (l : List Value) {k : List UInt8 → Bool}, GU sep l k = true → ∃ xs : List ByteArray, l = xs.map .string ∧ k (Lib.join (xs.map (·.data.toList)) sep) = true
 | [], k, h => ⟨[], rfl, h⟩
 | [v], k, h => by
  obtain ⟨s, rfl, e⟩ := kJ (show iW v _ = true from h)
  exact ⟨[s], rfl, by rw [List.map_cons, List.map_nil, Lib.join_one]; exact e⟩
 | v :: y :: l, k, h => by
  obtain ⟨s, rfl, e⟩ := kJ (show iW v (fun s => GU sep (y :: l) fun m => rE sep m fun m => rE s.data.toList m k) = true from h)
  obtain ⟨xs, h1, h2⟩ := Xt sep (y :: l) e
  have h3 := Og _ _ (Og _ _ h2)
  refine ⟨s :: xs, by rw [h1]; rfl, ?_⟩
  rw [List.map_cons]
  cases xs with
  | nil => cases h1
  | cons x r =>
   rw [List.map_cons, Lib.join_cons] at h3
   rw [List.map_cons, Lib.join_cons]
   simpa [Lib.joinTail] using h3
theorem agp {P : Program} {w0 : World} {f : FuncId} (gS : Can P f)
 (hJ : ∀ (bk o c : Nat) (xs : List ByteArray) (sep : ByteArray) (w : World), (∀ (j : Nat) x, xs[j]? = some x → w.cell? ⟨bk, o + j, none⟩ = some (.string x)) → bk < w.heap.size → xs.length ≤ 140737488355328 → xs.length ≤ c → (Lib.join (xs.map (·.data.toList)) sep.data.toList).length ≤ 140737488355328 →
  Calls P f #[.slice (some ⟨bk, o, none⟩) xs.length c, .string sep] w fun e w' => e = .returned (.string ⟨(Lib.join (xs.map (·.data.toList)) sep.data.toList).toArray⟩) ∧ Below w.heap.size w w') :
 ∀ (args : List Value) (h : AH) (k : CR → AH → Bool), Xs args h k = true → gR P w0 f args h k := by
 refine BB gS fun args h k φ args' w e hl H => ?_
 obtain ⟨L, hL⟩ : ∃ L, args'.toList = L := ⟨_, rfl⟩
 rw [hL] at hl
 obtain ⟨v, s, rfl, e1⟩ := gQ e
 obtain ⟨sep, rfl, e2⟩ := kJ e1
 rcases oI e2 with ⟨l0, c0, _, e3⟩ | ⟨a, len, cap, rfl, e3⟩
 · cases e3
 obtain ⟨e4, e5⟩ := cj e3
 simp only [Bool.and_eq_true] at e4
 have UK := Nat.le_of_ble_eq_true e4.1
 have xV := Nat.le_of_ble_eq_true e4.2
 obtain ⟨lo, hi, ty, ml, cc, l, g1, g2, g3, g4, g5, g6⟩ := sM e5
 obtain ⟨xs, rfl, e6⟩ := Xt _ _ g6
 obtain ⟨e7, e8⟩ := cj e6
 have e7 := Nat.le_of_ble_eq_true e7
 cases hl with
 | cons _ v1 _ l1 h1 h2 =>
  cases h2 with
  | cons _ v2 _ l2 h3 h4 =>
   cases h4
   obtain ⟨a', c', rfl, hs, iu⟩ := h1.nL
   obtain rfl := h3.jB
   have cN : AtR φ a a' ∧ len ≤ c' := by
    rcases iu with ⟨_, h2, h3, h4⟩ | ⟨_, _, _, h3, h4⟩
    · exact ⟨h4 (by omega), by omega⟩
    · exact ⟨(h4 (by omega)).1, h3⟩
   rw [List.length_map] at g4
   obtain ⟨b, d, arr, fr, p1, p2, p3, p4, p5, p6, p7, p8⟩ := H.at hs cN.1 g1
   have vx : a' = ⟨b, a'.off, none⟩ := by cases a'; simp_all
   have jS : args' = #[.slice (some ⟨b, a'.off, none⟩) xs.length c', .string sep] := by apply Array.ext'; rw [hL, g4, ← vx]
   subst jS
   refine ⟨_, _, .str _, e8, hJ b a'.off c' xs sep w (fun j x hj => ?_) (Array.getElem?_eq_some_iff.1 p5).1 (by omega) (by omega) (by omega)⟩
   have uP := (List.getElem?_eq_some_iff.1 hj).1
   obtain ⟨v', q1, q2⟩ := H.cell hs cN.1 g1 (j := j) (by omega) (by omega) (g5 j (.string x) (by simp [hj]))
   rw [lU a' p4, p2] at q1
   rw [q1, q2.jB]
end
end Go.Ve
namespace Go.Ve.T
open Go.Ve Go.Proofs Go.RowKit
noncomputable section
set_option maxRecDepth 20000
theorem AH.ahK {h : AH} {b o n : Nat} {l : List Value} (hn : l.length = n) (H : h.can b o n) : (h.wr b o l).bU b o l := fun i v hv => by
 have hi : i < l.length := (List.getElem?_eq_some_iff.1 hv).1
 subst hn
 rw [AH.yD H (Nat.le_refl _), if_pos ⟨rfl, by omega, by omega⟩, Nat.add_sub_cancel_left]; exact hv
def FT : List (List Value) := [[(bs []), vi 0, vi 0, vi 0, vi 0, vi 0, vi 0, .bool false, .bool false],
[(bs [105, 110, 116]), vi 1, vi 4, vi 0, vi 1, vi 0, vi 0, .bool false, .bool false],
[(bs [98, 111, 111, 108]), vi 1, vi 5, vi 0, vi 1, vi 0, vi 0, .bool false, .bool false],
[(bs [118, 111, 105, 100]), vi 1, vi 0, vi 0, vi 1, vi 0, vi 0, .bool false, .bool false],
[(bs [109, 111, 118, 101]), vi 1, vi 1, vi 0, vi 1, vi 2, vi 0, .bool false, .bool false],
[(bs [115, 101, 108, 102]), vi 1, vi 0, vi 0, vi 1, vi 0, vi 0, .bool false, .bool false],
[(bs [97, 100, 100]), vi 1, vi 1, vi 1, vi 1, vi 2, vi 3, .bool true, .bool false],
[(bs [115, 117, 98]), vi 1, vi 1, vi 1, vi 1, vi 2, vi 3, .bool true, .bool false],
[(bs [109, 117, 108]), vi 1, vi 1, vi 1, vi 1, vi 2, vi 3, .bool true, .bool false],
[(bs [100, 105, 118]), vi 1, vi 1, vi 1, vi 1, vi 2, vi 3, .bool true, .bool false],
[(bs [109, 111, 100]), vi 1, vi 1, vi 1, vi 1, vi 2, vi 3, .bool true, .bool false],
[(bs [110, 101, 103]), vi 1, vi 1, vi 0, vi 1, vi 2, vi 0, .bool false, .bool false],
[(bs [101, 113]), vi 1, vi 1, vi 1, vi 1, vi 2, vi 3, .bool false, .bool false],
[(bs [108, 101, 115, 115]), vi 1, vi 1, vi 1, vi 1, vi 2, vi 3, .bool false, .bool false],
[(bs [109, 111, 115, 116]), vi 1, vi 1, vi 1, vi 1, vi 2, vi 3, .bool false, .bool false],
[(bs [110, 111, 116]), vi 1, vi 1, vi 0, vi 1, vi 2, vi 0, .bool false, .bool false],
[(bs [104, 97, 115]), vi 1, vi 1, vi 0, vi 1, vi 2, vi 0, .bool false, .bool false],
[(bs [103, 101, 116]), vi 1, vi 2, vi 7, vi 1, vi 2, vi 0, .bool true, .bool false],
[(bs [115, 101, 116]), vi 7, vi 1, vi 0, vi 0, vi 2, vi 0, .bool false, .bool false],
[(bs [97, 114, 103]), vi 6, vi 1, vi 0, vi 0, vi 2, vi 0, .bool false, .bool false],
[(bs [99, 97, 108, 108]), vi 2, vi 2, vi 8, vi 1, vi 2, vi 0, .bool true, .bool false],
[(bs [110, 101, 119]), vi 1, vi 10, vi 5, vi 1, vi 0, vi 0, .bool true, .bool false],
[(bs [109, 97, 107, 101]), vi 1, vi 9, vi 0, vi 0, vi 1, vi 0, .bool true, .bool false],
[(bs [105, 110, 118]), vi 2, vi 0, vi 0, vi 0, vi 1, vi 0, .bool true, .bool false],
[(bs [106, 117, 109, 112]), vi 3, vi 0, vi 0, vi 0, vi 0, vi 0, .bool false, .bool true],
[(bs [102, 97, 108, 115, 101]), vi 1, vi 3, vi 0, vi 0, vi 1, vi 0, .bool false, .bool false],
[(bs [114, 97, 105, 115, 101]), vi 11, vi 0, vi 0, vi 0, vi 0, vi 0, .bool true, .bool true],
[(bs [102, 97, 105, 108]), vi 0, vi 0, vi 0, vi 0, vi 0, vi 0, .bool true, .bool true],
[(bs [114, 101, 116]), vi 2, vi 0, vi 0, vi 0, vi 1, vi 0, .bool false, .bool true],
[(bs [112, 117, 116]), vi 1, vi 0, vi 0, vi 0, vi 1, vi 0, .bool false, .bool false],
[(bs [101, 110, 116, 101, 114]), vi 1, vi 0, vi 0, vi 0, vi 1, vi 0, .bool true, .bool false],
[(bs [108, 101, 97, 118, 101]), vi 0, vi 0, vi 0, vi 0, vi 0, vi 0, .bool false, .bool false],
[(bs [97, 103, 97, 105, 110]), vi 1, vi 3, vi 0, vi 0, vi 1, vi 0, .bool true, .bool false],
[(bs [108, 111, 97, 100]), vi 1, vi 12, vi 0, vi 1, vi 0, vi 0, .bool false, .bool false],
[(bs [115, 116, 111, 114, 101]), vi 12, vi 1, vi 0, vi 0, vi 2, vi 0, .bool false, .bool false]]
def isOp (op : Int) : Bool := decide (1 ≤ op ∧ op ≤ 34)
def qv (op : Int) : List Value := if isOp op then FT.getD op.toNat [] else FT.getD 0 []
theorem B5 {op : Int} (h : isOp op = true) : op = 1 ∨ op = 2 ∨ op = 3 ∨ op = 4 ∨ op = 5 ∨ op = 6 ∨ op = 7 ∨ op = 8 ∨ op = 9 ∨ op = 10 ∨ op = 11 ∨ op = 12 ∨ op = 13 ∨ op = 14 ∨ op = 15 ∨ op = 16 ∨ op = 17 ∨ op = 18 ∨ op = 19 ∨ op = 20 ∨ op = 21 ∨ op = 22 ∨ op = 23 ∨ op = 24 ∨ op = 25 ∨ op = 26 ∨ op = 27 ∨ op = 28 ∨ op = 29 ∨ op = 30 ∨ op = 31 ∨ op = 32 ∨ op = 33 ∨ op = 34 := by
 unfold isOp at h; rw [decide_eq_true_eq] at h; omega
def PM : NT ia := NT.e.set 120 (some (aF 120))
theorem ahL : ∀ f af, PM.get f = some af → bT PP f = some af := fun f af h => by
 unfold PM at h
 rw [NT.dc] at h
 split at h
 · have := Option.some.inj h; subst this; subst f; exact ahM
 · cases h
theorem ahN : ev PM [] 100000 (.call 120 [] ⟨0, .e⟩ (Oe (.agg ⟨FT.flatten⟩))) = true := by kernel_rfl
section
variable {w0 : World} {h : AH} {Q : CR → AH → Prop}
open Classical in
theorem Yr (H : ∀ h', dv h h' → (h.Ok → h'.Ok) → Q (.ret (.agg ⟨FT.flatten⟩)) h') : WF PP w0 SV [] h Q := by
 have hC : ∀ w, Can PP 120 ∧ Calls PP 120 #[] w fun E w' => E = .returned (.agg ⟨FT.flatten⟩) ∧ Below w.heap.size w w' := fun w => agm bE ahL (sums := []) (fun p hp => by cases hp) ahN .nil
 have hp : vv (.agg ⟨FT.flatten⟩) (.agg ⟨FT.flatten⟩) = true := by kernel_rfl
 refine ⟨(hC w0).1, fun φ args' w hl hh => ?_⟩
 have : args' = #[] := by
  cases gB : args'.toList with
  | nil => simpa using gB
  | cons _ _ => rw [gB] at hl; cases hl
 subst this
 exact Calls.mono (hC w).2 fun E w' hE => ⟨_, h, φ, decide_eq_true (H h (.refl h) id), Ext.refl _ _, Nat.le_refl _, hh.behind hE.2, _, hE.1, (BD hp φ).1⟩
theorem Ys {sz : Nat} : ∀ {l : List (List Value)} {i : Nat} {x : List Value}, (∀ x ∈ l, x.length = sz) → l[i]? = some x → (l.flatten.drop (i * sz)).take sz = x
 | [], i, x, _, e => by simp at e
 | y :: l, 0, x, hs, e => by
  simp at e; subst e
  have := hs y List.mem_cons_self
  rw [Nat.zero_mul, List.drop_zero, List.flatten_cons, List.take_append_of_le_length (by omega), ← this, List.take_length]
 | y :: l, i + 1, x, hs, e => by
  have h1 := hs y List.mem_cons_self
  rw [List.flatten_cons, show (i + 1) * sz = y.length + i * sz by rw [h1, Nat.add_mul]; omega, List.drop_append, List.drop_of_length_le (by omega), List.nil_append, Nat.add_sub_cancel_left]
  exact Ys (fun x hx => hs x (List.mem_cons_of_mem _ hx)) (by simpa using e)
theorem ahO {h h' : AH} (K : dv h h') {b o n : Nat} (hb : b < h.nx) : h'.can b o n ↔ h.can b o n := by unfold AH.can; rw [K.get b hb]
theorem Yt {i : Nat} (hi : i < 35) : ∃ x, FT[i]? = some x ∧ FT.getD i [] = x ∧ x.length = 9 ∧ di x = true := by
 have hl : FT.length = 35 := by kernel_rfl
 have h1 : FT.all (fun x => decide (x.length = 9) && di x) = true := by kernel_rfl
 have hx : FT[i]? = some FT[i] := List.getElem?_eq_getElem (by omega)
 have h2 := List.all_eq_true.1 h1 FT[i] (List.getElem_mem (by omega))
 rw [Bool.and_eq_true, decide_eq_true_eq] at h2
 exact ⟨_, hx, by rw [List.getD, hx]; rfl, h2.1, h2.2⟩
theorem Yu (op : Int) (H : ∀ h', dv h h' → (h.Ok → h'.Ok) → Q (.ret (.tuple ⟨[.agg ⟨qv op⟩, .bool (isOp op)]⟩)) h') : WF PP w0 qL [vi op] h Q := by
 refine abF _ ?_
 unfold SW
 refine (BJ rfl).2 ?_
 refine fW.2 ?_
 by_cases hi : isOp op = true
 · have dS : 1 ≤ op ∧ op ≤ 34 := by unfold isOp at hi; rwa [decide_eq_true_eq] at hi
   have e1 : decide (op < 1) = false := decide_eq_false (by omega)
   have e2 : decide (34 < op) = false := decide_eq_false (by omega)
   simp only [e1, e2, EA, pr, ld, pn, OB, OC, OD, OE, OF, OL, OM, OG, OH, OI, OJ, OK, ck, yE, bf, cond_true, cond_false, bg, az, O2, lX (show 0 < 2 by decide), lX (show 0 < 3 by decide), lX (show 0 < 4 by decide), lX (show 0 < 7 by decide), lX (show 0 < 9 by decide), O3, Hm, O4, AH.OZ, AH.OY, AH.G5, AH.On, AH.Hl, AH.O0, AH.mz, if_true, if_false, Nat.zero_add, Nat.add_zero, Nat.reduceAdd, bH, bI, bJ, bK, Pc, Pd, Pe, Pf, List.getElem?_cons_zero, List.getElem?_cons_succ, Option.some.injEq, exists_eq_left', Option.bind_some, Option.map_some, cI, tx, fW, nr, oe, oV, ec, OA, Hd, decide_true, decide_false, Bool.not_true, Bool.not_false, Nat.left_eq_add, Nat.add_eq_zero_iff, Nat.add_eq_left, Nat.add_eq_right, Nat.reduceEqDiff, Nat.one_ne_zero, and_false, false_and, true_and, and_true, List.length_cons, List.length_nil, Nat.reduceLeDiff, Nat.le_refl, Nat.not_lt_zero, Nat.lt_irrefl, reduceCtorEq, Pg, tB, O5, O6, O7, O8, O9, Pa, Pb, Bool.and_self, Bool.and_true, Bool.true_and, da, Hn, Pl, kQ, kP, List.take_zero, List.take_succ_cons, List.drop_zero, List.drop_succ_cons, List.drop_nil, List.take_nil, and_self, ↓reduceIte, List.flatMap_cons, List.flatMap_nil, List.cons_append, List.nil_append, List.append_nil, BJ, G8, Nat.sub_zero, Nat.reduceSub, Nat.reduceLT, AH.O1, Nat.zero_le]
   unfold SU
   refine Yr fun h' K ok => ?_
   obtain ⟨k, hk⟩ : ∃ k : Nat, op = k := ⟨op.toNat, by omega⟩
   subst hk
   obtain ⟨x, x1, x2, x3, x4⟩ := Yt (i := k) (by omega)
   have nZ : qv (k : Int) = x := by unfold qv; rw [hi, if_pos rfl]; exact x2
   refine (agN (by omega) (by have : FT.flatten.length = 315 := (by kernel_rfl); omega)).2 ?_
   rw [Ys (fun y hy => ?_) x1]
   rotate_left
   · have h1 : FT.all (fun x => decide (x.length = 9)) = true := by kernel_rfl
     exact of_decide_eq_true (List.all_eq_true.1 h1 y hy)
   have hc : h'.can h.nx 0 9 := (ahO K (Nat.lt_succ_self _)).2 (by rw [AH.Hl, if_pos rfl]; exact Nat.le_refl 9)
   refine (Hb hc (show (cellsOf (.agg ⟨x⟩)).length = 9 from x3) x4).2 ?_
   refine (Ha (l := x) (AH.ahK x3 hc) x3 (by decide)).2 ?_
   simp only [nZ, hi] at H
   exact H _ (((dv.new h _ _).trans K).wr (Nat.le_refl _) _ _) (fun o => AH.vG (ok (AH.tr o _ _)) _ _ _)
 · have dS : ¬ (1 ≤ op ∧ op ≤ 34) := by unfold isOp at hi; rwa [decide_eq_true_eq] at hi
   have hf : qv op = [(bs []), vi 0, vi 0, vi 0, vi 0, vi 0, vi 0, .bool false, .bool false] := by unfold qv; rw [if_neg hi]; rfl
   have hb : isOp op = false := by simpa using hi
   by_cases e1 : op < 1
   · simp only [decide_eq_true e1, EA, pr, ld, pn, OB, OC, OD, OE, OF, OL, OM, OG, OH, OI, OJ, OK, ck, yE, bf, cond_true, cond_false, bg, az, O2, lX (show 0 < 2 by decide), lX (show 0 < 3 by decide), lX (show 0 < 4 by decide), lX (show 0 < 7 by decide), lX (show 0 < 9 by decide), O3, Hm, O4, AH.OZ, AH.OY, AH.G5, AH.On, AH.Hl, AH.O0, AH.mz, if_true, if_false, Nat.zero_add, Nat.add_zero, Nat.reduceAdd, bH, bI, bJ, bK, Pc, Pd, Pe, Pf, List.getElem?_cons_zero, List.getElem?_cons_succ, Option.some.injEq, exists_eq_left', Option.bind_some, Option.map_some, cI, tx, fW, nr, oe, oV, ec, OA, Hd, decide_true, decide_false, Bool.not_true, Bool.not_false, Nat.left_eq_add, Nat.add_eq_zero_iff, Nat.add_eq_left, Nat.add_eq_right, Nat.reduceEqDiff, Nat.one_ne_zero, and_false, false_and, true_and, and_true, List.length_cons, List.length_nil, Nat.reduceLeDiff, Nat.le_refl, Nat.not_lt_zero, Nat.lt_irrefl, reduceCtorEq, Pg, tB, O5, O6, O7, O8, O9, Pa, Pb, Bool.and_self, Bool.and_true, Bool.true_and, da, Hn, Pl, kQ, kP, List.take_zero, List.take_succ_cons, List.drop_zero, List.drop_succ_cons, List.drop_nil, List.take_nil, and_self, ↓reduceIte, List.flatMap_cons, List.flatMap_nil, List.cons_append, List.nil_append, List.append_nil, BJ, G8, Nat.sub_zero, Nat.reduceSub, Nat.reduceLT, AH.O1, Nat.zero_le, ic (show kQ [(bs []), (vi 0), (vi 0), (vi 0), (vi 0), (vi 0), (vi 0), (.bool false), (.bool false)] [] [] = some [(bs []), (vi 0), (vi 0), (vi 0), (vi 0), (vi 0), (vi 0), (.bool false), (.bool false)] from rfl)]
     simp only [hf, hb] at H
     exact H _ ((dv.new h _ _).wr (Nat.le_refl _) _ _) (fun o => AH.vG (AH.tr o _ _) _ _ _)
   · have e2 : 34 < op := by omega
     simp only [decide_eq_false e1, decide_eq_true e2, EA, pr, ld, pn, OB, OC, OD, OE, OF, OL, OM, OG, OH, OI, OJ, OK, ck, yE, bf, cond_true, cond_false, bg, az, O2, lX (show 0 < 2 by decide), lX (show 0 < 3 by decide), lX (show 0 < 4 by decide), lX (show 0 < 7 by decide), lX (show 0 < 9 by decide), O3, Hm, O4, AH.OZ, AH.OY, AH.G5, AH.On, AH.Hl, AH.O0, AH.mz, if_true, if_false, Nat.zero_add, Nat.add_zero, Nat.reduceAdd, bH, bI, bJ, bK, Pc, Pd, Pe, Pf, List.getElem?_cons_zero, List.getElem?_cons_succ, Option.some.injEq, exists_eq_left', Option.bind_some, Option.map_some, cI, tx, fW, nr, oe, oV, ec, OA, Hd, decide_true, decide_false, Bool.not_true, Bool.not_false, Nat.left_eq_add, Nat.add_eq_zero_iff, Nat.add_eq_left, Nat.add_eq_right, Nat.reduceEqDiff, Nat.one_ne_zero, and_false, false_and, true_and, and_true, List.length_cons, List.length_nil, Nat.reduceLeDiff, Nat.le_refl, Nat.not_lt_zero, Nat.lt_irrefl, reduceCtorEq, Pg, tB, O5, O6, O7, O8, O9, Pa, Pb, Bool.and_self, Bool.and_true, Bool.true_and, da, Hn, Pl, kQ, kP, List.take_zero, List.take_succ_cons, List.drop_zero, List.drop_succ_cons, List.drop_nil, List.take_nil, and_self, ↓reduceIte, List.flatMap_cons, List.flatMap_nil, List.cons_append, List.nil_append, List.append_nil, BJ, G8, Nat.sub_zero, Nat.reduceSub, Nat.reduceLT, AH.O1, Nat.zero_le, ic (show kQ [(bs []), (vi 0), (vi 0), (vi 0), (vi 0), (vi 0), (vi 0), (.bool false), (.bool false)] [] [] = some [(bs []), (vi 0), (vi 0), (vi 0), (vi 0), (vi 0), (vi 0), (.bool false), (.bool false)] from rfl)]
     simp only [hf, hb] at H
     exact H _ ((dv.new h _ _).wr (Nat.le_refl _) _ _) (fun o => AH.vG (AH.tr o _ _) _ _ _)
end
end
end Go.Ve.T
namespace Go.Ve.T
open Go.Ve Go.Proofs
noncomputable section
set_option maxRecDepth 20000
def amY : List sr := [
⟨bytesOf [], ⟨0, 0, 0⟩, 0, ⟨0, 0⟩, false, false⟩,
⟨bytesOf [105, 110, 116], ⟨1, 4, 0⟩, 1, ⟨0, 0⟩, false, false⟩,
⟨bytesOf [98, 111, 111, 108], ⟨1, 5, 0⟩, 1, ⟨0, 0⟩, false, false⟩,
⟨bytesOf [118, 111, 105, 100], ⟨1, 0, 0⟩, 1, ⟨0, 0⟩, false, false⟩,
⟨bytesOf [109, 111, 118, 101], ⟨1, 1, 0⟩, 1, ⟨2, 0⟩, false, false⟩,
⟨bytesOf [115, 101, 108, 102], ⟨1, 0, 0⟩, 1, ⟨0, 0⟩, false, false⟩,
⟨bytesOf [97, 100, 100], ⟨1, 1, 1⟩, 1, ⟨2, 3⟩, true, false⟩,
⟨bytesOf [115, 117, 98], ⟨1, 1, 1⟩, 1, ⟨2, 3⟩, true, false⟩,
⟨bytesOf [109, 117, 108], ⟨1, 1, 1⟩, 1, ⟨2, 3⟩, true, false⟩,
⟨bytesOf [100, 105, 118], ⟨1, 1, 1⟩, 1, ⟨2, 3⟩, true, false⟩,
⟨bytesOf [109, 111, 100], ⟨1, 1, 1⟩, 1, ⟨2, 3⟩, true, false⟩,
⟨bytesOf [110, 101, 103], ⟨1, 1, 0⟩, 1, ⟨2, 0⟩, false, false⟩,
⟨bytesOf [101, 113], ⟨1, 1, 1⟩, 1, ⟨2, 3⟩, false, false⟩,
⟨bytesOf [108, 101, 115, 115], ⟨1, 1, 1⟩, 1, ⟨2, 3⟩, false, false⟩,
⟨bytesOf [109, 111, 115, 116], ⟨1, 1, 1⟩, 1, ⟨2, 3⟩, false, false⟩,
⟨bytesOf [110, 111, 116], ⟨1, 1, 0⟩, 1, ⟨2, 0⟩, false, false⟩,
⟨bytesOf [104, 97, 115], ⟨1, 1, 0⟩, 1, ⟨2, 0⟩, false, false⟩,
⟨bytesOf [103, 101, 116], ⟨1, 2, 7⟩, 1, ⟨2, 0⟩, true, false⟩,
⟨bytesOf [115, 101, 116], ⟨7, 1, 0⟩, 0, ⟨2, 0⟩, false, false⟩,
⟨bytesOf [97, 114, 103], ⟨6, 1, 0⟩, 0, ⟨2, 0⟩, false, false⟩,
⟨bytesOf [99, 97, 108, 108], ⟨2, 2, 8⟩, 1, ⟨2, 0⟩, true, false⟩,
⟨bytesOf [110, 101, 119], ⟨1, 10, 5⟩, 1, ⟨0, 0⟩, true, false⟩,
⟨bytesOf [109, 97, 107, 101], ⟨1, 9, 0⟩, 0, ⟨1, 0⟩, true, false⟩,
⟨bytesOf [105, 110, 118], ⟨2, 0, 0⟩, 0, ⟨1, 0⟩, true, false⟩,
⟨bytesOf [106, 117, 109, 112], ⟨3, 0, 0⟩, 0, ⟨0, 0⟩, false, true⟩,
⟨bytesOf [102, 97, 108, 115, 101], ⟨1, 3, 0⟩, 0, ⟨1, 0⟩, false, false⟩,
⟨bytesOf [114, 97, 105, 115, 101], ⟨11, 0, 0⟩, 0, ⟨0, 0⟩, true, true⟩,
⟨bytesOf [102, 97, 105, 108], ⟨0, 0, 0⟩, 0, ⟨0, 0⟩, true, true⟩,
⟨bytesOf [114, 101, 116], ⟨2, 0, 0⟩, 0, ⟨1, 0⟩, false, true⟩,
⟨bytesOf [112, 117, 116], ⟨1, 0, 0⟩, 0, ⟨1, 0⟩, false, false⟩,
⟨bytesOf [101, 110, 116, 101, 114], ⟨1, 0, 0⟩, 0, ⟨1, 0⟩, true, false⟩,
⟨bytesOf [108, 101, 97, 118, 101], ⟨0, 0, 0⟩, 0, ⟨0, 0⟩, false, false⟩,
⟨bytesOf [97, 103, 97, 105, 110], ⟨1, 3, 0⟩, 0, ⟨1, 0⟩, true, false⟩,
⟨bytesOf [108, 111, 97, 100], ⟨1, 12, 0⟩, 1, ⟨0, 0⟩, false, false⟩,
⟨bytesOf [115, 116, 111, 114, 101], ⟨12, 1, 0⟩, 0, ⟨2, 0⟩, false, false⟩]
def sr.cells (x : sr) : List Value := [.string x.nB, vi x.dG.e0, vi x.dG.e1, vi x.dG.e2, vi x.iY, vi x.c7.e0, vi x.c7.e1, .bool x.jr, .bool x.iZ]
def Jl : sr := ⟨bytesOf [], ⟨0, 0, 0⟩, 0, ⟨0, 0⟩, false, false⟩
def cU (op : Int) : sr := bif isOp op then amY.getD op.toNat Jl else Jl
theorem amZ (op : Int) : (cU op).cells = qv op := by
 unfold cU qv
 cases hi : isOp op with
 | false => rfl
 | true => rcases B5 hi with rfl | rfl | rfl | rfl | rfl | rfl | rfl | rfl | rfl | rfl | rfl | rfl | rfl | rfl | rfl | rfl | rfl | rfl | rfl | rfl | rfl | rfl | rfl | rfl | rfl | rfl | rfl | rfl | rfl | rfl | rfl | rfl | rfl | rfl <;> rfl
def wu (x0 : Int) : Option (sr × Bool) := some (cU x0, isOp x0)
theorem zb {w0 : World} {g h : AH} {Q : CR → AH → Prop} {r : sr × Bool} (x0 : Int) (sg : Sub g h) (ok : h.Ok) (M : wu x0 = some r)
 (H : ∀ (g' h' : AH), Sep ⟨g, h, []⟩ g' h' [] → Q (.ret (.tuple ⟨[(.agg ⟨[(.string r.1.nB), (vi r.1.dG.e0), (vi r.1.dG.e1), (vi r.1.dG.e2), (vi r.1.iY), (vi r.1.c7.e0), (vi r.1.c7.e1), (.bool r.1.jr), (.bool r.1.iZ)]⟩), (.bool r.2)]⟩)) h') : WF PP w0 qL [vi x0] h Q := by
 cases M
 refine Yu x0 fun h' K wc => ?_
 have := H g h' ((Sep.start sg ok).cB K (wc ok))
 rw [← amZ]; exact this
end
end Go.Ve.T
namespace Go.Ve.T
open Go.Ve Go.Proofs
noncomputable section
set_option maxRecDepth 10000
def qD (w0 : World) (g : AH) (fv : Value) (f : Int → Option Bool) : Prop := fb fv = true ∧ ∀ (a0 : Int) (r : Bool) (E K : Value → W) (g2 h2 : AH), Sub g g2 → Sub g2 h2 → h2.Ok → f a0 = some r → (∀ (g' h' : AH), Sep ⟨g2, h2, []⟩ g' h' [] → K (.bool r) h') → dy PP w0 [fv, (vi a0)] E K h2
theorem qD.mono {w0 : World} {g g' : AH} {fv : Value} {f : Int → Option Bool} (H : qD w0 g fv f) (S : Sub g g') : qD w0 g' fv f := ⟨H.1, fun a0 r E K g2 h2 s1 => H.2 a0 r E K g2 h2 (Sub.trans S s1)⟩
def o5 (w0 : World) (g : AH) (fv : Value) (f : aH → Option Bool) : Prop := fb fv = true ∧ ∀ (a0 : aH) (r : Bool) (E K : Value → W) (g2 h2 : AH), Sub g g2 → Sub g2 h2 → h2.Ok → f a0 = some r → (∀ (g' h' : AH), Sep ⟨g2, h2, []⟩ g' h' [] → K (.bool r) h') → dy PP w0 [fv, (.agg ⟨[(vi a0.dN), (vi a0.ew), (vi a0.dJ)]⟩)] E K h2
theorem o5.mono {w0 : World} {g g' : AH} {fv : Value} {f : aH → Option Bool} (H : o5 w0 g fv f) (S : Sub g g') : o5 w0 g' fv f := ⟨H.1, fun a0 r E K g2 h2 s1 => H.2 a0 r E K g2 h2 (Sub.trans S s1)⟩
def o6 (x0 : Int) (x1 : Int) (x2 : Int) : Option Bool :=
 bif (decide (x1 ≤ x0)) then (
 some (decide (x0 ≤ x2))) else (
 some false)
abbrev ai1 (c : Cx) (R : Value → W) (r : Bool) : Prop := ∀ (g' h' : AH), Sep c g' h' [] → R (.bool r) h'
theorem wm {w0 : World} {g h : AH} {Q : CR → AH → Prop} {r : Bool} {x0 x1 x2 : Int} (M : o6 x0 x1 x2 = some r) (sg : Sub g h) (ok : h.Ok)  (H : ai1 ⟨g, h, []⟩ (fun v => Q (.ret v)) r) : WF PP w0 qK [(vi x0), (vi x1), (vi x2)] h Q := by
 refine abA _ _ _ ?_
 have S := Sep.start sg ok
 unfold SO
 unfold o6 at M
 refine nr.2 ?_
 cases hc : (decide (x1 ≤ x0))
 · have M := aS hc M
   refine ay (by decide) ?_
   refine ay (by decide) ?_
   refine ay (by decide) ?_
   refine bf.2 ?_
   cases M
   exact H _ _  S.bj
 · have M := aR hc M
   refine ax rfl ?_
   refine ax rfl ?_
   refine ax rfl ?_
   refine nr.2 ?_
   refine bf.2 ?_
   cases M
   exact H _ _  S.bj
def wo (x0 : ak) : Option ek :=
 some (ek.mk x0.fA x0.fB x0.fC)
abbrev ai2 (c : Cx) (R : Value → W) (r : ek) : Prop := ∀ (g' h' : AH), Sep c g' h' [] → R (.agg ⟨[(vi r.e0), (vi r.e1), (vi r.e2)]⟩) h'
theorem Io {w0 : World} {g h : AH} {Q : CR → AH → Prop} {r : ek} {x0 : ak} (M : wo x0 = some r) (sg : Sub g h) (ok : h.Ok)  (H : ai2 ⟨g, h, []⟩ (fun v => Q (.ret v)) r) : WF PP w0 xu [(.agg ⟨[(vi x0.aJ), (vi x0.fA), (vi x0.fB), (vi x0.fC)]⟩)] h Q := by
 refine abG _ ?_
 have S := Sep.start sg ok
 unfold SY
 unfold wo at M
 refine S.box [(vi x0.aJ), (vi x0.fA), (vi x0.fB), (vi x0.fC)] rfl (aa rfl (aa rfl (aa rfl (aa rfl rfl)))) (fun fX h S => ?_)
 refine S.alloc (l := [(vi 0), (vi 0), (vi 0)]) (aa rfl (aa rfl (aa rfl rfl))) (fun yU h S => ?_)
 refine bg.2 ?_
 refine S.aX 1 rfl rfl ?_
 refine bg.2 ?_
 refine S.aX 1 rfl rfl ?_
 refine bg.2 ?_
 refine S.aX 1 rfl rfl ?_
 refine dU [(vi x0.fA), (vi x0.fB), (vi x0.fC)] (by simp only [da, bH, bI, bJ, bK,  List.length_cons, List.length_nil, Nat.reduceAdd, Nat.zero_add, decide_true, Bool.and_self]) (by simp only [List.flatMap_cons, List.flatMap_nil, bH, bI, bJ, bK,  List.cons_append, List.nil_append, List.append_nil]) ?_
 refine S.cZ [(vi x0.fA), (vi x0.fB), (vi x0.fC)] [(vi x0.fA), (vi x0.fB), (vi x0.fC)] rfl rfl (aa rfl (aa rfl (aa rfl rfl))) (Nat.le_of_ble_eq_true rfl) rfl (fun h S => ?_)
 refine S.bV [(vi x0.fA), (vi x0.fB), (vi x0.fC)] 0 rfl rfl rfl (by decide) ?_
 cases M
 exact H _ _  S.bj
def Ip (N : Nat) (aO : Int) (cP : List Int) (jq : ak) (dV : (List Int) → Int → Option ((List Int))) : Option ((List Int)) :=
 dV cP (bt .i64 (aO + 1))
def Qt (N : Nat) (v11 : ek) (aO : Int) (v1 : ak) (aV : List Int) (dV : (List Int) → Int → Option ((List Int))) : Option ((List Int)) :=
(ix [v11.e0, v11.e1, v11.e2] aO).bind fun ff =>
 bif (decide (ff = 3)) then (
(wo v1).bind fun cK =>
(ix [cK.e0, cK.e1, cK.e2] aO).bind fun ij =>
 gu (decide (aV.length + [ij].length ≤ 1048576)) (
 Ip N aO (aV ++ [ij]) v1 dV)) else (
 Ip N aO aV v1 dV)
def Qu (N : Nat) (y9 : List Int)  : Option ((List Int)) :=
 some y9
def Qv (N : Nat) (v11 : ek) (v1 : ak) (aV : List Int) (aO : Int) (dV : (List Int) → Int → Option ((List Int))) : Option ((List Int)) :=
 bif (decide (aO < 3)) then (
 Qt N v11 aO v1 aV dV) else (
 Qu N aV)
def Iq (N : Nat) (v11 : ek) (v1 : ak)  : Nat → (List Int) → Int → Option ((List Int))
 | 0, _, _ => none
 | n + 1, aV, aO => Qv N v11 v1 aV aO  (fun aq bn => Iq N v11 v1 n aq bn)
def wq (N : Nat) (x0 : ak) : Option ((List Int)) :=
(wu x0.aJ).bind fun aM =>
 Iq N aM.1.dG x0 N ([] : List Int) 0
abbrev za (c : Cx) (R : Value → W) (r : (List Int)) : Prop := ∀ (g' h' : AH) (w1 : Value), Sep c g' h' [] → ae (rI .i64) 1 g' w1 r → R w1 h'
theorem Zw {w0 : World} {c : Cx} {g h : AH} {E R : Value → W} {r : (List Int)} {N : Nat} {aO : Int} {cP : List Int} {jq : ak} {Cw : Value} {Cy : List (List Value)} {Cz : Nat} {eb : Value → Value → W} {dV : (List Int) → Int → Option ((List Int))} {iO : AH} (M : Ip N aO cP jq dV = some r) (S : Sep c g h [.sl 3 1 Cw Cy, .bx Cz [(vi jq.aJ), (vi jq.fA), (vi jq.fB), (vi jq.fC)]]) (Qw : au ((rI .i64) g) Cy cP) (j3 : Sub iO g) (j4 : ∀ {aq : List Int} {dO : Value} {dP : List (List Value)} {bn : Int} {g2 h2 : AH}, dV aq bn = some r → Sub iO g2 → Sep c g2 h2 [.bx Cz [(vi jq.aJ), (vi jq.fA), (vi jq.fB), (vi jq.fC)], .sl 3 1 dO dP] → au ((rI .i64) g2) dP aq → eb dO (vi bn) h2) (H : za c R r) : EB w0 E R (vi aO) eb Cw h := by
 unfold EB
 unfold Ip at M
 refine gE.2 ?_
 have S := S.f1
 exact j4 M j3 S Qw
theorem ai3 {w0 : World} {c : Cx} {g h : AH} {E R : Value → W} {r : (List Int)} {N : Nat} {v11 : ek} {aO : Int} {v1 : ak} {aV : List Int} {ah : Nat} {eM : Value} {ey : List (List Value)} {eb : Value → Value → W} {dV : (List Int) → Int → Option ((List Int))} {iO : AH} (M : Qt N v11 aO v1 aV dV = some r) (S : Sep c g h [.bx ah [(vi v1.aJ), (vi v1.fA), (vi v1.fB), (vi v1.fC)], .sl 3 1 eM ey]) (fj : au ((rI .i64) g) ey aV) (j3 : Sub iO g) (j4 : ∀ {aq : List Int} {dO : Value} {dP : List (List Value)} {bn : Int} {g2 h2 : AH}, dV aq bn = some r → Sub iO g2 → Sep c g2 h2 [.bx ah [(vi v1.aJ), (vi v1.fA), (vi v1.fB), (vi v1.fC)], .sl 3 1 dO dP] → au ((rI .i64) g2) dP aq → eb dO (vi bn) h2) (H : za c R r) : JF w0 E R (.agg ⟨[(vi v11.e0), (vi v11.e1), (vi v11.e2)]⟩) (vi aO) (az ah 0) eM eb h := by
 unfold JF
 unfold Qt at M
 obtain ⟨ff, ku, M⟩ := bind_some M
 refine y0 [v11.e0, v11.e1, v11.e2] (fun q => (vi q)) rfl ku ?_
 refine cI.2 ?_
 refine bp (fun hc => ?_) (fun hc => ?_)
 · have M := aR hc M
   refine S.bV [(vi v1.aJ), (vi v1.fA), (vi v1.fB), (vi v1.fC)] 0 rfl rfl rfl (by decide) ?_
   obtain ⟨cK, gH, M⟩ := bind_some M
   refine Io gH S.sub S.ok (fun _ h  S1  => ?_)
   have S := S.bY S1
   obtain ⟨ij, se, M⟩ := bind_some M
   refine y0 [cK.e0, cK.e1, cK.e2] (fun q => (vi q)) rfl se ?_
   refine S.qA [[(vi ij)]] (cL (m := [(vi ij)]) (l2 := [(vi ij)]) rfl rfl (Nat.le_of_ble_eq_true rfl) rfl rfl) rfl (by decide) (qC rfl qB) (aa rfl rfl) (fun ai4 h S => ?_)
   have wv : au ((rI .i64) g) [[(vi ij)]] [ij] := (au.push au.nil (show (rI .i64) g [(vi ij)] ij from rfl))
   have S := S.f2
   obtain ⟨Qx, M⟩ := mD M
   refine S.app (S.rd 1 rfl) (by rw [fj.1, wv.1]; exact Qx) (by decide) rfl (kA (kz .i64) wv) (kA (kz .i64) fj) (fun ai5 h S => ?_)
   have Qy : au ((rI .i64) g) (ey ++ [[(vi ij)]]) (aV ++ [ij]) := au.append fj wv
   have S := S.f2
   have S := S.f1
   have S := S.t2
   exact Zw M S Qy j3 j4 H
 · have M := aS hc M
   have S := S.f1
   exact Zw M S fj j3 j4 H
theorem ai6 {w0 : World} {c : Cx} {g h : AH} {E R : Value → W} {r : (List Int)} {N : Nat} {y9 : List Int} {lZ : Value} {o7 : List (List Value)}  (M : Qu N y9 = some r) (S : Sep c g h [.sl 3 1 lZ o7]) (wx : au ((rI .i64) g) o7 y9)  (H : za c R r) : JE w0 E R lZ h := by
 unfold JE
 unfold Qu at M
 obtain ⟨g, sg, S, ai7⟩ := S.fz wx (ig .i64)
 cases M
 exact H _ _ lZ S.bj ai7
theorem ai8 {w0 : World} {c : Cx} {g h : AH} {E R : Value → W} {r : (List Int)} {N : Nat} {v11 : ek} {v1 : ak} {aV : List Int} {aO : Int} {ah : Nat} {eM : Value} {ey : List (List Value)} {eb : Value → Value → W} {dV : (List Int) → Int → Option ((List Int))} {iO : AH} (M : Qv N v11 v1 aV aO dV = some r) (S : Sep c g h [.bx ah [(vi v1.aJ), (vi v1.fA), (vi v1.fB), (vi v1.fC)], .sl 3 1 eM ey]) (fj : au ((rI .i64) g) ey aV) (j3 : Sub iO g) (j4 : ∀ {aq : List Int} {dO : Value} {dP : List (List Value)} {bn : Int} {g2 h2 : AH}, dV aq bn = some r → Sub iO g2 → Sep c g2 h2 [.bx ah [(vi v1.aJ), (vi v1.fA), (vi v1.fB), (vi v1.fC)], .sl 3 1 dO dP] → au ((rI .i64) g2) dP aq → eb dO (vi bn) h2) (H : za c R r) : EC w0 E R (.agg ⟨[(vi v11.e0), (vi v11.e1), (vi v11.e2)]⟩) (az ah 0) eb eM (vi aO) h := by
 unfold EC
 unfold Qv at M
 refine fW.2 ?_
 refine bp (fun hc => ?_) (fun hc => ?_)
 · have M := aR hc M
   exact ai3 M S fj j3 j4 H
 · have M := aS hc M
   have S := S.f1
   have S := S.t1
   exact ai6 M S fj H
theorem ai9 {w0 : World} {c : Cx} {E R : Value → W} {r : (List Int)} {N : Nat} {v11 : ek} {v1 : ak} {ah : Nat}   (H : za c R r) : ∀ (n : Nat) {aV : List Int} {aO : Int} {eM : Value} {ey : List (List Value)} {g h : AH}, Iq N v11 v1 n aV aO = some r → Sep c g h [.bx ah [(vi v1.aJ), (vi v1.fA), (vi v1.fB), (vi v1.fC)], .sl 3 1 eM ey] → au ((rI .i64) g) ey aV → gG (α := Value × Value) (fun k a => EC w0 E R (.agg ⟨[(vi v11.e0), (vi v11.e1), (vi v11.e2)]⟩) (az ah 0) (fun b0 b1 => k (b0, b1)) a.1 a.2) n (eM, (vi aO)) h := by
 intro n
 induction n with
 | zero =>
  intro aV aO eM ey g h M S fj
  unfold Iq at M; cases M
 | succ n ih =>
  intro aV aO eM ey g h M S fj
  exact ai8 M S fj  (Sub.refl g) (fun M2 sub S2 wy => ih M2 S2 wy ) H
theorem Zx {w0 : World} {g h : AH} {Q : CR → AH → Prop} {r : (List Int)} {N : Nat} {x0 : ak} (M : wq N x0 = some r) (sg : Sub g h) (ok : h.Ok)  (H : za ⟨g, h, []⟩ (fun v => Q (.ret v)) r) : WF PP w0 ED [(.agg ⟨[(vi x0.aJ), (vi x0.fA), (vi x0.fB), (vi x0.fC)]⟩)] h Q := by
 refine abH _ ?_
 have S := Sep.start sg ok
 unfold SZ
 unfold wq at M
 refine S.box [(vi x0.aJ), (vi x0.fA), (vi x0.fB), (vi x0.fC)] rfl (aa rfl (aa rfl (aa rfl (aa rfl rfl)))) (fun fX h S => ?_)
 refine bg.2 ?_
 refine S.aX 0 rfl rfl ?_
 obtain ⟨aM, eG, M⟩ := bind_some M
 refine zb x0.aJ S.sub S.ok eG (fun _ h  S1  => ?_)
 have S := S.bY S1
 refine (fH rfl).2 ?_
 refine (fH rfl).2 ?_
 refine S.alloc (l := [(.string (⟨⟨[]⟩⟩ : ByteArray)), (vi 0), (vi 0), (vi 0), (vi 0), (vi 0), (vi 0), (.bool false), (.bool false)]) (aa rfl (aa rfl (aa rfl (aa rfl (aa rfl (aa rfl (aa rfl (aa rfl (aa rfl rfl))))))))) (fun qE h S => ?_)
 refine S.cZ [(.string aM.1.nB), (vi aM.1.dG.e0), (vi aM.1.dG.e1), (vi aM.1.dG.e2), (vi aM.1.iY), (vi aM.1.c7.e0), (vi aM.1.c7.e1), (.bool aM.1.jr), (.bool aM.1.iZ)] [(.string aM.1.nB), (vi aM.1.dG.e0), (vi aM.1.dG.e1), (vi aM.1.dG.e2), (vi aM.1.iY), (vi aM.1.c7.e0), (vi aM.1.c7.e1), (.bool aM.1.jr), (.bool aM.1.iZ)] rfl rfl (aa rfl (aa rfl (aa rfl (aa rfl (aa rfl (aa rfl (aa rfl (aa rfl (aa rfl rfl))))))))) (Nat.le_of_ble_eq_true rfl) rfl (fun h S => ?_)
 refine bg.2 ?_
 refine S.bV [(vi aM.1.dG.e0), (vi aM.1.dG.e1), (vi aM.1.dG.e2)] 0 rfl rfl rfl (by decide) ?_
 have S := S.tZ 3 1
 have S := S.f2
 have S := S.t2
 exact ⟨N, ai9  H _ M S (au.nil (R := (rI .i64) g)) ⟩
def Qz (N : Nat) (y3 : Int) (cq : Int → Option Int) : Option Int :=
 cq (bt .i64 (y3 + 1))
def QA (N : Nat) (x0 : List Int) (y3 : Int) (x1 : Int → Option Bool) (cq : Int → Option Int) : Option Int :=
(ix x0 y3).bind fun eW =>
(x1 eW).bind fun cK =>
 bif cK then (
 some y3) else (
 Qz N y3 cq)
def QB (N : Nat)   : Option Int :=
 some (-1)
def QC (N : Nat) (v1 : Int) (x0 : List Int) (x1 : Int → Option Bool) (y3 : Int) (cq : Int → Option Int) : Option Int :=
 bif (decide (y3 < v1)) then (
 QA N x0 y3 x1 cq) else (
 QB N )
def zc (N : Nat) (v1 : Int) (x0 : List Int) (x1 : Int → Option Bool)  : Nat → Int → Option Int
 | 0, _ => none
 | n + 1, y3 => QC N v1 x0 x1 y3  (fun aq => zc N v1 x0 x1 n aq)
def CA (N : Nat) (x0 : List Int) (x1 : Int → Option Bool) : Option Int :=
 zc N (x0.length : Int) x0 x1 N 0
abbrev zd (c : Cx) (R : Value → W) (r : Int) : Prop := ∀ (g' h' : AH), Sep c g' h' [] → R (vi r) h'
theorem aja {w0 : World} {c : Cx} {g h : AH} {E R : Value → W} {r : Int} {N : Nat} {y3 : Int} {k2 : Value → W} {cq : Int → Option Int} {ez : AH} (M : Qz N y3 cq = some r) (S : Sep c g h [])  (gU : Sub ez g) (gV : ∀ {aq : Int} {g2 h2 : AH}, cq aq = some r → Sub ez g2 → Sep c g2 h2 [] → k2 (vi aq) h2) (H : zd c R r) : Jz w0 E R (vi y3) k2 h := by
 unfold Jz
 unfold Qz at M
 refine gE.2 ?_
 exact gV M gU S
theorem ajb {w0 : World} {c : Cx} {g h : AH} {E R : Value → W} {r : Int} {N : Nat} {x0 : List Int} {y3 : Int} {x1 : Int → Option Bool} {bw cr : Value} {k2 : Value → W} {cq : Int → Option Int} {ez : AH} (M : QA N x0 y3 x1 cq = some r) (S : Sep c g h []) (cb : ae (rI .i64) 1 g bw x0) (cS : qD w0 g cr x1) (gU : Sub ez g) (gV : ∀ {aq : Int} {g2 h2 : AH}, cq aq = some r → Sub ez g2 → Sep c g2 h2 [] → k2 (vi aq) h2) (H : zd c R r) : JA w0 E R bw (vi y3) cr k2 h := by
 unfold JA
 unfold QA at M
 obtain ⟨eW, j5, M⟩ := bind_some M
 refine ae.idx cb j5 (fun wz CB vs Ir sf rp => ?_)
 cases rp
 refine S.fQ (sf 0 _ rfl) ?_
 obtain ⟨cK, gH, M⟩ := bind_some M
 refine cS.2 eW _ _ _ _ _ (Sub.refl _) S.sub S.ok  gH (fun _ h  S1  => ?_)
 have S := S.bY S1
 refine bp (fun hc => ?_) (fun hc => ?_)
 · have M := aR hc M
   cases M
   exact H _ _  S.bj
 · have M := aS hc M
   exact aja M S gU gV H
theorem ajc {w0 : World} {c : Cx} {g h : AH} {E R : Value → W} {r : Int} {N : Nat}   (M : QB N  = some r) (S : Sep c g h [])   (H : zd c R r) : Jy w0 E R  h := by
 unfold Jy
 unfold QB at M
 cases M
 exact H _ _  S.bj
theorem ajd {w0 : World} {c : Cx} {g h : AH} {E R : Value → W} {r : Int} {N : Nat} {v1 : Int} {x0 : List Int} {x1 : Int → Option Bool} {y3 : Int} {bw cr : Value} {k2 : Value → W} {cq : Int → Option Int} {ez : AH} (M : QC N v1 x0 x1 y3 cq = some r) (S : Sep c g h []) (cb : ae (rI .i64) 1 g bw x0) (cS : qD w0 g cr x1) (gU : Sub ez g) (gV : ∀ {aq : Int} {g2 h2 : AH}, cq aq = some r → Sub ez g2 → Sep c g2 h2 [] → k2 (vi aq) h2) (H : zd c R r) : Ez w0 E R (vi v1) bw cr k2 (vi y3) h := by
 unfold Ez
 unfold QC at M
 refine fW.2 ?_
 refine bp (fun hc => ?_) (fun hc => ?_)
 · have M := aR hc M
   exact ajb M S cb cS gU gV H
 · have M := aS hc M
   exact ajc M S  H
theorem aje {w0 : World} {c : Cx} {E R : Value → W} {r : Int} {N : Nat} {v1 : Int} {x0 : List Int} {x1 : Int → Option Bool} {bw cr : Value}   (H : zd c R r) : ∀ (n : Nat) {y3 : Int} {g h : AH}, zc N v1 x0 x1 n y3 = some r → Sep c g h [] → ae (rI .i64) 1 g bw x0 → qD w0 g cr x1 → gG (α := Value) (fun k a => Ez w0 E R (vi v1) bw cr k a) n (vi y3) h := by
 intro n
 induction n with
 | zero =>
  intro y3  g h M S cb cS
  unfold zc at M; cases M
 | succ n ih =>
  intro y3  g h M S cb cS
  exact ajd M S cb cS  (Sub.refl g) (fun M2 sub S2  => ih M2 S2 (ae.mono cb (ig .i64) sub) (qD.mono cS sub) ) H
theorem ajf {w0 : World} {g h : AH} {Q : CR → AH → Prop} {r : Int} {N : Nat} {x0 : List Int} {x1 : Int → Option Bool} {bw cr : Value} (M : CA N x0 x1 = some r) (sg : Sub g h) (ok : h.Ok) (cb : ae (rI .i64) 1 g bw x0) (cS : qD w0 g cr x1) (H : zd ⟨g, h, []⟩ (fun v => Q (.ret v)) r) : WF PP w0 JB [bw, cr] h Q := by
 refine abB _ _ ?_
 have S := Sep.start sg ok
 unfold SP
 unfold CA at M
 refine cb.len ?_
 exact ⟨N, aje  H _ M S cb cS ⟩
def CC (N : Nat) (x0 : List Int) (x1 : Int → Option Bool) : Option Bool :=
(CA N x0 x1).bind fun eW =>
 some (decide (0 ≤ eW))
abbrev ajg (c : Cx) (R : Value → W) (r : Bool) : Prop := ∀ (g' h' : AH), Sep c g' h' [] → R (.bool r) h'
theorem ajh {w0 : World} {g h : AH} {Q : CR → AH → Prop} {r : Bool} {N : Nat} {x0 : List Int} {x1 : Int → Option Bool} {bw cr : Value} (M : CC N x0 x1 = some r) (sg : Sub g h) (ok : h.Ok) (cb : ae (rI .i64) 1 g bw x0) (cS : qD w0 g cr x1) (H : ajg ⟨g, h, []⟩ (fun v => Q (.ret v)) r) : WF PP w0 JC [bw, cr] h Q := by
 refine abD _ _ ?_
 have S := Sep.start sg ok
 unfold SS
 unfold CC at M
 obtain ⟨eW, j5, M⟩ := bind_some M
 refine ajf j5 S.sub S.ok cb cS (fun _ h  S1  => ?_)
 have S := S.bY S1
 refine oV.2 ?_
 cases M
 exact H _ _  S.bj
def QD (N : Nat) (y3 : Int) (cq : Int → Option Int) : Option Int :=
 cq (bt .i64 (y3 + 1))
def QE (N : Nat) (x0 : List aH) (y3 : Int) (x1 : aH → Option Bool) (cq : Int → Option Int) : Option Int :=
(ix x0 y3).bind fun eW =>
(x1 eW).bind fun cK =>
 bif cK then (
 some y3) else (
 QD N y3 cq)
def QF (N : Nat)   : Option Int :=
 some (-1)
def QG (N : Nat) (v1 : Int) (x0 : List aH) (x1 : aH → Option Bool) (y3 : Int) (cq : Int → Option Int) : Option Int :=
 bif (decide (y3 < v1)) then (
 QE N x0 y3 x1 cq) else (
 QF N )
def ze (N : Nat) (v1 : Int) (x0 : List aH) (x1 : aH → Option Bool)  : Nat → Int → Option Int
 | 0, _ => none
 | n + 1, y3 => QG N v1 x0 x1 y3  (fun aq => ze N v1 x0 x1 n aq)
def zf (N : Nat) (x0 : List aH) (x1 : aH → Option Bool) : Option Int :=
 ze N (x0.length : Int) x0 x1 N 0
abbrev zg (c : Cx) (R : Value → W) (r : Int) : Prop := ∀ (g' h' : AH), Sep c g' h' [] → R (vi r) h'
theorem aji {w0 : World} {c : Cx} {g h : AH} {E R : Value → W} {r : Int} {N : Nat} {y3 : Int} {k2 : Value → W} {cq : Int → Option Int} {ez : AH} (M : QD N y3 cq = some r) (S : Sep c g h [])  (gU : Sub ez g) (gV : ∀ {aq : Int} {g2 h2 : AH}, cq aq = some r → Sub ez g2 → Sep c g2 h2 [] → k2 (vi aq) h2) (H : zg c R r) : JH w0 E R (vi y3) k2 h := by
 unfold JH
 unfold QD at M
 refine gE.2 ?_
 exact gV M gU S
theorem ajj {w0 : World} {c : Cx} {g h : AH} {E R : Value → W} {r : Int} {N : Nat} {x0 : List aH} {y3 : Int} {x1 : aH → Option Bool} {bw cr : Value} {k2 : Value → W} {cq : Int → Option Int} {ez : AH} (M : QE N x0 y3 x1 cq = some r) (S : Sep c g h []) (cb : ae aH.rep 3 g bw x0) (cS : o5 w0 g cr x1) (gU : Sub ez g) (gV : ∀ {aq : Int} {g2 h2 : AH}, cq aq = some r → Sub ez g2 → Sep c g2 h2 [] → k2 (vi aq) h2) (H : zg c R r) : JI w0 E R bw (vi y3) cr k2 h := by
 unfold JI
 unfold QE at M
 obtain ⟨eW, j5, M⟩ := bind_some M
 refine ae.idx cb j5 (fun wz CB vs Ir sf rp => ?_)
 cases rp
 refine S.nA sf rfl (by decide) ?_
 obtain ⟨cK, gH, M⟩ := bind_some M
 refine cS.2 eW _ _ _ _ _ (Sub.refl _) S.sub S.ok  gH (fun _ h  S1  => ?_)
 have S := S.bY S1
 refine bp (fun hc => ?_) (fun hc => ?_)
 · have M := aR hc M
   cases M
   exact H _ _  S.bj
 · have M := aS hc M
   exact aji M S gU gV H
theorem ajk {w0 : World} {c : Cx} {g h : AH} {E R : Value → W} {r : Int} {N : Nat}   (M : QF N  = some r) (S : Sep c g h [])   (H : zg c R r) : JG w0 E R  h := by
 unfold JG
 unfold QF at M
 cases M
 exact H _ _  S.bj
theorem ajl {w0 : World} {c : Cx} {g h : AH} {E R : Value → W} {r : Int} {N : Nat} {v1 : Int} {x0 : List aH} {x1 : aH → Option Bool} {y3 : Int} {bw cr : Value} {k2 : Value → W} {cq : Int → Option Int} {ez : AH} (M : QG N v1 x0 x1 y3 cq = some r) (S : Sep c g h []) (cb : ae aH.rep 3 g bw x0) (cS : o5 w0 g cr x1) (gU : Sub ez g) (gV : ∀ {aq : Int} {g2 h2 : AH}, cq aq = some r → Sub ez g2 → Sep c g2 h2 [] → k2 (vi aq) h2) (H : zg c R r) : EF w0 E R (vi v1) bw cr k2 (vi y3) h := by
 unfold EF
 unfold QG at M
 refine fW.2 ?_
 refine bp (fun hc => ?_) (fun hc => ?_)
 · have M := aR hc M
   exact ajj M S cb cS gU gV H
 · have M := aS hc M
   exact ajk M S  H
theorem ajm {w0 : World} {c : Cx} {E R : Value → W} {r : Int} {N : Nat} {v1 : Int} {x0 : List aH} {x1 : aH → Option Bool} {bw cr : Value}   (H : zg c R r) : ∀ (n : Nat) {y3 : Int} {g h : AH}, ze N v1 x0 x1 n y3 = some r → Sep c g h [] → ae aH.rep 3 g bw x0 → o5 w0 g cr x1 → gG (α := Value) (fun k a => EF w0 E R (vi v1) bw cr k a) n (vi y3) h := by
 intro n
 induction n with
 | zero =>
  intro y3  g h M S cb cS
  unfold ze at M; cases M
 | succ n ih =>
  intro y3  g h M S cb cS
  exact ajl M S cb cS  (Sub.refl g) (fun M2 sub S2  => ih M2 S2 (ae.mono cb aH.mono sub) (o5.mono cS sub) ) H
theorem Zy {w0 : World} {g h : AH} {Q : CR → AH → Prop} {r : Int} {N : Nat} {x0 : List aH} {x1 : aH → Option Bool} {bw cr : Value} (M : zf N x0 x1 = some r) (sg : Sub g h) (ok : h.Ok) (cb : ae aH.rep 3 g bw x0) (cS : o5 w0 g cr x1) (H : zg ⟨g, h, []⟩ (fun v => Q (.ret v)) r) : WF PP w0 EG [bw, cr] h Q := by
 refine abL _ _ ?_
 have S := Sep.start sg ok
 unfold S5
 unfold zf at M
 refine cb.len ?_
 exact ⟨N, ajm  H _ M S cb cS ⟩
def Is (N : Nat) (x0 : List aH) (x1 : aH → Option Bool) : Option Bool :=
(zf N x0 x1).bind fun eW =>
 some (decide (0 ≤ eW))
abbrev ajn (c : Cx) (R : Value → W) (r : Bool) : Prop := ∀ (g' h' : AH), Sep c g' h' [] → R (.bool r) h'
theorem ajo {w0 : World} {g h : AH} {Q : CR → AH → Prop} {r : Bool} {N : Nat} {x0 : List aH} {x1 : aH → Option Bool} {bw cr : Value} (M : Is N x0 x1 = some r) (sg : Sub g h) (ok : h.Ok) (cb : ae aH.rep 3 g bw x0) (cS : o5 w0 g cr x1) (H : ajn ⟨g, h, []⟩ (fun v => Q (.ret v)) r) : WF PP w0 JP [bw, cr] h Q := by
 refine abV _ _ ?_
 have S := Sep.start sg ok
 unfold Te
 unfold Is at M
 obtain ⟨eW, j5, M⟩ := bind_some M
 refine Zy j5 S.sub S.ok cb cS (fun _ h  S1  => ?_)
 have S := S.bY S1
 refine oV.2 ?_
 cases M
 exact H _ _  S.bj
def zh (x0 : Int) (x1 : Int) : Option Bool :=
(o6 x0 0 (bt .i64 (x1 - 1))).bind fun eW =>
 some (!eW)
abbrev ajp (c : Cx) (R : Value → W) (r : Bool) : Prop := ∀ (g' h' : AH), Sep c g' h' [] → R (.bool r) h'
theorem ajq {w0 : World} {g h : AH} {Q : CR → AH → Prop} {r : Bool} {x0 x1 : Int} {mF : Nat} (M : zh x0 x1 = some r) (sg : Sub g h) (ok : h.Ok) (nC : g.bU mF 0 [(vi x1)]) (H : ajp ⟨g, h, []⟩ (fun v => Q (.ret v)) r) : WF PP w0 EJ [(vi x0), (az mF 0)] h Q := by
 refine abR _ _ ?_
 have S := Sep.start sg ok
 unfold Tc
 unfold zh at M
 refine S.fQ (nC 0 _ rfl) ?_
 refine mA.2 ?_
 obtain ⟨eW, j5, M⟩ := bind_some M
 refine wm j5 S.sub S.ok (fun _ h  S1  => ?_)
 have S := S.bY S1
 refine ec.2 ?_
 cases M
 exact H _ _  S.bj
def CD (v1 : aH) (x1 : Int) (cQ : Bool)  : Option Bool :=
 bif cQ then (
 some true) else (
(o6 v1.dJ 0 (bt .i64 (x1 - 1))).bind fun aM =>
 some (!aM))
def CE (v1 : aH) (x1 : Int) (v10 : Bool)  : Option Bool :=
 bif v10 then (
 CD v1 x1 true) else (
 CD v1 x1 (decide (x1 < v1.ew)))
def zi (x0 : aH) (x1 : Int) : Option Bool :=
 bif (decide (x0.dN < 0)) then (
 CE x0 x1 true) else (
 CE x0 x1 (decide (x0.ew ≤ x0.dN)))
abbrev QH (c : Cx) (R : Value → W) (r : Bool) : Prop := ∀ (g' h' : AH), Sep c g' h' [] → R (.bool r) h'
theorem Zz {w0 : World} {c : Cx} {g h : AH} {E R : Value → W} {r : Bool} {v1 : aH} {x1 : Int} {cQ : Bool} {ah mF : Nat}  (M : CD v1 x1 cQ = some r) (S : Sep c g h [.bx ah [(vi v1.dN), (vi v1.ew), (vi v1.dJ)]]) (nC : g.bU mF 0 [(vi x1)])  (H : QH c R r) : JN w0 E R (az ah 0) (az mF 0) (.bool cQ) h := by
 unfold JN
 unfold CD at M
 cases hc : cQ
 · have M := aS hc M
   refine ax rfl ?_
   refine bg.2 ?_
   refine ax rfl ?_
   refine S.aX 0 rfl rfl ?_
   refine ax rfl ?_
   refine S.fQ (nC 0 _ rfl) ?_
   refine ax rfl ?_
   refine mA.2 ?_
   refine ax rfl ?_
   obtain ⟨aM, eG, M⟩ := bind_some M
   refine wm eG S.sub S.ok (fun _ h  S1  => ?_)
   have S := S.bY S1
   refine ax rfl ?_
   refine ec.2 ?_
   refine bf.2 ?_
   cases M
   exact H _ _  S.bj
 · have M := aR hc M
   refine ay (by decide) ?_
   refine ay (by decide) ?_
   refine ay (by decide) ?_
   refine ay (by decide) ?_
   refine ay (by decide) ?_
   refine ay (by decide) ?_
   refine bf.2 ?_
   cases M
   exact H _ _  S.bj
theorem ZA {w0 : World} {c : Cx} {g h : AH} {E R : Value → W} {r : Bool} {v1 : aH} {x1 : Int} {v10 : Bool} {ah mF : Nat}  (M : CE v1 x1 v10 = some r) (S : Sep c g h [.bx ah [(vi v1.dN), (vi v1.ew), (vi v1.dJ)]]) (nC : g.bU mF 0 [(vi x1)])  (H : QH c R r) : JO w0 E R (az ah 0) (az mF 0) (.bool v10) h := by
 unfold JO
 unfold CE at M
 cases hc : v10
 · have M := aS hc M
   refine ax rfl ?_
   refine bg.2 ?_
   refine ax rfl ?_
   refine S.aX 0 rfl rfl ?_
   refine ax rfl ?_
   refine S.fQ (nC 0 _ rfl) ?_
   refine ax rfl ?_
   refine oe.2 ?_
   refine bf.2 ?_
   exact Zz M S nC H
 · have M := aR hc M
   refine ay (by decide) ?_
   refine ay (by decide) ?_
   refine ay (by decide) ?_
   refine ay (by decide) ?_
   refine bf.2 ?_
   exact Zz M S nC H
theorem ajr {w0 : World} {g h : AH} {Q : CR → AH → Prop} {r : Bool} {x0 : aH} {x1 : Int} {mF : Nat} (M : zi x0 x1 = some r) (sg : Sub g h) (ok : h.Ok) (nC : g.bU mF 0 [(vi x1)]) (H : QH ⟨g, h, []⟩ (fun v => Q (.ret v)) r) : WF PP w0 EK [(.agg ⟨[(vi x0.dN), (vi x0.ew), (vi x0.dJ)]⟩), (az mF 0)] h Q := by
 refine abT _ _ ?_
 have S := Sep.start sg ok
 unfold Td
 unfold zi at M
 refine S.box [(vi x0.dN), (vi x0.ew), (vi x0.dJ)] rfl (aa rfl (aa rfl (aa rfl rfl))) (fun fX h S => ?_)
 refine bg.2 ?_
 refine S.aX 0 rfl rfl ?_
 refine fW.2 ?_
 cases hc : (decide (x0.dN < 0))
 · have M := aS hc M
   refine ax rfl ?_
   refine bg.2 ?_
   refine ax rfl ?_
   refine S.aX 0 rfl rfl ?_
   refine ax rfl ?_
   refine bg.2 ?_
   refine ax rfl ?_
   refine S.aX 0 rfl rfl ?_
   refine ax rfl ?_
   refine oV.2 ?_
   refine bf.2 ?_
   exact ZA M S nC H
 · have M := aR hc M
   refine ay (by decide) ?_
   refine ay (by decide) ?_
   refine ay (by decide) ?_
   refine ay (by decide) ?_
   refine ay (by decide) ?_
   refine bf.2 ?_
   exact ZA M S nC H
def QI (N : Nat) (cP : Int) (dw : al) (jG : Int → Option Bool) : Option Bool :=
 jG (bt .i64 (cP + 1))
def zj (N : Nat) (cP : Int) (eQ : Bool) (dw : al) (jG : Int → Option Bool) : Option Bool :=
 bif eQ then (
 some false) else (
 QI N cP dw jG)
def QJ (N : Nat) (b9 : List ak) (cP : Int) (v5 : Int) (dw : al) (jG : Int → Option Bool) : Option Bool :=
(ix b9 cP).bind fun eH =>
(wu eH.aJ).bind fun fJ =>
 bif (!fJ.2) then (
 zj N cP true dw jG) else (
(wq N eH).bind fun lD =>
(CC N lD (fun a0 => zh a0 v5)).bind fun nw =>
 zj N cP nw dw jG)
def zk (N : Nat) (v1 : al) (v5 : Int)  : Option Bool :=
(Is N v1.aI (fun a0 => zi a0 v5)).bind fun ZB =>
 some (!ZB)
def QK (N : Nat) (bP : Int) (b9 : List ak) (v5 : Int) (v1 : al) (cP : Int) (jG : Int → Option Bool) : Option Bool :=
 bif (decide (cP < bP)) then (
 QJ N b9 cP v5 v1 jG) else (
 zk N v1 v5)
def CF (N : Nat) (bP : Int) (b9 : List ak) (v5 : Int) (v1 : al)  : Nat → Int → Option Bool
 | 0, _ => none
 | n + 1, cP => QK N bP b9 v5 v1 cP  (fun aq => CF N bP b9 v5 v1 n aq)
def CG (N : Nat) (v1 : al) (v5 : Int)  : Option Bool :=
 CF N (v1.ab.length : Int) v1.ab v5 v1 N 0
def CH (N : Nat) (v1 : al) (v5 : Int) (v53 : Bool)  : Option Bool :=
 bif v53 then (
 some false) else (
 CG N v1 v5)
def CI (N : Nat) (v1 : al) (v5 : Int) (gw : Bool)  : Option Bool :=
 bif gw then (
 CH N v1 v5 true) else (
(o6 v1.aD 0 200).bind fun cK =>
 CH N v1 v5 (!cK))
def CJ (N : Nat) (v1 : al) (v5 : Int) (dq : Bool)  : Option Bool :=
 bif dq then (
 CI N v1 v5 true) else (
(o6 v1.aC 0 200).bind fun ff =>
 CI N v1 v5 (!ff))
def ud (N : Nat) (x0 : al) : Option Bool :=
(o6 (x0.ab.length : Int) 1 600).bind fun vU =>
 bif (!vU) then (
 CJ N x0 (x0.ab.length : Int) true) else (
 CJ N x0 (x0.ab.length : Int) (decide (40 < (x0.aI.length : Int))))
abbrev o9 (c : Cx) (R : Value → W) (r : Bool) : Prop := ∀ (g' h' : AH), Sep c g' h' [] → R (.bool r) h'
theorem ajs {w0 : World} {c : Cx} {g h : AH} {E R : Value → W} {r : Bool} {N : Nat} {cP : Int} {dw : al} {ue : Nat} {pa pb : Value} {jQ : Value → W} {jG : Int → Option Bool} {pc : AH} (M : QI N cP dw jG = some r) (S : Sep c g h [.bx ue [(.string dw.aE), (.string dw.aG), (vi dw.fArgs), (vi dw.aC), (vi dw.aD), pa, pb]]) (wA : ae ak.rep 4 g pa dw.ab) (wB : ae aH.rep 3 g pb dw.aI) (qF : Sub pc g) (uf : ∀ {aq : Int} {g2 h2 : AH}, jG aq = some r → Sub pc g2 → Sep c g2 h2 [.bx ue [(.string dw.aE), (.string dw.aG), (vi dw.fArgs), (vi dw.aC), (vi dw.aD), pa, pb]] → jQ (vi aq) h2) (H : o9 c R r) : JR w0 E R (vi cP) jQ h := by
 unfold JR
 unfold QI at M
 refine gE.2 ?_
 exact uf M qF S
theorem ZC {w0 : World} {c : Cx} {g h : AH} {E R : Value → W} {r : Bool} {N : Nat} {cP : Int} {eQ : Bool} {dw : al} {ue : Nat} {pa pb : Value} {jQ : Value → W} {jG : Int → Option Bool} {pc : AH} (M : zj N cP eQ dw jG = some r) (S : Sep c g h [.bx ue [(.string dw.aE), (.string dw.aG), (vi dw.fArgs), (vi dw.aC), (vi dw.aD), pa, pb]]) (wA : ae ak.rep 4 g pa dw.ab) (wB : ae aH.rep 3 g pb dw.aI) (qF : Sub pc g) (uf : ∀ {aq : Int} {g2 h2 : AH}, jG aq = some r → Sub pc g2 → Sep c g2 h2 [.bx ue [(.string dw.aE), (.string dw.aG), (vi dw.fArgs), (vi dw.aC), (vi dw.aD), pa, pb]] → jQ (vi aq) h2) (H : o9 c R r) : JS w0 E R (vi cP) jQ (.bool eQ) h := by
 unfold JS
 unfold zj at M
 refine bp (fun hc => ?_) (fun hc => ?_)
 · have M := aR hc M
   cases M
   exact H _ _  S.bj
 · have M := aS hc M
   exact ajs M S wA wB qF uf H
theorem ajt {w0 : World} {c : Cx} {g h : AH} {E R : Value → W} {r : Bool} {N : Nat} {b9 : List ak} {cP v5 : Int} {dw : al} {ug : Value} {cA ue : Nat} {pa pb : Value} {jQ : Value → W} {jG : Int → Option Bool} {pc : AH} (M : QJ N b9 cP v5 dw jG = some r) (S : Sep c g h [.bx ue [(.string dw.aE), (.string dw.aG), (vi dw.fArgs), (vi dw.aC), (vi dw.aD), pa, pb]]) (sh : ae ak.rep 4 g ug b9) (om : g.bU cA 0 [(vi v5)]) (wA : ae ak.rep 4 g pa dw.ab) (wB : ae aH.rep 3 g pb dw.aI) (qF : Sub pc g) (uf : ∀ {aq : Int} {g2 h2 : AH}, jG aq = some r → Sub pc g2 → Sep c g2 h2 [.bx ue [(.string dw.aE), (.string dw.aG), (vi dw.fArgs), (vi dw.aC), (vi dw.aD), pa, pb]] → jQ (vi aq) h2) (H : o9 c R r) : JT w0 E R ug (vi cP) (az cA 0) jQ h := by
 unfold JT
 unfold QJ at M
 obtain ⟨eH, QL, M⟩ := bind_some M
 refine ae.idx sh QL (fun aju ajv vs QM si rp => ?_)
 cases rp
 refine S.nA si rfl (by decide) ?_
 refine S.alloc (l := [(vi 0), (vi 0), (vi 0), (vi 0)]) (aa rfl (aa rfl (aa rfl (aa rfl rfl)))) (fun zl h S => ?_)
 refine S.cZ [(vi eH.aJ), (vi eH.fA), (vi eH.fB), (vi eH.fC)] [(vi eH.aJ), (vi eH.fA), (vi eH.fB), (vi eH.fC)] rfl rfl (aa rfl (aa rfl (aa rfl (aa rfl rfl)))) (Nat.le_of_ble_eq_true rfl) rfl (fun h S => ?_)
 refine bg.2 ?_
 refine S.aX 0 rfl rfl ?_
 obtain ⟨fJ, vY, M⟩ := bind_some M
 refine zb eH.aJ S.sub S.ok vY (fun _ h  S1  => ?_)
 have S := S.bY S1
 refine (fH rfl).2 ?_
 refine (fH rfl).2 ?_
 refine S.alloc (l := [(.string (⟨⟨[]⟩⟩ : ByteArray)), (vi 0), (vi 0), (vi 0), (vi 0), (vi 0), (vi 0), (.bool false), (.bool false)]) (aa rfl (aa rfl (aa rfl (aa rfl (aa rfl (aa rfl (aa rfl (aa rfl (aa rfl rfl))))))))) (fun ZD h S => ?_)
 refine S.cZ [(.string fJ.1.nB), (vi fJ.1.dG.e0), (vi fJ.1.dG.e1), (vi fJ.1.dG.e2), (vi fJ.1.iY), (vi fJ.1.c7.e0), (vi fJ.1.c7.e1), (.bool fJ.1.jr), (.bool fJ.1.iZ)] [(.string fJ.1.nB), (vi fJ.1.dG.e0), (vi fJ.1.dG.e1), (vi fJ.1.dG.e2), (vi fJ.1.iY), (vi fJ.1.c7.e0), (vi fJ.1.c7.e1), (.bool fJ.1.jr), (.bool fJ.1.iZ)] rfl rfl (aa rfl (aa rfl (aa rfl (aa rfl (aa rfl (aa rfl (aa rfl (aa rfl (aa rfl rfl))))))))) (Nat.le_of_ble_eq_true rfl) rfl (fun h S => ?_)
 refine ec.2 ?_
 cases hc : (!fJ.2)
 · have M := aS hc M
   refine ax rfl ?_
   refine S.bV [(vi eH.aJ), (vi eH.fA), (vi eH.fB), (vi eH.fC)] 1 rfl rfl rfl (by decide) ?_
   refine ax rfl ?_
   obtain ⟨lD, wC, M⟩ := bind_some M
   refine Zx wC S.sub S.ok (fun g h ajw S1 QN => ?_)
   have sh := ae.mono sh ak.mono S1.bX
   have om := S1.bX.bU om
   have si := S1.bX.bU si
   have wA := ae.mono wA ak.mono S1.bX
   have wB := ae.mono wB aH.mono S1.bX
   have qF := Sub.trans qF S1.bX
   have S := S.lC S1
   refine ax rfl ?_
   refine (He (by simp)).2 ?_
   refine ax rfl ?_
   have ajx : qD w0 g (.func (.func EJ) ⟨[]⟩ ⟨[(az cA 0)]⟩) (fun a0 => zh a0 v5) := ⟨rfl, fun a0 r E K g2 h2 s1 s2 s3  m1 k1 => ajq m1 s2 s3 (Sub.bU s1 om) k1⟩
   obtain ⟨nw, r8, M⟩ := bind_some M
   refine ajh r8 S.sub S.ok QN ajx (fun _ h  S1  => ?_)
   have S := S.bY S1
   refine bf.2 ?_
   have S := S.f2
   have S := S.t1
   exact ZC M S wA wB qF uf H
 · have M := aR hc M
   refine ay (by decide) ?_
   refine ay (by decide) ?_
   refine ay (by decide) ?_
   refine ay (by decide) ?_
   refine bf.2 ?_
   have S := S.f2
   have S := S.t1
   exact ZC M S wA wB qF uf H
theorem ajy {w0 : World} {c : Cx} {g h : AH} {E R : Value → W} {r : Bool} {N : Nat} {v1 : al} {v5 : Int} {ah : Nat} {av aw : Value} {cA : Nat}  (M : zk N v1 v5 = some r) (S : Sep c g h [.bx ah [(.string v1.aE), (.string v1.aG), (vi v1.fArgs), (vi v1.aC), (vi v1.aD), av, aw]]) (aA : ae ak.rep 4 g av v1.ab) (aB : ae aH.rep 3 g aw v1.aI) (om : g.bU cA 0 [(vi v5)])  (H : o9 c R r) : JQ w0 E R (az ah 0) (az cA 0) h := by
 unfold JQ
 unfold zk at M
 refine bg.2 ?_
 refine S.aX 0 rfl rfl ?_
 refine (He (by simp)).2 ?_
 have ajz : o5 w0 g (.func (.func EK) ⟨[]⟩ ⟨[(az cA 0)]⟩) (fun a0 => zi a0 v5) := ⟨rfl, fun a0 r E K g2 h2 s1 s2 s3  m1 k1 => ajr m1 s2 s3 (Sub.bU s1 om) k1⟩
 obtain ⟨ZB, ajA, M⟩ := bind_some M
 refine ajo ajA S.sub S.ok aB ajz (fun _ h  S1  => ?_)
 have S := S.bY S1
 refine ec.2 ?_
 cases M
 exact H _ _  S.bj
theorem ajB {w0 : World} {c : Cx} {g h : AH} {E R : Value → W} {r : Bool} {N : Nat} {bP : Int} {b9 : List ak} {v5 : Int} {v1 : al} {cP : Int} {ug : Value} {cA ah : Nat} {av aw : Value} {jQ : Value → W} {jG : Int → Option Bool} {pc : AH} (M : QK N bP b9 v5 v1 cP jG = some r) (S : Sep c g h [.bx ah [(.string v1.aE), (.string v1.aG), (vi v1.fArgs), (vi v1.aC), (vi v1.aD), av, aw]]) (sh : ae ak.rep 4 g ug b9) (om : g.bU cA 0 [(vi v5)]) (aA : ae ak.rep 4 g av v1.ab) (aB : ae aH.rep 3 g aw v1.aI) (qF : Sub pc g) (uf : ∀ {aq : Int} {g2 h2 : AH}, jG aq = some r → Sub pc g2 → Sep c g2 h2 [.bx ah [(.string v1.aE), (.string v1.aG), (vi v1.fArgs), (vi v1.aC), (vi v1.aD), av, aw]] → jQ (vi aq) h2) (H : o9 c R r) : EL w0 E R (vi bP) ug (az cA 0) (az ah 0) jQ (vi cP) h := by
 unfold EL
 unfold QK at M
 refine fW.2 ?_
 refine bp (fun hc => ?_) (fun hc => ?_)
 · have M := aR hc M
   exact ajt M S sh om aA aB qF uf H
 · have M := aS hc M
   exact ajy M S aA aB om H
theorem ajC {w0 : World} {c : Cx} {E R : Value → W} {r : Bool} {N : Nat} {bP : Int} {b9 : List ak} {v5 : Int} {v1 : al} {ug : Value} {cA ah : Nat} {av aw : Value}   (H : o9 c R r) : ∀ (n : Nat) {cP : Int} {g h : AH}, CF N bP b9 v5 v1 n cP = some r → Sep c g h [.bx ah [(.string v1.aE), (.string v1.aG), (vi v1.fArgs), (vi v1.aC), (vi v1.aD), av, aw]] → ae ak.rep 4 g ug b9 → g.bU cA 0 [(vi v5)] → ae ak.rep 4 g av v1.ab → ae aH.rep 3 g aw v1.aI → gG (α := Value) (fun k a => EL w0 E R (vi bP) ug (az cA 0) (az ah 0) k a) n (vi cP) h := by
 intro n
 induction n with
 | zero =>
  intro cP  g h M S sh om aA aB
  unfold CF at M; cases M
 | succ n ih =>
  intro cP  g h M S sh om aA aB
  exact ajB M S sh om aA aB  (Sub.refl g) (fun M2 sub S2  => ih M2 S2 (ae.mono sh ak.mono sub) (Sub.bU sub om) (ae.mono aA ak.mono sub) (ae.mono aB aH.mono sub) ) H
theorem ajD {w0 : World} {c : Cx} {g h : AH} {E R : Value → W} {r : Bool} {N : Nat} {v1 : al} {v5 : Int} {ah : Nat} {av aw : Value} {cA : Nat}  (M : CG N v1 v5 = some r) (S : Sep c g h [.bx ah [(.string v1.aE), (.string v1.aG), (vi v1.fArgs), (vi v1.aC), (vi v1.aD), av, aw], .bx cA [(vi v5)]]) (aA : ae ak.rep 4 g av v1.ab) (aB : ae aH.rep 3 g aw v1.aI)  (H : o9 c R r) : JU w0 E R (az ah 0) (az cA 0) h := by
 unfold JU
 unfold CG at M
 refine bg.2 ?_
 refine S.aX 0 rfl rfl ?_
 refine aA.len ?_
 have S := S.f1
 obtain ⟨g, sg, S, r_9⟩ := S.yX
 have aA := ae.mono aA ak.mono sg
 have aB := ae.mono aB aH.mono sg
 exact ⟨N, ajC  H _ M S aA r_9 aA aB ⟩
theorem ZE {w0 : World} {c : Cx} {g h : AH} {E R : Value → W} {r : Bool} {N : Nat} {v1 : al} {v5 : Int} {v53 : Bool} {ah : Nat} {av aw : Value} {cA : Nat}  (M : CH N v1 v5 v53 = some r) (S : Sep c g h [.bx ah [(.string v1.aE), (.string v1.aG), (vi v1.fArgs), (vi v1.aC), (vi v1.aD), av, aw], .bx cA [(vi v5)]]) (aA : ae ak.rep 4 g av v1.ab) (aB : ae aH.rep 3 g aw v1.aI)  (H : o9 c R r) : JV w0 E R (az ah 0) (az cA 0) (.bool v53) h := by
 unfold JV
 unfold CH at M
 refine bp (fun hc => ?_) (fun hc => ?_)
 · have M := aR hc M
   cases M
   exact H _ _  S.bj
 · have M := aS hc M
   exact ajD M S aA aB H
theorem ZF {w0 : World} {c : Cx} {g h : AH} {E R : Value → W} {r : Bool} {N : Nat} {v1 : al} {v5 : Int} {gw : Bool} {ah : Nat} {av aw : Value} {cA : Nat}  (M : CI N v1 v5 gw = some r) (S : Sep c g h [.bx ah [(.string v1.aE), (.string v1.aG), (vi v1.fArgs), (vi v1.aC), (vi v1.aD), av, aw], .bx cA [(vi v5)]]) (aA : ae ak.rep 4 g av v1.ab) (aB : ae aH.rep 3 g aw v1.aI)  (H : o9 c R r) : JW w0 E R (az ah 0) (az cA 0) (.bool gw) h := by
 unfold JW
 unfold CI at M
 cases hc : gw
 · have M := aS hc M
   refine ax rfl ?_
   refine bg.2 ?_
   refine ax rfl ?_
   refine S.aX 0 rfl rfl ?_
   refine ax rfl ?_
   obtain ⟨cK, gH, M⟩ := bind_some M
   refine wm gH S.sub S.ok (fun _ h  S1  => ?_)
   have S := S.bY S1
   refine ax rfl ?_
   refine ec.2 ?_
   refine bf.2 ?_
   exact ZE M S aA aB H
 · have M := aR hc M
   refine ay (by decide) ?_
   refine ay (by decide) ?_
   refine ay (by decide) ?_
   refine ay (by decide) ?_
   refine bf.2 ?_
   exact ZE M S aA aB H
theorem ZG {w0 : World} {c : Cx} {g h : AH} {E R : Value → W} {r : Bool} {N : Nat} {v1 : al} {v5 : Int} {dq : Bool} {ah : Nat} {av aw : Value} {cA : Nat}  (M : CJ N v1 v5 dq = some r) (S : Sep c g h [.bx ah [(.string v1.aE), (.string v1.aG), (vi v1.fArgs), (vi v1.aC), (vi v1.aD), av, aw], .bx cA [(vi v5)]]) (aA : ae ak.rep 4 g av v1.ab) (aB : ae aH.rep 3 g aw v1.aI)  (H : o9 c R r) : JX w0 E R (az ah 0) (az cA 0) (.bool dq) h := by
 unfold JX
 unfold CJ at M
 cases hc : dq
 · have M := aS hc M
   refine ax rfl ?_
   refine bg.2 ?_
   refine ax rfl ?_
   refine S.aX 0 rfl rfl ?_
   refine ax rfl ?_
   obtain ⟨ff, ku, M⟩ := bind_some M
   refine wm ku S.sub S.ok (fun _ h  S1  => ?_)
   have S := S.bY S1
   refine ax rfl ?_
   refine ec.2 ?_
   refine bf.2 ?_
   exact ZF M S aA aB H
 · have M := aR hc M
   refine ay (by decide) ?_
   refine ay (by decide) ?_
   refine ay (by decide) ?_
   refine ay (by decide) ?_
   refine bf.2 ?_
   exact ZF M S aA aB H
theorem Iu {w0 : World} {g h : AH} {Q : CR → AH → Prop} {r : Bool} {N : Nat} {x0 : al} {bN bO : Value} (M : ud N x0 = some r) (sg : Sub g h) (ok : h.Ok) (bL : ae ak.rep 4 g bN x0.ab) (bS : ae aH.rep 3 g bO x0.aI) (H : o9 ⟨g, h, []⟩ (fun v => Q (.ret v)) r) : WF PP w0 xv [(.agg ⟨[(.string x0.aE), (.string x0.aG), (vi x0.fArgs), (vi x0.aC), (vi x0.aD), bN, bO]⟩)] h Q := by
 refine abX _ ?_
 have S := Sep.start sg ok
 unfold Tf
 unfold ud at M
 refine S.box [(.string x0.aE), (.string x0.aG), (vi x0.fArgs), (vi x0.aC), (vi x0.aD), bN, bO] rfl (aa rfl (aa rfl (aa rfl (aa rfl (aa rfl (aa bL.one (aa bS.one rfl))))))) (fun fX h S => ?_)
 refine bg.2 ?_
 refine S.aX 0 rfl rfl ?_
 refine bL.len ?_
 refine S.alloc (l := [(vi 0)]) (aa rfl rfl) (fun yU h S => ?_)
 refine S.cZ [(vi (x0.ab.length : Int))] [(vi (x0.ab.length : Int))] rfl rfl (aa rfl rfl) (Nat.le_of_ble_eq_true rfl) rfl (fun h S => ?_)
 refine S.aX 0 rfl rfl ?_
 obtain ⟨vU, P2, M⟩ := bind_some M
 refine wm P2 S.sub S.ok (fun _ h  S1  => ?_)
 have S := S.bY S1
 refine ec.2 ?_
 cases hc : (!vU)
 · have M := aS hc M
   refine ax rfl ?_
   refine bg.2 ?_
   refine ax rfl ?_
   refine S.aX 1 rfl rfl ?_
   refine ax rfl ?_
   refine bS.len ?_
   refine ax rfl ?_
   refine oe.2 ?_
   refine bf.2 ?_
   have S := S.f1
   exact ZG M S bL bS H
 · have M := aR hc M
   refine ay (by decide) ?_
   refine ay (by decide) ?_
   refine ay (by decide) ?_
   refine ay (by decide) ?_
   refine bf.2 ?_
   have S := S.f1
   exact ZG M S bL bS H
def pe (x0 : Int) (x1 : Int) (x2 : Int) : Option Bool :=
 bif (decide (x1 ≤ x0)) then (
 some (decide (x0 ≤ x2))) else (
 some false)
abbrev ajE (c : Cx) (R : Value → W) (r : Bool) : Prop := ∀ (g' h' : AH), Sep c g' h' [] → R (.bool r) h'
theorem wD {w0 : World} {g h : AH} {Q : CR → AH → Prop} {r : Bool} {x0 x1 x2 : Int} (M : pe x0 x1 x2 = some r) (sg : Sub g h) (ok : h.Ok)  (H : ajE ⟨g, h, []⟩ (fun v => Q (.ret v)) r) : WF PP w0 qU [(vi x0), (vi x1), (vi x2)] h Q := by
 refine ace _ _ _ ?_
 have S := Sep.start sg ok
 unfold Tu
 unfold pe at M
 refine nr.2 ?_
 cases hc : (decide (x1 ≤ x0))
 · have M := aS hc M
   refine ay (by decide) ?_
   refine ay (by decide) ?_
   refine ay (by decide) ?_
   refine bf.2 ?_
   cases M
   exact H _ _  S.bj
 · have M := aR hc M
   refine ax rfl ?_
   refine ax rfl ?_
   refine ax rfl ?_
   refine nr.2 ?_
   refine bf.2 ?_
   cases M
   exact H _ _  S.bj
def Iv (v1 : ct)  : Option (ct × Bool) :=
 some ((ct.mk (ek.mk 0 0 0) 0 (eN.mk 0 0) false), false)
def zm (v1 : ct) (x0 : Int) (xy : Bool)  : Option (ct × Bool) :=
 bif xy then (
 some ((ct.mk (ek.mk 1 1 1) 1 (eN.mk 2 3) false), true)) else (
 bif (decide (x0 = 17)) then (
 some ((ct.mk (ek.mk 1 2 5) 1 (eN.mk 2 0) true), true)) else (
 bif (decide (x0 = 18)) then (
 some ((ct.mk (ek.mk 5 1 0) 0 (eN.mk 2 0) false), true)) else (
 bif (decide (x0 = 19)) then (
 some ((ct.mk (ek.mk 6 1 0) 0 (eN.mk 2 0) false), true)) else (
 bif (decide (x0 = 20)) then (
 some ((ct.mk (ek.mk 7 2 8) 1 (eN.mk 2 0) true), true)) else (
 bif (decide (x0 = 21)) then (
 some ((ct.mk (ek.mk 1 9 4) 1 (eN.mk 0 0) true), true)) else (
 bif (decide (x0 = 22)) then (
 some ((ct.mk (ek.mk 1 10 0) 0 (eN.mk 1 0) true), true)) else (
 bif (decide (x0 = 23)) then (
 some ((ct.mk (ek.mk 2 0 0) 0 (eN.mk 1 0) true), true)) else (
 bif (decide (x0 = 24)) then (
 some ((ct.mk (ek.mk 11 0 0) 0 (eN.mk 0 0) false), true)) else (
 bif (decide (x0 = 25)) then (
 some ((ct.mk (ek.mk 1 11 0) 0 (eN.mk 1 0) false), true)) else (
 bif (decide (x0 = 26)) then (
 some ((ct.mk (ek.mk 12 0 0) 0 (eN.mk 0 0) true), true)) else (
 bif (decide (x0 = 27)) then (
 some ((ct.mk (ek.mk 0 0 0) 0 (eN.mk 0 0) true), true)) else (
 bif (decide (x0 = 28)) then (
 some ((ct.mk (ek.mk 2 0 0) 0 (eN.mk 1 0) false), true)) else (
 bif (decide (x0 = 29)) then (
 some ((ct.mk (ek.mk 1 0 0) 0 (eN.mk 1 0) false), true)) else (
 bif (decide (x0 = 30)) then (
 some ((ct.mk (ek.mk 1 0 0) 0 (eN.mk 1 0) true), true)) else (
 bif (decide (x0 = 31)) then (
 some ((ct.mk (ek.mk 0 0 0) 0 (eN.mk 0 0) false), true)) else (
 bif (decide (x0 = 32)) then (
 some ((ct.mk (ek.mk 1 11 0) 0 (eN.mk 1 0) true), true)) else (
 bif (decide (x0 = 33)) then (
 some ((ct.mk (ek.mk 1 13 0) 1 (eN.mk 0 0) false), true)) else (
 bif (decide (x0 = 34)) then (
 some ((ct.mk (ek.mk 13 1 0) 0 (eN.mk 2 0) false), true)) else (
 Iv v1)))))))))))))))))))
def uh (v1 : ct) (x0 : Int) (xz : Bool)  : Option (ct × Bool) :=
 bif xz then (
 some ((ct.mk (ek.mk 1 1 1) 1 (eN.mk 2 3) true), true)) else (
 bif (decide (x0 = 12)) then (
 zm v1 x0 (decide (x0 = 12))) else (
 bif (decide (x0 = 13)) then (
 zm v1 x0 (decide (x0 = 13))) else (
 zm v1 x0 (decide (x0 = 14)))))
def wE (v1 : ct) (x0 : Int) (mS : Bool)  : Option (ct × Bool) :=
 bif mS then (
 some ((ct.mk (ek.mk 1 1 0) 1 (eN.mk 2 0) false), true)) else (
 bif (decide (x0 = 6)) then (
 uh v1 x0 (decide (x0 = 6))) else (
 bif (decide (x0 = 7)) then (
 uh v1 x0 (decide (x0 = 7))) else (
 bif (decide (x0 = 8)) then (
 uh v1 x0 (decide (x0 = 8))) else (
 bif (decide (x0 = 9)) then (
 uh v1 x0 (decide (x0 = 9))) else (
 uh v1 x0 (decide (x0 = 10)))))))
def CK (v1 : ct) (x0 : Int) (xB : Bool)  : Option (ct × Bool) :=
 bif xB then (
 some ((ct.mk (ek.mk 1 0 0) 1 (eN.mk 0 0) false), true)) else (
 bif (decide (x0 = 4)) then (
 wE v1 x0 (decide (x0 = 4))) else (
 bif (decide (x0 = 11)) then (
 wE v1 x0 (decide (x0 = 11))) else (
 bif (decide (x0 = 15)) then (
 wE v1 x0 (decide (x0 = 15))) else (
 wE v1 x0 (decide (x0 = 16))))))
def ui (x0 : Int) : Option (ct × Bool) :=
 bif (decide (x0 = 1)) then (
 some ((ct.mk (ek.mk 1 3 0) 1 (eN.mk 0 0) false), true)) else (
 bif (decide (x0 = 2)) then (
 some ((ct.mk (ek.mk 1 4 0) 1 (eN.mk 0 0) false), true)) else (
 bif (decide (x0 = 3)) then (
 CK (ct.mk (ek.mk 0 0 0) 0 (eN.mk 0 0) false) x0 (decide (x0 = 3))) else (
 CK (ct.mk (ek.mk 0 0 0) 0 (eN.mk 0 0) false) x0 (decide (x0 = 5)))))
abbrev zn (c : Cx) (R : Value → W) (r : ct × Bool) : Prop := ∀ (g' h' : AH), Sep c g' h' [] → R (.tuple ⟨[(.agg ⟨[(vi r.1.bQ.e0), (vi r.1.bQ.e1), (vi r.1.bQ.e2), (vi r.1.fY), (vi r.1.cx.e0), (vi r.1.cx.e1), (.bool r.1.gi)]⟩), (.bool r.2)]⟩) h'
theorem ajF {w0 : World} {c : Cx} {g h : AH} {E R : Value → W} {r : ct × Bool} {v1 : ct} {ah : Nat}  (M : Iv v1 = some r) (S : Sep c g h [.bx ah [(vi v1.bQ.e0), (vi v1.bQ.e1), (vi v1.bQ.e2), (vi v1.fY), (vi v1.cx.e0), (vi v1.cx.e1), (.bool v1.gi)]])   (H : zn c R r) : Kq w0 E R (az ah 0) h := by
 unfold Kq
 unfold Iv at M
 refine (ic (l := [(vi 0), (vi 0), (vi 0), (vi 0), (vi 0), (vi 0), (.bool false)]) rfl).2 ?_
 refine S.cZ [(vi 0), (vi 0), (vi 0), (vi 0), (vi 0), (vi 0), (.bool false)] [(vi 0), (vi 0), (vi 0), (vi 0), (vi 0), (vi 0), (.bool false)] rfl rfl (aa rfl (aa rfl (aa rfl (aa rfl (aa rfl (aa rfl (aa rfl rfl))))))) (Nat.le_of_ble_eq_true rfl) rfl (fun h S => ?_)
 refine S.bV [(vi 0), (vi 0), (vi 0), (vi 0), (vi 0), (vi 0), (.bool false)] 0 rfl rfl rfl (by decide) ?_
 cases M
 exact H _ _  S.bj
theorem QO {w0 : World} {c : Cx} {g h : AH} {E R : Value → W} {r : ct × Bool} {v1 : ct} {x0 : Int} {xy : Bool} {ah : Nat}  (M : zm v1 x0 xy = some r) (S : Sep c g h [.bx ah [(vi v1.bQ.e0), (vi v1.bQ.e1), (vi v1.bQ.e2), (vi v1.fY), (vi v1.cx.e0), (vi v1.cx.e1), (.bool v1.gi)]])   (H : zn c R r) : Aa w0 E R (az ah 0) (vi x0) (.bool xy) h := by
 unfold Aa
 unfold zm at M
 refine bp (fun hc => ?_) (fun hc => ?_)
 · have M := aR hc M
   refine dU [(vi 1), (vi 1), (vi 1)] (by simp only [da, bH, bI, bJ, bK,  List.length_cons, List.length_nil, Nat.reduceAdd, Nat.zero_add, decide_true, Bool.and_self]) (by simp only [List.flatMap_cons, List.flatMap_nil, bH, bI, bJ, bK,  List.cons_append, List.nil_append, List.append_nil]) ?_
   refine dU [(vi 2), (vi 3)] (by simp only [da, bH, bI, bJ, bK,  List.length_cons, List.length_nil, Nat.reduceAdd, Nat.zero_add, decide_true, Bool.and_self]) (by simp only [List.flatMap_cons, List.flatMap_nil, bH, bI, bJ, bK,  List.cons_append, List.nil_append, List.append_nil]) ?_
   refine (ic (l := [(vi 1), (vi 1), (vi 1), (vi 1), (vi 2), (vi 3), (.bool false)]) (cL (m := [(vi 1), (vi 1), (vi 1)]) (l2 := [(vi 1), (vi 1), (vi 1), (vi 0), (vi 0), (vi 0), (.bool false)]) rfl rfl (Nat.le_of_ble_eq_true rfl) rfl (cL (m := [(vi 1)]) (l2 := [(vi 1), (vi 1), (vi 1), (vi 1), (vi 0), (vi 0), (.bool false)]) rfl rfl (Nat.le_of_ble_eq_true rfl) rfl (cL (m := [(vi 2), (vi 3)]) (l2 := [(vi 1), (vi 1), (vi 1), (vi 1), (vi 2), (vi 3), (.bool false)]) rfl rfl (Nat.le_of_ble_eq_true rfl) rfl rfl)))).2 ?_
   refine S.cZ [(vi 1), (vi 1), (vi 1), (vi 1), (vi 2), (vi 3), (.bool false)] [(vi 1), (vi 1), (vi 1), (vi 1), (vi 2), (vi 3), (.bool false)] rfl rfl (aa rfl (aa rfl (aa rfl (aa rfl (aa rfl (aa rfl (aa rfl rfl))))))) (Nat.le_of_ble_eq_true rfl) rfl (fun h S => ?_)
   refine S.bV [(vi 1), (vi 1), (vi 1), (vi 1), (vi 2), (vi 3), (.bool false)] 0 rfl rfl rfl (by decide) ?_
   cases M
   exact H _ _  S.bj
 · have M := aS hc M
   refine cI.2 ?_
   refine bp (fun hc => ?_) (fun hc => ?_)
   · have M := aR hc M
     refine dU [(vi 1), (vi 2), (vi 5)] (by simp only [da, bH, bI, bJ, bK,  List.length_cons, List.length_nil, Nat.reduceAdd, Nat.zero_add, decide_true, Bool.and_self]) (by simp only [List.flatMap_cons, List.flatMap_nil, bH, bI, bJ, bK,  List.cons_append, List.nil_append, List.append_nil]) ?_
     refine dU [(vi 2), (vi 0)] (by simp only [da, bH, bI, bJ, bK,  List.length_cons, List.length_nil, Nat.reduceAdd, Nat.zero_add, decide_true, Bool.and_self]) (by simp only [List.flatMap_cons, List.flatMap_nil, bH, bI, bJ, bK,  List.cons_append, List.nil_append, List.append_nil]) ?_
     refine dU [(vi 1), (vi 2), (vi 5), (vi 1), (vi 2), (vi 0), (.bool true)] (by simp only [da, bH, bI, bJ, bK,  List.length_cons, List.length_nil, Nat.reduceAdd, Nat.zero_add, decide_true, Bool.and_self]) (by simp only [List.flatMap_cons, List.flatMap_nil, bH, bI, bJ, bK,  List.cons_append, List.nil_append, List.append_nil]) ?_
     refine S.cZ [(vi 1), (vi 2), (vi 5), (vi 1), (vi 2), (vi 0), (.bool true)] [(vi 1), (vi 2), (vi 5), (vi 1), (vi 2), (vi 0), (.bool true)] rfl rfl (aa rfl (aa rfl (aa rfl (aa rfl (aa rfl (aa rfl (aa rfl rfl))))))) (Nat.le_of_ble_eq_true rfl) rfl (fun h S => ?_)
     refine S.bV [(vi 1), (vi 2), (vi 5), (vi 1), (vi 2), (vi 0), (.bool true)] 0 rfl rfl rfl (by decide) ?_
     cases M
     exact H _ _  S.bj
   · have M := aS hc M
     refine cI.2 ?_
     refine bp (fun hc => ?_) (fun hc => ?_)
     · have M := aR hc M
       refine dU [(vi 5), (vi 1), (vi 0)] (by simp only [da, bH, bI, bJ, bK,  List.length_cons, List.length_nil, Nat.reduceAdd, Nat.zero_add, decide_true, Bool.and_self]) (by simp only [List.flatMap_cons, List.flatMap_nil, bH, bI, bJ, bK,  List.cons_append, List.nil_append, List.append_nil]) ?_
       refine dU [(vi 2), (vi 0)] (by simp only [da, bH, bI, bJ, bK,  List.length_cons, List.length_nil, Nat.reduceAdd, Nat.zero_add, decide_true, Bool.and_self]) (by simp only [List.flatMap_cons, List.flatMap_nil, bH, bI, bJ, bK,  List.cons_append, List.nil_append, List.append_nil]) ?_
       refine (ic (l := [(vi 5), (vi 1), (vi 0), (vi 0), (vi 2), (vi 0), (.bool false)]) (cL (m := [(vi 5), (vi 1), (vi 0)]) (l2 := [(vi 5), (vi 1), (vi 0), (vi 0), (vi 0), (vi 0), (.bool false)]) rfl rfl (Nat.le_of_ble_eq_true rfl) rfl (cL (m := [(vi 2), (vi 0)]) (l2 := [(vi 5), (vi 1), (vi 0), (vi 0), (vi 2), (vi 0), (.bool false)]) rfl rfl (Nat.le_of_ble_eq_true rfl) rfl rfl))).2 ?_
       refine S.cZ [(vi 5), (vi 1), (vi 0), (vi 0), (vi 2), (vi 0), (.bool false)] [(vi 5), (vi 1), (vi 0), (vi 0), (vi 2), (vi 0), (.bool false)] rfl rfl (aa rfl (aa rfl (aa rfl (aa rfl (aa rfl (aa rfl (aa rfl rfl))))))) (Nat.le_of_ble_eq_true rfl) rfl (fun h S => ?_)
       refine S.bV [(vi 5), (vi 1), (vi 0), (vi 0), (vi 2), (vi 0), (.bool false)] 0 rfl rfl rfl (by decide) ?_
       cases M
       exact H _ _  S.bj
     · have M := aS hc M
       refine cI.2 ?_
       refine bp (fun hc => ?_) (fun hc => ?_)
       · have M := aR hc M
         refine dU [(vi 6), (vi 1), (vi 0)] (by simp only [da, bH, bI, bJ, bK,  List.length_cons, List.length_nil, Nat.reduceAdd, Nat.zero_add, decide_true, Bool.and_self]) (by simp only [List.flatMap_cons, List.flatMap_nil, bH, bI, bJ, bK,  List.cons_append, List.nil_append, List.append_nil]) ?_
         refine dU [(vi 2), (vi 0)] (by simp only [da, bH, bI, bJ, bK,  List.length_cons, List.length_nil, Nat.reduceAdd, Nat.zero_add, decide_true, Bool.and_self]) (by simp only [List.flatMap_cons, List.flatMap_nil, bH, bI, bJ, bK,  List.cons_append, List.nil_append, List.append_nil]) ?_
         refine (ic (l := [(vi 6), (vi 1), (vi 0), (vi 0), (vi 2), (vi 0), (.bool false)]) (cL (m := [(vi 6), (vi 1), (vi 0)]) (l2 := [(vi 6), (vi 1), (vi 0), (vi 0), (vi 0), (vi 0), (.bool false)]) rfl rfl (Nat.le_of_ble_eq_true rfl) rfl (cL (m := [(vi 2), (vi 0)]) (l2 := [(vi 6), (vi 1), (vi 0), (vi 0), (vi 2), (vi 0), (.bool false)]) rfl rfl (Nat.le_of_ble_eq_true rfl) rfl rfl))).2 ?_
         refine S.cZ [(vi 6), (vi 1), (vi 0), (vi 0), (vi 2), (vi 0), (.bool false)] [(vi 6), (vi 1), (vi 0), (vi 0), (vi 2), (vi 0), (.bool false)] rfl rfl (aa rfl (aa rfl (aa rfl (aa rfl (aa rfl (aa rfl (aa rfl rfl))))))) (Nat.le_of_ble_eq_true rfl) rfl (fun h S => ?_)
         refine S.bV [(vi 6), (vi 1), (vi 0), (vi 0), (vi 2), (vi 0), (.bool false)] 0 rfl rfl rfl (by decide) ?_
         cases M
         exact H _ _  S.bj
       · have M := aS hc M
         refine cI.2 ?_
         refine bp (fun hc => ?_) (fun hc => ?_)
         · have M := aR hc M
           refine dU [(vi 7), (vi 2), (vi 8)] (by simp only [da, bH, bI, bJ, bK,  List.length_cons, List.length_nil, Nat.reduceAdd, Nat.zero_add, decide_true, Bool.and_self]) (by simp only [List.flatMap_cons, List.flatMap_nil, bH, bI, bJ, bK,  List.cons_append, List.nil_append, List.append_nil]) ?_
           refine dU [(vi 2), (vi 0)] (by simp only [da, bH, bI, bJ, bK,  List.length_cons, List.length_nil, Nat.reduceAdd, Nat.zero_add, decide_true, Bool.and_self]) (by simp only [List.flatMap_cons, List.flatMap_nil, bH, bI, bJ, bK,  List.cons_append, List.nil_append, List.append_nil]) ?_
           refine dU [(vi 7), (vi 2), (vi 8), (vi 1), (vi 2), (vi 0), (.bool true)] (by simp only [da, bH, bI, bJ, bK,  List.length_cons, List.length_nil, Nat.reduceAdd, Nat.zero_add, decide_true, Bool.and_self]) (by simp only [List.flatMap_cons, List.flatMap_nil, bH, bI, bJ, bK,  List.cons_append, List.nil_append, List.append_nil]) ?_
           refine S.cZ [(vi 7), (vi 2), (vi 8), (vi 1), (vi 2), (vi 0), (.bool true)] [(vi 7), (vi 2), (vi 8), (vi 1), (vi 2), (vi 0), (.bool true)] rfl rfl (aa rfl (aa rfl (aa rfl (aa rfl (aa rfl (aa rfl (aa rfl rfl))))))) (Nat.le_of_ble_eq_true rfl) rfl (fun h S => ?_)
           refine S.bV [(vi 7), (vi 2), (vi 8), (vi 1), (vi 2), (vi 0), (.bool true)] 0 rfl rfl rfl (by decide) ?_
           cases M
           exact H _ _  S.bj
         · have M := aS hc M
           refine cI.2 ?_
           refine bp (fun hc => ?_) (fun hc => ?_)
           · have M := aR hc M
             refine dU [(vi 1), (vi 9), (vi 4)] (by simp only [da, bH, bI, bJ, bK,  List.length_cons, List.length_nil, Nat.reduceAdd, Nat.zero_add, decide_true, Bool.and_self]) (by simp only [List.flatMap_cons, List.flatMap_nil, bH, bI, bJ, bK,  List.cons_append, List.nil_append, List.append_nil]) ?_
             refine (ic (l := [(vi 1), (vi 9), (vi 4), (vi 1), (vi 0), (vi 0), (.bool true)]) (cL (m := [(vi 1), (vi 9), (vi 4)]) (l2 := [(vi 1), (vi 9), (vi 4), (vi 0), (vi 0), (vi 0), (.bool false)]) rfl rfl (Nat.le_of_ble_eq_true rfl) rfl (cL (m := [(vi 1)]) (l2 := [(vi 1), (vi 9), (vi 4), (vi 1), (vi 0), (vi 0), (.bool false)]) rfl rfl (Nat.le_of_ble_eq_true rfl) rfl (cL (m := [(.bool true)]) (l2 := [(vi 1), (vi 9), (vi 4), (vi 1), (vi 0), (vi 0), (.bool true)]) rfl rfl (Nat.le_of_ble_eq_true rfl) rfl rfl)))).2 ?_
             refine S.cZ [(vi 1), (vi 9), (vi 4), (vi 1), (vi 0), (vi 0), (.bool true)] [(vi 1), (vi 9), (vi 4), (vi 1), (vi 0), (vi 0), (.bool true)] rfl rfl (aa rfl (aa rfl (aa rfl (aa rfl (aa rfl (aa rfl (aa rfl rfl))))))) (Nat.le_of_ble_eq_true rfl) rfl (fun h S => ?_)
             refine S.bV [(vi 1), (vi 9), (vi 4), (vi 1), (vi 0), (vi 0), (.bool true)] 0 rfl rfl rfl (by decide) ?_
             cases M
             exact H _ _  S.bj
           · have M := aS hc M
             refine cI.2 ?_
             refine bp (fun hc => ?_) (fun hc => ?_)
             · have M := aR hc M
               refine dU [(vi 1), (vi 10), (vi 0)] (by simp only [da, bH, bI, bJ, bK,  List.length_cons, List.length_nil, Nat.reduceAdd, Nat.zero_add, decide_true, Bool.and_self]) (by simp only [List.flatMap_cons, List.flatMap_nil, bH, bI, bJ, bK,  List.cons_append, List.nil_append, List.append_nil]) ?_
               refine dU [(vi 1), (vi 0)] (by simp only [da, bH, bI, bJ, bK,  List.length_cons, List.length_nil, Nat.reduceAdd, Nat.zero_add, decide_true, Bool.and_self]) (by simp only [List.flatMap_cons, List.flatMap_nil, bH, bI, bJ, bK,  List.cons_append, List.nil_append, List.append_nil]) ?_
               refine (ic (l := [(vi 1), (vi 10), (vi 0), (vi 0), (vi 1), (vi 0), (.bool true)]) (cL (m := [(vi 1), (vi 10), (vi 0)]) (l2 := [(vi 1), (vi 10), (vi 0), (vi 0), (vi 0), (vi 0), (.bool false)]) rfl rfl (Nat.le_of_ble_eq_true rfl) rfl (cL (m := [(vi 1), (vi 0)]) (l2 := [(vi 1), (vi 10), (vi 0), (vi 0), (vi 1), (vi 0), (.bool false)]) rfl rfl (Nat.le_of_ble_eq_true rfl) rfl (cL (m := [(.bool true)]) (l2 := [(vi 1), (vi 10), (vi 0), (vi 0), (vi 1), (vi 0), (.bool true)]) rfl rfl (Nat.le_of_ble_eq_true rfl) rfl rfl)))).2 ?_
               refine S.cZ [(vi 1), (vi 10), (vi 0), (vi 0), (vi 1), (vi 0), (.bool true)] [(vi 1), (vi 10), (vi 0), (vi 0), (vi 1), (vi 0), (.bool true)] rfl rfl (aa rfl (aa rfl (aa rfl (aa rfl (aa rfl (aa rfl (aa rfl rfl))))))) (Nat.le_of_ble_eq_true rfl) rfl (fun h S => ?_)
               refine S.bV [(vi 1), (vi 10), (vi 0), (vi 0), (vi 1), (vi 0), (.bool true)] 0 rfl rfl rfl (by decide) ?_
               cases M
               exact H _ _  S.bj
             · have M := aS hc M
               refine cI.2 ?_
               refine bp (fun hc => ?_) (fun hc => ?_)
               · have M := aR hc M
                 refine dU [(vi 2), (vi 0), (vi 0)] (by simp only [da, bH, bI, bJ, bK,  List.length_cons, List.length_nil, Nat.reduceAdd, Nat.zero_add, decide_true, Bool.and_self]) (by simp only [List.flatMap_cons, List.flatMap_nil, bH, bI, bJ, bK,  List.cons_append, List.nil_append, List.append_nil]) ?_
                 refine dU [(vi 1), (vi 0)] (by simp only [da, bH, bI, bJ, bK,  List.length_cons, List.length_nil, Nat.reduceAdd, Nat.zero_add, decide_true, Bool.and_self]) (by simp only [List.flatMap_cons, List.flatMap_nil, bH, bI, bJ, bK,  List.cons_append, List.nil_append, List.append_nil]) ?_
                 refine (ic (l := [(vi 2), (vi 0), (vi 0), (vi 0), (vi 1), (vi 0), (.bool true)]) (cL (m := [(vi 2), (vi 0), (vi 0)]) (l2 := [(vi 2), (vi 0), (vi 0), (vi 0), (vi 0), (vi 0), (.bool false)]) rfl rfl (Nat.le_of_ble_eq_true rfl) rfl (cL (m := [(vi 1), (vi 0)]) (l2 := [(vi 2), (vi 0), (vi 0), (vi 0), (vi 1), (vi 0), (.bool false)]) rfl rfl (Nat.le_of_ble_eq_true rfl) rfl (cL (m := [(.bool true)]) (l2 := [(vi 2), (vi 0), (vi 0), (vi 0), (vi 1), (vi 0), (.bool true)]) rfl rfl (Nat.le_of_ble_eq_true rfl) rfl rfl)))).2 ?_
                 refine S.cZ [(vi 2), (vi 0), (vi 0), (vi 0), (vi 1), (vi 0), (.bool true)] [(vi 2), (vi 0), (vi 0), (vi 0), (vi 1), (vi 0), (.bool true)] rfl rfl (aa rfl (aa rfl (aa rfl (aa rfl (aa rfl (aa rfl (aa rfl rfl))))))) (Nat.le_of_ble_eq_true rfl) rfl (fun h S => ?_)
                 refine S.bV [(vi 2), (vi 0), (vi 0), (vi 0), (vi 1), (vi 0), (.bool true)] 0 rfl rfl rfl (by decide) ?_
                 cases M
                 exact H _ _  S.bj
               · have M := aS hc M
                 refine cI.2 ?_
                 refine bp (fun hc => ?_) (fun hc => ?_)
                 · have M := aR hc M
                   refine dU [(vi 11), (vi 0), (vi 0)] (by simp only [da, bH, bI, bJ, bK,  List.length_cons, List.length_nil, Nat.reduceAdd, Nat.zero_add, decide_true, Bool.and_self]) (by simp only [List.flatMap_cons, List.flatMap_nil, bH, bI, bJ, bK,  List.cons_append, List.nil_append, List.append_nil]) ?_
                   refine (ic (l := [(vi 11), (vi 0), (vi 0), (vi 0), (vi 0), (vi 0), (.bool false)]) (cL (m := [(vi 11), (vi 0), (vi 0)]) (l2 := [(vi 11), (vi 0), (vi 0), (vi 0), (vi 0), (vi 0), (.bool false)]) rfl rfl (Nat.le_of_ble_eq_true rfl) rfl rfl)).2 ?_
                   refine S.cZ [(vi 11), (vi 0), (vi 0), (vi 0), (vi 0), (vi 0), (.bool false)] [(vi 11), (vi 0), (vi 0), (vi 0), (vi 0), (vi 0), (.bool false)] rfl rfl (aa rfl (aa rfl (aa rfl (aa rfl (aa rfl (aa rfl (aa rfl rfl))))))) (Nat.le_of_ble_eq_true rfl) rfl (fun h S => ?_)
                   refine S.bV [(vi 11), (vi 0), (vi 0), (vi 0), (vi 0), (vi 0), (.bool false)] 0 rfl rfl rfl (by decide) ?_
                   cases M
                   exact H _ _  S.bj
                 · have M := aS hc M
                   refine cI.2 ?_
                   refine bp (fun hc => ?_) (fun hc => ?_)
                   · have M := aR hc M
                     refine dU [(vi 1), (vi 11), (vi 0)] (by simp only [da, bH, bI, bJ, bK,  List.length_cons, List.length_nil, Nat.reduceAdd, Nat.zero_add, decide_true, Bool.and_self]) (by simp only [List.flatMap_cons, List.flatMap_nil, bH, bI, bJ, bK,  List.cons_append, List.nil_append, List.append_nil]) ?_
                     refine dU [(vi 1), (vi 0)] (by simp only [da, bH, bI, bJ, bK,  List.length_cons, List.length_nil, Nat.reduceAdd, Nat.zero_add, decide_true, Bool.and_self]) (by simp only [List.flatMap_cons, List.flatMap_nil, bH, bI, bJ, bK,  List.cons_append, List.nil_append, List.append_nil]) ?_
                     refine (ic (l := [(vi 1), (vi 11), (vi 0), (vi 0), (vi 1), (vi 0), (.bool false)]) (cL (m := [(vi 1), (vi 11), (vi 0)]) (l2 := [(vi 1), (vi 11), (vi 0), (vi 0), (vi 0), (vi 0), (.bool false)]) rfl rfl (Nat.le_of_ble_eq_true rfl) rfl (cL (m := [(vi 1), (vi 0)]) (l2 := [(vi 1), (vi 11), (vi 0), (vi 0), (vi 1), (vi 0), (.bool false)]) rfl rfl (Nat.le_of_ble_eq_true rfl) rfl rfl))).2 ?_
                     refine S.cZ [(vi 1), (vi 11), (vi 0), (vi 0), (vi 1), (vi 0), (.bool false)] [(vi 1), (vi 11), (vi 0), (vi 0), (vi 1), (vi 0), (.bool false)] rfl rfl (aa rfl (aa rfl (aa rfl (aa rfl (aa rfl (aa rfl (aa rfl rfl))))))) (Nat.le_of_ble_eq_true rfl) rfl (fun h S => ?_)
                     refine S.bV [(vi 1), (vi 11), (vi 0), (vi 0), (vi 1), (vi 0), (.bool false)] 0 rfl rfl rfl (by decide) ?_
                     cases M
                     exact H _ _  S.bj
                   · have M := aS hc M
                     refine cI.2 ?_
                     refine bp (fun hc => ?_) (fun hc => ?_)
                     · have M := aR hc M
                       refine dU [(vi 12), (vi 0), (vi 0)] (by simp only [da, bH, bI, bJ, bK,  List.length_cons, List.length_nil, Nat.reduceAdd, Nat.zero_add, decide_true, Bool.and_self]) (by simp only [List.flatMap_cons, List.flatMap_nil, bH, bI, bJ, bK,  List.cons_append, List.nil_append, List.append_nil]) ?_
                       refine (ic (l := [(vi 12), (vi 0), (vi 0), (vi 0), (vi 0), (vi 0), (.bool true)]) (cL (m := [(vi 12), (vi 0), (vi 0)]) (l2 := [(vi 12), (vi 0), (vi 0), (vi 0), (vi 0), (vi 0), (.bool false)]) rfl rfl (Nat.le_of_ble_eq_true rfl) rfl (cL (m := [(.bool true)]) (l2 := [(vi 12), (vi 0), (vi 0), (vi 0), (vi 0), (vi 0), (.bool true)]) rfl rfl (Nat.le_of_ble_eq_true rfl) rfl rfl))).2 ?_
                       refine S.cZ [(vi 12), (vi 0), (vi 0), (vi 0), (vi 0), (vi 0), (.bool true)] [(vi 12), (vi 0), (vi 0), (vi 0), (vi 0), (vi 0), (.bool true)] rfl rfl (aa rfl (aa rfl (aa rfl (aa rfl (aa rfl (aa rfl (aa rfl rfl))))))) (Nat.le_of_ble_eq_true rfl) rfl (fun h S => ?_)
                       refine S.bV [(vi 12), (vi 0), (vi 0), (vi 0), (vi 0), (vi 0), (.bool true)] 0 rfl rfl rfl (by decide) ?_
                       cases M
                       exact H _ _  S.bj
                     · have M := aS hc M
                       refine cI.2 ?_
                       refine bp (fun hc => ?_) (fun hc => ?_)
                       · have M := aR hc M
                         refine (ic (l := [(vi 0), (vi 0), (vi 0), (vi 0), (vi 0), (vi 0), (.bool true)]) (cL (m := [(.bool true)]) (l2 := [(vi 0), (vi 0), (vi 0), (vi 0), (vi 0), (vi 0), (.bool true)]) rfl rfl (Nat.le_of_ble_eq_true rfl) rfl rfl)).2 ?_
                         refine S.cZ [(vi 0), (vi 0), (vi 0), (vi 0), (vi 0), (vi 0), (.bool true)] [(vi 0), (vi 0), (vi 0), (vi 0), (vi 0), (vi 0), (.bool true)] rfl rfl (aa rfl (aa rfl (aa rfl (aa rfl (aa rfl (aa rfl (aa rfl rfl))))))) (Nat.le_of_ble_eq_true rfl) rfl (fun h S => ?_)
                         refine S.bV [(vi 0), (vi 0), (vi 0), (vi 0), (vi 0), (vi 0), (.bool true)] 0 rfl rfl rfl (by decide) ?_
                         cases M
                         exact H _ _  S.bj
                       · have M := aS hc M
                         refine cI.2 ?_
                         refine bp (fun hc => ?_) (fun hc => ?_)
                         · have M := aR hc M
                           refine dU [(vi 2), (vi 0), (vi 0)] (by simp only [da, bH, bI, bJ, bK,  List.length_cons, List.length_nil, Nat.reduceAdd, Nat.zero_add, decide_true, Bool.and_self]) (by simp only [List.flatMap_cons, List.flatMap_nil, bH, bI, bJ, bK,  List.cons_append, List.nil_append, List.append_nil]) ?_
                           refine dU [(vi 1), (vi 0)] (by simp only [da, bH, bI, bJ, bK,  List.length_cons, List.length_nil, Nat.reduceAdd, Nat.zero_add, decide_true, Bool.and_self]) (by simp only [List.flatMap_cons, List.flatMap_nil, bH, bI, bJ, bK,  List.cons_append, List.nil_append, List.append_nil]) ?_
                           refine (ic (l := [(vi 2), (vi 0), (vi 0), (vi 0), (vi 1), (vi 0), (.bool false)]) (cL (m := [(vi 2), (vi 0), (vi 0)]) (l2 := [(vi 2), (vi 0), (vi 0), (vi 0), (vi 0), (vi 0), (.bool false)]) rfl rfl (Nat.le_of_ble_eq_true rfl) rfl (cL (m := [(vi 1), (vi 0)]) (l2 := [(vi 2), (vi 0), (vi 0), (vi 0), (vi 1), (vi 0), (.bool false)]) rfl rfl (Nat.le_of_ble_eq_true rfl) rfl rfl))).2 ?_
                           refine S.cZ [(vi 2), (vi 0), (vi 0), (vi 0), (vi 1), (vi 0), (.bool false)] [(vi 2), (vi 0), (vi 0), (vi 0), (vi 1), (vi 0), (.bool false)] rfl rfl (aa rfl (aa rfl (aa rfl (aa rfl (aa rfl (aa rfl (aa rfl rfl))))))) (Nat.le_of_ble_eq_true rfl) rfl (fun h S => ?_)
                           refine S.bV [(vi 2), (vi 0), (vi 0), (vi 0), (vi 1), (vi 0), (.bool false)] 0 rfl rfl rfl (by decide) ?_
                           cases M
                           exact H _ _  S.bj
                         · have M := aS hc M
                           refine cI.2 ?_
                           refine bp (fun hc => ?_) (fun hc => ?_)
                           · have M := aR hc M
                             refine dU [(vi 1), (vi 0), (vi 0)] (by simp only [da, bH, bI, bJ, bK,  List.length_cons, List.length_nil, Nat.reduceAdd, Nat.zero_add, decide_true, Bool.and_self]) (by simp only [List.flatMap_cons, List.flatMap_nil, bH, bI, bJ, bK,  List.cons_append, List.nil_append, List.append_nil]) ?_
                             refine dU [(vi 1), (vi 0)] (by simp only [da, bH, bI, bJ, bK,  List.length_cons, List.length_nil, Nat.reduceAdd, Nat.zero_add, decide_true, Bool.and_self]) (by simp only [List.flatMap_cons, List.flatMap_nil, bH, bI, bJ, bK,  List.cons_append, List.nil_append, List.append_nil]) ?_
                             refine (ic (l := [(vi 1), (vi 0), (vi 0), (vi 0), (vi 1), (vi 0), (.bool false)]) (cL (m := [(vi 1), (vi 0), (vi 0)]) (l2 := [(vi 1), (vi 0), (vi 0), (vi 0), (vi 0), (vi 0), (.bool false)]) rfl rfl (Nat.le_of_ble_eq_true rfl) rfl (cL (m := [(vi 1), (vi 0)]) (l2 := [(vi 1), (vi 0), (vi 0), (vi 0), (vi 1), (vi 0), (.bool false)]) rfl rfl (Nat.le_of_ble_eq_true rfl) rfl rfl))).2 ?_
                             refine S.cZ [(vi 1), (vi 0), (vi 0), (vi 0), (vi 1), (vi 0), (.bool false)] [(vi 1), (vi 0), (vi 0), (vi 0), (vi 1), (vi 0), (.bool false)] rfl rfl (aa rfl (aa rfl (aa rfl (aa rfl (aa rfl (aa rfl (aa rfl rfl))))))) (Nat.le_of_ble_eq_true rfl) rfl (fun h S => ?_)
                             refine S.bV [(vi 1), (vi 0), (vi 0), (vi 0), (vi 1), (vi 0), (.bool false)] 0 rfl rfl rfl (by decide) ?_
                             cases M
                             exact H _ _  S.bj
                           · have M := aS hc M
                             refine cI.2 ?_
                             refine bp (fun hc => ?_) (fun hc => ?_)
                             · have M := aR hc M
                               refine dU [(vi 1), (vi 0), (vi 0)] (by simp only [da, bH, bI, bJ, bK,  List.length_cons, List.length_nil, Nat.reduceAdd, Nat.zero_add, decide_true, Bool.and_self]) (by simp only [List.flatMap_cons, List.flatMap_nil, bH, bI, bJ, bK,  List.cons_append, List.nil_append, List.append_nil]) ?_
                               refine dU [(vi 1), (vi 0)] (by simp only [da, bH, bI, bJ, bK,  List.length_cons, List.length_nil, Nat.reduceAdd, Nat.zero_add, decide_true, Bool.and_self]) (by simp only [List.flatMap_cons, List.flatMap_nil, bH, bI, bJ, bK,  List.cons_append, List.nil_append, List.append_nil]) ?_
                               refine (ic (l := [(vi 1), (vi 0), (vi 0), (vi 0), (vi 1), (vi 0), (.bool true)]) (cL (m := [(vi 1), (vi 0), (vi 0)]) (l2 := [(vi 1), (vi 0), (vi 0), (vi 0), (vi 0), (vi 0), (.bool false)]) rfl rfl (Nat.le_of_ble_eq_true rfl) rfl (cL (m := [(vi 1), (vi 0)]) (l2 := [(vi 1), (vi 0), (vi 0), (vi 0), (vi 1), (vi 0), (.bool false)]) rfl rfl (Nat.le_of_ble_eq_true rfl) rfl (cL (m := [(.bool true)]) (l2 := [(vi 1), (vi 0), (vi 0), (vi 0), (vi 1), (vi 0), (.bool true)]) rfl rfl (Nat.le_of_ble_eq_true rfl) rfl rfl)))).2 ?_
                               refine S.cZ [(vi 1), (vi 0), (vi 0), (vi 0), (vi 1), (vi 0), (.bool true)] [(vi 1), (vi 0), (vi 0), (vi 0), (vi 1), (vi 0), (.bool true)] rfl rfl (aa rfl (aa rfl (aa rfl (aa rfl (aa rfl (aa rfl (aa rfl rfl))))))) (Nat.le_of_ble_eq_true rfl) rfl (fun h S => ?_)
                               refine S.bV [(vi 1), (vi 0), (vi 0), (vi 0), (vi 1), (vi 0), (.bool true)] 0 rfl rfl rfl (by decide) ?_
                               cases M
                               exact H _ _  S.bj
                             · have M := aS hc M
                               refine cI.2 ?_
                               refine bp (fun hc => ?_) (fun hc => ?_)
                               · have M := aR hc M
                                 refine (ic (l := [(vi 0), (vi 0), (vi 0), (vi 0), (vi 0), (vi 0), (.bool false)]) rfl).2 ?_
                                 refine S.cZ [(vi 0), (vi 0), (vi 0), (vi 0), (vi 0), (vi 0), (.bool false)] [(vi 0), (vi 0), (vi 0), (vi 0), (vi 0), (vi 0), (.bool false)] rfl rfl (aa rfl (aa rfl (aa rfl (aa rfl (aa rfl (aa rfl (aa rfl rfl))))))) (Nat.le_of_ble_eq_true rfl) rfl (fun h S => ?_)
                                 refine S.bV [(vi 0), (vi 0), (vi 0), (vi 0), (vi 0), (vi 0), (.bool false)] 0 rfl rfl rfl (by decide) ?_
                                 cases M
                                 exact H _ _  S.bj
                               · have M := aS hc M
                                 refine cI.2 ?_
                                 refine bp (fun hc => ?_) (fun hc => ?_)
                                 · have M := aR hc M
                                   refine dU [(vi 1), (vi 11), (vi 0)] (by simp only [da, bH, bI, bJ, bK,  List.length_cons, List.length_nil, Nat.reduceAdd, Nat.zero_add, decide_true, Bool.and_self]) (by simp only [List.flatMap_cons, List.flatMap_nil, bH, bI, bJ, bK,  List.cons_append, List.nil_append, List.append_nil]) ?_
                                   refine dU [(vi 1), (vi 0)] (by simp only [da, bH, bI, bJ, bK,  List.length_cons, List.length_nil, Nat.reduceAdd, Nat.zero_add, decide_true, Bool.and_self]) (by simp only [List.flatMap_cons, List.flatMap_nil, bH, bI, bJ, bK,  List.cons_append, List.nil_append, List.append_nil]) ?_
                                   refine (ic (l := [(vi 1), (vi 11), (vi 0), (vi 0), (vi 1), (vi 0), (.bool true)]) (cL (m := [(vi 1), (vi 11), (vi 0)]) (l2 := [(vi 1), (vi 11), (vi 0), (vi 0), (vi 0), (vi 0), (.bool false)]) rfl rfl (Nat.le_of_ble_eq_true rfl) rfl (cL (m := [(vi 1), (vi 0)]) (l2 := [(vi 1), (vi 11), (vi 0), (vi 0), (vi 1), (vi 0), (.bool false)]) rfl rfl (Nat.le_of_ble_eq_true rfl) rfl (cL (m := [(.bool true)]) (l2 := [(vi 1), (vi 11), (vi 0), (vi 0), (vi 1), (vi 0), (.bool true)]) rfl rfl (Nat.le_of_ble_eq_true rfl) rfl rfl)))).2 ?_
                                   refine S.cZ [(vi 1), (vi 11), (vi 0), (vi 0), (vi 1), (vi 0), (.bool true)] [(vi 1), (vi 11), (vi 0), (vi 0), (vi 1), (vi 0), (.bool true)] rfl rfl (aa rfl (aa rfl (aa rfl (aa rfl (aa rfl (aa rfl (aa rfl rfl))))))) (Nat.le_of_ble_eq_true rfl) rfl (fun h S => ?_)
                                   refine S.bV [(vi 1), (vi 11), (vi 0), (vi 0), (vi 1), (vi 0), (.bool true)] 0 rfl rfl rfl (by decide) ?_
                                   cases M
                                   exact H _ _  S.bj
                                 · have M := aS hc M
                                   refine cI.2 ?_
                                   refine bp (fun hc => ?_) (fun hc => ?_)
                                   · have M := aR hc M
                                     refine dU [(vi 1), (vi 13), (vi 0)] (by simp only [da, bH, bI, bJ, bK,  List.length_cons, List.length_nil, Nat.reduceAdd, Nat.zero_add, decide_true, Bool.and_self]) (by simp only [List.flatMap_cons, List.flatMap_nil, bH, bI, bJ, bK,  List.cons_append, List.nil_append, List.append_nil]) ?_
                                     refine (ic (l := [(vi 1), (vi 13), (vi 0), (vi 1), (vi 0), (vi 0), (.bool false)]) (cL (m := [(vi 1), (vi 13), (vi 0)]) (l2 := [(vi 1), (vi 13), (vi 0), (vi 0), (vi 0), (vi 0), (.bool false)]) rfl rfl (Nat.le_of_ble_eq_true rfl) rfl (cL (m := [(vi 1)]) (l2 := [(vi 1), (vi 13), (vi 0), (vi 1), (vi 0), (vi 0), (.bool false)]) rfl rfl (Nat.le_of_ble_eq_true rfl) rfl rfl))).2 ?_
                                     refine S.cZ [(vi 1), (vi 13), (vi 0), (vi 1), (vi 0), (vi 0), (.bool false)] [(vi 1), (vi 13), (vi 0), (vi 1), (vi 0), (vi 0), (.bool false)] rfl rfl (aa rfl (aa rfl (aa rfl (aa rfl (aa rfl (aa rfl (aa rfl rfl))))))) (Nat.le_of_ble_eq_true rfl) rfl (fun h S => ?_)
                                     refine S.bV [(vi 1), (vi 13), (vi 0), (vi 1), (vi 0), (vi 0), (.bool false)] 0 rfl rfl rfl (by decide) ?_
                                     cases M
                                     exact H _ _  S.bj
                                   · have M := aS hc M
                                     refine cI.2 ?_
                                     refine bp (fun hc => ?_) (fun hc => ?_)
                                     · have M := aR hc M
                                       refine dU [(vi 13), (vi 1), (vi 0)] (by simp only [da, bH, bI, bJ, bK,  List.length_cons, List.length_nil, Nat.reduceAdd, Nat.zero_add, decide_true, Bool.and_self]) (by simp only [List.flatMap_cons, List.flatMap_nil, bH, bI, bJ, bK,  List.cons_append, List.nil_append, List.append_nil]) ?_
                                       refine dU [(vi 2), (vi 0)] (by simp only [da, bH, bI, bJ, bK,  List.length_cons, List.length_nil, Nat.reduceAdd, Nat.zero_add, decide_true, Bool.and_self]) (by simp only [List.flatMap_cons, List.flatMap_nil, bH, bI, bJ, bK,  List.cons_append, List.nil_append, List.append_nil]) ?_
                                       refine (ic (l := [(vi 13), (vi 1), (vi 0), (vi 0), (vi 2), (vi 0), (.bool false)]) (cL (m := [(vi 13), (vi 1), (vi 0)]) (l2 := [(vi 13), (vi 1), (vi 0), (vi 0), (vi 0), (vi 0), (.bool false)]) rfl rfl (Nat.le_of_ble_eq_true rfl) rfl (cL (m := [(vi 2), (vi 0)]) (l2 := [(vi 13), (vi 1), (vi 0), (vi 0), (vi 2), (vi 0), (.bool false)]) rfl rfl (Nat.le_of_ble_eq_true rfl) rfl rfl))).2 ?_
                                       refine S.cZ [(vi 13), (vi 1), (vi 0), (vi 0), (vi 2), (vi 0), (.bool false)] [(vi 13), (vi 1), (vi 0), (vi 0), (vi 2), (vi 0), (.bool false)] rfl rfl (aa rfl (aa rfl (aa rfl (aa rfl (aa rfl (aa rfl (aa rfl rfl))))))) (Nat.le_of_ble_eq_true rfl) rfl (fun h S => ?_)
                                       refine S.bV [(vi 13), (vi 1), (vi 0), (vi 0), (vi 2), (vi 0), (.bool false)] 0 rfl rfl rfl (by decide) ?_
                                       cases M
                                       exact H _ _  S.bj
                                     · have M := aS hc M
                                       exact ajF M S  H
theorem CL {w0 : World} {c : Cx} {g h : AH} {E R : Value → W} {r : ct × Bool} {v1 : ct} {x0 : Int} {xz : Bool} {ah : Nat}  (M : uh v1 x0 xz = some r) (S : Sep c g h [.bx ah [(vi v1.bQ.e0), (vi v1.bQ.e1), (vi v1.bQ.e2), (vi v1.fY), (vi v1.cx.e0), (vi v1.cx.e1), (.bool v1.gi)]])   (H : zn c R r) : uL w0 E R (az ah 0) (vi x0) (.bool xz) h := by
 unfold uL
 unfold uh at M
 refine bp (fun hc => ?_) (fun hc => ?_)
 · have M := aR hc M
   refine dU [(vi 1), (vi 1), (vi 1)] (by simp only [da, bH, bI, bJ, bK,  List.length_cons, List.length_nil, Nat.reduceAdd, Nat.zero_add, decide_true, Bool.and_self]) (by simp only [List.flatMap_cons, List.flatMap_nil, bH, bI, bJ, bK,  List.cons_append, List.nil_append, List.append_nil]) ?_
   refine dU [(vi 2), (vi 3)] (by simp only [da, bH, bI, bJ, bK,  List.length_cons, List.length_nil, Nat.reduceAdd, Nat.zero_add, decide_true, Bool.and_self]) (by simp only [List.flatMap_cons, List.flatMap_nil, bH, bI, bJ, bK,  List.cons_append, List.nil_append, List.append_nil]) ?_
   refine dU [(vi 1), (vi 1), (vi 1), (vi 1), (vi 2), (vi 3), (.bool true)] (by simp only [da, bH, bI, bJ, bK,  List.length_cons, List.length_nil, Nat.reduceAdd, Nat.zero_add, decide_true, Bool.and_self]) (by simp only [List.flatMap_cons, List.flatMap_nil, bH, bI, bJ, bK,  List.cons_append, List.nil_append, List.append_nil]) ?_
   refine S.cZ [(vi 1), (vi 1), (vi 1), (vi 1), (vi 2), (vi 3), (.bool true)] [(vi 1), (vi 1), (vi 1), (vi 1), (vi 2), (vi 3), (.bool true)] rfl rfl (aa rfl (aa rfl (aa rfl (aa rfl (aa rfl (aa rfl (aa rfl rfl))))))) (Nat.le_of_ble_eq_true rfl) rfl (fun h S => ?_)
   refine S.bV [(vi 1), (vi 1), (vi 1), (vi 1), (vi 2), (vi 3), (.bool true)] 0 rfl rfl rfl (by decide) ?_
   cases M
   exact H _ _  S.bj
 · have M := aS hc M
   refine cI.2 ?_
   refine bp (fun hc => ?_) (fun hc => ?_)
   · have M := aR hc M
     exact QO M S  H
   · have M := aS hc M
     refine cI.2 ?_
     refine bp (fun hc => ?_) (fun hc => ?_)
     · have M := aR hc M
       exact QO M S  H
     · have M := aS hc M
       refine cI.2 ?_
       exact QO M S  H
theorem Iw {w0 : World} {c : Cx} {g h : AH} {E R : Value → W} {r : ct × Bool} {v1 : ct} {x0 : Int} {mS : Bool} {ah : Nat}  (M : wE v1 x0 mS = some r) (S : Sep c g h [.bx ah [(vi v1.bQ.e0), (vi v1.bQ.e1), (vi v1.bQ.e2), (vi v1.fY), (vi v1.cx.e0), (vi v1.cx.e1), (.bool v1.gi)]])   (H : zn c R r) : xA w0 E R (az ah 0) (vi x0) (.bool mS) h := by
 unfold xA
 unfold wE at M
 refine bp (fun hc => ?_) (fun hc => ?_)
 · have M := aR hc M
   refine dU [(vi 1), (vi 1), (vi 0)] (by simp only [da, bH, bI, bJ, bK,  List.length_cons, List.length_nil, Nat.reduceAdd, Nat.zero_add, decide_true, Bool.and_self]) (by simp only [List.flatMap_cons, List.flatMap_nil, bH, bI, bJ, bK,  List.cons_append, List.nil_append, List.append_nil]) ?_
   refine dU [(vi 2), (vi 0)] (by simp only [da, bH, bI, bJ, bK,  List.length_cons, List.length_nil, Nat.reduceAdd, Nat.zero_add, decide_true, Bool.and_self]) (by simp only [List.flatMap_cons, List.flatMap_nil, bH, bI, bJ, bK,  List.cons_append, List.nil_append, List.append_nil]) ?_
   refine (ic (l := [(vi 1), (vi 1), (vi 0), (vi 1), (vi 2), (vi 0), (.bool false)]) (cL (m := [(vi 1), (vi 1), (vi 0)]) (l2 := [(vi 1), (vi 1), (vi 0), (vi 0), (vi 0), (vi 0), (.bool false)]) rfl rfl (Nat.le_of_ble_eq_true rfl) rfl (cL (m := [(vi 1)]) (l2 := [(vi 1), (vi 1), (vi 0), (vi 1), (vi 0), (vi 0), (.bool false)]) rfl rfl (Nat.le_of_ble_eq_true rfl) rfl (cL (m := [(vi 2), (vi 0)]) (l2 := [(vi 1), (vi 1), (vi 0), (vi 1), (vi 2), (vi 0), (.bool false)]) rfl rfl (Nat.le_of_ble_eq_true rfl) rfl rfl)))).2 ?_
   refine S.cZ [(vi 1), (vi 1), (vi 0), (vi 1), (vi 2), (vi 0), (.bool false)] [(vi 1), (vi 1), (vi 0), (vi 1), (vi 2), (vi 0), (.bool false)] rfl rfl (aa rfl (aa rfl (aa rfl (aa rfl (aa rfl (aa rfl (aa rfl rfl))))))) (Nat.le_of_ble_eq_true rfl) rfl (fun h S => ?_)
   refine S.bV [(vi 1), (vi 1), (vi 0), (vi 1), (vi 2), (vi 0), (.bool false)] 0 rfl rfl rfl (by decide) ?_
   cases M
   exact H _ _  S.bj
 · have M := aS hc M
   refine cI.2 ?_
   refine bp (fun hc => ?_) (fun hc => ?_)
   · have M := aR hc M
     exact CL M S  H
   · have M := aS hc M
     refine cI.2 ?_
     refine bp (fun hc => ?_) (fun hc => ?_)
     · have M := aR hc M
       exact CL M S  H
     · have M := aS hc M
       refine cI.2 ?_
       refine bp (fun hc => ?_) (fun hc => ?_)
       · have M := aR hc M
         exact CL M S  H
       · have M := aS hc M
         refine cI.2 ?_
         refine bp (fun hc => ?_) (fun hc => ?_)
         · have M := aR hc M
           exact CL M S  H
         · have M := aS hc M
           refine cI.2 ?_
           exact CL M S  H
theorem ZH {w0 : World} {c : Cx} {g h : AH} {E R : Value → W} {r : ct × Bool} {v1 : ct} {x0 : Int} {xB : Bool} {ah : Nat}  (M : CK v1 x0 xB = some r) (S : Sep c g h [.bx ah [(vi v1.bQ.e0), (vi v1.bQ.e1), (vi v1.bQ.e2), (vi v1.fY), (vi v1.cx.e0), (vi v1.cx.e1), (.bool v1.gi)]])   (H : zn c R r) : E7 w0 E R (az ah 0) (vi x0) (.bool xB) h := by
 unfold E7
 unfold CK at M
 refine bp (fun hc => ?_) (fun hc => ?_)
 · have M := aR hc M
   refine dU [(vi 1), (vi 0), (vi 0)] (by simp only [da, bH, bI, bJ, bK,  List.length_cons, List.length_nil, Nat.reduceAdd, Nat.zero_add, decide_true, Bool.and_self]) (by simp only [List.flatMap_cons, List.flatMap_nil, bH, bI, bJ, bK,  List.cons_append, List.nil_append, List.append_nil]) ?_
   refine (ic (l := [(vi 1), (vi 0), (vi 0), (vi 1), (vi 0), (vi 0), (.bool false)]) (cL (m := [(vi 1), (vi 0), (vi 0)]) (l2 := [(vi 1), (vi 0), (vi 0), (vi 0), (vi 0), (vi 0), (.bool false)]) rfl rfl (Nat.le_of_ble_eq_true rfl) rfl (cL (m := [(vi 1)]) (l2 := [(vi 1), (vi 0), (vi 0), (vi 1), (vi 0), (vi 0), (.bool false)]) rfl rfl (Nat.le_of_ble_eq_true rfl) rfl rfl))).2 ?_
   refine S.cZ [(vi 1), (vi 0), (vi 0), (vi 1), (vi 0), (vi 0), (.bool false)] [(vi 1), (vi 0), (vi 0), (vi 1), (vi 0), (vi 0), (.bool false)] rfl rfl (aa rfl (aa rfl (aa rfl (aa rfl (aa rfl (aa rfl (aa rfl rfl))))))) (Nat.le_of_ble_eq_true rfl) rfl (fun h S => ?_)
   refine S.bV [(vi 1), (vi 0), (vi 0), (vi 1), (vi 0), (vi 0), (.bool false)] 0 rfl rfl rfl (by decide) ?_
   cases M
   exact H _ _  S.bj
 · have M := aS hc M
   refine cI.2 ?_
   refine bp (fun hc => ?_) (fun hc => ?_)
   · have M := aR hc M
     exact Iw M S  H
   · have M := aS hc M
     refine cI.2 ?_
     refine bp (fun hc => ?_) (fun hc => ?_)
     · have M := aR hc M
       exact Iw M S  H
     · have M := aS hc M
       refine cI.2 ?_
       refine bp (fun hc => ?_) (fun hc => ?_)
       · have M := aR hc M
         exact Iw M S  H
       · have M := aS hc M
         refine cI.2 ?_
         exact Iw M S  H
theorem Ix {w0 : World} {g h : AH} {Q : CR → AH → Prop} {r : ct × Bool} {x0 : Int} (M : ui x0 = some r) (sg : Sub g h) (ok : h.Ok)  (H : zn ⟨g, h, []⟩ (fun v => Q (.ret v)) r) : WF PP w0 xC [(vi x0)] h Q := by
 refine acJ _ ?_
 have S := Sep.start sg ok
 unfold TA
 unfold ui at M
 refine S.alloc (l := [(vi 0), (vi 0), (vi 0), (vi 0), (vi 0), (vi 0), (.bool false)]) (aa rfl (aa rfl (aa rfl (aa rfl (aa rfl (aa rfl (aa rfl rfl))))))) (fun fX h S => ?_)
 refine cI.2 ?_
 refine bp (fun hc => ?_) (fun hc => ?_)
 · have M := aR hc M
   refine dU [(vi 1), (vi 3), (vi 0)] (by simp only [da, bH, bI, bJ, bK,  List.length_cons, List.length_nil, Nat.reduceAdd, Nat.zero_add, decide_true, Bool.and_self]) (by simp only [List.flatMap_cons, List.flatMap_nil, bH, bI, bJ, bK,  List.cons_append, List.nil_append, List.append_nil]) ?_
   refine (ic (l := [(vi 1), (vi 3), (vi 0), (vi 1), (vi 0), (vi 0), (.bool false)]) (cL (m := [(vi 1), (vi 3), (vi 0)]) (l2 := [(vi 1), (vi 3), (vi 0), (vi 0), (vi 0), (vi 0), (.bool false)]) rfl rfl (Nat.le_of_ble_eq_true rfl) rfl (cL (m := [(vi 1)]) (l2 := [(vi 1), (vi 3), (vi 0), (vi 1), (vi 0), (vi 0), (.bool false)]) rfl rfl (Nat.le_of_ble_eq_true rfl) rfl rfl))).2 ?_
   refine S.cZ [(vi 1), (vi 3), (vi 0), (vi 1), (vi 0), (vi 0), (.bool false)] [(vi 1), (vi 3), (vi 0), (vi 1), (vi 0), (vi 0), (.bool false)] rfl rfl (aa rfl (aa rfl (aa rfl (aa rfl (aa rfl (aa rfl (aa rfl rfl))))))) (Nat.le_of_ble_eq_true rfl) rfl (fun h S => ?_)
   refine S.bV [(vi 1), (vi 3), (vi 0), (vi 1), (vi 0), (vi 0), (.bool false)] 0 rfl rfl rfl (by decide) ?_
   cases M
   exact H _ _  S.bj
 · have M := aS hc M
   refine cI.2 ?_
   refine bp (fun hc => ?_) (fun hc => ?_)
   · have M := aR hc M
     refine dU [(vi 1), (vi 4), (vi 0)] (by simp only [da, bH, bI, bJ, bK,  List.length_cons, List.length_nil, Nat.reduceAdd, Nat.zero_add, decide_true, Bool.and_self]) (by simp only [List.flatMap_cons, List.flatMap_nil, bH, bI, bJ, bK,  List.cons_append, List.nil_append, List.append_nil]) ?_
     refine (ic (l := [(vi 1), (vi 4), (vi 0), (vi 1), (vi 0), (vi 0), (.bool false)]) (cL (m := [(vi 1), (vi 4), (vi 0)]) (l2 := [(vi 1), (vi 4), (vi 0), (vi 0), (vi 0), (vi 0), (.bool false)]) rfl rfl (Nat.le_of_ble_eq_true rfl) rfl (cL (m := [(vi 1)]) (l2 := [(vi 1), (vi 4), (vi 0), (vi 1), (vi 0), (vi 0), (.bool false)]) rfl rfl (Nat.le_of_ble_eq_true rfl) rfl rfl))).2 ?_
     refine S.cZ [(vi 1), (vi 4), (vi 0), (vi 1), (vi 0), (vi 0), (.bool false)] [(vi 1), (vi 4), (vi 0), (vi 1), (vi 0), (vi 0), (.bool false)] rfl rfl (aa rfl (aa rfl (aa rfl (aa rfl (aa rfl (aa rfl (aa rfl rfl))))))) (Nat.le_of_ble_eq_true rfl) rfl (fun h S => ?_)
     refine S.bV [(vi 1), (vi 4), (vi 0), (vi 1), (vi 0), (vi 0), (.bool false)] 0 rfl rfl rfl (by decide) ?_
     cases M
     exact H _ _  S.bj
   · have M := aS hc M
     refine cI.2 ?_
     refine bp (fun hc => ?_) (fun hc => ?_)
     · have M := aR hc M
       exact ZH M S  H
     · have M := aS hc M
       refine cI.2 ?_
       exact ZH M S  H
def Iy   : Option (Int × Bool) :=
 some (0, false)
def CM (v1 : ak) (v8 : Bool)  : Option (Int × Bool) :=
 bif v8 then (
 some (v1.fB, true)) else (
 Iy )
def Iz (v1 : ak)  : Option (Int × Bool) :=
 bif (decide (v1.aJ = 25)) then (
 CM v1 true) else (
 CM v1 (decide (v1.aJ = 32)))
def wF (x0 : ak) : Option (Int × Bool) :=
 bif (decide (x0.aJ = 24)) then (
 some (x0.fA, true)) else (
 Iz x0)
abbrev IA (c : Cx) (R : Value → W) (r : Int × Bool) : Prop := ∀ (g' h' : AH), Sep c g' h' [] → R (.tuple ⟨[(vi r.1), (.bool r.2)]⟩) h'
theorem ajG {w0 : World} {c : Cx} {g h : AH} {E R : Value → W} {r : Int × Bool}   (M : Iy  = some r) (S : Sep c g h [])   (H : IA c R r) : Kv w0 E R  h := by
 unfold Kv
 unfold Iy at M
 cases M
 exact H _ _  S.bj
theorem ZI {w0 : World} {c : Cx} {g h : AH} {E R : Value → W} {r : Int × Bool} {v1 : ak} {v8 : Bool} {ah : Nat}  (M : CM v1 v8 = some r) (S : Sep c g h [.bx ah [(vi v1.aJ), (vi v1.fA), (vi v1.fB), (vi v1.fC)]])   (H : IA c R r) : Kw w0 E R (az ah 0) (.bool v8) h := by
 unfold Kw
 unfold CM at M
 refine bp (fun hc => ?_) (fun hc => ?_)
 · have M := aR hc M
   refine bg.2 ?_
   refine S.aX 0 rfl rfl ?_
   cases M
   exact H _ _  S.bj
 · have M := aS hc M
   have S := S.t0
   exact ajG M S  H
theorem ajH {w0 : World} {c : Cx} {g h : AH} {E R : Value → W} {r : Int × Bool} {v1 : ak} {ah : Nat}  (M : Iz v1 = some r) (S : Sep c g h [.bx ah [(vi v1.aJ), (vi v1.fA), (vi v1.fB), (vi v1.fC)]])   (H : IA c R r) : Kx w0 E R (az ah 0) h := by
 unfold Kx
 unfold Iz at M
 refine bg.2 ?_
 refine S.aX 0 rfl rfl ?_
 refine cI.2 ?_
 cases hc : (decide (v1.aJ = 25))
 · have M := aS hc M
   refine ax rfl ?_
   refine bg.2 ?_
   refine ax rfl ?_
   refine S.aX 0 rfl rfl ?_
   refine ax rfl ?_
   refine cI.2 ?_
   refine bf.2 ?_
   exact ZI M S  H
 · have M := aR hc M
   refine ay (by decide) ?_
   refine ay (by decide) ?_
   refine ay (by decide) ?_
   refine bf.2 ?_
   exact ZI M S  H
theorem QP {w0 : World} {g h : AH} {Q : CR → AH → Prop} {r : Int × Bool} {x0 : ak} (M : wF x0 = some r) (sg : Sub g h) (ok : h.Ok)  (H : IA ⟨g, h, []⟩ (fun v => Q (.ret v)) r) : WF PP w0 Ab [(.agg ⟨[(vi x0.aJ), (vi x0.fA), (vi x0.fB), (vi x0.fC)]⟩)] h Q := by
 refine acK _ ?_
 have S := Sep.start sg ok
 unfold TC
 unfold wF at M
 refine S.box [(vi x0.aJ), (vi x0.fA), (vi x0.fB), (vi x0.fC)] rfl (aa rfl (aa rfl (aa rfl (aa rfl rfl)))) (fun fX h S => ?_)
 refine bg.2 ?_
 refine S.aX 0 rfl rfl ?_
 refine cI.2 ?_
 refine bp (fun hc => ?_) (fun hc => ?_)
 · have M := aR hc M
   refine bg.2 ?_
   refine S.aX 0 rfl rfl ?_
   cases M
   exact H _ _  S.bj
 · have M := aS hc M
   exact ajH M S  H
def QQ (N : Nat) (dZ : Int) (fZ : al) (js : Int → Option Bool) : Option Bool :=
 js (bt .i64 (dZ + 1))
def zo (N : Nat) (dZ : Int) (la : Bool) (fZ : al) (js : Int → Option Bool) : Option Bool :=
 bif la then (
 some false) else (
 QQ N dZ fZ js)
def CN (N : Nat) (v1 : al) (dZ : Int) (v4 : Int) (js : Int → Option Bool) : Option Bool :=
(ix v1.ab dZ).bind fun wG =>
(ui wG.aJ).bind fun iP =>
(ix v1.ab dZ).bind fun fJ =>
(wF fJ).bind fun wH =>
 bif (!iP.2) then (
 zo N dZ true v1 js) else (
 bif wH.2 then (
(pe wH.1 0 (bt .i64 (v4 - 1))).bind fun nw =>
 zo N dZ (!nw) v1 js) else (
 zo N dZ false v1 js))
def QR (N : Nat) (y6 : Int) (cu : al) (fL : Int → Option Bool) : Option Bool :=
 fL (bt .i64 (y6 + 1))
def CO (N : Nat) (y6 : Int) (fu : Bool) (cu : al) (fL : Int → Option Bool) : Option Bool :=
 bif fu then (
 some false) else (
 QR N y6 cu fL)
def CP (N : Nat) (v12 : aH) (v4 : Int) (y6 : Int) (dm : Bool) (cu : al) (fL : Int → Option Bool) : Option Bool :=
 bif dm then (
 CO N y6 true cu fL) else (
(pe v12.dJ 0 (bt .i64 (v4 - 1))).bind fun CQ =>
 CO N y6 (!CQ) cu fL)
def wI (N : Nat) (v12 : aH) (v4 : Int) (y6 : Int) (aZ : Bool) (cu : al) (fL : Int → Option Bool) : Option Bool :=
 bif aZ then (
 CP N v12 v4 y6 true cu fL) else (
 CP N v12 v4 y6 (decide (v4 < v12.ew)) cu fL)
def QS (N : Nat) (v1 : al) (y6 : Int) (v4 : Int) (fL : Int → Option Bool) : Option Bool :=
(ix v1.aI y6).bind fun iX =>
 bif (decide (iX.dN < 0)) then (
 wI N iX v4 y6 true v1 fL) else (
 wI N iX v4 y6 (decide (iX.ew ≤ iX.dN)) v1 fL)
def QT (N : Nat)   : Option Bool :=
 some true
def QU (N : Nat) (v1 : al) (v4 : Int) (y6 : Int) (fL : Int → Option Bool) : Option Bool :=
 bif (decide (y6 < (v1.aI.length : Int))) then (
 QS N v1 y6 v4 fL) else (
 QT N )
def CS (N : Nat) (v1 : al) (v4 : Int)  : Nat → Int → Option Bool
 | 0, _ => none
 | n + 1, y6 => QU N v1 v4 y6  (fun aq => CS N v1 v4 n aq)
def zp (N : Nat) (v1 : al) (v4 : Int)  : Option Bool :=
 CS N v1 v4 N 0
def QV (N : Nat) (v4 : Int) (v1 : al) (dZ : Int) (js : Int → Option Bool) : Option Bool :=
 bif (decide (dZ < v4)) then (
 CN N v1 dZ v4 js) else (
 zp N v1 v4)
def CT (N : Nat) (v4 : Int) (v1 : al)  : Nat → Int → Option Bool
 | 0, _ => none
 | n + 1, dZ => QV N v4 v1 dZ  (fun aq => CT N v4 v1 n aq)
def CU (N : Nat) (v4 : Int) (v1 : al)  : Option Bool :=
 CT N v4 v1 N 0
def CV (N : Nat) (v4 : Int) (v1 : al) (pN : Bool)  : Option Bool :=
 bif pN then (
 some false) else (
 CU N v4 v1)
def CW (N : Nat) (v1 : al) (v4 : Int) (lJ : Bool)  : Option Bool :=
 bif lJ then (
 CV N v4 v1 true) else (
(pe v1.aD 0 200).bind fun pg =>
 CV N v4 v1 (!pg))
def CX (N : Nat) (v1 : al) (v4 : Int) (v76 : Bool)  : Option Bool :=
 bif v76 then (
 CW N v1 v4 true) else (
(pe v1.aC 0 200).bind fun mG =>
 CW N v1 v4 (!mG))
def uj (N : Nat) (x0 : al) : Option Bool :=
(pe (x0.ab.length : Int) 1 600).bind fun aM =>
 bif (!aM) then (
 CX N x0 (x0.ab.length : Int) true) else (
 CX N x0 (x0.ab.length : Int) (decide (40 < (x0.aI.length : Int))))
abbrev j6 (c : Cx) (R : Value → W) (r : Bool) : Prop := ∀ (g' h' : AH), Sep c g' h' [] → R (.bool r) h'
theorem ajI {w0 : World} {c : Cx} {g h : AH} {E R : Value → W} {r : Bool} {N : Nat} {dZ : Int} {fZ : al} {CY : Nat} {wJ wK : Value} {jR : Value → W} {js : Int → Option Bool} {ph : AH} (M : QQ N dZ fZ js = some r) (S : Sep c g h [.bx CY [(.string fZ.aE), (.string fZ.aG), (vi fZ.fArgs), (vi fZ.aC), (vi fZ.aD), wJ, wK]]) (ZJ : ae ak.rep 4 g wJ fZ.ab) (ZK : ae aH.rep 3 g wK fZ.aI) (sj : Sub ph g) (sk : ∀ {aq : Int} {g2 h2 : AH}, js aq = some r → Sub ph g2 → Sep c g2 h2 [.bx CY [(.string fZ.aE), (.string fZ.aG), (vi fZ.fArgs), (vi fZ.aC), (vi fZ.aD), wJ, wK]] → jR (vi aq) h2) (H : j6 c R r) : KF w0 E R (vi dZ) jR h := by
 unfold KF
 unfold QQ at M
 refine gE.2 ?_
 exact sk M sj S
theorem QW {w0 : World} {c : Cx} {g h : AH} {E R : Value → W} {r : Bool} {N : Nat} {dZ : Int} {la : Bool} {fZ : al} {CY : Nat} {wJ wK : Value} {jR : Value → W} {js : Int → Option Bool} {ph : AH} (M : zo N dZ la fZ js = some r) (S : Sep c g h [.bx CY [(.string fZ.aE), (.string fZ.aG), (vi fZ.fArgs), (vi fZ.aC), (vi fZ.aD), wJ, wK]]) (ZJ : ae ak.rep 4 g wJ fZ.ab) (ZK : ae aH.rep 3 g wK fZ.aI) (sj : Sub ph g) (sk : ∀ {aq : Int} {g2 h2 : AH}, js aq = some r → Sub ph g2 → Sep c g2 h2 [.bx CY [(.string fZ.aE), (.string fZ.aG), (vi fZ.fArgs), (vi fZ.aC), (vi fZ.aD), wJ, wK]] → jR (vi aq) h2) (H : j6 c R r) : KG w0 E R (vi dZ) jR (.bool la) h := by
 unfold KG
 unfold zo at M
 refine bp (fun hc => ?_) (fun hc => ?_)
 · have M := aR hc M
   cases M
   exact H _ _  S.bj
 · have M := aS hc M
   exact ajI M S ZJ ZK sj sk H
theorem ajJ {w0 : World} {c : Cx} {g h : AH} {E R : Value → W} {r : Bool} {N : Nat} {v1 : al} {dZ v4 : Int} {ah : Nat} {av aw : Value} {jR : Value → W} {js : Int → Option Bool} {ph : AH} (M : CN N v1 dZ v4 js = some r) (S : Sep c g h [.bx ah [(.string v1.aE), (.string v1.aG), (vi v1.fArgs), (vi v1.aC), (vi v1.aD), av, aw]]) (aA : ae ak.rep 4 g av v1.ab) (aB : ae aH.rep 3 g aw v1.aI) (sj : Sub ph g) (sk : ∀ {aq : Int} {g2 h2 : AH}, js aq = some r → Sub ph g2 → Sep c g2 h2 [.bx ah [(.string v1.aE), (.string v1.aG), (vi v1.fArgs), (vi v1.aC), (vi v1.aD), av, aw]] → jR (vi aq) h2) (H : j6 c R r) : KH w0 E R (az ah 0) (vi dZ) (vi v4) jR h := by
 unfold KH
 unfold CN at M
 refine bg.2 ?_
 refine S.aX 0 rfl rfl ?_
 obtain ⟨wG, QX, M⟩ := bind_some M
 refine ae.idx aA QX (fun QY ajK vs ajL QZ rp => ?_)
 cases rp
 refine bg.2 ?_
 refine S.fQ (QZ 0 _ rfl) ?_
 obtain ⟨iP, CZ, M⟩ := bind_some M
 refine Ix CZ S.sub S.ok (fun _ h  S1  => ?_)
 have S := S.bY S1
 refine (fH rfl).2 ?_
 refine (fH rfl).2 ?_
 refine S.alloc (l := [(vi 0), (vi 0), (vi 0), (vi 0), (vi 0), (vi 0), (.bool false)]) (aa rfl (aa rfl (aa rfl (aa rfl (aa rfl (aa rfl (aa rfl rfl))))))) (fun zl h S => ?_)
 refine S.cZ [(vi iP.1.bQ.e0), (vi iP.1.bQ.e1), (vi iP.1.bQ.e2), (vi iP.1.fY), (vi iP.1.cx.e0), (vi iP.1.cx.e1), (.bool iP.1.gi)] [(vi iP.1.bQ.e0), (vi iP.1.bQ.e1), (vi iP.1.bQ.e2), (vi iP.1.fY), (vi iP.1.cx.e0), (vi iP.1.cx.e1), (.bool iP.1.gi)] rfl rfl (aa rfl (aa rfl (aa rfl (aa rfl (aa rfl (aa rfl (aa rfl rfl))))))) (Nat.le_of_ble_eq_true rfl) rfl (fun h S => ?_)
 refine bg.2 ?_
 refine S.aX 1 rfl rfl ?_
 obtain ⟨fJ, vY, M⟩ := bind_some M
 refine ae.idx aA vY (fun ZD ajM vs Q0 C0 rp => ?_)
 cases rp
 refine S.nA C0 rfl (by decide) ?_
 obtain ⟨wH, Q1, M⟩ := bind_some M
 refine QP Q1 S.sub S.ok (fun _ h  S1  => ?_)
 have S := S.bY S1
 refine (fH rfl).2 ?_
 refine (fH rfl).2 ?_
 refine ec.2 ?_
 cases hc : (!iP.2)
 · have M := aS hc M
   refine ax rfl ?_
   refine ax rfl ?_
   cases hc : wH.2
   · have M := aS hc M
     refine ay (by decide) ?_
     refine ay (by decide) ?_
     refine ay (by decide) ?_
     refine ay (by decide) ?_
     refine ay (by decide) ?_
     refine ax rfl ?_
     refine bf.2 ?_
     refine bf.2 ?_
     have S := S.f1
     have S := S.t1
     exact QW M S aA aB sj sk H
   · have M := aR hc M
     refine ax rfl ?_
     refine ax rfl ?_
     refine ax rfl ?_
     refine mA.2 ?_
     refine ax rfl ?_
     obtain ⟨nw, r8, M⟩ := bind_some M
     refine wD r8 S.sub S.ok (fun _ h  S1  => ?_)
     have S := S.bY S1
     refine ax rfl ?_
     refine ec.2 ?_
     refine ax rfl ?_
     refine bf.2 ?_
     refine bf.2 ?_
     have S := S.f1
     have S := S.t1
     exact QW M S aA aB sj sk H
 · have M := aR hc M
   refine ay (by decide) ?_
   refine ay (by decide) ?_
   refine iN ?_
   refine iN ?_
   refine iN ?_
   refine iN ?_
   refine iN ?_
   refine ay (by decide) ?_
   refine bf.2 ?_
   have S := S.f1
   have S := S.t1
   exact QW M S aA aB sj sk H
theorem ajN {w0 : World} {c : Cx} {g h : AH} {E R : Value → W} {r : Bool} {N : Nat} {y6 : Int} {cu : al} {pk : Nat} {l3 l4 : Value} {k5 : Value → W} {fL : Int → Option Bool} {kT : AH} (M : QR N y6 cu fL = some r) (S : Sep c g h [.bx pk [(.string cu.aE), (.string cu.aG), (vi cu.fArgs), (vi cu.aC), (vi cu.aD), l3, l4]]) (uk : ae ak.rep 4 g l3 cu.ab) (um : ae aH.rep 3 g l4 cu.aI) (mH : Sub kT g) (mI : ∀ {aq : Int} {g2 h2 : AH}, fL aq = some r → Sub kT g2 → Sep c g2 h2 [.bx pk [(.string cu.aE), (.string cu.aG), (vi cu.fArgs), (vi cu.aC), (vi cu.aD), l3, l4]] → k5 (vi aq) h2) (H : j6 c R r) : Kz w0 E R (vi y6) k5 h := by
 unfold Kz
 unfold QR at M
 refine gE.2 ?_
 exact mI M mH S
theorem ZL {w0 : World} {c : Cx} {g h : AH} {E R : Value → W} {r : Bool} {N : Nat} {y6 : Int} {fu : Bool} {cu : al} {pk : Nat} {l3 l4 : Value} {k5 : Value → W} {fL : Int → Option Bool} {kT : AH} (M : CO N y6 fu cu fL = some r) (S : Sep c g h [.bx pk [(.string cu.aE), (.string cu.aG), (vi cu.fArgs), (vi cu.aC), (vi cu.aD), l3, l4]]) (uk : ae ak.rep 4 g l3 cu.ab) (um : ae aH.rep 3 g l4 cu.aI) (mH : Sub kT g) (mI : ∀ {aq : Int} {g2 h2 : AH}, fL aq = some r → Sub kT g2 → Sep c g2 h2 [.bx pk [(.string cu.aE), (.string cu.aG), (vi cu.fArgs), (vi cu.aC), (vi cu.aD), l3, l4]] → k5 (vi aq) h2) (H : j6 c R r) : KA w0 E R (vi y6) k5 (.bool fu) h := by
 unfold KA
 unfold CO at M
 refine bp (fun hc => ?_) (fun hc => ?_)
 · have M := aR hc M
   cases M
   exact H _ _  S.bj
 · have M := aS hc M
   exact ajN M S uk um mH mI H
theorem ZM {w0 : World} {c : Cx} {g h : AH} {E R : Value → W} {r : Bool} {N : Nat} {v12 : aH} {v4 y6 : Int} {dm : Bool} {cu : al} {C1 pk : Nat} {l3 l4 : Value} {k5 : Value → W} {fL : Int → Option Bool} {kT : AH} (M : CP N v12 v4 y6 dm cu fL = some r) (S : Sep c g h [.bx C1 [(vi v12.dN), (vi v12.ew), (vi v12.dJ)], .bx pk [(.string cu.aE), (.string cu.aG), (vi cu.fArgs), (vi cu.aC), (vi cu.aD), l3, l4]]) (uk : ae ak.rep 4 g l3 cu.ab) (um : ae aH.rep 3 g l4 cu.aI) (mH : Sub kT g) (mI : ∀ {aq : Int} {g2 h2 : AH}, fL aq = some r → Sub kT g2 → Sep c g2 h2 [.bx pk [(.string cu.aE), (.string cu.aG), (vi cu.fArgs), (vi cu.aC), (vi cu.aD), l3, l4]] → k5 (vi aq) h2) (H : j6 c R r) : KB w0 E R (az C1 0) (vi v4) (vi y6) k5 (.bool dm) h := by
 unfold KB
 unfold CP at M
 cases hc : dm
 · have M := aS hc M
   refine ax rfl ?_
   refine bg.2 ?_
   refine ax rfl ?_
   refine S.aX 0 rfl rfl ?_
   refine ax rfl ?_
   refine ax rfl ?_
   refine mA.2 ?_
   refine ax rfl ?_
   obtain ⟨CQ, Q2, M⟩ := bind_some M
   refine wD Q2 S.sub S.ok (fun _ h  S1  => ?_)
   have S := S.bY S1
   refine ax rfl ?_
   refine ec.2 ?_
   refine bf.2 ?_
   have S := S.f1
   have S := S.t1
   exact ZL M S uk um mH mI H
 · have M := aR hc M
   refine ay (by decide) ?_
   refine ay (by decide) ?_
   refine ay (by decide) ?_
   refine ay (by decide) ?_
   refine ay (by decide) ?_
   refine ay (by decide) ?_
   refine bf.2 ?_
   have S := S.f1
   have S := S.t1
   exact ZL M S uk um mH mI H
theorem ZN {w0 : World} {c : Cx} {g h : AH} {E R : Value → W} {r : Bool} {N : Nat} {v12 : aH} {v4 y6 : Int} {aZ : Bool} {cu : al} {C1 pk : Nat} {l3 l4 : Value} {k5 : Value → W} {fL : Int → Option Bool} {kT : AH} (M : wI N v12 v4 y6 aZ cu fL = some r) (S : Sep c g h [.bx C1 [(vi v12.dN), (vi v12.ew), (vi v12.dJ)], .bx pk [(.string cu.aE), (.string cu.aG), (vi cu.fArgs), (vi cu.aC), (vi cu.aD), l3, l4]]) (uk : ae ak.rep 4 g l3 cu.ab) (um : ae aH.rep 3 g l4 cu.aI) (mH : Sub kT g) (mI : ∀ {aq : Int} {g2 h2 : AH}, fL aq = some r → Sub kT g2 → Sep c g2 h2 [.bx pk [(.string cu.aE), (.string cu.aG), (vi cu.fArgs), (vi cu.aC), (vi cu.aD), l3, l4]] → k5 (vi aq) h2) (H : j6 c R r) : KC w0 E R (az C1 0) (vi v4) (vi y6) k5 (.bool aZ) h := by
 unfold KC
 unfold wI at M
 cases hc : aZ
 · have M := aS hc M
   refine ax rfl ?_
   refine bg.2 ?_
   refine ax rfl ?_
   refine S.aX 0 rfl rfl ?_
   refine ax rfl ?_
   refine ax rfl ?_
   refine oe.2 ?_
   refine bf.2 ?_
   exact ZM M S uk um mH mI H
 · have M := aR hc M
   refine ay (by decide) ?_
   refine ay (by decide) ?_
   refine ay (by decide) ?_
   refine ay (by decide) ?_
   refine bf.2 ?_
   exact ZM M S uk um mH mI H
theorem ajO {w0 : World} {c : Cx} {g h : AH} {E R : Value → W} {r : Bool} {N : Nat} {v1 : al} {y6 v4 : Int} {ah : Nat} {av aw : Value} {k5 : Value → W} {fL : Int → Option Bool} {kT : AH} (M : QS N v1 y6 v4 fL = some r) (S : Sep c g h [.bx ah [(.string v1.aE), (.string v1.aG), (vi v1.fArgs), (vi v1.aC), (vi v1.aD), av, aw]]) (aA : ae ak.rep 4 g av v1.ab) (aB : ae aH.rep 3 g aw v1.aI) (mH : Sub kT g) (mI : ∀ {aq : Int} {g2 h2 : AH}, fL aq = some r → Sub kT g2 → Sep c g2 h2 [.bx ah [(.string v1.aE), (.string v1.aG), (vi v1.fArgs), (vi v1.aC), (vi v1.aD), av, aw]] → k5 (vi aq) h2) (H : j6 c R r) : KD w0 E R (az ah 0) (vi y6) (vi v4) k5 h := by
 unfold KD
 unfold QS at M
 refine bg.2 ?_
 refine S.aX 0 rfl rfl ?_
 obtain ⟨iX, PZ, M⟩ := bind_some M
 refine ae.idx aB PZ (fun aod aoe vs aof ajP rp => ?_)
 cases rp
 refine S.nA ajP rfl (by decide) ?_
 refine S.alloc (l := [(vi 0), (vi 0), (vi 0)]) (aa rfl (aa rfl (aa rfl rfl))) (fun ZO h S => ?_)
 refine S.cZ [(vi iX.dN), (vi iX.ew), (vi iX.dJ)] [(vi iX.dN), (vi iX.ew), (vi iX.dJ)] rfl rfl (aa rfl (aa rfl (aa rfl rfl))) (Nat.le_of_ble_eq_true rfl) rfl (fun h S => ?_)
 refine bg.2 ?_
 refine S.aX 0 rfl rfl ?_
 refine fW.2 ?_
 cases hc : (decide (iX.dN < 0))
 · have M := aS hc M
   refine ax rfl ?_
   refine bg.2 ?_
   refine ax rfl ?_
   refine S.aX 0 rfl rfl ?_
   refine ax rfl ?_
   refine bg.2 ?_
   refine ax rfl ?_
   refine S.aX 0 rfl rfl ?_
   refine ax rfl ?_
   refine oV.2 ?_
   refine bf.2 ?_
   exact ZN M S aA aB mH mI H
 · have M := aR hc M
   refine ay (by decide) ?_
   refine ay (by decide) ?_
   refine ay (by decide) ?_
   refine ay (by decide) ?_
   refine ay (by decide) ?_
   refine bf.2 ?_
   exact ZN M S aA aB mH mI H
theorem ajQ {w0 : World} {c : Cx} {g h : AH} {E R : Value → W} {r : Bool} {N : Nat}   (M : QT N  = some r) (S : Sep c g h [])   (H : j6 c R r) : Ky w0 E R  h := by
 unfold Ky
 unfold QT at M
 cases M
 exact H _ _  S.bj
theorem ajR {w0 : World} {c : Cx} {g h : AH} {E R : Value → W} {r : Bool} {N : Nat} {v1 : al} {v4 y6 : Int} {ah : Nat} {av aw : Value} {k5 : Value → W} {fL : Int → Option Bool} {kT : AH} (M : QU N v1 v4 y6 fL = some r) (S : Sep c g h [.bx ah [(.string v1.aE), (.string v1.aG), (vi v1.fArgs), (vi v1.aC), (vi v1.aD), av, aw]]) (aA : ae ak.rep 4 g av v1.ab) (aB : ae aH.rep 3 g aw v1.aI) (mH : Sub kT g) (mI : ∀ {aq : Int} {g2 h2 : AH}, fL aq = some r → Sub kT g2 → Sep c g2 h2 [.bx ah [(.string v1.aE), (.string v1.aG), (vi v1.fArgs), (vi v1.aC), (vi v1.aD), av, aw]] → k5 (vi aq) h2) (H : j6 c R r) : E8 w0 E R (az ah 0) (vi v4) k5 (vi y6) h := by
 unfold E8
 unfold QU at M
 refine bg.2 ?_
 refine S.aX 0 rfl rfl ?_
 refine aB.len ?_
 refine fW.2 ?_
 refine bp (fun hc => ?_) (fun hc => ?_)
 · have M := aR hc M
   exact ajO M S aA aB mH mI H
 · have M := aS hc M
   have S := S.t0
   exact ajQ M S  H
theorem ajS {w0 : World} {c : Cx} {E R : Value → W} {r : Bool} {N : Nat} {v1 : al} {v4 : Int} {ah : Nat} {av aw : Value}   (H : j6 c R r) : ∀ (n : Nat) {y6 : Int} {g h : AH}, CS N v1 v4 n y6 = some r → Sep c g h [.bx ah [(.string v1.aE), (.string v1.aG), (vi v1.fArgs), (vi v1.aC), (vi v1.aD), av, aw]] → ae ak.rep 4 g av v1.ab → ae aH.rep 3 g aw v1.aI → gG (α := Value) (fun k a => E8 w0 E R (az ah 0) (vi v4) k a) n (vi y6) h := by
 intro n
 induction n with
 | zero =>
  intro y6  g h M S aA aB
  unfold CS at M; cases M
 | succ n ih =>
  intro y6  g h M S aA aB
  exact ajR M S aA aB  (Sub.refl g) (fun M2 sub S2  => ih M2 S2 (ae.mono aA ak.mono sub) (ae.mono aB aH.mono sub) ) H
theorem ajT {w0 : World} {c : Cx} {g h : AH} {E R : Value → W} {r : Bool} {N : Nat} {v1 : al} {v4 : Int} {ah : Nat} {av aw : Value}  (M : zp N v1 v4 = some r) (S : Sep c g h [.bx ah [(.string v1.aE), (.string v1.aG), (vi v1.fArgs), (vi v1.aC), (vi v1.aD), av, aw]]) (aA : ae ak.rep 4 g av v1.ab) (aB : ae aH.rep 3 g aw v1.aI)  (H : j6 c R r) : KE w0 E R (az ah 0) (vi v4) h := by
 unfold KE
 unfold zp at M
 exact ⟨N, ajS  H _ M S aA aB ⟩
theorem ajU {w0 : World} {c : Cx} {g h : AH} {E R : Value → W} {r : Bool} {N : Nat} {v4 : Int} {v1 : al} {dZ : Int} {ah : Nat} {av aw : Value} {jR : Value → W} {js : Int → Option Bool} {ph : AH} (M : QV N v4 v1 dZ js = some r) (S : Sep c g h [.bx ah [(.string v1.aE), (.string v1.aG), (vi v1.fArgs), (vi v1.aC), (vi v1.aD), av, aw]]) (aA : ae ak.rep 4 g av v1.ab) (aB : ae aH.rep 3 g aw v1.aI) (sj : Sub ph g) (sk : ∀ {aq : Int} {g2 h2 : AH}, js aq = some r → Sub ph g2 → Sep c g2 h2 [.bx ah [(.string v1.aE), (.string v1.aG), (vi v1.fArgs), (vi v1.aC), (vi v1.aD), av, aw]] → jR (vi aq) h2) (H : j6 c R r) : E9 w0 E R (vi v4) (az ah 0) jR (vi dZ) h := by
 unfold E9
 unfold QV at M
 refine fW.2 ?_
 refine bp (fun hc => ?_) (fun hc => ?_)
 · have M := aR hc M
   exact ajJ M S aA aB sj sk H
 · have M := aS hc M
   exact ajT M S aA aB H
theorem ajV {w0 : World} {c : Cx} {E R : Value → W} {r : Bool} {N : Nat} {v4 : Int} {v1 : al} {ah : Nat} {av aw : Value}   (H : j6 c R r) : ∀ (n : Nat) {dZ : Int} {g h : AH}, CT N v4 v1 n dZ = some r → Sep c g h [.bx ah [(.string v1.aE), (.string v1.aG), (vi v1.fArgs), (vi v1.aC), (vi v1.aD), av, aw]] → ae ak.rep 4 g av v1.ab → ae aH.rep 3 g aw v1.aI → gG (α := Value) (fun k a => E9 w0 E R (vi v4) (az ah 0) k a) n (vi dZ) h := by
 intro n
 induction n with
 | zero =>
  intro dZ  g h M S aA aB
  unfold CT at M; cases M
 | succ n ih =>
  intro dZ  g h M S aA aB
  exact ajU M S aA aB  (Sub.refl g) (fun M2 sub S2  => ih M2 S2 (ae.mono aA ak.mono sub) (ae.mono aB aH.mono sub) ) H
theorem ajW {w0 : World} {c : Cx} {g h : AH} {E R : Value → W} {r : Bool} {N : Nat} {v4 : Int} {v1 : al} {ah : Nat} {av aw : Value}  (M : CU N v4 v1 = some r) (S : Sep c g h [.bx ah [(.string v1.aE), (.string v1.aG), (vi v1.fArgs), (vi v1.aC), (vi v1.aD), av, aw]]) (aA : ae ak.rep 4 g av v1.ab) (aB : ae aH.rep 3 g aw v1.aI)  (H : j6 c R r) : KI w0 E R (vi v4) (az ah 0) h := by
 unfold KI
 unfold CU at M
 exact ⟨N, ajV  H _ M S aA aB ⟩
theorem ZP {w0 : World} {c : Cx} {g h : AH} {E R : Value → W} {r : Bool} {N : Nat} {v4 : Int} {v1 : al} {pN : Bool} {ah : Nat} {av aw : Value}  (M : CV N v4 v1 pN = some r) (S : Sep c g h [.bx ah [(.string v1.aE), (.string v1.aG), (vi v1.fArgs), (vi v1.aC), (vi v1.aD), av, aw]]) (aA : ae ak.rep 4 g av v1.ab) (aB : ae aH.rep 3 g aw v1.aI)  (H : j6 c R r) : KJ w0 E R (vi v4) (az ah 0) (.bool pN) h := by
 unfold KJ
 unfold CV at M
 refine bp (fun hc => ?_) (fun hc => ?_)
 · have M := aR hc M
   cases M
   exact H _ _  S.bj
 · have M := aS hc M
   exact ajW M S aA aB H
theorem ZQ {w0 : World} {c : Cx} {g h : AH} {E R : Value → W} {r : Bool} {N : Nat} {v1 : al} {v4 : Int} {lJ : Bool} {ah : Nat} {av aw : Value}  (M : CW N v1 v4 lJ = some r) (S : Sep c g h [.bx ah [(.string v1.aE), (.string v1.aG), (vi v1.fArgs), (vi v1.aC), (vi v1.aD), av, aw]]) (aA : ae ak.rep 4 g av v1.ab) (aB : ae aH.rep 3 g aw v1.aI)  (H : j6 c R r) : KK w0 E R (az ah 0) (vi v4) (.bool lJ) h := by
 unfold KK
 unfold CW at M
 cases hc : lJ
 · have M := aS hc M
   refine ax rfl ?_
   refine bg.2 ?_
   refine ax rfl ?_
   refine S.aX 0 rfl rfl ?_
   refine ax rfl ?_
   obtain ⟨pg, wL, M⟩ := bind_some M
   refine wD wL S.sub S.ok (fun _ h  S1  => ?_)
   have S := S.bY S1
   refine ax rfl ?_
   refine ec.2 ?_
   refine bf.2 ?_
   exact ZP M S aA aB H
 · have M := aR hc M
   refine ay (by decide) ?_
   refine ay (by decide) ?_
   refine ay (by decide) ?_
   refine ay (by decide) ?_
   refine bf.2 ?_
   exact ZP M S aA aB H
theorem ZR {w0 : World} {c : Cx} {g h : AH} {E R : Value → W} {r : Bool} {N : Nat} {v1 : al} {v4 : Int} {v76 : Bool} {ah : Nat} {av aw : Value}  (M : CX N v1 v4 v76 = some r) (S : Sep c g h [.bx ah [(.string v1.aE), (.string v1.aG), (vi v1.fArgs), (vi v1.aC), (vi v1.aD), av, aw]]) (aA : ae ak.rep 4 g av v1.ab) (aB : ae aH.rep 3 g aw v1.aI)  (H : j6 c R r) : KL w0 E R (az ah 0) (vi v4) (.bool v76) h := by
 unfold KL
 unfold CX at M
 cases hc : v76
 · have M := aS hc M
   refine ax rfl ?_
   refine bg.2 ?_
   refine ax rfl ?_
   refine S.aX 0 rfl rfl ?_
   refine ax rfl ?_
   obtain ⟨mG, sn, M⟩ := bind_some M
   refine wD sn S.sub S.ok (fun _ h  S1  => ?_)
   have S := S.bY S1
   refine ax rfl ?_
   refine ec.2 ?_
   refine bf.2 ?_
   exact ZQ M S aA aB H
 · have M := aR hc M
   refine ay (by decide) ?_
   refine ay (by decide) ?_
   refine ay (by decide) ?_
   refine ay (by decide) ?_
   refine bf.2 ?_
   exact ZQ M S aA aB H
theorem IB {w0 : World} {g h : AH} {Q : CR → AH → Prop} {r : Bool} {N : Nat} {x0 : al} {bN bO : Value} (M : uj N x0 = some r) (sg : Sub g h) (ok : h.Ok) (bL : ae ak.rep 4 g bN x0.ab) (bS : ae aH.rep 3 g bO x0.aI) (H : j6 ⟨g, h, []⟩ (fun v => Q (.ret v)) r) : WF PP w0 xD [(.agg ⟨[(.string x0.aE), (.string x0.aG), (vi x0.fArgs), (vi x0.aC), (vi x0.aD), bN, bO]⟩)] h Q := by
 refine acL _ ?_
 have S := Sep.start sg ok
 unfold TD
 unfold uj at M
 refine S.box [(.string x0.aE), (.string x0.aG), (vi x0.fArgs), (vi x0.aC), (vi x0.aD), bN, bO] rfl (aa rfl (aa rfl (aa rfl (aa rfl (aa rfl (aa bL.one (aa bS.one rfl))))))) (fun fX h S => ?_)
 refine bg.2 ?_
 refine S.aX 0 rfl rfl ?_
 refine bL.len ?_
 obtain ⟨aM, eG, M⟩ := bind_some M
 refine wD eG S.sub S.ok (fun _ h  S1  => ?_)
 have S := S.bY S1
 refine ec.2 ?_
 cases hc : (!aM)
 · have M := aS hc M
   refine ax rfl ?_
   refine bg.2 ?_
   refine ax rfl ?_
   refine S.aX 0 rfl rfl ?_
   refine ax rfl ?_
   refine bS.len ?_
   refine ax rfl ?_
   refine oe.2 ?_
   refine bf.2 ?_
   exact ZR M S bL bS H
 · have M := aR hc M
   refine ay (by decide) ?_
   refine ay (by decide) ?_
   refine ay (by decide) ?_
   refine ay (by decide) ?_
   refine bf.2 ?_
   exact ZR M S bL bS H
def IC (N : Nat) (y2 : Int) (gj : Int → Option Bool) : Option Bool :=
 gj (bt .i64 (y2 + 1))
def ID (N : Nat) (x0 : List Int) (y2 : Int) (x1 : List Int) (gj : Int → Option Bool) : Option Bool :=
(ix x0 y2).bind fun eW =>
(ix x1 y2).bind fun cK =>
 bif (!decide (eW = cK)) then (
 some false) else (
 IC N y2 gj)
def Q3 (N : Nat)   : Option Bool :=
 some true
def wM (N : Nat) (x0 : List Int) (x1 : List Int) (y2 : Int) (gj : Int → Option Bool) : Option Bool :=
 bif (decide (y2 < (x0.length : Int))) then (
 ID N x0 y2 x1 gj) else (
 Q3 N )
def C2 (N : Nat) (x0 : List Int) (x1 : List Int)  : Nat → Int → Option Bool
 | 0, _ => none
 | n + 1, y2 => wM N x0 x1 y2  (fun aq => C2 N x0 x1 n aq)
def IE (N : Nat) (x0 : List Int) (x1 : List Int)  : Option Bool :=
 C2 N x0 x1 N 0
def vS (N : Nat) (x0 : List Int) (x1 : List Int) : Option Bool :=
 bif (!decide ((x0.length : Int) = (x1.length : Int))) then (
 some false) else (
 IE N x0 x1)
abbrev wN (c : Cx) (R : Value → W) (r : Bool) : Prop := ∀ (g' h' : AH), Sep c g' h' [] → R (.bool r) h'
theorem ajX {w0 : World} {c : Cx} {g h : AH} {E R : Value → W} {r : Bool} {N : Nat} {y2 : Int} {k1 : Value → W} {gj : Int → Option Bool} {kU : AH} (M : IC N y2 gj = some r) (S : Sep c g h [])  (po : Sub kU g) (pq : ∀ {aq : Int} {g2 h2 : AH}, gj aq = some r → Sub kU g2 → Sep c g2 h2 [] → k1 (vi aq) h2) (H : wN c R r) : Ka w0 E R (vi y2) k1 h := by
 unfold Ka
 unfold IC at M
 refine gE.2 ?_
 exact pq M po S
theorem ajY {w0 : World} {c : Cx} {g h : AH} {E R : Value → W} {r : Bool} {N : Nat} {x0 : List Int} {y2 : Int} {x1 : List Int} {bw cr : Value} {k1 : Value → W} {gj : Int → Option Bool} {kU : AH} (M : ID N x0 y2 x1 gj = some r) (S : Sep c g h []) (cb : ae (rI .i64) 1 g bw x0) (cS : ae (rI .i64) 1 g cr x1) (po : Sub kU g) (pq : ∀ {aq : Int} {g2 h2 : AH}, gj aq = some r → Sub kU g2 → Sep c g2 h2 [] → k1 (vi aq) h2) (H : wN c R r) : Kb w0 E R bw (vi y2) cr k1 h := by
 unfold Kb
 unfold ID at M
 obtain ⟨eW, j5, M⟩ := bind_some M
 refine ae.idx cb j5 (fun wz CB vs Ir sf rp => ?_)
 cases rp
 refine S.fQ (sf 0 _ rfl) ?_
 obtain ⟨cK, gH, M⟩ := bind_some M
 refine ae.idx cS gH (fun IF Q4 vs ajZ Q5 rp => ?_)
 cases rp
 refine S.fQ (Q5 0 _ rfl) ?_
 refine tx.2 ?_
 refine bp (fun hc => ?_) (fun hc => ?_)
 · have M := aR hc M
   cases M
   exact H _ _  S.bj
 · have M := aS hc M
   exact ajX M S po pq H
theorem aj0 {w0 : World} {c : Cx} {g h : AH} {E R : Value → W} {r : Bool} {N : Nat}   (M : Q3 N  = some r) (S : Sep c g h [])   (H : wN c R r) : J9 w0 E R  h := by
 unfold J9
 unfold Q3 at M
 cases M
 exact H _ _  S.bj
theorem aj1 {w0 : World} {c : Cx} {g h : AH} {E R : Value → W} {r : Bool} {N : Nat} {x0 x1 : List Int} {y2 : Int} {bw cr : Value} {k1 : Value → W} {gj : Int → Option Bool} {kU : AH} (M : wM N x0 x1 y2 gj = some r) (S : Sep c g h []) (cb : ae (rI .i64) 1 g bw x0) (cS : ae (rI .i64) 1 g cr x1) (po : Sub kU g) (pq : ∀ {aq : Int} {g2 h2 : AH}, gj aq = some r → Sub kU g2 → Sep c g2 h2 [] → k1 (vi aq) h2) (H : wN c R r) : EU w0 E R bw cr k1 (vi y2) h := by
 unfold EU
 unfold wM at M
 refine cb.len ?_
 refine fW.2 ?_
 refine bp (fun hc => ?_) (fun hc => ?_)
 · have M := aR hc M
   exact ajY M S cb cS po pq H
 · have M := aS hc M
   exact aj0 M S  H
theorem aj2 {w0 : World} {c : Cx} {E R : Value → W} {r : Bool} {N : Nat} {x0 x1 : List Int} {bw cr : Value}   (H : wN c R r) : ∀ (n : Nat) {y2 : Int} {g h : AH}, C2 N x0 x1 n y2 = some r → Sep c g h [] → ae (rI .i64) 1 g bw x0 → ae (rI .i64) 1 g cr x1 → gG (α := Value) (fun k a => EU w0 E R bw cr k a) n (vi y2) h := by
 intro n
 induction n with
 | zero =>
  intro y2  g h M S cb cS
  unfold C2 at M; cases M
 | succ n ih =>
  intro y2  g h M S cb cS
  exact aj1 M S cb cS  (Sub.refl g) (fun M2 sub S2  => ih M2 S2 (ae.mono cb (ig .i64) sub) (ae.mono cS (ig .i64) sub) ) H
theorem aj3 {w0 : World} {c : Cx} {g h : AH} {E R : Value → W} {r : Bool} {N : Nat} {x0 x1 : List Int} {bw cr : Value}  (M : IE N x0 x1 = some r) (S : Sep c g h []) (cb : ae (rI .i64) 1 g bw x0) (cS : ae (rI .i64) 1 g cr x1)  (H : wN c R r) : Kc w0 E R bw cr h := by
 unfold Kc
 unfold IE at M
 exact ⟨N, aj2  H _ M S cb cS ⟩
theorem PY {w0 : World} {g h : AH} {Q : CR → AH → Prop} {r : Bool} {N : Nat} {x0 x1 : List Int} {bw cr : Value} (M : vS N x0 x1 = some r) (sg : Sub g h) (ok : h.Ok) (cb : ae (rI .i64) 1 g bw x0) (cS : ae (rI .i64) 1 g cr x1) (H : wN ⟨g, h, []⟩ (fun v => Q (.ret v)) r) : WF PP w0 zY [bw, cr] h Q := by
 refine ab4 _ _ ?_
 have S := Sep.start sg ok
 unfold Tl
 unfold vS at M
 refine cb.len ?_
 refine cS.len ?_
 refine tx.2 ?_
 refine bp (fun hc => ?_) (fun hc => ?_)
 · have M := aR hc M
   cases M
   exact H _ _  S.bj
 · have M := aS hc M
   exact aj3 M S cb cS H
def zq (v1 : al) (bC : Bool)  : Option Bool :=
 bif bC then (
 bif (decide ((v1.aI.length : Int) ≤ 8)) then (
 some true) else (
 bif (decide (40 < (v1.aI.length : Int))) then (
 some (decide ((v1.aI.length : Int) ≤ 60))) else (
 some false))) else (
 some false)
def Cn (x0 : al) : Option Bool :=
 bif (decide ((x0.ab.length : Int) ≤ 40)) then (
 zq x0 true) else (
 bif (decide (600 < (x0.ab.length : Int))) then (
 zq x0 (decide ((x0.ab.length : Int) ≤ 700))) else (
 zq x0 false))
abbrev ZS (c : Cx) (R : Value → W) (r : Bool) : Prop := ∀ (g' h' : AH), Sep c g' h' [] → R (.bool r) h'
theorem Q6 {w0 : World} {c : Cx} {g h : AH} {E R : Value → W} {r : Bool} {v1 : al} {bC : Bool} {ah : Nat} {av aw : Value}  (M : zq v1 bC = some r) (S : Sep c g h [.bx ah [(.string v1.aE), (.string v1.aG), (vi v1.fArgs), (vi v1.aC), (vi v1.aD), av, aw]]) (aA : ae ak.rep 4 g av v1.ab) (aB : ae aH.rep 3 g aw v1.aI)  (H : ZS c R r) : Ko w0 E R (az ah 0) (.bool bC) h := by
 unfold Ko
 unfold zq at M
 cases hc : bC
 · have M := aS hc M
   refine ay (by decide) ?_
   refine ay (by decide) ?_
   refine ay (by decide) ?_
   refine ay (by decide) ?_
   refine ay (by decide) ?_
   refine iN ?_
   refine iN ?_
   refine iN ?_
   refine iN ?_
   refine iN ?_
   refine iN ?_
   refine iN ?_
   refine iN ?_
   refine iN ?_
   refine iN ?_
   refine ay (by decide) ?_
   refine bf.2 ?_
   cases M
   exact H _ _  S.bj
 · have M := aR hc M
   refine ax rfl ?_
   refine bg.2 ?_
   refine ax rfl ?_
   refine S.aX 0 rfl rfl ?_
   refine ax rfl ?_
   refine aB.len ?_
   refine ax rfl ?_
   refine nr.2 ?_
   refine ax rfl ?_
   cases hc : (decide ((v1.aI.length : Int) ≤ 8))
   · have M := aS hc M
     refine ax rfl ?_
     refine bg.2 ?_
     refine ax rfl ?_
     refine S.aX 0 rfl rfl ?_
     refine ax rfl ?_
     refine aB.len ?_
     refine ax rfl ?_
     refine oe.2 ?_
     refine ax rfl ?_
     cases hc : (decide (40 < (v1.aI.length : Int)))
     · have M := aS hc M
       refine ay (by decide) ?_
       refine ay (by decide) ?_
       refine ay (by decide) ?_
       refine ay (by decide) ?_
       refine ax rfl ?_
       refine bf.2 ?_
       refine ax rfl ?_
       refine bf.2 ?_
       refine bf.2 ?_
       cases M
       exact H _ _  S.bj
     · have M := aR hc M
       refine ax rfl ?_
       refine bg.2 ?_
       refine ax rfl ?_
       refine S.aX 0 rfl rfl ?_
       refine ax rfl ?_
       refine aB.len ?_
       refine ax rfl ?_
       refine nr.2 ?_
       refine ax rfl ?_
       refine bf.2 ?_
       refine ax rfl ?_
       refine bf.2 ?_
       refine bf.2 ?_
       cases M
       exact H _ _  S.bj
   · have M := aR hc M
     refine ay (by decide) ?_
     refine ay (by decide) ?_
     refine ay (by decide) ?_
     refine ay (by decide) ?_
     refine ay (by decide) ?_
     refine iN ?_
     refine iN ?_
     refine iN ?_
     refine iN ?_
     refine ay (by decide) ?_
     refine ax rfl ?_
     refine bf.2 ?_
     refine bf.2 ?_
     cases M
     exact H _ _  S.bj
theorem aiD {w0 : World} {g h : AH} {Q : CR → AH → Prop} {r : Bool} {x0 : al} {bN bO : Value} (M : Cn x0 = some r) (sg : Sub g h) (ok : h.Ok) (bL : ae ak.rep 4 g bN x0.ab) (bS : ae aH.rep 3 g bO x0.aI) (H : ZS ⟨g, h, []⟩ (fun v => Q (.ret v)) r) : WF PP w0 Kp [(.agg ⟨[(.string x0.aE), (.string x0.aG), (vi x0.fArgs), (vi x0.aC), (vi x0.aD), bN, bO]⟩)] h Q := by
 refine acd _ ?_
 have S := Sep.start sg ok
 unfold Tt
 unfold Cn at M
 refine S.box [(.string x0.aE), (.string x0.aG), (vi x0.fArgs), (vi x0.aC), (vi x0.aD), bN, bO] rfl (aa rfl (aa rfl (aa rfl (aa rfl (aa rfl (aa bL.one (aa bS.one rfl))))))) (fun fX h S => ?_)
 refine bg.2 ?_
 refine S.aX 0 rfl rfl ?_
 refine bL.len ?_
 refine nr.2 ?_
 cases hc : (decide ((x0.ab.length : Int) ≤ 40))
 · have M := aS hc M
   refine ax rfl ?_
   refine bg.2 ?_
   refine ax rfl ?_
   refine S.aX 0 rfl rfl ?_
   refine ax rfl ?_
   refine bL.len ?_
   refine ax rfl ?_
   refine oe.2 ?_
   refine ax rfl ?_
   cases hc : (decide (600 < (x0.ab.length : Int)))
   · have M := aS hc M
     refine ay (by decide) ?_
     refine ay (by decide) ?_
     refine ay (by decide) ?_
     refine ay (by decide) ?_
     refine ax rfl ?_
     refine bf.2 ?_
     refine bf.2 ?_
     exact Q6 M S bL bS H
   · have M := aR hc M
     refine ax rfl ?_
     refine bg.2 ?_
     refine ax rfl ?_
     refine S.aX 0 rfl rfl ?_
     refine ax rfl ?_
     refine bL.len ?_
     refine ax rfl ?_
     refine nr.2 ?_
     refine ax rfl ?_
     refine bf.2 ?_
     refine bf.2 ?_
     exact Q6 M S bL bS H
 · have M := aR hc M
   refine ay (by decide) ?_
   refine ay (by decide) ?_
   refine ay (by decide) ?_
   refine ay (by decide) ?_
   refine ay (by decide) ?_
   refine iN ?_
   refine iN ?_
   refine iN ?_
   refine iN ?_
   refine ay (by decide) ?_
   refine bf.2 ?_
   exact Q6 M S bL bS H
end
end Go.Ve.T
namespace Go.Ve.T
open Go.Ve Go.Proofs
noncomputable section
set_option maxRecDepth 10000
def C3 (x0 : aH) (x1 : Int) : Option Bool :=
 bif (decide (x0.dN ≤ x1)) then (
 some (decide (x1 < x0.ew))) else (
 some false)
abbrev aj4 (c : Cx) (R : Value → W) (r : Bool) : Prop := ∀ (g' h' : AH), Sep c g' h' [] → R (.bool r) h'
theorem aj5 {w0 : World} {g h : AH} {Q : CR → AH → Prop} {r : Bool} {x0 : aH} {x1 : Int} {mF : Nat} (M : C3 x0 x1 = some r) (sg : Sub g h) (ok : h.Ok) (nC : g.bU mF 0 [(vi x1)]) (H : aj4 ⟨g, h, []⟩ (fun v => Q (.ret v)) r) : WF PP w0 EE [(.agg ⟨[(vi x0.dN), (vi x0.ew), (vi x0.dJ)]⟩), (az mF 0)] h Q := by
 refine abJ _ _ ?_
 have S := Sep.start sg ok
 unfold S4
 unfold C3 at M
 refine S.box [(vi x0.dN), (vi x0.ew), (vi x0.dJ)] rfl (aa rfl (aa rfl (aa rfl rfl))) (fun fX h S => ?_)
 refine bg.2 ?_
 refine S.aX 0 rfl rfl ?_
 refine S.fQ (nC 0 _ rfl) ?_
 refine nr.2 ?_
 cases hc : (decide (x0.dN ≤ x1))
 · have M := aS hc M
   refine ay (by decide) ?_
   refine ay (by decide) ?_
   refine ay (by decide) ?_
   refine ay (by decide) ?_
   refine bf.2 ?_
   cases M
   exact H _ _  S.bj
 · have M := aR hc M
   refine ax rfl ?_
   refine S.fQ (nC 0 _ rfl) ?_
   refine ax rfl ?_
   refine bg.2 ?_
   refine ax rfl ?_
   refine S.aX 0 rfl rfl ?_
   refine ax rfl ?_
   refine fW.2 ?_
   refine bf.2 ?_
   cases M
   exact H _ _  S.bj
def zr (N : Nat) (x0 : al) (x1 : Int) : Option Int :=
(zf N x0.aI (fun a0 => C3 a0 x1)).bind fun ff =>
 some ff
abbrev aj6 (c : Cx) (R : Value → W) (r : Int) : Prop := ∀ (g' h' : AH), Sep c g' h' [] → R (vi r) h'
theorem ZT {w0 : World} {g h : AH} {Q : CR → AH → Prop} {r : Int} {N : Nat} {x0 : al} {x1 : Int} {bN bO : Value} (M : zr N x0 x1 = some r) (sg : Sub g h) (ok : h.Ok) (bL : ae ak.rep 4 g bN x0.ab) (bS : ae aH.rep 3 g bO x0.aI) (H : aj6 ⟨g, h, []⟩ (fun v => Q (.ret v)) r) : WF PP w0 EH [(.agg ⟨[(.string x0.aE), (.string x0.aG), (vi x0.fArgs), (vi x0.aC), (vi x0.aD), bN, bO]⟩), (vi x1)] h Q := by
 refine abN _ _ ?_
 have S := Sep.start sg ok
 unfold S6
 unfold zr at M
 refine S.box [(.string x0.aE), (.string x0.aG), (vi x0.fArgs), (vi x0.aC), (vi x0.aD), bN, bO] rfl (aa rfl (aa rfl (aa rfl (aa rfl (aa rfl (aa bL.one (aa bS.one rfl))))))) (fun fX h S => ?_)
 refine S.box [(vi x1)] rfl (aa rfl rfl) (fun yU h S => ?_)
 refine bg.2 ?_
 refine S.aX 1 rfl rfl ?_
 refine (He (by simp)).2 ?_
 obtain ⟨g, sg, S, r_3⟩ := S.yX
 have bL := ae.mono bL ak.mono sg
 have bS := ae.mono bS aH.mono sg
 have Q7 : o5 w0 g (.func (.func EE) ⟨[]⟩ ⟨[(az yU 0)]⟩) (fun a0 => C3 a0 x1) := ⟨rfl, fun a0 r E K g2 h2 s1 s2 s3  m1 k1 => aj5 m1 s2 s3 (Sub.bU s1 r_3) k1⟩
 obtain ⟨ff, ku, M⟩ := bind_some M
 refine Zy ku S.sub S.ok bS Q7 (fun _ h  S1  => ?_)
 have S := S.bY S1
 cases M
 exact H _ _  S.bj
def C4 (N : Nat) (aO : Int) (cP : List Int) (jq : ak) (dV : (List Int) → Int → Option ((List Int))) : Option ((List Int)) :=
 dV cP (bt .i64 (aO + 1))
def C5 (N : Nat) (v1 : ak) (cD : Int) (aV : List Int) (aO : Int) (v28 : Bool) (dV : (List Int) → Int → Option ((List Int))) : Option ((List Int)) :=
 bif v28 then (
(wo v1).bind fun lY =>
(ix [lY.e0, lY.e1, lY.e2] (bt .i64 (cD - 1))).bind fun gI =>
 gu (decide (aV.length + [gI].length ≤ 1048576)) (
 C4 N aO (aV ++ [gI]) v1 dV)) else (
 C4 N aO aV v1 dV)
def C6 (N : Nat) (v1 : ak) (cD : Int) (aV : List Int) (aO : Int) (v21 : Bool) (dV : (List Int) → Int → Option ((List Int))) : Option ((List Int)) :=
 bif v21 then (
(wo v1).bind fun cK =>
(ix [cK.e0, cK.e1, cK.e2] (bt .i64 (cD - 1))).bind fun ij =>
 C5 N v1 cD aV aO (!decide (ij = (-1))) dV) else (
 C5 N v1 cD aV aO false dV)
def wO (N : Nat) (v11 : eN) (aO : Int) (v6 : Bool) (v1 : ak) (aV : List Int) (dV : (List Int) → Int → Option ((List Int))) : Option ((List Int)) :=
(ix [v11.e0, v11.e1] aO).bind fun ff =>
 bif v6 then (
 C6 N v1 ff aV aO (decide (0 < ff)) dV) else (
 C6 N v1 ff aV aO false dV)
def Q8 (N : Nat) (y9 : List Int)  : Option ((List Int)) :=
 some y9
def Q9 (N : Nat) (v11 : eN) (v6 : Bool) (v1 : ak) (aV : List Int) (aO : Int) (dV : (List Int) → Int → Option ((List Int))) : Option ((List Int)) :=
 bif (decide (aO < 2)) then (
 wO N v11 aO v6 v1 aV dV) else (
 Q8 N aV)
def C7 (N : Nat) (v11 : eN) (v6 : Bool) (v1 : ak)  : Nat → (List Int) → Int → Option ((List Int))
 | 0, _, _ => none
 | n + 1, aV, aO => Q9 N v11 v6 v1 aV aO  (fun aq bn => C7 N v11 v6 v1 n aq bn)
def Cj (N : Nat) (x0 : ak) : Option ((List Int)) :=
(wu x0.aJ).bind fun aM =>
 C7 N aM.1.c7 aM.2 x0 N ([] : List Int) 0
abbrev uo (c : Cx) (R : Value → W) (r : (List Int)) : Prop := ∀ (g' h' : AH) (w1 : Value), Sep c g' h' [] → ae (rI .i64) 1 g' w1 r → R w1 h'
theorem ZU {w0 : World} {c : Cx} {g h : AH} {E R : Value → W} {r : (List Int)} {N : Nat} {aO : Int} {cP : List Int} {jq : ak} {Cw : Value} {Cy : List (List Value)} {Cz : Nat} {eb : Value → Value → W} {dV : (List Int) → Int → Option ((List Int))} {iO : AH} (M : C4 N aO cP jq dV = some r) (S : Sep c g h [.sl 3 1 Cw Cy, .bx Cz [(vi jq.aJ), (vi jq.fA), (vi jq.fB), (vi jq.fC)]]) (Qw : au ((rI .i64) g) Cy cP) (j3 : Sub iO g) (j4 : ∀ {aq : List Int} {dO : Value} {dP : List (List Value)} {bn : Int} {g2 h2 : AH}, dV aq bn = some r → Sub iO g2 → Sep c g2 h2 [.bx Cz [(vi jq.aJ), (vi jq.fA), (vi jq.fB), (vi jq.fC)], .sl 3 1 dO dP] → au ((rI .i64) g2) dP aq → eb dO (vi bn) h2) (H : uo c R r) : EV w0 E R (vi aO) eb Cw h := by
 unfold EV
 unfold C4 at M
 refine gE.2 ?_
 have S := S.f1
 exact j4 M j3 S Qw
theorem ZV {w0 : World} {c : Cx} {g h : AH} {E R : Value → W} {r : (List Int)} {N : Nat} {v1 : ak} {cD : Int} {aV : List Int} {aO : Int} {v28 : Bool} {ah : Nat} {eM : Value} {ey : List (List Value)} {eb : Value → Value → W} {dV : (List Int) → Int → Option ((List Int))} {iO : AH} (M : C5 N v1 cD aV aO v28 dV = some r) (S : Sep c g h [.bx ah [(vi v1.aJ), (vi v1.fA), (vi v1.fB), (vi v1.fC)], .sl 3 1 eM ey]) (fj : au ((rI .i64) g) ey aV) (j3 : Sub iO g) (j4 : ∀ {aq : List Int} {dO : Value} {dP : List (List Value)} {bn : Int} {g2 h2 : AH}, dV aq bn = some r → Sub iO g2 → Sep c g2 h2 [.bx ah [(vi v1.aJ), (vi v1.fA), (vi v1.fB), (vi v1.fC)], .sl 3 1 dO dP] → au ((rI .i64) g2) dP aq → eb dO (vi bn) h2) (H : uo c R r) : Ke w0 E R (az ah 0) (vi cD) eM (vi aO) eb (.bool v28) h := by
 unfold Ke
 unfold C5 at M
 refine bp (fun hc => ?_) (fun hc => ?_)
 · have M := aR hc M
   refine S.bV [(vi v1.aJ), (vi v1.fA), (vi v1.fB), (vi v1.fC)] 0 rfl rfl rfl (by decide) ?_
   obtain ⟨lY, tY, M⟩ := bind_some M
   refine Io tY S.sub S.ok (fun _ h  S1  => ?_)
   have S := S.bY S1
   refine mA.2 ?_
   obtain ⟨gI, C8, M⟩ := bind_some M
   refine y0 [lY.e0, lY.e1, lY.e2] (fun q => (vi q)) rfl C8 ?_
   refine S.qA [[(vi gI)]] (cL (m := [(vi gI)]) (l2 := [(vi gI)]) rfl rfl (Nat.le_of_ble_eq_true rfl) rfl rfl) rfl (by decide) (qC rfl qB) (aa rfl rfl) (fun ZW h S => ?_)
   have pt : au ((rI .i64) g) [[(vi gI)]] [gI] := (au.push au.nil (show (rI .i64) g [(vi gI)] gI from rfl))
   have S := S.f2
   obtain ⟨C9, M⟩ := mD M
   refine S.app (S.rd 1 rfl) (by rw [fj.1, pt.1]; exact C9) (by decide) rfl (kA (kz .i64) pt) (kA (kz .i64) fj) (fun IG h S => ?_)
   have Da : au ((rI .i64) g) (ey ++ [[(vi gI)]]) (aV ++ [gI]) := au.append fj pt
   have S := S.f2
   have S := S.f1
   have S := S.t2
   exact ZU M S Da j3 j4 H
 · have M := aS hc M
   have S := S.f1
   exact ZU M S fj j3 j4 H
theorem ZX {w0 : World} {c : Cx} {g h : AH} {E R : Value → W} {r : (List Int)} {N : Nat} {v1 : ak} {cD : Int} {aV : List Int} {aO : Int} {v21 : Bool} {ah : Nat} {eM : Value} {ey : List (List Value)} {eb : Value → Value → W} {dV : (List Int) → Int → Option ((List Int))} {iO : AH} (M : C6 N v1 cD aV aO v21 dV = some r) (S : Sep c g h [.bx ah [(vi v1.aJ), (vi v1.fA), (vi v1.fB), (vi v1.fC)], .sl 3 1 eM ey]) (fj : au ((rI .i64) g) ey aV) (j3 : Sub iO g) (j4 : ∀ {aq : List Int} {dO : Value} {dP : List (List Value)} {bn : Int} {g2 h2 : AH}, dV aq bn = some r → Sub iO g2 → Sep c g2 h2 [.bx ah [(vi v1.aJ), (vi v1.fA), (vi v1.fB), (vi v1.fC)], .sl 3 1 dO dP] → au ((rI .i64) g2) dP aq → eb dO (vi bn) h2) (H : uo c R r) : Kf w0 E R (az ah 0) (vi cD) eM (vi aO) eb (.bool v21) h := by
 unfold Kf
 unfold C6 at M
 cases hc : v21
 · have M := aS hc M
   refine ay (by decide) ?_
   refine ay (by decide) ?_
   refine ay (by decide) ?_
   refine ay (by decide) ?_
   refine ay (by decide) ?_
   refine ay (by decide) ?_
   refine bf.2 ?_
   exact ZV M S fj j3 j4 H
 · have M := aR hc M
   refine ax rfl ?_
   refine S.bV [(vi v1.aJ), (vi v1.fA), (vi v1.fB), (vi v1.fC)] 0 rfl rfl rfl (by decide) ?_
   refine ax rfl ?_
   obtain ⟨cK, gH, M⟩ := bind_some M
   refine Io gH S.sub S.ok (fun _ h  S1  => ?_)
   have S := S.bY S1
   refine ax rfl ?_
   refine ax rfl ?_
   refine mA.2 ?_
   refine ax rfl ?_
   obtain ⟨ij, se, M⟩ := bind_some M
   refine y0 [cK.e0, cK.e1, cK.e2] (fun q => (vi q)) rfl se ?_
   refine ax rfl ?_
   refine tx.2 ?_
   refine bf.2 ?_
   exact ZV M S fj j3 j4 H
theorem aj7 {w0 : World} {c : Cx} {g h : AH} {E R : Value → W} {r : (List Int)} {N : Nat} {v11 : eN} {aO : Int} {v6 : Bool} {v1 : ak} {aV : List Int} {ah : Nat} {eM : Value} {ey : List (List Value)} {eb : Value → Value → W} {dV : (List Int) → Int → Option ((List Int))} {iO : AH} (M : wO N v11 aO v6 v1 aV dV = some r) (S : Sep c g h [.bx ah [(vi v1.aJ), (vi v1.fA), (vi v1.fB), (vi v1.fC)], .sl 3 1 eM ey]) (fj : au ((rI .i64) g) ey aV) (j3 : Sub iO g) (j4 : ∀ {aq : List Int} {dO : Value} {dP : List (List Value)} {bn : Int} {g2 h2 : AH}, dV aq bn = some r → Sub iO g2 → Sep c g2 h2 [.bx ah [(vi v1.aJ), (vi v1.fA), (vi v1.fB), (vi v1.fC)], .sl 3 1 dO dP] → au ((rI .i64) g2) dP aq → eb dO (vi bn) h2) (H : uo c R r) : Kg w0 E R (.agg ⟨[(vi v11.e0), (vi v11.e1)]⟩) (vi aO) (.bool v6) (az ah 0) eM eb h := by
 unfold Kg
 unfold wO at M
 obtain ⟨ff, ku, M⟩ := bind_some M
 refine y0 [v11.e0, v11.e1] (fun q => (vi q)) rfl ku ?_
 cases hc : v6
 · have M := aS hc M
   refine ay (by decide) ?_
   refine ay (by decide) ?_
   refine bf.2 ?_
   exact ZX M S fj j3 j4 H
 · have M := aR hc M
   refine ax rfl ?_
   refine ax rfl ?_
   refine oe.2 ?_
   refine bf.2 ?_
   exact ZX M S fj j3 j4 H
theorem aj8 {w0 : World} {c : Cx} {g h : AH} {E R : Value → W} {r : (List Int)} {N : Nat} {y9 : List Int} {lZ : Value} {o7 : List (List Value)}  (M : Q8 N y9 = some r) (S : Sep c g h [.sl 3 1 lZ o7]) (wx : au ((rI .i64) g) o7 y9)  (H : uo c R r) : Kd w0 E R lZ h := by
 unfold Kd
 unfold Q8 at M
 obtain ⟨g, sg, S, vZ⟩ := S.fz wx (ig .i64)
 cases M
 exact H _ _ lZ S.bj vZ
theorem aj9 {w0 : World} {c : Cx} {g h : AH} {E R : Value → W} {r : (List Int)} {N : Nat} {v11 : eN} {v6 : Bool} {v1 : ak} {aV : List Int} {aO : Int} {ah : Nat} {eM : Value} {ey : List (List Value)} {eb : Value → Value → W} {dV : (List Int) → Int → Option ((List Int))} {iO : AH} (M : Q9 N v11 v6 v1 aV aO dV = some r) (S : Sep c g h [.bx ah [(vi v1.aJ), (vi v1.fA), (vi v1.fB), (vi v1.fC)], .sl 3 1 eM ey]) (fj : au ((rI .i64) g) ey aV) (j3 : Sub iO g) (j4 : ∀ {aq : List Int} {dO : Value} {dP : List (List Value)} {bn : Int} {g2 h2 : AH}, dV aq bn = some r → Sub iO g2 → Sep c g2 h2 [.bx ah [(vi v1.aJ), (vi v1.fA), (vi v1.fB), (vi v1.fC)], .sl 3 1 dO dP] → au ((rI .i64) g2) dP aq → eb dO (vi bn) h2) (H : uo c R r) : EW w0 E R (.agg ⟨[(vi v11.e0), (vi v11.e1)]⟩) (.bool v6) (az ah 0) eb eM (vi aO) h := by
 unfold EW
 unfold Q9 at M
 refine fW.2 ?_
 refine bp (fun hc => ?_) (fun hc => ?_)
 · have M := aR hc M
   exact aj7 M S fj j3 j4 H
 · have M := aS hc M
   have S := S.f1
   have S := S.t1
   exact aj8 M S fj H
theorem aka {w0 : World} {c : Cx} {E R : Value → W} {r : (List Int)} {N : Nat} {v11 : eN} {v6 : Bool} {v1 : ak} {ah : Nat}   (H : uo c R r) : ∀ (n : Nat) {aV : List Int} {aO : Int} {eM : Value} {ey : List (List Value)} {g h : AH}, C7 N v11 v6 v1 n aV aO = some r → Sep c g h [.bx ah [(vi v1.aJ), (vi v1.fA), (vi v1.fB), (vi v1.fC)], .sl 3 1 eM ey] → au ((rI .i64) g) ey aV → gG (α := Value × Value) (fun k a => EW w0 E R (.agg ⟨[(vi v11.e0), (vi v11.e1)]⟩) (.bool v6) (az ah 0) (fun b0 b1 => k (b0, b1)) a.1 a.2) n (eM, (vi aO)) h := by
 intro n
 induction n with
 | zero =>
  intro aV aO eM ey g h M S fj
  unfold C7 at M; cases M
 | succ n ih =>
  intro aV aO eM ey g h M S fj
  exact aj9 M S fj  (Sub.refl g) (fun M2 sub S2 wy => ih M2 S2 wy ) H
theorem aix {w0 : World} {g h : AH} {Q : CR → AH → Prop} {r : (List Int)} {N : Nat} {x0 : ak} (M : Cj N x0 = some r) (sg : Sub g h) (ok : h.Ok)  (H : uo ⟨g, h, []⟩ (fun v => Q (.ret v)) r) : WF PP w0 Kh [(.agg ⟨[(vi x0.aJ), (vi x0.fA), (vi x0.fB), (vi x0.fC)]⟩)] h Q := by
 refine ab5 _ ?_
 have S := Sep.start sg ok
 unfold Tm
 unfold Cj at M
 refine S.box [(vi x0.aJ), (vi x0.fA), (vi x0.fB), (vi x0.fC)] rfl (aa rfl (aa rfl (aa rfl (aa rfl rfl)))) (fun fX h S => ?_)
 refine bg.2 ?_
 refine S.aX 0 rfl rfl ?_
 obtain ⟨aM, eG, M⟩ := bind_some M
 refine zb x0.aJ S.sub S.ok eG (fun _ h  S1  => ?_)
 have S := S.bY S1
 refine (fH rfl).2 ?_
 refine (fH rfl).2 ?_
 refine S.alloc (l := [(.string (⟨⟨[]⟩⟩ : ByteArray)), (vi 0), (vi 0), (vi 0), (vi 0), (vi 0), (vi 0), (.bool false), (.bool false)]) (aa rfl (aa rfl (aa rfl (aa rfl (aa rfl (aa rfl (aa rfl (aa rfl (aa rfl rfl))))))))) (fun qE h S => ?_)
 refine S.cZ [(.string aM.1.nB), (vi aM.1.dG.e0), (vi aM.1.dG.e1), (vi aM.1.dG.e2), (vi aM.1.iY), (vi aM.1.c7.e0), (vi aM.1.c7.e1), (.bool aM.1.jr), (.bool aM.1.iZ)] [(.string aM.1.nB), (vi aM.1.dG.e0), (vi aM.1.dG.e1), (vi aM.1.dG.e2), (vi aM.1.iY), (vi aM.1.c7.e0), (vi aM.1.c7.e1), (.bool aM.1.jr), (.bool aM.1.iZ)] rfl rfl (aa rfl (aa rfl (aa rfl (aa rfl (aa rfl (aa rfl (aa rfl (aa rfl (aa rfl rfl))))))))) (Nat.le_of_ble_eq_true rfl) rfl (fun h S => ?_)
 refine bg.2 ?_
 refine S.bV [(vi aM.1.c7.e0), (vi aM.1.c7.e1)] 0 rfl rfl rfl (by decide) ?_
 have S := S.tZ 3 1
 have S := S.f2
 have S := S.t2
 exact ⟨N, aka  H _ M S (au.nil (R := (rI .i64) g)) ⟩
def Db (v1 : ak) (v7 : sr)  : Option Int :=
(wo v1).bind fun ff =>
(ix [ff.e0, ff.e1, ff.e2] (bt .i64 (v7.iY - 1))).bind fun cK =>
 some cK
def Cb (x0 : ak) : Option Int :=
(wu x0.aJ).bind fun aM =>
 bif (decide (aM.1.iY = 0)) then (
 some (-1)) else (
 Db x0 aM.1)
abbrev ZY (c : Cx) (R : Value → W) (r : Int) : Prop := ∀ (g' h' : AH), Sep c g' h' [] → R (vi r) h'
theorem akb {w0 : World} {c : Cx} {g h : AH} {E R : Value → W} {r : Int} {v1 : ak} {v7 : sr} {ah jH : Nat}  (M : Db v1 v7 = some r) (S : Sep c g h [.bx ah [(vi v1.aJ), (vi v1.fA), (vi v1.fB), (vi v1.fC)], .bx jH [(.string v7.nB), (vi v7.dG.e0), (vi v7.dG.e1), (vi v7.dG.e2), (vi v7.iY), (vi v7.c7.e0), (vi v7.c7.e1), (.bool v7.jr), (.bool v7.iZ)]])   (H : ZY c R r) : Km w0 E R (az ah 0) (az jH 0) h := by
 unfold Km
 unfold Db at M
 refine S.bV [(vi v1.aJ), (vi v1.fA), (vi v1.fB), (vi v1.fC)] 0 rfl rfl rfl (by decide) ?_
 refine bg.2 ?_
 refine S.aX 1 rfl rfl ?_
 refine mA.2 ?_
 obtain ⟨ff, ku, M⟩ := bind_some M
 refine Io ku S.sub S.ok (fun _ h  S1  => ?_)
 have S := S.bY S1
 refine ⟨?_, ?_⟩
 · refine mA.2 ?_
   exact Ib
 · refine ⟨?_, ?_⟩
   · refine S.aX 1 rfl rfl ?_
     exact Ib
   · refine ⟨?_, ?_⟩
     · refine bg.2 ?_
       exact aiX
     · obtain ⟨cK, gH, M⟩ := bind_some M
       refine y0 [ff.e0, ff.e1, ff.e2] (fun q => (vi q)) rfl gH ?_
       cases M
       exact H _ _  S.bj
theorem aik {w0 : World} {g h : AH} {Q : CR → AH → Prop} {r : Int} {x0 : ak} (M : Cb x0 = some r) (sg : Sub g h) (ok : h.Ok)  (H : ZY ⟨g, h, []⟩ (fun v => Q (.ret v)) r) : WF PP w0 Kn [(.agg ⟨[(vi x0.aJ), (vi x0.fA), (vi x0.fB), (vi x0.fC)]⟩)] h Q := by
 refine acb _ ?_
 have S := Sep.start sg ok
 unfold Ts
 unfold Cb at M
 refine S.box [(vi x0.aJ), (vi x0.fA), (vi x0.fB), (vi x0.fC)] rfl (aa rfl (aa rfl (aa rfl (aa rfl rfl)))) (fun fX h S => ?_)
 refine bg.2 ?_
 refine S.aX 0 rfl rfl ?_
 obtain ⟨aM, eG, M⟩ := bind_some M
 refine zb x0.aJ S.sub S.ok eG (fun _ h  S1  => ?_)
 have S := S.bY S1
 refine (fH rfl).2 ?_
 refine (fH rfl).2 ?_
 refine S.alloc (l := [(.string (⟨⟨[]⟩⟩ : ByteArray)), (vi 0), (vi 0), (vi 0), (vi 0), (vi 0), (vi 0), (.bool false), (.bool false)]) (aa rfl (aa rfl (aa rfl (aa rfl (aa rfl (aa rfl (aa rfl (aa rfl (aa rfl rfl))))))))) (fun qE h S => ?_)
 refine S.cZ [(.string aM.1.nB), (vi aM.1.dG.e0), (vi aM.1.dG.e1), (vi aM.1.dG.e2), (vi aM.1.iY), (vi aM.1.c7.e0), (vi aM.1.c7.e1), (.bool aM.1.jr), (.bool aM.1.iZ)] [(.string aM.1.nB), (vi aM.1.dG.e0), (vi aM.1.dG.e1), (vi aM.1.dG.e2), (vi aM.1.iY), (vi aM.1.c7.e0), (vi aM.1.c7.e1), (.bool aM.1.jr), (.bool aM.1.iZ)] rfl rfl (aa rfl (aa rfl (aa rfl (aa rfl (aa rfl (aa rfl (aa rfl (aa rfl (aa rfl rfl))))))))) (Nat.le_of_ble_eq_true rfl) rfl (fun h S => ?_)
 refine bg.2 ?_
 refine S.aX 0 rfl rfl ?_
 refine cI.2 ?_
 refine bp (fun hc => ?_) (fun hc => ?_)
 · have M := aR hc M
   cases M
   exact H _ _  S.bj
 · have M := aS hc M
   have S := S.f1
   exact akb M S  H
def Dc (v1 : ak) (v12 : Bool)  : Option Bool :=
 bif v12 then (
 some true) else (
 some (decide (v1.aJ = 28)))
def Dd (v1 : ak) (v8 : Bool)  : Option Bool :=
 bif v8 then (
 Dc v1 true) else (
 Dc v1 (decide (v1.aJ = 27)))
def zt (x0 : ak) : Option Bool :=
 bif (decide (x0.aJ = 24)) then (
 Dd x0 true) else (
 Dd x0 (decide (x0.aJ = 26)))
abbrev Ra (c : Cx) (R : Value → W) (r : Bool) : Prop := ∀ (g' h' : AH), Sep c g' h' [] → R (.bool r) h'
theorem ZZ {w0 : World} {c : Cx} {g h : AH} {E R : Value → W} {r : Bool} {v1 : ak} {v12 : Bool} {ah : Nat}  (M : Dc v1 v12 = some r) (S : Sep c g h [.bx ah [(vi v1.aJ), (vi v1.fA), (vi v1.fB), (vi v1.fC)]])   (H : Ra c R r) : KM w0 E R (az ah 0) (.bool v12) h := by
 unfold KM
 unfold Dc at M
 cases hc : v12
 · have M := aS hc M
   refine ax rfl ?_
   refine bg.2 ?_
   refine ax rfl ?_
   refine S.aX 0 rfl rfl ?_
   refine ax rfl ?_
   refine cI.2 ?_
   refine bf.2 ?_
   cases M
   exact H _ _  S.bj
 · have M := aR hc M
   refine ay (by decide) ?_
   refine ay (by decide) ?_
   refine ay (by decide) ?_
   refine bf.2 ?_
   cases M
   exact H _ _  S.bj
theorem Z0 {w0 : World} {c : Cx} {g h : AH} {E R : Value → W} {r : Bool} {v1 : ak} {v8 : Bool} {ah : Nat}  (M : Dd v1 v8 = some r) (S : Sep c g h [.bx ah [(vi v1.aJ), (vi v1.fA), (vi v1.fB), (vi v1.fC)]])   (H : Ra c R r) : KN w0 E R (az ah 0) (.bool v8) h := by
 unfold KN
 unfold Dd at M
 cases hc : v8
 · have M := aS hc M
   refine ax rfl ?_
   refine bg.2 ?_
   refine ax rfl ?_
   refine S.aX 0 rfl rfl ?_
   refine ax rfl ?_
   refine cI.2 ?_
   refine bf.2 ?_
   exact ZZ M S  H
 · have M := aR hc M
   refine ay (by decide) ?_
   refine ay (by decide) ?_
   refine ay (by decide) ?_
   refine bf.2 ?_
   exact ZZ M S  H
theorem Z1 {w0 : World} {g h : AH} {Q : CR → AH → Prop} {r : Bool} {x0 : ak} (M : zt x0 = some r) (sg : Sub g h) (ok : h.Ok)  (H : Ra ⟨g, h, []⟩ (fun v => Q (.ret v)) r) : WF PP w0 Fa [(.agg ⟨[(vi x0.aJ), (vi x0.fA), (vi x0.fB), (vi x0.fC)]⟩)] h Q := by
 refine acM _ ?_
 have S := Sep.start sg ok
 unfold TE
 unfold zt at M
 refine S.box [(vi x0.aJ), (vi x0.fA), (vi x0.fB), (vi x0.fC)] rfl (aa rfl (aa rfl (aa rfl (aa rfl rfl)))) (fun fX h S => ?_)
 refine bg.2 ?_
 refine S.aX 0 rfl rfl ?_
 refine cI.2 ?_
 cases hc : (decide (x0.aJ = 24))
 · have M := aS hc M
   refine ax rfl ?_
   refine bg.2 ?_
   refine ax rfl ?_
   refine S.aX 0 rfl rfl ?_
   refine ax rfl ?_
   refine cI.2 ?_
   refine bf.2 ?_
   exact Z0 M S  H
 · have M := aR hc M
   refine ay (by decide) ?_
   refine ay (by decide) ?_
   refine ay (by decide) ?_
   refine bf.2 ?_
   exact Z0 M S  H
def Rb (v1 : ak)  : Option Int :=
 some v1.fC
def Re (x1 : Int) (v1 : ak)  : Option Int :=
 bif (decide (x1 = 2)) then (
 some v1.fB) else (
 Rb v1)
def zu (x0 : ak) (x1 : Int) : Option Int :=
 bif (decide (x1 = 1)) then (
 some x0.fA) else (
 Re x1 x0)
abbrev Rf (c : Cx) (R : Value → W) (r : Int) : Prop := ∀ (g' h' : AH), Sep c g' h' [] → R (vi r) h'
theorem akc {w0 : World} {c : Cx} {g h : AH} {E R : Value → W} {r : Int} {v1 : ak} {ah : Nat}  (M : Rb v1 = some r) (S : Sep c g h [.bx ah [(vi v1.aJ), (vi v1.fA), (vi v1.fB), (vi v1.fC)]])   (H : Rf c R r) : KZ w0 E R (az ah 0) h := by
 unfold KZ
 unfold Rb at M
 refine bg.2 ?_
 refine S.aX 0 rfl rfl ?_
 cases M
 exact H _ _  S.bj
theorem akd {w0 : World} {c : Cx} {g h : AH} {E R : Value → W} {r : Int} {x1 : Int} {v1 : ak} {ah : Nat}  (M : Re x1 v1 = some r) (S : Sep c g h [.bx ah [(vi v1.aJ), (vi v1.fA), (vi v1.fB), (vi v1.fC)]])   (H : Rf c R r) : K3 w0 E R (vi x1) (az ah 0) h := by
 unfold K3
 unfold Re at M
 refine cI.2 ?_
 refine bp (fun hc => ?_) (fun hc => ?_)
 · have M := aR hc M
   refine bg.2 ?_
   refine S.aX 0 rfl rfl ?_
   cases M
   exact H _ _  S.bj
 · have M := aS hc M
   exact akc M S  H
theorem Rg {w0 : World} {g h : AH} {Q : CR → AH → Prop} {r : Int} {x0 : ak} {x1 : Int} (M : zu x0 x1 = some r) (sg : Sub g h) (ok : h.Ok)  (H : Rf ⟨g, h, []⟩ (fun v => Q (.ret v)) r) : WF PP w0 Ad [(.agg ⟨[(vi x0.aJ), (vi x0.fA), (vi x0.fB), (vi x0.fC)]⟩), (vi x1)] h Q := by
 refine acR _ _ ?_
 have S := Sep.start sg ok
 unfold TJ
 unfold zu at M
 refine S.box [(vi x0.aJ), (vi x0.fA), (vi x0.fB), (vi x0.fC)] rfl (aa rfl (aa rfl (aa rfl (aa rfl rfl)))) (fun fX h S => ?_)
 refine cI.2 ?_
 refine bp (fun hc => ?_) (fun hc => ?_)
 · have M := aR hc M
   refine bg.2 ?_
   refine S.aX 0 rfl rfl ?_
   cases M
   exact H _ _  S.bj
 · have M := aS hc M
   exact akd M S  H
def De (N : Nat) (aT : Int) (aV : List Int) (gW : ct) (cv : ak) (cd : (List Int) → Int → Option ((List Int))) : Option ((List Int)) :=
 cd aV (bt .i64 (aT + 1))
def Df (N : Nat) (v1 : ak) (v7 : ct) (aT : Int) (bz : List Int) (eo : Bool) (cd : (List Int) → Int → Option ((List Int))) : Option ((List Int)) :=
 bif eo then (
(ix [v7.cx.e0, v7.cx.e1] aT).bind fun lY =>
(zu v1 lY).bind fun gI =>
 gu (decide (bz.length + [gI].length ≤ 1048576)) (
 De N aT (bz ++ [gI]) v7 v1 cd)) else (
 De N aT bz v7 v1 cd)
def wP (N : Nat) (v7 : ct) (aT : Int) (v1 : ak) (bz : List Int) (cd : (List Int) → Int → Option ((List Int))) : Option ((List Int)) :=
(ix [v7.cx.e0, v7.cx.e1] aT).bind fun ff =>
 bif (decide (0 < ff)) then (
(ix [v7.cx.e0, v7.cx.e1] aT).bind fun cK =>
(zu v1 cK).bind fun ij =>
 Df N v1 v7 aT bz (!decide (ij = (-1))) cd) else (
 Df N v1 v7 aT bz false cd)
def Rh (N : Nat) (y9 : List Int)  : Option ((List Int)) :=
 some y9
def Ri (N : Nat) (v7 : ct) (v1 : ak) (bz : List Int) (aT : Int) (cd : (List Int) → Int → Option ((List Int))) : Option ((List Int)) :=
 bif (decide (aT < 2)) then (
 wP N v7 aT v1 bz cd) else (
 Rh N bz)
def IH (N : Nat) (v7 : ct) (v1 : ak)  : Nat → (List Int) → Int → Option ((List Int))
 | 0, _, _ => none
 | n + 1, bz, aT => Ri N v7 v1 bz aT  (fun aq bn => IH N v7 v1 n aq bn)
def Ck (N : Nat) (x0 : ak) : Option ((List Int)) :=
(ui x0.aJ).bind fun aM =>
 IH N aM.1 x0 N ([] : List Int) 0
abbrev wQ (c : Cx) (R : Value → W) (r : (List Int)) : Prop := ∀ (g' h' : AH) (w1 : Value), Sep c g' h' [] → ae (rI .i64) 1 g' w1 r → R w1 h'
theorem Z2 {w0 : World} {c : Cx} {g h : AH} {E R : Value → W} {r : (List Int)} {N : Nat} {aT : Int} {aV : List Int} {gW : ct} {cv : ak} {eM : Value} {ey : List (List Value)} {Z3 oo : Nat} {cm : Value → Value → W} {cd : (List Int) → Int → Option ((List Int))} {eA : AH} (M : De N aT aV gW cv cd = some r) (S : Sep c g h [.sl 3 1 eM ey, .bx Z3 [(vi gW.bQ.e0), (vi gW.bQ.e1), (vi gW.bQ.e2), (vi gW.fY), (vi gW.cx.e0), (vi gW.cx.e1), (.bool gW.gi)], .bx oo [(vi cv.aJ), (vi cv.fA), (vi cv.fB), (vi cv.fC)]]) (fj : au ((rI .i64) g) ey aV) (fk : Sub eA g) (gm : ∀ {aq : List Int} {dO : Value} {dP : List (List Value)} {bn : Int} {g2 h2 : AH}, cd aq bn = some r → Sub eA g2 → Sep c g2 h2 [.bx Z3 [(vi gW.bQ.e0), (vi gW.bQ.e1), (vi gW.bQ.e2), (vi gW.fY), (vi gW.cx.e0), (vi gW.cx.e1), (.bool gW.gi)], .bx oo [(vi cv.aJ), (vi cv.fA), (vi cv.fB), (vi cv.fC)], .sl 3 1 dO dP] → au ((rI .i64) g2) dP aq → cm dO (vi bn) h2) (H : wQ c R r) : Fi w0 E R (vi aT) cm eM h := by
 unfold Fi
 unfold De at M
 refine gE.2 ?_
 have S := S.f2
 have S := S.f2
 exact gm M fk S fj
theorem Z4 {w0 : World} {c : Cx} {g h : AH} {E R : Value → W} {r : (List Int)} {N : Nat} {v1 : ak} {v7 : ct} {aT : Int} {bz : List Int} {eo : Bool} {ah jH : Nat} {iE : Value} {gX : List (List Value)} {cm : Value → Value → W} {cd : (List Int) → Int → Option ((List Int))} {eA : AH} (M : Df N v1 v7 aT bz eo cd = some r) (S : Sep c g h [.bx ah [(vi v1.aJ), (vi v1.fA), (vi v1.fB), (vi v1.fC)], .bx jH [(vi v7.bQ.e0), (vi v7.bQ.e1), (vi v7.bQ.e2), (vi v7.fY), (vi v7.cx.e0), (vi v7.cx.e1), (.bool v7.gi)], .sl 3 1 iE gX]) (iF : au ((rI .i64) g) gX bz) (fk : Sub eA g) (gm : ∀ {aq : List Int} {dO : Value} {dP : List (List Value)} {bn : Int} {g2 h2 : AH}, cd aq bn = some r → Sub eA g2 → Sep c g2 h2 [.bx jH [(vi v7.bQ.e0), (vi v7.bQ.e1), (vi v7.bQ.e2), (vi v7.fY), (vi v7.cx.e0), (vi v7.cx.e1), (.bool v7.gi)], .bx ah [(vi v1.aJ), (vi v1.fA), (vi v1.fB), (vi v1.fC)], .sl 3 1 dO dP] → au ((rI .i64) g2) dP aq → cm dO (vi bn) h2) (H : wQ c R r) : K5 w0 E R (az ah 0) (az jH 0) (vi aT) iE cm (.bool eo) h := by
 unfold K5
 unfold Df at M
 refine bp (fun hc => ?_) (fun hc => ?_)
 · have M := aR hc M
   refine S.bV [(vi v1.aJ), (vi v1.fA), (vi v1.fB), (vi v1.fC)] 0 rfl rfl rfl (by decide) ?_
   refine bg.2 ?_
   obtain ⟨lY, tY, M⟩ := bind_some M
   refine Ql tY rfl ?_
   refine S.aX 1 rfl (Qm [(vi v7.bQ.e0), (vi v7.bQ.e1), (vi v7.bQ.e2), (vi v7.fY)] [v7.cx.e0, v7.cx.e1] (fun q => (vi q)) [(.bool v7.gi)] tY) ?_
   obtain ⟨gI, C8, M⟩ := bind_some M
   refine Rg C8 S.sub S.ok (fun _ h  S1  => ?_)
   have S := S.bY S1
   refine ⟨?_, ?_⟩
   · refine yE.2 ?_
     exact (S.rd 2 rfl).Zu
   · refine S.qA [[(vi gI)]] (cL (m := [(vi gI)]) (l2 := [(vi gI)]) rfl rfl (Nat.le_of_ble_eq_true rfl) rfl rfl) rfl (by decide) (qC rfl qB) (aa rfl rfl) (fun ZW h S => ?_)
     have pt : au ((rI .i64) g) [[(vi gI)]] [gI] := (au.push au.nil (show (rI .i64) g [(vi gI)] gI from rfl))
     have S := S.f3
     obtain ⟨C9, M⟩ := mD M
     refine S.app (S.rd 1 rfl) (by rw [iF.1, pt.1]; exact C9) (by decide) rfl (kA (kz .i64) pt) (kA (kz .i64) iF) (fun IG h S => ?_)
     have Da : au ((rI .i64) g) (gX ++ [[(vi gI)]]) (bz ++ [gI]) := au.append iF pt
     have S := S.f2
     have S := S.f3
     have S := S.f2
     have S := S.t3
     exact Z2 M S Da fk gm H
 · have M := aS hc M
   have S := S.f1
   have S := S.f2
   exact Z2 M S iF fk gm H
theorem ake {w0 : World} {c : Cx} {g h : AH} {E R : Value → W} {r : (List Int)} {N : Nat} {v7 : ct} {aT : Int} {v1 : ak} {bz : List Int} {jH ah : Nat} {iE : Value} {gX : List (List Value)} {cm : Value → Value → W} {cd : (List Int) → Int → Option ((List Int))} {eA : AH} (M : wP N v7 aT v1 bz cd = some r) (S : Sep c g h [.bx jH [(vi v7.bQ.e0), (vi v7.bQ.e1), (vi v7.bQ.e2), (vi v7.fY), (vi v7.cx.e0), (vi v7.cx.e1), (.bool v7.gi)], .bx ah [(vi v1.aJ), (vi v1.fA), (vi v1.fB), (vi v1.fC)], .sl 3 1 iE gX]) (iF : au ((rI .i64) g) gX bz) (fk : Sub eA g) (gm : ∀ {aq : List Int} {dO : Value} {dP : List (List Value)} {bn : Int} {g2 h2 : AH}, cd aq bn = some r → Sub eA g2 → Sep c g2 h2 [.bx jH [(vi v7.bQ.e0), (vi v7.bQ.e1), (vi v7.bQ.e2), (vi v7.fY), (vi v7.cx.e0), (vi v7.cx.e1), (.bool v7.gi)], .bx ah [(vi v1.aJ), (vi v1.fA), (vi v1.fB), (vi v1.fC)], .sl 3 1 dO dP] → au ((rI .i64) g2) dP aq → cm dO (vi bn) h2) (H : wQ c R r) : K6 w0 E R (az jH 0) (vi aT) (az ah 0) iE cm h := by
 unfold K6
 unfold wP at M
 refine bg.2 ?_
 obtain ⟨ff, ku, M⟩ := bind_some M
 refine Ql ku rfl ?_
 refine S.aX 0 rfl (Qm [(vi v7.bQ.e0), (vi v7.bQ.e1), (vi v7.bQ.e2), (vi v7.fY)] [v7.cx.e0, v7.cx.e1] (fun q => (vi q)) [(.bool v7.gi)] ku) ?_
 refine oe.2 ?_
 cases hc : (decide (0 < ff))
 · have M := aS hc M
   refine ay (by decide) ?_
   refine ay (by decide) ?_
   refine ay (by decide) ?_
   refine ay (by decide) ?_
   refine ay (by decide) ?_
   refine ay (by decide) ?_
   refine ay (by decide) ?_
   refine bf.2 ?_
   have S := S.f2
   have S := S.f1
   have S := S.f2
   exact Z4 M S iF fk gm H
 · have M := aR hc M
   refine ax rfl ?_
   refine S.bV [(vi v1.aJ), (vi v1.fA), (vi v1.fB), (vi v1.fC)] 1 rfl rfl rfl (by decide) ?_
   refine ax rfl ?_
   refine ax rfl ?_
   refine bg.2 ?_
   refine ax rfl ?_
   obtain ⟨cK, gH, M⟩ := bind_some M
   refine Ql gH rfl ?_
   refine ax rfl ?_
   refine S.aX 0 rfl (Qm [(vi v7.bQ.e0), (vi v7.bQ.e1), (vi v7.bQ.e2), (vi v7.fY)] [v7.cx.e0, v7.cx.e1] (fun q => (vi q)) [(.bool v7.gi)] gH) ?_
   refine ax rfl ?_
   obtain ⟨ij, se, M⟩ := bind_some M
   refine Rg se S.sub S.ok (fun _ h  S1  => ?_)
   have S := S.bY S1
   refine ax rfl ?_
   refine tx.2 ?_
   refine bf.2 ?_
   have S := S.f2
   have S := S.f1
   have S := S.f2
   exact Z4 M S iF fk gm H
theorem akf {w0 : World} {c : Cx} {g h : AH} {E R : Value → W} {r : (List Int)} {N : Nat} {y9 : List Int} {lZ : Value} {o7 : List (List Value)}  (M : Rh N y9 = some r) (S : Sep c g h [.sl 3 1 lZ o7]) (wx : au ((rI .i64) g) o7 y9)  (H : wQ c R r) : K4 w0 E R lZ h := by
 unfold K4
 unfold Rh at M
 obtain ⟨g, sg, S, vZ⟩ := S.fz wx (ig .i64)
 cases M
 exact H _ _ lZ S.bj vZ
theorem akg {w0 : World} {c : Cx} {g h : AH} {E R : Value → W} {r : (List Int)} {N : Nat} {v7 : ct} {v1 : ak} {bz : List Int} {aT : Int} {jH ah : Nat} {iE : Value} {gX : List (List Value)} {cm : Value → Value → W} {cd : (List Int) → Int → Option ((List Int))} {eA : AH} (M : Ri N v7 v1 bz aT cd = some r) (S : Sep c g h [.bx jH [(vi v7.bQ.e0), (vi v7.bQ.e1), (vi v7.bQ.e2), (vi v7.fY), (vi v7.cx.e0), (vi v7.cx.e1), (.bool v7.gi)], .bx ah [(vi v1.aJ), (vi v1.fA), (vi v1.fB), (vi v1.fC)], .sl 3 1 iE gX]) (iF : au ((rI .i64) g) gX bz) (fk : Sub eA g) (gm : ∀ {aq : List Int} {dO : Value} {dP : List (List Value)} {bn : Int} {g2 h2 : AH}, cd aq bn = some r → Sub eA g2 → Sep c g2 h2 [.bx jH [(vi v7.bQ.e0), (vi v7.bQ.e1), (vi v7.bQ.e2), (vi v7.fY), (vi v7.cx.e0), (vi v7.cx.e1), (.bool v7.gi)], .bx ah [(vi v1.aJ), (vi v1.fA), (vi v1.fB), (vi v1.fC)], .sl 3 1 dO dP] → au ((rI .i64) g2) dP aq → cm dO (vi bn) h2) (H : wQ c R r) : Fj w0 E R (az jH 0) (az ah 0) cm iE (vi aT) h := by
 unfold Fj
 unfold Ri at M
 refine fW.2 ?_
 refine bp (fun hc => ?_) (fun hc => ?_)
 · have M := aR hc M
   exact ake M S iF fk gm H
 · have M := aS hc M
   have S := S.f2
   have S := S.t1
   exact akf M S iF H
theorem akh {w0 : World} {c : Cx} {E R : Value → W} {r : (List Int)} {N : Nat} {v7 : ct} {v1 : ak} {jH ah : Nat}   (H : wQ c R r) : ∀ (n : Nat) {bz : List Int} {aT : Int} {iE : Value} {gX : List (List Value)} {g h : AH}, IH N v7 v1 n bz aT = some r → Sep c g h [.bx jH [(vi v7.bQ.e0), (vi v7.bQ.e1), (vi v7.bQ.e2), (vi v7.fY), (vi v7.cx.e0), (vi v7.cx.e1), (.bool v7.gi)], .bx ah [(vi v1.aJ), (vi v1.fA), (vi v1.fB), (vi v1.fC)], .sl 3 1 iE gX] → au ((rI .i64) g) gX bz → gG (α := Value × Value) (fun k a => Fj w0 E R (az jH 0) (az ah 0) (fun b0 b1 => k (b0, b1)) a.1 a.2) n (iE, (vi aT)) h := by
 intro n
 induction n with
 | zero =>
  intro bz aT iE gX g h M S iF
  unfold IH at M; cases M
 | succ n ih =>
  intro bz aT iE gX g h M S iF
  exact akg M S iF  (Sub.refl g) (fun M2 sub S2 wy => ih M2 S2 wy ) H
theorem aiy {w0 : World} {g h : AH} {Q : CR → AH → Prop} {r : (List Int)} {N : Nat} {x0 : ak} (M : Ck N x0 = some r) (sg : Sub g h) (ok : h.Ok)  (H : wQ ⟨g, h, []⟩ (fun v => Q (.ret v)) r) : WF PP w0 K7 [(.agg ⟨[(vi x0.aJ), (vi x0.fA), (vi x0.fB), (vi x0.fC)]⟩)] h Q := by
 refine acS _ ?_
 have S := Sep.start sg ok
 unfold TK
 unfold Ck at M
 refine S.box [(vi x0.aJ), (vi x0.fA), (vi x0.fB), (vi x0.fC)] rfl (aa rfl (aa rfl (aa rfl (aa rfl rfl)))) (fun fX h S => ?_)
 refine bg.2 ?_
 refine S.aX 0 rfl rfl ?_
 obtain ⟨aM, eG, M⟩ := bind_some M
 refine Ix eG S.sub S.ok (fun _ h  S1  => ?_)
 have S := S.bY S1
 refine (fH rfl).2 ?_
 refine (fH rfl).2 ?_
 refine S.alloc (l := [(vi 0), (vi 0), (vi 0), (vi 0), (vi 0), (vi 0), (.bool false)]) (aa rfl (aa rfl (aa rfl (aa rfl (aa rfl (aa rfl (aa rfl rfl))))))) (fun qE h S => ?_)
 refine S.cZ [(vi aM.1.bQ.e0), (vi aM.1.bQ.e1), (vi aM.1.bQ.e2), (vi aM.1.fY), (vi aM.1.cx.e0), (vi aM.1.cx.e1), (.bool aM.1.gi)] [(vi aM.1.bQ.e0), (vi aM.1.bQ.e1), (vi aM.1.bQ.e2), (vi aM.1.fY), (vi aM.1.cx.e0), (vi aM.1.cx.e1), (.bool aM.1.gi)] rfl rfl (aa rfl (aa rfl (aa rfl (aa rfl (aa rfl (aa rfl (aa rfl rfl))))))) (Nat.le_of_ble_eq_true rfl) rfl (fun h S => ?_)
 have S := S.tZ 3 1
 have S := S.f2
 have S := S.f2
 exact ⟨N, akh  H _ M S (au.nil (R := (rI .i64) g)) ⟩
def II (v1 : ak) (v7 : ct)  : Option Int :=
(zu v1 v7.fY).bind fun ff =>
 some ff
def Cc (x0 : ak) : Option Int :=
(ui x0.aJ).bind fun aM =>
 bif (decide (aM.1.fY = 0)) then (
 some (-1)) else (
 II x0 aM.1)
abbrev Z5 (c : Cx) (R : Value → W) (r : Int) : Prop := ∀ (g' h' : AH), Sep c g' h' [] → R (vi r) h'
theorem aki {w0 : World} {c : Cx} {g h : AH} {E R : Value → W} {r : Int} {v1 : ak} {v7 : ct} {ah jH : Nat}  (M : II v1 v7 = some r) (S : Sep c g h [.bx ah [(vi v1.aJ), (vi v1.fA), (vi v1.fB), (vi v1.fC)], .bx jH [(vi v7.bQ.e0), (vi v7.bQ.e1), (vi v7.bQ.e2), (vi v7.fY), (vi v7.cx.e0), (vi v7.cx.e1), (.bool v7.gi)]])   (H : Z5 c R r) : K8 w0 E R (az ah 0) (az jH 0) h := by
 unfold K8
 unfold II at M
 refine S.bV [(vi v1.aJ), (vi v1.fA), (vi v1.fB), (vi v1.fC)] 0 rfl rfl rfl (by decide) ?_
 refine bg.2 ?_
 refine S.aX 1 rfl rfl ?_
 obtain ⟨ff, ku, M⟩ := bind_some M
 refine Rg ku S.sub S.ok (fun _ h  S1  => ?_)
 have S := S.bY S1
 cases M
 exact H _ _  S.bj
theorem aim {w0 : World} {g h : AH} {Q : CR → AH → Prop} {r : Int} {x0 : ak} (M : Cc x0 = some r) (sg : Sub g h) (ok : h.Ok)  (H : Z5 ⟨g, h, []⟩ (fun v => Q (.ret v)) r) : WF PP w0 K9 [(.agg ⟨[(vi x0.aJ), (vi x0.fA), (vi x0.fB), (vi x0.fC)]⟩)] h Q := by
 refine acT _ ?_
 have S := Sep.start sg ok
 unfold TL
 unfold Cc at M
 refine S.box [(vi x0.aJ), (vi x0.fA), (vi x0.fB), (vi x0.fC)] rfl (aa rfl (aa rfl (aa rfl (aa rfl rfl)))) (fun fX h S => ?_)
 refine bg.2 ?_
 refine S.aX 0 rfl rfl ?_
 obtain ⟨aM, eG, M⟩ := bind_some M
 refine Ix eG S.sub S.ok (fun _ h  S1  => ?_)
 have S := S.bY S1
 refine (fH rfl).2 ?_
 refine (fH rfl).2 ?_
 refine S.alloc (l := [(vi 0), (vi 0), (vi 0), (vi 0), (vi 0), (vi 0), (.bool false)]) (aa rfl (aa rfl (aa rfl (aa rfl (aa rfl (aa rfl (aa rfl rfl))))))) (fun qE h S => ?_)
 refine S.cZ [(vi aM.1.bQ.e0), (vi aM.1.bQ.e1), (vi aM.1.bQ.e2), (vi aM.1.fY), (vi aM.1.cx.e0), (vi aM.1.cx.e1), (.bool aM.1.gi)] [(vi aM.1.bQ.e0), (vi aM.1.bQ.e1), (vi aM.1.bQ.e2), (vi aM.1.fY), (vi aM.1.cx.e0), (vi aM.1.cx.e1), (.bool aM.1.gi)] rfl rfl (aa rfl (aa rfl (aa rfl (aa rfl (aa rfl (aa rfl (aa rfl rfl))))))) (Nat.le_of_ble_eq_true rfl) rfl (fun h S => ?_)
 refine bg.2 ?_
 refine S.aX 0 rfl rfl ?_
 refine cI.2 ?_
 refine bp (fun hc => ?_) (fun hc => ?_)
 · have M := aR hc M
   cases M
   exact H _ _  S.bj
 · have M := aS hc M
   have S := S.f1
   exact aki M S  H
def zv (x0 : ak) : Option Bool :=
(ui x0.aJ).bind fun aM =>
 some aM.1.gi
abbrev akj (c : Cx) (R : Value → W) (r : Bool) : Prop := ∀ (g' h' : AH), Sep c g' h' [] → R (.bool r) h'
theorem Z6 {w0 : World} {g h : AH} {Q : CR → AH → Prop} {r : Bool} {x0 : ak} (M : zv x0 = some r) (sg : Sub g h) (ok : h.Ok)  (H : akj ⟨g, h, []⟩ (fun v => Q (.ret v)) r) : WF PP w0 Fh [(.agg ⟨[(vi x0.aJ), (vi x0.fA), (vi x0.fB), (vi x0.fC)]⟩)] h Q := by
 refine acQ _ ?_
 have S := Sep.start sg ok
 unfold TI
 unfold zv at M
 refine S.box [(vi x0.aJ), (vi x0.fA), (vi x0.fB), (vi x0.fC)] rfl (aa rfl (aa rfl (aa rfl (aa rfl rfl)))) (fun fX h S => ?_)
 refine bg.2 ?_
 refine S.aX 0 rfl rfl ?_
 obtain ⟨aM, eG, M⟩ := bind_some M
 refine Ix eG S.sub S.ok (fun _ h  S1  => ?_)
 have S := S.bY S1
 refine (fH rfl).2 ?_
 refine (fH rfl).2 ?_
 refine S.alloc (l := [(vi 0), (vi 0), (vi 0), (vi 0), (vi 0), (vi 0), (.bool false)]) (aa rfl (aa rfl (aa rfl (aa rfl (aa rfl (aa rfl (aa rfl rfl))))))) (fun qE h S => ?_)
 refine S.cZ [(vi aM.1.bQ.e0), (vi aM.1.bQ.e1), (vi aM.1.bQ.e2), (vi aM.1.fY), (vi aM.1.cx.e0), (vi aM.1.cx.e1), (.bool aM.1.gi)] [(vi aM.1.bQ.e0), (vi aM.1.bQ.e1), (vi aM.1.bQ.e2), (vi aM.1.fY), (vi aM.1.cx.e0), (vi aM.1.cx.e1), (.bool aM.1.gi)] rfl rfl (aa rfl (aa rfl (aa rfl (aa rfl (aa rfl (aa rfl (aa rfl rfl))))))) (Nat.le_of_ble_eq_true rfl) rfl (fun h S => ?_)
 refine bg.2 ?_
 refine S.aX 0 rfl rfl ?_
 cases M
 exact H _ _  S.bj
def IJ (N : Nat) (y4 : Int) (Rj : List Int) (mJ : Int → Option ((List Int))) : Option ((List Int)) :=
 mJ (bt .i64 (y4 + 1))
def wR (N : Nat) (x0 : List Int) (y4 : Int) (x1 : Int) (mJ : Int → Option ((List Int))) : Option ((List Int)) :=
(ix x0 y4).bind fun eW =>
 bif (decide (eW = x1)) then (
 some x0) else (
 IJ N y4 x0 mJ)
def IK (N : Nat) (x1 : Int) (x0 : List Int)  : Option ((List Int)) :=
 gu (decide (x0.length + [x1].length ≤ 1048576)) (
 some (x0 ++ [x1]))
def Rk (N : Nat) (x0 : List Int) (x1 : Int) (y4 : Int) (mJ : Int → Option ((List Int))) : Option ((List Int)) :=
 bif (decide (y4 < (x0.length : Int))) then (
 wR N x0 y4 x1 mJ) else (
 IK N x1 x0)
def Dg (N : Nat) (x0 : List Int) (x1 : Int)  : Nat → Int → Option ((List Int))
 | 0, _ => none
 | n + 1, y4 => Rk N x0 x1 y4  (fun aq => Dg N x0 x1 n aq)
def ur (N : Nat) (x0 : List Int) (x1 : Int) : Option ((List Int)) :=
 Dg N x0 x1 N 0
abbrev zw (c : Cx) (R : Value → W) (r : (List Int)) : Prop := ∀ (g' h' : AH) (w1 : Value) (Dh : List (List Value)), Sep c g' h' [.sl 3 1 w1 Dh] → au ((rI .i64) g') Dh r → R w1 h'
theorem akk {w0 : World} {c : Cx} {g h : AH} {E R : Value → W} {r : (List Int)} {N : Nat} {y4 : Int} {Rj : List Int} {Z7 : Value} {Rl : List (List Value)} {k3 : Value → W} {mJ : Int → Option ((List Int))} {uu : AH} (M : IJ N y4 Rj mJ = some r) (S : Sep c g h [.sl 3 1 Z7 Rl]) (aog : au ((rI .i64) g) Rl Rj) (Di : Sub uu g) (Dj : ∀ {aq : Int} {g2 h2 : AH}, mJ aq = some r → Sub uu g2 → Sep c g2 h2 [.sl 3 1 Z7 Rl] → k3 (vi aq) h2) (H : zw c R r) : KP w0 E R (vi y4) k3 h := by
 unfold KP
 unfold IJ at M
 refine gE.2 ?_
 exact Dj M Di S
theorem akl {w0 : World} {c : Cx} {g h : AH} {E R : Value → W} {r : (List Int)} {N : Nat} {x0 : List Int} {y4 x1 : Int} {bw : Value} {kV : List (List Value)} {k3 : Value → W} {mJ : Int → Option ((List Int))} {uu : AH} (M : wR N x0 y4 x1 mJ = some r) (S : Sep c g h [.sl 3 1 bw kV]) (kW : au ((rI .i64) g) kV x0) (Di : Sub uu g) (Dj : ∀ {aq : Int} {g2 h2 : AH}, mJ aq = some r → Sub uu g2 → Sep c g2 h2 [.sl 3 1 bw kV] → k3 (vi aq) h2) (H : zw c R r) : KQ w0 E R bw (vi y4) (vi x1) k3 h := by
 unfold KQ
 unfold wR at M
 obtain ⟨eW, j5, M⟩ := bind_some M
 refine S.mE 0 rfl kW j5 (fun wz CB vs E_5 akm rp => ?_)
 cases rp
 refine S.yY (j := 0) 0 rfl E_5 akm rfl ?_
 refine cI.2 ?_
 refine bp (fun hc => ?_) (fun hc => ?_)
 · have M := aR hc M
   cases M
   exact H _ _ _ _ S kW
 · have M := aS hc M
   exact akk M S kW Di Dj H
theorem akn {w0 : World} {c : Cx} {g h : AH} {E R : Value → W} {r : (List Int)} {N : Nat} {x1 : Int} {x0 : List Int} {bw : Value} {kV : List (List Value)}  (M : IK N x1 x0 = some r) (S : Sep c g h [.sl 3 1 bw kV]) (kW : au ((rI .i64) g) kV x0)  (H : zw c R r) : KO w0 E R (vi x1) bw h := by
 unfold KO
 unfold IK at M
 refine S.qA [[(vi x1)]] (cL (m := [(vi x1)]) (l2 := [(vi x1)]) rfl rfl (Nat.le_of_ble_eq_true rfl) rfl rfl) rfl (by decide) (qC rfl qB) (aa rfl rfl) (fun v_7 h S => ?_)
 have Dk : au ((rI .i64) g) [[(vi x1)]] [x1] := (au.push au.nil (show (rI .i64) g [(vi x1)] x1 from rfl))
 have S := S.f1
 obtain ⟨ako, M⟩ := mD M
 refine S.app (S.rd 1 rfl) (by rw [kW.1, Dk.1]; exact ako) (by decide) rfl (kA (kz .i64) Dk) (kA (kz .i64) kW) (fun v_9 h S => ?_)
 have akp : au ((rI .i64) g) (kV ++ [[(vi x1)]]) (x0 ++ [x1]) := au.append kW Dk
 have S := S.t1
 cases M
 exact H _ _ _ _ S akp
theorem akq {w0 : World} {c : Cx} {g h : AH} {E R : Value → W} {r : (List Int)} {N : Nat} {x0 : List Int} {x1 y4 : Int} {bw : Value} {kV : List (List Value)} {k3 : Value → W} {mJ : Int → Option ((List Int))} {uu : AH} (M : Rk N x0 x1 y4 mJ = some r) (S : Sep c g h [.sl 3 1 bw kV]) (kW : au ((rI .i64) g) kV x0) (Di : Sub uu g) (Dj : ∀ {aq : Int} {g2 h2 : AH}, mJ aq = some r → Sub uu g2 → Sep c g2 h2 [.sl 3 1 bw kV] → k3 (vi aq) h2) (H : zw c R r) : Fb w0 E R bw (vi x1) k3 (vi y4) h := by
 unfold Fb
 unfold Rk at M
 refine S.Cs 0 rfl kW ?_
 refine fW.2 ?_
 refine bp (fun hc => ?_) (fun hc => ?_)
 · have M := aR hc M
   exact akl M S kW Di Dj H
 · have M := aS hc M
   exact akn M S kW H
theorem akr {w0 : World} {c : Cx} {E R : Value → W} {r : (List Int)} {N : Nat} {x0 : List Int} {x1 : Int} {bw : Value} {kV : List (List Value)}   (H : zw c R r) : ∀ (n : Nat) {y4 : Int} {g h : AH}, Dg N x0 x1 n y4 = some r → Sep c g h [.sl 3 1 bw kV] → au ((rI .i64) g) kV x0 → gG (α := Value) (fun k a => Fb w0 E R bw (vi x1) k a) n (vi y4) h := by
 intro n
 induction n with
 | zero =>
  intro y4  g h M S kW
  unfold Dg at M; cases M
 | succ n ih =>
  intro y4  g h M S kW
  exact akq M S kW  (Sub.refl g) (fun M2 sub S2  => ih M2 S2 (au.mono kW (fun _ _ hh => (ig .i64) _ _ _ _ sub hh)) ) H
theorem Z8 {w0 : World} {g h : AH} {Q : CR → AH → Prop} {r : (List Int)} {N : Nat} {x0 : List Int} {x1 : Int} {bw : Value} {kV : List (List Value)} (M : ur N x0 x1 = some r) (S : Sep ⟨g, h, ej bw⟩ g h [.sl 3 1 bw kV]) (kW : au ((rI .i64) g) kV x0) (H : zw ⟨g, h, ej bw⟩ (fun v => Q (.ret v)) r) : WF PP w0 Fc [bw, (vi x1)] h Q := by
 refine acN _ _ ?_
 unfold TF
 unfold ur at M
 exact ⟨N, akr  H _ M S kW ⟩
def Dl (N : Nat) (aV : List Int)  : Option ((List Int)) :=
 some aV
def zx (N : Nat) (v6 : ak) (y8 : List Int)  : Option ((List Int)) :=
(wF v6).bind fun Rm =>
 bif Rm.2 then (
(ur N y8 Rm.1).bind fun mK =>
 Dl N mK) else (
 Dl N y8)
def Dm (N : Nat) (x1 : Int) (v6 : ak) (v24 : Bool)  : Option ((List Int)) :=
 bif v24 then (
 gu (decide (([] : List Int).length + [(bt .i64 (x1 + 1))].length ≤ 1048576)) (
 zx N v6 (([] : List Int) ++ [(bt .i64 (x1 + 1))]))) else (
 zx N v6 ([] : List Int))
def Dn (N : Nat) (x0 : al) (x1 : Int) : Option ((List Int)) :=
(ix x0.ab x1).bind fun aM =>
(zt aM).bind fun ij =>
 bif (!ij) then (
 Dm N x1 aM (decide ((bt .i64 (x1 + 1)) < (x0.ab.length : Int)))) else (
 Dm N x1 aM false)
abbrev IL (c : Cx) (R : Value → W) (r : (List Int)) : Prop := ∀ (g' h' : AH) (w1 : Value) (Dh : List (List Value)), Sep c g' h' [.sl 3 1 w1 Dh] → au ((rI .i64) g') Dh r → R w1 h'
theorem Z9 {w0 : World} {c : Cx} {g h : AH} {E R : Value → W} {r : (List Int)} {N : Nat} {aV : List Int} {eM : Value} {ey : List (List Value)}  (M : Dl N aV = some r) (S : Sep c g h [.sl 3 1 eM ey]) (fj : au ((rI .i64) g) ey aV)  (H : IL c R r) : Fe w0 E R eM h := by
 unfold Fe
 unfold Dl at M
 cases M
 exact H _ _ _ _ S fj
theorem aaa {w0 : World} {c : Cx} {g h : AH} {E R : Value → W} {r : (List Int)} {N : Nat} {v6 : ak} {y8 : List Int} {Dp : Nat} {aab : Value} {aac : List (List Value)}  (M : zx N v6 y8 = some r) (S : Sep c g h [.bx Dp [(vi v6.aJ), (vi v6.fA), (vi v6.fB), (vi v6.fC)], .sl 3 1 aab aac]) (aad : au ((rI .i64) g) aac y8)  (H : IL c R r) : Ff w0 E R (az Dp 0) aab h := by
 unfold Ff
 unfold zx at M
 refine S.bV [(vi v6.aJ), (vi v6.fA), (vi v6.fB), (vi v6.fC)] 0 rfl rfl rfl (by decide) ?_
 obtain ⟨Rm, aks, M⟩ := bind_some M
 refine QP aks S.sub S.ok (fun _ h  S1  => ?_)
 have S := S.bY S1
 refine (fH rfl).2 ?_
 refine (fH rfl).2 ?_
 refine bp (fun hc => ?_) (fun hc => ?_)
 · have M := aR hc M
   have S := S.f1
   obtain ⟨mK, Dq, M⟩ := bind_some M
   refine Z8 Dq S.Y6 aad (fun g h aoh aoi S1 akt => ?_)
   have S := S.Y9 S1
   have S := S.t1
   exact Z9 M S akt H
 · have M := aS hc M
   have S := S.f1
   have S := S.t1
   exact Z9 M S aad H
theorem aae {w0 : World} {c : Cx} {g h : AH} {E R : Value → W} {r : (List Int)} {N : Nat} {x1 : Int} {v6 : ak} {v24 : Bool} {Dp : Nat}  (M : Dm N x1 v6 v24 = some r) (S : Sep c g h [.bx Dp [(vi v6.aJ), (vi v6.fA), (vi v6.fB), (vi v6.fC)]])   (H : IL c R r) : KR w0 E R (vi x1) (az Dp 0) (.bool v24) h := by
 unfold KR
 unfold Dm at M
 refine bp (fun hc => ?_) (fun hc => ?_)
 · have M := aR hc M
   refine gE.2 ?_
   refine S.qA [[(vi (bt .i64 (x1 + 1)))]] (cL (m := [(vi (bt .i64 (x1 + 1)))]) (l2 := [(vi (bt .i64 (x1 + 1)))]) rfl rfl (Nat.le_of_ble_eq_true rfl) rfl rfl) rfl (by decide) (qC rfl qB) (aa rfl rfl) (fun ai4 h S => ?_)
   have wv : au ((rI .i64) g) [[(vi (bt .i64 (x1 + 1)))]] [(bt .i64 (x1 + 1))] := (au.push au.nil (show (rI .i64) g [(vi (bt .i64 (x1 + 1)))] (bt .i64 (x1 + 1)) from rfl))
   have S := S.tZ 3 1
   obtain ⟨Qx, M⟩ := mD M
   refine S.app (S.rd 1 rfl) (by rw [(au.nil (R := (rI .i64) g)).1, wv.1]; exact Qx) (by decide) rfl (kA (kz .i64) wv) (kA (kz .i64) (au.nil (R := (rI .i64) g))) (fun ai5 h S => ?_)
   have Qy : au ((rI .i64) g) ([] ++ [[(vi (bt .i64 (x1 + 1)))]]) (([] : List Int) ++ [(bt .i64 (x1 + 1))]) := au.append (au.nil (R := (rI .i64) g)) wv
   have S := S.f2
   have S := S.t2
   exact aaa M S Qy H
 · have M := aS hc M
   have S := S.tZ 3 1
   have S := S.f1
   exact aaa M S (au.nil (R := (rI .i64) g)) H
theorem aku {w0 : World} {g h : AH} {Q : CR → AH → Prop} {r : (List Int)} {N : Nat} {x0 : al} {x1 : Int} {bN bO : Value} (M : Dn N x0 x1 = some r) (sg : Sub g h) (ok : h.Ok) (bL : ae ak.rep 4 g bN x0.ab) (bS : ae aH.rep 3 g bO x0.aI) (H : IL ⟨g, h, []⟩ (fun v => Q (.ret v)) r) : WF PP w0 KT [(.agg ⟨[(.string x0.aE), (.string x0.aG), (vi x0.fArgs), (vi x0.aC), (vi x0.aD), bN, bO]⟩), (vi x1)] h Q := by
 refine acO _ _ ?_
 have S := Sep.start sg ok
 unfold TG
 unfold Dn at M
 refine S.box [(.string x0.aE), (.string x0.aG), (vi x0.fArgs), (vi x0.aC), (vi x0.aD), bN, bO] rfl (aa rfl (aa rfl (aa rfl (aa rfl (aa rfl (aa bL.one (aa bS.one rfl))))))) (fun fX h S => ?_)
 refine bg.2 ?_
 refine S.aX 0 rfl rfl ?_
 obtain ⟨aM, eG, M⟩ := bind_some M
 refine ae.idx bL eG (fun qE o_5 vs E_7 Rn rp => ?_)
 cases rp
 refine S.nA Rn rfl (by decide) ?_
 refine S.alloc (l := [(vi 0), (vi 0), (vi 0), (vi 0)]) (aa rfl (aa rfl (aa rfl (aa rfl rfl)))) (fun b_8 h S => ?_)
 refine S.cZ [(vi aM.aJ), (vi aM.fA), (vi aM.fB), (vi aM.fC)] [(vi aM.aJ), (vi aM.fA), (vi aM.fB), (vi aM.fC)] rfl rfl (aa rfl (aa rfl (aa rfl (aa rfl rfl)))) (Nat.le_of_ble_eq_true rfl) rfl (fun h S => ?_)
 refine S.bV [(vi aM.aJ), (vi aM.fA), (vi aM.fB), (vi aM.fC)] 0 rfl rfl rfl (by decide) ?_
 obtain ⟨ij, se, M⟩ := bind_some M
 refine Z1 se S.sub S.ok (fun _ h  S1  => ?_)
 have S := S.bY S1
 refine ec.2 ?_
 cases hc : (!ij)
 · have M := aS hc M
   refine ay (by decide) ?_
   refine ay (by decide) ?_
   refine ay (by decide) ?_
   refine ay (by decide) ?_
   refine ay (by decide) ?_
   refine ay (by decide) ?_
   refine bf.2 ?_
   have S := S.t1
   exact aae M S  H
 · have M := aR hc M
   refine ax rfl ?_
   refine ax rfl ?_
   refine gE.2 ?_
   refine ax rfl ?_
   refine bg.2 ?_
   refine ax rfl ?_
   refine S.aX 1 rfl rfl ?_
   refine ax rfl ?_
   refine bL.len ?_
   refine ax rfl ?_
   refine fW.2 ?_
   refine bf.2 ?_
   have S := S.t1
   exact aae M S  H
def Ro (N : Nat) (y3 : Int) (ga : al) (cq : Int → Option Int) : Option Int :=
 cq (bt .i64 (y3 + 1))
def IM (N : Nat) (y3 : Int) (dB : Bool) (ga : al) (cq : Int → Option Int) : Option Int :=
 bif dB then (
 some y3) else (
 Ro N y3 ga cq)
def Rp (N : Nat) (v1 : al) (y3 : Int) (x1 : Int) (cq : Int → Option Int) : Option Int :=
(ix v1.aI y3).bind fun aM =>
 bif (decide (aM.dN ≤ x1)) then (
(ix v1.aI y3).bind fun wG =>
 IM N y3 (decide (x1 < wG.ew)) v1 cq) else (
 IM N y3 false v1 cq)
def Rq (N : Nat)   : Option Int :=
 some (-1)
def Rr (N : Nat) (v1 : al) (x1 : Int) (y3 : Int) (cq : Int → Option Int) : Option Int :=
 bif (decide (y3 < (v1.aI.length : Int))) then (
 Rp N v1 y3 x1 cq) else (
 Rq N )
def wS (N : Nat) (v1 : al) (x1 : Int)  : Nat → Int → Option Int
 | 0, _ => none
 | n + 1, y3 => Rr N v1 x1 y3  (fun aq => wS N v1 x1 n aq)
def wT (N : Nat) (x0 : al) (x1 : Int) : Option Int :=
 wS N x0 x1 N 0
abbrev wU (c : Cx) (R : Value → W) (r : Int) : Prop := ∀ (g' h' : AH), Sep c g' h' [] → R (vi r) h'
theorem akv {w0 : World} {c : Cx} {g h : AH} {E R : Value → W} {r : Int} {N : Nat} {y3 : Int} {ga : al} {Dr : Nat} {wV wW : Value} {k2 : Value → W} {cq : Int → Option Int} {ez : AH} (M : Ro N y3 ga cq = some r) (S : Sep c g h [.bx Dr [(.string ga.aE), (.string ga.aG), (vi ga.fArgs), (vi ga.aC), (vi ga.aD), wV, wW]]) (aaf : ae ak.rep 4 g wV ga.ab) (aag : ae aH.rep 3 g wW ga.aI) (gU : Sub ez g) (gV : ∀ {aq : Int} {g2 h2 : AH}, cq aq = some r → Sub ez g2 → Sep c g2 h2 [.bx Dr [(.string ga.aE), (.string ga.aG), (vi ga.fArgs), (vi ga.aC), (vi ga.aD), wV, wW]] → k2 (vi aq) h2) (H : wU c R r) : KW w0 E R (vi y3) k2 h := by
 unfold KW
 unfold Ro at M
 refine gE.2 ?_
 exact gV M gU S
theorem aah {w0 : World} {c : Cx} {g h : AH} {E R : Value → W} {r : Int} {N : Nat} {y3 : Int} {dB : Bool} {ga : al} {Dr : Nat} {wV wW : Value} {k2 : Value → W} {cq : Int → Option Int} {ez : AH} (M : IM N y3 dB ga cq = some r) (S : Sep c g h [.bx Dr [(.string ga.aE), (.string ga.aG), (vi ga.fArgs), (vi ga.aC), (vi ga.aD), wV, wW]]) (aaf : ae ak.rep 4 g wV ga.ab) (aag : ae aH.rep 3 g wW ga.aI) (gU : Sub ez g) (gV : ∀ {aq : Int} {g2 h2 : AH}, cq aq = some r → Sub ez g2 → Sep c g2 h2 [.bx Dr [(.string ga.aE), (.string ga.aG), (vi ga.fArgs), (vi ga.aC), (vi ga.aD), wV, wW]] → k2 (vi aq) h2) (H : wU c R r) : KX w0 E R (vi y3) k2 (.bool dB) h := by
 unfold KX
 unfold IM at M
 refine bp (fun hc => ?_) (fun hc => ?_)
 · have M := aR hc M
   cases M
   exact H _ _  S.bj
 · have M := aS hc M
   exact akv M S aaf aag gU gV H
theorem akw {w0 : World} {c : Cx} {g h : AH} {E R : Value → W} {r : Int} {N : Nat} {v1 : al} {y3 x1 : Int} {ah : Nat} {av aw : Value} {k2 : Value → W} {cq : Int → Option Int} {ez : AH} (M : Rp N v1 y3 x1 cq = some r) (S : Sep c g h [.bx ah [(.string v1.aE), (.string v1.aG), (vi v1.fArgs), (vi v1.aC), (vi v1.aD), av, aw]]) (aA : ae ak.rep 4 g av v1.ab) (aB : ae aH.rep 3 g aw v1.aI) (gU : Sub ez g) (gV : ∀ {aq : Int} {g2 h2 : AH}, cq aq = some r → Sub ez g2 → Sep c g2 h2 [.bx ah [(.string v1.aE), (.string v1.aG), (vi v1.fArgs), (vi v1.aC), (vi v1.aD), av, aw]] → k2 (vi aq) h2) (H : wU c R r) : KY w0 E R (az ah 0) (vi y3) (vi x1) k2 h := by
 unfold KY
 unfold Rp at M
 refine bg.2 ?_
 refine S.aX 0 rfl rfl ?_
 obtain ⟨aM, eG, M⟩ := bind_some M
 refine ae.idx aB eG (fun qE o_5 vs E_7 Rn rp => ?_)
 cases rp
 refine bg.2 ?_
 refine S.fQ (Rn 0 _ rfl) ?_
 refine nr.2 ?_
 cases hc : (decide (aM.dN ≤ x1))
 · have M := aS hc M
   refine ay (by decide) ?_
   refine ay (by decide) ?_
   refine ay (by decide) ?_
   refine ay (by decide) ?_
   refine ay (by decide) ?_
   refine ay (by decide) ?_
   refine ay (by decide) ?_
   refine ay (by decide) ?_
   refine bf.2 ?_
   exact aah M S aA aB gU gV H
 · have M := aR hc M
   refine ax rfl ?_
   refine ax rfl ?_
   refine bg.2 ?_
   refine ax rfl ?_
   refine S.aX 0 rfl rfl ?_
   refine ax rfl ?_
   refine ax rfl ?_
   obtain ⟨wG, QX, M⟩ := bind_some M
   refine ae.idx aB QX (fun QY ajK vs ajL QZ rp => ?_)
   cases rp
   refine ax rfl ?_
   refine bg.2 ?_
   refine ax rfl ?_
   refine S.fQ (QZ 1 _ rfl) ?_
   refine ax rfl ?_
   refine fW.2 ?_
   refine bf.2 ?_
   exact aah M S aA aB gU gV H
theorem akx {w0 : World} {c : Cx} {g h : AH} {E R : Value → W} {r : Int} {N : Nat}   (M : Rq N  = some r) (S : Sep c g h [])   (H : wU c R r) : KU w0 E R  h := by
 unfold KU
 unfold Rq at M
 cases M
 exact H _ _  S.bj
theorem aky {w0 : World} {c : Cx} {g h : AH} {E R : Value → W} {r : Int} {N : Nat} {v1 : al} {x1 y3 : Int} {ah : Nat} {av aw : Value} {k2 : Value → W} {cq : Int → Option Int} {ez : AH} (M : Rr N v1 x1 y3 cq = some r) (S : Sep c g h [.bx ah [(.string v1.aE), (.string v1.aG), (vi v1.fArgs), (vi v1.aC), (vi v1.aD), av, aw]]) (aA : ae ak.rep 4 g av v1.ab) (aB : ae aH.rep 3 g aw v1.aI) (gU : Sub ez g) (gV : ∀ {aq : Int} {g2 h2 : AH}, cq aq = some r → Sub ez g2 → Sep c g2 h2 [.bx ah [(.string v1.aE), (.string v1.aG), (vi v1.fArgs), (vi v1.aC), (vi v1.aD), av, aw]] → k2 (vi aq) h2) (H : wU c R r) : Fg w0 E R (az ah 0) (vi x1) k2 (vi y3) h := by
 unfold Fg
 unfold Rr at M
 refine bg.2 ?_
 refine S.aX 0 rfl rfl ?_
 refine aB.len ?_
 refine fW.2 ?_
 refine bp (fun hc => ?_) (fun hc => ?_)
 · have M := aR hc M
   exact akw M S aA aB gU gV H
 · have M := aS hc M
   have S := S.t0
   exact akx M S  H
theorem akz {w0 : World} {c : Cx} {E R : Value → W} {r : Int} {N : Nat} {v1 : al} {x1 : Int} {ah : Nat} {av aw : Value}   (H : wU c R r) : ∀ (n : Nat) {y3 : Int} {g h : AH}, wS N v1 x1 n y3 = some r → Sep c g h [.bx ah [(.string v1.aE), (.string v1.aG), (vi v1.fArgs), (vi v1.aC), (vi v1.aD), av, aw]] → ae ak.rep 4 g av v1.ab → ae aH.rep 3 g aw v1.aI → gG (α := Value) (fun k a => Fg w0 E R (az ah 0) (vi x1) k a) n (vi y3) h := by
 intro n
 induction n with
 | zero =>
  intro y3  g h M S aA aB
  unfold wS at M; cases M
 | succ n ih =>
  intro y3  g h M S aA aB
  exact aky M S aA aB  (Sub.refl g) (fun M2 sub S2  => ih M2 S2 (ae.mono aA ak.mono sub) (ae.mono aB aH.mono sub) ) H
theorem Rs {w0 : World} {g h : AH} {Q : CR → AH → Prop} {r : Int} {N : Nat} {x0 : al} {x1 : Int} {bN bO : Value} (M : wT N x0 x1 = some r) (sg : Sub g h) (ok : h.Ok) (bL : ae ak.rep 4 g bN x0.ab) (bS : ae aH.rep 3 g bO x0.aI) (H : wU ⟨g, h, []⟩ (fun v => Q (.ret v)) r) : WF PP w0 Ac [(.agg ⟨[(.string x0.aE), (.string x0.aG), (vi x0.fArgs), (vi x0.aC), (vi x0.aD), bN, bO]⟩), (vi x1)] h Q := by
 refine acP _ _ ?_
 have S := Sep.start sg ok
 unfold TH
 unfold wT at M
 refine S.box [(.string x0.aE), (.string x0.aG), (vi x0.fArgs), (vi x0.aC), (vi x0.aD), bN, bO] rfl (aa rfl (aa rfl (aa rfl (aa rfl (aa rfl (aa bL.one (aa bS.one rfl))))))) (fun fX h S => ?_)
 exact ⟨N, akz  H _ M S bL bS ⟩
def Ds (N : Nat) (y6 : List Int)  : Option ((List Int)) :=
 some y6
def Dt (N : Nat) (v1 : al) (v5 : Int) (v3 : List Int) (bP : Bool)  : Option ((List Int)) :=
 bif bP then (
(ix v1.aI v5).bind fun fJ =>
(ur N v3 fJ.dJ).bind fun wH =>
 Ds N wH) else (
 Ds N v3)
def zy (N : Nat) (x0 : al) (x1 : Int) : Option ((List Int)) :=
(Dn N x0 x1).bind fun aM =>
(wT N x0 x1).bind fun cK =>
(ix x0.ab x1).bind fun ij =>
(zv ij).bind fun vT =>
 bif vT then (
 Dt N x0 cK aM (decide (0 ≤ cK))) else (
 Dt N x0 cK aM false)
abbrev Ru (c : Cx) (R : Value → W) (r : (List Int)) : Prop := ∀ (g' h' : AH) (w1 : Value), Sep c g' h' [] → ae (rI .i64) 1 g' w1 r → R w1 h'
theorem aai {w0 : World} {c : Cx} {g h : AH} {E R : Value → W} {r : (List Int)} {N : Nat} {y6 : List Int} {Rv : Value} {aaj : List (List Value)}  (M : Ds N y6 = some r) (S : Sep c g h [.sl 3 1 Rv aaj]) (akA : au ((rI .i64) g) aaj y6)  (H : Ru c R r) : Fs w0 E R Rv h := by
 unfold Fs
 unfold Ds at M
 obtain ⟨g, sg, S, akB⟩ := S.fz akA (ig .i64)
 cases M
 exact H _ _ Rv S.bj akB
theorem aak {w0 : World} {c : Cx} {g h : AH} {E R : Value → W} {r : (List Int)} {N : Nat} {v1 : al} {v5 : Int} {v3 : List Int} {bP : Bool} {ah : Nat} {av aw eX : Value} {nD : List (List Value)}  (M : Dt N v1 v5 v3 bP = some r) (S : Sep c g h [.bx ah [(.string v1.aE), (.string v1.aG), (vi v1.fArgs), (vi v1.aC), (vi v1.aD), av, aw], .sl 3 1 eX nD]) (aA : ae ak.rep 4 g av v1.ab) (aB : ae aH.rep 3 g aw v1.aI) (qG : au ((rI .i64) g) nD v3)  (H : Ru c R r) : Ld w0 E R (az ah 0) (vi v5) eX (.bool bP) h := by
 unfold Ld
 unfold Dt at M
 refine bp (fun hc => ?_) (fun hc => ?_)
 · have M := aR hc M
   refine bg.2 ?_
   refine S.aX 0 rfl rfl ?_
   obtain ⟨fJ, vY, M⟩ := bind_some M
   refine ae.idx aB vY (fun ZD ajM vs Q0 C0 rp => ?_)
   cases rp
   refine bg.2 ?_
   refine S.fQ (C0 2 _ rfl) ?_
   have S := S.f1
   obtain ⟨wH, Q1, M⟩ := bind_some M
   refine Z8 Q1 S.Y6 qG (fun g h aoj aok S1 akC => ?_)
   have aB := ae.mono aB aH.mono S1.bX
   have C0 := S1.bX.bU C0
   have aA := ae.mono aA ak.mono S1.bX
   have S := S.Y9 S1
   have S := S.t1
   exact aai M S akC H
 · have M := aS hc M
   have S := S.f1
   have S := S.t1
   exact aai M S qG H
theorem aal {w0 : World} {g h : AH} {Q : CR → AH → Prop} {r : (List Int)} {N : Nat} {x0 : al} {x1 : Int} {bN bO : Value} (M : zy N x0 x1 = some r) (sg : Sub g h) (ok : h.Ok) (bL : ae ak.rep 4 g bN x0.ab) (bS : ae aH.rep 3 g bO x0.aI) (H : Ru ⟨g, h, []⟩ (fun v => Q (.ret v)) r) : WF PP w0 Ft [(.agg ⟨[(.string x0.aE), (.string x0.aG), (vi x0.fArgs), (vi x0.aC), (vi x0.aD), bN, bO]⟩), (vi x1)] h Q := by
 refine acZ _ _ ?_
 have S := Sep.start sg ok
 unfold TQ
 unfold zy at M
 refine S.box [(.string x0.aE), (.string x0.aG), (vi x0.fArgs), (vi x0.aC), (vi x0.aD), bN, bO] rfl (aa rfl (aa rfl (aa rfl (aa rfl (aa rfl (aa bL.one (aa bS.one rfl))))))) (fun fX h S => ?_)
 refine S.bV [(.string x0.aE), (.string x0.aG), (vi x0.fArgs), (vi x0.aC), (vi x0.aD), bN, bO] 0 rfl rfl rfl (by decide) ?_
 obtain ⟨aM, eG, M⟩ := bind_some M
 refine aku eG S.sub S.ok bL bS (fun g h su aol S1 A_6 => ?_)
 have bL := ae.mono bL ak.mono S1.bX
 have bS := ae.mono bS aH.mono S1.bX
 have S := S.aiJ S1
 refine S.bV [(.string x0.aE), (.string x0.aG), (vi x0.fArgs), (vi x0.aC), (vi x0.aD), bN, bO] 1 rfl rfl rfl (by decide) ?_
 obtain ⟨cK, gH, M⟩ := bind_some M
 refine Rs gH S.sub S.ok bL bS (fun _ h  S1  => ?_)
 have S := S.bY S1
 refine bg.2 ?_
 refine S.aX 1 rfl rfl ?_
 obtain ⟨ij, se, M⟩ := bind_some M
 refine ae.idx bL se (fun aom aon vs aoo akD rp => ?_)
 cases rp
 refine S.nA akD rfl (by decide) ?_
 obtain ⟨vT, P1, M⟩ := bind_some M
 refine Z6 P1 S.sub S.ok (fun _ h  S1  => ?_)
 have S := S.bY S1
 cases hc : vT
 · have M := aS hc M
   refine ay (by decide) ?_
   refine ay (by decide) ?_
   refine bf.2 ?_
   have S := S.f1
   exact aak M S bL bS A_6 H
 · have M := aR hc M
   refine ax rfl ?_
   refine ax rfl ?_
   refine oV.2 ?_
   refine bf.2 ?_
   have S := S.f1
   exact aak M S bL bS A_6 H
def IN (N : Nat) (v1 : al) (x1 : Int)  : Option ((List Int)) :=
(zy N v1 x1).bind fun pg =>
 some pg
def Du (N : Nat) (v1 : al) (x1 : Int) (bP : Bool)  : Option ((List Int)) :=
 bif bP then (
 some ([] : List Int)) else (
 IN N v1 x1)
def Cm (N : Nat) (x0 : al) (x1 : Int) : Option ((List Int)) :=
(uj N x0).bind fun aM =>
 bif (!aM) then (
 Du N x0 x1 true) else (
(pe x1 0 (bt .i64 ((x0.ab.length : Int) - 1))).bind fun mG =>
 Du N x0 x1 (!mG))
abbrev Rw (c : Cx) (R : Value → W) (r : (List Int)) : Prop := ∀ (g' h' : AH) (w1 : Value), Sep c g' h' [] → ae (rI .i64) 1 g' w1 r → R w1 h'
theorem akE {w0 : World} {c : Cx} {g h : AH} {E R : Value → W} {r : (List Int)} {N : Nat} {v1 : al} {x1 : Int} {ah : Nat} {av aw : Value}  (M : IN N v1 x1 = some r) (S : Sep c g h [.bx ah [(.string v1.aE), (.string v1.aG), (vi v1.fArgs), (vi v1.aC), (vi v1.aD), av, aw]]) (aA : ae ak.rep 4 g av v1.ab) (aB : ae aH.rep 3 g aw v1.aI)  (H : Rw c R r) : Le w0 E R (az ah 0) (vi x1) h := by
 unfold Le
 unfold IN at M
 refine S.bV [(.string v1.aE), (.string v1.aG), (vi v1.fArgs), (vi v1.aC), (vi v1.aD), av, aw] 0 rfl rfl rfl (by decide) ?_
 obtain ⟨pg, wL, M⟩ := bind_some M
 refine aal wL S.sub S.ok aA aB (fun g h w_8 S1 F_9 => ?_)
 have aA := ae.mono aA ak.mono S1.bX
 have aB := ae.mono aB aH.mono S1.bX
 have S := S.lC S1
 cases M
 exact H _ _ w_8 S.bj F_9
theorem aam {w0 : World} {c : Cx} {g h : AH} {E R : Value → W} {r : (List Int)} {N : Nat} {v1 : al} {x1 : Int} {bP : Bool} {ah : Nat} {av aw : Value}  (M : Du N v1 x1 bP = some r) (S : Sep c g h [.bx ah [(.string v1.aE), (.string v1.aG), (vi v1.fArgs), (vi v1.aC), (vi v1.aD), av, aw]]) (aA : ae ak.rep 4 g av v1.ab) (aB : ae aH.rep 3 g aw v1.aI)  (H : Rw c R r) : Lf w0 E R (az ah 0) (vi x1) (.bool bP) h := by
 unfold Lf
 unfold Du at M
 refine bp (fun hc => ?_) (fun hc => ?_)
 · have M := aR hc M
   cases M
   exact H _ _ cH S.bj ae.nil
 · have M := aS hc M
   exact akE M S aA aB H
theorem aiB {w0 : World} {g h : AH} {Q : CR → AH → Prop} {r : (List Int)} {N : Nat} {x0 : al} {x1 : Int} {bN bO : Value} (M : Cm N x0 x1 = some r) (sg : Sub g h) (ok : h.Ok) (bL : ae ak.rep 4 g bN x0.ab) (bS : ae aH.rep 3 g bO x0.aI) (H : Rw ⟨g, h, []⟩ (fun v => Q (.ret v)) r) : WF PP w0 Lg [(.agg ⟨[(.string x0.aE), (.string x0.aG), (vi x0.fArgs), (vi x0.aC), (vi x0.aD), bN, bO]⟩), (vi x1)] h Q := by
 refine ac0 _ _ ?_
 have S := Sep.start sg ok
 unfold TS
 unfold Cm at M
 refine S.box [(.string x0.aE), (.string x0.aG), (vi x0.fArgs), (vi x0.aC), (vi x0.aD), bN, bO] rfl (aa rfl (aa rfl (aa rfl (aa rfl (aa rfl (aa bL.one (aa bS.one rfl))))))) (fun fX h S => ?_)
 refine S.bV [(.string x0.aE), (.string x0.aG), (vi x0.fArgs), (vi x0.aC), (vi x0.aD), bN, bO] 0 rfl rfl rfl (by decide) ?_
 obtain ⟨aM, eG, M⟩ := bind_some M
 refine IB eG S.sub S.ok bL bS (fun _ h  S1  => ?_)
 have S := S.bY S1
 refine ec.2 ?_
 cases hc : (!aM)
 · have M := aS hc M
   refine ax rfl ?_
   refine ax rfl ?_
   refine bg.2 ?_
   refine ax rfl ?_
   refine S.aX 0 rfl rfl ?_
   refine ax rfl ?_
   refine bL.len ?_
   refine ax rfl ?_
   refine mA.2 ?_
   refine ax rfl ?_
   obtain ⟨mG, sn, M⟩ := bind_some M
   refine wD sn S.sub S.ok (fun _ h  S1  => ?_)
   have S := S.bY S1
   refine ax rfl ?_
   refine ec.2 ?_
   refine bf.2 ?_
   exact aam M S bL bS H
 · have M := aR hc M
   refine ay (by decide) ?_
   refine ay (by decide) ?_
   refine ay (by decide) ?_
   refine ay (by decide) ?_
   refine ay (by decide) ?_
   refine ay (by decide) ?_
   refine ay (by decide) ?_
   refine bf.2 ?_
   exact aam M S bL bS H
def IP (N : Nat) (v1 : al) (x1 : Int)  : Option Int :=
(wT N v1 x1).bind fun pg =>
 some pg
def Dv (N : Nat) (v1 : al) (x1 : Int) (bP : Bool)  : Option Int :=
 bif bP then (
 some (-1)) else (
 IP N v1 x1)
def B9 (N : Nat) (x0 : al) (x1 : Int) : Option Int :=
(uj N x0).bind fun aM =>
 bif (!aM) then (
 Dv N x0 x1 true) else (
(pe x1 0 (bt .i64 ((x0.ab.length : Int) - 1))).bind fun mG =>
 Dv N x0 x1 (!mG))
abbrev Rx (c : Cx) (R : Value → W) (r : Int) : Prop := ∀ (g' h' : AH), Sep c g' h' [] → R (vi r) h'
theorem akF {w0 : World} {c : Cx} {g h : AH} {E R : Value → W} {r : Int} {N : Nat} {v1 : al} {x1 : Int} {ah : Nat} {av aw : Value}  (M : IP N v1 x1 = some r) (S : Sep c g h [.bx ah [(.string v1.aE), (.string v1.aG), (vi v1.fArgs), (vi v1.aC), (vi v1.aD), av, aw]]) (aA : ae ak.rep 4 g av v1.ab) (aB : ae aH.rep 3 g aw v1.aI)  (H : Rx c R r) : LG w0 E R (az ah 0) (vi x1) h := by
 unfold LG
 unfold IP at M
 refine S.bV [(.string v1.aE), (.string v1.aG), (vi v1.fArgs), (vi v1.aC), (vi v1.aD), av, aw] 0 rfl rfl rfl (by decide) ?_
 obtain ⟨pg, wL, M⟩ := bind_some M
 refine Rs wL S.sub S.ok aA aB (fun _ h  S1  => ?_)
 have S := S.bY S1
 cases M
 exact H _ _  S.bj
theorem aan {w0 : World} {c : Cx} {g h : AH} {E R : Value → W} {r : Int} {N : Nat} {v1 : al} {x1 : Int} {bP : Bool} {ah : Nat} {av aw : Value}  (M : Dv N v1 x1 bP = some r) (S : Sep c g h [.bx ah [(.string v1.aE), (.string v1.aG), (vi v1.fArgs), (vi v1.aC), (vi v1.aD), av, aw]]) (aA : ae ak.rep 4 g av v1.ab) (aB : ae aH.rep 3 g aw v1.aI)  (H : Rx c R r) : LH w0 E R (az ah 0) (vi x1) (.bool bP) h := by
 unfold LH
 unfold Dv at M
 refine bp (fun hc => ?_) (fun hc => ?_)
 · have M := aR hc M
   cases M
   exact H _ _  S.bj
 · have M := aS hc M
   exact akF M S aA aB H
theorem aii {w0 : World} {g h : AH} {Q : CR → AH → Prop} {r : Int} {N : Nat} {x0 : al} {x1 : Int} {bN bO : Value} (M : B9 N x0 x1 = some r) (sg : Sub g h) (ok : h.Ok) (bL : ae ak.rep 4 g bN x0.ab) (bS : ae aH.rep 3 g bO x0.aI) (H : Rx ⟨g, h, []⟩ (fun v => Q (.ret v)) r) : WF PP w0 LI [(.agg ⟨[(.string x0.aE), (.string x0.aG), (vi x0.fArgs), (vi x0.aC), (vi x0.aD), bN, bO]⟩), (vi x1)] h Q := by
 refine ac5 _ _ ?_
 have S := Sep.start sg ok
 unfold TX
 unfold B9 at M
 refine S.box [(.string x0.aE), (.string x0.aG), (vi x0.fArgs), (vi x0.aC), (vi x0.aD), bN, bO] rfl (aa rfl (aa rfl (aa rfl (aa rfl (aa rfl (aa bL.one (aa bS.one rfl))))))) (fun fX h S => ?_)
 refine S.bV [(.string x0.aE), (.string x0.aG), (vi x0.fArgs), (vi x0.aC), (vi x0.aD), bN, bO] 0 rfl rfl rfl (by decide) ?_
 obtain ⟨aM, eG, M⟩ := bind_some M
 refine IB eG S.sub S.ok bL bS (fun _ h  S1  => ?_)
 have S := S.bY S1
 refine ec.2 ?_
 cases hc : (!aM)
 · have M := aS hc M
   refine ax rfl ?_
   refine ax rfl ?_
   refine bg.2 ?_
   refine ax rfl ?_
   refine S.aX 0 rfl rfl ?_
   refine ax rfl ?_
   refine bL.len ?_
   refine ax rfl ?_
   refine mA.2 ?_
   refine ax rfl ?_
   obtain ⟨mG, sn, M⟩ := bind_some M
   refine wD sn S.sub S.ok (fun _ h  S1  => ?_)
   have S := S.bY S1
   refine ax rfl ?_
   refine ec.2 ?_
   refine bf.2 ?_
   exact aan M S bL bS H
 · have M := aR hc M
   refine ay (by decide) ?_
   refine ay (by decide) ?_
   refine ay (by decide) ?_
   refine ay (by decide) ?_
   refine ay (by decide) ?_
   refine ay (by decide) ?_
   refine ay (by decide) ?_
   refine bf.2 ?_
   exact aan M S bL bS H
def zz (N : Nat) (aT : Int) (aV : Bool) (gW : List Bool) (cv : al) (cd : Bool → Int → (List Bool) → Option ((List Bool))) : Option ((List Bool)) :=
 cd aV (bt .i64 (aT + 1)) gW
def Dw (N : Nat) (eT : Int) (mS : Bool) (IQ : List Bool) (eO : al) (l5 : Bool → Int → (List Bool) → Option ((List Bool))) : Option ((List Bool)) :=
 l5 mS (bt .i64 (eT + 1)) IQ
def IS (N : Nat) (bC : List Int) (eT : Int) (v5 : List Bool) (iS : Bool) (eO : al) (l5 : Bool → Int → (List Bool) → Option ((List Bool))) : Option ((List Bool)) :=
(ix bC eT).bind fun aao =>
(ix v5 aao).bind fun Dx =>
 bif (!Dx) then (
(ix bC eT).bind fun qH =>
(ix v5 qH).bind fun Ry =>
 Dw N eT true (v5.set qH.toNat true) eO l5) else (
 Dw N eT iS v5 eO l5)
def Dy (N : Nat) (bC : List Int) (v5 : List Bool) (aT : Int) (iS : Bool) (eT : Int) (cv : al) (cd : Bool → Int → (List Bool) → Option ((List Bool))) (l5 : Bool → Int → (List Bool) → Option ((List Bool))) : Option ((List Bool)) :=
 bif (decide (eT < (bC.length : Int))) then (
 IS N bC eT v5 iS cv l5) else (
 zz N aT iS v5 cv cd)
def Dz (N : Nat) (bC : List Int) (aT : Int) (cv : al) (cd : Bool → Int → (List Bool) → Option ((List Bool))) : Nat → (List Bool) → Bool → Int → Option ((List Bool))
 | 0, _, _, _ => none
 | n + 1, v5, iS, eT => Dy N bC v5 aT iS eT cv cd (fun aq bn cf => Dz N bC aT cv cd n cf aq bn)
def IT (N : Nat) (v1 : al) (aT : Int) (v5 : List Bool) (bz : Bool) (cd : Bool → Int → (List Bool) → Option ((List Bool))) : Option ((List Bool)) :=
(zy N v1 aT).bind fun lD =>
 Dz N lD aT v1 cd N v5 bz 0
def IU (N : Nat) (v5 : List Bool) (aT : Int) (bz : Bool) (v1 : al) (cd : Bool → Int → (List Bool) → Option ((List Bool))) : Option ((List Bool)) :=
(ix v5 aT).bind fun iP =>
 bif (!iP) then (
 zz N aT bz v5 v1 cd) else (
 IT N v1 aT v5 bz cd)
def DA (N : Nat) (v5 : List Bool) (v1 : al) (bz : Bool) (aT : Int) (jI : Bool → (List Bool) → Option ((List Bool))) (cd : Bool → Int → (List Bool) → Option ((List Bool))) : Option ((List Bool)) :=
 bif (decide (aT < (v5.length : Int))) then (
 IU N v5 aT bz v1 cd) else (
 jI bz v5)
def wX (N : Nat) (v1 : al) (jI : Bool → (List Bool) → Option ((List Bool))) : Nat → (List Bool) → Bool → Int → Option ((List Bool))
 | 0, _, _, _ => none
 | n + 1, v5, bz, aT => DA N v5 v1 bz aT jI (fun aq bn cf => wX N v1 jI n cf aq bn)
def DB (N : Nat) (v5 : List Bool) (v1 : al) (jI : Bool → (List Bool) → Option ((List Bool))) : Option ((List Bool)) :=
 wX N v1 jI N v5 false 0
def Rz (N : Nat) (v5 : List Bool)  : Option ((List Bool)) :=
 some v5
def RA (N : Nat) (v5 : List Bool) (v1 : al) (y9 : Bool) (jI : Bool → (List Bool) → Option ((List Bool))) : Option ((List Bool)) :=
 bif y9 then (
 DB N v5 v1 jI) else (
 Rz N v5)
def wY (N : Nat) (v1 : al)  : Nat → (List Bool) → Bool → Option ((List Bool))
 | 0, _, _ => none
 | n + 1, v5, y9 => RA N v5 v1 y9  (fun aq cf => wY N v1 n cf aq)
def DC (N : Nat) (v1 : al)  : Option ((List Bool)) :=
 gu (decide (0 ≤ (v1.ab.length : Int)) && decide ((v1.ab.length : Int) ≤ 65536)) (
(ix (List.replicate (v1.ab.length : Int).toNat false) 0).bind fun cK =>
 wY N v1 N ((List.replicate (v1.ab.length : Int).toNat false).set (0 : Int).toNat true) true)
def Ch (N : Nat) (x0 : al) : Option ((List Bool)) :=
(uj N x0).bind fun aM =>
 bif (!aM) then (
 some ([] : List Bool)) else (
 DC N x0)
abbrev l6 (c : Cx) (R : Value → W) (r : (List Bool)) : Prop := ∀ (g' h' : AH) (w1 : Value), Sep c g' h' [] → ae rB 1 g' w1 r → R w1 h'
theorem aap {w0 : World} {c : Cx} {g h : AH} {E R : Value → W} {r : (List Bool)} {N : Nat} {aT : Int} {aV : Bool} {gW : List Bool} {cv : al} {DD : Value} {DE : List (List Value)} {oo : Nat} {oq ot : Value} {cm : Value → Value → W} {cd : Bool → Int → (List Bool) → Option ((List Bool))} {eA : AH} (M : zz N aT aV gW cv cd = some r) (S : Sep c g h [.sl 4 1 DD DE, .bx oo [(.string cv.aE), (.string cv.aG), (vi cv.fArgs), (vi cv.aC), (vi cv.aD), oq, ot]]) (RB : au (rB g) DE gW) (wZ : ae ak.rep 4 g oq cv.ab) (w4 : ae aH.rep 3 g ot cv.aI) (fk : Sub eA g) (gm : ∀ {aq : Bool} {bn : Int} {cf : List Bool} {cT : List (List Value)} {g2 h2 : AH}, cd aq bn cf = some r → Sub eA g2 → Sep c g2 h2 [.sl 4 1 DD cT, .bx oo [(.string cv.aE), (.string cv.aG), (vi cv.fArgs), (vi cv.aC), (vi cv.aD), oq, ot]] → au (rB g2) cT cf → cm (.bool aq) (vi bn) h2) (H : l6 c R r) : Fu w0 E R (vi aT) cm (.bool aV) h := by
 unfold Fu
 unfold zz at M
 refine gE.2 ?_
 exact gm M fk S RB
theorem aaq {w0 : World} {c : Cx} {g h : AH} {E R : Value → W} {r : (List Bool)} {N : Nat} {eT : Int} {mS : Bool} {IQ : List Bool} {eO : al} {aar : Value} {aas : List (List Value)} {zA : Nat} {uv uw : Value} {lK : Value → Value → W} {l5 : Bool → Int → (List Bool) → Option ((List Bool))} {ux : AH} (M : Dw N eT mS IQ eO l5 = some r) (S : Sep c g h [.sl 4 1 aar aas, .bx zA [(.string eO.aE), (.string eO.aG), (vi eO.fArgs), (vi eO.aC), (vi eO.aD), uv, uw]]) (akG : au (rB g) aas IQ) (RC : ae ak.rep 4 g uv eO.ab) (RD : ae aH.rep 3 g uw eO.aI) (zB : Sub ux g) (zC : ∀ {aq : Bool} {bn : Int} {cf : List Bool} {cT : List (List Value)} {g2 h2 : AH}, l5 aq bn cf = some r → Sub ux g2 → Sep c g2 h2 [.sl 4 1 aar cT, .bx zA [(.string eO.aE), (.string eO.aG), (vi eO.fArgs), (vi eO.aC), (vi eO.aD), uv, uw]] → au (rB g2) cT cf → lK (.bool aq) (vi bn) h2) (H : l6 c R r) : Fv w0 E R (vi eT) lK (.bool mS) h := by
 unfold Fv
 unfold Dw at M
 refine gE.2 ?_
 exact zC M zB S akG
theorem akH {w0 : World} {c : Cx} {g h : AH} {E R : Value → W} {r : (List Bool)} {N : Nat} {bC : List Int} {eT : Int} {v5 : List Bool} {iS : Bool} {eO : al} {uy dK : Value} {ed : List (List Value)} {zA : Nat} {uv uw : Value} {lK : Value → Value → W} {l5 : Bool → Int → (List Bool) → Option ((List Bool))} {ux : AH} (M : IS N bC eT v5 iS eO l5 = some r) (S : Sep c g h [.sl 4 1 dK ed, .bx zA [(.string eO.aE), (.string eO.aG), (vi eO.fArgs), (vi eO.aC), (vi eO.aD), uv, uw]]) (sv : ae (rI .i64) 1 g uy bC) (cC : au (rB g) ed v5) (RC : ae ak.rep 4 g uv eO.ab) (RD : ae aH.rep 3 g uw eO.aI) (zB : Sub ux g) (zC : ∀ {aq : Bool} {bn : Int} {cf : List Bool} {cT : List (List Value)} {g2 h2 : AH}, l5 aq bn cf = some r → Sub ux g2 → Sep c g2 h2 [.sl 4 1 dK cT, .bx zA [(.string eO.aE), (.string eO.aG), (vi eO.fArgs), (vi eO.aC), (vi eO.aD), uv, uw]] → au (rB g2) cT cf → lK (.bool aq) (vi bn) h2) (H : l6 c R r) : Li w0 E R uy (vi eT) dK lK (.bool iS) h := by
 unfold Li
 unfold IS at M
 obtain ⟨aao, akI, M⟩ := bind_some M
 refine ae.idx sv akI (fun aop aoq vs aor akJ rp => ?_)
 cases rp
 refine S.fQ (akJ 0 _ rfl) ?_
 obtain ⟨Dx, RE, M⟩ := bind_some M
 refine S.mE 0 rfl cC RE (fun aos aot vs akK akL rp => ?_)
 cases rp
 refine S.yY (j := 0) 0 rfl akK akL rfl ?_
 refine ec.2 ?_
 refine bp (fun hc => ?_) (fun hc => ?_)
 · have M := aR hc M
   obtain ⟨qH, RF, M⟩ := bind_some M
   refine ae.idx sv RF (fun akM akN vs aou akO rp => ?_)
   cases rp
   refine S.fQ (akO 0 _ rfl) ?_
   obtain ⟨Ry, RG, M⟩ := bind_some M
   refine S.mE 0 rfl cC RG (fun akP akQ vs RH RI rp => ?_)
   cases rp
   refine S.ua (j := 0) [(.bool true)] RH RI rfl rfl (aa rfl rfl) (by decide) (fun h S => ?_)
   have RJ : au (rB g) (ed.set qH.toNat [(.bool true)]) (v5.set qH.toNat true) := au.set cC (show rB g [(.bool true)] true from rfl) qH.toNat
   have S : Sep _ g h [.sl 4 1 dK (ed.set qH.toNat [(.bool true)]), .bx zA [(.string eO.aE), (.string eO.aG), (vi eO.fArgs), (vi eO.aC), (vi eO.aD), uv, uw]] := S
   exact aaq M S RJ RC RD zB zC H
 · have M := aS hc M
   exact aaq M S cC RC RD zB zC H
theorem akR {w0 : World} {c : Cx} {g h : AH} {E R : Value → W} {r : (List Bool)} {N : Nat} {bC : List Int} {v5 : List Bool} {aT : Int} {iS : Bool} {eT : Int} {cv : al} {uy dK : Value} {ed : List (List Value)} {oo : Nat} {oq ot : Value} {cm : Value → Value → W} {cd : Bool → Int → (List Bool) → Option ((List Bool))} {eA : AH} {lK : Value → Value → W} {l5 : Bool → Int → (List Bool) → Option ((List Bool))} {ux : AH} (M : Dy N bC v5 aT iS eT cv cd l5 = some r) (S : Sep c g h [.sl 4 1 dK ed, .bx oo [(.string cv.aE), (.string cv.aG), (vi cv.fArgs), (vi cv.aC), (vi cv.aD), oq, ot]]) (sv : ae (rI .i64) 1 g uy bC) (cC : au (rB g) ed v5) (wZ : ae ak.rep 4 g oq cv.ab) (w4 : ae aH.rep 3 g ot cv.aI) (fk : Sub eA g) (gm : ∀ {aq : Bool} {bn : Int} {cf : List Bool} {cT : List (List Value)} {g2 h2 : AH}, cd aq bn cf = some r → Sub eA g2 → Sep c g2 h2 [.sl 4 1 dK cT, .bx oo [(.string cv.aE), (.string cv.aG), (vi cv.fArgs), (vi cv.aC), (vi cv.aD), oq, ot]] → au (rB g2) cT cf → cm (.bool aq) (vi bn) h2) (zB : Sub ux g) (zC : ∀ {aq : Bool} {bn : Int} {cf : List Bool} {cT : List (List Value)} {g2 h2 : AH}, l5 aq bn cf = some r → Sub ux g2 → Sep c g2 h2 [.sl 4 1 dK cT, .bx oo [(.string cv.aE), (.string cv.aG), (vi cv.fArgs), (vi cv.aC), (vi cv.aD), oq, ot]] → au (rB g2) cT cf → lK (.bool aq) (vi bn) h2) (H : l6 c R r) : Fw w0 E R uy dK (vi aT) cm lK (.bool iS) (vi eT) h := by
 unfold Fw
 unfold Dy at M
 refine sv.len ?_
 refine fW.2 ?_
 refine bp (fun hc => ?_) (fun hc => ?_)
 · have M := aR hc M
   exact akH M S sv cC wZ w4 zB zC H
 · have M := aS hc M
   exact aap M S cC wZ w4 fk gm H
theorem akS {w0 : World} {c : Cx} {E R : Value → W} {r : (List Bool)} {N : Nat} {bC : List Int} {aT : Int} {cv : al} {uy dK : Value} {oo : Nat} {oq ot : Value} {cm : Value → Value → W} {cd : Bool → Int → (List Bool) → Option ((List Bool))} {eA : AH} (gm : ∀ {aq : Bool} {bn : Int} {cf : List Bool} {cT : List (List Value)} {g2 h2 : AH}, cd aq bn cf = some r → Sub eA g2 → Sep c g2 h2 [.sl 4 1 dK cT, .bx oo [(.string cv.aE), (.string cv.aG), (vi cv.fArgs), (vi cv.aC), (vi cv.aD), oq, ot]] → au (rB g2) cT cf → cm (.bool aq) (vi bn) h2) (H : l6 c R r) : ∀ (n : Nat) {v5 : List Bool} {iS : Bool} {eT : Int} {ed : List (List Value)} {g h : AH}, Dz N bC aT cv cd n v5 iS eT = some r → Sep c g h [.sl 4 1 dK ed, .bx oo [(.string cv.aE), (.string cv.aG), (vi cv.fArgs), (vi cv.aC), (vi cv.aD), oq, ot]] → ae (rI .i64) 1 g uy bC → au (rB g) ed v5 → ae ak.rep 4 g oq cv.ab → ae aH.rep 3 g ot cv.aI → Sub eA g → gG (α := Value × Value) (fun k a => Fw w0 E R uy dK (vi aT) cm (fun b0 b1 => k (b0, b1)) a.1 a.2) n ((.bool iS), (vi eT)) h := by
 intro n
 induction n with
 | zero =>
  intro v5 iS eT ed g h M S sv cC wZ w4 fk
  unfold Dz at M; cases M
 | succ n ih =>
  intro v5 iS eT ed g h M S sv cC wZ w4 fk
  exact akR M S sv cC wZ w4 fk gm (Sub.refl g) (fun M2 sub S2 sw => ih M2 S2 (ae.mono sv (ig .i64) sub) sw (ae.mono wZ ak.mono sub) (ae.mono w4 aH.mono sub) (Sub.trans fk sub)) H
theorem akT {w0 : World} {c : Cx} {g h : AH} {E R : Value → W} {r : (List Bool)} {N : Nat} {v1 : al} {aT : Int} {v5 : List Bool} {bz : Bool} {ah : Nat} {av aw dK : Value} {ed : List (List Value)} {cm : Value → Value → W} {cd : Bool → Int → (List Bool) → Option ((List Bool))} {eA : AH} (M : IT N v1 aT v5 bz cd = some r) (S : Sep c g h [.bx ah [(.string v1.aE), (.string v1.aG), (vi v1.fArgs), (vi v1.aC), (vi v1.aD), av, aw], .sl 4 1 dK ed]) (aA : ae ak.rep 4 g av v1.ab) (aB : ae aH.rep 3 g aw v1.aI) (cC : au (rB g) ed v5) (fk : Sub eA g) (gm : ∀ {aq : Bool} {bn : Int} {cf : List Bool} {cT : List (List Value)} {g2 h2 : AH}, cd aq bn cf = some r → Sub eA g2 → Sep c g2 h2 [.sl 4 1 dK cT, .bx ah [(.string v1.aE), (.string v1.aG), (vi v1.fArgs), (vi v1.aC), (vi v1.aD), av, aw]] → au (rB g2) cT cf → cm (.bool aq) (vi bn) h2) (H : l6 c R r) : Lj w0 E R (az ah 0) (vi aT) dK cm (.bool bz) h := by
 unfold Lj
 unfold IT at M
 refine S.bV [(.string v1.aE), (.string v1.aG), (vi v1.fArgs), (vi v1.aC), (vi v1.aD), av, aw] 0 rfl rfl rfl (by decide) ?_
 obtain ⟨lD, wC, M⟩ := bind_some M
 refine aal wC S.sub S.ok aA aB (fun g h ajw S1 QN => ?_)
 have aA := ae.mono aA ak.mono S1.bX
 have aB := ae.mono aB aH.mono S1.bX
 have cC := au.mono cC (fun _ _ hh => qz _ _ _ _ S1.bX hh)
 have fk := Sub.trans fk S1.bX
 have S := S.lC S1
 have S := S.f1
 exact ⟨N, akS gm H _ M S QN cC aA aB fk⟩
theorem akU {w0 : World} {c : Cx} {g h : AH} {E R : Value → W} {r : (List Bool)} {N : Nat} {v5 : List Bool} {aT : Int} {bz : Bool} {v1 : al} {dK : Value} {ed : List (List Value)} {ah : Nat} {av aw : Value} {cm : Value → Value → W} {cd : Bool → Int → (List Bool) → Option ((List Bool))} {eA : AH} (M : IU N v5 aT bz v1 cd = some r) (S : Sep c g h [.sl 4 1 dK ed, .bx ah [(.string v1.aE), (.string v1.aG), (vi v1.fArgs), (vi v1.aC), (vi v1.aD), av, aw]]) (cC : au (rB g) ed v5) (aA : ae ak.rep 4 g av v1.ab) (aB : ae aH.rep 3 g aw v1.aI) (fk : Sub eA g) (gm : ∀ {aq : Bool} {bn : Int} {cf : List Bool} {cT : List (List Value)} {g2 h2 : AH}, cd aq bn cf = some r → Sub eA g2 → Sep c g2 h2 [.sl 4 1 dK cT, .bx ah [(.string v1.aE), (.string v1.aG), (vi v1.fArgs), (vi v1.aC), (vi v1.aD), av, aw]] → au (rB g2) cT cf → cm (.bool aq) (vi bn) h2) (H : l6 c R r) : Lk w0 E R dK (vi aT) cm (.bool bz) (az ah 0) h := by
 unfold Lk
 unfold IU at M
 obtain ⟨iP, CZ, M⟩ := bind_some M
 refine S.mE 0 rfl cC CZ (fun zl akV vs akW akX rp => ?_)
 cases rp
 refine S.yY (j := 0) 0 rfl akW akX rfl ?_
 refine ec.2 ?_
 refine bp (fun hc => ?_) (fun hc => ?_)
 · have M := aR hc M
   exact aap M S cC aA aB fk gm H
 · have M := aS hc M
   have S := S.f1
   exact akT M S aA aB cC fk gm H
theorem akY {w0 : World} {c : Cx} {g h : AH} {E R : Value → W} {r : (List Bool)} {N : Nat} {v5 : List Bool} {v1 : al} {bz : Bool} {aT : Int} {dK : Value} {ed : List (List Value)} {ah : Nat} {av aw : Value} {k8 : Value → W} {jI : Bool → (List Bool) → Option ((List Bool))} {pv : AH} {cm : Value → Value → W} {cd : Bool → Int → (List Bool) → Option ((List Bool))} {eA : AH} (M : DA N v5 v1 bz aT jI cd = some r) (S : Sep c g h [.sl 4 1 dK ed, .bx ah [(.string v1.aE), (.string v1.aG), (vi v1.fArgs), (vi v1.aC), (vi v1.aD), av, aw]]) (cC : au (rB g) ed v5) (aA : ae ak.rep 4 g av v1.ab) (aB : ae aH.rep 3 g aw v1.aI) (sx : Sub pv g) (w7 : ∀ {aq : Bool} {cf : List Bool} {cT : List (List Value)} {g2 h2 : AH}, jI aq cf = some r → Sub pv g2 → Sep c g2 h2 [.sl 4 1 dK cT, .bx ah [(.string v1.aE), (.string v1.aG), (vi v1.fArgs), (vi v1.aC), (vi v1.aD), av, aw]] → au (rB g2) cT cf → k8 (.bool aq) h2) (fk : Sub eA g) (gm : ∀ {aq : Bool} {bn : Int} {cf : List Bool} {cT : List (List Value)} {g2 h2 : AH}, cd aq bn cf = some r → Sub eA g2 → Sep c g2 h2 [.sl 4 1 dK cT, .bx ah [(.string v1.aE), (.string v1.aG), (vi v1.fArgs), (vi v1.aC), (vi v1.aD), av, aw]] → au (rB g2) cT cf → cm (.bool aq) (vi bn) h2) (H : l6 c R r) : Fx w0 E R dK (az ah 0) k8 cm (.bool bz) (vi aT) h := by
 unfold Fx
 unfold DA at M
 refine S.Cs 0 rfl cC ?_
 refine fW.2 ?_
 refine bp (fun hc => ?_) (fun hc => ?_)
 · have M := aR hc M
   exact akU M S cC aA aB fk gm H
 · have M := aS hc M
   exact w7 M sx S cC
theorem akZ {w0 : World} {c : Cx} {E R : Value → W} {r : (List Bool)} {N : Nat} {v1 : al} {dK : Value} {ah : Nat} {av aw : Value} {k8 : Value → W} {jI : Bool → (List Bool) → Option ((List Bool))} {pv : AH} (w7 : ∀ {aq : Bool} {cf : List Bool} {cT : List (List Value)} {g2 h2 : AH}, jI aq cf = some r → Sub pv g2 → Sep c g2 h2 [.sl 4 1 dK cT, .bx ah [(.string v1.aE), (.string v1.aG), (vi v1.fArgs), (vi v1.aC), (vi v1.aD), av, aw]] → au (rB g2) cT cf → k8 (.bool aq) h2) (H : l6 c R r) : ∀ (n : Nat) {v5 : List Bool} {bz : Bool} {aT : Int} {ed : List (List Value)} {g h : AH}, wX N v1 jI n v5 bz aT = some r → Sep c g h [.sl 4 1 dK ed, .bx ah [(.string v1.aE), (.string v1.aG), (vi v1.fArgs), (vi v1.aC), (vi v1.aD), av, aw]] → au (rB g) ed v5 → ae ak.rep 4 g av v1.ab → ae aH.rep 3 g aw v1.aI → Sub pv g → gG (α := Value × Value) (fun k a => Fx w0 E R dK (az ah 0) k8 (fun b0 b1 => k (b0, b1)) a.1 a.2) n ((.bool bz), (vi aT)) h := by
 intro n
 induction n with
 | zero =>
  intro v5 bz aT ed g h M S cC aA aB sx
  unfold wX at M; cases M
 | succ n ih =>
  intro v5 bz aT ed g h M S cC aA aB sx
  exact akY M S cC aA aB sx w7 (Sub.refl g) (fun M2 sub S2 sw => ih M2 S2 sw (ae.mono aA ak.mono sub) (ae.mono aB aH.mono sub) (Sub.trans sx sub)) H
theorem ak0 {w0 : World} {c : Cx} {g h : AH} {E R : Value → W} {r : (List Bool)} {N : Nat} {v5 : List Bool} {v1 : al} {dK : Value} {ed : List (List Value)} {ah : Nat} {av aw : Value} {k8 : Value → W} {jI : Bool → (List Bool) → Option ((List Bool))} {pv : AH} (M : DB N v5 v1 jI = some r) (S : Sep c g h [.sl 4 1 dK ed, .bx ah [(.string v1.aE), (.string v1.aG), (vi v1.fArgs), (vi v1.aC), (vi v1.aD), av, aw]]) (cC : au (rB g) ed v5) (aA : ae ak.rep 4 g av v1.ab) (aB : ae aH.rep 3 g aw v1.aI) (sx : Sub pv g) (w7 : ∀ {aq : Bool} {cf : List Bool} {cT : List (List Value)} {g2 h2 : AH}, jI aq cf = some r → Sub pv g2 → Sep c g2 h2 [.sl 4 1 dK cT, .bx ah [(.string v1.aE), (.string v1.aG), (vi v1.fArgs), (vi v1.aC), (vi v1.aD), av, aw]] → au (rB g2) cT cf → k8 (.bool aq) h2) (H : l6 c R r) : Ll w0 E R dK (az ah 0) k8 h := by
 unfold Ll
 unfold DB at M
 exact ⟨N, akZ w7 H _ M S cC aA aB sx⟩
theorem ak1 {w0 : World} {c : Cx} {g h : AH} {E R : Value → W} {r : (List Bool)} {N : Nat} {v5 : List Bool} {dK : Value} {ed : List (List Value)}  (M : Rz N v5 = some r) (S : Sep c g h [.sl 4 1 dK ed]) (cC : au (rB g) ed v5)  (H : l6 c R r) : Lh w0 E R dK h := by
 unfold Lh
 unfold Rz at M
 obtain ⟨g, sg, S, ak2⟩ := S.fz cC qz
 cases M
 exact H _ _ dK S.bj ak2
theorem ak3 {w0 : World} {c : Cx} {g h : AH} {E R : Value → W} {r : (List Bool)} {N : Nat} {v5 : List Bool} {v1 : al} {y9 : Bool} {dK : Value} {ed : List (List Value)} {ah : Nat} {av aw : Value} {k8 : Value → W} {jI : Bool → (List Bool) → Option ((List Bool))} {pv : AH} (M : RA N v5 v1 y9 jI = some r) (S : Sep c g h [.sl 4 1 dK ed, .bx ah [(.string v1.aE), (.string v1.aG), (vi v1.fArgs), (vi v1.aC), (vi v1.aD), av, aw]]) (cC : au (rB g) ed v5) (aA : ae ak.rep 4 g av v1.ab) (aB : ae aH.rep 3 g aw v1.aI) (sx : Sub pv g) (w7 : ∀ {aq : Bool} {cf : List Bool} {cT : List (List Value)} {g2 h2 : AH}, jI aq cf = some r → Sub pv g2 → Sep c g2 h2 [.sl 4 1 dK cT, .bx ah [(.string v1.aE), (.string v1.aG), (vi v1.fArgs), (vi v1.aC), (vi v1.aD), av, aw]] → au (rB g2) cT cf → k8 (.bool aq) h2) (H : l6 c R r) : Fy w0 E R dK (az ah 0) k8 (.bool y9) h := by
 unfold Fy
 unfold RA at M
 refine bp (fun hc => ?_) (fun hc => ?_)
 · have M := aR hc M
   exact ak0 M S cC aA aB sx w7 H
 · have M := aS hc M
   have S := S.t1
   exact ak1 M S cC H
theorem ak4 {w0 : World} {c : Cx} {E R : Value → W} {r : (List Bool)} {N : Nat} {v1 : al} {dK : Value} {ah : Nat} {av aw : Value}   (H : l6 c R r) : ∀ (n : Nat) {v5 : List Bool} {y9 : Bool} {ed : List (List Value)} {g h : AH}, wY N v1 n v5 y9 = some r → Sep c g h [.sl 4 1 dK ed, .bx ah [(.string v1.aE), (.string v1.aG), (vi v1.fArgs), (vi v1.aC), (vi v1.aD), av, aw]] → au (rB g) ed v5 → ae ak.rep 4 g av v1.ab → ae aH.rep 3 g aw v1.aI → gG (α := Value) (fun k a => Fy w0 E R dK (az ah 0) k a) n (.bool y9) h := by
 intro n
 induction n with
 | zero =>
  intro v5 y9 ed g h M S cC aA aB
  unfold wY at M; cases M
 | succ n ih =>
  intro v5 y9 ed g h M S cC aA aB
  exact ak3 M S cC aA aB  (Sub.refl g) (fun M2 sub S2 sw => ih M2 S2 sw (ae.mono aA ak.mono sub) (ae.mono aB aH.mono sub) ) H
theorem ak5 {w0 : World} {c : Cx} {g h : AH} {E R : Value → W} {r : (List Bool)} {N : Nat} {v1 : al} {ah : Nat} {av aw : Value}  (M : DC N v1 = some r) (S : Sep c g h [.bx ah [(.string v1.aE), (.string v1.aG), (vi v1.fArgs), (vi v1.aC), (vi v1.aD), av, aw]]) (aA : ae ak.rep 4 g av v1.ab) (aB : ae aH.rep 3 g aw v1.aI)  (H : l6 c R r) : Lm w0 E R (az ah 0) h := by
 unfold Lm
 unfold DC at M
 refine bg.2 ?_
 refine S.aX 0 rfl rfl ?_
 refine aA.len ?_
 obtain ⟨DF, M⟩ := mD M
 refine S.Qh DF rfl (aa rfl rfl) (fun su h S => ?_)
 have qI : au (rB g) (List.replicate (v1.ab.length : Int).toNat [(.bool false)]) (List.replicate (v1.ab.length : Int).toNat false) := au.P3 (show rB g [(.bool false)] false from rfl) _
 obtain ⟨cK, gH, M⟩ := bind_some M
 refine S.mE 0 rfl qI gH (fun IF Q4 vs RK RL rp => ?_)
 cases rp
 refine S.ua (j := 0) [(.bool true)] RK RL rfl rfl (aa rfl rfl) (by decide) (fun h S => ?_)
 have RM : au (rB g) ((List.replicate (v1.ab.length : Int).toNat [(.bool false)]).set (0 : Int).toNat [(.bool true)]) ((List.replicate (v1.ab.length : Int).toNat false).set (0 : Int).toNat true) := au.set qI (show rB g [(.bool true)] true from rfl) (0 : Int).toNat
 have S : Sep _ g h [.sl 4 1 su ((List.replicate (v1.ab.length : Int).toNat [(.bool false)]).set (0 : Int).toNat [(.bool true)]), .bx ah [(.string v1.aE), (.string v1.aG), (vi v1.fArgs), (vi v1.aC), (vi v1.aD), av, aw]] := S
 exact ⟨N, ak4  H _ M S RM aA aB ⟩
theorem ais {w0 : World} {g h : AH} {Q : CR → AH → Prop} {r : (List Bool)} {N : Nat} {x0 : al} {bN bO : Value} (M : Ch N x0 = some r) (sg : Sub g h) (ok : h.Ok) (bL : ae ak.rep 4 g bN x0.ab) (bS : ae aH.rep 3 g bO x0.aI) (H : l6 ⟨g, h, []⟩ (fun v => Q (.ret v)) r) : WF PP w0 Ln [(.agg ⟨[(.string x0.aE), (.string x0.aG), (vi x0.fArgs), (vi x0.aC), (vi x0.aD), bN, bO]⟩)] h Q := by
 refine ac1 _ ?_
 have S := Sep.start sg ok
 unfold TT
 unfold Ch at M
 refine S.box [(.string x0.aE), (.string x0.aG), (vi x0.fArgs), (vi x0.aC), (vi x0.aD), bN, bO] rfl (aa rfl (aa rfl (aa rfl (aa rfl (aa rfl (aa bL.one (aa bS.one rfl))))))) (fun fX h S => ?_)
 refine S.bV [(.string x0.aE), (.string x0.aG), (vi x0.fArgs), (vi x0.aC), (vi x0.aD), bN, bO] 0 rfl rfl rfl (by decide) ?_
 obtain ⟨aM, eG, M⟩ := bind_some M
 refine IB eG S.sub S.ok bL bS (fun _ h  S1  => ?_)
 have S := S.bY S1
 refine ec.2 ?_
 refine bp (fun hc => ?_) (fun hc => ?_)
 · have M := aR hc M
   cases M
   exact H _ _ cH S.bj ae.nil
 · have M := aS hc M
   exact ak5 M S bL bS H
def DG (N : Nat) (bD : Int) (eP : al) (IV : List Bool) (cM : Int → (List Bool) → Option ((List Int))) : Option ((List Int)) :=
 cM (bt .i64 (bD + 1)) IV
def zD (N : Nat) (bD : Int) (v6 : List Bool) (iq : Bool) (eP : al) (cM : Int → (List Bool) → Option ((List Int))) : Option ((List Int)) :=
 bif iq then (
(ix v6 (bt .i64 (bD + 1))).bind fun ak6 =>
 DG N bD eP (v6.set (bt .i64 (bD + 1)).toNat true) cM) else (
 DG N bD eP v6 cM)
def DH (N : Nat) (v1 : al) (bD : Int) (v6 : List Bool) (fU : Bool) (cM : Int → (List Bool) → Option ((List Int))) : Option ((List Int)) :=
 bif fU then (
 zD N bD v6 true v1 cM) else (
(ix v1.ab bD).bind fun aat =>
 zD N bD v6 (decide (aat.aJ = 32)) v1 cM)
def zE (N : Nat) (v1 : al) (bD : Int) (v6 : List Bool) (cM : Int → (List Bool) → Option ((List Int))) : Option ((List Int)) :=
(ix v1.ab bD).bind fun aau =>
(zt aau).bind fun RN =>
 bif RN then (
 DH N v1 bD v6 true cM) else (
(ix v1.ab bD).bind fun aav =>
 DH N v1 bD v6 (decide (aav.aJ = 25)) cM)
def DI (N : Nat) (v1 : al) (v31 : Int) (v6 : List Bool) (bD : Int) (mg : Bool) (cM : Int → (List Bool) → Option ((List Int))) : Option ((List Int)) :=
 bif mg then (
(ix v1.aI v31).bind fun w8 =>
(ix v6 w8.dJ).bind fun H8 =>
 zE N v1 bD (v6.set w8.dJ.toNat true) cM) else (
 zE N v1 bD v6 cM)
def zF (N : Nat) (v1 : al) (bD : Int) (v6 : List Bool) (cM : Int → (List Bool) → Option ((List Int))) : Option ((List Int)) :=
(wT N v1 bD).bind fun IW =>
(ix v1.ab bD).bind fun gO =>
(zv gO).bind fun yR =>
 bif yR then (
 DI N v1 IW v6 bD (decide (0 ≤ IW)) cM) else (
 DI N v1 IW v6 bD false cM)
def DJ (N : Nat) (v1 : al) (bD : Int) (v6 : List Bool) (cM : Int → (List Bool) → Option ((List Int))) : Option ((List Int)) :=
(ix v1.ab bD).bind fun iP =>
(wF iP).bind fun lD =>
 bif lD.2 then (
(ix v6 lD.1).bind fun ak7 =>
 zF N v1 bD (v6.set lD.1.toNat true) cM) else (
 zF N v1 bD v6 cM)
def DK (N : Nat) (aT : Int) (aV : List Int) (gW : List Bool) (cd : (List Int) → Int → (List Bool) → Option ((List Int))) : Option ((List Int)) :=
 cd aV (bt .i64 (aT + 1)) gW
def IX (N : Nat) (v6 : List Bool) (aT : Int) (bz : List Int) (cd : (List Int) → Int → (List Bool) → Option ((List Int))) : Option ((List Int)) :=
(ix v6 aT).bind fun aaw =>
 bif aaw then (
 gu (decide (bz.length + [aT].length ≤ 1048576)) (
 DK N aT (bz ++ [aT]) v6 cd)) else (
 DK N aT bz v6 cd)
def RO (N : Nat) (y9 : List Int)  : Option ((List Int)) :=
 some y9
def w9 (N : Nat) (v4 : Int) (v6 : List Bool) (bz : List Int) (aT : Int) (cd : (List Int) → Int → (List Bool) → Option ((List Int))) : Option ((List Int)) :=
 bif (decide (aT < v4)) then (
 IX N v6 aT bz cd) else (
 RO N bz)
def xa (N : Nat) (v4 : Int)  : Nat → (List Bool) → (List Int) → Int → Option ((List Int))
 | 0, _, _, _ => none
 | n + 1, v6, bz, aT => w9 N v4 v6 bz aT  (fun aq bn cf => xa N v4 n cf aq bn)
def zG (N : Nat) (v4 : Int) (v6 : List Bool)  : Option ((List Int)) :=
 xa N v4 N v6 ([] : List Int) 0
def xb (N : Nat) (v4 : Int) (v1 : al) (v6 : List Bool) (bD : Int) (cM : Int → (List Bool) → Option ((List Int))) : Option ((List Int)) :=
 bif (decide (bD < v4)) then (
 DJ N v1 bD v6 cM) else (
 zG N v4 v6)
def zH (N : Nat) (v4 : Int) (v1 : al)  : Nat → (List Bool) → Int → Option ((List Int))
 | 0, _, _ => none
 | n + 1, v6, bD => xb N v4 v1 v6 bD  (fun aq c8 => zH N v4 v1 n c8 aq)
def DM (N : Nat) (v1 : al)  : Option ((List Int)) :=
 gu (decide (0 ≤ (bt .i64 ((v1.ab.length : Int) + 1))) && decide ((bt .i64 ((v1.ab.length : Int) + 1)) ≤ 65536)) (
(ix (List.replicate (bt .i64 ((v1.ab.length : Int) + 1)).toNat false) 0).bind fun cK =>
 zH N (v1.ab.length : Int) v1 N ((List.replicate (bt .i64 ((v1.ab.length : Int) + 1)).toNat false).set (0 : Int).toNat true) 0)
def vR (N : Nat) (x0 : al) : Option ((List Int)) :=
(uj N x0).bind fun aM =>
 bif (!aM) then (
 some ([] : List Int)) else (
 DM N x0)
abbrev kX (c : Cx) (R : Value → W) (r : (List Int)) : Prop := ∀ (g' h' : AH) (w1 : Value), Sep c g' h' [] → ae (rI .i64) 1 g' w1 r → R w1 h'
theorem aax {w0 : World} {c : Cx} {g h : AH} {E R : Value → W} {r : (List Int)} {N : Nat} {bD : Int} {eP : al} {IV : List Bool} {zI : Nat} {uz uA aay : Value} {aaz : List (List Value)} {cW : Value → W} {cM : Int → (List Bool) → Option ((List Int))} {gn : AH} (M : DG N bD eP IV cM = some r) (S : Sep c g h [.bx zI [(.string eP.aE), (.string eP.aG), (vi eP.fArgs), (vi eP.aC), (vi eP.aD), uz, uA], .sl 4 1 aay aaz]) (RP : ae ak.rep 4 g uz eP.ab) (RQ : ae aH.rep 3 g uA eP.aI) (ak8 : au (rB g) aaz IV) (gp : Sub gn g) (ik : ∀ {aq : Int} {c8 : List Bool} {iQ : List (List Value)} {g2 h2 : AH}, cM aq c8 = some r → Sub gn g2 → Sep c g2 h2 [.bx zI [(.string eP.aE), (.string eP.aG), (vi eP.fArgs), (vi eP.aC), (vi eP.aD), uz, uA], .sl 4 1 aay iQ] → au (rB g2) iQ c8 → cW (vi aq) h2) (H : kX c R r) : FC w0 E R (vi bD) cW h := by
 unfold FC
 unfold DG at M
 refine gE.2 ?_
 exact ik M gp S ak8
theorem aaA {w0 : World} {c : Cx} {g h : AH} {E R : Value → W} {r : (List Int)} {N : Nat} {bD : Int} {v6 : List Bool} {iq : Bool} {eP : al} {dz : Value} {dL : List (List Value)} {zI : Nat} {uz uA : Value} {cW : Value → W} {cM : Int → (List Bool) → Option ((List Int))} {gn : AH} (M : zD N bD v6 iq eP cM = some r) (S : Sep c g h [.sl 4 1 dz dL, .bx zI [(.string eP.aE), (.string eP.aG), (vi eP.fArgs), (vi eP.aC), (vi eP.aD), uz, uA]]) (eI : au (rB g) dL v6) (RP : ae ak.rep 4 g uz eP.ab) (RQ : ae aH.rep 3 g uA eP.aI) (gp : Sub gn g) (ik : ∀ {aq : Int} {c8 : List Bool} {iQ : List (List Value)} {g2 h2 : AH}, cM aq c8 = some r → Sub gn g2 → Sep c g2 h2 [.bx zI [(.string eP.aE), (.string eP.aG), (vi eP.fArgs), (vi eP.aC), (vi eP.aD), uz, uA], .sl 4 1 dz iQ] → au (rB g2) iQ c8 → cW (vi aq) h2) (H : kX c R r) : Lw w0 E R (vi bD) dz cW (.bool iq) h := by
 unfold Lw
 unfold zD at M
 refine bp (fun hc => ?_) (fun hc => ?_)
 · have M := aR hc M
   refine gE.2 ?_
   obtain ⟨ak6, ak9, M⟩ := bind_some M
   refine S.mE 0 rfl eI ak9 (fun aov aow vs ala alb rp => ?_)
   cases rp
   refine S.ua (j := 0) [(.bool true)] ala alb rfl rfl (aa rfl rfl) (by decide) (fun h S => ?_)
   have alc : au (rB g) (dL.set (bt .i64 (bD + 1)).toNat [(.bool true)]) (v6.set (bt .i64 (bD + 1)).toNat true) := au.set eI (show rB g [(.bool true)] true from rfl) (bt .i64 (bD + 1)).toNat
   have S : Sep _ g h [.sl 4 1 dz (dL.set (bt .i64 (bD + 1)).toNat [(.bool true)]), .bx zI [(.string eP.aE), (.string eP.aG), (vi eP.fArgs), (vi eP.aC), (vi eP.aD), uz, uA]] := S
   have S := S.f1
   exact aax M S RP RQ alc gp ik H
 · have M := aS hc M
   have S := S.f1
   exact aax M S RP RQ eI gp ik H
theorem aaB {w0 : World} {c : Cx} {g h : AH} {E R : Value → W} {r : (List Int)} {N : Nat} {v1 : al} {bD : Int} {v6 : List Bool} {fU : Bool} {ah : Nat} {av aw dz : Value} {dL : List (List Value)} {cW : Value → W} {cM : Int → (List Bool) → Option ((List Int))} {gn : AH} (M : DH N v1 bD v6 fU cM = some r) (S : Sep c g h [.bx ah [(.string v1.aE), (.string v1.aG), (vi v1.fArgs), (vi v1.aC), (vi v1.aD), av, aw], .sl 4 1 dz dL]) (aA : ae ak.rep 4 g av v1.ab) (aB : ae aH.rep 3 g aw v1.aI) (eI : au (rB g) dL v6) (gp : Sub gn g) (ik : ∀ {aq : Int} {c8 : List Bool} {iQ : List (List Value)} {g2 h2 : AH}, cM aq c8 = some r → Sub gn g2 → Sep c g2 h2 [.bx ah [(.string v1.aE), (.string v1.aG), (vi v1.fArgs), (vi v1.aC), (vi v1.aD), av, aw], .sl 4 1 dz iQ] → au (rB g2) iQ c8 → cW (vi aq) h2) (H : kX c R r) : Lx w0 E R (az ah 0) (vi bD) dz cW (.bool fU) h := by
 unfold Lx
 unfold DH at M
 cases hc : fU
 · have M := aS hc M
   refine ax rfl ?_
   refine bg.2 ?_
   refine ax rfl ?_
   refine S.aX 0 rfl rfl ?_
   refine ax rfl ?_
   refine ax rfl ?_
   obtain ⟨aat, ald, M⟩ := bind_some M
   refine ae.idx aA ald (fun aox aoy vs aoz ale rp => ?_)
   cases rp
   refine ax rfl ?_
   refine bg.2 ?_
   refine ax rfl ?_
   refine S.fQ (ale 0 _ rfl) ?_
   refine ax rfl ?_
   refine cI.2 ?_
   refine bf.2 ?_
   have S := S.f1
   exact aaA M S eI aA aB gp ik H
 · have M := aR hc M
   refine ay (by decide) ?_
   refine ay (by decide) ?_
   refine ay (by decide) ?_
   refine ay (by decide) ?_
   refine ay (by decide) ?_
   refine ay (by decide) ?_
   refine ay (by decide) ?_
   refine bf.2 ?_
   have S := S.f1
   exact aaA M S eI aA aB gp ik H
theorem aaC {w0 : World} {c : Cx} {g h : AH} {E R : Value → W} {r : (List Int)} {N : Nat} {v1 : al} {bD : Int} {v6 : List Bool} {ah : Nat} {av aw dz : Value} {dL : List (List Value)} {cW : Value → W} {cM : Int → (List Bool) → Option ((List Int))} {gn : AH} (M : zE N v1 bD v6 cM = some r) (S : Sep c g h [.bx ah [(.string v1.aE), (.string v1.aG), (vi v1.fArgs), (vi v1.aC), (vi v1.aD), av, aw], .sl 4 1 dz dL]) (aA : ae ak.rep 4 g av v1.ab) (aB : ae aH.rep 3 g aw v1.aI) (eI : au (rB g) dL v6) (gp : Sub gn g) (ik : ∀ {aq : Int} {c8 : List Bool} {iQ : List (List Value)} {g2 h2 : AH}, cM aq c8 = some r → Sub gn g2 → Sep c g2 h2 [.bx ah [(.string v1.aE), (.string v1.aG), (vi v1.fArgs), (vi v1.aC), (vi v1.aD), av, aw], .sl 4 1 dz iQ] → au (rB g2) iQ c8 → cW (vi aq) h2) (H : kX c R r) : FD w0 E R (az ah 0) (vi bD) dz cW h := by
 unfold FD
 unfold zE at M
 refine bg.2 ?_
 refine S.aX 0 rfl rfl ?_
 obtain ⟨aau, alf, M⟩ := bind_some M
 refine ae.idx aA alf (fun aoA aoB vs aoC alg rp => ?_)
 cases rp
 refine S.nA alg rfl (by decide) ?_
 obtain ⟨RN, alh, M⟩ := bind_some M
 refine Z1 alh S.sub S.ok (fun _ h  S1  => ?_)
 have S := S.bY S1
 cases hc : RN
 · have M := aS hc M
   refine ax rfl ?_
   refine bg.2 ?_
   refine ax rfl ?_
   refine S.aX 0 rfl rfl ?_
   refine ax rfl ?_
   refine ax rfl ?_
   obtain ⟨aav, ali, M⟩ := bind_some M
   refine ae.idx aA ali (fun aoD aoE vs aoF alj rp => ?_)
   cases rp
   refine ax rfl ?_
   refine bg.2 ?_
   refine ax rfl ?_
   refine S.fQ (alj 0 _ rfl) ?_
   refine ax rfl ?_
   refine cI.2 ?_
   refine bf.2 ?_
   exact aaB M S aA aB eI gp ik H
 · have M := aR hc M
   refine ay (by decide) ?_
   refine ay (by decide) ?_
   refine ay (by decide) ?_
   refine ay (by decide) ?_
   refine ay (by decide) ?_
   refine ay (by decide) ?_
   refine ay (by decide) ?_
   refine bf.2 ?_
   exact aaB M S aA aB eI gp ik H
theorem aaD {w0 : World} {c : Cx} {g h : AH} {E R : Value → W} {r : (List Int)} {N : Nat} {v1 : al} {v31 : Int} {v6 : List Bool} {bD : Int} {mg : Bool} {ah : Nat} {av aw dz : Value} {dL : List (List Value)} {cW : Value → W} {cM : Int → (List Bool) → Option ((List Int))} {gn : AH} (M : DI N v1 v31 v6 bD mg cM = some r) (S : Sep c g h [.bx ah [(.string v1.aE), (.string v1.aG), (vi v1.fArgs), (vi v1.aC), (vi v1.aD), av, aw], .sl 4 1 dz dL]) (aA : ae ak.rep 4 g av v1.ab) (aB : ae aH.rep 3 g aw v1.aI) (eI : au (rB g) dL v6) (gp : Sub gn g) (ik : ∀ {aq : Int} {c8 : List Bool} {iQ : List (List Value)} {g2 h2 : AH}, cM aq c8 = some r → Sub gn g2 → Sep c g2 h2 [.bx ah [(.string v1.aE), (.string v1.aG), (vi v1.fArgs), (vi v1.aC), (vi v1.aD), av, aw], .sl 4 1 dz iQ] → au (rB g2) iQ c8 → cW (vi aq) h2) (H : kX c R r) : Ly w0 E R (az ah 0) (vi v31) dz (vi bD) cW (.bool mg) h := by
 unfold Ly
 unfold DI at M
 refine bp (fun hc => ?_) (fun hc => ?_)
 · have M := aR hc M
   refine bg.2 ?_
   refine S.aX 0 rfl rfl ?_
   obtain ⟨w8, alk, M⟩ := bind_some M
   refine ae.idx aB alk (fun aoG aoH vs aoI alm rp => ?_)
   cases rp
   refine bg.2 ?_
   refine S.fQ (alm 2 _ rfl) ?_
   obtain ⟨H8, PW, M⟩ := bind_some M
   refine S.mE 1 rfl eI PW (fun aoJ aoK vs aln alo rp => ?_)
   cases rp
   have S := S.f1
   refine S.ua (j := 0) [(.bool true)] aln alo rfl rfl (aa rfl rfl) (by decide) (fun h S => ?_)
   have alp : au (rB g) (dL.set w8.dJ.toNat [(.bool true)]) (v6.set w8.dJ.toNat true) := au.set eI (show rB g [(.bool true)] true from rfl) w8.dJ.toNat
   have S : Sep _ g h [.sl 4 1 dz (dL.set w8.dJ.toNat [(.bool true)]), .bx ah [(.string v1.aE), (.string v1.aG), (vi v1.fArgs), (vi v1.aC), (vi v1.aD), av, aw]] := S
   have S := S.f1
   exact aaC M S aA aB alp gp ik H
 · have M := aS hc M
   exact aaC M S aA aB eI gp ik H
theorem aaE {w0 : World} {c : Cx} {g h : AH} {E R : Value → W} {r : (List Int)} {N : Nat} {v1 : al} {bD : Int} {v6 : List Bool} {ah : Nat} {av aw dz : Value} {dL : List (List Value)} {cW : Value → W} {cM : Int → (List Bool) → Option ((List Int))} {gn : AH} (M : zF N v1 bD v6 cM = some r) (S : Sep c g h [.bx ah [(.string v1.aE), (.string v1.aG), (vi v1.fArgs), (vi v1.aC), (vi v1.aD), av, aw], .sl 4 1 dz dL]) (aA : ae ak.rep 4 g av v1.ab) (aB : ae aH.rep 3 g aw v1.aI) (eI : au (rB g) dL v6) (gp : Sub gn g) (ik : ∀ {aq : Int} {c8 : List Bool} {iQ : List (List Value)} {g2 h2 : AH}, cM aq c8 = some r → Sub gn g2 → Sep c g2 h2 [.bx ah [(.string v1.aE), (.string v1.aG), (vi v1.fArgs), (vi v1.aC), (vi v1.aD), av, aw], .sl 4 1 dz iQ] → au (rB g2) iQ c8 → cW (vi aq) h2) (H : kX c R r) : FE w0 E R (az ah 0) (vi bD) dz cW h := by
 unfold FE
 unfold zF at M
 refine S.bV [(.string v1.aE), (.string v1.aG), (vi v1.fArgs), (vi v1.aC), (vi v1.aD), av, aw] 0 rfl rfl rfl (by decide) ?_
 obtain ⟨IW, alq, M⟩ := bind_some M
 refine Rs alq S.sub S.ok aA aB (fun _ h  S1  => ?_)
 have S := S.bY S1
 refine bg.2 ?_
 refine S.aX 0 rfl rfl ?_
 obtain ⟨gO, Co, M⟩ := bind_some M
 refine ae.idx aA Co (fun ZO aoL vs aoM alr rp => ?_)
 cases rp
 refine S.nA alr rfl (by decide) ?_
 obtain ⟨yR, PU, M⟩ := bind_some M
 refine Z6 PU S.sub S.ok (fun _ h  S1  => ?_)
 have S := S.bY S1
 cases hc : yR
 · have M := aS hc M
   refine ay (by decide) ?_
   refine ay (by decide) ?_
   refine bf.2 ?_
   exact aaD M S aA aB eI gp ik H
 · have M := aR hc M
   refine ax rfl ?_
   refine ax rfl ?_
   refine oV.2 ?_
   refine bf.2 ?_
   exact aaD M S aA aB eI gp ik H
theorem als {w0 : World} {c : Cx} {g h : AH} {E R : Value → W} {r : (List Int)} {N : Nat} {v1 : al} {bD : Int} {v6 : List Bool} {ah : Nat} {av aw dz : Value} {dL : List (List Value)} {cW : Value → W} {cM : Int → (List Bool) → Option ((List Int))} {gn : AH} (M : DJ N v1 bD v6 cM = some r) (S : Sep c g h [.bx ah [(.string v1.aE), (.string v1.aG), (vi v1.fArgs), (vi v1.aC), (vi v1.aD), av, aw], .sl 4 1 dz dL]) (aA : ae ak.rep 4 g av v1.ab) (aB : ae aH.rep 3 g aw v1.aI) (eI : au (rB g) dL v6) (gp : Sub gn g) (ik : ∀ {aq : Int} {c8 : List Bool} {iQ : List (List Value)} {g2 h2 : AH}, cM aq c8 = some r → Sub gn g2 → Sep c g2 h2 [.bx ah [(.string v1.aE), (.string v1.aG), (vi v1.fArgs), (vi v1.aC), (vi v1.aD), av, aw], .sl 4 1 dz iQ] → au (rB g2) iQ c8 → cW (vi aq) h2) (H : kX c R r) : Lz w0 E R (az ah 0) (vi bD) dz cW h := by
 unfold Lz
 unfold DJ at M
 refine bg.2 ?_
 refine S.aX 0 rfl rfl ?_
 obtain ⟨iP, CZ, M⟩ := bind_some M
 refine ae.idx aA CZ (fun zl akV vs aoN alu rp => ?_)
 cases rp
 refine S.nA alu rfl (by decide) ?_
 obtain ⟨lD, wC, M⟩ := bind_some M
 refine QP wC S.sub S.ok (fun _ h  S1  => ?_)
 have S := S.bY S1
 refine (fH rfl).2 ?_
 refine (fH rfl).2 ?_
 refine bp (fun hc => ?_) (fun hc => ?_)
 · have M := aR hc M
   obtain ⟨ak7, alv, M⟩ := bind_some M
   refine S.mE 1 rfl eI alv (fun RR aoO vs alw alx rp => ?_)
   cases rp
   have S := S.f1
   refine S.ua (j := 0) [(.bool true)] alw alx rfl rfl (aa rfl rfl) (by decide) (fun h S => ?_)
   have DN : au (rB g) (dL.set lD.1.toNat [(.bool true)]) (v6.set lD.1.toNat true) := au.set eI (show rB g [(.bool true)] true from rfl) lD.1.toNat
   have S : Sep _ g h [.sl 4 1 dz (dL.set lD.1.toNat [(.bool true)]), .bx ah [(.string v1.aE), (.string v1.aG), (vi v1.fArgs), (vi v1.aC), (vi v1.aD), av, aw]] := S
   have S := S.f1
   exact aaE M S aA aB DN gp ik H
 · have M := aS hc M
   exact aaE M S aA aB eI gp ik H
theorem aaF {w0 : World} {c : Cx} {g h : AH} {E R : Value → W} {r : (List Int)} {N : Nat} {aT : Int} {aV : List Int} {gW : List Bool} {eM : Value} {ey : List (List Value)} {DD : Value} {DE : List (List Value)} {cm : Value → Value → W} {cd : (List Int) → Int → (List Bool) → Option ((List Int))} {eA : AH} (M : DK N aT aV gW cd = some r) (S : Sep c g h [.sl 3 1 eM ey, .sl 4 1 DD DE]) (fj : au ((rI .i64) g) ey aV) (RB : au (rB g) DE gW) (fk : Sub eA g) (gm : ∀ {aq : List Int} {dO : Value} {dP : List (List Value)} {bn : Int} {cf : List Bool} {cT : List (List Value)} {g2 h2 : AH}, cd aq bn cf = some r → Sub eA g2 → Sep c g2 h2 [.sl 4 1 DD cT, .sl 3 1 dO dP] → au ((rI .i64) g2) dP aq → au (rB g2) cT cf → cm dO (vi bn) h2) (H : kX c R r) : FA w0 E R (vi aT) cm eM h := by
 unfold FA
 unfold DK at M
 refine gE.2 ?_
 have S := S.f1
 exact gm M fk S fj RB
theorem aly {w0 : World} {c : Cx} {g h : AH} {E R : Value → W} {r : (List Int)} {N : Nat} {v6 : List Bool} {aT : Int} {bz : List Int} {dz : Value} {dL : List (List Value)} {iE : Value} {gX : List (List Value)} {cm : Value → Value → W} {cd : (List Int) → Int → (List Bool) → Option ((List Int))} {eA : AH} (M : IX N v6 aT bz cd = some r) (S : Sep c g h [.sl 4 1 dz dL, .sl 3 1 iE gX]) (eI : au (rB g) dL v6) (iF : au ((rI .i64) g) gX bz) (fk : Sub eA g) (gm : ∀ {aq : List Int} {dO : Value} {dP : List (List Value)} {bn : Int} {cf : List Bool} {cT : List (List Value)} {g2 h2 : AH}, cd aq bn cf = some r → Sub eA g2 → Sep c g2 h2 [.sl 4 1 dz cT, .sl 3 1 dO dP] → au ((rI .i64) g2) dP aq → au (rB g2) cT cf → cm dO (vi bn) h2) (H : kX c R r) : Lu w0 E R dz (vi aT) iE cm h := by
 unfold Lu
 unfold IX at M
 obtain ⟨aaw, alz, M⟩ := bind_some M
 refine S.mE 0 rfl eI alz (fun aoP aoQ vs alA alB rp => ?_)
 cases rp
 refine S.yY (j := 0) 0 rfl alA alB rfl ?_
 refine bp (fun hc => ?_) (fun hc => ?_)
 · have M := aR hc M
   refine S.qA [[(vi aT)]] (cL (m := [(vi aT)]) (l2 := [(vi aT)]) rfl rfl (Nat.le_of_ble_eq_true rfl) rfl rfl) rfl (by decide) (qC rfl qB) (aa rfl rfl) (fun aoR h S => ?_)
   have RS : au ((rI .i64) g) [[(vi aT)]] [aT] := (au.push au.nil (show (rI .i64) g [(vi aT)] aT from rfl))
   have S := S.f2
   obtain ⟨alC, M⟩ := mD M
   refine S.app (S.rd 1 rfl) (by rw [iF.1, RS.1]; exact alC) (by decide) rfl (kA (kz .i64) RS) (kA (kz .i64) iF) (fun aoS h S => ?_)
   have alD : au ((rI .i64) g) (gX ++ [[(vi aT)]]) (bz ++ [aT]) := au.append iF RS
   have S := S.f2
   have S := S.f1
   have S := S.t2
   exact aaF M S alD eI fk gm H
 · have M := aS hc M
   have S := S.f1
   exact aaF M S iF eI fk gm H
theorem alE {w0 : World} {c : Cx} {g h : AH} {E R : Value → W} {r : (List Int)} {N : Nat} {y9 : List Int} {lZ : Value} {o7 : List (List Value)}  (M : RO N y9 = some r) (S : Sep c g h [.sl 3 1 lZ o7]) (wx : au ((rI .i64) g) o7 y9)  (H : kX c R r) : Lt w0 E R lZ h := by
 unfold Lt
 unfold RO at M
 obtain ⟨g, sg, S, alF⟩ := S.fz wx (ig .i64)
 cases M
 exact H _ _ lZ S.bj alF
theorem alG {w0 : World} {c : Cx} {g h : AH} {E R : Value → W} {r : (List Int)} {N : Nat} {v4 : Int} {v6 : List Bool} {bz : List Int} {aT : Int} {dz : Value} {dL : List (List Value)} {iE : Value} {gX : List (List Value)} {cm : Value → Value → W} {cd : (List Int) → Int → (List Bool) → Option ((List Int))} {eA : AH} (M : w9 N v4 v6 bz aT cd = some r) (S : Sep c g h [.sl 4 1 dz dL, .sl 3 1 iE gX]) (eI : au (rB g) dL v6) (iF : au ((rI .i64) g) gX bz) (fk : Sub eA g) (gm : ∀ {aq : List Int} {dO : Value} {dP : List (List Value)} {bn : Int} {cf : List Bool} {cT : List (List Value)} {g2 h2 : AH}, cd aq bn cf = some r → Sub eA g2 → Sep c g2 h2 [.sl 4 1 dz cT, .sl 3 1 dO dP] → au ((rI .i64) g2) dP aq → au (rB g2) cT cf → cm dO (vi bn) h2) (H : kX c R r) : FB w0 E R (vi v4) dz cm iE (vi aT) h := by
 unfold FB
 unfold w9 at M
 refine fW.2 ?_
 refine bp (fun hc => ?_) (fun hc => ?_)
 · have M := aR hc M
   exact aly M S eI iF fk gm H
 · have M := aS hc M
   have S := S.f1
   have S := S.t1
   exact alE M S iF H
theorem alH {w0 : World} {c : Cx} {E R : Value → W} {r : (List Int)} {N : Nat} {v4 : Int} {dz : Value}   (H : kX c R r) : ∀ (n : Nat) {v6 : List Bool} {bz : List Int} {aT : Int} {dL : List (List Value)} {iE : Value} {gX : List (List Value)} {g h : AH}, xa N v4 n v6 bz aT = some r → Sep c g h [.sl 4 1 dz dL, .sl 3 1 iE gX] → au (rB g) dL v6 → au ((rI .i64) g) gX bz → gG (α := Value × Value) (fun k a => FB w0 E R (vi v4) dz (fun b0 b1 => k (b0, b1)) a.1 a.2) n (iE, (vi aT)) h := by
 intro n
 induction n with
 | zero =>
  intro v6 bz aT dL iE gX g h M S eI iF
  unfold xa at M; cases M
 | succ n ih =>
  intro v6 bz aT dL iE gX g h M S eI iF
  exact alG M S eI iF  (Sub.refl g) (fun M2 sub S2 wy sw => ih M2 S2 sw wy ) H
theorem alI {w0 : World} {c : Cx} {g h : AH} {E R : Value → W} {r : (List Int)} {N : Nat} {v4 : Int} {v6 : List Bool} {dz : Value} {dL : List (List Value)}  (M : zG N v4 v6 = some r) (S : Sep c g h [.sl 4 1 dz dL]) (eI : au (rB g) dL v6)  (H : kX c R r) : Lv w0 E R (vi v4) dz h := by
 unfold Lv
 unfold zG at M
 have S := S.tZ 3 1
 have S := S.f1
 exact ⟨N, alH  H _ M S eI (au.nil (R := (rI .i64) g)) ⟩
theorem alJ {w0 : World} {c : Cx} {g h : AH} {E R : Value → W} {r : (List Int)} {N : Nat} {v4 : Int} {v1 : al} {v6 : List Bool} {bD : Int} {ah : Nat} {av aw dz : Value} {dL : List (List Value)} {cW : Value → W} {cM : Int → (List Bool) → Option ((List Int))} {gn : AH} (M : xb N v4 v1 v6 bD cM = some r) (S : Sep c g h [.bx ah [(.string v1.aE), (.string v1.aG), (vi v1.fArgs), (vi v1.aC), (vi v1.aD), av, aw], .sl 4 1 dz dL]) (aA : ae ak.rep 4 g av v1.ab) (aB : ae aH.rep 3 g aw v1.aI) (eI : au (rB g) dL v6) (gp : Sub gn g) (ik : ∀ {aq : Int} {c8 : List Bool} {iQ : List (List Value)} {g2 h2 : AH}, cM aq c8 = some r → Sub gn g2 → Sep c g2 h2 [.bx ah [(.string v1.aE), (.string v1.aG), (vi v1.fArgs), (vi v1.aC), (vi v1.aD), av, aw], .sl 4 1 dz iQ] → au (rB g2) iQ c8 → cW (vi aq) h2) (H : kX c R r) : FF w0 E R (vi v4) (az ah 0) dz cW (vi bD) h := by
 unfold FF
 unfold xb at M
 refine fW.2 ?_
 refine bp (fun hc => ?_) (fun hc => ?_)
 · have M := aR hc M
   exact als M S aA aB eI gp ik H
 · have M := aS hc M
   have S := S.f1
   have S := S.t1
   exact alI M S eI H
theorem alK {w0 : World} {c : Cx} {E R : Value → W} {r : (List Int)} {N : Nat} {v4 : Int} {v1 : al} {ah : Nat} {av aw dz : Value}   (H : kX c R r) : ∀ (n : Nat) {v6 : List Bool} {bD : Int} {dL : List (List Value)} {g h : AH}, zH N v4 v1 n v6 bD = some r → Sep c g h [.bx ah [(.string v1.aE), (.string v1.aG), (vi v1.fArgs), (vi v1.aC), (vi v1.aD), av, aw], .sl 4 1 dz dL] → ae ak.rep 4 g av v1.ab → ae aH.rep 3 g aw v1.aI → au (rB g) dL v6 → gG (α := Value) (fun k a => FF w0 E R (vi v4) (az ah 0) dz k a) n (vi bD) h := by
 intro n
 induction n with
 | zero =>
  intro v6 bD dL g h M S aA aB eI
  unfold zH at M; cases M
 | succ n ih =>
  intro v6 bD dL g h M S aA aB eI
  exact alJ M S aA aB eI  (Sub.refl g) (fun M2 sub S2 RT => ih M2 S2 (ae.mono aA ak.mono sub) (ae.mono aB aH.mono sub) RT ) H
theorem alL {w0 : World} {c : Cx} {g h : AH} {E R : Value → W} {r : (List Int)} {N : Nat} {v1 : al} {ah : Nat} {av aw : Value}  (M : DM N v1 = some r) (S : Sep c g h [.bx ah [(.string v1.aE), (.string v1.aG), (vi v1.fArgs), (vi v1.aC), (vi v1.aD), av, aw]]) (aA : ae ak.rep 4 g av v1.ab) (aB : ae aH.rep 3 g aw v1.aI)  (H : kX c R r) : LA w0 E R (az ah 0) h := by
 unfold LA
 unfold DM at M
 refine bg.2 ?_
 refine S.aX 0 rfl rfl ?_
 refine aA.len ?_
 refine gE.2 ?_
 obtain ⟨DF, M⟩ := mD M
 refine S.Qh DF rfl (aa rfl rfl) (fun su h S => ?_)
 have qI : au (rB g) (List.replicate (bt .i64 ((v1.ab.length : Int) + 1)).toNat [(.bool false)]) (List.replicate (bt .i64 ((v1.ab.length : Int) + 1)).toNat false) := au.P3 (show rB g [(.bool false)] false from rfl) _
 obtain ⟨cK, gH, M⟩ := bind_some M
 refine S.mE 0 rfl qI gH (fun IF Q4 vs RK RL rp => ?_)
 cases rp
 refine S.ua (j := 0) [(.bool true)] RK RL rfl rfl (aa rfl rfl) (by decide) (fun h S => ?_)
 have RM : au (rB g) ((List.replicate (bt .i64 ((v1.ab.length : Int) + 1)).toNat [(.bool false)]).set (0 : Int).toNat [(.bool true)]) ((List.replicate (bt .i64 ((v1.ab.length : Int) + 1)).toNat false).set (0 : Int).toNat true) := au.set qI (show rB g [(.bool true)] true from rfl) (0 : Int).toNat
 have S : Sep _ g h [.sl 4 1 su ((List.replicate (bt .i64 ((v1.ab.length : Int) + 1)).toNat [(.bool false)]).set (0 : Int).toNat [(.bool true)]), .bx ah [(.string v1.aE), (.string v1.aG), (vi v1.fArgs), (vi v1.aC), (vi v1.aD), av, aw]] := S
 have S := S.f1
 exact ⟨N, alK  H _ M S aA aB RM ⟩
theorem aip {w0 : World} {g h : AH} {Q : CR → AH → Prop} {r : (List Int)} {N : Nat} {x0 : al} {bN bO : Value} (M : vR N x0 = some r) (sg : Sub g h) (ok : h.Ok) (bL : ae ak.rep 4 g bN x0.ab) (bS : ae aH.rep 3 g bO x0.aI) (H : kX ⟨g, h, []⟩ (fun v => Q (.ret v)) r) : WF PP w0 LB [(.agg ⟨[(.string x0.aE), (.string x0.aG), (vi x0.fArgs), (vi x0.aC), (vi x0.aD), bN, bO]⟩)] h Q := by
 refine ac3 _ ?_
 have S := Sep.start sg ok
 unfold TV
 unfold vR at M
 refine S.box [(.string x0.aE), (.string x0.aG), (vi x0.fArgs), (vi x0.aC), (vi x0.aD), bN, bO] rfl (aa rfl (aa rfl (aa rfl (aa rfl (aa rfl (aa bL.one (aa bS.one rfl))))))) (fun fX h S => ?_)
 refine S.bV [(.string x0.aE), (.string x0.aG), (vi x0.fArgs), (vi x0.aC), (vi x0.aD), bN, bO] 0 rfl rfl rfl (by decide) ?_
 obtain ⟨aM, eG, M⟩ := bind_some M
 refine IB eG S.sub S.ok bL bS (fun _ h  S1  => ?_)
 have S := S.bY S1
 refine ec.2 ?_
 refine bp (fun hc => ?_) (fun hc => ?_)
 · have M := aR hc M
   cases M
   exact H _ _ cH S.bj ae.nil
 · have M := aS hc M
   exact alL M S bL bS H
def IY (N : Nat) (y2 : Int) (gj : Int → Option Bool) : Option Bool :=
 gj (bt .i64 (y2 + 1))
def IZ (N : Nat) (x0 : List Bool) (y2 : Int) (x1 : List Bool) (gj : Int → Option Bool) : Option Bool :=
(ix x0 y2).bind fun eW =>
(ix x1 y2).bind fun cK =>
 bif (eW != cK) then (
 some false) else (
 IY N y2 gj)
def RU (N : Nat)   : Option Bool :=
 some true
def xc (N : Nat) (x0 : List Bool) (x1 : List Bool) (y2 : Int) (gj : Int → Option Bool) : Option Bool :=
 bif (decide (y2 < (x0.length : Int))) then (
 IZ N x0 y2 x1 gj) else (
 RU N )
def DO (N : Nat) (x0 : List Bool) (x1 : List Bool)  : Nat → Int → Option Bool
 | 0, _ => none
 | n + 1, y2 => xc N x0 x1 y2  (fun aq => DO N x0 x1 n aq)
def I3 (N : Nat) (x0 : List Bool) (x1 : List Bool)  : Option Bool :=
 DO N x0 x1 N 0
def Ci (N : Nat) (x0 : List Bool) (x1 : List Bool) : Option Bool :=
 bif (!decide ((x0.length : Int) = (x1.length : Int))) then (
 some false) else (
 I3 N x0 x1)
abbrev xd (c : Cx) (R : Value → W) (r : Bool) : Prop := ∀ (g' h' : AH), Sep c g' h' [] → R (.bool r) h'
theorem alM {w0 : World} {c : Cx} {g h : AH} {E R : Value → W} {r : Bool} {N : Nat} {y2 : Int} {k1 : Value → W} {gj : Int → Option Bool} {kU : AH} (M : IY N y2 gj = some r) (S : Sep c g h [])  (po : Sub kU g) (pq : ∀ {aq : Int} {g2 h2 : AH}, gj aq = some r → Sub kU g2 → Sep c g2 h2 [] → k1 (vi aq) h2) (H : xd c R r) : Lp w0 E R (vi y2) k1 h := by
 unfold Lp
 unfold IY at M
 refine gE.2 ?_
 exact pq M po S
theorem alN {w0 : World} {c : Cx} {g h : AH} {E R : Value → W} {r : Bool} {N : Nat} {x0 : List Bool} {y2 : Int} {x1 : List Bool} {bw cr : Value} {k1 : Value → W} {gj : Int → Option Bool} {kU : AH} (M : IZ N x0 y2 x1 gj = some r) (S : Sep c g h []) (cb : ae rB 1 g bw x0) (cS : ae rB 1 g cr x1) (po : Sub kU g) (pq : ∀ {aq : Int} {g2 h2 : AH}, gj aq = some r → Sub kU g2 → Sep c g2 h2 [] → k1 (vi aq) h2) (H : xd c R r) : Lq w0 E R bw (vi y2) cr k1 h := by
 unfold Lq
 unfold IZ at M
 obtain ⟨eW, j5, M⟩ := bind_some M
 refine ae.idx cb j5 (fun wz CB vs Ir sf rp => ?_)
 cases rp
 refine S.fQ (sf 0 _ rfl) ?_
 obtain ⟨cK, gH, M⟩ := bind_some M
 refine ae.idx cS gH (fun IF Q4 vs ajZ Q5 rp => ?_)
 cases rp
 refine S.fQ (Q5 0 _ rfl) ?_
 refine Hd.2 ?_
 refine bp (fun hc => ?_) (fun hc => ?_)
 · have M := aR hc M
   cases M
   exact H _ _  S.bj
 · have M := aS hc M
   exact alM M S po pq H
theorem alO {w0 : World} {c : Cx} {g h : AH} {E R : Value → W} {r : Bool} {N : Nat}   (M : RU N  = some r) (S : Sep c g h [])   (H : xd c R r) : Lo w0 E R  h := by
 unfold Lo
 unfold RU at M
 cases M
 exact H _ _  S.bj
theorem alP {w0 : World} {c : Cx} {g h : AH} {E R : Value → W} {r : Bool} {N : Nat} {x0 x1 : List Bool} {y2 : Int} {bw cr : Value} {k1 : Value → W} {gj : Int → Option Bool} {kU : AH} (M : xc N x0 x1 y2 gj = some r) (S : Sep c g h []) (cb : ae rB 1 g bw x0) (cS : ae rB 1 g cr x1) (po : Sub kU g) (pq : ∀ {aq : Int} {g2 h2 : AH}, gj aq = some r → Sub kU g2 → Sep c g2 h2 [] → k1 (vi aq) h2) (H : xd c R r) : Fz w0 E R bw cr k1 (vi y2) h := by
 unfold Fz
 unfold xc at M
 refine cb.len ?_
 refine fW.2 ?_
 refine bp (fun hc => ?_) (fun hc => ?_)
 · have M := aR hc M
   exact alN M S cb cS po pq H
 · have M := aS hc M
   exact alO M S  H
theorem alQ {w0 : World} {c : Cx} {E R : Value → W} {r : Bool} {N : Nat} {x0 x1 : List Bool} {bw cr : Value}   (H : xd c R r) : ∀ (n : Nat) {y2 : Int} {g h : AH}, DO N x0 x1 n y2 = some r → Sep c g h [] → ae rB 1 g bw x0 → ae rB 1 g cr x1 → gG (α := Value) (fun k a => Fz w0 E R bw cr k a) n (vi y2) h := by
 intro n
 induction n with
 | zero =>
  intro y2  g h M S cb cS
  unfold DO at M; cases M
 | succ n ih =>
  intro y2  g h M S cb cS
  exact alP M S cb cS  (Sub.refl g) (fun M2 sub S2  => ih M2 S2 (ae.mono cb qz sub) (ae.mono cS qz sub) ) H
theorem alR {w0 : World} {c : Cx} {g h : AH} {E R : Value → W} {r : Bool} {N : Nat} {x0 x1 : List Bool} {bw cr : Value}  (M : I3 N x0 x1 = some r) (S : Sep c g h []) (cb : ae rB 1 g bw x0) (cS : ae rB 1 g cr x1)  (H : xd c R r) : Lr w0 E R bw cr h := by
 unfold Lr
 unfold I3 at M
 exact ⟨N, alQ  H _ M S cb cS ⟩
theorem aiv {w0 : World} {g h : AH} {Q : CR → AH → Prop} {r : Bool} {N : Nat} {x0 x1 : List Bool} {bw cr : Value} (M : Ci N x0 x1 = some r) (sg : Sub g h) (ok : h.Ok) (cb : ae rB 1 g bw x0) (cS : ae rB 1 g cr x1) (H : xd ⟨g, h, []⟩ (fun v => Q (.ret v)) r) : WF PP w0 Ls [bw, cr] h Q := by
 refine ac2 _ _ ?_
 have S := Sep.start sg ok
 unfold TU
 unfold Ci at M
 refine cb.len ?_
 refine cS.len ?_
 refine tx.2 ?_
 refine bp (fun hc => ?_) (fun hc => ?_)
 · have M := aR hc M
   cases M
   exact H _ _  S.bj
 · have M := aS hc M
   exact alR M S cb cS H
def I4 (N : Nat) (v1 : al) (x1 : Int)  : Option Int :=
(zr N v1 x1).bind fun pg =>
 some pg
def DP (N : Nat) (v1 : al) (x1 : Int) (bP : Bool)  : Option Int :=
 bif bP then (
 some (-1)) else (
 I4 N v1 x1)
def B8 (N : Nat) (x0 : al) (x1 : Int) : Option Int :=
(ud N x0).bind fun aM =>
 bif (!aM) then (
 DP N x0 x1 true) else (
(o6 x1 0 (bt .i64 ((x0.ab.length : Int) - 1))).bind fun mG =>
 DP N x0 x1 (!mG))
abbrev RV (c : Cx) (R : Value → W) (r : Int) : Prop := ∀ (g' h' : AH), Sep c g' h' [] → R (vi r) h'
theorem alS {w0 : World} {c : Cx} {g h : AH} {E R : Value → W} {r : Int} {N : Nat} {v1 : al} {x1 : Int} {ah : Nat} {av aw : Value}  (M : I4 N v1 x1 = some r) (S : Sep c g h [.bx ah [(.string v1.aE), (.string v1.aG), (vi v1.fArgs), (vi v1.aC), (vi v1.aD), av, aw]]) (aA : ae ak.rep 4 g av v1.ab) (aB : ae aH.rep 3 g aw v1.aI)  (H : RV c R r) : LC w0 E R (az ah 0) (vi x1) h := by
 unfold LC
 unfold I4 at M
 refine S.bV [(.string v1.aE), (.string v1.aG), (vi v1.fArgs), (vi v1.aC), (vi v1.aD), av, aw] 0 rfl rfl rfl (by decide) ?_
 obtain ⟨pg, wL, M⟩ := bind_some M
 refine ZT wL S.sub S.ok aA aB (fun _ h  S1  => ?_)
 have S := S.bY S1
 cases M
 exact H _ _  S.bj
theorem aaG {w0 : World} {c : Cx} {g h : AH} {E R : Value → W} {r : Int} {N : Nat} {v1 : al} {x1 : Int} {bP : Bool} {ah : Nat} {av aw : Value}  (M : DP N v1 x1 bP = some r) (S : Sep c g h [.bx ah [(.string v1.aE), (.string v1.aG), (vi v1.fArgs), (vi v1.aC), (vi v1.aD), av, aw]]) (aA : ae ak.rep 4 g av v1.ab) (aB : ae aH.rep 3 g aw v1.aI)  (H : RV c R r) : LD w0 E R (az ah 0) (vi x1) (.bool bP) h := by
 unfold LD
 unfold DP at M
 refine bp (fun hc => ?_) (fun hc => ?_)
 · have M := aR hc M
   cases M
   exact H _ _  S.bj
 · have M := aS hc M
   exact alS M S aA aB H
theorem aif {w0 : World} {g h : AH} {Q : CR → AH → Prop} {r : Int} {N : Nat} {x0 : al} {x1 : Int} {bN bO : Value} (M : B8 N x0 x1 = some r) (sg : Sub g h) (ok : h.Ok) (bL : ae ak.rep 4 g bN x0.ab) (bS : ae aH.rep 3 g bO x0.aI) (H : RV ⟨g, h, []⟩ (fun v => Q (.ret v)) r) : WF PP w0 LF [(.agg ⟨[(.string x0.aE), (.string x0.aG), (vi x0.fArgs), (vi x0.aC), (vi x0.aD), bN, bO]⟩), (vi x1)] h Q := by
 refine ac4 _ _ ?_
 have S := Sep.start sg ok
 unfold TW
 unfold B8 at M
 refine S.box [(.string x0.aE), (.string x0.aG), (vi x0.fArgs), (vi x0.aC), (vi x0.aD), bN, bO] rfl (aa rfl (aa rfl (aa rfl (aa rfl (aa rfl (aa bL.one (aa bS.one rfl))))))) (fun fX h S => ?_)
 refine S.bV [(.string x0.aE), (.string x0.aG), (vi x0.fArgs), (vi x0.aC), (vi x0.aD), bN, bO] 0 rfl rfl rfl (by decide) ?_
 obtain ⟨aM, eG, M⟩ := bind_some M
 refine Iu eG S.sub S.ok bL bS (fun _ h  S1  => ?_)
 have S := S.bY S1
 refine ec.2 ?_
 cases hc : (!aM)
 · have M := aS hc M
   refine ax rfl ?_
   refine ax rfl ?_
   refine bg.2 ?_
   refine ax rfl ?_
   refine S.aX 0 rfl rfl ?_
   refine ax rfl ?_
   refine bL.len ?_
   refine ax rfl ?_
   refine mA.2 ?_
   refine ax rfl ?_
   obtain ⟨mG, sn, M⟩ := bind_some M
   refine wm sn S.sub S.ok (fun _ h  S1  => ?_)
   have S := S.bY S1
   refine ax rfl ?_
   refine ec.2 ?_
   refine bf.2 ?_
   exact aaG M S bL bS H
 · have M := aR hc M
   refine ay (by decide) ?_
   refine ay (by decide) ?_
   refine ay (by decide) ?_
   refine ay (by decide) ?_
   refine ay (by decide) ?_
   refine ay (by decide) ?_
   refine ay (by decide) ?_
   refine bf.2 ?_
   exact aaG M S bL bS H
def I5 (N : Nat) (y3 : Int) (cq : Int → Option Int) : Option Int :=
 cq (bt .i64 (y3 + 1))
def DQ (N : Nat) (x0 : List Int) (y3 : Int) (x1 : Int) (cq : Int → Option Int) : Option Int :=
(ix x0 y3).bind fun eW =>
 bif (decide (x1 = eW)) then (
 some y3) else (
 I5 N y3 cq)
def I6 (N : Nat)   : Option Int :=
 some (-1)
def RW (N : Nat) (v1 : Int) (x0 : List Int) (x1 : Int) (y3 : Int) (cq : Int → Option Int) : Option Int :=
 bif (decide (y3 < v1)) then (
 DQ N x0 y3 x1 cq) else (
 I6 N )
def DT (N : Nat) (v1 : Int) (x0 : List Int) (x1 : Int)  : Nat → Int → Option Int
 | 0, _ => none
 | n + 1, y3 => RW N v1 x0 x1 y3  (fun aq => DT N v1 x0 x1 n aq)
def DU (N : Nat) (x0 : List Int) (x1 : Int) : Option Int :=
 DT N (x0.length : Int) x0 x1 N 0
abbrev zJ (c : Cx) (R : Value → W) (r : Int) : Prop := ∀ (g' h' : AH), Sep c g' h' [] → R (vi r) h'
theorem alT {w0 : World} {c : Cx} {g h : AH} {E R : Value → W} {r : Int} {N : Nat} {y3 : Int} {k2 : Value → W} {cq : Int → Option Int} {ez : AH} (M : I5 N y3 cq = some r) (S : Sep c g h [])  (gU : Sub ez g) (gV : ∀ {aq : Int} {g2 h2 : AH}, cq aq = some r → Sub ez g2 → Sep c g2 h2 [] → k2 (vi aq) h2) (H : zJ c R r) : JZ w0 E R (vi y3) k2 h := by
 unfold JZ
 unfold I5 at M
 refine gE.2 ?_
 exact gV M gU S
theorem alU {w0 : World} {c : Cx} {g h : AH} {E R : Value → W} {r : Int} {N : Nat} {x0 : List Int} {y3 x1 : Int} {bw : Value} {k2 : Value → W} {cq : Int → Option Int} {ez : AH} (M : DQ N x0 y3 x1 cq = some r) (S : Sep c g h []) (cb : ae (rI .i64) 1 g bw x0) (gU : Sub ez g) (gV : ∀ {aq : Int} {g2 h2 : AH}, cq aq = some r → Sub ez g2 → Sep c g2 h2 [] → k2 (vi aq) h2) (H : zJ c R r) : J0 w0 E R bw (vi y3) (vi x1) k2 h := by
 unfold J0
 unfold DQ at M
 obtain ⟨eW, j5, M⟩ := bind_some M
 refine ae.idx cb j5 (fun wz CB vs Ir sf rp => ?_)
 cases rp
 refine S.fQ (sf 0 _ rfl) ?_
 refine cI.2 ?_
 refine bp (fun hc => ?_) (fun hc => ?_)
 · have M := aR hc M
   cases M
   exact H _ _  S.bj
 · have M := aS hc M
   exact alT M S gU gV H
theorem alV {w0 : World} {c : Cx} {g h : AH} {E R : Value → W} {r : Int} {N : Nat}   (M : I6 N  = some r) (S : Sep c g h [])   (H : zJ c R r) : JY w0 E R  h := by
 unfold JY
 unfold I6 at M
 cases M
 exact H _ _  S.bj
theorem alW {w0 : World} {c : Cx} {g h : AH} {E R : Value → W} {r : Int} {N : Nat} {v1 : Int} {x0 : List Int} {x1 y3 : Int} {bw : Value} {k2 : Value → W} {cq : Int → Option Int} {ez : AH} (M : RW N v1 x0 x1 y3 cq = some r) (S : Sep c g h []) (cb : ae (rI .i64) 1 g bw x0) (gU : Sub ez g) (gV : ∀ {aq : Int} {g2 h2 : AH}, cq aq = some r → Sub ez g2 → Sep c g2 h2 [] → k2 (vi aq) h2) (H : zJ c R r) : EM w0 E R (vi v1) bw (vi x1) k2 (vi y3) h := by
 unfold EM
 unfold RW at M
 refine fW.2 ?_
 refine bp (fun hc => ?_) (fun hc => ?_)
 · have M := aR hc M
   exact alU M S cb gU gV H
 · have M := aS hc M
   exact alV M S  H
theorem alX {w0 : World} {c : Cx} {E R : Value → W} {r : Int} {N : Nat} {v1 : Int} {x0 : List Int} {x1 : Int} {bw : Value}   (H : zJ c R r) : ∀ (n : Nat) {y3 : Int} {g h : AH}, DT N v1 x0 x1 n y3 = some r → Sep c g h [] → ae (rI .i64) 1 g bw x0 → gG (α := Value) (fun k a => EM w0 E R (vi v1) bw (vi x1) k a) n (vi y3) h := by
 intro n
 induction n with
 | zero =>
  intro y3  g h M S cb
  unfold DT at M; cases M
 | succ n ih =>
  intro y3  g h M S cb
  exact alW M S cb  (Sub.refl g) (fun M2 sub S2  => ih M2 S2 (ae.mono cb (ig .i64) sub) ) H
theorem alY {w0 : World} {g h : AH} {Q : CR → AH → Prop} {r : Int} {N : Nat} {x0 : List Int} {x1 : Int} {bw : Value} (M : DU N x0 x1 = some r) (sg : Sub g h) (ok : h.Ok) (cb : ae (rI .i64) 1 g bw x0) (H : zJ ⟨g, h, []⟩ (fun v => Q (.ret v)) r) : WF PP w0 J2 [bw, (vi x1)] h Q := by
 refine abY _ _ ?_
 have S := Sep.start sg ok
 unfold Tg
 unfold DU at M
 refine cb.len ?_
 exact ⟨N, alX  H _ M S cb ⟩
def DV (N : Nat) (x0 : List Int) (x1 : Int) : Option Bool :=
(DU N x0 x1).bind fun eW =>
 some (decide (0 ≤ eW))
abbrev alZ (c : Cx) (R : Value → W) (r : Bool) : Prop := ∀ (g' h' : AH), Sep c g' h' [] → R (.bool r) h'
theorem al0 {w0 : World} {g h : AH} {Q : CR → AH → Prop} {r : Bool} {N : Nat} {x0 : List Int} {x1 : Int} {bw : Value} (M : DV N x0 x1 = some r) (sg : Sub g h) (ok : h.Ok) (cb : ae (rI .i64) 1 g bw x0) (H : alZ ⟨g, h, []⟩ (fun v => Q (.ret v)) r) : WF PP w0 J3 [bw, (vi x1)] h Q := by
 refine ab0 _ _ ?_
 have S := Sep.start sg ok
 unfold Th
 unfold DV at M
 obtain ⟨eW, j5, M⟩ := bind_some M
 refine alY j5 S.sub S.ok cb (fun _ h  S1  => ?_)
 have S := S.bY S1
 refine oV.2 ?_
 cases M
 exact H _ _  S.bj
end
end Go.Ve.T
namespace Go.Ve
open Go.RowKit
noncomputable section
section
variable {h : AH} {R : Value → AH → Prop}
end
end
end Go.Ve
namespace Go.Ve.T
open Go.Ve Go.Proofs
noncomputable section
set_option maxRecDepth 10000
section
variable {w0 : World} {g h : AH} {Q : CR → AH → Prop}
abbrev aa5 : Int × Int → List Value := fun p => [vi p.1, vi p.2]
def uB (N : Nat) (x0 : al) (x1 : Int) : Option (List (Int × Int)) :=
 (ix x0.ab x1).bind fun i =>
 (wq N i).bind fun ps =>
 gu (decide (ps.length ≤ 1000)) (
 (zr N x0 x1).bind fun q =>
 let l := (bif !(cU i.aJ).iZ && decide (bt .i64 (x1 + 1) < (x0.ab.length : Int)) then [(bt .i64 (x1 + 1), 0)] else []) ++ ps.map (fun p => (p, 1))
 bif (cU i.aJ).jr && decide (0 ≤ q) then (ix x0.aI q).bind fun d => some (l ++ [(d.dJ, 2)]) else some l)
abbrev Jm (u : al) (w1 w2 : Value) : List Value := [.string u.aE, .string u.aG, vi u.fArgs, vi u.aC, vi u.aD, w1, w2]
theorem am0 (N : Nat) (u : al) (at_ : Int) (w1 w2 : Value) (bu ba : Nat) {l : List (Int × Int)} (r1 : g.bU bu 0 (Jm u w1 w2)) (r2 : g.bU ba 0 [vi at_]) (F1 : ae ak.rep 4 g w1 u.ab) (F2 : ae aH.rep 3 g w2 u.aI) (M : uB N u at_ = some l) :
 sd PP w0 g (.func (.func EI) ⟨[]⟩ ⟨[az bu 0, az ba 0]⟩) aa5 l := by
 refine ⟨rfl, _, [], [az bu 0, az ba 0], rfl, fun yv Inv Stop Q g1 h xk hK hI step I0 fin stop => ?_⟩
 unfold uB at M
 obtain ⟨i, hi, M⟩ := bind_some M
 obtain ⟨ps, fy, M⟩ := bind_some M
 obtain ⟨am1, M⟩ := mD M
 rw [decide_eq_true_eq] at am1
 obtain ⟨q, hq, M⟩ := bind_some M
 have r1 := xk.bU r1
 have r2 := xk.bU r2
 have F1 := F1.mono ak.mono xk
 have F2 := F2.mono aH.mono xk
 clear xk
 generalize g1 = g at *
 show WF PP w0 EI [yv, az bu 0, az ba 0] h Q
 have go : ∀ {g h : AH} {k : Nat}, Inv k g h → Sep ⟨g, h, []⟩ g h [] := fun hh => Sep.start (hI _ _ _ hh).1 (hI _ _ _ hh).2
 refine abO _ _ _ ?_
 unfold Ta
 have S := go I0
 refine bg.2 ?_
 refine S.fQ (r1 5 _ rfl) ?_
 refine S.fQ (r2 0 _ rfl) ?_
 refine ae.idx F1 hi (fun b o vs E rr rp => ?_)
 cases rp
 refine S.nA rr rfl (by decide) ?_
 refine S.alloc (l := [vi 0, vi 0, vi 0, vi 0]) rfl (fun b6 h S => ?_)
 refine S.cZ [vi i.aJ, vi i.fA, vi i.fB, vi i.fC] [vi i.aJ, vi i.fA, vi i.fB, vi i.fC] rfl rfl rfl (Nat.le_of_ble_eq_true rfl) rfl (fun h S => ?_)
 refine bg.2 ?_
 refine S.aX 0 rfl rfl ?_
 refine zb (M := rfl) (sg := S.sub) (ok := S.ok) (H := fun _ h S1 => ?_)
 have S := S.bY S1
 refine (fH rfl).2 ?_
 refine (fH rfl).2 ?_
 generalize hf : cU i.aJ = f at *
 refine S.alloc (l := [.string ⟨⟨[]⟩⟩, vi 0, vi 0, vi 0, vi 0, vi 0, vi 0, .bool false, .bool false]) rfl (fun b13 h S => ?_)
 refine S.cZ f.cells f.cells rfl rfl rfl (Nat.le_of_ble_eq_true rfl) rfl (fun h S => ?_)
 obtain ⟨g2, sg, S, zO⟩ := S.yX
 obtain ⟨g3, zP, S, r6⟩ := S.yX
 have I1 := hK _ _ _ _ _ I0 S
 have zO := zP.bU zO
 have sg := sg.trans zP
 have r1 := sg.bU r1
 have r2 := sg.bU r2
 have F1 := F1.mono ak.mono sg
 have F2 := F2.mono aH.mono sg
 have fin : ∀ v g' h', Sub g3 g' → Inv l.length g' h' → Q (.ret v) h' := fun v g' h' s => fin v g' h' (sg.trans s)
 clear I0 S S1 sg zP
 have last : ∀ (g h : AH) (l0 : List (Int × Int)), Sub g3 g → Inv l0.length g h → (bif f.jr && decide (0 ≤ q) then (ix u.aI q).bind fun d => some (l0 ++ [(d.dJ, 2)]) else some l0) = some l →
  JK w0 (fun v h => Q (.aP v) h) (fun v h => Q (.ret v) h) (az bu 0) (az ba 0) (az b13 0) yv h := by
  intro g h l0 s3 Ik M
  have S0 := go Ik
  have r1 := s3.bU r1
  have zO := s3.bU zO
  have F2 := F2.mono aH.mono s3
  unfold JK
  refine S0.nA (l := Jm u w1 w2) r1 rfl (by decide) ?_
  refine S0.fQ (s3.bU r2 0 _ rfl) ?_
  refine ZT hq S0.sub S0.ok (F1.mono ak.mono s3) F2 (fun _ h1 S1 => ?_)
  have S2 := S0.bY S1
  have Ik := hK _ _ _ _ _ Ik S2
  refine bg.2 ?_
  refine S2.fQ (zO 7 _ rfl) ?_
  cases hr : f.jr with
  | false =>
   rw [hr] at M
   cases M
   refine ay (by decide) ?_
   refine ay (by decide) ?_
   refine bf.2 ?_
   unfold JJ
   refine wk ?_
   exact fin _ _ _ s3 Ik
  | true =>
   rw [hr, Bool.true_and] at M
   refine ax rfl ?_
   refine ax rfl ?_
   refine oV.2 ?_
   refine bf.2 ?_
   unfold JJ
   cases h0 : decide (0 ≤ q) with
   | false =>
    rw [h0] at M
    cases M
    refine wk ?_
    exact fin _ _ _ s3 Ik
   | true =>
    rw [h0] at M
    obtain ⟨d, hd, M⟩ := bind_some (aR rfl M)
    cases M
    refine Il ?_
    refine bg.2 ?_
    refine S2.fQ (r1 6 _ rfl) ?_
    refine ae.idx F2 hd (fun b o vs E rr rp => ?_)
    cases rp
    refine bg.2 ?_
    refine S2.fQ (rr 2 _ rfl) ?_
    refine step l0.length (d.dJ, 2) g h1 _ _ (by simp) Ik (fun g2 h2 sb I2 => ?_) (fun h2 s2 => stop _ _ s2)
    refine fin _ _ _ (s3.trans sb) ?_
    simpa using I2
 have mid : ∀ (g h : AH) (l0 : List (Int × Int)), Sub g3 g → Inv l0.length g h → (bif f.jr && decide (0 ≤ q) then (ix u.aI q).bind fun d => some (l0 ++ ps.map (fun p => (p, 1)) ++ [(d.dJ, 2)]) else some (l0 ++ ps.map (fun p => (p, 1)))) = some l →
  JL w0 (fun v h => Q (.aP v) h) (fun v h => Q (.ret v) h) (az b6 0) yv (az bu 0) (az ba 0) (az b13 0) h := by
  intro g h l0 s3 Ik M
  have S0 := go Ik
  have pre : ∃ m, l = l0 ++ ps.map (fun p => (p, 1)) ++ m := by
   cases hc : f.jr && decide (0 ≤ q) with
   | true => rw [hc] at M; obtain ⟨d, _, M⟩ := bind_some (aR rfl M); cases M; exact ⟨_, rfl⟩
   | false => rw [hc] at M; cases M; exact ⟨[], by simp⟩
  obtain ⟨m, hl⟩ := pre
  have am2 : ∀ k p, ps[k]? = some p → l[l0.length + k]? = some (p, 1) := fun k p hp => by
   have hk : k < ps.length := (List.getElem?_eq_some_iff.1 hp).1
   rw [hl, List.getElem?_append_left (by simp; omega), List.getElem?_append_right (by omega), Nat.add_sub_cancel_left, List.getElem?_map, hp]; rfl
  unfold JL
  refine S0.nA (l := [vi i.aJ, vi i.fA, vi i.fB, vi i.fC]) (s3.bU r6) rfl (by decide) ?_
  refine Zx fy S0.sub S0.ok (fun g1 h1 v30 S1 F3 => ?_)
  have S2 := S0.call S1
  have Ik := hK _ _ _ _ _ Ik S2
  refine F3.len ?_
  refine agR (fun v h' => ∃ (k : Nat) (g' : AH), v = vi k ∧ k ≤ ps.length ∧ Sub g1 g' ∧ Inv (l0.length + k) g' h') (fun v _ => match v with | .int _ n => (ps.length - n).toNat | _ => 0) ?_ ⟨0, g1, rfl, Nat.zero_le _, .refl _, Ik⟩
  rintro v h' kk ⟨k, g', rfl, hk, sb, Ik⟩ hkk
  unfold S9
  refine fW.2 ?_
  by_cases bW : k < ps.length
  · rw [decide_eq_true (show (k : Int) < (ps.length : Int) by omega)]
    refine Il ?_
    unfold S8
    have F3' := F3.mono (ig .i64) sb
    refine ae.idx F3' (x := ps[k]) (by rw [kS]; exact List.getElem?_eq_getElem bW) (fun b o vs E rr rp => ?_)
    cases rp
    have S3 := go Ik
    refine S3.fQ (rr 0 _ rfl) ?_
    refine step (l0.length + k) (ps[k], 1) g' h' _ _ (am2 k _ (List.getElem?_eq_getElem bW)) Ik (fun g2 h2 Sk I2 => ?_) (fun h2 s2 => ?_)
    · refine ec.2 ?_
      refine wk ?_
      unfold S7
      refine gE.2 ?_
      rw [oU (by omega) (by omega)]
      refine hkk _ _ ⟨k + 1, g2, by simp, bW, sb.trans Sk, by rw [← Nat.add_assoc]; exact I2⟩ ?_
      show ((ps.length : Int) - ((k : Int) + 1)).toNat < ((ps.length : Int) - (k : Int)).toNat
      omega
    · refine ec.2 ?_
      refine Il ?_
      exact stop _ _ s2
  · rw [decide_eq_false (show ¬ (k : Int) < (ps.length : Int) by omega)]
    refine wk ?_
    have e : k = ps.length := by omega
    subst e
    refine last g' h' (l0 ++ ps.map (fun p => (p, 1))) ((s3.trans S1.bX).trans sb) ?_ M
    simpa using Ik
 refine bg.2 ?_
 have S := go I1
 refine S.fQ (zO 8 _ rfl) ?_
 refine ec.2 ?_
 cases he : f.iZ with
 | true =>
  rw [he] at M
  refine ay (by decide) ?_
  refine ay (by decide) ?_
  refine ay (by decide) ?_
  refine ay (by decide) ?_
  refine ay (by decide) ?_
  refine ay (by decide) ?_
  refine bf.2 ?_
  unfold JM
  refine ay (by decide) ?_
  refine ay (by decide) ?_
  refine ay (by decide) ?_
  refine ay (by decide) ?_
  refine ay (by decide) ?_
  refine bf.2 ?_
  unfold zT
  refine wk ?_
  exact mid g3 h [] (.refl _) I1 M
 | false =>
  rw [he] at M
  refine ax rfl ?_
  refine S.fQ (r2 0 _ rfl) ?_
  refine ax rfl ?_
  refine gE.2 ?_
  refine ax rfl ?_
  refine bg.2 ?_
  refine ax rfl ?_
  refine S.fQ (r1 5 _ rfl) ?_
  refine ax rfl ?_
  refine F1.len ?_
  refine ax rfl ?_
  refine fW.2 ?_
  refine bf.2 ?_
  unfold JM
  cases hn : decide (bt .i64 (at_ + 1) < (u.ab.length : Int)) with
  | false =>
   rw [hn] at M
   refine ay (by decide) ?_
   refine ay (by decide) ?_
   refine ay (by decide) ?_
   refine ay (by decide) ?_
   refine ay (by decide) ?_
   refine bf.2 ?_
   unfold zT
   refine wk ?_
   exact mid g3 h [] (.refl _) I1 M
  | true =>
   rw [hn] at M
   refine ax rfl ?_
   refine ax rfl ?_
   refine S.fQ (r2 0 _ rfl) ?_
   refine ax rfl ?_
   refine gE.2 ?_
   refine ax rfl ?_
   have h0 : l[0]? = some (bt .i64 (at_ + 1), 0) := by
    cases hc : f.jr && decide (0 ≤ q) with
    | true => rw [hc] at M; obtain ⟨d, _, M⟩ := bind_some (aR rfl M); cases M; rfl
    | false => rw [hc] at M; cases M; rfl
   refine step 0 (bt .i64 (at_ + 1), 0) g3 h _ _ h0 I1 (fun g2 h2 Sk I2 => ?_) (fun h2 s2 => ?_)
   · refine ax rfl ?_
     refine ec.2 ?_
     refine bf.2 ?_
     unfold zT
     refine wk ?_
     exact mid g2 h2 [(bt .i64 (at_ + 1), 0)] Sk I2 M
   · refine ax rfl ?_
     refine ec.2 ?_
     refine bf.2 ?_
     unfold zT
     refine Il ?_
     exact stop _ _ s2
theorem RY {r : List (Int × Int)} (N : Nat) (x0 : al) (x1 : Int) (bN bO : Value) (sg : Sub g h) (ok : h.Ok) (bL : ae ak.rep 4 g bN x0.ab) (bS : ae aH.rep 3 g bO x0.aI) (M : uB N x0 x1 = some r)
 (H : ∀ (g' h' : AH) (w1 : Value), Sep ⟨g, h, []⟩ g' h' [] → sd PP w0 g' w1 aa5 r → Q (.ret w1) h') : WF PP w0 zV [.agg ⟨Jm x0 bN bO⟩, vi x1] h Q := by
 have S := Sep.start sg ok
 refine abQ _ _ ?_
 unfold Tb
 refine S.box (Jm x0 bN bO) rfl (aa rfl (aa rfl (aa rfl (aa rfl (aa rfl (aa bL.one (aa bS.one rfl))))))) (fun b1 h S => ?_)
 refine S.box [vi x1] rfl rfl (fun b2 h S => ?_)
 refine (He (by simp)).2 ?_
 obtain ⟨g2, Ij, S, r2⟩ := S.yX
 obtain ⟨g3, sg3, S, r1⟩ := S.yX
 have zP := Ij.trans sg3
 exact H g3 h _ S (am0 N x0 x1 bN bO b1 b2 r1 (sg3.bU r2) (bL.mono ak.mono zP) (bS.mono aH.mono zP) M)
end
end
end Go.Ve.T
